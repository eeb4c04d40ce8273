/- FnExactIsLid: the program's IsLid returns what the reference's returns, for all arguments. -/
import Derived.Test.YtgobkndgaphacaaIsLidSpec
import Derived.Test.YtgobkndgaphacaaLift2
namespace Go.Proofs.Ytgobkndgaphacaa
open Go.Aw Go.ChangeShapes Go.WideShapes Go.ChangeAt Go.RowKit
set_option maxRecDepth 100000 in
theorem FnExactIsLid_lifted (os : Os) (started : os.Started) (H : Type) (enc : TypeId × Value → H) :
    ReturnsInHanded {} Try.checked os 6 .any (Rows.fnExactIsLidSpec.pre6 enc Try.prog Try.f6 Rows.fnExactIsLidRow.domain false) (Rows.fnExactIsLidSpec.post enc Try.prog Try.f6 false true false false) := by
  refine returnsInHanded_of_change (C := Try.checked) own started (by kernel_rfl) Try.func6
    (ChangeSpec.witness6 (enc := enc) (C := Try.checked) false ⟨#[], #[.slice none 0 0, .slice none 0 0, .int .i64 0], []⟩ 8 (by kernel_rfl) (by kernel_rfl) (by kernel_rfl) (by kernel_rfl)) ?_
  intro W base args ds gs before hval0 hW hcnd _
  have hval : ∀ (j : Nat) t v, Try.f6.params[j]? = some t → args[j]? = some v → Value.okWide Try.prog W .any base t v := hval0
  have hW' := hW
  obtain ⟨p, q, hA0, hV, rfl, _, _⟩ := hW
  have hA : DataW.TrodAll enc Try.prog W 0 (fun _ => true) true Try.f6.params.toList args.toList ds p := hA0
  rw [Try.params6] at hA hval
  obtain ⟨v0, v1, v2, d0, d1, d2, p0, p1, p2, rfl, rfl, rfl, h0, h1, h2⟩ := trodAll_three hA
  obtain ⟨a0x, b0x, r0⟩ := arg_rows Try.underlying22 Try.underlying33 Try.underlying3 (by kernel_rfl) (by kernel_rfl) (hval 0 22 v0 rfl rfl) h0
  obtain ⟨a1x, b1x, r1⟩ := arg_ints Try.underlying33 Try.underlying3 (by kernel_rfl) (hval 1 33 v1 rfl rfl) h1
  obtain ⟨a2x, b2x, r2⟩ := arg_int Try.underlying3 (hval 2 3 v2 rfl rfl) h2
  refine (FSpec.law (FnExactIsLid_spec a0x b0x a1x b1x a2x b2x) (vs := [v0, v1, v2]) ⟨r0, r1, r2, trivial⟩).mono ?_
  rintro e W' ⟨rfl, hb⟩
  exact ⟨_, rfl, law_post laidOut (tb := 4) rfl hW' rfl (by kernel_rfl) (by kernel_rfl) rfl rfl rfl hb⟩

theorem FnExactIsLid_holds : Rows.FnExactIsLidSaid :=
  OpenClaim.holds_of_wide 6 Try.f6 rfl rfl rfl rfl rfl rfl rfl ⟨rfl, rfl, rfl, rfl, rfl⟩ rfl rfl rfl rfl rfl (by kernel_rfl) Try.func6 (by kernel_rfl)
    (of_decide_eq_true (by kernel_rfl)) (by unfold Func.isWrapper; first | (rw [if_pos (by decide +kernel)]; kernel_rfl) | (rw [if_neg (by decide +kernel)]; exact ⟨rfl, rfl⟩))
    (fun os started H enc _ => FnExactIsLid_lifted os started H enc)
#print axioms FnExactIsLid_holds
end Go.Proofs.Ytgobkndgaphacaa
