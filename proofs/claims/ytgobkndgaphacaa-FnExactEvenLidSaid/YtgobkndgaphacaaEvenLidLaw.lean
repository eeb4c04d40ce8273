/- FnExactEvenLid: the program's EvenLid returns what the reference's returns, for all arguments. -/
import Derived.Test.YtgobkndgaphacaaEvenLidSpec
import Derived.Test.YtgobkndgaphacaaLift2
namespace Go.Proofs.Ytgobkndgaphacaa
open Go.Aw Go.ChangeShapes Go.WideShapes Go.ChangeAt Go.RowKit
set_option maxRecDepth 100000 in
theorem FnExactEvenLid_lifted (os : Os) (started : os.Started) (H : Type) (enc : TypeId × Value → H) :
    ReturnsInHanded {} Try.checked os 7 .any (Rows.fnExactEvenLidSpec.pre6 enc Try.prog Try.f7 Rows.fnExactEvenLidRow.domain false) (Rows.fnExactEvenLidSpec.post enc Try.prog Try.f7 false true false false) := by
  refine returnsInHanded_of_change (C := Try.checked) own started (by kernel_rfl) Try.func7
    (ChangeSpec.witness6 (enc := enc) (C := Try.checked) false ⟨#[], #[.slice none 0 0, .int .i64 0], []⟩ 8 (by kernel_rfl) (by kernel_rfl) (by kernel_rfl) (by kernel_rfl)) ?_
  intro W base args ds gs before hval0 hW hcnd _
  have hval : ∀ (j : Nat) t v, Try.f7.params[j]? = some t → args[j]? = some v → Value.okWide Try.prog W .any base t v := hval0
  have hW' := hW
  obtain ⟨p, q, hA0, hV, rfl, _, _⟩ := hW
  have hA : DataW.TrodAll enc Try.prog W 0 (fun _ => true) true Try.f7.params.toList args.toList ds p := hA0
  rw [Try.params7] at hA hval
  obtain ⟨v0, v1, d0, d1, p0, p1, rfl, rfl, rfl, h0, h1⟩ := trodAll_two hA
  obtain ⟨a0x, b0x, r0⟩ := arg_rows Try.underlying22 Try.underlying33 Try.underlying3 (by kernel_rfl) (by kernel_rfl) (hval 0 22 v0 rfl rfl) h0
  obtain ⟨a1x, b1x, r1⟩ := arg_int Try.underlying3 (hval 1 3 v1 rfl rfl) h1
  refine (FSpec.law (FnExactEvenLid_spec a0x b0x a1x b1x) (vs := [v0, v1]) ⟨r0, r1, trivial⟩).mono ?_
  rintro e W' ⟨rfl, hb⟩
  exact ⟨_, rfl, law_post laidOut (tb := 4) rfl hW' rfl (by kernel_rfl) (by kernel_rfl) rfl rfl rfl hb⟩

theorem FnExactEvenLid_holds : Rows.FnExactEvenLidSaid :=
  OpenClaim.holds_of_wide 7 Try.f7 rfl rfl rfl rfl rfl rfl rfl ⟨rfl, rfl, rfl, rfl, rfl⟩ rfl rfl rfl rfl rfl (by kernel_rfl) Try.func7 (by kernel_rfl)
    (of_decide_eq_true (by kernel_rfl)) (by unfold Func.isWrapper; first | (rw [if_pos (by decide +kernel)]; kernel_rfl) | (rw [if_neg (by decide +kernel)]; exact ⟨rfl, rfl⟩))
    (fun os started H enc _ => FnExactEvenLid_lifted os started H enc)
#print axioms FnExactEvenLid_holds
end Go.Proofs.Ytgobkndgaphacaa
