/- FnExactQuietValue: the program's QuietValue returns what the reference's returns, for all arguments. -/
import Derived.Test.YtgefdbihdliolaaQuietValueSpec
import Derived.Test.YtgefdbihdliolaaLift2
namespace Go.Proofs.Ytgefdbihdliolaa
open Go.Aw Go.ChangeShapes Go.WideShapes Go.ChangeAt Go.RowKit
set_option maxRecDepth 100000 in
theorem FnExactQuietValue_lifted (os : Os) (started : os.Started) (H : Type) (enc : TypeId × Value → H) :
    ReturnsInHanded {} Try.checked os 12 .any (Rows.fnExactQuietValueSpec.pre6 enc Try.prog Try.f12 Rows.fnExactQuietValueRow.domain false) (Rows.fnExactQuietValueSpec.post enc Try.prog Try.f12 false true false false) := by
  refine returnsInHanded_of_change (C := Try.checked) own started (by kernel_rfl) Try.func12
    (ChangeSpec.witness6 (enc := enc) (C := Try.checked) false ⟨#[], #[.agg #[.int .i64 0, .int .i64 0, .slice none 0 0, .slice none 0 0]], []⟩ 8 (by kernel_rfl) (by kernel_rfl) (by kernel_rfl) (by kernel_rfl)) ?_
  intro W base args ds gs before hval0 hW hcnd _
  have hval : ∀ (j : Nat) t v, Try.f12.params[j]? = some t → args[j]? = some v → Value.okWide Try.prog W .any base t v := hval0
  have hW' := hW
  obtain ⟨p, q, hA0, hV, rfl, _, _⟩ := hW
  have hA : DataW.TrodAll enc Try.prog W 0 (fun _ => true) true Try.f12.params.toList args.toList ds p := hA0
  rw [Try.params12] at hA hval
  obtain ⟨v0, d0, rfl, rfl, h0⟩ := trodAll_one hA
  obtain ⟨a0x, a0y, a0z, a0w, b0x, b0y, b0z, b0w, r0⟩ := arg_game Try.underlying63 (by kernel_rfl) (by kernel_rfl) rfl rfl rfl rfl Try.underlying3 Try.underlying23 Try.underlying22 (by kernel_rfl) (by kernel_rfl) (hval 0 63 v0 rfl rfl) h0
  refine (FSpec.law (FnExactQuietValue_spec a0x a0y a0z a0w b0x b0y b0z b0w) (vs := [v0]) ⟨r0, trivial⟩).mono ?_
  rintro e W' ⟨rfl, hb⟩
  exact ⟨_, rfl, law_post laidOut (tb := 4) rfl hW' rfl (by kernel_rfl) (by kernel_rfl) rfl rfl rfl hb⟩

theorem FnExactQuietValue_holds : Rows.FnExactQuietValueSaid :=
  OpenClaim.holds_of_wide 12 Try.f12 rfl rfl rfl rfl rfl rfl rfl ⟨rfl, rfl, rfl, rfl, rfl⟩ rfl rfl rfl rfl rfl (by kernel_rfl) Try.func12 (by kernel_rfl)
    (of_decide_eq_true (by kernel_rfl)) (by unfold Func.isWrapper; first | (rw [if_pos (by decide +kernel)]; kernel_rfl) | (rw [if_neg (by decide +kernel)]; exact ⟨rfl, rfl⟩))
    (fun os started H enc _ => FnExactQuietValue_lifted os started H enc)
#print axioms FnExactQuietValue_holds
end Go.Proofs.Ytgefdbihdliolaa
