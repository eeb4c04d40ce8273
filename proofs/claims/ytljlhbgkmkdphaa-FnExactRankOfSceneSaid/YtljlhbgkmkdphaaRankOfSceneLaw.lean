/- FnExactRankOfScene: the program's RankOfScene returns what the reference's returns, for all arguments. -/
import Derived.Test.YtljlhbgkmkdphaaRankOfSceneSpec
import Derived.Test.YtljlhbgkmkdphaaLift2
namespace Go.Proofs.Ytljlhbgkmkdphaa
open Go.Aw Go.ChangeShapes Go.WideShapes Go.ChangeAt Go.RowKit
set_option maxRecDepth 100000 in
theorem FnExactRankOfScene_lifted (os : Os) (started : os.Started) (H : Type) (enc : TypeId × Value → H) :
    ReturnsInHanded {} Try.checked os 5 .any (Rows.fnExactRankOfSceneSpec.pre6 enc Try.prog Try.f5 Rows.fnExactRankOfSceneRow.domain false) (Rows.fnExactRankOfSceneSpec.post enc Try.prog Try.f5 false true false false) := by
  refine returnsInHanded_of_change (C := Try.checked) own started (by kernel_rfl) Try.func5
    (ChangeSpec.witness6 (enc := enc) (C := Try.checked) false ⟨#[], #[.agg #[.int .i64 0, .slice none 0 0, .slice none 0 0]], []⟩ 8 (by kernel_rfl) (by kernel_rfl) (by kernel_rfl) (by kernel_rfl)) ?_
  intro W base args ds gs before hval0 hW hcnd _
  have hval : ∀ (j : Nat) t v, Try.f5.params[j]? = some t → args[j]? = some v → Value.okWide Try.prog W .any base t v := hval0
  have hW' := hW
  obtain ⟨p, q, hA0, hV, rfl, _, _⟩ := hW
  have hA : DataW.TrodAll enc Try.prog W 0 (fun _ => true) true Try.f5.params.toList args.toList ds p := hA0
  rw [Try.params5] at hA hval
  obtain ⟨v0, d0, rfl, rfl, h0⟩ := trodAll_one hA
  obtain ⟨a0x, a0y, a0z, b0x, b0y, b0z, r0⟩ := arg_scene Try.underlying32 (by kernel_rfl) (by kernel_rfl) rfl rfl rfl Try.underlying3 Try.underlying30 Try.underlying22 (by kernel_rfl) (by kernel_rfl) (hval 0 32 v0 rfl rfl) h0
  refine (FSpec.law (FnExactRankOfScene_spec a0x a0y a0z b0x b0y b0z) (vs := [v0]) ⟨r0, trivial⟩).mono ?_
  rintro e W' ⟨rfl, hb⟩
  exact ⟨_, rfl, law_post laidOut (tb := 4) rfl hW' rfl (by kernel_rfl) (by kernel_rfl) rfl rfl rfl hb⟩

theorem FnExactRankOfScene_holds : Rows.FnExactRankOfSceneSaid :=
  OpenClaim.holds_of_wide 5 Try.f5 rfl rfl rfl rfl rfl rfl rfl ⟨rfl, rfl, rfl, rfl, rfl⟩ rfl rfl rfl rfl rfl (by kernel_rfl) Try.func5 (by kernel_rfl)
    (of_decide_eq_true (by kernel_rfl)) (by unfold Func.isWrapper; first | (rw [if_pos (by decide +kernel)]; kernel_rfl) | (rw [if_neg (by decide +kernel)]; exact ⟨rfl, rfl⟩))
    (fun os started H enc _ => FnExactRankOfScene_lifted os started H enc)
#print axioms FnExactRankOfScene_holds
end Go.Proofs.Ytljlhbgkmkdphaa
