/- FnExactIsSignGame. -/
import Derived.Test.YtbgekpfhkjeflaaSign1
import Derived.Test.YtbgekpfhkjeflaaLift
namespace Go.Proofs.Ytbgekpfhkjeflaa
open Go.Aw Go.ChangeShapes Go.WideShapes Go.ChangeAt Go.RowKit

theorem FnExactIsSignGame_spec (m : List (List Int)) (hm : m.length ≤ 9223372036854775807) (hr : ∀ r, r ∈ m → r.length ≤ 9223372036854775807) :
    FSpec Try.prog 5 [.t (.rows m)] (ex (.c (.bool true)) []) := by
  refine fspec tyOk mx Try.func5 rfl (by kernel_rfl) rfl ?_
  conv => whnf
  refine ACall.use (szIntSS_spec m 1048576 (by omega) (by omega) hm hr) ?_
  refine ⟨fun h => ?_, fun h => ?_⟩
  · conv => whnf
    exact ⟨rfl, rfl⟩
  · have h1 := of_decide_eq_false h
    obtain ⟨h2, h3, _⟩ := szSS_pos (Int.not_lt.1 h1)
    have hm' : m.length ≤ 1048576 := by omega
    have hr' : ∀ r, r ∈ m → r.length ≤ 1048576 := fun r hr => by have := h3 r hr; omega
    conv => whnf
    refine ACall.use (toIntSS_spec m hm' hr') ?_
    conv => whnf
    refine ACall.use (IsSignGame_spec m hm hr) ?_
    conv => whnf
    refine ACall.use (toIntSS_spec m hm' hr') ?_
    conv => whnf
    refine ACall.use (iIsSignGame_spec m hm hr) ?_
    refine ⟨fun h => ?_, fun h => ?_⟩
    · simp at h
    · conv => whnf
      refine ACall.use (toIntSS_spec m hm' hr') ?_
      conv => whnf
      refine ACall.use (eqIntSS_spec m m hm hr) ?_
      refine ⟨fun h => ?_, fun h => ?_⟩
      · simp at h
      · conv => whnf
        exact ⟨rfl, rfl⟩

set_option maxRecDepth 100000 in
theorem FnExactIsSignGame_lifted (os : Os) (started : os.Started) (H : Type) (enc : TypeId × Value → H) :
    ReturnsInHanded {} Try.checked os 5 .any (Rows.fnExactIsSignGameSpec.pre6 enc Try.prog Try.f5 Rows.fnExactIsSignGameRow.domain false) (Rows.fnExactIsSignGameSpec.post enc Try.prog Try.f5 false true false false) := by
  refine returnsInHanded_of_change (C := Try.checked) own started (by kernel_rfl) Try.func5
    (ChangeSpec.witness6 (enc := enc) (C := Try.checked) false ⟨#[], #[.slice none 0 0], []⟩ 8 (by kernel_rfl) (by kernel_rfl) (by kernel_rfl) (by kernel_rfl)) ?_
  intro W base args ds gs before hval0 hW hcnd _
  have hval : ∀ (j : Nat) t v, Try.f5.params[j]? = some t → args[j]? = some v → Value.okWide Try.prog W .any base t v := hval0
  have hW' := hW
  obtain ⟨p, q, hA0, hV, rfl, _, _⟩ := hW
  have hA : DataW.TrodAll enc Try.prog W 0 (fun _ => true) true Try.f5.params.toList args.toList ds p := hA0
  rw [Try.params5] at hA hval
  obtain ⟨v0, d0, rfl, rfl, h0⟩ := trodAll_one hA
  obtain ⟨a0, n0, c0, rfl⟩ := okWide_slice Try.underlying22 (hval 0 22 v0 rfl rfl)
  obtain ⟨m, hm, hl, hr, _⟩ := rep_rows Try.underlying22 Try.underlying23 Try.underlying3 (by kernel_rfl) (by kernel_rfl) h0 (fun _ => False) (fun _ _ h => h)
  refine (FSpec.law (FnExactIsSignGame_spec m hl hr) (vs := [.slice a0 n0 c0]) ⟨hm, trivial⟩).mono ?_
  rintro e W' ⟨rfl, hb⟩
  exact ⟨_, rfl, law_post laidOut (tb := 4) rfl hW' rfl (by kernel_rfl) (by kernel_rfl) rfl rfl rfl hb⟩

theorem FnExactIsSignGame_holds : Rows.FnExactIsSignGameSaid :=
  OpenClaim.holds_of_wide 5 Try.f5 rfl rfl rfl rfl rfl rfl rfl ⟨rfl, rfl, rfl, rfl, rfl⟩ rfl rfl rfl rfl rfl (by kernel_rfl) Try.func5 (by kernel_rfl)
    (of_decide_eq_true (by kernel_rfl)) (by unfold Func.isWrapper; first | (rw [if_pos (by decide +kernel)]; kernel_rfl) | (rw [if_neg (by decide +kernel)]; exact ⟨rfl, rfl⟩))
    (fun os started H enc _ => FnExactIsSignGame_lifted os started H enc)

#print axioms FnExactIsSignGame_holds
end Go.Proofs.Ytbgekpfhkjeflaa
