/- Scenes: comparing, marks. -/
import Derived.Test.YtljlhbgkmkdphaaMark
namespace Go.Proofs.Ytljlhbgkmkdphaa
open Go.Aw
set_option maxRecDepth 100000

theorem eqScene_spec (e e' : Int) (m m' : List (List Int)) (s s' : List Int) (hm : m.length ≤ 9223372036854775807) (hr : ∀ r, r ∈ m → r.length ≤ 9223372036854775807) (hs : s.length ≤ 9223372036854775807) :
    FSpec Try.prog 25 [.ag [.c (.int .i64 e), .t (.rows m), .t (.ints .i64 s)], .ag [.c (.int .i64 e'), .t (.rows m'), .t (.ints .i64 s')]] (ex (.c (.bool (decide (e = e' ∧ m = m' ∧ s = s')))) []) := by
  refine fspec tyOk mx Try.func25 rfl (by kernel_rfl) rfl ?_
  conv => whnf
  refine ⟨fun h => ?_, fun h => ?_⟩
  · conv => whnf
    refine ⟨?_, rfl⟩
    rw [decide_eq_false]
    rintro ⟨rfl, _, _⟩
    simp at h
  · simp only [bne_eq_false_iff_eq] at h
    subst h
    conv => whnf
    refine ACall.use (eqIntSS_spec m m' hm hr) ?_
    refine ⟨fun h => ?_, fun h => ?_⟩
    · conv => whnf
      refine ⟨?_, rfl⟩
      rw [decide_eq_false]
      rintro ⟨_, rfl, _⟩
      simp at h
    · simp only [Bool.not_eq_false', decide_eq_true_eq] at h
      subst h
      conv => whnf
      refine ACall.use (eqIntS_spec s s' hs) ?_
      refine ⟨fun h => ?_, fun h => ?_⟩
      · conv => whnf
        refine ⟨?_, rfl⟩
        rw [decide_eq_false]
        rintro ⟨_, _, rfl⟩
        simp at h
      · simp only [Bool.not_eq_false', decide_eq_true_eq] at h
        subst h
        conv => whnf
        refine ⟨?_, rfl⟩
        simp

theorem heldScene_spec (e k : Int) (m : List (List Int)) (n : Nat) (h0 : 0 ≤ k) (h1 : k ≤ 1099511627776) (h2 : m.length ≤ 1099511627776) (h3 : tot m ≤ 1099511627776) (h4 : n ≤ 1099511627776) :
    FSpec Try.prog 34 [.ag [.c (.int .i64 e), .t (.rows (marksR k m)), .t (.ints .i64 (marks (k + tot m) n))], .c (.int .i64 k)] (ex (.c (.int .i64 (k + tot m + n))) []) := by
  refine fspec tyOk mx Try.func34 rfl (by kernel_rfl) rfl ?_
  conv => whnf
  refine ACall.use (heldIntSS_spec m k h0 h1 h2 h3) ?_
  refine ⟨fun h => ?_, fun h => ?_⟩
  · have := of_decide_eq_true h
    omega
  · conv => whnf
    refine ACall.use (heldIntS_spec n (k + tot m) (by omega) (by omega) h4) ?_
    refine ⟨fun h => ?_, fun h => ?_⟩
    · have := of_decide_eq_true h
      omega
    · conv => whnf
      exact ⟨rfl, rfl⟩
end Go.Proofs.Ytljlhbgkmkdphaa
