/- Games as arguments: sizes, copies, comparing, marks. -/
import Derived.Test.YtpakfehinfcdoaaMark
namespace Go.Proofs.Ytpakfehinfcdoaa
open Go.Aw
set_option maxRecDepth 100000

def szGameF (s : List Int) (m : List (List Int)) (left : Int) : Int := if szS s left < 0 then -1 else if szSS m (szS s left) < 0 then -1 else szSS m (szS s left)
theorem szGame_tot {m : List (List Int)} {s : List Int} {left : Int} (h : 0 ≤ szGameF s m left) : 0 ≤ szGameF s m left ∧ szGameF s m left = left - s.length - m.length - tot m := by
  refine ⟨h, ?_⟩
  unfold szGameF at h ⊢
  split at h
  · omega
  · rename_i hn
    rw [if_neg hn]
    split at h
    · omega
    · rename_i hn2
      rw [if_neg hn2, (szSS_tot (Int.not_lt.1 hn2)).2]
      have : szS s left = left - s.length := by
        unfold szS at hn ⊢
        split at hn
        · omega
        · rename_i h4; rw [if_neg h4]
      omega


end Go.Proofs.Ytpakfehinfcdoaa
