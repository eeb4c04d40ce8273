/- SignBias, program and reference. -/
import Derived.Test.YtahllgjmjnipjaaSign7
namespace Go.Proofs.Ytahllgjmjnipjaa
open Go.Aw
set_option maxRecDepth 100000

def biasOf (m : List (List Int)) : Int := if goodM m then sumW m (bestR m) (bestP m) else 0
def bestRr (m : List (List Int)) : List Int := if goodM m then bestR m else []
def bestPr (m : List (List Int)) : List Int := if goodM m then bestP m else []

theorem best_pre {m : List (List Int)} (hg : goodM m = true) : m.length ≤ (bestR m).length ∧ (∀ r, r ∈ m → r.length ≤ (bestP m).length) ∧ (bestR m).length ≤ 1000 ∧ (bestP m).length ≤ 1000 := by
  have pR : 0 < (sgR m).length := by rw [sgR, signsL_len]; exact two_pow_pos _
  have pP : 0 < (sgP m).length := by rw [sgP, signsL_len]; exact two_pow_pos _
  have h := outI_lt (m := m) pR pP (sgR m).length (Nat.le_refl _)
  exact sum_pre hg h.1 h.2

theorem SignBias_i (m : List (List Int)) (hm : OkM m) (_km : SzM m) : FSpec Try.prog 13 [.t (.rows m)] (ex (.tu [.c (.int .i64 (biasOf m)), .c (.bool (goodM m))]) []) := by
  refine fspec tyOk mx Try.func13 rfl (by kernel_rfl) rfl ?_
  conv => whnf
  refine ACall.use (iIsSignGame_spec m hm.1 hm.len) ?_
  refine ⟨fun h => ?_, fun h => ?_⟩
  · have hg : goodM m = false := by simpa using h
    conv => whnf
    refine ⟨by rw [biasOf, hg]; rfl, rfl⟩
  · have hg : goodM m = true := by simpa using h
    conv => whnf
    refine ACall.use (bestSigns_spec m hg) ?_
    conv => whnf
    refine ⟨by rw [biasOf, hg]; rfl, rfl⟩

end Go.Proofs.Ytahllgjmjnipjaa
