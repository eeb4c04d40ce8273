/- Signs and sums. -/
import Derived.Test.YtgobkndgaphacaaSign1
namespace Go.Proofs.Ytgobkndgaphacaa
open Go.Aw

def sg (n code i : Nat) : Int := W (W (2 * bits .and .i64 (shr .i64 code ((n : Int) - 1 - i)) 1) - 1)
def sgRow (n code : Nat) : List Int := (List.range n).map (sg n code)
def signsL (n : Nat) : List (List Int) := (List.range (2 ^ n)).map (sgRow n)

theorem goodM_spec {m : List (List Int)} (h : goodM m = true) : 1 ≤ m.length ∧ m.length ≤ 3 ∧ 1 ≤ (m.getD 0 []).length ∧ (m.getD 0 []).length ≤ 3 ∧ (∀ r, r ∈ m → r.length = (m.getD 0 []).length ∧ ∀ x, x ∈ r → -9 ≤ x ∧ x ≤ 9) := by
  simp only [goodM, inR, rowIn, Bool.and_eq_true, decide_eq_true_eq, List.all_eq_true] at h
  obtain ⟨⟨h1, h2⟩, h3⟩ := h
  have h0 : m.getD 0 [] ∈ m := getD_mem (by omega)
  have := h3 _ h0
  exact ⟨by omega, by omega, by omega, by omega, fun r hr => ⟨(h3 r hr).1.2, (h3 r hr).2⟩⟩

end Go.Proofs.Ytgobkndgaphacaa
