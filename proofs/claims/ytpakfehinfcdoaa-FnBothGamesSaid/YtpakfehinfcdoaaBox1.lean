/- Which boxes are valid: reference and program. -/
import Derived.Test.YtpakfehinfcdoaaSizes
namespace Go.Proofs.Ytpakfehinfcdoaa
open Go.Aw
set_option maxRecDepth 100000
set_option maxHeartbeats 4000000

def rowOk (z : Int) (r : List Int) : Bool := decide (r.length = 4) && rowIn r 0 z && decide (sumF r r.length = z)
def goodB (x y z : Int) (m : List (List Int)) : Bool := szOk x y && inR z 1 1000 && decide ((m.length : Int) = x * y) && m.all (rowOk z)

theorem goodB_spec {x y z : Int} {m : List (List Int)} (h : goodB x y z m = true) : ∃ a b : Nat, x = a ∧ y = b ∧ 1 ≤ a ∧ a ≤ 3 ∧ 1 ≤ b ∧ b ≤ 3 ∧ 1 ≤ z ∧ z ≤ 1000 ∧ m.length = a * b ∧ a * b ≤ 9 ∧
    (∀ r, r ∈ m → r.length = 4 ∧ (∀ v, v ∈ r → 0 ≤ v ∧ v ≤ z) ∧ sumF r r.length = z) := by
  simp only [goodB, Bool.and_eq_true, decide_eq_true_eq, List.all_eq_true, rowOk, rowIn_iff, inR_iff] at h
  obtain ⟨⟨⟨h1, h2⟩, h3⟩, h4⟩ := h
  obtain ⟨a, b, rfl, rfl, g1, g2, g3, g4, g5, g6⟩ := szOk_nat h1
  rw [g5] at h3
  exact ⟨a, b, rfl, rfl, g1, g2, g3, g4, h2.1, h2.2, by omega, g6, fun r hr => by obtain ⟨⟨q1, q2⟩, q3⟩ := h4 r hr; exact ⟨q1, q2, q3⟩⟩


end Go.Proofs.Ytpakfehinfcdoaa
