/- Contracts of the leaves: sizes, copies, comparisons. -/
import Derived.Test.YtpakfehinfcdoaaBase
namespace Go.Proofs.Ytpakfehinfcdoaa
open Go.Aw

theorem getD_mem {α : Type} {l : List α} {d : α} {k : Nat} (h : k < l.length) : l.getD k d ∈ l := by
  rw [List.getD_eq_getElem?_getD, List.getElem?_eq_getElem h]; exact List.getElem_mem h

/-- the tail of a size reckoning -/
def szS (l : List Int) (left : Int) : Int := if left - l.length < 0 then -1 else left - l.length



theorem set_take {α : Type} (l : List α) (d z : α) (k : Nat) (h : k < l.length) :
    (l.take k ++ List.replicate (l.length - k) z).set k (l.getD k d) = l.take (k + 1) ++ List.replicate (l.length - (k + 1)) z := by
  rw [List.set_append_right _ _ (by simp; omega)]
  rw [List.length_take, Nat.min_eq_left (by omega), Nat.sub_self]
  rw [show l.length - k = (l.length - (k + 1)) + 1 by omega, List.replicate_succ, List.set_cons_zero, List.take_succ_eq_append_getElem h]
  rw [List.getD_eq_getElem?_getD, List.getElem?_eq_getElem h, List.append_assoc]
  rfl




def szGo : List (List Int) → Int → Int
  | [], left => left
  | r :: m, left => if left - r.length < 0 then -1 else szGo m (left - r.length)

def szSS (m : List (List Int)) (left : Int) : Int := if left - m.length < 0 then -1 else szGo m (left - m.length)

theorem szGo_pos : ∀ (m : List (List Int)) (left : Int), 0 ≤ left → 0 ≤ szGo m left → (∀ r, r ∈ m → (r.length : Int) ≤ left) ∧ szGo m left ≤ left
  | [], left, _, _ => ⟨by simp, Int.le_refl _⟩
  | r :: m, left, h0, h => by
    simp only [szGo] at h ⊢
    split at h
    · omega
    · rename_i hn
      rw [if_neg hn]
      obtain ⟨h1, h2⟩ := szGo_pos m _ (by omega) h
      refine ⟨fun r' hr => ?_, by omega⟩
      rcases List.mem_cons.1 hr with rfl | hr
      · omega
      · have := h1 r' hr; omega

theorem szSS_pos {m : List (List Int)} {left : Int} (h : 0 ≤ szSS m left) : (m.length : Int) ≤ left ∧ (∀ r, r ∈ m → (r.length : Int) ≤ left) ∧ szSS m left ≤ left := by
  unfold szSS at h ⊢
  split at h
  · omega
  · rename_i hn
    rw [if_neg hn]
    obtain ⟨h1, h2⟩ := szGo_pos m _ (by omega) h
    exact ⟨by omega, fun r hr => by have := h1 r hr; omega, by omega⟩


end Go.Proofs.Ytpakfehinfcdoaa
