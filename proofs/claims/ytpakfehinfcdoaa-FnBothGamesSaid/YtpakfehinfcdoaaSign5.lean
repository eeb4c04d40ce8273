/- SignFunctional, program and reference. -/
import Derived.Test.YtpakfehinfcdoaaSign2
namespace Go.Proofs.Ytpakfehinfcdoaa
open Go.Aw
set_option maxRecDepth 100000

def fnAt (n : Int) : List Int := [n, W (0 - n), W (0 - n), n]
def fnRow (r : List Int) : List (List Int) := r.map fnAt
def functionalL (m : List (List Int)) : List (List Int) := m.flatMap fnRow
def fnTo (m : List (List Int)) (x y : Nat) : List (List Int) := (m.take x).flatMap fnRow ++ ((m.getD x []).take y).map fnAt

theorem fnTo_row (m : List (List Int)) (x y : Nat) (hy : y < (m.getD x []).length) : fnTo m x y ++ [fnAt ((m.getD x []).getD y 0)] = fnTo m x (y + 1) := by
  unfold fnTo
  have e : (m.getD x []).getD y 0 = (m.getD x [])[y] := getD_lt hy
  rw [List.take_succ_eq_append_getElem hy, List.map_append, List.append_assoc, e]
  rfl
theorem fnTo_end (m : List (List Int)) (x : Nat) (hx : x < m.length) : fnTo m x (m.getD x []).length = fnTo m (x + 1) 0 := by
  unfold fnTo
  rw [List.take_succ_eq_append_getElem hx, List.flatMap_append, List.take_length]
  simp [List.getD, hx, fnRow]
theorem fnTo_all (m : List (List Int)) : fnTo m m.length 0 = functionalL m := by
  unfold fnTo functionalL
  simp
theorem fnTo_len (m : List (List Int)) (h : goodM m = true) (x y : Nat) (hx : x ≤ m.length) (hy : y ≤ (m.getD x []).length) : (fnTo m x y).length ≤ 16 := by
  obtain ⟨g1, g2, g3, g4, g5⟩ := goodM_spec h
  have key : ∀ (l : List (List Int)), (∀ r, r ∈ l → r.length ≤ 3) → (l.flatMap fnRow).length ≤ 3 * l.length := by
    intro l
    induction l with
    | nil => simp
    | cons r l ih => intro hl; have := ih (fun q hq => hl q (by simp [hq])); have := hl r (by simp); simp [fnRow] at *; omega
  have h1 := key (m.take x) (fun r hr => by have := (g5 r (List.mem_of_mem_take hr)).1; omega)
  have h2 : (m.getD x []).length ≤ 3 := by
    by_cases hx2 : x < m.length
    · have := (g5 _ (getD_mem (d := []) hx2)).1; omega
    · simp [List.getD, List.getElem?_eq_none (by omega : m.length ≤ x)]
  unfold fnTo
  simp only [List.length_append, List.length_map, List.length_take] at h1 ⊢
  omega

def fnRes (m : List (List Int)) : List (List Int) := if goodM m then functionalL m else []


end Go.Proofs.Ytpakfehinfcdoaa
