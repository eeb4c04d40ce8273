/- The first signs with the greatest sum, program and reference. -/
import Derived.Test.YtahllgjmjnipjaaSign2
namespace Go.Proofs.Ytahllgjmjnipjaa
open Go.Aw
set_option maxRecDepth 100000

theorem signsL_len (n : Nat) : (signsL n).length = 2 ^ n := by simp [signsL]
theorem signsL_row {n x : Nat} (h : x < (signsL n).length) : ((signsL n).getD x []).length = n := by
  rw [signsL_len] at h
  simp [signsL, List.getD, h, sgRow]
theorem two_pow_pos (n : Nat) : 0 < 2 ^ n := Nat.pow_pos (by omega)

def stepI (m R P : List (List Int)) (acc : Nat × Nat) (x y : Nat) : Nat × Nat :=
  if sumW m (R.getD x []) (P.getD y []) > sumW m (R.getD acc.1 []) (P.getD acc.2 []) then (x, y) else acc
def inI (m R P : List (List Int)) (acc : Nat × Nat) (x y : Nat) : Nat × Nat := fo (fun a y => stepI m R P a x y) acc y
def outI (m R P : List (List Int)) (x : Nat) : Nat × Nat := fo (fun a x => inI m R P a x P.length) (0, 0) x

theorem inI_lt {m R P : List (List Int)} {acc : Nat × Nat} {x : Nat} (h1 : acc.1 < R.length) (h2 : acc.2 < P.length) (hx : x < R.length) : ∀ y, y ≤ P.length → (inI m R P acc x y).1 < R.length ∧ (inI m R P acc x y).2 < P.length
  | 0, _ => ⟨h1, h2⟩
  | y + 1, hy => by
    have := inI_lt (m := m) h1 h2 hx y (by omega)
    show (stepI m R P (inI m R P acc x y) x y).1 < _ ∧ (stepI m R P (inI m R P acc x y) x y).2 < _
    unfold stepI
    split
    · exact ⟨hx, by simp only; omega⟩
    · exact this
theorem outI_lt {m R P : List (List Int)} (h1 : 0 < R.length) (h2 : 0 < P.length) : ∀ x, x ≤ R.length → (outI m R P x).1 < R.length ∧ (outI m R P x).2 < P.length
  | 0, _ => ⟨h1, h2⟩
  | x + 1, hx => by
    have := outI_lt (m := m) h1 h2 x (by omega)
    exact inI_lt this.1 this.2 (by omega) P.length (Nat.le_refl _)
theorem inI_succ (m R P : List (List Int)) (acc : Nat × Nat) (x y : Nat) : inI m R P acc x (y + 1) = stepI m R P (inI m R P acc x y) x y := rfl
theorem outI_succ (m R P : List (List Int)) (x : Nat) : outI m R P (x + 1) = inI m R P (outI m R P x) x P.length := rfl

def sgR (m : List (List Int)) : List (List Int) := signsL m.length
def sgP (m : List (List Int)) : List (List Int) := signsL (m.getD 0 []).length
def bestIx (m : List (List Int)) : Nat × Nat := outI m (sgR m) (sgP m) (sgR m).length
def bestR (m : List (List Int)) : List Int := (sgR m).getD (bestIx m).1 []
def bestP (m : List (List Int)) : List Int := (sgP m).getD (bestIx m).2 []

theorem sum_pre {m : List (List Int)} (hg : goodM m = true) {x y : Nat} (hx : x < (sgR m).length) (hy : y < (sgP m).length) :
    m.length ≤ ((sgR m).getD x []).length ∧ (∀ r, r ∈ m → r.length ≤ ((sgP m).getD y []).length) ∧ ((sgR m).getD x []).length ≤ 1000 ∧ ((sgP m).getD y []).length ≤ 1000 := by
  obtain ⟨g1, g2, g3, g4, g5⟩ := goodM_spec hg
  have h1 := signsL_row hx
  have h2 := signsL_row hy
  unfold sgR sgP
  exact ⟨by omega, fun r hr => by have := (g5 r hr).1; omega, by omega, by omega⟩

end Go.Proofs.Ytahllgjmjnipjaa
