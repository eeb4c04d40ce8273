/- Rests of quiet boxes: reference and program. -/
import Derived.Test.YtgefdbihdliolaaNoisy
import Derived.Test.YtgefdbihdliolaaPart
namespace Go.Aw
def partF (T B : Nat → Nat → Int) (i n : Nat) : List (List Int) :=
  (List.range 4).map fun p => (List.range 4).map fun q => if p < i ∨ (p = i ∧ q < n) then T p q else B p q
theorem partF_step (T B : Nat → Nat → Int) {i n : Nat} (hi : i < 4) (hn : n < 4) : (partF T B i n).set i (((partF T B i n).getD i []).set n (T i n)) = partF T B i (n + 1) := by
  have h1 : i = 0 ∨ i = 1 ∨ i = 2 ∨ i = 3 := by omega
  have h2 : n = 0 ∨ n = 1 ∨ n = 2 ∨ n = 3 := by omega
  rcases h1 with rfl | rfl | rfl | rfl <;> rcases h2 with rfl | rfl | rfl | rfl <;> rfl
theorem partF_get (T B : Nat → Nat → Int) {i n : Nat} (hi : i < 4) (hn : n < 4) : ((partF T B i n).getD i []).getD n 0 = B i n := by
  have h1 : i = 0 ∨ i = 1 ∨ i = 2 ∨ i = 3 := by omega
  have h2 : n = 0 ∨ n = 1 ∨ n = 2 ∨ n = 3 := by omega
  rcases h1 with rfl | rfl | rfl | rfl <;> rcases h2 with rfl | rfl | rfl | rfl <;> rfl
theorem partF_end (T B : Nat → Nat → Int) {i : Nat} (hi : i < 4) : partF T B i 4 = partF T B (i + 1) 0 := by
  have h1 : i = 0 ∨ i = 1 ∨ i = 2 ∨ i = 3 := by omega
  rcases h1 with rfl | rfl | rfl | rfl <;> rfl
theorem partF_len (T B : Nat → Nat → Int) (i n : Nat) : (partF T B i n).length = 4 := by simp [partF]
theorem partF_row (T B : Nat → Nat → Int) {i n p : Nat} (hp : p < 4) : ((partF T B i n).getD p []).length = 4 := by
  rw [partF, range_getD hp]; simp
theorem mat_rows (f : Nat → Nat → Nat → Nat → Int) : boxRows f 2 2 = (List.range 4).map fun p => (List.range 4).map fun q => f (p / 2) (p % 2) (q / 2) (q % 2) := rfl
theorem mat_get (f : Nat → Nat → Nat → Nat → Int) {p q : Nat} (hp : p < 4) (hq : q < 4) : ((boxRows f 2 2).getD p []).getD q 0 = f (p / 2) (p % 2) (q / 2) (q % 2) := by
  rw [mat_rows, range_getD hp, range_getD hq]
theorem mat_eta {M : List (List Int)} (h : M.length = 4) (hr : ∀ r, r ∈ M → r.length = 4) : ((List.range 4).map fun p => (List.range 4).map fun q => (M.getD p []).getD q 0) = M := by
  refine List.ext_getElem (by simp [h]) fun p h1 h2 => ?_
  have hrow := hr _ (List.getElem_mem h2)
  simp only [List.getElem_map, List.getElem_range]
  refine List.ext_getElem (by simp [hrow]) fun q h3 h4 => ?_
  simp only [List.getElem_map, List.getElem_range]
  simp [List.getD, h2, h4]
theorem mat_congr {F G : Nat → Nat → Int} (h : ∀ p q, p < 4 → q < 4 → F p q = G p q) : ((List.range 4).map fun p => (List.range 4).map fun q => F p q) = (List.range 4).map fun p => (List.range 4).map fun q => G p q := by
  refine List.map_congr_left fun p hp => List.map_congr_left fun q hq => h p q (by simpa using hp) (by simpa using hq)
theorem times_get {M : List (List Int)} (h : M.length = 4) (hr : ∀ r, r ∈ M → r.length = 4) (k d : Int) {p q : Nat} (hp : p < 4) (hq : q < 4) : ((timesL M k d).getD p []).getD q 0 = W (Int.tdiv (W ((M.getD p []).getD q 0 * k)) d) := by
  have hm : M.getD p [] ∈ M := by rw [List.getD_eq_getElem?_getD, List.getElem?_eq_getElem (by omega)]; exact List.getElem_mem _
  rw [timesL, map_getD (d := []) (by omega), timesR, map_getD (d := 0) (by rw [hr _ hm]; omega)]
end Go.Aw
namespace Go.Proofs.Ytgefdbihdliolaa
open Go.Aw
set_option maxRecDepth 100000
set_option maxHeartbeats 4000000

def rsNum (m : List (List Int)) (k : Nat) (N : Int) (x y a b : Nat) : Int := W (W (2 * (m.getD (x * 2 + y) []).getD (2 * a + b) 0) - W (N * eqNum k x y a b))
def rsM (m : List (List Int)) (k : Nat) (N : Int) : List (List Int) := boxRows (rsNum m k N) 2 2
def rsW (z N : Int) : Int := W (W (2 * z) - W (2 * N))
def rsN (z : Int) (m : List (List Int)) : Int := partN z ((esL m).getD (esBest m) 0)
def rsOk (x y z : Int) (m : List (List Int)) : Bool := qpB x y z m && goodB 2 2 (rsW z (rsN z m)) (rsM m (esBest m) (rsN z m))
def rsR (x y z : Int) (m : List (List Int)) : List (List Int) := if rsOk x y z m then rsM m (esBest m) (rsN z m) else []
theorem box_sz (f : Nat → Nat → Nat → Nat → Int) : SzM (boxRows f 2 2) := by
  have h1 : (boxRows f 2 2).length = 4 := boxRows_len _ 2 2
  have h2 := tot_le_mul (m := boxRows f 2 2) (n := 4) (fun q hq => by rw [boxRows_rows _ _ _ q hq]; omega)
  unfold SzM; omega
theorem esBest_lt (m : List (List Int)) : esBest m < 8 := by
  have := bIx_le (fun i => (esL m).getD i 0) 7
  unfold esBest; omega

end Go.Proofs.Ytgefdbihdliolaa
