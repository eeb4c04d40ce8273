/- Quiet boxes and games of two questions each: what holds of their worths. -/
import Derived.Test.YtkomndcehdneaaaGreatM0
import Derived.Test.YtkomndcehdneaaaGreatM2
import Derived.Test.YtkomndcehdneaaaGreatM3
namespace Go.Proofs.YtkomndcehdneaaaGreat
open Go.Aw
set_option maxRecDepth 100000
set_option maxHeartbeats 4000000

def fl (m : List (List Int)) (j : Nat) : Int := (m.getD (j / 4) []).getD (j % 4) 0
theorem wRow4 {f m : List (List Int)} {i : Nat} {a : Int} (ha : -1000000000 ≤ a ∧ a ≤ 1000000000) (ht : ∀ k, -1000000 ≤ (f.getD i []).getD k 0 * (m.getD i []).getD k 0 ∧ (f.getD i []).getD k 0 * (m.getD i []).getD k 0 ≤ 1000000) :
    wRow f m i a 4 = a + ((f.getD i []).getD 0 0 * (m.getD i []).getD 0 0 + (f.getD i []).getD 1 0 * (m.getD i []).getD 1 0 + (f.getD i []).getD 2 0 * (m.getD i []).getD 2 0 + (f.getD i []).getD 3 0 * (m.getD i []).getD 3 0) := by
  show W (W (W (W (a + W ((f.getD i []).getD 0 0 * (m.getD i []).getD 0 0)) + W ((f.getD i []).getD 1 0 * (m.getD i []).getD 1 0)) + W ((f.getD i []).getD 2 0 * (m.getD i []).getD 2 0)) + W ((f.getD i []).getD 3 0 * (m.getD i []).getD 3 0)) = _
  have h0 := ht 0; have h1 := ht 1; have h2 := ht 2; have h3 := ht 3
  generalize (f.getD i []).getD 0 0 * (m.getD i []).getD 0 0 = t0 at *
  generalize (f.getD i []).getD 1 0 * (m.getD i []).getD 1 0 = t1 at *
  generalize (f.getD i []).getD 2 0 * (m.getD i []).getD 2 0 = t2 at *
  generalize (f.getD i []).getD 3 0 * (m.getD i []).getD 3 0 = t3 at *
  rw [wS (n := t0) (by omega) (by omega), wS (n := t1) (by omega) (by omega), wS (n := t2) (by omega) (by omega), wS (n := t3) (by omega) (by omega),
    wS (n := a + t0) (by omega) (by omega), wS (n := a + t0 + t1) (by omega) (by omega), wS (n := a + t0 + t1 + t2) (by omega) (by omega), wS (by omega) (by omega)]
  omega
theorem mulB {x y : Int} {A B : Nat} (hx : -(A : Int) ≤ x ∧ x ≤ A) (hy : 0 ≤ y ∧ y ≤ B) : -((A * B : Nat) : Int) ≤ x * y ∧ x * y ≤ ((A * B : Nat) : Int) := by
  have h1 : x * y ≤ (A : Int) * B := Int.le_trans (Int.mul_le_mul_of_nonneg_right hx.2 hy.1) (Int.mul_le_mul_of_nonneg_left hy.2 (by omega))
  have h2 : (-x) * y ≤ (A : Int) * B := Int.le_trans (Int.mul_le_mul_of_nonneg_right (show -x ≤ A by omega) hy.1) (Int.mul_le_mul_of_nonneg_left hy.2 (by omega))
  rw [Int.neg_mul] at h2
  rw [Int.natCast_mul]
  omega
/-- worths are plain sums -/
theorem worth16 {f m : List (List Int)} (hm : m.length = 4) (hf : ∀ i k, -99 ≤ (f.getD i []).getD k 0 ∧ (f.getD i []).getD k 0 ≤ 99) (hb : ∀ i k, 0 ≤ (m.getD i []).getD k 0 ∧ (m.getD i []).getD k 0 ≤ 1000) :
    worthF f m = dotN (fl f) (fl m) ∧ -2000000 ≤ worthF f m ∧ worthF f m ≤ 2000000 := by
  have ht : ∀ i k, -99000 ≤ (f.getD i []).getD k 0 * (m.getD i []).getD k 0 ∧ (f.getD i []).getD k 0 * (m.getD i []).getD k 0 ≤ 99000 := fun i k => by
    have := mulB (A := 99) (B := 1000) (hf i k) (hb i k); omega
  have hw : ∀ i k, -1000000 ≤ (f.getD i []).getD k 0 * (m.getD i []).getD k 0 ∧ (f.getD i []).getD k 0 * (m.getD i []).getD k 0 ≤ 1000000 := fun i k => by have := ht i k; omega
  have h0 : worthF f m = wRow f m 3 (wRow f m 2 (wRow f m 1 (wRow f m 0 0 4) 4) 4) 4 := by rw [worthF, hm]; rfl
  rw [h0]
  unfold dotN
  show _ = fl f 0 * fl m 0 + fl f 1 * fl m 1 + fl f 2 * fl m 2 + fl f 3 * fl m 3 + fl f 4 * fl m 4 + fl f 5 * fl m 5 + fl f 6 * fl m 6 + fl f 7 * fl m 7 + fl f 8 * fl m 8 + fl f 9 * fl m 9 + fl f 10 * fl m 10 + fl f 11 * fl m 11 + fl f 12 * fl m 12 + fl f 13 * fl m 13 + fl f 14 * fl m 14 + fl f 15 * fl m 15 ∧ _
  have t0 : -99000 ≤ fl f 0 * fl m 0 ∧ fl f 0 * fl m 0 ≤ 99000 := ht 0 0
  have t1 : -99000 ≤ fl f 1 * fl m 1 ∧ fl f 1 * fl m 1 ≤ 99000 := ht 0 1
  have t2 : -99000 ≤ fl f 2 * fl m 2 ∧ fl f 2 * fl m 2 ≤ 99000 := ht 0 2
  have t3 : -99000 ≤ fl f 3 * fl m 3 ∧ fl f 3 * fl m 3 ≤ 99000 := ht 0 3
  have t4 : -99000 ≤ fl f 4 * fl m 4 ∧ fl f 4 * fl m 4 ≤ 99000 := ht 1 0
  have t5 : -99000 ≤ fl f 5 * fl m 5 ∧ fl f 5 * fl m 5 ≤ 99000 := ht 1 1
  have t6 : -99000 ≤ fl f 6 * fl m 6 ∧ fl f 6 * fl m 6 ≤ 99000 := ht 1 2
  have t7 : -99000 ≤ fl f 7 * fl m 7 ∧ fl f 7 * fl m 7 ≤ 99000 := ht 1 3
  have t8 : -99000 ≤ fl f 8 * fl m 8 ∧ fl f 8 * fl m 8 ≤ 99000 := ht 2 0
  have t9 : -99000 ≤ fl f 9 * fl m 9 ∧ fl f 9 * fl m 9 ≤ 99000 := ht 2 1
  have t10 : -99000 ≤ fl f 10 * fl m 10 ∧ fl f 10 * fl m 10 ≤ 99000 := ht 2 2
  have t11 : -99000 ≤ fl f 11 * fl m 11 ∧ fl f 11 * fl m 11 ≤ 99000 := ht 2 3
  have t12 : -99000 ≤ fl f 12 * fl m 12 ∧ fl f 12 * fl m 12 ≤ 99000 := ht 3 0
  have t13 : -99000 ≤ fl f 13 * fl m 13 ∧ fl f 13 * fl m 13 ≤ 99000 := ht 3 1
  have t14 : -99000 ≤ fl f 14 * fl m 14 ∧ fl f 14 * fl m 14 ≤ 99000 := ht 3 2
  have t15 : -99000 ≤ fl f 15 * fl m 15 ∧ fl f 15 * fl m 15 ≤ 99000 := ht 3 3
  have e0 := wRow4 (f := f) (m := m) (i := 0) (a := 0) (by omega) (hw 0)
  have e0 : wRow f m 0 0 4 = 0 + (fl f 0 * fl m 0 + fl f 1 * fl m 1 + fl f 2 * fl m 2 + fl f 3 * fl m 3) := e0
  have e1 := wRow4 (f := f) (m := m) (i := 1) (a := wRow f m 0 0 4) (by omega) (hw 1)
  have e1 : wRow f m 1 (wRow f m 0 0 4) 4 = wRow f m 0 0 4 + (fl f 4 * fl m 4 + fl f 5 * fl m 5 + fl f 6 * fl m 6 + fl f 7 * fl m 7) := e1
  have e2 := wRow4 (f := f) (m := m) (i := 2) (a := wRow f m 1 (wRow f m 0 0 4) 4) (by omega) (hw 2)
  have e2 : wRow f m 2 (wRow f m 1 (wRow f m 0 0 4) 4) 4 = wRow f m 1 (wRow f m 0 0 4) 4 + (fl f 8 * fl m 8 + fl f 9 * fl m 9 + fl f 10 * fl m 10 + fl f 11 * fl m 11) := e2
  have e3 := wRow4 (f := f) (m := m) (i := 3) (a := wRow f m 2 (wRow f m 1 (wRow f m 0 0 4) 4) 4) (by omega) (hw 3)
  have e3 : wRow f m 3 (wRow f m 2 (wRow f m 1 (wRow f m 0 0 4) 4) 4) 4 = wRow f m 2 (wRow f m 1 (wRow f m 0 0 4) 4) 4 + (fl f 12 * fl m 12 + fl f 13 * fl m 13 + fl f 14 * fl m 14 + fl f 15 * fl m 15) := e3
  omega

theorem ex_vx {i j : Nat} (hi : i < 24) (hj : j < 16) : fl (exRow i) j = (if i < 16 then 2 else 1) * vx i j := by
  have : ∀ i : Nat, i < 24 → ∀ j : Nat, j < 16 → fl (exRow i) j = (if i < 16 then 2 else 1) * vx i j := by decide +kernel
  exact this i hi j hj
theorem dotN_congr {f n n' : Nat → Int} (h : ∀ j, j < 16 → n j = n' j) : dotN f n = dotN f n' := by
  unfold dotN
  rw [h 0 (by omega), h 1 (by omega), h 2 (by omega), h 3 (by omega), h 4 (by omega), h 5 (by omega), h 6 (by omega), h 7 (by omega), h 8 (by omega), h 9 (by omega), h 10 (by omega), h 11 (by omega), h 12 (by omega), h 13 (by omega), h 14 (by omega), h 15 (by omega)]
theorem dotN_mul (c : Int) (f n : Nat → Int) : dotN f (fun j => c * n j) = c * dotN f n := by
  unfold dotN
  simp only [Int.mul_add, Int.mul_left_comm c]
theorem ex_bd2 {i : Nat} (hi : i < 24) (a k : Nat) : 0 ≤ ((exRow i).getD a []).getD k 0 ∧ ((exRow i).getD a []).getD k 0 ≤ 1000 := by
  have h : ∀ i : Nat, i < 24 → (exRow i).all (fun r => rowIn r 0 2) = true := by decide +kernel
  have h := List.all_eq_true.1 (h i hi)
  by_cases ha : a < (exRow i).length
  · have h2 := rowIn_iff.1 (h _ (getD_mem (d := []) ha))
    by_cases hk : k < ((exRow i).getD a []).length
    · have := h2 _ (getD_mem (d := 0) hk); omega
    · rw [List.getD_eq_getElem?_getD (l := (exRow i).getD a []), List.getElem?_eq_none (by omega)]; decide
  · rw [List.getD_eq_getElem?_getD (l := exRow i), List.getElem?_eq_none (by omega)]; simp
/-- the worth of an extreme box -/
theorem exW_dot {f : List (List Int)} (hf : ∀ i k, -99 ≤ (f.getD i []).getD k 0 ∧ (f.getD i []).getD k 0 ≤ 99) {i : Nat} (hi : i < 24) : exW f i = (if i < 16 then 2 else 1) * dotN (fl f) (vx i) := by
  rw [exW, (worth16 (exRow_len i) hf (ex_bd2 hi)).1, dotN_congr (n' := fun j => (if i < 16 then 2 else 1) * vx i j) (fun j hj => ex_vx hi hj), dotN_mul]
theorem vx_half {f : List (List Int)} (hf : ∀ i k, -99 ≤ (f.getD i []).getD k 0 ∧ (f.getD i []).getD k 0 ≤ 99) {i : Nat} (hi : i < 24) : 2 * dotN (fl f) (vx i) = exW f i * vxW i := by
  rw [exW_dot hf hi]
  unfold vxW
  split <;> omega

/-- a quiet box, as numbers -/
theorem quiet_QN {x y z : Int} {m : List (List Int)} (h : qpB x y z m = true) : QN (fl m) z ∧ m.length = 4 ∧ (∀ i k, 0 ≤ (m.getD i []).getD k 0 ∧ (m.getD i []).getD k 0 ≤ 1000) ∧ 1 ≤ z ∧ z ≤ 1000 := by
  obtain ⟨rfl, rfl, g1, g2, g3, g4⟩ := qpB_spec h
  rw [qpB, Bool.and_eq_true] at h
  have hq := h.2
  have hE : ∀ i k, 0 ≤ (m.getD i []).getD k 0 ∧ (m.getD i []).getD k 0 ≤ 1000 := fun i k => ent_bd (a := 0) (b := 1000) (by omega) (by omega) (fun r hr v hv => by have := (g4 r hr).2.1 v hv; omega) i k
  refine ⟨?_, g3, hE, g1, g2⟩
  match m, g3, g4, hq with
  | [r0, r1, r2, r3], _, g4, hq =>
    have q0 := g4 r0 (by simp)
    have q1 := g4 r1 (by simp)
    have q2 := g4 r2 (by simp)
    have q3 := g4 r3 (by simp)
    obtain ⟨a0, b0, c0, d0, rfl, u0, v0, w0, x0, s0⟩ := row4 g2 q0.1 q0.2.1 q0.2.2
    obtain ⟨a1, b1, c1, d1, rfl, u1, v1, w1, x1, s1⟩ := row4 g2 q1.1 q1.2.1 q1.2.2
    obtain ⟨a2, b2, c2, d2, rfl, u2, v2, w2, x2, s2⟩ := row4 g2 q2.1 q2.2.1 q2.2.2
    obtain ⟨a3, b3, c3, d3, rfl, u3, v3, w3, x3, s3⟩ := row4 g2 q3.1 q3.2.1 q3.2.2
    rw [quiet_2] at hq
    simp only [Bool.and_eq_true, beq_iff_eq] at hq
    have O0 : ∀ a b c d : Int, 0 ≤ c → 0 ≤ d → c ≤ 1000 → d ≤ 1000 → one0 [a, b, c, d] = c + d := fun a b c d _ _ _ _ => wS (n := c + d) (by omega) (by omega)
    have O1 : ∀ a b c d : Int, 0 ≤ b → 0 ≤ d → b ≤ 1000 → d ≤ 1000 → one1 [a, b, c, d] = b + d := fun a b c d _ _ _ _ => wS (n := b + d) (by omega) (by omega)
    rw [O0 a0 b0 c0 d0 (by omega) (by omega) (by omega) (by omega), O0 a1 b1 c1 d1 (by omega) (by omega) (by omega) (by omega), O0 a2 b2 c2 d2 (by omega) (by omega) (by omega) (by omega), O0 a3 b3 c3 d3 (by omega) (by omega) (by omega) (by omega),
      O1 a0 b0 c0 d0 (by omega) (by omega) (by omega) (by omega), O1 a1 b1 c1 d1 (by omega) (by omega) (by omega) (by omega), O1 a2 b2 c2 d2 (by omega) (by omega) (by omega) (by omega), O1 a3 b3 c3 d3 (by omega) (by omega) (by omega) (by omega)] at hq
    obtain ⟨⟨h1, h2⟩, h3, h4⟩ := hq
    show 0 ≤ a0 ∧ 0 ≤ b0 ∧ 0 ≤ c0 ∧ 0 ≤ d0 ∧ 0 ≤ a1 ∧ 0 ≤ b1 ∧ 0 ≤ c1 ∧ 0 ≤ d1 ∧ 0 ≤ a2 ∧ 0 ≤ b2 ∧ 0 ≤ c2 ∧ 0 ≤ d2 ∧ 0 ≤ a3 ∧ 0 ≤ b3 ∧ 0 ≤ c3 ∧ 0 ≤ d3 ∧ a0 + b0 + c0 + d0 = z ∧ a1 + b1 + c1 + d1 = z ∧ a2 + b2 + c2 + d2 = z ∧ a3 + b3 + c3 + d3 = z ∧ c0 + d0 = c1 + d1 ∧ c2 + d2 = c3 + d3 ∧ b0 + d0 = b2 + d2 ∧ b1 + d1 = b3 + d3
    omega
theorem wHi_ge (f : List (List Int)) : ∀ n i, i < n → exW f i ≤ wHi f n
  | n + 1, i, h => by
    rw [wHi]
    by_cases e : i = n
    · subst e; omega
    · have := wHi_ge f n i (by omega); omega
theorem wLo_le (f : List (List Int)) : ∀ n i, i < n → wLo f n ≤ exW f i
  | n + 1, i, h => by
    rw [wLo]
    by_cases e : i = n
    · subst e; omega
    · have := wLo_le f n i (by omega); omega
/-- worths of quiet boxes lie between those of extreme ones -/
theorem quiet_le {f : List (List Int)} (hf : ∀ i k, -99 ≤ (f.getD i []).getD k 0 ∧ (f.getD i []).getD k 0 ≤ 99) {H : Int} (hH : ∀ i, i < 24 → exW f i ≤ H) {x y z : Int} {m : List (List Int)} (h : qpB x y z m = true) : 2 * worthF f m ≤ H * z := by
  obtain ⟨hq, hl, hb, h1, h2⟩ := quiet_QN h
  rw [(worth16 hl hf hb).1]
  refine QN_worth (fl f) H (fun i hi => ?_) z.toNat (fl m) z (by omega) hq
  rw [vx_half hf hi]
  exact Int.mul_le_mul_of_nonneg_right (hH i hi) (by unfold vxW; split <;> omega)
theorem quiet_ge {f : List (List Int)} (hf : ∀ i k, -99 ≤ (f.getD i []).getD k 0 ∧ (f.getD i []).getD k 0 ≤ 99) {L : Int} (hL : ∀ i, i < 24 → L ≤ exW f i) {x y z : Int} {m : List (List Int)} (h : qpB x y z m = true) : L * z ≤ 2 * worthF f m := by
  obtain ⟨hq, hl, hb, h1, h2⟩ := quiet_QN h
  rw [(worth16 hl hf hb).1]
  have hn : ∀ n : Nat → Int, dotN (fun j => -fl f j) n = - dotN (fl f) n := fun n => by unfold dotN; simp only [Int.neg_mul]; omega
  have k := QN_worth (fun j => -fl f j) (-L) (fun i hi => by
    rw [hn]
    have e := vx_half hf hi
    have h3 := Int.mul_le_mul_of_nonneg_right (hL i hi) (show 0 ≤ vxW i by unfold vxW; split <;> omega)
    rw [Int.neg_mul]; omega) z.toNat (fl m) z (by omega) hq
  rw [hn, Int.neg_mul] at k
  omega

theorem dotN_rows (f n : Nat → Int) : dotN f n = (f 0 * n 0 + f 1 * n 1 + f 2 * n 2 + f 3 * n 3) + (f 4 * n 4 + f 5 * n 5 + f 6 * n 6 + f 7 * n 7) + (f 8 * n 8 + f 9 * n 9 + f 10 * n 10 + f 11 * n 11) + (f 12 * n 12 + f 13 * n 13 + f 14 * n 14 + f 15 * n 15) := by
  unfold dotN; omega
def pkB (i j k : Nat) : Bool := vx i (4 * j + k) == (if k = bitIx ((playsL 4).getD i []) 2 (j / 2) (j % 2) then 1 else 0) && Nat.blt (bitIx ((playsL 4).getD i []) 2 (j / 2) (j % 2)) 4
theorem pk_all {i j k : Nat} (hi : i < 16) (hj : j < 4) (hk : k < 4) : vx i (4 * j + k) = (if k = bitIx ((playsL 4).getD i []) 2 (j / 2) (j % 2) then 1 else 0) ∧ bitIx ((playsL 4).getD i []) 2 (j / 2) (j % 2) < 4 := by
  have : ∀ i : Nat, i < 16 → ∀ j : Nat, j < 4 → ∀ k : Nat, k < 4 → pkB i j k = true := by decide +kernel
  have h := this i hi j hj k hk
  simp only [pkB, Bool.and_eq_true, beq_iff_eq, Nat.blt_eq] at h
  exact h
theorem pick4 (g : Nat → Int) {b : Nat} (hb : b < 4) : g 0 * (if 0 = b then 1 else 0) + g 1 * (if 1 = b then 1 else 0) + g 2 * (if 2 = b then 1 else 0) + g 3 * (if 3 = b then 1 else 0) = g b := by
  have : b = 0 ∨ b = 1 ∨ b = 2 ∨ b = 3 := by omega
  rcases this with rfl | rfl | rfl | rfl <;> simp
def rowB (i : Nat) : Bool := (vx i 0 + vx i 1 + vx i 2 + vx i 3 == vxW i) && (vx i 4 + vx i 5 + vx i 6 + vx i 7 == vxW i) && (vx i 8 + vx i 9 + vx i 10 + vx i 11 == vxW i) && (vx i 12 + vx i 13 + vx i 14 + vx i 15 == vxW i) && (List.range 16).all fun j => decide (0 ≤ vx i j)
theorem row_all {i : Nat} (hi : i < 24) : vx i 0 + vx i 1 + vx i 2 + vx i 3 = vxW i ∧ vx i 4 + vx i 5 + vx i 6 + vx i 7 = vxW i ∧ vx i 8 + vx i 9 + vx i 10 + vx i 11 = vxW i ∧ vx i 12 + vx i 13 + vx i 14 + vx i 15 = vxW i ∧ ∀ j, j < 16 → 0 ≤ vx i j := by
  have : ∀ i : Nat, i < 24 → rowB i = true := by decide +kernel
  have h := this i hi
  simp only [rowB, Bool.and_eq_true, beq_iff_eq, List.all_eq_true, decide_eq_true_eq] at h
  obtain ⟨⟨⟨⟨a, b⟩, c⟩, d⟩, e⟩ := h
  exact ⟨a, b, c, d, fun j hj => e j (List.mem_range.2 hj)⟩

theorem dot_le {f : Nat → Int} {S : Nat → Int} (hf : ∀ j, j < 16 → 0 ≤ f j ∧ f j ≤ S (j / 4)) {i : Nat} (hi : i < 24) : dotN f (vx i) ≤ (S 0 + S 1 + S 2 + S 3) * vxW i ∧ 0 ≤ dotN f (vx i) := by
  obtain ⟨r0, r1, r2, r3, rn⟩ := row_all hi
  have hmul : ∀ j, j < 16 → f j * vx i j ≤ S (j / 4) * vx i j ∧ 0 ≤ f j * vx i j := fun j hj => ⟨Int.mul_le_mul_of_nonneg_right (hf j hj).2 (rn j hj), Int.mul_nonneg (hf j hj).1 (rn j hj)⟩
  rw [dotN_rows]
  simp only [Int.add_mul]
  have k0 : f 0 * vx i 0 ≤ S 0 * vx i 0 ∧ 0 ≤ f 0 * vx i 0 := hmul 0 (by omega)
  have k1 : f 1 * vx i 1 ≤ S 0 * vx i 1 ∧ 0 ≤ f 1 * vx i 1 := hmul 1 (by omega)
  have k2 : f 2 * vx i 2 ≤ S 0 * vx i 2 ∧ 0 ≤ f 2 * vx i 2 := hmul 2 (by omega)
  have k3 : f 3 * vx i 3 ≤ S 0 * vx i 3 ∧ 0 ≤ f 3 * vx i 3 := hmul 3 (by omega)
  have k4 : f 4 * vx i 4 ≤ S 1 * vx i 4 ∧ 0 ≤ f 4 * vx i 4 := hmul 4 (by omega)
  have k5 : f 5 * vx i 5 ≤ S 1 * vx i 5 ∧ 0 ≤ f 5 * vx i 5 := hmul 5 (by omega)
  have k6 : f 6 * vx i 6 ≤ S 1 * vx i 6 ∧ 0 ≤ f 6 * vx i 6 := hmul 6 (by omega)
  have k7 : f 7 * vx i 7 ≤ S 1 * vx i 7 ∧ 0 ≤ f 7 * vx i 7 := hmul 7 (by omega)
  have k8 : f 8 * vx i 8 ≤ S 2 * vx i 8 ∧ 0 ≤ f 8 * vx i 8 := hmul 8 (by omega)
  have k9 : f 9 * vx i 9 ≤ S 2 * vx i 9 ∧ 0 ≤ f 9 * vx i 9 := hmul 9 (by omega)
  have k10 : f 10 * vx i 10 ≤ S 2 * vx i 10 ∧ 0 ≤ f 10 * vx i 10 := hmul 10 (by omega)
  have k11 : f 11 * vx i 11 ≤ S 2 * vx i 11 ∧ 0 ≤ f 11 * vx i 11 := hmul 11 (by omega)
  have k12 : f 12 * vx i 12 ≤ S 3 * vx i 12 ∧ 0 ≤ f 12 * vx i 12 := hmul 12 (by omega)
  have k13 : f 13 * vx i 13 ≤ S 3 * vx i 13 ∧ 0 ≤ f 13 * vx i 13 := hmul 13 (by omega)
  have k14 : f 14 * vx i 14 ≤ S 3 * vx i 14 ∧ 0 ≤ f 14 * vx i 14 := hmul 14 (by omega)
  have k15 : f 15 * vx i 15 ≤ S 3 * vx i 15 ∧ 0 ≤ f 15 * vx i 15 := hmul 15 (by omega)
  have m0 : S 0 * vxW i = S 0 * vx i 0 + S 0 * vx i 1 + S 0 * vx i 2 + S 0 * vx i 3 := by rw [← r0]; simp only [Int.mul_add]
  have m1 : S 1 * vxW i = S 1 * vx i 4 + S 1 * vx i 5 + S 1 * vx i 6 + S 1 * vx i 7 := by rw [← r1]; simp only [Int.mul_add]
  have m2 : S 2 * vxW i = S 2 * vx i 8 + S 2 * vx i 9 + S 2 * vx i 10 + S 2 * vx i 11 := by rw [← r2]; simp only [Int.mul_add]
  have m3 : S 3 * vxW i = S 3 * vx i 12 + S 3 * vx i 13 + S 3 * vx i 14 + S 3 * vx i 15 := by rw [← r3]; simp only [Int.mul_add]
  clear hmul hf r0 r1 r2 r3 rn
  generalize S 0 * vxW i = u0 at *
  generalize S 1 * vxW i = u1 at *
  generalize S 2 * vxW i = u2 at *
  generalize S 3 * vxW i = u3 at *
  generalize f 0 * vx i 0 = x0 at *
  generalize S 0 * vx i 0 = y0 at *
  generalize f 1 * vx i 1 = x1 at *
  generalize S 0 * vx i 1 = y1 at *
  generalize f 2 * vx i 2 = x2 at *
  generalize S 0 * vx i 2 = y2 at *
  generalize f 3 * vx i 3 = x3 at *
  generalize S 0 * vx i 3 = y3 at *
  generalize f 4 * vx i 4 = x4 at *
  generalize S 1 * vx i 4 = y4 at *
  generalize f 5 * vx i 5 = x5 at *
  generalize S 1 * vx i 5 = y5 at *
  generalize f 6 * vx i 6 = x6 at *
  generalize S 1 * vx i 6 = y6 at *
  generalize f 7 * vx i 7 = x7 at *
  generalize S 1 * vx i 7 = y7 at *
  generalize f 8 * vx i 8 = x8 at *
  generalize S 2 * vx i 8 = y8 at *
  generalize f 9 * vx i 9 = x9 at *
  generalize S 2 * vx i 9 = y9 at *
  generalize f 10 * vx i 10 = x10 at *
  generalize S 2 * vx i 10 = y10 at *
  generalize f 11 * vx i 11 = x11 at *
  generalize S 2 * vx i 11 = y11 at *
  generalize f 12 * vx i 12 = x12 at *
  generalize S 3 * vx i 12 = y12 at *
  generalize f 13 * vx i 13 = x13 at *
  generalize S 3 * vx i 13 = y13 at *
  generalize f 14 * vx i 14 = x14 at *
  generalize S 3 * vx i 14 = y14 at *
  generalize f 15 * vx i 15 = x15 at *
  generalize S 3 * vx i 15 = y15 at *
  omega
theorem sumF4 {s : List Int} (h3 : s.length = 4) (h5 : ∀ v, v ∈ s → 0 ≤ v ∧ v ≤ 99) : sumF s s.length = s.getD 0 0 + s.getD 1 0 + s.getD 2 0 + s.getD 3 0 := by
  match s, h3, h5 with
  | [a, b, c, d], _, h5 =>
    have k0 := h5 a (by simp); have k1 := h5 b (by simp); have k2 := h5 c (by simp); have k3 := h5 d (by simp)
    exact sum4 a b c d (by omega) (by omega) (by omega) (by omega)
theorem won_sum {w : Nat → Nat → Int} (h : ∀ x y, x < 2 → y < 2 → 0 ≤ w x y ∧ w x y ≤ 99) : W (W (W (W (0 + w 0 0) + w 0 1) + w 1 0) + w 1 1) = w 0 0 + w 0 1 + w 1 0 + w 1 1 := by
  have w0 := h 0 0 (by omega) (by omega); have w1 := h 0 1 (by omega) (by omega); have w2 := h 1 0 (by omega) (by omega); have w3 := h 1 1 (by omega) (by omega)
  generalize w 0 0 = a at *
  generalize w 0 1 = b at *
  generalize w 1 0 = c at *
  generalize w 1 1 = d at *
  rw [wS (n := 0 + a) (by omega) (by omega), wS (n := 0 + a + b) (by omega) (by omega), wS (n := 0 + a + b + c) (by omega) (by omega), wS (by omega) (by omega)]
  omega
theorem play_dot {s : List Int} {m f : List (List Int)} (hF : ∀ i k, 0 ≤ (f.getD i []).getD k 0 ∧ (f.getD i []).getD k 0 ≤ 99) (eF : ∀ j k, j < 4 → k < 4 → (f.getD j []).getD k 0 = W ((m.getD j []).getD k 0 * s.getD j 0)) {i : Nat} (hi : i < 16) :
    scF s m 2 2 i = dotN (fl f) (vx i) := by
  have won : ∀ x y, x < 2 → y < 2 → wonAt s m ((playsL 4).getD i []) 2 2 x y = (f.getD (x * 2 + y) []).getD (bitIx ((playsL 4).getD i []) 2 x y) 0 := fun x y hx hy => by
    have hb := (pk_all (i := i) (j := x * 2 + y) (k := 0) hi (by omega) (by omega)).2
    rw [show (x * 2 + y) / 2 = x by omega, show (x * 2 + y) % 2 = y by omega] at hb
    rw [eF _ _ (by omega) hb, wonAt, Int.mul_comm]
  have e1 : scF s m 2 2 i = W (W (W (W (0 + wonAt s m ((playsL 4).getD i []) 2 2 0 0) + wonAt s m ((playsL 4).getD i []) 2 2 0 1) + wonAt s m ((playsL 4).getD i []) 2 2 1 0) + wonAt s m ((playsL 4).getD i []) 2 2 1 1) := rfl
  rw [e1, won_sum (w := fun x y => wonAt s m ((playsL 4).getD i []) 2 2 x y) (fun x y hx hy => by rw [won x y hx hy]; exact hF _ _), dotN_rows]
  simp only [won 0 0 (by omega) (by omega), won 0 1 (by omega) (by omega), won 1 0 (by omega) (by omega), won 1 1 (by omega) (by omega)]
  have p0 : fl f 0 * vx i 0 + fl f 1 * vx i 1 + fl f 2 * vx i 2 + fl f 3 * vx i 3 = (f.getD 0 []).getD (bitIx ((playsL 4).getD i []) 2 0 0) 0 := by
    rw [show vx i 0 = _ from (pk_all (i := i) (j := 0) (k := 0) hi (by omega) (by omega)).1, show vx i 1 = _ from (pk_all (i := i) (j := 0) (k := 1) hi (by omega) (by omega)).1, show vx i 2 = _ from (pk_all (i := i) (j := 0) (k := 2) hi (by omega) (by omega)).1, show vx i 3 = _ from (pk_all (i := i) (j := 0) (k := 3) hi (by omega) (by omega)).1]
    exact pick4 (fun k => (f.getD 0 []).getD k 0) (pk_all (i := i) (j := 0) (k := 0) hi (by omega) (by omega)).2
  have p1 : fl f 4 * vx i 4 + fl f 5 * vx i 5 + fl f 6 * vx i 6 + fl f 7 * vx i 7 = (f.getD 1 []).getD (bitIx ((playsL 4).getD i []) 2 0 1) 0 := by
    rw [show vx i 4 = _ from (pk_all (i := i) (j := 1) (k := 0) hi (by omega) (by omega)).1, show vx i 5 = _ from (pk_all (i := i) (j := 1) (k := 1) hi (by omega) (by omega)).1, show vx i 6 = _ from (pk_all (i := i) (j := 1) (k := 2) hi (by omega) (by omega)).1, show vx i 7 = _ from (pk_all (i := i) (j := 1) (k := 3) hi (by omega) (by omega)).1]
    exact pick4 (fun k => (f.getD 1 []).getD k 0) (pk_all (i := i) (j := 1) (k := 0) hi (by omega) (by omega)).2
  have p2 : fl f 8 * vx i 8 + fl f 9 * vx i 9 + fl f 10 * vx i 10 + fl f 11 * vx i 11 = (f.getD 2 []).getD (bitIx ((playsL 4).getD i []) 2 1 0) 0 := by
    rw [show vx i 8 = _ from (pk_all (i := i) (j := 2) (k := 0) hi (by omega) (by omega)).1, show vx i 9 = _ from (pk_all (i := i) (j := 2) (k := 1) hi (by omega) (by omega)).1, show vx i 10 = _ from (pk_all (i := i) (j := 2) (k := 2) hi (by omega) (by omega)).1, show vx i 11 = _ from (pk_all (i := i) (j := 2) (k := 3) hi (by omega) (by omega)).1]
    exact pick4 (fun k => (f.getD 2 []).getD k 0) (pk_all (i := i) (j := 2) (k := 0) hi (by omega) (by omega)).2
  have p3 : fl f 12 * vx i 12 + fl f 13 * vx i 13 + fl f 14 * vx i 14 + fl f 15 * vx i 15 = (f.getD 3 []).getD (bitIx ((playsL 4).getD i []) 2 1 1) 0 := by
    rw [show vx i 12 = _ from (pk_all (i := i) (j := 3) (k := 0) hi (by omega) (by omega)).1, show vx i 13 = _ from (pk_all (i := i) (j := 3) (k := 1) hi (by omega) (by omega)).1, show vx i 14 = _ from (pk_all (i := i) (j := 3) (k := 2) hi (by omega) (by omega)).1, show vx i 15 = _ from (pk_all (i := i) (j := 3) (k := 3) hi (by omega) (by omega)).1]
    exact pick4 (fun k => (f.getD 3 []).getD k 0) (pk_all (i := i) (j := 3) (k := 0) hi (by omega) (by omega)).2
  rw [p0, p1, p2, p3]

/-- quiet values and plays -/
theorem qv_facts {x y : Int} {s : List Int} {m : List (List Int)} (h : qgOk x y s m = true) :
    (∀ i k, -99 ≤ ((funG s m).getD i []).getD k 0 ∧ ((funG s m).getD i []).getD k 0 ≤ 99) ∧ (∀ i, i < 24 → exW (funG s m) i ≤ exW (funG s m) (qbI s m)) ∧ qbI s m < 24 ∧
    2 * scF s m 2 2 (bestI s m 2 2) ≤ exW (funG s m) (qbI s m) ∧ exW (funG s m) (qbI s m) ≤ 2 * sumF s s.length ∧ 0 ≤ sumF s s.length ∧ sumF s s.length ≤ 396 ∧
    0 ≤ exW (funG s m) (qbI s m) ∧ 0 ≤ scF s m 2 2 (bestI s m 2 2) := by
  obtain ⟨rfl, rfl, hg, h3, h4, h5, h6, h7⟩ := qgOk_spec h
  have hF := ent_bd (m := funG s m) (a := 0) (b := 99) (by omega) (by omega) (funG_ent h5 h7)
  have hF' : ∀ i k, -99 ≤ ((funG s m).getD i []).getD k 0 ∧ ((funG s m).getD i []).getD k 0 ≤ 99 := fun i k => by have := hF i k; omega
  have hM : ∀ i, i < 24 → exW (funG s m) i ≤ exW (funG s m) (qbI s m) := fun i hi => bIx_ge (exW (funG s m)) 23 i (by omega)
  have hI : qbI s m < 24 := by have := bIx_le (exW (funG s m)) 23; unfold qbI; omega
  have hs : ∀ j, 0 ≤ s.getD j 0 ∧ s.getD j 0 ≤ 99 := getD_bd (by omega) h5
  have eF : ∀ j k, j < 4 → k < 4 → ((funG s m).getD j []).getD k 0 = W ((m.getD j []).getD k 0 * s.getD j 0) := fun j k hj hk => by
    have e1 : (funG s m).getD j [] = fnGRow s m j := range_getD (by omega)
    rw [e1, fnGRow, map_getD (d := 0) (by rw [h6 _ (getD_mem (d := []) (by omega))]; omega)]
  have hm : ∀ j k, 0 ≤ (m.getD j []).getD k 0 ∧ (m.getD j []).getD k 0 ≤ 1 := ent_bd (by omega) (by omega) h7
  have hle : ∀ j, j < 16 → 0 ≤ fl (funG s m) j ∧ fl (funG s m) j ≤ s.getD (j / 4) 0 := fun j hj => by
    refine ⟨(hF _ _).1, ?_⟩
    have e := eF (j / 4) (j % 4) (by omega) (by omega)
    unfold fl
    rw [e]
    have h1 := hm (j / 4) (j % 4)
    have h2 := hs (j / 4)
    have h3 : (m.getD (j / 4) []).getD (j % 4) 0 = 0 ∨ (m.getD (j / 4) []).getD (j % 4) 0 = 1 := by omega
    rcases h3 with e | e <;> rw [e]
    · rw [wS (by omega) (by omega)]; omega
    · rw [wS (by omega) (by omega)]; omega
  have eT := sumF4 h3 h5
  have hdot : ∀ i, i < 24 → dotN (fl (funG s m)) (vx i) ≤ sumF s s.length * vxW i ∧ 0 ≤ dotN (fl (funG s m)) (vx i) := fun i hi => by
    rw [eT]; exact dot_le (S := fun j => s.getD j 0) hle hi
  have hup : ∀ i, i < 24 → exW (funG s m) i ≤ 2 * sumF s s.length ∧ 0 ≤ exW (funG s m) i := fun i hi => by
    have hd := hdot i hi
    rw [exW_dot hF' hi]
    unfold vxW at hd
    split <;> rename_i hc
    · rw [if_pos hc] at hd; omega
    · rw [if_neg hc] at hd; omega
  have hbI : bestI s m 2 2 < 16 := by have := bestI_lt s m 2 2; rw [playsL_len] at this; exact this
  have e2 := play_dot hF eF hbI
  have e3 := exW_dot hF' (i := bestI s m 2 2) (by omega)
  rw [if_pos hbI] at e3
  have e4 := hM (bestI s m 2 2) (by omega)
  have e5 := hup _ hI
  have e6 := (hdot (bestI s m 2 2) (by omega)).2
  have k0 := hs 0; have k1 := hs 1; have k2 := hs 2; have k3 := hs 3
  clear hdot hup hle eF hF hm hs
  exact ⟨hF', hM, hI, by omega, e5.1, by omega, by omega, e5.2, by omega⟩
end Go.Proofs.YtkomndcehdneaaaGreat
