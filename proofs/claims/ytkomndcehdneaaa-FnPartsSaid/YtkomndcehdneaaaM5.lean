/- The rest of a quiet box, and the box made again: what holds of them. -/
import Derived.Test.YtkomndcehdneaaaM4
namespace Go.Proofs.Ytkomndcehdneaaa
open Go.Aw
set_option maxRecDepth 100000
set_option maxHeartbeats 4000000

theorem rs_row {k x y : Nat} (hk : k < 8) (hx : x < 2) (hy : y < 2) {A B C D N : Int} (hA : 0 ≤ A ∧ A ≤ 1000) (hB : 0 ≤ B ∧ B ≤ 1000) (hC : 0 ≤ C ∧ C ≤ 1000) (hD : 0 ≤ D ∧ D ≤ 1000) (hN : 0 ≤ N ∧ N ≤ 1000) :
    agr [W (W (2 * A) - W (N * eqNum k x y 0 0)), W (W (2 * B) - W (N * eqNum k x y 0 1)), W (W (2 * C) - W (N * eqNum k x y 1 0)), W (W (2 * D) - W (N * eqNum k x y 1 1))] = 2 * (A - B - C + D) - 2 * N * sg k x y ∧
    one0 [W (W (2 * A) - W (N * eqNum k x y 0 0)), W (W (2 * B) - W (N * eqNum k x y 0 1)), W (W (2 * C) - W (N * eqNum k x y 1 0)), W (W (2 * D) - W (N * eqNum k x y 1 1))] = 2 * (C + D) - N ∧
    one1 [W (W (2 * A) - W (N * eqNum k x y 0 0)), W (W (2 * B) - W (N * eqNum k x y 0 1)), W (W (2 * C) - W (N * eqNum k x y 1 0)), W (W (2 * D) - W (N * eqNum k x y 1 1))] = 2 * (B + D) - N := by
  have e1 : ∀ t : Int, 0 ≤ t → t ≤ 1000 → W (W (2 * t) - W (N * 1)) = 2 * t - N := fun t h h' => by rw [wS (n := 2 * t) (by omega) (by omega), wS (n := N * 1) (by omega) (by omega), wS (by omega) (by omega)]; omega
  have e0 : ∀ t : Int, 0 ≤ t → t ≤ 1000 → W (W (2 * t) - W (N * 0)) = 2 * t := fun t h h' => by rw [wS (n := 2 * t) (by omega) (by omega), wS (n := N * 0) (by omega) (by omega), wS (by omega) (by omega)]; omega
  have O0 : ∀ a b c d : Int, -5000 ≤ c → c ≤ 5000 → -5000 ≤ d → d ≤ 5000 → one0 [a, b, c, d] = c + d := fun a b c d _ _ _ _ => wS (n := c + d) (by omega) (by omega)
  have O1 : ∀ a b c d : Int, -5000 ≤ b → b ≤ 5000 → -5000 ≤ d → d ≤ 5000 → one1 [a, b, c, d] = b + d := fun a b c d _ _ _ _ => wS (n := b + d) (by omega) (by omega)
  rcases eq_sg hk hx hy with ⟨s, p0, p1, p2, p3⟩ | ⟨s, p0, p1, p2, p3⟩
  · rw [s, p0, p1, p2, p3, e1 A hA.1 hA.2, e0 B hB.1 hB.2, e0 C hC.1 hC.2, e1 D hD.1 hD.2]
    refine ⟨?_, ?_, ?_⟩
    · rw [agr4 (by omega) (by omega) (by omega) (by omega)]; omega
    · rw [O0 _ _ _ _ (by omega) (by omega) (by omega) (by omega)]; omega
    · rw [O1 _ _ _ _ (by omega) (by omega) (by omega) (by omega)]; omega
  · rw [s, p0, p1, p2, p3, e0 A hA.1 hA.2, e1 B hB.1 hB.2, e1 C hC.1 hC.2, e0 D hD.1 hD.2]
    refine ⟨?_, ?_, ?_⟩
    · rw [agr4 (by omega) (by omega) (by omega) (by omega)]; omega
    · rw [O0 _ _ _ _ (by omega) (by omega) (by omega) (by omega)]; omega
    · rw [O1 _ _ _ _ (by omega) (by omega) (by omega) (by omega)]; omega

theorem rs_ex (k : Nat) (N a0 b0 c0 d0 a1 b1 c1 d1 a2 b2 c2 d2 a3 b3 c3 d3 : Int) : rsM [[a0, b0, c0, d0], [a1, b1, c1, d1], [a2, b2, c2, d2], [a3, b3, c3, d3]] k N = [[W (W (2 * a0) - W (N * eqNum (k : Int) 0 0 0 0)), W (W (2 * b0) - W (N * eqNum (k : Int) 0 0 0 1)), W (W (2 * c0) - W (N * eqNum (k : Int) 0 0 1 0)), W (W (2 * d0) - W (N * eqNum (k : Int) 0 0 1 1))], [W (W (2 * a1) - W (N * eqNum (k : Int) 0 1 0 0)), W (W (2 * b1) - W (N * eqNum (k : Int) 0 1 0 1)), W (W (2 * c1) - W (N * eqNum (k : Int) 0 1 1 0)), W (W (2 * d1) - W (N * eqNum (k : Int) 0 1 1 1))], [W (W (2 * a2) - W (N * eqNum (k : Int) 1 0 0 0)), W (W (2 * b2) - W (N * eqNum (k : Int) 1 0 0 1)), W (W (2 * c2) - W (N * eqNum (k : Int) 1 0 1 0)), W (W (2 * d2) - W (N * eqNum (k : Int) 1 0 1 1))], [W (W (2 * a3) - W (N * eqNum (k : Int) 1 1 0 0)), W (W (2 * b3) - W (N * eqNum (k : Int) 1 1 0 1)), W (W (2 * c3) - W (N * eqNum (k : Int) 1 1 1 0)), W (W (2 * d3) - W (N * eqNum (k : Int) 1 1 1 1))]] := rfl
theorem jn_ex0 (k : Nat) (N a0 b0 c0 d0 a1 b1 c1 d1 a2 b2 c2 d2 a3 b3 c3 d3 : Int) : jnM [[W (W (2 * a0) - W (N * eqNum (k : Int) 0 0 0 0)), W (W (2 * b0) - W (N * eqNum (k : Int) 0 0 0 1)), W (W (2 * c0) - W (N * eqNum (k : Int) 0 0 1 0)), W (W (2 * d0) - W (N * eqNum (k : Int) 0 0 1 1))], [W (W (2 * a1) - W (N * eqNum (k : Int) 0 1 0 0)), W (W (2 * b1) - W (N * eqNum (k : Int) 0 1 0 1)), W (W (2 * c1) - W (N * eqNum (k : Int) 0 1 1 0)), W (W (2 * d1) - W (N * eqNum (k : Int) 0 1 1 1))], [W (W (2 * a2) - W (N * eqNum (k : Int) 1 0 0 0)), W (W (2 * b2) - W (N * eqNum (k : Int) 1 0 0 1)), W (W (2 * c2) - W (N * eqNum (k : Int) 1 0 1 0)), W (W (2 * d2) - W (N * eqNum (k : Int) 1 0 1 1))], [W (W (2 * a3) - W (N * eqNum (k : Int) 1 1 0 0)), W (W (2 * b3) - W (N * eqNum (k : Int) 1 1 0 1)), W (W (2 * c3) - W (N * eqNum (k : Int) 1 1 1 0)), W (W (2 * d3) - W (N * eqNum (k : Int) 1 1 1 1))]] (k : Int) N = [[W (W (W (2 * a0) - W (N * eqNum (k : Int) 0 0 0 0)) + W (N * eqNum (k : Int) 0 0 0 0)), W (W (W (2 * b0) - W (N * eqNum (k : Int) 0 0 0 1)) + W (N * eqNum (k : Int) 0 0 0 1)), W (W (W (2 * c0) - W (N * eqNum (k : Int) 0 0 1 0)) + W (N * eqNum (k : Int) 0 0 1 0)), W (W (W (2 * d0) - W (N * eqNum (k : Int) 0 0 1 1)) + W (N * eqNum (k : Int) 0 0 1 1))], [W (W (W (2 * a1) - W (N * eqNum (k : Int) 0 1 0 0)) + W (N * eqNum (k : Int) 0 1 0 0)), W (W (W (2 * b1) - W (N * eqNum (k : Int) 0 1 0 1)) + W (N * eqNum (k : Int) 0 1 0 1)), W (W (W (2 * c1) - W (N * eqNum (k : Int) 0 1 1 0)) + W (N * eqNum (k : Int) 0 1 1 0)), W (W (W (2 * d1) - W (N * eqNum (k : Int) 0 1 1 1)) + W (N * eqNum (k : Int) 0 1 1 1))], [W (W (W (2 * a2) - W (N * eqNum (k : Int) 1 0 0 0)) + W (N * eqNum (k : Int) 1 0 0 0)), W (W (W (2 * b2) - W (N * eqNum (k : Int) 1 0 0 1)) + W (N * eqNum (k : Int) 1 0 0 1)), W (W (W (2 * c2) - W (N * eqNum (k : Int) 1 0 1 0)) + W (N * eqNum (k : Int) 1 0 1 0)), W (W (W (2 * d2) - W (N * eqNum (k : Int) 1 0 1 1)) + W (N * eqNum (k : Int) 1 0 1 1))], [W (W (W (2 * a3) - W (N * eqNum (k : Int) 1 1 0 0)) + W (N * eqNum (k : Int) 1 1 0 0)), W (W (W (2 * b3) - W (N * eqNum (k : Int) 1 1 0 1)) + W (N * eqNum (k : Int) 1 1 0 1)), W (W (W (2 * c3) - W (N * eqNum (k : Int) 1 1 1 0)) + W (N * eqNum (k : Int) 1 1 1 0)), W (W (W (2 * d3) - W (N * eqNum (k : Int) 1 1 1 1)) + W (N * eqNum (k : Int) 1 1 1 1))]] := rfl
theorem jn_ent {A N e : Int} (hA : 0 ≤ A ∧ A ≤ 1000) (hN : 0 ≤ N ∧ N ≤ 1000) (he : e = 0 ∨ e = 1) : W (W (W (2 * A) - W (N * e)) + W (N * e)) = 2 * A := by
  rcases he with rfl | rfl
  · rw [wS (n := 2 * A) (by omega) (by omega), wS (n := N * 0) (by omega) (by omega), wS (n := 2 * A - N * 0) (by omega) (by omega), wS (by omega) (by omega)]; omega
  · rw [wS (n := 2 * A) (by omega) (by omega), wS (n := N * 1) (by omega) (by omega), wS (n := 2 * A - N * 1) (by omega) (by omega), wS (by omega) (by omega)]; omega
def e01B (k : Nat) : Bool := (List.range 2).all fun x => (List.range 2).all fun y => (List.range 2).all fun a => (List.range 2).all fun b => eqNum (k : Int) x y a b == 0 || eqNum (k : Int) x y a b == 1
theorem e01 {k x y a b : Nat} (hk : k < 8) (hx : x < 2) (hy : y < 2) (ha : a < 2) (hb : b < 2) : eqNum (k : Int) x y a b = 0 ∨ eqNum (k : Int) x y a b = 1 := by
  have : ∀ k : Nat, k < 8 → e01B k = true := by decide +kernel
  have h := this k hk
  simp only [e01B, List.all_eq_true, Bool.or_eq_true, beq_iff_eq] at h
  exact h x (List.mem_range.2 hx) y (List.mem_range.2 hy) a (List.mem_range.2 ha) b (List.mem_range.2 hb)

theorem jn_ex {k : Nat} (hk : k < 8) {N z a0 b0 c0 d0 a1 b1 c1 d1 a2 b2 c2 d2 a3 b3 c3 d3 : Int} (hN : 0 ≤ N ∧ N ≤ 1000) (q : Q4 z a0 b0 c0 d0 a1 b1 c1 d1 a2 b2 c2 d2 a3 b3 c3 d3) : jnM (rsM [[a0, b0, c0, d0], [a1, b1, c1, d1], [a2, b2, c2, d2], [a3, b3, c3, d3]] k N) (k : Int) N = [[2 * a0, 2 * b0, 2 * c0, 2 * d0], [2 * a1, 2 * b1, 2 * c1, 2 * d1], [2 * a2, 2 * b2, 2 * c2, 2 * d2], [2 * a3, 2 * b3, 2 * c3, 2 * d3]] := by
  rw [rs_ex, jn_ex0]
  obtain ⟨z1, z2, p0, p1, p2, p3, _, _, _, _⟩ := q
  rw [jn_ent (A := a0) (N := N) (e := eqNum (k : Int) 0 0 0 0) (by omega) hN (e01 hk (by omega) (by omega) (by omega) (by omega)), jn_ent (A := b0) (N := N) (e := eqNum (k : Int) 0 0 0 1) (by omega) hN (e01 hk (by omega) (by omega) (by omega) (by omega)), jn_ent (A := c0) (N := N) (e := eqNum (k : Int) 0 0 1 0) (by omega) hN (e01 hk (by omega) (by omega) (by omega) (by omega)), jn_ent (A := d0) (N := N) (e := eqNum (k : Int) 0 0 1 1) (by omega) hN (e01 hk (by omega) (by omega) (by omega) (by omega)), jn_ent (A := a1) (N := N) (e := eqNum (k : Int) 0 1 0 0) (by omega) hN (e01 hk (by omega) (by omega) (by omega) (by omega)), jn_ent (A := b1) (N := N) (e := eqNum (k : Int) 0 1 0 1) (by omega) hN (e01 hk (by omega) (by omega) (by omega) (by omega)), jn_ent (A := c1) (N := N) (e := eqNum (k : Int) 0 1 1 0) (by omega) hN (e01 hk (by omega) (by omega) (by omega) (by omega)), jn_ent (A := d1) (N := N) (e := eqNum (k : Int) 0 1 1 1) (by omega) hN (e01 hk (by omega) (by omega) (by omega) (by omega)), jn_ent (A := a2) (N := N) (e := eqNum (k : Int) 1 0 0 0) (by omega) hN (e01 hk (by omega) (by omega) (by omega) (by omega)), jn_ent (A := b2) (N := N) (e := eqNum (k : Int) 1 0 0 1) (by omega) hN (e01 hk (by omega) (by omega) (by omega) (by omega)), jn_ent (A := c2) (N := N) (e := eqNum (k : Int) 1 0 1 0) (by omega) hN (e01 hk (by omega) (by omega) (by omega) (by omega)), jn_ent (A := d2) (N := N) (e := eqNum (k : Int) 1 0 1 1) (by omega) hN (e01 hk (by omega) (by omega) (by omega) (by omega)), jn_ent (A := a3) (N := N) (e := eqNum (k : Int) 1 1 0 0) (by omega) hN (e01 hk (by omega) (by omega) (by omega) (by omega)), jn_ent (A := b3) (N := N) (e := eqNum (k : Int) 1 1 0 1) (by omega) hN (e01 hk (by omega) (by omega) (by omega) (by omega)), jn_ent (A := c3) (N := N) (e := eqNum (k : Int) 1 1 1 0) (by omega) hN (e01 hk (by omega) (by omega) (by omega) (by omega)), jn_ent (A := d3) (N := N) (e := eqNum (k : Int) 1 1 1 1) (by omega) hN (e01 hk (by omega) (by omega) (by omega) (by omega))]

theorem gcR_dvd (m : List (List Int)) (i : Nat) {g : Nat} : ∀ n, gcR m i g n ∣ g ∧ ∀ k, k < n → gcR m i g n ∣ ((m.getD i []).getD k 0).toNat
  | 0 => ⟨Nat.dvd_refl _, fun k h => by omega⟩
  | n + 1 => by
    obtain ⟨h1, h2⟩ := gcR_dvd m i (g := g) n
    have e : gcR m i g (n + 1) = Nat.gcd (gcR m i g n) ((m.getD i []).getD n 0).toNat := rfl
    rw [e]
    refine ⟨Nat.dvd_trans (Nat.gcd_dvd_left _ _) h1, fun k hk => ?_⟩
    by_cases hkn : k = n
    · subst hkn; exact Nat.gcd_dvd_right _ _
    · exact Nat.dvd_trans (Nat.gcd_dvd_left _ _) (h2 k (by omega))
theorem gcM_dvd (z : Int) (m : List (List Int)) : ∀ n, gcM z m n ∣ z.toNat ∧ ∀ i k, i < n → k < 4 → gcM z m n ∣ ((m.getD i []).getD k 0).toNat
  | 0 => ⟨Nat.dvd_refl _, fun i k h => by omega⟩
  | n + 1 => by
    obtain ⟨h1, h2⟩ := gcM_dvd z m n
    have e : gcM z m (n + 1) = gcR m n (gcM z m n) 4 := rfl
    obtain ⟨h3, h4⟩ := gcR_dvd m n (g := gcM z m n) 4
    rw [e]
    refine ⟨Nat.dvd_trans h3 h1, fun i k hi hk => ?_⟩
    by_cases hin : i = n
    · subst hin; exact h4 k hk
    · exact Nat.dvd_trans h3 (h2 i k (by omega) hk)
theorem quo_of {g : Nat} {t : Int} (hg : 0 < g) (ht : 0 ≤ t) (hd : g ∣ t.toNat) (h2 : t ≤ 100000) : ∃ q : Int, t = g * q ∧ 0 ≤ q ∧ q ≤ t ∧ W (Int.tdiv t g) = q := by
  obtain ⟨c, hc⟩ := hd
  have e : t = (g : Int) * (c : Int) := by rw [← Int.natCast_mul, ← hc]; omega
  have hcl : (c : Int) ≤ t := by
    have : c ≤ t.toNat := by rw [hc]; exact Nat.le_mul_of_pos_left c hg
    omega
  refine ⟨c, e, by omega, hcl, ?_⟩
  have e2 : Int.tdiv t g = c := by rw [e]; exact Int.mul_tdiv_cancel_left _ (by omega)
  rw [e2]
  exact wS (by omega) (by omega)

/-- the rest: quiet, with no sum beyond what plays have -/
theorem rest_facts {x y z : Int} {m : List (List Int)} (h : rsOk x y z m = true) : qpB x y z m = true ∧ quietB 2 2 (rsW z (rsN z m)) (rsM m (esBest m) (rsN z m)) = true ∧ goodB 2 2 (rsW z (rsN z m)) (rsM m (esBest m) (rsN z m)) = true ∧ rsW z (rsN z m) = 2 * z - 2 * rsN z m ∧
    pairB 2 2 (rsW z (rsN z m)) (rsM m (esBest m) (rsN z m)) = true ∧ qpB 2 2 (rsW z (rsN z m)) (rsM m (esBest m) (rsN z m)) = true ∧ (∀ i, i < 8 → (esL (rsM m (esBest m) (rsN z m))).getD i 0 ≤ 2 * (2 * z - 2 * rsN z m) ∧ -100000 ≤ (esL (rsM m (esBest m) (rsN z m))).getD i 0) := by
  have h' := h
  rw [rsOk, Bool.and_eq_true] at h'
  obtain ⟨hq, hg⟩ := h'
  obtain ⟨⟨n0, n1⟩, hS, hN, hbd⟩ := part_best hq
  have hz := (qpB_spec hq).2.2
  have hb := esBest_lt m
  have hp : pairB 2 2 (rsW z (rsN z m)) (rsM m (esBest m) (rsN z m)) = true := by rw [pairB, hg]; rfl
  have key : quietF 2 2 (rsM m (esBest m) (rsN z m)) = true ∧ ∀ i, i < 8 → (esL (rsM m (esBest m) (rsN z m))).getD i 0 ≤ 2 * (2 * z - 2 * rsN z m) ∧ -100000 ≤ (esL (rsM m (esBest m) (rsN z m))).getD i 0 := by
    clear h hg hp
    have hmx : ∀ i, i < 8 → (esL m).getD i 0 ≤ (esL m).getD (esBest m) 0 := fun i hi => bIx_ge (fun i => (esL m).getD i 0) 7 i (by omega)
    generalize esBest m = k at *
    generalize rsN z m = N at *
    obtain ⟨a0, b0, c0, d0, a1, b1, c1, d1, a2, b2, c2, d2, a3, b3, c3, d3, rfl, q⟩ := q4_of hq
    have g := gg_of q
    have q2 := q
    obtain ⟨z1, z2, p0, p1, p2, p3, c0', c1', c2', c3'⟩ := q2
    obtain ⟨A0, B0, C0⟩ := rs_row hb (x := 0) (y := 0) (by omega) (by omega) (A := a0) (B := b0) (C := c0) (D := d0) (N := N) (by omega) (by omega) (by omega) (by omega) (by omega)
    obtain ⟨A1, B1, C1⟩ := rs_row hb (x := 0) (y := 1) (by omega) (by omega) (A := a1) (B := b1) (C := c1) (D := d1) (N := N) (by omega) (by omega) (by omega) (by omega) (by omega)
    obtain ⟨A2, B2, C2⟩ := rs_row hb (x := 1) (y := 0) (by omega) (by omega) (A := a2) (B := b2) (C := c2) (D := d2) (N := N) (by omega) (by omega) (by omega) (by omega) (by omega)
    obtain ⟨A3, B3, C3⟩ := rs_row hb (x := 1) (y := 1) (by omega) (by omega) (A := a3) (B := b3) (C := c3) (D := d3) (N := N) (by omega) (by omega) (by omega) (by omega) (by omega)
    rw [rs_ex]
    refine ⟨?_, fun i hi => ?_⟩
    · rw [quiet_2, B0, B1, B2, B3, C0, C1, C2, C3]
      simp only [Bool.and_eq_true, beq_iff_eq]
      omega
    · have sgp : ∀ x y : Nat, x < 2 → y < 2 → -N ≤ N * sg k x y ∧ N * sg k x y ≤ N := fun x y hx hy => by rcases sg_pm hb hx hy with e | e <;> rw [e] <;> omega
      have s0 := sgp 0 0 (by omega) (by omega); have s1 := sgp 0 1 (by omega) (by omega); have s2 := sgp 1 0 (by omega) (by omega); have s3 := sgp 1 1 (by omega) (by omega)
      have e0 : N = 0 → sg4 k (a0 - b0 - c0 + d0) (a1 - b1 - c1 + d1) (a2 - b2 - c2 + d2) (a3 - b3 - c3 + d3) ≤ 2 * z := fun hN0 => by
        rw [← es_q4 q hb]
        have hc := (hS k hb).1
        rcases Int.lt_or_le (2 * z) ((esL [[a0, b0, c0, d0], [a1, b1, c1, d1], [a2, b2, c2, d2], [a3, b3, c3, d3]]).getD k 0) with hlt | hle
        · have := (hc hlt).2; omega
        · exact hle
      have e := gg_rest g hi hb ⟨n0, n1⟩ (fun j hj => by rw [← es_q4 q hj, ← es_q4 q hb]; exact hmx j hj) e0 (fun hN0 => by rw [← es_q4 q hb]; exact hN hN0)
      have bdg : ∀ g t : Int, -z ≤ g → g ≤ z → -N ≤ N * t → N * t ≤ N → -400000 ≤ 2 * g - 2 * N * t ∧ 2 * g - 2 * N * t ≤ 400000 := fun g t h1 h2 h3 h4 => by
        have : 2 * N * t = 2 * (N * t) := Int.mul_assoc _ _ _
        omega
      have E := (esL_get hi).trans (esTo_eq hi A0 A1 A2 A3 (bdg _ _ (by omega) (by omega) s0.1 s0.2) (bdg _ _ (by omega) (by omega) s1.1 s1.2) (bdg _ _ (by omega) (by omega) s2.1 s2.2) (bdg _ _ (by omega) (by omega) s3.1 s3.2))
      rw [E]
      refine ⟨by have := e; unfold sg4 at this; omega, ?_⟩
      have lo : ∀ u g t : Int, (u = 1 ∨ u = -1) → -z ≤ g → g ≤ z → -N ≤ N * t → N * t ≤ N → -5000 ≤ u * (2 * g - 2 * N * t) := fun u g t hu h1 h2 h3 h4 => by
        have : 2 * N * t = 2 * (N * t) := Int.mul_assoc _ _ _
        rcases hu with rfl | rfl <;> omega
      have l0 := lo _ (a0 - b0 - c0 + d0) (sg k 0 0) (sg_pm hi (x := 0) (y := 0) (by omega) (by omega)) (by omega) (by omega) s0.1 s0.2
      have l1 := lo _ (a1 - b1 - c1 + d1) (sg k 0 1) (sg_pm hi (x := 0) (y := 1) (by omega) (by omega)) (by omega) (by omega) s1.1 s1.2
      have l2 := lo _ (a2 - b2 - c2 + d2) (sg k 1 0) (sg_pm hi (x := 1) (y := 0) (by omega) (by omega)) (by omega) (by omega) s2.1 s2.2
      have l3 := lo _ (a3 - b3 - c3 + d3) (sg k 1 1) (sg_pm hi (x := 1) (y := 1) (by omega) (by omega)) (by omega) (by omega) s3.1 s3.2
      omega
  have hqb : quietB 2 2 (rsW z (rsN z m)) (rsM m (esBest m) (rsN z m)) = true := by rw [quietB, hg]; exact key.1
  refine ⟨hq, hqb, hg, ?_, hp, ?_, key.2⟩
  · unfold rsW
    rw [wS (n := 2 * z) (by omega) (by omega), wS (n := 2 * rsN z m) (by omega) (by omega), wS (by omega) (by omega)]
  · rw [qpB, hp]; exact key.1

/-- the box made again is alike -/
theorem back_facts {x y z : Int} {m : List (List Int)} (h : rsOk x y z m = true) (hj : jnOk 2 2 (rsW z (rsN z m)) (rsM m (esBest m) (rsN z m)) (esBest m : Int) (rsN z m) = true) :
    sqB 2 2 (jnV 2 2 (rsW z (rsN z m)) (rsM m (esBest m) (rsN z m)) (esBest m : Int) (rsN z m)) (jnR 2 2 (rsW z (rsN z m)) (rsM m (esBest m) (rsN z m)) (esBest m : Int) (rsN z m)) x y z m = true ∧
    aaV 2 2 (jnV 2 2 (rsW z (rsN z m)) (rsM m (esBest m) (rsN z m)) (esBest m : Int) (rsN z m)) (jnR 2 2 (rsW z (rsN z m)) (rsM m (esBest m) (rsN z m)) (esBest m : Int) (rsN z m)) x y z m = true ∧
    0 ≤ jnV 2 2 (rsW z (rsN z m)) (rsM m (esBest m) (rsN z m)) (esBest m : Int) (rsN z m) ∧ jnV 2 2 (rsW z (rsN z m)) (rsM m (esBest m) (rsN z m)) (esBest m : Int) (rsN z m) ≤ 1000 := by
  have h' := h
  rw [rsOk, Bool.and_eq_true] at h'
  obtain ⟨hq, hg⟩ := h'
  obtain ⟨⟨n0, n1⟩, _, _, _⟩ := part_best hq
  have hb := esBest_lt m
  have gm : goodB x y z m = true := by rw [qpB, Bool.and_eq_true, pairB, Bool.and_eq_true] at hq; exact hq.1.1
  obtain ⟨ex, ey, z1, z2, _, _⟩ := qpB_spec hq
  have hj' := hj
  rw [jnOk, Bool.and_eq_true] at hj'
  have hg2 := hj'.2
  rw [jnV, jnR, if_pos hj, if_pos hj]
  have eW : jnW (rsW z (rsN z m)) (rsN z m) = 2 * z := by
    unfold jnW rsW
    rw [wS (n := 2 * z) (by omega) (by omega), wS (n := 2 * rsN z m) (by omega) (by omega), wS (n := 2 * z - 2 * rsN z m) (by omega) (by omega), wS (by omega) (by omega)]; omega
  rw [eW] at hg2 ⊢
  have hz1000 : 2 * z ≤ 1000 := by
    obtain ⟨_, _, _, _, _, _, _, _, _, h8, _⟩ := goodB_spec hg2
    exact h8
  rw [jnG, eW]
  generalize esBest m = k at *
  generalize rsN z m = N at *
  obtain ⟨a0, b0, c0, d0, a1, b1, c1, d1, a2, b2, c2, d2, a3, b3, c3, d3, rfl, q⟩ := q4_of hq
  rw [jn_ex hb ⟨n0, by omega⟩ q]
  obtain ⟨_, _, p0, p1, p2, p3, _, _, _, _⟩ := q
  obtain ⟨gp, gl⟩ := gcM_bd (2 * z) [[2 * a0, 2 * b0, 2 * c0, 2 * d0], [2 * a1, 2 * b1, 2 * c1, 2 * d1], [2 * a2, 2 * b2, 2 * c2, 2 * d2], [2 * a3, 2 * b3, 2 * c3, 2 * d3]] (by omega) 4
  obtain ⟨dz, de⟩ := gcM_dvd (2 * z) [[2 * a0, 2 * b0, 2 * c0, 2 * d0], [2 * a1, 2 * b1, 2 * c1, 2 * d1], [2 * a2, 2 * b2, 2 * c2, 2 * d2], [2 * a3, 2 * b3, 2 * c3, 2 * d3]] 4
  generalize gcM (2 * z) [[2 * a0, 2 * b0, 2 * c0, 2 * d0], [2 * a1, 2 * b1, 2 * c1, 2 * d1], [2 * a2, 2 * b2, 2 * c2, 2 * d2], [2 * a3, 2 * b3, 2 * c3, 2 * d3]] 4 = g at *
  obtain ⟨p, ep, pp, pl, ew⟩ := quo_of gp (by omega) dz (by omega)
  obtain ⟨qa0, eqa0, pqa0, pla0, wa0⟩ := quo_of gp (t := 2 * a0) (by omega) (de 0 0 (by omega) (by omega)) (by omega)
  obtain ⟨qb0, eqb0, pqb0, plb0, wb0⟩ := quo_of gp (t := 2 * b0) (by omega) (de 0 1 (by omega) (by omega)) (by omega)
  obtain ⟨qc0, eqc0, pqc0, plc0, wc0⟩ := quo_of gp (t := 2 * c0) (by omega) (de 0 2 (by omega) (by omega)) (by omega)
  obtain ⟨qd0, eqd0, pqd0, pld0, wd0⟩ := quo_of gp (t := 2 * d0) (by omega) (de 0 3 (by omega) (by omega)) (by omega)
  obtain ⟨qa1, eqa1, pqa1, pla1, wa1⟩ := quo_of gp (t := 2 * a1) (by omega) (de 1 0 (by omega) (by omega)) (by omega)
  obtain ⟨qb1, eqb1, pqb1, plb1, wb1⟩ := quo_of gp (t := 2 * b1) (by omega) (de 1 1 (by omega) (by omega)) (by omega)
  obtain ⟨qc1, eqc1, pqc1, plc1, wc1⟩ := quo_of gp (t := 2 * c1) (by omega) (de 1 2 (by omega) (by omega)) (by omega)
  obtain ⟨qd1, eqd1, pqd1, pld1, wd1⟩ := quo_of gp (t := 2 * d1) (by omega) (de 1 3 (by omega) (by omega)) (by omega)
  obtain ⟨qa2, eqa2, pqa2, pla2, wa2⟩ := quo_of gp (t := 2 * a2) (by omega) (de 2 0 (by omega) (by omega)) (by omega)
  obtain ⟨qb2, eqb2, pqb2, plb2, wb2⟩ := quo_of gp (t := 2 * b2) (by omega) (de 2 1 (by omega) (by omega)) (by omega)
  obtain ⟨qc2, eqc2, pqc2, plc2, wc2⟩ := quo_of gp (t := 2 * c2) (by omega) (de 2 2 (by omega) (by omega)) (by omega)
  obtain ⟨qd2, eqd2, pqd2, pld2, wd2⟩ := quo_of gp (t := 2 * d2) (by omega) (de 2 3 (by omega) (by omega)) (by omega)
  obtain ⟨qa3, eqa3, pqa3, pla3, wa3⟩ := quo_of gp (t := 2 * a3) (by omega) (de 3 0 (by omega) (by omega)) (by omega)
  obtain ⟨qb3, eqb3, pqb3, plb3, wb3⟩ := quo_of gp (t := 2 * b3) (by omega) (de 3 1 (by omega) (by omega)) (by omega)
  obtain ⟨qc3, eqc3, pqc3, plc3, wc3⟩ := quo_of gp (t := 2 * c3) (by omega) (de 3 2 (by omega) (by omega)) (by omega)
  obtain ⟨qd3, eqd3, pqd3, pld3, wd3⟩ := quo_of gp (t := 2 * d3) (by omega) (de 3 3 (by omega) (by omega)) (by omega)
  have er : rdM [[2 * a0, 2 * b0, 2 * c0, 2 * d0], [2 * a1, 2 * b1, 2 * c1, 2 * d1], [2 * a2, 2 * b2, 2 * c2, 2 * d2], [2 * a3, 2 * b3, 2 * c3, 2 * d3]] g = [[W (Int.tdiv (2 * a0) g), W (Int.tdiv (2 * b0) g), W (Int.tdiv (2 * c0) g), W (Int.tdiv (2 * d0) g)], [W (Int.tdiv (2 * a1) g), W (Int.tdiv (2 * b1) g), W (Int.tdiv (2 * c1) g), W (Int.tdiv (2 * d1) g)], [W (Int.tdiv (2 * a2) g), W (Int.tdiv (2 * b2) g), W (Int.tdiv (2 * c2) g), W (Int.tdiv (2 * d2) g)], [W (Int.tdiv (2 * a3) g), W (Int.tdiv (2 * b3) g), W (Int.tdiv (2 * c3) g), W (Int.tdiv (2 * d3) g)]] := rfl
  have eq4 : rdM [[2 * a0, 2 * b0, 2 * c0, 2 * d0], [2 * a1, 2 * b1, 2 * c1, 2 * d1], [2 * a2, 2 * b2, 2 * c2, 2 * d2], [2 * a3, 2 * b3, 2 * c3, 2 * d3]] g = [[qa0, qb0, qc0, qd0], [qa1, qb1, qc1, qd1], [qa2, qb2, qc2, qd2], [qa3, qb3, qc3, qd3]] := by rw [er, wa0, wb0, wc0, wd0, wa1, wb1, wc1, wd1, wa2, wb2, wc2, wd2, wa3, wb3, wc3, wd3]
  have erw : rdW (2 * z) g = p := ew
  rw [eq4, erw]
  have p1p : 1 ≤ p := by
    rcases Int.lt_or_le p 1 with hlt | hle
    · have : p = 0 := by omega
      rw [this, Int.mul_zero] at ep; omega
    · exact hle
  have t0 : qa0 + qb0 + qc0 + qd0 = p := by
    refine Int.eq_of_mul_eq_mul_left (a := (g : Int)) (by omega) ?_
    rw [← ep, Int.mul_add, Int.mul_add, Int.mul_add, ← eqa0, ← eqb0, ← eqc0, ← eqd0]; omega
  have t1 : qa1 + qb1 + qc1 + qd1 = p := by
    refine Int.eq_of_mul_eq_mul_left (a := (g : Int)) (by omega) ?_
    rw [← ep, Int.mul_add, Int.mul_add, Int.mul_add, ← eqa1, ← eqb1, ← eqc1, ← eqd1]; omega
  have t2 : qa2 + qb2 + qc2 + qd2 = p := by
    refine Int.eq_of_mul_eq_mul_left (a := (g : Int)) (by omega) ?_
    rw [← ep, Int.mul_add, Int.mul_add, Int.mul_add, ← eqa2, ← eqb2, ← eqc2, ← eqd2]; omega
  have t3 : qa3 + qb3 + qc3 + qd3 = p := by
    refine Int.eq_of_mul_eq_mul_left (a := (g : Int)) (by omega) ?_
    rw [← ep, Int.mul_add, Int.mul_add, Int.mul_add, ← eqa3, ← eqb3, ← eqc3, ← eqd3]; omega
  have hgood : goodB 2 2 p [[qa0, qb0, qc0, qd0], [qa1, qb1, qc1, qd1], [qa2, qb2, qc2, qd2], [qa3, qb3, qc3, qd3]] = true := good4 p1p (by omega) (rowOk_mk pqa0 pqb0 pqc0 pqd0 t0 (by omega)) (rowOk_mk pqa1 pqb1 pqc1 pqd1 t1 (by omega)) (rowOk_mk pqa2 pqb2 pqc2 pqd2 t2 (by omega)) (rowOk_mk pqa3 pqb3 pqc3 pqd3 t3 (by omega))
  have hsq : sqB 2 2 p [[qa0, qb0, qc0, qd0], [qa1, qb1, qc1, qd1], [qa2, qb2, qc2, qd2], [qa3, qb3, qc3, qd3]] x y z [[a0, b0, c0, d0], [a1, b1, c1, d1], [a2, b2, c2, d2], [a3, b3, c3, d3]] = true := by rw [sqB, hgood, gm, ex, ey]; rfl
  have cross : ∀ t q : Int, 2 * t = g * q → q * z = t * p := fun t q e => by
    refine Int.eq_of_mul_eq_mul_left (a := (g : Int)) (by omega) ?_
    have e1 : (g : Int) * (q * z) = (2 * t) * z := by rw [← Int.mul_assoc, ← e]
    have e2 : (g : Int) * (t * p) = t * (2 * z) := by rw [Int.mul_left_comm, ← ep]
    rw [e1, e2, Int.mul_comm 2 t, Int.mul_assoc, ]
  have hal : alkB p z [[qa0, qb0, qc0, qd0], [qa1, qb1, qc1, qd1], [qa2, qb2, qc2, qd2], [qa3, qb3, qc3, qd3]] [[a0, b0, c0, d0], [a1, b1, c1, d1], [a2, b2, c2, d2], [a3, b3, c3, d3]] = true := by
    have hA : ∀ t q : Int, 2 * t = g * q → decide (W (q * z) = W (t * p)) = true := fun t q e => by rw [cross t q e]; exact decide_eq_true rfl
    show (List.range 4).all (fun i => (List.range 4).all (alkN p z [[qa0, qb0, qc0, qd0], [qa1, qb1, qc1, qd1], [qa2, qb2, qc2, qd2], [qa3, qb3, qc3, qd3]] [[a0, b0, c0, d0], [a1, b1, c1, d1], [a2, b2, c2, d2], [a3, b3, c3, d3]] i)) = true
    rw [List.all_eq_true]
    intro i hi
    rw [List.all_eq_true]
    intro n hn
    have hi := List.mem_range.1 hi
    have hn := List.mem_range.1 hn
    have ci : i = 0 ∨ i = 1 ∨ i = 2 ∨ i = 3 := by omega
    have cn : n = 0 ∨ n = 1 ∨ n = 2 ∨ n = 3 := by omega
    rcases ci with rfl | rfl | rfl | rfl <;> rcases cn with rfl | rfl | rfl | rfl
    · exact hA _ _ eqa0
    · exact hA _ _ eqb0
    · exact hA _ _ eqc0
    · exact hA _ _ eqd0
    · exact hA _ _ eqa1
    · exact hA _ _ eqb1
    · exact hA _ _ eqc1
    · exact hA _ _ eqd1
    · exact hA _ _ eqa2
    · exact hA _ _ eqb2
    · exact hA _ _ eqc2
    · exact hA _ _ eqd2
    · exact hA _ _ eqa3
    · exact hA _ _ eqb3
    · exact hA _ _ eqc3
    · exact hA _ _ eqd3
  exact ⟨hsq, by rw [aaV, hsq]; exact hal, pp, by omega⟩
end Go.Proofs.Ytkomndcehdneaaa
