/- Two games at once: bounds by each alone, in plain Lean. -/
import Derived.Test.YtpakfehinfcdoaaBoth2
import Derived.Test.YtpakfehinfcdoaaGame4
import Derived.Test.YtpakfehinfcdoaaSm
namespace Go.Aw

/-- weights and wins, everywhere -/
def Gm (s : List Int) (m : List (List Int)) : Prop := (∀ i, 0 ≤ s.getD i 0 ∧ s.getD i 0 ≤ 99) ∧ ∀ i r, 0 ≤ (m.getD i []).getD r 0 ∧ (m.getD i []).getD r 0 ≤ 1
theorem Gm.of {s : List Int} {m : List (List Int)} (hs : ∀ v, v ∈ s → 0 ≤ v ∧ v ≤ 99) (hm : ∀ r, r ∈ m → r.length = 4 ∧ ∀ v, v ∈ r → 0 ≤ v ∧ v ≤ 1) : Gm s m := by
  refine ⟨fun i => getD_bd (by omega) hs i, fun i r => ?_⟩
  by_cases hi : i < m.length
  · exact getD_bd (by omega) (hm _ (by rw [List.getD_eq_getElem?_getD, List.getElem?_eq_getElem hi]; exact List.getElem_mem hi)).2 r
  · have e : m.getD i [] = [] := by rw [List.getD_eq_getElem?_getD, List.getElem?_eq_none (by omega)]; rfl
    rw [e]; simp

section
variable (s s' : List Int) (m m' : List (List Int)) (gx gy hx hy : Nat)
def PP (p p' : Nat → Nat) : Int := sm (fun x => sm (fun y => s.getD (x * gy + y) 0 * (m.getD (x * gy + y) []).getD (2 * p x + p' y) 0) gy) gx
def tt (a r i j : Nat) : Int := s.getD i 0 * s'.getD j 0 * (m.getD i []).getD (2 * (a / 2) + r / 2) 0 * (m'.getD j []).getD (2 * (a % 2) + r % 2) 0
def TT (A R : Nat → Nat → Nat) : Int := sm (fun y => sm (fun z => sm (fun x => sm (fun w => tt s s' m m' (A x w) (R y z) (x * gy + y) (w * hy + z)) hx) gx) hy) gy
def WW : Int := sm (fun w => sm (fun z => s.getD (w * gy + z) 0) gy) gx
end

theorem mul01 {a v : Int} (ha : 0 ≤ a) (hv : 0 ≤ v ∧ v ≤ 1) : 0 ≤ a * v ∧ a * v ≤ a := by
  have : v = 0 ∨ v = 1 := by omega
  rcases this with rfl | rfl <;> simp <;> omega
theorem mul99 {a b : Int} (ha : 0 ≤ a ∧ a ≤ 99) (hb : 0 ≤ b ∧ b ≤ 99) : 0 ≤ a * b ∧ a * b ≤ 10000 := by
  have h1 := Int.mul_nonneg ha.1 hb.1
  have h2 : a * b ≤ 99 * 99 := Int.mul_le_mul ha.2 hb.2 hb.1 (by omega)
  omega
theorem tt_bd {s s' : List Int} {m m' : List (List Int)} (hg : Gm s m) (hh : Gm s' m') (a r i j : Nat) : 0 ≤ tt s s' m m' a r i j ∧ tt s s' m m' a r i j ≤ 10000 := by
  have h1 := mul99 (hg.1 i) (hh.1 j)
  have h2 := mul01 h1.1 (hg.2 i (2 * (a / 2) + r / 2))
  have h3 := mul01 h2.1 (hh.2 j (2 * (a % 2) + r % 2))
  unfold tt
  omega
theorem btm_tt {s s' : List Int} {m m' : List (List Int)} (hg : Gm s m) (hh : Gm s' m') (a r i j : Nat) : btm s s' m m' i j (a : Int) r = tt s s' m m' a r i j := by
  have e1 : ixA (a : Int) r = 2 * (a / 2) + r / 2 := by unfold ixA; omega
  have e2 : ixB (a : Int) r = 2 * (a % 2) + r % 2 := by unfold ixB; omega
  have h1 := mul99 (hg.1 i) (hh.1 j)
  have h2 := mul01 h1.1 (hg.2 i (2 * (a / 2) + r / 2))
  have h3 := mul01 h2.1 (hh.2 j (2 * (a % 2) + r % 2))
  have w : ∀ n : Int, 0 ≤ n → n ≤ 10000 → W n = n := fun n a b => w64 (by omega) (by omega)
  unfold btm tt
  rw [e1, e2, w _ h1.1 h1.2, w _ h2.1 (by omega), w _ h3.1 (by omega)]

section
variable {s s' : List Int} {m m' : List (List Int)} {gx gy hx hy : Nat} (hg : Gm s m) (hh : Gm s' m')
include hg hh

/-- the sum over the first player's pairs -/
theorem rw2_eq (b1 : gx ≤ 2) (b3 : hx ≤ 2) (p : List Int) (A : Nat → Nat → Nat) (hA : ∀ x w, x < gx → w < hx → p.getD (x * hx + w) 0 = A x w) (y z r : Nat) :
    rw2 s s' m m' gy hx hy p y z r gx = sm (fun x => sm (fun w => tt s s' m m' (A x w) r (x * gy + y) (w * hy + z)) hx) gx ∧
    0 ≤ rw2 s s' m m' gy hx hy p y z r gx ∧ rw2 s s' m m' gy hx hy p y z r gx ≤ 40000 := by
  have inner : ∀ (x : Nat) (a : Int), x < gx → 0 ≤ a → a ≤ 1000000 →
      rw1 s s' m m' gy hx hy p y z r a x hx = a + sm (fun w => tt s s' m m' (A x w) r (x * gy + y) (w * hy + z)) hx := by
    intro x a hx0 h0 h1
    refine (foA (g := fun a w => W (a + btm s s' m m' (x * gy + y) (w * hy + z) (p.getD (x * hx + w) 0) r)) (B := 10000) (K := 2000000) (n := hx) (fun w _ => tt_bd hg hh _ _ _ _) (fun b w hw hb hk => ?_) h0 (by omega) ?_ hx (Nat.le_refl _)).1
    · rw [hA x w hx0 hw, btm_tt hg hh]
      have := tt_bd hg hh (A x w) r (x * gy + y) (w * hy + z)
      exact w64 (by omega) (by omega)
    · have : (hx : Int) ≤ 2 := by omega
      omega
  have hb : ∀ x, x < gx → 0 ≤ sm (fun w => tt s s' m m' (A x w) r (x * gy + y) (w * hy + z)) hx ∧ sm (fun w => tt s s' m m' (A x w) r (x * gy + y) (w * hy + z)) hx ≤ 20000 := fun x _ => by
    refine ⟨sm_pos fun w _ => (tt_bd hg hh _ _ _ _).1, ?_⟩
    have := (sm_bd (b := 10000) (n := hx) (f := fun w => tt s s' m m' (A x w) r (x * gy + y) (w * hy + z)) (fun w _ => ⟨by have := (tt_bd hg hh (A x w) r (x * gy + y) (w * hy + z)).1; omega, (tt_bd hg hh _ _ _ _).2⟩)).2
    have : (hx : Int) ≤ 2 := by omega
    omega
  have key := foA (g := fun a x => rw1 s s' m m' gy hx hy p y z r a x hx) (B := 20000) (K := 1000000) (n := gx) hb (fun a x hx0 h0 h1 => inner x a hx0 h0 h1) (a0 := 0) (by omega) (by omega) (by omega) gx (Nat.le_refl _)
  have : (gx : Int) ≤ 2 := by omega
  have e : rw2 s s' m m' gy hx hy p y z r gx = fo (fun a x => rw1 s s' m m' gy hx hy p y z r a x hx) 0 gx := rfl
  rw [e]
  refine ⟨?_, by omega, by omega⟩
  rw [key.1]; omega

theorem rw3_all (b1 : gx ≤ 2) (b3 : hx ≤ 2) (p : List Int) (A : Nat → Nat → Nat) (hA : ∀ x w, x < gx → w < hx → p.getD (x * hx + w) 0 = A x w) (y z : Nat) :
    0 ≤ rw3 s s' m m' gy hx hy p y z gx 4 ∧ rw3 s s' m m' gy hx hy p y z gx 4 ≤ 40000 ∧
    (∀ r, r < 4 → sm (fun x => sm (fun w => tt s s' m m' (A x w) r (x * gy + y) (w * hy + z)) hx) gx ≤ rw3 s s' m m' gy hx hy p y z gx 4) ∧
    ∃ r, r < 4 ∧ rw3 s s' m m' gy hx hy p y z gx 4 = sm (fun x => sm (fun w => tt s s' m m' (A x w) r (x * gy + y) (w * hy + z)) hx) gx := by
  obtain ⟨h0, h1, h2⟩ := foM (m2 := mx2) (fun a b => rfl) (f := fun r => rw2 s s' m m' gy hx hy p y z r gx) (n := 4) (fun r _ => (rw2_eq hg hh b1 b3 p A hA y z r (hy := hy) (gy := gy)).2.1)
  obtain ⟨r, hr, e⟩ := h2 (by omega)
  have e0 : rw3 s s' m m' gy hx hy p y z gx 4 = fo (fun b r => mx2 b (rw2 s s' m m' gy hx hy p y z r gx)) 0 4 := rfl
  have hr2 := rw2_eq hg hh b1 b3 p A hA y z r (hy := hy) (gy := gy)
  refine ⟨by rw [e0]; exact h0, by rw [e0, e]; exact hr2.2.2, fun q hq => ?_, r, hr, by rw [e0, e]; exact hr2.1⟩
  rw [e0, ← (rw2_eq hg hh b1 b3 p A hA y z q).1]
  exact h1 q hq

theorem sm2_eq (b1 : gx ≤ 2) (b2 : gy ≤ 2) (b3 : hx ≤ 2) (b4 : hy ≤ 2) (p : List Int) (A : Nat → Nat → Nat) (hA : ∀ x w, x < gx → w < hx → p.getD (x * hx + w) 0 = A x w) :
    sm2 s s' m m' gx gy hx hy p gy = sm (fun y => sm (fun z => rw3 s s' m m' gy hx hy p y z gx 4) hy) gy := by
  have inner : ∀ (y : Nat) (a : Int), 0 ≤ a → a ≤ 1000000 → sm1 s s' m m' gx gy hx hy p a y hy = a + sm (fun z => rw3 s s' m m' gy hx hy p y z gx 4) hy := by
    intro y a h0 h1
    refine (foA (g := fun a z => W (a + rw3 s s' m m' gy hx hy p y z gx 4)) (B := 40000) (K := 2000000) (n := hy) (fun z _ => ⟨(rw3_all hg hh b1 b3 p A hA y z).1, (rw3_all hg hh b1 b3 p A hA y z).2.1⟩) (fun b z _ hb hk => ?_) h0 (by omega) ?_ hy (Nat.le_refl _)).1
    · have := rw3_all hg hh b1 b3 p A hA y z (hy := hy) (gy := gy)
      exact w64 (by omega) (by omega)
    · have : (hy : Int) ≤ 2 := by omega
      omega
  have hb : ∀ y, y < gy → 0 ≤ sm (fun z => rw3 s s' m m' gy hx hy p y z gx 4) hy ∧ sm (fun z => rw3 s s' m m' gy hx hy p y z gx 4) hy ≤ 80000 := fun y _ => by
    refine ⟨sm_pos fun z _ => (rw3_all hg hh b1 b3 p A hA y z).1, ?_⟩
    have := (sm_bd (b := 40000) (n := hy) (f := fun z => rw3 s s' m m' gy hx hy p y z gx 4) (fun z _ => ⟨by have := (rw3_all hg hh b1 b3 p A hA y z (hy := hy) (gy := gy)).1; omega, (rw3_all hg hh b1 b3 p A hA y z).2.1⟩)).2
    have : (hy : Int) ≤ 2 := by omega
    omega
  have key := foA (g := fun a y => sm1 s s' m m' gx gy hx hy p a y hy) (B := 80000) (K := 1000000) (n := gy) hb (fun a y _ h0 h1 => inner y a h0 h1) (a0 := 0) (by omega) (by omega) (by omega) gy (Nat.le_refl _)
  have e : sm2 s s' m m' gx gy hx hy p gy = fo (fun a y => sm1 s s' m m' gx gy hx hy p a y hy) 0 gy := rfl
  rw [e, key.1]; omega
end

theorem qan_div {c q : Nat} (hc : c < 256) (hq : q < 4) : qan c q = ((c / 4 ^ q % 4 : Nat) : Int) := by
  have : ∀ c : Nat, c < 256 → ∀ q : Nat, q < 4 → qan c q = ((c / 4 ^ q % 4 : Nat) : Int) := by decide +kernel
  exact this c hc q hq
theorem code_of (f : Nat → Nat) (hf : ∀ q, f q < 4) : ∀ n : Nat, ∃ c, c < 4 ^ n ∧ ∀ q, q < n → c / 4 ^ q % 4 = f q
  | 0 => ⟨0, by simp, fun q hq => absurd hq (by omega)⟩
  | n + 1 => by
      obtain ⟨c, h1, h2⟩ := code_of f hf n
      have hp : 0 < 4 ^ n := Nat.pow_pos (by omega)
      refine ⟨c + f n * 4 ^ n, ?_, fun q hq => ?_⟩
      · have h3 : f n * 4 ^ n ≤ 3 * 4 ^ n := Nat.mul_le_mul_right _ (by have := hf n; omega)
        rw [Nat.pow_succ]; omega
      · by_cases e : q = n
        · subst e
          rw [Nat.add_mul_div_right _ _ hp, Nat.div_eq_of_lt h1, Nat.zero_add]
          exact Nat.mod_eq_of_lt (hf q)
        · have hlt : q < n := by omega
          have hs : 4 ^ n = 4 ^ (n - q - 1) * 4 * 4 ^ q := by
            rw [Nat.mul_assoc, ← Nat.pow_succ', ← Nat.pow_add]; congr 1; omega
          rw [hs, ← Nat.mul_assoc, Nat.add_mul_div_right _ _ (Nat.pow_pos (by omega)), ← Nat.mul_assoc, Nat.add_mul_mod_self_right]
          exact h2 q hlt

theorem pow4 {Q : Nat} (h : Q ≤ 4) : 2 ^ (2 * Q) = 4 ^ Q ∧ 4 ^ Q ≤ 256 := by
  have : Q = 0 ∨ Q = 1 ∨ Q = 2 ∨ Q = 3 ∨ Q = 4 := by omega
  rcases this with rfl | rfl | rfl | rfl | rfl <;> decide

section
variable {s s' : List Int} {m m' : List (List Int)} {gx gy hx hy : Nat} (hg : Gm s m) (hh : Gm s' m')
include hg hh

/-- what the reference reckons, and the program -/
theorem bc_max (_a1 : 1 ≤ gx) (_a2 : 1 ≤ gy) (a3 : 1 ≤ hx) (_a4 : 1 ≤ hy) (b1 : gx ≤ 2) (b2 : gy ≤ 2) (b3 : hx ≤ 2) (b4 : hy ≤ 2) :
    (∀ A R, (∀ x w, A x w < 4) → (∀ y z, R y z < 4) → TT s s' m m' gx gy hx hy A R ≤ bc s s' m m' gy hx hy (gx * hx) (gy * hy) (2 ^ (2 * (gx * hx)))) ∧
    ∃ A R, (∀ x w, A x w < 4) ∧ (∀ y z, R y z < 4) ∧ bc s s' m m' gy hx hy (gx * hx) (gy * hy) (2 ^ (2 * (gx * hx))) = TT s s' m m' gx gy hx hy A R := by
  have hQ : gx * hx ≤ 4 := by have := Nat.mul_le_mul b1 b3; omega
  obtain ⟨p1, p2⟩ := pow4 hQ
  have hget : ∀ c, c < 256 → ∀ x w, x < gx → w < hx → (firstL c (gx * hx)).getD (x * hx + w) 0 = ((c / 4 ^ (x * hx + w) % 4 : Nat) : Int) := by
    intro c hc x w h1 h2
    have hlt := ix_lt h1 h2
    rw [firstL, range_getD hlt, qan_div hc (by omega)]
  have hsum : ∀ c, c < 256 → sm2 s s' m m' gx gy hx hy (firstL c (gx * hx)) gy = sm (fun y => sm (fun z => rw3 s s' m m' gy hx hy (firstL c (gx * hx)) y z gx 4) hy) gy := fun c hc =>
    sm2_eq hg hh b1 b2 b3 b4 _ (fun x w => c / 4 ^ (x * hx + w) % 4) (hget c hc)
  have hpos : ∀ c, c < 2 ^ (2 * (gx * hx)) → 0 ≤ sm2 s s' m m' gx gy hx hy (firstL c (gx * hx)) gy := fun c hc => by
    rw [hsum c (by omega)]
    exact sm_pos fun y _ => sm_pos fun z _ => (rw3_all hg hh b1 b3 _ _ (hget c (by omega)) y z).1
  obtain ⟨h0, h1, h2⟩ := foM (m2 := mx2) (fun a b => rfl) (f := fun c => sm2 s s' m m' gx gy hx hy (firstL c (gx * hx)) gy) (n := 2 ^ (2 * (gx * hx))) hpos
  rw [← sbc_eq s s' m m' gx gy hx hy _ (by omega)]
  refine ⟨fun A R hA hR => ?_, ?_⟩
  · obtain ⟨c, hc1, hc2⟩ := code_of (fun q => A (q / hx) (q % hx)) (fun q => hA _ _) (gx * hx)
    have hc : c < 256 := by omega
    have hAA : ∀ x w, x < gx → w < hx → (firstL c (gx * hx)).getD (x * hx + w) 0 = A x w := fun x w hx1 hw => by
      rw [hget c hc x w hx1 hw, hc2 _ (ix_lt hx1 hw)]
      have e1 : (x * hx + w) / hx = x := by rw [Nat.add_comm, Nat.add_mul_div_right _ _ (by omega), Nat.div_eq_of_lt hw, Nat.zero_add]
      have e2 : (x * hx + w) % hx = w := by rw [Nat.add_comm, Nat.add_mul_mod_self_right, Nat.mod_eq_of_lt hw]
      rw [e1, e2]
    refine Int.le_trans ?_ (h1 c (by rw [p1]; exact hc1))
    rw [hsum c hc]
    exact sm_le fun y _ => sm_le fun z _ => (rw3_all hg hh b1 b3 _ A hAA y z).2.2.1 _ (hR y z)
  · obtain ⟨c, hc, e⟩ := h2 (Nat.pow_pos (by omega))
    have hc' : c < 256 := by omega
    have hR : ∀ y z : Nat, ∃ r, r < 4 ∧ rw3 s s' m m' gy hx hy (firstL c (gx * hx)) y z gx 4 = sm (fun x => sm (fun w => tt s s' m m' (c / 4 ^ (x * hx + w) % 4) r (x * gy + y) (w * hy + z)) hx) gx :=
      fun y z => (rw3_all hg hh b1 b3 _ _ (hget c hc') y z (hy := hy)).2.2.2
    have e' : sbc s s' m m' gx gy hx hy (2 ^ (2 * (gx * hx))) = sm2 s s' m m' gx gy hx hy (firstL c (gx * hx)) gy := e
    refine ⟨fun x w => c / 4 ^ (x * hx + w) % 4, fun y z => Classical.choose (hR y z), fun x w => Nat.mod_lt _ (by omega), fun y z => (Classical.choose_spec (hR y z)).1, ?_⟩
    rw [e', hsum c hc']
    exact sm_congr fun y _ => sm_congr fun z _ => (Classical.choose_spec (hR y z)).2

end

section
variable {s s' : List Int} {m m' : List (List Int)} {gx gy hx hy : Nat}
/-- each by its own play -/
theorem TT_prod (p p' q q' : Nat → Nat) (hp : ∀ x, p x < 2) (hp' : ∀ x, p' x < 2) (hq : ∀ x, q x < 2) (hq' : ∀ x, q' x < 2) :
    TT s s' m m' gx gy hx hy (fun x w => 2 * p x + q w) (fun y z => 2 * p' y + q' z) = PP s m gx gy p p' * PP s' m' hx hy q q' := by
  have e : ∀ x w y z, tt s s' m m' (2 * p x + q w) (2 * p' y + q' z) (x * gy + y) (w * hy + z) =
      (s.getD (x * gy + y) 0 * (m.getD (x * gy + y) []).getD (2 * p x + p' y) 0) * (s'.getD (w * hy + z) 0 * (m'.getD (w * hy + z) []).getD (2 * q w + q' z) 0) := fun x w y z => by
    have h1 := hp x
    have h2 := hq w
    have h3 := hp' y
    have h4 := hq' z
    have e1 : 2 * ((2 * p x + q w) / 2) + (2 * p' y + q' z) / 2 = 2 * p x + p' y := by omega
    have e2 : 2 * ((2 * p x + q w) % 2) + (2 * p' y + q' z) % 2 = 2 * q w + q' z := by omega
    unfold tt
    rw [e1, e2]
    simp only [Int.mul_assoc, Int.mul_left_comm]
  unfold TT
  simp only [e]
  have e3 : ∀ y z, sm (fun x => sm (fun w => (s.getD (x * gy + y) 0 * (m.getD (x * gy + y) []).getD (2 * p x + p' y) 0) * (s'.getD (w * hy + z) 0 * (m'.getD (w * hy + z) []).getD (2 * q w + q' z) 0)) hx) gx =
      sm (fun x => s.getD (x * gy + y) 0 * (m.getD (x * gy + y) []).getD (2 * p x + p' y) 0) gx * sm (fun w => s'.getD (w * hy + z) 0 * (m'.getD (w * hy + z) []).getD (2 * q w + q' z) 0) hx := fun y z => by
    rw [← sm_mul_r]
    exact sm_congr fun x _ => sm_mul _ _ _
  simp only [e3]
  have e4 : ∀ y, sm (fun z => sm (fun x => s.getD (x * gy + y) 0 * (m.getD (x * gy + y) []).getD (2 * p x + p' y) 0) gx * sm (fun w => s'.getD (w * hy + z) 0 * (m'.getD (w * hy + z) []).getD (2 * q w + q' z) 0) hx) hy =
      sm (fun x => s.getD (x * gy + y) 0 * (m.getD (x * gy + y) []).getD (2 * p x + p' y) 0) gx * sm (fun z => sm (fun w => s'.getD (w * hy + z) 0 * (m'.getD (w * hy + z) []).getD (2 * q w + q' z) 0) hx) hy := fun y => sm_mul _ _ _
  simp only [e4]
  rw [sm_mul_r]
  unfold PP
  rw [sm_comm (fun x y => s.getD (x * gy + y) 0 * (m.getD (x * gy + y) []).getD (2 * p x + p' y) 0) gy gx, sm_comm (fun w z => s'.getD (w * hy + z) 0 * (m'.getD (w * hy + z) []).getD (2 * q w + q' z) 0) hy hx]
end

section
variable {s s' : List Int} {m m' : List (List Int)} {gx gy hx hy : Nat} (hg : Gm s m) (hh : Gm s' m')
include hg hh


/-- no more than the first alone, whatever the second -/
theorem TT_le {a : Int} (ha : ∀ p p' : Nat → Nat, (∀ x, p x < 2) → (∀ y, p' y < 2) → PP s m gx gy p p' ≤ a) (A R : Nat → Nat → Nat) (hA : ∀ x w, A x w < 4) (hR : ∀ y z, R y z < 4) :
    TT s s' m m' gx gy hx hy A R ≤ a * WW s' hx hy := by
  have e1 : TT s s' m m' gx gy hx hy A R ≤ sm (fun y => sm (fun z => sm (fun x => sm (fun w => s'.getD (w * hy + z) 0 * (s.getD (x * gy + y) 0 * (m.getD (x * gy + y) []).getD (2 * (A x w / 2) + R y z / 2) 0)) hx) gx) hy) gy := by
    refine sm_le fun y _ => sm_le fun z _ => sm_le fun x _ => sm_le fun w _ => ?_
    have h1 := Int.mul_nonneg (hg.1 (x * gy + y)).1 (hh.1 (w * hy + z)).1
    have h2 := mul01 h1 (hg.2 (x * gy + y) (2 * (A x w / 2) + R y z / 2))
    have h3 := mul01 h2.1 (hh.2 (w * hy + z) (2 * (A x w % 2) + R y z % 2))
    have e : s'.getD (w * hy + z) 0 * (s.getD (x * gy + y) 0 * (m.getD (x * gy + y) []).getD (2 * (A x w / 2) + R y z / 2) 0) = s.getD (x * gy + y) 0 * s'.getD (w * hy + z) 0 * (m.getD (x * gy + y) []).getD (2 * (A x w / 2) + R y z / 2) 0 := by
      simp only [Int.mul_assoc, Int.mul_left_comm]
    rw [e]
    exact h3.2
  refine Int.le_trans e1 ?_
  -- bring the second game's sums outside
  have e2 : ∀ F : Nat → Nat → Nat → Nat → Int, sm (fun y => sm (fun z => sm (fun x => sm (fun w => F x y w z) hx) gx) hy) gy = sm (fun w => sm (fun z => sm (fun x => sm (fun y => F x y w z) gy) gx) hy) hx := fun F => by
    have a1 : ∀ y z, sm (fun x => sm (fun w => F x y w z) hx) gx = sm (fun w => sm (fun x => F x y w z) gx) hx := fun y z => sm_comm _ _ _
    simp only [a1]
    have a2 : ∀ y, sm (fun z => sm (fun w => sm (fun x => F x y w z) gx) hx) hy = sm (fun w => sm (fun z => sm (fun x => F x y w z) gx) hy) hx := fun y => sm_comm _ _ _
    simp only [a2]
    rw [sm_comm]
    refine sm_congr fun w _ => ?_
    rw [sm_comm]
    exact sm_congr fun z _ => sm_comm _ _ _
  rw [e2 (fun x y w z => s'.getD (w * hy + z) 0 * (s.getD (x * gy + y) 0 * (m.getD (x * gy + y) []).getD (2 * (A x w / 2) + R y z / 2) 0))]
  unfold WW
  rw [← sm_mul]
  refine sm_le fun w _ => ?_
  rw [← sm_mul]
  refine sm_le fun z _ => ?_
  have e3 : sm (fun x => sm (fun y => s'.getD (w * hy + z) 0 * (s.getD (x * gy + y) 0 * (m.getD (x * gy + y) []).getD (2 * (A x w / 2) + R y z / 2) 0)) gy) gx = s'.getD (w * hy + z) 0 * PP s m gx gy (fun x => A x w / 2) (fun y => R y z / 2) := by
    unfold PP
    rw [← sm_mul]
    exact sm_congr fun x _ => sm_mul _ _ _
  rw [e3, Int.mul_comm a]
  exact Int.mul_le_mul_of_nonneg_left (ha _ _ (fun x => by have := hA x w; omega) (fun y => by have := hR y z; omega)) (hh.1 _).1

end

section
variable {s s' : List Int} {m m' : List (List Int)} {gx gy hx hy : Nat}
/-- the games in the other order -/
theorem TT_swap (A R : Nat → Nat → Nat) (hA : ∀ x w, A x w < 4) (hR : ∀ y z, R y z < 4) :
    TT s' s m' m hx hy gx gy (fun w x => 2 * (A x w % 2) + A x w / 2) (fun z y => 2 * (R y z % 2) + R y z / 2) = TT s s' m m' gx gy hx hy A R := by
  have e : ∀ x w y z, tt s' s m' m (2 * (A x w % 2) + A x w / 2) (2 * (R y z % 2) + R y z / 2) (w * hy + z) (x * gy + y) = tt s s' m m' (A x w) (R y z) (x * gy + y) (w * hy + z) := fun x w y z => by
    have h1 := hA x w
    have h2 := hR y z
    have e1 : 2 * ((2 * (A x w % 2) + A x w / 2) / 2) + (2 * (R y z % 2) + R y z / 2) / 2 = 2 * (A x w % 2) + R y z % 2 := by omega
    have e2 : 2 * ((2 * (A x w % 2) + A x w / 2) % 2) + (2 * (R y z % 2) + R y z / 2) % 2 = 2 * (A x w / 2) + R y z / 2 := by omega
    unfold tt
    rw [e1, e2]
    simp only [Int.mul_assoc, Int.mul_comm, Int.mul_left_comm]
  unfold TT
  simp only [e]
  rw [sm_comm]
  refine sm_congr fun y _ => sm_congr fun z _ => ?_
  rw [sm_comm]
end

section
variable {s s' : List Int} {m m' : List (List Int)} {gx gy hx hy : Nat} (hg : Gm s m) (hh : Gm s' m')
include hg hh

end

theorem bIx_max (f : Nat → Int) : ∀ n k, k ≤ n → f k ≤ f (bIx f n)
  | 0, k, hk => by have : k = 0 := by omega
                   subst this; exact Int.le_refl _
  | n + 1, k, hk => by
      have ih := bIx_max f n
      unfold bIx
      split
      · rename_i h
        by_cases e : k = n + 1
        · subst e; exact Int.le_refl _
        · have := ih k (by omega); omega
      · rename_i h
        by_cases e : k = n + 1
        · subst e; omega
        · exact ih k (by omega)
theorem plays_mem {n : Nat} (h1 : 2 ≤ n) (h4 : n ≤ 4) {l : List Int} (hl : l.length = n) (hb : ∀ v, v ∈ l → v = 0 ∨ v = 1) : ∃ k, k < (playsL n).length ∧ (playsL n).getD k [] = l := by
  have key : l ∈ playsL n := by
    have k2 : ∀ a, a ∈ [(0 : Int), 1] → ∀ b, b ∈ [(0 : Int), 1] → [a, b] ∈ playsL 2 := by decide +kernel
    have k3 : ∀ a, a ∈ [(0 : Int), 1] → ∀ b, b ∈ [(0 : Int), 1] → ∀ c, c ∈ [(0 : Int), 1] → [a, b, c] ∈ playsL 3 := by decide +kernel
    have k4 : ∀ a, a ∈ [(0 : Int), 1] → ∀ b, b ∈ [(0 : Int), 1] → ∀ c, c ∈ [(0 : Int), 1] → ∀ d, d ∈ [(0 : Int), 1] → [a, b, c, d] ∈ playsL 4 := by decide +kernel
    have q : ∀ x, x ∈ l → x ∈ [(0 : Int), 1] := fun x hx => by simpa using hb x hx
    have : n = 2 ∨ n = 3 ∨ n = 4 := by omega
    rcases this with rfl | rfl | rfl
    · match l, hl with
      | [a, b], _ => exact k2 a (q a (by simp)) b (q b (by simp))
    · match l, hl with
      | [a, b, c], _ => exact k3 a (q a (by simp)) b (q b (by simp)) c (q c (by simp))
    · match l, hl with
      | [a, b, c, d], _ => exact k4 a (q a (by simp)) b (q b (by simp)) c (q c (by simp)) d (q d (by simp))
  obtain ⟨x, hx, e⟩ := List.mem_iff_getElem.1 key
  exact ⟨x, hx, by rw [List.getD_eq_getElem?_getD, List.getElem?_eq_getElem hx, e]; rfl⟩

section
variable {s : List Int} {m : List (List Int)} {gx gy : Nat} (hg : Gm s m)
include hg
theorem score_PP (b1 : gx ≤ 2) (b2 : gy ≤ 2) (l : List Int) (p p' : Nat → Nat) (hp : ∀ x, x < gx → l.getD x 0 = p x) (hp' : ∀ y, y < gy → l.getD (gx + y) 0 = p' y) :
    scoreTo s m l gx gy gx = PP s m gx gy p p' := by
  have hb : ∀ x y, 0 ≤ s.getD (x * gy + y) 0 * (m.getD (x * gy + y) []).getD (2 * p x + p' y) 0 ∧ s.getD (x * gy + y) 0 * (m.getD (x * gy + y) []).getD (2 * p x + p' y) 0 ≤ 99 := fun x y => by
    have h1 := hg.1 (x * gy + y)
    have h2 := mul01 h1.1 (hg.2 (x * gy + y) (2 * p x + p' y))
    omega
  have inner : ∀ (x : Nat) (a : Int), x < gx → 0 ≤ a → a ≤ 1000000 → scoreRow s m l gx gy x a gy = a + sm (fun y => s.getD (x * gy + y) 0 * (m.getD (x * gy + y) []).getD (2 * p x + p' y) 0) gy := by
    intro x a hx h0 h1
    refine (foA (g := fun a k => W (a + wonAt s m l gx gy x k)) (B := 99) (K := 2000000) (n := gy) (fun y _ => hb x y) (fun b y hy hb0 hk => ?_) h0 (by omega) ?_ gy (Nat.le_refl _)).1
    · have e : bitIx l gx x y = 2 * p x + p' y := by
        unfold bitIx
        rw [hp x hx, hp' y hy]; omega
      have h2 := hb x y
      unfold wonAt
      rw [e, show W (s.getD (x * gy + y) 0 * (m.getD (x * gy + y) []).getD (2 * p x + p' y) 0) = _ from w64 (by omega) (by omega)]
      exact w64 (by omega) (by omega)
    · have : (gy : Int) ≤ 2 := by omega
      omega
  have hb2 : ∀ x, x < gx → 0 ≤ sm (fun y => s.getD (x * gy + y) 0 * (m.getD (x * gy + y) []).getD (2 * p x + p' y) 0) gy ∧ sm (fun y => s.getD (x * gy + y) 0 * (m.getD (x * gy + y) []).getD (2 * p x + p' y) 0) gy ≤ 198 := fun x _ => by
    refine ⟨sm_pos fun y _ => (hb x y).1, ?_⟩
    have := (sm_bd (b := 99) (n := gy) (f := fun y => s.getD (x * gy + y) 0 * (m.getD (x * gy + y) []).getD (2 * p x + p' y) 0) (fun y _ => ⟨by have := (hb x y).1; omega, (hb x y).2⟩)).2
    have : (gy : Int) ≤ 2 := by omega
    omega
  have key := foA (g := fun a x => scoreRow s m l gx gy x a gy) (B := 198) (K := 1000000) (n := gx) hb2 (fun a x hx h0 h1 => inner x a hx h0 h1) (a0 := 0) (by omega) (by omega) (by omega) gx (Nat.le_refl _)
  have e : scoreTo s m l gx gy gx = fo (fun a x => scoreRow s m l gx gy x a gy) 0 gx := rfl
  rw [e, key.1]
  unfold PP; omega

/-- the best play's score is the greatest -/
theorem best_max (a1 : 1 ≤ gx) (a2 : 1 ≤ gy) (b1 : gx ≤ 2) (b2 : gy ≤ 2) :
    (∀ p p' : Nat → Nat, (∀ x, p x < 2) → (∀ y, p' y < 2) → PP s m gx gy p p' ≤ scF s m gx gy (bestI s m gx gy)) ∧
    ∃ p p' : Nat → Nat, (∀ x, p x < 2) ∧ (∀ y, p' y < 2) ∧ scF s m gx gy (bestI s m gx gy) = PP s m gx gy p p' := by
  have hlen := playsL_len (gx + gy)
  have hpos : 0 < 2 ^ (gx + gy) := Nat.pow_pos (by omega)
  refine ⟨fun p p' hp hp' => ?_, ?_⟩
  · have hl : ((List.range gx).map (fun x => (p x : Int)) ++ (List.range gy).map (fun y => (p' y : Int))).length = gx + gy := by simp
    obtain ⟨k, hk, e⟩ := plays_mem (n := gx + gy) (by omega) (by omega) hl (fun v hv => by
      rcases List.mem_append.1 hv with h | h
      · obtain ⟨x, _, rfl⟩ := List.mem_map.1 h
        have := hp x; omega
      · obtain ⟨y, _, rfl⟩ := List.mem_map.1 h
        have := hp' y; omega)
    have h := bIx_max (scF s m gx gy) (2 ^ (gx + gy) - 1) k (by omega)
    have e2 : scF s m gx gy k = PP s m gx gy p p' := by
      unfold scF
      rw [e]
      refine score_PP hg b1 b2 _ p p' (fun x hx => ?_) (fun y hy => ?_)
      · rw [List.getD_eq_getElem?_getD, List.getElem?_append_left (by simpa using hx)]
        simp [hx]
      · rw [List.getD_eq_getElem?_getD, List.getElem?_append_right (by simp)]
        simp [hy]
    rw [← e2]; exact h
  · have hb := bestI_lt s m gx gy
    obtain ⟨r1, r2⟩ := playsL_row (n := gx + gy) (by omega) hb
    have hbit := fun i => getD_bd (b := 1) (by omega) r2 i
    refine ⟨fun x => (((playsL (gx + gy)).getD (bestI s m gx gy) []).getD x 0).toNat, fun y => (((playsL (gx + gy)).getD (bestI s m gx gy) []).getD (gx + y) 0).toNat, fun x => by have := hbit x; dsimp only; omega, fun y => by have := hbit (gx + y); dsimp only; omega, ?_⟩
    exact score_PP hg b1 b2 _ _ _ (fun x _ => by have := hbit x; omega) (fun y _ => by have := hbit (gx + y); omega)

theorem PP_bd (b1 : gx ≤ 2) (b2 : gy ≤ 2) (p p' : Nat → Nat) : 0 ≤ PP s m gx gy p p' ∧ PP s m gx gy p p' ≤ 400 := by
  have hb : ∀ x y, 0 ≤ s.getD (x * gy + y) 0 * (m.getD (x * gy + y) []).getD (2 * p x + p' y) 0 ∧ s.getD (x * gy + y) 0 * (m.getD (x * gy + y) []).getD (2 * p x + p' y) 0 ≤ 99 := fun x y => by
    have h1 := hg.1 (x * gy + y)
    have h2 := mul01 h1.1 (hg.2 (x * gy + y) (2 * p x + p' y))
    omega
  have hb2 : ∀ x, 0 ≤ sm (fun y => s.getD (x * gy + y) 0 * (m.getD (x * gy + y) []).getD (2 * p x + p' y) 0) gy ∧ sm (fun y => s.getD (x * gy + y) 0 * (m.getD (x * gy + y) []).getD (2 * p x + p' y) 0) gy ≤ 198 := fun x => by
    refine ⟨sm_pos fun y _ => (hb x y).1, ?_⟩
    have := (sm_bd (b := 99) (n := gy) (f := fun y => s.getD (x * gy + y) 0 * (m.getD (x * gy + y) []).getD (2 * p x + p' y) 0) (fun y _ => ⟨by have := (hb x y).1; omega, (hb x y).2⟩)).2
    have : (gy : Int) ≤ 2 := by omega
    omega
  refine ⟨sm_pos fun x _ => (hb2 x).1, ?_⟩
  have := (sm_bd (b := 198) (n := gx) (f := fun x => sm (fun y => s.getD (x * gy + y) 0 * (m.getD (x * gy + y) []).getD (2 * p x + p' y) 0) gy) (fun x _ => ⟨by have := (hb2 x).1; omega, (hb2 x).2⟩)).2
  have : (gx : Int) ≤ 2 := by omega
  unfold PP
  omega
theorem WW_bd (b1 : gx ≤ 2) (b2 : gy ≤ 2) : 0 ≤ WW s gx gy ∧ WW s gx gy ≤ 400 := by
  have hb2 : ∀ x, 0 ≤ sm (fun y => s.getD (x * gy + y) 0) gy ∧ sm (fun y => s.getD (x * gy + y) 0) gy ≤ 198 := fun x => by
    refine ⟨sm_pos fun y _ => (hg.1 _).1, ?_⟩
    have := (sm_bd (b := 99) (n := gy) (f := fun y => s.getD (x * gy + y) 0) (fun y _ => ⟨by have := (hg.1 (x * gy + y)).1; omega, (hg.1 _).2⟩)).2
    have : (gy : Int) ≤ 2 := by omega
    omega
  refine ⟨sm_pos fun x _ => (hb2 x).1, ?_⟩
  have := (sm_bd (b := 198) (n := gx) (f := fun x => sm (fun y => s.getD (x * gy + y) 0) gy) (fun x _ => ⟨by have := (hb2 x).1; omega, (hb2 x).2⟩)).2
  have : (gx : Int) ≤ 2 := by omega
  unfold WW
  omega
/-- the total, as the machine sums it -/
theorem WW_sum (hl : s.length = gx * gy) (h4 : gx * gy ≤ 9) : sumF s s.length = WW s gx gy := by
  have key := foA (g := fun a i => W (a + s.getD i 0)) (F := fun i => s.getD i 0) (B := 99) (K := 1000000) (n := s.length) (fun i _ => hg.1 i) (fun a i _ h0 h1 => by have := hg.1 i; exact w64 (by omega) (by omega)) (a0 := 0) (by omega) (by omega) (by omega) s.length (Nat.le_refl _)
  unfold WW
  rw [sm_flat (fun i => s.getD i 0), ← hl]
  have e : sumF s s.length = fo (fun a i => W (a + s.getD i 0)) 0 s.length := rfl
  rw [e, key.1]; omega
end

/-- THE LAW: two games at once are won at least as well as each alone, and never more than one of them alone -/
theorem both_law {s s' : List Int} {m m' : List (List Int)} {gx gy hx hy : Nat} (hg : Gm s m) (hh : Gm s' m') (a1 : 1 ≤ gx) (a2 : 1 ≤ gy) (a3 : 1 ≤ hx) (a4 : 1 ≤ hy) (b1 : gx ≤ 2) (b2 : gy ≤ 2) (b3 : hx ≤ 2) (b4 : hy ≤ 2) :
    scF s m gx gy (bestI s m gx gy) * scF s' m' hx hy (bestI s' m' hx hy) ≤ bc s s' m m' gy hx hy (gx * hx) (gy * hy) (2 ^ (2 * (gx * hx))) ∧
    bc s s' m m' gy hx hy (gx * hx) (gy * hy) (2 ^ (2 * (gx * hx))) ≤ scF s m gx gy (bestI s m gx gy) * WW s' hx hy ∧
    bc s' s m' m hy gx gy (hx * gx) (hy * gy) (2 ^ (2 * (hx * gx))) ≤ bc s s' m m' gy hx hy (gx * hx) (gy * hy) (2 ^ (2 * (gx * hx))) := by
  obtain ⟨u1, A, R, hA, hR, e⟩ := bc_max hg hh a1 a2 a3 a4 b1 b2 b3 b4
  obtain ⟨_, A', R', hA', hR', e'⟩ := bc_max hh hg a3 a4 a1 a2 b3 b4 b1 b2
  obtain ⟨g1, p, p', hp, hp', ep⟩ := best_max hg a1 a2 b1 b2
  obtain ⟨h1, q, q', hq, hq', eq⟩ := best_max hh a3 a4 b3 b4
  refine ⟨?_, ?_, ?_⟩
  · rw [ep, eq, ← TT_prod p p' q q' hp hp' hq hq']
    exact u1 _ _ (fun x w => by have := hp x; have := hq w; omega) (fun y z => by have := hp' y; have := hq' z; omega)
  · rw [e]
    exact TT_le hg hh g1 A R hA hR
  · rw [e', ← TT_swap A' R' hA' hR']
    exact u1 _ _ (fun x w => by have := hA' w x; omega) (fun y z => by have := hR' z y; omega)
end Go.Aw
