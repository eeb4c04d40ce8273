/- What the laws of switched sign games say of matrices: switching is a group's action, the first is the least, biases and cuts. -/
import Derived.Test.YtahllgjmjnipjaaFirst3
import Derived.Test.YtahllgjmjnipjaaSign8
import Derived.Test.YtahllgjmjnipjaaCut2
namespace Go.Aw
def sm (f : Nat → Int) : Nat → Int
  | 0 => 0
  | n + 1 => sm f n + f n
theorem sm_congr {f g : Nat → Int} : ∀ {n : Nat}, (∀ i, i < n → f i = g i) → sm f n = sm g n
  | 0, _ => rfl
  | n + 1, h => by rw [sm, sm, sm_congr (fun i hi => h i (by omega)), h n (by omega)]
theorem sm_add (f g : Nat → Int) : ∀ n, sm (fun i => f i + g i) n = sm f n + sm g n
  | 0 => rfl
  | n + 1 => by simp only [sm]; rw [sm_add f g n]; omega
theorem sm_sub (f g : Nat → Int) : ∀ n, sm (fun i => f i - g i) n = sm f n - sm g n
  | 0 => rfl
  | n + 1 => by simp only [sm]; rw [sm_sub f g n]; omega
theorem sm_bd {f : Nat → Int} {b : Int} : ∀ {n : Nat}, (∀ i, i < n → -b ≤ f i ∧ f i ≤ b) → -(n * b) ≤ sm f n ∧ sm f n ≤ n * b
  | 0, _ => by simp [sm]
  | n + 1, h => by
      have h1 := sm_bd (fun i hi => h i (Nat.lt_succ_of_lt hi)) (n := n)
      have h2 := h n (by omega)
      rw [sm, show ((n + 1 : Nat) : Int) * b = n * b + b by rw [Int.natCast_add, Int.add_mul]; simp]
      omega
end Go.Aw
namespace Go.Proofs.Ytahllgjmjnipjaa
open Go.Aw
set_option maxRecDepth 100000

theorem getD_out {α : Type} {l : List α} {i : Nat} {d : α} (h : ¬ i < l.length) : l.getD i d = d := by rw [List.getD_eq_getElem?_getD, List.getElem?_eq_none (Nat.le_of_not_lt h)]; rfl
theorem W_id {n : Int} (h1 : -9223372036854775808 ≤ n) (h2 : n ≤ 9223372036854775807) : W n = n := w64 (by omega) (by omega)
theorem rep_getD {α : Type} {n i : Nat} {a d : α} (h : i < n) : (List.replicate n a).getD i d = a := by rw [List.getD_eq_getElem?_getD, List.getElem?_replicate, if_pos h]; rfl
/-- a vector of n signs -/
def Sg (n : Nat) (l : List Int) : Prop := l.length = n ∧ ∀ x, x ∈ l → x = 1 ∨ x = -1
def mulV (a b : List Int) : List Int := List.zipWith (· * ·) a b
theorem mulV_get : ∀ (a b : List Int) (i : Nat), (mulV a b).getD i 0 = a.getD i 0 * b.getD i 0
  | [], b, i => by simp [mulV]
  | x :: a, [], i => by simp [mulV]
  | x :: a, y :: b, 0 => by simp [mulV]
  | x :: a, y :: b, i + 1 => by
      have := mulV_get a b i
      simpa [mulV] using this
theorem Sg.get {n : Nat} {l : List Int} (h : Sg n l) {i : Nat} (hi : i < n) : l.getD i 0 = 1 ∨ l.getD i 0 = -1 := h.2 _ (getD_mem (by rw [h.1]; exact hi))
theorem Sg.at {n : Nat} {l : List Int} (h : Sg n l) (i : Nat) : -1 ≤ l.getD i 0 ∧ l.getD i 0 ≤ 1 := by
  by_cases hi : i < n
  · rcases h.get hi with e | e <;> omega
  · have : l.getD i 0 = 0 := by simp [List.getD, show ¬ i < l.length by rw [h.1]; exact hi]
    omega
theorem Sg.mul {n : Nat} {a b : List Int} (ha : Sg n a) (hb : Sg n b) : Sg n (mulV a b) := by
  have hl : (mulV a b).length = n := by simp [mulV, ha.1, hb.1]
  refine ⟨hl, fun x hx => ?_⟩
  obtain ⟨i, hi, rfl⟩ := List.mem_iff_getElem.1 hx
  have e : (mulV a b)[i] = (mulV a b).getD i 0 := by simp [List.getD, hi]
  rw [e, mulV_get]
  rw [hl] at hi
  rcases ha.get hi with h1 | h1 <;> rcases hb.get hi with h2 | h2 <;> rw [h1, h2] <;> omega
theorem Sg.one (n : Nat) : Sg n (List.replicate n 1) := ⟨by simp, fun x hx => .inl (List.eq_of_mem_replicate hx)⟩
theorem Sg.neg {n : Nat} {a : List Int} (ha : Sg n a) : Sg n (a.map fun x => -x) := by
  refine ⟨by simp [ha.1], fun x hx => ?_⟩
  obtain ⟨y, hy, rfl⟩ := List.mem_map.1 hx
  rcases ha.2 y hy with h | h <;> omega

theorem sg_row {n x : Nat} (h1 : 1 ≤ n) (h3 : n ≤ 3) (h : x < (signsL n).length) : Sg n ((signsL n).getD x []) := by
  have key : ∀ n, 1 ≤ n → n ≤ 3 → ∀ l, l ∈ signsL n → l.length = n ∧ ∀ x, x ∈ l → x = 1 ∨ x = -1 := by
    intro n h1 h3
    have : n = 1 ∨ n = 2 ∨ n = 3 := by omega
    rcases this with rfl | rfl | rfl <;> decide +kernel
  exact key n h1 h3 _ (getD_mem h)
theorem Sg.mem {n : Nat} {l : List Int} (h1 : 1 ≤ n) (h3 : n ≤ 3) (h : Sg n l) : ∃ x, x < (signsL n).length ∧ (signsL n).getD x [] = l := by
  have key : l ∈ signsL n := by
    have : n = 1 ∨ n = 2 ∨ n = 3 := by omega
    obtain ⟨hl, hs⟩ := h
    have k1 : ∀ a, a ∈ [(1 : Int), -1] → [a] ∈ signsL 1 := by decide +kernel
    have k2 : ∀ a, a ∈ [(1 : Int), -1] → ∀ b, b ∈ [(1 : Int), -1] → [a, b] ∈ signsL 2 := by decide +kernel
    have k3 : ∀ a, a ∈ [(1 : Int), -1] → ∀ b, b ∈ [(1 : Int), -1] → ∀ c, c ∈ [(1 : Int), -1] → [a, b, c] ∈ signsL 3 := by decide +kernel
    have q : ∀ x, x ∈ l → x ∈ [(1 : Int), -1] := fun x hx => by simpa using hs x hx
    rcases this with rfl | rfl | rfl
    · obtain ⟨a, rfl⟩ := List.length_eq_one_iff.1 hl
      exact k1 a (q a (by simp))
    · match l, hl with
      | [a, b], _ => exact k2 a (q a (by simp)) b (q b (by simp))
    · match l, hl with
      | [a, b, c], _ => exact k3 a (q a (by simp)) b (q b (by simp)) c (q c (by simp))
  obtain ⟨x, hx, e⟩ := List.mem_iff_getElem.1 key
  exact ⟨x, hx, by simp [List.getD, hx, e]⟩

theorem goodM_of {m : List (List Int)} {n : Nat} (h1 : 1 ≤ m.length) (h2 : m.length ≤ 3) (h3 : 1 ≤ n) (h4 : n ≤ 3) (h5 : ∀ r, r ∈ m → r.length = n ∧ ∀ x, x ∈ r → -9 ≤ x ∧ x ≤ 9) : goodM m = true := by
  have h0 := (h5 _ (getD_mem (d := []) (k := 0) (by omega : 0 < m.length))).1
  simp only [goodM, inR, rowIn, Bool.and_eq_true, decide_eq_true_eq, List.all_eq_true]
  refine ⟨⟨by omega, by omega⟩, fun r hr => ?_⟩
  have := h5 r hr
  exact ⟨⟨⟨by omega, by omega⟩, by omega⟩, this.2⟩

theorem good_at {m : List (List Int)} (hg : goodM m = true) (x y : Nat) : -9 ≤ (m.getD x []).getD y 0 ∧ (m.getD x []).getD y 0 ≤ 9 := by
  obtain ⟨_, _, _, _, g5⟩ := goodM_spec hg
  by_cases hx : x < m.length
  · have := g5 _ (getD_mem (d := []) hx)
    by_cases hy : y < (m.getD x []).length
    · exact this.2 _ (getD_mem hy)
    · rw [getD_out hy]; omega
  · rw [getD_out (l := m) hx, getD_out (by simp)]; omega
theorem good_out {m : List (List Int)} {x y : Nat} (hy : ¬ y < (m.getD x []).length) : (m.getD x []).getD y 0 = 0 := by
  exact getD_out hy
theorem good_wid {m : List (List Int)} (hg : goodM m = true) {x : Nat} (hx : x < m.length) : (m.getD x []).length = (m.getD 0 []).length := by
  obtain ⟨_, _, _, _, g5⟩ := goodM_spec hg
  exact (g5 _ (getD_mem (d := []) hx)).1

theorem mul3 {a c p b : Int} (hb : 0 ≤ b) (ha : -b ≤ a ∧ a ≤ b) (hc : -1 ≤ c ∧ c ≤ 1) (hp : -1 ≤ p ∧ p ≤ 1) : (-b ≤ a * c ∧ a * c ≤ b) ∧ (-b ≤ a * c * p ∧ a * c * p ≤ b) := by
  have hc : c = -1 ∨ c = 0 ∨ c = 1 := by omega
  have hp : p = -1 ∨ p = 0 ∨ p = 1 := by omega
  rcases hc with rfl | rfl | rfl <;> rcases hp with rfl | rfl | rfl <;> simp <;> omega

theorem swAt_eq {m : List (List Int)} (hg : goodM m = true) {r p : List Int} {n k : Nat} (hr : Sg n r) (hp : Sg k p) (x y : Nat) :
    swAt m r p x y = (m.getD x []).getD y 0 * r.getD x 0 * p.getD y 0 := by
  have h := mul3 (by omega) (good_at hg x y) (hr.at x) (hp.at y)
  unfold swAt
  rw [W_id (n := (m.getD x []).getD y 0 * r.getD x 0) (by omega) (by omega), W_id (by omega) (by omega)]
theorem switchR_row {m : List (List Int)} {r p : List Int} {x : Nat} (hx : x < m.length) : (switchR m r p).getD x [] = swRow m r p x := by
  simp [switchR, List.getD, hx]
theorem switchR_at {m : List (List Int)} (hg : goodM m = true) {r p : List Int} {n k : Nat} (hr : Sg n r) (hp : Sg k p) (x y : Nat) :
    ((switchR m r p).getD x []).getD y 0 = (m.getD x []).getD y 0 * r.getD x 0 * p.getD y 0 := by
  by_cases hx : x < m.length
  · rw [switchR_row hx]
    by_cases hy : y < (m.getD x []).length
    · rw [← swAt_eq hg hr hp]
      exact range_getD hy
    · rw [good_out hy]
      simp only [Int.zero_mul]
      simp only [swRow, List.getD_eq_getElem?_getD, List.getElem?_map]
      rw [List.getElem?_eq_none (by simpa using hy)]; rfl
  · have e : m.getD x [] = [] := by simp [List.getD, hx]
    have e2 : (switchR m r p).getD x [] = [] := by simp [switchR, List.getD, hx]
    rw [e, e2]; simp
theorem shp_ext {a b : List (List Int)} (h : Shp a b) (he : ∀ x y, (a.getD x []).getD y 0 = (b.getD x []).getD y 0) : a = b := by
  refine List.ext_getElem h.1 fun x h1 h2 => ?_
  have e1 : a[x] = a.getD x [] := by simp [List.getD, h1]
  have e2 : b[x] = b.getD x [] := by simp [List.getD, h2]
  rw [e1, e2]
  refine List.ext_getElem (h.2 x) fun y h3 h4 => ?_
  have := he x y
  rw [List.getD_eq_getElem?_getD, List.getD_eq_getElem?_getD (l := b.getD x []), List.getElem?_eq_getElem h3, List.getElem?_eq_getElem h4] at this
  simpa using this

theorem switchR_good {m : List (List Int)} (hg : goodM m = true) {r p : List Int} {n k : Nat} (hr : Sg n r) (hp : Sg k p) : goodM (switchR m r p) = true := by
  obtain ⟨g1, g2, g3, g4, g5⟩ := goodM_spec hg
  have hs := switchR_shp m r p
  refine goodM_of (n := (m.getD 0 []).length) (by rw [hs.1]; omega) (by rw [hs.1]; omega) g3 g4 fun q hq => ?_
  obtain ⟨x, hx, rfl⟩ := List.mem_iff_getElem.1 hq
  have hx' : x < m.length := by rw [← hs.1]; exact hx
  have e1 : (switchR m r p)[x] = (switchR m r p).getD x [] := by simp [List.getD, hx]
  rw [e1]
  refine ⟨(hs.2 x).trans (good_wid hg hx'), fun v hv => ?_⟩
  obtain ⟨y, hy, rfl⟩ := List.mem_iff_getElem.1 hv
  have e2 : ((switchR m r p).getD x [])[y] = ((switchR m r p).getD x []).getD y 0 := by
    rw [List.getD_eq_getElem?_getD (l := (switchR m r p).getD x []), List.getElem?_eq_getElem hy]; rfl
  rw [e2, switchR_at hg hr hp]
  exact (mul3 (by omega) (good_at hg x y) (hr.at x) (hp.at y)).2
theorem switchR_mul {m : List (List Int)} (hg : goodM m = true) {r p r' p' : List Int} {n k : Nat} (hr : Sg n r) (hp : Sg k p) (hr' : Sg n r') (hp' : Sg k p') :
    switchR (switchR m r p) r' p' = switchR m (mulV r r') (mulV p p') := by
  have hg' := switchR_good hg hr hp
  refine shp_ext ((switchR_shp _ _ _).trans ((switchR_shp _ _ _).trans (switchR_shp _ _ _).symm)) fun x y => ?_
  rw [switchR_at hg' hr' hp', switchR_at hg hr hp, switchR_at hg (hr.mul hr') (hp.mul hp'), mulV_get, mulV_get]
  simp only [Int.mul_assoc, Int.mul_comm, Int.mul_left_comm]
theorem switchR_one {m : List (List Int)} (hg : goodM m = true) {r p : List Int} (hr : Sg m.length r) (hp : Sg (m.getD 0 []).length p) (h1 : ∀ x, x < m.length → r.getD x 0 = 1) (h2 : ∀ y, y < (m.getD 0 []).length → p.getD y 0 = 1) :
    switchR m r p = m := by
  refine shp_ext (switchR_shp _ _ _) fun x y => ?_
  rw [switchR_at hg hr hp]
  by_cases hx : x < m.length
  · by_cases hy : y < (m.getD x []).length
    · rw [h1 x hx, h2 y (by rw [← good_wid hg hx]; exact hy)]; omega
    · rw [good_out hy]; simp
  · have e : m.getD x [] = [] := by simp [List.getD, hx]
    rw [e]; simp

def Orb (m k : List (List Int)) : Prop := ∃ r p, Sg m.length r ∧ Sg (m.getD 0 []).length p ∧ k = switchR m r p
theorem Orb.good {m k : List (List Int)} (hg : goodM m = true) (h : Orb m k) : goodM k = true := by
  obtain ⟨r, p, hr, hp, rfl⟩ := h
  exact switchR_good hg hr hp
theorem Orb.shp {m k : List (List Int)} (h : Orb m k) : Shp k m := by
  obtain ⟨r, p, hr, hp, rfl⟩ := h
  exact switchR_shp _ _ _
theorem Orb.refl {m : List (List Int)} (hg : goodM m = true) : Orb m m :=
  ⟨_, _, Sg.one _, Sg.one _, (switchR_one hg (Sg.one _) (Sg.one _) (fun x hx => rep_getD hx) (fun y hy => rep_getD hy)).symm⟩
theorem Orb.trans {m k l : List (List Int)} (hg : goodM m = true) (h : Orb m k) (h' : Orb k l) : Orb m l := by
  have hs := h.shp
  obtain ⟨r, p, hr, hp, rfl⟩ := h
  obtain ⟨r', p', hr', hp', rfl⟩ := h'
  rw [hs.1] at hr'
  rw [hs.2 0] at hp'
  exact ⟨_, _, hr.mul hr', hp.mul hp', switchR_mul hg hr hp hr' hp'⟩
theorem Sg.sq {n : Nat} {r : List Int} (h : Sg n r) : ∀ x, x < n → (mulV r r).getD x 0 = 1 := fun x hx => by
  rw [mulV_get]
  rcases h.get hx with e | e <;> rw [e] <;> rfl
theorem Orb.symm {m k : List (List Int)} (hg : goodM m = true) (h : Orb m k) : Orb k m := by
  have hs := h.shp
  obtain ⟨r, p, hr, hp, rfl⟩ := h
  refine ⟨r, p, by rw [hs.1]; exact hr, by rw [hs.2 0]; exact hp, ?_⟩
  rw [switchR_mul hg hr hp hr hp]
  exact (switchR_one hg (hr.mul hr) (hp.mul hp) hr.sq hp.sq).symm

theorem cmpI_trans {x y z : Int} (h1 : cmpI x y ≤ 0) (h2 : cmpI y z ≤ 0) : cmpI x z ≤ 0 := by
  unfold cmpI at *
  split at h1 <;> split at h2 <;> (try split at h1) <;> (try split at h2) <;> (split <;> (try split) <;> omega)
theorem cmpG_trans {α : Type} {c : α → α → Int} (h0 : ∀ x y, c x y = 0 → x = y) (hn : ∀ x y, c y x = - c x y) (ht : ∀ {x y z}, c x y ≤ 0 → c y z ≤ 0 → c x z ≤ 0) :
    ∀ {a b d : List α}, cmpG c a b ≤ 0 → cmpG c b d ≤ 0 → cmpG c a d ≤ 0
  | [], [], [], _, _ => by simp [cmpG]
  | [], [], _ :: _, _, _ => by simp [cmpG]
  | [], _ :: _, [], _, h2 => by simp [cmpG] at h2
  | [], _ :: _, _ :: _, _, _ => by simp [cmpG]
  | _ :: _, [], _, h1, _ => by simp [cmpG] at h1
  | _ :: _, _ :: _, [], _, h2 => by simp [cmpG] at h2
  | x :: a, y :: b, z :: d, h1, h2 => by
      unfold cmpG at h1 h2 ⊢
      by_cases e1 : c x y = 0
      · rw [if_pos e1] at h1
        obtain rfl := h0 _ _ e1
        by_cases e2 : c x z = 0
        · rw [if_pos e2] at h2 ⊢
          exact cmpG_trans h0 hn ht h1 h2
        · rw [if_neg e2] at h2 ⊢
          exact h2
      · rw [if_neg e1] at h1
        by_cases e2 : c y z = 0
        · obtain rfl := h0 _ _ e2
          rw [if_neg e1]
          exact h1
        · rw [if_neg e2] at h2
          by_cases e3 : c x z = 0
          · obtain rfl := h0 _ _ e3
            have := hn x y
            omega
          · rw [if_neg e3]
            exact ht h1 h2
theorem cmpR_trans {x y z : List Int} (h1 : cmpR x y ≤ 0) (h2 : cmpR y z ≤ 0) : cmpR x z ≤ 0 := cmpG_trans (fun _ _ => cmpI_zero) cmpI_neg cmpI_trans h1 h2
theorem cmpL_trans {x y z : List (List Int)} (h1 : cmpL x y ≤ 0) (h2 : cmpL y z ≤ 0) : cmpL x z ≤ 0 := cmpG_trans (fun _ _ => cmpR_zero) cmpR_neg cmpR_trans h1 h2

theorem fStep_min (m b : List (List Int)) (x y : Nat) : cmpL (fStep m b x y) b ≤ 0 ∧ cmpL (fStep m b x y) (fSw m x y) ≤ 0 := by
  unfold fStep
  split
  · exact ⟨by omega, by rw [cmpL_refl]; omega⟩
  · exact ⟨by rw [cmpL_refl]; omega, by have := cmpL_neg (fSw m x y) b; omega⟩
theorem fIn_min (m b : List (List Int)) (x : Nat) : ∀ y, cmpL (fIn m b x y) b ≤ 0 ∧ ∀ k, k < y → cmpL (fIn m b x y) (fSw m x k) ≤ 0
  | 0 => ⟨by show cmpL b b ≤ 0; rw [cmpL_refl]; omega, fun k hk => absurd hk (by omega)⟩
  | y + 1 => by
      have h := fStep_min m (fIn m b x y) x y
      obtain ⟨h1, h2⟩ := fIn_min m b x y
      rw [fIn_succ]
      refine ⟨cmpL_trans h.1 h1, fun k hk => ?_⟩
      by_cases e : k = y
      · subst e; exact h.2
      · exact cmpL_trans h.1 (h2 k (by omega))
theorem fOut_min (m : List (List Int)) : ∀ x, ∀ j, j < x → ∀ k, k < (fP m).length → cmpL (fOut m x) (fSw m j k) ≤ 0
  | 0 => fun j hj => absurd hj (by omega)
  | x + 1 => fun j hj k hk => by
      obtain ⟨h1, h2⟩ := fIn_min m (fOut m x) x (fP m).length
      rw [fOut_succ]
      by_cases e : j = x
      · subst e; exact h2 k hk
      · exact cmpL_trans h1 (fOut_min m x j (by omega) k hk)
def FIx (m b : List (List Int)) : Prop := ∃ j k, j < (fR m).length ∧ k < (fP m).length ∧ b = fSw m j k
theorem fIn_ix {m b : List (List Int)} {x : Nat} (hb : FIx m b) (hx : x < (fR m).length) : ∀ y, y ≤ (fP m).length → FIx m (fIn m b x y)
  | 0, _ => hb
  | y + 1, hy => by
      rw [fIn_succ, fStep]
      split
      · exact ⟨x, y, hx, by omega, rfl⟩
      · exact fIn_ix hb hx y (by omega)
theorem fOut_ix (m : List (List Int)) : ∀ x, x ≤ (fR m).length → FIx m (fOut m x)
  | 0, _ => ⟨0, 0, fR_pos m, fP_pos m, rfl⟩
  | x + 1, hx => by rw [fOut_succ]; exact fIn_ix (fOut_ix m x (by omega)) (by omega) _ (Nat.le_refl _)
theorem firstF_orb {m : List (List Int)} (hg : goodM m = true) : Orb m (firstF m) := by
  obtain ⟨g1, g2, g3, g4, g5⟩ := goodM_spec hg
  obtain ⟨j, k, hj, hk, e⟩ := fOut_ix m (fR m).length (Nat.le_refl _)
  exact ⟨_, _, sg_row g1 g2 hj, sg_row g3 g4 hk, e⟩
theorem firstF_le {m k : List (List Int)} (hg : goodM m = true) (h : Orb m k) : cmpL (firstF m) k ≤ 0 := by
  obtain ⟨g1, g2, g3, g4, g5⟩ := goodM_spec hg
  obtain ⟨r, p, hr, hp, rfl⟩ := h
  obtain ⟨i, hi, rfl⟩ := hr.mem g1 g2
  obtain ⟨j, hj, rfl⟩ := hp.mem g3 g4
  exact fOut_min m _ i hi j hj
theorem Orb.first {m n : List (List Int)} (hg : goodM m = true) (h : Orb m n) : firstF n = firstF m := by
  have hn := h.good hg
  have h1 := firstF_le hg (h.trans hg (firstF_orb hn))
  have h2 := firstF_le hn ((h.symm hg).trans hn (firstF_orb hg))
  have h3 := cmpL_neg (firstF m) (firstF n)
  exact (cmpL_zero (by omega)).symm
theorem firstF_good {m : List (List Int)} (hg : goodM m = true) : goodM (firstF m) = true := (firstF_orb hg).good hg
theorem firstF_idem {m : List (List Int)} (hg : goodM m = true) : firstF (firstF m) = firstF m := (firstF_orb hg).first hg
theorem first_orb {m n : List (List Int)} (hg : goodM m = true) (hn : goodM n = true) (h : firstF m = firstF n) : Orb m n := by
  have := firstF_orb hg
  rw [h] at this
  exact this.trans hg ((firstF_orb hn).symm hn)

/-- the sum, without the machine's wrap -/
def SS (m : List (List Int)) (r p : List Int) : Int := sm (fun x => sm (fun y => (m.getD x []).getD y 0 * r.getD x 0 * p.getD y 0) (m.getD x []).length) m.length
def Un (l : List Int) : Prop := ∀ i, -1 ≤ l.getD i 0 ∧ l.getD i 0 ≤ 1
theorem Sg.un {n : Nat} {l : List Int} (h : Sg n l) : Un l := h.at
theorem sumRow_eq {m : List (List Int)} (hg : goodM m = true) {r p : List Int} (hr : Un r) (hp : Un p) (x : Nat) (s : Int) (hs : -1000 ≤ s ∧ s ≤ 1000) : ∀ n : Nat, n ≤ 3 →
    sumRow (m.getD x []) p (r.getD x 0) s n = s + sm (fun y => (m.getD x []).getD y 0 * r.getD x 0 * p.getD y 0) n
  | 0, _ => by show s = s + 0; omega
  | n + 1, hn => by
      have h := mul3 (by omega) (good_at hg x n) (hr x) (hp n)
      have hb := sm_bd (b := 9) (n := n) (f := fun y => (m.getD x []).getD y 0 * r.getD x 0 * p.getD y 0) (fun y _ => (mul3 (by omega) (good_at hg x y) (hr x) (hp y)).2)
      rw [sumRow_succ, sumRow_eq hg hr hp x s hs n (by omega), W_id (n := (m.getD x []).getD n 0 * r.getD x 0) (by omega) (by omega), W_id (n := (m.getD x []).getD n 0 * r.getD x 0 * p.getD n 0) (by omega) (by omega), W_id (by omega) (by omega), sm]
      omega
theorem sumTo_eq {m : List (List Int)} (hg : goodM m = true) {r p : List Int} (hr : Un r) (hp : Un p) : ∀ n : Nat, n ≤ m.length →
    sumTo m r p n = sm (fun x => sm (fun y => (m.getD x []).getD y 0 * r.getD x 0 * p.getD y 0) (m.getD x []).length) n ∧ -(n * 27 : Int) ≤ sumTo m r p n ∧ sumTo m r p n ≤ n * 27
  | 0, _ => ⟨rfl, by show _ ≤ (0 : Int); omega, by show (0 : Int) ≤ _; omega⟩
  | n + 1, hn => by
      obtain ⟨g1, g2, g3, g4, g5⟩ := goodM_spec hg
      obtain ⟨h1, h2, h3⟩ := sumTo_eq hg hr hp n (by omega)
      have hw := good_wid hg (x := n) (by omega)
      have e : sumTo m r p (n + 1) = sumRow (m.getD n []) p (r.getD n 0) (sumTo m r p n) (m.getD n []).length := rfl
      rw [e, sumRow_eq hg hr hp n _ (by omega) _ (by omega), sm, h1]
      have hb := sm_bd (b := 9) (n := (m.getD n []).length) (f := fun y => (m.getD n []).getD y 0 * r.getD n 0 * p.getD y 0) (fun y _ => (mul3 (by omega) (good_at hg n y) (hr n) (hp y)).2)
      rw [h1] at h2 h3
      refine ⟨rfl, ?_, ?_⟩ <;> (have : (m.getD n []).length ≤ 3 := by omega) <;> omega
theorem sumW_eq {m : List (List Int)} (hg : goodM m = true) {r p : List Int} (hr : Un r) (hp : Un p) : sumW m r p = SS m r p ∧ -81 ≤ SS m r p ∧ SS m r p ≤ 81 := by
  obtain ⟨g1, g2, g3, g4, g5⟩ := goodM_spec hg
  obtain ⟨h1, h2, h3⟩ := sumTo_eq hg hr hp m.length (Nat.le_refl _)
  have : sumW m r p = SS m r p := h1
  refine ⟨this, ?_, ?_⟩ <;> rw [← this] <;> (show _ ≤ _) <;> simp only [sumW] <;> omega

theorem SS_switch {m : List (List Int)} (hg : goodM m = true) {r p a b : List Int} {n k : Nat} (hr : Sg n r) (hp : Sg k p) : SS (switchR m r p) a b = SS m (mulV r a) (mulV p b) := by
  have hs := switchR_shp m r p
  unfold SS
  rw [hs.1]
  refine sm_congr fun x _ => ?_
  rw [hs.2 x]
  refine sm_congr fun y _ => ?_
  rw [switchR_at hg hr hp, mulV_get, mulV_get]
  simp only [Int.mul_assoc, Int.mul_comm, Int.mul_left_comm]

/-- the greatest of the sums -/
theorem inI_le {m R P : List (List Int)} {acc : Nat × Nat} {x : Nat} : ∀ y, (sumW m (R.getD acc.1 []) (P.getD acc.2 []) ≤ sumW m (R.getD (inI m R P acc x y).1 []) (P.getD (inI m R P acc x y).2 [])) ∧
    ∀ k, k < y → sumW m (R.getD x []) (P.getD k []) ≤ sumW m (R.getD (inI m R P acc x y).1 []) (P.getD (inI m R P acc x y).2 [])
  | 0 => ⟨Int.le_refl _, fun k hk => absurd hk (by omega)⟩
  | y + 1 => by
      obtain ⟨h1, h2⟩ := inI_le (m := m) (R := R) (P := P) (acc := acc) (x := x) y
      rw [inI_succ]
      unfold stepI
      split
      · rename_i h
        refine ⟨by simp only; omega, fun k hk => ?_⟩
        by_cases e : k = y
        · subst e; exact Int.le_refl _
        · have := h2 k (by omega)
          simp only; omega
      · rename_i h
        refine ⟨h1, fun k hk => ?_⟩
        by_cases e : k = y
        · subst e; omega
        · exact h2 k (by omega)
theorem outI_le {m R P : List (List Int)} : ∀ x, ∀ j, j < x → ∀ k, k < P.length → sumW m (R.getD j []) (P.getD k []) ≤ sumW m (R.getD (outI m R P x).1 []) (P.getD (outI m R P x).2 [])
  | 0 => fun j hj => absurd hj (by omega)
  | x + 1 => fun j hj k hk => by
      obtain ⟨h1, h2⟩ := inI_le (m := m) (R := R) (P := P) (acc := outI m R P x) (x := x) P.length
      rw [outI_succ]
      by_cases e : j = x
      · subst e; exact h2 k hk
      · exact Int.le_trans (outI_le x j (by omega) k hk) h1
theorem bias_ge {m : List (List Int)} (hg : goodM m = true) {r p : List Int} (hr : Sg m.length r) (hp : Sg (m.getD 0 []).length p) : SS m r p ≤ biasOf m := by
  obtain ⟨g1, g2, g3, g4, g5⟩ := goodM_spec hg
  rw [← (sumW_eq hg hr.un hp.un).1, biasOf, if_pos hg]
  obtain ⟨i, hi, rfl⟩ := hr.mem g1 g2
  obtain ⟨j, hj, rfl⟩ := hp.mem g3 g4
  exact outI_le _ i hi j hj
theorem bias_at {m : List (List Int)} (hg : goodM m = true) : ∃ r p, Sg m.length r ∧ Sg (m.getD 0 []).length p ∧ biasOf m = SS m r p := by
  obtain ⟨g1, g2, g3, g4, g5⟩ := goodM_spec hg
  have h := outI_lt (m := m) (R := sgR m) (P := sgP m) (by rw [sgR, signsL_len]; exact two_pow_pos _) (by rw [sgP, signsL_len]; exact two_pow_pos _) (sgR m).length (Nat.le_refl _)
  have hr := sg_row g1 g2 h.1
  have hp := sg_row g3 g4 h.2
  exact ⟨_, _, hr, hp, by rw [biasOf, if_pos hg]; exact (sumW_eq hg hr.un hp.un).1⟩
theorem bias_le {m : List (List Int)} (hg : goodM m = true) : -81 ≤ biasOf m ∧ biasOf m ≤ 81 := by
  obtain ⟨r, p, hr, hp, e⟩ := bias_at hg
  rw [e]; exact (sumW_eq hg hr.un hp.un).2
theorem Orb.bias1 {m n : List (List Int)} (hg : goodM m = true) (h : Orb m n) : biasOf n ≤ biasOf m := by
  have hn := h.good hg
  have hs := h.shp
  obtain ⟨a, b, ha, hb, e⟩ := bias_at hn
  rw [hs.1] at ha
  rw [hs.2 0] at hb
  obtain ⟨r, p, hr, hp, rfl⟩ := h
  rw [e, SS_switch hg hr hp]
  exact bias_ge hg (hr.mul ha) (hp.mul hb)
theorem Orb.bias {m n : List (List Int)} (hg : goodM m = true) (h : Orb m n) : biasOf n = biasOf m :=
  Int.le_antisymm (h.bias1 hg) ((h.symm hg).bias1 (h.good hg))

theorem half_at {n : Nat} {l : List Int} (h : Sg n l) (i : Nat) : 2 * (halfL l).getD i 0 = (if i < n then l.getD i 0 + 1 else 0) ∧ 0 ≤ (halfL l).getD i 0 ∧ (halfL l).getD i 0 ≤ 1 := by
  by_cases hi : i < n
  · have e : (halfL l).getD i 0 = halfOf (l.getD i 0) := by simp [halfL, List.getD, show i < l.length by rw [h.1]; exact hi]
    rw [e, if_pos hi]
    rcases h.get hi with k | k <;> rw [k] <;> decide +kernel
  · have e : (halfL l).getD i 0 = 0 := by simp [halfL, List.getD, show ¬ i < l.length by rw [h.1]; exact hi]
    rw [e, if_neg hi]; decide
theorem half_un {n : Nat} {l : List Int} (h : Sg n l) : Un (halfL l) := fun i => by have := (half_at h i).2; omega
theorem cutStep_ge (m : List (List Int)) (acc : Int) (r p : List Int) : acc ≤ cutStep m acc r p ∧ sumW m r p ≤ cutStep m acc r p ∧ W (0 - sumW m r p) ≤ cutStep m acc r p := by
  unfold cutStep; omega
theorem cutIn_ge (m : List (List Int)) (r : List Int) (P : Nat → List Int) (acc : Int) : ∀ b, acc ≤ cutIn m r P acc b ∧ ∀ k, k < b → sumW m r (P k) ≤ cutIn m r P acc b ∧ W (0 - sumW m r (P k)) ≤ cutIn m r P acc b
  | 0 => ⟨Int.le_refl _, fun k hk => absurd hk (by omega)⟩
  | b + 1 => by
      obtain ⟨h1, h2⟩ := cutIn_ge m r P acc b
      have h := cutStep_ge m (cutIn m r P acc b) r (P b)
      rw [cutIn_succ]
      refine ⟨by omega, fun k hk => ?_⟩
      by_cases e : k = b
      · subst e; omega
      · have := h2 k (by omega); omega
theorem cutOut_ge (m : List (List Int)) (R P : Nat → List Int) (nP : Nat) : ∀ a, ∀ j, j < a → ∀ k, k < nP → sumW m (R j) (P k) ≤ cutOut m R P nP a ∧ W (0 - sumW m (R j) (P k)) ≤ cutOut m R P nP a
  | 0 => fun j hj => absurd hj (by omega)
  | a + 1 => fun j hj k hk => by
      have e1 : cutOut m R P nP (a + 1) = cutIn m (R a) P (cutOut m R P nP a) nP := rfl
      obtain ⟨h1, h2⟩ := cutIn_ge m (R a) P (cutOut m R P nP a) nP
      rw [e1]
      by_cases e : j = a
      · subst e; exact h2 k hk
      · have := cutOut_ge m R P nP a j (by omega) k hk; omega
theorem cut_ge {m : List (List Int)} (hg : goodM m = true) {r p : List Int} (hr : Sg m.length r) (hp : Sg (m.getD 0 []).length p) : SS m (halfL r) (halfL p) ≤ cutOf m ∧ - SS m (halfL r) (halfL p) ≤ cutOf m := by
  obtain ⟨g1, g2, g3, g4, g5⟩ := goodM_spec hg
  obtain ⟨e, h1, h2⟩ := sumW_eq hg (half_un hr) (half_un hp)
  rw [cutOf, if_pos hg, ← cut_eq m hg, cutRef]
  obtain ⟨i, hi, rfl⟩ := hr.mem g1 g2
  obtain ⟨j, hj, rfl⟩ := hp.mem g3 g4
  rw [signsL_len] at hi hj
  have := cutOut_ge m (fun a => halfL ((sgR m).getD a [])) (fun b => halfL ((sgP m).getD b [])) (2 ^ (m.getD 0 []).length) (2 ^ m.length) i hi j hj
  simp only [sgR, sgP] at this
  rw [e, W_id (by omega) (by omega)] at this
  simp only [sgR, sgP]
  omega
theorem cutIn_le (m : List (List Int)) (r : List Int) (P : Nat → List Int) (acc B : Int) (h0 : acc ≤ B) (hk : ∀ k, sumW m r (P k) ≤ B ∧ W (0 - sumW m r (P k)) ≤ B) : ∀ b, cutIn m r P acc b ≤ B
  | 0 => h0
  | b + 1 => by
      have h1 := cutIn_le m r P acc B h0 hk b
      have := hk b
      rw [cutIn_succ, cutStep]; omega
theorem SS_split {m : List (List Int)} (hg : goodM m = true) {r p : List Int} (hr : Sg m.length r) (hp : Sg (m.getD 0 []).length p) :
    SS m r p = SS m (halfL r) (halfL p) - SS m (halfL r) (halfL (p.map fun x => -x)) - SS m (halfL (r.map fun x => -x)) (halfL p) + SS m (halfL (r.map fun x => -x)) (halfL (p.map fun x => -x)) := by
  have hx : ∀ {n : Nat} {l : List Int} (h : Sg n l) (i : Nat), l.getD i 0 = (halfL l).getD i 0 - (halfL (l.map fun x => -x)).getD i 0 := by
    intro n l h i
    have h1 := (half_at h i).1
    have h2 := (half_at h.neg i).1
    have e : (l.map fun x => -x).getD i 0 = - l.getD i 0 := by
      by_cases hi : i < l.length <;> simp [List.getD, hi]
    rw [e] at h2
    by_cases hi : i < n
    · rw [if_pos hi] at h1 h2; omega
    · rw [if_neg hi] at h1 h2
      have : l.getD i 0 = 0 := by simp [List.getD, show ¬ i < l.length by rw [h.1]; exact hi]
      omega
  unfold SS
  rw [← sm_sub, ← sm_sub, ← sm_add]
  refine sm_congr fun x _ => ?_
  rw [← sm_sub, ← sm_sub, ← sm_add]
  refine sm_congr fun y _ => ?_
  rw [hx hr x, hx hp y]
  simp only [Int.mul_sub, Int.sub_mul]
  omega
theorem bias_cut {m : List (List Int)} (hg : goodM m = true) : biasOf m ≤ 4 * cutOf m := by
  obtain ⟨r, p, hr, hp, e⟩ := bias_at hg
  have h1 := cut_ge hg hr hp
  have h2 := cut_ge hg hr hp.neg
  have h3 := cut_ge hg hr.neg hp
  have h4 := cut_ge hg hr.neg hp.neg
  have := SS_split hg hr hp
  omega
end Go.Proofs.Ytahllgjmjnipjaa
