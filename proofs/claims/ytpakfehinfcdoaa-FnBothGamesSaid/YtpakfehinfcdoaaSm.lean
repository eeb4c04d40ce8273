/- Finite sums. -/
import Derived.Test.YtpakfehinfcdoaaPlain
namespace Go.Aw
def sm (f : Nat → Int) : Nat → Int
  | 0 => 0
  | n + 1 => sm f n + f n
theorem sm_congr {f g : Nat → Int} : ∀ {n : Nat}, (∀ i, i < n → f i = g i) → sm f n = sm g n
  | 0, _ => rfl
  | n + 1, h => by rw [sm, sm, sm_congr (fun i hi => h i (by omega)), h n (by omega)]
theorem sm_add (f g : Nat → Int) : ∀ n, sm (fun i => f i + g i) n = sm f n + sm g n
  | 0 => rfl
  | n + 1 => by simp only [sm]; rw [sm_add f g n]; omega
theorem sm_sub (f g : Nat → Int) : ∀ n, sm (fun i => f i - g i) n = sm f n - sm g n
  | 0 => rfl
  | n + 1 => by simp only [sm]; rw [sm_sub f g n]; omega
theorem sm_bd {f : Nat → Int} {b : Int} : ∀ {n : Nat}, (∀ i, i < n → -b ≤ f i ∧ f i ≤ b) → -(n * b) ≤ sm f n ∧ sm f n ≤ n * b
  | 0, _ => by simp [sm]
  | n + 1, h => by
      have h1 := sm_bd (fun i hi => h i (Nat.lt_succ_of_lt hi)) (n := n)
      have h2 := h n (by omega)
      rw [sm, show ((n + 1 : Nat) : Int) * b = n * b + b by rw [Int.natCast_add, Int.add_mul]; simp]
      omega
theorem sm_mul (c : Int) (f : Nat → Int) : ∀ n, sm (fun i => c * f i) n = c * sm f n
  | 0 => by simp [sm]
  | n + 1 => by simp only [sm]; rw [sm_mul c f n, Int.mul_add]
theorem sm_mul_r (c : Int) (f : Nat → Int) : ∀ n, sm (fun i => f i * c) n = sm f n * c
  | 0 => by simp [sm]
  | n + 1 => by simp only [sm]; rw [sm_mul_r c f n, Int.add_mul]
theorem sm_zero : ∀ n, sm (fun _ => 0) n = 0
  | 0 => rfl
  | n + 1 => by simp only [sm]; rw [sm_zero n]; rfl
theorem sm_comm (f : Nat → Nat → Int) (k : Nat) : ∀ n, sm (fun i => sm (fun j => f i j) k) n = sm (fun j => sm (fun i => f i j) n) k
  | 0 => by simp only [sm]; exact (sm_zero k).symm
  | n + 1 => by simp only [sm]; rw [sm_comm f k n, ← sm_add]
theorem sm_le {f g : Nat → Int} : ∀ {n : Nat}, (∀ i, i < n → f i ≤ g i) → sm f n ≤ sm g n
  | 0, _ => Int.le_refl _
  | n + 1, h => by
      have h1 := sm_le (fun i hi => h i (Nat.lt_succ_of_lt hi)) (n := n)
      have h2 := h n (by omega)
      simp only [sm]; omega
theorem sm_pos {f : Nat → Int} {n : Nat} (h : ∀ i, i < n → 0 ≤ f i) : 0 ≤ sm f n := by
  have := sm_le (f := fun _ => 0) (g := f) h
  rwa [sm_zero] at this
theorem sm_flat (f : Nat → Int) (k : Nat) : ∀ n, sm (fun i => sm (fun j => f (i * k + j)) k) n = sm f (n * k)
  | 0 => by simp [sm]
  | n + 1 => by
      have hs : ∀ j, sm f (n * k + j) = sm f (n * k) + sm (fun i => f (n * k + i)) j := by
        intro j
        induction j with
        | zero => simp [sm]
        | succ j ih => rw [← Nat.add_assoc]; simp only [sm]; rw [ih]; omega
      simp only [sm]
      rw [sm_flat f k n, Nat.add_mul, Nat.one_mul, hs]
/-- sums that the machine wraps, where they stay small -/
theorem foA {g : Int → Nat → Int} {F : Nat → Int} {B K : Int} {n : Nat} (hF : ∀ x, x < n → 0 ≤ F x ∧ F x ≤ B) (hg : ∀ a x, x < n → 0 ≤ a → a ≤ K → g a x = a + F x) {a0 : Int} (h0 : 0 ≤ a0) (hB : 0 ≤ B) (hK : a0 + n * B ≤ K) :
    ∀ k, k ≤ n → fo g a0 k = a0 + sm F k ∧ a0 ≤ fo g a0 k ∧ fo g a0 k ≤ a0 + k * B
  | 0, _ => by simp [fo, sm]
  | k + 1, hk => by
      obtain ⟨h1, h2, h3⟩ := foA hF hg h0 hB hK k (by omega)
      have hf := hF k (by omega)
      have hm : (k : Int) * B ≤ n * B := Int.mul_le_mul_of_nonneg_right (by omega) hB
      have e := hg (fo g a0 k) k (by omega) (by omega) (by omega)
      have e2 : ((k + 1 : Nat) : Int) * B = k * B + B := by rw [Int.natCast_add, Int.add_mul]; simp
      simp only [fo, sm]
      rw [e, e2]
      exact ⟨by rw [h1]; omega, by omega, by omega⟩
/-- the greatest of some numbers that are 0 at least -/
theorem foM {m2 : Int → Int → Int} (hm : ∀ a b, m2 a b = if b > a then b else a) {f : Nat → Int} : ∀ {n : Nat}, (∀ k, k < n → 0 ≤ f k) →
    0 ≤ fo (fun b k => m2 b (f k)) 0 n ∧ (∀ k, k < n → f k ≤ fo (fun b k => m2 b (f k)) 0 n) ∧ (0 < n → ∃ k, k < n ∧ fo (fun b k => m2 b (f k)) 0 n = f k)
  | 0, _ => ⟨Int.le_refl _, fun k hk => absurd hk (by omega), fun h => absurd h (by omega)⟩
  | n + 1, h => by
      obtain ⟨h0, h1, h2⟩ := foM hm (fun k hk => h k (Nat.lt_succ_of_lt hk)) (n := n)
      have hn := h n (by omega)
      simp only [fo]
      rw [hm]
      split
      · rename_i hgt
        refine ⟨hn, fun k hk => ?_, fun _ => ⟨n, by omega, rfl⟩⟩
        by_cases e : k = n
        · subst e; exact Int.le_refl _
        · have := h1 k (by omega); omega
      · rename_i hgt
        refine ⟨h0, fun k hk => ?_, fun _ => ?_⟩
        · by_cases e : k = n
          · subst e; omega
          · exact h1 k (by omega)
        · by_cases hz : 0 < n
          · obtain ⟨k, hk, e⟩ := h2 hz
            exact ⟨k, by omega, e⟩
          · have : n = 0 := by omega
            subst this
            refine ⟨0, by omega, ?_⟩
            simp only [fo] at hgt ⊢
            omega
end Go.Aw
