/- Sums of sign games with agreements: reference and program. -/
import Derived.Test.YtpakfehinfcdoaaSign5
import Derived.Test.YtpakfehinfcdoaaWorth
namespace Go.Aw
theorem Wk (a : Int) : ∃ k, W a = a + 18446744073709551616 * k := by
  refine ⟨-((a + 9223372036854775808) / 18446744073709551616), ?_⟩
  show IntKind.i64.wrap a = _
  rw [IntKind.wrap_i64]
  omega
theorem Weq {a b k : Int} (h : a = b + 18446744073709551616 * k) : W a = W b := by
  show IntKind.i64.wrap a = IntKind.i64.wrap b
  rw [IntKind.wrap_i64, IntKind.wrap_i64]
  omega
theorem Wadd1 (a b : Int) : W (W a + b) = W (a + b) := by obtain ⟨k, e⟩ := Wk a; rw [e]; exact Weq (k := k) (by omega)
theorem Wadd2 (a b : Int) : W (a + W b) = W (a + b) := by obtain ⟨k, e⟩ := Wk b; rw [e]; exact Weq (k := k) (by omega)
theorem Wsub1 (a b : Int) : W (W a - b) = W (a - b) := by obtain ⟨k, e⟩ := Wk a; rw [e]; exact Weq (k := k) (by omega)
theorem Wsub2 (a b : Int) : W (a - W b) = W (a - b) := by obtain ⟨k, e⟩ := Wk b; rw [e]; exact Weq (k := -k) (by omega)
theorem Wmul1 (a b : Int) : W (W a * b) = W (a * b) := by
  obtain ⟨k, e⟩ := Wk a; rw [e]; exact Weq (k := k * b) (by rw [Int.add_mul, Int.mul_assoc])
theorem Wmul2 (a b : Int) : W (a * W b) = W (a * b) := by rw [Int.mul_comm, Wmul1, Int.mul_comm]
theorem fo_flat {α : Type} (f : α → Nat → α) (ny : Nat) (a : α) : ∀ n, fo (fun a i => fo (fun a k => f a (i * ny + k)) a ny) a n = fo f a (n * ny)
  | 0 => by rw [Nat.zero_mul]; rfl
  | n + 1 => by
    have key : ∀ k, fo (fun a k => f a (n * ny + k)) (fo f a (n * ny)) k = fo f a (n * ny + k) := by
      intro k
      induction k with
      | zero => rfl
      | succ k ih => show f (fo (fun a k => f a (n * ny + k)) (fo f a (n * ny)) k) (n * ny + k) = f (fo f a (n * ny + k)) (n * ny + k); rw [ih]
    show fo (fun a k => f a (n * ny + k)) (fo (fun a i => fo (fun a k => f a (i * ny + k)) a ny) a n) ny = _
    rw [fo_flat f ny a n, key, Nat.succ_mul]
theorem flat_getD {β : Type} (g : Int → β) (ny : Nat) (d : β) : ∀ (m : List (List Int)) (i k : Nat), (∀ r, r ∈ m → r.length = ny) → i < m.length → k < ny → (m.flatMap (fun r => r.map g)).getD (i * ny + k) d = g ((m.getD i []).getD k 0)
  | [], _, _, _, h, _ => by simp at h
  | r :: m, 0, k, hr, _, hk => by
    have hl := hr r (by simp)
    simp only [List.flatMap_cons, Nat.zero_mul, Nat.zero_add, List.getD_cons_zero]
    rw [List.getD_eq_getElem?_getD, List.getElem?_append_left (by simp; omega), ← List.getD_eq_getElem?_getD, map_getD (d := 0) (by omega)]
  | r :: m, i + 1, k, hr, hi, hk => by
    have hl := hr r (by simp)
    have ih := flat_getD g ny d m i k (fun q hq => hr q (by simp [hq])) (by simpa using hi) hk
    simp only [List.flatMap_cons, List.getD_cons_succ]
    rw [List.getD_eq_getElem?_getD, List.getElem?_append_right (by simp only [List.length_map]; rw [Nat.succ_mul]; omega), ← List.getD_eq_getElem?_getD]
    rw [show (i + 1) * ny + k - (r.map g).length = i * ny + k by rw [List.length_map, hl, Nat.succ_mul]; omega]
    exact ih
end Go.Aw
namespace Go.Proofs.Ytpakfehinfcdoaa
open Go.Aw
set_option maxRecDepth 100000
set_option maxHeartbeats 4000000

def swC (m bm : List (List Int)) (ny : Nat) (a : Int) (i k : Nat) : Int := W (a + W ((m.getD i []).getD k 0 * agr (bm.getD (i * ny + k) [])))
def swRw (m bm : List (List Int)) (ny i : Nat) (a : Int) (n : Nat) : Int := fo (fun a k => swC m bm ny a i k) a n
def swTo (m bm : List (List Int)) (ny n : Nat) : Int := fo (fun a i => swRw m bm ny i a ny) 0 n

theorem wRow_fn (f bm : List (List Int)) (p : Nat) (n a : Int) (hf : f.getD p [] = fnAt n) : wRow f bm p a 4 = W (a + W (n * agr (bm.getD p []))) := by
  show W (W (W (W (a + W ((f.getD p []).getD 0 0 * (bm.getD p []).getD 0 0)) + W ((f.getD p []).getD 1 0 * (bm.getD p []).getD 1 0)) + W ((f.getD p []).getD 2 0 * (bm.getD p []).getD 2 0)) + W ((f.getD p []).getD 3 0 * (bm.getD p []).getD 3 0)) = _
  rw [hf]
  show W (W (W (W (a + W (n * (bm.getD p []).getD 0 0)) + W (W (0 - n) * (bm.getD p []).getD 1 0)) + W (W (0 - n) * (bm.getD p []).getD 2 0)) + W (n * (bm.getD p []).getD 3 0)) = _
  unfold agr
  generalize (bm.getD p []).getD 0 0 = r0
  generalize (bm.getD p []).getD 1 0 = r1
  generalize (bm.getD p []).getD 2 0 = r2
  generalize (bm.getD p []).getD 3 0 = r3
  simp only [Wadd1, Wadd2, Wsub1, Wmul1, Wmul2]
  congr 1
  rw [Int.mul_add, Int.mul_sub, Int.mul_sub, Int.sub_mul, Int.sub_mul, Int.zero_mul, Int.zero_mul]
  omega

theorem worth_sw (m bm : List (List Int)) (ny : Nat) (hm : ∀ r, r ∈ m → r.length = ny) (hb : bm.length = m.length * ny) : worthF (functionalL m) bm = swTo m bm ny m.length := by
  unfold worthF wTo swTo
  rw [hb, ← fo_flat]
  refine fo_congr fun a i hi => fo_congr fun b k hk => ?_
  exact wRow_fn _ _ _ _ _ (flat_getD fnAt ny [] m i k hm hi hk)

def swOk (m : List (List Int)) (x y z : Int) (bm : List (List Int)) : Bool := goodM m && goodB x y z bm && decide (x = m.length) && decide (y = (m.getD 0 []).length)
def swV (m : List (List Int)) (x y z : Int) (bm : List (List Int)) : Int := if swOk m x y z bm then swTo m bm (m.getD 0 []).length m.length else 0


end Go.Proofs.Ytpakfehinfcdoaa
