/- Sums of sign games with agreements: reference and program. -/
import Derived.Test.YtmnbjocoiciffaaSign5
import Derived.Test.YtmnbjocoiciffaaWorth
namespace Go.Aw
theorem Wk (a : Int) : ∃ k, W a = a + 18446744073709551616 * k := by
  refine ⟨-((a + 9223372036854775808) / 18446744073709551616), ?_⟩
  show IntKind.i64.wrap a = _
  rw [IntKind.wrap_i64]
  omega
theorem Weq {a b k : Int} (h : a = b + 18446744073709551616 * k) : W a = W b := by
  show IntKind.i64.wrap a = IntKind.i64.wrap b
  rw [IntKind.wrap_i64, IntKind.wrap_i64]
  omega
theorem Wadd1 (a b : Int) : W (W a + b) = W (a + b) := by obtain ⟨k, e⟩ := Wk a; rw [e]; exact Weq (k := k) (by omega)
theorem Wadd2 (a b : Int) : W (a + W b) = W (a + b) := by obtain ⟨k, e⟩ := Wk b; rw [e]; exact Weq (k := k) (by omega)
theorem Wsub1 (a b : Int) : W (W a - b) = W (a - b) := by obtain ⟨k, e⟩ := Wk a; rw [e]; exact Weq (k := k) (by omega)
theorem Wsub2 (a b : Int) : W (a - W b) = W (a - b) := by obtain ⟨k, e⟩ := Wk b; rw [e]; exact Weq (k := -k) (by omega)
theorem Wmul1 (a b : Int) : W (W a * b) = W (a * b) := by
  obtain ⟨k, e⟩ := Wk a; rw [e]; exact Weq (k := k * b) (by rw [Int.add_mul, Int.mul_assoc])
theorem Wmul2 (a b : Int) : W (a * W b) = W (a * b) := by rw [Int.mul_comm, Wmul1, Int.mul_comm]
theorem fo_flat {α : Type} (f : α → Nat → α) (ny : Nat) (a : α) : ∀ n, fo (fun a i => fo (fun a k => f a (i * ny + k)) a ny) a n = fo f a (n * ny)
  | 0 => by rw [Nat.zero_mul]; rfl
  | n + 1 => by
    have key : ∀ k, fo (fun a k => f a (n * ny + k)) (fo f a (n * ny)) k = fo f a (n * ny + k) := by
      intro k
      induction k with
      | zero => rfl
      | succ k ih => show f (fo (fun a k => f a (n * ny + k)) (fo f a (n * ny)) k) (n * ny + k) = f (fo f a (n * ny + k)) (n * ny + k); rw [ih]
    show fo (fun a k => f a (n * ny + k)) (fo (fun a i => fo (fun a k => f a (i * ny + k)) a ny) a n) ny = _
    rw [fo_flat f ny a n, key, Nat.succ_mul]
theorem flat_getD {β : Type} (g : Int → β) (ny : Nat) (d : β) : ∀ (m : List (List Int)) (i k : Nat), (∀ r, r ∈ m → r.length = ny) → i < m.length → k < ny → (m.flatMap (fun r => r.map g)).getD (i * ny + k) d = g ((m.getD i []).getD k 0)
  | [], _, _, _, h, _ => by simp at h
  | r :: m, 0, k, hr, _, hk => by
    have hl := hr r (by simp)
    simp only [List.flatMap_cons, Nat.zero_mul, Nat.zero_add, List.getD_cons_zero]
    rw [List.getD_eq_getElem?_getD, List.getElem?_append_left (by simp; omega), ← List.getD_eq_getElem?_getD, map_getD (d := 0) (by omega)]
  | r :: m, i + 1, k, hr, hi, hk => by
    have hl := hr r (by simp)
    have ih := flat_getD g ny d m i k (fun q hq => hr q (by simp [hq])) (by simpa using hi) hk
    simp only [List.flatMap_cons, List.getD_cons_succ]
    rw [List.getD_eq_getElem?_getD, List.getElem?_append_right (by simp only [List.length_map]; rw [Nat.succ_mul]; omega), ← List.getD_eq_getElem?_getD]
    rw [show (i + 1) * ny + k - (r.map g).length = i * ny + k by rw [List.length_map, hl, Nat.succ_mul]; omega]
    exact ih
end Go.Aw
namespace Go.Proofs.Ytmnbjocoiciffaa
open Go.Aw
set_option maxRecDepth 100000
set_option maxHeartbeats 4000000

def swC (m bm : List (List Int)) (ny : Nat) (a : Int) (i k : Nat) : Int := W (a + W ((m.getD i []).getD k 0 * agr (bm.getD (i * ny + k) [])))
def swRw (m bm : List (List Int)) (ny i : Nat) (a : Int) (n : Nat) : Int := fo (fun a k => swC m bm ny a i k) a n
def swTo (m bm : List (List Int)) (ny n : Nat) : Int := fo (fun a i => swRw m bm ny i a ny) 0 n

theorem wRow_fn (f bm : List (List Int)) (p : Nat) (n a : Int) (hf : f.getD p [] = fnAt n) : wRow f bm p a 4 = W (a + W (n * agr (bm.getD p []))) := by
  show W (W (W (W (a + W ((f.getD p []).getD 0 0 * (bm.getD p []).getD 0 0)) + W ((f.getD p []).getD 1 0 * (bm.getD p []).getD 1 0)) + W ((f.getD p []).getD 2 0 * (bm.getD p []).getD 2 0)) + W ((f.getD p []).getD 3 0 * (bm.getD p []).getD 3 0)) = _
  rw [hf]
  show W (W (W (W (a + W (n * (bm.getD p []).getD 0 0)) + W (W (0 - n) * (bm.getD p []).getD 1 0)) + W (W (0 - n) * (bm.getD p []).getD 2 0)) + W (n * (bm.getD p []).getD 3 0)) = _
  unfold agr
  generalize (bm.getD p []).getD 0 0 = r0
  generalize (bm.getD p []).getD 1 0 = r1
  generalize (bm.getD p []).getD 2 0 = r2
  generalize (bm.getD p []).getD 3 0 = r3
  simp only [Wadd1, Wadd2, Wsub1, Wsub2, Wmul1, Wmul2]
  congr 1
  rw [Int.mul_add, Int.mul_sub, Int.mul_sub, Int.sub_mul, Int.sub_mul, Int.zero_mul, Int.zero_mul]
  omega

theorem worth_sw (m bm : List (List Int)) (ny : Nat) (hm : ∀ r, r ∈ m → r.length = ny) (hb : bm.length = m.length * ny) : worthF (functionalL m) bm = swTo m bm ny m.length := by
  unfold worthF wTo swTo
  rw [hb, ← fo_flat]
  refine fo_congr fun a i hi => fo_congr fun b k hk => ?_
  exact wRow_fn _ _ _ _ _ (flat_getD fnAt ny [] m i k hm hi hk)

def swOk (m : List (List Int)) (x y z : Int) (bm : List (List Int)) : Bool := goodM m && goodB x y z bm && decide (x = m.length) && decide (y = (m.getD 0 []).length)
def swV (m : List (List Int)) (x y z : Int) (bm : List (List Int)) : Int := if swOk m x y z bm then swTo m bm (m.getD 0 []).length m.length else 0

theorem SignWorth_s (m : List (List Int)) (hm : OkM m) (_km : SzM m) (x y z : Int) (bm : List (List Int)) (_hx : InR x) (_hy : InR y) (_hz : InR z) (_hb : OkM bm) (kb : SzM bm) :
    FSpec Try.prog 31 [.t (.rows m), .ag [.c (.int .i64 (x)), .c (.int .i64 (y)), .c (.int .i64 (z)), .t (.rows bm)]] (ex (.tu [.c (.int .i64 (swV m x y z bm)), .c (.bool (swOk m x y z bm))]) []) := by
  have no : swOk m x y z bm = false → swV m x y z bm = 0 := fun h => by rw [swV, h]; rfl
  refine fspec tyOk mx Try.func31 rfl (by kernel_rfl) rfl ?_
  conv => whnf
  refine ADraw.std tyOk mx ⟨by kernel_rfl, ?_⟩
  conv => whnf
  refine QCall.use (l5Good_spec m hm.1 hm.len) ?_
  conv => whnf
  refine ⟨fun h => ?_, fun h => ?_⟩
  · have h : goodM m = true := by simpa using h
    obtain ⟨g1, g2, g3, g4, g5⟩ := goodM_spec h
    conv => whnf
    refine QCall.use (l2Box_spec x y z bm kb) ?_
    conv => whnf
    refine ⟨fun h2 => ?_, fun h2 => ?_⟩
    · have h2 : goodB x y z bm = true := by simpa using h2
      conv => whnf
      refine ⟨fun h3 => ?_, fun h3 => ?_⟩
      · have h3 : x = (m.length : Int) := by simpa using h3
        conv => whnf
        refine ⟨0, rfl, by omega, ?_⟩
        conv => whnf
        refine ⟨fun h5 => ?_, fun h5 => ?_⟩
        · have h5 : ¬ y = ((m.getD 0 []).length : Int) := fun e => (bne_iff_ne.1 h5) e
          have e : swOk m x y z bm = false := by rw [swOk, decide_eq_false h5, Bool.and_false]
          conv => whnf
          exact ⟨by rw [no e, e], rfl⟩
        · have h5 : y = ((m.getD 0 []).length : Int) := bne_eq_false_iff_eq.1 h5
          have e : swOk m x y z bm = true := by rw [swOk, h, h2, decide_eq_true h3, decide_eq_true h5]; rfl
          have h2' := h2
          rw [h3, h5] at h2'
          obtain ⟨nx, ny, e1, e2, _, _, _, _, _, _, q7, q8, q9⟩ := goodB_spec h2'
          obtain rfl := Int.ofNat_inj.1 e1
          obtain rfl := Int.ofNat_inj.1 e2
          have h4 : ∀ r, r ∈ m → r.length = (m.getD 0 []).length := fun r hr => (g5 r hr).1
          have hfl : (functionalL m).length = bm.length := by
            rw [q7]
            have : ∀ (l : List (List Int)) (n : Nat), (∀ r, r ∈ l → r.length = n) → (l.flatMap fnRow).length = l.length * n := by
              intro l n
              induction l with
              | nil => intro _; simp
              | cons r l ih =>
                intro hr
                rw [List.flatMap_cons, List.length_append, ih (fun q hq => hr q (by simp [hq])), List.length_cons, Nat.succ_mul]
                have := hr r (by simp)
                simp [fnRow, this, Nat.add_comm]
            exact this m _ h4
          have hf4 : ∀ r, r ∈ functionalL m → r.length = 4 := fun q hq => by
            obtain ⟨r, _, hr⟩ := List.mem_flatMap.1 hq
            obtain ⟨n, _, rfl⟩ := List.mem_map.1 hr
            rfl
          conv => whnf
          refine ADraw.plan tyOk mx (.q 0 (.q 2 (.last 1 (.last 3 (.q 4 (.q 5 (.done)))))) : Plan) (by kernel_rfl) ?_
          conv => whnf
          refine ACall.useR (l5Functional_spec m h) ?_
          conv => whnf
          refine ACall.useR (l2Worth_spec (functionalL m) bm x y z hfl (by omega) hf4 (fun r hr => (q9 r hr).1)) ?_
          conv => whnf
          exact ⟨by rw [swV, e, if_pos rfl, worth_sw m bm _ h4 q7], rfl⟩
      · have h3 : ¬ x = (m.length : Int) := by simpa using h3
        have e : swOk m x y z bm = false := by rw [swOk, decide_eq_false h3]; simp
        (repeat (conv => whnf); (first | refine ⟨fun h => absurd h (by decide), fun _ => ?_⟩ | refine ⟨fun _ => ?_, fun h => absurd h (by decide)⟩)); conv => whnf
        exact ⟨by rw [no e, e], rfl⟩
    · have h2 : goodB x y z bm = false := by simpa using h2
      have e : swOk m x y z bm = false := by rw [swOk, h2]; simp
      (repeat (conv => whnf); (first | refine ⟨fun h => absurd h (by decide), fun _ => ?_⟩ | refine ⟨fun _ => ?_, fun h => absurd h (by decide)⟩)); conv => whnf
      exact ⟨by rw [no e, e], rfl⟩
  · have h : goodM m = false := by simpa using h
    have e : swOk m x y z bm = false := by rw [swOk, h]; simp
    (repeat (conv => whnf); (first | refine ⟨fun h => absurd h (by decide), fun _ => ?_⟩ | refine ⟨fun _ => ?_, fun h => absurd h (by decide)⟩)); conv => whnf
    exact ⟨by rw [no e, e], rfl⟩

theorem SignWorth_i (m : List (List Int)) (hm : OkM m) (_km : SzM m) (x y z : Int) (bm : List (List Int)) (_hx : InR x) (_hy : InR y) (_hz : InR z) (_hb : OkM bm) (kb : SzM bm) :
    FSpec Try.prog 33 [.t (.rows m), .ag [.c (.int .i64 (x)), .c (.int .i64 (y)), .c (.int .i64 (z)), .t (.rows bm)]] (ex (.tu [.c (.int .i64 (swV m x y z bm)), .c (.bool (swOk m x y z bm))]) []) := by
  have no : swOk m x y z bm = false → swV m x y z bm = 0 := fun h => by rw [swV, h]; rfl
  refine fspec tyOk mx Try.func33 rfl (by kernel_rfl) rfl ?_
  conv => whnf
  refine ADraw.std tyOk mx ⟨by kernel_rfl, ?_⟩
  conv => whnf
  refine QCall.use (iIsSignGame_spec m hm.1 hm.len) ?_
  conv => whnf
  refine ⟨fun h => ?_, fun h => ?_⟩
  · have h : goodM m = true := by simpa using h
    obtain ⟨g1, g2, g3, g4, g5⟩ := goodM_spec h
    conv => whnf
    refine QCall.use (IsBox_spec x y z bm kb) ?_
    conv => whnf
    refine ⟨fun h2 => ?_, fun h2 => ?_⟩
    · have h2 : goodB x y z bm = true := by simpa using h2
      conv => whnf
      refine ⟨fun h3 => ?_, fun h3 => ?_⟩
      · have h3 : x = (m.length : Int) := by simpa using h3
        conv => whnf
        refine ⟨0, rfl, by omega, ?_⟩
        conv => whnf
        refine ⟨fun h5 => ?_, fun h5 => ?_⟩
        · have h5 : ¬ y = ((m.getD 0 []).length : Int) := fun e => (bne_iff_ne.1 h5) e
          have e : swOk m x y z bm = false := by rw [swOk, decide_eq_false h5, Bool.and_false]
          conv => whnf
          exact ⟨by rw [no e, e], rfl⟩
        · have h5 : y = ((m.getD 0 []).length : Int) := bne_eq_false_iff_eq.1 h5
          have e : swOk m x y z bm = true := by rw [swOk, h, h2, decide_eq_true h3, decide_eq_true h5]; rfl
          have h2' := h2
          rw [h3, h5] at h2'
          obtain ⟨nx, ny, e1, e2, _, _, _, _, _, _, q7, q8, q9⟩ := goodB_spec h2'
          obtain rfl := Int.ofNat_inj.1 e1
          obtain rfl := Int.ofNat_inj.1 e2
          have hv : swTo m bm (m.getD 0 []).length m.length = swV m x y z bm := by rw [swV, e]; rfl
          subst h5
          conv => whnf
          refine aloopI tyOk mx (fun i : Nat => (⟨67, [(3, .ptr 0 0), (6, .c (.int .i64 (swTo m bm (m.getD 0 []).length i))), (35, .t (.rows m)), (36, .c (.int .i64 (m.length))), (37, .c (.int .i64 (i)))], [(0, .cells 46 [.c (.int .i64 (x)), .c (.int .i64 ((m.getD 0 []).length)), .c (.int .i64 (z)), .t (.rows bm)])], 1⟩ : St)) (fun i => i ≤ m.length) (fun i => m.length - i) 0 (Nat.zero_le _) none (by refine ⟨rfl, rfl, ?_, ?_⟩ <;> ((repeat' (first | exact trivial | exact rfl | refine And.intro ?_ ?_)) <;> (try ((conv => whnf); first | refine vint ?_ | refine vboo ?_ | refine rint ?_ | refine rrow ?_ | skip)) <;> (try first | omega | (simp; done) | ((repeat rw [flts_closed _ (by assumption)]); exact vws_closed _ (by assumption))))) (fun i hi => ?_)
          refine ⟨fun h => ?_, fun h => ?_⟩
          · have h := ltT h
            have hrow := (g5 _ (getD_mem (d := []) h)).1
            conv => whnf
            refine ⟨i, rfl, h, ?_⟩
            conv => whnf
            refine aloopI tyOk mx (fun k : Nat => (⟨67, [(3, .ptr 0 0), (6, .c (.int .i64 (swRw m bm (m.getD 0 []).length i (swTo m bm (m.getD 0 []).length i) k))), (7, .c (.int .i64 (i))), (35, .t (.rows m)), (36, .c (.int .i64 (m.length))), (37, .c (.int .i64 (i))), (42, .t (.ints .i64 (m.getD i []))), (43, .c (.int .i64 ((m.getD i []).length))), (44, .c (.int .i64 (k)))], [(0, .cells 46 [.c (.int .i64 (x)), .c (.int .i64 ((m.getD 0 []).length)), .c (.int .i64 (z)), .t (.rows bm)])], 1⟩ : St)) (fun k => k ≤ (m.getD 0 []).length) (fun k => (m.getD 0 []).length - k) 0 (Nat.zero_le _) none (by refine ⟨rfl, rfl, ?_, ?_⟩ <;> ((repeat' (first | exact trivial | exact rfl | refine And.intro ?_ ?_)) <;> (try ((conv => whnf); first | refine vint ?_ | refine vboo ?_ | refine rint ?_ | refine rrow ?_ | skip)) <;> (try first | omega | (simp; done) | ((repeat rw [flts_closed _ (by assumption)]); exact vws_closed _ (by assumption))))) (fun k hk => ?_)
            refine ⟨fun h6 => ?_, fun h6 => ?_⟩
            · have h6 : k < (m.getD 0 []).length := by have := ltT h6; omega
              have hlt := ix_lt h h6
              conv => whnf
              refine ⟨k, rfl, by omega, ?_⟩
              conv => whnf
              refine ⟨i * (m.getD 0 []).length + k, natMulAdd (by omega), by omega, ?_⟩
              conv => whnf
              refine ACall.use (agreement_spec (bm.getD (i * (m.getD 0 []).length + k) []) (q9 _ (getD_mem (by omega))).1) ?_
              conv => whnf
              rw [nat_wrap (by omega)]
              exact ⟨k + 1, none, (by refine ⟨rfl, rfl, ?_, ?_⟩ <;> ((repeat' (first | exact trivial | exact rfl | refine And.intro ?_ ?_)) <;> (try ((conv => whnf); first | refine vint ?_ | refine vboo ?_ | refine rint ?_ | refine rrow ?_ | skip)) <;> (try first | omega | (simp; done) | ((repeat rw [flts_closed _ (by assumption)]); exact vws_closed _ (by assumption))))), by omega, by omega⟩
            · have h6 : ¬ k < (m.getD 0 []).length := by have := ltF h6; omega
              obtain rfl : k = (m.getD 0 []).length := by omega
              conv => whnf
              rw [nat_wrap (by omega)]
              exact ⟨i + 1, none, (by refine ⟨rfl, rfl, ?_, ?_⟩ <;> ((repeat' (first | exact trivial | exact rfl | refine And.intro ?_ ?_)) <;> (try ((conv => whnf); first | refine vint ?_ | refine vboo ?_ | refine rint ?_ | refine rrow ?_ | skip)) <;> (try first | omega | (simp; done) | ((repeat rw [flts_closed _ (by assumption)]); exact vws_closed _ (by assumption))))), by omega, by omega⟩
          · have h := ltF h
            obtain rfl : i = m.length := by omega
            conv => whnf
            exact ⟨by rw [← hv, e], rfl⟩
      · have h3 : ¬ x = (m.length : Int) := by simpa using h3
        have e : swOk m x y z bm = false := by rw [swOk, decide_eq_false h3]; simp
        (repeat (conv => whnf); (first | refine ⟨fun h => absurd h (by decide), fun _ => ?_⟩ | refine ⟨fun _ => ?_, fun h => absurd h (by decide)⟩)); conv => whnf
        exact ⟨by rw [no e, e], rfl⟩
    · have h2 : goodB x y z bm = false := by simpa using h2
      have e : swOk m x y z bm = false := by rw [swOk, h2]; simp
      (repeat (conv => whnf); (first | refine ⟨fun h => absurd h (by decide), fun _ => ?_⟩ | refine ⟨fun _ => ?_, fun h => absurd h (by decide)⟩)); conv => whnf
      exact ⟨by rw [no e, e], rfl⟩
  · have h : goodM m = false := by simpa using h
    have e : swOk m x y z bm = false := by rw [swOk, h]; simp
    (repeat (conv => whnf); (first | refine ⟨fun h => absurd h (by decide), fun _ => ?_⟩ | refine ⟨fun _ => ?_, fun h => absurd h (by decide)⟩)); conv => whnf
    exact ⟨by rw [no e, e], rfl⟩
end Go.Proofs.Ytmnbjocoiciffaa
