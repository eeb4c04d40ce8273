/- The eight sums: reference and program. -/
import Derived.Test.YtgefdbihdliolaaWorth
import Derived.Test.YtgefdbihdliolaaOdd
namespace Go.Proofs.Ytgefdbihdliolaa
open Go.Aw
set_option maxRecDepth 100000
set_option maxHeartbeats 4000000

theorem two_add {a b : Nat} (h : 2 * a + b ≤ 1000000) : IntKind.i64.wrap (IntKind.i64.wrap (2 * (a : Int)) + (b : Int)) = ((2 * a + b : Nat) : Int) := by
  rw [w64 (n := 2 * (a : Int)) (by omega) (by omega), w64 (by omega) (by omega)]; omega
def esTerm (k : Nat) (m : List (List Int)) (x y : Nat) : Int := W (agr (m.getD (x * 2 + y) []) * W (1 - W (2 * oddAt k x y)))
def esRow (k : Nat) (m : List (List Int)) (x : Nat) (a : Int) (n : Nat) : Int := fo (fun a y => W (a + esTerm k m x y)) a n
def esTo (k : Nat) (m : List (List Int)) (n : Nat) : Int := fo (fun a x => esRow k m x a 2) 0 n
def esL (m : List (List Int)) : List Int := (List.range 8).map fun k => esTo k m 2
def pairB (x y z : Int) (m : List (List Int)) : Bool := goodB x y z m && (decide (x = 2) && decide (y = 2))
theorem pairB_spec {x y z : Int} {m : List (List Int)} (h : pairB x y z m = true) : x = 2 ∧ y = 2 ∧ 1 ≤ z ∧ z ≤ 1000 ∧ m.length = 4 ∧ (∀ r, r ∈ m → r.length = 4 ∧ (∀ v, v ∈ r → 0 ≤ v ∧ v ≤ z) ∧ sumF r r.length = z) := by
  simp only [pairB, Bool.and_eq_true, decide_eq_true_eq] at h
  obtain ⟨h1, rfl, rfl⟩ := h
  obtain ⟨a, b, e1, e2, g1, g2, g3, g4, g5, g6, g7, g8, g9⟩ := goodB_spec h1
  obtain rfl : a = 2 := by omega
  obtain rfl : b = 2 := by omega
  exact ⟨rfl, rfl, g5, g6, g7, g9⟩

theorem hasTwo_spec (x y : Int) : FSpec Try.prog 105 [.c (.int .i64 (x)), .c (.int .i64 (y))] (ex (.c (.bool (decide (x = 2) && decide (y = 2)))) []) := by
  refine fspec tyOk mx Try.func105 rfl (by kernel_rfl) rfl ?_
  conv => whnf
  refine ⟨fun h => ?_, fun h => ?_⟩
  · conv => whnf
    refine ⟨?_, rfl⟩
    rw [decide_eq_true (by simpa using h), Bool.true_and]; rfl
  · conv => whnf
    refine ⟨?_, rfl⟩
    rw [decide_eq_false (by simpa using h), Bool.false_and]
theorem isPair_spec (x y z : Int) (m : List (List Int)) (km : SzM m) : FSpec Try.prog 88 [.ag [.c (.int .i64 (x)), .c (.int .i64 (y)), .c (.int .i64 (z)), .t (.rows m)]] (ex (.c (.bool (pairB x y z m))) []) := by
  refine fspec tyOk mx Try.func88 rfl (by kernel_rfl) rfl ?_
  conv => whnf
  refine ACall.use (IsBox_spec x y z m km) ?_
  conv => whnf
  refine ⟨fun h => ?_, fun h => ?_⟩
  · conv => whnf
    refine ACall.use (hasTwo_spec x y) ?_
    conv => whnf
    exact ⟨by rw [pairB, h, Bool.true_and], rfl⟩
  · conv => whnf
    exact ⟨by rw [pairB, h, Bool.false_and], rfl⟩
theorem l6Two_spec (x y z : Int) (m : List (List Int)) (km : SzM m) : FSpec Try.prog 85 [.ag [.c (.int .i64 (x)), .c (.int .i64 (y)), .c (.int .i64 (z)), .t (.rows m)]] (ex (.c (.bool (pairB x y z m))) []) := by
  refine fspec tyOk mx Try.func85 rfl (by kernel_rfl) rfl ?_
  conv => whnf
  refine ACall.use (l2Box_spec x y z m km) ?_
  conv => whnf
  refine ⟨fun h => ?_, fun h => ?_⟩
  · conv => whnf
    refine ⟨fun h2 => ?_, fun h2 => ?_⟩
    · conv => whnf
      refine ⟨?_, rfl⟩
      rw [pairB, h, decide_eq_true (show x = 2 by simpa using h2), Bool.true_and, Bool.true_and]; rfl
    · conv => whnf
      refine ⟨?_, rfl⟩
      rw [pairB, h, decide_eq_false (show ¬ x = 2 by simpa using h2), Bool.true_and, Bool.false_and]
  · (repeat (conv => whnf); (first | refine ⟨fun h => absurd h (by decide), fun _ => ?_⟩ | refine ⟨fun _ => ?_, fun h => absurd h (by decide)⟩)); conv => whnf
    exact ⟨by rw [pairB, h, Bool.false_and], rfl⟩

theorem l2Row_spec (nx ny i k : Nat) (z : Int) (m : List (List Int)) (hi : i * ny + k < m.length) (hb : i * ny + k ≤ 1000000) :
    FSpec Try.prog 124 [.ag [.c (.int .i64 (nx)), .c (.int .i64 (ny)), .c (.int .i64 (z)), .t (.rows m)], .c (.int .i64 (i)), .c (.int .i64 (k))] (ex (.t (.ints .i64 (m.getD (i * ny + k) []))) []) := by
  refine fspec tyOk mx Try.func124 rfl (by kernel_rfl) rfl ?_
  conv => whnf
  refine ⟨i * ny + k, natMulAdd hb, hi, ?_⟩
  conv => whnf
  exact ⟨rfl, rfl⟩

theorem eightSums_spec (z : Int) (m : List (List Int)) (hm : m.length = 4) (h4 : ∀ r, r ∈ m → r.length = 4) :
    FSpec Try.prog 137 [.ag [.c (.int .i64 (2)), .c (.int .i64 (2)), .c (.int .i64 (z)), .t (.rows m)]] (ex (.own 0) [(0, .ints 3 .i64 (esL m))]) := by
  refine fspec tyOk mx Try.func137 rfl (by kernel_rfl) rfl ?_
  conv => whnf
  refine aloopI tyOk mx (fun k : Nat => (⟨44, [(1, .ptr 0 0), (3, .own 1), (9, .c (.int .i64 (k)))], [(0, .cells 42 [.c (.int .i64 (2)), .c (.int .i64 (2)), .c (.int .i64 (z)), .t (.rows m)]), (1, .ints 3 .i64 ((List.range k).map fun k => esTo k m 2))], 2⟩ : St)) (fun k => k ≤ 8) (fun k => 8 - k) 0 (Nat.zero_le _) none (by refine ⟨rfl, rfl, ?_, ?_⟩ <;> ((repeat' (first | exact trivial | exact rfl | refine And.intro ?_ ?_)) <;> (try ((conv => whnf); first | refine vint ?_ | refine vboo ?_ | refine rint ?_ | refine rrow ?_ | skip)) <;> (try first | omega | (simp; done) | ((repeat rw [flts_closed _ (by assumption)]); exact vws_closed _ (by assumption))))) (fun k hk => ?_)
  refine ⟨fun h => ?_, fun h => ?_⟩
  · have h : k < 8 := by have := of_decide_eq_true h; omega
    conv => whnf
    refine aloopI tyOk mx (fun x : Nat => (⟨44, [(1, .ptr 0 0), (3, .own 1), (4, .c (.int .i64 (k))), (5, .c (.int .i64 (esTo k m x))), (9, .c (.int .i64 (k))), (12, .c (.int .i64 (x)))], [(0, .cells 42 [.c (.int .i64 (2)), .c (.int .i64 (2)), .c (.int .i64 (z)), .t (.rows m)]), (1, .ints 3 .i64 ((List.range k).map fun k => esTo k m 2))], 2⟩ : St)) (fun x => x ≤ 2) (fun x => 2 - x) 0 (Nat.zero_le _) none (by refine ⟨rfl, rfl, ?_, ?_⟩ <;> ((repeat' (first | exact trivial | exact rfl | refine And.intro ?_ ?_)) <;> (try ((conv => whnf); first | refine vint ?_ | refine vboo ?_ | refine rint ?_ | refine rrow ?_ | skip)) <;> (try first | omega | (simp; done) | ((repeat rw [flts_closed _ (by assumption)]); exact vws_closed _ (by assumption))))) (fun x hx => ?_)
    refine ⟨fun h2 => ?_, fun h2 => ?_⟩
    · have h2 : x < 2 := by have := of_decide_eq_true h2; omega
      conv => whnf
      refine aloopI tyOk mx (fun y : Nat => (⟨44, [(1, .ptr 0 0), (3, .own 1), (4, .c (.int .i64 (k))), (5, .c (.int .i64 (esRow k m x (esTo k m x) y))), (6, .c (.int .i64 (x))), (9, .c (.int .i64 (k))), (12, .c (.int .i64 (x))), (15, .c (.int .i64 (y)))], [(0, .cells 42 [.c (.int .i64 (2)), .c (.int .i64 (2)), .c (.int .i64 (z)), .t (.rows m)]), (1, .ints 3 .i64 ((List.range k).map fun k => esTo k m 2))], 2⟩ : St)) (fun y => y ≤ 2) (fun y => 2 - y) 0 (Nat.zero_le _) none (by refine ⟨rfl, rfl, ?_, ?_⟩ <;> ((repeat' (first | exact trivial | exact rfl | refine And.intro ?_ ?_)) <;> (try ((conv => whnf); first | refine vint ?_ | refine vboo ?_ | refine rint ?_ | refine rrow ?_ | skip)) <;> (try first | omega | (simp; done) | ((repeat rw [flts_closed _ (by assumption)]); exact vws_closed _ (by assumption))))) (fun y hy => ?_)
      refine ⟨fun h3 => ?_, fun h3 => ?_⟩
      · have h3 : y < 2 := by have := of_decide_eq_true h3; omega
        conv => whnf
        refine ⟨2 * x + y, two_add (by omega), by omega, ?_⟩
        rw [Nat.mul_comm 2 x]
        conv => whnf
        refine ACall.use (agreement_spec (m.getD (x * 2 + y) []) (h4 _ (getD_mem (by omega)))) ?_
        conv => whnf
        refine ACall.use (differ_spec k x y) ?_
        conv => whnf
        rw [nat_wrap (by omega)]
        exact ⟨y + 1, none, (by refine ⟨rfl, rfl, ?_, ?_⟩ <;> ((repeat' (first | exact trivial | exact rfl | refine And.intro ?_ ?_)) <;> (try ((conv => whnf); first | refine vint ?_ | refine vboo ?_ | refine rint ?_ | refine rrow ?_ | skip)) <;> (try first | omega | (simp; done) | ((repeat rw [flts_closed _ (by assumption)]); exact vws_closed _ (by assumption))))), by omega, by omega⟩
      · have h3 : ¬ y < 2 := by have := of_decide_eq_false h3; omega
        obtain rfl : y = 2 := by omega
        conv => whnf
        rw [nat_wrap (by omega)]
        exact ⟨x + 1, none, (by refine ⟨rfl, rfl, ?_, ?_⟩ <;> ((repeat' (first | exact trivial | exact rfl | refine And.intro ?_ ?_)) <;> (try ((conv => whnf); first | refine vint ?_ | refine vboo ?_ | refine rint ?_ | refine rrow ?_ | skip)) <;> (try first | omega | (simp; done) | ((repeat rw [flts_closed _ (by assumption)]); exact vws_closed _ (by assumption))))), by omega, by omega⟩
    · have h2 : ¬ x < 2 := by have := of_decide_eq_false h2; omega
      obtain rfl : x = 2 := by omega
      conv => whnf
      refine ⟨by simp [room]; omega, ?_⟩
      conv => whnf
      rw [nat_wrap (by omega)]
      refine ⟨k + 1, none, ?_, by omega, by omega⟩
      (refine ⟨rfl, rfl, ?_, ?_⟩ <;> ((repeat' (first | exact trivial | exact rfl | refine And.intro ?_ ?_)) <;> (try ((conv => whnf); first | refine vint ?_ | refine vboo ?_ | refine rint ?_ | refine rrow ?_ | skip)) <;> (try first | omega | (simp; done) | ((repeat rw [flts_closed _ (by assumption)]); exact vws_closed _ (by assumption)))))
      rw [← map_range_succ]; rfl
  · have h : ¬ k < 8 := by have := of_decide_eq_false h; omega
    obtain rfl : k = 8 := by omega
    conv => whnf
    exact ⟨rfl, rfl⟩

theorem l6Sums_spec (z : Int) (m : List (List Int)) (hm : m.length = 4) (h4 : ∀ r, r ∈ m → r.length = 4) :
    FSpec Try.prog 136 [.ag [.c (.int .i64 (2)), .c (.int .i64 (2)), .c (.int .i64 (z)), .t (.rows m)]] (ex (.own 0) [(0, .ints 3 .i64 (esL m))]) := by
  refine fspec tyOk mx Try.func136 rfl (by kernel_rfl) rfl ?_
  conv => whnf
  refine aloopI tyOk mx (fun k : Nat => (⟨40, [(1, .ptr 0 0), (3, .own 1), (4, .c (.int .i64 (k)))], [(0, .cells 42 [.c (.int .i64 (2)), .c (.int .i64 (2)), .c (.int .i64 (z)), .t (.rows m)]), (1, .ints 3 .i64 ((List.range k).map fun k => esTo k m 2))], 2⟩ : St)) (fun k => k ≤ 8) (fun k => 8 - k) 0 (Nat.zero_le _) none (by refine ⟨rfl, rfl, ?_, ?_⟩ <;> ((repeat' (first | exact trivial | exact rfl | refine And.intro ?_ ?_)) <;> (try ((conv => whnf); first | refine vint ?_ | refine vboo ?_ | refine rint ?_ | refine rrow ?_ | skip)) <;> (try first | omega | (simp; done) | ((repeat rw [flts_closed _ (by assumption)]); exact vws_closed _ (by assumption))))) (fun k hk => ?_)
  refine ⟨fun h => ?_, fun h => ?_⟩
  · have h : k < 8 := by have := of_decide_eq_true h; omega
    conv => whnf
    refine aloopI tyOk mx (fun x : Nat => (⟨40, [(1, .ptr 0 0), (3, .own 1), (4, .c (.int .i64 (k))), (5, .c (.int .i64 (esTo k m x))), (6, .c (.int .i64 (x)))], [(0, .cells 42 [.c (.int .i64 (2)), .c (.int .i64 (2)), .c (.int .i64 (z)), .t (.rows m)]), (1, .ints 3 .i64 ((List.range k).map fun k => esTo k m 2))], 2⟩ : St)) (fun x => x ≤ 2) (fun x => 2 - x) 0 (Nat.zero_le _) none (by refine ⟨rfl, rfl, ?_, ?_⟩ <;> ((repeat' (first | exact trivial | exact rfl | refine And.intro ?_ ?_)) <;> (try ((conv => whnf); first | refine vint ?_ | refine vboo ?_ | refine rint ?_ | refine rrow ?_ | skip)) <;> (try first | omega | (simp; done) | ((repeat rw [flts_closed _ (by assumption)]); exact vws_closed _ (by assumption))))) (fun x hx => ?_)
    refine ⟨fun h2 => ?_, fun h2 => ?_⟩
    · have h2 : x < 2 := by have := of_decide_eq_true h2; omega
      conv => whnf
      refine aloopI tyOk mx (fun y : Nat => (⟨40, [(1, .ptr 0 0), (3, .own 1), (4, .c (.int .i64 (k))), (5, .c (.int .i64 (esRow k m x (esTo k m x) y))), (6, .c (.int .i64 (x))), (7, .c (.int .i64 (y)))], [(0, .cells 42 [.c (.int .i64 (2)), .c (.int .i64 (2)), .c (.int .i64 (z)), .t (.rows m)]), (1, .ints 3 .i64 ((List.range k).map fun k => esTo k m 2))], 2⟩ : St)) (fun y => y ≤ 2) (fun y => 2 - y) 0 (Nat.zero_le _) none (by refine ⟨rfl, rfl, ?_, ?_⟩ <;> ((repeat' (first | exact trivial | exact rfl | refine And.intro ?_ ?_)) <;> (try ((conv => whnf); first | refine vint ?_ | refine vboo ?_ | refine rint ?_ | refine rrow ?_ | skip)) <;> (try first | omega | (simp; done) | ((repeat rw [flts_closed _ (by assumption)]); exact vws_closed _ (by assumption))))) (fun y hy => ?_)
      refine ⟨fun h3 => ?_, fun h3 => ?_⟩
      · have h3 : y < 2 := by have := of_decide_eq_true h3; omega
        refine ADraw.plan tyOk mx (.q 0 (.q 1 (.q 2 (.q 3 (.q 7 (.q 8 (.q 9 (.last 4 (.q 5 (.q 6 (.last 10 (.last 11 (.q 12 (.q 13 (.q 14 (.done))))))))))))))) : Plan) (by kernel_rfl) ?_
        conv => whnf
        refine ACall.useR (l6Odd_spec k x y) ?_
        conv => whnf
        refine ACall.useR (l2Row_spec 2 2 x y z m (by omega) (by omega)) ?_
        conv => whnf
        refine ACall.useR (l2Agree_spec (m.getD (x * 2 + y) []) (h4 _ (getD_mem (by omega)))) ?_
        conv => whnf
        rw [nat_wrap (by omega), odd_eq h h2 h3, Int.mul_comm (IntKind.i64.wrap (1 - IntKind.i64.wrap (2 * oddAt k x y)))]
        exact ⟨y + 1, none, (by refine ⟨rfl, rfl, ?_, ?_⟩ <;> ((repeat' (first | exact trivial | exact rfl | refine And.intro ?_ ?_)) <;> (try ((conv => whnf); first | refine vint ?_ | refine vboo ?_ | refine rint ?_ | refine rrow ?_ | skip)) <;> (try first | omega | (simp; done) | ((repeat rw [flts_closed _ (by assumption)]); exact vws_closed _ (by assumption))))), by omega, by omega⟩
      · have h3 : ¬ y < 2 := by have := of_decide_eq_false h3; omega
        obtain rfl : y = 2 := by omega
        conv => whnf
        rw [nat_wrap (by omega)]
        exact ⟨x + 1, none, (by refine ⟨rfl, rfl, ?_, ?_⟩ <;> ((repeat' (first | exact trivial | exact rfl | refine And.intro ?_ ?_)) <;> (try ((conv => whnf); first | refine vint ?_ | refine vboo ?_ | refine rint ?_ | refine rrow ?_ | skip)) <;> (try first | omega | (simp; done) | ((repeat rw [flts_closed _ (by assumption)]); exact vws_closed _ (by assumption))))), by omega, by omega⟩
    · have h2 : ¬ x < 2 := by have := of_decide_eq_false h2; omega
      obtain rfl : x = 2 := by omega
      conv => whnf
      refine ⟨by simp [room]; omega, ?_⟩
      conv => whnf
      rw [nat_wrap (by omega)]
      refine ⟨k + 1, none, ?_, by omega, by omega⟩
      (refine ⟨rfl, rfl, ?_, ?_⟩ <;> ((repeat' (first | exact trivial | exact rfl | refine And.intro ?_ ?_)) <;> (try ((conv => whnf); first | refine vint ?_ | refine vboo ?_ | refine rint ?_ | refine rrow ?_ | skip)) <;> (try first | omega | (simp; done) | ((repeat rw [flts_closed _ (by assumption)]); exact vws_closed _ (by assumption)))))
      rw [← map_range_succ]; rfl
  · have h : ¬ k < 8 := by have := of_decide_eq_false h; omega
    obtain rfl : k = 8 := by omega
    conv => whnf
    exact ⟨rfl, rfl⟩
end Go.Proofs.Ytgefdbihdliolaa
