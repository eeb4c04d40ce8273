/- Quiet boxes: reference and program. -/
import Derived.Test.YtgefdbihdliolaaEight
namespace Go.Aw
def one0 (r : List Int) : Int := W (r.getD 2 0 + r.getD 3 0)
def one1 (r : List Int) : Int := W (r.getD 1 0 + r.getD 3 0)
def q0 (ny : Nat) (m : List (List Int)) (x y : Nat) : Bool := one0 (m.getD (x * ny + y) []) == one0 (m.getD (x * ny + 0) [])
def q1 (ny : Nat) (m : List (List Int)) (y x : Nat) : Bool := one1 (m.getD (x * ny + y) []) == one1 (m.getD (0 * ny + y) [])
def q0r (ny : Nat) (m : List (List Int)) (x : Nat) : Bool := (List.range ny).all (q0 ny m x)
def q1r (nx ny : Nat) (m : List (List Int)) (y : Nat) : Bool := (List.range nx).all (q1 ny m y)
def quietF (nx ny : Nat) (m : List (List Int)) : Bool := (List.range nx).all (q0r ny m) && (List.range ny).all (q1r nx ny m)
theorem q0_zero (ny : Nat) (m : List (List Int)) (x : Nat) : q0 ny m x 0 = true := beq_self_eq_true _
theorem q1_zero (ny : Nat) (m : List (List Int)) (y : Nat) : q1 ny m y 0 = true := beq_self_eq_true _
end Go.Aw
namespace Go.Proofs.Ytgefdbihdliolaa
open Go.Aw
set_option maxRecDepth 100000
set_option maxHeartbeats 4000000

theorem at_spec (nx ny i k a b : Nat) (z : Int) (m : List (List Int)) (hi : i * ny + k < m.length) (hb : i * ny + k ≤ 1000000) (ha : 2 * a + b < (m.getD (i * ny + k) []).length) (hb2 : 2 * a + b ≤ 1000000) :
    FSpec Try.prog 83 [.ag [.c (.int .i64 (nx)), .c (.int .i64 (ny)), .c (.int .i64 (z)), .t (.rows m)], .c (.int .i64 (i)), .c (.int .i64 (k)), .c (.int .i64 (a)), .c (.int .i64 (b))] (ex (.c (.int .i64 ((m.getD (i * ny + k) []).getD (2 * a + b) 0))) []) := by
  refine fspec tyOk mx Try.func83 rfl (by kernel_rfl) rfl ?_
  conv => whnf
  refine ⟨i * ny + k, natMulAdd hb, hi, ?_⟩
  conv => whnf
  refine ⟨2 * a + b, two_add hb2, ha, ?_⟩
  conv => whnf
  exact ⟨rfl, rfl⟩

theorem ones0_spec (nx ny q o : Nat) (z : Int) (m : List (List Int)) (hi : q * ny + o < m.length) (hb : q * ny + o ≤ 1000000) (h4 : ∀ r, r ∈ m → r.length = 4) :
    FSpec Try.prog 135 [.ag [.c (.int .i64 (nx)), .c (.int .i64 (ny)), .c (.int .i64 (z)), .t (.rows m)], .c (.int .i64 ((0 : Nat))), .c (.int .i64 (q)), .c (.int .i64 (o))] (ex (.c (.int .i64 (one0 (m.getD (q * ny + o) [])))) []) := by
  have h := h4 _ (getD_mem (d := []) hi)
  refine fspec tyOk mx Try.func135 rfl (by kernel_rfl) rfl ?_
  conv => whnf
  refine ⟨fun _ => ?_, fun h => absurd h (by decide)⟩
  conv => whnf
  refine ADraw.std tyOk mx ⟨by kernel_rfl, ?_⟩
  conv => whnf
  refine QCall.use (at_spec nx ny q o 1 0 z m hi hb (by omega) (by omega)) ?_
  conv => whnf
  refine QCall.use (at_spec nx ny q o 1 1 z m hi hb (by omega) (by omega)) ?_
  conv => whnf
  exact ⟨rfl, rfl⟩
theorem ones1_spec (nx ny q o : Nat) (z : Int) (m : List (List Int)) (hi : o * ny + q < m.length) (hb : o * ny + q ≤ 1000000) (h4 : ∀ r, r ∈ m → r.length = 4) :
    FSpec Try.prog 135 [.ag [.c (.int .i64 (nx)), .c (.int .i64 (ny)), .c (.int .i64 (z)), .t (.rows m)], .c (.int .i64 ((1 : Nat))), .c (.int .i64 (q)), .c (.int .i64 (o))] (ex (.c (.int .i64 (one1 (m.getD (o * ny + q) [])))) []) := by
  have h := h4 _ (getD_mem (d := []) hi)
  refine fspec tyOk mx Try.func135 rfl (by kernel_rfl) rfl ?_
  conv => whnf
  refine ⟨fun h => absurd h (by decide), fun _ => ?_⟩
  conv => whnf
  refine ADraw.std tyOk mx ⟨by kernel_rfl, ?_⟩
  conv => whnf
  refine QCall.use (at_spec nx ny o q 0 1 z m hi hb (by omega) (by omega)) ?_
  conv => whnf
  refine QCall.use (at_spec nx ny o q 1 1 z m hi hb (by omega) (by omega)) ?_
  conv => whnf
  exact ⟨rfl, rfl⟩

theorem questions_spec (x y z : Int) (m : List (List Int)) : FSpec Try.prog 134 [.ag [.c (.int .i64 (x)), .c (.int .i64 (y)), .c (.int .i64 (z)), .t (.rows m)]] (ex (.ag [.c (.int .i64 (x)), .c (.int .i64 (y))]) []) := by
  refine fspec tyOk mx Try.func134 rfl (by kernel_rfl) rfl ?_
  conv => whnf
  exact ⟨rfl, rfl⟩

def loudP (b : Bool) : AVal → List (Nat × ARow) → Prop := fun v h => ∃ a c : Int, v = .tu [.c (.int .i64 (a)), .c (.int .i64 (c)), .c (.bool (!b))] ∧ h = []

theorem loud_spec (nx ny : Nat) (z : Int) (m : List (List Int)) (hx : nx ≤ 3) (hy : ny ≤ 3) (hy1 : 1 ≤ ny) (hx1 : 1 ≤ nx) (hm : m.length = nx * ny) (h4 : ∀ r, r ∈ m → r.length = 4) :
    FSpec Try.prog 141 [.ag [.c (.int .i64 (nx)), .c (.int .i64 (ny)), .c (.int .i64 (z)), .t (.rows m)]] (loudP (quietF nx ny m)) := by
  have hn : nx * ny ≤ 3 * 3 := Nat.mul_le_mul hx hy
  refine fspec tyOk mx Try.func141 rfl (by kernel_rfl) rfl ?_
  conv => whnf
  refine ACall.use (questions_spec _ _ _ _) ?_
  conv => whnf
  refine aloopI tyOk mx (fun p : Nat => (⟨42, [(1, .ptr 0 0), (5, .ptr 1 0), (11, .c (.int .i64 (p)))], [(0, .cells 42 [.c (.int .i64 (nx)), .c (.int .i64 (ny)), .c (.int .i64 (z)), .t (.rows m)]), (1, .cells 116 [.c (.int .i64 (nx)), .c (.int .i64 (ny))])], 2⟩ : St)) (fun p => p ≤ 2 ∧ (1 ≤ p → (List.range nx).all (q0r ny m) = true) ∧ (2 ≤ p → (List.range ny).all (q1r nx ny m) = true)) (fun p => 2 - p) 0 ⟨by omega, by omega, by omega⟩ none (by refine ⟨rfl, rfl, ?_, ?_⟩ <;> ((repeat' (first | exact trivial | exact rfl | refine And.intro ?_ ?_)) <;> (try ((conv => whnf); first | refine vint ?_ | refine vboo ?_ | refine rint ?_ | refine rrow ?_ | skip)) <;> (try first | omega | (simp; done) | ((repeat rw [flts_closed _ (by assumption)]); exact vws_closed _ (by assumption))))) (fun p hI => ?_)
  obtain ⟨hp, hq0, hq1⟩ := hI
  refine ⟨fun h => ?_, fun h => ?_⟩
  · have h : p < 2 := by have := of_decide_eq_true h; omega
    have hp2 : p = 0 ∨ p = 1 := by omega
    rcases hp2 with rfl | rfl
    · conv => whnf
      refine ⟨0, rfl, by omega, by simp, ?_⟩
      conv => whnf
      refine aloopI tyOk mx (fun x : Nat => (⟨42, [(1, .ptr 0 0), (5, .ptr 1 0), (6, .c (.int .i64 ((0 : Nat)))), (11, .c (.int .i64 ((0 : Nat)))), (16, .c (.int .i64 (nx))), (17, .c (.int .i64 (x)))], [(0, .cells 42 [.c (.int .i64 (nx)), .c (.int .i64 (ny)), .c (.int .i64 (z)), .t (.rows m)]), (1, .cells 116 [.c (.int .i64 (nx)), .c (.int .i64 (ny))])], 2⟩ : St)) (fun x => x ≤ nx ∧ (List.range x).all (q0r ny m) = true) (fun x => nx - x) 0 ⟨by omega, rfl⟩ none (by refine ⟨rfl, rfl, ?_, ?_⟩ <;> ((repeat' (first | exact trivial | exact rfl | refine And.intro ?_ ?_)) <;> (try ((conv => whnf); first | refine vint ?_ | refine vboo ?_ | refine rint ?_ | refine rrow ?_ | skip)) <;> (try first | omega | (simp; done) | ((repeat rw [flts_closed _ (by assumption)]); exact vws_closed _ (by assumption))))) (fun x hI => ?_)
      obtain ⟨hxx, hpx⟩ := hI
      refine ⟨fun h2 => ?_, fun h2 => ?_⟩
      · have h2 := ltT h2
        have hlt0 := ix_lt h2 (show 0 < ny by omega)
        conv => whnf
        refine ⟨1, rfl, by omega, by simp, ?_⟩
        conv => whnf
        refine aloopI tyOk mx (fun y : Nat => (⟨42, [(1, .ptr 0 0), (5, .ptr 1 0), (6, .c (.int .i64 ((0 : Nat)))), (7, .c (.int .i64 (x))), (11, .c (.int .i64 ((0 : Nat)))), (16, .c (.int .i64 (nx))), (17, .c (.int .i64 (x))), (23, .c (.int .i64 (ny))), (24, .c (.int .i64 (y)))], [(0, .cells 42 [.c (.int .i64 (nx)), .c (.int .i64 (ny)), .c (.int .i64 (z)), .t (.rows m)]), (1, .cells 116 [.c (.int .i64 (nx)), .c (.int .i64 (ny))])], 2⟩ : St)) (fun y => y ≤ ny ∧ (List.range y).all (q0 ny m x) = true) (fun y => ny - y) 0 ⟨by omega, rfl⟩ none (by refine ⟨rfl, rfl, ?_, ?_⟩ <;> ((repeat' (first | exact trivial | exact rfl | refine And.intro ?_ ?_)) <;> (try ((conv => whnf); first | refine vint ?_ | refine vboo ?_ | refine rint ?_ | refine rrow ?_ | skip)) <;> (try first | omega | (simp; done) | ((repeat rw [flts_closed _ (by assumption)]); exact vws_closed _ (by assumption))))) (fun y hI => ?_)
        obtain ⟨hyy, hpy⟩ := hI
        refine ⟨fun h3 => ?_, fun h3 => ?_⟩
        · have h3 := ltT h3
          have hlt := ix_lt h2 h3
          conv => whnf
          refine ADraw.std tyOk mx ⟨by kernel_rfl, ?_⟩
          conv => whnf
          refine QCall.use (ones0_spec nx ny x y z m (by omega) (by omega) h4) ?_
          conv => whnf
          refine QCall.use (ones0_spec nx ny x 0 z m (by omega) (by omega) h4) ?_
          conv => whnf
          refine ⟨fun h5 => ?_, fun h5 => ?_⟩
          · have e : quietF nx ny m = false := by
              have : q0 ny m x y = false := by rw [q0, beq_eq_false_iff_ne]; exact bne_iff_ne.1 h5
              rw [quietF, rall_false h2 (by rw [q0r, rall_false h3 this]), Bool.false_and]
            conv => whnf
            exact ⟨_, _, by rw [e]; rfl, rfl⟩
          · have e : q0 ny m x y = true := by rw [q0, beq_iff_eq]; exact bne_eq_false_iff_eq.1 h5
            conv => whnf
            rw [nat_wrap (by omega)]
            exact ⟨y + 1, none, (by refine ⟨rfl, rfl, ?_, ?_⟩ <;> ((repeat' (first | exact trivial | exact rfl | refine And.intro ?_ ?_)) <;> (try ((conv => whnf); first | refine vint ?_ | refine vboo ?_ | refine rint ?_ | refine rrow ?_ | skip)) <;> (try first | omega | (simp; done) | ((repeat rw [flts_closed _ (by assumption)]); exact vws_closed _ (by assumption))))), ⟨by omega, rall_succ hpy e⟩, by omega⟩
        · have h3 := ltF h3
          obtain rfl : y = ny := by omega
          conv => whnf
          rw [nat_wrap (by omega)]
          exact ⟨x + 1, none, (by refine ⟨rfl, rfl, ?_, ?_⟩ <;> ((repeat' (first | exact trivial | exact rfl | refine And.intro ?_ ?_)) <;> (try ((conv => whnf); first | refine vint ?_ | refine vboo ?_ | refine rint ?_ | refine rrow ?_ | skip)) <;> (try first | omega | (simp; done) | ((repeat rw [flts_closed _ (by assumption)]); exact vws_closed _ (by assumption))))), ⟨by omega, rall_succ hpx hpy⟩, by omega⟩
      · have h2 := ltF h2
        obtain rfl : x = nx := by omega
        conv => whnf
        exact ⟨1, none, (by refine ⟨rfl, rfl, ?_, ?_⟩ <;> ((repeat' (first | exact trivial | exact rfl | refine And.intro ?_ ?_)) <;> (try ((conv => whnf); first | refine vint ?_ | refine vboo ?_ | refine rint ?_ | refine rrow ?_ | skip)) <;> (try first | omega | (simp; done) | ((repeat rw [flts_closed _ (by assumption)]); exact vws_closed _ (by assumption))))), ⟨by omega, fun _ => hpx, by omega⟩, by omega⟩
    · conv => whnf
      refine ⟨1, rfl, by omega, by simp, ?_⟩
      conv => whnf
      refine aloopI tyOk mx (fun y : Nat => (⟨42, [(1, .ptr 0 0), (5, .ptr 1 0), (6, .c (.int .i64 ((1 : Nat)))), (11, .c (.int .i64 ((1 : Nat)))), (16, .c (.int .i64 (ny))), (17, .c (.int .i64 (y)))], [(0, .cells 42 [.c (.int .i64 (nx)), .c (.int .i64 (ny)), .c (.int .i64 (z)), .t (.rows m)]), (1, .cells 116 [.c (.int .i64 (nx)), .c (.int .i64 (ny))])], 2⟩ : St)) (fun y => y ≤ ny ∧ (List.range y).all (q1r nx ny m) = true) (fun y => ny - y) 0 ⟨by omega, rfl⟩ none (by refine ⟨rfl, rfl, ?_, ?_⟩ <;> ((repeat' (first | exact trivial | exact rfl | refine And.intro ?_ ?_)) <;> (try ((conv => whnf); first | refine vint ?_ | refine vboo ?_ | refine rint ?_ | refine rrow ?_ | skip)) <;> (try first | omega | (simp; done) | ((repeat rw [flts_closed _ (by assumption)]); exact vws_closed _ (by assumption))))) (fun y hI => ?_)
      obtain ⟨hyy, hpy⟩ := hI
      refine ⟨fun h2 => ?_, fun h2 => ?_⟩
      · have h2 := ltT h2
        have hlt0 := ix_lt (show 0 < nx by omega) h2
        conv => whnf
        refine ⟨0, rfl, by omega, by simp, ?_⟩
        conv => whnf
        refine aloopI tyOk mx (fun x : Nat => (⟨42, [(1, .ptr 0 0), (5, .ptr 1 0), (6, .c (.int .i64 ((1 : Nat)))), (7, .c (.int .i64 (y))), (11, .c (.int .i64 ((1 : Nat)))), (16, .c (.int .i64 (ny))), (17, .c (.int .i64 (y))), (23, .c (.int .i64 (nx))), (24, .c (.int .i64 (x)))], [(0, .cells 42 [.c (.int .i64 (nx)), .c (.int .i64 (ny)), .c (.int .i64 (z)), .t (.rows m)]), (1, .cells 116 [.c (.int .i64 (nx)), .c (.int .i64 (ny))])], 2⟩ : St)) (fun x => x ≤ nx ∧ (List.range x).all (q1 ny m y) = true) (fun x => nx - x) 0 ⟨by omega, rfl⟩ none (by refine ⟨rfl, rfl, ?_, ?_⟩ <;> ((repeat' (first | exact trivial | exact rfl | refine And.intro ?_ ?_)) <;> (try ((conv => whnf); first | refine vint ?_ | refine vboo ?_ | refine rint ?_ | refine rrow ?_ | skip)) <;> (try first | omega | (simp; done) | ((repeat rw [flts_closed _ (by assumption)]); exact vws_closed _ (by assumption))))) (fun x hI => ?_)
        obtain ⟨hxx, hpx⟩ := hI
        refine ⟨fun h3 => ?_, fun h3 => ?_⟩
        · have h3 := ltT h3
          have hlt := ix_lt h3 h2
          conv => whnf
          refine ADraw.std tyOk mx ⟨by kernel_rfl, ?_⟩
          conv => whnf
          refine QCall.use (ones1_spec nx ny y x z m (by omega) (by omega) h4) ?_
          conv => whnf
          refine QCall.use (ones1_spec nx ny y 0 z m (by omega) (by omega) h4) ?_
          conv => whnf
          refine ⟨fun h5 => ?_, fun h5 => ?_⟩
          · have e : quietF nx ny m = false := by
              have : q1 ny m y x = false := by rw [q1, beq_eq_false_iff_ne]; exact bne_iff_ne.1 h5
              rw [quietF, rall_false (p := q1r nx ny m) h2 (by rw [q1r, rall_false h3 this]), Bool.and_false]
            conv => whnf
            exact ⟨_, _, by rw [e]; rfl, rfl⟩
          · have e : q1 ny m y x = true := by rw [q1, beq_iff_eq]; exact bne_eq_false_iff_eq.1 h5
            conv => whnf
            rw [nat_wrap (by omega)]
            exact ⟨x + 1, none, (by refine ⟨rfl, rfl, ?_, ?_⟩ <;> ((repeat' (first | exact trivial | exact rfl | refine And.intro ?_ ?_)) <;> (try ((conv => whnf); first | refine vint ?_ | refine vboo ?_ | refine rint ?_ | refine rrow ?_ | skip)) <;> (try first | omega | (simp; done) | ((repeat rw [flts_closed _ (by assumption)]); exact vws_closed _ (by assumption))))), ⟨by omega, rall_succ hpx e⟩, by omega⟩
        · have h3 := ltF h3
          obtain rfl : x = nx := by omega
          conv => whnf
          rw [nat_wrap (by omega)]
          exact ⟨y + 1, none, (by refine ⟨rfl, rfl, ?_, ?_⟩ <;> ((repeat' (first | exact trivial | exact rfl | refine And.intro ?_ ?_)) <;> (try ((conv => whnf); first | refine vint ?_ | refine vboo ?_ | refine rint ?_ | refine rrow ?_ | skip)) <;> (try first | omega | (simp; done) | ((repeat rw [flts_closed _ (by assumption)]); exact vws_closed _ (by assumption))))), ⟨by omega, rall_succ hpy hpx⟩, by omega⟩
      · have h2 := ltF h2
        obtain rfl : y = ny := by omega
        conv => whnf
        exact ⟨2, none, (by refine ⟨rfl, rfl, ?_, ?_⟩ <;> ((repeat' (first | exact trivial | exact rfl | refine And.intro ?_ ?_)) <;> (try ((conv => whnf); first | refine vint ?_ | refine vboo ?_ | refine rint ?_ | refine rrow ?_ | skip)) <;> (try first | omega | (simp; done) | ((repeat rw [flts_closed _ (by assumption)]); exact vws_closed _ (by assumption))))), ⟨by omega, fun _ => hq0 (by omega), fun _ => hpy⟩, by omega⟩
  · have h : ¬ p < 2 := by have := of_decide_eq_false h; omega
    obtain rfl : p = 2 := by omega
    have e : quietF nx ny m = true := by rw [quietF, hq0 (by omega), hq1 (by omega)]; rfl
    conv => whnf
    exact ⟨_, _, by rw [e]; rfl, rfl⟩

theorem l2One0_spec (r : List Int) (hr : r.length = 4) : FSpec Try.prog 133 [.t (.ints .i64 r), .c (.int .i64 (0))] (ex (.c (.int .i64 (one0 r))) []) := by
  refine fspec tyOk mx Try.func133 rfl (by kernel_rfl) rfl ?_
  conv => whnf
  refine ⟨fun _ => ?_, fun h => absurd h (by decide)⟩
  refine ADraw.std tyOk mx ⟨by kernel_rfl, 2, rfl, by omega, 3, rfl, by omega, ?_⟩
  conv => whnf
  exact ⟨rfl, rfl⟩
theorem l2One1_spec (r : List Int) (hr : r.length = 4) : FSpec Try.prog 133 [.t (.ints .i64 r), .c (.int .i64 (1))] (ex (.c (.int .i64 (one1 r))) []) := by
  refine fspec tyOk mx Try.func133 rfl (by kernel_rfl) rfl ?_
  conv => whnf
  refine ⟨fun h => absurd h (by decide), fun _ => ?_⟩
  refine ADraw.std tyOk mx ⟨by kernel_rfl, 1, rfl, by omega, 3, rfl, by omega, ?_⟩
  conv => whnf
  exact ⟨rfl, rfl⟩

def lqP (b : Bool) : AVal → List (Nat × ARow) → Prop := fun v h => ∃ a c : Int, v = .tu [.c (.int .i64 (a)), .c (.int .i64 (c))] ∧ h = [] ∧ decide (a < 0) = b

theorem l2Loud_spec (nx ny : Nat) (z : Int) (m : List (List Int)) (hx : nx ≤ 3) (hy : ny ≤ 3) (hy1 : 1 ≤ ny) (hx1 : 1 ≤ nx) (hm : m.length = nx * ny) (h4 : ∀ r, r ∈ m → r.length = 4) :
    FSpec Try.prog 140 [.ag [.c (.int .i64 (nx)), .c (.int .i64 (ny)), .c (.int .i64 (z)), .t (.rows m)]] (lqP (quietF nx ny m)) := by
  have hn : nx * ny ≤ 3 * 3 := Nat.mul_le_mul hx hy
  refine fspec tyOk mx Try.func140 rfl (by kernel_rfl) rfl ?_
  conv => whnf
  refine aloopI tyOk mx (fun x : Nat => (⟨54, [(1, .ptr 0 0), (4, .c (.int .i64 (x)))], [(0, .cells 42 [.c (.int .i64 (nx)), .c (.int .i64 (ny)), .c (.int .i64 (z)), .t (.rows m)])], 1⟩ : St)) (fun x => x ≤ nx ∧ (List.range x).all (q0r ny m) = true) (fun x => nx - x) 0 ⟨by omega, rfl⟩ none (by refine ⟨rfl, rfl, ?_, ?_⟩ <;> ((repeat' (first | exact trivial | exact rfl | refine And.intro ?_ ?_)) <;> (try ((conv => whnf); first | refine vint ?_ | refine vboo ?_ | refine rint ?_ | refine rrow ?_ | skip)) <;> (try first | omega | (simp; done) | ((repeat rw [flts_closed _ (by assumption)]); exact vws_closed _ (by assumption))))) (fun x hI => ?_)
  obtain ⟨hxx, hpx⟩ := hI
  refine ⟨fun h2 => ?_, fun h2 => ?_⟩
  · have h2 := ltT h2
    have hlt0 := ix_lt h2 (show 0 < ny by omega)
    conv => whnf
    refine aloopI tyOk mx (fun j : Nat => (⟨54, [(1, .ptr 0 0), (4, .c (.int .i64 (x))), (5, .c (.int .i64 ((j + 1 : Nat))))], [(0, .cells 42 [.c (.int .i64 (nx)), .c (.int .i64 (ny)), .c (.int .i64 (z)), .t (.rows m)])], 1⟩ : St)) (fun j => j + 1 ≤ ny ∧ (List.range (j + 1)).all (q0 ny m x) = true) (fun j => ny - j) 0 ⟨by omega, by rw [List.range_one]; simp [q0_zero]⟩ none (by refine ⟨rfl, rfl, ?_, ?_⟩ <;> ((repeat' (first | exact trivial | exact rfl | refine And.intro ?_ ?_)) <;> (try ((conv => whnf); first | refine vint ?_ | refine vboo ?_ | refine rint ?_ | refine rrow ?_ | skip)) <;> (try first | omega | (simp; done) | ((repeat rw [flts_closed _ (by assumption)]); exact vws_closed _ (by assumption))))) (fun j hI => ?_)
    obtain ⟨hyy, hpy⟩ := hI
    refine ⟨fun h3 => ?_, fun h3 => ?_⟩
    · have h3 := ltT h3
      have hlt := ix_lt h2 h3
      refine ADraw.plan tyOk mx (.q 0 (.q 1 (.q 2 (.q 5 (.q 6 (.last 3 (.last 4 (.last 7 (.last 8 (.q 9 (.done)))))))))) : Plan) (by kernel_rfl) ?_
      conv => whnf
      refine ACall.useR (l2Row_spec nx ny x (j + 1) z m (by omega) (by omega)) ?_
      conv => whnf
      refine ACall.useR (l2One0_spec _ (h4 _ (getD_mem (show x * ny + (j + 1) < m.length by omega)))) ?_
      conv => whnf
      refine ACall.useR (l2Row_spec nx ny x 0 z m (by omega) (by omega)) ?_
      conv => whnf
      refine ACall.useR (l2One0_spec _ (h4 _ (getD_mem (show x * ny + 0 < m.length by omega)))) ?_
      conv => whnf
      refine ⟨fun h5 => ?_, fun h5 => ?_⟩
      · have e : quietF nx ny m = false := by
          have : q0 ny m x (j + 1) = false := by rw [q0, beq_eq_false_iff_ne]; exact bne_iff_ne.1 h5
          rw [quietF, rall_false h2 (by rw [q0r, rall_false h3 this]), Bool.false_and]
        conv => whnf
        exact ⟨_, _, rfl, rfl, by rw [e]; decide⟩
      · have e : q0 ny m x (j + 1) = true := by rw [q0, beq_iff_eq]; exact bne_eq_false_iff_eq.1 h5
        conv => whnf
        rw [nat_wrap (by omega)]
        exact ⟨j + 1, none, (by refine ⟨rfl, rfl, ?_, ?_⟩ <;> ((repeat' (first | exact trivial | exact rfl | refine And.intro ?_ ?_)) <;> (try ((conv => whnf); first | refine vint ?_ | refine vboo ?_ | refine rint ?_ | refine rrow ?_ | skip)) <;> (try first | omega | (simp; done) | ((repeat rw [flts_closed _ (by assumption)]); exact vws_closed _ (by assumption))))), ⟨by omega, rall_succ hpy e⟩, by omega⟩
    · have h3 := ltF h3
      obtain rfl : ny = j + 1 := by omega
      conv => whnf
      rw [nat_wrap (by omega)]
      exact ⟨x + 1, none, (by refine ⟨rfl, rfl, ?_, ?_⟩ <;> ((repeat' (first | exact trivial | exact rfl | refine And.intro ?_ ?_)) <;> (try ((conv => whnf); first | refine vint ?_ | refine vboo ?_ | refine rint ?_ | refine rrow ?_ | skip)) <;> (try first | omega | (simp; done) | ((repeat rw [flts_closed _ (by assumption)]); exact vws_closed _ (by assumption))))), ⟨by omega, rall_succ hpx hpy⟩, by omega⟩
  · have h2 := ltF h2
    have hall : (List.range nx).all (q0r ny m) = true := by
      have : x = nx := by omega
      rw [← this]; exact hpx
    conv => whnf
    refine aloopI tyOk mx (fun y : Nat => (⟨54, [(1, .ptr 0 0), (6, .c (.int .i64 (y)))], [(0, .cells 42 [.c (.int .i64 (nx)), .c (.int .i64 (ny)), .c (.int .i64 (z)), .t (.rows m)])], 1⟩ : St)) (fun y => y ≤ ny ∧ (List.range y).all (q1r nx ny m) = true) (fun y => ny - y) 0 ⟨by omega, rfl⟩ none (by refine ⟨rfl, rfl, ?_, ?_⟩ <;> ((repeat' (first | exact trivial | exact rfl | refine And.intro ?_ ?_)) <;> (try ((conv => whnf); first | refine vint ?_ | refine vboo ?_ | refine rint ?_ | refine rrow ?_ | skip)) <;> (try first | omega | (simp; done) | ((repeat rw [flts_closed _ (by assumption)]); exact vws_closed _ (by assumption))))) (fun y hI => ?_)
    obtain ⟨hyy, hpy⟩ := hI
    refine ⟨fun h2 => ?_, fun h2 => ?_⟩
    · have h2 := ltT h2
      have hlt0 := ix_lt (show 0 < nx by omega) h2
      conv => whnf
      refine aloopI tyOk mx (fun j : Nat => (⟨54, [(1, .ptr 0 0), (6, .c (.int .i64 (y))), (7, .c (.int .i64 ((j + 1 : Nat))))], [(0, .cells 42 [.c (.int .i64 (nx)), .c (.int .i64 (ny)), .c (.int .i64 (z)), .t (.rows m)])], 1⟩ : St)) (fun j => j + 1 ≤ nx ∧ (List.range (j + 1)).all (q1 ny m y) = true) (fun j => nx - j) 0 ⟨by omega, by rw [List.range_one]; simp [q1_zero]⟩ none (by refine ⟨rfl, rfl, ?_, ?_⟩ <;> ((repeat' (first | exact trivial | exact rfl | refine And.intro ?_ ?_)) <;> (try ((conv => whnf); first | refine vint ?_ | refine vboo ?_ | refine rint ?_ | refine rrow ?_ | skip)) <;> (try first | omega | (simp; done) | ((repeat rw [flts_closed _ (by assumption)]); exact vws_closed _ (by assumption))))) (fun j hI => ?_)
      obtain ⟨hxx2, hpx2⟩ := hI
      refine ⟨fun h3 => ?_, fun h3 => ?_⟩
      · have h3 := ltT h3
        have hlt := ix_lt h3 h2
        refine ADraw.plan tyOk mx (.q 0 (.q 1 (.q 2 (.q 5 (.q 6 (.last 3 (.last 4 (.last 7 (.last 8 (.q 9 (.done)))))))))) : Plan) (by kernel_rfl) ?_
        conv => whnf
        refine ACall.useR (l2Row_spec nx ny (j + 1) y z m (by omega) (by omega)) ?_
        conv => whnf
        refine ACall.useR (l2One1_spec _ (h4 _ (getD_mem (show (j + 1) * ny + y < m.length by omega)))) ?_
        conv => whnf
        refine ACall.useR (l2Row_spec nx ny 0 y z m (by omega) (by omega)) ?_
        conv => whnf
        refine ACall.useR (l2One1_spec _ (h4 _ (getD_mem (show 0 * ny + y < m.length by omega)))) ?_
        conv => whnf
        refine ⟨fun h5 => ?_, fun h5 => ?_⟩
        · have e : quietF nx ny m = false := by
            have : q1 ny m y (j + 1) = false := by rw [q1, beq_eq_false_iff_ne]; exact bne_iff_ne.1 h5
            rw [quietF, rall_false (p := q1r nx ny m) h2 (by rw [q1r, rall_false h3 this]), Bool.and_false]
          conv => whnf
          exact ⟨_, _, rfl, rfl, by rw [e]; decide⟩
        · have e : q1 ny m y (j + 1) = true := by rw [q1, beq_iff_eq]; exact bne_eq_false_iff_eq.1 h5
          conv => whnf
          rw [nat_wrap (by omega)]
          exact ⟨j + 1, none, (by refine ⟨rfl, rfl, ?_, ?_⟩ <;> ((repeat' (first | exact trivial | exact rfl | refine And.intro ?_ ?_)) <;> (try ((conv => whnf); first | refine vint ?_ | refine vboo ?_ | refine rint ?_ | refine rrow ?_ | skip)) <;> (try first | omega | (simp; done) | ((repeat rw [flts_closed _ (by assumption)]); exact vws_closed _ (by assumption))))), ⟨by omega, rall_succ hpx2 e⟩, by omega⟩
      · have h3 := ltF h3
        have e3 : nx = j + 1 := by omega
        conv => whnf
        rw [nat_wrap (by omega)]
        exact ⟨y + 1, none, (by refine ⟨rfl, rfl, ?_, ?_⟩ <;> ((repeat' (first | exact trivial | exact rfl | refine And.intro ?_ ?_)) <;> (try ((conv => whnf); first | refine vint ?_ | refine vboo ?_ | refine rint ?_ | refine rrow ?_ | skip)) <;> (try first | omega | (simp; done) | ((repeat rw [flts_closed _ (by assumption)]); exact vws_closed _ (by assumption))))), ⟨by omega, rall_succ hpy (by rw [q1r, e3]; exact hpx2)⟩, by omega⟩
    · have h2 := ltF h2
      obtain rfl : y = ny := by omega
      have e : quietF nx y m = true := by rw [quietF, hall, hpy]; rfl
      conv => whnf
      exact ⟨_, _, rfl, rfl, by rw [e]; decide⟩

theorem l2Quiet_spec (nx ny : Nat) (z : Int) (m : List (List Int)) (hx : nx ≤ 3) (hy : ny ≤ 3) (hy1 : 1 ≤ ny) (hx1 : 1 ≤ nx) (hm : m.length = nx * ny) (h4 : ∀ r, r ∈ m → r.length = 4) :
    FSpec Try.prog 129 [.ag [.c (.int .i64 (nx)), .c (.int .i64 (ny)), .c (.int .i64 (z)), .t (.rows m)]] (ex (.c (.bool (quietF nx ny m))) []) := by
  refine fspec tyOk mx Try.func129 rfl (by kernel_rfl) rfl ?_
  conv => whnf
  refine ACall.use' (l2Loud_spec nx ny z m hx hy hy1 hx1 hm h4) (fun v h hv => ?_)
  obtain ⟨a, c, rfl, rfl, e⟩ := hv
  conv => whnf
  exact ⟨by rw [e], rfl⟩

def quietB (x y z : Int) (m : List (List Int)) : Bool := goodB x y z m && quietF x.toNat y.toNat m
theorem isQuiet_spec (x y z : Int) (m : List (List Int)) (km : SzM m) : FSpec Try.prog 130 [.ag [.c (.int .i64 (x)), .c (.int .i64 (y)), .c (.int .i64 (z)), .t (.rows m)]] (ex (.c (.bool (quietB x y z m))) []) := by
  refine fspec tyOk mx Try.func130 rfl (by kernel_rfl) rfl ?_
  conv => whnf
  refine ACall.use (IsBox_spec x y z m km) ?_
  conv => whnf
  refine ⟨fun h => ?_, fun h => ?_⟩
  · have h : goodB x y z m = false := by simpa using h
    conv => whnf
    exact ⟨by rw [quietB, h]; rfl, rfl⟩
  · have h : goodB x y z m = true := by simpa using h
    have h' := h
    obtain ⟨nx, ny, rfl, rfl, g1, g2, g3, g4, g5, g6, g7, g8, g9⟩ := goodB_spec h
    conv => whnf
    refine ACall.use' (loud_spec nx ny z m g2 g4 g3 g1 g7 (fun r hr => (g9 r hr).1)) (fun v h hv => ?_)
    obtain ⟨a, c, rfl, rfl⟩ := hv
    conv => whnf
    refine ⟨?_, rfl⟩
    rw [quietB, h', Bool.not_not]; rfl
def qpB (x y z : Int) (m : List (List Int)) : Bool := pairB x y z m && quietF 2 2 m
theorem qpB_spec {x y z : Int} {m : List (List Int)} (h : qpB x y z m = true) : x = 2 ∧ y = 2 ∧ 1 ≤ z ∧ z ≤ 1000 ∧ m.length = 4 ∧ (∀ r, r ∈ m → r.length = 4 ∧ (∀ v, v ∈ r → 0 ≤ v ∧ v ≤ z) ∧ sumF r r.length = z) := by
  simp only [qpB, Bool.and_eq_true] at h
  exact pairB_spec h.1
theorem isQuietPair_spec (x y z : Int) (m : List (List Int)) (km : SzM m) : FSpec Try.prog 99 [.ag [.c (.int .i64 (x)), .c (.int .i64 (y)), .c (.int .i64 (z)), .t (.rows m)]] (ex (.c (.bool (qpB x y z m))) []) := by
  have key : qpB x y z m = (quietB x y z m && (decide (x = 2) && decide (y = 2))) := by
    rw [qpB, pairB, quietB]
    by_cases h1 : x = 2
    · by_cases h2 : y = 2
      · subst h1; subst h2
        simp
      · simp [h2]
    · simp [h1]
  refine fspec tyOk mx Try.func99 rfl (by kernel_rfl) rfl ?_
  conv => whnf
  refine ACall.use (isQuiet_spec x y z m km) ?_
  conv => whnf
  refine ⟨fun h => ?_, fun h => ?_⟩
  · conv => whnf
    refine ACall.use (hasTwo_spec x y) ?_
    conv => whnf
    exact ⟨by rw [key, h, Bool.true_and], rfl⟩
  · conv => whnf
    exact ⟨by rw [key, h, Bool.false_and], rfl⟩
theorem l6Quiet_spec (x y z : Int) (m : List (List Int)) (km : SzM m) : FSpec Try.prog 97 [.ag [.c (.int .i64 (x)), .c (.int .i64 (y)), .c (.int .i64 (z)), .t (.rows m)]] (ex (.c (.bool (qpB x y z m))) []) := by
  refine fspec tyOk mx Try.func97 rfl (by kernel_rfl) rfl ?_
  conv => whnf
  refine ACall.use (l6Two_spec x y z m km) ?_
  conv => whnf
  refine ⟨fun h => ?_, fun h => ?_⟩
  · have h' := h
    obtain ⟨rfl, rfl, g1, g2, g3, g4⟩ := pairB_spec h
    conv => whnf
    refine ACall.use (l2Quiet_spec 2 2 z m (by omega) (by omega) (by omega) (by omega) g3 (fun r hr => (g4 r hr).1)) ?_
    conv => whnf
    exact ⟨by rw [qpB, h', Bool.true_and], rfl⟩
  · conv => whnf
    exact ⟨by rw [qpB, h, Bool.false_and], rfl⟩
end Go.Proofs.Ytgefdbihdliolaa
