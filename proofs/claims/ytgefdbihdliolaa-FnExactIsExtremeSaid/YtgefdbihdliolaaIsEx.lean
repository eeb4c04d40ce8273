/- IsExtreme, reference and program. -/
import Derived.Test.YtgefdbihdliolaaRange2
import Derived.Test.YtgefdbihdliolaaQuiet
namespace Go.Aw
def alkN (z z' : Int) (m m' : List (List Int)) (i n : Nat) : Bool := decide (W ((m.getD i []).getD n 0 * z') = W ((m'.getD i []).getD n 0 * z))
def alkB (z z' : Int) (m m' : List (List Int)) : Bool := (List.range m.length).all fun i => (List.range 4).all (alkN z z' m m' i)
end Go.Aw
namespace Go.Proofs.Ytgefdbihdliolaa
open Go.Aw
set_option maxRecDepth 100000
set_option maxHeartbeats 4000000

theorem l2Alike_spec (x y z x' y' z' : Int) (m m' : List (List Int)) (hl : m'.length = m.length) (hb : m.length ≤ 1000) (h4 : ∀ r, r ∈ m → r.length = 4) (h4' : ∀ r, r ∈ m' → r.length = 4) :
    FSpec Try.prog 98 [.ag [.c (.int .i64 (x)), .c (.int .i64 (y)), .c (.int .i64 (z)), .t (.rows m)], .ag [.c (.int .i64 (x')), .c (.int .i64 (y')), .c (.int .i64 (z')), .t (.rows m')]] (ex (.c (.bool (alkB z z' m m'))) []) := by
  refine fspec tyOk mx Try.func98 rfl (by kernel_rfl) rfl ?_
  conv => whnf
  refine aloopI tyOk mx (fun i : Nat => (⟨41, [(2, .ptr 0 0), (3, .ptr 1 0), (5, .c (.int .i64 (i)))], [(0, .cells 42 [.c (.int .i64 (x)), .c (.int .i64 (y)), .c (.int .i64 (z)), .t (.rows m)]), (1, .cells 42 [.c (.int .i64 (x')), .c (.int .i64 (y')), .c (.int .i64 (z')), .t (.rows m')])], 2⟩ : St)) (fun i => i ≤ m.length ∧ (List.range i).all (fun i => (List.range 4).all (alkN z z' m m' i)) = true) (fun i => m.length - i) 0 ⟨Nat.zero_le _, rfl⟩ none (by refine ⟨rfl, rfl, ?_, ?_⟩ <;> ((repeat' (first | exact trivial | exact rfl | refine And.intro ?_ ?_)) <;> (try ((conv => whnf); first | refine vint ?_ | refine vboo ?_ | refine rint ?_ | refine rrow ?_ | skip)) <;> (try first | omega | (simp; done) | ((repeat rw [flts_closed _ (by assumption)]); exact vws_closed _ (by assumption))))) (fun i hi => ?_)
  obtain ⟨hi, hp⟩ := hi
  refine ⟨fun h => ?_, fun h => ?_⟩
  · have h : i < m.length := by have := ltT h; omega
    have l1 := h4 _ (getD_mem (d := []) h)
    have l2 := h4' _ (getD_mem (d := []) (show i < m'.length by omega))
    conv => whnf
    refine aloopI tyOk mx (fun n : Nat => (⟨41, [(2, .ptr 0 0), (3, .ptr 1 0), (5, .c (.int .i64 (i))), (6, .c (.int .i64 (n)))], [(0, .cells 42 [.c (.int .i64 (x)), .c (.int .i64 (y)), .c (.int .i64 (z)), .t (.rows m)]), (1, .cells 42 [.c (.int .i64 (x')), .c (.int .i64 (y')), .c (.int .i64 (z')), .t (.rows m')])], 2⟩ : St)) (fun n => n ≤ 4 ∧ (List.range n).all (alkN z z' m m' i) = true) (fun n => 4 - n) 0 ⟨Nat.zero_le _, rfl⟩ none (by refine ⟨rfl, rfl, ?_, ?_⟩ <;> ((repeat' (first | exact trivial | exact rfl | refine And.intro ?_ ?_)) <;> (try ((conv => whnf); first | refine vint ?_ | refine vboo ?_ | refine rint ?_ | refine rrow ?_ | skip)) <;> (try first | omega | (simp; done) | ((repeat rw [flts_closed _ (by assumption)]); exact vws_closed _ (by assumption))))) (fun n hn => ?_)
    obtain ⟨hn, hq⟩ := hn
    refine ⟨fun h2 => ?_, fun h2 => ?_⟩
    · have h2 : n < 4 := by have := of_decide_eq_true h2; omega
      conv => whnf
      refine ADraw.std tyOk mx ⟨by kernel_rfl, i, rfl, h, n, rfl, by omega, i, rfl, by omega, n, rfl, by omega, ?_⟩
      conv => whnf
      refine ⟨fun h3 => ?_, fun h3 => ?_⟩
      · have h3 : alkN z z' m m' i n = false := by
          have h3 : ¬ W ((m.getD i []).getD n 0 * z') = W ((m'.getD i []).getD n 0 * z) := by simpa using h3
          exact decide_eq_false h3
        conv => whnf
        refine ⟨?_, rfl⟩
        rw [alkB, rall_false h (rall_false h2 h3)]
      · have h3 : alkN z z' m m' i n = true := by
          have h3 : W ((m.getD i []).getD n 0 * z') = W ((m'.getD i []).getD n 0 * z) := by simpa using h3
          exact decide_eq_true h3
        conv => whnf
        rw [nat_wrap (by omega)]
        exact ⟨n + 1, none, (by refine ⟨rfl, rfl, ?_, ?_⟩ <;> ((repeat' (first | exact trivial | exact rfl | refine And.intro ?_ ?_)) <;> (try ((conv => whnf); first | refine vint ?_ | refine vboo ?_ | refine rint ?_ | refine rrow ?_ | skip)) <;> (try first | omega | (simp; done) | ((repeat rw [flts_closed _ (by assumption)]); exact vws_closed _ (by assumption))))), ⟨by omega, rall_succ hq h3⟩, by omega⟩
    · have h2 : ¬ n < 4 := by have := of_decide_eq_false h2; omega
      obtain rfl : n = 4 := by omega
      conv => whnf
      rw [nat_wrap (by omega)]
      exact ⟨i + 1, none, (by refine ⟨rfl, rfl, ?_, ?_⟩ <;> ((repeat' (first | exact trivial | exact rfl | refine And.intro ?_ ?_)) <;> (try ((conv => whnf); first | refine vint ?_ | refine vboo ?_ | refine rint ?_ | refine rrow ?_ | skip)) <;> (try first | omega | (simp; done) | ((repeat rw [flts_closed _ (by assumption)]); exact vws_closed _ (by assumption))))), ⟨by omega, rall_succ hp hq⟩, by omega⟩
  · have h : ¬ i < m.length := by have := ltF h; omega
    obtain rfl : i = m.length := by omega
    conv => whnf
    refine ⟨?_, rfl⟩
    rw [alkB, hp]

theorem alike_spec (z z' : Int) (m m' : List (List Int)) (hl : m'.length = m.length) (hb : m.length ≤ 1000) (h4 : ∀ r, r ∈ m → r.length = 4) (h4' : ∀ r, r ∈ m' → r.length = 4) :
    FSpec Try.prog 100 [.t (.rows m), .c (.int .i64 (z)), .t (.rows m'), .c (.int .i64 (z'))] (ex (.c (.bool (alkB z z' m m'))) []) := by
  refine fspec tyOk mx Try.func100 rfl (by kernel_rfl) rfl ?_
  conv => whnf
  refine aloopI tyOk mx (fun i : Nat => (⟨42, [(1, .c (.int .i64 (z))), (2, .t (.rows m')), (3, .c (.int .i64 (z'))), (13, .t (.rows m)), (14, .c (.int .i64 (m.length))), (15, .c (.int .i64 (i)))], [], 0⟩ : St)) (fun i => i ≤ m.length ∧ (List.range i).all (fun i => (List.range 4).all (alkN z z' m m' i)) = true) (fun i => m.length - i) 0 ⟨Nat.zero_le _, rfl⟩ none (by refine ⟨rfl, rfl, ?_, ?_⟩ <;> ((repeat' (first | exact trivial | exact rfl | refine And.intro ?_ ?_)) <;> (try ((conv => whnf); first | refine vint ?_ | refine vboo ?_ | refine rint ?_ | refine rrow ?_ | skip)) <;> (try first | omega | (simp; done) | ((repeat rw [flts_closed _ (by assumption)]); exact vws_closed _ (by assumption))))) (fun i hi => ?_)
  obtain ⟨hi, hp⟩ := hi
  refine ⟨fun h => ?_, fun h => ?_⟩
  · have h : i < m.length := by have := ltT h; omega
    have l1 := h4 _ (getD_mem (d := []) h)
    have l2 := h4' _ (getD_mem (d := []) (show i < m'.length by omega))
    conv => whnf
    refine ⟨i, rfl, h, ?_⟩
    conv => whnf
    refine aloopI tyOk mx (fun n : Nat => (⟨42, [(1, .c (.int .i64 (z))), (2, .t (.rows m')), (3, .c (.int .i64 (z'))), (9, .c (.int .i64 (i))), (13, .t (.rows m)), (14, .c (.int .i64 (m.length))), (15, .c (.int .i64 (i))), (20, .t (.ints .i64 (m.getD i []))), (21, .c (.int .i64 ((m.getD i []).length))), (22, .c (.int .i64 (n)))], [], 0⟩ : St)) (fun n => n ≤ 4 ∧ (List.range n).all (alkN z z' m m' i) = true) (fun n => 4 - n) 0 ⟨Nat.zero_le _, rfl⟩ none (by refine ⟨rfl, rfl, ?_, ?_⟩ <;> ((repeat' (first | exact trivial | exact rfl | refine And.intro ?_ ?_)) <;> (try ((conv => whnf); first | refine vint ?_ | refine vboo ?_ | refine rint ?_ | refine rrow ?_ | skip)) <;> (try first | omega | (simp; done) | ((repeat rw [flts_closed _ (by assumption)]); exact vws_closed _ (by assumption))))) (fun n hn => ?_)
    obtain ⟨hn, hq⟩ := hn
    refine ⟨fun h2 => ?_, fun h2 => ?_⟩
    · have h2 : n < 4 := by have := ltT h2; omega
      conv => whnf
      refine ⟨n, rfl, by omega, ?_⟩
      conv => whnf
      refine ⟨i, rfl, by omega, ?_⟩
      conv => whnf
      refine ⟨n, rfl, by omega, ?_⟩
      conv => whnf
      refine ⟨fun h3 => ?_, fun h3 => ?_⟩
      · have h3 : alkN z z' m m' i n = false := by
          have h3 : ¬ W ((m.getD i []).getD n 0 * z') = W ((m'.getD i []).getD n 0 * z) := by simpa using h3
          exact decide_eq_false h3
        conv => whnf
        refine ⟨?_, rfl⟩
        rw [alkB, rall_false h (rall_false h2 h3)]
      · have h3 : alkN z z' m m' i n = true := by
          have h3 : W ((m.getD i []).getD n 0 * z') = W ((m'.getD i []).getD n 0 * z) := by simpa using h3
          exact decide_eq_true h3
        conv => whnf
        rw [nat_wrap (by omega)]
        exact ⟨n + 1, none, (by refine ⟨rfl, rfl, ?_, ?_⟩ <;> ((repeat' (first | exact trivial | exact rfl | refine And.intro ?_ ?_)) <;> (try ((conv => whnf); first | refine vint ?_ | refine vboo ?_ | refine rint ?_ | refine rrow ?_ | skip)) <;> (try first | omega | (simp; done) | ((repeat rw [flts_closed _ (by assumption)]); exact vws_closed _ (by assumption))))), ⟨by omega, rall_succ hq h3⟩, by omega⟩
    · have h2 : ¬ n < 4 := by have := ltF h2; omega
      obtain rfl : n = 4 := by omega
      conv => whnf
      rw [nat_wrap (by omega)]
      exact ⟨i + 1, none, (by refine ⟨rfl, rfl, ?_, ?_⟩ <;> ((repeat' (first | exact trivial | exact rfl | refine And.intro ?_ ?_)) <;> (try ((conv => whnf); first | refine vint ?_ | refine vboo ?_ | refine rint ?_ | refine rrow ?_ | skip)) <;> (try first | omega | (simp; done) | ((repeat rw [flts_closed _ (by assumption)]); exact vws_closed _ (by assumption))))), ⟨by omega, rall_succ hp hq⟩, by omega⟩
  · have h : ¬ i < m.length := by have := ltF h; omega
    obtain rfl : i = m.length := by omega
    conv => whnf
    refine ⟨?_, rfl⟩
    rw [alkB, hp]

def alkE (z : Int) (m : List (List Int)) (i : Nat) : Bool := alkB z 2 m (exRow i)
def ixIs (x y z : Int) (m : List (List Int)) : Bool := qpB x y z m && !((List.range 24).all fun i => !alkE z m i)
theorem ix_yes {x y z : Int} {m : List (List Int)} {i : Nat} (h : qpB x y z m = true) (hi : i < 24) (h2 : alkE z m i = true) : ixIs x y z m = true := by
  rw [ixIs, h, rall_false hi (by rw [h2]; rfl)]; rfl
theorem ix_no {x y z : Int} {m : List (List Int)} (h2 : (List.range 24).all (fun i => !alkE z m i) = true) : ixIs x y z m = false := by
  rw [ixIs, h2]; simp

theorem IsExtreme_s (x y z : Int) (m : List (List Int)) (_hx : InR x) (_hy : InR y) (_hz : InR z) (_hm : OkM m) (km : SzM m) :
    FSpec Try.prog 44 [.ag [.c (.int .i64 (x)), .c (.int .i64 (y)), .c (.int .i64 (z)), .t (.rows m)]] (ex (.tu [.c (.bool (ixIs x y z m)), .c (.bool (qpB x y z m))]) []) := by
  have hl := exL_len 24
  refine fspec tyOk mx Try.func44 rfl (by kernel_rfl) rfl ?_
  conv => whnf
  refine ACall.use (l6Quiet_spec x y z m km) ?_
  conv => whnf
  refine ⟨fun h => ?_, fun h => ?_⟩
  · have h : qpB x y z m = false := by simpa using h
    conv => whnf
    exact ⟨by rw [ixIs, h]; rfl, rfl⟩
  · have h : qpB x y z m = true := by simpa using h
    obtain ⟨_, _, g1, g2, g3, g4⟩ := qpB_spec h
    have h4 : ∀ r, r ∈ m → r.length = 4 := fun r hr => (g4 r hr).1
    conv => whnf
    refine ACall.use l6Extremes_spec ?_
    conv => whnf
    refine aloopI tyOk mx (fun i : Nat => (⟨22, [(1, .ptr 0 0), (4, .t (.recs 3 (exL 24))), (5, .c (.int .i64 (i)))], [(0, .cells 42 [.c (.int .i64 (x)), .c (.int .i64 (y)), .c (.int .i64 (z)), .t (.rows m)])], 1⟩ : St)) (fun i => i ≤ 24 ∧ (List.range i).all (fun i => !alkE z m i) = true) (fun i => 24 - i) 0 ⟨Nat.zero_le _, rfl⟩ none (by refine ⟨rfl, rfl, ?_, ?_⟩ <;> ((repeat' (first | exact trivial | exact rfl | refine And.intro ?_ ?_)) <;> (try ((conv => whnf); first | refine vint ?_ | refine vboo ?_ | refine rint ?_ | refine rrow ?_ | skip)) <;> (try first | omega | (simp; done) | ((repeat rw [flts_closed _ (by assumption)]); exact vws_closed _ (by assumption))))) (fun i hi => ?_)
    obtain ⟨hi, hp⟩ := hi
    refine ⟨fun h2 => ?_, fun h2 => ?_⟩
    · have h2 : i < 24 := by have := ltT h2; omega
      conv => whnf
      refine ADraw.std tyOk mx ⟨by kernel_rfl, i, rfl, by omega, ?_⟩
      conv => whnf
      rw [exL_get h2]
      refine QCall.use (l2Alike_spec x y z 2 2 2 m (exRow i) (by rw [exRow_len, g3]) (by omega) h4 (exRow_rows i)) ?_
      conv => whnf
      refine ⟨fun h3 => ?_, fun h3 => ?_⟩
      · have h3 : alkE z m i = true := h3
        conv => whnf
        exact ⟨by rw [ix_yes h h2 h3, h], rfl⟩
      · have h3 : alkE z m i = false := h3
        conv => whnf
        rw [nat_wrap (by omega)]
        exact ⟨i + 1, none, (by refine ⟨rfl, rfl, ?_, ?_⟩ <;> ((repeat' (first | exact trivial | exact rfl | refine And.intro ?_ ?_)) <;> (try ((conv => whnf); first | refine vint ?_ | refine vboo ?_ | refine rint ?_ | refine rrow ?_ | skip)) <;> (try first | omega | (simp; done) | ((repeat rw [flts_closed _ (by assumption)]); exact vws_closed _ (by assumption))))), ⟨by omega, rall_succ hp (by rw [h3]; rfl)⟩, by omega⟩
    · have h2 : ¬ i < 24 := by have := ltF h2; omega
      obtain rfl : i = 24 := by omega
      conv => whnf
      exact ⟨by rw [ix_no hp, h], rfl⟩

theorem IsExtreme_i (x y z : Int) (m : List (List Int)) (_hx : InR x) (_hy : InR y) (_hz : InR z) (_hm : OkM m) (km : SzM m) :
    FSpec Try.prog 45 [.ag [.c (.int .i64 (x)), .c (.int .i64 (y)), .c (.int .i64 (z)), .t (.rows m)]] (ex (.tu [.c (.bool (ixIs x y z m)), .c (.bool (qpB x y z m))]) []) := by
  refine fspec tyOk mx Try.func45 rfl (by kernel_rfl) rfl ?_
  conv => whnf
  refine ACall.use (isQuietPair_spec x y z m km) ?_
  conv => whnf
  refine ⟨fun h => ?_, fun h => ?_⟩
  · have h : qpB x y z m = false := by simpa using h
    conv => whnf
    exact ⟨by rw [ixIs, h]; rfl, rfl⟩
  · have h : qpB x y z m = true := by simpa using h
    obtain ⟨_, _, g1, g2, g3, g4⟩ := qpB_spec h
    have h4 : ∀ r, r ∈ m → r.length = 4 := fun r hr => (g4 r hr).1
    conv => whnf
    refine aloopI tyOk mx (fun i : Nat => (⟨24, [(1, .ptr 0 0), (9, .c (.int .i64 (i)))], [(0, .cells 42 [.c (.int .i64 (x)), .c (.int .i64 (y)), .c (.int .i64 (z)), .t (.rows m)])], 1⟩ : St)) (fun i => i ≤ 24 ∧ (List.range i).all (fun i => !alkE z m i) = true) (fun i => 24 - i) 0 ⟨Nat.zero_le _, rfl⟩ none (by refine ⟨rfl, rfl, ?_, ?_⟩ <;> ((repeat' (first | exact trivial | exact rfl | refine And.intro ?_ ?_)) <;> (try ((conv => whnf); first | refine vint ?_ | refine vboo ?_ | refine rint ?_ | refine rrow ?_ | skip)) <;> (try first | omega | (simp; done) | ((repeat rw [flts_closed _ (by assumption)]); exact vws_closed _ (by assumption))))) (fun i hi => ?_)
    obtain ⟨hi, hp⟩ := hi
    refine ⟨fun h2 => ?_, fun h2 => ?_⟩
    · have h2 : i < 24 := by have := of_decide_eq_true h2; omega
      conv => whnf
      refine ACall.use (extreme_spec i h2) ?_
      conv => whnf
      refine ACall.use (alike_spec z 2 m (exRow i) (by rw [exRow_len, g3]) (by omega) h4 (exRow_rows i)) ?_
      conv => whnf
      refine ⟨fun h3 => ?_, fun h3 => ?_⟩
      · have h3 : alkE z m i = true := h3
        conv => whnf
        exact ⟨by rw [ix_yes h h2 h3, h], rfl⟩
      · have h3 : alkE z m i = false := h3
        conv => whnf
        rw [nat_wrap (by omega)]
        exact ⟨i + 1, none, (by refine ⟨rfl, rfl, ?_, ?_⟩ <;> ((repeat' (first | exact trivial | exact rfl | refine And.intro ?_ ?_)) <;> (try ((conv => whnf); first | refine vint ?_ | refine vboo ?_ | refine rint ?_ | refine rrow ?_ | skip)) <;> (try first | omega | (simp; done) | ((repeat rw [flts_closed _ (by assumption)]); exact vws_closed _ (by assumption))))), ⟨by omega, rall_succ hp (by rw [h3]; rfl)⟩, by omega⟩
    · have h2 : ¬ i < 24 := by have := of_decide_eq_false h2; omega
      obtain rfl : i = 24 := by omega
      conv => whnf
      exact ⟨by rw [ix_no hp, h], rfl⟩
end Go.Proofs.Ytgefdbihdliolaa
