/- Functionals of games, scores of boxes: reference and program. -/
import Derived.Test.YtgefdbihdliolaaGame1
import Derived.Test.YtgefdbihdliolaaWorth
namespace Go.Aw
def fnGRow (s : List Int) (m : List (List Int)) (i : Nat) : List Int := (m.getD i []).map (fun w => W (w * s.getD i 0))
def funG (s : List Int) (m : List (List Int)) : List (List Int) := (List.range m.length).map (fnGRow s m)
end Go.Aw
namespace Go.Proofs.Ytgefdbihdliolaa
open Go.Aw
set_option maxRecDepth 100000
set_option maxHeartbeats 4000000

theorem functional_spec (x y : Int) (s : List Int) (m : List (List Int)) (hs : s.length = m.length) (hm : m.length ≤ 1000) (h4 : ∀ r, r ∈ m → r.length ≤ 1000) :
    FSpec Try.prog 142 [.ag [.c (.int .i64 (x)), .c (.int .i64 (y)), .t (.ints .i64 s), .t (.rows m)]] (ex (.own 0) [(0, .rows 23 3 true (funG s m))]) := by
  refine fspec tyOk mx Try.func142 rfl (by kernel_rfl) rfl ?_
  conv => whnf
  refine aloopI tyOk mx (fun i : Nat => (⟨42, [(1, .ptr 0 0), (3, .own 1), (11, .t (.rows m)), (12, .c (.int .i64 (m.length))), (13, .c (.int .i64 (i)))], [(0, .cells 66 [.c (.int .i64 (x)), .c (.int .i64 (y)), .t (.ints .i64 s), .t (.rows m)]), (1, .rows 23 3 true ((List.range i).map (fnGRow s m)))], 2⟩ : St)) (fun i => i ≤ m.length) (fun i => m.length - i) 0 (Nat.zero_le _) none (by refine ⟨rfl, rfl, ?_, ?_⟩ <;> ((repeat' (first | exact trivial | exact rfl | refine And.intro ?_ ?_)) <;> (try ((conv => whnf); first | refine vint ?_ | refine vboo ?_ | refine rint ?_ | refine rrow ?_ | skip)) <;> (try first | omega | (simp; done) | ((repeat rw [flts_closed _ (by assumption)]); exact vws_closed _ (by assumption))))) (fun i hi => ?_)
  refine ⟨fun h => ?_, fun h => ?_⟩
  · have h := ltT h
    have h5 := h4 _ (getD_mem (d := []) h)
    conv => whnf
    refine ⟨i, rfl, h, ?_⟩
    conv => whnf
    refine aloopI tyOk mx (fun k : Nat => (⟨42, [(1, .ptr 0 0), (3, .own 1), (4, .c (.int .i64 (i))), (6, .own 2), (11, .t (.rows m)), (12, .c (.int .i64 (m.length))), (13, .c (.int .i64 (i))), (19, .t (.ints .i64 (m.getD i []))), (20, .c (.int .i64 ((m.getD i []).length))), (21, .c (.int .i64 (k)))], [(0, .cells 66 [.c (.int .i64 (x)), .c (.int .i64 (y)), .t (.ints .i64 s), .t (.rows m)]), (1, .rows 23 3 true ((List.range i).map (fnGRow s m))), (2, .ints 3 .i64 (((m.getD i []).take k).map (fun w => W (w * s.getD i 0))))], 3⟩ : St)) (fun k => k ≤ (m.getD i []).length) (fun k => (m.getD i []).length - k) 0 (Nat.zero_le _) none (by refine ⟨rfl, rfl, ?_, ?_⟩ <;> ((repeat' (first | exact trivial | exact rfl | refine And.intro ?_ ?_)) <;> (try ((conv => whnf); first | refine vint ?_ | refine vboo ?_ | refine rint ?_ | refine rrow ?_ | skip)) <;> (try first | omega | (simp; done) | ((repeat rw [flts_closed _ (by assumption)]); exact vws_closed _ (by assumption))))) (fun k hk => ?_)
    refine ⟨fun h2 => ?_, fun h2 => ?_⟩
    · have h2 := ltT h2
      conv => whnf
      refine ⟨k, rfl, h2, ?_⟩
      conv => whnf
      refine ⟨i, rfl, by omega, ?_⟩
      conv => whnf
      refine ⟨by simp [room]; omega, ?_⟩
      conv => whnf
      rw [nat_wrap (by omega)]
      refine ⟨k + 1, none, ?_, by omega, by omega⟩
      (refine ⟨rfl, rfl, ?_, ?_⟩ <;> ((repeat' (first | exact trivial | exact rfl | refine And.intro ?_ ?_)) <;> (try ((conv => whnf); first | refine vint ?_ | refine vboo ?_ | refine rint ?_ | refine rrow ?_ | skip)) <;> (try first | omega | (simp; done) | ((repeat rw [flts_closed _ (by assumption)]); exact vws_closed _ (by assumption)))))
      rw [List.take_succ_eq_append_getElem h2, List.map_append, getD_lt h2]
      rfl
    · have h2 := ltF h2
      obtain rfl : k = (m.getD i []).length := by omega
      conv => whnf
      refine ⟨by simp [room]; omega, ?_⟩
      conv => whnf
      rw [nat_wrap (by omega)]
      refine ⟨i + 1, none, ?_, by omega, by omega⟩
      (refine ⟨rfl, rfl, ?_, ?_⟩ <;> ((repeat' (first | exact trivial | exact rfl | refine And.intro ?_ ?_)) <;> (try ((conv => whnf); first | refine vint ?_ | refine vboo ?_ | refine rint ?_ | refine rrow ?_ | skip)) <;> (try first | omega | (simp; done) | ((repeat rw [flts_closed _ (by assumption)]); exact vws_closed _ (by assumption)))))
      rw [← map_range_succ, fnGRow, List.take_length]
  · have h := ltF h
    obtain rfl : i = m.length := by omega
    conv => whnf
    exact ⟨rfl, rfl⟩

theorem l4Functional_spec (x y : Int) (s : List Int) (m : List (List Int)) (hs : s.length = m.length) (hm : m.length ≤ 1000) (h4 : ∀ r, r ∈ m → r.length = 4) :
    FSpec Try.prog 103 [.ag [.c (.int .i64 (x)), .c (.int .i64 (y)), .t (.ints .i64 s), .t (.rows m)]] (ex (.own 0) [(0, .rows 23 3 true (funG s m))]) := by
  refine fspec tyOk mx Try.func103 rfl (by kernel_rfl) rfl ?_
  conv => whnf
  refine aloopI tyOk mx (fun i : Nat => (⟨42, [(1, .ptr 0 0), (3, .own 1), (4, .c (.int .i64 (i)))], [(0, .cells 66 [.c (.int .i64 (x)), .c (.int .i64 (y)), .t (.ints .i64 s), .t (.rows m)]), (1, .rows 23 3 true ((List.range i).map (fnGRow s m)))], 2⟩ : St)) (fun i => i ≤ m.length) (fun i => m.length - i) 0 (Nat.zero_le _) none (by refine ⟨rfl, rfl, ?_, ?_⟩ <;> ((repeat' (first | exact trivial | exact rfl | refine And.intro ?_ ?_)) <;> (try ((conv => whnf); first | refine vint ?_ | refine vboo ?_ | refine rint ?_ | refine rrow ?_ | skip)) <;> (try first | omega | (simp; done) | ((repeat rw [flts_closed _ (by assumption)]); exact vws_closed _ (by assumption))))) (fun i hi => ?_)
  refine ⟨fun h => ?_, fun h => ?_⟩
  · have h := ltT h
    have h5 := h4 _ (getD_mem (d := []) h)
    conv => whnf
    refine aloopI tyOk mx (fun k : Nat => (⟨42, [(1, .ptr 0 0), (3, .own 1), (4, .c (.int .i64 (i))), (5, .own 2), (6, .c (.int .i64 (k)))], [(0, .cells 66 [.c (.int .i64 (x)), .c (.int .i64 (y)), .t (.ints .i64 s), .t (.rows m)]), (1, .rows 23 3 true ((List.range i).map (fnGRow s m))), (2, .ints 3 .i64 (((m.getD i []).take k).map (fun w => W (w * s.getD i 0))))], 3⟩ : St)) (fun k => k ≤ 4) (fun k => 4 - k) 0 (Nat.zero_le _) none (by refine ⟨rfl, rfl, ?_, ?_⟩ <;> ((repeat' (first | exact trivial | exact rfl | refine And.intro ?_ ?_)) <;> (try ((conv => whnf); first | refine vint ?_ | refine vboo ?_ | refine rint ?_ | refine rrow ?_ | skip)) <;> (try first | omega | (simp; done) | ((repeat rw [flts_closed _ (by assumption)]); exact vws_closed _ (by assumption))))) (fun k hk => ?_)
    refine ⟨fun h2 => ?_, fun h2 => ?_⟩
    · have h2 : k < (m.getD i []).length := by have := of_decide_eq_true h2; omega
      conv => whnf
      refine ADraw.plan tyOk mx (.q 0 (.q 1 (.q 2 (.q 3 (.q 4 (.q 5 (.q 6 (.q 7 (.q 8 (.q 9 (.q 10 (.q 11 (.q 12 (.q 13 (.q 14 (.last 15 (.last 16 (.q 17 (.done)))))))))))))))))) : Plan) (by kernel_rfl) ?_
      conv => whnf
      refine ⟨i, rfl, by omega, i, rfl, h, k, rfl, h2, ?_⟩
      conv => whnf
      refine ⟨by simp [room]; omega, ?_⟩
      conv => whnf
      rw [nat_wrap (by omega)]
      refine ⟨k + 1, none, ?_, by omega, by omega⟩
      (refine ⟨rfl, rfl, ?_, ?_⟩ <;> ((repeat' (first | exact trivial | exact rfl | refine And.intro ?_ ?_)) <;> (try ((conv => whnf); first | refine vint ?_ | refine vboo ?_ | refine rint ?_ | refine rrow ?_ | skip)) <;> (try first | omega | (simp; done) | ((repeat rw [flts_closed _ (by assumption)]); exact vws_closed _ (by assumption)))))
      rw [List.take_succ_eq_append_getElem h2, List.map_append, getD_lt h2, Int.mul_comm]
      rfl
    · have h2 : ¬ k < 4 := by have := of_decide_eq_false h2; omega
      obtain rfl : k = 4 := by omega
      conv => whnf
      refine ⟨by simp [room]; omega, ?_⟩
      conv => whnf
      rw [nat_wrap (by omega)]
      refine ⟨i + 1, none, ?_, by omega, by omega⟩
      (refine ⟨rfl, rfl, ?_, ?_⟩ <;> ((repeat' (first | exact trivial | exact rfl | refine And.intro ?_ ?_)) <;> (try ((conv => whnf); first | refine vint ?_ | refine vboo ?_ | refine rint ?_ | refine rrow ?_ | skip)) <;> (try first | omega | (simp; done) | ((repeat rw [flts_closed _ (by assumption)]); exact vws_closed _ (by assumption)))))
      rw [← map_range_succ, fnGRow, List.take_of_length_le (by omega)]
  · have h := ltF h
    obtain rfl : i = m.length := by omega
    conv => whnf
    exact ⟨rfl, rfl⟩

/-- a game and a box with as many questions -/
def gbOk (x y : Int) (s : List Int) (m : List (List Int)) (bx by' bz : Int) (bm : List (List Int)) : Bool := goodG x y s m && goodB bx by' bz bm && decide (bx = x) && decide (by' = y)
def gbV (x y : Int) (s : List Int) (m : List (List Int)) (bx by' bz : Int) (bm : List (List Int)) : Int := if gbOk x y s m bx by' bz bm then worthF (funG s m) bm else 0
theorem funG_rows {s : List Int} {m : List (List Int)} (h4 : ∀ r, r ∈ m → r.length = 4) : ∀ r, r ∈ funG s m → r.length = 4 := fun r hr => by
  obtain ⟨i, hi, rfl⟩ := List.mem_map.1 hr
  rw [fnGRow, List.length_map]
  exact h4 _ (getD_mem (by simpa using hi))
theorem iBoxScore_spec (x y : Int) (s : List Int) (m : List (List Int)) (bx by' bz : Int) (bm : List (List Int)) (ks : SzI s) (km : SzM m) (kb : SzM bm) :
    FSpec Try.prog 132 [.ag [.c (.int .i64 (x)), .c (.int .i64 (y)), .t (.ints .i64 s), .t (.rows m)], .ag [.c (.int .i64 (bx)), .c (.int .i64 (by')), .c (.int .i64 (bz)), .t (.rows bm)]] (ex (.tu [.c (.int .i64 (gbV x y s m bx by' bz bm)), .c (.bool (gbOk x y s m bx by' bz bm))]) []) := by
  have no : gbOk x y s m bx by' bz bm = false → gbV x y s m bx by' bz bm = 0 := fun h => by rw [gbV, h]; rfl
  refine fspec tyOk mx Try.func132 rfl (by kernel_rfl) rfl ?_
  conv => whnf
  refine ACall.use (iIsGame_spec x y s m ks km) ?_
  conv => whnf
  refine ⟨fun h => ?_, fun h => ?_⟩
  · have h : goodG x y s m = true := by simpa using h
    conv => whnf
    refine ACall.use (IsBox_spec bx by' bz bm kb) ?_
    conv => whnf
    refine ⟨fun h2 => ?_, fun h2 => ?_⟩
    · have h2 : goodB bx by' bz bm = true := by simpa using h2
      conv => whnf
      refine ⟨fun h3 => ?_, fun h3 => ?_⟩
      · have h3 : bx = x := by simpa using h3
        conv => whnf
        refine ⟨fun h5 => ?_, fun h5 => ?_⟩
        · have h5 : ¬ by' = y := by simpa using h5
          have e : gbOk x y s m bx by' bz bm = false := by rw [gbOk, decide_eq_false h5, Bool.and_false]
          conv => whnf
          exact ⟨by rw [no e, e], rfl⟩
        · have h5 : by' = y := by simpa using h5
          subst h3; subst h5
          have e : gbOk bx by' s m bx by' bz bm = true := by rw [gbOk, h, h2]; simp
          obtain ⟨nx, ny, rfl, rfl, g1, g2, g3, g4, g5, g6, g7, g8, g9, g10⟩ := goodG_spec h
          obtain ⟨_, _, e1, e2, _, _, _, _, _, _, q7, q8, q9⟩ := goodB_spec h2
          obtain rfl := Int.ofNat_inj.1 e1
          obtain rfl := Int.ofNat_inj.1 e2
          have h4 : ∀ r, r ∈ m → r.length = 4 := fun r hr => (g10 r hr).1
          have hl : (funG s m).length = bm.length := by rw [q7, ← g6]; simp [funG]
          conv => whnf
          refine ADraw.plan tyOk mx (.q 0 (.q 2 (.q 3 (.last 1 (.last 4 (.q 5 (.q 6 (.done))))))) : Plan) (by kernel_rfl) ?_
          conv => whnf
          refine ACall.useR (functional_spec _ _ s m (by omega) (by omega) (fun r hr => by have := h4 r hr; omega)) ?_
          conv => whnf
          refine ACall.useR (worth_spec (funG s m) bm hl (by omega) (funG_rows h4) (fun r hr => (q9 r hr).1)) ?_
          conv => whnf
          exact ⟨by rw [gbV, e]; rfl, rfl⟩
      · have h3 : ¬ bx = x := by simpa using h3
        have e : gbOk x y s m bx by' bz bm = false := by rw [gbOk, decide_eq_false h3]; simp
        (repeat (conv => whnf); (first | refine ⟨fun h => absurd h (by decide), fun _ => ?_⟩ | refine ⟨fun _ => ?_, fun h => absurd h (by decide)⟩)); conv => whnf
        exact ⟨by rw [no e, e], rfl⟩
    · have h2 : goodB bx by' bz bm = false := by simpa using h2
      have e : gbOk x y s m bx by' bz bm = false := by rw [gbOk, h2]; simp
      (repeat (conv => whnf); (first | refine ⟨fun h => absurd h (by decide), fun _ => ?_⟩ | refine ⟨fun _ => ?_, fun h => absurd h (by decide)⟩)); conv => whnf
      exact ⟨by rw [no e, e], rfl⟩
  · have h : goodG x y s m = false := by simpa using h
    have e : gbOk x y s m bx by' bz bm = false := by rw [gbOk, h]; simp
    (repeat (conv => whnf); (first | refine ⟨fun h => absurd h (by decide), fun _ => ?_⟩ | refine ⟨fun _ => ?_, fun h => absurd h (by decide)⟩)); conv => whnf
    exact ⟨by rw [no e, e], rfl⟩
end Go.Proofs.Ytgefdbihdliolaa
