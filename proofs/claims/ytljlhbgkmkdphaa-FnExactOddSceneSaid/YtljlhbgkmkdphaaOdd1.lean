/- Scenes with odd sums: reference and program. -/
import Derived.Test.YtljlhbgkmkdphaaScene1
namespace Go.Aw
section
variable {P : Program}
/-- (Scene, bool): Scene{} where it is false -/
def nilOrScene (ok : Bool) (x : Int) (r r' : ARow) : AVal → List (Nat × ARow) → Prop := fun v h =>
  (ok = false ∧ v = .tu [.ag [.c (.int .i64 (0)), .c (.slice none 0 0), .c (.slice none 0 0)], .c (.bool false)] ∧ h = []) ∨ (ok = true ∧ v = .tu [.ag [.c (.int .i64 (x)), .own 0, .own 1], .c (.bool true)] ∧ h = [(0, r), (1, r')])
theorem view_scene {f : FuncId} {args : List AVal} {ok : Bool} {x : Int} {e e1 e2 : Nat} {k : IntKind} {m : List (List Int)} {l : List Int} (h : FSpec P f args (nilOrScene ok x (.rows e e1 true m) (.ints e2 k l))) :
    FSpec P f args (ex (.tu [.ag [.c (.int .i64 (if ok then x else 0)), .own 0, .own 1], .c (.bool ok)]) [(0, .rows e e1 true (if ok then m else [])), (1, .ints e2 k (if ok then l else []))]) := by
  refine FSpec.view h ?_
  rintro v hr (⟨rfl, rfl, rfl⟩ | ⟨rfl, rfl, rfl⟩)
  · exact ⟨[(0, .nil), (1, .nil)], .tu [.ag [.c (.int .i64 (0)), .own 0, .own 1], .c (.bool false)], [(0, .rows e e1 true []), (1, .ints e2 k [])], rfl, ⟨rfl, trivial, rfl, trivial, trivial⟩, ⟨⟨rfl, ⟨rfl, rfl, rfl⟩, ⟨rfl, rfl, rfl⟩, trivial⟩, rfl, trivial⟩, rfl, rfl⟩
  · exact ⟨[(0, .row 0), (1, .row 1)], .tu [.ag [.c (.int .i64 (x)), .own 0, .own 1], .c (.bool true)], [(0, .rows e e1 true m), (1, .ints e2 k l)], rfl, ⟨rfl, rfl, rfl, rfl, trivial⟩, ⟨⟨rfl, ⟨rfl, rfl⟩, ⟨rfl, rfl⟩, trivial⟩, rfl, trivial⟩, rfl, rfl⟩
end
def shiftL (m : List (List Int)) (b : Int) : List (List Int) := m.map fun c => c.map fun v => W (v + b)
theorem rep_succ (n : Nat) : List.replicate n (1 : Int) ++ [1] = List.replicate (n + 1) 1 := by
  rw [List.replicate_succ']
theorem shiftL_len (m : List (List Int)) (b : Int) : (shiftL m b).length = m.length := by simp [shiftL]
theorem shiftL_tot (b : Int) : ∀ (m : List (List Int)), tot (shiftL m b) = tot m
  | [] => rfl
  | r :: m => by
    show (r.map _).length + tot (shiftL m b) = r.length + tot m
    rw [shiftL_tot b m, List.length_map]
end Go.Aw
namespace Go.Proofs.Ytljlhbgkmkdphaa
open Go.Aw
set_option maxRecDepth 100000
set_option maxHeartbeats 4000000

theorem l7Lists_spec (m : List (List Int)) (b : Int) (hm : m.length ≤ 1048576) (hj : ∀ c, c ∈ m → c.length ≤ 1048576) :
    FSpec Try.prog 81 [.t (.rows m), .c (.int .i64 (b))] (ex (.own 0) [(0, .rows 30 3 true (shiftL m b))]) := by
  refine fspec tyOk mx Try.func81 rfl (by kernel_rfl) rfl ?_
  conv => whnf
  refine aloopI tyOk mx (fun i : Nat => (⟨43, [(0, .t (.rows m)), (1, .c (.int .i64 (b))), (5, .own 0), (6, .c (.int .i64 (i)))], [(0, .rows 30 3 true (shiftL (m.take i) b))], 1⟩ : St)) (fun i => i ≤ m.length) (fun i => m.length - i) 0 (Nat.zero_le _) none (by refine ⟨rfl, rfl, ?_, ?_⟩ <;> ((repeat' (first | exact trivial | exact rfl | refine And.intro ?_ ?_)) <;> (try ((conv => whnf); first | refine vint ?_ | refine vboo ?_ | refine rint ?_ | refine rrow ?_ | skip)) <;> (try first | omega | (simp; done) | ((repeat rw [flts_closed _ (by assumption)]); exact vws_closed _ (by assumption))))) (fun i hi => ?_)
  have hl : (shiftL (m.take i) b).length = i := by rw [shiftL_len, List.length_take]; omega
  refine ⟨fun h => ?_, fun h => ?_⟩
  · have h := ltT h
    have hjc := hj _ (getD_mem (d := []) h)
    conv => whnf
    refine aloopI tyOk mx (fun k : Nat => (⟨43, [(0, .t (.rows m)), (1, .c (.int .i64 (b))), (5, .own 0), (6, .c (.int .i64 (i))), (7, .own 1), (8, .c (.int .i64 (k)))], [(0, .rows 30 3 true (shiftL (m.take i) b)), (1, .ints 3 .i64 (((m.getD i []).take k).map fun v => W (v + b)))], 2⟩ : St)) (fun k => k ≤ (m.getD i []).length) (fun k => (m.getD i []).length - k) 0 (Nat.zero_le _) none (by refine ⟨rfl, rfl, ?_, ?_⟩ <;> ((repeat' (first | exact trivial | exact rfl | refine And.intro ?_ ?_)) <;> (try ((conv => whnf); first | refine vint ?_ | refine vboo ?_ | refine rint ?_ | refine rrow ?_ | skip)) <;> (try first | omega | (simp; done) | ((repeat rw [flts_closed _ (by assumption)]); exact vws_closed _ (by assumption))))) (fun k hk => ?_)
    refine ⟨i, rfl, h, fun h2 => ?_, fun h2 => ?_⟩
    · have h2 := ltT h2
      conv => whnf
      refine ⟨i, rfl, h, k, rfl, h2, ?_⟩
      conv => whnf
      refine ⟨by simp [room]; omega, ?_⟩
      conv => whnf
      rw [nat_wrap (by omega)]
      refine ⟨k + 1, none, ?_, by omega, by omega⟩
      (refine ⟨rfl, rfl, ?_, ?_⟩ <;> ((repeat' (first | exact trivial | exact rfl | refine And.intro ?_ ?_)) <;> (try ((conv => whnf); first | refine vint ?_ | refine vboo ?_ | refine rint ?_ | refine rrow ?_ | skip)) <;> (try first | omega | (simp; done) | ((repeat rw [flts_closed _ (by assumption)]); exact vws_closed _ (by assumption)))))
      rw [List.take_succ_eq_append_getElem h2, List.map_append, getD_lt h2]; rfl
    · have h2 := ltF h2
      obtain rfl : k = (m.getD i []).length := by omega
      conv => whnf
      refine ⟨by rw [hl]; simp [room]; omega, ?_⟩
      conv => whnf
      rw [nat_wrap (by omega)]
      refine ⟨i + 1, none, ?_, by omega, by omega⟩
      (refine ⟨rfl, rfl, ?_, ?_⟩ <;> ((repeat' (first | exact trivial | exact rfl | refine And.intro ?_ ?_)) <;> (try ((conv => whnf); first | refine vint ?_ | refine vboo ?_ | refine rint ?_ | refine rrow ?_ | skip)) <;> (try first | omega | (simp; done) | ((repeat rw [flts_closed _ (by assumption)]); exact vws_closed _ (by assumption)))))
      unfold shiftL
      rw [List.take_succ_eq_append_getElem h, List.map_append, List.take_length, getD_lt h]; rfl
  · have h := ltF h
    obtain rfl : i = m.length := by omega
    conv => whnf
    exact ⟨rfl, by rw [List.take_length]⟩

theorem shifted_spec (e : Int) (m : List (List Int)) (s : List Int) (b : Int) (hm : m.length ≤ 1048576) (hj : ∀ c, c ∈ m → c.length ≤ 1048576) :
    FSpec Try.prog 82 [.ag [.c (.int .i64 (e)), .t (.rows m), .t (.ints .i64 s)], .c (.int .i64 (b))] (ex (.own 0) [(0, .rows 30 3 true (shiftL m b))]) := by
  refine fspec tyOk mx Try.func82 rfl (by kernel_rfl) rfl ?_
  conv => whnf
  refine aloopI tyOk mx (fun i : Nat => (⟨39, [(1, .c (.int .i64 (b))), (2, .ptr 0 0), (5, .own 1), (13, .t (.rows m)), (14, .c (.int .i64 (m.length))), (15, .c (.int .i64 (i)))], [(0, .cells 36 [.c (.int .i64 (e)), .t (.rows m), .t (.ints .i64 s)]), (1, .rows 30 3 true (shiftL (m.take i) b))], 2⟩ : St)) (fun i => i ≤ m.length) (fun i => m.length - i) 0 (Nat.zero_le _) none (by refine ⟨rfl, rfl, ?_, ?_⟩ <;> ((repeat' (first | exact trivial | exact rfl | refine And.intro ?_ ?_)) <;> (try ((conv => whnf); first | refine vint ?_ | refine vboo ?_ | refine rint ?_ | refine rrow ?_ | skip)) <;> (try first | omega | (simp; done) | ((repeat rw [flts_closed _ (by assumption)]); exact vws_closed _ (by assumption))))) (fun i hi => ?_)
  have hl : (shiftL (m.take i) b).length = i := by rw [shiftL_len, List.length_take]; omega
  refine ⟨fun h => ?_, fun h => ?_⟩
  · have h := ltT h
    have hjc := hj _ (getD_mem (d := []) h)
    conv => whnf
    refine ⟨i, rfl, h, ?_⟩
    conv => whnf
    refine aloopI tyOk mx (fun k : Nat => (⟨39, [(1, .c (.int .i64 (b))), (2, .ptr 0 0), (5, .own 1), (8, .own 2), (13, .t (.rows m)), (14, .c (.int .i64 (m.length))), (15, .c (.int .i64 (i))), (20, .t (.ints .i64 (m.getD i []))), (21, .c (.int .i64 ((m.getD i []).length))), (22, .c (.int .i64 (k)))], [(0, .cells 36 [.c (.int .i64 (e)), .t (.rows m), .t (.ints .i64 s)]), (1, .rows 30 3 true (shiftL (m.take i) b)), (2, .ints 3 .i64 (((m.getD i []).take k).map fun v => W (v + b)))], 3⟩ : St)) (fun k => k ≤ (m.getD i []).length) (fun k => (m.getD i []).length - k) 0 (Nat.zero_le _) none (by refine ⟨rfl, rfl, ?_, ?_⟩ <;> ((repeat' (first | exact trivial | exact rfl | refine And.intro ?_ ?_)) <;> (try ((conv => whnf); first | refine vint ?_ | refine vboo ?_ | refine rint ?_ | refine rrow ?_ | skip)) <;> (try first | omega | (simp; done) | ((repeat rw [flts_closed _ (by assumption)]); exact vws_closed _ (by assumption))))) (fun k hk => ?_)
    refine ⟨fun h2 => ?_, fun h2 => ?_⟩
    · have h2 := ltT h2
      conv => whnf
      refine ⟨k, rfl, h2, ?_⟩
      conv => whnf
      refine ⟨by simp [room]; omega, ?_⟩
      conv => whnf
      rw [nat_wrap (by omega)]
      refine ⟨k + 1, none, ?_, by omega, by omega⟩
      (refine ⟨rfl, rfl, ?_, ?_⟩ <;> ((repeat' (first | exact trivial | exact rfl | refine And.intro ?_ ?_)) <;> (try ((conv => whnf); first | refine vint ?_ | refine vboo ?_ | refine rint ?_ | refine rrow ?_ | skip)) <;> (try first | omega | (simp; done) | ((repeat rw [flts_closed _ (by assumption)]); exact vws_closed _ (by assumption)))))
      rw [List.take_succ_eq_append_getElem h2, List.map_append, getD_lt h2]; rfl
    · have h2 := ltF h2
      obtain rfl : k = (m.getD i []).length := by omega
      conv => whnf
      refine ⟨by rw [hl]; simp [room]; omega, ?_⟩
      conv => whnf
      rw [nat_wrap (by omega)]
      refine ⟨i + 1, none, ?_, by omega, by omega⟩
      (refine ⟨rfl, rfl, ?_, ?_⟩ <;> ((repeat' (first | exact trivial | exact rfl | refine And.intro ?_ ?_)) <;> (try ((conv => whnf); first | refine vint ?_ | refine vboo ?_ | refine rint ?_ | refine rrow ?_ | skip)) <;> (try first | omega | (simp; done) | ((repeat rw [flts_closed _ (by assumption)]); exact vws_closed _ (by assumption)))))
      unfold shiftL
      rw [List.take_succ_eq_append_getElem h, List.map_append, List.take_length, getD_lt h]; rfl
  · have h := ltF h
    obtain rfl : i = m.length := by omega
    conv => whnf
    exact ⟨rfl, by rw [List.take_length]⟩

def odE (e : Int) (m : List (List Int)) (s : List Int) : Int := if goodS e m s then e else 0
def odM (e : Int) (m : List (List Int)) (s : List Int) : List (List Int) := if goodS e m s then shiftL m 0 else []
def odS (e : Int) (m : List (List Int)) (s : List Int) : List Int := if goodS e m s then List.replicate m.length 1 else []

theorem OddScene_s (e : Int) (m : List (List Int)) (s : List Int) (_he : InR e) (_hm : OkM m) (_hs : OkI s) (km : SzM m) (ks : SzI s) :
    FSpec Try.prog 31 [.ag [.c (.int .i64 (e)), .t (.rows m), .t (.ints .i64 s)]] (ex (.tu [.ag [.c (.int .i64 (odE e m s)), .own 0, .own 1], .c (.bool (goodS e m s))]) [(0, .rows 30 3 true (odM e m s)), (1, .ints 3 .i64 (odS e m s))]) := by
  obtain ⟨i, j, z⟩ := km.all
  refine view_scene ?_
  refine fspec tyOk mx Try.func31 rfl (by kernel_rfl) rfl ?_
  conv => whnf
  refine ACall.use (l7Good_spec e m s km ks) ?_
  conv => whnf
  refine ⟨fun h => ?_, fun h => ?_⟩
  · have h : goodS e m s = false := by simpa using h
    conv => whnf
    exact .inl ⟨h, rfl, rfl⟩
  · have h : goodS e m s = true := by simpa using h
    conv => whnf
    refine ADraw.mid (⟨30, [(1, .ptr 0 0), (2, .ptr 1 0), (4, .ptr 4 0)], [(0, .cells 36 [.c (.int .i64 (e)), .t (.rows m), .t (.ints .i64 s)]), (1, .cells 36 [.c (.int .i64 (0)), .c (.slice none 0 0), .c (.slice none 0 0)]), (2, .rows 30 3 true (shiftL m 0)), (3, .ints 3 .i64 []), (4, .cells 36 [.c (.int .i64 (e)), .own 2, .own 3])], 5⟩ : St) (ADraw.plan tyOk mx (.q 0 (.q 1 (.q 2 (.q 3 (.alt 4 (.alt 5 (.q 6 (.last 7 (.last 8 (.done)))) (.last 7 (.last 5 (.q 6 (.last 8 (.done)))))) (.alt 5 (.alt 4 (.q 6 (.last 7 (.last 8 (.done)))) (.last 7 (.last 4 (.q 6 (.last 8 (.done)))))) (.last 7 (.alt 4 (.last 5 (.q 6 (.last 8 (.done)))) (.last 5 (.last 4 (.q 6 (.last 8 (.done)))))))))))) : Plan) (by kernel_rfl) ?_) ?_
    · conv => whnf
      repeat' (first | (refine ACall.useR (l7Lists_spec m 0 i j) ?_; conv => whnf) | (refine And.intro ?_ ?_ <;> (conv => whnf)))
      all_goals first
        | (refine ⟨[(0, .row 0), (1, .row 1), (2, .row 2), (3, .row 3), (4, .row 4)], ?_⟩; (refine ⟨rfl, rfl, ?_, ?_⟩ <;> ((repeat' (first | exact trivial | exact rfl | refine And.intro ?_ ?_)) <;> (try ((conv => whnf); first | refine vint ?_ | refine vboo ?_ | refine rint ?_ | refine rrow ?_ | skip)) <;> (try first | omega | (simp; done) | ((repeat rw [flts_closed _ (by assumption)]); exact vws_closed _ (by assumption))))); done)
        | (refine ⟨[(0, .row 0), (1, .row 1), (2, .row 2), (3, .row 4), (4, .row 3)], ?_⟩; (refine ⟨rfl, rfl, ?_, ?_⟩ <;> ((repeat' (first | exact trivial | exact rfl | refine And.intro ?_ ?_)) <;> (try ((conv => whnf); first | refine vint ?_ | refine vboo ?_ | refine rint ?_ | refine rrow ?_ | skip)) <;> (try first | omega | (simp; done) | ((repeat rw [flts_closed _ (by assumption)]); exact vws_closed _ (by assumption))))); done)
        | (refine ⟨[(0, .row 0), (1, .row 1), (2, .row 3), (3, .row 2), (4, .row 4)], ?_⟩; (refine ⟨rfl, rfl, ?_, ?_⟩ <;> ((repeat' (first | exact trivial | exact rfl | refine And.intro ?_ ?_)) <;> (try ((conv => whnf); first | refine vint ?_ | refine vboo ?_ | refine rint ?_ | refine rrow ?_ | skip)) <;> (try first | omega | (simp; done) | ((repeat rw [flts_closed _ (by assumption)]); exact vws_closed _ (by assumption))))); done)
        | (refine ⟨[(0, .row 0), (1, .row 1), (2, .row 4), (3, .row 2), (4, .row 3)], ?_⟩; (refine ⟨rfl, rfl, ?_, ?_⟩ <;> ((repeat' (first | exact trivial | exact rfl | refine And.intro ?_ ?_)) <;> (try ((conv => whnf); first | refine vint ?_ | refine vboo ?_ | refine rint ?_ | refine rrow ?_ | skip)) <;> (try first | omega | (simp; done) | ((repeat rw [flts_closed _ (by assumption)]); exact vws_closed _ (by assumption))))); done)
        | (refine ⟨[(0, .row 0), (1, .row 1), (2, .row 3), (3, .row 4), (4, .row 2)], ?_⟩; (refine ⟨rfl, rfl, ?_, ?_⟩ <;> ((repeat' (first | exact trivial | exact rfl | refine And.intro ?_ ?_)) <;> (try ((conv => whnf); first | refine vint ?_ | refine vboo ?_ | refine rint ?_ | refine rrow ?_ | skip)) <;> (try first | omega | (simp; done) | ((repeat rw [flts_closed _ (by assumption)]); exact vws_closed _ (by assumption))))); done)
        | (refine ⟨[(0, .row 0), (1, .row 1), (2, .row 4), (3, .row 3), (4, .row 2)], ?_⟩; (refine ⟨rfl, rfl, ?_, ?_⟩ <;> ((repeat' (first | exact trivial | exact rfl | refine And.intro ?_ ?_)) <;> (try ((conv => whnf); first | refine vint ?_ | refine vboo ?_ | refine rint ?_ | refine rrow ?_ | skip)) <;> (try first | omega | (simp; done) | ((repeat rw [flts_closed _ (by assumption)]); exact vws_closed _ (by assumption))))); done)
    · conv => whnf
      refine aloopI tyOk mx (fun k : Nat => (⟨30, [(1, .ptr 0 0), (2, .ptr 1 0), (4, .ptr 4 0), (5, .c (.int .i64 (k)))], [(0, .cells 36 [.c (.int .i64 (e)), .t (.rows m), .t (.ints .i64 s)]), (1, .cells 36 [.c (.int .i64 (0)), .c (.slice none 0 0), .c (.slice none 0 0)]), (2, .rows 30 3 true (shiftL m 0)), (3, .ints 3 .i64 (List.replicate k 1)), (4, .cells 36 [.c (.int .i64 (e)), .own 2, .own 3])], 5⟩ : St)) (fun k => k ≤ m.length) (fun k => m.length - k) 0 (Nat.zero_le _) none (by refine ⟨rfl, rfl, ?_, ?_⟩ <;> ((repeat' (first | exact trivial | exact rfl | refine And.intro ?_ ?_)) <;> (try ((conv => whnf); first | refine vint ?_ | refine vboo ?_ | refine rint ?_ | refine rrow ?_ | skip)) <;> (try first | omega | (simp; done) | ((repeat rw [flts_closed _ (by assumption)]); exact vws_closed _ (by assumption))))) (fun k hk => ?_)
      refine ⟨fun h2 => ?_, fun h2 => ?_⟩
      · have h2 := ltT h2
        conv => whnf
        refine ⟨by simp [room]; omega, ?_⟩
        conv => whnf
        rw [nat_wrap (by omega)]
        refine ⟨k + 1, none, ?_, by omega, by omega⟩
        (refine ⟨rfl, rfl, ?_, ?_⟩ <;> ((repeat' (first | exact trivial | exact rfl | refine And.intro ?_ ?_)) <;> (try ((conv => whnf); first | refine vint ?_ | refine vboo ?_ | refine rint ?_ | refine rrow ?_ | skip)) <;> (try first | omega | (simp; done) | ((repeat rw [flts_closed _ (by assumption)]); exact vws_closed _ (by assumption)))))
        exact rep_succ k
      · have h2 := ltF h2
        obtain rfl : k = m.length := by omega
        conv => whnf
        exact .inr ⟨h, rfl, rfl⟩

theorem OddScene_i (e : Int) (m : List (List Int)) (s : List Int) (_he : InR e) (_hm : OkM m) (_hs : OkI s) (km : SzM m) (ks : SzI s) :
    FSpec Try.prog 32 [.ag [.c (.int .i64 (e)), .t (.rows m), .t (.ints .i64 s)]] (ex (.tu [.ag [.c (.int .i64 (odE e m s)), .own 0, .own 1], .c (.bool (goodS e m s))]) [(0, .rows 30 3 true (odM e m s)), (1, .ints 3 .i64 (odS e m s))]) := by
  obtain ⟨i, j, z⟩ := km.all
  refine view_scene ?_
  refine fspec tyOk mx Try.func32 rfl (by kernel_rfl) rfl ?_
  conv => whnf
  refine ACall.use (iIsScene_spec e m s km ks) ?_
  conv => whnf
  refine ⟨fun h => ?_, fun h => ?_⟩
  · have h : goodS e m s = false := by simpa using h
    conv => whnf
    exact .inl ⟨h, rfl, rfl⟩
  · have h : goodS e m s = true := by simpa using h
    conv => whnf
    refine ADraw.mid (⟨26, [(1, .ptr 0 0), (2, .ptr 1 0), (4, .ptr 3 0)], [(0, .cells 36 [.c (.int .i64 (e)), .t (.rows m), .t (.ints .i64 s)]), (1, .cells 36 [.c (.int .i64 (0)), .c (.slice none 0 0), .c (.slice none 0 0)]), (2, .rows 30 3 true (shiftL m 0)), (3, .cells 36 [.c (.int .i64 (e)), .own 2, .c (.slice none 0 0)])], 4⟩ : St) (ADraw.plan tyOk mx (.q 0 (.q 1 (.q 2 (.alt 3 (.q 4 (.last 5 (.last 6 (.done)))) (.last 5 (.last 3 (.q 4 (.last 6 (.done)))))))) : Plan) (by kernel_rfl) ?_) ?_
    · conv => whnf
      repeat' (first | (refine ACall.useR (shifted_spec e m s 0 i j) ?_; conv => whnf) | (refine And.intro ?_ ?_ <;> (conv => whnf)))
      all_goals first
        | (refine ⟨[(0, .row 0), (1, .row 1), (2, .row 2), (3, .row 3)], ?_⟩; (refine ⟨rfl, rfl, ?_, ?_⟩ <;> ((repeat' (first | exact trivial | exact rfl | refine And.intro ?_ ?_)) <;> (try ((conv => whnf); first | refine vint ?_ | refine vboo ?_ | refine rint ?_ | refine rrow ?_ | skip)) <;> (try first | omega | (simp; done) | ((repeat rw [flts_closed _ (by assumption)]); exact vws_closed _ (by assumption))))); done)
        | (refine ⟨[(0, .row 0), (1, .row 1), (2, .row 3), (3, .row 2)], ?_⟩; (refine ⟨rfl, rfl, ?_, ?_⟩ <;> ((repeat' (first | exact trivial | exact rfl | refine And.intro ?_ ?_)) <;> (try ((conv => whnf); first | refine vint ?_ | refine vboo ?_ | refine rint ?_ | refine rrow ?_ | skip)) <;> (try first | omega | (simp; done) | ((repeat rw [flts_closed _ (by assumption)]); exact vws_closed _ (by assumption))))); done)
    · conv => whnf
      refine aloopI tyOk mx (fun k : Nat => (⟨26, [(1, .ptr 0 0), (2, .ptr 1 0), (4, .ptr 3 0), (16, .c (.int .i64 (m.length))), (17, .c (.int .i64 (k)))], [(0, .cells 36 [.c (.int .i64 (e)), .t (.rows m), .t (.ints .i64 s)]), (1, .cells 36 [.c (.int .i64 (0)), .c (.slice none 0 0), .c (.slice none 0 0)]), (2, .rows 30 3 true (shiftL m 0)), (3, .cells 36 [.c (.int .i64 (e)), .own 2, .own 4]), (4, .ints 3 .i64 (List.replicate k 1))], 5⟩ : St)) (fun k => k ≤ m.length) (fun k => m.length - k) 0 (Nat.zero_le _) (some [(0, .row 0), (1, .row 1), (2, .row 2), (3, .row 3), (4, .nil)]) (by refine ⟨rfl, rfl, ?_, ?_⟩ <;> ((repeat' (first | exact trivial | exact rfl | refine And.intro ?_ ?_)) <;> (try ((conv => whnf); first | refine vint ?_ | refine vboo ?_ | refine rint ?_ | refine rrow ?_ | skip)) <;> (try first | omega | (simp; done) | ((repeat rw [flts_closed _ (by assumption)]); exact vws_closed _ (by assumption))))) (fun k hk => ?_)
      refine ⟨fun h2 => ?_, fun h2 => ?_⟩
      · have h2 := ltT h2
        conv => whnf
        refine ⟨by simp [room]; omega, ?_⟩
        conv => whnf
        rw [nat_wrap (by omega)]
        refine ⟨k + 1, none, ?_, by omega, by omega⟩
        (refine ⟨rfl, rfl, ?_, ?_⟩ <;> ((repeat' (first | exact trivial | exact rfl | refine And.intro ?_ ?_)) <;> (try ((conv => whnf); first | refine vint ?_ | refine vboo ?_ | refine rint ?_ | refine rrow ?_ | skip)) <;> (try first | omega | (simp; done) | ((repeat rw [flts_closed _ (by assumption)]); exact vws_closed _ (by assumption)))))
        exact rep_succ k
      · have h2 := ltF h2
        obtain rfl : k = m.length := by omega
        conv => whnf
        exact .inr ⟨h, rfl, rfl⟩

theorem OddScene_bd (e : Int) (m : List (List Int)) (s : List Int) (_he : InR e) (_hm : OkM m) (_hs : OkI s) (km : SzM m) (_ks : SzI s) : (odM e m s).length ≤ 1048576 ∧ tot (odM e m s) ≤ 1048576 ∧ (odS e m s).length ≤ 1048576 := by
  obtain ⟨i, j, z⟩ := km.all
  unfold odM odS
  split
  · rw [shiftL_len, shiftL_tot, List.length_replicate]; omega
  · simp [tot]
end Go.Proofs.Ytljlhbgkmkdphaa
