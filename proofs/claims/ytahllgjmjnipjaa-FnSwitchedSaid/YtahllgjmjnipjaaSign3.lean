/- Sign games that are switched; their functionals. -/
import Derived.Test.YtahllgjmjnipjaaSign2
import Derived.Test.YtahllgjmjnipjaaMark
namespace Go.Proofs.Ytahllgjmjnipjaa
open Go.Aw
set_option maxRecDepth 100000

def isSign (x : Int) : Bool := x == 1 || x == -1
def areS (l : List Int) (n : Int) : Bool := l.all isSign && decide ((l.length : Int) = n)

theorem l1Has_spec (l : List Int) (n : Int) (hl : l.length ≤ 9223372036854775806) : FSpec Try.prog 67 [.t (.ints .i64 l), .c (.int .i64 n)] (ex (.c (.bool (decide (n ∈ l)))) []) := by
  refine fspec tyOk mx Try.func67 rfl (by kernel_rfl) rfl ?_
  conv => whnf
  refine aloopI tyOk mx (fun k : Nat => (⟨18, [(0, .t (.ints .i64 l)), (1, .c (.int .i64 n)), (5, .c (.int .i64 (k)))], [], 0⟩ : St)) (fun k => k ≤ l.length ∧ n ∉ l.take k) (fun k => l.length - k) 0 ⟨by omega, by simp⟩ none (by refine ⟨rfl, rfl, ?_, ?_⟩ <;> ((repeat' (first | exact trivial | exact rfl | refine And.intro ?_ ?_)) <;> (try ((conv => whnf); first | refine vint ?_ | refine vboo ?_ | refine rint ?_ | refine rrow ?_ | skip)) <;> (try first | omega | (simp; done) | ((repeat rw [flts_closed _ (by assumption)]); exact vws_closed _ (by assumption))))) (fun k hI => ?_)
  obtain ⟨hk, hp⟩ := hI
  refine ⟨fun h => ?_, fun h => ?_⟩
  · have h := ltT h
    conv => whnf
    refine ⟨k, rfl, h, ?_⟩
    refine ⟨fun h2 => ?_, fun h2 => ?_⟩
    · conv => whnf
      refine ⟨?_, rfl⟩
      have e : l.getD k 0 = n := by simpa using h2
      rw [decide_eq_true (by rw [← e]; exact getD_mem h)]
    · conv => whnf
      rw [nat_wrap (by omega)]
      refine ⟨k + 1, none, (by refine ⟨rfl, rfl, ?_, ?_⟩ <;> ((repeat' (first | exact trivial | exact rfl | refine And.intro ?_ ?_)) <;> (try ((conv => whnf); first | refine vint ?_ | refine vboo ?_ | refine rint ?_ | refine rrow ?_ | skip)) <;> (try first | omega | (simp; done) | ((repeat rw [flts_closed _ (by assumption)]); exact vws_closed _ (by assumption))))), ⟨by omega, ?_⟩, by omega⟩
      rw [List.take_succ_eq_append_getElem h]
      have e : l.getD k 0 ≠ n := by simpa using h2
      simp [List.getD, h] at e
      rw [List.mem_append]
      rintro (h3 | h3)
      · exact hp h3
      · simp at h3; exact e h3.symm
  · have h := ltF h
    conv => whnf
    refine ⟨?_, rfl⟩
    rw [List.take_of_length_le (by omega)] at hp
    rw [decide_eq_false hp]
theorem l5Are_spec (l : List Int) (n : Int) (hl : l.length ≤ 9223372036854775806) : FSpec Try.prog 45 [.t (.ints .i64 l), .c (.int .i64 n)] (ex (.c (.bool (areS l n))) []) := by
  refine fspec tyOk mx Try.func45 rfl (by kernel_rfl) rfl ?_
  conv => whnf
  refine aloopI tyOk mx (fun k : Nat => (⟨23, [(0, .t (.ints .i64 l)), (1, .c (.int .i64 n)), (5, .c (.int .i64 (k)))], [], 0⟩ : St)) (fun k => k ≤ l.length ∧ (l.take k).all isSign = true) (fun k => l.length - k) 0 ⟨by omega, by simp⟩ none (by refine ⟨rfl, rfl, ?_, ?_⟩ <;> ((repeat' (first | exact trivial | exact rfl | refine And.intro ?_ ?_)) <;> (try ((conv => whnf); first | refine vint ?_ | refine vboo ?_ | refine rint ?_ | refine rrow ?_ | skip)) <;> (try first | omega | (simp; done) | ((repeat rw [flts_closed _ (by assumption)]); exact vws_closed _ (by assumption))))) (fun k hI => ?_)
  obtain ⟨hk, hp⟩ := hI
  refine ⟨fun h => ?_, fun h => ?_⟩
  · have h := ltT h
    conv => whnf
    refine ⟨k, rfl, h, ?_⟩
    conv => whnf
    refine ACall.use (l1Has_spec [1, -1] (l.getD k 0) (by decide)) ?_
    refine ⟨fun h2 => ?_, fun h2 => ?_⟩
    · conv => whnf
      refine ⟨?_, rfl⟩
      rw [areS, all_false (d := 0) h (by simpa [isSign] using h2)]
      rfl
    · conv => whnf
      rw [nat_wrap (by omega)]
      refine ⟨k + 1, none, (by refine ⟨rfl, rfl, ?_, ?_⟩ <;> ((repeat' (first | exact trivial | exact rfl | refine And.intro ?_ ?_)) <;> (try ((conv => whnf); first | refine vint ?_ | refine vboo ?_ | refine rint ?_ | refine rrow ?_ | skip)) <;> (try first | omega | (simp; done) | ((repeat rw [flts_closed _ (by assumption)]); exact vws_closed _ (by assumption))))), ⟨by omega, all_take_succ (d := 0) h hp (by simpa [isSign, Classical.or_iff_not_imp_left] using h2)⟩, by omega⟩
  · have h := ltF h
    conv => whnf
    refine ⟨?_, rfl⟩
    rw [areS, all_end h hp, Bool.true_and]
    rfl
def swAt (m : List (List Int)) (r p : List Int) (x y : Nat) : Int := W (W ((m.getD x []).getD y 0 * r.getD x 0) * p.getD y 0)
def swRow (m : List (List Int)) (r p : List Int) (x : Nat) : List Int := (List.range (m.getD x []).length).map (swAt m r p x)
def switchR (m : List (List Int)) (r p : List Int) : List (List Int) := (List.range m.length).map (swRow m r p)

theorem l5Switch_spec (m : List (List Int)) (r p : List Int) (hm : m.length ≤ 1000) (h1 : m.length ≤ r.length) (h2 : ∀ q, q ∈ m → q.length ≤ p.length) (h3 : p.length ≤ 1000) :
    FSpec Try.prog 46 [.t (.rows m), .t (.ints .i64 r), .t (.ints .i64 p)] (ex (.own 0) [(0, .rows 34 3 true (switchR m r p))]) := by
  refine fspec tyOk mx Try.func46 rfl (by kernel_rfl) rfl ?_
  conv => whnf
  refine aloopI tyOk mx (fun x : Nat => (⟨53, [(0, .t (.rows m)), (1, .t (.ints .i64 r)), (2, .t (.ints .i64 p)), (7, .own 0), (8, .c (.int .i64 (x)))], [(0, .rows 34 3 true ((List.range x).map (swRow m r p)))], 1⟩ : St)) (fun x => x ≤ m.length) (fun x => m.length - x) 0 (by omega) none (by refine ⟨rfl, rfl, ?_, ?_⟩ <;> ((repeat' (first | exact trivial | exact rfl | refine And.intro ?_ ?_)) <;> (try ((conv => whnf); first | refine vint ?_ | refine vboo ?_ | refine rint ?_ | refine rrow ?_ | skip)) <;> (try first | omega | (simp; done) | ((repeat rw [flts_closed _ (by assumption)]); exact vws_closed _ (by assumption))))) (fun x hx => ?_)
  refine ⟨fun h => ?_, fun h => ?_⟩
  · have h := ltT h
    have h4 := h2 _ (getD_mem (d := []) h)
    conv => whnf
    refine aloopI tyOk mx (fun y : Nat => (⟨53, [(0, .t (.rows m)), (1, .t (.ints .i64 r)), (2, .t (.ints .i64 p)), (7, .own 0), (8, .c (.int .i64 (x))), (9, .own 1), (10, .c (.int .i64 (y)))], [(0, .rows 34 3 true ((List.range x).map (swRow m r p))), (1, .ints 3 .i64 ((List.range y).map (swAt m r p x)))], 2⟩ : St)) (fun y => y ≤ (m.getD x []).length) (fun y => (m.getD x []).length - y) 0 (by omega) none (by refine ⟨rfl, rfl, ?_, ?_⟩ <;> ((repeat' (first | exact trivial | exact rfl | refine And.intro ?_ ?_)) <;> (try ((conv => whnf); first | refine vint ?_ | refine vboo ?_ | refine rint ?_ | refine rrow ?_ | skip)) <;> (try first | omega | (simp; done) | ((repeat rw [flts_closed _ (by assumption)]); exact vws_closed _ (by assumption))))) (fun y hy => ?_)
    refine ⟨x, rfl, h, fun h5 => ?_, fun h5 => ?_⟩
    · have h5 := ltT h5
      refine ADraw.plan tyOk mx (.q 0 (.q 1 (.q 2 (.q 3 (.q 4 (.q 5 (.q 6 (.q 7 (.q 8 (.q 9 (.q 10 (.q 11 (.q 12 (.q 13 (.q 14 (.q 15 (.q 16 (.q 17 (.last 18 (.last 19 (.q 20 (.done))))))))))))))))))))) : Plan) (by kernel_rfl) ?_
      conv => whnf
      refine ⟨x, rfl, h, y, rfl, h5, x, rfl, by omega, y, rfl, by omega, ?_⟩
      conv => whnf
      refine ⟨by simp [room]; omega, ?_⟩
      conv => whnf
      rw [nat_wrap (by omega)]
      refine ⟨y + 1, none, ?_, by omega, by omega⟩
      (refine ⟨rfl, rfl, ?_, ?_⟩ <;> ((repeat' (first | exact trivial | exact rfl | refine And.intro ?_ ?_)) <;> (try ((conv => whnf); first | refine vint ?_ | refine vboo ?_ | refine rint ?_ | refine rrow ?_ | skip)) <;> (try first | omega | (simp; done) | ((repeat rw [flts_closed _ (by assumption)]); exact vws_closed _ (by assumption)))))
      rw [← map_range_succ]; rfl
    · have h5 := ltF h5
      obtain rfl : y = (m.getD x []).length := by omega
      conv => whnf
      refine ⟨by simp [room]; omega, ?_⟩
      conv => whnf
      rw [nat_wrap (by omega)]
      refine ⟨x + 1, none, ?_, by omega, by omega⟩
      (refine ⟨rfl, rfl, ?_, ?_⟩ <;> ((repeat' (first | exact trivial | exact rfl | refine And.intro ?_ ?_)) <;> (try ((conv => whnf); first | refine vint ?_ | refine vboo ?_ | refine rint ?_ | refine rrow ?_ | skip)) <;> (try first | omega | (simp; done) | ((repeat rw [flts_closed _ (by assumption)]); exact vws_closed _ (by assumption)))))
      rw [← map_range_succ]; rfl
  · have h := ltF h
    obtain rfl : x = m.length := by omega
    conv => whnf
    exact ⟨rfl, rfl⟩

theorem switched_spec (m : List (List Int)) (r p : List Int) (hm : m.length ≤ 1000) (h1 : m.length ≤ r.length) (h2 : ∀ q, q ∈ m → q.length ≤ p.length) (h3 : p.length ≤ 1000) :
    FSpec Try.prog 53 [.t (.rows m), .t (.ints .i64 r), .t (.ints .i64 p)] (ex (.own 0) [(0, .rows 34 3 true (switchR m r p))]) := by
  refine fspec tyOk mx Try.func53 rfl (by kernel_rfl) rfl ?_
  conv => whnf
  refine aloopI tyOk mx (fun x : Nat => (⟨50, [(1, .t (.ints .i64 r)), (2, .t (.ints .i64 p)), (7, .own 0), (14, .t (.rows m)), (15, .c (.int .i64 m.length)), (16, .c (.int .i64 (x)))], [(0, .rows 34 3 true ((List.range x).map (swRow m r p)))], 1⟩ : St)) (fun x => x ≤ m.length) (fun x => m.length - x) 0 (by omega) none (by refine ⟨rfl, rfl, ?_, ?_⟩ <;> ((repeat' (first | exact trivial | exact rfl | refine And.intro ?_ ?_)) <;> (try ((conv => whnf); first | refine vint ?_ | refine vboo ?_ | refine rint ?_ | refine rrow ?_ | skip)) <;> (try first | omega | (simp; done) | ((repeat rw [flts_closed _ (by assumption)]); exact vws_closed _ (by assumption))))) (fun x hx => ?_)
  refine ⟨fun h => ?_, fun h => ?_⟩
  · have h := ltT h
    have h4 := h2 _ (getD_mem (d := []) h)
    conv => whnf
    refine ⟨x, rfl, h, ?_⟩
    conv => whnf
    refine aloopI tyOk mx (fun y : Nat => (⟨50, [(1, .t (.ints .i64 r)), (2, .t (.ints .i64 p)), (7, .own 0), (8, .c (.int .i64 (x))), (10, .own 1), (14, .t (.rows m)), (15, .c (.int .i64 m.length)), (16, .c (.int .i64 (x))), (22, .t (.ints .i64 (m.getD x []))), (23, .c (.int .i64 ((m.getD x []).length))), (24, .c (.int .i64 (y)))], [(0, .rows 34 3 true ((List.range x).map (swRow m r p))), (1, .ints 3 .i64 ((List.range y).map (swAt m r p x)))], 2⟩ : St)) (fun y => y ≤ (m.getD x []).length) (fun y => (m.getD x []).length - y) 0 (by omega) none (by refine ⟨rfl, rfl, ?_, ?_⟩ <;> ((repeat' (first | exact trivial | exact rfl | refine And.intro ?_ ?_)) <;> (try ((conv => whnf); first | refine vint ?_ | refine vboo ?_ | refine rint ?_ | refine rrow ?_ | skip)) <;> (try first | omega | (simp; done) | ((repeat rw [flts_closed _ (by assumption)]); exact vws_closed _ (by assumption))))) (fun y hy => ?_)
    refine ⟨fun h5 => ?_, fun h5 => ?_⟩
    · have h5 := ltT h5
      conv => whnf
      refine ⟨y, rfl, h5, ?_⟩
      conv => whnf
      refine ADraw.plan tyOk mx (.q 0 (.q 1 (.q 2 (.q 3 (.q 4 (.q 5 (.q 6 (.q 7 (.q 8 (.q 9 (.q 10 (.q 11 (.last 12 (.last 13 (.q 14 (.done))))))))))))))) : Plan) (by kernel_rfl) ?_
      conv => whnf
      refine ⟨x, rfl, by omega, y, rfl, by omega, ?_⟩
      conv => whnf
      refine ⟨by simp [room]; omega, ?_⟩
      conv => whnf
      rw [nat_wrap (by omega)]
      refine ⟨y + 1, none, ?_, by omega, by omega⟩
      (refine ⟨rfl, rfl, ?_, ?_⟩ <;> ((repeat' (first | exact trivial | exact rfl | refine And.intro ?_ ?_)) <;> (try ((conv => whnf); first | refine vint ?_ | refine vboo ?_ | refine rint ?_ | refine rrow ?_ | skip)) <;> (try first | omega | (simp; done) | ((repeat rw [flts_closed _ (by assumption)]); exact vws_closed _ (by assumption)))))
      rw [← map_range_succ]; rfl
    · have h5 := ltF h5
      obtain rfl : y = (m.getD x []).length := by omega
      conv => whnf
      refine ⟨by simp [room]; omega, ?_⟩
      conv => whnf
      rw [nat_wrap (by omega)]
      refine ⟨x + 1, none, ?_, by omega, by omega⟩
      (refine ⟨rfl, rfl, ?_, ?_⟩ <;> ((repeat' (first | exact trivial | exact rfl | refine And.intro ?_ ?_)) <;> (try ((conv => whnf); first | refine vint ?_ | refine vboo ?_ | refine rint ?_ | refine rrow ?_ | skip)) <;> (try first | omega | (simp; done) | ((repeat rw [flts_closed _ (by assumption)]); exact vws_closed _ (by assumption)))))
      rw [← map_range_succ]; rfl
  · have h := ltF h
    obtain rfl : x = m.length := by omega
    conv => whnf
    exact ⟨rfl, rfl⟩
end Go.Proofs.Ytahllgjmjnipjaa
