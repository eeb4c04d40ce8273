/- SignFunctional, program and reference. -/
import Derived.Test.YtmnbjocoiciffaaSign2
namespace Go.Proofs.Ytmnbjocoiciffaa
open Go.Aw
set_option maxRecDepth 100000

def fnAt (n : Int) : List Int := [n, W (0 - n), W (0 - n), n]
def fnRow (r : List Int) : List (List Int) := r.map fnAt
def functionalL (m : List (List Int)) : List (List Int) := m.flatMap fnRow
def fnTo (m : List (List Int)) (x y : Nat) : List (List Int) := (m.take x).flatMap fnRow ++ ((m.getD x []).take y).map fnAt

theorem fnTo_row (m : List (List Int)) (x y : Nat) (hy : y < (m.getD x []).length) : fnTo m x y ++ [fnAt ((m.getD x []).getD y 0)] = fnTo m x (y + 1) := by
  unfold fnTo
  have e : (m.getD x []).getD y 0 = (m.getD x [])[y] := getD_lt hy
  rw [List.take_succ_eq_append_getElem hy, List.map_append, List.append_assoc, e]
  rfl
theorem fnTo_end (m : List (List Int)) (x : Nat) (hx : x < m.length) : fnTo m x (m.getD x []).length = fnTo m (x + 1) 0 := by
  unfold fnTo
  rw [List.take_succ_eq_append_getElem hx, List.flatMap_append, List.take_length]
  simp [List.getD, hx, fnRow]
theorem fnTo_all (m : List (List Int)) : fnTo m m.length 0 = functionalL m := by
  unfold fnTo functionalL
  simp
theorem fnTo_len (m : List (List Int)) (h : goodM m = true) (x y : Nat) (hx : x ≤ m.length) (hy : y ≤ (m.getD x []).length) : (fnTo m x y).length ≤ 16 := by
  obtain ⟨g1, g2, g3, g4, g5⟩ := goodM_spec h
  have key : ∀ (l : List (List Int)), (∀ r, r ∈ l → r.length ≤ 3) → (l.flatMap fnRow).length ≤ 3 * l.length := by
    intro l
    induction l with
    | nil => simp
    | cons r l ih => intro hl; have := ih (fun q hq => hl q (by simp [hq])); have := hl r (by simp); simp [fnRow] at *; omega
  have h1 := key (m.take x) (fun r hr => by have := (g5 r (List.mem_of_mem_take hr)).1; omega)
  have h2 : (m.getD x []).length ≤ 3 := by
    by_cases hx2 : x < m.length
    · have := (g5 _ (getD_mem (d := []) hx2)).1; omega
    · simp [List.getD, List.getElem?_eq_none (by omega : m.length ≤ x)]
  unfold fnTo
  simp only [List.length_append, List.length_map, List.length_take] at h1 ⊢
  omega

def fnRes (m : List (List Int)) : List (List Int) := if goodM m then functionalL m else []

theorem l5Functional_spec (m : List (List Int)) (hg : goodM m = true) :
    FSpec Try.prog 67 [.t (.rows m)] (ex (.own 0) [(0, .rows 22 3 true (functionalL m))]) := by
  obtain ⟨g1, g2, g3, g4, g5⟩ := goodM_spec hg
  refine fspec tyOk mx Try.func67 rfl (by kernel_rfl) rfl ?_
  conv => whnf
  refine aloopI tyOk mx (fun x : Nat => (⟨57, [(0, .t (.rows m)), (3, .own 0), (4, .c (.int .i64 (x)))], [(0, .rows 22 3 true (fnTo m x 0))], 1⟩ : St)) (fun x => x ≤ m.length) (fun x => m.length - x) 0 (by omega) none (by refine ⟨rfl, rfl, ?_, ?_⟩ <;> ((repeat' (first | exact trivial | exact rfl | refine And.intro ?_ ?_)) <;> (try ((conv => whnf); first | refine vint ?_ | refine vboo ?_ | refine rint ?_ | refine rrow ?_ | skip)) <;> (try first | omega | (simp; done) | ((repeat rw [flts_closed _ (by assumption)]); exact vws_closed _ (by assumption))))) (fun x hx => ?_)
  refine ⟨fun h => ?_, fun h => ?_⟩
  · have h := ltT h
    have h4 := (g5 _ (getD_mem (d := []) h)).1
    conv => whnf
    refine aloopI tyOk mx (fun y : Nat => (⟨57, [(0, .t (.rows m)), (3, .own 0), (4, .c (.int .i64 (x))), (5, .c (.int .i64 (y)))], [(0, .rows 22 3 true (fnTo m x y))], 1⟩ : St)) (fun y => y ≤ (m.getD x []).length) (fun y => (m.getD x []).length - y) 0 (by omega) none (by refine ⟨rfl, rfl, ?_, ?_⟩ <;> ((repeat' (first | exact trivial | exact rfl | refine And.intro ?_ ?_)) <;> (try ((conv => whnf); first | refine vint ?_ | refine vboo ?_ | refine rint ?_ | refine rrow ?_ | skip)) <;> (try first | omega | (simp; done) | ((repeat rw [flts_closed _ (by assumption)]); exact vws_closed _ (by assumption))))) (fun y hy => ?_)
    have hlen := fnTo_len m hg x y hx hy
    refine ⟨x, rfl, h, fun h5 => ?_, fun h5 => ?_⟩
    · have h5 := ltT h5
      refine ADraw.plan tyOk mx (.q 0 (.q 1 (.q 2 (.q 3 (.q 4 (.q 5 (.q 6 (.q 7 (.q 8 (.q 9 (.q 10 (.q 11 (.q 12 (.q 13 (.q 14 (.q 15 (.q 16 (.q 17 (.q 18 (.q 19 (.q 20 (.q 21 (.q 22 (.q 23 (.q 24 (.q 25 (.q 26 (.q 27 (.q 28 (.q 29 (.q 30 (.last 31 (.last 32 (.last 33 (.q 34 (.done))))))))))))))))))))))))))))))))))) : Plan) (by kernel_rfl) ?_
      conv => whnf
      refine ⟨x, rfl, h, y, rfl, h5, x, rfl, h, y, rfl, h5, x, rfl, h, y, rfl, h5, x, rfl, h, y, rfl, h5, ?_⟩
      conv => whnf
      refine ⟨by simp [room]; omega, ?_⟩
      conv => whnf
      rw [nat_wrap (by omega)]
      refine ⟨y + 1, none, ?_, by omega, by omega⟩
      (refine ⟨rfl, rfl, ?_, ?_⟩ <;> ((repeat' (first | exact trivial | exact rfl | refine And.intro ?_ ?_)) <;> (try ((conv => whnf); first | refine vint ?_ | refine vboo ?_ | refine rint ?_ | refine rrow ?_ | skip)) <;> (try first | omega | (simp; done) | ((repeat rw [flts_closed _ (by assumption)]); exact vws_closed _ (by assumption)))))
      exact fnTo_row m x y h5
    · have h5 := ltF h5
      obtain rfl : y = (m.getD x []).length := by omega
      conv => whnf
      rw [nat_wrap (by omega)]
      refine ⟨x + 1, none, ?_, by omega, by omega⟩
      (refine ⟨rfl, rfl, ?_, ?_⟩ <;> ((repeat' (first | exact trivial | exact rfl | refine And.intro ?_ ?_)) <;> (try ((conv => whnf); first | refine vint ?_ | refine vboo ?_ | refine rint ?_ | refine rrow ?_ | skip)) <;> (try first | omega | (simp; done) | ((repeat rw [flts_closed _ (by assumption)]); exact vws_closed _ (by assumption)))))
      exact fnTo_end m x h
  · have h := ltF h
    obtain rfl : x = m.length := by omega
    conv => whnf
    exact ⟨rfl, by rw [fnTo_all]⟩

end Go.Proofs.Ytmnbjocoiciffaa
