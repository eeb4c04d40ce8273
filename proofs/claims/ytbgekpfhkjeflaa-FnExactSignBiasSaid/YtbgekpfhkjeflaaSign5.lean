/- SignFunctional, program and reference. -/
import Derived.Test.YtbgekpfhkjeflaaSign4
namespace Go.Proofs.Ytbgekpfhkjeflaa
open Go.Aw
set_option maxRecDepth 100000

theorem getD_lt {α : Type} {l : List α} {d : α} {i : Nat} (h : i < l.length) : l.getD i d = l[i] := by rw [List.getD_eq_getElem?_getD, List.getElem?_eq_getElem h]; rfl

def fnAt (n : Int) : List Int := [n, W (0 - n), W (0 - n), n]
def fnRow (r : List Int) : List (List Int) := r.map fnAt
def functionalL (m : List (List Int)) : List (List Int) := m.flatMap fnRow
def fnTo (m : List (List Int)) (x y : Nat) : List (List Int) := (m.take x).flatMap fnRow ++ ((m.getD x []).take y).map fnAt

theorem fnTo_row (m : List (List Int)) (x y : Nat) (hy : y < (m.getD x []).length) : fnTo m x y ++ [fnAt ((m.getD x []).getD y 0)] = fnTo m x (y + 1) := by
  unfold fnTo
  have e : (m.getD x []).getD y 0 = (m.getD x [])[y] := getD_lt hy
  rw [List.take_succ_eq_append_getElem hy, List.map_append, List.append_assoc, e]
  rfl
theorem fnTo_end (m : List (List Int)) (x : Nat) (hx : x < m.length) : fnTo m x (m.getD x []).length = fnTo m (x + 1) 0 := by
  unfold fnTo
  rw [List.take_succ_eq_append_getElem hx, List.flatMap_append, List.take_length]
  simp [List.getD, hx, fnRow]
theorem fnTo_all (m : List (List Int)) : fnTo m m.length 0 = functionalL m := by
  unfold fnTo functionalL
  simp
theorem fnTo_len (m : List (List Int)) (h : goodM m = true) (x y : Nat) (hx : x ≤ m.length) (hy : y ≤ (m.getD x []).length) : (fnTo m x y).length ≤ 16 := by
  obtain ⟨g1, g2, g3, g4, g5⟩ := goodM_spec h
  have key : ∀ (l : List (List Int)), (∀ r, r ∈ l → r.length ≤ 3) → (l.flatMap fnRow).length ≤ 3 * l.length := by
    intro l
    induction l with
    | nil => simp
    | cons r l ih => intro hl; have := ih (fun q hq => hl q (by simp [hq])); have := hl r (by simp); simp [fnRow] at *; omega
  have h1 := key (m.take x) (fun r hr => by have := (g5 r (List.mem_of_mem_take hr)).1; omega)
  have h2 : (m.getD x []).length ≤ 3 := by
    by_cases hx2 : x < m.length
    · have := (g5 _ (getD_mem (d := []) hx2)).1; omega
    · simp [List.getD, List.getElem?_eq_none (by omega : m.length ≤ x)]
  unfold fnTo
  simp only [List.length_append, List.length_map, List.length_take] at h1 ⊢
  omega

def fnRes (m : List (List Int)) : List (List Int) := if goodM m then functionalL m else []

theorem l5Functional_spec (m : List (List Int)) (hg : goodM m = true) :
    FSpec Try.prog 76 [.t (.rows m)] (ex (.own 0) [(0, .rows 23 3 true (functionalL m))]) := by
  obtain ⟨g1, g2, g3, g4, g5⟩ := goodM_spec hg
  refine fspec tyOk mx Try.func76 rfl (by kernel_rfl) rfl ?_
  conv => whnf
  refine aloopI tyOk mx (fun x : Nat => (⟨57, [(0, .t (.rows m)), (3, .own 0), (4, .c (.int .i64 (x)))], [(0, .rows 23 3 true (fnTo m x 0))], 1⟩ : St)) (fun x => x ≤ m.length) (fun x => m.length - x) 0 (by omega) none (by refine ⟨rfl, rfl, ?_, ?_⟩ <;> ((repeat' (first | exact trivial | exact rfl | refine And.intro ?_ ?_)) <;> (try ((conv => whnf); first | refine vint ?_ | refine vboo ?_ | refine rint ?_ | refine rrow ?_ | skip)) <;> (try first | omega | (simp; done)))) (fun x hx => ?_)
  refine ⟨fun h => ?_, fun h => ?_⟩
  · have h := ltT h
    have h4 := (g5 _ (getD_mem (d := []) h)).1
    conv => whnf
    refine aloopI tyOk mx (fun y : Nat => (⟨57, [(0, .t (.rows m)), (3, .own 0), (4, .c (.int .i64 (x))), (5, .c (.int .i64 (y)))], [(0, .rows 23 3 true (fnTo m x y))], 1⟩ : St)) (fun y => y ≤ (m.getD x []).length) (fun y => (m.getD x []).length - y) 0 (by omega) none (by refine ⟨rfl, rfl, ?_, ?_⟩ <;> ((repeat' (first | exact trivial | exact rfl | refine And.intro ?_ ?_)) <;> (try ((conv => whnf); first | refine vint ?_ | refine vboo ?_ | refine rint ?_ | refine rrow ?_ | skip)) <;> (try first | omega | (simp; done)))) (fun y hy => ?_)
    have hlen := fnTo_len m hg x y hx hy
    refine ⟨x, rfl, h, fun h5 => ?_, fun h5 => ?_⟩
    · have h5 := ltT h5
      refine ADraw.plan tyOk mx (.q 0 (.q 1 (.q 2 (.q 3 (.q 4 (.q 5 (.q 6 (.q 7 (.q 8 (.q 9 (.q 10 (.q 11 (.q 12 (.q 13 (.q 14 (.q 15 (.q 16 (.q 17 (.q 18 (.q 19 (.q 20 (.q 21 (.q 22 (.q 23 (.q 24 (.q 25 (.q 26 (.q 27 (.q 28 (.q 29 (.q 30 (.last 31 (.last 32 (.last 33 (.q 34 (.done))))))))))))))))))))))))))))))))))) : Plan) (by kernel_rfl) ?_
      conv => whnf
      refine ⟨x, rfl, h, y, rfl, h5, x, rfl, h, y, rfl, h5, x, rfl, h, y, rfl, h5, x, rfl, h, y, rfl, h5, ?_⟩
      conv => whnf
      refine ⟨by simp [room]; omega, ?_⟩
      conv => whnf
      rw [nat_wrap (by omega)]
      refine ⟨y + 1, none, ?_, by omega, by omega⟩
      (refine ⟨rfl, rfl, ?_, ?_⟩ <;> ((repeat' (first | exact trivial | exact rfl | refine And.intro ?_ ?_)) <;> (try ((conv => whnf); first | refine vint ?_ | refine vboo ?_ | refine rint ?_ | refine rrow ?_ | skip)) <;> (try first | omega | (simp; done))))
      exact fnTo_row m x y h5
    · have h5 := ltF h5
      obtain rfl : y = (m.getD x []).length := by omega
      conv => whnf
      rw [nat_wrap (by omega)]
      refine ⟨x + 1, none, ?_, by omega, by omega⟩
      (refine ⟨rfl, rfl, ?_, ?_⟩ <;> ((repeat' (first | exact trivial | exact rfl | refine And.intro ?_ ?_)) <;> (try ((conv => whnf); first | refine vint ?_ | refine vboo ?_ | refine rint ?_ | refine rrow ?_ | skip)) <;> (try first | omega | (simp; done))))
      exact fnTo_end m x h
  · have h := ltF h
    obtain rfl : x = m.length := by omega
    conv => whnf
    exact ⟨rfl, by rw [fnTo_all]⟩

theorem SignFunctional_s (m : List (List Int)) (hm : OkM m) (_km : SzM m) :
    FSpec Try.prog 36 [.t (.rows m)] (ex (.tu [.own 0, .c (.bool (goodM m))]) [(0, .rows 23 3 true (fnRes m))]) := by
  refine fspec tyOk mx Try.func36 rfl (by kernel_rfl) rfl ?_
  conv => whnf
  refine ACall.use (l5Good_spec m hm.1 hm.len) ?_
  refine ⟨fun h => ?_, fun h => ?_⟩
  · have hg : goodM m = false := by simpa using h
    conv => whnf
    refine ⟨by rw [hg], by rw [fnRes, hg]; rfl⟩
  · have hg : goodM m = true := by simpa using h
    conv => whnf
    refine ACall.use (l5Functional_spec m hg) ?_
    conv => whnf
    refine ⟨by rw [hg], by rw [fnRes, hg]; rfl⟩

theorem SignFunctional_i (m : List (List Int)) (hm : OkM m) (_km : SzM m) :
    FSpec Try.prog 37 [.t (.rows m)] (ex (.tu [.own 0, .c (.bool (goodM m))]) [(0, .rows 23 3 true (fnRes m))]) := by
  refine view_rows ?_
  refine fspec tyOk mx Try.func37 rfl (by kernel_rfl) rfl ?_
  conv => whnf
  refine ACall.use (iIsSignGame_spec m hm.1 hm.len) ?_
  refine ⟨fun h => ?_, fun h => ?_⟩
  · have hg : goodM m = false := by simpa using h
    conv => whnf
    exact .inl ⟨hg, rfl, rfl⟩
  · have hg : goodM m = true := by simpa using h
    obtain ⟨g1, g2, g3, g4, g5⟩ := goodM_spec hg
    conv => whnf
    refine aloopI tyOk mx (fun x : Nat => (⟨38, [(4, .own 0), (13, .t (.rows m)), (14, .c (.int .i64 m.length)), (15, .c (.int .i64 (x)))], [(0, .rows 23 3 true (fnTo m x 0))], 1⟩ : St)) (fun x => x ≤ m.length) (fun x => m.length - x) 0 (by omega) none (by refine ⟨rfl, rfl, ?_, ?_⟩ <;> ((repeat' (first | exact trivial | exact rfl | refine And.intro ?_ ?_)) <;> (try ((conv => whnf); first | refine vint ?_ | refine vboo ?_ | refine rint ?_ | refine rrow ?_ | skip)) <;> (try first | omega | (simp; done)))) (fun x hx => ?_)
    refine ⟨fun h => ?_, fun h => ?_⟩
    · have h := ltT h
      have h4 := (g5 _ (getD_mem (d := []) h)).1
      conv => whnf
      refine ⟨x, rfl, h, ?_⟩
      conv => whnf
      refine aloopI tyOk mx (fun y : Nat => (⟨38, [(4, .own 0), (13, .t (.rows m)), (14, .c (.int .i64 m.length)), (15, .c (.int .i64 (x))), (19, .t (.ints .i64 (m.getD x []))), (20, .c (.int .i64 ((m.getD x []).length))), (21, .c (.int .i64 (y)))], [(0, .rows 23 3 true (fnTo m x y))], 1⟩ : St)) (fun y => y ≤ (m.getD x []).length) (fun y => (m.getD x []).length - y) 0 (by omega) none (by refine ⟨rfl, rfl, ?_, ?_⟩ <;> ((repeat' (first | exact trivial | exact rfl | refine And.intro ?_ ?_)) <;> (try ((conv => whnf); first | refine vint ?_ | refine vboo ?_ | refine rint ?_ | refine rrow ?_ | skip)) <;> (try first | omega | (simp; done)))) (fun y hy => ?_)
      have hlen := fnTo_len m hg x y hx hy
      refine ⟨fun h5 => ?_, fun h5 => ?_⟩
      · have h5 := ltT h5
        conv => whnf
        refine ⟨y, rfl, h5, ?_⟩
        conv => whnf
        refine ⟨by simp [room]; omega, ?_⟩
        conv => whnf
        rw [nat_wrap (by omega)]
        refine ⟨y + 1, none, ?_, by omega, by omega⟩
        (refine ⟨rfl, rfl, ?_, ?_⟩ <;> ((repeat' (first | exact trivial | exact rfl | refine And.intro ?_ ?_)) <;> (try ((conv => whnf); first | refine vint ?_ | refine vboo ?_ | refine rint ?_ | refine rrow ?_ | skip)) <;> (try first | omega | (simp; done))))
        exact fnTo_row m x y h5
      · have h5 := ltF h5
        obtain rfl : y = (m.getD x []).length := by omega
        conv => whnf
        rw [nat_wrap (by omega)]
        refine ⟨x + 1, none, ?_, by omega, by omega⟩
        (refine ⟨rfl, rfl, ?_, ?_⟩ <;> ((repeat' (first | exact trivial | exact rfl | refine And.intro ?_ ?_)) <;> (try ((conv => whnf); first | refine vint ?_ | refine vboo ?_ | refine rint ?_ | refine rrow ?_ | skip)) <;> (try first | omega | (simp; done))))
        exact fnTo_end m x h
    · have h := ltF h
      obtain rfl : x = m.length := by omega
      conv => whnf
      exact .inr ⟨hg, rfl, by rw [fnTo_all]⟩

theorem SignFunctional_bd (m : List (List Int)) (_hm : OkM m) (_km : SzM m) : (fnRes m).length ≤ 1000000 ∧ tot (fnRes m) ≤ 1000000 := by
  unfold fnRes
  split
  · rename_i h
    have h1 := fnTo_len m h m.length 0 (Nat.le_refl _) (Nat.zero_le _)
    rw [fnTo_all] at h1
    have h2 := tot_le_mul (m := functionalL m) (n := 4) (fun q hq => by
      obtain ⟨r, _, hr⟩ := List.mem_flatMap.1 hq
      obtain ⟨n, _, rfl⟩ := List.mem_map.1 hr
      simp [fnAt])
    omega
  · simp [tot]
end Go.Proofs.Ytbgekpfhkjeflaa
