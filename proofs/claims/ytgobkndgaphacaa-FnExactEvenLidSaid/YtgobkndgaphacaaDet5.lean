/- Matrices of lids: plain facts; the reference. -/
import Derived.Test.YtgobkndgaphacaaDet4
namespace Go.Aw
def tab (N : Nat) (f : Nat → Nat → Int) : List (List Int) := (List.range N).map fun i => (List.range N).map fun j => f i j
theorem tab_len (N : Nat) (f : Nat → Nat → Int) : (tab N f).length = N := by simp [tab]
theorem tab_rows {N : Nat} {f : Nat → Nat → Int} : ∀ r, r ∈ tab N f → r.length = N := fun r hr => by
  obtain ⟨i, _, rfl⟩ := List.mem_map.1 hr
  simp
theorem tab_row {N i : Nat} {f : Nat → Nat → Int} (h : i < N) : (tab N f).getD i [] = (List.range N).map fun j => f i j := range_getD h
theorem tab_sq {N : Nat} {f : Nat → Nat → Int} (h : N ≤ 1000) : Sq (tab N f) := ⟨by rw [tab_len]; exact h, fun r hr => by rw [tab_len]; exact tab_rows r hr⟩
theorem tab_congr {N : Nat} {f g : Nat → Nat → Int} (h : ∀ a b, a < N → b < N → f a b = g a b) : tab N f = tab N g :=
  List.map_congr_left fun a ha => List.map_congr_left fun b hb => h a b (by simpa using ha) (by simpa using hb)
theorem map_set {β : Type} (g : Nat → β) (N j : Nat) (v : β) : ((List.range N).map g).set j v = (List.range N).map fun b => if b = j then v else g b := by
  refine List.ext_getElem (by simp) fun i h1 h2 => ?_
  simp only [List.getElem_set, List.getElem_map, List.getElem_range]
  by_cases h : j = i
  · subst h; simp
  · rw [if_neg h, if_neg (Ne.symm h)]
theorem tab_set {N i j : Nat} {f : Nat → Nat → Int} {v : Int} (hi : i < N) : (tab N f).set i (((tab N f).getD i []).set j v) = tab N fun a b => if a = i ∧ b = j then v else f a b := by
  rw [tab_row hi, map_set, tab, map_set, tab]
  refine List.map_congr_left fun a _ => ?_
  by_cases h : a = i
  · subst h
    rw [if_pos rfl]
    refine List.map_congr_left fun b _ => ?_
    by_cases hb : b = j
    · rw [if_pos hb, if_pos ⟨rfl, hb⟩]
    · rw [if_neg hb, if_neg (fun c => hb c.2)]
  · rw [if_neg h]
    refine List.map_congr_left fun b _ => ?_
    rw [if_neg (fun c => h c.1)]
def lidV (m : List (List Int)) (k : Int) (x y : Nat) : Int := W (W (0 - k) * (m.getD x []).getD y 0)
def lidP (m : List (List Int)) (lid : List Int) (k : Int) (nx x y a b : Nat) : Int :=
  if a = b then lid.getD a 0
  else if a < nx ∧ nx ≤ b then (if a < x ∨ (a = x ∧ b - nx < y) then lidV m k a (b - nx) else 0)
  else if nx ≤ a ∧ b < nx then (if b < x ∨ (b = x ∧ a - nx < y) then lidV m k b (a - nx) else 0)
  else 0
theorem lid_row0 (m : List (List Int)) (lid : List Int) (k : Int) (nx N i : Nat) : (List.replicate N (0 : Int)).set i (lid.getD i 0) = (List.range N).map fun b => lidP m lid k nx 0 0 i b := by
  have e : List.replicate N (0 : Int) = (List.range N).map fun _ => 0 := by
    refine List.ext_getElem (by simp) fun i h1 h2 => by simp
  rw [e, map_set]
  refine List.map_congr_left fun b _ => ?_
  unfold lidP
  by_cases h : b = i
  · rw [if_pos h, if_pos h.symm]
  · rw [if_neg h, if_neg (Ne.symm h)]
    split
    · rw [if_neg (by omega)]
    · split
      · rw [if_neg (by omega)]
      · rfl
theorem lid_step {m : List (List Int)} {lid : List Int} {k : Int} {nx ny x y : Nat} (hx : x < nx) (hy : y < ny) :
    ((tab (nx + ny) (lidP m lid k nx x y)).set x (((tab (nx + ny) (lidP m lid k nx x y)).getD x []).set (nx + y) (lidV m k x y))).set (nx + y)
      ((((tab (nx + ny) (lidP m lid k nx x y)).set x (((tab (nx + ny) (lidP m lid k nx x y)).getD x []).set (nx + y) (lidV m k x y))).getD (nx + y) []).set x (lidV m k x y)) = tab (nx + ny) (lidP m lid k nx x (y + 1)) := by
  rw [tab_set (by omega), tab_set (by omega)]
  refine tab_congr fun a b ha hb => ?_
  by_cases h1 : a = nx + y ∧ b = x
  · rw [if_pos h1]
    obtain ⟨rfl, rfl⟩ := h1
    unfold lidP
    rw [if_neg (by omega), if_neg (by omega), if_pos (by omega), if_pos (.inr ⟨rfl, by omega⟩)]
    congr 1; omega
  · rw [if_neg h1]
    by_cases h2 : a = x ∧ b = nx + y
    · rw [if_pos h2]
      obtain ⟨rfl, rfl⟩ := h2
      unfold lidP
      rw [if_neg (by omega), if_pos (by omega), if_pos (.inr ⟨rfl, by omega⟩)]
      congr 1; omega
    · rw [if_neg h2]
      unfold lidP
      split
      · rfl
      · split
        · rename_i h3 h4
          have : (a < x ∨ (a = x ∧ b - nx < y)) ↔ (a < x ∨ (a = x ∧ b - nx < y + 1)) := by omega
          simp only [this]
        · split
          · rename_i h3 h4 h5
            have : (b < x ∨ (b = x ∧ a - nx < y)) ↔ (b < x ∨ (b = x ∧ a - nx < y + 1)) := by omega
            simp only [this]
          · rfl
theorem lid_next {m : List (List Int)} {lid : List Int} {k : Int} {nx ny x : Nat} : tab (nx + ny) (lidP m lid k nx x ny) = tab (nx + ny) (lidP m lid k nx (x + 1) 0) := by
  refine tab_congr fun a b ha hb => ?_
  unfold lidP
  split
  · rfl
  · split
    · have : (a < x ∨ (a = x ∧ b - nx < ny)) ↔ (a < x + 1 ∨ (a = x + 1 ∧ b - nx < 0)) := by omega
      simp only [this]
    · split
      · have : (b < x ∨ (b = x ∧ a - nx < ny)) ↔ (b < x + 1 ∨ (b = x + 1 ∧ a - nx < 0)) := by omega
        simp only [this]
      · rfl
def lidM (m : List (List Int)) (lid : List Int) (k : Int) : List (List Int) := tab (m.length + (m.getD 0 []).length) (lidP m lid k m.length m.length 0)
end Go.Aw
namespace Go.Proofs.Ytgobkndgaphacaa
open Go.Aw
set_option maxRecDepth 100000
set_option maxHeartbeats 4000000

def lidB (m : List (List Int)) (lid : List Int) (k : Int) : Bool := rowIn lid 0 99 && decide (lid.length = m.length + (m.getD 0 []).length) && neverA (lidM m lid k)
theorem l5Matrix_spec (m : List (List Int)) (lid : List Int) (k : Int) (hg : goodM m = true) (hl : lid.length = m.length + (m.getD 0 []).length) :
    FSpec Try.prog 44 [.t (.rows m), .t (.ints .i64 lid), .c (.int .i64 (k))] (ex (.own 0) [(0, .rows 33 3 true (lidM m lid k))]) := by
  obtain ⟨g1, g2, g3, g4, g5⟩ := goodM_spec hg
  obtain ⟨N, hN⟩ : ∃ N, N = m.length + (m.getD 0 []).length := ⟨_, rfl⟩
  have hl' : lid.length = N := by omega
  have row0 := fun i => lid_row0 m lid k m.length N i
  refine fspec tyOk mx Try.func44 rfl (by kernel_rfl) rfl ?_
  conv => whnf
  refine aloopI tyOk mx (fun i : Nat => (⟨87, [(0, .t (.rows m)), (1, .t (.ints .i64 lid)), (2, .c (.int .i64 (k))), (7, .own 0), (8, .c (.int .i64 (i)))], [(0, .rows 33 3 true ((List.range i).map fun a => (List.range N).map fun b => lidP m lid k m.length 0 0 a b))], 1⟩ : St)) (fun i => i ≤ N) (fun i => N - i) 0 (Nat.zero_le _) none (by refine ⟨rfl, rfl, ?_, ?_⟩ <;> ((repeat' (first | exact trivial | exact rfl | refine And.intro ?_ ?_)) <;> (try ((conv => whnf); first | refine vint ?_ | refine vboo ?_ | refine rint ?_ | refine rrow ?_ | skip)) <;> (try first | omega | (simp; done) | ((repeat rw [flts_closed _ (by assumption)]); exact vws_closed _ (by assumption))))) (fun i hi => ?_)
  refine ⟨fun h => ?_, fun h => ?_⟩
  · have h : i < N := by have := ltT h; omega
    conv => whnf
    refine ⟨N, by rw [hl'], by rw [hl'], by simp only [room]; omega, ?_⟩
    conv => whnf
    refine ⟨i, rfl, by omega, ?_⟩
    conv => whnf
    refine ⟨i, rfl, by rw [List.length_replicate]; exact h, ?_⟩
    conv => whnf
    refine ⟨by simp [room]; omega, ?_⟩
    conv => whnf
    rw [nat_wrap (by omega)]
    refine ⟨i + 1, none, ?_, by omega, by omega⟩
    (refine ⟨rfl, rfl, ?_, ?_⟩ <;> ((repeat' (first | exact trivial | exact rfl | refine And.intro ?_ ?_)) <;> (try ((conv => whnf); first | refine vint ?_ | refine vboo ?_ | refine rint ?_ | refine rrow ?_ | skip)) <;> (try first | omega | (simp; done) | ((repeat rw [flts_closed _ (by assumption)]); exact vws_closed _ (by assumption)))))
    rw [row0 i]
    exact map_range_succ (fun a => (List.range N).map fun b => lidP m lid k m.length 0 0 a b) i
  · have h : ¬ i < N := by have := ltF h; omega
    obtain rfl : i = N := by omega
    have e0 : ((List.range i).map fun a => (List.range i).map fun b => lidP m lid k m.length 0 0 a b) = tab i (lidP m lid k m.length 0 0) := rfl
    rw [e0]
    clear e0 row0
    subst hN
    conv => whnf
    refine aloopI tyOk mx (fun x : Nat => (⟨87, [(0, .t (.rows m)), (2, .c (.int .i64 (k))), (7, .own 0), (10, .c (.int .i64 (x)))], [(0, .rows 33 3 true (tab (m.length + (m.getD 0 []).length) (lidP m lid k m.length x 0)))], 1⟩ : St)) (fun x => x ≤ m.length) (fun x => m.length - x) 0 (Nat.zero_le _) none (by refine ⟨rfl, rfl, ?_, ?_⟩ <;> ((repeat' (first | exact trivial | exact rfl | refine And.intro ?_ ?_)) <;> (try ((conv => whnf); first | refine vint ?_ | refine vboo ?_ | refine rint ?_ | refine rrow ?_ | skip)) <;> (try first | omega | (simp; done) | ((repeat rw [flts_closed _ (by assumption)]); exact vws_closed _ (by assumption))))) (fun x hx => ?_)
    refine ⟨fun h => ?_, fun h => ?_⟩
    · have h : x < m.length := by have := ltT h; omega
      have hxl := (g5 _ (getD_mem (d := []) h)).1
      conv => whnf
      refine aloopI tyOk mx (fun y : Nat => (⟨87, [(0, .t (.rows m)), (2, .c (.int .i64 (k))), (7, .own 0), (10, .c (.int .i64 (x))), (11, .c (.int .i64 (y)))], [(0, .rows 33 3 true (tab (m.length + (m.getD 0 []).length) (lidP m lid k m.length x y)))], 1⟩ : St)) (fun y => y ≤ (m.getD 0 []).length) (fun y => (m.getD 0 []).length - y) 0 (Nat.zero_le _) none (by refine ⟨rfl, rfl, ?_, ?_⟩ <;> ((repeat' (first | exact trivial | exact rfl | refine And.intro ?_ ?_)) <;> (try ((conv => whnf); first | refine vint ?_ | refine vboo ?_ | refine rint ?_ | refine rrow ?_ | skip)) <;> (try first | omega | (simp; done) | ((repeat rw [flts_closed _ (by assumption)]); exact vws_closed _ (by assumption))))) (fun y hy => ?_)
      have tl := tab_len (m.length + (m.getD 0 []).length) (lidP m lid k m.length x y)
      refine ⟨x, rfl, h, ?_⟩
      conv => whnf
      refine ⟨fun h2 => ?_, fun h2 => ?_⟩
      · have h2 : y < (m.getD 0 []).length := by have := ltT h2; omega
        have eI : IntKind.i64.wrap ((m.length : Int) + (y : Int)) = ((m.length + y : Nat) : Int) := by rw [w64 (by omega) (by omega)]; omega
        conv => whnf
        refine ADraw.plan tyOk mx (.q 0 (.q 1 (.q 2 (.q 3 (.q 4 (.q 5 (.q 6 (.q 7 (.q 8 (.q 9 (.q 10 (.q 11 (.q 12 (.q 13 (.q 14 (.q 15 (.q 16 (.q 17 (.q 18 (.last 19 (.done)))))))))))))))))))) : Plan) (by kernel_rfl) ?_
        conv => whnf
        have tr : ∀ i : Nat, i < m.length + (m.getD 0 []).length → ((tab (m.length + (m.getD 0 []).length) (lidP m lid k m.length x y)).getD i []).length = m.length + (m.getD 0 []).length := fun i h => tab_rows _ (getD_mem (d := []) (by omega))
        have t1 := tr x (by omega)
        have t2 := tr (m.length + y) (by omega)
        have hs : ∀ z, ((tab (m.length + (m.getD 0 []).length) (lidP m lid k m.length x y)).set x z).getD (m.length + y) [] = (tab (m.length + (m.getD 0 []).length) (lidP m lid k m.length x y)).getD (m.length + y) [] := fun z => by
          simp only [List.getD]; rw [List.getElem?_set_ne (by omega)]
        repeat' (first | (refine ⟨x, rfl, by omega, ?_⟩; conv => whnf) | (refine ⟨y, rfl, by omega, ?_⟩; conv => whnf) | (refine ⟨m.length + y, eI, by omega, ?_⟩; conv => whnf) | (refine And.intro ?_ ?_ <;> (conv => whnf)))
        all_goals
          refine ADraw.plan tyOk mx (.q 0 (.q 1 (.q 2 (.q 3 (.q 4 (.q 5 (.q 6 (.q 7 (.q 8 (.q 9 (.q 10 (.q 11 (.q 12 (.q 13 (.q 14 (.q 15 (.q 16 (.q 17 (.q 18 (.last 19 (.done)))))))))))))))))))) : Plan) (by kernel_rfl) ?_
          conv => whnf
          repeat' (first | (refine ⟨x, rfl, by omega, ?_⟩; conv => whnf) | (refine ⟨y, rfl, by omega, ?_⟩; conv => whnf) | (refine ⟨m.length + y, eI, by simp only [List.length_set]; omega, ?_⟩; conv => whnf) | (refine ⟨x, rfl, by simp only [List.length_set, hs]; omega, ?_⟩; conv => whnf) | (refine And.intro ?_ ?_ <;> (conv => whnf)))
        all_goals
          rw [nat_wrap (by omega)]
          refine ⟨y + 1, none, ?_, by omega, by omega⟩
          (refine ⟨rfl, rfl, ?_, ?_⟩ <;> ((repeat' (first | exact trivial | exact rfl | refine And.intro ?_ ?_)) <;> (try ((conv => whnf); first | refine vint ?_ | refine vboo ?_ | refine rint ?_ | refine rrow ?_ | skip)) <;> (try first | omega | (simp; done) | ((repeat rw [flts_closed _ (by assumption)]); exact vws_closed _ (by assumption)))))
          exact lid_step h h2
      · have h2 : ¬ y < (m.getD 0 []).length := by have := ltF h2; omega
        obtain rfl : y = (m.getD 0 []).length := by omega
        conv => whnf
        rw [nat_wrap (by omega)]
        refine ⟨x + 1, none, ?_, by omega, by omega⟩
        (refine ⟨rfl, rfl, ?_, ?_⟩ <;> ((repeat' (first | exact trivial | exact rfl | refine And.intro ?_ ?_)) <;> (try ((conv => whnf); first | refine vint ?_ | refine vboo ?_ | refine rint ?_ | refine rrow ?_ | skip)) <;> (try first | omega | (simp; done) | ((repeat rw [flts_closed _ (by assumption)]); exact vws_closed _ (by assumption)))))
        exact lid_next
    · have h : ¬ x < m.length := by have := ltF h; omega
      obtain rfl : x = m.length := by omega
      conv => whnf
      exact ⟨rfl, rfl⟩
end Go.Proofs.Ytgobkndgaphacaa
