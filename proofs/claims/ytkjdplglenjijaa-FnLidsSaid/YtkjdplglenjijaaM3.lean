/- Matrices of lids: plain facts; the reference. -/
import Derived.Test.YtkjdplglenjijaaM2
import Derived.Test.YtkjdplglenjijaaM0
import Derived.Shelf.Spec.SlicesGrow
namespace Go.Aw
def tab (N : Nat) (f : Nat → Nat → Int) : List (List Int) := (List.range N).map fun i => (List.range N).map fun j => f i j
theorem tab_len (N : Nat) (f : Nat → Nat → Int) : (tab N f).length = N := by simp [tab]
theorem tab_rows {N : Nat} {f : Nat → Nat → Int} : ∀ r, r ∈ tab N f → r.length = N := fun r hr => by
  obtain ⟨i, _, rfl⟩ := List.mem_map.1 hr
  simp
theorem tab_row {N i : Nat} {f : Nat → Nat → Int} (h : i < N) : (tab N f).getD i [] = (List.range N).map fun j => f i j := range_getD h
theorem tab_sq {N : Nat} {f : Nat → Nat → Int} (h : N ≤ 1000) : Sq (tab N f) := ⟨by rw [tab_len]; exact h, fun r hr => by rw [tab_len]; exact tab_rows r hr⟩
theorem tab_congr {N : Nat} {f g : Nat → Nat → Int} (h : ∀ a b, a < N → b < N → f a b = g a b) : tab N f = tab N g :=
  List.map_congr_left fun a ha => List.map_congr_left fun b hb => h a b (by simpa using ha) (by simpa using hb)
theorem map_set {β : Type} (g : Nat → β) (N j : Nat) (v : β) : ((List.range N).map g).set j v = (List.range N).map fun b => if b = j then v else g b := by
  refine List.ext_getElem (by simp) fun i h1 h2 => ?_
  simp only [List.getElem_set, List.getElem_map, List.getElem_range]
  by_cases h : j = i
  · subst h; simp
  · rw [if_neg h, if_neg (Ne.symm h)]
theorem tab_set {N i j : Nat} {f : Nat → Nat → Int} {v : Int} (hi : i < N) : (tab N f).set i (((tab N f).getD i []).set j v) = tab N fun a b => if a = i ∧ b = j then v else f a b := by
  rw [tab_row hi, map_set, tab, map_set, tab]
  refine List.map_congr_left fun a _ => ?_
  by_cases h : a = i
  · subst h
    rw [if_pos rfl]
    refine List.map_congr_left fun b _ => ?_
    by_cases hb : b = j
    · rw [if_pos hb, if_pos ⟨rfl, hb⟩]
    · rw [if_neg hb, if_neg (fun c => hb c.2)]
  · rw [if_neg h]
    refine List.map_congr_left fun b _ => ?_
    rw [if_neg (fun c => h c.1)]
def lidV (m : List (List Int)) (k : Int) (x y : Nat) : Int := W (W (0 - k) * (m.getD x []).getD y 0)
def lidP (m : List (List Int)) (lid : List Int) (k : Int) (nx x y a b : Nat) : Int :=
  if a = b then lid.getD a 0
  else if a < nx ∧ nx ≤ b then (if a < x ∨ (a = x ∧ b - nx < y) then lidV m k a (b - nx) else 0)
  else if nx ≤ a ∧ b < nx then (if b < x ∨ (b = x ∧ a - nx < y) then lidV m k b (a - nx) else 0)
  else 0
theorem lid_row0 (m : List (List Int)) (lid : List Int) (k : Int) (nx N i : Nat) : (List.replicate N (0 : Int)).set i (lid.getD i 0) = (List.range N).map fun b => lidP m lid k nx 0 0 i b := by
  have e : List.replicate N (0 : Int) = (List.range N).map fun _ => 0 := by
    refine List.ext_getElem (by simp) fun i h1 h2 => by simp
  rw [e, map_set]
  refine List.map_congr_left fun b _ => ?_
  unfold lidP
  by_cases h : b = i
  · rw [if_pos h, if_pos h.symm]
  · rw [if_neg h, if_neg (Ne.symm h)]
    split
    · rw [if_neg (by omega)]
    · split
      · rw [if_neg (by omega)]
      · rfl
theorem lid_step {m : List (List Int)} {lid : List Int} {k : Int} {nx ny x y : Nat} (hx : x < nx) (hy : y < ny) :
    ((tab (nx + ny) (lidP m lid k nx x y)).set x (((tab (nx + ny) (lidP m lid k nx x y)).getD x []).set (nx + y) (lidV m k x y))).set (nx + y)
      ((((tab (nx + ny) (lidP m lid k nx x y)).set x (((tab (nx + ny) (lidP m lid k nx x y)).getD x []).set (nx + y) (lidV m k x y))).getD (nx + y) []).set x (lidV m k x y)) = tab (nx + ny) (lidP m lid k nx x (y + 1)) := by
  rw [tab_set (by omega), tab_set (by omega)]
  refine tab_congr fun a b ha hb => ?_
  by_cases h1 : a = nx + y ∧ b = x
  · rw [if_pos h1]
    obtain ⟨rfl, rfl⟩ := h1
    unfold lidP
    rw [if_neg (by omega), if_neg (by omega), if_pos (by omega), if_pos (.inr ⟨rfl, by omega⟩)]
    congr 1; omega
  · rw [if_neg h1]
    by_cases h2 : a = x ∧ b = nx + y
    · rw [if_pos h2]
      obtain ⟨rfl, rfl⟩ := h2
      unfold lidP
      rw [if_neg (by omega), if_pos (by omega), if_pos (.inr ⟨rfl, by omega⟩)]
      congr 1; omega
    · rw [if_neg h2]
      unfold lidP
      split
      · rfl
      · split
        · rename_i h3 h4
          have : (a < x ∨ (a = x ∧ b - nx < y)) ↔ (a < x ∨ (a = x ∧ b - nx < y + 1)) := by omega
          simp only [this]
        · split
          · rename_i h3 h4 h5
            have : (b < x ∨ (b = x ∧ a - nx < y)) ↔ (b < x ∨ (b = x ∧ a - nx < y + 1)) := by omega
            simp only [this]
          · rfl
theorem lid_next {m : List (List Int)} {lid : List Int} {k : Int} {nx ny x : Nat} : tab (nx + ny) (lidP m lid k nx x ny) = tab (nx + ny) (lidP m lid k nx (x + 1) 0) := by
  refine tab_congr fun a b ha hb => ?_
  unfold lidP
  split
  · rfl
  · split
    · have : (a < x ∨ (a = x ∧ b - nx < ny)) ↔ (a < x + 1 ∨ (a = x + 1 ∧ b - nx < 0)) := by omega
      simp only [this]
    · split
      · have : (b < x ∨ (b = x ∧ a - nx < ny)) ↔ (b < x + 1 ∨ (b = x + 1 ∧ a - nx < 0)) := by omega
        simp only [this]
      · rfl
def lidM (m : List (List Int)) (lid : List Int) (k : Int) : List (List Int) := tab (m.length + (m.getD 0 []).length) (lidP m lid k m.length m.length 0)
end Go.Aw
namespace Go.Proofs.Ytkjdplglenjijaa
open Go.Aw
set_option maxRecDepth 100000
set_option maxHeartbeats 4000000

def lidB (m : List (List Int)) (lid : List Int) (k : Int) : Bool := rowIn lid 0 99 && decide (lid.length = m.length + (m.getD 0 []).length) && neverA (lidM m lid k)
theorem l5Matrix_spec (m : List (List Int)) (lid : List Int) (k : Int) (hg : goodM m = true) (hl : lid.length = m.length + (m.getD 0 []).length) :
    FSpec Try.prog 45 [.t (.rows m), .t (.ints .i64 lid), .c (.int .i64 (k))] (ex (.own 0) [(0, .rows 25 3 true (lidM m lid k))]) := by
  obtain ⟨g1, g2, g3, g4, g5⟩ := goodM_spec hg
  obtain ⟨N, hN⟩ : ∃ N, N = m.length + (m.getD 0 []).length := ⟨_, rfl⟩
  have hl' : lid.length = N := by omega
  have row0 := fun i => lid_row0 m lid k m.length N i
  refine fspec tyOk mx Try.func45 rfl (by kernel_rfl) rfl ?_
  conv => whnf
  refine aloopI tyOk mx (fun i : Nat => (⟨87, [(0, .t (.rows m)), (1, .t (.ints .i64 lid)), (2, .c (.int .i64 (k))), (7, .own 0), (8, .c (.int .i64 (i)))], [(0, .rows 25 3 true ((List.range i).map fun a => (List.range N).map fun b => lidP m lid k m.length 0 0 a b))], 1⟩ : St)) (fun i => i ≤ N) (fun i => N - i) 0 (Nat.zero_le _) none (by refine ⟨rfl, rfl, ?_, ?_⟩ <;> ((repeat' (first | exact trivial | exact rfl | refine And.intro ?_ ?_)) <;> (try ((conv => whnf); first | refine vint ?_ | refine vboo ?_ | refine rint ?_ | refine rrow ?_ | skip)) <;> (try first | omega | (simp; done) | ((repeat rw [flts_closed _ (by assumption)]); exact vws_closed _ (by assumption))))) (fun i hi => ?_)
  refine ⟨fun h => ?_, fun h => ?_⟩
  · have h : i < N := by have := ltT h; omega
    conv => whnf
    refine ⟨N, by rw [hl'], by rw [hl'], by simp only [room]; omega, ?_⟩
    conv => whnf
    refine ⟨i, rfl, by omega, ?_⟩
    conv => whnf
    refine ⟨i, rfl, by rw [List.length_replicate]; exact h, ?_⟩
    conv => whnf
    refine ⟨by simp [room]; omega, ?_⟩
    conv => whnf
    rw [nat_wrap (by omega)]
    refine ⟨i + 1, none, ?_, by omega, by omega⟩
    (refine ⟨rfl, rfl, ?_, ?_⟩ <;> ((repeat' (first | exact trivial | exact rfl | refine And.intro ?_ ?_)) <;> (try ((conv => whnf); first | refine vint ?_ | refine vboo ?_ | refine rint ?_ | refine rrow ?_ | skip)) <;> (try first | omega | (simp; done) | ((repeat rw [flts_closed _ (by assumption)]); exact vws_closed _ (by assumption)))))
    rw [row0 i]
    exact map_range_succ (fun a => (List.range N).map fun b => lidP m lid k m.length 0 0 a b) i
  · have h : ¬ i < N := by have := ltF h; omega
    obtain rfl : i = N := by omega
    have e0 : ((List.range i).map fun a => (List.range i).map fun b => lidP m lid k m.length 0 0 a b) = tab i (lidP m lid k m.length 0 0) := rfl
    rw [e0]
    clear e0 row0
    subst hN
    conv => whnf
    refine aloopI tyOk mx (fun x : Nat => (⟨87, [(0, .t (.rows m)), (2, .c (.int .i64 (k))), (7, .own 0), (10, .c (.int .i64 (x)))], [(0, .rows 25 3 true (tab (m.length + (m.getD 0 []).length) (lidP m lid k m.length x 0)))], 1⟩ : St)) (fun x => x ≤ m.length) (fun x => m.length - x) 0 (Nat.zero_le _) none (by refine ⟨rfl, rfl, ?_, ?_⟩ <;> ((repeat' (first | exact trivial | exact rfl | refine And.intro ?_ ?_)) <;> (try ((conv => whnf); first | refine vint ?_ | refine vboo ?_ | refine rint ?_ | refine rrow ?_ | skip)) <;> (try first | omega | (simp; done) | ((repeat rw [flts_closed _ (by assumption)]); exact vws_closed _ (by assumption))))) (fun x hx => ?_)
    refine ⟨fun h => ?_, fun h => ?_⟩
    · have h : x < m.length := by have := ltT h; omega
      have hxl := (g5 _ (getD_mem (d := []) h)).1
      conv => whnf
      refine aloopI tyOk mx (fun y : Nat => (⟨87, [(0, .t (.rows m)), (2, .c (.int .i64 (k))), (7, .own 0), (10, .c (.int .i64 (x))), (11, .c (.int .i64 (y)))], [(0, .rows 25 3 true (tab (m.length + (m.getD 0 []).length) (lidP m lid k m.length x y)))], 1⟩ : St)) (fun y => y ≤ (m.getD 0 []).length) (fun y => (m.getD 0 []).length - y) 0 (Nat.zero_le _) none (by refine ⟨rfl, rfl, ?_, ?_⟩ <;> ((repeat' (first | exact trivial | exact rfl | refine And.intro ?_ ?_)) <;> (try ((conv => whnf); first | refine vint ?_ | refine vboo ?_ | refine rint ?_ | refine rrow ?_ | skip)) <;> (try first | omega | (simp; done) | ((repeat rw [flts_closed _ (by assumption)]); exact vws_closed _ (by assumption))))) (fun y hy => ?_)
      have tl := tab_len (m.length + (m.getD 0 []).length) (lidP m lid k m.length x y)
      refine ⟨x, rfl, h, ?_⟩
      conv => whnf
      refine ⟨fun h2 => ?_, fun h2 => ?_⟩
      · have h2 : y < (m.getD 0 []).length := by have := ltT h2; omega
        have eI : IntKind.i64.wrap ((m.length : Int) + (y : Int)) = ((m.length + y : Nat) : Int) := by rw [w64 (by omega) (by omega)]; omega
        conv => whnf
        refine ADraw.plan tyOk mx (.q 0 (.q 1 (.q 2 (.q 3 (.q 4 (.q 5 (.q 6 (.q 7 (.q 8 (.q 9 (.q 10 (.q 11 (.q 12 (.q 13 (.q 14 (.q 15 (.q 16 (.q 17 (.q 18 (.last 19 (.done)))))))))))))))))))) : Plan) (by kernel_rfl) ?_
        conv => whnf
        have tr : ∀ i : Nat, i < m.length + (m.getD 0 []).length → ((tab (m.length + (m.getD 0 []).length) (lidP m lid k m.length x y)).getD i []).length = m.length + (m.getD 0 []).length := fun i h => tab_rows _ (getD_mem (d := []) (by omega))
        have t1 := tr x (by omega)
        have t2 := tr (m.length + y) (by omega)
        have hs : ∀ z, ((tab (m.length + (m.getD 0 []).length) (lidP m lid k m.length x y)).set x z).getD (m.length + y) [] = (tab (m.length + (m.getD 0 []).length) (lidP m lid k m.length x y)).getD (m.length + y) [] := fun z => by
          simp only [List.getD]; rw [List.getElem?_set_ne (by omega)]
        repeat' (first | (refine ⟨x, rfl, by omega, ?_⟩; conv => whnf) | (refine ⟨y, rfl, by omega, ?_⟩; conv => whnf) | (refine ⟨m.length + y, eI, by omega, ?_⟩; conv => whnf) | (refine And.intro ?_ ?_ <;> (conv => whnf)))
        all_goals
          refine ADraw.plan tyOk mx (.q 0 (.q 1 (.q 2 (.q 3 (.q 4 (.q 5 (.q 6 (.q 7 (.q 8 (.q 9 (.q 10 (.q 11 (.q 12 (.q 13 (.q 14 (.q 15 (.q 16 (.q 17 (.q 18 (.last 19 (.done)))))))))))))))))))) : Plan) (by kernel_rfl) ?_
          conv => whnf
          repeat' (first | (refine ⟨x, rfl, by omega, ?_⟩; conv => whnf) | (refine ⟨y, rfl, by omega, ?_⟩; conv => whnf) | (refine ⟨m.length + y, eI, by simp only [List.length_set]; omega, ?_⟩; conv => whnf) | (refine ⟨x, rfl, by simp only [hs]; omega, ?_⟩; conv => whnf) | (refine And.intro ?_ ?_ <;> (conv => whnf)))
        all_goals
          rw [nat_wrap (by omega)]
          refine ⟨y + 1, none, ?_, by omega, by omega⟩
          (refine ⟨rfl, rfl, ?_, ?_⟩ <;> ((repeat' (first | exact trivial | exact rfl | refine And.intro ?_ ?_)) <;> (try ((conv => whnf); first | refine vint ?_ | refine vboo ?_ | refine rint ?_ | refine rrow ?_ | skip)) <;> (try first | omega | (simp; done) | ((repeat rw [flts_closed _ (by assumption)]); exact vws_closed _ (by assumption)))))
          exact lid_step h h2
      · have h2 : ¬ y < (m.getD 0 []).length := by have := ltF h2; omega
        obtain rfl : y = (m.getD 0 []).length := by omega
        conv => whnf
        rw [nat_wrap (by omega)]
        refine ⟨x + 1, none, ?_, by omega, by omega⟩
        (refine ⟨rfl, rfl, ?_, ?_⟩ <;> ((repeat' (first | exact trivial | exact rfl | refine And.intro ?_ ?_)) <;> (try ((conv => whnf); first | refine vint ?_ | refine vboo ?_ | refine rint ?_ | refine rrow ?_ | skip)) <;> (try first | omega | (simp; done) | ((repeat rw [flts_closed _ (by assumption)]); exact vws_closed _ (by assumption)))))
        exact lid_next
    · have h : ¬ x < m.length := by have := ltF h; omega
      obtain rfl : x = m.length := by omega
      conv => whnf
      exact ⟨rfl, rfl⟩
end Go.Proofs.Ytkjdplglenjijaa
/- Lids: reference and program. -/
namespace Go.Aw
def rowQ (m : List (List Int)) (lid : List Int) (k : Int) (nx i j b : Nat) : Int := if b = i then lid.getD i 0 else if b < j then lidP m lid k nx nx 0 i b else 0
theorem rowQ_zero (m : List (List Int)) (lid : List Int) (k : Int) (nx N i : Nat) : (List.replicate N (0 : Int)).set i (lid.getD i 0) = (List.range N).map (rowQ m lid k nx i 0) := by
  have e : List.replicate N (0 : Int) = (List.range N).map fun _ => 0 := by
    refine List.ext_getElem (by simp) fun i h1 h2 => by simp
  rw [e, map_set]
  refine List.map_congr_left fun b _ => ?_
  unfold rowQ
  by_cases h : b = i
  · rw [if_pos h, if_pos h]
  · rw [if_neg h, if_neg h, if_neg (by omega)]
theorem rowQ_end {m : List (List Int)} {lid : List Int} {k : Int} {nx N i : Nat} : (List.range N).map (rowQ m lid k nx i N) = (List.range N).map fun b => lidP m lid k nx nx 0 i b := by
  refine List.map_congr_left fun b hb => ?_
  have hb : b < N := by simpa using hb
  unfold rowQ
  by_cases h : b = i
  · subst h; rw [if_pos rfl, lidP, if_pos rfl]
  · rw [if_neg h, if_pos hb]
theorem rowQ_one {m : List (List Int)} {lid : List Int} {k : Int} {nx N i j : Nat} (h1 : i < nx) (h2 : nx ≤ j) : ((List.range N).map (rowQ m lid k nx i j)).set j (lidV m k i (j - nx)) = (List.range N).map (rowQ m lid k nx i (j + 1)) := by
  rw [map_set]
  refine List.map_congr_left fun b _ => ?_
  unfold rowQ
  by_cases h : b = j
  · subst h
    rw [if_pos rfl, if_neg (by omega), if_pos (by omega), lidP, if_neg (by omega), if_pos ⟨h1, h2⟩, if_pos (.inl h1)]
  · rw [if_neg h]
    split
    · rfl
    · have : b < j ↔ b < j + 1 := by omega
      simp only [this]
theorem rowQ_two {m : List (List Int)} {lid : List Int} {k : Int} {nx N i j : Nat} (h1 : nx ≤ i) (h2 : j < nx) : ((List.range N).map (rowQ m lid k nx i j)).set j (lidV m k j (i - nx)) = (List.range N).map (rowQ m lid k nx i (j + 1)) := by
  rw [map_set]
  refine List.map_congr_left fun b _ => ?_
  unfold rowQ
  by_cases h : b = j
  · subst h
    rw [if_pos rfl, if_neg (by omega), if_pos (by omega), lidP, if_neg (by omega), if_neg (by omega), if_pos ⟨h1, h2⟩, if_pos (.inl h2)]
  · rw [if_neg h]
    split
    · rfl
    · have : b < j ↔ b < j + 1 := by omega
      simp only [this]
theorem rowQ_no {m : List (List Int)} {lid : List Int} {k : Int} {nx N i j : Nat} (h1 : ¬ (i < nx ∧ nx ≤ j)) (h2 : ¬ (nx ≤ i ∧ j < nx)) : (List.range N).map (rowQ m lid k nx i j) = (List.range N).map (rowQ m lid k nx i (j + 1)) := by
  refine List.map_congr_left fun b _ => ?_
  unfold rowQ
  split
  · rfl
  · rename_i hb
    by_cases h : b = j
    · subst h
      rw [if_neg (by omega), if_pos (by omega), lidP, if_neg (fun e => hb e.symm), if_neg h1, if_neg h2]
    · have : b < j ↔ b < j + 1 := by omega
      simp only [this]
end Go.Aw
namespace Go.Proofs.Ytkjdplglenjijaa
open Go.Aw
set_option maxRecDepth 100000
set_option maxHeartbeats 4000000

theorem lidM_sq {m : List (List Int)} {lid : List Int} {k : Int} (hg : goodM m = true) : Sq (lidM m lid k) ∧ (lidM m lid k).length ≤ 6 := by
  obtain ⟨g1, g2, g3, g4, g5⟩ := goodM_spec hg
  exact ⟨tab_sq (by omega), by rw [lidM, tab_len]; omega⟩

theorem l5Lid_spec (m : List (List Int)) (lid : List Int) (k : Int) (hg : goodM m = true) (kl : lid.length ≤ 1048576) :
    FSpec Try.prog 32 [.t (.rows m), .t (.ints .i64 lid), .c (.int .i64 (k))] (ex (.c (.bool (lidB m lid k))) []) := by
  obtain ⟨g1, g2, g3, g4, g5⟩ := goodM_spec hg
  obtain ⟨hsq, hn⟩ := lidM_sq (lid := lid) (k := k) hg
  have eN : IntKind.i64.wrap ((m.length : Int) + ((m.getD 0 []).length : Int)) = ((m.length + (m.getD 0 []).length : Nat) : Int) := by rw [w64 (by omega) (by omega)]; omega
  refine fspec tyOk mx Try.func32 rfl (by kernel_rfl) rfl ?_
  conv => whnf
  refine aloopI tyOk mx (fun i : Nat => (⟨37, [(0, .t (.rows m)), (1, .t (.ints .i64 lid)), (2, .c (.int .i64 (k))), (7, .c (.int .i64 (i)))], [], 0⟩ : St)) (fun i => i ≤ lid.length ∧ (lid.take i).all (fun x => inR x 0 99) = true) (fun i => lid.length - i) 0 ⟨Nat.zero_le _, rfl⟩ none (by refine ⟨rfl, rfl, ?_, ?_⟩ <;> ((repeat' (first | exact trivial | exact rfl | refine And.intro ?_ ?_)) <;> (try ((conv => whnf); first | refine vint ?_ | refine vboo ?_ | refine rint ?_ | refine rrow ?_ | skip)) <;> (try first | omega | (simp; done) | ((repeat rw [flts_closed _ (by assumption)]); exact vws_closed _ (by assumption))))) (fun i hi => ?_)
  obtain ⟨hi, hp⟩ := hi
  refine ⟨fun h => ?_, fun h => ?_⟩
  · have h : i < lid.length := by have := ltT h; omega
    conv => whnf
    refine ⟨i, rfl, h, ?_⟩
    conv => whnf
    refine ACall.use (l1In_spec _ _ _) ?_
    conv => whnf
    refine ⟨fun h2 => ?_, fun h2 => ?_⟩
    · have h2 : inR (lid.getD i 0) 0 99 = false := by simpa using h2
      conv => whnf
      refine ⟨?_, rfl⟩
      rw [lidB, rowIn, all_false (d := 0) h h2, Bool.false_and, Bool.false_and]
    · have h2 : inR (lid.getD i 0) 0 99 = true := by simpa using h2
      conv => whnf
      rw [nat_wrap (by omega)]
      exact ⟨i + 1, none, (by refine ⟨rfl, rfl, ?_, ?_⟩ <;> ((repeat' (first | exact trivial | exact rfl | refine And.intro ?_ ?_)) <;> (try ((conv => whnf); first | refine vint ?_ | refine vboo ?_ | refine rint ?_ | refine rrow ?_ | skip)) <;> (try first | omega | (simp; done) | ((repeat rw [flts_closed _ (by assumption)]); exact vws_closed _ (by assumption))))), ⟨by omega, all_take_succ (d := 0) h hp h2⟩, by omega⟩
  · have h : ¬ i < lid.length := by have := ltF h; omega
    have hall : rowIn lid 0 99 = true := all_end h hp
    conv => whnf
    refine ⟨0, rfl, by omega, ?_⟩
    conv => whnf
    rw [eN]
    refine ⟨fun h2 => ?_, fun h2 => ?_⟩
    · have h2 : lid.length = m.length + (m.getD 0 []).length := by
        have : (lid.length : Int) = ((m.length + (m.getD 0 []).length : Nat) : Int) := by simpa using h2
        omega
      conv => whnf
      refine ACall.use (l5Matrix_spec m lid k hg h2) ?_
      conv => whnf
      refine ACall.use (l5Never_spec (lidM m lid k) hsq hn) ?_
      conv => whnf
      refine ⟨?_, rfl⟩
      rw [lidB, hall, decide_eq_true h2]; rfl
    · have h2 : ¬ lid.length = m.length + (m.getD 0 []).length := fun e => by rw [e] at h2; simp at h2
      conv => whnf
      refine ⟨?_, rfl⟩
      rw [lidB, decide_eq_false h2, Bool.and_false, Bool.false_and]

theorem isLid_spec (m : List (List Int)) (lid : List Int) (k : Int) (hg : goodM m = true) (kl : lid.length ≤ 1048576) :
    FSpec Try.prog 29 [.t (.rows m), .t (.ints .i64 lid), .c (.int .i64 (k))] (ex (.c (.bool (lidB m lid k))) []) := by
  obtain ⟨g1, g2, g3, g4, g5⟩ := goodM_spec hg
  obtain ⟨hsq, hn⟩ := lidM_sq (lid := lid) (k := k) hg
  have eN : IntKind.i64.wrap ((m.length : Int) + ((m.getD 0 []).length : Int)) = ((m.length + (m.getD 0 []).length : Nat) : Int) := by rw [w64 (by omega) (by omega)]; omega
  refine fspec tyOk mx Try.func29 rfl (by kernel_rfl) rfl ?_
  conv => whnf
  refine ADraw.std tyOk mx ⟨by kernel_rfl, 0, rfl, by omega, ?_⟩
  conv => whnf
  rw [eN]
  refine ⟨fun h2 => ?_, fun h2 => ?_⟩
  · have h2 : lid.length = m.length + (m.getD 0 []).length := neF h2
    conv => whnf
    refine ACall.use (allWithin_spec lid _ _ (by omega)) ?_
    conv => whnf
    refine ⟨fun h3 => ?_, fun h3 => ?_⟩
    · have h3 : rowIn lid 0 99 = false := by simpa using h3
      conv => whnf
      refine ⟨?_, rfl⟩
      rw [lidB, h3, Bool.false_and, Bool.false_and]
    · have h3 : rowIn lid 0 99 = true := by simpa using h3
      conv => whnf
      refine aloopI tyOk mx (fun i : Nat => (⟨109, [(0, .t (.rows m)), (2, .c (.int .i64 (k))), (7, .c (.int .i64 (m.length))), (8, .c (.int .i64 ((m.getD 0 []).length))), (9, .own 0), (32, .t (.ints .i64 lid)), (33, .c (.int .i64 (lid.length))), (34, .c (.int .i64 (i)))], [(0, .rows 25 3 true ((List.range i).map fun a => (List.range (m.length + (m.getD 0 []).length)).map fun b => lidP m lid k m.length m.length 0 a b))], 1⟩ : St)) (fun i => i ≤ lid.length) (fun i => lid.length - i) 0 (Nat.zero_le _) none (by refine ⟨rfl, rfl, ?_, ?_⟩ <;> ((repeat' (first | exact trivial | exact rfl | refine And.intro ?_ ?_)) <;> (try ((conv => whnf); first | refine vint ?_ | refine vboo ?_ | refine rint ?_ | refine rrow ?_ | skip)) <;> (try first | omega | (simp; done) | ((repeat rw [flts_closed _ (by assumption)]); exact vws_closed _ (by assumption))))) (fun i hi => ?_)
      refine ⟨fun h => ?_, fun h => ?_⟩
      · have h : i < lid.length := by have := ltT h; omega
        conv => whnf
        refine ⟨i, rfl, h, ?_⟩
        conv => whnf
        refine ⟨m.length + (m.getD 0 []).length, eN, eN, by simp only [room]; omega, ?_⟩
        conv => whnf
        refine ⟨i, rfl, by rw [List.length_replicate]; omega, ?_⟩
        conv => whnf
        rw [rowQ_zero m lid k m.length, eN]
        refine aloopI tyOk mx (fun j : Nat => (⟨109, [(0, .t (.rows m)), (2, .c (.int .i64 (k))), (7, .c (.int .i64 (m.length))), (8, .c (.int .i64 ((m.getD 0 []).length))), (9, .own 0), (10, .c (.int .i64 (i))), (12, .own 1), (32, .t (.ints .i64 lid)), (33, .c (.int .i64 (lid.length))), (34, .c (.int .i64 (i))), (49, .c (.int .i64 ((m.length + (m.getD 0 []).length : Nat)))), (50, .c (.int .i64 (j)))], [(0, .rows 25 3 true ((List.range i).map fun a => (List.range (m.length + (m.getD 0 []).length)).map fun b => lidP m lid k m.length m.length 0 a b)), (1, .ints 3 .i64 ((List.range (m.length + (m.getD 0 []).length)).map (rowQ m lid k m.length i j)))], 2⟩ : St)) (fun j => j ≤ m.length + (m.getD 0 []).length) (fun j => m.length + (m.getD 0 []).length - j) 0 (Nat.zero_le _) none (by refine ⟨rfl, rfl, ?_, ?_⟩ <;> ((repeat' (first | exact trivial | exact rfl | refine And.intro ?_ ?_)) <;> (try ((conv => whnf); first | refine vint ?_ | refine vboo ?_ | refine rint ?_ | refine rrow ?_ | skip)) <;> (try first | omega | (simp; done) | ((repeat rw [flts_closed _ (by assumption)]); exact vws_closed _ (by assumption))))) (fun j hj => ?_)
        have hrl : ((List.range (m.length + (m.getD 0 []).length)).map (rowQ m lid k m.length i j)).length = m.length + (m.getD 0 []).length := by simp
        refine ⟨fun h5 => ?_, fun h5 => ?_⟩
        · have h5 : j < m.length + (m.getD 0 []).length := by have := ltT h5; omega
          conv => whnf
          refine ⟨fun h6 => ?_, fun h6 => ?_⟩
          · have h6 : i < m.length := by have := ltT h6; omega
            have hil := (g5 _ (getD_mem (d := []) h6)).1
            conv => whnf
            refine ⟨fun h7 => ?_, fun h7 => ?_⟩
            · have h7 : m.length ≤ j := by have := of_decide_eq_true h7; omega
              have e5 : IntKind.i64.wrap ((j : Int) - (m.length : Int)) = ((j - m.length : Nat) : Int) := by rw [w64 (by omega) (by omega)]; omega
              conv => whnf
              refine ⟨i, rfl, h6, ?_⟩
              conv => whnf
              refine ⟨j - m.length, e5, by omega, ?_⟩
              conv => whnf
              refine ⟨j, rfl, by omega, ?_⟩
              conv => whnf
              rw [nat_wrap (by omega)]
              refine ⟨j + 1, none, ?_, by omega, by omega⟩
              (refine ⟨rfl, rfl, ?_, ?_⟩ <;> ((repeat' (first | exact trivial | exact rfl | refine And.intro ?_ ?_)) <;> (try ((conv => whnf); first | refine vint ?_ | refine vboo ?_ | refine rint ?_ | refine rrow ?_ | skip)) <;> (try first | omega | (simp; done) | ((repeat rw [flts_closed _ (by assumption)]); exact vws_closed _ (by assumption)))))
              exact rowQ_one h6 h7
            · have h7 : ¬ m.length ≤ j := by have := of_decide_eq_false h7; omega
              conv => whnf
              refine ⟨fun h8 => ?_, fun h8 => ?_⟩
              · exfalso; have := of_decide_eq_true h8; omega
              · conv => whnf
                (repeat (conv => whnf); (first | refine ⟨fun h => absurd h (by decide), fun _ => ?_⟩ | refine ⟨fun _ => ?_, fun h => absurd h (by decide)⟩)); conv => whnf
                rw [nat_wrap (by omega)]
                refine ⟨j + 1, none, ?_, by omega, by omega⟩
                (refine ⟨rfl, rfl, ?_, ?_⟩ <;> ((repeat' (first | exact trivial | exact rfl | refine And.intro ?_ ?_)) <;> (try ((conv => whnf); first | refine vint ?_ | refine vboo ?_ | refine rint ?_ | refine rrow ?_ | skip)) <;> (try first | omega | (simp; done) | ((repeat rw [flts_closed _ (by assumption)]); exact vws_closed _ (by assumption)))))
                exact rowQ_no (by omega) (by omega)
          · have h6 : ¬ i < m.length := by have := ltF h6; omega
            conv => whnf
            (repeat (conv => whnf); (first | refine ⟨fun h => absurd h (by decide), fun _ => ?_⟩ | refine ⟨fun _ => ?_, fun h => absurd h (by decide)⟩)); conv => whnf
            refine ⟨fun h8 => ?_, fun h8 => ?_⟩
            · have h8 : m.length ≤ i := by have := of_decide_eq_true h8; omega
              conv => whnf
              refine ⟨fun h7 => ?_, fun h7 => ?_⟩
              · have h7 : j < m.length := by have := ltT h7; omega
                have hil := (g5 _ (getD_mem (d := []) h7)).1
                have e5 : IntKind.i64.wrap ((i : Int) - (m.length : Int)) = ((i - m.length : Nat) : Int) := by rw [w64 (by omega) (by omega)]; omega
                conv => whnf
                refine ⟨j, rfl, h7, ?_⟩
                conv => whnf
                refine ⟨i - m.length, e5, by omega, ?_⟩
                conv => whnf
                refine ⟨j, rfl, by omega, ?_⟩
                conv => whnf
                rw [nat_wrap (by omega)]
                refine ⟨j + 1, none, ?_, by omega, by omega⟩
                (refine ⟨rfl, rfl, ?_, ?_⟩ <;> ((repeat' (first | exact trivial | exact rfl | refine And.intro ?_ ?_)) <;> (try ((conv => whnf); first | refine vint ?_ | refine vboo ?_ | refine rint ?_ | refine rrow ?_ | skip)) <;> (try first | omega | (simp; done) | ((repeat rw [flts_closed _ (by assumption)]); exact vws_closed _ (by assumption)))))
                exact rowQ_two h8 h7
              · have h7 : ¬ j < m.length := by have := ltF h7; omega
                conv => whnf
                rw [nat_wrap (by omega)]
                refine ⟨j + 1, none, ?_, by omega, by omega⟩
                (refine ⟨rfl, rfl, ?_, ?_⟩ <;> ((repeat' (first | exact trivial | exact rfl | refine And.intro ?_ ?_)) <;> (try ((conv => whnf); first | refine vint ?_ | refine vboo ?_ | refine rint ?_ | refine rrow ?_ | skip)) <;> (try first | omega | (simp; done) | ((repeat rw [flts_closed _ (by assumption)]); exact vws_closed _ (by assumption)))))
                exact rowQ_no (by omega) (by omega)
            · exfalso; have := of_decide_eq_false h8; omega
        · have h5 : ¬ j < m.length + (m.getD 0 []).length := by have := ltF h5; omega
          obtain rfl : j = m.length + (m.getD 0 []).length := by omega
          conv => whnf
          refine ⟨by simp [room]; omega, ?_⟩
          conv => whnf
          rw [nat_wrap (by omega)]
          refine ⟨i + 1, none, ?_, by omega, by omega⟩
          (refine ⟨rfl, rfl, ?_, ?_⟩ <;> ((repeat' (first | exact trivial | exact rfl | refine And.intro ?_ ?_)) <;> (try ((conv => whnf); first | refine vint ?_ | refine vboo ?_ | refine rint ?_ | refine rrow ?_ | skip)) <;> (try first | omega | (simp; done) | ((repeat rw [flts_closed _ (by assumption)]); exact vws_closed _ (by assumption)))))
          rw [rowQ_end]
          exact map_range_succ (fun a => (List.range (m.length + (m.getD 0 []).length)).map fun b => lidP m lid k m.length m.length 0 a b) i
      · have h : ¬ i < lid.length := by have := ltF h; omega
        obtain rfl : i = lid.length := by omega
        have e0 : ((List.range lid.length).map fun a => (List.range (m.length + (m.getD 0 []).length)).map fun b => lidP m lid k m.length m.length 0 a b) = lidM m lid k := by rw [h2]; rfl
        rw [e0]
        conv => whnf
        refine ACall.use (neverNegative_spec (lidM m lid k) hsq hn) ?_
        conv => whnf
        refine ⟨?_, rfl⟩
        rw [lidB, h3, decide_eq_true h2]; rfl
  · have h2 : ¬ lid.length = m.length + (m.getD 0 []).length := neT h2
    conv => whnf
    (repeat (conv => whnf); (first | refine ⟨fun h => absurd h (by decide), fun _ => ?_⟩ | refine ⟨fun _ => ?_, fun h => absurd h (by decide)⟩)); conv => whnf
    refine ⟨?_, rfl⟩
    rw [lidB, decide_eq_false h2, Bool.and_false, Bool.false_and]
end Go.Proofs.Ytkjdplglenjijaa
/- IsLid and EvenLid, reference and program. -/
namespace Go.Aw
theorem find_some {p : Nat → Bool} {n d : Nat} (hd : d < n) (hp : p d = true) (h : (List.range d).all (fun e => !p e) = true) : (List.range n).find? p = some d := by
  rw [List.find?_range_eq_some]
  refine ⟨hp, by simpa using hd, fun j hj => ?_⟩
  have := List.all_eq_true.1 h j (by simpa using hj)
  simpa using this
theorem find_none {p : Nat → Bool} {n : Nat} (h : (List.range n).all (fun e => !p e) = true) : (List.range n).find? p = none := by
  rw [List.find?_eq_none]
  intro x hx
  have := List.all_eq_true.1 h x hx
  simpa using this
end Go.Aw
namespace Go.Proofs.Ytkjdplglenjijaa
open Go.Aw
set_option maxRecDepth 100000
set_option maxHeartbeats 4000000

def ldOk (m : List (List Int)) (k : Int) : Bool := goodM m && inR k 1 5
def ldIs (m : List (List Int)) (lid : List Int) (k : Int) : Bool := ldOk m k && lidB m lid k

theorem IsLid_s (m : List (List Int)) (hm : OkM m) (_km : SzM m) (lid : List Int) (_hl : OkI lid) (kl : SzI lid) (k : Int) (_hk : InR k) :
    FSpec Try.prog 7 [.t (.rows m), .t (.ints .i64 lid), .c (.int .i64 (k))] (ex (.tu [.c (.bool (ldIs m lid k)), .c (.bool (ldOk m k))]) []) := by
  refine fspec tyOk mx Try.func7 rfl (by kernel_rfl) rfl ?_
  conv => whnf
  refine ACall.use (l5Good_spec m hm.1 hm.len) ?_
  conv => whnf
  refine ⟨fun h => ?_, fun h => ?_⟩
  · have hg : goodM m = true := by simpa using h
    conv => whnf
    refine ACall.use (l1In_spec _ _ _) ?_
    conv => whnf
    refine ⟨fun h2 => ?_, fun h2 => ?_⟩
    · have h2 : inR k 1 5 = false := by simpa using h2
      have e : ldOk m k = false := by rw [ldOk, h2, Bool.and_false]
      conv => whnf
      exact ⟨by rw [ldIs, e]; rfl, rfl⟩
    · have h2 : inR k 1 5 = true := by simpa using h2
      have e : ldOk m k = true := by rw [ldOk, hg, h2]; rfl
      conv => whnf
      refine ACall.use (l5Lid_spec m lid k hg kl) ?_
      conv => whnf
      exact ⟨by rw [ldIs, e, Bool.true_and], rfl⟩
  · have hg : goodM m = false := by simpa using h
    have e : ldOk m k = false := by rw [ldOk, hg]; rfl
    conv => whnf
    (repeat (conv => whnf); (first | refine ⟨fun h => absurd h (by decide), fun _ => ?_⟩ | refine ⟨fun _ => ?_, fun h => absurd h (by decide)⟩)); conv => whnf
    exact ⟨by rw [ldIs, e]; rfl, rfl⟩

theorem IsLid_i (m : List (List Int)) (hm : OkM m) (_km : SzM m) (lid : List Int) (_hl : OkI lid) (kl : SzI lid) (k : Int) (_hk : InR k) :
    FSpec Try.prog 6 [.t (.rows m), .t (.ints .i64 lid), .c (.int .i64 (k))] (ex (.tu [.c (.bool (ldIs m lid k)), .c (.bool (ldOk m k))]) []) := by
  refine fspec tyOk mx Try.func6 rfl (by kernel_rfl) rfl ?_
  conv => whnf
  refine ACall.use (iIsSignGame_spec m hm.1 hm.len) ?_
  conv => whnf
  refine ⟨fun h => ?_, fun h => ?_⟩
  · have hg : goodM m = true := by simpa using h
    conv => whnf
    refine ACall.use (within_spec _ _ _) ?_
    conv => whnf
    refine ⟨fun h2 => ?_, fun h2 => ?_⟩
    · have h2 : inR k 1 5 = false := by simpa using h2
      have e : ldOk m k = false := by rw [ldOk, h2, Bool.and_false]
      conv => whnf
      exact ⟨by rw [ldIs, e]; rfl, rfl⟩
    · have h2 : inR k 1 5 = true := by simpa using h2
      have e : ldOk m k = true := by rw [ldOk, hg, h2]; rfl
      conv => whnf
      refine ACall.use (isLid_spec m lid k hg kl) ?_
      conv => whnf
      exact ⟨by rw [ldIs, e, Bool.true_and], rfl⟩
  · have hg : goodM m = false := by simpa using h
    have e : ldOk m k = false := by rw [ldOk, hg]; rfl
    conv => whnf
    (repeat (conv => whnf); (first | refine ⟨fun h => absurd h (by decide), fun _ => ?_⟩ | refine ⟨fun _ => ?_, fun h => absurd h (by decide)⟩)); conv => whnf
    exact ⟨by rw [ldIs, e]; rfl, rfl⟩

def evAt (m : List (List Int)) (k : Int) (d : Nat) : Bool := lidB m (List.replicate (m.length + (m.getD 0 []).length) (d : Int)) k
def evD (m : List (List Int)) (k : Int) : Option Nat := (List.range 100).find? (evAt m k)
def evOk (m : List (List Int)) (k : Int) : Bool := ldOk m k && (evD m k).isSome
def evR (m : List (List Int)) (k : Int) : List Int := List.replicate (m.length + (m.getD 0 []).length) (((evD m k).getD 0 : Nat) : Int)
def evL (m : List (List Int)) (k : Int) : List Int := if evOk m k then evR m k else []

theorem EvenLid_s (m : List (List Int)) (hm : OkM m) (_km : SzM m) (k : Int) (_hk : InR k) :
    FSpec Try.prog 9 [.t (.rows m), .c (.int .i64 (k))] (ex (.tu [.own 0, .c (.bool (evOk m k))]) [(0, .ints 3 .i64 (evL m k))]) := by
  refine fspec tyOk mx Try.func9 rfl (by kernel_rfl) rfl ?_
  conv => whnf
  refine ACall.use (l5Good_spec m hm.1 hm.len) ?_
  conv => whnf
  refine ⟨fun h => ?_, fun h => ?_⟩
  · have hg : goodM m = true := by simpa using h
    obtain ⟨g1, g2, g3, g4, g5⟩ := goodM_spec hg
    have eN : IntKind.i64.wrap ((m.length : Int) + ((m.getD 0 []).length : Int)) = ((m.length + (m.getD 0 []).length : Nat) : Int) := by rw [w64 (by omega) (by omega)]; omega
    conv => whnf
    refine ACall.use (l1In_spec _ _ _) ?_
    conv => whnf
    refine ⟨fun h2 => ?_, fun h2 => ?_⟩
    · have h2 : inR k 1 5 = false := by simpa using h2
      have e : evOk m k = false := by rw [evOk, ldOk, h2, Bool.and_false, Bool.false_and]
      conv => whnf
      exact ⟨by rw [e], by rw [evL, e]; rfl⟩
    · have h2 : inR k 1 5 = true := by simpa using h2
      have e0 : ldOk m k = true := by rw [ldOk, hg, h2]; rfl
      conv => whnf
      refine aloopI tyOk mx (fun d : Nat => (⟨44, [(0, .t (.rows m)), (1, .c (.int .i64 (k))), (6, .c (.int .i64 (d)))], [], 0⟩ : St)) (fun d => d ≤ 100 ∧ (List.range d).all (fun e => !evAt m k e) = true) (fun d => 100 - d) 0 ⟨Nat.zero_le _, rfl⟩ none (by refine ⟨rfl, rfl, ?_, ?_⟩ <;> ((repeat' (first | exact trivial | exact rfl | refine And.intro ?_ ?_)) <;> (try ((conv => whnf); first | refine vint ?_ | refine vboo ?_ | refine rint ?_ | refine rrow ?_ | skip)) <;> (try first | omega | (simp; done) | ((repeat rw [flts_closed _ (by assumption)]); exact vws_closed _ (by assumption))))) (fun d hd => ?_)
      obtain ⟨hd, hp⟩ := hd
      refine ⟨fun h3 => ?_, fun h3 => ?_⟩
      · have h3 : d < 100 := by have := of_decide_eq_true h3; omega
        conv => whnf
        refine aloopI tyOk mx (fun i : Nat => (⟨44, [(0, .t (.rows m)), (1, .c (.int .i64 (k))), (6, .c (.int .i64 (d))), (7, .own 0), (8, .c (.int .i64 (i)))], [(0, .ints 3 .i64 (List.replicate i (d : Int)))], 1⟩ : St)) (fun i => i ≤ m.length + (m.getD 0 []).length) (fun i => m.length + (m.getD 0 []).length - i) 0 (Nat.zero_le _) none (by refine ⟨rfl, rfl, ?_, ?_⟩ <;> ((repeat' (first | exact trivial | exact rfl | refine And.intro ?_ ?_)) <;> (try ((conv => whnf); first | refine vint ?_ | refine vboo ?_ | refine rint ?_ | refine rrow ?_ | skip)) <;> (try first | omega | (simp; done) | ((repeat rw [flts_closed _ (by assumption)]); exact vws_closed _ (by assumption))))) (fun i hi => ?_)
        refine ⟨0, rfl, by omega, ?_⟩
        conv => whnf
        rw [eN]
        refine ⟨fun h4 => ?_, fun h4 => ?_⟩
        · have h4 : i < m.length + (m.getD 0 []).length := by have := ltT h4; omega
          conv => whnf
          refine ⟨by simp [room]; omega, ?_⟩
          conv => whnf
          rw [nat_wrap (by omega)]
          refine ⟨i + 1, none, ?_, by omega, by omega⟩
          (refine ⟨rfl, rfl, ?_, ?_⟩ <;> ((repeat' (first | exact trivial | exact rfl | refine And.intro ?_ ?_)) <;> (try ((conv => whnf); first | refine vint ?_ | refine vboo ?_ | refine rint ?_ | refine rrow ?_ | skip)) <;> (try first | omega | (simp; done) | ((repeat rw [flts_closed _ (by assumption)]); exact vws_closed _ (by assumption)))))
          exact (List.replicate_succ' (n := i) (a := (d : Int))).symm
        · have h4 : ¬ i < m.length + (m.getD 0 []).length := by have := ltF h4; omega
          obtain rfl : i = m.length + (m.getD 0 []).length := by omega
          conv => whnf
          refine ACall.use (l5Lid_spec m (List.replicate (m.length + (m.getD 0 []).length) (d : Int)) k hg (by rw [List.length_replicate]; omega)) ?_
          conv => whnf
          refine ⟨fun h5 => ?_, fun h5 => ?_⟩
          · have h5 : evAt m k d = true := h5
            have hD : evD m k = some d := find_some h3 h5 hp
            have e : evOk m k = true := by rw [evOk, e0, hD]; rfl
            conv => whnf
            exact ⟨by rw [e], by rw [evL, e, if_pos rfl, evR, hD]; rfl⟩
          · have h5 : evAt m k d = false := h5
            conv => whnf
            rw [nat_wrap (by omega)]
            exact ⟨d + 1, none, (by refine ⟨rfl, rfl, ?_, ?_⟩ <;> ((repeat' (first | exact trivial | exact rfl | refine And.intro ?_ ?_)) <;> (try ((conv => whnf); first | refine vint ?_ | refine vboo ?_ | refine rint ?_ | refine rrow ?_ | skip)) <;> (try first | omega | (simp; done) | ((repeat rw [flts_closed _ (by assumption)]); exact vws_closed _ (by assumption))))), ⟨by omega, rall_succ hp (by rw [h5]; rfl)⟩, by omega⟩
      · have h3 : ¬ d < 100 := by have := of_decide_eq_false h3; omega
        obtain rfl : d = 100 := by omega
        have hD : evD m k = none := find_none hp
        have e : evOk m k = false := by rw [evOk, hD]; simp
        conv => whnf
        exact ⟨by rw [e], by rw [evL, e]; rfl⟩
  · have hg : goodM m = false := by simpa using h
    have e : evOk m k = false := by rw [evOk, ldOk, hg]; rfl
    conv => whnf
    (repeat (conv => whnf); (first | refine ⟨fun h => absurd h (by decide), fun _ => ?_⟩ | refine ⟨fun _ => ?_, fun h => absurd h (by decide)⟩)); conv => whnf
    exact ⟨by rw [e], by rw [evL, e]; rfl⟩

theorem EvenLid_i (m : List (List Int)) (hm : OkM m) (_km : SzM m) (k : Int) (_hk : InR k) :
    FSpec Try.prog 8 [.t (.rows m), .c (.int .i64 (k))] (ex (.tu [.own 0, .c (.bool (evOk m k))]) [(0, .ints 3 .i64 (evL m k))]) := by
  refine view_ints ?_
  refine fspec tyOk mx Try.func8 rfl (by kernel_rfl) rfl ?_
  conv => whnf
  refine ACall.use (iIsSignGame_spec m hm.1 hm.len) ?_
  conv => whnf
  refine ⟨fun h => ?_, fun h => ?_⟩
  · have hg : goodM m = true := by simpa using h
    obtain ⟨g1, g2, g3, g4, g5⟩ := goodM_spec hg
    have eN : IntKind.i64.wrap ((m.length : Int) + ((m.getD 0 []).length : Int)) = ((m.length + (m.getD 0 []).length : Nat) : Int) := by rw [w64 (by omega) (by omega)]; omega
    conv => whnf
    refine ACall.use (within_spec _ _ _) ?_
    conv => whnf
    refine ⟨fun h2 => ?_, fun h2 => ?_⟩
    · have h2 : inR k 1 5 = false := by simpa using h2
      have e : evOk m k = false := by rw [evOk, ldOk, h2, Bool.and_false, Bool.false_and]
      conv => whnf
      exact .inl ⟨e, rfl, rfl⟩
    · have h2 : inR k 1 5 = true := by simpa using h2
      have e0 : ldOk m k = true := by rw [ldOk, hg, h2]; rfl
      conv => whnf
      refine aloopI tyOk mx (fun d : Nat => (⟨40, [(0, .t (.rows m)), (1, .c (.int .i64 (k))), (16, .c (.int .i64 (d)))], [], 0⟩ : St)) (fun d => d ≤ 100 ∧ (List.range d).all (fun e => !evAt m k e) = true) (fun d => 100 - d) 0 ⟨Nat.zero_le _, rfl⟩ none (by refine ⟨rfl, rfl, ?_, ?_⟩ <;> ((repeat' (first | exact trivial | exact rfl | refine And.intro ?_ ?_)) <;> (try ((conv => whnf); first | refine vint ?_ | refine vboo ?_ | refine rint ?_ | refine rrow ?_ | skip)) <;> (try first | omega | (simp; done) | ((repeat rw [flts_closed _ (by assumption)]); exact vws_closed _ (by assumption))))) (fun d hd => ?_)
      obtain ⟨hd, hp⟩ := hd
      refine ⟨fun h3 => ?_, fun h3 => ?_⟩
      · have h3 : d < 100 := by have := of_decide_eq_true h3; omega
        conv => whnf
        refine ⟨0, rfl, by omega, ?_⟩
        conv => whnf
        rw [eN]
        refine aloopI tyOk mx (fun i : Nat => (⟨40, [(0, .t (.rows m)), (1, .c (.int .i64 (k))), (6, .c (.int .i64 (d))), (7, .own 0), (16, .c (.int .i64 (d))), (26, .c (.int .i64 ((m.length + (m.getD 0 []).length : Nat)))), (27, .c (.int .i64 (i)))], [(0, .ints 3 .i64 (List.replicate i (d : Int)))], 1⟩ : St)) (fun i => i ≤ m.length + (m.getD 0 []).length) (fun i => m.length + (m.getD 0 []).length - i) 0 (Nat.zero_le _) none (by refine ⟨rfl, rfl, ?_, ?_⟩ <;> ((repeat' (first | exact trivial | exact rfl | refine And.intro ?_ ?_)) <;> (try ((conv => whnf); first | refine vint ?_ | refine vboo ?_ | refine rint ?_ | refine rrow ?_ | skip)) <;> (try first | omega | (simp; done) | ((repeat rw [flts_closed _ (by assumption)]); exact vws_closed _ (by assumption))))) (fun i hi => ?_)
        refine ⟨fun h4 => ?_, fun h4 => ?_⟩
        · have h4 : i < m.length + (m.getD 0 []).length := by have := ltT h4; omega
          conv => whnf
          refine ⟨by simp [room]; omega, ?_⟩
          conv => whnf
          rw [nat_wrap (by omega)]
          refine ⟨i + 1, none, ?_, by omega, by omega⟩
          (refine ⟨rfl, rfl, ?_, ?_⟩ <;> ((repeat' (first | exact trivial | exact rfl | refine And.intro ?_ ?_)) <;> (try ((conv => whnf); first | refine vint ?_ | refine vboo ?_ | refine rint ?_ | refine rrow ?_ | skip)) <;> (try first | omega | (simp; done) | ((repeat rw [flts_closed _ (by assumption)]); exact vws_closed _ (by assumption)))))
          exact (List.replicate_succ' (n := i) (a := (d : Int))).symm
        · have h4 : ¬ i < m.length + (m.getD 0 []).length := by have := ltF h4; omega
          obtain rfl : i = m.length + (m.getD 0 []).length := by omega
          conv => whnf
          refine ACall.use (isLid_spec m (List.replicate (m.length + (m.getD 0 []).length) (d : Int)) k hg (by rw [List.length_replicate]; omega)) ?_
          conv => whnf
          refine ⟨fun h5 => ?_, fun h5 => ?_⟩
          · have h5 : evAt m k d = true := h5
            have hD : evD m k = some d := find_some h3 h5 hp
            have e : evOk m k = true := by rw [evOk, e0, hD]; rfl
            conv => whnf
            exact .inr ⟨e, rfl, by rw [evR, hD]; rfl⟩
          · have h5 : evAt m k d = false := h5
            conv => whnf
            rw [nat_wrap (by omega)]
            exact ⟨d + 1, none, (by refine ⟨rfl, rfl, ?_, ?_⟩ <;> ((repeat' (first | exact trivial | exact rfl | refine And.intro ?_ ?_)) <;> (try ((conv => whnf); first | refine vint ?_ | refine vboo ?_ | refine rint ?_ | refine rrow ?_ | skip)) <;> (try first | omega | (simp; done) | ((repeat rw [flts_closed _ (by assumption)]); exact vws_closed _ (by assumption))))), ⟨by omega, rall_succ hp (by rw [h5]; rfl)⟩, by omega⟩
      · have h3 : ¬ d < 100 := by have := of_decide_eq_false h3; omega
        obtain rfl : d = 100 := by omega
        have hD : evD m k = none := find_none hp
        have e : evOk m k = false := by rw [evOk, hD]; simp
        conv => whnf
        exact .inl ⟨e, rfl, rfl⟩
  · have hg : goodM m = false := by simpa using h
    have e : evOk m k = false := by rw [evOk, ldOk, hg]; rfl
    conv => whnf
    (repeat (conv => whnf); (first | refine ⟨fun h => absurd h (by decide), fun _ => ?_⟩ | refine ⟨fun _ => ?_, fun h => absurd h (by decide)⟩)); conv => whnf
    exact .inl ⟨e, rfl, rfl⟩
theorem EvenLid_bd (m : List (List Int)) (_hm : OkM m) (_km : SzM m) (k : Int) (_hk : InR k) : (evL m k).length ≤ 1048576 := by
  unfold evL
  split
  · rename_i h
    have hg : goodM m = true := by
      simp only [evOk, ldOk, Bool.and_eq_true] at h; exact h.1.1
    obtain ⟨g1, g2, g3, g4, g5⟩ := goodM_spec hg
    rw [evR, List.length_replicate]; omega
  · simp
end Go.Proofs.Ytkjdplglenjijaa
/- Determinants as they are computed: what they are. -/
namespace Go.Proofs.Ytkjdplglenjijaa
open Go.Aw
set_option maxRecDepth 100000

theorem sgn_pm : ∀ i, sgn i = 1 ∨ sgn i = -1
  | 0 => .inl rfl
  | i + 1 => by
    rcases sgn_pm i with h | h
    · right; show W (0 - sgn i) = -1; rw [h]; exact w64 (by omega) (by omega)
    · left; show W (0 - sgn i) = 1; rw [h]; exact w64 (by omega) (by omega)
theorem sgn_succ (i : Nat) : sgn (i + 1) = - sgn i := by
  show W (0 - sgn i) = _
  rcases sgn_pm i with h | h <;> rw [h] <;> exact w64 (by omega) (by omega)
theorem sm_shift (f : Nat → Int) : ∀ n, sm f (n + 1) = f 0 + sm (fun i => f (i + 1)) n
  | 0 => by simp [sm]
  | n + 1 => by rw [sm, sm_shift f n, sm]; omega
theorem sm_neg (f : Nat → Int) : ∀ n, sm (fun i => - f i) n = - sm f n
  | 0 => rfl
  | n + 1 => by rw [sm, sm, sm_neg f n]; omega
/-- the exterior product, as a sum -/
theorem wdg_sum (r : Nat → Int) : ∀ (cs : List Nat) (F : List Nat → Int), wdg r F cs = sm (fun i => sgn i * r (cs.getD i 0) * F (cs.take i ++ cs.drop (i + 1))) cs.length
  | [], F => rfl
  | c :: cs, F => by
    rw [wdg, wdg_sum r cs, List.length_cons, sm_shift]
    have e : sm (fun i => sgn (i + 1) * r ((c :: cs).getD (i + 1) 0) * F ((c :: cs).take (i + 1) ++ (c :: cs).drop (i + 1 + 1))) cs.length = - sm (fun i => sgn i * r (cs.getD i 0) * F (c :: (cs.take i ++ cs.drop (i + 1)))) cs.length := by
      rw [← sm_neg]
      refine sm_congr fun i _ => ?_
      rw [sgn_succ]
      simp only [List.getD_cons_succ, List.take_succ_cons, List.drop_succ_cons, List.cons_append, Int.neg_mul]
    rw [e]
    simp [sgn]
    omega
def Bd : Nat → Int
  | 0 => 1
  | k + 1 => (k + 1 : Nat) * 99 * Bd k
theorem mul_bd {x y A B : Int} (hB : 0 ≤ B) (hx : -A ≤ x ∧ x ≤ A) (hy : -B ≤ y ∧ y ≤ B) : -(A * B) ≤ x * y ∧ x * y ≤ A * B := by
  have key : ∀ x y : Int, 0 ≤ x → x ≤ A → -B ≤ y → y ≤ B → -(A * B) ≤ x * y ∧ x * y ≤ A * B := fun x y h1 h2 h3 h4 => by
    have a1 := Int.mul_le_mul_of_nonneg_left h4 h1
    have a2 := Int.mul_le_mul_of_nonneg_left h3 h1
    have a3 := Int.mul_le_mul_of_nonneg_right h2 hB
    rw [Int.mul_neg] at a2
    omega
  rcases Int.le_total 0 x with h | h
  · exact key x y h hx.2 hy.1 hy.2
  · have := key (-x) y (by omega) (by omega) hy.1 hy.2
    rw [Int.neg_mul] at this
    omega
theorem Bd_vals : ∀ k, k ≤ 6 → 1 ≤ Bd k ∧ Bd k ≤ 1000000000000000 := by decide
/-- the determinant as it is computed, by the exterior product -/
theorem detL_dtm {a : List (List Int)} (hb : ∀ i k, -99 ≤ ent a i k ∧ ent a i k ≤ 99) : ∀ (L C : List Nat), L.length = C.length → L.length ≤ 6 →
    detL a (L.map Int.ofNat) (C.map Int.ofNat) = dtm (L.map fun k => ent a k) C ∧ -Bd L.length ≤ dtm (L.map fun k => ent a k) C ∧ dtm (L.map fun k => ent a k) C ≤ Bd L.length
  | [], C, h, _ => by
    have : C = [] := List.eq_nil_of_length_eq_zero h.symm
    subst this
    simp [detL, dtm, Bd]
  | r :: L, C, h, h6 => by
    have hl : L.length + 1 = C.length := h
    have h6' : L.length + 1 ≤ 6 := h6
    have ih := fun D hD => detL_dtm hb L D hD (by omega)
    have vL := Bd_vals L.length (by omega)
    have vL1 := Bd_vals (L.length + 1) (by omega)
    have cut : ∀ i, i < C.length → (C.take i ++ C.drop (i + 1)).length = L.length := fun i hi => by
      rw [List.length_append, List.length_take, List.length_drop]; omega
    let T : Nat → Int := fun i => sgn i * ent a r (C.getD i 0) * dtm (L.map fun k => ent a k) (C.take i ++ C.drop (i + 1))
    have bT : ∀ i, i < C.length → -(99 * Bd L.length) ≤ T i ∧ T i ≤ 99 * Bd L.length := fun i hi => by
      have h2 := (ih _ (cut i hi).symm).2
      have h1 := hb r (C.getD i 0)
      exact mul_bd (by omega) (by rcases sgn_pm i with e | e <;> rw [e] <;> omega) h2
    have bS : ∀ n, n ≤ C.length → -((n : Int) * (99 * Bd L.length)) ≤ sm T n ∧ sm T n ≤ (n : Int) * (99 * Bd L.length) := fun n => by
      induction n with
      | zero => intro _; simp [sm]
      | succ n ihn =>
        intro hn
        have h1 := ihn (by omega)
        have h2 := bT n (by omega)
        rw [sm]
        have e : ((n + 1 : Nat) : Int) * (99 * Bd L.length) = (n : Int) * (99 * Bd L.length) + 99 * Bd L.length := by rw [Int.natCast_add, Int.add_mul]; simp
        rw [e]; omega
    have eB : Bd (L.length + 1) = ((C.length : Nat) : Int) * (99 * Bd L.length) := by
      rw [← hl]; show ((L.length + 1 : Nat) : Int) * 99 * Bd L.length = _
      rw [Int.mul_assoc]
    have fin : dtm ((r :: L).map fun k => ent a k) C = sm T C.length := wdg_sum (ent a r) C _
    have hD : detL a ((r :: L).map Int.ofNat) (C.map Int.ofNat) = sm T C.length := by
      show detF (fun i => entry a (r : Int) ((C.map Int.ofNat).getD i 0)) (fun i => detL a (L.map Int.ofNat) ((C.map Int.ofNat).take i ++ (C.map Int.ofNat).drop (i + 1))) (C.map Int.ofNat).length = _
      rw [List.length_map]
      have gen : ∀ n, n ≤ C.length → detF (fun i => entry a (r : Int) ((C.map Int.ofNat).getD i 0)) (fun i => detL a (L.map Int.ofNat) ((C.map Int.ofNat).take i ++ (C.map Int.ofNat).drop (i + 1))) n = sm T n := fun n => by
        induction n with
        | zero => intro _; rfl
        | succ n ihn =>
          intro hn
          have h1 := ihn (by omega)
          have hn' : n < C.length := by omega
          have eE : entry a (r : Int) ((C.map Int.ofNat).getD n 0) = ent a r (C.getD n 0) := by
            rw [List.getD_eq_getElem?_getD, List.getElem?_map, List.getElem?_eq_getElem hn']
            rw [List.getD_eq_getElem?_getD, List.getElem?_eq_getElem hn']
            rfl
          have eD : detL a (L.map Int.ofNat) ((C.map Int.ofNat).take n ++ (C.map Int.ofNat).drop (n + 1)) = dtm (L.map fun k => ent a k) (C.take n ++ C.drop (n + 1)) := by
            rw [← List.map_take, ← List.map_drop, ← List.map_append]
            exact (ih _ (cut n hn').symm).1
          have b1 := bT n hn'
          have b2 := bS n (by omega)
          have b3 := bS (n + 1) hn
          have b4 := (ih _ (cut n hn').symm).2
          have b5 := hb r (C.getD n 0)
          have hNB : ((n + 1 : Nat) : Int) * (99 * Bd L.length) ≤ Bd (L.length + 1) := by rw [eB]; exact Int.mul_le_mul_of_nonneg_right (by omega) (by omega)
          have hNB2 : (n : Int) * (99 * Bd L.length) ≤ Bd (L.length + 1) := by rw [eB]; exact Int.mul_le_mul_of_nonneg_right (by omega) (by omega)
          rw [detF, eE, eD, h1, sm]
          by_cases h0 : ent a r (C.getD n 0) = 0
          · rw [if_pos h0]
            show _ = sm T n + sgn n * ent a r (C.getD n 0) * _
            rw [h0]; simp
          · rw [if_neg h0]
            have w1 : W (sgn n * ent a r (C.getD n 0)) = sgn n * ent a r (C.getD n 0) := w64 (by rcases sgn_pm n with e | e <;> rw [e] <;> omega) (by rcases sgn_pm n with e | e <;> rw [e] <;> omega)
            rw [w1]
            have w2 : W (sgn n * ent a r (C.getD n 0) * dtm (L.map fun k => ent a k) (C.take n ++ C.drop (n + 1))) = T n := w64 (by show _ ≤ T n; omega) (by show T n ≤ _; omega)
            rw [w2]
            rw [sm] at b3
            exact w64 (by omega) (by omega)
      exact gen C.length (Nat.le_refl _)
    have b := bS C.length (Nat.le_refl _)
    rw [fin]
    refine ⟨hD, ?_, ?_⟩
    · show -Bd (L.length + 1) ≤ _
      rw [eB]; exact b.1
    · show _ ≤ Bd (L.length + 1)
      rw [eB]; exact b.2


def cOf (b0 b1 b2 b3 b4 b5 : Bool) : Nat := b0.toNat + 2 * b1.toNat + 4 * b2.toNat + 8 * b3.toNat + 16 * b4.toNat + 32 * b5.toNat
theorem bits6 : ∀ b0 b1 b2 b3 b4 b5 : Bool, cOf b0 b1 b2 b3 b4 b5 < 64 ∧ bitB (cOf b0 b1 b2 b3 b4 b5) 0 = b0 ∧ bitB (cOf b0 b1 b2 b3 b4 b5) 1 = b1 ∧ bitB (cOf b0 b1 b2 b3 b4 b5) 2 = b2 ∧ bitB (cOf b0 b1 b2 b3 b4 b5) 3 = b3 ∧ bitB (cOf b0 b1 b2 b3 b4 b5) 4 = b4 ∧ bitB (cOf b0 b1 b2 b3 b4 b5) 5 = b5 := by decide +kernel
theorem bits_lt : ∀ n : Nat, n < 7 → ∀ c : Nat, c < 64 → (∀ i : Nat, i < 6 → n ≤ i → bitB c i = false) → c < 2 ^ n := by decide +kernel
theorem bits_of {n : Nat} (hn : n ≤ 6) (p : Nat → Bool) : ∃ c, c < 2 ^ n ∧ ∀ i, i < n → bitB c i = p i := by
  obtain ⟨c, hc, e0, e1, e2, e3, e4, e5⟩ : ∃ c, c < 64 ∧ bitB c 0 = (decide (0 < n) && p 0) ∧ bitB c 1 = (decide (1 < n) && p 1) ∧ bitB c 2 = (decide (2 < n) && p 2) ∧ bitB c 3 = (decide (3 < n) && p 3) ∧ bitB c 4 = (decide (4 < n) && p 4) ∧ bitB c 5 = (decide (5 < n) && p 5) := ⟨_, bits6 _ _ _ _ _ _⟩
  have key : ∀ i, i < 6 → bitB c i = (decide (i < n) && p i) := fun i hi => by
    have : i = 0 ∨ i = 1 ∨ i = 2 ∨ i = 3 ∨ i = 4 ∨ i = 5 := by omega
    rcases this with rfl | rfl | rfl | rfl | rfl | rfl
    · exact e0
    · exact e1
    · exact e2
    · exact e3
    · exact e4
    · exact e5
  refine ⟨c, bits_lt n (by omega) c hc (fun i hi hni => ?_), fun i hi => ?_⟩
  · rw [key i hi, decide_eq_false (by omega), Bool.false_and]
  · rw [key i (by omega), decide_eq_true hi, Bool.true_and]
/-- a matrix with principal minors of at least 0 is never negative -/
theorem never_psd {a : List (List Int)} (hl : a.length ≤ 6) (hb : ∀ i k, -99 ≤ ent a i k ∧ ent a i k ≤ 99) (hs : ∀ i k, ent a i k = ent a k i) (h : neverA a = true) (x : Nat → Int) :
    0 ≤ quad (fun i k => ent a i k) x (List.range a.length) := by
  refine psd (List.range a.length) (fun i k => ent a i k) List.nodup_range hs (fun p => ?_) x
  obtain ⟨c, hc, hp⟩ := bits_of hl p
  have h1 := List.all_eq_true.1 h c (List.mem_range.2 hc)
  have h2 := of_decide_eq_true h1
  have e : setN a.length c = ((List.range a.length).filter p).map Int.ofNat := by
    unfold setN
    rw [List.filter_congr (q := p) (fun i hi => hp i (List.mem_range.1 hi))]
    exact List.map_congr_left (fun _ _ => rfl)
  rw [e] at h2
  have hlen : ((List.range a.length).filter p).length ≤ 6 := by
    have := List.length_filter_le p (List.range a.length)
    rw [List.length_range] at this; omega
  have h3 := (detL_dtm hb _ _ rfl hlen).1
  rw [h3] at h2
  exact Int.not_lt.1 h2
end Go.Proofs.Ytkjdplglenjijaa
/- The first signs with the greatest sum, program and reference. -/
namespace Go.Proofs.Ytkjdplglenjijaa
open Go.Aw
set_option maxRecDepth 100000

theorem signsL_len (n : Nat) : (signsL n).length = 2 ^ n := by simp [signsL]
theorem signsL_row {n x : Nat} (h : x < (signsL n).length) : ((signsL n).getD x []).length = n := by
  rw [signsL_len] at h
  simp [signsL, List.getD, h, sgRow]
theorem two_pow_pos (n : Nat) : 0 < 2 ^ n := Nat.pow_pos (by omega)

def stepI (m R P : List (List Int)) (acc : Nat × Nat) (x y : Nat) : Nat × Nat :=
  if sumW m (R.getD x []) (P.getD y []) > sumW m (R.getD acc.1 []) (P.getD acc.2 []) then (x, y) else acc
def inI (m R P : List (List Int)) (acc : Nat × Nat) (x y : Nat) : Nat × Nat := fo (fun a y => stepI m R P a x y) acc y
def outI (m R P : List (List Int)) (x : Nat) : Nat × Nat := fo (fun a x => inI m R P a x P.length) (0, 0) x

theorem inI_lt {m R P : List (List Int)} {acc : Nat × Nat} {x : Nat} (h1 : acc.1 < R.length) (h2 : acc.2 < P.length) (hx : x < R.length) : ∀ y, y ≤ P.length → (inI m R P acc x y).1 < R.length ∧ (inI m R P acc x y).2 < P.length
  | 0, _ => ⟨h1, h2⟩
  | y + 1, hy => by
    have := inI_lt (m := m) h1 h2 hx y (by omega)
    show (stepI m R P (inI m R P acc x y) x y).1 < _ ∧ (stepI m R P (inI m R P acc x y) x y).2 < _
    unfold stepI
    split
    · exact ⟨hx, by simp only; omega⟩
    · exact this
theorem outI_lt {m R P : List (List Int)} (h1 : 0 < R.length) (h2 : 0 < P.length) : ∀ x, x ≤ R.length → (outI m R P x).1 < R.length ∧ (outI m R P x).2 < P.length
  | 0, _ => ⟨h1, h2⟩
  | x + 1, hx => by
    have := outI_lt (m := m) h1 h2 x (by omega)
    exact inI_lt this.1 this.2 (by omega) P.length (Nat.le_refl _)
theorem inI_succ (m R P : List (List Int)) (acc : Nat × Nat) (x y : Nat) : inI m R P acc x (y + 1) = stepI m R P (inI m R P acc x y) x y := rfl
theorem outI_succ (m R P : List (List Int)) (x : Nat) : outI m R P (x + 1) = inI m R P (outI m R P x) x P.length := rfl

def sgR (m : List (List Int)) : List (List Int) := signsL m.length
def sgP (m : List (List Int)) : List (List Int) := signsL (m.getD 0 []).length
def bestIx (m : List (List Int)) : Nat × Nat := outI m (sgR m) (sgP m) (sgR m).length
def bestR (m : List (List Int)) : List Int := (sgR m).getD (bestIx m).1 []
def bestP (m : List (List Int)) : List Int := (sgP m).getD (bestIx m).2 []

theorem sum_pre {m : List (List Int)} (hg : goodM m = true) {x y : Nat} (hx : x < (sgR m).length) (hy : y < (sgP m).length) :
    m.length ≤ ((sgR m).getD x []).length ∧ (∀ r, r ∈ m → r.length ≤ ((sgP m).getD y []).length) ∧ ((sgR m).getD x []).length ≤ 1000 ∧ ((sgP m).getD y []).length ≤ 1000 := by
  obtain ⟨g1, g2, g3, g4, g5⟩ := goodM_spec hg
  have h1 := signsL_row hx
  have h2 := signsL_row hy
  unfold sgR sgP
  exact ⟨by omega, fun r hr => by have := (g5 r hr).1; omega, by omega, by omega⟩

end Go.Proofs.Ytkjdplglenjijaa
/- The first signs with the greatest sum: the program's. -/
namespace Go.Proofs.Ytkjdplglenjijaa
open Go.Aw
set_option maxRecDepth 100000

theorem bestSigns_spec (m : List (List Int)) (hg : goodM m = true) :
    FSpec Try.prog 42 [.t (.rows m)] (ex (.tu [.own 0, .own 1, .c (.int .i64 (sumW m (bestR m) (bestP m)))]) [(0, .ints 3 .i64 (bestR m)), (1, .ints 3 .i64 (bestP m))]) := by
  obtain ⟨g1, g2, g3, g4, g5⟩ := goodM_spec hg
  have pR : 0 < (sgR m).length := by rw [sgR, signsL_len]; exact two_pow_pos _
  have pP : 0 < (sgP m).length := by rw [sgP, signsL_len]; exact two_pow_pos _
  have lR : (sgR m).length ≤ 4096 := by rw [sgR, signsL_len]; exact two_pow_le (by omega)
  have lP : (sgP m).length ≤ 4096 := by rw [sgP, signsL_len]; exact two_pow_le (by omega)
  refine fspec tyOk mx Try.func42 rfl (by kernel_rfl) rfl ?_
  conv => whnf
  refine ACall.use (signsOf_spec m.length (by omega)) ?_
  conv => whnf
  refine aloopI tyOk mx (fun x : Nat => match x with
    | 0 => (⟨51, [(0, .t (.rows m)), (5, .c (.slice none 0 0)), (6, .c (.slice none 0 0)), (7, .c (.int .i64 (0))), (8, .c (.bool false)), (16, .own 0), (17, .c (.int .i64 ((sgR m).length))), (18, .c (.int .i64 ((0 : Nat))))], [(0, .rows 25 3 true (sgR m))], 1⟩ : St)
    | x + 1 => (⟨51, [(0, .t (.rows m)), (5, .sub 0 (outI m (sgR m) (sgP m) (x + 1)).1), (6, .sub 1 (outI m (sgR m) (sgP m) (x + 1)).2), (7, .c (.int .i64 (sumW m ((sgR m).getD (outI m (sgR m) (sgP m) (x + 1)).1 []) ((sgP m).getD (outI m (sgR m) (sgP m) (x + 1)).2 [])))), (8, .c (.bool true)), (16, .own 0), (17, .c (.int .i64 ((sgR m).length))), (18, .c (.int .i64 ((x + 1 : Nat))))], [(0, .rows 25 3 true (sgR m)), (1, .rows 25 3 true (sgP m))], 2⟩ : St))
    (fun x => x ≤ (sgR m).length) (fun x => (sgR m).length - x) 0 (Nat.zero_le _) none (by refine ⟨rfl, rfl, ?_, ?_⟩ <;> ((repeat' (first | exact trivial | exact rfl | refine And.intro ?_ ?_)) <;> (try ((conv => whnf); first | refine vint ?_ | refine vboo ?_ | refine rint ?_ | refine rrow ?_ | skip)) <;> (try first | omega | (simp; done) | ((repeat rw [flts_closed _ (by assumption)]); exact vws_closed _ (by assumption))))) (fun x hx => ?_)
  cases x with
  | zero =>
    refine ⟨fun _ => ?_, fun h => absurd pR (ltF h)⟩
    conv => whnf
    refine ⟨0, rfl, pR, ?_⟩
    conv => whnf
    refine ⟨0, rfl, by omega, ?_⟩
    conv => whnf
    refine ACall.use (signsOf_spec (m.getD 0 []).length (by omega)) ?_
    conv => whnf
    refine aloopI tyOk mx (fun y : Nat => match y with
      | 0 => (⟨51, [(0, .t (.rows m)), (5, .c (.slice none 0 0)), (6, .c (.slice none 0 0)), (7, .c (.int .i64 (0))), (8, .c (.bool false)), (10, .sub 0 0), (16, .own 0), (17, .c (.int .i64 ((sgR m).length))), (18, .c (.int .i64 ((0 : Nat)))), (26, .own 1), (27, .c (.int .i64 ((sgP m).length))), (28, .c (.int .i64 ((0 : Nat))))], [(0, .rows 25 3 true (sgR m)), (1, .rows 25 3 true (sgP m))], 2⟩ : St)
      | y + 1 => (⟨51, [(0, .t (.rows m)), (5, .sub 0 (inI m (sgR m) (sgP m) (0, 0) 0 (y + 1)).1), (6, .sub 1 (inI m (sgR m) (sgP m) (0, 0) 0 (y + 1)).2), (7, .c (.int .i64 (sumW m ((sgR m).getD (inI m (sgR m) (sgP m) (0, 0) 0 (y + 1)).1 []) ((sgP m).getD (inI m (sgR m) (sgP m) (0, 0) 0 (y + 1)).2 [])))), (8, .c (.bool true)), (10, .sub 0 0), (16, .own 0), (17, .c (.int .i64 ((sgR m).length))), (18, .c (.int .i64 ((0 : Nat)))), (26, .own 1), (27, .c (.int .i64 ((sgP m).length))), (28, .c (.int .i64 ((y + 1 : Nat))))], [(0, .rows 25 3 true (sgR m)), (1, .rows 25 3 true (sgP m))], 2⟩ : St))
      (fun y => y ≤ (sgP m).length) (fun y => (sgP m).length - y) 0 (Nat.zero_le _) none (by refine ⟨rfl, rfl, ?_, ?_⟩ <;> ((repeat' (first | exact trivial | exact rfl | refine And.intro ?_ ?_)) <;> (try ((conv => whnf); first | refine vint ?_ | refine vboo ?_ | refine rint ?_ | refine rrow ?_ | skip)) <;> (try first | omega | (simp; done) | ((repeat rw [flts_closed _ (by assumption)]); exact vws_closed _ (by assumption))))) (fun y hy => ?_)
    cases y with
    | zero =>
      refine ⟨fun _ => ?_, fun h => absurd pP (ltF h)⟩
      obtain ⟨q1, q2, q3, q4⟩ := sum_pre hg pR pP
      conv => whnf
      refine ⟨0, rfl, pP, ?_⟩
      conv => whnf
      refine ACall.use (signed_spec m ((sgR m).getD 0 []) ((sgP m).getD 0 []) q1 q2 q3 q4) ?_
      conv => whnf
      first | refine ⟨fun h => absurd h (by decide), fun _ => ?_⟩ | refine ⟨fun _ => ?_, fun h => absurd h (by decide)⟩
      conv => whnf
      first | refine ⟨fun h => absurd h (by decide), fun _ => ?_⟩ | refine ⟨fun _ => ?_, fun h => absurd h (by decide)⟩
      have e : inI m (sgR m) (sgP m) (0, 0) 0 (0 + 1) = (0, 0) := by rw [inI_succ, stepI, if_neg (by exact Int.lt_irrefl _)]; rfl
      conv => whnf
      rw [nat_wrap (by omega)]
      refine ⟨0 + 1, none, ?_, by omega, by omega⟩
      dsimp only
      simp only [e]
      (refine ⟨rfl, rfl, ?_, ?_⟩ <;> ((repeat' (first | exact trivial | exact rfl | refine And.intro ?_ ?_)) <;> (try ((conv => whnf); first | refine vint ?_ | refine vboo ?_ | refine rint ?_ | refine rrow ?_ | skip)) <;> (try first | omega | (simp; done) | ((repeat rw [flts_closed _ (by assumption)]); exact vws_closed _ (by assumption)))))
    | succ y =>
      refine ⟨fun h5 => ?_, fun h5 => ?_⟩
      · have h5 := ltT h5
        have hi := inI_lt (m := m) (acc := (0, 0)) (x := 0) pR pP pR (y + 1) hy
        obtain ⟨q1, q2, q3, q4⟩ := sum_pre hg pR h5
        conv => whnf
        refine ⟨y + 1, rfl, h5, ?_⟩
        conv => whnf
        refine ACall.use (signed_spec m ((sgR m).getD 0 []) ((sgP m).getD (y + 1) []) q1 q2 q3 q4) ?_
        conv => whnf
        first | refine ⟨fun h => absurd h (by decide), fun _ => ?_⟩ | refine ⟨fun _ => ?_, fun h => absurd h (by decide)⟩
        conv => whnf
        refine ⟨fun h6 => ?_, fun h6 => ?_⟩
        · have e : inI m (sgR m) (sgP m) (0, 0) 0 (y + 1 + 1) = (0, y + 1) := by rw [inI_succ, stepI, if_pos (of_decide_eq_true h6)]
          conv => whnf
          rw [nat_wrap (by omega)]
          refine ⟨y + 1 + 1, none, ?_, by omega, by omega⟩
          dsimp only
          simp only [e]
          (refine ⟨rfl, rfl, ?_, ?_⟩ <;> ((repeat' (first | exact trivial | exact rfl | refine And.intro ?_ ?_)) <;> (try ((conv => whnf); first | refine vint ?_ | refine vboo ?_ | refine rint ?_ | refine rrow ?_ | skip)) <;> (try first | omega | (simp; done) | ((repeat rw [flts_closed _ (by assumption)]); exact vws_closed _ (by assumption)))))
        · have e : inI m (sgR m) (sgP m) (0, 0) 0 (y + 1 + 1) = inI m (sgR m) (sgP m) (0, 0) 0 (y + 1) := by rw [inI_succ, stepI, if_neg (of_decide_eq_false h6)]
          conv => whnf
          rw [nat_wrap (by omega)]
          refine ⟨y + 1 + 1, none, ?_, by omega, by omega⟩
          dsimp only
          simp only [e]
          (refine ⟨rfl, rfl, ?_, ?_⟩ <;> ((repeat' (first | exact trivial | exact rfl | refine And.intro ?_ ?_)) <;> (try ((conv => whnf); first | refine vint ?_ | refine vboo ?_ | refine rint ?_ | refine rrow ?_ | skip)) <;> (try first | omega | (simp; done) | ((repeat rw [flts_closed _ (by assumption)]); exact vws_closed _ (by assumption)))))
      · have h5 := ltF h5
        have hy1 : y + 1 = (sgP m).length := by omega
        have e : outI m (sgR m) (sgP m) (0 + 1) = inI m (sgR m) (sgP m) (0, 0) 0 (y + 1) := by rw [outI_succ, hy1]; rfl
        conv => whnf
        rw [nat_wrap (by omega)]
        refine ⟨0 + 1, none, ?_, by omega, by omega⟩
        dsimp only
        simp only [e]
        (refine ⟨rfl, rfl, ?_, ?_⟩ <;> ((repeat' (first | exact trivial | exact rfl | refine And.intro ?_ ?_)) <;> (try ((conv => whnf); first | refine vint ?_ | refine vboo ?_ | refine rint ?_ | refine rrow ?_ | skip)) <;> (try first | omega | (simp; done) | ((repeat rw [flts_closed _ (by assumption)]); exact vws_closed _ (by assumption)))))
  | succ x =>
    refine ⟨fun h => ?_, fun h => ?_⟩
    · have h := ltT h
      have ho := outI_lt (m := m) pR pP (x + 1) hx
      conv => whnf
      refine ⟨x + 1, rfl, h, ?_⟩
      conv => whnf
      refine ⟨0, rfl, by omega, ?_⟩
      conv => whnf
      refine ACall.use (signsOf_spec (m.getD 0 []).length (by omega)) ?_
      conv => whnf
      refine aloopI tyOk mx (fun p : Bool × Nat => match p with
        | (true, y) => (⟨51, [(0, .t (.rows m)), (5, .sub 0 (inI m (sgR m) (sgP m) (outI m (sgR m) (sgP m) (x + 1)) (x + 1) y).1), (6, .sub 2 (inI m (sgR m) (sgP m) (outI m (sgR m) (sgP m) (x + 1)) (x + 1) y).2), (7, .c (.int .i64 (sumW m ((sgR m).getD (inI m (sgR m) (sgP m) (outI m (sgR m) (sgP m) (x + 1)) (x + 1) y).1 []) ((sgP m).getD (inI m (sgR m) (sgP m) (outI m (sgR m) (sgP m) (x + 1)) (x + 1) y).2 [])))), (8, .c (.bool true)), (10, .sub 0 (x + 1)), (16, .own 0), (17, .c (.int .i64 ((sgR m).length))), (18, .c (.int .i64 ((x + 1 : Nat)))), (26, .own 2), (27, .c (.int .i64 ((sgP m).length))), (28, .c (.int .i64 (y)))], [(0, .rows 25 3 true (sgR m)), (1, .rows 25 3 true (sgP m)), (2, .rows 25 3 true (sgP m))], 3⟩ : St)
        | (false, y) => (⟨51, [(0, .t (.rows m)), (5, .sub 0 (inI m (sgR m) (sgP m) (outI m (sgR m) (sgP m) (x + 1)) (x + 1) y).1), (6, .sub 1 (inI m (sgR m) (sgP m) (outI m (sgR m) (sgP m) (x + 1)) (x + 1) y).2), (7, .c (.int .i64 (sumW m ((sgR m).getD (inI m (sgR m) (sgP m) (outI m (sgR m) (sgP m) (x + 1)) (x + 1) y).1 []) ((sgP m).getD (inI m (sgR m) (sgP m) (outI m (sgR m) (sgP m) (x + 1)) (x + 1) y).2 [])))), (8, .c (.bool true)), (10, .sub 0 (x + 1)), (16, .own 0), (17, .c (.int .i64 ((sgR m).length))), (18, .c (.int .i64 ((x + 1 : Nat)))), (26, .own 2), (27, .c (.int .i64 ((sgP m).length))), (28, .c (.int .i64 (y)))], [(0, .rows 25 3 true (sgR m)), (1, .rows 25 3 true (sgP m)), (2, .rows 25 3 true (sgP m))], 3⟩ : St))
        (fun p => p.2 ≤ (sgP m).length) (fun p => (sgP m).length - p.2) (false, 0) (Nat.zero_le _) none (by refine ⟨rfl, rfl, ?_, ?_⟩ <;> ((repeat' (first | exact trivial | exact rfl | refine And.intro ?_ ?_)) <;> (try ((conv => whnf); first | refine vint ?_ | refine vboo ?_ | refine rint ?_ | refine rrow ?_ | skip)) <;> (try first | omega | (simp; done) | ((repeat rw [flts_closed _ (by assumption)]); exact vws_closed _ (by assumption))))) (fun p hy => ?_)
      obtain ⟨b, y⟩ := p
      simp only at hy
      have hi := inI_lt (m := m) ho.1 ho.2 h y hy
      cases b with
      | true =>
        refine ⟨fun h5 => ?_, fun h5 => ?_⟩
        · have h5 := ltT h5
          obtain ⟨q1, q2, q3, q4⟩ := sum_pre hg h h5
          conv => whnf
          refine ⟨y, rfl, h5, ?_⟩
          conv => whnf
          refine ACall.use (signed_spec m ((sgR m).getD (x + 1) []) ((sgP m).getD y []) q1 q2 q3 q4) ?_
          conv => whnf
          first | refine ⟨fun h => absurd h (by decide), fun _ => ?_⟩ | refine ⟨fun _ => ?_, fun h => absurd h (by decide)⟩
          conv => whnf
          refine ⟨fun h6 => ?_, fun h6 => ?_⟩
          · have e : inI m (sgR m) (sgP m) (outI m (sgR m) (sgP m) (x + 1)) (x + 1) (y + 1) = (x + 1, y) := by rw [inI_succ, stepI, if_pos (of_decide_eq_true h6)]
            conv => whnf
            rw [nat_wrap (by omega)]
            refine ⟨(true, y + 1), none, ?_, by simp only; omega, by simp only; omega⟩
            dsimp only
            simp only [e]
            (refine ⟨rfl, rfl, ?_, ?_⟩ <;> ((repeat' (first | exact trivial | exact rfl | refine And.intro ?_ ?_)) <;> (try ((conv => whnf); first | refine vint ?_ | refine vboo ?_ | refine rint ?_ | refine rrow ?_ | skip)) <;> (try first | omega | (simp; done) | ((repeat rw [flts_closed _ (by assumption)]); exact vws_closed _ (by assumption)))))
          · have e : inI m (sgR m) (sgP m) (outI m (sgR m) (sgP m) (x + 1)) (x + 1) (y + 1) = inI m (sgR m) (sgP m) (outI m (sgR m) (sgP m) (x + 1)) (x + 1) y := by rw [inI_succ, stepI, if_neg (of_decide_eq_false h6)]
            conv => whnf
            rw [nat_wrap (by omega)]
            refine ⟨(true, y + 1), none, ?_, by simp only; omega, by simp only; omega⟩
            dsimp only
            simp only [e]
            (refine ⟨rfl, rfl, ?_, ?_⟩ <;> ((repeat' (first | exact trivial | exact rfl | refine And.intro ?_ ?_)) <;> (try ((conv => whnf); first | refine vint ?_ | refine vboo ?_ | refine rint ?_ | refine rrow ?_ | skip)) <;> (try first | omega | (simp; done) | ((repeat rw [flts_closed _ (by assumption)]); exact vws_closed _ (by assumption)))))
        · have h5 := ltF h5
          obtain rfl : y = (sgP m).length := by omega
          conv => whnf
          rw [nat_wrap (by omega)]
          refine ⟨x + 1 + 1, some [(0, .row 0), (1, .row 2)], ?_, by omega, by omega⟩
          dsimp only
          simp only [outI_succ m (sgR m) (sgP m) (x + 1)]
          (refine ⟨rfl, rfl, ?_, ?_⟩ <;> ((repeat' (first | exact trivial | exact rfl | refine And.intro ?_ ?_)) <;> (try ((conv => whnf); first | refine vint ?_ | refine vboo ?_ | refine rint ?_ | refine rrow ?_ | skip)) <;> (try first | omega | (simp; done) | ((repeat rw [flts_closed _ (by assumption)]); exact vws_closed _ (by assumption)))))
      | false =>
        refine ⟨fun h5 => ?_, fun h5 => ?_⟩
        · have h5 := ltT h5
          obtain ⟨q1, q2, q3, q4⟩ := sum_pre hg h h5
          conv => whnf
          refine ⟨y, rfl, h5, ?_⟩
          conv => whnf
          refine ACall.use (signed_spec m ((sgR m).getD (x + 1) []) ((sgP m).getD y []) q1 q2 q3 q4) ?_
          conv => whnf
          first | refine ⟨fun h => absurd h (by decide), fun _ => ?_⟩ | refine ⟨fun _ => ?_, fun h => absurd h (by decide)⟩
          conv => whnf
          refine ⟨fun h6 => ?_, fun h6 => ?_⟩
          · have e : inI m (sgR m) (sgP m) (outI m (sgR m) (sgP m) (x + 1)) (x + 1) (y + 1) = (x + 1, y) := by rw [inI_succ, stepI, if_pos (of_decide_eq_true h6)]
            conv => whnf
            rw [nat_wrap (by omega)]
            refine ⟨(true, y + 1), none, ?_, by simp only; omega, by simp only; omega⟩
            dsimp only
            simp only [e]
            (refine ⟨rfl, rfl, ?_, ?_⟩ <;> ((repeat' (first | exact trivial | exact rfl | refine And.intro ?_ ?_)) <;> (try ((conv => whnf); first | refine vint ?_ | refine vboo ?_ | refine rint ?_ | refine rrow ?_ | skip)) <;> (try first | omega | (simp; done) | ((repeat rw [flts_closed _ (by assumption)]); exact vws_closed _ (by assumption)))))
          · have e : inI m (sgR m) (sgP m) (outI m (sgR m) (sgP m) (x + 1)) (x + 1) (y + 1) = inI m (sgR m) (sgP m) (outI m (sgR m) (sgP m) (x + 1)) (x + 1) y := by rw [inI_succ, stepI, if_neg (of_decide_eq_false h6)]
            conv => whnf
            rw [nat_wrap (by omega)]
            refine ⟨(false, y + 1), none, ?_, by simp only; omega, by simp only; omega⟩
            dsimp only
            simp only [e]
            (refine ⟨rfl, rfl, ?_, ?_⟩ <;> ((repeat' (first | exact trivial | exact rfl | refine And.intro ?_ ?_)) <;> (try ((conv => whnf); first | refine vint ?_ | refine vboo ?_ | refine rint ?_ | refine rrow ?_ | skip)) <;> (try first | omega | (simp; done) | ((repeat rw [flts_closed _ (by assumption)]); exact vws_closed _ (by assumption)))))
        · have h5 := ltF h5
          obtain rfl : y = (sgP m).length := by omega
          conv => whnf
          rw [nat_wrap (by omega)]
          refine ⟨x + 1 + 1, some [(0, .row 0), (1, .row 1)], ?_, by omega, by omega⟩
          dsimp only
          simp only [outI_succ m (sgR m) (sgP m) (x + 1)]
          (refine ⟨rfl, rfl, ?_, ?_⟩ <;> ((repeat' (first | exact trivial | exact rfl | refine And.intro ?_ ?_)) <;> (try ((conv => whnf); first | refine vint ?_ | refine vboo ?_ | refine rint ?_ | refine rrow ?_ | skip)) <;> (try first | omega | (simp; done) | ((repeat rw [flts_closed _ (by assumption)]); exact vws_closed _ (by assumption)))))
    · have h := ltF h
      have hx1 : x + 1 = (sgR m).length := by omega
      have e : outI m (sgR m) (sgP m) (x + 1) = bestIx m := by rw [hx1]; rfl
      conv => whnf
      rw [e]
      exact ⟨rfl, rfl⟩
end Go.Proofs.Ytkjdplglenjijaa
/- SignBias, program and reference. -/
namespace Go.Proofs.Ytkjdplglenjijaa
open Go.Aw
set_option maxRecDepth 100000

def biasOf (m : List (List Int)) : Int := if goodM m then sumW m (bestR m) (bestP m) else 0
def bestRr (m : List (List Int)) : List Int := if goodM m then bestR m else []
def bestPr (m : List (List Int)) : List Int := if goodM m then bestP m else []

theorem best_pre {m : List (List Int)} (hg : goodM m = true) : m.length ≤ (bestR m).length ∧ (∀ r, r ∈ m → r.length ≤ (bestP m).length) ∧ (bestR m).length ≤ 1000 ∧ (bestP m).length ≤ 1000 := by
  have pR : 0 < (sgR m).length := by rw [sgR, signsL_len]; exact two_pow_pos _
  have pP : 0 < (sgP m).length := by rw [sgP, signsL_len]; exact two_pow_pos _
  have h := outI_lt (m := m) pR pP (sgR m).length (Nat.le_refl _)
  exact sum_pre hg h.1 h.2

theorem SignBias_i (m : List (List Int)) (hm : OkM m) (_km : SzM m) : FSpec Try.prog 21 [.t (.rows m)] (ex (.tu [.c (.int .i64 (biasOf m)), .c (.bool (goodM m))]) []) := by
  refine fspec tyOk mx Try.func21 rfl (by kernel_rfl) rfl ?_
  conv => whnf
  refine ACall.use (iIsSignGame_spec m hm.1 hm.len) ?_
  refine ⟨fun h => ?_, fun h => ?_⟩
  · have hg : goodM m = false := by simpa using h
    conv => whnf
    refine ⟨by rw [biasOf, hg]; rfl, rfl⟩
  · have hg : goodM m = true := by simpa using h
    conv => whnf
    refine ACall.use (bestSigns_spec m hg) ?_
    conv => whnf
    refine ⟨by rw [biasOf, hg]; rfl, rfl⟩

end Go.Proofs.Ytkjdplglenjijaa
/- Signs, sums over signs, the bias: what holds of them. -/
namespace Go.Proofs.Ytkjdplglenjijaa
open Go.Aw
set_option maxRecDepth 100000

theorem getD_out {α : Type} {l : List α} {i : Nat} {d : α} (h : ¬ i < l.length) : l.getD i d = d := by rw [List.getD_eq_getElem?_getD, List.getElem?_eq_none (Nat.le_of_not_lt h)]; rfl
theorem W_id {n : Int} (h1 : -9223372036854775808 ≤ n) (h2 : n ≤ 9223372036854775807) : W n = n := w64 (by omega) (by omega)
theorem rep_getD {α : Type} {n i : Nat} {a d : α} (h : i < n) : (List.replicate n a).getD i d = a := by rw [List.getD_eq_getElem?_getD, List.getElem?_replicate, if_pos h]; rfl
/-- a vector of n signs -/
def Sg (n : Nat) (l : List Int) : Prop := l.length = n ∧ ∀ x, x ∈ l → x = 1 ∨ x = -1
def mulV (a b : List Int) : List Int := List.zipWith (· * ·) a b
theorem mulV_get : ∀ (a b : List Int) (i : Nat), (mulV a b).getD i 0 = a.getD i 0 * b.getD i 0
  | [], b, i => by simp [mulV]
  | x :: a, [], i => by simp [mulV]
  | x :: a, y :: b, 0 => by simp [mulV]
  | x :: a, y :: b, i + 1 => by
      have := mulV_get a b i
      simpa [mulV] using this
theorem Sg.get {n : Nat} {l : List Int} (h : Sg n l) {i : Nat} (hi : i < n) : l.getD i 0 = 1 ∨ l.getD i 0 = -1 := h.2 _ (getD_mem (by rw [h.1]; exact hi))
theorem Sg.at {n : Nat} {l : List Int} (h : Sg n l) (i : Nat) : -1 ≤ l.getD i 0 ∧ l.getD i 0 ≤ 1 := by
  by_cases hi : i < n
  · rcases h.get hi with e | e <;> omega
  · have : l.getD i 0 = 0 := by simp [List.getD, show ¬ i < l.length by rw [h.1]; exact hi]
    omega
theorem Sg.mul {n : Nat} {a b : List Int} (ha : Sg n a) (hb : Sg n b) : Sg n (mulV a b) := by
  have hl : (mulV a b).length = n := by simp [mulV, ha.1, hb.1]
  refine ⟨hl, fun x hx => ?_⟩
  obtain ⟨i, hi, rfl⟩ := List.mem_iff_getElem.1 hx
  have e : (mulV a b)[i] = (mulV a b).getD i 0 := by simp [List.getD, hi]
  rw [e, mulV_get]
  rw [hl] at hi
  rcases ha.get hi with h1 | h1 <;> rcases hb.get hi with h2 | h2 <;> rw [h1, h2] <;> omega
theorem Sg.one (n : Nat) : Sg n (List.replicate n 1) := ⟨by simp, fun x hx => .inl (List.eq_of_mem_replicate hx)⟩
theorem Sg.neg {n : Nat} {a : List Int} (ha : Sg n a) : Sg n (a.map fun x => -x) := by
  refine ⟨by simp [ha.1], fun x hx => ?_⟩
  obtain ⟨y, hy, rfl⟩ := List.mem_map.1 hx
  rcases ha.2 y hy with h | h <;> omega

theorem sg_row {n x : Nat} (h1 : 1 ≤ n) (h3 : n ≤ 3) (h : x < (signsL n).length) : Sg n ((signsL n).getD x []) := by
  have key : ∀ n, 1 ≤ n → n ≤ 3 → ∀ l, l ∈ signsL n → l.length = n ∧ ∀ x, x ∈ l → x = 1 ∨ x = -1 := by
    intro n h1 h3
    have : n = 1 ∨ n = 2 ∨ n = 3 := by omega
    rcases this with rfl | rfl | rfl <;> decide +kernel
  exact key n h1 h3 _ (getD_mem h)
theorem Sg.mem {n : Nat} {l : List Int} (h1 : 1 ≤ n) (h3 : n ≤ 3) (h : Sg n l) : ∃ x, x < (signsL n).length ∧ (signsL n).getD x [] = l := by
  have key : l ∈ signsL n := by
    have : n = 1 ∨ n = 2 ∨ n = 3 := by omega
    obtain ⟨hl, hs⟩ := h
    have k1 : ∀ a, a ∈ [(1 : Int), -1] → [a] ∈ signsL 1 := by decide +kernel
    have k2 : ∀ a, a ∈ [(1 : Int), -1] → ∀ b, b ∈ [(1 : Int), -1] → [a, b] ∈ signsL 2 := by decide +kernel
    have k3 : ∀ a, a ∈ [(1 : Int), -1] → ∀ b, b ∈ [(1 : Int), -1] → ∀ c, c ∈ [(1 : Int), -1] → [a, b, c] ∈ signsL 3 := by decide +kernel
    have q : ∀ x, x ∈ l → x ∈ [(1 : Int), -1] := fun x hx => by simpa using hs x hx
    rcases this with rfl | rfl | rfl
    · obtain ⟨a, rfl⟩ := List.length_eq_one_iff.1 hl
      exact k1 a (q a (by simp))
    · match l, hl with
      | [a, b], _ => exact k2 a (q a (by simp)) b (q b (by simp))
    · match l, hl with
      | [a, b, c], _ => exact k3 a (q a (by simp)) b (q b (by simp)) c (q c (by simp))
  obtain ⟨x, hx, e⟩ := List.mem_iff_getElem.1 key
  exact ⟨x, hx, by simp [List.getD, hx, e]⟩

theorem goodM_of {m : List (List Int)} {n : Nat} (h1 : 1 ≤ m.length) (h2 : m.length ≤ 3) (h3 : 1 ≤ n) (h4 : n ≤ 3) (h5 : ∀ r, r ∈ m → r.length = n ∧ ∀ x, x ∈ r → -9 ≤ x ∧ x ≤ 9) : goodM m = true := by
  have h0 := (h5 _ (getD_mem (d := []) (k := 0) (by omega : 0 < m.length))).1
  simp only [goodM, inR, rowIn, Bool.and_eq_true, decide_eq_true_eq, List.all_eq_true]
  refine ⟨⟨by omega, by omega⟩, fun r hr => ?_⟩
  have := h5 r hr
  exact ⟨⟨⟨by omega, by omega⟩, by omega⟩, this.2⟩

theorem good_at {m : List (List Int)} (hg : goodM m = true) (x y : Nat) : -9 ≤ (m.getD x []).getD y 0 ∧ (m.getD x []).getD y 0 ≤ 9 := by
  obtain ⟨_, _, _, _, g5⟩ := goodM_spec hg
  by_cases hx : x < m.length
  · have := g5 _ (getD_mem (d := []) hx)
    by_cases hy : y < (m.getD x []).length
    · exact this.2 _ (getD_mem hy)
    · rw [getD_out hy]; omega
  · rw [getD_out (l := m) hx, getD_out (by simp)]; omega
theorem good_out {m : List (List Int)} {x y : Nat} (hy : ¬ y < (m.getD x []).length) : (m.getD x []).getD y 0 = 0 := by
  exact getD_out hy
theorem good_wid {m : List (List Int)} (hg : goodM m = true) {x : Nat} (hx : x < m.length) : (m.getD x []).length = (m.getD 0 []).length := by
  obtain ⟨_, _, _, _, g5⟩ := goodM_spec hg
  exact (g5 _ (getD_mem (d := []) hx)).1

theorem mul3 {a c p b : Int} (hb : 0 ≤ b) (ha : -b ≤ a ∧ a ≤ b) (hc : -1 ≤ c ∧ c ≤ 1) (hp : -1 ≤ p ∧ p ≤ 1) : (-b ≤ a * c ∧ a * c ≤ b) ∧ (-b ≤ a * c * p ∧ a * c * p ≤ b) := by
  have hc : c = -1 ∨ c = 0 ∨ c = 1 := by omega
  have hp : p = -1 ∨ p = 0 ∨ p = 1 := by omega
  rcases hc with rfl | rfl | rfl <;> rcases hp with rfl | rfl | rfl <;> simp <;> omega

def SS (m : List (List Int)) (r p : List Int) : Int := sm (fun x => sm (fun y => (m.getD x []).getD y 0 * r.getD x 0 * p.getD y 0) (m.getD x []).length) m.length
def Un (l : List Int) : Prop := ∀ i, -1 ≤ l.getD i 0 ∧ l.getD i 0 ≤ 1
theorem Sg.un {n : Nat} {l : List Int} (h : Sg n l) : Un l := h.at
theorem sumRow_nx (r p : List Int) (c s : Int) (y : Nat) : sumRow r p c s (y + 1) = W (sumRow r p c s y + W (W (r.getD y 0 * c) * p.getD y 0)) := rfl
theorem sumRow_eq {m : List (List Int)} (hg : goodM m = true) {r p : List Int} (hr : Un r) (hp : Un p) (x : Nat) (s : Int) (hs : -1000 ≤ s ∧ s ≤ 1000) : ∀ n : Nat, n ≤ 3 →
    sumRow (m.getD x []) p (r.getD x 0) s n = s + sm (fun y => (m.getD x []).getD y 0 * r.getD x 0 * p.getD y 0) n
  | 0, _ => by show s = s + 0; omega
  | n + 1, hn => by
      have h := mul3 (by omega) (good_at hg x n) (hr x) (hp n)
      have hb := sm_bd (b := 9) (n := n) (f := fun y => (m.getD x []).getD y 0 * r.getD x 0 * p.getD y 0) (fun y _ => (mul3 (by omega) (good_at hg x y) (hr x) (hp y)).2)
      rw [sumRow_nx, sumRow_eq hg hr hp x s hs n (by omega), W_id (n := (m.getD x []).getD n 0 * r.getD x 0) (by omega) (by omega), W_id (n := (m.getD x []).getD n 0 * r.getD x 0 * p.getD n 0) (by omega) (by omega), W_id (by omega) (by omega), sm]
      omega
theorem sumTo_eq {m : List (List Int)} (hg : goodM m = true) {r p : List Int} (hr : Un r) (hp : Un p) : ∀ n : Nat, n ≤ m.length →
    sumTo m r p n = sm (fun x => sm (fun y => (m.getD x []).getD y 0 * r.getD x 0 * p.getD y 0) (m.getD x []).length) n ∧ -(n * 27 : Int) ≤ sumTo m r p n ∧ sumTo m r p n ≤ n * 27
  | 0, _ => ⟨rfl, by show _ ≤ (0 : Int); omega, by show (0 : Int) ≤ _; omega⟩
  | n + 1, hn => by
      obtain ⟨g1, g2, g3, g4, g5⟩ := goodM_spec hg
      obtain ⟨h1, h2, h3⟩ := sumTo_eq hg hr hp n (by omega)
      have hw := good_wid hg (x := n) (by omega)
      have e : sumTo m r p (n + 1) = sumRow (m.getD n []) p (r.getD n 0) (sumTo m r p n) (m.getD n []).length := rfl
      rw [e, sumRow_eq hg hr hp n _ (by omega) _ (by omega), sm, h1]
      have hb := sm_bd (b := 9) (n := (m.getD n []).length) (f := fun y => (m.getD n []).getD y 0 * r.getD n 0 * p.getD y 0) (fun y _ => (mul3 (by omega) (good_at hg n y) (hr n) (hp y)).2)
      rw [h1] at h2 h3
      refine ⟨rfl, ?_, ?_⟩ <;> (have : (m.getD n []).length ≤ 3 := by omega) <;> omega
theorem sumW_eq {m : List (List Int)} (hg : goodM m = true) {r p : List Int} (hr : Un r) (hp : Un p) : sumW m r p = SS m r p ∧ -81 ≤ SS m r p ∧ SS m r p ≤ 81 := by
  obtain ⟨g1, g2, g3, g4, g5⟩ := goodM_spec hg
  obtain ⟨h1, h2, h3⟩ := sumTo_eq hg hr hp m.length (Nat.le_refl _)
  have : sumW m r p = SS m r p := h1
  refine ⟨this, ?_, ?_⟩ <;> rw [← this] <;> (show _ ≤ _) <;> simp only [sumW] <;> omega

theorem inI_le {m R P : List (List Int)} {acc : Nat × Nat} {x : Nat} : ∀ y, (sumW m (R.getD acc.1 []) (P.getD acc.2 []) ≤ sumW m (R.getD (inI m R P acc x y).1 []) (P.getD (inI m R P acc x y).2 [])) ∧
    ∀ k, k < y → sumW m (R.getD x []) (P.getD k []) ≤ sumW m (R.getD (inI m R P acc x y).1 []) (P.getD (inI m R P acc x y).2 [])
  | 0 => ⟨Int.le_refl _, fun k hk => absurd hk (by omega)⟩
  | y + 1 => by
      obtain ⟨h1, h2⟩ := inI_le (m := m) (R := R) (P := P) (acc := acc) (x := x) y
      rw [inI_succ]
      unfold stepI
      split
      · rename_i h
        refine ⟨by simp only; omega, fun k hk => ?_⟩
        by_cases e : k = y
        · subst e; exact Int.le_refl _
        · have := h2 k (by omega)
          simp only; omega
      · rename_i h
        refine ⟨h1, fun k hk => ?_⟩
        by_cases e : k = y
        · subst e; omega
        · exact h2 k (by omega)
theorem outI_le {m R P : List (List Int)} : ∀ x, ∀ j, j < x → ∀ k, k < P.length → sumW m (R.getD j []) (P.getD k []) ≤ sumW m (R.getD (outI m R P x).1 []) (P.getD (outI m R P x).2 [])
  | 0 => fun j hj => absurd hj (by omega)
  | x + 1 => fun j hj k hk => by
      obtain ⟨h1, h2⟩ := inI_le (m := m) (R := R) (P := P) (acc := outI m R P x) (x := x) P.length
      rw [outI_succ]
      by_cases e : j = x
      · subst e; exact h2 k hk
      · exact Int.le_trans (outI_le x j (by omega) k hk) h1
theorem bias_ge {m : List (List Int)} (hg : goodM m = true) {r p : List Int} (hr : Sg m.length r) (hp : Sg (m.getD 0 []).length p) : SS m r p ≤ biasOf m := by
  obtain ⟨g1, g2, g3, g4, g5⟩ := goodM_spec hg
  rw [← (sumW_eq hg hr.un hp.un).1, biasOf, if_pos hg]
  obtain ⟨i, hi, rfl⟩ := hr.mem g1 g2
  obtain ⟨j, hj, rfl⟩ := hp.mem g3 g4
  exact outI_le _ i hi j hj
theorem bias_at {m : List (List Int)} (hg : goodM m = true) : ∃ r p, Sg m.length r ∧ Sg (m.getD 0 []).length p ∧ biasOf m = SS m r p := by
  obtain ⟨g1, g2, g3, g4, g5⟩ := goodM_spec hg
  have h := outI_lt (m := m) (R := sgR m) (P := sgP m) (by rw [sgR, signsL_len]; exact two_pow_pos _) (by rw [sgP, signsL_len]; exact two_pow_pos _) (sgR m).length (Nat.le_refl _)
  have hr := sg_row g1 g2 h.1
  have hp := sg_row g3 g4 h.2
  exact ⟨_, _, hr, hp, by rw [biasOf, if_pos hg]; exact (sumW_eq hg hr.un hp.un).1⟩
theorem bias_le {m : List (List Int)} (hg : goodM m = true) : -81 ≤ biasOf m ∧ biasOf m ≤ 81 := by
  obtain ⟨r, p, hr, hp, e⟩ := bias_at hg
  rw [e]; exact (sumW_eq hg hr.un hp.un).2
end Go.Proofs.Ytkjdplglenjijaa
/- Spreads: slices.Grow and slices.Concat, at slices of slices. -/
namespace Go.Aw
def catTo (a b : List (List Int)) : Nat → List (List Int)
  | 0 => []
  | 1 => a
  | _ => a ++ b
theorem catTo_len (a b : List (List Int)) (i : Nat) : (catTo a b i).length ≤ a.length + b.length := by
  match i with
  | 0 => simp [catTo]
  | 1 => simp [catTo]
  | _ + 2 => simp [catTo]
end Go.Aw
namespace Go.Proofs.Ytkjdplglenjijaa
open Go.Aw
set_option maxRecDepth 100000
set_option maxHeartbeats 4000000

def growRen : Go.Shelf.Ren := ⟨fun | 4 => 52 | n => n, fun | 22 => 24 | 25 => 25 | 3 => 3 | 4 => 4 | 9 => 9 | 20 => 20 | 0 => 0 | n => n, fun | n => n⟩
theorem growLay : Go.Proofs.Lays8.n4 Try.prog growRen := {
  mixed := by kernel_rfl
  f4 := ⟨Try.f52.name, by decide, Try.func52.trans (congrArg some (by kernel_rfl))⟩
  t0 := Try.underlying0
  a0 := Try.isAgg0
  z0 := Try.sizeOf0
  v0 := Try.zeroValue0
  t3 := Try.underlying3
  a3 := Try.isAgg3
  z3 := Try.sizeOf3
  v3 := Try.zeroValue3
  t4 := Try.underlying4
  a4 := Try.isAgg4
  z4 := Try.sizeOf4
  v4 := Try.zeroValue4
  t9 := Try.underlying9
  a9 := Try.isAgg9
  z9 := Try.sizeOf9
  v9 := Try.zeroValue9
  t20 := Try.underlying20
  a20 := Try.isAgg20
  z20 := Try.sizeOf20
  v20 := Try.zeroValue20
  t22 := Try.underlying24
  a22 := Try.isAgg24
  z22 := Try.sizeOf24
  v22 := Try.zeroValue24 }

theorem grow_spec (n : Nat) (h1 : 1 ≤ n) (h2 : n ≤ 1099511627776) :
    FSpec Try.prog 52 [.c (.slice none 0 0), .c (.int .i64 (n))] (ex (.own 0) [(0, .rows 25 3 false [])]) := by
  obtain ⟨i0, z, q1, q2, q3, q4, q5⟩ := (tyOk.at (show Go.Aw.look ty 25 = some ⟨.slice 3, 1, 24, [.slice none 0 0]⟩ by kernel_rfl)).info
  refine ⟨⟨_, Try.func52, by kernel_rfl, by kernel_rfl⟩, fun w bad vs hbl hvs => ?_⟩
  match vs, hvs with
  | [u, v], ⟨⟨hu, _⟩, ⟨hv, _⟩, _⟩ =>
    subst hu hv
    refine (Any8.slices_Grow_grow growLay i0 z q1 q4 (by rw [q2]; exact Nat.one_pos) none 0 0 n [] w (Nat.le_refl _) (by omega) (by rw [q3, Nat.zero_add]; show n * 24 ≤ _; omega) (by omega) (by simp) (fun _ => rfl) (fun a h => by cases h)).mono ?_
    rintro e w' ⟨rfl, rfl⟩
    have hz1 : z.cells.size = 1 := by rw [q5]; rfl
    have hge := grownCap_ge w (0 + n) 0 25
    have hcm := grownCap_le_maxLen w (0 + n) 0 25 (by unfold maxLen; omega)
    refine ⟨_, .own 0, [(0, .rows 25 3 false [])], ⟨fun _ => .slice (some ⟨w.heap.size, 0, none⟩) 0 (grownCap w (0 + n) 0 25), fun _ => []⟩, rfl, ⟨rfl, rfl⟩, ((Go.RowKit.Below.refl _ w).drew).alloc (Nat.le_refl _) _, ⟨?_, ?_, ?_, ?_⟩, Nat.one_pos, fun r hr => ?_⟩
    · intro k r hk
      rw [look_cons] at hk
      split at hk
      · obtain rfl := Option.some.inj hk
        refine ⟨⟨rfl, .inr ⟨w.heap.size, _, _, rfl, Nat.le_refl _, Go.heap_alloc_new w.drew _, Nat.zero_le _, hcm, ?_, by simp⟩⟩, trivial⟩
        simp only [Array.size_append, List.size_toArray, List.length_nil, size_zeroCells, hz1]
        show _ = grownCap w (0 + n) 0 25 * 1
        have : growRen.t 25 = 25 := rfl
        rw [this]
        omega
      · cases hk
    · intro k r hk
      rw [look_cons] at hk
      split at hk
      · obtain rfl := Option.some.inj hk
        simp [bsOf, ARow.kind, blk]
      · cases hk
    · intro k r k' r' hk hk' hne
      rw [look_cons] at hk hk'
      split at hk
      · split at hk'
        · omega
        · cases hk'
      · cases hk
    · intro k r hk
      rw [look_cons] at hk
      split at hk
      · simp; omega
      · cases hk
    · rw [look_cons, if_pos rfl] at hr
      obtain rfl := Option.some.inj hr
      exact ⟨by simp [ARow.kind], rfl⟩

theorem concat_spec (a b : List (List Int)) (h1 : 1 ≤ a.length) (ha : a.length ≤ 1048576) (hb : b.length ≤ 1048576) :
    FSpec Try.prog 47 [.t (.recs 0 [([], a), ([], b)])] (ex (.own 0) [(0, .rows 25 3 false (a ++ b))]) := by
  have hl2 : ([([], a), ([], b)] : List (List Int × List (List Int))).length = 2 := rfl
  refine fspec tyOk mx Try.func47 rfl (by kernel_rfl) rfl ?_
  conv => whnf
  refine aloopI tyOk mx (fun i : Nat => (⟨36, [(0, .t (.recs 0 [([], a), ([], b)])), (3, .c (.int .i64 ((catTo a b i).length))), (9, .t (.recs 0 [([], a), ([], b)])), (10, .c (.int .i64 (2))), (11, .c (.int .i64 (i)))], [], 0⟩ : St)) (fun i => i ≤ 2) (fun i => 2 - i) 0 (Nat.zero_le _) none (by refine ⟨rfl, rfl, ?_, ?_⟩ <;> ((repeat' (first | exact trivial | exact rfl | refine And.intro ?_ ?_)) <;> (try ((conv => whnf); first | refine vint ?_ | refine vboo ?_ | refine rint ?_ | refine rrow ?_ | skip)) <;> (try first | omega | (simp; done) | ((repeat rw [flts_closed _ (by assumption)]); exact vws_closed _ (by assumption))))) (fun i hi => ?_)
  refine ⟨fun h => ?_, fun h => ?_⟩
  · have h : i < 2 := by have := of_decide_eq_true h; omega
    conv => whnf
    refine ⟨i, rfl, h, ?_⟩
    conv => whnf
    have hc1 := catTo_len a b i
    have hc2 := catTo_len a b (i + 1)
    have e : IntKind.i64.wrap (((catTo a b i).length : Int) + ((([([], a), ([], b)] : List (List Int × List (List Int))).getD i ([], [])).2.length : Int)) = ((catTo a b (i + 1)).length : Int) := by
      have h2 : i = 0 ∨ i = 1 := by omega
      rcases h2 with rfl | rfl
      · rw [w64 (by simp [catTo]) (by simp [catTo]; omega)]; simp [catTo]
      · rw [w64 (by simp [catTo]; omega) (by simp [catTo]; omega)]; simp [catTo]
    rw [e]
    refine ⟨fun h5 => ?_, fun h5 => ?_⟩
    · have := of_decide_eq_true h5
      omega
    · conv => whnf
      rw [nat_wrap (by omega)]
      exact ⟨i + 1, none, (by refine ⟨rfl, rfl, ?_, ?_⟩ <;> ((repeat' (first | exact trivial | exact rfl | refine And.intro ?_ ?_)) <;> (try ((conv => whnf); first | refine vint ?_ | refine vboo ?_ | refine rint ?_ | refine rrow ?_ | skip)) <;> (try first | omega | (simp; done) | ((repeat rw [flts_closed _ (by assumption)]); exact vws_closed _ (by assumption))))), by omega, by omega⟩
  · have h : ¬ i < 2 := by have := of_decide_eq_false h; omega
    obtain rfl : i = 2 := by omega
    have hl : (catTo a b 2).length = a.length + b.length := by simp [catTo]
    conv => whnf
    refine ACall.use (grow_spec (catTo a b 2).length (by omega) (by omega)) ?_
    conv => whnf
    refine aloopI tyOk mx (fun i : Nat => (⟨36, [(6, .own 0), (25, .t (.recs 0 [([], a), ([], b)])), (26, .c (.int .i64 (2))), (27, .c (.int .i64 (i)))], [(0, .rows 25 3 false (catTo a b i))], 1⟩ : St)) (fun i => i ≤ 2) (fun i => 2 - i) 0 (Nat.zero_le _) none (by refine ⟨rfl, rfl, ?_, ?_⟩ <;> ((repeat' (first | exact trivial | exact rfl | refine And.intro ?_ ?_)) <;> (try ((conv => whnf); first | refine vint ?_ | refine vboo ?_ | refine rint ?_ | refine rrow ?_ | skip)) <;> (try first | omega | (simp; done) | ((repeat rw [flts_closed _ (by assumption)]); exact vws_closed _ (by assumption))))) (fun i hi => ?_)
    refine ⟨fun h => ?_, fun h => ?_⟩
    · have h : i < 2 := by have := of_decide_eq_true h; omega
      have hc1 := catTo_len a b i
      have e : catTo a b i ++ (([([], a), ([], b)] : List (List Int × List (List Int))).getD i ([], [])).2 = catTo a b (i + 1) := by
        have h2 : i = 0 ∨ i = 1 := by omega
        rcases h2 with rfl | rfl <;> simp [catTo]
      have e2 : (([([], a), ([], b)] : List (List Int × List (List Int))).getD i ([], [])).2.length ≤ 1048576 := by
        have h2 : i = 0 ∨ i = 1 := by omega
        rcases h2 with rfl | rfl
        · exact ha
        · exact hb
      conv => whnf
      refine ⟨i, rfl, h, ?_⟩
      conv => whnf
      refine ⟨by simp only [room]; omega, ?_⟩
      conv => whnf
      rw [nat_wrap (by omega)]
      refine ⟨i + 1, none, ?_, by omega, by omega⟩
      (refine ⟨rfl, rfl, ?_, ?_⟩ <;> ((repeat' (first | exact trivial | exact rfl | refine And.intro ?_ ?_)) <;> (try ((conv => whnf); first | refine vint ?_ | refine vboo ?_ | refine rint ?_ | refine rrow ?_ | skip)) <;> (try first | omega | (simp; done) | ((repeat rw [flts_closed _ (by assumption)]); exact vws_closed _ (by assumption)))))
    · have h : ¬ i < 2 := by have := of_decide_eq_false h; omega
      obtain rfl : i = 2 := by omega
      conv => whnf
      exact ⟨rfl, rfl⟩
end Go.Proofs.Ytkjdplglenjijaa
/- Spreads: the length of a spread; the program. -/
namespace Go.Proofs.Ytkjdplglenjijaa
open Go.Aw
set_option maxRecDepth 100000
set_option maxHeartbeats 4000000

theorem length_spec (m rows places : List (List Int)) (hg : goodM m = true) (kr : SzM rows) (kp : SzM places) :
    FSpec Try.prog 34 [.t (.rows m), .t (.rows rows), .t (.rows places)] (ex (.c (.int .i64 (sprLen m rows places))) []) := by
  obtain ⟨g1, g2, g3, g4, g5⟩ := goodM_spec hg
  obtain ⟨r1, r2, r3⟩ := kr.all
  obtain ⟨p1, p2, p3⟩ := kp.all
  have bad : sprOk m rows places = false → sprLen m rows places = 0 := fun h => by rw [sprLen, h]; rfl
  refine fspec tyOk mx Try.func34 rfl (by kernel_rfl) rfl ?_
  conv => whnf
  refine ⟨fun h1 => ?_, fun h1 => ?_⟩
  · have h1 : rows.length = m.length := neF h1
    conv => whnf
    refine ⟨0, rfl, by omega, ?_⟩
    conv => whnf
    refine ⟨fun h2 => ?_, fun h2 => ?_⟩
    · have h2 : ¬ places.length = (m.getD 0 []).length := neT h2
      conv => whnf
      refine ⟨?_, rfl⟩
      rw [bad (by rw [sprOk, decide_eq_false h2, Bool.and_false, Bool.false_and, Bool.false_and])]
    · have h2 : places.length = (m.getD 0 []).length := neF h2
      have hall : ∀ r, r ∈ rows ++ places → r.length ≤ 1048576 := fun r hr => (List.mem_append.1 hr).elim (r2 r) (p2 r)
      have hlen : (rows ++ places).length = rows.length + places.length := List.length_append
      have hr0 := r2 _ (getD_mem (d := []) (show 0 < rows.length by omega))
      conv => whnf
      refine ⟨0, rfl, by omega, ?_⟩
      conv => whnf
      refine ACallS.view (R := []) (args' := [.t (.recs 0 [([], rows), ([], places)])]) (st' := ⟨72, [(1, .t (.rows rows)), (7, .c (.int .i64 ((rows.getD 0 []).length)))], [], 0⟩) (by refine ⟨rfl, rfl, ?_, ?_⟩ <;> ((repeat' (first | exact trivial | exact rfl | refine And.intro ?_ ?_)) <;> (try ((conv => whnf); first | refine vint ?_ | refine vboo ?_ | refine rint ?_ | refine rrow ?_ | skip)) <;> (try first | omega | (simp; done) | ((repeat rw [flts_closed _ (by assumption)]); exact vws_closed _ (by assumption))))) ⟨⟨rfl, rfl⟩, trivial⟩ (ACall.use (concat_spec rows places (by omega) r1 p1) ?_)
      conv => whnf
      refine aloopI tyOk mx (fun i : Nat => (⟨72, [(1, .t (.rows rows)), (7, .c (.int .i64 ((rows.getD 0 []).length))), (31, .own 0), (32, .c (.int .i64 ((rows ++ places).length))), (33, .c (.int .i64 (i)))], [(0, .rows 25 3 false (rows ++ places))], 1⟩ : St)) (fun i => i ≤ (rows ++ places).length ∧ ((rows ++ places).take i).all (fun r => inR (rows.getD 0 []).length 1 4 && sprRow (rows.getD 0 []) r) = true) (fun i => (rows ++ places).length - i) 0 ⟨Nat.zero_le _, rfl⟩ none (by refine ⟨rfl, rfl, ?_, ?_⟩ <;> ((repeat' (first | exact trivial | exact rfl | refine And.intro ?_ ?_)) <;> (try ((conv => whnf); first | refine vint ?_ | refine vboo ?_ | refine rint ?_ | refine rrow ?_ | skip)) <;> (try first | omega | (simp; done) | ((repeat rw [flts_closed _ (by assumption)]); exact vws_closed _ (by assumption))))) (fun i hi => ?_)
      obtain ⟨hi, hp⟩ := hi
      refine ⟨fun h4 => ?_, fun h4 => ?_⟩
      · have h4 : i < (rows ++ places).length := by have := ltT h4; omega
        have hri := hall _ (getD_mem (d := []) h4)
        have badi : (inR (rows.getD 0 []).length 1 4 && sprRow (rows.getD 0 []) ((rows ++ places).getD i [])) = false → sprLen m rows places = 0 := fun h5 => bad (by
          rw [Bool.and_eq_false_iff] at h5
          rcases h5 with h5 | h5
          · rw [sprOk, h5, Bool.and_false, Bool.false_and]
          · rw [sprOk, all_false (d := []) h4 h5, Bool.and_false])
        conv => whnf
        refine ⟨i, rfl, h4, ?_⟩
        conv => whnf
        refine ADraw.std tyOk mx ⟨by kernel_rfl, ?_⟩
        conv => whnf
        refine ⟨fun h5 => ?_, fun h5 => ?_⟩
        · have h5 : ((rows ++ places).getD i []).length = (rows.getD 0 []).length := neF h5
          conv => whnf
          refine QCall.use (within_spec _ _ _) ?_
          conv => whnf
          refine ⟨fun h6 => ?_, fun h6 => ?_⟩
          · have h6 : inR (rows.getD 0 []).length 1 4 = true := by simpa using h6
            conv => whnf
            refine QCall.use (allWithin_spec _ _ _ (by omega)) ?_
            conv => whnf
            refine ⟨fun h7 => ?_, fun h7 => ?_⟩
            · have h7 : rowIn ((rows ++ places).getD i []) (-9) 9 = true := by simpa using h7
              conv => whnf
              refine QCall.use (product_spec _ _ (Nat.le_refl _) (by omega)) ?_
              conv => whnf
              refine ⟨0, rfl, by omega, 0, rfl, by omega, ?_⟩
              conv => whnf
              refine QCall.use (product_spec _ _ (Nat.le_refl _) (by omega)) ?_
              conv => whnf
              refine ⟨fun h8 => ?_, fun h8 => ?_⟩
              · have h8 : ¬ dot ((rows ++ places).getD i []) ((rows ++ places).getD i []) = dot (rows.getD 0 []) (rows.getD 0 []) := by simpa using h8
                conv => whnf
                refine ⟨?_, rfl⟩
                rw [badi (by rw [sprRow, decide_eq_false h8, Bool.and_false, Bool.and_false])]
              · have h8 : dot ((rows ++ places).getD i []) ((rows ++ places).getD i []) = dot (rows.getD 0 []) (rows.getD 0 []) := by simpa using h8
                conv => whnf
                rw [nat_wrap (by omega)]
                refine ⟨i + 1, none, ?_, ⟨by omega, all_take_succ (d := []) h4 hp ?_⟩, by omega⟩
                · (refine ⟨rfl, rfl, ?_, ?_⟩ <;> ((repeat' (first | exact trivial | exact rfl | refine And.intro ?_ ?_)) <;> (try ((conv => whnf); first | refine vint ?_ | refine vboo ?_ | refine rint ?_ | refine rrow ?_ | skip)) <;> (try first | omega | (simp; done) | ((repeat rw [flts_closed _ (by assumption)]); exact vws_closed _ (by assumption)))))
                · rw [sprRow, h6, h7, decide_eq_true h5, decide_eq_true h8]; rfl
            · have h7 : rowIn ((rows ++ places).getD i []) (-9) 9 = false := by simpa using h7
              conv => whnf
              (repeat (conv => whnf); (first | refine ⟨fun h => absurd h (by decide), fun _ => ?_⟩ | refine ⟨fun _ => ?_, fun h => absurd h (by decide)⟩)); conv => whnf
              refine ⟨?_, rfl⟩
              rw [badi (by rw [sprRow, h7, Bool.false_and, Bool.false_and, Bool.and_false])]
          · have h6 : inR (rows.getD 0 []).length 1 4 = false := by simpa using h6
            conv => whnf
            (repeat (conv => whnf); (first | refine ⟨fun h => absurd h (by decide), fun _ => ?_⟩ | refine ⟨fun _ => ?_, fun h => absurd h (by decide)⟩)); conv => whnf
            refine ⟨?_, rfl⟩
            rw [badi (by rw [h6, Bool.false_and])]
        · have h5 : ¬ ((rows ++ places).getD i []).length = (rows.getD 0 []).length := neT h5
          conv => whnf
          (repeat (conv => whnf); (first | refine ⟨fun h => absurd h (by decide), fun _ => ?_⟩ | refine ⟨fun _ => ?_, fun h => absurd h (by decide)⟩)); conv => whnf
          refine ⟨?_, rfl⟩
          rw [badi (by rw [sprRow, decide_eq_false h5, Bool.and_false, Bool.false_and, Bool.and_false])]
      · have h4 : ¬ i < (rows ++ places).length := by have := ltF h4; omega
        have hall2 := all_end h4 hp
        simp only [List.all_eq_true, Bool.and_eq_true] at hall2
        have e : sprLen m rows places = dot (rows.getD 0 []) (rows.getD 0 []) := by
          have h3 : inR (rows.getD 0 []).length 1 4 = true := (hall2 (rows.getD 0 []) (List.mem_append.2 (.inl (getD_mem (by omega))))).1
          rw [sprLen, sprOk, h3, decide_eq_true h1, decide_eq_true h2, List.all_eq_true.2 (fun r hr => (hall2 r hr).2)]; rfl
        conv => whnf
        refine ADraw.std tyOk mx ⟨by kernel_rfl, 0, rfl, by omega, 0, rfl, by omega, ?_⟩
        conv => whnf
        refine QCall.use (product_spec _ _ (Nat.le_refl _) (by omega)) ?_
        conv => whnf
        exact ⟨by rw [e], rfl⟩
  · have h1 : ¬ rows.length = m.length := neT h1
    conv => whnf
    (repeat (conv => whnf); (first | refine ⟨fun h => absurd h (by decide), fun _ => ?_⟩ | refine ⟨fun _ => ?_, fun h => absurd h (by decide)⟩)); conv => whnf
    refine ⟨?_, rfl⟩
    rw [bad (by rw [sprOk, decide_eq_false h1, Bool.false_and, Bool.false_and, Bool.false_and])]
end Go.Proofs.Ytkjdplglenjijaa
/- Spreads: IsSpread and SpreadWorth, reference and program. -/
namespace Go.Aw
def spwR (m rows places : List (List Int)) (x : Nat) (s : Int) : Nat → Int
  | 0 => s
  | y + 1 => W (spwR m rows places x s y + W ((m.getD x []).getD y 0 * dot (rows.getD x []) (places.getD y [])))
def spwM (m rows places : List (List Int)) : Nat → Int
  | 0 => 0
  | x + 1 => spwR m rows places x (spwM m rows places x) (m.getD x []).length
end Go.Aw
namespace Go.Proofs.Ytkjdplglenjijaa
open Go.Aw
set_option maxRecDepth 100000
set_option maxHeartbeats 4000000

def isSpr (m rows places : List (List Int)) : Bool := goodM m && decide (sprLen m rows places > 0)
theorem IsSpread_s (m : List (List Int)) (hm : OkM m) (_km : SzM m) (rows : List (List Int)) (_hr : OkM rows) (kr : SzM rows) (places : List (List Int)) (_hp : OkM places) (kp : SzM places) :
    FSpec Try.prog 15 [.t (.rows m), .t (.rows rows), .t (.rows places)] (ex (.tu [.c (.bool (isSpr m rows places)), .c (.bool (goodM m))]) []) := by
  refine fspec tyOk mx Try.func15 rfl (by kernel_rfl) rfl ?_
  conv => whnf
  refine ACall.use (l5Good_spec m hm.1 hm.len) ?_
  refine ⟨fun h => ?_, fun h => ?_⟩
  · have hg : goodM m = false := by simpa using h
    have e : isSpr m rows places = false := by rw [isSpr, hg]; rfl
    conv => whnf
    exact ⟨by rw [e, hg], rfl⟩
  · have hg : goodM m = true := by simpa using h
    conv => whnf
    refine ACall.use (l5Length_spec m rows places hg kr kp) ?_
    conv => whnf
    exact ⟨by rw [isSpr, hg]; rfl, rfl⟩
theorem IsSpread_i (m : List (List Int)) (hm : OkM m) (_km : SzM m) (rows : List (List Int)) (_hr : OkM rows) (kr : SzM rows) (places : List (List Int)) (_hp : OkM places) (kp : SzM places) :
    FSpec Try.prog 14 [.t (.rows m), .t (.rows rows), .t (.rows places)] (ex (.tu [.c (.bool (isSpr m rows places)), .c (.bool (goodM m))]) []) := by
  refine fspec tyOk mx Try.func14 rfl (by kernel_rfl) rfl ?_
  conv => whnf
  refine ACall.use (iIsSignGame_spec m hm.1 hm.len) ?_
  refine ⟨fun h => ?_, fun h => ?_⟩
  · have hg : goodM m = false := by simpa using h
    have e : isSpr m rows places = false := by rw [isSpr, hg]; rfl
    conv => whnf
    exact ⟨by rw [e, hg], rfl⟩
  · have hg : goodM m = true := by simpa using h
    conv => whnf
    refine ACall.use (length_spec m rows places hg kr kp) ?_
    conv => whnf
    exact ⟨by rw [isSpr, hg]; rfl, rfl⟩

def swOk (m rows places : List (List Int)) : Bool := goodM m && decide (sprLen m rows places ≠ 0)
def swSum (m rows places : List (List Int)) : Int := if swOk m rows places then spwM m rows places m.length else 0
def swLen (m rows places : List (List Int)) : Int := if swOk m rows places then sprLen m rows places else 0
theorem swOk_spec {m rows places : List (List Int)} (_hg : goodM m = true) (h : sprLen m rows places ≠ 0) : rows.length = m.length ∧ places.length = (m.getD 0 []).length ∧ ∀ r, r ∈ rows ++ places → r.length = (rows.getD 0 []).length := by
  have : sprOk m rows places = true := by
    rcases hb : sprOk m rows places with _ | _
    · rw [sprLen, hb] at h; exact absurd rfl h
    · rfl
  simp only [sprOk, sprRow, Bool.and_eq_true, decide_eq_true_eq, List.all_eq_true] at this
  obtain ⟨⟨⟨h1, h2⟩, _⟩, h4⟩ := this
  exact ⟨h1, h2, fun r hr => (h4 r hr).1.2⟩

theorem SpreadWorth_s (m : List (List Int)) (hm : OkM m) (_km : SzM m) (rows : List (List Int)) (_hr : OkM rows) (kr : SzM rows) (places : List (List Int)) (_hp : OkM places) (kp : SzM places) :
    FSpec Try.prog 13 [.t (.rows m), .t (.rows rows), .t (.rows places)] (ex (.tu [.c (.int .i64 (swSum m rows places)), .c (.int .i64 (swLen m rows places)), .c (.bool (swOk m rows places))]) []) := by
  obtain ⟨r1, r2, r3⟩ := kr.all
  refine fspec tyOk mx Try.func13 rfl (by kernel_rfl) rfl ?_
  conv => whnf
  refine ACall.use (l5Good_spec m hm.1 hm.len) ?_
  conv => whnf
  refine ⟨fun h => ?_, fun h => ?_⟩
  · have hg : goodM m = true := by simpa using h
    obtain ⟨g1, g2, g3, g4, g5⟩ := goodM_spec hg
    conv => whnf
    refine ACall.use (l5Length_spec m rows places hg kr kp) ?_
    conv => whnf
    refine ⟨fun h1 => ?_, fun h1 => ?_⟩
    · have h1 : sprLen m rows places = 0 := by simpa using h1
      have e : swOk m rows places = false := by rw [swOk, hg, h1]; rfl
      conv => whnf
      exact ⟨by rw [swSum, swLen, e]; rfl, rfl⟩
    · have h1 : sprLen m rows places ≠ 0 := by simpa using h1
      have e : swOk m rows places = true := by rw [swOk, hg, decide_eq_true h1]; rfl
      obtain ⟨k1, k2, k3⟩ := swOk_spec hg h1
      conv => whnf
      refine aloopI tyOk mx (fun x : Nat => (⟨61, [(0, .t (.rows m)), (1, .t (.rows rows)), (2, .t (.rows places)), (9, .c (.int .i64 (spwM m rows places x))), (10, .c (.int .i64 (x)))], [], 0⟩ : St)) (fun x => x ≤ m.length) (fun x => m.length - x) 0 (Nat.zero_le _) none (by refine ⟨rfl, rfl, ?_, ?_⟩ <;> ((repeat' (first | exact trivial | exact rfl | refine And.intro ?_ ?_)) <;> (try ((conv => whnf); first | refine vint ?_ | refine vboo ?_ | refine rint ?_ | refine rrow ?_ | skip)) <;> (try first | omega | (simp; done) | ((repeat rw [flts_closed _ (by assumption)]); exact vws_closed _ (by assumption))))) (fun x hx => ?_)
      refine ⟨fun h2 => ?_, fun h2 => ?_⟩
      · have h2 : x < m.length := by have := ltT h2; omega
        have hx5 := (g5 _ (getD_mem (d := []) h2)).1
        have hrx := k3 _ (List.mem_append.2 (.inl (getD_mem (d := []) (k := x) (show x < rows.length by omega))))
        have hrx2 := r2 _ (getD_mem (d := []) (k := x) (show x < rows.length by omega))
        conv => whnf
        refine aloopI tyOk mx (fun y : Nat => (⟨61, [(0, .t (.rows m)), (1, .t (.rows rows)), (2, .t (.rows places)), (9, .c (.int .i64 (spwR m rows places x (spwM m rows places x) y))), (10, .c (.int .i64 (x))), (11, .c (.int .i64 (y)))], [], 0⟩ : St)) (fun y => y ≤ (m.getD x []).length) (fun y => (m.getD x []).length - y) 0 (Nat.zero_le _) none (by refine ⟨rfl, rfl, ?_, ?_⟩ <;> ((repeat' (first | exact trivial | exact rfl | refine And.intro ?_ ?_)) <;> (try ((conv => whnf); first | refine vint ?_ | refine vboo ?_ | refine rint ?_ | refine rrow ?_ | skip)) <;> (try first | omega | (simp; done) | ((repeat rw [flts_closed _ (by assumption)]); exact vws_closed _ (by assumption))))) (fun y hy => ?_)
        refine ⟨x, rfl, h2, ?_⟩
        conv => whnf
        refine ⟨fun h3 => ?_, fun h3 => ?_⟩
        · have h3 : y < (m.getD x []).length := by have := ltT h3; omega
          have hpy := k3 _ (List.mem_append.2 (.inr (getD_mem (d := []) (k := y) (show y < places.length by omega))))
          conv => whnf
          refine ADraw.std tyOk mx ⟨by kernel_rfl, x, rfl, h2, y, rfl, h3, x, rfl, by omega, y, rfl, by omega, ?_⟩
          conv => whnf
          refine QCall.use (l5Dot_spec _ _ (by omega) (by omega)) ?_
          conv => whnf
          rw [nat_wrap (by omega)]
          exact ⟨y + 1, none, (by refine ⟨rfl, rfl, ?_, ?_⟩ <;> ((repeat' (first | exact trivial | exact rfl | refine And.intro ?_ ?_)) <;> (try ((conv => whnf); first | refine vint ?_ | refine vboo ?_ | refine rint ?_ | refine rrow ?_ | skip)) <;> (try first | omega | (simp; done) | ((repeat rw [flts_closed _ (by assumption)]); exact vws_closed _ (by assumption))))), by omega, by omega⟩
        · have h3 : ¬ y < (m.getD x []).length := by have := ltF h3; omega
          obtain rfl : y = (m.getD x []).length := by omega
          conv => whnf
          rw [nat_wrap (by omega)]
          exact ⟨x + 1, none, (by refine ⟨rfl, rfl, ?_, ?_⟩ <;> ((repeat' (first | exact trivial | exact rfl | refine And.intro ?_ ?_)) <;> (try ((conv => whnf); first | refine vint ?_ | refine vboo ?_ | refine rint ?_ | refine rrow ?_ | skip)) <;> (try first | omega | (simp; done) | ((repeat rw [flts_closed _ (by assumption)]); exact vws_closed _ (by assumption))))), by omega, by omega⟩
      · have h2 : ¬ x < m.length := by have := ltF h2; omega
        obtain rfl : x = m.length := by omega
        conv => whnf
        refine ACall.use (l5Length_spec m rows places hg kr kp) ?_
        conv => whnf
        exact ⟨by rw [swSum, swLen, e]; rfl, rfl⟩
  · have hg : goodM m = false := by simpa using h
    have e : swOk m rows places = false := by rw [swOk, hg]; rfl
    conv => whnf
    (repeat (conv => whnf); (first | refine ⟨fun h => absurd h (by decide), fun _ => ?_⟩ | refine ⟨fun _ => ?_, fun h => absurd h (by decide)⟩)); conv => whnf
    exact ⟨by rw [swSum, swLen, e]; rfl, rfl⟩
theorem SpreadWorth_i (m : List (List Int)) (hm : OkM m) (_km : SzM m) (rows : List (List Int)) (_hr : OkM rows) (kr : SzM rows) (places : List (List Int)) (_hp : OkM places) (kp : SzM places) :
    FSpec Try.prog 12 [.t (.rows m), .t (.rows rows), .t (.rows places)] (ex (.tu [.c (.int .i64 (swSum m rows places)), .c (.int .i64 (swLen m rows places)), .c (.bool (swOk m rows places))]) []) := by
  obtain ⟨r1, r2, r3⟩ := kr.all
  refine fspec tyOk mx Try.func12 rfl (by kernel_rfl) rfl ?_
  conv => whnf
  refine ACall.use (iIsSignGame_spec m hm.1 hm.len) ?_
  conv => whnf
  refine ⟨fun h => ?_, fun h => ?_⟩
  · have hg : goodM m = true := by simpa using h
    obtain ⟨g1, g2, g3, g4, g5⟩ := goodM_spec hg
    conv => whnf
    refine ACall.use (length_spec m rows places hg kr kp) ?_
    conv => whnf
    refine ⟨fun h1 => ?_, fun h1 => ?_⟩
    · have h1 : sprLen m rows places = 0 := by simpa using h1
      have e : swOk m rows places = false := by rw [swOk, hg, h1]; rfl
      conv => whnf
      exact ⟨by rw [swSum, swLen, e]; rfl, rfl⟩
    · have h1 : sprLen m rows places ≠ 0 := by simpa using h1
      have e : swOk m rows places = true := by rw [swOk, hg, decide_eq_true h1]; rfl
      obtain ⟨k1, k2, k3⟩ := swOk_spec hg h1
      conv => whnf
      refine aloopI tyOk mx (fun x : Nat => (⟨58, [(0, .t (.rows m)), (1, .t (.rows rows)), (2, .t (.rows places)), (9, .c (.int .i64 (spwM m rows places x))), (24, .t (.rows m)), (25, .c (.int .i64 (m.length))), (26, .c (.int .i64 (x)))], [], 0⟩ : St)) (fun x => x ≤ m.length) (fun x => m.length - x) 0 (Nat.zero_le _) none (by refine ⟨rfl, rfl, ?_, ?_⟩ <;> ((repeat' (first | exact trivial | exact rfl | refine And.intro ?_ ?_)) <;> (try ((conv => whnf); first | refine vint ?_ | refine vboo ?_ | refine rint ?_ | refine rrow ?_ | skip)) <;> (try first | omega | (simp; done) | ((repeat rw [flts_closed _ (by assumption)]); exact vws_closed _ (by assumption))))) (fun x hx => ?_)
      refine ⟨fun h2 => ?_, fun h2 => ?_⟩
      · have h2 : x < m.length := by have := ltT h2; omega
        have hx5 := (g5 _ (getD_mem (d := []) h2)).1
        have hrx := k3 _ (List.mem_append.2 (.inl (getD_mem (d := []) (k := x) (show x < rows.length by omega))))
        have hrx2 := r2 _ (getD_mem (d := []) (k := x) (show x < rows.length by omega))
        conv => whnf
        refine ⟨x, rfl, h2, ?_⟩
        conv => whnf
        refine aloopI tyOk mx (fun y : Nat => (⟨58, [(0, .t (.rows m)), (1, .t (.rows rows)), (2, .t (.rows places)), (9, .c (.int .i64 (spwR m rows places x (spwM m rows places x) y))), (10, .c (.int .i64 (x))), (24, .t (.rows m)), (25, .c (.int .i64 (m.length))), (26, .c (.int .i64 (x))), (31, .t (.ints .i64 (m.getD x []))), (32, .c (.int .i64 ((m.getD x []).length))), (33, .c (.int .i64 (y)))], [], 0⟩ : St)) (fun y => y ≤ (m.getD x []).length) (fun y => (m.getD x []).length - y) 0 (Nat.zero_le _) none (by refine ⟨rfl, rfl, ?_, ?_⟩ <;> ((repeat' (first | exact trivial | exact rfl | refine And.intro ?_ ?_)) <;> (try ((conv => whnf); first | refine vint ?_ | refine vboo ?_ | refine rint ?_ | refine rrow ?_ | skip)) <;> (try first | omega | (simp; done) | ((repeat rw [flts_closed _ (by assumption)]); exact vws_closed _ (by assumption))))) (fun y hy => ?_)
        refine ⟨fun h3 => ?_, fun h3 => ?_⟩
        · have h3 : y < (m.getD x []).length := by have := ltT h3; omega
          have hpy := k3 _ (List.mem_append.2 (.inr (getD_mem (d := []) (k := y) (show y < places.length by omega))))
          conv => whnf
          refine ⟨y, rfl, h3, ?_⟩
          conv => whnf
          refine ADraw.std tyOk mx ⟨by kernel_rfl, x, rfl, by omega, y, rfl, by omega, ?_⟩
          conv => whnf
          refine QCall.use (product_spec _ _ (by omega) (by omega)) ?_
          conv => whnf
          rw [nat_wrap (by omega)]
          exact ⟨y + 1, none, (by refine ⟨rfl, rfl, ?_, ?_⟩ <;> ((repeat' (first | exact trivial | exact rfl | refine And.intro ?_ ?_)) <;> (try ((conv => whnf); first | refine vint ?_ | refine vboo ?_ | refine rint ?_ | refine rrow ?_ | skip)) <;> (try first | omega | (simp; done) | ((repeat rw [flts_closed _ (by assumption)]); exact vws_closed _ (by assumption))))), by omega, by omega⟩
        · have h3 : ¬ y < (m.getD x []).length := by have := ltF h3; omega
          obtain rfl : y = (m.getD x []).length := by omega
          conv => whnf
          rw [nat_wrap (by omega)]
          exact ⟨x + 1, none, (by refine ⟨rfl, rfl, ?_, ?_⟩ <;> ((repeat' (first | exact trivial | exact rfl | refine And.intro ?_ ?_)) <;> (try ((conv => whnf); first | refine vint ?_ | refine vboo ?_ | refine rint ?_ | refine rrow ?_ | skip)) <;> (try first | omega | (simp; done) | ((repeat rw [flts_closed _ (by assumption)]); exact vws_closed _ (by assumption))))), by omega, by omega⟩
      · have h2 : ¬ x < m.length := by have := ltF h2; omega
        obtain rfl : x = m.length := by omega
        conv => whnf
        refine ACall.use (length_spec m rows places hg kr kp) ?_
        conv => whnf
        exact ⟨by rw [swSum, swLen, e]; rfl, rfl⟩
  · have hg : goodM m = false := by simpa using h
    have e : swOk m rows places = false := by rw [swOk, hg]; rfl
    conv => whnf
    (repeat (conv => whnf); (first | refine ⟨fun h => absurd h (by decide), fun _ => ?_⟩ | refine ⟨fun _ => ?_, fun h => absurd h (by decide)⟩)); conv => whnf
    exact ⟨by rw [swSum, swLen, e]; rfl, rfl⟩
end Go.Proofs.Ytkjdplglenjijaa
/- Lids, spreads, matrices that are never negative: what holds of them. -/
namespace Go.Aw
theorem map_sum (f : Nat → Int) : ∀ n, ((List.range n).map f).sum = sm f n
  | 0 => rfl
  | n + 1 => by rw [List.range_succ, List.map_append, List.sum_append, map_sum f n, sm]; simp
theorem quad_sm (A : Nat → Nat → Int) (x : Nat → Int) (n : Nat) : quad A x (List.range n) = sm (fun i => sm (fun j => A i j * x i * x j) n) n := by
  unfold quad
  rw [map_sum]
  exact sm_congr fun i _ => map_sum _ n
theorem sm_split (f : Nat → Int) (a : Nat) : ∀ b, sm f (a + b) = sm f a + sm (fun i => f (a + i)) b
  | 0 => by simp [sm]
  | b + 1 => by
    show sm f (a + b) + f (a + b) = _
    rw [sm_split f a b, sm]; omega
theorem sm_one (f : Nat → Int) (i : Nat) : ∀ n, sm (fun k => if k = i then f k else 0) n = if i < n then f i else 0
  | 0 => rfl
  | n + 1 => by
    rw [sm, sm_one f i n]
    by_cases h : n = i
    · subst h; rw [if_neg (by omega), if_pos rfl, if_pos (by omega)]; omega
    · rw [if_neg h]
      by_cases h2 : i < n
      · rw [if_pos h2, if_pos (by omega)]; omega
      · rw [if_neg h2, if_neg (by omega)]; omega
theorem W_add (a b : Int) : W (a + W b) = W (a + b) := by
  show IntKind.i64.wrap (a + IntKind.i64.wrap b) = IntKind.i64.wrap (a + b)
  simp only [IntKind.wrap_i64]; omega
theorem W_ladd (a b : Int) : W (W a + b) = W (a + b) := by
  show IntKind.i64.wrap (IntKind.i64.wrap a + b) = IntKind.i64.wrap (a + b)
  simp only [IntKind.wrap_i64]; omega
end Go.Aw
namespace Go.Proofs.Ytkjdplglenjijaa
open Go.Aw
set_option maxRecDepth 100000

theorem rowIn_all {l : List Int} {a b : Int} (h : rowIn l a b = true) : ∀ x, x ∈ l → a ≤ x ∧ x ≤ b := by simpa [rowIn, inR] using h
theorem dotF_sm (a b : List Int) : ∀ n, dotF a b n = W (sm (fun c => a.getD c 0 * b.getD c 0) n)
  | 0 => rfl
  | n + 1 => by rw [dotF, dotF_sm a b n, sm, W_ladd, W_add]
/-- entries within 9 -/
def In9 (l : List Int) : Prop := ∀ c, -9 ≤ l.getD c 0 ∧ l.getD c 0 ≤ 9
theorem in9_of {l : List Int} (h : rowIn l (-9) 9 = true) : In9 l := fun c => by
  by_cases hc : c < l.length
  · have := (rowIn_all h) _ (getD_mem (d := 0) hc)
    exact this
  · rw [getD_out hc]; omega
theorem dot_ex {a b : List Int} (ha : In9 a) (hb : In9 b) (h4 : a.length ≤ 4) : dot a b = sm (fun c => a.getD c 0 * b.getD c 0) a.length ∧ -324 ≤ dot a b ∧ dot a b ≤ 324 := by
  have h := sm_bd (b := 81) (n := a.length) (f := fun c => a.getD c 0 * b.getD c 0) (fun c _ => by
    have := mul_bd (A := 9) (B := 9) (by omega) (ha c) (hb c); omega)
  have e : dot a b = sm (fun c => a.getD c 0 * b.getD c 0) a.length := by
    rw [dot, dotF_sm]; exact w64 (by omega) (by omega)
  refine ⟨e, ?_, ?_⟩ <;> rw [e] <;> omega

/-! the matrix of a lid -/
theorem ent_lid {m : List (List Int)} {lid : List Int} {k : Int} {i j : Nat} (hi : i < m.length + (m.getD 0 []).length) (hj : j < m.length + (m.getD 0 []).length) : ent (lidM m lid k) i j = lidP m lid k m.length m.length 0 i j := by
  unfold ent lidM
  rw [tab_row hi, range_getD hj]
theorem ent_lid0 {m : List (List Int)} {lid : List Int} {k : Int} {i j : Nat} (h : ¬ (i < m.length + (m.getD 0 []).length ∧ j < m.length + (m.getD 0 []).length)) : ent (lidM m lid k) i j = 0 := by
  unfold ent
  by_cases hi : i < m.length + (m.getD 0 []).length
  · unfold lidM
    rw [tab_row hi]
    exact getD_out (by rw [List.length_map, List.length_range]; omega)
  · rw [getD_out (l := lidM m lid k) (by rw [lidM, tab_len]; exact hi)]; rfl
theorem lidV_ex {m : List (List Int)} {k : Int} (hg : goodM m = true) (hk : inR k 1 5 = true) (x y : Nat) : lidV m k x y = -(k * (m.getD x []).getD y 0) ∧ -45 ≤ lidV m k x y ∧ lidV m k x y ≤ 45 := by
  have hk : 1 ≤ k ∧ k ≤ 5 := by simpa [inR] using hk
  have h9 := good_at hg x y
  have hb := mul_bd (A := 5) (B := 9) (x := k) (by omega) (by omega) h9
  have e : lidV m k x y = -(k * (m.getD x []).getD y 0) := by
    unfold lidV
    rw [W_id (n := 0 - k) (by omega) (by omega), show (0 - k) * (m.getD x []).getD y 0 = -(k * (m.getD x []).getD y 0) by rw [Int.zero_sub, Int.neg_mul]]
    exact W_id (by omega) (by omega)
  refine ⟨e, ?_, ?_⟩ <;> rw [e] <;> omega
theorem lid_at {lid : List Int} (h : rowIn lid 0 99 = true) (i : Nat) : 0 ≤ lid.getD i 0 ∧ lid.getD i 0 ≤ 99 := by
  by_cases hc : i < lid.length
  · exact (rowIn_all h) _ (getD_mem (d := 0) hc)
  · rw [getD_out hc]; omega
theorem lidP_symm (m : List (List Int)) (lid : List Int) (k : Int) (nx i j : Nat) : lidP m lid k nx nx 0 i j = lidP m lid k nx nx 0 j i := by
  unfold lidP
  by_cases h : i = j
  · subst h; rfl
  · rw [if_neg h, if_neg (Ne.symm h)]
    by_cases h1 : i < nx ∧ nx ≤ j
    · rw [if_pos h1, if_pos (.inl h1.1), if_neg (by omega), if_pos ⟨h1.2, h1.1⟩]
    · rw [if_neg h1]
      by_cases h2 : nx ≤ i ∧ j < nx
      · rw [if_pos h2, if_pos (.inl h2.2), if_pos ⟨h2.2, h2.1⟩]
      · rw [if_neg h2, if_neg (by omega), if_neg (by omega)]
theorem lidP_bd {m : List (List Int)} {lid : List Int} {k : Int} (hg : goodM m = true) (hk : inR k 1 5 = true) (hl : rowIn lid 0 99 = true) (nx i j : Nat) : -99 ≤ lidP m lid k nx nx 0 i j ∧ lidP m lid k nx nx 0 i j ≤ 99 := by
  have h0 := lid_at hl i
  have h1 := (lidV_ex hg hk i (j - nx)).2
  have h2 := (lidV_ex hg hk j (i - nx)).2
  unfold lidP
  repeat' split
  all_goals omega

theorem lid_quad {m : List (List Int)} {lid : List Int} {k : Int} (hg : goodM m = true) (hk : inR k 1 5 = true) (h : lidB m lid k = true) (u v : Nat → Int) :
    2 * k * sm (fun x => sm (fun y => (m.getD x []).getD y 0 * u x * v y) (m.getD 0 []).length) m.length ≤ sm (fun i => lid.getD i 0 * u i * u i) m.length + sm (fun j => lid.getD (m.length + j) 0 * v j * v j) (m.getD 0 []).length := by
  obtain ⟨g1, g2, g3, g4, g5⟩ := goodM_spec hg
  simp only [lidB, Bool.and_eq_true, decide_eq_true_eq] at h
  obtain ⟨⟨hl, _⟩, hn⟩ := h
  generalize hnx : m.length = nx at *
  generalize hny : (m.getD 0 []).length = ny at *
  let X : Nat → Int := fun i => if i < nx then u i else v (i - nx)
  have hX1 : ∀ i, i < nx → X i = u i := fun i hi => if_pos hi
  have hX2 : ∀ j, X (nx + j) = v j := fun j => by show (if nx + j < nx then _ else _) = _; rw [if_neg (by omega)]; congr 1; omega
  have q := never_psd (a := lidM m lid k) (by rw [lidM, tab_len, hnx, hny]; omega) (fun i j => by
      by_cases hij : i < nx + ny ∧ j < nx + ny
      · rw [ent_lid (by rw [hnx, hny]; exact hij.1) (by rw [hnx, hny]; exact hij.2)]; exact lidP_bd hg hk hl _ _ _
      · rw [ent_lid0 (by rw [hnx, hny]; exact hij)]; omega) (fun i j => by
      by_cases hij : i < nx + ny ∧ j < nx + ny
      · rw [ent_lid (by rw [hnx, hny]; exact hij.1) (by rw [hnx, hny]; exact hij.2), ent_lid (by rw [hnx, hny]; exact hij.2) (by rw [hnx, hny]; exact hij.1)]; exact lidP_symm _ _ _ _ _ _
      · rw [ent_lid0 (by rw [hnx, hny]; exact hij), ent_lid0 (by rw [hnx, hny]; omega)]) hn X
  have hL : (lidM m lid k).length = nx + ny := by rw [lidM, tab_len, hnx, hny]
  rw [hL, quad_sm, sm_split] at q
  have E : ∀ {i j}, i < nx + ny → j < nx + ny → ent (lidM m lid k) i j = lidP m lid k nx nx 0 i j := fun {i j} hi hj => by
    have := ent_lid (m := m) (lid := lid) (k := k) (i := i) (j := j) (by rw [hnx, hny]; exact hi) (by rw [hnx, hny]; exact hj)
    rw [this, hnx]
  let S : Nat → Int := fun x => sm (fun y => (m.getD x []).getD y 0 * u x * v y) ny
  have r1 : ∀ i, i < nx → sm (fun j => ent (lidM m lid k) i j * X i * X j) (nx + ny) = lid.getD i 0 * u i * u i + (-k) * S i := fun i hi => by
    rw [sm_split]
    have a1 : sm (fun j => ent (lidM m lid k) i j * X i * X j) nx = lid.getD i 0 * u i * u i := by
      rw [sm_congr (g := fun j => if j = i then lid.getD i 0 * u i * u j else 0) (fun j hj => ?_), sm_one (fun j => lid.getD i 0 * u i * u j) i nx, if_pos hi]
      rw [E (by omega) (by omega), hX1 i hi, hX1 j hj]
      unfold lidP
      by_cases h : j = i
      · subst h; rw [if_pos rfl, if_pos rfl]
      · rw [if_neg (Ne.symm h), if_neg (by omega), if_neg (by omega), if_neg h]; simp
    have a2 : sm (fun j => ent (lidM m lid k) i (nx + j) * X i * X (nx + j)) ny = (-k) * S i := by
      rw [← sm_mul]
      refine sm_congr fun j hj => ?_
      rw [E (by omega) (by omega), hX1 i hi, hX2 j]
      unfold lidP
      rw [if_neg (by omega), if_pos (by omega), if_pos (.inl hi), show nx + j - nx = j by omega, (lidV_ex hg hk i j).1]
      simp only [Int.neg_mul, Int.mul_assoc]
    rw [a1, a2]
  have r2 : ∀ i, i < ny → sm (fun j => ent (lidM m lid k) (nx + i) j * X (nx + i) * X j) (nx + ny) = lid.getD (nx + i) 0 * v i * v i + (-k) * sm (fun x => (m.getD x []).getD i 0 * u x * v i) nx := fun i hi => by
    rw [sm_split]
    have a1 : sm (fun j => ent (lidM m lid k) (nx + i) (nx + j) * X (nx + i) * X (nx + j)) ny = lid.getD (nx + i) 0 * v i * v i := by
      rw [sm_congr (g := fun j => if j = i then lid.getD (nx + i) 0 * v i * v j else 0) (fun j hj => ?_), sm_one (fun j => lid.getD (nx + i) 0 * v i * v j) i ny, if_pos hi]
      rw [E (by omega) (by omega), hX2 i, hX2 j]
      unfold lidP
      by_cases h : j = i
      · subst h; rw [if_pos rfl, if_pos rfl]
      · rw [if_neg (by omega), if_neg (by omega), if_neg (by omega), if_neg h]; simp
    have a2 : sm (fun j => ent (lidM m lid k) (nx + i) j * X (nx + i) * X j) nx = (-k) * sm (fun x => (m.getD x []).getD i 0 * u x * v i) nx := by
      rw [← sm_mul]
      refine sm_congr fun j hj => ?_
      rw [E (by omega) (by omega), hX2 i, hX1 j hj]
      unfold lidP
      rw [if_neg (by omega), if_neg (by omega), if_pos (by omega), if_pos (.inl hj), show nx + i - nx = i by omega, (lidV_ex hg hk j i).1]
      simp only [Int.neg_mul, Int.mul_assoc, Int.mul_comm (v i)]
    rw [a1, a2]; omega
  rw [sm_congr r1, sm_congr (f := fun i => sm (fun j => ent (lidM m lid k) (nx + i) j * X (nx + i) * X j) (nx + ny)) r2, sm_add, sm_add, sm_mul, sm_mul, ← sm_comm (fun x i => (m.getD x []).getD i 0 * u x * v i)] at q
  have e : 2 * k * sm S nx = k * sm S nx + k * sm S nx := by rw [Int.mul_assoc]; omega
  show 2 * k * sm S nx ≤ _
  rw [e]
  have e2 : (-k) * sm S nx = - (k * sm S nx) := Int.neg_mul _ _
  have e3 : sm (fun x => sm (fun y => (m.getD x []).getD y 0 * u x * v y) ny) nx = sm S nx := rfl
  rw [e3] at q
  show _ ≤ _
  have q' : 0 ≤ sm (fun i => lid.getD i 0 * u i * u i) nx + (-k) * sm S nx + (sm (fun i => lid.getD (nx + i) 0 * v i * v i) ny + (-k) * sm S nx) := q
  rw [e2] at q'
  omega

/-- the sum of a list, as it is computed -/
def addV (l : List Int) : Int := fo (fun s i => W (s + l.getD i 0)) 0 l.length
theorem addV_fo (l : List Int) : ∀ n, fo (fun s i => W (s + l.getD i 0)) 0 n = W (sm (fun i => l.getD i 0) n)
  | 0 => rfl
  | n + 1 => by
    show W (fo (fun s i => W (s + l.getD i 0)) 0 n + l.getD n 0) = _
    rw [addV_fo l n, W_ladd, sm]
theorem addV_ex {l : List Int} (h : rowIn l 0 99 = true) (h6 : l.length ≤ 6) : addV l = sm (fun i => l.getD i 0) l.length ∧ 0 ≤ addV l ∧ addV l ≤ 594 := by
  have hb := sm_bd (b := 99) (n := l.length) (f := fun i => l.getD i 0) (fun i _ => by have := lid_at h i; omega)
  have hp := sm_pos (n := l.length) (f := fun i => l.getD i 0) (fun i _ => (lid_at h i).1)
  have e : addV l = sm (fun i => l.getD i 0) l.length := by rw [addV, addV_fo]; exact W_id (by omega) (by omega)
  refine ⟨e, ?_, ?_⟩ <;> rw [e] <;> omega

theorem lidB_len {m : List (List Int)} {lid : List Int} {k : Int} (hg : goodM m = true) (h : lidB m lid k = true) : rowIn lid 0 99 = true ∧ lid.length = m.length + (m.getD 0 []).length ∧ lid.length ≤ 6 := by
  obtain ⟨g1, g2, g3, g4, g5⟩ := goodM_spec hg
  simp only [lidB, Bool.and_eq_true, decide_eq_true_eq] at h
  exact ⟨h.1.1, h.1.2, by omega⟩

/-- A LID IS A BOUND FOR SIGNS -/
theorem lid_bias {m : List (List Int)} {lid : List Int} {k : Int} (h : ldIs m lid k = true) : W (W (2 * k) * biasOf m) ≤ addV lid := by
  simp only [ldIs, ldOk, Bool.and_eq_true] at h
  obtain ⟨⟨hg, hk⟩, hb⟩ := h
  have hk5 : 1 ≤ k ∧ k ≤ 5 := by simpa [inR] using hk
  obtain ⟨hl, hlen, h6⟩ := lidB_len hg hb
  obtain ⟨r, p, hr, hp, e⟩ := bias_at hg
  have q := lid_quad hg hk hb (fun i => r.getD i 0) (fun j => p.getD j 0)
  have sq : ∀ {n : Nat} {l : List Int}, Sg n l → ∀ i, i < n → ∀ c : Int, c * l.getD i 0 * l.getD i 0 = c := fun hs i hi c => by
    rcases hs.get hi with e | e <;> rw [e] <;> omega
  rw [sm_congr (g := fun i => lid.getD i 0) (fun i hi => sq hr i hi _), sm_congr (f := fun j => lid.getD (m.length + j) 0 * p.getD j 0 * p.getD j 0) (g := fun j => lid.getD (m.length + j) 0) (fun i hi => sq hp i hi _), ← sm_split (fun i => lid.getD i 0), ← hlen, ← (addV_ex hl h6).1] at q
  have es : SS m r p = sm (fun x => sm (fun y => (m.getD x []).getD y 0 * r.getD x 0 * p.getD y 0) (m.getD 0 []).length) m.length := sm_congr fun x hx => by rw [good_wid hg hx]
  rw [← es, ← e] at q
  have bb := bias_le hg
  have hm := mul_bd (A := 10) (B := 81) (x := 2 * k) (y := biasOf m) (by omega) (by omega) bb
  rw [W_id (n := 2 * k) (by omega) (by omega), W_id (by omega) (by omega)]
  exact q

theorem spr_of {m rows places : List (List Int)} (h : swOk m rows places = true) : goodM m = true ∧ rows.length = m.length ∧ places.length = (m.getD 0 []).length ∧ ∃ d : Nat, 1 ≤ d ∧ d ≤ 4 ∧ (∀ r, r ∈ rows ++ places → In9 r ∧ r.length = d ∧ dot r r = swLen m rows places) := by
  have h0 := h
  simp only [swOk, Bool.and_eq_true, decide_eq_true_eq] at h
  obtain ⟨hg, hne⟩ := h
  have hs : sprOk m rows places = true := by
    rcases hb : sprOk m rows places with _ | _
    · rw [sprLen, hb] at hne; exact absurd rfl hne
    · rfl
  have hlen : swLen m rows places = dot (rows.getD 0 []) (rows.getD 0 []) := by rw [swLen, if_pos h0, sprLen, if_pos hs]
  simp only [sprOk, sprRow, Bool.and_eq_true, decide_eq_true_eq, List.all_eq_true] at hs
  obtain ⟨⟨⟨h1, h2⟩, h3⟩, h4⟩ := hs
  have h3 : 1 ≤ ((rows.getD 0 []).length : Int) ∧ ((rows.getD 0 []).length : Int) ≤ 4 := by simpa [inR] using h3
  exact ⟨hg, h1, h2, (rows.getD 0 []).length, by omega, by omega, fun r hr => ⟨in9_of (h4 r hr).1.1, (h4 r hr).1.2, by rw [hlen]; exact (h4 r hr).2⟩⟩

theorem spwR_sm (m rows places : List (List Int)) (x : Nat) (s : Int) : ∀ n, spwR m rows places x (W s) n = W (s + sm (fun y => (m.getD x []).getD y 0 * dot (rows.getD x []) (places.getD y [])) n)
  | 0 => by show W s = W (s + 0); rw [Int.add_zero]
  | n + 1 => by rw [spwR, spwR_sm m rows places x s n, W_ladd, W_add, sm, Int.add_assoc]
theorem spwM_sm (m rows places : List (List Int)) : ∀ n, spwM m rows places n = W (sm (fun x => sm (fun y => (m.getD x []).getD y 0 * dot (rows.getD x []) (places.getD y [])) (m.getD x []).length) n)
  | 0 => rfl
  | n + 1 => by rw [spwM, spwM_sm m rows places n, spwR_sm, sm]

/-- A LID IS A BOUND FOR SPREADS -/
theorem lid_spread {m rows places : List (List Int)} {lid : List Int} {k : Int} (hk : inR k 1 5 = true) (hs : swOk m rows places = true) (hb : lidB m lid k = true) :
    W (W (2 * k) * swSum m rows places) ≤ W (swLen m rows places * addV lid) := by
  have hk5 : 1 ≤ k ∧ k ≤ 5 := by simpa [inR] using hk
  obtain ⟨hg, hrl, hpl, d, d1, d4, hrow⟩ := spr_of hs
  obtain ⟨g1, g2, g3, g4, g5⟩ := goodM_spec hg
  obtain ⟨hl, hlen, h6⟩ := lidB_len hg hb
  have hr : ∀ i, i < m.length → In9 (rows.getD i []) ∧ (rows.getD i []).length = d ∧ dot (rows.getD i []) (rows.getD i []) = swLen m rows places := fun i hi => hrow _ (List.mem_append.2 (.inl (getD_mem (by omega))))
  have hp : ∀ i, i < (m.getD 0 []).length → In9 (places.getD i []) ∧ (places.getD i []).length = d ∧ dot (places.getD i []) (places.getD i []) = swLen m rows places := fun i hi => hrow _ (List.mem_append.2 (.inr (getD_mem (by omega))))
  have dx : ∀ x y, x < m.length → y < (m.getD 0 []).length → dot (rows.getD x []) (places.getD y []) = sm (fun c => (rows.getD x []).getD c 0 * (places.getD y []).getD c 0) d ∧ -324 ≤ dot (rows.getD x []) (places.getD y []) ∧ dot (rows.getD x []) (places.getD y []) ≤ 324 := fun x y hx hy => by
    have := dot_ex (hr x hx).1 (hp y hy).1 (by rw [(hr x hx).2.1]; exact d4)
    rw [(hr x hx).2.1] at this; exact this
  have rr : ∀ x, x < m.length → sm (fun c => (rows.getD x []).getD c 0 * (rows.getD x []).getD c 0) d = swLen m rows places := fun x hx => by
    have := (dot_ex (hr x hx).1 (hr x hx).1 (by rw [(hr x hx).2.1]; exact d4)).1
    rw [(hr x hx).2.1, (hr x hx).2.2] at this; exact this.symm
  have pp : ∀ x, x < (m.getD 0 []).length → sm (fun c => (places.getD x []).getD c 0 * (places.getD x []).getD c 0) d = swLen m rows places := fun x hx => by
    have := (dot_ex (hp x hx).1 (hp x hx).1 (by rw [(hp x hx).2.1]; exact d4)).1
    rw [(hp x hx).2.1, (hp x hx).2.2] at this; exact this.symm
  have lenb : -324 ≤ swLen m rows places ∧ swLen m rows places ≤ 324 := by
    have := (dot_ex (hr 0 (by omega)).1 (hr 0 (by omega)).1 (by rw [(hr 0 (by omega)).2.1]; exact d4)).2
    rw [(hr 0 (by omega)).2.2] at this; exact this
  -- the worth
  let T : Nat → Nat → Int := fun x y => (m.getD x []).getD y 0 * dot (rows.getD x []) (places.getD y [])
  have Tb : ∀ x y, x < m.length → y < (m.getD 0 []).length → -2916 ≤ T x y ∧ T x y ≤ 2916 := fun x y hx hy => by
    have := mul_bd (A := 9) (B := 324) (by omega) (good_at hg x y) (dx x y hx hy).2
    show -2916 ≤ (m.getD x []).getD y 0 * _ ∧ (m.getD x []).getD y 0 * _ ≤ 2916
    omega
  have Rb : ∀ x, x < m.length → -8748 ≤ sm (T x) (m.getD 0 []).length ∧ sm (T x) (m.getD 0 []).length ≤ 8748 := fun x hx => by
    have := sm_bd (b := 2916) (n := (m.getD 0 []).length) (f := T x) (fun y hy => Tb x y hx hy)
    omega
  have Sb := sm_bd (b := 8748) (n := m.length) (f := fun x => sm (T x) (m.getD 0 []).length) (fun x hx => Rb x hx)
  have ew : swSum m rows places = sm (fun x => sm (T x) (m.getD 0 []).length) m.length := by
    rw [swSum, if_pos hs, spwM_sm, sm_congr (g := fun x => sm (T x) (m.getD 0 []).length) (fun x hx => by rw [good_wid hg hx])]
    exact W_id (by omega) (by omega)
  -- one coordinate after the other
  have q : ∀ c, 0 ≤ (sm (fun i => lid.getD i 0 * (rows.getD i []).getD c 0 * (rows.getD i []).getD c 0) m.length + sm (fun j => lid.getD (m.length + j) 0 * (places.getD j []).getD c 0 * (places.getD j []).getD c 0) (m.getD 0 []).length) - 2 * k * sm (fun x => sm (fun y => (m.getD x []).getD y 0 * (rows.getD x []).getD c 0 * (places.getD y []).getD c 0) (m.getD 0 []).length) m.length := fun c => by
    have := lid_quad hg hk hb (fun i => (rows.getD i []).getD c 0) (fun j => (places.getD j []).getD c 0)
    omega
  have Q := sm_pos (n := d) (fun c _ => q c)
  rw [sm_sub, sm_add, sm_mul, sm_comm (fun c i => lid.getD i 0 * (rows.getD i []).getD c 0 * (rows.getD i []).getD c 0), sm_comm (fun c j => lid.getD (m.length + j) 0 * (places.getD j []).getD c 0 * (places.getD j []).getD c 0), sm_comm (fun c x => sm (fun y => (m.getD x []).getD y 0 * (rows.getD x []).getD c 0 * (places.getD y []).getD c 0) (m.getD 0 []).length)] at Q
  have a1 : sm (fun j => sm (fun i => lid.getD j 0 * (rows.getD j []).getD i 0 * (rows.getD j []).getD i 0) d) m.length = swLen m rows places * sm (fun i => lid.getD i 0) m.length := by
    rw [← sm_mul]
    refine sm_congr fun i hi => ?_
    rw [sm_congr (g := fun c => lid.getD i 0 * ((rows.getD i []).getD c 0 * (rows.getD i []).getD c 0)) (fun c _ => Int.mul_assoc _ _ _), sm_mul, rr i hi, Int.mul_comm]
  have a2 : sm (fun j => sm (fun i => lid.getD (m.length + j) 0 * (places.getD j []).getD i 0 * (places.getD j []).getD i 0) d) (m.getD 0 []).length = swLen m rows places * sm (fun i => lid.getD (m.length + i) 0) (m.getD 0 []).length := by
    rw [← sm_mul]
    refine sm_congr fun i hi => ?_
    rw [sm_congr (g := fun c => lid.getD (m.length + i) 0 * ((places.getD i []).getD c 0 * (places.getD i []).getD c 0)) (fun c _ => Int.mul_assoc _ _ _), sm_mul, pp i hi, Int.mul_comm]
  have a3 : sm (fun j => sm (fun i => sm (fun y => (m.getD j []).getD y 0 * (rows.getD j []).getD i 0 * (places.getD y []).getD i 0) (m.getD 0 []).length) d) m.length = swSum m rows places := by
    rw [ew]
    refine sm_congr fun x hx => ?_
    rw [sm_comm]
    refine sm_congr fun y hy => ?_
    show _ = (m.getD x []).getD y 0 * dot (rows.getD x []) (places.getD y [])
    rw [(dx x y hx hy).1, ← sm_mul]
    exact sm_congr fun c _ => Int.mul_assoc _ _ _
  rw [a1, a2, a3, ← Int.mul_add, ← sm_split (fun i => lid.getD i 0), ← hlen] at Q
  obtain ⟨e6, b0, b1⟩ := addV_ex hl h6
  rw [← e6] at Q
  have hm1 := mul_bd (A := 10) (B := 30000) (x := 2 * k) (y := swSum m rows places) (by omega) (by omega) (by rw [ew]; omega)
  have hm2 := mul_bd (A := 324) (B := 594) (x := swLen m rows places) (y := addV lid) (by omega) lenb (by omega)
  rw [W_id (n := 2 * k) (by omega) (by omega), W_id (n := 2 * k * swSum m rows places) (by omega) (by omega), W_id (n := swLen m rows places * addV lid) (by omega) (by omega)]
  omega
end Go.Proofs.Ytkjdplglenjijaa
/- What the laws compare with. -/
namespace Go.Proofs.Ytkjdplglenjijaa
open Go.Aw
set_option maxRecDepth 100000

theorem vBig_spec (code : List Int) : FSpec Try.prog 4 [.t (.ints .u8 code)] (ex (.c (.bool (decide ((code.length : Int) > 65536)))) []) := by
  refine fspec tyOk mx Try.func4 rfl (by kernel_rfl) rfl ?_
  conv => whnf
  exact ⟨rfl, rfl⟩
theorem vInts_spec (a b : List Int) (h : a.length ≤ 9223372036854775807) :
    FSpec Try.prog 19 [.t (.ints .i64 a), .t (.ints .i64 b)] (ex (.c (.bool (decide (a = b)))) []) := by
  refine fspec tyOk mx Try.func19 rfl (by kernel_rfl) rfl ?_
  refine ⟨fun hl => ?_, fun hl => ?_⟩
  · conv => whnf
    refine ⟨?_, rfl⟩
    rw [decide_eq_false]
    rintro rfl
    simp at hl
  · conv => whnf
    simp only [bne_eq_false_iff_eq, Int.natCast_inj] at hl
    refine aloopI tyOk mx (fun k : Nat => (⟨26, [(0, .t (.ints .i64 a)), (1, .t (.ints .i64 b)), (5, .c (.int .i64 (k : Int)))], [], 0⟩ : St)) (fun k => k ≤ a.length ∧ ∀ j, j < k → a[j]? = b[j]?) (fun k => a.length - k)
      0 ⟨by omega, fun j hj => by omega⟩ none (by refine ⟨rfl, rfl, ?_, ?_⟩ <;> ((repeat' (first | exact trivial | exact rfl | refine And.intro ?_ ?_)) <;> (try ((conv => whnf); first | refine vint ?_ | refine vboo ?_ | refine rint ?_ | refine rrow ?_ | skip)) <;> (try first | omega | (simp; done) | ((repeat rw [flts_closed _ (by assumption)]); exact vws_closed _ (by assumption))))) (fun k hI => ?_)
    obtain ⟨hk, hp⟩ := hI
    refine ⟨fun h => ?_, fun h => ?_⟩
    · conv => whnf
      have hk1 : k < a.length := by simpa using h
      refine ADraw.std tyOk mx ⟨by kernel_rfl, ⟨k, rfl, hk1, k, rfl, by omega, fun h => ?_, fun h => ?_⟩⟩
      · conv => whnf
        refine ⟨?_, rfl⟩
        rw [decide_eq_false]
        rintro rfl
        simp at h
      · conv => whnf
        simp only [bne_eq_false_iff_eq, List.getD_eq_getElem?_getD] at h
        rw [w64 (by omega) (by omega)]
        refine ⟨k + 1, none, (by refine ⟨rfl, rfl, ?_, ?_⟩ <;> ((repeat' (first | exact trivial | exact rfl | refine And.intro ?_ ?_)) <;> (try ((conv => whnf); first | refine vint ?_ | refine vboo ?_ | refine rint ?_ | refine rrow ?_ | skip)) <;> (try first | omega | (simp; done) | ((repeat rw [flts_closed _ (by assumption)]); exact vws_closed _ (by assumption))))), ⟨by omega, fun j hj => ?_⟩, by omega⟩
        by_cases e : j = k
        · subst e
          rw [List.getElem?_eq_getElem hk1, List.getElem?_eq_getElem (by omega)] at h ⊢
          simpa using h
        · exact hp j (by omega)
    · conv => whnf
      refine ⟨?_, rfl⟩
      rw [decide_eq_true]
      have hk1 : ¬ k < a.length := by simpa using h
      refine List.ext_getElem? (fun i => ?_)
      by_cases hi : i < k
      · exact hp i hi
      · rw [List.getElem?_eq_none (by omega), List.getElem?_eq_none (by omega)]
end Go.Proofs.Ytkjdplglenjijaa
/- What FnLids asks: matrices, spreads, even lids. -/
namespace Go.Proofs.Ytkjdplglenjijaa
open Go.Aw
set_option maxRecDepth 100000
set_option maxHeartbeats 4000000

theorem vAdd_spec (l : List Int) (hl : l.length ≤ 1048576) : FSpec Try.prog 20 [.t (.ints .i64 l)] (ex (.c (.int .i64 (addV l))) []) := by
  refine fspec tyOk mx Try.func20 rfl (by kernel_rfl) rfl ?_
  conv => whnf
  refine aloopI tyOk mx (fun i : Nat => (⟨18, [(0, .t (.ints .i64 l)), (3, .c (.int .i64 (fo (fun s i => W (s + l.getD i 0)) 0 i))), (4, .c (.int .i64 (i)))], [], 0⟩ : St)) (fun i => i ≤ l.length) (fun i => l.length - i) 0 (Nat.zero_le _) none (by refine ⟨rfl, rfl, ?_, ?_⟩ <;> ((repeat' (first | exact trivial | exact rfl | refine And.intro ?_ ?_)) <;> (try ((conv => whnf); first | refine vint ?_ | refine vboo ?_ | refine rint ?_ | refine rrow ?_ | skip)) <;> (try first | omega | (simp; done) | ((repeat rw [flts_closed _ (by assumption)]); exact vws_closed _ (by assumption))))) (fun i hi => ?_)
  refine ⟨fun h => ?_, fun h => ?_⟩
  · have h : i < l.length := ltT h
    conv => whnf
    refine ⟨i, rfl, h, ?_⟩
    conv => whnf
    rw [nat_wrap (by omega)]
    exact ⟨i + 1, none, (by refine ⟨rfl, rfl, ?_, ?_⟩ <;> ((repeat' (first | exact trivial | exact rfl | refine And.intro ?_ ?_)) <;> (try ((conv => whnf); first | refine vint ?_ | refine vboo ?_ | refine rint ?_ | refine rrow ?_ | skip)) <;> (try first | omega | (simp; done) | ((repeat rw [flts_closed _ (by assumption)]); exact vws_closed _ (by assumption))))), by omega, by omega⟩
  · have h := ltF h
    obtain rfl : i = l.length := by omega
    conv => whnf
    exact ⟨rfl, rfl⟩

theorem nn_all {a : List (List Int)} (h : nnOk a = true) : 1 ≤ a.length ∧ a.length ≤ 6 ∧ (∀ r, r ∈ a → r.length = a.length) ∧ (∀ i k, -99 ≤ ent a i k ∧ ent a i k ≤ 99) ∧ (∀ i k, ent a i k = ent a k i) := by
  simp only [nnOk, Bool.and_eq_true] at h
  obtain ⟨⟨h1, h2⟩, h3⟩ := h
  have h1 := inR6 h1
  have h2 : ∀ r, r ∈ a → rowIn r (-99) 99 = true ∧ r.length = a.length := fun r hr => by
    have := List.all_eq_true.1 h2 r hr
    simpa [sqRow] using this
  have out : ∀ i k, ¬ (i < a.length ∧ k < a.length) → ent a i k = 0 := fun i k hik => by
    unfold ent
    by_cases hi : i < a.length
    · exact getD_out (by rw [(h2 _ (getD_mem (d := []) hi)).2]; omega)
    · rw [getD_out (l := a) hi]; rfl
  refine ⟨h1.1, h1.2, fun r hr => (h2 r hr).2, fun i k => ?_, fun i k => ?_⟩
  · by_cases hik : i < a.length ∧ k < a.length
    · exact rowIn_all (h2 _ (getD_mem (d := []) hik.1)).1 _ (getD_mem (by rw [(h2 _ (getD_mem (d := []) hik.1)).2]; exact hik.2))
    · rw [out i k hik]; omega
  · by_cases hik : i < a.length ∧ k < a.length
    · have hs : symm2 a = true := by rw [symm_eq]; exact h3
      have := List.all_eq_true.1 (List.all_eq_true.1 hs i (List.mem_range.2 hik.1)) k (List.mem_range.2 hik.2)
      exact of_decide_eq_true this
    · rw [out i k hik, out k i (fun h => hik ⟨h.2, h.1⟩)]
theorem nn_quad {a : List (List Int)} (h : nnIs a = true) (x : Nat → Int) : 0 ≤ sm (fun i => sm (fun j => ent a i j * x i * x j) a.length) a.length := by
  simp only [nnIs, Bool.and_eq_true] at h
  obtain ⟨h0, h6, hr, hb, hs⟩ := nn_all h.1
  have := never_psd h6 hb hs h.2 x
  rwa [quad_sm] at this
theorem nn_diag {a : List (List Int)} (h : nnIs a = true) {i : Nat} (hi : i < a.length) : 0 ≤ ent a i i := by
  have q := nn_quad h (fun k => if k = i then 1 else 0)
  have e : ∀ k, sm (fun j => ent a k j * (if k = i then 1 else 0) * (if j = i then 1 else 0)) a.length = if k = i then ent a k i else 0 := fun k => by
    rw [sm_congr (g := fun j => if j = i then (ent a k j * (if k = i then 1 else 0)) else 0) (fun j _ => by
      by_cases hj : j = i
      · rw [if_pos hj, if_pos hj, Int.mul_one]
      · rw [if_neg hj, if_neg hj, Int.mul_zero]), sm_one (fun j => ent a k j * (if k = i then 1 else 0)) i a.length, if_pos hi]
    by_cases hk : k = i
    · rw [if_pos hk, if_pos hk, Int.mul_one]
    · rw [if_neg hk, if_neg hk, Int.mul_zero]
  rw [sm_congr (fun k _ => e k), sm_one (fun k => ent a k i) i a.length, if_pos hi] at q
  exact q

/-- the numbers of rows, as the law draws them off a number -/
def xN (c i : Nat) : Int := W (bits .and .i64 (shr .i64 (c : Int) (W (2 * (i : Int)))) 3 - 1)
theorem and3 (x : Int) : 0 ≤ bits .and .i64 x 3 ∧ bits .and .i64 x 3 ≤ 3 := by
  have h : bits .and .i64 x 3 = IntKind.i64.wrap ((BitVec.ofInt 64 x &&& BitVec.ofInt 64 3).toNat : Int) := rfl
  have h2 : (BitVec.ofInt 64 x &&& BitVec.ofInt 64 3).toNat ≤ 3 := by
    rw [BitVec.toNat_and]
    exact Nat.le_trans Nat.and_le_right (by decide)
  rw [h]
  generalize (BitVec.ofInt 64 x &&& BitVec.ofInt 64 3).toNat = n at h2
  rw [IntKind.wrap_i64]
  omega
theorem xN_bd (c i : Nat) : -1 ≤ xN c i ∧ xN c i ≤ 2 := by
  unfold xN
  have := and3 (shr .i64 (c : Int) (W (2 * (i : Int))))
  rw [W_id (by omega) (by omega)]
  omega
theorem shl4 {n : Nat} (h1 : 1 ≤ n) (h6 : n ≤ 6) : shl .i64 1 (W (2 * (n : Int))) = ((4 ^ n : Nat) : Int) ∧ 4 ^ n ≤ 4096 := by
  have : n = 1 ∨ n = 2 ∨ n = 3 ∨ n = 4 ∨ n = 5 ∨ n = 6 := by omega
  rcases this with rfl | rfl | rfl | rfl | rfl | rfl <;> decide +kernel
theorem w2nn {n : Nat} (h : n ≤ 6) : 0 ≤ IntKind.i64.wrap (2 * (n : Int)) := by rw [w64 (by omega) (by omega)]; omega
/-- a term of the sum -/
def tN (a : List (List Int)) (c i j : Nat) : Int := ent a i j * xN c i * xN c j
theorem tN_bd {a : List (List Int)} (h : nnOk a = true) (c i j : Nat) : (-396 ≤ tN a c i j ∧ tN a c i j ≤ 396) ∧ W (W (ent a i j * xN c i) * xN c j) = tN a c i j := by
  obtain ⟨_, _, _, hb, _⟩ := nn_all h
  have h1 := mul_bd (A := 99) (B := 2) (by omega) (hb i j) (by have := xN_bd c i; omega : -2 ≤ xN c i ∧ xN c i ≤ 2)
  have h2 := mul_bd (A := 198) (B := 2) (by omega) (by omega : -198 ≤ ent a i j * xN c i ∧ ent a i j * xN c i ≤ 198) (by have := xN_bd c j; omega : -2 ≤ xN c j ∧ xN c j ≤ 2)
  refine ⟨by unfold tN; omega, ?_⟩
  rw [W_id (n := ent a i j * xN c i) (by omega) (by omega)]
  exact W_id (by omega) (by omega)
/-- the sum so far -/
def sN (a : List (List Int)) (c i j : Nat) : Int := sm (fun i => sm (tN a c i) a.length) i + sm (tN a c i) j
theorem sN_next (a : List (List Int)) (c i : Nat) : sN a c i a.length = sN a c (i + 1) 0 := by
  unfold sN; simp only [sm]; omega
theorem sN_step {a : List (List Int)} (h : nnOk a = true) (c i j : Nat) : W (W (sN a c i j) + W (W (ent a i j * xN c i) * xN c j)) = W (sN a c i (j + 1)) := by
  rw [(tN_bd h c i j).2, W_ladd]
  unfold sN; simp only [sm]
  rw [Int.add_assoc]
theorem sN_end {a : List (List Int)} (h : nnIs a = true) (c : Nat) : ¬ W (sN a c a.length 0) < 0 := by
  have h0 : nnOk a = true := by simp only [nnIs, Bool.and_eq_true] at h; exact h.1
  obtain ⟨h1, h6, _⟩ := nn_all h0
  have e : sN a c a.length 0 = sm (fun i => sm (tN a c i) a.length) a.length := by unfold sN; simp [sm]
  have q := nn_quad h (xN c)
  have b1 : ∀ i, i < a.length → -2376 ≤ sm (tN a c i) a.length ∧ sm (tN a c i) a.length ≤ 2376 := fun i hi => by
    have := sm_bd (b := 396) (n := a.length) (f := tN a c i) (fun j hj => (tN_bd h0 c i j).1)
    omega
  have b2 := sm_bd (b := 2376) (n := a.length) (f := fun i => sm (tN a c i) a.length) b1
  rw [e, W_id (by omega) (by omega)]
  have q : 0 ≤ sm (fun i => sm (tN a c i) a.length) a.length := q
  omega

theorem spr_nn (m rows places : List (List Int)) : 0 ≤ sprLen m rows places := by
  unfold sprLen
  split
  · rename_i hs
    simp only [sprOk, sprRow, Bool.and_eq_true, decide_eq_true_eq, List.all_eq_true] at hs
    obtain ⟨⟨_, h3⟩, h4⟩ := hs
    have h3 : 1 ≤ ((rows.getD 0 []).length : Int) ∧ ((rows.getD 0 []).length : Int) ≤ 4 := by simpa [inR] using h3
    have hr : 0 < rows.length := by
      rcases hb : rows with _ | ⟨r, l⟩
      · subst hb; simp at h3
      · simp
    have h := h4 _ (List.mem_append.2 (.inl (getD_mem (d := []) hr)))
    have h9 := in9_of h.1.1
    rw [(dot_ex h9 h9 (by omega)).1]
    exact sm_pos fun c _ => sq_nn _
  · exact Int.le_refl 0
theorem spr_eq (m rows places : List (List Int)) : isSpr m rows places = swOk m rows places := by
  have h := spr_nn m rows places
  unfold isSpr swOk
  congr 1
  by_cases h0 : sprLen m rows places = 0
  · rw [decide_eq_false (by omega), decide_eq_false (by omega)]
  · rw [decide_eq_true (by omega), decide_eq_true (by omega)]

/-- what the even lid is -/
theorem even_of {m : List (List Int)} {k : Int} (h : evOk m k = true) : ldOk m k = true ∧ ∃ d : Nat, d < 100 ∧ evL m k = List.replicate (m.length + (m.getD 0 []).length) (d : Int) ∧ lidB m (evL m k) k = true ∧
    ∀ e : Nat, e < d → lidB m (List.replicate (m.length + (m.getD 0 []).length) (e : Int)) k = false := by
  have h0 := h
  simp only [evOk, Bool.and_eq_true] at h
  obtain ⟨hk, hd⟩ := h
  obtain ⟨d, hd⟩ := Option.isSome_iff_exists.1 hd
  have hd2 := hd
  rw [evD, List.find?_range_eq_some] at hd2
  obtain ⟨p1, p2, p3⟩ := hd2
  have e : evL m k = List.replicate (m.length + (m.getD 0 []).length) (d : Int) := by rw [evL, if_pos h0, evR, hd]; rfl
  refine ⟨hk, d, by simpa using p2, e, by rw [e]; exact p1, fun j hj => ?_⟩
  have := p3 j hj
  simpa [evAt] using this
end Go.Proofs.Ytkjdplglenjijaa
/- Calls that write a variable of their caller which also holds what is read-only. -/
namespace Go.Aw
open Go.RowKit

def tcells : List AVal → Bool
  | [] => true
  | .c _ :: r => tcells r
  | .t _ :: r => tcells r
  | _ => false

def tRow : ARow → Bool
  | .cells _ (x :: l) => tcells (x :: l)
  | _ => false

/-- plain values, what is read-only, and the place of the variable -/
def pargs : List AVal → List AVal → Bool
  | [], [] => true
  | .c _ :: l, .c _ :: r => pargs l r
  | .ptr _ _ :: l, .ptr 0 0 :: r => pargs l r
  | .t _ :: l, .t _ :: r => pargs l r
  | _, _ => false

mutual
/-- a result told of what is read-only: rows of the call's own (but the variable, key 0) are given away as read-only -/
def clv (hp : List (Nat × ARow)) : AVal → Option AVal
  | .c v => some (.c v)
  | .t t => some (.t t)
  | .own k => match k with
    | 0 => none
    | k + 1 => match look hp (k + 1) with
      | some r => match closeRow r with
        | some t => some (.t t)
        | none => none
      | none => none
  | .ag l => match clvs hp l with
    | some l' => some (.ag l')
    | none => none
  | .tu l => match clvs hp l with
    | some l' => some (.tu l')
    | none => none
  | _ => none
def clvs (hp : List (Nat × ARow)) : List AVal → Option (List AVal)
  | [] => some []
  | a :: r => match clv hp a with
    | none => none
    | some b => match clvs hp r with
      | none => none
      | some r' => some (b :: r')
end

mutual
def shut : AVal → Bool
  | .c _ => true
  | .t _ => true
  | .ag l => shuts l
  | .tu l => shuts l
  | _ => false
def shuts : List AVal → Bool
  | [] => true
  | a :: r => shut a && shuts r
end

def resx (l : List AVal) : AVal :=
  match l with
  | [x] => x
  | l => .tu l

section
variable {P : Program} {Γ : Tys} {w0 : Base} {w w' : World} {ob : Nat → Prop} {st : St} {a : Act} {η : Env}

mutual
theorem shut_rep {bad bad' : Nat → Prop} {hp hp' : List (Nat × ARow)} {nx nx' : Nat} {η η' : Env} (hk : Keeps w bad w' bad') : ∀ (x : AVal) {v : Value}, shut x = true → VRep w bad hp nx η x v → VRep w' bad' hp' nx' η' x v
  | .c _, _, _, hv => hv
  | .t _, _, _, hv => TRep.keeps hk hv
  | .ag l, _, h, ⟨cs, e, hv⟩ => ⟨cs, e, shuts_rep hk l (by simpa [shut] using h) hv⟩
  | .tu l, _, h, ⟨cs, e, hv⟩ => ⟨cs, e, shuts_rep hk l (by simpa [shut] using h) hv⟩
  | .un, _, h, _ => by simp [shut] at h
  | .own _, _, h, _ => by simp [shut] at h
  | .sub _ _, _, h, _ => by simp [shut] at h
  | .ptr _ _, _, h, _ => by simp [shut] at h
  | .subp _ _ _, _, h, _ => by simp [shut] at h
  | .adr _ _, _, h, _ => by simp [shut] at h
  | .rp _ _, _, h, _ => by simp [shut] at h
  | .clo _ _, _, h, _ => by simp [shut] at h
  | .knot _ _ _, _, h, _ => by simp [shut] at h
  | .nul, _, h, _ => by simp [shut] at h
theorem shuts_rep {bad bad' : Nat → Prop} {hp hp' : List (Nat × ARow)} {nx nx' : Nat} {η η' : Env} (hk : Keeps w bad w' bad') : ∀ (l : List AVal) {vs : List Value}, shuts l = true → VReps w bad hp nx η l vs → VReps w' bad' hp' nx' η' l vs
  | [], [], _, _ => trivial
  | x :: l, v :: vs, h, hv => by
    simp only [shuts, Bool.and_eq_true] at h
    exact ⟨shut_rep hk x h.1 hv.1, shuts_rep hk l h.2 hv.2⟩
  | [], _ :: _, _, h => h.elim
  | _ :: _, [], _, h => h.elim
end

mutual
theorem clv_shut {hp : List (Nat × ARow)} : ∀ (x : AVal) {y : AVal}, clv hp x = some y → shut y = true ∧ vw hp [(0, .row 0)] 1 x y
  | .c v, y, h => by simp only [clv, Option.some.injEq] at h; subst h; exact ⟨rfl, rfl⟩
  | .t t, y, h => by simp only [clv, Option.some.injEq] at h; subst h; exact ⟨rfl, rfl⟩
  | .own 0, y, h => by simp [clv] at h
  | .own (k + 1), y, h => by
    simp only [clv] at h
    split at h
    · rename_i r hr
      split at h
      · rename_i t ht
        simp only [Option.some.injEq] at h
        subst h
        refine ⟨rfl, ?_⟩
        show keyIn (k + 1) [(0, Org.row 0)] = false ∧ (match look hp (k + 1) with | some r => closeRow r = some t | none => False)
        rw [hr]
        exact ⟨rfl, ht⟩
      · cases h
    · cases h
  | .ag l, y, h => by
    simp only [clv] at h
    split at h
    · rename_i l' hl
      simp only [Option.some.injEq] at h
      subst h
      obtain ⟨h1, h2⟩ := clvs_shut l hl
      exact ⟨by simpa [shut] using h1, h2⟩
    · cases h
  | .tu l, y, h => by
    simp only [clv] at h
    split at h
    · rename_i l' hl
      simp only [Option.some.injEq] at h
      subst h
      obtain ⟨h1, h2⟩ := clvs_shut l hl
      exact ⟨by simpa [shut] using h1, h2⟩
    · cases h
  | .un, _, h => by simp [clv] at h
  | .sub _ _, _, h => by simp [clv] at h
  | .ptr _ _, _, h => by simp [clv] at h
  | .subp _ _ _, _, h => by simp [clv] at h
  | .adr _ _, _, h => by simp [clv] at h
  | .rp _ _, _, h => by simp [clv] at h
  | .clo _ _, _, h => by simp [clv] at h
  | .knot _ _ _, _, h => by simp [clv] at h
  | .nul, _, h => by simp [clv] at h
theorem clvs_shut {hp : List (Nat × ARow)} : ∀ (l : List AVal) {l' : List AVal}, clvs hp l = some l' → shuts l' = true ∧ vws hp [(0, .row 0)] 1 l l'
  | [], l', h => by simp only [clvs, Option.some.injEq] at h; subst h; exact ⟨rfl, trivial⟩
  | x :: l, l', h => by
    simp only [clvs] at h
    split at h
    · cases h
    · rename_i y hy
      split at h
      · cases h
      · rename_i r' hr
        simp only [Option.some.injEq] at h
        subst h
        obtain ⟨a1, a2⟩ := clv_shut x hy
        obtain ⟨b1, b2⟩ := clvs_shut l hr
        exact ⟨by simp [shuts, a1, b1], a2, b2⟩
end

theorem tcells_vws {hp : List (Nat × ARow)} {R : List (Nat × Org)} {nx : Nat} : ∀ {l : List AVal}, tcells l = true → vws hp R nx l l
  | [], _ => trivial
  | .c _ :: l, h => ⟨rfl, tcells_vws (l := l) (by simpa [tcells] using h)⟩
  | .t _ :: l, h => ⟨rfl, tcells_vws (l := l) (by simpa [tcells] using h)⟩
  | .un :: _, h => by simp [tcells] at h
  | .ag _ :: _, h => by simp [tcells] at h
  | .tu _ :: _, h => by simp [tcells] at h
  | .own _ :: _, h => by simp [tcells] at h
  | .sub _ _ :: _, h => by simp [tcells] at h
  | .ptr _ _ :: _, h => by simp [tcells] at h
  | .subp _ _ _ :: _, h => by simp [tcells] at h
  | .adr _ _ :: _, h => by simp [tcells] at h
  | .rp _ _ :: _, h => by simp [tcells] at h
  | .clo _ _ :: _, h => by simp [tcells] at h
  | .knot _ _ _ :: _, h => by simp [tcells] at h
  | .nul :: _, h => by simp [tcells] at h

theorem resx_rep {bad : Nat → Prop} {hp : List (Nat × ARow)} {nx : Nat} {η : Env} : ∀ {l : List AVal} {us : List Value}, VReps w bad hp nx η l us → VRep w bad hp nx η (resx l) (if hh : us.toArray.size = 1 then us.toArray[0] else .tuple us.toArray)
  | [x], [u], h => by rw [dif_pos (by rfl)]; exact h.1
  | [], [], h => by rw [dif_neg (by simp)]; exact ⟨_, rfl, h⟩
  | x :: y :: l, u :: v :: us, h => by rw [dif_neg (by simp)]; exact ⟨_, rfl, h⟩
  | [_], [], h => h.elim
  | [_], _ :: _ :: _, h => h.2.elim
  | [], _ :: _, h => h.elim
  | _ :: _ :: _, [], h => h.elim
  | _ :: _ :: _, [_], h => h.2.elim

theorem tcells_rep {bad bad' : Nat → Prop} {hp hp' : List (Nat × ARow)} {nx nx' : Nat} {η η' : Env} (hk : Keeps w bad w bad') : ∀ {l : List AVal} {vs : List Value}, tcells l = true → VReps w bad hp nx η l vs → VReps w bad' hp' nx' η' l vs
  | [], [], _, _ => trivial
  | .c _ :: l, _ :: vs, h, hv => ⟨hv.1, tcells_rep hk (l := l) (by simpa [tcells] using h) hv.2⟩
  | .t _ :: l, _ :: vs, h, hv => ⟨TRep.keeps hk hv.1, tcells_rep hk (l := l) (by simpa [tcells] using h) hv.2⟩
  | [], _ :: _, _, h => h.elim
  | .c _ :: _, [], _, h => h.elim
  | .t _ :: _, [], _, h => h.elim
  | .un :: _, _, h, _ => by simp [tcells] at h
  | .ag _ :: _, _, h, _ => by simp [tcells] at h
  | .tu _ :: _, _, h, _ => by simp [tcells] at h
  | .own _ :: _, _, h, _ => by simp [tcells] at h
  | .sub _ _ :: _, _, h, _ => by simp [tcells] at h
  | .ptr _ _ :: _, _, h, _ => by simp [tcells] at h
  | .subp _ _ _ :: _, _, h, _ => by simp [tcells] at h
  | .adr _ _ :: _, _, h, _ => by simp [tcells] at h
  | .rp _ _ :: _, _, h, _ => by simp [tcells] at h
  | .clo _ _ :: _, _, h, _ => by simp [tcells] at h
  | .knot _ _ _ :: _, _, h, _ => by simp [tcells] at h
  | .nul :: _, _, h, _ => by simp [tcells] at h

theorem pargs_rep {badS bad bad' : Nat → Prop} {hpS hp : List (Nat × ARow)} {nxS nx nx' : Nat} {ηS η1 : Env} {R : List (Nat × Org)} (hk : Keeps w badS w bad') : ∀ (l l0 : List AVal) (vs : List Value), pargs l l0 = true → vws hpS R nx' l l0 →
    VReps w badS hpS nxS ηS l vs → VReps w bad hp nx η1 l0 vs → VReps w bad' hp nx η1 l0 vs
  | l, l0, vs, h, hv, hs, h0 => by
    unfold pargs at h
    split at h
    · cases vs with
      | nil => trivial
      | cons => exact h0.elim
    · cases vs with
      | nil => exact h0.elim
      | cons v vs => exact ⟨h0.1, pargs_rep hk _ _ vs h hv.2 hs.2 h0.2⟩
    · cases vs with
      | nil => exact h0.elim
      | cons v vs => exact ⟨h0.1, pargs_rep hk _ _ vs h hv.2 hs.2 h0.2⟩
    · rename_i t l t' r
      cases vs with
      | nil => exact h0.elim
      | cons v vs =>
        have e : t = t' := hv.1
        subst e
        exact ⟨TRep.keeps hk hs.1, pargs_rep hk _ _ vs h hv.2 hs.2 h0.2⟩
    · cases h
termination_by l => l.length

/-- A FUNCTION THAT WRITES A VARIABLE OF ITS CALLER (key 0), in which read-only slices may stand: it hands back a plain value -/
def TSpec (P : Program) (f : FuncId) (r0 : ARow) (args : List AVal) (post : AVal → ARow → Prop) : Prop := FOk P f ∧
  ∀ (w : World) (B : Nat) (ob : Nat → Prop) (η : Env) (vs : List Value), B ≤ w.heap.size → (∀ b, ob b → b < w.heap.size) → (∀ b, b ∈ bsOf η 0 r0 → ¬ ob b) →
    HRep w B ob [(0, r0)] 1 η → VReps w (badOf ob [(0, r0)] η) [(0, r0)] 1 η args vs →
    Calls P f vs.toArray w fun e w' => ∃ v x r' η', e = .returned v ∧ VRep w' (badOf ob [(0, r')] η') [] 0 η0 x v ∧ shut x = true ∧ post x r' ∧ Below B w w' ∧
      (∀ b, b < w.heap.size → b ∉ bsOf η 0 r0 → w'.heap[b]? = w.heap[b]?) ∧ tRow r' = true ∧ RowRep w' B (badOf ob [(0, r')] η') [(0, r')] 1 η' 0 r' ∧ (bsOf η' 0 r').Nodup ∧
      (∀ b, b ∈ bsOf η' 0 r' → b ∈ bsOf η 0 r0 ∨ w.heap.size ≤ b) ∧ r'.kind = r0.kind ∧ η'.val 0 = η.val 0 ∧ (η'.cel 0).length = (η.cel 0).length

def tfin (sz : Nat) (r0 : ARow) (post : AVal → ARow → Prop) (st : St) (l : List AVal) : Prop :=
  match clv st.hp (resx l) with
  | some x => match look st.sl sz with
    | some g => match look st.hp 0 with
      | some r' => match Nat.beq r'.kind r0.kind && isGhost r' g && tRow r' && sameLen r0 r' && Nat.beq st.sz sz with
        | true => post x r'
        | false => False
      | none => False
    | none => False
  | none => False

def tend (Γ : Tys) (rs : List ResultVar) (sz : Nat) (r0 : ARow) (post : AVal → ARow → Prop) : Exit → St → Prop
  | .ret, st => ares Γ st rs (tfin sz r0 post st)
  | .normal, st => ares Γ st rs (tfin sz r0 post st)
  | _, _ => False

theorem tspec (hΓ : TysOk P Γ) (hm : P.follows .mixedOrders = true) {f : FuncId} {fn : Func} {c : Code} {r0 : ARow} {args : List AVal} {post : AVal → ARow → Prop} (hf : P.funcs[f]? = some fn) (hb : fn.body = some c)
    (hname : (fn.name == "runtime.NumGoroutine") = false) (hn : Nat.ble args.length fn.ntmps = true) (hg : tRow r0 = true)
    (h : acode P Γ c ⟨fn.ntmps, (fn.ntmps, ghostOf r0) :: initSl 0 args, [(0, r0)], 1⟩ (tend Γ fn.results.toList fn.ntmps r0 post)) : TSpec P f r0 args post := by
  refine ⟨⟨fn, hf, hname, by rw [hb]; rfl⟩, fun w B ob η vs hB hobl hfree hh hvs => ?_⟩
  refine calls_of_wp hf hb ?_
  have hle := Nat.le_of_ble_eq_true hn
  have hlen := VReps.length hvs
  have hr0 : look [(0, r0)] 0 = some r0 := rfl
  have hrow0 := hh.row 0 r0 hr0
  have hone : ∀ k r, look [(0, r0)] k = some r → k = 0 ∧ r = r0 := fun k r hk => by
    rw [look_cons] at hk
    split at hk
    · rename_i h0; exact ⟨h0.symm, (Option.some.inj hk).symm⟩
    · cases hk
  let γ : Nat → Value := fun i => if i = fn.ntmps then η.val 0 else undef
  let W0 : Base := ⟨w, B, fun b => b ∈ bsOf η 0 r0, γ⟩
  have hs : SRep W0 ob ⟨fn.ntmps, (fn.ntmps, ghostOf r0) :: initSl 0 args, [(0, r0)], 1⟩ { tmps := vs.toArray ++ Array.replicate (fn.ntmps - vs.toArray.size) undef, defers := [] } w η := by
    have hsz : (vs.toArray ++ Array.replicate (fn.ntmps - vs.toArray.size) undef).size = fn.ntmps := by simp; omega
    refine ⟨rfl, hsz, Below.refl _ _, ⟨hB, hobl, hfree⟩, fun _ _ _ => rfl, fun b ⟨k, r, hk, hb⟩ => ?_, hh, fun i x hi => ?_⟩
    · obtain ⟨rfl, rfl⟩ := hone k r hk; exact .inl hb
    · simp only at hi
      rw [look_cons] at hi
      split at hi
      · rename_i hni
        subst hni
        have hx := Option.some.inj hi
        subst hx
        have hget : (vs.toArray ++ Array.replicate (fn.ntmps - vs.toArray.size) undef).getD fn.ntmps (W0.γ fn.ntmps) = η.val 0 := by
          have : W0.γ fn.ntmps = η.val 0 := if_pos rfl
          rw [Array.getD_eq_getD_getElem?, Array.getElem?_eq_none (by rw [hsz]; exact Nat.le_refl _), this]; rfl
        rw [hget]
        match r0, hg, hrow0, hone with
        | .ints .., hg, _, _ => simp [tRow] at hg
        | .rows .., hg, _, _ => simp [tRow] at hg
        | .recs .., hg, _, _ => simp [tRow] at hg
        | .cells _ [], hg, _, _ => simp [tRow] at hg
        | .cells _ (y :: l), _, hrow0, _ =>
          obtain ⟨b, h1, _, _, h4⟩ := hrow0
          have := VReps.length h4
          exact ⟨Nat.one_pos, fun r _ => ⟨by rw [← this]; simp, b, by rw [h1]; rfl, h1⟩⟩
      · rename_i hni
        obtain ⟨v, _, h2, h3⟩ := init_look' hvs i x hi
        simp only [Nat.sub_zero] at h2
        have hlt : i < vs.length := (List.getElem?_eq_some_iff.1 h2).1
        have : (vs.toArray ++ Array.replicate (fn.ntmps - vs.toArray.size) undef).getD i (W0.γ i) = v := by
          rw [Array.getD_eq_getD_getElem?, Array.getElem?_append_left (by simpa using hlt)]
          simp [h2]
        rw [this]
        exact h3
  refine wp_mono (acode_sound (w0 := W0) hΓ hm c _ _ _ w h ⟨η, hs⟩) (fun e a' w' hl => ?_)
  obtain ⟨st', hk, η', hs'⟩ := hl
  have fin : ares Γ st' fn.results.toList (tfin fn.ntmps r0 post st') → ∃ v, (results fn a'.tmps).run P w' = .ok v w' ∧ ∃ v' x r' η', Ending.returned v = .returned v' ∧ VRep w' (badOf ob [(0, r')] η') [] 0 η0 x v' ∧ shut x = true ∧ post x r' ∧ Below B w w' ∧
      (∀ b, b < w.heap.size → b ∉ bsOf η 0 r0 → w'.heap[b]? = w.heap[b]?) ∧ tRow r' = true ∧ RowRep w' B (badOf ob [(0, r')] η') [(0, r')] 1 η' 0 r' ∧ (bsOf η' 0 r').Nodup ∧
      (∀ b, b ∈ bsOf η' 0 r' → b ∈ bsOf η 0 r0 ∨ w.heap.size ≤ b) ∧ r'.kind = r0.kind ∧ η'.val 0 = η.val 0 ∧ (η'.cel 0).length = (η.cel 0).length := fun hk => by
    obtain ⟨xs, us, h1, h2, h3⟩ := ares_sound hΓ hs' hk
    have hres := results_run h3
    unfold tfin at h1
    split at h1
    case h_2 => exact h1.elim
    case h_1 x hx =>
      obtain ⟨hsh, hvw⟩ := clv_shut (resx xs) hx
      have hres0 := resx_rep h2
      split at h1
      case h_2 => exact h1.elim
      case h_1 g hgl =>
        split at h1
        case h_2 => exact h1.elim
        case h_1 r' hr' =>
          split at h1
          case h_2 => exact h1.elim
          case h_1 hc =>
            simp only [Bool.and_eq_true] at hc
            obtain ⟨⟨⟨⟨c1, c2⟩, c3⟩, c4⟩, c5⟩ := hc
            have hsz' := Nat.eq_of_beq_eq_true c5
            have hkind := Nat.eq_of_beq_eq_true c1
            · have hrow' := hs'.heap.row 0 r' hr'
              have hkeep : Keeps w' (badOf ob st'.hp η') w' (badOf ob [(0, r')] η') := fun b o x hb hc => by
                refine ⟨?_, hc⟩
                rintro (h1 | ⟨j, r1, hj, hm⟩)
                · exact hb (.inl h1)
                · rw [look_cons] at hj
                  split at hj
                  · rename_i h0
                    subst h0
                    obtain rfl := Option.some.inj hj
                    exact hb (.inr ⟨0, _, hr', hm⟩)
                  · cases hj
              have hfrm : ∀ b, b < w.heap.size → b ∉ bsOf η 0 r0 → w'.heap[b]? = w.heap[b]? := fun b hb hnb => hs'.frame b hb hnb
              have hsrc : ∀ b, b ∈ bsOf η' 0 r' → b ∈ bsOf η 0 r0 ∨ w.heap.size ≤ b := fun b hb => hs'.src b ⟨0, r', hr', hb⟩
              have hnod := hs'.heap.nodup 0 r' hr'
              match r0, r', g, hg, c2, c3, c4, hrow0, hrow', hr', hgl, hkeep, hkind, h1, hfrm, hsrc, hnod with
              | .cells _ (y0 :: l0), .cells e (y :: l), .ptr 0 0, _, _, c3, c4, hrow0, hrow', hr', hgl, hkeep, hkind, h1, hfrm, hsrc, hnod =>
                obtain ⟨b0, p1, p2, p3, p4⟩ := hrow0
                obtain ⟨b1, q1, q2, q3, q4⟩ := hrow'
                have hslot := hs'.slot _ _ hgl
                have hget : a'.tmps.getD fn.ntmps (W0.γ fn.ntmps) = η.val 0 := by
                  have e1 : W0.γ fn.ntmps = η.val 0 := if_pos rfl
                  rw [Array.getD_eq_getD_getElem?, Array.getElem?_eq_none (by rw [hs'.size, hsz']; exact Nat.le_refl _), e1]; rfl
                rw [hget] at hslot
                have hval : η'.val 0 = η.val 0 := by
                  obtain ⟨_, b', e2, e3⟩ := hslot.2 _ hr'
                  rw [q1, ptr_blk] at e2
                  simp only [List.cons.injEq, and_true] at e2
                  rw [q1, e3, e2]
                have hlen' : (η'.cel 0).length = (η.cel 0).length := by
                  have l0' := VReps.length p4
                  have l1' := VReps.length q4
                  have := Nat.eq_of_beq_eq_true c4
                  omega
                have hrv : rowsVw st'.hp [(0, Org.row 0)] 1 [(0, .cells e (y :: l))] := ⟨rfl, by
                  show rowVw st'.hp [(0, Org.row 0)] 1 (.row 0) _
                  simp only [rowVw, hr']
                  exact ⟨trivial, tcells_vws c3⟩, trivial⟩
                have hvr := vw_sound hs'.heap (fun b hb => hs'.free hb) hrv (resx xs) x hvw hres0
                have hkk : Keeps w' (badOf ob [(0, .cells e (y :: l))] (ηV st'.hp η' [(0, Org.row 0)])) w' (badOf ob [(0, .cells e (y :: l))] η') := fun b o z hb hc => by
                  refine ⟨?_, hc⟩
                  rintro (k1 | ⟨j, r1, hj, hm⟩)
                  · exact hb (.inl k1)
                  · rw [look_cons] at hj
                    split at hj
                    · rename_i h0
                      subst h0
                      obtain rfl := Option.some.inj hj
                      exact hb (.inr ⟨0, _, rfl, hm⟩)
                    · cases hj
                have hvr' := shut_rep (hp' := []) (nx' := 0) (η' := η0) hkk x hsh hvr
                refine ⟨_, hres, _, x, .cells e (y :: l), η', rfl, hvr', hsh, h1, hs'.below, hfrm, c3, ⟨b1, q1, q2, q3, tcells_rep hkeep c3 q4⟩, hnod, hsrc, hkind, hval, hlen'⟩
  cases e with
  | ret => exact ⟨hs'.defers, fin hk⟩
  | normal => exact ⟨hs'.defers, fin hk⟩
  | _ => exact hk.elim

/-- a variable's cells have become others -/
theorem SRep.mutT (h : SRep w0 ob st a w η) {k : Nat} {r r' : ARow} {cs' : List Value} (hr : look st.hp k = some r) (hkind : r'.kind = r.kind) (hlen : (η.cel k).length ≤ cs'.length)
    (hw : ∀ b, b < w.heap.size → b ∉ bsOf η k r → w'.heap[b]? = w.heap[b]?) (hB : Below w0.B w w')
    (hnd : (bsOf (η.upd k (η.val k) cs') k r').Nodup) (hfr : ∀ b, b ∈ bsOf (η.upd k (η.val k) cs') k r' → b ∈ bsOf η k r ∨ w.heap.size ≤ b)
    (hrow : RowRep w' w0.B (badOf ob ((st.killSub k).upd k r').hp (η.upd k (η.val k) cs')) ((st.killSub k).upd k r').hp st.nx (η.upd k (η.val k) cs') k r') :
    SRep w0 ob ((st.killSub k).upd k r') a w' (η.upd k (η.val k) cs') := by
  have hoth : ∀ j r1, j ≠ k → look ((st.killSub k).upd k r').hp j = some r1 → ∃ r, look st.hp j = some r ∧ r1 = r.flt (fun _ => true) (ne k) := fun j r1 hj h1 => by
    simp only [St.upd, St.killSub, look_upd, if_neg (Ne.symm hj), look_fltH] at h1
    obtain ⟨r, h2, rfl⟩ := Option.map_eq_some_iff.1 h1
    exact ⟨r, h2, rfl⟩
  have hk' : look ((st.killSub k).upd k r').hp k = some r' := by simp only [St.upd, look_upd, if_true]
  have hok : ∀ j, j < st.nx → OwnOk st.hp η ((st.killSub k).upd k r').hp (η.upd k (η.val k) cs') j := fun j _ => by
    by_cases hjk : j = k
    · subst hjk
      exact ⟨fun r1 h1 => by rw [hk'] at h1; obtain rfl := Option.some.inj h1; exact ⟨r, hr, hkind.symm, upd_val _ _ _ _, by rw [upd_cel]; exact hlen⟩⟩
    · exact OwnOk.of (fun r1 h1 => by obtain ⟨r, h2, rfl⟩ := hoth j r1 hjk h1; exact ⟨r, h2, (kind_flt _ _ r).symm⟩) (upd_ne _ _ _ _ j hjk).1 (upd_ne _ _ _ _ j hjk).2
  have hsk : ∀ j, j < st.nx → ne k j = true → SubOk st.hp η ((st.killSub k).upd k r').hp (η.upd k (η.val k) cs') j := fun j _ hj => by
    have hjk := (ne_spec k j).1 hj
    exact SubOk.of (fun r1 h1 => by obtain ⟨r, h2, rfl⟩ := hoth j r1 hjk h1; exact ⟨r, h2, (kind_flt _ _ r).symm⟩) (upd_ne _ _ _ _ j hjk).2
  obtain ⟨hh, hkp⟩ := HRep.step (k := k) (hp' := ((st.killSub k).upd k r').hp) (nx' := st.nx) (η' := η.upd k (η.val k) cs') (w' := w') h.heap (fun _ => true) (ne k) r' (h.heap.lt k r hr) (Nat.le_refl _)
    (fun j r1 hj h1 => hoth j r1 hj h1) hk' (fun j hj => upd_ne _ _ _ _ j hj)
    (fun b hb hn => hw b hb (hn r hr)) (fun j hj _ => hok j hj) hsk hnd
    (fun b hb => (hfr b hb).imp (fun h1 => ⟨k, r, hr, h1, .inl rfl⟩) id) (fun _ => hrow)
  exact h.heapStep (fun _ => true) (ne k) hB hh hkp (Nat.le_refl _) (fun j hj _ => hok j hj) hsk

theorem tmut_core {f : FuncId} {args args0 : List AVal} {r0 : ARow} {K : AVal → St → Prop} {post : AVal → ARow → Prop} (k : Nat) (hs : TSpec P f r0 args0 post)
    (hk : ∀ x r', post x r' → K x ((st.killSub k).upd k r')) (hlk : look st.hp k = some r0) (hv : vws st.hp [(0, .row k)] 1 args args0) (hr : rowVw st.hp [(0, .row k)] 1 (.row k) r0)
    (hp : pargs args args0 = true) (ht : tRow r0 = true) (h : SRep w0 ob st a w η) (vs : List Value) (hvs : VReps w (fun b => ob b ∨ ownB st.hp η b) st.hp st.nx η args vs) :
    Calls P f vs.toArray w fun e w' => (∃ v x st' η', e = .returned v ∧ K x st' ∧ st'.sz = st.sz ∧ SRep w0 ob st' a w' η' ∧ VRep w' (fun b => ob b ∨ ownB st'.hp η' b) st'.hp st'.nx η' x v) ∧
      w.heap.size ≤ w'.heap.size ∧ ∀ b, b < w.heap.size → b ∉ bsOf η k r0 → w'.heap[b]? = w.heap[b]? := by
  have hrv : rowsVw st.hp [(0, .row k)] 1 [(0, r0)] := ⟨rfl, hr, trivial⟩
  have hfree : ∀ b, ownB st.hp η b → ¬ ob b := fun b hb => h.free hb
  have ha0 := vws_sound (R := [(0, .row k)]) (nx' := 1) h.heap hfree hrv args args0 hv hvs
  let η1 : Env := ηV st.hp η [(0, Org.row k)]
  let ob1 : Nat → Prop := fun b => ob b ∨ ∃ j r, j ≠ k ∧ look st.hp j = some r ∧ b ∈ bsOf η j r
  have hv0 : η1.val 0 = η.val k := rfl
  have hc0 : η1.cel 0 = η.cel k := rfl
  have hbs : ∀ r, bsOf η1 0 r = bsOf η k r := fun r => by simp only [bsOf, hv0, hc0]
  have hone : ∀ j r, look [(0, r0)] j = some r → j = 0 ∧ r = r0 := fun j r hk => by
    rw [look_cons] at hk
    split at hk
    · rename_i h0; exact ⟨h0.symm, (Option.some.inj hk).symm⟩
    · cases hk
  have hdis : ∀ b, b ∈ bsOf η1 0 r0 → ¬ ob1 b := fun b hb => by
    rw [hbs] at hb
    rintro (h1 | ⟨j, r, hj, hl, hm⟩)
    · exact hfree b ⟨k, r0, hlk, hb⟩ h1
    · exact h.heap.apart j r k r0 hl hlk hj b hm hb
  have hkeep : Keeps w (badOf ob st.hp η) w (badOf ob1 [(0, r0)] η1) := fun b o x hb hc => by
    refine ⟨?_, hc⟩
    rintro ((h1 | ⟨j, r, _, hl, hm⟩) | ⟨j, r, hj, hm⟩)
    · exact hb (.inl h1)
    · exact hb (.inr ⟨j, r, hl, hm⟩)
    · obtain ⟨rfl, rfl⟩ := hone j r hj
      rw [hbs] at hm
      exact hb (.inr ⟨k, _, hlk, hm⟩)
  have hh1 : HRep w w0.B ob1 [(0, r0)] 1 η1 := by
    refine ⟨fun j r hj => ?_, fun j r hj => ?_, fun j r j' r' hj hj' hne => ?_, fun j r hj => ?_⟩
    · obtain ⟨rfl, rfl⟩ := hone j r hj
      have hrow := h.heap.row k _ hlk
      match r, ht, hrow with
      | .cells e (y :: l), ht, ⟨b, p1, p2, p3, p4⟩ => exact ⟨b, by rw [hv0]; exact p1, p2, by rw [hc0]; exact p3, by rw [hc0]; exact tcells_rep hkeep ht p4⟩
      | .cells _ [], ht, _ => simp [tRow] at ht
      | .ints .., ht, _ => simp [tRow] at ht
      | .rows .., ht, _ => simp [tRow] at ht
      | .recs .., ht, _ => simp [tRow] at ht
    · obtain ⟨rfl, rfl⟩ := hone j r hj
      rw [hbs]; exact h.heap.nodup k _ hlk
    · obtain ⟨rfl, rfl⟩ := hone j r hj
      obtain ⟨rfl, rfl⟩ := hone j' r' hj'
      exact absurd rfl hne
    · obtain ⟨rfl, rfl⟩ := hone j r hj
      exact Nat.one_pos
  refine (hs.2 w w0.B ob1 η1 vs (wB h) (fun b hb => ?_) hdis hh1 (pargs_rep hkeep args args0 vs hp hv hvs ha0)).mono ?_
  · rcases hb with h1 | ⟨j, r, _, hl, hm⟩
    · exact h.badlt (.inl h1)
    · exact h.badlt (.inr ⟨j, r, hl, hm⟩)
  · rintro e w' ⟨v, x, r', η', rfl, hvx, hsh, hpo, hbel, hfrm, ht', hrow, hnd, hsrc, hkind, hval, hlen⟩
    have hu : (η.upd k (η.val k) (η'.cel 0)).val k = η'.val 0 := by rw [upd_val, hval, hv0]
    have hbs' : bsOf (η.upd k (η.val k) (η'.cel 0)) k r' = bsOf η' 0 r' := by simp only [bsOf, hu, upd_cel]
    have hkeep' : Keeps w' (badOf ob1 [(0, r')] η') w' (badOf ob ((st.killSub k).upd k r').hp (η.upd k (η.val k) (η'.cel 0))) := fun b o x hb hc => by
      refine ⟨?_, hc⟩
      rintro (h1 | ⟨j, r1, hj, hm⟩)
      · exact hb (.inl (.inl h1))
      · by_cases hjk : j = k
        · subst hjk
          simp only [St.upd, look_upd, if_true] at hj
          obtain rfl := Option.some.inj hj
          rw [hbs'] at hm
          exact hb (.inr ⟨0, _, rfl, hm⟩)
        · simp only [St.upd, St.killSub, look_upd, if_neg (Ne.symm hjk), look_fltH] at hj
          obtain ⟨r2, h2, rfl⟩ := Option.map_eq_some_iff.1 hj
          rw [bsOf_flt, bsOf_congr (upd_ne _ _ _ _ j hjk).1 (upd_ne _ _ _ _ j hjk).2 rfl] at hm
          exact hb (.inl (.inr ⟨j, r2, hjk, h2, hm⟩))
    have hs' := SRep.mutT (w' := w') h (cs' := η'.cel 0) hlk hkind (by rw [hlen, hc0]; exact Nat.le_refl _) (fun b hb hn => hfrm b hb (by rw [hbs]; exact hn)) hbel
      (by rw [hbs']; exact hnd) (fun b hb => by rw [hbs'] at hb; rw [← hbs]; exact hsrc b hb) (by
        match r', ht', hrow with
        | .cells e (y :: l), ht', ⟨b, p1, p2, p3, p4⟩ => exact ⟨b, by rw [hu]; exact p1, p2, by rw [upd_cel]; exact p3, by rw [upd_cel]; exact tcells_rep hkeep' ht' p4⟩
        | .cells _ [], ht', _ => simp [tRow] at ht'
        | .ints .., ht', _ => simp [tRow] at ht'
        | .rows .., ht', _ => simp [tRow] at ht'
        | .recs .., ht', _ => simp [tRow] at ht')
    exact ⟨⟨v, x, _, _, rfl, hk x r' hpo, rfl, hs', shut_rep hkeep' x hsh hvx⟩, hbel.size, fun b hb hn => hfrm b hb (by rw [hbs]; exact hn)⟩

theorem ACallS.tmut {f : FuncId} {args args0 : List AVal} {r0 : ARow} {K : AVal → St → Prop} {post : AVal → ARow → Prop} (k : Nat) (hs : TSpec P f r0 args0 post)
    (hk : ∀ x r', post x r' → K x ((st.killSub k).upd k r')) (hlk : look st.hp k = some r0) (hv : vws st.hp [(0, .row k)] 1 args args0) (hr : rowVw st.hp [(0, .row k)] 1 (.row k) r0)
    (hp : pargs args args0 = true := by rfl) (ht : tRow r0 = true := by rfl) : ACallS P st f args K :=
  ⟨hs.1, fun _ _ _ _ _ h vs hvs => (tmut_core k hs hk hlk hv hr hp ht h vs hvs).mono fun _ _ h => h.1⟩

theorem ACallT.tmut {f : FuncId} {args args0 : List AVal} {r0 : ARow} {K : AVal → St → Prop} {post : AVal → ARow → Prop} (hs : TSpec P f r0 args0 post)
    (hk : ∀ x r', post x r' → K x ((st.killSub 0).upd 0 r')) (hlk : look st.hp 0 = some r0) (hv : vws st.hp [(0, .row 0)] 1 args args0) (hr : rowVw st.hp [(0, .row 0)] 1 (.row 0) r0)
    (hp : pargs args args0 = true := by rfl) (ht : tRow r0 = true := by rfl) : ACallT P st f args K :=
  ⟨hs.1, fun _ _ _ _ _ h vs hvs => (tmut_core 0 hs hk hlk hv hr hp ht h vs hvs).mono fun _ _ h => ⟨h.1, h.2.1, fun r hr => by
    rw [hlk] at hr
    obtain rfl := Option.some.inj hr
    exact h.2.2⟩⟩

/-- .. of a number, of a list: the contract's arguments are the call's -/
theorem ACallT.tmutI {f : FuncId} {n : Int} {r0 : ARow} {K : AVal → St → Prop} {post : AVal → ARow → Prop} (hs : TSpec P f r0 [.ptr 0 0, .c (.int .i64 n)] post)
    (hk : ∀ x r', post x r' → K x ((st.killSub 0).upd 0 r')) (hlk : look st.hp 0 = some r0) (hr : rowVw st.hp [(0, .row 0)] 1 (.row 0) r0)
    (ht : tRow r0 = true := by rfl) : ACallT P st f [.ptr 0 0, .c (.int .i64 n)] K := ACallT.tmut hs hk hlk ⟨⟨rfl, rfl, rfl⟩, rfl, trivial⟩ hr rfl ht
theorem ACallT.tmutL {f : FuncId} {k : IntKind} {l : List Int} {r0 : ARow} {K : AVal → St → Prop} {post : AVal → ARow → Prop} (hs : TSpec P f r0 [.ptr 0 0, .t (.ints k l)] post)
    (hk : ∀ x r', post x r' → K x ((st.killSub 0).upd 0 r')) (hlk : look st.hp 0 = some r0) (hr : rowVw st.hp [(0, .row 0)] 1 (.row 0) r0)
    (ht : tRow r0 = true := by rfl) : ACallT P st f [.ptr 0 0, .t (.ints k l)] K := ACallT.tmut hs hk hlk ⟨⟨rfl, rfl, rfl⟩, rfl, trivial⟩ hr rfl ht

theorem give_core {j e : Nat} {kd : IntKind} {l : List Int} (hr : look st.hp j = some (.ints e kd l)) (hj : j ≠ 0) (h : SRep w0 ob st a w η) {vs : List Value}
    (hvs : VReps w (fun b => ob b ∨ ownB st.hp η b) st.hp st.nx η [.ptr 0 0, .own j] vs) : VReps w (fun b => ob b ∨ ownB (st.del j).hp η b) (st.del j).hp (st.del j).nx η [.ptr 0 0, .t (.ints kd l)] vs := by
  match vs, hvs with
  | [v1, v2], ⟨h1, h2, _⟩ =>
    refine ⟨⟨h1.1, fun r hr' => h1.2 r (by simpa [St.del, look_rem_ne _ _ _ (Ne.symm hj)] using hr')⟩, ?_, trivial⟩
    have hrow := h.heap.row j _ hr
    have e2 := (h2.2 _ hr).2
    subst e2
    refine own_intsB hrow.1 (fun b hb => ?_)
    have hm : b ∈ bsOf η j (.ints e kd l) := by simp [bsOf, ARow.kind, hb]
    rintro (h3 | ⟨j', r', hj', hm'⟩)
    · exact h.free ⟨j, _, hr, hm⟩ h3
    · simp only [St.del] at hj'
      by_cases e3 : j' = j
      · subst e3; rw [look_rem] at hj'; cases hj'
      · rw [look_rem_ne _ _ _ e3] at hj'
        exact h.heap.apart j' r' j _ hj' hr e3 b hm' hm

/-- a list of the call's own is given away, read-only from here on -/
theorem ACallS.give {f : FuncId} {j e : Nat} {kd : IntKind} {l : List Int} {K : AVal → St → Prop} (h : ACallS P (st.del j) f [.ptr 0 0, .t (.ints kd l)] K)
    (hr : look st.hp j = some (.ints e kd l) := by rfl) (hj : Nat.beq j 0 = false := by rfl) : ACallS P st f [.ptr 0 0, .own j] K := by
  have hj : j ≠ 0 := fun e => by rw [e] at hj; cases hj
  exact ⟨h.fok, fun w0 ob a w η hs vs hvs => (h.run w0 ob a w η (hs.giveUp j) vs (give_core hr hj hs hvs)).mono fun e w' h => h⟩
theorem ACallT.give {f : FuncId} {j e : Nat} {kd : IntKind} {l : List Int} {K : AVal → St → Prop} (h : ACallT P (st.del j) f [.ptr 0 0, .t (.ints kd l)] K)
    (hr : look st.hp j = some (.ints e kd l) := by rfl) (hj : Nat.beq j 0 = false := by rfl) : ACallT P st f [.ptr 0 0, .own j] K := by
  have hj : j ≠ 0 := fun e => by rw [e] at hj; cases hj
  refine ⟨h.fok, fun w0 ob a w η hs vs hvs => (h.run w0 ob a w η (hs.giveUp j) vs (give_core hr hj hs hvs)).mono fun e w' h => ⟨h.1, h.2.1, fun r hr' => h.2.2 r ?_⟩⟩
  show look (rem j st.hp) 0 = some r
  rw [look_rem_ne _ _ _ (Ne.symm hj)]; exact hr'
end
end Go.Aw
/- 'x[i] = append(x[i], ..)' on rows of the call's own. -/
namespace Go.Aw
open Go.RowKit

theorem F2.set' {α β : Type} {R R' : α → β → Prop} : ∀ {l : List α} {r : List β}, F2 R l r → ∀ {i : Nat} {a : α} {b : β}, (∀ (j : Nat) (x : α) (y : β), j ≠ i → l[j]? = some x → r[j]? = some y → R x y → R' x y) → R' a b → F2 R' (l.set i a) (r.set i b)
  | [], [], _, _, _, _, _, _ => by simp [F2]
  | x :: l, y :: r, h, 0, _, _, hj, hab => ⟨hab, F2.intro (F2.length h.2) (fun j u v hu hv => by
      obtain ⟨v', hv', h'⟩ := F2.at h.2 hu
      rw [hv] at hv'; obtain rfl := Option.some.inj hv'
      exact hj (j + 1) u v (by omega) (by simpa using hu) (by simpa using hv) h')⟩
  | x :: l, y :: r, h, i + 1, _, _, hj, hab => ⟨hj 0 x y (by omega) rfl rfl h.1, F2.set' h.2 (fun j u v hne hu hv => hj (j + 1) u v (by omega) (by simpa using hu) (by simpa using hv)) hab⟩
  | [], _ :: _, h, _, _, _, _, _ => h.elim
  | _ :: _, [], h, _, _, _, _, _ => h.elim

theorem flat_set2 : ∀ {xs : List Value} {v old : Value} (i : Nat), xs[i]? = some old → (xs.flatMap blk).Nodup → (blk v).Nodup → (∀ b, b ∈ blk v → b ∈ blk old ∨ b ∉ xs.flatMap blk) →
    ((xs.set i v).flatMap blk).Nodup ∧ (∀ b, b ∈ (xs.set i v).flatMap blk → b ∈ blk v ∨ b ∈ xs.flatMap blk)
  | [], _, _, i, h, _, _, _ => by simp at h
  | x :: xs, v, old, 0, h, hn, hv, hd => by
      simp at h; subst h
      rw [List.flatMap_cons] at hn hd
      obtain ⟨n1, n2, n3⟩ := List.nodup_append.1 hn
      rw [List.set_cons_zero, List.flatMap_cons, List.flatMap_cons]
      refine ⟨List.nodup_append.2 ⟨hv, n2, fun a ha b hb e => ?_⟩, fun b hb => ?_⟩
      · subst e
        rcases hd a ha with h1 | h1
        · exact n3 a h1 a hb rfl
        · exact h1 (List.mem_append.2 (.inr hb))
      · rcases List.mem_append.1 hb with h1 | h1
        · exact .inl h1
        · exact .inr (List.mem_append.2 (.inr h1))
  | x :: xs, v, old, i + 1, h, hn, hv, hd => by
      simp at h
      rw [List.flatMap_cons] at hn hd
      obtain ⟨n1, n2, n3⟩ := List.nodup_append.1 hn
      have hold : ∀ b, b ∈ blk old → b ∈ xs.flatMap blk := fun b hb => List.mem_flatMap.2 ⟨old, List.mem_of_getElem? h, hb⟩
      obtain ⟨f1, f2⟩ := flat_set2 i h n2 hv (fun b hb => (hd b hb).imp id (fun h1 h2 => h1 (List.mem_append.2 (.inr h2))))
      rw [List.set_cons_succ, List.flatMap_cons, List.flatMap_cons]
      refine ⟨List.nodup_append.2 ⟨n1, f1, fun a ha b hb e => ?_⟩, fun b hb => ?_⟩
      · subst e
        rcases f2 a hb with h1 | h1
        · rcases hd a h1 with h2 | h2
          · exact n3 a ha a (hold a h2) rfl
          · exact h2 (List.mem_append.2 (.inl ha))
        · exact n3 a ha a h1 rfl
      · rcases List.mem_append.1 hb with h1 | h1
        · exact .inr (List.mem_append.2 (.inl h1))
        · exact (f2 b h1).imp id (fun h2 => List.mem_append.2 (.inr h2))

def aset (Γ : Tys) (st : St) (e t : Nat) (u v x c : Operand) (d1 d2 : Nat) (K : St → Prop) : Prop :=
  match look Γ t with
  | some ⟨.slice e', _, _, _⟩ => match look Γ e' with
    | some ⟨.slice _, 1, _, _⟩ => match look Γ e with
      | some ⟨.slice ei, _, _, _⟩ => match look Γ ei with
        | some ⟨_, 1, by_, [_]⟩ => match Nat.ble by_ 64 with
          | true => match ev st u with
            | some (.sub k i) => match ev st v with
              | some (.own k2) => match ev (st.put d1 .un) x with
                | some (.own k') => match ev (st.put d1 .un) c with
                  | some (.c (.int _ n)) => match look st.hp k with
                    | some (.rows e0 e1 true m) => match look st.hp k2 with
                      | some (.ints _ .i64 l2) => match Nat.beq k k' && Nat.beq e1 ei && Nat.blt d1 st.sz && Nat.blt d2 st.sz with
                        | true => n = (i : Int) ∧ i < m.length ∧ (m.getD i []).length + l2.length ≤ room ∧
                            K ((((st.put d1 .un).put d2 .un).killSub k).upd k (.rows e0 e1 true (m.set i (m.getD i [] ++ l2))))
                        | false => False
                      | _ => False
                    | _ => False
                  | _ => False
                | _ => False
              | _ => False
            | _ => False
          | false => False
        | _ => False
      | _ => False
    | _ => False
  | _ => False

section
variable {P : Program} {Γ : Tys} {w0 : Base} {w w' : World} {ob : Nat → Prop} {st : St} {a : Act} {η : Env}

theorem eval_put {d i : Nat} {v : Value} (hd : d < a.tmps.size) : (a.put (some d) v).eval (.tmp i) = if d = i then v else a.eval (.tmp i) := getD_put hd

theorem aset_sound (hΓ : TysOk P Γ) (h : SRep w0 ob st a w η) {e t e' d1 d2 : Nat} {u v x c : Operand} {K : St → Prop} (hd : d1 ≠ d2) {s1 s2 : Nat} {s3 : List Value} (ht' : look Γ t = some ⟨.slice e', s1, s2, s3⟩)
    {o1 o2 o3 : Oper} (h1 : o1.op = .call ⟨.builtin .append, #[u, v], #[e, e]⟩) (h1d : o1.dst = some d1) (h1g : o1.guard = none)
    (h2 : o2.op = .indexAddr t x c) (h2d : o2.dst = some d2) (h2g : o2.guard = none) (h3 : o3.op = .store e' (.tmp d2) (.tmp d1)) (h3d : o3.dst = none) (h3g : o3.guard = none)
    (hk : aset Γ st e t u v x c d1 d2 K) {opsA : Array Oper} {Q : Exit → Act → World → Prop} (hQ : ∀ st' a' w' η', K st' → SRep w0 ob st' a' w' η' → Q .normal a' w') : wpList P opsA Q [o1, o2, o3] a w := by
  unfold aset at hk
  rw [ht'] at hk
  simp only at hk
  split at hk
  case h_2 => exact hk.elim
  case h_1 q1 q2 q3 hte' =>
  split at hk
  case h_2 => exact hk.elim
  case h_1 ei q4 q5 q6 he =>
  split at hk
  case h_2 => exact hk.elim
  case h_1 q7 by_ zv hei =>
  split at hk
  case h_2 => exact hk.elim
  case h_1 hby =>
  split at hk
  case h_2 => exact hk.elim
  case h_1 k i hu =>
  split at hk
  case h_2 => exact hk.elim
  case h_1 k2 hv =>
  split at hk
  case h_2 => exact hk.elim
  case h_1 k' hx =>
  split at hk
  case h_2 => exact hk.elim
  case h_1 kk n hc =>
  split at hk
  case h_2 => exact hk.elim
  case h_1 e0 e1 m hr =>
  split at hk
  case h_2 => exact hk.elim
  case h_1 e2 l2 hr2 =>
  split at hk
  case h_2 => exact hk.elim
  case h_1 hcond =>
  simp only [Bool.and_eq_true] at hcond
  obtain ⟨⟨⟨c1, c2⟩, c3⟩, c4⟩ := hcond
  have c1 := Nat.eq_of_beq_eq_true c1
  have c2 := Nat.eq_of_beq_eq_true c2
  subst c1 c2
  have c3 : d1 < st.sz := Nat.le_of_ble_eq_true c3
  have c4 : d2 < st.sz := Nat.le_of_ble_eq_true c4
  obtain ⟨rfl, hi, hroom, hK⟩ := hk
  have hby' := Nat.le_of_ble_eq_true hby
  have tyt := (hΓ.at ht').desc
  have tye := (hΓ.at he).desc
  simp only [TD.is] at tyt tye
  have tyei := hΓ.at hei
  have tye' := hΓ.at hte'
  have hrow := h.heap.row k _ hr
  obtain ⟨hlt, hsub⟩ := (ev_sound h hu : VR w ob st η (.sub k i) (a.eval u))
  obtain ⟨_, hcel⟩ := hsub _ hr
  obtain ⟨li, hli, howni⟩ := F2.at' hrow.2 hcel
  have hli' : li = m.getD i [] := by simp [List.getD, hli]
  subst hli'
  obtain ⟨_, hown2⟩ := (ev_sound h hv : VR w ob st η (.own k2) (a.eval v))
  obtain ⟨_, hv2⟩ := hown2 _ hr2
  have hsrc : Src w (a.eval v) l2.length (l2.map (Value.int .i64)) := by rw [hv2]; exact Src.own (h.heap.row k2 _ hr2).1
  obtain ⟨v', w', hrun, hown', hfr, hsz, hsame, hB, hnd'⟩ := run_append_fresh (ty := o1.type) tye tyei rfl hby' rfl howni hsrc (fun y hy => by obtain ⟨_, _, rfl⟩ := List.mem_map.1 hy; rfl) hroom (wB h)
  have hs1 : SRep w0 ob (st.put d1 .un) (a.put (some d1) v') w η := h.put c3 (x := .un) trivial
  have hsz1 : d1 < a.tmps.size := by rw [h.size]; exact c3
  obtain ⟨_, hownx⟩ := (ev_sound hs1 hx : VR w ob (st.put d1 .un) η (.own k) _)
  obtain ⟨_, hxv⟩ := hownx _ hr
  obtain ⟨hcv, _⟩ := (ev_sound hs1 hc : VR w ob (st.put d1 .un) η (.c (.int kk i)) _)
  obtain ⟨ba, cp, hval⟩ := len_own hrow.1
  have hlen := F2.length hrow.2
  obtain ⟨g, rfl, hg0⟩ : ∃ g, ba = some ⟨g, 0, none⟩ ∧ True := by
    rcases hrow.1.2 with ⟨h0, h0'⟩ | ⟨g, cap, cur, h0, _⟩
    · omega
    · rw [hval] at h0; cases h0; exact ⟨g, rfl, trivial⟩
  have hbk : blk (η.val k) = [g] := by rw [hval]; rfl
  have hbs : bsOf η k (.rows e0 e1 true m) = blk (η.val k) ++ (η.cel k).flatMap blk := by simp [bsOf, ARow.kind]
  have hnod := h.heap.nodup k _ hr
  rw [hbs, hbk] at hnod
  obtain ⟨n1, n2, n3⟩ := List.nodup_append.1 hnod
  have hsubm : ∀ b, b ∈ blk (a.eval u) → b ∈ (η.cel k).flatMap blk := fun b hb => List.mem_flatMap.2 ⟨_, List.mem_of_getElem? hcel, hb⟩
  have hgu : g ∉ blk (a.eval u) := fun hb => n3 g (by simp) g (hsubm g hb) rfl
  have hblt : ∀ b, b ∈ bsOf η k (.rows e0 e1 true m) → b < w.heap.size := fun b hb => (RowRep.lt hrow b hb).2
  have hg : g < w.heap.size := hblt g (by rw [hbs, hbk]; simp)
  have hown1 : w'.ownsRow w0.B e0 1 (η.val k) m.length (η.cel k) := ownsRow_same hrow.1 (fun b hb => by
    rw [hbk] at hb; obtain rfl := List.mem_singleton.1 hb
    exact hsame b hg hgu)
  obtain ⟨cur, hg1, ho, hBg, hown3⟩ := own_set hown1 hbk hi v'
  obtain ⟨vb, vc, hvv⟩ := len_own hown'
  have hcellv : v'.cells = [v'].toArray ∧ v'.oneCell' = true := by rw [hvv]; exact ⟨rfl, rfl⟩
  have hst := run_storeAt (P := P) tye' (us := [v']) hcellv.1 rfl (by simp [hcellv.2]) hg1 ho
  let p : Value := .pointer (some ⟨g, 0 + i, none⟩)
  have hs2 : SRep w0 ob ((st.put d1 .un).put d2 .un) ((a.put (some d1) v').put (some d2) p) w η := hs1.put c4 (x := .un) trivial
  have hsz2 : d2 < (a.put (some d1) v').tmps.size := by rw [hs1.size]; exact c4
  let w2 := w'.setRow g (cur.toList.take i ++ [v'] ++ cur.toList.drop (i + 1)).toArray
  have hB2 : Below w0.B w w2 := hB.trans (below_setRow hBg _)
  have hfresh : ∀ b, b ∈ blk v' → b ∈ blk (a.eval u) ∨ b ∉ (η.cel k).flatMap blk := fun b hb => (hfr b hb).imp id (fun e hm => by
    have := hblt b (by rw [hbs]; exact List.mem_append.2 (.inr hm)); omega)
  obtain ⟨f1, f2⟩ := flat_set2 i hcel n2 hnd' hfresh
  have hgv : g ∉ blk v' := fun hb => by
    rcases hfr g hb with h1 | h1
    · exact hgu h1
    · omega
  have hbs' : bsOf (η.upd k (η.val k) ((η.cel k).set i v')) k (.rows e0 e1 true (m.set i (m.getD i [] ++ l2))) = blk (η.val k) ++ ((η.cel k).set i v').flatMap blk := by simp [bsOf, ARow.kind, upd_val, upd_cel]
  have hfin := SRep.mutT (w' := w2) (r' := .rows e0 e1 true (m.set i (m.getD i [] ++ l2))) (cs' := (η.cel k).set i v') hs2 hr rfl (by simp)
    (fun b hb hn => by
      rw [hbs, hbk] at hn
      have e1 : b ≠ g := fun e => hn (by rw [e]; simp)
      show (w'.setRow g _).heap[b]? = _
      rw [setRow_other w' g b _ e1]
      exact hsame b hb (fun hm => hn (List.mem_append.2 (.inr (hsubm b hm))))) hB2
    (by
      rw [hbs', hbk]
      refine List.nodup_append.2 ⟨n1, f1, fun b hb1 b' hb' e => ?_⟩
      subst e
      obtain rfl := List.mem_singleton.1 hb1
      rcases f2 b hb' with h2 | h2
      · exact hgv h2
      · exact n3 b (by simp) b h2 rfl)
    (fun b hb => by
      rw [hbs'] at hb
      rcases List.mem_append.1 hb with h2 | h2
      · exact .inl (by rw [hbs]; exact List.mem_append.2 (.inl h2))
      · rcases f2 b h2 with h3 | h3
        · rcases hfr b h3 with h4 | h4
          · exact .inl (by rw [hbs]; exact List.mem_append.2 (.inr (hsubm b h4)))
          · exact .inr (by omega)
        · exact .inl (by rw [hbs]; exact List.mem_append.2 (.inr h3)))
    (by
      refine ⟨?_, ?_⟩
      · rw [upd_val, upd_cel, List.length_set]; exact hown3
      · rw [upd_cel]
        refine F2.set' hrow.2 (fun j l1 y hne hl1 hy ho1 => ?_) ?_
        · have hap := flat_apart n2 hy hcel hne
          refine own_other (ownsRow_same ho1 (fun b hb => ?_)) (fun hb => n3 g (by simp) g (List.mem_flatMap.2 ⟨y, List.mem_of_getElem? hy, hb⟩) rfl) _
          exact hsame b (hblt b (by rw [hbs]; exact List.mem_append.2 (.inr (List.mem_flatMap.2 ⟨y, List.mem_of_getElem? hy, hb⟩)))) (hap b hb)
        · refine own_other ?_ hgv _
          simp only [List.length_append, List.map_append]
          exact hown')
  have r1 : (execOp a.eval o1).run P w = .ok (.value v') w' := by simp [execOp, h1, resolve, invoke, builtin, hrun]
  have r2 : (execOp (a.put (some d1) v').eval o2).run P w' = .ok (.value p) w' := by
    simp only [execOp, h2, hxv, hcv, hval]
    simp [run_idx_sl tyt tye' rfl hi w', p]
  have r3 : (execOp ((a.put (some d1) v').put (some d2) p).eval o3).run P w' = .ok .skip w2 := by
    refine ANStore h3 ?_
    rw [eval_put hsz2, if_pos rfl, eval_put hsz2, if_neg (Ne.symm hd), eval_put hsz1, if_pos rfl]
    simp only [p, Nat.zero_add]
    exact hst
  unfold wpList
  rw [if_pos (by simp [Region.wanted, h1g])]
  refine .inl ?_
  unfold Oper.wp
  rw [r1, Oper.upon_value, h1d]
  unfold wpList
  rw [if_pos (by simp [Region.wanted, h2g])]
  refine .inl ?_
  unfold Oper.wp
  rw [r2, Oper.upon_value, h2d]
  unfold wpList
  rw [if_pos (by simp [Region.wanted, h3g])]
  refine .inl ?_
  unfold Oper.wp
  rw [r3, Oper.upon_skip, h3d]
  unfold wpList
  exact hQ _ _ _ _ hK hfin

theorem ASet.app (hΓ : TysOk P Γ) {ops : Array Oper} {p1 p2 p3 p4 p5 o1 o2 o3 : Oper} {e t e' d1 d2 s1 s2 : Nat} {s3 : List Value} {u v x c : Operand} {K : St → Prop}
    (hops : ops.toList = [p1, p2, p3, p4, p5, o1, o2, o3])
    (h1 : o1.op = .call ⟨.builtin .append, #[u, v], #[e, e]⟩) (h1d : o1.dst = some d1) (h1g : o1.guard = none)
    (h2 : o2.op = .indexAddr t x c) (h2d : o2.dst = some d2) (h2g : o2.guard = none) (h3 : o3.op = .store e' (.tmp d2) (.tmp d1)) (h3d : o3.dst = none) (h3g : o3.guard = none)
    (ht' : look Γ t = some ⟨.slice e', s1, s2, s3⟩) (hd : Nat.beq d1 d2 = false)
    (hk : alist P Γ ops.toList [p1, p2, p3, p4, p5] st [] (fun st1 => aset Γ st1 e t u v x c d1 d2 K)) : ASet P ops st K := by
  refine ⟨fun id w0 ob a w ⟨η, h⟩ => wp_region_list ?_⟩
  have nodec : DecOk [] a := fun d b hd => by simp [look] at hd
  have hne : d1 ≠ d2 := fun e => by rw [e, Nat.beq_refl] at hd; cases hd
  have := alist_soundR (P := P) hΓ (opsA := ops) (Q := fun e a' w' => e = .normal ∧ ∃ st', K st' ∧ StRep w0 ob st' a' w') [o1, o2, o3] (fun st1 a1 w1 η1 hk1 hs1 =>
    aset_sound hΓ hs1 hne ht' h1 h1d h1g h2 h2d h2g h3 h3d h3g hk1 (fun st' a' w' η' hK hs' => ⟨rfl, st', hK, η', hs'⟩)) [p1, p2, p3, p4, p5] st [] a w η h nodec hk
  rw [hops]
  exact this

/-- .. of which all orders come to states that an index tells -/
theorem ADraw.midI {ι : Type} {ops : Array Oper} {K : St → Prop} (mid : ι → St) (I : ι → Prop) (h : ADraw P ops st (fun st1 => ∃ i o, Seen o st1 (mid i) ∧ I i)) (hk : ∀ i, I i → K (mid i)) : ADraw P ops st K :=
  ⟨fun id w0 ob a w hr => wp_mono (h.run id w0 ob a w hr) (fun _ _ _ ⟨he, _, ⟨i, _, hv, hi⟩, ⟨_, hs⟩⟩ => ⟨he, mid i, hk i hi, _, hv.rep hs⟩)⟩
end
end Go.Aw
/- The cursor of the draws: next, pick, one. -/
namespace Go.Proofs.Ytkjdplglenjijaa
open Go.Aw
set_option maxRecDepth 100000

def OkB (l : List Int) : Prop := l.length ≤ 9223372036854775807 ∧ ∀ x, x ∈ l → 0 ≤ x ∧ x ≤ 255
abbrev cur (code : List Int) (a : Nat) (s : Int) : ARow := .cells 47 [.t (.ints .u8 code), .c (.int .i64 (a)), .c (.int .u64 s)]

theorem W_inr (n : Int) : InR (W n) := by
  unfold InR
  show _ ≤ IntKind.i64.wrap n ∧ IntKind.i64.wrap n ≤ _
  rw [IntKind.wrap_i64]; omega
theorem among_in {l : List Int} {lo hi : Int} {i : Nat} (h : rowIn l lo hi = true) (hl : i < l.length) : lo ≤ l.getD i 0 ∧ l.getD i 0 ≤ hi := by
  simp only [rowIn, inR, List.all_eq_true, decide_eq_true_eq] at h
  exact h _ (getD_mem hl)
theorem and255 (x : Int) : 0 ≤ IntKind.i64.wrap (bits .and .u64 x 255) ∧ IntKind.i64.wrap (bits .and .u64 x 255) ≤ 255 := by
  have h : bits .and .u64 x 255 = IntKind.u64.wrap ((BitVec.ofInt 64 x &&& BitVec.ofInt 64 255).toNat : Int) := rfl
  have h2 : (BitVec.ofInt 64 x &&& BitVec.ofInt 64 255).toNat ≤ 255 := by
    rw [BitVec.toNat_and]
    exact Nat.le_trans Nat.and_le_right (by decide)
  rw [h]
  generalize (BitVec.ofInt 64 x &&& BitVec.ofInt 64 255).toNat = n at h2
  rw [IntKind.wrap_u64, IntKind.wrap_i64]
  omega

theorem tmod_bd {a n : Int} (ha : 0 ≤ a) (hn : 0 < n) : 0 ≤ Int.tmod a n ∧ Int.tmod a n < n := by
  rw [Int.tmod_eq_emod_of_nonneg ha]
  exact ⟨Int.emod_nonneg _ (by omega), Int.emod_lt_of_pos _ hn⟩

theorem next_spec (code : List Int) (hc : OkB code) (a : Nat) (s : Int) (ha : a ≤ 1000000000) :
    TSpec Try.prog 44 (cur code a s) [.ptr 0 0] (fun v r => ∃ x s' : Int, v = .c (.int .i64 x) ∧ 0 ≤ x ∧ x ≤ 255 ∧ r = cur code (a + 1) s') := by
  refine tspec tyOk mx Try.func44 rfl (by kernel_rfl) rfl rfl ?_
  conv => whnf
  refine ADraw.std tyOk mx ⟨by kernel_rfl, ?_⟩
  conv => whnf
  refine ⟨fun h => ?_, fun h => ?_⟩
  · have h := ltT h
    have hb := hc.2 _ (getD_mem (d := 0) h)
    conv => whnf
    refine ADraw.std tyOk mx ⟨by kernel_rfl, ?_⟩
    conv => whnf
    refine ⟨a, rfl, h, ?_⟩
    conv => whnf
    rw [nat_wrap (by omega)]
    generalize IntKind.u64.wrap (IntKind.u64.wrap (IntKind.u64.wrap (s * 6364136223846793005) + IntKind.u64.wrap (IntKind.i64.wrap (code.getD a 0))) + 462197) = s'
    refine ADraw.std tyOk mx ⟨by kernel_rfl, ?_⟩
    conv => whnf
    refine ⟨fun h1 => ?_, fun h1 => ?_⟩
    · conv => whnf
      have e : IntKind.i64.wrap (code.getD a 0) = code.getD a 0 := w64 (by omega) (by omega)
      exact ⟨_, s', rfl, by omega, by omega, rfl⟩
    · exact absurd (of_decide_eq_false h1) (by omega)
  · have h := ltF h
    conv => whnf
    rw [nat_wrap (by omega)]
    generalize IntKind.u64.wrap (IntKind.u64.wrap (IntKind.u64.wrap (s * 6364136223846793005) + IntKind.u64.wrap 0) + 462197) = s'
    refine ADraw.std tyOk mx ⟨by kernel_rfl, ?_⟩
    conv => whnf
    refine ⟨fun h1 => ?_, fun h1 => ?_⟩
    · exact absurd (of_decide_eq_true h1) (by omega)
    · conv => whnf
      refine ⟨by omega, ?_⟩
      conv => whnf
      have e := and255 (shr IntKind.u64 s' 40)
      exact ⟨_, s', rfl, e.1, e.2, rfl⟩

theorem l1OwnC_spec (l : List Int) (hl : l.length ≤ 1048576) : FSpec Try.prog 43 [.t (.ints .i64 l)] (ex (.own 0) [(0, .ints 3 .i64 l)]) := by
  refine fspec tyOk mx Try.func43 rfl (by kernel_rfl) rfl ?_
  conv => whnf
  refine ⟨by simp [room]; omega, ?_⟩
  conv => whnf
  exact ⟨rfl, rfl⟩

/-- what a draw tells: a number in bounds, and the cursor moved on a little -/
def drawn (code : List Int) (a k : Nat) (lo hi : Int) (v : AVal) (r : ARow) : Prop :=
  ∃ (x : Int) (a' : Nat) (s' : Int), v = .c (.int .i64 x) ∧ lo ≤ x ∧ x < hi ∧ a ≤ a' ∧ a' ≤ a + k ∧ r = cur code a' s'

theorem pick_spec (code : List Int) (hc : OkB code) (a : Nat) (s : Int) (ha : a ≤ 900000000) (n : Int) (h0 : -1000 ≤ n) (h1 : n ≤ 65536) :
    TSpec Try.prog 24 (cur code a s) [.ptr 0 0, .c (.int .i64 (n))] (drawn code a 2 0 (max n 1)) := by
  refine tspec tyOk mx Try.func24 rfl (by kernel_rfl) rfl rfl ?_
  conv => whnf
  refine ⟨fun h => ?_, fun h => ?_⟩
  · have h := of_decide_eq_true h
    conv => whnf
    exact ⟨0, a, s, rfl, by omega, by omega, by omega, by omega, rfl⟩
  · have h := of_decide_eq_false h
    conv => whnf
    refine ACallS.tmut 0 (next_spec code hc a s (by omega)) ?_ rfl (by (repeat' (first | exact trivial | exact rfl | refine And.intro ?_ ?_)) <;> (try first | omega | (simp; done))) (by (repeat' (first | exact trivial | exact rfl | refine And.intro ?_ ?_)) <;> (try first | omega | (simp; done)))
    rintro v r ⟨x, s1, rfl, x0, x1, rfl⟩
    conv => whnf
    refine ⟨fun h2 => ?_, fun h2 => ?_⟩
    · have h2 := of_decide_eq_true h2
      conv => whnf
      refine ACallS.tmut 0 (next_spec code hc (a + 1) s1 (by omega)) ?_ rfl (by (repeat' (first | exact trivial | exact rfl | refine And.intro ?_ ?_)) <;> (try first | omega | (simp; done))) (by (repeat' (first | exact trivial | exact rfl | refine And.intro ?_ ?_)) <;> (try first | omega | (simp; done)))
      rintro v r ⟨y, s2, rfl, y0, y1, rfl⟩
      conv => whnf
      refine ⟨by omega, ?_⟩
      conv => whnf
      have e1 : IntKind.i64.wrap (x * 256) = x * 256 := w64 (by omega) (by omega)
      have e2 : IntKind.i64.wrap (x * 256 + y) = x * 256 + y := w64 (by omega) (by omega)
      rw [e1, e2]
      have hz := tmod_bd (a := x * 256 + y) (n := n) (by omega) (by omega)
      refine ⟨_, a + 2, s2, rfl, ?_, ?_, by omega, by omega, rfl⟩
      · omega
      · omega
    · have h2 := of_decide_eq_false h2
      conv => whnf
      refine ⟨by omega, ?_⟩
      conv => whnf
      have hz := tmod_bd (a := x) (n := n) (by omega) (by omega)
      refine ⟨_, a + 1, s1, rfl, ?_, ?_, by omega, by omega, rfl⟩
      · omega
      · omega

def drawnB (code : List Int) (a k : Nat) (v : AVal) (r : ARow) : Prop := ∃ (x : Bool) (a' : Nat) (s' : Int), v = .c (.bool x) ∧ a ≤ a' ∧ a' ≤ a + k ∧ r = cur code a' s'
theorem one_spec (code : List Int) (hc : OkB code) (a : Nat) (s : Int) (ha : a ≤ 900000000) (n : Int) (h0 : -1000 ≤ n) (h1 : n ≤ 65536) :
    TSpec Try.prog 25 (cur code a s) [.ptr 0 0, .c (.int .i64 (n))] (drawnB code a 2) := by
  refine tspec tyOk mx Try.func25 rfl (by kernel_rfl) rfl rfl ?_
  conv => whnf
  refine ACallS.tmut 0 (pick_spec code hc a s ha n h0 h1) ?_ rfl (by (repeat' (first | exact trivial | exact rfl | refine And.intro ?_ ?_)) <;> (try first | omega | (simp; done))) (by (repeat' (first | exact trivial | exact rfl | refine And.intro ?_ ?_)) <;> (try first | omega | (simp; done)))
  rintro v r ⟨x, a1, s1, rfl, x0, x1, e1, e2, rfl⟩
  conv => whnf
  exact ⟨_, a1, s1, rfl, e1, e2, rfl⟩
end Go.Proofs.Ytkjdplglenjijaa
/- Draws of sign games. -/
namespace Go.Proofs.Ytkjdplglenjijaa
open Go.Aw
set_option maxRecDepth 100000

/-- a drawn list of numbers -/
def drawnI (code : List Int) (a k n : Nat) (v : AVal) (r : ARow) : Prop :=
  ∃ (l : List Int) (a' : Nat) (s' : Int), v = .t (.ints .i64 l) ∧ l.length ≤ n ∧ (∀ x, x ∈ l → InR x) ∧ a ≤ a' ∧ a' ≤ a + k ∧ r = cur code a' s'


/-- a drawn list of lists -/
def drawnM (code : List Int) (a k : Nat) (v : AVal) (r : ARow) : Prop :=
  ∃ (m : List (List Int)) (a' : Nat) (s' : Int), v = .t (.rows m) ∧ (m.length ≤ 5 ∧ ∀ r, r ∈ m → r.length ≤ 5 ∧ ∀ x, x ∈ r → InR x) ∧ a ≤ a' ∧ a' ≤ a + k ∧ r = cur code a' s'

theorem signs5_spec (code : List Int) (hc : OkB code) (a : Nat) (s : Int) (ha : a ≤ 800000000) :
    TSpec Try.prog 22 (cur code a s) [.ptr 0 0] (drawnM code a 1000) := by
  refine tspec tyOk mx Try.func22 rfl (by kernel_rfl) rfl rfl ?_
  conv => whnf
  refine ACallS.inline tyOk mx Try.func23 rfl (by kernel_rfl) rfl ?_
  conv => whnf
  refine ACallS.tmut 0 (pick_spec code hc a s (by omega) 6 (by omega) (by omega)) ?_ rfl (by (repeat' (first | exact trivial | exact rfl | refine And.intro ?_ ?_)) <;> (try first | omega | (simp; done))) (by (repeat' (first | exact trivial | exact rfl | refine And.intro ?_ ?_)) <;> (try first | omega | (simp; done)))
  rintro v r ⟨y, a1, s1, rfl, y0, y1, e_a1, g_a1, rfl⟩
  conv => whnf
  obtain ⟨i, rfl, hi⟩ := nat_of (len := 6) y0 (by omega)
  refine ⟨i, rfl, hi, ?_⟩
  conv => whnf
  have h_nx : 1 ≤ (((((((List.replicate 6 (0 : Int)).set 0 2).set 1 2).set 2 3).set 3 1).set 4 2).set 5 3).getD i 0 ∧ (((((((List.replicate 6 (0 : Int)).set 0 2).set 1 2).set 2 3).set 3 1).set 4 2).set 5 3).getD i 0 ≤ 3 := among_in (by kernel_rfl) hi
  generalize (((((((List.replicate 6 (0 : Int)).set 0 2).set 1 2).set 2 3).set 3 1).set 4 2).set 5 3).getD i 0 = nx at h_nx ⊢
  refine ⟨rfl, ?_⟩
  conv => whnf
  clear y0 y1 hi
  refine ACallS.inline tyOk mx Try.func23 rfl (by kernel_rfl) rfl ?_
  conv => whnf
  refine ACallS.tmut 0 (pick_spec code hc a1 s1 (by omega) 5 (by omega) (by omega)) ?_ rfl (by (repeat' (first | exact trivial | exact rfl | refine And.intro ?_ ?_)) <;> (try first | omega | (simp; done))) (by (repeat' (first | exact trivial | exact rfl | refine And.intro ?_ ?_)) <;> (try first | omega | (simp; done)))
  rintro v r ⟨y, a2, s2, rfl, y0, y1, e_a2, g_a2, rfl⟩
  conv => whnf
  obtain ⟨i, rfl, hi⟩ := nat_of (len := 5) y0 (by omega)
  refine ⟨i, rfl, hi, ?_⟩
  conv => whnf
  have h_ny : 1 ≤ ((((((List.replicate 5 (0 : Int)).set 0 2).set 1 2).set 2 3).set 3 1).set 4 3).getD i 0 ∧ ((((((List.replicate 5 (0 : Int)).set 0 2).set 1 2).set 2 3).set 3 1).set 4 3).getD i 0 ≤ 3 := among_in (by kernel_rfl) hi
  generalize ((((((List.replicate 5 (0 : Int)).set 0 2).set 1 2).set 2 3).set 3 1).set 4 3).getD i 0 = ny at h_ny ⊢
  refine ⟨rfl, ?_⟩
  conv => whnf
  clear y0 y1 hi
  refine ACallS.inline tyOk mx Try.func23 rfl (by kernel_rfl) rfl ?_
  conv => whnf
  refine ACallS.tmut 0 (pick_spec code hc a2 s2 (by omega) 4 (by omega) (by omega)) ?_ rfl (by (repeat' (first | exact trivial | exact rfl | refine And.intro ?_ ?_)) <;> (try first | omega | (simp; done))) (by (repeat' (first | exact trivial | exact rfl | refine And.intro ?_ ?_)) <;> (try first | omega | (simp; done)))
  rintro v r ⟨y, a3, s3, rfl, y0, y1, e_a3, g_a3, rfl⟩
  conv => whnf
  obtain ⟨i, rfl, hi⟩ := nat_of (len := 4) y0 (by omega)
  refine ⟨i, rfl, hi, ?_⟩
  conv => whnf
  have h_big : 1 ≤ (((((List.replicate 4 (0 : Int)).set 0 1).set 1 1).set 2 3).set 3 9).getD i 0 ∧ (((((List.replicate 4 (0 : Int)).set 0 1).set 1 1).set 2 3).set 3 9).getD i 0 ≤ 9 := among_in (by kernel_rfl) hi
  generalize (((((List.replicate 4 (0 : Int)).set 0 1).set 1 1).set 2 3).set 3 9).getD i 0 = big at h_big ⊢
  refine ⟨rfl, ?_⟩
  conv => whnf
  clear y0 y1 hi
  refine aloopI tyOk mx (fun x : List (List Int) × Nat × Int => (⟨82, [(0, .ptr 0 0), (3, .c (.int .i64 (nx))), (4, .c (.int .i64 (ny))), (5, .c (.int .i64 (big))), (6, .own 4), (7, .c (.int .i64 (x.1.length))), (82, .ptr 0 0)], [(0, cur code x.2.1 x.2.2), (4, .rows 25 3 true x.1)], 5⟩ : St)) (fun x => (x.1.length : Int) ≤ nx ∧ (∀ r, r ∈ x.1 → (r.length : Int) = ny ∧ ∀ y, y ∈ r → InR y) ∧ a ≤ x.2.1 ∧ x.2.1 ≤ a + 6 + 10 * x.1.length) (fun x => nx.toNat - x.1.length) ([], a3, s3) ⟨by simp; omega, by simp, by simp only; omega, by simp; omega⟩ none (by refine ⟨rfl, rfl, ?_, ?_⟩ <;> ((repeat' (first | exact trivial | exact rfl | refine And.intro ?_ ?_)) <;> (try ((conv => whnf); first | refine vint ?_ | refine vboo ?_ | refine rint ?_ | refine rrow ?_ | skip)) <;> (try first | omega | (simp; done) | ((repeat rw [flts_closed _ (by assumption)]); exact vws_closed _ (by assumption))))) (fun x hx => ?_)
  obtain ⟨m, a4, s4⟩ := x
  obtain ⟨k1, k2, k3, k4⟩ := hx
  simp only at k1 k2 k3 k4
  dsimp only
  conv => whnf
  refine ⟨fun h => ?_, fun h => ?_⟩
  · have h := of_decide_eq_true h
    conv => whnf
    refine aloopI tyOk mx (fun x : List Int × Nat × Int => (⟨82, [(0, .ptr 0 0), (3, .c (.int .i64 (nx))), (4, .c (.int .i64 (ny))), (5, .c (.int .i64 (big))), (6, .own 4), (7, .c (.int .i64 (m.length))), (8, .own 5), (9, .c (.int .i64 (x.1.length))), (82, .ptr 0 0)], [(0, cur code x.2.1 x.2.2), (4, .rows 25 3 true m), (5, .ints 3 .i64 x.1)], 6⟩ : St)) (fun x => (x.1.length : Int) ≤ ny ∧ (∀ y, y ∈ x.1 → InR y) ∧ a4 ≤ x.2.1 ∧ x.2.1 ≤ a4 + 2 * x.1.length) (fun x => ny.toNat - x.1.length) ([], a4, s4) ⟨by simp; omega, by simp, by simp, by simp⟩ none (by refine ⟨rfl, rfl, ?_, ?_⟩ <;> ((repeat' (first | exact trivial | exact rfl | refine And.intro ?_ ?_)) <;> (try ((conv => whnf); first | refine vint ?_ | refine vboo ?_ | refine rint ?_ | refine rrow ?_ | skip)) <;> (try first | omega | (simp; done) | ((repeat rw [flts_closed _ (by assumption)]); exact vws_closed _ (by assumption))))) (fun x hx => ?_)
    obtain ⟨l, a5, s5⟩ := x
    obtain ⟨j1, j2, j3, j4⟩ := hx
    simp only at j1 j2 j3 j4
    dsimp only
    conv => whnf
    refine ⟨fun h2 => ?_, fun h2 => ?_⟩
    · have h2 := of_decide_eq_true h2
      conv => whnf
      have eb : IntKind.i64.wrap (IntKind.i64.wrap (2 * big) + 1) = 2 * big + 1 := by rw [w64 (n := 2 * big) (by omega) (by omega), w64 (by omega) (by omega)]
      rw [eb]
      refine ACallS.tmut 0 (pick_spec code hc a5 s5 (by omega) (2 * big + 1) (by omega) (by omega)) ?_ rfl (by (repeat' (first | exact trivial | exact rfl | refine And.intro ?_ ?_)) <;> (try first | omega | (simp; done))) (by (repeat' (first | exact trivial | exact rfl | refine And.intro ?_ ?_)) <;> (try first | omega | (simp; done)))
      rintro v r ⟨z, a6, s6, rfl, l_z, u_z, e_a6, g_a6, rfl⟩
      conv => whnf
      have ez : IntKind.i64.wrap (z - big) = z - big := w64 (by omega) (by omega)
      rw [ez]
      refine ⟨by unfold room; simp; omega, ?_⟩
      conv => whnf
      rw [nat_wrap (by omega)]
      refine ⟨(l ++ [z - big], a6, s6), none, (by refine ⟨rfl, rfl, ?_, ?_⟩ <;> ((repeat' (first | exact trivial | exact rfl | refine And.intro ?_ ?_)) <;> (try ((conv => whnf); first | refine vint ?_ | refine vboo ?_ | refine rint ?_ | refine rrow ?_ | skip)) <;> (try first | omega | (simp; done) | ((repeat rw [flts_closed _ (by assumption)]); exact vws_closed _ (by assumption))))), ⟨by simp; omega, fun y hy => ?_, by simp only; omega, by simp only [List.length_append, List.length_singleton]; omega⟩, by simp; omega⟩
      rcases List.mem_append.1 hy with h | h
      · exact j2 y h
      · rw [List.mem_singleton] at h
        rw [h]; unfold InR; omega
    · have h2 := of_decide_eq_false h2
      conv => whnf
      refine ⟨by unfold room; simp; omega, ?_⟩
      conv => whnf
      rw [nat_wrap (by omega)]
      refine ⟨(m ++ [l], a5, s5), none, (by refine ⟨rfl, rfl, ?_, ?_⟩ <;> ((repeat' (first | exact trivial | exact rfl | refine And.intro ?_ ?_)) <;> (try ((conv => whnf); first | refine vint ?_ | refine vboo ?_ | refine rint ?_ | refine rrow ?_ | skip)) <;> (try first | omega | (simp; done) | ((repeat rw [flts_closed _ (by assumption)]); exact vws_closed _ (by assumption))))), ⟨by simp; omega, fun r hr => ?_, by simp only; omega, by simp only [List.length_append, List.length_singleton]; omega⟩, by simp; omega⟩
      rcases List.mem_append.1 hr with h | h
      · exact k2 r h
      · rw [List.mem_singleton] at h
        rw [h]; exact ⟨by omega, j2⟩
  · have h := of_decide_eq_false h
    conv => whnf
    refine ACallS.tmut 0 (pick_spec code hc a4 s4 (by omega) 40 (by omega) (by omega)) ?_ rfl (by (repeat' (first | exact trivial | exact rfl | refine And.intro ?_ ?_)) <;> (try first | omega | (simp; done))) (by (repeat' (first | exact trivial | exact rfl | refine And.intro ?_ ?_)) <;> (try first | omega | (simp; done)))
    rintro v r ⟨z, a6, s6, rfl, l_z, u_z, e_a6, g_a6, rfl⟩
    conv => whnf
    have hm0 : 0 < m.length := by omega
    have hr0 := k2 _ (getD_mem (d := []) hm0)
    have hrm : ∀ r, r ∈ m → r.length ≤ 5 ∧ ∀ x, x ∈ r → InR x := fun r hr => ⟨by have := (k2 r hr).1; omega, (k2 r hr).2⟩
    refine ⟨fun h5 => ?_, fun h5 => ?_⟩
    · conv => whnf
      refine ADraw.planX [5] tyOk mx (.q 0 (.q 1 (.q 3 (.alt 2 (.last 4 (.inl 5 (.q 6 (.last 7 (.done))))) (.last 4 (.alt 2 (.inl 5 (.q 6 (.last 7 (.done)))) (.inl 5 (.last 2 (.q 6 (.last 7 (.done)))))))))) : Plan) (by kernel_rfl) ?_
      conv => whnf
      have fin : ∀ (v : Int) (a7 : Nat) (s7 : Int), (-10 ≤ v ∧ v ≤ 4611686018427387904) → a6 ≤ a7 → a7 ≤ a6 + 2 → drawnM code a 1000 (.t (.rows (m.set 0 ((m.getD 0 []).set 0 v)))) (cur code a7 s7) := fun v a7 s7 hv e1 e2 => by
        refine ⟨_, a7, s7, rfl, ⟨by simp; omega, fun r hr => ?_⟩, by omega, by omega, rfl⟩
        rcases List.mem_or_eq_of_mem_set hr with h | rfl
        · exact hrm r h
        · refine ⟨by rw [List.length_set]; omega, fun x hx => ?_⟩
          rcases List.mem_or_eq_of_mem_set hx with h | rfl
          · exact hr0.2 x h
          · unfold InR; omega
      repeat' (first
        | (refine ⟨0, rfl, hm0, ?_⟩; conv => whnf)
        | (refine ⟨0, rfl, (by omega : 0 < (m.getD 0 []).length), ?_⟩; conv => whnf)
        | (refine ACallS.inline tyOk mx Try.func23 rfl (by kernel_rfl) rfl ?_; (conv => whnf); refine ACallS.tmut 0 (pick_spec code hc a6 s6 (by omega) 5 (by omega) (by omega)) ?_ rfl (by (repeat' (first | exact trivial | exact rfl | refine And.intro ?_ ?_)) <;> (try first | omega | (simp; done))) (by (repeat' (first | exact trivial | exact rfl | refine And.intro ?_ ?_)) <;> (try first | omega | (simp; done))); rintro v r ⟨y, a7, s7, rfl, y0, y1, e_a7, g_a7, rfl⟩; (conv => whnf); obtain ⟨i, rfl, hi⟩ := nat_of (len := 5) y0 (by omega); refine ⟨i, rfl, hi, ?_⟩; (conv => whnf); have h_v : -10 ≤ ((((((List.replicate 5 (0 : Int)).set 0 9).set 1 (-9)).set 2 10).set 3 (-10)).set 4 4611686018427387904).getD i 0 ∧ ((((((List.replicate 5 (0 : Int)).set 0 9).set 1 (-9)).set 2 10).set 3 (-10)).set 4 4611686018427387904).getD i 0 ≤ 4611686018427387904 := among_in (by kernel_rfl) hi; generalize ((((((List.replicate 5 (0 : Int)).set 0 9).set 1 (-9)).set 2 10).set 3 (-10)).set 4 4611686018427387904).getD i 0 = v at h_v ⊢; refine ⟨rfl, ?_⟩; (conv => whnf); clear y0 y1 hi)
        | exact fin _ _ _ (by assumption) (by assumption) (by assumption)
        | (refine And.intro ?_ ?_ <;> (conv => whnf)))
    · conv => whnf
      refine ⟨fun h6 => ?_, fun h6 => ?_⟩
      · conv => whnf
        refine ASet.app tyOk rfl rfl rfl rfl rfl rfl rfl rfl rfl rfl rfl rfl ?_
        conv => whnf
        refine ⟨0, rfl, hm0, ?_⟩
        conv => whnf
        refine ⟨rfl, hm0, by simp only [room, List.length_set, List.length_replicate]; omega, ?_⟩
        conv => whnf
        refine ⟨m.set 0 (m.getD 0 [] ++ [0]), a6, s6, rfl, ⟨by simp; omega, fun r hr => ?_⟩, by omega, by omega, rfl⟩
        rcases List.mem_or_eq_of_mem_set hr with h | rfl
        · exact hrm r h
        · refine ⟨by rw [List.length_append, List.length_singleton]; omega, fun x hx => ?_⟩
          rcases List.mem_append.1 hx with h | h
          · exact hr0.2 x h
          · rw [List.mem_singleton] at h
            rw [h]; unfold InR; omega
      · conv => whnf
        refine ⟨fun h7 => ?_, fun h7 => ?_⟩
        · conv => whnf
          refine ADraw.plan tyOk mx (.q 0 (.q 1 (.q 2 (.q 3 (.q 5 (.q 6 (.q 7 (.last 4 (.last 8 (.last 9 (.last 10 (.q 11 (.done)))))))))))) : Plan) (by kernel_rfl) ?_
          conv => whnf
          refine ⟨0, rfl, hm0, 0, rfl, hm0, ?_⟩
          conv => whnf
          refine ACall.useR (l1OwnC_spec _ (by omega)) ?_
          conv => whnf
          refine ACall.useR (l1OwnC_spec _ (by omega)) ?_
          conv => whnf
          refine ⟨by simp only [room, List.length_cons, List.length_nil]; omega, ?_⟩
          conv => whnf
          refine ⟨m ++ [m.getD 0 [], m.getD 0 []], a6, s6, rfl, ⟨by simp; omega, fun r hr => ?_⟩, by omega, by omega, rfl⟩
          rcases List.mem_append.1 hr with h | h
          · exact hrm r h
          · have : r = m.getD 0 [] := by simpa using h
            rw [this]; exact ⟨by omega, hr0.2⟩
        · conv => whnf
          refine ⟨fun h8 => ?_, fun h8 => ?_⟩
          · conv => whnf
            exact ⟨[], a6, s6, rfl, by simp, by omega, by omega, rfl⟩
          · conv => whnf
            exact ⟨m, a6, s6, rfl, ⟨by omega, fun r hr => ⟨by have := (k2 r hr).1; omega, (k2 r hr).2⟩⟩, by omega, by omega, rfl⟩
end Go.Proofs.Ytkjdplglenjijaa
/- Small tables, as the draws make them. -/
namespace Go.Proofs.Ytkjdplglenjijaa
open Go.Aw
set_option maxRecDepth 100000

def wide5 (m : List (List Int)) : Nat := if m.length = 0 then 1 else (m.getD 0 []).length
theorem l5Wide_spec (m : List (List Int)) : FSpec Try.prog 26 [.t (.rows m)] (ex (.c (.int .i64 (wide5 m))) []) := by
  refine fspec tyOk mx Try.func26 rfl (by kernel_rfl) rfl ?_
  conv => whnf
  refine ⟨fun h => ?_, fun h => ?_⟩
  · have h : m.length = 0 := by simpa using h
    conv => whnf
    exact ⟨by rw [wide5, if_pos h]; rfl, rfl⟩
  · have h : m.length ≠ 0 := by simpa using h
    conv => whnf
    refine ⟨0, rfl, by omega, ?_⟩
    conv => whnf
    exact ⟨by rw [wide5, if_neg h], rfl⟩

/-- a small table -/
def SmM (m : List (List Int)) : Prop := m.length ≤ 5 ∧ ∀ r, r ∈ m → r.length ≤ 5 ∧ ∀ x, x ∈ r → InR x
theorem SmM.ok {m : List (List Int)} (h : SmM m) : OkM m ∧ SzM m := by
  refine ⟨⟨by have := h.1; omega, fun r hr => ⟨by have := (h.2 r hr).1; omega, (h.2 r hr).2⟩⟩, ?_⟩
  have h1 := tot_le_mul (m := m) (n := 5) (fun r hr => (h.2 r hr).1)
  have h2 := h.1
  have : m.length * 5 ≤ 5 * 5 := Nat.mul_le_mul_right 5 h2
  unfold SzM; omega
theorem SmM.wide {m : List (List Int)} (h : SmM m) : wide5 m ≤ 100 := by
  unfold wide5
  split
  · omega
  · rename_i h0
    have := (h.2 _ (getD_mem (d := []) (k := 0) (by omega : 0 < m.length))).1
    omega
end Go.Proofs.Ytkjdplglenjijaa
/- Draws of numbers of a list, of sizes. -/
namespace Go.Proofs.Ytkjdplglenjijaa
open Go.Aw
set_option maxRecDepth 100000


/-- one of a list -/
def drawnC (code : List Int) (a : Nat) (lo hi : Int) (v : AVal) (r : ARow) : Prop :=
  ∃ (x : Int) (a' : Nat) (s' : Int), v = .c (.int .i64 x) ∧ lo ≤ x ∧ x ≤ hi ∧ a ≤ a' ∧ a' ≤ a + 2 ∧ r = cur code a' s'
theorem among_spec (code : List Int) (hc : OkB code) (a : Nat) (s : Int) (ha : a ≤ 900000000) (l : List Int) (hl : (Nat.ble 1 l.length && Nat.ble l.length 65536) = true) (lo hi : Int) (hin : rowIn l lo hi = true) :
    TSpec Try.prog 23 (cur code a s) [.ptr 0 0, .t (.ints .i64 l)] (drawnC code a lo hi) := by
  simp only [Bool.and_eq_true, Nat.ble_eq] at hl
  refine tspec tyOk mx Try.func23 rfl (by kernel_rfl) rfl rfl ?_
  conv => whnf
  refine ACallS.tmut 0 (pick_spec code hc a s ha l.length (by omega) (by omega)) ?_ rfl (by (repeat' (first | exact trivial | exact rfl | refine And.intro ?_ ?_)) <;> (try first | omega | (simp; done))) (by (repeat' (first | exact trivial | exact rfl | refine And.intro ?_ ?_)) <;> (try first | omega | (simp; done)))
  rintro v r ⟨x, a1, s1, rfl, x0, x1, e1, g1, rfl⟩
  conv => whnf
  obtain ⟨i, rfl, hi⟩ := nat_of (len := l.length) x0 (by omega)
  refine ⟨i, rfl, hi, ?_⟩
  conv => whnf
  have h := among_in hin hi
  exact ⟨_, a1, s1, rfl, h.1, h.2, e1, g1, rfl⟩

def near (x : Int) : Nat := (if x < 0 then 0 else if x < 4 then x else 4).toNat
theorem near_le (x : Int) : near x ≤ 4 := by unfold near; omega

/-- a drawn pair of numbers of questions -/
def drawn2 (code : List Int) (a k : Nat) (v : AVal) (r : ARow) : Prop :=
  ∃ (x y : Int) (a' : Nat) (s' : Int), v = .tu [.c (.int .i64 x), .c (.int .i64 y)] ∧ InR x ∧ InR y ∧ a ≤ a' ∧ a' ≤ a + k ∧ r = cur code a' s'


end Go.Proofs.Ytkjdplglenjijaa
/- Draws of spreads. -/
namespace Go.Aw
/-- what follows a piece of code that ends in the normal way -/
def contN (G : St → Prop) (K : Exit → St → Prop) (e : Exit) (s : St) : Prop := match e with | .normal => G s | e => K e s
theorem acode_seq {P : Program} {Γ : Tys} {a b : Code} {st : St} {K : Exit → St → Prop} : acode P Γ (.seq a b) st K = acode P Γ a st (contN (fun s => acode P Γ b s K) K) := rfl
/-- two pieces of code that lead to one state, told by the kernel's reckoning -/
theorem acode_two {P : Program} {Γ : Tys} {a b r : Code} {st : St} {K : Exit → St → Prop} (st1 : St) (h : ∀ F : Exit → St → Prop, acode P Γ (.seq a b) st F = F .normal st1) (x : acode P Γ r st1 K) : acode P Γ (.seq a (.seq b r)) st K := by
  have h := h (contN (fun s => acode P Γ r s K) K)
  have e : acode P Γ (.seq a (.seq b r)) st K = acode P Γ (.seq a b) st (contN (fun s => acode P Γ r s K) K) := by
    rw [acode_seq, acode_seq]
    congr 1
    funext e s
    cases e <;> rfl
  rw [e, h]
  exact x
/-- a condition that is not to be worked out yet -/
structure Held (p : Prop) : Prop where
  out : p
theorem Held.two {P : Program} {Γ : Tys} {a b r : Code} {st : St} {K : Exit → St → Prop} (st1 : St) (h : ∀ F : Exit → St → Prop, acode P Γ (.seq a b) st F = F .normal st1) (x : Held (acode P Γ r st1 K)) : Held (acode P Γ (.seq a (.seq b r)) st K) := ⟨acode_two st1 h x.out⟩
theorem tspecH {P : Program} {Γ : Tys} (hΓ : TysOk P Γ) (hm : P.follows .mixedOrders = true) {f : FuncId} {fn : Func} {c : Code} {r0 : ARow} {args : List AVal} {post : AVal → ARow → Prop} (hf : P.funcs[f]? = some fn) (hb : fn.body = some c)
    (hname : (fn.name == "runtime.NumGoroutine") = false) (hn : Nat.ble args.length fn.ntmps = true) (hg : tRow r0 = true)
    (h : Held (acode P Γ c ⟨fn.ntmps, (fn.ntmps, ghostOf r0) :: initSl 0 args, [(0, r0)], 1⟩ (tend Γ fn.results.toList fn.ntmps r0 post))) : TSpec P f r0 args post := tspec hΓ hm hf hb hname hn hg h.out
end Go.Aw
namespace Go.Proofs.Ytkjdplglenjijaa
open Go.Aw
set_option maxRecDepth 100000
set_option maxHeartbeats 4000000

/-- the tables of the draw of spreads -/
def spT : List (List (List Int)) := [[[1], [-1]], [[1, 0], [0, 1], [-1, 0], [0, -1]], [[3, 4], [4, 3], [5, 0], [0, -5], [-3, 4]], [[1, 2, 2], [2, 1, 2], [3, 0, 0], [2, -2, 1], [0, 0, -3]], [[1, 1, 1, 1], [2, 0, 0, 0], [1, -1, 1, -1], [0, 0, 0, 2]]]
def tabOk (T : List (List Int)) : Bool := Nat.ble 1 T.length && Nat.ble T.length 5 && T.all fun r => Nat.ble 1 r.length && Nat.ble r.length 4 && rowIn r (-9) 9
theorem spT_ok : ∀ k : Nat, k < 5 → tabOk (spT.getD k []) = true := by decide +kernel

theorem spread5_spec (code : List Int) (hc : OkB code) (a : Nat) (s : Int) (ha : a ≤ 700000000) (n k : Nat) (hn : n ≤ 5) (hk : k < 5) :
    TSpec Try.prog 46 (cur code a s) [.ptr 0 0, .c (.int .i64 (n)), .c (.int .i64 (k))] (drawnM code a 1000) := by
  refine tspecH tyOk mx Try.func46 rfl (by kernel_rfl) rfl rfl ?_
  refine Held.two (⟨72, [(7, .own 26), (36, .own 26), (35, .own 25), (34, .own 24), (33, .own 23), (32, .own 22), (31, .own 21), (30, .own 20), (29, .own 19), (28, .own 18), (27, .own 17), (26, .own 16), (25, .own 15), (24, .own 14), (23, .own 13), (22, .own 12), (21, .own 11), (20, .own 10), (19, .own 9), (18, .own 8), (17, .own 7), (16, .own 6), (15, .own 5), (14, .own 4), (13, .own 3), (12, .own 2), (11, .own 1), (6, .c (.slice none 0 0)), (72, .ptr 0 0), (0, .ptr 0 0), (1, .c (.int .i64 (n))), (2, .c (.int .i64 (k)))], [(26, .recs 24 0 (spT.map fun m => ([], m))), (0, cur code a s)], 27⟩ : St) (fun F => ?_) ?_
  · kernel_rfl
  refine ⟨?_⟩
  conv => whnf
  refine ⟨k, rfl, hk, ?_⟩
  conv => whnf
  have hT := spT_ok k hk
  have eT : ((spT.map fun m => (([] : List Int), m)).getD k ([], [])).2 = spT.getD k [] := by
    have : k = 0 ∨ k = 1 ∨ k = 2 ∨ k = 3 ∨ k = 4 := by omega
    rcases this with rfl | rfl | rfl | rfl | rfl <;> rfl
  rw [eT]
  generalize spT.getD k [] = T at hT ⊢
  simp only [tabOk, Bool.and_eq_true, List.all_eq_true] at hT
  obtain ⟨⟨t1, t2⟩, t3⟩ := hT
  have t1 := Nat.le_of_ble_eq_true t1
  have t2 := Nat.le_of_ble_eq_true t2
  have t4 : ∀ r, r ∈ T → 1 ≤ r.length ∧ r.length ≤ 4 ∧ ∀ x, x ∈ r → InR x := fun r hr => by
    have h := t3 r hr
    refine ⟨Nat.le_of_ble_eq_true h.1.1, Nat.le_of_ble_eq_true h.1.2, fun x hx => ?_⟩
    have h2 : ∀ x, x ∈ r → -9 ≤ x ∧ x ≤ 9 := by simpa [rowIn, inR] using h.2
    have := h2 x hx
    unfold InR; omega
  clear t3 eT
  refine aloopI tyOk mx (fun x : List (List Int) × Nat × Int => (⟨72, [(0, .ptr 0 0), (1, .c (.int .i64 (n))), (8, .t (.rows T)), (9, .own 1), (10, .c (.int .i64 (x.1.length))), (72, .ptr 0 0)], [(0, cur code x.2.1 x.2.2), (1, .rows 25 3 true x.1)], 2⟩ : St)) (fun x => x.1.length ≤ n ∧ (∀ r, r ∈ x.1 → 1 ≤ r.length ∧ r.length ≤ 4 ∧ ∀ y, y ∈ r → InR y) ∧ a ≤ x.2.1 ∧ x.2.1 ≤ a + 10 * x.1.length) (fun x => n - x.1.length) ([], a, s) ⟨by simp, by simp, by simp, by simp⟩ (some [(0, .row 0), (1, .row 27)]) (by (refine ⟨rfl, rfl, ?_, ?_⟩ <;> ((repeat' (first | exact trivial | exact rfl | refine And.intro ?_ ?_)) <;> (try ((conv => whnf); first | refine vint ?_ | refine vboo ?_ | refine rint ?_ | refine rrow ?_ | skip)) <;> (try first | omega | (simp; done) | ((repeat rw [flts_closed _ (by assumption)]); exact vws_closed _ (by assumption)))))) (fun x hx => ?_)
  obtain ⟨m, a1, s1⟩ := x
  obtain ⟨h1, h2, h3, h4⟩ := hx
  simp only at h1 h2 h3 h4
  dsimp only
  conv => whnf
  refine ⟨fun h => ?_, fun h => ?_⟩
  · have h := ltT h
    conv => whnf
    refine ACallS.tmut 0 (pick_spec code hc a1 s1 (by omega) (T.length : Int) (by omega) (by omega)) ?_ rfl (by (repeat' (first | exact trivial | exact rfl | refine And.intro ?_ ?_)) <;> (try first | omega | (simp; done))) (by (repeat' (first | exact trivial | exact rfl | refine And.intro ?_ ?_)) <;> (try first | omega | (simp; done)))
    rintro v r ⟨y, a2, s2, rfl, l_y, u_y, e_a2, g_a2, rfl⟩
    conv => whnf
    obtain ⟨j, rfl, hj⟩ := nat_of (len := T.length) l_y (by omega)
    refine ⟨j, rfl, hj, ?_⟩
    conv => whnf
    have hr := t4 _ (getD_mem (d := []) hj)
    refine ACall.use (l1OwnC_spec (T.getD j []) (by omega)) ?_
    conv => whnf
    refine ⟨by simp [room]; omega, ?_⟩
    conv => whnf
    rw [nat_wrap (by omega)]
    refine ⟨(m ++ [T.getD j []], a2, s2), none, (by refine ⟨rfl, rfl, ?_, ?_⟩ <;> ((repeat' (first | exact trivial | exact rfl | refine And.intro ?_ ?_)) <;> (try ((conv => whnf); first | refine vint ?_ | refine vboo ?_ | refine rint ?_ | refine rrow ?_ | skip)) <;> (try first | omega | (simp; done) | ((repeat rw [flts_closed _ (by assumption)]); exact vws_closed _ (by assumption))))), ⟨by simp; omega, fun r hr2 => ?_, by simp only; omega, by simp only [List.length_append, List.length_singleton]; omega⟩, by simp; omega⟩
    rcases List.mem_append.1 hr2 with h | h
    · exact h2 r h
    · rw [List.mem_singleton] at h; subst h; exact hr
  · have h := ltF h
    have hsm : m.length ≤ 5 ∧ ∀ r, r ∈ m → r.length ≤ 5 ∧ ∀ x, x ∈ r → InR x := ⟨by omega, fun r hr => ⟨by have := (h2 r hr).2.1; omega, (h2 r hr).2.2⟩⟩
    have stop : ∀ (a7 : Nat) (s7 : Int), a1 ≤ a7 → a7 ≤ a1 + 2 → drawnM code a 1000 (.t (.rows m)) (cur code a7 s7) := fun a7 s7 e1 e2 => ⟨m, a7, s7, rfl, hsm, by omega, by omega, rfl⟩
    conv => whnf
    refine ⟨fun h0 => ?_, fun h0 => ?_⟩
    · have h0 : 0 < n := by have := of_decide_eq_true h0; omega
      have hm0 : 0 < m.length := by omega
      have hr0 := h2 _ (getD_mem (d := []) hm0)
      conv => whnf
      refine ACallS.tmut 0 (one_spec code hc a1 s1 (by omega) 30 (by omega) (by omega)) ?_ rfl (by (repeat' (first | exact trivial | exact rfl | refine And.intro ?_ ?_)) <;> (try first | omega | (simp; done))) (by (repeat' (first | exact trivial | exact rfl | refine And.intro ?_ ?_)) <;> (try first | omega | (simp; done)))
      rintro v r ⟨b, a2, s2, rfl, e_a2, g_a2, rfl⟩
      conv => whnf
      refine ⟨fun hb => ?_, fun hb => ?_⟩
      · conv => whnf
        refine ADraw.planX [5] tyOk mx (.q 0 (.q 1 (.q 3 (.alt 2 (.last 4 (.inl 5 (.q 6 (.last 7 (.done))))) (.last 4 (.alt 2 (.inl 5 (.q 6 (.last 7 (.done)))) (.inl 5 (.last 2 (.q 6 (.last 7 (.done)))))))))) : Plan) (by kernel_rfl) ?_
        conv => whnf
        have fin : ∀ (v : Int) (a7 : Nat) (s7 : Int), (0 ≤ v ∧ v ≤ 10) → a2 ≤ a7 → a7 ≤ a2 + 2 → drawnM code a 1000 (.t (.rows (m.set 0 ((m.getD 0 []).set 0 v)))) (cur code a7 s7) := fun v a7 s7 hv e1 e2 => by
          refine ⟨_, a7, s7, rfl, ⟨by simp; omega, fun r hr => ?_⟩, by omega, by omega, rfl⟩
          rcases List.mem_or_eq_of_mem_set hr with h | rfl
          · exact hsm.2 r h
          · refine ⟨by rw [List.length_set]; omega, fun x hx => ?_⟩
            rcases List.mem_or_eq_of_mem_set hx with h | rfl
            · exact hr0.2.2 x h
            · unfold InR; omega
        repeat' (first
          | (refine ⟨0, rfl, hm0, ?_⟩; conv => whnf)
          | (refine ⟨0, rfl, (by omega : 0 < (m.getD 0 []).length), ?_⟩; conv => whnf)
          | (refine ACallS.inline tyOk mx Try.func23 rfl (by kernel_rfl) rfl ?_; (conv => whnf); refine ACallS.tmut 0 (pick_spec code hc a2 s2 (by omega) 3 (by omega) (by omega)) ?_ rfl (by (repeat' (first | exact trivial | exact rfl | refine And.intro ?_ ?_)) <;> (try first | omega | (simp; done))) (by (repeat' (first | exact trivial | exact rfl | refine And.intro ?_ ?_)) <;> (try first | omega | (simp; done))); rintro v r ⟨y, a7, s7, rfl, y0, y1, e_a7, g_a7, rfl⟩; (conv => whnf); obtain ⟨i, rfl, hi⟩ := nat_of (len := 3) y0 (by omega); refine ⟨i, rfl, hi, ?_⟩; (conv => whnf); have h_v : 0 ≤ ((((List.replicate 3 (0 : Int)).set 0 0).set 1 9).set 2 10).getD i 0 ∧ ((((List.replicate 3 (0 : Int)).set 0 0).set 1 9).set 2 10).getD i 0 ≤ 10 := among_in (by kernel_rfl) hi; generalize ((((List.replicate 3 (0 : Int)).set 0 0).set 1 9).set 2 10).getD i 0 = v at h_v ⊢; refine ⟨rfl, ?_⟩; (conv => whnf); clear y0 y1 hi)
          | exact fin _ _ _ (by assumption) (by assumption) (by assumption)
          | (refine And.intro ?_ ?_ <;> (conv => whnf)))
      · conv => whnf
        exact stop _ _ (by omega) (by omega)
    · (repeat (conv => whnf); (first | refine ⟨fun h => absurd h (by decide), fun _ => ?_⟩ | refine ⟨fun _ => ?_, fun h => absurd h (by decide)⟩)); conv => whnf
      exact stop _ _ (by omega) (by omega)

/-- a drawn table and two more -/
def tabRRR : AVal → List (Nat × ARow) → Prop := fun v h => h = [] ∧ ∃ (m p q : List (List Int)), SmM m ∧ SmM p ∧ SmM q ∧ v = .tu [.t (.rows m), .t (.rows p), .t (.rows q)]
theorem wide5_5 {m : List (List Int)} (h : SmM m) : wide5 m ≤ 5 := by
  unfold wide5
  split
  · omega
  · exact (h.2 _ (getD_mem (d := []) (k := 0) (by omega : 0 < m.length))).1
theorem DrawIsSpread_spec (code : List Int) (hc : OkB code) : FSpec Try.prog 33 [.t (.ints .u8 code)] tabRRR := by
  refine fspec tyOk mx Try.func33 rfl (by kernel_rfl) rfl ?_
  conv => whnf
  refine ACallS.tmut 0 (signs5_spec code hc 0 0 (by omega)) ?_ rfl (by (repeat' (first | exact trivial | exact rfl | refine And.intro ?_ ?_)) <;> (try first | omega | (simp; done))) (by (repeat' (first | exact trivial | exact rfl | refine And.intro ?_ ?_)) <;> (try first | omega | (simp; done)))
  rintro v r ⟨m, a1, s1, rfl, hm, e1, g1, rfl⟩
  have hm : SmM m := hm
  have hw := wide5_5 hm
  conv => whnf
  refine ACallS.tmut 0 (pick_spec code hc a1 s1 (by omega) 5 (by omega) (by omega)) ?_ rfl (by (repeat' (first | exact trivial | exact rfl | refine And.intro ?_ ?_)) <;> (try first | omega | (simp; done))) (by (repeat' (first | exact trivial | exact rfl | refine And.intro ?_ ?_)) <;> (try first | omega | (simp; done)))
  rintro v r ⟨k, a2, s2, rfl, l_k, u_k, e_a2, g_a2, rfl⟩
  conv => whnf
  obtain ⟨k, rfl, hk⟩ := nat_of (len := 5) l_k (by omega)
  refine ACallS.tmut 0 (one_spec code hc a2 s2 (by omega) 20 (by omega) (by omega)) ?_ rfl (by (repeat' (first | exact trivial | exact rfl | refine And.intro ?_ ?_)) <;> (try first | omega | (simp; done))) (by (repeat' (first | exact trivial | exact rfl | refine And.intro ?_ ?_)) <;> (try first | omega | (simp; done)))
  rintro v r ⟨b, a3, s3, rfl, e_a3, g_a3, rfl⟩
  conv => whnf
  refine ⟨fun hb => ?_, fun hb => ?_⟩
  · conv => whnf
    refine ACallS.tmut 0 (pick_spec code hc a3 s3 (by omega) 5 (by omega) (by omega)) ?_ rfl (by (repeat' (first | exact trivial | exact rfl | refine And.intro ?_ ?_)) <;> (try first | omega | (simp; done))) (by (repeat' (first | exact trivial | exact rfl | refine And.intro ?_ ?_)) <;> (try first | omega | (simp; done)))
    rintro v r ⟨k2, a4, s4, rfl, l_k2, u_k2, e_a4, g_a4, rfl⟩
    conv => whnf
    obtain ⟨k2, rfl, hk2⟩ := nat_of (len := 5) l_k2 (by omega)
    refine ACallS.tmut 0 (spread5_spec code hc a4 s4 (by omega) m.length k hm.1 hk) ?_ rfl (by (repeat' (first | exact trivial | exact rfl | refine And.intro ?_ ?_)) <;> (try first | omega | (simp; done))) (by (repeat' (first | exact trivial | exact rfl | refine And.intro ?_ ?_)) <;> (try first | omega | (simp; done)))
    rintro v r ⟨p, a5, s5, rfl, hp, e5, g5, rfl⟩
    have hp : SmM p := hp
    conv => whnf
    refine ACall.use (l5Wide_spec m) ?_
    conv => whnf
    refine ACallS.tmut 0 (spread5_spec code hc a5 s5 (by omega) (wide5 m) k2 hw hk2) ?_ rfl (by (repeat' (first | exact trivial | exact rfl | refine And.intro ?_ ?_)) <;> (try first | omega | (simp; done))) (by (repeat' (first | exact trivial | exact rfl | refine And.intro ?_ ?_)) <;> (try first | omega | (simp; done)))
    rintro v r ⟨q, a6, s6, rfl, hq, e6, g6, rfl⟩
    have hq : SmM q := hq
    conv => whnf
    exact ⟨rfl, m, p, q, hm, hp, hq, rfl⟩
  · conv => whnf
    refine ACallS.tmut 0 (spread5_spec code hc a3 s3 (by omega) m.length k hm.1 hk) ?_ rfl (by (repeat' (first | exact trivial | exact rfl | refine And.intro ?_ ?_)) <;> (try first | omega | (simp; done))) (by (repeat' (first | exact trivial | exact rfl | refine And.intro ?_ ?_)) <;> (try first | omega | (simp; done)))
    rintro v r ⟨p, a5, s5, rfl, hp, e5, g5, rfl⟩
    have hp : SmM p := hp
    conv => whnf
    refine ACall.use (l5Wide_spec m) ?_
    conv => whnf
    refine ACallS.tmut 0 (spread5_spec code hc a5 s5 (by omega) (wide5 m) k hw hk) ?_ rfl (by (repeat' (first | exact trivial | exact rfl | refine And.intro ?_ ?_)) <;> (try first | omega | (simp; done))) (by (repeat' (first | exact trivial | exact rfl | refine And.intro ?_ ?_)) <;> (try first | omega | (simp; done)))
    rintro v r ⟨q, a6, s6, rfl, hq, e6, g6, rfl⟩
    have hq : SmM q := hq
    conv => whnf
    exact ⟨rfl, m, p, q, hm, hp, hq, rfl⟩
theorem DrawSpreadWorth_spec (code : List Int) (hc : OkB code) : FSpec Try.prog 10 [.t (.ints .u8 code)] tabRRR := by
  refine fspec tyOk mx Try.func10 rfl (by kernel_rfl) rfl ?_
  conv => whnf
  refine ACall.use' (DrawIsSpread_spec code hc) ?_
  rintro v hr ⟨rfl, m, p, q, hm, hp, hq, rfl⟩
  conv => whnf
  exact ⟨rfl, m, p, q, hm, hp, hq, rfl⟩
end Go.Proofs.Ytkjdplglenjijaa
