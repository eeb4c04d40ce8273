/- Boxes as the draws make them: only their shapes. -/
import Derived.Test.YtkjdplglenjijaaGreatM3
import Derived.Test.YtkjdplglenjijaaGreatM2
namespace Go.Proofs.YtkjdplglenjijaaGreat
open Go.Aw
set_option maxRecDepth 100000
set_option maxHeartbeats 4000000

/-- rows of four numbers -/
def R4 (m : List (List Int)) : Prop := ∀ r, r ∈ m → r.length = 4 ∧ ∀ v, v ∈ r → InR v
theorem R4.nil : R4 [] := fun _ h => by simp at h
theorem R4.app {m : List (List Int)} (h : R4 m) {r : List Int} (hr : r.length = 4 ∧ ∀ v, v ∈ r → InR v) : R4 (m ++ [r]) := fun q hq => by
  rcases List.mem_append.1 hq with h1 | h1
  · exact h q h1
  · rw [List.mem_singleton] at h1; rw [h1]; exact hr
theorem four (z1 z2 z3 z4 : Int) (h1 : InR z1) (h2 : InR z2) (h3 : InR z3) (h4 : InR z4) : ([z1, z2, z3, z4] : List Int).length = 4 ∧ ∀ v, v ∈ [z1, z2, z3, z4] → InR v := by
  refine ⟨rfl, fun v hv => ?_⟩
  simp only [List.mem_cons, List.not_mem_nil, or_false] at hv
  rcases hv with rfl | rfl | rfl | rfl
  · exact h1
  · exact h2
  · exact h3
  · exact h4
theorem inr0 : InR 0 := by unfold InR; omega
theorem set4 {l : List Int} (h : l.length = 4 ∧ ∀ v, v ∈ l → InR v) (i : Nat) {x : Int} (hx : InR x) : (l.set i x).length = 4 ∧ ∀ v, v ∈ l.set i x → InR v := by
  refine ⟨by rw [List.length_set]; exact h.1, fun v hv => ?_⟩
  rcases List.mem_or_eq_of_mem_set hv with h1 | rfl
  · exact h.2 v h1
  · exact hx
theorem rep4 : (List.replicate 4 (0 : Int)).length = 4 ∧ ∀ v, v ∈ List.replicate 4 (0 : Int) → InR v := ⟨by simp, fun v hv => by rw [List.eq_of_mem_replicate hv]; exact inr0⟩
theorem getI {l : List Int} (h : ∀ v, v ∈ l → InR v) (i : Nat) : InR (l.getD i 0) := by
  by_cases hi : i < l.length
  · exact h _ (getD_mem hi)
  · rw [List.getD_eq_getElem?_getD, List.getElem?_eq_none (by omega)]; exact inr0

/-- a box of that shape, of the function's own -/
def boxN (x y : Int) (n : Nat) : AVal → List (Nat × ARow) → Prop := fun v h =>
  ∃ (z : Int) (m : List (List Int)), InR z ∧ m.length = n ∧ R4 m ∧ v = .ag [.c (.int .i64 x), .c (.int .i64 y), .c (.int .i64 z), .own 0] ∧ h = [(0, .rows 38 3 true m)]

theorem l2PlayBox_g (nx ny : Nat) (hx : nx ≤ 3) (hy : ny ≤ 3) (play : List Int) (hl : play.length = nx + ny) (h01 : ∀ v, v ∈ play → 0 ≤ v ∧ v ≤ 1) (w : Int) (hw : InR w) :
    FSpec Tryz.prog 85 [.c (.int .i64 (nx)), .c (.int .i64 (ny)), .t (.ints .i64 play), .c (.int .i64 (w))] (boxN nx ny (nx * ny)) := by
  have hn : nx * ny ≤ 3 * 3 := Nat.mul_le_mul hx hy
  refine fspec tyOk mx Tryz.func85 rfl (by kernel_rfl) rfl ?_
  conv => whnf
  refine aloopI tyOk mx (fun p : Nat × List (List Int) => (⟨51, [(0, .c (.int .i64 (nx))), (1, .c (.int .i64 (ny))), (2, .t (.ints .i64 play)), (3, .c (.int .i64 (w))), (8, .ptr 0 0), (9, .ptr 2 0), (10, .c (.int .i64 (p.1)))], [(0, .cells 26 [.c (.int .i64 (0)), .c (.int .i64 (0)), .c (.int .i64 (0)), .c (.slice none 0 0)]), (1, .rows 38 3 true p.2), (2, .cells 26 [.c (.int .i64 (nx)), .c (.int .i64 (ny)), .c (.int .i64 (w)), .own 1])], 3⟩ : St)) (fun p => p.1 ≤ nx ∧ p.2.length = p.1 * ny ∧ R4 p.2) (fun p => nx - p.1) (0, []) ⟨by simp, by simp, R4.nil⟩ none (by refine ⟨rfl, rfl, ?_, ?_⟩ <;> ((repeat' (first | exact trivial | exact rfl | refine And.intro ?_ ?_)) <;> (try ((conv => whnf); first | refine vint ?_ | refine vboo ?_ | refine rint ?_ | refine rrow ?_ | skip)) <;> (try first | omega | (simp; done) | ((repeat rw [flts_closed _ (by assumption)]); exact vws_closed _ (by assumption))))) (fun p hp => ?_)
  obtain ⟨i, m⟩ := p
  obtain ⟨p1, p2, p3⟩ := hp
  simp only at p1 p2 p3
  dsimp only
  refine ⟨fun h => ?_, fun h => ?_⟩
  · have h : i < nx := by have := of_decide_eq_true h; omega
    have hix : i * ny + ny ≤ nx * ny := by have := Nat.mul_le_mul_right ny h; rw [Nat.succ_mul] at this; exact this
    conv => whnf
    refine aloopI tyOk mx (fun q : Nat × List (List Int) => (⟨51, [(0, .c (.int .i64 (nx))), (1, .c (.int .i64 (ny))), (2, .t (.ints .i64 play)), (3, .c (.int .i64 (w))), (8, .ptr 0 0), (9, .ptr 2 0), (10, .c (.int .i64 (i))), (11, .c (.int .i64 (q.1)))], [(0, .cells 26 [.c (.int .i64 (0)), .c (.int .i64 (0)), .c (.int .i64 (0)), .c (.slice none 0 0)]), (1, .rows 38 3 true q.2), (2, .cells 26 [.c (.int .i64 (nx)), .c (.int .i64 (ny)), .c (.int .i64 (w)), .own 1])], 3⟩ : St)) (fun q => q.1 ≤ ny ∧ q.2.length = i * ny + q.1 ∧ R4 q.2) (fun q => ny - q.1) (0, m) ⟨by simp, by simpa using p2, p3⟩ none (by refine ⟨rfl, rfl, ?_, ?_⟩ <;> ((repeat' (first | exact trivial | exact rfl | refine And.intro ?_ ?_)) <;> (try ((conv => whnf); first | refine vint ?_ | refine vboo ?_ | refine rint ?_ | refine rrow ?_ | skip)) <;> (try first | omega | (simp; done) | ((repeat rw [flts_closed _ (by assumption)]); exact vws_closed _ (by assumption))))) (fun q hq => ?_)
    obtain ⟨k, m⟩ := q
    obtain ⟨q1, q2, q3⟩ := hq
    simp only at q1 q2 q3
    dsimp only
    refine ⟨fun h2 => ?_, fun h2 => ?_⟩
    · have h2 : k < ny := by have := of_decide_eq_true h2; omega
      have hp := h01 _ (getD_mem (d := 0) (show i < play.length by omega))
      have hq := h01 _ (getD_mem (d := 0) (show nx + k < play.length by omega))
      have e : IntKind.i64.wrap ((nx : Int) + (k : Int)) = ((nx + k : Nat) : Int) := by rw [w64 (by omega) (by omega)]; omega
      have e2 : IntKind.i64.wrap (IntKind.i64.wrap (2 * play.getD i 0) + play.getD (nx + k) 0) = ((2 * (play.getD i 0).toNat + (play.getD (nx + k) 0).toNat : Nat) : Int) := by
        rw [w64 (n := 2 * play.getD i 0) (by omega) (by omega), w64 (by omega) (by omega)]; omega
      conv => whnf
      refine ⟨4, rfl, rfl, by simp [room], ?_⟩
      conv => whnf
      refine ADraw.plan tyOk mx (.q 0 (.q 1 (.q 2 (.q 3 (.q 4 (.q 5 (.q 6 (.q 7 (.q 8 (.q 9 (.q 10 (.q 11 (.q 12 (.q 13 (.q 14 (.last 15 (.done)))))))))))))))) : Plan) (by kernel_rfl) ?_
      conv => whnf
      repeat' (first | (refine ⟨i, rfl, by omega, ?_⟩; conv => whnf) | (refine ⟨nx + k, e, by omega, ?_⟩; conv => whnf) | (refine ⟨2 * (play.getD i 0).toNat + (play.getD (nx + k) 0).toNat, e2, by rw [List.length_replicate]; omega, ?_⟩; conv => whnf) | (refine ⟨by simp [room]; omega, ?_⟩; conv => whnf) | (refine And.intro ?_ ?_ <;> (conv => whnf)))
      all_goals
        rw [nat_wrap (by omega)]
        refine ⟨(k + 1, m ++ [_]), none, (by refine ⟨rfl, rfl, ?_, ?_⟩ <;> ((repeat' (first | exact trivial | exact rfl | refine And.intro ?_ ?_)) <;> (try ((conv => whnf); first | refine vint ?_ | refine vboo ?_ | refine rint ?_ | refine rrow ?_ | skip)) <;> (try first | omega | (simp; done) | ((repeat rw [flts_closed _ (by assumption)]); exact vws_closed _ (by assumption))))), ⟨by simp only; omega, by simp only [List.length_append, List.length_singleton]; omega, R4.app q3 (set4 rep4 _ hw)⟩, by simp only; omega⟩
    · have h2 : ¬ k < ny := by have := of_decide_eq_false h2; omega
      obtain rfl : k = ny := by omega
      conv => whnf
      rw [nat_wrap (by omega)]
      exact ⟨(i + 1, m), none, (by refine ⟨rfl, rfl, ?_, ?_⟩ <;> ((repeat' (first | exact trivial | exact rfl | refine And.intro ?_ ?_)) <;> (try ((conv => whnf); first | refine vint ?_ | refine vboo ?_ | refine rint ?_ | refine rrow ?_ | skip)) <;> (try first | omega | (simp; done) | ((repeat rw [flts_closed _ (by assumption)]); exact vws_closed _ (by assumption))))), ⟨by simp only; omega, by simp only [Nat.succ_mul]; omega, q3⟩, by simp only; omega⟩
  · have h : ¬ i < nx := by have := of_decide_eq_false h; omega
    obtain rfl : i = nx := by omega
    conv => whnf
    exact ⟨w, m, hw, p2, p3, rfl, rfl⟩

theorem l2Mix_g (x y z x' y' z' : Int) (m m' : List (List Int)) (hm : m.length ≤ 1000) (h4 : ∀ r, r ∈ m → r.length = 4) (hm' : m.length ≤ m'.length) (h4' : ∀ r, r ∈ m' → r.length = 4) :
    FSpec Tryz.prog 95 [.ag [.c (.int .i64 (x)), .c (.int .i64 (y)), .c (.int .i64 (z)), .t (.rows m)], .ag [.c (.int .i64 (x')), .c (.int .i64 (y')), .c (.int .i64 (z')), .t (.rows m')]] (boxN x y m.length) := by
  refine fspec tyOk mx Tryz.func95 rfl (by kernel_rfl) rfl ?_
  conv => whnf
  refine aloopI tyOk mx (fun i : List (List Int) => (⟨59, [(2, .ptr 0 0), (3, .ptr 1 0), (4, .ptr 2 0), (5, .ptr 4 0), (6, .c (.int .i64 (i.length)))], [(0, .cells 26 [.c (.int .i64 (x)), .c (.int .i64 (y)), .c (.int .i64 (z)), .t (.rows m)]), (1, .cells 26 [.c (.int .i64 (x')), .c (.int .i64 (y')), .c (.int .i64 (z')), .t (.rows m')]), (2, .cells 26 [.c (.int .i64 (0)), .c (.int .i64 (0)), .c (.int .i64 (0)), .c (.slice none 0 0)]), (3, .rows 38 3 true i), (4, .cells 26 [.c (.int .i64 (x)), .c (.int .i64 (y)), .c (.int .i64 (W (z + z'))), .own 3])], 5⟩ : St)) (fun i => i.length ≤ m.length ∧ R4 i) (fun i => m.length - i.length) [] ⟨by simp, R4.nil⟩ none (by refine ⟨rfl, rfl, ?_, ?_⟩ <;> ((repeat' (first | exact trivial | exact rfl | refine And.intro ?_ ?_)) <;> (try ((conv => whnf); first | refine vint ?_ | refine vboo ?_ | refine rint ?_ | refine rrow ?_ | skip)) <;> (try first | omega | (simp; done) | ((repeat rw [flts_closed _ (by assumption)]); exact vws_closed _ (by assumption))))) (fun i hi => ?_)
  obtain ⟨i1, i2⟩ := hi
  refine ⟨fun h => ?_, fun h => ?_⟩
  · have h : i.length < m.length := by have := ltT h; omega
    have r1 := h4 _ (getD_mem (d := []) (k := i.length) (by omega))
    have r2 := h4' _ (getD_mem (d := []) (k := i.length) (by omega))
    conv => whnf
    refine aloopI tyOk mx (fun n : List Int => (⟨59, [(2, .ptr 0 0), (3, .ptr 1 0), (4, .ptr 2 0), (5, .ptr 4 0), (6, .c (.int .i64 (i.length))), (7, .own 5), (8, .c (.int .i64 (n.length)))], [(0, .cells 26 [.c (.int .i64 (x)), .c (.int .i64 (y)), .c (.int .i64 (z)), .t (.rows m)]), (1, .cells 26 [.c (.int .i64 (x')), .c (.int .i64 (y')), .c (.int .i64 (z')), .t (.rows m')]), (2, .cells 26 [.c (.int .i64 (0)), .c (.int .i64 (0)), .c (.int .i64 (0)), .c (.slice none 0 0)]), (3, .rows 38 3 true i), (4, .cells 26 [.c (.int .i64 (x)), .c (.int .i64 (y)), .c (.int .i64 (W (z + z'))), .own 3]), (5, .ints 3 .i64 n)], 6⟩ : St)) (fun n => n.length ≤ 4 ∧ ∀ v, v ∈ n → InR v) (fun n => 4 - n.length) [] ⟨by simp, by simp⟩ none (by refine ⟨rfl, rfl, ?_, ?_⟩ <;> ((repeat' (first | exact trivial | exact rfl | refine And.intro ?_ ?_)) <;> (try ((conv => whnf); first | refine vint ?_ | refine vboo ?_ | refine rint ?_ | refine rrow ?_ | skip)) <;> (try first | omega | (simp; done) | ((repeat rw [flts_closed _ (by assumption)]); exact vws_closed _ (by assumption))))) (fun n hn => ?_)
    obtain ⟨n1, n2⟩ := hn
    refine ⟨fun h5 => ?_, fun h5 => ?_⟩
    · have h5 : n.length < 4 := by have := of_decide_eq_true h5; omega
      refine ADraw.plan tyOk mx (.q 0 (.q 1 (.q 2 (.q 3 (.q 4 (.q 5 (.q 6 (.q 7 (.q 8 (.q 9 (.q 10 (.q 11 (.q 12 (.q 13 (.q 14 (.q 15 (.q 16 (.q 17 (.last 18 (.last 19 (.q 20 (.done))))))))))))))))))))) : Plan) (by kernel_rfl) ?_
      conv => whnf
      refine ⟨i.length, rfl, by omega, n.length, rfl, by omega, i.length, rfl, by omega, n.length, rfl, by omega, ?_⟩
      conv => whnf
      refine ⟨by simp [room]; omega, ?_⟩
      conv => whnf
      rw [nat_wrap (by omega)]
      refine ⟨n ++ [_], none, (by refine ⟨rfl, rfl, ?_, ?_⟩ <;> ((repeat' (first | exact trivial | exact rfl | refine And.intro ?_ ?_)) <;> (try ((conv => whnf); first | refine vint ?_ | refine vboo ?_ | refine rint ?_ | refine rrow ?_ | skip)) <;> (try first | omega | (simp; done) | ((repeat rw [flts_closed _ (by assumption)]); exact vws_closed _ (by assumption))))), ⟨by simp only [List.length_append, List.length_singleton]; omega, fun v hv => ?_⟩, by simp only [List.length_append, List.length_singleton]; omega⟩
      rcases List.mem_append.1 hv with h | h
      · exact n2 v h
      · rw [List.mem_singleton] at h; rw [h]; exact W_inr _
    · have h5 : ¬ n.length < 4 := by have := of_decide_eq_false h5; omega
      conv => whnf
      refine ⟨by simp [room]; omega, ?_⟩
      conv => whnf
      rw [nat_wrap (by omega)]
      exact ⟨i ++ [n], none, (by refine ⟨rfl, rfl, ?_, ?_⟩ <;> ((repeat' (first | exact trivial | exact rfl | refine And.intro ?_ ?_)) <;> (try ((conv => whnf); first | refine vint ?_ | refine vboo ?_ | refine rint ?_ | refine rrow ?_ | skip)) <;> (try first | omega | (simp; done) | ((repeat rw [flts_closed _ (by assumption)]); exact vws_closed _ (by assumption))))), ⟨by simp only [List.length_append, List.length_singleton]; omega, R4.app i2 ⟨by omega, n2⟩⟩, by simp only [List.length_append, List.length_singleton]; omega⟩
  · have h : ¬ i.length < m.length := by have := ltF h; omega
    conv => whnf
    exact ⟨_, i, W_inr _, by omega, i2, rfl, rfl⟩

theorem l2Sum_g (nx ny : Nat) (hx : nx ≤ 3) (hy : ny ≤ 3) : FSpec Tryz.prog 97 [.c (.int .i64 (nx)), .c (.int .i64 (ny))] (boxN nx ny (nx * ny)) := by
  have hn : nx * ny ≤ 3 * 3 := Nat.mul_le_mul hx hy
  have eN : IntKind.i64.wrap ((nx : Int) * (ny : Int)) = ((nx * ny : Nat) : Int) := by rw [← Int.natCast_mul]; exact w64 (by omega) (by omega)
  refine fspec tyOk mx Tryz.func97 rfl (by kernel_rfl) rfl ?_
  conv => whnf
  refine aloopI tyOk mx (fun i : List (List Int) => (⟨34, [(0, .c (.int .i64 (nx))), (1, .c (.int .i64 (ny))), (4, .ptr 0 0), (5, .ptr 2 0), (6, .c (.int .i64 (i.length)))], [(0, .cells 26 [.c (.int .i64 (0)), .c (.int .i64 (0)), .c (.int .i64 (0)), .c (.slice none 0 0)]), (1, .rows 38 3 true i), (2, .cells 26 [.c (.int .i64 (nx)), .c (.int .i64 (ny)), .c (.int .i64 (2)), .own 1])], 3⟩ : St)) (fun i => i.length ≤ nx * ny ∧ R4 i) (fun i => nx * ny - i.length) [] ⟨by simp, R4.nil⟩ none (by refine ⟨rfl, rfl, ?_, ?_⟩ <;> ((repeat' (first | exact trivial | exact rfl | refine And.intro ?_ ?_)) <;> (try ((conv => whnf); first | refine vint ?_ | refine vboo ?_ | refine rint ?_ | refine rrow ?_ | skip)) <;> (try first | omega | (simp; done) | ((repeat rw [flts_closed _ (by assumption)]); exact vws_closed _ (by assumption))))) (fun i hi => ?_)
  obtain ⟨i1, i2⟩ := hi
  conv => whnf
  rw [eN]
  refine ⟨fun h => ?_, fun h => ?_⟩
  · have h : i.length < nx * ny := by have := ltT h; omega
    conv => whnf
    refine ⟨fun h2 => ?_, fun h2 => ?_⟩
    · conv => whnf
      refine ⟨by simp [room]; omega, ?_⟩
      conv => whnf
      rw [nat_wrap (by omega)]
      exact ⟨i ++ [_], none, (by refine ⟨rfl, rfl, ?_, ?_⟩ <;> ((repeat' (first | exact trivial | exact rfl | refine And.intro ?_ ?_)) <;> (try ((conv => whnf); first | refine vint ?_ | refine vboo ?_ | refine rint ?_ | refine rrow ?_ | skip)) <;> (try first | omega | (simp; done) | ((repeat rw [flts_closed _ (by assumption)]); exact vws_closed _ (by assumption))))), ⟨by simp only [List.length_append, List.length_singleton]; omega, R4.app i2 (set4 (set4 (set4 (set4 rep4 _ (by unfold InR; omega)) _ (by unfold InR; omega)) _ (by unfold InR; omega)) _ (by unfold InR; omega))⟩, by simp only [List.length_append, List.length_singleton]; omega⟩
    · conv => whnf
      refine ⟨by simp [room]; omega, ?_⟩
      conv => whnf
      rw [nat_wrap (by omega)]
      exact ⟨i ++ [_], none, (by refine ⟨rfl, rfl, ?_, ?_⟩ <;> ((repeat' (first | exact trivial | exact rfl | refine And.intro ?_ ?_)) <;> (try ((conv => whnf); first | refine vint ?_ | refine vboo ?_ | refine rint ?_ | refine rrow ?_ | skip)) <;> (try first | omega | (simp; done) | ((repeat rw [flts_closed _ (by assumption)]); exact vws_closed _ (by assumption))))), ⟨by simp only [List.length_append, List.length_singleton]; omega, R4.app i2 (set4 (set4 (set4 (set4 rep4 _ (by unfold InR; omega)) _ (by unfold InR; omega)) _ (by unfold InR; omega)) _ (by unfold InR; omega))⟩, by simp only [List.length_append, List.length_singleton]; omega⟩
  · have h : ¬ i.length < nx * ny := by have := ltF h; omega
    conv => whnf
    exact ⟨2, i, by unfold InR; omega, by omega, i2, rfl, rfl⟩
end Go.Proofs.YtkjdplglenjijaaGreat
