/- Draws of sign games. -/
import Derived.Test.YtkomndcehdneaaaGreatM4
import Derived.Test.YtkomndcehdneaaaGreatM10
import Derived.Test.YtkomndcehdneaaaGreatM2
namespace Go.Proofs.YtkomndcehdneaaaGreat
open Go.Aw
set_option maxRecDepth 100000

/-- a drawn list of numbers -/
def drawnI (code : List Int) (a k n : Nat) (v : AVal) (r : ARow) : Prop :=
  ∃ (l : List Int) (a' : Nat) (s' : Int), v = .t (.ints .i64 l) ∧ l.length ≤ n ∧ (∀ x, x ∈ l → InR x) ∧ a ≤ a' ∧ a' ≤ a + k ∧ r = cur code a' s'

theorem ones5_spec (code : List Int) (hc : OkB code) (a : Nat) (s : Int) (ha : a ≤ 800000000) (n : Nat) (hn : n ≤ 100) :
    TSpec Tryz.prog 120 (cur code a s) [.ptr 0 0, .c (.int .i64 (n))] (drawnI code a 1000 101) := by
  refine tspec tyOk mx Tryz.func120 rfl (by kernel_rfl) rfl rfl ?_
  conv => whnf
  refine aloopI tyOk mx (fun x : List Int × Nat × Int => (⟨29, [(0, .ptr 0 0), (1, .c (.int .i64 (n))), (5, .own 1), (6, .c (.int .i64 (x.1.length))), (29, .ptr 0 0)], [(0, cur code x.2.1 x.2.2), (1, .ints 3 .i64 x.1)], 2⟩ : St)) (fun x => x.1.length ≤ n ∧ (∀ y, y ∈ x.1 → InR y) ∧ a ≤ x.2.1 ∧ x.2.1 ≤ a + 2 * x.1.length) (fun x => n - x.1.length) ([], a, s) ⟨by simp, by simp, by simp, by simp⟩ none (by refine ⟨rfl, rfl, ?_, ?_⟩ <;> ((repeat' (first | exact trivial | exact rfl | refine And.intro ?_ ?_)) <;> (try ((conv => whnf); first | refine vint ?_ | refine vboo ?_ | refine rint ?_ | refine rrow ?_ | skip)) <;> (try first | omega | (simp; done) | ((repeat rw [flts_closed _ (by assumption)]); exact vws_closed _ (by assumption))))) (fun x hx => ?_)
  obtain ⟨l, a1, s1⟩ := x
  obtain ⟨h1, h2, h3, h4⟩ := hx
  simp only at h1 h2 h3 h4
  dsimp only
  conv => whnf
  refine ⟨fun h => ?_, fun h => ?_⟩
  · have h := ltT h
    conv => whnf
    refine ACallS.tmut 0 (pick_spec code hc a1 s1 (by omega) 2 (by omega) (by omega)) ?_ rfl (by (repeat' (first | exact trivial | exact rfl | refine And.intro ?_ ?_)) <;> (try first | omega | (simp; done))) (by (repeat' (first | exact trivial | exact rfl | refine And.intro ?_ ?_)) <;> (try first | omega | (simp; done)))
    rintro v r ⟨x, a2, s2, rfl, x0, x1, e1, e2, rfl⟩
    conv => whnf
    refine ⟨by unfold room; simp; omega, ?_⟩
    conv => whnf
    rw [nat_wrap (by omega)]
    refine ⟨(l ++ [W (1 - W (2 * x))], a2, s2), none, (by refine ⟨rfl, rfl, ?_, ?_⟩ <;> ((repeat' (first | exact trivial | exact rfl | refine And.intro ?_ ?_)) <;> (try ((conv => whnf); first | refine vint ?_ | refine vboo ?_ | refine rint ?_ | refine rrow ?_ | skip)) <;> (try first | omega | (simp; done) | ((repeat rw [flts_closed _ (by assumption)]); exact vws_closed _ (by assumption))))), ⟨by simp; omega, fun y hy => ?_, by simp only; omega, by simp only [List.length_append, List.length_singleton]; omega⟩, by simp; omega⟩
    rcases List.mem_append.1 hy with h | h
    · exact h2 y h
    · rw [List.mem_singleton] at h
      rw [h]; exact W_inr _
  · have h := ltF h
    conv => whnf
    refine ACallS.tmut 0 (one_spec code hc a1 s1 (by omega) 30 (by omega) (by omega)) ?_ rfl (by (repeat' (first | exact trivial | exact rfl | refine And.intro ?_ ?_)) <;> (try first | omega | (simp; done))) (by (repeat' (first | exact trivial | exact rfl | refine And.intro ?_ ?_)) <;> (try first | omega | (simp; done)))
    rintro v r ⟨x, a2, s2, rfl, e1, e2, rfl⟩
    conv => whnf
    refine ⟨fun h5 => ?_, fun h5 => ?_⟩
    · conv => whnf
      refine ACallS.inline tyOk mx Tryz.func151 rfl (by kernel_rfl) rfl ?_
      conv => whnf
      refine ACallS.tmut 0 (pick_spec code hc a2 s2 (by omega) 2 (by omega) (by omega)) ?_ rfl (by (repeat' (first | exact trivial | exact rfl | refine And.intro ?_ ?_)) <;> (try first | omega | (simp; done))) (by (repeat' (first | exact trivial | exact rfl | refine And.intro ?_ ?_)) <;> (try first | omega | (simp; done)))
      rintro v r ⟨y, a3, s3, rfl, y0, y1, f1, f2, rfl⟩
      conv => whnf
      obtain ⟨i, rfl, hi⟩ := nat_of (len := 2) y0 (by omega)
      refine ⟨i, rfl, hi, ?_⟩
      conv => whnf
      have hv : 0 ≤ (((List.replicate 2 (0 : Int)).set 0 1).set 1 0).getD i 0 ∧ (((List.replicate 2 (0 : Int)).set 0 1).set 1 0).getD i 0 ≤ 1 := among_in (by kernel_rfl) hi
      generalize (((List.replicate 2 (0 : Int)).set 0 1).set 1 0).getD i 0 = z at hv ⊢
      refine ⟨rfl, ?_⟩
      conv => whnf
      refine ⟨by unfold room; simp; omega, ?_⟩
      conv => whnf
      refine ⟨_, a3, s3, rfl, by simp; omega, fun y hy => ?_, by omega, by omega, rfl⟩
      rcases List.mem_append.1 hy with h | h
      · exact h2 y h
      · have h : y = z := by simpa using h
        rw [h]; unfold InR; omega
    · conv => whnf
      exact ⟨l, a2, s2, rfl, by omega, h2, by omega, by omega, rfl⟩

/-- a drawn list of lists -/
def drawnM (code : List Int) (a k : Nat) (v : AVal) (r : ARow) : Prop :=
  ∃ (m : List (List Int)) (a' : Nat) (s' : Int), v = .t (.rows m) ∧ (m.length ≤ 5 ∧ ∀ r, r ∈ m → r.length ≤ 5 ∧ ∀ x, x ∈ r → InR x) ∧ a ≤ a' ∧ a' ≤ a + k ∧ r = cur code a' s'

theorem signs5_spec (code : List Int) (hc : OkB code) (a : Nat) (s : Int) (ha : a ≤ 800000000) :
    TSpec Tryz.prog 119 (cur code a s) [.ptr 0 0] (drawnM code a 1000) := by
  refine tspec tyOk mx Tryz.func119 rfl (by kernel_rfl) rfl rfl ?_
  conv => whnf
  refine ACallS.inline tyOk mx Tryz.func151 rfl (by kernel_rfl) rfl ?_
  conv => whnf
  refine ACallS.tmut 0 (pick_spec code hc a s (by omega) 6 (by omega) (by omega)) ?_ rfl (by (repeat' (first | exact trivial | exact rfl | refine And.intro ?_ ?_)) <;> (try first | omega | (simp; done))) (by (repeat' (first | exact trivial | exact rfl | refine And.intro ?_ ?_)) <;> (try first | omega | (simp; done)))
  rintro v r ⟨y, a1, s1, rfl, y0, y1, e_a1, g_a1, rfl⟩
  conv => whnf
  obtain ⟨i, rfl, hi⟩ := nat_of (len := 6) y0 (by omega)
  refine ⟨i, rfl, hi, ?_⟩
  conv => whnf
  have h_nx : 1 ≤ (((((((List.replicate 6 (0 : Int)).set 0 2).set 1 2).set 2 3).set 3 1).set 4 2).set 5 3).getD i 0 ∧ (((((((List.replicate 6 (0 : Int)).set 0 2).set 1 2).set 2 3).set 3 1).set 4 2).set 5 3).getD i 0 ≤ 3 := among_in (by kernel_rfl) hi
  generalize (((((((List.replicate 6 (0 : Int)).set 0 2).set 1 2).set 2 3).set 3 1).set 4 2).set 5 3).getD i 0 = nx at h_nx ⊢
  refine ⟨rfl, ?_⟩
  conv => whnf
  clear y0 y1 hi
  refine ACallS.inline tyOk mx Tryz.func151 rfl (by kernel_rfl) rfl ?_
  conv => whnf
  refine ACallS.tmut 0 (pick_spec code hc a1 s1 (by omega) 5 (by omega) (by omega)) ?_ rfl (by (repeat' (first | exact trivial | exact rfl | refine And.intro ?_ ?_)) <;> (try first | omega | (simp; done))) (by (repeat' (first | exact trivial | exact rfl | refine And.intro ?_ ?_)) <;> (try first | omega | (simp; done)))
  rintro v r ⟨y, a2, s2, rfl, y0, y1, e_a2, g_a2, rfl⟩
  conv => whnf
  obtain ⟨i, rfl, hi⟩ := nat_of (len := 5) y0 (by omega)
  refine ⟨i, rfl, hi, ?_⟩
  conv => whnf
  have h_ny : 1 ≤ ((((((List.replicate 5 (0 : Int)).set 0 2).set 1 2).set 2 3).set 3 1).set 4 3).getD i 0 ∧ ((((((List.replicate 5 (0 : Int)).set 0 2).set 1 2).set 2 3).set 3 1).set 4 3).getD i 0 ≤ 3 := among_in (by kernel_rfl) hi
  generalize ((((((List.replicate 5 (0 : Int)).set 0 2).set 1 2).set 2 3).set 3 1).set 4 3).getD i 0 = ny at h_ny ⊢
  refine ⟨rfl, ?_⟩
  conv => whnf
  clear y0 y1 hi
  refine ACallS.inline tyOk mx Tryz.func151 rfl (by kernel_rfl) rfl ?_
  conv => whnf
  refine ACallS.tmut 0 (pick_spec code hc a2 s2 (by omega) 4 (by omega) (by omega)) ?_ rfl (by (repeat' (first | exact trivial | exact rfl | refine And.intro ?_ ?_)) <;> (try first | omega | (simp; done))) (by (repeat' (first | exact trivial | exact rfl | refine And.intro ?_ ?_)) <;> (try first | omega | (simp; done)))
  rintro v r ⟨y, a3, s3, rfl, y0, y1, e_a3, g_a3, rfl⟩
  conv => whnf
  obtain ⟨i, rfl, hi⟩ := nat_of (len := 4) y0 (by omega)
  refine ⟨i, rfl, hi, ?_⟩
  conv => whnf
  have h_big : 1 ≤ (((((List.replicate 4 (0 : Int)).set 0 1).set 1 1).set 2 3).set 3 9).getD i 0 ∧ (((((List.replicate 4 (0 : Int)).set 0 1).set 1 1).set 2 3).set 3 9).getD i 0 ≤ 9 := among_in (by kernel_rfl) hi
  generalize (((((List.replicate 4 (0 : Int)).set 0 1).set 1 1).set 2 3).set 3 9).getD i 0 = big at h_big ⊢
  refine ⟨rfl, ?_⟩
  conv => whnf
  clear y0 y1 hi
  refine aloopI tyOk mx (fun x : List (List Int) × Nat × Int => (⟨82, [(0, .ptr 0 0), (3, .c (.int .i64 (nx))), (4, .c (.int .i64 (ny))), (5, .c (.int .i64 (big))), (6, .own 4), (7, .c (.int .i64 (x.1.length))), (82, .ptr 0 0)], [(0, cur code x.2.1 x.2.2), (4, .rows 38 3 true x.1)], 5⟩ : St)) (fun x => (x.1.length : Int) ≤ nx ∧ (∀ r, r ∈ x.1 → (r.length : Int) = ny ∧ ∀ y, y ∈ r → InR y) ∧ a ≤ x.2.1 ∧ x.2.1 ≤ a + 6 + 10 * x.1.length) (fun x => nx.toNat - x.1.length) ([], a3, s3) ⟨by simp; omega, by simp, by simp only; omega, by simp; omega⟩ none (by refine ⟨rfl, rfl, ?_, ?_⟩ <;> ((repeat' (first | exact trivial | exact rfl | refine And.intro ?_ ?_)) <;> (try ((conv => whnf); first | refine vint ?_ | refine vboo ?_ | refine rint ?_ | refine rrow ?_ | skip)) <;> (try first | omega | (simp; done) | ((repeat rw [flts_closed _ (by assumption)]); exact vws_closed _ (by assumption))))) (fun x hx => ?_)
  obtain ⟨m, a4, s4⟩ := x
  obtain ⟨k1, k2, k3, k4⟩ := hx
  simp only at k1 k2 k3 k4
  dsimp only
  conv => whnf
  refine ⟨fun h => ?_, fun h => ?_⟩
  · have h := of_decide_eq_true h
    conv => whnf
    refine aloopI tyOk mx (fun x : List Int × Nat × Int => (⟨82, [(0, .ptr 0 0), (3, .c (.int .i64 (nx))), (4, .c (.int .i64 (ny))), (5, .c (.int .i64 (big))), (6, .own 4), (7, .c (.int .i64 (m.length))), (8, .own 5), (9, .c (.int .i64 (x.1.length))), (82, .ptr 0 0)], [(0, cur code x.2.1 x.2.2), (4, .rows 38 3 true m), (5, .ints 3 .i64 x.1)], 6⟩ : St)) (fun x => (x.1.length : Int) ≤ ny ∧ (∀ y, y ∈ x.1 → InR y) ∧ a4 ≤ x.2.1 ∧ x.2.1 ≤ a4 + 2 * x.1.length) (fun x => ny.toNat - x.1.length) ([], a4, s4) ⟨by simp; omega, by simp, by simp, by simp⟩ none (by refine ⟨rfl, rfl, ?_, ?_⟩ <;> ((repeat' (first | exact trivial | exact rfl | refine And.intro ?_ ?_)) <;> (try ((conv => whnf); first | refine vint ?_ | refine vboo ?_ | refine rint ?_ | refine rrow ?_ | skip)) <;> (try first | omega | (simp; done) | ((repeat rw [flts_closed _ (by assumption)]); exact vws_closed _ (by assumption))))) (fun x hx => ?_)
    obtain ⟨l, a5, s5⟩ := x
    obtain ⟨j1, j2, j3, j4⟩ := hx
    simp only at j1 j2 j3 j4
    dsimp only
    conv => whnf
    refine ⟨fun h2 => ?_, fun h2 => ?_⟩
    · have h2 := of_decide_eq_true h2
      conv => whnf
      have eb : IntKind.i64.wrap (IntKind.i64.wrap (2 * big) + 1) = 2 * big + 1 := by rw [w64 (n := 2 * big) (by omega) (by omega), w64 (by omega) (by omega)]
      rw [eb]
      refine ACallS.tmut 0 (pick_spec code hc a5 s5 (by omega) (2 * big + 1) (by omega) (by omega)) ?_ rfl (by (repeat' (first | exact trivial | exact rfl | refine And.intro ?_ ?_)) <;> (try first | omega | (simp; done))) (by (repeat' (first | exact trivial | exact rfl | refine And.intro ?_ ?_)) <;> (try first | omega | (simp; done)))
      rintro v r ⟨z, a6, s6, rfl, l_z, u_z, e_a6, g_a6, rfl⟩
      conv => whnf
      have ez : IntKind.i64.wrap (z - big) = z - big := w64 (by omega) (by omega)
      rw [ez]
      refine ⟨by unfold room; simp; omega, ?_⟩
      conv => whnf
      rw [nat_wrap (by omega)]
      refine ⟨(l ++ [z - big], a6, s6), none, (by refine ⟨rfl, rfl, ?_, ?_⟩ <;> ((repeat' (first | exact trivial | exact rfl | refine And.intro ?_ ?_)) <;> (try ((conv => whnf); first | refine vint ?_ | refine vboo ?_ | refine rint ?_ | refine rrow ?_ | skip)) <;> (try first | omega | (simp; done) | ((repeat rw [flts_closed _ (by assumption)]); exact vws_closed _ (by assumption))))), ⟨by simp; omega, fun y hy => ?_, by simp only; omega, by simp only [List.length_append, List.length_singleton]; omega⟩, by simp; omega⟩
      rcases List.mem_append.1 hy with h | h
      · exact j2 y h
      · rw [List.mem_singleton] at h
        rw [h]; unfold InR; omega
    · have h2 := of_decide_eq_false h2
      conv => whnf
      refine ⟨by unfold room; simp; omega, ?_⟩
      conv => whnf
      rw [nat_wrap (by omega)]
      refine ⟨(m ++ [l], a5, s5), none, (by refine ⟨rfl, rfl, ?_, ?_⟩ <;> ((repeat' (first | exact trivial | exact rfl | refine And.intro ?_ ?_)) <;> (try ((conv => whnf); first | refine vint ?_ | refine vboo ?_ | refine rint ?_ | refine rrow ?_ | skip)) <;> (try first | omega | (simp; done) | ((repeat rw [flts_closed _ (by assumption)]); exact vws_closed _ (by assumption))))), ⟨by simp; omega, fun r hr => ?_, by simp only; omega, by simp only [List.length_append, List.length_singleton]; omega⟩, by simp; omega⟩
      rcases List.mem_append.1 hr with h | h
      · exact k2 r h
      · rw [List.mem_singleton] at h
        rw [h]; exact ⟨by omega, j2⟩
  · have h := of_decide_eq_false h
    conv => whnf
    refine ACallS.tmut 0 (pick_spec code hc a4 s4 (by omega) 40 (by omega) (by omega)) ?_ rfl (by (repeat' (first | exact trivial | exact rfl | refine And.intro ?_ ?_)) <;> (try first | omega | (simp; done))) (by (repeat' (first | exact trivial | exact rfl | refine And.intro ?_ ?_)) <;> (try first | omega | (simp; done)))
    rintro v r ⟨z, a6, s6, rfl, l_z, u_z, e_a6, g_a6, rfl⟩
    conv => whnf
    have hm0 : 0 < m.length := by omega
    have hr0 := k2 _ (getD_mem (d := []) hm0)
    have hrm : ∀ r, r ∈ m → r.length ≤ 5 ∧ ∀ x, x ∈ r → InR x := fun r hr => ⟨by have := (k2 r hr).1; omega, (k2 r hr).2⟩
    refine ⟨fun h5 => ?_, fun h5 => ?_⟩
    · conv => whnf
      refine ADraw.planX [5] tyOk mx (.q 0 (.q 1 (.q 3 (.alt 2 (.last 4 (.inl 5 (.q 6 (.last 7 (.done))))) (.last 4 (.alt 2 (.inl 5 (.q 6 (.last 7 (.done)))) (.inl 5 (.last 2 (.q 6 (.last 7 (.done)))))))))) : Plan) (by kernel_rfl) ?_
      conv => whnf
      have fin : ∀ (v : Int) (a7 : Nat) (s7 : Int), (-10 ≤ v ∧ v ≤ 4611686018427387904) → a6 ≤ a7 → a7 ≤ a6 + 2 → drawnM code a 1000 (.t (.rows (m.set 0 ((m.getD 0 []).set 0 v)))) (cur code a7 s7) := fun v a7 s7 hv e1 e2 => by
        refine ⟨_, a7, s7, rfl, ⟨by simp; omega, fun r hr => ?_⟩, by omega, by omega, rfl⟩
        rcases List.mem_or_eq_of_mem_set hr with h | rfl
        · exact hrm r h
        · refine ⟨by rw [List.length_set]; omega, fun x hx => ?_⟩
          rcases List.mem_or_eq_of_mem_set hx with h | rfl
          · exact hr0.2 x h
          · unfold InR; omega
      repeat' (first
        | (refine ⟨0, rfl, hm0, ?_⟩; conv => whnf)
        | (refine ⟨0, rfl, (by omega : 0 < (m.getD 0 []).length), ?_⟩; conv => whnf)
        | (refine ACallS.inline tyOk mx Tryz.func151 rfl (by kernel_rfl) rfl ?_; (conv => whnf); refine ACallS.tmut 0 (pick_spec code hc a6 s6 (by omega) 5 (by omega) (by omega)) ?_ rfl (by (repeat' (first | exact trivial | exact rfl | refine And.intro ?_ ?_)) <;> (try first | omega | (simp; done))) (by (repeat' (first | exact trivial | exact rfl | refine And.intro ?_ ?_)) <;> (try first | omega | (simp; done))); rintro v r ⟨y, a7, s7, rfl, y0, y1, e_a7, g_a7, rfl⟩; (conv => whnf); obtain ⟨i, rfl, hi⟩ := nat_of (len := 5) y0 (by omega); refine ⟨i, rfl, hi, ?_⟩; (conv => whnf); have h_v : -10 ≤ ((((((List.replicate 5 (0 : Int)).set 0 9).set 1 (-9)).set 2 10).set 3 (-10)).set 4 4611686018427387904).getD i 0 ∧ ((((((List.replicate 5 (0 : Int)).set 0 9).set 1 (-9)).set 2 10).set 3 (-10)).set 4 4611686018427387904).getD i 0 ≤ 4611686018427387904 := among_in (by kernel_rfl) hi; generalize ((((((List.replicate 5 (0 : Int)).set 0 9).set 1 (-9)).set 2 10).set 3 (-10)).set 4 4611686018427387904).getD i 0 = v at h_v ⊢; refine ⟨rfl, ?_⟩; (conv => whnf); clear y0 y1 hi)
        | exact fin _ _ _ (by assumption) (by assumption) (by assumption)
        | (refine And.intro ?_ ?_ <;> (conv => whnf)))
    · conv => whnf
      refine ⟨fun h6 => ?_, fun h6 => ?_⟩
      · conv => whnf
        refine ASet.app tyOk rfl rfl rfl rfl rfl rfl rfl rfl rfl rfl rfl rfl ?_
        conv => whnf
        refine ⟨0, rfl, hm0, ?_⟩
        conv => whnf
        refine ⟨rfl, hm0, by simp only [room, List.length_set, List.length_replicate]; omega, ?_⟩
        conv => whnf
        refine ⟨m.set 0 (m.getD 0 [] ++ [0]), a6, s6, rfl, ⟨by simp; omega, fun r hr => ?_⟩, by omega, by omega, rfl⟩
        rcases List.mem_or_eq_of_mem_set hr with h | rfl
        · exact hrm r h
        · refine ⟨by rw [List.length_append, List.length_singleton]; omega, fun x hx => ?_⟩
          rcases List.mem_append.1 hx with h | h
          · exact hr0.2 x h
          · rw [List.mem_singleton] at h
            rw [h]; unfold InR; omega
      · conv => whnf
        refine ⟨fun h7 => ?_, fun h7 => ?_⟩
        · conv => whnf
          refine ADraw.plan tyOk mx (.q 0 (.q 1 (.q 2 (.q 3 (.q 5 (.q 6 (.q 7 (.last 4 (.last 8 (.last 9 (.last 10 (.q 11 (.done)))))))))))) : Plan) (by kernel_rfl) ?_
          conv => whnf
          refine ⟨0, rfl, hm0, 0, rfl, hm0, ?_⟩
          conv => whnf
          refine ACall.useR (l1OwnC_spec _ (by omega)) ?_
          conv => whnf
          refine ACall.useR (l1OwnC_spec _ (by omega)) ?_
          conv => whnf
          refine ⟨by simp only [room, List.length_cons, List.length_nil]; omega, ?_⟩
          conv => whnf
          refine ⟨m ++ [m.getD 0 [], m.getD 0 []], a6, s6, rfl, ⟨by simp; omega, fun r hr => ?_⟩, by omega, by omega, rfl⟩
          rcases List.mem_append.1 hr with h | h
          · exact hrm r h
          · have : r = m.getD 0 [] := by simpa using h
            rw [this]; exact ⟨by omega, hr0.2⟩
        · conv => whnf
          refine ⟨fun h8 => ?_, fun h8 => ?_⟩
          · conv => whnf
            exact ⟨[], a6, s6, rfl, by simp, by omega, by omega, rfl⟩
          · conv => whnf
            exact ⟨m, a6, s6, rfl, ⟨by omega, fun r hr => ⟨by have := (k2 r hr).1; omega, (k2 r hr).2⟩⟩, by omega, by omega, rfl⟩
end Go.Proofs.YtkomndcehdneaaaGreat
/- Small tables, as the draws make them. -/
namespace Go.Proofs.YtkomndcehdneaaaGreat
open Go.Aw
set_option maxRecDepth 100000

def wide5 (m : List (List Int)) : Nat := if m.length = 0 then 1 else (m.getD 0 []).length
theorem l5Wide_spec (m : List (List Int)) : FSpec Tryz.prog 121 [.t (.rows m)] (ex (.c (.int .i64 (wide5 m))) []) := by
  refine fspec tyOk mx Tryz.func121 rfl (by kernel_rfl) rfl ?_
  conv => whnf
  refine ⟨fun h => ?_, fun h => ?_⟩
  · have h : m.length = 0 := by simpa using h
    conv => whnf
    exact ⟨by rw [wide5, if_pos h]; rfl, rfl⟩
  · have h : m.length ≠ 0 := by simpa using h
    conv => whnf
    refine ⟨0, rfl, by omega, ?_⟩
    conv => whnf
    exact ⟨by rw [wide5, if_neg h], rfl⟩

/-- a small table -/
def SmM (m : List (List Int)) : Prop := m.length ≤ 5 ∧ ∀ r, r ∈ m → r.length ≤ 5 ∧ ∀ x, x ∈ r → InR x
theorem SmM.ok {m : List (List Int)} (h : SmM m) : OkM m ∧ SzM m := by
  refine ⟨⟨by have := h.1; omega, fun r hr => ⟨by have := (h.2 r hr).1; omega, (h.2 r hr).2⟩⟩, ?_⟩
  have h1 := tot_le_mul (m := m) (n := 5) (fun r hr => (h.2 r hr).1)
  have h2 := h.1
  have : m.length * 5 ≤ 5 * 5 := Nat.mul_le_mul_right 5 h2
  unfold SzM; omega
theorem SmM.wide {m : List (List Int)} (h : SmM m) : wide5 m ≤ 100 := by
  unfold wide5
  split
  · omega
  · rename_i h0
    have := (h.2 _ (getD_mem (d := []) (k := 0) (by omega : 0 < m.length))).1
    omega
end Go.Proofs.YtkomndcehdneaaaGreat
/- Draws of FnSignGames. -/
namespace Go.Proofs.YtkomndcehdneaaaGreat
open Go.Aw
set_option maxRecDepth 100000
set_option maxHeartbeats 4000000

/-- a drawn table -/
def tabT : AVal → List (Nat × ARow) → Prop := fun v h => h = [] ∧ ∃ m : List (List Int), SmM m ∧ v = .t (.rows m)
theorem DrawSignBias_spec (code : List Int) (hc : OkB code) : FSpec Tryz.prog 40 [.t (.ints .u8 code)] tabT := by
  refine fspec tyOk mx Tryz.func40 rfl (by kernel_rfl) rfl ?_
  conv => whnf
  refine ACallS.inline tyOk mx Tryz.func111 rfl (by kernel_rfl) rfl ?_
  conv => whnf
  refine ACallS.tmut 0 (signs5_spec code hc 0 0 (by omega)) ?_ rfl (by (repeat' (first | exact trivial | exact rfl | refine And.intro ?_ ?_)) <;> (try first | omega | (simp; done))) (by (repeat' (first | exact trivial | exact rfl | refine And.intro ?_ ?_)) <;> (try first | omega | (simp; done)))
  rintro v r ⟨m, a1, s1, rfl, hm, e1, g1, rfl⟩
  have hm : SmM m := hm
  conv => whnf
  exact ⟨rfl, rfl, m, hm, rfl⟩
/-- a drawn table and two drawn lists -/
def tabSS : AVal → List (Nat × ARow) → Prop := fun v h => h = [] ∧ ∃ (m : List (List Int)) (p q : List Int), SmM m ∧ (p.length ≤ 101 ∧ ∀ x, x ∈ p → InR x) ∧ (q.length ≤ 101 ∧ ∀ x, x ∈ q → InR x) ∧ v = .tu [.t (.rows m), .t (.ints .i64 p), .t (.ints .i64 q)]
theorem DrawSwitchSigns_spec (code : List Int) (hc : OkB code) : FSpec Tryz.prog 49 [.t (.ints .u8 code)] tabSS := by
  refine fspec tyOk mx Tryz.func49 rfl (by kernel_rfl) rfl ?_
  conv => whnf
  refine ACallS.tmut 0 (signs5_spec code hc 0 0 (by omega)) ?_ rfl (by (repeat' (first | exact trivial | exact rfl | refine And.intro ?_ ?_)) <;> (try first | omega | (simp; done))) (by (repeat' (first | exact trivial | exact rfl | refine And.intro ?_ ?_)) <;> (try first | omega | (simp; done)))
  rintro v r ⟨m, a1, s1, rfl, hm, e1, g1, rfl⟩
  have hm : SmM m := hm
  have hw := hm.wide
  conv => whnf
  refine ACallS.tmut 0 (ones5_spec code hc a1 s1 (by omega) m.length (by have := hm.1; omega)) ?_ rfl (by (repeat' (first | exact trivial | exact rfl | refine And.intro ?_ ?_)) <;> (try first | omega | (simp; done))) (by (repeat' (first | exact trivial | exact rfl | refine And.intro ?_ ?_)) <;> (try first | omega | (simp; done)))
  rintro v r ⟨p, a2, s2, rfl, lp, ip, e2, g2, rfl⟩
  conv => whnf
  refine ACall.use (l5Wide_spec m) ?_
  conv => whnf
  refine ACallS.tmut 0 (ones5_spec code hc a2 s2 (by omega) (wide5 m) hw) ?_ rfl (by (repeat' (first | exact trivial | exact rfl | refine And.intro ?_ ?_)) <;> (try first | omega | (simp; done))) (by (repeat' (first | exact trivial | exact rfl | refine And.intro ?_ ?_)) <;> (try first | omega | (simp; done)))
  rintro v r ⟨q, a3, s3, rfl, lq, iq, e3, g3, rfl⟩
  conv => whnf
  exact ⟨rfl, m, p, q, hm, ⟨lp, ip⟩, ⟨lq, iq⟩, rfl⟩
/-- a drawn table and a drawn box -/
def tabBT : AVal → List (Nat × ARow) → Prop := fun v h => h = [] ∧ ∃ (g : List (List Int)) (x y z : Int) (m : List (List Int)), SmM g ∧ InR x ∧ InR y ∧ InR z ∧ SmB m ∧ v = .tu [.t (.rows g), .ag [.c (.int .i64 x), .c (.int .i64 y), .c (.int .i64 z), .t (.rows m)]]
def tabBW : AVal → List (Nat × ARow) → Prop := fun v h => tabBT v h ∨
  (∃ (g : List (List Int)) (x y z : Int) (m : List (List Int)), SmM g ∧ InR x ∧ InR y ∧ InR z ∧ SmB m ∧ v = .tu [.t (.rows g), .ag [.c (.int .i64 x), .c (.int .i64 y), .c (.int .i64 z), .own 0]] ∧ h = [(0, .rows 38 3 true m)])
theorem tabBW_tell {f : FuncId} {args : List AVal} (h : FSpec Tryz.prog f args tabBW) : FSpec Tryz.prog f args tabBT := by
  refine FSpec.view h (fun v hr hp => ?_)
  rcases hp with ⟨rfl, g, x, y, z, m, h0, h1, h2, h3, h4, rfl⟩ | ⟨g, x, y, z, m, h0, h1, h2, h3, h4, rfl, rfl⟩
  · exact ⟨[], .tu [.t (.rows g), .ag [.c (.int .i64 x), .c (.int .i64 y), .c (.int .i64 z), .t (.rows m)]], [], rfl, trivial, ⟨rfl, ⟨rfl, rfl, rfl, rfl, trivial⟩, trivial⟩, rfl, g, x, y, z, m, h0, h1, h2, h3, h4, rfl⟩
  · exact ⟨[], .tu [.t (.rows g), .ag [.c (.int .i64 x), .c (.int .i64 y), .c (.int .i64 z), .t (.rows m)]], [], rfl, trivial, ⟨rfl, ⟨rfl, rfl, rfl, ⟨rfl, rfl⟩, trivial⟩, trivial⟩, rfl, g, x, y, z, m, h0, h1, h2, h3, h4, rfl⟩
theorem DrawSignWorth_spec (code : List Int) (hc : OkB code) : FSpec Tryz.prog 52 [.t (.ints .u8 code)] tabBT := by
  refine tabBW_tell ?_
  refine fspec tyOk mx Tryz.func52 rfl (by kernel_rfl) rfl ?_
  conv => whnf
  refine ACallS.tmut 1 (signs5_spec code hc 0 0 (by omega)) ?_ rfl (by (repeat' (first | exact trivial | exact rfl | refine And.intro ?_ ?_)) <;> (try first | omega | (simp; done))) (by (repeat' (first | exact trivial | exact rfl | refine And.intro ?_ ?_)) <;> (try first | omega | (simp; done)))
  rintro v r ⟨g, a1, s1, rfl, hg, e1, g1, rfl⟩
  have hg : SmM g := hg
  have hw := hg.wide
  conv => whnf
  refine ACallS.tmut 1 (one_spec code hc a1 s1 (by omega) 16 (by omega) (by omega)) ?_ rfl (by (repeat' (first | exact trivial | exact rfl | refine And.intro ?_ ?_)) <;> (try first | omega | (simp; done))) (by (repeat' (first | exact trivial | exact rfl | refine And.intro ?_ ?_)) <;> (try first | omega | (simp; done)))
  rintro v r ⟨c, a2, s2, rfl, e2, g2, rfl⟩
  conv => whnf
  refine ⟨fun h => ?_, fun h => ?_⟩
  · conv => whnf
    refine ACallS.tmut 1 (box_spec code hc a2 s2 (by omega)) ?_ rfl (by (repeat' (first | exact trivial | exact rfl | refine And.intro ?_ ?_)) <;> (try first | omega | (simp; done))) (by (repeat' (first | exact trivial | exact rfl | refine And.intro ?_ ?_)) <;> (try first | omega | (simp; done)))
    rintro v r ⟨x, y, z, m, a3, s3, rfl, hx, hy, hz, hm, e3, g3, rfl⟩
    conv => whnf
    exact .inl ⟨rfl, g, x, y, z, m, hg, hx, hy, hz, hm, rfl⟩
  · conv => whnf
    refine ACall.use (l5Wide_spec g) ?_
    conv => whnf
    refine ACallS.omut 1 (quietOf_spec code hc a2 s2 (by omega) (g.length : Int) (wide5 g : Int)) ?_ rfl (by (repeat' (first | exact trivial | exact rfl | refine And.intro ?_ ?_)) <;> (try first | omega | (simp; done))) (by (repeat' (first | exact trivial | exact rfl | refine And.intro ?_ ?_)) <;> (try first | omega | (simp; done)))
    rintro v h r ⟨z, m, a3, s3, hz, hm, h4, rfl, rfl, e3, g3, rfl⟩
    conv => whnf
    exact .inr ⟨g, _, _, z, m, hg, by unfold InR; have := hg.1; omega, by unfold InR; omega, hz, h4.sm hm (Nat.mul_le_mul (near_le _) (near_le _)), rfl, rfl⟩
end Go.Proofs.YtkomndcehdneaaaGreat
/- What the laws compare with. -/
namespace Go.Proofs.YtkomndcehdneaaaGreat
open Go.Aw
set_option maxRecDepth 100000

theorem vBig_spec (code : List Int) : FSpec Tryz.prog 6 [.t (.ints .u8 code)] (ex (.c (.bool (decide ((code.length : Int) > 65536)))) []) := by
  refine fspec tyOk mx Tryz.func6 rfl (by kernel_rfl) rfl ?_
  conv => whnf
  exact ⟨rfl, rfl⟩
theorem rBig_spec (code : List Int) : FSpec Tryz.prog 23 [.t (.ints .u8 code)] (ex (.c (.bool (decide ((code.length : Int) > 65536)))) []) := by
  refine fspec tyOk mx Tryz.func23 rfl (by kernel_rfl) rfl ?_
  conv => whnf
  exact ⟨rfl, rfl⟩
theorem vInts_spec (a b : List Int) (h : a.length ≤ 9223372036854775807) :
    FSpec Tryz.prog 55 [.t (.ints .i64 a), .t (.ints .i64 b)] (ex (.c (.bool (decide (a = b)))) []) := by
  refine fspec tyOk mx Tryz.func55 rfl (by kernel_rfl) rfl ?_
  refine ⟨fun hl => ?_, fun hl => ?_⟩
  · conv => whnf
    refine ⟨?_, rfl⟩
    rw [decide_eq_false]
    rintro rfl
    simp at hl
  · conv => whnf
    simp only [bne_eq_false_iff_eq, Int.natCast_inj] at hl
    refine aloopI tyOk mx (fun k : Nat => (⟨26, [(0, .t (.ints .i64 a)), (1, .t (.ints .i64 b)), (5, .c (.int .i64 (k : Int)))], [], 0⟩ : St)) (fun k => k ≤ a.length ∧ ∀ j, j < k → a[j]? = b[j]?) (fun k => a.length - k)
      0 ⟨by omega, fun j hj => by omega⟩ none (by refine ⟨rfl, rfl, ?_, ?_⟩ <;> ((repeat' (first | exact trivial | exact rfl | refine And.intro ?_ ?_)) <;> (try ((conv => whnf); first | refine vint ?_ | refine vboo ?_ | refine rint ?_ | refine rrow ?_ | skip)) <;> (try first | omega | (simp; done) | ((repeat rw [flts_closed _ (by assumption)]); exact vws_closed _ (by assumption))))) (fun k hI => ?_)
    obtain ⟨hk, hp⟩ := hI
    refine ⟨fun h => ?_, fun h => ?_⟩
    · conv => whnf
      have hk1 : k < a.length := by simpa using h
      refine ADraw.std tyOk mx ⟨by kernel_rfl, ⟨k, rfl, hk1, k, rfl, by omega, fun h => ?_, fun h => ?_⟩⟩
      · conv => whnf
        refine ⟨?_, rfl⟩
        rw [decide_eq_false]
        rintro rfl
        simp at h
      · conv => whnf
        simp only [bne_eq_false_iff_eq, List.getD_eq_getElem?_getD] at h
        rw [w64 (by omega) (by omega)]
        refine ⟨k + 1, none, (by refine ⟨rfl, rfl, ?_, ?_⟩ <;> ((repeat' (first | exact trivial | exact rfl | refine And.intro ?_ ?_)) <;> (try ((conv => whnf); first | refine vint ?_ | refine vboo ?_ | refine rint ?_ | refine rrow ?_ | skip)) <;> (try first | omega | (simp; done) | ((repeat rw [flts_closed _ (by assumption)]); exact vws_closed _ (by assumption))))), ⟨by omega, fun j hj => ?_⟩, by omega⟩
        by_cases e : j = k
        · subst e
          rw [List.getElem?_eq_getElem hk1, List.getElem?_eq_getElem (by omega)] at h ⊢
          simpa using h
        · exact hp j (by omega)
    · conv => whnf
      refine ⟨?_, rfl⟩
      rw [decide_eq_true]
      have hk1 : ¬ k < a.length := by simpa using h
      refine List.ext_getElem? (fun i => ?_)
      by_cases hi : i < k
      · exact hp i hi
      · rw [List.getElem?_eq_none (by omega), List.getElem?_eq_none (by omega)]
theorem vTable_spec (a b : List (List Int)) (h : a.length ≤ 9223372036854775807) (hr : ∀ r, r ∈ a → r.length ≤ 9223372036854775807) :
    FSpec Tryz.prog 56 [.t (.rows a), .t (.rows b)] (ex (.c (.bool (decide (a = b)))) []) := by
  refine fspec tyOk mx Tryz.func56 rfl (by kernel_rfl) rfl ?_
  refine ⟨fun hl => ?_, fun hl => ?_⟩
  · conv => whnf
    refine ⟨?_, rfl⟩
    rw [decide_eq_false]
    rintro rfl
    simp at hl
  · conv => whnf
    simp only [bne_eq_false_iff_eq, Int.natCast_inj] at hl
    refine aloopI tyOk mx (fun k : Nat => (⟨27, [(0, .t (.rows a)), (1, .t (.rows b)), (5, .c (.int .i64 (k : Int)))], [], 0⟩ : St)) (fun k => k ≤ a.length ∧ ∀ j, j < k → a[j]? = b[j]?) (fun k => a.length - k)
      0 ⟨by omega, fun j hj => by omega⟩ none (by refine ⟨rfl, rfl, ?_, ?_⟩ <;> ((repeat' (first | exact trivial | exact rfl | refine And.intro ?_ ?_)) <;> (try ((conv => whnf); first | refine vint ?_ | refine vboo ?_ | refine rint ?_ | refine rrow ?_ | skip)) <;> (try first | omega | (simp; done) | ((repeat rw [flts_closed _ (by assumption)]); exact vws_closed _ (by assumption))))) (fun k hI => ?_)
    obtain ⟨hk, hp⟩ := hI
    refine ⟨fun h => ?_, fun h => ?_⟩
    · conv => whnf
      have hk1 : k < a.length := by simpa using h
      have hkr : (a.getD k []).length ≤ 9223372036854775807 := by
        rw [List.getD_eq_getElem?_getD, List.getElem?_eq_getElem hk1]; exact hr _ (List.getElem_mem hk1)
      refine ADraw.std tyOk mx ⟨by kernel_rfl, k, rfl, hk1, k, rfl, by omega, ?_⟩
      conv => whnf
      refine QCall.use (vInts_spec _ _ hkr) ?_
      conv => whnf
      refine ⟨fun h => ?_, fun h => ?_⟩
      · conv => whnf
        refine ⟨?_, rfl⟩
        rw [decide_eq_false]
        rintro rfl
        simp at h
      · conv => whnf
        simp only [Bool.not_eq_false', decide_eq_true_eq, List.getD_eq_getElem?_getD] at h
        rw [w64 (by omega) (by omega)]
        refine ⟨k + 1, none, (by refine ⟨rfl, rfl, ?_, ?_⟩ <;> ((repeat' (first | exact trivial | exact rfl | refine And.intro ?_ ?_)) <;> (try ((conv => whnf); first | refine vint ?_ | refine vboo ?_ | refine rint ?_ | refine rrow ?_ | skip)) <;> (try first | omega | (simp; done) | ((repeat rw [flts_closed _ (by assumption)]); exact vws_closed _ (by assumption))))), ⟨by omega, fun j hj => ?_⟩, by omega⟩
        by_cases e : j = k
        · subst e
          rw [List.getElem?_eq_getElem hk1, List.getElem?_eq_getElem (by omega)] at h ⊢
          simpa using h
        · exact hp j (by omega)
    · conv => whnf
      refine ⟨?_, rfl⟩
      rw [decide_eq_true]
      have hk1 : ¬ k < a.length := by simpa using h
      refine List.ext_getElem? (fun i => ?_)
      by_cases hi : i < k
      · exact hp i hi
      · rw [List.getElem?_eq_none (by omega), List.getElem?_eq_none (by omega)]
end Go.Proofs.YtkomndcehdneaaaGreat
/- What a law cuts off its bytes. -/
namespace Go.Proofs.YtkomndcehdneaaaGreat
open Go.Aw
set_option maxRecDepth 100000
theorem vCut_own (code : List Int) (hc : code.length ≤ 65536) (n : Nat) (hn : n ≤ 100) :
    FSpec Tryz.prog 11 [.t (.ints .u8 code), .c (.int .i64 (n))] (ex (.own 0) [(0, .ints 5 .u8 (code.drop (min n code.length) ++ [IntKind.u8.wrap ((min n code.length : Nat) : Int)]))]) := by
  refine fspec tyOk mx Tryz.func11 rfl (by kernel_rfl) rfl ?_
  conv => whnf
  refine ⟨fun h => ?_, fun h => ?_⟩
  · have h := of_decide_eq_true h
    conv => whnf
    refine ⟨code.length, rfl, Nat.le_refl _, ?_⟩
    conv => whnf
    refine ⟨by simp [room], ?_⟩
    conv => whnf
    refine ⟨by simp [room], ?_⟩
    conv => whnf
    have e : min n code.length = code.length := Nat.min_eq_right (by omega)
    refine ⟨rfl, ?_⟩
    rw [e]; rfl
  · have h := of_decide_eq_false h
    conv => whnf
    refine ⟨n, rfl, by omega, ?_⟩
    conv => whnf
    refine ⟨by unfold room; simp; omega, ?_⟩
    conv => whnf
    refine ⟨by unfold room; simp; omega, ?_⟩
    conv => whnf
    have e : min n code.length = n := Nat.min_eq_left (by omega)
    refine ⟨rfl, ?_⟩
    rw [e]; rfl
/-- bytes again -/
theorem vCut_spec (code : List Int) (hb : OkB code) (hc : code.length ≤ 65536) (n : Nat) (hn : n ≤ 100) :
    FSpec Tryz.prog 11 [.t (.ints .u8 code), .c (.int .i64 (n))] (fun v h => h = [] ∧ ∃ c : List Int, OkB c ∧ v = .t (.ints .u8 c)) := by
  refine (vCut_own code hc n hn).view ?_
  rintro x hr ⟨rfl, rfl⟩
  refine ⟨[], .t (.ints .u8 (code.drop (min n code.length) ++ [IntKind.u8.wrap ((min n code.length : Nat) : Int)])), [], rfl, trivial, ⟨rfl, rfl⟩, rfl, _, ⟨by simp; omega, fun y hy => ?_⟩, rfl⟩
  rcases List.mem_append.1 hy with h | h
  · exact hb.2 y (List.mem_of_mem_drop h)
  · rw [List.mem_singleton] at h
    subst h
    have e : ∀ k : Nat, k ≤ 100 → 0 ≤ IntKind.u8.wrap (k : Int) ∧ IntKind.u8.wrap (k : Int) ≤ 255 := by decide +kernel
    exact e _ (by omega)
end Go.Proofs.YtkomndcehdneaaaGreat
/- BestSigns, program and reference. -/
namespace Go.Aw
section
variable {P : Program}
/-- (slice, slice, bool): nil where it is false -/
def nilOr2 (ok : Bool) (r r' : ARow) : AVal → List (Nat × ARow) → Prop := fun x h =>
  (ok = false ∧ x = .tu [.c (.slice none 0 0), .c (.slice none 0 0), .c (.bool false)] ∧ h = []) ∨ (ok = true ∧ x = .tu [.own 0, .own 1, .c (.bool true)] ∧ h = [(0, r), (1, r')])

theorem view_ints2 {f : FuncId} {args : List AVal} {ok : Bool} {e e' : Nat} {k k' : IntKind} {l l' : List Int} (h : FSpec P f args (nilOr2 ok (.ints e k l) (.ints e' k' l'))) :
    FSpec P f args (ex (.tu [.own 0, .own 1, .c (.bool ok)]) [(0, .ints e k (if ok then l else [])), (1, .ints e' k' (if ok then l' else []))]) := by
  refine FSpec.view h ?_
  rintro x hr (⟨rfl, rfl, rfl⟩ | ⟨rfl, rfl, rfl⟩)
  · exact ⟨[(0, .nil), (1, .nil)], .tu [.own 0, .own 1, .c (.bool false)], [(0, .ints e k []), (1, .ints e' k' [])], rfl, ⟨rfl, trivial, rfl, trivial, trivial⟩, ⟨⟨rfl, rfl, rfl⟩, ⟨rfl, rfl, rfl⟩, rfl, trivial⟩, rfl, rfl⟩
  · exact ⟨[(0, .row 0), (1, .row 1)], .tu [.own 0, .own 1, .c (.bool true)], [(0, .ints e k l), (1, .ints e' k' l')], rfl, ⟨rfl, rfl, rfl, rfl, trivial⟩, ⟨⟨rfl, rfl⟩, ⟨rfl, rfl⟩, rfl, trivial⟩, rfl, rfl⟩
end
end Go.Aw
namespace Go.Proofs.YtkomndcehdneaaaGreat
open Go.Aw
set_option maxRecDepth 100000

theorem BestSigns_s (m : List (List Int)) (hm : OkM m) (_km : SzM m) :
    FSpec Tryz.prog 44 [.t (.rows m)] (ex (.tu [.own 0, .own 1, .c (.bool (goodM m))]) [(0, .ints 3 .i64 (bestRr m)), (1, .ints 3 .i64 (bestPr m))]) := by
  refine fspec tyOk mx Tryz.func44 rfl (by kernel_rfl) rfl ?_
  conv => whnf
  refine ACall.use (l5Good_spec m hm.1 hm.len) ?_
  refine ⟨fun h => ?_, fun h => ?_⟩
  · have hg : goodM m = false := by simpa using h
    conv => whnf
    refine ⟨by rw [hg], by rw [bestRr, bestPr, hg]; rfl⟩
  · have hg : goodM m = true := by simpa using h
    conv => whnf
    refine ACall.use (l5Best_spec m hg) ?_
    conv => whnf
    refine ⟨by rw [hg], by rw [bestRr, bestPr, hg]; rfl⟩

theorem BestSigns_i (m : List (List Int)) (hm : OkM m) (_km : SzM m) :
    FSpec Tryz.prog 43 [.t (.rows m)] (ex (.tu [.own 0, .own 1, .c (.bool (goodM m))]) [(0, .ints 3 .i64 (bestRr m)), (1, .ints 3 .i64 (bestPr m))]) := by
  refine view_ints2 ?_
  refine fspec tyOk mx Tryz.func43 rfl (by kernel_rfl) rfl ?_
  conv => whnf
  refine ACall.use (iIsSignGame_spec m hm.1 hm.len) ?_
  refine ⟨fun h => ?_, fun h => ?_⟩
  · have hg : goodM m = false := by simpa using h
    conv => whnf
    exact .inl ⟨hg, rfl, rfl⟩
  · have hg : goodM m = true := by simpa using h
    conv => whnf
    refine ACall.use (bestSigns_spec m hg) ?_
    conv => whnf
    exact .inr ⟨hg, rfl, rfl⟩

theorem BestSigns_bd (m : List (List Int)) (_hm : OkM m) (_km : SzM m) : (bestRr m).length ≤ 1000000 ∧ (bestPr m).length ≤ 1000000 := by
  unfold bestRr bestPr
  split
  · rename_i h
    have := best_pre h
    omega
  · simp
end Go.Proofs.YtkomndcehdneaaaGreat
