/- Draws of sign games. -/
import Derived.Test.YtahllgjmjnipjaaCur1
import Derived.Test.YtahllgjmjnipjaaSign4
namespace Go.Proofs.Ytahllgjmjnipjaa
open Go.Aw
set_option maxRecDepth 100000

/-- a drawn list of numbers -/
def drawnI (code : List Int) (a k n : Nat) (v : AVal) (r : ARow) : Prop :=
  ∃ (l : List Int) (a' : Nat) (s' : Int), v = .t (.ints .i64 l) ∧ l.length ≤ n ∧ (∀ x, x ∈ l → InR x) ∧ a ≤ a' ∧ a' ≤ a + k ∧ r = cur code a' s'

theorem ones5_spec (code : List Int) (hc : OkB code) (a : Nat) (s : Int) (ha : a ≤ 800000000) (n : Nat) (hn : n ≤ 100) :
    TSpec Try.prog 22 (cur code a s) [.ptr 0 0, .c (.int .i64 (n))] (drawnI code a 1000 101) := by
  refine tspec tyOk mx Try.func22 rfl (by kernel_rfl) rfl rfl ?_
  conv => whnf
  refine aloopI tyOk mx (fun x : List Int × Nat × Int => (⟨29, [(0, .ptr 0 0), (1, .c (.int .i64 (n))), (5, .own 1), (6, .c (.int .i64 (x.1.length))), (29, .ptr 0 0)], [(0, cur code x.2.1 x.2.2), (1, .ints 3 .i64 x.1)], 2⟩ : St)) (fun x => x.1.length ≤ n ∧ (∀ y, y ∈ x.1 → InR y) ∧ a ≤ x.2.1 ∧ x.2.1 ≤ a + 2 * x.1.length) (fun x => n - x.1.length) ([], a, s) ⟨by simp, by simp, by simp, by simp⟩ none (by refine ⟨rfl, rfl, ?_, ?_⟩ <;> ((repeat' (first | exact trivial | exact rfl | refine And.intro ?_ ?_)) <;> (try ((conv => whnf); first | refine vint ?_ | refine vboo ?_ | refine rint ?_ | refine rrow ?_ | skip)) <;> (try first | omega | (simp; done) | ((repeat rw [flts_closed _ (by assumption)]); exact vws_closed _ (by assumption))))) (fun x hx => ?_)
  obtain ⟨l, a1, s1⟩ := x
  obtain ⟨h1, h2, h3, h4⟩ := hx
  simp only at h1 h2 h3 h4
  dsimp only
  conv => whnf
  refine ⟨fun h => ?_, fun h => ?_⟩
  · have h := ltT h
    conv => whnf
    refine ACallS.tmut 0 (pick_spec code hc a1 s1 (by omega) 2 (by omega) (by omega)) ?_ rfl (by (repeat' (first | exact trivial | exact rfl | refine And.intro ?_ ?_)) <;> (try first | omega | (simp; done))) (by (repeat' (first | exact trivial | exact rfl | refine And.intro ?_ ?_)) <;> (try first | omega | (simp; done)))
    rintro v r ⟨x, a2, s2, rfl, x0, x1, e1, e2, rfl⟩
    conv => whnf
    refine ⟨by unfold room; simp; omega, ?_⟩
    conv => whnf
    rw [nat_wrap (by omega)]
    refine ⟨(l ++ [W (1 - W (2 * x))], a2, s2), none, (by refine ⟨rfl, rfl, ?_, ?_⟩ <;> ((repeat' (first | exact trivial | exact rfl | refine And.intro ?_ ?_)) <;> (try ((conv => whnf); first | refine vint ?_ | refine vboo ?_ | refine rint ?_ | refine rrow ?_ | skip)) <;> (try first | omega | (simp; done) | ((repeat rw [flts_closed _ (by assumption)]); exact vws_closed _ (by assumption))))), ⟨by simp; omega, fun y hy => ?_, by simp only; omega, by simp only [List.length_append, List.length_singleton]; omega⟩, by simp; omega⟩
    rcases List.mem_append.1 hy with h | h
    · exact h2 y h
    · rw [List.mem_singleton] at h
      rw [h]; exact W_inr _
  · have h := ltF h
    conv => whnf
    refine ACallS.tmut 0 (one_spec code hc a1 s1 (by omega) 30 (by omega) (by omega)) ?_ rfl (by (repeat' (first | exact trivial | exact rfl | refine And.intro ?_ ?_)) <;> (try first | omega | (simp; done))) (by (repeat' (first | exact trivial | exact rfl | refine And.intro ?_ ?_)) <;> (try first | omega | (simp; done)))
    rintro v r ⟨x, a2, s2, rfl, e1, e2, rfl⟩
    conv => whnf
    refine ⟨fun h5 => ?_, fun h5 => ?_⟩
    · conv => whnf
      refine ACallS.inline tyOk mx Try.func43 rfl (by kernel_rfl) rfl ?_
      conv => whnf
      refine ACallS.tmut 0 (pick_spec code hc a2 s2 (by omega) 2 (by omega) (by omega)) ?_ rfl (by (repeat' (first | exact trivial | exact rfl | refine And.intro ?_ ?_)) <;> (try first | omega | (simp; done))) (by (repeat' (first | exact trivial | exact rfl | refine And.intro ?_ ?_)) <;> (try first | omega | (simp; done)))
      rintro v r ⟨y, a3, s3, rfl, y0, y1, f1, f2, rfl⟩
      conv => whnf
      obtain ⟨i, rfl, hi⟩ := nat_of (len := 2) y0 (by omega)
      refine ⟨i, rfl, hi, ?_⟩
      conv => whnf
      have hv : 0 ≤ (((List.replicate 2 (0 : Int)).set 0 1).set 1 0).getD i 0 ∧ (((List.replicate 2 (0 : Int)).set 0 1).set 1 0).getD i 0 ≤ 1 := among_in (by kernel_rfl) hi
      generalize (((List.replicate 2 (0 : Int)).set 0 1).set 1 0).getD i 0 = z at hv ⊢
      refine ⟨rfl, ?_⟩
      conv => whnf
      refine ⟨by unfold room; simp; omega, ?_⟩
      conv => whnf
      refine ⟨_, a3, s3, rfl, by simp; omega, fun y hy => ?_, by omega, by omega, rfl⟩
      rcases List.mem_append.1 hy with h | h
      · exact h2 y h
      · have h : y = z := by simpa using h
        rw [h]; unfold InR; omega
    · conv => whnf
      exact ⟨l, a2, s2, rfl, by omega, h2, by omega, by omega, rfl⟩

/-- a drawn list of lists -/
def drawnM (code : List Int) (a k : Nat) (v : AVal) (r : ARow) : Prop :=
  ∃ (m : List (List Int)) (a' : Nat) (s' : Int), v = .t (.rows m) ∧ (m.length ≤ 5 ∧ ∀ r, r ∈ m → r.length ≤ 5 ∧ ∀ x, x ∈ r → InR x) ∧ a ≤ a' ∧ a' ≤ a + k ∧ r = cur code a' s'

theorem signs5_spec (code : List Int) (hc : OkB code) (a : Nat) (s : Int) (ha : a ≤ 800000000) :
    TSpec Try.prog 20 (cur code a s) [.ptr 0 0] (drawnM code a 1000) := by
  refine tspec tyOk mx Try.func20 rfl (by kernel_rfl) rfl rfl ?_
  conv => whnf
  refine ACallS.inline tyOk mx Try.func43 rfl (by kernel_rfl) rfl ?_
  conv => whnf
  refine ACallS.tmut 0 (pick_spec code hc a s (by omega) 6 (by omega) (by omega)) ?_ rfl (by (repeat' (first | exact trivial | exact rfl | refine And.intro ?_ ?_)) <;> (try first | omega | (simp; done))) (by (repeat' (first | exact trivial | exact rfl | refine And.intro ?_ ?_)) <;> (try first | omega | (simp; done)))
  rintro v r ⟨y, a1, s1, rfl, y0, y1, e_a1, g_a1, rfl⟩
  conv => whnf
  obtain ⟨i, rfl, hi⟩ := nat_of (len := 6) y0 (by omega)
  refine ⟨i, rfl, hi, ?_⟩
  conv => whnf
  have h_nx : 1 ≤ (((((((List.replicate 6 (0 : Int)).set 0 2).set 1 2).set 2 3).set 3 1).set 4 2).set 5 3).getD i 0 ∧ (((((((List.replicate 6 (0 : Int)).set 0 2).set 1 2).set 2 3).set 3 1).set 4 2).set 5 3).getD i 0 ≤ 3 := among_in (by kernel_rfl) hi
  generalize (((((((List.replicate 6 (0 : Int)).set 0 2).set 1 2).set 2 3).set 3 1).set 4 2).set 5 3).getD i 0 = nx at h_nx ⊢
  refine ⟨rfl, ?_⟩
  conv => whnf
  clear y0 y1 hi
  refine ACallS.inline tyOk mx Try.func43 rfl (by kernel_rfl) rfl ?_
  conv => whnf
  refine ACallS.tmut 0 (pick_spec code hc a1 s1 (by omega) 5 (by omega) (by omega)) ?_ rfl (by (repeat' (first | exact trivial | exact rfl | refine And.intro ?_ ?_)) <;> (try first | omega | (simp; done))) (by (repeat' (first | exact trivial | exact rfl | refine And.intro ?_ ?_)) <;> (try first | omega | (simp; done)))
  rintro v r ⟨y, a2, s2, rfl, y0, y1, e_a2, g_a2, rfl⟩
  conv => whnf
  obtain ⟨i, rfl, hi⟩ := nat_of (len := 5) y0 (by omega)
  refine ⟨i, rfl, hi, ?_⟩
  conv => whnf
  have h_ny : 1 ≤ ((((((List.replicate 5 (0 : Int)).set 0 2).set 1 2).set 2 3).set 3 1).set 4 3).getD i 0 ∧ ((((((List.replicate 5 (0 : Int)).set 0 2).set 1 2).set 2 3).set 3 1).set 4 3).getD i 0 ≤ 3 := among_in (by kernel_rfl) hi
  generalize ((((((List.replicate 5 (0 : Int)).set 0 2).set 1 2).set 2 3).set 3 1).set 4 3).getD i 0 = ny at h_ny ⊢
  refine ⟨rfl, ?_⟩
  conv => whnf
  clear y0 y1 hi
  refine ACallS.inline tyOk mx Try.func43 rfl (by kernel_rfl) rfl ?_
  conv => whnf
  refine ACallS.tmut 0 (pick_spec code hc a2 s2 (by omega) 4 (by omega) (by omega)) ?_ rfl (by (repeat' (first | exact trivial | exact rfl | refine And.intro ?_ ?_)) <;> (try first | omega | (simp; done))) (by (repeat' (first | exact trivial | exact rfl | refine And.intro ?_ ?_)) <;> (try first | omega | (simp; done)))
  rintro v r ⟨y, a3, s3, rfl, y0, y1, e_a3, g_a3, rfl⟩
  conv => whnf
  obtain ⟨i, rfl, hi⟩ := nat_of (len := 4) y0 (by omega)
  refine ⟨i, rfl, hi, ?_⟩
  conv => whnf
  have h_big : 1 ≤ (((((List.replicate 4 (0 : Int)).set 0 1).set 1 1).set 2 3).set 3 9).getD i 0 ∧ (((((List.replicate 4 (0 : Int)).set 0 1).set 1 1).set 2 3).set 3 9).getD i 0 ≤ 9 := among_in (by kernel_rfl) hi
  generalize (((((List.replicate 4 (0 : Int)).set 0 1).set 1 1).set 2 3).set 3 9).getD i 0 = big at h_big ⊢
  refine ⟨rfl, ?_⟩
  conv => whnf
  clear y0 y1 hi
  refine aloopI tyOk mx (fun x : List (List Int) × Nat × Int => (⟨82, [(0, .ptr 0 0), (3, .c (.int .i64 (nx))), (4, .c (.int .i64 (ny))), (5, .c (.int .i64 (big))), (6, .own 4), (7, .c (.int .i64 (x.1.length))), (82, .ptr 0 0)], [(0, cur code x.2.1 x.2.2), (4, .rows 34 3 true x.1)], 5⟩ : St)) (fun x => (x.1.length : Int) ≤ nx ∧ (∀ r, r ∈ x.1 → (r.length : Int) = ny ∧ ∀ y, y ∈ r → InR y) ∧ a ≤ x.2.1 ∧ x.2.1 ≤ a + 6 + 10 * x.1.length) (fun x => nx.toNat - x.1.length) ([], a3, s3) ⟨by simp; omega, by simp, by simp only; omega, by simp; omega⟩ none (by refine ⟨rfl, rfl, ?_, ?_⟩ <;> ((repeat' (first | exact trivial | exact rfl | refine And.intro ?_ ?_)) <;> (try ((conv => whnf); first | refine vint ?_ | refine vboo ?_ | refine rint ?_ | refine rrow ?_ | skip)) <;> (try first | omega | (simp; done) | ((repeat rw [flts_closed _ (by assumption)]); exact vws_closed _ (by assumption))))) (fun x hx => ?_)
  obtain ⟨m, a4, s4⟩ := x
  obtain ⟨k1, k2, k3, k4⟩ := hx
  simp only at k1 k2 k3 k4
  dsimp only
  conv => whnf
  refine ⟨fun h => ?_, fun h => ?_⟩
  · have h := of_decide_eq_true h
    conv => whnf
    refine aloopI tyOk mx (fun x : List Int × Nat × Int => (⟨82, [(0, .ptr 0 0), (3, .c (.int .i64 (nx))), (4, .c (.int .i64 (ny))), (5, .c (.int .i64 (big))), (6, .own 4), (7, .c (.int .i64 (m.length))), (8, .own 5), (9, .c (.int .i64 (x.1.length))), (82, .ptr 0 0)], [(0, cur code x.2.1 x.2.2), (4, .rows 34 3 true m), (5, .ints 3 .i64 x.1)], 6⟩ : St)) (fun x => (x.1.length : Int) ≤ ny ∧ (∀ y, y ∈ x.1 → InR y) ∧ a4 ≤ x.2.1 ∧ x.2.1 ≤ a4 + 2 * x.1.length) (fun x => ny.toNat - x.1.length) ([], a4, s4) ⟨by simp; omega, by simp, by simp, by simp⟩ none (by refine ⟨rfl, rfl, ?_, ?_⟩ <;> ((repeat' (first | exact trivial | exact rfl | refine And.intro ?_ ?_)) <;> (try ((conv => whnf); first | refine vint ?_ | refine vboo ?_ | refine rint ?_ | refine rrow ?_ | skip)) <;> (try first | omega | (simp; done) | ((repeat rw [flts_closed _ (by assumption)]); exact vws_closed _ (by assumption))))) (fun x hx => ?_)
    obtain ⟨l, a5, s5⟩ := x
    obtain ⟨j1, j2, j3, j4⟩ := hx
    simp only at j1 j2 j3 j4
    dsimp only
    conv => whnf
    refine ⟨fun h2 => ?_, fun h2 => ?_⟩
    · have h2 := of_decide_eq_true h2
      conv => whnf
      have eb : IntKind.i64.wrap (IntKind.i64.wrap (2 * big) + 1) = 2 * big + 1 := by rw [w64 (n := 2 * big) (by omega) (by omega), w64 (by omega) (by omega)]
      rw [eb]
      refine ACallS.tmut 0 (pick_spec code hc a5 s5 (by omega) (2 * big + 1) (by omega) (by omega)) ?_ rfl (by (repeat' (first | exact trivial | exact rfl | refine And.intro ?_ ?_)) <;> (try first | omega | (simp; done))) (by (repeat' (first | exact trivial | exact rfl | refine And.intro ?_ ?_)) <;> (try first | omega | (simp; done)))
      rintro v r ⟨z, a6, s6, rfl, l_z, u_z, e_a6, g_a6, rfl⟩
      conv => whnf
      have ez : IntKind.i64.wrap (z - big) = z - big := w64 (by omega) (by omega)
      rw [ez]
      refine ⟨by unfold room; simp; omega, ?_⟩
      conv => whnf
      rw [nat_wrap (by omega)]
      refine ⟨(l ++ [z - big], a6, s6), none, (by refine ⟨rfl, rfl, ?_, ?_⟩ <;> ((repeat' (first | exact trivial | exact rfl | refine And.intro ?_ ?_)) <;> (try ((conv => whnf); first | refine vint ?_ | refine vboo ?_ | refine rint ?_ | refine rrow ?_ | skip)) <;> (try first | omega | (simp; done) | ((repeat rw [flts_closed _ (by assumption)]); exact vws_closed _ (by assumption))))), ⟨by simp; omega, fun y hy => ?_, by simp only; omega, by simp only [List.length_append, List.length_singleton]; omega⟩, by simp; omega⟩
      rcases List.mem_append.1 hy with h | h
      · exact j2 y h
      · rw [List.mem_singleton] at h
        rw [h]; unfold InR; omega
    · have h2 := of_decide_eq_false h2
      conv => whnf
      refine ⟨by unfold room; simp; omega, ?_⟩
      conv => whnf
      rw [nat_wrap (by omega)]
      refine ⟨(m ++ [l], a5, s5), none, (by refine ⟨rfl, rfl, ?_, ?_⟩ <;> ((repeat' (first | exact trivial | exact rfl | refine And.intro ?_ ?_)) <;> (try ((conv => whnf); first | refine vint ?_ | refine vboo ?_ | refine rint ?_ | refine rrow ?_ | skip)) <;> (try first | omega | (simp; done) | ((repeat rw [flts_closed _ (by assumption)]); exact vws_closed _ (by assumption))))), ⟨by simp; omega, fun r hr => ?_, by simp only; omega, by simp only [List.length_append, List.length_singleton]; omega⟩, by simp; omega⟩
      rcases List.mem_append.1 hr with h | h
      · exact k2 r h
      · rw [List.mem_singleton] at h
        rw [h]; exact ⟨by omega, j2⟩
  · have h := of_decide_eq_false h
    conv => whnf
    refine ACallS.tmut 0 (pick_spec code hc a4 s4 (by omega) 40 (by omega) (by omega)) ?_ rfl (by (repeat' (first | exact trivial | exact rfl | refine And.intro ?_ ?_)) <;> (try first | omega | (simp; done))) (by (repeat' (first | exact trivial | exact rfl | refine And.intro ?_ ?_)) <;> (try first | omega | (simp; done)))
    rintro v r ⟨z, a6, s6, rfl, l_z, u_z, e_a6, g_a6, rfl⟩
    conv => whnf
    have hm0 : 0 < m.length := by omega
    have hr0 := k2 _ (getD_mem (d := []) hm0)
    have hrm : ∀ r, r ∈ m → r.length ≤ 5 ∧ ∀ x, x ∈ r → InR x := fun r hr => ⟨by have := (k2 r hr).1; omega, (k2 r hr).2⟩
    refine ⟨fun h5 => ?_, fun h5 => ?_⟩
    · conv => whnf
      refine ADraw.planX [5] tyOk mx (.q 0 (.q 3 (.alt 1 (.alt 2 (.last 4 (.inl 5 (.last 6 (.last 7 (.done))))) (.last 4 (.alt 2 (.inl 5 (.last 6 (.last 7 (.done)))) (.inl 5 (.last 2 (.last 6 (.last 7 (.done)))))))) (.last 4 (.alt 1 (.alt 2 (.inl 5 (.last 6 (.last 7 (.done)))) (.inl 5 (.last 2 (.last 6 (.last 7 (.done)))))) (.inl 5 (.last 1 (.last 2 (.last 6 (.last 7 (.done)))))))))) : Plan) (by kernel_rfl) ?_
      conv => whnf
      have fin : ∀ (v : Int) (a7 : Nat) (s7 : Int), (-10 ≤ v ∧ v ≤ 4611686018427387904) → a6 ≤ a7 → a7 ≤ a6 + 2 → drawnM code a 1000 (.t (.rows (m.set 0 ((m.getD 0 []).set 0 v)))) (cur code a7 s7) := fun v a7 s7 hv e1 e2 => by
        refine ⟨_, a7, s7, rfl, ⟨by simp; omega, fun r hr => ?_⟩, by omega, by omega, rfl⟩
        rcases List.mem_or_eq_of_mem_set hr with h | rfl
        · exact hrm r h
        · refine ⟨by rw [List.length_set]; omega, fun x hx => ?_⟩
          rcases List.mem_or_eq_of_mem_set hx with h | rfl
          · exact hr0.2 x h
          · unfold InR; omega
      repeat' (first
        | (refine ⟨0, rfl, hm0, ?_⟩; conv => whnf)
        | (refine ⟨0, rfl, (by omega : 0 < (m.getD 0 []).length), ?_⟩; conv => whnf)
        | (refine ACallS.inline tyOk mx Try.func43 rfl (by kernel_rfl) rfl ?_; (conv => whnf); refine ACallS.tmut 0 (pick_spec code hc a6 s6 (by omega) 5 (by omega) (by omega)) ?_ rfl (by (repeat' (first | exact trivial | exact rfl | refine And.intro ?_ ?_)) <;> (try first | omega | (simp; done))) (by (repeat' (first | exact trivial | exact rfl | refine And.intro ?_ ?_)) <;> (try first | omega | (simp; done))); rintro v r ⟨y, a7, s7, rfl, y0, y1, e_a7, g_a7, rfl⟩; (conv => whnf); obtain ⟨i, rfl, hi⟩ := nat_of (len := 5) y0 (by omega); refine ⟨i, rfl, hi, ?_⟩; (conv => whnf); have h_v : -10 ≤ ((((((List.replicate 5 (0 : Int)).set 0 9).set 1 (-9)).set 2 10).set 3 (-10)).set 4 4611686018427387904).getD i 0 ∧ ((((((List.replicate 5 (0 : Int)).set 0 9).set 1 (-9)).set 2 10).set 3 (-10)).set 4 4611686018427387904).getD i 0 ≤ 4611686018427387904 := among_in (by kernel_rfl) hi; generalize ((((((List.replicate 5 (0 : Int)).set 0 9).set 1 (-9)).set 2 10).set 3 (-10)).set 4 4611686018427387904).getD i 0 = v at h_v ⊢; refine ⟨rfl, ?_⟩; (conv => whnf); clear y0 y1 hi)
        | exact fin _ _ _ (by assumption) (by assumption) (by assumption)
        | (refine And.intro ?_ ?_ <;> (conv => whnf)))
    · conv => whnf
      refine ⟨fun h6 => ?_, fun h6 => ?_⟩
      · conv => whnf
        refine ASet.app tyOk rfl rfl rfl rfl rfl rfl rfl rfl rfl rfl rfl rfl ?_
        conv => whnf
        refine ⟨0, rfl, hm0, ?_⟩
        conv => whnf
        refine ⟨rfl, hm0, by simp only [room, List.length_set, List.length_replicate]; omega, ?_⟩
        conv => whnf
        refine ⟨m.set 0 (m.getD 0 [] ++ [0]), a6, s6, rfl, ⟨by simp; omega, fun r hr => ?_⟩, by omega, by omega, rfl⟩
        rcases List.mem_or_eq_of_mem_set hr with h | rfl
        · exact hrm r h
        · refine ⟨by rw [List.length_append, List.length_singleton]; omega, fun x hx => ?_⟩
          rcases List.mem_append.1 hx with h | h
          · exact hr0.2 x h
          · rw [List.mem_singleton] at h
            rw [h]; unfold InR; omega
      · conv => whnf
        refine ⟨fun h7 => ?_, fun h7 => ?_⟩
        · conv => whnf
          refine ADraw.plan tyOk mx (.q 0 (.q 1 (.q 2 (.q 3 (.q 5 (.q 6 (.q 7 (.last 4 (.last 8 (.last 9 (.last 10 (.q 11 (.done)))))))))))) : Plan) (by kernel_rfl) ?_
          conv => whnf
          refine ⟨0, rfl, hm0, 0, rfl, hm0, ?_⟩
          conv => whnf
          refine ACall.useR (l1OwnC_spec _ (by omega)) ?_
          conv => whnf
          refine ACall.useR (l1OwnC_spec _ (by omega)) ?_
          conv => whnf
          refine ⟨by simp only [room, List.length_cons, List.length_nil]; omega, ?_⟩
          conv => whnf
          refine ⟨m ++ [m.getD 0 [], m.getD 0 []], a6, s6, rfl, ⟨by simp; omega, fun r hr => ?_⟩, by omega, by omega, rfl⟩
          rcases List.mem_append.1 hr with h | h
          · exact hrm r h
          · have : r = m.getD 0 [] := by simpa using h
            rw [this]; exact ⟨by omega, hr0.2⟩
        · conv => whnf
          refine ⟨fun h8 => ?_, fun h8 => ?_⟩
          · conv => whnf
            exact ⟨[], a6, s6, rfl, by simp, by omega, by omega, rfl⟩
          · conv => whnf
            exact ⟨m, a6, s6, rfl, ⟨by omega, fun r hr => ⟨by have := (k2 r hr).1; omega, (k2 r hr).2⟩⟩, by omega, by omega, rfl⟩
end Go.Proofs.Ytahllgjmjnipjaa
