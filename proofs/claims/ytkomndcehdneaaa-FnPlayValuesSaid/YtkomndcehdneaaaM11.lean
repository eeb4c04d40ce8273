/- Draws of functionals. -/
import Derived.Test.YtkomndcehdneaaaM10
import Derived.Test.YtkomndcehdneaaaM4
import Derived.Test.YtkomndcehdneaaaM2
namespace Go.Proofs.Ytkomndcehdneaaa
open Go.Aw
set_option maxRecDepth 100000
set_option maxHeartbeats 4000000

theorem cut34u {z : Int} (h0 : 0 ≤ z) (h1 : z < max 2 1) : ∃ h : Nat, IntKind.i64.wrap (3 + z) = h ∧ h ≤ 4 := ⟨(3 + z).toNat, by rw [w64 (by omega) (by omega)]; omega, by omega⟩
/-- a list of the method's own -/
def listO (code : List Int) (a k : Nat) : AVal → List (Nat × ARow) → ARow → Prop := fun v h r =>
  ∃ (l : List Int) (a' : Nat) (s' : Int), (l.length ≤ 4 ∧ ∀ v, v ∈ l → InR v) ∧ v = .own 0 ∧ h = [(0, .ints 3 .i64 l)] ∧ a ≤ a' ∧ a' ≤ a + k ∧ r = cur code a' s'
theorem numbers_spec (code : List Int) (hc : OkB code) (a : Nat) (s : Int) (ha : a ≤ 800000000) : OSpec Try.prog 236 (cur code a s) [.ptr 0 0] (listO code a 8) := by
  refine ospec tyOk mx Try.func236 rfl (by kernel_rfl) rfl rfl ?_
  conv => whnf
  refine ACallS.inline tyOk mx Try.func116 rfl (by kernel_rfl) rfl ?_
  conv => whnf
  refine ACallS.tmut 0 (pick_spec code hc a s (by omega) 3 (by omega) (by omega)) ?_ rfl (by (repeat' (first | exact trivial | exact rfl | refine And.intro ?_ ?_)) <;> (try first | omega | (simp; done))) (by (repeat' (first | exact trivial | exact rfl | refine And.intro ?_ ?_)) <;> (try first | omega | (simp; done)))
  rintro v r ⟨y, a1, s1, rfl, y0, y1, e_a1, g_a1, rfl⟩
  conv => whnf
  obtain ⟨i, rfl, hi⟩ := nat_of (len := 3) y0 (by omega)
  refine ⟨i, rfl, hi, ?_⟩
  conv => whnf
  have h_x : 0 ≤ ((((List.replicate 3 (0 : Int)).set 0 99).set 1 100).set 2 0).getD i 0 ∧ ((((List.replicate 3 (0 : Int)).set 0 99).set 1 100).set 2 0).getD i 0 ≤ 100 := among_in (by kernel_rfl) hi
  generalize ((((List.replicate 3 (0 : Int)).set 0 99).set 1 100).set 2 0).getD i 0 = x at h_x ⊢
  refine ⟨rfl, ?_⟩
  conv => whnf
  clear y0 y1 hi
  refine ACallS.inline tyOk mx Try.func116 rfl (by kernel_rfl) rfl ?_
  conv => whnf
  refine ACallS.tmut 0 (pick_spec code hc a1 s1 (by omega) 3 (by omega) (by omega)) ?_ rfl (by (repeat' (first | exact trivial | exact rfl | refine And.intro ?_ ?_)) <;> (try first | omega | (simp; done))) (by (repeat' (first | exact trivial | exact rfl | refine And.intro ?_ ?_)) <;> (try first | omega | (simp; done)))
  rintro v r ⟨y, a2, s2, rfl, y0, y1, e_a2, g_a2, rfl⟩
  conv => whnf
  obtain ⟨i, rfl, hi⟩ := nat_of (len := 3) y0 (by omega)
  refine ⟨i, rfl, hi, ?_⟩
  conv => whnf
  have h_y : -100 ≤ ((((List.replicate 3 (0 : Int)).set 0 (-99)).set 1 (-100)).set 2 0).getD i 0 ∧ ((((List.replicate 3 (0 : Int)).set 0 (-99)).set 1 (-100)).set 2 0).getD i 0 ≤ 0 := among_in (by kernel_rfl) hi
  generalize ((((List.replicate 3 (0 : Int)).set 0 (-99)).set 1 (-100)).set 2 0).getD i 0 = y at h_y ⊢
  refine ⟨rfl, ?_⟩
  conv => whnf
  clear y0 y1 hi
  refine ACallS.inline tyOk mx Try.func116 rfl (by kernel_rfl) rfl ?_
  conv => whnf
  refine ACallS.tmut 0 (pick_spec code hc a2 s2 (by omega) 2 (by omega) (by omega)) ?_ rfl (by (repeat' (first | exact trivial | exact rfl | refine And.intro ?_ ?_)) <;> (try first | omega | (simp; done))) (by (repeat' (first | exact trivial | exact rfl | refine And.intro ?_ ?_)) <;> (try first | omega | (simp; done)))
  rintro v r ⟨y, a3, s3, rfl, y0, y1, e_a3, g_a3, rfl⟩
  conv => whnf
  obtain ⟨i, rfl, hi⟩ := nat_of (len := 2) y0 (by omega)
  refine ⟨i, rfl, hi, ?_⟩
  conv => whnf
  have h_z : 0 ≤ (((List.replicate 2 (0 : Int)).set 0 0).set 1 4611686018427387904).getD i 0 ∧ (((List.replicate 2 (0 : Int)).set 0 0).set 1 4611686018427387904).getD i 0 ≤ 4611686018427387904 := among_in (by kernel_rfl) hi
  generalize (((List.replicate 2 (0 : Int)).set 0 0).set 1 4611686018427387904).getD i 0 = z at h_z ⊢
  refine ⟨rfl, ?_⟩
  conv => whnf
  clear y0 y1 hi
  refine ACallS.tmut 0 (pick_spec code hc a3 s3 (by omega) 2 (by omega) (by omega)) ?_ rfl (by (repeat' (first | exact trivial | exact rfl | refine And.intro ?_ ?_)) <;> (try first | omega | (simp; done))) (by (repeat' (first | exact trivial | exact rfl | refine And.intro ?_ ?_)) <;> (try first | omega | (simp; done)))
  rintro v r ⟨c, a4, s4, rfl, l_c, u_c, e_a4, g_a4, rfl⟩
  conv => whnf
  obtain ⟨n, en, hn⟩ := cut34u l_c u_c
  refine ⟨n, en, hn, ?_⟩
  conv => whnf
  have h4 := set4 (set4 (set4 (set4 rep4 0 (show InR x by unfold InR; omega)) 1 (show InR y by unfold InR; omega)) 2 inr0) 3 (show InR z by unfold InR; omega)
  exact ⟨_, a4, s4, ⟨by rw [List.length_take]; have := h4.1; omega, fun v hv => h4.2 v (List.mem_of_mem_take hv)⟩, rfl, rfl, by omega, by omega, rfl⟩

/-- a drawn functional -/
def drawnF (code : List Int) (a k : Nat) (v : AVal) (r : ARow) : Prop :=
  ∃ (f : List (List Int)) (a' : Nat) (s' : Int), v = .t (.rows f) ∧ SmB f ∧ a ≤ a' ∧ a' ≤ a + k ∧ r = cur code a' s'
theorem fnDraw_spec (code : List Int) (hc : OkB code) (a : Nat) (s : Int) (ha : a ≤ 700000000) (x y : Int) :
    TSpec Try.prog 137 (cur code a s) [.ptr 0 0, .c (.int .i64 (x)), .c (.int .i64 (y))] (drawnF code a 1000) := by
  have nxy : near x * near y ≤ 4 * 4 := Nat.mul_le_mul (near_le x) (near_le y)
  generalize hN : near x * near y = N at nxy
  have eN : IntKind.i64.wrap ((near x : Int) * (near y : Int)) = (N : Int) := by rw [← Int.natCast_mul, hN]; exact w64 (by omega) (by omega)
  refine tspec tyOk mx Try.func137 rfl (by kernel_rfl) rfl rfl ?_
  conv => whnf
  refine aloopI tyOk mx (fun i : List (List Int) × Nat × Int => (⟨52, [(0, .ptr 0 0), (1, .c (.int .i64 (x))), (2, .c (.int .i64 (y))), (7, .own 1), (8, .c (.int .i64 (i.1.length))), (52, .ptr 0 0)], [(0, cur code i.2.1 i.2.2), (1, .rows 25 3 true i.1)], 2⟩ : St)) (fun i => i.1.length ≤ N ∧ R4 i.1 ∧ a ≤ i.2.1 ∧ i.2.1 ≤ a + 8 * i.1.length) (fun i => N - i.1.length) ([], a, s) ⟨by simp, R4.nil, by simp only; omega, by simp only; omega⟩ none (by refine ⟨rfl, rfl, ?_, ?_⟩ <;> ((repeat' (first | exact trivial | exact rfl | refine And.intro ?_ ?_)) <;> (try ((conv => whnf); first | refine vint ?_ | refine vboo ?_ | refine rint ?_ | refine rrow ?_ | skip)) <;> (try first | omega | (simp; done) | ((repeat rw [flts_closed _ (by assumption)]); exact vws_closed _ (by assumption))))) (fun i hi => ?_)
  obtain ⟨m, a2, s2⟩ := i
  obtain ⟨h1, h2, h3, h4⟩ := hi
  simp only at h1 h2 h3 h4
  dsimp only
  conv => whnf
  refine ACall.use (l2Near_spec _) ?_
  conv => whnf
  refine ACall.use (l2Near_spec _) ?_
  conv => whnf
  rw [eN]
  refine ⟨fun h => ?_, fun h => ?_⟩
  · have h := ltT h
    conv => whnf
    refine aloopI tyOk mx (fun j : List Int × Nat × Int => (⟨52, [(0, .ptr 0 0), (1, .c (.int .i64 (x))), (2, .c (.int .i64 (y))), (7, .own 1), (8, .c (.int .i64 (m.length))), (9, .own 2), (10, .c (.int .i64 (j.1.length))), (52, .ptr 0 0)], [(0, cur code j.2.1 j.2.2), (1, .rows 25 3 true m), (2, .ints 3 .i64 j.1)], 3⟩ : St)) (fun j => j.1.length ≤ 4 ∧ (∀ v, v ∈ j.1 → InR v) ∧ a2 ≤ j.2.1 ∧ j.2.1 ≤ a2 + 2 * j.1.length) (fun j => 4 - j.1.length) ([], a2, s2) ⟨by simp, by simp, by simp only; omega, by simp only; omega⟩ none (by refine ⟨rfl, rfl, ?_, ?_⟩ <;> ((repeat' (first | exact trivial | exact rfl | refine And.intro ?_ ?_)) <;> (try ((conv => whnf); first | refine vint ?_ | refine vboo ?_ | refine rint ?_ | refine rrow ?_ | skip)) <;> (try first | omega | (simp; done) | ((repeat rw [flts_closed _ (by assumption)]); exact vws_closed _ (by assumption))))) (fun j hj => ?_)
    obtain ⟨l, a3, s3⟩ := j
    obtain ⟨j1, j2, j3, j4⟩ := hj
    simp only at j1 j2 j3 j4
    dsimp only
    refine ⟨fun h5 => ?_, fun h5 => ?_⟩
    · have h5 : l.length < 4 := by have := of_decide_eq_true h5; omega
      conv => whnf
      refine ACallS.tmut 0 (pick_spec code hc a3 s3 (by omega) 9 (by omega) (by omega)) ?_ rfl (by (repeat' (first | exact trivial | exact rfl | refine And.intro ?_ ?_)) <;> (try first | omega | (simp; done))) (by (repeat' (first | exact trivial | exact rfl | refine And.intro ?_ ?_)) <;> (try first | omega | (simp; done)))
      rintro v r ⟨u, a4, s4, rfl, l_u, u_u, e_a4, g_a4, rfl⟩
      conv => whnf
      refine ⟨by simp [room]; omega, ?_⟩
      conv => whnf
      rw [nat_wrap (by omega)]
      refine ⟨(l ++ [_], a4, s4), none, (by refine ⟨rfl, rfl, ?_, ?_⟩ <;> ((repeat' (first | exact trivial | exact rfl | refine And.intro ?_ ?_)) <;> (try ((conv => whnf); first | refine vint ?_ | refine vboo ?_ | refine rint ?_ | refine rrow ?_ | skip)) <;> (try first | omega | (simp; done) | ((repeat rw [flts_closed _ (by assumption)]); exact vws_closed _ (by assumption))))), ⟨by simp only [List.length_append, List.length_singleton]; omega, fun v hv => ?_, by simp only; omega, by simp only [List.length_append, List.length_singleton]; omega⟩, by simp only [List.length_append, List.length_singleton]; omega⟩
      rcases List.mem_append.1 hv with h | h
      · exact j2 v h
      · rw [List.mem_singleton] at h; rw [h]; exact W_inr _
    · have h5 : ¬ l.length < 4 := by have := of_decide_eq_false h5; omega
      conv => whnf
      refine ⟨by simp [room]; omega, ?_⟩
      conv => whnf
      rw [nat_wrap (by omega)]
      exact ⟨(m ++ [l], a3, s3), none, (by refine ⟨rfl, rfl, ?_, ?_⟩ <;> ((repeat' (first | exact trivial | exact rfl | refine And.intro ?_ ?_)) <;> (try ((conv => whnf); first | refine vint ?_ | refine vboo ?_ | refine rint ?_ | refine rrow ?_ | skip)) <;> (try first | omega | (simp; done) | ((repeat rw [flts_closed _ (by assumption)]); exact vws_closed _ (by assumption))))), ⟨by simp only [List.length_append, List.length_singleton]; omega, R4.app h2 ⟨by omega, j2⟩, by simp only; omega, by simp only [List.length_append, List.length_singleton]; omega⟩, by simp only [List.length_append, List.length_singleton]; omega⟩
  · have h := ltF h
    have hml : m.length ≤ 16 := by omega
    conv => whnf
    refine ⟨fun hp => ?_, fun hp => ?_⟩
    · have hp : 0 < m.length := by have := of_decide_eq_true hp; omega
      conv => whnf
      refine ACallS.tmut 0 (one_spec code hc a2 s2 (by omega) 30 (by omega) (by omega)) ?_ rfl (by (repeat' (first | exact trivial | exact rfl | refine And.intro ?_ ?_)) <;> (try first | omega | (simp; done))) (by (repeat' (first | exact trivial | exact rfl | refine And.intro ?_ ?_)) <;> (try first | omega | (simp; done)))
      rintro v r ⟨b, a3, s3, rfl, e_a3, g_a3, rfl⟩
      conv => whnf
      refine ⟨fun hb => ?_, fun hb => ?_⟩
      · conv => whnf
        refine ACallS.tmut 0 (pick_spec code hc a3 s3 (by omega) m.length (by omega) (by omega)) ?_ rfl (by (repeat' (first | exact trivial | exact rfl | refine And.intro ?_ ?_)) <;> (try first | omega | (simp; done))) (by (repeat' (first | exact trivial | exact rfl | refine And.intro ?_ ?_)) <;> (try first | omega | (simp; done)))
        rintro v r ⟨k, a4, s4, rfl, l_k, u_k, e_a4, g_a4, rfl⟩
        conv => whnf
        obtain ⟨i, rfl, hi⟩ := nat_of (len := m.length) l_k (by omega)
        refine ACallS.omut 0 (numbers_spec code hc a4 s4 (by omega)) ?_ rfl (by (repeat' (first | exact trivial | exact rfl | refine And.intro ?_ ?_)) <;> (try first | omega | (simp; done))) (by (repeat' (first | exact trivial | exact rfl | refine And.intro ?_ ?_)) <;> (try first | omega | (simp; done)))
        rintro v h r ⟨l, a5, s5, hl, rfl, rfl, e5, g5, rfl⟩
        conv => whnf
        refine ⟨i, rfl, hi, ?_⟩
        conv => whnf
        exact ⟨m.set i l, a5, s5, rfl, h2.smSet rfl hml i hl, by omega, by omega, rfl⟩
      · conv => whnf
        exact ⟨m, a3, s3, rfl, h2.sm rfl hml, by omega, by omega, rfl⟩
    · (repeat (conv => whnf); (first | refine ⟨fun h => absurd h (by decide), fun _ => ?_⟩ | refine ⟨fun _ => ?_, fun h => absurd h (by decide)⟩)); conv => whnf
      exact ⟨m, a2, s2, rfl, h2.sm rfl hml, by omega, by omega, rfl⟩
end Go.Proofs.Ytkomndcehdneaaa
/- Draws of FnPlayValues. -/
namespace Go.Proofs.Ytkomndcehdneaaa
open Go.Aw
set_option maxRecDepth 100000
set_option maxHeartbeats 4000000

/-- drawn shares -/
def drawnSh (code : List Int) (a k : Nat) (v : AVal) (r : ARow) : Prop :=
  ∃ (l : List Int) (a' : Nat) (s' : Int), v = .t (.ints .i64 l) ∧ l.length ≤ 65 ∧ (∀ x, x ∈ l → InR x) ∧ a ≤ a' ∧ a' ≤ a + k ∧ r = cur code a' s'
theorem sum_nat {x y : Int} (h : szOk x y = true) : ∃ n : Nat, IntKind.i64.wrap (x + y) = n ∧ n ≤ 6 := by
  obtain ⟨nx, ny, rfl, rfl, _, hx, _, hy, _⟩ := szOk_nat h
  exact ⟨nx + ny, natAdd (by omega), by omega⟩
theorem shares3_spec (code : List Int) (hc : OkB code) (a : Nat) (s : Int) (ha : a ≤ 700000000) (x y : Int) :
    TSpec Try.prog 149 (cur code a s) [.ptr 0 0, .c (.int .i64 (x)), .c (.int .i64 (y))] (drawnSh code a 1000) := by
  refine tspec tyOk mx Try.func149 rfl (by kernel_rfl) rfl rfl ?_
  conv => whnf
  refine ACall.use (l2Sizes_spec x y) ?_
  conv => whnf
  refine ⟨fun h => ?_, fun h => ?_⟩
  · conv => whnf
    exact ⟨[], a, s, rfl, by simp, by simp, by omega, by omega, rfl⟩
  · have h : szOk x y = true := by simpa using h
    obtain ⟨n, en, hn⟩ := sum_nat h
    have h64 := two_pow6 hn
    have h1p := Nat.two_pow_pos n
    conv => whnf
    refine aloopI tyOk mx (fun u : List Int × Nat × Int => (⟨50, [(0, .ptr 0 0), (1, .c (.int .i64 (x))), (2, .c (.int .i64 (y))), (7, .own 1), (8, .c (.int .i64 (u.1.length))), (50, .ptr 0 0)], [(0, cur code u.2.1 u.2.2), (1, .ints 3 .i64 u.1)], 2⟩ : St)) (fun u => u.1.length ≤ 2 ^ n ∧ (∀ y, y ∈ u.1 → InR y) ∧ a ≤ u.2.1 ∧ u.2.1 ≤ a + 2 * u.1.length) (fun u => 2 ^ n - u.1.length) ([], a, s) ⟨by simp, by simp, by simp, by simp⟩ none (by refine ⟨rfl, rfl, ?_, ?_⟩ <;> ((repeat' (first | exact trivial | exact rfl | refine And.intro ?_ ?_)) <;> (try ((conv => whnf); first | refine vint ?_ | refine vboo ?_ | refine rint ?_ | refine rrow ?_ | skip)) <;> (try first | omega | (simp; done) | ((repeat rw [flts_closed _ (by assumption)]); exact vws_closed _ (by assumption))))) (fun u hx => ?_)
    obtain ⟨l, a1, s1⟩ := u
    obtain ⟨h1, h2, h3, h4⟩ := hx
    simp only at h1 h2 h3 h4
    dsimp only
    conv => whnf
    rw [en]
    refine ⟨by omega, ?_⟩
    conv => whnf
    rw [shl_one (by omega)]
    refine ⟨fun h => ?_, fun h => ?_⟩
    · have h := ltT h
      conv => whnf
      refine ACallS.inline tyOk mx Try.func116 rfl (by kernel_rfl) rfl ?_
      conv => whnf
      refine ACallS.tmut 0 (pick_spec code hc a1 s1 (by omega) 8 (by omega) (by omega)) ?_ rfl (by (repeat' (first | exact trivial | exact rfl | refine And.intro ?_ ?_)) <;> (try first | omega | (simp; done))) (by (repeat' (first | exact trivial | exact rfl | refine And.intro ?_ ?_)) <;> (try first | omega | (simp; done)))
      rintro v r ⟨y, a2, s2, rfl, y0, y1, e_a2, g_a2, rfl⟩
      conv => whnf
      obtain ⟨i, rfl, hi⟩ := nat_of (len := 8) y0 (by omega)
      refine ⟨i, rfl, hi, ?_⟩
      conv => whnf
      have h_z : 0 ≤ (((((((((List.replicate 8 (0 : Int)).set 0 0).set 1 0).set 2 1).set 3 0).set 4 0).set 5 2).set 6 0).set 7 5).getD i 0 ∧ (((((((((List.replicate 8 (0 : Int)).set 0 0).set 1 0).set 2 1).set 3 0).set 4 0).set 5 2).set 6 0).set 7 5).getD i 0 ≤ 5 := among_in (by kernel_rfl) hi
      generalize (((((((((List.replicate 8 (0 : Int)).set 0 0).set 1 0).set 2 1).set 3 0).set 4 0).set 5 2).set 6 0).set 7 5).getD i 0 = z at h_z ⊢
      refine ⟨rfl, ?_⟩
      conv => whnf
      clear y0 y1 hi
      refine ⟨by unfold room; simp; omega, ?_⟩
      conv => whnf
      rw [nat_wrap (by omega)]
      refine ⟨(l ++ [z], a2, s2), none, (by refine ⟨rfl, rfl, ?_, ?_⟩ <;> ((repeat' (first | exact trivial | exact rfl | refine And.intro ?_ ?_)) <;> (try ((conv => whnf); first | refine vint ?_ | refine vboo ?_ | refine rint ?_ | refine rrow ?_ | skip)) <;> (try first | omega | (simp; done) | ((repeat rw [flts_closed _ (by assumption)]); exact vws_closed _ (by assumption))))), ⟨by simp; omega, fun y hy => ?_, by simp only; omega, by simp only [List.length_append, List.length_singleton]; omega⟩, by simp; omega⟩
      rcases List.mem_append.1 hy with h | h
      · exact h2 y h
      · rw [List.mem_singleton] at h
        rw [h]; unfold InR; omega
    · have h := ltF h
      conv => whnf
      refine ACallS.tmut 0 (pick_spec code hc a1 s1 (by omega) (l.length) (by omega) (by omega)) ?_ rfl (by (repeat' (first | exact trivial | exact rfl | refine And.intro ?_ ?_)) <;> (try first | omega | (simp; done))) (by (repeat' (first | exact trivial | exact rfl | refine And.intro ?_ ?_)) <;> (try first | omega | (simp; done)))
      rintro v r ⟨k, a2, s2, rfl, l_k, u_k, e_a2, g_a2, rfl⟩
      conv => whnf
      obtain ⟨q, rfl, hq⟩ := nat_of (len := l.length) l_k (by omega)
      refine ⟨q, rfl, hq, ?_⟩
      conv => whnf
      have hset : ∀ v, v ∈ l.set q 1 → InR v := fun v hv => by
        rcases List.mem_or_eq_of_mem_set hv with h | rfl
        · exact h2 v h
        · unfold InR; omega
      refine ACallS.tmut 0 (pick_spec code hc a2 s2 (by omega) 30 (by omega) (by omega)) ?_ rfl (by (repeat' (first | exact trivial | exact rfl | refine And.intro ?_ ?_)) <;> (try first | omega | (simp; done))) (by (repeat' (first | exact trivial | exact rfl | refine And.intro ?_ ?_)) <;> (try first | omega | (simp; done)))
      rintro v r ⟨u, a3, s3, rfl, l_u, u_u, e_a3, g_a3, rfl⟩
      conv => whnf
      refine ⟨fun h5 => ?_, fun h5 => ?_⟩
      · conv => whnf
        refine ⟨by unfold room; simp; omega, ?_⟩
        conv => whnf
        refine ⟨_, a3, s3, rfl, by simp; omega, fun v hv => ?_, by omega, by omega, rfl⟩
        rcases List.mem_append.1 hv with h | h
        · exact hset v h
        · have h : v = 0 := by simpa using h
          rw [h]; unfold InR; omega
      · conv => whnf
        refine ⟨fun h6 => ?_, fun h6 => ?_⟩
        · conv => whnf
          refine ACallS.inline tyOk mx Try.func116 rfl (by kernel_rfl) rfl ?_
          conv => whnf
          refine ACallS.tmut 0 (pick_spec code hc a3 s3 (by omega) 4 (by omega) (by omega)) ?_ rfl (by (repeat' (first | exact trivial | exact rfl | refine And.intro ?_ ?_)) <;> (try first | omega | (simp; done))) (by (repeat' (first | exact trivial | exact rfl | refine And.intro ?_ ?_)) <;> (try first | omega | (simp; done)))
          rintro v r ⟨y, a4, s4, rfl, y0, y1, e_a4, g_a4, rfl⟩
          conv => whnf
          obtain ⟨i, rfl, hi⟩ := nat_of (len := 4) y0 (by omega)
          refine ⟨i, rfl, hi, ?_⟩
          conv => whnf
          have h_z : -1 ≤ (((((List.replicate 4 (0 : Int)).set 0 (-1)).set 1 1000).set 2 1001).set 3 4611686018427387904).getD i 0 ∧ (((((List.replicate 4 (0 : Int)).set 0 (-1)).set 1 1000).set 2 1001).set 3 4611686018427387904).getD i 0 ≤ 4611686018427387904 := among_in (by kernel_rfl) hi
          generalize (((((List.replicate 4 (0 : Int)).set 0 (-1)).set 1 1000).set 2 1001).set 3 4611686018427387904).getD i 0 = z at h_z ⊢
          refine ⟨rfl, ?_⟩
          conv => whnf
          clear y0 y1 hi
          refine ⟨0, rfl, (by rw [List.length_set]; omega), ?_⟩
          conv => whnf
          refine ⟨_, a4, s4, rfl, by simp; omega, fun v hv => ?_, by omega, by omega, rfl⟩
          rcases List.mem_or_eq_of_mem_set hv with h | rfl
          · exact hset v h
          · unfold InR; omega
        · conv => whnf
          exact ⟨_, a3, s3, rfl, by simp; omega, hset, by omega, by omega, rfl⟩
/-- sizes and a functional -/
def szF : AVal → List (Nat × ARow) → Prop := fun v h => h = [] ∧ ∃ (x y : Int) (f : List (List Int)), InR x ∧ InR y ∧ SmB f ∧ v = .tu [.c (.int .i64 (x)), .c (.int .i64 (y)), .t (.rows f)]
theorem DrawLocalValue_spec (code : List Int) (hc : OkB code) : FSpec Try.prog 27 [.t (.ints .u8 code)] szF := by
  refine fspec tyOk mx Try.func27 rfl (by kernel_rfl) rfl ?_
  conv => whnf
  refine ACallS.tmut 0 (sizes_spec code hc 0 0 (by omega)) ?_ rfl (by (repeat' (first | exact trivial | exact rfl | refine And.intro ?_ ?_)) <;> (try first | omega | (simp; done))) (by (repeat' (first | exact trivial | exact rfl | refine And.intro ?_ ?_)) <;> (try first | omega | (simp; done)))
  rintro v r ⟨x, y, a1, s1, rfl, hx, hy, e1, g1, rfl⟩
  conv => whnf
  refine ACallS.tmut 0 (fnDraw_spec code hc a1 s1 (by omega) x y) ?_ rfl (by (repeat' (first | exact trivial | exact rfl | refine And.intro ?_ ?_)) <;> (try first | omega | (simp; done))) (by (repeat' (first | exact trivial | exact rfl | refine And.intro ?_ ?_)) <;> (try first | omega | (simp; done)))
  rintro v r ⟨f, a2, s2, rfl, hf, e2, g2, rfl⟩
  conv => whnf
  exact ⟨rfl, x, y, f, hx, hy, hf, rfl⟩
/-- sizes and shares -/
def shS : AVal → List (Nat × ARow) → Prop := fun v h => h = [] ∧ ∃ (x y : Int) (l : List Int), InR x ∧ InR y ∧ l.length ≤ 65 ∧ (∀ v, v ∈ l → InR v) ∧ v = .tu [.c (.int .i64 (x)), .c (.int .i64 (y)), .t (.ints .i64 l)]
theorem DrawMixtureBox_spec (code : List Int) (hc : OkB code) : FSpec Try.prog 34 [.t (.ints .u8 code)] shS := by
  refine fspec tyOk mx Try.func34 rfl (by kernel_rfl) rfl ?_
  conv => whnf
  refine ACallS.tmut 0 (sizes_spec code hc 0 0 (by omega)) ?_ rfl (by (repeat' (first | exact trivial | exact rfl | refine And.intro ?_ ?_)) <;> (try first | omega | (simp; done))) (by (repeat' (first | exact trivial | exact rfl | refine And.intro ?_ ?_)) <;> (try first | omega | (simp; done)))
  rintro v r ⟨x, y, a1, s1, rfl, hx, hy, e1, g1, rfl⟩
  conv => whnf
  refine ACallS.tmut 0 (shares3_spec code hc a1 s1 (by omega) x y) ?_ rfl (by (repeat' (first | exact trivial | exact rfl | refine And.intro ?_ ?_)) <;> (try first | omega | (simp; done))) (by (repeat' (first | exact trivial | exact rfl | refine And.intro ?_ ?_)) <;> (try first | omega | (simp; done)))
  rintro v r ⟨l, a2, s2, rfl, hl, hv, e2, g2, rfl⟩
  conv => whnf
  exact ⟨rfl, x, y, l, hx, hy, hl, hv, rfl⟩
/-- a box and shares -/
def bxS : AVal → List (Nat × ARow) → Prop := fun v h => h = [] ∧ ∃ (x y z : Int) (m : List (List Int)) (l : List Int), InR x ∧ InR y ∧ InR z ∧ SzM m ∧ l.length ≤ 65 ∧ (∀ v, v ∈ l → InR v) ∧ v = .tu [.ag [.c (.int .i64 (x)), .c (.int .i64 (y)), .c (.int .i64 (z)), .t (.rows m)], .t (.ints .i64 l)]
def bxW : AVal → List (Nat × ARow) → Prop := fun v h => bxS v h ∨
  (∃ (x y z : Int) (m : List (List Int)) (l : List Int), InR x ∧ InR y ∧ InR z ∧ SzM m ∧ l.length ≤ 65 ∧ (∀ v, v ∈ l → InR v) ∧ v = .tu [.ag [.c (.int .i64 (x)), .c (.int .i64 (y)), .c (.int .i64 (z)), .own 0], .t (.ints .i64 l)] ∧ h = [(0, .rows 25 3 true m)])
theorem bxW_tell {f : FuncId} {args : List AVal} (h : FSpec Try.prog f args bxW) : FSpec Try.prog f args bxS := by
  refine FSpec.view h (fun v hr hp => ?_)
  rcases hp with ⟨rfl, x, y, z, m, l, h1, h2, h3, h4, h5, h6, rfl⟩ | ⟨x, y, z, m, l, h1, h2, h3, h4, h5, h6, rfl, rfl⟩
  · exact ⟨[], .tu [.ag [.c (.int .i64 (x)), .c (.int .i64 (y)), .c (.int .i64 (z)), .t (.rows m)], .t (.ints .i64 l)], [], rfl, trivial, ⟨⟨rfl, rfl, rfl, rfl, trivial⟩, rfl, trivial⟩, rfl, x, y, z, m, l, h1, h2, h3, h4, h5, h6, rfl⟩
  · exact ⟨[], .tu [.ag [.c (.int .i64 (x)), .c (.int .i64 (y)), .c (.int .i64 (z)), .t (.rows m)], .t (.ints .i64 l)], [], rfl, trivial, ⟨⟨rfl, rfl, rfl, ⟨rfl, rfl⟩, trivial⟩, rfl, trivial⟩, rfl, x, y, z, m, l, h1, h2, h3, h4, h5, h6, rfl⟩
theorem sq_sz {n : Nat} {m : List (List Int)} (h : Sq n m) (hn : n ≤ 17) : SzM m := by
  have h2 := tot_le_mul (m := m) (n := 4) (fun r hr => by rw [h.2 r hr]; omega)
  have : m.length * 4 ≤ 17 * 4 := Nat.mul_le_mul_right 4 (by rw [h.1]; exact hn)
  unfold SzM; omega
theorem smb_sz {m : List (List Int)} (h : SmB m) : SzM m := by
  have h2 := tot_le_mul (m := m) (n := 4) (fun r hr => (h.2 r hr).1)
  have : m.length * 4 ≤ 17 * 4 := Nat.mul_le_mul_right 4 h.1
  unfold SzM; omega
theorem DrawIsMixture_spec (code : List Int) (hc : OkB code) : FSpec Try.prog 37 [.t (.ints .u8 code)] bxS := by
  refine bxW_tell ?_
  refine fspec tyOk mx Try.func37 rfl (by kernel_rfl) rfl ?_
  conv => whnf
  refine ACallS.tmut 1 (sizes_spec code hc 0 0 (by omega)) ?_ rfl (by (repeat' (first | exact trivial | exact rfl | refine And.intro ?_ ?_)) <;> (try first | omega | (simp; done))) (by (repeat' (first | exact trivial | exact rfl | refine And.intro ?_ ?_)) <;> (try first | omega | (simp; done)))
  rintro v r ⟨x, y, a1, s1, rfl, hx, hy, e1, g1, rfl⟩
  conv => whnf
  refine ACallS.tmut 1 (shares3_spec code hc a1 s1 (by omega) x y) ?_ rfl (by (repeat' (first | exact trivial | exact rfl | refine And.intro ?_ ?_)) <;> (try first | omega | (simp; done))) (by (repeat' (first | exact trivial | exact rfl | refine And.intro ?_ ?_)) <;> (try first | omega | (simp; done)))
  rintro v r ⟨l, a2, s2, rfl, hl, hv, e2, g2, rfl⟩
  have kl : SzI l := by unfold SzI; omega
  conv => whnf
  refine ACall.use (l3Shares_spec x y l kl) ?_
  conv => whnf
  refine ⟨fun h => ?_, fun h => ?_⟩
  · have h : shOk x y l = true := by simpa using h
    conv => whnf
    refine ACallS.tmut 1 (one_spec code hc a2 s2 (by omega) 3 (by omega) (by omega)) ?_ rfl (by (repeat' (first | exact trivial | exact rfl | refine And.intro ?_ ?_)) <;> (try first | omega | (simp; done))) (by (repeat' (first | exact trivial | exact rfl | refine And.intro ?_ ?_)) <;> (try first | omega | (simp; done)))
    rintro v r ⟨c, a3, s3, rfl, e3, g3, rfl⟩
    conv => whnf
    refine ⟨fun h4 => ?_, fun h4 => ?_⟩
    · obtain ⟨nx, ny, rfl, rfl, x1, x3, y1, y3, ll, lv, ls⟩ := shOk_spec h
      have hn : nx * ny ≤ 3 * 3 := Nat.mul_le_mul x3 y3
      conv => whnf
      refine ACall.use (l3Mixture_spec nx ny l x3 y3 y1 ll) ?_
      conv => whnf
      exact .inr ⟨nx, ny, _, _, l, hx, hy, by unfold InR; omega, sq_sz (Sq.mix l nx ny _) (by omega), hl, hv, rfl, rfl⟩
    · conv => whnf
      refine ACallS.tmut 1 (box_spec code hc a3 s3 (by omega)) ?_ rfl (by (repeat' (first | exact trivial | exact rfl | refine And.intro ?_ ?_)) <;> (try first | omega | (simp; done))) (by (repeat' (first | exact trivial | exact rfl | refine And.intro ?_ ?_)) <;> (try first | omega | (simp; done)))
      rintro v r ⟨x', y', z', m', a4, s4, rfl, hx', hy', hz', hm', _, _, rfl⟩
      conv => whnf
      exact .inl ⟨rfl, x', y', z', m', l, hx', hy', hz', smb_sz hm', hl, hv, rfl⟩
  · conv => whnf
    refine ⟨fun h' => absurd h' (by decide), fun _ => ?_⟩
    conv => whnf
    refine ACallS.tmut 1 (box_spec code hc a2 s2 (by omega)) ?_ rfl (by (repeat' (first | exact trivial | exact rfl | refine And.intro ?_ ?_)) <;> (try first | omega | (simp; done))) (by (repeat' (first | exact trivial | exact rfl | refine And.intro ?_ ?_)) <;> (try first | omega | (simp; done)))
    rintro v r ⟨x', y', z', m', a4, s4, rfl, hx', hy', hz', hm', _, _, rfl⟩
    conv => whnf
    exact .inl ⟨rfl, x', y', z', m', l, hx', hy', hz', smb_sz hm', hl, hv, rfl⟩
end Go.Proofs.Ytkomndcehdneaaa
/- What the laws compare with. -/
namespace Go.Proofs.Ytkomndcehdneaaa
open Go.Aw
set_option maxRecDepth 100000

theorem vBig_spec (code : List Int) : FSpec Try.prog 9 [.t (.ints .u8 code)] (ex (.c (.bool (decide ((code.length : Int) > 65536)))) []) := by
  refine fspec tyOk mx Try.func9 rfl (by kernel_rfl) rfl ?_
  conv => whnf
  exact ⟨rfl, rfl⟩
theorem rBig_spec (code : List Int) : FSpec Try.prog 46 [.t (.ints .u8 code)] (ex (.c (.bool (decide ((code.length : Int) > 65536)))) []) := by
  refine fspec tyOk mx Try.func46 rfl (by kernel_rfl) rfl ?_
  conv => whnf
  exact ⟨rfl, rfl⟩
theorem vInts_spec (a b : List Int) (h : a.length ≤ 9223372036854775807) :
    FSpec Try.prog 24 [.t (.ints .i64 a), .t (.ints .i64 b)] (ex (.c (.bool (decide (a = b)))) []) := by
  refine fspec tyOk mx Try.func24 rfl (by kernel_rfl) rfl ?_
  refine ⟨fun hl => ?_, fun hl => ?_⟩
  · conv => whnf
    refine ⟨?_, rfl⟩
    rw [decide_eq_false]
    rintro rfl
    simp at hl
  · conv => whnf
    simp only [bne_eq_false_iff_eq, Int.natCast_inj] at hl
    refine aloopI tyOk mx (fun k : Nat => (⟨26, [(0, .t (.ints .i64 a)), (1, .t (.ints .i64 b)), (5, .c (.int .i64 (k : Int)))], [], 0⟩ : St)) (fun k => k ≤ a.length ∧ ∀ j, j < k → a[j]? = b[j]?) (fun k => a.length - k)
      0 ⟨by omega, fun j hj => by omega⟩ none (by refine ⟨rfl, rfl, ?_, ?_⟩ <;> ((repeat' (first | exact trivial | exact rfl | refine And.intro ?_ ?_)) <;> (try ((conv => whnf); first | refine vint ?_ | refine vboo ?_ | refine rint ?_ | refine rrow ?_ | skip)) <;> (try first | omega | (simp; done) | ((repeat rw [flts_closed _ (by assumption)]); exact vws_closed _ (by assumption))))) (fun k hI => ?_)
    obtain ⟨hk, hp⟩ := hI
    refine ⟨fun h => ?_, fun h => ?_⟩
    · conv => whnf
      have hk1 : k < a.length := by simpa using h
      refine ADraw.std tyOk mx ⟨by kernel_rfl, ⟨k, rfl, hk1, k, rfl, by omega, fun h => ?_, fun h => ?_⟩⟩
      · conv => whnf
        refine ⟨?_, rfl⟩
        rw [decide_eq_false]
        rintro rfl
        simp at h
      · conv => whnf
        simp only [bne_eq_false_iff_eq, List.getD_eq_getElem?_getD] at h
        rw [w64 (by omega) (by omega)]
        refine ⟨k + 1, none, (by refine ⟨rfl, rfl, ?_, ?_⟩ <;> ((repeat' (first | exact trivial | exact rfl | refine And.intro ?_ ?_)) <;> (try ((conv => whnf); first | refine vint ?_ | refine vboo ?_ | refine rint ?_ | refine rrow ?_ | skip)) <;> (try first | omega | (simp; done) | ((repeat rw [flts_closed _ (by assumption)]); exact vws_closed _ (by assumption))))), ⟨by omega, fun j hj => ?_⟩, by omega⟩
        by_cases e : j = k
        · subst e
          rw [List.getElem?_eq_getElem hk1, List.getElem?_eq_getElem (by omega)] at h ⊢
          simpa using h
        · exact hp j (by omega)
    · conv => whnf
      refine ⟨?_, rfl⟩
      rw [decide_eq_true]
      have hk1 : ¬ k < a.length := by simpa using h
      refine List.ext_getElem? (fun i => ?_)
      by_cases hi : i < k
      · exact hp i hi
      · rw [List.getElem?_eq_none (by omega), List.getElem?_eq_none (by omega)]
theorem vTable_spec (a b : List (List Int)) (h : a.length ≤ 9223372036854775807) (hr : ∀ r, r ∈ a → r.length ≤ 9223372036854775807) :
    FSpec Try.prog 40 [.t (.rows a), .t (.rows b)] (ex (.c (.bool (decide (a = b)))) []) := by
  refine fspec tyOk mx Try.func40 rfl (by kernel_rfl) rfl ?_
  refine ⟨fun hl => ?_, fun hl => ?_⟩
  · conv => whnf
    refine ⟨?_, rfl⟩
    rw [decide_eq_false]
    rintro rfl
    simp at hl
  · conv => whnf
    simp only [bne_eq_false_iff_eq, Int.natCast_inj] at hl
    refine aloopI tyOk mx (fun k : Nat => (⟨27, [(0, .t (.rows a)), (1, .t (.rows b)), (5, .c (.int .i64 (k : Int)))], [], 0⟩ : St)) (fun k => k ≤ a.length ∧ ∀ j, j < k → a[j]? = b[j]?) (fun k => a.length - k)
      0 ⟨by omega, fun j hj => by omega⟩ none (by refine ⟨rfl, rfl, ?_, ?_⟩ <;> ((repeat' (first | exact trivial | exact rfl | refine And.intro ?_ ?_)) <;> (try ((conv => whnf); first | refine vint ?_ | refine vboo ?_ | refine rint ?_ | refine rrow ?_ | skip)) <;> (try first | omega | (simp; done) | ((repeat rw [flts_closed _ (by assumption)]); exact vws_closed _ (by assumption))))) (fun k hI => ?_)
    obtain ⟨hk, hp⟩ := hI
    refine ⟨fun h => ?_, fun h => ?_⟩
    · conv => whnf
      have hk1 : k < a.length := by simpa using h
      have hkr : (a.getD k []).length ≤ 9223372036854775807 := by
        rw [List.getD_eq_getElem?_getD, List.getElem?_eq_getElem hk1]; exact hr _ (List.getElem_mem hk1)
      refine ADraw.std tyOk mx ⟨by kernel_rfl, k, rfl, hk1, k, rfl, by omega, ?_⟩
      conv => whnf
      refine QCall.use (vInts_spec _ _ hkr) ?_
      conv => whnf
      refine ⟨fun h => ?_, fun h => ?_⟩
      · conv => whnf
        refine ⟨?_, rfl⟩
        rw [decide_eq_false]
        rintro rfl
        simp at h
      · conv => whnf
        simp only [Bool.not_eq_false', decide_eq_true_eq, List.getD_eq_getElem?_getD] at h
        rw [w64 (by omega) (by omega)]
        refine ⟨k + 1, none, (by refine ⟨rfl, rfl, ?_, ?_⟩ <;> ((repeat' (first | exact trivial | exact rfl | refine And.intro ?_ ?_)) <;> (try ((conv => whnf); first | refine vint ?_ | refine vboo ?_ | refine rint ?_ | refine rrow ?_ | skip)) <;> (try first | omega | (simp; done) | ((repeat rw [flts_closed _ (by assumption)]); exact vws_closed _ (by assumption))))), ⟨by omega, fun j hj => ?_⟩, by omega⟩
        by_cases e : j = k
        · subst e
          rw [List.getElem?_eq_getElem hk1, List.getElem?_eq_getElem (by omega)] at h ⊢
          simpa using h
        · exact hp j (by omega)
    · conv => whnf
      refine ⟨?_, rfl⟩
      rw [decide_eq_true]
      have hk1 : ¬ k < a.length := by simpa using h
      refine List.ext_getElem? (fun i => ?_)
      by_cases hi : i < k
      · exact hp i hi
      · rw [List.getElem?_eq_none (by omega), List.getElem?_eq_none (by omega)]
end Go.Proofs.Ytkomndcehdneaaa
/- What a law cuts off its bytes. -/
namespace Go.Proofs.Ytkomndcehdneaaa
open Go.Aw
set_option maxRecDepth 100000
theorem vCut_own (code : List Int) (hc : code.length ≤ 65536) (n : Nat) (hn : n ≤ 100) :
    FSpec Try.prog 16 [.t (.ints .u8 code), .c (.int .i64 (n))] (ex (.own 0) [(0, .ints 5 .u8 (code.drop (min n code.length) ++ [IntKind.u8.wrap ((min n code.length : Nat) : Int)]))]) := by
  refine fspec tyOk mx Try.func16 rfl (by kernel_rfl) rfl ?_
  conv => whnf
  refine ⟨fun h => ?_, fun h => ?_⟩
  · have h := of_decide_eq_true h
    conv => whnf
    refine ⟨code.length, rfl, Nat.le_refl _, ?_⟩
    conv => whnf
    refine ⟨by simp [room], ?_⟩
    conv => whnf
    refine ⟨by simp [room], ?_⟩
    conv => whnf
    have e : min n code.length = code.length := Nat.min_eq_right (by omega)
    refine ⟨rfl, ?_⟩
    rw [e]; rfl
  · have h := of_decide_eq_false h
    conv => whnf
    refine ⟨n, rfl, by omega, ?_⟩
    conv => whnf
    refine ⟨by unfold room; simp; omega, ?_⟩
    conv => whnf
    refine ⟨by unfold room; simp; omega, ?_⟩
    conv => whnf
    have e : min n code.length = n := Nat.min_eq_left (by omega)
    refine ⟨rfl, ?_⟩
    rw [e]; rfl
/-- bytes again -/
theorem vCut_spec (code : List Int) (hb : OkB code) (hc : code.length ≤ 65536) (n : Nat) (hn : n ≤ 100) :
    FSpec Try.prog 16 [.t (.ints .u8 code), .c (.int .i64 (n))] (fun v h => h = [] ∧ ∃ c : List Int, OkB c ∧ v = .t (.ints .u8 c)) := by
  refine (vCut_own code hc n hn).view ?_
  rintro x hr ⟨rfl, rfl⟩
  refine ⟨[], .t (.ints .u8 (code.drop (min n code.length) ++ [IntKind.u8.wrap ((min n code.length : Nat) : Int)])), [], rfl, trivial, ⟨rfl, rfl⟩, rfl, _, ⟨by simp; omega, fun y hy => ?_⟩, rfl⟩
  rcases List.mem_append.1 hy with h | h
  · exact hb.2 y (List.mem_of_mem_drop h)
  · rw [List.mem_singleton] at h
    subst h
    have e : ∀ k : Nat, k ≤ 100 → 0 ≤ IntKind.u8.wrap (k : Int) ∧ IntKind.u8.wrap (k : Int) ≤ 255 := by decide +kernel
    exact e _ (by omega)
end Go.Proofs.Ytkomndcehdneaaa
/- IsQuiet, AgreementsOf: the program. -/
namespace Go.Proofs.Ytkomndcehdneaaa
open Go.Aw
set_option maxRecDepth 100000
set_option maxHeartbeats 4000000

theorem IsQuiet_i (x y z : Int) (m : List (List Int)) (km : SzM m) : FSpec Try.prog 42 [.ag [.c (.int .i64 (x)), .c (.int .i64 (y)), .c (.int .i64 (z)), .t (.rows m)]] (ex (.tu [.c (.bool (quietB x y z m)), .c (.bool (goodB x y z m))]) []) := by
  refine fspec tyOk mx Try.func42 rfl (by kernel_rfl) rfl ?_
  conv => whnf
  refine ACall.use (IsBox_spec x y z m km) ?_
  conv => whnf
  refine ⟨fun h => ?_, fun h => ?_⟩
  · have h : goodB x y z m = false := by simpa using h
    conv => whnf
    exact ⟨by rw [quietB, h]; rfl, rfl⟩
  · have h : goodB x y z m = true := by simpa using h
    conv => whnf
    refine ACall.use (isQuiet_spec x y z m km) ?_
    conv => whnf
    exact ⟨by rw [h], rfl⟩
def agOf (x y z : Int) (m : List (List Int)) : List Int := if goodB x y z m then m.map agr else []
theorem AgreementsOf_i (x y z : Int) (m : List (List Int)) (km : SzM m) : FSpec Try.prog 114 [.ag [.c (.int .i64 (x)), .c (.int .i64 (y)), .c (.int .i64 (z)), .t (.rows m)]] (ex (.tu [.own 0, .c (.bool (goodB x y z m))]) [(0, .ints 3 .i64 (agOf x y z m))]) := by
  refine view_ints ?_
  refine fspec tyOk mx Try.func114 rfl (by kernel_rfl) rfl ?_
  conv => whnf
  refine ACall.use (IsBox_spec x y z m km) ?_
  conv => whnf
  refine ⟨fun h => ?_, fun h => ?_⟩
  · have h : goodB x y z m = false := by simpa using h
    conv => whnf
    exact .inl ⟨h, rfl, rfl⟩
  · have h : goodB x y z m = true := by simpa using h
    obtain ⟨_, _, _, _, _, _, _, _, _, _, hml, hab, hr⟩ := goodB_spec h
    conv => whnf
    have hlen : m.length ≤ 9 := by omega
    refine aloopI tyOk mx (fun k : Nat => (⟨25, [(4, .own 1), (12, .t (.rows m)), (13, .c (.int .i64 (m.length))), (14, .c (.int .i64 (k)))], [(0, .cells 53 [.c (.int .i64 (x)), .c (.int .i64 (y)), .c (.int .i64 (z)), .t (.rows m)]), (1, .ints 3 .i64 ((m.take k).map agr))], 2⟩ : St)) (fun k => k ≤ m.length) (fun k => m.length - k) 0 (Nat.zero_le _) none (by refine ⟨rfl, rfl, ?_, ?_⟩ <;> ((repeat' (first | exact trivial | exact rfl | refine And.intro ?_ ?_)) <;> (try ((conv => whnf); first | refine vint ?_ | refine vboo ?_ | refine rint ?_ | refine rrow ?_ | skip)) <;> (try first | omega | (simp; done) | ((repeat rw [flts_closed _ (by assumption)]); exact vws_closed _ (by assumption))))) (fun k hk => ?_)
    refine ⟨fun h2 => ?_, fun h2 => ?_⟩
    · have h2 : k < m.length := by have := ltT h2; omega
      have h4 := (hr _ (getD_mem (d := []) h2)).1
      conv => whnf
      refine ⟨k, rfl, h2, ?_⟩
      conv => whnf
      refine ACall.use (agreement_spec _ h4) ?_
      conv => whnf
      refine ⟨by simp [room]; omega, ?_⟩
      conv => whnf
      rw [nat_wrap (by omega)]
      have e : (m.take k).map agr ++ [agr (m.getD k [])] = (m.take (k + 1)).map agr := by
        rw [List.take_add_one, List.getElem?_eq_getElem h2, List.map_append, List.getD_eq_getElem?_getD, List.getElem?_eq_getElem h2]; rfl
      refine ⟨k + 1, none, ?_, by omega, by omega⟩
      (refine ⟨rfl, rfl, ?_, ?_⟩ <;> ((repeat' (first | exact trivial | exact rfl | refine And.intro ?_ ?_)) <;> (try ((conv => whnf); first | refine vint ?_ | refine vboo ?_ | refine rint ?_ | refine rrow ?_ | skip)) <;> (try first | omega | (simp; done) | ((repeat rw [flts_closed _ (by assumption)]); exact vws_closed _ (by assumption)))))
      exact e
    · have h2 : ¬ k < m.length := by have := ltF h2; omega
      conv => whnf
      refine .inr ⟨h, rfl, ?_⟩
      rw [List.take_of_length_le (by omega)]
end Go.Proofs.Ytkomndcehdneaaa
/- What the laws compare with (the other half's helpers). -/
namespace Go.Proofs.Ytkomndcehdneaaa
open Go.Aw
set_option maxRecDepth 100000

theorem rInts_spec (a b : List Int) (h : a.length ≤ 9223372036854775807) :
    FSpec Try.prog 75 [.t (.ints .i64 a), .t (.ints .i64 b)] (ex (.c (.bool (decide (a = b)))) []) := by
  refine fspec tyOk mx Try.func75 rfl (by kernel_rfl) rfl ?_
  refine ⟨fun hl => ?_, fun hl => ?_⟩
  · conv => whnf
    refine ⟨?_, rfl⟩
    rw [decide_eq_false]
    rintro rfl
    simp at hl
  · conv => whnf
    simp only [bne_eq_false_iff_eq, Int.natCast_inj] at hl
    refine aloopI tyOk mx (fun k : Nat => (⟨26, [(0, .t (.ints .i64 a)), (1, .t (.ints .i64 b)), (5, .c (.int .i64 (k : Int)))], [], 0⟩ : St)) (fun k => k ≤ a.length ∧ ∀ j, j < k → a[j]? = b[j]?) (fun k => a.length - k)
      0 ⟨by omega, fun j hj => by omega⟩ none (by refine ⟨rfl, rfl, ?_, ?_⟩ <;> ((repeat' (first | exact trivial | exact rfl | refine And.intro ?_ ?_)) <;> (try ((conv => whnf); first | refine vint ?_ | refine vboo ?_ | refine rint ?_ | refine rrow ?_ | skip)) <;> (try first | omega | (simp; done) | ((repeat rw [flts_closed _ (by assumption)]); exact vws_closed _ (by assumption))))) (fun k hI => ?_)
    obtain ⟨hk, hp⟩ := hI
    refine ⟨fun h => ?_, fun h => ?_⟩
    · conv => whnf
      have hk1 : k < a.length := by simpa using h
      refine ADraw.std tyOk mx ⟨by kernel_rfl, ⟨k, rfl, hk1, k, rfl, by omega, fun h => ?_, fun h => ?_⟩⟩
      · conv => whnf
        refine ⟨?_, rfl⟩
        rw [decide_eq_false]
        rintro rfl
        simp at h
      · conv => whnf
        simp only [bne_eq_false_iff_eq, List.getD_eq_getElem?_getD] at h
        rw [w64 (by omega) (by omega)]
        refine ⟨k + 1, none, (by refine ⟨rfl, rfl, ?_, ?_⟩ <;> ((repeat' (first | exact trivial | exact rfl | refine And.intro ?_ ?_)) <;> (try ((conv => whnf); first | refine vint ?_ | refine vboo ?_ | refine rint ?_ | refine rrow ?_ | skip)) <;> (try first | omega | (simp; done) | ((repeat rw [flts_closed _ (by assumption)]); exact vws_closed _ (by assumption))))), ⟨by omega, fun j hj => ?_⟩, by omega⟩
        by_cases e : j = k
        · subst e
          rw [List.getElem?_eq_getElem hk1, List.getElem?_eq_getElem (by omega)] at h ⊢
          simpa using h
        · exact hp j (by omega)
    · conv => whnf
      refine ⟨?_, rfl⟩
      rw [decide_eq_true]
      have hk1 : ¬ k < a.length := by simpa using h
      refine List.ext_getElem? (fun i => ?_)
      by_cases hi : i < k
      · exact hp i hi
      · rw [List.getElem?_eq_none (by omega), List.getElem?_eq_none (by omega)]
theorem rTable_spec (a b : List (List Int)) (h : a.length ≤ 9223372036854775807) (hr : ∀ r, r ∈ a → r.length ≤ 9223372036854775807) :
    FSpec Try.prog 81 [.t (.rows a), .t (.rows b)] (ex (.c (.bool (decide (a = b)))) []) := by
  refine fspec tyOk mx Try.func81 rfl (by kernel_rfl) rfl ?_
  refine ⟨fun hl => ?_, fun hl => ?_⟩
  · conv => whnf
    refine ⟨?_, rfl⟩
    rw [decide_eq_false]
    rintro rfl
    simp at hl
  · conv => whnf
    simp only [bne_eq_false_iff_eq, Int.natCast_inj] at hl
    refine aloopI tyOk mx (fun k : Nat => (⟨27, [(0, .t (.rows a)), (1, .t (.rows b)), (5, .c (.int .i64 (k : Int)))], [], 0⟩ : St)) (fun k => k ≤ a.length ∧ ∀ j, j < k → a[j]? = b[j]?) (fun k => a.length - k)
      0 ⟨by omega, fun j hj => by omega⟩ none (by refine ⟨rfl, rfl, ?_, ?_⟩ <;> ((repeat' (first | exact trivial | exact rfl | refine And.intro ?_ ?_)) <;> (try ((conv => whnf); first | refine vint ?_ | refine vboo ?_ | refine rint ?_ | refine rrow ?_ | skip)) <;> (try first | omega | (simp; done) | ((repeat rw [flts_closed _ (by assumption)]); exact vws_closed _ (by assumption))))) (fun k hI => ?_)
    obtain ⟨hk, hp⟩ := hI
    refine ⟨fun h => ?_, fun h => ?_⟩
    · conv => whnf
      have hk1 : k < a.length := by simpa using h
      have hkr : (a.getD k []).length ≤ 9223372036854775807 := by
        rw [List.getD_eq_getElem?_getD, List.getElem?_eq_getElem hk1]; exact hr _ (List.getElem_mem hk1)
      refine ADraw.std tyOk mx ⟨by kernel_rfl, k, rfl, hk1, k, rfl, by omega, ?_⟩
      conv => whnf
      refine QCall.use (rInts_spec _ _ hkr) ?_
      conv => whnf
      refine ⟨fun h => ?_, fun h => ?_⟩
      · conv => whnf
        refine ⟨?_, rfl⟩
        rw [decide_eq_false]
        rintro rfl
        simp at h
      · conv => whnf
        simp only [Bool.not_eq_false', decide_eq_true_eq, List.getD_eq_getElem?_getD] at h
        rw [w64 (by omega) (by omega)]
        refine ⟨k + 1, none, (by refine ⟨rfl, rfl, ?_, ?_⟩ <;> ((repeat' (first | exact trivial | exact rfl | refine And.intro ?_ ?_)) <;> (try ((conv => whnf); first | refine vint ?_ | refine vboo ?_ | refine rint ?_ | refine rrow ?_ | skip)) <;> (try first | omega | (simp; done) | ((repeat rw [flts_closed _ (by assumption)]); exact vws_closed _ (by assumption))))), ⟨by omega, fun j hj => ?_⟩, by omega⟩
        by_cases e : j = k
        · subst e
          rw [List.getElem?_eq_getElem hk1, List.getElem?_eq_getElem (by omega)] at h ⊢
          simpa using h
        · exact hp j (by omega)
    · conv => whnf
      refine ⟨?_, rfl⟩
      rw [decide_eq_true]
      have hk1 : ¬ k < a.length := by simpa using h
      refine List.ext_getElem? (fun i => ?_)
      by_cases hi : i < k
      · exact hp i hi
      · rw [List.getElem?_eq_none (by omega), List.getElem?_eq_none (by omega)]
theorem rBox_spec (x y z : Int) (m m' : List (List Int)) (hm : m.length ≤ 9223372036854775807) (hr : ∀ r, r ∈ m → r.length ≤ 9223372036854775807) :
    FSpec Try.prog 50 [.ag [.c (.int .i64 (x)), .c (.int .i64 (y)), .c (.int .i64 (z)), .t (.rows m)], .ag [.c (.int .i64 (x)), .c (.int .i64 (y)), .c (.int .i64 (z)), .t (.rows m')]] (ex (.c (.bool (decide (m = m')))) []) := by
  refine fspec tyOk mx Try.func50 rfl (by kernel_rfl) rfl ?_
  conv => whnf
  refine ⟨fun _ => ?_, fun h => absurd h (by simp)⟩
  conv => whnf
  refine ⟨fun _ => ?_, fun h => absurd h (by simp)⟩
  conv => whnf
  refine ⟨fun _ => ?_, fun h => absurd h (by simp)⟩
  conv => whnf
  refine ACall.use (rTable_spec m m' hm hr) ?_
  conv => whnf
  exact ⟨rfl, rfl⟩
theorem vBox_spec (x y z : Int) (m m' : List (List Int)) (hm : m.length ≤ 9223372036854775807) (hr : ∀ r, r ∈ m → r.length ≤ 9223372036854775807) :
    FSpec Try.prog 41 [.ag [.c (.int .i64 (x)), .c (.int .i64 (y)), .c (.int .i64 (z)), .t (.rows m)], .ag [.c (.int .i64 (x)), .c (.int .i64 (y)), .c (.int .i64 (z)), .t (.rows m')]] (ex (.c (.bool (decide (m = m')))) []) := by
  refine fspec tyOk mx Try.func41 rfl (by kernel_rfl) rfl ?_
  conv => whnf
  refine ⟨fun _ => ?_, fun h => absurd h (by simp)⟩
  conv => whnf
  refine ⟨fun _ => ?_, fun h => absurd h (by simp)⟩
  conv => whnf
  refine ⟨fun _ => ?_, fun h => absurd h (by simp)⟩
  conv => whnf
  refine ACall.use (vTable_spec m m' hm hr) ?_
  conv => whnf
  exact ⟨rfl, rfl⟩
theorem rGame_spec (x y : Int) (s s' : List Int) (m m' : List (List Int)) (hs : s.length ≤ 9223372036854775807) (hm : m.length ≤ 9223372036854775807) (hr : ∀ r, r ∈ m → r.length ≤ 9223372036854775807) :
    FSpec Try.prog 90 [.ag [.c (.int .i64 (x)), .c (.int .i64 (y)), .t (.ints .i64 s), .t (.rows m)], .ag [.c (.int .i64 (x)), .c (.int .i64 (y)), .t (.ints .i64 s'), .t (.rows m')]] (ex (.c (.bool (decide (s = s') && decide (m = m')))) []) := by
  refine fspec tyOk mx Try.func90 rfl (by kernel_rfl) rfl ?_
  conv => whnf
  refine ⟨fun _ => ?_, fun h => absurd h (by simp)⟩
  conv => whnf
  refine ⟨fun _ => ?_, fun h => absurd h (by simp)⟩
  conv => whnf
  refine ACall.use (rInts_spec s s' hs) ?_
  conv => whnf
  refine ⟨fun h => ?_, fun h => ?_⟩
  · conv => whnf
    refine ACall.use (rTable_spec m m' hm hr) ?_
    conv => whnf
    exact ⟨by rw [h, Bool.true_and], rfl⟩
  · conv => whnf
    exact ⟨by rw [h, Bool.false_and], rfl⟩
end Go.Proofs.Ytkomndcehdneaaa
