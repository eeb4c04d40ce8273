/- Draws of functionals. -/
import Derived.Test.YtkomndcehdneaaaGreatM10
import Derived.Test.YtkomndcehdneaaaGreatM3
namespace Go.Proofs.YtkomndcehdneaaaGreat
open Go.Aw
set_option maxRecDepth 100000
set_option maxHeartbeats 4000000

theorem cut34u {z : Int} (h0 : 0 ≤ z) (h1 : z < max 2 1) : ∃ h : Nat, IntKind.i64.wrap (3 + z) = h ∧ h ≤ 4 := ⟨(3 + z).toNat, by rw [w64 (by omega) (by omega)]; omega, by omega⟩
/-- a list of the method's own -/
def listO (code : List Int) (a k : Nat) : AVal → List (Nat × ARow) → ARow → Prop := fun v h r =>
  ∃ (l : List Int) (a' : Nat) (s' : Int), (l.length ≤ 4 ∧ ∀ v, v ∈ l → InR v) ∧ v = .own 0 ∧ h = [(0, .ints 3 .i64 l)] ∧ a ≤ a' ∧ a' ≤ a + k ∧ r = cur code a' s'
theorem numbers_spec (code : List Int) (hc : OkB code) (a : Nat) (s : Int) (ha : a ≤ 800000000) : OSpec Tryz.prog 154 (cur code a s) [.ptr 0 0] (listO code a 8) := by
  refine ospec tyOk mx Tryz.func154 rfl (by kernel_rfl) rfl rfl ?_
  conv => whnf
  refine ACallS.inline tyOk mx Tryz.func151 rfl (by kernel_rfl) rfl ?_
  conv => whnf
  refine ACallS.tmut 0 (pick_spec code hc a s (by omega) 3 (by omega) (by omega)) ?_ rfl (by (repeat' (first | exact trivial | exact rfl | refine And.intro ?_ ?_)) <;> (try first | omega | (simp; done))) (by (repeat' (first | exact trivial | exact rfl | refine And.intro ?_ ?_)) <;> (try first | omega | (simp; done)))
  rintro v r ⟨y, a1, s1, rfl, y0, y1, e_a1, g_a1, rfl⟩
  conv => whnf
  obtain ⟨i, rfl, hi⟩ := nat_of (len := 3) y0 (by omega)
  refine ⟨i, rfl, hi, ?_⟩
  conv => whnf
  have h_x : 0 ≤ ((((List.replicate 3 (0 : Int)).set 0 99).set 1 100).set 2 0).getD i 0 ∧ ((((List.replicate 3 (0 : Int)).set 0 99).set 1 100).set 2 0).getD i 0 ≤ 100 := among_in (by kernel_rfl) hi
  generalize ((((List.replicate 3 (0 : Int)).set 0 99).set 1 100).set 2 0).getD i 0 = x at h_x ⊢
  refine ⟨rfl, ?_⟩
  conv => whnf
  clear y0 y1 hi
  refine ACallS.inline tyOk mx Tryz.func151 rfl (by kernel_rfl) rfl ?_
  conv => whnf
  refine ACallS.tmut 0 (pick_spec code hc a1 s1 (by omega) 3 (by omega) (by omega)) ?_ rfl (by (repeat' (first | exact trivial | exact rfl | refine And.intro ?_ ?_)) <;> (try first | omega | (simp; done))) (by (repeat' (first | exact trivial | exact rfl | refine And.intro ?_ ?_)) <;> (try first | omega | (simp; done)))
  rintro v r ⟨y, a2, s2, rfl, y0, y1, e_a2, g_a2, rfl⟩
  conv => whnf
  obtain ⟨i, rfl, hi⟩ := nat_of (len := 3) y0 (by omega)
  refine ⟨i, rfl, hi, ?_⟩
  conv => whnf
  have h_y : -100 ≤ ((((List.replicate 3 (0 : Int)).set 0 (-99)).set 1 (-100)).set 2 0).getD i 0 ∧ ((((List.replicate 3 (0 : Int)).set 0 (-99)).set 1 (-100)).set 2 0).getD i 0 ≤ 0 := among_in (by kernel_rfl) hi
  generalize ((((List.replicate 3 (0 : Int)).set 0 (-99)).set 1 (-100)).set 2 0).getD i 0 = y at h_y ⊢
  refine ⟨rfl, ?_⟩
  conv => whnf
  clear y0 y1 hi
  refine ACallS.inline tyOk mx Tryz.func151 rfl (by kernel_rfl) rfl ?_
  conv => whnf
  refine ACallS.tmut 0 (pick_spec code hc a2 s2 (by omega) 2 (by omega) (by omega)) ?_ rfl (by (repeat' (first | exact trivial | exact rfl | refine And.intro ?_ ?_)) <;> (try first | omega | (simp; done))) (by (repeat' (first | exact trivial | exact rfl | refine And.intro ?_ ?_)) <;> (try first | omega | (simp; done)))
  rintro v r ⟨y, a3, s3, rfl, y0, y1, e_a3, g_a3, rfl⟩
  conv => whnf
  obtain ⟨i, rfl, hi⟩ := nat_of (len := 2) y0 (by omega)
  refine ⟨i, rfl, hi, ?_⟩
  conv => whnf
  have h_z : 0 ≤ (((List.replicate 2 (0 : Int)).set 0 0).set 1 4611686018427387904).getD i 0 ∧ (((List.replicate 2 (0 : Int)).set 0 0).set 1 4611686018427387904).getD i 0 ≤ 4611686018427387904 := among_in (by kernel_rfl) hi
  generalize (((List.replicate 2 (0 : Int)).set 0 0).set 1 4611686018427387904).getD i 0 = z at h_z ⊢
  refine ⟨rfl, ?_⟩
  conv => whnf
  clear y0 y1 hi
  refine ACallS.tmut 0 (pick_spec code hc a3 s3 (by omega) 2 (by omega) (by omega)) ?_ rfl (by (repeat' (first | exact trivial | exact rfl | refine And.intro ?_ ?_)) <;> (try first | omega | (simp; done))) (by (repeat' (first | exact trivial | exact rfl | refine And.intro ?_ ?_)) <;> (try first | omega | (simp; done)))
  rintro v r ⟨c, a4, s4, rfl, l_c, u_c, e_a4, g_a4, rfl⟩
  conv => whnf
  obtain ⟨n, en, hn⟩ := cut34u l_c u_c
  refine ⟨n, en, hn, ?_⟩
  conv => whnf
  have h4 := set4 (set4 (set4 (set4 rep4 0 (show InR x by unfold InR; omega)) 1 (show InR y by unfold InR; omega)) 2 inr0) 3 (show InR z by unfold InR; omega)
  exact ⟨_, a4, s4, ⟨by rw [List.length_take]; have := h4.1; omega, fun v hv => h4.2 v (List.mem_of_mem_take hv)⟩, rfl, rfl, by omega, by omega, rfl⟩

/-- a drawn functional -/
def drawnF (code : List Int) (a k : Nat) (v : AVal) (r : ARow) : Prop :=
  ∃ (f : List (List Int)) (a' : Nat) (s' : Int), v = .t (.rows f) ∧ SmB f ∧ a ≤ a' ∧ a' ≤ a + k ∧ r = cur code a' s'
theorem fnDraw_spec (code : List Int) (hc : OkB code) (a : Nat) (s : Int) (ha : a ≤ 700000000) (x y : Int) :
    TSpec Tryz.prog 77 (cur code a s) [.ptr 0 0, .c (.int .i64 (x)), .c (.int .i64 (y))] (drawnF code a 1000) := by
  have nxy : near x * near y ≤ 4 * 4 := Nat.mul_le_mul (near_le x) (near_le y)
  generalize hN : near x * near y = N at nxy
  have eN : IntKind.i64.wrap ((near x : Int) * (near y : Int)) = (N : Int) := by rw [← Int.natCast_mul, hN]; exact w64 (by omega) (by omega)
  refine tspec tyOk mx Tryz.func77 rfl (by kernel_rfl) rfl rfl ?_
  conv => whnf
  refine aloopI tyOk mx (fun i : List (List Int) × Nat × Int => (⟨52, [(0, .ptr 0 0), (1, .c (.int .i64 (x))), (2, .c (.int .i64 (y))), (7, .own 1), (8, .c (.int .i64 (i.1.length))), (52, .ptr 0 0)], [(0, cur code i.2.1 i.2.2), (1, .rows 38 3 true i.1)], 2⟩ : St)) (fun i => i.1.length ≤ N ∧ R4 i.1 ∧ a ≤ i.2.1 ∧ i.2.1 ≤ a + 8 * i.1.length) (fun i => N - i.1.length) ([], a, s) ⟨by simp, R4.nil, by simp only; omega, by simp only; omega⟩ none (by refine ⟨rfl, rfl, ?_, ?_⟩ <;> ((repeat' (first | exact trivial | exact rfl | refine And.intro ?_ ?_)) <;> (try ((conv => whnf); first | refine vint ?_ | refine vboo ?_ | refine rint ?_ | refine rrow ?_ | skip)) <;> (try first | omega | (simp; done) | ((repeat rw [flts_closed _ (by assumption)]); exact vws_closed _ (by assumption))))) (fun i hi => ?_)
  obtain ⟨m, a2, s2⟩ := i
  obtain ⟨h1, h2, h3, h4⟩ := hi
  simp only at h1 h2 h3 h4
  dsimp only
  conv => whnf
  refine ACall.use (l2Near_spec _) ?_
  conv => whnf
  refine ACall.use (l2Near_spec _) ?_
  conv => whnf
  rw [eN]
  refine ⟨fun h => ?_, fun h => ?_⟩
  · have h := ltT h
    conv => whnf
    refine aloopI tyOk mx (fun j : List Int × Nat × Int => (⟨52, [(0, .ptr 0 0), (1, .c (.int .i64 (x))), (2, .c (.int .i64 (y))), (7, .own 1), (8, .c (.int .i64 (m.length))), (9, .own 2), (10, .c (.int .i64 (j.1.length))), (52, .ptr 0 0)], [(0, cur code j.2.1 j.2.2), (1, .rows 38 3 true m), (2, .ints 3 .i64 j.1)], 3⟩ : St)) (fun j => j.1.length ≤ 4 ∧ (∀ v, v ∈ j.1 → InR v) ∧ a2 ≤ j.2.1 ∧ j.2.1 ≤ a2 + 2 * j.1.length) (fun j => 4 - j.1.length) ([], a2, s2) ⟨by simp, by simp, by simp only; omega, by simp only; omega⟩ none (by refine ⟨rfl, rfl, ?_, ?_⟩ <;> ((repeat' (first | exact trivial | exact rfl | refine And.intro ?_ ?_)) <;> (try ((conv => whnf); first | refine vint ?_ | refine vboo ?_ | refine rint ?_ | refine rrow ?_ | skip)) <;> (try first | omega | (simp; done) | ((repeat rw [flts_closed _ (by assumption)]); exact vws_closed _ (by assumption))))) (fun j hj => ?_)
    obtain ⟨l, a3, s3⟩ := j
    obtain ⟨j1, j2, j3, j4⟩ := hj
    simp only at j1 j2 j3 j4
    dsimp only
    refine ⟨fun h5 => ?_, fun h5 => ?_⟩
    · have h5 : l.length < 4 := by have := of_decide_eq_true h5; omega
      conv => whnf
      refine ACallS.tmut 0 (pick_spec code hc a3 s3 (by omega) 9 (by omega) (by omega)) ?_ rfl (by (repeat' (first | exact trivial | exact rfl | refine And.intro ?_ ?_)) <;> (try first | omega | (simp; done))) (by (repeat' (first | exact trivial | exact rfl | refine And.intro ?_ ?_)) <;> (try first | omega | (simp; done)))
      rintro v r ⟨u, a4, s4, rfl, l_u, u_u, e_a4, g_a4, rfl⟩
      conv => whnf
      refine ⟨by simp [room]; omega, ?_⟩
      conv => whnf
      rw [nat_wrap (by omega)]
      refine ⟨(l ++ [_], a4, s4), none, (by refine ⟨rfl, rfl, ?_, ?_⟩ <;> ((repeat' (first | exact trivial | exact rfl | refine And.intro ?_ ?_)) <;> (try ((conv => whnf); first | refine vint ?_ | refine vboo ?_ | refine rint ?_ | refine rrow ?_ | skip)) <;> (try first | omega | (simp; done) | ((repeat rw [flts_closed _ (by assumption)]); exact vws_closed _ (by assumption))))), ⟨by simp only [List.length_append, List.length_singleton]; omega, fun v hv => ?_, by simp only; omega, by simp only [List.length_append, List.length_singleton]; omega⟩, by simp only [List.length_append, List.length_singleton]; omega⟩
      rcases List.mem_append.1 hv with h | h
      · exact j2 v h
      · rw [List.mem_singleton] at h; rw [h]; exact W_inr _
    · have h5 : ¬ l.length < 4 := by have := of_decide_eq_false h5; omega
      conv => whnf
      refine ⟨by simp [room]; omega, ?_⟩
      conv => whnf
      rw [nat_wrap (by omega)]
      exact ⟨(m ++ [l], a3, s3), none, (by refine ⟨rfl, rfl, ?_, ?_⟩ <;> ((repeat' (first | exact trivial | exact rfl | refine And.intro ?_ ?_)) <;> (try ((conv => whnf); first | refine vint ?_ | refine vboo ?_ | refine rint ?_ | refine rrow ?_ | skip)) <;> (try first | omega | (simp; done) | ((repeat rw [flts_closed _ (by assumption)]); exact vws_closed _ (by assumption))))), ⟨by simp only [List.length_append, List.length_singleton]; omega, R4.app h2 ⟨by omega, j2⟩, by simp only; omega, by simp only [List.length_append, List.length_singleton]; omega⟩, by simp only [List.length_append, List.length_singleton]; omega⟩
  · have h := ltF h
    have hml : m.length ≤ 16 := by omega
    conv => whnf
    refine ⟨fun hp => ?_, fun hp => ?_⟩
    · have hp : 0 < m.length := by have := of_decide_eq_true hp; omega
      conv => whnf
      refine ACallS.tmut 0 (one_spec code hc a2 s2 (by omega) 30 (by omega) (by omega)) ?_ rfl (by (repeat' (first | exact trivial | exact rfl | refine And.intro ?_ ?_)) <;> (try first | omega | (simp; done))) (by (repeat' (first | exact trivial | exact rfl | refine And.intro ?_ ?_)) <;> (try first | omega | (simp; done)))
      rintro v r ⟨b, a3, s3, rfl, e_a3, g_a3, rfl⟩
      conv => whnf
      refine ⟨fun hb => ?_, fun hb => ?_⟩
      · conv => whnf
        refine ACallS.tmut 0 (pick_spec code hc a3 s3 (by omega) m.length (by omega) (by omega)) ?_ rfl (by (repeat' (first | exact trivial | exact rfl | refine And.intro ?_ ?_)) <;> (try first | omega | (simp; done))) (by (repeat' (first | exact trivial | exact rfl | refine And.intro ?_ ?_)) <;> (try first | omega | (simp; done)))
        rintro v r ⟨k, a4, s4, rfl, l_k, u_k, e_a4, g_a4, rfl⟩
        conv => whnf
        obtain ⟨i, rfl, hi⟩ := nat_of (len := m.length) l_k (by omega)
        refine ACallS.omut 0 (numbers_spec code hc a4 s4 (by omega)) ?_ rfl (by (repeat' (first | exact trivial | exact rfl | refine And.intro ?_ ?_)) <;> (try first | omega | (simp; done))) (by (repeat' (first | exact trivial | exact rfl | refine And.intro ?_ ?_)) <;> (try first | omega | (simp; done)))
        rintro v h r ⟨l, a5, s5, hl, rfl, rfl, e5, g5, rfl⟩
        conv => whnf
        refine ⟨i, rfl, hi, ?_⟩
        conv => whnf
        exact ⟨m.set i l, a5, s5, rfl, h2.smSet rfl hml i hl, by omega, by omega, rfl⟩
      · conv => whnf
        exact ⟨m, a3, s3, rfl, h2.sm rfl hml, by omega, by omega, rfl⟩
    · (repeat (conv => whnf); (first | refine ⟨fun h => absurd h (by decide), fun _ => ?_⟩ | refine ⟨fun _ => ?_, fun h => absurd h (by decide)⟩)); conv => whnf
      exact ⟨m, a2, s2, rfl, h2.sm rfl hml, by omega, by omega, rfl⟩
end Go.Proofs.YtkomndcehdneaaaGreat
/- ExtremeBox, reference and program. -/
namespace Go.Proofs.YtkomndcehdneaaaGreat
open Go.Aw
set_option maxRecDepth 100000
set_option maxHeartbeats 4000000

def exOk (k : Int) : Bool := inR k 0 23
def exR (k : Int) : List (List Int) := if exOk k then exRow k.toNat else []
theorem exOk_nat {k : Int} (h : exOk k = true) : ∃ n : Nat, k = n ∧ n < 24 := by
  have := inR_iff.1 h
  exact ⟨k.toNat, by omega, by omega⟩


theorem ExtremeBox_i (k : Int) (_hk : InR k) : FSpec Tryz.prog 36 [.c (.int .i64 (k))] (ex (.tu [.ag [.c (.int .i64 (if exOk k then 2 else 0)), .c (.int .i64 (if exOk k then 2 else 0)), .c (.int .i64 (if exOk k then 2 else 0)), .own 0], .c (.bool (exOk k))]) [(0, .rows 38 3 true (exR k))]) := by
  refine view_box ?_
  refine fspec tyOk mx Tryz.func36 rfl (by kernel_rfl) rfl ?_
  conv => whnf
  refine ACall.use (within_spec _ _ _) ?_
  refine ⟨fun h => ?_, fun h => ?_⟩
  · have h : exOk k = false := by simpa [exOk] using h
    conv => whnf
    exact .inl ⟨h, rfl, rfl⟩
  · have h : exOk k = true := by simpa [exOk] using h
    obtain ⟨n, rfl, hn⟩ := exOk_nat h
    conv => whnf
    refine ACall.use (extreme_spec n hn) ?_
    conv => whnf
    exact .inr ⟨h, rfl, rfl⟩
theorem ExtremeBox_bd (k : Int) (_hk : InR k) : (exR k).length ≤ 1000000 ∧ tot (exR k) ≤ 1000000 := by
  unfold exR
  split
  · have h1 := exRow_len k.toNat
    have h2 := tot_le_mul (m := exRow k.toNat) (n := 4) (fun q hq => by rw [exRow_rows _ q hq]; omega)
    omega
  · simp [tot]
end Go.Proofs.YtkomndcehdneaaaGreat
