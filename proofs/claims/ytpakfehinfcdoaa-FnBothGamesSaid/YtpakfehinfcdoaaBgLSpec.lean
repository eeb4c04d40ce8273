/- FnBothGames, walked. -/
import Derived.Test.YtpakfehinfcdoaaBothP
import Derived.Test.YtpakfehinfcdoaaCurB
import Derived.Test.YtpakfehinfcdoaaLawL
namespace Go.Proofs.Ytpakfehinfcdoaa
open Go.Aw
set_option maxRecDepth 100000

theorem SmG.ok {ws : List Int} {m : List (List Int)} (h : SmG ws m) : OkI ws ∧ OkM m ∧ SzI ws ∧ SzM m := by
  obtain ⟨h1, h2, h3, h4⟩ := h
  refine ⟨⟨by omega, h2⟩, ⟨by omega, fun r hr => ⟨by have := (h4 r hr).1; omega, (h4 r hr).2⟩⟩, by unfold SzI; omega, ?_⟩
  have k1 := tot_le_mul (m := m) (n := 4) (fun r hr => (h4 r hr).1)
  have : m.length * 4 ≤ 16 * 4 := Nat.mul_le_mul_right 4 h3
  unfold SzM; omega

theorem TotalWeight_i (x y : Int) (s : List Int) (m : List (List Int)) (ks : SzI s) (km : SzM m) :
    FSpec Try.prog 10 [.ag [.c (.int .i64 (x)), .c (.int .i64 (y)), .t (.ints .i64 s), .t (.rows m)]] (ex (.tu [.c (.int .i64 (if goodG x y s m then sumF s s.length else 0)), .c (.bool (goodG x y s m))]) []) := by
  refine fspec tyOk mx Try.func10 rfl (by kernel_rfl) rfl ?_
  conv => whnf
  refine ACall.use (iIsGame_spec x y s m ks km) ?_
  conv => whnf
  refine ⟨fun h => ?_, fun h => ?_⟩
  · have h : goodG x y s m = false := by simpa using h
    conv => whnf
    exact ⟨by rw [h]; rfl, rfl⟩
  · have h : goodG x y s m = true := by simpa using h
    conv => whnf
    refine ACall.use (total_spec s ks) ?_
    conv => whnf
    exact ⟨by rw [h]; rfl, rfl⟩

/-- the law, of what the functions answer -/
theorem bg_plain {x y x' y' : Int} {s s' : List Int} {m m' : List (List Int)} (hok : bothOk x y s m x' y' s' m' = true) :
    bpVal x y s m * bpVal x' y' s' m' ≤ bothV x y s m x' y' s' m' ∧
    bothV x y s m x' y' s' m' ≤ bpVal x y s m * (if goodG x' y' s' m' then sumF s' s'.length else 0) ∧
    bothV x y s m x' y' s' m' ≤ (if goodG x y s m then sumF s s.length else 0) * bpVal x' y' s' m' ∧
    bothV x' y' s' m' x y s m = bothV x y s m x' y' s' m' ∧
    (0 ≤ bothV x y s m x' y' s' m' ∧ bothV x y s m x' y' s' m' ≤ 1000000) ∧
    (0 ≤ bpVal x y s m ∧ bpVal x y s m ≤ 400) ∧ (0 ≤ bpVal x' y' s' m' ∧ bpVal x' y' s' m' ≤ 400) ∧
    (0 ≤ (if goodG x y s m then sumF s s.length else 0) ∧ (if goodG x y s m then sumF s s.length else 0) ≤ 400) ∧
    (0 ≤ (if goodG x' y' s' m' then sumF s' s'.length else 0) ∧ (if goodG x' y' s' m' then sumF s' s'.length else 0) ≤ 400) := by
  have hok0 := hok
  simp only [bothOk, Bool.and_eq_true, decide_eq_true_eq] at hok
  obtain ⟨⟨hg, hh⟩, ⟨⟨h1, h2⟩, h3⟩, h4⟩ := hok
  have hok' : bothOk x' y' s' m' x y s m = true := by
    simp only [bothOk, Bool.and_eq_true, decide_eq_true_eq]
    exact ⟨⟨hh, hg⟩, ⟨⟨h3, h4⟩, h1⟩, h2⟩
  rw [if_pos hg, if_pos hh, bothV, if_pos hok0, bothV, if_pos hok', bpVal, if_pos hg, bpVal, if_pos hh]
  obtain ⟨gx, gy, rfl, rfl, g1, g2, g3, g4, g5, g6, g7, g8, g9, g10⟩ := goodG_spec hg
  obtain ⟨hx, hy, rfl, rfl, k1, k2, k3, k4, k5, k6, k7, k8, k9, k10⟩ := goodG_spec hh
  simp only [Int.toNat_natCast]
  have G : Gm s m := Gm.of g8 g10
  have H : Gm s' m' := Gm.of k8 k10
  have b1 : gx ≤ 2 := by omega
  have b2 : gy ≤ 2 := by omega
  have b3 : hx ≤ 2 := by omega
  have b4 : hy ≤ 2 := by omega
  obtain ⟨p1, p2, p3⟩ := both_law G H g1 g3 k1 k3 b1 b2 b3 b4
  obtain ⟨q1, q2, q3⟩ := both_law H G k1 k3 g1 g3 b3 b4 b1 b2
  have eq := Int.le_antisymm p3 q3
  obtain ⟨_, p, p', _, _, ep⟩ := best_max G g1 g3 b1 b2
  obtain ⟨_, q, q', _, _, eq'⟩ := best_max H k1 k3 b3 b4
  have A := PP_bd G b1 b2 p p'
  have B := PP_bd H b3 b4 q q'
  rw [← ep] at A
  rw [← eq'] at B
  have C := WW_bd (s := s) (m := m) (gx := gx) (gy := gy) G b1 b2
  have D := WW_bd (s := s') (m := m') (gx := hx) (gy := hy) H b3 b4
  rw [WW_sum G g5 (by omega), WW_sum H k5 (by omega)]
  have m1 := Int.mul_nonneg A.1 B.1
  have m2 := Int.mul_le_mul A.2 D.2 D.1 (by omega)
  refine ⟨p1, p2, ?_, eq, ⟨by omega, by omega⟩, A, B, C, D⟩
  rw [← eq, Int.mul_comm]
  exact q2

set_option maxHeartbeats 4000000 in
theorem FnBothGames_spec (code : List Int) (hc : OkB code) : FSpec Try.prog 3 [.t (.ints .u8 code)] (ex (.c (.bool true)) []) := by
  refine fspec tyOk mx Try.func3 rfl (by kernel_rfl) rfl ?_
  conv => whnf
  refine ACall.use (rBig_spec code) ?_
  refine ⟨fun h => ?_, fun h => ?_⟩
  · conv => whnf
    exact ⟨rfl, rfl⟩
  · clear h
    conv => whnf
    refine ACall.use' (DrawBothValue_spec code hc) ?_
    rintro v hr ⟨rfl, x, y, s, m, x', y', s', m', hx, hy, hsm, hx', hy', hsm', rfl⟩
    obtain ⟨os, om, ks, km⟩ := hsm.ok
    obtain ⟨os', om', ks', km'⟩ := hsm'.ok
    conv => whnf
    refine ACall.use (BothValue_i x y s m hx hy os om ks km x' y' s' m' hx' hy' os' om' ks' km') ?_
    conv => whnf
    refine ACall.use (BothValue_s x y s m hx hy os om ks km x' y' s' m' hx' hy' os' om' ks' km') ?_
    conv => whnf
    refine ⟨fun _ => ?_, fun h => absurd h (by simp)⟩
    conv => whnf
    refine ⟨fun h => absurd h (by simp), fun _ => ?_⟩
    conv => whnf
    refine ⟨fun _ => ?_, fun hok => ?_⟩
    · conv => whnf
      exact ⟨rfl, rfl⟩
    · have hok : bothOk x y s m x' y' s' m' = true := by simpa using hok
      have hok' : bothOk x' y' s' m' x y s m = true := by
        simp only [bothOk, Bool.and_eq_true] at hok ⊢
        exact ⟨⟨hok.1.2, hok.1.1⟩, ⟨⟨⟨hok.2.1.2, hok.2.2⟩, hok.2.1.1.1⟩, hok.2.1.1.2⟩⟩
      have hg : goodG x y s m = true := by simp only [bothOk, Bool.and_eq_true] at hok; exact hok.1.1
      have hg' : goodG x' y' s' m' = true := by simp only [bothOk, Bool.and_eq_true] at hok; exact hok.1.2
      obtain ⟨l1, l2, l3, l4, lb, la, la', lw, lw'⟩ := bg_plain hok
      conv => whnf
      refine ACall.use (iBestPlay_spec x y s m ks km) ?_
      conv => whnf
      refine ACall.use (iBestPlay_spec x' y' s' m' ks' km') ?_
      conv => whnf
      refine ACall.use (TotalWeight_i x y s m ks km) ?_
      conv => whnf
      refine ACall.use (TotalWeight_i x' y' s' m' ks' km') ?_
      conv => whnf
      refine ACall.use (BothValue_i x' y' s' m' hx' hy' os' om' ks' km' x y s m hx hy os om ks km) ?_
      conv => whnf
      generalize e1 : bpVal x y s m = A at *
      generalize e2 : bpVal x' y' s' m' = B at *
      generalize e3 : (if goodG x y s m = true then sumF s s.length else 0) = C at *
      generalize e4 : (if goodG x' y' s' m' = true then sumF s' s'.length else 0) = D at *
      have w1 : IntKind.i64.wrap (A * B) = A * B := w64 (by have := Int.mul_nonneg la.1 la'.1; omega) (by omega)
      have w2 : IntKind.i64.wrap (A * D) = A * D := w64 (by omega) (by have := Int.mul_le_mul la.2 lw'.2 lw'.1 (by omega); omega)
      have w3 : IntKind.i64.wrap (C * B) = C * B := w64 (by omega) (by have := Int.mul_le_mul lw.2 la'.2 la'.1 (by omega); omega)
      refine ⟨fun _ => ?_, fun h => absurd h (by simp [hg])⟩
      conv => whnf
      refine ⟨fun _ => ?_, fun h => absurd h (by simp [hg'])⟩
      conv => whnf
      refine ⟨fun _ => ?_, fun h => absurd h (by simp [hg])⟩
      conv => whnf
      refine ⟨fun _ => ?_, fun h => absurd h (by simp [hg'])⟩
      conv => whnf
      refine ⟨fun _ => ?_, fun h => absurd h (by simp [hok'])⟩
      conv => whnf
      refine ⟨fun _ => ?_, fun h => absurd (of_decide_eq_false h) (by rw [w1]; omega)⟩
      conv => whnf
      refine ⟨fun _ => ?_, fun h => absurd (of_decide_eq_false h) (by rw [w2]; omega)⟩
      conv => whnf
      refine ⟨fun _ => ?_, fun h => absurd (of_decide_eq_false h) (by rw [w3]; omega)⟩
      conv => whnf
      refine ⟨?_, rfl⟩
      refine congrArg (fun b => AVal.c (Value.bool b)) ?_
      rw [l4]; simp
end Go.Proofs.Ytpakfehinfcdoaa
