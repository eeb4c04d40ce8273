/- Numbers of questions; sums of lists. -/
import Derived.Test.YtkomndcehdneaaaGreatM2
namespace Go.Aw
def sumF (l : List Int) (n : Nat) : Int := fo (fun s i => W (s + l.getD i 0)) 0 n
theorem sumF_succ (l : List Int) (n : Nat) : sumF l (n + 1) = W (sumF l n + l.getD n 0) := rfl
theorem sumF_bd {l : List Int} (h : ∀ x, x ∈ l → 0 ≤ x ∧ x ≤ 99) (hl : l.length ≤ 1000) : ∀ n, n ≤ l.length → 0 ≤ sumF l n ∧ sumF l n ≤ 99 * n
  | 0, _ => by simp [sumF, fo]
  | n + 1, hn => by
    have h1 := sumF_bd h hl n (by omega)
    have h2 := h (l.getD n 0) (by rw [List.getD_eq_getElem?_getD, List.getElem?_eq_getElem (by omega)]; exact List.getElem_mem _)
    have e : W (sumF l n + l.getD n 0) = sumF l n + l.getD n 0 := w64 (by omega) (by omega)
    rw [sumF_succ, e]
    omega
end Go.Aw
namespace Go.Proofs.YtkomndcehdneaaaGreat
open Go.Aw
set_option maxRecDepth 100000
set_option maxHeartbeats 4000000

theorem inR_iff {x a b : Int} : inR x a b = true ↔ a ≤ x ∧ x ≤ b := by simp [inR]
theorem rowIn_iff {l : List Int} {a b : Int} : rowIn l a b = true ↔ ∀ x, x ∈ l → a ≤ x ∧ x ≤ b := by simp [rowIn, inR]
def szOk (x y : Int) : Bool := inR x 1 3 && inR y 1 3
theorem szOk_nat {x y : Int} (h : szOk x y = true) : ∃ a b : Nat, x = a ∧ y = b ∧ 1 ≤ a ∧ a ≤ 3 ∧ 1 ≤ b ∧ b ≤ 3 ∧ x * y = ((a * b : Nat) : Int) ∧ a * b ≤ 9 := by
  simp only [szOk, Bool.and_eq_true, inR_iff] at h
  obtain ⟨⟨h1, h2⟩, h3, h4⟩ := h
  obtain ⟨a, rfl⟩ : ∃ n : Nat, x = n := ⟨x.toNat, by omega⟩
  obtain ⟨b, rfl⟩ : ∃ n : Nat, y = n := ⟨y.toNat, by omega⟩
  have : a * b ≤ 3 * 3 := Nat.mul_le_mul (by omega) (by omega)
  exact ⟨a, b, rfl, rfl, by omega, by omega, by omega, by omega, by simp, this⟩
theorem szOk_mul {x y : Int} (h : szOk x y = true) : IntKind.i64.wrap (x * y) = x * y := by
  obtain ⟨a, b, rfl, rfl, _, _, _, _, h5, h6⟩ := szOk_nat h
  rw [h5, w64 (by omega) (by omega)]

theorem l2Sizes_spec (x y : Int) : FSpec Tryz.prog 131 [.c (.int .i64 x), .c (.int .i64 y)] (ex (.c (.bool (szOk x y))) []) := by
  refine fspec tyOk mx Tryz.func131 rfl (by kernel_rfl) rfl ?_
  conv => whnf
  refine ACall.use (l1In_spec _ _ _) ?_
  conv => whnf
  refine ⟨fun h => ?_, fun h => ?_⟩
  · conv => whnf
    refine ACall.use (l1In_spec _ _ _) ?_
    conv => whnf
    exact ⟨by rw [szOk, h, Bool.true_and], rfl⟩
  · conv => whnf
    exact ⟨by rw [szOk, h, Bool.false_and], rfl⟩
theorem areQuestions_spec (x y : Int) : FSpec Tryz.prog 130 [.c (.int .i64 x), .c (.int .i64 y)] (ex (.c (.bool (szOk x y))) []) := by
  refine fspec tyOk mx Tryz.func130 rfl (by kernel_rfl) rfl ?_
  conv => whnf
  refine ACall.use (within_spec _ _ _) ?_
  conv => whnf
  refine ⟨fun h => ?_, fun h => ?_⟩
  · conv => whnf
    refine ACall.use (within_spec _ _ _) ?_
    conv => whnf
    exact ⟨by rw [szOk, h, Bool.true_and], rfl⟩
  · conv => whnf
    exact ⟨by rw [szOk, h, Bool.false_and], rfl⟩

theorem total_spec (l : List Int) (hl : l.length ≤ 1048576) : FSpec Tryz.prog 110 [.t (.ints .i64 l)] (ex (.c (.int .i64 (sumF l l.length))) []) := by
  refine fspec tyOk mx Tryz.func110 rfl (by kernel_rfl) rfl ?_
  conv => whnf
  refine aloopI tyOk mx (fun k : Nat => (⟨17, [(3, .c (.int .i64 (sumF l k))), (6, .t (.ints .i64 l)), (7, .c (.int .i64 l.length)), (8, .c (.int .i64 (k)))], [], 0⟩ : St)) (fun k => k ≤ l.length) (fun k => l.length - k) 0 (Nat.zero_le _) none (by refine ⟨rfl, rfl, ?_, ?_⟩ <;> ((repeat' (first | exact trivial | exact rfl | refine And.intro ?_ ?_)) <;> (try ((conv => whnf); first | refine vint ?_ | refine vboo ?_ | refine rint ?_ | refine rrow ?_ | skip)) <;> (try first | omega | (simp; done) | ((repeat rw [flts_closed _ (by assumption)]); exact vws_closed _ (by assumption))))) (fun k hk => ?_)
  refine ⟨fun h => ?_, fun h => ?_⟩
  · have h := ltT h
    conv => whnf
    refine ⟨k, rfl, h, ?_⟩
    conv => whnf
    rw [nat_wrap (by omega)]
    exact ⟨k + 1, none, (by refine ⟨rfl, rfl, ?_, ?_⟩ <;> ((repeat' (first | exact trivial | exact rfl | refine And.intro ?_ ?_)) <;> (try ((conv => whnf); first | refine vint ?_ | refine vboo ?_ | refine rint ?_ | refine rrow ?_ | skip)) <;> (try first | omega | (simp; done) | ((repeat rw [flts_closed _ (by assumption)]); exact vws_closed _ (by assumption))))), by omega, by omega⟩
  · have h := ltF h
    obtain rfl : k = l.length := by omega
    conv => whnf
    exact ⟨rfl, rfl⟩

end Go.Proofs.YtkomndcehdneaaaGreat
/- All plays: reference and program. -/
namespace Go.Aw
def bIx (sc : Nat → Int) : Nat → Nat
  | 0 => 0
  | k + 1 => if sc (k + 1) > sc (bIx sc k) then k + 1 else bIx sc k
theorem bIx_le (sc : Nat → Int) : ∀ k, bIx sc k ≤ k
  | 0 => Nat.le_refl _
  | k + 1 => by have := bIx_le sc k; unfold bIx; split <;> omega
theorem natAdd {a k : Nat} (h : a + k ≤ 1000000) : IntKind.i64.wrap ((a : Int) + (k : Int)) = ((a + k : Nat) : Int) := by rw [w64 (by omega) (by omega)]; omega
theorem natMulAdd {i n k : Nat} (h : i * n + k ≤ 1000000) : IntKind.i64.wrap (IntKind.i64.wrap ((i : Int) * (n : Int)) + (k : Int)) = ((i * n + k : Nat) : Int) := by
  have e : (i : Int) * (n : Int) = ((i * n : Nat) : Int) := by simp
  rw [e, w64 (n := ((i * n : Nat) : Int)) (by omega) (by omega), w64 (by omega) (by omega)]; omega
theorem ix_lt {i k nx ny : Nat} (hi : i < nx) (hk : k < ny) : i * ny + k < nx * ny := by
  have : (i + 1) * ny ≤ nx * ny := Nat.mul_le_mul_right ny hi
  rw [Nat.succ_mul] at this
  omega
def bitAt (n code i : Nat) : Int := bits .and .i64 (shr .i64 code ((n : Int) - 1 - i)) 1
def bitRow (n code : Nat) : List Int := (List.range n).map (bitAt n code)
def playsL (n : Nat) : List (List Int) := (List.range (2 ^ n)).map (bitRow n)
theorem bitAt_01 {n c i : Nat} (hn : n < 7) (hc : c < 64) (hi : i < 6) : 0 ≤ bitAt n c i ∧ bitAt n c i ≤ 1 := by
  have : ∀ n : Nat, n < 7 → ∀ c : Nat, c < 64 → ∀ i : Nat, i < 6 → 0 ≤ bitAt n c i ∧ bitAt n c i ≤ 1 := by decide +kernel
  exact this n hn c hc i hi
theorem playsL_len (n : Nat) : (playsL n).length = 2 ^ n := by simp [playsL]
theorem two_pow6 {n : Nat} (h : n ≤ 6) : 2 ^ n ≤ 64 := by
  have := Nat.pow_le_pow_right (n := 2) (by omega) h
  simpa using this
theorem playsL_row {n x : Nat} (hn : n ≤ 6) (h : x < (playsL n).length) : ((playsL n).getD x []).length = n ∧ ∀ v, v ∈ (playsL n).getD x [] → 0 ≤ v ∧ v ≤ 1 := by
  rw [playsL_len] at h
  have h64 := two_pow6 hn
  rw [playsL, range_getD h]
  refine ⟨by simp [bitRow], fun v hv => ?_⟩
  obtain ⟨i, hi, rfl⟩ := List.mem_map.1 hv
  have hi := List.mem_range.1 hi
  exact bitAt_01 (by omega) (by omega) (by omega)
end Go.Aw
namespace Go.Proofs.YtkomndcehdneaaaGreat
open Go.Aw
set_option maxRecDepth 100000
set_option maxHeartbeats 4000000

theorem l2Plays_spec (nx ny : Nat) (hx : nx + ny ≤ 6) : FSpec Tryz.prog 156 [.c (.int .i64 (nx)), .c (.int .i64 (ny))] (ex (.own 0) [(0, .rows 38 3 true (playsL (nx + ny)))]) := by
  have h2 := two_pow6 hx
  refine fspec tyOk mx Tryz.func156 rfl (by kernel_rfl) rfl ?_
  conv => whnf
  refine aloopI tyOk mx (fun c : Nat => (⟨43, [(0, .c (.int .i64 (nx))), (1, .c (.int .i64 (ny))), (5, .own 0), (6, .c (.int .i64 (c)))], [(0, .rows 38 3 true ((List.range c).map (bitRow (nx + ny))))], 1⟩ : St)) (fun c => c ≤ 2 ^ (nx + ny)) (fun c => 2 ^ (nx + ny) - c) 0 (Nat.zero_le _) none (by refine ⟨rfl, rfl, ?_, ?_⟩ <;> ((repeat' (first | exact trivial | exact rfl | refine And.intro ?_ ?_)) <;> (try ((conv => whnf); first | refine vint ?_ | refine vboo ?_ | refine rint ?_ | refine rrow ?_ | skip)) <;> (try first | omega | (simp; done) | ((repeat rw [flts_closed _ (by assumption)]); exact vws_closed _ (by assumption))))) (fun c hc => ?_)
  conv => whnf
  rw [natAdd (by omega)]
  refine ⟨by omega, fun h => ?_, fun h => ?_⟩
  · rw [shl_one (by omega)] at h
    have hc1 : c < 2 ^ (nx + ny) := Int.ofNat_lt.1 (of_decide_eq_true h)
    conv => whnf
    refine aloopI tyOk mx (fun i : Nat => (⟨43, [(0, .c (.int .i64 (nx))), (1, .c (.int .i64 (ny))), (5, .own 0), (6, .c (.int .i64 (c))), (7, .own 1), (8, .c (.int .i64 (i)))], [(0, .rows 38 3 true ((List.range c).map (bitRow (nx + ny)))), (1, .ints 3 .i64 ((List.range i).map (bitAt (nx + ny) c)))], 2⟩ : St)) (fun i => i ≤ nx + ny) (fun i => nx + ny - i) 0 (by omega) none (by refine ⟨rfl, rfl, ?_, ?_⟩ <;> ((repeat' (first | exact trivial | exact rfl | refine And.intro ?_ ?_)) <;> (try ((conv => whnf); first | refine vint ?_ | refine vboo ?_ | refine rint ?_ | refine rrow ?_ | skip)) <;> (try first | omega | (simp; done) | ((repeat rw [flts_closed _ (by assumption)]); exact vws_closed _ (by assumption))))) (fun i hi => ?_)
    refine ⟨fun h => ?_, fun h => ?_⟩
    · rw [natAdd (by omega)] at h
      have hi1 : i < nx + ny := ltT h
      have e1 : IntKind.i64.wrap (IntKind.i64.wrap (IntKind.i64.wrap ((nx : Int) + ny) - 1) - i) = ((nx + ny : Nat) : Int) - 1 - i := by rw [natAdd (by omega), w64 (n := ((nx + ny : Nat) : Int) - 1) (by omega) (by omega), w64 (by omega) (by omega)]
      conv => whnf
      rw [e1]
      refine ⟨by omega, ?_⟩
      conv => whnf
      refine ⟨by simp [room]; omega, ?_⟩
      conv => whnf
      rw [nat_wrap (by omega)]
      refine ⟨i + 1, none, ?_, hi1, by omega⟩
      (refine ⟨rfl, rfl, ?_, ?_⟩ <;> ((repeat' (first | exact trivial | exact rfl | refine And.intro ?_ ?_)) <;> (try ((conv => whnf); first | refine vint ?_ | refine vboo ?_ | refine rint ?_ | refine rrow ?_ | skip)) <;> (try first | omega | (simp; done) | ((repeat rw [flts_closed _ (by assumption)]); exact vws_closed _ (by assumption)))))
      rw [← map_range_succ]; rfl
    · rw [natAdd (by omega)] at h
      have hi1 : ¬ i < nx + ny := ltF h
      obtain rfl : i = nx + ny := by omega
      conv => whnf
      refine ⟨by simp [room]; omega, ?_⟩
      conv => whnf
      rw [nat_wrap (by omega)]
      refine ⟨c + 1, none, ?_, hc1, by omega⟩
      (refine ⟨rfl, rfl, ?_, ?_⟩ <;> ((repeat' (first | exact trivial | exact rfl | refine And.intro ?_ ?_)) <;> (try ((conv => whnf); first | refine vint ?_ | refine vboo ?_ | refine rint ?_ | refine rrow ?_ | skip)) <;> (try first | omega | (simp; done) | ((repeat rw [flts_closed _ (by assumption)]); exact vws_closed _ (by assumption)))))
      rw [← map_range_succ]; rfl
  · rw [shl_one (by omega)] at h
    have hc1 : 2 ^ (nx + ny) ≤ c := Nat.not_lt.1 fun hh => of_decide_eq_false h (Int.ofNat_lt.2 hh)
    obtain rfl : c = 2 ^ (nx + ny) := by omega
    conv => whnf
    exact ⟨rfl, rfl⟩

theorem plays_spec (nx ny : Nat) (hx : nx + ny ≤ 6) : FSpec Tryz.prog 108 [.c (.int .i64 (nx)), .c (.int .i64 (ny))] (ex (.own 0) [(0, .rows 38 3 true (playsL (nx + ny)))]) := by
  have h2 := two_pow6 hx
  refine fspec tyOk mx Tryz.func108 rfl (by kernel_rfl) rfl ?_
  conv => whnf
  rw [natAdd (by omega)]
  refine ⟨by omega, ?_⟩
  rw [shl_one (by omega)]
  conv => whnf
  refine aloopI tyOk mx (fun c : Nat => (⟨43, [(0, .c (.int .i64 (nx))), (1, .c (.int .i64 (ny))), (5, .own 0), (13, .c (.int .i64 ((2 ^ (nx + ny) : Nat)))), (14, .c (.int .i64 (c)))], [(0, .rows 38 3 true ((List.range c).map (bitRow (nx + ny))))], 1⟩ : St)) (fun c => c ≤ 2 ^ (nx + ny)) (fun c => 2 ^ (nx + ny) - c) 0 (Nat.zero_le _) none (by refine ⟨rfl, rfl, ?_, ?_⟩ <;> ((repeat' (first | exact trivial | exact rfl | refine And.intro ?_ ?_)) <;> (try ((conv => whnf); first | refine vint ?_ | refine vboo ?_ | refine rint ?_ | refine rrow ?_ | skip)) <;> (try first | omega | (simp; done) | ((repeat rw [flts_closed _ (by assumption)]); exact vws_closed _ (by assumption))))) (fun c hc => ?_)
  refine ⟨fun h => ?_, fun h => ?_⟩
  · have hc1 : c < 2 ^ (nx + ny) := Int.ofNat_lt.1 (of_decide_eq_true h)
    conv => whnf
    rw [natAdd (by omega)]
    refine aloopI tyOk mx (fun i : Nat => (⟨43, [(0, .c (.int .i64 (nx))), (1, .c (.int .i64 (ny))), (5, .own 0), (6, .c (.int .i64 (c))), (7, .own 1), (13, .c (.int .i64 ((2 ^ (nx + ny) : Nat)))), (14, .c (.int .i64 (c))), (20, .c (.int .i64 ((nx + ny : Nat)))), (21, .c (.int .i64 (i)))], [(0, .rows 38 3 true ((List.range c).map (bitRow (nx + ny)))), (1, .ints 3 .i64 ((List.range i).map (bitAt (nx + ny) c)))], 2⟩ : St)) (fun i => i ≤ nx + ny) (fun i => nx + ny - i) 0 (by omega) none (by refine ⟨rfl, rfl, ?_, ?_⟩ <;> ((repeat' (first | exact trivial | exact rfl | refine And.intro ?_ ?_)) <;> (try ((conv => whnf); first | refine vint ?_ | refine vboo ?_ | refine rint ?_ | refine rrow ?_ | skip)) <;> (try first | omega | (simp; done) | ((repeat rw [flts_closed _ (by assumption)]); exact vws_closed _ (by assumption))))) (fun i hi => ?_)
    refine ⟨fun h => ?_, fun h => ?_⟩
    · have hi1 : i < nx + ny := ltT h
      have e1 : IntKind.i64.wrap (IntKind.i64.wrap (IntKind.i64.wrap ((nx : Int) + ny) - 1) - i) = ((nx + ny : Nat) : Int) - 1 - i := by rw [natAdd (by omega), w64 (n := ((nx + ny : Nat) : Int) - 1) (by omega) (by omega), w64 (by omega) (by omega)]
      conv => whnf
      rw [e1]
      refine ⟨by omega, ?_⟩
      conv => whnf
      refine ⟨by simp [room]; omega, ?_⟩
      conv => whnf
      rw [nat_wrap (by omega)]
      refine ⟨i + 1, none, ?_, hi1, by omega⟩
      (refine ⟨rfl, rfl, ?_, ?_⟩ <;> ((repeat' (first | exact trivial | exact rfl | refine And.intro ?_ ?_)) <;> (try ((conv => whnf); first | refine vint ?_ | refine vboo ?_ | refine rint ?_ | refine rrow ?_ | skip)) <;> (try first | omega | (simp; done) | ((repeat rw [flts_closed _ (by assumption)]); exact vws_closed _ (by assumption)))))
      rw [← map_range_succ]; rfl
    · have hi1 : ¬ i < nx + ny := ltF h
      obtain rfl : i = nx + ny := by omega
      conv => whnf
      refine ⟨by simp [room]; omega, ?_⟩
      conv => whnf
      rw [nat_wrap (by omega)]
      refine ⟨c + 1, none, ?_, hc1, by omega⟩
      (refine ⟨rfl, rfl, ?_, ?_⟩ <;> ((repeat' (first | exact trivial | exact rfl | refine And.intro ?_ ?_)) <;> (try ((conv => whnf); first | refine vint ?_ | refine vboo ?_ | refine rint ?_ | refine rrow ?_ | skip)) <;> (try first | omega | (simp; done) | ((repeat rw [flts_closed _ (by assumption)]); exact vws_closed _ (by assumption)))))
      rw [← map_range_succ]; rfl
  · have hc1 : 2 ^ (nx + ny) ≤ c := Nat.not_lt.1 fun hh => of_decide_eq_false h (Int.ofNat_lt.2 hh)
    obtain rfl : c = 2 ^ (nx + ny) := by omega
    conv => whnf
    exact ⟨rfl, rfl⟩
end Go.Proofs.YtkomndcehdneaaaGreat
/- Which boxes are valid: reference and program. -/
namespace Go.Proofs.YtkomndcehdneaaaGreat
open Go.Aw
set_option maxRecDepth 100000
set_option maxHeartbeats 4000000

def rowOk (z : Int) (r : List Int) : Bool := decide (r.length = 4) && rowIn r 0 z && decide (sumF r r.length = z)
def goodB (x y z : Int) (m : List (List Int)) : Bool := szOk x y && inR z 1 1000 && decide ((m.length : Int) = x * y) && m.all (rowOk z)

theorem goodB_spec {x y z : Int} {m : List (List Int)} (h : goodB x y z m = true) : ∃ a b : Nat, x = a ∧ y = b ∧ 1 ≤ a ∧ a ≤ 3 ∧ 1 ≤ b ∧ b ≤ 3 ∧ 1 ≤ z ∧ z ≤ 1000 ∧ m.length = a * b ∧ a * b ≤ 9 ∧
    (∀ r, r ∈ m → r.length = 4 ∧ (∀ v, v ∈ r → 0 ≤ v ∧ v ≤ z) ∧ sumF r r.length = z) := by
  simp only [goodB, Bool.and_eq_true, decide_eq_true_eq, List.all_eq_true, rowOk, rowIn_iff, inR_iff] at h
  obtain ⟨⟨⟨h1, h2⟩, h3⟩, h4⟩ := h
  obtain ⟨a, b, rfl, rfl, g1, g2, g3, g4, g5, g6⟩ := szOk_nat h1
  rw [g5] at h3
  exact ⟨a, b, rfl, rfl, g1, g2, g3, g4, h2.1, h2.2, by omega, g6, fun r hr => by obtain ⟨⟨q1, q2⟩, q3⟩ := h4 r hr; exact ⟨q1, q2, q3⟩⟩

theorem l2Four_spec (r : List Int) (z : Int) (_hl : r.length ≤ 1048576) : FSpec Tryz.prog 133 [.t (.ints .i64 r), .c (.int .i64 (z))] (ex (.c (.bool (rowOk z r))) []) := by
  refine fspec tyOk mx Tryz.func133 rfl (by kernel_rfl) rfl ?_
  conv => whnf
  refine aloopI tyOk mx (fun k : Nat => (⟨38, [(0, .t (.ints .i64 r)), (1, .c (.int .i64 (z))), (5, .c (.int .i64 (sumF r k))), (6, .c (.int .i64 (k)))], [], 0⟩ : St)) (fun k => k ≤ r.length ∧ k ≤ 5 ∧ (r.take k).all (fun v => inR v 0 z) = true) (fun k => 5 - k) 0 ⟨Nat.zero_le _, by omega, rfl⟩ none (by refine ⟨rfl, rfl, ?_, ?_⟩ <;> ((repeat' (first | exact trivial | exact rfl | refine And.intro ?_ ?_)) <;> (try ((conv => whnf); first | refine vint ?_ | refine vboo ?_ | refine rint ?_ | refine rrow ?_ | skip)) <;> (try first | omega | (simp; done) | ((repeat rw [flts_closed _ (by assumption)]); exact vws_closed _ (by assumption))))) (fun k hI => ?_)
  obtain ⟨hk, hk5, hp⟩ := hI
  have hend : (k = r.length ∨ k = 5) → (rowOk z r = (decide ((r.length : Int) = 4) && decide (sumF r k = z))) := fun hor => by
    by_cases h4 : r.length = 4
    · obtain rfl : k = r.length := by omega
      have := all_end (k := r.length) (by omega) hp
      rw [rowOk, rowIn, this, decide_eq_true h4, decide_eq_true (show (r.length : Int) = 4 by omega)]; rfl
    · rw [rowOk, decide_eq_false h4, decide_eq_false (show ¬ (r.length : Int) = 4 by omega)]; rfl
  have fin : ∀ b : Bool, (k = r.length ∨ k = 5) → rowOk z r = b → (AVal.c (.bool b) = AVal.c (.bool (rowOk z r))) := fun b _ hb => by rw [hb]
  refine ⟨fun h => ?_, fun h => ?_⟩
  · have h := ltT h
    conv => whnf
    refine ⟨fun h2 => ?_, fun h2 => ?_⟩
    · have h2 : k < 5 := by have := of_decide_eq_true h2; omega
      conv => whnf
      refine ⟨k, rfl, h, ?_⟩
      conv => whnf
      refine ACall.use (l1In_spec _ _ _) ?_
      conv => whnf
      refine ⟨fun h3 => ?_, fun h3 => ?_⟩
      · have h3 : inR (r.getD k 0) 0 z = false := by simpa using h3
        conv => whnf
        refine ⟨?_, rfl⟩
        rw [rowOk, rowIn, all_false (d := 0) h h3]; simp
      · have h3 : inR (r.getD k 0) 0 z = true := by simpa using h3
        conv => whnf
        refine ⟨k, rfl, h, ?_⟩
        conv => whnf
        rw [nat_wrap (by omega)]
        exact ⟨k + 1, none, (by refine ⟨rfl, rfl, ?_, ?_⟩ <;> ((repeat' (first | exact trivial | exact rfl | refine And.intro ?_ ?_)) <;> (try ((conv => whnf); first | refine vint ?_ | refine vboo ?_ | refine rint ?_ | refine rrow ?_ | skip)) <;> (try first | omega | (simp; done) | ((repeat rw [flts_closed _ (by assumption)]); exact vws_closed _ (by assumption))))), ⟨by omega, by omega, all_take_succ (d := 0) h hp h3⟩, by omega⟩
    · have h2 : ¬ k < 5 := by have := of_decide_eq_false h2; omega
      conv => whnf
      refine ⟨fun h4 => ?_, fun h4 => ?_⟩
      · have h4 : (r.length : Int) = 4 := by simpa using h4
        omega
      · have h4 : ¬ (r.length : Int) = 4 := by simpa using h4
        conv => whnf
        refine ⟨?_, rfl⟩
        rw [hend (by omega), decide_eq_false h4]; rfl
  · have h := ltF h
    (repeat (conv => whnf); (first | refine ⟨fun h => absurd h (by decide), fun _ => ?_⟩ | refine ⟨fun _ => ?_, fun h => absurd h (by decide)⟩)); conv => whnf
    refine ⟨fun h4 => ?_, fun h4 => ?_⟩
    · have h4 : (r.length : Int) = 4 := by simpa using h4
      conv => whnf
      refine ⟨?_, rfl⟩
      rw [hend (by omega), decide_eq_true h4]; rfl
    · have h4 : ¬ (r.length : Int) = 4 := by simpa using h4
      conv => whnf
      refine ⟨?_, rfl⟩
      rw [hend (by omega), decide_eq_false h4]; rfl

theorem l2Box_spec (x y z : Int) (m : List (List Int)) (km : SzM m) :
    FSpec Tryz.prog 64 [.ag [.c (.int .i64 (x)), .c (.int .i64 (y)), .c (.int .i64 (z)), .t (.rows m)]] (ex (.c (.bool (goodB x y z m))) []) := by
  obtain ⟨i, j, tz⟩ := km.all
  refine fspec tyOk mx Tryz.func64 rfl (by kernel_rfl) rfl ?_
  conv => whnf
  refine ACall.use (l2Sizes_spec _ _) ?_
  conv => whnf
  refine ⟨fun h1 => ?_, fun h1 => ?_⟩
  · have h1 : szOk x y = true := by simpa using h1
    conv => whnf
    refine ACall.use (l1In_spec _ _ _) ?_
    conv => whnf
    refine ⟨fun h2 => ?_, fun h2 => ?_⟩
    · have h2 : inR z 1 1000 = true := by simpa using h2
      conv => whnf
      rw [szOk_mul h1]
      refine ⟨fun h3 => ?_, fun h3 => ?_⟩
      · have h3 : ¬ (m.length : Int) = x * y := by simpa using h3
        conv => whnf
        exact ⟨by rw [goodB, decide_eq_false h3]; simp, rfl⟩
      · have h3 : (m.length : Int) = x * y := by simpa using h3
        conv => whnf
        refine aloopI tyOk mx (fun k : Nat => (⟨43, [(1, .ptr 0 0), (3, .c (.int .i64 (k)))], [(0, .cells 26 [.c (.int .i64 (x)), .c (.int .i64 (y)), .c (.int .i64 (z)), .t (.rows m)])], 1⟩ : St)) (fun k => k ≤ m.length ∧ (m.take k).all (rowOk z) = true) (fun k => m.length - k) 0 ⟨Nat.zero_le _, rfl⟩ none (by refine ⟨rfl, rfl, ?_, ?_⟩ <;> ((repeat' (first | exact trivial | exact rfl | refine And.intro ?_ ?_)) <;> (try ((conv => whnf); first | refine vint ?_ | refine vboo ?_ | refine rint ?_ | refine rrow ?_ | skip)) <;> (try first | omega | (simp; done) | ((repeat rw [flts_closed _ (by assumption)]); exact vws_closed _ (by assumption))))) (fun k hI => ?_)
        obtain ⟨hk, hp⟩ := hI
        refine ⟨fun h => ?_, fun h => ?_⟩
        · have h := ltT h
          refine ADraw.std tyOk mx ⟨by kernel_rfl, k, rfl, h, ?_⟩
          conv => whnf
          refine QCall.use (l2Four_spec (m.getD k []) z (by have := j _ (getD_mem (d := []) h); omega)) ?_
          conv => whnf
          refine ⟨fun h4 => ?_, fun h4 => ?_⟩
          · conv => whnf
            exact ⟨by rw [goodB, all_false (d := []) h (by simpa using h4), Bool.and_false], rfl⟩
          · conv => whnf
            rw [nat_wrap (by omega)]
            exact ⟨k + 1, none, (by refine ⟨rfl, rfl, ?_, ?_⟩ <;> ((repeat' (first | exact trivial | exact rfl | refine And.intro ?_ ?_)) <;> (try ((conv => whnf); first | refine vint ?_ | refine vboo ?_ | refine rint ?_ | refine rrow ?_ | skip)) <;> (try first | omega | (simp; done) | ((repeat rw [flts_closed _ (by assumption)]); exact vws_closed _ (by assumption))))), ⟨by omega, all_take_succ (d := []) h hp (by simpa using h4)⟩, by omega⟩
        · have h := ltF h
          have hm2 := all_end h hp
          conv => whnf
          refine ⟨?_, rfl⟩
          rw [goodB, h1, h2, decide_eq_true h3, hm2]; rfl
    · have h2 : inR z 1 1000 = false := by simpa using h2
      (repeat (conv => whnf); (first | refine ⟨fun h => absurd h (by decide), fun _ => ?_⟩ | refine ⟨fun _ => ?_, fun h => absurd h (by decide)⟩)); conv => whnf
      exact ⟨by rw [goodB, h2]; simp, rfl⟩
  · have h1 : szOk x y = false := by simpa using h1
    (repeat (conv => whnf); (first | refine ⟨fun h => absurd h (by decide), fun _ => ?_⟩ | refine ⟨fun _ => ?_, fun h => absurd h (by decide)⟩)); conv => whnf
    exact ⟨by rw [goodB, h1]; simp, rfl⟩

theorem IsBox_spec (x y z : Int) (m : List (List Int)) (km : SzM m) :
    FSpec Tryz.prog 62 [.ag [.c (.int .i64 (x)), .c (.int .i64 (y)), .c (.int .i64 (z)), .t (.rows m)]] (ex (.c (.bool (goodB x y z m))) []) := by
  obtain ⟨i, j, tz⟩ := km.all
  refine fspec tyOk mx Tryz.func62 rfl (by kernel_rfl) rfl ?_
  conv => whnf
  refine ACall.use (areQuestions_spec _ _) ?_
  conv => whnf
  refine ⟨fun h1 => ?_, fun h1 => ?_⟩
  · have h1 : szOk x y = true := by simpa using h1
    conv => whnf
    refine ACall.use (within_spec _ _ _) ?_
    conv => whnf
    refine ⟨fun h2 => ?_, fun h2 => ?_⟩
    · have h2 : inR z 1 1000 = true := by simpa using h2
      conv => whnf
      rw [szOk_mul h1]
      refine ⟨fun h3 => ?_, fun h3 => ?_⟩
      · have h3 : ¬ (m.length : Int) = x * y := by simpa using h3
        conv => whnf
        exact ⟨by rw [goodB, decide_eq_false h3]; simp, rfl⟩
      · have h3 : (m.length : Int) = x * y := by simpa using h3
        conv => whnf
        refine aloopI tyOk mx (fun k : Nat => (⟨53, [(1, .ptr 0 0), (29, .t (.rows m)), (30, .c (.int .i64 (m.length))), (31, .c (.int .i64 (k)))], [(0, .cells 26 [.c (.int .i64 (x)), .c (.int .i64 (y)), .c (.int .i64 (z)), .t (.rows m)])], 1⟩ : St)) (fun k => k ≤ m.length ∧ (m.take k).all (rowOk z) = true) (fun k => m.length - k) 0 ⟨Nat.zero_le _, rfl⟩ none (by refine ⟨rfl, rfl, ?_, ?_⟩ <;> ((repeat' (first | exact trivial | exact rfl | refine And.intro ?_ ?_)) <;> (try ((conv => whnf); first | refine vint ?_ | refine vboo ?_ | refine rint ?_ | refine rrow ?_ | skip)) <;> (try first | omega | (simp; done) | ((repeat rw [flts_closed _ (by assumption)]); exact vws_closed _ (by assumption))))) (fun k hI => ?_)
        obtain ⟨hk, hp⟩ := hI
        refine ⟨fun h => ?_, fun h => ?_⟩
        · have h := ltT h
          have hj := j _ (getD_mem (d := []) h)
          conv => whnf
          refine ⟨k, rfl, h, ?_⟩
          conv => whnf
          refine ADraw.std tyOk mx ⟨by kernel_rfl, ?_⟩
          conv => whnf
          refine ⟨fun h4 => ?_, fun h4 => ?_⟩
          · have h4 : (m.getD k []).length = 4 := by rw [bne_eq_false_iff_eq] at h4; omega
            conv => whnf
            refine QCall.use (allWithin_spec (m.getD k []) _ _ (by omega)) ?_
            conv => whnf
            refine ⟨fun h5 => ?_, fun h5 => ?_⟩
            · have h5 : rowIn (m.getD k []) 0 z = true := by simpa using h5
              conv => whnf
              refine QCall.use (total_spec (m.getD k []) hj) ?_
              conv => whnf
              refine ⟨fun h6 => ?_, fun h6 => ?_⟩
              · have h6 : ¬ sumF (m.getD k []) (m.getD k []).length = z := by simpa using h6
                conv => whnf
                exact ⟨by rw [goodB, all_false (d := []) h (by rw [rowOk, decide_eq_false h6, Bool.and_false]), Bool.and_false], rfl⟩
              · have h6 : sumF (m.getD k []) (m.getD k []).length = z := by simpa using h6
                conv => whnf
                rw [nat_wrap (by omega)]
                exact ⟨k + 1, none, (by refine ⟨rfl, rfl, ?_, ?_⟩ <;> ((repeat' (first | exact trivial | exact rfl | refine And.intro ?_ ?_)) <;> (try ((conv => whnf); first | refine vint ?_ | refine vboo ?_ | refine rint ?_ | refine rrow ?_ | skip)) <;> (try first | omega | (simp; done) | ((repeat rw [flts_closed _ (by assumption)]); exact vws_closed _ (by assumption))))), ⟨by omega, all_take_succ (d := []) h hp (by rw [rowOk, h5, decide_eq_true h4, decide_eq_true h6]; rfl)⟩, by omega⟩
            · have h5 : rowIn (m.getD k []) 0 z = false := by simpa using h5
              (repeat (conv => whnf); (first | refine ⟨fun h => absurd h (by decide), fun _ => ?_⟩ | refine ⟨fun _ => ?_, fun h => absurd h (by decide)⟩)); conv => whnf
              exact ⟨by rw [goodB, all_false (d := []) h (by rw [rowOk, h5]; simp), Bool.and_false], rfl⟩
          · have h4 : ¬ (m.getD k []).length = 4 := by rw [bne_iff_ne] at h4; omega
            (repeat (conv => whnf); (first | refine ⟨fun h => absurd h (by decide), fun _ => ?_⟩ | refine ⟨fun _ => ?_, fun h => absurd h (by decide)⟩)); conv => whnf
            exact ⟨by rw [goodB, all_false (d := []) h (by rw [rowOk, decide_eq_false h4]; simp), Bool.and_false], rfl⟩
        · have h := ltF h
          have hm2 := all_end h hp
          conv => whnf
          refine ⟨?_, rfl⟩
          rw [goodB, h1, h2, decide_eq_true h3, hm2]; rfl
    · have h2 : inR z 1 1000 = false := by simpa using h2
      (repeat (conv => whnf); (first | refine ⟨fun h => absurd h (by decide), fun _ => ?_⟩ | refine ⟨fun _ => ?_, fun h => absurd h (by decide)⟩)); conv => whnf
      exact ⟨by rw [goodB, h2]; simp, rfl⟩
  · have h1 : szOk x y = false := by simpa using h1
    (repeat (conv => whnf); (first | refine ⟨fun h => absurd h (by decide), fun _ => ?_⟩ | refine ⟨fun _ => ?_, fun h => absurd h (by decide)⟩)); conv => whnf
    exact ⟨by rw [goodB, h1]; simp, rfl⟩
end Go.Proofs.YtkomndcehdneaaaGreat
/- Worths of functionals, agreements: reference and program. -/
namespace Go.Aw
def wRow (f m : List (List Int)) (i : Nat) (a : Int) (n : Nat) : Int := fo (fun a k => W (a + W ((f.getD i []).getD k 0 * (m.getD i []).getD k 0))) a n
def wTo (f m : List (List Int)) (n : Nat) : Int := fo (fun a i => wRow f m i a 4) 0 n
def worthF (f m : List (List Int)) : Int := wTo f m m.length
def agr (r : List Int) : Int := W (W (W (r.getD 0 0 - r.getD 1 0) - r.getD 2 0) + r.getD 3 0)
end Go.Aw
namespace Go.Proofs.YtkomndcehdneaaaGreat
open Go.Aw
set_option maxRecDepth 100000
set_option maxHeartbeats 4000000
theorem worth_spec (f m : List (List Int)) (hl : f.length = m.length) (hb : m.length ≤ 1000) (hf : ∀ r, r ∈ f → r.length = 4) (hm : ∀ r, r ∈ m → r.length = 4) :
    FSpec Tryz.prog 79 [.t (.rows f), .t (.rows m)] (ex (.c (.int .i64 (worthF f m))) []) := by
  refine fspec tyOk mx Tryz.func79 rfl (by kernel_rfl) rfl ?_
  conv => whnf
  refine aloopI tyOk mx (fun i : Nat => (⟨38, [(1, .t (.rows m)), (5, .c (.int .i64 (wTo f m i))), (10, .t (.rows f)), (11, .c (.int .i64 (f.length))), (12, .c (.int .i64 (i)))], [], 0⟩ : St)) (fun i => i ≤ m.length) (fun i => m.length - i) 0 (Nat.zero_le _) none (by refine ⟨rfl, rfl, ?_, ?_⟩ <;> ((repeat' (first | exact trivial | exact rfl | refine And.intro ?_ ?_)) <;> (try ((conv => whnf); first | refine vint ?_ | refine vboo ?_ | refine rint ?_ | refine rrow ?_ | skip)) <;> (try first | omega | (simp; done) | ((repeat rw [flts_closed _ (by assumption)]); exact vws_closed _ (by assumption))))) (fun i hi => ?_)
  refine ⟨fun h => ?_, fun h => ?_⟩
  · have h : i < m.length := by have := ltT h; omega
    have h4 := hf _ (getD_mem (d := []) (show i < f.length by omega))
    have h5 := hm _ (getD_mem (d := []) h)
    conv => whnf
    refine ⟨i, rfl, by omega, ?_⟩
    conv => whnf
    refine aloopI tyOk mx (fun k : Nat => (⟨38, [(1, .t (.rows m)), (5, .c (.int .i64 (wRow f m i (wTo f m i) k))), (6, .c (.int .i64 (i))), (10, .t (.rows f)), (11, .c (.int .i64 (f.length))), (12, .c (.int .i64 (i))), (17, .t (.ints .i64 (f.getD i []))), (18, .c (.int .i64 ((f.getD i []).length))), (19, .c (.int .i64 (k)))], [], 0⟩ : St)) (fun k => k ≤ 4) (fun k => 4 - k) 0 (Nat.zero_le _) none (by refine ⟨rfl, rfl, ?_, ?_⟩ <;> ((repeat' (first | exact trivial | exact rfl | refine And.intro ?_ ?_)) <;> (try ((conv => whnf); first | refine vint ?_ | refine vboo ?_ | refine rint ?_ | refine rrow ?_ | skip)) <;> (try first | omega | (simp; done) | ((repeat rw [flts_closed _ (by assumption)]); exact vws_closed _ (by assumption))))) (fun k hk => ?_)
    refine ⟨fun h2 => ?_, fun h2 => ?_⟩
    · have h2 : k < 4 := by have := ltT h2; omega
      conv => whnf
      refine ⟨k, rfl, by omega, ?_⟩
      conv => whnf
      refine ⟨i, rfl, h, ?_⟩
      conv => whnf
      refine ⟨k, rfl, by omega, ?_⟩
      conv => whnf
      rw [nat_wrap (by omega)]
      exact ⟨k + 1, none, (by refine ⟨rfl, rfl, ?_, ?_⟩ <;> ((repeat' (first | exact trivial | exact rfl | refine And.intro ?_ ?_)) <;> (try ((conv => whnf); first | refine vint ?_ | refine vboo ?_ | refine rint ?_ | refine rrow ?_ | skip)) <;> (try first | omega | (simp; done) | ((repeat rw [flts_closed _ (by assumption)]); exact vws_closed _ (by assumption))))), by omega, by omega⟩
    · have h2 : ¬ k < 4 := by have := ltF h2; omega
      obtain rfl : k = 4 := by omega
      conv => whnf
      rw [nat_wrap (by omega)]
      exact ⟨i + 1, none, (by refine ⟨rfl, rfl, ?_, ?_⟩ <;> ((repeat' (first | exact trivial | exact rfl | refine And.intro ?_ ?_)) <;> (try ((conv => whnf); first | refine vint ?_ | refine vboo ?_ | refine rint ?_ | refine rrow ?_ | skip)) <;> (try first | omega | (simp; done) | ((repeat rw [flts_closed _ (by assumption)]); exact vws_closed _ (by assumption))))), by omega, by omega⟩
  · have h : ¬ i < m.length := by have := ltF h; omega
    obtain rfl : i = m.length := by omega
    conv => whnf
    exact ⟨rfl, rfl⟩
theorem l2Worth_spec (f m : List (List Int)) (x y z : Int) (hl : f.length = m.length) (hb : m.length ≤ 1000) (hf : ∀ r, r ∈ f → r.length = 4) (hm : ∀ r, r ∈ m → r.length = 4) :
    FSpec Tryz.prog 82 [.t (.rows f), .ag [.c (.int .i64 (x)), .c (.int .i64 (y)), .c (.int .i64 (z)), .t (.rows m)]] (ex (.c (.int .i64 (worthF f m))) []) := by
  refine fspec tyOk mx Tryz.func82 rfl (by kernel_rfl) rfl ?_
  conv => whnf
  refine aloopI tyOk mx (fun i : Nat => (⟨38, [(0, .t (.rows f)), (3, .ptr 0 0), (5, .c (.int .i64 (wTo f m i))), (6, .c (.int .i64 (i)))], [(0, .cells 26 [.c (.int .i64 (x)), .c (.int .i64 (y)), .c (.int .i64 (z)), .t (.rows m)])], 1⟩ : St)) (fun i => i ≤ m.length) (fun i => m.length - i) 0 (Nat.zero_le _) none (by refine ⟨rfl, rfl, ?_, ?_⟩ <;> ((repeat' (first | exact trivial | exact rfl | refine And.intro ?_ ?_)) <;> (try ((conv => whnf); first | refine vint ?_ | refine vboo ?_ | refine rint ?_ | refine rrow ?_ | skip)) <;> (try first | omega | (simp; done) | ((repeat rw [flts_closed _ (by assumption)]); exact vws_closed _ (by assumption))))) (fun i hi => ?_)
  refine ⟨fun h => ?_, fun h => ?_⟩
  · have h := ltT h
    have h4 := hf _ (getD_mem (d := []) (show i < f.length by omega))
    have h5 := hm _ (getD_mem (d := []) h)
    conv => whnf
    refine aloopI tyOk mx (fun k : Nat => (⟨38, [(0, .t (.rows f)), (3, .ptr 0 0), (5, .c (.int .i64 (wRow f m i (wTo f m i) k))), (6, .c (.int .i64 (i))), (7, .c (.int .i64 (k)))], [(0, .cells 26 [.c (.int .i64 (x)), .c (.int .i64 (y)), .c (.int .i64 (z)), .t (.rows m)])], 1⟩ : St)) (fun k => k ≤ 4) (fun k => 4 - k) 0 (Nat.zero_le _) none (by refine ⟨rfl, rfl, ?_, ?_⟩ <;> ((repeat' (first | exact trivial | exact rfl | refine And.intro ?_ ?_)) <;> (try ((conv => whnf); first | refine vint ?_ | refine vboo ?_ | refine rint ?_ | refine rrow ?_ | skip)) <;> (try first | omega | (simp; done) | ((repeat rw [flts_closed _ (by assumption)]); exact vws_closed _ (by assumption))))) (fun k hk => ?_)
    refine ⟨fun h2 => ?_, fun h2 => ?_⟩
    · have h2 : k < 4 := by have := of_decide_eq_true h2; omega
      refine ADraw.std tyOk mx ⟨by kernel_rfl, i, rfl, by omega, k, rfl, by omega, i, rfl, h, k, rfl, by omega, ?_⟩
      conv => whnf
      rw [nat_wrap (by omega)]
      exact ⟨k + 1, none, (by refine ⟨rfl, rfl, ?_, ?_⟩ <;> ((repeat' (first | exact trivial | exact rfl | refine And.intro ?_ ?_)) <;> (try ((conv => whnf); first | refine vint ?_ | refine vboo ?_ | refine rint ?_ | refine rrow ?_ | skip)) <;> (try first | omega | (simp; done) | ((repeat rw [flts_closed _ (by assumption)]); exact vws_closed _ (by assumption))))), by omega, by omega⟩
    · have h2 : ¬ k < 4 := by have := of_decide_eq_false h2; omega
      obtain rfl : k = 4 := by omega
      conv => whnf
      rw [nat_wrap (by omega)]
      exact ⟨i + 1, none, (by refine ⟨rfl, rfl, ?_, ?_⟩ <;> ((repeat' (first | exact trivial | exact rfl | refine And.intro ?_ ?_)) <;> (try ((conv => whnf); first | refine vint ?_ | refine vboo ?_ | refine rint ?_ | refine rrow ?_ | skip)) <;> (try first | omega | (simp; done) | ((repeat rw [flts_closed _ (by assumption)]); exact vws_closed _ (by assumption))))), by omega, by omega⟩
  · have h := ltF h
    obtain rfl : i = m.length := by omega
    conv => whnf
    exact ⟨rfl, rfl⟩
theorem l2Agree_spec (r : List Int) (hr : r.length = 4) : FSpec Tryz.prog 201 [.t (.ints .i64 r)] (ex (.c (.int .i64 (agr r))) []) := by
  refine fspec tyOk mx Tryz.func201 rfl (by kernel_rfl) rfl ?_
  conv => whnf
  refine ADraw.std tyOk mx ⟨by kernel_rfl, 0, rfl, by omega, 1, rfl, by omega, 2, rfl, by omega, 3, rfl, by omega, ?_⟩
  conv => whnf
  exact ⟨rfl, rfl⟩
theorem agreement_spec (r : List Int) (hr : r.length = 4) : FSpec Tryz.prog 128 [.t (.ints .i64 r)] (ex (.c (.int .i64 (agr r))) []) := by
  refine fspec tyOk mx Tryz.func128 rfl (by kernel_rfl) rfl ?_
  conv => whnf
  refine ADraw.std tyOk mx ⟨by kernel_rfl, 0, rfl, by omega, 1, rfl, by omega, 2, rfl, by omega, 3, rfl, by omega, ?_⟩
  conv => whnf
  exact ⟨rfl, rfl⟩
end Go.Proofs.YtkomndcehdneaaaGreat
/- Sums of sign games with agreements: reference and program. -/
namespace Go.Aw
theorem Wk (a : Int) : ∃ k, W a = a + 18446744073709551616 * k := by
  refine ⟨-((a + 9223372036854775808) / 18446744073709551616), ?_⟩
  show IntKind.i64.wrap a = _
  rw [IntKind.wrap_i64]
  omega
theorem Weq {a b k : Int} (h : a = b + 18446744073709551616 * k) : W a = W b := by
  show IntKind.i64.wrap a = IntKind.i64.wrap b
  rw [IntKind.wrap_i64, IntKind.wrap_i64]
  omega
theorem Wadd1 (a b : Int) : W (W a + b) = W (a + b) := by obtain ⟨k, e⟩ := Wk a; rw [e]; exact Weq (k := k) (by omega)
theorem Wadd2 (a b : Int) : W (a + W b) = W (a + b) := by obtain ⟨k, e⟩ := Wk b; rw [e]; exact Weq (k := k) (by omega)
theorem Wsub1 (a b : Int) : W (W a - b) = W (a - b) := by obtain ⟨k, e⟩ := Wk a; rw [e]; exact Weq (k := k) (by omega)
theorem Wsub2 (a b : Int) : W (a - W b) = W (a - b) := by obtain ⟨k, e⟩ := Wk b; rw [e]; exact Weq (k := -k) (by omega)
theorem Wmul1 (a b : Int) : W (W a * b) = W (a * b) := by
  obtain ⟨k, e⟩ := Wk a; rw [e]; exact Weq (k := k * b) (by rw [Int.add_mul, Int.mul_assoc])
theorem Wmul2 (a b : Int) : W (a * W b) = W (a * b) := by rw [Int.mul_comm, Wmul1, Int.mul_comm]
theorem fo_flat {α : Type} (f : α → Nat → α) (ny : Nat) (a : α) : ∀ n, fo (fun a i => fo (fun a k => f a (i * ny + k)) a ny) a n = fo f a (n * ny)
  | 0 => by rw [Nat.zero_mul]; rfl
  | n + 1 => by
    have key : ∀ k, fo (fun a k => f a (n * ny + k)) (fo f a (n * ny)) k = fo f a (n * ny + k) := by
      intro k
      induction k with
      | zero => rfl
      | succ k ih => show f (fo (fun a k => f a (n * ny + k)) (fo f a (n * ny)) k) (n * ny + k) = f (fo f a (n * ny + k)) (n * ny + k); rw [ih]
    show fo (fun a k => f a (n * ny + k)) (fo (fun a i => fo (fun a k => f a (i * ny + k)) a ny) a n) ny = _
    rw [fo_flat f ny a n, key, Nat.succ_mul]
theorem flat_getD {β : Type} (g : Int → β) (ny : Nat) (d : β) : ∀ (m : List (List Int)) (i k : Nat), (∀ r, r ∈ m → r.length = ny) → i < m.length → k < ny → (m.flatMap (fun r => r.map g)).getD (i * ny + k) d = g ((m.getD i []).getD k 0)
  | [], _, _, _, h, _ => by simp at h
  | r :: m, 0, k, hr, _, hk => by
    have hl := hr r (by simp)
    simp only [List.flatMap_cons, Nat.zero_mul, Nat.zero_add, List.getD_cons_zero]
    rw [List.getD_eq_getElem?_getD, List.getElem?_append_left (by simp; omega), ← List.getD_eq_getElem?_getD, map_getD (d := 0) (by omega)]
  | r :: m, i + 1, k, hr, hi, hk => by
    have hl := hr r (by simp)
    have ih := flat_getD g ny d m i k (fun q hq => hr q (by simp [hq])) (by simpa using hi) hk
    simp only [List.flatMap_cons, List.getD_cons_succ]
    rw [List.getD_eq_getElem?_getD, List.getElem?_append_right (by simp only [List.length_map]; rw [Nat.succ_mul]; omega), ← List.getD_eq_getElem?_getD]
    rw [show (i + 1) * ny + k - (r.map g).length = i * ny + k by rw [List.length_map, hl, Nat.succ_mul]; omega]
    exact ih
end Go.Aw
namespace Go.Proofs.YtkomndcehdneaaaGreat
open Go.Aw
set_option maxRecDepth 100000
set_option maxHeartbeats 4000000

def swC (m bm : List (List Int)) (ny : Nat) (a : Int) (i k : Nat) : Int := W (a + W ((m.getD i []).getD k 0 * agr (bm.getD (i * ny + k) [])))
def swRw (m bm : List (List Int)) (ny i : Nat) (a : Int) (n : Nat) : Int := fo (fun a k => swC m bm ny a i k) a n
def swTo (m bm : List (List Int)) (ny n : Nat) : Int := fo (fun a i => swRw m bm ny i a ny) 0 n

theorem wRow_fn (f bm : List (List Int)) (p : Nat) (n a : Int) (hf : f.getD p [] = fnAt n) : wRow f bm p a 4 = W (a + W (n * agr (bm.getD p []))) := by
  show W (W (W (W (a + W ((f.getD p []).getD 0 0 * (bm.getD p []).getD 0 0)) + W ((f.getD p []).getD 1 0 * (bm.getD p []).getD 1 0)) + W ((f.getD p []).getD 2 0 * (bm.getD p []).getD 2 0)) + W ((f.getD p []).getD 3 0 * (bm.getD p []).getD 3 0)) = _
  rw [hf]
  show W (W (W (W (a + W (n * (bm.getD p []).getD 0 0)) + W (W (0 - n) * (bm.getD p []).getD 1 0)) + W (W (0 - n) * (bm.getD p []).getD 2 0)) + W (n * (bm.getD p []).getD 3 0)) = _
  unfold agr
  generalize (bm.getD p []).getD 0 0 = r0
  generalize (bm.getD p []).getD 1 0 = r1
  generalize (bm.getD p []).getD 2 0 = r2
  generalize (bm.getD p []).getD 3 0 = r3
  simp only [Wadd1, Wadd2, Wsub1, Wmul1, Wmul2]
  congr 1
  rw [Int.mul_add, Int.mul_sub, Int.mul_sub, Int.sub_mul, Int.sub_mul, Int.zero_mul, Int.zero_mul]
  omega

theorem worth_sw (m bm : List (List Int)) (ny : Nat) (hm : ∀ r, r ∈ m → r.length = ny) (hb : bm.length = m.length * ny) : worthF (functionalL m) bm = swTo m bm ny m.length := by
  unfold worthF wTo swTo
  rw [hb, ← fo_flat]
  refine fo_congr fun a i hi => fo_congr fun b k hk => ?_
  exact wRow_fn _ _ _ _ _ (flat_getD fnAt ny [] m i k hm hi hk)

def swOk (m : List (List Int)) (x y z : Int) (bm : List (List Int)) : Bool := goodM m && goodB x y z bm && decide (x = m.length) && decide (y = (m.getD 0 []).length)
def swV (m : List (List Int)) (x y z : Int) (bm : List (List Int)) : Int := if swOk m x y z bm then swTo m bm (m.getD 0 []).length m.length else 0

theorem SignWorth_s (m : List (List Int)) (hm : OkM m) (_km : SzM m) (x y z : Int) (bm : List (List Int)) (_hx : InR x) (_hy : InR y) (_hz : InR z) (_hb : OkM bm) (kb : SzM bm) :
    FSpec Tryz.prog 54 [.t (.rows m), .ag [.c (.int .i64 (x)), .c (.int .i64 (y)), .c (.int .i64 (z)), .t (.rows bm)]] (ex (.tu [.c (.int .i64 (swV m x y z bm)), .c (.bool (swOk m x y z bm))]) []) := by
  have no : swOk m x y z bm = false → swV m x y z bm = 0 := fun h => by rw [swV, h]; rfl
  refine fspec tyOk mx Tryz.func54 rfl (by kernel_rfl) rfl ?_
  conv => whnf
  refine ADraw.std tyOk mx ⟨by kernel_rfl, ?_⟩
  conv => whnf
  refine QCall.use (l5Good_spec m hm.1 hm.len) ?_
  conv => whnf
  refine ⟨fun h => ?_, fun h => ?_⟩
  · have h : goodM m = true := by simpa using h
    obtain ⟨g1, g2, g3, g4, g5⟩ := goodM_spec h
    conv => whnf
    refine QCall.use (l2Box_spec x y z bm kb) ?_
    conv => whnf
    refine ⟨fun h2 => ?_, fun h2 => ?_⟩
    · have h2 : goodB x y z bm = true := by simpa using h2
      conv => whnf
      refine ⟨fun h3 => ?_, fun h3 => ?_⟩
      · have h3 : x = (m.length : Int) := by simpa using h3
        conv => whnf
        refine ⟨0, rfl, by omega, ?_⟩
        conv => whnf
        refine ⟨fun h5 => ?_, fun h5 => ?_⟩
        · have h5 : ¬ y = ((m.getD 0 []).length : Int) := fun e => (bne_iff_ne.1 h5) e
          have e : swOk m x y z bm = false := by rw [swOk, decide_eq_false h5, Bool.and_false]
          conv => whnf
          exact ⟨by rw [no e, e], rfl⟩
        · have h5 : y = ((m.getD 0 []).length : Int) := bne_eq_false_iff_eq.1 h5
          have e : swOk m x y z bm = true := by rw [swOk, h, h2, decide_eq_true h3, decide_eq_true h5]; rfl
          have h2' := h2
          rw [h3, h5] at h2'
          obtain ⟨nx, ny, e1, e2, _, _, _, _, _, _, q7, q8, q9⟩ := goodB_spec h2'
          obtain rfl := Int.ofNat_inj.1 e1
          obtain rfl := Int.ofNat_inj.1 e2
          have h4 : ∀ r, r ∈ m → r.length = (m.getD 0 []).length := fun r hr => (g5 r hr).1
          have hfl : (functionalL m).length = bm.length := by
            rw [q7]
            have : ∀ (l : List (List Int)) (n : Nat), (∀ r, r ∈ l → r.length = n) → (l.flatMap sfRow).length = l.length * n := by
              intro l n
              induction l with
              | nil => intro _; simp
              | cons r l ih =>
                intro hr
                rw [List.flatMap_cons, List.length_append, ih (fun q hq => hr q (by simp [hq])), List.length_cons, Nat.succ_mul]
                have := hr r (by simp)
                simp [sfRow, this, Nat.add_comm]
            exact this m _ h4
          have hf4 : ∀ r, r ∈ functionalL m → r.length = 4 := fun q hq => by
            obtain ⟨r, _, hr⟩ := List.mem_flatMap.1 hq
            obtain ⟨n, _, rfl⟩ := List.mem_map.1 hr
            rfl
          conv => whnf
          refine ADraw.plan tyOk mx (.q 0 (.q 2 (.last 1 (.last 3 (.q 4 (.q 5 (.done)))))) : Plan) (by kernel_rfl) ?_
          conv => whnf
          refine ACall.useR (l5Functional_spec m h) ?_
          conv => whnf
          refine ACall.useR (l2Worth_spec (functionalL m) bm x y z hfl (by omega) hf4 (fun r hr => (q9 r hr).1)) ?_
          conv => whnf
          exact ⟨by rw [swV, e, if_pos rfl, worth_sw m bm _ h4 q7], rfl⟩
      · have h3 : ¬ x = (m.length : Int) := by simpa using h3
        have e : swOk m x y z bm = false := by rw [swOk, decide_eq_false h3]; simp
        (repeat (conv => whnf); (first | refine ⟨fun h => absurd h (by decide), fun _ => ?_⟩ | refine ⟨fun _ => ?_, fun h => absurd h (by decide)⟩)); conv => whnf
        exact ⟨by rw [no e, e], rfl⟩
    · have h2 : goodB x y z bm = false := by simpa using h2
      have e : swOk m x y z bm = false := by rw [swOk, h2]; simp
      (repeat (conv => whnf); (first | refine ⟨fun h => absurd h (by decide), fun _ => ?_⟩ | refine ⟨fun _ => ?_, fun h => absurd h (by decide)⟩)); conv => whnf
      exact ⟨by rw [no e, e], rfl⟩
  · have h : goodM m = false := by simpa using h
    have e : swOk m x y z bm = false := by rw [swOk, h]; simp
    (repeat (conv => whnf); (first | refine ⟨fun h => absurd h (by decide), fun _ => ?_⟩ | refine ⟨fun _ => ?_, fun h => absurd h (by decide)⟩)); conv => whnf
    exact ⟨by rw [no e, e], rfl⟩

theorem SignWorth_i (m : List (List Int)) (hm : OkM m) (_km : SzM m) (x y z : Int) (bm : List (List Int)) (_hx : InR x) (_hy : InR y) (_hz : InR z) (_hb : OkM bm) (kb : SzM bm) :
    FSpec Tryz.prog 53 [.t (.rows m), .ag [.c (.int .i64 (x)), .c (.int .i64 (y)), .c (.int .i64 (z)), .t (.rows bm)]] (ex (.tu [.c (.int .i64 (swV m x y z bm)), .c (.bool (swOk m x y z bm))]) []) := by
  have no : swOk m x y z bm = false → swV m x y z bm = 0 := fun h => by rw [swV, h]; rfl
  refine fspec tyOk mx Tryz.func53 rfl (by kernel_rfl) rfl ?_
  conv => whnf
  refine ADraw.std tyOk mx ⟨by kernel_rfl, ?_⟩
  conv => whnf
  refine QCall.use (iIsSignGame_spec m hm.1 hm.len) ?_
  conv => whnf
  refine ⟨fun h => ?_, fun h => ?_⟩
  · have h : goodM m = true := by simpa using h
    obtain ⟨g1, g2, g3, g4, g5⟩ := goodM_spec h
    conv => whnf
    refine QCall.use (IsBox_spec x y z bm kb) ?_
    conv => whnf
    refine ⟨fun h2 => ?_, fun h2 => ?_⟩
    · have h2 : goodB x y z bm = true := by simpa using h2
      conv => whnf
      refine ⟨fun h3 => ?_, fun h3 => ?_⟩
      · have h3 : x = (m.length : Int) := by simpa using h3
        conv => whnf
        refine ⟨0, rfl, by omega, ?_⟩
        conv => whnf
        refine ⟨fun h5 => ?_, fun h5 => ?_⟩
        · have h5 : ¬ y = ((m.getD 0 []).length : Int) := fun e => (bne_iff_ne.1 h5) e
          have e : swOk m x y z bm = false := by rw [swOk, decide_eq_false h5, Bool.and_false]
          conv => whnf
          exact ⟨by rw [no e, e], rfl⟩
        · have h5 : y = ((m.getD 0 []).length : Int) := bne_eq_false_iff_eq.1 h5
          have e : swOk m x y z bm = true := by rw [swOk, h, h2, decide_eq_true h3, decide_eq_true h5]; rfl
          have h2' := h2
          rw [h3, h5] at h2'
          obtain ⟨nx, ny, e1, e2, _, _, _, _, _, _, q7, q8, q9⟩ := goodB_spec h2'
          obtain rfl := Int.ofNat_inj.1 e1
          obtain rfl := Int.ofNat_inj.1 e2
          have hv : swTo m bm (m.getD 0 []).length m.length = swV m x y z bm := by rw [swV, e]; rfl
          subst h5
          conv => whnf
          refine aloopI tyOk mx (fun i : Nat => (⟨67, [(3, .ptr 0 0), (6, .c (.int .i64 (swTo m bm (m.getD 0 []).length i))), (35, .t (.rows m)), (36, .c (.int .i64 (m.length))), (37, .c (.int .i64 (i)))], [(0, .cells 26 [.c (.int .i64 (x)), .c (.int .i64 ((m.getD 0 []).length)), .c (.int .i64 (z)), .t (.rows bm)])], 1⟩ : St)) (fun i => i ≤ m.length) (fun i => m.length - i) 0 (Nat.zero_le _) none (by refine ⟨rfl, rfl, ?_, ?_⟩ <;> ((repeat' (first | exact trivial | exact rfl | refine And.intro ?_ ?_)) <;> (try ((conv => whnf); first | refine vint ?_ | refine vboo ?_ | refine rint ?_ | refine rrow ?_ | skip)) <;> (try first | omega | (simp; done) | ((repeat rw [flts_closed _ (by assumption)]); exact vws_closed _ (by assumption))))) (fun i hi => ?_)
          refine ⟨fun h => ?_, fun h => ?_⟩
          · have h := ltT h
            have hrow := (g5 _ (getD_mem (d := []) h)).1
            conv => whnf
            refine ⟨i, rfl, h, ?_⟩
            conv => whnf
            refine aloopI tyOk mx (fun k : Nat => (⟨67, [(3, .ptr 0 0), (6, .c (.int .i64 (swRw m bm (m.getD 0 []).length i (swTo m bm (m.getD 0 []).length i) k))), (7, .c (.int .i64 (i))), (35, .t (.rows m)), (36, .c (.int .i64 (m.length))), (37, .c (.int .i64 (i))), (42, .t (.ints .i64 (m.getD i []))), (43, .c (.int .i64 ((m.getD i []).length))), (44, .c (.int .i64 (k)))], [(0, .cells 26 [.c (.int .i64 (x)), .c (.int .i64 ((m.getD 0 []).length)), .c (.int .i64 (z)), .t (.rows bm)])], 1⟩ : St)) (fun k => k ≤ (m.getD 0 []).length) (fun k => (m.getD 0 []).length - k) 0 (Nat.zero_le _) none (by refine ⟨rfl, rfl, ?_, ?_⟩ <;> ((repeat' (first | exact trivial | exact rfl | refine And.intro ?_ ?_)) <;> (try ((conv => whnf); first | refine vint ?_ | refine vboo ?_ | refine rint ?_ | refine rrow ?_ | skip)) <;> (try first | omega | (simp; done) | ((repeat rw [flts_closed _ (by assumption)]); exact vws_closed _ (by assumption))))) (fun k hk => ?_)
            refine ⟨fun h6 => ?_, fun h6 => ?_⟩
            · have h6 : k < (m.getD 0 []).length := by have := ltT h6; omega
              have hlt := ix_lt h h6
              conv => whnf
              refine ⟨k, rfl, by omega, ?_⟩
              conv => whnf
              refine ⟨i * (m.getD 0 []).length + k, natMulAdd (by omega), by omega, ?_⟩
              conv => whnf
              refine ACall.use (agreement_spec (bm.getD (i * (m.getD 0 []).length + k) []) (q9 _ (getD_mem (by omega))).1) ?_
              conv => whnf
              rw [nat_wrap (by omega)]
              exact ⟨k + 1, none, (by refine ⟨rfl, rfl, ?_, ?_⟩ <;> ((repeat' (first | exact trivial | exact rfl | refine And.intro ?_ ?_)) <;> (try ((conv => whnf); first | refine vint ?_ | refine vboo ?_ | refine rint ?_ | refine rrow ?_ | skip)) <;> (try first | omega | (simp; done) | ((repeat rw [flts_closed _ (by assumption)]); exact vws_closed _ (by assumption))))), by omega, by omega⟩
            · have h6 : ¬ k < (m.getD 0 []).length := by have := ltF h6; omega
              obtain rfl : k = (m.getD 0 []).length := by omega
              conv => whnf
              rw [nat_wrap (by omega)]
              exact ⟨i + 1, none, (by refine ⟨rfl, rfl, ?_, ?_⟩ <;> ((repeat' (first | exact trivial | exact rfl | refine And.intro ?_ ?_)) <;> (try ((conv => whnf); first | refine vint ?_ | refine vboo ?_ | refine rint ?_ | refine rrow ?_ | skip)) <;> (try first | omega | (simp; done) | ((repeat rw [flts_closed _ (by assumption)]); exact vws_closed _ (by assumption))))), by omega, by omega⟩
          · have h := ltF h
            obtain rfl : i = m.length := by omega
            conv => whnf
            exact ⟨by rw [← hv, e], rfl⟩
      · have h3 : ¬ x = (m.length : Int) := by simpa using h3
        have e : swOk m x y z bm = false := by rw [swOk, decide_eq_false h3]; simp
        (repeat (conv => whnf); (first | refine ⟨fun h => absurd h (by decide), fun _ => ?_⟩ | refine ⟨fun _ => ?_, fun h => absurd h (by decide)⟩)); conv => whnf
        exact ⟨by rw [no e, e], rfl⟩
    · have h2 : goodB x y z bm = false := by simpa using h2
      have e : swOk m x y z bm = false := by rw [swOk, h2]; simp
      (repeat (conv => whnf); (first | refine ⟨fun h => absurd h (by decide), fun _ => ?_⟩ | refine ⟨fun _ => ?_, fun h => absurd h (by decide)⟩)); conv => whnf
      exact ⟨by rw [no e, e], rfl⟩
  · have h : goodM m = false := by simpa using h
    have e : swOk m x y z bm = false := by rw [swOk, h]; simp
    (repeat (conv => whnf); (first | refine ⟨fun h => absurd h (by decide), fun _ => ?_⟩ | refine ⟨fun _ => ?_, fun h => absurd h (by decide)⟩)); conv => whnf
    exact ⟨by rw [no e, e], rfl⟩
end Go.Proofs.YtkomndcehdneaaaGreat
/- Boxes that are told by a function. -/
namespace Go.Aw
theorem ACall.use4 {P : Program} {st : St} {f : FuncId} {a b c d v : Value} {caps : List AVal} {K : AVal → St → Prop} (hcl : ∀ g hp, clos g hp caps = some caps) (ho : hasOwns caps = false)
    (hs : FSpec P f (.c a :: .c b :: .c c :: .c d :: caps) (ex (.c v) [])) (hk : K (.c v) (st.add [])) : ACallS P st f (.c a :: .c b :: .c c :: .c d :: caps) K := by
  refine ACallS.useK hs (fun x h e => ?_) ?_
  · obtain ⟨rfl, rfl⟩ := e
    have : hasOwns (.c a :: .c b :: .c c :: .c d :: caps) = false := by simp [hasOwns, hasOwn, ho]
    rw [this]
    exact hk
  · simp [closeArgs, clos, clo1, hcl]

/-- the rows of a box, by a function of questions and answers -/
def boxRow (num : Nat → Nat → Nat → Nat → Int) (i k : Nat) : List Int := (List.range 4).map fun p => num i k (p / 2) (p % 2)
def boxTo (num : Nat → Nat → Nat → Nat → Int) (ny i k : Nat) : List (List Int) := (List.range i).flatMap (fun i => (List.range ny).map (boxRow num i)) ++ (List.range k).map (boxRow num i)
def boxRows (num : Nat → Nat → Nat → Nat → Int) (nx ny : Nat) : List (List Int) := (List.range nx).flatMap fun i => (List.range ny).map (boxRow num i)
theorem boxTo_row (num : Nat → Nat → Nat → Nat → Int) (ny i k : Nat) : boxTo num ny i k ++ [boxRow num i k] = boxTo num ny i (k + 1) := by
  unfold boxTo
  rw [List.append_assoc, map_range_succ]
theorem boxTo_end (num : Nat → Nat → Nat → Nat → Int) (ny i : Nat) : boxTo num ny i ny = boxTo num ny (i + 1) 0 := by
  simp [boxTo, List.range_succ]
theorem boxTo_all (num : Nat → Nat → Nat → Nat → Int) (nx ny : Nat) : boxTo num ny nx 0 = boxRows num nx ny := by
  simp [boxTo, boxRows]
theorem boxTo_len (num : Nat → Nat → Nat → Nat → Int) (ny i k : Nat) : (boxTo num ny i k).length = i * ny + k := by
  unfold boxTo
  rw [List.length_append, List.length_map, List.length_range, List.length_flatMap]
  congr 1
  induction i with
  | zero => simp
  | succ i ih => rw [List.range_succ, List.map_append, List.sum_append, ih]; simp [Nat.succ_mul]
theorem boxRows_len (num : Nat → Nat → Nat → Nat → Int) (nx ny : Nat) : (boxRows num nx ny).length = nx * ny := by
  rw [← boxTo_all, boxTo_len]; rfl
end Go.Aw
namespace Go.Proofs.YtkomndcehdneaaaGreat
open Go.Aw
set_option maxRecDepth 100000
theorem half_nat {p : Nat} (h : p < 4) : IntKind.i64.wrap (Int.tdiv (p : Int) 2) = ((p / 2 : Nat) : Int) := by
  have : p = 0 ∨ p = 1 ∨ p = 2 ∨ p = 3 := by omega
  rcases this with rfl | rfl | rfl | rfl <;> rfl
theorem mod_nat {p : Nat} (h : p < 4) : Int.tmod (p : Int) 2 = ((p % 2 : Nat) : Int) := by
  have : p = 0 ∨ p = 1 ∨ p = 2 ∨ p = 3 := by omega
  rcases this with rfl | rfl | rfl | rfl <;> rfl

theorem newBox_spec (nx ny : Nat) (z : Int) (g : FuncId) (caps : List AVal) (num : Nat → Nat → Nat → Nat → Int) (hx : nx ≤ 1000) (hy : ny ≤ 1000)
    (hcl : ∀ g hp, clos g hp caps = some caps) (ho : hasOwns caps = false)
    (hg : ∀ i k a b : Nat, i < nx → k < ny → a < 2 → b < 2 → FSpec Tryz.prog g (.c (.int .i64 (i)) :: .c (.int .i64 (k)) :: .c (.int .i64 (a)) :: .c (.int .i64 (b)) :: caps) (ex (.c (.int .i64 (num i k a b))) [])) :
    FSpec Tryz.prog 160 [.c (.int .i64 (nx)), .c (.int .i64 (ny)), .c (.int .i64 (z)), .clo g caps] (ex (.ag [.c (.int .i64 (nx)), .c (.int .i64 (ny)), .c (.int .i64 (z)), .own 0]) [(0, .rows 38 3 true (boxRows num nx ny))]) := by
  have hm : ∀ i, i ≤ nx → i * ny ≤ 1000000 := fun i hi => Nat.mul_le_mul (show i ≤ 1000 by omega) hy
  have hcl' := hcl (fun _ _ => none) []
  refine fspec tyOk mx Tryz.func160 rfl (by kernel_rfl) rfl ?_
  conv => whnf
  refine aloopI tyOk mx (fun i : Nat => (⟨51, [(1, .c (.int .i64 (ny))), (3, .clo g caps), (8, .ptr 0 0), (9, .ptr 1 0), (18, .c (.int .i64 (nx))), (19, .c (.int .i64 (i)))], [(0, .cells 26 [.c (.int .i64 (0)), .c (.int .i64 (0)), .c (.int .i64 (0)), .c (.slice none 0 0)]), (1, .cells 26 [.c (.int .i64 (nx)), .c (.int .i64 (ny)), .c (.int .i64 (z)), .own 2]), (2, .rows 38 3 true (boxTo num ny i 0))], 3⟩ : St)) (fun i => i ≤ nx) (fun i => nx - i) 0 (by omega) (some [(0, .row 0), (1, .row 1), (2, .nil)]) (by refine ⟨rfl, rfl, ?_, ?_⟩ <;> ((repeat' (first | exact trivial | exact rfl | refine And.intro ?_ ?_)) <;> (try ((conv => whnf); first | refine vint ?_ | refine vboo ?_ | refine rint ?_ | refine rrow ?_ | skip)) <;> (try first | omega | (simp; done) | ((repeat rw [flts_closed _ (by assumption)]); exact vws_closed _ (by assumption))))) (fun i hi => ?_)
  refine ⟨fun h => ?_, fun h => ?_⟩
  · have h := ltT h
    conv => whnf
    refine aloopI tyOk mx (fun k : Nat => (⟨51, [(1, .c (.int .i64 (ny))), (3, .clo g caps), (8, .ptr 0 0), (9, .ptr 1 0), (10, .c (.int .i64 (i))), (18, .c (.int .i64 (nx))), (19, .c (.int .i64 (i))), (22, .c (.int .i64 (ny))), (23, .c (.int .i64 (k)))], [(0, .cells 26 [.c (.int .i64 (0)), .c (.int .i64 (0)), .c (.int .i64 (0)), .c (.slice none 0 0)]), (1, .cells 26 [.c (.int .i64 (nx)), .c (.int .i64 (ny)), .c (.int .i64 (z)), .own 2]), (2, .rows 38 3 true (boxTo num ny i k))], 3⟩ : St)) (fun k => k ≤ ny) (fun k => ny - k) 0 (by omega) none (by refine ⟨rfl, rfl, ?_, ?_⟩ <;> ((repeat' (first | exact trivial | exact rfl | refine And.intro ?_ ?_)) <;> (try ((conv => whnf); first | refine vint ?_ | refine vboo ?_ | refine rint ?_ | refine rrow ?_ | skip)) <;> (try first | omega | (simp; done) | ((repeat rw [flts_closed _ (by assumption)]); exact vws_closed _ (by assumption))))) (fun k hk => ?_)
    have hlen := boxTo_len num ny i k
    have hm' := hm i hi
    refine ⟨fun h2 => ?_, fun h2 => ?_⟩
    · have h2 := ltT h2
      conv => whnf
      refine aloopI tyOk mx (fun p : Nat => (⟨51, [(1, .c (.int .i64 (ny))), (3, .clo g caps), (8, .ptr 0 0), (9, .ptr 1 0), (10, .c (.int .i64 (i))), (11, .c (.int .i64 (k))), (12, .own 3), (18, .c (.int .i64 (nx))), (19, .c (.int .i64 (i))), (22, .c (.int .i64 (ny))), (23, .c (.int .i64 (k))), (27, .c (.int .i64 (p)))], [(0, .cells 26 [.c (.int .i64 (0)), .c (.int .i64 (0)), .c (.int .i64 (0)), .c (.slice none 0 0)]), (1, .cells 26 [.c (.int .i64 (nx)), .c (.int .i64 (ny)), .c (.int .i64 (z)), .own 2]), (2, .rows 38 3 true (boxTo num ny i k)), (3, .ints 3 .i64 ((List.range p).map fun p => num i k (p / 2) (p % 2)))], 4⟩ : St)) (fun p => p ≤ 4) (fun p => 4 - p) 0 (by omega) none (by refine ⟨rfl, rfl, ?_, ?_⟩ <;> ((repeat' (first | exact trivial | exact rfl | refine And.intro ?_ ?_)) <;> (try ((conv => whnf); first | refine vint ?_ | refine vboo ?_ | refine rint ?_ | refine rrow ?_ | skip)) <;> (try first | omega | (simp; done) | ((repeat rw [flts_closed _ (by assumption)]); exact vws_closed _ (by assumption))))) (fun p hp => ?_)
      refine ⟨fun h3 => ?_, fun h3 => ?_⟩
      · have h3 : p < 4 := by have := of_decide_eq_true h3; omega
        conv => whnf
        refine ⟨by decide, ?_⟩
        conv => whnf
        refine ⟨by decide, ?_⟩
        rw [half_nat h3, mod_nat h3]
        conv => whnf
        refine cast (frL_eq caps).symm ?_
        refine ACall.use4 hcl ho (hg i k (p / 2) (p % 2) h h2 (by omega) (by omega)) ?_
        conv => whnf
        refine ⟨by simp [room]; omega, ?_⟩
        conv => whnf
        rw [nat_wrap (by omega)]
        refine ⟨p + 1, none, ?_, by omega, by omega⟩
        (refine ⟨rfl, rfl, ?_, ?_⟩ <;> ((repeat' (first | exact trivial | exact rfl | refine And.intro ?_ ?_)) <;> (try ((conv => whnf); first | refine vint ?_ | refine vboo ?_ | refine rint ?_ | refine rrow ?_ | skip)) <;> (try first | omega | (simp; done) | ((repeat rw [flts_closed _ (by assumption)]); exact vws_closed _ (by assumption)))))
        rw [← map_range_succ]; rfl
      · have h3 : ¬ p < 4 := by have := of_decide_eq_false h3; omega
        obtain rfl : p = 4 := by omega
        conv => whnf
        refine ⟨by simp [room]; omega, ?_⟩
        conv => whnf
        rw [nat_wrap (by omega)]
        refine ⟨k + 1, none, ?_, by omega, by omega⟩
        (refine ⟨rfl, rfl, ?_, ?_⟩ <;> ((repeat' (first | exact trivial | exact rfl | refine And.intro ?_ ?_)) <;> (try ((conv => whnf); first | refine vint ?_ | refine vboo ?_ | refine rint ?_ | refine rrow ?_ | skip)) <;> (try first | omega | (simp; done) | ((repeat rw [flts_closed _ (by assumption)]); exact vws_closed _ (by assumption)))))
        rw [← boxTo_row]; rfl
    · have h2 := ltF h2
      obtain rfl : k = ny := by omega
      conv => whnf
      rw [nat_wrap (by omega)]
      refine ⟨i + 1, none, ?_, by omega, by omega⟩
      (refine ⟨rfl, rfl, ?_, ?_⟩ <;> ((repeat' (first | exact trivial | exact rfl | refine And.intro ?_ ?_)) <;> (try ((conv => whnf); first | refine vint ?_ | refine vboo ?_ | refine rint ?_ | refine rrow ?_ | skip)) <;> (try first | omega | (simp; done) | ((repeat rw [flts_closed _ (by assumption)]); exact vws_closed _ (by assumption)))))
      exact boxTo_end num k i
  · have h := ltF h
    obtain rfl : i = nx := by omega
    conv => whnf
    exact ⟨rfl, by rw [boxTo_all]⟩
end Go.Proofs.YtkomndcehdneaaaGreat
/- Whether the sum of the answers is odd: reference and program. -/
namespace Go.Proofs.YtkomndcehdneaaaGreat
open Go.Aw
set_option maxRecDepth 100000

/-- whether the sum of the answers is odd -/
def oddAt (k : Int) (x y : Nat) : Int := Int.tmod (W (W (W (W ((x : Int) * y) + W (bits .and .i64 (shr .i64 k 2) 1 * x)) + W (bits .and .i64 (shr .i64 k 1) 1 * y)) + bits .and .i64 k 1)) 2
def oddS (k : Int) (x y : Nat) : Int := Int.tmod (W (W (W (W ((x : Int) * y) + W (shr .i64 k 2 * x)) + W (bits .and .i64 (shr .i64 k 1) 1 * y)) + bits .and .i64 k 1)) 2
theorem odd_eq {k x y : Nat} (hk : k < 8) (hx : x < 2) (hy : y < 2) : oddS k x y = oddAt k x y := by
  have : ∀ k : Nat, k < 8 → ∀ x : Nat, x < 2 → ∀ y : Nat, y < 2 → oddS k x y = oddAt k x y := by decide +kernel
  exact this k hk x hx y hy

theorem differ_spec (k : Int) (x y : Nat) : FSpec Tryz.prog 198 [.c (.int .i64 k), .c (.int .i64 (x)), .c (.int .i64 (y))] (ex (.c (.int .i64 (oddAt k x y))) []) := by
  refine fspec tyOk mx Tryz.func198 rfl (by kernel_rfl) rfl ?_
  conv => whnf
  refine ⟨by decide, ?_⟩
  conv => whnf
  refine ⟨by decide, ?_⟩
  conv => whnf
  refine ⟨by decide, ?_⟩
  conv => whnf
  exact ⟨rfl, rfl⟩
theorem l6Odd_spec (k : Int) (x y : Nat) : FSpec Tryz.prog 195 [.c (.int .i64 k), .c (.int .i64 (x)), .c (.int .i64 (y))] (ex (.c (.int .i64 (oddS k x y))) []) := by
  refine fspec tyOk mx Tryz.func195 rfl (by kernel_rfl) rfl ?_
  conv => whnf
  refine ⟨by decide, ?_⟩
  conv => whnf
  refine ⟨by decide, ?_⟩
  conv => whnf
  refine ⟨by decide, ?_⟩
  conv => whnf
  exact ⟨rfl, rfl⟩

end Go.Proofs.YtkomndcehdneaaaGreat
/- Boxes compared. -/
namespace Go.Proofs.YtkomndcehdneaaaGreat
open Go.Aw
set_option maxRecDepth 100000
end Go.Proofs.YtkomndcehdneaaaGreat
/- Boxes as results: what holds their marks. -/
namespace Go.Aw
section
variable {P : Program}
/-- (Box, bool): Box{} where it is false -/
def nilOrBox (ok : Bool) (x y z : Int) (r : ARow) : AVal → List (Nat × ARow) → Prop := fun v h =>
  (ok = false ∧ v = .tu [.ag [.c (.int .i64 (0)), .c (.int .i64 (0)), .c (.int .i64 (0)), .c (.slice none 0 0)], .c (.bool false)] ∧ h = []) ∨ (ok = true ∧ v = .tu [.ag [.c (.int .i64 (x)), .c (.int .i64 (y)), .c (.int .i64 (z)), .own 0], .c (.bool true)] ∧ h = [(0, r)])

theorem view_box {f : FuncId} {args : List AVal} {ok : Bool} {x y z : Int} {e e1 : Nat} {m : List (List Int)} (h : FSpec P f args (nilOrBox ok x y z (.rows e e1 true m))) :
    FSpec P f args (ex (.tu [.ag [.c (.int .i64 (if ok then x else 0)), .c (.int .i64 (if ok then y else 0)), .c (.int .i64 (if ok then z else 0)), .own 0], .c (.bool ok)]) [(0, .rows e e1 true (if ok then m else []))]) := by
  refine FSpec.view h ?_
  rintro v hr (⟨rfl, rfl, rfl⟩ | ⟨rfl, rfl, rfl⟩)
  · exact ⟨[(0, .nil)], .tu [.ag [.c (.int .i64 (0)), .c (.int .i64 (0)), .c (.int .i64 (0)), .own 0], .c (.bool false)], [(0, .rows e e1 true [])], rfl, ⟨rfl, trivial, trivial⟩, ⟨⟨rfl, rfl, rfl, ⟨rfl, rfl, rfl⟩, trivial⟩, rfl, trivial⟩, rfl, rfl⟩
  · exact ⟨[(0, .row 0)], .tu [.ag [.c (.int .i64 (x)), .c (.int .i64 (y)), .c (.int .i64 (z)), .own 0], .c (.bool true)], [(0, .rows e e1 true m)], rfl, ⟨rfl, rfl, trivial⟩, ⟨⟨rfl, rfl, rfl, ⟨rfl, rfl⟩, trivial⟩, rfl, trivial⟩, rfl, rfl⟩
end
end Go.Aw
namespace Go.Proofs.YtkomndcehdneaaaGreat
open Go.Aw
set_option maxRecDepth 100000
end Go.Proofs.YtkomndcehdneaaaGreat
/- EqualSumBox, program and reference. -/
namespace Go.Proofs.YtkomndcehdneaaaGreat
open Go.Aw
set_option maxRecDepth 100000

def eqNum (k : Int) (x y a b : Nat) : Int := W (1 - bits .xor .i64 (bits .xor .i64 a b) (oddAt k x y))
def equalM (k : Int) : List (List Int) := boxRows (eqNum k) 2 2
def oddRow (k : Int) (x y : Nat) : List Int := [W (1 - oddS k x y), oddS k x y, oddS k x y, W (1 - oddS k x y)]

theorem eq_rows (k : Nat) (hk : k < 8) : ∀ x y : Nat, x < 2 → y < 2 → oddRow k x y = boxRow (eqNum k) x y := by
  have : ∀ k : Nat, k < 8 → ∀ x : Nat, x < 2 → ∀ y : Nat, y < 2 → oddRow k x y = boxRow (eqNum k) x y := by decide +kernel
  exact fun x y hx hy => this k hk x hx y hy

theorem equalNum_spec (k : Int) (x y a b : Nat) : FSpec Tryz.prog 197 [.c (.int .i64 (x)), .c (.int .i64 (y)), .c (.int .i64 (a)), .c (.int .i64 (b)), .rp [.c (.int .i64 k)] 0] (ex (.c (.int .i64 (eqNum k x y a b))) []) := by
  refine fspec tyOk mx Tryz.func197 rfl (by kernel_rfl) rfl ?_
  conv => whnf
  refine ACall.use (differ_spec k x y) ?_
  conv => whnf
  exact ⟨rfl, rfl⟩

theorem equalSum_spec (k : Int) : FSpec Tryz.prog 169 [.c (.int .i64 k)] (ex (.ag [.c (.int .i64 (2)), .c (.int .i64 (2)), .c (.int .i64 (2)), .own 0]) [(0, .rows 38 3 true (equalM k))]) := by
  refine fspec tyOk mx Tryz.func169 rfl (by kernel_rfl) rfl ?_
  conv => whnf
  refine ACall.use (newBox_spec 2 2 2 _ [.rp [.c (.int .i64 k)] 0] (eqNum k) (by omega) (by omega) (fun _ _ => rfl) rfl (fun i k' a b _ _ _ _ => equalNum_spec k i k' a b)) ?_
  conv => whnf
  exact ⟨rfl, rfl⟩

theorem oddRow_len (k : Int) (x y : Nat) : (oddRow k x y).length = 4 := rfl
theorem l6Sum_spec (k : Nat) (hk : k < 8) : FSpec Tryz.prog 167 [.c (.int .i64 (k))] (ex (.ag [.c (.int .i64 (2)), .c (.int .i64 (2)), .c (.int .i64 (2)), .own 0]) [(0, .rows 38 3 true (equalM k))]) := by
  refine fspec tyOk mx Tryz.func167 rfl (by kernel_rfl) rfl ?_
  conv => whnf
  refine aloopI tyOk mx (fun x : Nat => (⟨34, [(0, .c (.int .i64 (k))), (2, .ptr 0 0), (3, .ptr 2 0), (4, .c (.int .i64 (x)))], [(0, .cells 26 [.c (.int .i64 (0)), .c (.int .i64 (0)), .c (.int .i64 (0)), .c (.slice none 0 0)]), (1, .rows 38 3 true (boxTo (eqNum k) 2 x 0)), (2, .cells 26 [.c (.int .i64 (2)), .c (.int .i64 (2)), .c (.int .i64 (2)), .own 1])], 3⟩ : St)) (fun x => x ≤ 2) (fun x => 2 - x) 0 (by omega) none (by refine ⟨rfl, rfl, ?_, ?_⟩ <;> ((repeat' (first | exact trivial | exact rfl | refine And.intro ?_ ?_)) <;> (try ((conv => whnf); first | refine vint ?_ | refine vboo ?_ | refine rint ?_ | refine rrow ?_ | skip)) <;> (try first | omega | (simp; done) | ((repeat rw [flts_closed _ (by assumption)]); exact vws_closed _ (by assumption))))) (fun x hx => ?_)
  refine ⟨fun h => ?_, fun h => ?_⟩
  · have h : x < 2 := by have := of_decide_eq_true h; omega
    conv => whnf
    refine aloopI tyOk mx (fun y : Nat => (⟨34, [(0, .c (.int .i64 (k))), (2, .ptr 0 0), (3, .ptr 2 0), (4, .c (.int .i64 (x))), (5, .c (.int .i64 (y)))], [(0, .cells 26 [.c (.int .i64 (0)), .c (.int .i64 (0)), .c (.int .i64 (0)), .c (.slice none 0 0)]), (1, .rows 38 3 true (boxTo (eqNum k) 2 x y)), (2, .cells 26 [.c (.int .i64 (2)), .c (.int .i64 (2)), .c (.int .i64 (2)), .own 1])], 3⟩ : St)) (fun y => y ≤ 2) (fun y => 2 - y) 0 (by omega) none (by refine ⟨rfl, rfl, ?_, ?_⟩ <;> ((repeat' (first | exact trivial | exact rfl | refine And.intro ?_ ?_)) <;> (try ((conv => whnf); first | refine vint ?_ | refine vboo ?_ | refine rint ?_ | refine rrow ?_ | skip)) <;> (try first | omega | (simp; done) | ((repeat rw [flts_closed _ (by assumption)]); exact vws_closed _ (by assumption))))) (fun y hy => ?_)
    have hlen := boxTo_len (eqNum k) 2 x y
    refine ⟨fun h2 => ?_, fun h2 => ?_⟩
    · have h2 : y < 2 := by have := of_decide_eq_true h2; omega
      conv => whnf
      refine ACall.use (l6Odd_spec k x y) ?_
      conv => whnf
      refine ⟨by simp [room]; omega, ?_⟩
      conv => whnf
      rw [nat_wrap (by omega)]
      refine ⟨y + 1, none, ?_, by omega, by omega⟩
      (refine ⟨rfl, rfl, ?_, ?_⟩ <;> ((repeat' (first | exact trivial | exact rfl | refine And.intro ?_ ?_)) <;> (try ((conv => whnf); first | refine vint ?_ | refine vboo ?_ | refine rint ?_ | refine rrow ?_ | skip)) <;> (try first | omega | (simp; done) | ((repeat rw [flts_closed _ (by assumption)]); exact vws_closed _ (by assumption)))))
      rw [← boxTo_row, ← eq_rows k hk x y h h2]; rfl
    · have h2 : ¬ y < 2 := by have := of_decide_eq_false h2; omega
      obtain rfl : y = 2 := by omega
      conv => whnf
      rw [nat_wrap (by omega)]
      refine ⟨x + 1, none, ?_, by omega, by omega⟩
      (refine ⟨rfl, rfl, ?_, ?_⟩ <;> ((repeat' (first | exact trivial | exact rfl | refine And.intro ?_ ?_)) <;> (try ((conv => whnf); first | refine vint ?_ | refine vboo ?_ | refine rint ?_ | refine rrow ?_ | skip)) <;> (try first | omega | (simp; done) | ((repeat rw [flts_closed _ (by assumption)]); exact vws_closed _ (by assumption)))))
      exact boxTo_end (eqNum k) 2 x
  · have h : ¬ x < 2 := by have := of_decide_eq_false h; omega
    obtain rfl : x = 2 := by omega
    conv => whnf
    exact ⟨rfl, by rw [boxTo_all]; rfl⟩

def eqOk (k : Int) : Bool := inR k 0 7
def eqRes (k : Int) : List (List Int) := if eqOk k then equalM k else []

theorem EqualSumBox_bd (k : Int) (_hk : InR k) : (eqRes k).length ≤ 1000000 ∧ tot (eqRes k) ≤ 1000000 := by
  unfold eqRes
  split
  · have h1 : (equalM k).length = 4 := boxRows_len _ 2 2
    have h2 := tot_le_mul (m := equalM k) (n := 4) (fun q hq => by
      obtain ⟨i, _, hq⟩ := List.mem_flatMap.1 hq
      obtain ⟨j, _, rfl⟩ := List.mem_map.1 hq
      simp [boxRow])
    omega
  · simp [tot]
end Go.Proofs.YtkomndcehdneaaaGreat
/- The eight sums: reference and program. -/
namespace Go.Proofs.YtkomndcehdneaaaGreat
open Go.Aw
set_option maxRecDepth 100000
set_option maxHeartbeats 4000000

theorem two_add {a b : Nat} (h : 2 * a + b ≤ 1000000) : IntKind.i64.wrap (IntKind.i64.wrap (2 * (a : Int)) + (b : Int)) = ((2 * a + b : Nat) : Int) := by
  rw [w64 (n := 2 * (a : Int)) (by omega) (by omega), w64 (by omega) (by omega)]; omega
def esTerm (k : Nat) (m : List (List Int)) (x y : Nat) : Int := W (agr (m.getD (x * 2 + y) []) * W (1 - W (2 * oddAt k x y)))
def esRow (k : Nat) (m : List (List Int)) (x : Nat) (a : Int) (n : Nat) : Int := fo (fun a y => W (a + esTerm k m x y)) a n
def esTo (k : Nat) (m : List (List Int)) (n : Nat) : Int := fo (fun a x => esRow k m x a 2) 0 n
def esL (m : List (List Int)) : List Int := (List.range 8).map fun k => esTo k m 2
def pairB (x y z : Int) (m : List (List Int)) : Bool := goodB x y z m && (decide (x = 2) && decide (y = 2))
theorem pairB_spec {x y z : Int} {m : List (List Int)} (h : pairB x y z m = true) : x = 2 ∧ y = 2 ∧ 1 ≤ z ∧ z ≤ 1000 ∧ m.length = 4 ∧ (∀ r, r ∈ m → r.length = 4 ∧ (∀ v, v ∈ r → 0 ≤ v ∧ v ≤ z) ∧ sumF r r.length = z) := by
  simp only [pairB, Bool.and_eq_true, decide_eq_true_eq] at h
  obtain ⟨h1, rfl, rfl⟩ := h
  obtain ⟨a, b, e1, e2, g1, g2, g3, g4, g5, g6, g7, g8, g9⟩ := goodB_spec h1
  obtain rfl : a = 2 := by omega
  obtain rfl : b = 2 := by omega
  exact ⟨rfl, rfl, g5, g6, g7, g9⟩

theorem hasTwo_spec (x y : Int) : FSpec Tryz.prog 91 [.c (.int .i64 (x)), .c (.int .i64 (y))] (ex (.c (.bool (decide (x = 2) && decide (y = 2)))) []) := by
  refine fspec tyOk mx Tryz.func91 rfl (by kernel_rfl) rfl ?_
  conv => whnf
  refine ⟨fun h => ?_, fun h => ?_⟩
  · conv => whnf
    refine ⟨?_, rfl⟩
    rw [decide_eq_true (by simpa using h), Bool.true_and]; rfl
  · conv => whnf
    refine ⟨?_, rfl⟩
    rw [decide_eq_false (by simpa using h), Bool.false_and]
theorem l6Two_spec (x y z : Int) (m : List (List Int)) (km : SzM m) : FSpec Tryz.prog 172 [.ag [.c (.int .i64 (x)), .c (.int .i64 (y)), .c (.int .i64 (z)), .t (.rows m)]] (ex (.c (.bool (pairB x y z m))) []) := by
  refine fspec tyOk mx Tryz.func172 rfl (by kernel_rfl) rfl ?_
  conv => whnf
  refine ACall.use (l2Box_spec x y z m km) ?_
  conv => whnf
  refine ⟨fun h => ?_, fun h => ?_⟩
  · conv => whnf
    refine ⟨fun h2 => ?_, fun h2 => ?_⟩
    · conv => whnf
      refine ⟨?_, rfl⟩
      rw [pairB, h, decide_eq_true (show x = 2 by simpa using h2), Bool.true_and, Bool.true_and]; rfl
    · conv => whnf
      refine ⟨?_, rfl⟩
      rw [pairB, h, decide_eq_false (show ¬ x = 2 by simpa using h2), Bool.true_and, Bool.false_and]
  · (repeat (conv => whnf); (first | refine ⟨fun h => absurd h (by decide), fun _ => ?_⟩ | refine ⟨fun _ => ?_, fun h => absurd h (by decide)⟩)); conv => whnf
    exact ⟨by rw [pairB, h, Bool.false_and], rfl⟩

theorem l2Row_spec (nx ny i k : Nat) (z : Int) (m : List (List Int)) (hi : i * ny + k < m.length) (hb : i * ny + k ≤ 1000000) :
    FSpec Tryz.prog 190 [.ag [.c (.int .i64 (nx)), .c (.int .i64 (ny)), .c (.int .i64 (z)), .t (.rows m)], .c (.int .i64 (i)), .c (.int .i64 (k))] (ex (.t (.ints .i64 (m.getD (i * ny + k) []))) []) := by
  refine fspec tyOk mx Tryz.func190 rfl (by kernel_rfl) rfl ?_
  conv => whnf
  refine ⟨i * ny + k, natMulAdd hb, hi, ?_⟩
  conv => whnf
  exact ⟨rfl, rfl⟩

theorem eightSums_spec (z : Int) (m : List (List Int)) (hm : m.length = 4) (h4 : ∀ r, r ∈ m → r.length = 4) :
    FSpec Tryz.prog 171 [.ag [.c (.int .i64 (2)), .c (.int .i64 (2)), .c (.int .i64 (z)), .t (.rows m)]] (ex (.own 0) [(0, .ints 3 .i64 (esL m))]) := by
  refine fspec tyOk mx Tryz.func171 rfl (by kernel_rfl) rfl ?_
  conv => whnf
  refine aloopI tyOk mx (fun k : Nat => (⟨44, [(1, .ptr 0 0), (3, .own 1), (9, .c (.int .i64 (k)))], [(0, .cells 26 [.c (.int .i64 (2)), .c (.int .i64 (2)), .c (.int .i64 (z)), .t (.rows m)]), (1, .ints 3 .i64 ((List.range k).map fun k => esTo k m 2))], 2⟩ : St)) (fun k => k ≤ 8) (fun k => 8 - k) 0 (Nat.zero_le _) none (by refine ⟨rfl, rfl, ?_, ?_⟩ <;> ((repeat' (first | exact trivial | exact rfl | refine And.intro ?_ ?_)) <;> (try ((conv => whnf); first | refine vint ?_ | refine vboo ?_ | refine rint ?_ | refine rrow ?_ | skip)) <;> (try first | omega | (simp; done) | ((repeat rw [flts_closed _ (by assumption)]); exact vws_closed _ (by assumption))))) (fun k hk => ?_)
  refine ⟨fun h => ?_, fun h => ?_⟩
  · have h : k < 8 := by have := of_decide_eq_true h; omega
    conv => whnf
    refine aloopI tyOk mx (fun x : Nat => (⟨44, [(1, .ptr 0 0), (3, .own 1), (4, .c (.int .i64 (k))), (5, .c (.int .i64 (esTo k m x))), (9, .c (.int .i64 (k))), (12, .c (.int .i64 (x)))], [(0, .cells 26 [.c (.int .i64 (2)), .c (.int .i64 (2)), .c (.int .i64 (z)), .t (.rows m)]), (1, .ints 3 .i64 ((List.range k).map fun k => esTo k m 2))], 2⟩ : St)) (fun x => x ≤ 2) (fun x => 2 - x) 0 (Nat.zero_le _) none (by refine ⟨rfl, rfl, ?_, ?_⟩ <;> ((repeat' (first | exact trivial | exact rfl | refine And.intro ?_ ?_)) <;> (try ((conv => whnf); first | refine vint ?_ | refine vboo ?_ | refine rint ?_ | refine rrow ?_ | skip)) <;> (try first | omega | (simp; done) | ((repeat rw [flts_closed _ (by assumption)]); exact vws_closed _ (by assumption))))) (fun x hx => ?_)
    refine ⟨fun h2 => ?_, fun h2 => ?_⟩
    · have h2 : x < 2 := by have := of_decide_eq_true h2; omega
      conv => whnf
      refine aloopI tyOk mx (fun y : Nat => (⟨44, [(1, .ptr 0 0), (3, .own 1), (4, .c (.int .i64 (k))), (5, .c (.int .i64 (esRow k m x (esTo k m x) y))), (6, .c (.int .i64 (x))), (9, .c (.int .i64 (k))), (12, .c (.int .i64 (x))), (15, .c (.int .i64 (y)))], [(0, .cells 26 [.c (.int .i64 (2)), .c (.int .i64 (2)), .c (.int .i64 (z)), .t (.rows m)]), (1, .ints 3 .i64 ((List.range k).map fun k => esTo k m 2))], 2⟩ : St)) (fun y => y ≤ 2) (fun y => 2 - y) 0 (Nat.zero_le _) none (by refine ⟨rfl, rfl, ?_, ?_⟩ <;> ((repeat' (first | exact trivial | exact rfl | refine And.intro ?_ ?_)) <;> (try ((conv => whnf); first | refine vint ?_ | refine vboo ?_ | refine rint ?_ | refine rrow ?_ | skip)) <;> (try first | omega | (simp; done) | ((repeat rw [flts_closed _ (by assumption)]); exact vws_closed _ (by assumption))))) (fun y hy => ?_)
      refine ⟨fun h3 => ?_, fun h3 => ?_⟩
      · have h3 : y < 2 := by have := of_decide_eq_true h3; omega
        conv => whnf
        refine ⟨2 * x + y, two_add (by omega), by omega, ?_⟩
        rw [Nat.mul_comm 2 x]
        conv => whnf
        refine ACall.use (agreement_spec (m.getD (x * 2 + y) []) (h4 _ (getD_mem (by omega)))) ?_
        conv => whnf
        refine ACall.use (differ_spec k x y) ?_
        conv => whnf
        rw [nat_wrap (by omega)]
        exact ⟨y + 1, none, (by refine ⟨rfl, rfl, ?_, ?_⟩ <;> ((repeat' (first | exact trivial | exact rfl | refine And.intro ?_ ?_)) <;> (try ((conv => whnf); first | refine vint ?_ | refine vboo ?_ | refine rint ?_ | refine rrow ?_ | skip)) <;> (try first | omega | (simp; done) | ((repeat rw [flts_closed _ (by assumption)]); exact vws_closed _ (by assumption))))), by omega, by omega⟩
      · have h3 : ¬ y < 2 := by have := of_decide_eq_false h3; omega
        obtain rfl : y = 2 := by omega
        conv => whnf
        rw [nat_wrap (by omega)]
        exact ⟨x + 1, none, (by refine ⟨rfl, rfl, ?_, ?_⟩ <;> ((repeat' (first | exact trivial | exact rfl | refine And.intro ?_ ?_)) <;> (try ((conv => whnf); first | refine vint ?_ | refine vboo ?_ | refine rint ?_ | refine rrow ?_ | skip)) <;> (try first | omega | (simp; done) | ((repeat rw [flts_closed _ (by assumption)]); exact vws_closed _ (by assumption))))), by omega, by omega⟩
    · have h2 : ¬ x < 2 := by have := of_decide_eq_false h2; omega
      obtain rfl : x = 2 := by omega
      conv => whnf
      refine ⟨by simp [room]; omega, ?_⟩
      conv => whnf
      rw [nat_wrap (by omega)]
      refine ⟨k + 1, none, ?_, by omega, by omega⟩
      (refine ⟨rfl, rfl, ?_, ?_⟩ <;> ((repeat' (first | exact trivial | exact rfl | refine And.intro ?_ ?_)) <;> (try ((conv => whnf); first | refine vint ?_ | refine vboo ?_ | refine rint ?_ | refine rrow ?_ | skip)) <;> (try first | omega | (simp; done) | ((repeat rw [flts_closed _ (by assumption)]); exact vws_closed _ (by assumption)))))
      rw [← map_range_succ]; rfl
  · have h : ¬ k < 8 := by have := of_decide_eq_false h; omega
    obtain rfl : k = 8 := by omega
    conv => whnf
    exact ⟨rfl, rfl⟩

theorem l6Sums_spec (z : Int) (m : List (List Int)) (hm : m.length = 4) (h4 : ∀ r, r ∈ m → r.length = 4) :
    FSpec Tryz.prog 173 [.ag [.c (.int .i64 (2)), .c (.int .i64 (2)), .c (.int .i64 (z)), .t (.rows m)]] (ex (.own 0) [(0, .ints 3 .i64 (esL m))]) := by
  refine fspec tyOk mx Tryz.func173 rfl (by kernel_rfl) rfl ?_
  conv => whnf
  refine aloopI tyOk mx (fun k : Nat => (⟨40, [(1, .ptr 0 0), (3, .own 1), (4, .c (.int .i64 (k)))], [(0, .cells 26 [.c (.int .i64 (2)), .c (.int .i64 (2)), .c (.int .i64 (z)), .t (.rows m)]), (1, .ints 3 .i64 ((List.range k).map fun k => esTo k m 2))], 2⟩ : St)) (fun k => k ≤ 8) (fun k => 8 - k) 0 (Nat.zero_le _) none (by refine ⟨rfl, rfl, ?_, ?_⟩ <;> ((repeat' (first | exact trivial | exact rfl | refine And.intro ?_ ?_)) <;> (try ((conv => whnf); first | refine vint ?_ | refine vboo ?_ | refine rint ?_ | refine rrow ?_ | skip)) <;> (try first | omega | (simp; done) | ((repeat rw [flts_closed _ (by assumption)]); exact vws_closed _ (by assumption))))) (fun k hk => ?_)
  refine ⟨fun h => ?_, fun h => ?_⟩
  · have h : k < 8 := by have := of_decide_eq_true h; omega
    conv => whnf
    refine aloopI tyOk mx (fun x : Nat => (⟨40, [(1, .ptr 0 0), (3, .own 1), (4, .c (.int .i64 (k))), (5, .c (.int .i64 (esTo k m x))), (6, .c (.int .i64 (x)))], [(0, .cells 26 [.c (.int .i64 (2)), .c (.int .i64 (2)), .c (.int .i64 (z)), .t (.rows m)]), (1, .ints 3 .i64 ((List.range k).map fun k => esTo k m 2))], 2⟩ : St)) (fun x => x ≤ 2) (fun x => 2 - x) 0 (Nat.zero_le _) none (by refine ⟨rfl, rfl, ?_, ?_⟩ <;> ((repeat' (first | exact trivial | exact rfl | refine And.intro ?_ ?_)) <;> (try ((conv => whnf); first | refine vint ?_ | refine vboo ?_ | refine rint ?_ | refine rrow ?_ | skip)) <;> (try first | omega | (simp; done) | ((repeat rw [flts_closed _ (by assumption)]); exact vws_closed _ (by assumption))))) (fun x hx => ?_)
    refine ⟨fun h2 => ?_, fun h2 => ?_⟩
    · have h2 : x < 2 := by have := of_decide_eq_true h2; omega
      conv => whnf
      refine aloopI tyOk mx (fun y : Nat => (⟨40, [(1, .ptr 0 0), (3, .own 1), (4, .c (.int .i64 (k))), (5, .c (.int .i64 (esRow k m x (esTo k m x) y))), (6, .c (.int .i64 (x))), (7, .c (.int .i64 (y)))], [(0, .cells 26 [.c (.int .i64 (2)), .c (.int .i64 (2)), .c (.int .i64 (z)), .t (.rows m)]), (1, .ints 3 .i64 ((List.range k).map fun k => esTo k m 2))], 2⟩ : St)) (fun y => y ≤ 2) (fun y => 2 - y) 0 (Nat.zero_le _) none (by refine ⟨rfl, rfl, ?_, ?_⟩ <;> ((repeat' (first | exact trivial | exact rfl | refine And.intro ?_ ?_)) <;> (try ((conv => whnf); first | refine vint ?_ | refine vboo ?_ | refine rint ?_ | refine rrow ?_ | skip)) <;> (try first | omega | (simp; done) | ((repeat rw [flts_closed _ (by assumption)]); exact vws_closed _ (by assumption))))) (fun y hy => ?_)
      refine ⟨fun h3 => ?_, fun h3 => ?_⟩
      · have h3 : y < 2 := by have := of_decide_eq_true h3; omega
        refine ADraw.plan tyOk mx (.q 0 (.q 1 (.q 2 (.q 3 (.q 7 (.q 8 (.q 9 (.last 4 (.q 5 (.q 6 (.last 10 (.last 11 (.q 12 (.q 13 (.q 14 (.done))))))))))))))) : Plan) (by kernel_rfl) ?_
        conv => whnf
        refine ACall.useR (l6Odd_spec k x y) ?_
        conv => whnf
        refine ACall.useR (l2Row_spec 2 2 x y z m (by omega) (by omega)) ?_
        conv => whnf
        refine ACall.useR (l2Agree_spec (m.getD (x * 2 + y) []) (h4 _ (getD_mem (by omega)))) ?_
        conv => whnf
        rw [nat_wrap (by omega), odd_eq h h2 h3, Int.mul_comm (IntKind.i64.wrap (1 - IntKind.i64.wrap (2 * oddAt k x y)))]
        exact ⟨y + 1, none, (by refine ⟨rfl, rfl, ?_, ?_⟩ <;> ((repeat' (first | exact trivial | exact rfl | refine And.intro ?_ ?_)) <;> (try ((conv => whnf); first | refine vint ?_ | refine vboo ?_ | refine rint ?_ | refine rrow ?_ | skip)) <;> (try first | omega | (simp; done) | ((repeat rw [flts_closed _ (by assumption)]); exact vws_closed _ (by assumption))))), by omega, by omega⟩
      · have h3 : ¬ y < 2 := by have := of_decide_eq_false h3; omega
        obtain rfl : y = 2 := by omega
        conv => whnf
        rw [nat_wrap (by omega)]
        exact ⟨x + 1, none, (by refine ⟨rfl, rfl, ?_, ?_⟩ <;> ((repeat' (first | exact trivial | exact rfl | refine And.intro ?_ ?_)) <;> (try ((conv => whnf); first | refine vint ?_ | refine vboo ?_ | refine rint ?_ | refine rrow ?_ | skip)) <;> (try first | omega | (simp; done) | ((repeat rw [flts_closed _ (by assumption)]); exact vws_closed _ (by assumption))))), by omega, by omega⟩
    · have h2 : ¬ x < 2 := by have := of_decide_eq_false h2; omega
      obtain rfl : x = 2 := by omega
      conv => whnf
      refine ⟨by simp [room]; omega, ?_⟩
      conv => whnf
      rw [nat_wrap (by omega)]
      refine ⟨k + 1, none, ?_, by omega, by omega⟩
      (refine ⟨rfl, rfl, ?_, ?_⟩ <;> ((repeat' (first | exact trivial | exact rfl | refine And.intro ?_ ?_)) <;> (try ((conv => whnf); first | refine vint ?_ | refine vboo ?_ | refine rint ?_ | refine rrow ?_ | skip)) <;> (try first | omega | (simp; done) | ((repeat rw [flts_closed _ (by assumption)]); exact vws_closed _ (by assumption)))))
      rw [← map_range_succ]; rfl
  · have h : ¬ k < 8 := by have := of_decide_eq_false h; omega
    obtain rfl : k = 8 := by omega
    conv => whnf
    exact ⟨rfl, rfl⟩
end Go.Proofs.YtkomndcehdneaaaGreat
/- Quiet boxes: reference and program. -/
namespace Go.Aw
def one0 (r : List Int) : Int := W (r.getD 2 0 + r.getD 3 0)
def one1 (r : List Int) : Int := W (r.getD 1 0 + r.getD 3 0)
def q0 (ny : Nat) (m : List (List Int)) (x y : Nat) : Bool := one0 (m.getD (x * ny + y) []) == one0 (m.getD (x * ny + 0) [])
def q1 (ny : Nat) (m : List (List Int)) (y x : Nat) : Bool := one1 (m.getD (x * ny + y) []) == one1 (m.getD (0 * ny + y) [])
def q0r (ny : Nat) (m : List (List Int)) (x : Nat) : Bool := (List.range ny).all (q0 ny m x)
def q1r (nx ny : Nat) (m : List (List Int)) (y : Nat) : Bool := (List.range nx).all (q1 ny m y)
def quietF (nx ny : Nat) (m : List (List Int)) : Bool := (List.range nx).all (q0r ny m) && (List.range ny).all (q1r nx ny m)
theorem q0_zero (ny : Nat) (m : List (List Int)) (x : Nat) : q0 ny m x 0 = true := beq_self_eq_true _
theorem q1_zero (ny : Nat) (m : List (List Int)) (y : Nat) : q1 ny m y 0 = true := beq_self_eq_true _
end Go.Aw
namespace Go.Proofs.YtkomndcehdneaaaGreat
open Go.Aw
set_option maxRecDepth 100000
set_option maxHeartbeats 4000000

theorem at_spec (nx ny i k a b : Nat) (z : Int) (m : List (List Int)) (hi : i * ny + k < m.length) (hb : i * ny + k ≤ 1000000) (ha : 2 * a + b < (m.getD (i * ny + k) []).length) (hb2 : 2 * a + b ≤ 1000000) :
    FSpec Tryz.prog 140 [.ag [.c (.int .i64 (nx)), .c (.int .i64 (ny)), .c (.int .i64 (z)), .t (.rows m)], .c (.int .i64 (i)), .c (.int .i64 (k)), .c (.int .i64 (a)), .c (.int .i64 (b))] (ex (.c (.int .i64 ((m.getD (i * ny + k) []).getD (2 * a + b) 0))) []) := by
  refine fspec tyOk mx Tryz.func140 rfl (by kernel_rfl) rfl ?_
  conv => whnf
  refine ⟨i * ny + k, natMulAdd hb, hi, ?_⟩
  conv => whnf
  refine ⟨2 * a + b, two_add hb2, ha, ?_⟩
  conv => whnf
  exact ⟨rfl, rfl⟩

theorem ones0_spec (nx ny q o : Nat) (z : Int) (m : List (List Int)) (hi : q * ny + o < m.length) (hb : q * ny + o ≤ 1000000) (h4 : ∀ r, r ∈ m → r.length = 4) :
    FSpec Tryz.prog 188 [.ag [.c (.int .i64 (nx)), .c (.int .i64 (ny)), .c (.int .i64 (z)), .t (.rows m)], .c (.int .i64 ((0 : Nat))), .c (.int .i64 (q)), .c (.int .i64 (o))] (ex (.c (.int .i64 (one0 (m.getD (q * ny + o) [])))) []) := by
  have h := h4 _ (getD_mem (d := []) hi)
  refine fspec tyOk mx Tryz.func188 rfl (by kernel_rfl) rfl ?_
  conv => whnf
  refine ⟨fun _ => ?_, fun h => absurd h (by decide)⟩
  conv => whnf
  refine ADraw.std tyOk mx ⟨by kernel_rfl, ?_⟩
  conv => whnf
  refine QCall.use (at_spec nx ny q o 1 0 z m hi hb (by omega) (by omega)) ?_
  conv => whnf
  refine QCall.use (at_spec nx ny q o 1 1 z m hi hb (by omega) (by omega)) ?_
  conv => whnf
  exact ⟨rfl, rfl⟩
theorem ones1_spec (nx ny q o : Nat) (z : Int) (m : List (List Int)) (hi : o * ny + q < m.length) (hb : o * ny + q ≤ 1000000) (h4 : ∀ r, r ∈ m → r.length = 4) :
    FSpec Tryz.prog 188 [.ag [.c (.int .i64 (nx)), .c (.int .i64 (ny)), .c (.int .i64 (z)), .t (.rows m)], .c (.int .i64 ((1 : Nat))), .c (.int .i64 (q)), .c (.int .i64 (o))] (ex (.c (.int .i64 (one1 (m.getD (o * ny + q) [])))) []) := by
  have h := h4 _ (getD_mem (d := []) hi)
  refine fspec tyOk mx Tryz.func188 rfl (by kernel_rfl) rfl ?_
  conv => whnf
  refine ⟨fun h => absurd h (by decide), fun _ => ?_⟩
  conv => whnf
  refine ADraw.std tyOk mx ⟨by kernel_rfl, ?_⟩
  conv => whnf
  refine QCall.use (at_spec nx ny o q 0 1 z m hi hb (by omega) (by omega)) ?_
  conv => whnf
  refine QCall.use (at_spec nx ny o q 1 1 z m hi hb (by omega) (by omega)) ?_
  conv => whnf
  exact ⟨rfl, rfl⟩

theorem questions_spec (x y z : Int) (m : List (List Int)) : FSpec Tryz.prog 187 [.ag [.c (.int .i64 (x)), .c (.int .i64 (y)), .c (.int .i64 (z)), .t (.rows m)]] (ex (.ag [.c (.int .i64 (x)), .c (.int .i64 (y))]) []) := by
  refine fspec tyOk mx Tryz.func187 rfl (by kernel_rfl) rfl ?_
  conv => whnf
  exact ⟨rfl, rfl⟩

def loudP (b : Bool) : AVal → List (Nat × ARow) → Prop := fun v h => ∃ a c : Int, v = .tu [.c (.int .i64 (a)), .c (.int .i64 (c)), .c (.bool (!b))] ∧ h = []

theorem loud_spec (nx ny : Nat) (z : Int) (m : List (List Int)) (hx : nx ≤ 3) (hy : ny ≤ 3) (hy1 : 1 ≤ ny) (hx1 : 1 ≤ nx) (hm : m.length = nx * ny) (h4 : ∀ r, r ∈ m → r.length = 4) :
    FSpec Tryz.prog 163 [.ag [.c (.int .i64 (nx)), .c (.int .i64 (ny)), .c (.int .i64 (z)), .t (.rows m)]] (loudP (quietF nx ny m)) := by
  have hn : nx * ny ≤ 3 * 3 := Nat.mul_le_mul hx hy
  refine fspec tyOk mx Tryz.func163 rfl (by kernel_rfl) rfl ?_
  conv => whnf
  refine ACall.use (questions_spec _ _ _ _) ?_
  conv => whnf
  refine aloopI tyOk mx (fun p : Nat => (⟨42, [(1, .ptr 0 0), (5, .ptr 1 0), (11, .c (.int .i64 (p)))], [(0, .cells 26 [.c (.int .i64 (nx)), .c (.int .i64 (ny)), .c (.int .i64 (z)), .t (.rows m)]), (1, .cells 78 [.c (.int .i64 (nx)), .c (.int .i64 (ny))])], 2⟩ : St)) (fun p => p ≤ 2 ∧ (1 ≤ p → (List.range nx).all (q0r ny m) = true) ∧ (2 ≤ p → (List.range ny).all (q1r nx ny m) = true)) (fun p => 2 - p) 0 ⟨by omega, by omega, by omega⟩ none (by refine ⟨rfl, rfl, ?_, ?_⟩ <;> ((repeat' (first | exact trivial | exact rfl | refine And.intro ?_ ?_)) <;> (try ((conv => whnf); first | refine vint ?_ | refine vboo ?_ | refine rint ?_ | refine rrow ?_ | skip)) <;> (try first | omega | (simp; done) | ((repeat rw [flts_closed _ (by assumption)]); exact vws_closed _ (by assumption))))) (fun p hI => ?_)
  obtain ⟨hp, hq0, hq1⟩ := hI
  refine ⟨fun h => ?_, fun h => ?_⟩
  · have h : p < 2 := by have := of_decide_eq_true h; omega
    have hp2 : p = 0 ∨ p = 1 := by omega
    rcases hp2 with rfl | rfl
    · conv => whnf
      refine ⟨0, rfl, by omega, by simp, ?_⟩
      conv => whnf
      refine aloopI tyOk mx (fun x : Nat => (⟨42, [(1, .ptr 0 0), (5, .ptr 1 0), (6, .c (.int .i64 ((0 : Nat)))), (11, .c (.int .i64 ((0 : Nat)))), (16, .c (.int .i64 (nx))), (17, .c (.int .i64 (x)))], [(0, .cells 26 [.c (.int .i64 (nx)), .c (.int .i64 (ny)), .c (.int .i64 (z)), .t (.rows m)]), (1, .cells 78 [.c (.int .i64 (nx)), .c (.int .i64 (ny))])], 2⟩ : St)) (fun x => x ≤ nx ∧ (List.range x).all (q0r ny m) = true) (fun x => nx - x) 0 ⟨by omega, rfl⟩ none (by refine ⟨rfl, rfl, ?_, ?_⟩ <;> ((repeat' (first | exact trivial | exact rfl | refine And.intro ?_ ?_)) <;> (try ((conv => whnf); first | refine vint ?_ | refine vboo ?_ | refine rint ?_ | refine rrow ?_ | skip)) <;> (try first | omega | (simp; done) | ((repeat rw [flts_closed _ (by assumption)]); exact vws_closed _ (by assumption))))) (fun x hI => ?_)
      obtain ⟨hxx, hpx⟩ := hI
      refine ⟨fun h2 => ?_, fun h2 => ?_⟩
      · have h2 := ltT h2
        have hlt0 := ix_lt h2 (show 0 < ny by omega)
        conv => whnf
        refine ⟨1, rfl, by omega, by simp, ?_⟩
        conv => whnf
        refine aloopI tyOk mx (fun y : Nat => (⟨42, [(1, .ptr 0 0), (5, .ptr 1 0), (6, .c (.int .i64 ((0 : Nat)))), (7, .c (.int .i64 (x))), (11, .c (.int .i64 ((0 : Nat)))), (16, .c (.int .i64 (nx))), (17, .c (.int .i64 (x))), (23, .c (.int .i64 (ny))), (24, .c (.int .i64 (y)))], [(0, .cells 26 [.c (.int .i64 (nx)), .c (.int .i64 (ny)), .c (.int .i64 (z)), .t (.rows m)]), (1, .cells 78 [.c (.int .i64 (nx)), .c (.int .i64 (ny))])], 2⟩ : St)) (fun y => y ≤ ny ∧ (List.range y).all (q0 ny m x) = true) (fun y => ny - y) 0 ⟨by omega, rfl⟩ none (by refine ⟨rfl, rfl, ?_, ?_⟩ <;> ((repeat' (first | exact trivial | exact rfl | refine And.intro ?_ ?_)) <;> (try ((conv => whnf); first | refine vint ?_ | refine vboo ?_ | refine rint ?_ | refine rrow ?_ | skip)) <;> (try first | omega | (simp; done) | ((repeat rw [flts_closed _ (by assumption)]); exact vws_closed _ (by assumption))))) (fun y hI => ?_)
        obtain ⟨hyy, hpy⟩ := hI
        refine ⟨fun h3 => ?_, fun h3 => ?_⟩
        · have h3 := ltT h3
          have hlt := ix_lt h2 h3
          conv => whnf
          refine ADraw.std tyOk mx ⟨by kernel_rfl, ?_⟩
          conv => whnf
          refine QCall.use (ones0_spec nx ny x y z m (by omega) (by omega) h4) ?_
          conv => whnf
          refine QCall.use (ones0_spec nx ny x 0 z m (by omega) (by omega) h4) ?_
          conv => whnf
          refine ⟨fun h5 => ?_, fun h5 => ?_⟩
          · have e : quietF nx ny m = false := by
              have : q0 ny m x y = false := by rw [q0, beq_eq_false_iff_ne]; exact bne_iff_ne.1 h5
              rw [quietF, rall_false h2 (by rw [q0r, rall_false h3 this]), Bool.false_and]
            conv => whnf
            exact ⟨_, _, by rw [e]; rfl, rfl⟩
          · have e : q0 ny m x y = true := by rw [q0, beq_iff_eq]; exact bne_eq_false_iff_eq.1 h5
            conv => whnf
            rw [nat_wrap (by omega)]
            exact ⟨y + 1, none, (by refine ⟨rfl, rfl, ?_, ?_⟩ <;> ((repeat' (first | exact trivial | exact rfl | refine And.intro ?_ ?_)) <;> (try ((conv => whnf); first | refine vint ?_ | refine vboo ?_ | refine rint ?_ | refine rrow ?_ | skip)) <;> (try first | omega | (simp; done) | ((repeat rw [flts_closed _ (by assumption)]); exact vws_closed _ (by assumption))))), ⟨by omega, rall_succ hpy e⟩, by omega⟩
        · have h3 := ltF h3
          obtain rfl : y = ny := by omega
          conv => whnf
          rw [nat_wrap (by omega)]
          exact ⟨x + 1, none, (by refine ⟨rfl, rfl, ?_, ?_⟩ <;> ((repeat' (first | exact trivial | exact rfl | refine And.intro ?_ ?_)) <;> (try ((conv => whnf); first | refine vint ?_ | refine vboo ?_ | refine rint ?_ | refine rrow ?_ | skip)) <;> (try first | omega | (simp; done) | ((repeat rw [flts_closed _ (by assumption)]); exact vws_closed _ (by assumption))))), ⟨by omega, rall_succ hpx hpy⟩, by omega⟩
      · have h2 := ltF h2
        obtain rfl : x = nx := by omega
        conv => whnf
        exact ⟨1, none, (by refine ⟨rfl, rfl, ?_, ?_⟩ <;> ((repeat' (first | exact trivial | exact rfl | refine And.intro ?_ ?_)) <;> (try ((conv => whnf); first | refine vint ?_ | refine vboo ?_ | refine rint ?_ | refine rrow ?_ | skip)) <;> (try first | omega | (simp; done) | ((repeat rw [flts_closed _ (by assumption)]); exact vws_closed _ (by assumption))))), ⟨by omega, fun _ => hpx, by omega⟩, by omega⟩
    · conv => whnf
      refine ⟨1, rfl, by omega, by simp, ?_⟩
      conv => whnf
      refine aloopI tyOk mx (fun y : Nat => (⟨42, [(1, .ptr 0 0), (5, .ptr 1 0), (6, .c (.int .i64 ((1 : Nat)))), (11, .c (.int .i64 ((1 : Nat)))), (16, .c (.int .i64 (ny))), (17, .c (.int .i64 (y)))], [(0, .cells 26 [.c (.int .i64 (nx)), .c (.int .i64 (ny)), .c (.int .i64 (z)), .t (.rows m)]), (1, .cells 78 [.c (.int .i64 (nx)), .c (.int .i64 (ny))])], 2⟩ : St)) (fun y => y ≤ ny ∧ (List.range y).all (q1r nx ny m) = true) (fun y => ny - y) 0 ⟨by omega, rfl⟩ none (by refine ⟨rfl, rfl, ?_, ?_⟩ <;> ((repeat' (first | exact trivial | exact rfl | refine And.intro ?_ ?_)) <;> (try ((conv => whnf); first | refine vint ?_ | refine vboo ?_ | refine rint ?_ | refine rrow ?_ | skip)) <;> (try first | omega | (simp; done) | ((repeat rw [flts_closed _ (by assumption)]); exact vws_closed _ (by assumption))))) (fun y hI => ?_)
      obtain ⟨hyy, hpy⟩ := hI
      refine ⟨fun h2 => ?_, fun h2 => ?_⟩
      · have h2 := ltT h2
        have hlt0 := ix_lt (show 0 < nx by omega) h2
        conv => whnf
        refine ⟨0, rfl, by omega, by simp, ?_⟩
        conv => whnf
        refine aloopI tyOk mx (fun x : Nat => (⟨42, [(1, .ptr 0 0), (5, .ptr 1 0), (6, .c (.int .i64 ((1 : Nat)))), (7, .c (.int .i64 (y))), (11, .c (.int .i64 ((1 : Nat)))), (16, .c (.int .i64 (ny))), (17, .c (.int .i64 (y))), (23, .c (.int .i64 (nx))), (24, .c (.int .i64 (x)))], [(0, .cells 26 [.c (.int .i64 (nx)), .c (.int .i64 (ny)), .c (.int .i64 (z)), .t (.rows m)]), (1, .cells 78 [.c (.int .i64 (nx)), .c (.int .i64 (ny))])], 2⟩ : St)) (fun x => x ≤ nx ∧ (List.range x).all (q1 ny m y) = true) (fun x => nx - x) 0 ⟨by omega, rfl⟩ none (by refine ⟨rfl, rfl, ?_, ?_⟩ <;> ((repeat' (first | exact trivial | exact rfl | refine And.intro ?_ ?_)) <;> (try ((conv => whnf); first | refine vint ?_ | refine vboo ?_ | refine rint ?_ | refine rrow ?_ | skip)) <;> (try first | omega | (simp; done) | ((repeat rw [flts_closed _ (by assumption)]); exact vws_closed _ (by assumption))))) (fun x hI => ?_)
        obtain ⟨hxx, hpx⟩ := hI
        refine ⟨fun h3 => ?_, fun h3 => ?_⟩
        · have h3 := ltT h3
          have hlt := ix_lt h3 h2
          conv => whnf
          refine ADraw.std tyOk mx ⟨by kernel_rfl, ?_⟩
          conv => whnf
          refine QCall.use (ones1_spec nx ny y x z m (by omega) (by omega) h4) ?_
          conv => whnf
          refine QCall.use (ones1_spec nx ny y 0 z m (by omega) (by omega) h4) ?_
          conv => whnf
          refine ⟨fun h5 => ?_, fun h5 => ?_⟩
          · have e : quietF nx ny m = false := by
              have : q1 ny m y x = false := by rw [q1, beq_eq_false_iff_ne]; exact bne_iff_ne.1 h5
              rw [quietF, rall_false (p := q1r nx ny m) h2 (by rw [q1r, rall_false h3 this]), Bool.and_false]
            conv => whnf
            exact ⟨_, _, by rw [e]; rfl, rfl⟩
          · have e : q1 ny m y x = true := by rw [q1, beq_iff_eq]; exact bne_eq_false_iff_eq.1 h5
            conv => whnf
            rw [nat_wrap (by omega)]
            exact ⟨x + 1, none, (by refine ⟨rfl, rfl, ?_, ?_⟩ <;> ((repeat' (first | exact trivial | exact rfl | refine And.intro ?_ ?_)) <;> (try ((conv => whnf); first | refine vint ?_ | refine vboo ?_ | refine rint ?_ | refine rrow ?_ | skip)) <;> (try first | omega | (simp; done) | ((repeat rw [flts_closed _ (by assumption)]); exact vws_closed _ (by assumption))))), ⟨by omega, rall_succ hpx e⟩, by omega⟩
        · have h3 := ltF h3
          obtain rfl : x = nx := by omega
          conv => whnf
          rw [nat_wrap (by omega)]
          exact ⟨y + 1, none, (by refine ⟨rfl, rfl, ?_, ?_⟩ <;> ((repeat' (first | exact trivial | exact rfl | refine And.intro ?_ ?_)) <;> (try ((conv => whnf); first | refine vint ?_ | refine vboo ?_ | refine rint ?_ | refine rrow ?_ | skip)) <;> (try first | omega | (simp; done) | ((repeat rw [flts_closed _ (by assumption)]); exact vws_closed _ (by assumption))))), ⟨by omega, rall_succ hpy hpx⟩, by omega⟩
      · have h2 := ltF h2
        obtain rfl : y = ny := by omega
        conv => whnf
        exact ⟨2, none, (by refine ⟨rfl, rfl, ?_, ?_⟩ <;> ((repeat' (first | exact trivial | exact rfl | refine And.intro ?_ ?_)) <;> (try ((conv => whnf); first | refine vint ?_ | refine vboo ?_ | refine rint ?_ | refine rrow ?_ | skip)) <;> (try first | omega | (simp; done) | ((repeat rw [flts_closed _ (by assumption)]); exact vws_closed _ (by assumption))))), ⟨by omega, fun _ => hq0 (by omega), fun _ => hpy⟩, by omega⟩
  · have h : ¬ p < 2 := by have := of_decide_eq_false h; omega
    obtain rfl : p = 2 := by omega
    have e : quietF nx ny m = true := by rw [quietF, hq0 (by omega), hq1 (by omega)]; rfl
    conv => whnf
    exact ⟨_, _, by rw [e]; rfl, rfl⟩

theorem l2One0_spec (r : List Int) (hr : r.length = 4) : FSpec Tryz.prog 142 [.t (.ints .i64 r), .c (.int .i64 (0))] (ex (.c (.int .i64 (one0 r))) []) := by
  refine fspec tyOk mx Tryz.func142 rfl (by kernel_rfl) rfl ?_
  conv => whnf
  refine ⟨fun _ => ?_, fun h => absurd h (by decide)⟩
  refine ADraw.std tyOk mx ⟨by kernel_rfl, 2, rfl, by omega, 3, rfl, by omega, ?_⟩
  conv => whnf
  exact ⟨rfl, rfl⟩
theorem l2One1_spec (r : List Int) (hr : r.length = 4) : FSpec Tryz.prog 142 [.t (.ints .i64 r), .c (.int .i64 (1))] (ex (.c (.int .i64 (one1 r))) []) := by
  refine fspec tyOk mx Tryz.func142 rfl (by kernel_rfl) rfl ?_
  conv => whnf
  refine ⟨fun h => absurd h (by decide), fun _ => ?_⟩
  refine ADraw.std tyOk mx ⟨by kernel_rfl, 1, rfl, by omega, 3, rfl, by omega, ?_⟩
  conv => whnf
  exact ⟨rfl, rfl⟩

def lqP (b : Bool) : AVal → List (Nat × ARow) → Prop := fun v h => ∃ a c : Int, v = .tu [.c (.int .i64 (a)), .c (.int .i64 (c))] ∧ h = [] ∧ decide (a < 0) = b

theorem l2Loud_spec (nx ny : Nat) (z : Int) (m : List (List Int)) (hx : nx ≤ 3) (hy : ny ≤ 3) (hy1 : 1 ≤ ny) (hx1 : 1 ≤ nx) (hm : m.length = nx * ny) (h4 : ∀ r, r ∈ m → r.length = 4) :
    FSpec Tryz.prog 185 [.ag [.c (.int .i64 (nx)), .c (.int .i64 (ny)), .c (.int .i64 (z)), .t (.rows m)]] (lqP (quietF nx ny m)) := by
  have hn : nx * ny ≤ 3 * 3 := Nat.mul_le_mul hx hy
  refine fspec tyOk mx Tryz.func185 rfl (by kernel_rfl) rfl ?_
  conv => whnf
  refine aloopI tyOk mx (fun x : Nat => (⟨54, [(1, .ptr 0 0), (4, .c (.int .i64 (x)))], [(0, .cells 26 [.c (.int .i64 (nx)), .c (.int .i64 (ny)), .c (.int .i64 (z)), .t (.rows m)])], 1⟩ : St)) (fun x => x ≤ nx ∧ (List.range x).all (q0r ny m) = true) (fun x => nx - x) 0 ⟨by omega, rfl⟩ none (by refine ⟨rfl, rfl, ?_, ?_⟩ <;> ((repeat' (first | exact trivial | exact rfl | refine And.intro ?_ ?_)) <;> (try ((conv => whnf); first | refine vint ?_ | refine vboo ?_ | refine rint ?_ | refine rrow ?_ | skip)) <;> (try first | omega | (simp; done) | ((repeat rw [flts_closed _ (by assumption)]); exact vws_closed _ (by assumption))))) (fun x hI => ?_)
  obtain ⟨hxx, hpx⟩ := hI
  refine ⟨fun h2 => ?_, fun h2 => ?_⟩
  · have h2 := ltT h2
    have hlt0 := ix_lt h2 (show 0 < ny by omega)
    conv => whnf
    refine aloopI tyOk mx (fun j : Nat => (⟨54, [(1, .ptr 0 0), (4, .c (.int .i64 (x))), (5, .c (.int .i64 ((j + 1 : Nat))))], [(0, .cells 26 [.c (.int .i64 (nx)), .c (.int .i64 (ny)), .c (.int .i64 (z)), .t (.rows m)])], 1⟩ : St)) (fun j => j + 1 ≤ ny ∧ (List.range (j + 1)).all (q0 ny m x) = true) (fun j => ny - j) 0 ⟨by omega, by rw [List.range_one]; simp [q0_zero]⟩ none (by refine ⟨rfl, rfl, ?_, ?_⟩ <;> ((repeat' (first | exact trivial | exact rfl | refine And.intro ?_ ?_)) <;> (try ((conv => whnf); first | refine vint ?_ | refine vboo ?_ | refine rint ?_ | refine rrow ?_ | skip)) <;> (try first | omega | (simp; done) | ((repeat rw [flts_closed _ (by assumption)]); exact vws_closed _ (by assumption))))) (fun j hI => ?_)
    obtain ⟨hyy, hpy⟩ := hI
    refine ⟨fun h3 => ?_, fun h3 => ?_⟩
    · have h3 := ltT h3
      have hlt := ix_lt h2 h3
      refine ADraw.plan tyOk mx (.q 0 (.q 1 (.q 2 (.q 5 (.q 6 (.last 3 (.last 4 (.last 7 (.last 8 (.q 9 (.done)))))))))) : Plan) (by kernel_rfl) ?_
      conv => whnf
      refine ACall.useR (l2Row_spec nx ny x (j + 1) z m (by omega) (by omega)) ?_
      conv => whnf
      refine ACall.useR (l2One0_spec _ (h4 _ (getD_mem (show x * ny + (j + 1) < m.length by omega)))) ?_
      conv => whnf
      refine ACall.useR (l2Row_spec nx ny x 0 z m (by omega) (by omega)) ?_
      conv => whnf
      refine ACall.useR (l2One0_spec _ (h4 _ (getD_mem (show x * ny + 0 < m.length by omega)))) ?_
      conv => whnf
      refine ⟨fun h5 => ?_, fun h5 => ?_⟩
      · have e : quietF nx ny m = false := by
          have : q0 ny m x (j + 1) = false := by rw [q0, beq_eq_false_iff_ne]; exact bne_iff_ne.1 h5
          rw [quietF, rall_false h2 (by rw [q0r, rall_false h3 this]), Bool.false_and]
        conv => whnf
        exact ⟨_, _, rfl, rfl, by rw [e]; decide⟩
      · have e : q0 ny m x (j + 1) = true := by rw [q0, beq_iff_eq]; exact bne_eq_false_iff_eq.1 h5
        conv => whnf
        rw [nat_wrap (by omega)]
        exact ⟨j + 1, none, (by refine ⟨rfl, rfl, ?_, ?_⟩ <;> ((repeat' (first | exact trivial | exact rfl | refine And.intro ?_ ?_)) <;> (try ((conv => whnf); first | refine vint ?_ | refine vboo ?_ | refine rint ?_ | refine rrow ?_ | skip)) <;> (try first | omega | (simp; done) | ((repeat rw [flts_closed _ (by assumption)]); exact vws_closed _ (by assumption))))), ⟨by omega, rall_succ hpy e⟩, by omega⟩
    · have h3 := ltF h3
      obtain rfl : ny = j + 1 := by omega
      conv => whnf
      rw [nat_wrap (by omega)]
      exact ⟨x + 1, none, (by refine ⟨rfl, rfl, ?_, ?_⟩ <;> ((repeat' (first | exact trivial | exact rfl | refine And.intro ?_ ?_)) <;> (try ((conv => whnf); first | refine vint ?_ | refine vboo ?_ | refine rint ?_ | refine rrow ?_ | skip)) <;> (try first | omega | (simp; done) | ((repeat rw [flts_closed _ (by assumption)]); exact vws_closed _ (by assumption))))), ⟨by omega, rall_succ hpx hpy⟩, by omega⟩
  · have h2 := ltF h2
    have hall : (List.range nx).all (q0r ny m) = true := by
      have : x = nx := by omega
      rw [← this]; exact hpx
    conv => whnf
    refine aloopI tyOk mx (fun y : Nat => (⟨54, [(1, .ptr 0 0), (6, .c (.int .i64 (y)))], [(0, .cells 26 [.c (.int .i64 (nx)), .c (.int .i64 (ny)), .c (.int .i64 (z)), .t (.rows m)])], 1⟩ : St)) (fun y => y ≤ ny ∧ (List.range y).all (q1r nx ny m) = true) (fun y => ny - y) 0 ⟨by omega, rfl⟩ none (by refine ⟨rfl, rfl, ?_, ?_⟩ <;> ((repeat' (first | exact trivial | exact rfl | refine And.intro ?_ ?_)) <;> (try ((conv => whnf); first | refine vint ?_ | refine vboo ?_ | refine rint ?_ | refine rrow ?_ | skip)) <;> (try first | omega | (simp; done) | ((repeat rw [flts_closed _ (by assumption)]); exact vws_closed _ (by assumption))))) (fun y hI => ?_)
    obtain ⟨hyy, hpy⟩ := hI
    refine ⟨fun h2 => ?_, fun h2 => ?_⟩
    · have h2 := ltT h2
      have hlt0 := ix_lt (show 0 < nx by omega) h2
      conv => whnf
      refine aloopI tyOk mx (fun j : Nat => (⟨54, [(1, .ptr 0 0), (6, .c (.int .i64 (y))), (7, .c (.int .i64 ((j + 1 : Nat))))], [(0, .cells 26 [.c (.int .i64 (nx)), .c (.int .i64 (ny)), .c (.int .i64 (z)), .t (.rows m)])], 1⟩ : St)) (fun j => j + 1 ≤ nx ∧ (List.range (j + 1)).all (q1 ny m y) = true) (fun j => nx - j) 0 ⟨by omega, by rw [List.range_one]; simp [q1_zero]⟩ none (by refine ⟨rfl, rfl, ?_, ?_⟩ <;> ((repeat' (first | exact trivial | exact rfl | refine And.intro ?_ ?_)) <;> (try ((conv => whnf); first | refine vint ?_ | refine vboo ?_ | refine rint ?_ | refine rrow ?_ | skip)) <;> (try first | omega | (simp; done) | ((repeat rw [flts_closed _ (by assumption)]); exact vws_closed _ (by assumption))))) (fun j hI => ?_)
      obtain ⟨hxx2, hpx2⟩ := hI
      refine ⟨fun h3 => ?_, fun h3 => ?_⟩
      · have h3 := ltT h3
        have hlt := ix_lt h3 h2
        refine ADraw.plan tyOk mx (.q 0 (.q 1 (.q 2 (.q 5 (.q 6 (.last 3 (.last 4 (.last 7 (.last 8 (.q 9 (.done)))))))))) : Plan) (by kernel_rfl) ?_
        conv => whnf
        refine ACall.useR (l2Row_spec nx ny (j + 1) y z m (by omega) (by omega)) ?_
        conv => whnf
        refine ACall.useR (l2One1_spec _ (h4 _ (getD_mem (show (j + 1) * ny + y < m.length by omega)))) ?_
        conv => whnf
        refine ACall.useR (l2Row_spec nx ny 0 y z m (by omega) (by omega)) ?_
        conv => whnf
        refine ACall.useR (l2One1_spec _ (h4 _ (getD_mem (show 0 * ny + y < m.length by omega)))) ?_
        conv => whnf
        refine ⟨fun h5 => ?_, fun h5 => ?_⟩
        · have e : quietF nx ny m = false := by
            have : q1 ny m y (j + 1) = false := by rw [q1, beq_eq_false_iff_ne]; exact bne_iff_ne.1 h5
            rw [quietF, rall_false (p := q1r nx ny m) h2 (by rw [q1r, rall_false h3 this]), Bool.and_false]
          conv => whnf
          exact ⟨_, _, rfl, rfl, by rw [e]; decide⟩
        · have e : q1 ny m y (j + 1) = true := by rw [q1, beq_iff_eq]; exact bne_eq_false_iff_eq.1 h5
          conv => whnf
          rw [nat_wrap (by omega)]
          exact ⟨j + 1, none, (by refine ⟨rfl, rfl, ?_, ?_⟩ <;> ((repeat' (first | exact trivial | exact rfl | refine And.intro ?_ ?_)) <;> (try ((conv => whnf); first | refine vint ?_ | refine vboo ?_ | refine rint ?_ | refine rrow ?_ | skip)) <;> (try first | omega | (simp; done) | ((repeat rw [flts_closed _ (by assumption)]); exact vws_closed _ (by assumption))))), ⟨by omega, rall_succ hpx2 e⟩, by omega⟩
      · have h3 := ltF h3
        have e3 : nx = j + 1 := by omega
        conv => whnf
        rw [nat_wrap (by omega)]
        exact ⟨y + 1, none, (by refine ⟨rfl, rfl, ?_, ?_⟩ <;> ((repeat' (first | exact trivial | exact rfl | refine And.intro ?_ ?_)) <;> (try ((conv => whnf); first | refine vint ?_ | refine vboo ?_ | refine rint ?_ | refine rrow ?_ | skip)) <;> (try first | omega | (simp; done) | ((repeat rw [flts_closed _ (by assumption)]); exact vws_closed _ (by assumption))))), ⟨by omega, rall_succ hpy (by rw [q1r, e3]; exact hpx2)⟩, by omega⟩
    · have h2 := ltF h2
      obtain rfl : y = ny := by omega
      have e : quietF nx y m = true := by rw [quietF, hall, hpy]; rfl
      conv => whnf
      exact ⟨_, _, rfl, rfl, by rw [e]; decide⟩

theorem l2Quiet_spec (nx ny : Nat) (z : Int) (m : List (List Int)) (hx : nx ≤ 3) (hy : ny ≤ 3) (hy1 : 1 ≤ ny) (hx1 : 1 ≤ nx) (hm : m.length = nx * ny) (h4 : ∀ r, r ∈ m → r.length = 4) :
    FSpec Tryz.prog 134 [.ag [.c (.int .i64 (nx)), .c (.int .i64 (ny)), .c (.int .i64 (z)), .t (.rows m)]] (ex (.c (.bool (quietF nx ny m))) []) := by
  refine fspec tyOk mx Tryz.func134 rfl (by kernel_rfl) rfl ?_
  conv => whnf
  refine ACall.use' (l2Loud_spec nx ny z m hx hy hy1 hx1 hm h4) (fun v h hv => ?_)
  obtain ⟨a, c, rfl, rfl, e⟩ := hv
  conv => whnf
  exact ⟨by rw [e], rfl⟩

def quietB (x y z : Int) (m : List (List Int)) : Bool := goodB x y z m && quietF x.toNat y.toNat m
theorem isQuiet_spec (x y z : Int) (m : List (List Int)) (km : SzM m) : FSpec Tryz.prog 88 [.ag [.c (.int .i64 (x)), .c (.int .i64 (y)), .c (.int .i64 (z)), .t (.rows m)]] (ex (.c (.bool (quietB x y z m))) []) := by
  refine fspec tyOk mx Tryz.func88 rfl (by kernel_rfl) rfl ?_
  conv => whnf
  refine ACall.use (IsBox_spec x y z m km) ?_
  conv => whnf
  refine ⟨fun h => ?_, fun h => ?_⟩
  · have h : goodB x y z m = false := by simpa using h
    conv => whnf
    exact ⟨by rw [quietB, h]; rfl, rfl⟩
  · have h : goodB x y z m = true := by simpa using h
    have h' := h
    obtain ⟨nx, ny, rfl, rfl, g1, g2, g3, g4, g5, g6, g7, g8, g9⟩ := goodB_spec h
    conv => whnf
    refine ACall.use' (loud_spec nx ny z m g2 g4 g3 g1 g7 (fun r hr => (g9 r hr).1)) (fun v h hv => ?_)
    obtain ⟨a, c, rfl, rfl⟩ := hv
    conv => whnf
    refine ⟨?_, rfl⟩
    rw [quietB, h', Bool.not_not]; rfl
def qpB (x y z : Int) (m : List (List Int)) : Bool := pairB x y z m && quietF 2 2 m
theorem qpB_spec {x y z : Int} {m : List (List Int)} (h : qpB x y z m = true) : x = 2 ∧ y = 2 ∧ 1 ≤ z ∧ z ≤ 1000 ∧ m.length = 4 ∧ (∀ r, r ∈ m → r.length = 4 ∧ (∀ v, v ∈ r → 0 ≤ v ∧ v ≤ z) ∧ sumF r r.length = z) := by
  simp only [qpB, Bool.and_eq_true] at h
  exact pairB_spec h.1
theorem isQuietPair_spec (x y z : Int) (m : List (List Int)) (km : SzM m) : FSpec Tryz.prog 102 [.ag [.c (.int .i64 (x)), .c (.int .i64 (y)), .c (.int .i64 (z)), .t (.rows m)]] (ex (.c (.bool (qpB x y z m))) []) := by
  have key : qpB x y z m = (quietB x y z m && (decide (x = 2) && decide (y = 2))) := by
    rw [qpB, pairB, quietB]
    by_cases h1 : x = 2
    · by_cases h2 : y = 2
      · subst h1; subst h2
        simp
      · simp [h2]
    · simp [h1]
  refine fspec tyOk mx Tryz.func102 rfl (by kernel_rfl) rfl ?_
  conv => whnf
  refine ACall.use (isQuiet_spec x y z m km) ?_
  conv => whnf
  refine ⟨fun h => ?_, fun h => ?_⟩
  · conv => whnf
    refine ACall.use (hasTwo_spec x y) ?_
    conv => whnf
    exact ⟨by rw [key, h, Bool.true_and], rfl⟩
  · conv => whnf
    exact ⟨by rw [key, h, Bool.false_and], rfl⟩
theorem l6Quiet_spec (x y z : Int) (m : List (List Int)) (km : SzM m) : FSpec Tryz.prog 104 [.ag [.c (.int .i64 (x)), .c (.int .i64 (y)), .c (.int .i64 (z)), .t (.rows m)]] (ex (.c (.bool (qpB x y z m))) []) := by
  refine fspec tyOk mx Tryz.func104 rfl (by kernel_rfl) rfl ?_
  conv => whnf
  refine ACall.use (l6Two_spec x y z m km) ?_
  conv => whnf
  refine ⟨fun h => ?_, fun h => ?_⟩
  · have h' := h
    obtain ⟨rfl, rfl, g1, g2, g3, g4⟩ := pairB_spec h
    conv => whnf
    refine ACall.use (l2Quiet_spec 2 2 z m (by omega) (by omega) (by omega) (by omega) g3 (fun r hr => (g4 r hr).1)) ?_
    conv => whnf
    exact ⟨by rw [qpB, h', Bool.true_and], rfl⟩
  · conv => whnf
    exact ⟨by rw [qpB, h, Bool.false_and], rfl⟩
end Go.Proofs.YtkomndcehdneaaaGreat
/- Scaled boxes; mixtures of an equal-sum box and noise: reference and program. -/
namespace Go.Aw
def timesR (k d : Int) (r : List Int) : List Int := r.map fun v => W (Int.tdiv (W (v * k)) d)
def timesL (m : List (List Int)) (k d : Int) : List (List Int) := m.map (timesR k d)
theorem timesL_len (m : List (List Int)) (k d : Int) : (timesL m k d).length = m.length := by simp [timesL]
/-- rows of which the first have something else in them -/
def partW (g : Int → Int) (M : List (List Int)) (i n : Nat) : List (List Int) :=
  (List.range 4).map fun p => (List.range 4).map fun q => if p < i ∨ (p = i ∧ q < n) then g ((M.getD p []).getD q 0) else (M.getD p []).getD q 0
theorem partW_step (g : Int → Int) (M : List (List Int)) {i n : Nat} (hi : i < 4) (hn : n < 4) :
    (partW g M i n).set i (((partW g M i n).getD i []).set n (g (((partW g M i n).getD i []).getD n 0))) = partW g M i (n + 1) := by
  have h1 : i = 0 ∨ i = 1 ∨ i = 2 ∨ i = 3 := by omega
  have h2 : n = 0 ∨ n = 1 ∨ n = 2 ∨ n = 3 := by omega
  rcases h1 with rfl | rfl | rfl | rfl <;> rcases h2 with rfl | rfl | rfl | rfl <;> rfl
theorem partW_end (g : Int → Int) (M : List (List Int)) {i : Nat} (hi : i < 4) : partW g M i 4 = partW g M (i + 1) 0 := by
  have h1 : i = 0 ∨ i = 1 ∨ i = 2 ∨ i = 3 := by omega
  rcases h1 with rfl | rfl | rfl | rfl <;> rfl
theorem partW_len (g : Int → Int) (M : List (List Int)) (i n : Nat) : (partW g M i n).length = 4 := by simp [partW]
theorem partW_row (g : Int → Int) (M : List (List Int)) {i n p : Nat} (hp : p < 4) : ((partW g M i n).getD p []).length = 4 := by
  rw [partW, range_getD hp]; simp
theorem partW_all (g : Int → Int) (f : Nat → Nat → Nat → Nat → Int) : partW g (boxRows f 2 2) 4 0 = boxRows (fun x y a b => g (f x y a b)) 2 2 := rfl
theorem partW_zero (g : Int → Int) (f : Nat → Nat → Nat → Nat → Int) : partW g (boxRows f 2 2) 0 0 = boxRows f 2 2 := rfl
theorem boxRows_rows (f : Nat → Nat → Nat → Nat → Int) (nx ny : Nat) : ∀ r, r ∈ boxRows f nx ny → r.length = 4 := fun q hq => by
  obtain ⟨i, _, hq⟩ := List.mem_flatMap.1 hq
  obtain ⟨j, _, rfl⟩ := List.mem_map.1 hq
  simp [boxRow]
theorem boxRows_get (f : Nat → Nat → Nat → Nat → Int) {x y a b : Nat} (hx : x < 2) (hy : y < 2) (ha : a < 2) (hb : b < 2) : ((boxRows f 2 2).getD (x * 2 + y) []).getD (2 * a + b) 0 = f x y a b := by
  have h1 : x = 0 ∨ x = 1 := by omega
  have h2 : y = 0 ∨ y = 1 := by omega
  have h3 : a = 0 ∨ a = 1 := by omega
  have h4 : b = 0 ∨ b = 1 := by omega
  rcases h1 with rfl | rfl <;> rcases h2 with rfl | rfl <;> rcases h3 with rfl | rfl <;> rcases h4 with rfl | rfl <;> rfl
theorem tdiv_one (a : Int) : a.tdiv 1 = a := Int.tdiv_one a
theorem WW (a : Int) : W (W a) = W a := by
  have hb : -9223372036854775808 ≤ W a ∧ W a ≤ 9223372036854775807 := by
    show -9223372036854775808 ≤ IntKind.i64.wrap _ ∧ IntKind.i64.wrap _ ≤ _
    rw [IntKind.wrap_i64]; omega
  exact w64 hb.1 hb.2
end Go.Aw
namespace Go.Proofs.YtkomndcehdneaaaGreat
open Go.Aw
set_option maxRecDepth 100000
set_option maxHeartbeats 4000000

theorem l2Times_spec (x y z : Int) (m : List (List Int)) (k d : Int) (hd : d ≠ 0) (hm : m.length ≤ 1000) (hr : ∀ r, r ∈ m → r.length ≤ 1000) :
    FSpec Tryz.prog 199 [.ag [.c (.int .i64 (x)), .c (.int .i64 (y)), .c (.int .i64 (z)), .t (.rows m)], .c (.int .i64 (k)), .c (.int .i64 (d))] (ex (.ag [.c (.int .i64 (x)), .c (.int .i64 (y)), .c (.int .i64 (W (Int.tdiv (W (z * k)) d))), .own 0]) [(0, .rows 38 3 true (timesL m k d))]) := by
  refine fspec tyOk mx Tryz.func199 rfl (by kernel_rfl) rfl ?_
  conv => whnf
  refine ADraw.mid (⟨63, [(1, .c (.int .i64 (k))), (2, .c (.int .i64 (d))), (3, .ptr 0 0), (6, .ptr 1 0), (7, .ptr 3 0)], [(0, .cells 26 [.c (.int .i64 (x)), .c (.int .i64 (y)), .c (.int .i64 (z)), .t (.rows m)]), (1, .cells 26 [.c (.int .i64 (0)), .c (.int .i64 (0)), .c (.int .i64 (0)), .c (.slice none 0 0)]), (2, .rows 38 3 true []), (3, .cells 26 [.c (.int .i64 (x)), .c (.int .i64 (y)), .c (.int .i64 (W (Int.tdiv (W (z * k)) d))), .own 2])], 4⟩ : St) (ADraw.plan tyOk mx (.q 0 (.q 1 (.q 2 (.q 3 (.q 4 (.q 5 (.q 6 (.q 7 (.q 8 (.q 9 (.alt 10 (.q 11 (.last 12 (.last 13 (.done)))) (.last 12 (.last 10 (.q 11 (.last 13 (.done))))))))))))))) : Plan) (by kernel_rfl) ?_) ?_
  · conv => whnf
    repeat' (first | (refine ⟨hd, ?_⟩; conv => whnf) | (refine And.intro ?_ ?_ <;> (conv => whnf)))
    all_goals first
      | (refine ⟨[(0, .row 0), (1, .row 1), (2, .row 2), (3, .row 3)], ?_⟩; (refine ⟨rfl, rfl, ?_, ?_⟩ <;> ((repeat' (first | exact trivial | exact rfl | refine And.intro ?_ ?_)) <;> (try ((conv => whnf); first | refine vint ?_ | refine vboo ?_ | refine rint ?_ | refine rrow ?_ | skip)) <;> (try first | omega | (simp; done) | ((repeat rw [flts_closed _ (by assumption)]); exact vws_closed _ (by assumption))))); done)
      | (refine ⟨[(0, .row 0), (1, .row 1), (2, .row 3), (3, .row 2)], ?_⟩; (refine ⟨rfl, rfl, ?_, ?_⟩ <;> ((repeat' (first | exact trivial | exact rfl | refine And.intro ?_ ?_)) <;> (try ((conv => whnf); first | refine vint ?_ | refine vboo ?_ | refine rint ?_ | refine rrow ?_ | skip)) <;> (try first | omega | (simp; done) | ((repeat rw [flts_closed _ (by assumption)]); exact vws_closed _ (by assumption))))); done)
  conv => whnf
  refine aloopI tyOk mx (fun i : Nat => (⟨63, [(1, .c (.int .i64 (k))), (2, .c (.int .i64 (d))), (3, .ptr 0 0), (6, .ptr 1 0), (7, .ptr 3 0), (8, .c (.int .i64 (i)))], [(0, .cells 26 [.c (.int .i64 (x)), .c (.int .i64 (y)), .c (.int .i64 (z)), .t (.rows m)]), (1, .cells 26 [.c (.int .i64 (0)), .c (.int .i64 (0)), .c (.int .i64 (0)), .c (.slice none 0 0)]), (2, .rows 38 3 true (timesL (m.take i) k d)), (3, .cells 26 [.c (.int .i64 (x)), .c (.int .i64 (y)), .c (.int .i64 (W (Int.tdiv (W (z * k)) d))), .own 2])], 4⟩ : St)) (fun i => i ≤ m.length) (fun i => m.length - i) 0 (Nat.zero_le _) none (by refine ⟨rfl, rfl, ?_, ?_⟩ <;> ((repeat' (first | exact trivial | exact rfl | refine And.intro ?_ ?_)) <;> (try ((conv => whnf); first | refine vint ?_ | refine vboo ?_ | refine rint ?_ | refine rrow ?_ | skip)) <;> (try first | omega | (simp; done) | ((repeat rw [flts_closed _ (by assumption)]); exact vws_closed _ (by assumption))))) (fun i hi => ?_)
  have hl : (timesL (m.take i) k d).length = i := by rw [timesL_len, List.length_take]; omega
  refine ⟨fun h => ?_, fun h => ?_⟩
  · have h := ltT h
    have hjc := hr _ (getD_mem (d := []) h)
    conv => whnf
    refine aloopI tyOk mx (fun n : Nat => (⟨63, [(1, .c (.int .i64 (k))), (2, .c (.int .i64 (d))), (3, .ptr 0 0), (6, .ptr 1 0), (7, .ptr 3 0), (8, .c (.int .i64 (i))), (9, .own 4), (10, .c (.int .i64 (n)))], [(0, .cells 26 [.c (.int .i64 (x)), .c (.int .i64 (y)), .c (.int .i64 (z)), .t (.rows m)]), (1, .cells 26 [.c (.int .i64 (0)), .c (.int .i64 (0)), .c (.int .i64 (0)), .c (.slice none 0 0)]), (2, .rows 38 3 true (timesL (m.take i) k d)), (3, .cells 26 [.c (.int .i64 (x)), .c (.int .i64 (y)), .c (.int .i64 (W (Int.tdiv (W (z * k)) d))), .own 2]), (4, .ints 3 .i64 (timesR k d ((m.getD i []).take n)))], 5⟩ : St)) (fun n => n ≤ (m.getD i []).length) (fun n => (m.getD i []).length - n) 0 (Nat.zero_le _) none (by refine ⟨rfl, rfl, ?_, ?_⟩ <;> ((repeat' (first | exact trivial | exact rfl | refine And.intro ?_ ?_)) <;> (try ((conv => whnf); first | refine vint ?_ | refine vboo ?_ | refine rint ?_ | refine rrow ?_ | skip)) <;> (try first | omega | (simp; done) | ((repeat rw [flts_closed _ (by assumption)]); exact vws_closed _ (by assumption))))) (fun n hn => ?_)
    have hl2 : (timesR k d ((m.getD i []).take n)).length = n := by rw [timesR, List.length_map, List.length_take]; omega
    refine ⟨i, rfl, h, fun h2 => ?_, fun h2 => ?_⟩
    · have h2 := ltT h2
      conv => whnf
      refine ⟨i, rfl, h, n, rfl, h2, ?_⟩
      conv => whnf
      refine ⟨hd, ?_⟩
      conv => whnf
      refine ⟨by rw [hl2]; simp [room]; omega, ?_⟩
      conv => whnf
      rw [nat_wrap (by omega)]
      refine ⟨n + 1, none, ?_, by omega, by omega⟩
      (refine ⟨rfl, rfl, ?_, ?_⟩ <;> ((repeat' (first | exact trivial | exact rfl | refine And.intro ?_ ?_)) <;> (try ((conv => whnf); first | refine vint ?_ | refine vboo ?_ | refine rint ?_ | refine rrow ?_ | skip)) <;> (try first | omega | (simp; done) | ((repeat rw [flts_closed _ (by assumption)]); exact vws_closed _ (by assumption)))))
      unfold timesR
      rw [List.take_succ_eq_append_getElem h2, List.map_append, getD_lt h2]; rfl
    · have h2 := ltF h2
      obtain rfl : n = (m.getD i []).length := by omega
      conv => whnf
      refine ⟨by rw [hl]; simp [room]; omega, ?_⟩
      conv => whnf
      rw [nat_wrap (by omega)]
      refine ⟨i + 1, none, ?_, by omega, by omega⟩
      (refine ⟨rfl, rfl, ?_, ?_⟩ <;> ((repeat' (first | exact trivial | exact rfl | refine And.intro ?_ ?_)) <;> (try ((conv => whnf); first | refine vint ?_ | refine vboo ?_ | refine rint ?_ | refine rrow ?_ | skip)) <;> (try first | omega | (simp; done) | ((repeat rw [flts_closed _ (by assumption)]); exact vws_closed _ (by assumption)))))
      unfold timesL
      rw [List.take_succ_eq_append_getElem h, List.map_append, List.take_length, getD_lt h]; rfl
  · have h := ltF h
    obtain rfl : i = m.length := by omega
    conv => whnf
    exact ⟨rfl, by rw [List.take_length]⟩

def nsNum (k sh no : Int) (x y a b : Nat) : Int := W (W (sh * eqNum k x y a b) + no)
def nsM (k sh no : Int) : List (List Int) := boxRows (nsNum k sh no) 2 2
def nsW (sh no : Int) : Int := W (W (2 * sh) + W (4 * no))
def nsIn (k sh no : Int) : Bool := inR k 0 7 && inR sh 0 1000 && inR no 0 1000
def nsOk (k sh no : Int) : Bool := nsIn k sh no && goodB 2 2 (nsW sh no) (nsM k sh no)
def nsR (k sh no : Int) : List (List Int) := if nsOk k sh no then nsM k sh no else []
theorem nsM_sz (k sh no : Int) : SzM (nsM k sh no) := by
  have h1 : (nsM k sh no).length = 4 := boxRows_len _ 2 2
  have h2 := tot_le_mul (m := nsM k sh no) (n := 4) (fun q hq => by rw [boxRows_rows _ _ _ q hq]; omega)
  unfold SzM; omega

theorem l6Kind_spec (k : Int) : FSpec Tryz.prog 203 [.c (.int .i64 (k))] (ex (.c (.bool (inR k 0 7))) []) := by
  refine fspec tyOk mx Tryz.func203 rfl (by kernel_rfl) rfl ?_
  conv => whnf
  refine ACall.use (l1In_spec _ _ _) ?_
  conv => whnf
  exact ⟨rfl, rfl⟩
def tmNum (k sh : Int) (x y a b : Nat) : Int := W (Int.tdiv (W (eqNum k x y a b * sh)) 1)
theorem times_eq (k sh : Int) : timesL (equalM k) sh 1 = boxRows (tmNum k sh) 2 2 := rfl
theorem ns_end (k sh no : Int) : partW (fun v => W (v + no)) (timesL (equalM k) sh 1) 4 0 = nsM k sh no := by
  rw [times_eq, partW_all]
  unfold nsM
  congr 1
  funext x y a b
  unfold nsNum tmNum
  rw [tdiv_one, WW, Int.mul_comm]

theorem NoisySum_s (k : Int) (_hk : InR k) (sh : Int) (_hs : InR sh) (no : Int) (_hn : InR no) : FSpec Tryz.prog 200 [.c (.int .i64 (k)), .c (.int .i64 (sh)), .c (.int .i64 (no))] (ex (.tu [.ag [.c (.int .i64 (if nsOk k sh no then 2 else 0)), .c (.int .i64 (if nsOk k sh no then 2 else 0)), .c (.int .i64 (if nsOk k sh no then nsW sh no else 0)), .own 0], .c (.bool (nsOk k sh no))]) [(0, .rows 38 3 true (nsR k sh no))]) := by
  refine view_box ?_
  refine fspec tyOk mx Tryz.func200 rfl (by kernel_rfl) rfl ?_
  conv => whnf
  refine ACall.use (l6Kind_spec _) ?_
  conv => whnf
  refine ⟨fun h1 => ?_, fun h1 => ?_⟩
  · have h1 : inR k 0 7 = true := by simpa using h1
    conv => whnf
    refine ACall.use (l1In_spec _ _ _) ?_
    conv => whnf
    refine ⟨fun h2 => ?_, fun h2 => ?_⟩
    · have h2 : inR sh 0 1000 = true := by simpa using h2
      conv => whnf
      refine ACall.use (l1In_spec _ _ _) ?_
      conv => whnf
      refine ⟨fun h3 => ?_, fun h3 => ?_⟩
      · have h3 : inR no 0 1000 = true := by simpa using h3
        have e : nsIn k sh no = true := by rw [nsIn, h1, h2, h3]; rfl
        have k1 := inR_iff.1 h1
        have k2 := inR_iff.1 h2
        have k3 := inR_iff.1 h3
        conv => whnf
        refine ⟨fun h4 => ?_, fun h4 => ?_⟩
        · have h4 : W (sh + no) = 0 := by simpa using h4
          rw [show W (sh + no) = sh + no from w64 (by omega) (by omega)] at h4
          have e2 : nsOk k sh no = false := by
            have : sh = 0 := by omega
            have : no = 0 := by omega
            subst_vars
            rw [nsOk, goodB, show inR (nsW 0 0) 1 1000 = false from rfl]; simp
          conv => whnf
          exact .inl ⟨e2, rfl, rfl⟩
        · obtain ⟨kn, rfl⟩ : ∃ n : Nat, k = n := ⟨k.toNat, by omega⟩
          have hlen : (equalM kn).length = 4 := boxRows_len _ 2 2
          have hrw := boxRows_rows (eqNum kn) 2 2
          have ew : W (Int.tdiv (W (2 * sh)) 1) = W (2 * sh) := by rw [tdiv_one, WW]
          conv => whnf
          refine ACall.use (l6Sum_spec kn (by omega)) ?_
          conv => whnf
          refine ACall.use (l2Times_spec 2 2 2 (equalM kn) sh 1 (by decide) (by omega) (fun r hr => by rw [hrw r hr]; omega)) ?_
          rw [ew]
          conv => whnf
          refine aloopI tyOk mx (fun i : Nat => (⟨73, [(2, .c (.int .i64 (no))), (6, .ptr 0 0), (8, .ptr 3 0), (9, .c (.int .i64 (i)))], [(0, .cells 26 [.c (.int .i64 (0)), .c (.int .i64 (0)), .c (.int .i64 (0)), .c (.slice none 0 0)]), (2, .rows 38 3 true (partW (fun v => W (v + no)) (timesL (equalM kn) sh 1) i 0)), (3, .cells 26 [.c (.int .i64 (2)), .c (.int .i64 (2)), .c (.int .i64 (nsW sh no)), .own 2])], 4⟩ : St)) (fun i => i ≤ 4) (fun i => 4 - i) 0 (Nat.zero_le _) none (by refine ⟨rfl, rfl, ?_, ?_⟩ <;> ((repeat' (first | exact trivial | exact rfl | refine And.intro ?_ ?_)) <;> (try ((conv => whnf); first | refine vint ?_ | refine vboo ?_ | refine rint ?_ | refine rrow ?_ | skip)) <;> (try first | omega | (simp; done) | ((repeat rw [flts_closed _ (by assumption)]); exact vws_closed _ (by assumption))))) (fun i hi => ?_)
          have hl := partW_len (fun v => W (v + no)) (timesL (equalM kn) sh 1) i 0
          refine ⟨fun h => ?_, fun h => ?_⟩
          · have h : i < 4 := by have := ltT h; omega
            conv => whnf
            refine aloopI tyOk mx (fun n : Nat => (⟨73, [(2, .c (.int .i64 (no))), (6, .ptr 0 0), (8, .ptr 3 0), (9, .c (.int .i64 (i))), (10, .c (.int .i64 (n)))], [(0, .cells 26 [.c (.int .i64 (0)), .c (.int .i64 (0)), .c (.int .i64 (0)), .c (.slice none 0 0)]), (2, .rows 38 3 true (partW (fun v => W (v + no)) (timesL (equalM kn) sh 1) i n)), (3, .cells 26 [.c (.int .i64 (2)), .c (.int .i64 (2)), .c (.int .i64 (nsW sh no)), .own 2])], 4⟩ : St)) (fun n => n ≤ 4) (fun n => 4 - n) 0 (Nat.zero_le _) none (by refine ⟨rfl, rfl, ?_, ?_⟩ <;> ((repeat' (first | exact trivial | exact rfl | refine And.intro ?_ ?_)) <;> (try ((conv => whnf); first | refine vint ?_ | refine vboo ?_ | refine rint ?_ | refine rrow ?_ | skip)) <;> (try first | omega | (simp; done) | ((repeat rw [flts_closed _ (by assumption)]); exact vws_closed _ (by assumption))))) (fun n hn => ?_)
            have hl2 := partW_len (fun v => W (v + no)) (timesL (equalM kn) sh 1) i n
            have hr2 := partW_row (fun v => W (v + no)) (timesL (equalM kn) sh 1) (i := i) (n := n) h
            refine ⟨fun h5 => ?_, fun h5 => ?_⟩
            · have h5 : n < 4 := by have := of_decide_eq_true h5; omega
              refine ADraw.plan tyOk mx (.q 0 (.q 1 (.q 2 (.q 3 (.q 4 (.q 5 (.q 6 (.q 7 (.q 8 (.q 9 (.q 10 (.q 11 (.q 12 (.q 13 (.q 14 (.q 15 (.q 16 (.last 17 (.done)))))))))))))))))) : Plan) (by kernel_rfl) ?_
              conv => whnf
              repeat' (first | (refine ⟨i, rfl, by omega, ?_⟩; conv => whnf) | (refine ⟨n, rfl, by omega, ?_⟩; conv => whnf) | (refine And.intro ?_ ?_ <;> (conv => whnf)))
              all_goals
                rw [nat_wrap (by omega)]
                refine ⟨n + 1, none, ?_, by omega, by omega⟩
                (refine ⟨rfl, rfl, ?_, ?_⟩ <;> ((repeat' (first | exact trivial | exact rfl | refine And.intro ?_ ?_)) <;> (try ((conv => whnf); first | refine vint ?_ | refine vboo ?_ | refine rint ?_ | refine rrow ?_ | skip)) <;> (try first | omega | (simp; done) | ((repeat rw [flts_closed _ (by assumption)]); exact vws_closed _ (by assumption)))))
                exact partW_step (fun v => W (v + no)) _ h h5
            · have h5 : ¬ n < 4 := by have := of_decide_eq_false h5; omega
              obtain rfl : n = 4 := by omega
              conv => whnf
              rw [nat_wrap (by omega)]
              refine ⟨i + 1, none, ?_, by omega, by omega⟩
              (refine ⟨rfl, rfl, ?_, ?_⟩ <;> ((repeat' (first | exact trivial | exact rfl | refine And.intro ?_ ?_)) <;> (try ((conv => whnf); first | refine vint ?_ | refine vboo ?_ | refine rint ?_ | refine rrow ?_ | skip)) <;> (try first | omega | (simp; done) | ((repeat rw [flts_closed _ (by assumption)]); exact vws_closed _ (by assumption)))))
              exact partW_end _ _ h
          · have h : ¬ i < 4 := by have := ltF h; omega
            obtain rfl : i = 4 := by omega
            have en := ns_end kn sh no
            dsimp only at en ⊢
            rw [en]
            conv => whnf
            refine ACallS.inline tyOk mx Tryz.func202 rfl (by kernel_rfl) rfl ?_
            conv => whnf
            refine ACall.use (l2Box_spec 2 2 (nsW sh no) (nsM kn sh no) (nsM_sz kn sh no)) ?_
            conv => whnf
            refine ⟨fun h4 => ?_, fun h4 => ?_⟩
            · have h4 : goodB 2 2 (nsW sh no) (nsM kn sh no) = false := by simpa using h4
              have e2 : nsOk kn sh no = false := by rw [nsOk, h4, Bool.and_false]
              conv => whnf
              refine ⟨rfl, ?_⟩
              conv => whnf
              exact .inl ⟨e2, rfl, rfl⟩
            · have h4 : goodB 2 2 (nsW sh no) (nsM kn sh no) = true := by simpa using h4
              have e2 : nsOk kn sh no = true := by rw [nsOk, e, h4]; rfl
              conv => whnf
              refine ⟨rfl, ?_⟩
              conv => whnf
              exact .inr ⟨e2, rfl, rfl⟩
      · have h3 : inR no 0 1000 = false := by simpa using h3
        have e : nsOk k sh no = false := by rw [nsOk, nsIn, h3]; simp
        (repeat (conv => whnf); (first | refine ⟨fun h => absurd h (by decide), fun _ => ?_⟩ | refine ⟨fun _ => ?_, fun h => absurd h (by decide)⟩)); conv => whnf
        exact .inl ⟨e, rfl, rfl⟩
    · have h2 : inR sh 0 1000 = false := by simpa using h2
      have e : nsOk k sh no = false := by rw [nsOk, nsIn, h2]; simp
      (repeat (conv => whnf); (first | refine ⟨fun h => absurd h (by decide), fun _ => ?_⟩ | refine ⟨fun _ => ?_, fun h => absurd h (by decide)⟩)); conv => whnf
      exact .inl ⟨e, rfl, rfl⟩
  · have h1 : inR k 0 7 = false := by simpa using h1
    have e : nsOk k sh no = false := by rw [nsOk, nsIn, h1]; simp
    (repeat (conv => whnf); (first | refine ⟨fun h => absurd h (by decide), fun _ => ?_⟩ | refine ⟨fun _ => ?_, fun h => absurd h (by decide)⟩)); conv => whnf
    exact .inl ⟨e, rfl, rfl⟩
theorem NoisySum_bd (k : Int) (_hk : InR k) (sh : Int) (_hs : InR sh) (no : Int) (_hn : InR no) : (nsR k sh no).length ≤ 1048576 ∧ tot (nsR k sh no) ≤ 1048576 := by
  unfold nsR
  split
  · have := (nsM_sz k sh no).all
    omega
  · simp [tot]
end Go.Proofs.YtkomndcehdneaaaGreat
/- Parts of quiet boxes; even boxes: reference and program. -/
namespace Go.Proofs.YtkomndcehdneaaaGreat
open Go.Aw
set_option maxRecDepth 100000
set_option maxHeartbeats 4000000
def esBest (m : List (List Int)) : Nat := bIx (fun i => (esL m).getD i 0) 7
def partN (z s : Int) : Int := W (Int.tdiv (if W (s - W (2 * z)) > 0 then W (s - W (2 * z)) else 0) 2)
theorem esL_len (m : List (List Int)) : (esL m).length = 8 := by simp [esL]

theorem l1Mst_spec (a b : Int) : FSpec Tryz.prog 100 [.c (.int .i64 a), .c (.int .i64 b)] (ex (.c (.int .i64 (if a > b then a else b))) []) := by
  refine fspec tyOk mx Tryz.func100 rfl (by kernel_rfl) rfl ?_
  conv => whnf
  refine ⟨fun h => ?_, fun h => ?_⟩
  · have h := of_decide_eq_true h
    conv => whnf
    exact ⟨by rw [if_pos h], rfl⟩
  · have h := of_decide_eq_false h
    conv => whnf
    exact ⟨by rw [if_neg h], rfl⟩
theorem l6Part_spec (z : Int) (m : List (List Int)) (hm : m.length = 4) (h4 : ∀ r, r ∈ m → r.length = 4) :
    FSpec Tryz.prog 105 [.ag [.c (.int .i64 (2)), .c (.int .i64 (2)), .c (.int .i64 (z)), .t (.rows m)]] (ex (.tu [.c (.int .i64 (esBest m)), .c (.int .i64 (partN z ((esL m).getD (esBest m) 0)))]) []) := by
  have hl := esL_len m
  refine fspec tyOk mx Tryz.func105 rfl (by kernel_rfl) rfl ?_
  conv => whnf
  refine ACall.use (l6Sums_spec z m hm h4) ?_
  conv => whnf
  refine aloopI tyOk mx (fun k : Nat => (⟨36, [(1, .ptr 0 0), (4, .own 1), (5, .c (.int .i64 (bIx (fun i => (esL m).getD i 0) k))), (6, .c (.int .i64 ((k + 1 : Nat))))], [(0, .cells 26 [.c (.int .i64 (2)), .c (.int .i64 (2)), .c (.int .i64 (z)), .t (.rows m)]), (1, .ints 3 .i64 (esL m))], 2⟩ : St)) (fun k => k + 1 ≤ 8) (fun k => 8 - k) 0 (by omega) none (by refine ⟨rfl, rfl, ?_, ?_⟩ <;> ((repeat' (first | exact trivial | exact rfl | refine And.intro ?_ ?_)) <;> (try ((conv => whnf); first | refine vint ?_ | refine vboo ?_ | refine rint ?_ | refine rrow ?_ | skip)) <;> (try first | omega | (simp; done) | ((repeat rw [flts_closed _ (by assumption)]); exact vws_closed _ (by assumption))))) (fun k hk => ?_)
  have hb := bIx_le (fun i => (esL m).getD i 0) k
  refine ⟨fun h => ?_, fun h => ?_⟩
  · have h := ltT h
    refine ADraw.std tyOk mx ⟨by kernel_rfl, k + 1, rfl, h, bIx (fun i => (esL m).getD i 0) k, rfl, by omega, ?_⟩
    conv => whnf
    refine ⟨fun h6 => ?_, fun h6 => ?_⟩
    · have e : bIx (fun i => (esL m).getD i 0) (k + 1) = k + 1 := if_pos (of_decide_eq_true h6)
      conv => whnf
      rw [nat_wrap (by omega)]
      refine ⟨k + 1, none, ?_, by omega, by omega⟩
      dsimp only
      rw [e]
      (refine ⟨rfl, rfl, ?_, ?_⟩ <;> ((repeat' (first | exact trivial | exact rfl | refine And.intro ?_ ?_)) <;> (try ((conv => whnf); first | refine vint ?_ | refine vboo ?_ | refine rint ?_ | refine rrow ?_ | skip)) <;> (try first | omega | (simp; done) | ((repeat rw [flts_closed _ (by assumption)]); exact vws_closed _ (by assumption)))))
    · have e : bIx (fun i => (esL m).getD i 0) (k + 1) = bIx (fun i => (esL m).getD i 0) k := if_neg (of_decide_eq_false h6)
      conv => whnf
      rw [nat_wrap (by omega)]
      refine ⟨k + 1, none, ?_, by omega, by omega⟩
      dsimp only
      rw [e]
      (refine ⟨rfl, rfl, ?_, ?_⟩ <;> ((repeat' (first | exact trivial | exact rfl | refine And.intro ?_ ?_)) <;> (try ((conv => whnf); first | refine vint ?_ | refine vboo ?_ | refine rint ?_ | refine rrow ?_ | skip)) <;> (try first | omega | (simp; done) | ((repeat rw [flts_closed _ (by assumption)]); exact vws_closed _ (by assumption)))))
  · have h := ltF h
    obtain rfl : k = 7 := by omega
    conv => whnf
    refine ADraw.std tyOk mx ⟨by kernel_rfl, esBest m, rfl, by unfold esBest; omega, ?_⟩
    conv => whnf
    refine QCall.use (l1Mst_spec _ _) ?_
    conv => whnf
    refine ⟨by decide, ?_⟩
    conv => whnf
    exact ⟨rfl, rfl⟩
theorem tdiv2 (a : Int) : (0 ≤ a → a.tdiv 2 = a / 2) ∧ (a ≤ 0 → a.tdiv 2 = -((-a) / 2)) := by
  refine ⟨fun h => Int.tdiv_eq_ediv_of_nonneg h, fun h => ?_⟩
  have e : a.tdiv 2 = -((-a).tdiv 2) := by rw [Int.neg_tdiv, Int.neg_neg]
  rw [e, Int.tdiv_eq_ediv_of_nonneg (by omega)]
theorem part_eq (z s : Int) : (if IntKind.i64.wrap (Int.tdiv (IntKind.i64.wrap (s - IntKind.i64.wrap (2 * z))) 2) > 0 then IntKind.i64.wrap (Int.tdiv (IntKind.i64.wrap (s - IntKind.i64.wrap (2 * z))) 2) else 0) = partN z s := by
  unfold partN
  show (if IntKind.i64.wrap (Int.tdiv (W (s - W (2 * z))) 2) > 0 then IntKind.i64.wrap (Int.tdiv (W (s - W (2 * z))) 2) else 0) = _
  have hb : -9223372036854775808 ≤ W (s - W (2 * z)) ∧ W (s - W (2 * z)) ≤ 9223372036854775807 := by
    show -9223372036854775808 ≤ IntKind.i64.wrap _ ∧ IntKind.i64.wrap _ ≤ _
    rw [IntKind.wrap_i64]; omega
  generalize W (s - W (2 * z)) = a at hb ⊢
  obtain ⟨h1, h2⟩ := tdiv2 a
  by_cases h : a > 0
  · have h1 := h1 (by omega)
    have e1 : IntKind.i64.wrap (a.tdiv 2) = a.tdiv 2 := w64 (by omega) (by omega)
    rw [if_pos h, e1]
    show _ = IntKind.i64.wrap (a.tdiv 2)
    rw [e1]
    split <;> omega
  · have h2 := h2 (by omega)
    have e1 : IntKind.i64.wrap (a.tdiv 2) = a.tdiv 2 := w64 (by omega) (by omega)
    rw [if_neg h, e1]
    have : W (Int.tdiv 0 2) = 0 := rfl
    rw [this]
    split <;> omega
theorem part_spec (z : Int) (m : List (List Int)) (hm : m.length = 4) (h4 : ∀ r, r ∈ m → r.length = 4) :
    FSpec Tryz.prog 103 [.ag [.c (.int .i64 (2)), .c (.int .i64 (2)), .c (.int .i64 (z)), .t (.rows m)]] (ex (.tu [.c (.int .i64 (esBest m)), .c (.int .i64 (partN z ((esL m).getD (esBest m) 0)))]) []) := by
  have hl := esL_len m
  refine fspec tyOk mx Tryz.func103 rfl (by kernel_rfl) rfl ?_
  conv => whnf
  refine ACall.use (eightSums_spec z m hm h4) ?_
  conv => whnf
  refine aloopI tyOk mx (fun k : Nat => match k with
    | 0 => (⟨36, [(1, .ptr 0 0), (4, .c (.int .i64 ((0 : Nat)))), (5, .own 1), (10, .own 1), (11, .c (.int .i64 ((esL m).length))), (12, .c (.int .i64 ((0 : Nat))))], [(0, .cells 26 [.c (.int .i64 (2)), .c (.int .i64 (2)), .c (.int .i64 (z)), .t (.rows m)]), (1, .ints 3 .i64 (esL m))], 2⟩ : St)
    | k + 1 => (⟨36, [(1, .ptr 0 0), (4, .c (.int .i64 (bIx (fun i => (esL m).getD i 0) k))), (5, .own 1), (10, .own 1), (11, .c (.int .i64 ((esL m).length))), (12, .c (.int .i64 ((k + 1 : Nat))))], [(0, .cells 26 [.c (.int .i64 (2)), .c (.int .i64 (2)), .c (.int .i64 (z)), .t (.rows m)]), (1, .ints 3 .i64 (esL m))], 2⟩ : St)) (fun k => k ≤ 8) (fun k => 8 - k) 0 (by omega) none (by refine ⟨rfl, rfl, ?_, ?_⟩ <;> ((repeat' (first | exact trivial | exact rfl | refine And.intro ?_ ?_)) <;> (try ((conv => whnf); first | refine vint ?_ | refine vboo ?_ | refine rint ?_ | refine rrow ?_ | skip)) <;> (try first | omega | (simp; done) | ((repeat rw [flts_closed _ (by assumption)]); exact vws_closed _ (by assumption))))) (fun k hk => ?_)
  match k, hk with
  | 0, hk =>
    refine ⟨fun h => ?_, fun h => ?_⟩
    · conv => whnf
      refine ⟨0, rfl, by omega, ?_⟩
      conv => whnf
      refine ⟨0, rfl, by omega, ?_⟩
      conv => whnf
      refine ⟨fun h6 => ?_, fun h6 => ?_⟩
      · have := of_decide_eq_true h6
        omega
      · conv => whnf
        rw [nat_wrap (by omega)]
        refine ⟨1, none, ?_, by omega, by omega⟩
        (refine ⟨rfl, rfl, ?_, ?_⟩ <;> ((repeat' (first | exact trivial | exact rfl | refine And.intro ?_ ?_)) <;> (try ((conv => whnf); first | refine vint ?_ | refine vboo ?_ | refine rint ?_ | refine rrow ?_ | skip)) <;> (try first | omega | (simp; done) | ((repeat rw [flts_closed _ (by assumption)]); exact vws_closed _ (by assumption)))))
    · have h := ltF h
      omega
  | k + 1, hk =>
    have hb := bIx_le (fun i => (esL m).getD i 0) k
    refine ⟨fun h => ?_, fun h => ?_⟩
    · have h := ltT h
      conv => whnf
      refine ⟨k + 1, rfl, h, ?_⟩
      conv => whnf
      refine ⟨bIx (fun i => (esL m).getD i 0) k, rfl, by omega, ?_⟩
      conv => whnf
      refine ⟨fun h6 => ?_, fun h6 => ?_⟩
      · have e : bIx (fun i => (esL m).getD i 0) (k + 1) = k + 1 := if_pos (of_decide_eq_true h6)
        conv => whnf
        rw [nat_wrap (by omega)]
        refine ⟨k + 2, none, ?_, by omega, by omega⟩
        dsimp only
        rw [e]
        (refine ⟨rfl, rfl, ?_, ?_⟩ <;> ((repeat' (first | exact trivial | exact rfl | refine And.intro ?_ ?_)) <;> (try ((conv => whnf); first | refine vint ?_ | refine vboo ?_ | refine rint ?_ | refine rrow ?_ | skip)) <;> (try first | omega | (simp; done) | ((repeat rw [flts_closed _ (by assumption)]); exact vws_closed _ (by assumption)))))
      · have e : bIx (fun i => (esL m).getD i 0) (k + 1) = bIx (fun i => (esL m).getD i 0) k := if_neg (of_decide_eq_false h6)
        conv => whnf
        rw [nat_wrap (by omega)]
        refine ⟨k + 2, none, ?_, by omega, by omega⟩
        dsimp only
        rw [e]
        (refine ⟨rfl, rfl, ?_, ?_⟩ <;> ((repeat' (first | exact trivial | exact rfl | refine And.intro ?_ ?_)) <;> (try ((conv => whnf); first | refine vint ?_ | refine vboo ?_ | refine rint ?_ | refine rrow ?_ | skip)) <;> (try first | omega | (simp; done) | ((repeat rw [flts_closed _ (by assumption)]); exact vws_closed _ (by assumption)))))
    · have h := ltF h
      obtain rfl : k = 7 := by omega
      conv => whnf
      refine ADraw.std tyOk mx ⟨by kernel_rfl, esBest m, rfl, by unfold esBest; omega, ?_⟩
      conv => whnf
      refine ⟨by decide, ?_⟩
      conv => whnf
      exact ⟨by rw [← part_eq]; rfl, rfl⟩

def poK (x y z : Int) (m : List (List Int)) : Int := if qpB x y z m then (esBest m : Int) else 0
def poN (x y z : Int) (m : List (List Int)) : Int := if qpB x y z m then partN z ((esL m).getD (esBest m) 0) else 0
theorem PartOf_s (x y z : Int) (m : List (List Int)) (_hx : InR x) (_hy : InR y) (_hz : InR z) (_hm : OkM m) (km : SzM m) :
    FSpec Tryz.prog 34 [.ag [.c (.int .i64 (x)), .c (.int .i64 (y)), .c (.int .i64 (z)), .t (.rows m)]] (ex (.tu [.c (.int .i64 (poK x y z m)), .c (.int .i64 (poN x y z m)), .c (.bool (qpB x y z m))]) []) := by
  refine fspec tyOk mx Tryz.func34 rfl (by kernel_rfl) rfl ?_
  conv => whnf
  refine ACall.use (l6Quiet_spec x y z m km) ?_
  conv => whnf
  refine ⟨fun h => ?_, fun h => ?_⟩
  · have h : qpB x y z m = false := by simpa using h
    conv => whnf
    exact ⟨by rw [poK, poN, h]; rfl, rfl⟩
  · have h : qpB x y z m = true := by simpa using h
    have h' := h
    obtain ⟨rfl, rfl, g1, g2, g3, g4⟩ := qpB_spec h
    conv => whnf
    refine ACall.use (l6Part_spec z m g3 (fun r hr => (g4 r hr).1)) ?_
    conv => whnf
    exact ⟨by rw [poK, poN, h']; rfl, rfl⟩
theorem PartOf_i (x y z : Int) (m : List (List Int)) (_hx : InR x) (_hy : InR y) (_hz : InR z) (_hm : OkM m) (km : SzM m) :
    FSpec Tryz.prog 33 [.ag [.c (.int .i64 (x)), .c (.int .i64 (y)), .c (.int .i64 (z)), .t (.rows m)]] (ex (.tu [.c (.int .i64 (poK x y z m)), .c (.int .i64 (poN x y z m)), .c (.bool (qpB x y z m))]) []) := by
  refine fspec tyOk mx Tryz.func33 rfl (by kernel_rfl) rfl ?_
  conv => whnf
  refine ACall.use (isQuietPair_spec x y z m km) ?_
  conv => whnf
  refine ⟨fun h => ?_, fun h => ?_⟩
  · have h : qpB x y z m = false := by simpa using h
    conv => whnf
    exact ⟨by rw [poK, poN, h]; rfl, rfl⟩
  · have h : qpB x y z m = true := by simpa using h
    have h' := h
    obtain ⟨rfl, rfl, g1, g2, g3, g4⟩ := qpB_spec h
    conv => whnf
    refine ACall.use (part_spec z m g3 (fun r hr => (g4 r hr).1)) ?_
    conv => whnf
    exact ⟨by rw [poK, poN, h']; rfl, rfl⟩

/-- the sums for the answer 1 -/
def cntL (nx ny : Nat) (m : List (List Int)) : List Int := (List.range nx).map (fun x => one0 (m.getD (x * ny + 0) [])) ++ (List.range ny).map (fun y => one1 (m.getD (0 * ny + y) []))
theorem counts_spec (nx ny : Nat) (z : Int) (m : List (List Int)) (hx : nx ≤ 3) (hy : ny ≤ 3) (hy1 : 1 ≤ ny) (hx1 : 1 ≤ nx) (hm : m.length = nx * ny) (h4 : ∀ r, r ∈ m → r.length = 4) :
    FSpec Tryz.prog 141 [.ag [.c (.int .i64 (nx)), .c (.int .i64 (ny)), .c (.int .i64 (z)), .t (.rows m)]] (ex (.own 0) [(0, .ints 3 .i64 (cntL nx ny m))]) := by
  have hn : nx * ny ≤ 3 * 3 := Nat.mul_le_mul hx hy
  refine fspec tyOk mx Tryz.func141 rfl (by kernel_rfl) rfl ?_
  conv => whnf
  refine ACall.use (questions_spec _ _ _ _) ?_
  conv => whnf
  refine aloopI tyOk mx (fun p : Nat => (⟨29, [(1, .ptr 0 0), (3, .own 1), (4, .ptr 2 0), (10, .c (.int .i64 (p)))], [(0, .cells 26 [.c (.int .i64 (nx)), .c (.int .i64 (ny)), .c (.int .i64 (z)), .t (.rows m)]), (1, .ints 3 .i64 (match p with | 0 => [] | 1 => (List.range nx).map (fun x => one0 (m.getD (x * ny + 0) [])) | _ => cntL nx ny m)), (2, .cells 78 [.c (.int .i64 (nx)), .c (.int .i64 (ny))])], 3⟩ : St)) (fun p => p ≤ 2) (fun p => 2 - p) 0 (by omega) none (by refine ⟨rfl, rfl, ?_, ?_⟩ <;> ((repeat' (first | exact trivial | exact rfl | refine And.intro ?_ ?_)) <;> (try ((conv => whnf); first | refine vint ?_ | refine vboo ?_ | refine rint ?_ | refine rrow ?_ | skip)) <;> (try first | omega | (simp; done) | ((repeat rw [flts_closed _ (by assumption)]); exact vws_closed _ (by assumption))))) (fun p hp => ?_)
  refine ⟨fun h => ?_, fun h => ?_⟩
  · have h : p < 2 := by have := of_decide_eq_true h; omega
    have hp2 : p = 0 ∨ p = 1 := by omega
    rcases hp2 with rfl | rfl
    · conv => whnf
      refine ⟨0, rfl, by omega, by simp, ?_⟩
      conv => whnf
      refine aloopI tyOk mx (fun x : Nat => (⟨29, [(1, .ptr 0 0), (3, .own 1), (4, .ptr 2 0), (5, .c (.int .i64 ((0 : Nat)))), (10, .c (.int .i64 ((0 : Nat)))), (15, .c (.int .i64 (nx))), (16, .c (.int .i64 (x)))], [(0, .cells 26 [.c (.int .i64 (nx)), .c (.int .i64 (ny)), .c (.int .i64 (z)), .t (.rows m)]), (1, .ints 3 .i64 ((List.range x).map (fun x => one0 (m.getD (x * ny + 0) [])))), (2, .cells 78 [.c (.int .i64 (nx)), .c (.int .i64 (ny))])], 3⟩ : St)) (fun x => x ≤ nx) (fun x => nx - x) 0 (Nat.zero_le _) none (by refine ⟨rfl, rfl, ?_, ?_⟩ <;> ((repeat' (first | exact trivial | exact rfl | refine And.intro ?_ ?_)) <;> (try ((conv => whnf); first | refine vint ?_ | refine vboo ?_ | refine rint ?_ | refine rrow ?_ | skip)) <;> (try first | omega | (simp; done) | ((repeat rw [flts_closed _ (by assumption)]); exact vws_closed _ (by assumption))))) (fun x hx2 => ?_)
      refine ⟨fun h2 => ?_, fun h2 => ?_⟩
      · have h2 := ltT h2
        have hlt := ix_lt h2 (show 0 < ny by omega)
        conv => whnf
        refine ACall.use (ones0_spec nx ny x 0 z m (by omega) (by omega) h4) ?_
        conv => whnf
        refine ⟨by simp [room]; omega, ?_⟩
        conv => whnf
        rw [nat_wrap (by omega)]
        refine ⟨x + 1, none, ?_, by omega, by omega⟩
        (refine ⟨rfl, rfl, ?_, ?_⟩ <;> ((repeat' (first | exact trivial | exact rfl | refine And.intro ?_ ?_)) <;> (try ((conv => whnf); first | refine vint ?_ | refine vboo ?_ | refine rint ?_ | refine rrow ?_ | skip)) <;> (try first | omega | (simp; done) | ((repeat rw [flts_closed _ (by assumption)]); exact vws_closed _ (by assumption)))))
        rw [← map_range_succ]; rfl
      · have h2 := ltF h2
        obtain rfl : x = nx := by omega
        conv => whnf
        exact ⟨1, none, (by refine ⟨rfl, rfl, ?_, ?_⟩ <;> ((repeat' (first | exact trivial | exact rfl | refine And.intro ?_ ?_)) <;> (try ((conv => whnf); first | refine vint ?_ | refine vboo ?_ | refine rint ?_ | refine rrow ?_ | skip)) <;> (try first | omega | (simp; done) | ((repeat rw [flts_closed _ (by assumption)]); exact vws_closed _ (by assumption))))), by omega, by omega⟩
    · conv => whnf
      refine ⟨1, rfl, by omega, by simp, ?_⟩
      conv => whnf
      refine aloopI tyOk mx (fun y : Nat => (⟨29, [(1, .ptr 0 0), (3, .own 1), (4, .ptr 2 0), (5, .c (.int .i64 ((1 : Nat)))), (10, .c (.int .i64 ((1 : Nat)))), (15, .c (.int .i64 (ny))), (16, .c (.int .i64 (y)))], [(0, .cells 26 [.c (.int .i64 (nx)), .c (.int .i64 (ny)), .c (.int .i64 (z)), .t (.rows m)]), (1, .ints 3 .i64 ((List.range nx).map (fun x => one0 (m.getD (x * ny + 0) [])) ++ (List.range y).map (fun y => one1 (m.getD (0 * ny + y) [])))), (2, .cells 78 [.c (.int .i64 (nx)), .c (.int .i64 (ny))])], 3⟩ : St)) (fun y => y ≤ ny) (fun y => ny - y) 0 (Nat.zero_le _) none (by refine ⟨rfl, rfl, ?_, ?_⟩ <;> ((repeat' (first | exact trivial | exact rfl | refine And.intro ?_ ?_)) <;> (try ((conv => whnf); first | refine vint ?_ | refine vboo ?_ | refine rint ?_ | refine rrow ?_ | skip)) <;> (try first | omega | (simp; done) | ((repeat rw [flts_closed _ (by assumption)]); exact vws_closed _ (by assumption))))) (fun y hy2 => ?_)
      refine ⟨fun h2 => ?_, fun h2 => ?_⟩
      · have h2 := ltT h2
        have hlt := ix_lt (show 0 < nx by omega) h2
        conv => whnf
        refine ACall.use (ones1_spec nx ny y 0 z m (by omega) (by omega) h4) ?_
        conv => whnf
        refine ⟨by simp [room]; omega, ?_⟩
        conv => whnf
        rw [nat_wrap (by omega)]
        refine ⟨y + 1, none, ?_, by omega, by omega⟩
        (refine ⟨rfl, rfl, ?_, ?_⟩ <;> ((repeat' (first | exact trivial | exact rfl | refine And.intro ?_ ?_)) <;> (try ((conv => whnf); first | refine vint ?_ | refine vboo ?_ | refine rint ?_ | refine rrow ?_ | skip)) <;> (try first | omega | (simp; done) | ((repeat rw [flts_closed _ (by assumption)]); exact vws_closed _ (by assumption)))))
        rw [← map_range_succ, ← List.append_assoc]; rfl
      · have h2 := ltF h2
        obtain rfl : y = ny := by omega
        conv => whnf
        exact ⟨2, none, (by refine ⟨rfl, rfl, ?_, ?_⟩ <;> ((repeat' (first | exact trivial | exact rfl | refine And.intro ?_ ?_)) <;> (try ((conv => whnf); first | refine vint ?_ | refine vboo ?_ | refine rint ?_ | refine rrow ?_ | skip)) <;> (try first | omega | (simp; done) | ((repeat rw [flts_closed _ (by assumption)]); exact vws_closed _ (by assumption))))), by omega, by omega⟩
  · have h : ¬ p < 2 := by have := of_decide_eq_false h; omega
    obtain rfl : p = 2 := by omega
    conv => whnf
    exact ⟨rfl, rfl⟩

end Go.Proofs.YtkomndcehdneaaaGreat
/- Rests of quiet boxes: reference and program. -/
namespace Go.Aw
def partF (T B : Nat → Nat → Int) (i n : Nat) : List (List Int) :=
  (List.range 4).map fun p => (List.range 4).map fun q => if p < i ∨ (p = i ∧ q < n) then T p q else B p q
theorem partF_step (T B : Nat → Nat → Int) {i n : Nat} (hi : i < 4) (hn : n < 4) : (partF T B i n).set i (((partF T B i n).getD i []).set n (T i n)) = partF T B i (n + 1) := by
  have h1 : i = 0 ∨ i = 1 ∨ i = 2 ∨ i = 3 := by omega
  have h2 : n = 0 ∨ n = 1 ∨ n = 2 ∨ n = 3 := by omega
  rcases h1 with rfl | rfl | rfl | rfl <;> rcases h2 with rfl | rfl | rfl | rfl <;> rfl
theorem partF_get (T B : Nat → Nat → Int) {i n : Nat} (hi : i < 4) (hn : n < 4) : ((partF T B i n).getD i []).getD n 0 = B i n := by
  have h1 : i = 0 ∨ i = 1 ∨ i = 2 ∨ i = 3 := by omega
  have h2 : n = 0 ∨ n = 1 ∨ n = 2 ∨ n = 3 := by omega
  rcases h1 with rfl | rfl | rfl | rfl <;> rcases h2 with rfl | rfl | rfl | rfl <;> rfl
theorem partF_end (T B : Nat → Nat → Int) {i : Nat} (hi : i < 4) : partF T B i 4 = partF T B (i + 1) 0 := by
  have h1 : i = 0 ∨ i = 1 ∨ i = 2 ∨ i = 3 := by omega
  rcases h1 with rfl | rfl | rfl | rfl <;> rfl
theorem partF_len (T B : Nat → Nat → Int) (i n : Nat) : (partF T B i n).length = 4 := by simp [partF]
theorem partF_row (T B : Nat → Nat → Int) {i n p : Nat} (hp : p < 4) : ((partF T B i n).getD p []).length = 4 := by
  rw [partF, range_getD hp]; simp
theorem mat_rows (f : Nat → Nat → Nat → Nat → Int) : boxRows f 2 2 = (List.range 4).map fun p => (List.range 4).map fun q => f (p / 2) (p % 2) (q / 2) (q % 2) := rfl
theorem mat_get (f : Nat → Nat → Nat → Nat → Int) {p q : Nat} (hp : p < 4) (hq : q < 4) : ((boxRows f 2 2).getD p []).getD q 0 = f (p / 2) (p % 2) (q / 2) (q % 2) := by
  rw [mat_rows, range_getD hp, range_getD hq]
theorem mat_eta {M : List (List Int)} (h : M.length = 4) (hr : ∀ r, r ∈ M → r.length = 4) : ((List.range 4).map fun p => (List.range 4).map fun q => (M.getD p []).getD q 0) = M := by
  refine List.ext_getElem (by simp [h]) fun p h1 h2 => ?_
  have hrow := hr _ (List.getElem_mem h2)
  simp only [List.getElem_map, List.getElem_range]
  refine List.ext_getElem (by simp [hrow]) fun q h3 h4 => ?_
  simp only [List.getElem_map, List.getElem_range]
  simp [List.getD, h2, h4]
theorem mat_congr {F G : Nat → Nat → Int} (h : ∀ p q, p < 4 → q < 4 → F p q = G p q) : ((List.range 4).map fun p => (List.range 4).map fun q => F p q) = (List.range 4).map fun p => (List.range 4).map fun q => G p q := by
  refine List.map_congr_left fun p hp => List.map_congr_left fun q hq => h p q (by simpa using hp) (by simpa using hq)
theorem times_get {M : List (List Int)} (h : M.length = 4) (hr : ∀ r, r ∈ M → r.length = 4) (k d : Int) {p q : Nat} (hp : p < 4) (hq : q < 4) : ((timesL M k d).getD p []).getD q 0 = W (Int.tdiv (W ((M.getD p []).getD q 0 * k)) d) := by
  have hm : M.getD p [] ∈ M := by rw [List.getD_eq_getElem?_getD, List.getElem?_eq_getElem (by omega)]; exact List.getElem_mem _
  rw [timesL, map_getD (d := []) (by omega), timesR, map_getD (d := 0) (by rw [hr _ hm]; omega)]
end Go.Aw
namespace Go.Proofs.YtkomndcehdneaaaGreat
open Go.Aw
set_option maxRecDepth 100000
set_option maxHeartbeats 4000000

def rsNum (m : List (List Int)) (k : Nat) (N : Int) (x y a b : Nat) : Int := W (W (2 * (m.getD (x * 2 + y) []).getD (2 * a + b) 0) - W (N * eqNum k x y a b))
def rsM (m : List (List Int)) (k : Nat) (N : Int) : List (List Int) := boxRows (rsNum m k N) 2 2
def rsW (z N : Int) : Int := W (W (2 * z) - W (2 * N))
def rsN (z : Int) (m : List (List Int)) : Int := partN z ((esL m).getD (esBest m) 0)
def rsOk (x y z : Int) (m : List (List Int)) : Bool := qpB x y z m && goodB 2 2 (rsW z (rsN z m)) (rsM m (esBest m) (rsN z m))
def rsR (x y z : Int) (m : List (List Int)) : List (List Int) := if rsOk x y z m then rsM m (esBest m) (rsN z m) else []
theorem box_sz (f : Nat → Nat → Nat → Nat → Int) : SzM (boxRows f 2 2) := by
  have h1 : (boxRows f 2 2).length = 4 := boxRows_len _ 2 2
  have h2 := tot_le_mul (m := boxRows f 2 2) (n := 4) (fun q hq => by rw [boxRows_rows _ _ _ q hq]; omega)
  unfold SzM; omega
theorem esBest_lt (m : List (List Int)) : esBest m < 8 := by
  have := bIx_le (fun i => (esL m).getD i 0) 7
  unfold esBest; omega

end Go.Proofs.YtkomndcehdneaaaGreat
/- Boxes that are evened out: what both make, and the parts that are walked. -/
namespace Go.Aw
def revN (m : List (List Int)) (x y a b : Nat) : Int := (m.getD (x * 2 + y) []).getD (3 - (2 * a + b)) 0
def revM (m : List (List Int)) : List (List Int) := boxRows (revN m) 2 2
def eoN (m : List (List Int)) (x y a b : Nat) : Int := W ((m.getD (x * 2 + y) []).getD (2 * a + b) 0 + ((revM m).getD (x * 2 + y) []).getD (2 * a + b) 0)
def eoM (m : List (List Int)) : List (List Int) := boxRows (eoN m) 2 2
theorem sum4 (a b c d : Int) (h1 : 0 ≤ a ∧ a ≤ 2000) (h2 : 0 ≤ b ∧ b ≤ 2000) (h3 : 0 ≤ c ∧ c ≤ 2000) (h4 : 0 ≤ d ∧ d ≤ 2000) : sumF [a, b, c, d] 4 = a + b + c + d := by
  show W (W (W (W (0 + a) + b) + c) + d) = _
  have e : ∀ n : Int, 0 ≤ n → n ≤ 1000000 → W n = n := fun n h h' => w64 (by omega) (by omega)
  rw [e (0 + a) (by omega) (by omega), e (0 + a + b) (by omega) (by omega), e (0 + a + b + c) (by omega) (by omega), e (0 + a + b + c + d) (by omega) (by omega)]
  omega
theorem row4 {r : List Int} {z : Int} (hz : z ≤ 1000) (hl : r.length = 4) (hb : ∀ v, v ∈ r → 0 ≤ v ∧ v ≤ z) (hs : sumF r r.length = z) :
    ∃ a b c d : Int, r = [a, b, c, d] ∧ 0 ≤ a ∧ 0 ≤ b ∧ 0 ≤ c ∧ 0 ≤ d ∧ a + b + c + d = z := by
  match r, hl with
  | [a, b, c, d], _ =>
    have h1 := hb a (by simp)
    have h2 := hb b (by simp)
    have h3 := hb c (by simp)
    have h4 := hb d (by simp)
    have := sum4 a b c d (by omega) (by omega) (by omega) (by omega)
    exact ⟨a, b, c, d, rfl, h1.1, h2.1, h3.1, h4.1, by rw [← this]; exact hs⟩
end Go.Aw
namespace Go.Proofs.YtkomndcehdneaaaGreat
open Go.Aw
set_option maxRecDepth 100000
set_option maxHeartbeats 4000000

theorem rowOk_mk {a b c d z : Int} (ha : 0 ≤ a) (hb : 0 ≤ b) (hc : 0 ≤ c) (hd : 0 ≤ d) (hs : a + b + c + d = z) (hz : z ≤ 1000) : rowOk z [a, b, c, d] = true := by
  have h := sum4 a b c d (by omega) (by omega) (by omega) (by omega)
  unfold rowOk
  rw [show sumF [a, b, c, d] [a, b, c, d].length = a + b + c + d from h, hs]
  have : rowIn [a, b, c, d] 0 z = true := rowIn_iff.2 fun v hv => by
    simp only [List.mem_cons, List.not_mem_nil, or_false] at hv
    rcases hv with rfl | rfl | rfl | rfl <;> omega
  rw [this]; simp
theorem good4 {z : Int} {r0 r1 r2 r3 : List Int} (h1 : 1 ≤ z) (h2 : z ≤ 1000) (k0 : rowOk z r0 = true) (k1 : rowOk z r1 = true) (k2 : rowOk z r2 = true) (k3 : rowOk z r3 = true) : goodB 2 2 z [r0, r1, r2, r3] = true := by
  have hz : inR z 1 1000 = true := inR_iff.2 ⟨h1, h2⟩
  simp [goodB, hz, k0, k1, k2, k3]; rfl
theorem eo_good {x y z : Int} {m : List (List Int)} (h : pairB x y z m = true) : goodB 2 2 z (revM m) = true ∧ (z + z ≤ 1000 → goodB 2 2 (z + z) (eoM m) = true) := by
  obtain ⟨rfl, rfl, g1, g2, g3, g4⟩ := pairB_spec h
  match m, g3 with
  | [r0, r1, r2, r3], _ =>
    have q0 := g4 r0 (by simp)
    have q1 := g4 r1 (by simp)
    have q2 := g4 r2 (by simp)
    have q3 := g4 r3 (by simp)
    obtain ⟨a0, b0, c0, d0, rfl, u0, v0, w0, x0, s0⟩ := row4 g2 q0.1 q0.2.1 q0.2.2
    obtain ⟨a1, b1, c1, d1, rfl, u1, v1, w1, x1, s1⟩ := row4 g2 q1.1 q1.2.1 q1.2.2
    obtain ⟨a2, b2, c2, d2, rfl, u2, v2, w2, x2, s2⟩ := row4 g2 q2.1 q2.2.1 q2.2.2
    obtain ⟨a3, b3, c3, d3, rfl, u3, v3, w3, x3, s3⟩ := row4 g2 q3.1 q3.2.1 q3.2.2
    refine ⟨good4 (r0 := [d0, c0, b0, a0]) (r1 := [d1, c1, b1, a1]) (r2 := [d2, c2, b2, a2]) (r3 := [d3, c3, b3, a3]) g1 g2 (rowOk_mk x0 w0 v0 u0 (by omega) g2) (rowOk_mk x1 w1 v1 u1 (by omega) g2) (rowOk_mk x2 w2 v2 u2 (by omega) g2) (rowOk_mk x3 w3 v3 u3 (by omega) g2), fun hz => ?_⟩
    have e : ∀ n : Int, 0 ≤ n → n ≤ 1000000 → W n = n := fun n h h' => w64 (by omega) (by omega)
    have em : eoM [[a0, b0, c0, d0], [a1, b1, c1, d1], [a2, b2, c2, d2], [a3, b3, c3, d3]] = [[W (a0 + d0), W (b0 + c0), W (c0 + b0), W (d0 + a0)], [W (a1 + d1), W (b1 + c1), W (c1 + b1), W (d1 + a1)], [W (a2 + d2), W (b2 + c2), W (c2 + b2), W (d2 + a2)], [W (a3 + d3), W (b3 + c3), W (c3 + b3), W (d3 + a3)]] := rfl
    rw [em]
    refine good4 (by omega) hz ?_ ?_ ?_ ?_
    · rw [e (a0 + d0) (by omega) (by omega), e (b0 + c0) (by omega) (by omega), e (c0 + b0) (by omega) (by omega), e (d0 + a0) (by omega) (by omega)]
      exact rowOk_mk (by omega) (by omega) (by omega) (by omega) (by omega) hz
    · rw [e (a1 + d1) (by omega) (by omega), e (b1 + c1) (by omega) (by omega), e (c1 + b1) (by omega) (by omega), e (d1 + a1) (by omega) (by omega)]
      exact rowOk_mk (by omega) (by omega) (by omega) (by omega) (by omega) hz
    · rw [e (a2 + d2) (by omega) (by omega), e (b2 + c2) (by omega) (by omega), e (c2 + b2) (by omega) (by omega), e (d2 + a2) (by omega) (by omega)]
      exact rowOk_mk (by omega) (by omega) (by omega) (by omega) (by omega) hz
    · rw [e (a3 + d3) (by omega) (by omega), e (b3 + c3) (by omega) (by omega), e (c3 + b3) (by omega) (by omega), e (d3 + a3) (by omega) (by omega)]
      exact rowOk_mk (by omega) (by omega) (by omega) (by omega) (by omega) hz

theorem xor1 {a x : Nat} (ha : a < 2) (hx : x < 4) : bits .xor .i64 (a : Int) (([1, 1, 1, 1] : List Int).getD x 0) = ((1 - a : Nat) : Int) := by
  have : ∀ a : Nat, a < 2 → ∀ x : Nat, x < 4 → bits .xor .i64 (a : Int) (([1, 1, 1, 1] : List Int).getD x 0) = ((1 - a : Nat) : Int) := by decide +kernel
  exact this a ha x hx

theorem flN_spec (m : List (List Int)) (hm : m.length = 4) (h4 : ∀ r, r ∈ m → r.length = 4) (z : Int) (x y a b : Nat) (hx : x < 2) (hy : y < 2) (ha : a < 2) (hb : b < 2) :
    FSpec Tryz.prog 162 [.c (.int .i64 (x)), .c (.int .i64 (y)), .c (.int .i64 (a)), .c (.int .i64 (b)), .rp [.c (.int .i64 (2)), .c (.int .i64 (2)), .c (.int .i64 (z)), .t (.rows m)] 0, .rp [.t (.ints .i64 [1, 1, 1, 1])] 0] (ex (.c (.int .i64 (revN m x y a b))) []) := by
  have hr2 := h4 _ (getD_mem (d := []) (show x * 2 + y < m.length by omega))
  have e1 := xor1 (x := x) ha (by omega)
  have e2 := xor1 (x := 2 + y) hb (by omega)
  refine fspec tyOk mx Tryz.func162 rfl (by kernel_rfl) rfl ?_
  conv => whnf
  refine ADraw.plan tyOk mx (.q 0 (.q 1 (.q 2 (.q 3 (.q 4 (.q 5 (.q 6 (.q 7 (.q 8 (.q 9 (.q 10 (.q 11 (.q 12 (.q 13 (.q 14 (.q 15 (.q 16 (.q 17 (.last 18 (.q 19 (.done)))))))))))))))))))) : Plan) (by kernel_rfl) ?_
  conv => whnf
  refine ⟨x, rfl, (show x < 4 by omega), ?_⟩
  conv => whnf
  refine ⟨2 + y, by rw [show (2 : Int) + (y : Int) = ((2 + y : Nat) : Int) by omega]; exact w64 (by omega) (by omega), (show 2 + y < 4 by omega), ?_⟩
  conv => whnf
  rw [e1, e2]
  refine ACall.useR (at_spec 2 2 x y (1 - a) (1 - b) z m (by omega) (by omega) (by omega) (by omega)) ?_
  conv => whnf
  refine ⟨?_, rfl⟩
  rw [revN, show 3 - (2 * a + b) = 2 * (1 - a) + (1 - b) by omega]

theorem flipped_spec (m : List (List Int)) (hm : m.length = 4) (h4 : ∀ r, r ∈ m → r.length = 4) (z : Int) :
    FSpec Tryz.prog 87 [.ag [.c (.int .i64 (2)), .c (.int .i64 (2)), .c (.int .i64 (z)), .t (.rows m)], .t (.ints .i64 [1, 1, 1, 1])] (ex (.ag [.c (.int .i64 (2)), .c (.int .i64 (2)), .c (.int .i64 (z)), .own 0]) [(0, .rows 38 3 true (revM m))]) := by
  refine fspec tyOk mx Tryz.func87 rfl (by kernel_rfl) rfl ?_
  conv => whnf
  refine ACall.use (newBox_spec 2 2 z _ [.rp [.c (.int .i64 (2)), .c (.int .i64 (2)), .c (.int .i64 (z)), .t (.rows m)] 0, .rp [.t (.ints .i64 [1, 1, 1, 1])] 0] (revN m) (by omega) (by omega) (fun _ _ => rfl) rfl (fun i k' a b hi hk ha hb => flN_spec m hm h4 z i k' a b hi hk ha hb)) ?_
  conv => whnf
  exact ⟨rfl, rfl⟩




def eoOk (x y z : Int) (m : List (List Int)) : Bool := pairB x y z m && decide (z + z ≤ 1000)
def eoR (x y z : Int) (m : List (List Int)) : List (List Int) := if eoOk x y z m then eoM m else []
end Go.Proofs.YtkomndcehdneaaaGreat
/- Signs of sums, quiet boxes of two questions each, row by row. -/
namespace Go.Proofs.YtkomndcehdneaaaGreat
open Go.Aw
set_option maxRecDepth 100000
set_option maxHeartbeats 4000000

theorem wS {n : Int} (h : -1000000000000 ≤ n) (h' : n ≤ 1000000000000) : W n = n := w64 (by omega) (by omega)
/-- the sign of a row in a sum -/
def sg (k x y : Nat) : Int := W (1 - W (2 * oddAt k x y))
theorem sg_pm {k x y : Nat} (hk : k < 8) (hx : x < 2) (hy : y < 2) : sg k x y = 1 ∨ sg k x y = -1 := by
  have : ∀ k : Nat, k < 8 → ∀ x : Nat, x < 2 → ∀ y : Nat, y < 2 → sg k x y = 1 ∨ sg k x y = -1 := by decide +kernel
  exact this k hk x hx y hy
theorem agr4 {a b c d : Int} (ha : -100000 ≤ a ∧ a ≤ 100000) (hb : -100000 ≤ b ∧ b ≤ 100000) (hc : -100000 ≤ c ∧ c ≤ 100000) (hd : -100000 ≤ d ∧ d ≤ 100000) : agr [a, b, c, d] = a - b - c + d := by
  show W (W (W (a - b) - c) + d) = _
  rw [wS (n := a - b) (by omega) (by omega), wS (n := a - b - c) (by omega) (by omega), wS (by omega) (by omega)]
/-- a sum, of four agreements -/
theorem esTo_eq {k : Nat} (hk : k < 8) {r0 r1 r2 r3 : List Int} {g0 g1 g2 g3 : Int} (e0 : agr r0 = g0) (e1 : agr r1 = g1) (e2 : agr r2 = g2) (e3 : agr r3 = g3)
    (h0 : -400000 ≤ g0 ∧ g0 ≤ 400000) (h1 : -400000 ≤ g1 ∧ g1 ≤ 400000) (h2 : -400000 ≤ g2 ∧ g2 ≤ 400000) (h3 : -400000 ≤ g3 ∧ g3 ≤ 400000) :
    esTo k [r0, r1, r2, r3] 2 = sg k 0 0 * g0 + sg k 0 1 * g1 + sg k 1 0 * g2 + sg k 1 1 * g3 := by
  show W (W (W (W (0 + W (agr r0 * sg k 0 0)) + W (agr r1 * sg k 0 1)) + W (agr r2 * sg k 1 0)) + W (agr r3 * sg k 1 1)) = _
  rw [e0, e1, e2, e3]
  have s0 := sg_pm hk (x := 0) (y := 0) (by omega) (by omega)
  have s1 := sg_pm hk (x := 0) (y := 1) (by omega) (by omega)
  have s2 := sg_pm hk (x := 1) (y := 0) (by omega) (by omega)
  have s3 := sg_pm hk (x := 1) (y := 1) (by omega) (by omega)
  generalize sg k 0 0 = t0 at *
  generalize sg k 0 1 = t1 at *
  generalize sg k 1 0 = t2 at *
  generalize sg k 1 1 = t3 at *
  have p0 : -400000 ≤ t0 * g0 ∧ t0 * g0 ≤ 400000 := by rcases s0 with rfl | rfl <;> omega
  have p1 : -400000 ≤ t1 * g1 ∧ t1 * g1 ≤ 400000 := by rcases s1 with rfl | rfl <;> omega
  have p2 : -400000 ≤ t2 * g2 ∧ t2 * g2 ≤ 400000 := by rcases s2 with rfl | rfl <;> omega
  have p3 : -400000 ≤ t3 * g3 ∧ t3 * g3 ≤ 400000 := by rcases s3 with rfl | rfl <;> omega
  rw [Int.mul_comm g0, Int.mul_comm g1, Int.mul_comm g2, Int.mul_comm g3]
  rw [wS (n := t0 * g0) (by omega) (by omega), wS (n := t1 * g1) (by omega) (by omega), wS (n := t2 * g2) (by omega) (by omega), wS (n := t3 * g3) (by omega) (by omega)]
  rw [wS (n := 0 + t0 * g0) (by omega) (by omega), wS (n := 0 + t0 * g0 + t1 * g1) (by omega) (by omega), wS (n := 0 + t0 * g0 + t1 * g1 + t2 * g2) (by omega) (by omega), wS (by omega) (by omega)]
  omega
theorem esL_get {m : List (List Int)} {k : Nat} (hk : k < 8) : (esL m).getD k 0 = esTo k m 2 := range_getD hk

def eqSg (k x y : Nat) : Bool := (sg k x y == 1 && eqNum k x y 0 0 == 1 && eqNum k x y 0 1 == 0 && eqNum k x y 1 0 == 0 && eqNum k x y 1 1 == 1) || (sg k x y == -1 && eqNum k x y 0 0 == 0 && eqNum k x y 0 1 == 1 && eqNum k x y 1 0 == 1 && eqNum k x y 1 1 == 0)
theorem eq_sg {k x y : Nat} (hk : k < 8) (hx : x < 2) (hy : y < 2) : (sg k x y = 1 ∧ eqNum k x y 0 0 = 1 ∧ eqNum k x y 0 1 = 0 ∧ eqNum k x y 1 0 = 0 ∧ eqNum k x y 1 1 = 1) ∨
      (sg k x y = -1 ∧ eqNum k x y 0 0 = 0 ∧ eqNum k x y 0 1 = 1 ∧ eqNum k x y 1 0 = 1 ∧ eqNum k x y 1 1 = 0) := by
  have : ∀ k : Nat, k < 8 → ∀ x : Nat, x < 2 → ∀ y : Nat, y < 2 → eqSg k x y = true := by decide +kernel
  have h := this k hk x hx y hy
  simp only [eqSg, Bool.or_eq_true, Bool.and_eq_true, beq_iff_eq] at h
  rcases h with ⟨⟨⟨⟨a, b⟩, c⟩, d⟩, e⟩ | ⟨⟨⟨⟨a, b⟩, c⟩, d⟩, e⟩
  · exact .inl ⟨a, b, c, d, e⟩
  · exact .inr ⟨a, b, c, d, e⟩
theorem quiet_2 (a b c d : List Int) : quietF 2 2 [a, b, c, d] = (((one0 b == one0 a)) && ((one0 d == one0 c)) && (((one1 c == one1 a)) && ((one1 d == one1 b)))) := by
  simp [quietF, q0r, q1r, q0, q1, List.range_succ]
theorem bIx_ge (f : Nat → Int) : ∀ n k, k ≤ n → f k ≤ f (bIx f n)
  | 0, k, h => by
    obtain rfl : k = 0 := by omega
    exact Int.le_refl _
  | n + 1, k, h => by
    rw [bIx]
    split
    · rename_i hg
      by_cases hk : k = n + 1
      · subst hk; omega
      · have := bIx_ge f n k (by omega); omega
    · rename_i hg
      by_cases hk : k = n + 1
      · subst hk; omega
      · exact bIx_ge f n k (by omega)
end Go.Proofs.YtkomndcehdneaaaGreat
/- The types of this program, more of them. -/
namespace Go.Aw
theorem FSpec.toldL {P : Program} {f : FuncId} {args : List AVal} {x x' : AVal} {h : List (Nat × ARow)} (hs : FSpec P f args (ex x h)) (hv : vw h [] 0 x x') : FSpec P f args (ex x' []) :=
  hs.view (fun y hr e => by obtain ⟨rfl, rfl⟩ := e; exact ⟨[], x', [], rfl, trivial, hv, rfl, rfl⟩)
end Go.Aw
namespace Go.Proofs.YtkomndcehdneaaaGreat.L
open Go.Aw
def ty : Tys := [
 (3, ⟨.int .i64, 1, 8, [.int .i64 0]⟩),
 (38, ⟨.slice 3, 1, 24, [.slice none 0 0]⟩),
 (24, ⟨.slice 38, 1, 24, [.slice none 0 0]⟩),
 (154, ⟨.int .u64, 1, 8, [.int .u64 0]⟩),
 (26, ⟨.struct [(0, 3), (1, 3), (2, 3), (3, 24)], 4, 48, [.int .i64 0, .int .i64 0, .int .i64 0, .slice none 0 0]⟩),
 (41, ⟨.struct [(0, 3), (1, 3), (2, 38), (3, 24)], 4, 64, [.int .i64 0, .int .i64 0, .slice none 0 0, .slice none 0 0]⟩),
 (78, ⟨.array 2 3, 2, 16, [.int .i64 0, .int .i64 0]⟩),
 (131, ⟨.slice 78, 1, 24, [.slice none 0 0]⟩),
 (151, ⟨.array 4 3, 4, 32, [.int .i64 0, .int .i64 0, .int .i64 0, .int .i64 0]⟩),
 (128, ⟨.array 2 26, 8, 96, [.int .i64 0, .int .i64 0, .int .i64 0, .slice none 0 0, .int .i64 0, .int .i64 0, .int .i64 0, .slice none 0 0]⟩),
 (121, ⟨.struct [(0, 3), (1, 78), (3, 78), (5, 3), (6, 4)], 7, 56, [.int .i64 0, .int .i64 0, .int .i64 0, .int .i64 0, .int .i64 0, .int .i64 0, .bool false]⟩),
 (98, ⟨.slice 26, 1, 24, [.slice none 0 0]⟩),
 (5, ⟨.int .u8, 1, 1, [.int .u8 0]⟩),
 (22, ⟨.slice 5, 1, 24, [.slice none 0 0]⟩),
 (72, ⟨.int .u64, 1, 8, [.int .u64 0]⟩),
 (74, ⟨.struct [(0, 22), (1, 3), (2, 72)], 3, 40, [.slice none 0 0, .int .i64 0, .int .u64 0]⟩),
  (4, ⟨.bool, 1, 1, [.bool false]⟩)]
theorem tyOk : TysOk Tryz.prog ty :=
  ⟨TyOk.of (z := .int .i64 0) Tryz.underlying3 (by kernel_rfl) rfl,
     TyOk.of (z := .slice none 0 0) Tryz.underlying38 (by kernel_rfl) rfl,
     TyOk.of (z := .slice none 0 0) Tryz.underlying24 (by kernel_rfl) rfl,
     TyOk.of (z := .int .u64 0) Tryz.underlying154 (by kernel_rfl) rfl,
     TyOk.of (z := .agg #[.int .i64 0, .int .i64 0, .int .i64 0, .slice none 0 0]) ⟨_, Tryz.underlying26, rfl⟩ (by kernel_rfl) rfl,
     TyOk.of (z := .agg #[.int .i64 0, .int .i64 0, .slice none 0 0, .slice none 0 0]) ⟨_, Tryz.underlying41, rfl⟩ (by kernel_rfl) rfl,
     TyOk.of (z := .agg #[.int .i64 0, .int .i64 0]) Tryz.underlying78 (by kernel_rfl) rfl,
     TyOk.of (z := .slice none 0 0) Tryz.underlying131 (by kernel_rfl) rfl,
     TyOk.of (z := .agg #[.int .i64 0, .int .i64 0, .int .i64 0, .int .i64 0]) Tryz.underlying151 (by kernel_rfl) rfl,
     TyOk.of (z := .agg #[.int .i64 0, .int .i64 0, .int .i64 0, .slice none 0 0, .int .i64 0, .int .i64 0, .int .i64 0, .slice none 0 0]) Tryz.underlying128 (by kernel_rfl) rfl,
     TyOk.of (z := .agg #[.int .i64 0, .int .i64 0, .int .i64 0, .int .i64 0, .int .i64 0, .int .i64 0, .bool false]) ⟨_, Tryz.underlying121, rfl⟩ (by kernel_rfl) rfl,
     TyOk.of (z := .slice none 0 0) Tryz.underlying98 (by kernel_rfl) rfl,
     TyOk.of (z := .int .u8 0) Tryz.underlying5 (by kernel_rfl) rfl,
     TyOk.of (z := .slice none 0 0) Tryz.underlying22 (by kernel_rfl) rfl,
     TyOk.of (z := .int .u64 0) Tryz.underlying72 (by kernel_rfl) rfl,
     TyOk.of (z := .agg #[.slice none 0 0, .int .i64 0, .int .u64 0]) ⟨_, Tryz.underlying74, rfl⟩ (by kernel_rfl) rfl,
   TyOk.of (z := .bool false) Tryz.underlying4 (by kernel_rfl) rfl,
   trivial⟩
end Go.Proofs.YtkomndcehdneaaaGreat.L
/- Sums of four agreements: pairs of questions, one sum; reference and program. -/
namespace Go.Aw
/-- the pairs that begin with one number, in order -/
def prRow (a k : Nat) : List (List Int × List (List Int)) := (List.range k).map fun j => ([(a : Int), ((a + 1 + j : Nat) : Int)], [])
/-- the pairs that begin with numbers less than i -/
def prTo (n i : Nat) : List (List Int × List (List Int)) := (List.range i).flatMap fun a => prRow a (n - (a + 1))
def prs (n : Nat) : List (List Int × List (List Int)) := prTo n n
theorem prRow_succ (a k : Nat) : prRow a k ++ [([(a : Int), ((a + 1 + k : Nat) : Int)], [])] = prRow a (k + 1) := by simp [prRow, List.range_succ]
theorem prTo_succ (n i : Nat) : prTo n i ++ prRow i (n - (i + 1)) = prTo n (i + 1) := by simp [prTo, List.range_succ]
theorem prRow_len (a k : Nat) : (prRow a k).length = k := by simp [prRow]
theorem prTo_len (n : Nat) (hn : n ≤ 1000) : ∀ i, i ≤ n → (prTo n i).length ≤ i * 1000
  | 0, _ => by simp [prTo]
  | i + 1, h => by
    rw [← prTo_succ, List.length_append, prRow_len]
    have := prTo_len n hn i (by omega)
    omega
/-- what the pairs are -/
theorem prs_at {n i : Nat} (hn : n ≤ 3) (h : i < (prs n).length) : ∃ a b : Nat, (prs n).getD i ([], []) = ([(a : Int), (b : Int)], []) ∧ a < b ∧ b < n := by
  have h3 : n = 0 ∨ n = 1 ∨ n = 2 ∨ n = 3 := by omega
  rcases h3 with rfl | rfl | rfl | rfl
  · simp [prs, prTo] at h
  · simp [prs, prTo, prRow] at h
  · have hl : (prs 2).length = 1 := by decide
    have : i = 0 := by omega
    subst this; exact ⟨0, 1, rfl, by omega, by omega⟩
  · have hl : (prs 3).length = 3 := by decide
    have : i = 0 ∨ i = 1 ∨ i = 2 := by omega
    rcases this with rfl | rfl | rfl
    · exact ⟨0, 1, rfl, by omega, by omega⟩
    · exact ⟨0, 2, rfl, by omega, by omega⟩
    · exact ⟨1, 2, rfl, by omega, by omega⟩
theorem prs_len {n : Nat} (hn : n ≤ 3) : (prs n).length ≤ 3 := by
  have h3 : n = 0 ∨ n = 1 ∨ n = 2 ∨ n = 3 := by omega
  rcases h3 with rfl | rfl | rfl | rfl <;> decide
/-- each pair is among them -/
theorem prs_all {n a b : Nat} (hn : n ≤ 3) (h1 : a < b) (h2 : b < n) : ∃ i, i < (prs n).length ∧ (prs n).getD i ([], []) = ([(a : Int), (b : Int)], []) := by
  have h3 : n = 2 ∨ n = 3 := by omega
  rcases h3 with rfl | rfl
  · have : a = 0 ∧ b = 1 := by omega
    obtain ⟨rfl, rfl⟩ := this
    exact ⟨0, by decide, rfl⟩
  · have : (a = 0 ∧ b = 1) ∨ (a = 0 ∧ b = 2) ∨ (a = 1 ∧ b = 2) := by omega
    rcases this with ⟨rfl, rfl⟩ | ⟨rfl, rfl⟩ | ⟨rfl, rfl⟩
    · exact ⟨0, by decide, rfl⟩
    · exact ⟨1, by decide, rfl⟩
    · exact ⟨2, by decide, rfl⟩

/-- a sum of four agreements, one with a minus -/
def agAt (m : List (List Int)) (p : Nat) : Int := agr (m.getD p [])
def sgn (k j : Nat) (x : Int) : Int := if j = k then -x else x
def sum4V (ny : Nat) (m : List (List Int)) (a b c d k : Nat) : Int :=
  sgn k 0 (agAt m (a * ny + c)) + sgn k 1 (agAt m (a * ny + d)) + sgn k 2 (agAt m (b * ny + c)) + sgn k 3 (agAt m (b * ny + d))
/-- agreements that are not too great -/
def AgB (m : List (List Int)) : Prop := ∀ p, -1000 ≤ agAt m p ∧ agAt m p ≤ 1000
theorem sgn_bd {m : List (List Int)} (h : AgB m) (k j p : Nat) : -1000 ≤ sgn k j (agAt m p) ∧ sgn k j (agAt m p) ≤ 1000 := by
  have := h p
  unfold sgn; split <;> omega
theorem sum4_bd {m : List (List Int)} (h : AgB m) (ny a b c d k : Nat) : -4000 ≤ sum4V ny m a b c d k ∧ sum4V ny m a b c d k ≤ 4000 := by
  have h0 := sgn_bd h k 0 (a * ny + c)
  have h1 := sgn_bd h k 1 (a * ny + d)
  have h2 := sgn_bd h k 2 (b * ny + c)
  have h3 := sgn_bd h k 3 (b * ny + d)
  unfold sum4V; omega
end Go.Aw
namespace Go.Proofs.YtkomndcehdneaaaGreat.L
open Go.Aw
set_option maxRecDepth 100000
set_option maxHeartbeats 4000000

theorem ag_bd {m : List (List Int)} {z : Int} (hz : z ≤ 1000) (hm : ∀ r, r ∈ m → r.length = 4 ∧ (∀ v, v ∈ r → 0 ≤ v ∧ v ≤ z) ∧ sumF r r.length = z) : AgB m := fun p => by
  unfold agAt
  by_cases hp : p < m.length
  · obtain ⟨h1, h2, h3⟩ := hm _ (getD_mem (d := []) hp)
    obtain ⟨a, b, c, d, e, ha, hb, hc, hd, hs⟩ := row4 hz h1 h2 h3
    rw [e]
    have e1 : agr [a, b, c, d] = W (W (W (a - b) - c) + d) := rfl
    rw [e1, wS (n := a - b) (by omega) (by omega), wS (n := a - b - c) (by omega) (by omega), wS (n := a - b - c + d) (by omega) (by omega)]
    omega
  · have e : m.getD p [] = [] := by rw [List.getD_eq_getElem?_getD, List.getElem?_eq_none (by omega)]; rfl
    rw [e]
    have : agr [] = 0 := rfl
    omega

theorem pairs_spec (n : Nat) (hn : n ≤ 1000) : FSpec Tryz.prog 158 [.c (.int .i64 (n))] (ex (.t (.recs 101 (prs n))) []) := by
  have bd : ∀ i, i ≤ n → i * 1000 ≤ 1000000 := fun i hi => by omega
  have key : FSpec Tryz.prog 158 [.c (.int .i64 (n))] (ex (.own 0) [(0, .recs 78 101 (prs n))]) := by
    refine fspec tyOk mx Tryz.func158 rfl (by kernel_rfl) rfl ?_
    conv => whnf
    refine aloopI tyOk mx (fun i : Nat => (⟨26, [(0, .c (.int .i64 (n))), (3, .own 0), (7, .c (.int .i64 (n))), (8, .c (.int .i64 (i)))], [(0, .recs 78 101 (prTo n i))], 1⟩ : St)) (fun i => i ≤ n) (fun i => n - i) 0 (Nat.zero_le _) none (by refine ⟨rfl, rfl, ?_, ?_⟩ <;> ((repeat' (first | exact trivial | exact rfl | refine And.intro ?_ ?_)) <;> (try ((conv => whnf); first | refine vint ?_ | refine vboo ?_ | refine rint ?_ | refine rrow ?_ | skip)) <;> (try first | omega | (simp; done) | ((repeat rw [flts_closed _ (by assumption)]); exact vws_closed _ (by assumption))))) (fun i hi => ?_)
    refine ⟨fun h => ?_, fun h => ?_⟩
    · have h := ltT h
      conv => whnf
      rw [nat_wrap (by omega)]
      refine aloopI tyOk mx (fun k : Nat => (⟨26, [(0, .c (.int .i64 (n))), (3, .own 0), (4, .c (.int .i64 (i))), (5, .c (.int .i64 ((i + 1 + k : Nat)))), (7, .c (.int .i64 (n))), (8, .c (.int .i64 (i)))], [(0, .recs 78 101 (prTo n i ++ prRow i k))], 1⟩ : St)) (fun k => k ≤ n - (i + 1)) (fun k => n - (i + 1) - k) 0 (Nat.zero_le _) none (by refine ⟨rfl, rfl, ?_, ?_⟩ <;> (repeat' (first | exact trivial | exact rfl | refine And.intro ?_ ?_)) <;> exact congrArg (ARow.recs _ _) (by simp [prRow])) (fun k hk => ?_)
      refine ⟨fun h2 => ?_, fun h2 => ?_⟩
      · have h2 : i + 1 + k < n := ltT h2
        have b1 := prTo_len n hn i hi
        have b2 := bd i hi
        have b3 := prRow_len i k
        conv => whnf
        refine ⟨by simp [room]; omega, ?_⟩
        conv => whnf
        rw [nat_wrap (by omega)]
        refine ⟨k + 1, none, ?_, by omega, by omega⟩
        rw [← prRow_succ, ← List.append_assoc]
        (refine ⟨rfl, rfl, ?_, ?_⟩ <;> ((repeat' (first | exact trivial | exact rfl | refine And.intro ?_ ?_)) <;> (try ((conv => whnf); first | refine vint ?_ | refine vboo ?_ | refine rint ?_ | refine rrow ?_ | skip)) <;> (try first | omega | (simp; done) | ((repeat rw [flts_closed _ (by assumption)]); exact vws_closed _ (by assumption)))))
      · have h2 : ¬ i + 1 + k < n := ltF h2
        obtain rfl : k = n - (i + 1) := by omega
        rw [prTo_succ]
        conv => whnf
        rw [nat_wrap (by omega)]
        exact ⟨i + 1, none, (by refine ⟨rfl, rfl, ?_, ?_⟩ <;> ((repeat' (first | exact trivial | exact rfl | refine And.intro ?_ ?_)) <;> (try ((conv => whnf); first | refine vint ?_ | refine vboo ?_ | refine rint ?_ | refine rrow ?_ | skip)) <;> (try first | omega | (simp; done) | ((repeat rw [flts_closed _ (by assumption)]); exact vws_closed _ (by assumption))))), by omega, by omega⟩
    · have h := ltF h
      obtain rfl : i = n := by omega
      conv => whnf
      exact ⟨rfl, rfl⟩
  exact FSpec.toldL key (x' := .t (.recs 101 (prs n))) ⟨rfl, rfl⟩

theorem l3Pairs_spec (n : Nat) (hn : n ≤ 1000) : FSpec Tryz.prog 149 [.c (.int .i64 (n))] (ex (.t (.recs 101 (prs n))) []) := by
  have bd : ∀ i, i ≤ n → i * 1000 ≤ 1000000 := fun i hi => by omega
  have key : FSpec Tryz.prog 149 [.c (.int .i64 (n))] (ex (.own 0) [(0, .recs 78 101 (prs n))]) := by
    refine fspec tyOk mx Tryz.func149 rfl (by kernel_rfl) rfl ?_
    conv => whnf
    refine aloopI tyOk mx (fun i : Nat => (⟨26, [(0, .c (.int .i64 (n))), (3, .own 0), (4, .c (.int .i64 (i)))], [(0, .recs 78 101 (prTo n i))], 1⟩ : St)) (fun i => i ≤ n) (fun i => n - i) 0 (Nat.zero_le _) none (by refine ⟨rfl, rfl, ?_, ?_⟩ <;> ((repeat' (first | exact trivial | exact rfl | refine And.intro ?_ ?_)) <;> (try ((conv => whnf); first | refine vint ?_ | refine vboo ?_ | refine rint ?_ | refine rrow ?_ | skip)) <;> (try first | omega | (simp; done) | ((repeat rw [flts_closed _ (by assumption)]); exact vws_closed _ (by assumption))))) (fun i hi => ?_)
    refine ⟨fun h => ?_, fun h => ?_⟩
    · have h := ltT h
      conv => whnf
      rw [nat_wrap (by omega)]
      refine aloopI tyOk mx (fun k : Nat => (⟨26, [(0, .c (.int .i64 (n))), (3, .own 0), (4, .c (.int .i64 (i))), (5, .c (.int .i64 ((i + 1 + k : Nat))))], [(0, .recs 78 101 (prTo n i ++ prRow i k))], 1⟩ : St)) (fun k => k ≤ n - (i + 1)) (fun k => n - (i + 1) - k) 0 (Nat.zero_le _) none (by refine ⟨rfl, rfl, ?_, ?_⟩ <;> (repeat' (first | exact trivial | exact rfl | refine And.intro ?_ ?_)) <;> exact congrArg (ARow.recs _ _) (by simp [prRow])) (fun k hk => ?_)
      refine ⟨fun h2 => ?_, fun h2 => ?_⟩
      · have h2 : i + 1 + k < n := ltT h2
        have b1 := prTo_len n hn i hi
        have b2 := bd i hi
        have b3 := prRow_len i k
        conv => whnf
        refine ⟨by simp [room]; omega, ?_⟩
        conv => whnf
        rw [nat_wrap (by omega)]
        refine ⟨k + 1, none, ?_, by omega, by omega⟩
        rw [← prRow_succ, ← List.append_assoc]
        (refine ⟨rfl, rfl, ?_, ?_⟩ <;> ((repeat' (first | exact trivial | exact rfl | refine And.intro ?_ ?_)) <;> (try ((conv => whnf); first | refine vint ?_ | refine vboo ?_ | refine rint ?_ | refine rrow ?_ | skip)) <;> (try first | omega | (simp; done) | ((repeat rw [flts_closed _ (by assumption)]); exact vws_closed _ (by assumption)))))
      · have h2 : ¬ i + 1 + k < n := ltF h2
        obtain rfl : k = n - (i + 1) := by omega
        rw [prTo_succ]
        conv => whnf
        rw [nat_wrap (by omega)]
        exact ⟨i + 1, none, (by refine ⟨rfl, rfl, ?_, ?_⟩ <;> ((repeat' (first | exact trivial | exact rfl | refine And.intro ?_ ?_)) <;> (try ((conv => whnf); first | refine vint ?_ | refine vboo ?_ | refine rint ?_ | refine rrow ?_ | skip)) <;> (try first | omega | (simp; done) | ((repeat rw [flts_closed _ (by assumption)]); exact vws_closed _ (by assumption))))), by omega, by omega⟩
    · have h := ltF h
      obtain rfl : i = n := by omega
      conv => whnf
      exact ⟨rfl, rfl⟩
  exact FSpec.toldL key (x' := .t (.recs 101 (prs n))) ⟨rfl, rfl⟩
theorem four_spec (ny a b c d : Nat) (hy : ny ≤ 3) (ha : a ≤ 3) (hb : b ≤ 3) (hc : c ≤ 3) (hd : d ≤ 3) :
    FSpec Tryz.prog 193 [.c (.int .i64 (ny)), .ag [.c (.int .i64 (a)), .c (.int .i64 (b))], .ag [.c (.int .i64 (c)), .c (.int .i64 (d))]] (ex (.ag [.c (.int .i64 ((a * ny + c : Nat))), .c (.int .i64 ((a * ny + d : Nat))), .c (.int .i64 ((b * ny + c : Nat))), .c (.int .i64 ((b * ny + d : Nat)))]) []) := by
  have m1 : a * ny ≤ 3 * 3 := Nat.mul_le_mul ha hy
  have m2 : b * ny ≤ 3 * 3 := Nat.mul_le_mul hb hy
  refine fspec tyOk mx Tryz.func193 rfl (by kernel_rfl) rfl ?_
  conv => whnf
  refine ⟨0, rfl, by omega, by simp, ?_⟩
  conv => whnf
  refine ⟨0, rfl, by omega, by simp, ?_⟩
  conv => whnf
  refine ⟨0, rfl, by omega, by simp, ?_⟩
  conv => whnf
  refine ⟨1, rfl, by omega, by simp, ?_⟩
  conv => whnf
  refine ⟨1, rfl, by omega, by simp, ?_⟩
  conv => whnf
  refine ⟨0, rfl, by omega, by simp, ?_⟩
  conv => whnf
  refine ⟨1, rfl, by omega, by simp, ?_⟩
  conv => whnf
  refine ⟨1, rfl, by omega, by simp, ?_⟩
  conv => whnf
  rw [natMulAdd (by omega), natMulAdd (by omega), natMulAdd (by omega), natMulAdd (by omega)]
  exact ⟨rfl, rfl⟩
/-- the first terms of a sum -/
def sumT (ny : Nat) (m : List (List Int)) (a b c d k : Nat) : Nat → Int
  | 0 => 0
  | 1 => sgn k 0 (agAt m (a * ny + c))
  | 2 => sgn k 0 (agAt m (a * ny + c)) + sgn k 1 (agAt m (a * ny + d))
  | 3 => sgn k 0 (agAt m (a * ny + c)) + sgn k 1 (agAt m (a * ny + d)) + sgn k 2 (agAt m (b * ny + c))
  | _ => sum4V ny m a b c d k
theorem sgn_sub {k j : Nat} (h : j = k) (s x : Int) : s - x = s + sgn k j x := by rw [sgn, if_pos h]; omega
theorem sgn_add {k j : Nat} (h : ¬ j = k) (s x : Int) : s + x = s + sgn k j x := by rw [sgn, if_neg h]
theorem sum_spec (nx ny a b c d k : Nat) (z : Int) (m : List (List Int)) (hx : nx ≤ 3) (hy : ny ≤ 3) (hab : a < b) (hbx : b < nx) (hcd : c < d) (hdy : d < ny) (hk : k ≤ 4) (hm : m.length = nx * ny) (h4 : ∀ r, r ∈ m → r.length = 4) (hB : AgB m) :
    FSpec Tryz.prog 159 [.ag [.c (.int .i64 (nx)), .c (.int .i64 (ny)), .c (.int .i64 (z)), .t (.rows m)], .ag [.c (.int .i64 (a)), .c (.int .i64 (b))], .ag [.c (.int .i64 (c)), .c (.int .i64 (d))], .c (.int .i64 (k))] (ex (.c (.int .i64 (sum4V ny m a b c d k))) []) := by
  have i0 := ix_lt (show a < nx by omega) (show c < ny by omega)
  have i1 := ix_lt (show a < nx by omega) hdy
  have i2 := ix_lt hbx (show c < ny by omega)
  have i3 := ix_lt hbx hdy
  have s0 := sgn_bd hB k 0 (a * ny + c)
  have s1 := sgn_bd hB k 1 (a * ny + d)
  have s2 := sgn_bd hB k 2 (b * ny + c)
  have s3 := sgn_bd hB k 3 (b * ny + d)
  have e4 : sum4V ny m a b c d k = sgn k 0 (agAt m (a * ny + c)) + sgn k 1 (agAt m (a * ny + d)) + sgn k 2 (agAt m (b * ny + c)) + sgn k 3 (agAt m (b * ny + d)) := rfl
  refine fspec tyOk mx Tryz.func159 rfl (by kernel_rfl) rfl ?_
  conv => whnf
  refine ACall.use (four_spec ny a b c d hy (by omega) (by omega) (by omega) (by omega)) ?_
  conv => whnf
  refine aloopI tyOk mx (fun i : Nat => (⟨42, [(3, .c (.int .i64 (k))), (4, .ptr 0 0), (9, .c (.int .i64 (sumT ny m a b c d k i))), (16, .ag [.c (.int .i64 ((a * ny + c : Nat))), .c (.int .i64 ((a * ny + d : Nat))), .c (.int .i64 ((b * ny + c : Nat))), .c (.int .i64 ((b * ny + d : Nat)))]), (17, .c (.int .i64 (i)))], [(0, .cells 26 [.c (.int .i64 (nx)), .c (.int .i64 (ny)), .c (.int .i64 (z)), .t (.rows m)])], 1⟩ : St)) (fun i => i ≤ 4) (fun i => 4 - i) 0 (by omega) none (by refine ⟨rfl, rfl, ?_, ?_⟩ <;> ((repeat' (first | exact trivial | exact rfl | refine And.intro ?_ ?_)) <;> (try ((conv => whnf); first | refine vint ?_ | refine vboo ?_ | refine rint ?_ | refine rrow ?_ | skip)) <;> (try first | omega | (simp; done) | ((repeat rw [flts_closed _ (by assumption)]); exact vws_closed _ (by assumption))))) (fun i hi => ?_)
  refine ⟨fun h => ?_, fun h => ?_⟩
  · have h : i < 4 := by have := of_decide_eq_true h; omega
    have h4' : i = 0 ∨ i = 1 ∨ i = 2 ∨ i = 3 := by omega
    rcases h4' with rfl | rfl | rfl | rfl
    · conv => whnf
      refine ⟨0, rfl, by omega, ?_⟩
      conv => whnf
      have r4 := h4 _ (getD_mem (d := []) (show a * ny + c < m.length by omega))
      refine ⟨fun h2 => ?_, fun h2 => ?_⟩
      · have h2 : 0 = k := by have := eq_of_beq h2; omega
        have e : IntKind.i64.wrap (sumT ny m a b c d k 0 - agr (m.getD (a * ny + c) [])) = sumT ny m a b c d k 1 := by
          rw [show agr (m.getD (a * ny + c) []) = agAt m (a * ny + c) from rfl, sgn_sub h2]
          simp only [sumT, sum4V]
          rw [w64 (by omega) (by omega)]; try omega
        conv => whnf
        refine ⟨a * ny + c, rfl, by omega, ?_⟩
        conv => whnf
        refine ACall.use (agreement_spec _ r4) ?_
        conv => whnf
        rw [e]
        exact ⟨1, none, (by refine ⟨rfl, rfl, ?_, ?_⟩ <;> ((repeat' (first | exact trivial | exact rfl | refine And.intro ?_ ?_)) <;> (try ((conv => whnf); first | refine vint ?_ | refine vboo ?_ | refine rint ?_ | refine rrow ?_ | skip)) <;> (try first | omega | (simp; done) | ((repeat rw [flts_closed _ (by assumption)]); exact vws_closed _ (by assumption))))), by omega, by omega⟩
      · have h2 : ¬ 0 = k := fun e => by rw [← e] at h2; exact absurd h2 (by decide)
        have e : IntKind.i64.wrap (sumT ny m a b c d k 0 + agr (m.getD (a * ny + c) [])) = sumT ny m a b c d k 1 := by
          rw [show agr (m.getD (a * ny + c) []) = agAt m (a * ny + c) from rfl, sgn_add h2]
          simp only [sumT, sum4V]
          rw [w64 (by omega) (by omega)]; try omega
        conv => whnf
        refine ⟨a * ny + c, rfl, by omega, ?_⟩
        conv => whnf
        refine ACall.use (agreement_spec _ r4) ?_
        conv => whnf
        rw [e]
        exact ⟨1, none, (by refine ⟨rfl, rfl, ?_, ?_⟩ <;> ((repeat' (first | exact trivial | exact rfl | refine And.intro ?_ ?_)) <;> (try ((conv => whnf); first | refine vint ?_ | refine vboo ?_ | refine rint ?_ | refine rrow ?_ | skip)) <;> (try first | omega | (simp; done) | ((repeat rw [flts_closed _ (by assumption)]); exact vws_closed _ (by assumption))))), by omega, by omega⟩
    · conv => whnf
      refine ⟨1, rfl, by omega, ?_⟩
      conv => whnf
      have r4 := h4 _ (getD_mem (d := []) (show a * ny + d < m.length by omega))
      refine ⟨fun h2 => ?_, fun h2 => ?_⟩
      · have h2 : 1 = k := by have := eq_of_beq h2; omega
        have e : IntKind.i64.wrap (sumT ny m a b c d k 1 - agr (m.getD (a * ny + d) [])) = sumT ny m a b c d k 2 := by
          rw [show agr (m.getD (a * ny + d) []) = agAt m (a * ny + d) from rfl, sgn_sub h2]
          simp only [sumT, sum4V]
          rw [w64 (by omega) (by omega)]; try omega
        conv => whnf
        refine ⟨a * ny + d, rfl, by omega, ?_⟩
        conv => whnf
        refine ACall.use (agreement_spec _ r4) ?_
        conv => whnf
        rw [e]
        exact ⟨2, none, (by refine ⟨rfl, rfl, ?_, ?_⟩ <;> ((repeat' (first | exact trivial | exact rfl | refine And.intro ?_ ?_)) <;> (try ((conv => whnf); first | refine vint ?_ | refine vboo ?_ | refine rint ?_ | refine rrow ?_ | skip)) <;> (try first | omega | (simp; done) | ((repeat rw [flts_closed _ (by assumption)]); exact vws_closed _ (by assumption))))), by omega, by omega⟩
      · have h2 : ¬ 1 = k := fun e => by rw [← e] at h2; exact absurd h2 (by decide)
        have e : IntKind.i64.wrap (sumT ny m a b c d k 1 + agr (m.getD (a * ny + d) [])) = sumT ny m a b c d k 2 := by
          rw [show agr (m.getD (a * ny + d) []) = agAt m (a * ny + d) from rfl, sgn_add h2]
          simp only [sumT, sum4V]
          rw [w64 (by omega) (by omega)]; try omega
        conv => whnf
        refine ⟨a * ny + d, rfl, by omega, ?_⟩
        conv => whnf
        refine ACall.use (agreement_spec _ r4) ?_
        conv => whnf
        rw [e]
        exact ⟨2, none, (by refine ⟨rfl, rfl, ?_, ?_⟩ <;> ((repeat' (first | exact trivial | exact rfl | refine And.intro ?_ ?_)) <;> (try ((conv => whnf); first | refine vint ?_ | refine vboo ?_ | refine rint ?_ | refine rrow ?_ | skip)) <;> (try first | omega | (simp; done) | ((repeat rw [flts_closed _ (by assumption)]); exact vws_closed _ (by assumption))))), by omega, by omega⟩
    · conv => whnf
      refine ⟨2, rfl, by omega, ?_⟩
      conv => whnf
      have r4 := h4 _ (getD_mem (d := []) (show b * ny + c < m.length by omega))
      refine ⟨fun h2 => ?_, fun h2 => ?_⟩
      · have h2 : 2 = k := by have := eq_of_beq h2; omega
        have e : IntKind.i64.wrap (sumT ny m a b c d k 2 - agr (m.getD (b * ny + c) [])) = sumT ny m a b c d k 3 := by
          rw [show agr (m.getD (b * ny + c) []) = agAt m (b * ny + c) from rfl, sgn_sub h2]
          simp only [sumT, sum4V]
          rw [w64 (by omega) (by omega)]; try omega
        conv => whnf
        refine ⟨b * ny + c, rfl, by omega, ?_⟩
        conv => whnf
        refine ACall.use (agreement_spec _ r4) ?_
        conv => whnf
        rw [e]
        exact ⟨3, none, (by refine ⟨rfl, rfl, ?_, ?_⟩ <;> ((repeat' (first | exact trivial | exact rfl | refine And.intro ?_ ?_)) <;> (try ((conv => whnf); first | refine vint ?_ | refine vboo ?_ | refine rint ?_ | refine rrow ?_ | skip)) <;> (try first | omega | (simp; done) | ((repeat rw [flts_closed _ (by assumption)]); exact vws_closed _ (by assumption))))), by omega, by omega⟩
      · have h2 : ¬ 2 = k := fun e => by rw [← e] at h2; exact absurd h2 (by decide)
        have e : IntKind.i64.wrap (sumT ny m a b c d k 2 + agr (m.getD (b * ny + c) [])) = sumT ny m a b c d k 3 := by
          rw [show agr (m.getD (b * ny + c) []) = agAt m (b * ny + c) from rfl, sgn_add h2]
          simp only [sumT, sum4V]
          rw [w64 (by omega) (by omega)]; try omega
        conv => whnf
        refine ⟨b * ny + c, rfl, by omega, ?_⟩
        conv => whnf
        refine ACall.use (agreement_spec _ r4) ?_
        conv => whnf
        rw [e]
        exact ⟨3, none, (by refine ⟨rfl, rfl, ?_, ?_⟩ <;> ((repeat' (first | exact trivial | exact rfl | refine And.intro ?_ ?_)) <;> (try ((conv => whnf); first | refine vint ?_ | refine vboo ?_ | refine rint ?_ | refine rrow ?_ | skip)) <;> (try first | omega | (simp; done) | ((repeat rw [flts_closed _ (by assumption)]); exact vws_closed _ (by assumption))))), by omega, by omega⟩
    · conv => whnf
      refine ⟨3, rfl, by omega, ?_⟩
      conv => whnf
      have r4 := h4 _ (getD_mem (d := []) (show b * ny + d < m.length by omega))
      refine ⟨fun h2 => ?_, fun h2 => ?_⟩
      · have h2 : 3 = k := by have := eq_of_beq h2; omega
        have e : IntKind.i64.wrap (sumT ny m a b c d k 3 - agr (m.getD (b * ny + d) [])) = sumT ny m a b c d k 4 := by
          rw [show agr (m.getD (b * ny + d) []) = agAt m (b * ny + d) from rfl, sgn_sub h2]
          simp only [sumT, sum4V]
          rw [w64 (by omega) (by omega)]; try omega
        conv => whnf
        refine ⟨b * ny + d, rfl, by omega, ?_⟩
        conv => whnf
        refine ACall.use (agreement_spec _ r4) ?_
        conv => whnf
        rw [e]
        exact ⟨4, none, (by refine ⟨rfl, rfl, ?_, ?_⟩ <;> ((repeat' (first | exact trivial | exact rfl | refine And.intro ?_ ?_)) <;> (try ((conv => whnf); first | refine vint ?_ | refine vboo ?_ | refine rint ?_ | refine rrow ?_ | skip)) <;> (try first | omega | (simp; done) | ((repeat rw [flts_closed _ (by assumption)]); exact vws_closed _ (by assumption))))), by omega, by omega⟩
      · have h2 : ¬ 3 = k := fun e => by rw [← e] at h2; exact absurd h2 (by decide)
        have e : IntKind.i64.wrap (sumT ny m a b c d k 3 + agr (m.getD (b * ny + d) [])) = sumT ny m a b c d k 4 := by
          rw [show agr (m.getD (b * ny + d) []) = agAt m (b * ny + d) from rfl, sgn_add h2]
          simp only [sumT, sum4V]
          rw [w64 (by omega) (by omega)]; try omega
        conv => whnf
        refine ⟨b * ny + d, rfl, by omega, ?_⟩
        conv => whnf
        refine ACall.use (agreement_spec _ r4) ?_
        conv => whnf
        rw [e]
        exact ⟨4, none, (by refine ⟨rfl, rfl, ?_, ?_⟩ <;> ((repeat' (first | exact trivial | exact rfl | refine And.intro ?_ ?_)) <;> (try ((conv => whnf); first | refine vint ?_ | refine vboo ?_ | refine rint ?_ | refine rrow ?_ | skip)) <;> (try first | omega | (simp; done) | ((repeat rw [flts_closed _ (by assumption)]); exact vws_closed _ (by assumption))))), by omega, by omega⟩
  · have h : ¬ i < 4 := by have := of_decide_eq_false h; omega
    obtain rfl : i = 4 := by omega
    conv => whnf
    exact ⟨rfl, rfl⟩
end Go.Proofs.YtkomndcehdneaaaGreat.L
/- The greatest sum of a box: program. -/
namespace Go.Aw
def abV (t : Int) : Int := if t < 0 then -t else t
theorem abV_bd {t : Int} (h : -4000 ≤ t ∧ t ≤ 4000) : 0 ≤ abV t ∧ abV t ≤ 4000 := by unfold abV; split <;> omega
/-- the greatest sum of a box without its sign, 0 where there is none -/
structure GSum (nx ny : Nat) (m : List (List Int)) (g : Int) : Prop where
  pos : 0 ≤ g
  all : ∀ a b c d k, a < b → b < nx → c < d → d < ny → k < 4 → abV (sum4V ny m a b c d k) ≤ g
  own : g = 0 ∨ ∃ a b c d k, a < b ∧ b < nx ∧ c < d ∧ d < ny ∧ k < 4 ∧ g = abV (sum4V ny m a b c d k)
theorem GSum.one {nx ny : Nat} {m : List (List Int)} {g g' : Int} (h : GSum nx ny m g) (h' : GSum nx ny m g') : g = g' := by
  have key : ∀ {g g' : Int}, GSum nx ny m g → GSum nx ny m g' → g ≤ g' := fun {g g'} h h' => by
    rcases h.own with e | ⟨a, b, c, d, k, h1, h2, h3, h4, h5, e⟩
    · rw [e]; exact h'.pos
    · rw [e]; exact h'.all a b c d k h1 h2 h3 h4 h5
  have := key h h'
  have := key h' h
  omega
/-- the entries of the list of pairs -/
def qa (n i : Nat) : Nat := (((prs n).getD i ([], [])).1.getD 0 0).toNat
def qb (n i : Nat) : Nat := (((prs n).getD i ([], [])).1.getD 1 0).toNat
theorem q_at {n i : Nat} (hn : n ≤ 3) (h : i < (prs n).length) : ((prs n).getD i ([], [])).1.getD 0 0 = (qa n i : Int) ∧ ((prs n).getD i ([], [])).1.getD 1 0 = (qb n i : Int) ∧ qa n i < qb n i ∧ qb n i < n := by
  obtain ⟨a, b, e, h1, h2⟩ := prs_at hn h
  have ea : qa n i = a := by rw [qa, e]; simp
  have eb : qb n i = b := by rw [qb, e]; simp
  rw [ea, eb, e]
  exact ⟨rfl, rfl, h1, h2⟩
theorem q_all {n a b : Nat} (hn : n ≤ 3) (h1 : a < b) (h2 : b < n) : ∃ i, i < (prs n).length ∧ qa n i = a ∧ qb n i = b := by
  obtain ⟨i, hi, e⟩ := prs_all hn h1 h2
  exact ⟨i, hi, by rw [qa, e]; simp, by rw [qb, e]; simp⟩
def sumI (nx ny : Nat) (m : List (List Int)) (i k j : Nat) : Int := sum4V ny m (qa nx i) (qb nx i) (qa ny k) (qb ny k) j
/-- what is done so far -/
structure GTo (nx ny : Nat) (m : List (List Int)) (I K J : Nat) (g : Int) : Prop where
  pos : 0 ≤ g ∧ g ≤ 4000
  all : ∀ i k j, i < (prs nx).length → k < (prs ny).length → j < 4 → (i < I ∨ (i = I ∧ (k < K ∨ (k = K ∧ j < J)))) → abV (sumI nx ny m i k j) ≤ g
  own : g = 0 ∨ ∃ a b c d k, a < b ∧ b < nx ∧ c < d ∧ d < ny ∧ k < 4 ∧ g = abV (sum4V ny m a b c d k)
theorem GTo.zero (nx ny : Nat) (m : List (List Int)) : GTo nx ny m 0 0 0 0 := ⟨by omega, fun i k j _ _ _ h => by omega, .inl rfl⟩
theorem GTo.nextJ {nx ny : Nat} {m : List (List Int)} {I K J : Nat} {g g' : Int} (h : GTo nx ny m I K J g) (hx : nx ≤ 3) (hy : ny ≤ 3) (hI : I < (prs nx).length) (hK : K < (prs ny).length) (hJ : J < 4) (hB : AgB m)
    (hg : (g' = abV (sumI nx ny m I K J) ∧ g ≤ g') ∨ (g' = g ∧ abV (sumI nx ny m I K J) ≤ g)) : GTo nx ny m I K (J + 1) g' := by
  have hb := abV_bd (sum4_bd hB ny (qa nx I) (qb nx I) (qa ny K) (qb ny K) J)
  have hs : abV (sumI nx ny m I K J) ≤ g' := by rcases hg with h | h <;> omega
  have hgg : g ≤ g' := by rcases hg with h | h <;> omega
  obtain ⟨_, _, a1, a2⟩ := q_at hx hI
  obtain ⟨_, _, a3, a4⟩ := q_at hy hK
  refine ⟨?_, fun i k j hi hk hj ho => ?_, ?_⟩
  · have := h.pos
    unfold sumI at hg
    rcases hg with h | h <;> omega
  · by_cases e : i = I ∧ k = K ∧ j = J
    · obtain ⟨rfl, rfl, rfl⟩ := e; exact hs
    · exact Int.le_trans (h.all i k j hi hk hj (by omega)) hgg
  · rcases hg with ⟨h1, _⟩ | ⟨h1, _⟩
    · exact .inr ⟨_, _, _, _, J, a1, a2, a3, a4, hJ, h1⟩
    · rw [h1]; exact h.own
theorem GTo.nextK {nx ny : Nat} {m : List (List Int)} {I K : Nat} {g : Int} (h : GTo nx ny m I K 4 g) : GTo nx ny m I (K + 1) 0 g :=
  ⟨h.pos, fun i k j hi hk hj ho => h.all i k j hi hk hj (by omega), h.own⟩
theorem GTo.nextI {nx ny : Nat} {m : List (List Int)} {I : Nat} {g : Int} (h : GTo nx ny m I (prs ny).length 0 g) : GTo nx ny m (I + 1) 0 0 g :=
  ⟨h.pos, fun i k j hi hk hj ho => h.all i k j hi hk hj (by omega), h.own⟩
theorem GTo.fin {nx ny : Nat} {m : List (List Int)} {g : Int} (hx : nx ≤ 3) (hy : ny ≤ 3) (h : GTo nx ny m (prs nx).length 0 0 g) : GSum nx ny m g :=
  ⟨h.pos.1, fun a b c d k h1 h2 h3 h4 h5 => by
    obtain ⟨i, hi, rfl, rfl⟩ := q_all hx h1 h2
    obtain ⟨j, hj, rfl, rfl⟩ := q_all hy h3 h4
    exact h.all i j k hi hj h5 (by omega), h.own⟩
end Go.Aw
namespace Go.Proofs.YtkomndcehdneaaaGreat.L
open Go.Aw
set_option maxRecDepth 100000
set_option maxHeartbeats 4000000

/-- the greatest sum, and something more -/
def gsP (nx ny : Nat) (m : List (List Int)) : AVal → List (Nat × ARow) → Prop := fun v h => h = [] ∧ ∃ (g p0 p1 q0 q1 k : Int) (t : Bool), GSum nx ny m g ∧ g ≤ 4000 ∧ v = .tu [.c (.int .i64 (g)), .ag [.c (.int .i64 (p0)), .c (.int .i64 (p1))], .ag [.c (.int .i64 (q0)), .c (.int .i64 (q1))], .c (.int .i64 (k)), .c (.bool t)]
theorem greatest_spec (nx ny : Nat) (z : Int) (m : List (List Int)) (hx : nx ≤ 3) (hy : ny ≤ 3) (hm : m.length = nx * ny) (h4 : ∀ r, r ∈ m → r.length = 4) (hB : AgB m) :
    FSpec Tryz.prog 84 [.ag [.c (.int .i64 (nx)), .c (.int .i64 (ny)), .c (.int .i64 (z)), .t (.rows m)]] (gsP nx ny m) := by
  have lx := prs_len hx
  have ly := prs_len hy
  refine fspec tyOk mx Tryz.func84 rfl (by kernel_rfl) rfl ?_
  conv => whnf
  refine ACall.use (pairs_spec nx (by omega)) ?_
  conv => whnf
  refine aloopI tyOk mx (fun i : Nat × Int × Int × Int × Int × Int × Int × Bool => (⟨67, [(1, .ptr 0 0), (2, .c (.int .i64 (0))), (3, .ptr 1 0), (4, .ptr 2 0), (5, .c (.int .i64 (0))), (6, .c (.bool false)), (7, .c (.int .i64 (i.2.1))), (8, .ptr 3 0), (9, .ptr 4 0), (10, .c (.int .i64 (i.2.2.2.2.2.2.1))), (11, .c (.bool i.2.2.2.2.2.2.2)), (22, .t (.recs 101 (prs nx))), (23, .c (.int .i64 ((prs nx).length))), (24, .c (.int .i64 (i.1)))], [(0, .cells 26 [.c (.int .i64 (nx)), .c (.int .i64 (ny)), .c (.int .i64 (z)), .t (.rows m)]), (1, .cells 78 [.c (.int .i64 (0)), .c (.int .i64 (0))]), (2, .cells 78 [.c (.int .i64 (0)), .c (.int .i64 (0))]), (3, .cells 78 [.c (.int .i64 (i.2.2.1)), .c (.int .i64 (i.2.2.2.1))]), (4, .cells 78 [.c (.int .i64 (i.2.2.2.2.1)), .c (.int .i64 (i.2.2.2.2.2.1))])], 5⟩ : St)) (fun i => i.1 ≤ (prs nx).length ∧ GTo nx ny m i.1 0 0 i.2.1 ∧ (i.2.2.2.2.2.2.2 = false → i.2.1 = 0)) (fun i => (prs nx).length - i.1) (0, 0, 0, 0, 0, 0, 0, false) ⟨Nat.zero_le _, GTo.zero nx ny m, fun _ => rfl⟩ none (by refine ⟨rfl, rfl, ?_, ?_⟩ <;> ((repeat' (first | exact trivial | exact rfl | refine And.intro ?_ ?_)) <;> (try ((conv => whnf); first | refine vint ?_ | refine vboo ?_ | refine rint ?_ | refine rrow ?_ | skip)) <;> (try first | omega | (simp; done) | ((repeat rw [flts_closed _ (by assumption)]); exact vws_closed _ (by assumption))))) (fun i hi => ?_)
  obtain ⟨i, g, p0, p1, q0, q1, kk, t⟩ := i
  obtain ⟨i1, i2, i3⟩ := hi
  simp only at i1 i2 i3
  dsimp only
  refine ⟨fun h => ?_, fun h => ?_⟩
  · have h := ltT h
    obtain ⟨ea, eb, x1, x2⟩ := q_at hx h
    conv => whnf
    refine ⟨i, rfl, h, ?_⟩
    conv => whnf
    refine ACall.use (pairs_spec ny (by omega)) ?_
    conv => whnf
    refine aloopI tyOk mx (fun j : Nat × Int × Int × Int × Int × Int × Int × Bool => (⟨67, [(1, .ptr 0 0), (2, .c (.int .i64 (0))), (3, .ptr 1 0), (4, .ptr 2 0), (5, .c (.int .i64 (0))), (6, .c (.bool false)), (7, .c (.int .i64 (j.2.1))), (8, .ptr 3 0), (9, .ptr 4 0), (10, .c (.int .i64 (j.2.2.2.2.2.2.1))), (11, .c (.bool j.2.2.2.2.2.2.2)), (13, .ptr 5 0), (22, .t (.recs 101 (prs nx))), (23, .c (.int .i64 ((prs nx).length))), (24, .c (.int .i64 (i))), (30, .t (.recs 101 (prs ny))), (31, .c (.int .i64 ((prs ny).length))), (32, .c (.int .i64 (j.1)))], [(0, .cells 26 [.c (.int .i64 (nx)), .c (.int .i64 (ny)), .c (.int .i64 (z)), .t (.rows m)]), (1, .cells 78 [.c (.int .i64 (0)), .c (.int .i64 (0))]), (2, .cells 78 [.c (.int .i64 (0)), .c (.int .i64 (0))]), (3, .cells 78 [.c (.int .i64 (j.2.2.1)), .c (.int .i64 (j.2.2.2.1))]), (4, .cells 78 [.c (.int .i64 (j.2.2.2.2.1)), .c (.int .i64 (j.2.2.2.2.2.1))]), (5, .cells 78 [.c (.int .i64 (qa nx i)), .c (.int .i64 (qb nx i))])], 6⟩ : St)) (fun j => j.1 ≤ (prs ny).length ∧ GTo nx ny m i j.1 0 j.2.1 ∧ (j.2.2.2.2.2.2.2 = false → j.2.1 = 0)) (fun j => (prs ny).length - j.1) (0, g, p0, p1, q0, q1, kk, t) ⟨Nat.zero_le _, i2, i3⟩ none (by refine ⟨rfl, rfl, ?_, ?_⟩ <;> ((repeat' (first | exact trivial | exact rfl | refine And.intro ?_ ?_)) <;> (try ((conv => whnf); first | refine vint ?_ | refine vboo ?_ | refine rint ?_ | refine rrow ?_ | skip)) <;> (try first | omega | (simp; done) | ((repeat rw [flts_closed _ (by assumption)]); exact vws_closed _ (by assumption))))) (fun j hj => ?_)
    obtain ⟨j, g, p0, p1, q0, q1, kk, t⟩ := j
    obtain ⟨j1, j2, j3⟩ := hj
    simp only at j1 j2 j3
    dsimp only
    refine ⟨fun h2 => ?_, fun h2 => ?_⟩
    · have h2 := ltT h2
      obtain ⟨ec, ed, y1, y2⟩ := q_at hy h2
      conv => whnf
      refine ⟨j, rfl, h2, ?_⟩
      conv => whnf
      refine aloopI tyOk mx (fun u : Nat × Int × Int × Int × Int × Int × Int × Bool => (⟨67, [(1, .ptr 0 0), (2, .c (.int .i64 (0))), (3, .ptr 1 0), (4, .ptr 2 0), (5, .c (.int .i64 (0))), (6, .c (.bool false)), (7, .c (.int .i64 (u.2.1))), (8, .ptr 3 0), (9, .ptr 4 0), (10, .c (.int .i64 (u.2.2.2.2.2.2.1))), (11, .c (.bool u.2.2.2.2.2.2.2)), (13, .ptr 5 0), (15, .ptr 6 0), (22, .t (.recs 101 (prs nx))), (23, .c (.int .i64 ((prs nx).length))), (24, .c (.int .i64 (i))), (30, .t (.recs 101 (prs ny))), (31, .c (.int .i64 ((prs ny).length))), (32, .c (.int .i64 (j))), (36, .c (.int .i64 (u.1)))], [(0, .cells 26 [.c (.int .i64 (nx)), .c (.int .i64 (ny)), .c (.int .i64 (z)), .t (.rows m)]), (1, .cells 78 [.c (.int .i64 (0)), .c (.int .i64 (0))]), (2, .cells 78 [.c (.int .i64 (0)), .c (.int .i64 (0))]), (3, .cells 78 [.c (.int .i64 (u.2.2.1)), .c (.int .i64 (u.2.2.2.1))]), (4, .cells 78 [.c (.int .i64 (u.2.2.2.2.1)), .c (.int .i64 (u.2.2.2.2.2.1))]), (5, .cells 78 [.c (.int .i64 (qa nx i)), .c (.int .i64 (qb nx i))]), (6, .cells 78 [.c (.int .i64 (qa ny j)), .c (.int .i64 (qb ny j))])], 7⟩ : St)) (fun u => u.1 ≤ 4 ∧ GTo nx ny m i j u.1 u.2.1 ∧ (u.2.2.2.2.2.2.2 = false → u.2.1 = 0)) (fun u => 4 - u.1) (0, g, p0, p1, q0, q1, kk, t) ⟨Nat.zero_le _, j2, j3⟩ none (by refine ⟨rfl, rfl, ?_, ?_⟩ <;> ((repeat' (first | exact trivial | exact rfl | refine And.intro ?_ ?_)) <;> (try ((conv => whnf); first | refine vint ?_ | refine vboo ?_ | refine rint ?_ | refine rrow ?_ | skip)) <;> (try first | omega | (simp; done) | ((repeat rw [flts_closed _ (by assumption)]); exact vws_closed _ (by assumption))))) (fun u hu => ?_)
      obtain ⟨u, g, p0, p1, q0, q1, kk, t⟩ := u
      obtain ⟨u1, u2, u3⟩ := hu
      simp only at u1 u2 u3
      dsimp only
      refine ⟨fun h3 => ?_, fun h3 => ?_⟩
      · have h3 : u < 4 := by have := of_decide_eq_true h3; omega
        have sb := sum4_bd hB ny (qa nx i) (qb nx i) (qa ny j) (qb ny j) u
        conv => whnf
        refine ACall.use (sum_spec nx ny (qa nx i) (qb nx i) (qa ny j) (qb ny j) u z m hx hy x1 x2 y1 y2 (by omega) hm h4 hB) ?_
        conv => whnf
        have ew : (if IntKind.i64.wrap (0 - sum4V ny m (qa nx i) (qb nx i) (qa ny j) (qb ny j) u) > sum4V ny m (qa nx i) (qb nx i) (qa ny j) (qb ny j) u then IntKind.i64.wrap (0 - sum4V ny m (qa nx i) (qb nx i) (qa ny j) (qb ny j) u) else sum4V ny m (qa nx i) (qb nx i) (qa ny j) (qb ny j) u) = abV (sumI nx ny m i j u) := by
          rw [w64 (by omega) (by omega)]
          unfold abV sumI
          split <;> split <;> omega
        rw [ew]
        dsimp only
        have eN : IntKind.i64.wrap ((u : Int) + 1) = ((u + 1 : Nat) : Int) := nat_wrap (by omega)
        refine ⟨fun ht => ?_, fun ht => ?_⟩
        · conv => whnf
          refine ⟨fun h5 => ?_, fun h5 => ?_⟩
          · have h5 : abV (sumI nx ny m i j u) > g := of_decide_eq_true h5
            refine ADraw.plan tyOk mx (.q 0 (.q 1 (.q 3 (.q 4 (.alt 2 (.last 5 (.last 6 (.q 7 (.q 8 (.done))))) (.last 5 (.last 2 (.last 6 (.q 7 (.q 8 (.done)))))))))) : Plan) (by kernel_rfl) ?_
            conv => whnf
            repeat' (first | (refine And.intro ?_ ?_ <;> (conv => whnf)))
            all_goals
              rw [eN]
              refine ⟨(u + 1, abV (sumI nx ny m i j u), (qa nx i : Int), (qb nx i : Int), (qa ny j : Int), (qb ny j : Int), (u : Int), true), none, ?_, ⟨by simp only; omega, u2.nextJ hx hy h h2 h3 hB (.inl ⟨rfl, by show g ≤ abV (sumI nx ny m i j u); omega⟩), fun h => by simp at h⟩, by simp only; omega⟩
              (refine ⟨rfl, rfl, ?_, ?_⟩ <;> ((repeat' (first | exact trivial | exact rfl | refine And.intro ?_ ?_)) <;> (try ((conv => whnf); first | refine vint ?_ | refine vboo ?_ | refine rint ?_ | refine rrow ?_ | skip)) <;> (try first | omega | (simp; done) | ((repeat rw [flts_closed _ (by assumption)]); exact vws_closed _ (by assumption)))))
          · have h5 : ¬ abV (sumI nx ny m i j u) > g := of_decide_eq_false h5
            conv => whnf
            rw [eN]
            exact ⟨(u + 1, g, p0, p1, q0, q1, kk, t), none, (by refine ⟨rfl, rfl, ?_, ?_⟩ <;> ((repeat' (first | exact trivial | exact rfl | refine And.intro ?_ ?_)) <;> (try ((conv => whnf); first | refine vint ?_ | refine vboo ?_ | refine rint ?_ | refine rrow ?_ | skip)) <;> (try first | omega | (simp; done) | ((repeat rw [flts_closed _ (by assumption)]); exact vws_closed _ (by assumption))))), ⟨by simp only; omega, u2.nextJ hx hy h h2 h3 hB (.inr ⟨rfl, by show abV (sumI nx ny m i j u) ≤ g; omega⟩), u3⟩, by simp only; omega⟩
        · have hg0 : g = 0 := u3 (by simpa using ht)
          have hab := abV_bd sb
          have hab : 0 ≤ abV (sumI nx ny m i j u) := hab.1
          clear ew
          (repeat (conv => whnf); (first | refine ⟨fun h => absurd h (by decide), fun _ => ?_⟩ | refine ⟨fun _ => ?_, fun h => absurd h (by decide)⟩)); conv => whnf
          refine ADraw.plan tyOk mx (.q 0 (.q 1 (.q 3 (.q 4 (.alt 2 (.last 5 (.last 6 (.q 7 (.q 8 (.done))))) (.last 5 (.last 2 (.last 6 (.q 7 (.q 8 (.done)))))))))) : Plan) (by kernel_rfl) ?_
          conv => whnf
          repeat' (first | (refine And.intro ?_ ?_ <;> (conv => whnf)))
          all_goals
            rw [eN]
            refine ⟨(u + 1, abV (sumI nx ny m i j u), (qa nx i : Int), (qb nx i : Int), (qa ny j : Int), (qb ny j : Int), (u : Int), true), none, ?_, ⟨by simp only; omega, u2.nextJ hx hy h h2 h3 hB (.inl ⟨rfl, by show g ≤ abV (sumI nx ny m i j u); omega⟩), fun h => by simp at h⟩, by simp only; omega⟩
            (refine ⟨rfl, rfl, ?_, ?_⟩ <;> ((repeat' (first | exact trivial | exact rfl | refine And.intro ?_ ?_)) <;> (try ((conv => whnf); first | refine vint ?_ | refine vboo ?_ | refine rint ?_ | refine rrow ?_ | skip)) <;> (try first | omega | (simp; done) | ((repeat rw [flts_closed _ (by assumption)]); exact vws_closed _ (by assumption)))))
      · have h3 : ¬ u < 4 := by have := of_decide_eq_false h3; omega
        obtain rfl : u = 4 := by omega
        conv => whnf
        rw [nat_wrap (by omega)]
        exact ⟨(j + 1, g, p0, p1, q0, q1, kk, t), none, (by refine ⟨rfl, rfl, ?_, ?_⟩ <;> ((repeat' (first | exact trivial | exact rfl | refine And.intro ?_ ?_)) <;> (try ((conv => whnf); first | refine vint ?_ | refine vboo ?_ | refine rint ?_ | refine rrow ?_ | skip)) <;> (try first | omega | (simp; done) | ((repeat rw [flts_closed _ (by assumption)]); exact vws_closed _ (by assumption))))), ⟨by simp only; omega, u2.nextK, u3⟩, by simp only; omega⟩
    · have h2 := ltF h2
      obtain rfl : j = (prs ny).length := by omega
      conv => whnf
      rw [nat_wrap (by omega)]
      exact ⟨(i + 1, g, p0, p1, q0, q1, kk, t), none, (by refine ⟨rfl, rfl, ?_, ?_⟩ <;> ((repeat' (first | exact trivial | exact rfl | refine And.intro ?_ ?_)) <;> (try ((conv => whnf); first | refine vint ?_ | refine vboo ?_ | refine rint ?_ | refine rrow ?_ | skip)) <;> (try first | omega | (simp; done) | ((repeat rw [flts_closed _ (by assumption)]); exact vws_closed _ (by assumption))))), ⟨by simp only; omega, j2.nextI, j3⟩, by simp only; omega⟩
  · have h := ltF h
    obtain rfl : i = (prs nx).length := by omega
    have hf := i2.fin hx hy
    have hb := i2.pos
    refine ADraw.plan tyOk mx (.q 0 (.q 1 (.q 3 (.q 4 (.q 5 (.alt 2 (.last 6 (.last 7 (.q 8 (.q 9 (.done))))) (.last 6 (.last 2 (.last 7 (.q 8 (.q 9 (.done))))))))))) : Plan) (by kernel_rfl) ?_
    conv => whnf
    repeat' (first
      | (exact ⟨rfl, g, p0, p1, q0, q1, kk, t, hf, hb.2, rfl⟩)
      | (refine And.intro ?_ ?_ <;> (conv => whnf)))
end Go.Proofs.YtkomndcehdneaaaGreat.L
/- What a box becomes: players swapped, questions in other orders, answers flipped; its triple worth. Program. -/
namespace Go.Aw
def enV (ny : Nat) (m : List (List Int)) (x y a c : Nat) : Int := (m.getD (x * ny + y) []).getD (2 * a + c) 0
def swG (nx ny : Nat) (m : List (List Int)) : List (List Int) := boxRows (fun x y a c => enV ny m y x c a) ny nx
def agG (ny : Nat) (m : List (List Int)) (f s : List Int) : List (List Int) := boxRows (fun x y a c => enV ny m (f.getD x 0).toNat (s.getD y 0).toNat a c) f.length s.length
/-- an answer, flipped or not -/
def xb (a : Nat) (f : Int) : Nat := if f = 0 then a else 1 - a
def flG (nx ny : Nat) (m : List (List Int)) (fl : List Int) : List (List Int) := boxRows (fun x y a c => enV ny m x y (xb a (fl.getD x 0)) (xb c (fl.getD (nx + y) 0))) nx ny
theorem xb_bits {a : Nat} {f : Int} (ha : a < 2) (hf : 0 ≤ f ∧ f ≤ 1) : bits .xor .i64 (a : Int) f = (xb a f : Int) := by
  have h1 : a = 0 ∨ a = 1 := by omega
  have h2 : f = 0 ∨ f = 1 := by omega
  rcases h1 with rfl | rfl <;> rcases h2 with rfl | rfl <;> rfl
theorem xb_lt {a : Nat} {f : Int} (ha : a < 2) : xb a f < 2 := by unfold xb; split <;> omega
/-- numbers that are not too great -/
def Bd (m : List (List Int)) : Prop := ∀ p q, 0 ≤ (m.getD p []).getD q 0 ∧ (m.getD p []).getD q 0 ≤ 1000
theorem Bd.of {m : List (List Int)} (h : ∀ r, r ∈ m → ∀ v, v ∈ r → 0 ≤ v ∧ v ≤ 1000) : Bd m := fun p q => by
  by_cases hp : p < m.length
  · by_cases hq : q < (m.getD p []).length
    · exact h _ (Go.Proofs.YtkomndcehdneaaaGreat.getD_mem hp) _ (Go.Proofs.YtkomndcehdneaaaGreat.getD_mem hq)
    · have e : (m.getD p []).getD q 0 = 0 := by rw [List.getD_eq_getElem?_getD, List.getElem?_eq_none (by omega)]; rfl
      rw [e]; omega
  · have e : m.getD p [] = [] := by rw [List.getD_eq_getElem?_getD, List.getElem?_eq_none (by omega)]; rfl
    rw [e]; simp
theorem Bd.rows {num : Nat → Nat → Nat → Nat → Int} {nx ny : Nat} (h : ∀ x y a c, 0 ≤ num x y a c ∧ num x y a c ≤ 1000) : Bd (boxRows num nx ny) := Bd.of fun r hr v hv => by
  rw [boxRows, List.mem_flatMap] at hr
  obtain ⟨i, _, hr⟩ := hr
  obtain ⟨k, _, rfl⟩ := List.mem_map.1 hr
  obtain ⟨p, _, rfl⟩ := List.mem_map.1 hv
  exact h _ _ _ _
theorem Bd.en {m : List (List Int)} (h : Bd m) (ny x y a c : Nat) : 0 ≤ enV ny m x y a c ∧ enV ny m x y a c ≤ 1000 := h _ _
/-- a box of three questions each: nine rows of four numbers that are not too great -/
structure R9 (m : List (List Int)) : Prop where
  len : m.length = 9
  four : ∀ r, r ∈ m → r.length = 4
  bd : Bd m
theorem boxRows_four {num : Nat → Nat → Nat → Nat → Int} {nx ny : Nat} : ∀ r, r ∈ boxRows num nx ny → r.length = 4 := fun r hr => by
  rw [boxRows, List.mem_flatMap] at hr
  obtain ⟨i, _, hr⟩ := hr
  obtain ⟨k, _, rfl⟩ := List.mem_map.1 hr
  simp [boxRow]
theorem R9.sw {m : List (List Int)} (h : R9 m) : R9 (swG 3 3 m) := ⟨boxRows_len _ 3 3, boxRows_four, Bd.rows fun _ _ _ _ => h.bd.en _ _ _ _ _⟩
theorem R9.ag {m : List (List Int)} (h : R9 m) {f s : List Int} (hf : f.length = 3) (hs : s.length = 3) : R9 (agG 3 m f s) := ⟨by rw [agG, boxRows_len, hf, hs], boxRows_four, Bd.rows fun _ _ _ _ => h.bd.en _ _ _ _ _⟩
theorem R9.fl {m : List (List Int)} (h : R9 m) (fl : List Int) : R9 (flG 3 3 m fl) := ⟨boxRows_len _ 3 3, boxRows_four, Bd.rows fun _ _ _ _ => h.bd.en _ _ _ _ _⟩
def n3 (m : List (List Int)) (p : Nat) : Int := (m.getD p []).getD 3 0
def o0 (m : List (List Int)) (p : Nat) : Int := (m.getD p []).getD 2 0 + (m.getD p []).getD 3 0
def o1 (m : List (List Int)) (p : Nat) : Int := (m.getD p []).getD 1 0 + (m.getD p []).getD 3 0
/-- the triple worth -/
def tv (m : List (List Int)) : Int := n3 m 0 + n3 m 1 + n3 m 2 + n3 m 3 + n3 m 4 - n3 m 5 + n3 m 6 - n3 m 7 - o0 m 0 - 2 * o1 m 0 - o1 m 1
theorem tv_bd {m : List (List Int)} (h : Bd m) : -20000 ≤ tv m ∧ tv m ≤ 20000 := by
  have a0 := h 0 3; have a1 := h 1 3; have a2 := h 2 3; have a3 := h 3 3; have a4 := h 4 3; have a5 := h 5 3; have a6 := h 6 3; have a7 := h 7 3
  have b0 := h 0 2; have b1 := h 0 1; have b2 := h 1 1
  unfold tv n3 o0 o1; omega
end Go.Aw
namespace Go.Proofs.YtkomndcehdneaaaGreat.L
open Go.Aw
set_option maxRecDepth 100000
set_option maxHeartbeats 4000000

theorem sw1_spec (nx ny : Nat) (hx : nx ≤ 3) (hy : ny ≤ 3) (z : Int) (m : List (List Int)) (hm : m.length = nx * ny) (h4 : ∀ r, r ∈ m → r.length = 4) (i k a b : Nat) (hi : i < ny) (hk : k < nx) (ha : a < 2) (hb : b < 2) :
    FSpec Tryz.prog 161 [.c (.int .i64 (i)), .c (.int .i64 (k)), .c (.int .i64 (a)), .c (.int .i64 (b)), .rp [.c (.int .i64 (nx)), .c (.int .i64 (ny)), .c (.int .i64 (z)), .t (.rows m)] 0] (ex (.c (.int .i64 (enV ny m k i b a))) []) := by
  have hix := ix_lt hk hi
  have hn : nx * ny ≤ 3 * 3 := Nat.mul_le_mul hx hy
  have hr := h4 _ (getD_mem (d := []) (show k * ny + i < m.length by omega))
  refine fspec tyOk mx Tryz.func161 rfl (by kernel_rfl) rfl ?_
  conv => whnf
  refine ACall.use (at_spec nx ny k i b a z m (by omega) (by omega) (by omega) (by omega)) ?_
  conv => whnf
  exact ⟨rfl, rfl⟩
theorem swapped_spec (nx ny : Nat) (hx : nx ≤ 3) (hy : ny ≤ 3) (z : Int) (m : List (List Int)) (hm : m.length = nx * ny) (h4 : ∀ r, r ∈ m → r.length = 4) :
    FSpec Tryz.prog 85 [.ag [.c (.int .i64 (nx)), .c (.int .i64 (ny)), .c (.int .i64 (z)), .t (.rows m)]] (ex (.ag [.c (.int .i64 (ny)), .c (.int .i64 (nx)), .c (.int .i64 (z)), .own 0]) [(0, .rows 38 3 true (swG nx ny m))]) := by
  refine fspec tyOk mx Tryz.func85 rfl (by kernel_rfl) rfl ?_
  conv => whnf
  refine ACall.use (newBox_spec ny nx z _ [.rp [.c (.int .i64 (nx)), .c (.int .i64 (ny)), .c (.int .i64 (z)), .t (.rows m)] 0] (fun x y a c => enV ny m y x c a) (by omega) (by omega) (fun _ _ => rfl) rfl (fun i k a b hi hk ha hb => sw1_spec nx ny hx hy z m hm h4 i k a b hi hk ha hb)) ?_
  conv => whnf
  exact ⟨rfl, rfl⟩
theorem ag1_spec (nx ny : Nat) (hx : nx ≤ 3) (hy : ny ≤ 3) (z : Int) (m : List (List Int)) (hm : m.length = nx * ny) (h4 : ∀ r, r ∈ m → r.length = 4) (f s : List Int) (hf : ∀ v, v ∈ f → 0 ≤ v ∧ v < nx) (hs : ∀ v, v ∈ s → 0 ≤ v ∧ v < ny)
    (i k a b : Nat) (hi : i < f.length) (hk : k < s.length) (ha : a < 2) (hb : b < 2) :
    FSpec Tryz.prog 189 [.c (.int .i64 (i)), .c (.int .i64 (k)), .c (.int .i64 (a)), .c (.int .i64 (b)), .rp [.c (.int .i64 (nx)), .c (.int .i64 (ny)), .c (.int .i64 (z)), .t (.rows m)] 0, .rp [.t (.ints .i64 f)] 0, .rp [.t (.ints .i64 s)] 0] (ex (.c (.int .i64 (enV ny m (f.getD i 0).toNat (s.getD k 0).toNat a b))) []) := by
  have f1 := hf _ (getD_mem (d := 0) hi)
  have s1 := hs _ (getD_mem (d := 0) hk)
  obtain ⟨p, ep⟩ : ∃ p : Nat, f.getD i 0 = p := ⟨(f.getD i 0).toNat, by omega⟩
  obtain ⟨q, eq⟩ : ∃ q : Nat, s.getD k 0 = q := ⟨(s.getD k 0).toNat, by omega⟩
  rw [ep] at f1
  rw [eq] at s1
  have hix := ix_lt (show p < nx by omega) (show q < ny by omega)
  have hn : nx * ny ≤ 3 * 3 := Nat.mul_le_mul hx hy
  have hr := h4 _ (getD_mem (d := []) (show p * ny + q < m.length by omega))
  refine fspec tyOk mx Tryz.func189 rfl (by kernel_rfl) rfl ?_
  conv => whnf
  refine ADraw.plan tyOk mx (.q 0 (.q 1 (.q 2 (.q 3 (.q 4 (.q 5 (.q 6 (.q 7 (.q 8 (.q 9 (.q 10 (.last 11 (.q 12 (.done))))))))))))) : Plan) (by kernel_rfl) ?_
  conv => whnf
  repeat' (first
    | (refine ⟨i, rfl, hi, ?_⟩; conv => whnf)
    | (refine ⟨k, rfl, hk, ?_⟩; conv => whnf)
    | (rw [ep, eq]; refine ACall.useR (at_spec nx ny p q a b z m (by omega) (by omega) (by omega) (by omega)) ?_; conv => whnf)
    | (refine And.intro ?_ ?_ <;> (conv => whnf)))
  all_goals rfl
theorem again_spec (nx ny : Nat) (hx : nx ≤ 3) (hy : ny ≤ 3) (z : Int) (m : List (List Int)) (hm : m.length = nx * ny) (h4 : ∀ r, r ∈ m → r.length = 4) (f s : List Int) (lf : f.length ≤ 3) (ls : s.length ≤ 3) (hf : ∀ v, v ∈ f → 0 ≤ v ∧ v < nx) (hs : ∀ v, v ∈ s → 0 ≤ v ∧ v < ny) :
    FSpec Tryz.prog 143 [.ag [.c (.int .i64 (nx)), .c (.int .i64 (ny)), .c (.int .i64 (z)), .t (.rows m)], .t (.ints .i64 f), .t (.ints .i64 s)] (ex (.ag [.c (.int .i64 (f.length)), .c (.int .i64 (s.length)), .c (.int .i64 (z)), .own 0]) [(0, .rows 38 3 true (agG ny m f s))]) := by
  refine fspec tyOk mx Tryz.func143 rfl (by kernel_rfl) rfl ?_
  conv => whnf
  refine ACall.use (newBox_spec f.length s.length z _ [.rp [.c (.int .i64 (nx)), .c (.int .i64 (ny)), .c (.int .i64 (z)), .t (.rows m)] 0, .rp [.t (.ints .i64 f)] 0, .rp [.t (.ints .i64 s)] 0] (fun x y a c => enV ny m (f.getD x 0).toNat (s.getD y 0).toNat a c) (by omega) (by omega) (fun _ _ => rfl) rfl (fun i k a b hi hk ha hb => ag1_spec nx ny hx hy z m hm h4 f s hf hs i k a b hi hk ha hb)) ?_
  conv => whnf
  exact ⟨rfl, rfl⟩
theorem fl1_spec (nx ny : Nat) (hx : nx ≤ 3) (hy : ny ≤ 3) (z : Int) (m : List (List Int)) (hm : m.length = nx * ny) (h4 : ∀ r, r ∈ m → r.length = 4) (fl : List Int) (lf : fl.length = nx + ny) (hf : ∀ v, v ∈ fl → 0 ≤ v ∧ v ≤ 1)
    (i k a b : Nat) (hi : i < nx) (hk : k < ny) (ha : a < 2) (hb : b < 2) :
    FSpec Tryz.prog 162 [.c (.int .i64 (i)), .c (.int .i64 (k)), .c (.int .i64 (a)), .c (.int .i64 (b)), .rp [.c (.int .i64 (nx)), .c (.int .i64 (ny)), .c (.int .i64 (z)), .t (.rows m)] 0, .rp [.t (.ints .i64 fl)] 0] (ex (.c (.int .i64 (enV ny m i k (xb a (fl.getD i 0)) (xb b (fl.getD (nx + k) 0))))) []) := by
  have f1 := hf _ (getD_mem (d := 0) (show i < fl.length by omega))
  have f2 := hf _ (getD_mem (d := 0) (show nx + k < fl.length by omega))
  have e1 := xb_bits ha f1
  have e2 := xb_bits hb f2
  have l1 := xb_lt (f := fl.getD i 0) ha
  have l2 := xb_lt (f := fl.getD (nx + k) 0) hb
  have eN : IntKind.i64.wrap ((nx : Int) + (k : Int)) = ((nx + k : Nat) : Int) := by rw [w64 (by omega) (by omega)]; omega
  have hix := ix_lt hi hk
  have hn : nx * ny ≤ 3 * 3 := Nat.mul_le_mul hx hy
  have hr := h4 _ (getD_mem (d := []) (show i * ny + k < m.length by omega))
  refine fspec tyOk mx Tryz.func162 rfl (by kernel_rfl) rfl ?_
  conv => whnf
  refine ADraw.plan tyOk mx (.q 0 (.q 1 (.q 2 (.q 3 (.q 4 (.q 5 (.q 6 (.q 7 (.q 8 (.q 9 (.q 10 (.q 11 (.q 12 (.q 13 (.q 14 (.q 15 (.q 16 (.q 17 (.last 18 (.q 19 (.done)))))))))))))))))))) : Plan) (by kernel_rfl) ?_
  conv => whnf
  repeat' (first
    | (refine ⟨i, rfl, by omega, ?_⟩; conv => whnf)
    | (refine ⟨nx + k, eN, by omega, ?_⟩; conv => whnf)
    | (rw [e1, e2]; refine ACall.useR (at_spec nx ny i k _ _ z m (by omega) (by omega) (by omega) (by omega)) ?_; conv => whnf)
    | (refine And.intro ?_ ?_ <;> (conv => whnf)))
  all_goals rfl
theorem flipped_spec (nx ny : Nat) (hx : nx ≤ 3) (hy : ny ≤ 3) (z : Int) (m : List (List Int)) (hm : m.length = nx * ny) (h4 : ∀ r, r ∈ m → r.length = 4) (fl : List Int) (lf : fl.length = nx + ny) (hf : ∀ v, v ∈ fl → 0 ≤ v ∧ v ≤ 1) :
    FSpec Tryz.prog 87 [.ag [.c (.int .i64 (nx)), .c (.int .i64 (ny)), .c (.int .i64 (z)), .t (.rows m)], .t (.ints .i64 fl)] (ex (.ag [.c (.int .i64 (nx)), .c (.int .i64 (ny)), .c (.int .i64 (z)), .own 0]) [(0, .rows 38 3 true (flG nx ny m fl))]) := by
  refine fspec tyOk mx Tryz.func87 rfl (by kernel_rfl) rfl ?_
  conv => whnf
  refine ACall.use (newBox_spec nx ny z _ [.rp [.c (.int .i64 (nx)), .c (.int .i64 (ny)), .c (.int .i64 (z)), .t (.rows m)] 0, .rp [.t (.ints .i64 fl)] 0] (fun x y a c => enV ny m x y (xb a (fl.getD x 0)) (xb c (fl.getD (nx + y) 0))) (by omega) (by omega) (fun _ _ => rfl) rfl (fun i k a b hi hk ha hb => fl1_spec nx ny hx hy z m hm h4 fl lf hf i k a b hi hk ha hb)) ?_
  conv => whnf
  exact ⟨rfl, rfl⟩
end Go.Proofs.YtkomndcehdneaaaGreat.L
/- Extreme boxes: the boxes of plays, reference and program. -/
namespace Go.Aw
def pbNum (play : List Int) (w : Int) (x y a b : Nat) : Int := if play.getD x 0 = a ∧ play.getD (2 + y) 0 = b then w else 0
def pbM (play : List Int) (w : Int) : List (List Int) := boxRows (pbNum play w) 2 2
theorem pb_row {play : List Int} {w : Int} {i k p q : Nat} (hp : play.getD i 0 = p) (hq : play.getD (2 + k) 0 = q) (h1 : p < 2) (h2 : q < 2) : (List.replicate 4 (0 : Int)).set (2 * p + q) w = boxRow (pbNum play w) i k := by
  unfold boxRow pbNum
  rw [hp, hq]
  have h1 : p = 0 ∨ p = 1 := by omega
  have h2 : q = 0 ∨ q = 1 := by omega
  rcases h1 with rfl | rfl <;> rcases h2 with rfl | rfl <;> rfl
theorem FSpec.told {P : Program} {f : FuncId} {args : List AVal} {x x' : AVal} {h : List (Nat × ARow)} (hs : FSpec P f args (ex x h)) (hv : vw h [] 0 x x') : FSpec P f args (ex x' []) :=
  hs.view (fun y hr e => by obtain ⟨rfl, rfl⟩ := e; exact ⟨[], x', [], rfl, trivial, hv, rfl, rfl⟩)
end Go.Aw
namespace Go.Proofs.YtkomndcehdneaaaGreat
open Go.Aw
set_option maxRecDepth 100000
set_option maxHeartbeats 4000000

theorem pbNum_spec (play : List Int) (hl : play.length = 4) (w : Int) (i k a b : Nat) (hi : i < 2) (hk : k < 2) :
    FSpec Tryz.prog 196 [.c (.int .i64 (i)), .c (.int .i64 (k)), .c (.int .i64 (a)), .c (.int .i64 (b)), .rp [.t (.ints .i64 play)] 0, .rp [.c (.int .i64 (2))] 0, .rp [.c (.int .i64 (w))] 0] (ex (.c (.int .i64 (pbNum play w i k a b))) []) := by
  have e : IntKind.i64.wrap ((2 : Int) + (k : Int)) = ((2 + k : Nat) : Int) := by rw [w64 (by omega) (by omega)]; omega
  refine fspec tyOk mx Tryz.func196 rfl (by kernel_rfl) rfl ?_
  conv => whnf
  refine ⟨i, rfl, by omega, ?_⟩
  conv => whnf
  refine ⟨fun h => ?_, fun h => ?_⟩
  · have h : play.getD i 0 = a := by simpa using h
    conv => whnf
    refine ⟨2 + k, e, by omega, ?_⟩
    conv => whnf
    refine ⟨fun h2 => ?_, fun h2 => ?_⟩
    · have h2 : play.getD (2 + k) 0 = b := by simpa using h2
      conv => whnf
      exact ⟨by rw [pbNum, if_pos ⟨h, h2⟩], rfl⟩
    · have h2 : ¬ play.getD (2 + k) 0 = b := by simpa using h2
      conv => whnf
      exact ⟨by rw [pbNum, if_neg (fun c => h2 c.2)], rfl⟩
  · have h : ¬ play.getD i 0 = a := by simpa using h
    conv => whnf
    (repeat (conv => whnf); (first | refine ⟨fun h => absurd h (by decide), fun _ => ?_⟩ | refine ⟨fun _ => ?_, fun h => absurd h (by decide)⟩)); conv => whnf
    exact ⟨by rw [pbNum, if_neg (fun c => h c.1)], rfl⟩

theorem playBox_spec (play : List Int) (hl : play.length = 4) (w : Int) :
    FSpec Tryz.prog 168 [.c (.int .i64 (2)), .c (.int .i64 (2)), .t (.ints .i64 play), .c (.int .i64 (w))] (ex (.ag [.c (.int .i64 (2)), .c (.int .i64 (2)), .c (.int .i64 (w)), .own 0]) [(0, .rows 38 3 true (pbM play w))]) := by
  refine fspec tyOk mx Tryz.func168 rfl (by kernel_rfl) rfl ?_
  conv => whnf
  refine ACall.use (newBox_spec 2 2 w _ [.rp [.t (.ints .i64 play)] 0, .rp [.c (.int .i64 (2))] 0, .rp [.c (.int .i64 (w))] 0] (pbNum play w) (by omega) (by omega) (fun _ _ => rfl) rfl (fun i k' a b hi hk _ _ => pbNum_spec play hl w i k' a b hi hk)) ?_
  conv => whnf
  exact ⟨rfl, rfl⟩

theorem l2PlayBox_spec (play : List Int) (hl : play.length = 4) (h01 : ∀ v, v ∈ play → 0 ≤ v ∧ v ≤ 1) (w : Int) :
    FSpec Tryz.prog 157 [.c (.int .i64 (2)), .c (.int .i64 (2)), .t (.ints .i64 play), .c (.int .i64 (w))] (ex (.ag [.c (.int .i64 (2)), .c (.int .i64 (2)), .c (.int .i64 (w)), .own 0]) [(0, .rows 38 3 true (pbM play w))]) := by
  refine fspec tyOk mx Tryz.func157 rfl (by kernel_rfl) rfl ?_
  conv => whnf
  refine aloopI tyOk mx (fun i : Nat => (⟨51, [(0, .c (.int .i64 (2))), (1, .c (.int .i64 (2))), (2, .t (.ints .i64 play)), (3, .c (.int .i64 (w))), (8, .ptr 0 0), (9, .ptr 2 0), (10, .c (.int .i64 (i)))], [(0, .cells 26 [.c (.int .i64 (0)), .c (.int .i64 (0)), .c (.int .i64 (0)), .c (.slice none 0 0)]), (1, .rows 38 3 true (boxTo (pbNum play w) 2 i 0)), (2, .cells 26 [.c (.int .i64 (2)), .c (.int .i64 (2)), .c (.int .i64 (w)), .own 1])], 3⟩ : St)) (fun i => i ≤ 2) (fun i => 2 - i) 0 (Nat.zero_le _) none (by refine ⟨rfl, rfl, ?_, ?_⟩ <;> ((repeat' (first | exact trivial | exact rfl | refine And.intro ?_ ?_)) <;> (try ((conv => whnf); first | refine vint ?_ | refine vboo ?_ | refine rint ?_ | refine rrow ?_ | skip)) <;> (try first | omega | (simp; done) | ((repeat rw [flts_closed _ (by assumption)]); exact vws_closed _ (by assumption))))) (fun i hi => ?_)
  refine ⟨fun h => ?_, fun h => ?_⟩
  · have h : i < 2 := by have := of_decide_eq_true h; omega
    conv => whnf
    refine aloopI tyOk mx (fun k : Nat => (⟨51, [(0, .c (.int .i64 (2))), (1, .c (.int .i64 (2))), (2, .t (.ints .i64 play)), (3, .c (.int .i64 (w))), (8, .ptr 0 0), (9, .ptr 2 0), (10, .c (.int .i64 (i))), (11, .c (.int .i64 (k)))], [(0, .cells 26 [.c (.int .i64 (0)), .c (.int .i64 (0)), .c (.int .i64 (0)), .c (.slice none 0 0)]), (1, .rows 38 3 true (boxTo (pbNum play w) 2 i k)), (2, .cells 26 [.c (.int .i64 (2)), .c (.int .i64 (2)), .c (.int .i64 (w)), .own 1])], 3⟩ : St)) (fun k => k ≤ 2) (fun k => 2 - k) 0 (Nat.zero_le _) none (by refine ⟨rfl, rfl, ?_, ?_⟩ <;> ((repeat' (first | exact trivial | exact rfl | refine And.intro ?_ ?_)) <;> (try ((conv => whnf); first | refine vint ?_ | refine vboo ?_ | refine rint ?_ | refine rrow ?_ | skip)) <;> (try first | omega | (simp; done) | ((repeat rw [flts_closed _ (by assumption)]); exact vws_closed _ (by assumption))))) (fun k hk => ?_)
    have hlen := boxTo_len (pbNum play w) 2 i k
    refine ⟨fun h2 => ?_, fun h2 => ?_⟩
    · have h2 : k < 2 := by have := of_decide_eq_true h2; omega
      have hp := h01 _ (getD_mem (d := 0) (show i < play.length by omega))
      have hq := h01 _ (getD_mem (d := 0) (show 2 + k < play.length by omega))
      have e : IntKind.i64.wrap ((2 : Int) + (k : Int)) = ((2 + k : Nat) : Int) := by rw [w64 (by omega) (by omega)]; omega
      have e2 : IntKind.i64.wrap (IntKind.i64.wrap (2 * play.getD i 0) + play.getD (2 + k) 0) = ((2 * (play.getD i 0).toNat + (play.getD (2 + k) 0).toNat : Nat) : Int) := by
        rw [w64 (n := 2 * play.getD i 0) (by omega) (by omega), w64 (by omega) (by omega)]; omega
      conv => whnf
      refine ⟨4, rfl, rfl, by simp [room], ?_⟩
      conv => whnf
      refine ADraw.plan tyOk mx (.q 0 (.q 1 (.q 2 (.q 3 (.q 4 (.q 5 (.q 6 (.q 7 (.q 8 (.q 9 (.q 10 (.q 11 (.q 12 (.q 13 (.q 14 (.last 15 (.done)))))))))))))))) : Plan) (by kernel_rfl) ?_
      conv => whnf
      repeat' (first | (refine ⟨i, rfl, by omega, ?_⟩; conv => whnf) | (refine ⟨2 + k, e, by omega, ?_⟩; conv => whnf) | (refine ⟨2 * (play.getD i 0).toNat + (play.getD (2 + k) 0).toNat, e2, by rw [List.length_replicate]; omega, ?_⟩; conv => whnf) | (refine ⟨by simp [room]; omega, ?_⟩; conv => whnf) | (refine And.intro ?_ ?_ <;> (conv => whnf)))
      all_goals
        rw [nat_wrap (by omega)]
        refine ⟨k + 1, none, ?_, by omega, by omega⟩
        (refine ⟨rfl, rfl, ?_, ?_⟩ <;> ((repeat' (first | exact trivial | exact rfl | refine And.intro ?_ ?_)) <;> (try ((conv => whnf); first | refine vint ?_ | refine vboo ?_ | refine rint ?_ | refine rrow ?_ | skip)) <;> (try first | omega | (simp; done) | ((repeat rw [flts_closed _ (by assumption)]); exact vws_closed _ (by assumption)))))
        rw [← boxTo_row, ← pb_row (i := i) (k := k) (p := (play.getD i 0).toNat) (q := (play.getD (2 + k) 0).toNat) (by omega) (by omega) (by omega) (by omega)]
    · have h2 : ¬ k < 2 := by have := of_decide_eq_false h2; omega
      obtain rfl : k = 2 := by omega
      conv => whnf
      rw [nat_wrap (by omega)]
      refine ⟨i + 1, none, ?_, by omega, by omega⟩
      (refine ⟨rfl, rfl, ?_, ?_⟩ <;> ((repeat' (first | exact trivial | exact rfl | refine And.intro ?_ ?_)) <;> (try ((conv => whnf); first | refine vint ?_ | refine vboo ?_ | refine rint ?_ | refine rrow ?_ | skip)) <;> (try first | omega | (simp; done) | ((repeat rw [flts_closed _ (by assumption)]); exact vws_closed _ (by assumption)))))
      exact boxTo_end _ 2 i
  · have h : ¬ i < 2 := by have := of_decide_eq_false h; omega
    obtain rfl : i = 2 := by omega
    conv => whnf
    exact ⟨rfl, by rw [boxTo_all]; rfl⟩
end Go.Proofs.YtkomndcehdneaaaGreat
