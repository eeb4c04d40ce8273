/- All plays: reference and program. -/
import Derived.Test.YtpakfehinfcdoaaSizes
namespace Go.Aw
def bIx (sc : Nat → Int) : Nat → Nat
  | 0 => 0
  | k + 1 => if sc (k + 1) > sc (bIx sc k) then k + 1 else bIx sc k
theorem bIx_le (sc : Nat → Int) : ∀ k, bIx sc k ≤ k
  | 0 => Nat.le_refl _
  | k + 1 => by have := bIx_le sc k; unfold bIx; split <;> omega
theorem natAdd {a k : Nat} (h : a + k ≤ 1000000) : IntKind.i64.wrap ((a : Int) + (k : Int)) = ((a + k : Nat) : Int) := by rw [w64 (by omega) (by omega)]; omega
theorem natMulAdd {i n k : Nat} (h : i * n + k ≤ 1000000) : IntKind.i64.wrap (IntKind.i64.wrap ((i : Int) * (n : Int)) + (k : Int)) = ((i * n + k : Nat) : Int) := by
  have e : (i : Int) * (n : Int) = ((i * n : Nat) : Int) := by simp
  rw [e, w64 (n := ((i * n : Nat) : Int)) (by omega) (by omega), w64 (by omega) (by omega)]; omega
theorem ix_lt {i k nx ny : Nat} (hi : i < nx) (hk : k < ny) : i * ny + k < nx * ny := by
  have : (i + 1) * ny ≤ nx * ny := Nat.mul_le_mul_right ny hi
  rw [Nat.succ_mul] at this
  omega
def bitAt (n code i : Nat) : Int := bits .and .i64 (shr .i64 code ((n : Int) - 1 - i)) 1
def bitRow (n code : Nat) : List Int := (List.range n).map (bitAt n code)
def playsL (n : Nat) : List (List Int) := (List.range (2 ^ n)).map (bitRow n)
theorem bitAt_01 {n c i : Nat} (hn : n < 7) (hc : c < 64) (hi : i < 6) : 0 ≤ bitAt n c i ∧ bitAt n c i ≤ 1 := by
  have : ∀ n : Nat, n < 7 → ∀ c : Nat, c < 64 → ∀ i : Nat, i < 6 → 0 ≤ bitAt n c i ∧ bitAt n c i ≤ 1 := by decide +kernel
  exact this n hn c hc i hi
theorem playsL_len (n : Nat) : (playsL n).length = 2 ^ n := by simp [playsL]
theorem two_pow6 {n : Nat} (h : n ≤ 6) : 2 ^ n ≤ 64 := by
  have := Nat.pow_le_pow_right (n := 2) (by omega) h
  simpa using this
theorem playsL_row {n x : Nat} (hn : n ≤ 6) (h : x < (playsL n).length) : ((playsL n).getD x []).length = n ∧ ∀ v, v ∈ (playsL n).getD x [] → 0 ≤ v ∧ v ≤ 1 := by
  rw [playsL_len] at h
  have h64 := two_pow6 hn
  rw [playsL, range_getD h]
  refine ⟨by simp [bitRow], fun v hv => ?_⟩
  obtain ⟨i, hi, rfl⟩ := List.mem_map.1 hv
  have hi := List.mem_range.1 hi
  exact bitAt_01 (by omega) (by omega) (by omega)
end Go.Aw
namespace Go.Proofs.Ytpakfehinfcdoaa
open Go.Aw
set_option maxRecDepth 100000
set_option maxHeartbeats 4000000

theorem plays_spec (nx ny : Nat) (hx : nx + ny ≤ 6) : FSpec Try.prog 28 [.c (.int .i64 (nx)), .c (.int .i64 (ny))] (ex (.own 0) [(0, .rows 24 3 true (playsL (nx + ny)))]) := by
  have h2 := two_pow6 hx
  refine fspec tyOk mx Try.func28 rfl (by kernel_rfl) rfl ?_
  conv => whnf
  rw [natAdd (by omega)]
  refine ⟨by omega, ?_⟩
  rw [shl_one (by omega)]
  conv => whnf
  refine aloopI tyOk mx (fun c : Nat => (⟨43, [(0, .c (.int .i64 (nx))), (1, .c (.int .i64 (ny))), (5, .own 0), (13, .c (.int .i64 ((2 ^ (nx + ny) : Nat)))), (14, .c (.int .i64 (c)))], [(0, .rows 24 3 true ((List.range c).map (bitRow (nx + ny))))], 1⟩ : St)) (fun c => c ≤ 2 ^ (nx + ny)) (fun c => 2 ^ (nx + ny) - c) 0 (Nat.zero_le _) none (by refine ⟨rfl, rfl, ?_, ?_⟩ <;> ((repeat' (first | exact trivial | exact rfl | refine And.intro ?_ ?_)) <;> (try ((conv => whnf); first | refine vint ?_ | refine vboo ?_ | refine rint ?_ | refine rrow ?_ | skip)) <;> (try first | omega | (simp; done) | ((repeat rw [flts_closed _ (by assumption)]); exact vws_closed _ (by assumption))))) (fun c hc => ?_)
  refine ⟨fun h => ?_, fun h => ?_⟩
  · have hc1 : c < 2 ^ (nx + ny) := Int.ofNat_lt.1 (of_decide_eq_true h)
    conv => whnf
    rw [natAdd (by omega)]
    refine aloopI tyOk mx (fun i : Nat => (⟨43, [(0, .c (.int .i64 (nx))), (1, .c (.int .i64 (ny))), (5, .own 0), (6, .c (.int .i64 (c))), (7, .own 1), (13, .c (.int .i64 ((2 ^ (nx + ny) : Nat)))), (14, .c (.int .i64 (c))), (20, .c (.int .i64 ((nx + ny : Nat)))), (21, .c (.int .i64 (i)))], [(0, .rows 24 3 true ((List.range c).map (bitRow (nx + ny)))), (1, .ints 3 .i64 ((List.range i).map (bitAt (nx + ny) c)))], 2⟩ : St)) (fun i => i ≤ nx + ny) (fun i => nx + ny - i) 0 (by omega) none (by refine ⟨rfl, rfl, ?_, ?_⟩ <;> ((repeat' (first | exact trivial | exact rfl | refine And.intro ?_ ?_)) <;> (try ((conv => whnf); first | refine vint ?_ | refine vboo ?_ | refine rint ?_ | refine rrow ?_ | skip)) <;> (try first | omega | (simp; done) | ((repeat rw [flts_closed _ (by assumption)]); exact vws_closed _ (by assumption))))) (fun i hi => ?_)
    refine ⟨fun h => ?_, fun h => ?_⟩
    · have hi1 : i < nx + ny := ltT h
      have e1 : IntKind.i64.wrap (IntKind.i64.wrap (IntKind.i64.wrap ((nx : Int) + ny) - 1) - i) = ((nx + ny : Nat) : Int) - 1 - i := by rw [natAdd (by omega), w64 (n := ((nx + ny : Nat) : Int) - 1) (by omega) (by omega), w64 (by omega) (by omega)]
      conv => whnf
      rw [e1]
      refine ⟨by omega, ?_⟩
      conv => whnf
      refine ⟨by simp [room]; omega, ?_⟩
      conv => whnf
      rw [nat_wrap (by omega)]
      refine ⟨i + 1, none, ?_, hi1, by omega⟩
      (refine ⟨rfl, rfl, ?_, ?_⟩ <;> ((repeat' (first | exact trivial | exact rfl | refine And.intro ?_ ?_)) <;> (try ((conv => whnf); first | refine vint ?_ | refine vboo ?_ | refine rint ?_ | refine rrow ?_ | skip)) <;> (try first | omega | (simp; done) | ((repeat rw [flts_closed _ (by assumption)]); exact vws_closed _ (by assumption)))))
      rw [← map_range_succ]; rfl
    · have hi1 : ¬ i < nx + ny := ltF h
      obtain rfl : i = nx + ny := by omega
      conv => whnf
      refine ⟨by simp [room]; omega, ?_⟩
      conv => whnf
      rw [nat_wrap (by omega)]
      refine ⟨c + 1, none, ?_, hc1, by omega⟩
      (refine ⟨rfl, rfl, ?_, ?_⟩ <;> ((repeat' (first | exact trivial | exact rfl | refine And.intro ?_ ?_)) <;> (try ((conv => whnf); first | refine vint ?_ | refine vboo ?_ | refine rint ?_ | refine rrow ?_ | skip)) <;> (try first | omega | (simp; done) | ((repeat rw [flts_closed _ (by assumption)]); exact vws_closed _ (by assumption)))))
      rw [← map_range_succ]; rfl
  · have hc1 : 2 ^ (nx + ny) ≤ c := Nat.not_lt.1 fun hh => of_decide_eq_false h (Int.ofNat_lt.2 hh)
    obtain rfl : c = 2 ^ (nx + ny) := by omega
    conv => whnf
    exact ⟨rfl, rfl⟩
end Go.Proofs.Ytpakfehinfcdoaa
