/- All plays: reference and program. -/
import Derived.Test.YteoccgiofepolaaSizes
namespace Go.Aw
def bIx (sc : Nat → Int) : Nat → Nat
  | 0 => 0
  | k + 1 => if sc (k + 1) > sc (bIx sc k) then k + 1 else bIx sc k
theorem bIx_le (sc : Nat → Int) : ∀ k, bIx sc k ≤ k
  | 0 => Nat.le_refl _
  | k + 1 => by have := bIx_le sc k; unfold bIx; split <;> omega
theorem natAdd {a k : Nat} (h : a + k ≤ 1000000) : IntKind.i64.wrap ((a : Int) + (k : Int)) = ((a + k : Nat) : Int) := by rw [w64 (by omega) (by omega)]; omega
theorem natMulAdd {i n k : Nat} (h : i * n + k ≤ 1000000) : IntKind.i64.wrap (IntKind.i64.wrap ((i : Int) * (n : Int)) + (k : Int)) = ((i * n + k : Nat) : Int) := by
  have e : (i : Int) * (n : Int) = ((i * n : Nat) : Int) := by simp
  rw [e, w64 (n := ((i * n : Nat) : Int)) (by omega) (by omega), w64 (by omega) (by omega)]; omega
theorem ix_lt {i k nx ny : Nat} (hi : i < nx) (hk : k < ny) : i * ny + k < nx * ny := by
  have : (i + 1) * ny ≤ nx * ny := Nat.mul_le_mul_right ny hi
  rw [Nat.succ_mul] at this
  omega
def bitAt (n code i : Nat) : Int := bits .and .i64 (shr .i64 code ((n : Int) - 1 - i)) 1
def bitRow (n code : Nat) : List Int := (List.range n).map (bitAt n code)
def playsL (n : Nat) : List (List Int) := (List.range (2 ^ n)).map (bitRow n)
theorem bitAt_01 {n c i : Nat} (hn : n < 7) (hc : c < 64) (hi : i < 6) : 0 ≤ bitAt n c i ∧ bitAt n c i ≤ 1 := by
  have : ∀ n : Nat, n < 7 → ∀ c : Nat, c < 64 → ∀ i : Nat, i < 6 → 0 ≤ bitAt n c i ∧ bitAt n c i ≤ 1 := by decide +kernel
  exact this n hn c hc i hi
theorem playsL_len (n : Nat) : (playsL n).length = 2 ^ n := by simp [playsL]
theorem two_pow6 {n : Nat} (h : n ≤ 6) : 2 ^ n ≤ 64 := by
  have := Nat.pow_le_pow_right (n := 2) (by omega) h
  simpa using this
theorem playsL_row {n x : Nat} (hn : n ≤ 6) (h : x < (playsL n).length) : ((playsL n).getD x []).length = n ∧ ∀ v, v ∈ (playsL n).getD x [] → 0 ≤ v ∧ v ≤ 1 := by
  rw [playsL_len] at h
  have h64 := two_pow6 hn
  rw [playsL, range_getD h]
  refine ⟨by simp [bitRow], fun v hv => ?_⟩
  obtain ⟨i, hi, rfl⟩ := List.mem_map.1 hv
  have hi := List.mem_range.1 hi
  exact bitAt_01 (by omega) (by omega) (by omega)
end Go.Aw
namespace Go.Proofs.Yteoccgiofepolaa
open Go.Aw
set_option maxRecDepth 100000
set_option maxHeartbeats 4000000

end Go.Proofs.Yteoccgiofepolaa
