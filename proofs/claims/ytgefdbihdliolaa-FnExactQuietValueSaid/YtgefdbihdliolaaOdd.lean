/- Whether the sum of the answers is odd: reference and program. -/
import Derived.Test.YtgefdbihdliolaaPlain
namespace Go.Proofs.Ytgefdbihdliolaa
open Go.Aw
set_option maxRecDepth 100000

/-- whether the sum of the answers is odd -/
def oddAt (k : Int) (x y : Nat) : Int := Int.tmod (W (W (W (W ((x : Int) * y) + W (bits .and .i64 (shr .i64 k 2) 1 * x)) + W (bits .and .i64 (shr .i64 k 1) 1 * y)) + bits .and .i64 k 1)) 2
def oddS (k : Int) (x y : Nat) : Int := Int.tmod (W (W (W (W ((x : Int) * y) + W (shr .i64 k 2 * x)) + W (bits .and .i64 (shr .i64 k 1) 1 * y)) + bits .and .i64 k 1)) 2
theorem odd_eq {k x y : Nat} (hk : k < 8) (hx : x < 2) (hy : y < 2) : oddS k x y = oddAt k x y := by
  have : ∀ k : Nat, k < 8 → ∀ x : Nat, x < 2 → ∀ y : Nat, y < 2 → oddS k x y = oddAt k x y := by decide +kernel
  exact this k hk x hx y hy

theorem differ_spec (k : Int) (x y : Nat) : FSpec Try.prog 121 [.c (.int .i64 k), .c (.int .i64 (x)), .c (.int .i64 (y))] (ex (.c (.int .i64 (oddAt k x y))) []) := by
  refine fspec tyOk mx Try.func121 rfl (by kernel_rfl) rfl ?_
  conv => whnf
  refine ⟨by decide, ?_⟩
  conv => whnf
  refine ⟨by decide, ?_⟩
  conv => whnf
  refine ⟨by decide, ?_⟩
  conv => whnf
  exact ⟨rfl, rfl⟩
theorem l6Odd_spec (k : Int) (x y : Nat) : FSpec Try.prog 118 [.c (.int .i64 k), .c (.int .i64 (x)), .c (.int .i64 (y))] (ex (.c (.int .i64 (oddS k x y))) []) := by
  refine fspec tyOk mx Try.func118 rfl (by kernel_rfl) rfl ?_
  conv => whnf
  refine ⟨by decide, ?_⟩
  conv => whnf
  refine ⟨by decide, ?_⟩
  conv => whnf
  refine ⟨by decide, ?_⟩
  conv => whnf
  exact ⟨rfl, rfl⟩

end Go.Proofs.Ytgefdbihdliolaa
