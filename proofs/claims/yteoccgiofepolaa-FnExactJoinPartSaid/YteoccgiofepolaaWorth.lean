/- Worths of functionals, agreements: reference and program. -/
import Derived.Test.YteoccgiofepolaaPlays
import Derived.Test.YteoccgiofepolaaBox1
namespace Go.Aw
def wRow (f m : List (List Int)) (i : Nat) (a : Int) (n : Nat) : Int := fo (fun a k => W (a + W ((f.getD i []).getD k 0 * (m.getD i []).getD k 0))) a n
def wTo (f m : List (List Int)) (n : Nat) : Int := fo (fun a i => wRow f m i a 4) 0 n
def worthF (f m : List (List Int)) : Int := wTo f m m.length
def agr (r : List Int) : Int := W (W (W (r.getD 0 0 - r.getD 1 0) - r.getD 2 0) + r.getD 3 0)
end Go.Aw
namespace Go.Proofs.Yteoccgiofepolaa
open Go.Aw
set_option maxRecDepth 100000
set_option maxHeartbeats 4000000
theorem l2Agree_spec (r : List Int) (hr : r.length = 4) : FSpec Try.prog 85 [.t (.ints .i64 r)] (ex (.c (.int .i64 (agr r))) []) := by
  refine fspec tyOk mx Try.func85 rfl (by kernel_rfl) rfl ?_
  conv => whnf
  refine ADraw.std tyOk mx ⟨by kernel_rfl, 0, rfl, by omega, 1, rfl, by omega, 2, rfl, by omega, 3, rfl, by omega, ?_⟩
  conv => whnf
  exact ⟨rfl, rfl⟩
theorem agreement_spec (r : List Int) (hr : r.length = 4) : FSpec Try.prog 87 [.t (.ints .i64 r)] (ex (.c (.int .i64 (agr r))) []) := by
  refine fspec tyOk mx Try.func87 rfl (by kernel_rfl) rfl ?_
  conv => whnf
  refine ADraw.std tyOk mx ⟨by kernel_rfl, 0, rfl, by omega, 1, rfl, by omega, 2, rfl, by omega, 3, rfl, by omega, ?_⟩
  conv => whnf
  exact ⟨rfl, rfl⟩
end Go.Proofs.Yteoccgiofepolaa
