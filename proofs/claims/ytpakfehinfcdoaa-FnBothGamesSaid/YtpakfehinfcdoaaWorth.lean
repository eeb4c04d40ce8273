/- Worths of functionals, agreements: reference and program. -/
import Derived.Test.YtpakfehinfcdoaaPlays
import Derived.Test.YtpakfehinfcdoaaBox1
namespace Go.Aw
def wRow (f m : List (List Int)) (i : Nat) (a : Int) (n : Nat) : Int := fo (fun a k => W (a + W ((f.getD i []).getD k 0 * (m.getD i []).getD k 0))) a n
def wTo (f m : List (List Int)) (n : Nat) : Int := fo (fun a i => wRow f m i a 4) 0 n
def worthF (f m : List (List Int)) : Int := wTo f m m.length
def agr (r : List Int) : Int := W (W (W (r.getD 0 0 - r.getD 1 0) - r.getD 2 0) + r.getD 3 0)
end Go.Aw
namespace Go.Proofs.Ytpakfehinfcdoaa
open Go.Aw
set_option maxRecDepth 100000
set_option maxHeartbeats 4000000
end Go.Proofs.Ytpakfehinfcdoaa
