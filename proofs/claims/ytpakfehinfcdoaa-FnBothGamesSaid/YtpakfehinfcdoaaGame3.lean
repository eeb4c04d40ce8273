/- Functionals of games, lost pairs: reference and program. -/
import Derived.Test.YtpakfehinfcdoaaGame2
namespace Go.Aw
def lostC (s : List Int) (m : List (List Int)) (p : List Int) (nx ny i k : Nat) : Bool := decide (s.getD (i * ny + k) 0 > 0) && ((m.getD (i * ny + k) []).getD (bitIx p nx i k) 0 == 0)
def lostRow (s : List Int) (m : List (List Int)) (p : List Int) (nx ny i : Nat) (l : List Int) (n : Nat) : List Int := fo (fun l k => if lostC s m p nx ny i k then l ++ [((i * ny + k : Nat) : Int)] else l) l n
def lostTo (s : List Int) (m : List (List Int)) (p : List Int) (nx ny n : Nat) : List Int := fo (fun l i => lostRow s m p nx ny i l ny) [] n
theorem lostRow_len (s : List Int) (m : List (List Int)) (p : List Int) (nx ny i : Nat) (l : List Int) : ∀ n, (lostRow s m p nx ny i l n).length ≤ l.length + n
  | 0 => by simp [lostRow, fo]
  | n + 1 => by
    have := lostRow_len s m p nx ny i l n
    show (if lostC s m p nx ny i n then lostRow s m p nx ny i l n ++ [((i * ny + n : Nat) : Int)] else lostRow s m p nx ny i l n).length ≤ _
    split
    · rw [List.length_append, List.length_singleton]; omega
    · omega
theorem lostTo_len (s : List Int) (m : List (List Int)) (p : List Int) (nx ny : Nat) : ∀ n, (lostTo s m p nx ny n).length ≤ n * ny
  | 0 => by simp [lostTo, fo]
  | n + 1 => by
    have := lostTo_len s m p nx ny n
    have h2 := lostRow_len s m p nx ny n (lostTo s m p nx ny n) ny
    show (lostRow s m p nx ny n (lostTo s m p nx ny n) ny).length ≤ _
    rw [Nat.succ_mul]; omega
end Go.Aw
namespace Go.Proofs.Ytpakfehinfcdoaa
open Go.Aw
set_option maxRecDepth 100000
set_option maxHeartbeats 4000000


end Go.Proofs.Ytpakfehinfcdoaa
