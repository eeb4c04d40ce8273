/- EqualSumBox, program and reference. -/
import Derived.Test.YtgefdbihdliolaaNewBox
import Derived.Test.YtgefdbihdliolaaOdd
import Derived.Test.YtgefdbihdliolaaHeldBox
namespace Go.Proofs.Ytgefdbihdliolaa
open Go.Aw
set_option maxRecDepth 100000

def eqNum (k : Int) (x y a b : Nat) : Int := W (1 - bits .xor .i64 (bits .xor .i64 a b) (oddAt k x y))
def equalM (k : Int) : List (List Int) := boxRows (eqNum k) 2 2
def oddRow (k : Int) (x y : Nat) : List Int := [W (1 - oddS k x y), oddS k x y, oddS k x y, W (1 - oddS k x y)]

theorem eq_rows (k : Nat) (hk : k < 8) : ∀ x y : Nat, x < 2 → y < 2 → oddRow k x y = boxRow (eqNum k) x y := by
  have : ∀ k : Nat, k < 8 → ∀ x : Nat, x < 2 → ∀ y : Nat, y < 2 → oddRow k x y = boxRow (eqNum k) x y := by decide +kernel
  exact fun x y hx hy => this k hk x hx y hy

theorem equalNum_spec (k : Int) (x y a b : Nat) : FSpec Try.prog 120 [.c (.int .i64 (x)), .c (.int .i64 (y)), .c (.int .i64 (a)), .c (.int .i64 (b)), .rp [.c (.int .i64 k)] 0] (ex (.c (.int .i64 (eqNum k x y a b))) []) := by
  refine fspec tyOk mx Try.func120 rfl (by kernel_rfl) rfl ?_
  conv => whnf
  refine ACall.use (differ_spec k x y) ?_
  conv => whnf
  exact ⟨rfl, rfl⟩

theorem equalSum_spec (k : Int) : FSpec Try.prog 80 [.c (.int .i64 k)] (ex (.ag [.c (.int .i64 (2)), .c (.int .i64 (2)), .c (.int .i64 (2)), .own 0]) [(0, .rows 23 3 true (equalM k))]) := by
  refine fspec tyOk mx Try.func80 rfl (by kernel_rfl) rfl ?_
  conv => whnf
  refine ACall.use (newBox_spec 2 2 2 _ [.rp [.c (.int .i64 k)] 0] (eqNum k) (by omega) (by omega) (fun _ _ => rfl) rfl (fun i k' a b _ _ _ _ => equalNum_spec k i k' a b)) ?_
  conv => whnf
  exact ⟨rfl, rfl⟩

theorem oddRow_len (k : Int) (x y : Nat) : (oddRow k x y).length = 4 := rfl
theorem l6Sum_spec (k : Nat) (hk : k < 8) : FSpec Try.prog 78 [.c (.int .i64 (k))] (ex (.ag [.c (.int .i64 (2)), .c (.int .i64 (2)), .c (.int .i64 (2)), .own 0]) [(0, .rows 23 3 true (equalM k))]) := by
  refine fspec tyOk mx Try.func78 rfl (by kernel_rfl) rfl ?_
  conv => whnf
  refine aloopI tyOk mx (fun x : Nat => (⟨34, [(0, .c (.int .i64 (k))), (2, .ptr 0 0), (3, .ptr 2 0), (4, .c (.int .i64 (x)))], [(0, .cells 42 [.c (.int .i64 (0)), .c (.int .i64 (0)), .c (.int .i64 (0)), .c (.slice none 0 0)]), (1, .rows 23 3 true (boxTo (eqNum k) 2 x 0)), (2, .cells 42 [.c (.int .i64 (2)), .c (.int .i64 (2)), .c (.int .i64 (2)), .own 1])], 3⟩ : St)) (fun x => x ≤ 2) (fun x => 2 - x) 0 (by omega) none (by refine ⟨rfl, rfl, ?_, ?_⟩ <;> ((repeat' (first | exact trivial | exact rfl | refine And.intro ?_ ?_)) <;> (try ((conv => whnf); first | refine vint ?_ | refine vboo ?_ | refine rint ?_ | refine rrow ?_ | skip)) <;> (try first | omega | (simp; done) | ((repeat rw [flts_closed _ (by assumption)]); exact vws_closed _ (by assumption))))) (fun x hx => ?_)
  refine ⟨fun h => ?_, fun h => ?_⟩
  · have h : x < 2 := by have := of_decide_eq_true h; omega
    conv => whnf
    refine aloopI tyOk mx (fun y : Nat => (⟨34, [(0, .c (.int .i64 (k))), (2, .ptr 0 0), (3, .ptr 2 0), (4, .c (.int .i64 (x))), (5, .c (.int .i64 (y)))], [(0, .cells 42 [.c (.int .i64 (0)), .c (.int .i64 (0)), .c (.int .i64 (0)), .c (.slice none 0 0)]), (1, .rows 23 3 true (boxTo (eqNum k) 2 x y)), (2, .cells 42 [.c (.int .i64 (2)), .c (.int .i64 (2)), .c (.int .i64 (2)), .own 1])], 3⟩ : St)) (fun y => y ≤ 2) (fun y => 2 - y) 0 (by omega) none (by refine ⟨rfl, rfl, ?_, ?_⟩ <;> ((repeat' (first | exact trivial | exact rfl | refine And.intro ?_ ?_)) <;> (try ((conv => whnf); first | refine vint ?_ | refine vboo ?_ | refine rint ?_ | refine rrow ?_ | skip)) <;> (try first | omega | (simp; done) | ((repeat rw [flts_closed _ (by assumption)]); exact vws_closed _ (by assumption))))) (fun y hy => ?_)
    have hlen := boxTo_len (eqNum k) 2 x y
    refine ⟨fun h2 => ?_, fun h2 => ?_⟩
    · have h2 : y < 2 := by have := of_decide_eq_true h2; omega
      conv => whnf
      refine ACall.use (l6Odd_spec k x y) ?_
      conv => whnf
      refine ⟨by simp [room]; omega, ?_⟩
      conv => whnf
      rw [nat_wrap (by omega)]
      refine ⟨y + 1, none, ?_, by omega, by omega⟩
      (refine ⟨rfl, rfl, ?_, ?_⟩ <;> ((repeat' (first | exact trivial | exact rfl | refine And.intro ?_ ?_)) <;> (try ((conv => whnf); first | refine vint ?_ | refine vboo ?_ | refine rint ?_ | refine rrow ?_ | skip)) <;> (try first | omega | (simp; done) | ((repeat rw [flts_closed _ (by assumption)]); exact vws_closed _ (by assumption)))))
      rw [← boxTo_row, ← eq_rows k hk x y h h2]; rfl
    · have h2 : ¬ y < 2 := by have := of_decide_eq_false h2; omega
      obtain rfl : y = 2 := by omega
      conv => whnf
      rw [nat_wrap (by omega)]
      refine ⟨x + 1, none, ?_, by omega, by omega⟩
      (refine ⟨rfl, rfl, ?_, ?_⟩ <;> ((repeat' (first | exact trivial | exact rfl | refine And.intro ?_ ?_)) <;> (try ((conv => whnf); first | refine vint ?_ | refine vboo ?_ | refine rint ?_ | refine rrow ?_ | skip)) <;> (try first | omega | (simp; done) | ((repeat rw [flts_closed _ (by assumption)]); exact vws_closed _ (by assumption)))))
      exact boxTo_end (eqNum k) 2 x
  · have h : ¬ x < 2 := by have := of_decide_eq_false h; omega
    obtain rfl : x = 2 := by omega
    conv => whnf
    exact ⟨rfl, by rw [boxTo_all]; rfl⟩

def eqOk (k : Int) : Bool := inR k 0 7
def eqRes (k : Int) : List (List Int) := if eqOk k then equalM k else []

theorem EqualSumBox_bd (k : Int) (_hk : InR k) : (eqRes k).length ≤ 1000000 ∧ tot (eqRes k) ≤ 1000000 := by
  unfold eqRes
  split
  · have h1 : (equalM k).length = 4 := boxRows_len _ 2 2
    have h2 := tot_le_mul (m := equalM k) (n := 4) (fun q hq => by
      obtain ⟨i, _, hq⟩ := List.mem_flatMap.1 hq
      obtain ⟨j, _, rfl⟩ := List.mem_map.1 hq
      simp [boxRow])
    omega
  · simp [tot]
end Go.Proofs.Ytgefdbihdliolaa
