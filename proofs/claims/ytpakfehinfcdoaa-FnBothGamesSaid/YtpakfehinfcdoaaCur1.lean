/- The cursor of the draws: next, pick, one. -/
import Derived.Test.YtpakfehinfcdoaaPlain
import Derived.Test.YtpakfehinfcdoaaAwU
namespace Go.Proofs.Ytpakfehinfcdoaa
open Go.Aw
set_option maxRecDepth 100000

def OkB (l : List Int) : Prop := l.length ≤ 9223372036854775807 ∧ ∀ x, x ∈ l → 0 ≤ x ∧ x ≤ 255
abbrev cur (code : List Int) (a : Nat) (s : Int) : ARow := .cells 46 [.t (.ints .u8 code), .c (.int .i64 (a)), .c (.int .u64 s)]

theorem W_inr (n : Int) : InR (W n) := by
  unfold InR
  show _ ≤ IntKind.i64.wrap n ∧ IntKind.i64.wrap n ≤ _
  rw [IntKind.wrap_i64]; omega
theorem among_in {l : List Int} {lo hi : Int} {i : Nat} (h : rowIn l lo hi = true) (hl : i < l.length) : lo ≤ l.getD i 0 ∧ l.getD i 0 ≤ hi := by
  simp only [rowIn, inR, List.all_eq_true, Bool.and_eq_true, decide_eq_true_eq] at h
  exact h _ (getD_mem hl)
theorem and255 (x : Int) : 0 ≤ IntKind.i64.wrap (bits .and .u64 x 255) ∧ IntKind.i64.wrap (bits .and .u64 x 255) ≤ 255 := by
  have h : bits .and .u64 x 255 = IntKind.u64.wrap ((BitVec.ofInt 64 x &&& BitVec.ofInt 64 255).toNat : Int) := rfl
  have h2 : (BitVec.ofInt 64 x &&& BitVec.ofInt 64 255).toNat ≤ 255 := by
    rw [BitVec.toNat_and]
    exact Nat.le_trans Nat.and_le_right (by decide)
  rw [h]
  generalize (BitVec.ofInt 64 x &&& BitVec.ofInt 64 255).toNat = n at h2
  rw [IntKind.wrap_u64, IntKind.wrap_i64]
  omega

theorem tmod_bd {a n : Int} (ha : 0 ≤ a) (hn : 0 < n) : 0 ≤ Int.tmod a n ∧ Int.tmod a n < n := by
  rw [Int.tmod_eq_emod_of_nonneg ha]
  exact ⟨Int.emod_nonneg _ (by omega), Int.emod_lt_of_pos _ hn⟩

theorem next_spec (code : List Int) (hc : OkB code) (a : Nat) (s : Int) (ha : a ≤ 1000000000) :
    TSpec Try.prog 45 (cur code a s) [.ptr 0 0] (fun v r => ∃ x s' : Int, v = .c (.int .i64 x) ∧ 0 ≤ x ∧ x ≤ 255 ∧ r = cur code (a + 1) s') := by
  refine tspec tyOk mx Try.func45 rfl (by kernel_rfl) rfl rfl ?_
  conv => whnf
  refine ADraw.std tyOk mx ⟨by kernel_rfl, ?_⟩
  conv => whnf
  refine ⟨fun h => ?_, fun h => ?_⟩
  · have h := ltT h
    have hb := hc.2 _ (getD_mem (d := 0) h)
    conv => whnf
    refine ADraw.std tyOk mx ⟨by kernel_rfl, ?_⟩
    conv => whnf
    refine ⟨a, rfl, h, ?_⟩
    conv => whnf
    rw [nat_wrap (by omega)]
    generalize IntKind.u64.wrap (IntKind.u64.wrap (IntKind.u64.wrap (s * 6364136223846793005) + IntKind.u64.wrap (IntKind.i64.wrap (code.getD a 0))) + 462197) = s'
    refine ADraw.std tyOk mx ⟨by kernel_rfl, ?_⟩
    conv => whnf
    refine ⟨fun h1 => ?_, fun h1 => ?_⟩
    · conv => whnf
      have e : IntKind.i64.wrap (code.getD a 0) = code.getD a 0 := w64 (by omega) (by omega)
      exact ⟨_, s', rfl, by omega, by omega, rfl⟩
    · exact absurd (of_decide_eq_false h1) (by omega)
  · have h := ltF h
    conv => whnf
    rw [nat_wrap (by omega)]
    generalize IntKind.u64.wrap (IntKind.u64.wrap (IntKind.u64.wrap (s * 6364136223846793005) + IntKind.u64.wrap 0) + 462197) = s'
    refine ADraw.std tyOk mx ⟨by kernel_rfl, ?_⟩
    conv => whnf
    refine ⟨fun h1 => ?_, fun h1 => ?_⟩
    · exact absurd (of_decide_eq_true h1) (by omega)
    · conv => whnf
      refine ⟨by omega, ?_⟩
      conv => whnf
      have e := and255 (shr IntKind.u64 s' 40)
      exact ⟨_, s', rfl, e.1, e.2, rfl⟩

theorem l1OwnC_spec (l : List Int) (hl : l.length ≤ 1048576) : FSpec Try.prog 55 [.t (.ints .i64 l)] (ex (.own 0) [(0, .ints 3 .i64 l)]) := by
  refine fspec tyOk mx Try.func55 rfl (by kernel_rfl) rfl ?_
  conv => whnf
  refine ⟨by simp [room]; omega, ?_⟩
  conv => whnf
  exact ⟨rfl, rfl⟩

/-- what a draw tells: a number in bounds, and the cursor moved on a little -/
def drawn (code : List Int) (a k : Nat) (lo hi : Int) (v : AVal) (r : ARow) : Prop :=
  ∃ (x : Int) (a' : Nat) (s' : Int), v = .c (.int .i64 x) ∧ lo ≤ x ∧ x < hi ∧ a ≤ a' ∧ a' ≤ a + k ∧ r = cur code a' s'

theorem pick_spec (code : List Int) (hc : OkB code) (a : Nat) (s : Int) (ha : a ≤ 900000000) (n : Int) (h0 : -1000 ≤ n) (h1 : n ≤ 65536) :
    TSpec Try.prog 21 (cur code a s) [.ptr 0 0, .c (.int .i64 (n))] (drawn code a 2 0 (max n 1)) := by
  refine tspec tyOk mx Try.func21 rfl (by kernel_rfl) rfl rfl ?_
  conv => whnf
  refine ⟨fun h => ?_, fun h => ?_⟩
  · have h := of_decide_eq_true h
    conv => whnf
    exact ⟨0, a, s, rfl, by omega, by omega, by omega, by omega, rfl⟩
  · have h := of_decide_eq_false h
    conv => whnf
    refine ACallS.tmut 0 (next_spec code hc a s (by omega)) ?_ rfl (by (repeat' (first | exact trivial | exact rfl | refine And.intro ?_ ?_)) <;> (try first | omega | (simp; done))) (by (repeat' (first | exact trivial | exact rfl | refine And.intro ?_ ?_)) <;> (try first | omega | (simp; done)))
    rintro v r ⟨x, s1, rfl, x0, x1, rfl⟩
    conv => whnf
    refine ⟨fun h2 => ?_, fun h2 => ?_⟩
    · have h2 := of_decide_eq_true h2
      conv => whnf
      refine ACallS.tmut 0 (next_spec code hc (a + 1) s1 (by omega)) ?_ rfl (by (repeat' (first | exact trivial | exact rfl | refine And.intro ?_ ?_)) <;> (try first | omega | (simp; done))) (by (repeat' (first | exact trivial | exact rfl | refine And.intro ?_ ?_)) <;> (try first | omega | (simp; done)))
      rintro v r ⟨y, s2, rfl, y0, y1, rfl⟩
      conv => whnf
      refine ⟨by omega, ?_⟩
      conv => whnf
      have e1 : IntKind.i64.wrap (x * 256) = x * 256 := w64 (by omega) (by omega)
      have e2 : IntKind.i64.wrap (x * 256 + y) = x * 256 + y := w64 (by omega) (by omega)
      rw [e1, e2]
      have hz := tmod_bd (a := x * 256 + y) (n := n) (by omega) (by omega)
      refine ⟨_, a + 2, s2, rfl, ?_, ?_, by omega, by omega, rfl⟩
      · omega
      · omega
    · have h2 := of_decide_eq_false h2
      conv => whnf
      refine ⟨by omega, ?_⟩
      conv => whnf
      have hz := tmod_bd (a := x) (n := n) (by omega) (by omega)
      refine ⟨_, a + 1, s1, rfl, ?_, ?_, by omega, by omega, rfl⟩
      · omega
      · omega

def drawnB (code : List Int) (a k : Nat) (v : AVal) (r : ARow) : Prop := ∃ (x : Bool) (a' : Nat) (s' : Int), v = .c (.bool x) ∧ a ≤ a' ∧ a' ≤ a + k ∧ r = cur code a' s'
theorem one_spec (code : List Int) (hc : OkB code) (a : Nat) (s : Int) (ha : a ≤ 900000000) (n : Int) (h0 : -1000 ≤ n) (h1 : n ≤ 65536) :
    TSpec Try.prog 22 (cur code a s) [.ptr 0 0, .c (.int .i64 (n))] (drawnB code a 2) := by
  refine tspec tyOk mx Try.func22 rfl (by kernel_rfl) rfl rfl ?_
  conv => whnf
  refine ACallS.tmut 0 (pick_spec code hc a s ha n h0 h1) ?_ rfl (by (repeat' (first | exact trivial | exact rfl | refine And.intro ?_ ?_)) <;> (try first | omega | (simp; done))) (by (repeat' (first | exact trivial | exact rfl | refine And.intro ?_ ?_)) <;> (try first | omega | (simp; done)))
  rintro v r ⟨x, a1, s1, rfl, x0, x1, e1, e2, rfl⟩
  conv => whnf
  exact ⟨_, a1, s1, rfl, e1, e2, rfl⟩
end Go.Proofs.Ytpakfehinfcdoaa
