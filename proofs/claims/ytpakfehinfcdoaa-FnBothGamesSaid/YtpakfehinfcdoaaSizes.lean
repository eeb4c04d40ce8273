/- Numbers of questions; sums of lists. -/
import Derived.Test.YtpakfehinfcdoaaBits
namespace Go.Aw
def sumF (l : List Int) (n : Nat) : Int := fo (fun s i => W (s + l.getD i 0)) 0 n
theorem sumF_succ (l : List Int) (n : Nat) : sumF l (n + 1) = W (sumF l n + l.getD n 0) := rfl
theorem sumF_bd {l : List Int} (h : ∀ x, x ∈ l → 0 ≤ x ∧ x ≤ 99) (hl : l.length ≤ 1000) : ∀ n, n ≤ l.length → 0 ≤ sumF l n ∧ sumF l n ≤ 99 * n
  | 0, _ => by simp [sumF, fo]
  | n + 1, hn => by
    have h1 := sumF_bd h hl n (by omega)
    have h2 := h (l.getD n 0) (by rw [List.getD_eq_getElem?_getD, List.getElem?_eq_getElem (by omega)]; exact List.getElem_mem _)
    have e : W (sumF l n + l.getD n 0) = sumF l n + l.getD n 0 := w64 (by omega) (by omega)
    rw [sumF_succ, e]
    omega
end Go.Aw
namespace Go.Proofs.Ytpakfehinfcdoaa
open Go.Aw
set_option maxRecDepth 100000
set_option maxHeartbeats 4000000

theorem inR_iff {x a b : Int} : inR x a b = true ↔ a ≤ x ∧ x ≤ b := by simp [inR]
theorem rowIn_iff {l : List Int} {a b : Int} : rowIn l a b = true ↔ ∀ x, x ∈ l → a ≤ x ∧ x ≤ b := by simp [rowIn, inR]
def szOk (x y : Int) : Bool := inR x 1 3 && inR y 1 3
theorem szOk_nat {x y : Int} (h : szOk x y = true) : ∃ a b : Nat, x = a ∧ y = b ∧ 1 ≤ a ∧ a ≤ 3 ∧ 1 ≤ b ∧ b ≤ 3 ∧ x * y = ((a * b : Nat) : Int) ∧ a * b ≤ 9 := by
  simp only [szOk, Bool.and_eq_true, inR_iff] at h
  obtain ⟨⟨h1, h2⟩, h3, h4⟩ := h
  obtain ⟨a, rfl⟩ : ∃ n : Nat, x = n := ⟨x.toNat, by omega⟩
  obtain ⟨b, rfl⟩ : ∃ n : Nat, y = n := ⟨y.toNat, by omega⟩
  have : a * b ≤ 3 * 3 := Nat.mul_le_mul (by omega) (by omega)
  exact ⟨a, b, rfl, rfl, by omega, by omega, by omega, by omega, by simp, this⟩
theorem szOk_mul {x y : Int} (h : szOk x y = true) : IntKind.i64.wrap (x * y) = x * y := by
  obtain ⟨a, b, rfl, rfl, _, _, _, _, h5, h6⟩ := szOk_nat h
  rw [h5, w64 (by omega) (by omega)]

theorem l2Sizes_spec (x y : Int) : FSpec Try.prog 49 [.c (.int .i64 x), .c (.int .i64 y)] (ex (.c (.bool (szOk x y))) []) := by
  refine fspec tyOk mx Try.func49 rfl (by kernel_rfl) rfl ?_
  conv => whnf
  refine ACall.use (l1In_spec _ _ _) ?_
  conv => whnf
  refine ⟨fun h => ?_, fun h => ?_⟩
  · conv => whnf
    refine ACall.use (l1In_spec _ _ _) ?_
    conv => whnf
    exact ⟨by rw [szOk, h, Bool.true_and], rfl⟩
  · conv => whnf
    exact ⟨by rw [szOk, h, Bool.false_and], rfl⟩
theorem areQuestions_spec (x y : Int) : FSpec Try.prog 47 [.c (.int .i64 x), .c (.int .i64 y)] (ex (.c (.bool (szOk x y))) []) := by
  refine fspec tyOk mx Try.func47 rfl (by kernel_rfl) rfl ?_
  conv => whnf
  refine ACall.use (within_spec _ _ _) ?_
  conv => whnf
  refine ⟨fun h => ?_, fun h => ?_⟩
  · conv => whnf
    refine ACall.use (within_spec _ _ _) ?_
    conv => whnf
    exact ⟨by rw [szOk, h, Bool.true_and], rfl⟩
  · conv => whnf
    exact ⟨by rw [szOk, h, Bool.false_and], rfl⟩

theorem total_spec (l : List Int) (hl : l.length ≤ 1048576) : FSpec Try.prog 30 [.t (.ints .i64 l)] (ex (.c (.int .i64 (sumF l l.length))) []) := by
  refine fspec tyOk mx Try.func30 rfl (by kernel_rfl) rfl ?_
  conv => whnf
  refine aloopI tyOk mx (fun k : Nat => (⟨17, [(3, .c (.int .i64 (sumF l k))), (6, .t (.ints .i64 l)), (7, .c (.int .i64 l.length)), (8, .c (.int .i64 (k)))], [], 0⟩ : St)) (fun k => k ≤ l.length) (fun k => l.length - k) 0 (Nat.zero_le _) none (by refine ⟨rfl, rfl, ?_, ?_⟩ <;> ((repeat' (first | exact trivial | exact rfl | refine And.intro ?_ ?_)) <;> (try ((conv => whnf); first | refine vint ?_ | refine vboo ?_ | refine rint ?_ | refine rrow ?_ | skip)) <;> (try first | omega | (simp; done) | ((repeat rw [flts_closed _ (by assumption)]); exact vws_closed _ (by assumption))))) (fun k hk => ?_)
  refine ⟨fun h => ?_, fun h => ?_⟩
  · have h := ltT h
    conv => whnf
    refine ⟨k, rfl, h, ?_⟩
    conv => whnf
    rw [nat_wrap (by omega)]
    exact ⟨k + 1, none, (by refine ⟨rfl, rfl, ?_, ?_⟩ <;> ((repeat' (first | exact trivial | exact rfl | refine And.intro ?_ ?_)) <;> (try ((conv => whnf); first | refine vint ?_ | refine vboo ?_ | refine rint ?_ | refine rrow ?_ | skip)) <;> (try first | omega | (simp; done) | ((repeat rw [flts_closed _ (by assumption)]); exact vws_closed _ (by assumption))))), by omega, by omega⟩
  · have h := ltF h
    obtain rfl : k = l.length := by omega
    conv => whnf
    exact ⟨rfl, rfl⟩

end Go.Proofs.Ytpakfehinfcdoaa
