/- The types of this program, for the engine; small facts. -/
import Derived.Test.YtpakfehinfcdoaaProg
import Derived.Test.YtpakfehinfcdoaaAw18
namespace Go.Aw
theorem TyOk.of {P : Program} {t : Nat} {d : TD} {size bytes : Nat} {z : Value} {zero : List Value} (h1 : d.is P t)
    (h2 : (P.info? t).map (fun i => (i.zero, i.size, i.bytes)) = some (some z, size, bytes)) (h3 : z.cells = zero.toArray) : TyOk P t ⟨d, size, bytes, zero⟩ := by
  refine ⟨h1, ?_⟩
  obtain ⟨i, hi, he⟩ := Option.map_eq_some_iff.1 h2
  simp only [Prod.mk.injEq] at he
  exact ⟨i, z, hi, he.2.1, he.2.2, he.1, h3⟩

theorem w64 {n : Int} (h1 : -9223372036854775808 ≤ n) (h2 : n ≤ 9223372036854775807) : IntKind.i64.wrap n = n := by rw [IntKind.wrap_i64]; omega

theorem vint {k : IntKind} {a b : Int} (h : a = b) : Value.int k a = Value.int k b := by rw [h]
theorem vboo {a b : Bool} (h : a = b) : Value.bool a = Value.bool b := by rw [h]
theorem rint {e : Nat} {k : IntKind} {a b : List Int} (h : a = b) : ARow.ints e k a = ARow.ints e k b := by rw [h]
theorem rrow {e e1 : Nat} {u : Bool} {a b : List (List Int)} (h : a = b) : ARow.rows e e1 u a = ARow.rows e e1 u b := by rw [h]
theorem ltT {a b : Nat} (h : decide ((a : Int) < (b : Int)) = true) : a < b := Int.ofNat_lt.1 (of_decide_eq_true h)
theorem ltF {a b : Nat} (h : decide ((a : Int) < (b : Int)) = false) : ¬ a < b := fun hh => of_decide_eq_false h (Int.ofNat_lt.2 hh)
theorem nat_of {n : Int} {len : Nat} (h0 : 0 ≤ n) (h1 : n < len) : ∃ i : Nat, n = (i : Int) ∧ i < len := ⟨n.toNat, by omega, by omega⟩
section
variable {hp : List (Nat × ARow)} {R : List (Nat × Org)} {nx : Nat}
mutual
/-- what is closed is seen as itself -/
theorem vw_closed : ∀ (x : AVal), clo1 (fun _ _ => none) [] x = some x → vw hp R nx x x
  | .c _, _ => rfl
  | .t _, _ => rfl
  | .ag l, h => by
    simp only [clo1] at h
    split at h
    · rename_i l2 hl
      have e : l2 = l := by simpa using h
      exact vws_closed l (e ▸ hl)
    · cases h
  | .rp l o, h => by
    simp only [clo1] at h
    split at h
    · rename_i l2 hl
      have e : l2 = l := by simpa using h
      exact ⟨rfl, vws_closed l (e ▸ hl)⟩
    · cases h
  | .clo f l, h => by
    simp only [clo1] at h
    split at h
    · rename_i l2 hl
      have e : l2 = l := by simpa using h
      exact ⟨rfl, vws_closed l (e ▸ hl)⟩
    · cases h
  | .knot f l n, h => by
    simp only [clo1] at h
    split at h
    · rename_i l2 hl
      have e : l2 = l := by simpa using h
      exact ⟨rfl, rfl, vws_closed l (e ▸ hl)⟩
    · cases h
  | .nul, h => by simp [clo1] at h
  | .un, h => by simp [clo1] at h
  | .tu _, h => by simp [clo1] at h
  | .adr _ _, h => by simp [clo1] at h
  | .subp _ _ _, h => by simp [clo1] at h
  | .own _, h => by simp [clo1, look] at h
  | .sub _ _, h => by simp [clo1, look] at h
  | .ptr _ _, h => by simp [clo1] at h
theorem vws_closed : ∀ (l : List AVal), clos (fun _ _ => none) [] l = some l → vws hp R nx l l
  | [], _ => trivial
  | a :: l, h => by
    simp only [clos] at h
    split at h
    · cases h
    · rename_i b hb
      split at h
      · cases h
      · rename_i l' hl
        simp only [Option.some.injEq, List.cons.injEq] at h
        exact ⟨vw_closed a (hb.trans (congrArg some h.1)), vws_closed l (hl.trans (congrArg some h.2))⟩
end
end
section
variable {f g : Nat → Bool}
mutual
theorem flt_closed : ∀ (x : AVal), clo1 (fun _ _ => none) [] x = some x → x.flt f g = x
  | .c _, _ => rfl
  | .t _, _ => rfl
  | .ag l, h => by
    simp only [clo1] at h
    split at h
    · rename_i l2 hl
      have e : l2 = l := by simpa using h
      rw [AVal.flt, flts_closed l (e ▸ hl)]
    · cases h
  | .rp l o, h => by
    simp only [clo1] at h
    split at h
    · rename_i l2 hl
      have e : l2 = l := by simpa using h
      rw [AVal.flt, flts_closed l (e ▸ hl)]
    · cases h
  | .clo _ l, h => by
    simp only [clo1] at h
    split at h
    · rename_i l2 hl
      have e : l2 = l := by simpa using h
      rw [AVal.flt, flts_closed l (e ▸ hl)]
    · cases h
  | .knot _ l _, h => by
    simp only [clo1] at h
    split at h
    · rename_i l2 hl
      have e : l2 = l := by simpa using h
      rw [AVal.flt, flts_closed l (e ▸ hl)]
    · cases h
  | .nul, h => by simp [clo1] at h
  | .un, h => by simp [clo1] at h
  | .tu _, h => by simp [clo1] at h
  | .adr _ _, h => by simp [clo1] at h
  | .subp _ _ _, h => by simp [clo1] at h
  | .own _, h => by simp [clo1, look] at h
  | .sub _ _, h => by simp [clo1, look] at h
  | .ptr _ _, h => by simp [clo1] at h
theorem flts_closed : ∀ (l : List AVal), clos (fun _ _ => none) [] l = some l → flts f g l = l
  | [], _ => rfl
  | a :: l, h => by
    simp only [clos] at h
    split at h
    · cases h
    · rename_i b hb
      split at h
      · cases h
      · rename_i l' hl
        simp only [Option.some.injEq, List.cons.injEq] at h
        rw [flts, flt_closed a (hb.trans (congrArg some h.1)), flts_closed l (hl.trans (congrArg some h.2))]
end
end
end Go.Aw
namespace Go.Proofs.Ytpakfehinfcdoaa
open Go.Aw
def ty : Tys := [
 (3, ⟨.int .i64, 1, 8, [.int .i64 0]⟩),
 (24, ⟨.slice 3, 1, 24, [.slice none 0 0]⟩),
 (25, ⟨.slice 24, 1, 24, [.slice none 0 0]⟩),
 (52, ⟨.int .u64, 1, 8, [.int .u64 0]⟩),
 (27, ⟨.struct [(0, 3), (1, 3), (2, 24), (3, 25)], 4, 64, [.int .i64 0, .int .i64 0, .slice none 0 0, .slice none 0 0]⟩),
 (5, ⟨.int .u8, 1, 1, [.int .u8 0]⟩),
 (22, ⟨.slice 5, 1, 24, [.slice none 0 0]⟩),
 (44, ⟨.int .u64, 1, 8, [.int .u64 0]⟩),
 (46, ⟨.struct [(0, 22), (1, 3), (2, 44)], 3, 40, [.slice none 0 0, .int .i64 0, .int .u64 0]⟩),
  (4, ⟨.bool, 1, 1, [.bool false]⟩)]
theorem tyOk : TysOk Try.prog ty :=
  ⟨TyOk.of (z := .int .i64 0) Try.underlying3 (by kernel_rfl) rfl,
     TyOk.of (z := .slice none 0 0) Try.underlying24 (by kernel_rfl) rfl,
     TyOk.of (z := .slice none 0 0) Try.underlying25 (by kernel_rfl) rfl,
     TyOk.of (z := .int .u64 0) Try.underlying52 (by kernel_rfl) rfl,
     TyOk.of (z := .agg #[.int .i64 0, .int .i64 0, .slice none 0 0, .slice none 0 0]) ⟨_, Try.underlying27, rfl⟩ (by kernel_rfl) rfl,
     TyOk.of (z := .int .u8 0) Try.underlying5 (by kernel_rfl) rfl,
     TyOk.of (z := .slice none 0 0) Try.underlying22 (by kernel_rfl) rfl,
     TyOk.of (z := .int .u64 0) Try.underlying44 (by kernel_rfl) rfl,
     TyOk.of (z := .agg #[.slice none 0 0, .int .i64 0, .int .u64 0]) ⟨_, Try.underlying46, rfl⟩ (by kernel_rfl) rfl,
   TyOk.of (z := .bool false) Try.underlying4 (by kernel_rfl) rfl,
   trivial⟩
theorem mx : Try.prog.follows .mixedOrders = true := by kernel_rfl
end Go.Proofs.Ytpakfehinfcdoaa
