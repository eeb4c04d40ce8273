/- The first signs with the greatest sum, program and reference. -/
import Derived.Test.YtmnbjocoiciffaaSign2
namespace Go.Proofs.Ytmnbjocoiciffaa
open Go.Aw
set_option maxRecDepth 100000

theorem signsL_len (n : Nat) : (signsL n).length = 2 ^ n := by simp [signsL]
theorem signsL_row {n x : Nat} (h : x < (signsL n).length) : ((signsL n).getD x []).length = n := by
  rw [signsL_len] at h
  simp [signsL, List.getD, h, sgRow]
theorem two_pow_pos (n : Nat) : 0 < 2 ^ n := Nat.pow_pos (by omega)

def stepI (m R P : List (List Int)) (acc : Nat × Nat) (x y : Nat) : Nat × Nat :=
  if sumW m (R.getD x []) (P.getD y []) > sumW m (R.getD acc.1 []) (P.getD acc.2 []) then (x, y) else acc
def inI (m R P : List (List Int)) (acc : Nat × Nat) (x y : Nat) : Nat × Nat := fo (fun a y => stepI m R P a x y) acc y
def outI (m R P : List (List Int)) (x : Nat) : Nat × Nat := fo (fun a x => inI m R P a x P.length) (0, 0) x

theorem inI_lt {m R P : List (List Int)} {acc : Nat × Nat} {x : Nat} (h1 : acc.1 < R.length) (h2 : acc.2 < P.length) (hx : x < R.length) : ∀ y, y ≤ P.length → (inI m R P acc x y).1 < R.length ∧ (inI m R P acc x y).2 < P.length
  | 0, _ => ⟨h1, h2⟩
  | y + 1, hy => by
    have := inI_lt (m := m) h1 h2 hx y (by omega)
    show (stepI m R P (inI m R P acc x y) x y).1 < _ ∧ (stepI m R P (inI m R P acc x y) x y).2 < _
    unfold stepI
    split
    · exact ⟨hx, by simp only; omega⟩
    · exact this
theorem outI_lt {m R P : List (List Int)} (h1 : 0 < R.length) (h2 : 0 < P.length) : ∀ x, x ≤ R.length → (outI m R P x).1 < R.length ∧ (outI m R P x).2 < P.length
  | 0, _ => ⟨h1, h2⟩
  | x + 1, hx => by
    have := outI_lt (m := m) h1 h2 x (by omega)
    exact inI_lt this.1 this.2 (by omega) P.length (Nat.le_refl _)
theorem inI_succ (m R P : List (List Int)) (acc : Nat × Nat) (x y : Nat) : inI m R P acc x (y + 1) = stepI m R P (inI m R P acc x y) x y := rfl
theorem outI_succ (m R P : List (List Int)) (x : Nat) : outI m R P (x + 1) = inI m R P (outI m R P x) x P.length := rfl

def sgR (m : List (List Int)) : List (List Int) := signsL m.length
def sgP (m : List (List Int)) : List (List Int) := signsL (m.getD 0 []).length
def bestIx (m : List (List Int)) : Nat × Nat := outI m (sgR m) (sgP m) (sgR m).length
def bestR (m : List (List Int)) : List Int := (sgR m).getD (bestIx m).1 []
def bestP (m : List (List Int)) : List Int := (sgP m).getD (bestIx m).2 []

theorem sum_pre {m : List (List Int)} (hg : goodM m = true) {x y : Nat} (hx : x < (sgR m).length) (hy : y < (sgP m).length) :
    m.length ≤ ((sgR m).getD x []).length ∧ (∀ r, r ∈ m → r.length ≤ ((sgP m).getD y []).length) ∧ ((sgR m).getD x []).length ≤ 1000 ∧ ((sgP m).getD y []).length ≤ 1000 := by
  obtain ⟨g1, g2, g3, g4, g5⟩ := goodM_spec hg
  have h1 := signsL_row hx
  have h2 := signsL_row hy
  unfold sgR sgP
  exact ⟨by omega, fun r hr => by have := (g5 r hr).1; omega, by omega, by omega⟩

theorem l5Best_spec (m : List (List Int)) (hg : goodM m = true) :
    FSpec Try.prog 62 [.t (.rows m)] (ex (.tu [.own 0, .own 1]) [(0, .ints 3 .i64 (bestR m)), (1, .ints 3 .i64 (bestP m))]) := by
  obtain ⟨g1, g2, g3, g4, g5⟩ := goodM_spec hg
  have pR : 0 < (sgR m).length := by rw [sgR, signsL_len]; exact two_pow_pos _
  have pP : 0 < (sgP m).length := by rw [sgP, signsL_len]; exact two_pow_pos _
  have lR : (sgR m).length ≤ 4096 := by rw [sgR, signsL_len]; exact two_pow_le (by omega)
  have lP : (sgP m).length ≤ 4096 := by rw [sgP, signsL_len]; exact two_pow_le (by omega)
  refine fspec tyOk mx Try.func62 rfl (by kernel_rfl) rfl ?_
  conv => whnf
  refine ADraw.mid (⟨61, [(0, .t (.rows m)), (4, .own 0), (5, .own 1)], [(0, .rows 22 3 true (sgR m)), (1, .rows 22 3 true (sgP m))], 2⟩ : St) (ADraw.plan tyOk mx (.q 0 (.q 1 (.q 3 (.q 4 (.q 5 (.q 6 (.last 2 (.last 7 (.q 8 (.q 9 (.done)))))))))) : Plan) (by kernel_rfl) ?_) ?_
  · conv => whnf
    refine ⟨0, rfl, by omega, ?_⟩
    conv => whnf
    refine ACall.useR (l5Signs_spec m.length (by omega)) ?_
    conv => whnf
    refine ACall.useR (l5Signs_spec (m.getD 0 []).length (by omega)) ?_
    conv => whnf
    exact ⟨[(0, .row 0), (1, .row 1)], (by refine ⟨rfl, rfl, ?_, ?_⟩ <;> ((repeat' (first | exact trivial | exact rfl | refine And.intro ?_ ?_)) <;> (try ((conv => whnf); first | refine vint ?_ | refine vboo ?_ | refine rint ?_ | refine rrow ?_ | skip)) <;> (try first | omega | (simp; done) | ((repeat rw [flts_closed _ (by assumption)]); exact vws_closed _ (by assumption)))))⟩
  · conv => whnf
    refine ADraw.std tyOk mx ⟨by kernel_rfl, 0, rfl, pR, 0, rfl, pP, ?_⟩
    conv => whnf
    refine aloopI tyOk mx (fun x : Nat => (⟨61, [(0, .t (.rows m)), (4, .own 0), (5, .own 1), (6, .sub 0 (outI m (sgR m) (sgP m) x).1), (7, .sub 1 (outI m (sgR m) (sgP m) x).2), (8, .c (.int .i64 (x)))], [(0, .rows 22 3 true (sgR m)), (1, .rows 22 3 true (sgP m))], 2⟩ : St)) (fun x => x ≤ (sgR m).length) (fun x => (sgR m).length - x) 0 (Nat.zero_le _) none (by refine ⟨rfl, rfl, ?_, ?_⟩ <;> ((repeat' (first | exact trivial | exact rfl | refine And.intro ?_ ?_)) <;> (try ((conv => whnf); first | refine vint ?_ | refine vboo ?_ | refine rint ?_ | refine rrow ?_ | skip)) <;> (try first | omega | (simp; done) | ((repeat rw [flts_closed _ (by assumption)]); exact vws_closed _ (by assumption))))) (fun x hx => ?_)
    refine ⟨fun h => ?_, fun h => ?_⟩
    · have h := ltT h
      have ho := outI_lt (m := m) pR pP x hx
      conv => whnf
      refine aloopI tyOk mx (fun y : Nat => (⟨61, [(0, .t (.rows m)), (4, .own 0), (5, .own 1), (6, .sub 0 (inI m (sgR m) (sgP m) (outI m (sgR m) (sgP m) x) x y).1), (7, .sub 1 (inI m (sgR m) (sgP m) (outI m (sgR m) (sgP m) x) x y).2), (8, .c (.int .i64 (x))), (9, .c (.int .i64 (y)))], [(0, .rows 22 3 true (sgR m)), (1, .rows 22 3 true (sgP m))], 2⟩ : St)) (fun y => y ≤ (sgP m).length) (fun y => (sgP m).length - y) 0 (Nat.zero_le _) none (by refine ⟨rfl, rfl, ?_, ?_⟩ <;> ((repeat' (first | exact trivial | exact rfl | refine And.intro ?_ ?_)) <;> (try ((conv => whnf); first | refine vint ?_ | refine vboo ?_ | refine rint ?_ | refine rrow ?_ | skip)) <;> (try first | omega | (simp; done) | ((repeat rw [flts_closed _ (by assumption)]); exact vws_closed _ (by assumption))))) (fun y hy => ?_)
      refine ⟨fun h5 => ?_, fun h5 => ?_⟩
      · have h5 := ltT h5
        have hi := inI_lt (m := m) ho.1 ho.2 h y hy
        obtain ⟨q1, q2, q3, q4⟩ := sum_pre hg h h5
        obtain ⟨r1, r2, r3, r4⟩ := sum_pre hg hi.1 hi.2
        refine ADraw.std tyOk mx ⟨by kernel_rfl, x, rfl, h, y, rfl, h5, ?_⟩
        conv => whnf
        refine QCall.use (l5Sum_spec m ((sgR m).getD x []) ((sgP m).getD y []) q1 q2 q3 q4) ?_
        conv => whnf
        refine QCall.use (l5Sum_spec m _ _ r1 r2 r3 r4) ?_
        conv => whnf
        refine ⟨fun h6 => ?_, fun h6 => ?_⟩
        · have e : inI m (sgR m) (sgP m) (outI m (sgR m) (sgP m) x) x (y + 1) = (x, y) := by rw [inI_succ, stepI, if_pos (of_decide_eq_true h6)]
          conv => whnf
          refine ⟨x, rfl, h, ?_⟩
          conv => whnf
          refine ⟨y, rfl, h5, ?_⟩
          conv => whnf
          rw [nat_wrap (by omega)]
          refine ⟨y + 1, none, ?_, by omega, by omega⟩
          dsimp only
          rw [e]
          (refine ⟨rfl, rfl, ?_, ?_⟩ <;> ((repeat' (first | exact trivial | exact rfl | refine And.intro ?_ ?_)) <;> (try ((conv => whnf); first | refine vint ?_ | refine vboo ?_ | refine rint ?_ | refine rrow ?_ | skip)) <;> (try first | omega | (simp; done) | ((repeat rw [flts_closed _ (by assumption)]); exact vws_closed _ (by assumption)))))
        · have e : inI m (sgR m) (sgP m) (outI m (sgR m) (sgP m) x) x (y + 1) = inI m (sgR m) (sgP m) (outI m (sgR m) (sgP m) x) x y := by rw [inI_succ, stepI, if_neg (of_decide_eq_false h6)]
          conv => whnf
          rw [nat_wrap (by omega)]
          refine ⟨y + 1, none, ?_, by omega, by omega⟩
          dsimp only
          rw [e]
          (refine ⟨rfl, rfl, ?_, ?_⟩ <;> ((repeat' (first | exact trivial | exact rfl | refine And.intro ?_ ?_)) <;> (try ((conv => whnf); first | refine vint ?_ | refine vboo ?_ | refine rint ?_ | refine rrow ?_ | skip)) <;> (try first | omega | (simp; done) | ((repeat rw [flts_closed _ (by assumption)]); exact vws_closed _ (by assumption)))))
      · have h5 := ltF h5
        obtain rfl : y = (sgP m).length := by omega
        conv => whnf
        rw [nat_wrap (by omega)]
        exact ⟨x + 1, none, (by refine ⟨rfl, rfl, ?_, ?_⟩ <;> ((repeat' (first | exact trivial | exact rfl | refine And.intro ?_ ?_)) <;> (try ((conv => whnf); first | refine vint ?_ | refine vboo ?_ | refine rint ?_ | refine rrow ?_ | skip)) <;> (try first | omega | (simp; done) | ((repeat rw [flts_closed _ (by assumption)]); exact vws_closed _ (by assumption))))), by omega, by omega⟩
    · have h := ltF h
      obtain rfl : x = (sgR m).length := by omega
      conv => whnf
      exact ⟨rfl, rfl⟩
end Go.Proofs.Ytmnbjocoiciffaa
