/- The first signs with the greatest sum: the program's. -/
import Derived.Test.YtahllgjmjnipjaaSign6
namespace Go.Proofs.Ytahllgjmjnipjaa
open Go.Aw
set_option maxRecDepth 100000

theorem bestSigns_spec (m : List (List Int)) (hg : goodM m = true) :
    FSpec Try.prog 32 [.t (.rows m)] (ex (.tu [.own 0, .own 1, .c (.int .i64 (sumW m (bestR m) (bestP m)))]) [(0, .ints 3 .i64 (bestR m)), (1, .ints 3 .i64 (bestP m))]) := by
  obtain ⟨g1, g2, g3, g4, g5⟩ := goodM_spec hg
  have pR : 0 < (sgR m).length := by rw [sgR, signsL_len]; exact two_pow_pos _
  have pP : 0 < (sgP m).length := by rw [sgP, signsL_len]; exact two_pow_pos _
  have lR : (sgR m).length ≤ 4096 := by rw [sgR, signsL_len]; exact two_pow_le (by omega)
  have lP : (sgP m).length ≤ 4096 := by rw [sgP, signsL_len]; exact two_pow_le (by omega)
  refine fspec tyOk mx Try.func32 rfl (by kernel_rfl) rfl ?_
  conv => whnf
  refine ACall.use (signsOf_spec m.length (by omega)) ?_
  conv => whnf
  refine aloopI tyOk mx (fun x : Nat => match x with
    | 0 => (⟨51, [(0, .t (.rows m)), (5, .c (.slice none 0 0)), (6, .c (.slice none 0 0)), (7, .c (.int .i64 (0))), (8, .c (.bool false)), (16, .own 0), (17, .c (.int .i64 ((sgR m).length))), (18, .c (.int .i64 ((0 : Nat))))], [(0, .rows 34 3 true (sgR m))], 1⟩ : St)
    | x + 1 => (⟨51, [(0, .t (.rows m)), (5, .sub 0 (outI m (sgR m) (sgP m) (x + 1)).1), (6, .sub 1 (outI m (sgR m) (sgP m) (x + 1)).2), (7, .c (.int .i64 (sumW m ((sgR m).getD (outI m (sgR m) (sgP m) (x + 1)).1 []) ((sgP m).getD (outI m (sgR m) (sgP m) (x + 1)).2 [])))), (8, .c (.bool true)), (16, .own 0), (17, .c (.int .i64 ((sgR m).length))), (18, .c (.int .i64 ((x + 1 : Nat))))], [(0, .rows 34 3 true (sgR m)), (1, .rows 34 3 true (sgP m))], 2⟩ : St))
    (fun x => x ≤ (sgR m).length) (fun x => (sgR m).length - x) 0 (Nat.zero_le _) none (by refine ⟨rfl, rfl, ?_, ?_⟩ <;> ((repeat' (first | exact trivial | exact rfl | refine And.intro ?_ ?_)) <;> (try ((conv => whnf); first | refine vint ?_ | refine vboo ?_ | refine rint ?_ | refine rrow ?_ | skip)) <;> (try first | omega | (simp; done) | ((repeat rw [flts_closed _ (by assumption)]); exact vws_closed _ (by assumption))))) (fun x hx => ?_)
  cases x with
  | zero =>
    refine ⟨fun _ => ?_, fun h => absurd pR (ltF h)⟩
    conv => whnf
    refine ⟨0, rfl, pR, ?_⟩
    conv => whnf
    refine ⟨0, rfl, by omega, ?_⟩
    conv => whnf
    refine ACall.use (signsOf_spec (m.getD 0 []).length (by omega)) ?_
    conv => whnf
    refine aloopI tyOk mx (fun y : Nat => match y with
      | 0 => (⟨51, [(0, .t (.rows m)), (5, .c (.slice none 0 0)), (6, .c (.slice none 0 0)), (7, .c (.int .i64 (0))), (8, .c (.bool false)), (10, .sub 0 0), (16, .own 0), (17, .c (.int .i64 ((sgR m).length))), (18, .c (.int .i64 ((0 : Nat)))), (26, .own 1), (27, .c (.int .i64 ((sgP m).length))), (28, .c (.int .i64 ((0 : Nat))))], [(0, .rows 34 3 true (sgR m)), (1, .rows 34 3 true (sgP m))], 2⟩ : St)
      | y + 1 => (⟨51, [(0, .t (.rows m)), (5, .sub 0 (inI m (sgR m) (sgP m) (0, 0) 0 (y + 1)).1), (6, .sub 1 (inI m (sgR m) (sgP m) (0, 0) 0 (y + 1)).2), (7, .c (.int .i64 (sumW m ((sgR m).getD (inI m (sgR m) (sgP m) (0, 0) 0 (y + 1)).1 []) ((sgP m).getD (inI m (sgR m) (sgP m) (0, 0) 0 (y + 1)).2 [])))), (8, .c (.bool true)), (10, .sub 0 0), (16, .own 0), (17, .c (.int .i64 ((sgR m).length))), (18, .c (.int .i64 ((0 : Nat)))), (26, .own 1), (27, .c (.int .i64 ((sgP m).length))), (28, .c (.int .i64 ((y + 1 : Nat))))], [(0, .rows 34 3 true (sgR m)), (1, .rows 34 3 true (sgP m))], 2⟩ : St))
      (fun y => y ≤ (sgP m).length) (fun y => (sgP m).length - y) 0 (Nat.zero_le _) none (by refine ⟨rfl, rfl, ?_, ?_⟩ <;> ((repeat' (first | exact trivial | exact rfl | refine And.intro ?_ ?_)) <;> (try ((conv => whnf); first | refine vint ?_ | refine vboo ?_ | refine rint ?_ | refine rrow ?_ | skip)) <;> (try first | omega | (simp; done) | ((repeat rw [flts_closed _ (by assumption)]); exact vws_closed _ (by assumption))))) (fun y hy => ?_)
    cases y with
    | zero =>
      refine ⟨fun _ => ?_, fun h => absurd pP (ltF h)⟩
      obtain ⟨q1, q2, q3, q4⟩ := sum_pre hg pR pP
      conv => whnf
      refine ⟨0, rfl, pP, ?_⟩
      conv => whnf
      refine ACall.use (signed_spec m ((sgR m).getD 0 []) ((sgP m).getD 0 []) q1 q2 q3 q4) ?_
      conv => whnf
      first | refine ⟨fun h => absurd h (by decide), fun _ => ?_⟩ | refine ⟨fun _ => ?_, fun h => absurd h (by decide)⟩
      conv => whnf
      first | refine ⟨fun h => absurd h (by decide), fun _ => ?_⟩ | refine ⟨fun _ => ?_, fun h => absurd h (by decide)⟩
      have e : inI m (sgR m) (sgP m) (0, 0) 0 (0 + 1) = (0, 0) := by rw [inI_succ, stepI, if_neg (by exact Int.lt_irrefl _)]; rfl
      conv => whnf
      rw [nat_wrap (by omega)]
      refine ⟨0 + 1, none, ?_, by omega, by omega⟩
      dsimp only
      simp only [e]
      (refine ⟨rfl, rfl, ?_, ?_⟩ <;> ((repeat' (first | exact trivial | exact rfl | refine And.intro ?_ ?_)) <;> (try ((conv => whnf); first | refine vint ?_ | refine vboo ?_ | refine rint ?_ | refine rrow ?_ | skip)) <;> (try first | omega | (simp; done) | ((repeat rw [flts_closed _ (by assumption)]); exact vws_closed _ (by assumption)))))
    | succ y =>
      refine ⟨fun h5 => ?_, fun h5 => ?_⟩
      · have h5 := ltT h5
        have hi := inI_lt (m := m) (acc := (0, 0)) (x := 0) pR pP pR (y + 1) hy
        obtain ⟨q1, q2, q3, q4⟩ := sum_pre hg pR h5
        conv => whnf
        refine ⟨y + 1, rfl, h5, ?_⟩
        conv => whnf
        refine ACall.use (signed_spec m ((sgR m).getD 0 []) ((sgP m).getD (y + 1) []) q1 q2 q3 q4) ?_
        conv => whnf
        first | refine ⟨fun h => absurd h (by decide), fun _ => ?_⟩ | refine ⟨fun _ => ?_, fun h => absurd h (by decide)⟩
        conv => whnf
        refine ⟨fun h6 => ?_, fun h6 => ?_⟩
        · have e : inI m (sgR m) (sgP m) (0, 0) 0 (y + 1 + 1) = (0, y + 1) := by rw [inI_succ, stepI, if_pos (of_decide_eq_true h6)]
          conv => whnf
          rw [nat_wrap (by omega)]
          refine ⟨y + 1 + 1, none, ?_, by omega, by omega⟩
          dsimp only
          simp only [e]
          (refine ⟨rfl, rfl, ?_, ?_⟩ <;> ((repeat' (first | exact trivial | exact rfl | refine And.intro ?_ ?_)) <;> (try ((conv => whnf); first | refine vint ?_ | refine vboo ?_ | refine rint ?_ | refine rrow ?_ | skip)) <;> (try first | omega | (simp; done) | ((repeat rw [flts_closed _ (by assumption)]); exact vws_closed _ (by assumption)))))
        · have e : inI m (sgR m) (sgP m) (0, 0) 0 (y + 1 + 1) = inI m (sgR m) (sgP m) (0, 0) 0 (y + 1) := by rw [inI_succ, stepI, if_neg (of_decide_eq_false h6)]
          conv => whnf
          rw [nat_wrap (by omega)]
          refine ⟨y + 1 + 1, none, ?_, by omega, by omega⟩
          dsimp only
          simp only [e]
          (refine ⟨rfl, rfl, ?_, ?_⟩ <;> ((repeat' (first | exact trivial | exact rfl | refine And.intro ?_ ?_)) <;> (try ((conv => whnf); first | refine vint ?_ | refine vboo ?_ | refine rint ?_ | refine rrow ?_ | skip)) <;> (try first | omega | (simp; done) | ((repeat rw [flts_closed _ (by assumption)]); exact vws_closed _ (by assumption)))))
      · have h5 := ltF h5
        have hy1 : y + 1 = (sgP m).length := by omega
        have e : outI m (sgR m) (sgP m) (0 + 1) = inI m (sgR m) (sgP m) (0, 0) 0 (y + 1) := by rw [outI_succ, hy1]; rfl
        conv => whnf
        rw [nat_wrap (by omega)]
        refine ⟨0 + 1, none, ?_, by omega, by omega⟩
        dsimp only
        simp only [e]
        (refine ⟨rfl, rfl, ?_, ?_⟩ <;> ((repeat' (first | exact trivial | exact rfl | refine And.intro ?_ ?_)) <;> (try ((conv => whnf); first | refine vint ?_ | refine vboo ?_ | refine rint ?_ | refine rrow ?_ | skip)) <;> (try first | omega | (simp; done) | ((repeat rw [flts_closed _ (by assumption)]); exact vws_closed _ (by assumption)))))
  | succ x =>
    refine ⟨fun h => ?_, fun h => ?_⟩
    · have h := ltT h
      have ho := outI_lt (m := m) pR pP (x + 1) hx
      conv => whnf
      refine ⟨x + 1, rfl, h, ?_⟩
      conv => whnf
      refine ⟨0, rfl, by omega, ?_⟩
      conv => whnf
      refine ACall.use (signsOf_spec (m.getD 0 []).length (by omega)) ?_
      conv => whnf
      refine aloopI tyOk mx (fun p : Bool × Nat => match p with
        | (true, y) => (⟨51, [(0, .t (.rows m)), (5, .sub 0 (inI m (sgR m) (sgP m) (outI m (sgR m) (sgP m) (x + 1)) (x + 1) y).1), (6, .sub 2 (inI m (sgR m) (sgP m) (outI m (sgR m) (sgP m) (x + 1)) (x + 1) y).2), (7, .c (.int .i64 (sumW m ((sgR m).getD (inI m (sgR m) (sgP m) (outI m (sgR m) (sgP m) (x + 1)) (x + 1) y).1 []) ((sgP m).getD (inI m (sgR m) (sgP m) (outI m (sgR m) (sgP m) (x + 1)) (x + 1) y).2 [])))), (8, .c (.bool true)), (10, .sub 0 (x + 1)), (16, .own 0), (17, .c (.int .i64 ((sgR m).length))), (18, .c (.int .i64 ((x + 1 : Nat)))), (26, .own 2), (27, .c (.int .i64 ((sgP m).length))), (28, .c (.int .i64 (y)))], [(0, .rows 34 3 true (sgR m)), (1, .rows 34 3 true (sgP m)), (2, .rows 34 3 true (sgP m))], 3⟩ : St)
        | (false, y) => (⟨51, [(0, .t (.rows m)), (5, .sub 0 (inI m (sgR m) (sgP m) (outI m (sgR m) (sgP m) (x + 1)) (x + 1) y).1), (6, .sub 1 (inI m (sgR m) (sgP m) (outI m (sgR m) (sgP m) (x + 1)) (x + 1) y).2), (7, .c (.int .i64 (sumW m ((sgR m).getD (inI m (sgR m) (sgP m) (outI m (sgR m) (sgP m) (x + 1)) (x + 1) y).1 []) ((sgP m).getD (inI m (sgR m) (sgP m) (outI m (sgR m) (sgP m) (x + 1)) (x + 1) y).2 [])))), (8, .c (.bool true)), (10, .sub 0 (x + 1)), (16, .own 0), (17, .c (.int .i64 ((sgR m).length))), (18, .c (.int .i64 ((x + 1 : Nat)))), (26, .own 2), (27, .c (.int .i64 ((sgP m).length))), (28, .c (.int .i64 (y)))], [(0, .rows 34 3 true (sgR m)), (1, .rows 34 3 true (sgP m)), (2, .rows 34 3 true (sgP m))], 3⟩ : St))
        (fun p => p.2 ≤ (sgP m).length) (fun p => (sgP m).length - p.2) (false, 0) (Nat.zero_le _) none (by refine ⟨rfl, rfl, ?_, ?_⟩ <;> ((repeat' (first | exact trivial | exact rfl | refine And.intro ?_ ?_)) <;> (try ((conv => whnf); first | refine vint ?_ | refine vboo ?_ | refine rint ?_ | refine rrow ?_ | skip)) <;> (try first | omega | (simp; done) | ((repeat rw [flts_closed _ (by assumption)]); exact vws_closed _ (by assumption))))) (fun p hy => ?_)
      obtain ⟨b, y⟩ := p
      simp only at hy
      have hi := inI_lt (m := m) ho.1 ho.2 h y hy
      cases b with
      | true =>
        refine ⟨fun h5 => ?_, fun h5 => ?_⟩
        · have h5 := ltT h5
          obtain ⟨q1, q2, q3, q4⟩ := sum_pre hg h h5
          conv => whnf
          refine ⟨y, rfl, h5, ?_⟩
          conv => whnf
          refine ACall.use (signed_spec m ((sgR m).getD (x + 1) []) ((sgP m).getD y []) q1 q2 q3 q4) ?_
          conv => whnf
          first | refine ⟨fun h => absurd h (by decide), fun _ => ?_⟩ | refine ⟨fun _ => ?_, fun h => absurd h (by decide)⟩
          conv => whnf
          refine ⟨fun h6 => ?_, fun h6 => ?_⟩
          · have e : inI m (sgR m) (sgP m) (outI m (sgR m) (sgP m) (x + 1)) (x + 1) (y + 1) = (x + 1, y) := by rw [inI_succ, stepI, if_pos (of_decide_eq_true h6)]
            conv => whnf
            rw [nat_wrap (by omega)]
            refine ⟨(true, y + 1), none, ?_, by simp only; omega, by simp only; omega⟩
            dsimp only
            simp only [e]
            (refine ⟨rfl, rfl, ?_, ?_⟩ <;> ((repeat' (first | exact trivial | exact rfl | refine And.intro ?_ ?_)) <;> (try ((conv => whnf); first | refine vint ?_ | refine vboo ?_ | refine rint ?_ | refine rrow ?_ | skip)) <;> (try first | omega | (simp; done) | ((repeat rw [flts_closed _ (by assumption)]); exact vws_closed _ (by assumption)))))
          · have e : inI m (sgR m) (sgP m) (outI m (sgR m) (sgP m) (x + 1)) (x + 1) (y + 1) = inI m (sgR m) (sgP m) (outI m (sgR m) (sgP m) (x + 1)) (x + 1) y := by rw [inI_succ, stepI, if_neg (of_decide_eq_false h6)]
            conv => whnf
            rw [nat_wrap (by omega)]
            refine ⟨(true, y + 1), none, ?_, by simp only; omega, by simp only; omega⟩
            dsimp only
            simp only [e]
            (refine ⟨rfl, rfl, ?_, ?_⟩ <;> ((repeat' (first | exact trivial | exact rfl | refine And.intro ?_ ?_)) <;> (try ((conv => whnf); first | refine vint ?_ | refine vboo ?_ | refine rint ?_ | refine rrow ?_ | skip)) <;> (try first | omega | (simp; done) | ((repeat rw [flts_closed _ (by assumption)]); exact vws_closed _ (by assumption)))))
        · have h5 := ltF h5
          obtain rfl : y = (sgP m).length := by omega
          conv => whnf
          rw [nat_wrap (by omega)]
          refine ⟨x + 1 + 1, some [(0, .row 0), (1, .row 2)], ?_, by omega, by omega⟩
          dsimp only
          simp only [outI_succ m (sgR m) (sgP m) (x + 1)]
          (refine ⟨rfl, rfl, ?_, ?_⟩ <;> ((repeat' (first | exact trivial | exact rfl | refine And.intro ?_ ?_)) <;> (try ((conv => whnf); first | refine vint ?_ | refine vboo ?_ | refine rint ?_ | refine rrow ?_ | skip)) <;> (try first | omega | (simp; done) | ((repeat rw [flts_closed _ (by assumption)]); exact vws_closed _ (by assumption)))))
      | false =>
        refine ⟨fun h5 => ?_, fun h5 => ?_⟩
        · have h5 := ltT h5
          obtain ⟨q1, q2, q3, q4⟩ := sum_pre hg h h5
          conv => whnf
          refine ⟨y, rfl, h5, ?_⟩
          conv => whnf
          refine ACall.use (signed_spec m ((sgR m).getD (x + 1) []) ((sgP m).getD y []) q1 q2 q3 q4) ?_
          conv => whnf
          first | refine ⟨fun h => absurd h (by decide), fun _ => ?_⟩ | refine ⟨fun _ => ?_, fun h => absurd h (by decide)⟩
          conv => whnf
          refine ⟨fun h6 => ?_, fun h6 => ?_⟩
          · have e : inI m (sgR m) (sgP m) (outI m (sgR m) (sgP m) (x + 1)) (x + 1) (y + 1) = (x + 1, y) := by rw [inI_succ, stepI, if_pos (of_decide_eq_true h6)]
            conv => whnf
            rw [nat_wrap (by omega)]
            refine ⟨(true, y + 1), none, ?_, by simp only; omega, by simp only; omega⟩
            dsimp only
            simp only [e]
            (refine ⟨rfl, rfl, ?_, ?_⟩ <;> ((repeat' (first | exact trivial | exact rfl | refine And.intro ?_ ?_)) <;> (try ((conv => whnf); first | refine vint ?_ | refine vboo ?_ | refine rint ?_ | refine rrow ?_ | skip)) <;> (try first | omega | (simp; done) | ((repeat rw [flts_closed _ (by assumption)]); exact vws_closed _ (by assumption)))))
          · have e : inI m (sgR m) (sgP m) (outI m (sgR m) (sgP m) (x + 1)) (x + 1) (y + 1) = inI m (sgR m) (sgP m) (outI m (sgR m) (sgP m) (x + 1)) (x + 1) y := by rw [inI_succ, stepI, if_neg (of_decide_eq_false h6)]
            conv => whnf
            rw [nat_wrap (by omega)]
            refine ⟨(false, y + 1), none, ?_, by simp only; omega, by simp only; omega⟩
            dsimp only
            simp only [e]
            (refine ⟨rfl, rfl, ?_, ?_⟩ <;> ((repeat' (first | exact trivial | exact rfl | refine And.intro ?_ ?_)) <;> (try ((conv => whnf); first | refine vint ?_ | refine vboo ?_ | refine rint ?_ | refine rrow ?_ | skip)) <;> (try first | omega | (simp; done) | ((repeat rw [flts_closed _ (by assumption)]); exact vws_closed _ (by assumption)))))
        · have h5 := ltF h5
          obtain rfl : y = (sgP m).length := by omega
          conv => whnf
          rw [nat_wrap (by omega)]
          refine ⟨x + 1 + 1, some [(0, .row 0), (1, .row 1)], ?_, by omega, by omega⟩
          dsimp only
          simp only [outI_succ m (sgR m) (sgP m) (x + 1)]
          (refine ⟨rfl, rfl, ?_, ?_⟩ <;> ((repeat' (first | exact trivial | exact rfl | refine And.intro ?_ ?_)) <;> (try ((conv => whnf); first | refine vint ?_ | refine vboo ?_ | refine rint ?_ | refine rrow ?_ | skip)) <;> (try first | omega | (simp; done) | ((repeat rw [flts_closed _ (by assumption)]); exact vws_closed _ (by assumption)))))
    · have h := ltF h
      have hx1 : x + 1 = (sgR m).length := by omega
      have e : outI m (sgR m) (sgP m) (x + 1) = bestIx m := by rw [hx1]; rfl
      conv => whnf
      rw [e]
      exact ⟨rfl, rfl⟩
end Go.Proofs.Ytahllgjmjnipjaa
