/- The least sign game to which one can be switched: the program's. -/
import Derived.Test.YtahllgjmjnipjaaFirst
namespace Go.Proofs.Ytahllgjmjnipjaa
open Go.Aw
set_option maxRecDepth 100000

theorem fSw_zero {m : List (List Int)} (hg : goodM m = true) : fSw m 0 0 = m := by
  obtain ⟨g1, g2, g3, g4, g5⟩ := goodM_spec hg
  have hsg : ∀ n i, i < n → n ≤ 3 → ((signsL n).getD 0 []).getD i 0 = -1 := by
    intro n i hi hn
    have : (n = 1 ∧ i = 0) ∨ (n = 2 ∧ (i = 0 ∨ i = 1)) ∨ (n = 3 ∧ (i = 0 ∨ i = 1 ∨ i = 2)) := by omega
    rcases this with ⟨rfl, rfl⟩ | ⟨rfl, rfl | rfl⟩ | ⟨rfl, rfl | rfl | rfl⟩ <;> decide
  have hsh := switchR_shp m ((fR m).getD 0 []) ((fP m).getD 0 [])
  refine List.ext_getElem (by rw [fSw, hsh.1]) fun x h1 h2 => ?_
  have hrow := g5 _ (List.getElem_mem h2)
  simp only [fSw, switchR, List.getElem_map, List.getElem_range]
  have e : m.getD x [] = m[x] := by simp [List.getD, h2]
  refine List.ext_getElem (by simp [swRow, h2]) fun y h3 h4 => ?_
  simp only [swRow, List.getElem_map, List.getElem_range, swAt]
  rw [fR, fP, hsg _ x (by omega) (by omega), hsg _ y (by omega) (by omega), e]
  have hb := hrow.2 _ (List.getElem_mem h4)
  have e2 : m[x].getD y 0 = m[x][y] := by simp [List.getD, h4]
  rw [e2]
  generalize m[x][y] = v at hb
  have : v = -9 ∨ v = -8 ∨ v = -7 ∨ v = -6 ∨ v = -5 ∨ v = -4 ∨ v = -3 ∨ v = -2 ∨ v = -1 ∨ v = 0 ∨ v = 1 ∨ v = 2 ∨ v = 3 ∨ v = 4 ∨ v = 5 ∨ v = 6 ∨ v = 7 ∨ v = 8 ∨ v = 9 := by omega
  rcases this with rfl | rfl | rfl | rfl | rfl | rfl | rfl | rfl | rfl | rfl | rfl | rfl | rfl | rfl | rfl | rfl | rfl | rfl | rfl <;> decide

theorem fStep_le {m b : List (List Int)} {x y : Nat} (h : cmpL (fSw m x y) b ≤ 0) : fStep m b x y = fSw m x y := by
  unfold fStep
  split
  · rfl
  · exact (cmpL_zero (by omega)).symm
theorem fStep_gt {m b : List (List Int)} {x y : Nat} (h : ¬ cmpL (fSw m x y) b ≤ 0) : fStep m b x y = b := by
  unfold fStep
  rw [if_neg (by omega)]

theorem firstSwitched_spec (m : List (List Int)) (hg : goodM m = true) :
    FSpec Try.prog 27 [.t (.rows m)] (ex (.own 0) [(0, .rows 34 3 true (firstF m))]) := by
  obtain ⟨g1, g2, g3, g4, g5⟩ := goodM_spec hg
  have pR := fR_pos m
  have pP := fP_pos m
  obtain ⟨lR, lP⟩ := f_le hg
  obtain ⟨k1, k2⟩ := g_rows hg
  refine fspec tyOk mx Try.func27 rfl (by kernel_rfl) rfl ?_
  conv => whnf
  refine ACall.use (signsOf_spec m.length (by omega)) ?_
  conv => whnf
  refine aloopI tyOk mx (fun x : Nat => match x with
    | 0 => (⟨40, [(0, .t (.rows m)), (3, .t (.rows m)), (12, .own 0), (13, .c (.int .i64 ((fR m).length))), (14, .c (.int .i64 ((0 : Nat))))], [(0, .rows 34 3 true (fR m))], 1⟩ : St)
    | x + 1 => (⟨40, [(0, .t (.rows m)), (3, .own 1), (12, .own 0), (13, .c (.int .i64 ((fR m).length))), (14, .c (.int .i64 ((x + 1 : Nat))))], [(0, .rows 34 3 true (fR m)), (1, .rows 34 3 true (fOut m (x + 1)))], 2⟩ : St))
    (fun x => x ≤ (fR m).length) (fun x => (fR m).length - x) 0 (Nat.zero_le _) none (by refine ⟨rfl, rfl, ?_, ?_⟩ <;> ((repeat' (first | exact trivial | exact rfl | refine And.intro ?_ ?_)) <;> (try ((conv => whnf); first | refine vint ?_ | refine vboo ?_ | refine rint ?_ | refine rrow ?_ | skip)) <;> (try first | omega | (simp; done) | ((repeat rw [flts_closed _ (by assumption)]); exact vws_closed _ (by assumption))))) (fun x hx => ?_)
  cases x with
  | zero =>
    refine ⟨fun _ => ?_, fun h => absurd pR (ltF h)⟩
    conv => whnf
    refine ⟨0, rfl, pR, ?_⟩
    conv => whnf
    refine ⟨0, rfl, by omega, ?_⟩
    conv => whnf
    refine ACall.use (signsOf_spec (m.getD 0 []).length (by omega)) ?_
    conv => whnf
    have s0 : Shp (fSw m 0 0) m := switchR_shp _ _ _
    refine aloopI tyOk mx (fun y : Nat => match y with
      | 0 => (⟨40, [(0, .t (.rows m)), (3, .t (.rows m)), (5, .sub 0 0), (12, .own 0), (13, .c (.int .i64 ((fR m).length))), (14, .c (.int .i64 ((0 : Nat)))), (22, .own 1), (23, .c (.int .i64 ((fP m).length))), (24, .c (.int .i64 ((0 : Nat))))], [(0, .rows 34 3 true (fR m)), (1, .rows 34 3 true (fP m))], 2⟩ : St)
      | y + 1 => (⟨40, [(0, .t (.rows m)), (3, .own 2), (5, .sub 0 0), (12, .own 0), (13, .c (.int .i64 ((fR m).length))), (14, .c (.int .i64 ((0 : Nat)))), (22, .own 1), (23, .c (.int .i64 ((fP m).length))), (24, .c (.int .i64 ((y + 1 : Nat))))], [(0, .rows 34 3 true (fR m)), (1, .rows 34 3 true (fP m)), (2, .rows 34 3 true (fIn m (fSw m 0 0) 0 (y + 1)))], 3⟩ : St))
      (fun y => y ≤ (fP m).length) (fun y => (fP m).length - y) 0 (Nat.zero_le _) none (by refine ⟨rfl, rfl, ?_, ?_⟩ <;> ((repeat' (first | exact trivial | exact rfl | refine And.intro ?_ ?_)) <;> (try ((conv => whnf); first | refine vint ?_ | refine vboo ?_ | refine rint ?_ | refine rrow ?_ | skip)) <;> (try first | omega | (simp; done) | ((repeat rw [flts_closed _ (by assumption)]); exact vws_closed _ (by assumption))))) (fun y hy => ?_)
    cases y with
    | zero =>
      refine ⟨fun _ => ?_, fun h => absurd pP (ltF h)⟩
      obtain ⟨p1, p2, p3, p4⟩ := f_pre hg pR pP
      conv => whnf
      refine ⟨0, rfl, pP, ?_⟩
      conv => whnf
      refine ACall.use (switched_spec m _ _ p1 p2 p3 p4) ?_
      conv => whnf
      have e0 : switchR m ((fR m).getD 0 []) ((fP m).getD 0 []) = m := fSw_zero hg
      refine ACall.use (compareLists_spec (switchR m ((fR m).getD 0 []) ((fP m).getD 0 [])) m (by rw [e0]; omega) (by omega) (fun r hr => by rw [e0] at hr; have := k2 r hr; omega) (fun r hr => by have := k2 r hr; omega)) ?_
      rw [show cmpL (switchR m ((fR m).getD 0 []) ((fP m).getD 0 [])) m = 0 by rw [e0]; exact cmpL_refl m]
      conv => whnf
      first | refine ⟨fun h => absurd h (by decide), fun _ => ?_⟩ | refine ⟨fun _ => ?_, fun h => absurd h (by decide)⟩
      have e : fIn m (fSw m 0 0) 0 (0 + 1) = switchR m ((fR m).getD 0 []) ((fP m).getD 0 []) := by rw [fIn_succ]; exact fStep_le (by rw [show fIn m (fSw m 0 0) 0 0 = fSw m 0 0 from rfl, cmpL_refl]; exact Int.le_refl 0)
      conv => whnf
      rw [nat_wrap (by omega)]
      refine ⟨0 + 1, some [(0, .row 0), (1, .row 1), (2, .row 2)], ?_, by omega, by omega⟩
      dsimp only
      rw [e]
      (refine ⟨rfl, rfl, ?_, ?_⟩ <;> ((repeat' (first | exact trivial | exact rfl | refine And.intro ?_ ?_)) <;> (try ((conv => whnf); first | refine vint ?_ | refine vboo ?_ | refine rint ?_ | refine rrow ?_ | skip)) <;> (try first | omega | (simp; done) | ((repeat rw [flts_closed _ (by assumption)]); exact vws_closed _ (by assumption)))))
    | succ y =>
      refine ⟨fun h5 => ?_, fun h5 => ?_⟩
      · have h5 := ltT h5
        obtain ⟨p1, p2, p3, p4⟩ := f_pre hg pR h5
        have sn : Shp (switchR m ((fR m).getD 0 []) ((fP m).getD (y + 1) [])) m := switchR_shp _ _ _
        have sy := fIn_shp s0 0 (y + 1)
        conv => whnf
        refine ⟨y + 1, rfl, h5, ?_⟩
        conv => whnf
        refine ACall.use (switched_spec m _ _ p1 p2 p3 p4) ?_
        conv => whnf
        refine ACall.use (compareLists_spec (switchR m _ _) _ (by rw [sn.1]; omega) (by rw [sy.1]; omega) (fun r hr => by have := sn.rows k2 r hr; omega) (fun r hr => by have := sy.rows k2 r hr; omega)) ?_
        refine ⟨fun h6 => ?_, fun h6 => ?_⟩
        · have e : fIn m (fSw m 0 0) 0 (y + 1 + 1) = switchR m ((fR m).getD 0 []) ((fP m).getD (y + 1) []) := by rw [fIn_succ]; exact fStep_le (of_decide_eq_true h6)
          conv => whnf
          rw [nat_wrap (by omega)]
          refine ⟨y + 1 + 1, some [(0, .row 0), (1, .row 1), (2, .row 3)], ?_, by omega, by omega⟩
          dsimp only
          rw [e]
          (refine ⟨rfl, rfl, ?_, ?_⟩ <;> ((repeat' (first | exact trivial | exact rfl | refine And.intro ?_ ?_)) <;> (try ((conv => whnf); first | refine vint ?_ | refine vboo ?_ | refine rint ?_ | refine rrow ?_ | skip)) <;> (try first | omega | (simp; done) | ((repeat rw [flts_closed _ (by assumption)]); exact vws_closed _ (by assumption)))))
        · have e : fIn m (fSw m 0 0) 0 (y + 1 + 1) = fIn m (fSw m 0 0) 0 (y + 1) := by rw [fIn_succ]; exact fStep_gt (of_decide_eq_false h6)
          conv => whnf
          rw [nat_wrap (by omega)]
          refine ⟨y + 1 + 1, some [(0, .row 0), (1, .row 1), (2, .row 2)], ?_, by omega, by omega⟩
          dsimp only
          rw [e]
          (refine ⟨rfl, rfl, ?_, ?_⟩ <;> ((repeat' (first | exact trivial | exact rfl | refine And.intro ?_ ?_)) <;> (try ((conv => whnf); first | refine vint ?_ | refine vboo ?_ | refine rint ?_ | refine rrow ?_ | skip)) <;> (try first | omega | (simp; done) | ((repeat rw [flts_closed _ (by assumption)]); exact vws_closed _ (by assumption)))))
      · have h5 := ltF h5
        have hy1 : y + 1 = (fP m).length := by omega
        have e : fOut m (0 + 1) = fIn m (fSw m 0 0) 0 (y + 1) := by rw [fOut_succ, hy1]; rfl
        conv => whnf
        rw [nat_wrap (by omega)]
        refine ⟨0 + 1, some [(0, .row 0), (1, .row 2)], ?_, by omega, by omega⟩
        dsimp only
        rw [e]
        (refine ⟨rfl, rfl, ?_, ?_⟩ <;> ((repeat' (first | exact trivial | exact rfl | refine And.intro ?_ ?_)) <;> (try ((conv => whnf); first | refine vint ?_ | refine vboo ?_ | refine rint ?_ | refine rrow ?_ | skip)) <;> (try first | omega | (simp; done) | ((repeat rw [flts_closed _ (by assumption)]); exact vws_closed _ (by assumption)))))
  | succ x =>
    refine ⟨fun h => ?_, fun h => ?_⟩
    · have h := ltT h
      have s0 := fOut_shp m (x + 1)
      conv => whnf
      refine ⟨x + 1, rfl, h, ?_⟩
      conv => whnf
      refine ⟨0, rfl, by omega, ?_⟩
      conv => whnf
      refine ACall.use (signsOf_spec (m.getD 0 []).length (by omega)) ?_
      conv => whnf
      refine aloopI tyOk mx (fun y : Nat => (⟨40, [(0, .t (.rows m)), (3, .own 2), (5, .sub 0 (x + 1)), (12, .own 0), (13, .c (.int .i64 ((fR m).length))), (14, .c (.int .i64 ((x + 1 : Nat)))), (22, .own 1), (23, .c (.int .i64 ((fP m).length))), (24, .c (.int .i64 (y)))], [(0, .rows 34 3 true (fR m)), (1, .rows 34 3 true (fP m)), (2, .rows 34 3 true (fIn m (fOut m (x + 1)) (x + 1) y))], 3⟩ : St))
        (fun y => y ≤ (fP m).length) (fun y => (fP m).length - y) 0 (Nat.zero_le _) (some [(0, .row 0), (1, .row 2), (2, .row 1)]) (by refine ⟨rfl, rfl, ?_, ?_⟩ <;> ((repeat' (first | exact trivial | exact rfl | refine And.intro ?_ ?_)) <;> (try ((conv => whnf); first | refine vint ?_ | refine vboo ?_ | refine rint ?_ | refine rrow ?_ | skip)) <;> (try first | omega | (simp; done) | ((repeat rw [flts_closed _ (by assumption)]); exact vws_closed _ (by assumption))))) (fun y hy => ?_)
      refine ⟨fun h5 => ?_, fun h5 => ?_⟩
      · have h5 := ltT h5
        obtain ⟨p1, p2, p3, p4⟩ := f_pre hg h h5
        have sn : Shp (switchR m ((fR m).getD (x + 1) []) ((fP m).getD y [])) m := switchR_shp _ _ _
        have sy := fIn_shp s0 (x + 1) y
        conv => whnf
        refine ⟨y, rfl, h5, ?_⟩
        conv => whnf
        refine ACall.use (switched_spec m _ _ p1 p2 p3 p4) ?_
        conv => whnf
        refine ACall.use (compareLists_spec (switchR m _ _) _ (by rw [sn.1]; omega) (by rw [sy.1]; omega) (fun r hr => by have := sn.rows k2 r hr; omega) (fun r hr => by have := sy.rows k2 r hr; omega)) ?_
        refine ⟨fun h6 => ?_, fun h6 => ?_⟩
        · have e : fIn m (fOut m (x + 1)) (x + 1) (y + 1) = switchR m ((fR m).getD (x + 1) []) ((fP m).getD y []) := by rw [fIn_succ]; exact fStep_le (of_decide_eq_true h6)
          conv => whnf
          rw [nat_wrap (by omega)]
          refine ⟨y + 1, some [(0, .row 0), (1, .row 1), (2, .row 3)], ?_, by omega, by omega⟩
          dsimp only
          rw [e]
          (refine ⟨rfl, rfl, ?_, ?_⟩ <;> ((repeat' (first | exact trivial | exact rfl | refine And.intro ?_ ?_)) <;> (try ((conv => whnf); first | refine vint ?_ | refine vboo ?_ | refine rint ?_ | refine rrow ?_ | skip)) <;> (try first | omega | (simp; done) | ((repeat rw [flts_closed _ (by assumption)]); exact vws_closed _ (by assumption)))))
        · have e : fIn m (fOut m (x + 1)) (x + 1) (y + 1) = fIn m (fOut m (x + 1)) (x + 1) y := by rw [fIn_succ]; exact fStep_gt (of_decide_eq_false h6)
          conv => whnf
          rw [nat_wrap (by omega)]
          refine ⟨y + 1, some [(0, .row 0), (1, .row 1), (2, .row 2)], ?_, by omega, by omega⟩
          dsimp only
          rw [e]
          (refine ⟨rfl, rfl, ?_, ?_⟩ <;> ((repeat' (first | exact trivial | exact rfl | refine And.intro ?_ ?_)) <;> (try ((conv => whnf); first | refine vint ?_ | refine vboo ?_ | refine rint ?_ | refine rrow ?_ | skip)) <;> (try first | omega | (simp; done) | ((repeat rw [flts_closed _ (by assumption)]); exact vws_closed _ (by assumption)))))
      · have h5 := ltF h5
        obtain rfl : y = (fP m).length := by omega
        conv => whnf
        rw [nat_wrap (by omega)]
        refine ⟨x + 1 + 1, some [(0, .row 0), (1, .row 2)], ?_, by omega, by omega⟩
        dsimp only
        rw [fOut_succ m (x + 1)]
        (refine ⟨rfl, rfl, ?_, ?_⟩ <;> ((repeat' (first | exact trivial | exact rfl | refine And.intro ?_ ?_)) <;> (try ((conv => whnf); first | refine vint ?_ | refine vboo ?_ | refine rint ?_ | refine rrow ?_ | skip)) <;> (try first | omega | (simp; done) | ((repeat rw [flts_closed _ (by assumption)]); exact vws_closed _ (by assumption)))))
    · have h := ltF h
      have hx1 : x + 1 = (fR m).length := by omega
      have e : fOut m (x + 1) = firstF m := by rw [hx1]; rfl
      conv => whnf
      rw [e]
      exact ⟨rfl, rfl⟩
end Go.Proofs.Ytahllgjmjnipjaa
