/- The least sign game to which one can be switched: the reference's and the program's. -/
import Derived.Test.YtahllgjmjnipjaaCompare
namespace Go.Proofs.Ytahllgjmjnipjaa
open Go.Aw
set_option maxRecDepth 100000

def fR (m : List (List Int)) : List (List Int) := signsL m.length
def fP (m : List (List Int)) : List (List Int) := signsL (m.getD 0 []).length
def fSw (m : List (List Int)) (x y : Nat) : List (List Int) := switchR m ((fR m).getD x []) ((fP m).getD y [])
def fStep (m : List (List Int)) (b : List (List Int)) (x y : Nat) : List (List Int) := if cmpL (fSw m x y) b < 0 then fSw m x y else b
def fIn (m : List (List Int)) (b : List (List Int)) (x y : Nat) : List (List Int) := fo (fun b y => fStep m b x y) b y
def fOut (m : List (List Int)) (x : Nat) : List (List Int) := fo (fun b x => fIn m b x (fP m).length) (fSw m 0 0) x
def firstF (m : List (List Int)) : List (List Int) := fOut m (fR m).length
theorem fIn_succ (m b : List (List Int)) (x y : Nat) : fIn m b x (y + 1) = fStep m (fIn m b x y) x y := rfl
theorem fOut_succ (m : List (List Int)) (x : Nat) : fOut m (x + 1) = fIn m (fOut m x) x (fP m).length := rfl

theorem switchR_shp (m : List (List Int)) (r p : List Int) : Shp (switchR m r p) m := by
  refine ⟨by simp [switchR], fun x => ?_⟩
  by_cases h : x < m.length
  · simp only [switchR, List.getD_eq_getElem?_getD, List.getElem?_map, List.getElem?_range h]
    simp [swRow]
  · simp [switchR, List.getD_eq_getElem?_getD, List.getElem?_map, h]
theorem fStep_shp {m b : List (List Int)} (h : Shp b m) (x y : Nat) : Shp (fStep m b x y) m := by
  unfold fStep; split
  · exact switchR_shp _ _ _
  · exact h
theorem fIn_shp {m b : List (List Int)} (h : Shp b m) (x : Nat) : ∀ y, Shp (fIn m b x y) m
  | 0 => h
  | y + 1 => fStep_shp (fIn_shp h x y) x y
theorem fOut_shp (m : List (List Int)) : ∀ x, Shp (fOut m x) m
  | 0 => switchR_shp _ _ _
  | x + 1 => fIn_shp (fOut_shp m x) x _
theorem Shp.symm {a b : List (List Int)} (h : Shp a b) : Shp b a := ⟨h.1.symm, fun x => (h.2 x).symm⟩
theorem Shp.trans {a b c : List (List Int)} (h : Shp a b) (h2 : Shp b c) : Shp a c := ⟨h.1.trans h2.1, fun x => (h.2 x).trans (h2.2 x)⟩
theorem Shp.rows {a m : List (List Int)} {n : Nat} (h : Shp a m) (hm : ∀ r, r ∈ m → r.length ≤ n) : ∀ r, r ∈ a → r.length ≤ n := by
  intro r hr
  obtain ⟨x, hx, rfl⟩ := List.mem_iff_getElem.1 hr
  have h1 : x < m.length := by rw [← h.1]; exact hx
  have h2 := h.2 x
  have h3 := hm _ (getD_mem (d := []) h1)
  rw [← h2] at h3
  simpa [List.getD, hx] using h3

theorem fR_pos (m : List (List Int)) : 0 < (fR m).length := by simp [fR, signsL]; exact Nat.pow_pos (by omega)
theorem fP_pos (m : List (List Int)) : 0 < (fP m).length := by simp [fP, signsL]; exact Nat.pow_pos (by omega)
theorem f_le {m : List (List Int)} (hg : goodM m = true) : (fR m).length ≤ 4096 ∧ (fP m).length ≤ 4096 := by
  obtain ⟨g1, g2, g3, g4, g5⟩ := goodM_spec hg
  simp only [fR, fP, signsL, List.length_map, List.length_range]
  exact ⟨two_pow_le (by omega), two_pow_le (by omega)⟩
theorem f_row {n x : Nat} (h : x < (signsL n).length) : ((signsL n).getD x []).length = n := by
  have h' : x < 2 ^ n := by simpa [signsL] using h
  simp [signsL, List.getD, h', sgRow]
theorem f_pre {m : List (List Int)} (hg : goodM m = true) {x y : Nat} (hx : x < (fR m).length) (hy : y < (fP m).length) :
    m.length ≤ 1000 ∧ m.length ≤ ((fR m).getD x []).length ∧ (∀ r, r ∈ m → r.length ≤ ((fP m).getD y []).length) ∧ ((fP m).getD y []).length ≤ 1000 := by
  obtain ⟨g1, g2, g3, g4, g5⟩ := goodM_spec hg
  have h1 := f_row hx
  have h2 := f_row hy
  unfold fR fP
  exact ⟨by omega, by omega, fun r hr => by have := (g5 r hr).1; omega, by omega⟩
theorem g_rows {m : List (List Int)} (hg : goodM m = true) : m.length ≤ 3 ∧ ∀ r, r ∈ m → r.length ≤ 3 := by
  obtain ⟨g1, g2, g3, g4, g5⟩ := goodM_spec hg
  exact ⟨g2, fun r hr => by have := (g5 r hr).1; omega⟩

theorem l5First_spec (m : List (List Int)) (hg : goodM m = true) :
    FSpec Try.prog 29 [.t (.rows m)] (ex (.own 0) [(0, .rows 34 3 true (firstF m))]) := by
  obtain ⟨g1, g2, g3, g4, g5⟩ := goodM_spec hg
  have pR := fR_pos m
  have pP := fP_pos m
  obtain ⟨lR, lP⟩ := f_le hg
  obtain ⟨k1, k2⟩ := g_rows hg
  refine fspec tyOk mx Try.func29 rfl (by kernel_rfl) rfl ?_
  conv => whnf
  refine ADraw.mid (⟨52, [(0, .t (.rows m)), (3, .own 0), (4, .own 1)], [(0, .rows 34 3 true (fR m)), (1, .rows 34 3 true (fP m))], 2⟩ : St) (ADraw.plan tyOk mx (.q 0 (.q 1 (.q 3 (.q 4 (.q 5 (.q 6 (.last 2 (.last 7 (.q 8 (.q 9 (.done)))))))))) : Plan) (by kernel_rfl) ?_) ?_
  · conv => whnf
    refine ⟨0, rfl, by omega, ?_⟩
    conv => whnf
    refine ACall.useR (l5Signs_spec m.length (by omega)) ?_
    conv => whnf
    refine ACall.useR (l5Signs_spec (m.getD 0 []).length (by omega)) ?_
    conv => whnf
    exact ⟨[(0, .row 0), (1, .row 1)], (by refine ⟨rfl, rfl, ?_, ?_⟩ <;> ((repeat' (first | exact trivial | exact rfl | refine And.intro ?_ ?_)) <;> (try ((conv => whnf); first | refine vint ?_ | refine vboo ?_ | refine rint ?_ | refine rrow ?_ | skip)) <;> (try first | omega | (simp; done) | ((repeat rw [flts_closed _ (by assumption)]); exact vws_closed _ (by assumption)))))⟩
  · conv => whnf
    obtain ⟨p1, p2, p3, p4⟩ := f_pre hg pR pP
    refine ADraw.plan tyOk mx (.q 0 (.q 1 (.q 2 (.q 3 (.q 4 (.q 5 (.q 6 (.last 7 (.q 8 (.done))))))))) : Plan) (by kernel_rfl) ?_
    conv => whnf
    refine ⟨0, rfl, pR, 0, rfl, pP, ?_⟩
    conv => whnf
    refine ACall.useR (l5Switch_spec m _ _ p1 p2 p3 p4) ?_
    conv => whnf
    refine aloopI tyOk mx (fun x : Nat => (⟨52, [(0, .t (.rows m)), (3, .own 0), (4, .own 1), (5, .own 2), (6, .c (.int .i64 (x)))], [(0, .rows 34 3 true (fR m)), (1, .rows 34 3 true (fP m)), (2, .rows 34 3 true (fOut m x))], 3⟩ : St)) (fun x => x ≤ (fR m).length) (fun x => (fR m).length - x) 0 (Nat.zero_le _) none (by refine ⟨rfl, rfl, ?_, ?_⟩ <;> ((repeat' (first | exact trivial | exact rfl | refine And.intro ?_ ?_)) <;> (try ((conv => whnf); first | refine vint ?_ | refine vboo ?_ | refine rint ?_ | refine rrow ?_ | skip)) <;> (try first | omega | (simp; done) | ((repeat rw [flts_closed _ (by assumption)]); exact vws_closed _ (by assumption))))) (fun x hx => ?_)
    refine ⟨fun h => ?_, fun h => ?_⟩
    · have h := ltT h
      have sx := fOut_shp m x
      conv => whnf
      refine aloopI tyOk mx (fun y : Nat => (⟨52, [(0, .t (.rows m)), (3, .own 0), (4, .own 1), (5, .own 2), (6, .c (.int .i64 (x))), (7, .c (.int .i64 (y)))], [(0, .rows 34 3 true (fR m)), (1, .rows 34 3 true (fP m)), (2, .rows 34 3 true (fIn m (fOut m x) x y))], 3⟩ : St)) (fun y => y ≤ (fP m).length) (fun y => (fP m).length - y) 0 (Nat.zero_le _) none (by refine ⟨rfl, rfl, ?_, ?_⟩ <;> ((repeat' (first | exact trivial | exact rfl | refine And.intro ?_ ?_)) <;> (try ((conv => whnf); first | refine vint ?_ | refine vboo ?_ | refine rint ?_ | refine rrow ?_ | skip)) <;> (try first | omega | (simp; done) | ((repeat rw [flts_closed _ (by assumption)]); exact vws_closed _ (by assumption))))) (fun y hy => ?_)
      refine ⟨fun h5 => ?_, fun h5 => ?_⟩
      · have h5 := ltT h5
        obtain ⟨p1, p2, p3, p4⟩ := f_pre hg h h5
        have sn : Shp (switchR m ((fR m).getD x []) ((fP m).getD y [])) m := switchR_shp _ _ _
        have sy := fIn_shp sx x y
        refine ADraw.plan tyOk mx (.q 0 (.q 1 (.q 2 (.q 3 (.q 4 (.q 5 (.q 6 (.q 7 (.q 8 (.last 9 (.q 10 (.done))))))))))) : Plan) (by kernel_rfl) ?_
        conv => whnf
        refine ⟨x, rfl, h, y, rfl, h5, ?_⟩
        conv => whnf
        refine ACall.useR (l5Switch_spec m _ _ p1 p2 p3 p4) ?_
        conv => whnf
        refine ACall.use (l5Less_spec _ _ (sn.trans sy.symm) (by rw [sn.1]; omega) (fun r hr => by have := sn.rows k2 r hr; omega)) ?_
        refine ⟨fun h6 => ?_, fun h6 => ?_⟩
        · have e : fIn m (fOut m x) x (y + 1) = switchR m ((fR m).getD x []) ((fP m).getD y []) := by rw [fIn_succ, fStep, fSw, if_pos (of_decide_eq_true h6)]
          conv => whnf
          rw [nat_wrap (by omega)]
          refine ⟨y + 1, some [(0, .row 0), (1, .row 1), (2, .row 3)], ?_, by omega, by omega⟩
          dsimp only
          rw [e]
          (refine ⟨rfl, rfl, ?_, ?_⟩ <;> ((repeat' (first | exact trivial | exact rfl | refine And.intro ?_ ?_)) <;> (try ((conv => whnf); first | refine vint ?_ | refine vboo ?_ | refine rint ?_ | refine rrow ?_ | skip)) <;> (try first | omega | (simp; done) | ((repeat rw [flts_closed _ (by assumption)]); exact vws_closed _ (by assumption)))))
        · have e : fIn m (fOut m x) x (y + 1) = fIn m (fOut m x) x y := by rw [fIn_succ, fStep, fSw, if_neg (of_decide_eq_false h6)]
          conv => whnf
          rw [nat_wrap (by omega)]
          refine ⟨y + 1, some [(0, .row 0), (1, .row 1), (2, .row 2)], ?_, by omega, by omega⟩
          dsimp only
          rw [e]
          (refine ⟨rfl, rfl, ?_, ?_⟩ <;> ((repeat' (first | exact trivial | exact rfl | refine And.intro ?_ ?_)) <;> (try ((conv => whnf); first | refine vint ?_ | refine vboo ?_ | refine rint ?_ | refine rrow ?_ | skip)) <;> (try first | omega | (simp; done) | ((repeat rw [flts_closed _ (by assumption)]); exact vws_closed _ (by assumption)))))
      · have h5 := ltF h5
        obtain rfl : y = (fP m).length := by omega
        conv => whnf
        rw [nat_wrap (by omega)]
        exact ⟨x + 1, some [(0, .row 0), (1, .row 1), (2, .row 2)], (by refine ⟨rfl, rfl, ?_, ?_⟩ <;> ((repeat' (first | exact trivial | exact rfl | refine And.intro ?_ ?_)) <;> (try ((conv => whnf); first | refine vint ?_ | refine vboo ?_ | refine rint ?_ | refine rrow ?_ | skip)) <;> (try first | omega | (simp; done) | ((repeat rw [flts_closed _ (by assumption)]); exact vws_closed _ (by assumption))))), by omega, by omega⟩
    · have h := ltF h
      obtain rfl : x = (fR m).length := by omega
      conv => whnf
      exact ⟨rfl, rfl⟩
end Go.Proofs.Ytahllgjmjnipjaa
