/- Functionals of two questions each; the least and the greatest worth of extreme boxes: reference and program. -/
import Derived.Test.YtgefdbihdliolaaExt2
import Derived.Test.YtgefdbihdliolaaWorth
namespace Go.Aw
theorem mn_eq (a b : Int) : (if b < a then b else a) = min a b := by split <;> omega
theorem mx_eq (a b : Int) : (if b > a then b else a) = max a b := by split <;> omega
end Go.Aw
namespace Go.Proofs.Ytgefdbihdliolaa
open Go.Aw
set_option maxRecDepth 100000
set_option maxHeartbeats 4000000

theorem r1Most_spec (a b : Int) : FSpec Try.prog 94 [.c (.int .i64 (a)), .c (.int .i64 (b))] (ex (.c (.int .i64 (max a b))) []) := by
  refine fspec tyOk mx Try.func94 rfl (by kernel_rfl) rfl ?_
  conv => whnf
  refine ⟨fun h => ?_, fun h => ?_⟩
  · have h := of_decide_eq_true h
    conv => whnf
    refine ⟨?_, rfl⟩
    rw [Int.max_eq_left (by omega)]
  · have h := of_decide_eq_false h
    conv => whnf
    refine ⟨?_, rfl⟩
    rw [Int.max_eq_right (by omega)]
theorem r1Least_spec (a b : Int) : FSpec Try.prog 93 [.c (.int .i64 (a)), .c (.int .i64 (b))] (ex (.c (.int .i64 (min a b))) []) := by
  refine fspec tyOk mx Try.func93 rfl (by kernel_rfl) rfl ?_
  conv => whnf
  refine ⟨fun h => ?_, fun h => ?_⟩
  · have h := of_decide_eq_true h
    conv => whnf
    refine ⟨?_, rfl⟩
    rw [Int.min_eq_left (by omega)]
  · have h := of_decide_eq_false h
    conv => whnf
    refine ⟨?_, rfl⟩
    rw [Int.min_eq_right (by omega)]

def fnRow (r : List Int) : Bool := decide (r.length = 4) && rowIn r (-99) 99
def fnB (f : List (List Int)) : Bool := decide (f.length = 4) && f.all fnRow
theorem fnB_spec {f : List (List Int)} (h : fnB f = true) : f.length = 4 ∧ (∀ r, r ∈ f → r.length = 4) ∧ ∀ r, r ∈ f → ∀ v, v ∈ r → -99 ≤ v ∧ v ≤ 99 := by
  simp only [fnB, fnRow, Bool.and_eq_true, decide_eq_true_eq, List.all_eq_true, rowIn_iff] at h
  exact ⟨h.1, fun r hr => (h.2 r hr).1, fun r hr => (h.2 r hr).2⟩

theorem l2Functional_spec (f : List (List Int)) (kf : SzM f) : FSpec Try.prog 91 [.c (.int .i64 (2)), .c (.int .i64 (2)), .t (.rows f)] (ex (.c (.bool (fnB f))) []) := by
  obtain ⟨k1, k2, k3⟩ := kf.all
  refine fspec tyOk mx Try.func91 rfl (by kernel_rfl) rfl ?_
  conv => whnf
  refine ACall.use (l2Sizes_spec 2 2) ?_
  conv => whnf
  first | refine ⟨fun h => absurd h (by decide), fun _ => ?_⟩ | refine ⟨fun _ => ?_, fun h => absurd h (by decide)⟩
  conv => whnf
  refine ⟨fun h => ?_, fun h => ?_⟩
  · have h : ¬ f.length = 4 := by
      intro e
      rw [e] at h
      exact absurd h (by decide)
    conv => whnf
    refine ⟨?_, rfl⟩
    rw [fnB, decide_eq_false h, Bool.false_and]
  · have h0 : f.length = 4 := by
      have h : ((f.length : Int) != IntKind.i64.wrap (2 * 2)) = false := h
      rw [w64 (by omega) (by omega)] at h
      have : (f.length : Int) = 2 * 2 := by simpa using h
      omega
    clear h
    conv => whnf
    refine aloopI tyOk mx (fun i : Nat => (⟨51, [(2, .t (.rows f)), (7, .c (.int .i64 (i)))], [], 0⟩ : St)) (fun i => i ≤ f.length ∧ (f.take i).all fnRow = true) (fun i => f.length - i) 0 ⟨Nat.zero_le _, rfl⟩ none (by refine ⟨rfl, rfl, ?_, ?_⟩ <;> ((repeat' (first | exact trivial | exact rfl | refine And.intro ?_ ?_)) <;> (try ((conv => whnf); first | refine vint ?_ | refine vboo ?_ | refine rint ?_ | refine rrow ?_ | skip)) <;> (try first | omega | (simp; done) | ((repeat rw [flts_closed _ (by assumption)]); exact vws_closed _ (by assumption))))) (fun i hi => ?_)
    obtain ⟨hi, hp⟩ := hi
    refine ⟨fun h => ?_, fun h => ?_⟩
    · have h : i < f.length := by have := ltT h; omega
      have hri := k2 _ (getD_mem (d := []) h)
      conv => whnf
      refine aloopI tyOk mx (fun n : Nat => (⟨51, [(2, .t (.rows f)), (7, .c (.int .i64 (i))), (8, .c (.int .i64 (n)))], [], 0⟩ : St)) (fun n => n ≤ (f.getD i []).length ∧ ((f.getD i []).take n).all (fun x => inR x (-99) 99) = true) (fun n => (f.getD i []).length - n) 0 ⟨Nat.zero_le _, rfl⟩ none (by refine ⟨rfl, rfl, ?_, ?_⟩ <;> ((repeat' (first | exact trivial | exact rfl | refine And.intro ?_ ?_)) <;> (try ((conv => whnf); first | refine vint ?_ | refine vboo ?_ | refine rint ?_ | refine rrow ?_ | skip)) <;> (try first | omega | (simp; done) | ((repeat rw [flts_closed _ (by assumption)]); exact vws_closed _ (by assumption))))) (fun n hn => ?_)
      obtain ⟨hn, hq⟩ := hn
      refine ⟨i, rfl, h, ?_⟩
      conv => whnf
      refine ⟨fun h2 => ?_, fun h2 => ?_⟩
      · have h2 : n < (f.getD i []).length := by have := ltT h2; omega
        conv => whnf
        refine ⟨i, rfl, h, n, rfl, h2, ?_⟩
        conv => whnf
        refine ACall.use (l1In_spec _ _ _) ?_
        conv => whnf
        refine ⟨fun h3 => ?_, fun h3 => ?_⟩
        · have h3 : inR ((f.getD i []).getD n 0) (-99) 99 = false := by simpa using h3
          conv => whnf
          refine ⟨?_, rfl⟩
          rw [fnB, all_false (d := []) h (by rw [fnRow, rowIn, all_false (d := 0) h2 h3, Bool.and_false]), Bool.and_false]
        · have h3 : inR ((f.getD i []).getD n 0) (-99) 99 = true := by simpa using h3
          conv => whnf
          rw [nat_wrap (by omega)]
          exact ⟨n + 1, none, (by refine ⟨rfl, rfl, ?_, ?_⟩ <;> ((repeat' (first | exact trivial | exact rfl | refine And.intro ?_ ?_)) <;> (try ((conv => whnf); first | refine vint ?_ | refine vboo ?_ | refine rint ?_ | refine rrow ?_ | skip)) <;> (try first | omega | (simp; done) | ((repeat rw [flts_closed _ (by assumption)]); exact vws_closed _ (by assumption))))), ⟨by omega, all_take_succ (d := 0) h2 hq h3⟩, by omega⟩
      · have h2 : ¬ n < (f.getD i []).length := by have := ltF h2; omega
        have hrow : rowIn (f.getD i []) (-99) 99 = true := all_end h2 hq
        conv => whnf
        refine ⟨i, rfl, h, ?_⟩
        conv => whnf
        refine ⟨fun h3 => ?_, fun h3 => ?_⟩
        · have h3 : ¬ (f.getD i []).length = 4 := by
            intro e; rw [e] at h3; exact absurd h3 (by decide)
          conv => whnf
          refine ⟨?_, rfl⟩
          rw [fnB, all_false (d := []) h (by rw [fnRow, decide_eq_false h3, Bool.false_and]), Bool.and_false]
        · have h3 : (f.getD i []).length = 4 := by
            have : ((f.getD i []).length : Int) = 4 := by simpa using h3
            omega
          conv => whnf
          rw [nat_wrap (by omega)]
          exact ⟨i + 1, none, (by refine ⟨rfl, rfl, ?_, ?_⟩ <;> ((repeat' (first | exact trivial | exact rfl | refine And.intro ?_ ?_)) <;> (try ((conv => whnf); first | refine vint ?_ | refine vboo ?_ | refine rint ?_ | refine rrow ?_ | skip)) <;> (try first | omega | (simp; done) | ((repeat rw [flts_closed _ (by assumption)]); exact vws_closed _ (by assumption))))), ⟨by omega, all_take_succ (d := []) h hp (by rw [fnRow, hrow, decide_eq_true h3]; rfl)⟩, by omega⟩
    · have h : ¬ i < f.length := by have := ltF h; omega
      conv => whnf
      refine ⟨?_, rfl⟩
      rw [fnB, decide_eq_true h0, all_end h hp]; rfl

theorem isFunctional_spec (f : List (List Int)) (kf : SzM f) : FSpec Try.prog 95 [.c (.int .i64 (2)), .c (.int .i64 (2)), .t (.rows f)] (ex (.c (.bool (fnB f))) []) := by
  obtain ⟨k1, k2, k3⟩ := kf.all
  refine fspec tyOk mx Try.func95 rfl (by kernel_rfl) rfl ?_
  conv => whnf
  refine aloopI tyOk mx (fun i : Nat => (⟨35, [(0, .c (.int .i64 (2))), (1, .c (.int .i64 (2))), (2, .t (.rows f)), (9, .t (.rows f)), (10, .c (.int .i64 (f.length))), (11, .c (.int .i64 (i)))], [], 0⟩ : St)) (fun i => i ≤ f.length ∧ (f.take i).all fnRow = true) (fun i => f.length - i) 0 ⟨Nat.zero_le _, rfl⟩ none (by refine ⟨rfl, rfl, ?_, ?_⟩ <;> ((repeat' (first | exact trivial | exact rfl | refine And.intro ?_ ?_)) <;> (try ((conv => whnf); first | refine vint ?_ | refine vboo ?_ | refine rint ?_ | refine rrow ?_ | skip)) <;> (try first | omega | (simp; done) | ((repeat rw [flts_closed _ (by assumption)]); exact vws_closed _ (by assumption))))) (fun i hi => ?_)
  obtain ⟨hi, hp⟩ := hi
  refine ⟨fun h => ?_, fun h => ?_⟩
  · have h : i < f.length := by have := ltT h; omega
    have hri := k2 _ (getD_mem (d := []) h)
    conv => whnf
    refine ⟨i, rfl, h, ?_⟩
    conv => whnf
    refine ⟨fun h3 => ?_, fun h3 => ?_⟩
    · have h3 : (f.getD i []).length = 4 := by
        have : ((f.getD i []).length : Int) = 4 := by simpa using h3
        omega
      conv => whnf
      refine ACall.use (allWithin_spec (f.getD i []) _ _ (by omega)) ?_
      conv => whnf
      refine ⟨fun h4 => ?_, fun h4 => ?_⟩
      · have h4 : rowIn (f.getD i []) (-99) 99 = false := by simpa using h4
        conv => whnf
        refine ⟨?_, rfl⟩
        rw [fnB, all_false (d := []) h (by rw [fnRow, h4, Bool.and_false]), Bool.and_false]
      · have h4 : rowIn (f.getD i []) (-99) 99 = true := by simpa using h4
        conv => whnf
        rw [nat_wrap (by omega)]
        exact ⟨i + 1, none, (by refine ⟨rfl, rfl, ?_, ?_⟩ <;> ((repeat' (first | exact trivial | exact rfl | refine And.intro ?_ ?_)) <;> (try ((conv => whnf); first | refine vint ?_ | refine vboo ?_ | refine rint ?_ | refine rrow ?_ | skip)) <;> (try first | omega | (simp; done) | ((repeat rw [flts_closed _ (by assumption)]); exact vws_closed _ (by assumption))))), ⟨by omega, all_take_succ (d := []) h hp (by rw [fnRow, h4, decide_eq_true h3]; rfl)⟩, by omega⟩
    · have h3 : ¬ (f.getD i []).length = 4 := by
        intro e; rw [e] at h3; exact absurd h3 (by decide)
      conv => whnf
      (repeat (conv => whnf); (first | refine ⟨fun h => absurd h (by decide), fun _ => ?_⟩ | refine ⟨fun _ => ?_, fun h => absurd h (by decide)⟩)); conv => whnf
      refine ⟨?_, rfl⟩
      rw [fnB, all_false (d := []) h (by rw [fnRow, decide_eq_false h3, Bool.false_and]), Bool.and_false]
  · have h : ¬ i < f.length := by have := ltF h; omega
    have hall := all_end h hp
    conv => whnf
    refine ACall.use (areQuestions_spec 2 2) ?_
    conv => whnf
    first | refine ⟨fun h => absurd h (by decide), fun _ => ?_⟩ | refine ⟨fun _ => ?_, fun h => absurd h (by decide)⟩
    conv => whnf
    refine ⟨?_, rfl⟩
    rw [fnB, hall, Bool.and_true]
    congr 1
    rw [show IntKind.i64.wrap (2 * 2) = 4 from rfl]
    by_cases e : f.length = 4
    · rw [e]; rfl
    · rw [decide_eq_false e]
      have : ¬ (f.length : Int) = 4 := by omega
      simp [this]
end Go.Proofs.Ytgefdbihdliolaa
