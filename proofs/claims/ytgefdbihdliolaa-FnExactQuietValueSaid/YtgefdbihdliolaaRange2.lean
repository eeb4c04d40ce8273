/- WorthRange, reference and program. -/
import Derived.Test.YtgefdbihdliolaaRange1
namespace Go.Proofs.Ytgefdbihdliolaa
open Go.Aw
set_option maxRecDepth 100000
set_option maxHeartbeats 4000000

def exW (f : List (List Int)) (i : Nat) : Int := worthF f (exRow i)
def wLo (f : List (List Int)) : Nat → Int
  | 0 => exW f 0
  | i + 1 => min (wLo f i) (exW f i)
def wHi (f : List (List Int)) : Nat → Int
  | 0 => exW f 0
  | i + 1 => max (wHi f i) (exW f i)
theorem wLo_one (f : List (List Int)) : wLo f 1 = exW f 0 := by simp [wLo]
theorem wHi_one (f : List (List Int)) : wHi f 1 = exW f 0 := by simp [wHi]
theorem exW_spec (f : List (List Int)) (hf : f.length = 4) (h4 : ∀ r, r ∈ f → r.length = 4) (i : Nat) (x y z : Int) : FSpec Try.prog 92 [.t (.rows f), .ag [.c (.int .i64 (x)), .c (.int .i64 (y)), .c (.int .i64 (z)), .t (.rows (exRow i))]] (ex (.c (.int .i64 (exW f i))) []) :=
  l2Worth_spec f (exRow i) x y z (by rw [exRow_len, hf]) (by rw [exRow_len]; omega) h4 (exRow_rows i)
theorem exWi_spec (f : List (List Int)) (hf : f.length = 4) (h4 : ∀ r, r ∈ f → r.length = 4) (i : Nat) : FSpec Try.prog 96 [.t (.rows f), .t (.rows (exRow i))] (ex (.c (.int .i64 (exW f i))) []) :=
  worth_spec f (exRow i) (by rw [exRow_len, hf]) (by rw [exRow_len]; omega) h4 (exRow_rows i)

def wrLo (f : List (List Int)) : Int := if fnB f then wLo f 24 else 0
def wrHi (f : List (List Int)) : Int := if fnB f then wHi f 24 else 0

theorem WorthRange_s (f : List (List Int)) (_hf : OkM f) (kf : SzM f) : FSpec Try.prog 40 [.t (.rows f)] (ex (.tu [.c (.int .i64 (wrLo f)), .c (.int .i64 (wrHi f)), .c (.bool (fnB f))]) []) := by
  have hl := exL_len 24
  refine fspec tyOk mx Try.func40 rfl (by kernel_rfl) rfl ?_
  conv => whnf
  refine ACall.use (l2Functional_spec f kf) ?_
  conv => whnf
  refine ⟨fun h => ?_, fun h => ?_⟩
  · have h : fnB f = false := by simpa using h
    conv => whnf
    exact ⟨by rw [wrLo, wrHi, h]; rfl, rfl⟩
  · have h : fnB f = true := by simpa using h
    obtain ⟨g1, g2, _⟩ := fnB_spec h
    conv => whnf
    refine ACall.use l6Extremes_spec ?_
    conv => whnf
    refine ADraw.std tyOk mx ⟨by kernel_rfl, 0, rfl, by omega, ?_⟩
    conv => whnf
    rw [exL_get (i := 0) (by omega)]
    refine QCall.use (exW_spec f g1 g2 0 2 2 2) ?_
    conv => whnf
    refine ⟨0, rfl, by omega, ?_⟩
    conv => whnf
    rw [exL_get (i := 0) (by omega)]
    refine QCall.use (exW_spec f g1 g2 0 2 2 2) ?_
    conv => whnf
    refine aloopI tyOk mx (fun i : Nat => (⟨47, [(0, .t (.rows f)), (5, .t (.recs 3 (exL 24))), (6, .c (.int .i64 (wLo f i))), (7, .c (.int .i64 (wHi f i))), (8, .c (.int .i64 (i)))], [], 0⟩ : St)) (fun i => 1 ≤ i ∧ i ≤ 24) (fun i => 24 - i) 1 ⟨by omega, by omega⟩ none (by (refine ⟨rfl, rfl, ?_, ?_⟩ <;> ((repeat' (first | exact trivial | exact rfl | refine And.intro ?_ ?_)) <;> (try ((conv => whnf); first | refine vint ?_ | refine vboo ?_ | refine rint ?_ | refine rrow ?_ | skip)) <;> (try first | omega | (simp; done) | ((repeat rw [flts_closed _ (by assumption)]); exact vws_closed _ (by assumption))))); all_goals first | exact (wLo_one f).symm | exact (wHi_one f).symm) (fun i hi => ?_)
    refine ⟨fun h2 => ?_, fun h2 => ?_⟩
    · have h2 : i < 24 := by have := ltT h2; omega
      conv => whnf
      refine ⟨i, rfl, by omega, ?_⟩
      conv => whnf
      rw [exL_get h2]
      refine ACall.use (exW_spec f g1 g2 i 2 2 2) ?_
      conv => whnf
      refine ACall.use (r1Least_spec _ _) ?_
      conv => whnf
      refine ⟨i, rfl, by omega, ?_⟩
      conv => whnf
      rw [exL_get h2]
      refine ACall.use (exW_spec f g1 g2 i 2 2 2) ?_
      conv => whnf
      refine ACall.use (r1Most_spec _ _) ?_
      conv => whnf
      rw [nat_wrap (by omega)]
      exact ⟨i + 1, none, (by refine ⟨rfl, rfl, ?_, ?_⟩ <;> ((repeat' (first | exact trivial | exact rfl | refine And.intro ?_ ?_)) <;> (try ((conv => whnf); first | refine vint ?_ | refine vboo ?_ | refine rint ?_ | refine rrow ?_ | skip)) <;> (try first | omega | (simp; done) | ((repeat rw [flts_closed _ (by assumption)]); exact vws_closed _ (by assumption))))), by omega, by omega⟩
    · have h2 : ¬ i < 24 := by have := ltF h2; omega
      obtain rfl : i = 24 := by omega
      conv => whnf
      exact ⟨by rw [wrLo, wrHi, h]; rfl, rfl⟩

theorem WorthRange_i (f : List (List Int)) (_hf : OkM f) (kf : SzM f) : FSpec Try.prog 42 [.t (.rows f)] (ex (.tu [.c (.int .i64 (wrLo f)), .c (.int .i64 (wrHi f)), .c (.bool (fnB f))]) []) := by
  refine fspec tyOk mx Try.func42 rfl (by kernel_rfl) rfl ?_
  conv => whnf
  refine ACall.use (isFunctional_spec f kf) ?_
  conv => whnf
  refine ⟨fun h => ?_, fun h => ?_⟩
  · have h : fnB f = false := by simpa using h
    conv => whnf
    exact ⟨by rw [wrLo, wrHi, h]; rfl, rfl⟩
  · have h : fnB f = true := by simpa using h
    obtain ⟨g1, g2, _⟩ := fnB_spec h
    conv => whnf
    refine ACall.use (extreme_spec 0 (by omega)) ?_
    conv => whnf
    refine ACall.use (exWi_spec f g1 g2 0) ?_
    conv => whnf
    refine aloopI tyOk mx (fun i : Nat => (⟨34, [(0, .t (.rows f)), (5, .c (.int .i64 (wLo f i))), (6, .c (.int .i64 (wHi f i))), (17, .c (.int .i64 (i)))], [], 0⟩ : St)) (fun i => i ≤ 24) (fun i => 24 - i) 0 (Nat.zero_le _) none (by refine ⟨rfl, rfl, ?_, ?_⟩ <;> ((repeat' (first | exact trivial | exact rfl | refine And.intro ?_ ?_)) <;> (try ((conv => whnf); first | refine vint ?_ | refine vboo ?_ | refine rint ?_ | refine rrow ?_ | skip)) <;> (try first | omega | (simp; done) | ((repeat rw [flts_closed _ (by assumption)]); exact vws_closed _ (by assumption))))) (fun i hi => ?_)
    refine ⟨fun h2 => ?_, fun h2 => ?_⟩
    · have h2 : i < 24 := by have := of_decide_eq_true h2; omega
      conv => whnf
      refine ACall.use (extreme_spec i h2) ?_
      conv => whnf
      refine ACall.use (exWi_spec f g1 g2 i) ?_
      conv => whnf
      rw [nat_wrap (by omega)]
      refine ⟨i + 1, none, ?_, by omega, by omega⟩
      (refine ⟨rfl, rfl, ?_, ?_⟩ <;> ((repeat' (first | exact trivial | exact rfl | refine And.intro ?_ ?_)) <;> (try ((conv => whnf); first | refine vint ?_ | refine vboo ?_ | refine rint ?_ | refine rrow ?_ | skip)) <;> (try first | omega | (simp; done) | ((repeat rw [flts_closed _ (by assumption)]); exact vws_closed _ (by assumption)))))
      · exact mn_eq _ _
      · exact mx_eq _ _
    · have h2 : ¬ i < 24 := by have := of_decide_eq_false h2; omega
      obtain rfl : i = 24 := by omega
      conv => whnf
      exact ⟨by rw [wrLo, wrHi, h]; rfl, rfl⟩
end Go.Proofs.Ytgefdbihdliolaa
