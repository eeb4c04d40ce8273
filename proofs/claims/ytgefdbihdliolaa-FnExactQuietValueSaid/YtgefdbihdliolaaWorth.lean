/- Worths of functionals, agreements: reference and program. -/
import Derived.Test.YtgefdbihdliolaaPlays
import Derived.Test.YtgefdbihdliolaaBox1
namespace Go.Aw
def wRow (f m : List (List Int)) (i : Nat) (a : Int) (n : Nat) : Int := fo (fun a k => W (a + W ((f.getD i []).getD k 0 * (m.getD i []).getD k 0))) a n
def wTo (f m : List (List Int)) (n : Nat) : Int := fo (fun a i => wRow f m i a 4) 0 n
def worthF (f m : List (List Int)) : Int := wTo f m m.length
def agr (r : List Int) : Int := W (W (W (r.getD 0 0 - r.getD 1 0) - r.getD 2 0) + r.getD 3 0)
end Go.Aw
namespace Go.Proofs.Ytgefdbihdliolaa
open Go.Aw
set_option maxRecDepth 100000
set_option maxHeartbeats 4000000
theorem worth_spec (f m : List (List Int)) (hl : f.length = m.length) (hb : m.length ≤ 1000) (hf : ∀ r, r ∈ f → r.length = 4) (hm : ∀ r, r ∈ m → r.length = 4) :
    FSpec Try.prog 96 [.t (.rows f), .t (.rows m)] (ex (.c (.int .i64 (worthF f m))) []) := by
  refine fspec tyOk mx Try.func96 rfl (by kernel_rfl) rfl ?_
  conv => whnf
  refine aloopI tyOk mx (fun i : Nat => (⟨38, [(1, .t (.rows m)), (5, .c (.int .i64 (wTo f m i))), (10, .t (.rows f)), (11, .c (.int .i64 (f.length))), (12, .c (.int .i64 (i)))], [], 0⟩ : St)) (fun i => i ≤ m.length) (fun i => m.length - i) 0 (Nat.zero_le _) none (by refine ⟨rfl, rfl, ?_, ?_⟩ <;> ((repeat' (first | exact trivial | exact rfl | refine And.intro ?_ ?_)) <;> (try ((conv => whnf); first | refine vint ?_ | refine vboo ?_ | refine rint ?_ | refine rrow ?_ | skip)) <;> (try first | omega | (simp; done) | ((repeat rw [flts_closed _ (by assumption)]); exact vws_closed _ (by assumption))))) (fun i hi => ?_)
  refine ⟨fun h => ?_, fun h => ?_⟩
  · have h : i < m.length := by have := ltT h; omega
    have h4 := hf _ (getD_mem (d := []) (show i < f.length by omega))
    have h5 := hm _ (getD_mem (d := []) h)
    conv => whnf
    refine ⟨i, rfl, by omega, ?_⟩
    conv => whnf
    refine aloopI tyOk mx (fun k : Nat => (⟨38, [(1, .t (.rows m)), (5, .c (.int .i64 (wRow f m i (wTo f m i) k))), (6, .c (.int .i64 (i))), (10, .t (.rows f)), (11, .c (.int .i64 (f.length))), (12, .c (.int .i64 (i))), (17, .t (.ints .i64 (f.getD i []))), (18, .c (.int .i64 ((f.getD i []).length))), (19, .c (.int .i64 (k)))], [], 0⟩ : St)) (fun k => k ≤ 4) (fun k => 4 - k) 0 (Nat.zero_le _) none (by refine ⟨rfl, rfl, ?_, ?_⟩ <;> ((repeat' (first | exact trivial | exact rfl | refine And.intro ?_ ?_)) <;> (try ((conv => whnf); first | refine vint ?_ | refine vboo ?_ | refine rint ?_ | refine rrow ?_ | skip)) <;> (try first | omega | (simp; done) | ((repeat rw [flts_closed _ (by assumption)]); exact vws_closed _ (by assumption))))) (fun k hk => ?_)
    refine ⟨fun h2 => ?_, fun h2 => ?_⟩
    · have h2 : k < 4 := by have := ltT h2; omega
      conv => whnf
      refine ⟨k, rfl, by omega, ?_⟩
      conv => whnf
      refine ⟨i, rfl, h, ?_⟩
      conv => whnf
      refine ⟨k, rfl, by omega, ?_⟩
      conv => whnf
      rw [nat_wrap (by omega)]
      exact ⟨k + 1, none, (by refine ⟨rfl, rfl, ?_, ?_⟩ <;> ((repeat' (first | exact trivial | exact rfl | refine And.intro ?_ ?_)) <;> (try ((conv => whnf); first | refine vint ?_ | refine vboo ?_ | refine rint ?_ | refine rrow ?_ | skip)) <;> (try first | omega | (simp; done) | ((repeat rw [flts_closed _ (by assumption)]); exact vws_closed _ (by assumption))))), by omega, by omega⟩
    · have h2 : ¬ k < 4 := by have := ltF h2; omega
      obtain rfl : k = 4 := by omega
      conv => whnf
      rw [nat_wrap (by omega)]
      exact ⟨i + 1, none, (by refine ⟨rfl, rfl, ?_, ?_⟩ <;> ((repeat' (first | exact trivial | exact rfl | refine And.intro ?_ ?_)) <;> (try ((conv => whnf); first | refine vint ?_ | refine vboo ?_ | refine rint ?_ | refine rrow ?_ | skip)) <;> (try first | omega | (simp; done) | ((repeat rw [flts_closed _ (by assumption)]); exact vws_closed _ (by assumption))))), by omega, by omega⟩
  · have h : ¬ i < m.length := by have := ltF h; omega
    obtain rfl : i = m.length := by omega
    conv => whnf
    exact ⟨rfl, rfl⟩
theorem l2Worth_spec (f m : List (List Int)) (x y z : Int) (hl : f.length = m.length) (hb : m.length ≤ 1000) (hf : ∀ r, r ∈ f → r.length = 4) (hm : ∀ r, r ∈ m → r.length = 4) :
    FSpec Try.prog 92 [.t (.rows f), .ag [.c (.int .i64 (x)), .c (.int .i64 (y)), .c (.int .i64 (z)), .t (.rows m)]] (ex (.c (.int .i64 (worthF f m))) []) := by
  refine fspec tyOk mx Try.func92 rfl (by kernel_rfl) rfl ?_
  conv => whnf
  refine aloopI tyOk mx (fun i : Nat => (⟨38, [(0, .t (.rows f)), (3, .ptr 0 0), (5, .c (.int .i64 (wTo f m i))), (6, .c (.int .i64 (i)))], [(0, .cells 42 [.c (.int .i64 (x)), .c (.int .i64 (y)), .c (.int .i64 (z)), .t (.rows m)])], 1⟩ : St)) (fun i => i ≤ m.length) (fun i => m.length - i) 0 (Nat.zero_le _) none (by refine ⟨rfl, rfl, ?_, ?_⟩ <;> ((repeat' (first | exact trivial | exact rfl | refine And.intro ?_ ?_)) <;> (try ((conv => whnf); first | refine vint ?_ | refine vboo ?_ | refine rint ?_ | refine rrow ?_ | skip)) <;> (try first | omega | (simp; done) | ((repeat rw [flts_closed _ (by assumption)]); exact vws_closed _ (by assumption))))) (fun i hi => ?_)
  refine ⟨fun h => ?_, fun h => ?_⟩
  · have h := ltT h
    have h4 := hf _ (getD_mem (d := []) (show i < f.length by omega))
    have h5 := hm _ (getD_mem (d := []) h)
    conv => whnf
    refine aloopI tyOk mx (fun k : Nat => (⟨38, [(0, .t (.rows f)), (3, .ptr 0 0), (5, .c (.int .i64 (wRow f m i (wTo f m i) k))), (6, .c (.int .i64 (i))), (7, .c (.int .i64 (k)))], [(0, .cells 42 [.c (.int .i64 (x)), .c (.int .i64 (y)), .c (.int .i64 (z)), .t (.rows m)])], 1⟩ : St)) (fun k => k ≤ 4) (fun k => 4 - k) 0 (Nat.zero_le _) none (by refine ⟨rfl, rfl, ?_, ?_⟩ <;> ((repeat' (first | exact trivial | exact rfl | refine And.intro ?_ ?_)) <;> (try ((conv => whnf); first | refine vint ?_ | refine vboo ?_ | refine rint ?_ | refine rrow ?_ | skip)) <;> (try first | omega | (simp; done) | ((repeat rw [flts_closed _ (by assumption)]); exact vws_closed _ (by assumption))))) (fun k hk => ?_)
    refine ⟨fun h2 => ?_, fun h2 => ?_⟩
    · have h2 : k < 4 := by have := of_decide_eq_true h2; omega
      refine ADraw.std tyOk mx ⟨by kernel_rfl, i, rfl, by omega, k, rfl, by omega, i, rfl, h, k, rfl, by omega, ?_⟩
      conv => whnf
      rw [nat_wrap (by omega)]
      exact ⟨k + 1, none, (by refine ⟨rfl, rfl, ?_, ?_⟩ <;> ((repeat' (first | exact trivial | exact rfl | refine And.intro ?_ ?_)) <;> (try ((conv => whnf); first | refine vint ?_ | refine vboo ?_ | refine rint ?_ | refine rrow ?_ | skip)) <;> (try first | omega | (simp; done) | ((repeat rw [flts_closed _ (by assumption)]); exact vws_closed _ (by assumption))))), by omega, by omega⟩
    · have h2 : ¬ k < 4 := by have := of_decide_eq_false h2; omega
      obtain rfl : k = 4 := by omega
      conv => whnf
      rw [nat_wrap (by omega)]
      exact ⟨i + 1, none, (by refine ⟨rfl, rfl, ?_, ?_⟩ <;> ((repeat' (first | exact trivial | exact rfl | refine And.intro ?_ ?_)) <;> (try ((conv => whnf); first | refine vint ?_ | refine vboo ?_ | refine rint ?_ | refine rrow ?_ | skip)) <;> (try first | omega | (simp; done) | ((repeat rw [flts_closed _ (by assumption)]); exact vws_closed _ (by assumption))))), by omega, by omega⟩
  · have h := ltF h
    obtain rfl : i = m.length := by omega
    conv => whnf
    exact ⟨rfl, rfl⟩
theorem l2Agree_spec (r : List Int) (hr : r.length = 4) : FSpec Try.prog 143 [.t (.ints .i64 r)] (ex (.c (.int .i64 (agr r))) []) := by
  refine fspec tyOk mx Try.func143 rfl (by kernel_rfl) rfl ?_
  conv => whnf
  refine ADraw.std tyOk mx ⟨by kernel_rfl, 0, rfl, by omega, 1, rfl, by omega, 2, rfl, by omega, 3, rfl, by omega, ?_⟩
  conv => whnf
  exact ⟨rfl, rfl⟩
theorem agreement_spec (r : List Int) (hr : r.length = 4) : FSpec Try.prog 144 [.t (.ints .i64 r)] (ex (.c (.int .i64 (agr r))) []) := by
  refine fspec tyOk mx Try.func144 rfl (by kernel_rfl) rfl ?_
  conv => whnf
  refine ADraw.std tyOk mx ⟨by kernel_rfl, 0, rfl, by omega, 1, rfl, by omega, 2, rfl, by omega, 3, rfl, by omega, ?_⟩
  conv => whnf
  exact ⟨rfl, rfl⟩
end Go.Proofs.Ytgefdbihdliolaa
