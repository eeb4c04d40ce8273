/- IsNeverNegative, reference and program. -/
import Derived.Test.YtgobkndgaphacaaDet3
import Derived.Test.YtgobkndgaphacaaSpr2
namespace Go.Proofs.Ytgobkndgaphacaa
open Go.Aw
set_option maxRecDepth 100000
set_option maxHeartbeats 4000000

def sqRow (a : List (List Int)) (r : List Int) : Bool := rowIn r (-99) 99 && decide (r.length = a.length)
def nnOk (a : List (List Int)) : Bool := inR a.length 1 6 && a.all (sqRow a) && symm a
def nnIs (a : List (List Int)) : Bool := nnOk a && neverA a
theorem inR6 {n : Nat} (h : inR n 1 6 = true) : 1 ≤ n ∧ n ≤ 6 := by
  simp only [inR, decide_eq_true_eq] at h; omega
theorem sq_of {a : List (List Int)} (h : inR a.length 1 6 = true) (h2 : a.all (sqRow a) = true) : Sq a ∧ a.length ≤ 6 := by
  have h1 := inR6 h
  simp only [sqRow, List.all_eq_true, Bool.and_eq_true, decide_eq_true_eq] at h2
  exact ⟨⟨by omega, fun r hr => (h2 r hr).2⟩, by omega⟩

theorem IsNeverNegative_s (a : List (List Int)) (_ha : OkM a) (ka : SzM a) : FSpec Try.prog 15 [.t (.rows a)] (ex (.tu [.c (.bool (nnIs a)), .c (.bool (nnOk a))]) []) := by
  obtain ⟨k1, k2, k3⟩ := ka.all
  have bad : nnOk a = false → nnIs a = false := fun h => by rw [nnIs, h]; rfl
  refine fspec tyOk mx Try.func15 rfl (by kernel_rfl) rfl ?_
  conv => whnf
  refine ACall.use (l1In_spec _ _ _) ?_
  conv => whnf
  refine ⟨fun h => ?_, fun h => ?_⟩
  · have h : inR a.length 1 6 = false := by simpa using h
    have e : nnOk a = false := by rw [nnOk, h]; rfl
    conv => whnf
    exact ⟨by rw [bad e, e], rfl⟩
  · have h0 : inR a.length 1 6 = true := by simpa using h
    clear h
    have hr := inR6 h0
    conv => whnf
    refine aloopI tyOk mx (fun i : Nat => (⟨53, [(0, .t (.rows a)), (4, .c (.int .i64 (i)))], [], 0⟩ : St)) (fun i => i ≤ a.length ∧ (a.take i).all (sqRow a) = true) (fun i => a.length - i) 0 ⟨Nat.zero_le _, rfl⟩ none (by refine ⟨rfl, rfl, ?_, ?_⟩ <;> ((repeat' (first | exact trivial | exact rfl | refine And.intro ?_ ?_)) <;> (try ((conv => whnf); first | refine vint ?_ | refine vboo ?_ | refine rint ?_ | refine rrow ?_ | skip)) <;> (try first | omega | (simp; done) | ((repeat rw [flts_closed _ (by assumption)]); exact vws_closed _ (by assumption))))) (fun i hi => ?_)
    obtain ⟨hi, hp⟩ := hi
    refine ⟨fun h => ?_, fun h => ?_⟩
    · have h : i < a.length := by have := ltT h; omega
      have hri := k2 _ (getD_mem (d := []) h)
      conv => whnf
      refine ⟨i, rfl, h, ?_⟩
      conv => whnf
      refine ACall.use (l5Row_spec (a.getD i []) _ 99 (by omega) (by omega) (by omega)) ?_
      conv => whnf
      refine ⟨fun h2 => ?_, fun h2 => ?_⟩
      · have h2 : sqRow a (a.getD i []) = false := by
          have h2 : (rowIn (a.getD i []) (-99) 99 && decide (((a.getD i []).length : Int) = (a.length : Int))) = false := by simpa only [Bool.not_eq_true'] using h2
          simp only [Int.natCast_inj] at h2
          exact h2
        have e : nnOk a = false := by rw [nnOk, all_false (d := []) h h2, Bool.and_false, Bool.false_and]
        conv => whnf
        exact ⟨by rw [bad e, e], rfl⟩
      · have h2 : sqRow a (a.getD i []) = true := by
          have h2 : (rowIn (a.getD i []) (-99) 99 && decide (((a.getD i []).length : Int) = (a.length : Int))) = true := by simpa only [Bool.not_eq_false'] using h2
          simp only [Int.natCast_inj] at h2
          exact h2
        conv => whnf
        rw [nat_wrap (by omega)]
        exact ⟨i + 1, none, (by refine ⟨rfl, rfl, ?_, ?_⟩ <;> ((repeat' (first | exact trivial | exact rfl | refine And.intro ?_ ?_)) <;> (try ((conv => whnf); first | refine vint ?_ | refine vboo ?_ | refine rint ?_ | refine rrow ?_ | skip)) <;> (try first | omega | (simp; done) | ((repeat rw [flts_closed _ (by assumption)]); exact vws_closed _ (by assumption))))), ⟨by omega, all_take_succ (d := []) h hp h2⟩, by omega⟩
    · have h : ¬ i < a.length := by have := ltF h; omega
      have hall := all_end h hp
      obtain ⟨hsq, hn⟩ := sq_of h0 hall
      have hlen : ∀ i : Nat, i < a.length → (a.getD i []).length = a.length := fun i h => hsq.2 _ (getD_mem (d := []) h)
      conv => whnf
      refine aloopI tyOk mx (fun i : Nat => (⟨53, [(0, .t (.rows a)), (5, .c (.int .i64 (i)))], [], 0⟩ : St)) (fun i => i ≤ a.length ∧ (List.range i).all (fun i => (List.range i).all (symm1 a i)) = true) (fun i => a.length - i) 0 ⟨Nat.zero_le _, rfl⟩ none (by refine ⟨rfl, rfl, ?_, ?_⟩ <;> ((repeat' (first | exact trivial | exact rfl | refine And.intro ?_ ?_)) <;> (try ((conv => whnf); first | refine vint ?_ | refine vboo ?_ | refine rint ?_ | refine rrow ?_ | skip)) <;> (try first | omega | (simp; done) | ((repeat rw [flts_closed _ (by assumption)]); exact vws_closed _ (by assumption))))) (fun i hi => ?_)
      obtain ⟨hi, hp⟩ := hi
      refine ⟨fun h => ?_, fun h => ?_⟩
      · have h : i < a.length := by have := ltT h; omega
        conv => whnf
        refine aloopI tyOk mx (fun k : Nat => (⟨53, [(0, .t (.rows a)), (5, .c (.int .i64 (i))), (6, .c (.int .i64 (k)))], [], 0⟩ : St)) (fun k => k ≤ i ∧ (List.range k).all (symm1 a i) = true) (fun k => i - k) 0 ⟨Nat.zero_le _, rfl⟩ none (by refine ⟨rfl, rfl, ?_, ?_⟩ <;> ((repeat' (first | exact trivial | exact rfl | refine And.intro ?_ ?_)) <;> (try ((conv => whnf); first | refine vint ?_ | refine vboo ?_ | refine rint ?_ | refine rrow ?_ | skip)) <;> (try first | omega | (simp; done) | ((repeat rw [flts_closed _ (by assumption)]); exact vws_closed _ (by assumption))))) (fun k hk => ?_)
        obtain ⟨hk, hq⟩ := hk
        refine ⟨fun h2 => ?_, fun h2 => ?_⟩
        · have h2 : k < i := by have := ltT h2; omega
          have l1 := hlen i h
          have l2 := hlen k (by omega)
          conv => whnf
          refine ADraw.std tyOk mx ⟨by kernel_rfl, i, rfl, h, k, rfl, by omega, k, rfl, by omega, i, rfl, by omega, ?_⟩
          conv => whnf
          refine ⟨fun h3 => ?_, fun h3 => ?_⟩
          · have h3 : symm1 a i k = false := by
              have h3 : ¬ ent a i k = ent a k i := by simpa [ent] using h3
              exact decide_eq_false h3
            have e : nnOk a = false := by rw [nnOk, symm, rall_false h (rall_false h2 h3), Bool.and_false]
            conv => whnf
            exact ⟨by rw [bad e, e], rfl⟩
          · have h3 : symm1 a i k = true := by
              have h3 : ent a i k = ent a k i := by simpa [ent] using h3
              exact decide_eq_true h3
            conv => whnf
            rw [nat_wrap (by omega)]
            exact ⟨k + 1, none, (by refine ⟨rfl, rfl, ?_, ?_⟩ <;> ((repeat' (first | exact trivial | exact rfl | refine And.intro ?_ ?_)) <;> (try ((conv => whnf); first | refine vint ?_ | refine vboo ?_ | refine rint ?_ | refine rrow ?_ | skip)) <;> (try first | omega | (simp; done) | ((repeat rw [flts_closed _ (by assumption)]); exact vws_closed _ (by assumption))))), ⟨by omega, rall_succ hq h3⟩, by omega⟩
        · have h2 : ¬ k < i := by have := ltF h2; omega
          obtain rfl : k = i := by omega
          conv => whnf
          rw [nat_wrap (by omega)]
          exact ⟨k + 1, none, (by refine ⟨rfl, rfl, ?_, ?_⟩ <;> ((repeat' (first | exact trivial | exact rfl | refine And.intro ?_ ?_)) <;> (try ((conv => whnf); first | refine vint ?_ | refine vboo ?_ | refine rint ?_ | refine rrow ?_ | skip)) <;> (try first | omega | (simp; done) | ((repeat rw [flts_closed _ (by assumption)]); exact vws_closed _ (by assumption))))), ⟨by omega, rall_succ hp hq⟩, by omega⟩
      · have h : ¬ i < a.length := by have := ltF h; omega
        obtain rfl : i = a.length := by omega
        have e : nnOk a = true := by rw [nnOk, h0, hall, symm, hp]; rfl
        conv => whnf
        refine ACall.use (l5Never_spec a hsq hn) ?_
        conv => whnf
        exact ⟨by rw [nnIs, e, Bool.true_and], rfl⟩

theorem IsNeverNegative_i (a : List (List Int)) (_ha : OkM a) (ka : SzM a) : FSpec Try.prog 16 [.t (.rows a)] (ex (.tu [.c (.bool (nnIs a)), .c (.bool (nnOk a))]) []) := by
  obtain ⟨k1, k2, k3⟩ := ka.all
  have bad : nnOk a = false → nnIs a = false := fun h => by rw [nnIs, h]; rfl
  refine fspec tyOk mx Try.func16 rfl (by kernel_rfl) rfl ?_
  conv => whnf
  refine ACall.use (within_spec _ _ _) ?_
  conv => whnf
  refine ⟨fun h => ?_, fun h => ?_⟩
  · have h : inR a.length 1 6 = false := by simpa using h
    have e : nnOk a = false := by rw [nnOk, h]; rfl
    conv => whnf
    exact ⟨by rw [bad e, e], rfl⟩
  · have h0 : inR a.length 1 6 = true := by simpa using h
    clear h
    have hr := inR6 h0
    conv => whnf
    refine aloopI tyOk mx (fun i : Nat => (⟨59, [(0, .t (.rows a)), (4, .c (.int .i64 (a.length))), (16, .t (.rows a)), (17, .c (.int .i64 (a.length))), (18, .c (.int .i64 (i)))], [], 0⟩ : St)) (fun i => i ≤ a.length ∧ (a.take i).all (sqRow a) = true) (fun i => a.length - i) 0 ⟨Nat.zero_le _, rfl⟩ none (by refine ⟨rfl, rfl, ?_, ?_⟩ <;> ((repeat' (first | exact trivial | exact rfl | refine And.intro ?_ ?_)) <;> (try ((conv => whnf); first | refine vint ?_ | refine vboo ?_ | refine rint ?_ | refine rrow ?_ | skip)) <;> (try first | omega | (simp; done) | ((repeat rw [flts_closed _ (by assumption)]); exact vws_closed _ (by assumption))))) (fun i hi => ?_)
    obtain ⟨hi, hp⟩ := hi
    refine ⟨fun h => ?_, fun h => ?_⟩
    · have h : i < a.length := by have := ltT h; omega
      have hri := k2 _ (getD_mem (d := []) h)
      conv => whnf
      refine ⟨i, rfl, h, ?_⟩
      conv => whnf
      refine ⟨fun h2 => ?_, fun h2 => ?_⟩
      · have h2 : (a.getD i []).length = a.length := neF h2
        conv => whnf
        refine ACall.use (allWithin_spec (a.getD i []) _ _ (by omega)) ?_
        conv => whnf
        refine ⟨fun h3 => ?_, fun h3 => ?_⟩
        · have h3 : rowIn (a.getD i []) (-99) 99 = false := by simpa using h3
          have e : nnOk a = false := by rw [nnOk, all_false (d := []) h (by rw [sqRow, h3, Bool.false_and]), Bool.and_false, Bool.false_and]
          conv => whnf
          exact ⟨by rw [bad e, e], rfl⟩
        · have h3 : rowIn (a.getD i []) (-99) 99 = true := by simpa using h3
          conv => whnf
          rw [nat_wrap (by omega)]
          exact ⟨i + 1, none, (by refine ⟨rfl, rfl, ?_, ?_⟩ <;> ((repeat' (first | exact trivial | exact rfl | refine And.intro ?_ ?_)) <;> (try ((conv => whnf); first | refine vint ?_ | refine vboo ?_ | refine rint ?_ | refine rrow ?_ | skip)) <;> (try first | omega | (simp; done) | ((repeat rw [flts_closed _ (by assumption)]); exact vws_closed _ (by assumption))))), ⟨by omega, all_take_succ (d := []) h hp (by rw [sqRow, h3, decide_eq_true h2]; rfl)⟩, by omega⟩
      · have h2 : ¬ (a.getD i []).length = a.length := neT h2
        have e : nnOk a = false := by rw [nnOk, all_false (d := []) h (by rw [sqRow, decide_eq_false h2, Bool.and_false]), Bool.and_false, Bool.false_and]
        conv => whnf
        (repeat (conv => whnf); (first | refine ⟨fun h => absurd h (by decide), fun _ => ?_⟩ | refine ⟨fun _ => ?_, fun h => absurd h (by decide)⟩)); conv => whnf
        exact ⟨by rw [bad e, e], rfl⟩
    · have h : ¬ i < a.length := by have := ltF h; omega
      have hall := all_end h hp
      obtain ⟨hsq, hn⟩ := sq_of h0 hall
      have hlen : ∀ i : Nat, i < a.length → (a.getD i []).length = a.length := fun i h => hsq.2 _ (getD_mem (d := []) h)
      conv => whnf
      refine aloopI tyOk mx (fun i : Nat => (⟨59, [(0, .t (.rows a)), (32, .t (.rows a)), (33, .c (.int .i64 (a.length))), (34, .c (.int .i64 (i)))], [], 0⟩ : St)) (fun i => i ≤ a.length ∧ (List.range i).all (fun i => (List.range a.length).all (symm1 a i)) = true) (fun i => a.length - i) 0 ⟨Nat.zero_le _, rfl⟩ none (by refine ⟨rfl, rfl, ?_, ?_⟩ <;> ((repeat' (first | exact trivial | exact rfl | refine And.intro ?_ ?_)) <;> (try ((conv => whnf); first | refine vint ?_ | refine vboo ?_ | refine rint ?_ | refine rrow ?_ | skip)) <;> (try first | omega | (simp; done) | ((repeat rw [flts_closed _ (by assumption)]); exact vws_closed _ (by assumption))))) (fun i hi => ?_)
      obtain ⟨hi, hp⟩ := hi
      refine ⟨fun h => ?_, fun h => ?_⟩
      · have h : i < a.length := by have := ltT h; omega
        have l1 := hlen i h
        conv => whnf
        refine ⟨i, rfl, h, ?_⟩
        conv => whnf
        refine aloopI tyOk mx (fun k : Nat => (⟨59, [(0, .t (.rows a)), (7, .c (.int .i64 (i))), (32, .t (.rows a)), (33, .c (.int .i64 (a.length))), (34, .c (.int .i64 (i))), (39, .t (.ints .i64 (a.getD i []))), (40, .c (.int .i64 ((a.getD i []).length))), (41, .c (.int .i64 (k)))], [], 0⟩ : St)) (fun k => k ≤ a.length ∧ (List.range k).all (symm1 a i) = true) (fun k => a.length - k) 0 ⟨Nat.zero_le _, rfl⟩ none (by refine ⟨rfl, rfl, ?_, ?_⟩ <;> ((repeat' (first | exact trivial | exact rfl | refine And.intro ?_ ?_)) <;> (try ((conv => whnf); first | refine vint ?_ | refine vboo ?_ | refine rint ?_ | refine rrow ?_ | skip)) <;> (try first | omega | (simp; done) | ((repeat rw [flts_closed _ (by assumption)]); exact vws_closed _ (by assumption))))) (fun k hk => ?_)
        obtain ⟨hk, hq⟩ := hk
        refine ⟨fun h2 => ?_, fun h2 => ?_⟩
        · have h2 : k < a.length := by have := ltT h2; omega
          have l2 := hlen k (by omega)
          conv => whnf
          refine ⟨k, rfl, by omega, ?_⟩
          conv => whnf
          refine ⟨k, rfl, by omega, ?_⟩
          conv => whnf
          refine ⟨i, rfl, by omega, ?_⟩
          conv => whnf
          refine ⟨fun h3 => ?_, fun h3 => ?_⟩
          · have h3 : symm1 a i k = false := by
              have h3 : ¬ ent a i k = ent a k i := by simpa [ent] using h3
              exact decide_eq_false h3
            have e : nnOk a = false := by rw [nnOk, ← symm_eq, symm2, rall_false h (rall_false h2 h3), Bool.and_false]
            conv => whnf
            exact ⟨by rw [bad e, e], rfl⟩
          · have h3 : symm1 a i k = true := by
              have h3 : ent a i k = ent a k i := by simpa [ent] using h3
              exact decide_eq_true h3
            conv => whnf
            rw [nat_wrap (by omega)]
            exact ⟨k + 1, none, (by refine ⟨rfl, rfl, ?_, ?_⟩ <;> ((repeat' (first | exact trivial | exact rfl | refine And.intro ?_ ?_)) <;> (try ((conv => whnf); first | refine vint ?_ | refine vboo ?_ | refine rint ?_ | refine rrow ?_ | skip)) <;> (try first | omega | (simp; done) | ((repeat rw [flts_closed _ (by assumption)]); exact vws_closed _ (by assumption))))), ⟨by omega, rall_succ hq h3⟩, by omega⟩
        · have h2 : ¬ k < a.length := by have := ltF h2; omega
          obtain rfl : k = a.length := by omega
          conv => whnf
          rw [nat_wrap (by omega)]
          exact ⟨i + 1, none, (by refine ⟨rfl, rfl, ?_, ?_⟩ <;> ((repeat' (first | exact trivial | exact rfl | refine And.intro ?_ ?_)) <;> (try ((conv => whnf); first | refine vint ?_ | refine vboo ?_ | refine rint ?_ | refine rrow ?_ | skip)) <;> (try first | omega | (simp; done) | ((repeat rw [flts_closed _ (by assumption)]); exact vws_closed _ (by assumption))))), ⟨by omega, rall_succ hp hq⟩, by omega⟩
      · have h : ¬ i < a.length := by have := ltF h; omega
        obtain rfl : i = a.length := by omega
        have e : nnOk a = true := by rw [nnOk, h0, hall, ← symm_eq, symm2, hp]; rfl
        conv => whnf
        refine ACall.use (neverNegative_spec a hsq hn) ?_
        conv => whnf
        exact ⟨by rw [nnIs, e, Bool.true_and], rfl⟩
end Go.Proofs.Ytgobkndgaphacaa
