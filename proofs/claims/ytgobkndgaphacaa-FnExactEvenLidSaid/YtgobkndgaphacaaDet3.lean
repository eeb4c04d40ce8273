/- Matrices that are never negative: reference and program. -/
import Derived.Test.YtgobkndgaphacaaDet2
import Derived.Test.YtgobkndgaphacaaMark
namespace Go.Aw
def bitB (c i : Nat) : Bool := bits .and .i64 (shr .i64 (c : Int) (i : Int)) 1 == 1
def setN (n c : Nat) : List Int := ((List.range n).filter (bitB c)).map (fun i : Nat => (i : Int))
theorem setN_yes {c k : Nat} (h : bitB c k = true) : setN k c ++ [(k : Int)] = setN (k + 1) c := by simp [setN, List.range_succ, h]
theorem setN_no {c k : Nat} (h : bitB c k = false) : setN k c = setN (k + 1) c := by simp [setN, List.range_succ, h]
theorem setN_len (n c : Nat) : (setN n c).length ≤ n := by
  have := List.length_filter_le (bitB c) (List.range n)
  simpa [setN] using this
theorem setN_pl {n k c : Nat} (hk : k ≤ n) (hn : n ≤ 1000) : Pl n (setN k c) := by
  refine ⟨by have := setN_len k c; omega, fun x hx => ?_⟩
  simp only [setN, List.mem_map, List.mem_filter, List.mem_range] at hx
  obtain ⟨i, ⟨h1, _⟩, rfl⟩ := hx
  omega
theorem setN_zero {n : Nat} (h : n ≤ 6) : setN n 0 = [] := by
  have : n = 0 ∨ n = 1 ∨ n = 2 ∨ n = 3 ∨ n = 4 ∨ n = 5 ∨ n = 6 := by omega
  rcases this with rfl | rfl | rfl | rfl | rfl | rfl | rfl <;> decide +kernel
def codeOk (a : List (List Int)) (c : Nat) : Bool := decide (¬ detL a (setN a.length c) (setN a.length c) < 0)
def neverA (a : List (List Int)) : Bool := (List.range (2 ^ a.length)).all (codeOk a)
theorem codeOk_zero {a : List (List Int)} (h : a.length ≤ 6) : codeOk a 0 = true := by
  rw [codeOk, setN_zero h]; rfl
def ent (a : List (List Int)) (i k : Nat) : Int := (a.getD i []).getD k 0
def symm1 (a : List (List Int)) (i : Nat) : Nat → Bool := fun k => decide (ent a i k = ent a k i)
def symm (a : List (List Int)) : Bool := (List.range a.length).all fun i => (List.range i).all (symm1 a i)
def symm2 (a : List (List Int)) : Bool := (List.range a.length).all fun i => (List.range a.length).all (symm1 a i)
theorem symm_eq (a : List (List Int)) : symm2 a = symm a := by
  rw [Bool.eq_iff_iff]
  simp only [symm, symm2, symm1, List.all_eq_true, List.mem_range, decide_eq_true_eq]
  refine ⟨fun h i hi k hk => h i hi k (by omega), fun h i hi k hk => ?_⟩
  rcases Nat.lt_trichotomy k i with h1 | h1 | h1
  · exact h i hi k h1
  · rw [h1]
  · exact (h k hk i h1).symm
end Go.Aw
namespace Go.Proofs.Ytgobkndgaphacaa
open Go.Aw
set_option maxRecDepth 100000
set_option maxHeartbeats 4000000

theorem l5Never_spec (a : List (List Int)) (ha : Sq a) (hn : a.length ≤ 6) : FSpec Try.prog 35 [.t (.rows a)] (ex (.c (.bool (neverA a))) []) := by
  have h64 : 2 ^ a.length ≤ 64 := by
    have := Nat.pow_le_pow_right (n := 2) (by omega) hn
    simpa using this
  have hpos : 1 ≤ 2 ^ a.length := Nat.one_le_two_pow
  refine fspec tyOk mx Try.func35 rfl (by kernel_rfl) rfl ?_
  conv => whnf
  refine aloopI tyOk mx (fun c : Nat => (⟨34, [(0, .t (.rows a)), (3, .c (.int .i64 (c)))], [], 0⟩ : St)) (fun c => 1 ≤ c ∧ c ≤ 2 ^ a.length ∧ (List.range c).all (codeOk a) = true) (fun c => 2 ^ a.length - c) 1 ⟨Nat.le_refl _, hpos, by simp [codeOk_zero hn]⟩ none (by refine ⟨rfl, rfl, ?_, ?_⟩ <;> ((repeat' (first | exact trivial | exact rfl | refine And.intro ?_ ?_)) <;> (try ((conv => whnf); first | refine vint ?_ | refine vboo ?_ | refine rint ?_ | refine rrow ?_ | skip)) <;> (try first | omega | (simp; done) | ((repeat rw [flts_closed _ (by assumption)]); exact vws_closed _ (by assumption))))) (fun c hc => ?_)
  obtain ⟨hc0, hc, hp⟩ := hc
  refine ⟨by omega, fun h => ?_, fun h => ?_⟩
  · rw [shl_one (by omega)] at h
    have hc1 : c < 2 ^ a.length := Int.ofNat_lt.1 (of_decide_eq_true h)
    conv => whnf
    refine aloopI tyOk mx (fun i : Nat => (⟨34, [(0, .t (.rows a)), (3, .c (.int .i64 (c))), (4, .own 0), (5, .c (.int .i64 (i)))], [(0, .ints 3 .i64 (setN i c))], 1⟩ : St)) (fun i => i ≤ a.length) (fun i => a.length - i) 0 (Nat.zero_le _) none (by refine ⟨rfl, rfl, ?_, ?_⟩ <;> ((repeat' (first | exact trivial | exact rfl | refine And.intro ?_ ?_)) <;> (try ((conv => whnf); first | refine vint ?_ | refine vboo ?_ | refine rint ?_ | refine rrow ?_ | skip)) <;> (try first | omega | (simp; done) | ((repeat rw [flts_closed _ (by assumption)]); exact vws_closed _ (by assumption))))) (fun i hi => ?_)
    have hsl := setN_len i c
    refine ⟨fun h2 => ?_, fun h2 => ?_⟩
    · have h2 : i < a.length := by have := ltT h2; omega
      conv => whnf
      refine ⟨by omega, ?_⟩
      conv => whnf
      refine ⟨fun h3 => ?_, fun h3 => ?_⟩
      · have h3 : bitB c i = true := h3
        conv => whnf
        refine ⟨by simp [room]; omega, ?_⟩
        conv => whnf
        rw [nat_wrap (by omega)]
        refine ⟨i + 1, none, ?_, by omega, by omega⟩
        (refine ⟨rfl, rfl, ?_, ?_⟩ <;> ((repeat' (first | exact trivial | exact rfl | refine And.intro ?_ ?_)) <;> (try ((conv => whnf); first | refine vint ?_ | refine vboo ?_ | refine rint ?_ | refine rrow ?_ | skip)) <;> (try first | omega | (simp; done) | ((repeat rw [flts_closed _ (by assumption)]); exact vws_closed _ (by assumption)))))
        exact setN_yes h3
      · have h3 : bitB c i = false := h3
        conv => whnf
        rw [nat_wrap (by omega)]
        refine ⟨i + 1, none, ?_, by omega, by omega⟩
        (refine ⟨rfl, rfl, ?_, ?_⟩ <;> ((repeat' (first | exact trivial | exact rfl | refine And.intro ?_ ?_)) <;> (try ((conv => whnf); first | refine vint ?_ | refine vboo ?_ | refine rint ?_ | refine rrow ?_ | skip)) <;> (try first | omega | (simp; done) | ((repeat rw [flts_closed _ (by assumption)]); exact vws_closed _ (by assumption)))))
        exact setN_no h3
    · have h2 : ¬ i < a.length := by have := ltF h2; omega
      obtain rfl : i = a.length := by omega
      have hpl := setN_pl (n := a.length) (c := c) (Nat.le_refl _) (by omega)
      conv => whnf
      refine ACall.use (l5Minor_spec a ha _ _ hpl hpl) ?_
      conv => whnf
      refine ⟨fun h3 => ?_, fun h3 => ?_⟩
      · have h3 := of_decide_eq_true h3
        conv => whnf
        refine ⟨?_, rfl⟩
        rw [neverA, rall_false hc1 (by rw [codeOk]; exact decide_eq_false (fun h => h h3))]
      · have h3 := of_decide_eq_false h3
        conv => whnf
        rw [nat_wrap (by omega)]
        refine ⟨c + 1, none, ?_, ⟨by omega, by omega, rall_succ hp (by rw [codeOk]; exact decide_eq_true h3)⟩, by omega⟩
        (refine ⟨rfl, rfl, ?_, ?_⟩ <;> ((repeat' (first | exact trivial | exact rfl | refine And.intro ?_ ?_)) <;> (try ((conv => whnf); first | refine vint ?_ | refine vboo ?_ | refine rint ?_ | refine rrow ?_ | skip)) <;> (try first | omega | (simp; done) | ((repeat rw [flts_closed _ (by assumption)]); exact vws_closed _ (by assumption)))))
  · rw [shl_one (by omega)] at h
    have hc1 : ¬ c < 2 ^ a.length := fun hh => of_decide_eq_false h (Int.ofNat_lt.2 hh)
    obtain rfl : c = 2 ^ a.length := by omega
    conv => whnf
    refine ⟨?_, rfl⟩
    rw [neverA, hp]

theorem neverNegative_spec (a : List (List Int)) (ha : Sq a) (hn : a.length ≤ 6) : FSpec Try.prog 38 [.t (.rows a)] (ex (.c (.bool (neverA a))) []) := by
  have h64 : 2 ^ a.length ≤ 64 := by
    have := Nat.pow_le_pow_right (n := 2) (by omega) hn
    simpa using this
  refine fspec tyOk mx Try.func38 rfl (by kernel_rfl) rfl ?_
  conv => whnf
  refine ⟨by omega, ?_⟩
  rw [shl_one (by omega)]
  conv => whnf
  refine aloopI tyOk mx (fun c : Nat => (⟨33, [(0, .t (.rows a)), (8, .c (.int .i64 ((2 ^ a.length : Nat)))), (9, .c (.int .i64 (c)))], [], 0⟩ : St)) (fun c => c ≤ 2 ^ a.length ∧ (List.range c).all (codeOk a) = true) (fun c => 2 ^ a.length - c) 0 ⟨Nat.zero_le _, rfl⟩ none (by refine ⟨rfl, rfl, ?_, ?_⟩ <;> ((repeat' (first | exact trivial | exact rfl | refine And.intro ?_ ?_)) <;> (try ((conv => whnf); first | refine vint ?_ | refine vboo ?_ | refine rint ?_ | refine rrow ?_ | skip)) <;> (try first | omega | (simp; done) | ((repeat rw [flts_closed _ (by assumption)]); exact vws_closed _ (by assumption))))) (fun c hc => ?_)
  obtain ⟨hc, hp⟩ := hc
  refine ⟨fun h => ?_, fun h => ?_⟩
  · have hc1 : c < 2 ^ a.length := Int.ofNat_lt.1 (of_decide_eq_true h)
    conv => whnf
    refine aloopI tyOk mx (fun i : Nat => (⟨33, [(0, .t (.rows a)), (3, .c (.int .i64 (c))), (4, .own 0), (8, .c (.int .i64 ((2 ^ a.length : Nat)))), (9, .c (.int .i64 (c))), (14, .c (.int .i64 (a.length))), (15, .c (.int .i64 (i)))], [(0, .ints 3 .i64 (setN i c))], 1⟩ : St)) (fun i => i ≤ a.length) (fun i => a.length - i) 0 (Nat.zero_le _) none (by refine ⟨rfl, rfl, ?_, ?_⟩ <;> ((repeat' (first | exact trivial | exact rfl | refine And.intro ?_ ?_)) <;> (try ((conv => whnf); first | refine vint ?_ | refine vboo ?_ | refine rint ?_ | refine rrow ?_ | skip)) <;> (try first | omega | (simp; done) | ((repeat rw [flts_closed _ (by assumption)]); exact vws_closed _ (by assumption))))) (fun i hi => ?_)
    have hsl := setN_len i c
    refine ⟨fun h2 => ?_, fun h2 => ?_⟩
    · have h2 : i < a.length := by have := ltT h2; omega
      conv => whnf
      refine ⟨by omega, ?_⟩
      conv => whnf
      refine ⟨fun h3 => ?_, fun h3 => ?_⟩
      · have h3 : bitB c i = true := h3
        conv => whnf
        refine ⟨by simp [room]; omega, ?_⟩
        conv => whnf
        rw [nat_wrap (by omega)]
        refine ⟨i + 1, none, ?_, by omega, by omega⟩
        (refine ⟨rfl, rfl, ?_, ?_⟩ <;> ((repeat' (first | exact trivial | exact rfl | refine And.intro ?_ ?_)) <;> (try ((conv => whnf); first | refine vint ?_ | refine vboo ?_ | refine rint ?_ | refine rrow ?_ | skip)) <;> (try first | omega | (simp; done) | ((repeat rw [flts_closed _ (by assumption)]); exact vws_closed _ (by assumption)))))
        exact setN_yes h3
      · have h3 : bitB c i = false := h3
        conv => whnf
        rw [nat_wrap (by omega)]
        refine ⟨i + 1, none, ?_, by omega, by omega⟩
        (refine ⟨rfl, rfl, ?_, ?_⟩ <;> ((repeat' (first | exact trivial | exact rfl | refine And.intro ?_ ?_)) <;> (try ((conv => whnf); first | refine vint ?_ | refine vboo ?_ | refine rint ?_ | refine rrow ?_ | skip)) <;> (try first | omega | (simp; done) | ((repeat rw [flts_closed _ (by assumption)]); exact vws_closed _ (by assumption)))))
        exact setN_no h3
    · have h2 : ¬ i < a.length := by have := ltF h2; omega
      obtain rfl : i = a.length := by omega
      have hpl := setN_pl (n := a.length) (c := c) (Nat.le_refl _) (by omega)
      conv => whnf
      refine ACall.use (determinant_spec a _ ha hpl) ?_
      conv => whnf
      refine ⟨fun h3 => ?_, fun h3 => ?_⟩
      · have h3 := of_decide_eq_true h3
        conv => whnf
        refine ⟨?_, rfl⟩
        rw [neverA, rall_false hc1 (by rw [codeOk]; exact decide_eq_false (fun h => h h3))]
      · have h3 := of_decide_eq_false h3
        conv => whnf
        rw [nat_wrap (by omega)]
        refine ⟨c + 1, none, ?_, ⟨by omega, rall_succ hp (by rw [codeOk]; exact decide_eq_true h3)⟩, by omega⟩
        (refine ⟨rfl, rfl, ?_, ?_⟩ <;> ((repeat' (first | exact trivial | exact rfl | refine And.intro ?_ ?_)) <;> (try ((conv => whnf); first | refine vint ?_ | refine vboo ?_ | refine rint ?_ | refine rrow ?_ | skip)) <;> (try first | omega | (simp; done) | ((repeat rw [flts_closed _ (by assumption)]); exact vws_closed _ (by assumption)))))
  · have hc1 : ¬ c < 2 ^ a.length := fun hh => of_decide_eq_false h (Int.ofNat_lt.2 hh)
    obtain rfl : c = 2 ^ a.length := by omega
    conv => whnf
    refine ⟨?_, rfl⟩
    rw [neverA, hp]
end Go.Proofs.Ytgobkndgaphacaa
