/- Determinants: the reference's expansion, row by row. -/
import Derived.Test.YtgobkndgaphacaaSign2
namespace Go.Aw
def sgn : Nat → Int
  | 0 => 1
  | i + 1 => W (0 - sgn i)
def detF (num sub : Nat → Int) : Nat → Int
  | 0 => 0
  | i + 1 => if num i = 0 then detF num sub i else W (detF num sub i + W (W (sgn i * num i) * sub i))
def entry (a : List (List Int)) (r c : Int) : Int := (a.getD r.toNat []).getD c.toNat 0
def detL (a : List (List Int)) : List Int → List Int → Int
  | [], _ => 1
  | r :: rs, cols => detF (fun i => entry a r (cols.getD i 0)) (fun i => detL a rs (cols.take i ++ cols.drop (i + 1))) cols.length
/-- a square matrix -/
def Sq (a : List (List Int)) : Prop := a.length ≤ 1000 ∧ ∀ r, r ∈ a → r.length = a.length
def Pl (n : Nat) (l : List Int) : Prop := l.length ≤ 1000 ∧ ∀ x, x ∈ l → 0 ≤ x ∧ x < n
theorem Pl.tail {n : Nat} {r : Int} {l : List Int} (h : Pl n (r :: l)) : Pl n l := ⟨by have := h.1; simp at this; omega, fun x hx => h.2 x (by simp [hx])⟩
theorem Pl.cut {n : Nat} {l : List Int} (h : Pl n l) (i : Nat) : Pl n (l.take i ++ l.drop (i + 1)) := by
  refine ⟨?_, fun x hx => ?_⟩
  · have := h.1
    rw [List.length_append, List.length_take, List.length_drop]; omega
  · rcases List.mem_append.1 hx with hx | hx
    · exact h.2 x (List.mem_of_mem_take hx)
    · exact h.2 x (List.mem_of_mem_drop hx)
theorem Pl.drop {n : Nat} {l : List Int} (h : Pl n l) (i : Nat) : Pl n (l.drop i) := ⟨by have := h.1; rw [List.length_drop]; omega, fun x hx => h.2 x (List.mem_of_mem_drop hx)⟩
end Go.Aw
namespace Go.Proofs.Ytgobkndgaphacaa
open Go.Aw
set_option maxRecDepth 100000
set_option maxHeartbeats 4000000

theorem l1Own_spec (l : List Int) (hl : l.length ≤ 1048576) : FSpec Try.prog 46 [.t (.ints .i64 l)] (ex (.own 0) [(0, .ints 3 .i64 l)]) := by
  refine fspec tyOk mx Try.func46 rfl (by kernel_rfl) rfl ?_
  conv => whnf
  refine ⟨by simp [room]; omega, ?_⟩
  conv => whnf
  exact ⟨rfl, rfl⟩

theorem l5Minor_spec (a : List (List Int)) (ha : Sq a) : ∀ (rows cols : List Int), Pl a.length rows → Pl a.length cols →
    FSpec Try.prog 42 [.t (.rows a), .t (.ints .i64 rows), .t (.ints .i64 cols)] (ex (.c (.int .i64 (detL a rows cols))) []) := by
  intro rows
  induction rows with
  | nil =>
    intro cols _ _
    refine fspec tyOk mx Try.func42 rfl (by kernel_rfl) rfl ?_
    conv => whnf
    refine ⟨fun h => ?_, fun h => ?_⟩
    · conv => whnf
      exact ⟨rfl, rfl⟩
    · cases h
  | cons r rs ih =>
    intro cols hr hc
    have hr0 := hr.2 r (by simp)
    have hrl := ha.2 _ (getD_mem (d := []) (k := r.toNat) (show r.toNat < a.length by omega))
    have ha1 := ha.1
    have hc1 := hc.1
    have hc2 := hc.2
    have hr1 := hr.1
    simp only [List.length_cons] at hr1
    refine fspec tyOk mx Try.func42 rfl (by kernel_rfl) rfl ?_
    conv => whnf
    refine ⟨fun h => ?_, fun h => ?_⟩
    · have := of_decide_eq_true (p := (((r :: rs).length : Int) = 0)) (by simpa using h)
      simp at this
      omega
    · conv => whnf
      refine aloopI tyOk mx (fun i : Nat => (⟨58, [(0, .t (.rows a)), (1, .t (.ints .i64 (r :: rs))), (2, .t (.ints .i64 cols)), (7, .c (.int .i64 (detF (fun i => entry a r (cols.getD i 0)) (fun i => detL a rs (cols.take i ++ cols.drop (i + 1))) i))), (8, .c (.int .i64 (sgn i))), (9, .c (.int .i64 (i)))], [], 0⟩ : St)) (fun i => i ≤ cols.length) (fun i => cols.length - i) 0 (Nat.zero_le _) none (by refine ⟨rfl, rfl, ?_, ?_⟩ <;> ((repeat' (first | exact trivial | exact rfl | refine And.intro ?_ ?_)) <;> (try ((conv => whnf); first | refine vint ?_ | refine vboo ?_ | refine rint ?_ | refine rrow ?_ | skip)) <;> (try first | omega | (simp; done) | ((repeat rw [flts_closed _ (by assumption)]); exact vws_closed _ (by assumption))))) (fun i hi => ?_)
      refine ⟨fun h2 => ?_, fun h2 => ?_⟩
      · have h2 : i < cols.length := by have := ltT h2; omega
        have hci := hc2 _ (getD_mem (d := 0) h2)
        conv => whnf
        refine ADraw.std tyOk mx ⟨by kernel_rfl, 0, rfl, by simp, r.toNat, by show r = _; omega, by omega, i, rfl, h2, (cols.getD i 0).toNat, by omega, by omega, ?_⟩
        conv => whnf
        refine ⟨fun h3 => ?_, fun h3 => ?_⟩
        · have h3 : entry a r (cols.getD i 0) ≠ 0 := by simpa [entry] using h3
          conv => whnf
          refine ADraw.plan tyOk mx (.q 0 (.q 1 (.q 2 (.q 4 (.q 5 (.q 6 (.q 7 (.last 3 (.last 8 (.q 9 (.done)))))))))) : Plan) (by kernel_rfl) ?_
          conv => whnf
          have hlt : (cols.take i).length = i := by rw [List.length_take]; omega
          have hld : (cols.drop (i + 1)).length = cols.length - (i + 1) := List.length_drop
          repeat' (first | (refine ⟨i, rfl, by omega, ?_⟩; conv => whnf) | (refine ⟨i + 1, nat_wrap (by omega), by omega, ?_⟩; conv => whnf) | (refine ACall.useR (l1Own_spec _ (by omega)) ?_; conv => whnf) | (refine ⟨by simp only [room]; omega, ?_⟩; conv => whnf) | (refine And.intro ?_ ?_ <;> (conv => whnf)))
          all_goals
            refine ⟨1, rfl, by simp, ?_⟩
            conv => whnf
            refine ACall.use (ih _ hr.tail (hc.cut i)) ?_
            conv => whnf
            rw [nat_wrap (by omega)]
            refine ⟨i + 1, none, ?_, by omega, by omega⟩
            (refine ⟨rfl, rfl, ?_, ?_⟩ <;> ((repeat' (first | exact trivial | exact rfl | refine And.intro ?_ ?_)) <;> (try ((conv => whnf); first | refine vint ?_ | refine vboo ?_ | refine rint ?_ | refine rrow ?_ | skip)) <;> (try first | omega | (simp; done) | ((repeat rw [flts_closed _ (by assumption)]); exact vws_closed _ (by assumption)))))
            rw [detF, if_neg h3]; rfl
        · have h3 : entry a r (cols.getD i 0) = 0 := by simpa [entry] using h3
          conv => whnf
          rw [nat_wrap (by omega)]
          refine ⟨i + 1, none, ?_, by omega, by omega⟩
          (refine ⟨rfl, rfl, ?_, ?_⟩ <;> ((repeat' (first | exact trivial | exact rfl | refine And.intro ?_ ?_)) <;> (try ((conv => whnf); first | refine vint ?_ | refine vboo ?_ | refine rint ?_ | refine rrow ?_ | skip)) <;> (try first | omega | (simp; done) | ((repeat rw [flts_closed _ (by assumption)]); exact vws_closed _ (by assumption)))))
          rw [detF, if_pos h3]
      · have h2 : ¬ i < cols.length := by have := ltF h2; omega
        obtain rfl : i = cols.length := by omega
        conv => whnf
        exact ⟨rfl, rfl⟩
end Go.Proofs.Ytgobkndgaphacaa
