/- Determinants: the program's expansion by a closure that captures itself. -/
import Derived.Test.YtgobkndgaphacaaDet1
namespace Go.Aw
def cloneP (l : List Int) (e : Nat) (x : AVal) (h : List (Nat × ARow)) : Prop := (l = [] ∧ x = .c (.slice none 0 0) ∧ h = []) ∨ (x = .own 0 ∧ h = [(0, .ints e .i64 l)])
end Go.Aw
namespace Go.Proofs.Ytgobkndgaphacaa
open Go.Aw
set_option maxRecDepth 100000
set_option maxHeartbeats 4000000

theorem clone_spec (l : List Int) (hl : l.length ≤ 1048576) : FSpec Try.prog 48 [.t (.ints .i64 l)] (ex (.own 0) [(0, .ints 3 .i64 l)]) := by
  have h : FSpec Try.prog 48 [.t (.ints .i64 l)] (cloneP l 3) := by
    refine fspec tyOk mx Try.func48 rfl (by kernel_rfl) rfl ?_
    conv => whnf
    intro b hb
    conv => whnf
    refine ⟨fun h => ?_, fun h => ?_⟩
    · conv => whnf
      exact .inl ⟨hb h, rfl, rfl⟩
    · conv => whnf
      refine ⟨by simp [room]; omega, ?_⟩
      conv => whnf
      exact .inr ⟨rfl, rfl⟩
  refine h.view (fun x hr e => ?_)
  rcases e with ⟨rfl, rfl, rfl⟩ | ⟨rfl, rfl⟩
  · exact ⟨[(0, .nil)], .own 0, [(0, .ints 3 .i64 [])], rfl, ⟨rfl, trivial, trivial⟩, ⟨rfl, rfl, rfl⟩, rfl, rfl⟩
  · exact ⟨[(0, .row 0)], .own 0, [(0, .ints 3 .i64 l)], rfl, ⟨rfl, rfl, trivial⟩, ⟨rfl, rfl⟩, rfl, rfl⟩

theorem expand_spec (a : List (List Int)) (set : List Int) (ha : Sq a) (hs : Pl a.length set) : ∀ (n i : Nat) (cols : List Int), i + n = set.length → Pl a.length cols →
    FSpec Try.prog 47 [.c (.int .i64 (i)), .t (.ints .i64 cols), .rp [.t (.ints .i64 set)] 0, .rp [.t (.rows a)] 0, .knot 47 [.rp [.t (.ints .i64 set)] 0, .rp [.t (.rows a)] 0] 2] (ex (.c (.int .i64 (detL a (set.drop i) cols))) []) := by
  have hs1 := hs.1
  have ha1 := ha.1
  intro n
  induction n with
  | zero =>
    intro i cols hi _
    obtain rfl : i = set.length := by omega
    refine fspec tyOk mx Try.func47 rfl (by kernel_rfl) rfl ?_
    conv => whnf
    refine ⟨fun h => ?_, fun h => ?_⟩
    · conv => whnf
      refine ⟨?_, rfl⟩
      rw [List.drop_length]; rfl
    · simp at h
  | succ n ih =>
    intro i cols hi hc
    have hi2 : i < set.length := by omega
    have hc1 := hc.1
    have hr0 := hs.2 _ (getD_mem (d := 0) hi2)
    have hrl := ha.2 _ (getD_mem (d := []) (k := (set.getD i 0).toNat) (show (set.getD i 0).toNat < a.length by omega))
    have edrop : set.drop i = set.getD i 0 :: set.drop (i + 1) := by rw [List.drop_eq_getElem_cons hi2, getD_lt hi2]
    refine fspec tyOk mx Try.func47 rfl (by kernel_rfl) rfl ?_
    conv => whnf
    refine ⟨fun h => ?_, fun h => ?_⟩
    · have h : (i : Int) = (set.length : Int) := by simpa using h
      omega
    · conv => whnf
      refine aloopI tyOk mx (fun j : Nat => (⟨68, [(0, .c (.int .i64 (i))), (1, .t (.ints .i64 cols)), (2, .rp [.t (.ints .i64 set)] 0), (3, .rp [.t (.rows a)] 0), (4, .knot 47 [.rp [.t (.ints .i64 set)] 0, .rp [.t (.rows a)] 0] 2), (8, .c (.int .i64 (detF (fun j => entry a (set.getD i 0) (cols.getD j 0)) (fun j => detL a (set.drop (i + 1)) (cols.take j ++ cols.drop (j + 1))) j))), (9, .c (.int .i64 (sgn j))), (17, .t (.ints .i64 cols)), (18, .c (.int .i64 (cols.length))), (19, .c (.int .i64 (j)))], [], 0⟩ : St)) (fun j => j ≤ cols.length) (fun j => cols.length - j) 0 (Nat.zero_le _) none (by refine ⟨rfl, rfl, ?_, ?_⟩ <;> ((repeat' (first | exact trivial | exact rfl | refine And.intro ?_ ?_)) <;> (try ((conv => whnf); first | refine vint ?_ | refine vboo ?_ | refine rint ?_ | refine rrow ?_ | skip)) <;> (try first | omega | (simp; done) | ((repeat rw [flts_closed _ (by assumption)]); exact vws_closed _ (by assumption))))) (fun j hj => ?_)
      refine ⟨fun h2 => ?_, fun h2 => ?_⟩
      · have h2 : j < cols.length := by have := ltT h2; omega
        have hci := hc.2 _ (getD_mem (d := 0) h2)
        conv => whnf
        refine ⟨j, rfl, h2, ?_⟩
        conv => whnf
        refine ADraw.std tyOk mx ⟨by kernel_rfl, i, rfl, hi2, (set.getD i 0).toNat, by omega, by omega, (cols.getD j 0).toNat, by omega, by omega, ?_⟩
        conv => whnf
        refine ⟨fun h3 => ?_, fun h3 => ?_⟩
        · have h3 : entry a (set.getD i 0) (cols.getD j 0) ≠ 0 := by simpa [entry] using h3
          conv => whnf
          refine ADraw.plan tyOk mx (.q 0 (.q 1 (.q 2 (.q 4 (.q 5 (.q 6 (.q 7 (.last 3 (.last 8 (.q 9 (.done)))))))))) : Plan) (by kernel_rfl) ?_
          conv => whnf
          have hlt : (cols.take j).length = j := by rw [List.length_take]; omega
          have hld : (cols.drop (j + 1)).length = cols.length - (j + 1) := List.length_drop
          repeat' (first | (refine ⟨j, rfl, by omega, ?_⟩; conv => whnf) | (refine ⟨j + 1, nat_wrap (by omega), by omega, ?_⟩; conv => whnf) | (refine ACall.useR (clone_spec _ (by omega)) ?_; conv => whnf) | (refine ⟨by simp only [room]; omega, ?_⟩; conv => whnf) | (refine And.intro ?_ ?_ <;> (conv => whnf)))
          all_goals
            refine ADraw.std tyOk mx ⟨by kernel_rfl, i, rfl, hi2, (set.getD i 0).toNat, by omega, by omega, (cols.getD j 0).toNat, by omega, by omega, ?_⟩
            conv => whnf
            rw [nat_wrap (by omega)]
            refine QCall.use (ih (i + 1) _ (by omega) (hc.cut j)) ?_
            conv => whnf
            rw [nat_wrap (by omega)]
            refine ⟨j + 1, none, ?_, by omega, by omega⟩
            (refine ⟨rfl, rfl, ?_, ?_⟩ <;> ((repeat' (first | exact trivial | exact rfl | refine And.intro ?_ ?_)) <;> (try ((conv => whnf); first | refine vint ?_ | refine vboo ?_ | refine rint ?_ | refine rrow ?_ | skip)) <;> (try first | omega | (simp; done) | ((repeat rw [flts_closed _ (by assumption)]); exact vws_closed _ (by assumption)))))
            rw [detF, if_neg h3]; rfl
        · have h3 : entry a (set.getD i 0) (cols.getD j 0) = 0 := by simpa [entry] using h3
          conv => whnf
          rw [nat_wrap (by omega)]
          refine ⟨j + 1, none, ?_, by omega, by omega⟩
          (refine ⟨rfl, rfl, ?_, ?_⟩ <;> ((repeat' (first | exact trivial | exact rfl | refine And.intro ?_ ?_)) <;> (try ((conv => whnf); first | refine vint ?_ | refine vboo ?_ | refine rint ?_ | refine rrow ?_ | skip)) <;> (try first | omega | (simp; done) | ((repeat rw [flts_closed _ (by assumption)]); exact vws_closed _ (by assumption)))))
          rw [detF, if_pos h3]
      · have h2 : ¬ j < cols.length := by have := ltF h2; omega
        obtain rfl : j = cols.length := by omega
        conv => whnf
        refine ⟨?_, rfl⟩
        rw [edrop]; rfl

theorem determinant_spec (a : List (List Int)) (set : List Int) (ha : Sq a) (hs : Pl a.length set) :
    FSpec Try.prog 43 [.t (.rows a), .t (.ints .i64 set)] (ex (.c (.int .i64 (detL a set set))) []) := by
  refine fspec tyOk mx Try.func43 rfl (by kernel_rfl) rfl ?_
  conv => whnf
  refine ⟨fun h => ?_, fun h => ?_⟩
  · have h : set = [] := by
      have h : (set.length : Int) = 0 := by simpa using h
      exact List.eq_nil_of_length_eq_zero (by omega)
    conv => whnf
    subst h
    exact ⟨rfl, rfl⟩
  · conv => whnf
    refine ACall.use (expand_spec a set ha hs set.length 0 set (by omega) hs) ?_
    conv => whnf
    exact ⟨rfl, rfl⟩
end Go.Proofs.Ytgobkndgaphacaa
