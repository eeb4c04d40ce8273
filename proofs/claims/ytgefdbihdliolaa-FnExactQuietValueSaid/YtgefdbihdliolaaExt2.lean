/- Extreme boxes, in order: reference and program. -/
import Derived.Test.YtgefdbihdliolaaExt1
namespace Go.Proofs.Ytgefdbihdliolaa
open Go.Aw
set_option maxRecDepth 100000
set_option maxHeartbeats 4000000

def exRow (i : Nat) : List (List Int) := if i < 16 then pbM ((playsL 4).getD i []) 2 else equalM ((i : Int) - 16)
def exL (n : Nat) : List (List Int × List (List Int)) := (List.range n).map fun i => ([2, 2, 2], exRow i)
theorem exL_len (n : Nat) : (exL n).length = n := by simp [exL]
theorem exL_get {n i : Nat} (h : i < n) : (exL n).getD i ([], []) = ([2, 2, 2], exRow i) := range_getD h
theorem exL_succ (n : Nat) : exL n ++ [([2, 2, 2], exRow n)] = exL (n + 1) := map_range_succ _ n
theorem exRow_len (i : Nat) : (exRow i).length = 4 := by
  unfold exRow
  split
  · exact boxRows_len _ 2 2
  · exact boxRows_len _ 2 2
theorem exRow_rows (i : Nat) : ∀ r, r ∈ exRow i → r.length = 4 := by
  have key : ∀ f : Nat → Nat → Nat → Nat → Int, ∀ q, q ∈ boxRows f 2 2 → q.length = 4 := fun f q hq => by
    obtain ⟨i, _, hq⟩ := List.mem_flatMap.1 hq
    obtain ⟨j, _, rfl⟩ := List.mem_map.1 hq
    simp [boxRow]
  unfold exRow
  split
  · exact key _
  · exact key _
theorem play4 {i : Nat} (h : i < 16) : ((playsL 4).getD i []).length = 4 ∧ ∀ v, v ∈ (playsL 4).getD i [] → 0 ≤ v ∧ v ≤ 1 := playsL_row (by omega) (by rw [playsL_len]; simpa using h)

theorem extreme_spec (i : Nat) (hi : i < 24) : FSpec Try.prog 75 [.c (.int .i64 (i))] (ex (.ag [.c (.int .i64 (2)), .c (.int .i64 (2)), .c (.int .i64 (2)), .own 0]) [(0, .rows 23 3 true (exRow i))]) := by
  have hpl : (playsL 4).length = 16 := playsL_len 4
  refine fspec tyOk mx Try.func75 rfl (by kernel_rfl) rfl ?_
  conv => whnf
  refine ⟨fun h => ?_, fun h => ?_⟩
  · have h : i < 16 := by have := of_decide_eq_true h; omega
    have e : exRow i = pbM ((playsL 4).getD i []) 2 := by rw [exRow, if_pos h]
    conv => whnf
    refine ACall.use (plays_spec 2 2 (by omega)) ?_
    conv => whnf
    refine ⟨i, rfl, by show i < (playsL 4).length; omega, ?_⟩
    conv => whnf
    refine ACall.use (playBox_spec ((playsL 4).getD i []) (play4 h).1 2) ?_
    conv => whnf
    exact ⟨rfl, by rw [e]⟩
  · have h : ¬ i < 16 := by have := of_decide_eq_false h; omega
    have e : exRow i = equalM ((i : Int) - 16) := by rw [exRow, if_neg h]
    have e2 : IntKind.i64.wrap ((i : Int) - 16) = (i : Int) - 16 := w64 (by omega) (by omega)
    conv => whnf
    refine ACall.use (equalSum_spec _) ?_
    conv => whnf
    exact ⟨rfl, by rw [e, e2]⟩

theorem l6Extremes_own : FSpec Try.prog 73 [] (ex (.own 0) [(0, .recs 42 3 (exL 24))]) := by
  have hpl : (playsL 4).length = 16 := playsL_len 4
  refine fspec tyOk mx Try.func73 rfl (by kernel_rfl) rfl ?_
  conv => whnf
  refine ACall.use ((l2Plays_spec 2 2 (by omega)).told (x' := .t (.rows (playsL 4))) ⟨rfl, rfl⟩) ?_
  conv => whnf
  refine aloopI tyOk mx (fun i : Nat => (⟨31, [(1, .own 0), (2, .t (.rows (playsL 4))), (3, .c (.int .i64 (i)))], [(0, .recs 42 3 (exL i))], 1⟩ : St)) (fun i => i ≤ 16) (fun i => 16 - i) 0 (Nat.zero_le _) none (by refine ⟨rfl, rfl, ?_, ?_⟩ <;> ((repeat' (first | exact trivial | exact rfl | refine And.intro ?_ ?_)) <;> (try ((conv => whnf); first | refine vint ?_ | refine vboo ?_ | refine rint ?_ | refine rrow ?_ | skip)) <;> (try first | omega | (simp; done) | ((repeat rw [flts_closed _ (by assumption)]); exact vws_closed _ (by assumption))))) (fun i hi => ?_)
  have hl := exL_len i
  refine ⟨fun h => ?_, fun h => ?_⟩
  · have h : i < 16 := by have := of_decide_eq_true h; rw [hpl] at this; omega
    have e : exRow i = pbM ((playsL 4).getD i []) 2 := by rw [exRow, if_pos h]
    conv => whnf
    refine ⟨i, rfl, by omega, ?_⟩
    conv => whnf
    refine ACall.use ((l2PlayBox_spec ((playsL 4).getD i []) (play4 h).1 (play4 h).2 2).told (x' := .ag [.c (.int .i64 (2)), .c (.int .i64 (2)), .c (.int .i64 (2)), .t (.rows (pbM ((playsL 4).getD i []) 2))]) ⟨rfl, rfl, rfl, ⟨rfl, rfl⟩, trivial⟩) ?_
    conv => whnf
    refine ⟨by rw [hl]; simp [room]; omega, ?_⟩
    conv => whnf
    rw [nat_wrap (by omega)]
    refine ⟨i + 1, none, ?_, by omega, by omega⟩
    refine ⟨rfl, rfl, ⟨⟨rfl, rfl⟩, rfl, rfl, trivial⟩, rfl, ?_, trivial⟩
    show ARow.recs _ _ _ = ARow.recs _ _ _
    rw [← exL_succ, e]
  · have h : ¬ i < 16 := by have := of_decide_eq_false h; rw [hpl] at this; omega
    obtain rfl : i = 16 := by omega
    conv => whnf
    refine aloopI tyOk mx (fun k : Nat => (⟨31, [(1, .own 0), (4, .c (.int .i64 (k)))], [(0, .recs 42 3 (exL (16 + k)))], 1⟩ : St)) (fun k => k ≤ 8) (fun k => 8 - k) 0 (Nat.zero_le _) none (by refine ⟨rfl, rfl, ?_, ?_⟩ <;> ((repeat' (first | exact trivial | exact rfl | refine And.intro ?_ ?_)) <;> (try ((conv => whnf); first | refine vint ?_ | refine vboo ?_ | refine rint ?_ | refine rrow ?_ | skip)) <;> (try first | omega | (simp; done) | ((repeat rw [flts_closed _ (by assumption)]); exact vws_closed _ (by assumption))))) (fun k hk => ?_)
    have hl := exL_len (16 + k)
    refine ⟨fun h => ?_, fun h => ?_⟩
    · have h : k < 8 := by have := of_decide_eq_true h; omega
      have e : exRow (16 + k) = equalM k := by rw [exRow, if_neg (by omega)]; congr 1; omega
      conv => whnf
      refine ACall.use ((l6Sum_spec k h).told (x' := .ag [.c (.int .i64 (2)), .c (.int .i64 (2)), .c (.int .i64 (2)), .t (.rows (equalM k))]) ⟨rfl, rfl, rfl, ⟨rfl, rfl⟩, trivial⟩) ?_
      conv => whnf
      refine ⟨by rw [hl]; simp [room]; omega, ?_⟩
      conv => whnf
      rw [nat_wrap (by omega)]
      refine ⟨k + 1, none, ?_, by omega, by omega⟩
      refine ⟨rfl, rfl, ⟨⟨rfl, rfl⟩, rfl, trivial⟩, rfl, ?_, trivial⟩
      show ARow.recs _ _ _ = ARow.recs _ _ _
      rw [show 16 + (k + 1) = 16 + k + 1 by omega, ← exL_succ, e]
    · have h : ¬ k < 8 := by have := of_decide_eq_false h; omega
      obtain rfl : k = 8 := by omega
      conv => whnf
      exact ⟨rfl, rfl⟩
theorem l6Extremes_spec : FSpec Try.prog 73 [] (ex (.t (.recs 3 (exL 24))) []) := l6Extremes_own.told ⟨rfl, rfl⟩
end Go.Proofs.Ytgefdbihdliolaa
