/- Parts of quiet boxes; even boxes: reference and program. -/
import Derived.Test.YteoccgiofepolaaQuiet
namespace Go.Proofs.Yteoccgiofepolaa
open Go.Aw
set_option maxRecDepth 100000
set_option maxHeartbeats 4000000
def esBest (m : List (List Int)) : Nat := bIx (fun i => (esL m).getD i 0) 7
def partN (z s : Int) : Int := W (Int.tdiv (if W (s - W (2 * z)) > 0 then W (s - W (2 * z)) else 0) 2)
theorem esL_len (m : List (List Int)) : (esL m).length = 8 := by simp [esL]

theorem l1Mst_spec (a b : Int) : FSpec Try.prog 80 [.c (.int .i64 a), .c (.int .i64 b)] (ex (.c (.int .i64 (if a > b then a else b))) []) := by
  refine fspec tyOk mx Try.func80 rfl (by kernel_rfl) rfl ?_
  conv => whnf
  refine ⟨fun h => ?_, fun h => ?_⟩
  · have h := of_decide_eq_true h
    conv => whnf
    exact ⟨by rw [if_pos h], rfl⟩
  · have h := of_decide_eq_false h
    conv => whnf
    exact ⟨by rw [if_neg h], rfl⟩
theorem l6Part_spec (z : Int) (m : List (List Int)) (hm : m.length = 4) (h4 : ∀ r, r ∈ m → r.length = 4) :
    FSpec Try.prog 52 [.ag [.c (.int .i64 (2)), .c (.int .i64 (2)), .c (.int .i64 (z)), .t (.rows m)]] (ex (.tu [.c (.int .i64 (esBest m)), .c (.int .i64 (partN z ((esL m).getD (esBest m) 0)))]) []) := by
  have hl := esL_len m
  refine fspec tyOk mx Try.func52 rfl (by kernel_rfl) rfl ?_
  conv => whnf
  refine ACall.use (l6Sums_spec z m hm h4) ?_
  conv => whnf
  refine aloopI tyOk mx (fun k : Nat => (⟨36, [(1, .ptr 0 0), (4, .own 1), (5, .c (.int .i64 (bIx (fun i => (esL m).getD i 0) k))), (6, .c (.int .i64 ((k + 1 : Nat))))], [(0, .cells 34 [.c (.int .i64 (2)), .c (.int .i64 (2)), .c (.int .i64 (z)), .t (.rows m)]), (1, .ints 3 .i64 (esL m))], 2⟩ : St)) (fun k => k + 1 ≤ 8) (fun k => 8 - k) 0 (by omega) none (by refine ⟨rfl, rfl, ?_, ?_⟩ <;> ((repeat' (first | exact trivial | exact rfl | refine And.intro ?_ ?_)) <;> (try ((conv => whnf); first | refine vint ?_ | refine vboo ?_ | refine rint ?_ | refine rrow ?_ | skip)) <;> (try first | omega | (simp; done) | ((repeat rw [flts_closed _ (by assumption)]); exact vws_closed _ (by assumption))))) (fun k hk => ?_)
  have hb := bIx_le (fun i => (esL m).getD i 0) k
  refine ⟨fun h => ?_, fun h => ?_⟩
  · have h := ltT h
    refine ADraw.std tyOk mx ⟨by kernel_rfl, k + 1, rfl, h, bIx (fun i => (esL m).getD i 0) k, rfl, by omega, ?_⟩
    conv => whnf
    refine ⟨fun h6 => ?_, fun h6 => ?_⟩
    · have e : bIx (fun i => (esL m).getD i 0) (k + 1) = k + 1 := if_pos (of_decide_eq_true h6)
      conv => whnf
      rw [nat_wrap (by omega)]
      refine ⟨k + 1, none, ?_, by omega, by omega⟩
      dsimp only
      rw [e]
      (refine ⟨rfl, rfl, ?_, ?_⟩ <;> ((repeat' (first | exact trivial | exact rfl | refine And.intro ?_ ?_)) <;> (try ((conv => whnf); first | refine vint ?_ | refine vboo ?_ | refine rint ?_ | refine rrow ?_ | skip)) <;> (try first | omega | (simp; done) | ((repeat rw [flts_closed _ (by assumption)]); exact vws_closed _ (by assumption)))))
    · have e : bIx (fun i => (esL m).getD i 0) (k + 1) = bIx (fun i => (esL m).getD i 0) k := if_neg (of_decide_eq_false h6)
      conv => whnf
      rw [nat_wrap (by omega)]
      refine ⟨k + 1, none, ?_, by omega, by omega⟩
      dsimp only
      rw [e]
      (refine ⟨rfl, rfl, ?_, ?_⟩ <;> ((repeat' (first | exact trivial | exact rfl | refine And.intro ?_ ?_)) <;> (try ((conv => whnf); first | refine vint ?_ | refine vboo ?_ | refine rint ?_ | refine rrow ?_ | skip)) <;> (try first | omega | (simp; done) | ((repeat rw [flts_closed _ (by assumption)]); exact vws_closed _ (by assumption)))))
  · have h := ltF h
    obtain rfl : k = 7 := by omega
    conv => whnf
    refine ADraw.std tyOk mx ⟨by kernel_rfl, esBest m, rfl, by unfold esBest; omega, ?_⟩
    conv => whnf
    refine QCall.use (l1Mst_spec _ _) ?_
    conv => whnf
    refine ⟨by decide, ?_⟩
    conv => whnf
    exact ⟨rfl, rfl⟩
theorem tdiv2 (a : Int) : (0 ≤ a → a.tdiv 2 = a / 2) ∧ (a ≤ 0 → a.tdiv 2 = -((-a) / 2)) := by
  refine ⟨fun h => Int.tdiv_eq_ediv_of_nonneg h, fun h => ?_⟩
  have e : a.tdiv 2 = -((-a).tdiv 2) := by rw [Int.neg_tdiv, Int.neg_neg]
  rw [e, Int.tdiv_eq_ediv_of_nonneg (by omega)]
theorem part_eq (z s : Int) : (if IntKind.i64.wrap (Int.tdiv (IntKind.i64.wrap (s - IntKind.i64.wrap (2 * z))) 2) > 0 then IntKind.i64.wrap (Int.tdiv (IntKind.i64.wrap (s - IntKind.i64.wrap (2 * z))) 2) else 0) = partN z s := by
  unfold partN
  show (if IntKind.i64.wrap (Int.tdiv (W (s - W (2 * z))) 2) > 0 then IntKind.i64.wrap (Int.tdiv (W (s - W (2 * z))) 2) else 0) = _
  have hb : -9223372036854775808 ≤ W (s - W (2 * z)) ∧ W (s - W (2 * z)) ≤ 9223372036854775807 := by
    show -9223372036854775808 ≤ IntKind.i64.wrap _ ∧ IntKind.i64.wrap _ ≤ _
    rw [IntKind.wrap_i64]; omega
  generalize W (s - W (2 * z)) = a at hb ⊢
  obtain ⟨h1, h2⟩ := tdiv2 a
  by_cases h : a > 0
  · have h1 := h1 (by omega)
    have e1 : IntKind.i64.wrap (a.tdiv 2) = a.tdiv 2 := w64 (by omega) (by omega)
    rw [if_pos h, e1]
    show _ = IntKind.i64.wrap (a.tdiv 2)
    rw [e1]
    split <;> omega
  · have h2 := h2 (by omega)
    have e1 : IntKind.i64.wrap (a.tdiv 2) = a.tdiv 2 := w64 (by omega) (by omega)
    rw [if_neg h, e1]
    have : W (Int.tdiv 0 2) = 0 := rfl
    rw [this]
    split <;> omega
theorem part_spec (z : Int) (m : List (List Int)) (hm : m.length = 4) (h4 : ∀ r, r ∈ m → r.length = 4) :
    FSpec Try.prog 54 [.ag [.c (.int .i64 (2)), .c (.int .i64 (2)), .c (.int .i64 (z)), .t (.rows m)]] (ex (.tu [.c (.int .i64 (esBest m)), .c (.int .i64 (partN z ((esL m).getD (esBest m) 0)))]) []) := by
  have hl := esL_len m
  refine fspec tyOk mx Try.func54 rfl (by kernel_rfl) rfl ?_
  conv => whnf
  refine ACall.use (eightSums_spec z m hm h4) ?_
  conv => whnf
  refine aloopI tyOk mx (fun k : Nat => match k with
    | 0 => (⟨36, [(1, .ptr 0 0), (4, .c (.int .i64 ((0 : Nat)))), (5, .own 1), (10, .own 1), (11, .c (.int .i64 ((esL m).length))), (12, .c (.int .i64 ((0 : Nat))))], [(0, .cells 34 [.c (.int .i64 (2)), .c (.int .i64 (2)), .c (.int .i64 (z)), .t (.rows m)]), (1, .ints 3 .i64 (esL m))], 2⟩ : St)
    | k + 1 => (⟨36, [(1, .ptr 0 0), (4, .c (.int .i64 (bIx (fun i => (esL m).getD i 0) k))), (5, .own 1), (10, .own 1), (11, .c (.int .i64 ((esL m).length))), (12, .c (.int .i64 ((k + 1 : Nat))))], [(0, .cells 34 [.c (.int .i64 (2)), .c (.int .i64 (2)), .c (.int .i64 (z)), .t (.rows m)]), (1, .ints 3 .i64 (esL m))], 2⟩ : St)) (fun k => k ≤ 8) (fun k => 8 - k) 0 (by omega) none (by refine ⟨rfl, rfl, ?_, ?_⟩ <;> ((repeat' (first | exact trivial | exact rfl | refine And.intro ?_ ?_)) <;> (try ((conv => whnf); first | refine vint ?_ | refine vboo ?_ | refine rint ?_ | refine rrow ?_ | skip)) <;> (try first | omega | (simp; done) | ((repeat rw [flts_closed _ (by assumption)]); exact vws_closed _ (by assumption))))) (fun k hk => ?_)
  match k, hk with
  | 0, hk =>
    refine ⟨fun h => ?_, fun h => ?_⟩
    · conv => whnf
      refine ⟨0, rfl, by omega, ?_⟩
      conv => whnf
      refine ⟨0, rfl, by omega, ?_⟩
      conv => whnf
      refine ⟨fun h6 => ?_, fun h6 => ?_⟩
      · have := of_decide_eq_true h6
        omega
      · conv => whnf
        rw [nat_wrap (by omega)]
        refine ⟨1, none, ?_, by omega, by omega⟩
        (refine ⟨rfl, rfl, ?_, ?_⟩ <;> ((repeat' (first | exact trivial | exact rfl | refine And.intro ?_ ?_)) <;> (try ((conv => whnf); first | refine vint ?_ | refine vboo ?_ | refine rint ?_ | refine rrow ?_ | skip)) <;> (try first | omega | (simp; done) | ((repeat rw [flts_closed _ (by assumption)]); exact vws_closed _ (by assumption)))))
    · have h := ltF h
      omega
  | k + 1, hk =>
    have hb := bIx_le (fun i => (esL m).getD i 0) k
    refine ⟨fun h => ?_, fun h => ?_⟩
    · have h := ltT h
      conv => whnf
      refine ⟨k + 1, rfl, h, ?_⟩
      conv => whnf
      refine ⟨bIx (fun i => (esL m).getD i 0) k, rfl, by omega, ?_⟩
      conv => whnf
      refine ⟨fun h6 => ?_, fun h6 => ?_⟩
      · have e : bIx (fun i => (esL m).getD i 0) (k + 1) = k + 1 := if_pos (of_decide_eq_true h6)
        conv => whnf
        rw [nat_wrap (by omega)]
        refine ⟨k + 2, none, ?_, by omega, by omega⟩
        dsimp only
        rw [e]
        (refine ⟨rfl, rfl, ?_, ?_⟩ <;> ((repeat' (first | exact trivial | exact rfl | refine And.intro ?_ ?_)) <;> (try ((conv => whnf); first | refine vint ?_ | refine vboo ?_ | refine rint ?_ | refine rrow ?_ | skip)) <;> (try first | omega | (simp; done) | ((repeat rw [flts_closed _ (by assumption)]); exact vws_closed _ (by assumption)))))
      · have e : bIx (fun i => (esL m).getD i 0) (k + 1) = bIx (fun i => (esL m).getD i 0) k := if_neg (of_decide_eq_false h6)
        conv => whnf
        rw [nat_wrap (by omega)]
        refine ⟨k + 2, none, ?_, by omega, by omega⟩
        dsimp only
        rw [e]
        (refine ⟨rfl, rfl, ?_, ?_⟩ <;> ((repeat' (first | exact trivial | exact rfl | refine And.intro ?_ ?_)) <;> (try ((conv => whnf); first | refine vint ?_ | refine vboo ?_ | refine rint ?_ | refine rrow ?_ | skip)) <;> (try first | omega | (simp; done) | ((repeat rw [flts_closed _ (by assumption)]); exact vws_closed _ (by assumption)))))
    · have h := ltF h
      obtain rfl : k = 7 := by omega
      conv => whnf
      refine ADraw.std tyOk mx ⟨by kernel_rfl, esBest m, rfl, by unfold esBest; omega, ?_⟩
      conv => whnf
      refine ⟨by decide, ?_⟩
      conv => whnf
      exact ⟨by rw [← part_eq]; rfl, rfl⟩


end Go.Proofs.Yteoccgiofepolaa
