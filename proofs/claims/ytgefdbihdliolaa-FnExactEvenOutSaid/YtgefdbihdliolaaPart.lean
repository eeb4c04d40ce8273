/- Parts of quiet boxes; even boxes: reference and program. -/
import Derived.Test.YtgefdbihdliolaaQuiet
namespace Go.Proofs.Ytgefdbihdliolaa
open Go.Aw
set_option maxRecDepth 100000
set_option maxHeartbeats 4000000
def esBest (m : List (List Int)) : Nat := bIx (fun i => (esL m).getD i 0) 7
def partN (z s : Int) : Int := W (Int.tdiv (if W (s - W (2 * z)) > 0 then W (s - W (2 * z)) else 0) 2)
theorem esL_len (m : List (List Int)) : (esL m).length = 8 := by simp [esL]

theorem l1Mst_spec (a b : Int) : FSpec Try.prog 94 [.c (.int .i64 a), .c (.int .i64 b)] (ex (.c (.int .i64 (if a > b then a else b))) []) := by
  refine fspec tyOk mx Try.func94 rfl (by kernel_rfl) rfl ?_
  conv => whnf
  refine ⟨fun h => ?_, fun h => ?_⟩
  · have h := of_decide_eq_true h
    conv => whnf
    exact ⟨by rw [if_pos h], rfl⟩
  · have h := of_decide_eq_false h
    conv => whnf
    exact ⟨by rw [if_neg h], rfl⟩
theorem l6Part_spec (z : Int) (m : List (List Int)) (hm : m.length = 4) (h4 : ∀ r, r ∈ m → r.length = 4) :
    FSpec Try.prog 109 [.ag [.c (.int .i64 (2)), .c (.int .i64 (2)), .c (.int .i64 (z)), .t (.rows m)]] (ex (.tu [.c (.int .i64 (esBest m)), .c (.int .i64 (partN z ((esL m).getD (esBest m) 0)))]) []) := by
  have hl := esL_len m
  refine fspec tyOk mx Try.func109 rfl (by kernel_rfl) rfl ?_
  conv => whnf
  refine ACall.use (l6Sums_spec z m hm h4) ?_
  conv => whnf
  refine aloopI tyOk mx (fun k : Nat => (⟨36, [(1, .ptr 0 0), (4, .own 1), (5, .c (.int .i64 (bIx (fun i => (esL m).getD i 0) k))), (6, .c (.int .i64 ((k + 1 : Nat))))], [(0, .cells 42 [.c (.int .i64 (2)), .c (.int .i64 (2)), .c (.int .i64 (z)), .t (.rows m)]), (1, .ints 3 .i64 (esL m))], 2⟩ : St)) (fun k => k + 1 ≤ 8) (fun k => 8 - k) 0 (by omega) none (by refine ⟨rfl, rfl, ?_, ?_⟩ <;> ((repeat' (first | exact trivial | exact rfl | refine And.intro ?_ ?_)) <;> (try ((conv => whnf); first | refine vint ?_ | refine vboo ?_ | refine rint ?_ | refine rrow ?_ | skip)) <;> (try first | omega | (simp; done) | ((repeat rw [flts_closed _ (by assumption)]); exact vws_closed _ (by assumption))))) (fun k hk => ?_)
  have hb := bIx_le (fun i => (esL m).getD i 0) k
  refine ⟨fun h => ?_, fun h => ?_⟩
  · have h := ltT h
    refine ADraw.std tyOk mx ⟨by kernel_rfl, k + 1, rfl, h, bIx (fun i => (esL m).getD i 0) k, rfl, by omega, ?_⟩
    conv => whnf
    refine ⟨fun h6 => ?_, fun h6 => ?_⟩
    · have e : bIx (fun i => (esL m).getD i 0) (k + 1) = k + 1 := if_pos (of_decide_eq_true h6)
      conv => whnf
      rw [nat_wrap (by omega)]
      refine ⟨k + 1, none, ?_, by omega, by omega⟩
      dsimp only
      rw [e]
      (refine ⟨rfl, rfl, ?_, ?_⟩ <;> ((repeat' (first | exact trivial | exact rfl | refine And.intro ?_ ?_)) <;> (try ((conv => whnf); first | refine vint ?_ | refine vboo ?_ | refine rint ?_ | refine rrow ?_ | skip)) <;> (try first | omega | (simp; done) | ((repeat rw [flts_closed _ (by assumption)]); exact vws_closed _ (by assumption)))))
    · have e : bIx (fun i => (esL m).getD i 0) (k + 1) = bIx (fun i => (esL m).getD i 0) k := if_neg (of_decide_eq_false h6)
      conv => whnf
      rw [nat_wrap (by omega)]
      refine ⟨k + 1, none, ?_, by omega, by omega⟩
      dsimp only
      rw [e]
      (refine ⟨rfl, rfl, ?_, ?_⟩ <;> ((repeat' (first | exact trivial | exact rfl | refine And.intro ?_ ?_)) <;> (try ((conv => whnf); first | refine vint ?_ | refine vboo ?_ | refine rint ?_ | refine rrow ?_ | skip)) <;> (try first | omega | (simp; done) | ((repeat rw [flts_closed _ (by assumption)]); exact vws_closed _ (by assumption)))))
  · have h := ltF h
    obtain rfl : k = 7 := by omega
    conv => whnf
    refine ADraw.std tyOk mx ⟨by kernel_rfl, esBest m, rfl, by unfold esBest; omega, ?_⟩
    conv => whnf
    refine QCall.use (l1Mst_spec _ _) ?_
    conv => whnf
    refine ⟨by decide, ?_⟩
    conv => whnf
    exact ⟨rfl, rfl⟩
theorem tdiv2 (a : Int) : (0 ≤ a → a.tdiv 2 = a / 2) ∧ (a ≤ 0 → a.tdiv 2 = -((-a) / 2)) := by
  refine ⟨fun h => Int.tdiv_eq_ediv_of_nonneg h, fun h => ?_⟩
  have e : a.tdiv 2 = -((-a).tdiv 2) := by rw [Int.neg_tdiv, Int.neg_neg]
  rw [e, Int.tdiv_eq_ediv_of_nonneg (by omega)]
theorem part_eq (z s : Int) : (if IntKind.i64.wrap (Int.tdiv (IntKind.i64.wrap (s - IntKind.i64.wrap (2 * z))) 2) > 0 then IntKind.i64.wrap (Int.tdiv (IntKind.i64.wrap (s - IntKind.i64.wrap (2 * z))) 2) else 0) = partN z s := by
  unfold partN
  show (if IntKind.i64.wrap (Int.tdiv (W (s - W (2 * z))) 2) > 0 then IntKind.i64.wrap (Int.tdiv (W (s - W (2 * z))) 2) else 0) = _
  have hb : -9223372036854775808 ≤ W (s - W (2 * z)) ∧ W (s - W (2 * z)) ≤ 9223372036854775807 := by
    show -9223372036854775808 ≤ IntKind.i64.wrap _ ∧ IntKind.i64.wrap _ ≤ _
    rw [IntKind.wrap_i64]; omega
  generalize W (s - W (2 * z)) = a at hb ⊢
  obtain ⟨h1, h2⟩ := tdiv2 a
  by_cases h : a > 0
  · have h1 := h1 (by omega)
    have e1 : IntKind.i64.wrap (a.tdiv 2) = a.tdiv 2 := w64 (by omega) (by omega)
    rw [if_pos h, e1]
    show _ = IntKind.i64.wrap (a.tdiv 2)
    rw [e1]
    split <;> omega
  · have h2 := h2 (by omega)
    have e1 : IntKind.i64.wrap (a.tdiv 2) = a.tdiv 2 := w64 (by omega) (by omega)
    rw [if_neg h, e1]
    have : W (Int.tdiv 0 2) = 0 := rfl
    rw [this]
    split <;> omega
theorem part_spec (z : Int) (m : List (List Int)) (hm : m.length = 4) (h4 : ∀ r, r ∈ m → r.length = 4) :
    FSpec Try.prog 110 [.ag [.c (.int .i64 (2)), .c (.int .i64 (2)), .c (.int .i64 (z)), .t (.rows m)]] (ex (.tu [.c (.int .i64 (esBest m)), .c (.int .i64 (partN z ((esL m).getD (esBest m) 0)))]) []) := by
  have hl := esL_len m
  refine fspec tyOk mx Try.func110 rfl (by kernel_rfl) rfl ?_
  conv => whnf
  refine ACall.use (eightSums_spec z m hm h4) ?_
  conv => whnf
  refine aloopI tyOk mx (fun k : Nat => match k with
    | 0 => (⟨36, [(1, .ptr 0 0), (4, .c (.int .i64 ((0 : Nat)))), (5, .own 1), (10, .own 1), (11, .c (.int .i64 ((esL m).length))), (12, .c (.int .i64 ((0 : Nat))))], [(0, .cells 42 [.c (.int .i64 (2)), .c (.int .i64 (2)), .c (.int .i64 (z)), .t (.rows m)]), (1, .ints 3 .i64 (esL m))], 2⟩ : St)
    | k + 1 => (⟨36, [(1, .ptr 0 0), (4, .c (.int .i64 (bIx (fun i => (esL m).getD i 0) k))), (5, .own 1), (10, .own 1), (11, .c (.int .i64 ((esL m).length))), (12, .c (.int .i64 ((k + 1 : Nat))))], [(0, .cells 42 [.c (.int .i64 (2)), .c (.int .i64 (2)), .c (.int .i64 (z)), .t (.rows m)]), (1, .ints 3 .i64 (esL m))], 2⟩ : St)) (fun k => k ≤ 8) (fun k => 8 - k) 0 (by omega) none (by refine ⟨rfl, rfl, ?_, ?_⟩ <;> ((repeat' (first | exact trivial | exact rfl | refine And.intro ?_ ?_)) <;> (try ((conv => whnf); first | refine vint ?_ | refine vboo ?_ | refine rint ?_ | refine rrow ?_ | skip)) <;> (try first | omega | (simp; done) | ((repeat rw [flts_closed _ (by assumption)]); exact vws_closed _ (by assumption))))) (fun k hk => ?_)
  match k, hk with
  | 0, hk =>
    refine ⟨fun h => ?_, fun h => ?_⟩
    · conv => whnf
      refine ⟨0, rfl, by omega, ?_⟩
      conv => whnf
      refine ⟨0, rfl, by omega, ?_⟩
      conv => whnf
      refine ⟨fun h6 => ?_, fun h6 => ?_⟩
      · have := of_decide_eq_true h6
        omega
      · conv => whnf
        rw [nat_wrap (by omega)]
        refine ⟨1, none, ?_, by omega, by omega⟩
        (refine ⟨rfl, rfl, ?_, ?_⟩ <;> ((repeat' (first | exact trivial | exact rfl | refine And.intro ?_ ?_)) <;> (try ((conv => whnf); first | refine vint ?_ | refine vboo ?_ | refine rint ?_ | refine rrow ?_ | skip)) <;> (try first | omega | (simp; done) | ((repeat rw [flts_closed _ (by assumption)]); exact vws_closed _ (by assumption)))))
    · have h := ltF h
      omega
  | k + 1, hk =>
    have hb := bIx_le (fun i => (esL m).getD i 0) k
    refine ⟨fun h => ?_, fun h => ?_⟩
    · have h := ltT h
      conv => whnf
      refine ⟨k + 1, rfl, h, ?_⟩
      conv => whnf
      refine ⟨bIx (fun i => (esL m).getD i 0) k, rfl, by omega, ?_⟩
      conv => whnf
      refine ⟨fun h6 => ?_, fun h6 => ?_⟩
      · have e : bIx (fun i => (esL m).getD i 0) (k + 1) = k + 1 := if_pos (of_decide_eq_true h6)
        conv => whnf
        rw [nat_wrap (by omega)]
        refine ⟨k + 2, none, ?_, by omega, by omega⟩
        dsimp only
        rw [e]
        (refine ⟨rfl, rfl, ?_, ?_⟩ <;> ((repeat' (first | exact trivial | exact rfl | refine And.intro ?_ ?_)) <;> (try ((conv => whnf); first | refine vint ?_ | refine vboo ?_ | refine rint ?_ | refine rrow ?_ | skip)) <;> (try first | omega | (simp; done) | ((repeat rw [flts_closed _ (by assumption)]); exact vws_closed _ (by assumption)))))
      · have e : bIx (fun i => (esL m).getD i 0) (k + 1) = bIx (fun i => (esL m).getD i 0) k := if_neg (of_decide_eq_false h6)
        conv => whnf
        rw [nat_wrap (by omega)]
        refine ⟨k + 2, none, ?_, by omega, by omega⟩
        dsimp only
        rw [e]
        (refine ⟨rfl, rfl, ?_, ?_⟩ <;> ((repeat' (first | exact trivial | exact rfl | refine And.intro ?_ ?_)) <;> (try ((conv => whnf); first | refine vint ?_ | refine vboo ?_ | refine rint ?_ | refine rrow ?_ | skip)) <;> (try first | omega | (simp; done) | ((repeat rw [flts_closed _ (by assumption)]); exact vws_closed _ (by assumption)))))
    · have h := ltF h
      obtain rfl : k = 7 := by omega
      conv => whnf
      refine ADraw.std tyOk mx ⟨by kernel_rfl, esBest m, rfl, by unfold esBest; omega, ?_⟩
      conv => whnf
      refine ⟨by decide, ?_⟩
      conv => whnf
      exact ⟨by rw [← part_eq]; rfl, rfl⟩

def poK (x y z : Int) (m : List (List Int)) : Int := if qpB x y z m then (esBest m : Int) else 0
def poN (x y z : Int) (m : List (List Int)) : Int := if qpB x y z m then partN z ((esL m).getD (esBest m) 0) else 0
theorem PartOf_s (x y z : Int) (m : List (List Int)) (_hx : InR x) (_hy : InR y) (_hz : InR z) (_hm : OkM m) (km : SzM m) :
    FSpec Try.prog 55 [.ag [.c (.int .i64 (x)), .c (.int .i64 (y)), .c (.int .i64 (z)), .t (.rows m)]] (ex (.tu [.c (.int .i64 (poK x y z m)), .c (.int .i64 (poN x y z m)), .c (.bool (qpB x y z m))]) []) := by
  refine fspec tyOk mx Try.func55 rfl (by kernel_rfl) rfl ?_
  conv => whnf
  refine ACall.use (l6Quiet_spec x y z m km) ?_
  conv => whnf
  refine ⟨fun h => ?_, fun h => ?_⟩
  · have h : qpB x y z m = false := by simpa using h
    conv => whnf
    exact ⟨by rw [poK, poN, h]; rfl, rfl⟩
  · have h : qpB x y z m = true := by simpa using h
    have h' := h
    obtain ⟨rfl, rfl, g1, g2, g3, g4⟩ := qpB_spec h
    conv => whnf
    refine ACall.use (l6Part_spec z m g3 (fun r hr => (g4 r hr).1)) ?_
    conv => whnf
    exact ⟨by rw [poK, poN, h']; rfl, rfl⟩
theorem PartOf_i (x y z : Int) (m : List (List Int)) (_hx : InR x) (_hy : InR y) (_hz : InR z) (_hm : OkM m) (km : SzM m) :
    FSpec Try.prog 56 [.ag [.c (.int .i64 (x)), .c (.int .i64 (y)), .c (.int .i64 (z)), .t (.rows m)]] (ex (.tu [.c (.int .i64 (poK x y z m)), .c (.int .i64 (poN x y z m)), .c (.bool (qpB x y z m))]) []) := by
  refine fspec tyOk mx Try.func56 rfl (by kernel_rfl) rfl ?_
  conv => whnf
  refine ACall.use (isQuietPair_spec x y z m km) ?_
  conv => whnf
  refine ⟨fun h => ?_, fun h => ?_⟩
  · have h : qpB x y z m = false := by simpa using h
    conv => whnf
    exact ⟨by rw [poK, poN, h]; rfl, rfl⟩
  · have h : qpB x y z m = true := by simpa using h
    have h' := h
    obtain ⟨rfl, rfl, g1, g2, g3, g4⟩ := qpB_spec h
    conv => whnf
    refine ACall.use (part_spec z m g3 (fun r hr => (g4 r hr).1)) ?_
    conv => whnf
    exact ⟨by rw [poK, poN, h']; rfl, rfl⟩

/-- the sums for the answer 1 -/
def cntL (nx ny : Nat) (m : List (List Int)) : List Int := (List.range nx).map (fun x => one0 (m.getD (x * ny + 0) [])) ++ (List.range ny).map (fun y => one1 (m.getD (0 * ny + y) []))
theorem counts_spec (nx ny : Nat) (z : Int) (m : List (List Int)) (hx : nx ≤ 3) (hy : ny ≤ 3) (hy1 : 1 ≤ ny) (hx1 : 1 ≤ nx) (hm : m.length = nx * ny) (h4 : ∀ r, r ∈ m → r.length = 4) :
    FSpec Try.prog 108 [.ag [.c (.int .i64 (nx)), .c (.int .i64 (ny)), .c (.int .i64 (z)), .t (.rows m)]] (ex (.own 0) [(0, .ints 3 .i64 (cntL nx ny m))]) := by
  have hn : nx * ny ≤ 3 * 3 := Nat.mul_le_mul hx hy
  refine fspec tyOk mx Try.func108 rfl (by kernel_rfl) rfl ?_
  conv => whnf
  refine ACall.use (questions_spec _ _ _ _) ?_
  conv => whnf
  refine aloopI tyOk mx (fun p : Nat => (⟨29, [(1, .ptr 0 0), (3, .own 1), (4, .ptr 2 0), (10, .c (.int .i64 (p)))], [(0, .cells 42 [.c (.int .i64 (nx)), .c (.int .i64 (ny)), .c (.int .i64 (z)), .t (.rows m)]), (1, .ints 3 .i64 (match p with | 0 => [] | 1 => (List.range nx).map (fun x => one0 (m.getD (x * ny + 0) [])) | _ => cntL nx ny m)), (2, .cells 116 [.c (.int .i64 (nx)), .c (.int .i64 (ny))])], 3⟩ : St)) (fun p => p ≤ 2) (fun p => 2 - p) 0 (by omega) none (by refine ⟨rfl, rfl, ?_, ?_⟩ <;> ((repeat' (first | exact trivial | exact rfl | refine And.intro ?_ ?_)) <;> (try ((conv => whnf); first | refine vint ?_ | refine vboo ?_ | refine rint ?_ | refine rrow ?_ | skip)) <;> (try first | omega | (simp; done) | ((repeat rw [flts_closed _ (by assumption)]); exact vws_closed _ (by assumption))))) (fun p hp => ?_)
  refine ⟨fun h => ?_, fun h => ?_⟩
  · have h : p < 2 := by have := of_decide_eq_true h; omega
    have hp2 : p = 0 ∨ p = 1 := by omega
    rcases hp2 with rfl | rfl
    · conv => whnf
      refine ⟨0, rfl, by omega, by simp, ?_⟩
      conv => whnf
      refine aloopI tyOk mx (fun x : Nat => (⟨29, [(1, .ptr 0 0), (3, .own 1), (4, .ptr 2 0), (5, .c (.int .i64 ((0 : Nat)))), (10, .c (.int .i64 ((0 : Nat)))), (15, .c (.int .i64 (nx))), (16, .c (.int .i64 (x)))], [(0, .cells 42 [.c (.int .i64 (nx)), .c (.int .i64 (ny)), .c (.int .i64 (z)), .t (.rows m)]), (1, .ints 3 .i64 ((List.range x).map (fun x => one0 (m.getD (x * ny + 0) [])))), (2, .cells 116 [.c (.int .i64 (nx)), .c (.int .i64 (ny))])], 3⟩ : St)) (fun x => x ≤ nx) (fun x => nx - x) 0 (Nat.zero_le _) none (by refine ⟨rfl, rfl, ?_, ?_⟩ <;> ((repeat' (first | exact trivial | exact rfl | refine And.intro ?_ ?_)) <;> (try ((conv => whnf); first | refine vint ?_ | refine vboo ?_ | refine rint ?_ | refine rrow ?_ | skip)) <;> (try first | omega | (simp; done) | ((repeat rw [flts_closed _ (by assumption)]); exact vws_closed _ (by assumption))))) (fun x hx2 => ?_)
      refine ⟨fun h2 => ?_, fun h2 => ?_⟩
      · have h2 := ltT h2
        have hlt := ix_lt h2 (show 0 < ny by omega)
        conv => whnf
        refine ACall.use (ones0_spec nx ny x 0 z m (by omega) (by omega) h4) ?_
        conv => whnf
        refine ⟨by simp [room]; omega, ?_⟩
        conv => whnf
        rw [nat_wrap (by omega)]
        refine ⟨x + 1, none, ?_, by omega, by omega⟩
        (refine ⟨rfl, rfl, ?_, ?_⟩ <;> ((repeat' (first | exact trivial | exact rfl | refine And.intro ?_ ?_)) <;> (try ((conv => whnf); first | refine vint ?_ | refine vboo ?_ | refine rint ?_ | refine rrow ?_ | skip)) <;> (try first | omega | (simp; done) | ((repeat rw [flts_closed _ (by assumption)]); exact vws_closed _ (by assumption)))))
        rw [← map_range_succ]; rfl
      · have h2 := ltF h2
        obtain rfl : x = nx := by omega
        conv => whnf
        exact ⟨1, none, (by refine ⟨rfl, rfl, ?_, ?_⟩ <;> ((repeat' (first | exact trivial | exact rfl | refine And.intro ?_ ?_)) <;> (try ((conv => whnf); first | refine vint ?_ | refine vboo ?_ | refine rint ?_ | refine rrow ?_ | skip)) <;> (try first | omega | (simp; done) | ((repeat rw [flts_closed _ (by assumption)]); exact vws_closed _ (by assumption))))), by omega, by omega⟩
    · conv => whnf
      refine ⟨1, rfl, by omega, by simp, ?_⟩
      conv => whnf
      refine aloopI tyOk mx (fun y : Nat => (⟨29, [(1, .ptr 0 0), (3, .own 1), (4, .ptr 2 0), (5, .c (.int .i64 ((1 : Nat)))), (10, .c (.int .i64 ((1 : Nat)))), (15, .c (.int .i64 (ny))), (16, .c (.int .i64 (y)))], [(0, .cells 42 [.c (.int .i64 (nx)), .c (.int .i64 (ny)), .c (.int .i64 (z)), .t (.rows m)]), (1, .ints 3 .i64 ((List.range nx).map (fun x => one0 (m.getD (x * ny + 0) [])) ++ (List.range y).map (fun y => one1 (m.getD (0 * ny + y) [])))), (2, .cells 116 [.c (.int .i64 (nx)), .c (.int .i64 (ny))])], 3⟩ : St)) (fun y => y ≤ ny) (fun y => ny - y) 0 (Nat.zero_le _) none (by refine ⟨rfl, rfl, ?_, ?_⟩ <;> ((repeat' (first | exact trivial | exact rfl | refine And.intro ?_ ?_)) <;> (try ((conv => whnf); first | refine vint ?_ | refine vboo ?_ | refine rint ?_ | refine rrow ?_ | skip)) <;> (try first | omega | (simp; done) | ((repeat rw [flts_closed _ (by assumption)]); exact vws_closed _ (by assumption))))) (fun y hy2 => ?_)
      refine ⟨fun h2 => ?_, fun h2 => ?_⟩
      · have h2 := ltT h2
        have hlt := ix_lt (show 0 < nx by omega) h2
        conv => whnf
        refine ACall.use (ones1_spec nx ny y 0 z m (by omega) (by omega) h4) ?_
        conv => whnf
        refine ⟨by simp [room]; omega, ?_⟩
        conv => whnf
        rw [nat_wrap (by omega)]
        refine ⟨y + 1, none, ?_, by omega, by omega⟩
        (refine ⟨rfl, rfl, ?_, ?_⟩ <;> ((repeat' (first | exact trivial | exact rfl | refine And.intro ?_ ?_)) <;> (try ((conv => whnf); first | refine vint ?_ | refine vboo ?_ | refine rint ?_ | refine rrow ?_ | skip)) <;> (try first | omega | (simp; done) | ((repeat rw [flts_closed _ (by assumption)]); exact vws_closed _ (by assumption)))))
        rw [← map_range_succ, ← List.append_assoc]; rfl
      · have h2 := ltF h2
        obtain rfl : y = ny := by omega
        conv => whnf
        exact ⟨2, none, (by refine ⟨rfl, rfl, ?_, ?_⟩ <;> ((repeat' (first | exact trivial | exact rfl | refine And.intro ?_ ?_)) <;> (try ((conv => whnf); first | refine vint ?_ | refine vboo ?_ | refine rint ?_ | refine rrow ?_ | skip)) <;> (try first | omega | (simp; done) | ((repeat rw [flts_closed _ (by assumption)]); exact vws_closed _ (by assumption))))), by omega, by omega⟩
  · have h : ¬ p < 2 := by have := of_decide_eq_false h; omega
    obtain rfl : p = 2 := by omega
    conv => whnf
    exact ⟨rfl, rfl⟩

theorem AnswerCounts_spec (x y z : Int) (m : List (List Int)) (km : SzM m) (hq : qpB x y z m = true) :
    FSpec Try.prog 107 [.ag [.c (.int .i64 (x)), .c (.int .i64 (y)), .c (.int .i64 (z)), .t (.rows m)]] (ex (.tu [.own 0, .c (.bool true)]) [(0, .ints 3 .i64 (cntL 2 2 m))]) := by
  have hq2 := hq
  simp only [qpB, pairB, Bool.and_eq_true] at hq2
  have hg := hq2.1.1
  have hqq := hq2.2
  obtain ⟨rfl, rfl, g1, g2, g3, g4⟩ := qpB_spec hq
  have h4 : ∀ r, r ∈ m → r.length = 4 := fun r hr => (g4 r hr).1
  refine fspec tyOk mx Try.func107 rfl (by kernel_rfl) rfl ?_
  conv => whnf
  refine ACall.use (l2Box_spec _ _ z m km) ?_
  rw [hg]
  conv => whnf
  refine ⟨fun _ => ?_, fun h => absurd h (by decide)⟩
  conv => whnf
  refine ACall.use (l2Quiet_spec 2 2 z m (by omega) (by omega) (by omega) (by omega) g3 h4) ?_
  rw [hqq]
  conv => whnf
  refine ⟨fun h => absurd h (by decide), fun _ => ?_⟩
  conv => whnf
  refine aloopI tyOk mx (fun x : Nat => (⟨44, [(1, .ptr 0 0), (4, .own 1), (5, .c (.int .i64 (x)))], [(0, .cells 42 [.c (.int .i64 (2)), .c (.int .i64 (2)), .c (.int .i64 (z)), .t (.rows m)]), (1, .ints 3 .i64 ((List.range x).map (fun x => one0 (m.getD (x * 2 + 0) []))))], 2⟩ : St)) (fun x => x ≤ 2) (fun x => 2 - x) 0 (by omega) none (by refine ⟨rfl, rfl, ?_, ?_⟩ <;> ((repeat' (first | exact trivial | exact rfl | refine And.intro ?_ ?_)) <;> (try ((conv => whnf); first | refine vint ?_ | refine vboo ?_ | refine rint ?_ | refine rrow ?_ | skip)) <;> (try first | omega | (simp; done) | ((repeat rw [flts_closed _ (by assumption)]); exact vws_closed _ (by assumption))))) (fun x hx => ?_)
  refine ⟨fun h => ?_, fun h => ?_⟩
  · have h : x < 2 := by have := of_decide_eq_true h; omega
    conv => whnf
    refine ACall.use (l2Row_spec 2 2 x 0 z m (by omega) (by omega)) ?_
    conv => whnf
    refine ACall.use (l2One0_spec _ (h4 _ (getD_mem (show x * 2 + 0 < m.length by omega)))) ?_
    conv => whnf
    refine ⟨by simp [room]; omega, ?_⟩
    conv => whnf
    rw [nat_wrap (by omega)]
    refine ⟨x + 1, none, ?_, by omega, by omega⟩
    (refine ⟨rfl, rfl, ?_, ?_⟩ <;> ((repeat' (first | exact trivial | exact rfl | refine And.intro ?_ ?_)) <;> (try ((conv => whnf); first | refine vint ?_ | refine vboo ?_ | refine rint ?_ | refine rrow ?_ | skip)) <;> (try first | omega | (simp; done) | ((repeat rw [flts_closed _ (by assumption)]); exact vws_closed _ (by assumption)))))
    rw [← map_range_succ]; rfl
  · have h : ¬ x < 2 := by have := of_decide_eq_false h; omega
    obtain rfl : x = 2 := by omega
    conv => whnf
    refine aloopI tyOk mx (fun y : Nat => (⟨44, [(1, .ptr 0 0), (4, .own 1), (6, .c (.int .i64 (y)))], [(0, .cells 42 [.c (.int .i64 (2)), .c (.int .i64 (2)), .c (.int .i64 (z)), .t (.rows m)]), (1, .ints 3 .i64 ((List.range 2).map (fun x => one0 (m.getD (x * 2 + 0) [])) ++ (List.range y).map (fun y => one1 (m.getD (0 * 2 + y) []))))], 2⟩ : St)) (fun y => y ≤ 2) (fun y => 2 - y) 0 (by omega) none (by refine ⟨rfl, rfl, ?_, ?_⟩ <;> ((repeat' (first | exact trivial | exact rfl | refine And.intro ?_ ?_)) <;> (try ((conv => whnf); first | refine vint ?_ | refine vboo ?_ | refine rint ?_ | refine rrow ?_ | skip)) <;> (try first | omega | (simp; done) | ((repeat rw [flts_closed _ (by assumption)]); exact vws_closed _ (by assumption))))) (fun y hy => ?_)
    refine ⟨fun h => ?_, fun h => ?_⟩
    · have h : y < 2 := by have := of_decide_eq_true h; omega
      conv => whnf
      refine ACall.use (l2Row_spec 2 2 0 y z m (by omega) (by omega)) ?_
      conv => whnf
      refine ACall.use (l2One1_spec _ (h4 _ (getD_mem (show 0 * 2 + y < m.length by omega)))) ?_
      conv => whnf
      refine ⟨by simp [room]; omega, ?_⟩
      conv => whnf
      rw [nat_wrap (by omega)]
      refine ⟨y + 1, none, ?_, by omega, by omega⟩
      (refine ⟨rfl, rfl, ?_, ?_⟩ <;> ((repeat' (first | exact trivial | exact rfl | refine And.intro ?_ ?_)) <;> (try ((conv => whnf); first | refine vint ?_ | refine vboo ?_ | refine rint ?_ | refine rrow ?_ | skip)) <;> (try first | omega | (simp; done) | ((repeat rw [flts_closed _ (by assumption)]); exact vws_closed _ (by assumption)))))
      rw [List.append_assoc]; exact congrArg _ (map_range_succ (fun y => one1 (m.getD (0 * 2 + y) [])) y)
    · have h : ¬ y < 2 := by have := of_decide_eq_false h; omega
      obtain rfl : y = 2 := by omega
      conv => whnf
      exact ⟨rfl, rfl⟩

def evenC (z : Int) (l : List Int) : Bool := l.all fun v => W (2 * v) == z
def ebV (x y z : Int) (m : List (List Int)) : Bool := qpB x y z m && evenC z (cntL 2 2 m)
theorem cntL_len (nx ny : Nat) (m : List (List Int)) : (cntL nx ny m).length = nx + ny := by simp [cntL]
theorem IsEvenBox_s (x y z : Int) (m : List (List Int)) (_hx : InR x) (_hy : InR y) (_hz : InR z) (_hm : OkM m) (km : SzM m) :
    FSpec Try.prog 53 [.ag [.c (.int .i64 (x)), .c (.int .i64 (y)), .c (.int .i64 (z)), .t (.rows m)]] (ex (.tu [.c (.bool (ebV x y z m)), .c (.bool (qpB x y z m))]) []) := by
  have hl := cntL_len 2 2 m
  refine fspec tyOk mx Try.func53 rfl (by kernel_rfl) rfl ?_
  conv => whnf
  refine ACall.use (l6Quiet_spec x y z m km) ?_
  conv => whnf
  refine ⟨fun h => ?_, fun h => ?_⟩
  · have h : qpB x y z m = false := by simpa using h
    conv => whnf
    exact ⟨by rw [ebV, h]; rfl, rfl⟩
  · have h : qpB x y z m = true := by simpa using h
    have h' := h
    conv => whnf
    refine ACall.use (AnswerCounts_spec x y z m km h) ?_
    conv => whnf
    refine aloopI tyOk mx (fun k : Nat => (⟨29, [(1, .ptr 0 0), (4, .own 1), (6, .c (.int .i64 (k)))], [(0, .cells 42 [.c (.int .i64 (x)), .c (.int .i64 (y)), .c (.int .i64 (z)), .t (.rows m)]), (1, .ints 3 .i64 (cntL 2 2 m))], 2⟩ : St)) (fun k => k ≤ (cntL 2 2 m).length ∧ ((cntL 2 2 m).take k).all (fun v => W (2 * v) == z) = true) (fun k => (cntL 2 2 m).length - k) 0 ⟨Nat.zero_le _, rfl⟩ none (by refine ⟨rfl, rfl, ?_, ?_⟩ <;> ((repeat' (first | exact trivial | exact rfl | refine And.intro ?_ ?_)) <;> (try ((conv => whnf); first | refine vint ?_ | refine vboo ?_ | refine rint ?_ | refine rrow ?_ | skip)) <;> (try first | omega | (simp; done) | ((repeat rw [flts_closed _ (by assumption)]); exact vws_closed _ (by assumption))))) (fun k hI => ?_)
    obtain ⟨hk, hp⟩ := hI
    refine ⟨fun h => ?_, fun h => ?_⟩
    · have h := ltT h
      refine ADraw.std tyOk mx ⟨by kernel_rfl, k, rfl, h, ?_⟩
      conv => whnf
      refine ⟨fun h2 => ?_, fun h2 => ?_⟩
      · have e : ebV x y z m = false := by
          rw [ebV, evenC, all_false (d := 0) h (by rw [beq_eq_false_iff_ne]; exact bne_iff_ne.1 h2), Bool.and_false]
        conv => whnf
        exact ⟨by rw [e, h'], rfl⟩
      · conv => whnf
        rw [nat_wrap (by omega)]
        exact ⟨k + 1, none, (by refine ⟨rfl, rfl, ?_, ?_⟩ <;> ((repeat' (first | exact trivial | exact rfl | refine And.intro ?_ ?_)) <;> (try ((conv => whnf); first | refine vint ?_ | refine vboo ?_ | refine rint ?_ | refine rrow ?_ | skip)) <;> (try first | omega | (simp; done) | ((repeat rw [flts_closed _ (by assumption)]); exact vws_closed _ (by assumption))))), ⟨by omega, all_take_succ (d := 0) h hp (by rw [beq_iff_eq]; exact bne_eq_false_iff_eq.1 h2)⟩, by omega⟩
    · have h := ltF h
      have e : ebV x y z m = true := by rw [ebV, h', evenC, all_end h hp]; rfl
      conv => whnf
      exact ⟨by rw [e, h'], rfl⟩
theorem IsEvenBox_i (x y z : Int) (m : List (List Int)) (_hx : InR x) (_hy : InR y) (_hz : InR z) (_hm : OkM m) (km : SzM m) :
    FSpec Try.prog 54 [.ag [.c (.int .i64 (x)), .c (.int .i64 (y)), .c (.int .i64 (z)), .t (.rows m)]] (ex (.tu [.c (.bool (ebV x y z m)), .c (.bool (qpB x y z m))]) []) := by
  have hl := cntL_len 2 2 m
  refine fspec tyOk mx Try.func54 rfl (by kernel_rfl) rfl ?_
  conv => whnf
  refine ACall.use (isQuietPair_spec x y z m km) ?_
  conv => whnf
  refine ⟨fun h => ?_, fun h => ?_⟩
  · have h : qpB x y z m = false := by simpa using h
    conv => whnf
    exact ⟨by rw [ebV, h]; rfl, rfl⟩
  · have h : qpB x y z m = true := by simpa using h
    have h' := h
    obtain ⟨rfl, rfl, g1, g2, g3, g4⟩ := qpB_spec h
    conv => whnf
    refine ACall.use (counts_spec 2 2 z m (by omega) (by omega) (by omega) (by omega) g3 (fun r hr => (g4 r hr).1)) ?_
    conv => whnf
    refine aloopI tyOk mx (fun k : Nat => (⟨22, [(1, .ptr 0 0), (10, .own 1), (11, .c (.int .i64 ((cntL 2 2 m).length))), (12, .c (.int .i64 (k)))], [(0, .cells 42 [.c (.int .i64 (2)), .c (.int .i64 (2)), .c (.int .i64 (z)), .t (.rows m)]), (1, .ints 3 .i64 (cntL 2 2 m))], 2⟩ : St)) (fun k => k ≤ (cntL 2 2 m).length ∧ ((cntL 2 2 m).take k).all (fun v => W (2 * v) == z) = true) (fun k => (cntL 2 2 m).length - k) 0 ⟨Nat.zero_le _, rfl⟩ none (by refine ⟨rfl, rfl, ?_, ?_⟩ <;> ((repeat' (first | exact trivial | exact rfl | refine And.intro ?_ ?_)) <;> (try ((conv => whnf); first | refine vint ?_ | refine vboo ?_ | refine rint ?_ | refine rrow ?_ | skip)) <;> (try first | omega | (simp; done) | ((repeat rw [flts_closed _ (by assumption)]); exact vws_closed _ (by assumption))))) (fun k hI => ?_)
    obtain ⟨hk, hp⟩ := hI
    refine ⟨fun h => ?_, fun h => ?_⟩
    · have h := ltT h
      conv => whnf
      refine ⟨k, rfl, h, ?_⟩
      conv => whnf
      refine ⟨fun h2 => ?_, fun h2 => ?_⟩
      · have e : ebV 2 2 z m = false := by
          rw [ebV, evenC, all_false (d := 0) h (by rw [beq_eq_false_iff_ne]; exact bne_iff_ne.1 h2), Bool.and_false]
        conv => whnf
        exact ⟨by rw [e, h'], rfl⟩
      · conv => whnf
        rw [nat_wrap (by omega)]
        exact ⟨k + 1, none, (by refine ⟨rfl, rfl, ?_, ?_⟩ <;> ((repeat' (first | exact trivial | exact rfl | refine And.intro ?_ ?_)) <;> (try ((conv => whnf); first | refine vint ?_ | refine vboo ?_ | refine rint ?_ | refine rrow ?_ | skip)) <;> (try first | omega | (simp; done) | ((repeat rw [flts_closed _ (by assumption)]); exact vws_closed _ (by assumption))))), ⟨by omega, all_take_succ (d := 0) h hp (by rw [beq_iff_eq]; exact bne_eq_false_iff_eq.1 h2)⟩, by omega⟩
    · have h := ltF h
      have e : ebV 2 2 z m = true := by rw [ebV, h', evenC, all_end h hp]; rfl
      conv => whnf
      exact ⟨by rw [e, h'], rfl⟩
end Go.Proofs.Ytgefdbihdliolaa
