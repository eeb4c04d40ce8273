/- Parts of quiet boxes; even boxes: reference and program. -/
import Derived.Test.YtkomndcehdneaaaM2
namespace Go.Proofs.Ytkomndcehdneaaa
open Go.Aw
set_option maxRecDepth 100000
set_option maxHeartbeats 4000000
def esBest (m : List (List Int)) : Nat := bIx (fun i => (esL m).getD i 0) 7
def partN (z s : Int) : Int := W (Int.tdiv (if W (s - W (2 * z)) > 0 then W (s - W (2 * z)) else 0) 2)
theorem esL_len (m : List (List Int)) : (esL m).length = 8 := by simp [esL]

theorem l1Mst_spec (a b : Int) : FSpec Try.prog 165 [.c (.int .i64 a), .c (.int .i64 b)] (ex (.c (.int .i64 (if a > b then a else b))) []) := by
  refine fspec tyOk mx Try.func165 rfl (by kernel_rfl) rfl ?_
  conv => whnf
  refine ⟨fun h => ?_, fun h => ?_⟩
  · have h := of_decide_eq_true h
    conv => whnf
    exact ⟨by rw [if_pos h], rfl⟩
  · have h := of_decide_eq_false h
    conv => whnf
    exact ⟨by rw [if_neg h], rfl⟩
theorem l6Part_spec (z : Int) (m : List (List Int)) (hm : m.length = 4) (h4 : ∀ r, r ∈ m → r.length = 4) :
    FSpec Try.prog 186 [.ag [.c (.int .i64 (2)), .c (.int .i64 (2)), .c (.int .i64 (z)), .t (.rows m)]] (ex (.tu [.c (.int .i64 (esBest m)), .c (.int .i64 (partN z ((esL m).getD (esBest m) 0)))]) []) := by
  have hl := esL_len m
  refine fspec tyOk mx Try.func186 rfl (by kernel_rfl) rfl ?_
  conv => whnf
  refine ACall.use (l6Sums_spec z m hm h4) ?_
  conv => whnf
  refine aloopI tyOk mx (fun k : Nat => (⟨36, [(1, .ptr 0 0), (4, .own 1), (5, .c (.int .i64 (bIx (fun i => (esL m).getD i 0) k))), (6, .c (.int .i64 ((k + 1 : Nat))))], [(0, .cells 53 [.c (.int .i64 (2)), .c (.int .i64 (2)), .c (.int .i64 (z)), .t (.rows m)]), (1, .ints 3 .i64 (esL m))], 2⟩ : St)) (fun k => k + 1 ≤ 8) (fun k => 8 - k) 0 (by omega) none (by refine ⟨rfl, rfl, ?_, ?_⟩ <;> ((repeat' (first | exact trivial | exact rfl | refine And.intro ?_ ?_)) <;> (try ((conv => whnf); first | refine vint ?_ | refine vboo ?_ | refine rint ?_ | refine rrow ?_ | skip)) <;> (try first | omega | (simp; done) | ((repeat rw [flts_closed _ (by assumption)]); exact vws_closed _ (by assumption))))) (fun k hk => ?_)
  have hb := bIx_le (fun i => (esL m).getD i 0) k
  refine ⟨fun h => ?_, fun h => ?_⟩
  · have h := ltT h
    refine ADraw.std tyOk mx ⟨by kernel_rfl, k + 1, rfl, h, bIx (fun i => (esL m).getD i 0) k, rfl, by omega, ?_⟩
    conv => whnf
    refine ⟨fun h6 => ?_, fun h6 => ?_⟩
    · have e : bIx (fun i => (esL m).getD i 0) (k + 1) = k + 1 := if_pos (of_decide_eq_true h6)
      conv => whnf
      rw [nat_wrap (by omega)]
      refine ⟨k + 1, none, ?_, by omega, by omega⟩
      dsimp only
      rw [e]
      (refine ⟨rfl, rfl, ?_, ?_⟩ <;> ((repeat' (first | exact trivial | exact rfl | refine And.intro ?_ ?_)) <;> (try ((conv => whnf); first | refine vint ?_ | refine vboo ?_ | refine rint ?_ | refine rrow ?_ | skip)) <;> (try first | omega | (simp; done) | ((repeat rw [flts_closed _ (by assumption)]); exact vws_closed _ (by assumption)))))
    · have e : bIx (fun i => (esL m).getD i 0) (k + 1) = bIx (fun i => (esL m).getD i 0) k := if_neg (of_decide_eq_false h6)
      conv => whnf
      rw [nat_wrap (by omega)]
      refine ⟨k + 1, none, ?_, by omega, by omega⟩
      dsimp only
      rw [e]
      (refine ⟨rfl, rfl, ?_, ?_⟩ <;> ((repeat' (first | exact trivial | exact rfl | refine And.intro ?_ ?_)) <;> (try ((conv => whnf); first | refine vint ?_ | refine vboo ?_ | refine rint ?_ | refine rrow ?_ | skip)) <;> (try first | omega | (simp; done) | ((repeat rw [flts_closed _ (by assumption)]); exact vws_closed _ (by assumption)))))
  · have h := ltF h
    obtain rfl : k = 7 := by omega
    conv => whnf
    refine ADraw.std tyOk mx ⟨by kernel_rfl, esBest m, rfl, by unfold esBest; omega, ?_⟩
    conv => whnf
    refine QCall.use (l1Mst_spec _ _) ?_
    conv => whnf
    refine ⟨by decide, ?_⟩
    conv => whnf
    exact ⟨rfl, rfl⟩
theorem tdiv2 (a : Int) : (0 ≤ a → a.tdiv 2 = a / 2) ∧ (a ≤ 0 → a.tdiv 2 = -((-a) / 2)) := by
  refine ⟨fun h => Int.tdiv_eq_ediv_of_nonneg h, fun h => ?_⟩
  have e : a.tdiv 2 = -((-a).tdiv 2) := by rw [Int.neg_tdiv, Int.neg_neg]
  rw [e, Int.tdiv_eq_ediv_of_nonneg (by omega)]
theorem part_eq (z s : Int) : (if IntKind.i64.wrap (Int.tdiv (IntKind.i64.wrap (s - IntKind.i64.wrap (2 * z))) 2) > 0 then IntKind.i64.wrap (Int.tdiv (IntKind.i64.wrap (s - IntKind.i64.wrap (2 * z))) 2) else 0) = partN z s := by
  unfold partN
  show (if IntKind.i64.wrap (Int.tdiv (W (s - W (2 * z))) 2) > 0 then IntKind.i64.wrap (Int.tdiv (W (s - W (2 * z))) 2) else 0) = _
  have hb : -9223372036854775808 ≤ W (s - W (2 * z)) ∧ W (s - W (2 * z)) ≤ 9223372036854775807 := by
    show -9223372036854775808 ≤ IntKind.i64.wrap _ ∧ IntKind.i64.wrap _ ≤ _
    rw [IntKind.wrap_i64]; omega
  generalize W (s - W (2 * z)) = a at hb ⊢
  obtain ⟨h1, h2⟩ := tdiv2 a
  by_cases h : a > 0
  · have h1 := h1 (by omega)
    have e1 : IntKind.i64.wrap (a.tdiv 2) = a.tdiv 2 := w64 (by omega) (by omega)
    rw [if_pos h, e1]
    show _ = IntKind.i64.wrap (a.tdiv 2)
    rw [e1]
    split <;> omega
  · have h2 := h2 (by omega)
    have e1 : IntKind.i64.wrap (a.tdiv 2) = a.tdiv 2 := w64 (by omega) (by omega)
    rw [if_neg h, e1]
    have : W (Int.tdiv 0 2) = 0 := rfl
    rw [this]
    split <;> omega
theorem part_spec (z : Int) (m : List (List Int)) (hm : m.length = 4) (h4 : ∀ r, r ∈ m → r.length = 4) :
    FSpec Try.prog 182 [.ag [.c (.int .i64 (2)), .c (.int .i64 (2)), .c (.int .i64 (z)), .t (.rows m)]] (ex (.tu [.c (.int .i64 (esBest m)), .c (.int .i64 (partN z ((esL m).getD (esBest m) 0)))]) []) := by
  have hl := esL_len m
  refine fspec tyOk mx Try.func182 rfl (by kernel_rfl) rfl ?_
  conv => whnf
  refine ACall.use (eightSums_spec z m hm h4) ?_
  conv => whnf
  refine aloopI tyOk mx (fun k : Nat => match k with
    | 0 => (⟨36, [(1, .ptr 0 0), (4, .c (.int .i64 ((0 : Nat)))), (5, .own 1), (10, .own 1), (11, .c (.int .i64 ((esL m).length))), (12, .c (.int .i64 ((0 : Nat))))], [(0, .cells 53 [.c (.int .i64 (2)), .c (.int .i64 (2)), .c (.int .i64 (z)), .t (.rows m)]), (1, .ints 3 .i64 (esL m))], 2⟩ : St)
    | k + 1 => (⟨36, [(1, .ptr 0 0), (4, .c (.int .i64 (bIx (fun i => (esL m).getD i 0) k))), (5, .own 1), (10, .own 1), (11, .c (.int .i64 ((esL m).length))), (12, .c (.int .i64 ((k + 1 : Nat))))], [(0, .cells 53 [.c (.int .i64 (2)), .c (.int .i64 (2)), .c (.int .i64 (z)), .t (.rows m)]), (1, .ints 3 .i64 (esL m))], 2⟩ : St)) (fun k => k ≤ 8) (fun k => 8 - k) 0 (by omega) none (by refine ⟨rfl, rfl, ?_, ?_⟩ <;> ((repeat' (first | exact trivial | exact rfl | refine And.intro ?_ ?_)) <;> (try ((conv => whnf); first | refine vint ?_ | refine vboo ?_ | refine rint ?_ | refine rrow ?_ | skip)) <;> (try first | omega | (simp; done) | ((repeat rw [flts_closed _ (by assumption)]); exact vws_closed _ (by assumption))))) (fun k hk => ?_)
  match k, hk with
  | 0, hk =>
    refine ⟨fun h => ?_, fun h => ?_⟩
    · conv => whnf
      refine ⟨0, rfl, by omega, ?_⟩
      conv => whnf
      refine ⟨0, rfl, by omega, ?_⟩
      conv => whnf
      refine ⟨fun h6 => ?_, fun h6 => ?_⟩
      · have := of_decide_eq_true h6
        omega
      · conv => whnf
        rw [nat_wrap (by omega)]
        refine ⟨1, none, ?_, by omega, by omega⟩
        (refine ⟨rfl, rfl, ?_, ?_⟩ <;> ((repeat' (first | exact trivial | exact rfl | refine And.intro ?_ ?_)) <;> (try ((conv => whnf); first | refine vint ?_ | refine vboo ?_ | refine rint ?_ | refine rrow ?_ | skip)) <;> (try first | omega | (simp; done) | ((repeat rw [flts_closed _ (by assumption)]); exact vws_closed _ (by assumption)))))
    · have h := ltF h
      omega
  | k + 1, hk =>
    have hb := bIx_le (fun i => (esL m).getD i 0) k
    refine ⟨fun h => ?_, fun h => ?_⟩
    · have h := ltT h
      conv => whnf
      refine ⟨k + 1, rfl, h, ?_⟩
      conv => whnf
      refine ⟨bIx (fun i => (esL m).getD i 0) k, rfl, by omega, ?_⟩
      conv => whnf
      refine ⟨fun h6 => ?_, fun h6 => ?_⟩
      · have e : bIx (fun i => (esL m).getD i 0) (k + 1) = k + 1 := if_pos (of_decide_eq_true h6)
        conv => whnf
        rw [nat_wrap (by omega)]
        refine ⟨k + 2, none, ?_, by omega, by omega⟩
        dsimp only
        rw [e]
        (refine ⟨rfl, rfl, ?_, ?_⟩ <;> ((repeat' (first | exact trivial | exact rfl | refine And.intro ?_ ?_)) <;> (try ((conv => whnf); first | refine vint ?_ | refine vboo ?_ | refine rint ?_ | refine rrow ?_ | skip)) <;> (try first | omega | (simp; done) | ((repeat rw [flts_closed _ (by assumption)]); exact vws_closed _ (by assumption)))))
      · have e : bIx (fun i => (esL m).getD i 0) (k + 1) = bIx (fun i => (esL m).getD i 0) k := if_neg (of_decide_eq_false h6)
        conv => whnf
        rw [nat_wrap (by omega)]
        refine ⟨k + 2, none, ?_, by omega, by omega⟩
        dsimp only
        rw [e]
        (refine ⟨rfl, rfl, ?_, ?_⟩ <;> ((repeat' (first | exact trivial | exact rfl | refine And.intro ?_ ?_)) <;> (try ((conv => whnf); first | refine vint ?_ | refine vboo ?_ | refine rint ?_ | refine rrow ?_ | skip)) <;> (try first | omega | (simp; done) | ((repeat rw [flts_closed _ (by assumption)]); exact vws_closed _ (by assumption)))))
    · have h := ltF h
      obtain rfl : k = 7 := by omega
      conv => whnf
      refine ADraw.std tyOk mx ⟨by kernel_rfl, esBest m, rfl, by unfold esBest; omega, ?_⟩
      conv => whnf
      refine ⟨by decide, ?_⟩
      conv => whnf
      exact ⟨by rw [← part_eq]; rfl, rfl⟩

def poK (x y z : Int) (m : List (List Int)) : Int := if qpB x y z m then (esBest m : Int) else 0
def poN (x y z : Int) (m : List (List Int)) : Int := if qpB x y z m then partN z ((esL m).getD (esBest m) 0) else 0
theorem PartOf_s (x y z : Int) (m : List (List Int)) (_hx : InR x) (_hy : InR y) (_hz : InR z) (_hm : OkM m) (km : SzM m) :
    FSpec Try.prog 69 [.ag [.c (.int .i64 (x)), .c (.int .i64 (y)), .c (.int .i64 (z)), .t (.rows m)]] (ex (.tu [.c (.int .i64 (poK x y z m)), .c (.int .i64 (poN x y z m)), .c (.bool (qpB x y z m))]) []) := by
  refine fspec tyOk mx Try.func69 rfl (by kernel_rfl) rfl ?_
  conv => whnf
  refine ACall.use (l6Quiet_spec x y z m km) ?_
  conv => whnf
  refine ⟨fun h => ?_, fun h => ?_⟩
  · have h : qpB x y z m = false := by simpa using h
    conv => whnf
    exact ⟨by rw [poK, poN, h]; rfl, rfl⟩
  · have h : qpB x y z m = true := by simpa using h
    have h' := h
    obtain ⟨rfl, rfl, g1, g2, g3, g4⟩ := qpB_spec h
    conv => whnf
    refine ACall.use (l6Part_spec z m g3 (fun r hr => (g4 r hr).1)) ?_
    conv => whnf
    exact ⟨by rw [poK, poN, h']; rfl, rfl⟩
theorem PartOf_i (x y z : Int) (m : List (List Int)) (_hx : InR x) (_hy : InR y) (_hz : InR z) (_hm : OkM m) (km : SzM m) :
    FSpec Try.prog 68 [.ag [.c (.int .i64 (x)), .c (.int .i64 (y)), .c (.int .i64 (z)), .t (.rows m)]] (ex (.tu [.c (.int .i64 (poK x y z m)), .c (.int .i64 (poN x y z m)), .c (.bool (qpB x y z m))]) []) := by
  refine fspec tyOk mx Try.func68 rfl (by kernel_rfl) rfl ?_
  conv => whnf
  refine ACall.use (isQuietPair_spec x y z m km) ?_
  conv => whnf
  refine ⟨fun h => ?_, fun h => ?_⟩
  · have h : qpB x y z m = false := by simpa using h
    conv => whnf
    exact ⟨by rw [poK, poN, h]; rfl, rfl⟩
  · have h : qpB x y z m = true := by simpa using h
    have h' := h
    obtain ⟨rfl, rfl, g1, g2, g3, g4⟩ := qpB_spec h
    conv => whnf
    refine ACall.use (part_spec z m g3 (fun r hr => (g4 r hr).1)) ?_
    conv => whnf
    exact ⟨by rw [poK, poN, h']; rfl, rfl⟩

/-- the sums for the answer 1 -/
def cntL (nx ny : Nat) (m : List (List Int)) : List Int := (List.range nx).map (fun x => one0 (m.getD (x * ny + 0) [])) ++ (List.range ny).map (fun y => one1 (m.getD (0 * ny + y) []))
theorem counts_spec (nx ny : Nat) (z : Int) (m : List (List Int)) (hx : nx ≤ 3) (hy : ny ≤ 3) (hy1 : 1 ≤ ny) (hx1 : 1 ≤ nx) (hm : m.length = nx * ny) (h4 : ∀ r, r ∈ m → r.length = 4) :
    FSpec Try.prog 224 [.ag [.c (.int .i64 (nx)), .c (.int .i64 (ny)), .c (.int .i64 (z)), .t (.rows m)]] (ex (.own 0) [(0, .ints 3 .i64 (cntL nx ny m))]) := by
  have hn : nx * ny ≤ 3 * 3 := Nat.mul_le_mul hx hy
  refine fspec tyOk mx Try.func224 rfl (by kernel_rfl) rfl ?_
  conv => whnf
  refine ACall.use (questions_spec _ _ _ _) ?_
  conv => whnf
  refine aloopI tyOk mx (fun p : Nat => (⟨29, [(1, .ptr 0 0), (3, .own 1), (4, .ptr 2 0), (10, .c (.int .i64 (p)))], [(0, .cells 53 [.c (.int .i64 (nx)), .c (.int .i64 (ny)), .c (.int .i64 (z)), .t (.rows m)]), (1, .ints 3 .i64 (match p with | 0 => [] | 1 => (List.range nx).map (fun x => one0 (m.getD (x * ny + 0) [])) | _ => cntL nx ny m)), (2, .cells 158 [.c (.int .i64 (nx)), .c (.int .i64 (ny))])], 3⟩ : St)) (fun p => p ≤ 2) (fun p => 2 - p) 0 (by omega) none (by refine ⟨rfl, rfl, ?_, ?_⟩ <;> ((repeat' (first | exact trivial | exact rfl | refine And.intro ?_ ?_)) <;> (try ((conv => whnf); first | refine vint ?_ | refine vboo ?_ | refine rint ?_ | refine rrow ?_ | skip)) <;> (try first | omega | (simp; done) | ((repeat rw [flts_closed _ (by assumption)]); exact vws_closed _ (by assumption))))) (fun p hp => ?_)
  refine ⟨fun h => ?_, fun h => ?_⟩
  · have h : p < 2 := by have := of_decide_eq_true h; omega
    have hp2 : p = 0 ∨ p = 1 := by omega
    rcases hp2 with rfl | rfl
    · conv => whnf
      refine ⟨0, rfl, by omega, by simp, ?_⟩
      conv => whnf
      refine aloopI tyOk mx (fun x : Nat => (⟨29, [(1, .ptr 0 0), (3, .own 1), (4, .ptr 2 0), (5, .c (.int .i64 ((0 : Nat)))), (10, .c (.int .i64 ((0 : Nat)))), (15, .c (.int .i64 (nx))), (16, .c (.int .i64 (x)))], [(0, .cells 53 [.c (.int .i64 (nx)), .c (.int .i64 (ny)), .c (.int .i64 (z)), .t (.rows m)]), (1, .ints 3 .i64 ((List.range x).map (fun x => one0 (m.getD (x * ny + 0) [])))), (2, .cells 158 [.c (.int .i64 (nx)), .c (.int .i64 (ny))])], 3⟩ : St)) (fun x => x ≤ nx) (fun x => nx - x) 0 (Nat.zero_le _) none (by refine ⟨rfl, rfl, ?_, ?_⟩ <;> ((repeat' (first | exact trivial | exact rfl | refine And.intro ?_ ?_)) <;> (try ((conv => whnf); first | refine vint ?_ | refine vboo ?_ | refine rint ?_ | refine rrow ?_ | skip)) <;> (try first | omega | (simp; done) | ((repeat rw [flts_closed _ (by assumption)]); exact vws_closed _ (by assumption))))) (fun x hx2 => ?_)
      refine ⟨fun h2 => ?_, fun h2 => ?_⟩
      · have h2 := ltT h2
        have hlt := ix_lt h2 (show 0 < ny by omega)
        conv => whnf
        refine ACall.use (ones0_spec nx ny x 0 z m (by omega) (by omega) h4) ?_
        conv => whnf
        refine ⟨by simp [room]; omega, ?_⟩
        conv => whnf
        rw [nat_wrap (by omega)]
        refine ⟨x + 1, none, ?_, by omega, by omega⟩
        (refine ⟨rfl, rfl, ?_, ?_⟩ <;> ((repeat' (first | exact trivial | exact rfl | refine And.intro ?_ ?_)) <;> (try ((conv => whnf); first | refine vint ?_ | refine vboo ?_ | refine rint ?_ | refine rrow ?_ | skip)) <;> (try first | omega | (simp; done) | ((repeat rw [flts_closed _ (by assumption)]); exact vws_closed _ (by assumption)))))
        rw [← map_range_succ]; rfl
      · have h2 := ltF h2
        obtain rfl : x = nx := by omega
        conv => whnf
        exact ⟨1, none, (by refine ⟨rfl, rfl, ?_, ?_⟩ <;> ((repeat' (first | exact trivial | exact rfl | refine And.intro ?_ ?_)) <;> (try ((conv => whnf); first | refine vint ?_ | refine vboo ?_ | refine rint ?_ | refine rrow ?_ | skip)) <;> (try first | omega | (simp; done) | ((repeat rw [flts_closed _ (by assumption)]); exact vws_closed _ (by assumption))))), by omega, by omega⟩
    · conv => whnf
      refine ⟨1, rfl, by omega, by simp, ?_⟩
      conv => whnf
      refine aloopI tyOk mx (fun y : Nat => (⟨29, [(1, .ptr 0 0), (3, .own 1), (4, .ptr 2 0), (5, .c (.int .i64 ((1 : Nat)))), (10, .c (.int .i64 ((1 : Nat)))), (15, .c (.int .i64 (ny))), (16, .c (.int .i64 (y)))], [(0, .cells 53 [.c (.int .i64 (nx)), .c (.int .i64 (ny)), .c (.int .i64 (z)), .t (.rows m)]), (1, .ints 3 .i64 ((List.range nx).map (fun x => one0 (m.getD (x * ny + 0) [])) ++ (List.range y).map (fun y => one1 (m.getD (0 * ny + y) [])))), (2, .cells 158 [.c (.int .i64 (nx)), .c (.int .i64 (ny))])], 3⟩ : St)) (fun y => y ≤ ny) (fun y => ny - y) 0 (Nat.zero_le _) none (by refine ⟨rfl, rfl, ?_, ?_⟩ <;> ((repeat' (first | exact trivial | exact rfl | refine And.intro ?_ ?_)) <;> (try ((conv => whnf); first | refine vint ?_ | refine vboo ?_ | refine rint ?_ | refine rrow ?_ | skip)) <;> (try first | omega | (simp; done) | ((repeat rw [flts_closed _ (by assumption)]); exact vws_closed _ (by assumption))))) (fun y hy2 => ?_)
      refine ⟨fun h2 => ?_, fun h2 => ?_⟩
      · have h2 := ltT h2
        have hlt := ix_lt (show 0 < nx by omega) h2
        conv => whnf
        refine ACall.use (ones1_spec nx ny y 0 z m (by omega) (by omega) h4) ?_
        conv => whnf
        refine ⟨by simp [room]; omega, ?_⟩
        conv => whnf
        rw [nat_wrap (by omega)]
        refine ⟨y + 1, none, ?_, by omega, by omega⟩
        (refine ⟨rfl, rfl, ?_, ?_⟩ <;> ((repeat' (first | exact trivial | exact rfl | refine And.intro ?_ ?_)) <;> (try ((conv => whnf); first | refine vint ?_ | refine vboo ?_ | refine rint ?_ | refine rrow ?_ | skip)) <;> (try first | omega | (simp; done) | ((repeat rw [flts_closed _ (by assumption)]); exact vws_closed _ (by assumption)))))
        rw [← map_range_succ, ← List.append_assoc]; rfl
      · have h2 := ltF h2
        obtain rfl : y = ny := by omega
        conv => whnf
        exact ⟨2, none, (by refine ⟨rfl, rfl, ?_, ?_⟩ <;> ((repeat' (first | exact trivial | exact rfl | refine And.intro ?_ ?_)) <;> (try ((conv => whnf); first | refine vint ?_ | refine vboo ?_ | refine rint ?_ | refine rrow ?_ | skip)) <;> (try first | omega | (simp; done) | ((repeat rw [flts_closed _ (by assumption)]); exact vws_closed _ (by assumption))))), by omega, by omega⟩
  · have h : ¬ p < 2 := by have := of_decide_eq_false h; omega
    obtain rfl : p = 2 := by omega
    conv => whnf
    exact ⟨rfl, rfl⟩

theorem AnswerCounts_spec (x y z : Int) (m : List (List Int)) (km : SzM m) (hq : qpB x y z m = true) :
    FSpec Try.prog 225 [.ag [.c (.int .i64 (x)), .c (.int .i64 (y)), .c (.int .i64 (z)), .t (.rows m)]] (ex (.tu [.own 0, .c (.bool true)]) [(0, .ints 3 .i64 (cntL 2 2 m))]) := by
  have hq2 := hq
  simp only [qpB, pairB, Bool.and_eq_true] at hq2
  have hg := hq2.1.1
  have hqq := hq2.2
  obtain ⟨rfl, rfl, g1, g2, g3, g4⟩ := qpB_spec hq
  have h4 : ∀ r, r ∈ m → r.length = 4 := fun r hr => (g4 r hr).1
  refine fspec tyOk mx Try.func225 rfl (by kernel_rfl) rfl ?_
  conv => whnf
  refine ACall.use (l2Box_spec _ _ z m km) ?_
  rw [hg]
  conv => whnf
  refine ⟨fun _ => ?_, fun h => absurd h (by decide)⟩
  conv => whnf
  refine ACall.use (l2Quiet_spec 2 2 z m (by omega) (by omega) (by omega) (by omega) g3 h4) ?_
  rw [hqq]
  conv => whnf
  refine ⟨fun h => absurd h (by decide), fun _ => ?_⟩
  conv => whnf
  refine aloopI tyOk mx (fun x : Nat => (⟨44, [(1, .ptr 0 0), (4, .own 1), (5, .c (.int .i64 (x)))], [(0, .cells 53 [.c (.int .i64 (2)), .c (.int .i64 (2)), .c (.int .i64 (z)), .t (.rows m)]), (1, .ints 3 .i64 ((List.range x).map (fun x => one0 (m.getD (x * 2 + 0) []))))], 2⟩ : St)) (fun x => x ≤ 2) (fun x => 2 - x) 0 (by omega) none (by refine ⟨rfl, rfl, ?_, ?_⟩ <;> ((repeat' (first | exact trivial | exact rfl | refine And.intro ?_ ?_)) <;> (try ((conv => whnf); first | refine vint ?_ | refine vboo ?_ | refine rint ?_ | refine rrow ?_ | skip)) <;> (try first | omega | (simp; done) | ((repeat rw [flts_closed _ (by assumption)]); exact vws_closed _ (by assumption))))) (fun x hx => ?_)
  refine ⟨fun h => ?_, fun h => ?_⟩
  · have h : x < 2 := by have := of_decide_eq_true h; omega
    conv => whnf
    refine ACall.use (l2Row_spec 2 2 x 0 z m (by omega) (by omega)) ?_
    conv => whnf
    refine ACall.use (l2One0_spec _ (h4 _ (getD_mem (show x * 2 + 0 < m.length by omega)))) ?_
    conv => whnf
    refine ⟨by simp [room]; omega, ?_⟩
    conv => whnf
    rw [nat_wrap (by omega)]
    refine ⟨x + 1, none, ?_, by omega, by omega⟩
    (refine ⟨rfl, rfl, ?_, ?_⟩ <;> ((repeat' (first | exact trivial | exact rfl | refine And.intro ?_ ?_)) <;> (try ((conv => whnf); first | refine vint ?_ | refine vboo ?_ | refine rint ?_ | refine rrow ?_ | skip)) <;> (try first | omega | (simp; done) | ((repeat rw [flts_closed _ (by assumption)]); exact vws_closed _ (by assumption)))))
    rw [← map_range_succ]; rfl
  · have h : ¬ x < 2 := by have := of_decide_eq_false h; omega
    obtain rfl : x = 2 := by omega
    conv => whnf
    refine aloopI tyOk mx (fun y : Nat => (⟨44, [(1, .ptr 0 0), (4, .own 1), (6, .c (.int .i64 (y)))], [(0, .cells 53 [.c (.int .i64 (2)), .c (.int .i64 (2)), .c (.int .i64 (z)), .t (.rows m)]), (1, .ints 3 .i64 ((List.range 2).map (fun x => one0 (m.getD (x * 2 + 0) [])) ++ (List.range y).map (fun y => one1 (m.getD (0 * 2 + y) []))))], 2⟩ : St)) (fun y => y ≤ 2) (fun y => 2 - y) 0 (by omega) none (by refine ⟨rfl, rfl, ?_, ?_⟩ <;> ((repeat' (first | exact trivial | exact rfl | refine And.intro ?_ ?_)) <;> (try ((conv => whnf); first | refine vint ?_ | refine vboo ?_ | refine rint ?_ | refine rrow ?_ | skip)) <;> (try first | omega | (simp; done) | ((repeat rw [flts_closed _ (by assumption)]); exact vws_closed _ (by assumption))))) (fun y hy => ?_)
    refine ⟨fun h => ?_, fun h => ?_⟩
    · have h : y < 2 := by have := of_decide_eq_true h; omega
      conv => whnf
      refine ACall.use (l2Row_spec 2 2 0 y z m (by omega) (by omega)) ?_
      conv => whnf
      refine ACall.use (l2One1_spec _ (h4 _ (getD_mem (show 0 * 2 + y < m.length by omega)))) ?_
      conv => whnf
      refine ⟨by simp [room]; omega, ?_⟩
      conv => whnf
      rw [nat_wrap (by omega)]
      refine ⟨y + 1, none, ?_, by omega, by omega⟩
      (refine ⟨rfl, rfl, ?_, ?_⟩ <;> ((repeat' (first | exact trivial | exact rfl | refine And.intro ?_ ?_)) <;> (try ((conv => whnf); first | refine vint ?_ | refine vboo ?_ | refine rint ?_ | refine rrow ?_ | skip)) <;> (try first | omega | (simp; done) | ((repeat rw [flts_closed _ (by assumption)]); exact vws_closed _ (by assumption)))))
      rw [List.append_assoc]; exact congrArg _ (map_range_succ (fun y => one1 (m.getD (0 * 2 + y) [])) y)
    · have h : ¬ y < 2 := by have := of_decide_eq_false h; omega
      obtain rfl : y = 2 := by omega
      conv => whnf
      exact ⟨rfl, rfl⟩

def evenC (z : Int) (l : List Int) : Bool := l.all fun v => W (2 * v) == z
def ebV (x y z : Int) (m : List (List Int)) : Bool := qpB x y z m && evenC z (cntL 2 2 m)
theorem cntL_len (nx ny : Nat) (m : List (List Int)) : (cntL nx ny m).length = nx + ny := by simp [cntL]
theorem IsEvenBox_s (x y z : Int) (m : List (List Int)) (_hx : InR x) (_hy : InR y) (_hz : InR z) (_hm : OkM m) (km : SzM m) :
    FSpec Try.prog 113 [.ag [.c (.int .i64 (x)), .c (.int .i64 (y)), .c (.int .i64 (z)), .t (.rows m)]] (ex (.tu [.c (.bool (ebV x y z m)), .c (.bool (qpB x y z m))]) []) := by
  have hl := cntL_len 2 2 m
  refine fspec tyOk mx Try.func113 rfl (by kernel_rfl) rfl ?_
  conv => whnf
  refine ACall.use (l6Quiet_spec x y z m km) ?_
  conv => whnf
  refine ⟨fun h => ?_, fun h => ?_⟩
  · have h : qpB x y z m = false := by simpa using h
    conv => whnf
    exact ⟨by rw [ebV, h]; rfl, rfl⟩
  · have h : qpB x y z m = true := by simpa using h
    have h' := h
    conv => whnf
    refine ACall.use (AnswerCounts_spec x y z m km h) ?_
    conv => whnf
    refine aloopI tyOk mx (fun k : Nat => (⟨29, [(1, .ptr 0 0), (4, .own 1), (6, .c (.int .i64 (k)))], [(0, .cells 53 [.c (.int .i64 (x)), .c (.int .i64 (y)), .c (.int .i64 (z)), .t (.rows m)]), (1, .ints 3 .i64 (cntL 2 2 m))], 2⟩ : St)) (fun k => k ≤ (cntL 2 2 m).length ∧ ((cntL 2 2 m).take k).all (fun v => W (2 * v) == z) = true) (fun k => (cntL 2 2 m).length - k) 0 ⟨Nat.zero_le _, rfl⟩ none (by refine ⟨rfl, rfl, ?_, ?_⟩ <;> ((repeat' (first | exact trivial | exact rfl | refine And.intro ?_ ?_)) <;> (try ((conv => whnf); first | refine vint ?_ | refine vboo ?_ | refine rint ?_ | refine rrow ?_ | skip)) <;> (try first | omega | (simp; done) | ((repeat rw [flts_closed _ (by assumption)]); exact vws_closed _ (by assumption))))) (fun k hI => ?_)
    obtain ⟨hk, hp⟩ := hI
    refine ⟨fun h => ?_, fun h => ?_⟩
    · have h := ltT h
      refine ADraw.std tyOk mx ⟨by kernel_rfl, k, rfl, h, ?_⟩
      conv => whnf
      refine ⟨fun h2 => ?_, fun h2 => ?_⟩
      · have e : ebV x y z m = false := by
          rw [ebV, evenC, all_false (d := 0) h (by rw [beq_eq_false_iff_ne]; exact bne_iff_ne.1 h2), Bool.and_false]
        conv => whnf
        exact ⟨by rw [e, h'], rfl⟩
      · conv => whnf
        rw [nat_wrap (by omega)]
        exact ⟨k + 1, none, (by refine ⟨rfl, rfl, ?_, ?_⟩ <;> ((repeat' (first | exact trivial | exact rfl | refine And.intro ?_ ?_)) <;> (try ((conv => whnf); first | refine vint ?_ | refine vboo ?_ | refine rint ?_ | refine rrow ?_ | skip)) <;> (try first | omega | (simp; done) | ((repeat rw [flts_closed _ (by assumption)]); exact vws_closed _ (by assumption))))), ⟨by omega, all_take_succ (d := 0) h hp (by rw [beq_iff_eq]; exact bne_eq_false_iff_eq.1 h2)⟩, by omega⟩
    · have h := ltF h
      have e : ebV x y z m = true := by rw [ebV, h', evenC, all_end h hp]; rfl
      conv => whnf
      exact ⟨by rw [e, h'], rfl⟩
theorem IsEvenBox_i (x y z : Int) (m : List (List Int)) (_hx : InR x) (_hy : InR y) (_hz : InR z) (_hm : OkM m) (km : SzM m) :
    FSpec Try.prog 112 [.ag [.c (.int .i64 (x)), .c (.int .i64 (y)), .c (.int .i64 (z)), .t (.rows m)]] (ex (.tu [.c (.bool (ebV x y z m)), .c (.bool (qpB x y z m))]) []) := by
  have hl := cntL_len 2 2 m
  refine fspec tyOk mx Try.func112 rfl (by kernel_rfl) rfl ?_
  conv => whnf
  refine ACall.use (isQuietPair_spec x y z m km) ?_
  conv => whnf
  refine ⟨fun h => ?_, fun h => ?_⟩
  · have h : qpB x y z m = false := by simpa using h
    conv => whnf
    exact ⟨by rw [ebV, h]; rfl, rfl⟩
  · have h : qpB x y z m = true := by simpa using h
    have h' := h
    obtain ⟨rfl, rfl, g1, g2, g3, g4⟩ := qpB_spec h
    conv => whnf
    refine ACall.use (counts_spec 2 2 z m (by omega) (by omega) (by omega) (by omega) g3 (fun r hr => (g4 r hr).1)) ?_
    conv => whnf
    refine aloopI tyOk mx (fun k : Nat => (⟨22, [(1, .ptr 0 0), (10, .own 1), (11, .c (.int .i64 ((cntL 2 2 m).length))), (12, .c (.int .i64 (k)))], [(0, .cells 53 [.c (.int .i64 (2)), .c (.int .i64 (2)), .c (.int .i64 (z)), .t (.rows m)]), (1, .ints 3 .i64 (cntL 2 2 m))], 2⟩ : St)) (fun k => k ≤ (cntL 2 2 m).length ∧ ((cntL 2 2 m).take k).all (fun v => W (2 * v) == z) = true) (fun k => (cntL 2 2 m).length - k) 0 ⟨Nat.zero_le _, rfl⟩ none (by refine ⟨rfl, rfl, ?_, ?_⟩ <;> ((repeat' (first | exact trivial | exact rfl | refine And.intro ?_ ?_)) <;> (try ((conv => whnf); first | refine vint ?_ | refine vboo ?_ | refine rint ?_ | refine rrow ?_ | skip)) <;> (try first | omega | (simp; done) | ((repeat rw [flts_closed _ (by assumption)]); exact vws_closed _ (by assumption))))) (fun k hI => ?_)
    obtain ⟨hk, hp⟩ := hI
    refine ⟨fun h => ?_, fun h => ?_⟩
    · have h := ltT h
      conv => whnf
      refine ⟨k, rfl, h, ?_⟩
      conv => whnf
      refine ⟨fun h2 => ?_, fun h2 => ?_⟩
      · have e : ebV 2 2 z m = false := by
          rw [ebV, evenC, all_false (d := 0) h (by rw [beq_eq_false_iff_ne]; exact bne_iff_ne.1 h2), Bool.and_false]
        conv => whnf
        exact ⟨by rw [e, h'], rfl⟩
      · conv => whnf
        rw [nat_wrap (by omega)]
        exact ⟨k + 1, none, (by refine ⟨rfl, rfl, ?_, ?_⟩ <;> ((repeat' (first | exact trivial | exact rfl | refine And.intro ?_ ?_)) <;> (try ((conv => whnf); first | refine vint ?_ | refine vboo ?_ | refine rint ?_ | refine rrow ?_ | skip)) <;> (try first | omega | (simp; done) | ((repeat rw [flts_closed _ (by assumption)]); exact vws_closed _ (by assumption))))), ⟨by omega, all_take_succ (d := 0) h hp (by rw [beq_iff_eq]; exact bne_eq_false_iff_eq.1 h2)⟩, by omega⟩
    · have h := ltF h
      have e : ebV 2 2 z m = true := by rw [ebV, h', evenC, all_end h hp]; rfl
      conv => whnf
      exact ⟨by rw [e, h'], rfl⟩
end Go.Proofs.Ytkomndcehdneaaa
/- Rests of quiet boxes: reference and program. -/
namespace Go.Aw
def partF (T B : Nat → Nat → Int) (i n : Nat) : List (List Int) :=
  (List.range 4).map fun p => (List.range 4).map fun q => if p < i ∨ (p = i ∧ q < n) then T p q else B p q
theorem partF_step (T B : Nat → Nat → Int) {i n : Nat} (hi : i < 4) (hn : n < 4) : (partF T B i n).set i (((partF T B i n).getD i []).set n (T i n)) = partF T B i (n + 1) := by
  have h1 : i = 0 ∨ i = 1 ∨ i = 2 ∨ i = 3 := by omega
  have h2 : n = 0 ∨ n = 1 ∨ n = 2 ∨ n = 3 := by omega
  rcases h1 with rfl | rfl | rfl | rfl <;> rcases h2 with rfl | rfl | rfl | rfl <;> rfl
theorem partF_get (T B : Nat → Nat → Int) {i n : Nat} (hi : i < 4) (hn : n < 4) : ((partF T B i n).getD i []).getD n 0 = B i n := by
  have h1 : i = 0 ∨ i = 1 ∨ i = 2 ∨ i = 3 := by omega
  have h2 : n = 0 ∨ n = 1 ∨ n = 2 ∨ n = 3 := by omega
  rcases h1 with rfl | rfl | rfl | rfl <;> rcases h2 with rfl | rfl | rfl | rfl <;> rfl
theorem partF_end (T B : Nat → Nat → Int) {i : Nat} (hi : i < 4) : partF T B i 4 = partF T B (i + 1) 0 := by
  have h1 : i = 0 ∨ i = 1 ∨ i = 2 ∨ i = 3 := by omega
  rcases h1 with rfl | rfl | rfl | rfl <;> rfl
theorem partF_len (T B : Nat → Nat → Int) (i n : Nat) : (partF T B i n).length = 4 := by simp [partF]
theorem partF_row (T B : Nat → Nat → Int) {i n p : Nat} (hp : p < 4) : ((partF T B i n).getD p []).length = 4 := by
  rw [partF, range_getD hp]; simp
theorem mat_rows (f : Nat → Nat → Nat → Nat → Int) : boxRows f 2 2 = (List.range 4).map fun p => (List.range 4).map fun q => f (p / 2) (p % 2) (q / 2) (q % 2) := rfl
theorem mat_get (f : Nat → Nat → Nat → Nat → Int) {p q : Nat} (hp : p < 4) (hq : q < 4) : ((boxRows f 2 2).getD p []).getD q 0 = f (p / 2) (p % 2) (q / 2) (q % 2) := by
  rw [mat_rows, range_getD hp, range_getD hq]
theorem mat_eta {M : List (List Int)} (h : M.length = 4) (hr : ∀ r, r ∈ M → r.length = 4) : ((List.range 4).map fun p => (List.range 4).map fun q => (M.getD p []).getD q 0) = M := by
  refine List.ext_getElem (by simp [h]) fun p h1 h2 => ?_
  have hrow := hr _ (List.getElem_mem h2)
  simp only [List.getElem_map, List.getElem_range]
  refine List.ext_getElem (by simp [hrow]) fun q h3 h4 => ?_
  simp only [List.getElem_map, List.getElem_range]
  simp [List.getD, h2, h4]
theorem mat_congr {F G : Nat → Nat → Int} (h : ∀ p q, p < 4 → q < 4 → F p q = G p q) : ((List.range 4).map fun p => (List.range 4).map fun q => F p q) = (List.range 4).map fun p => (List.range 4).map fun q => G p q := by
  refine List.map_congr_left fun p hp => List.map_congr_left fun q hq => h p q (by simpa using hp) (by simpa using hq)
theorem times_get {M : List (List Int)} (h : M.length = 4) (hr : ∀ r, r ∈ M → r.length = 4) (k d : Int) {p q : Nat} (hp : p < 4) (hq : q < 4) : ((timesL M k d).getD p []).getD q 0 = W (Int.tdiv (W ((M.getD p []).getD q 0 * k)) d) := by
  have hm : M.getD p [] ∈ M := by rw [List.getD_eq_getElem?_getD, List.getElem?_eq_getElem (by omega)]; exact List.getElem_mem _
  rw [timesL, map_getD (d := []) (by omega), timesR, map_getD (d := 0) (by rw [hr _ hm]; omega)]
end Go.Aw
namespace Go.Proofs.Ytkomndcehdneaaa
open Go.Aw
set_option maxRecDepth 100000
set_option maxHeartbeats 4000000

def rsNum (m : List (List Int)) (k : Nat) (N : Int) (x y a b : Nat) : Int := W (W (2 * (m.getD (x * 2 + y) []).getD (2 * a + b) 0) - W (N * eqNum k x y a b))
def rsM (m : List (List Int)) (k : Nat) (N : Int) : List (List Int) := boxRows (rsNum m k N) 2 2
def rsW (z N : Int) : Int := W (W (2 * z) - W (2 * N))
def rsN (z : Int) (m : List (List Int)) : Int := partN z ((esL m).getD (esBest m) 0)
def rsOk (x y z : Int) (m : List (List Int)) : Bool := qpB x y z m && goodB 2 2 (rsW z (rsN z m)) (rsM m (esBest m) (rsN z m))
def rsR (x y z : Int) (m : List (List Int)) : List (List Int) := if rsOk x y z m then rsM m (esBest m) (rsN z m) else []
theorem box_sz (f : Nat → Nat → Nat → Nat → Int) : SzM (boxRows f 2 2) := by
  have h1 : (boxRows f 2 2).length = 4 := boxRows_len _ 2 2
  have h2 := tot_le_mul (m := boxRows f 2 2) (n := 4) (fun q hq => by rw [boxRows_rows _ _ _ q hq]; omega)
  unfold SzM; omega
theorem esBest_lt (m : List (List Int)) : esBest m < 8 := by
  have := bIx_le (fun i => (esL m).getD i 0) 7
  unfold esBest; omega

theorem rsNum_spec (m : List (List Int)) (hm : m.length = 4) (h4 : ∀ r, r ∈ m → r.length = 4) (z : Int) (k : Nat) (N : Int) (x y a b : Nat) (hx : x < 2) (hy : y < 2) (ha : a < 2) (hb : b < 2) :
    FSpec Try.prog 184 [.c (.int .i64 (x)), .c (.int .i64 (y)), .c (.int .i64 (a)), .c (.int .i64 (b)), .rp [.c (.int .i64 (2)), .c (.int .i64 (2)), .c (.int .i64 (z)), .t (.rows m)] 0, .rp [.c (.int .i64 (N))] 0, .rp [.c (.int .i64 (2)), .c (.int .i64 (2)), .c (.int .i64 (2)), .t (.rows (equalM k))] 0] (ex (.c (.int .i64 (rsNum m k N x y a b))) []) := by
  have hl : (equalM k).length = 4 := boxRows_len _ 2 2
  have hr := boxRows_rows (eqNum k) 2 2 _ (getD_mem (d := []) (show x * 2 + y < (equalM k).length by omega))
  have hr2 := h4 _ (getD_mem (d := []) (show x * 2 + y < m.length by omega))
  refine fspec tyOk mx Try.func184 rfl (by kernel_rfl) rfl ?_
  conv => whnf
  refine ADraw.plan tyOk mx (.q 0 (.q 1 (.q 2 (.q 3 (.q 4 (.q 7 (.q 8 (.q 9 (.q 10 (.q 11 (.q 12 (.last 5 (.q 6 (.last 13 (.q 14 (.q 15 (.q 16 (.done))))))))))))))))) : Plan) (by kernel_rfl) ?_
  conv => whnf
  refine ACall.useR (at_spec 2 2 x y a b z m (by omega) (by omega) (by omega) (by omega)) ?_
  conv => whnf
  refine ACall.useR (at_spec 2 2 x y a b 2 (equalM k) (by omega) (by omega) (by show 2 * a + b < ((boxRows (eqNum k) 2 2).getD (x * 2 + y) []).length; rw [hr]; omega) (by omega)) ?_
  conv => whnf
  refine ⟨?_, rfl⟩
  rw [equalM, boxRows_get _ hx hy ha hb]; rfl

theorem RestOf_i (x y z : Int) (m : List (List Int)) (_hx : InR x) (_hy : InR y) (_hz : InR z) (_hm : OkM m) (km : SzM m) :
    FSpec Try.prog 66 [.ag [.c (.int .i64 (x)), .c (.int .i64 (y)), .c (.int .i64 (z)), .t (.rows m)]] (ex (.tu [.ag [.c (.int .i64 (if rsOk x y z m then 2 else 0)), .c (.int .i64 (if rsOk x y z m then 2 else 0)), .c (.int .i64 (if rsOk x y z m then rsW z (rsN z m) else 0)), .own 0], .c (.bool (rsOk x y z m))]) [(0, .rows 25 3 true (rsR x y z m))]) := by
  refine view_box ?_
  refine fspec tyOk mx Try.func66 rfl (by kernel_rfl) rfl ?_
  conv => whnf
  refine ACall.use (isQuietPair_spec x y z m km) ?_
  conv => whnf
  refine ⟨fun h => ?_, fun h => ?_⟩
  · have h : qpB x y z m = false := by simpa using h
    have e : rsOk x y z m = false := by rw [rsOk, h]; rfl
    conv => whnf
    exact .inl ⟨e, rfl, rfl⟩
  · have h : qpB x y z m = true := by simpa using h
    have h' := h
    obtain ⟨rfl, rfl, g1, g2, g3, g4⟩ := qpB_spec h
    have h4 : ∀ r, r ∈ m → r.length = 4 := fun r hr => (g4 r hr).1
    conv => whnf
    refine ACall.use (part_spec z m g3 h4) ?_
    conv => whnf
    refine ACall.use (equalSum_spec (esBest m)) ?_
    conv => whnf
    refine ACall.use (newBox_spec 2 2 (rsW z (rsN z m)) _ [.rp [.c (.int .i64 (2)), .c (.int .i64 (2)), .c (.int .i64 (z)), .t (.rows m)] 0, .rp [.c (.int .i64 (rsN z m))] 0, .rp [.c (.int .i64 (2)), .c (.int .i64 (2)), .c (.int .i64 (2)), .t (.rows (equalM (esBest m)))] 0] (rsNum m (esBest m) (rsN z m)) (by omega) (by omega) (fun _ _ => rfl) rfl (fun i k' a b hi hk ha hb => rsNum_spec m g3 h4 z (esBest m) (rsN z m) i k' a b hi hk ha hb)) ?_
    conv => whnf
    refine ACall.use (IsBox_spec 2 2 (rsW z (rsN z m)) (rsM m (esBest m) (rsN z m)) (box_sz _)) ?_
    conv => whnf
    refine ⟨fun h5 => ?_, fun h5 => ?_⟩
    · have h5 : goodB 2 2 (rsW z (rsN z m)) (rsM m (esBest m) (rsN z m)) = false := by simpa using h5
      have e2 : rsOk 2 2 z m = false := by rw [rsOk, h5, Bool.and_false]
      conv => whnf
      exact .inl ⟨e2, rfl, rfl⟩
    · have h5 : goodB 2 2 (rsW z (rsN z m)) (rsM m (esBest m) (rsN z m)) = true := by simpa using h5
      have e2 : rsOk 2 2 z m = true := by rw [rsOk, h', h5]; rfl
      conv => whnf
      exact .inr ⟨e2, rfl, rfl⟩

def rsB (m : List (List Int)) (p q : Nat) : Int := ((timesL m 2 1).getD p []).getD q 0
def rsT (m : List (List Int)) (k : Nat) (N : Int) (p q : Nat) : Int := W (rsB m p q - W (N * ((equalM k).getD p []).getD q 0))
theorem rs_zero (m : List (List Int)) (hm : m.length = 4) (h4 : ∀ r, r ∈ m → r.length = 4) (k : Nat) (N : Int) : partF (rsT m k N) (rsB m) 0 0 = timesL m 2 1 := by
  have e : partF (rsT m k N) (rsB m) 0 0 = (List.range 4).map fun p => (List.range 4).map fun q => rsB m p q := by
    unfold partF; exact mat_congr fun p q _ _ => if_neg (by omega)
  rw [e]
  exact mat_eta (by rw [timesL_len, hm]) (fun r hr => by
    obtain ⟨c, hc, rfl⟩ := List.mem_map.1 hr
    rw [timesR, List.length_map]; exact h4 c hc)
theorem rs_end (m : List (List Int)) (hm : m.length = 4) (h4 : ∀ r, r ∈ m → r.length = 4) (k : Nat) (N : Int) : partF (rsT m k N) (rsB m) 4 0 = rsM m k N := by
  rw [rsM, mat_rows]
  unfold partF
  refine mat_congr fun p q hp hq => ?_
  rw [if_pos (by omega), rsT, rsB, times_get hm h4 _ _ hp hq, equalM, mat_get _ hp hq, rsNum, tdiv_one, WW, Int.mul_comm]
  rw [show p / 2 * 2 + p % 2 = p by omega, show 2 * (q / 2) + q % 2 = q by omega]

theorem RestOf_s (x y z : Int) (m : List (List Int)) (_hx : InR x) (_hy : InR y) (_hz : InR z) (_hm : OkM m) (km : SzM m) :
    FSpec Try.prog 67 [.ag [.c (.int .i64 (x)), .c (.int .i64 (y)), .c (.int .i64 (z)), .t (.rows m)]] (ex (.tu [.ag [.c (.int .i64 (if rsOk x y z m then 2 else 0)), .c (.int .i64 (if rsOk x y z m then 2 else 0)), .c (.int .i64 (if rsOk x y z m then rsW z (rsN z m) else 0)), .own 0], .c (.bool (rsOk x y z m))]) [(0, .rows 25 3 true (rsR x y z m))]) := by
  refine view_box ?_
  refine fspec tyOk mx Try.func67 rfl (by kernel_rfl) rfl ?_
  conv => whnf
  refine ACall.use (l6Quiet_spec x y z m km) ?_
  conv => whnf
  refine ⟨fun h => ?_, fun h => ?_⟩
  · have h : qpB x y z m = false := by simpa using h
    have e : rsOk x y z m = false := by rw [rsOk, h]; rfl
    conv => whnf
    exact .inl ⟨e, rfl, rfl⟩
  · have h : qpB x y z m = true := by simpa using h
    have h' := h
    obtain ⟨rfl, rfl, g1, g2, g3, g4⟩ := qpB_spec h
    have h4 : ∀ r, r ∈ m → r.length = 4 := fun r hr => (g4 r hr).1
    have hel : (equalM (esBest m)).length = 4 := boxRows_len _ 2 2
    have her := boxRows_rows (eqNum (esBest m)) 2 2
    have ew : W (Int.tdiv (W (z * 2)) 1) = W (2 * z) := by rw [tdiv_one, WW, Int.mul_comm]
    conv => whnf
    refine ACall.use (l6Part_spec z m g3 h4) ?_
    conv => whnf
    refine ACall.use (l2Times_spec 2 2 z m 2 1 (by decide) (by omega) (fun r hr => by rw [h4 r hr]; omega)) ?_
    rw [ew]
    conv => whnf
    refine ACall.use (l6Sum_spec (esBest m) (esBest_lt m)) ?_
    conv => whnf
    refine aloopI tyOk mx (fun i : Nat => (⟨70, [(2, .ptr 1 0), (5, .c (.int .i64 (rsN z m))), (6, .ptr 4 0), (7, .ptr 5 0), (8, .c (.int .i64 (i)))], [(1, .cells 53 [.c (.int .i64 (0)), .c (.int .i64 (0)), .c (.int .i64 (0)), .c (.slice none 0 0)]), (2, .rows 25 3 true (partF (rsT m (esBest m) (rsN z m)) (rsB m) i 0)), (3, .rows 25 3 true (equalM (esBest m))), (4, .cells 53 [.c (.int .i64 (2)), .c (.int .i64 (2)), .c (.int .i64 (rsW z (rsN z m))), .own 2]), (5, .cells 53 [.c (.int .i64 (2)), .c (.int .i64 (2)), .c (.int .i64 (2)), .own 3])], 6⟩ : St)) (fun i => i ≤ 4) (fun i => 4 - i) 0 (Nat.zero_le _) none (by (refine ⟨rfl, rfl, ?_, ?_⟩ <;> ((repeat' (first | exact trivial | exact rfl | refine And.intro ?_ ?_)) <;> (try ((conv => whnf); first | refine vint ?_ | refine vboo ?_ | refine rint ?_ | refine rrow ?_ | skip)) <;> (try first | omega | (simp; done) | ((repeat rw [flts_closed _ (by assumption)]); exact vws_closed _ (by assumption))))); exact (rs_zero m g3 h4 _ _).symm) (fun i hi => ?_)
    have hl := partF_len (rsT m (esBest m) (rsN z m)) (rsB m) i 0
    refine ⟨fun h => ?_, fun h => ?_⟩
    · have h : i < 4 := by have := ltT h; omega
      conv => whnf
      refine aloopI tyOk mx (fun n : Nat => (⟨70, [(2, .ptr 1 0), (5, .c (.int .i64 (rsN z m))), (6, .ptr 4 0), (7, .ptr 5 0), (8, .c (.int .i64 (i))), (9, .c (.int .i64 (n)))], [(1, .cells 53 [.c (.int .i64 (0)), .c (.int .i64 (0)), .c (.int .i64 (0)), .c (.slice none 0 0)]), (2, .rows 25 3 true (partF (rsT m (esBest m) (rsN z m)) (rsB m) i n)), (3, .rows 25 3 true (equalM (esBest m))), (4, .cells 53 [.c (.int .i64 (2)), .c (.int .i64 (2)), .c (.int .i64 (rsW z (rsN z m))), .own 2]), (5, .cells 53 [.c (.int .i64 (2)), .c (.int .i64 (2)), .c (.int .i64 (2)), .own 3])], 6⟩ : St)) (fun n => n ≤ 4) (fun n => 4 - n) 0 (Nat.zero_le _) none (by refine ⟨rfl, rfl, ?_, ?_⟩ <;> ((repeat' (first | exact trivial | exact rfl | refine And.intro ?_ ?_)) <;> (try ((conv => whnf); first | refine vint ?_ | refine vboo ?_ | refine rint ?_ | refine rrow ?_ | skip)) <;> (try first | omega | (simp; done) | ((repeat rw [flts_closed _ (by assumption)]); exact vws_closed _ (by assumption))))) (fun n hn => ?_)
      have hl2 := partF_len (rsT m (esBest m) (rsN z m)) (rsB m) i n
      have hr2 := partF_row (rsT m (esBest m) (rsN z m)) (rsB m) (i := i) (n := n) h
      have her2 := her _ (getD_mem (d := []) (show i < (equalM (esBest m)).length by omega))
      have her3 : ((equalM (esBest m)).getD i []).length = 4 := her2
      refine ⟨fun h5 => ?_, fun h5 => ?_⟩
      · have h5 : n < 4 := by have := of_decide_eq_true h5; omega
        have hg := partF_get (rsT m (esBest m) (rsN z m)) (rsB m) h h5
        refine ADraw.plan tyOk mx (.q 0 (.q 1 (.q 2 (.q 3 (.q 4 (.q 5 (.q 6 (.q 7 (.q 8 (.q 9 (.q 10 (.q 11 (.q 12 (.q 13 (.q 14 (.q 15 (.q 16 (.q 17 (.q 18 (.q 19 (.q 20 (.q 21 (.q 22 (.q 23 (.q 24 (.q 25 (.last 26 (.done))))))))))))))))))))))))))) : Plan) (by kernel_rfl) ?_
        conv => whnf
        repeat' (first | (refine ⟨i, rfl, by omega, ?_⟩; conv => whnf) | (refine ⟨n, rfl, by omega, ?_⟩; conv => whnf) | (refine And.intro ?_ ?_ <;> (conv => whnf)))
        all_goals
          rw [nat_wrap (by omega)]
          refine ⟨n + 1, none, ?_, by omega, by omega⟩
          (refine ⟨rfl, rfl, ?_, ?_⟩ <;> ((repeat' (first | exact trivial | exact rfl | refine And.intro ?_ ?_)) <;> (try ((conv => whnf); first | refine vint ?_ | refine vboo ?_ | refine rint ?_ | refine rrow ?_ | skip)) <;> (try first | omega | (simp; done) | ((repeat rw [flts_closed _ (by assumption)]); exact vws_closed _ (by assumption)))))
          rw [hg]
          exact partF_step _ _ h h5
      · have h5 : ¬ n < 4 := by have := of_decide_eq_false h5; omega
        obtain rfl : n = 4 := by omega
        conv => whnf
        rw [nat_wrap (by omega)]
        refine ⟨i + 1, none, ?_, by omega, by omega⟩
        (refine ⟨rfl, rfl, ?_, ?_⟩ <;> ((repeat' (first | exact trivial | exact rfl | refine And.intro ?_ ?_)) <;> (try ((conv => whnf); first | refine vint ?_ | refine vboo ?_ | refine rint ?_ | refine rrow ?_ | skip)) <;> (try first | omega | (simp; done) | ((repeat rw [flts_closed _ (by assumption)]); exact vws_closed _ (by assumption)))))
        exact partF_end _ _ h
    · have h : ¬ i < 4 := by have := ltF h; omega
      obtain rfl : i = 4 := by omega
      rw [rs_end m g3 h4]
      conv => whnf
      refine ACallS.inline tyOk mx Try.func171 rfl (by kernel_rfl) rfl ?_
      conv => whnf
      refine ACall.use (l2Box_spec 2 2 (rsW z (rsN z m)) (rsM m (esBest m) (rsN z m)) (box_sz _)) ?_
      conv => whnf
      refine ⟨fun h5 => ?_, fun h5 => ?_⟩
      · have h5 : goodB 2 2 (rsW z (rsN z m)) (rsM m (esBest m) (rsN z m)) = false := by simpa using h5
        have e2 : rsOk 2 2 z m = false := by rw [rsOk, h5, Bool.and_false]
        conv => whnf
        refine ⟨rfl, ?_⟩
        conv => whnf
        exact .inl ⟨e2, rfl, rfl⟩
      · have h5 : goodB 2 2 (rsW z (rsN z m)) (rsM m (esBest m) (rsN z m)) = true := by simpa using h5
        have e2 : rsOk 2 2 z m = true := by rw [rsOk, h', h5]; rfl
        conv => whnf
        refine ⟨rfl, ?_⟩
        conv => whnf
        exact .inr ⟨e2, rfl, rfl⟩
theorem RestOf_bd (x y z : Int) (m : List (List Int)) (_hx : InR x) (_hy : InR y) (_hz : InR z) (_hm : OkM m) (_km : SzM m) : (rsR x y z m).length ≤ 1048576 ∧ tot (rsR x y z m) ≤ 1048576 := by
  unfold rsR
  split
  · obtain ⟨a, _, b⟩ := (box_sz (rsNum m (esBest m) (rsN z m))).all
    exact ⟨a, b⟩
  · simp [tot]
end Go.Proofs.Ytkomndcehdneaaa
/- Boxes that are evened out: what both make, and the parts that are walked. -/
namespace Go.Aw
def revN (m : List (List Int)) (x y a b : Nat) : Int := (m.getD (x * 2 + y) []).getD (3 - (2 * a + b)) 0
def revM (m : List (List Int)) : List (List Int) := boxRows (revN m) 2 2
def eoN (m : List (List Int)) (x y a b : Nat) : Int := W ((m.getD (x * 2 + y) []).getD (2 * a + b) 0 + ((revM m).getD (x * 2 + y) []).getD (2 * a + b) 0)
def eoM (m : List (List Int)) : List (List Int) := boxRows (eoN m) 2 2
theorem sum4 (a b c d : Int) (h1 : 0 ≤ a ∧ a ≤ 2000) (h2 : 0 ≤ b ∧ b ≤ 2000) (h3 : 0 ≤ c ∧ c ≤ 2000) (h4 : 0 ≤ d ∧ d ≤ 2000) : sumF [a, b, c, d] 4 = a + b + c + d := by
  show W (W (W (W (0 + a) + b) + c) + d) = _
  have e : ∀ n : Int, 0 ≤ n → n ≤ 1000000 → W n = n := fun n h h' => w64 (by omega) (by omega)
  rw [e (0 + a) (by omega) (by omega), e (0 + a + b) (by omega) (by omega), e (0 + a + b + c) (by omega) (by omega), e (0 + a + b + c + d) (by omega) (by omega)]
  omega
theorem row4 {r : List Int} {z : Int} (hz : z ≤ 1000) (hl : r.length = 4) (hb : ∀ v, v ∈ r → 0 ≤ v ∧ v ≤ z) (hs : sumF r r.length = z) :
    ∃ a b c d : Int, r = [a, b, c, d] ∧ 0 ≤ a ∧ 0 ≤ b ∧ 0 ≤ c ∧ 0 ≤ d ∧ a + b + c + d = z := by
  match r, hl with
  | [a, b, c, d], _ =>
    have h1 := hb a (by simp)
    have h2 := hb b (by simp)
    have h3 := hb c (by simp)
    have h4 := hb d (by simp)
    have := sum4 a b c d (by omega) (by omega) (by omega) (by omega)
    exact ⟨a, b, c, d, rfl, h1.1, h2.1, h3.1, h4.1, by rw [← this]; exact hs⟩
end Go.Aw
namespace Go.Proofs.Ytkomndcehdneaaa
open Go.Aw
set_option maxRecDepth 100000
set_option maxHeartbeats 4000000

theorem rowOk_mk {a b c d z : Int} (ha : 0 ≤ a) (hb : 0 ≤ b) (hc : 0 ≤ c) (hd : 0 ≤ d) (hs : a + b + c + d = z) (hz : z ≤ 1000) : rowOk z [a, b, c, d] = true := by
  have h := sum4 a b c d (by omega) (by omega) (by omega) (by omega)
  unfold rowOk
  rw [show sumF [a, b, c, d] [a, b, c, d].length = a + b + c + d from h, hs]
  have : rowIn [a, b, c, d] 0 z = true := rowIn_iff.2 fun v hv => by
    simp only [List.mem_cons, List.not_mem_nil, or_false] at hv
    rcases hv with rfl | rfl | rfl | rfl <;> omega
  rw [this]; simp
theorem good4 {z : Int} {r0 r1 r2 r3 : List Int} (h1 : 1 ≤ z) (h2 : z ≤ 1000) (k0 : rowOk z r0 = true) (k1 : rowOk z r1 = true) (k2 : rowOk z r2 = true) (k3 : rowOk z r3 = true) : goodB 2 2 z [r0, r1, r2, r3] = true := by
  have hz : inR z 1 1000 = true := inR_iff.2 ⟨h1, h2⟩
  simp [goodB, hz, k0, k1, k2, k3]; rfl
theorem eo_good {x y z : Int} {m : List (List Int)} (h : pairB x y z m = true) : goodB 2 2 z (revM m) = true ∧ (z + z ≤ 1000 → goodB 2 2 (z + z) (eoM m) = true) := by
  obtain ⟨rfl, rfl, g1, g2, g3, g4⟩ := pairB_spec h
  match m, g3 with
  | [r0, r1, r2, r3], _ =>
    have q0 := g4 r0 (by simp)
    have q1 := g4 r1 (by simp)
    have q2 := g4 r2 (by simp)
    have q3 := g4 r3 (by simp)
    obtain ⟨a0, b0, c0, d0, rfl, u0, v0, w0, x0, s0⟩ := row4 g2 q0.1 q0.2.1 q0.2.2
    obtain ⟨a1, b1, c1, d1, rfl, u1, v1, w1, x1, s1⟩ := row4 g2 q1.1 q1.2.1 q1.2.2
    obtain ⟨a2, b2, c2, d2, rfl, u2, v2, w2, x2, s2⟩ := row4 g2 q2.1 q2.2.1 q2.2.2
    obtain ⟨a3, b3, c3, d3, rfl, u3, v3, w3, x3, s3⟩ := row4 g2 q3.1 q3.2.1 q3.2.2
    refine ⟨good4 (r0 := [d0, c0, b0, a0]) (r1 := [d1, c1, b1, a1]) (r2 := [d2, c2, b2, a2]) (r3 := [d3, c3, b3, a3]) g1 g2 (rowOk_mk x0 w0 v0 u0 (by omega) g2) (rowOk_mk x1 w1 v1 u1 (by omega) g2) (rowOk_mk x2 w2 v2 u2 (by omega) g2) (rowOk_mk x3 w3 v3 u3 (by omega) g2), fun hz => ?_⟩
    have e : ∀ n : Int, 0 ≤ n → n ≤ 1000000 → W n = n := fun n h h' => w64 (by omega) (by omega)
    have em : eoM [[a0, b0, c0, d0], [a1, b1, c1, d1], [a2, b2, c2, d2], [a3, b3, c3, d3]] = [[W (a0 + d0), W (b0 + c0), W (c0 + b0), W (d0 + a0)], [W (a1 + d1), W (b1 + c1), W (c1 + b1), W (d1 + a1)], [W (a2 + d2), W (b2 + c2), W (c2 + b2), W (d2 + a2)], [W (a3 + d3), W (b3 + c3), W (c3 + b3), W (d3 + a3)]] := rfl
    rw [em]
    refine good4 (by omega) hz ?_ ?_ ?_ ?_
    · rw [e (a0 + d0) (by omega) (by omega), e (b0 + c0) (by omega) (by omega), e (c0 + b0) (by omega) (by omega), e (d0 + a0) (by omega) (by omega)]
      exact rowOk_mk (by omega) (by omega) (by omega) (by omega) (by omega) hz
    · rw [e (a1 + d1) (by omega) (by omega), e (b1 + c1) (by omega) (by omega), e (c1 + b1) (by omega) (by omega), e (d1 + a1) (by omega) (by omega)]
      exact rowOk_mk (by omega) (by omega) (by omega) (by omega) (by omega) hz
    · rw [e (a2 + d2) (by omega) (by omega), e (b2 + c2) (by omega) (by omega), e (c2 + b2) (by omega) (by omega), e (d2 + a2) (by omega) (by omega)]
      exact rowOk_mk (by omega) (by omega) (by omega) (by omega) (by omega) hz
    · rw [e (a3 + d3) (by omega) (by omega), e (b3 + c3) (by omega) (by omega), e (c3 + b3) (by omega) (by omega), e (d3 + a3) (by omega) (by omega)]
      exact rowOk_mk (by omega) (by omega) (by omega) (by omega) (by omega) hz

theorem xor1 {a x : Nat} (ha : a < 2) (hx : x < 4) : bits .xor .i64 (a : Int) (([1, 1, 1, 1] : List Int).getD x 0) = ((1 - a : Nat) : Int) := by
  have : ∀ a : Nat, a < 2 → ∀ x : Nat, x < 4 → bits .xor .i64 (a : Int) (([1, 1, 1, 1] : List Int).getD x 0) = ((1 - a : Nat) : Int) := by decide +kernel
  exact this a ha x hx

theorem flN_spec (m : List (List Int)) (hm : m.length = 4) (h4 : ∀ r, r ∈ m → r.length = 4) (z : Int) (x y a b : Nat) (hx : x < 2) (hy : y < 2) (ha : a < 2) (hb : b < 2) :
    FSpec Try.prog 253 [.c (.int .i64 (x)), .c (.int .i64 (y)), .c (.int .i64 (a)), .c (.int .i64 (b)), .rp [.c (.int .i64 (2)), .c (.int .i64 (2)), .c (.int .i64 (z)), .t (.rows m)] 0, .rp [.t (.ints .i64 [1, 1, 1, 1])] 0] (ex (.c (.int .i64 (revN m x y a b))) []) := by
  have hr2 := h4 _ (getD_mem (d := []) (show x * 2 + y < m.length by omega))
  have e1 := xor1 (x := x) ha (by omega)
  have e2 := xor1 (x := 2 + y) hb (by omega)
  refine fspec tyOk mx Try.func253 rfl (by kernel_rfl) rfl ?_
  conv => whnf
  refine ADraw.plan tyOk mx (.q 0 (.q 1 (.q 2 (.q 3 (.q 4 (.q 5 (.q 6 (.q 7 (.q 8 (.q 9 (.q 10 (.q 11 (.q 12 (.q 13 (.q 14 (.q 15 (.q 16 (.q 17 (.last 18 (.q 19 (.done)))))))))))))))))))) : Plan) (by kernel_rfl) ?_
  conv => whnf
  refine ⟨x, rfl, (show x < 4 by omega), ?_⟩
  conv => whnf
  refine ⟨2 + y, by rw [show (2 : Int) + (y : Int) = ((2 + y : Nat) : Int) by omega]; exact w64 (by omega) (by omega), (show 2 + y < 4 by omega), ?_⟩
  conv => whnf
  rw [e1, e2]
  refine ACall.useR (at_spec 2 2 x y (1 - a) (1 - b) z m (by omega) (by omega) (by omega) (by omega)) ?_
  conv => whnf
  refine ⟨?_, rfl⟩
  rw [revN, show 3 - (2 * a + b) = 2 * (1 - a) + (1 - b) by omega]

theorem flipped_spec (m : List (List Int)) (hm : m.length = 4) (h4 : ∀ r, r ∈ m → r.length = 4) (z : Int) :
    FSpec Try.prog 222 [.ag [.c (.int .i64 (2)), .c (.int .i64 (2)), .c (.int .i64 (z)), .t (.rows m)], .t (.ints .i64 [1, 1, 1, 1])] (ex (.ag [.c (.int .i64 (2)), .c (.int .i64 (2)), .c (.int .i64 (z)), .own 0]) [(0, .rows 25 3 true (revM m))]) := by
  refine fspec tyOk mx Try.func222 rfl (by kernel_rfl) rfl ?_
  conv => whnf
  refine ACall.use (newBox_spec 2 2 z _ [.rp [.c (.int .i64 (2)), .c (.int .i64 (2)), .c (.int .i64 (z)), .t (.rows m)] 0, .rp [.t (.ints .i64 [1, 1, 1, 1])] 0] (revN m) (by omega) (by omega) (fun _ _ => rfl) rfl (fun i k' a b hi hk ha hb => flN_spec m hm h4 z i k' a b hi hk ha hb)) ?_
  conv => whnf
  exact ⟨rfl, rfl⟩

theorem eoN_spec (m : List (List Int)) (hm : m.length = 4) (h4 : ∀ r, r ∈ m → r.length = 4) (z z' : Int) (x y a b : Nat) (hx : x < 2) (hy : y < 2) (ha : a < 2) (hb : b < 2) :
    FSpec Try.prog 168 [.c (.int .i64 (x)), .c (.int .i64 (y)), .c (.int .i64 (a)), .c (.int .i64 (b)), .rp [.c (.int .i64 (2)), .c (.int .i64 (2)), .c (.int .i64 (z)), .t (.rows m)] 0, .rp [.c (.int .i64 (2)), .c (.int .i64 (2)), .c (.int .i64 (z')), .t (.rows (revM m))] 0] (ex (.c (.int .i64 (eoN m x y a b))) []) := by
  have hl : (revM m).length = 4 := boxRows_len _ 2 2
  have hr := boxRows_rows (revN m) 2 2 _ (getD_mem (d := []) (show x * 2 + y < (revM m).length by omega))
  have hr2 := h4 _ (getD_mem (d := []) (show x * 2 + y < m.length by omega))
  refine fspec tyOk mx Try.func168 rfl (by kernel_rfl) rfl ?_
  conv => whnf
  refine ADraw.plan tyOk mx (.q 0 (.q 1 (.q 2 (.q 3 (.q 4 (.q 6 (.q 7 (.q 8 (.q 9 (.q 10 (.last 5 (.last 11 (.q 12 (.q 13 (.done)))))))))))))) : Plan) (by kernel_rfl) ?_
  conv => whnf
  refine ACall.useR (at_spec 2 2 x y a b z m (by omega) (by omega) (by omega) (by omega)) ?_
  conv => whnf
  refine ACall.useR (at_spec 2 2 x y a b z' (revM m) (by omega) (by omega) (by show 2 * a + b < ((boxRows (revN m) 2 2).getD (x * 2 + y) []).length; rw [hr]; omega) (by omega)) ?_
  conv => whnf
  exact ⟨rfl, rfl⟩

theorem sameQ_spec (z z' : Int) (m m' : List (List Int)) (km : SzM m) (km' : SzM m') (h : goodB 2 2 z m = true) (h' : goodB 2 2 z' m' = true) :
    FSpec Try.prog 166 [.ag [.c (.int .i64 (2)), .c (.int .i64 (2)), .c (.int .i64 (z)), .t (.rows m)], .ag [.c (.int .i64 (2)), .c (.int .i64 (2)), .c (.int .i64 (z')), .t (.rows m')]] (ex (.c (.bool true)) []) := by
  refine fspec tyOk mx Try.func166 rfl (by kernel_rfl) rfl ?_
  conv => whnf
  refine ACall.use (IsBox_spec 2 2 z m km) ?_
  rw [h]
  conv => whnf
  first | refine ⟨fun h => absurd h (by decide), fun _ => ?_⟩ | refine ⟨fun _ => ?_, fun h => absurd h (by decide)⟩
  conv => whnf
  refine ACall.use (IsBox_spec 2 2 z' m' km') ?_
  rw [h']
  conv => whnf
  (repeat (conv => whnf); (first | refine ⟨fun h => absurd h (by decide), fun _ => ?_⟩ | refine ⟨fun _ => ?_, fun h => absurd h (by decide)⟩)); conv => whnf
  exact ⟨rfl, rfl⟩

theorem MixBoxes_no (z : Int) (m : List (List Int)) (km : SzM m) (h : pairB 2 2 z m = true) (hz : 1000 < z + z) :
    FSpec Try.prog 48 [.ag [.c (.int .i64 (2)), .c (.int .i64 (2)), .c (.int .i64 (z)), .t (.rows m)], .ag [.c (.int .i64 (2)), .c (.int .i64 (2)), .c (.int .i64 (z)), .t (.rows (revM m))]] (ex (.tu [.ag [.c (.int .i64 (0)), .c (.int .i64 (0)), .c (.int .i64 (0)), .c (.slice none 0 0)], .c (.bool false)]) []) := by
  obtain ⟨_, _, g1, g2, g3, g4⟩ := pairB_spec h
  have hg : goodB 2 2 z m = true := by simp only [pairB, Bool.and_eq_true] at h; exact h.1
  have ew : IntKind.i64.wrap (z + z) = z + z := w64 (by omega) (by omega)
  refine fspec tyOk mx Try.func48 rfl (by kernel_rfl) rfl ?_
  conv => whnf
  refine ACall.use (sameQ_spec z z m (revM m) km (box_sz _) hg (eo_good h).1) ?_
  conv => whnf
  first | refine ⟨fun h => absurd h (by decide), fun _ => ?_⟩ | refine ⟨fun _ => ?_, fun h => absurd h (by decide)⟩
  conv => whnf
  refine ⟨fun h2 => ?_, fun h2 => ?_⟩
  · conv => whnf
    exact ⟨rfl, rfl⟩
  · have h2 := of_decide_eq_false h2
    rw [ew] at h2
    omega
theorem MixBoxes_ok (z : Int) (m : List (List Int)) (km : SzM m) (h : pairB 2 2 z m = true) (hz : z + z ≤ 1000) :
    FSpec Try.prog 48 [.ag [.c (.int .i64 (2)), .c (.int .i64 (2)), .c (.int .i64 (z)), .t (.rows m)], .ag [.c (.int .i64 (2)), .c (.int .i64 (2)), .c (.int .i64 (z)), .t (.rows (revM m))]] (ex (.tu [.ag [.c (.int .i64 (2)), .c (.int .i64 (2)), .c (.int .i64 (W (z + z))), .own 0], .c (.bool true)]) [(0, .rows 25 3 true (eoM m))]) := by
  obtain ⟨_, _, g1, g2, g3, g4⟩ := pairB_spec h
  have h4 : ∀ r, r ∈ m → r.length = 4 := fun r hr => (g4 r hr).1
  have hg : goodB 2 2 z m = true := by simp only [pairB, Bool.and_eq_true] at h; exact h.1
  have ew : IntKind.i64.wrap (z + z) = z + z := w64 (by omega) (by omega)
  refine fspec tyOk mx Try.func48 rfl (by kernel_rfl) rfl ?_
  conv => whnf
  refine ACall.use (sameQ_spec z z m (revM m) km (box_sz _) hg (eo_good h).1) ?_
  conv => whnf
  first | refine ⟨fun h => absurd h (by decide), fun _ => ?_⟩ | refine ⟨fun _ => ?_, fun h => absurd h (by decide)⟩
  conv => whnf
  refine ⟨fun h2 => ?_, fun h2 => ?_⟩
  · have h2 := of_decide_eq_true h2
    rw [ew] at h2
    omega
  · conv => whnf
    refine ACall.use (newBox_spec 2 2 (W (z + z)) _ [.rp [.c (.int .i64 (2)), .c (.int .i64 (2)), .c (.int .i64 (z)), .t (.rows m)] 0, .rp [.c (.int .i64 (2)), .c (.int .i64 (2)), .c (.int .i64 (z)), .t (.rows (revM m))] 0] (eoN m) (by omega) (by omega) (fun _ _ => rfl) rfl (fun i k' a b hi hk ha hb => eoN_spec m g3 h4 z z i k' a b hi hk ha hb)) ?_
    conv => whnf
    exact ⟨rfl, rfl⟩

def eoOk (x y z : Int) (m : List (List Int)) : Bool := pairB x y z m && decide (z + z ≤ 1000)
def eoR (x y z : Int) (m : List (List Int)) : List (List Int) := if eoOk x y z m then eoM m else []
theorem EvenOut_i (x y z : Int) (m : List (List Int)) (_hx : InR x) (_hy : InR y) (_hz : InR z) (_hm : OkM m) (km : SzM m) :
    FSpec Try.prog 109 [.ag [.c (.int .i64 (x)), .c (.int .i64 (y)), .c (.int .i64 (z)), .t (.rows m)]] (ex (.tu [.ag [.c (.int .i64 (if eoOk x y z m then 2 else 0)), .c (.int .i64 (if eoOk x y z m then 2 else 0)), .c (.int .i64 (if eoOk x y z m then W (z + z) else 0)), .own 0], .c (.bool (eoOk x y z m))]) [(0, .rows 25 3 true (eoR x y z m))]) := by
  refine view_box ?_
  refine fspec tyOk mx Try.func109 rfl (by kernel_rfl) rfl ?_
  conv => whnf
  refine ACall.use (isPair_spec x y z m km) ?_
  conv => whnf
  refine ⟨fun h => ?_, fun h => ?_⟩
  · have h : pairB x y z m = false := by simpa using h
    have e : eoOk x y z m = false := by rw [eoOk, h]; rfl
    conv => whnf
    exact .inl ⟨e, rfl, rfl⟩
  · have h : pairB x y z m = true := by simpa using h
    have h' := h
    obtain ⟨rfl, rfl, g1, g2, g3, g4⟩ := pairB_spec h
    have h4 : ∀ r, r ∈ m → r.length = 4 := fun r hr => (g4 r hr).1
    by_cases hz : z + z ≤ 1000
    · have e : eoOk 2 2 z m = true := by rw [eoOk, h, decide_eq_true hz]; rfl
      conv => whnf
      refine ADraw.plan tyOk mx (.q 0 (.q 1 (.last 2 (.last 3 (.last 4 (.q 5 (.q 6 (.last 7 (.q 8 (.done))))))))) : Plan) (by kernel_rfl) ?_
      conv => whnf
      refine ACall.useR (flipped_spec m g3 h4 z) ?_
      conv => whnf
      refine ACall.useR (MixBoxes_ok z m km h hz) ?_
      conv => whnf
      repeat' (refine And.intro ?_ ?_ <;> (conv => whnf))
      all_goals exact .inr ⟨e, rfl, rfl⟩
    · have e : eoOk 2 2 z m = false := by rw [eoOk, decide_eq_false hz, Bool.and_false]
      conv => whnf
      refine ADraw.plan tyOk mx (.q 0 (.q 1 (.last 2 (.last 3 (.last 4 (.q 5 (.q 6 (.last 7 (.q 8 (.done))))))))) : Plan) (by kernel_rfl) ?_
      conv => whnf
      refine ACall.useR (flipped_spec m g3 h4 z) ?_
      conv => whnf
      refine ACall.useR (MixBoxes_no z m km h (by omega)) ?_
      conv => whnf
      repeat' (refine And.intro ?_ ?_ <;> (conv => whnf))
      all_goals exact .inl ⟨e, rfl, rfl⟩
end Go.Proofs.Ytkomndcehdneaaa
/- Signs of sums, quiet boxes of two questions each, row by row. -/
namespace Go.Proofs.Ytkomndcehdneaaa
open Go.Aw
set_option maxRecDepth 100000
set_option maxHeartbeats 4000000

theorem wS {n : Int} (h : -1000000000000 ≤ n) (h' : n ≤ 1000000000000) : W n = n := w64 (by omega) (by omega)
/-- the sign of a row in a sum -/
def sg (k x y : Nat) : Int := W (1 - W (2 * oddAt k x y))
theorem sg_pm {k x y : Nat} (hk : k < 8) (hx : x < 2) (hy : y < 2) : sg k x y = 1 ∨ sg k x y = -1 := by
  have : ∀ k : Nat, k < 8 → ∀ x : Nat, x < 2 → ∀ y : Nat, y < 2 → sg k x y = 1 ∨ sg k x y = -1 := by decide +kernel
  exact this k hk x hx y hy
theorem agr4 {a b c d : Int} (ha : -100000 ≤ a ∧ a ≤ 100000) (hb : -100000 ≤ b ∧ b ≤ 100000) (hc : -100000 ≤ c ∧ c ≤ 100000) (hd : -100000 ≤ d ∧ d ≤ 100000) : agr [a, b, c, d] = a - b - c + d := by
  show W (W (W (a - b) - c) + d) = _
  rw [wS (n := a - b) (by omega) (by omega), wS (n := a - b - c) (by omega) (by omega), wS (by omega) (by omega)]
/-- a sum, of four agreements -/
theorem esTo_eq {k : Nat} (hk : k < 8) {r0 r1 r2 r3 : List Int} {g0 g1 g2 g3 : Int} (e0 : agr r0 = g0) (e1 : agr r1 = g1) (e2 : agr r2 = g2) (e3 : agr r3 = g3)
    (h0 : -400000 ≤ g0 ∧ g0 ≤ 400000) (h1 : -400000 ≤ g1 ∧ g1 ≤ 400000) (h2 : -400000 ≤ g2 ∧ g2 ≤ 400000) (h3 : -400000 ≤ g3 ∧ g3 ≤ 400000) :
    esTo k [r0, r1, r2, r3] 2 = sg k 0 0 * g0 + sg k 0 1 * g1 + sg k 1 0 * g2 + sg k 1 1 * g3 := by
  show W (W (W (W (0 + W (agr r0 * sg k 0 0)) + W (agr r1 * sg k 0 1)) + W (agr r2 * sg k 1 0)) + W (agr r3 * sg k 1 1)) = _
  rw [e0, e1, e2, e3]
  have s0 := sg_pm hk (x := 0) (y := 0) (by omega) (by omega)
  have s1 := sg_pm hk (x := 0) (y := 1) (by omega) (by omega)
  have s2 := sg_pm hk (x := 1) (y := 0) (by omega) (by omega)
  have s3 := sg_pm hk (x := 1) (y := 1) (by omega) (by omega)
  generalize sg k 0 0 = t0 at *
  generalize sg k 0 1 = t1 at *
  generalize sg k 1 0 = t2 at *
  generalize sg k 1 1 = t3 at *
  have p0 : -400000 ≤ t0 * g0 ∧ t0 * g0 ≤ 400000 := by rcases s0 with rfl | rfl <;> omega
  have p1 : -400000 ≤ t1 * g1 ∧ t1 * g1 ≤ 400000 := by rcases s1 with rfl | rfl <;> omega
  have p2 : -400000 ≤ t2 * g2 ∧ t2 * g2 ≤ 400000 := by rcases s2 with rfl | rfl <;> omega
  have p3 : -400000 ≤ t3 * g3 ∧ t3 * g3 ≤ 400000 := by rcases s3 with rfl | rfl <;> omega
  rw [Int.mul_comm g0, Int.mul_comm g1, Int.mul_comm g2, Int.mul_comm g3]
  rw [wS (n := t0 * g0) (by omega) (by omega), wS (n := t1 * g1) (by omega) (by omega), wS (n := t2 * g2) (by omega) (by omega), wS (n := t3 * g3) (by omega) (by omega)]
  rw [wS (n := 0 + t0 * g0) (by omega) (by omega), wS (n := 0 + t0 * g0 + t1 * g1) (by omega) (by omega), wS (n := 0 + t0 * g0 + t1 * g1 + t2 * g2) (by omega) (by omega), wS (by omega) (by omega)]
  omega
theorem esL_get {m : List (List Int)} {k : Nat} (hk : k < 8) : (esL m).getD k 0 = esTo k m 2 := range_getD hk

def eqSg (k x y : Nat) : Bool := (sg k x y == 1 && eqNum k x y 0 0 == 1 && eqNum k x y 0 1 == 0 && eqNum k x y 1 0 == 0 && eqNum k x y 1 1 == 1) || (sg k x y == -1 && eqNum k x y 0 0 == 0 && eqNum k x y 0 1 == 1 && eqNum k x y 1 0 == 1 && eqNum k x y 1 1 == 0)
theorem eq_sg {k x y : Nat} (hk : k < 8) (hx : x < 2) (hy : y < 2) : (sg k x y = 1 ∧ eqNum k x y 0 0 = 1 ∧ eqNum k x y 0 1 = 0 ∧ eqNum k x y 1 0 = 0 ∧ eqNum k x y 1 1 = 1) ∨
      (sg k x y = -1 ∧ eqNum k x y 0 0 = 0 ∧ eqNum k x y 0 1 = 1 ∧ eqNum k x y 1 0 = 1 ∧ eqNum k x y 1 1 = 0) := by
  have : ∀ k : Nat, k < 8 → ∀ x : Nat, x < 2 → ∀ y : Nat, y < 2 → eqSg k x y = true := by decide +kernel
  have h := this k hk x hx y hy
  simp only [eqSg, Bool.or_eq_true, Bool.and_eq_true, beq_iff_eq] at h
  rcases h with ⟨⟨⟨⟨a, b⟩, c⟩, d⟩, e⟩ | ⟨⟨⟨⟨a, b⟩, c⟩, d⟩, e⟩
  · exact .inl ⟨a, b, c, d, e⟩
  · exact .inr ⟨a, b, c, d, e⟩
theorem quiet_2 (a b c d : List Int) : quietF 2 2 [a, b, c, d] = (((one0 b == one0 a)) && ((one0 d == one0 c)) && (((one1 c == one1 a)) && ((one1 d == one1 b)))) := by
  simp [quietF, q0r, q1r, q0, q1, List.range_succ]
theorem bIx_ge (f : Nat → Int) : ∀ n k, k ≤ n → f k ≤ f (bIx f n)
  | 0, k, h => by
    obtain rfl : k = 0 := by omega
    exact Int.le_refl _
  | n + 1, k, h => by
    rw [bIx]
    split
    · rename_i hg
      by_cases hk : k = n + 1
      · subst hk; omega
      · have := bIx_ge f n k (by omega); omega
    · rename_i hg
      by_cases hk : k = n + 1
      · subst hk; omega
      · exact bIx_ge f n k (by omega)
end Go.Proofs.Ytkomndcehdneaaa
/- Joined parts: what both make, and how boxes are reduced. -/
namespace Go.Aw
theorem tmodNat (a b : Nat) : Int.tmod (a : Int) (b : Int) = ((a % b : Nat) : Int) := (Int.ofNat_tmod a b).symm
theorem gcd_step (a b : Nat) : Nat.gcd b (a % b) = Nat.gcd a b := by
  rw [Nat.gcd_comm a b, Nat.gcd_rec b a, Nat.gcd_comm]
def gcR (m : List (List Int)) (i g n : Nat) : Nat := fo (fun g n => Nat.gcd g ((m.getD i []).getD n 0).toNat) g n
def gcM (z : Int) (m : List (List Int)) (n : Nat) : Nat := fo (fun g i => gcR m i g 4) z.toNat n
theorem gcR_bd (m : List (List Int)) (i : Nat) {g : Nat} (hg : 0 < g) : ∀ n, 0 < gcR m i g n ∧ gcR m i g n ≤ g
  | 0 => ⟨hg, Nat.le_refl _⟩
  | n + 1 => by
    have ih := gcR_bd m i hg n
    show 0 < Nat.gcd (gcR m i g n) _ ∧ Nat.gcd (gcR m i g n) _ ≤ g
    exact ⟨Nat.gcd_pos_of_pos_left _ ih.1, Nat.le_trans (Nat.gcd_le_left _ ih.1) ih.2⟩
theorem gcM_bd (z : Int) (m : List (List Int)) (hz : 1 ≤ z) : ∀ n, 0 < gcM z m n ∧ gcM z m n ≤ z.toNat
  | 0 => ⟨show 0 < z.toNat by omega, Nat.le_refl _⟩
  | n + 1 => by
    have ih := gcM_bd z m hz n
    have h := gcR_bd m n ih.1 4
    exact ⟨h.1, Nat.le_trans h.2 ih.2⟩
def mixL (m m' : List (List Int)) : List (List Int) := (List.range 4).map fun p => (List.range 4).map fun q => W ((m.getD p []).getD q 0 + (m'.getD p []).getD q 0)
end Go.Aw
namespace Go.Proofs.Ytkomndcehdneaaa
open Go.Aw
set_option maxRecDepth 100000
set_option maxHeartbeats 4000000

def jnNum (m : List (List Int)) (k N : Int) (x y a b : Nat) : Int := W ((m.getD (x * 2 + y) []).getD (2 * a + b) 0 + W (N * eqNum k x y a b))
def jnM (m : List (List Int)) (k N : Int) : List (List Int) := boxRows (jnNum m k N) 2 2
def jnW (z N : Int) : Int := W (z + W (2 * N))
def rdNum (m : List (List Int)) (g : Nat) (x y a b : Nat) : Int := W (Int.tdiv ((m.getD (x * 2 + y) []).getD (2 * a + b) 0) g)
def rdM (m : List (List Int)) (g : Nat) : List (List Int) := boxRows (rdNum m g) 2 2
def rdW (z : Int) (g : Nat) : Int := W (Int.tdiv z g)

theorem divisor_spec (a b : Nat) : FSpec Try.prog 174 [.c (.int .i64 (a)), .c (.int .i64 (b))] (ex (.c (.int .i64 (Nat.gcd a b))) []) := by
  refine fspec tyOk mx Try.func174 rfl (by kernel_rfl) rfl ?_
  conv => whnf
  refine aloopI tyOk mx (fun p : Nat × Nat => (⟨12, [(0, .c (.int .i64 (p.1))), (1, .c (.int .i64 (p.2)))], [], 0⟩ : St)) (fun p => Nat.gcd p.1 p.2 = Nat.gcd a b) (fun p => p.2) (a, b) rfl none (by refine ⟨rfl, rfl, ?_, ?_⟩ <;> ((repeat' (first | exact trivial | exact rfl | refine And.intro ?_ ?_)) <;> (try ((conv => whnf); first | refine vint ?_ | refine vboo ?_ | refine rint ?_ | refine rrow ?_ | skip)) <;> (try first | omega | (simp; done) | ((repeat rw [flts_closed _ (by assumption)]); exact vws_closed _ (by assumption))))) (fun p hp => ?_)
  refine ⟨fun h => ?_, fun h => ?_⟩
  · have h : (p.2 : Int) ≠ 0 := by simpa using h
    conv => whnf
    refine ADraw.std tyOk mx ⟨by kernel_rfl, ?_⟩
    conv => whnf
    refine ⟨h, ?_⟩
    conv => whnf
    rw [tmodNat]
    exact ⟨(p.2, p.1 % p.2), none, (by refine ⟨rfl, rfl, ?_, ?_⟩ <;> ((repeat' (first | exact trivial | exact rfl | refine And.intro ?_ ?_)) <;> (try ((conv => whnf); first | refine vint ?_ | refine vboo ?_ | refine rint ?_ | refine rrow ?_ | skip)) <;> (try first | omega | (simp; done) | ((repeat rw [flts_closed _ (by assumption)]); exact vws_closed _ (by assumption))))), by rw [← hp]; exact gcd_step _ _, Nat.mod_lt _ (by omega)⟩
  · have h : (p.2 : Int) = 0 := by simpa using h
    have h : p.2 = 0 := by omega
    conv => whnf
    refine ⟨?_, rfl⟩
    rw [← hp, h, Nat.gcd_zero_right]
theorem l2Gcd_spec (a b : Nat) : FSpec Try.prog 244 [.c (.int .i64 (a)), .c (.int .i64 (b))] (ex (.c (.int .i64 (Nat.gcd a b))) []) := by
  refine fspec tyOk mx Try.func244 rfl (by kernel_rfl) rfl ?_
  conv => whnf
  refine aloopI tyOk mx (fun p : Nat × Nat => (⟨12, [(0, .c (.int .i64 (p.1))), (1, .c (.int .i64 (p.2)))], [], 0⟩ : St)) (fun p => Nat.gcd p.1 p.2 = Nat.gcd a b) (fun p => p.2) (a, b) rfl none (by refine ⟨rfl, rfl, ?_, ?_⟩ <;> ((repeat' (first | exact trivial | exact rfl | refine And.intro ?_ ?_)) <;> (try ((conv => whnf); first | refine vint ?_ | refine vboo ?_ | refine rint ?_ | refine rrow ?_ | skip)) <;> (try first | omega | (simp; done) | ((repeat rw [flts_closed _ (by assumption)]); exact vws_closed _ (by assumption))))) (fun p hp => ?_)
  refine ⟨fun h => ?_, fun h => ?_⟩
  · have h : (p.2 : Int) > 0 := of_decide_eq_true h
    conv => whnf
    refine ADraw.std tyOk mx ⟨by kernel_rfl, ?_⟩
    conv => whnf
    refine ⟨by omega, ?_⟩
    conv => whnf
    rw [tmodNat]
    exact ⟨(p.2, p.1 % p.2), none, (by refine ⟨rfl, rfl, ?_, ?_⟩ <;> ((repeat' (first | exact trivial | exact rfl | refine And.intro ?_ ?_)) <;> (try ((conv => whnf); first | refine vint ?_ | refine vboo ?_ | refine rint ?_ | refine rrow ?_ | skip)) <;> (try first | omega | (simp; done) | ((repeat rw [flts_closed _ (by assumption)]); exact vws_closed _ (by assumption))))), by rw [← hp]; exact gcd_step _ _, Nat.mod_lt _ (by omega)⟩
  · have h := of_decide_eq_false h
    have h : p.2 = 0 := by omega
    conv => whnf
    refine ⟨?_, rfl⟩
    rw [← hp, h, Nat.gcd_zero_right]

theorem l2Reduced_spec (z : Int) (m : List (List Int)) (hb : goodB 2 2 z m = true) :
    FSpec Try.prog 176 [.ag [.c (.int .i64 (2)), .c (.int .i64 (2)), .c (.int .i64 (z)), .t (.rows m)]] (ex (.ag [.c (.int .i64 (2)), .c (.int .i64 (2)), .c (.int .i64 (rdW z (gcM z m 4))), .own 0]) [(0, .rows 25 3 true (rdM m (gcM z m 4)))]) := by
  obtain ⟨na, nb, e1, e2, g1, g2, g3, g4, g5, g6, g7, g8, g9⟩ := goodB_spec hb
  obtain rfl : na = 2 := by omega
  obtain rfl : nb = 2 := by omega
  have h4 : ∀ r, r ∈ m → r.length = 4 := fun r hr => (g9 r hr).1
  have hz0 : z = ((gcM z m 0 : Nat) : Int) := by show z = ((z.toNat : Nat) : Int); omega
  refine fspec tyOk mx Try.func176 rfl (by kernel_rfl) rfl ?_
  conv => whnf
  refine aloopI tyOk mx (fun i : Nat => (⟨32, [(1, .ptr 0 0), (2, .ptr 1 0), (3, .c (.int .i64 (gcM z m i))), (4, .c (.int .i64 (i)))], [(0, .cells 53 [.c (.int .i64 (2)), .c (.int .i64 (2)), .c (.int .i64 (z)), .t (.rows m)]), (1, .cells 53 [.c (.int .i64 (0)), .c (.int .i64 (0)), .c (.int .i64 (0)), .c (.slice none 0 0)])], 2⟩ : St)) (fun i => i ≤ 4) (fun i => 4 - i) 0 (Nat.zero_le _) none (by refine ⟨rfl, rfl, ?_, ?_⟩ <;> ((repeat' (first | exact trivial | exact rfl | refine And.intro ?_ ?_)) <;> (try ((conv => whnf); first | refine vint ?_ | refine vboo ?_ | refine rint ?_ | refine rrow ?_ | skip)) <;> (try first | omega | (simp; done) | ((repeat rw [flts_closed _ (by assumption)]); exact vws_closed _ (by assumption))))) (fun i hi => ?_)
  have bi := gcM_bd z m g5 i
  refine ⟨fun h => ?_, fun h => ?_⟩
  · have h : i < 4 := by have := ltT h; omega
    have hr4 := h4 _ (getD_mem (d := []) (k := i) (by omega))
    have hv := (g9 _ (getD_mem (d := []) (k := i) (by omega))).2.1
    conv => whnf
    refine aloopI tyOk mx (fun n : Nat => (⟨32, [(1, .ptr 0 0), (2, .ptr 1 0), (3, .c (.int .i64 (gcR m i (gcM z m i) n))), (4, .c (.int .i64 (i))), (5, .c (.int .i64 (n)))], [(0, .cells 53 [.c (.int .i64 (2)), .c (.int .i64 (2)), .c (.int .i64 (z)), .t (.rows m)]), (1, .cells 53 [.c (.int .i64 (0)), .c (.int .i64 (0)), .c (.int .i64 (0)), .c (.slice none 0 0)])], 2⟩ : St)) (fun n => n ≤ 4) (fun n => 4 - n) 0 (Nat.zero_le _) none (by refine ⟨rfl, rfl, ?_, ?_⟩ <;> ((repeat' (first | exact trivial | exact rfl | refine And.intro ?_ ?_)) <;> (try ((conv => whnf); first | refine vint ?_ | refine vboo ?_ | refine rint ?_ | refine rrow ?_ | skip)) <;> (try first | omega | (simp; done) | ((repeat rw [flts_closed _ (by assumption)]); exact vws_closed _ (by assumption))))) (fun n hn => ?_)
    refine ⟨fun h5 => ?_, fun h5 => ?_⟩
    · have h5 : n < 4 := by have := of_decide_eq_true h5; omega
      have bv := hv _ (getD_mem (d := 0) (k := n) (by omega))
      have ev : (m.getD i []).getD n 0 = ((((m.getD i []).getD n 0).toNat : Nat) : Int) := by omega
      conv => whnf
      refine ⟨i, rfl, by omega, n, rfl, by omega, ?_⟩
      conv => whnf
      rw [ev]
      refine ACall.use (l2Gcd_spec _ _) ?_
      conv => whnf
      rw [nat_wrap (by omega)]
      exact ⟨n + 1, none, (by refine ⟨rfl, rfl, ?_, ?_⟩ <;> ((repeat' (first | exact trivial | exact rfl | refine And.intro ?_ ?_)) <;> (try ((conv => whnf); first | refine vint ?_ | refine vboo ?_ | refine rint ?_ | refine rrow ?_ | skip)) <;> (try first | omega | (simp; done) | ((repeat rw [flts_closed _ (by assumption)]); exact vws_closed _ (by assumption))))), by omega, by omega⟩
    · have h5 : ¬ n < 4 := by have := of_decide_eq_false h5; omega
      obtain rfl : n = 4 := by omega
      conv => whnf
      rw [nat_wrap (by omega)]
      exact ⟨i + 1, none, (by refine ⟨rfl, rfl, ?_, ?_⟩ <;> ((repeat' (first | exact trivial | exact rfl | refine And.intro ?_ ?_)) <;> (try ((conv => whnf); first | refine vint ?_ | refine vboo ?_ | refine rint ?_ | refine rrow ?_ | skip)) <;> (try first | omega | (simp; done) | ((repeat rw [flts_closed _ (by assumption)]); exact vws_closed _ (by assumption))))), by omega, by omega⟩
  · have h : ¬ i < 4 := by have := ltF h; omega
    obtain rfl : i = 4 := by omega
    have hw : ∀ v : Int, 0 ≤ v → v ≤ 1000 → W (v * 1) = v := fun v h1 h2 => by rw [Int.mul_one]; exact w64 (by omega) (by omega)
    have er : timesL m 1 ((gcM z m 4 : Nat) : Int) = rdM m (gcM z m 4) := by
      rw [rdM, mat_rows, ← mat_eta (M := timesL m 1 ((gcM z m 4 : Nat) : Int)) (by rw [timesL_len]; omega) (fun r hr => by
        obtain ⟨c, hc, rfl⟩ := List.mem_map.1 hr
        rw [timesR, List.length_map]; exact h4 c hc)]
      refine mat_congr fun p q hp hq => ?_
      have hv := (g9 _ (getD_mem (d := []) (k := p) (by omega)))
      have bv := hv.2.1 _ (getD_mem (d := 0) (k := q) (by omega))
      rw [times_get (by omega) h4 _ _ hp hq, hw _ bv.1 (by omega), rdNum, show p / 2 * 2 + p % 2 = p by omega, show 2 * (q / 2) + q % 2 = q by omega]
    conv => whnf
    refine ACall.use (l2Times_spec 2 2 z m 1 ((gcM z m 4 : Nat) : Int) (by omega) (by omega) (fun r hr => by rw [h4 r hr]; omega)) ?_
    conv => whnf
    refine ⟨?_, ?_⟩
    · rw [hw z (by omega) (by omega)]; rfl
    · rw [er]
end Go.Proofs.Ytkomndcehdneaaa
/- Joined parts, walked. -/
namespace Go.Proofs.Ytkomndcehdneaaa
open Go.Aw
set_option maxRecDepth 100000
set_option maxHeartbeats 4000000

theorem rdNum_spec (m : List (List Int)) (hm : m.length = 4) (h4 : ∀ r, r ∈ m → r.length = 4) (z : Int) (g : Nat) (hg : 0 < g) (x y a b : Nat) (hx : x < 2) (hy : y < 2) (ha : a < 2) (hb : b < 2) :
    FSpec Try.prog 175 [.c (.int .i64 (x)), .c (.int .i64 (y)), .c (.int .i64 (a)), .c (.int .i64 (b)), .rp [.c (.int .i64 (2)), .c (.int .i64 (2)), .c (.int .i64 (z)), .t (.rows m)] 0, .rp [.c (.int .i64 (g))] 0] (ex (.c (.int .i64 (rdNum m g x y a b))) []) := by
  have hr2 := h4 _ (getD_mem (d := []) (show x * 2 + y < m.length by omega))
  refine fspec tyOk mx Try.func175 rfl (by kernel_rfl) rfl ?_
  conv => whnf
  refine ADraw.plan tyOk mx (.q 0 (.q 1 (.q 2 (.q 3 (.q 4 (.q 6 (.last 5 (.q 7 (.q 8 (.done))))))))) : Plan) (by kernel_rfl) ?_
  conv => whnf
  refine ACall.useR (at_spec 2 2 x y a b z m (by omega) (by omega) (by omega) (by omega)) ?_
  conv => whnf
  refine ⟨by omega, ?_⟩
  conv => whnf
  exact ⟨rfl, rfl⟩

theorem ReduceBox_spec (z : Int) (m : List (List Int)) (hb : goodB 2 2 z m = true) (km : SzM m) :
    FSpec Try.prog 55 [.ag [.c (.int .i64 (2)), .c (.int .i64 (2)), .c (.int .i64 (z)), .t (.rows m)]] (ex (.tu [.ag [.c (.int .i64 (2)), .c (.int .i64 (2)), .c (.int .i64 (rdW z (gcM z m 4))), .own 0], .c (.bool true)]) [(0, .rows 25 3 true (rdM m (gcM z m 4)))]) := by
  obtain ⟨na, nb, e1, e2, g1, g2, g3, g4, g5, g6, g7, g8, g9⟩ := goodB_spec hb
  obtain rfl : na = 2 := by omega
  obtain rfl : nb = 2 := by omega
  have h4 : ∀ r, r ∈ m → r.length = 4 := fun r hr => (g9 r hr).1
  have hz0 : z = ((gcM z m 0 : Nat) : Int) := by show z = ((z.toNat : Nat) : Int); omega
  refine fspec tyOk mx Try.func55 rfl (by kernel_rfl) rfl ?_
  conv => whnf
  refine ACall.use (IsBox_spec 2 2 z m km) ?_
  rw [hb]
  conv => whnf
  first | refine ⟨fun h => absurd h (by decide), fun _ => ?_⟩ | refine ⟨fun _ => ?_, fun h => absurd h (by decide)⟩
  conv => whnf
  refine aloopI tyOk mx (fun i : Nat => (⟨43, [(1, .ptr 0 0), (2, .ptr 1 0), (4, .ptr 2 0), (16, .t (.rows m)), (17, .c (.int .i64 (m.length))), (18, .c (.int .i64 (i)))], [(0, .cells 53 [.c (.int .i64 (2)), .c (.int .i64 (2)), .c (.int .i64 (z)), .t (.rows m)]), (1, .cells 53 [.c (.int .i64 (0)), .c (.int .i64 (0)), .c (.int .i64 (0)), .c (.slice none 0 0)]), (2, .cells 3 [.c (.int .i64 (gcM z m i))])], 3⟩ : St)) (fun i => i ≤ 4) (fun i => 4 - i) 0 (Nat.zero_le _) none (by refine ⟨rfl, rfl, ?_, ?_⟩ <;> ((repeat' (first | exact trivial | exact rfl | refine And.intro ?_ ?_)) <;> (try ((conv => whnf); first | refine vint ?_ | refine vboo ?_ | refine rint ?_ | refine rrow ?_ | skip)) <;> (try first | omega | (simp; done) | ((repeat rw [flts_closed _ (by assumption)]); exact vws_closed _ (by assumption))))) (fun i hi => ?_)
  have bi := gcM_bd z m g5 i
  refine ⟨fun h => ?_, fun h => ?_⟩
  · have h : i < 4 := by have := ltT h; omega
    have hr4 := h4 _ (getD_mem (d := []) (k := i) (by omega))
    have hv := (g9 _ (getD_mem (d := []) (k := i) (by omega))).2.1
    conv => whnf
    refine ⟨i, rfl, by omega, ?_⟩
    conv => whnf
    refine aloopI tyOk mx (fun n : Nat => (⟨43, [(1, .ptr 0 0), (2, .ptr 1 0), (4, .ptr 2 0), (16, .t (.rows m)), (17, .c (.int .i64 (m.length))), (18, .c (.int .i64 (i))), (22, .t (.ints .i64 (m.getD i []))), (23, .c (.int .i64 ((m.getD i []).length))), (24, .c (.int .i64 (n)))], [(0, .cells 53 [.c (.int .i64 (2)), .c (.int .i64 (2)), .c (.int .i64 (z)), .t (.rows m)]), (1, .cells 53 [.c (.int .i64 (0)), .c (.int .i64 (0)), .c (.int .i64 (0)), .c (.slice none 0 0)]), (2, .cells 3 [.c (.int .i64 (gcR m i (gcM z m i) n))])], 3⟩ : St)) (fun n => n ≤ 4) (fun n => 4 - n) 0 (Nat.zero_le _) none (by refine ⟨rfl, rfl, ?_, ?_⟩ <;> ((repeat' (first | exact trivial | exact rfl | refine And.intro ?_ ?_)) <;> (try ((conv => whnf); first | refine vint ?_ | refine vboo ?_ | refine rint ?_ | refine rrow ?_ | skip)) <;> (try first | omega | (simp; done) | ((repeat rw [flts_closed _ (by assumption)]); exact vws_closed _ (by assumption))))) (fun n hn => ?_)
    refine ⟨fun h5 => ?_, fun h5 => ?_⟩
    · have h5 : n < 4 := by have := ltT h5; omega
      have bv := hv _ (getD_mem (d := 0) (k := n) (by omega))
      have ev : (m.getD i []).getD n 0 = ((((m.getD i []).getD n 0).toNat : Nat) : Int) := by omega
      conv => whnf
      refine ⟨n, rfl, by omega, ?_⟩
      conv => whnf
      rw [ev]
      refine ACall.use (divisor_spec _ _) ?_
      conv => whnf
      rw [nat_wrap (by omega)]
      exact ⟨n + 1, none, (by refine ⟨rfl, rfl, ?_, ?_⟩ <;> ((repeat' (first | exact trivial | exact rfl | refine And.intro ?_ ?_)) <;> (try ((conv => whnf); first | refine vint ?_ | refine vboo ?_ | refine rint ?_ | refine rrow ?_ | skip)) <;> (try first | omega | (simp; done) | ((repeat rw [flts_closed _ (by assumption)]); exact vws_closed _ (by assumption))))), by omega, by omega⟩
    · have h5 : ¬ n < 4 := by have := ltF h5; omega
      obtain rfl : n = 4 := by omega
      conv => whnf
      rw [nat_wrap (by omega)]
      exact ⟨i + 1, none, (by refine ⟨rfl, rfl, ?_, ?_⟩ <;> ((repeat' (first | exact trivial | exact rfl | refine And.intro ?_ ?_)) <;> (try ((conv => whnf); first | refine vint ?_ | refine vboo ?_ | refine rint ?_ | refine rrow ?_ | skip)) <;> (try first | omega | (simp; done) | ((repeat rw [flts_closed _ (by assumption)]); exact vws_closed _ (by assumption))))), by omega, by omega⟩
  · have h : ¬ i < 4 := by have := ltF h; omega
    obtain rfl : i = 4 := by omega
    generalize hG : gcM z m 4 = G at *
    conv => whnf
    refine ADraw.plan tyOk mx (.q 0 (.q 1 (.q 2 (.q 3 (.q 4 (.q 5 (.q 6 (.q 7 (.q 8 (.last 9 (.last 10 (.q 11 (.done)))))))))))) : Plan) (by kernel_rfl) ?_
    conv => whnf
    refine ⟨by omega, ?_⟩
    conv => whnf
    refine ACall.useR (newBox_spec 2 2 (rdW z G) _ [.rp [.c (.int .i64 (2)), .c (.int .i64 (2)), .c (.int .i64 (z)), .t (.rows m)] 0, .rp [.c (.int .i64 (G))] 0] (rdNum m G) (by omega) (by omega) (fun _ _ => rfl) rfl (fun i k' a b hi hk ha hb => rdNum_spec m (by omega) h4 z G (by omega) i k' a b hi hk ha hb)) ?_
    conv => whnf
    exact ⟨rfl, rfl⟩

def mixA (m m' : List (List Int)) (p q : Nat) : Int := W ((m.getD p []).getD q 0 + (m'.getD p []).getD q 0)
def mixR (m m' : List (List Int)) (p : Nat) : List Int := (List.range 4).map (mixA m m' p)
theorem l2Mix_spec (x y z z' : Int) (m m' : List (List Int)) (hm : m.length = 4) (h4 : ∀ r, r ∈ m → r.length = 4) (hm' : m'.length = 4) (h4' : ∀ r, r ∈ m' → r.length = 4) (x' y' : Int) :
    FSpec Try.prog 172 [.ag [.c (.int .i64 (x)), .c (.int .i64 (y)), .c (.int .i64 (z)), .t (.rows m)], .ag [.c (.int .i64 (x')), .c (.int .i64 (y')), .c (.int .i64 (z')), .t (.rows m')]] (ex (.ag [.c (.int .i64 (x)), .c (.int .i64 (y)), .c (.int .i64 (W (z + z'))), .own 0]) [(0, .rows 25 3 true (mixL m m'))]) := by
  refine fspec tyOk mx Try.func172 rfl (by kernel_rfl) rfl ?_
  conv => whnf
  refine aloopI tyOk mx (fun i : Nat => (⟨59, [(2, .ptr 0 0), (3, .ptr 1 0), (4, .ptr 2 0), (5, .ptr 4 0), (6, .c (.int .i64 (i)))], [(0, .cells 53 [.c (.int .i64 (x)), .c (.int .i64 (y)), .c (.int .i64 (z)), .t (.rows m)]), (1, .cells 53 [.c (.int .i64 (x')), .c (.int .i64 (y')), .c (.int .i64 (z')), .t (.rows m')]), (2, .cells 53 [.c (.int .i64 (0)), .c (.int .i64 (0)), .c (.int .i64 (0)), .c (.slice none 0 0)]), (3, .rows 25 3 true ((List.range i).map (mixR m m'))), (4, .cells 53 [.c (.int .i64 (x)), .c (.int .i64 (y)), .c (.int .i64 (W (z + z'))), .own 3])], 5⟩ : St)) (fun i => i ≤ 4) (fun i => 4 - i) 0 (Nat.zero_le _) none (by refine ⟨rfl, rfl, ?_, ?_⟩ <;> ((repeat' (first | exact trivial | exact rfl | refine And.intro ?_ ?_)) <;> (try ((conv => whnf); first | refine vint ?_ | refine vboo ?_ | refine rint ?_ | refine rrow ?_ | skip)) <;> (try first | omega | (simp; done) | ((repeat rw [flts_closed _ (by assumption)]); exact vws_closed _ (by assumption))))) (fun i hi => ?_)
  refine ⟨fun h => ?_, fun h => ?_⟩
  · have h : i < 4 := by have := ltT h; omega
    have r1 := h4 _ (getD_mem (d := []) (k := i) (by omega))
    have r2 := h4' _ (getD_mem (d := []) (k := i) (by omega))
    conv => whnf
    refine aloopI tyOk mx (fun n : Nat => (⟨59, [(2, .ptr 0 0), (3, .ptr 1 0), (4, .ptr 2 0), (5, .ptr 4 0), (6, .c (.int .i64 (i))), (7, .own 5), (8, .c (.int .i64 (n)))], [(0, .cells 53 [.c (.int .i64 (x)), .c (.int .i64 (y)), .c (.int .i64 (z)), .t (.rows m)]), (1, .cells 53 [.c (.int .i64 (x')), .c (.int .i64 (y')), .c (.int .i64 (z')), .t (.rows m')]), (2, .cells 53 [.c (.int .i64 (0)), .c (.int .i64 (0)), .c (.int .i64 (0)), .c (.slice none 0 0)]), (3, .rows 25 3 true ((List.range i).map (mixR m m'))), (4, .cells 53 [.c (.int .i64 (x)), .c (.int .i64 (y)), .c (.int .i64 (W (z + z'))), .own 3]), (5, .ints 3 .i64 ((List.range n).map (mixA m m' i)))], 6⟩ : St)) (fun n => n ≤ 4) (fun n => 4 - n) 0 (Nat.zero_le _) none (by refine ⟨rfl, rfl, ?_, ?_⟩ <;> ((repeat' (first | exact trivial | exact rfl | refine And.intro ?_ ?_)) <;> (try ((conv => whnf); first | refine vint ?_ | refine vboo ?_ | refine rint ?_ | refine rrow ?_ | skip)) <;> (try first | omega | (simp; done) | ((repeat rw [flts_closed _ (by assumption)]); exact vws_closed _ (by assumption))))) (fun n hn => ?_)
    refine ⟨fun h5 => ?_, fun h5 => ?_⟩
    · have h5 : n < 4 := by have := of_decide_eq_true h5; omega
      refine ADraw.plan tyOk mx (.q 0 (.q 1 (.q 2 (.q 3 (.q 4 (.q 5 (.q 6 (.q 7 (.q 8 (.q 9 (.q 10 (.q 11 (.q 12 (.q 13 (.q 14 (.q 15 (.q 16 (.q 17 (.last 18 (.last 19 (.q 20 (.done))))))))))))))))))))) : Plan) (by kernel_rfl) ?_
      conv => whnf
      refine ⟨i, rfl, by omega, n, rfl, by omega, i, rfl, by omega, n, rfl, by omega, ?_⟩
      conv => whnf
      refine ⟨by simp [room]; omega, ?_⟩
      conv => whnf
      rw [nat_wrap (by omega)]
      refine ⟨n + 1, none, ?_, by omega, by omega⟩
      (refine ⟨rfl, rfl, ?_, ?_⟩ <;> ((repeat' (first | exact trivial | exact rfl | refine And.intro ?_ ?_)) <;> (try ((conv => whnf); first | refine vint ?_ | refine vboo ?_ | refine rint ?_ | refine rrow ?_ | skip)) <;> (try first | omega | (simp; done) | ((repeat rw [flts_closed _ (by assumption)]); exact vws_closed _ (by assumption)))))
      rw [← map_range_succ]; rfl
    · have h5 : ¬ n < 4 := by have := of_decide_eq_false h5; omega
      obtain rfl : n = 4 := by omega
      conv => whnf
      refine ⟨by simp [room]; omega, ?_⟩
      conv => whnf
      rw [nat_wrap (by omega)]
      refine ⟨i + 1, none, ?_, by omega, by omega⟩
      (refine ⟨rfl, rfl, ?_, ?_⟩ <;> ((repeat' (first | exact trivial | exact rfl | refine And.intro ?_ ?_)) <;> (try ((conv => whnf); first | refine vint ?_ | refine vboo ?_ | refine rint ?_ | refine rrow ?_ | skip)) <;> (try first | omega | (simp; done) | ((repeat rw [flts_closed _ (by assumption)]); exact vws_closed _ (by assumption)))))
      exact map_range_succ (mixR m m') i
  · have h : ¬ i < 4 := by have := ltF h; omega
    obtain rfl : i = 4 := by omega
    conv => whnf
    exact ⟨rfl, rfl⟩

def jnIn (x y z : Int) (m : List (List Int)) (k N : Int) : Bool := qpB x y z m && (inR k 0 7 && inR N 0 1000)
def jnOk (x y z : Int) (m : List (List Int)) (k N : Int) : Bool := jnIn x y z m k N && goodB 2 2 (jnW z N) (jnM m k N)
def jnG (z : Int) (m : List (List Int)) (k N : Int) : Nat := gcM (jnW z N) (jnM m k N) 4
def jnV (x y z : Int) (m : List (List Int)) (k N : Int) : Int := if jnOk x y z m k N then rdW (jnW z N) (jnG z m k N) else 0
def jnR (x y z : Int) (m : List (List Int)) (k N : Int) : List (List Int) := if jnOk x y z m k N then rdM (jnM m k N) (jnG z m k N) else []

theorem jnNum_spec (m : List (List Int)) (hm : m.length = 4) (h4 : ∀ r, r ∈ m → r.length = 4) (z : Int) (k : Int) (N : Int) (x y a b : Nat) (hx : x < 2) (hy : y < 2) (ha : a < 2) (hb : b < 2) :
    FSpec Try.prog 190 [.c (.int .i64 (x)), .c (.int .i64 (y)), .c (.int .i64 (a)), .c (.int .i64 (b)), .rp [.c (.int .i64 (2)), .c (.int .i64 (2)), .c (.int .i64 (z)), .t (.rows m)] 0, .rp [.c (.int .i64 (N))] 0, .rp [.c (.int .i64 (2)), .c (.int .i64 (2)), .c (.int .i64 (2)), .t (.rows (equalM k))] 0] (ex (.c (.int .i64 (jnNum m k N x y a b))) []) := by
  have hl : (equalM k).length = 4 := boxRows_len _ 2 2
  have hr := boxRows_rows (eqNum k) 2 2 _ (getD_mem (d := []) (show x * 2 + y < (equalM k).length by omega))
  have hr2 := h4 _ (getD_mem (d := []) (show x * 2 + y < m.length by omega))
  refine fspec tyOk mx Try.func190 rfl (by kernel_rfl) rfl ?_
  conv => whnf
  refine ADraw.plan tyOk mx (.q 0 (.q 1 (.q 2 (.q 3 (.q 4 (.q 6 (.q 7 (.q 8 (.q 9 (.q 10 (.q 11 (.last 5 (.last 12 (.q 13 (.q 14 (.q 15 (.done)))))))))))))))) : Plan) (by kernel_rfl) ?_
  conv => whnf
  refine ACall.useR (at_spec 2 2 x y a b z m (by omega) (by omega) (by omega) (by omega)) ?_
  conv => whnf
  refine ACall.useR (at_spec 2 2 x y a b 2 (equalM k) (by omega) (by omega) (by show 2 * a + b < ((boxRows (eqNum k) 2 2).getD (x * 2 + y) []).length; rw [hr]; omega) (by omega)) ?_
  conv => whnf
  refine ⟨?_, rfl⟩
  rw [equalM, boxRows_get _ hx hy ha hb]; rfl

theorem JoinPart_i (x y z : Int) (m : List (List Int)) (_hx : InR x) (_hy : InR y) (_hz : InR z) (_hm : OkM m) (km : SzM m) (k : Int) (_hk : InR k) (N : Int) (_hN : InR N) :
    FSpec Try.prog 71 [.ag [.c (.int .i64 (x)), .c (.int .i64 (y)), .c (.int .i64 (z)), .t (.rows m)], .c (.int .i64 (k)), .c (.int .i64 (N))] (ex (.tu [.ag [.c (.int .i64 (if jnOk x y z m k N then 2 else 0)), .c (.int .i64 (if jnOk x y z m k N then 2 else 0)), .c (.int .i64 (if jnOk x y z m k N then rdW (jnW z N) (jnG z m k N) else 0)), .own 0], .c (.bool (jnOk x y z m k N))]) [(0, .rows 25 3 true (jnR x y z m k N))]) := by
  refine view_box ?_
  refine fspec tyOk mx Try.func71 rfl (by kernel_rfl) rfl ?_
  conv => whnf
  refine ACall.use (isQuietPair_spec x y z m km) ?_
  conv => whnf
  refine ⟨fun h => ?_, fun h => ?_⟩
  · have h : qpB x y z m = true := by simpa using h
    conv => whnf
    refine ACall.use (within_spec _ _ _) ?_
    conv => whnf
    refine ⟨fun h1 => ?_, fun h1 => ?_⟩
    · have h1 : inR k 0 7 = true := by simpa using h1
      conv => whnf
      refine ACall.use (within_spec _ _ _) ?_
      conv => whnf
      refine ⟨fun h2 => ?_, fun h2 => ?_⟩
      · have h2 : inR N 0 1000 = false := by simpa using h2
        have e : jnOk x y z m k N = false := by rw [jnOk, jnIn, h2]; simp
        conv => whnf
        exact .inl ⟨e, rfl, rfl⟩
      · have h2 : inR N 0 1000 = true := by simpa using h2
        have e : jnIn x y z m k N = true := by rw [jnIn, h, h1, h2]; rfl
        obtain ⟨rfl, rfl, g1, g2, g3, g4⟩ := qpB_spec h
        have h4 : ∀ r, r ∈ m → r.length = 4 := fun r hr => (g4 r hr).1
        conv => whnf
        refine ACall.use (equalSum_spec k) ?_
        conv => whnf
        refine ACall.use (newBox_spec 2 2 (jnW z N) _ [.rp [.c (.int .i64 (2)), .c (.int .i64 (2)), .c (.int .i64 (z)), .t (.rows m)] 0, .rp [.c (.int .i64 (N))] 0, .rp [.c (.int .i64 (2)), .c (.int .i64 (2)), .c (.int .i64 (2)), .t (.rows (equalM k))] 0] (jnNum m k N) (by omega) (by omega) (fun _ _ => rfl) rfl (fun i k' a b hi hk ha hb => jnNum_spec m g3 h4 z k N i k' a b hi hk ha hb)) ?_
        conv => whnf
        refine ACall.use (IsBox_spec 2 2 (jnW z N) (jnM m k N) (box_sz _)) ?_
        conv => whnf
        refine ⟨fun h5 => ?_, fun h5 => ?_⟩
        · have h5 : goodB 2 2 (jnW z N) (jnM m k N) = false := by simpa using h5
          have e2 : jnOk 2 2 z m k N = false := by rw [jnOk, h5, Bool.and_false]
          conv => whnf
          exact .inl ⟨e2, rfl, rfl⟩
        · have h5 : goodB 2 2 (jnW z N) (jnM m k N) = true := by simpa using h5
          have e2 : jnOk 2 2 z m k N = true := by rw [jnOk, e, h5]; rfl
          conv => whnf
          refine ACall.use (ReduceBox_spec (jnW z N) (jnM m k N) h5 (box_sz _)) ?_
          conv => whnf
          exact .inr ⟨e2, rfl, rfl⟩
    · have h1 : inR k 0 7 = false := by simpa using h1
      have e : jnOk x y z m k N = false := by rw [jnOk, jnIn, h1]; simp
      (repeat (conv => whnf); (first | refine ⟨fun h => absurd h (by decide), fun _ => ?_⟩ | refine ⟨fun _ => ?_, fun h => absurd h (by decide)⟩)); conv => whnf
      exact .inl ⟨e, rfl, rfl⟩
  · have h : qpB x y z m = false := by simpa using h
    have e : jnOk x y z m k N = false := by rw [jnOk, jnIn, h]; simp
    (repeat (conv => whnf); (first | refine ⟨fun h => absurd h (by decide), fun _ => ?_⟩ | refine ⟨fun _ => ?_, fun h => absurd h (by decide)⟩)); conv => whnf
    exact .inl ⟨e, rfl, rfl⟩
end Go.Proofs.Ytkomndcehdneaaa
/- Joined parts: the reference, walked. -/
namespace Go.Proofs.Ytkomndcehdneaaa
open Go.Aw
set_option maxRecDepth 100000
set_option maxHeartbeats 4000000

theorem jn_mix (m : List (List Int)) (k N : Int) : mixL m (timesL (equalM k) N 1) = jnM m k N := by
  have hl : (equalM k).length = 4 := boxRows_len _ 2 2
  have hr := boxRows_rows (eqNum k) 2 2
  rw [jnM, mat_rows]
  unfold mixL
  refine mat_congr fun p q hp hq => ?_
  rw [times_get hl hr _ _ hp hq, equalM, mat_get _ hp hq, jnNum, tdiv_one, WW, Int.mul_comm]
  rw [show p / 2 * 2 + p % 2 = p by omega, show 2 * (q / 2) + q % 2 = q by omega]
theorem jn_zero (z : Int) (m : List (List Int)) (k : Int) (hz : 1 ≤ z) (hz2 : z ≤ 1000) (hm : m.length = 4) (h4 : ∀ r, r ∈ m → r.length = 4 ∧ ∀ v, v ∈ r → 0 ≤ v ∧ v ≤ z) : jnM m k 0 = m := by
  rw [jnM, mat_rows]
  refine Eq.trans ?_ (mat_eta hm (fun r hr => (h4 r hr).1))
  refine mat_congr fun p q hp hq => ?_
  have h1 : m.getD p [] ∈ m := by rw [List.getD_eq_getElem?_getD, List.getElem?_eq_getElem (by omega)]; exact List.getElem_mem _
  have h2 := h4 _ h1
  have h3 : (m.getD p []).getD q 0 ∈ m.getD p [] := by rw [List.getD_eq_getElem?_getD (l := m.getD p []), List.getElem?_eq_getElem (by omega)]; exact List.getElem_mem _
  have h5 := h2.2 _ h3
  rw [jnNum, Int.zero_mul, show W 0 = 0 from rfl, Int.add_zero, show p / 2 * 2 + p % 2 = p by omega, show 2 * (q / 2) + q % 2 = q by omega]
  exact w64 (by omega) (by omega)

theorem l6Kind_s (k : Int) : FSpec Try.prog 191 [.c (.int .i64 (k))] (ex (.c (.bool (inR k 0 7))) []) := by
  refine fspec tyOk mx Try.func191 rfl (by kernel_rfl) rfl ?_
  conv => whnf
  refine ACall.use (l1In_spec _ _ _) ?_
  conv => whnf
  exact ⟨rfl, rfl⟩

theorem JoinPart_s (x y z : Int) (m : List (List Int)) (_hx : InR x) (_hy : InR y) (_hz : InR z) (_hm : OkM m) (km : SzM m) (k : Int) (_hk : InR k) (N : Int) (_hN : InR N) :
    FSpec Try.prog 72 [.ag [.c (.int .i64 (x)), .c (.int .i64 (y)), .c (.int .i64 (z)), .t (.rows m)], .c (.int .i64 (k)), .c (.int .i64 (N))] (ex (.tu [.ag [.c (.int .i64 (if jnOk x y z m k N then 2 else 0)), .c (.int .i64 (if jnOk x y z m k N then 2 else 0)), .c (.int .i64 (if jnOk x y z m k N then rdW (jnW z N) (jnG z m k N) else 0)), .own 0], .c (.bool (jnOk x y z m k N))]) [(0, .rows 25 3 true (jnR x y z m k N))]) := by
  refine view_box ?_
  refine fspec tyOk mx Try.func72 rfl (by kernel_rfl) rfl ?_
  conv => whnf
  refine ACall.use (l6Quiet_spec x y z m km) ?_
  conv => whnf
  refine ⟨fun h => ?_, fun h => ?_⟩
  · have h : qpB x y z m = true := by simpa using h
    conv => whnf
    refine ACall.use (l6Kind_s _) ?_
    conv => whnf
    refine ⟨fun h1 => ?_, fun h1 => ?_⟩
    · have h1 : inR k 0 7 = true := by simpa using h1
      conv => whnf
      refine ACall.use (l1In_spec _ _ _) ?_
      conv => whnf
      refine ⟨fun h2 => ?_, fun h2 => ?_⟩
      · have h2 : inR N 0 1000 = false := by simpa using h2
        have e : jnOk x y z m k N = false := by rw [jnOk, jnIn, h2]; simp
        conv => whnf
        exact .inl ⟨e, rfl, rfl⟩
      · have h2 : inR N 0 1000 = true := by simpa using h2
        have e : jnIn x y z m k N = true := by rw [jnIn, h, h1, h2]; rfl
        obtain ⟨rfl, rfl, g1, g2, g3, g4⟩ := qpB_spec h
        have h4 : ∀ r, r ∈ m → r.length = 4 := fun r hr => (g4 r hr).1
        have k1 := inR_iff.1 h1
        have k2 := inR_iff.1 h2
        have hel : (equalM k).length = 4 := boxRows_len _ 2 2
        have her := boxRows_rows (eqNum k) 2 2
        have bad : goodB 2 2 (jnW z N) (jnM m k N) = false → jnOk 2 2 z m k N = false := fun h5 => by rw [jnOk, h5, Bool.and_false]
        have good : goodB 2 2 (jnW z N) (jnM m k N) = true → jnOk 2 2 z m k N = true := fun h5 => by rw [jnOk, e, h5]; rfl
        conv => whnf
        refine ⟨fun h3 => ?_, fun h3 => ?_⟩
        · have h3 := of_decide_eq_true h3
          obtain ⟨kn, rfl⟩ : ∃ n : Nat, k = n := ⟨k.toNat, by omega⟩
          have ew : W (z + W (Int.tdiv (W (2 * N)) 1)) = jnW z N := by rw [tdiv_one, WW]; rfl
          conv => whnf
          refine ADraw.plan tyOk mx (.q 0 (.q 1 (.q 3 (.last 2 (.last 4 (.last 5 (.last 6 (.done))))))) : Plan) (by kernel_rfl) ?_
          conv => whnf
          refine ACall.useR (l6Sum_spec kn (by omega)) ?_
          conv => whnf
          refine ACall.useR (l2Times_spec 2 2 2 (equalM kn) N 1 (by decide) (by omega) (fun r hr => by rw [her r hr]; omega)) ?_
          conv => whnf
          refine ACall.useR (l2Mix_spec 2 2 z _ m (timesL (equalM kn) N 1) g3 h4 (by rw [timesL_len]; omega) (fun r hr => by
            obtain ⟨c, hc, rfl⟩ := List.mem_map.1 hr
            rw [timesR, List.length_map]; exact her c hc) 2 2) ?_
          rw [jn_mix, ew]
          conv => whnf
          refine ACall.use (l2Box_spec 2 2 (jnW z N) (jnM m kn N) (box_sz _)) ?_
          conv => whnf
          refine ⟨fun h5 => ?_, fun h5 => ?_⟩
          · have h5 : goodB 2 2 (jnW z N) (jnM m kn N) = false := by simpa using h5
            conv => whnf
            exact .inl ⟨bad h5, rfl, rfl⟩
          · have h5 : goodB 2 2 (jnW z N) (jnM m kn N) = true := by simpa using h5
            conv => whnf
            refine ACall.use (l2Reduced_spec (jnW z N) (jnM m kn N) h5) ?_
            conv => whnf
            exact .inr ⟨good h5, rfl, rfl⟩
        · have h3 := of_decide_eq_false h3
          obtain rfl : N = 0 := by omega
          have e1 : jnM m k 0 = m := jn_zero z m k (by omega) (by omega) g3 (fun r hr => ⟨(g4 r hr).1, (g4 r hr).2.1⟩)
          have e2 : jnW z 0 = z := by show W (z + W (2 * 0)) = z; rw [show W (2 * 0) = 0 from rfl, Int.add_zero]; exact w64 (by omega) (by omega)
          rw [e1, e2] at bad good
          conv => whnf
          refine ACall.use (l2Box_spec 2 2 z m km) ?_
          conv => whnf
          refine ⟨fun h5 => ?_, fun h5 => ?_⟩
          · have h5 : goodB 2 2 z m = false := by simpa using h5
            conv => whnf
            exact .inl ⟨bad h5, rfl, rfl⟩
          · have h5 : goodB 2 2 z m = true := by simpa using h5
            conv => whnf
            refine ACall.use (l2Reduced_spec z m h5) ?_
            rw [show rdW z (gcM z m 4) = rdW (jnW z 0) (jnG z m k 0) by rw [jnG, e1, e2], show rdM m (gcM z m 4) = rdM (jnM m k 0) (jnG z m k 0) by rw [jnG, e1, e2]]
            conv => whnf
            exact .inr ⟨good h5, rfl, rfl⟩
    · have h1 : inR k 0 7 = false := by simpa using h1
      have e : jnOk x y z m k N = false := by rw [jnOk, jnIn, h1]; simp
      (repeat (conv => whnf); (first | refine ⟨fun h => absurd h (by decide), fun _ => ?_⟩ | refine ⟨fun _ => ?_, fun h => absurd h (by decide)⟩)); conv => whnf
      exact .inl ⟨e, rfl, rfl⟩
  · have h : qpB x y z m = false := by simpa using h
    have e : jnOk x y z m k N = false := by rw [jnOk, jnIn, h]; simp
    (repeat (conv => whnf); (first | refine ⟨fun h => absurd h (by decide), fun _ => ?_⟩ | refine ⟨fun _ => ?_, fun h => absurd h (by decide)⟩)); conv => whnf
    exact .inl ⟨e, rfl, rfl⟩

theorem JoinPart_bd (x y z : Int) (m : List (List Int)) (_hx : InR x) (_hy : InR y) (_hz : InR z) (_hm : OkM m) (_km : SzM m) (k : Int) (_hk : InR k) (N : Int) (_hN : InR N) : (jnR x y z m k N).length ≤ 1048576 ∧ tot (jnR x y z m k N) ≤ 1048576 := by
  unfold jnR
  split
  · obtain ⟨a, _, b⟩ := (box_sz (rdNum (jnM m k N) (jnG z m k N))).all
    exact ⟨a, b⟩
  · simp [tot]
end Go.Proofs.Ytkomndcehdneaaa
/- Extreme boxes: the boxes of plays, reference and program. -/
namespace Go.Aw
def pbNum (play : List Int) (w : Int) (x y a b : Nat) : Int := if play.getD x 0 = a ∧ play.getD (2 + y) 0 = b then w else 0
def pbM (play : List Int) (w : Int) : List (List Int) := boxRows (pbNum play w) 2 2
theorem pb_row {play : List Int} {w : Int} {i k p q : Nat} (hp : play.getD i 0 = p) (hq : play.getD (2 + k) 0 = q) (h1 : p < 2) (h2 : q < 2) : (List.replicate 4 (0 : Int)).set (2 * p + q) w = boxRow (pbNum play w) i k := by
  unfold boxRow pbNum
  rw [hp, hq]
  have h1 : p = 0 ∨ p = 1 := by omega
  have h2 : q = 0 ∨ q = 1 := by omega
  rcases h1 with rfl | rfl <;> rcases h2 with rfl | rfl <;> rfl
theorem FSpec.told {P : Program} {f : FuncId} {args : List AVal} {x x' : AVal} {h : List (Nat × ARow)} (hs : FSpec P f args (ex x h)) (hv : vw h [] 0 x x') : FSpec P f args (ex x' []) :=
  hs.view (fun y hr e => by obtain ⟨rfl, rfl⟩ := e; exact ⟨[], x', [], rfl, trivial, hv, rfl, rfl⟩)
end Go.Aw
namespace Go.Proofs.Ytkomndcehdneaaa
open Go.Aw
set_option maxRecDepth 100000
set_option maxHeartbeats 4000000

theorem pbNum_spec (play : List Int) (hl : play.length = 4) (w : Int) (i k a b : Nat) (hi : i < 2) (hk : k < 2) :
    FSpec Try.prog 245 [.c (.int .i64 (i)), .c (.int .i64 (k)), .c (.int .i64 (a)), .c (.int .i64 (b)), .rp [.t (.ints .i64 play)] 0, .rp [.c (.int .i64 (2))] 0, .rp [.c (.int .i64 (w))] 0] (ex (.c (.int .i64 (pbNum play w i k a b))) []) := by
  have e : IntKind.i64.wrap ((2 : Int) + (k : Int)) = ((2 + k : Nat) : Int) := by rw [w64 (by omega) (by omega)]; omega
  refine fspec tyOk mx Try.func245 rfl (by kernel_rfl) rfl ?_
  conv => whnf
  refine ⟨i, rfl, by omega, ?_⟩
  conv => whnf
  refine ⟨fun h => ?_, fun h => ?_⟩
  · have h : play.getD i 0 = a := by simpa using h
    conv => whnf
    refine ⟨2 + k, e, by omega, ?_⟩
    conv => whnf
    refine ⟨fun h2 => ?_, fun h2 => ?_⟩
    · have h2 : play.getD (2 + k) 0 = b := by simpa using h2
      conv => whnf
      exact ⟨by rw [pbNum, if_pos ⟨h, h2⟩], rfl⟩
    · have h2 : ¬ play.getD (2 + k) 0 = b := by simpa using h2
      conv => whnf
      exact ⟨by rw [pbNum, if_neg (fun c => h2 c.2)], rfl⟩
  · have h : ¬ play.getD i 0 = a := by simpa using h
    conv => whnf
    (repeat (conv => whnf); (first | refine ⟨fun h => absurd h (by decide), fun _ => ?_⟩ | refine ⟨fun _ => ?_, fun h => absurd h (by decide)⟩)); conv => whnf
    exact ⟨by rw [pbNum, if_neg (fun c => h c.1)], rfl⟩

theorem playBox_spec (play : List Int) (hl : play.length = 4) (w : Int) :
    FSpec Try.prog 180 [.c (.int .i64 (2)), .c (.int .i64 (2)), .t (.ints .i64 play), .c (.int .i64 (w))] (ex (.ag [.c (.int .i64 (2)), .c (.int .i64 (2)), .c (.int .i64 (w)), .own 0]) [(0, .rows 25 3 true (pbM play w))]) := by
  refine fspec tyOk mx Try.func180 rfl (by kernel_rfl) rfl ?_
  conv => whnf
  refine ACall.use (newBox_spec 2 2 w _ [.rp [.t (.ints .i64 play)] 0, .rp [.c (.int .i64 (2))] 0, .rp [.c (.int .i64 (w))] 0] (pbNum play w) (by omega) (by omega) (fun _ _ => rfl) rfl (fun i k' a b hi hk _ _ => pbNum_spec play hl w i k' a b hi hk)) ?_
  conv => whnf
  exact ⟨rfl, rfl⟩

theorem l2PlayBox_spec (play : List Int) (hl : play.length = 4) (h01 : ∀ v, v ∈ play → 0 ≤ v ∧ v ≤ 1) (w : Int) :
    FSpec Try.prog 146 [.c (.int .i64 (2)), .c (.int .i64 (2)), .t (.ints .i64 play), .c (.int .i64 (w))] (ex (.ag [.c (.int .i64 (2)), .c (.int .i64 (2)), .c (.int .i64 (w)), .own 0]) [(0, .rows 25 3 true (pbM play w))]) := by
  refine fspec tyOk mx Try.func146 rfl (by kernel_rfl) rfl ?_
  conv => whnf
  refine aloopI tyOk mx (fun i : Nat => (⟨51, [(0, .c (.int .i64 (2))), (1, .c (.int .i64 (2))), (2, .t (.ints .i64 play)), (3, .c (.int .i64 (w))), (8, .ptr 0 0), (9, .ptr 2 0), (10, .c (.int .i64 (i)))], [(0, .cells 53 [.c (.int .i64 (0)), .c (.int .i64 (0)), .c (.int .i64 (0)), .c (.slice none 0 0)]), (1, .rows 25 3 true (boxTo (pbNum play w) 2 i 0)), (2, .cells 53 [.c (.int .i64 (2)), .c (.int .i64 (2)), .c (.int .i64 (w)), .own 1])], 3⟩ : St)) (fun i => i ≤ 2) (fun i => 2 - i) 0 (Nat.zero_le _) none (by refine ⟨rfl, rfl, ?_, ?_⟩ <;> ((repeat' (first | exact trivial | exact rfl | refine And.intro ?_ ?_)) <;> (try ((conv => whnf); first | refine vint ?_ | refine vboo ?_ | refine rint ?_ | refine rrow ?_ | skip)) <;> (try first | omega | (simp; done) | ((repeat rw [flts_closed _ (by assumption)]); exact vws_closed _ (by assumption))))) (fun i hi => ?_)
  refine ⟨fun h => ?_, fun h => ?_⟩
  · have h : i < 2 := by have := of_decide_eq_true h; omega
    conv => whnf
    refine aloopI tyOk mx (fun k : Nat => (⟨51, [(0, .c (.int .i64 (2))), (1, .c (.int .i64 (2))), (2, .t (.ints .i64 play)), (3, .c (.int .i64 (w))), (8, .ptr 0 0), (9, .ptr 2 0), (10, .c (.int .i64 (i))), (11, .c (.int .i64 (k)))], [(0, .cells 53 [.c (.int .i64 (0)), .c (.int .i64 (0)), .c (.int .i64 (0)), .c (.slice none 0 0)]), (1, .rows 25 3 true (boxTo (pbNum play w) 2 i k)), (2, .cells 53 [.c (.int .i64 (2)), .c (.int .i64 (2)), .c (.int .i64 (w)), .own 1])], 3⟩ : St)) (fun k => k ≤ 2) (fun k => 2 - k) 0 (Nat.zero_le _) none (by refine ⟨rfl, rfl, ?_, ?_⟩ <;> ((repeat' (first | exact trivial | exact rfl | refine And.intro ?_ ?_)) <;> (try ((conv => whnf); first | refine vint ?_ | refine vboo ?_ | refine rint ?_ | refine rrow ?_ | skip)) <;> (try first | omega | (simp; done) | ((repeat rw [flts_closed _ (by assumption)]); exact vws_closed _ (by assumption))))) (fun k hk => ?_)
    have hlen := boxTo_len (pbNum play w) 2 i k
    refine ⟨fun h2 => ?_, fun h2 => ?_⟩
    · have h2 : k < 2 := by have := of_decide_eq_true h2; omega
      have hp := h01 _ (getD_mem (d := 0) (show i < play.length by omega))
      have hq := h01 _ (getD_mem (d := 0) (show 2 + k < play.length by omega))
      have e : IntKind.i64.wrap ((2 : Int) + (k : Int)) = ((2 + k : Nat) : Int) := by rw [w64 (by omega) (by omega)]; omega
      have e2 : IntKind.i64.wrap (IntKind.i64.wrap (2 * play.getD i 0) + play.getD (2 + k) 0) = ((2 * (play.getD i 0).toNat + (play.getD (2 + k) 0).toNat : Nat) : Int) := by
        rw [w64 (n := 2 * play.getD i 0) (by omega) (by omega), w64 (by omega) (by omega)]; omega
      conv => whnf
      refine ⟨4, rfl, rfl, by simp [room], ?_⟩
      conv => whnf
      refine ADraw.plan tyOk mx (.q 0 (.q 1 (.q 2 (.q 3 (.q 4 (.q 5 (.q 6 (.q 7 (.q 8 (.q 9 (.q 10 (.q 11 (.q 12 (.q 13 (.q 14 (.last 15 (.done)))))))))))))))) : Plan) (by kernel_rfl) ?_
      conv => whnf
      repeat' (first | (refine ⟨i, rfl, by omega, ?_⟩; conv => whnf) | (refine ⟨2 + k, e, by omega, ?_⟩; conv => whnf) | (refine ⟨2 * (play.getD i 0).toNat + (play.getD (2 + k) 0).toNat, e2, by rw [List.length_replicate]; omega, ?_⟩; conv => whnf) | (refine ⟨by simp [room]; omega, ?_⟩; conv => whnf) | (refine And.intro ?_ ?_ <;> (conv => whnf)))
      all_goals
        rw [nat_wrap (by omega)]
        refine ⟨k + 1, none, ?_, by omega, by omega⟩
        (refine ⟨rfl, rfl, ?_, ?_⟩ <;> ((repeat' (first | exact trivial | exact rfl | refine And.intro ?_ ?_)) <;> (try ((conv => whnf); first | refine vint ?_ | refine vboo ?_ | refine rint ?_ | refine rrow ?_ | skip)) <;> (try first | omega | (simp; done) | ((repeat rw [flts_closed _ (by assumption)]); exact vws_closed _ (by assumption)))))
        rw [← boxTo_row, ← pb_row (i := i) (k := k) (p := (play.getD i 0).toNat) (q := (play.getD (2 + k) 0).toNat) (by omega) (by omega) (by omega) (by omega)]
    · have h2 : ¬ k < 2 := by have := of_decide_eq_false h2; omega
      obtain rfl : k = 2 := by omega
      conv => whnf
      rw [nat_wrap (by omega)]
      refine ⟨i + 1, none, ?_, by omega, by omega⟩
      (refine ⟨rfl, rfl, ?_, ?_⟩ <;> ((repeat' (first | exact trivial | exact rfl | refine And.intro ?_ ?_)) <;> (try ((conv => whnf); first | refine vint ?_ | refine vboo ?_ | refine rint ?_ | refine rrow ?_ | skip)) <;> (try first | omega | (simp; done) | ((repeat rw [flts_closed _ (by assumption)]); exact vws_closed _ (by assumption)))))
      exact boxTo_end _ 2 i
  · have h : ¬ i < 2 := by have := of_decide_eq_false h; omega
    obtain rfl : i = 2 := by omega
    conv => whnf
    exact ⟨rfl, by rw [boxTo_all]; rfl⟩
end Go.Proofs.Ytkomndcehdneaaa
/- Extreme boxes, in order: reference and program. -/
namespace Go.Proofs.Ytkomndcehdneaaa
open Go.Aw
set_option maxRecDepth 100000
set_option maxHeartbeats 4000000

def exRow (i : Nat) : List (List Int) := if i < 16 then pbM ((playsL 4).getD i []) 2 else equalM ((i : Int) - 16)
def exL (n : Nat) : List (List Int × List (List Int)) := (List.range n).map fun i => ([2, 2, 2], exRow i)
theorem exL_len (n : Nat) : (exL n).length = n := by simp [exL]
theorem exL_get {n i : Nat} (h : i < n) : (exL n).getD i ([], []) = ([2, 2, 2], exRow i) := range_getD h
theorem exL_succ (n : Nat) : exL n ++ [([2, 2, 2], exRow n)] = exL (n + 1) := map_range_succ _ n
theorem exRow_len (i : Nat) : (exRow i).length = 4 := by
  unfold exRow
  split
  · exact boxRows_len _ 2 2
  · exact boxRows_len _ 2 2
theorem exRow_rows (i : Nat) : ∀ r, r ∈ exRow i → r.length = 4 := by
  have key : ∀ f : Nat → Nat → Nat → Nat → Int, ∀ q, q ∈ boxRows f 2 2 → q.length = 4 := fun f q hq => by
    obtain ⟨i, _, hq⟩ := List.mem_flatMap.1 hq
    obtain ⟨j, _, rfl⟩ := List.mem_map.1 hq
    simp [boxRow]
  unfold exRow
  split
  · exact key _
  · exact key _
theorem play4 {i : Nat} (h : i < 16) : ((playsL 4).getD i []).length = 4 ∧ ∀ v, v ∈ (playsL 4).getD i [] → 0 ≤ v ∧ v ≤ 1 := playsL_row (by omega) (by rw [playsL_len]; simpa using h)

theorem extreme_spec (i : Nat) (hi : i < 24) : FSpec Try.prog 217 [.c (.int .i64 (i))] (ex (.ag [.c (.int .i64 (2)), .c (.int .i64 (2)), .c (.int .i64 (2)), .own 0]) [(0, .rows 25 3 true (exRow i))]) := by
  have hpl : (playsL 4).length = 16 := playsL_len 4
  refine fspec tyOk mx Try.func217 rfl (by kernel_rfl) rfl ?_
  conv => whnf
  refine ⟨fun h => ?_, fun h => ?_⟩
  · have h : i < 16 := by have := of_decide_eq_true h; omega
    have e : exRow i = pbM ((playsL 4).getD i []) 2 := by rw [exRow, if_pos h]
    conv => whnf
    refine ACall.use (plays_spec 2 2 (by omega)) ?_
    conv => whnf
    refine ⟨i, rfl, by show i < (playsL 4).length; omega, ?_⟩
    conv => whnf
    refine ACall.use (playBox_spec ((playsL 4).getD i []) (play4 h).1 2) ?_
    conv => whnf
    exact ⟨rfl, by rw [e]⟩
  · have h : ¬ i < 16 := by have := of_decide_eq_false h; omega
    have e : exRow i = equalM ((i : Int) - 16) := by rw [exRow, if_neg h]
    have e2 : IntKind.i64.wrap ((i : Int) - 16) = (i : Int) - 16 := w64 (by omega) (by omega)
    conv => whnf
    refine ACall.use (equalSum_spec _) ?_
    conv => whnf
    exact ⟨rfl, by rw [e, e2]⟩

theorem l6Extremes_own : FSpec Try.prog 218 [] (ex (.own 0) [(0, .recs 53 3 (exL 24))]) := by
  have hpl : (playsL 4).length = 16 := playsL_len 4
  refine fspec tyOk mx Try.func218 rfl (by kernel_rfl) rfl ?_
  conv => whnf
  refine ACall.use ((l2Plays_spec 2 2 (by omega)).told (x' := .t (.rows (playsL 4))) ⟨rfl, rfl⟩) ?_
  conv => whnf
  refine aloopI tyOk mx (fun i : Nat => (⟨31, [(1, .own 0), (2, .t (.rows (playsL 4))), (3, .c (.int .i64 (i)))], [(0, .recs 53 3 (exL i))], 1⟩ : St)) (fun i => i ≤ 16) (fun i => 16 - i) 0 (Nat.zero_le _) none (by refine ⟨rfl, rfl, ?_, ?_⟩ <;> ((repeat' (first | exact trivial | exact rfl | refine And.intro ?_ ?_)) <;> (try ((conv => whnf); first | refine vint ?_ | refine vboo ?_ | refine rint ?_ | refine rrow ?_ | skip)) <;> (try first | omega | (simp; done) | ((repeat rw [flts_closed _ (by assumption)]); exact vws_closed _ (by assumption))))) (fun i hi => ?_)
  have hl := exL_len i
  refine ⟨fun h => ?_, fun h => ?_⟩
  · have h : i < 16 := by have := of_decide_eq_true h; rw [hpl] at this; omega
    have e : exRow i = pbM ((playsL 4).getD i []) 2 := by rw [exRow, if_pos h]
    conv => whnf
    refine ⟨i, rfl, by omega, ?_⟩
    conv => whnf
    refine ACall.use ((l2PlayBox_spec ((playsL 4).getD i []) (play4 h).1 (play4 h).2 2).told (x' := .ag [.c (.int .i64 (2)), .c (.int .i64 (2)), .c (.int .i64 (2)), .t (.rows (pbM ((playsL 4).getD i []) 2))]) ⟨rfl, rfl, rfl, ⟨rfl, rfl⟩, trivial⟩) ?_
    conv => whnf
    refine ⟨by rw [hl]; simp [room]; omega, ?_⟩
    conv => whnf
    rw [nat_wrap (by omega)]
    refine ⟨i + 1, none, ?_, by omega, by omega⟩
    refine ⟨rfl, rfl, ⟨⟨rfl, rfl⟩, rfl, rfl, trivial⟩, rfl, ?_, trivial⟩
    show ARow.recs _ _ _ = ARow.recs _ _ _
    rw [← exL_succ, e]
  · have h : ¬ i < 16 := by have := of_decide_eq_false h; rw [hpl] at this; omega
    obtain rfl : i = 16 := by omega
    conv => whnf
    refine aloopI tyOk mx (fun k : Nat => (⟨31, [(1, .own 0), (4, .c (.int .i64 (k)))], [(0, .recs 53 3 (exL (16 + k)))], 1⟩ : St)) (fun k => k ≤ 8) (fun k => 8 - k) 0 (Nat.zero_le _) none (by refine ⟨rfl, rfl, ?_, ?_⟩ <;> ((repeat' (first | exact trivial | exact rfl | refine And.intro ?_ ?_)) <;> (try ((conv => whnf); first | refine vint ?_ | refine vboo ?_ | refine rint ?_ | refine rrow ?_ | skip)) <;> (try first | omega | (simp; done) | ((repeat rw [flts_closed _ (by assumption)]); exact vws_closed _ (by assumption))))) (fun k hk => ?_)
    have hl := exL_len (16 + k)
    refine ⟨fun h => ?_, fun h => ?_⟩
    · have h : k < 8 := by have := of_decide_eq_true h; omega
      have e : exRow (16 + k) = equalM k := by rw [exRow, if_neg (by omega)]; congr 1; omega
      conv => whnf
      refine ACall.use ((l6Sum_spec k h).told (x' := .ag [.c (.int .i64 (2)), .c (.int .i64 (2)), .c (.int .i64 (2)), .t (.rows (equalM k))]) ⟨rfl, rfl, rfl, ⟨rfl, rfl⟩, trivial⟩) ?_
      conv => whnf
      refine ⟨by rw [hl]; simp [room]; omega, ?_⟩
      conv => whnf
      rw [nat_wrap (by omega)]
      refine ⟨k + 1, none, ?_, by omega, by omega⟩
      refine ⟨rfl, rfl, ⟨⟨rfl, rfl⟩, rfl, trivial⟩, rfl, ?_, trivial⟩
      show ARow.recs _ _ _ = ARow.recs _ _ _
      rw [show 16 + (k + 1) = 16 + k + 1 by omega, ← exL_succ, e]
    · have h : ¬ k < 8 := by have := of_decide_eq_false h; omega
      obtain rfl : k = 8 := by omega
      conv => whnf
      exact ⟨rfl, rfl⟩
theorem l6Extremes_spec : FSpec Try.prog 218 [] (ex (.t (.recs 3 (exL 24))) []) := l6Extremes_own.told ⟨rfl, rfl⟩
end Go.Proofs.Ytkomndcehdneaaa
/- Functionals of two questions each; the least and the greatest worth of extreme boxes: reference and program. -/
namespace Go.Aw
theorem mn_eq (a b : Int) : (if b < a then b else a) = min a b := by split <;> omega
theorem mx_eq (a b : Int) : (if b > a then b else a) = max a b := by split <;> omega
end Go.Aw
namespace Go.Proofs.Ytkomndcehdneaaa
open Go.Aw
set_option maxRecDepth 100000
set_option maxHeartbeats 4000000

theorem r1Most_spec (a b : Int) : FSpec Try.prog 165 [.c (.int .i64 (a)), .c (.int .i64 (b))] (ex (.c (.int .i64 (max a b))) []) := by
  refine fspec tyOk mx Try.func165 rfl (by kernel_rfl) rfl ?_
  conv => whnf
  refine ⟨fun h => ?_, fun h => ?_⟩
  · have h := of_decide_eq_true h
    conv => whnf
    refine ⟨?_, rfl⟩
    rw [Int.max_eq_left (by omega)]
  · have h := of_decide_eq_false h
    conv => whnf
    refine ⟨?_, rfl⟩
    rw [Int.max_eq_right (by omega)]
theorem r1Least_spec (a b : Int) : FSpec Try.prog 257 [.c (.int .i64 (a)), .c (.int .i64 (b))] (ex (.c (.int .i64 (min a b))) []) := by
  refine fspec tyOk mx Try.func257 rfl (by kernel_rfl) rfl ?_
  conv => whnf
  refine ⟨fun h => ?_, fun h => ?_⟩
  · have h := of_decide_eq_true h
    conv => whnf
    refine ⟨?_, rfl⟩
    rw [Int.min_eq_left (by omega)]
  · have h := of_decide_eq_false h
    conv => whnf
    refine ⟨?_, rfl⟩
    rw [Int.min_eq_right (by omega)]

def fnRow (r : List Int) : Bool := decide (r.length = 4) && rowIn r (-99) 99
def fnB (f : List (List Int)) : Bool := decide (f.length = 4) && f.all fnRow
theorem fnB_spec {f : List (List Int)} (h : fnB f = true) : f.length = 4 ∧ (∀ r, r ∈ f → r.length = 4) ∧ ∀ r, r ∈ f → ∀ v, v ∈ r → -99 ≤ v ∧ v ≤ 99 := by
  simp only [fnB, fnRow, Bool.and_eq_true, decide_eq_true_eq, List.all_eq_true, rowIn_iff] at h
  exact ⟨h.1, fun r hr => (h.2 r hr).1, fun r hr => (h.2 r hr).2⟩

theorem l2Functional_spec (f : List (List Int)) (kf : SzM f) : FSpec Try.prog 177 [.c (.int .i64 (2)), .c (.int .i64 (2)), .t (.rows f)] (ex (.c (.bool (fnB f))) []) := by
  obtain ⟨k1, k2, k3⟩ := kf.all
  refine fspec tyOk mx Try.func177 rfl (by kernel_rfl) rfl ?_
  conv => whnf
  refine ACall.use (l2Sizes_spec 2 2) ?_
  conv => whnf
  first | refine ⟨fun h => absurd h (by decide), fun _ => ?_⟩ | refine ⟨fun _ => ?_, fun h => absurd h (by decide)⟩
  conv => whnf
  refine ⟨fun h => ?_, fun h => ?_⟩
  · have h : ¬ f.length = 4 := by
      intro e
      rw [e] at h
      exact absurd h (by decide)
    conv => whnf
    refine ⟨?_, rfl⟩
    rw [fnB, decide_eq_false h, Bool.false_and]
  · have h0 : f.length = 4 := by
      have h : ((f.length : Int) != IntKind.i64.wrap (2 * 2)) = false := h
      rw [w64 (by omega) (by omega)] at h
      have : (f.length : Int) = 2 * 2 := by simpa using h
      omega
    clear h
    conv => whnf
    refine aloopI tyOk mx (fun i : Nat => (⟨51, [(2, .t (.rows f)), (7, .c (.int .i64 (i)))], [], 0⟩ : St)) (fun i => i ≤ f.length ∧ (f.take i).all fnRow = true) (fun i => f.length - i) 0 ⟨Nat.zero_le _, rfl⟩ none (by refine ⟨rfl, rfl, ?_, ?_⟩ <;> ((repeat' (first | exact trivial | exact rfl | refine And.intro ?_ ?_)) <;> (try ((conv => whnf); first | refine vint ?_ | refine vboo ?_ | refine rint ?_ | refine rrow ?_ | skip)) <;> (try first | omega | (simp; done) | ((repeat rw [flts_closed _ (by assumption)]); exact vws_closed _ (by assumption))))) (fun i hi => ?_)
    obtain ⟨hi, hp⟩ := hi
    refine ⟨fun h => ?_, fun h => ?_⟩
    · have h : i < f.length := by have := ltT h; omega
      have hri := k2 _ (getD_mem (d := []) h)
      conv => whnf
      refine aloopI tyOk mx (fun n : Nat => (⟨51, [(2, .t (.rows f)), (7, .c (.int .i64 (i))), (8, .c (.int .i64 (n)))], [], 0⟩ : St)) (fun n => n ≤ (f.getD i []).length ∧ ((f.getD i []).take n).all (fun x => inR x (-99) 99) = true) (fun n => (f.getD i []).length - n) 0 ⟨Nat.zero_le _, rfl⟩ none (by refine ⟨rfl, rfl, ?_, ?_⟩ <;> ((repeat' (first | exact trivial | exact rfl | refine And.intro ?_ ?_)) <;> (try ((conv => whnf); first | refine vint ?_ | refine vboo ?_ | refine rint ?_ | refine rrow ?_ | skip)) <;> (try first | omega | (simp; done) | ((repeat rw [flts_closed _ (by assumption)]); exact vws_closed _ (by assumption))))) (fun n hn => ?_)
      obtain ⟨hn, hq⟩ := hn
      refine ⟨i, rfl, h, ?_⟩
      conv => whnf
      refine ⟨fun h2 => ?_, fun h2 => ?_⟩
      · have h2 : n < (f.getD i []).length := by have := ltT h2; omega
        conv => whnf
        refine ⟨i, rfl, h, n, rfl, h2, ?_⟩
        conv => whnf
        refine ACall.use (l1In_spec _ _ _) ?_
        conv => whnf
        refine ⟨fun h3 => ?_, fun h3 => ?_⟩
        · have h3 : inR ((f.getD i []).getD n 0) (-99) 99 = false := by simpa using h3
          conv => whnf
          refine ⟨?_, rfl⟩
          rw [fnB, all_false (d := []) h (by rw [fnRow, rowIn, all_false (d := 0) h2 h3, Bool.and_false]), Bool.and_false]
        · have h3 : inR ((f.getD i []).getD n 0) (-99) 99 = true := by simpa using h3
          conv => whnf
          rw [nat_wrap (by omega)]
          exact ⟨n + 1, none, (by refine ⟨rfl, rfl, ?_, ?_⟩ <;> ((repeat' (first | exact trivial | exact rfl | refine And.intro ?_ ?_)) <;> (try ((conv => whnf); first | refine vint ?_ | refine vboo ?_ | refine rint ?_ | refine rrow ?_ | skip)) <;> (try first | omega | (simp; done) | ((repeat rw [flts_closed _ (by assumption)]); exact vws_closed _ (by assumption))))), ⟨by omega, all_take_succ (d := 0) h2 hq h3⟩, by omega⟩
      · have h2 : ¬ n < (f.getD i []).length := by have := ltF h2; omega
        have hrow : rowIn (f.getD i []) (-99) 99 = true := all_end h2 hq
        conv => whnf
        refine ⟨i, rfl, h, ?_⟩
        conv => whnf
        refine ⟨fun h3 => ?_, fun h3 => ?_⟩
        · have h3 : ¬ (f.getD i []).length = 4 := by
            intro e; rw [e] at h3; exact absurd h3 (by decide)
          conv => whnf
          refine ⟨?_, rfl⟩
          rw [fnB, all_false (d := []) h (by rw [fnRow, decide_eq_false h3, Bool.false_and]), Bool.and_false]
        · have h3 : (f.getD i []).length = 4 := by
            have : ((f.getD i []).length : Int) = 4 := by simpa using h3
            omega
          conv => whnf
          rw [nat_wrap (by omega)]
          exact ⟨i + 1, none, (by refine ⟨rfl, rfl, ?_, ?_⟩ <;> ((repeat' (first | exact trivial | exact rfl | refine And.intro ?_ ?_)) <;> (try ((conv => whnf); first | refine vint ?_ | refine vboo ?_ | refine rint ?_ | refine rrow ?_ | skip)) <;> (try first | omega | (simp; done) | ((repeat rw [flts_closed _ (by assumption)]); exact vws_closed _ (by assumption))))), ⟨by omega, all_take_succ (d := []) h hp (by rw [fnRow, hrow, decide_eq_true h3]; rfl)⟩, by omega⟩
    · have h : ¬ i < f.length := by have := ltF h; omega
      conv => whnf
      refine ⟨?_, rfl⟩
      rw [fnB, decide_eq_true h0, all_end h hp]; rfl

theorem isFunctional_spec (f : List (List Int)) (kf : SzM f) : FSpec Try.prog 138 [.c (.int .i64 (2)), .c (.int .i64 (2)), .t (.rows f)] (ex (.c (.bool (fnB f))) []) := by
  obtain ⟨k1, k2, k3⟩ := kf.all
  refine fspec tyOk mx Try.func138 rfl (by kernel_rfl) rfl ?_
  conv => whnf
  refine aloopI tyOk mx (fun i : Nat => (⟨35, [(0, .c (.int .i64 (2))), (1, .c (.int .i64 (2))), (2, .t (.rows f)), (9, .t (.rows f)), (10, .c (.int .i64 (f.length))), (11, .c (.int .i64 (i)))], [], 0⟩ : St)) (fun i => i ≤ f.length ∧ (f.take i).all fnRow = true) (fun i => f.length - i) 0 ⟨Nat.zero_le _, rfl⟩ none (by refine ⟨rfl, rfl, ?_, ?_⟩ <;> ((repeat' (first | exact trivial | exact rfl | refine And.intro ?_ ?_)) <;> (try ((conv => whnf); first | refine vint ?_ | refine vboo ?_ | refine rint ?_ | refine rrow ?_ | skip)) <;> (try first | omega | (simp; done) | ((repeat rw [flts_closed _ (by assumption)]); exact vws_closed _ (by assumption))))) (fun i hi => ?_)
  obtain ⟨hi, hp⟩ := hi
  refine ⟨fun h => ?_, fun h => ?_⟩
  · have h : i < f.length := by have := ltT h; omega
    have hri := k2 _ (getD_mem (d := []) h)
    conv => whnf
    refine ⟨i, rfl, h, ?_⟩
    conv => whnf
    refine ⟨fun h3 => ?_, fun h3 => ?_⟩
    · have h3 : (f.getD i []).length = 4 := by
        have : ((f.getD i []).length : Int) = 4 := by simpa using h3
        omega
      conv => whnf
      refine ACall.use (allWithin_spec (f.getD i []) _ _ (by omega)) ?_
      conv => whnf
      refine ⟨fun h4 => ?_, fun h4 => ?_⟩
      · have h4 : rowIn (f.getD i []) (-99) 99 = false := by simpa using h4
        conv => whnf
        refine ⟨?_, rfl⟩
        rw [fnB, all_false (d := []) h (by rw [fnRow, h4, Bool.and_false]), Bool.and_false]
      · have h4 : rowIn (f.getD i []) (-99) 99 = true := by simpa using h4
        conv => whnf
        rw [nat_wrap (by omega)]
        exact ⟨i + 1, none, (by refine ⟨rfl, rfl, ?_, ?_⟩ <;> ((repeat' (first | exact trivial | exact rfl | refine And.intro ?_ ?_)) <;> (try ((conv => whnf); first | refine vint ?_ | refine vboo ?_ | refine rint ?_ | refine rrow ?_ | skip)) <;> (try first | omega | (simp; done) | ((repeat rw [flts_closed _ (by assumption)]); exact vws_closed _ (by assumption))))), ⟨by omega, all_take_succ (d := []) h hp (by rw [fnRow, h4, decide_eq_true h3]; rfl)⟩, by omega⟩
    · have h3 : ¬ (f.getD i []).length = 4 := by
        intro e; rw [e] at h3; exact absurd h3 (by decide)
      conv => whnf
      (repeat (conv => whnf); (first | refine ⟨fun h => absurd h (by decide), fun _ => ?_⟩ | refine ⟨fun _ => ?_, fun h => absurd h (by decide)⟩)); conv => whnf
      refine ⟨?_, rfl⟩
      rw [fnB, all_false (d := []) h (by rw [fnRow, decide_eq_false h3, Bool.false_and]), Bool.and_false]
  · have h : ¬ i < f.length := by have := ltF h; omega
    have hall := all_end h hp
    conv => whnf
    refine ACall.use (areQuestions_spec 2 2) ?_
    conv => whnf
    first | refine ⟨fun h => absurd h (by decide), fun _ => ?_⟩ | refine ⟨fun _ => ?_, fun h => absurd h (by decide)⟩
    conv => whnf
    refine ⟨?_, rfl⟩
    rw [fnB, hall, Bool.and_true]
    congr 1
    rw [show IntKind.i64.wrap (2 * 2) = 4 from rfl]
    by_cases e : f.length = 4
    · rw [e]; rfl
    · rw [decide_eq_false e]
      have : ¬ (f.length : Int) = 4 := by omega
      simp [this]
end Go.Proofs.Ytkomndcehdneaaa
/- WorthRange, reference and program. -/
namespace Go.Proofs.Ytkomndcehdneaaa
open Go.Aw
set_option maxRecDepth 100000
set_option maxHeartbeats 4000000

def exW (f : List (List Int)) (i : Nat) : Int := worthF f (exRow i)
def wLo (f : List (List Int)) : Nat → Int
  | 0 => exW f 0
  | i + 1 => min (wLo f i) (exW f i)
def wHi (f : List (List Int)) : Nat → Int
  | 0 => exW f 0
  | i + 1 => max (wHi f i) (exW f i)
theorem wLo_one (f : List (List Int)) : wLo f 1 = exW f 0 := by simp [wLo]
theorem wHi_one (f : List (List Int)) : wHi f 1 = exW f 0 := by simp [wHi]
theorem exW_spec (f : List (List Int)) (hf : f.length = 4) (h4 : ∀ r, r ∈ f → r.length = 4) (i : Nat) (x y z : Int) : FSpec Try.prog 145 [.t (.rows f), .ag [.c (.int .i64 (x)), .c (.int .i64 (y)), .c (.int .i64 (z)), .t (.rows (exRow i))]] (ex (.c (.int .i64 (exW f i))) []) :=
  l2Worth_spec f (exRow i) x y z (by rw [exRow_len, hf]) (by rw [exRow_len]; omega) h4 (exRow_rows i)
theorem exWi_spec (f : List (List Int)) (hf : f.length = 4) (h4 : ∀ r, r ∈ f → r.length = 4) (i : Nat) : FSpec Try.prog 161 [.t (.rows f), .t (.rows (exRow i))] (ex (.c (.int .i64 (exW f i))) []) :=
  worth_spec f (exRow i) (by rw [exRow_len, hf]) (by rw [exRow_len]; omega) h4 (exRow_rows i)

def wrLo (f : List (List Int)) : Int := if fnB f then wLo f 24 else 0
def wrHi (f : List (List Int)) : Int := if fnB f then wHi f 24 else 0


end Go.Proofs.Ytkomndcehdneaaa
/- IsExtreme, reference and program. -/
namespace Go.Aw
def alkN (z z' : Int) (m m' : List (List Int)) (i n : Nat) : Bool := decide (W ((m.getD i []).getD n 0 * z') = W ((m'.getD i []).getD n 0 * z))
def alkB (z z' : Int) (m m' : List (List Int)) : Bool := (List.range m.length).all fun i => (List.range 4).all (alkN z z' m m' i)
end Go.Aw
namespace Go.Proofs.Ytkomndcehdneaaa
open Go.Aw
set_option maxRecDepth 100000
set_option maxHeartbeats 4000000

theorem l2Alike_spec (x y z x' y' z' : Int) (m m' : List (List Int)) (hl : m'.length = m.length) (hb : m.length ≤ 1000) (h4 : ∀ r, r ∈ m → r.length = 4) (h4' : ∀ r, r ∈ m' → r.length = 4) :
    FSpec Try.prog 158 [.ag [.c (.int .i64 (x)), .c (.int .i64 (y)), .c (.int .i64 (z)), .t (.rows m)], .ag [.c (.int .i64 (x')), .c (.int .i64 (y')), .c (.int .i64 (z')), .t (.rows m')]] (ex (.c (.bool (alkB z z' m m'))) []) := by
  refine fspec tyOk mx Try.func158 rfl (by kernel_rfl) rfl ?_
  conv => whnf
  refine aloopI tyOk mx (fun i : Nat => (⟨41, [(2, .ptr 0 0), (3, .ptr 1 0), (5, .c (.int .i64 (i)))], [(0, .cells 53 [.c (.int .i64 (x)), .c (.int .i64 (y)), .c (.int .i64 (z)), .t (.rows m)]), (1, .cells 53 [.c (.int .i64 (x')), .c (.int .i64 (y')), .c (.int .i64 (z')), .t (.rows m')])], 2⟩ : St)) (fun i => i ≤ m.length ∧ (List.range i).all (fun i => (List.range 4).all (alkN z z' m m' i)) = true) (fun i => m.length - i) 0 ⟨Nat.zero_le _, rfl⟩ none (by refine ⟨rfl, rfl, ?_, ?_⟩ <;> ((repeat' (first | exact trivial | exact rfl | refine And.intro ?_ ?_)) <;> (try ((conv => whnf); first | refine vint ?_ | refine vboo ?_ | refine rint ?_ | refine rrow ?_ | skip)) <;> (try first | omega | (simp; done) | ((repeat rw [flts_closed _ (by assumption)]); exact vws_closed _ (by assumption))))) (fun i hi => ?_)
  obtain ⟨hi, hp⟩ := hi
  refine ⟨fun h => ?_, fun h => ?_⟩
  · have h : i < m.length := by have := ltT h; omega
    have l1 := h4 _ (getD_mem (d := []) h)
    have l2 := h4' _ (getD_mem (d := []) (show i < m'.length by omega))
    conv => whnf
    refine aloopI tyOk mx (fun n : Nat => (⟨41, [(2, .ptr 0 0), (3, .ptr 1 0), (5, .c (.int .i64 (i))), (6, .c (.int .i64 (n)))], [(0, .cells 53 [.c (.int .i64 (x)), .c (.int .i64 (y)), .c (.int .i64 (z)), .t (.rows m)]), (1, .cells 53 [.c (.int .i64 (x')), .c (.int .i64 (y')), .c (.int .i64 (z')), .t (.rows m')])], 2⟩ : St)) (fun n => n ≤ 4 ∧ (List.range n).all (alkN z z' m m' i) = true) (fun n => 4 - n) 0 ⟨Nat.zero_le _, rfl⟩ none (by refine ⟨rfl, rfl, ?_, ?_⟩ <;> ((repeat' (first | exact trivial | exact rfl | refine And.intro ?_ ?_)) <;> (try ((conv => whnf); first | refine vint ?_ | refine vboo ?_ | refine rint ?_ | refine rrow ?_ | skip)) <;> (try first | omega | (simp; done) | ((repeat rw [flts_closed _ (by assumption)]); exact vws_closed _ (by assumption))))) (fun n hn => ?_)
    obtain ⟨hn, hq⟩ := hn
    refine ⟨fun h2 => ?_, fun h2 => ?_⟩
    · have h2 : n < 4 := by have := of_decide_eq_true h2; omega
      conv => whnf
      refine ADraw.std tyOk mx ⟨by kernel_rfl, i, rfl, h, n, rfl, by omega, i, rfl, by omega, n, rfl, by omega, ?_⟩
      conv => whnf
      refine ⟨fun h3 => ?_, fun h3 => ?_⟩
      · have h3 : alkN z z' m m' i n = false := by
          have h3 : ¬ W ((m.getD i []).getD n 0 * z') = W ((m'.getD i []).getD n 0 * z) := by simpa using h3
          exact decide_eq_false h3
        conv => whnf
        refine ⟨?_, rfl⟩
        rw [alkB, rall_false h (rall_false h2 h3)]
      · have h3 : alkN z z' m m' i n = true := by
          have h3 : W ((m.getD i []).getD n 0 * z') = W ((m'.getD i []).getD n 0 * z) := by simpa using h3
          exact decide_eq_true h3
        conv => whnf
        rw [nat_wrap (by omega)]
        exact ⟨n + 1, none, (by refine ⟨rfl, rfl, ?_, ?_⟩ <;> ((repeat' (first | exact trivial | exact rfl | refine And.intro ?_ ?_)) <;> (try ((conv => whnf); first | refine vint ?_ | refine vboo ?_ | refine rint ?_ | refine rrow ?_ | skip)) <;> (try first | omega | (simp; done) | ((repeat rw [flts_closed _ (by assumption)]); exact vws_closed _ (by assumption))))), ⟨by omega, rall_succ hq h3⟩, by omega⟩
    · have h2 : ¬ n < 4 := by have := of_decide_eq_false h2; omega
      obtain rfl : n = 4 := by omega
      conv => whnf
      rw [nat_wrap (by omega)]
      exact ⟨i + 1, none, (by refine ⟨rfl, rfl, ?_, ?_⟩ <;> ((repeat' (first | exact trivial | exact rfl | refine And.intro ?_ ?_)) <;> (try ((conv => whnf); first | refine vint ?_ | refine vboo ?_ | refine rint ?_ | refine rrow ?_ | skip)) <;> (try first | omega | (simp; done) | ((repeat rw [flts_closed _ (by assumption)]); exact vws_closed _ (by assumption))))), ⟨by omega, rall_succ hp hq⟩, by omega⟩
  · have h : ¬ i < m.length := by have := ltF h; omega
    obtain rfl : i = m.length := by omega
    conv => whnf
    refine ⟨?_, rfl⟩
    rw [alkB, hp]

theorem alike_spec (z z' : Int) (m m' : List (List Int)) (hl : m'.length = m.length) (hb : m.length ≤ 1000) (h4 : ∀ r, r ∈ m → r.length = 4) (h4' : ∀ r, r ∈ m' → r.length = 4) :
    FSpec Try.prog 156 [.t (.rows m), .c (.int .i64 (z)), .t (.rows m'), .c (.int .i64 (z'))] (ex (.c (.bool (alkB z z' m m'))) []) := by
  refine fspec tyOk mx Try.func156 rfl (by kernel_rfl) rfl ?_
  conv => whnf
  refine aloopI tyOk mx (fun i : Nat => (⟨42, [(1, .c (.int .i64 (z))), (2, .t (.rows m')), (3, .c (.int .i64 (z'))), (13, .t (.rows m)), (14, .c (.int .i64 (m.length))), (15, .c (.int .i64 (i)))], [], 0⟩ : St)) (fun i => i ≤ m.length ∧ (List.range i).all (fun i => (List.range 4).all (alkN z z' m m' i)) = true) (fun i => m.length - i) 0 ⟨Nat.zero_le _, rfl⟩ none (by refine ⟨rfl, rfl, ?_, ?_⟩ <;> ((repeat' (first | exact trivial | exact rfl | refine And.intro ?_ ?_)) <;> (try ((conv => whnf); first | refine vint ?_ | refine vboo ?_ | refine rint ?_ | refine rrow ?_ | skip)) <;> (try first | omega | (simp; done) | ((repeat rw [flts_closed _ (by assumption)]); exact vws_closed _ (by assumption))))) (fun i hi => ?_)
  obtain ⟨hi, hp⟩ := hi
  refine ⟨fun h => ?_, fun h => ?_⟩
  · have h : i < m.length := by have := ltT h; omega
    have l1 := h4 _ (getD_mem (d := []) h)
    have l2 := h4' _ (getD_mem (d := []) (show i < m'.length by omega))
    conv => whnf
    refine ⟨i, rfl, h, ?_⟩
    conv => whnf
    refine aloopI tyOk mx (fun n : Nat => (⟨42, [(1, .c (.int .i64 (z))), (2, .t (.rows m')), (3, .c (.int .i64 (z'))), (9, .c (.int .i64 (i))), (13, .t (.rows m)), (14, .c (.int .i64 (m.length))), (15, .c (.int .i64 (i))), (20, .t (.ints .i64 (m.getD i []))), (21, .c (.int .i64 ((m.getD i []).length))), (22, .c (.int .i64 (n)))], [], 0⟩ : St)) (fun n => n ≤ 4 ∧ (List.range n).all (alkN z z' m m' i) = true) (fun n => 4 - n) 0 ⟨Nat.zero_le _, rfl⟩ none (by refine ⟨rfl, rfl, ?_, ?_⟩ <;> ((repeat' (first | exact trivial | exact rfl | refine And.intro ?_ ?_)) <;> (try ((conv => whnf); first | refine vint ?_ | refine vboo ?_ | refine rint ?_ | refine rrow ?_ | skip)) <;> (try first | omega | (simp; done) | ((repeat rw [flts_closed _ (by assumption)]); exact vws_closed _ (by assumption))))) (fun n hn => ?_)
    obtain ⟨hn, hq⟩ := hn
    refine ⟨fun h2 => ?_, fun h2 => ?_⟩
    · have h2 : n < 4 := by have := ltT h2; omega
      conv => whnf
      refine ⟨n, rfl, by omega, ?_⟩
      conv => whnf
      refine ⟨i, rfl, by omega, ?_⟩
      conv => whnf
      refine ⟨n, rfl, by omega, ?_⟩
      conv => whnf
      refine ⟨fun h3 => ?_, fun h3 => ?_⟩
      · have h3 : alkN z z' m m' i n = false := by
          have h3 : ¬ W ((m.getD i []).getD n 0 * z') = W ((m'.getD i []).getD n 0 * z) := by simpa using h3
          exact decide_eq_false h3
        conv => whnf
        refine ⟨?_, rfl⟩
        rw [alkB, rall_false h (rall_false h2 h3)]
      · have h3 : alkN z z' m m' i n = true := by
          have h3 : W ((m.getD i []).getD n 0 * z') = W ((m'.getD i []).getD n 0 * z) := by simpa using h3
          exact decide_eq_true h3
        conv => whnf
        rw [nat_wrap (by omega)]
        exact ⟨n + 1, none, (by refine ⟨rfl, rfl, ?_, ?_⟩ <;> ((repeat' (first | exact trivial | exact rfl | refine And.intro ?_ ?_)) <;> (try ((conv => whnf); first | refine vint ?_ | refine vboo ?_ | refine rint ?_ | refine rrow ?_ | skip)) <;> (try first | omega | (simp; done) | ((repeat rw [flts_closed _ (by assumption)]); exact vws_closed _ (by assumption))))), ⟨by omega, rall_succ hq h3⟩, by omega⟩
    · have h2 : ¬ n < 4 := by have := ltF h2; omega
      obtain rfl : n = 4 := by omega
      conv => whnf
      rw [nat_wrap (by omega)]
      exact ⟨i + 1, none, (by refine ⟨rfl, rfl, ?_, ?_⟩ <;> ((repeat' (first | exact trivial | exact rfl | refine And.intro ?_ ?_)) <;> (try ((conv => whnf); first | refine vint ?_ | refine vboo ?_ | refine rint ?_ | refine rrow ?_ | skip)) <;> (try first | omega | (simp; done) | ((repeat rw [flts_closed _ (by assumption)]); exact vws_closed _ (by assumption))))), ⟨by omega, rall_succ hp hq⟩, by omega⟩
  · have h : ¬ i < m.length := by have := ltF h; omega
    obtain rfl : i = m.length := by omega
    conv => whnf
    refine ⟨?_, rfl⟩
    rw [alkB, hp]

def alkE (z : Int) (m : List (List Int)) (i : Nat) : Bool := alkB z 2 m (exRow i)
def ixIs (x y z : Int) (m : List (List Int)) : Bool := qpB x y z m && !((List.range 24).all fun i => !alkE z m i)
theorem ix_yes {x y z : Int} {m : List (List Int)} {i : Nat} (h : qpB x y z m = true) (hi : i < 24) (h2 : alkE z m i = true) : ixIs x y z m = true := by
  rw [ixIs, h, rall_false hi (by rw [h2]; rfl)]; rfl
theorem ix_no {x y z : Int} {m : List (List Int)} (h2 : (List.range 24).all (fun i => !alkE z m i) = true) : ixIs x y z m = false := by
  rw [ixIs, h2]; simp

theorem IsExtreme_s (x y z : Int) (m : List (List Int)) (_hx : InR x) (_hy : InR y) (_hz : InR z) (_hm : OkM m) (km : SzM m) :
    FSpec Try.prog 103 [.ag [.c (.int .i64 (x)), .c (.int .i64 (y)), .c (.int .i64 (z)), .t (.rows m)]] (ex (.tu [.c (.bool (ixIs x y z m)), .c (.bool (qpB x y z m))]) []) := by
  have hl := exL_len 24
  refine fspec tyOk mx Try.func103 rfl (by kernel_rfl) rfl ?_
  conv => whnf
  refine ACall.use (l6Quiet_spec x y z m km) ?_
  conv => whnf
  refine ⟨fun h => ?_, fun h => ?_⟩
  · have h : qpB x y z m = false := by simpa using h
    conv => whnf
    exact ⟨by rw [ixIs, h]; rfl, rfl⟩
  · have h : qpB x y z m = true := by simpa using h
    obtain ⟨_, _, g1, g2, g3, g4⟩ := qpB_spec h
    have h4 : ∀ r, r ∈ m → r.length = 4 := fun r hr => (g4 r hr).1
    conv => whnf
    refine ACall.use l6Extremes_spec ?_
    conv => whnf
    refine aloopI tyOk mx (fun i : Nat => (⟨22, [(1, .ptr 0 0), (4, .t (.recs 3 (exL 24))), (5, .c (.int .i64 (i)))], [(0, .cells 53 [.c (.int .i64 (x)), .c (.int .i64 (y)), .c (.int .i64 (z)), .t (.rows m)])], 1⟩ : St)) (fun i => i ≤ 24 ∧ (List.range i).all (fun i => !alkE z m i) = true) (fun i => 24 - i) 0 ⟨Nat.zero_le _, rfl⟩ none (by refine ⟨rfl, rfl, ?_, ?_⟩ <;> ((repeat' (first | exact trivial | exact rfl | refine And.intro ?_ ?_)) <;> (try ((conv => whnf); first | refine vint ?_ | refine vboo ?_ | refine rint ?_ | refine rrow ?_ | skip)) <;> (try first | omega | (simp; done) | ((repeat rw [flts_closed _ (by assumption)]); exact vws_closed _ (by assumption))))) (fun i hi => ?_)
    obtain ⟨hi, hp⟩ := hi
    refine ⟨fun h2 => ?_, fun h2 => ?_⟩
    · have h2 : i < 24 := by have := ltT h2; omega
      conv => whnf
      refine ADraw.std tyOk mx ⟨by kernel_rfl, i, rfl, by omega, ?_⟩
      conv => whnf
      rw [exL_get h2]
      refine QCall.use (l2Alike_spec x y z 2 2 2 m (exRow i) (by rw [exRow_len, g3]) (by omega) h4 (exRow_rows i)) ?_
      conv => whnf
      refine ⟨fun h3 => ?_, fun h3 => ?_⟩
      · have h3 : alkE z m i = true := h3
        conv => whnf
        exact ⟨by rw [ix_yes h h2 h3, h], rfl⟩
      · have h3 : alkE z m i = false := h3
        conv => whnf
        rw [nat_wrap (by omega)]
        exact ⟨i + 1, none, (by refine ⟨rfl, rfl, ?_, ?_⟩ <;> ((repeat' (first | exact trivial | exact rfl | refine And.intro ?_ ?_)) <;> (try ((conv => whnf); first | refine vint ?_ | refine vboo ?_ | refine rint ?_ | refine rrow ?_ | skip)) <;> (try first | omega | (simp; done) | ((repeat rw [flts_closed _ (by assumption)]); exact vws_closed _ (by assumption))))), ⟨by omega, rall_succ hp (by rw [h3]; rfl)⟩, by omega⟩
    · have h2 : ¬ i < 24 := by have := ltF h2; omega
      obtain rfl : i = 24 := by omega
      conv => whnf
      exact ⟨by rw [ix_no hp, h], rfl⟩

theorem IsExtreme_i (x y z : Int) (m : List (List Int)) (_hx : InR x) (_hy : InR y) (_hz : InR z) (_hm : OkM m) (km : SzM m) :
    FSpec Try.prog 102 [.ag [.c (.int .i64 (x)), .c (.int .i64 (y)), .c (.int .i64 (z)), .t (.rows m)]] (ex (.tu [.c (.bool (ixIs x y z m)), .c (.bool (qpB x y z m))]) []) := by
  refine fspec tyOk mx Try.func102 rfl (by kernel_rfl) rfl ?_
  conv => whnf
  refine ACall.use (isQuietPair_spec x y z m km) ?_
  conv => whnf
  refine ⟨fun h => ?_, fun h => ?_⟩
  · have h : qpB x y z m = false := by simpa using h
    conv => whnf
    exact ⟨by rw [ixIs, h]; rfl, rfl⟩
  · have h : qpB x y z m = true := by simpa using h
    obtain ⟨_, _, g1, g2, g3, g4⟩ := qpB_spec h
    have h4 : ∀ r, r ∈ m → r.length = 4 := fun r hr => (g4 r hr).1
    conv => whnf
    refine aloopI tyOk mx (fun i : Nat => (⟨24, [(1, .ptr 0 0), (9, .c (.int .i64 (i)))], [(0, .cells 53 [.c (.int .i64 (x)), .c (.int .i64 (y)), .c (.int .i64 (z)), .t (.rows m)])], 1⟩ : St)) (fun i => i ≤ 24 ∧ (List.range i).all (fun i => !alkE z m i) = true) (fun i => 24 - i) 0 ⟨Nat.zero_le _, rfl⟩ none (by refine ⟨rfl, rfl, ?_, ?_⟩ <;> ((repeat' (first | exact trivial | exact rfl | refine And.intro ?_ ?_)) <;> (try ((conv => whnf); first | refine vint ?_ | refine vboo ?_ | refine rint ?_ | refine rrow ?_ | skip)) <;> (try first | omega | (simp; done) | ((repeat rw [flts_closed _ (by assumption)]); exact vws_closed _ (by assumption))))) (fun i hi => ?_)
    obtain ⟨hi, hp⟩ := hi
    refine ⟨fun h2 => ?_, fun h2 => ?_⟩
    · have h2 : i < 24 := by have := of_decide_eq_true h2; omega
      conv => whnf
      refine ACall.use (extreme_spec i h2) ?_
      conv => whnf
      refine ACall.use (alike_spec z 2 m (exRow i) (by rw [exRow_len, g3]) (by omega) h4 (exRow_rows i)) ?_
      conv => whnf
      refine ⟨fun h3 => ?_, fun h3 => ?_⟩
      · have h3 : alkE z m i = true := h3
        conv => whnf
        exact ⟨by rw [ix_yes h h2 h3, h], rfl⟩
      · have h3 : alkE z m i = false := h3
        conv => whnf
        rw [nat_wrap (by omega)]
        exact ⟨i + 1, none, (by refine ⟨rfl, rfl, ?_, ?_⟩ <;> ((repeat' (first | exact trivial | exact rfl | refine And.intro ?_ ?_)) <;> (try ((conv => whnf); first | refine vint ?_ | refine vboo ?_ | refine rint ?_ | refine rrow ?_ | skip)) <;> (try first | omega | (simp; done) | ((repeat rw [flts_closed _ (by assumption)]); exact vws_closed _ (by assumption))))), ⟨by omega, rall_succ hp (by rw [h3]; rfl)⟩, by omega⟩
    · have h2 : ¬ i < 24 := by have := of_decide_eq_false h2; omega
      obtain rfl : i = 24 := by omega
      conv => whnf
      exact ⟨by rw [ix_no hp, h], rfl⟩
end Go.Proofs.Ytkomndcehdneaaa
/- Boxes that are alike: the program. -/
namespace Go.Proofs.Ytkomndcehdneaaa
open Go.Aw
set_option maxRecDepth 100000
set_option maxHeartbeats 4000000

def sqB (x y z : Int) (m : List (List Int)) (x' y' z' : Int) (m' : List (List Int)) : Bool := goodB x y z m && (goodB x' y' z' m' && (decide (x = x') && decide (y = y')))
theorem sqB_spec {x y z x' y' z' : Int} {m m' : List (List Int)} (h : sqB x y z m x' y' z' m' = true) : goodB x y z m = true ∧ goodB x' y' z' m' = true ∧ x = x' ∧ y = y' := by
  simp only [sqB, Bool.and_eq_true, decide_eq_true_eq] at h
  exact ⟨h.1, h.2.1, h.2.2.1, h.2.2.2⟩
theorem sameQuestions_spec (x y z : Int) (m : List (List Int)) (x' y' z' : Int) (m' : List (List Int)) (km : SzM m) (km' : SzM m') :
    FSpec Try.prog 166 [.ag [.c (.int .i64 (x)), .c (.int .i64 (y)), .c (.int .i64 (z)), .t (.rows m)], .ag [.c (.int .i64 (x')), .c (.int .i64 (y')), .c (.int .i64 (z')), .t (.rows m')]] (ex (.c (.bool (sqB x y z m x' y' z' m'))) []) := by
  refine fspec tyOk mx Try.func166 rfl (by kernel_rfl) rfl ?_
  conv => whnf
  refine ACall.use (IsBox_spec x y z m km) ?_
  conv => whnf
  refine ⟨fun h => ?_, fun h => ?_⟩
  · conv => whnf
    refine ACall.use (IsBox_spec x' y' z' m' km') ?_
    conv => whnf
    refine ⟨fun h2 => ?_, fun h2 => ?_⟩
    · conv => whnf
      refine ⟨fun h3 => ?_, fun h3 => ?_⟩
      · conv => whnf
        have e : x = x' := by simpa using h3
        refine ⟨?_, rfl⟩
        rw [sqB, h, h2, decide_eq_true e]
        by_cases hy : y = y'
        · rw [decide_eq_true hy]; simp [hy]
        · rw [decide_eq_false hy]; simp [hy]
      · conv => whnf
        have e : ¬ x = x' := by simpa using h3
        exact ⟨by rw [sqB, decide_eq_false e, Bool.false_and, Bool.and_false, Bool.and_false], rfl⟩
    · (repeat (conv => whnf); (first | refine ⟨fun h => absurd h (by decide), fun _ => ?_⟩ | refine ⟨fun _ => ?_, fun h => absurd h (by decide)⟩)); conv => whnf
      exact ⟨by rw [sqB, h2, Bool.false_and, Bool.and_false], rfl⟩
  · (repeat (conv => whnf); (first | refine ⟨fun h => absurd h (by decide), fun _ => ?_⟩ | refine ⟨fun _ => ?_, fun h => absurd h (by decide)⟩)); conv => whnf
    exact ⟨by rw [sqB, h, Bool.false_and], rfl⟩
/-- what AreAlike answers -/
def aaV (x y z : Int) (m : List (List Int)) (x' y' z' : Int) (m' : List (List Int)) : Bool := sqB x y z m x' y' z' m' && alkB z z' m m'
theorem AreAlike_i (x y z : Int) (m : List (List Int)) (x' y' z' : Int) (m' : List (List Int)) (km : SzM m) (km' : SzM m') :
    FSpec Try.prog 58 [.ag [.c (.int .i64 (x)), .c (.int .i64 (y)), .c (.int .i64 (z)), .t (.rows m)], .ag [.c (.int .i64 (x')), .c (.int .i64 (y')), .c (.int .i64 (z')), .t (.rows m')]] (ex (.tu [.c (.bool (aaV x y z m x' y' z' m')), .c (.bool (sqB x y z m x' y' z' m'))]) []) := by
  refine fspec tyOk mx Try.func58 rfl (by kernel_rfl) rfl ?_
  conv => whnf
  refine ACall.use (sameQuestions_spec x y z m x' y' z' m' km km') ?_
  conv => whnf
  refine ⟨fun h => ?_, fun h => ?_⟩
  · have h : sqB x y z m x' y' z' m' = false := by simpa using h
    conv => whnf
    exact ⟨by rw [aaV, h]; rfl, rfl⟩
  · have h : sqB x y z m x' y' z' m' = true := by simpa using h
    obtain ⟨h1, h2, rfl, rfl⟩ := sqB_spec h
    obtain ⟨a, b, e1, e2, _, _, _, _, _, _, l1, c1, r1⟩ := goodB_spec h1
    obtain ⟨a', b', e1', e2', _, _, _, _, _, _, l2, c2, r2⟩ := goodB_spec h2
    have ea : a = a' := by omega
    have eb : b = b' := by omega
    subst ea eb
    conv => whnf
    refine ACall.use (alike_spec z z' m m' (by rw [l1, l2]) (by omega) (fun r hr => (r1 r hr).1) (fun r hr => (r2 r hr).1)) ?_
    conv => whnf
    exact ⟨by rw [aaV, h, Bool.true_and], rfl⟩
end Go.Proofs.Ytkomndcehdneaaa
