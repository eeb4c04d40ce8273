/- Boxes that are evened out: the reference, walked. -/
import Derived.Test.YtgefdbihdliolaaEven
namespace Go.Aw
def toF (m : List (List Int)) (p n : Nat) : List Int := (List.range 4).map fun q => if 3 - q < n then (m.getD p []).getD (3 - q) 0 else 0
theorem toF_step (m : List (List Int)) (p : Nat) {n : Nat} (hn : n < 4) : (toF m p n).set (3 - n) ((m.getD p []).getD n 0) = toF m p (n + 1) := by
  have h2 : n = 0 ∨ n = 1 ∨ n = 2 ∨ n = 3 := by omega
  rcases h2 with rfl | rfl | rfl | rfl <;> rfl
theorem toF_len (m : List (List Int)) (p n : Nat) : (toF m p n).length = 4 := by simp [toF]
theorem toF_zero (m : List (List Int)) (p : Nat) : toF m p 0 = List.replicate 4 0 := rfl
theorem toF_end (m : List (List Int)) (x y : Nat) : toF m (x * 2 + y) 4 = boxRow (revN m) x y := rfl
theorem xor3 {k x y : Nat} (hk : k < 4) (hx : x < 4) (hy : y < 4) : bits .xor .i64 (k : Int) (IntKind.i64.wrap (IntKind.i64.wrap (2 * ([1, 1, 1, 1] : List Int).getD x 0) + ([1, 1, 1, 1] : List Int).getD y 0)) = ((3 - k : Nat) : Int) := by
  have : ∀ k : Nat, k < 4 → ∀ x : Nat, x < 4 → ∀ y : Nat, y < 4 → bits .xor .i64 (k : Int) (IntKind.i64.wrap (IntKind.i64.wrap (2 * ([1, 1, 1, 1] : List Int).getD x 0) + ([1, 1, 1, 1] : List Int).getD y 0)) = ((3 - k : Nat) : Int) := by decide +kernel
  exact this k hk x hx y hy
end Go.Aw
namespace Go.Proofs.Ytgefdbihdliolaa
open Go.Aw
set_option maxRecDepth 100000
set_option maxHeartbeats 4000000

def mixL (m m' : List (List Int)) : List (List Int) := (List.range 4).map fun p => (List.range 4).map fun q => W ((m.getD p []).getD q 0 + (m'.getD p []).getD q 0)
def mixA (m m' : List (List Int)) (p q : Nat) : Int := W ((m.getD p []).getD q 0 + (m'.getD p []).getD q 0)
def mixR (m m' : List (List Int)) (p : Nat) : List Int := (List.range 4).map (mixA m m' p)
theorem l2Mix_spec (x y z z' : Int) (m m' : List (List Int)) (hm : m.length = 4) (h4 : ∀ r, r ∈ m → r.length = 4) (hm' : m'.length = 4) (h4' : ∀ r, r ∈ m' → r.length = 4) (x' y' : Int) :
    FSpec Try.prog 86 [.ag [.c (.int .i64 (x)), .c (.int .i64 (y)), .c (.int .i64 (z)), .t (.rows m)], .ag [.c (.int .i64 (x')), .c (.int .i64 (y')), .c (.int .i64 (z')), .t (.rows m')]] (ex (.ag [.c (.int .i64 (x)), .c (.int .i64 (y)), .c (.int .i64 (W (z + z'))), .own 0]) [(0, .rows 23 3 true (mixL m m'))]) := by
  refine fspec tyOk mx Try.func86 rfl (by kernel_rfl) rfl ?_
  conv => whnf
  refine aloopI tyOk mx (fun i : Nat => (⟨59, [(2, .ptr 0 0), (3, .ptr 1 0), (4, .ptr 2 0), (5, .ptr 4 0), (6, .c (.int .i64 (i)))], [(0, .cells 42 [.c (.int .i64 (x)), .c (.int .i64 (y)), .c (.int .i64 (z)), .t (.rows m)]), (1, .cells 42 [.c (.int .i64 (x')), .c (.int .i64 (y')), .c (.int .i64 (z')), .t (.rows m')]), (2, .cells 42 [.c (.int .i64 (0)), .c (.int .i64 (0)), .c (.int .i64 (0)), .c (.slice none 0 0)]), (3, .rows 23 3 true ((List.range i).map (mixR m m'))), (4, .cells 42 [.c (.int .i64 (x)), .c (.int .i64 (y)), .c (.int .i64 (W (z + z'))), .own 3])], 5⟩ : St)) (fun i => i ≤ 4) (fun i => 4 - i) 0 (Nat.zero_le _) none (by refine ⟨rfl, rfl, ?_, ?_⟩ <;> ((repeat' (first | exact trivial | exact rfl | refine And.intro ?_ ?_)) <;> (try ((conv => whnf); first | refine vint ?_ | refine vboo ?_ | refine rint ?_ | refine rrow ?_ | skip)) <;> (try first | omega | (simp; done) | ((repeat rw [flts_closed _ (by assumption)]); exact vws_closed _ (by assumption))))) (fun i hi => ?_)
  refine ⟨fun h => ?_, fun h => ?_⟩
  · have h : i < 4 := by have := ltT h; omega
    have r1 := h4 _ (getD_mem (d := []) (k := i) (by omega))
    have r2 := h4' _ (getD_mem (d := []) (k := i) (by omega))
    conv => whnf
    refine aloopI tyOk mx (fun n : Nat => (⟨59, [(2, .ptr 0 0), (3, .ptr 1 0), (4, .ptr 2 0), (5, .ptr 4 0), (6, .c (.int .i64 (i))), (7, .own 5), (8, .c (.int .i64 (n)))], [(0, .cells 42 [.c (.int .i64 (x)), .c (.int .i64 (y)), .c (.int .i64 (z)), .t (.rows m)]), (1, .cells 42 [.c (.int .i64 (x')), .c (.int .i64 (y')), .c (.int .i64 (z')), .t (.rows m')]), (2, .cells 42 [.c (.int .i64 (0)), .c (.int .i64 (0)), .c (.int .i64 (0)), .c (.slice none 0 0)]), (3, .rows 23 3 true ((List.range i).map (mixR m m'))), (4, .cells 42 [.c (.int .i64 (x)), .c (.int .i64 (y)), .c (.int .i64 (W (z + z'))), .own 3]), (5, .ints 3 .i64 ((List.range n).map (mixA m m' i)))], 6⟩ : St)) (fun n => n ≤ 4) (fun n => 4 - n) 0 (Nat.zero_le _) none (by refine ⟨rfl, rfl, ?_, ?_⟩ <;> ((repeat' (first | exact trivial | exact rfl | refine And.intro ?_ ?_)) <;> (try ((conv => whnf); first | refine vint ?_ | refine vboo ?_ | refine rint ?_ | refine rrow ?_ | skip)) <;> (try first | omega | (simp; done) | ((repeat rw [flts_closed _ (by assumption)]); exact vws_closed _ (by assumption))))) (fun n hn => ?_)
    refine ⟨fun h5 => ?_, fun h5 => ?_⟩
    · have h5 : n < 4 := by have := of_decide_eq_true h5; omega
      refine ADraw.plan tyOk mx (.q 0 (.q 1 (.q 2 (.q 3 (.q 4 (.q 5 (.q 6 (.q 7 (.q 8 (.q 9 (.q 10 (.q 11 (.q 12 (.q 13 (.q 14 (.q 15 (.q 16 (.q 17 (.last 18 (.last 19 (.q 20 (.done))))))))))))))))))))) : Plan) (by kernel_rfl) ?_
      conv => whnf
      refine ⟨i, rfl, by omega, n, rfl, by omega, i, rfl, by omega, n, rfl, by omega, ?_⟩
      conv => whnf
      refine ⟨by simp [room]; omega, ?_⟩
      conv => whnf
      rw [nat_wrap (by omega)]
      refine ⟨n + 1, none, ?_, by omega, by omega⟩
      (refine ⟨rfl, rfl, ?_, ?_⟩ <;> ((repeat' (first | exact trivial | exact rfl | refine And.intro ?_ ?_)) <;> (try ((conv => whnf); first | refine vint ?_ | refine vboo ?_ | refine rint ?_ | refine rrow ?_ | skip)) <;> (try first | omega | (simp; done) | ((repeat rw [flts_closed _ (by assumption)]); exact vws_closed _ (by assumption)))))
      rw [← map_range_succ]; rfl
    · have h5 : ¬ n < 4 := by have := of_decide_eq_false h5; omega
      obtain rfl : n = 4 := by omega
      conv => whnf
      refine ⟨by simp [room]; omega, ?_⟩
      conv => whnf
      rw [nat_wrap (by omega)]
      refine ⟨i + 1, none, ?_, by omega, by omega⟩
      (refine ⟨rfl, rfl, ?_, ?_⟩ <;> ((repeat' (first | exact trivial | exact rfl | refine And.intro ?_ ?_)) <;> (try ((conv => whnf); first | refine vint ?_ | refine vboo ?_ | refine rint ?_ | refine rrow ?_ | skip)) <;> (try first | omega | (simp; done) | ((repeat rw [flts_closed _ (by assumption)]); exact vws_closed _ (by assumption)))))
      exact map_range_succ (mixR m m') i
  · have h : ¬ i < 4 := by have := ltF h; omega
    obtain rfl : i = 4 := by omega
    conv => whnf
    exact ⟨rfl, rfl⟩

theorem l2Flip_spec (z : Int) (m : List (List Int)) (hm : m.length = 4) (h4 : ∀ r, r ∈ m → r.length = 4) :
    FSpec Try.prog 87 [.ag [.c (.int .i64 (2)), .c (.int .i64 (2)), .c (.int .i64 (z)), .t (.rows m)], .t (.ints .i64 [1, 1, 1, 1])] (ex (.ag [.c (.int .i64 (2)), .c (.int .i64 (2)), .c (.int .i64 (z)), .own 0]) [(0, .rows 23 3 true (revM m))]) := by
  refine fspec tyOk mx Try.func87 rfl (by kernel_rfl) rfl ?_
  conv => whnf
  refine aloopI tyOk mx (fun x : Nat => (⟨68, [(1, .t (.ints .i64 [1, 1, 1, 1])), (2, .ptr 0 0), (4, .ptr 1 0), (5, .ptr 3 0), (6, .c (.int .i64 (x)))], [(0, .cells 42 [.c (.int .i64 (2)), .c (.int .i64 (2)), .c (.int .i64 (z)), .t (.rows m)]), (1, .cells 42 [.c (.int .i64 (0)), .c (.int .i64 (0)), .c (.int .i64 (0)), .c (.slice none 0 0)]), (2, .rows 23 3 true (boxTo (revN m) 2 x 0)), (3, .cells 42 [.c (.int .i64 (2)), .c (.int .i64 (2)), .c (.int .i64 (z)), .own 2])], 4⟩ : St)) (fun x => x ≤ 2) (fun x => 2 - x) 0 (Nat.zero_le _) none (by refine ⟨rfl, rfl, ?_, ?_⟩ <;> ((repeat' (first | exact trivial | exact rfl | refine And.intro ?_ ?_)) <;> (try ((conv => whnf); first | refine vint ?_ | refine vboo ?_ | refine rint ?_ | refine rrow ?_ | skip)) <;> (try first | omega | (simp; done) | ((repeat rw [flts_closed _ (by assumption)]); exact vws_closed _ (by assumption))))) (fun x hx => ?_)
  refine ⟨fun h => ?_, fun h => ?_⟩
  · have h : x < 2 := by have := ltT h; omega
    conv => whnf
    refine aloopI tyOk mx (fun y : Nat => (⟨68, [(1, .t (.ints .i64 [1, 1, 1, 1])), (2, .ptr 0 0), (4, .ptr 1 0), (5, .ptr 3 0), (6, .c (.int .i64 (x))), (7, .c (.int .i64 (y)))], [(0, .cells 42 [.c (.int .i64 (2)), .c (.int .i64 (2)), .c (.int .i64 (z)), .t (.rows m)]), (1, .cells 42 [.c (.int .i64 (0)), .c (.int .i64 (0)), .c (.int .i64 (0)), .c (.slice none 0 0)]), (2, .rows 23 3 true (boxTo (revN m) 2 x y)), (3, .cells 42 [.c (.int .i64 (2)), .c (.int .i64 (2)), .c (.int .i64 (z)), .own 2])], 4⟩ : St)) (fun y => y ≤ 2) (fun y => 2 - y) 0 (Nat.zero_le _) none (by refine ⟨rfl, rfl, ?_, ?_⟩ <;> ((repeat' (first | exact trivial | exact rfl | refine And.intro ?_ ?_)) <;> (try ((conv => whnf); first | refine vint ?_ | refine vboo ?_ | refine rint ?_ | refine rrow ?_ | skip)) <;> (try first | omega | (simp; done) | ((repeat rw [flts_closed _ (by assumption)]); exact vws_closed _ (by assumption))))) (fun y hy => ?_)
    refine ⟨fun h5 => ?_, fun h5 => ?_⟩
    · have h5 : y < 2 := by have := ltT h5; omega
      have hr4 := h4 _ (getD_mem (d := []) (k := x * 2 + y) (by omega))
      have hbl := boxTo_len (revN m) 2 x y
      refine ADraw.mid (⟨68, [(1, .t (.ints .i64 [1, 1, 1, 1])), (2, .ptr 0 0), (4, .ptr 1 0), (5, .ptr 3 0), (6, .c (.int .i64 (x))), (7, .c (.int .i64 (y))), (8, .t (.ints .i64 (m.getD (x * 2 + y) []))), (9, .own 4)], [(0, .cells 42 [.c (.int .i64 (2)), .c (.int .i64 (2)), .c (.int .i64 (z)), .t (.rows m)]), (1, .cells 42 [.c (.int .i64 (0)), .c (.int .i64 (0)), .c (.int .i64 (0)), .c (.slice none 0 0)]), (2, .rows 23 3 true (boxTo (revN m) 2 x y)), (3, .cells 42 [.c (.int .i64 (2)), .c (.int .i64 (2)), .c (.int .i64 (z)), .own 2]), (4, .ints 3 .i64 (toF m (x * 2 + y) 0))], 5⟩ : St) (ADraw.plan tyOk mx (.q 0 (.q 1 (.q 2 (.alt 3 (.q 5 (.last 4 (.q 6 (.done)))) (.last 4 (.last 3 (.q 5 (.q 6 (.done)))))))) : Plan) (by kernel_rfl) ?_) ?_
      · conv => whnf
        repeat' (first | (refine And.intro ?_ ?_ <;> (conv => whnf)) | (refine ACall.useR (l2Row_spec 2 2 x y z m (by omega) (by omega)) ?_; conv => whnf) | (refine ⟨4, rfl, rfl, by simp [room], ?_⟩; conv => whnf))
        all_goals
          refine ⟨[(0, .row 0), (1, .row 1), (2, .row 2), (3, .row 3), (4, .row 4)], ?_⟩
          (refine ⟨rfl, rfl, ?_, ?_⟩ <;> ((repeat' (first | exact trivial | exact rfl | refine And.intro ?_ ?_)) <;> (try ((conv => whnf); first | refine vint ?_ | refine vboo ?_ | refine rint ?_ | refine rrow ?_ | skip)) <;> (try first | omega | (simp; done) | ((repeat rw [flts_closed _ (by assumption)]); exact vws_closed _ (by assumption)))))
      · conv => whnf
        refine aloopI tyOk mx (fun k : Nat => (⟨68, [(1, .t (.ints .i64 [1, 1, 1, 1])), (2, .ptr 0 0), (4, .ptr 1 0), (5, .ptr 3 0), (6, .c (.int .i64 (x))), (7, .c (.int .i64 (y))), (8, .t (.ints .i64 (m.getD (x * 2 + y) []))), (9, .own 4), (10, .c (.int .i64 (k)))], [(0, .cells 42 [.c (.int .i64 (2)), .c (.int .i64 (2)), .c (.int .i64 (z)), .t (.rows m)]), (1, .cells 42 [.c (.int .i64 (0)), .c (.int .i64 (0)), .c (.int .i64 (0)), .c (.slice none 0 0)]), (2, .rows 23 3 true (boxTo (revN m) 2 x y)), (3, .cells 42 [.c (.int .i64 (2)), .c (.int .i64 (2)), .c (.int .i64 (z)), .own 2]), (4, .ints 3 .i64 (toF m (x * 2 + y) k))], 5⟩ : St)) (fun k => k ≤ 4) (fun k => 4 - k) 0 (Nat.zero_le _) none (by refine ⟨rfl, rfl, ?_, ?_⟩ <;> ((repeat' (first | exact trivial | exact rfl | refine And.intro ?_ ?_)) <;> (try ((conv => whnf); first | refine vint ?_ | refine vboo ?_ | refine rint ?_ | refine rrow ?_ | skip)) <;> (try first | omega | (simp; done) | ((repeat rw [flts_closed _ (by assumption)]); exact vws_closed _ (by assumption))))) (fun k hk => ?_)
        have htl := toF_len m (x * 2 + y) k
        refine ⟨fun h6 => ?_, fun h6 => ?_⟩
        · have h6 : k < 4 := by have := of_decide_eq_true h6; omega
          refine ADraw.plan tyOk mx (.q 0 (.q 1 (.q 2 (.q 3 (.q 4 (.q 5 (.q 6 (.q 7 (.q 8 (.q 9 (.q 10 (.q 11 (.q 12 (.q 13 (.q 14 (.q 15 (.q 16 (.q 17 (.q 18 (.q 19 (.q 20 (.last 21 (.done)))))))))))))))))))))) : Plan) (by kernel_rfl) ?_
          conv => whnf
          refine ⟨x, rfl, (show x < 4 by omega), ?_⟩
          conv => whnf
          refine ⟨2 + y, by rw [show (2 : Int) + (y : Int) = ((2 + y : Nat) : Int) by omega]; exact w64 (by omega) (by omega), (show 2 + y < 4 by omega), ?_⟩
          conv => whnf
          refine ⟨k, rfl, by omega, ?_⟩
          conv => whnf
          refine ⟨3 - k, xor3 h6 (by omega) (by omega), by omega, ?_⟩
          conv => whnf
          rw [nat_wrap (by omega)]
          refine ⟨k + 1, none, ?_, by omega, by omega⟩
          (refine ⟨rfl, rfl, ?_, ?_⟩ <;> ((repeat' (first | exact trivial | exact rfl | refine And.intro ?_ ?_)) <;> (try ((conv => whnf); first | refine vint ?_ | refine vboo ?_ | refine rint ?_ | refine rrow ?_ | skip)) <;> (try first | omega | (simp; done) | ((repeat rw [flts_closed _ (by assumption)]); exact vws_closed _ (by assumption)))))
          exact toF_step m _ h6
        · have h6 : ¬ k < 4 := by have := of_decide_eq_false h6; omega
          obtain rfl : k = 4 := by omega
          conv => whnf
          refine ⟨by simp [room]; omega, ?_⟩
          conv => whnf
          rw [nat_wrap (by omega)]
          refine ⟨y + 1, none, ?_, by omega, by omega⟩
          (refine ⟨rfl, rfl, ?_, ?_⟩ <;> ((repeat' (first | exact trivial | exact rfl | refine And.intro ?_ ?_)) <;> (try ((conv => whnf); first | refine vint ?_ | refine vboo ?_ | refine rint ?_ | refine rrow ?_ | skip)) <;> (try first | omega | (simp; done) | ((repeat rw [flts_closed _ (by assumption)]); exact vws_closed _ (by assumption)))))
          rw [← boxTo_row]; rfl
    · have h5 : ¬ y < 2 := by have := ltF h5; omega
      obtain rfl : y = 2 := by omega
      conv => whnf
      rw [nat_wrap (by omega)]
      refine ⟨x + 1, none, ?_, by omega, by omega⟩
      (refine ⟨rfl, rfl, ?_, ?_⟩ <;> ((repeat' (first | exact trivial | exact rfl | refine And.intro ?_ ?_)) <;> (try ((conv => whnf); first | refine vint ?_ | refine vboo ?_ | refine rint ?_ | refine rrow ?_ | skip)) <;> (try first | omega | (simp; done) | ((repeat rw [flts_closed _ (by assumption)]); exact vws_closed _ (by assumption)))))
      exact boxTo_end _ _ _
  · have h : ¬ x < 2 := by have := ltF h; omega
    obtain rfl : x = 2 := by omega
    conv => whnf
    exact ⟨rfl, rfl⟩

theorem l2Kept_no (z : Int) (m : List (List Int)) (km : SzM m) (h : goodB 2 2 z m = false) : FSpec Try.prog 79 [.ag [.c (.int .i64 (2)), .c (.int .i64 (2)), .c (.int .i64 (z)), .t (.rows m)]] (ex (.tu [.ag [.c (.int .i64 (0)), .c (.int .i64 (0)), .c (.int .i64 (0)), .c (.slice none 0 0)], .c (.bool false)]) []) := by
  refine fspec tyOk mx Try.func79 rfl (by kernel_rfl) rfl ?_
  conv => whnf
  refine ACall.use (l2Box_spec 2 2 z m km) ?_
  rw [h]
  conv => whnf
  first | refine ⟨fun h => absurd h (by decide), fun _ => ?_⟩ | refine ⟨fun _ => ?_, fun h => absurd h (by decide)⟩
  conv => whnf
  exact ⟨rfl, rfl⟩
theorem l2Kept_ok (z : Int) (m : List (List Int)) (km : SzM m) (h : goodB 2 2 z m = true) : FSpec Try.prog 79 [.ag [.c (.int .i64 (2)), .c (.int .i64 (2)), .c (.int .i64 (z)), .t (.rows m)]] (ex (.tu [.ag [.c (.int .i64 (2)), .c (.int .i64 (2)), .c (.int .i64 (z)), .t (.rows m)], .c (.bool true)]) []) := by
  refine fspec tyOk mx Try.func79 rfl (by kernel_rfl) rfl ?_
  conv => whnf
  refine ACall.use (l2Box_spec 2 2 z m km) ?_
  rw [h]
  conv => whnf
  first | refine ⟨fun h => absurd h (by decide), fun _ => ?_⟩ | refine ⟨fun _ => ?_, fun h => absurd h (by decide)⟩
  conv => whnf
  exact ⟨rfl, rfl⟩
end Go.Proofs.Ytgefdbihdliolaa
