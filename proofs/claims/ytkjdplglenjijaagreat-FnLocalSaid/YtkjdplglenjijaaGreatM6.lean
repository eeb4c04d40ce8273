/- A box with flipped answers: reference. -/
import Derived.Test.YtkjdplglenjijaaGreatM3
import Derived.Test.YtkjdplglenjijaaGreatM5
import Derived.Test.YtkjdplglenjijaaGreatM2
namespace Go.Aw
def fq (f g : Int) (k : Nat) : Nat := 2 * xb (k / 2) f + xb (k % 2) g
theorem fq_lt {f g : Int} {k : Nat} (hk : k < 4) : fq f g k < 4 := by
  have h1 := xb_lt (f := f) (show k / 2 < 2 by omega)
  have h2 := xb_lt (f := g) (show k % 2 < 2 by omega)
  unfold fq; omega
theorem xorE {k : Nat} {f g : Int} (hk : k < 4) (hf : 0 ≤ f ∧ f ≤ 1) (hg : 0 ≤ g ∧ g ≤ 1) : bits .xor .i64 (k : Int) (IntKind.i64.wrap (IntKind.i64.wrap (2 * f) + g)) = (fq f g k : Int) := by
  have h1 : f = 0 ∨ f = 1 := by omega
  have h2 : g = 0 ∨ g = 1 := by omega
  have h3 : k = 0 ∨ k = 1 ∨ k = 2 ∨ k = 3 := by omega
  rcases h1 with rfl | rfl <;> rcases h2 with rfl | rfl <;> rcases h3 with rfl | rfl | rfl | rfl <;> rfl
def flipT (r : List Int) (f g : Int) (n : Nat) : List Int := fo (fun to k => to.set (fq f g k) (r.getD k 0)) (List.replicate 4 0) n
theorem flipT_len (r : List Int) (f g : Int) : ∀ n, (flipT r f g n).length = 4
  | 0 => rfl
  | n + 1 => by
    show ((flipT r f g n).set _ _).length = 4
    rw [List.length_set]; exact flipT_len r f g n
def flNum (nx ny : Nat) (m : List (List Int)) (fl : List Int) (x y a c : Nat) : Int := enV ny m x y (xb a (fl.getD x 0)) (xb c (fl.getD (nx + y) 0))
theorem flipT_all (nx ny : Nat) (m : List (List Int)) (fl : List Int) (x y : Nat) (hf : 0 ≤ fl.getD x 0 ∧ fl.getD x 0 ≤ 1) (hg : 0 ≤ fl.getD (nx + y) 0 ∧ fl.getD (nx + y) 0 ≤ 1) :
    flipT (m.getD (x * ny + y) []) (fl.getD x 0) (fl.getD (nx + y) 0) 4 = boxRow (flNum nx ny m fl) x y := by
  unfold boxRow flNum enV
  generalize fl.getD x 0 = f at hf
  generalize fl.getD (nx + y) 0 = g at hg
  generalize m.getD (x * ny + y) [] = r
  have h1 : f = 0 ∨ f = 1 := by omega
  have h2 : g = 0 ∨ g = 1 := by omega
  rcases h1 with rfl | rfl <;> rcases h2 with rfl | rfl <;> rfl
end Go.Aw
namespace Go.Proofs.YtkjdplglenjijaaGreat.L
open Go.Aw
set_option maxRecDepth 100000
set_option maxHeartbeats 4000000
theorem l2Flip_all (nx ny : Nat) (hx : nx ≤ 3) (hy : ny ≤ 3) (z : Int) (m : List (List Int)) (hm : m.length = nx * ny) (h4 : ∀ r, r ∈ m → r.length = 4) (fl : List Int) (hl : fl.length = nx + ny) (h01 : ∀ v, v ∈ fl → 0 ≤ v ∧ v ≤ 1) :
    FSpec Tryz.prog 96 [.ag [.c (.int .i64 (nx)), .c (.int .i64 (ny)), .c (.int .i64 (z)), .t (.rows m)], .t (.ints .i64 fl)] (ex (.ag [.c (.int .i64 (nx)), .c (.int .i64 (ny)), .c (.int .i64 (z)), .own 0]) [(0, .rows 38 3 true (flG nx ny m fl))]) := by
  have hn : nx * ny ≤ 3 * 3 := Nat.mul_le_mul hx hy
  have hG : flG nx ny m fl = boxTo (flNum nx ny m fl) ny nx 0 := by rw [boxTo_all]; rfl
  rw [hG]
  refine fspec tyOk mx Tryz.func96 rfl (by kernel_rfl) rfl ?_
  conv => whnf
  refine aloopI tyOk mx (fun x : Nat => (⟨68, [(1, .t (.ints .i64 fl)), (2, .ptr 0 0), (4, .ptr 1 0), (5, .ptr 3 0), (6, .c (.int .i64 (x)))], [(0, .cells 26 [.c (.int .i64 (nx)), .c (.int .i64 (ny)), .c (.int .i64 (z)), .t (.rows m)]), (1, .cells 26 [.c (.int .i64 (0)), .c (.int .i64 (0)), .c (.int .i64 (0)), .c (.slice none 0 0)]), (2, .rows 38 3 true (boxTo (flNum nx ny m fl) ny x 0)), (3, .cells 26 [.c (.int .i64 (nx)), .c (.int .i64 (ny)), .c (.int .i64 (z)), .own 2])], 4⟩ : St)) (fun x => x ≤ nx) (fun x => nx - x) 0 (Nat.zero_le _) none (by refine ⟨rfl, rfl, ?_, ?_⟩ <;> ((repeat' (first | exact trivial | exact rfl | refine And.intro ?_ ?_)) <;> (try ((conv => whnf); first | refine vint ?_ | refine vboo ?_ | refine rint ?_ | refine rrow ?_ | skip)) <;> (try first | omega | (simp; done) | ((repeat rw [flts_closed _ (by assumption)]); exact vws_closed _ (by assumption))))) (fun x p1 => ?_)
  refine ⟨fun h => ?_, fun h => ?_⟩
  · have h : x < nx := by have := ltT h; omega
    have hix : x * ny + ny ≤ nx * ny := by have := Nat.mul_le_mul_right ny h; rw [Nat.succ_mul] at this; exact this
    conv => whnf
    refine aloopI tyOk mx (fun y : Nat => (⟨68, [(1, .t (.ints .i64 fl)), (2, .ptr 0 0), (4, .ptr 1 0), (5, .ptr 3 0), (6, .c (.int .i64 (x))), (7, .c (.int .i64 (y)))], [(0, .cells 26 [.c (.int .i64 (nx)), .c (.int .i64 (ny)), .c (.int .i64 (z)), .t (.rows m)]), (1, .cells 26 [.c (.int .i64 (0)), .c (.int .i64 (0)), .c (.int .i64 (0)), .c (.slice none 0 0)]), (2, .rows 38 3 true (boxTo (flNum nx ny m fl) ny x y)), (3, .cells 26 [.c (.int .i64 (nx)), .c (.int .i64 (ny)), .c (.int .i64 (z)), .own 2])], 4⟩ : St)) (fun y => y ≤ ny) (fun y => ny - y) 0 (Nat.zero_le _) none (by refine ⟨rfl, rfl, ?_, ?_⟩ <;> ((repeat' (first | exact trivial | exact rfl | refine And.intro ?_ ?_)) <;> (try ((conv => whnf); first | refine vint ?_ | refine vboo ?_ | refine rint ?_ | refine rrow ?_ | skip)) <;> (try first | omega | (simp; done) | ((repeat rw [flts_closed _ (by assumption)]); exact vws_closed _ (by assumption))))) (fun y q1 => ?_)
    refine ⟨fun h5 => ?_, fun h5 => ?_⟩
    · have h5 : y < ny := by have := ltT h5; omega
      have hr4 := h4 _ (getD_mem (d := []) (k := x * ny + y) (by omega))
      have f1 := h01 _ (getD_mem (d := 0) (show x < fl.length by omega))
      have f2 := h01 _ (getD_mem (d := 0) (show nx + y < fl.length by omega))
      have eR := boxTo_row (flNum nx ny m fl) ny x y
      have lR := boxTo_len (flNum nx ny m fl) ny x y
      have eF := flipT_all nx ny m fl x y f1 f2
      generalize boxTo (flNum nx ny m fl) ny x y = o at eR lR
      refine ADraw.mid (⟨68, [(1, .t (.ints .i64 fl)), (2, .ptr 0 0), (4, .ptr 1 0), (5, .ptr 3 0), (6, .c (.int .i64 (x))), (7, .c (.int .i64 (y))), (8, .t (.ints .i64 (m.getD (x * ny + y) []))), (9, .own 4)], [(0, .cells 26 [.c (.int .i64 (nx)), .c (.int .i64 (ny)), .c (.int .i64 (z)), .t (.rows m)]), (1, .cells 26 [.c (.int .i64 (0)), .c (.int .i64 (0)), .c (.int .i64 (0)), .c (.slice none 0 0)]), (2, .rows 38 3 true o), (3, .cells 26 [.c (.int .i64 (nx)), .c (.int .i64 (ny)), .c (.int .i64 (z)), .own 2]), (4, .ints 3 .i64 (List.replicate 4 0))], 5⟩ : St) (ADraw.plan tyOk mx (.q 0 (.q 1 (.q 2 (.alt 3 (.q 5 (.last 4 (.q 6 (.done)))) (.last 4 (.last 3 (.q 5 (.q 6 (.done)))))))) : Plan) (by kernel_rfl) ?_) ?_
      · conv => whnf
        repeat' (first | (refine And.intro ?_ ?_ <;> (conv => whnf)) | (refine ACall.useR (l2Row_spec nx ny x y z m (by omega) (by omega)) ?_; conv => whnf) | (refine ⟨4, rfl, rfl, by simp [room], ?_⟩; conv => whnf))
        all_goals
          refine ⟨[(0, .row 0), (1, .row 1), (2, .row 2), (3, .row 3), (4, .row 4)], ?_⟩
          (refine ⟨rfl, rfl, ?_, ?_⟩ <;> ((repeat' (first | exact trivial | exact rfl | refine And.intro ?_ ?_)) <;> (try ((conv => whnf); first | refine vint ?_ | refine vboo ?_ | refine rint ?_ | refine rrow ?_ | skip)) <;> (try first | omega | (simp; done) | ((repeat rw [flts_closed _ (by assumption)]); exact vws_closed _ (by assumption)))))
      · conv => whnf
        refine aloopI tyOk mx (fun k : Nat => (⟨68, [(1, .t (.ints .i64 fl)), (2, .ptr 0 0), (4, .ptr 1 0), (5, .ptr 3 0), (6, .c (.int .i64 (x))), (7, .c (.int .i64 (y))), (8, .t (.ints .i64 (m.getD (x * ny + y) []))), (9, .own 4), (10, .c (.int .i64 (k)))], [(0, .cells 26 [.c (.int .i64 (nx)), .c (.int .i64 (ny)), .c (.int .i64 (z)), .t (.rows m)]), (1, .cells 26 [.c (.int .i64 (0)), .c (.int .i64 (0)), .c (.int .i64 (0)), .c (.slice none 0 0)]), (2, .rows 38 3 true o), (3, .cells 26 [.c (.int .i64 (nx)), .c (.int .i64 (ny)), .c (.int .i64 (z)), .own 2]), (4, .ints 3 .i64 (flipT (m.getD (x * ny + y) []) (fl.getD x 0) (fl.getD (nx + y) 0) k))], 5⟩ : St)) (fun k => k ≤ 4) (fun k => 4 - k) 0 (Nat.zero_le _) none (by refine ⟨rfl, rfl, ?_, ?_⟩ <;> ((repeat' (first | exact trivial | exact rfl | refine And.intro ?_ ?_)) <;> (try ((conv => whnf); first | refine vint ?_ | refine vboo ?_ | refine rint ?_ | refine rrow ?_ | skip)) <;> (try first | omega | (simp; done) | ((repeat rw [flts_closed _ (by assumption)]); exact vws_closed _ (by assumption))))) (fun k t1 => ?_)
        refine ⟨fun h6 => ?_, fun h6 => ?_⟩
        · have h6 : k < 4 := by have := of_decide_eq_true h6; omega
          have lT := flipT_len (m.getD (x * ny + y) []) (fl.getD x 0) (fl.getD (nx + y) 0) k
          have eq := xorE h6 f1 f2
          have hq := fq_lt (f := fl.getD x 0) (g := fl.getD (nx + y) 0) h6
          refine ADraw.plan tyOk mx (.q 0 (.q 1 (.q 2 (.q 3 (.q 4 (.q 5 (.q 6 (.q 7 (.q 8 (.q 9 (.q 10 (.q 11 (.q 12 (.q 13 (.q 14 (.q 15 (.q 16 (.q 17 (.q 18 (.q 19 (.q 20 (.last 21 (.done)))))))))))))))))))))) : Plan) (by kernel_rfl) ?_
          conv => whnf
          refine ⟨x, rfl, (show x < fl.length by omega), ?_⟩
          conv => whnf
          refine ⟨nx + y, by rw [show (nx : Int) + (y : Int) = ((nx + y : Nat) : Int) by omega]; exact w64 (by omega) (by omega), (show nx + y < fl.length by omega), ?_⟩
          conv => whnf
          refine ⟨k, rfl, by omega, ?_⟩
          conv => whnf
          refine ⟨fq (fl.getD x 0) (fl.getD (nx + y) 0) k, eq, by omega, ?_⟩
          conv => whnf
          rw [nat_wrap (by omega)]
          exact ⟨k + 1, none, (by refine ⟨rfl, rfl, ?_, ?_⟩ <;> ((repeat' (first | exact trivial | exact rfl | refine And.intro ?_ ?_)) <;> (try ((conv => whnf); first | refine vint ?_ | refine vboo ?_ | refine rint ?_ | refine rrow ?_ | skip)) <;> (try first | omega | (simp; done) | ((repeat rw [flts_closed _ (by assumption)]); exact vws_closed _ (by assumption))))), by omega, by omega⟩
        · have h6 : ¬ k < 4 := by have := of_decide_eq_false h6; omega
          obtain rfl : k = 4 := by omega
          rw [eF]
          conv => whnf
          refine ⟨by simp [room]; omega, ?_⟩
          conv => whnf
          rw [nat_wrap (by omega)]
          refine ⟨y + 1, none, ?_, by omega, by omega⟩
          rw [← eR]
          (refine ⟨rfl, rfl, ?_, ?_⟩ <;> ((repeat' (first | exact trivial | exact rfl | refine And.intro ?_ ?_)) <;> (try ((conv => whnf); first | refine vint ?_ | refine vboo ?_ | refine rint ?_ | refine rrow ?_ | skip)) <;> (try first | omega | (simp; done) | ((repeat rw [flts_closed _ (by assumption)]); exact vws_closed _ (by assumption)))))
    · have h5 : ¬ y < ny := by have := ltF h5; omega
      obtain rfl : y = ny := by omega
      rw [boxTo_end]
      conv => whnf
      rw [nat_wrap (by omega)]
      exact ⟨x + 1, none, (by refine ⟨rfl, rfl, ?_, ?_⟩ <;> ((repeat' (first | exact trivial | exact rfl | refine And.intro ?_ ?_)) <;> (try ((conv => whnf); first | refine vint ?_ | refine vboo ?_ | refine rint ?_ | refine rrow ?_ | skip)) <;> (try first | omega | (simp; done) | ((repeat rw [flts_closed _ (by assumption)]); exact vws_closed _ (by assumption))))), by omega, by omega⟩
  · have h : ¬ x < nx := by have := ltF h; omega
    obtain rfl : x = nx := by omega
    conv => whnf
    exact ⟨rfl, rfl⟩
end Go.Proofs.YtkjdplglenjijaaGreat.L
/- Extreme boxes, in order: reference and program. -/
namespace Go.Proofs.YtkjdplglenjijaaGreat
open Go.Aw
set_option maxRecDepth 100000
set_option maxHeartbeats 4000000

def exRow (i : Nat) : List (List Int) := if i < 16 then pbM ((playsL 4).getD i []) 2 else equalM ((i : Int) - 16)
def exL (n : Nat) : List (List Int × List (List Int)) := (List.range n).map fun i => ([2, 2, 2], exRow i)
theorem exL_len (n : Nat) : (exL n).length = n := by simp [exL]
theorem exL_get {n i : Nat} (h : i < n) : (exL n).getD i ([], []) = ([2, 2, 2], exRow i) := range_getD h
theorem exL_succ (n : Nat) : exL n ++ [([2, 2, 2], exRow n)] = exL (n + 1) := map_range_succ _ n
theorem exRow_len (i : Nat) : (exRow i).length = 4 := by
  unfold exRow
  split
  · exact boxRows_len _ 2 2
  · exact boxRows_len _ 2 2
theorem exRow_rows (i : Nat) : ∀ r, r ∈ exRow i → r.length = 4 := by
  have key : ∀ f : Nat → Nat → Nat → Nat → Int, ∀ q, q ∈ boxRows f 2 2 → q.length = 4 := fun f q hq => by
    obtain ⟨i, _, hq⟩ := List.mem_flatMap.1 hq
    obtain ⟨j, _, rfl⟩ := List.mem_map.1 hq
    simp [boxRow]
  unfold exRow
  split
  · exact key _
  · exact key _
theorem play4 {i : Nat} (h : i < 16) : ((playsL 4).getD i []).length = 4 ∧ ∀ v, v ∈ (playsL 4).getD i [] → 0 ≤ v ∧ v ≤ 1 := playsL_row (by omega) (by rw [playsL_len]; simpa using h)


end Go.Proofs.YtkjdplglenjijaaGreat
/- Functionals of two questions each; the least and the greatest worth of extreme boxes: reference and program. -/
namespace Go.Aw
theorem mn_eq (a b : Int) : (if b < a then b else a) = min a b := by split <;> omega
theorem mx_eq (a b : Int) : (if b > a then b else a) = max a b := by split <;> omega
end Go.Aw
namespace Go.Proofs.YtkjdplglenjijaaGreat
open Go.Aw
set_option maxRecDepth 100000
set_option maxHeartbeats 4000000

theorem r1Most_spec (a b : Int) : FSpec Tryz.prog 70 [.c (.int .i64 (a)), .c (.int .i64 (b))] (ex (.c (.int .i64 (max a b))) []) := by
  refine fspec tyOk mx Tryz.func70 rfl (by kernel_rfl) rfl ?_
  conv => whnf
  refine ⟨fun h => ?_, fun h => ?_⟩
  · have h := of_decide_eq_true h
    conv => whnf
    refine ⟨?_, rfl⟩
    rw [Int.max_eq_left (by omega)]
  · have h := of_decide_eq_false h
    conv => whnf
    refine ⟨?_, rfl⟩
    rw [Int.max_eq_right (by omega)]
theorem r1Least_spec (a b : Int) : FSpec Tryz.prog 77 [.c (.int .i64 (a)), .c (.int .i64 (b))] (ex (.c (.int .i64 (min a b))) []) := by
  refine fspec tyOk mx Tryz.func77 rfl (by kernel_rfl) rfl ?_
  conv => whnf
  refine ⟨fun h => ?_, fun h => ?_⟩
  · have h := of_decide_eq_true h
    conv => whnf
    refine ⟨?_, rfl⟩
    rw [Int.min_eq_left (by omega)]
  · have h := of_decide_eq_false h
    conv => whnf
    refine ⟨?_, rfl⟩
    rw [Int.min_eq_right (by omega)]

def fnRow (r : List Int) : Bool := decide (r.length = 4) && rowIn r (-99) 99
def fnB (f : List (List Int)) : Bool := decide (f.length = 4) && f.all fnRow
theorem fnB_spec {f : List (List Int)} (h : fnB f = true) : f.length = 4 ∧ (∀ r, r ∈ f → r.length = 4) ∧ ∀ r, r ∈ f → ∀ v, v ∈ r → -99 ≤ v ∧ v ≤ 99 := by
  simp only [fnB, fnRow, Bool.and_eq_true, decide_eq_true_eq, List.all_eq_true, rowIn_iff] at h
  exact ⟨h.1, fun r hr => (h.2 r hr).1, fun r hr => (h.2 r hr).2⟩

theorem l2Functional_spec (f : List (List Int)) (kf : SzM f) : FSpec Tryz.prog 41 [.c (.int .i64 (2)), .c (.int .i64 (2)), .t (.rows f)] (ex (.c (.bool (fnB f))) []) := by
  obtain ⟨k1, k2, k3⟩ := kf.all
  refine fspec tyOk mx Tryz.func41 rfl (by kernel_rfl) rfl ?_
  conv => whnf
  refine ACall.use (l2Sizes_spec 2 2) ?_
  conv => whnf
  first | refine ⟨fun h => absurd h (by decide), fun _ => ?_⟩ | refine ⟨fun _ => ?_, fun h => absurd h (by decide)⟩
  conv => whnf
  refine ⟨fun h => ?_, fun h => ?_⟩
  · have h : ¬ f.length = 4 := by
      intro e
      rw [e] at h
      exact absurd h (by decide)
    conv => whnf
    refine ⟨?_, rfl⟩
    rw [fnB, decide_eq_false h, Bool.false_and]
  · have h0 : f.length = 4 := by
      have h : ((f.length : Int) != IntKind.i64.wrap (2 * 2)) = false := h
      rw [w64 (by omega) (by omega)] at h
      have : (f.length : Int) = 2 * 2 := by simpa using h
      omega
    clear h
    conv => whnf
    refine aloopI tyOk mx (fun i : Nat => (⟨51, [(2, .t (.rows f)), (7, .c (.int .i64 (i)))], [], 0⟩ : St)) (fun i => i ≤ f.length ∧ (f.take i).all fnRow = true) (fun i => f.length - i) 0 ⟨Nat.zero_le _, rfl⟩ none (by refine ⟨rfl, rfl, ?_, ?_⟩ <;> ((repeat' (first | exact trivial | exact rfl | refine And.intro ?_ ?_)) <;> (try ((conv => whnf); first | refine vint ?_ | refine vboo ?_ | refine rint ?_ | refine rrow ?_ | skip)) <;> (try first | omega | (simp; done) | ((repeat rw [flts_closed _ (by assumption)]); exact vws_closed _ (by assumption))))) (fun i hi => ?_)
    obtain ⟨hi, hp⟩ := hi
    refine ⟨fun h => ?_, fun h => ?_⟩
    · have h : i < f.length := by have := ltT h; omega
      have hri := k2 _ (getD_mem (d := []) h)
      conv => whnf
      refine aloopI tyOk mx (fun n : Nat => (⟨51, [(2, .t (.rows f)), (7, .c (.int .i64 (i))), (8, .c (.int .i64 (n)))], [], 0⟩ : St)) (fun n => n ≤ (f.getD i []).length ∧ ((f.getD i []).take n).all (fun x => inR x (-99) 99) = true) (fun n => (f.getD i []).length - n) 0 ⟨Nat.zero_le _, rfl⟩ none (by refine ⟨rfl, rfl, ?_, ?_⟩ <;> ((repeat' (first | exact trivial | exact rfl | refine And.intro ?_ ?_)) <;> (try ((conv => whnf); first | refine vint ?_ | refine vboo ?_ | refine rint ?_ | refine rrow ?_ | skip)) <;> (try first | omega | (simp; done) | ((repeat rw [flts_closed _ (by assumption)]); exact vws_closed _ (by assumption))))) (fun n hn => ?_)
      obtain ⟨hn, hq⟩ := hn
      refine ⟨i, rfl, h, ?_⟩
      conv => whnf
      refine ⟨fun h2 => ?_, fun h2 => ?_⟩
      · have h2 : n < (f.getD i []).length := by have := ltT h2; omega
        conv => whnf
        refine ⟨i, rfl, h, n, rfl, h2, ?_⟩
        conv => whnf
        refine ACall.use (l1In_spec _ _ _) ?_
        conv => whnf
        refine ⟨fun h3 => ?_, fun h3 => ?_⟩
        · have h3 : inR ((f.getD i []).getD n 0) (-99) 99 = false := by simpa using h3
          conv => whnf
          refine ⟨?_, rfl⟩
          rw [fnB, all_false (d := []) h (by rw [fnRow, rowIn, all_false (d := 0) h2 h3, Bool.and_false]), Bool.and_false]
        · have h3 : inR ((f.getD i []).getD n 0) (-99) 99 = true := by simpa using h3
          conv => whnf
          rw [nat_wrap (by omega)]
          exact ⟨n + 1, none, (by refine ⟨rfl, rfl, ?_, ?_⟩ <;> ((repeat' (first | exact trivial | exact rfl | refine And.intro ?_ ?_)) <;> (try ((conv => whnf); first | refine vint ?_ | refine vboo ?_ | refine rint ?_ | refine rrow ?_ | skip)) <;> (try first | omega | (simp; done) | ((repeat rw [flts_closed _ (by assumption)]); exact vws_closed _ (by assumption))))), ⟨by omega, all_take_succ (d := 0) h2 hq h3⟩, by omega⟩
      · have h2 : ¬ n < (f.getD i []).length := by have := ltF h2; omega
        have hrow : rowIn (f.getD i []) (-99) 99 = true := all_end h2 hq
        conv => whnf
        refine ⟨i, rfl, h, ?_⟩
        conv => whnf
        refine ⟨fun h3 => ?_, fun h3 => ?_⟩
        · have h3 : ¬ (f.getD i []).length = 4 := by
            intro e; rw [e] at h3; exact absurd h3 (by decide)
          conv => whnf
          refine ⟨?_, rfl⟩
          rw [fnB, all_false (d := []) h (by rw [fnRow, decide_eq_false h3, Bool.false_and]), Bool.and_false]
        · have h3 : (f.getD i []).length = 4 := by
            have : ((f.getD i []).length : Int) = 4 := by simpa using h3
            omega
          conv => whnf
          rw [nat_wrap (by omega)]
          exact ⟨i + 1, none, (by refine ⟨rfl, rfl, ?_, ?_⟩ <;> ((repeat' (first | exact trivial | exact rfl | refine And.intro ?_ ?_)) <;> (try ((conv => whnf); first | refine vint ?_ | refine vboo ?_ | refine rint ?_ | refine rrow ?_ | skip)) <;> (try first | omega | (simp; done) | ((repeat rw [flts_closed _ (by assumption)]); exact vws_closed _ (by assumption))))), ⟨by omega, all_take_succ (d := []) h hp (by rw [fnRow, hrow, decide_eq_true h3]; rfl)⟩, by omega⟩
    · have h : ¬ i < f.length := by have := ltF h; omega
      conv => whnf
      refine ⟨?_, rfl⟩
      rw [fnB, decide_eq_true h0, all_end h hp]; rfl

theorem isFunctional_spec (f : List (List Int)) (kf : SzM f) : FSpec Tryz.prog 38 [.c (.int .i64 (2)), .c (.int .i64 (2)), .t (.rows f)] (ex (.c (.bool (fnB f))) []) := by
  obtain ⟨k1, k2, k3⟩ := kf.all
  refine fspec tyOk mx Tryz.func38 rfl (by kernel_rfl) rfl ?_
  conv => whnf
  refine aloopI tyOk mx (fun i : Nat => (⟨35, [(0, .c (.int .i64 (2))), (1, .c (.int .i64 (2))), (2, .t (.rows f)), (9, .t (.rows f)), (10, .c (.int .i64 (f.length))), (11, .c (.int .i64 (i)))], [], 0⟩ : St)) (fun i => i ≤ f.length ∧ (f.take i).all fnRow = true) (fun i => f.length - i) 0 ⟨Nat.zero_le _, rfl⟩ none (by refine ⟨rfl, rfl, ?_, ?_⟩ <;> ((repeat' (first | exact trivial | exact rfl | refine And.intro ?_ ?_)) <;> (try ((conv => whnf); first | refine vint ?_ | refine vboo ?_ | refine rint ?_ | refine rrow ?_ | skip)) <;> (try first | omega | (simp; done) | ((repeat rw [flts_closed _ (by assumption)]); exact vws_closed _ (by assumption))))) (fun i hi => ?_)
  obtain ⟨hi, hp⟩ := hi
  refine ⟨fun h => ?_, fun h => ?_⟩
  · have h : i < f.length := by have := ltT h; omega
    have hri := k2 _ (getD_mem (d := []) h)
    conv => whnf
    refine ⟨i, rfl, h, ?_⟩
    conv => whnf
    refine ⟨fun h3 => ?_, fun h3 => ?_⟩
    · have h3 : (f.getD i []).length = 4 := by
        have : ((f.getD i []).length : Int) = 4 := by simpa using h3
        omega
      conv => whnf
      refine ACall.use (allWithin_spec (f.getD i []) _ _ (by omega)) ?_
      conv => whnf
      refine ⟨fun h4 => ?_, fun h4 => ?_⟩
      · have h4 : rowIn (f.getD i []) (-99) 99 = false := by simpa using h4
        conv => whnf
        refine ⟨?_, rfl⟩
        rw [fnB, all_false (d := []) h (by rw [fnRow, h4, Bool.and_false]), Bool.and_false]
      · have h4 : rowIn (f.getD i []) (-99) 99 = true := by simpa using h4
        conv => whnf
        rw [nat_wrap (by omega)]
        exact ⟨i + 1, none, (by refine ⟨rfl, rfl, ?_, ?_⟩ <;> ((repeat' (first | exact trivial | exact rfl | refine And.intro ?_ ?_)) <;> (try ((conv => whnf); first | refine vint ?_ | refine vboo ?_ | refine rint ?_ | refine rrow ?_ | skip)) <;> (try first | omega | (simp; done) | ((repeat rw [flts_closed _ (by assumption)]); exact vws_closed _ (by assumption))))), ⟨by omega, all_take_succ (d := []) h hp (by rw [fnRow, h4, decide_eq_true h3]; rfl)⟩, by omega⟩
    · have h3 : ¬ (f.getD i []).length = 4 := by
        intro e; rw [e] at h3; exact absurd h3 (by decide)
      conv => whnf
      (repeat (conv => whnf); (first | refine ⟨fun h => absurd h (by decide), fun _ => ?_⟩ | refine ⟨fun _ => ?_, fun h => absurd h (by decide)⟩)); conv => whnf
      refine ⟨?_, rfl⟩
      rw [fnB, all_false (d := []) h (by rw [fnRow, decide_eq_false h3, Bool.false_and]), Bool.and_false]
  · have h : ¬ i < f.length := by have := ltF h; omega
    have hall := all_end h hp
    conv => whnf
    refine ACall.use (areQuestions_spec 2 2) ?_
    conv => whnf
    first | refine ⟨fun h => absurd h (by decide), fun _ => ?_⟩ | refine ⟨fun _ => ?_, fun h => absurd h (by decide)⟩
    conv => whnf
    refine ⟨?_, rfl⟩
    rw [fnB, hall, Bool.and_true]
    congr 1
    rw [show IntKind.i64.wrap (2 * 2) = 4 from rfl]
    by_cases e : f.length = 4
    · rw [e]; rfl
    · rw [decide_eq_false e]
      have : ¬ (f.length : Int) = 4 := by omega
      simp [this]
end Go.Proofs.YtkjdplglenjijaaGreat
/- WorthRange, reference and program. -/
namespace Go.Proofs.YtkjdplglenjijaaGreat
open Go.Aw
set_option maxRecDepth 100000
set_option maxHeartbeats 4000000

def exW (f : List (List Int)) (i : Nat) : Int := worthF f (exRow i)
def wLo (f : List (List Int)) : Nat → Int
  | 0 => exW f 0
  | i + 1 => min (wLo f i) (exW f i)
def wHi (f : List (List Int)) : Nat → Int
  | 0 => exW f 0
  | i + 1 => max (wHi f i) (exW f i)
theorem wLo_one (f : List (List Int)) : wLo f 1 = exW f 0 := by simp [wLo]
theorem wHi_one (f : List (List Int)) : wHi f 1 = exW f 0 := by simp [wHi]
theorem exW_spec (f : List (List Int)) (hf : f.length = 4) (h4 : ∀ r, r ∈ f → r.length = 4) (i : Nat) (x y z : Int) : FSpec Tryz.prog 42 [.t (.rows f), .ag [.c (.int .i64 (x)), .c (.int .i64 (y)), .c (.int .i64 (z)), .t (.rows (exRow i))]] (ex (.c (.int .i64 (exW f i))) []) :=
  l2Worth_spec f (exRow i) x y z (by rw [exRow_len, hf]) (by rw [exRow_len]; omega) h4 (exRow_rows i)
theorem exWi_spec (f : List (List Int)) (hf : f.length = 4) (h4 : ∀ r, r ∈ f → r.length = 4) (i : Nat) : FSpec Tryz.prog 39 [.t (.rows f), .t (.rows (exRow i))] (ex (.c (.int .i64 (exW f i))) []) :=
  worth_spec f (exRow i) (by rw [exRow_len, hf]) (by rw [exRow_len]; omega) h4 (exRow_rows i)

def wrLo (f : List (List Int)) : Int := if fnB f then wLo f 24 else 0
def wrHi (f : List (List Int)) : Int := if fnB f then wHi f 24 else 0


end Go.Proofs.YtkjdplglenjijaaGreat
/- IsExtreme, reference and program. -/
namespace Go.Aw
def alkN (z z' : Int) (m m' : List (List Int)) (i n : Nat) : Bool := decide (W ((m.getD i []).getD n 0 * z') = W ((m'.getD i []).getD n 0 * z))
def alkB (z z' : Int) (m m' : List (List Int)) : Bool := (List.range m.length).all fun i => (List.range 4).all (alkN z z' m m' i)
end Go.Aw
namespace Go.Proofs.YtkjdplglenjijaaGreat
open Go.Aw
set_option maxRecDepth 100000
set_option maxHeartbeats 4000000



def alkE (z : Int) (m : List (List Int)) (i : Nat) : Bool := alkB z 2 m (exRow i)
def ixIs (x y z : Int) (m : List (List Int)) : Bool := qpB x y z m && !((List.range 24).all fun i => !alkE z m i)
theorem ix_yes {x y z : Int} {m : List (List Int)} {i : Nat} (h : qpB x y z m = true) (hi : i < 24) (h2 : alkE z m i = true) : ixIs x y z m = true := by
  rw [ixIs, h, rall_false hi (by rw [h2]; rfl)]; rfl
theorem ix_no {x y z : Int} {m : List (List Int)} (h2 : (List.range 24).all (fun i => !alkE z m i) = true) : ixIs x y z m = false := by
  rw [ixIs, h2]; simp


end Go.Proofs.YtkjdplglenjijaaGreat
/- Boxes that are alike: the program. -/
namespace Go.Proofs.YtkjdplglenjijaaGreat
open Go.Aw
set_option maxRecDepth 100000
set_option maxHeartbeats 4000000

def sqB (x y z : Int) (m : List (List Int)) (x' y' z' : Int) (m' : List (List Int)) : Bool := goodB x y z m && (goodB x' y' z' m' && (decide (x = x') && decide (y = y')))
theorem sqB_spec {x y z x' y' z' : Int} {m m' : List (List Int)} (h : sqB x y z m x' y' z' m' = true) : goodB x y z m = true ∧ goodB x' y' z' m' = true ∧ x = x' ∧ y = y' := by
  simp only [sqB, Bool.and_eq_true, decide_eq_true_eq] at h
  exact ⟨h.1, h.2.1, h.2.2.1, h.2.2.2⟩
/-- what AreAlike answers -/
def aaV (x y z : Int) (m : List (List Int)) (x' y' z' : Int) (m' : List (List Int)) : Bool := sqB x y z m x' y' z' m' && alkB z z' m m'
end Go.Proofs.YtkjdplglenjijaaGreat
/- Boxes of any sizes that are mixed: reference and program. -/
namespace Go.Aw
/-- a table of four columns -/
def gridR (G : Nat → Nat → Int) (p : Nat) : List Int := (List.range 4).map (G p)
def grid (n : Nat) (G : Nat → Nat → Int) : List (List Int) := (List.range n).map (gridR G)
theorem grid_len (n : Nat) (G : Nat → Nat → Int) : (grid n G).length = n := by simp [grid]
theorem grid_rows {n : Nat} {G : Nat → Nat → Int} : ∀ r, r ∈ grid n G → r.length = 4 := fun r hr => by
  obtain ⟨p, _, rfl⟩ := List.mem_map.1 hr
  simp [gridR]
theorem grid_get {n : Nat} {G : Nat → Nat → Int} {p q : Nat} (hp : p < n) (hq : q < 4) : ((grid n G).getD p []).getD q 0 = G p q := by
  rw [grid, range_getD hp, gridR, range_getD hq]
theorem grid_row {n : Nat} {G : Nat → Nat → Int} {p : Nat} (hp : p < n) : (grid n G).getD p [] = [G p 0, G p 1, G p 2, G p 3] := by
  rw [grid, range_getD hp]; rfl
theorem grid_congr {n : Nat} {F G : Nat → Nat → Int} (h : ∀ p q, p < n → q < 4 → F p q = G p q) : grid n F = grid n G :=
  List.map_congr_left fun p hp => List.map_congr_left fun q hq => h p q (List.mem_range.1 hp) (List.mem_range.1 hq)
theorem grid_eta {m : List (List Int)} (hr : ∀ r, r ∈ m → r.length = 4) : grid m.length (fun p q => (m.getD p []).getD q 0) = m := by
  refine List.ext_getElem (by rw [grid_len]) (fun p h1 h2 => ?_)
  have hp : p < m.length := h2
  have e1 : (grid m.length (fun p q => (m.getD p []).getD q 0))[p] = (grid m.length (fun p q => (m.getD p []).getD q 0)).getD p [] := by rw [List.getD_eq_getElem?_getD, List.getElem?_eq_getElem h1]; rfl
  have e2 : m.getD p [] = m[p] := by rw [List.getD_eq_getElem?_getD, List.getElem?_eq_getElem hp]; rfl
  rw [e1, grid_row hp, e2]
  match m[p], hr _ (List.getElem_mem hp) with
  | [a, b, c, d], _ => rfl
/-- rows by questions and answers -/
theorem box_grid (nx ny : Nat) (G : Nat → Nat → Int) : boxRows (fun x y a b => G (x * ny + y) (2 * a + b)) nx ny = grid (nx * ny) G := by
  have row : ∀ x y, boxRow (fun x y a b => G (x * ny + y) (2 * a + b)) x y = gridR G (x * ny + y) := fun x y => rfl
  induction nx with
  | zero => simp [boxRows, grid]
  | succ n ih =>
    have e : boxRows (fun x y a b => G (x * ny + y) (2 * a + b)) (n + 1) ny = boxRows (fun x y a b => G (x * ny + y) (2 * a + b)) n ny ++ (List.range ny).map (boxRow (fun x y a b => G (x * ny + y) (2 * a + b)) n) := by
      simp [boxRows, List.range_succ]
    rw [e, ih, Nat.succ_mul]
    unfold grid
    rw [List.range_add, List.map_append, List.map_map]
    rfl
def mxN (m m' : List (List Int)) (p q : Nat) : Int := W ((m.getD p []).getD q 0 + (m'.getD p []).getD q 0)
end Go.Aw
namespace Go.Proofs.YtkjdplglenjijaaGreat
open Go.Aw
set_option maxRecDepth 100000
set_option maxHeartbeats 4000000

theorem grid_sz {n : Nat} (h : n ≤ 9) (G : Nat → Nat → Int) : SzM (grid n G) := by
  have k1 := tot_le_mul (m := grid n G) (n := 4) (fun r hr => by rw [grid_rows r hr]; omega)
  rw [grid_len] at k1
  have : n * 4 ≤ 9 * 4 := Nat.mul_le_mul_right 4 h
  unfold SzM; rw [grid_len]; omega
theorem l2MixG_spec (x y z z' : Int) (m m' : List (List Int)) (N : Nat) (hN : N ≤ 1000) (hm : m.length = N) (h4 : ∀ r, r ∈ m → r.length = 4) (hm' : m'.length = N) (h4' : ∀ r, r ∈ m' → r.length = 4) (x' y' : Int) :
    FSpec Tryz.prog 95 [.ag [.c (.int .i64 (x)), .c (.int .i64 (y)), .c (.int .i64 (z)), .t (.rows m)], .ag [.c (.int .i64 (x')), .c (.int .i64 (y')), .c (.int .i64 (z')), .t (.rows m')]] (ex (.ag [.c (.int .i64 (x)), .c (.int .i64 (y)), .c (.int .i64 (W (z + z'))), .own 0]) [(0, .rows 38 3 true (grid N (mxN m m')))]) := by
  refine fspec tyOk mx Tryz.func95 rfl (by kernel_rfl) rfl ?_
  conv => whnf
  refine aloopI tyOk mx (fun i : Nat => (⟨59, [(2, .ptr 0 0), (3, .ptr 1 0), (4, .ptr 2 0), (5, .ptr 4 0), (6, .c (.int .i64 (i)))], [(0, .cells 26 [.c (.int .i64 (x)), .c (.int .i64 (y)), .c (.int .i64 (z)), .t (.rows m)]), (1, .cells 26 [.c (.int .i64 (x')), .c (.int .i64 (y')), .c (.int .i64 (z')), .t (.rows m')]), (2, .cells 26 [.c (.int .i64 (0)), .c (.int .i64 (0)), .c (.int .i64 (0)), .c (.slice none 0 0)]), (3, .rows 38 3 true ((List.range i).map (gridR (mxN m m')))), (4, .cells 26 [.c (.int .i64 (x)), .c (.int .i64 (y)), .c (.int .i64 (W (z + z'))), .own 3])], 5⟩ : St)) (fun i => i ≤ N) (fun i => N - i) 0 (Nat.zero_le _) none (by refine ⟨rfl, rfl, ?_, ?_⟩ <;> ((repeat' (first | exact trivial | exact rfl | refine And.intro ?_ ?_)) <;> (try ((conv => whnf); first | refine vint ?_ | refine vboo ?_ | refine rint ?_ | refine rrow ?_ | skip)) <;> (try first | omega | (simp; done) | ((repeat rw [flts_closed _ (by assumption)]); exact vws_closed _ (by assumption))))) (fun i hi => ?_)
  refine ⟨fun h => ?_, fun h => ?_⟩
  · have h : i < N := by have := ltT h; omega
    have r1 := h4 _ (getD_mem (d := []) (k := i) (by omega))
    have r2 := h4' _ (getD_mem (d := []) (k := i) (by omega))
    conv => whnf
    refine aloopI tyOk mx (fun n : Nat => (⟨59, [(2, .ptr 0 0), (3, .ptr 1 0), (4, .ptr 2 0), (5, .ptr 4 0), (6, .c (.int .i64 (i))), (7, .own 5), (8, .c (.int .i64 (n)))], [(0, .cells 26 [.c (.int .i64 (x)), .c (.int .i64 (y)), .c (.int .i64 (z)), .t (.rows m)]), (1, .cells 26 [.c (.int .i64 (x')), .c (.int .i64 (y')), .c (.int .i64 (z')), .t (.rows m')]), (2, .cells 26 [.c (.int .i64 (0)), .c (.int .i64 (0)), .c (.int .i64 (0)), .c (.slice none 0 0)]), (3, .rows 38 3 true ((List.range i).map (gridR (mxN m m')))), (4, .cells 26 [.c (.int .i64 (x)), .c (.int .i64 (y)), .c (.int .i64 (W (z + z'))), .own 3]), (5, .ints 3 .i64 ((List.range n).map (mxN m m' i)))], 6⟩ : St)) (fun n => n ≤ 4) (fun n => 4 - n) 0 (Nat.zero_le _) none (by refine ⟨rfl, rfl, ?_, ?_⟩ <;> ((repeat' (first | exact trivial | exact rfl | refine And.intro ?_ ?_)) <;> (try ((conv => whnf); first | refine vint ?_ | refine vboo ?_ | refine rint ?_ | refine rrow ?_ | skip)) <;> (try first | omega | (simp; done) | ((repeat rw [flts_closed _ (by assumption)]); exact vws_closed _ (by assumption))))) (fun n hn => ?_)
    refine ⟨fun h5 => ?_, fun h5 => ?_⟩
    · have h5 : n < 4 := by have := of_decide_eq_true h5; omega
      refine ADraw.plan tyOk mx (.q 0 (.q 1 (.q 2 (.q 3 (.q 4 (.q 5 (.q 6 (.q 7 (.q 8 (.q 9 (.q 10 (.q 11 (.q 12 (.q 13 (.q 14 (.q 15 (.q 16 (.q 17 (.last 18 (.last 19 (.q 20 (.done))))))))))))))))))))) : Plan) (by kernel_rfl) ?_
      conv => whnf
      refine ⟨i, rfl, by omega, n, rfl, by omega, i, rfl, by omega, n, rfl, by omega, ?_⟩
      conv => whnf
      refine ⟨by simp [room]; omega, ?_⟩
      conv => whnf
      rw [nat_wrap (by omega)]
      refine ⟨n + 1, none, ?_, by omega, by omega⟩
      (refine ⟨rfl, rfl, ?_, ?_⟩ <;> ((repeat' (first | exact trivial | exact rfl | refine And.intro ?_ ?_)) <;> (try ((conv => whnf); first | refine vint ?_ | refine vboo ?_ | refine rint ?_ | refine rrow ?_ | skip)) <;> (try first | omega | (simp; done) | ((repeat rw [flts_closed _ (by assumption)]); exact vws_closed _ (by assumption)))))
      rw [← map_range_succ]; rfl
    · have h5 : ¬ n < 4 := by have := of_decide_eq_false h5; omega
      obtain rfl : n = 4 := by omega
      conv => whnf
      refine ⟨by simp [room]; omega, ?_⟩
      conv => whnf
      rw [nat_wrap (by omega)]
      refine ⟨i + 1, none, ?_, by omega, by omega⟩
      (refine ⟨rfl, rfl, ?_, ?_⟩ <;> ((repeat' (first | exact trivial | exact rfl | refine And.intro ?_ ?_)) <;> (try ((conv => whnf); first | refine vint ?_ | refine vboo ?_ | refine rint ?_ | refine rrow ?_ | skip)) <;> (try first | omega | (simp; done) | ((repeat rw [flts_closed _ (by assumption)]); exact vws_closed _ (by assumption)))))
      exact map_range_succ (gridR (mxN m m')) i
  · have h : ¬ i < N := by have := ltF h; omega
    obtain rfl : i = N := by omega
    conv => whnf
    exact ⟨rfl, rfl⟩
/-- four numbers of at least 0 with a sum -/
theorem row4g {r : List Int} {z : Int} (h : rowOk z r = true) (hz : z ≤ 1000) : ∃ a b c d : Int, r = [a, b, c, d] ∧ 0 ≤ a ∧ 0 ≤ b ∧ 0 ≤ c ∧ 0 ≤ d ∧ a + b + c + d = z := by
  simp only [rowOk, Bool.and_eq_true, decide_eq_true_eq] at h
  obtain ⟨⟨h1, h2⟩, h3⟩ := h
  exact row4 hz h1 (fun v hv => rowIn_iff.1 h2 v hv) h3
/-- the mixture of good boxes is good, where it is not too great -/
theorem mx_good {x y z z' : Int} {m m' : List (List Int)} (h : goodB x y z m = true) (h' : goodB x y z' m' = true) (hz : z + z' ≤ 1000) : goodB x y (z + z') (grid m.length (mxN m m')) = true := by
  have h0 := h; have h0' := h'
  simp only [goodB, Bool.and_eq_true, decide_eq_true_eq, List.all_eq_true] at h h'
  obtain ⟨⟨⟨h1, h2⟩, h3⟩, h4⟩ := h
  obtain ⟨⟨⟨h1', h2'⟩, h3'⟩, h4'⟩ := h'
  have z1 := inR_iff.1 h2; have z2 := inR_iff.1 h2'
  simp only [goodB, Bool.and_eq_true, decide_eq_true_eq, List.all_eq_true]
  refine ⟨⟨⟨h1, inR_iff.2 (by omega)⟩, by rw [grid_len]; exact h3⟩, fun r hr => ?_⟩
  obtain ⟨p, hp, rfl⟩ := List.mem_map.1 hr
  have hp := List.mem_range.1 hp
  have hp' : p < m'.length := by omega
  obtain ⟨a, b, c, d, e, ha, hb, hc, hd, hs⟩ := row4g (h4 _ (getD_mem (d := []) hp)) z1.2
  obtain ⟨a', b', c', d', e', ha', hb', hc', hd', hs'⟩ := row4g (h4' _ (getD_mem (d := []) hp')) z2.2
  have eR : gridR (mxN m m') p = [W (a + a'), W (b + b'), W (c + c'), W (d + d')] := by
    show [mxN m m' p 0, mxN m m' p 1, mxN m m' p 2, mxN m m' p 3] = _
    unfold mxN
    rw [e, e']; rfl
  rw [eR, wS (n := a + a') (by omega) (by omega), wS (n := b + b') (by omega) (by omega), wS (n := c + c') (by omega) (by omega), wS (n := d + d') (by omega) (by omega)]
  exact rowOk_mk (by omega) (by omega) (by omega) (by omega) (by omega) hz

def mbOk (x y z : Int) (m : List (List Int)) (x' y' z' : Int) (m' : List (List Int)) : Bool := sqB x y z m x' y' z' m' && decide (z + z' ≤ 1000)
def mbR (x y z : Int) (m : List (List Int)) (x' y' z' : Int) (m' : List (List Int)) : List (List Int) := if mbOk x y z m x' y' z' m' then grid m.length (mxN m m') else []
end Go.Proofs.YtkjdplglenjijaaGreat
/- Boxes of any sizes, scaled: reference and program. -/
namespace Go.Aw
def scN (k : Int) (m : List (List Int)) (p q : Nat) : Int := W (k * (m.getD p []).getD q 0)
theorem timesG_get {M : List (List Int)} (hr : ∀ r, r ∈ M → r.length = 4) (k d : Int) {p q : Nat} (hp : p < M.length) (hq : q < 4) : ((timesL M k d).getD p []).getD q 0 = W (Int.tdiv (W ((M.getD p []).getD q 0 * k)) d) := by
  have hm : M.getD p [] ∈ M := by rw [List.getD_eq_getElem?_getD, List.getElem?_eq_getElem (by omega)]; exact List.getElem_mem _
  rw [timesL, map_getD (d := []) (by omega), timesR, map_getD (d := 0) (by rw [hr _ hm]; omega)]
theorem timesG {M : List (List Int)} (hr : ∀ r, r ∈ M → r.length = 4) (k d : Int) : timesL M k d = grid M.length (fun p q => W (Int.tdiv (W ((M.getD p []).getD q 0 * k)) d)) := by
  rw [← grid_eta (m := timesL M k d) (fun r hc => by
    obtain ⟨c, hc', rfl⟩ := List.mem_map.1 hc
    rw [timesR, List.length_map]; exact hr c hc'), timesL_len]
  exact grid_congr fun p q hp hq => timesG_get hr k d hp hq
theorem times_sc {M : List (List Int)} (hr : ∀ r, r ∈ M → r.length = 4) (k : Int) : timesL M k 1 = grid M.length (scN k M) := by
  rw [timesG hr]
  exact grid_congr fun p q _ _ => by rw [tdiv_one, WW, Int.mul_comm]; rfl
end Go.Aw
namespace Go.Proofs.YtkjdplglenjijaaGreat
open Go.Aw
set_option maxRecDepth 100000
set_option maxHeartbeats 4000000
def skOk (x y z : Int) (m : List (List Int)) (k : Int) : Bool := goodB x y z m && inR k 1 1000 && decide (k * z ≤ 1000)
def skR (x y z : Int) (m : List (List Int)) (k : Int) : List (List Int) := if skOk x y z m k then grid m.length (scN k m) else []
/-- a scaled good box is good, where it is not too great -/
theorem sc_good {x y z k : Int} {m : List (List Int)} (h : goodB x y z m = true) (hk : 1 ≤ k) (hz : k * z ≤ 1000) : goodB x y (k * z) (grid m.length (scN k m)) = true := by
  have h0 := h
  simp only [goodB, Bool.and_eq_true, decide_eq_true_eq, List.all_eq_true] at h
  obtain ⟨⟨⟨h1, h2⟩, h3⟩, h4⟩ := h
  have z1 := inR_iff.1 h2
  have k1 : z ≤ k * z := by
    have := Int.mul_le_mul_of_nonneg_right (a := 1) (b := k) (c := z) hk (by omega)
    omega
  simp only [goodB, Bool.and_eq_true, decide_eq_true_eq, List.all_eq_true]
  refine ⟨⟨⟨h1, inR_iff.2 (by omega)⟩, by rw [grid_len]; exact h3⟩, fun r hr => ?_⟩
  obtain ⟨p, hp, rfl⟩ := List.mem_map.1 hr
  have hp := List.mem_range.1 hp
  obtain ⟨a, b, c, d, e, ha, hb, hc, hd, hs⟩ := row4g (h4 _ (getD_mem (d := []) hp)) z1.2
  have eR : gridR (scN k m) p = [W (k * a), W (k * b), W (k * c), W (k * d)] := by
    show [scN k m p 0, scN k m p 1, scN k m p 2, scN k m p 3] = _
    unfold scN
    rw [e]; rfl
  have qa := Int.mul_nonneg (a := k) (by omega) ha
  have qb := Int.mul_nonneg (a := k) (by omega) hb
  have qc := Int.mul_nonneg (a := k) (by omega) hc
  have qd := Int.mul_nonneg (a := k) (by omega) hd
  have qs : k * a + k * b + k * c + k * d = k * z := by rw [← hs]; simp only [Int.mul_add]
  rw [eR, wS (n := k * a) (by omega) (by omega), wS (n := k * b) (by omega) (by omega), wS (n := k * c) (by omega) (by omega), wS (n := k * d) (by omega) (by omega)]
  exact rowOk_mk (by omega) (by omega) (by omega) (by omega) (by omega) hz
theorem sc_bd {k z : Int} (h1 : 1 ≤ k) (h2 : k ≤ 1000) (h3 : 1 ≤ z) (h4 : z ≤ 1000) : 1 ≤ k * z ∧ k * z ≤ 1000000 := by
  have a := Int.mul_le_mul h2 h4 (by omega) (by omega : (0 : Int) ≤ 1000)
  have b := Int.mul_le_mul h1 h3 (by omega) (by omega : (0 : Int) ≤ k)
  omega
end Go.Proofs.YtkjdplglenjijaaGreat
/- Games as arguments: sizes, copies, comparing, marks. -/
namespace Go.Proofs.YtkjdplglenjijaaGreat
open Go.Aw
set_option maxRecDepth 100000

def szGameF (s : List Int) (m : List (List Int)) (left : Int) : Int := if szS s left < 0 then -1 else if szSS m (szS s left) < 0 then -1 else szSS m (szS s left)
theorem szGame_tot {m : List (List Int)} {s : List Int} {left : Int} (h : 0 ≤ szGameF s m left) : 0 ≤ szGameF s m left ∧ szGameF s m left = left - s.length - m.length - tot m := by
  refine ⟨h, ?_⟩
  unfold szGameF at h ⊢
  split at h
  · omega
  · rename_i hn
    rw [if_neg hn]
    split at h
    · omega
    · rename_i hn2
      rw [if_neg hn2, (szSS_tot (Int.not_lt.1 hn2)).2]
      have : szS s left = left - s.length := by
        unfold szS at hn ⊢
        split at hn
        · omega
        · rename_i h4; rw [if_neg h4]
      omega


end Go.Proofs.YtkjdplglenjijaaGreat
/- Which games are valid: reference and program. -/
namespace Go.Proofs.YtkjdplglenjijaaGreat
open Go.Aw
set_option maxRecDepth 100000
set_option maxHeartbeats 4000000

def winOk (r : List Int) : Bool := decide (r.length = 4) && rowIn r 0 1
def goodG (x y : Int) (s : List Int) (m : List (List Int)) : Bool :=
  szOk x y && decide ((s.length : Int) = x * y) && decide ((m.length : Int) = x * y) && rowIn s 0 99 && decide (0 < sumF s s.length) && m.all winOk

theorem goodG_spec {x y : Int} {s : List Int} {m : List (List Int)} (h : goodG x y s m = true) : ∃ a b : Nat, x = a ∧ y = b ∧ 1 ≤ a ∧ a ≤ 3 ∧ 1 ≤ b ∧ b ≤ 3 ∧ s.length = a * b ∧ m.length = a * b ∧ a * b ≤ 9 ∧
    (∀ v, v ∈ s → 0 ≤ v ∧ v ≤ 99) ∧ 0 < sumF s s.length ∧ (∀ r, r ∈ m → r.length = 4 ∧ ∀ v, v ∈ r → 0 ≤ v ∧ v ≤ 1) := by
  simp only [goodG, Bool.and_eq_true, decide_eq_true_eq, List.all_eq_true, winOk, rowIn_iff] at h
  obtain ⟨⟨⟨⟨⟨h1, h2⟩, h3⟩, h4⟩, h5⟩, h6⟩ := h
  obtain ⟨a, b, rfl, rfl, g1, g2, g3, g4, g5, g6⟩ := szOk_nat h1
  rw [g5] at h2 h3
  exact ⟨a, b, rfl, rfl, g1, g2, g3, g4, by omega, by omega, g6, h4, h5, h6⟩


end Go.Proofs.YtkjdplglenjijaaGreat
/- Scores of plays: reference and program. -/
namespace Go.Aw
def bitIx (p : List Int) (n i k : Nat) : Nat := (2 * p.getD i 0 + p.getD (n + k) 0).toNat
theorem bits_mem {p : List Int} (h : ∀ v, v ∈ p → 0 ≤ v ∧ v ≤ 1) {i : Nat} : 0 ≤ p.getD i 0 ∧ p.getD i 0 ≤ 1 := by
  by_cases hi : i < p.length
  · exact h _ (by rw [List.getD_eq_getElem?_getD, List.getElem?_eq_getElem hi]; exact List.getElem_mem _)
  · rw [List.getD_eq_getElem?_getD, List.getElem?_eq_none (by omega)]; simp
theorem bitIx_eq {p : List Int} (h : ∀ v, v ∈ p → 0 ≤ v ∧ v ≤ 1) (n i k : Nat) : IntKind.i64.wrap (IntKind.i64.wrap (2 * p.getD i 0) + p.getD (n + k) 0) = ((bitIx p n i k : Nat) : Int) ∧ bitIx p n i k < 4 := by
  have h1 := bits_mem h (i := i)
  have h2 := bits_mem h (i := n + k)
  unfold bitIx
  rw [w64 (n := 2 * p.getD i 0) (by omega) (by omega), w64 (by omega) (by omega)]
  omega
def wonAt (s : List Int) (m : List (List Int)) (p : List Int) (nx ny i k : Nat) : Int := W (s.getD (i * ny + k) 0 * (m.getD (i * ny + k) []).getD (bitIx p nx i k) 0)
def scoreRow (s : List Int) (m : List (List Int)) (p : List Int) (nx ny i : Nat) (a : Int) (n : Nat) : Int := fo (fun a k => W (a + wonAt s m p nx ny i k)) a n
def scoreTo (s : List Int) (m : List (List Int)) (p : List Int) (nx ny n : Nat) : Int := fo (fun a i => scoreRow s m p nx ny i a ny) 0 n
def pwRow (f : List (List Int)) (p : List Int) (nx ny i : Nat) (a : Int) (n : Nat) : Int := fo (fun a k => W (a + (f.getD (i * ny + k) []).getD (bitIx p nx i k) 0)) a n
def pwTo (f : List (List Int)) (p : List Int) (nx ny n : Nat) : Int := fo (fun a i => pwRow f p nx ny i a ny) 0 n
def fnGRow (s : List Int) (m : List (List Int)) (i : Nat) : List Int := (m.getD i []).map (fun w => W (w * s.getD i 0))
def funG (s : List Int) (m : List (List Int)) : List (List Int) := (List.range m.length).map (fnGRow s m)
theorem pw_score (s : List Int) (m : List (List Int)) (p : List Int) (nx ny : Nat) (hp : ∀ v, v ∈ p → 0 ≤ v ∧ v ≤ 1) (hm : m.length = nx * ny) (h4 : ∀ r, r ∈ m → r.length = 4) :
    pwTo (funG s m) p nx ny nx = scoreTo s m p nx ny nx := by
  refine fo_congr fun a i hi => fo_congr fun b k hk => ?_
  have hlt := ix_lt hi hk
  have hb := (bitIx_eq hp nx i k).2
  have hrow : (m.getD (i * ny + k) []).length = 4 := h4 _ (by rw [List.getD_eq_getElem?_getD, List.getElem?_eq_getElem (by omega)]; exact List.getElem_mem _)
  rw [funG, range_getD (by omega), fnGRow, map_getD (d := 0) (by omega), wonAt, Int.mul_comm]
end Go.Aw
namespace Go.Proofs.YtkjdplglenjijaaGreat
open Go.Aw
set_option maxRecDepth 100000
set_option maxHeartbeats 4000000



theorem playWorth_spec (nx ny : Nat) (f : List (List Int)) (p : List Int) (hx : nx ≤ 3) (hy : ny ≤ 3) (hf : f.length = nx * ny) (h4 : ∀ r, r ∈ f → r.length = 4) (hp : ∀ v, v ∈ p → 0 ≤ v ∧ v ≤ 1) (hl : p.length = nx + ny) :
    FSpec Tryz.prog 83 [.c (.int .i64 (nx)), .c (.int .i64 (ny)), .t (.rows f), .t (.ints .i64 p)] (ex (.c (.int .i64 (pwTo f p nx ny nx))) []) := by
  have hn : nx * ny ≤ 3 * 3 := Nat.mul_le_mul hx hy
  refine fspec tyOk mx Tryz.func83 rfl (by kernel_rfl) rfl ?_
  conv => whnf
  refine aloopI tyOk mx (fun i : Nat => (⟨47, [(0, .c (.int .i64 (nx))), (1, .c (.int .i64 (ny))), (2, .t (.rows f)), (3, .t (.ints .i64 p)), (9, .c (.int .i64 (pwTo f p nx ny i))), (12, .c (.int .i64 (nx))), (13, .c (.int .i64 (i)))], [], 0⟩ : St)) (fun i => i ≤ nx) (fun i => nx - i) 0 (Nat.zero_le _) none (by refine ⟨rfl, rfl, ?_, ?_⟩ <;> ((repeat' (first | exact trivial | exact rfl | refine And.intro ?_ ?_)) <;> (try ((conv => whnf); first | refine vint ?_ | refine vboo ?_ | refine rint ?_ | refine rrow ?_ | skip)) <;> (try first | omega | (simp; done) | ((repeat rw [flts_closed _ (by assumption)]); exact vws_closed _ (by assumption))))) (fun i hi => ?_)
  refine ⟨fun h => ?_, fun h => ?_⟩
  · have h := ltT h
    conv => whnf
    refine aloopI tyOk mx (fun k : Nat => (⟨47, [(0, .c (.int .i64 (nx))), (1, .c (.int .i64 (ny))), (2, .t (.rows f)), (3, .t (.ints .i64 p)), (9, .c (.int .i64 (pwRow f p nx ny i (pwTo f p nx ny i) k))), (10, .c (.int .i64 (i))), (12, .c (.int .i64 (nx))), (13, .c (.int .i64 (i))), (16, .c (.int .i64 (ny))), (17, .c (.int .i64 (k)))], [], 0⟩ : St)) (fun k => k ≤ ny) (fun k => ny - k) 0 (Nat.zero_le _) none (by refine ⟨rfl, rfl, ?_, ?_⟩ <;> ((repeat' (first | exact trivial | exact rfl | refine And.intro ?_ ?_)) <;> (try ((conv => whnf); first | refine vint ?_ | refine vboo ?_ | refine rint ?_ | refine rrow ?_ | skip)) <;> (try first | omega | (simp; done) | ((repeat rw [flts_closed _ (by assumption)]); exact vws_closed _ (by assumption))))) (fun k hk => ?_)
    refine ⟨fun h2 => ?_, fun h2 => ?_⟩
    · have h2 := ltT h2
      have hlt := ix_lt h h2
      have hb := bitIx_eq hp nx i k
      have hrow : (f.getD (i * ny + k) []).length = 4 := h4 _ (getD_mem (by omega))
      conv => whnf
      refine ADraw.std tyOk mx ⟨by kernel_rfl, i * ny + k, natMulAdd (by omega), by omega, i, rfl, by omega, nx + k, natAdd (by omega), by omega, bitIx p nx i k, hb.1, by omega, ?_⟩
      conv => whnf
      rw [nat_wrap (by omega)]
      exact ⟨k + 1, none, (by refine ⟨rfl, rfl, ?_, ?_⟩ <;> ((repeat' (first | exact trivial | exact rfl | refine And.intro ?_ ?_)) <;> (try ((conv => whnf); first | refine vint ?_ | refine vboo ?_ | refine rint ?_ | refine rrow ?_ | skip)) <;> (try first | omega | (simp; done) | ((repeat rw [flts_closed _ (by assumption)]); exact vws_closed _ (by assumption))))), by omega, by omega⟩
    · have h2 := ltF h2
      obtain rfl : k = ny := by omega
      conv => whnf
      rw [nat_wrap (by omega)]
      exact ⟨i + 1, none, (by refine ⟨rfl, rfl, ?_, ?_⟩ <;> ((repeat' (first | exact trivial | exact rfl | refine And.intro ?_ ?_)) <;> (try ((conv => whnf); first | refine vint ?_ | refine vboo ?_ | refine rint ?_ | refine rrow ?_ | skip)) <;> (try first | omega | (simp; done) | ((repeat rw [flts_closed _ (by assumption)]); exact vws_closed _ (by assumption))))), by omega, by omega⟩
  · have h := ltF h
    obtain rfl : i = nx := by omega
    conv => whnf
    exact ⟨rfl, rfl⟩




theorem isPlay_spec (x y : Int) (p : List Int) (hl : p.length ≤ 1048576) :
    FSpec Tryz.prog 46 [.c (.int .i64 (x)), .c (.int .i64 (y)), .t (.ints .i64 p)] (ex (.c (.bool (decide ((p.length : Int) = W (x + y)) && rowIn p 0 1))) []) := by
  refine fspec tyOk mx Tryz.func46 rfl (by kernel_rfl) rfl ?_
  conv => whnf
  refine ⟨fun h => ?_, fun h => ?_⟩
  · conv => whnf
    refine ACall.use (allWithin_spec p _ _ (by omega)) ?_
    conv => whnf
    refine ⟨?_, rfl⟩
    rw [decide_eq_true (by simpa using h), Bool.true_and]
  · conv => whnf
    refine ⟨?_, rfl⟩
    rw [decide_eq_false (by simpa using h), Bool.false_and]

def isGP (x y : Int) (s : List Int) (m : List (List Int)) (p : List Int) : Bool := goodG x y s m && (decide ((p.length : Int) = W (x + y)) && rowIn p 0 1)
theorem isGP_spec {x y : Int} {s : List Int} {m : List (List Int)} {p : List Int} (h : isGP x y s m p = true) : ∃ a b : Nat, x = a ∧ y = b ∧ 1 ≤ a ∧ a ≤ 3 ∧ 1 ≤ b ∧ b ≤ 3 ∧ s.length = a * b ∧ m.length = a * b ∧ a * b ≤ 9 ∧
    (∀ v, v ∈ s → 0 ≤ v ∧ v ≤ 99) ∧ 0 < sumF s s.length ∧ (∀ r, r ∈ m → r.length = 4 ∧ ∀ v, v ∈ r → 0 ≤ v ∧ v ≤ 1) ∧ p.length = a + b ∧ (∀ v, v ∈ p → 0 ≤ v ∧ v ≤ 1) := by
  simp only [isGP, Bool.and_eq_true, decide_eq_true_eq, rowIn_iff] at h
  obtain ⟨h1, h2, h3⟩ := h
  obtain ⟨a, b, rfl, rfl, g1, g2, g3, g4, g5, g6, g7, g8, g9, g10⟩ := goodG_spec h1
  have e : W ((a : Int) + b) = ((a + b : Nat) : Int) := natAdd (by omega)
  rw [e] at h2
  exact ⟨a, b, rfl, rfl, g1, g2, g3, g4, g5, g6, g7, g8, g9, g10, by omega, h3⟩

def psF (x y : Int) (s : List Int) (m : List (List Int)) (p : List Int) : Int := if isGP x y s m p then scoreTo s m p x.toNat y.toNat x.toNat else 0

end Go.Proofs.YtkjdplglenjijaaGreat
/- The boxes of plays of any sizes: reference and program. -/
namespace Go.Aw
def pgN (play : List Int) (nx : Nat) (w : Int) (x y a b : Nat) : Int := if play.getD x 0 = a ∧ play.getD (nx + y) 0 = b then w else 0
def pgM (play : List Int) (nx ny : Nat) (w : Int) : List (List Int) := boxRows (pgN play nx w) nx ny
theorem pg_row {nx : Nat} {play : List Int} {w : Int} {i k p q : Nat} (hp : play.getD i 0 = p) (hq : play.getD (nx + k) 0 = q) (h1 : p < 2) (h2 : q < 2) : (List.replicate 4 (0 : Int)).set (2 * p + q) w = boxRow (pgN play nx w) i k := by
  unfold boxRow pgN
  rw [hp, hq]
  have h1 : p = 0 ∨ p = 1 := by omega
  have h2 : q = 0 ∨ q = 1 := by omega
  rcases h1 with rfl | rfl <;> rcases h2 with rfl | rfl <;> rfl
end Go.Aw
namespace Go.Proofs.YtkjdplglenjijaaGreat
open Go.Aw
set_option maxRecDepth 100000
set_option maxHeartbeats 4000000



theorem l2PlayBoxG_spec (nx ny : Nat) (h3 : nx ≤ 3) (h3' : ny ≤ 3) (play : List Int) (hl : play.length = nx + ny) (h01 : ∀ v, v ∈ play → 0 ≤ v ∧ v ≤ 1) (w : Int) :
    FSpec Tryz.prog 85 [.c (.int .i64 (nx)), .c (.int .i64 (ny)), .t (.ints .i64 play), .c (.int .i64 (w))] (ex (.ag [.c (.int .i64 (nx)), .c (.int .i64 (ny)), .c (.int .i64 (w)), .own 0]) [(0, .rows 38 3 true (pgM play nx ny w))]) := by
  refine fspec tyOk mx Tryz.func85 rfl (by kernel_rfl) rfl ?_
  conv => whnf
  refine aloopI tyOk mx (fun i : Nat => (⟨51, [(0, .c (.int .i64 (nx))), (1, .c (.int .i64 (ny))), (2, .t (.ints .i64 play)), (3, .c (.int .i64 (w))), (8, .ptr 0 0), (9, .ptr 2 0), (10, .c (.int .i64 (i)))], [(0, .cells 26 [.c (.int .i64 (0)), .c (.int .i64 (0)), .c (.int .i64 (0)), .c (.slice none 0 0)]), (1, .rows 38 3 true (boxTo (pgN play nx w) ny i 0)), (2, .cells 26 [.c (.int .i64 (nx)), .c (.int .i64 (ny)), .c (.int .i64 (w)), .own 1])], 3⟩ : St)) (fun i => i ≤ nx) (fun i => nx - i) 0 (Nat.zero_le _) none (by refine ⟨rfl, rfl, ?_, ?_⟩ <;> ((repeat' (first | exact trivial | exact rfl | refine And.intro ?_ ?_)) <;> (try ((conv => whnf); first | refine vint ?_ | refine vboo ?_ | refine rint ?_ | refine rrow ?_ | skip)) <;> (try first | omega | (simp; done) | ((repeat rw [flts_closed _ (by assumption)]); exact vws_closed _ (by assumption))))) (fun i hi => ?_)
  refine ⟨fun h => ?_, fun h => ?_⟩
  · have h : i < nx := by have := of_decide_eq_true h; omega
    conv => whnf
    refine aloopI tyOk mx (fun k : Nat => (⟨51, [(0, .c (.int .i64 (nx))), (1, .c (.int .i64 (ny))), (2, .t (.ints .i64 play)), (3, .c (.int .i64 (w))), (8, .ptr 0 0), (9, .ptr 2 0), (10, .c (.int .i64 (i))), (11, .c (.int .i64 (k)))], [(0, .cells 26 [.c (.int .i64 (0)), .c (.int .i64 (0)), .c (.int .i64 (0)), .c (.slice none 0 0)]), (1, .rows 38 3 true (boxTo (pgN play nx w) ny i k)), (2, .cells 26 [.c (.int .i64 (nx)), .c (.int .i64 (ny)), .c (.int .i64 (w)), .own 1])], 3⟩ : St)) (fun k => k ≤ ny) (fun k => ny - k) 0 (Nat.zero_le _) none (by refine ⟨rfl, rfl, ?_, ?_⟩ <;> ((repeat' (first | exact trivial | exact rfl | refine And.intro ?_ ?_)) <;> (try ((conv => whnf); first | refine vint ?_ | refine vboo ?_ | refine rint ?_ | refine rrow ?_ | skip)) <;> (try first | omega | (simp; done) | ((repeat rw [flts_closed _ (by assumption)]); exact vws_closed _ (by assumption))))) (fun k hk => ?_)
    have hix : i * ny ≤ 3 * 3 := Nat.mul_le_mul (by omega) h3'
    have hlen := boxTo_len (pgN play nx w) ny i k
    refine ⟨fun h2 => ?_, fun h2 => ?_⟩
    · have h2 : k < ny := by have := of_decide_eq_true h2; omega
      have hp := h01 _ (getD_mem (d := 0) (show i < play.length by omega))
      have hq := h01 _ (getD_mem (d := 0) (show nx + k < play.length by omega))
      have e : IntKind.i64.wrap ((nx : Int) + (k : Int)) = ((nx + k : Nat) : Int) := by rw [w64 (by omega) (by omega)]; omega
      have e2 : IntKind.i64.wrap (IntKind.i64.wrap (2 * play.getD i 0) + play.getD (nx + k) 0) = ((2 * (play.getD i 0).toNat + (play.getD (nx + k) 0).toNat : Nat) : Int) := by
        rw [w64 (n := 2 * play.getD i 0) (by omega) (by omega), w64 (by omega) (by omega)]; omega
      conv => whnf
      refine ⟨4, rfl, rfl, by simp [room], ?_⟩
      conv => whnf
      refine ADraw.plan tyOk mx (.q 0 (.q 1 (.q 2 (.q 3 (.q 4 (.q 5 (.q 6 (.q 7 (.q 8 (.q 9 (.q 10 (.q 11 (.q 12 (.q 13 (.q 14 (.last 15 (.done)))))))))))))))) : Plan) (by kernel_rfl) ?_
      conv => whnf
      repeat' (first | (refine ⟨i, rfl, by omega, ?_⟩; conv => whnf) | (refine ⟨nx + k, e, by omega, ?_⟩; conv => whnf) | (refine ⟨2 * (play.getD i 0).toNat + (play.getD (nx + k) 0).toNat, e2, by rw [List.length_replicate]; omega, ?_⟩; conv => whnf) | (refine ⟨by simp [room]; omega, ?_⟩; conv => whnf) | (refine And.intro ?_ ?_ <;> (conv => whnf)))
      all_goals
        rw [nat_wrap (by omega)]
        refine ⟨k + 1, none, ?_, by omega, by omega⟩
        (refine ⟨rfl, rfl, ?_, ?_⟩ <;> ((repeat' (first | exact trivial | exact rfl | refine And.intro ?_ ?_)) <;> (try ((conv => whnf); first | refine vint ?_ | refine vboo ?_ | refine rint ?_ | refine rrow ?_ | skip)) <;> (try first | omega | (simp; done) | ((repeat rw [flts_closed _ (by assumption)]); exact vws_closed _ (by assumption)))))
        rw [← boxTo_row, ← pg_row (i := i) (k := k) (p := (play.getD i 0).toNat) (q := (play.getD (nx + k) 0).toNat) (by omega) (by omega) (by omega) (by omega)]
    · have h2 : ¬ k < ny := by have := of_decide_eq_false h2; omega
      obtain rfl : k = ny := by omega
      conv => whnf
      rw [nat_wrap (by omega)]
      refine ⟨i + 1, none, ?_, by omega, by omega⟩
      (refine ⟨rfl, rfl, ?_, ?_⟩ <;> ((repeat' (first | exact trivial | exact rfl | refine And.intro ?_ ?_)) <;> (try ((conv => whnf); first | refine vint ?_ | refine vboo ?_ | refine rint ?_ | refine rrow ?_ | skip)) <;> (try first | omega | (simp; done) | ((repeat rw [flts_closed _ (by assumption)]); exact vws_closed _ (by assumption)))))
      exact boxTo_end _ _ i
  · have h : ¬ i < nx := by have := of_decide_eq_false h; omega
    obtain rfl : i = nx := by omega
    conv => whnf
    exact ⟨rfl, by rw [boxTo_all]; rfl⟩

end Go.Proofs.YtkjdplglenjijaaGreat
/- Functionals of any sizes, worths: reference and program. -/
namespace Go.Proofs.YtkjdplglenjijaaGreat
open Go.Aw
set_option maxRecDepth 100000
set_option maxHeartbeats 4000000

/-- a functional for x and y questions -/
def fnG (x y : Int) (f : List (List Int)) : Bool := szOk x y && decide ((f.length : Int) = x * y) && f.all fnRow
theorem fnG_spec {x y : Int} {f : List (List Int)} (h : fnG x y f = true) : ∃ a b : Nat, x = a ∧ y = b ∧ 1 ≤ a ∧ a ≤ 3 ∧ 1 ≤ b ∧ b ≤ 3 ∧ f.length = a * b ∧ a * b ≤ 9 ∧ (∀ r, r ∈ f → r.length = 4) ∧ ∀ r, r ∈ f → ∀ v, v ∈ r → -99 ≤ v ∧ v ≤ 99 := by
  simp only [fnG, Bool.and_eq_true, decide_eq_true_eq, List.all_eq_true, fnRow, rowIn_iff] at h
  obtain ⟨⟨h1, h2⟩, h3⟩ := h
  obtain ⟨a, b, rfl, rfl, a1, a3, b1, b3, e, hab⟩ := szOk_nat h1
  exact ⟨a, b, rfl, rfl, a1, a3, b1, b3, by omega, hab, fun r hr => (h3 r hr).1, fun r hr => (h3 r hr).2⟩
theorem isFunctionalG_spec (x y : Int) (f : List (List Int)) (kf : SzM f) : FSpec Tryz.prog 38 [.c (.int .i64 (x)), .c (.int .i64 (y)), .t (.rows f)] (ex (.c (.bool (fnG x y f))) []) := by
  obtain ⟨k1, k2, k3⟩ := kf.all
  refine fspec tyOk mx Tryz.func38 rfl (by kernel_rfl) rfl ?_
  conv => whnf
  refine aloopI tyOk mx (fun i : Nat => (⟨35, [(0, .c (.int .i64 (x))), (1, .c (.int .i64 (y))), (2, .t (.rows f)), (9, .t (.rows f)), (10, .c (.int .i64 (f.length))), (11, .c (.int .i64 (i)))], [], 0⟩ : St)) (fun i => i ≤ f.length ∧ (f.take i).all fnRow = true) (fun i => f.length - i) 0 ⟨Nat.zero_le _, rfl⟩ none (by refine ⟨rfl, rfl, ?_, ?_⟩ <;> ((repeat' (first | exact trivial | exact rfl | refine And.intro ?_ ?_)) <;> (try ((conv => whnf); first | refine vint ?_ | refine vboo ?_ | refine rint ?_ | refine rrow ?_ | skip)) <;> (try first | omega | (simp; done) | ((repeat rw [flts_closed _ (by assumption)]); exact vws_closed _ (by assumption))))) (fun i hi => ?_)
  obtain ⟨hi, hp⟩ := hi
  refine ⟨fun h => ?_, fun h => ?_⟩
  · have h : i < f.length := by have := ltT h; omega
    have hri := k2 _ (getD_mem (d := []) h)
    conv => whnf
    refine ⟨i, rfl, h, ?_⟩
    conv => whnf
    refine ⟨fun h3 => ?_, fun h3 => ?_⟩
    · have h3 : (f.getD i []).length = 4 := by
        have : ((f.getD i []).length : Int) = 4 := by simpa using h3
        omega
      conv => whnf
      refine ACall.use (allWithin_spec (f.getD i []) _ _ (by omega)) ?_
      conv => whnf
      refine ⟨fun h4 => ?_, fun h4 => ?_⟩
      · have h4 : rowIn (f.getD i []) (-99) 99 = false := by simpa using h4
        conv => whnf
        refine ⟨?_, rfl⟩
        rw [fnG, all_false (d := []) h (by rw [fnRow, h4, Bool.and_false]), Bool.and_false]
      · have h4 : rowIn (f.getD i []) (-99) 99 = true := by simpa using h4
        conv => whnf
        rw [nat_wrap (by omega)]
        exact ⟨i + 1, none, (by refine ⟨rfl, rfl, ?_, ?_⟩ <;> ((repeat' (first | exact trivial | exact rfl | refine And.intro ?_ ?_)) <;> (try ((conv => whnf); first | refine vint ?_ | refine vboo ?_ | refine rint ?_ | refine rrow ?_ | skip)) <;> (try first | omega | (simp; done) | ((repeat rw [flts_closed _ (by assumption)]); exact vws_closed _ (by assumption))))), ⟨by omega, all_take_succ (d := []) h hp (by rw [fnRow, h4, decide_eq_true h3]; rfl)⟩, by omega⟩
    · have h3 : ¬ (f.getD i []).length = 4 := by
        intro e; rw [e] at h3; exact absurd h3 (by decide)
      conv => whnf
      (repeat (conv => whnf); (first | refine ⟨fun h => absurd h (by decide), fun _ => ?_⟩ | refine ⟨fun _ => ?_, fun h => absurd h (by decide)⟩)); conv => whnf
      refine ⟨?_, rfl⟩
      rw [fnG, all_false (d := []) h (by rw [fnRow, decide_eq_false h3, Bool.false_and]), Bool.and_false]
  · have h : ¬ i < f.length := by have := ltF h; omega
    have hall := all_end h hp
    conv => whnf
    refine ACall.use (areQuestions_spec x y) ?_
    conv => whnf
    refine ⟨fun hs => ?_, fun hs => ?_⟩
    · obtain ⟨a, b, rfl, rfl, _, a3, _, b3, exy, hab⟩ := szOk_nat hs
      have ew : IntKind.i64.wrap ((a : Int) * (b : Int)) = (a : Int) * b := by rw [exy]; exact w64 (by omega) (by omega)
      conv => whnf
      rw [ew]
      refine ⟨?_, rfl⟩
      rw [fnG, hall, Bool.and_true, hs, Bool.true_and]
      by_cases e : (f.length : Int) = (a : Int) * b
      · rw [decide_eq_true e]; simp [e]
      · rw [decide_eq_false e]; simp [e]
    · conv => whnf
      refine ⟨?_, rfl⟩
      rw [fnG, hs, Bool.false_and, Bool.false_and]

def woOk (x y z : Int) (m f : List (List Int)) : Bool := goodB x y z m && fnG x y f
def woV (x y z : Int) (m f : List (List Int)) : Int := if woOk x y z m f then worthF f m else 0

theorem l2FunctionalG_spec (x y : Int) (f : List (List Int)) (kf : SzM f) : FSpec Tryz.prog 41 [.c (.int .i64 (x)), .c (.int .i64 (y)), .t (.rows f)] (ex (.c (.bool (fnG x y f))) []) := by
  obtain ⟨k1, k2, k3⟩ := kf.all
  refine fspec tyOk mx Tryz.func41 rfl (by kernel_rfl) rfl ?_
  conv => whnf
  refine ACall.use (l2Sizes_spec x y) ?_
  conv => whnf
  cases hs : szOk x y with
  | false =>
    (repeat (conv => whnf); (first | refine ⟨fun h => absurd h (by decide), fun _ => ?_⟩ | refine ⟨fun _ => ?_, fun h => absurd h (by decide)⟩)); conv => whnf
    refine ⟨?_, rfl⟩
    rw [fnG, hs, Bool.false_and, Bool.false_and]
  | true =>
  obtain ⟨a, b, ea, eb, _, a3, _, b3, exy, hab⟩ := szOk_nat hs
  have ew : IntKind.i64.wrap (x * y) = x * y := by rw [exy]; exact w64 (by omega) (by omega)
  (repeat (conv => whnf); (first | refine ⟨fun h => absurd h (by decide), fun _ => ?_⟩ | refine ⟨fun _ => ?_, fun h => absurd h (by decide)⟩)); conv => whnf
  rw [ew]
  refine ⟨fun h => ?_, fun h => ?_⟩
  · have h : ¬ (f.length : Int) = x * y := by
      intro e
      rw [e] at h
      simp at h
    conv => whnf
    refine ⟨?_, rfl⟩
    rw [fnG, decide_eq_false h, Bool.and_false, Bool.false_and]
  · have h0 : (f.length : Int) = x * y := by simpa using h
    clear h
    conv => whnf
    refine aloopI tyOk mx (fun i : Nat => (⟨51, [(2, .t (.rows f)), (7, .c (.int .i64 (i)))], [], 0⟩ : St)) (fun i => i ≤ f.length ∧ (f.take i).all fnRow = true) (fun i => f.length - i) 0 ⟨Nat.zero_le _, rfl⟩ none (by refine ⟨rfl, rfl, ?_, ?_⟩ <;> ((repeat' (first | exact trivial | exact rfl | refine And.intro ?_ ?_)) <;> (try ((conv => whnf); first | refine vint ?_ | refine vboo ?_ | refine rint ?_ | refine rrow ?_ | skip)) <;> (try first | omega | (simp; done) | ((repeat rw [flts_closed _ (by assumption)]); exact vws_closed _ (by assumption))))) (fun i hi => ?_)
    obtain ⟨hi, hp⟩ := hi
    refine ⟨fun h => ?_, fun h => ?_⟩
    · have h : i < f.length := by have := ltT h; omega
      have hri := k2 _ (getD_mem (d := []) h)
      conv => whnf
      refine aloopI tyOk mx (fun n : Nat => (⟨51, [(2, .t (.rows f)), (7, .c (.int .i64 (i))), (8, .c (.int .i64 (n)))], [], 0⟩ : St)) (fun n => n ≤ (f.getD i []).length ∧ ((f.getD i []).take n).all (fun x => inR x (-99) 99) = true) (fun n => (f.getD i []).length - n) 0 ⟨Nat.zero_le _, rfl⟩ none (by refine ⟨rfl, rfl, ?_, ?_⟩ <;> ((repeat' (first | exact trivial | exact rfl | refine And.intro ?_ ?_)) <;> (try ((conv => whnf); first | refine vint ?_ | refine vboo ?_ | refine rint ?_ | refine rrow ?_ | skip)) <;> (try first | omega | (simp; done) | ((repeat rw [flts_closed _ (by assumption)]); exact vws_closed _ (by assumption))))) (fun n hn => ?_)
      obtain ⟨hn, hq⟩ := hn
      refine ⟨i, rfl, h, ?_⟩
      conv => whnf
      refine ⟨fun h2 => ?_, fun h2 => ?_⟩
      · have h2 : n < (f.getD i []).length := by have := ltT h2; omega
        conv => whnf
        refine ⟨i, rfl, h, n, rfl, h2, ?_⟩
        conv => whnf
        refine ACall.use (l1In_spec _ _ _) ?_
        conv => whnf
        refine ⟨fun h3 => ?_, fun h3 => ?_⟩
        · have h3 : inR ((f.getD i []).getD n 0) (-99) 99 = false := by simpa using h3
          conv => whnf
          refine ⟨?_, rfl⟩
          rw [fnG, all_false (d := []) h (by rw [fnRow, rowIn, all_false (d := 0) h2 h3, Bool.and_false]), Bool.and_false]
        · have h3 : inR ((f.getD i []).getD n 0) (-99) 99 = true := by simpa using h3
          conv => whnf
          rw [nat_wrap (by omega)]
          exact ⟨n + 1, none, (by refine ⟨rfl, rfl, ?_, ?_⟩ <;> ((repeat' (first | exact trivial | exact rfl | refine And.intro ?_ ?_)) <;> (try ((conv => whnf); first | refine vint ?_ | refine vboo ?_ | refine rint ?_ | refine rrow ?_ | skip)) <;> (try first | omega | (simp; done) | ((repeat rw [flts_closed _ (by assumption)]); exact vws_closed _ (by assumption))))), ⟨by omega, all_take_succ (d := 0) h2 hq h3⟩, by omega⟩
      · have h2 : ¬ n < (f.getD i []).length := by have := ltF h2; omega
        have hrow : rowIn (f.getD i []) (-99) 99 = true := all_end h2 hq
        conv => whnf
        refine ⟨i, rfl, h, ?_⟩
        conv => whnf
        refine ⟨fun h3 => ?_, fun h3 => ?_⟩
        · have h3 : ¬ (f.getD i []).length = 4 := by
            intro e; rw [e] at h3; exact absurd h3 (by decide)
          conv => whnf
          refine ⟨?_, rfl⟩
          rw [fnG, all_false (d := []) h (by rw [fnRow, decide_eq_false h3, Bool.false_and]), Bool.and_false]
        · have h3 : (f.getD i []).length = 4 := by
            have : ((f.getD i []).length : Int) = 4 := by simpa using h3
            omega
          conv => whnf
          rw [nat_wrap (by omega)]
          exact ⟨i + 1, none, (by refine ⟨rfl, rfl, ?_, ?_⟩ <;> ((repeat' (first | exact trivial | exact rfl | refine And.intro ?_ ?_)) <;> (try ((conv => whnf); first | refine vint ?_ | refine vboo ?_ | refine rint ?_ | refine rrow ?_ | skip)) <;> (try first | omega | (simp; done) | ((repeat rw [flts_closed _ (by assumption)]); exact vws_closed _ (by assumption))))), ⟨by omega, all_take_succ (d := []) h hp (by rw [fnRow, hrow, decide_eq_true h3]; rfl)⟩, by omega⟩
    · have h : ¬ i < f.length := by have := ltF h; omega
      conv => whnf
      refine ⟨?_, rfl⟩
      rw [fnG, hs, decide_eq_true h0, all_end h hp]; rfl
end Go.Proofs.YtkjdplglenjijaaGreat
/- The worths of plays, and plays' boxes, of any sizes: reference and program. -/
namespace Go.Aw
theorem fo_flatG {α : Type} (f : α → Nat → α) (ny : Nat) (a : α) : ∀ n, fo (fun a i => fo (fun a k => f a (i * ny + k)) a ny) a n = fo f a (n * ny)
  | 0 => by rw [Nat.zero_mul]; rfl
  | n + 1 => by
    have ih := fo_flatG f ny a n
    show fo (fun a k => f a (n * ny + k)) (fo (fun a i => fo (fun a k => f a (i * ny + k)) a ny) a n) ny = _
    rw [ih, Nat.succ_mul]
    have h : ∀ k, fo (fun a k => f a (n * ny + k)) (fo f a (n * ny)) k = fo f a (n * ny + k) := fun k => by
      induction k with
      | zero => rfl
      | succ k ih => show f (fo (fun a k => f a (n * ny + k)) (fo f a (n * ny)) k) _ = _; rw [ih]; rfl
    exact h ny
theorem boxRows_row (num : Nat → Nat → Nat → Nat → Int) (ny : Nat) : ∀ nx {i k : Nat}, i < nx → k < ny → (boxRows num nx ny).getD (i * ny + k) [] = boxRow num i k
  | 0, i, k, hi, _ => absurd hi (Nat.not_lt_zero i)
  | n + 1, i, k, hi, hk => by
    have e : boxRows num (n + 1) ny = boxRows num n ny ++ (List.range ny).map (boxRow num n) := by
      simp [boxRows, List.range_succ]
    have hl := boxRows_len num n ny
    rw [e, List.getD_eq_getElem?_getD]
    by_cases h : i < n
    · have hlt : i * ny + k < n * ny := by
        have := Nat.mul_le_mul_right ny h
        rw [Nat.succ_mul] at this; omega
      rw [List.getElem?_append_left (by omega), ← List.getD_eq_getElem?_getD]
      exact boxRows_row num ny n h hk
    · obtain rfl : i = n := by omega
      rw [List.getElem?_append_right (by omega), hl, Nat.add_sub_cancel_left, ← List.getD_eq_getElem?_getD, range_getD hk]
theorem Wexp (x : Int) : W x = (x + 9223372036854775808) % 18446744073709551616 - 9223372036854775808 := by
  show IntKind.i64.wrap x = _
  rw [IntKind.wrap_i64]
theorem Wl (a b : Int) : W (W a + b) = W (a + b) := by simp only [Wexp]; omega
theorem Wr (a b : Int) : W (a + W b) = W (a + b) := by simp only [Wexp]; omega
theorem W0 : W 0 = 0 := rfl
theorem wRow_play {f m : List (List Int)} {j b : Nat} (h : m.getD j [] = (List.replicate 4 (0 : Int)).set b 1) (hb : b < 4) (a : Int) : wRow f m j a 4 = W (a + (f.getD j []).getD b 0) := by
  have e : wRow f m j a 4 = W (W (W (W (a + W ((f.getD j []).getD 0 0 * (m.getD j []).getD 0 0)) + W ((f.getD j []).getD 1 0 * (m.getD j []).getD 1 0)) + W ((f.getD j []).getD 2 0 * (m.getD j []).getD 2 0)) + W ((f.getD j []).getD 3 0 * (m.getD j []).getD 3 0)) := rfl
  rw [e, h]
  have h4 : b = 0 ∨ b = 1 ∨ b = 2 ∨ b = 3 := by omega
  rcases h4 with rfl | rfl | rfl | rfl <;> simp only [List.replicate, List.set, List.getD_cons_zero, List.getD_cons_succ, Int.mul_zero, Int.mul_one, W0, Int.add_zero, Wl, Wr, WW]
theorem pw_worth {f : List (List Int)} {p : List Int} {nx ny : Nat} (hp : ∀ v, v ∈ p → 0 ≤ v ∧ v ≤ 1) : worthF f (pgM p nx ny 1) = pwTo f p nx ny nx := by
  rw [worthF, wTo, pgM, boxRows_len, ← fo_flatG]
  refine fo_congr fun a i hi => fo_congr fun b k hk => ?_
  have h1 := bits_mem hp (i := i)
  have h2 := bits_mem hp (i := nx + k)
  refine wRow_play (b := bitIx p nx i k) ?_ (bitIx_eq hp nx i k).2 b
  rw [boxRows_row _ _ _ hi hk, ← pg_row (i := i) (k := k) (p := (p.getD i 0).toNat) (q := (p.getD (nx + k) 0).toNat) (by omega) (by omega) (by omega) (by omega)]
  congr 1
  unfold bitIx; omega
end Go.Aw
namespace Go.Proofs.YtkjdplglenjijaaGreat
open Go.Aw
set_option maxRecDepth 100000
set_option maxHeartbeats 4000000
def pyB (x y : Int) (p : List Int) : Bool := decide ((p.length : Int) = W (x + y)) && rowIn p 0 1
def pwOk (x y : Int) (f : List (List Int)) (p : List Int) : Bool := fnG x y f && pyB x y p
def pwV (x y : Int) (f : List (List Int)) (p : List Int) : Int := if pwOk x y f p then pwTo f p x.toNat y.toNat x.toNat else 0
theorem pyB_len {a b : Nat} {p : List Int} (h : pyB a b p = true) (ha : a ≤ 3) (hb : b ≤ 3) : p.length = a + b ∧ ∀ v, v ∈ p → 0 ≤ v ∧ v ≤ 1 := by
  simp only [pyB, Bool.and_eq_true, decide_eq_true_eq] at h
  obtain ⟨h1, h2⟩ := h
  rw [show W ((a : Int) + (b : Int)) = (a : Int) + b from w64 (by omega) (by omega)] at h1
  exact ⟨by omega, fun v hv => rowIn_iff.1 h2 v hv⟩
end Go.Proofs.YtkjdplglenjijaaGreat
/- The greatest worth of a play: reference and program. -/
namespace Go.Aw
/-- the greatest one of the first numbers -/
def lvN (w : Nat → Int) : Nat → Int
  | 0 => 0
  | k + 1 => if k = 0 ∨ w k > lvN w k then w k else lvN w k
theorem lvN_ge (w : Nat → Int) : ∀ k i, i < k → w i ≤ lvN w k
  | k + 1, i, h => by
    unfold lvN
    by_cases e : i = k
    · subst e; split <;> omega
    · have := lvN_ge w k i (by omega)
      split <;> omega
theorem lvN_own (w : Nat → Int) : ∀ k, 0 < k → ∃ i, i < k ∧ lvN w k = w i
  | k + 1, _ => by
    unfold lvN
    split
    · exact ⟨k, by omega, rfl⟩
    · rename_i h
      obtain ⟨i, hi, e⟩ := lvN_own w k (by omega)
      exact ⟨i, by omega, e⟩
/-- the worth of the i-th play -/
def pwI (f : List (List Int)) (nx ny i : Nat) : Int := pwTo f ((playsL (nx + ny)).getD i []) nx ny nx
def lvF (f : List (List Int)) (nx ny : Nat) : Int := lvN (pwI f nx ny) (2 ^ (nx + ny))
end Go.Aw
namespace Go.Proofs.YtkjdplglenjijaaGreat
open Go.Aw
set_option maxRecDepth 100000
set_option maxHeartbeats 4000000
def lvV (x y : Int) (f : List (List Int)) : Int := if fnG x y f then lvF f x.toNat y.toNat else 0
theorem localValue_spec (nx ny : Nat) (f : List (List Int)) (hx : nx ≤ 3) (hy : ny ≤ 3) (hf : f.length = nx * ny) (h4 : ∀ r, r ∈ f → r.length = 4) :
    FSpec Tryz.prog 40 [.c (.int .i64 (nx)), .c (.int .i64 (ny)), .t (.rows f)] (ex (.c (.int .i64 (lvF f nx ny))) []) := by
  have hl := playsL_len (nx + ny)
  have h64 := two_pow6 (n := nx + ny) (by omega)
  refine fspec tyOk mx Tryz.func40 rfl (by kernel_rfl) rfl ?_
  conv => whnf
  refine ACall.use (FSpec.toldL (plays_spec nx ny (by omega)) (x' := .t (.rows (playsL (nx + ny)))) ⟨rfl, rfl⟩) ?_
  conv => whnf
  refine aloopI tyOk mx (fun i : Nat => (⟨35, [(0, .c (.int .i64 (nx))), (1, .c (.int .i64 (ny))), (2, .t (.rows f)), (7, .c (.int .i64 (lvN (pwI f nx ny) i))), (13, .t (.rows (playsL (nx + ny)))), (14, .c (.int .i64 ((playsL (nx + ny)).length))), (15, .c (.int .i64 (i)))], [], 0⟩ : St)) (fun i => i ≤ (playsL (nx + ny)).length) (fun i => (playsL (nx + ny)).length - i) 0 (Nat.zero_le _) none (by refine ⟨rfl, rfl, ?_, ?_⟩ <;> ((repeat' (first | exact trivial | exact rfl | refine And.intro ?_ ?_)) <;> (try ((conv => whnf); first | refine vint ?_ | refine vboo ?_ | refine rint ?_ | refine rrow ?_ | skip)) <;> (try first | omega | (simp; done) | ((repeat rw [flts_closed _ (by assumption)]); exact vws_closed _ (by assumption))))) (fun i hi => ?_)
  refine ⟨fun h => ?_, fun h => ?_⟩
  · have h := ltT h
    obtain ⟨p1, p2⟩ := playsL_row (n := nx + ny) (by omega) h
    have eN : IntKind.i64.wrap ((i : Int) + 1) = ((i + 1 : Nat) : Int) := nat_wrap (by omega)
    have ew : pwTo f ((playsL (nx + ny)).getD i []) nx ny nx = pwI f nx ny i := rfl
    conv => whnf
    refine ⟨i, rfl, h, ?_⟩
    conv => whnf
    refine ACall.use (playWorth_spec nx ny f _ hx hy hf h4 p2 p1) ?_
    conv => whnf
    rw [ew]
    have hi0 : i = 0 ∨ ¬ i = 0 := by omega
    rcases hi0 with rfl | hi0
    · (repeat (conv => whnf); (first | refine ⟨fun h => absurd h (by decide), fun _ => ?_⟩ | refine ⟨fun _ => ?_, fun h => absurd h (by decide)⟩)); conv => whnf
      rw [eN]
      exact ⟨1, none, (by refine ⟨rfl, rfl, ?_, ?_⟩ <;> ((repeat' (first | exact trivial | exact rfl | refine And.intro ?_ ?_)) <;> (try ((conv => whnf); first | refine vint ?_ | refine vboo ?_ | refine rint ?_ | refine rrow ?_ | skip)) <;> (try first | omega | (simp; done) | ((repeat rw [flts_closed _ (by assumption)]); exact vws_closed _ (by assumption))))), by omega, by omega⟩
    · refine ⟨fun _ => ?_, fun h => absurd h (by simp; omega)⟩
      conv => whnf
      refine ⟨fun h5 => ?_, fun h5 => ?_⟩
      · have h5 : pwI f nx ny i > lvN (pwI f nx ny) i := of_decide_eq_true h5
        have e5 : lvN (pwI f nx ny) (i + 1) = pwI f nx ny i := by rw [lvN, if_pos (.inr h5)]
        conv => whnf
        rw [eN]
        refine ⟨i + 1, none, ?_, by omega, by omega⟩
        rw [e5]
        (refine ⟨rfl, rfl, ?_, ?_⟩ <;> ((repeat' (first | exact trivial | exact rfl | refine And.intro ?_ ?_)) <;> (try ((conv => whnf); first | refine vint ?_ | refine vboo ?_ | refine rint ?_ | refine rrow ?_ | skip)) <;> (try first | omega | (simp; done) | ((repeat rw [flts_closed _ (by assumption)]); exact vws_closed _ (by assumption)))))
      · have h5 : ¬ pwI f nx ny i > lvN (pwI f nx ny) i := of_decide_eq_false h5
        have e5 : lvN (pwI f nx ny) (i + 1) = lvN (pwI f nx ny) i := by rw [lvN, if_neg (by omega)]
        conv => whnf
        rw [eN]
        refine ⟨i + 1, none, ?_, by omega, by omega⟩
        rw [e5]
        (refine ⟨rfl, rfl, ?_, ?_⟩ <;> ((repeat' (first | exact trivial | exact rfl | refine And.intro ?_ ?_)) <;> (try ((conv => whnf); first | refine vint ?_ | refine vboo ?_ | refine rint ?_ | refine rrow ?_ | skip)) <;> (try first | omega | (simp; done) | ((repeat rw [flts_closed _ (by assumption)]); exact vws_closed _ (by assumption)))))
  · have h := ltF h
    obtain rfl : i = (playsL (nx + ny)).length := by omega
    conv => whnf
    refine ⟨?_, rfl⟩
    rw [lvF, hl]
theorem l3Value_spec (nx ny : Nat) (f : List (List Int)) (hx : nx ≤ 3) (hy : ny ≤ 3) (hf : f.length = nx * ny) (h4 : ∀ r, r ∈ f → r.length = 4) :
    FSpec Tryz.prog 43 [.c (.int .i64 (nx)), .c (.int .i64 (ny)), .t (.rows f)] (ex (.c (.int .i64 (lvF f nx ny))) []) := by
  have hl := playsL_len (nx + ny)
  have h64 := two_pow6 (n := nx + ny) (by omega)
  have hn : nx * ny ≤ 3 * 3 := Nat.mul_le_mul hx hy
  refine fspec tyOk mx Tryz.func43 rfl (by kernel_rfl) rfl ?_
  conv => whnf
  refine ACall.use (FSpec.toldL (l2Plays_spec nx ny (by omega)) (x' := .t (.rows (playsL (nx + ny)))) ⟨rfl, rfl⟩) ?_
  conv => whnf
  refine aloopI tyOk mx (fun i : Nat => (⟨38, [(0, .c (.int .i64 (nx))), (1, .c (.int .i64 (ny))), (2, .t (.rows f)), (7, .t (.rows (playsL (nx + ny)))), (8, .c (.int .i64 (lvN (pwI f nx ny) i))), (9, .c (.int .i64 (i)))], [], 0⟩ : St)) (fun i => i ≤ (playsL (nx + ny)).length) (fun i => (playsL (nx + ny)).length - i) 0 (Nat.zero_le _) none (by refine ⟨rfl, rfl, ?_, ?_⟩ <;> ((repeat' (first | exact trivial | exact rfl | refine And.intro ?_ ?_)) <;> (try ((conv => whnf); first | refine vint ?_ | refine vboo ?_ | refine rint ?_ | refine rrow ?_ | skip)) <;> (try first | omega | (simp; done) | ((repeat rw [flts_closed _ (by assumption)]); exact vws_closed _ (by assumption))))) (fun i hi => ?_)
  refine ⟨fun h => ?_, fun h => ?_⟩
  · have h := ltT h
    obtain ⟨p1, p2⟩ := playsL_row (n := nx + ny) (by omega) h
    have eN : IntKind.i64.wrap ((i : Int) + 1) = ((i + 1 : Nat) : Int) := nat_wrap (by omega)
    have hm : (pgM ((playsL (nx + ny)).getD i []) nx ny 1).length = nx * ny := boxRows_len _ _ _
    have ew : worthF f (pgM ((playsL (nx + ny)).getD i []) nx ny 1) = pwI f nx ny i := pw_worth p2
    conv => whnf
    refine ⟨i, rfl, h, ?_⟩
    conv => whnf
    refine ACall.use (l2PlayBoxG_spec nx ny hx hy _ p1 p2 1) ?_
    conv => whnf
    refine ACall.use (l2Worth_spec f (pgM ((playsL (nx + ny)).getD i []) nx ny 1) nx ny 1 (by rw [hf, hm]) (by omega) h4 (boxRows_rows _ _ _)) ?_
    conv => whnf
    rw [ew]
    have hi0 : i = 0 ∨ ¬ i = 0 := by omega
    rcases hi0 with rfl | hi0
    · (repeat (conv => whnf); (first | refine ⟨fun h => absurd h (by decide), fun _ => ?_⟩ | refine ⟨fun _ => ?_, fun h => absurd h (by decide)⟩)); conv => whnf
      rw [eN]
      exact ⟨1, none, (by refine ⟨rfl, rfl, ?_, ?_⟩ <;> ((repeat' (first | exact trivial | exact rfl | refine And.intro ?_ ?_)) <;> (try ((conv => whnf); first | refine vint ?_ | refine vboo ?_ | refine rint ?_ | refine rrow ?_ | skip)) <;> (try first | omega | (simp; done) | ((repeat rw [flts_closed _ (by assumption)]); exact vws_closed _ (by assumption))))), by omega, by omega⟩
    · refine ⟨fun _ => ?_, fun h => absurd h (by simp; omega)⟩
      conv => whnf
      refine ⟨fun h5 => ?_, fun h5 => ?_⟩
      · have h5 : pwI f nx ny i > lvN (pwI f nx ny) i := of_decide_eq_true h5
        have e5 : lvN (pwI f nx ny) (i + 1) = pwI f nx ny i := by rw [lvN, if_pos (.inr h5)]
        conv => whnf
        rw [eN]
        refine ⟨i + 1, none, ?_, by omega, by omega⟩
        rw [e5]
        (refine ⟨rfl, rfl, ?_, ?_⟩ <;> ((repeat' (first | exact trivial | exact rfl | refine And.intro ?_ ?_)) <;> (try ((conv => whnf); first | refine vint ?_ | refine vboo ?_ | refine rint ?_ | refine rrow ?_ | skip)) <;> (try first | omega | (simp; done) | ((repeat rw [flts_closed _ (by assumption)]); exact vws_closed _ (by assumption)))))
      · have h5 : ¬ pwI f nx ny i > lvN (pwI f nx ny) i := of_decide_eq_false h5
        have e5 : lvN (pwI f nx ny) (i + 1) = lvN (pwI f nx ny) i := by rw [lvN, if_neg (by omega)]
        conv => whnf
        rw [eN]
        refine ⟨i + 1, none, ?_, by omega, by omega⟩
        rw [e5]
        (refine ⟨rfl, rfl, ?_, ?_⟩ <;> ((repeat' (first | exact trivial | exact rfl | refine And.intro ?_ ?_)) <;> (try ((conv => whnf); first | refine vint ?_ | refine vboo ?_ | refine rint ?_ | refine rrow ?_ | skip)) <;> (try first | omega | (simp; done) | ((repeat rw [flts_closed _ (by assumption)]); exact vws_closed _ (by assumption)))))
  · have h := ltF h
    obtain rfl : i = (playsL (nx + ny)).length := by omega
    conv => whnf
    refine ⟨?_, rfl⟩
    rw [lvF, hl]
end Go.Proofs.YtkjdplglenjijaaGreat
/- A box asked in other orders; the greatest triple worth with flipped answers: reference. -/
namespace Go.Aw
def FL (c : Nat) : List Int := (List.range 6).map fun i : Nat => bits .and .i64 (shr .i64 (c : Int) (i : Int)) 1
theorem FL_ok {c : Nat} (h : c < 64) : OkFl (FL c) := by
  have key : ∀ c : Nat, c < 64 → ∀ i : Nat, i < 6 → 0 ≤ bits .and .i64 (shr .i64 (c : Int) i) 1 ∧ bits .and .i64 (shr .i64 (c : Int) i) 1 ≤ 1 := by decide +kernel
  refine ⟨by simp [FL], fun v hv => ?_⟩
  obtain ⟨i, hi, rfl⟩ := List.mem_map.1 hv
  exact key c h i (List.mem_range.1 hi)
theorem FL_all {fl : List Int} (h : OkFl fl) : ∃ c, c < 64 ∧ FL c = fl := by
  obtain ⟨hl, hv⟩ := h
  match fl, hl with
  | [a, b, c, d, e, f], _ =>
    have key : ∀ a, a ∈ [(0 : Int), 1] → ∀ b, b ∈ [(0 : Int), 1] → ∀ c, c ∈ [(0 : Int), 1] → ∀ d, d ∈ [(0 : Int), 1] → ∀ e, e ∈ [(0 : Int), 1] → ∀ f, f ∈ [(0 : Int), 1] → FL (a + 2 * b + 4 * c + 8 * d + 16 * e + 32 * f).toNat = [a, b, c, d, e, f] := by decide +kernel
    have q : ∀ x, x ∈ [a, b, c, d, e, f] → x ∈ [(0 : Int), 1] := fun x hx => by
      have := hv x hx
      have : x = 0 ∨ x = 1 := by omega
      simpa using this
    have b1 := hv a (by simp); have b2 := hv b (by simp); have b3 := hv c (by simp); have b4 := hv d (by simp); have b5 := hv e (by simp); have b6 := hv f (by simp)
    exact ⟨_, by omega, key a (q a (by simp)) b (q b (by simp)) c (q c (by simp)) d (q d (by simp)) e (q e (by simp)) f (q f (by simp))⟩
/-- the greatest triple worth with any answers flipped -/
def fT (m : List (List Int)) (c : Nat) : Int := tv (flG 3 3 m (FL c))
def fMax (m : List (List Int)) : Int := lvN (fT m) 64
theorem row_self {r : List Int} (h : r.length = 4) : (List.range 4).map (fun p => r.getD (2 * (p / 2) + p % 2) 0) = r := by
  match r, h with
  | [a, b, c, d], _ => rfl
end Go.Aw
namespace Go.Proofs.YtkjdplglenjijaaGreat.L
open Go.Aw
set_option maxRecDepth 100000
set_option maxHeartbeats 4000000
theorem l3Flipped_spec (z : Int) (m : List (List Int)) (h9 : R9 m) : FSpec Tryz.prog 71 [.ag [.c (.int .i64 (3)), .c (.int .i64 (3)), .c (.int .i64 (z)), .t (.rows m)]] (ex (.c (.int .i64 (fMax m))) []) := by
  refine fspec tyOk mx Tryz.func71 rfl (by kernel_rfl) rfl ?_
  conv => whnf
  refine aloopI tyOk mx (fun c : Nat => (⟨37, [(1, .ptr 0 0), (3, .c (.int .i64 (lvN (fT m) c))), (4, .c (.int .i64 (c)))], [(0, .cells 26 [.c (.int .i64 (3)), .c (.int .i64 (3)), .c (.int .i64 (z)), .t (.rows m)])], 1⟩ : St)) (fun c => c ≤ 64) (fun c => 64 - c) 0 (Nat.zero_le _) none (by refine ⟨rfl, rfl, ?_, ?_⟩ <;> ((repeat' (first | exact trivial | exact rfl | refine And.intro ?_ ?_)) <;> (try ((conv => whnf); first | refine vint ?_ | refine vboo ?_ | refine rint ?_ | refine rrow ?_ | skip)) <;> (try first | omega | (simp; done) | ((repeat rw [flts_closed _ (by assumption)]); exact vws_closed _ (by assumption))))) (fun c hc => ?_)
  refine ⟨fun h => ?_, fun h => ?_⟩
  · have h : c < 64 := by have := of_decide_eq_true h; omega
    have hF := FL_ok h
    conv => whnf
    refine aloopI tyOk mx (fun i : Nat => (⟨37, [(1, .ptr 0 0), (3, .c (.int .i64 (lvN (fT m) c))), (4, .c (.int .i64 (c))), (5, .own 1), (6, .c (.int .i64 (i)))], [(0, .cells 26 [.c (.int .i64 (3)), .c (.int .i64 (3)), .c (.int .i64 (z)), .t (.rows m)]), (1, .ints 3 .i64 ((List.range i).map fun i : Nat => bits .and .i64 (shr .i64 (c : Int) (i : Int)) 1))], 2⟩ : St)) (fun i => i ≤ 6) (fun i => 6 - i) 0 (Nat.zero_le _) none (by refine ⟨rfl, rfl, ?_, ?_⟩ <;> ((repeat' (first | exact trivial | exact rfl | refine And.intro ?_ ?_)) <;> (try ((conv => whnf); first | refine vint ?_ | refine vboo ?_ | refine rint ?_ | refine rrow ?_ | skip)) <;> (try first | omega | (simp; done) | ((repeat rw [flts_closed _ (by assumption)]); exact vws_closed _ (by assumption))))) (fun i hi => ?_)
    refine ⟨fun h2 => ?_, fun h2 => ?_⟩
    · have h2 : i < 6 := by have := of_decide_eq_true h2; omega
      conv => whnf
      refine ⟨by omega, ?_⟩
      conv => whnf
      refine ⟨by simp [room]; omega, ?_⟩
      conv => whnf
      rw [nat_wrap (by omega)]
      refine ⟨i + 1, none, ?_, by omega, by omega⟩
      rw [List.range_succ, List.map_append]
      (refine ⟨rfl, rfl, ?_, ?_⟩ <;> ((repeat' (first | exact trivial | exact rfl | refine And.intro ?_ ?_)) <;> (try ((conv => whnf); first | refine vint ?_ | refine vboo ?_ | refine rint ?_ | refine rrow ?_ | skip)) <;> (try first | omega | (simp; done) | ((repeat rw [flts_closed _ (by assumption)]); exact vws_closed _ (by assumption)))))
    · have h2 : ¬ i < 6 := by have := of_decide_eq_false h2; omega
      obtain rfl : i = 6 := by omega
      have e6 : (List.range 6).map (fun i : Nat => bits .and .i64 (shr .i64 (c : Int) (i : Int)) 1) = FL c := rfl
      rw [e6]
      generalize hfl : FL c = fl at hF
      conv => whnf
      refine ACall.use (l2Flip_all 3 3 (by omega) (by omega) z m h9.len h9.four fl hF.1 hF.2) ?_
      conv => whnf
      refine ACall.use (l3Triple_spec z (flG 3 3 m fl) (h9.fl fl)) ?_
      conv => whnf
      have eT : tv (flG 3 3 m fl) = fT m c := by rw [fT, hfl]
      rw [eT]
      have eN : IntKind.i64.wrap ((c : Int) + 1) = ((c + 1 : Nat) : Int) := nat_wrap (by omega)
      have hc0 : c = 0 ∨ ¬ c = 0 := by omega
      rcases hc0 with rfl | hc0
      · (repeat (conv => whnf); (first | refine ⟨fun h => absurd h (by decide), fun _ => ?_⟩ | refine ⟨fun _ => ?_, fun h => absurd h (by decide)⟩)); conv => whnf
        rw [eN]
        exact ⟨1, none, (by refine ⟨rfl, rfl, ?_, ?_⟩ <;> ((repeat' (first | exact trivial | exact rfl | refine And.intro ?_ ?_)) <;> (try ((conv => whnf); first | refine vint ?_ | refine vboo ?_ | refine rint ?_ | refine rrow ?_ | skip)) <;> (try first | omega | (simp; done) | ((repeat rw [flts_closed _ (by assumption)]); exact vws_closed _ (by assumption))))), by omega, by omega⟩
      · refine ⟨fun _ => ?_, fun h => absurd h (by simp; omega)⟩
        conv => whnf
        refine ⟨fun h5 => ?_, fun h5 => ?_⟩
        · have h5 : fT m c > lvN (fT m) c := of_decide_eq_true h5
          have e5 : lvN (fT m) (c + 1) = fT m c := by rw [lvN, if_pos (.inr h5)]
          conv => whnf
          rw [eN]
          refine ⟨c + 1, none, ?_, by omega, by omega⟩
          rw [e5]
          (refine ⟨rfl, rfl, ?_, ?_⟩ <;> ((repeat' (first | exact trivial | exact rfl | refine And.intro ?_ ?_)) <;> (try ((conv => whnf); first | refine vint ?_ | refine vboo ?_ | refine rint ?_ | refine rrow ?_ | skip)) <;> (try first | omega | (simp; done) | ((repeat rw [flts_closed _ (by assumption)]); exact vws_closed _ (by assumption)))))
        · have h5 : ¬ fT m c > lvN (fT m) c := of_decide_eq_false h5
          have e5 : lvN (fT m) (c + 1) = lvN (fT m) c := by rw [lvN, if_neg (by omega)]
          conv => whnf
          rw [eN]
          refine ⟨c + 1, none, ?_, by omega, by omega⟩
          rw [e5]
          (refine ⟨rfl, rfl, ?_, ?_⟩ <;> ((repeat' (first | exact trivial | exact rfl | refine And.intro ?_ ?_)) <;> (try ((conv => whnf); first | refine vint ?_ | refine vboo ?_ | refine rint ?_ | refine rrow ?_ | skip)) <;> (try first | omega | (simp; done) | ((repeat rw [flts_closed _ (by assumption)]); exact vws_closed _ (by assumption)))))
  · have h : ¬ c < 64 := by have := of_decide_eq_false h; omega
    obtain rfl : c = 64 := by omega
    conv => whnf
    exact ⟨rfl, rfl⟩
end Go.Proofs.YtkjdplglenjijaaGreat.L
/- A box asked in other orders, players swapped: reference. -/
namespace Go.Proofs.YtkjdplglenjijaaGreat.L
open Go.Aw
set_option maxRecDepth 100000
set_option maxHeartbeats 4000000
theorem l1OwnS_spec (l : List Int) (hl : l.length ≤ 1048576) : FSpec Tryz.prog 103 [.t (.ints .i64 l)] (ex (.own 0) [(0, .ints 3 .i64 l)]) := by
  refine fspec tyOk mx Tryz.func103 rfl (by kernel_rfl) rfl ?_
  conv => whnf
  refine ⟨by simp [room]; omega, ?_⟩
  conv => whnf
  exact ⟨rfl, rfl⟩
def swNum (ny : Nat) (m : List (List Int)) (x y a c : Nat) : Int := enV ny m y x c a
theorem sw_row (ny : Nat) (m : List (List Int)) (y x : Nat) : [(m.getD (x * ny + y) []).getD 0 0, (m.getD (x * ny + y) []).getD 2 0, (m.getD (x * ny + y) []).getD 1 0, (m.getD (x * ny + y) []).getD 3 0] = boxRow (swNum ny m) y x := rfl
/-- players swapped, of a box -/
theorem SwapPlayers_sn (nx ny : Nat) (z : Int) (m : List (List Int)) (km : SzM m) (hg : goodB nx ny z m = true) : FSpec Tryz.prog 68 [.ag [.c (.int .i64 (nx)), .c (.int .i64 (ny)), .c (.int .i64 (z)), .t (.rows m)]]
    (nilOrBox (goodB nx ny z m) ny nx z (.rows 38 3 true (swG nx ny m))) := by
  obtain ⟨nx', ny', ex, ey, x1, hx, y1, hy, _, _, q7, q8, q9⟩ := goodB_spec hg
  obtain rfl : nx = nx' := by omega
  obtain rfl : ny = ny' := by omega
  have hn : nx * ny ≤ 3 * 3 := Nat.mul_le_mul hx hy
  have hn2 : ny * nx ≤ 3 * 3 := Nat.mul_le_mul hy hx
  have hG : swG nx ny m = boxTo (swNum ny m) nx ny 0 := by rw [boxTo_all]; rfl
  rw [hG]
  refine fspec tyOk mx Tryz.func68 rfl (by kernel_rfl) rfl ?_
  conv => whnf
  refine ACall.use (l2Box_spec nx ny z m km) ?_
  conv => whnf
  refine ⟨fun h => absurd h (by rw [hg]; decide), fun _ => ?_⟩
  conv => whnf
  refine aloopI tyOk mx (fun y : Nat => (⟨55, [(1, .ptr 0 0), (2, .ptr 1 0), (4, .ptr 3 0), (5, .c (.int .i64 (y)))], [(0, .cells 26 [.c (.int .i64 (nx)), .c (.int .i64 (ny)), .c (.int .i64 (z)), .t (.rows m)]), (1, .cells 26 [.c (.int .i64 (0)), .c (.int .i64 (0)), .c (.int .i64 (0)), .c (.slice none 0 0)]), (2, .rows 38 3 true (boxTo (swNum ny m) nx y 0)), (3, .cells 26 [.c (.int .i64 (ny)), .c (.int .i64 (nx)), .c (.int .i64 (z)), .own 2])], 4⟩ : St)) (fun y => y ≤ ny) (fun y => ny - y) 0 (Nat.zero_le _) none (by refine ⟨rfl, rfl, ?_, ?_⟩ <;> ((repeat' (first | exact trivial | exact rfl | refine And.intro ?_ ?_)) <;> (try ((conv => whnf); first | refine vint ?_ | refine vboo ?_ | refine rint ?_ | refine rrow ?_ | skip)) <;> (try first | omega | (simp; done) | ((repeat rw [flts_closed _ (by assumption)]); exact vws_closed _ (by assumption))))) (fun y p1 => ?_)
  refine ⟨fun h => ?_, fun h => ?_⟩
  · have h : y < ny := by have := ltT h; omega
    conv => whnf
    refine aloopI tyOk mx (fun x : Nat => (⟨55, [(1, .ptr 0 0), (2, .ptr 1 0), (4, .ptr 3 0), (5, .c (.int .i64 (y))), (6, .c (.int .i64 (x)))], [(0, .cells 26 [.c (.int .i64 (nx)), .c (.int .i64 (ny)), .c (.int .i64 (z)), .t (.rows m)]), (1, .cells 26 [.c (.int .i64 (0)), .c (.int .i64 (0)), .c (.int .i64 (0)), .c (.slice none 0 0)]), (2, .rows 38 3 true (boxTo (swNum ny m) nx y x)), (3, .cells 26 [.c (.int .i64 (ny)), .c (.int .i64 (nx)), .c (.int .i64 (z)), .own 2])], 4⟩ : St)) (fun x => x ≤ nx) (fun x => nx - x) 0 (Nat.zero_le _) none (by refine ⟨rfl, rfl, ?_, ?_⟩ <;> ((repeat' (first | exact trivial | exact rfl | refine And.intro ?_ ?_)) <;> (try ((conv => whnf); first | refine vint ?_ | refine vboo ?_ | refine rint ?_ | refine rrow ?_ | skip)) <;> (try first | omega | (simp; done) | ((repeat rw [flts_closed _ (by assumption)]); exact vws_closed _ (by assumption))))) (fun x q1 => ?_)
    refine ⟨fun h2 => ?_, fun h2 => ?_⟩
    · have h2 : x < nx := by have := ltT h2; omega
      have hq := ix_lt h2 h
      have hr4 := (q9 _ (getD_mem (d := []) (k := x * ny + y) (by omega))).1
      have eR := boxTo_row (swNum ny m) nx y x
      have lR := boxTo_len (swNum ny m) nx y x
      have hyx := ix_lt h h2
      rw [← sw_row] at eR
      generalize boxTo (swNum ny m) nx y x = o at eR lR
      conv => whnf
      refine ACall.use (l2Row_spec nx ny x y z m (by omega) (by omega)) ?_
      conv => whnf
      refine ADraw.plan tyOk mx (.q 0 (.q 1 (.q 2 (.q 3 (.q 4 (.q 5 (.q 6 (.q 7 (.q 8 (.q 9 (.q 10 (.q 11 (.q 12 (.q 13 (.last 14 (.last 15 (.last 16 (.q 17 (.last 18 (.done))))))))))))))))))) : Plan) (by kernel_rfl) ?_
      conv => whnf
      repeat' (first
        | (refine ⟨0, rfl, by omega, ?_⟩; conv => whnf)
        | (refine ⟨2, rfl, by omega, ?_⟩; conv => whnf)
        | (refine ⟨1, rfl, by omega, ?_⟩; conv => whnf)
        | (refine ⟨3, rfl, by omega, ?_⟩; conv => whnf)
        | (refine And.intro (show o.length + 1 ≤ room from by rw [lR]; unfold room; omega) ?_; conv => whnf)
        | (refine And.intro ?_ ?_ <;> (conv => whnf)))
      all_goals
        rw [nat_wrap (by omega)]
        refine ⟨x + 1, none, ?_, by omega, by omega⟩
        rw [← eR]
        (refine ⟨rfl, rfl, ?_, ?_⟩ <;> ((repeat' (first | exact trivial | exact rfl | refine And.intro ?_ ?_)) <;> (try ((conv => whnf); first | refine vint ?_ | refine vboo ?_ | refine rint ?_ | refine rrow ?_ | skip)) <;> (try first | omega | (simp; done) | ((repeat rw [flts_closed _ (by assumption)]); exact vws_closed _ (by assumption)))))
    · have h2 : ¬ x < nx := by have := ltF h2; omega
      obtain rfl : x = nx := by omega
      rw [boxTo_end]
      conv => whnf
      rw [nat_wrap (by omega)]
      exact ⟨y + 1, none, (by refine ⟨rfl, rfl, ?_, ?_⟩ <;> ((repeat' (first | exact trivial | exact rfl | refine And.intro ?_ ?_)) <;> (try ((conv => whnf); first | refine vint ?_ | refine vboo ?_ | refine rint ?_ | refine rrow ?_ | skip)) <;> (try first | omega | (simp; done) | ((repeat rw [flts_closed _ (by assumption)]); exact vws_closed _ (by assumption))))), by omega, by omega⟩
  · have h : ¬ y < ny := by have := ltF h; omega
    obtain rfl : y = ny := by omega
    conv => whnf
    exact .inr ⟨hg, rfl, rfl⟩
end Go.Proofs.YtkjdplglenjijaaGreat.L
/- A box asked in other orders: reference. -/
namespace Go.Proofs.YtkjdplglenjijaaGreat.L
open Go.Aw
set_option maxRecDepth 100000
set_option maxHeartbeats 4000000
def agNum (m : List (List Int)) (f s : List Int) (x y a c : Nat) : Int := enV 3 m (f.getD x 0).toNat (s.getD y 0).toNat a c
theorem ag_row {m : List (List Int)} {f s : List Int} {x y : Nat} (h : (m.getD ((f.getD x 0).toNat * 3 + (s.getD y 0).toNat) []).length = 4) : m.getD ((f.getD x 0).toNat * 3 + (s.getD y 0).toNat) [] = boxRow (agNum m f s) x y := (row_self h).symm
theorem l3Asked_spec (z : Int) (m : List (List Int)) (h9 : R9 m) (f s : List Int) (hf : f ∈ ords) (hs : s ∈ ords) : FSpec Tryz.prog 72 [.ag [.c (.int .i64 (3)), .c (.int .i64 (3)), .c (.int .i64 (z)), .t (.rows m)], .t (.ints .i64 f), .t (.ints .i64 s)]
    (ex (.ag [.c (.int .i64 (3)), .c (.int .i64 (3)), .c (.int .i64 (z)), .own 0]) [(0, .rows 38 3 true (agG 3 m f s))]) := by
  obtain ⟨lf, vf⟩ := ords_ok hf
  obtain ⟨ls, vs⟩ := ords_ok hs
  have hG : agG 3 m f s = boxTo (agNum m f s) 3 3 0 := by rw [boxTo_all, agG, lf, ls]; rfl
  have hl := h9.len
  rw [hG]
  refine fspec tyOk mx Tryz.func72 rfl (by kernel_rfl) rfl ?_
  conv => whnf
  refine aloopI tyOk mx (fun x : Nat => (⟨47, [(1, .t (.ints .i64 f)), (2, .t (.ints .i64 s)), (3, .ptr 0 0), (6, .ptr 1 0), (7, .ptr 3 0), (8, .c (.int .i64 (x)))], [(0, .cells 26 [.c (.int .i64 (3)), .c (.int .i64 (3)), .c (.int .i64 (z)), .t (.rows m)]), (1, .cells 26 [.c (.int .i64 (0)), .c (.int .i64 (0)), .c (.int .i64 (0)), .c (.slice none 0 0)]), (2, .rows 38 3 true (boxTo (agNum m f s) 3 x 0)), (3, .cells 26 [.c (.int .i64 (3)), .c (.int .i64 (3)), .c (.int .i64 (z)), .own 2])], 4⟩ : St)) (fun x => x ≤ 3) (fun x => 3 - x) 0 (Nat.zero_le _) none (by refine ⟨rfl, rfl, ?_, ?_⟩ <;> ((repeat' (first | exact trivial | exact rfl | refine And.intro ?_ ?_)) <;> (try ((conv => whnf); first | refine vint ?_ | refine vboo ?_ | refine rint ?_ | refine rrow ?_ | skip)) <;> (try first | omega | (simp; done) | ((repeat rw [flts_closed _ (by assumption)]); exact vws_closed _ (by assumption))))) (fun x p1 => ?_)
  refine ⟨fun h => ?_, fun h => ?_⟩
  · have h : x < 3 := by have := ltT h; omega
    conv => whnf
    refine aloopI tyOk mx (fun y : Nat => (⟨47, [(1, .t (.ints .i64 f)), (2, .t (.ints .i64 s)), (3, .ptr 0 0), (6, .ptr 1 0), (7, .ptr 3 0), (8, .c (.int .i64 (x))), (9, .c (.int .i64 (y)))], [(0, .cells 26 [.c (.int .i64 (3)), .c (.int .i64 (3)), .c (.int .i64 (z)), .t (.rows m)]), (1, .cells 26 [.c (.int .i64 (0)), .c (.int .i64 (0)), .c (.int .i64 (0)), .c (.slice none 0 0)]), (2, .rows 38 3 true (boxTo (agNum m f s) 3 x y)), (3, .cells 26 [.c (.int .i64 (3)), .c (.int .i64 (3)), .c (.int .i64 (z)), .own 2])], 4⟩ : St)) (fun y => y ≤ 3) (fun y => 3 - y) 0 (Nat.zero_le _) none (by refine ⟨rfl, rfl, ?_, ?_⟩ <;> ((repeat' (first | exact trivial | exact rfl | refine And.intro ?_ ?_)) <;> (try ((conv => whnf); first | refine vint ?_ | refine vboo ?_ | refine rint ?_ | refine rrow ?_ | skip)) <;> (try first | omega | (simp; done) | ((repeat rw [flts_closed _ (by assumption)]); exact vws_closed _ (by assumption))))) (fun y q1 => ?_)
    refine ⟨fun h2 => ?_, fun h2 => ?_⟩
    · have h2 : y < 3 := by have := ltT h2; omega
      have b1 := vf _ (getD_mem (d := 0) (show x < f.length by omega))
      have b2 := vs _ (getD_mem (d := 0) (show y < s.length by omega))
      have t1 : f.getD x 0 = ((f.getD x 0).toNat : Int) := by omega
      have t2 : s.getD y 0 = ((s.getD y 0).toNat : Int) := by omega
      have hr4 := h9.four _ (getD_mem (d := []) (k := (f.getD x 0).toNat * 3 + (s.getD y 0).toNat) (by omega))
      have eR := boxTo_row (agNum m f s) 3 x y
      have lR := boxTo_len (agNum m f s) 3 x y
      rw [← ag_row hr4] at eR
      have hrow := l2Row_spec 3 3 (f.getD x 0).toNat (s.getD y 0).toNat z m (by omega) (by omega)
      rw [← t1, ← t2] at hrow
      generalize boxTo (agNum m f s) 3 x y = o at eR lR
      conv => whnf
      refine ADraw.plan tyOk mx (.q 0 (.q 1 (.q 2 (.q 3 (.q 4 (.q 5 (.q 6 (.q 7 (.q 8 (.q 9 (.q 10 (.last 11 (.last 12 (.last 13 (.last 14 (.q 15 (.last 16 (.done))))))))))))))))) : Plan) (by kernel_rfl) ?_
      conv => whnf
      repeat' (first
        | (refine ⟨x, rfl, by omega, ?_⟩; conv => whnf)
        | (refine ⟨y, rfl, by omega, ?_⟩; conv => whnf)
        | (refine ACall.useR hrow ?_; conv => whnf)
        | (refine ACall.useR (l1OwnS_spec _ (by omega)) ?_; conv => whnf)
        | (refine And.intro (show o.length + 1 ≤ room from by rw [lR]; unfold room; omega) ?_; conv => whnf)
        | (refine And.intro ?_ ?_ <;> (conv => whnf)))
      all_goals
        rw [nat_wrap (by omega)]
        refine ⟨y + 1, none, ?_, by omega, by omega⟩
        rw [← eR]
        (refine ⟨rfl, rfl, ?_, ?_⟩ <;> ((repeat' (first | exact trivial | exact rfl | refine And.intro ?_ ?_)) <;> (try ((conv => whnf); first | refine vint ?_ | refine vboo ?_ | refine rint ?_ | refine rrow ?_ | skip)) <;> (try first | omega | (simp; done) | ((repeat rw [flts_closed _ (by assumption)]); exact vws_closed _ (by assumption)))))
    · have h2 : ¬ y < 3 := by have := ltF h2; omega
      obtain rfl : y = 3 := by omega
      rw [boxTo_end]
      conv => whnf
      rw [nat_wrap (by omega)]
      exact ⟨x + 1, none, (by refine ⟨rfl, rfl, ?_, ?_⟩ <;> ((repeat' (first | exact trivial | exact rfl | refine And.intro ?_ ?_)) <;> (try ((conv => whnf); first | refine vint ?_ | refine vboo ?_ | refine rint ?_ | refine rrow ?_ | skip)) <;> (try first | omega | (simp; done) | ((repeat rw [flts_closed _ (by assumption)]); exact vws_closed _ (by assumption))))), by omega, by omega⟩
  · have h : ¬ x < 3 := by have := ltF h; omega
    obtain rfl : x = 3 := by omega
    conv => whnf
    exact ⟨rfl, rfl⟩
end Go.Proofs.YtkjdplglenjijaaGreat.L
/- The greatest triple worth: reference. -/
namespace Go.Aw
def agS3 (m : List (List Int)) (s i k : Nat) : List (List Int) := agG 3 (stt m s) (ords.getD i []) (ords.getD k [])
/-- what is done so far -/
structure MTo (m : List (List Int)) (I K : Nat) (g : Int) : Prop where
  all : ∀ i k s, i < 6 → k < 6 → s < 2 → (i < I ∨ (i = I ∧ k < K)) → fMax (agS3 m s i k) ≤ g
  own : ∃ s f h fl, s < 2 ∧ f ∈ ords ∧ h ∈ ords ∧ OkFl fl ∧ g = tv (trm m s f h fl)
theorem fMax_own (m : List (List Int)) : ∃ c, c < 64 ∧ fMax m = fT m c := lvN_own _ 64 (by omega)
theorem MTo.zero {m : List (List Int)} (h : R9 m) : MTo m 0 0 (tv m) := by
  refine ⟨fun i k s _ _ _ ho => by omega, 0, [0, 1, 2], [0, 1, 2], [0, 0, 0, 0, 0, 0], by omega, by simp [ords], by simp [ords], ⟨rfl, fun v hv => ?_⟩, by rw [trm_id h]⟩
  have : v = 0 := by simpa using hv
  omega
theorem MTo.nextK {m : List (List Int)} {I K : Nat} {g : Int} (h : MTo m I K g) (hI : I < 6) (hK : K < 6) : MTo m I (K + 1) (max (max g (fMax (agS3 m 0 I K))) (fMax (agS3 m 1 I K))) := by
  refine ⟨fun i k s hi hk hs ho => ?_, ?_⟩
  · by_cases e : i = I ∧ k = K
    · obtain ⟨rfl, rfl⟩ := e
      have : s = 0 ∨ s = 1 := by omega
      rcases this with rfl | rfl <;> omega
    · have := h.all i k s hi hk hs (by omega)
      omega
  · have key : ∀ s, s < 2 → ∃ s' f h fl, s' < 2 ∧ f ∈ ords ∧ h ∈ ords ∧ OkFl fl ∧ fMax (agS3 m s I K) = tv (trm m s' f h fl) := fun s hs => by
      obtain ⟨c, hc, e⟩ := fMax_own (agS3 m s I K)
      exact ⟨s, ords.getD I [], ords.getD K [], FL c, hs, ords_at hI, ords_at hK, FL_ok hc, e⟩
    rcases (by omega : max (max g (fMax (agS3 m 0 I K))) (fMax (agS3 m 1 I K)) = g ∨ max (max g (fMax (agS3 m 0 I K))) (fMax (agS3 m 1 I K)) = fMax (agS3 m 0 I K) ∨ max (max g (fMax (agS3 m 0 I K))) (fMax (agS3 m 1 I K)) = fMax (agS3 m 1 I K)) with e | e | e <;> rw [e]
    · exact h.own
    · exact key 0 (by omega)
    · exact key 1 (by omega)
theorem MTo.nextI {m : List (List Int)} {I : Nat} {g : Int} (h : MTo m I 6 g) : MTo m (I + 1) 0 g := ⟨fun i k s hi hk hs ho => h.all i k s hi hk hs (by omega), h.own⟩
theorem MTo.fin {m : List (List Int)} {g : Int} (h : MTo m 6 0 g) : GTrip m g := by
  refine ⟨fun s f k fl hs hf hk hfl => ?_, h.own⟩
  obtain ⟨i, hi, rfl⟩ := ords_ix hf
  obtain ⟨j, hj, rfl⟩ := ords_ix hk
  obtain ⟨c, hc, rfl⟩ := FL_all hfl
  have h1 := h.all i j s hi hj hs (by omega)
  have h2 : fT (agS3 m s i j) c ≤ fMax (agS3 m s i j) := lvN_ge _ 64 c hc
  exact Int.le_trans h2 h1
end Go.Aw
namespace Go.Proofs.YtkjdplglenjijaaGreat.L
open Go.Aw
set_option maxRecDepth 100000
set_option maxHeartbeats 4000000
theorem l3Orders_spec : FSpec Tryz.prog 69 [] (ex (.t (.rows ords)) []) := by
  have key : FSpec Tryz.prog 69 [] (ex (.own 0) [(0, .rows 38 3 true ords)]) := by
    refine fspec tyOk mx Tryz.func69 rfl (by kernel_rfl) rfl ?_
    conv => whnf
    exact ⟨rfl, rfl⟩
  exact FSpec.toldL key (x' := .t (.rows ords)) ⟨rfl, rfl⟩
theorem SwapPlayers_t (z : Int) (m : List (List Int)) (km : SzM m) (hg : goodB 3 3 z m = true) : FSpec Tryz.prog 68 [.ag [.c (.int .i64 (3)), .c (.int .i64 (3)), .c (.int .i64 (z)), .t (.rows m)]] (ex (.tu [.ag [.c (.int .i64 (3)), .c (.int .i64 (3)), .c (.int .i64 (z)), .t (.rows (swG 3 3 m))], .c (.bool true)]) []) := by
  have h := view_box (SwapPlayers_sn 3 3 z m km hg)
  have hg' : goodB ((3 : Nat) : Int) ((3 : Nat) : Int) z m = true := hg
  rw [hg'] at h
  exact FSpec.toldL h ⟨⟨rfl, rfl, rfl, ⟨rfl, rfl⟩, trivial⟩, rfl, trivial⟩
def mtP (m : List (List Int)) : AVal → List (Nat × ARow) → Prop := fun v h => h = [] ∧ ∃ g : Int, GTrip m g ∧ v = .c (.int .i64 g)
theorem l3Most_spec (z : Int) (m : List (List Int)) (km : SzM m) (hg : goodB 3 3 z m = true) (h9 : R9 m) : FSpec Tryz.prog 32 [.ag [.c (.int .i64 (3)), .c (.int .i64 (3)), .c (.int .i64 (z)), .t (.rows m)]] (mtP m) := by
  refine fspec tyOk mx Tryz.func32 rfl (by kernel_rfl) rfl ?_
  conv => whnf
  refine ACall.use (SwapPlayers_t z m km hg) ?_
  conv => whnf
  refine ACall.use l3Orders_spec ?_
  conv => whnf
  refine ACall.use (l3Triple_spec z m h9) ?_
  conv => whnf
  refine aloopI tyOk mx (fun i : Nat × Int => (⟨56, [(1, .ptr 0 0), (3, .ptr 1 0), (5, .t (.rows ords)), (6, .c (.int .i64 (i.2))), (7, .c (.int .i64 (i.1)))], [(0, .cells 26 [.c (.int .i64 (3)), .c (.int .i64 (3)), .c (.int .i64 (z)), .t (.rows m)]), (1, .cells 26 [.c (.int .i64 (3)), .c (.int .i64 (3)), .c (.int .i64 (z)), .t (.rows (swG 3 3 m))])], 2⟩ : St)) (fun i => i.1 ≤ 6 ∧ MTo m i.1 0 i.2) (fun i => 6 - i.1) (0, tv m) ⟨Nat.zero_le _, MTo.zero h9⟩ none (by refine ⟨rfl, rfl, ?_, ?_⟩ <;> ((repeat' (first | exact trivial | exact rfl | refine And.intro ?_ ?_)) <;> (try ((conv => whnf); first | refine vint ?_ | refine vboo ?_ | refine rint ?_ | refine rrow ?_ | skip)) <;> (try first | omega | (simp; done) | ((repeat rw [flts_closed _ (by assumption)]); exact vws_closed _ (by assumption))))) (fun i hi => ?_)
  obtain ⟨i, g⟩ := i
  obtain ⟨i1, i2⟩ := hi
  simp only at i1 i2
  dsimp only
  refine ⟨fun h => ?_, fun h => ?_⟩
  · have h : i < 6 := ltT h
    conv => whnf
    refine aloopI tyOk mx (fun k : Nat × Int => (⟨56, [(1, .ptr 0 0), (3, .ptr 1 0), (5, .t (.rows ords)), (6, .c (.int .i64 (k.2))), (7, .c (.int .i64 (i))), (8, .c (.int .i64 (k.1)))], [(0, .cells 26 [.c (.int .i64 (3)), .c (.int .i64 (3)), .c (.int .i64 (z)), .t (.rows m)]), (1, .cells 26 [.c (.int .i64 (3)), .c (.int .i64 (3)), .c (.int .i64 (z)), .t (.rows (swG 3 3 m))])], 2⟩ : St)) (fun k => k.1 ≤ 6 ∧ MTo m i k.1 k.2) (fun k => 6 - k.1) (0, g) ⟨Nat.zero_le _, i2⟩ none (by refine ⟨rfl, rfl, ?_, ?_⟩ <;> ((repeat' (first | exact trivial | exact rfl | refine And.intro ?_ ?_)) <;> (try ((conv => whnf); first | refine vint ?_ | refine vboo ?_ | refine rint ?_ | refine rrow ?_ | skip)) <;> (try first | omega | (simp; done) | ((repeat rw [flts_closed _ (by assumption)]); exact vws_closed _ (by assumption))))) (fun k hk => ?_)
    obtain ⟨k, g⟩ := k
    obtain ⟨k1, k2⟩ := hk
    simp only at k1 k2
    dsimp only
    refine ⟨fun h2 => ?_, fun h2 => ?_⟩
    · have h2 : k < 6 := ltT h2
      have o1 := ords_at h
      have o2 := ords_at h2
      have l1 := (ords_ok o1).1
      have l2 := (ords_ok o2).1
      have kn := k2.nextK h h2
      conv => whnf
      refine ADraw.plan tyOk mx (.q 0 (.q 1 (.q 2 (.q 3 (.q 4 (.q 5 (.q 6 (.q 7 (.q 8 (.q 9 (.last 10 (.last 11 (.last 12 (.q 13 (.done)))))))))))))) : Plan) (by kernel_rfl) ?_
      conv => whnf
      refine ⟨i, rfl, h, ?_⟩
      conv => whnf
      refine ⟨k, rfl, h2, ?_⟩
      conv => whnf
      refine ACall.useR (l3Asked_spec z m h9 _ _ o1 o2) ?_
      conv => whnf
      refine ACall.useR (l3Flipped_spec z _ (h9.ag l1 l2)) ?_
      conv => whnf
      refine ACall.useR (l1MostM_spec _ _) ?_
      conv => whnf
      refine ADraw.plan tyOk mx (.q 0 (.q 1 (.q 2 (.q 3 (.q 4 (.q 5 (.q 6 (.q 7 (.q 8 (.q 9 (.last 10 (.last 11 (.last 12 (.q 13 (.done)))))))))))))) : Plan) (by kernel_rfl) ?_
      conv => whnf
      refine ⟨i, rfl, h, ?_⟩
      conv => whnf
      refine ⟨k, rfl, h2, ?_⟩
      conv => whnf
      refine ACall.useR (l3Asked_spec z (swG 3 3 m) h9.sw _ _ o1 o2) ?_
      conv => whnf
      refine ACall.useR (l3Flipped_spec z _ (h9.sw.ag l1 l2)) ?_
      conv => whnf
      refine ACall.useR (l1MostM_spec _ _) ?_
      conv => whnf
      rw [nat_wrap (by omega)]
      exact ⟨(k + 1, max (max g (fMax (agS3 m 0 i k))) (fMax (agS3 m 1 i k))), none, (by refine ⟨rfl, rfl, ?_, ?_⟩ <;> ((repeat' (first | exact trivial | exact rfl | refine And.intro ?_ ?_)) <;> (try ((conv => whnf); first | refine vint ?_ | refine vboo ?_ | refine rint ?_ | refine rrow ?_ | skip)) <;> (try first | omega | (simp; done) | ((repeat rw [flts_closed _ (by assumption)]); exact vws_closed _ (by assumption))))), ⟨by simp only; omega, kn⟩, by simp only; omega⟩
    · have h2 : ¬ k < 6 := ltF h2
      obtain rfl : k = 6 := by omega
      conv => whnf
      rw [nat_wrap (by omega)]
      exact ⟨(i + 1, g), none, (by refine ⟨rfl, rfl, ?_, ?_⟩ <;> ((repeat' (first | exact trivial | exact rfl | refine And.intro ?_ ?_)) <;> (try ((conv => whnf); first | refine vint ?_ | refine vboo ?_ | refine rint ?_ | refine rrow ?_ | skip)) <;> (try first | omega | (simp; done) | ((repeat rw [flts_closed _ (by assumption)]); exact vws_closed _ (by assumption))))), ⟨by simp only; omega, k2.nextI⟩, by simp only; omega⟩
  · have h : ¬ i < 6 := ltF h
    obtain rfl : i = 6 := by omega
    conv => whnf
    exact ⟨rfl, g, i2.fin, rfl⟩
end Go.Proofs.YtkjdplglenjijaaGreat.L
/- Whether a box is local: reference. -/
namespace Go.Proofs.YtkjdplglenjijaaGreat.L
open Go.Aw
set_option maxRecDepth 100000
set_option maxHeartbeats 4000000
theorem l3Local_spec (nx ny : Nat) (z : Int) (m : List (List Int)) (hg : goodB nx ny z m = true) (km : SzM m) : FSpec Tryz.prog 25 [.ag [.c (.int .i64 (nx)), .c (.int .i64 (ny)), .c (.int .i64 (z)), .t (.rows m)]] (ex (.c (.bool (locB nx ny z m))) []) := by
  have hg' := hg
  obtain ⟨a, b, ea, eb, g1, g2, g3, g4, g5, g6, g7, g8, g9⟩ := goodB_spec hg'
  obtain rfl : nx = a := by omega
  obtain rfl : ny = b := by omega
  have h4 : ∀ r, r ∈ m → r.length = 4 := fun r hr => (g9 r hr).1
  have hB : AgB m := ag_bd g6 g9
  have e2 : IntKind.i64.wrap (2 * z) = 2 * z := w64 (by omega) (by omega)
  refine fspec tyOk mx Tryz.func25 rfl (by kernel_rfl) rfl ?_
  conv => whnf
  refine ADraw.plan tyOk mx (.q 0 (.last 1 (.q 2 (.q 3 (.q 4 (.q 7 (.q 8 (.q 9 (.last 5 (.q 6 (.q 10 (.q 11 (.done)))))))))))) : Plan) (by kernel_rfl) ?_
  conv => whnf
  refine ACall.useR (l2Quiet_spec nx ny z m g2 g4 g3 g1 g7 h4) ?_
  conv => whnf
  refine ⟨fun h => ?_, fun h => ?_⟩
  · have h : quietF nx ny m = true := by simpa using h
    conv => whnf
    refine ACall.useR' (l3Greatest_spec nx ny z m g2 g4 g7 h4 hB) ?_
    rintro v hr ⟨rfl, g, p0, p1, q0, q1, kk, t, hgs, hg4, rfl⟩
    have hle := hgs.le (z := 2 * z) (by omega)
    conv => whnf
    rw [e2]
    refine ⟨fun h2 => ?_, fun h2 => ?_⟩
    · have h2 : g > 2 * z := of_decide_eq_true h2
      conv => whnf
      refine ⟨?_, rfl⟩
      rw [locB_of (b := false)]
      exact ⟨fun hf => (by cases hf), fun hl => absurd (hle.2 hl.sums) (by omega)⟩
    · have h2 : ¬ g > 2 * z := of_decide_eq_false h2
      have h2 : g ≤ 2 * z := by omega
      conv => whnf
      have small : ¬ (nx = 3 ∧ ny = 3) → locB nx ny z m = true := fun hh => by
        rw [locB_true]
        exact ⟨h, hle.1 h2, fun ex ey => absurd ⟨ex, ey⟩ hh⟩
      refine ⟨fun ha => ?_, fun ha => ?_⟩
      · have ha := of_decide_eq_false ha
        conv => whnf
        refine ⟨fun hb => ?_, fun hb => ?_⟩
        · have hb := of_decide_eq_false hb
          obtain rfl : nx = 3 := by omega
          obtain rfl : ny = 3 := by omega
          have h9 : R9 m := ⟨by omega, h4, Bd.of fun r hr v hv => by have := (g9 r hr).2.1 v hv; omega⟩
          conv => whnf
          refine ACall.use' (l3Most_spec z m km hg h9) ?_
          rintro v hr ⟨rfl, gt, hgt, rfl⟩
          have hl2 := hgt.le (z := 0)
          conv => whnf
          refine ⟨?_, rfl⟩
          rw [locB_of (b := decide (gt ≤ 0))]
          rw [decide_eq_true_iff]
          exact ⟨fun hz => ⟨h, hle.1 h2, fun _ _ => hl2.1 hz⟩, fun hl => hl2.2 (hl.trip rfl rfl)⟩
        · have hb := of_decide_eq_true hb
          conv => whnf
          refine ⟨?_, rfl⟩
          rw [small (by omega)]
      · have ha := of_decide_eq_true ha
        have hs := small (by omega)
        conv => whnf
        refine ⟨fun hh => absurd hh (by simp), fun _ => ?_⟩
        conv => whnf
        exact ⟨by rw [hs], rfl⟩
  · (repeat (conv => whnf); (first | refine ⟨fun h => absurd h (by decide), fun _ => ?_⟩ | refine ⟨fun _ => ?_, fun h => absurd h (by decide)⟩)); conv => whnf
    refine ⟨?_, rfl⟩
    have h : quietF nx ny m = false := by simpa using h
    rw [locB_of (b := false)]
    exact ⟨fun hf => (by cases hf), fun hl => by rw [hl.quiet] at h; cases h⟩
theorem IsLocal_s (x y z : Int) (m : List (List Int)) (km : SzM m) : FSpec Tryz.prog 7 [.ag [.c (.int .i64 (x)), .c (.int .i64 (y)), .c (.int .i64 (z)), .t (.rows m)]] (ex (.tu [.c (.bool (lcV x y z m)), .c (.bool (goodB x y z m))]) []) := by
  refine fspec tyOk mx Tryz.func7 rfl (by kernel_rfl) rfl ?_
  conv => whnf
  refine ACall.use (l2Box_spec x y z m km) ?_
  conv => whnf
  refine ⟨fun h => ?_, fun h => ?_⟩
  · have h : goodB x y z m = false := by simpa using h
    conv => whnf
    exact ⟨by rw [lcV, h]; rfl, rfl⟩
  · have h : goodB x y z m = true := by simpa using h
    have h' := h
    obtain ⟨nx, ny, rfl, rfl, _⟩ := goodB_spec h'
    conv => whnf
    refine ACall.use (l3Local_spec nx ny z m h km) ?_
    conv => whnf
    exact ⟨by rw [lcV, h, Bool.true_and, Int.toNat_natCast, Int.toNat_natCast], rfl⟩
end Go.Proofs.YtkjdplglenjijaaGreat.L
/- Finite sums. -/
namespace Go.Aw
def sm (f : Nat → Int) : Nat → Int
  | 0 => 0
  | n + 1 => sm f n + f n
theorem sm_congr {f g : Nat → Int} : ∀ {n : Nat}, (∀ i, i < n → f i = g i) → sm f n = sm g n
  | 0, _ => rfl
  | n + 1, h => by rw [sm, sm, sm_congr (fun i hi => h i (by omega)), h n (by omega)]
theorem sm_add (f g : Nat → Int) : ∀ n, sm (fun i => f i + g i) n = sm f n + sm g n
  | 0 => rfl
  | n + 1 => by simp only [sm]; rw [sm_add f g n]; omega
theorem sm_sub (f g : Nat → Int) : ∀ n, sm (fun i => f i - g i) n = sm f n - sm g n
  | 0 => rfl
  | n + 1 => by simp only [sm]; rw [sm_sub f g n]; omega
theorem sm_bd {f : Nat → Int} {b : Int} : ∀ {n : Nat}, (∀ i, i < n → -b ≤ f i ∧ f i ≤ b) → -(n * b) ≤ sm f n ∧ sm f n ≤ n * b
  | 0, _ => by simp [sm]
  | n + 1, h => by
      have h1 := sm_bd (fun i hi => h i (Nat.lt_succ_of_lt hi)) (n := n)
      have h2 := h n (by omega)
      rw [sm, show ((n + 1 : Nat) : Int) * b = n * b + b by rw [Int.natCast_add, Int.add_mul]; simp]
      omega
theorem sm_mul (c : Int) (f : Nat → Int) : ∀ n, sm (fun i => c * f i) n = c * sm f n
  | 0 => by simp [sm]
  | n + 1 => by simp only [sm]; rw [sm_mul c f n, Int.mul_add]
theorem sm_mul_r (c : Int) (f : Nat → Int) : ∀ n, sm (fun i => f i * c) n = sm f n * c
  | 0 => by simp [sm]
  | n + 1 => by simp only [sm]; rw [sm_mul_r c f n, Int.add_mul]
theorem sm_zero : ∀ n, sm (fun _ => 0) n = 0
  | 0 => rfl
  | n + 1 => by simp only [sm]; rw [sm_zero n]; rfl
theorem sm_comm (f : Nat → Nat → Int) (k : Nat) : ∀ n, sm (fun i => sm (fun j => f i j) k) n = sm (fun j => sm (fun i => f i j) n) k
  | 0 => by simp only [sm]; exact (sm_zero k).symm
  | n + 1 => by simp only [sm]; rw [sm_comm f k n, ← sm_add]
theorem sm_le {f g : Nat → Int} : ∀ {n : Nat}, (∀ i, i < n → f i ≤ g i) → sm f n ≤ sm g n
  | 0, _ => Int.le_refl _
  | n + 1, h => by
      have h1 := sm_le (fun i hi => h i (Nat.lt_succ_of_lt hi)) (n := n)
      have h2 := h n (by omega)
      simp only [sm]; omega
theorem sm_pos {f : Nat → Int} {n : Nat} (h : ∀ i, i < n → 0 ≤ f i) : 0 ≤ sm f n := by
  have := sm_le (f := fun _ => 0) (g := f) h
  rwa [sm_zero] at this
theorem sm_flat (f : Nat → Int) (k : Nat) : ∀ n, sm (fun i => sm (fun j => f (i * k + j)) k) n = sm f (n * k)
  | 0 => by simp [sm]
  | n + 1 => by
      have hs : ∀ j, sm f (n * k + j) = sm f (n * k) + sm (fun i => f (n * k + i)) j := by
        intro j
        induction j with
        | zero => simp [sm]
        | succ j ih => rw [← Nat.add_assoc]; simp only [sm]; rw [ih]; omega
      simp only [sm]
      rw [sm_flat f k n, Nat.add_mul, Nat.one_mul, hs]
/-- sums that the machine wraps, where they stay small -/
theorem foA {g : Int → Nat → Int} {F : Nat → Int} {B K : Int} {n : Nat} (hF : ∀ x, x < n → 0 ≤ F x ∧ F x ≤ B) (hg : ∀ a x, x < n → 0 ≤ a → a ≤ K → g a x = a + F x) {a0 : Int} (h0 : 0 ≤ a0) (hB : 0 ≤ B) (hK : a0 + n * B ≤ K) :
    ∀ k, k ≤ n → fo g a0 k = a0 + sm F k ∧ a0 ≤ fo g a0 k ∧ fo g a0 k ≤ a0 + k * B
  | 0, _ => by simp [fo, sm]
  | k + 1, hk => by
      obtain ⟨h1, h2, h3⟩ := foA hF hg h0 hB hK k (by omega)
      have hf := hF k (by omega)
      have hm : (k : Int) * B ≤ n * B := Int.mul_le_mul_of_nonneg_right (by omega) hB
      have e := hg (fo g a0 k) k (by omega) (by omega) (by omega)
      have e2 : ((k + 1 : Nat) : Int) * B = k * B + B := by rw [Int.natCast_add, Int.add_mul]; simp
      simp only [fo, sm]
      rw [e, e2]
      exact ⟨by rw [h1]; omega, by omega, by omega⟩
/-- the greatest of some numbers that are 0 at least -/
theorem foM {m2 : Int → Int → Int} (hm : ∀ a b, m2 a b = if b > a then b else a) {f : Nat → Int} : ∀ {n : Nat}, (∀ k, k < n → 0 ≤ f k) →
    0 ≤ fo (fun b k => m2 b (f k)) 0 n ∧ (∀ k, k < n → f k ≤ fo (fun b k => m2 b (f k)) 0 n) ∧ (0 < n → ∃ k, k < n ∧ fo (fun b k => m2 b (f k)) 0 n = f k)
  | 0, _ => ⟨Int.le_refl _, fun k hk => absurd hk (by omega), fun h => absurd h (by omega)⟩
  | n + 1, h => by
      obtain ⟨h0, h1, h2⟩ := foM hm (fun k hk => h k (Nat.lt_succ_of_lt hk)) (n := n)
      have hn := h n (by omega)
      simp only [fo]
      rw [hm]
      split
      · rename_i hgt
        refine ⟨hn, fun k hk => ?_, fun _ => ⟨n, by omega, rfl⟩⟩
        by_cases e : k = n
        · subst e; exact Int.le_refl _
        · have := h1 k (by omega); omega
      · rename_i hgt
        refine ⟨h0, fun k hk => ?_, fun _ => ?_⟩
        · by_cases e : k = n
          · subst e; omega
          · exact h1 k (by omega)
        · by_cases hz : 0 < n
          · obtain ⟨k, hk, e⟩ := h2 hz
            exact ⟨k, by omega, e⟩
          · have : n = 0 := by omega
            subst this
            refine ⟨0, by omega, ?_⟩
            simp only [fo] at hgt ⊢
            omega
end Go.Aw
/- Boxes as tables of numbers: turned around, flipped; what stays. -/
namespace Go.Proofs.YtkjdplglenjijaaGreat.L
open Go.Aw
set_option maxRecDepth 100000

theorem bx_en (F : Nat → Nat → Nat → Nat → Int) {nx ny x y a c : Nat} (hx : x < nx) (hy : y < ny) (ha : a < 2) (hc : c < 2) : enV ny (boxRows F nx ny) x y a c = F x y a c := by
  unfold enV
  rw [boxRows_row F ny nx hx hy, boxRow, range_getD (by omega), show (2 * a + c) / 2 = a by omega, show (2 * a + c) % 2 = c by omega]
theorem bx_congr {F G : Nat → Nat → Nat → Nat → Int} {nx ny : Nat} (h : ∀ x y a c, x < nx → y < ny → a < 2 → c < 2 → F x y a c = G x y a c) : boxRows F nx ny = boxRows G nx ny := by
  unfold boxRows
  show (List.map _ _).flatten = (List.map _ _).flatten
  refine congrArg List.flatten (List.map_congr_left fun x hx => List.map_congr_left fun y hy => List.map_congr_left fun p hp => ?_)
  have hp := List.mem_range.1 hp
  exact h _ _ _ _ (List.mem_range.1 hx) (List.mem_range.1 hy) (by omega) (by omega)
theorem bx_self {nx ny : Nat} {m : List (List Int)} (hm : m.length = nx * ny) (h4 : ∀ r, r ∈ m → r.length = 4) : boxRows (enV ny m) nx ny = m := by
  refine List.ext_getElem (by rw [boxRows_len, hm]) fun q h1 h2 => ?_
  have h1' := h1
  rw [boxRows_len] at h1
  have h0 : 0 < ny := by
    rcases Nat.eq_zero_or_pos ny with e | e
    · subst e; simp at h1
    · exact e
  have e : q / ny * ny + q % ny = q := by rw [Nat.mul_comm]; exact Nat.div_add_mod q ny
  have a : (boxRows (enV ny m) nx ny).getD (q / ny * ny + q % ny) [] = m.getD (q / ny * ny + q % ny) [] := by
    rw [boxRows_row _ ny nx (Nat.div_lt_of_lt_mul (by rw [Nat.mul_comm]; exact h1)) (Nat.mod_lt _ h0)]
    exact row_self (h4 _ (getD_mem (by rw [e]; exact h2)))
  rw [e] at a
  simpa [List.getD_eq_getElem?_getD, h1', h2] using a

/-- a box, its numbers -/
structure GB (nx ny : Nat) (z : Int) (m : List (List Int)) : Prop where
  x1 : 1 ≤ nx
  x3 : nx ≤ 3
  y1 : 1 ≤ ny
  y3 : ny ≤ 3
  z1 : 1 ≤ z
  z2 : z ≤ 1000
  len : m.length = nx * ny
  four : ∀ r, r ∈ m → r.length = 4
  nn : ∀ x y a c, x < nx → y < ny → a < 2 → c < 2 → 0 ≤ enV ny m x y a c
  sum : ∀ x y, x < nx → y < ny → enV ny m x y 0 0 + enV ny m x y 0 1 + enV ny m x y 1 0 + enV ny m x y 1 1 = z
theorem four_en {ny : Nat} {m : List (List Int)} {x y : Nat} (h : (m.getD (x * ny + y) []).length = 4) : m.getD (x * ny + y) [] = [enV ny m x y 0 0, enV ny m x y 0 1, enV ny m x y 1 0, enV ny m x y 1 1] := (row_self h).symm
theorem GB.of {nx ny : Nat} {z : Int} {m : List (List Int)} (hg : goodB nx ny z m = true) : GB nx ny z m := by
  obtain ⟨a, b, ea, eb, g1, g2, g3, g4, g5, g6, g7, g8, g9⟩ := goodB_spec hg
  obtain rfl : nx = a := by omega
  obtain rfl : ny = b := by omega
  refine ⟨g1, g2, g3, g4, g5, g6, g7, fun r hr => (g9 r hr).1, fun x y a c hx hy ha hc => ?_, fun x y hx hy => ?_⟩
  · have h := g9 _ (getD_mem (d := []) (show x * ny + y < m.length by rw [g7]; exact ix_lt hx hy))
    exact (h.2.1 _ (getD_mem (by rw [h.1]; omega))).1
  · obtain ⟨h1, h2, h3⟩ := g9 _ (getD_mem (d := []) (show x * ny + y < m.length by rw [g7]; exact ix_lt hx hy))
    obtain ⟨a, b, c, d, e, _, _, _, _, hs⟩ := row4 g6 h1 h2 h3
    unfold enV
    rw [e]
    exact hs
theorem GB.en_le {nx ny : Nat} {z : Int} {m : List (List Int)} (h : GB nx ny z m) {x y a c : Nat} (hx : x < nx) (hy : y < ny) (ha : a < 2) (hc : c < 2) : 0 ≤ enV ny m x y a c ∧ enV ny m x y a c ≤ z := by
  have s := h.sum x y hx hy
  have n0 := h.nn x y 0 0 hx hy (by omega) (by omega)
  have n1 := h.nn x y 0 1 hx hy (by omega) (by omega)
  have n2 := h.nn x y 1 0 hx hy (by omega) (by omega)
  have n3 := h.nn x y 1 1 hx hy (by omega) (by omega)
  have : (a = 0 ∧ c = 0) ∨ (a = 0 ∧ c = 1) ∨ (a = 1 ∧ c = 0) ∨ (a = 1 ∧ c = 1) := by omega
  rcases this with ⟨rfl, rfl⟩ | ⟨rfl, rfl⟩ | ⟨rfl, rfl⟩ | ⟨rfl, rfl⟩ <;> omega
theorem GB.good {nx ny : Nat} {z : Int} {m : List (List Int)} (h : GB nx ny z m) : goodB nx ny z m = true := by
  have x1 := h.x1; have x3 := h.x3; have y1 := h.y1; have y3 := h.y3; have z1 := h.z1; have z2 := h.z2; have hl := h.len
  simp only [goodB, szOk, inR, Bool.and_eq_true, decide_eq_true_eq, List.all_eq_true]
  refine ⟨⟨⟨⟨by omega, by omega⟩, by omega⟩, by rw [hl, Int.natCast_mul]⟩, fun r hr => ?_⟩
  obtain ⟨q, hq, rfl⟩ := List.mem_iff_getElem.1 hr
  have e : q / ny * ny + q % ny = q := by rw [Nat.mul_comm]; exact Nat.div_add_mod q ny
  have hx : q / ny < nx := Nat.div_lt_of_lt_mul (by rw [Nat.mul_comm, ← hl]; exact hq)
  have hy : q % ny < ny := Nat.mod_lt _ (by omega)
  have h4 := h.four _ hr
  have er : m[q] = [enV ny m (q / ny) (q % ny) 0 0, enV ny m (q / ny) (q % ny) 0 1, enV ny m (q / ny) (q % ny) 1 0, enV ny m (q / ny) (q % ny) 1 1] := by
    have a : m.getD (q / ny * ny + q % ny) [] = m[q] := by rw [e]; simp [List.getD, hq]
    rw [← a]
    exact four_en (by rw [a]; exact h4)
  have s := h.sum _ _ hx hy
  have n0 := h.en_le hx hy (show 0 < 2 by omega) (show 0 < 2 by omega)
  have n1 := h.en_le hx hy (show 0 < 2 by omega) (show 1 < 2 by omega)
  have n2 := h.en_le hx hy (show 1 < 2 by omega) (show 0 < 2 by omega)
  have n3 := h.en_le hx hy (show 1 < 2 by omega) (show 1 < 2 by omega)
  rw [er]
  generalize enV ny m (q / ny) (q % ny) 0 0 = a0 at *
  generalize enV ny m (q / ny) (q % ny) 0 1 = a1 at *
  generalize enV ny m (q / ny) (q % ny) 1 0 = a2 at *
  generalize enV ny m (q / ny) (q % ny) 1 1 = a3 at *
  have es : sumF [a0, a1, a2, a3] 4 = W (W (W (W (0 + a0) + a1) + a2) + a3) := rfl
  have w : ∀ n : Int, -100000 ≤ n → n ≤ 100000 → W n = n := fun n h1 h2 => w64 (by omega) (by omega)
  simp only [rowOk, rowIn, inR, Bool.and_eq_true, decide_eq_true_eq, List.all_eq_true, List.length_cons, List.length_nil]
  refine ⟨⟨trivial, fun x hx => ?_⟩, ?_⟩
  · simp only [List.mem_cons, List.not_mem_nil, or_false] at hx
    rcases hx with rfl | rfl | rfl | rfl <;> omega
  · rw [es, w (0 + a0) (by omega) (by omega), w (0 + a0 + a1) (by omega) (by omega), w (0 + a0 + a1 + a2) (by omega) (by omega), w _ (by omega) (by omega)]
    omega

/-- agreements -/
theorem GB.ag {nx ny : Nat} {z : Int} {m : List (List Int)} (h : GB nx ny z m) {x y : Nat} (hx : x < nx) (hy : y < ny) : agAt m (x * ny + y) = enV ny m x y 0 0 - enV ny m x y 0 1 - enV ny m x y 1 0 + enV ny m x y 1 1 := by
  have z2 := h.z2
  have n0 := h.en_le hx hy (show 0 < 2 by omega) (show 0 < 2 by omega)
  have n1 := h.en_le hx hy (show 0 < 2 by omega) (show 1 < 2 by omega)
  have n2 := h.en_le hx hy (show 1 < 2 by omega) (show 0 < 2 by omega)
  have n3 := h.en_le hx hy (show 1 < 2 by omega) (show 1 < 2 by omega)
  have h4 := h.four _ (getD_mem (d := []) (show x * ny + y < m.length by rw [h.len]; exact ix_lt hx hy))
  have w : ∀ n : Int, -100000 ≤ n → n ≤ 100000 → W n = n := fun n h1 h2 => w64 (by omega) (by omega)
  unfold agAt
  rw [four_en h4]
  show W (W (W (enV ny m x y 0 0 - enV ny m x y 0 1) - enV ny m x y 1 0) + enV ny m x y 1 1) = _
  rw [w (enV ny m x y 0 0 - enV ny m x y 0 1) (by omega) (by omega), w (enV ny m x y 0 0 - enV ny m x y 0 1 - enV ny m x y 1 0) (by omega) (by omega), w _ (by omega) (by omega)]

/-! turned around -/
theorem sw_en {nx ny : Nat} (m : List (List Int)) {x y a c : Nat} (hx : x < ny) (hy : y < nx) (ha : a < 2) (hc : c < 2) : enV nx (swG nx ny m) x y a c = enV ny m y x c a := bx_en _ hx hy ha hc
theorem GB.sw {nx ny : Nat} {z : Int} {m : List (List Int)} (h : GB nx ny z m) : GB ny nx z (swG nx ny m) := by
  refine ⟨h.y1, h.y3, h.x1, h.x3, h.z1, h.z2, boxRows_len _ _ _, boxRows_four, fun x y a c hx hy ha hc => ?_, fun x y hx hy => ?_⟩
  · rw [sw_en m hx hy ha hc]; exact h.nn _ _ _ _ hy hx hc ha
  · have s := h.sum _ _ hy hx
    rw [sw_en m hx hy (by omega) (by omega), sw_en m hx hy (by omega) (by omega), sw_en m hx hy (by omega) (by omega), sw_en m hx hy (by omega) (by omega)]
    omega
theorem sw_sw {nx ny : Nat} {m : List (List Int)} (hm : m.length = nx * ny) (h4 : ∀ r, r ∈ m → r.length = 4) : swG ny nx (swG nx ny m) = m := by
  rw [← bx_self hm h4]
  conv => lhs; unfold swG
  refine bx_congr fun x y a c hx hy ha hc => ?_
  rw [show boxRows (fun x y a c => enV ny (boxRows (enV ny m) nx ny) y x c a) ny nx = swG nx ny (boxRows (enV ny m) nx ny) from rfl, sw_en _ hy hx hc ha, bx_en _ hx hy ha hc]

/-! flipped -/
def OkE (n : Nat) (e : List Int) : Prop := e.length = n ∧ ∀ v, v ∈ e → 0 ≤ v ∧ v ≤ 1
theorem OkE.at {n : Nat} {e : List Int} (h : OkE n e) (i : Nat) : e.getD i 0 = 0 ∨ e.getD i 0 = 1 := by
  by_cases hi : i < e.length
  · have := h.2 _ (getD_mem (d := 0) hi); omega
  · left; rw [List.getD_eq_getElem?_getD, List.getElem?_eq_none (by omega)]; rfl
theorem fl_en {nx ny : Nat} (m : List (List Int)) (e : List Int) {x y a c : Nat} (hx : x < nx) (hy : y < ny) (ha : a < 2) (hc : c < 2) : enV ny (flG nx ny m e) x y a c = enV ny m x y (xb a (e.getD x 0)) (xb c (e.getD (nx + y) 0)) := bx_en _ hx hy ha hc
theorem xb0 (a : Nat) : xb a 0 = a := if_pos rfl
theorem xb1 (a : Nat) : xb a 1 = 1 - a := if_neg (by decide)
theorem GB.fl {nx ny : Nat} {z : Int} {m : List (List Int)} (h : GB nx ny z m) {e : List Int} (he : OkE (nx + ny) e) : GB nx ny z (flG nx ny m e) := by
  refine ⟨h.x1, h.x3, h.y1, h.y3, h.z1, h.z2, boxRows_len _ _ _, boxRows_four, fun x y a c hx hy ha hc => ?_, fun x y hx hy => ?_⟩
  · rw [fl_en m e hx hy ha hc]; exact h.nn _ _ _ _ hx hy (xb_lt ha) (xb_lt hc)
  · have s := h.sum _ _ hx hy
    rw [fl_en m e hx hy (by omega) (by omega), fl_en m e hx hy (by omega) (by omega), fl_en m e hx hy (by omega) (by omega), fl_en m e hx hy (by omega) (by omega)]
    rcases he.at x with h1 | h1 <;> rcases he.at (nx + y) with h2 | h2 <;> rw [h1, h2] <;> simp only [xb0, xb1, Nat.sub_zero, Nat.sub_self] <;> omega
theorem GB.ag_fl {nx ny : Nat} {z : Int} {m : List (List Int)} (h : GB nx ny z m) {e : List Int} (he : OkE (nx + ny) e) {x y : Nat} (hx : x < nx) (hy : y < ny) : agAt (flG nx ny m e) (x * ny + y) = if e.getD x 0 = e.getD (nx + y) 0 then agAt m (x * ny + y) else -agAt m (x * ny + y) := by
  rw [(h.fl he).ag hx hy, h.ag hx hy, fl_en m e hx hy (by omega) (by omega), fl_en m e hx hy (by omega) (by omega), fl_en m e hx hy (by omega) (by omega), fl_en m e hx hy (by omega) (by omega)]
  rcases he.at x with h1 | h1 <;> rcases he.at (nx + y) with h2 | h2 <;> rw [h1, h2] <;> simp only [xb0, xb1] <;> simp <;> omega

/-! quiet boxes -/
def nP (ny : Nat) (m : List (List Int)) (x : Nat) : Int := enV ny m x 0 1 0 + enV ny m x 0 1 1
def nQ (ny : Nat) (m : List (List Int)) (y : Nat) : Int := enV ny m 0 y 0 1 + enV ny m 0 y 1 1
structure QB (nx ny : Nat) (z : Int) (m : List (List Int)) : Prop extends GB nx ny z m where
  pp : ∀ x y, x < nx → y < ny → enV ny m x y 1 0 + enV ny m x y 1 1 = nP ny m x
  qq : ∀ x y, x < nx → y < ny → enV ny m x y 0 1 + enV ny m x y 1 1 = nQ ny m y
theorem GB.ones {nx ny : Nat} {z : Int} {m : List (List Int)} (h : GB nx ny z m) {x y : Nat} (hx : x < nx) (hy : y < ny) : one0 (m.getD (x * ny + y) []) = enV ny m x y 1 0 + enV ny m x y 1 1 ∧ one1 (m.getD (x * ny + y) []) = enV ny m x y 0 1 + enV ny m x y 1 1 := by
  have z2 := h.z2
  have n1 := h.en_le hx hy (show 0 < 2 by omega) (show 1 < 2 by omega)
  have n2 := h.en_le hx hy (show 1 < 2 by omega) (show 0 < 2 by omega)
  have n3 := h.en_le hx hy (show 1 < 2 by omega) (show 1 < 2 by omega)
  exact ⟨w64 (n := enV ny m x y 1 0 + enV ny m x y 1 1) (by omega) (by omega), w64 (n := enV ny m x y 0 1 + enV ny m x y 1 1) (by omega) (by omega)⟩
theorem QB.iff {nx ny : Nat} {z : Int} {m : List (List Int)} (h : GB nx ny z m) : quietF nx ny m = true ↔ QB nx ny z m := by
  have x1 := h.x1; have y1 := h.y1
  simp only [quietF, Bool.and_eq_true, List.all_eq_true, List.mem_range, q0r, q0, q1r, q1, beq_iff_eq]
  constructor
  · rintro ⟨h1, h2⟩
    refine ⟨h, fun x y hx hy => ?_, fun x y hx hy => ?_⟩
    · have := h1 x hx y hy
      rw [(h.ones hx hy).1, (h.ones hx (show 0 < ny by omega)).1] at this
      exact this
    · have := h2 y hy x hx
      rw [(h.ones hx hy).2, (h.ones (show 0 < nx by omega) hy).2] at this
      exact this
  · intro q
    refine ⟨fun x hx y hy => ?_, fun y hy x hx => ?_⟩
    · rw [(h.ones hx hy).1, (h.ones hx (show 0 < ny by omega)).1, q.pp x y hx hy, q.pp x 0 hx (by omega)]
    · rw [(h.ones hx hy).2, (h.ones (show 0 < nx by omega) hy).2, q.qq x y hx hy, q.qq 0 y (by omega) hy]
theorem QB.sw {nx ny : Nat} {z : Int} {m : List (List Int)} (h : QB nx ny z m) : QB ny nx z (swG nx ny m) := by
  have x1 := h.x1; have y1 := h.y1
  have two : ∀ x y, x < ny → y < nx → enV nx (swG nx ny m) x y 1 0 + enV nx (swG nx ny m) x y 1 1 = nQ ny m x := fun x y hx hy => by
    rw [sw_en m hx hy (by omega) (by omega), sw_en m hx hy (by omega) (by omega)]; exact h.qq y x hy hx
  have one : ∀ x y, x < ny → y < nx → enV nx (swG nx ny m) x y 0 1 + enV nx (swG nx ny m) x y 1 1 = nP ny m y := fun x y hx hy => by
    rw [sw_en m hx hy (by omega) (by omega), sw_en m hx hy (by omega) (by omega)]; exact h.pp y x hy hx
  exact ⟨h.toGB.sw, fun x y hx hy => by rw [two x y hx hy]; exact (two x 0 hx (by omega)).symm, fun x y hx hy => by rw [one x y hx hy]; exact (one 0 y (by omega) hy).symm⟩
theorem QB.fl {nx ny : Nat} {z : Int} {m : List (List Int)} (h : QB nx ny z m) {e : List Int} (he : OkE (nx + ny) e) : QB nx ny z (flG nx ny m e) := by
  have x1 := h.x1; have y1 := h.y1
  have two : ∀ x y, x < nx → y < ny → enV ny (flG nx ny m e) x y 1 0 + enV ny (flG nx ny m e) x y 1 1 = if e.getD x 0 = 0 then nP ny m x else z - nP ny m x := fun x y hx hy => by
    have s := h.sum x y hx hy
    have p := h.pp x y hx hy
    rw [fl_en m e hx hy (by omega) (by omega), fl_en m e hx hy (by omega) (by omega)]
    rcases he.at x with h1 | h1 <;> rcases he.at (nx + y) with h2 | h2 <;> rw [h1, h2] <;> simp only [xb0, xb1] <;> simp <;> omega
  have one : ∀ x y, x < nx → y < ny → enV ny (flG nx ny m e) x y 0 1 + enV ny (flG nx ny m e) x y 1 1 = if e.getD (nx + y) 0 = 0 then nQ ny m y else z - nQ ny m y := fun x y hx hy => by
    have s := h.sum x y hx hy
    have p := h.qq x y hx hy
    rw [fl_en m e hx hy (by omega) (by omega), fl_en m e hx hy (by omega) (by omega)]
    rcases he.at x with h1 | h1 <;> rcases he.at (nx + y) with h2 | h2 <;> rw [h1, h2] <;> simp only [xb0, xb1] <;> simp <;> omega
  exact ⟨h.toGB.fl he, fun x y hx hy => by rw [two x y hx hy]; exact (two x 0 hx (by omega)).symm, fun x y hx hy => by rw [one x y hx hy]; exact (one 0 y (by omega) hy).symm⟩
end Go.Proofs.YtkjdplglenjijaaGreat.L
/- Local boxes: turned around and flipped they stay so. -/
namespace Go.Proofs.YtkjdplglenjijaaGreat.L
open Go.Aw
set_option maxRecDepth 100000

theorem abV_le {t b : Int} (h : abV t ≤ b) : -b ≤ t ∧ t ≤ b := by unfold abV at h; split at h <;> omega
theorem abV_of {t b : Int} (h : -b ≤ t ∧ t ≤ b) : abV t ≤ b := by unfold abV; split <;> omega
theorem ordL {f : List Int} (hf : f ∈ ords) (x : Nat) : (f.getD x 0).toNat < 3 := by
  by_cases hx : x < f.length
  · have := (ords_ok hf).2 _ (getD_mem (d := 0) hx); omega
  · rw [List.getD_eq_getElem?_getD, List.getElem?_eq_none (by omega)]; decide
/-- what a box becomes, as a table -/
def trF (m : List (List Int)) (s : Nat) (f g fl : List Int) (x y a c : Nat) : Int := enV 3 (stt m s) (f.getD x 0).toNat (g.getD y 0).toNat (xb a (fl.getD x 0)) (xb c (fl.getD (3 + y) 0))
theorem trm_eq {m : List (List Int)} {s : Nat} {f g fl : List Int} (hf : f ∈ ords) (hg : g ∈ ords) : trm m s f g fl = boxRows (trF m s f g fl) 3 3 := by
  have lf := (ords_ok hf).1
  have lg := (ords_ok hg).1
  unfold trm flG
  refine bx_congr fun x y a c hx hy ha hc => ?_
  rw [agG, lf, lg, bx_en _ hx hy (xb_lt ha) (xb_lt hc)]; rfl
def fx (u v : Int) : Int := if u = v then 0 else 1
theorem xb_fx {a : Nat} {u v : Int} (ha : a < 2) (hu : u = 0 ∨ u = 1) (hv : v = 0 ∨ v = 1) : xb (xb a u) v = xb a (fx u v) := by
  have : a = 0 ∨ a = 1 := by omega
  rcases this with rfl | rfl <;> rcases hu with rfl | rfl <;> rcases hv with rfl | rfl <;> rfl
theorem fx_01 (u v : Int) : 0 ≤ fx u v ∧ fx u v ≤ 1 := by unfold fx; split <;> omega
def eS (e : List Int) (s i : Nat) : Int := if s = 0 then e.getD i 0 else e.getD ((i + 3) % 6) 0
theorem eS_01 {e : List Int} (he : OkE 6 e) (s i : Nat) : eS e s i = 0 ∨ eS e s i = 1 := by unfold eS; split <;> exact he.at _
theorem stt_fl {m : List (List Int)} (e : List Int) {s i j a c : Nat} (hs : s < 2) (hi : i < 3) (hj : j < 3) (ha : a < 2) (hc : c < 2) :
    enV 3 (stt (flG 3 3 m e) s) i j a c = enV 3 (stt m s) i j (xb a (eS e s i)) (xb c (eS e s (3 + j))) := by
  have : s = 0 ∨ s = 1 := by omega
  rcases this with rfl | rfl
  · exact fl_en m e hi hj ha hc
  · show enV 3 (swG 3 3 (flG 3 3 m e)) i j a c = enV 3 (swG 3 3 m) i j _ _
    rw [sw_en _ hi hj ha hc, fl_en m e hj hi hc ha, sw_en _ hi hj (xb_lt ha) (xb_lt hc)]
    have e1 : eS e 1 i = e.getD (3 + i) 0 := by unfold eS; rw [if_neg (by omega)]; congr 1; omega
    have e2 : eS e 1 (3 + j) = e.getD j 0 := by unfold eS; rw [if_neg (by omega)]; congr 1; omega
    rw [e1, e2]
theorem trm_fl {m : List (List Int)} {e f g fl : List Int} {s : Nat} (he : OkE 6 e) (hfl : OkFl fl) (hf : f ∈ ords) (hg : g ∈ ords) (hs : s < 2) : ∃ fl', OkFl fl' ∧ trm (flG 3 3 m e) s f g fl = trm m s f g fl' := by
  have hfl' : OkE 6 fl := hfl
  let F : Nat → Int := fun x => fx (fl.getD x 0) (eS e s (f.getD x 0).toNat)
  let G : Nat → Int := fun y => fx (fl.getD (3 + y) 0) (eS e s (3 + (g.getD y 0).toNat))
  refine ⟨[F 0, F 1, F 2, G 0, G 1, G 2], ⟨rfl, fun v hv => ?_⟩, ?_⟩
  · simp only [List.mem_cons, List.not_mem_nil, or_false] at hv
    rcases hv with rfl | rfl | rfl | rfl | rfl | rfl <;> exact fx_01 _ _
  · rw [trm_eq hf hg, trm_eq hf hg]
    refine bx_congr fun x y a c hx hy ha hc => ?_
    have h1 : ([F 0, F 1, F 2, G 0, G 1, G 2] : List Int).getD x 0 = F x := by
      have : x = 0 ∨ x = 1 ∨ x = 2 := by omega
      rcases this with rfl | rfl | rfl <;> rfl
    have h2 : ([F 0, F 1, F 2, G 0, G 1, G 2] : List Int).getD (3 + y) 0 = G y := by
      have : y = 0 ∨ y = 1 ∨ y = 2 := by omega
      rcases this with rfl | rfl | rfl <;> rfl
    unfold trF
    rw [stt_fl e hs (ordL hf x) (ordL hg y) (xb_lt ha) (xb_lt hc), h1, h2, xb_fx ha (hfl'.at _) (eS_01 he _ _), xb_fx hc (hfl'.at _) (eS_01 he _ _)]
theorem trm_sw {m : List (List Int)} (hm : m.length = 3 * 3) (h4 : ∀ r, r ∈ m → r.length = 4) {s : Nat} (hs : s < 2) (f g fl : List Int) : trm (swG 3 3 m) s f g fl = trm m (1 - s) f g fl := by
  have : s = 0 ∨ s = 1 := by omega
  rcases this with rfl | rfl
  · rfl
  · show flG 3 3 (agG 3 (swG 3 3 (swG 3 3 m)) f g) fl = flG 3 3 (agG 3 m f g) fl
    rw [sw_sw hm h4]

theorem GB.ag_sw {nx ny : Nat} {z : Int} {m : List (List Int)} (h : GB nx ny z m) {x y : Nat} (hx : x < ny) (hy : y < nx) : agAt (swG nx ny m) (x * nx + y) = agAt m (y * ny + x) := by
  rw [h.sw.ag hx hy, h.ag hy hx, sw_en m hx hy (by omega) (by omega), sw_en m hx hy (by omega) (by omega), sw_en m hx hy (by omega) (by omega), sw_en m hx hy (by omega) (by omega)]
  omega
/-- the four sums of two questions each -/
theorem loc4 {nx ny : Nat} {z : Int} {m : List (List Int)} (hl : Go.Aw.Loc nx ny z m) {a b c d : Nat} (h1 : a < b) (h2 : b < nx) (h3 : c < d) (h4 : d < ny) :
    (-(2 * z) ≤ -agAt m (a * ny + c) + agAt m (a * ny + d) + agAt m (b * ny + c) + agAt m (b * ny + d) ∧ -agAt m (a * ny + c) + agAt m (a * ny + d) + agAt m (b * ny + c) + agAt m (b * ny + d) ≤ 2 * z) ∧
    (-(2 * z) ≤ agAt m (a * ny + c) - agAt m (a * ny + d) + agAt m (b * ny + c) + agAt m (b * ny + d) ∧ agAt m (a * ny + c) - agAt m (a * ny + d) + agAt m (b * ny + c) + agAt m (b * ny + d) ≤ 2 * z) ∧
    (-(2 * z) ≤ agAt m (a * ny + c) + agAt m (a * ny + d) - agAt m (b * ny + c) + agAt m (b * ny + d) ∧ agAt m (a * ny + c) + agAt m (a * ny + d) - agAt m (b * ny + c) + agAt m (b * ny + d) ≤ 2 * z) ∧
    (-(2 * z) ≤ agAt m (a * ny + c) + agAt m (a * ny + d) + agAt m (b * ny + c) - agAt m (b * ny + d) ∧ agAt m (a * ny + c) + agAt m (a * ny + d) + agAt m (b * ny + c) - agAt m (b * ny + d) ≤ 2 * z) := by
  have s0 := abV_le (hl.sums a b c d 0 h1 h2 h3 h4 (by omega))
  have s1 := abV_le (hl.sums a b c d 1 h1 h2 h3 h4 (by omega))
  have s2 := abV_le (hl.sums a b c d 2 h1 h2 h3 h4 (by omega))
  have s3 := abV_le (hl.sums a b c d 3 h1 h2 h3 h4 (by omega))
  simp only [sum4V, sgn] at s0 s1 s2 s3
  simp at s0 s1 s2 s3
  omega
theorem sum4_of {ny : Nat} {m : List (List Int)} {a b c d k : Nat} {z : Int} (hk : k < 4)
    (h : (-(2 * z) ≤ -agAt m (a * ny + c) + agAt m (a * ny + d) + agAt m (b * ny + c) + agAt m (b * ny + d) ∧ -agAt m (a * ny + c) + agAt m (a * ny + d) + agAt m (b * ny + c) + agAt m (b * ny + d) ≤ 2 * z) ∧
    (-(2 * z) ≤ agAt m (a * ny + c) - agAt m (a * ny + d) + agAt m (b * ny + c) + agAt m (b * ny + d) ∧ agAt m (a * ny + c) - agAt m (a * ny + d) + agAt m (b * ny + c) + agAt m (b * ny + d) ≤ 2 * z) ∧
    (-(2 * z) ≤ agAt m (a * ny + c) + agAt m (a * ny + d) - agAt m (b * ny + c) + agAt m (b * ny + d) ∧ agAt m (a * ny + c) + agAt m (a * ny + d) - agAt m (b * ny + c) + agAt m (b * ny + d) ≤ 2 * z) ∧
    (-(2 * z) ≤ agAt m (a * ny + c) + agAt m (a * ny + d) + agAt m (b * ny + c) - agAt m (b * ny + d) ∧ agAt m (a * ny + c) + agAt m (a * ny + d) + agAt m (b * ny + c) - agAt m (b * ny + d) ≤ 2 * z)) : abV (sum4V ny m a b c d k) ≤ 2 * z := by
  refine abV_of ?_
  have : k = 0 ∨ k = 1 ∨ k = 2 ∨ k = 3 := by omega
  rcases this with rfl | rfl | rfl | rfl <;> simp only [sum4V, sgn] <;> simp <;> omega
theorem locSw {nx ny : Nat} {z : Int} {m : List (List Int)} (h : GB nx ny z m) (hl : Go.Aw.Loc nx ny z m) : Go.Aw.Loc ny nx z (swG nx ny m) := by
  refine ⟨(QB.iff h.sw).2 ((QB.iff h).1 hl.quiet).sw, fun a b c d k h1 h2 h3 h4 hk => sum4_of hk ?_, fun ey ex s f g fl hs hf hg hfl => ?_⟩
  · have q := loc4 hl h3 h4 h1 h2
    rw [h.ag_sw (by omega) (by omega), h.ag_sw (by omega) (by omega), h.ag_sw (by omega) (by omega), h.ag_sw (by omega) (by omega)]
    omega
  · subst ex; subst ey
    rw [trm_sw h.len h.four hs]
    exact hl.trip rfl rfl _ _ _ _ (by omega) hf hg hfl
theorem locFl {nx ny : Nat} {z : Int} {m : List (List Int)} (h : GB nx ny z m) (hl : Go.Aw.Loc nx ny z m) {e : List Int} (he : OkE (nx + ny) e) : Go.Aw.Loc nx ny z (flG nx ny m e) := by
  refine ⟨(QB.iff (h.fl he)).2 (((QB.iff h).1 hl.quiet).fl he), fun a b c d k h1 h2 h3 h4 hk => sum4_of hk ?_, fun ex ey s f g fl hs hf hg hfl => ?_⟩
  · have q := loc4 hl h1 h2 h3 h4
    rw [h.ag_fl he (by omega) (by omega), h.ag_fl he (by omega) (by omega), h.ag_fl he (by omega) (by omega), h.ag_fl he (by omega) (by omega)]
    rcases he.at a with e1 | e1 <;> rcases he.at b with e2 | e2 <;> rcases he.at (nx + c) with e3 | e3 <;> rcases he.at (nx + d) with e4 | e4 <;> rw [e1, e2, e3, e4] <;> simp <;> omega
  · subst ex; subst ey
    obtain ⟨fl', h1, h2⟩ := trm_fl (m := m) (s := s) he hfl hf hg hs
    rw [h2]
    exact hl.trip rfl rfl _ _ _ _ hs hf hg h1
/-- local just as it is turned around, or flipped -/
theorem loc_sw {nx ny : Nat} {z : Int} {m : List (List Int)} (h : GB nx ny z m) : locB ny nx z (swG nx ny m) = locB nx ny z m :=
  locB_of ⟨fun hb => locSw h (locB_true.1 hb), fun hl => locB_true.2 (by have := locSw h.sw hl; rwa [sw_sw h.len h.four] at this)⟩
theorem fl_fl {nx ny : Nat} {m : List (List Int)} (hm : m.length = nx * ny) (h4 : ∀ r, r ∈ m → r.length = 4) {e : List Int} (he : OkE (nx + ny) e) : flG nx ny (flG nx ny m e) e = m := by
  rw [← bx_self hm h4]
  conv => lhs; unfold flG
  refine bx_congr fun x y a c hx hy ha hc => ?_
  have hxx : ∀ (a : Nat) (u : Int), a < 2 → (u = 0 ∨ u = 1) → xb (xb a u) u = a := fun a u ha hu => by
    have : a = 0 ∨ a = 1 := by omega
    rcases this with rfl | rfl <;> rcases hu with rfl | rfl <;> rfl
  rw [show boxRows (fun x y a c => enV ny (boxRows (enV ny m) nx ny) x y (xb a (e.getD x 0)) (xb c (e.getD (nx + y) 0))) nx ny = flG nx ny (boxRows (enV ny m) nx ny) e from rfl, fl_en _ e hx hy (xb_lt ha) (xb_lt hc), hxx a _ ha (he.at _), hxx c _ hc (he.at _), bx_en _ hx hy ha hc]
theorem loc_fl {nx ny : Nat} {z : Int} {m : List (List Int)} (h : GB nx ny z m) {e : List Int} (he : OkE (nx + ny) e) : locB nx ny z (flG nx ny m e) = locB nx ny z m :=
  locB_of ⟨fun hb => locFl h (locB_true.1 hb) he, fun hl => locB_true.2 (by have := locFl (h.fl he) hl he; rwa [fl_fl h.len h.four he] at this)⟩
/-- one question of a player: local just as quiet -/
theorem loc_one {nx ny : Nat} {z : Int} {m : List (List Int)} (h1 : nx = 1 ∨ ny = 1) : locB nx ny z m = quietF nx ny m :=
  locB_of ⟨fun hq => ⟨hq, fun a b c d k _ _ _ _ _ => by omega, fun _ _ => by omega⟩, fun hl => hl.quiet⟩
theorem loc_quiet {nx ny : Nat} {z : Int} {m : List (List Int)} (h : locB nx ny z m = true) : quietF nx ny m = true := (locB_true.1 h).quiet
end Go.Proofs.YtkjdplglenjijaaGreat.L
/- IsQuiet, AgreementsOf: the program. -/
namespace Go.Proofs.YtkjdplglenjijaaGreat
open Go.Aw
set_option maxRecDepth 100000
set_option maxHeartbeats 4000000

theorem IsQuiet_i (x y z : Int) (m : List (List Int)) (km : SzM m) : FSpec Tryz.prog 20 [.ag [.c (.int .i64 (x)), .c (.int .i64 (y)), .c (.int .i64 (z)), .t (.rows m)]] (ex (.tu [.c (.bool (quietB x y z m)), .c (.bool (goodB x y z m))]) []) := by
  refine fspec tyOk mx Tryz.func20 rfl (by kernel_rfl) rfl ?_
  conv => whnf
  refine ACall.use (IsBox_spec x y z m km) ?_
  conv => whnf
  refine ⟨fun h => ?_, fun h => ?_⟩
  · have h : goodB x y z m = false := by simpa using h
    conv => whnf
    exact ⟨by rw [quietB, h]; rfl, rfl⟩
  · have h : goodB x y z m = true := by simpa using h
    conv => whnf
    refine ACall.use (isQuiet_spec x y z m km) ?_
    conv => whnf
    exact ⟨by rw [h], rfl⟩
end Go.Proofs.YtkjdplglenjijaaGreat
/- What FnLocal calls: contracts. -/
namespace Go.Proofs.YtkjdplglenjijaaGreat.L
open Go.Aw
set_option maxRecDepth 100000
set_option maxHeartbeats 4000000

theorem goodB_nat {x y z : Int} {m : List (List Int)} (h : goodB x y z m = true) : ∃ nx ny : Nat, x = nx ∧ y = ny := by
  obtain ⟨a, b, ea, eb, _⟩ := goodB_spec h
  exact ⟨a, b, ea, eb⟩
theorem GB.r9 {z : Int} {m : List (List Int)} (h : GB 3 3 z m) : R9 m := ⟨h.len, h.four, Bd.of fun r hr v hv => by
  obtain ⟨a, b, ea, eb, g1, g2, g3, g4, g5, g6, g7, g8, g9⟩ := goodB_spec h.good
  have := (g9 r hr).2.1 v hv; omega⟩
/-- quiet, with three questions each -/
def trB (x y z : Int) (m : List (List Int)) : Bool := quietB x y z m && (decide (x = 3) && decide (y = 3))
theorem trB_of {x y z : Int} {m : List (List Int)} (h : trB x y z m = true) : x = 3 ∧ y = 3 ∧ QB 3 3 z m := by
  simp only [trB, quietB, Bool.and_eq_true, decide_eq_true_eq] at h
  obtain ⟨⟨h1, h2⟩, rfl, rfl⟩ := h
  exact ⟨rfl, rfl, (QB.iff (GB.of (nx := 3) (ny := 3) h1)).1 h2⟩
theorem isTriple_i (x y z : Int) (m : List (List Int)) (km : SzM m) : FSpec Tryz.prog 27 [.ag [.c (.int .i64 (x)), .c (.int .i64 (y)), .c (.int .i64 (z)), .t (.rows m)]] (ex (.c (.bool (trB x y z m))) []) := by
  refine fspec tyOk mx Tryz.func27 rfl (by kernel_rfl) rfl ?_
  conv => whnf
  refine ACall.use (isQuiet_spec x y z m km) ?_
  conv => whnf
  refine ⟨fun h => ?_, fun h => ?_⟩
  · conv => whnf
    refine ⟨fun h2 => ?_, fun h2 => ?_⟩
    · conv => whnf
      refine ⟨?_, rfl⟩
      have h2 : x = 3 := by simpa using h2
      rw [trB, h, decide_eq_true h2]
      rfl
    · have h2 : ¬ x = 3 := by simpa using h2
      conv => whnf
      refine ⟨?_, rfl⟩
      rw [trB, h, decide_eq_false h2]
      rfl
  · (repeat (conv => whnf); (first | refine ⟨fun h => absurd h (by decide), fun _ => ?_⟩ | refine ⟨fun _ => ?_, fun h => absurd h (by decide)⟩)); conv => whnf
    refine ⟨?_, rfl⟩
    rw [trB, h]; rfl
theorem l3Three_s (x y z : Int) (m : List (List Int)) (km : SzM m) : FSpec Tryz.prog 29 [.ag [.c (.int .i64 (x)), .c (.int .i64 (y)), .c (.int .i64 (z)), .t (.rows m)]] (ex (.c (.bool (trB x y z m))) []) := by
  refine fspec tyOk mx Tryz.func29 rfl (by kernel_rfl) rfl ?_
  conv => whnf
  refine ACall.use (l2Box_spec x y z m km) ?_
  conv => whnf
  refine ⟨fun h => ?_, fun h => ?_⟩
  · obtain ⟨nx, ny, rfl, rfl⟩ := goodB_nat h
    have hG := GB.of h
    have eq : quietB nx ny z m = quietF nx ny m := by rw [quietB, h, Bool.true_and, Int.toNat_natCast, Int.toNat_natCast]
    conv => whnf
    refine ACall.use (l2Quiet_spec nx ny z m hG.x3 hG.y3 hG.y1 hG.x1 hG.len hG.four) ?_
    rw [← eq]
    conv => whnf
    refine ⟨fun h1 => ?_, fun h1 => ?_⟩
    · conv => whnf
      refine ⟨fun h2 => ?_, fun h2 => ?_⟩
      · conv => whnf
        refine ⟨?_, rfl⟩
        have h2 : (nx : Int) = 3 := by simpa using h2
        rw [trB, h1, decide_eq_true h2]
        rfl
      · have h2 : ¬ (nx : Int) = 3 := by simpa using h2
        conv => whnf
        refine ⟨?_, rfl⟩
        rw [trB, h1, decide_eq_false h2]
        rfl
    · (repeat (conv => whnf); (first | refine ⟨fun h => absurd h (by decide), fun _ => ?_⟩ | refine ⟨fun _ => ?_, fun h => absurd h (by decide)⟩)); conv => whnf
      refine ⟨?_, rfl⟩
      rw [trB, h1]; rfl
  · (repeat (conv => whnf); (first | refine ⟨fun h => absurd h (by decide), fun _ => ?_⟩ | refine ⟨fun _ => ?_, fun h => absurd h (by decide)⟩)); conv => whnf
    (repeat (conv => whnf); (first | refine ⟨fun h => absurd h (by decide), fun _ => ?_⟩ | refine ⟨fun _ => ?_, fun h => absurd h (by decide)⟩)); conv => whnf
    refine ⟨?_, rfl⟩
    rw [trB, quietB, h]; rfl
def twV (x y z : Int) (m : List (List Int)) : Int := if trB x y z m then tv m else 0
theorem TripleWorth_i (x y z : Int) (m : List (List Int)) (km : SzM m) : FSpec Tryz.prog 10 [.ag [.c (.int .i64 (x)), .c (.int .i64 (y)), .c (.int .i64 (z)), .t (.rows m)]] (ex (.tu [.c (.int .i64 (twV x y z m)), .c (.bool (trB x y z m))]) []) := by
  refine fspec tyOk mx Tryz.func10 rfl (by kernel_rfl) rfl ?_
  conv => whnf
  refine ACall.use (isTriple_i x y z m km) ?_
  conv => whnf
  refine ⟨fun h => ?_, fun h => ?_⟩
  · have h : trB x y z m = false := by simpa using h
    conv => whnf
    exact ⟨by rw [twV, h]; rfl, rfl⟩
  · have h : trB x y z m = true := by simpa using h
    obtain ⟨rfl, rfl, hq⟩ := trB_of h
    conv => whnf
    refine ACall.use (triple_spec z m hq.toGB.r9) ?_
    conv => whnf
    exact ⟨by rw [twV, h]; rfl, rfl⟩
theorem TripleWorth_s (x y z : Int) (m : List (List Int)) (km : SzM m) : FSpec Tryz.prog 11 [.ag [.c (.int .i64 (x)), .c (.int .i64 (y)), .c (.int .i64 (z)), .t (.rows m)]] (ex (.tu [.c (.int .i64 (twV x y z m)), .c (.bool (trB x y z m))]) []) := by
  refine fspec tyOk mx Tryz.func11 rfl (by kernel_rfl) rfl ?_
  conv => whnf
  refine ACall.use (l3Three_s x y z m km) ?_
  conv => whnf
  refine ⟨fun h => ?_, fun h => ?_⟩
  · have h : trB x y z m = false := by simpa using h
    conv => whnf
    exact ⟨by rw [twV, h]; rfl, rfl⟩
  · have h : trB x y z m = true := by simpa using h
    obtain ⟨rfl, rfl, hq⟩ := trB_of h
    conv => whnf
    refine ACall.use (l3Triple_spec z m hq.toGB.r9) ?_
    conv => whnf
    exact ⟨by rw [twV, h]; rfl, rfl⟩
noncomputable def gtN (m : List (List Int)) : Int := @dite _ (∃ g, GTrip m g) (Classical.propDecidable _) (fun h => Classical.choose h) (fun _ => 0)
theorem gtN_eq {m : List (List Int)} {g : Int} (h : GTrip m g) : gtN m = g := by
  unfold gtN
  rw [dif_pos ⟨g, h⟩]
  exact GTrip.one (Classical.choose_spec (⟨g, h⟩ : ∃ g, GTrip m g)) h
noncomputable def gtV (x y z : Int) (m : List (List Int)) : Int := if trB x y z m then gtN m else 0
theorem GreatestTriple_i (x y z : Int) (m : List (List Int)) (km : SzM m) : FSpec Tryz.prog 12 [.ag [.c (.int .i64 (x)), .c (.int .i64 (y)), .c (.int .i64 (z)), .t (.rows m)]] (ex (.tu [.c (.int .i64 (gtV x y z m)), .c (.bool (trB x y z m))]) []) := by
  refine fspec tyOk mx Tryz.func12 rfl (by kernel_rfl) rfl ?_
  conv => whnf
  refine ACall.use (isTriple_i x y z m km) ?_
  conv => whnf
  refine ⟨fun h => ?_, fun h => ?_⟩
  · have h : trB x y z m = false := by simpa using h
    conv => whnf
    exact ⟨by rw [gtV, h]; rfl, rfl⟩
  · have h : trB x y z m = true := by simpa using h
    obtain ⟨rfl, rfl, hq⟩ := trB_of h
    conv => whnf
    refine ACall.use' (greatestTriple_spec z m hq.toGB.r9) ?_
    rintro v hr ⟨rfl, g, hg, rfl⟩
    conv => whnf
    exact ⟨by rw [gtV, h, gtN_eq hg]; rfl, rfl⟩
theorem GreatestTriple_s (x y z : Int) (m : List (List Int)) (km : SzM m) : FSpec Tryz.prog 13 [.ag [.c (.int .i64 (x)), .c (.int .i64 (y)), .c (.int .i64 (z)), .t (.rows m)]] (ex (.tu [.c (.int .i64 (gtV x y z m)), .c (.bool (trB x y z m))]) []) := by
  refine fspec tyOk mx Tryz.func13 rfl (by kernel_rfl) rfl ?_
  conv => whnf
  refine ACall.use (l3Three_s x y z m km) ?_
  conv => whnf
  refine ⟨fun h => ?_, fun h => ?_⟩
  · have h : trB x y z m = false := by simpa using h
    conv => whnf
    exact ⟨by rw [gtV, h]; rfl, rfl⟩
  · have h : trB x y z m = true := by simpa using h
    obtain ⟨rfl, rfl, hq⟩ := trB_of h
    conv => whnf
    refine ACall.use' (l3Most_spec z m km hq.toGB.good hq.toGB.r9) ?_
    rintro v hr ⟨rfl, g, hg, rfl⟩
    conv => whnf
    exact ⟨by rw [gtV, h, gtN_eq hg]; rfl, rfl⟩
noncomputable def gsN (nx ny : Nat) (m : List (List Int)) : Int := @dite _ (∃ g, GSum nx ny m g) (Classical.propDecidable _) (fun h => Classical.choose h) (fun _ => 0)
theorem gsN_eq {nx ny : Nat} {m : List (List Int)} {g : Int} (h : GSum nx ny m g) : gsN nx ny m = g := by
  unfold gsN
  rw [dif_pos ⟨g, h⟩]
  exact GSum.one (Classical.choose_spec (⟨g, h⟩ : ∃ g, GSum nx ny m g)) h
/-- the greatest sum, where there is one told -/
def gsPP (nx ny : Nat) (m : List (List Int)) : AVal → List (Nat × ARow) → Prop := fun v h => h = [] ∧ ∃ g : Int, GSum nx ny m g ∧ v = .tu [.c (.int .i64 (g)), .c (.bool true)]
theorem GreatestSum_i (nx ny : Nat) (z : Int) (m : List (List Int)) (km : SzM m) (hg : goodB nx ny z m = true) : FSpec Tryz.prog 17 [.ag [.c (.int .i64 (nx)), .c (.int .i64 (ny)), .c (.int .i64 (z)), .t (.rows m)]] (gsPP nx ny m) := by
  have hG := GB.of hg
  obtain ⟨a, b, ea, eb, g1, g2, g3, g4, g5, g6, g7, g8, g9⟩ := goodB_spec hg
  refine fspec tyOk mx Tryz.func17 rfl (by kernel_rfl) rfl ?_
  conv => whnf
  refine ACall.use (IsBox_spec nx ny z m km) ?_
  conv => whnf
  refine ⟨fun h => absurd h (by simp [hg]), fun _ => ?_⟩
  conv => whnf
  refine ACall.use' (greatest_spec nx ny z m hG.x3 hG.y3 hG.len hG.four (ag_bd g6 g9)) ?_
  rintro v h ⟨rfl, g, p0, p1, q0, q1, kk, t, hgs, hg4, rfl⟩
  conv => whnf
  exact ⟨rfl, g, hgs, rfl⟩
theorem SwapPlayers_i (nx ny : Nat) (z : Int) (m : List (List Int)) (km : SzM m) (hg : goodB nx ny z m = true) : FSpec Tryz.prog 18 [.ag [.c (.int .i64 (nx)), .c (.int .i64 (ny)), .c (.int .i64 (z)), .t (.rows m)]] (ex (.tu [.ag [.c (.int .i64 (ny)), .c (.int .i64 (nx)), .c (.int .i64 (z)), .t (.rows (swG nx ny m))], .c (.bool true)]) []) := by
  have hG := GB.of hg
  refine fspec tyOk mx Tryz.func18 rfl (by kernel_rfl) rfl ?_
  conv => whnf
  refine ACall.use (IsBox_spec nx ny z m km) ?_
  conv => whnf
  refine ⟨fun h => absurd h (by simp [hg]), fun _ => ?_⟩
  conv => whnf
  refine ACall.use (FSpec.toldL (swapped_spec nx ny hG.x3 hG.y3 z m hG.len hG.four) (x' := .ag [.c (.int .i64 (ny)), .c (.int .i64 (nx)), .c (.int .i64 (z)), .t (.rows (swG nx ny m))]) ⟨rfl, rfl, rfl, ⟨rfl, rfl⟩, trivial⟩) ?_
  conv => whnf
  exact ⟨rfl, rfl⟩
theorem FlipAnswers_i (nx ny : Nat) (z : Int) (m : List (List Int)) (km : SzM m) (hg : goodB nx ny z m = true) (fl : List Int) (he : OkE (nx + ny) fl) : FSpec Tryz.prog 19 [.ag [.c (.int .i64 (nx)), .c (.int .i64 (ny)), .c (.int .i64 (z)), .t (.rows m)], .t (.ints .i64 fl)] (ex (.tu [.ag [.c (.int .i64 (nx)), .c (.int .i64 (ny)), .c (.int .i64 (z)), .t (.rows (flG nx ny m fl))], .c (.bool true)]) []) := by
  have hG := GB.of hg
  have x3 := hG.x3
  have y3 := hG.y3
  have hl := he.1
  have hp : (decide ((fl.length : Int) = W ((nx : Int) + ny)) && rowIn fl 0 1) = true := by
    rw [Bool.and_eq_true, rowIn_iff]
    refine ⟨decide_eq_true ?_, he.2⟩
    rw [hl, show W ((nx : Int) + ny) = (nx : Int) + ny from w64 (by omega) (by omega)]; omega
  refine fspec tyOk mx Tryz.func19 rfl (by kernel_rfl) rfl ?_
  conv => whnf
  refine ACall.use (IsBox_spec nx ny z m km) ?_
  conv => whnf
  refine ⟨fun _ => ?_, fun h => absurd h (by simp [hg])⟩
  conv => whnf
  refine ACall.use (isPlay_spec (nx : Int) (ny : Int) fl (by omega)) ?_
  rw [hp]
  conv => whnf
  refine ⟨fun h => absurd h (by decide), fun _ => ?_⟩
  conv => whnf
  refine ACall.use (FSpec.toldL (flipped_spec nx ny hG.x3 hG.y3 z m hG.len hG.four fl hl he.2) (x' := .ag [.c (.int .i64 (nx)), .c (.int .i64 (ny)), .c (.int .i64 (z)), .t (.rows (flG nx ny m fl))]) ⟨rfl, rfl, rfl, ⟨rfl, rfl⟩, trivial⟩) ?_
  conv => whnf
  exact ⟨rfl, rfl⟩
/-- a functional is a witness -/
def wiV (x y z : Int) (m f : List (List Int)) : Bool := woOk x y z m f && decide (worthF f m > W (z * lvF f x.toNat y.toNat))
theorem woOk_of {x y z : Int} {m f : List (List Int)} (h : woOk x y z m f = true) : ∃ nx ny : Nat, x = nx ∧ y = ny ∧ GB nx ny z m ∧ goodB x y z m = true ∧ fnG nx ny f = true ∧ f.length = m.length ∧ ∀ r, r ∈ f → r.length = 4 := by
  simp only [woOk, Bool.and_eq_true] at h
  obtain ⟨h1, h2⟩ := h
  have h1' := h1
  obtain ⟨nx, ny, rfl, rfl⟩ := goodB_nat h1
  have hG := GB.of h1
  obtain ⟨a, b, ea, eb, _, _, _, _, f1, _, f3, _⟩ := fnG_spec h2
  have : nx = a := by omega
  have : ny = b := by omega
  subst nx ny
  exact ⟨a, b, rfl, rfl, hG, h1', h2, by rw [f1, hG.len], f3⟩
theorem IsWitness_i (x y z : Int) (m f : List (List Int)) (km : SzM m) (kf : SzM f) : FSpec Tryz.prog 15 [.ag [.c (.int .i64 (x)), .c (.int .i64 (y)), .c (.int .i64 (z)), .t (.rows m)], .t (.rows f)] (ex (.tu [.c (.bool (wiV x y z m f)), .c (.bool (woOk x y z m f))]) []) := by
  refine fspec tyOk mx Tryz.func15 rfl (by kernel_rfl) rfl ?_
  conv => whnf
  refine ACall.use (IsBox_spec x y z m km) ?_
  conv => whnf
  refine ⟨fun h => ?_, fun h => ?_⟩
  · have h1 : goodB x y z m = true := by simpa using h
    conv => whnf
    refine ACall.use (isFunctionalG_spec x y f kf) ?_
    conv => whnf
    refine ⟨fun h2 => ?_, fun h2 => ?_⟩
    · have h2 : fnG x y f = false := by simpa using h2
      have e : woOk x y z m f = false := by rw [woOk, h1, h2]; rfl
      conv => whnf
      exact ⟨by rw [wiV, e]; rfl, rfl⟩
    · have h2 : fnG x y f = true := by simpa using h2
      have e : woOk x y z m f = true := by rw [woOk, h1, h2]; rfl
      obtain ⟨nx, ny, rfl, rfl, hG, _, hf, hl, f4⟩ := woOk_of e
      have h9 : nx * ny ≤ 3 * 3 := Nat.mul_le_mul hG.x3 hG.y3
      have hlen := hG.len
      conv => whnf
      refine ADraw.std tyOk mx ⟨by kernel_rfl, ?_⟩
      conv => whnf
      refine QCall.use (worth_spec f m hl (by omega) f4 hG.four) ?_
      conv => whnf
      refine QCall.use (localValue_spec nx ny f hG.x3 hG.y3 (by rw [hl, hlen]) f4) ?_
      conv => whnf
      exact ⟨by rw [wiV, e, Int.toNat_natCast, Int.toNat_natCast]; rfl, rfl⟩
  · have h1 : goodB x y z m = false := by simpa using h
    have e : woOk x y z m f = false := by rw [woOk, h1]; rfl
    (repeat (conv => whnf); (first | refine ⟨fun h => absurd h (by decide), fun _ => ?_⟩ | refine ⟨fun _ => ?_, fun h => absurd h (by decide)⟩)); conv => whnf
    exact ⟨by rw [wiV, e]; rfl, rfl⟩
theorem IsWitness_s (x y z : Int) (m f : List (List Int)) (km : SzM m) (kf : SzM f) : FSpec Tryz.prog 16 [.ag [.c (.int .i64 (x)), .c (.int .i64 (y)), .c (.int .i64 (z)), .t (.rows m)], .t (.rows f)] (ex (.tu [.c (.bool (wiV x y z m f)), .c (.bool (woOk x y z m f))]) []) := by
  refine fspec tyOk mx Tryz.func16 rfl (by kernel_rfl) rfl ?_
  conv => whnf
  refine ACall.use (l2Box_spec x y z m km) ?_
  conv => whnf
  refine ⟨fun h => ?_, fun h => ?_⟩
  · have h1 : goodB x y z m = true := by simpa using h
    conv => whnf
    refine ACall.use (l2FunctionalG_spec x y f kf) ?_
    conv => whnf
    refine ⟨fun h2 => ?_, fun h2 => ?_⟩
    · have h2 : fnG x y f = false := by simpa using h2
      have e : woOk x y z m f = false := by rw [woOk, h1, h2]; rfl
      conv => whnf
      exact ⟨by rw [wiV, e]; rfl, rfl⟩
    · have h2 : fnG x y f = true := by simpa using h2
      have e : woOk x y z m f = true := by rw [woOk, h1, h2]; rfl
      obtain ⟨nx, ny, rfl, rfl, hG, _, hf, hl, f4⟩ := woOk_of e
      have h9 : nx * ny ≤ 3 * 3 := Nat.mul_le_mul hG.x3 hG.y3
      have hlen := hG.len
      conv => whnf
      refine ADraw.std tyOk mx ⟨by kernel_rfl, ?_⟩
      conv => whnf
      refine QCall.use (l2Worth_spec f m nx ny z hl (by omega) f4 hG.four) ?_
      conv => whnf
      refine QCall.use (l3Value_spec nx ny f hG.x3 hG.y3 (by rw [hl, hlen]) f4) ?_
      conv => whnf
      exact ⟨by rw [wiV, e, Int.toNat_natCast, Int.toNat_natCast]; rfl, rfl⟩
  · have h1 : goodB x y z m = false := by simpa using h
    have e : woOk x y z m f = false := by rw [woOk, h1]; rfl
    (repeat (conv => whnf); (first | refine ⟨fun h => absurd h (by decide), fun _ => ?_⟩ | refine ⟨fun _ => ?_, fun h => absurd h (by decide)⟩)); conv => whnf
    exact ⟨by rw [wiV, e]; rfl, rfl⟩
end Go.Proofs.YtkjdplglenjijaaGreat.L
/- Draws of boxes. -/
namespace Go.Proofs.YtkjdplglenjijaaGreat
open Go.Aw
set_option maxRecDepth 100000
set_option maxHeartbeats 4000000

/-- a drawn box, of the function's own -/
def boxO (code : List Int) (a k : Nat) (x y : Int) (n : Nat) : AVal → List (Nat × ARow) → ARow → Prop := fun v h r =>
  ∃ (z : Int) (m : List (List Int)) (a' : Nat) (s' : Int), InR z ∧ m.length = n ∧ R4 m ∧ v = .ag [.c (.int .i64 x), .c (.int .i64 y), .c (.int .i64 z), .own 0] ∧ h = [(0, .rows 38 3 true m)] ∧ a ≤ a' ∧ a' ≤ a + k ∧ r = cur code a' s'
abbrev b0 : ARow := .cells 26 [.c (.int .i64 (0)), .c (.int .i64 (0)), .c (.int .i64 (0)), .c (.slice none 0 0)]

theorem someBox_spec (code : List Int) (hc : OkB code) (a : Nat) (s : Int) (ha : a ≤ 700000000) (x y : Int) :
    OSpec Tryz.prog 94 (cur code a s) [.ptr 0 0, .c (.int .i64 (x)), .c (.int .i64 (y))] (boxO code a 1000 x y (near x * near y)) := by
  have nx := near_le x
  have ny := near_le y
  have nxy : near x * near y ≤ 4 * 4 := Nat.mul_le_mul nx ny
  generalize hN : near x * near y = N at nxy
  have eN : IntKind.i64.wrap ((near x : Int) * (near y : Int)) = (N : Int) := by rw [← Int.natCast_mul, hN]; exact w64 (by omega) (by omega)
  refine ospec tyOk mx Tryz.func94 rfl (by kernel_rfl) rfl rfl ?_
  conv => whnf
  refine ACallS.inline tyOk mx Tryz.func79 rfl (by kernel_rfl) rfl ?_
  conv => whnf
  refine ACallS.tmut 0 (pick_spec code hc a s (by omega) 6 (by omega) (by omega)) ?_ rfl (by (repeat' (first | exact trivial | exact rfl | refine And.intro ?_ ?_)) <;> (try first | omega | (simp; done))) (by (repeat' (first | exact trivial | exact rfl | refine And.intro ?_ ?_)) <;> (try first | omega | (simp; done)))
  rintro v r ⟨y, a1, s1, rfl, y0, y1, e_a1, g_a1, rfl⟩
  conv => whnf
  obtain ⟨i, rfl, hi⟩ := nat_of (len := 6) y0 (by omega)
  refine ⟨i, rfl, hi, ?_⟩
  conv => whnf
  have h_w : 1 ≤ (((((((List.replicate 6 (0 : Int)).set 0 4).set 1 2).set 2 6).set 3 1).set 4 8).set 5 12).getD i 0 ∧ (((((((List.replicate 6 (0 : Int)).set 0 4).set 1 2).set 2 6).set 3 1).set 4 8).set 5 12).getD i 0 ≤ 12 := among_in (by kernel_rfl) hi
  generalize (((((((List.replicate 6 (0 : Int)).set 0 4).set 1 2).set 2 6).set 3 1).set 4 8).set 5 12).getD i 0 = w at h_w ⊢
  refine ⟨rfl, ?_⟩
  conv => whnf
  clear y0 y1 hi
  refine aloopI tyOk mx (fun i : List (List Int) × Nat × Int => (⟨58, [(0, .ptr 0 0), (1, .c (.int .i64 (x))), (2, .c (.int .i64 (y))), (6, .ptr 1 0), (7, .ptr 2 0), (8, .c (.int .i64 (i.1.length))), (58, .ptr 0 0)], [(0, cur code i.2.1 i.2.2), (1, b0), (2, .cells 26 [.c (.int .i64 (x)), .c (.int .i64 (y)), .c (.int .i64 (w)), .own 3]), (3, .rows 38 3 true i.1)], 4⟩ : St)) (fun i => i.1.length ≤ N ∧ R4 i.1 ∧ a ≤ i.2.1 ∧ i.2.1 ≤ a + 2 + 48 * i.1.length) (fun i => N - i.1.length) ([], a1, s1) ⟨by simp, R4.nil, by simp only; omega, by simp; omega⟩ (some [(0,.row 0),(1,.row 1),(2,.row 3),(3,.nil)]) (by (refine ⟨rfl, rfl, ?_, ?_⟩ <;> ((repeat' (first | exact trivial | exact rfl | refine And.intro ?_ ?_)) <;> (try ((conv => whnf); first | refine vint ?_ | refine vboo ?_ | refine rint ?_ | refine rrow ?_ | skip)) <;> (try first | omega | (simp; done) | ((repeat rw [flts_closed _ (by assumption)]); exact vws_closed _ (by assumption)))))) (fun i hi => ?_)
  obtain ⟨m, a2, s2⟩ := i
  obtain ⟨h1, h2, h3, h4⟩ := hi
  simp only at h1 h2 h3 h4
  dsimp only
  conv => whnf
  refine ACall.use (l2Near_spec _) ?_
  conv => whnf
  refine ACall.use (l2Near_spec _) ?_
  conv => whnf
  rw [eN]
  refine ⟨fun h => ?_, fun h => ?_⟩
  · have h := ltT h
    conv => whnf
    refine ADraw.plan tyOk mx (.q 1 (.q 2 (.last 0 (.q 3 (.q 4 (.done))))) : Plan) (by kernel_rfl) ?_
    conv => whnf
    repeat' (first | (refine And.intro ?_ ?_ <;> (conv => whnf)) | (refine ⟨4, rfl, rfl, by simp [room], ?_⟩; conv => whnf))
    all_goals
      refine aloopI tyOk mx (fun j : Int × List Int × Nat × Int => (⟨58, [(0, .ptr 0 0), (1, .c (.int .i64 (x))), (2, .c (.int .i64 (y))), (6, .ptr 1 0), (7, .ptr 2 0), (8, .c (.int .i64 (m.length))), (9, .own 4), (10, .c (.int .i64 (j.1))), (58, .ptr 0 0)], [(0, cur code j.2.2.1 j.2.2.2), (1, b0), (2, .cells 26 [.c (.int .i64 (x)), .c (.int .i64 (y)), .c (.int .i64 (w)), .own 3]), (3, .rows 38 3 true m), (4, .ints 3 .i64 j.2.1)], 5⟩ : St)) (fun j => 0 ≤ j.1 ∧ j.1 ≤ w ∧ (j.2.1.length = 4 ∧ ∀ v, v ∈ j.2.1 → InR v) ∧ a2 ≤ j.2.2.1 ∧ (j.2.2.1 : Int) + 4 * j.1 ≤ a2 + 4 * w) (fun j => j.1.toNat) (w, List.replicate 4 0, a2, s2) ⟨by simp only; omega, by simp only; omega, rep4, by simp only; omega, by simp only; omega⟩ none (by refine ⟨rfl, rfl, ?_, ?_⟩ <;> ((repeat' (first | exact trivial | exact rfl | refine And.intro ?_ ?_)) <;> (try ((conv => whnf); first | refine vint ?_ | refine vboo ?_ | refine rint ?_ | refine rrow ?_ | skip)) <;> (try first | omega | (simp; done) | ((repeat rw [flts_closed _ (by assumption)]); exact vws_closed _ (by assumption))))) (fun j hj => ?_)
      obtain ⟨left, r, a3, s3⟩ := j
      obtain ⟨j1, j2, j3, j4, j5⟩ := hj
      simp only at j1 j2 j3 j4 j5
      dsimp only
      conv => whnf
      refine ⟨fun h5 => ?_, fun h5 => ?_⟩
      · have h5 := of_decide_eq_true h5
        conv => whnf
        refine ACallS.tmut 0 (pick_spec code hc a3 s3 (by omega) left (by omega) (by omega)) ?_ rfl (by (repeat' (first | exact trivial | exact rfl | refine And.intro ?_ ?_)) <;> (try first | omega | (simp; done))) (by (repeat' (first | exact trivial | exact rfl | refine And.intro ?_ ?_)) <;> (try first | omega | (simp; done)))
        rintro v r ⟨u, a4, s4, rfl, l_u, u_u, e_a4, g_a4, rfl⟩
        conv => whnf
        refine ACallS.tmut 0 (pick_spec code hc a4 s4 (by omega) 4 (by omega) (by omega)) ?_ rfl (by (repeat' (first | exact trivial | exact rfl | refine And.intro ?_ ?_)) <;> (try first | omega | (simp; done))) (by (repeat' (first | exact trivial | exact rfl | refine And.intro ?_ ?_)) <;> (try first | omega | (simp; done)))
        rintro v r ⟨k, a5, s5, rfl, l_k, u_k, e_a5, g_a5, rfl⟩
        conv => whnf
        obtain ⟨q, rfl, hq⟩ := nat_of (len := 4) l_k (by omega)
        have e1 : IntKind.i64.wrap (1 + u) = 1 + u := w64 (by omega) (by omega)
        have e2 : IntKind.i64.wrap (left - (1 + u)) = left - (1 + u) := w64 (by omega) (by omega)
        refine ⟨q, rfl, by omega, ?_⟩
        conv => whnf
        refine ⟨q, rfl, by omega, ?_⟩
        conv => whnf
        rw [e1, e2]
        exact ⟨(left - (1 + u), r.set q _, a5, s5), none, (by refine ⟨rfl, rfl, ?_, ?_⟩ <;> ((repeat' (first | exact trivial | exact rfl | refine And.intro ?_ ?_)) <;> (try ((conv => whnf); first | refine vint ?_ | refine vboo ?_ | refine rint ?_ | refine rrow ?_ | skip)) <;> (try first | omega | (simp; done) | ((repeat rw [flts_closed _ (by assumption)]); exact vws_closed _ (by assumption))))), ⟨by simp only; omega, by simp only; omega, set4 j3 _ (W_inr _), by simp only; omega, by simp only; omega⟩, by simp only; omega⟩
      · have h5 := of_decide_eq_false h5
        conv => whnf
        refine ⟨by simp [room]; omega, ?_⟩
        conv => whnf
        rw [nat_wrap (by omega)]
        exact ⟨(m ++ [r], a3, s3), none, (by refine ⟨rfl, rfl, ?_, ?_⟩ <;> ((repeat' (first | exact trivial | exact rfl | refine And.intro ?_ ?_)) <;> (try ((conv => whnf); first | refine vint ?_ | refine vboo ?_ | refine rint ?_ | refine rrow ?_ | skip)) <;> (try first | omega | (simp; done) | ((repeat rw [flts_closed _ (by assumption)]); exact vws_closed _ (by assumption))))), ⟨by simp only [List.length_append, List.length_singleton]; omega, R4.app h2 j3, by simp only; omega, by simp only [List.length_append, List.length_singleton]; omega⟩, by simp only [List.length_append, List.length_singleton]; omega⟩
  · have h := ltF h
    conv => whnf
    exact ⟨w, m, a2, s2, by unfold InR; omega, by omega, h2, rfl, rfl, h3, by omega, rfl⟩
end Go.Proofs.YtkjdplglenjijaaGreat
/- Calls of cursor methods in plans: the contract's arguments are the call's. -/
namespace Go.Aw
open Go.RowKit
section
variable {P : Program} {st : St}
/-- a number -/
theorem ACallS.tmutI {f : FuncId} {n : Int} {r0 : ARow} {K : AVal → St → Prop} {post : AVal → ARow → Prop} (hs : TSpec P f r0 [.ptr 0 0, .c (.int .i64 n)] post)
    (hk : ∀ x r', post x r' → K x ((st.killSub 0).upd 0 r')) (hlk : look st.hp 0 = some r0) (hr : rowVw st.hp [(0, .row 0)] 1 (.row 0) r0)
    (ht : tRow r0 = true := by rfl) : ACallS P st f [.ptr 0 0, .c (.int .i64 n)] K := ACallS.tmut 0 hs hk hlk ⟨⟨rfl, rfl, rfl⟩, rfl, trivial⟩ hr rfl ht

/-- a list -/
theorem ACallS.tmutL {f : FuncId} {k : IntKind} {l : List Int} {r0 : ARow} {K : AVal → St → Prop} {post : AVal → ARow → Prop} (hs : TSpec P f r0 [.ptr 0 0, .t (.ints k l)] post)
    (hk : ∀ x r', post x r' → K x ((st.killSub 0).upd 0 r')) (hlk : look st.hp 0 = some r0) (hr : rowVw st.hp [(0, .row 0)] 1 (.row 0) r0)
    (ht : tRow r0 = true := by rfl) : ACallS P st f [.ptr 0 0, .t (.ints k l)] K := ACallS.tmut 0 hs hk hlk ⟨⟨rfl, rfl, rfl⟩, rfl, trivial⟩ hr rfl ht

/-- an empty slice, told as no rows -/
theorem rep_nilR {w : World} {bad : Nat → Prop} {hp : List (Nat × ARow)} {nx : Nat} {η : Env} {v : Value} (h : VRep w bad hp nx η (.c (.slice none 0 0)) v) : VRep w bad hp nx η (.t (.rows [])) v := by
  obtain ⟨rfl, _⟩ := h
  exact ⟨none, 0, rfl, Nat.le_refl _, Nat.zero_le _, fun i l hi => by simp at hi⟩

/-- a result that is told otherwise -/
theorem TSpec.tell {f : FuncId} {r0 : ARow} {args : List AVal} {post post' : AVal → ARow → Prop} (hs : TSpec P f r0 args post)
    (hv : ∀ x r, shut x = true → post x r → ∃ x', shut x' = true ∧ post' x' r ∧ ∀ w bad v, VRep w bad [] 0 η0 x v → VRep w bad [] 0 η0 x' v) : TSpec P f r0 args post' := by
  refine ⟨hs.1, fun w B ob η vs h1 h2 h3 h4 h5 => (hs.2 w B ob η vs h1 h2 h3 h4 h5).mono ?_⟩
  rintro e w' ⟨v, x, r', η', he, hvx, hsh, hpo, hrest⟩
  obtain ⟨x', k1, k2, k3⟩ := hv x r' hsh hpo
  exact ⟨v, x', r', η', he, k3 _ _ _ hvx, k1, k2, hrest⟩
end
end Go.Aw
