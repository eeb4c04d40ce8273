/- Rests of quiet boxes: reference and program. -/
import Derived.Test.YteoccgiofepolaaNoisy
import Derived.Test.YteoccgiofepolaaPart
namespace Go.Aw
def partF (T B : Nat → Nat → Int) (i n : Nat) : List (List Int) :=
  (List.range 4).map fun p => (List.range 4).map fun q => if p < i ∨ (p = i ∧ q < n) then T p q else B p q
theorem partF_step (T B : Nat → Nat → Int) {i n : Nat} (hi : i < 4) (hn : n < 4) : (partF T B i n).set i (((partF T B i n).getD i []).set n (T i n)) = partF T B i (n + 1) := by
  have h1 : i = 0 ∨ i = 1 ∨ i = 2 ∨ i = 3 := by omega
  have h2 : n = 0 ∨ n = 1 ∨ n = 2 ∨ n = 3 := by omega
  rcases h1 with rfl | rfl | rfl | rfl <;> rcases h2 with rfl | rfl | rfl | rfl <;> rfl
theorem partF_get (T B : Nat → Nat → Int) {i n : Nat} (hi : i < 4) (hn : n < 4) : ((partF T B i n).getD i []).getD n 0 = B i n := by
  have h1 : i = 0 ∨ i = 1 ∨ i = 2 ∨ i = 3 := by omega
  have h2 : n = 0 ∨ n = 1 ∨ n = 2 ∨ n = 3 := by omega
  rcases h1 with rfl | rfl | rfl | rfl <;> rcases h2 with rfl | rfl | rfl | rfl <;> rfl
theorem partF_end (T B : Nat → Nat → Int) {i : Nat} (hi : i < 4) : partF T B i 4 = partF T B (i + 1) 0 := by
  have h1 : i = 0 ∨ i = 1 ∨ i = 2 ∨ i = 3 := by omega
  rcases h1 with rfl | rfl | rfl | rfl <;> rfl
theorem partF_len (T B : Nat → Nat → Int) (i n : Nat) : (partF T B i n).length = 4 := by simp [partF]
theorem partF_row (T B : Nat → Nat → Int) {i n p : Nat} (hp : p < 4) : ((partF T B i n).getD p []).length = 4 := by
  rw [partF, range_getD hp]; simp
theorem mat_rows (f : Nat → Nat → Nat → Nat → Int) : boxRows f 2 2 = (List.range 4).map fun p => (List.range 4).map fun q => f (p / 2) (p % 2) (q / 2) (q % 2) := rfl
theorem mat_get (f : Nat → Nat → Nat → Nat → Int) {p q : Nat} (hp : p < 4) (hq : q < 4) : ((boxRows f 2 2).getD p []).getD q 0 = f (p / 2) (p % 2) (q / 2) (q % 2) := by
  rw [mat_rows, range_getD hp, range_getD hq]
theorem mat_eta {M : List (List Int)} (h : M.length = 4) (hr : ∀ r, r ∈ M → r.length = 4) : ((List.range 4).map fun p => (List.range 4).map fun q => (M.getD p []).getD q 0) = M := by
  refine List.ext_getElem (by simp [h]) fun p h1 h2 => ?_
  have hrow := hr _ (List.getElem_mem h2)
  simp only [List.getElem_map, List.getElem_range]
  refine List.ext_getElem (by simp [hrow]) fun q h3 h4 => ?_
  simp only [List.getElem_map, List.getElem_range]
  simp [List.getD, h2, h4]
theorem mat_congr {F G : Nat → Nat → Int} (h : ∀ p q, p < 4 → q < 4 → F p q = G p q) : ((List.range 4).map fun p => (List.range 4).map fun q => F p q) = (List.range 4).map fun p => (List.range 4).map fun q => G p q := by
  refine List.map_congr_left fun p hp => List.map_congr_left fun q hq => h p q (by simpa using hp) (by simpa using hq)
theorem times_get {M : List (List Int)} (h : M.length = 4) (hr : ∀ r, r ∈ M → r.length = 4) (k d : Int) {p q : Nat} (hp : p < 4) (hq : q < 4) : ((timesL M k d).getD p []).getD q 0 = W (Int.tdiv (W ((M.getD p []).getD q 0 * k)) d) := by
  have hm : M.getD p [] ∈ M := by rw [List.getD_eq_getElem?_getD, List.getElem?_eq_getElem (by omega)]; exact List.getElem_mem _
  rw [timesL, map_getD (d := []) (by omega), timesR, map_getD (d := 0) (by rw [hr _ hm]; omega)]
end Go.Aw
namespace Go.Proofs.Yteoccgiofepolaa
open Go.Aw
set_option maxRecDepth 100000
set_option maxHeartbeats 4000000

def rsNum (m : List (List Int)) (k : Nat) (N : Int) (x y a b : Nat) : Int := W (W (2 * (m.getD (x * 2 + y) []).getD (2 * a + b) 0) - W (N * eqNum k x y a b))
def rsM (m : List (List Int)) (k : Nat) (N : Int) : List (List Int) := boxRows (rsNum m k N) 2 2
def rsW (z N : Int) : Int := W (W (2 * z) - W (2 * N))
def rsN (z : Int) (m : List (List Int)) : Int := partN z ((esL m).getD (esBest m) 0)
def rsOk (x y z : Int) (m : List (List Int)) : Bool := qpB x y z m && goodB 2 2 (rsW z (rsN z m)) (rsM m (esBest m) (rsN z m))
def rsR (x y z : Int) (m : List (List Int)) : List (List Int) := if rsOk x y z m then rsM m (esBest m) (rsN z m) else []
theorem box_sz (f : Nat → Nat → Nat → Nat → Int) : SzM (boxRows f 2 2) := by
  have h1 : (boxRows f 2 2).length = 4 := boxRows_len _ 2 2
  have h2 := tot_le_mul (m := boxRows f 2 2) (n := 4) (fun q hq => by rw [boxRows_rows _ _ _ q hq]; omega)
  unfold SzM; omega
theorem esBest_lt (m : List (List Int)) : esBest m < 8 := by
  have := bIx_le (fun i => (esL m).getD i 0) 7
  unfold esBest; omega

theorem rsNum_spec (m : List (List Int)) (hm : m.length = 4) (h4 : ∀ r, r ∈ m → r.length = 4) (z : Int) (k : Nat) (N : Int) (x y a b : Nat) (hx : x < 2) (hy : y < 2) (ha : a < 2) (hb : b < 2) :
    FSpec Try.prog 55 [.c (.int .i64 (x)), .c (.int .i64 (y)), .c (.int .i64 (a)), .c (.int .i64 (b)), .rp [.c (.int .i64 (2)), .c (.int .i64 (2)), .c (.int .i64 (z)), .t (.rows m)] 0, .rp [.c (.int .i64 (N))] 0, .rp [.c (.int .i64 (2)), .c (.int .i64 (2)), .c (.int .i64 (2)), .t (.rows (equalM k))] 0] (ex (.c (.int .i64 (rsNum m k N x y a b))) []) := by
  have hl : (equalM k).length = 4 := boxRows_len _ 2 2
  have hr := boxRows_rows (eqNum k) 2 2 _ (getD_mem (d := []) (show x * 2 + y < (equalM k).length by omega))
  have hr2 := h4 _ (getD_mem (d := []) (show x * 2 + y < m.length by omega))
  refine fspec tyOk mx Try.func55 rfl (by kernel_rfl) rfl ?_
  conv => whnf
  refine ADraw.plan tyOk mx (.q 0 (.q 1 (.q 2 (.q 3 (.q 4 (.q 7 (.q 8 (.q 9 (.q 10 (.q 11 (.q 12 (.last 5 (.q 6 (.last 13 (.q 14 (.q 15 (.q 16 (.done))))))))))))))))) : Plan) (by kernel_rfl) ?_
  conv => whnf
  refine ACall.useR (at_spec 2 2 x y a b z m (by omega) (by omega) (by omega) (by omega)) ?_
  conv => whnf
  refine ACall.useR (at_spec 2 2 x y a b 2 (equalM k) (by omega) (by omega) (by show 2 * a + b < ((boxRows (eqNum k) 2 2).getD (x * 2 + y) []).length; rw [hr]; omega) (by omega)) ?_
  conv => whnf
  refine ⟨?_, rfl⟩
  rw [equalM, boxRows_get _ hx hy ha hb]; rfl

theorem RestOf_i (x y z : Int) (m : List (List Int)) (_hx : InR x) (_hy : InR y) (_hz : InR z) (_hm : OkM m) (km : SzM m) :
    FSpec Try.prog 24 [.ag [.c (.int .i64 (x)), .c (.int .i64 (y)), .c (.int .i64 (z)), .t (.rows m)]] (ex (.tu [.ag [.c (.int .i64 (if rsOk x y z m then 2 else 0)), .c (.int .i64 (if rsOk x y z m then 2 else 0)), .c (.int .i64 (if rsOk x y z m then rsW z (rsN z m) else 0)), .own 0], .c (.bool (rsOk x y z m))]) [(0, .rows 44 3 true (rsR x y z m))]) := by
  refine view_box ?_
  refine fspec tyOk mx Try.func24 rfl (by kernel_rfl) rfl ?_
  conv => whnf
  refine ACall.use (isQuietPair_spec x y z m km) ?_
  conv => whnf
  refine ⟨fun h => ?_, fun h => ?_⟩
  · have h : qpB x y z m = false := by simpa using h
    have e : rsOk x y z m = false := by rw [rsOk, h]; rfl
    conv => whnf
    exact .inl ⟨e, rfl, rfl⟩
  · have h : qpB x y z m = true := by simpa using h
    have h' := h
    obtain ⟨rfl, rfl, g1, g2, g3, g4⟩ := qpB_spec h
    have h4 : ∀ r, r ∈ m → r.length = 4 := fun r hr => (g4 r hr).1
    conv => whnf
    refine ACall.use (part_spec z m g3 h4) ?_
    conv => whnf
    refine ACall.use (equalSum_spec (esBest m)) ?_
    conv => whnf
    refine ACall.use (newBox_spec 2 2 (rsW z (rsN z m)) _ [.rp [.c (.int .i64 (2)), .c (.int .i64 (2)), .c (.int .i64 (z)), .t (.rows m)] 0, .rp [.c (.int .i64 (rsN z m))] 0, .rp [.c (.int .i64 (2)), .c (.int .i64 (2)), .c (.int .i64 (2)), .t (.rows (equalM (esBest m)))] 0] (rsNum m (esBest m) (rsN z m)) (by omega) (by omega) (fun _ _ => rfl) rfl (fun i k' a b hi hk ha hb => rsNum_spec m g3 h4 z (esBest m) (rsN z m) i k' a b hi hk ha hb)) ?_
    conv => whnf
    refine ACall.use (IsBox_spec 2 2 (rsW z (rsN z m)) (rsM m (esBest m) (rsN z m)) (box_sz _)) ?_
    conv => whnf
    refine ⟨fun h5 => ?_, fun h5 => ?_⟩
    · have h5 : goodB 2 2 (rsW z (rsN z m)) (rsM m (esBest m) (rsN z m)) = false := by simpa using h5
      have e2 : rsOk 2 2 z m = false := by rw [rsOk, h5, Bool.and_false]
      conv => whnf
      exact .inl ⟨e2, rfl, rfl⟩
    · have h5 : goodB 2 2 (rsW z (rsN z m)) (rsM m (esBest m) (rsN z m)) = true := by simpa using h5
      have e2 : rsOk 2 2 z m = true := by rw [rsOk, h', h5]; rfl
      conv => whnf
      exact .inr ⟨e2, rfl, rfl⟩

def rsB (m : List (List Int)) (p q : Nat) : Int := ((timesL m 2 1).getD p []).getD q 0
def rsT (m : List (List Int)) (k : Nat) (N : Int) (p q : Nat) : Int := W (rsB m p q - W (N * ((equalM k).getD p []).getD q 0))
theorem rs_zero (m : List (List Int)) (hm : m.length = 4) (h4 : ∀ r, r ∈ m → r.length = 4) (k : Nat) (N : Int) : partF (rsT m k N) (rsB m) 0 0 = timesL m 2 1 := by
  have e : partF (rsT m k N) (rsB m) 0 0 = (List.range 4).map fun p => (List.range 4).map fun q => rsB m p q := by
    unfold partF; exact mat_congr fun p q _ _ => if_neg (by omega)
  rw [e]
  exact mat_eta (by rw [timesL_len, hm]) (fun r hr => by
    obtain ⟨c, hc, rfl⟩ := List.mem_map.1 hr
    rw [timesR, List.length_map]; exact h4 c hc)
theorem rs_end (m : List (List Int)) (hm : m.length = 4) (h4 : ∀ r, r ∈ m → r.length = 4) (k : Nat) (N : Int) : partF (rsT m k N) (rsB m) 4 0 = rsM m k N := by
  rw [rsM, mat_rows]
  unfold partF
  refine mat_congr fun p q hp hq => ?_
  rw [if_pos (by omega), rsT, rsB, times_get hm h4 _ _ hp hq, equalM, mat_get _ hp hq, rsNum, tdiv_one, WW, Int.mul_comm]
  rw [show p / 2 * 2 + p % 2 = p by omega, show 2 * (q / 2) + q % 2 = q by omega]

theorem RestOf_s (x y z : Int) (m : List (List Int)) (_hx : InR x) (_hy : InR y) (_hz : InR z) (_hm : OkM m) (km : SzM m) :
    FSpec Try.prog 23 [.ag [.c (.int .i64 (x)), .c (.int .i64 (y)), .c (.int .i64 (z)), .t (.rows m)]] (ex (.tu [.ag [.c (.int .i64 (if rsOk x y z m then 2 else 0)), .c (.int .i64 (if rsOk x y z m then 2 else 0)), .c (.int .i64 (if rsOk x y z m then rsW z (rsN z m) else 0)), .own 0], .c (.bool (rsOk x y z m))]) [(0, .rows 44 3 true (rsR x y z m))]) := by
  refine view_box ?_
  refine fspec tyOk mx Try.func23 rfl (by kernel_rfl) rfl ?_
  conv => whnf
  refine ACall.use (l6Quiet_spec x y z m km) ?_
  conv => whnf
  refine ⟨fun h => ?_, fun h => ?_⟩
  · have h : qpB x y z m = false := by simpa using h
    have e : rsOk x y z m = false := by rw [rsOk, h]; rfl
    conv => whnf
    exact .inl ⟨e, rfl, rfl⟩
  · have h : qpB x y z m = true := by simpa using h
    have h' := h
    obtain ⟨rfl, rfl, g1, g2, g3, g4⟩ := qpB_spec h
    have h4 : ∀ r, r ∈ m → r.length = 4 := fun r hr => (g4 r hr).1
    have hel : (equalM (esBest m)).length = 4 := boxRows_len _ 2 2
    have her := boxRows_rows (eqNum (esBest m)) 2 2
    have ew : W (Int.tdiv (W (z * 2)) 1) = W (2 * z) := by rw [tdiv_one, WW, Int.mul_comm]
    conv => whnf
    refine ACall.use (l6Part_spec z m g3 h4) ?_
    conv => whnf
    refine ACall.use (l2Times_spec 2 2 z m 2 1 (by decide) (by omega) (fun r hr => by rw [h4 r hr]; omega)) ?_
    rw [ew]
    conv => whnf
    refine ACall.use (l6Sum_spec (esBest m) (esBest_lt m)) ?_
    conv => whnf
    refine aloopI tyOk mx (fun i : Nat => (⟨70, [(2, .ptr 1 0), (5, .c (.int .i64 (rsN z m))), (6, .ptr 4 0), (7, .ptr 5 0), (8, .c (.int .i64 (i)))], [(1, .cells 34 [.c (.int .i64 (0)), .c (.int .i64 (0)), .c (.int .i64 (0)), .c (.slice none 0 0)]), (2, .rows 44 3 true (partF (rsT m (esBest m) (rsN z m)) (rsB m) i 0)), (3, .rows 44 3 true (equalM (esBest m))), (4, .cells 34 [.c (.int .i64 (2)), .c (.int .i64 (2)), .c (.int .i64 (rsW z (rsN z m))), .own 2]), (5, .cells 34 [.c (.int .i64 (2)), .c (.int .i64 (2)), .c (.int .i64 (2)), .own 3])], 6⟩ : St)) (fun i => i ≤ 4) (fun i => 4 - i) 0 (Nat.zero_le _) none (by (refine ⟨rfl, rfl, ?_, ?_⟩ <;> ((repeat' (first | exact trivial | exact rfl | refine And.intro ?_ ?_)) <;> (try ((conv => whnf); first | refine vint ?_ | refine vboo ?_ | refine rint ?_ | refine rrow ?_ | skip)) <;> (try first | omega | (simp; done) | ((repeat rw [flts_closed _ (by assumption)]); exact vws_closed _ (by assumption))))); exact (rs_zero m g3 h4 _ _).symm) (fun i hi => ?_)
    have hl := partF_len (rsT m (esBest m) (rsN z m)) (rsB m) i 0
    refine ⟨fun h => ?_, fun h => ?_⟩
    · have h : i < 4 := by have := ltT h; omega
      conv => whnf
      refine aloopI tyOk mx (fun n : Nat => (⟨70, [(2, .ptr 1 0), (5, .c (.int .i64 (rsN z m))), (6, .ptr 4 0), (7, .ptr 5 0), (8, .c (.int .i64 (i))), (9, .c (.int .i64 (n)))], [(1, .cells 34 [.c (.int .i64 (0)), .c (.int .i64 (0)), .c (.int .i64 (0)), .c (.slice none 0 0)]), (2, .rows 44 3 true (partF (rsT m (esBest m) (rsN z m)) (rsB m) i n)), (3, .rows 44 3 true (equalM (esBest m))), (4, .cells 34 [.c (.int .i64 (2)), .c (.int .i64 (2)), .c (.int .i64 (rsW z (rsN z m))), .own 2]), (5, .cells 34 [.c (.int .i64 (2)), .c (.int .i64 (2)), .c (.int .i64 (2)), .own 3])], 6⟩ : St)) (fun n => n ≤ 4) (fun n => 4 - n) 0 (Nat.zero_le _) none (by refine ⟨rfl, rfl, ?_, ?_⟩ <;> ((repeat' (first | exact trivial | exact rfl | refine And.intro ?_ ?_)) <;> (try ((conv => whnf); first | refine vint ?_ | refine vboo ?_ | refine rint ?_ | refine rrow ?_ | skip)) <;> (try first | omega | (simp; done) | ((repeat rw [flts_closed _ (by assumption)]); exact vws_closed _ (by assumption))))) (fun n hn => ?_)
      have hl2 := partF_len (rsT m (esBest m) (rsN z m)) (rsB m) i n
      have hr2 := partF_row (rsT m (esBest m) (rsN z m)) (rsB m) (i := i) (n := n) h
      have her2 := her _ (getD_mem (d := []) (show i < (equalM (esBest m)).length by omega))
      have her3 : ((equalM (esBest m)).getD i []).length = 4 := her2
      refine ⟨fun h5 => ?_, fun h5 => ?_⟩
      · have h5 : n < 4 := by have := of_decide_eq_true h5; omega
        have hg := partF_get (rsT m (esBest m) (rsN z m)) (rsB m) h h5
        refine ADraw.plan tyOk mx (.q 0 (.q 1 (.q 2 (.q 3 (.q 4 (.q 5 (.q 6 (.q 7 (.q 8 (.q 9 (.q 10 (.q 11 (.q 12 (.q 13 (.q 14 (.q 15 (.q 16 (.q 17 (.q 18 (.q 19 (.q 20 (.q 21 (.q 22 (.q 23 (.q 24 (.q 25 (.last 26 (.done))))))))))))))))))))))))))) : Plan) (by kernel_rfl) ?_
        conv => whnf
        repeat' (first | (refine ⟨i, rfl, by omega, ?_⟩; conv => whnf) | (refine ⟨n, rfl, by omega, ?_⟩; conv => whnf) | (refine And.intro ?_ ?_ <;> (conv => whnf)))
        all_goals
          rw [nat_wrap (by omega)]
          refine ⟨n + 1, none, ?_, by omega, by omega⟩
          (refine ⟨rfl, rfl, ?_, ?_⟩ <;> ((repeat' (first | exact trivial | exact rfl | refine And.intro ?_ ?_)) <;> (try ((conv => whnf); first | refine vint ?_ | refine vboo ?_ | refine rint ?_ | refine rrow ?_ | skip)) <;> (try first | omega | (simp; done) | ((repeat rw [flts_closed _ (by assumption)]); exact vws_closed _ (by assumption)))))
          rw [hg]
          exact partF_step _ _ h h5
      · have h5 : ¬ n < 4 := by have := of_decide_eq_false h5; omega
        obtain rfl : n = 4 := by omega
        conv => whnf
        rw [nat_wrap (by omega)]
        refine ⟨i + 1, none, ?_, by omega, by omega⟩
        (refine ⟨rfl, rfl, ?_, ?_⟩ <;> ((repeat' (first | exact trivial | exact rfl | refine And.intro ?_ ?_)) <;> (try ((conv => whnf); first | refine vint ?_ | refine vboo ?_ | refine rint ?_ | refine rrow ?_ | skip)) <;> (try first | omega | (simp; done) | ((repeat rw [flts_closed _ (by assumption)]); exact vws_closed _ (by assumption)))))
        exact partF_end _ _ h
    · have h : ¬ i < 4 := by have := ltF h; omega
      obtain rfl : i = 4 := by omega
      rw [rs_end m g3 h4]
      conv => whnf
      refine ACallS.inline tyOk mx Try.func53 rfl (by kernel_rfl) rfl ?_
      conv => whnf
      refine ACall.use (l2Box_spec 2 2 (rsW z (rsN z m)) (rsM m (esBest m) (rsN z m)) (box_sz _)) ?_
      conv => whnf
      refine ⟨fun h5 => ?_, fun h5 => ?_⟩
      · have h5 : goodB 2 2 (rsW z (rsN z m)) (rsM m (esBest m) (rsN z m)) = false := by simpa using h5
        have e2 : rsOk 2 2 z m = false := by rw [rsOk, h5, Bool.and_false]
        conv => whnf
        refine ⟨rfl, ?_⟩
        conv => whnf
        exact .inl ⟨e2, rfl, rfl⟩
      · have h5 : goodB 2 2 (rsW z (rsN z m)) (rsM m (esBest m) (rsN z m)) = true := by simpa using h5
        have e2 : rsOk 2 2 z m = true := by rw [rsOk, h', h5]; rfl
        conv => whnf
        refine ⟨rfl, ?_⟩
        conv => whnf
        exact .inr ⟨e2, rfl, rfl⟩
theorem RestOf_bd (x y z : Int) (m : List (List Int)) (_hx : InR x) (_hy : InR y) (_hz : InR z) (_hm : OkM m) (_km : SzM m) : (rsR x y z m).length ≤ 1048576 ∧ tot (rsR x y z m) ≤ 1048576 := by
  unfold rsR
  split
  · obtain ⟨a, _, b⟩ := (box_sz (rsNum m (esBest m) (rsN z m))).all
    exact ⟨a, b⟩
  · simp [tot]
end Go.Proofs.Yteoccgiofepolaa
