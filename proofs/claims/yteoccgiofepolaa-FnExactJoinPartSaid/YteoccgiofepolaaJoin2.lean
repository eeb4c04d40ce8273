/- Joined parts, walked. -/
import Derived.Test.YteoccgiofepolaaJoin
namespace Go.Proofs.Yteoccgiofepolaa
open Go.Aw
set_option maxRecDepth 100000
set_option maxHeartbeats 4000000

theorem rdNum_spec (m : List (List Int)) (hm : m.length = 4) (h4 : ∀ r, r ∈ m → r.length = 4) (z : Int) (g : Nat) (hg : 0 < g) (x y a b : Nat) (hx : x < 2) (hy : y < 2) (ha : a < 2) (hb : b < 2) :
    FSpec Try.prog 78 [.c (.int .i64 (x)), .c (.int .i64 (y)), .c (.int .i64 (a)), .c (.int .i64 (b)), .rp [.c (.int .i64 (2)), .c (.int .i64 (2)), .c (.int .i64 (z)), .t (.rows m)] 0, .rp [.c (.int .i64 (g))] 0] (ex (.c (.int .i64 (rdNum m g x y a b))) []) := by
  have hr2 := h4 _ (getD_mem (d := []) (show x * 2 + y < m.length by omega))
  refine fspec tyOk mx Try.func78 rfl (by kernel_rfl) rfl ?_
  conv => whnf
  refine ADraw.plan tyOk mx (.q 0 (.q 1 (.q 2 (.q 3 (.q 4 (.q 6 (.last 5 (.q 7 (.q 8 (.done))))))))) : Plan) (by kernel_rfl) ?_
  conv => whnf
  refine ACall.useR (at_spec 2 2 x y a b z m (by omega) (by omega) (by omega) (by omega)) ?_
  conv => whnf
  refine ⟨by omega, ?_⟩
  conv => whnf
  exact ⟨rfl, rfl⟩

theorem ReduceBox_spec (z : Int) (m : List (List Int)) (hb : goodB 2 2 z m = true) (km : SzM m) :
    FSpec Try.prog 51 [.ag [.c (.int .i64 (2)), .c (.int .i64 (2)), .c (.int .i64 (z)), .t (.rows m)]] (ex (.tu [.ag [.c (.int .i64 (2)), .c (.int .i64 (2)), .c (.int .i64 (rdW z (gcM z m 4))), .own 0], .c (.bool true)]) [(0, .rows 44 3 true (rdM m (gcM z m 4)))]) := by
  obtain ⟨na, nb, e1, e2, g1, g2, g3, g4, g5, g6, g7, g8, g9⟩ := goodB_spec hb
  obtain rfl : na = 2 := by omega
  obtain rfl : nb = 2 := by omega
  have h4 : ∀ r, r ∈ m → r.length = 4 := fun r hr => (g9 r hr).1
  have hz0 : z = ((gcM z m 0 : Nat) : Int) := by show z = ((z.toNat : Nat) : Int); omega
  refine fspec tyOk mx Try.func51 rfl (by kernel_rfl) rfl ?_
  conv => whnf
  refine ACall.use (IsBox_spec 2 2 z m km) ?_
  rw [hb]
  conv => whnf
  first | refine ⟨fun h => absurd h (by decide), fun _ => ?_⟩ | refine ⟨fun _ => ?_, fun h => absurd h (by decide)⟩
  conv => whnf
  refine aloopI tyOk mx (fun i : Nat => (⟨43, [(1, .ptr 0 0), (2, .ptr 1 0), (4, .ptr 2 0), (16, .t (.rows m)), (17, .c (.int .i64 (m.length))), (18, .c (.int .i64 (i)))], [(0, .cells 34 [.c (.int .i64 (2)), .c (.int .i64 (2)), .c (.int .i64 (z)), .t (.rows m)]), (1, .cells 34 [.c (.int .i64 (0)), .c (.int .i64 (0)), .c (.int .i64 (0)), .c (.slice none 0 0)]), (2, .cells 3 [.c (.int .i64 (gcM z m i))])], 3⟩ : St)) (fun i => i ≤ 4) (fun i => 4 - i) 0 (Nat.zero_le _) none (by refine ⟨rfl, rfl, ?_, ?_⟩ <;> ((repeat' (first | exact trivial | exact rfl | refine And.intro ?_ ?_)) <;> (try ((conv => whnf); first | refine vint ?_ | refine vboo ?_ | refine rint ?_ | refine rrow ?_ | skip)) <;> (try first | omega | (simp; done) | ((repeat rw [flts_closed _ (by assumption)]); exact vws_closed _ (by assumption))))) (fun i hi => ?_)
  have bi := gcM_bd z m g5 i
  refine ⟨fun h => ?_, fun h => ?_⟩
  · have h : i < 4 := by have := ltT h; omega
    have hr4 := h4 _ (getD_mem (d := []) (k := i) (by omega))
    have hv := (g9 _ (getD_mem (d := []) (k := i) (by omega))).2.1
    conv => whnf
    refine ⟨i, rfl, by omega, ?_⟩
    conv => whnf
    refine aloopI tyOk mx (fun n : Nat => (⟨43, [(1, .ptr 0 0), (2, .ptr 1 0), (4, .ptr 2 0), (16, .t (.rows m)), (17, .c (.int .i64 (m.length))), (18, .c (.int .i64 (i))), (22, .t (.ints .i64 (m.getD i []))), (23, .c (.int .i64 ((m.getD i []).length))), (24, .c (.int .i64 (n)))], [(0, .cells 34 [.c (.int .i64 (2)), .c (.int .i64 (2)), .c (.int .i64 (z)), .t (.rows m)]), (1, .cells 34 [.c (.int .i64 (0)), .c (.int .i64 (0)), .c (.int .i64 (0)), .c (.slice none 0 0)]), (2, .cells 3 [.c (.int .i64 (gcR m i (gcM z m i) n))])], 3⟩ : St)) (fun n => n ≤ 4) (fun n => 4 - n) 0 (Nat.zero_le _) none (by refine ⟨rfl, rfl, ?_, ?_⟩ <;> ((repeat' (first | exact trivial | exact rfl | refine And.intro ?_ ?_)) <;> (try ((conv => whnf); first | refine vint ?_ | refine vboo ?_ | refine rint ?_ | refine rrow ?_ | skip)) <;> (try first | omega | (simp; done) | ((repeat rw [flts_closed _ (by assumption)]); exact vws_closed _ (by assumption))))) (fun n hn => ?_)
    refine ⟨fun h5 => ?_, fun h5 => ?_⟩
    · have h5 : n < 4 := by have := ltT h5; omega
      have bv := hv _ (getD_mem (d := 0) (k := n) (by omega))
      have ev : (m.getD i []).getD n 0 = ((((m.getD i []).getD n 0).toNat : Nat) : Int) := by omega
      conv => whnf
      refine ⟨n, rfl, by omega, ?_⟩
      conv => whnf
      rw [ev]
      refine ACall.use (divisor_spec _ _) ?_
      conv => whnf
      rw [nat_wrap (by omega)]
      exact ⟨n + 1, none, (by refine ⟨rfl, rfl, ?_, ?_⟩ <;> ((repeat' (first | exact trivial | exact rfl | refine And.intro ?_ ?_)) <;> (try ((conv => whnf); first | refine vint ?_ | refine vboo ?_ | refine rint ?_ | refine rrow ?_ | skip)) <;> (try first | omega | (simp; done) | ((repeat rw [flts_closed _ (by assumption)]); exact vws_closed _ (by assumption))))), by omega, by omega⟩
    · have h5 : ¬ n < 4 := by have := ltF h5; omega
      obtain rfl : n = 4 := by omega
      conv => whnf
      rw [nat_wrap (by omega)]
      exact ⟨i + 1, none, (by refine ⟨rfl, rfl, ?_, ?_⟩ <;> ((repeat' (first | exact trivial | exact rfl | refine And.intro ?_ ?_)) <;> (try ((conv => whnf); first | refine vint ?_ | refine vboo ?_ | refine rint ?_ | refine rrow ?_ | skip)) <;> (try first | omega | (simp; done) | ((repeat rw [flts_closed _ (by assumption)]); exact vws_closed _ (by assumption))))), by omega, by omega⟩
  · have h : ¬ i < 4 := by have := ltF h; omega
    obtain rfl : i = 4 := by omega
    generalize hG : gcM z m 4 = G at *
    conv => whnf
    refine ADraw.plan tyOk mx (.q 0 (.q 1 (.q 2 (.q 3 (.q 4 (.q 5 (.q 6 (.q 7 (.q 8 (.last 9 (.last 10 (.q 11 (.done)))))))))))) : Plan) (by kernel_rfl) ?_
    conv => whnf
    refine ⟨by omega, ?_⟩
    conv => whnf
    refine ACall.useR (newBox_spec 2 2 (rdW z G) _ [.rp [.c (.int .i64 (2)), .c (.int .i64 (2)), .c (.int .i64 (z)), .t (.rows m)] 0, .rp [.c (.int .i64 (G))] 0] (rdNum m G) (by omega) (by omega) (fun _ _ => rfl) rfl (fun i k' a b hi hk ha hb => rdNum_spec m (by omega) h4 z G (by omega) i k' a b hi hk ha hb)) ?_
    conv => whnf
    exact ⟨rfl, rfl⟩

def mixA (m m' : List (List Int)) (p q : Nat) : Int := W ((m.getD p []).getD q 0 + (m'.getD p []).getD q 0)
def mixR (m m' : List (List Int)) (p : Nat) : List Int := (List.range 4).map (mixA m m' p)
theorem l2Mix_spec (x y z z' : Int) (m m' : List (List Int)) (hm : m.length = 4) (h4 : ∀ r, r ∈ m → r.length = 4) (hm' : m'.length = 4) (h4' : ∀ r, r ∈ m' → r.length = 4) (x' y' : Int) :
    FSpec Try.prog 39 [.ag [.c (.int .i64 (x)), .c (.int .i64 (y)), .c (.int .i64 (z)), .t (.rows m)], .ag [.c (.int .i64 (x')), .c (.int .i64 (y')), .c (.int .i64 (z')), .t (.rows m')]] (ex (.ag [.c (.int .i64 (x)), .c (.int .i64 (y)), .c (.int .i64 (W (z + z'))), .own 0]) [(0, .rows 44 3 true (mixL m m'))]) := by
  refine fspec tyOk mx Try.func39 rfl (by kernel_rfl) rfl ?_
  conv => whnf
  refine aloopI tyOk mx (fun i : Nat => (⟨59, [(2, .ptr 0 0), (3, .ptr 1 0), (4, .ptr 2 0), (5, .ptr 4 0), (6, .c (.int .i64 (i)))], [(0, .cells 34 [.c (.int .i64 (x)), .c (.int .i64 (y)), .c (.int .i64 (z)), .t (.rows m)]), (1, .cells 34 [.c (.int .i64 (x')), .c (.int .i64 (y')), .c (.int .i64 (z')), .t (.rows m')]), (2, .cells 34 [.c (.int .i64 (0)), .c (.int .i64 (0)), .c (.int .i64 (0)), .c (.slice none 0 0)]), (3, .rows 44 3 true ((List.range i).map (mixR m m'))), (4, .cells 34 [.c (.int .i64 (x)), .c (.int .i64 (y)), .c (.int .i64 (W (z + z'))), .own 3])], 5⟩ : St)) (fun i => i ≤ 4) (fun i => 4 - i) 0 (Nat.zero_le _) none (by refine ⟨rfl, rfl, ?_, ?_⟩ <;> ((repeat' (first | exact trivial | exact rfl | refine And.intro ?_ ?_)) <;> (try ((conv => whnf); first | refine vint ?_ | refine vboo ?_ | refine rint ?_ | refine rrow ?_ | skip)) <;> (try first | omega | (simp; done) | ((repeat rw [flts_closed _ (by assumption)]); exact vws_closed _ (by assumption))))) (fun i hi => ?_)
  refine ⟨fun h => ?_, fun h => ?_⟩
  · have h : i < 4 := by have := ltT h; omega
    have r1 := h4 _ (getD_mem (d := []) (k := i) (by omega))
    have r2 := h4' _ (getD_mem (d := []) (k := i) (by omega))
    conv => whnf
    refine aloopI tyOk mx (fun n : Nat => (⟨59, [(2, .ptr 0 0), (3, .ptr 1 0), (4, .ptr 2 0), (5, .ptr 4 0), (6, .c (.int .i64 (i))), (7, .own 5), (8, .c (.int .i64 (n)))], [(0, .cells 34 [.c (.int .i64 (x)), .c (.int .i64 (y)), .c (.int .i64 (z)), .t (.rows m)]), (1, .cells 34 [.c (.int .i64 (x')), .c (.int .i64 (y')), .c (.int .i64 (z')), .t (.rows m')]), (2, .cells 34 [.c (.int .i64 (0)), .c (.int .i64 (0)), .c (.int .i64 (0)), .c (.slice none 0 0)]), (3, .rows 44 3 true ((List.range i).map (mixR m m'))), (4, .cells 34 [.c (.int .i64 (x)), .c (.int .i64 (y)), .c (.int .i64 (W (z + z'))), .own 3]), (5, .ints 3 .i64 ((List.range n).map (mixA m m' i)))], 6⟩ : St)) (fun n => n ≤ 4) (fun n => 4 - n) 0 (Nat.zero_le _) none (by refine ⟨rfl, rfl, ?_, ?_⟩ <;> ((repeat' (first | exact trivial | exact rfl | refine And.intro ?_ ?_)) <;> (try ((conv => whnf); first | refine vint ?_ | refine vboo ?_ | refine rint ?_ | refine rrow ?_ | skip)) <;> (try first | omega | (simp; done) | ((repeat rw [flts_closed _ (by assumption)]); exact vws_closed _ (by assumption))))) (fun n hn => ?_)
    refine ⟨fun h5 => ?_, fun h5 => ?_⟩
    · have h5 : n < 4 := by have := of_decide_eq_true h5; omega
      refine ADraw.plan tyOk mx (.q 0 (.q 1 (.q 2 (.q 3 (.q 4 (.q 5 (.q 6 (.q 7 (.q 8 (.q 9 (.q 10 (.q 11 (.q 12 (.q 13 (.q 14 (.q 15 (.q 16 (.q 17 (.last 18 (.last 19 (.q 20 (.done))))))))))))))))))))) : Plan) (by kernel_rfl) ?_
      conv => whnf
      refine ⟨i, rfl, by omega, n, rfl, by omega, i, rfl, by omega, n, rfl, by omega, ?_⟩
      conv => whnf
      refine ⟨by simp [room]; omega, ?_⟩
      conv => whnf
      rw [nat_wrap (by omega)]
      refine ⟨n + 1, none, ?_, by omega, by omega⟩
      (refine ⟨rfl, rfl, ?_, ?_⟩ <;> ((repeat' (first | exact trivial | exact rfl | refine And.intro ?_ ?_)) <;> (try ((conv => whnf); first | refine vint ?_ | refine vboo ?_ | refine rint ?_ | refine rrow ?_ | skip)) <;> (try first | omega | (simp; done) | ((repeat rw [flts_closed _ (by assumption)]); exact vws_closed _ (by assumption)))))
      rw [← map_range_succ]; rfl
    · have h5 : ¬ n < 4 := by have := of_decide_eq_false h5; omega
      obtain rfl : n = 4 := by omega
      conv => whnf
      refine ⟨by simp [room]; omega, ?_⟩
      conv => whnf
      rw [nat_wrap (by omega)]
      refine ⟨i + 1, none, ?_, by omega, by omega⟩
      (refine ⟨rfl, rfl, ?_, ?_⟩ <;> ((repeat' (first | exact trivial | exact rfl | refine And.intro ?_ ?_)) <;> (try ((conv => whnf); first | refine vint ?_ | refine vboo ?_ | refine rint ?_ | refine rrow ?_ | skip)) <;> (try first | omega | (simp; done) | ((repeat rw [flts_closed _ (by assumption)]); exact vws_closed _ (by assumption)))))
      exact map_range_succ (mixR m m') i
  · have h : ¬ i < 4 := by have := ltF h; omega
    obtain rfl : i = 4 := by omega
    conv => whnf
    exact ⟨rfl, rfl⟩

def jnIn (x y z : Int) (m : List (List Int)) (k N : Int) : Bool := qpB x y z m && (inR k 0 7 && inR N 0 1000)
def jnOk (x y z : Int) (m : List (List Int)) (k N : Int) : Bool := jnIn x y z m k N && goodB 2 2 (jnW z N) (jnM m k N)
def jnG (z : Int) (m : List (List Int)) (k N : Int) : Nat := gcM (jnW z N) (jnM m k N) 4
def jnV (x y z : Int) (m : List (List Int)) (k N : Int) : Int := if jnOk x y z m k N then rdW (jnW z N) (jnG z m k N) else 0
def jnR (x y z : Int) (m : List (List Int)) (k N : Int) : List (List Int) := if jnOk x y z m k N then rdM (jnM m k N) (jnG z m k N) else []

theorem jnNum_spec (m : List (List Int)) (hm : m.length = 4) (h4 : ∀ r, r ∈ m → r.length = 4) (z : Int) (k : Int) (N : Int) (x y a b : Nat) (hx : x < 2) (hy : y < 2) (ha : a < 2) (hb : b < 2) :
    FSpec Try.prog 48 [.c (.int .i64 (x)), .c (.int .i64 (y)), .c (.int .i64 (a)), .c (.int .i64 (b)), .rp [.c (.int .i64 (2)), .c (.int .i64 (2)), .c (.int .i64 (z)), .t (.rows m)] 0, .rp [.c (.int .i64 (N))] 0, .rp [.c (.int .i64 (2)), .c (.int .i64 (2)), .c (.int .i64 (2)), .t (.rows (equalM k))] 0] (ex (.c (.int .i64 (jnNum m k N x y a b))) []) := by
  have hl : (equalM k).length = 4 := boxRows_len _ 2 2
  have hr := boxRows_rows (eqNum k) 2 2 _ (getD_mem (d := []) (show x * 2 + y < (equalM k).length by omega))
  have hr2 := h4 _ (getD_mem (d := []) (show x * 2 + y < m.length by omega))
  refine fspec tyOk mx Try.func48 rfl (by kernel_rfl) rfl ?_
  conv => whnf
  refine ADraw.plan tyOk mx (.q 0 (.q 1 (.q 2 (.q 3 (.q 4 (.q 6 (.q 7 (.q 8 (.q 9 (.q 10 (.q 11 (.last 5 (.last 12 (.q 13 (.q 14 (.q 15 (.done)))))))))))))))) : Plan) (by kernel_rfl) ?_
  conv => whnf
  refine ACall.useR (at_spec 2 2 x y a b z m (by omega) (by omega) (by omega) (by omega)) ?_
  conv => whnf
  refine ACall.useR (at_spec 2 2 x y a b 2 (equalM k) (by omega) (by omega) (by show 2 * a + b < ((boxRows (eqNum k) 2 2).getD (x * 2 + y) []).length; rw [hr]; omega) (by omega)) ?_
  conv => whnf
  refine ⟨?_, rfl⟩
  rw [equalM, boxRows_get _ hx hy ha hb]; rfl

theorem JoinPart_i (x y z : Int) (m : List (List Int)) (_hx : InR x) (_hy : InR y) (_hz : InR z) (_hm : OkM m) (km : SzM m) (k : Int) (_hk : InR k) (N : Int) (_hN : InR N) :
    FSpec Try.prog 19 [.ag [.c (.int .i64 (x)), .c (.int .i64 (y)), .c (.int .i64 (z)), .t (.rows m)], .c (.int .i64 (k)), .c (.int .i64 (N))] (ex (.tu [.ag [.c (.int .i64 (if jnOk x y z m k N then 2 else 0)), .c (.int .i64 (if jnOk x y z m k N then 2 else 0)), .c (.int .i64 (if jnOk x y z m k N then rdW (jnW z N) (jnG z m k N) else 0)), .own 0], .c (.bool (jnOk x y z m k N))]) [(0, .rows 44 3 true (jnR x y z m k N))]) := by
  refine view_box ?_
  refine fspec tyOk mx Try.func19 rfl (by kernel_rfl) rfl ?_
  conv => whnf
  refine ACall.use (isQuietPair_spec x y z m km) ?_
  conv => whnf
  refine ⟨fun h => ?_, fun h => ?_⟩
  · have h : qpB x y z m = true := by simpa using h
    conv => whnf
    refine ACall.use (within_spec _ _ _) ?_
    conv => whnf
    refine ⟨fun h1 => ?_, fun h1 => ?_⟩
    · have h1 : inR k 0 7 = true := by simpa using h1
      conv => whnf
      refine ACall.use (within_spec _ _ _) ?_
      conv => whnf
      refine ⟨fun h2 => ?_, fun h2 => ?_⟩
      · have h2 : inR N 0 1000 = false := by simpa using h2
        have e : jnOk x y z m k N = false := by rw [jnOk, jnIn, h2]; simp
        conv => whnf
        exact .inl ⟨e, rfl, rfl⟩
      · have h2 : inR N 0 1000 = true := by simpa using h2
        have e : jnIn x y z m k N = true := by rw [jnIn, h, h1, h2]; rfl
        obtain ⟨rfl, rfl, g1, g2, g3, g4⟩ := qpB_spec h
        have h4 : ∀ r, r ∈ m → r.length = 4 := fun r hr => (g4 r hr).1
        conv => whnf
        refine ACall.use (equalSum_spec k) ?_
        conv => whnf
        refine ACall.use (newBox_spec 2 2 (jnW z N) _ [.rp [.c (.int .i64 (2)), .c (.int .i64 (2)), .c (.int .i64 (z)), .t (.rows m)] 0, .rp [.c (.int .i64 (N))] 0, .rp [.c (.int .i64 (2)), .c (.int .i64 (2)), .c (.int .i64 (2)), .t (.rows (equalM k))] 0] (jnNum m k N) (by omega) (by omega) (fun _ _ => rfl) rfl (fun i k' a b hi hk ha hb => jnNum_spec m g3 h4 z k N i k' a b hi hk ha hb)) ?_
        conv => whnf
        refine ACall.use (IsBox_spec 2 2 (jnW z N) (jnM m k N) (box_sz _)) ?_
        conv => whnf
        refine ⟨fun h5 => ?_, fun h5 => ?_⟩
        · have h5 : goodB 2 2 (jnW z N) (jnM m k N) = false := by simpa using h5
          have e2 : jnOk 2 2 z m k N = false := by rw [jnOk, h5, Bool.and_false]
          conv => whnf
          exact .inl ⟨e2, rfl, rfl⟩
        · have h5 : goodB 2 2 (jnW z N) (jnM m k N) = true := by simpa using h5
          have e2 : jnOk 2 2 z m k N = true := by rw [jnOk, e, h5]; rfl
          conv => whnf
          refine ACall.use (ReduceBox_spec (jnW z N) (jnM m k N) h5 (box_sz _)) ?_
          conv => whnf
          exact .inr ⟨e2, rfl, rfl⟩
    · have h1 : inR k 0 7 = false := by simpa using h1
      have e : jnOk x y z m k N = false := by rw [jnOk, jnIn, h1]; simp
      (repeat (conv => whnf); (first | refine ⟨fun h => absurd h (by decide), fun _ => ?_⟩ | refine ⟨fun _ => ?_, fun h => absurd h (by decide)⟩)); conv => whnf
      exact .inl ⟨e, rfl, rfl⟩
  · have h : qpB x y z m = false := by simpa using h
    have e : jnOk x y z m k N = false := by rw [jnOk, jnIn, h]; simp
    (repeat (conv => whnf); (first | refine ⟨fun h => absurd h (by decide), fun _ => ?_⟩ | refine ⟨fun _ => ?_, fun h => absurd h (by decide)⟩)); conv => whnf
    exact .inl ⟨e, rfl, rfl⟩
end Go.Proofs.Yteoccgiofepolaa
