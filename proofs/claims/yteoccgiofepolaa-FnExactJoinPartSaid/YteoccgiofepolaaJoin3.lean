/- Joined parts: the reference, walked. -/
import Derived.Test.YteoccgiofepolaaJoin2
namespace Go.Proofs.Yteoccgiofepolaa
open Go.Aw
set_option maxRecDepth 100000
set_option maxHeartbeats 4000000

theorem jn_mix (m : List (List Int)) (k N : Int) : mixL m (timesL (equalM k) N 1) = jnM m k N := by
  have hl : (equalM k).length = 4 := boxRows_len _ 2 2
  have hr := boxRows_rows (eqNum k) 2 2
  rw [jnM, mat_rows]
  unfold mixL
  refine mat_congr fun p q hp hq => ?_
  rw [times_get hl hr _ _ hp hq, equalM, mat_get _ hp hq, jnNum, tdiv_one, WW, Int.mul_comm]
  rw [show p / 2 * 2 + p % 2 = p by omega, show 2 * (q / 2) + q % 2 = q by omega]
theorem jn_zero (z : Int) (m : List (List Int)) (k : Int) (hz : 1 ≤ z) (hz2 : z ≤ 1000) (hm : m.length = 4) (h4 : ∀ r, r ∈ m → r.length = 4 ∧ ∀ v, v ∈ r → 0 ≤ v ∧ v ≤ z) : jnM m k 0 = m := by
  rw [jnM, mat_rows]
  refine Eq.trans ?_ (mat_eta hm (fun r hr => (h4 r hr).1))
  refine mat_congr fun p q hp hq => ?_
  have h1 : m.getD p [] ∈ m := by rw [List.getD_eq_getElem?_getD, List.getElem?_eq_getElem (by omega)]; exact List.getElem_mem _
  have h2 := h4 _ h1
  have h3 : (m.getD p []).getD q 0 ∈ m.getD p [] := by rw [List.getD_eq_getElem?_getD (l := m.getD p []), List.getElem?_eq_getElem (by omega)]; exact List.getElem_mem _
  have h5 := h2.2 _ h3
  rw [jnNum, Int.zero_mul, show W 0 = 0 from rfl, Int.add_zero, show p / 2 * 2 + p % 2 = p by omega, show 2 * (q / 2) + q % 2 = q by omega]
  exact w64 (by omega) (by omega)

theorem l6Kind_s (k : Int) : FSpec Try.prog 37 [.c (.int .i64 (k))] (ex (.c (.bool (inR k 0 7))) []) := by
  refine fspec tyOk mx Try.func37 rfl (by kernel_rfl) rfl ?_
  conv => whnf
  refine ACall.use (l1In_spec _ _ _) ?_
  conv => whnf
  exact ⟨rfl, rfl⟩

theorem JoinPart_s (x y z : Int) (m : List (List Int)) (_hx : InR x) (_hy : InR y) (_hz : InR z) (_hm : OkM m) (km : SzM m) (k : Int) (_hk : InR k) (N : Int) (_hN : InR N) :
    FSpec Try.prog 17 [.ag [.c (.int .i64 (x)), .c (.int .i64 (y)), .c (.int .i64 (z)), .t (.rows m)], .c (.int .i64 (k)), .c (.int .i64 (N))] (ex (.tu [.ag [.c (.int .i64 (if jnOk x y z m k N then 2 else 0)), .c (.int .i64 (if jnOk x y z m k N then 2 else 0)), .c (.int .i64 (if jnOk x y z m k N then rdW (jnW z N) (jnG z m k N) else 0)), .own 0], .c (.bool (jnOk x y z m k N))]) [(0, .rows 44 3 true (jnR x y z m k N))]) := by
  refine view_box ?_
  refine fspec tyOk mx Try.func17 rfl (by kernel_rfl) rfl ?_
  conv => whnf
  refine ACall.use (l6Quiet_spec x y z m km) ?_
  conv => whnf
  refine ⟨fun h => ?_, fun h => ?_⟩
  · have h : qpB x y z m = true := by simpa using h
    conv => whnf
    refine ACall.use (l6Kind_s _) ?_
    conv => whnf
    refine ⟨fun h1 => ?_, fun h1 => ?_⟩
    · have h1 : inR k 0 7 = true := by simpa using h1
      conv => whnf
      refine ACall.use (l1In_spec _ _ _) ?_
      conv => whnf
      refine ⟨fun h2 => ?_, fun h2 => ?_⟩
      · have h2 : inR N 0 1000 = false := by simpa using h2
        have e : jnOk x y z m k N = false := by rw [jnOk, jnIn, h2]; simp
        conv => whnf
        exact .inl ⟨e, rfl, rfl⟩
      · have h2 : inR N 0 1000 = true := by simpa using h2
        have e : jnIn x y z m k N = true := by rw [jnIn, h, h1, h2]; rfl
        obtain ⟨rfl, rfl, g1, g2, g3, g4⟩ := qpB_spec h
        have h4 : ∀ r, r ∈ m → r.length = 4 := fun r hr => (g4 r hr).1
        have k1 := inR_iff.1 h1
        have k2 := inR_iff.1 h2
        have hel : (equalM k).length = 4 := boxRows_len _ 2 2
        have her := boxRows_rows (eqNum k) 2 2
        have bad : goodB 2 2 (jnW z N) (jnM m k N) = false → jnOk 2 2 z m k N = false := fun h5 => by rw [jnOk, h5, Bool.and_false]
        have good : goodB 2 2 (jnW z N) (jnM m k N) = true → jnOk 2 2 z m k N = true := fun h5 => by rw [jnOk, e, h5]; rfl
        conv => whnf
        refine ⟨fun h3 => ?_, fun h3 => ?_⟩
        · have h3 := of_decide_eq_true h3
          obtain ⟨kn, rfl⟩ : ∃ n : Nat, k = n := ⟨k.toNat, by omega⟩
          have ew : W (z + W (Int.tdiv (W (2 * N)) 1)) = jnW z N := by rw [tdiv_one, WW]; rfl
          conv => whnf
          refine ADraw.plan tyOk mx (.q 0 (.q 1 (.q 3 (.last 2 (.last 4 (.last 5 (.last 6 (.done))))))) : Plan) (by kernel_rfl) ?_
          conv => whnf
          refine ACall.useR (l6Sum_spec kn (by omega)) ?_
          conv => whnf
          refine ACall.useR (l2Times_spec 2 2 2 (equalM kn) N 1 (by decide) (by omega) (fun r hr => by rw [her r hr]; omega)) ?_
          conv => whnf
          refine ACall.useR (l2Mix_spec 2 2 z _ m (timesL (equalM kn) N 1) g3 h4 (by rw [timesL_len]; omega) (fun r hr => by
            obtain ⟨c, hc, rfl⟩ := List.mem_map.1 hr
            rw [timesR, List.length_map]; exact her c hc) 2 2) ?_
          rw [jn_mix, ew]
          conv => whnf
          refine ACall.use (l2Box_spec 2 2 (jnW z N) (jnM m kn N) (box_sz _)) ?_
          conv => whnf
          refine ⟨fun h5 => ?_, fun h5 => ?_⟩
          · have h5 : goodB 2 2 (jnW z N) (jnM m kn N) = false := by simpa using h5
            conv => whnf
            exact .inl ⟨bad h5, rfl, rfl⟩
          · have h5 : goodB 2 2 (jnW z N) (jnM m kn N) = true := by simpa using h5
            conv => whnf
            refine ACall.use (l2Reduced_spec (jnW z N) (jnM m kn N) h5) ?_
            conv => whnf
            exact .inr ⟨good h5, rfl, rfl⟩
        · have h3 := of_decide_eq_false h3
          obtain rfl : N = 0 := by omega
          have e1 : jnM m k 0 = m := jn_zero z m k (by omega) (by omega) g3 (fun r hr => ⟨(g4 r hr).1, (g4 r hr).2.1⟩)
          have e2 : jnW z 0 = z := by show W (z + W (2 * 0)) = z; rw [show W (2 * 0) = 0 from rfl, Int.add_zero]; exact w64 (by omega) (by omega)
          rw [e1, e2] at bad good
          conv => whnf
          refine ACall.use (l2Box_spec 2 2 z m km) ?_
          conv => whnf
          refine ⟨fun h5 => ?_, fun h5 => ?_⟩
          · have h5 : goodB 2 2 z m = false := by simpa using h5
            conv => whnf
            exact .inl ⟨bad h5, rfl, rfl⟩
          · have h5 : goodB 2 2 z m = true := by simpa using h5
            conv => whnf
            refine ACall.use (l2Reduced_spec z m h5) ?_
            rw [show rdW z (gcM z m 4) = rdW (jnW z 0) (jnG z m k 0) by rw [jnG, e1, e2], show rdM m (gcM z m 4) = rdM (jnM m k 0) (jnG z m k 0) by rw [jnG, e1, e2]]
            conv => whnf
            exact .inr ⟨good h5, rfl, rfl⟩
    · have h1 : inR k 0 7 = false := by simpa using h1
      have e : jnOk x y z m k N = false := by rw [jnOk, jnIn, h1]; simp
      (repeat (conv => whnf); (first | refine ⟨fun h => absurd h (by decide), fun _ => ?_⟩ | refine ⟨fun _ => ?_, fun h => absurd h (by decide)⟩)); conv => whnf
      exact .inl ⟨e, rfl, rfl⟩
  · have h : qpB x y z m = false := by simpa using h
    have e : jnOk x y z m k N = false := by rw [jnOk, jnIn, h]; simp
    (repeat (conv => whnf); (first | refine ⟨fun h => absurd h (by decide), fun _ => ?_⟩ | refine ⟨fun _ => ?_, fun h => absurd h (by decide)⟩)); conv => whnf
    exact .inl ⟨e, rfl, rfl⟩

theorem JoinPart_bd (x y z : Int) (m : List (List Int)) (_hx : InR x) (_hy : InR y) (_hz : InR z) (_hm : OkM m) (_km : SzM m) (k : Int) (_hk : InR k) (N : Int) (_hN : InR N) : (jnR x y z m k N).length ≤ 1048576 ∧ tot (jnR x y z m k N) ≤ 1048576 := by
  unfold jnR
  split
  · obtain ⟨a, _, b⟩ := (box_sz (rdNum (jnM m k N) (jnG z m k N))).all
    exact ⟨a, b⟩
  · simp [tot]
end Go.Proofs.Yteoccgiofepolaa
