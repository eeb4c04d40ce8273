/- Draws of quiet boxes with two questions each. -/
import Derived.Test.YtkomndcehdneaaaM9
import Derived.Test.YtkomndcehdneaaaM10
import Derived.Test.YtkomndcehdneaaaM3
namespace Go.Proofs.Ytkomndcehdneaaa
open Go.Aw
set_option maxRecDepth 100000
set_option maxHeartbeats 4000000

theorem inr2 : InR 2 := by unfold InR; omega
theorem box_R4 {f : Nat → Nat → Nat → Nat → Int} (h : ∀ x y a b, InR (f x y a b)) : R4 (boxRows f 2 2) := fun r hr => by
  refine ⟨boxRows_rows f 2 2 r hr, fun v hv => ?_⟩
  rw [mat_rows] at hr
  obtain ⟨p, _, rfl⟩ := List.mem_map.1 hr
  obtain ⟨q, _, rfl⟩ := List.mem_map.1 hv
  exact h _ _ _ _
theorem equal_R4 (k : Int) : R4 (equalM k) := box_R4 fun _ _ _ _ => W_inr _
theorem equal_len (k : Int) : (equalM k).length = 4 := boxRows_len _ 2 2
theorem ns_R4 (k sh no : Int) : R4 (nsM k sh no) := box_R4 fun _ _ _ _ => W_inr _
theorem ex_R4 {i : Nat} (hi : i < 24) : R4 (exRow i) := by
  have : ∀ i : Nat, i < 24 → (exRow i).all (fun r => decide (r.length = 4) && rowIn r 0 2) = true := by decide +kernel
  intro r hr
  have h := List.all_eq_true.1 (this i hi) r hr
  simp only [Bool.and_eq_true, decide_eq_true_eq] at h
  exact ⟨h.1, fun v hv => by have := rowIn_iff.1 h.2 v hv; unfold InR; omega⟩
theorem R4.times {m : List (List Int)} (h : R4 m) (k d : Int) : R4 (timesL m k d) := fun r hr => by
  obtain ⟨q, hq, rfl⟩ := List.mem_map.1 hr
  refine ⟨by unfold timesR; rw [List.length_map]; exact (h q hq).1, fun v hv => ?_⟩
  obtain ⟨u, _, rfl⟩ := List.mem_map.1 hv
  exact W_inr _

theorem quietTwo_spec (code : List Int) (hc : OkB code) (a : Nat) (s : Int) (ha : a ≤ 500000000) :
    TSpec Try.prog 188 (cur code a s) [.ptr 0 0] (drawnBx code a 1200) := by
  refine drawnB_tell ?_
  refine tspec tyOk mx Try.func188 rfl (by kernel_rfl) rfl rfl ?_
  conv => whnf
  refine ACallS.tmut 0 (pick_spec code hc a s (by omega) 12 (by omega) (by omega)) ?_ rfl (by (repeat' (first | exact trivial | exact rfl | refine And.intro ?_ ?_)) <;> (try first | omega | (simp; done))) (by (repeat' (first | exact trivial | exact rfl | refine And.intro ?_ ?_)) <;> (try first | omega | (simp; done)))
  rintro v r ⟨c, a1, s1, rfl, l_c, u_c, e_a1, g_a1, rfl⟩
  conv => whnf
  refine ⟨fun c0 => ?_, fun c0 => ?_⟩
  · conv => whnf
    refine ACallS.omut 0 (someBox_spec code hc a1 s1 (by omega) 2 2) ?_ rfl (by (repeat' (first | exact trivial | exact rfl | refine And.intro ?_ ?_)) <;> (try first | omega | (simp; done))) (by (repeat' (first | exact trivial | exact rfl | refine And.intro ?_ ?_)) <;> (try first | omega | (simp; done)))
    rintro v h r ⟨z, m, a3, s3, hz, hm, h4, rfl, rfl, e3, g3, rfl⟩
    have hm : m.length = 4 := hm
    conv => whnf
    refine ACallS.inline tyOk mx Try.func219 rfl (by kernel_rfl) rfl ?_
    conv => whnf
    refine ACallS.tmut 0 (pick_spec code hc a3 s3 (by omega) 50 (by omega) (by omega)) ?_ rfl (by (repeat' (first | exact trivial | exact rfl | refine And.intro ?_ ?_)) <;> (try first | omega | (simp; done))) (by (repeat' (first | exact trivial | exact rfl | refine And.intro ?_ ?_)) <;> (try first | omega | (simp; done)))
    rintro v r ⟨c, a4, s4, rfl, l_c, u_c, e_a4, g_a4, rfl⟩
    conv => whnf
    refine ⟨fun h0 => ?_, fun h0 => ?_⟩
    · conv => whnf
      refine ACallS.give ?_
      refine ACallS.tmutL (among_spec code hc a4 s4 (by omega) _ (by kernel_rfl) (-9223372036854775808) 9223372036854775807 (sp_in z)) ?_ rfl (by (repeat' (first | exact trivial | exact rfl | refine And.intro ?_ ?_)) <;> (try first | omega | (simp; done)))
      rintro v r ⟨q, a5, s5, rfl, lq, uq, e5, g5, rfl⟩
      conv => whnf
      refine ⟨rfl, ?_⟩
      conv => whnf
      exact .inl ⟨2, 2, q, m, a5, s5, rfl, inr2, inr2, ⟨lq, uq⟩, h4.sm hm (by omega), by omega, by omega, rfl⟩
    · conv => whnf
      refine ⟨fun h1 => ?_, fun h1 => ?_⟩
      · conv => whnf
        refine ⟨fun hp => ?_, fun hp => ?_⟩
        · have hp : 0 < (m).length := by have := of_decide_eq_true hp; omega
          conv => whnf
          refine ⟨0, rfl, hp, ?_⟩
          conv => whnf
          refine ⟨fun hl => ?_, fun hl => ?_⟩
          · have hl : ((m).getD 0 []).length = 4 := by have := beq_iff_eq.1 hl; omega
            have hr4 := h4 _ (getD_mem (d := []) hp)
            refine ADraw.plan tyOk mx (.q 0 (.q 1 (.q 2 (.q 3 (.q 4 (.q 5 (.q 6 (.q 7 (.q 8 (.q 9 (.q 10 (.q 11 (.q 12 (.q 13 (.q 14 (.q 15 (.q 16 (.q 17 (.q 18 (.q 19 (.q 20 (.q 21 (.q 22 (.q 23 (.q 24 (.q 25 (.q 26 (.q 27 (.last 28 (.q 29 (.last 30 (.done))))))))))))))))))))))))))))))) : Plan) (by kernel_rfl) ?_
            conv => whnf
            repeat' (first
              | (refine ⟨rfl, ?_⟩; (conv => whnf); exact .inl ⟨2, 2, z, List.set m 0 _, a4, s4, rfl, inr2, inr2, hz, h4.smSet hm (by omega) 0 (le4 (set4 (set4 (set4 (set4 rep4 _ (W_inr _)) _ (W_inr _)) _ (getI hr4.2 _)) _ (getI hr4.2 _))), by omega, by omega, rfl⟩; done)
              | (refine ⟨0, rfl, by omega, ?_⟩; conv => whnf)
              | (refine ⟨1, rfl, by omega, ?_⟩; conv => whnf)
              | (refine ⟨2, rfl, by omega, ?_⟩; conv => whnf)
              | (refine ⟨3, rfl, by omega, ?_⟩; conv => whnf)
              | (refine And.intro ?_ ?_ <;> (conv => whnf)))
          · (repeat (conv => whnf); (first | refine ⟨fun h => absurd h (by decide), fun _ => ?_⟩ | refine ⟨fun _ => ?_, fun h => absurd h (by decide)⟩)); conv => whnf
            refine ⟨rfl, ?_⟩
            conv => whnf
            exact .inl ⟨2, 2, z, m, a4, s4, rfl, inr2, inr2, hz, h4.sm hm (by omega), by omega, by omega, rfl⟩
        · (repeat (conv => whnf); (first | refine ⟨fun h => absurd h (by decide), fun _ => ?_⟩ | refine ⟨fun _ => ?_, fun h => absurd h (by decide)⟩)); conv => whnf
          refine ⟨rfl, ?_⟩
          conv => whnf
          exact .inl ⟨2, 2, z, m, a4, s4, rfl, inr2, inr2, hz, h4.sm hm (by omega), by omega, by omega, rfl⟩
      · conv => whnf
        refine ⟨fun h2 => ?_, fun h2 => ?_⟩
        · conv => whnf
          refine ⟨by simp [room]; omega, ?_⟩
          conv => whnf
          refine ⟨rfl, ?_⟩
          conv => whnf
          exact .inl ⟨2, 2, z, m ++ [_], a4, s4, rfl, inr2, inr2, hz, h4.smApp hm (by omega) (le4 (set4 (set4 (set4 (set4 rep4 _ (by unfold InR; omega)) _ inr0) _ inr0) _ inr0)), by omega, by omega, rfl⟩
        · conv => whnf
          refine ⟨fun h3 => ?_, fun h3 => ?_⟩
          · conv => whnf
            refine ⟨fun hp => ?_, fun hp => ?_⟩
            · have hp : 0 < (m).length := by have := of_decide_eq_true hp; omega
              conv => whnf
              refine ⟨0, rfl, hp, ?_⟩
              conv => whnf
              refine ⟨rfl, ?_⟩
              conv => whnf
              exact .inl ⟨2, 2, z, List.set m 0 _, a4, s4, rfl, inr2, inr2, hz, h4.smSet hm (by omega) 0 (sp3 hz), by omega, by omega, rfl⟩
            · conv => whnf
              refine ⟨rfl, ?_⟩
              conv => whnf
              exact .inl ⟨2, 2, z, m, a4, s4, rfl, inr2, inr2, hz, h4.sm hm (by omega), by omega, by omega, rfl⟩
          · conv => whnf
            refine ⟨fun h5 => ?_, fun h5 => ?_⟩
            · conv => whnf
              refine ⟨rfl, ?_⟩
              conv => whnf
              exact .inr ⟨a4, s4, rfl, by omega, by omega, rfl⟩
            · conv => whnf
              refine ⟨rfl, ?_⟩
              conv => whnf
              exact .inl ⟨2, 2, z, m, a4, s4, rfl, inr2, inr2, hz, h4.sm hm (by omega), by omega, by omega, rfl⟩
  · conv => whnf
    refine ⟨fun c1 => ?_, fun c1 => ?_⟩
    · conv => whnf
      refine ACallS.tmut 0 (quietBox_spec code hc a1 s1 (by omega)) ?_ rfl (by (repeat' (first | exact trivial | exact rfl | refine And.intro ?_ ?_)) <;> (try first | omega | (simp; done))) (by (repeat' (first | exact trivial | exact rfl | refine And.intro ?_ ?_)) <;> (try first | omega | (simp; done)))
      rintro v r ⟨x, y, z, m, a2, s2, rfl, hx, hy, hz, hm, e2, g2, rfl⟩
      conv => whnf
      exact .inl ⟨x, y, z, m, a2, s2, rfl, hx, hy, hz, hm, by omega, by omega, rfl⟩
    · conv => whnf
      refine ⟨fun c2 => ?_, fun c2 => ?_⟩
      · conv => whnf
        refine ADraw.planX [2, 6] tyOk mx (.q 1 (.q 5 (.last 0 (.inl 2 (.q 3 (.alt 4 (.inl 6 (.last 7 (.last 8 (.last 9 (.done))))) (.inl 6 (.alt 4 (.last 7 (.last 8 (.last 9 (.done)))) (.last 7 (.last 4 (.last 8 (.last 9 (.done)))))))))))) : Plan) (by kernel_rfl) ?_
        conv => whnf
        repeat' (first
          | (refine ACall.useR l6Extremes_spec ?_; conv => whnf)
          | (refine ACallS.tmutI (pick_spec code hc _ _ (by omega) 24 (by omega) (by omega)) ?_ rfl (by (repeat' (first | exact trivial | exact rfl | refine And.intro ?_ ?_)) <;> (try first | omega | (simp; done))); rintro v r ⟨i, a2, s2, rfl, l_i, u_i, e_a2, g_a2, rfl⟩; (conv => whnf))
          | (refine ACallS.tmutI (pick_spec code hc _ _ (by omega) 3 (by omega) (by omega)) ?_ rfl (by (repeat' (first | exact trivial | exact rfl | refine And.intro ?_ ?_)) <;> (try first | omega | (simp; done))); rintro v r ⟨t, a4, s4, rfl, l_t, u_t, e_a4, g_a4, rfl⟩; (conv => whnf))
          | (obtain ⟨i, rfl, hi⟩ := nat_of (len := 24) l_i (by omega); refine ⟨i, rfl, by rw [exL_len]; exact hi, ?_⟩; conv => whnf)
          | (rw [exL_get hi]; refine ACall.useR (l2Times_spec 2 2 2 (exRow i) _ 1 (by decide) (by rw [exRow_len]; omega) (fun r hr => by rw [(ex_R4 hi r hr).1]; omega)) ?_; conv => whnf)
          | (refine .inl ⟨2, 2, _, _, a4, s4, rfl, inr2, inr2, W_inr _, (R4.times (ex_R4 hi) _ _).sm rfl (by rw [timesL_len, exRow_len]; omega), by omega, by omega, rfl⟩; done)
          | (refine And.intro ?_ ?_ <;> (conv => whnf)))
      · conv => whnf
        refine ⟨fun c3 => ?_, fun c3 => ?_⟩
        · conv => whnf
          refine ⟨fun _ => ?_, fun h => absurd (c3.symm.trans h) (by decide)⟩
          conv => whnf
          refine ACallS.tmut 0 (pick_spec code hc a1 s1 (by omega) 8 (by omega) (by omega)) ?_ rfl (by (repeat' (first | exact trivial | exact rfl | refine And.intro ?_ ?_)) <;> (try first | omega | (simp; done))) (by (repeat' (first | exact trivial | exact rfl | refine And.intro ?_ ?_)) <;> (try first | omega | (simp; done)))
          rintro v r ⟨k, b1, t1, rfl, l_k, u_k, e_b1, g_b1, rfl⟩
          conv => whnf
          refine ACallS.tmut 0 (pick_spec code hc b1 t1 (by omega) 6 (by omega) (by omega)) ?_ rfl (by (repeat' (first | exact trivial | exact rfl | refine And.intro ?_ ?_)) <;> (try first | omega | (simp; done))) (by (repeat' (first | exact trivial | exact rfl | refine And.intro ?_ ?_)) <;> (try first | omega | (simp; done)))
          rintro v r ⟨sh, b2, t2, rfl, l_sh, u_sh, e_b2, g_b2, rfl⟩
          conv => whnf
          refine ACallS.tmut 0 (pick_spec code hc b2 t2 (by omega) 3 (by omega) (by omega)) ?_ rfl (by (repeat' (first | exact trivial | exact rfl | refine And.intro ?_ ?_)) <;> (try first | omega | (simp; done))) (by (repeat' (first | exact trivial | exact rfl | refine And.intro ?_ ?_)) <;> (try first | omega | (simp; done)))
          rintro v r ⟨no, b3, t3, rfl, l_no, u_no, e_b3, g_b3, rfl⟩
          conv => whnf
          refine ACall.use (NoisySum_s k (by unfold InR; omega) sh (by unfold InR; omega) no (by unfold InR; omega)) ?_
          conv => whnf
          refine ⟨fun hns => ?_, fun hns => ?_⟩
          · conv => whnf
            rw [if_pos hns, if_pos hns, nsR, if_pos hns]
            exact .inl ⟨2, 2, nsW sh no, nsM k sh no, b3, t3, rfl, inr2, inr2, W_inr _, (ns_R4 k sh no).sm (boxRows_len _ 2 2) (by omega), by omega, by omega, rfl⟩
          · conv => whnf
            refine ACallS.omut 0 (quietOf_spec code hc b3 t3 (by omega) 2 2) ?_ rfl (by (repeat' (first | exact trivial | exact rfl | refine And.intro ?_ ?_)) <;> (try first | omega | (simp; done))) (by (repeat' (first | exact trivial | exact rfl | refine And.intro ?_ ?_)) <;> (try first | omega | (simp; done)))
            rintro v h r ⟨z, m, a3, s3, hz, hm, h4, rfl, rfl, e3, g3, rfl⟩
            have hm : m.length = 4 := hm
            conv => whnf
            refine ACallS.tmut 0 (one_spec code hc a3 s3 (by omega) 3 (by omega) (by omega)) ?_ rfl (by (repeat' (first | exact trivial | exact rfl | refine And.intro ?_ ?_)) <;> (try first | omega | (simp; done))) (by (repeat' (first | exact trivial | exact rfl | refine And.intro ?_ ?_)) <;> (try first | omega | (simp; done)))
            rintro v r ⟨b1, a5, s5, rfl, e_a5, g_a5, rfl⟩
            conv => whnf
            refine ⟨fun hb1 => ?_, fun hb1 => ?_⟩
            · conv => whnf
              refine ADraw.planX [2, 5] tyOk mx (.q 1 (.q 4 (.alt 0 (.inl 2 (.last 3 (.inl 5 (.last 6 (.last 7 (.last 8 (.last 9 (.done)))))))) (.inl 2 (.alt 0 (.last 3 (.inl 5 (.last 6 (.last 7 (.last 8 (.last 9 (.done))))))) (.last 3 (.alt 0 (.inl 5 (.last 6 (.last 7 (.last 8 (.last 9 (.done)))))) (.inl 5 (.alt 0 (.last 6 (.last 7 (.last 8 (.last 9 (.done))))) (.last 6 (.alt 0 (.last 7 (.last 8 (.last 9 (.done)))) (.last 7 (.last 0 (.last 8 (.last 9 (.done))))))))))))))) : Plan) (by kernel_rfl) ?_
              conv => whnf
              repeat' (first
                | (refine ACallS.tmutI (pick_spec code hc _ _ (by omega) 8 (by omega) (by omega)) ?_ rfl (by (repeat' (first | exact trivial | exact rfl | refine And.intro ?_ ?_)) <;> (try first | omega | (simp; done))); rintro v r ⟨k, a6, s6, rfl, l_k, u_k, e_a6, g_a6, rfl⟩; (conv => whnf))
                | (refine ACallS.tmutI (pick_spec code hc _ _ (by omega) 6 (by omega) (by omega)) ?_ rfl (by (repeat' (first | exact trivial | exact rfl | refine And.intro ?_ ?_)) <;> (try first | omega | (simp; done))); rintro v r ⟨t, a7, s7, rfl, l_t, u_t, e_a7, g_a7, rfl⟩; (conv => whnf))
                | (obtain ⟨i, rfl, hi⟩ := nat_of (len := 8) l_k (by omega); refine ACall.useR (l6Sum_spec i hi) ?_; conv => whnf)
                | (refine ACall.useR (l2Times_spec 2 2 2 (equalM i) _ 1 (by decide) (by rw [equal_len]; omega) (fun r hr => by rw [(equal_R4 i r hr).1]; omega)) ?_; conv => whnf)
                | (refine ACall.useR' (l2Mix_g 2 2 z 2 2 _ m (timesL (equalM i) _ 1) (by omega) (fun r hr => (h4 r hr).1) (by rw [timesL_len, equal_len]; omega) (fun r hr => (R4.times (equal_R4 i) _ _ r hr).1)) ?_; rintro v h ⟨z', m', hz', hm', h4', rfl, rfl⟩; conv => whnf)
                | (refine And.intro ?_ ?_ <;> (conv => whnf)))
              all_goals
                refine ACallS.inline tyOk mx Try.func219 rfl (by kernel_rfl) rfl ?_
                conv => whnf
                refine ACallS.tmut 0 (pick_spec code hc a7 s7 (by omega) 50 (by omega) (by omega)) ?_ rfl (by (repeat' (first | exact trivial | exact rfl | refine And.intro ?_ ?_)) <;> (try first | omega | (simp; done))) (by (repeat' (first | exact trivial | exact rfl | refine And.intro ?_ ?_)) <;> (try first | omega | (simp; done)))
                rintro v r ⟨c, a4, s4, rfl, l_c, u_c, e_a4, g_a4, rfl⟩
                conv => whnf
                refine ⟨fun h0 => ?_, fun h0 => ?_⟩
                · conv => whnf
                  refine ACallS.give ?_
                  refine ACallS.tmutL (among_spec code hc a4 s4 (by omega) _ (by kernel_rfl) (-9223372036854775808) 9223372036854775807 (sp_in z')) ?_ rfl (by (repeat' (first | exact trivial | exact rfl | refine And.intro ?_ ?_)) <;> (try first | omega | (simp; done)))
                  rintro v r ⟨q, a5, s5, rfl, lq, uq, e5, g5, rfl⟩
                  conv => whnf
                  refine ⟨rfl, ?_⟩
                  conv => whnf
                  exact .inl ⟨2, 2, q, m', a5, s5, rfl, inr2, inr2, ⟨lq, uq⟩, h4'.sm hm' (by omega), by omega, by omega, rfl⟩
                · conv => whnf
                  refine ⟨fun h1 => ?_, fun h1 => ?_⟩
                  · conv => whnf
                    refine ⟨fun hp => ?_, fun hp => ?_⟩
                    · have hp : 0 < (m').length := by have := of_decide_eq_true hp; omega
                      conv => whnf
                      refine ⟨0, rfl, hp, ?_⟩
                      conv => whnf
                      refine ⟨fun hl => ?_, fun hl => ?_⟩
                      · have hl : ((m').getD 0 []).length = 4 := by have := beq_iff_eq.1 hl; omega
                        have hr4 := h4' _ (getD_mem (d := []) hp)
                        refine ADraw.plan tyOk mx (.q 0 (.q 1 (.q 2 (.q 3 (.q 4 (.q 5 (.q 6 (.q 7 (.q 8 (.q 9 (.q 10 (.q 11 (.q 12 (.q 13 (.q 14 (.q 15 (.q 16 (.q 17 (.q 18 (.q 19 (.q 20 (.q 21 (.q 22 (.q 23 (.q 24 (.q 25 (.q 26 (.q 27 (.last 28 (.q 29 (.last 30 (.done))))))))))))))))))))))))))))))) : Plan) (by kernel_rfl) ?_
                        conv => whnf
                        repeat' (first
                          | (refine ⟨rfl, ?_⟩; (conv => whnf); exact .inl ⟨2, 2, z', List.set m' 0 _, a4, s4, rfl, inr2, inr2, hz', h4'.smSet hm' (by omega) 0 (le4 (set4 (set4 (set4 (set4 rep4 _ (W_inr _)) _ (W_inr _)) _ (getI hr4.2 _)) _ (getI hr4.2 _))), by omega, by omega, rfl⟩; done)
                          | (refine ⟨0, rfl, by omega, ?_⟩; conv => whnf)
                          | (refine ⟨1, rfl, by omega, ?_⟩; conv => whnf)
                          | (refine ⟨2, rfl, by omega, ?_⟩; conv => whnf)
                          | (refine ⟨3, rfl, by omega, ?_⟩; conv => whnf)
                          | (refine And.intro ?_ ?_ <;> (conv => whnf)))
                      · (repeat (conv => whnf); (first | refine ⟨fun h => absurd h (by decide), fun _ => ?_⟩ | refine ⟨fun _ => ?_, fun h => absurd h (by decide)⟩)); conv => whnf
                        refine ⟨rfl, ?_⟩
                        conv => whnf
                        exact .inl ⟨2, 2, z', m', a4, s4, rfl, inr2, inr2, hz', h4'.sm hm' (by omega), by omega, by omega, rfl⟩
                    · (repeat (conv => whnf); (first | refine ⟨fun h => absurd h (by decide), fun _ => ?_⟩ | refine ⟨fun _ => ?_, fun h => absurd h (by decide)⟩)); conv => whnf
                      refine ⟨rfl, ?_⟩
                      conv => whnf
                      exact .inl ⟨2, 2, z', m', a4, s4, rfl, inr2, inr2, hz', h4'.sm hm' (by omega), by omega, by omega, rfl⟩
                  · conv => whnf
                    refine ⟨fun h2 => ?_, fun h2 => ?_⟩
                    · conv => whnf
                      refine ⟨by simp [room]; omega, ?_⟩
                      conv => whnf
                      refine ⟨rfl, ?_⟩
                      conv => whnf
                      exact .inl ⟨2, 2, z', m' ++ [_], a4, s4, rfl, inr2, inr2, hz', h4'.smApp hm' (by omega) (le4 (set4 (set4 (set4 (set4 rep4 _ (by unfold InR; omega)) _ inr0) _ inr0) _ inr0)), by omega, by omega, rfl⟩
                    · conv => whnf
                      refine ⟨fun h3 => ?_, fun h3 => ?_⟩
                      · conv => whnf
                        refine ⟨fun hp => ?_, fun hp => ?_⟩
                        · have hp : 0 < (m').length := by have := of_decide_eq_true hp; omega
                          conv => whnf
                          refine ⟨0, rfl, hp, ?_⟩
                          conv => whnf
                          refine ⟨rfl, ?_⟩
                          conv => whnf
                          exact .inl ⟨2, 2, z', List.set m' 0 _, a4, s4, rfl, inr2, inr2, hz', h4'.smSet hm' (by omega) 0 (sp3 hz'), by omega, by omega, rfl⟩
                        · conv => whnf
                          refine ⟨rfl, ?_⟩
                          conv => whnf
                          exact .inl ⟨2, 2, z', m', a4, s4, rfl, inr2, inr2, hz', h4'.sm hm' (by omega), by omega, by omega, rfl⟩
                      · conv => whnf
                        refine ⟨fun h5 => ?_, fun h5 => ?_⟩
                        · conv => whnf
                          refine ⟨rfl, ?_⟩
                          conv => whnf
                          exact .inr ⟨a4, s4, rfl, by omega, by omega, rfl⟩
                        · conv => whnf
                          refine ⟨rfl, ?_⟩
                          conv => whnf
                          exact .inl ⟨2, 2, z', m', a4, s4, rfl, inr2, inr2, hz', h4'.sm hm' (by omega), by omega, by omega, rfl⟩
            · conv => whnf
              refine ACallS.inline tyOk mx Try.func219 rfl (by kernel_rfl) rfl ?_
              conv => whnf
              refine ACallS.tmut 0 (pick_spec code hc a5 s5 (by omega) 50 (by omega) (by omega)) ?_ rfl (by (repeat' (first | exact trivial | exact rfl | refine And.intro ?_ ?_)) <;> (try first | omega | (simp; done))) (by (repeat' (first | exact trivial | exact rfl | refine And.intro ?_ ?_)) <;> (try first | omega | (simp; done)))
              rintro v r ⟨c, a4, s4, rfl, l_c, u_c, e_a4, g_a4, rfl⟩
              conv => whnf
              refine ⟨fun h0 => ?_, fun h0 => ?_⟩
              · conv => whnf
                refine ACallS.give ?_
                refine ACallS.tmutL (among_spec code hc a4 s4 (by omega) _ (by kernel_rfl) (-9223372036854775808) 9223372036854775807 (sp_in z)) ?_ rfl (by (repeat' (first | exact trivial | exact rfl | refine And.intro ?_ ?_)) <;> (try first | omega | (simp; done)))
                rintro v r ⟨q, a5, s5, rfl, lq, uq, e5, g5, rfl⟩
                conv => whnf
                refine ⟨rfl, ?_⟩
                conv => whnf
                exact .inl ⟨2, 2, q, m, a5, s5, rfl, inr2, inr2, ⟨lq, uq⟩, h4.sm hm (by omega), by omega, by omega, rfl⟩
              · conv => whnf
                refine ⟨fun h1 => ?_, fun h1 => ?_⟩
                · conv => whnf
                  refine ⟨fun hp => ?_, fun hp => ?_⟩
                  · have hp : 0 < (m).length := by have := of_decide_eq_true hp; omega
                    conv => whnf
                    refine ⟨0, rfl, hp, ?_⟩
                    conv => whnf
                    refine ⟨fun hl => ?_, fun hl => ?_⟩
                    · have hl : ((m).getD 0 []).length = 4 := by have := beq_iff_eq.1 hl; omega
                      have hr4 := h4 _ (getD_mem (d := []) hp)
                      refine ADraw.plan tyOk mx (.q 0 (.q 1 (.q 2 (.q 3 (.q 4 (.q 5 (.q 6 (.q 7 (.q 8 (.q 9 (.q 10 (.q 11 (.q 12 (.q 13 (.q 14 (.q 15 (.q 16 (.q 17 (.q 18 (.q 19 (.q 20 (.q 21 (.q 22 (.q 23 (.q 24 (.q 25 (.q 26 (.q 27 (.last 28 (.q 29 (.last 30 (.done))))))))))))))))))))))))))))))) : Plan) (by kernel_rfl) ?_
                      conv => whnf
                      repeat' (first
                        | (refine ⟨rfl, ?_⟩; (conv => whnf); exact .inl ⟨2, 2, z, List.set m 0 _, a4, s4, rfl, inr2, inr2, hz, h4.smSet hm (by omega) 0 (le4 (set4 (set4 (set4 (set4 rep4 _ (W_inr _)) _ (W_inr _)) _ (getI hr4.2 _)) _ (getI hr4.2 _))), by omega, by omega, rfl⟩; done)
                        | (refine ⟨0, rfl, by omega, ?_⟩; conv => whnf)
                        | (refine ⟨1, rfl, by omega, ?_⟩; conv => whnf)
                        | (refine ⟨2, rfl, by omega, ?_⟩; conv => whnf)
                        | (refine ⟨3, rfl, by omega, ?_⟩; conv => whnf)
                        | (refine And.intro ?_ ?_ <;> (conv => whnf)))
                    · (repeat (conv => whnf); (first | refine ⟨fun h => absurd h (by decide), fun _ => ?_⟩ | refine ⟨fun _ => ?_, fun h => absurd h (by decide)⟩)); conv => whnf
                      refine ⟨rfl, ?_⟩
                      conv => whnf
                      exact .inl ⟨2, 2, z, m, a4, s4, rfl, inr2, inr2, hz, h4.sm hm (by omega), by omega, by omega, rfl⟩
                  · (repeat (conv => whnf); (first | refine ⟨fun h => absurd h (by decide), fun _ => ?_⟩ | refine ⟨fun _ => ?_, fun h => absurd h (by decide)⟩)); conv => whnf
                    refine ⟨rfl, ?_⟩
                    conv => whnf
                    exact .inl ⟨2, 2, z, m, a4, s4, rfl, inr2, inr2, hz, h4.sm hm (by omega), by omega, by omega, rfl⟩
                · conv => whnf
                  refine ⟨fun h2 => ?_, fun h2 => ?_⟩
                  · conv => whnf
                    refine ⟨by simp [room]; omega, ?_⟩
                    conv => whnf
                    refine ⟨rfl, ?_⟩
                    conv => whnf
                    exact .inl ⟨2, 2, z, m ++ [_], a4, s4, rfl, inr2, inr2, hz, h4.smApp hm (by omega) (le4 (set4 (set4 (set4 (set4 rep4 _ (by unfold InR; omega)) _ inr0) _ inr0) _ inr0)), by omega, by omega, rfl⟩
                  · conv => whnf
                    refine ⟨fun h3 => ?_, fun h3 => ?_⟩
                    · conv => whnf
                      refine ⟨fun hp => ?_, fun hp => ?_⟩
                      · have hp : 0 < (m).length := by have := of_decide_eq_true hp; omega
                        conv => whnf
                        refine ⟨0, rfl, hp, ?_⟩
                        conv => whnf
                        refine ⟨rfl, ?_⟩
                        conv => whnf
                        exact .inl ⟨2, 2, z, List.set m 0 _, a4, s4, rfl, inr2, inr2, hz, h4.smSet hm (by omega) 0 (sp3 hz), by omega, by omega, rfl⟩
                      · conv => whnf
                        refine ⟨rfl, ?_⟩
                        conv => whnf
                        exact .inl ⟨2, 2, z, m, a4, s4, rfl, inr2, inr2, hz, h4.sm hm (by omega), by omega, by omega, rfl⟩
                    · conv => whnf
                      refine ⟨fun h5 => ?_, fun h5 => ?_⟩
                      · conv => whnf
                        refine ⟨rfl, ?_⟩
                        conv => whnf
                        exact .inr ⟨a4, s4, rfl, by omega, by omega, rfl⟩
                      · conv => whnf
                        refine ⟨rfl, ?_⟩
                        conv => whnf
                        exact .inl ⟨2, 2, z, m, a4, s4, rfl, inr2, inr2, hz, h4.sm hm (by omega), by omega, by omega, rfl⟩
        · conv => whnf
          refine ⟨fun c4 => ?_, fun c4 => ?_⟩
          · (repeat (conv => whnf); (first | refine ⟨fun h => absurd h (by decide), fun _ => ?_⟩ | refine ⟨fun _ => ?_, fun h => absurd h (by decide)⟩)); conv => whnf
            refine ACallS.tmut 0 (pick_spec code hc a1 s1 (by omega) 8 (by omega) (by omega)) ?_ rfl (by (repeat' (first | exact trivial | exact rfl | refine And.intro ?_ ?_)) <;> (try first | omega | (simp; done))) (by (repeat' (first | exact trivial | exact rfl | refine And.intro ?_ ?_)) <;> (try first | omega | (simp; done)))
            rintro v r ⟨k, b1, t1, rfl, l_k, u_k, e_b1, g_b1, rfl⟩
            conv => whnf
            refine ACallS.tmut 0 (pick_spec code hc b1 t1 (by omega) 6 (by omega) (by omega)) ?_ rfl (by (repeat' (first | exact trivial | exact rfl | refine And.intro ?_ ?_)) <;> (try first | omega | (simp; done))) (by (repeat' (first | exact trivial | exact rfl | refine And.intro ?_ ?_)) <;> (try first | omega | (simp; done)))
            rintro v r ⟨sh, b2, t2, rfl, l_sh, u_sh, e_b2, g_b2, rfl⟩
            conv => whnf
            refine ACallS.tmut 0 (pick_spec code hc b2 t2 (by omega) 3 (by omega) (by omega)) ?_ rfl (by (repeat' (first | exact trivial | exact rfl | refine And.intro ?_ ?_)) <;> (try first | omega | (simp; done))) (by (repeat' (first | exact trivial | exact rfl | refine And.intro ?_ ?_)) <;> (try first | omega | (simp; done)))
            rintro v r ⟨no, b3, t3, rfl, l_no, u_no, e_b3, g_b3, rfl⟩
            conv => whnf
            refine ACall.use (NoisySum_s k (by unfold InR; omega) sh (by unfold InR; omega) no (by unfold InR; omega)) ?_
            conv => whnf
            refine ⟨fun hns => ?_, fun hns => ?_⟩
            · conv => whnf
              rw [if_pos hns, if_pos hns, nsR, if_pos hns]
              exact .inl ⟨2, 2, nsW sh no, nsM k sh no, b3, t3, rfl, inr2, inr2, W_inr _, (ns_R4 k sh no).sm (boxRows_len _ 2 2) (by omega), by omega, by omega, rfl⟩
            · conv => whnf
              refine ACallS.omut 0 (quietOf_spec code hc b3 t3 (by omega) 2 2) ?_ rfl (by (repeat' (first | exact trivial | exact rfl | refine And.intro ?_ ?_)) <;> (try first | omega | (simp; done))) (by (repeat' (first | exact trivial | exact rfl | refine And.intro ?_ ?_)) <;> (try first | omega | (simp; done)))
              rintro v h r ⟨z, m, a3, s3, hz, hm, h4, rfl, rfl, e3, g3, rfl⟩
              have hm : m.length = 4 := hm
              conv => whnf
              refine ACallS.tmut 0 (one_spec code hc a3 s3 (by omega) 3 (by omega) (by omega)) ?_ rfl (by (repeat' (first | exact trivial | exact rfl | refine And.intro ?_ ?_)) <;> (try first | omega | (simp; done))) (by (repeat' (first | exact trivial | exact rfl | refine And.intro ?_ ?_)) <;> (try first | omega | (simp; done)))
              rintro v r ⟨b1, a5, s5, rfl, e_a5, g_a5, rfl⟩
              conv => whnf
              refine ⟨fun hb1 => ?_, fun hb1 => ?_⟩
              · conv => whnf
                refine ADraw.planX [2, 5] tyOk mx (.q 1 (.q 4 (.alt 0 (.inl 2 (.last 3 (.inl 5 (.last 6 (.last 7 (.last 8 (.last 9 (.done)))))))) (.inl 2 (.alt 0 (.last 3 (.inl 5 (.last 6 (.last 7 (.last 8 (.last 9 (.done))))))) (.last 3 (.alt 0 (.inl 5 (.last 6 (.last 7 (.last 8 (.last 9 (.done)))))) (.inl 5 (.alt 0 (.last 6 (.last 7 (.last 8 (.last 9 (.done))))) (.last 6 (.alt 0 (.last 7 (.last 8 (.last 9 (.done)))) (.last 7 (.last 0 (.last 8 (.last 9 (.done))))))))))))))) : Plan) (by kernel_rfl) ?_
                conv => whnf
                repeat' (first
                  | (refine ACallS.tmutI (pick_spec code hc _ _ (by omega) 8 (by omega) (by omega)) ?_ rfl (by (repeat' (first | exact trivial | exact rfl | refine And.intro ?_ ?_)) <;> (try first | omega | (simp; done))); rintro v r ⟨k, a6, s6, rfl, l_k, u_k, e_a6, g_a6, rfl⟩; (conv => whnf))
                  | (refine ACallS.tmutI (pick_spec code hc _ _ (by omega) 6 (by omega) (by omega)) ?_ rfl (by (repeat' (first | exact trivial | exact rfl | refine And.intro ?_ ?_)) <;> (try first | omega | (simp; done))); rintro v r ⟨t, a7, s7, rfl, l_t, u_t, e_a7, g_a7, rfl⟩; (conv => whnf))
                  | (obtain ⟨i, rfl, hi⟩ := nat_of (len := 8) l_k (by omega); refine ACall.useR (l6Sum_spec i hi) ?_; conv => whnf)
                  | (refine ACall.useR (l2Times_spec 2 2 2 (equalM i) _ 1 (by decide) (by rw [equal_len]; omega) (fun r hr => by rw [(equal_R4 i r hr).1]; omega)) ?_; conv => whnf)
                  | (refine ACall.useR' (l2Mix_g 2 2 z 2 2 _ m (timesL (equalM i) _ 1) (by omega) (fun r hr => (h4 r hr).1) (by rw [timesL_len, equal_len]; omega) (fun r hr => (R4.times (equal_R4 i) _ _ r hr).1)) ?_; rintro v h ⟨z', m', hz', hm', h4', rfl, rfl⟩; conv => whnf)
                  | (refine And.intro ?_ ?_ <;> (conv => whnf)))
                all_goals
                  refine ACallS.inline tyOk mx Try.func219 rfl (by kernel_rfl) rfl ?_
                  conv => whnf
                  refine ACallS.tmut 0 (pick_spec code hc a7 s7 (by omega) 50 (by omega) (by omega)) ?_ rfl (by (repeat' (first | exact trivial | exact rfl | refine And.intro ?_ ?_)) <;> (try first | omega | (simp; done))) (by (repeat' (first | exact trivial | exact rfl | refine And.intro ?_ ?_)) <;> (try first | omega | (simp; done)))
                  rintro v r ⟨c, a4, s4, rfl, l_c, u_c, e_a4, g_a4, rfl⟩
                  conv => whnf
                  refine ⟨fun h0 => ?_, fun h0 => ?_⟩
                  · conv => whnf
                    refine ACallS.give ?_
                    refine ACallS.tmutL (among_spec code hc a4 s4 (by omega) _ (by kernel_rfl) (-9223372036854775808) 9223372036854775807 (sp_in z')) ?_ rfl (by (repeat' (first | exact trivial | exact rfl | refine And.intro ?_ ?_)) <;> (try first | omega | (simp; done)))
                    rintro v r ⟨q, a5, s5, rfl, lq, uq, e5, g5, rfl⟩
                    conv => whnf
                    refine ⟨rfl, ?_⟩
                    conv => whnf
                    exact .inl ⟨2, 2, q, m', a5, s5, rfl, inr2, inr2, ⟨lq, uq⟩, h4'.sm hm' (by omega), by omega, by omega, rfl⟩
                  · conv => whnf
                    refine ⟨fun h1 => ?_, fun h1 => ?_⟩
                    · conv => whnf
                      refine ⟨fun hp => ?_, fun hp => ?_⟩
                      · have hp : 0 < (m').length := by have := of_decide_eq_true hp; omega
                        conv => whnf
                        refine ⟨0, rfl, hp, ?_⟩
                        conv => whnf
                        refine ⟨fun hl => ?_, fun hl => ?_⟩
                        · have hl : ((m').getD 0 []).length = 4 := by have := beq_iff_eq.1 hl; omega
                          have hr4 := h4' _ (getD_mem (d := []) hp)
                          refine ADraw.plan tyOk mx (.q 0 (.q 1 (.q 2 (.q 3 (.q 4 (.q 5 (.q 6 (.q 7 (.q 8 (.q 9 (.q 10 (.q 11 (.q 12 (.q 13 (.q 14 (.q 15 (.q 16 (.q 17 (.q 18 (.q 19 (.q 20 (.q 21 (.q 22 (.q 23 (.q 24 (.q 25 (.q 26 (.q 27 (.last 28 (.q 29 (.last 30 (.done))))))))))))))))))))))))))))))) : Plan) (by kernel_rfl) ?_
                          conv => whnf
                          repeat' (first
                            | (refine ⟨rfl, ?_⟩; (conv => whnf); exact .inl ⟨2, 2, z', List.set m' 0 _, a4, s4, rfl, inr2, inr2, hz', h4'.smSet hm' (by omega) 0 (le4 (set4 (set4 (set4 (set4 rep4 _ (W_inr _)) _ (W_inr _)) _ (getI hr4.2 _)) _ (getI hr4.2 _))), by omega, by omega, rfl⟩; done)
                            | (refine ⟨0, rfl, by omega, ?_⟩; conv => whnf)
                            | (refine ⟨1, rfl, by omega, ?_⟩; conv => whnf)
                            | (refine ⟨2, rfl, by omega, ?_⟩; conv => whnf)
                            | (refine ⟨3, rfl, by omega, ?_⟩; conv => whnf)
                            | (refine And.intro ?_ ?_ <;> (conv => whnf)))
                        · (repeat (conv => whnf); (first | refine ⟨fun h => absurd h (by decide), fun _ => ?_⟩ | refine ⟨fun _ => ?_, fun h => absurd h (by decide)⟩)); conv => whnf
                          refine ⟨rfl, ?_⟩
                          conv => whnf
                          exact .inl ⟨2, 2, z', m', a4, s4, rfl, inr2, inr2, hz', h4'.sm hm' (by omega), by omega, by omega, rfl⟩
                      · (repeat (conv => whnf); (first | refine ⟨fun h => absurd h (by decide), fun _ => ?_⟩ | refine ⟨fun _ => ?_, fun h => absurd h (by decide)⟩)); conv => whnf
                        refine ⟨rfl, ?_⟩
                        conv => whnf
                        exact .inl ⟨2, 2, z', m', a4, s4, rfl, inr2, inr2, hz', h4'.sm hm' (by omega), by omega, by omega, rfl⟩
                    · conv => whnf
                      refine ⟨fun h2 => ?_, fun h2 => ?_⟩
                      · conv => whnf
                        refine ⟨by simp [room]; omega, ?_⟩
                        conv => whnf
                        refine ⟨rfl, ?_⟩
                        conv => whnf
                        exact .inl ⟨2, 2, z', m' ++ [_], a4, s4, rfl, inr2, inr2, hz', h4'.smApp hm' (by omega) (le4 (set4 (set4 (set4 (set4 rep4 _ (by unfold InR; omega)) _ inr0) _ inr0) _ inr0)), by omega, by omega, rfl⟩
                      · conv => whnf
                        refine ⟨fun h3 => ?_, fun h3 => ?_⟩
                        · conv => whnf
                          refine ⟨fun hp => ?_, fun hp => ?_⟩
                          · have hp : 0 < (m').length := by have := of_decide_eq_true hp; omega
                            conv => whnf
                            refine ⟨0, rfl, hp, ?_⟩
                            conv => whnf
                            refine ⟨rfl, ?_⟩
                            conv => whnf
                            exact .inl ⟨2, 2, z', List.set m' 0 _, a4, s4, rfl, inr2, inr2, hz', h4'.smSet hm' (by omega) 0 (sp3 hz'), by omega, by omega, rfl⟩
                          · conv => whnf
                            refine ⟨rfl, ?_⟩
                            conv => whnf
                            exact .inl ⟨2, 2, z', m', a4, s4, rfl, inr2, inr2, hz', h4'.sm hm' (by omega), by omega, by omega, rfl⟩
                        · conv => whnf
                          refine ⟨fun h5 => ?_, fun h5 => ?_⟩
                          · conv => whnf
                            refine ⟨rfl, ?_⟩
                            conv => whnf
                            exact .inr ⟨a4, s4, rfl, by omega, by omega, rfl⟩
                          · conv => whnf
                            refine ⟨rfl, ?_⟩
                            conv => whnf
                            exact .inl ⟨2, 2, z', m', a4, s4, rfl, inr2, inr2, hz', h4'.sm hm' (by omega), by omega, by omega, rfl⟩
              · conv => whnf
                refine ACallS.inline tyOk mx Try.func219 rfl (by kernel_rfl) rfl ?_
                conv => whnf
                refine ACallS.tmut 0 (pick_spec code hc a5 s5 (by omega) 50 (by omega) (by omega)) ?_ rfl (by (repeat' (first | exact trivial | exact rfl | refine And.intro ?_ ?_)) <;> (try first | omega | (simp; done))) (by (repeat' (first | exact trivial | exact rfl | refine And.intro ?_ ?_)) <;> (try first | omega | (simp; done)))
                rintro v r ⟨c, a4, s4, rfl, l_c, u_c, e_a4, g_a4, rfl⟩
                conv => whnf
                refine ⟨fun h0 => ?_, fun h0 => ?_⟩
                · conv => whnf
                  refine ACallS.give ?_
                  refine ACallS.tmutL (among_spec code hc a4 s4 (by omega) _ (by kernel_rfl) (-9223372036854775808) 9223372036854775807 (sp_in z)) ?_ rfl (by (repeat' (first | exact trivial | exact rfl | refine And.intro ?_ ?_)) <;> (try first | omega | (simp; done)))
                  rintro v r ⟨q, a5, s5, rfl, lq, uq, e5, g5, rfl⟩
                  conv => whnf
                  refine ⟨rfl, ?_⟩
                  conv => whnf
                  exact .inl ⟨2, 2, q, m, a5, s5, rfl, inr2, inr2, ⟨lq, uq⟩, h4.sm hm (by omega), by omega, by omega, rfl⟩
                · conv => whnf
                  refine ⟨fun h1 => ?_, fun h1 => ?_⟩
                  · conv => whnf
                    refine ⟨fun hp => ?_, fun hp => ?_⟩
                    · have hp : 0 < (m).length := by have := of_decide_eq_true hp; omega
                      conv => whnf
                      refine ⟨0, rfl, hp, ?_⟩
                      conv => whnf
                      refine ⟨fun hl => ?_, fun hl => ?_⟩
                      · have hl : ((m).getD 0 []).length = 4 := by have := beq_iff_eq.1 hl; omega
                        have hr4 := h4 _ (getD_mem (d := []) hp)
                        refine ADraw.plan tyOk mx (.q 0 (.q 1 (.q 2 (.q 3 (.q 4 (.q 5 (.q 6 (.q 7 (.q 8 (.q 9 (.q 10 (.q 11 (.q 12 (.q 13 (.q 14 (.q 15 (.q 16 (.q 17 (.q 18 (.q 19 (.q 20 (.q 21 (.q 22 (.q 23 (.q 24 (.q 25 (.q 26 (.q 27 (.last 28 (.q 29 (.last 30 (.done))))))))))))))))))))))))))))))) : Plan) (by kernel_rfl) ?_
                        conv => whnf
                        repeat' (first
                          | (refine ⟨rfl, ?_⟩; (conv => whnf); exact .inl ⟨2, 2, z, List.set m 0 _, a4, s4, rfl, inr2, inr2, hz, h4.smSet hm (by omega) 0 (le4 (set4 (set4 (set4 (set4 rep4 _ (W_inr _)) _ (W_inr _)) _ (getI hr4.2 _)) _ (getI hr4.2 _))), by omega, by omega, rfl⟩; done)
                          | (refine ⟨0, rfl, by omega, ?_⟩; conv => whnf)
                          | (refine ⟨1, rfl, by omega, ?_⟩; conv => whnf)
                          | (refine ⟨2, rfl, by omega, ?_⟩; conv => whnf)
                          | (refine ⟨3, rfl, by omega, ?_⟩; conv => whnf)
                          | (refine And.intro ?_ ?_ <;> (conv => whnf)))
                      · (repeat (conv => whnf); (first | refine ⟨fun h => absurd h (by decide), fun _ => ?_⟩ | refine ⟨fun _ => ?_, fun h => absurd h (by decide)⟩)); conv => whnf
                        refine ⟨rfl, ?_⟩
                        conv => whnf
                        exact .inl ⟨2, 2, z, m, a4, s4, rfl, inr2, inr2, hz, h4.sm hm (by omega), by omega, by omega, rfl⟩
                    · (repeat (conv => whnf); (first | refine ⟨fun h => absurd h (by decide), fun _ => ?_⟩ | refine ⟨fun _ => ?_, fun h => absurd h (by decide)⟩)); conv => whnf
                      refine ⟨rfl, ?_⟩
                      conv => whnf
                      exact .inl ⟨2, 2, z, m, a4, s4, rfl, inr2, inr2, hz, h4.sm hm (by omega), by omega, by omega, rfl⟩
                  · conv => whnf
                    refine ⟨fun h2 => ?_, fun h2 => ?_⟩
                    · conv => whnf
                      refine ⟨by simp [room]; omega, ?_⟩
                      conv => whnf
                      refine ⟨rfl, ?_⟩
                      conv => whnf
                      exact .inl ⟨2, 2, z, m ++ [_], a4, s4, rfl, inr2, inr2, hz, h4.smApp hm (by omega) (le4 (set4 (set4 (set4 (set4 rep4 _ (by unfold InR; omega)) _ inr0) _ inr0) _ inr0)), by omega, by omega, rfl⟩
                    · conv => whnf
                      refine ⟨fun h3 => ?_, fun h3 => ?_⟩
                      · conv => whnf
                        refine ⟨fun hp => ?_, fun hp => ?_⟩
                        · have hp : 0 < (m).length := by have := of_decide_eq_true hp; omega
                          conv => whnf
                          refine ⟨0, rfl, hp, ?_⟩
                          conv => whnf
                          refine ⟨rfl, ?_⟩
                          conv => whnf
                          exact .inl ⟨2, 2, z, List.set m 0 _, a4, s4, rfl, inr2, inr2, hz, h4.smSet hm (by omega) 0 (sp3 hz), by omega, by omega, rfl⟩
                        · conv => whnf
                          refine ⟨rfl, ?_⟩
                          conv => whnf
                          exact .inl ⟨2, 2, z, m, a4, s4, rfl, inr2, inr2, hz, h4.sm hm (by omega), by omega, by omega, rfl⟩
                      · conv => whnf
                        refine ⟨fun h5 => ?_, fun h5 => ?_⟩
                        · conv => whnf
                          refine ⟨rfl, ?_⟩
                          conv => whnf
                          exact .inr ⟨a4, s4, rfl, by omega, by omega, rfl⟩
                        · conv => whnf
                          refine ⟨rfl, ?_⟩
                          conv => whnf
                          exact .inl ⟨2, 2, z, m, a4, s4, rfl, inr2, inr2, hz, h4.sm hm (by omega), by omega, by omega, rfl⟩
          · (repeat (conv => whnf); (first | refine ⟨fun h => absurd h (by decide), fun _ => ?_⟩ | refine ⟨fun _ => ?_, fun h => absurd h (by decide)⟩)); conv => whnf
            refine ACallS.omut 0 (quietOf_spec code hc a1 s1 (by omega) 2 2) ?_ rfl (by (repeat' (first | exact trivial | exact rfl | refine And.intro ?_ ?_)) <;> (try first | omega | (simp; done))) (by (repeat' (first | exact trivial | exact rfl | refine And.intro ?_ ?_)) <;> (try first | omega | (simp; done)))
            rintro v h r ⟨z, m, a3, s3, hz, hm, h4, rfl, rfl, e3, g3, rfl⟩
            have hm : m.length = 4 := hm
            conv => whnf
            refine ACallS.tmut 0 (one_spec code hc a3 s3 (by omega) 3 (by omega) (by omega)) ?_ rfl (by (repeat' (first | exact trivial | exact rfl | refine And.intro ?_ ?_)) <;> (try first | omega | (simp; done))) (by (repeat' (first | exact trivial | exact rfl | refine And.intro ?_ ?_)) <;> (try first | omega | (simp; done)))
            rintro v r ⟨b1, a5, s5, rfl, e_a5, g_a5, rfl⟩
            conv => whnf
            refine ⟨fun hb1 => ?_, fun hb1 => ?_⟩
            · conv => whnf
              refine ADraw.planX [2, 5] tyOk mx (.q 1 (.q 4 (.alt 0 (.inl 2 (.last 3 (.inl 5 (.last 6 (.last 7 (.last 8 (.last 9 (.done)))))))) (.inl 2 (.alt 0 (.last 3 (.inl 5 (.last 6 (.last 7 (.last 8 (.last 9 (.done))))))) (.last 3 (.alt 0 (.inl 5 (.last 6 (.last 7 (.last 8 (.last 9 (.done)))))) (.inl 5 (.alt 0 (.last 6 (.last 7 (.last 8 (.last 9 (.done))))) (.last 6 (.alt 0 (.last 7 (.last 8 (.last 9 (.done)))) (.last 7 (.last 0 (.last 8 (.last 9 (.done))))))))))))))) : Plan) (by kernel_rfl) ?_
              conv => whnf
              repeat' (first
                | (refine ACallS.tmutI (pick_spec code hc _ _ (by omega) 8 (by omega) (by omega)) ?_ rfl (by (repeat' (first | exact trivial | exact rfl | refine And.intro ?_ ?_)) <;> (try first | omega | (simp; done))); rintro v r ⟨k, a6, s6, rfl, l_k, u_k, e_a6, g_a6, rfl⟩; (conv => whnf))
                | (refine ACallS.tmutI (pick_spec code hc _ _ (by omega) 6 (by omega) (by omega)) ?_ rfl (by (repeat' (first | exact trivial | exact rfl | refine And.intro ?_ ?_)) <;> (try first | omega | (simp; done))); rintro v r ⟨t, a7, s7, rfl, l_t, u_t, e_a7, g_a7, rfl⟩; (conv => whnf))
                | (obtain ⟨i, rfl, hi⟩ := nat_of (len := 8) l_k (by omega); refine ACall.useR (l6Sum_spec i hi) ?_; conv => whnf)
                | (refine ACall.useR (l2Times_spec 2 2 2 (equalM i) _ 1 (by decide) (by rw [equal_len]; omega) (fun r hr => by rw [(equal_R4 i r hr).1]; omega)) ?_; conv => whnf)
                | (refine ACall.useR' (l2Mix_g 2 2 z 2 2 _ m (timesL (equalM i) _ 1) (by omega) (fun r hr => (h4 r hr).1) (by rw [timesL_len, equal_len]; omega) (fun r hr => (R4.times (equal_R4 i) _ _ r hr).1)) ?_; rintro v h ⟨z', m', hz', hm', h4', rfl, rfl⟩; conv => whnf)
                | (refine And.intro ?_ ?_ <;> (conv => whnf)))
              all_goals
                refine ACallS.inline tyOk mx Try.func219 rfl (by kernel_rfl) rfl ?_
                conv => whnf
                refine ACallS.tmut 0 (pick_spec code hc a7 s7 (by omega) 50 (by omega) (by omega)) ?_ rfl (by (repeat' (first | exact trivial | exact rfl | refine And.intro ?_ ?_)) <;> (try first | omega | (simp; done))) (by (repeat' (first | exact trivial | exact rfl | refine And.intro ?_ ?_)) <;> (try first | omega | (simp; done)))
                rintro v r ⟨c, a4, s4, rfl, l_c, u_c, e_a4, g_a4, rfl⟩
                conv => whnf
                refine ⟨fun h0 => ?_, fun h0 => ?_⟩
                · conv => whnf
                  refine ACallS.give ?_
                  refine ACallS.tmutL (among_spec code hc a4 s4 (by omega) _ (by kernel_rfl) (-9223372036854775808) 9223372036854775807 (sp_in z')) ?_ rfl (by (repeat' (first | exact trivial | exact rfl | refine And.intro ?_ ?_)) <;> (try first | omega | (simp; done)))
                  rintro v r ⟨q, a5, s5, rfl, lq, uq, e5, g5, rfl⟩
                  conv => whnf
                  refine ⟨rfl, ?_⟩
                  conv => whnf
                  exact .inl ⟨2, 2, q, m', a5, s5, rfl, inr2, inr2, ⟨lq, uq⟩, h4'.sm hm' (by omega), by omega, by omega, rfl⟩
                · conv => whnf
                  refine ⟨fun h1 => ?_, fun h1 => ?_⟩
                  · conv => whnf
                    refine ⟨fun hp => ?_, fun hp => ?_⟩
                    · have hp : 0 < (m').length := by have := of_decide_eq_true hp; omega
                      conv => whnf
                      refine ⟨0, rfl, hp, ?_⟩
                      conv => whnf
                      refine ⟨fun hl => ?_, fun hl => ?_⟩
                      · have hl : ((m').getD 0 []).length = 4 := by have := beq_iff_eq.1 hl; omega
                        have hr4 := h4' _ (getD_mem (d := []) hp)
                        refine ADraw.plan tyOk mx (.q 0 (.q 1 (.q 2 (.q 3 (.q 4 (.q 5 (.q 6 (.q 7 (.q 8 (.q 9 (.q 10 (.q 11 (.q 12 (.q 13 (.q 14 (.q 15 (.q 16 (.q 17 (.q 18 (.q 19 (.q 20 (.q 21 (.q 22 (.q 23 (.q 24 (.q 25 (.q 26 (.q 27 (.last 28 (.q 29 (.last 30 (.done))))))))))))))))))))))))))))))) : Plan) (by kernel_rfl) ?_
                        conv => whnf
                        repeat' (first
                          | (refine ⟨rfl, ?_⟩; (conv => whnf); exact .inl ⟨2, 2, z', List.set m' 0 _, a4, s4, rfl, inr2, inr2, hz', h4'.smSet hm' (by omega) 0 (le4 (set4 (set4 (set4 (set4 rep4 _ (W_inr _)) _ (W_inr _)) _ (getI hr4.2 _)) _ (getI hr4.2 _))), by omega, by omega, rfl⟩; done)
                          | (refine ⟨0, rfl, by omega, ?_⟩; conv => whnf)
                          | (refine ⟨1, rfl, by omega, ?_⟩; conv => whnf)
                          | (refine ⟨2, rfl, by omega, ?_⟩; conv => whnf)
                          | (refine ⟨3, rfl, by omega, ?_⟩; conv => whnf)
                          | (refine And.intro ?_ ?_ <;> (conv => whnf)))
                      · (repeat (conv => whnf); (first | refine ⟨fun h => absurd h (by decide), fun _ => ?_⟩ | refine ⟨fun _ => ?_, fun h => absurd h (by decide)⟩)); conv => whnf
                        refine ⟨rfl, ?_⟩
                        conv => whnf
                        exact .inl ⟨2, 2, z', m', a4, s4, rfl, inr2, inr2, hz', h4'.sm hm' (by omega), by omega, by omega, rfl⟩
                    · (repeat (conv => whnf); (first | refine ⟨fun h => absurd h (by decide), fun _ => ?_⟩ | refine ⟨fun _ => ?_, fun h => absurd h (by decide)⟩)); conv => whnf
                      refine ⟨rfl, ?_⟩
                      conv => whnf
                      exact .inl ⟨2, 2, z', m', a4, s4, rfl, inr2, inr2, hz', h4'.sm hm' (by omega), by omega, by omega, rfl⟩
                  · conv => whnf
                    refine ⟨fun h2 => ?_, fun h2 => ?_⟩
                    · conv => whnf
                      refine ⟨by simp [room]; omega, ?_⟩
                      conv => whnf
                      refine ⟨rfl, ?_⟩
                      conv => whnf
                      exact .inl ⟨2, 2, z', m' ++ [_], a4, s4, rfl, inr2, inr2, hz', h4'.smApp hm' (by omega) (le4 (set4 (set4 (set4 (set4 rep4 _ (by unfold InR; omega)) _ inr0) _ inr0) _ inr0)), by omega, by omega, rfl⟩
                    · conv => whnf
                      refine ⟨fun h3 => ?_, fun h3 => ?_⟩
                      · conv => whnf
                        refine ⟨fun hp => ?_, fun hp => ?_⟩
                        · have hp : 0 < (m').length := by have := of_decide_eq_true hp; omega
                          conv => whnf
                          refine ⟨0, rfl, hp, ?_⟩
                          conv => whnf
                          refine ⟨rfl, ?_⟩
                          conv => whnf
                          exact .inl ⟨2, 2, z', List.set m' 0 _, a4, s4, rfl, inr2, inr2, hz', h4'.smSet hm' (by omega) 0 (sp3 hz'), by omega, by omega, rfl⟩
                        · conv => whnf
                          refine ⟨rfl, ?_⟩
                          conv => whnf
                          exact .inl ⟨2, 2, z', m', a4, s4, rfl, inr2, inr2, hz', h4'.sm hm' (by omega), by omega, by omega, rfl⟩
                      · conv => whnf
                        refine ⟨fun h5 => ?_, fun h5 => ?_⟩
                        · conv => whnf
                          refine ⟨rfl, ?_⟩
                          conv => whnf
                          exact .inr ⟨a4, s4, rfl, by omega, by omega, rfl⟩
                        · conv => whnf
                          refine ⟨rfl, ?_⟩
                          conv => whnf
                          exact .inl ⟨2, 2, z', m', a4, s4, rfl, inr2, inr2, hz', h4'.sm hm' (by omega), by omega, by omega, rfl⟩
            · conv => whnf
              refine ACallS.inline tyOk mx Try.func219 rfl (by kernel_rfl) rfl ?_
              conv => whnf
              refine ACallS.tmut 0 (pick_spec code hc a5 s5 (by omega) 50 (by omega) (by omega)) ?_ rfl (by (repeat' (first | exact trivial | exact rfl | refine And.intro ?_ ?_)) <;> (try first | omega | (simp; done))) (by (repeat' (first | exact trivial | exact rfl | refine And.intro ?_ ?_)) <;> (try first | omega | (simp; done)))
              rintro v r ⟨c, a4, s4, rfl, l_c, u_c, e_a4, g_a4, rfl⟩
              conv => whnf
              refine ⟨fun h0 => ?_, fun h0 => ?_⟩
              · conv => whnf
                refine ACallS.give ?_
                refine ACallS.tmutL (among_spec code hc a4 s4 (by omega) _ (by kernel_rfl) (-9223372036854775808) 9223372036854775807 (sp_in z)) ?_ rfl (by (repeat' (first | exact trivial | exact rfl | refine And.intro ?_ ?_)) <;> (try first | omega | (simp; done)))
                rintro v r ⟨q, a5, s5, rfl, lq, uq, e5, g5, rfl⟩
                conv => whnf
                refine ⟨rfl, ?_⟩
                conv => whnf
                exact .inl ⟨2, 2, q, m, a5, s5, rfl, inr2, inr2, ⟨lq, uq⟩, h4.sm hm (by omega), by omega, by omega, rfl⟩
              · conv => whnf
                refine ⟨fun h1 => ?_, fun h1 => ?_⟩
                · conv => whnf
                  refine ⟨fun hp => ?_, fun hp => ?_⟩
                  · have hp : 0 < (m).length := by have := of_decide_eq_true hp; omega
                    conv => whnf
                    refine ⟨0, rfl, hp, ?_⟩
                    conv => whnf
                    refine ⟨fun hl => ?_, fun hl => ?_⟩
                    · have hl : ((m).getD 0 []).length = 4 := by have := beq_iff_eq.1 hl; omega
                      have hr4 := h4 _ (getD_mem (d := []) hp)
                      refine ADraw.plan tyOk mx (.q 0 (.q 1 (.q 2 (.q 3 (.q 4 (.q 5 (.q 6 (.q 7 (.q 8 (.q 9 (.q 10 (.q 11 (.q 12 (.q 13 (.q 14 (.q 15 (.q 16 (.q 17 (.q 18 (.q 19 (.q 20 (.q 21 (.q 22 (.q 23 (.q 24 (.q 25 (.q 26 (.q 27 (.last 28 (.q 29 (.last 30 (.done))))))))))))))))))))))))))))))) : Plan) (by kernel_rfl) ?_
                      conv => whnf
                      repeat' (first
                        | (refine ⟨rfl, ?_⟩; (conv => whnf); exact .inl ⟨2, 2, z, List.set m 0 _, a4, s4, rfl, inr2, inr2, hz, h4.smSet hm (by omega) 0 (le4 (set4 (set4 (set4 (set4 rep4 _ (W_inr _)) _ (W_inr _)) _ (getI hr4.2 _)) _ (getI hr4.2 _))), by omega, by omega, rfl⟩; done)
                        | (refine ⟨0, rfl, by omega, ?_⟩; conv => whnf)
                        | (refine ⟨1, rfl, by omega, ?_⟩; conv => whnf)
                        | (refine ⟨2, rfl, by omega, ?_⟩; conv => whnf)
                        | (refine ⟨3, rfl, by omega, ?_⟩; conv => whnf)
                        | (refine And.intro ?_ ?_ <;> (conv => whnf)))
                    · (repeat (conv => whnf); (first | refine ⟨fun h => absurd h (by decide), fun _ => ?_⟩ | refine ⟨fun _ => ?_, fun h => absurd h (by decide)⟩)); conv => whnf
                      refine ⟨rfl, ?_⟩
                      conv => whnf
                      exact .inl ⟨2, 2, z, m, a4, s4, rfl, inr2, inr2, hz, h4.sm hm (by omega), by omega, by omega, rfl⟩
                  · (repeat (conv => whnf); (first | refine ⟨fun h => absurd h (by decide), fun _ => ?_⟩ | refine ⟨fun _ => ?_, fun h => absurd h (by decide)⟩)); conv => whnf
                    refine ⟨rfl, ?_⟩
                    conv => whnf
                    exact .inl ⟨2, 2, z, m, a4, s4, rfl, inr2, inr2, hz, h4.sm hm (by omega), by omega, by omega, rfl⟩
                · conv => whnf
                  refine ⟨fun h2 => ?_, fun h2 => ?_⟩
                  · conv => whnf
                    refine ⟨by simp [room]; omega, ?_⟩
                    conv => whnf
                    refine ⟨rfl, ?_⟩
                    conv => whnf
                    exact .inl ⟨2, 2, z, m ++ [_], a4, s4, rfl, inr2, inr2, hz, h4.smApp hm (by omega) (le4 (set4 (set4 (set4 (set4 rep4 _ (by unfold InR; omega)) _ inr0) _ inr0) _ inr0)), by omega, by omega, rfl⟩
                  · conv => whnf
                    refine ⟨fun h3 => ?_, fun h3 => ?_⟩
                    · conv => whnf
                      refine ⟨fun hp => ?_, fun hp => ?_⟩
                      · have hp : 0 < (m).length := by have := of_decide_eq_true hp; omega
                        conv => whnf
                        refine ⟨0, rfl, hp, ?_⟩
                        conv => whnf
                        refine ⟨rfl, ?_⟩
                        conv => whnf
                        exact .inl ⟨2, 2, z, List.set m 0 _, a4, s4, rfl, inr2, inr2, hz, h4.smSet hm (by omega) 0 (sp3 hz), by omega, by omega, rfl⟩
                      · conv => whnf
                        refine ⟨rfl, ?_⟩
                        conv => whnf
                        exact .inl ⟨2, 2, z, m, a4, s4, rfl, inr2, inr2, hz, h4.sm hm (by omega), by omega, by omega, rfl⟩
                    · conv => whnf
                      refine ⟨fun h5 => ?_, fun h5 => ?_⟩
                      · conv => whnf
                        refine ⟨rfl, ?_⟩
                        conv => whnf
                        exact .inr ⟨a4, s4, rfl, by omega, by omega, rfl⟩
                      · conv => whnf
                        refine ⟨rfl, ?_⟩
                        conv => whnf
                        exact .inl ⟨2, 2, z, m, a4, s4, rfl, inr2, inr2, hz, h4.sm hm (by omega), by omega, by omega, rfl⟩
end Go.Proofs.Ytkomndcehdneaaa
