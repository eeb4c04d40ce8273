/- Draws of quiet boxes. -/
import Derived.Test.YtkjdplglenjijaaGreatM6
import Derived.Test.YtkjdplglenjijaaGreatM3
namespace Go.Proofs.YtkjdplglenjijaaGreat
open Go.Aw
set_option maxRecDepth 100000
set_option maxHeartbeats 4000000

theorem near_nat {n : Nat} (h : n ≤ 3) : near (n : Int) = n := by unfold near; omega
theorem quietOf_spec (code : List Int) (hc : OkB code) (a : Nat) (s : Int) (ha : a ≤ 700000000) (x y : Int) :
    OSpec Tryz.prog 61 (cur code a s) [.ptr 0 0, .c (.int .i64 (x)), .c (.int .i64 (y))] (boxO code a 1000 x y (near x * near y)) := by
  refine ospec tyOk mx Tryz.func61 rfl (by kernel_rfl) rfl rfl ?_
  conv => whnf
  refine ACall.use (l2Sizes_spec _ _) ?_
  conv => whnf
  refine ⟨fun h => ?_, fun h => ?_⟩
  · conv => whnf
    refine ACallS.omut 0 (someBox_spec code hc a s ha x y) ?_ rfl (by (repeat' (first | exact trivial | exact rfl | refine And.intro ?_ ?_)) <;> (try first | omega | (simp; done))) (by (repeat' (first | exact trivial | exact rfl | refine And.intro ?_ ?_)) <;> (try first | omega | (simp; done)))
    rintro v h r ⟨z, m, a1, s1, hz, hm, h4, rfl, rfl, e1, g1, rfl⟩
    conv => whnf
    exact ⟨z, m, a1, s1, hz, hm, h4, rfl, rfl, e1, g1, rfl⟩
  · have h : szOk x y = true := by simpa using h
    obtain ⟨nx, ny, rfl, rfl, x1, x3, y1, y3, _, _⟩ := szOk_nat h
    rw [near_nat x3, near_nat y3]
    have hp2 := two_pow6 (n := nx + ny) (by omega)
    have hpl := playsL_len (nx + ny)
    have hpr := fun k hk => playsL_row (n := nx + ny) (x := k) (by omega) hk
    conv => whnf
    refine ACall.use ((l2Plays_spec nx ny (by omega)).told (x' := .t (.rows (playsL (nx + ny)))) ⟨rfl, rfl⟩) ?_
    generalize playsL (nx + ny) = pls at hpl hpr
    have hpl1 : 1 ≤ pls.length := by have := Nat.pow_le_pow_right (n := 2) (show 0 < 2 by decide) (Nat.zero_le (nx + ny)); omega
    conv => whnf
    refine ADraw.midI (ι := Int × List (List Int) × Nat × Int) (fun j => (⟨100, [(0, .ptr 0 0), (1, .c (.int .i64 (nx))), (2, .c (.int .i64 (ny))), (6, .ptr 1 0), (7, .t (.rows pls)), (8, .ptr 3 0), (100, .ptr 0 0)], [(0, cur code j.2.2.1 j.2.2.2), (1, b0), (2, .rows 38 3 true j.2.1), (3, .cells 26 [.c (.int .i64 (nx)), .c (.int .i64 (ny)), .c (.int .i64 (j.1)), .own 2])], 4⟩ : St)) (fun j => InR j.1 ∧ j.2.1.length = nx * ny ∧ R4 j.2.1 ∧ a ≤ j.2.2.1 ∧ j.2.2.1 ≤ a + 4) (ADraw.planX [6, 10] tyOk mx (.q 0 (.q 1 (.q 2 (.q 3 (.q 4 (.q 5 (.q 9 (.alti 6 (.q 7 (.alt 8 (.alti 10 (.alt 11 (.alt 12 (.last 13 (.last 14 (.done))) (.last 13 (.last 12 (.last 14 (.done))))) (.last 13 (.last 11 (.last 12 (.last 14 (.done)))))) (.last 13 (.inl 10 (.last 11 (.last 12 (.last 14 (.done))))))) (.alti 10 (.alt 8 (.alt 11 (.alt 12 (.last 13 (.last 14 (.done))) (.last 13 (.last 12 (.last 14 (.done))))) (.last 13 (.last 11 (.last 12 (.last 14 (.done)))))) (.alt 11 (.alt 8 (.alt 12 (.last 13 (.last 14 (.done))) (.last 13 (.last 12 (.last 14 (.done))))) (.last 13 (.last 8 (.last 12 (.last 14 (.done)))))) (.last 13 (.alt 8 (.last 11 (.last 12 (.last 14 (.done)))) (.last 11 (.last 8 (.last 12 (.last 14 (.done))))))))) (.last 13 (.alt 8 (.inl 10 (.last 11 (.last 12 (.last 14 (.done))))) (.inl 10 (.alt 8 (.last 11 (.last 12 (.last 14 (.done)))) (.last 11 (.last 8 (.last 12 (.last 14 (.done)))))))))))) (.last 13 (.inl 6 (.q 7 (.alt 8 (.inl 10 (.last 11 (.last 12 (.last 14 (.done))))) (.inl 10 (.alt 8 (.last 11 (.last 12 (.last 14 (.done)))) (.last 11 (.last 8 (.last 12 (.last 14 (.done)))))))))))))))))) : Plan) (by kernel_rfl) ?_) ?_
    · conv => whnf
      repeat' (first
        | (refine ⟨(z, m, a3, s3), none, ?_, ⟨hz, hm, h4, by simp only; omega, by simp only; omega⟩⟩; (refine ⟨rfl, rfl, ?_, ?_⟩ <;> ((repeat' (first | exact trivial | exact rfl | refine And.intro ?_ ?_)) <;> (try ((conv => whnf); first | refine vint ?_ | refine vboo ?_ | refine rint ?_ | refine rrow ?_ | skip)) <;> (try first | omega | (simp; done) | ((repeat rw [flts_closed _ (by assumption)]); exact vws_closed _ (by assumption))))); done)
        | (refine ⟨(z, m, a3, s3), some [(0, .row 0), (1, .row 1), (2, .row 3), (3, .row 2)], ?_, ⟨hz, hm, h4, by simp only; omega, by simp only; omega⟩⟩; (refine ⟨rfl, rfl, ?_, ?_⟩ <;> ((repeat' (first | exact trivial | exact rfl | refine And.intro ?_ ?_)) <;> (try ((conv => whnf); first | refine vint ?_ | refine vboo ?_ | refine rint ?_ | refine rrow ?_ | skip)) <;> (try first | omega | (simp; done) | ((repeat rw [flts_closed _ (by assumption)]); exact vws_closed _ (by assumption))))); done)
        | (refine ACallS.tmutI (pick_spec code hc _ _ (by omega) pls.length (by omega) (by omega)) ?_ rfl (by (repeat' (first | exact trivial | exact rfl | refine And.intro ?_ ?_)) <;> (try first | omega | (simp; done))); rintro v r ⟨z1, a1, s1, rfl, l_z1, u_z1, e_a1, g_a1, rfl⟩; (conv => whnf))
        | (refine ACallS.tmutI (pick_spec code hc _ _ (by omega) 3 (by omega) (by omega)) ?_ rfl (by (repeat' (first | exact trivial | exact rfl | refine And.intro ?_ ?_)) <;> (try first | omega | (simp; done))); rintro v r ⟨z2, a3, s3, rfl, l_z2, u_z2, e_a3, g_a3, rfl⟩; (conv => whnf))
        | (obtain ⟨i, rfl, hi⟩ := nat_of (len := pls.length) l_z1 (by omega); refine ⟨i, rfl, hi, ?_⟩; conv => whnf)
        | (refine ACall.useR' (l2PlayBox_g nx ny x3 y3 _ (hpr _ hi).1 (hpr _ hi).2 _ (W_inr _)) ?_; rintro v h ⟨z, m, hz, hm, h4, rfl, rfl⟩; conv => whnf)
        | (refine And.intro ?_ ?_ <;> (conv => whnf)))
    · rintro ⟨z, m, a2, s2⟩ ⟨hz, hm, h4, e2, g2⟩
      simp only at hz hm h4 e2 g2
      dsimp only
      conv => whnf
      refine ACallS.tmut 0 (pick_spec code hc a2 s2 (by omega) 4 (by omega) (by omega)) ?_ rfl (by (repeat' (first | exact trivial | exact rfl | refine And.intro ?_ ?_)) <;> (try first | omega | (simp; done))) (by (repeat' (first | exact trivial | exact rfl | refine And.intro ?_ ?_)) <;> (try first | omega | (simp; done)))
      rintro v r ⟨n, a3, s3, rfl, l_n, u_n, e_a3, g_a3, rfl⟩
      conv => whnf
      refine aloopI tyOk mx (fun j : Int × Int × List (List Int) × Nat × Int => (⟨100, [(0, .ptr 0 0), (1, .c (.int .i64 (nx))), (2, .c (.int .i64 (ny))), (6, .ptr 1 0), (7, .t (.rows pls)), (8, .ptr 3 0), (9, .c (.int .i64 (j.1))), (100, .ptr 0 0)], [(0, cur code j.2.2.2.1 j.2.2.2.2), (1, b0), (2, .rows 38 3 true j.2.2.1), (3, .cells 26 [.c (.int .i64 (nx)), .c (.int .i64 (ny)), .c (.int .i64 (j.2.1)), .own 2])], 4⟩ : St)) (fun j => 0 ≤ j.1 ∧ j.1 ≤ n ∧ InR j.2.1 ∧ j.2.2.1.length = nx * ny ∧ R4 j.2.2.1 ∧ a ≤ j.2.2.2.1 ∧ (j.2.2.2.1 : Int) + 4 * j.1 ≤ a + 6 + 4 * n) (fun j => j.1.toNat) (n, z, m, a3, s3) ⟨by simp only; omega, by simp only; omega, hz, hm, h4, by simp only; omega, by simp only; omega⟩ none (by refine ⟨rfl, rfl, ?_, ?_⟩ <;> ((repeat' (first | exact trivial | exact rfl | refine And.intro ?_ ?_)) <;> (try ((conv => whnf); first | refine vint ?_ | refine vboo ?_ | refine rint ?_ | refine rrow ?_ | skip)) <;> (try first | omega | (simp; done) | ((repeat rw [flts_closed _ (by assumption)]); exact vws_closed _ (by assumption))))) (fun j hj => ?_)
      obtain ⟨c, z, m, a4, s4⟩ := j
      obtain ⟨j1, j2, hz, hm, h4, j3, j4⟩ := hj
      simp only at j1 j2 hz hm h4 j3 j4
      dsimp only
      conv => whnf
      refine ⟨fun h5 => ?_, fun h5 => ?_⟩
      · have h5 := of_decide_eq_true h5
        conv => whnf
        refine ADraw.planX [7, 11] tyOk mx (.q 1 (.q 2 (.q 3 (.q 4 (.q 5 (.q 6 (.q 10 (.alt 0 (.inl 7 (.q 8 (.alt 9 (.inl 11 (.last 12 (.last 13 (.last 14 (.last 15 (.done)))))) (.inl 11 (.alt 9 (.last 12 (.last 13 (.last 14 (.last 15 (.done))))) (.last 12 (.last 9 (.last 13 (.last 14 (.last 15 (.done))))))))))) (.inl 7 (.q 8 (.alt 0 (.alt 9 (.inl 11 (.last 12 (.last 13 (.last 14 (.last 15 (.done)))))) (.inl 11 (.alt 9 (.last 12 (.last 13 (.last 14 (.last 15 (.done))))) (.last 12 (.last 9 (.last 13 (.last 14 (.last 15 (.done))))))))) (.alt 9 (.alt 0 (.inl 11 (.last 12 (.last 13 (.last 14 (.last 15 (.done)))))) (.inl 11 (.alt 0 (.last 12 (.last 13 (.last 14 (.last 15 (.done))))) (.last 12 (.alt 0 (.last 13 (.last 14 (.last 15 (.done)))) (.last 13 (.last 0 (.last 14 (.last 15 (.done)))))))))) (.inl 11 (.alt 0 (.alt 9 (.last 12 (.last 13 (.last 14 (.last 15 (.done))))) (.last 12 (.last 9 (.last 13 (.last 14 (.last 15 (.done))))))) (.alt 9 (.alt 0 (.last 12 (.last 13 (.last 14 (.last 15 (.done))))) (.last 12 (.alt 0 (.last 13 (.last 14 (.last 15 (.done)))) (.last 13 (.last 0 (.last 14 (.last 15 (.done)))))))) (.last 12 (.alt 0 (.last 9 (.last 13 (.last 14 (.last 15 (.done))))) (.last 9 (.alt 0 (.last 13 (.last 14 (.last 15 (.done)))) (.last 13 (.last 0 (.last 14 (.last 15 (.done))))))))))))))))))))))) : Plan) (by kernel_rfl) ?_
        conv => whnf
        have ew : IntKind.i64.wrap (c - 1) = c - 1 := w64 (by omega) (by omega)
        repeat' (first
          | (rw [ew]; refine ⟨(c - 1, z'', m'', a6, s6), some [(0, .row 0), (1, .row 1), (2, .row 5), (3, .row 3)], ?_, ⟨by simp only; omega, by simp only; omega, hz'', by rw [hm'', hm], h4'', by simp only; omega, by simp only; omega⟩, by simp only; omega⟩; (refine ⟨rfl, rfl, ?_, ?_⟩ <;> ((repeat' (first | exact trivial | exact rfl | refine And.intro ?_ ?_)) <;> (try ((conv => whnf); first | refine vint ?_ | refine vboo ?_ | refine rint ?_ | refine rrow ?_ | skip)) <;> (try first | omega | (simp; done) | ((repeat rw [flts_closed _ (by assumption)]); exact vws_closed _ (by assumption))))); done)
          | (refine ACallS.tmutI (pick_spec code hc _ _ (by omega) pls.length (by omega) (by omega)) ?_ rfl (by (repeat' (first | exact trivial | exact rfl | refine And.intro ?_ ?_)) <;> (try first | omega | (simp; done))); rintro v r ⟨z1, a5, s5, rfl, l_z1, u_z1, e_a5, g_a5, rfl⟩; (conv => whnf))
          | (refine ACallS.tmutI (pick_spec code hc _ _ (by omega) 3 (by omega) (by omega)) ?_ rfl (by (repeat' (first | exact trivial | exact rfl | refine And.intro ?_ ?_)) <;> (try first | omega | (simp; done))); rintro v r ⟨z2, a6, s6, rfl, l_z2, u_z2, e_a6, g_a6, rfl⟩; (conv => whnf))
          | (obtain ⟨i, rfl, hi⟩ := nat_of (len := pls.length) l_z1 (by omega); refine ⟨i, rfl, hi, ?_⟩; conv => whnf)
          | (refine ACall.useR' (l2PlayBox_g nx ny x3 y3 _ (hpr _ hi).1 (hpr _ hi).2 _ (W_inr _)) ?_; rintro v h ⟨z', m', hz', hm', h4', rfl, rfl⟩; conv => whnf)
          | (refine ACall.useR' (l2Mix_g nx ny z nx ny z' m m' (by omega) (fun r hr => (h4 r hr).1) (by omega) (fun r hr => (h4' r hr).1)) ?_; rintro v h ⟨z'', m'', hz'', hm'', h4'', rfl, rfl⟩; conv => whnf)
          | (refine And.intro ?_ ?_ <;> (conv => whnf)))
      · have h5 := of_decide_eq_false h5
        conv => whnf
        refine ACallS.tmut 0 (one_spec code hc a4 s4 (by omega) 2 (by omega) (by omega)) ?_ rfl (by (repeat' (first | exact trivial | exact rfl | refine And.intro ?_ ?_)) <;> (try first | omega | (simp; done))) (by (repeat' (first | exact trivial | exact rfl | refine And.intro ?_ ?_)) <;> (try first | omega | (simp; done)))
        rintro v r ⟨b1, a5, s5, rfl, e_a5, g_a5, rfl⟩
        conv => whnf
        refine ⟨fun hb1 => ?_, fun hb1 => ?_⟩
        · conv => whnf
          refine ACall.use' (l2Sum_g nx ny x3 y3) ?_
          rintro v h' ⟨zs, ms, hzs, hms, h4s, rfl, rfl⟩
          conv => whnf
          refine ACallS.tmut 0 (pick_spec code hc a5 s5 (by omega) pls.length (by omega) (by omega)) ?_ rfl (by (repeat' (first | exact trivial | exact rfl | refine And.intro ?_ ?_)) <;> (try first | omega | (simp; done))) (by (repeat' (first | exact trivial | exact rfl | refine And.intro ?_ ?_)) <;> (try first | omega | (simp; done)))
          rintro v r ⟨k, a6, s6, rfl, l_k, u_k, e_a6, g_a6, rfl⟩
          conv => whnf
          obtain ⟨i, rfl, hi⟩ := nat_of (len := pls.length) l_k (by omega)
          refine ⟨i, rfl, hi, ?_⟩
          conv => whnf
          refine ACall.use' (l2Flip_g nx ny x3 y3 zs hzs ms hms h4s _ (hpr _ hi).1 (hpr _ hi).2) ?_
          rintro v h' ⟨zf, mf, hzf, hmf, h4f, rfl, rfl⟩
          conv => whnf
          refine ACallS.tmut 0 (pick_spec code hc a6 s6 (by omega) 4 (by omega) (by omega)) ?_ rfl (by (repeat' (first | exact trivial | exact rfl | refine And.intro ?_ ?_)) <;> (try first | omega | (simp; done))) (by (repeat' (first | exact trivial | exact rfl | refine And.intro ?_ ?_)) <;> (try first | omega | (simp; done)))
          rintro v r ⟨n2, a7, s7, rfl, l_n2, u_n2, e_a7, g_a7, rfl⟩
          conv => whnf
          conv => whnf
          have ew : IntKind.i64.wrap (1 + n2) = 1 + n2 := w64 (by omega) (by omega)
          rw [ew]
          refine aloopI tyOk mx (fun j : Int × Int × List (List Int) => (⟨100, [(0, .ptr 0 0), (1, .c (.int .i64 (nx))), (2, .c (.int .i64 (ny))), (6, .ptr 1 0), (8, .ptr 3 0), (10, .ptr 5 0), (11, .c (.int .i64 (j.1))), (100, .ptr 0 0)], [(0, cur code a7 s7), (1, b0), (2, .rows 38 3 true j.2.2), (3, .cells 26 [.c (.int .i64 (nx)), .c (.int .i64 (ny)), .c (.int .i64 (j.2.1)), .own 2]), (4, .rows 38 3 true mf), (5, .cells 26 [.c (.int .i64 (nx)), .c (.int .i64 (ny)), .c (.int .i64 (zf)), .own 4])], 6⟩ : St)) (fun j => 0 ≤ j.1 ∧ j.1 ≤ 1 + n2 ∧ InR j.2.1 ∧ j.2.2.length = nx * ny ∧ R4 j.2.2) (fun j => j.1.toNat) (1 + n2, z, m) ⟨by simp only; omega, by simp only; omega, hz, hm, h4⟩ (some [(0, .row 0), (1, .row 1), (2, .row 2), (3, .row 3), (4, .row 5), (5, .row 6)]) (by (refine ⟨rfl, rfl, ?_, ?_⟩ <;> ((repeat' (first | exact trivial | exact rfl | refine And.intro ?_ ?_)) <;> (try ((conv => whnf); first | refine vint ?_ | refine vboo ?_ | refine rint ?_ | refine rrow ?_ | skip)) <;> (try first | omega | (simp; done) | ((repeat rw [flts_closed _ (by assumption)]); exact vws_closed _ (by assumption)))))) (fun j hj => ?_)
          have A7 : a ≤ a7 ∧ a7 ≤ a + 50 := by omega
          clear j1 j2 j3 j4 h5 hz hm h4
          obtain ⟨d, z, m⟩ := j
          obtain ⟨j1, j2, hz, hm, h4⟩ := hj
          simp only at j1 j2 hz hm h4
          dsimp only
          conv => whnf
          refine ⟨fun h6 => ?_, fun h6 => ?_⟩
          · have h6 := of_decide_eq_true h6
            conv => whnf
            refine ACall.use' (l2Mix_g nx ny z nx ny zf m mf (by omega) (fun r hr => (h4 r hr).1) (by omega) (fun r hr => (h4f r hr).1)) ?_
            rintro v h' ⟨z', m', hz', hm', h4', rfl, rfl⟩
            conv => whnf
            have ew2 : IntKind.i64.wrap (d - 1) = d - 1 := w64 (by omega) (by omega)
            rw [ew2]
            exact ⟨(d - 1, z', m'), some [(0, .row 0), (1, .row 1), (2, .row 6), (3, .row 3), (4, .row 4), (5, .row 5)], (by (refine ⟨rfl, rfl, ?_, ?_⟩ <;> ((repeat' (first | exact trivial | exact rfl | refine And.intro ?_ ?_)) <;> (try ((conv => whnf); first | refine vint ?_ | refine vboo ?_ | refine rint ?_ | refine rrow ?_ | skip)) <;> (try first | omega | (simp; done) | ((repeat rw [flts_closed _ (by assumption)]); exact vws_closed _ (by assumption)))))), ⟨by simp only; omega, by simp only; omega, hz', by rw [hm', hm], h4'⟩, by simp only; omega⟩
          · have h6 := of_decide_eq_false h6
            conv => whnf
            refine ACallS.tmut 0 (one_spec code hc a7 s7 (by omega) 4 (by omega) (by omega)) ?_ rfl (by (repeat' (first | exact trivial | exact rfl | refine And.intro ?_ ?_)) <;> (try first | omega | (simp; done))) (by (repeat' (first | exact trivial | exact rfl | refine And.intro ?_ ?_)) <;> (try first | omega | (simp; done)))
            rintro v r ⟨b2, a8, s8, rfl, e_a8, g_a8, rfl⟩
            conv => whnf
            refine ⟨fun hb2 => ?_, fun hb2 => ?_⟩
            · conv => whnf
              refine ACall.use' (NoiseBox_g nx ny h x3 y3) ?_
              rintro v h' (⟨mn, hmn, h4n, rfl, rfl⟩ | ⟨rfl, rfl⟩)
              · (repeat (conv => whnf); (first | refine ⟨fun h => absurd h (by decide), fun _ => ?_⟩ | refine ⟨fun _ => ?_, fun h => absurd h (by decide)⟩)); conv => whnf
                refine ACallS.tmut 0 (one_spec code hc a8 s8 (by omega) 4 (by omega) (by omega)) ?_ rfl (by (repeat' (first | exact trivial | exact rfl | refine And.intro ?_ ?_)) <;> (try first | omega | (simp; done))) (by (repeat' (first | exact trivial | exact rfl | refine And.intro ?_ ?_)) <;> (try first | omega | (simp; done)))
                rintro v r ⟨bn, a9, s9, rfl, e_a9, g_a9, rfl⟩
                conv => whnf
                refine ⟨fun hb => ?_, fun hb => ?_⟩
                · conv => whnf
                  refine ACall.use' (l2Mix_g nx ny zf nx ny 4 mf mn (by omega) (fun r hr => (h4f r hr).1) (by omega) (fun r hr => (h4n r hr).1)) ?_
                  rintro v h' ⟨z9, m9, hz9, hm9, h49, rfl, rfl⟩
                  conv => whnf
                  exact ⟨z9, m9, a9, s9, hz9, by rw [hm9, hmf], h49, rfl, rfl, by omega, by omega, rfl⟩
                · conv => whnf
                  exact ⟨zf, mf, a9, s9, hzf, hmf, h4f, rfl, rfl, by omega, by omega, rfl⟩
              · conv => whnf
                (repeat (conv => whnf); (first | refine ⟨fun h => absurd h (by decide), fun _ => ?_⟩ | refine ⟨fun _ => ?_, fun h => absurd h (by decide)⟩)); conv => whnf
                exact ⟨zf, mf, a8, s8, hzf, hmf, h4f, rfl, rfl, by omega, by omega, rfl⟩
            · conv => whnf
              refine ACall.use' (NoiseBox_g nx ny h x3 y3) ?_
              rintro v h' (⟨mn, hmn, h4n, rfl, rfl⟩ | ⟨rfl, rfl⟩)
              · (repeat (conv => whnf); (first | refine ⟨fun h => absurd h (by decide), fun _ => ?_⟩ | refine ⟨fun _ => ?_, fun h => absurd h (by decide)⟩)); conv => whnf
                refine ACallS.tmut 0 (one_spec code hc a8 s8 (by omega) 4 (by omega) (by omega)) ?_ rfl (by (repeat' (first | exact trivial | exact rfl | refine And.intro ?_ ?_)) <;> (try first | omega | (simp; done))) (by (repeat' (first | exact trivial | exact rfl | refine And.intro ?_ ?_)) <;> (try first | omega | (simp; done)))
                rintro v r ⟨bn, a9, s9, rfl, e_a9, g_a9, rfl⟩
                conv => whnf
                refine ⟨fun hb => ?_, fun hb => ?_⟩
                · conv => whnf
                  refine ACall.use' (l2Mix_g nx ny z nx ny 4 m mn (by omega) (fun r hr => (h4 r hr).1) (by omega) (fun r hr => (h4n r hr).1)) ?_
                  rintro v h' ⟨z9, m9, hz9, hm9, h49, rfl, rfl⟩
                  conv => whnf
                  exact ⟨z9, m9, a9, s9, hz9, by rw [hm9, hm], h49, rfl, rfl, by omega, by omega, rfl⟩
                · conv => whnf
                  exact ⟨z, m, a9, s9, hz, hm, h4, rfl, rfl, by omega, by omega, rfl⟩
              · conv => whnf
                (repeat (conv => whnf); (first | refine ⟨fun h => absurd h (by decide), fun _ => ?_⟩ | refine ⟨fun _ => ?_, fun h => absurd h (by decide)⟩)); conv => whnf
                exact ⟨z, m, a8, s8, hz, hm, h4, rfl, rfl, by omega, by omega, rfl⟩
        · conv => whnf
          refine ACall.use' (NoiseBox_g nx ny h x3 y3) ?_
          rintro v h' (⟨mn, hmn, h4n, rfl, rfl⟩ | ⟨rfl, rfl⟩)
          · (repeat (conv => whnf); (first | refine ⟨fun h => absurd h (by decide), fun _ => ?_⟩ | refine ⟨fun _ => ?_, fun h => absurd h (by decide)⟩)); conv => whnf
            refine ACallS.tmut 0 (one_spec code hc a5 s5 (by omega) 4 (by omega) (by omega)) ?_ rfl (by (repeat' (first | exact trivial | exact rfl | refine And.intro ?_ ?_)) <;> (try first | omega | (simp; done))) (by (repeat' (first | exact trivial | exact rfl | refine And.intro ?_ ?_)) <;> (try first | omega | (simp; done)))
            rintro v r ⟨bn, a9, s9, rfl, e_a9, g_a9, rfl⟩
            conv => whnf
            refine ⟨fun hb => ?_, fun hb => ?_⟩
            · conv => whnf
              refine ACall.use' (l2Mix_g nx ny z nx ny 4 m mn (by omega) (fun r hr => (h4 r hr).1) (by omega) (fun r hr => (h4n r hr).1)) ?_
              rintro v h' ⟨z9, m9, hz9, hm9, h49, rfl, rfl⟩
              conv => whnf
              exact ⟨z9, m9, a9, s9, hz9, by rw [hm9, hm], h49, rfl, rfl, by omega, by omega, rfl⟩
            · conv => whnf
              exact ⟨z, m, a9, s9, hz, hm, h4, rfl, rfl, by omega, by omega, rfl⟩
          · conv => whnf
            (repeat (conv => whnf); (first | refine ⟨fun h => absurd h (by decide), fun _ => ?_⟩ | refine ⟨fun _ => ?_, fun h => absurd h (by decide)⟩)); conv => whnf
            exact ⟨z, m, a5, s5, hz, hm, h4, rfl, rfl, by omega, by omega, rfl⟩
end Go.Proofs.YtkjdplglenjijaaGreat
