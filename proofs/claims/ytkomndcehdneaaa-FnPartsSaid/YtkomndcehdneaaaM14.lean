/- Draws of what the laws of extreme boxes ask. -/
import Derived.Test.YtkomndcehdneaaaM13
import Derived.Test.YtkomndcehdneaaaM3
import Derived.Test.YtkomndcehdneaaaM2
namespace Go.Proofs.Ytkomndcehdneaaa
open Go.Aw
set_option maxRecDepth 100000
set_option maxHeartbeats 4000000

theorem div23 {x : Int} (h0 : 0 ≤ x) (h1 : x < max 24 1) : ∃ q : Int, IntKind.i64.wrap (Int.tdiv x 23) = q ∧ 0 ≤ q ∧ q ≤ 1 := by
  have : x.tdiv 23 = x / 23 := Int.tdiv_eq_ediv_of_nonneg h0
  rw [this]
  exact ⟨x / 23, w64 (by omega) (by omega), by omega, by omega⟩
theorem kind_spec (code : List Int) (hc : OkB code) (a : Nat) (s : Int) (ha : a ≤ 800000000) : TSpec Try.prog 189 (cur code a s) [.ptr 0 0] (drawn code a 4 (-1) 9) := by
  refine tspec tyOk mx Try.func189 rfl (by kernel_rfl) rfl rfl ?_
  conv => whnf
  refine ACallS.tmut 0 (pick_spec code hc a s (by omega) 9 (by omega) (by omega)) ?_ rfl (by (repeat' (first | exact trivial | exact rfl | refine And.intro ?_ ?_)) <;> (try first | omega | (simp; done))) (by (repeat' (first | exact trivial | exact rfl | refine And.intro ?_ ?_)) <;> (try first | omega | (simp; done)))
  rintro v r ⟨k, a1, s1, rfl, l_k, u_k, e_a1, g_a1, rfl⟩
  conv => whnf
  refine ACallS.tmut 0 (pick_spec code hc a1 s1 (by omega) 24 (by omega) (by omega)) ?_ rfl (by (repeat' (first | exact trivial | exact rfl | refine And.intro ?_ ?_)) <;> (try first | omega | (simp; done))) (by (repeat' (first | exact trivial | exact rfl | refine And.intro ?_ ?_)) <;> (try first | omega | (simp; done)))
  rintro v r ⟨t, a2, s2, rfl, l_t, u_t, e_a2, g_a2, rfl⟩
  conv => whnf
  refine ⟨by decide, ?_⟩
  conv => whnf
  obtain ⟨q, eq, q0, q1⟩ := div23 l_t u_t
  rw [eq]
  exact ⟨_, a2, s2, rfl, by rw [w64 (by omega) (by omega)]; omega, by rw [w64 (by omega) (by omega)]; omega, by omega, by omega, rfl⟩
/-- a drawn number -/
def numP : AVal → List (Nat × ARow) → Prop := fun v h => h = [] ∧ ∃ k : Int, InR k ∧ v = .c (.int .i64 k)
theorem drawn_in {code : List Int} {a k : Nat} {lo hi : Int} {v : AVal} {r : ARow} (h : drawn code a k lo hi v r) (h1 : -9223372036854775808 ≤ lo) (h2 : hi ≤ 9223372036854775807) : ∃ (x : Int) (a' : Nat) (s' : Int), v = .c (.int .i64 x) ∧ InR x ∧ a ≤ a' ∧ a' ≤ a + k ∧ r = cur code a' s' := by
  obtain ⟨x, a', s', e, l, u, h3, h4, h5⟩ := h
  exact ⟨x, a', s', e, by unfold InR; omega, h3, h4, h5⟩

theorem DrawEqualSumBox_spec (code : List Int) (hc : OkB code) : FSpec Try.prog 98 [.t (.ints .u8 code)] numP := by
  refine fspec tyOk mx Try.func98 rfl (by kernel_rfl) rfl ?_
  conv => whnf
  refine ACallS.tmut 0 (kind_spec code hc 0 0 (by omega)) ?_ rfl (by (repeat' (first | exact trivial | exact rfl | refine And.intro ?_ ?_)) <;> (try first | omega | (simp; done))) (by (repeat' (first | exact trivial | exact rfl | refine And.intro ?_ ?_)) <;> (try first | omega | (simp; done)))
  rintro v r ⟨x, a1, s1, rfl, l, u, _, _, rfl⟩
  conv => whnf
  exact ⟨rfl, x, by unfold InR; omega, rfl⟩
theorem DrawExtremeBox_spec (code : List Int) (hc : OkB code) : FSpec Try.prog 95 [.t (.ints .u8 code)] numP := by
  refine fspec tyOk mx Try.func95 rfl (by kernel_rfl) rfl ?_
  conv => whnf
  refine ACallS.tmut 0 (pick_spec code hc 0 0 (by omega) 26 (by omega) (by omega)) ?_ rfl (by (repeat' (first | exact trivial | exact rfl | refine And.intro ?_ ?_)) <;> (try first | omega | (simp; done))) (by (repeat' (first | exact trivial | exact rfl | refine And.intro ?_ ?_)) <;> (try first | omega | (simp; done)))
  rintro v r ⟨x, a1, s1, rfl, l, u, _, _, rfl⟩
  conv => whnf
  exact ⟨rfl, _, W_inr _, rfl⟩

/-- a drawn box, read-only -/
def boxT : AVal → List (Nat × ARow) → Prop := fun v h => h = [] ∧ ∃ (x y z : Int) (m : List (List Int)), InR x ∧ InR y ∧ InR z ∧ SmB m ∧ v = .ag [.c (.int .i64 x), .c (.int .i64 y), .c (.int .i64 z), .t (.rows m)]
theorem SmB.ok {m : List (List Int)} (h : SmB m) : OkM m ∧ SzM m := by
  obtain ⟨h3, h4⟩ := h
  refine ⟨⟨by omega, fun r hr => ⟨by have := (h4 r hr).1; omega, (h4 r hr).2⟩⟩, ?_⟩
  have k1 := tot_le_mul (m := m) (n := 4) (fun r hr => (h4 r hr).1)
  have : m.length * 4 ≤ 17 * 4 := Nat.mul_le_mul_right 4 h3
  unfold SzM; omega

theorem DrawIsExtreme_spec (code : List Int) (hc : OkB code) : FSpec Try.prog 101 [.t (.ints .u8 code)] boxT := by
  refine fspec tyOk mx Try.func101 rfl (by kernel_rfl) rfl ?_
  conv => whnf
  refine ACallS.tmut 1 (quietTwo_spec code hc 0 0 (by omega)) ?_ rfl (by (repeat' (first | exact trivial | exact rfl | refine And.intro ?_ ?_)) <;> (try first | omega | (simp; done))) (by (repeat' (first | exact trivial | exact rfl | refine And.intro ?_ ?_)) <;> (try first | omega | (simp; done)))
  rintro v r ⟨x, y, z, m, a1, s1, rfl, hx, hy, hz, hm, _, _, rfl⟩
  conv => whnf
  exact ⟨rfl, x, y, z, m, hx, hy, hz, hm, rfl⟩
theorem DrawIsEvenBox_spec (code : List Int) (hc : OkB code) : FSpec Try.prog 111 [.t (.ints .u8 code)] boxT := by
  refine fspec tyOk mx Try.func111 rfl (by kernel_rfl) rfl ?_
  conv => whnf
  refine ACall.use' (DrawIsExtreme_spec code hc) ?_
  rintro v h ⟨rfl, x, y, z, m, hx, hy, hz, hm, rfl⟩
  conv => whnf
  exact ⟨rfl, x, y, z, m, hx, hy, hz, hm, rfl⟩

/-- a drawn box: the function's own, nothing, or read-only -/
def boxW : AVal → List (Nat × ARow) → Prop := fun v h =>
  ((∃ (x y z : Int) (m : List (List Int)) (a' : Nat) (_s' : Int), v = .ag [.c (.int .i64 x), .c (.int .i64 y), .c (.int .i64 z), .own 0] ∧ InR x ∧ InR y ∧ InR z ∧ SmB m ∧ 0 ≤ a' ∧ a' ≤ 3000 ∧ h = [(0, .rows 25 3 true m)]) ∨ boxT v h) ∨
  ∃ (a' : Nat) (_s' : Int), v = .ag [.c (.int .i64 0), .c (.int .i64 0), .c (.int .i64 0), .c (.slice none 0 0)] ∧ 0 ≤ a' ∧ a' ≤ 3000 ∧ h = []
theorem boxW_tell {f : FuncId} {args : List AVal} (h : FSpec Try.prog f args boxW) : FSpec Try.prog f args boxT := by
  have h1 : FSpec Try.prog f args (fun v h => (∃ (x y z : Int) (m : List (List Int)), InR x ∧ InR y ∧ InR z ∧ SmB m ∧ v = .ag [.c (.int .i64 x), .c (.int .i64 y), .c (.int .i64 z), .own 0] ∧ h = [(0, .rows 25 3 true m)]) ∨ boxT v h) := by
    refine FSpec.view h (fun v hr hp => ?_)
    rcases hp with (⟨x, y, z, m, a', s', rfl, hx, hy, hz, hm, _, _, rfl⟩ | ⟨rfl, x, y, z, m, hx, hy, hz, hm, rfl⟩) | ⟨a', s', rfl, _, _, rfl⟩
    · exact ⟨[(0, .row 0)], .ag [.c (.int .i64 x), .c (.int .i64 y), .c (.int .i64 z), .own 0], [(0, .rows 25 3 true m)], rfl, ⟨rfl, rfl, trivial⟩, ⟨rfl, rfl, rfl, ⟨rfl, rfl⟩, trivial⟩, .inl ⟨x, y, z, m, hx, hy, hz, hm, rfl, rfl⟩⟩
    · exact ⟨[], .ag [.c (.int .i64 x), .c (.int .i64 y), .c (.int .i64 z), .t (.rows m)], [], rfl, trivial, ⟨rfl, rfl, rfl, rfl, trivial⟩, .inr ⟨rfl, x, y, z, m, hx, hy, hz, hm, rfl⟩⟩
    · exact ⟨[(0, .nil)], .ag [.c (.int .i64 0), .c (.int .i64 0), .c (.int .i64 0), .own 0], [(0, .rows 25 3 true [])], rfl, ⟨rfl, trivial, trivial⟩, ⟨rfl, rfl, rfl, ⟨rfl, rfl, rfl⟩, trivial⟩, .inl ⟨0, 0, 0, [], inr0, inr0, inr0, SmB.nil, rfl, rfl⟩⟩
  refine FSpec.view h1 (fun v hr hp => ?_)
  rcases hp with ⟨x, y, z, m, hx, hy, hz, hm, rfl, rfl⟩ | ⟨rfl, x, y, z, m, hx, hy, hz, hm, rfl⟩
  · exact ⟨[], .ag [.c (.int .i64 x), .c (.int .i64 y), .c (.int .i64 z), .t (.rows m)], [], rfl, trivial, ⟨rfl, rfl, rfl, ⟨rfl, rfl⟩, trivial⟩, rfl, x, y, z, m, hx, hy, hz, hm, rfl⟩
  · exact ⟨[], .ag [.c (.int .i64 x), .c (.int .i64 y), .c (.int .i64 z), .t (.rows m)], [], rfl, trivial, ⟨rfl, rfl, rfl, rfl, trivial⟩, rfl, x, y, z, m, hx, hy, hz, hm, rfl⟩

theorem DrawEightSums_spec (code : List Int) (hc : OkB code) : FSpec Try.prog 104 [.t (.ints .u8 code)] boxT := by
  refine boxW_tell ?_
  refine fspec tyOk mx Try.func104 rfl (by kernel_rfl) rfl ?_
  conv => whnf
  refine ACallS.tmut 1 (one_spec code hc 0 0 (by omega) 3 (by omega) (by omega)) ?_ rfl (by (repeat' (first | exact trivial | exact rfl | refine And.intro ?_ ?_)) <;> (try first | omega | (simp; done))) (by (repeat' (first | exact trivial | exact rfl | refine And.intro ?_ ?_)) <;> (try first | omega | (simp; done)))
  rintro v r ⟨b, a1, s1, rfl, e_1, g_1, rfl⟩
  conv => whnf
  refine ⟨fun hb => ?_, fun hb => ?_⟩
  · conv => whnf
    refine ACallS.omut 1 (someBox_spec code hc a1 s1 (by omega) 2 2) ?_ rfl (by (repeat' (first | exact trivial | exact rfl | refine And.intro ?_ ?_)) <;> (try first | omega | (simp; done))) (by (repeat' (first | exact trivial | exact rfl | refine And.intro ?_ ?_)) <;> (try first | omega | (simp; done)))
    rintro v h r ⟨z, m, a3, s3, hz, hm, h4, rfl, rfl, e3, g3, rfl⟩
    have hm : m.length = 4 := hm
    conv => whnf
    refine ACallS.inline tyOk mx Try.func219 rfl (by kernel_rfl) rfl ?_
    conv => whnf
    refine ACallS.tmut 1 (pick_spec code hc a3 s3 (by omega) 50 (by omega) (by omega)) ?_ rfl (by (repeat' (first | exact trivial | exact rfl | refine And.intro ?_ ?_)) <;> (try first | omega | (simp; done))) (by (repeat' (first | exact trivial | exact rfl | refine And.intro ?_ ?_)) <;> (try first | omega | (simp; done)))
    rintro v r ⟨c, a4, s4, rfl, l_c, u_c, e_a4, g_a4, rfl⟩
    conv => whnf
    refine ⟨fun h0 => ?_, fun h0 => ?_⟩
    · conv => whnf
      refine ACallS.inline tyOk mx Try.func116 rfl (by kernel_rfl) rfl ?_
      conv => whnf
      refine ACallS.tmut 1 (pick_spec code hc a4 s4 (by omega) 4 (by omega) (by omega)) ?_ rfl (by (repeat' (first | exact trivial | exact rfl | refine And.intro ?_ ?_)) <;> (try first | omega | (simp; done))) (by (repeat' (first | exact trivial | exact rfl | refine And.intro ?_ ?_)) <;> (try first | omega | (simp; done)))
      rintro v r ⟨y4, a5, s5, rfl, y0, y1, e5, g5, rfl⟩
      conv => whnf
      obtain ⟨i4, rfl, hi4⟩ := nat_of (len := 4) y0 (by omega)
      refine ⟨i4, rfl, hi4, ?_⟩
      conv => whnf
      obtain ⟨lq, uq⟩ := among_in (sp_in z) (i := i4) hi4
      generalize List.getD (((((List.replicate 4 (0 : Int)).set 0 0).set 1 (-1)).set 2 1001).set 3 (IntKind.i64.wrap (z + 1))) i4 0 = q at lq uq ⊢
      refine ⟨rfl, ?_⟩
      conv => whnf
      refine ⟨rfl, ?_⟩
      conv => whnf
      exact .inl (.inl ⟨2, 2, q, m, a5, s5, rfl, inr2, inr2, ⟨lq, uq⟩, h4.sm hm (by omega), by omega, by omega, rfl⟩)
    · conv => whnf
      refine ⟨fun h1 => ?_, fun h1 => ?_⟩
      · conv => whnf
        refine ⟨fun hp => ?_, fun hp => ?_⟩
        · have hp : 0 < (m).length := by have := of_decide_eq_true hp; omega
          conv => whnf
          refine ⟨0, rfl, hp, ?_⟩
          conv => whnf
          refine ⟨fun hl => ?_, fun hl => ?_⟩
          · have hl : ((m).getD 0 []).length = 4 := by have := beq_iff_eq.1 hl; omega
            have hr4 := h4 _ (getD_mem (d := []) hp)
            refine ADraw.plan tyOk mx (.q 0 (.q 1 (.q 2 (.q 3 (.q 4 (.q 5 (.q 6 (.q 7 (.q 8 (.q 9 (.q 10 (.q 11 (.q 12 (.q 13 (.q 14 (.q 15 (.q 16 (.q 17 (.q 18 (.q 19 (.q 20 (.q 21 (.q 22 (.q 23 (.q 24 (.q 25 (.q 26 (.q 27 (.last 28 (.q 29 (.last 30 (.done))))))))))))))))))))))))))))))) : Plan) (by kernel_rfl) ?_
            conv => whnf
            repeat' (first
              | (refine ⟨rfl, ?_⟩; (conv => whnf); exact .inl (.inl ⟨2, 2, z, List.set m 0 _, a4, s4, rfl, inr2, inr2, hz, h4.smSet hm (by omega) 0 (le4 (set4 (set4 (set4 (set4 rep4 _ (W_inr _)) _ (W_inr _)) _ (getI hr4.2 _)) _ (getI hr4.2 _))), by omega, by omega, rfl⟩); done)
              | (refine ⟨0, rfl, by omega, ?_⟩; conv => whnf)
              | (refine ⟨1, rfl, by omega, ?_⟩; conv => whnf)
              | (refine ⟨2, rfl, by omega, ?_⟩; conv => whnf)
              | (refine ⟨3, rfl, by omega, ?_⟩; conv => whnf)
              | (refine And.intro ?_ ?_ <;> (conv => whnf)))
          · (repeat (conv => whnf); (first | refine ⟨fun h => absurd h (by decide), fun _ => ?_⟩ | refine ⟨fun _ => ?_, fun h => absurd h (by decide)⟩)); conv => whnf
            refine ⟨rfl, ?_⟩
            conv => whnf
            exact .inl (.inl ⟨2, 2, z, m, a4, s4, rfl, inr2, inr2, hz, h4.sm hm (by omega), by omega, by omega, rfl⟩)
        · (repeat (conv => whnf); (first | refine ⟨fun h => absurd h (by decide), fun _ => ?_⟩ | refine ⟨fun _ => ?_, fun h => absurd h (by decide)⟩)); conv => whnf
          refine ⟨rfl, ?_⟩
          conv => whnf
          exact .inl (.inl ⟨2, 2, z, m, a4, s4, rfl, inr2, inr2, hz, h4.sm hm (by omega), by omega, by omega, rfl⟩)
      · conv => whnf
        refine ⟨fun h2 => ?_, fun h2 => ?_⟩
        · conv => whnf
          refine ⟨by simp [room]; omega, ?_⟩
          conv => whnf
          refine ⟨rfl, ?_⟩
          conv => whnf
          exact .inl (.inl ⟨2, 2, z, m ++ [_], a4, s4, rfl, inr2, inr2, hz, h4.smApp hm (by omega) (le4 (set4 (set4 (set4 (set4 rep4 _ (by unfold InR; omega)) _ inr0) _ inr0) _ inr0)), by omega, by omega, rfl⟩)
        · conv => whnf
          refine ⟨fun h3 => ?_, fun h3 => ?_⟩
          · conv => whnf
            refine ⟨fun hp => ?_, fun hp => ?_⟩
            · have hp : 0 < (m).length := by have := of_decide_eq_true hp; omega
              conv => whnf
              refine ⟨0, rfl, hp, ?_⟩
              conv => whnf
              refine ⟨rfl, ?_⟩
              conv => whnf
              exact .inl (.inl ⟨2, 2, z, List.set m 0 _, a4, s4, rfl, inr2, inr2, hz, h4.smSet hm (by omega) 0 (sp3 hz), by omega, by omega, rfl⟩)
            · conv => whnf
              refine ⟨rfl, ?_⟩
              conv => whnf
              exact .inl (.inl ⟨2, 2, z, m, a4, s4, rfl, inr2, inr2, hz, h4.sm hm (by omega), by omega, by omega, rfl⟩)
          · conv => whnf
            refine ⟨fun h5 => ?_, fun h5 => ?_⟩
            · conv => whnf
              refine ⟨rfl, ?_⟩
              conv => whnf
              exact .inr ⟨a4, s4, rfl, by omega, by omega, rfl⟩
            · conv => whnf
              refine ⟨rfl, ?_⟩
              conv => whnf
              exact .inl (.inl ⟨2, 2, z, m, a4, s4, rfl, inr2, inr2, hz, h4.sm hm (by omega), by omega, by omega, rfl⟩)
  · conv => whnf
    refine ACallS.tmut 1 (quietTwo_spec code hc a1 s1 (by omega)) ?_ rfl (by (repeat' (first | exact trivial | exact rfl | refine And.intro ?_ ?_)) <;> (try first | omega | (simp; done))) (by (repeat' (first | exact trivial | exact rfl | refine And.intro ?_ ?_)) <;> (try first | omega | (simp; done)))
    rintro v r ⟨x, y, z, m, a2, s2, rfl, hx, hy, hz, hm, _, _, rfl⟩
    conv => whnf
    exact .inl (.inr ⟨rfl, x, y, z, m, hx, hy, hz, hm, rfl⟩)
theorem DrawEvenOut_spec (code : List Int) (hc : OkB code) : FSpec Try.prog 108 [.t (.ints .u8 code)] boxT := by
  refine fspec tyOk mx Try.func108 rfl (by kernel_rfl) rfl ?_
  conv => whnf
  refine ACall.use' (DrawEightSums_spec code hc) ?_
  rintro v h ⟨rfl, x, y, z, m, hx, hy, hz, hm, rfl⟩
  conv => whnf
  exact ⟨rfl, x, y, z, m, hx, hy, hz, hm, rfl⟩
theorem DrawNoisySum_spec (code : List Int) (hc : OkB code) : FSpec Try.prog 105 [.t (.ints .u8 code)] (fun v h => h = [] ∧ ∃ k sh no : Int, InR k ∧ InR sh ∧ InR no ∧ v = .tu [.c (.int .i64 k), .c (.int .i64 sh), .c (.int .i64 no)]) := by
  refine fspec tyOk mx Try.func105 rfl (by kernel_rfl) rfl ?_
  conv => whnf
  refine ACallS.tmut 0 (kind_spec code hc 0 0 (by omega)) ?_ rfl (by (repeat' (first | exact trivial | exact rfl | refine And.intro ?_ ?_)) <;> (try first | omega | (simp; done))) (by (repeat' (first | exact trivial | exact rfl | refine And.intro ?_ ?_)) <;> (try first | omega | (simp; done)))
  rintro v r ⟨k, a1, s1, rfl, l, u, _, e1, rfl⟩
  conv => whnf
  refine ACallS.inline tyOk mx Try.func116 rfl (by kernel_rfl) rfl ?_
  conv => whnf
  refine ACallS.tmut 0 (pick_spec code hc a1 s1 (by omega) 8 (by omega) (by omega)) ?_ rfl (by (repeat' (first | exact trivial | exact rfl | refine And.intro ?_ ?_)) <;> (try first | omega | (simp; done))) (by (repeat' (first | exact trivial | exact rfl | refine And.intro ?_ ?_)) <;> (try first | omega | (simp; done)))
  rintro v r ⟨y, a2, s2, rfl, y0, y1, e_a2, g_a2, rfl⟩
  conv => whnf
  obtain ⟨i, rfl, hi⟩ := nat_of (len := 8) y0 (by omega)
  refine ⟨i, rfl, hi, ?_⟩
  conv => whnf
  have h_sh : -1 ≤ (((((((((List.replicate 8 (0 : Int)).set 0 1).set 1 2).set 2 0).set 3 5).set 4 500).set 5 501).set 6 1000).set 7 (-1)).getD i 0 ∧ (((((((((List.replicate 8 (0 : Int)).set 0 1).set 1 2).set 2 0).set 3 5).set 4 500).set 5 501).set 6 1000).set 7 (-1)).getD i 0 ≤ 1000 := among_in (by kernel_rfl) hi
  generalize (((((((((List.replicate 8 (0 : Int)).set 0 1).set 1 2).set 2 0).set 3 5).set 4 500).set 5 501).set 6 1000).set 7 (-1)).getD i 0 = sh at h_sh ⊢
  refine ⟨rfl, ?_⟩
  conv => whnf
  clear y0 y1 hi
  refine ACallS.inline tyOk mx Try.func116 rfl (by kernel_rfl) rfl ?_
  conv => whnf
  refine ACallS.tmut 0 (pick_spec code hc a2 s2 (by omega) 8 (by omega) (by omega)) ?_ rfl (by (repeat' (first | exact trivial | exact rfl | refine And.intro ?_ ?_)) <;> (try first | omega | (simp; done))) (by (repeat' (first | exact trivial | exact rfl | refine And.intro ?_ ?_)) <;> (try first | omega | (simp; done)))
  rintro v r ⟨y, a3, s3, rfl, y0, y1, e_a3, g_a3, rfl⟩
  conv => whnf
  obtain ⟨i, rfl, hi⟩ := nat_of (len := 8) y0 (by omega)
  refine ⟨i, rfl, hi, ?_⟩
  conv => whnf
  have h_no : -1 ≤ (((((((((List.replicate 8 (0 : Int)).set 0 0).set 1 1).set 2 2).set 3 3).set 4 250).set 5 251).set 6 (-1)).set 7 4611686018427387904).getD i 0 ∧ (((((((((List.replicate 8 (0 : Int)).set 0 0).set 1 1).set 2 2).set 3 3).set 4 250).set 5 251).set 6 (-1)).set 7 4611686018427387904).getD i 0 ≤ 4611686018427387904 := among_in (by kernel_rfl) hi
  generalize (((((((((List.replicate 8 (0 : Int)).set 0 0).set 1 1).set 2 2).set 3 3).set 4 250).set 5 251).set 6 (-1)).set 7 4611686018427387904).getD i 0 = no at h_no ⊢
  refine ⟨rfl, ?_⟩
  conv => whnf
  clear y0 y1 hi
  exact ⟨rfl, k, sh, no, by unfold InR; omega, by unfold InR; omega, by unfold InR; omega, rfl⟩
end Go.Proofs.Ytkomndcehdneaaa
/- The draws of FnParts. -/
namespace Go.Proofs.Ytkomndcehdneaaa
open Go.Aw
set_option maxRecDepth 100000
set_option maxHeartbeats 4000000

theorem DrawRestOf_spec (code : List Int) (hc : OkB code) : FSpec Try.prog 65 [.t (.ints .u8 code)] boxT := by
  refine fspec tyOk mx Try.func65 rfl (by kernel_rfl) rfl ?_
  conv => whnf
  refine ACall.use' (DrawIsExtreme_spec code hc) ?_
  rintro v h ⟨rfl, x, y, z, m, hx, hy, hz, hm, rfl⟩
  conv => whnf
  exact ⟨rfl, x, y, z, m, hx, hy, hz, hm, rfl⟩

def jpT : AVal → List (Nat × ARow) → Prop := fun v h => h = [] ∧ ∃ (x y z : Int) (m : List (List Int)) (k t : Int), InR x ∧ InR y ∧ InR z ∧ SmB m ∧ InR k ∧ InR t ∧ v = .tu [.ag [.c (.int .i64 x), .c (.int .i64 y), .c (.int .i64 z), .t (.rows m)], .c (.int .i64 k), .c (.int .i64 t)]
def jpW : AVal → List (Nat × ARow) → Prop := fun v h => jpT v h ∨ ∃ (x y z : Int) (m : List (List Int)) (k t : Int), InR x ∧ InR y ∧ InR z ∧ SmB m ∧ InR k ∧ InR t ∧
  v = .tu [.ag [.c (.int .i64 x), .c (.int .i64 y), .c (.int .i64 z), .own 0], .c (.int .i64 k), .c (.int .i64 t)] ∧ h = [(0, .rows 25 3 true m)]
theorem jpW_tell {f : FuncId} {args : List AVal} (h : FSpec Try.prog f args jpW) : FSpec Try.prog f args jpT := by
  refine FSpec.view h (fun v hr hp => ?_)
  rcases hp with ⟨rfl, x, y, z, m, k, t, hx, hy, hz, hm, hk, ht, rfl⟩ | ⟨x, y, z, m, k, t, hx, hy, hz, hm, hk, ht, rfl, rfl⟩
  · exact ⟨[], .tu [.ag [.c (.int .i64 x), .c (.int .i64 y), .c (.int .i64 z), .t (.rows m)], .c (.int .i64 k), .c (.int .i64 t)], [], rfl, trivial, ⟨⟨rfl, rfl, rfl, rfl, trivial⟩, rfl, rfl, trivial⟩, rfl, x, y, z, m, k, t, hx, hy, hz, hm, hk, ht, rfl⟩
  · exact ⟨[], .tu [.ag [.c (.int .i64 x), .c (.int .i64 y), .c (.int .i64 z), .t (.rows m)], .c (.int .i64 k), .c (.int .i64 t)], [], rfl, trivial, ⟨⟨rfl, rfl, rfl, ⟨rfl, rfl⟩, trivial⟩, rfl, rfl, trivial⟩, rfl, x, y, z, m, k, t, hx, hy, hz, hm, hk, ht, rfl⟩

theorem l8_in : rowIn ((((((((((List.replicate 8 (0 : Int)).set 0 1).set 1 2).set 2 3).set 3 0).set 4 10).set 5 500).set 6 1001).set 7 (-1))) (-1) 1001 = true := by kernel_rfl
theorem rs_R4 (m : List (List Int)) (k : Nat) (N : Int) : R4 (rsM m k N) := box_R4 fun _ _ _ _ => W_inr _

theorem DrawJoinPart_spec (code : List Int) (hc : OkB code) : FSpec Try.prog 70 [.t (.ints .u8 code)] jpT := by
  refine jpW_tell ?_
  refine fspec tyOk mx Try.func70 rfl (by kernel_rfl) rfl ?_
  conv => whnf
  refine ACallS.tmut 1 (quietTwo_spec code hc 0 0 (by omega)) ?_ rfl (by (repeat' (first | exact trivial | exact rfl | refine And.intro ?_ ?_)) <;> (try first | omega | (simp; done))) (by (repeat' (first | exact trivial | exact rfl | refine And.intro ?_ ?_)) <;> (try first | omega | (simp; done)))
  rintro v r ⟨x, y, z, m, a1, s1, rfl, hx, hy, hz, hm, e1, g1, rfl⟩
  conv => whnf
  refine ACall.use (RestOf_s x y z m hx hy hz hm.ok.1 hm.ok.2) ?_
  conv => whnf
  refine ⟨fun hok => ?_, fun hok => ?_⟩
  · have hok' := hok
    rw [rsOk, Bool.and_eq_true] at hok'
    obtain ⟨rfl, rfl, z1, z2, h3, h4⟩ := qpB_spec hok'.1
    conv => whnf
    refine ACallS.tmut 1 (one_spec code hc a1 s1 (by omega) 2 (by omega) (by omega)) ?_ rfl (by (repeat' (first | exact trivial | exact rfl | refine And.intro ?_ ?_)) <;> (try first | omega | (simp; done))) (by (repeat' (first | exact trivial | exact rfl | refine And.intro ?_ ?_)) <;> (try first | omega | (simp; done)))
    rintro v r ⟨b, a2, s2, rfl, e2, g2, rfl⟩
    conv => whnf
    refine ⟨fun hb => ?_, fun hb => ?_⟩
    · conv => whnf
      refine ACall.use (l6Part_spec z m h3 (fun r hr => (h4 r hr).1)) ?_
      conv => whnf
      have hbl := esBest_lt m
      exact .inr ⟨2, 2, rsW z (rsN z m), rsM m (esBest m) (rsN z m), (esBest m : Int), partN z ((esL m).getD (esBest m) 0), inr2, inr2, W_inr _, (rs_R4 m _ _).sm (boxRows_len _ 2 2) (by omega), by unfold InR; omega, W_inr _, by rw [if_pos hok, if_pos hok], by rw [rsR, if_pos hok]⟩
    · conv => whnf
      refine ADraw.planX [2, 5] tyOk mx (.q 1 (.q 3 (.alt 0 (.alti 2 (.last 4 (.inl 5 (.last 6 (.q 7 (.q 8 (.done)))))) (.last 4 (.inl 2 (.inl 5 (.last 6 (.q 7 (.q 8 (.done)))))))) (.alti 2 (.alt 0 (.last 4 (.inl 5 (.last 6 (.q 7 (.q 8 (.done)))))) (.last 4 (.alt 0 (.inl 5 (.last 6 (.q 7 (.q 8 (.done))))) (.inl 5 (.last 0 (.last 6 (.q 7 (.q 8 (.done))))))))) (.last 4 (.alt 0 (.inl 2 (.inl 5 (.last 6 (.q 7 (.q 8 (.done)))))) (.inl 2 (.alt 0 (.inl 5 (.last 6 (.q 7 (.q 8 (.done))))) (.inl 5 (.last 0 (.last 6 (.q 7 (.q 8 (.done))))))))))))) : Plan) (by kernel_rfl) ?_
      conv => whnf
      repeat' (first
        | (refine .inl ⟨rfl, 2, 2, z, m, k, _, hx, hy, hz, hm, by unfold InR; omega, ⟨Int.le_trans (by omega) lt, Int.le_trans ut (by omega)⟩, rfl⟩; done)
        | (refine ACallS.tmut 1 (kind_spec code hc _ _ (by omega)) ?_ rfl (by (repeat' (first | exact trivial | exact rfl | refine And.intro ?_ ?_)) <;> (try first | omega | (simp; done))) (by (repeat' (first | exact trivial | exact rfl | refine And.intro ?_ ?_)) <;> (try first | omega | (simp; done))); rintro v r ⟨k, a4, s4, rfl, lk, uk, e4, g4, rfl⟩; (conv => whnf))
        | (refine ACallS.inline tyOk mx Try.func116 rfl (by kernel_rfl) rfl ?_; (conv => whnf); refine ACallS.tmut 1 (pick_spec code hc _ _ (by omega) 8 (by omega) (by omega)) ?_ rfl (by (repeat' (first | exact trivial | exact rfl | refine And.intro ?_ ?_)) <;> (try first | omega | (simp; done))) (by (repeat' (first | exact trivial | exact rfl | refine And.intro ?_ ?_)) <;> (try first | omega | (simp; done))); rintro v r ⟨y4, a5, s5, rfl, y0, y1, e5, g5, rfl⟩; (conv => whnf); obtain ⟨i4, rfl, hi4⟩ := nat_of (len := 8) y0 (by omega); refine ⟨i4, rfl, hi4, ?_⟩; (conv => whnf); obtain ⟨lt, ut⟩ := among_in l8_in (i := i4) hi4; refine ⟨rfl, ?_⟩; (conv => whnf))
        | (refine And.intro ?_ ?_ <;> (conv => whnf)))
  · (repeat (conv => whnf); (first | refine ⟨fun h => absurd h (by decide), fun _ => ?_⟩ | refine ⟨fun _ => ?_, fun h => absurd h (by decide)⟩)); conv => whnf
    refine ADraw.planX [2, 5] tyOk mx (.q 1 (.q 3 (.alt 0 (.alti 2 (.last 4 (.inl 5 (.last 6 (.q 7 (.q 8 (.done)))))) (.last 4 (.inl 2 (.inl 5 (.last 6 (.q 7 (.q 8 (.done)))))))) (.alti 2 (.alt 0 (.last 4 (.inl 5 (.last 6 (.q 7 (.q 8 (.done)))))) (.last 4 (.alt 0 (.inl 5 (.last 6 (.q 7 (.q 8 (.done))))) (.inl 5 (.last 0 (.last 6 (.q 7 (.q 8 (.done))))))))) (.last 4 (.alt 0 (.inl 2 (.inl 5 (.last 6 (.q 7 (.q 8 (.done)))))) (.inl 2 (.alt 0 (.inl 5 (.last 6 (.q 7 (.q 8 (.done))))) (.inl 5 (.last 0 (.last 6 (.q 7 (.q 8 (.done))))))))))))) : Plan) (by kernel_rfl) ?_
    conv => whnf
    repeat' (first
      | (refine .inl ⟨rfl, x, y, z, m, k, _, hx, hy, hz, hm, by unfold InR; omega, ⟨Int.le_trans (by omega) lt, Int.le_trans ut (by omega)⟩, rfl⟩; done)
      | (refine ACallS.tmut 1 (kind_spec code hc _ _ (by omega)) ?_ rfl (by (repeat' (first | exact trivial | exact rfl | refine And.intro ?_ ?_)) <;> (try first | omega | (simp; done))) (by (repeat' (first | exact trivial | exact rfl | refine And.intro ?_ ?_)) <;> (try first | omega | (simp; done))); rintro v r ⟨k, a4, s4, rfl, lk, uk, e4, g4, rfl⟩; (conv => whnf))
      | (refine ACallS.inline tyOk mx Try.func116 rfl (by kernel_rfl) rfl ?_; (conv => whnf); refine ACallS.tmut 1 (pick_spec code hc _ _ (by omega) 8 (by omega) (by omega)) ?_ rfl (by (repeat' (first | exact trivial | exact rfl | refine And.intro ?_ ?_)) <;> (try first | omega | (simp; done))) (by (repeat' (first | exact trivial | exact rfl | refine And.intro ?_ ?_)) <;> (try first | omega | (simp; done))); rintro v r ⟨y4, a5, s5, rfl, y0, y1, e5, g5, rfl⟩; (conv => whnf); obtain ⟨i4, rfl, hi4⟩ := nat_of (len := 8) y0 (by omega); refine ⟨i4, rfl, hi4, ?_⟩; (conv => whnf); obtain ⟨lt, ut⟩ := among_in l8_in (i := i4) hi4; refine ⟨rfl, ?_⟩; (conv => whnf))
      | (refine And.intro ?_ ?_ <;> (conv => whnf)))
end Go.Proofs.Ytkomndcehdneaaa
/- IsQuiet, AgreementsOf: the program. -/
namespace Go.Proofs.Ytkomndcehdneaaa
open Go.Aw
set_option maxRecDepth 100000
set_option maxHeartbeats 4000000

theorem IsQuiet_i (x y z : Int) (m : List (List Int)) (km : SzM m) : FSpec Try.prog 42 [.ag [.c (.int .i64 (x)), .c (.int .i64 (y)), .c (.int .i64 (z)), .t (.rows m)]] (ex (.tu [.c (.bool (quietB x y z m)), .c (.bool (goodB x y z m))]) []) := by
  refine fspec tyOk mx Try.func42 rfl (by kernel_rfl) rfl ?_
  conv => whnf
  refine ACall.use (IsBox_spec x y z m km) ?_
  conv => whnf
  refine ⟨fun h => ?_, fun h => ?_⟩
  · have h : goodB x y z m = false := by simpa using h
    conv => whnf
    exact ⟨by rw [quietB, h]; rfl, rfl⟩
  · have h : goodB x y z m = true := by simpa using h
    conv => whnf
    refine ACall.use (isQuiet_spec x y z m km) ?_
    conv => whnf
    exact ⟨by rw [h], rfl⟩
def agOf (x y z : Int) (m : List (List Int)) : List Int := if goodB x y z m then m.map agr else []
theorem AgreementsOf_i (x y z : Int) (m : List (List Int)) (km : SzM m) : FSpec Try.prog 114 [.ag [.c (.int .i64 (x)), .c (.int .i64 (y)), .c (.int .i64 (z)), .t (.rows m)]] (ex (.tu [.own 0, .c (.bool (goodB x y z m))]) [(0, .ints 3 .i64 (agOf x y z m))]) := by
  refine view_ints ?_
  refine fspec tyOk mx Try.func114 rfl (by kernel_rfl) rfl ?_
  conv => whnf
  refine ACall.use (IsBox_spec x y z m km) ?_
  conv => whnf
  refine ⟨fun h => ?_, fun h => ?_⟩
  · have h : goodB x y z m = false := by simpa using h
    conv => whnf
    exact .inl ⟨h, rfl, rfl⟩
  · have h : goodB x y z m = true := by simpa using h
    obtain ⟨_, _, _, _, _, _, _, _, _, _, hml, hab, hr⟩ := goodB_spec h
    conv => whnf
    have hlen : m.length ≤ 9 := by omega
    refine aloopI tyOk mx (fun k : Nat => (⟨25, [(4, .own 1), (12, .t (.rows m)), (13, .c (.int .i64 (m.length))), (14, .c (.int .i64 (k)))], [(0, .cells 53 [.c (.int .i64 (x)), .c (.int .i64 (y)), .c (.int .i64 (z)), .t (.rows m)]), (1, .ints 3 .i64 ((m.take k).map agr))], 2⟩ : St)) (fun k => k ≤ m.length) (fun k => m.length - k) 0 (Nat.zero_le _) none (by refine ⟨rfl, rfl, ?_, ?_⟩ <;> ((repeat' (first | exact trivial | exact rfl | refine And.intro ?_ ?_)) <;> (try ((conv => whnf); first | refine vint ?_ | refine vboo ?_ | refine rint ?_ | refine rrow ?_ | skip)) <;> (try first | omega | (simp; done) | ((repeat rw [flts_closed _ (by assumption)]); exact vws_closed _ (by assumption))))) (fun k hk => ?_)
    refine ⟨fun h2 => ?_, fun h2 => ?_⟩
    · have h2 : k < m.length := by have := ltT h2; omega
      have h4 := (hr _ (getD_mem (d := []) h2)).1
      conv => whnf
      refine ⟨k, rfl, h2, ?_⟩
      conv => whnf
      refine ACall.use (agreement_spec _ h4) ?_
      conv => whnf
      refine ⟨by simp [room]; omega, ?_⟩
      conv => whnf
      rw [nat_wrap (by omega)]
      have e : (m.take k).map agr ++ [agr (m.getD k [])] = (m.take (k + 1)).map agr := by
        rw [List.take_add_one, List.getElem?_eq_getElem h2, List.map_append, List.getD_eq_getElem?_getD, List.getElem?_eq_getElem h2]; rfl
      refine ⟨k + 1, none, ?_, by omega, by omega⟩
      (refine ⟨rfl, rfl, ?_, ?_⟩ <;> ((repeat' (first | exact trivial | exact rfl | refine And.intro ?_ ?_)) <;> (try ((conv => whnf); first | refine vint ?_ | refine vboo ?_ | refine rint ?_ | refine rrow ?_ | skip)) <;> (try first | omega | (simp; done) | ((repeat rw [flts_closed _ (by assumption)]); exact vws_closed _ (by assumption)))))
      exact e
    · have h2 : ¬ k < m.length := by have := ltF h2; omega
      conv => whnf
      refine .inr ⟨h, rfl, ?_⟩
      rw [List.take_of_length_le (by omega)]
end Go.Proofs.Ytkomndcehdneaaa
/- What the laws compare with. -/
namespace Go.Proofs.Ytkomndcehdneaaa
open Go.Aw
set_option maxRecDepth 100000

theorem vBig_spec (code : List Int) : FSpec Try.prog 9 [.t (.ints .u8 code)] (ex (.c (.bool (decide ((code.length : Int) > 65536)))) []) := by
  refine fspec tyOk mx Try.func9 rfl (by kernel_rfl) rfl ?_
  conv => whnf
  exact ⟨rfl, rfl⟩
theorem rBig_spec (code : List Int) : FSpec Try.prog 46 [.t (.ints .u8 code)] (ex (.c (.bool (decide ((code.length : Int) > 65536)))) []) := by
  refine fspec tyOk mx Try.func46 rfl (by kernel_rfl) rfl ?_
  conv => whnf
  exact ⟨rfl, rfl⟩
theorem vInts_spec (a b : List Int) (h : a.length ≤ 9223372036854775807) :
    FSpec Try.prog 24 [.t (.ints .i64 a), .t (.ints .i64 b)] (ex (.c (.bool (decide (a = b)))) []) := by
  refine fspec tyOk mx Try.func24 rfl (by kernel_rfl) rfl ?_
  refine ⟨fun hl => ?_, fun hl => ?_⟩
  · conv => whnf
    refine ⟨?_, rfl⟩
    rw [decide_eq_false]
    rintro rfl
    simp at hl
  · conv => whnf
    simp only [bne_eq_false_iff_eq, Int.natCast_inj] at hl
    refine aloopI tyOk mx (fun k : Nat => (⟨26, [(0, .t (.ints .i64 a)), (1, .t (.ints .i64 b)), (5, .c (.int .i64 (k : Int)))], [], 0⟩ : St)) (fun k => k ≤ a.length ∧ ∀ j, j < k → a[j]? = b[j]?) (fun k => a.length - k)
      0 ⟨by omega, fun j hj => by omega⟩ none (by refine ⟨rfl, rfl, ?_, ?_⟩ <;> ((repeat' (first | exact trivial | exact rfl | refine And.intro ?_ ?_)) <;> (try ((conv => whnf); first | refine vint ?_ | refine vboo ?_ | refine rint ?_ | refine rrow ?_ | skip)) <;> (try first | omega | (simp; done) | ((repeat rw [flts_closed _ (by assumption)]); exact vws_closed _ (by assumption))))) (fun k hI => ?_)
    obtain ⟨hk, hp⟩ := hI
    refine ⟨fun h => ?_, fun h => ?_⟩
    · conv => whnf
      have hk1 : k < a.length := by simpa using h
      refine ADraw.std tyOk mx ⟨by kernel_rfl, ⟨k, rfl, hk1, k, rfl, by omega, fun h => ?_, fun h => ?_⟩⟩
      · conv => whnf
        refine ⟨?_, rfl⟩
        rw [decide_eq_false]
        rintro rfl
        simp at h
      · conv => whnf
        simp only [bne_eq_false_iff_eq, List.getD_eq_getElem?_getD] at h
        rw [w64 (by omega) (by omega)]
        refine ⟨k + 1, none, (by refine ⟨rfl, rfl, ?_, ?_⟩ <;> ((repeat' (first | exact trivial | exact rfl | refine And.intro ?_ ?_)) <;> (try ((conv => whnf); first | refine vint ?_ | refine vboo ?_ | refine rint ?_ | refine rrow ?_ | skip)) <;> (try first | omega | (simp; done) | ((repeat rw [flts_closed _ (by assumption)]); exact vws_closed _ (by assumption))))), ⟨by omega, fun j hj => ?_⟩, by omega⟩
        by_cases e : j = k
        · subst e
          rw [List.getElem?_eq_getElem hk1, List.getElem?_eq_getElem (by omega)] at h ⊢
          simpa using h
        · exact hp j (by omega)
    · conv => whnf
      refine ⟨?_, rfl⟩
      rw [decide_eq_true]
      have hk1 : ¬ k < a.length := by simpa using h
      refine List.ext_getElem? (fun i => ?_)
      by_cases hi : i < k
      · exact hp i hi
      · rw [List.getElem?_eq_none (by omega), List.getElem?_eq_none (by omega)]
theorem vTable_spec (a b : List (List Int)) (h : a.length ≤ 9223372036854775807) (hr : ∀ r, r ∈ a → r.length ≤ 9223372036854775807) :
    FSpec Try.prog 40 [.t (.rows a), .t (.rows b)] (ex (.c (.bool (decide (a = b)))) []) := by
  refine fspec tyOk mx Try.func40 rfl (by kernel_rfl) rfl ?_
  refine ⟨fun hl => ?_, fun hl => ?_⟩
  · conv => whnf
    refine ⟨?_, rfl⟩
    rw [decide_eq_false]
    rintro rfl
    simp at hl
  · conv => whnf
    simp only [bne_eq_false_iff_eq, Int.natCast_inj] at hl
    refine aloopI tyOk mx (fun k : Nat => (⟨27, [(0, .t (.rows a)), (1, .t (.rows b)), (5, .c (.int .i64 (k : Int)))], [], 0⟩ : St)) (fun k => k ≤ a.length ∧ ∀ j, j < k → a[j]? = b[j]?) (fun k => a.length - k)
      0 ⟨by omega, fun j hj => by omega⟩ none (by refine ⟨rfl, rfl, ?_, ?_⟩ <;> ((repeat' (first | exact trivial | exact rfl | refine And.intro ?_ ?_)) <;> (try ((conv => whnf); first | refine vint ?_ | refine vboo ?_ | refine rint ?_ | refine rrow ?_ | skip)) <;> (try first | omega | (simp; done) | ((repeat rw [flts_closed _ (by assumption)]); exact vws_closed _ (by assumption))))) (fun k hI => ?_)
    obtain ⟨hk, hp⟩ := hI
    refine ⟨fun h => ?_, fun h => ?_⟩
    · conv => whnf
      have hk1 : k < a.length := by simpa using h
      have hkr : (a.getD k []).length ≤ 9223372036854775807 := by
        rw [List.getD_eq_getElem?_getD, List.getElem?_eq_getElem hk1]; exact hr _ (List.getElem_mem hk1)
      refine ADraw.std tyOk mx ⟨by kernel_rfl, k, rfl, hk1, k, rfl, by omega, ?_⟩
      conv => whnf
      refine QCall.use (vInts_spec _ _ hkr) ?_
      conv => whnf
      refine ⟨fun h => ?_, fun h => ?_⟩
      · conv => whnf
        refine ⟨?_, rfl⟩
        rw [decide_eq_false]
        rintro rfl
        simp at h
      · conv => whnf
        simp only [Bool.not_eq_false', decide_eq_true_eq, List.getD_eq_getElem?_getD] at h
        rw [w64 (by omega) (by omega)]
        refine ⟨k + 1, none, (by refine ⟨rfl, rfl, ?_, ?_⟩ <;> ((repeat' (first | exact trivial | exact rfl | refine And.intro ?_ ?_)) <;> (try ((conv => whnf); first | refine vint ?_ | refine vboo ?_ | refine rint ?_ | refine rrow ?_ | skip)) <;> (try first | omega | (simp; done) | ((repeat rw [flts_closed _ (by assumption)]); exact vws_closed _ (by assumption))))), ⟨by omega, fun j hj => ?_⟩, by omega⟩
        by_cases e : j = k
        · subst e
          rw [List.getElem?_eq_getElem hk1, List.getElem?_eq_getElem (by omega)] at h ⊢
          simpa using h
        · exact hp j (by omega)
    · conv => whnf
      refine ⟨?_, rfl⟩
      rw [decide_eq_true]
      have hk1 : ¬ k < a.length := by simpa using h
      refine List.ext_getElem? (fun i => ?_)
      by_cases hi : i < k
      · exact hp i hi
      · rw [List.getElem?_eq_none (by omega), List.getElem?_eq_none (by omega)]
end Go.Proofs.Ytkomndcehdneaaa
/- What the laws compare with (the other half's helpers). -/
namespace Go.Proofs.Ytkomndcehdneaaa
open Go.Aw
set_option maxRecDepth 100000

theorem rInts_spec (a b : List Int) (h : a.length ≤ 9223372036854775807) :
    FSpec Try.prog 75 [.t (.ints .i64 a), .t (.ints .i64 b)] (ex (.c (.bool (decide (a = b)))) []) := by
  refine fspec tyOk mx Try.func75 rfl (by kernel_rfl) rfl ?_
  refine ⟨fun hl => ?_, fun hl => ?_⟩
  · conv => whnf
    refine ⟨?_, rfl⟩
    rw [decide_eq_false]
    rintro rfl
    simp at hl
  · conv => whnf
    simp only [bne_eq_false_iff_eq, Int.natCast_inj] at hl
    refine aloopI tyOk mx (fun k : Nat => (⟨26, [(0, .t (.ints .i64 a)), (1, .t (.ints .i64 b)), (5, .c (.int .i64 (k : Int)))], [], 0⟩ : St)) (fun k => k ≤ a.length ∧ ∀ j, j < k → a[j]? = b[j]?) (fun k => a.length - k)
      0 ⟨by omega, fun j hj => by omega⟩ none (by refine ⟨rfl, rfl, ?_, ?_⟩ <;> ((repeat' (first | exact trivial | exact rfl | refine And.intro ?_ ?_)) <;> (try ((conv => whnf); first | refine vint ?_ | refine vboo ?_ | refine rint ?_ | refine rrow ?_ | skip)) <;> (try first | omega | (simp; done) | ((repeat rw [flts_closed _ (by assumption)]); exact vws_closed _ (by assumption))))) (fun k hI => ?_)
    obtain ⟨hk, hp⟩ := hI
    refine ⟨fun h => ?_, fun h => ?_⟩
    · conv => whnf
      have hk1 : k < a.length := by simpa using h
      refine ADraw.std tyOk mx ⟨by kernel_rfl, ⟨k, rfl, hk1, k, rfl, by omega, fun h => ?_, fun h => ?_⟩⟩
      · conv => whnf
        refine ⟨?_, rfl⟩
        rw [decide_eq_false]
        rintro rfl
        simp at h
      · conv => whnf
        simp only [bne_eq_false_iff_eq, List.getD_eq_getElem?_getD] at h
        rw [w64 (by omega) (by omega)]
        refine ⟨k + 1, none, (by refine ⟨rfl, rfl, ?_, ?_⟩ <;> ((repeat' (first | exact trivial | exact rfl | refine And.intro ?_ ?_)) <;> (try ((conv => whnf); first | refine vint ?_ | refine vboo ?_ | refine rint ?_ | refine rrow ?_ | skip)) <;> (try first | omega | (simp; done) | ((repeat rw [flts_closed _ (by assumption)]); exact vws_closed _ (by assumption))))), ⟨by omega, fun j hj => ?_⟩, by omega⟩
        by_cases e : j = k
        · subst e
          rw [List.getElem?_eq_getElem hk1, List.getElem?_eq_getElem (by omega)] at h ⊢
          simpa using h
        · exact hp j (by omega)
    · conv => whnf
      refine ⟨?_, rfl⟩
      rw [decide_eq_true]
      have hk1 : ¬ k < a.length := by simpa using h
      refine List.ext_getElem? (fun i => ?_)
      by_cases hi : i < k
      · exact hp i hi
      · rw [List.getElem?_eq_none (by omega), List.getElem?_eq_none (by omega)]
theorem rTable_spec (a b : List (List Int)) (h : a.length ≤ 9223372036854775807) (hr : ∀ r, r ∈ a → r.length ≤ 9223372036854775807) :
    FSpec Try.prog 81 [.t (.rows a), .t (.rows b)] (ex (.c (.bool (decide (a = b)))) []) := by
  refine fspec tyOk mx Try.func81 rfl (by kernel_rfl) rfl ?_
  refine ⟨fun hl => ?_, fun hl => ?_⟩
  · conv => whnf
    refine ⟨?_, rfl⟩
    rw [decide_eq_false]
    rintro rfl
    simp at hl
  · conv => whnf
    simp only [bne_eq_false_iff_eq, Int.natCast_inj] at hl
    refine aloopI tyOk mx (fun k : Nat => (⟨27, [(0, .t (.rows a)), (1, .t (.rows b)), (5, .c (.int .i64 (k : Int)))], [], 0⟩ : St)) (fun k => k ≤ a.length ∧ ∀ j, j < k → a[j]? = b[j]?) (fun k => a.length - k)
      0 ⟨by omega, fun j hj => by omega⟩ none (by refine ⟨rfl, rfl, ?_, ?_⟩ <;> ((repeat' (first | exact trivial | exact rfl | refine And.intro ?_ ?_)) <;> (try ((conv => whnf); first | refine vint ?_ | refine vboo ?_ | refine rint ?_ | refine rrow ?_ | skip)) <;> (try first | omega | (simp; done) | ((repeat rw [flts_closed _ (by assumption)]); exact vws_closed _ (by assumption))))) (fun k hI => ?_)
    obtain ⟨hk, hp⟩ := hI
    refine ⟨fun h => ?_, fun h => ?_⟩
    · conv => whnf
      have hk1 : k < a.length := by simpa using h
      have hkr : (a.getD k []).length ≤ 9223372036854775807 := by
        rw [List.getD_eq_getElem?_getD, List.getElem?_eq_getElem hk1]; exact hr _ (List.getElem_mem hk1)
      refine ADraw.std tyOk mx ⟨by kernel_rfl, k, rfl, hk1, k, rfl, by omega, ?_⟩
      conv => whnf
      refine QCall.use (rInts_spec _ _ hkr) ?_
      conv => whnf
      refine ⟨fun h => ?_, fun h => ?_⟩
      · conv => whnf
        refine ⟨?_, rfl⟩
        rw [decide_eq_false]
        rintro rfl
        simp at h
      · conv => whnf
        simp only [Bool.not_eq_false', decide_eq_true_eq, List.getD_eq_getElem?_getD] at h
        rw [w64 (by omega) (by omega)]
        refine ⟨k + 1, none, (by refine ⟨rfl, rfl, ?_, ?_⟩ <;> ((repeat' (first | exact trivial | exact rfl | refine And.intro ?_ ?_)) <;> (try ((conv => whnf); first | refine vint ?_ | refine vboo ?_ | refine rint ?_ | refine rrow ?_ | skip)) <;> (try first | omega | (simp; done) | ((repeat rw [flts_closed _ (by assumption)]); exact vws_closed _ (by assumption))))), ⟨by omega, fun j hj => ?_⟩, by omega⟩
        by_cases e : j = k
        · subst e
          rw [List.getElem?_eq_getElem hk1, List.getElem?_eq_getElem (by omega)] at h ⊢
          simpa using h
        · exact hp j (by omega)
    · conv => whnf
      refine ⟨?_, rfl⟩
      rw [decide_eq_true]
      have hk1 : ¬ k < a.length := by simpa using h
      refine List.ext_getElem? (fun i => ?_)
      by_cases hi : i < k
      · exact hp i hi
      · rw [List.getElem?_eq_none (by omega), List.getElem?_eq_none (by omega)]
theorem rBox_spec (x y z : Int) (m m' : List (List Int)) (hm : m.length ≤ 9223372036854775807) (hr : ∀ r, r ∈ m → r.length ≤ 9223372036854775807) :
    FSpec Try.prog 50 [.ag [.c (.int .i64 (x)), .c (.int .i64 (y)), .c (.int .i64 (z)), .t (.rows m)], .ag [.c (.int .i64 (x)), .c (.int .i64 (y)), .c (.int .i64 (z)), .t (.rows m')]] (ex (.c (.bool (decide (m = m')))) []) := by
  refine fspec tyOk mx Try.func50 rfl (by kernel_rfl) rfl ?_
  conv => whnf
  refine ⟨fun _ => ?_, fun h => absurd h (by simp)⟩
  conv => whnf
  refine ⟨fun _ => ?_, fun h => absurd h (by simp)⟩
  conv => whnf
  refine ⟨fun _ => ?_, fun h => absurd h (by simp)⟩
  conv => whnf
  refine ACall.use (rTable_spec m m' hm hr) ?_
  conv => whnf
  exact ⟨rfl, rfl⟩
theorem vBox_spec (x y z : Int) (m m' : List (List Int)) (hm : m.length ≤ 9223372036854775807) (hr : ∀ r, r ∈ m → r.length ≤ 9223372036854775807) :
    FSpec Try.prog 41 [.ag [.c (.int .i64 (x)), .c (.int .i64 (y)), .c (.int .i64 (z)), .t (.rows m)], .ag [.c (.int .i64 (x)), .c (.int .i64 (y)), .c (.int .i64 (z)), .t (.rows m')]] (ex (.c (.bool (decide (m = m')))) []) := by
  refine fspec tyOk mx Try.func41 rfl (by kernel_rfl) rfl ?_
  conv => whnf
  refine ⟨fun _ => ?_, fun h => absurd h (by simp)⟩
  conv => whnf
  refine ⟨fun _ => ?_, fun h => absurd h (by simp)⟩
  conv => whnf
  refine ⟨fun _ => ?_, fun h => absurd h (by simp)⟩
  conv => whnf
  refine ACall.use (vTable_spec m m' hm hr) ?_
  conv => whnf
  exact ⟨rfl, rfl⟩
theorem rGame_spec (x y : Int) (s s' : List Int) (m m' : List (List Int)) (hs : s.length ≤ 9223372036854775807) (hm : m.length ≤ 9223372036854775807) (hr : ∀ r, r ∈ m → r.length ≤ 9223372036854775807) :
    FSpec Try.prog 90 [.ag [.c (.int .i64 (x)), .c (.int .i64 (y)), .t (.ints .i64 s), .t (.rows m)], .ag [.c (.int .i64 (x)), .c (.int .i64 (y)), .t (.ints .i64 s'), .t (.rows m')]] (ex (.c (.bool (decide (s = s') && decide (m = m')))) []) := by
  refine fspec tyOk mx Try.func90 rfl (by kernel_rfl) rfl ?_
  conv => whnf
  refine ⟨fun _ => ?_, fun h => absurd h (by simp)⟩
  conv => whnf
  refine ⟨fun _ => ?_, fun h => absurd h (by simp)⟩
  conv => whnf
  refine ACall.use (rInts_spec s s' hs) ?_
  conv => whnf
  refine ⟨fun h => ?_, fun h => ?_⟩
  · conv => whnf
    refine ACall.use (rTable_spec m m' hm hr) ?_
    conv => whnf
    exact ⟨by rw [h, Bool.true_and], rfl⟩
  · conv => whnf
    exact ⟨by rw [h, Bool.false_and], rfl⟩
end Go.Proofs.Ytkomndcehdneaaa
