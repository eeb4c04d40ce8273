/- Draws of what the laws of extreme boxes ask. -/
import Derived.Test.YtkomndcehdneaaaM11
import Derived.Test.YtkomndcehdneaaaM9
import Derived.Test.YtkomndcehdneaaaM4
import Derived.Test.YtkomndcehdneaaaM2
namespace Go.Proofs.Ytkomndcehdneaaa
open Go.Aw
set_option maxRecDepth 100000
set_option maxHeartbeats 4000000

theorem div23 {x : Int} (h0 : 0 ≤ x) (h1 : x < max 24 1) : ∃ q : Int, IntKind.i64.wrap (Int.tdiv x 23) = q ∧ 0 ≤ q ∧ q ≤ 1 := by
  have : x.tdiv 23 = x / 23 := Int.tdiv_eq_ediv_of_nonneg h0
  rw [this]
  exact ⟨x / 23, w64 (by omega) (by omega), by omega, by omega⟩
theorem kind_spec (code : List Int) (hc : OkB code) (a : Nat) (s : Int) (ha : a ≤ 800000000) : TSpec Try.prog 189 (cur code a s) [.ptr 0 0] (drawn code a 4 (-1) 9) := by
  refine tspec tyOk mx Try.func189 rfl (by kernel_rfl) rfl rfl ?_
  conv => whnf
  refine ACallS.tmut 0 (pick_spec code hc a s (by omega) 9 (by omega) (by omega)) ?_ rfl (by (repeat' (first | exact trivial | exact rfl | refine And.intro ?_ ?_)) <;> (try first | omega | (simp; done))) (by (repeat' (first | exact trivial | exact rfl | refine And.intro ?_ ?_)) <;> (try first | omega | (simp; done)))
  rintro v r ⟨k, a1, s1, rfl, l_k, u_k, e_a1, g_a1, rfl⟩
  conv => whnf
  refine ACallS.tmut 0 (pick_spec code hc a1 s1 (by omega) 24 (by omega) (by omega)) ?_ rfl (by (repeat' (first | exact trivial | exact rfl | refine And.intro ?_ ?_)) <;> (try first | omega | (simp; done))) (by (repeat' (first | exact trivial | exact rfl | refine And.intro ?_ ?_)) <;> (try first | omega | (simp; done)))
  rintro v r ⟨t, a2, s2, rfl, l_t, u_t, e_a2, g_a2, rfl⟩
  conv => whnf
  refine ⟨by decide, ?_⟩
  conv => whnf
  obtain ⟨q, eq, q0, q1⟩ := div23 l_t u_t
  rw [eq]
  exact ⟨_, a2, s2, rfl, by rw [w64 (by omega) (by omega)]; omega, by rw [w64 (by omega) (by omega)]; omega, by omega, by omega, rfl⟩
/-- a drawn number -/
def numP : AVal → List (Nat × ARow) → Prop := fun v h => h = [] ∧ ∃ k : Int, InR k ∧ v = .c (.int .i64 k)
theorem drawn_in {code : List Int} {a k : Nat} {lo hi : Int} {v : AVal} {r : ARow} (h : drawn code a k lo hi v r) (h1 : -9223372036854775808 ≤ lo) (h2 : hi ≤ 9223372036854775807) : ∃ (x : Int) (a' : Nat) (s' : Int), v = .c (.int .i64 x) ∧ InR x ∧ a ≤ a' ∧ a' ≤ a + k ∧ r = cur code a' s' := by
  obtain ⟨x, a', s', e, l, u, h3, h4, h5⟩ := h
  exact ⟨x, a', s', e, by unfold InR; omega, h3, h4, h5⟩

theorem DrawEqualSumBox_spec (code : List Int) (hc : OkB code) : FSpec Try.prog 98 [.t (.ints .u8 code)] numP := by
  refine fspec tyOk mx Try.func98 rfl (by kernel_rfl) rfl ?_
  conv => whnf
  refine ACallS.tmut 0 (kind_spec code hc 0 0 (by omega)) ?_ rfl (by (repeat' (first | exact trivial | exact rfl | refine And.intro ?_ ?_)) <;> (try first | omega | (simp; done))) (by (repeat' (first | exact trivial | exact rfl | refine And.intro ?_ ?_)) <;> (try first | omega | (simp; done)))
  rintro v r ⟨x, a1, s1, rfl, l, u, _, _, rfl⟩
  conv => whnf
  exact ⟨rfl, x, by unfold InR; omega, rfl⟩
theorem DrawExtremeBox_spec (code : List Int) (hc : OkB code) : FSpec Try.prog 95 [.t (.ints .u8 code)] numP := by
  refine fspec tyOk mx Try.func95 rfl (by kernel_rfl) rfl ?_
  conv => whnf
  refine ACallS.tmut 0 (pick_spec code hc 0 0 (by omega) 26 (by omega) (by omega)) ?_ rfl (by (repeat' (first | exact trivial | exact rfl | refine And.intro ?_ ?_)) <;> (try first | omega | (simp; done))) (by (repeat' (first | exact trivial | exact rfl | refine And.intro ?_ ?_)) <;> (try first | omega | (simp; done)))
  rintro v r ⟨x, a1, s1, rfl, l, u, _, _, rfl⟩
  conv => whnf
  exact ⟨rfl, _, W_inr _, rfl⟩

/-- a drawn box, read-only -/
def boxT : AVal → List (Nat × ARow) → Prop := fun v h => h = [] ∧ ∃ (x y z : Int) (m : List (List Int)), InR x ∧ InR y ∧ InR z ∧ SmB m ∧ v = .ag [.c (.int .i64 x), .c (.int .i64 y), .c (.int .i64 z), .t (.rows m)]
theorem SmB.ok {m : List (List Int)} (h : SmB m) : OkM m ∧ SzM m := by
  obtain ⟨h3, h4⟩ := h
  refine ⟨⟨by omega, fun r hr => ⟨by have := (h4 r hr).1; omega, (h4 r hr).2⟩⟩, ?_⟩
  have k1 := tot_le_mul (m := m) (n := 4) (fun r hr => (h4 r hr).1)
  have : m.length * 4 ≤ 17 * 4 := Nat.mul_le_mul_right 4 h3
  unfold SzM; omega

theorem DrawIsExtreme_spec (code : List Int) (hc : OkB code) : FSpec Try.prog 101 [.t (.ints .u8 code)] boxT := by
  refine fspec tyOk mx Try.func101 rfl (by kernel_rfl) rfl ?_
  conv => whnf
  refine ACallS.tmut 1 (quietTwo_spec code hc 0 0 (by omega)) ?_ rfl (by (repeat' (first | exact trivial | exact rfl | refine And.intro ?_ ?_)) <;> (try first | omega | (simp; done))) (by (repeat' (first | exact trivial | exact rfl | refine And.intro ?_ ?_)) <;> (try first | omega | (simp; done)))
  rintro v r ⟨x, y, z, m, a1, s1, rfl, hx, hy, hz, hm, _, _, rfl⟩
  conv => whnf
  exact ⟨rfl, x, y, z, m, hx, hy, hz, hm, rfl⟩
theorem DrawIsEvenBox_spec (code : List Int) (hc : OkB code) : FSpec Try.prog 111 [.t (.ints .u8 code)] boxT := by
  refine fspec tyOk mx Try.func111 rfl (by kernel_rfl) rfl ?_
  conv => whnf
  refine ACall.use' (DrawIsExtreme_spec code hc) ?_
  rintro v h ⟨rfl, x, y, z, m, hx, hy, hz, hm, rfl⟩
  conv => whnf
  exact ⟨rfl, x, y, z, m, hx, hy, hz, hm, rfl⟩

/-- a drawn box: the function's own, nothing, or read-only -/
def boxW : AVal → List (Nat × ARow) → Prop := fun v h =>
  ((∃ (x y z : Int) (m : List (List Int)) (a' : Nat) (_s' : Int), v = .ag [.c (.int .i64 x), .c (.int .i64 y), .c (.int .i64 z), .own 0] ∧ InR x ∧ InR y ∧ InR z ∧ SmB m ∧ 0 ≤ a' ∧ a' ≤ 3000 ∧ h = [(0, .rows 25 3 true m)]) ∨ boxT v h) ∨
  ∃ (a' : Nat) (_s' : Int), v = .ag [.c (.int .i64 0), .c (.int .i64 0), .c (.int .i64 0), .c (.slice none 0 0)] ∧ 0 ≤ a' ∧ a' ≤ 3000 ∧ h = []
theorem boxW_tell {f : FuncId} {args : List AVal} (h : FSpec Try.prog f args boxW) : FSpec Try.prog f args boxT := by
  have h1 : FSpec Try.prog f args (fun v h => (∃ (x y z : Int) (m : List (List Int)), InR x ∧ InR y ∧ InR z ∧ SmB m ∧ v = .ag [.c (.int .i64 x), .c (.int .i64 y), .c (.int .i64 z), .own 0] ∧ h = [(0, .rows 25 3 true m)]) ∨ boxT v h) := by
    refine FSpec.view h (fun v hr hp => ?_)
    rcases hp with (⟨x, y, z, m, a', s', rfl, hx, hy, hz, hm, _, _, rfl⟩ | ⟨rfl, x, y, z, m, hx, hy, hz, hm, rfl⟩) | ⟨a', s', rfl, _, _, rfl⟩
    · exact ⟨[(0, .row 0)], .ag [.c (.int .i64 x), .c (.int .i64 y), .c (.int .i64 z), .own 0], [(0, .rows 25 3 true m)], rfl, ⟨rfl, rfl, trivial⟩, ⟨rfl, rfl, rfl, ⟨rfl, rfl⟩, trivial⟩, .inl ⟨x, y, z, m, hx, hy, hz, hm, rfl, rfl⟩⟩
    · exact ⟨[], .ag [.c (.int .i64 x), .c (.int .i64 y), .c (.int .i64 z), .t (.rows m)], [], rfl, trivial, ⟨rfl, rfl, rfl, rfl, trivial⟩, .inr ⟨rfl, x, y, z, m, hx, hy, hz, hm, rfl⟩⟩
    · exact ⟨[(0, .nil)], .ag [.c (.int .i64 0), .c (.int .i64 0), .c (.int .i64 0), .own 0], [(0, .rows 25 3 true [])], rfl, ⟨rfl, trivial, trivial⟩, ⟨rfl, rfl, rfl, ⟨rfl, rfl, rfl⟩, trivial⟩, .inl ⟨0, 0, 0, [], inr0, inr0, inr0, SmB.nil, rfl, rfl⟩⟩
  refine FSpec.view h1 (fun v hr hp => ?_)
  rcases hp with ⟨x, y, z, m, hx, hy, hz, hm, rfl, rfl⟩ | ⟨rfl, x, y, z, m, hx, hy, hz, hm, rfl⟩
  · exact ⟨[], .ag [.c (.int .i64 x), .c (.int .i64 y), .c (.int .i64 z), .t (.rows m)], [], rfl, trivial, ⟨rfl, rfl, rfl, ⟨rfl, rfl⟩, trivial⟩, rfl, x, y, z, m, hx, hy, hz, hm, rfl⟩
  · exact ⟨[], .ag [.c (.int .i64 x), .c (.int .i64 y), .c (.int .i64 z), .t (.rows m)], [], rfl, trivial, ⟨rfl, rfl, rfl, rfl, trivial⟩, rfl, x, y, z, m, hx, hy, hz, hm, rfl⟩

theorem DrawEightSums_spec (code : List Int) (hc : OkB code) : FSpec Try.prog 104 [.t (.ints .u8 code)] boxT := by
  refine boxW_tell ?_
  refine fspec tyOk mx Try.func104 rfl (by kernel_rfl) rfl ?_
  conv => whnf
  refine ACallS.tmut 1 (one_spec code hc 0 0 (by omega) 3 (by omega) (by omega)) ?_ rfl (by (repeat' (first | exact trivial | exact rfl | refine And.intro ?_ ?_)) <;> (try first | omega | (simp; done))) (by (repeat' (first | exact trivial | exact rfl | refine And.intro ?_ ?_)) <;> (try first | omega | (simp; done)))
  rintro v r ⟨b, a1, s1, rfl, e_1, g_1, rfl⟩
  conv => whnf
  refine ⟨fun hb => ?_, fun hb => ?_⟩
  · conv => whnf
    refine ACallS.omut 1 (someBox_spec code hc a1 s1 (by omega) 2 2) ?_ rfl (by (repeat' (first | exact trivial | exact rfl | refine And.intro ?_ ?_)) <;> (try first | omega | (simp; done))) (by (repeat' (first | exact trivial | exact rfl | refine And.intro ?_ ?_)) <;> (try first | omega | (simp; done)))
    rintro v h r ⟨z, m, a3, s3, hz, hm, h4, rfl, rfl, e3, g3, rfl⟩
    have hm : m.length = 4 := hm
    conv => whnf
    refine ACallS.inline tyOk mx Try.func219 rfl (by kernel_rfl) rfl ?_
    conv => whnf
    refine ACallS.tmut 1 (pick_spec code hc a3 s3 (by omega) 50 (by omega) (by omega)) ?_ rfl (by (repeat' (first | exact trivial | exact rfl | refine And.intro ?_ ?_)) <;> (try first | omega | (simp; done))) (by (repeat' (first | exact trivial | exact rfl | refine And.intro ?_ ?_)) <;> (try first | omega | (simp; done)))
    rintro v r ⟨c, a4, s4, rfl, l_c, u_c, e_a4, g_a4, rfl⟩
    conv => whnf
    refine ⟨fun h0 => ?_, fun h0 => ?_⟩
    · conv => whnf
      refine ACallS.inline tyOk mx Try.func116 rfl (by kernel_rfl) rfl ?_
      conv => whnf
      refine ACallS.tmut 1 (pick_spec code hc a4 s4 (by omega) 4 (by omega) (by omega)) ?_ rfl (by (repeat' (first | exact trivial | exact rfl | refine And.intro ?_ ?_)) <;> (try first | omega | (simp; done))) (by (repeat' (first | exact trivial | exact rfl | refine And.intro ?_ ?_)) <;> (try first | omega | (simp; done)))
      rintro v r ⟨y4, a5, s5, rfl, y0, y1, e5, g5, rfl⟩
      conv => whnf
      obtain ⟨i4, rfl, hi4⟩ := nat_of (len := 4) y0 (by omega)
      refine ⟨i4, rfl, hi4, ?_⟩
      conv => whnf
      obtain ⟨lq, uq⟩ := among_in (sp_in z) (i := i4) hi4
      generalize List.getD (((((List.replicate 4 (0 : Int)).set 0 0).set 1 (-1)).set 2 1001).set 3 (IntKind.i64.wrap (z + 1))) i4 0 = q at lq uq ⊢
      refine ⟨rfl, ?_⟩
      conv => whnf
      refine ⟨rfl, ?_⟩
      conv => whnf
      exact .inl (.inl ⟨2, 2, q, m, a5, s5, rfl, inr2, inr2, ⟨lq, uq⟩, h4.sm hm (by omega), by omega, by omega, rfl⟩)
    · conv => whnf
      refine ⟨fun h1 => ?_, fun h1 => ?_⟩
      · conv => whnf
        refine ⟨fun hp => ?_, fun hp => ?_⟩
        · have hp : 0 < (m).length := by have := of_decide_eq_true hp; omega
          conv => whnf
          refine ⟨0, rfl, hp, ?_⟩
          conv => whnf
          refine ⟨fun hl => ?_, fun hl => ?_⟩
          · have hl : ((m).getD 0 []).length = 4 := by have := beq_iff_eq.1 hl; omega
            have hr4 := h4 _ (getD_mem (d := []) hp)
            refine ADraw.plan tyOk mx (.q 0 (.q 1 (.q 2 (.q 3 (.q 4 (.q 5 (.q 6 (.q 7 (.q 8 (.q 9 (.q 10 (.q 11 (.q 12 (.q 13 (.q 14 (.q 15 (.q 16 (.q 17 (.q 18 (.q 19 (.q 20 (.q 21 (.q 22 (.q 23 (.q 24 (.q 25 (.q 26 (.q 27 (.last 28 (.q 29 (.last 30 (.done))))))))))))))))))))))))))))))) : Plan) (by kernel_rfl) ?_
            conv => whnf
            repeat' (first
              | (refine ⟨rfl, ?_⟩; (conv => whnf); exact .inl (.inl ⟨2, 2, z, List.set m 0 _, a4, s4, rfl, inr2, inr2, hz, h4.smSet hm (by omega) 0 (le4 (set4 (set4 (set4 (set4 rep4 _ (W_inr _)) _ (W_inr _)) _ (getI hr4.2 _)) _ (getI hr4.2 _))), by omega, by omega, rfl⟩); done)
              | (refine ⟨0, rfl, by omega, ?_⟩; conv => whnf)
              | (refine ⟨1, rfl, by omega, ?_⟩; conv => whnf)
              | (refine ⟨2, rfl, by omega, ?_⟩; conv => whnf)
              | (refine ⟨3, rfl, by omega, ?_⟩; conv => whnf)
              | (refine And.intro ?_ ?_ <;> (conv => whnf)))
          · (repeat (conv => whnf); (first | refine ⟨fun h => absurd h (by decide), fun _ => ?_⟩ | refine ⟨fun _ => ?_, fun h => absurd h (by decide)⟩)); conv => whnf
            refine ⟨rfl, ?_⟩
            conv => whnf
            exact .inl (.inl ⟨2, 2, z, m, a4, s4, rfl, inr2, inr2, hz, h4.sm hm (by omega), by omega, by omega, rfl⟩)
        · (repeat (conv => whnf); (first | refine ⟨fun h => absurd h (by decide), fun _ => ?_⟩ | refine ⟨fun _ => ?_, fun h => absurd h (by decide)⟩)); conv => whnf
          refine ⟨rfl, ?_⟩
          conv => whnf
          exact .inl (.inl ⟨2, 2, z, m, a4, s4, rfl, inr2, inr2, hz, h4.sm hm (by omega), by omega, by omega, rfl⟩)
      · conv => whnf
        refine ⟨fun h2 => ?_, fun h2 => ?_⟩
        · conv => whnf
          refine ⟨by simp [room]; omega, ?_⟩
          conv => whnf
          refine ⟨rfl, ?_⟩
          conv => whnf
          exact .inl (.inl ⟨2, 2, z, m ++ [_], a4, s4, rfl, inr2, inr2, hz, h4.smApp hm (by omega) (le4 (set4 (set4 (set4 (set4 rep4 _ (by unfold InR; omega)) _ inr0) _ inr0) _ inr0)), by omega, by omega, rfl⟩)
        · conv => whnf
          refine ⟨fun h3 => ?_, fun h3 => ?_⟩
          · conv => whnf
            refine ⟨fun hp => ?_, fun hp => ?_⟩
            · have hp : 0 < (m).length := by have := of_decide_eq_true hp; omega
              conv => whnf
              refine ⟨0, rfl, hp, ?_⟩
              conv => whnf
              refine ⟨rfl, ?_⟩
              conv => whnf
              exact .inl (.inl ⟨2, 2, z, List.set m 0 _, a4, s4, rfl, inr2, inr2, hz, h4.smSet hm (by omega) 0 (sp3 hz), by omega, by omega, rfl⟩)
            · conv => whnf
              refine ⟨rfl, ?_⟩
              conv => whnf
              exact .inl (.inl ⟨2, 2, z, m, a4, s4, rfl, inr2, inr2, hz, h4.sm hm (by omega), by omega, by omega, rfl⟩)
          · conv => whnf
            refine ⟨fun h5 => ?_, fun h5 => ?_⟩
            · conv => whnf
              refine ⟨rfl, ?_⟩
              conv => whnf
              exact .inr ⟨a4, s4, rfl, by omega, by omega, rfl⟩
            · conv => whnf
              refine ⟨rfl, ?_⟩
              conv => whnf
              exact .inl (.inl ⟨2, 2, z, m, a4, s4, rfl, inr2, inr2, hz, h4.sm hm (by omega), by omega, by omega, rfl⟩)
  · conv => whnf
    refine ACallS.tmut 1 (quietTwo_spec code hc a1 s1 (by omega)) ?_ rfl (by (repeat' (first | exact trivial | exact rfl | refine And.intro ?_ ?_)) <;> (try first | omega | (simp; done))) (by (repeat' (first | exact trivial | exact rfl | refine And.intro ?_ ?_)) <;> (try first | omega | (simp; done)))
    rintro v r ⟨x, y, z, m, a2, s2, rfl, hx, hy, hz, hm, _, _, rfl⟩
    conv => whnf
    exact .inl (.inr ⟨rfl, x, y, z, m, hx, hy, hz, hm, rfl⟩)
theorem DrawEvenOut_spec (code : List Int) (hc : OkB code) : FSpec Try.prog 108 [.t (.ints .u8 code)] boxT := by
  refine fspec tyOk mx Try.func108 rfl (by kernel_rfl) rfl ?_
  conv => whnf
  refine ACall.use' (DrawEightSums_spec code hc) ?_
  rintro v h ⟨rfl, x, y, z, m, hx, hy, hz, hm, rfl⟩
  conv => whnf
  exact ⟨rfl, x, y, z, m, hx, hy, hz, hm, rfl⟩
theorem DrawNoisySum_spec (code : List Int) (hc : OkB code) : FSpec Try.prog 105 [.t (.ints .u8 code)] (fun v h => h = [] ∧ ∃ k sh no : Int, InR k ∧ InR sh ∧ InR no ∧ v = .tu [.c (.int .i64 k), .c (.int .i64 sh), .c (.int .i64 no)]) := by
  refine fspec tyOk mx Try.func105 rfl (by kernel_rfl) rfl ?_
  conv => whnf
  refine ACallS.tmut 0 (kind_spec code hc 0 0 (by omega)) ?_ rfl (by (repeat' (first | exact trivial | exact rfl | refine And.intro ?_ ?_)) <;> (try first | omega | (simp; done))) (by (repeat' (first | exact trivial | exact rfl | refine And.intro ?_ ?_)) <;> (try first | omega | (simp; done)))
  rintro v r ⟨k, a1, s1, rfl, l, u, _, e1, rfl⟩
  conv => whnf
  refine ACallS.inline tyOk mx Try.func116 rfl (by kernel_rfl) rfl ?_
  conv => whnf
  refine ACallS.tmut 0 (pick_spec code hc a1 s1 (by omega) 8 (by omega) (by omega)) ?_ rfl (by (repeat' (first | exact trivial | exact rfl | refine And.intro ?_ ?_)) <;> (try first | omega | (simp; done))) (by (repeat' (first | exact trivial | exact rfl | refine And.intro ?_ ?_)) <;> (try first | omega | (simp; done)))
  rintro v r ⟨y, a2, s2, rfl, y0, y1, e_a2, g_a2, rfl⟩
  conv => whnf
  obtain ⟨i, rfl, hi⟩ := nat_of (len := 8) y0 (by omega)
  refine ⟨i, rfl, hi, ?_⟩
  conv => whnf
  have h_sh : -1 ≤ (((((((((List.replicate 8 (0 : Int)).set 0 1).set 1 2).set 2 0).set 3 5).set 4 500).set 5 501).set 6 1000).set 7 (-1)).getD i 0 ∧ (((((((((List.replicate 8 (0 : Int)).set 0 1).set 1 2).set 2 0).set 3 5).set 4 500).set 5 501).set 6 1000).set 7 (-1)).getD i 0 ≤ 1000 := among_in (by kernel_rfl) hi
  generalize (((((((((List.replicate 8 (0 : Int)).set 0 1).set 1 2).set 2 0).set 3 5).set 4 500).set 5 501).set 6 1000).set 7 (-1)).getD i 0 = sh at h_sh ⊢
  refine ⟨rfl, ?_⟩
  conv => whnf
  clear y0 y1 hi
  refine ACallS.inline tyOk mx Try.func116 rfl (by kernel_rfl) rfl ?_
  conv => whnf
  refine ACallS.tmut 0 (pick_spec code hc a2 s2 (by omega) 8 (by omega) (by omega)) ?_ rfl (by (repeat' (first | exact trivial | exact rfl | refine And.intro ?_ ?_)) <;> (try first | omega | (simp; done))) (by (repeat' (first | exact trivial | exact rfl | refine And.intro ?_ ?_)) <;> (try first | omega | (simp; done)))
  rintro v r ⟨y, a3, s3, rfl, y0, y1, e_a3, g_a3, rfl⟩
  conv => whnf
  obtain ⟨i, rfl, hi⟩ := nat_of (len := 8) y0 (by omega)
  refine ⟨i, rfl, hi, ?_⟩
  conv => whnf
  have h_no : -1 ≤ (((((((((List.replicate 8 (0 : Int)).set 0 0).set 1 1).set 2 2).set 3 3).set 4 250).set 5 251).set 6 (-1)).set 7 4611686018427387904).getD i 0 ∧ (((((((((List.replicate 8 (0 : Int)).set 0 0).set 1 1).set 2 2).set 3 3).set 4 250).set 5 251).set 6 (-1)).set 7 4611686018427387904).getD i 0 ≤ 4611686018427387904 := among_in (by kernel_rfl) hi
  generalize (((((((((List.replicate 8 (0 : Int)).set 0 0).set 1 1).set 2 2).set 3 3).set 4 250).set 5 251).set 6 (-1)).set 7 4611686018427387904).getD i 0 = no at h_no ⊢
  refine ⟨rfl, ?_⟩
  conv => whnf
  clear y0 y1 hi
  exact ⟨rfl, k, sh, no, by unfold InR; omega, by unfold InR; omega, by unfold InR; omega, rfl⟩
end Go.Proofs.Ytkomndcehdneaaa
/- Draws of functionals. -/
namespace Go.Proofs.Ytkomndcehdneaaa
open Go.Aw
set_option maxRecDepth 100000
set_option maxHeartbeats 4000000

theorem cut34u {z : Int} (h0 : 0 ≤ z) (h1 : z < max 2 1) : ∃ h : Nat, IntKind.i64.wrap (3 + z) = h ∧ h ≤ 4 := ⟨(3 + z).toNat, by rw [w64 (by omega) (by omega)]; omega, by omega⟩
/-- a list of the method's own -/
def listO (code : List Int) (a k : Nat) : AVal → List (Nat × ARow) → ARow → Prop := fun v h r =>
  ∃ (l : List Int) (a' : Nat) (s' : Int), (l.length ≤ 4 ∧ ∀ v, v ∈ l → InR v) ∧ v = .own 0 ∧ h = [(0, .ints 3 .i64 l)] ∧ a ≤ a' ∧ a' ≤ a + k ∧ r = cur code a' s'
theorem numbers_spec (code : List Int) (hc : OkB code) (a : Nat) (s : Int) (ha : a ≤ 800000000) : OSpec Try.prog 236 (cur code a s) [.ptr 0 0] (listO code a 8) := by
  refine ospec tyOk mx Try.func236 rfl (by kernel_rfl) rfl rfl ?_
  conv => whnf
  refine ACallS.inline tyOk mx Try.func116 rfl (by kernel_rfl) rfl ?_
  conv => whnf
  refine ACallS.tmut 0 (pick_spec code hc a s (by omega) 3 (by omega) (by omega)) ?_ rfl (by (repeat' (first | exact trivial | exact rfl | refine And.intro ?_ ?_)) <;> (try first | omega | (simp; done))) (by (repeat' (first | exact trivial | exact rfl | refine And.intro ?_ ?_)) <;> (try first | omega | (simp; done)))
  rintro v r ⟨y, a1, s1, rfl, y0, y1, e_a1, g_a1, rfl⟩
  conv => whnf
  obtain ⟨i, rfl, hi⟩ := nat_of (len := 3) y0 (by omega)
  refine ⟨i, rfl, hi, ?_⟩
  conv => whnf
  have h_x : 0 ≤ ((((List.replicate 3 (0 : Int)).set 0 99).set 1 100).set 2 0).getD i 0 ∧ ((((List.replicate 3 (0 : Int)).set 0 99).set 1 100).set 2 0).getD i 0 ≤ 100 := among_in (by kernel_rfl) hi
  generalize ((((List.replicate 3 (0 : Int)).set 0 99).set 1 100).set 2 0).getD i 0 = x at h_x ⊢
  refine ⟨rfl, ?_⟩
  conv => whnf
  clear y0 y1 hi
  refine ACallS.inline tyOk mx Try.func116 rfl (by kernel_rfl) rfl ?_
  conv => whnf
  refine ACallS.tmut 0 (pick_spec code hc a1 s1 (by omega) 3 (by omega) (by omega)) ?_ rfl (by (repeat' (first | exact trivial | exact rfl | refine And.intro ?_ ?_)) <;> (try first | omega | (simp; done))) (by (repeat' (first | exact trivial | exact rfl | refine And.intro ?_ ?_)) <;> (try first | omega | (simp; done)))
  rintro v r ⟨y, a2, s2, rfl, y0, y1, e_a2, g_a2, rfl⟩
  conv => whnf
  obtain ⟨i, rfl, hi⟩ := nat_of (len := 3) y0 (by omega)
  refine ⟨i, rfl, hi, ?_⟩
  conv => whnf
  have h_y : -100 ≤ ((((List.replicate 3 (0 : Int)).set 0 (-99)).set 1 (-100)).set 2 0).getD i 0 ∧ ((((List.replicate 3 (0 : Int)).set 0 (-99)).set 1 (-100)).set 2 0).getD i 0 ≤ 0 := among_in (by kernel_rfl) hi
  generalize ((((List.replicate 3 (0 : Int)).set 0 (-99)).set 1 (-100)).set 2 0).getD i 0 = y at h_y ⊢
  refine ⟨rfl, ?_⟩
  conv => whnf
  clear y0 y1 hi
  refine ACallS.inline tyOk mx Try.func116 rfl (by kernel_rfl) rfl ?_
  conv => whnf
  refine ACallS.tmut 0 (pick_spec code hc a2 s2 (by omega) 2 (by omega) (by omega)) ?_ rfl (by (repeat' (first | exact trivial | exact rfl | refine And.intro ?_ ?_)) <;> (try first | omega | (simp; done))) (by (repeat' (first | exact trivial | exact rfl | refine And.intro ?_ ?_)) <;> (try first | omega | (simp; done)))
  rintro v r ⟨y, a3, s3, rfl, y0, y1, e_a3, g_a3, rfl⟩
  conv => whnf
  obtain ⟨i, rfl, hi⟩ := nat_of (len := 2) y0 (by omega)
  refine ⟨i, rfl, hi, ?_⟩
  conv => whnf
  have h_z : 0 ≤ (((List.replicate 2 (0 : Int)).set 0 0).set 1 4611686018427387904).getD i 0 ∧ (((List.replicate 2 (0 : Int)).set 0 0).set 1 4611686018427387904).getD i 0 ≤ 4611686018427387904 := among_in (by kernel_rfl) hi
  generalize (((List.replicate 2 (0 : Int)).set 0 0).set 1 4611686018427387904).getD i 0 = z at h_z ⊢
  refine ⟨rfl, ?_⟩
  conv => whnf
  clear y0 y1 hi
  refine ACallS.tmut 0 (pick_spec code hc a3 s3 (by omega) 2 (by omega) (by omega)) ?_ rfl (by (repeat' (first | exact trivial | exact rfl | refine And.intro ?_ ?_)) <;> (try first | omega | (simp; done))) (by (repeat' (first | exact trivial | exact rfl | refine And.intro ?_ ?_)) <;> (try first | omega | (simp; done)))
  rintro v r ⟨c, a4, s4, rfl, l_c, u_c, e_a4, g_a4, rfl⟩
  conv => whnf
  obtain ⟨n, en, hn⟩ := cut34u l_c u_c
  refine ⟨n, en, hn, ?_⟩
  conv => whnf
  have h4 := set4 (set4 (set4 (set4 rep4 0 (show InR x by unfold InR; omega)) 1 (show InR y by unfold InR; omega)) 2 inr0) 3 (show InR z by unfold InR; omega)
  exact ⟨_, a4, s4, ⟨by rw [List.length_take]; have := h4.1; omega, fun v hv => h4.2 v (List.mem_of_mem_take hv)⟩, rfl, rfl, by omega, by omega, rfl⟩

/-- a drawn functional -/
def drawnF (code : List Int) (a k : Nat) (v : AVal) (r : ARow) : Prop :=
  ∃ (f : List (List Int)) (a' : Nat) (s' : Int), v = .t (.rows f) ∧ SmB f ∧ a ≤ a' ∧ a' ≤ a + k ∧ r = cur code a' s'
theorem fnDraw_spec (code : List Int) (hc : OkB code) (a : Nat) (s : Int) (ha : a ≤ 700000000) (x y : Int) :
    TSpec Try.prog 137 (cur code a s) [.ptr 0 0, .c (.int .i64 (x)), .c (.int .i64 (y))] (drawnF code a 1000) := by
  have nxy : near x * near y ≤ 4 * 4 := Nat.mul_le_mul (near_le x) (near_le y)
  generalize hN : near x * near y = N at nxy
  have eN : IntKind.i64.wrap ((near x : Int) * (near y : Int)) = (N : Int) := by rw [← Int.natCast_mul, hN]; exact w64 (by omega) (by omega)
  refine tspec tyOk mx Try.func137 rfl (by kernel_rfl) rfl rfl ?_
  conv => whnf
  refine aloopI tyOk mx (fun i : List (List Int) × Nat × Int => (⟨52, [(0, .ptr 0 0), (1, .c (.int .i64 (x))), (2, .c (.int .i64 (y))), (7, .own 1), (8, .c (.int .i64 (i.1.length))), (52, .ptr 0 0)], [(0, cur code i.2.1 i.2.2), (1, .rows 25 3 true i.1)], 2⟩ : St)) (fun i => i.1.length ≤ N ∧ R4 i.1 ∧ a ≤ i.2.1 ∧ i.2.1 ≤ a + 8 * i.1.length) (fun i => N - i.1.length) ([], a, s) ⟨by simp, R4.nil, by simp only; omega, by simp only; omega⟩ none (by refine ⟨rfl, rfl, ?_, ?_⟩ <;> ((repeat' (first | exact trivial | exact rfl | refine And.intro ?_ ?_)) <;> (try ((conv => whnf); first | refine vint ?_ | refine vboo ?_ | refine rint ?_ | refine rrow ?_ | skip)) <;> (try first | omega | (simp; done) | ((repeat rw [flts_closed _ (by assumption)]); exact vws_closed _ (by assumption))))) (fun i hi => ?_)
  obtain ⟨m, a2, s2⟩ := i
  obtain ⟨h1, h2, h3, h4⟩ := hi
  simp only at h1 h2 h3 h4
  dsimp only
  conv => whnf
  refine ACall.use (l2Near_spec _) ?_
  conv => whnf
  refine ACall.use (l2Near_spec _) ?_
  conv => whnf
  rw [eN]
  refine ⟨fun h => ?_, fun h => ?_⟩
  · have h := ltT h
    conv => whnf
    refine aloopI tyOk mx (fun j : List Int × Nat × Int => (⟨52, [(0, .ptr 0 0), (1, .c (.int .i64 (x))), (2, .c (.int .i64 (y))), (7, .own 1), (8, .c (.int .i64 (m.length))), (9, .own 2), (10, .c (.int .i64 (j.1.length))), (52, .ptr 0 0)], [(0, cur code j.2.1 j.2.2), (1, .rows 25 3 true m), (2, .ints 3 .i64 j.1)], 3⟩ : St)) (fun j => j.1.length ≤ 4 ∧ (∀ v, v ∈ j.1 → InR v) ∧ a2 ≤ j.2.1 ∧ j.2.1 ≤ a2 + 2 * j.1.length) (fun j => 4 - j.1.length) ([], a2, s2) ⟨by simp, by simp, by simp only; omega, by simp only; omega⟩ none (by refine ⟨rfl, rfl, ?_, ?_⟩ <;> ((repeat' (first | exact trivial | exact rfl | refine And.intro ?_ ?_)) <;> (try ((conv => whnf); first | refine vint ?_ | refine vboo ?_ | refine rint ?_ | refine rrow ?_ | skip)) <;> (try first | omega | (simp; done) | ((repeat rw [flts_closed _ (by assumption)]); exact vws_closed _ (by assumption))))) (fun j hj => ?_)
    obtain ⟨l, a3, s3⟩ := j
    obtain ⟨j1, j2, j3, j4⟩ := hj
    simp only at j1 j2 j3 j4
    dsimp only
    refine ⟨fun h5 => ?_, fun h5 => ?_⟩
    · have h5 : l.length < 4 := by have := of_decide_eq_true h5; omega
      conv => whnf
      refine ACallS.tmut 0 (pick_spec code hc a3 s3 (by omega) 9 (by omega) (by omega)) ?_ rfl (by (repeat' (first | exact trivial | exact rfl | refine And.intro ?_ ?_)) <;> (try first | omega | (simp; done))) (by (repeat' (first | exact trivial | exact rfl | refine And.intro ?_ ?_)) <;> (try first | omega | (simp; done)))
      rintro v r ⟨u, a4, s4, rfl, l_u, u_u, e_a4, g_a4, rfl⟩
      conv => whnf
      refine ⟨by simp [room]; omega, ?_⟩
      conv => whnf
      rw [nat_wrap (by omega)]
      refine ⟨(l ++ [_], a4, s4), none, (by refine ⟨rfl, rfl, ?_, ?_⟩ <;> ((repeat' (first | exact trivial | exact rfl | refine And.intro ?_ ?_)) <;> (try ((conv => whnf); first | refine vint ?_ | refine vboo ?_ | refine rint ?_ | refine rrow ?_ | skip)) <;> (try first | omega | (simp; done) | ((repeat rw [flts_closed _ (by assumption)]); exact vws_closed _ (by assumption))))), ⟨by simp only [List.length_append, List.length_singleton]; omega, fun v hv => ?_, by simp only; omega, by simp only [List.length_append, List.length_singleton]; omega⟩, by simp only [List.length_append, List.length_singleton]; omega⟩
      rcases List.mem_append.1 hv with h | h
      · exact j2 v h
      · rw [List.mem_singleton] at h; rw [h]; exact W_inr _
    · have h5 : ¬ l.length < 4 := by have := of_decide_eq_false h5; omega
      conv => whnf
      refine ⟨by simp [room]; omega, ?_⟩
      conv => whnf
      rw [nat_wrap (by omega)]
      exact ⟨(m ++ [l], a3, s3), none, (by refine ⟨rfl, rfl, ?_, ?_⟩ <;> ((repeat' (first | exact trivial | exact rfl | refine And.intro ?_ ?_)) <;> (try ((conv => whnf); first | refine vint ?_ | refine vboo ?_ | refine rint ?_ | refine rrow ?_ | skip)) <;> (try first | omega | (simp; done) | ((repeat rw [flts_closed _ (by assumption)]); exact vws_closed _ (by assumption))))), ⟨by simp only [List.length_append, List.length_singleton]; omega, R4.app h2 ⟨by omega, j2⟩, by simp only; omega, by simp only [List.length_append, List.length_singleton]; omega⟩, by simp only [List.length_append, List.length_singleton]; omega⟩
  · have h := ltF h
    have hml : m.length ≤ 16 := by omega
    conv => whnf
    refine ⟨fun hp => ?_, fun hp => ?_⟩
    · have hp : 0 < m.length := by have := of_decide_eq_true hp; omega
      conv => whnf
      refine ACallS.tmut 0 (one_spec code hc a2 s2 (by omega) 30 (by omega) (by omega)) ?_ rfl (by (repeat' (first | exact trivial | exact rfl | refine And.intro ?_ ?_)) <;> (try first | omega | (simp; done))) (by (repeat' (first | exact trivial | exact rfl | refine And.intro ?_ ?_)) <;> (try first | omega | (simp; done)))
      rintro v r ⟨b, a3, s3, rfl, e_a3, g_a3, rfl⟩
      conv => whnf
      refine ⟨fun hb => ?_, fun hb => ?_⟩
      · conv => whnf
        refine ACallS.tmut 0 (pick_spec code hc a3 s3 (by omega) m.length (by omega) (by omega)) ?_ rfl (by (repeat' (first | exact trivial | exact rfl | refine And.intro ?_ ?_)) <;> (try first | omega | (simp; done))) (by (repeat' (first | exact trivial | exact rfl | refine And.intro ?_ ?_)) <;> (try first | omega | (simp; done)))
        rintro v r ⟨k, a4, s4, rfl, l_k, u_k, e_a4, g_a4, rfl⟩
        conv => whnf
        obtain ⟨i, rfl, hi⟩ := nat_of (len := m.length) l_k (by omega)
        refine ACallS.omut 0 (numbers_spec code hc a4 s4 (by omega)) ?_ rfl (by (repeat' (first | exact trivial | exact rfl | refine And.intro ?_ ?_)) <;> (try first | omega | (simp; done))) (by (repeat' (first | exact trivial | exact rfl | refine And.intro ?_ ?_)) <;> (try first | omega | (simp; done)))
        rintro v h r ⟨l, a5, s5, hl, rfl, rfl, e5, g5, rfl⟩
        conv => whnf
        refine ⟨i, rfl, hi, ?_⟩
        conv => whnf
        exact ⟨m.set i l, a5, s5, rfl, h2.smSet rfl hml i hl, by omega, by omega, rfl⟩
      · conv => whnf
        exact ⟨m, a3, s3, rfl, h2.sm rfl hml, by omega, by omega, rfl⟩
    · (repeat (conv => whnf); (first | refine ⟨fun h => absurd h (by decide), fun _ => ?_⟩ | refine ⟨fun _ => ?_, fun h => absurd h (by decide)⟩)); conv => whnf
      exact ⟨m, a2, s2, rfl, h2.sm rfl hml, by omega, by omega, rfl⟩
end Go.Proofs.Ytkomndcehdneaaa
/- Draws of plays. -/
namespace Go.Proofs.Ytkomndcehdneaaa
open Go.Aw
set_option maxRecDepth 100000
set_option maxHeartbeats 4000000

/-- a drawn list -/
def drawnL (code : List Int) (a k n : Nat) (v : AVal) (r : ARow) : Prop :=
  ∃ (l : List Int) (a' : Nat) (s' : Int), v = .t (.ints .i64 l) ∧ l.length ≤ n ∧ (∀ v, v ∈ l → InR v) ∧ a ≤ a' ∧ a' ≤ a + k ∧ r = cur code a' s'
theorem in_set {l : List Int} (h : ∀ v, v ∈ l → InR v) (i : Nat) {x : Int} (hx : InR x) : ∀ v, v ∈ l.set i x → InR v := fun v hv => by
  rcases List.mem_or_eq_of_mem_set hv with h1 | h1
  · exact h v h1
  · rw [h1]; exact hx
theorem in_app {l : List Int} (h : ∀ v, v ∈ l → InR v) {x : Int} (hx : InR x) : ∀ v, v ∈ l ++ [x] → InR v := fun v hv => by
  rcases List.mem_append.1 hv with h1 | h1
  · exact h v h1
  · rw [List.mem_singleton] at h1; rw [h1]; exact hx

theorem play_spec (code : List Int) (hc : OkB code) (a : Nat) (s : Int) (ha : a ≤ 700000000) (x y : Int) :
    TSpec Try.prog 178 (cur code a s) [.ptr 0 0, .c (.int .i64 (x)), .c (.int .i64 (y))] (drawnL code a 100 9) := by
  have nx := near_le x
  have ny := near_le y
  generalize hN : near x + near y = N
  have eN : IntKind.i64.wrap ((near x : Int) + (near y : Int)) = (N : Int) := by rw [← hN]; rw [w64 (by omega) (by omega)]; omega
  have N8 : N ≤ 8 := by omega
  refine tspec tyOk mx Try.func178 rfl (by kernel_rfl) rfl rfl ?_
  conv => whnf
  refine aloopI tyOk mx (fun i : List Int × Nat × Int => (⟨46, [(0, .ptr 0 0), (1, .c (.int .i64 (x))), (2, .c (.int .i64 (y))), (7, .own 1), (8, .c (.int .i64 (i.1.length))), (46, .ptr 0 0)], [(0, cur code i.2.1 i.2.2), (1, .ints 3 .i64 i.1)], 2⟩ : St)) (fun i => i.1.length ≤ N ∧ (∀ v, v ∈ i.1 → InR v) ∧ a ≤ i.2.1 ∧ i.2.1 ≤ a + 2 * i.1.length) (fun i => N - i.1.length) ([], a, s) ⟨by simp, by simp, by simp only; omega, by simp only; omega⟩ none (by refine ⟨rfl, rfl, ?_, ?_⟩ <;> ((repeat' (first | exact trivial | exact rfl | refine And.intro ?_ ?_)) <;> (try ((conv => whnf); first | refine vint ?_ | refine vboo ?_ | refine rint ?_ | refine rrow ?_ | skip)) <;> (try first | omega | (simp; done) | ((repeat rw [flts_closed _ (by assumption)]); exact vws_closed _ (by assumption))))) (fun i hi => ?_)
  obtain ⟨l, a2, s2⟩ := i
  obtain ⟨h1, h2, h3, h4⟩ := hi
  simp only at h1 h2 h3 h4
  dsimp only
  conv => whnf
  refine ACall.use (l2Near_spec _) ?_
  conv => whnf
  refine ACall.use (l2Near_spec _) ?_
  conv => whnf
  rw [eN]
  refine ⟨fun h => ?_, fun h => ?_⟩
  · have h := ltT h
    conv => whnf
    refine ACallS.tmut 0 (pick_spec code hc a2 s2 (by omega) 2 (by omega) (by omega)) ?_ rfl (by (repeat' (first | exact trivial | exact rfl | refine And.intro ?_ ?_)) <;> (try first | omega | (simp; done))) (by (repeat' (first | exact trivial | exact rfl | refine And.intro ?_ ?_)) <;> (try first | omega | (simp; done)))
    rintro v r ⟨u, a3, s3, rfl, l_u, u_u, e_a3, g_a3, rfl⟩
    conv => whnf
    refine ⟨by simp [room]; omega, ?_⟩
    conv => whnf
    rw [nat_wrap (by omega)]
    exact ⟨(l ++ [_], a3, s3), none, (by refine ⟨rfl, rfl, ?_, ?_⟩ <;> ((repeat' (first | exact trivial | exact rfl | refine And.intro ?_ ?_)) <;> (try ((conv => whnf); first | refine vint ?_ | refine vboo ?_ | refine rint ?_ | refine rrow ?_ | skip)) <;> (try first | omega | (simp; done) | ((repeat rw [flts_closed _ (by assumption)]); exact vws_closed _ (by assumption))))), ⟨by simp only [List.length_append, List.length_singleton]; omega, in_app h2 (by unfold InR; omega), by simp only; omega, by simp only [List.length_append, List.length_singleton]; omega⟩, by simp only [List.length_append, List.length_singleton]; omega⟩
  · have h := ltF h
    clear hN eN
    conv => whnf
    have fin : ∀ (m : List Int) (b : Nat) (t : Int), m.length ≤ 8 → (∀ v, v ∈ m → InR v) → a ≤ b → b ≤ a + 50 → True := fun _ _ _ _ _ _ _ => trivial
    refine ⟨fun hp => ?_, fun hp => ?_⟩
    · have hp : 0 < l.length := by have := of_decide_eq_true hp; omega
      conv => whnf
      refine ACallS.tmut 0 (one_spec code hc a2 s2 (by omega) 30 (by omega) (by omega)) ?_ rfl (by (repeat' (first | exact trivial | exact rfl | refine And.intro ?_ ?_)) <;> (try first | omega | (simp; done))) (by (repeat' (first | exact trivial | exact rfl | refine And.intro ?_ ?_)) <;> (try first | omega | (simp; done)))
      rintro v r ⟨b, a3, s3, rfl, e_a3, g_a3, rfl⟩
      conv => whnf
      refine ⟨fun hb => ?_, fun hb => ?_⟩
      · conv => whnf
        refine ACallS.tmut 0 (pick_spec code hc a3 s3 (by omega) l.length (by omega) (by omega)) ?_ rfl (by (repeat' (first | exact trivial | exact rfl | refine And.intro ?_ ?_)) <;> (try first | omega | (simp; done))) (by (repeat' (first | exact trivial | exact rfl | refine And.intro ?_ ?_)) <;> (try first | omega | (simp; done)))
        rintro v r ⟨k, a4, s4, rfl, l_k, u_k, e_a4, g_a4, rfl⟩
        conv => whnf
        obtain ⟨i0, rfl, hi0⟩ := nat_of (len := l.length) l_k (by omega)
        refine ACallS.inline tyOk mx Try.func116 rfl (by kernel_rfl) rfl ?_
        conv => whnf
        refine ACallS.tmut 0 (pick_spec code hc a4 s4 (by omega) 3 (by omega) (by omega)) ?_ rfl (by (repeat' (first | exact trivial | exact rfl | refine And.intro ?_ ?_)) <;> (try first | omega | (simp; done))) (by (repeat' (first | exact trivial | exact rfl | refine And.intro ?_ ?_)) <;> (try first | omega | (simp; done)))
        rintro v r ⟨y, a5, s5, rfl, y0, y1, e_a5, g_a5, rfl⟩
        conv => whnf
        obtain ⟨i, rfl, hi⟩ := nat_of (len := 3) y0 (by omega)
        refine ⟨i, rfl, hi, ?_⟩
        conv => whnf
        have h_z : -1 ≤ ((((List.replicate 3 (0 : Int)).set 0 2).set 1 (-1)).set 2 4611686018427387904).getD i 0 ∧ ((((List.replicate 3 (0 : Int)).set 0 2).set 1 (-1)).set 2 4611686018427387904).getD i 0 ≤ 4611686018427387904 := among_in (by kernel_rfl) hi
        generalize ((((List.replicate 3 (0 : Int)).set 0 2).set 1 (-1)).set 2 4611686018427387904).getD i 0 = z at h_z ⊢
        refine ⟨rfl, ?_⟩
        conv => whnf
        clear y0 y1 hi
        refine ⟨i0, rfl, hi0, ?_⟩
        conv => whnf
        refine ACallS.tmut 0 (one_spec code hc a5 s5 (by omega) 40 (by omega) (by omega)) ?_ rfl (by (repeat' (first | exact trivial | exact rfl | refine And.intro ?_ ?_)) <;> (try first | omega | (simp; done))) (by (repeat' (first | exact trivial | exact rfl | refine And.intro ?_ ?_)) <;> (try first | omega | (simp; done)))
        rintro v r ⟨b2, a6, s6, rfl, e_a6, g_a6, rfl⟩
        conv => whnf
        refine ⟨fun hb2 => ?_, fun hb2 => ?_⟩
        · conv => whnf
          refine ⟨by simp [room]; omega, ?_⟩
          conv => whnf
          exact ⟨_, a6, s6, rfl, by simp; omega, in_app (in_set h2 i0 (show InR z by unfold InR; omega)) inr0, by omega, by omega, rfl⟩
        · conv => whnf
          exact ⟨_, a6, s6, rfl, by rw [List.length_set]; omega, in_set h2 i0 (show InR z by unfold InR; omega), by omega, by omega, rfl⟩
      · conv => whnf
        refine ACallS.tmut 0 (one_spec code hc a3 s3 (by omega) 40 (by omega) (by omega)) ?_ rfl (by (repeat' (first | exact trivial | exact rfl | refine And.intro ?_ ?_)) <;> (try first | omega | (simp; done))) (by (repeat' (first | exact trivial | exact rfl | refine And.intro ?_ ?_)) <;> (try first | omega | (simp; done)))
        rintro v r ⟨b2, a6, s6, rfl, e_a6, g_a6, rfl⟩
        conv => whnf
        refine ⟨fun hb2 => ?_, fun hb2 => ?_⟩
        · conv => whnf
          refine ⟨by simp [room]; omega, ?_⟩
          conv => whnf
          exact ⟨_, a6, s6, rfl, by simp; omega, in_app h2 inr0, by omega, by omega, rfl⟩
        · conv => whnf
          exact ⟨_, a6, s6, rfl, by omega, h2, by omega, by omega, rfl⟩
    · (repeat (conv => whnf); (first | refine ⟨fun h => absurd h (by decide), fun _ => ?_⟩ | refine ⟨fun _ => ?_, fun h => absurd h (by decide)⟩)); conv => whnf
      refine ACallS.tmut 0 (one_spec code hc a2 s2 (by omega) 40 (by omega) (by omega)) ?_ rfl (by (repeat' (first | exact trivial | exact rfl | refine And.intro ?_ ?_)) <;> (try first | omega | (simp; done))) (by (repeat' (first | exact trivial | exact rfl | refine And.intro ?_ ?_)) <;> (try first | omega | (simp; done)))
      rintro v r ⟨b2, a6, s6, rfl, e_a6, g_a6, rfl⟩
      conv => whnf
      refine ⟨fun hb2 => ?_, fun hb2 => ?_⟩
      · conv => whnf
        refine ⟨by simp [room]; omega, ?_⟩
        conv => whnf
        exact ⟨_, a6, s6, rfl, by simp; omega, in_app h2 inr0, by omega, by omega, rfl⟩
      · conv => whnf
        exact ⟨_, a6, s6, rfl, by omega, h2, by omega, by omega, rfl⟩
theorem DrawPlayWorth_spec (code : List Int) (hc : OkB code) : FSpec Try.prog 62 [.t (.ints .u8 code)] (fun v h => h = [] ∧ ∃ (x y : Int) (f : List (List Int)) (p : List Int), InR x ∧ InR y ∧ SmB f ∧ p.length ≤ 9 ∧ (∀ v, v ∈ p → InR v) ∧ v = .tu [.c (.int .i64 (x)), .c (.int .i64 (y)), .t (.rows f), .t (.ints .i64 p)]) := by
  refine fspec tyOk mx Try.func62 rfl (by kernel_rfl) rfl ?_
  conv => whnf
  refine ACallS.tmut 0 (sizes_spec code hc 0 0 (by omega)) ?_ rfl (by (repeat' (first | exact trivial | exact rfl | refine And.intro ?_ ?_)) <;> (try first | omega | (simp; done))) (by (repeat' (first | exact trivial | exact rfl | refine And.intro ?_ ?_)) <;> (try first | omega | (simp; done)))
  rintro v r ⟨x, y, a1, s1, rfl, hx, hy, e1, g1, rfl⟩
  conv => whnf
  refine ACallS.tmut 0 (fnDraw_spec code hc a1 s1 (by omega) x y) ?_ rfl (by (repeat' (first | exact trivial | exact rfl | refine And.intro ?_ ?_)) <;> (try first | omega | (simp; done))) (by (repeat' (first | exact trivial | exact rfl | refine And.intro ?_ ?_)) <;> (try first | omega | (simp; done)))
  rintro v r ⟨f, a2, s2, rfl, hf, e2, g2, rfl⟩
  conv => whnf
  refine ACallS.tmut 0 (play_spec code hc a2 s2 (by omega) x y) ?_ rfl (by (repeat' (first | exact trivial | exact rfl | refine And.intro ?_ ?_)) <;> (try first | omega | (simp; done))) (by (repeat' (first | exact trivial | exact rfl | refine And.intro ?_ ?_)) <;> (try first | omega | (simp; done)))
  rintro v r ⟨p, a3, s3, rfl, hp, hpi, _, _, rfl⟩
  conv => whnf
  exact ⟨rfl, x, y, f, p, hx, hy, hf, hp, hpi, rfl⟩
end Go.Proofs.Ytkomndcehdneaaa
/- Draws of FnBoxScores. -/
namespace Go.Proofs.Ytkomndcehdneaaa
open Go.Aw
set_option maxRecDepth 100000
set_option maxHeartbeats 4000000
/-- a drawn game and a box -/
def gameBT : AVal → List (Nat × ARow) → Prop := fun v h => h = [] ∧ ∃ (x y : Int) (ws : List Int) (m : List (List Int)) (bx by' bz : Int) (bm : List (List Int)), InR x ∧ InR y ∧ SmG ws m ∧ InR bx ∧ InR by' ∧ InR bz ∧ SmB bm ∧ v = .tu [.ag [.c (.int .i64 (x)), .c (.int .i64 (y)), .t (.ints .i64 ws), .t (.rows m)], .ag [.c (.int .i64 (bx)), .c (.int .i64 (by')), .c (.int .i64 (bz)), .t (.rows bm)]]
theorem DrawBoxScore_spec (code : List Int) (hc : OkB code) : FSpec Try.prog 76 [.t (.ints .u8 code)] gameBT := by
  refine fspec tyOk mx Try.func76 rfl (by kernel_rfl) rfl ?_
  conv => whnf
  refine ACallS.tmut 2 (box_spec code hc 0 0 (by omega)) ?_ rfl (by (repeat' (first | exact trivial | exact rfl | refine And.intro ?_ ?_)) <;> (try first | omega | (simp; done))) (by (repeat' (first | exact trivial | exact rfl | refine And.intro ?_ ?_)) <;> (try first | omega | (simp; done)))
  rintro v r ⟨bx, by', bz, bm, a1, s1, rfl, hbx, hby, hbz, hbm, e1, g1, rfl⟩
  conv => whnf
  refine ACallS.tmut 2 (one_spec code hc a1 s1 (by omega) 12 (by omega) (by omega)) ?_ rfl (by (repeat' (first | exact trivial | exact rfl | refine And.intro ?_ ?_)) <;> (try first | omega | (simp; done))) (by (repeat' (first | exact trivial | exact rfl | refine And.intro ?_ ?_)) <;> (try first | omega | (simp; done)))
  rintro v r ⟨c, a2, s2, rfl, e2, g2, rfl⟩
  conv => whnf
  refine ⟨fun h => ?_, fun h => ?_⟩
  · conv => whnf
    refine ADraw.planX [1] tyOk mx (.q 0 (.alti 1 (.alt 2 (.last 3 (.last 4 (.done))) (.last 3 (.last 2 (.last 4 (.done))))) (.last 2 (.inl 1 (.last 3 (.last 4 (.done)))))) : Plan) (by kernel_rfl) ?_
    conv => whnf
    repeat' (first | (refine And.intro ?_ ?_ <;> (conv => whnf)))
    all_goals
      refine ACallS.tmut 2 (game_spec code hc a2 s2 (by omega)) ?_ rfl (by (repeat' (first | exact trivial | exact rfl | refine And.intro ?_ ?_)) <;> (try first | omega | (simp; done))) (by (repeat' (first | exact trivial | exact rfl | refine And.intro ?_ ?_)) <;> (try first | omega | (simp; done)))
      rintro v r ⟨x, y, ws, m, a3, s3, rfl, hx, hy, hsm, _, _, rfl⟩
      conv => whnf
      repeat' (first
        | (exact ⟨rfl, x, y, ws, m, bx, by', bz, bm, hx, hy, hsm, hbx, hby, hbz, hbm, rfl⟩)
        | (refine And.intro ?_ ?_ <;> (conv => whnf)))
  · conv => whnf
    refine ADraw.planX [5] tyOk mx (.q 0 (.q 1 (.q 2 (.q 3 (.q 4 (.alti 5 (.alt 6 (.last 7 (.last 8 (.done))) (.last 7 (.last 6 (.last 8 (.done))))) (.last 6 (.inl 5 (.last 7 (.last 8 (.done)))))))))) : Plan) (by kernel_rfl) ?_
    conv => whnf
    repeat' (first | (refine And.intro ?_ ?_ <;> (conv => whnf)))
    all_goals
      refine ACallS.tmut 2 (gameOf_spec code hc a2 s2 (by omega) bx by') ?_ rfl (by (repeat' (first | exact trivial | exact rfl | refine And.intro ?_ ?_)) <;> (try first | omega | (simp; done))) (by (repeat' (first | exact trivial | exact rfl | refine And.intro ?_ ?_)) <;> (try first | omega | (simp; done)))
      rintro v r ⟨ws, m, a3, s3, rfl, hsm, _, _, rfl⟩
      conv => whnf
      repeat' (first
        | (exact ⟨rfl, bx, by', ws, m, bx, by', bz, bm, hbx, hby, hsm, hbx, hby, hbz, hbm, rfl⟩)
        | (refine And.intro ?_ ?_ <;> (conv => whnf)))
/-- a drawn game and a play -/
def gamePT : AVal → List (Nat × ARow) → Prop := fun v h => h = [] ∧ ∃ (x y : Int) (ws : List Int) (m : List (List Int)) (p : List Int), InR x ∧ InR y ∧ SmG ws m ∧ p.length ≤ 9 ∧ (∀ v, v ∈ p → InR v) ∧ v = .tu [.ag [.c (.int .i64 (x)), .c (.int .i64 (y)), .t (.ints .i64 ws), .t (.rows m)], .t (.ints .i64 p)]
theorem DrawPlayScore_spec (code : List Int) (hc : OkB code) : FSpec Try.prog 82 [.t (.ints .u8 code)] gamePT := by
  refine fspec tyOk mx Try.func82 rfl (by kernel_rfl) rfl ?_
  conv => whnf
  refine ACallS.tmut 1 (game_spec code hc 0 0 (by omega)) ?_ rfl (by (repeat' (first | exact trivial | exact rfl | refine And.intro ?_ ?_)) <;> (try first | omega | (simp; done))) (by (repeat' (first | exact trivial | exact rfl | refine And.intro ?_ ?_)) <;> (try first | omega | (simp; done)))
  rintro v r ⟨x, y, ws, m, a1, s1, rfl, hx, hy, hsm, e1, g1, rfl⟩
  conv => whnf
  refine ADraw.planX [6] tyOk mx (.q 1 (.q 2 (.q 3 (.q 4 (.q 5 (.alt 0 (.inl 6 (.last 7 (.q 8 (.done)))) (.inl 6 (.last 0 (.last 7 (.q 8 (.done)))))))))) : Plan) (by kernel_rfl) ?_
  conv => whnf
  repeat' (first | (refine And.intro ?_ ?_ <;> (conv => whnf)))
  all_goals
    refine ACallS.tmut 1 (play_spec code hc a1 s1 (by omega) x y) ?_ rfl (by (repeat' (first | exact trivial | exact rfl | refine And.intro ?_ ?_)) <;> (try first | omega | (simp; done))) (by (repeat' (first | exact trivial | exact rfl | refine And.intro ?_ ?_)) <;> (try first | omega | (simp; done)))
    rintro v r ⟨p, a2, s2, rfl, hp, hpi, _, _, rfl⟩
    conv => whnf
    repeat' (first
      | (exact ⟨rfl, x, y, ws, m, p, hx, hy, hsm, hp, hpi, rfl⟩)
      | (refine And.intro ?_ ?_ <;> (conv => whnf)))
/-- drawn weights and kinds -/
def signT (n : Nat) : AVal → List (Nat × ARow) → Prop := fun v h => h = [] ∧ ∃ (x y : Int) (ws odd : List Int), InR x ∧ InR y ∧ ws.length ≤ 16 ∧ (∀ v, v ∈ ws → InR v) ∧ odd.length ≤ n ∧ (∀ v, v ∈ odd → InR v) ∧ v = .tu [.c (.int .i64 (x)), .c (.int .i64 (y)), .t (.ints .i64 ws), .t (.ints .i64 odd)]
def signW : AVal → List (Nat × ARow) → Prop := fun v h => ∃ (x y : Int) (ws odd : List Int), InR x ∧ InR y ∧ ws.length ≤ 16 ∧ (∀ v, v ∈ ws → InR v) ∧ odd.length ≤ 16 ∧ (∀ v, v ∈ odd → InR v) ∧ v = .tu [.c (.int .i64 (x)), .c (.int .i64 (y)), .t (.ints .i64 ws), .own 0] ∧ h = [(0, .ints 3 .i64 odd)]
theorem DrawSignGame_spec (code : List Int) (hc : OkB code) : FSpec Try.prog 87 [.t (.ints .u8 code)] (signT 16) := by
  have key : FSpec Try.prog 87 [.t (.ints .u8 code)] signW := by
    refine fspec tyOk mx Try.func87 rfl (by kernel_rfl) rfl ?_
    conv => whnf
    refine ACallS.tmut 0 (sizes_spec code hc 0 0 (by omega)) ?_ rfl (by (repeat' (first | exact trivial | exact rfl | refine And.intro ?_ ?_)) <;> (try first | omega | (simp; done))) (by (repeat' (first | exact trivial | exact rfl | refine And.intro ?_ ?_)) <;> (try first | omega | (simp; done)))
    rintro v r ⟨x, y, a1, s1, rfl, hx, hy, e1, g1, rfl⟩
    conv => whnf
    refine ACallS.tmut 0 (gameOf_spec code hc a1 s1 (by omega) x y) ?_ rfl (by (repeat' (first | exact trivial | exact rfl | refine And.intro ?_ ?_)) <;> (try first | omega | (simp; done))) (by (repeat' (first | exact trivial | exact rfl | refine And.intro ?_ ?_)) <;> (try first | omega | (simp; done)))
    rintro v r ⟨ws, m, a2, s2, rfl, hsm, e2, g2, rfl⟩
    have hw := hsm.1
    conv => whnf
    refine aloopI tyOk mx (fun i : List Int × Nat × Int => (⟨54, [(6, .ptr 0 0), (7, .c (.int .i64 (x))), (8, .c (.int .i64 (y))), (9, .ptr 2 0), (10, .own 1), (11, .c (.int .i64 (i.1.length)))], [(0, cur code i.2.1 i.2.2), (1, .ints 3 .i64 i.1), (2, .cells 84 [.c (.int .i64 (x)), .c (.int .i64 (y)), .t (.ints .i64 ws), .t (.rows m)])], 3⟩ : St)) (fun i => i.1.length ≤ ws.length ∧ (∀ v, v ∈ i.1 → InR v) ∧ i.2.1 ≤ 5000 + 2 * i.1.length) (fun i => ws.length - i.1.length) ([], a2, s2) ⟨by simp, by simp, by simp only; omega⟩ none (by refine ⟨rfl, rfl, ?_, ?_⟩ <;> ((repeat' (first | exact trivial | exact rfl | refine And.intro ?_ ?_)) <;> (try ((conv => whnf); first | refine vint ?_ | refine vboo ?_ | refine rint ?_ | refine rrow ?_ | skip)) <;> (try first | omega | (simp; done) | ((repeat rw [flts_closed _ (by assumption)]); exact vws_closed _ (by assumption))))) (fun i hi => ?_)
    obtain ⟨l, a3, s3⟩ := i
    obtain ⟨h1, h2, h3⟩ := hi
    simp only at h1 h2 h3
    dsimp only
    refine ⟨fun h => ?_, fun h => ?_⟩
    · have h := ltT h
      conv => whnf
      refine ACallS.tmut 0 (pick_spec code hc a3 s3 (by omega) 2 (by omega) (by omega)) ?_ rfl (by (repeat' (first | exact trivial | exact rfl | refine And.intro ?_ ?_)) <;> (try first | omega | (simp; done))) (by (repeat' (first | exact trivial | exact rfl | refine And.intro ?_ ?_)) <;> (try first | omega | (simp; done)))
      rintro v r ⟨u, a4, s4, rfl, l_u, u_u, e_a4, g_a4, rfl⟩
      conv => whnf
      refine ⟨by simp [room]; omega, ?_⟩
      conv => whnf
      rw [nat_wrap (by omega)]
      refine ⟨(l ++ [_], a4, s4), none, (by refine ⟨rfl, rfl, ?_, ?_⟩ <;> ((repeat' (first | exact trivial | exact rfl | refine And.intro ?_ ?_)) <;> (try ((conv => whnf); first | refine vint ?_ | refine vboo ?_ | refine rint ?_ | refine rrow ?_ | skip)) <;> (try first | omega | (simp; done) | ((repeat rw [flts_closed _ (by assumption)]); exact vws_closed _ (by assumption))))), ⟨by simp only [List.length_append, List.length_singleton]; omega, in_app h2 (by unfold InR; omega), by simp only [List.length_append, List.length_singleton]; omega⟩, by simp only [List.length_append, List.length_singleton]; omega⟩
    · have h := ltF h
      conv => whnf
      refine ⟨fun hp => ?_, fun hp => ?_⟩
      · have hp : 0 < l.length := by have := of_decide_eq_true hp; omega
        conv => whnf
        refine ACallS.tmut 0 (one_spec code hc a3 s3 (by omega) 24 (by omega) (by omega)) ?_ rfl (by (repeat' (first | exact trivial | exact rfl | refine And.intro ?_ ?_)) <;> (try first | omega | (simp; done))) (by (repeat' (first | exact trivial | exact rfl | refine And.intro ?_ ?_)) <;> (try first | omega | (simp; done)))
        rintro v r ⟨b, a4, s4, rfl, e_a4, g_a4, rfl⟩
        conv => whnf
        refine ⟨fun hb => ?_, fun hb => ?_⟩
        · conv => whnf
          refine ACallS.inline tyOk mx Try.func116 rfl (by kernel_rfl) rfl ?_
          conv => whnf
          refine ACallS.tmut 0 (pick_spec code hc a4 s4 (by omega) 2 (by omega) (by omega)) ?_ rfl (by (repeat' (first | exact trivial | exact rfl | refine And.intro ?_ ?_)) <;> (try first | omega | (simp; done))) (by (repeat' (first | exact trivial | exact rfl | refine And.intro ?_ ?_)) <;> (try first | omega | (simp; done)))
          rintro v r ⟨y, a5, s5, rfl, y0, y1, e_a5, g_a5, rfl⟩
          conv => whnf
          obtain ⟨i, rfl, hi⟩ := nat_of (len := 2) y0 (by omega)
          refine ⟨i, rfl, hi, ?_⟩
          conv => whnf
          have h_z : -1 ≤ (((List.replicate 2 (0 : Int)).set 0 2).set 1 (-1)).getD i 0 ∧ (((List.replicate 2 (0 : Int)).set 0 2).set 1 (-1)).getD i 0 ≤ 2 := among_in (by kernel_rfl) hi
          generalize (((List.replicate 2 (0 : Int)).set 0 2).set 1 (-1)).getD i 0 = z at h_z ⊢
          refine ⟨rfl, ?_⟩
          conv => whnf
          clear y0 y1 hi
          refine ⟨0, rfl, hp, ?_⟩
          conv => whnf
          refine ADraw.plan tyOk mx (.q 0 (.q 1 (.q 2 (.q 3 (.q 4 (.q 5 (.q 6 (.q 7 (.q 8 (.done))))))))) : Plan) (by kernel_rfl) ?_
          conv => whnf
          repeat' (first
            | (exact ⟨x, y, ws, _, hx, hy, hw, hsm.2.1, by rw [List.length_set]; omega, in_set h2 0 (show InR z by unfold InR; omega), rfl, rfl⟩)
            | (refine And.intro ?_ ?_ <;> (conv => whnf)))
        · conv => whnf
          refine ADraw.plan tyOk mx (.q 0 (.q 1 (.q 2 (.q 3 (.q 4 (.q 5 (.q 6 (.q 7 (.q 8 (.done))))))))) : Plan) (by kernel_rfl) ?_
          conv => whnf
          repeat' (first
            | (exact ⟨x, y, ws, l, hx, hy, hw, hsm.2.1, by omega, h2, rfl, rfl⟩)
            | (refine And.intro ?_ ?_ <;> (conv => whnf)))
      · (repeat (conv => whnf); (first | refine ⟨fun h => absurd h (by decide), fun _ => ?_⟩ | refine ⟨fun _ => ?_, fun h => absurd h (by decide)⟩)); conv => whnf
        refine ADraw.plan tyOk mx (.q 0 (.q 1 (.q 2 (.q 3 (.q 4 (.q 5 (.q 6 (.q 7 (.q 8 (.done))))))))) : Plan) (by kernel_rfl) ?_
        conv => whnf
        repeat' (first
          | (exact ⟨x, y, ws, l, hx, hy, hw, hsm.2.1, by omega, h2, rfl, rfl⟩)
          | (refine And.intro ?_ ?_ <;> (conv => whnf)))
  refine FSpec.view key ?_
  rintro v h ⟨x, y, ws, odd, h1, h2, h3, h4, h5, h6, rfl, rfl⟩
  exact ⟨[], .tu [.c (.int .i64 (x)), .c (.int .i64 (y)), .t (.ints .i64 ws), .t (.ints .i64 odd)], [], rfl, trivial, ⟨rfl, rfl, rfl, ⟨rfl, rfl⟩, trivial⟩, rfl, x, y, ws, odd, h1, h2, h3, h4, h5, h6, rfl⟩
end Go.Proofs.Ytkomndcehdneaaa
/- Total weights; drawn games. -/
namespace Go.Proofs.Ytkomndcehdneaaa
open Go.Aw
set_option maxRecDepth 100000

theorem SmG.ok {ws : List Int} {m : List (List Int)} (h : SmG ws m) : OkI ws ∧ OkM m ∧ SzI ws ∧ SzM m := by
  obtain ⟨h1, h2, h3, h4⟩ := h
  refine ⟨⟨by omega, h2⟩, ⟨by omega, fun r hr => ⟨by have := (h4 r hr).1; omega, (h4 r hr).2⟩⟩, by unfold SzI; omega, ?_⟩
  have k1 := tot_le_mul (m := m) (n := 4) (fun r hr => (h4 r hr).1)
  have : m.length * 4 ≤ 16 * 4 := Nat.mul_le_mul_right 4 h3
  unfold SzM; omega

theorem TotalWeight_i (x y : Int) (s : List Int) (m : List (List Int)) (ks : SzI s) (km : SzM m) :
    FSpec Try.prog 92 [.ag [.c (.int .i64 (x)), .c (.int .i64 (y)), .t (.ints .i64 s), .t (.rows m)]] (ex (.tu [.c (.int .i64 (if goodG x y s m then sumF s s.length else 0)), .c (.bool (goodG x y s m))]) []) := by
  refine fspec tyOk mx Try.func92 rfl (by kernel_rfl) rfl ?_
  conv => whnf
  refine ACall.use (iIsGame_spec x y s m ks km) ?_
  conv => whnf
  refine ⟨fun h => ?_, fun h => ?_⟩
  · have h : goodG x y s m = false := by simpa using h
    conv => whnf
    exact ⟨by rw [h]; rfl, rfl⟩
  · have h : goodG x y s m = true := by simpa using h
    conv => whnf
    refine ACall.use (total_spec s ks) ?_
    conv => whnf
    exact ⟨by rw [h]; rfl, rfl⟩
end Go.Proofs.Ytkomndcehdneaaa
/- What the laws compare with. -/
namespace Go.Proofs.Ytkomndcehdneaaa
open Go.Aw
set_option maxRecDepth 100000

theorem vBig_spec (code : List Int) : FSpec Try.prog 9 [.t (.ints .u8 code)] (ex (.c (.bool (decide ((code.length : Int) > 65536)))) []) := by
  refine fspec tyOk mx Try.func9 rfl (by kernel_rfl) rfl ?_
  conv => whnf
  exact ⟨rfl, rfl⟩
theorem rBig_spec (code : List Int) : FSpec Try.prog 46 [.t (.ints .u8 code)] (ex (.c (.bool (decide ((code.length : Int) > 65536)))) []) := by
  refine fspec tyOk mx Try.func46 rfl (by kernel_rfl) rfl ?_
  conv => whnf
  exact ⟨rfl, rfl⟩
theorem vInts_spec (a b : List Int) (h : a.length ≤ 9223372036854775807) :
    FSpec Try.prog 24 [.t (.ints .i64 a), .t (.ints .i64 b)] (ex (.c (.bool (decide (a = b)))) []) := by
  refine fspec tyOk mx Try.func24 rfl (by kernel_rfl) rfl ?_
  refine ⟨fun hl => ?_, fun hl => ?_⟩
  · conv => whnf
    refine ⟨?_, rfl⟩
    rw [decide_eq_false]
    rintro rfl
    simp at hl
  · conv => whnf
    simp only [bne_eq_false_iff_eq, Int.natCast_inj] at hl
    refine aloopI tyOk mx (fun k : Nat => (⟨26, [(0, .t (.ints .i64 a)), (1, .t (.ints .i64 b)), (5, .c (.int .i64 (k : Int)))], [], 0⟩ : St)) (fun k => k ≤ a.length ∧ ∀ j, j < k → a[j]? = b[j]?) (fun k => a.length - k)
      0 ⟨by omega, fun j hj => by omega⟩ none (by refine ⟨rfl, rfl, ?_, ?_⟩ <;> ((repeat' (first | exact trivial | exact rfl | refine And.intro ?_ ?_)) <;> (try ((conv => whnf); first | refine vint ?_ | refine vboo ?_ | refine rint ?_ | refine rrow ?_ | skip)) <;> (try first | omega | (simp; done) | ((repeat rw [flts_closed _ (by assumption)]); exact vws_closed _ (by assumption))))) (fun k hI => ?_)
    obtain ⟨hk, hp⟩ := hI
    refine ⟨fun h => ?_, fun h => ?_⟩
    · conv => whnf
      have hk1 : k < a.length := by simpa using h
      refine ADraw.std tyOk mx ⟨by kernel_rfl, ⟨k, rfl, hk1, k, rfl, by omega, fun h => ?_, fun h => ?_⟩⟩
      · conv => whnf
        refine ⟨?_, rfl⟩
        rw [decide_eq_false]
        rintro rfl
        simp at h
      · conv => whnf
        simp only [bne_eq_false_iff_eq, List.getD_eq_getElem?_getD] at h
        rw [w64 (by omega) (by omega)]
        refine ⟨k + 1, none, (by refine ⟨rfl, rfl, ?_, ?_⟩ <;> ((repeat' (first | exact trivial | exact rfl | refine And.intro ?_ ?_)) <;> (try ((conv => whnf); first | refine vint ?_ | refine vboo ?_ | refine rint ?_ | refine rrow ?_ | skip)) <;> (try first | omega | (simp; done) | ((repeat rw [flts_closed _ (by assumption)]); exact vws_closed _ (by assumption))))), ⟨by omega, fun j hj => ?_⟩, by omega⟩
        by_cases e : j = k
        · subst e
          rw [List.getElem?_eq_getElem hk1, List.getElem?_eq_getElem (by omega)] at h ⊢
          simpa using h
        · exact hp j (by omega)
    · conv => whnf
      refine ⟨?_, rfl⟩
      rw [decide_eq_true]
      have hk1 : ¬ k < a.length := by simpa using h
      refine List.ext_getElem? (fun i => ?_)
      by_cases hi : i < k
      · exact hp i hi
      · rw [List.getElem?_eq_none (by omega), List.getElem?_eq_none (by omega)]
theorem vTable_spec (a b : List (List Int)) (h : a.length ≤ 9223372036854775807) (hr : ∀ r, r ∈ a → r.length ≤ 9223372036854775807) :
    FSpec Try.prog 40 [.t (.rows a), .t (.rows b)] (ex (.c (.bool (decide (a = b)))) []) := by
  refine fspec tyOk mx Try.func40 rfl (by kernel_rfl) rfl ?_
  refine ⟨fun hl => ?_, fun hl => ?_⟩
  · conv => whnf
    refine ⟨?_, rfl⟩
    rw [decide_eq_false]
    rintro rfl
    simp at hl
  · conv => whnf
    simp only [bne_eq_false_iff_eq, Int.natCast_inj] at hl
    refine aloopI tyOk mx (fun k : Nat => (⟨27, [(0, .t (.rows a)), (1, .t (.rows b)), (5, .c (.int .i64 (k : Int)))], [], 0⟩ : St)) (fun k => k ≤ a.length ∧ ∀ j, j < k → a[j]? = b[j]?) (fun k => a.length - k)
      0 ⟨by omega, fun j hj => by omega⟩ none (by refine ⟨rfl, rfl, ?_, ?_⟩ <;> ((repeat' (first | exact trivial | exact rfl | refine And.intro ?_ ?_)) <;> (try ((conv => whnf); first | refine vint ?_ | refine vboo ?_ | refine rint ?_ | refine rrow ?_ | skip)) <;> (try first | omega | (simp; done) | ((repeat rw [flts_closed _ (by assumption)]); exact vws_closed _ (by assumption))))) (fun k hI => ?_)
    obtain ⟨hk, hp⟩ := hI
    refine ⟨fun h => ?_, fun h => ?_⟩
    · conv => whnf
      have hk1 : k < a.length := by simpa using h
      have hkr : (a.getD k []).length ≤ 9223372036854775807 := by
        rw [List.getD_eq_getElem?_getD, List.getElem?_eq_getElem hk1]; exact hr _ (List.getElem_mem hk1)
      refine ADraw.std tyOk mx ⟨by kernel_rfl, k, rfl, hk1, k, rfl, by omega, ?_⟩
      conv => whnf
      refine QCall.use (vInts_spec _ _ hkr) ?_
      conv => whnf
      refine ⟨fun h => ?_, fun h => ?_⟩
      · conv => whnf
        refine ⟨?_, rfl⟩
        rw [decide_eq_false]
        rintro rfl
        simp at h
      · conv => whnf
        simp only [Bool.not_eq_false', decide_eq_true_eq, List.getD_eq_getElem?_getD] at h
        rw [w64 (by omega) (by omega)]
        refine ⟨k + 1, none, (by refine ⟨rfl, rfl, ?_, ?_⟩ <;> ((repeat' (first | exact trivial | exact rfl | refine And.intro ?_ ?_)) <;> (try ((conv => whnf); first | refine vint ?_ | refine vboo ?_ | refine rint ?_ | refine rrow ?_ | skip)) <;> (try first | omega | (simp; done) | ((repeat rw [flts_closed _ (by assumption)]); exact vws_closed _ (by assumption))))), ⟨by omega, fun j hj => ?_⟩, by omega⟩
        by_cases e : j = k
        · subst e
          rw [List.getElem?_eq_getElem hk1, List.getElem?_eq_getElem (by omega)] at h ⊢
          simpa using h
        · exact hp j (by omega)
    · conv => whnf
      refine ⟨?_, rfl⟩
      rw [decide_eq_true]
      have hk1 : ¬ k < a.length := by simpa using h
      refine List.ext_getElem? (fun i => ?_)
      by_cases hi : i < k
      · exact hp i hi
      · rw [List.getElem?_eq_none (by omega), List.getElem?_eq_none (by omega)]
end Go.Proofs.Ytkomndcehdneaaa
/- What the laws compare with (the other half's helpers). -/
namespace Go.Proofs.Ytkomndcehdneaaa
open Go.Aw
set_option maxRecDepth 100000

theorem rInts_spec (a b : List Int) (h : a.length ≤ 9223372036854775807) :
    FSpec Try.prog 75 [.t (.ints .i64 a), .t (.ints .i64 b)] (ex (.c (.bool (decide (a = b)))) []) := by
  refine fspec tyOk mx Try.func75 rfl (by kernel_rfl) rfl ?_
  refine ⟨fun hl => ?_, fun hl => ?_⟩
  · conv => whnf
    refine ⟨?_, rfl⟩
    rw [decide_eq_false]
    rintro rfl
    simp at hl
  · conv => whnf
    simp only [bne_eq_false_iff_eq, Int.natCast_inj] at hl
    refine aloopI tyOk mx (fun k : Nat => (⟨26, [(0, .t (.ints .i64 a)), (1, .t (.ints .i64 b)), (5, .c (.int .i64 (k : Int)))], [], 0⟩ : St)) (fun k => k ≤ a.length ∧ ∀ j, j < k → a[j]? = b[j]?) (fun k => a.length - k)
      0 ⟨by omega, fun j hj => by omega⟩ none (by refine ⟨rfl, rfl, ?_, ?_⟩ <;> ((repeat' (first | exact trivial | exact rfl | refine And.intro ?_ ?_)) <;> (try ((conv => whnf); first | refine vint ?_ | refine vboo ?_ | refine rint ?_ | refine rrow ?_ | skip)) <;> (try first | omega | (simp; done) | ((repeat rw [flts_closed _ (by assumption)]); exact vws_closed _ (by assumption))))) (fun k hI => ?_)
    obtain ⟨hk, hp⟩ := hI
    refine ⟨fun h => ?_, fun h => ?_⟩
    · conv => whnf
      have hk1 : k < a.length := by simpa using h
      refine ADraw.std tyOk mx ⟨by kernel_rfl, ⟨k, rfl, hk1, k, rfl, by omega, fun h => ?_, fun h => ?_⟩⟩
      · conv => whnf
        refine ⟨?_, rfl⟩
        rw [decide_eq_false]
        rintro rfl
        simp at h
      · conv => whnf
        simp only [bne_eq_false_iff_eq, List.getD_eq_getElem?_getD] at h
        rw [w64 (by omega) (by omega)]
        refine ⟨k + 1, none, (by refine ⟨rfl, rfl, ?_, ?_⟩ <;> ((repeat' (first | exact trivial | exact rfl | refine And.intro ?_ ?_)) <;> (try ((conv => whnf); first | refine vint ?_ | refine vboo ?_ | refine rint ?_ | refine rrow ?_ | skip)) <;> (try first | omega | (simp; done) | ((repeat rw [flts_closed _ (by assumption)]); exact vws_closed _ (by assumption))))), ⟨by omega, fun j hj => ?_⟩, by omega⟩
        by_cases e : j = k
        · subst e
          rw [List.getElem?_eq_getElem hk1, List.getElem?_eq_getElem (by omega)] at h ⊢
          simpa using h
        · exact hp j (by omega)
    · conv => whnf
      refine ⟨?_, rfl⟩
      rw [decide_eq_true]
      have hk1 : ¬ k < a.length := by simpa using h
      refine List.ext_getElem? (fun i => ?_)
      by_cases hi : i < k
      · exact hp i hi
      · rw [List.getElem?_eq_none (by omega), List.getElem?_eq_none (by omega)]
theorem rTable_spec (a b : List (List Int)) (h : a.length ≤ 9223372036854775807) (hr : ∀ r, r ∈ a → r.length ≤ 9223372036854775807) :
    FSpec Try.prog 81 [.t (.rows a), .t (.rows b)] (ex (.c (.bool (decide (a = b)))) []) := by
  refine fspec tyOk mx Try.func81 rfl (by kernel_rfl) rfl ?_
  refine ⟨fun hl => ?_, fun hl => ?_⟩
  · conv => whnf
    refine ⟨?_, rfl⟩
    rw [decide_eq_false]
    rintro rfl
    simp at hl
  · conv => whnf
    simp only [bne_eq_false_iff_eq, Int.natCast_inj] at hl
    refine aloopI tyOk mx (fun k : Nat => (⟨27, [(0, .t (.rows a)), (1, .t (.rows b)), (5, .c (.int .i64 (k : Int)))], [], 0⟩ : St)) (fun k => k ≤ a.length ∧ ∀ j, j < k → a[j]? = b[j]?) (fun k => a.length - k)
      0 ⟨by omega, fun j hj => by omega⟩ none (by refine ⟨rfl, rfl, ?_, ?_⟩ <;> ((repeat' (first | exact trivial | exact rfl | refine And.intro ?_ ?_)) <;> (try ((conv => whnf); first | refine vint ?_ | refine vboo ?_ | refine rint ?_ | refine rrow ?_ | skip)) <;> (try first | omega | (simp; done) | ((repeat rw [flts_closed _ (by assumption)]); exact vws_closed _ (by assumption))))) (fun k hI => ?_)
    obtain ⟨hk, hp⟩ := hI
    refine ⟨fun h => ?_, fun h => ?_⟩
    · conv => whnf
      have hk1 : k < a.length := by simpa using h
      have hkr : (a.getD k []).length ≤ 9223372036854775807 := by
        rw [List.getD_eq_getElem?_getD, List.getElem?_eq_getElem hk1]; exact hr _ (List.getElem_mem hk1)
      refine ADraw.std tyOk mx ⟨by kernel_rfl, k, rfl, hk1, k, rfl, by omega, ?_⟩
      conv => whnf
      refine QCall.use (rInts_spec _ _ hkr) ?_
      conv => whnf
      refine ⟨fun h => ?_, fun h => ?_⟩
      · conv => whnf
        refine ⟨?_, rfl⟩
        rw [decide_eq_false]
        rintro rfl
        simp at h
      · conv => whnf
        simp only [Bool.not_eq_false', decide_eq_true_eq, List.getD_eq_getElem?_getD] at h
        rw [w64 (by omega) (by omega)]
        refine ⟨k + 1, none, (by refine ⟨rfl, rfl, ?_, ?_⟩ <;> ((repeat' (first | exact trivial | exact rfl | refine And.intro ?_ ?_)) <;> (try ((conv => whnf); first | refine vint ?_ | refine vboo ?_ | refine rint ?_ | refine rrow ?_ | skip)) <;> (try first | omega | (simp; done) | ((repeat rw [flts_closed _ (by assumption)]); exact vws_closed _ (by assumption))))), ⟨by omega, fun j hj => ?_⟩, by omega⟩
        by_cases e : j = k
        · subst e
          rw [List.getElem?_eq_getElem hk1, List.getElem?_eq_getElem (by omega)] at h ⊢
          simpa using h
        · exact hp j (by omega)
    · conv => whnf
      refine ⟨?_, rfl⟩
      rw [decide_eq_true]
      have hk1 : ¬ k < a.length := by simpa using h
      refine List.ext_getElem? (fun i => ?_)
      by_cases hi : i < k
      · exact hp i hi
      · rw [List.getElem?_eq_none (by omega), List.getElem?_eq_none (by omega)]
theorem rBox_spec (x y z : Int) (m m' : List (List Int)) (hm : m.length ≤ 9223372036854775807) (hr : ∀ r, r ∈ m → r.length ≤ 9223372036854775807) :
    FSpec Try.prog 50 [.ag [.c (.int .i64 (x)), .c (.int .i64 (y)), .c (.int .i64 (z)), .t (.rows m)], .ag [.c (.int .i64 (x)), .c (.int .i64 (y)), .c (.int .i64 (z)), .t (.rows m')]] (ex (.c (.bool (decide (m = m')))) []) := by
  refine fspec tyOk mx Try.func50 rfl (by kernel_rfl) rfl ?_
  conv => whnf
  refine ⟨fun _ => ?_, fun h => absurd h (by simp)⟩
  conv => whnf
  refine ⟨fun _ => ?_, fun h => absurd h (by simp)⟩
  conv => whnf
  refine ⟨fun _ => ?_, fun h => absurd h (by simp)⟩
  conv => whnf
  refine ACall.use (rTable_spec m m' hm hr) ?_
  conv => whnf
  exact ⟨rfl, rfl⟩
theorem vBox_spec (x y z : Int) (m m' : List (List Int)) (hm : m.length ≤ 9223372036854775807) (hr : ∀ r, r ∈ m → r.length ≤ 9223372036854775807) :
    FSpec Try.prog 41 [.ag [.c (.int .i64 (x)), .c (.int .i64 (y)), .c (.int .i64 (z)), .t (.rows m)], .ag [.c (.int .i64 (x)), .c (.int .i64 (y)), .c (.int .i64 (z)), .t (.rows m')]] (ex (.c (.bool (decide (m = m')))) []) := by
  refine fspec tyOk mx Try.func41 rfl (by kernel_rfl) rfl ?_
  conv => whnf
  refine ⟨fun _ => ?_, fun h => absurd h (by simp)⟩
  conv => whnf
  refine ⟨fun _ => ?_, fun h => absurd h (by simp)⟩
  conv => whnf
  refine ⟨fun _ => ?_, fun h => absurd h (by simp)⟩
  conv => whnf
  refine ACall.use (vTable_spec m m' hm hr) ?_
  conv => whnf
  exact ⟨rfl, rfl⟩
theorem rGame_spec (x y : Int) (s s' : List Int) (m m' : List (List Int)) (hs : s.length ≤ 9223372036854775807) (hm : m.length ≤ 9223372036854775807) (hr : ∀ r, r ∈ m → r.length ≤ 9223372036854775807) :
    FSpec Try.prog 90 [.ag [.c (.int .i64 (x)), .c (.int .i64 (y)), .t (.ints .i64 s), .t (.rows m)], .ag [.c (.int .i64 (x)), .c (.int .i64 (y)), .t (.ints .i64 s'), .t (.rows m')]] (ex (.c (.bool (decide (s = s') && decide (m = m')))) []) := by
  refine fspec tyOk mx Try.func90 rfl (by kernel_rfl) rfl ?_
  conv => whnf
  refine ⟨fun _ => ?_, fun h => absurd h (by simp)⟩
  conv => whnf
  refine ⟨fun _ => ?_, fun h => absurd h (by simp)⟩
  conv => whnf
  refine ACall.use (rInts_spec s s' hs) ?_
  conv => whnf
  refine ⟨fun h => ?_, fun h => ?_⟩
  · conv => whnf
    refine ACall.use (rTable_spec m m' hm hr) ?_
    conv => whnf
    exact ⟨by rw [h, Bool.true_and], rfl⟩
  · conv => whnf
    exact ⟨by rw [h, Bool.false_and], rfl⟩
end Go.Proofs.Ytkomndcehdneaaa
