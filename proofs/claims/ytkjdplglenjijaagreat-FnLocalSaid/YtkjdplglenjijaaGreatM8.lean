/- Draws of boxes that may be spoilt. -/
import Derived.Test.YtkjdplglenjijaaGreatM7
namespace Go.Proofs.YtkjdplglenjijaaGreat
open Go.Aw
set_option maxRecDepth 100000
set_option maxHeartbeats 4000000

/-- a drawn box -/
def SmB (m : List (List Int)) : Prop := m.length ≤ 17 ∧ ∀ r, r ∈ m → r.length ≤ 4 ∧ ∀ v, v ∈ r → InR v
theorem R4.sm {m : List (List Int)} {n : Nat} (h : R4 m) (hn : m.length = n) (h16 : n ≤ 16) : SmB m := ⟨by omega, fun r hr => ⟨by have := (h r hr).1; omega, (h r hr).2⟩⟩
theorem SmB.nil : SmB [] := ⟨by simp, fun _ h => by simp at h⟩
theorem R4.smSet {m : List (List Int)} {n : Nat} (h : R4 m) (hn : m.length = n) (h16 : n ≤ 16) (i : Nat) {l : List Int} (hlv : l.length ≤ 4 ∧ ∀ v, v ∈ l → InR v) : SmB (m.set i l) := by
  obtain ⟨hl, hv⟩ := hlv
  refine ⟨by rw [List.length_set]; omega, fun r hr => ?_⟩
  rcases List.mem_or_eq_of_mem_set hr with h1 | rfl
  · exact ⟨by have := (h r h1).1; omega, (h r h1).2⟩
  · exact ⟨hl, hv⟩
theorem R4.smApp {m : List (List Int)} {n : Nat} (h : R4 m) (hn : m.length = n) (h16 : n ≤ 16) {l : List Int} (hlv : l.length ≤ 4 ∧ ∀ v, v ∈ l → InR v) : SmB (m ++ [l]) := by
  obtain ⟨hl, hv⟩ := hlv
  refine ⟨by rw [List.length_append, List.length_singleton]; omega, fun r hr => ?_⟩
  rcases List.mem_append.1 hr with h1 | h1
  · exact ⟨by have := (h r h1).1; omega, (h r h1).2⟩
  · rw [List.mem_singleton] at h1; subst h1; exact ⟨hl, hv⟩
def drawnBx (code : List Int) (a k : Nat) (v : AVal) (r : ARow) : Prop :=
  ∃ (x y z : Int) (m : List (List Int)) (a' : Nat) (s' : Int), v = .ag [.c (.int .i64 x), .c (.int .i64 y), .c (.int .i64 z), .t (.rows m)] ∧ InR x ∧ InR y ∧ InR z ∧ SmB m ∧ a ≤ a' ∧ a' ≤ a + k ∧ r = cur code a' s'
/-- .. or nothing -/
def drawnBp (code : List Int) (a k : Nat) (v : AVal) (r : ARow) : Prop := drawnBx code a k v r ∨
  ∃ (a' : Nat) (s' : Int), v = .ag [.c (.int .i64 0), .c (.int .i64 0), .c (.int .i64 0), .c (.slice none 0 0)] ∧ a ≤ a' ∧ a' ≤ a + k ∧ r = cur code a' s'
theorem drawnB_tell {f : FuncId} {r0 : ARow} {args : List AVal} {code : List Int} {a k : Nat} (h : TSpec Tryz.prog f r0 args (drawnBp code a k)) : TSpec Tryz.prog f r0 args (drawnBx code a k) := by
  refine TSpec.tell h (fun x r hs hp => ?_)
  rcases hp with hp | ⟨a', s', rfl, e1, e2, rfl⟩
  · exact ⟨x, hs, hp, fun _ _ _ h => h⟩
  · refine ⟨.ag [.c (.int .i64 0), .c (.int .i64 0), .c (.int .i64 0), .t (.rows [])], rfl, ⟨0, 0, 0, [], a', s', rfl, inr0, inr0, inr0, SmB.nil, e1, e2, rfl⟩, ?_⟩
    rintro w bad v ⟨cs, rfl, hv⟩
    match cs, hv with
    | [v0, v1, v2, v3], ⟨h0, h1, h2, h3, _⟩ => exact ⟨[v0, v1, v2, v3], rfl, h0, h1, h2, rep_nilR h3, trivial⟩

theorem le4 {l : List Int} (h : l.length = 4 ∧ ∀ v, v ∈ l → InR v) : l.length ≤ 4 ∧ ∀ v, v ∈ l → InR v := ⟨by omega, h.2⟩
theorem sp3 {z : Int} (hz : InR z) : ((((List.replicate 3 (0 : Int)).set 0 z).set 1 0).set 2 0).length ≤ 4 ∧ ∀ v, v ∈ ((((List.replicate 3 (0 : Int)).set 0 z).set 1 0).set 2 0) → InR v := by
  refine ⟨by simp, fun v hv => ?_⟩
  have hv : v ∈ ([z, 0, 0] : List Int) := hv
  simp only [List.mem_cons, List.not_mem_nil, or_false] at hv
  rcases hv with rfl | rfl | rfl
  · exact hz
  · exact inr0
  · exact inr0
theorem sp_in (z : Int) : rowIn (((((List.replicate 4 (0 : Int)).set 0 0).set 1 (-1)).set 2 1001).set 3 (IntKind.i64.wrap (z + 1))) (-9223372036854775808) 9223372036854775807 = true := by
  refine rowIn_iff.2 (fun v hv => ?_)
  have hv : v ∈ ([0, -1, 1001, IntKind.i64.wrap (z + 1)] : List Int) := hv
  have h := W_inr (z + 1)
  unfold InR at h
  simp only [List.mem_cons, List.not_mem_nil, or_false] at hv
  rcases hv with rfl | rfl | rfl | rfl
  · omega
  · omega
  · omega
  · exact h

theorem quietBox_spec (code : List Int) (hc : OkB code) (a : Nat) (s : Int) (ha : a ≤ 600000000) :
    TSpec Tryz.prog 75 (cur code a s) [.ptr 0 0] (drawnBx code a 1100) := by
  refine drawnB_tell ?_
  refine tspec tyOk mx Tryz.func75 rfl (by kernel_rfl) rfl rfl ?_
  conv => whnf
  refine ACallS.tmut 0 (sizes_spec code hc a s (by omega)) ?_ rfl (by (repeat' (first | exact trivial | exact rfl | refine And.intro ?_ ?_)) <;> (try first | omega | (simp; done))) (by (repeat' (first | exact trivial | exact rfl | refine And.intro ?_ ?_)) <;> (try first | omega | (simp; done)))
  rintro v r ⟨x, y, a1, s1, rfl, hx, hy, e1, g1, rfl⟩
  have nxy : near x * near y ≤ 4 * 4 := Nat.mul_le_mul (near_le x) (near_le y)
  conv => whnf
  refine ACallS.tmut 0 (one_spec code hc a1 s1 (by omega) 8 (by omega) (by omega)) ?_ rfl (by (repeat' (first | exact trivial | exact rfl | refine And.intro ?_ ?_)) <;> (try first | omega | (simp; done))) (by (repeat' (first | exact trivial | exact rfl | refine And.intro ?_ ?_)) <;> (try first | omega | (simp; done)))
  rintro v r ⟨b, a2, s2, rfl, e_a2, g_a2, rfl⟩
  conv => whnf
  refine ⟨fun hb => ?_, fun hb => ?_⟩
  · conv => whnf
    refine ACallS.omut 0 (someBox_spec code hc a2 s2 (by omega) x y) ?_ rfl (by (repeat' (first | exact trivial | exact rfl | refine And.intro ?_ ?_)) <;> (try first | omega | (simp; done))) (by (repeat' (first | exact trivial | exact rfl | refine And.intro ?_ ?_)) <;> (try first | omega | (simp; done)))
    rintro v h r ⟨z, m, a3, s3, hz, hm, h4, rfl, rfl, e3, g3, rfl⟩
    conv => whnf
    refine ACallS.inline tyOk mx Tryz.func104 rfl (by kernel_rfl) rfl ?_
    conv => whnf
    refine ACallS.tmut 0 (pick_spec code hc a3 s3 (by omega) 50 (by omega) (by omega)) ?_ rfl (by (repeat' (first | exact trivial | exact rfl | refine And.intro ?_ ?_)) <;> (try first | omega | (simp; done))) (by (repeat' (first | exact trivial | exact rfl | refine And.intro ?_ ?_)) <;> (try first | omega | (simp; done)))
    rintro v r ⟨c, a4, s4, rfl, l_c, u_c, e_a4, g_a4, rfl⟩
    conv => whnf
    refine ⟨fun h0 => ?_, fun h0 => ?_⟩
    · conv => whnf
      refine ACallS.give ?_
      refine ACallS.tmutL (among_spec code hc a4 s4 (by omega) _ (by kernel_rfl) (-9223372036854775808) 9223372036854775807 (sp_in z)) ?_ rfl (by (repeat' (first | exact trivial | exact rfl | refine And.intro ?_ ?_)) <;> (try first | omega | (simp; done)))
      rintro v r ⟨q, a5, s5, rfl, lq, uq, e5, g5, rfl⟩
      conv => whnf
      refine ⟨rfl, ?_⟩
      conv => whnf
      exact .inl ⟨x, y, q, m, a5, s5, rfl, hx, hy, ⟨lq, uq⟩, h4.sm hm nxy, by omega, by omega, rfl⟩
    · conv => whnf
      refine ⟨fun h1 => ?_, fun h1 => ?_⟩
      · conv => whnf
        refine ⟨fun hp => ?_, fun hp => ?_⟩
        · have hp : 0 < (m).length := by have := of_decide_eq_true hp; omega
          conv => whnf
          refine ⟨0, rfl, hp, ?_⟩
          conv => whnf
          refine ⟨fun hl => ?_, fun hl => ?_⟩
          · have hl : ((m).getD 0 []).length = 4 := by have := beq_iff_eq.1 hl; omega
            have hr4 := h4 _ (getD_mem (d := []) hp)
            refine ADraw.plan tyOk mx (.q 0 (.q 1 (.q 2 (.q 3 (.q 4 (.q 5 (.q 6 (.q 7 (.q 8 (.q 9 (.q 10 (.q 11 (.q 12 (.q 13 (.q 14 (.q 15 (.q 16 (.q 17 (.q 18 (.q 19 (.q 20 (.q 21 (.q 22 (.q 23 (.q 24 (.q 25 (.q 26 (.q 27 (.last 28 (.q 29 (.last 30 (.done))))))))))))))))))))))))))))))) : Plan) (by kernel_rfl) ?_
            conv => whnf
            repeat' (first
              | (refine ⟨rfl, ?_⟩; (conv => whnf); exact .inl ⟨x, y, z, List.set m 0 _, a4, s4, rfl, hx, hy, hz, h4.smSet hm nxy 0 (le4 (set4 (set4 (set4 (set4 rep4 _ (W_inr _)) _ (W_inr _)) _ (getI hr4.2 _)) _ (getI hr4.2 _))), by omega, by omega, rfl⟩; done)
              | (refine ⟨0, rfl, by omega, ?_⟩; conv => whnf)
              | (refine ⟨1, rfl, by omega, ?_⟩; conv => whnf)
              | (refine ⟨2, rfl, by omega, ?_⟩; conv => whnf)
              | (refine ⟨3, rfl, by omega, ?_⟩; conv => whnf)
              | (refine And.intro ?_ ?_ <;> (conv => whnf)))
          · (repeat (conv => whnf); (first | refine ⟨fun h => absurd h (by decide), fun _ => ?_⟩ | refine ⟨fun _ => ?_, fun h => absurd h (by decide)⟩)); conv => whnf
            refine ⟨rfl, ?_⟩
            conv => whnf
            exact .inl ⟨x, y, z, m, a4, s4, rfl, hx, hy, hz, h4.sm hm nxy, by omega, by omega, rfl⟩
        · (repeat (conv => whnf); (first | refine ⟨fun h => absurd h (by decide), fun _ => ?_⟩ | refine ⟨fun _ => ?_, fun h => absurd h (by decide)⟩)); conv => whnf
          refine ⟨rfl, ?_⟩
          conv => whnf
          exact .inl ⟨x, y, z, m, a4, s4, rfl, hx, hy, hz, h4.sm hm nxy, by omega, by omega, rfl⟩
      · conv => whnf
        refine ⟨fun h2 => ?_, fun h2 => ?_⟩
        · conv => whnf
          refine ⟨by simp [room]; omega, ?_⟩
          conv => whnf
          refine ⟨rfl, ?_⟩
          conv => whnf
          exact .inl ⟨x, y, z, m ++ [_], a4, s4, rfl, hx, hy, hz, h4.smApp hm nxy (le4 (set4 (set4 (set4 (set4 rep4 _ (by unfold InR; omega)) _ inr0) _ inr0) _ inr0)), by omega, by omega, rfl⟩
        · conv => whnf
          refine ⟨fun h3 => ?_, fun h3 => ?_⟩
          · conv => whnf
            refine ⟨fun hp => ?_, fun hp => ?_⟩
            · have hp : 0 < (m).length := by have := of_decide_eq_true hp; omega
              conv => whnf
              refine ⟨0, rfl, hp, ?_⟩
              conv => whnf
              refine ⟨rfl, ?_⟩
              conv => whnf
              exact .inl ⟨x, y, z, List.set m 0 _, a4, s4, rfl, hx, hy, hz, h4.smSet hm nxy 0 (sp3 hz), by omega, by omega, rfl⟩
            · conv => whnf
              refine ⟨rfl, ?_⟩
              conv => whnf
              exact .inl ⟨x, y, z, m, a4, s4, rfl, hx, hy, hz, h4.sm hm nxy, by omega, by omega, rfl⟩
          · conv => whnf
            refine ⟨fun h5 => ?_, fun h5 => ?_⟩
            · conv => whnf
              refine ⟨rfl, ?_⟩
              conv => whnf
              exact .inr ⟨a4, s4, rfl, by omega, by omega, rfl⟩
            · conv => whnf
              refine ⟨rfl, ?_⟩
              conv => whnf
              exact .inl ⟨x, y, z, m, a4, s4, rfl, hx, hy, hz, h4.sm hm nxy, by omega, by omega, rfl⟩
  · conv => whnf
    refine ACallS.omut 0 (quietOf_spec code hc a2 s2 (by omega) x y) ?_ rfl (by (repeat' (first | exact trivial | exact rfl | refine And.intro ?_ ?_)) <;> (try first | omega | (simp; done))) (by (repeat' (first | exact trivial | exact rfl | refine And.intro ?_ ?_)) <;> (try first | omega | (simp; done)))
    rintro v h r ⟨z, m, a3, s3, hz, hm, h4, rfl, rfl, e3, g3, rfl⟩
    conv => whnf
    refine ACallS.inline tyOk mx Tryz.func104 rfl (by kernel_rfl) rfl ?_
    conv => whnf
    refine ACallS.tmut 0 (pick_spec code hc a3 s3 (by omega) 50 (by omega) (by omega)) ?_ rfl (by (repeat' (first | exact trivial | exact rfl | refine And.intro ?_ ?_)) <;> (try first | omega | (simp; done))) (by (repeat' (first | exact trivial | exact rfl | refine And.intro ?_ ?_)) <;> (try first | omega | (simp; done)))
    rintro v r ⟨c, a4, s4, rfl, l_c, u_c, e_a4, g_a4, rfl⟩
    conv => whnf
    refine ⟨fun h0 => ?_, fun h0 => ?_⟩
    · conv => whnf
      refine ACallS.give ?_
      refine ACallS.tmutL (among_spec code hc a4 s4 (by omega) _ (by kernel_rfl) (-9223372036854775808) 9223372036854775807 (sp_in z)) ?_ rfl (by (repeat' (first | exact trivial | exact rfl | refine And.intro ?_ ?_)) <;> (try first | omega | (simp; done)))
      rintro v r ⟨q, a5, s5, rfl, lq, uq, e5, g5, rfl⟩
      conv => whnf
      refine ⟨rfl, ?_⟩
      conv => whnf
      exact .inl ⟨x, y, q, m, a5, s5, rfl, hx, hy, ⟨lq, uq⟩, h4.sm hm nxy, by omega, by omega, rfl⟩
    · conv => whnf
      refine ⟨fun h1 => ?_, fun h1 => ?_⟩
      · conv => whnf
        refine ⟨fun hp => ?_, fun hp => ?_⟩
        · have hp : 0 < (m).length := by have := of_decide_eq_true hp; omega
          conv => whnf
          refine ⟨0, rfl, hp, ?_⟩
          conv => whnf
          refine ⟨fun hl => ?_, fun hl => ?_⟩
          · have hl : ((m).getD 0 []).length = 4 := by have := beq_iff_eq.1 hl; omega
            have hr4 := h4 _ (getD_mem (d := []) hp)
            refine ADraw.plan tyOk mx (.q 0 (.q 1 (.q 2 (.q 3 (.q 4 (.q 5 (.q 6 (.q 7 (.q 8 (.q 9 (.q 10 (.q 11 (.q 12 (.q 13 (.q 14 (.q 15 (.q 16 (.q 17 (.q 18 (.q 19 (.q 20 (.q 21 (.q 22 (.q 23 (.q 24 (.q 25 (.q 26 (.q 27 (.last 28 (.q 29 (.last 30 (.done))))))))))))))))))))))))))))))) : Plan) (by kernel_rfl) ?_
            conv => whnf
            repeat' (first
              | (refine ⟨rfl, ?_⟩; (conv => whnf); exact .inl ⟨x, y, z, List.set m 0 _, a4, s4, rfl, hx, hy, hz, h4.smSet hm nxy 0 (le4 (set4 (set4 (set4 (set4 rep4 _ (W_inr _)) _ (W_inr _)) _ (getI hr4.2 _)) _ (getI hr4.2 _))), by omega, by omega, rfl⟩; done)
              | (refine ⟨0, rfl, by omega, ?_⟩; conv => whnf)
              | (refine ⟨1, rfl, by omega, ?_⟩; conv => whnf)
              | (refine ⟨2, rfl, by omega, ?_⟩; conv => whnf)
              | (refine ⟨3, rfl, by omega, ?_⟩; conv => whnf)
              | (refine And.intro ?_ ?_ <;> (conv => whnf)))
          · (repeat (conv => whnf); (first | refine ⟨fun h => absurd h (by decide), fun _ => ?_⟩ | refine ⟨fun _ => ?_, fun h => absurd h (by decide)⟩)); conv => whnf
            refine ⟨rfl, ?_⟩
            conv => whnf
            exact .inl ⟨x, y, z, m, a4, s4, rfl, hx, hy, hz, h4.sm hm nxy, by omega, by omega, rfl⟩
        · (repeat (conv => whnf); (first | refine ⟨fun h => absurd h (by decide), fun _ => ?_⟩ | refine ⟨fun _ => ?_, fun h => absurd h (by decide)⟩)); conv => whnf
          refine ⟨rfl, ?_⟩
          conv => whnf
          exact .inl ⟨x, y, z, m, a4, s4, rfl, hx, hy, hz, h4.sm hm nxy, by omega, by omega, rfl⟩
      · conv => whnf
        refine ⟨fun h2 => ?_, fun h2 => ?_⟩
        · conv => whnf
          refine ⟨by simp [room]; omega, ?_⟩
          conv => whnf
          refine ⟨rfl, ?_⟩
          conv => whnf
          exact .inl ⟨x, y, z, m ++ [_], a4, s4, rfl, hx, hy, hz, h4.smApp hm nxy (le4 (set4 (set4 (set4 (set4 rep4 _ (by unfold InR; omega)) _ inr0) _ inr0) _ inr0)), by omega, by omega, rfl⟩
        · conv => whnf
          refine ⟨fun h3 => ?_, fun h3 => ?_⟩
          · conv => whnf
            refine ⟨fun hp => ?_, fun hp => ?_⟩
            · have hp : 0 < (m).length := by have := of_decide_eq_true hp; omega
              conv => whnf
              refine ⟨0, rfl, hp, ?_⟩
              conv => whnf
              refine ⟨rfl, ?_⟩
              conv => whnf
              exact .inl ⟨x, y, z, List.set m 0 _, a4, s4, rfl, hx, hy, hz, h4.smSet hm nxy 0 (sp3 hz), by omega, by omega, rfl⟩
            · conv => whnf
              refine ⟨rfl, ?_⟩
              conv => whnf
              exact .inl ⟨x, y, z, m, a4, s4, rfl, hx, hy, hz, h4.sm hm nxy, by omega, by omega, rfl⟩
          · conv => whnf
            refine ⟨fun h5 => ?_, fun h5 => ?_⟩
            · conv => whnf
              refine ⟨rfl, ?_⟩
              conv => whnf
              exact .inr ⟨a4, s4, rfl, by omega, by omega, rfl⟩
            · conv => whnf
              refine ⟨rfl, ?_⟩
              conv => whnf
              exact .inl ⟨x, y, z, m, a4, s4, rfl, hx, hy, hz, h4.sm hm nxy, by omega, by omega, rfl⟩

theorem box_spec (code : List Int) (hc : OkB code) (a : Nat) (s : Int) (ha : a ≤ 600000000) :
    TSpec Tryz.prog 74 (cur code a s) [.ptr 0 0] (drawnBx code a 1100) := by
  refine drawnB_tell ?_
  refine tspec tyOk mx Tryz.func74 rfl (by kernel_rfl) rfl rfl ?_
  conv => whnf
  refine ACallS.tmut 0 (sizes_spec code hc a s (by omega)) ?_ rfl (by (repeat' (first | exact trivial | exact rfl | refine And.intro ?_ ?_)) <;> (try first | omega | (simp; done))) (by (repeat' (first | exact trivial | exact rfl | refine And.intro ?_ ?_)) <;> (try first | omega | (simp; done)))
  rintro v r ⟨x, y, a1, s1, rfl, hx, hy, e1, g1, rfl⟩
  have nxy : near x * near y ≤ 4 * 4 := Nat.mul_le_mul (near_le x) (near_le y)
  conv => whnf
  refine ACallS.tmut 0 (one_spec code hc a1 s1 (by omega) 2 (by omega) (by omega)) ?_ rfl (by (repeat' (first | exact trivial | exact rfl | refine And.intro ?_ ?_)) <;> (try first | omega | (simp; done))) (by (repeat' (first | exact trivial | exact rfl | refine And.intro ?_ ?_)) <;> (try first | omega | (simp; done)))
  rintro v r ⟨b, a2, s2, rfl, e_a2, g_a2, rfl⟩
  conv => whnf
  refine ⟨fun hb => ?_, fun hb => ?_⟩
  · conv => whnf
    refine ACallS.omut 0 (someBox_spec code hc a2 s2 (by omega) x y) ?_ rfl (by (repeat' (first | exact trivial | exact rfl | refine And.intro ?_ ?_)) <;> (try first | omega | (simp; done))) (by (repeat' (first | exact trivial | exact rfl | refine And.intro ?_ ?_)) <;> (try first | omega | (simp; done)))
    rintro v h r ⟨z, m, a3, s3, hz, hm, h4, rfl, rfl, e3, g3, rfl⟩
    conv => whnf
    refine ACallS.inline tyOk mx Tryz.func104 rfl (by kernel_rfl) rfl ?_
    conv => whnf
    refine ACallS.tmut 0 (pick_spec code hc a3 s3 (by omega) 50 (by omega) (by omega)) ?_ rfl (by (repeat' (first | exact trivial | exact rfl | refine And.intro ?_ ?_)) <;> (try first | omega | (simp; done))) (by (repeat' (first | exact trivial | exact rfl | refine And.intro ?_ ?_)) <;> (try first | omega | (simp; done)))
    rintro v r ⟨c, a4, s4, rfl, l_c, u_c, e_a4, g_a4, rfl⟩
    conv => whnf
    refine ⟨fun h0 => ?_, fun h0 => ?_⟩
    · conv => whnf
      refine ACallS.give ?_
      refine ACallS.tmutL (among_spec code hc a4 s4 (by omega) _ (by kernel_rfl) (-9223372036854775808) 9223372036854775807 (sp_in z)) ?_ rfl (by (repeat' (first | exact trivial | exact rfl | refine And.intro ?_ ?_)) <;> (try first | omega | (simp; done)))
      rintro v r ⟨q, a5, s5, rfl, lq, uq, e5, g5, rfl⟩
      conv => whnf
      refine ⟨rfl, ?_⟩
      conv => whnf
      exact .inl ⟨x, y, q, m, a5, s5, rfl, hx, hy, ⟨lq, uq⟩, h4.sm hm nxy, by omega, by omega, rfl⟩
    · conv => whnf
      refine ⟨fun h1 => ?_, fun h1 => ?_⟩
      · conv => whnf
        refine ⟨fun hp => ?_, fun hp => ?_⟩
        · have hp : 0 < (m).length := by have := of_decide_eq_true hp; omega
          conv => whnf
          refine ⟨0, rfl, hp, ?_⟩
          conv => whnf
          refine ⟨fun hl => ?_, fun hl => ?_⟩
          · have hl : ((m).getD 0 []).length = 4 := by have := beq_iff_eq.1 hl; omega
            have hr4 := h4 _ (getD_mem (d := []) hp)
            refine ADraw.plan tyOk mx (.q 0 (.q 1 (.q 2 (.q 3 (.q 4 (.q 5 (.q 6 (.q 7 (.q 8 (.q 9 (.q 10 (.q 11 (.q 12 (.q 13 (.q 14 (.q 15 (.q 16 (.q 17 (.q 18 (.q 19 (.q 20 (.q 21 (.q 22 (.q 23 (.q 24 (.q 25 (.q 26 (.q 27 (.last 28 (.q 29 (.last 30 (.done))))))))))))))))))))))))))))))) : Plan) (by kernel_rfl) ?_
            conv => whnf
            repeat' (first
              | (refine ⟨rfl, ?_⟩; (conv => whnf); exact .inl ⟨x, y, z, List.set m 0 _, a4, s4, rfl, hx, hy, hz, h4.smSet hm nxy 0 (le4 (set4 (set4 (set4 (set4 rep4 _ (W_inr _)) _ (W_inr _)) _ (getI hr4.2 _)) _ (getI hr4.2 _))), by omega, by omega, rfl⟩; done)
              | (refine ⟨0, rfl, by omega, ?_⟩; conv => whnf)
              | (refine ⟨1, rfl, by omega, ?_⟩; conv => whnf)
              | (refine ⟨2, rfl, by omega, ?_⟩; conv => whnf)
              | (refine ⟨3, rfl, by omega, ?_⟩; conv => whnf)
              | (refine And.intro ?_ ?_ <;> (conv => whnf)))
          · (repeat (conv => whnf); (first | refine ⟨fun h => absurd h (by decide), fun _ => ?_⟩ | refine ⟨fun _ => ?_, fun h => absurd h (by decide)⟩)); conv => whnf
            refine ⟨rfl, ?_⟩
            conv => whnf
            exact .inl ⟨x, y, z, m, a4, s4, rfl, hx, hy, hz, h4.sm hm nxy, by omega, by omega, rfl⟩
        · (repeat (conv => whnf); (first | refine ⟨fun h => absurd h (by decide), fun _ => ?_⟩ | refine ⟨fun _ => ?_, fun h => absurd h (by decide)⟩)); conv => whnf
          refine ⟨rfl, ?_⟩
          conv => whnf
          exact .inl ⟨x, y, z, m, a4, s4, rfl, hx, hy, hz, h4.sm hm nxy, by omega, by omega, rfl⟩
      · conv => whnf
        refine ⟨fun h2 => ?_, fun h2 => ?_⟩
        · conv => whnf
          refine ⟨by simp [room]; omega, ?_⟩
          conv => whnf
          refine ⟨rfl, ?_⟩
          conv => whnf
          exact .inl ⟨x, y, z, m ++ [_], a4, s4, rfl, hx, hy, hz, h4.smApp hm nxy (le4 (set4 (set4 (set4 (set4 rep4 _ (by unfold InR; omega)) _ inr0) _ inr0) _ inr0)), by omega, by omega, rfl⟩
        · conv => whnf
          refine ⟨fun h3 => ?_, fun h3 => ?_⟩
          · conv => whnf
            refine ⟨fun hp => ?_, fun hp => ?_⟩
            · have hp : 0 < (m).length := by have := of_decide_eq_true hp; omega
              conv => whnf
              refine ⟨0, rfl, hp, ?_⟩
              conv => whnf
              refine ⟨rfl, ?_⟩
              conv => whnf
              exact .inl ⟨x, y, z, List.set m 0 _, a4, s4, rfl, hx, hy, hz, h4.smSet hm nxy 0 (sp3 hz), by omega, by omega, rfl⟩
            · conv => whnf
              refine ⟨rfl, ?_⟩
              conv => whnf
              exact .inl ⟨x, y, z, m, a4, s4, rfl, hx, hy, hz, h4.sm hm nxy, by omega, by omega, rfl⟩
          · conv => whnf
            refine ⟨fun h5 => ?_, fun h5 => ?_⟩
            · conv => whnf
              refine ⟨rfl, ?_⟩
              conv => whnf
              exact .inr ⟨a4, s4, rfl, by omega, by omega, rfl⟩
            · conv => whnf
              refine ⟨rfl, ?_⟩
              conv => whnf
              exact .inl ⟨x, y, z, m, a4, s4, rfl, hx, hy, hz, h4.sm hm nxy, by omega, by omega, rfl⟩
  · conv => whnf
    refine ACallS.omut 0 (quietOf_spec code hc a2 s2 (by omega) x y) ?_ rfl (by (repeat' (first | exact trivial | exact rfl | refine And.intro ?_ ?_)) <;> (try first | omega | (simp; done))) (by (repeat' (first | exact trivial | exact rfl | refine And.intro ?_ ?_)) <;> (try first | omega | (simp; done)))
    rintro v h r ⟨z, m, a3, s3, hz, hm, h4, rfl, rfl, e3, g3, rfl⟩
    conv => whnf
    refine ACallS.inline tyOk mx Tryz.func104 rfl (by kernel_rfl) rfl ?_
    conv => whnf
    refine ACallS.tmut 0 (pick_spec code hc a3 s3 (by omega) 50 (by omega) (by omega)) ?_ rfl (by (repeat' (first | exact trivial | exact rfl | refine And.intro ?_ ?_)) <;> (try first | omega | (simp; done))) (by (repeat' (first | exact trivial | exact rfl | refine And.intro ?_ ?_)) <;> (try first | omega | (simp; done)))
    rintro v r ⟨c, a4, s4, rfl, l_c, u_c, e_a4, g_a4, rfl⟩
    conv => whnf
    refine ⟨fun h0 => ?_, fun h0 => ?_⟩
    · conv => whnf
      refine ACallS.give ?_
      refine ACallS.tmutL (among_spec code hc a4 s4 (by omega) _ (by kernel_rfl) (-9223372036854775808) 9223372036854775807 (sp_in z)) ?_ rfl (by (repeat' (first | exact trivial | exact rfl | refine And.intro ?_ ?_)) <;> (try first | omega | (simp; done)))
      rintro v r ⟨q, a5, s5, rfl, lq, uq, e5, g5, rfl⟩
      conv => whnf
      refine ⟨rfl, ?_⟩
      conv => whnf
      exact .inl ⟨x, y, q, m, a5, s5, rfl, hx, hy, ⟨lq, uq⟩, h4.sm hm nxy, by omega, by omega, rfl⟩
    · conv => whnf
      refine ⟨fun h1 => ?_, fun h1 => ?_⟩
      · conv => whnf
        refine ⟨fun hp => ?_, fun hp => ?_⟩
        · have hp : 0 < (m).length := by have := of_decide_eq_true hp; omega
          conv => whnf
          refine ⟨0, rfl, hp, ?_⟩
          conv => whnf
          refine ⟨fun hl => ?_, fun hl => ?_⟩
          · have hl : ((m).getD 0 []).length = 4 := by have := beq_iff_eq.1 hl; omega
            have hr4 := h4 _ (getD_mem (d := []) hp)
            refine ADraw.plan tyOk mx (.q 0 (.q 1 (.q 2 (.q 3 (.q 4 (.q 5 (.q 6 (.q 7 (.q 8 (.q 9 (.q 10 (.q 11 (.q 12 (.q 13 (.q 14 (.q 15 (.q 16 (.q 17 (.q 18 (.q 19 (.q 20 (.q 21 (.q 22 (.q 23 (.q 24 (.q 25 (.q 26 (.q 27 (.last 28 (.q 29 (.last 30 (.done))))))))))))))))))))))))))))))) : Plan) (by kernel_rfl) ?_
            conv => whnf
            repeat' (first
              | (refine ⟨rfl, ?_⟩; (conv => whnf); exact .inl ⟨x, y, z, List.set m 0 _, a4, s4, rfl, hx, hy, hz, h4.smSet hm nxy 0 (le4 (set4 (set4 (set4 (set4 rep4 _ (W_inr _)) _ (W_inr _)) _ (getI hr4.2 _)) _ (getI hr4.2 _))), by omega, by omega, rfl⟩; done)
              | (refine ⟨0, rfl, by omega, ?_⟩; conv => whnf)
              | (refine ⟨1, rfl, by omega, ?_⟩; conv => whnf)
              | (refine ⟨2, rfl, by omega, ?_⟩; conv => whnf)
              | (refine ⟨3, rfl, by omega, ?_⟩; conv => whnf)
              | (refine And.intro ?_ ?_ <;> (conv => whnf)))
          · (repeat (conv => whnf); (first | refine ⟨fun h => absurd h (by decide), fun _ => ?_⟩ | refine ⟨fun _ => ?_, fun h => absurd h (by decide)⟩)); conv => whnf
            refine ⟨rfl, ?_⟩
            conv => whnf
            exact .inl ⟨x, y, z, m, a4, s4, rfl, hx, hy, hz, h4.sm hm nxy, by omega, by omega, rfl⟩
        · (repeat (conv => whnf); (first | refine ⟨fun h => absurd h (by decide), fun _ => ?_⟩ | refine ⟨fun _ => ?_, fun h => absurd h (by decide)⟩)); conv => whnf
          refine ⟨rfl, ?_⟩
          conv => whnf
          exact .inl ⟨x, y, z, m, a4, s4, rfl, hx, hy, hz, h4.sm hm nxy, by omega, by omega, rfl⟩
      · conv => whnf
        refine ⟨fun h2 => ?_, fun h2 => ?_⟩
        · conv => whnf
          refine ⟨by simp [room]; omega, ?_⟩
          conv => whnf
          refine ⟨rfl, ?_⟩
          conv => whnf
          exact .inl ⟨x, y, z, m ++ [_], a4, s4, rfl, hx, hy, hz, h4.smApp hm nxy (le4 (set4 (set4 (set4 (set4 rep4 _ (by unfold InR; omega)) _ inr0) _ inr0) _ inr0)), by omega, by omega, rfl⟩
        · conv => whnf
          refine ⟨fun h3 => ?_, fun h3 => ?_⟩
          · conv => whnf
            refine ⟨fun hp => ?_, fun hp => ?_⟩
            · have hp : 0 < (m).length := by have := of_decide_eq_true hp; omega
              conv => whnf
              refine ⟨0, rfl, hp, ?_⟩
              conv => whnf
              refine ⟨rfl, ?_⟩
              conv => whnf
              exact .inl ⟨x, y, z, List.set m 0 _, a4, s4, rfl, hx, hy, hz, h4.smSet hm nxy 0 (sp3 hz), by omega, by omega, rfl⟩
            · conv => whnf
              refine ⟨rfl, ?_⟩
              conv => whnf
              exact .inl ⟨x, y, z, m, a4, s4, rfl, hx, hy, hz, h4.sm hm nxy, by omega, by omega, rfl⟩
          · conv => whnf
            refine ⟨fun h5 => ?_, fun h5 => ?_⟩
            · conv => whnf
              refine ⟨rfl, ?_⟩
              conv => whnf
              exact .inr ⟨a4, s4, rfl, by omega, by omega, rfl⟩
            · conv => whnf
              refine ⟨rfl, ?_⟩
              conv => whnf
              exact .inl ⟨x, y, z, m, a4, s4, rfl, hx, hy, hz, h4.sm hm nxy, by omega, by omega, rfl⟩
end Go.Proofs.YtkjdplglenjijaaGreat
