/- Draws of what the laws of extreme boxes ask. -/
import Derived.Test.YtkomndcehdneaaaGreatM12
import Derived.Test.YtkomndcehdneaaaGreatM5
import Derived.Test.YtkomndcehdneaaaGreatM2
import Derived.Test.YtkomndcehdneaaaGreatM3
import Derived.Test.YtkomndcehdneaaaGreatM11
namespace Go.Proofs.YtkomndcehdneaaaGreat
open Go.Aw
set_option maxRecDepth 100000
set_option maxHeartbeats 4000000

theorem div23 {x : Int} (h0 : 0 ≤ x) (h1 : x < max 24 1) : ∃ q : Int, IntKind.i64.wrap (Int.tdiv x 23) = q ∧ 0 ≤ q ∧ q ≤ 1 := by
  have : x.tdiv 23 = x / 23 := Int.tdiv_eq_ediv_of_nonneg h0
  rw [this]
  exact ⟨x / 23, w64 (by omega) (by omega), by omega, by omega⟩
/-- a drawn number -/
def numP : AVal → List (Nat × ARow) → Prop := fun v h => h = [] ∧ ∃ k : Int, InR k ∧ v = .c (.int .i64 k)
theorem drawn_in {code : List Int} {a k : Nat} {lo hi : Int} {v : AVal} {r : ARow} (h : drawn code a k lo hi v r) (h1 : -9223372036854775808 ≤ lo) (h2 : hi ≤ 9223372036854775807) : ∃ (x : Int) (a' : Nat) (s' : Int), v = .c (.int .i64 x) ∧ InR x ∧ a ≤ a' ∧ a' ≤ a + k ∧ r = cur code a' s' := by
  obtain ⟨x, a', s', e, l, u, h3, h4, h5⟩ := h
  exact ⟨x, a', s', e, by unfold InR; omega, h3, h4, h5⟩


/-- a drawn box, read-only -/
def boxT : AVal → List (Nat × ARow) → Prop := fun v h => h = [] ∧ ∃ (x y z : Int) (m : List (List Int)), InR x ∧ InR y ∧ InR z ∧ SmB m ∧ v = .ag [.c (.int .i64 x), .c (.int .i64 y), .c (.int .i64 z), .t (.rows m)]
theorem SmB.ok {m : List (List Int)} (h : SmB m) : OkM m ∧ SzM m := by
  obtain ⟨h3, h4⟩ := h
  refine ⟨⟨by omega, fun r hr => ⟨by have := (h4 r hr).1; omega, (h4 r hr).2⟩⟩, ?_⟩
  have k1 := tot_le_mul (m := m) (n := 4) (fun r hr => (h4 r hr).1)
  have : m.length * 4 ≤ 17 * 4 := Nat.mul_le_mul_right 4 h3
  unfold SzM; omega

theorem DrawIsExtreme_spec (code : List Int) (hc : OkB code) : FSpec Tryz.prog 101 [.t (.ints .u8 code)] boxT := by
  refine fspec tyOk mx Tryz.func101 rfl (by kernel_rfl) rfl ?_
  conv => whnf
  refine ACallS.tmut 1 (quietTwo_spec code hc 0 0 (by omega)) ?_ rfl (by (repeat' (first | exact trivial | exact rfl | refine And.intro ?_ ?_)) <;> (try first | omega | (simp; done))) (by (repeat' (first | exact trivial | exact rfl | refine And.intro ?_ ?_)) <;> (try first | omega | (simp; done)))
  rintro v r ⟨x, y, z, m, a1, s1, rfl, hx, hy, hz, hm, _, _, rfl⟩
  conv => whnf
  exact ⟨rfl, x, y, z, m, hx, hy, hz, hm, rfl⟩
/-- a drawn box: the function's own, nothing, or read-only -/
def boxW : AVal → List (Nat × ARow) → Prop := fun v h =>
  ((∃ (x y z : Int) (m : List (List Int)) (a' : Nat) (_s' : Int), v = .ag [.c (.int .i64 x), .c (.int .i64 y), .c (.int .i64 z), .own 0] ∧ InR x ∧ InR y ∧ InR z ∧ SmB m ∧ 0 ≤ a' ∧ a' ≤ 3000 ∧ h = [(0, .rows 38 3 true m)]) ∨ boxT v h) ∨
  ∃ (a' : Nat) (_s' : Int), v = .ag [.c (.int .i64 0), .c (.int .i64 0), .c (.int .i64 0), .c (.slice none 0 0)] ∧ 0 ≤ a' ∧ a' ≤ 3000 ∧ h = []
theorem boxW_tell {f : FuncId} {args : List AVal} (h : FSpec Tryz.prog f args boxW) : FSpec Tryz.prog f args boxT := by
  have h1 : FSpec Tryz.prog f args (fun v h => (∃ (x y z : Int) (m : List (List Int)), InR x ∧ InR y ∧ InR z ∧ SmB m ∧ v = .ag [.c (.int .i64 x), .c (.int .i64 y), .c (.int .i64 z), .own 0] ∧ h = [(0, .rows 38 3 true m)]) ∨ boxT v h) := by
    refine FSpec.view h (fun v hr hp => ?_)
    rcases hp with (⟨x, y, z, m, a', s', rfl, hx, hy, hz, hm, _, _, rfl⟩ | ⟨rfl, x, y, z, m, hx, hy, hz, hm, rfl⟩) | ⟨a', s', rfl, _, _, rfl⟩
    · exact ⟨[(0, .row 0)], .ag [.c (.int .i64 x), .c (.int .i64 y), .c (.int .i64 z), .own 0], [(0, .rows 38 3 true m)], rfl, ⟨rfl, rfl, trivial⟩, ⟨rfl, rfl, rfl, ⟨rfl, rfl⟩, trivial⟩, .inl ⟨x, y, z, m, hx, hy, hz, hm, rfl, rfl⟩⟩
    · exact ⟨[], .ag [.c (.int .i64 x), .c (.int .i64 y), .c (.int .i64 z), .t (.rows m)], [], rfl, trivial, ⟨rfl, rfl, rfl, rfl, trivial⟩, .inr ⟨rfl, x, y, z, m, hx, hy, hz, hm, rfl⟩⟩
    · exact ⟨[(0, .nil)], .ag [.c (.int .i64 0), .c (.int .i64 0), .c (.int .i64 0), .own 0], [(0, .rows 38 3 true [])], rfl, ⟨rfl, trivial, trivial⟩, ⟨rfl, rfl, rfl, ⟨rfl, rfl, rfl⟩, trivial⟩, .inl ⟨0, 0, 0, [], inr0, inr0, inr0, SmB.nil, rfl, rfl⟩⟩
  refine FSpec.view h1 (fun v hr hp => ?_)
  rcases hp with ⟨x, y, z, m, hx, hy, hz, hm, rfl, rfl⟩ | ⟨rfl, x, y, z, m, hx, hy, hz, hm, rfl⟩
  · exact ⟨[], .ag [.c (.int .i64 x), .c (.int .i64 y), .c (.int .i64 z), .t (.rows m)], [], rfl, trivial, ⟨rfl, rfl, rfl, ⟨rfl, rfl⟩, trivial⟩, rfl, x, y, z, m, hx, hy, hz, hm, rfl⟩
  · exact ⟨[], .ag [.c (.int .i64 x), .c (.int .i64 y), .c (.int .i64 z), .t (.rows m)], [], rfl, trivial, ⟨rfl, rfl, rfl, rfl, trivial⟩, rfl, x, y, z, m, hx, hy, hz, hm, rfl⟩

end Go.Proofs.YtkomndcehdneaaaGreat
/- Draws of games. -/
namespace Go.Proofs.YtkomndcehdneaaaGreat
open Go.Aw
set_option maxRecDepth 100000
set_option maxHeartbeats 4000000

theorem cut34 {z : Int} (h0 : 0 ≤ z) (h1 : z < max 2 1) : ∃ h : Nat, IntKind.i64.wrap (3 + z) = h ∧ h ≤ 4 := ⟨(3 + z).toNat, by rw [w64 (by omega) (by omega)]; omega, by omega⟩
theorem in4 (z1 z2 z3 z4 : Int) (h1 : InR z1) (h2 : InR z2) (h3 : InR z3) (h4 : InR z4) : (((((List.replicate 4 (0 : Int)).set 0 z1).set 1 z2).set 2 z3).set 3 z4).length = 4 ∧ ∀ v, v ∈ ((((List.replicate 4 (0 : Int)).set 0 z1).set 1 z2).set 2 z3).set 3 z4 → InR v := by
  show [z1, z2, z3, z4].length = 4 ∧ ∀ v, v ∈ [z1, z2, z3, z4] → InR v
  refine ⟨rfl, fun v hv => ?_⟩
  simp only [List.mem_cons, List.not_mem_nil, or_false] at hv
  rcases hv with rfl | rfl | rfl | rfl
  · exact h1
  · exact h2
  · exact h3
  · exact h4
/-- a drawn game -/
def SmG (ws : List Int) (m : List (List Int)) : Prop := ws.length ≤ 16 ∧ (∀ v, v ∈ ws → InR v) ∧ m.length ≤ 16 ∧ ∀ r, r ∈ m → r.length ≤ 4 ∧ ∀ v, v ∈ r → InR v
def drawnG (code : List Int) (a k : Nat) (x y : Int) (v : AVal) (r : ARow) : Prop :=
  ∃ (ws : List Int) (m : List (List Int)) (a' : Nat) (s' : Int), v = .ag [.c (.int .i64 x), .c (.int .i64 y), .t (.ints .i64 ws), .t (.rows m)] ∧ SmG ws m ∧ a ≤ a' ∧ a' ≤ a + k ∧ r = cur code a' s'
abbrev g0 : ARow := .cells 41 [.c (.int .i64 (0)), .c (.int .i64 (0)), .c (.slice none 0 0), .c (.slice none 0 0)]

theorem gameOf_spec (code : List Int) (hc : OkB code) (a : Nat) (s : Int) (ha : a ≤ 700000000) (x y : Int) :
    TSpec Tryz.prog 165 (cur code a s) [.ptr 0 0, .c (.int .i64 (x)), .c (.int .i64 (y))] (drawnG code a 1000 x y) := by
  have nx := near_le x
  have ny := near_le y
  have nxy : near x * near y ≤ 4 * 4 := Nat.mul_le_mul nx ny
  generalize hN : near x * near y = N at nxy
  refine tspec tyOk mx Tryz.func165 rfl (by kernel_rfl) rfl rfl ?_
  conv => whnf
  refine ACallS.tmut 0 (one_spec code hc a s (by omega) 2 (by omega) (by omega)) ?_ rfl (by (repeat' (first | exact trivial | exact rfl | refine And.intro ?_ ?_)) <;> (try first | omega | (simp; done))) (by (repeat' (first | exact trivial | exact rfl | refine And.intro ?_ ?_)) <;> (try first | omega | (simp; done)))
  rintro v r ⟨sg, a1, s1, rfl, e_a1, g_a1, rfl⟩
  conv => whnf
  refine aloopI tyOk mx (fun i : List Int × List (List Int) × Nat × Int => (⟨107, [(0, .ptr 0 0), (1, .c (.int .i64 (x))), (2, .c (.int .i64 (y))), (6, .ptr 1 0), (7, .ptr 2 0), (8, .c (.bool sg)), (9, .c (.int .i64 (i.1.length))), (107, .ptr 0 0)], [(0, cur code i.2.2.1 i.2.2.2), (1, g0), (2, .cells 41 [.c (.int .i64 (x)), .c (.int .i64 (y)), .own 3, .own 4]), (3, .ints 3 .i64 i.1), (4, .rows 38 3 true i.2.1)], 5⟩ : St)) (fun i => i.1.length ≤ N ∧ i.2.1.length = i.1.length ∧ (∀ v, v ∈ i.1 → InR v) ∧ (∀ r, r ∈ i.2.1 → r.length = 4 ∧ ∀ v, v ∈ r → InR v) ∧ a ≤ i.2.2.1 ∧ i.2.2.1 ≤ a + 2 + 20 * i.1.length) (fun i => N - i.1.length) ([], [], a1, s1) ⟨by simp, by simp, by simp, by simp, by simp only; omega, by simp; omega⟩ (some [(0,.row 0),(1,.row 1),(2,.row 2),(3,.nil),(4,.nil)]) (by (refine ⟨rfl, rfl, ?_, ?_⟩ <;> ((repeat' (first | exact trivial | exact rfl | refine And.intro ?_ ?_)) <;> (try ((conv => whnf); first | refine vint ?_ | refine vboo ?_ | refine rint ?_ | refine rrow ?_ | skip)) <;> (try first | omega | (simp; done) | ((repeat rw [flts_closed _ (by assumption)]); exact vws_closed _ (by assumption)))))) (fun i hi => ?_)
  obtain ⟨ws, m, a2, s2⟩ := i
  obtain ⟨h1, h2, h3, h4, h5, h6⟩ := hi
  simp only at h1 h2 h3 h4 h5 h6
  dsimp only
  conv => whnf
  refine ACall.use (l2Near_spec _) ?_
  conv => whnf
  refine ACall.use (l2Near_spec _) ?_
  conv => whnf
  have eN : IntKind.i64.wrap ((near x : Int) * (near y : Int)) = (N : Int) := by rw [← Int.natCast_mul, hN]; exact w64 (by omega) (by omega)
  rw [eN]
  refine ⟨fun h => ?_, fun h => ?_⟩
  · have h := ltT h
    conv => whnf
    refine ADraw.midI (ι := Int × Nat × Int) (fun j => (⟨107, [(0, .ptr 0 0), (1, .c (.int .i64 (x))), (2, .c (.int .i64 (y))), (6, .ptr 1 0), (7, .ptr 2 0), (8, .c (.bool sg)), (9, .c (.int .i64 (ws.length))), (107, .ptr 0 0)], [(0, cur code j.2.1 j.2.2), (1, g0), (2, .cells 41 [.c (.int .i64 (x)), .c (.int .i64 (y)), .own 3, .own 4]), (3, .ints 3 .i64 (ws ++ [j.1])), (4, .rows 38 3 true m)], 5⟩ : St)) (fun j => InR j.1 ∧ a2 ≤ j.2.1 ∧ j.2.1 ≤ a2 + 2) (ADraw.planX [4] tyOk mx (.q 0 (.q 2 (.alt 1 (.last 3 (.inl 4 (.last 5 (.last 6 (.q 7 (.last 8 (.done))))))) (.last 3 (.alt 1 (.inl 4 (.last 5 (.last 6 (.q 7 (.last 8 (.done)))))) (.inl 4 (.alt 1 (.last 5 (.last 6 (.q 7 (.last 8 (.done))))) (.last 5 (.last 1 (.last 6 (.q 7 (.last 8 (.done)))))))))))) : Plan) (by kernel_rfl) ?_) ?_
    · conv => whnf
      repeat' (first
        | (refine ACallS.inline tyOk mx Tryz.func151 rfl (by kernel_rfl) rfl ?_; (conv => whnf); refine ACallS.tmut 0 (pick_spec code hc a2 s2 (by omega) 5 (by omega) (by omega)) ?_ rfl (by (repeat' (first | exact trivial | exact rfl | refine And.intro ?_ ?_)) <;> (try first | omega | (simp; done))) (by (repeat' (first | exact trivial | exact rfl | refine And.intro ?_ ?_)) <;> (try first | omega | (simp; done))); rintro v r ⟨y, a3, s3, rfl, y0, y1, e_a3, g_a3, rfl⟩; (conv => whnf); obtain ⟨i, rfl, hi⟩ := nat_of (len := 5) y0 (by omega); refine ⟨i, rfl, hi, ?_⟩; (conv => whnf); have h_z : 0 ≤ ((((((List.replicate 5 (0 : Int)).set 0 1).set 1 1).set 2 2).set 3 0).set 4 3).getD i 0 ∧ ((((((List.replicate 5 (0 : Int)).set 0 1).set 1 1).set 2 2).set 3 0).set 4 3).getD i 0 ≤ 3 := among_in (by kernel_rfl) hi; generalize ((((((List.replicate 5 (0 : Int)).set 0 1).set 1 1).set 2 2).set 3 0).set 4 3).getD i 0 = z at h_z ⊢; refine ⟨rfl, ?_⟩; (conv => whnf); clear y0 y1 hi)
        | (show ws.length + 1 ≤ room; unfold room; omega)
        | (refine ⟨(z, a3, s3), none, (by (refine ⟨rfl, rfl, ?_, ?_⟩ <;> ((repeat' (first | exact trivial | exact rfl | refine And.intro ?_ ?_)) <;> (try ((conv => whnf); first | refine vint ?_ | refine vboo ?_ | refine rint ?_ | refine rrow ?_ | skip)) <;> (try first | omega | (simp; done) | ((repeat rw [flts_closed _ (by assumption)]); exact vws_closed _ (by assumption)))))), ⟨by unfold InR; omega, e_a3, g_a3⟩⟩; done)
        | (refine And.intro ?_ ?_ <;> (conv => whnf)))
    · rintro ⟨z, a3, s3⟩ ⟨hz, e3, g3⟩
      simp only at hz e3 g3
      dsimp only
      conv => whnf
      have fin : ∀ (l : List Int) (a' : Nat) (s' : Int), (l.length = 4 ∧ ∀ v, v ∈ l → InR v) → a3 ≤ a' → a' ≤ a3 + 8 →
          (ws ++ [z], m ++ [l], a', s').1.length ≤ N ∧ (ws ++ [z], m ++ [l], a', s').2.1.length = (ws ++ [z], m ++ [l], a', s').1.length ∧ (∀ v, v ∈ (ws ++ [z], m ++ [l], a', s').1 → InR v) ∧
          (∀ r, r ∈ (ws ++ [z], m ++ [l], a', s').2.1 → r.length = 4 ∧ ∀ v, v ∈ r → InR v) ∧ a ≤ (ws ++ [z], m ++ [l], a', s').2.2.1 ∧ (ws ++ [z], m ++ [l], a', s').2.2.1 ≤ a + 2 + 20 * (ws ++ [z], m ++ [l], a', s').1.length := fun l a' s' hl l1 l2 => by
        simp only [List.length_append, List.length_singleton]
        refine ⟨by omega, by omega, fun v hv => ?_, fun r hr => ?_, by omega, by omega⟩
        · rcases List.mem_append.1 hv with h | h
          · exact h3 v h
          · rw [List.mem_singleton] at h; rw [h]; exact hz
        · rcases List.mem_append.1 hr with h | h
          · exact h4 r h
          · rw [List.mem_singleton] at h; rw [h]; exact hl
      have hroom : m.length + 1 ≤ room := by unfold room; omega
      have e1 : IntKind.i64.wrap ((ws.length : Int) + 1) = ((ws.length + 1 : Nat) : Int) := nat_wrap (by omega)
      refine ⟨fun hs => ?_, fun hs => ?_⟩
      · subst hs
        refine ACallS.tmut 0 (one_spec code hc a3 s3 (by omega) 3 (by omega) (by omega)) ?_ rfl (by (repeat' (first | exact trivial | exact rfl | refine And.intro ?_ ?_)) <;> (try first | omega | (simp; done))) (by (repeat' (first | exact trivial | exact rfl | refine And.intro ?_ ?_)) <;> (try first | omega | (simp; done)))
        rintro v r ⟨b, a4, s4, rfl, e_a4, g_a4, rfl⟩
        conv => whnf
        refine ⟨fun hb => ?_, fun hb => ?_⟩
        · conv => whnf
          (repeat (conv => whnf); (first | refine ⟨fun h => absurd h (by decide), fun _ => ?_⟩ | refine ⟨fun _ => ?_, fun h => absurd h (by decide)⟩)); conv => whnf
          refine ⟨hroom, ?_⟩
          conv => whnf
          rw [e1]
          refine ⟨(ws ++ [z], m ++ [_], a4, s4), none, (by refine ⟨rfl, rfl, ?_, ?_⟩ <;> ((repeat' (first | exact trivial | exact rfl | refine And.intro ?_ ?_)) <;> (try ((conv => whnf); first | refine vint ?_ | refine vboo ?_ | refine rint ?_ | refine rrow ?_ | skip)) <;> (try first | omega | (simp; done) | ((repeat rw [flts_closed _ (by assumption)]); exact vws_closed _ (by assumption))))), fin _ _ _ (in4 _ _ _ _ (by unfold InR; omega) (by unfold InR; omega) (by unfold InR; omega) (by unfold InR; omega)) (by omega) (by omega), by simp; omega⟩
        · conv => whnf
          (repeat (conv => whnf); (first | refine ⟨fun h => absurd h (by decide), fun _ => ?_⟩ | refine ⟨fun _ => ?_, fun h => absurd h (by decide)⟩)); conv => whnf
          refine ⟨hroom, ?_⟩
          conv => whnf
          rw [e1]
          refine ⟨(ws ++ [z], m ++ [_], a4, s4), none, (by refine ⟨rfl, rfl, ?_, ?_⟩ <;> ((repeat' (first | exact trivial | exact rfl | refine And.intro ?_ ?_)) <;> (try ((conv => whnf); first | refine vint ?_ | refine vboo ?_ | refine rint ?_ | refine rrow ?_ | skip)) <;> (try first | omega | (simp; done) | ((repeat rw [flts_closed _ (by assumption)]); exact vws_closed _ (by assumption))))), fin _ _ _ (in4 _ _ _ _ (by unfold InR; omega) (by unfold InR; omega) (by unfold InR; omega) (by unfold InR; omega)) (by omega) (by omega), by simp; omega⟩
      · subst hs
        (repeat (conv => whnf); (first | refine ⟨fun h => absurd h (by decide), fun _ => ?_⟩ | refine ⟨fun _ => ?_, fun h => absurd h (by decide)⟩)); conv => whnf
        refine ACallS.tmut 0 (pick_spec code hc a3 s3 (by omega) 2 (by omega) (by omega)) ?_ rfl (by (repeat' (first | exact trivial | exact rfl | refine And.intro ?_ ?_)) <;> (try first | omega | (simp; done))) (by (repeat' (first | exact trivial | exact rfl | refine And.intro ?_ ?_)) <;> (try first | omega | (simp; done)))
        rintro v r ⟨z1, a4, s4, rfl, l_z1, u_z1, e_a4, g_a4, rfl⟩
        conv => whnf
        refine ACallS.tmut 0 (pick_spec code hc a4 s4 (by omega) 2 (by omega) (by omega)) ?_ rfl (by (repeat' (first | exact trivial | exact rfl | refine And.intro ?_ ?_)) <;> (try first | omega | (simp; done))) (by (repeat' (first | exact trivial | exact rfl | refine And.intro ?_ ?_)) <;> (try first | omega | (simp; done)))
        rintro v r ⟨z2, a5, s5, rfl, l_z2, u_z2, e_a5, g_a5, rfl⟩
        conv => whnf
        refine ACallS.tmut 0 (pick_spec code hc a5 s5 (by omega) 2 (by omega) (by omega)) ?_ rfl (by (repeat' (first | exact trivial | exact rfl | refine And.intro ?_ ?_)) <;> (try first | omega | (simp; done))) (by (repeat' (first | exact trivial | exact rfl | refine And.intro ?_ ?_)) <;> (try first | omega | (simp; done)))
        rintro v r ⟨z3, a6, s6, rfl, l_z3, u_z3, e_a6, g_a6, rfl⟩
        conv => whnf
        refine ACallS.tmut 0 (pick_spec code hc a6 s6 (by omega) 2 (by omega) (by omega)) ?_ rfl (by (repeat' (first | exact trivial | exact rfl | refine And.intro ?_ ?_)) <;> (try first | omega | (simp; done))) (by (repeat' (first | exact trivial | exact rfl | refine And.intro ?_ ?_)) <;> (try first | omega | (simp; done)))
        rintro v r ⟨z4, a7, s7, rfl, l_z4, u_z4, e_a7, g_a7, rfl⟩
        conv => whnf
        refine ⟨hroom, ?_⟩
        conv => whnf
        rw [e1]
        refine ⟨(ws ++ [z], m ++ [_], a7, s7), none, (by refine ⟨rfl, rfl, ?_, ?_⟩ <;> ((repeat' (first | exact trivial | exact rfl | refine And.intro ?_ ?_)) <;> (try ((conv => whnf); first | refine vint ?_ | refine vboo ?_ | refine rint ?_ | refine rrow ?_ | skip)) <;> (try first | omega | (simp; done) | ((repeat rw [flts_closed _ (by assumption)]); exact vws_closed _ (by assumption))))), fin _ _ _ (in4 _ _ _ _ (by unfold InR; omega) (by unfold InR; omega) (by unfold InR; omega) (by unfold InR; omega)) (by omega) (by omega), by simp; omega⟩
  · have h := ltF h
    have h7 : m.length ≤ 16 := by omega
    conv => whnf
    refine ⟨fun h8 => ?_, fun h8 => ?_⟩
    · have h8 : 0 < ws.length := by have := of_decide_eq_true h8; omega
      conv => whnf
      refine ACallS.tmut 0 (pick_spec code hc a2 s2 (by omega) 50 (by omega) (by omega)) ?_ rfl (by (repeat' (first | exact trivial | exact rfl | refine And.intro ?_ ?_)) <;> (try first | omega | (simp; done))) (by (repeat' (first | exact trivial | exact rfl | refine And.intro ?_ ?_)) <;> (try first | omega | (simp; done)))
      rintro v r ⟨c, a3, s3, rfl, l_c, u_c, e_a3, g_a3, rfl⟩
      conv => whnf
      have hin4 : ∀ r, r ∈ m → r.length ≤ 4 ∧ ∀ v, v ∈ r → InR v := fun r hr => ⟨by have := (h4 r hr).1; omega, (h4 r hr).2⟩
      have fin : ∀ (ws' : List Int) (m' : List (List Int)) (a' : Nat) (s' : Int), (ws'.length ≤ 16 ∧ ∀ v, v ∈ ws' → InR v) → (m'.length ≤ 16 ∧ ∀ r, r ∈ m' → r.length ≤ 4 ∧ ∀ v, v ∈ r → InR v) → a3 ≤ a' → a' ≤ a3 + 20 →
          drawnG code a 1000 x y (.ag [.c (.int .i64 x), .c (.int .i64 y), .t (.ints .i64 ws'), .t (.rows m')]) (cur code a' s') := fun ws' m' a' s' k1 k2 l1 l2 =>
        ⟨ws', m', a', s', rfl, ⟨k1.1, k1.2, k2.1, k2.2⟩, by omega, by omega, rfl⟩
      have hset : ∀ (i : Nat) (v : Int), InR v → (ws.set i v).length ≤ 16 ∧ ∀ u, u ∈ ws.set i v → InR u := fun i v hv => by
        refine ⟨by rw [List.length_set]; omega, fun u hu => ?_⟩
        rcases List.mem_or_eq_of_mem_set hu with h | rfl
        · exact h3 u h
        · exact hv
      have hws : ws.length ≤ 16 ∧ ∀ v, v ∈ ws → InR v := ⟨by omega, h3⟩
      have hm : m.length ≤ 16 ∧ ∀ r, r ∈ m → r.length ≤ 4 ∧ ∀ v, v ∈ r → InR v := ⟨h7, hin4⟩
      refine ⟨fun c0 => ?_, fun c0 => ?_⟩
      · clear l_c u_c c0
        refine ADraw.planX [4, 7] tyOk mx (.q 0 (.q 2 (.q 3 (.q 5 (.alt 1 (.alti 4 (.last 6 (.inl 7 (.q 8 (.last 9 (.done))))) (.last 6 (.inl 4 (.inl 7 (.q 8 (.last 9 (.done))))))) (.alti 4 (.alt 1 (.last 6 (.inl 7 (.q 8 (.last 9 (.done))))) (.last 6 (.alt 1 (.inl 7 (.q 8 (.last 9 (.done)))) (.inl 7 (.last 1 (.q 8 (.last 9 (.done)))))))) (.last 6 (.alt 1 (.inl 4 (.inl 7 (.q 8 (.last 9 (.done))))) (.inl 4 (.alt 1 (.inl 7 (.q 8 (.last 9 (.done)))) (.inl 7 (.last 1 (.q 8 (.last 9 (.done)))))))))))))) : Plan) (by kernel_rfl) ?_
        conv => whnf
        repeat' (first
          | (refine fin _ _ _ _ (hset _ _ (by unfold InR; omega)) hm (by omega) (by omega); done)
          | (refine ACallS.tmut 0 (pick_spec code hc _ _ (by omega) ws.length (by omega) (by omega)) ?_ rfl (by (repeat' (first | exact trivial | exact rfl | refine And.intro ?_ ?_)) <;> (try first | omega | (simp; done))) (by (repeat' (first | exact trivial | exact rfl | refine And.intro ?_ ?_)) <;> (try first | omega | (simp; done))); rintro v r ⟨z, a4, s4, rfl, l_z, u_z, e_a4, g_a4, rfl⟩; (conv => whnf))
          | (refine ACallS.inline tyOk mx Tryz.func151 rfl (by kernel_rfl) rfl ?_; (conv => whnf); refine ACallS.tmut 0 (pick_spec code hc _ _ (by omega) 3 (by omega) (by omega)) ?_ rfl (by (repeat' (first | exact trivial | exact rfl | refine And.intro ?_ ?_)) <;> (try first | omega | (simp; done))) (by (repeat' (first | exact trivial | exact rfl | refine And.intro ?_ ?_)) <;> (try first | omega | (simp; done))); rintro v r ⟨y, a5, s5, rfl, y0, y1, e_a5, g_a5, rfl⟩; (conv => whnf); obtain ⟨i, rfl, hi⟩ := nat_of (len := 3) y0 (by omega); refine ⟨i, rfl, hi, ?_⟩; (conv => whnf); have h_v : -1 ≤ ((((List.replicate 3 (0 : Int)).set 0 99).set 1 100).set 2 (-1)).getD i 0 ∧ ((((List.replicate 3 (0 : Int)).set 0 99).set 1 100).set 2 (-1)).getD i 0 ≤ 100 := among_in (by kernel_rfl) hi; generalize ((((List.replicate 3 (0 : Int)).set 0 99).set 1 100).set 2 (-1)).getD i 0 = v at h_v ⊢; refine ⟨rfl, ?_⟩; (conv => whnf); clear y0 y1 hi)
          | (obtain ⟨i, rfl, hi⟩ := nat_of (len := ws.length) l_z (by omega); refine ⟨i, rfl, hi, ?_⟩; conv => whnf)
          | (refine And.intro ?_ ?_ <;> (conv => whnf)))
      · conv => whnf
        refine ⟨fun c1 => ?_, fun c1 => ?_⟩
        · clear l_c u_c c0 c1
          have hmset : ∀ (i h : Nat) (u v : Int), 0 ≤ u → u ≤ 2 → 0 ≤ v → v ≤ 2 → (m.set i (List.take h (((((List.replicate 4 (0 : Int)).set 0 0).set 1 1).set 2 u).set 3 v))).length ≤ 16 ∧
              ∀ r, r ∈ m.set i (List.take h (((((List.replicate 4 (0 : Int)).set 0 0).set 1 1).set 2 u).set 3 v)) → r.length ≤ 4 ∧ ∀ w, w ∈ r → InR w := fun i h u v hu0 hu hv0 hv => by
            have k := in4 0 1 u v (by unfold InR; omega) (by unfold InR; omega) (by unfold InR; omega) (by unfold InR; omega)
            refine ⟨by rw [List.length_set]; exact h7, fun r hr => ?_⟩
            rcases List.mem_or_eq_of_mem_set hr with h | rfl
            · exact hin4 r h
            · exact ⟨by rw [List.length_take]; omega, fun w hw => k.2 w (List.mem_of_mem_take hw)⟩
          refine ADraw.planT 107 [4, 7, 10, 13] tyOk mx (.q 0 (.q 2 (.q 3 (.q 5 (.q 8 (.q 12 (.ql 1 (.alti 4 (.alt 6 (.alti 7 (.last 9 (.inl 10 (.alt 11 (.inl 13 (.last 14 (.last 15 (.q 16 (.last 17 (.done)))))) (.inl 13 (.alt 11 (.last 14 (.last 15 (.q 16 (.last 17 (.done))))) (.last 14 (.last 11 (.last 15 (.q 16 (.last 17 (.done))))))))))) (.last 9 (.inl 7 (.inl 10 (.alt 11 (.inl 13 (.last 14 (.last 15 (.q 16 (.last 17 (.done)))))) (.inl 13 (.alt 11 (.last 14 (.last 15 (.q 16 (.last 17 (.done))))) (.last 14 (.last 11 (.last 15 (.q 16 (.last 17 (.done))))))))))))) (.last 9 (.last 6 (.inl 7 (.inl 10 (.alt 11 (.inl 13 (.last 14 (.last 15 (.q 16 (.last 17 (.done)))))) (.inl 13 (.alt 11 (.last 14 (.last 15 (.q 16 (.last 17 (.done))))) (.last 14 (.last 11 (.last 15 (.q 16 (.last 17 (.done)))))))))))))) (.alt 6 (.alti 4 (.alti 7 (.last 9 (.inl 10 (.alt 11 (.inl 13 (.last 14 (.last 15 (.q 16 (.last 17 (.done)))))) (.inl 13 (.alt 11 (.last 14 (.last 15 (.q 16 (.last 17 (.done))))) (.last 14 (.last 11 (.last 15 (.q 16 (.last 17 (.done))))))))))) (.last 9 (.inl 7 (.inl 10 (.alt 11 (.inl 13 (.last 14 (.last 15 (.q 16 (.last 17 (.done)))))) (.inl 13 (.alt 11 (.last 14 (.last 15 (.q 16 (.last 17 (.done))))) (.last 14 (.last 11 (.last 15 (.q 16 (.last 17 (.done))))))))))))) (.last 9 (.inl 4 (.inl 7 (.inl 10 (.alt 11 (.inl 13 (.last 14 (.last 15 (.q 16 (.last 17 (.done)))))) (.inl 13 (.alt 11 (.last 14 (.last 15 (.q 16 (.last 17 (.done))))) (.last 14 (.last 11 (.last 15 (.q 16 (.last 17 (.done)))))))))))))) (.last 9 (.alti 4 (.last 6 (.inl 7 (.inl 10 (.alt 11 (.inl 13 (.last 14 (.last 15 (.q 16 (.last 17 (.done)))))) (.inl 13 (.alt 11 (.last 14 (.last 15 (.q 16 (.last 17 (.done))))) (.last 14 (.last 11 (.last 15 (.q 16 (.last 17 (.done)))))))))))) (.last 6 (.inl 4 (.inl 7 (.inl 10 (.alt 11 (.inl 13 (.last 14 (.last 15 (.q 16 (.last 17 (.done)))))) (.inl 13 (.alt 11 (.last 14 (.last 15 (.q 16 (.last 17 (.done))))) (.last 14 (.last 11 (.last 15 (.q 16 (.last 17 (.done))))))))))))))))))))))) : Plan) (by kernel_rfl) ?_
          conv => whnf
          repeat' (first
            | (refine fin _ _ _ _ hws (hmset _ _ _ _ (by assumption) (by assumption) (by assumption) (by assumption)) (by omega) (by omega); done)
            | (refine ACallT.tmutI (pick_spec code hc _ _ (by omega) ws.length (by omega) (by omega)) ?_ rfl (by (repeat' (first | exact trivial | exact rfl | refine And.intro ?_ ?_)) <;> (try first | omega | (simp; done))); rintro v r ⟨z, a4, s4, rfl, l_z, u_z, e_a4, g_a4, rfl⟩; (conv => whnf))
            | (refine ACallT.tmutI (pick_spec code hc _ _ (by omega) 2 (by omega) (by omega)) ?_ rfl (by (repeat' (first | exact trivial | exact rfl | refine And.intro ?_ ?_)) <;> (try first | omega | (simp; done))); rintro v r ⟨z2, a6, s6, rfl, l_z2, u_z2, e_a6, g_a6, rfl⟩; (conv => whnf))
            | (refine ACallT.give ?_; refine ACallT.tmutL (among_spec code hc _ _ (by omega) _ (by kernel_rfl) 0 2 (by kernel_rfl)) ?_ rfl (by (repeat' (first | exact trivial | exact rfl | refine And.intro ?_ ?_)) <;> (try first | omega | (simp; done))); rintro v r ⟨v, a5, s5, rfl, l_v, u_v, e_a5, g_a5, rfl⟩; (conv => whnf))
            | (obtain ⟨h, eh, lh⟩ := cut34 l_z2 u_z2; refine ⟨h, eh, lh, ?_⟩; conv => whnf)
            | (obtain ⟨i, rfl, hi⟩ := nat_of (len := m.length) l_z (by omega); refine ⟨i, rfl, hi, ?_⟩; conv => whnf)
            | (refine And.intro ?_ ?_ <;> (conv => whnf)))
        · conv => whnf
          refine ⟨fun c2 => ?_, fun c2 => ?_⟩
          · conv => whnf
            refine ⟨ws.length, rfl, rfl, by unfold room; omega, ?_⟩
            conv => whnf
            refine fin _ _ _ _ ⟨by simp; omega, fun v hv => ?_⟩ hm (by omega) (by omega)
            rw [List.eq_of_mem_replicate hv]; unfold InR; omega
          · conv => whnf
            refine ⟨fun c3 => ?_, fun c3 => ?_⟩
            · conv => whnf
              refine ⟨1, rfl, by omega, ?_⟩
              conv => whnf
              refine fin _ _ _ _ hws ⟨by rw [List.length_drop]; omega, fun r hr => hin4 r (List.mem_of_mem_drop hr)⟩ (by omega) (by omega)
            · conv => whnf
              exact fin _ _ _ _ hws hm (by omega) (by omega)
    · conv => whnf
      exact ⟨ws, m, a2, s2, rfl, ⟨by omega, h3, h7, fun r hr => ⟨by have := (h4 r hr).1; omega, (h4 r hr).2⟩⟩, by omega, by omega, rfl⟩
end Go.Proofs.YtkomndcehdneaaaGreat
/- The draw of two games. -/
namespace Go.Proofs.YtkomndcehdneaaaGreat
open Go.Aw
set_option maxRecDepth 100000

def gmV (x y : Int) (ws : List Int) (m : List (List Int)) : AVal := .ag [.c (.int .i64 x), .c (.int .i64 y), .t (.ints .i64 ws), .t (.rows m)]
/-- a drawn game, of drawn sizes -/
def drawnGG (code : List Int) (a k : Nat) (v : AVal) (r : ARow) : Prop :=
  ∃ (x y : Int) (ws : List Int) (m : List (List Int)) (a' : Nat) (s' : Int), v = .ag [.c (.int .i64 x), .c (.int .i64 y), .t (.ints .i64 ws), .t (.rows m)] ∧ InR x ∧ InR y ∧ SmG ws m ∧ a ≤ a' ∧ a' ≤ a + k ∧ r = cur code a' s'

theorem game_spec (code : List Int) (hc : OkB code) (a : Nat) (s : Int) (ha : a ≤ 600000000) :
    TSpec Tryz.prog 164 (cur code a s) [.ptr 0 0] (drawnGG code a 1100) := by
  refine tspec tyOk mx Tryz.func164 rfl (by kernel_rfl) rfl rfl ?_
  conv => whnf
  refine ACallS.tmut 0 (sizes_spec code hc a s (by omega)) ?_ rfl (by (repeat' (first | exact trivial | exact rfl | refine And.intro ?_ ?_)) <;> (try first | omega | (simp; done))) (by (repeat' (first | exact trivial | exact rfl | refine And.intro ?_ ?_)) <;> (try first | omega | (simp; done)))
  rintro v r ⟨x, y, a1, s1, rfl, hx, hy, e1, g1, rfl⟩
  conv => whnf
  refine ACallS.tmut 0 (gameOf_spec code hc a1 s1 (by omega) x y) ?_ rfl (by (repeat' (first | exact trivial | exact rfl | refine And.intro ?_ ?_)) <;> (try first | omega | (simp; done))) (by (repeat' (first | exact trivial | exact rfl | refine And.intro ?_ ?_)) <;> (try first | omega | (simp; done)))
  rintro v r ⟨ws, m, a2, s2, rfl, hsm, e2, g2, rfl⟩
  conv => whnf
  exact ⟨x, y, ws, m, a2, s2, rfl, hx, hy, hsm, by omega, by omega, rfl⟩

end Go.Proofs.YtkomndcehdneaaaGreat
/- Total weights; drawn games. -/
namespace Go.Proofs.YtkomndcehdneaaaGreat
open Go.Aw
set_option maxRecDepth 100000

theorem SmG.ok {ws : List Int} {m : List (List Int)} (h : SmG ws m) : OkI ws ∧ OkM m ∧ SzI ws ∧ SzM m := by
  obtain ⟨h1, h2, h3, h4⟩ := h
  refine ⟨⟨by omega, h2⟩, ⟨by omega, fun r hr => ⟨by have := (h4 r hr).1; omega, (h4 r hr).2⟩⟩, by unfold SzI; omega, ?_⟩
  have k1 := tot_le_mul (m := m) (n := 4) (fun r hr => (h4 r hr).1)
  have : m.length * 4 ≤ 16 * 4 := Nat.mul_le_mul_right 4 h3
  unfold SzM; omega

theorem TotalWeight_i (x y : Int) (s : List Int) (m : List (List Int)) (ks : SzI s) (km : SzM m) :
    FSpec Tryz.prog 39 [.ag [.c (.int .i64 (x)), .c (.int .i64 (y)), .t (.ints .i64 s), .t (.rows m)]] (ex (.tu [.c (.int .i64 (if goodG x y s m then sumF s s.length else 0)), .c (.bool (goodG x y s m))]) []) := by
  refine fspec tyOk mx Tryz.func39 rfl (by kernel_rfl) rfl ?_
  conv => whnf
  refine ACall.use (iIsGame_spec x y s m ks km) ?_
  conv => whnf
  refine ⟨fun h => ?_, fun h => ?_⟩
  · have h : goodG x y s m = false := by simpa using h
    conv => whnf
    exact ⟨by rw [h]; rfl, rfl⟩
  · have h : goodG x y s m = true := by simpa using h
    conv => whnf
    refine ACall.use (total_spec s ks) ?_
    conv => whnf
    exact ⟨by rw [h]; rfl, rfl⟩
end Go.Proofs.YtkomndcehdneaaaGreat
/- Draws of FnQuietValues. -/
namespace Go.Proofs.YtkomndcehdneaaaGreat
open Go.Aw
set_option maxRecDepth 100000
set_option maxHeartbeats 4000000

theorem twoGame_spec (code : List Int) (hc : OkB code) (a : Nat) (s : Int) (ha : a ≤ 500000000) : TSpec Tryz.prog 89 (cur code a s) [.ptr 0 0] (drawnGG code a 1200) := by
  refine tspec tyOk mx Tryz.func89 rfl (by kernel_rfl) rfl rfl ?_
  conv => whnf
  refine ACallS.tmut 0 (one_spec code hc a s (by omega) 12 (by omega) (by omega)) ?_ rfl (by (repeat' (first | exact trivial | exact rfl | refine And.intro ?_ ?_)) <;> (try first | omega | (simp; done))) (by (repeat' (first | exact trivial | exact rfl | refine And.intro ?_ ?_)) <;> (try first | omega | (simp; done)))
  rintro v r ⟨b, a1, s1, rfl, e_a1, g_a1, rfl⟩
  conv => whnf
  refine ⟨fun hb => ?_, fun hb => ?_⟩
  · conv => whnf
    refine ACallS.tmut 0 (game_spec code hc a1 s1 (by omega)) ?_ rfl (by (repeat' (first | exact trivial | exact rfl | refine And.intro ?_ ?_)) <;> (try first | omega | (simp; done))) (by (repeat' (first | exact trivial | exact rfl | refine And.intro ?_ ?_)) <;> (try first | omega | (simp; done)))
    rintro v r ⟨x, y, ws, m, a2, s2, rfl, hx, hy, hsm, e2, g2, rfl⟩
    conv => whnf
    exact ⟨x, y, ws, m, a2, s2, rfl, hx, hy, hsm, by omega, by omega, rfl⟩
  · conv => whnf
    refine ACallS.tmut 0 (gameOf_spec code hc a1 s1 (by omega) 2 2) ?_ rfl (by (repeat' (first | exact trivial | exact rfl | refine And.intro ?_ ?_)) <;> (try first | omega | (simp; done))) (by (repeat' (first | exact trivial | exact rfl | refine And.intro ?_ ?_)) <;> (try first | omega | (simp; done)))
    rintro v r ⟨ws, m, a2, s2, rfl, hsm, e2, g2, rfl⟩
    conv => whnf
    exact ⟨2, 2, ws, m, a2, s2, rfl, inr2, inr2, hsm, by omega, by omega, rfl⟩
/-- a drawn game, read-only -/
def gameT : AVal → List (Nat × ARow) → Prop := fun v h => h = [] ∧ ∃ (x y : Int) (ws : List Int) (m : List (List Int)), InR x ∧ InR y ∧ SmG ws m ∧ v = .ag [.c (.int .i64 x), .c (.int .i64 y), .t (.ints .i64 ws), .t (.rows m)]
theorem DrawQuietValue_spec (code : List Int) (hc : OkB code) : FSpec Tryz.prog 24 [.t (.ints .u8 code)] gameT := by
  refine fspec tyOk mx Tryz.func24 rfl (by kernel_rfl) rfl ?_
  conv => whnf
  refine ACallS.tmut 1 (twoGame_spec code hc 0 0 (by omega)) ?_ rfl (by (repeat' (first | exact trivial | exact rfl | refine And.intro ?_ ?_)) <;> (try first | omega | (simp; done))) (by (repeat' (first | exact trivial | exact rfl | refine And.intro ?_ ?_)) <;> (try first | omega | (simp; done)))
  rintro v r ⟨x, y, ws, m, a1, s1, rfl, hx, hy, hsm, _, _, rfl⟩
  conv => whnf
  exact ⟨rfl, x, y, ws, m, hx, hy, hsm, rfl⟩
/-- a drawn functional, read-only -/
def funT : AVal → List (Nat × ARow) → Prop := fun v h => h = [] ∧ ∃ f : List (List Int), SmB f ∧ v = .t (.rows f)
theorem DrawWorthRange_spec (code : List Int) (hc : OkB code) : FSpec Tryz.prog 29 [.t (.ints .u8 code)] funT := by
  refine fspec tyOk mx Tryz.func29 rfl (by kernel_rfl) rfl ?_
  conv => whnf
  refine ACallS.tmut 0 (one_spec code hc 0 0 (by omega) 12 (by omega) (by omega)) ?_ rfl (by (repeat' (first | exact trivial | exact rfl | refine And.intro ?_ ?_)) <;> (try first | omega | (simp; done))) (by (repeat' (first | exact trivial | exact rfl | refine And.intro ?_ ?_)) <;> (try first | omega | (simp; done)))
  rintro v r ⟨b, a1, s1, rfl, e1, g1, rfl⟩
  conv => whnf
  refine ⟨fun hb => ?_, fun hb => ?_⟩
  · conv => whnf
    refine ACallS.tmut 0 (sizes_spec code hc a1 s1 (by omega)) ?_ rfl (by (repeat' (first | exact trivial | exact rfl | refine And.intro ?_ ?_)) <;> (try first | omega | (simp; done))) (by (repeat' (first | exact trivial | exact rfl | refine And.intro ?_ ?_)) <;> (try first | omega | (simp; done)))
    rintro v r ⟨x, y, a2, s2, rfl, hx, hy, e2, g2, rfl⟩
    conv => whnf
    refine ACallS.tmut 0 (fnDraw_spec code hc a2 s2 (by omega) x y) ?_ rfl (by (repeat' (first | exact trivial | exact rfl | refine And.intro ?_ ?_)) <;> (try first | omega | (simp; done))) (by (repeat' (first | exact trivial | exact rfl | refine And.intro ?_ ?_)) <;> (try first | omega | (simp; done)))
    rintro v r ⟨f, a3, s3, rfl, hf, _, _, rfl⟩
    conv => whnf
    exact ⟨rfl, f, hf, rfl⟩
  · conv => whnf
    refine ACallS.tmut 0 (fnDraw_spec code hc a1 s1 (by omega) 2 2) ?_ rfl (by (repeat' (first | exact trivial | exact rfl | refine And.intro ?_ ?_)) <;> (try first | omega | (simp; done))) (by (repeat' (first | exact trivial | exact rfl | refine And.intro ?_ ?_)) <;> (try first | omega | (simp; done)))
    rintro v r ⟨f, a3, s3, rfl, hf, _, _, rfl⟩
    conv => whnf
    exact ⟨rfl, f, hf, rfl⟩
theorem DrawPartOf_spec (code : List Int) (hc : OkB code) : FSpec Tryz.prog 32 [.t (.ints .u8 code)] boxT := by
  refine fspec tyOk mx Tryz.func32 rfl (by kernel_rfl) rfl ?_
  conv => whnf
  refine ACall.use' (DrawIsExtreme_spec code hc) ?_
  rintro v h ⟨rfl, x, y, z, m, hx, hy, hz, hm, rfl⟩
  conv => whnf
  exact ⟨rfl, x, y, z, m, hx, hy, hz, hm, rfl⟩
end Go.Proofs.YtkomndcehdneaaaGreat
/- What the laws compare with. -/
namespace Go.Proofs.YtkomndcehdneaaaGreat
open Go.Aw
set_option maxRecDepth 100000

theorem vBig_spec (code : List Int) : FSpec Tryz.prog 6 [.t (.ints .u8 code)] (ex (.c (.bool (decide ((code.length : Int) > 65536)))) []) := by
  refine fspec tyOk mx Tryz.func6 rfl (by kernel_rfl) rfl ?_
  conv => whnf
  exact ⟨rfl, rfl⟩
theorem rBig_spec (code : List Int) : FSpec Tryz.prog 23 [.t (.ints .u8 code)] (ex (.c (.bool (decide ((code.length : Int) > 65536)))) []) := by
  refine fspec tyOk mx Tryz.func23 rfl (by kernel_rfl) rfl ?_
  conv => whnf
  exact ⟨rfl, rfl⟩
theorem vInts_spec (a b : List Int) (h : a.length ≤ 9223372036854775807) :
    FSpec Tryz.prog 55 [.t (.ints .i64 a), .t (.ints .i64 b)] (ex (.c (.bool (decide (a = b)))) []) := by
  refine fspec tyOk mx Tryz.func55 rfl (by kernel_rfl) rfl ?_
  refine ⟨fun hl => ?_, fun hl => ?_⟩
  · conv => whnf
    refine ⟨?_, rfl⟩
    rw [decide_eq_false]
    rintro rfl
    simp at hl
  · conv => whnf
    simp only [bne_eq_false_iff_eq, Int.natCast_inj] at hl
    refine aloopI tyOk mx (fun k : Nat => (⟨26, [(0, .t (.ints .i64 a)), (1, .t (.ints .i64 b)), (5, .c (.int .i64 (k : Int)))], [], 0⟩ : St)) (fun k => k ≤ a.length ∧ ∀ j, j < k → a[j]? = b[j]?) (fun k => a.length - k)
      0 ⟨by omega, fun j hj => by omega⟩ none (by refine ⟨rfl, rfl, ?_, ?_⟩ <;> ((repeat' (first | exact trivial | exact rfl | refine And.intro ?_ ?_)) <;> (try ((conv => whnf); first | refine vint ?_ | refine vboo ?_ | refine rint ?_ | refine rrow ?_ | skip)) <;> (try first | omega | (simp; done) | ((repeat rw [flts_closed _ (by assumption)]); exact vws_closed _ (by assumption))))) (fun k hI => ?_)
    obtain ⟨hk, hp⟩ := hI
    refine ⟨fun h => ?_, fun h => ?_⟩
    · conv => whnf
      have hk1 : k < a.length := by simpa using h
      refine ADraw.std tyOk mx ⟨by kernel_rfl, ⟨k, rfl, hk1, k, rfl, by omega, fun h => ?_, fun h => ?_⟩⟩
      · conv => whnf
        refine ⟨?_, rfl⟩
        rw [decide_eq_false]
        rintro rfl
        simp at h
      · conv => whnf
        simp only [bne_eq_false_iff_eq, List.getD_eq_getElem?_getD] at h
        rw [w64 (by omega) (by omega)]
        refine ⟨k + 1, none, (by refine ⟨rfl, rfl, ?_, ?_⟩ <;> ((repeat' (first | exact trivial | exact rfl | refine And.intro ?_ ?_)) <;> (try ((conv => whnf); first | refine vint ?_ | refine vboo ?_ | refine rint ?_ | refine rrow ?_ | skip)) <;> (try first | omega | (simp; done) | ((repeat rw [flts_closed _ (by assumption)]); exact vws_closed _ (by assumption))))), ⟨by omega, fun j hj => ?_⟩, by omega⟩
        by_cases e : j = k
        · subst e
          rw [List.getElem?_eq_getElem hk1, List.getElem?_eq_getElem (by omega)] at h ⊢
          simpa using h
        · exact hp j (by omega)
    · conv => whnf
      refine ⟨?_, rfl⟩
      rw [decide_eq_true]
      have hk1 : ¬ k < a.length := by simpa using h
      refine List.ext_getElem? (fun i => ?_)
      by_cases hi : i < k
      · exact hp i hi
      · rw [List.getElem?_eq_none (by omega), List.getElem?_eq_none (by omega)]
theorem vTable_spec (a b : List (List Int)) (h : a.length ≤ 9223372036854775807) (hr : ∀ r, r ∈ a → r.length ≤ 9223372036854775807) :
    FSpec Tryz.prog 56 [.t (.rows a), .t (.rows b)] (ex (.c (.bool (decide (a = b)))) []) := by
  refine fspec tyOk mx Tryz.func56 rfl (by kernel_rfl) rfl ?_
  refine ⟨fun hl => ?_, fun hl => ?_⟩
  · conv => whnf
    refine ⟨?_, rfl⟩
    rw [decide_eq_false]
    rintro rfl
    simp at hl
  · conv => whnf
    simp only [bne_eq_false_iff_eq, Int.natCast_inj] at hl
    refine aloopI tyOk mx (fun k : Nat => (⟨27, [(0, .t (.rows a)), (1, .t (.rows b)), (5, .c (.int .i64 (k : Int)))], [], 0⟩ : St)) (fun k => k ≤ a.length ∧ ∀ j, j < k → a[j]? = b[j]?) (fun k => a.length - k)
      0 ⟨by omega, fun j hj => by omega⟩ none (by refine ⟨rfl, rfl, ?_, ?_⟩ <;> ((repeat' (first | exact trivial | exact rfl | refine And.intro ?_ ?_)) <;> (try ((conv => whnf); first | refine vint ?_ | refine vboo ?_ | refine rint ?_ | refine rrow ?_ | skip)) <;> (try first | omega | (simp; done) | ((repeat rw [flts_closed _ (by assumption)]); exact vws_closed _ (by assumption))))) (fun k hI => ?_)
    obtain ⟨hk, hp⟩ := hI
    refine ⟨fun h => ?_, fun h => ?_⟩
    · conv => whnf
      have hk1 : k < a.length := by simpa using h
      have hkr : (a.getD k []).length ≤ 9223372036854775807 := by
        rw [List.getD_eq_getElem?_getD, List.getElem?_eq_getElem hk1]; exact hr _ (List.getElem_mem hk1)
      refine ADraw.std tyOk mx ⟨by kernel_rfl, k, rfl, hk1, k, rfl, by omega, ?_⟩
      conv => whnf
      refine QCall.use (vInts_spec _ _ hkr) ?_
      conv => whnf
      refine ⟨fun h => ?_, fun h => ?_⟩
      · conv => whnf
        refine ⟨?_, rfl⟩
        rw [decide_eq_false]
        rintro rfl
        simp at h
      · conv => whnf
        simp only [Bool.not_eq_false', decide_eq_true_eq, List.getD_eq_getElem?_getD] at h
        rw [w64 (by omega) (by omega)]
        refine ⟨k + 1, none, (by refine ⟨rfl, rfl, ?_, ?_⟩ <;> ((repeat' (first | exact trivial | exact rfl | refine And.intro ?_ ?_)) <;> (try ((conv => whnf); first | refine vint ?_ | refine vboo ?_ | refine rint ?_ | refine rrow ?_ | skip)) <;> (try first | omega | (simp; done) | ((repeat rw [flts_closed _ (by assumption)]); exact vws_closed _ (by assumption))))), ⟨by omega, fun j hj => ?_⟩, by omega⟩
        by_cases e : j = k
        · subst e
          rw [List.getElem?_eq_getElem hk1, List.getElem?_eq_getElem (by omega)] at h ⊢
          simpa using h
        · exact hp j (by omega)
    · conv => whnf
      refine ⟨?_, rfl⟩
      rw [decide_eq_true]
      have hk1 : ¬ k < a.length := by simpa using h
      refine List.ext_getElem? (fun i => ?_)
      by_cases hi : i < k
      · exact hp i hi
      · rw [List.getElem?_eq_none (by omega), List.getElem?_eq_none (by omega)]
end Go.Proofs.YtkomndcehdneaaaGreat
/- What the laws compare with (the other half's helpers). -/
namespace Go.Proofs.YtkomndcehdneaaaGreat
open Go.Aw
set_option maxRecDepth 100000

end Go.Proofs.YtkomndcehdneaaaGreat
