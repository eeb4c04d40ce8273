/- The draw of two games. -/
import Derived.Test.YtpakfehinfcdoaaCurG
namespace Go.Proofs.Ytpakfehinfcdoaa
open Go.Aw
set_option maxRecDepth 100000

def gmV (x y : Int) (ws : List Int) (m : List (List Int)) : AVal := .ag [.c (.int .i64 x), .c (.int .i64 y), .t (.ints .i64 ws), .t (.rows m)]
/-- a drawn game, of drawn sizes -/
def drawnGG (code : List Int) (a k : Nat) (v : AVal) (r : ARow) : Prop :=
  ∃ (x y : Int) (ws : List Int) (m : List (List Int)) (a' : Nat) (s' : Int), v = .ag [.c (.int .i64 x), .c (.int .i64 y), .t (.ints .i64 ws), .t (.rows m)] ∧ InR x ∧ InR y ∧ SmG ws m ∧ a ≤ a' ∧ a' ≤ a + k ∧ r = cur code a' s'

theorem game_spec (code : List Int) (hc : OkB code) (a : Nat) (s : Int) (ha : a ≤ 600000000) :
    TSpec Try.prog 23 (cur code a s) [.ptr 0 0] (drawnGG code a 1100) := by
  refine tspec tyOk mx Try.func23 rfl (by kernel_rfl) rfl rfl ?_
  conv => whnf
  refine ACallS.tmut 0 (sizes_spec code hc a s (by omega)) ?_ rfl (by (repeat' (first | exact trivial | exact rfl | refine And.intro ?_ ?_)) <;> (try first | omega | (simp; done))) (by (repeat' (first | exact trivial | exact rfl | refine And.intro ?_ ?_)) <;> (try first | omega | (simp; done)))
  rintro v r ⟨x, y, a1, s1, rfl, hx, hy, e1, g1, rfl⟩
  conv => whnf
  refine ACallS.tmut 0 (gameOf_spec code hc a1 s1 (by omega) x y) ?_ rfl (by (repeat' (first | exact trivial | exact rfl | refine And.intro ?_ ?_)) <;> (try first | omega | (simp; done))) (by (repeat' (first | exact trivial | exact rfl | refine And.intro ?_ ?_)) <;> (try first | omega | (simp; done)))
  rintro v r ⟨ws, m, a2, s2, rfl, hsm, e2, g2, rfl⟩
  conv => whnf
  exact ⟨x, y, ws, m, a2, s2, rfl, hx, hy, hsm, by omega, by omega, rfl⟩

theorem DrawBothValue_spec (code : List Int) (hc : OkB code) :
    FSpec Try.prog 6 [.t (.ints .u8 code)] (fun v h => h = [] ∧ ∃ (x y : Int) (ws : List Int) (m : List (List Int)) (x' y' : Int) (ws' : List Int) (m' : List (List Int)), InR x ∧ InR y ∧ SmG ws m ∧ InR x' ∧ InR y' ∧ SmG ws' m' ∧
      v = .tu [.ag [.c (.int .i64 x), .c (.int .i64 y), .t (.ints .i64 ws), .t (.rows m)], .ag [.c (.int .i64 x'), .c (.int .i64 y'), .t (.ints .i64 ws'), .t (.rows m')]]) := by
  refine fspec tyOk mx Try.func6 rfl (by kernel_rfl) rfl ?_
  conv => whnf
  refine ACallS.tmut 2 (pick_spec code hc 0 0 (by omega) 2 (by omega) (by omega)) ?_ rfl (by (repeat' (first | exact trivial | exact rfl | refine And.intro ?_ ?_)) <;> (try first | omega | (simp; done))) (by (repeat' (first | exact trivial | exact rfl | refine And.intro ?_ ?_)) <;> (try first | omega | (simp; done)))
  rintro v r ⟨x, a1, s1, rfl, l_1, u_1, e_1, g_1, rfl⟩
  conv => whnf
  refine ACallS.tmut 2 (pick_spec code hc a1 s1 (by omega) 2 (by omega) (by omega)) ?_ rfl (by (repeat' (first | exact trivial | exact rfl | refine And.intro ?_ ?_)) <;> (try first | omega | (simp; done))) (by (repeat' (first | exact trivial | exact rfl | refine And.intro ?_ ?_)) <;> (try first | omega | (simp; done)))
  rintro v r ⟨y, a2, s2, rfl, l_2, u_2, e_2, g_2, rfl⟩
  conv => whnf
  refine ACallS.tmut 2 (gameOf_spec code hc a2 s2 (by omega) _ _) ?_ rfl (by (repeat' (first | exact trivial | exact rfl | refine And.intro ?_ ?_)) <;> (try first | omega | (simp; done))) (by (repeat' (first | exact trivial | exact rfl | refine And.intro ?_ ?_)) <;> (try first | omega | (simp; done)))
  rintro v r ⟨ws, m, a3, s3, rfl, sm_3, e_3, g_3, rfl⟩
  conv => whnf
  refine ACallS.tmut 2 (pick_spec code hc a3 s3 (by omega) 2 (by omega) (by omega)) ?_ rfl (by (repeat' (first | exact trivial | exact rfl | refine And.intro ?_ ?_)) <;> (try first | omega | (simp; done))) (by (repeat' (first | exact trivial | exact rfl | refine And.intro ?_ ?_)) <;> (try first | omega | (simp; done)))
  rintro v r ⟨x', a4, s4, rfl, l_4, u_4, e_4, g_4, rfl⟩
  conv => whnf
  refine ACallS.tmut 2 (pick_spec code hc a4 s4 (by omega) 2 (by omega) (by omega)) ?_ rfl (by (repeat' (first | exact trivial | exact rfl | refine And.intro ?_ ?_)) <;> (try first | omega | (simp; done))) (by (repeat' (first | exact trivial | exact rfl | refine And.intro ?_ ?_)) <;> (try first | omega | (simp; done)))
  rintro v r ⟨y', a5, s5, rfl, l_5, u_5, e_5, g_5, rfl⟩
  conv => whnf
  refine ACallS.tmut 2 (gameOf_spec code hc a5 s5 (by omega) _ _) ?_ rfl (by (repeat' (first | exact trivial | exact rfl | refine And.intro ?_ ?_)) <;> (try first | omega | (simp; done))) (by (repeat' (first | exact trivial | exact rfl | refine And.intro ?_ ?_)) <;> (try first | omega | (simp; done)))
  rintro v r ⟨ws', m', a6, s6, rfl, sm_6, e_6, g_6, rfl⟩
  conv => whnf
  refine ACallS.tmut 2 (one_spec code hc a6 s6 (by omega) 16 (by omega) (by omega)) ?_ rfl (by (repeat' (first | exact trivial | exact rfl | refine And.intro ?_ ?_)) <;> (try first | omega | (simp; done))) (by (repeat' (first | exact trivial | exact rfl | refine And.intro ?_ ?_)) <;> (try first | omega | (simp; done)))
  rintro v r ⟨b, a7, s7, rfl, e_7, g_7, rfl⟩
  conv => whnf
  refine ⟨fun hb => ?_, fun hb => ?_⟩
  · conv => whnf
    refine ACallS.tmut 2 (game_spec code hc a7 s7 (by omega)) ?_ rfl (by (repeat' (first | exact trivial | exact rfl | refine And.intro ?_ ?_)) <;> (try first | omega | (simp; done))) (by (repeat' (first | exact trivial | exact rfl | refine And.intro ?_ ?_)) <;> (try first | omega | (simp; done)))
    rintro v r ⟨x2, y2, ws2, m2, a8, s8, rfl, ix, iy, sm_8, e_8, g_8, rfl⟩
    conv => whnf
    refine ADraw.plan tyOk mx (.q 0 (.alt 1 (.last 2 (.last 3 (.done))) (.last 2 (.last 1 (.last 3 (.done))))) : Plan) (by kernel_rfl) ?_
    repeat' (first
      | exact ⟨rfl, _, _, _, _, _, _, _, _, W_inr _, W_inr _, sm_3, ix, iy, sm_8, rfl⟩
      | (refine And.intro ?_ ?_ <;> (conv => whnf)))
  · conv => whnf
    refine ADraw.plan tyOk mx (.q 0 (.alt 1 (.last 2 (.last 3 (.done))) (.last 2 (.last 1 (.last 3 (.done))))) : Plan) (by kernel_rfl) ?_
    repeat' (first
      | exact ⟨rfl, _, _, _, _, _, _, _, _, W_inr _, W_inr _, sm_3, W_inr _, W_inr _, sm_6, rfl⟩
      | (refine And.intro ?_ ?_ <;> (conv => whnf)))
end Go.Proofs.Ytpakfehinfcdoaa
