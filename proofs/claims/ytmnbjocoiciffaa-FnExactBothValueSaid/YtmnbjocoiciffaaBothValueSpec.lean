/- FnExactBothValue, walked. -/
import Derived.Test.YtmnbjocoiciffaaBoth2
import Derived.Test.YtmnbjocoiciffaaStGame
namespace Go.Proofs.Ytmnbjocoiciffaa
open Go.Aw
set_option maxRecDepth 100000
set_option maxHeartbeats 4000000 in
theorem FnExactBothValue_spec (a0x : Int) (a0y : Int) (a0z : List Int) (a0w : List (List Int)) (b0x : InR a0x) (b0y : InR a0y) (b0z : OkI a0z) (b0w : OkM a0w) (a1x : Int) (a1y : Int) (a1z : List Int) (a1w : List (List Int)) (b1x : InR a1x) (b1y : InR a1y) (b1z : OkI a1z) (b1w : OkM a1w) : FSpec Try.prog 7 [.ag [.c (.int .i64 a0x), .c (.int .i64 a0y), .t (.ints .i64 a0z), .t (.rows a0w)], .ag [.c (.int .i64 a1x), .c (.int .i64 a1y), .t (.ints .i64 a1z), .t (.rows a1w)]] (ex (.c (.bool true)) []) := by
  refine fspec tyOk mx Try.func7 rfl (by kernel_rfl) rfl ?_
  conv => whnf
  refine ACall.usek (szGame_spec a0x a0y a0z a0w (1048576) (by omega) (by omega) b0z b0w) ?_
  conv => whnf
  refine ⟨fun h => ?_, fun h => ?_⟩
  · conv => whnf
    exact ⟨rfl, rfl⟩
  have t0 := szGame_tot (Int.not_lt.1 (of_decide_eq_false h))
  clear h
  have k0z : SzI a0z := by unfold SzI; omega
  have k0w : SzM a0w := by unfold SzM; omega
  conv => whnf
  refine ACall.usek (szGame_spec a1x a1y a1z a1w (szGameF a0z a0w (1048576)) (by omega) (by omega) b1z b1w) ?_
  conv => whnf
  refine ⟨fun h => ?_, fun h => ?_⟩
  · conv => whnf
    exact ⟨rfl, rfl⟩
  have t1 := szGame_tot (Int.not_lt.1 (of_decide_eq_false h))
  clear h
  have k1z : SzI a1z := by unfold SzI; omega
  have k1w : SzM a1w := by unfold SzM; omega
  conv => whnf
  have i0z : a0z.length ≤ 1048576 := k0z
  obtain ⟨i0w, j0w, z0w⟩ := k0w.all
  have i1z : a1z.length ≤ 1048576 := k1z
  obtain ⟨i1w, j1w, z1w⟩ := k1w.all
  refine ADraw.plan tyOk mx (.q 0 (.q 2 (.last 1 (.last 3 (.last 4 (.q 5 (.q 6 (.q 7 (.q 8 (.q 9 (.done)))))))))) : Plan) (by kernel_rfl) ?_
  conv => whnf
  refine ACall.useR (toGame_spec a0x a0y a0z a0w k0z k0w) ?_
  conv => whnf
  refine ACall.useR (toGame_spec a1x a1y a1z a1w k1z k1w) ?_
  conv => whnf
  refine ACall.useR (BothValue_s a0x a0y a0z a0w b0x b0y b0z b0w k0z k0w a1x a1y a1z a1w b1x b1y b1z b1w k1z k1w) ?_
  conv => whnf
  refine ACall.usek (toGame_spec a0x a0y a0z a0w k0z k0w) ?_
  conv => whnf
  refine ACall.usek (toGame_spec a1x a1y a1z a1w k1z k1w) ?_
  conv => whnf
  refine ACall.usek (BothValue_i a0x a0y a0z a0w b0x b0y b0z b0w k0z k0w a1x a1y a1z a1w b1x b1y b1z b1w k1z k1w) ?_
  conv => whnf
  refine ⟨fun h => ?_, fun h => ?_⟩
  any_goals (exfalso; simp at h; done)
  clear h
  conv => whnf
  refine ⟨fun h => ?_, fun h => ?_⟩
  any_goals (exfalso; simp at h; done)
  clear h
  conv => whnf
  refine ADraw.plan tyOk mx (.q 0 (.q 1 (.last 2 (.last 3 (.q 4 (.done))))) : Plan) (by kernel_rfl) ?_
  conv => whnf
  refine ACall.useR (toGame_spec a0x a0y a0z a0w k0z k0w) ?_
  conv => whnf
  refine ACall.useR (eqGameA_refl a0x a0y a0z a0w k0z k0w) ?_
  conv => whnf
  refine ⟨fun h => ?_, fun h => ?_⟩
  any_goals (exfalso; simp at h; done)
  clear h
  conv => whnf
  refine ADraw.plan tyOk mx (.q 0 (.q 1 (.last 2 (.last 3 (.q 4 (.done))))) : Plan) (by kernel_rfl) ?_
  conv => whnf
  refine ACall.useR (toGame_spec a1x a1y a1z a1w k1z k1w) ?_
  conv => whnf
  refine ACall.useR (eqGameA_refl a1x a1y a1z a1w k1z k1w) ?_
  conv => whnf
  refine ⟨fun h => ?_, fun h => ?_⟩
  any_goals (exfalso; simp at h; done)
  clear h
  conv => whnf
  exact ⟨rfl, rfl⟩
end Go.Proofs.Ytmnbjocoiciffaa
