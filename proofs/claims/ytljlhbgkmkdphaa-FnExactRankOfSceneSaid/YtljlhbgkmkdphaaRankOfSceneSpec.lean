/- FnExactRankOfScene, walked. -/
import Derived.Test.YtljlhbgkmkdphaaRank3
import Derived.Test.YtljlhbgkmkdphaaStScene
namespace Go.Proofs.Ytljlhbgkmkdphaa
open Go.Aw
set_option maxRecDepth 100000
set_option maxHeartbeats 4000000 in
theorem FnExactRankOfScene_spec (a0x : Int) (a0y : List (List Int)) (a0z : List Int) (b0x : InR a0x) (b0y : OkM a0y) (b0z : OkI a0z) : FSpec Try.prog 5 [.ag [.c (.int .i64 a0x), .t (.rows a0y), .t (.ints .i64 a0z)]] (ex (.c (.bool true)) []) := by
  refine fspec tyOk mx Try.func5 rfl (by kernel_rfl) rfl ?_
  conv => whnf
  refine ACall.usek (szScene_spec a0x a0y a0z (1048576) (by omega) (by omega) b0y b0z) ?_
  conv => whnf
  refine ⟨fun h => ?_, fun h => ?_⟩
  · conv => whnf
    exact ⟨rfl, rfl⟩
  have t0 := szScene_tot (Int.not_lt.1 (of_decide_eq_false h))
  clear h
  have k0y : SzM a0y := by unfold SzM; omega
  have k0z : SzI a0z := by unfold SzI; omega
  conv => whnf
  obtain ⟨i0y, j0y, z0y⟩ := k0y.all
  have i0z : a0z.length ≤ 1048576 := k0z
  refine ACall.usek (toScene_spec a0x a0y a0z k0y k0z) ?_
  conv => whnf
  refine ACall.usek (RankOfScene_s a0x a0y a0z b0x b0y b0z k0y k0z) ?_
  conv => whnf
  refine ACall.usek (toScene_spec a0x a0y a0z k0y k0z) ?_
  conv => whnf
  refine ACall.usek (RankOfScene_i a0x a0y a0z b0x b0y b0z k0y k0z) ?_
  conv => whnf
  refine ⟨fun h => ?_, fun h => ?_⟩
  any_goals (exfalso; simp at h; done)
  clear h
  conv => whnf
  refine ⟨fun h => ?_, fun h => ?_⟩
  any_goals (exfalso; simp at h; done)
  clear h
  conv => whnf
  refine ADraw.plan tyOk mx (.q 0 (.q 1 (.last 2 (.last 3 (.q 4 (.done))))) : Plan) (by kernel_rfl) ?_
  conv => whnf
  refine ACall.useR (toScene_spec a0x a0y a0z k0y k0z) ?_
  conv => whnf
  refine ACall.useR (eqSceneA_refl a0x a0y a0z k0y k0z) ?_
  conv => whnf
  refine ⟨fun h => ?_, fun h => ?_⟩
  any_goals (exfalso; simp at h; done)
  clear h
  conv => whnf
  exact ⟨rfl, rfl⟩
end Go.Proofs.Ytljlhbgkmkdphaa
