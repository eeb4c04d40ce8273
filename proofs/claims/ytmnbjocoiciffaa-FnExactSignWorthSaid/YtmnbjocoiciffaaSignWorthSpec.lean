/- FnExactSignWorth, walked. -/
import Derived.Test.YtmnbjocoiciffaaSignWorth0
import Derived.Test.YtmnbjocoiciffaaStBox
namespace Go.Proofs.Ytmnbjocoiciffaa
open Go.Aw
set_option maxRecDepth 100000
set_option maxHeartbeats 4000000 in
theorem FnExactSignWorth_spec (a0x : List (List Int)) (b0x : OkM a0x) (a1x : Int) (a1y : Int) (a1z : Int) (a1w : List (List Int)) (b1x : InR a1x) (b1y : InR a1y) (b1z : InR a1z) (b1w : OkM a1w) : FSpec Try.prog 5 [.t (.rows a0x), .ag [.c (.int .i64 a1x), .c (.int .i64 a1y), .c (.int .i64 a1z), .t (.rows a1w)]] (ex (.c (.bool true)) []) := by
  refine fspec tyOk mx Try.func5 rfl (by kernel_rfl) rfl ?_
  conv => whnf
  refine ACall.usek (szIntSS_spec a0x (1048576) (by omega) (by omega) b0x.1 b0x.len) ?_
  conv => whnf
  refine ⟨fun h => ?_, fun h => ?_⟩
  · conv => whnf
    exact ⟨rfl, rfl⟩
  have t0 := szSS_tot (Int.not_lt.1 (of_decide_eq_false h))
  clear h
  have k0x : SzM a0x := by unfold SzM; omega
  conv => whnf
  refine ACall.usek (szBox_spec a1x a1y a1z a1w (szSS a0x (1048576)) (by omega) (by omega) b1w) ?_
  conv => whnf
  refine ⟨fun h => ?_, fun h => ?_⟩
  · conv => whnf
    exact ⟨rfl, rfl⟩
  have t1 := szBox_tot (Int.not_lt.1 (of_decide_eq_false h))
  clear h
  have k1w : SzM a1w := by unfold SzM; omega
  conv => whnf
  obtain ⟨i0x, j0x, z0x⟩ := k0x.all
  obtain ⟨i1w, j1w, z1w⟩ := k1w.all
  refine ADraw.plan tyOk mx (.q 0 (.q 2 (.last 1 (.last 3 (.last 4 (.q 5 (.q 6 (.q 7 (.q 8 (.q 9 (.done)))))))))) : Plan) (by kernel_rfl) ?_
  conv => whnf
  refine ACall.useR (toIntSS_spec a0x i0x j0x) ?_
  conv => whnf
  refine ACall.useR (toBox_spec a1x a1y a1z a1w k1w) ?_
  conv => whnf
  refine ACall.useR (SignWorth_s a0x b0x k0x a1x a1y a1z a1w b1x b1y b1z b1w k1w) ?_
  conv => whnf
  refine ACall.usek (toIntSS_spec a0x i0x j0x) ?_
  conv => whnf
  refine ACall.usek (toBox_spec a1x a1y a1z a1w k1w) ?_
  conv => whnf
  refine ACall.usek (SignWorth_i a0x b0x k0x a1x a1y a1z a1w b1x b1y b1z b1w k1w) ?_
  conv => whnf
  refine ⟨fun h => ?_, fun h => ?_⟩
  any_goals (exfalso; simp at h; done)
  clear h
  conv => whnf
  refine ⟨fun h => ?_, fun h => ?_⟩
  any_goals (exfalso; simp at h; done)
  clear h
  conv => whnf
  refine ACall.usek (toIntSS_spec a0x i0x j0x) ?_
  conv => whnf
  refine ACall.usek (eqIntSS_spec a0x a0x (by omega) (fun r hr => by have := tot_mem hr; omega)) ?_
  conv => whnf
  refine ⟨fun h => ?_, fun h => ?_⟩
  any_goals (exfalso; simp at h; done)
  clear h
  conv => whnf
  refine ADraw.plan tyOk mx (.q 0 (.q 1 (.last 2 (.last 3 (.q 4 (.done))))) : Plan) (by kernel_rfl) ?_
  conv => whnf
  refine ACall.useR (toBox_spec a1x a1y a1z a1w k1w) ?_
  conv => whnf
  refine ACall.useR (eqBoxA_refl a1x a1y a1z a1w k1w) ?_
  conv => whnf
  refine ⟨fun h => ?_, fun h => ?_⟩
  any_goals (exfalso; simp at h; done)
  clear h
  conv => whnf
  exact ⟨rfl, rfl⟩
end Go.Proofs.Ytmnbjocoiciffaa
