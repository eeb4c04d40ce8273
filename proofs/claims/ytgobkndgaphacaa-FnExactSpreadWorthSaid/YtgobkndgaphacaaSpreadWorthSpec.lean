/- FnExactSpreadWorth, walked. -/
import Derived.Test.YtgobkndgaphacaaSpr5
namespace Go.Proofs.Ytgobkndgaphacaa
open Go.Aw
set_option maxRecDepth 100000
set_option maxHeartbeats 4000000 in
theorem FnExactSpreadWorth_spec (a0x : List (List Int)) (b0x : OkM a0x) (a1x : List (List Int)) (b1x : OkM a1x) (a2x : List (List Int)) (b2x : OkM a2x) : FSpec Try.prog 4 [.t (.rows a0x), .t (.rows a1x), .t (.rows a2x)] (ex (.c (.bool true)) []) := by
  refine fspec tyOk mx Try.func4 rfl (by kernel_rfl) rfl ?_
  conv => whnf
  refine ACall.usek (szIntSS_spec a0x (1048576) (by omega) (by omega) b0x.1 b0x.len) ?_
  conv => whnf
  refine ⟨fun h => ?_, fun h => ?_⟩
  · conv => whnf
    exact ⟨rfl, rfl⟩
  have t0 := szSS_tot (Int.not_lt.1 (of_decide_eq_false h))
  clear h
  have k0x : SzM a0x := by unfold SzM; omega
  conv => whnf
  refine ACall.usek (szIntSS_spec a1x (szSS a0x (1048576)) (by omega) (by omega) b1x.1 b1x.len) ?_
  conv => whnf
  refine ⟨fun h => ?_, fun h => ?_⟩
  · conv => whnf
    exact ⟨rfl, rfl⟩
  have t1 := szSS_tot (Int.not_lt.1 (of_decide_eq_false h))
  clear h
  have k1x : SzM a1x := by unfold SzM; omega
  conv => whnf
  refine ACall.usek (szIntSS_spec a2x (szSS a1x (szSS a0x (1048576))) (by omega) (by omega) b2x.1 b2x.len) ?_
  conv => whnf
  refine ⟨fun h => ?_, fun h => ?_⟩
  · conv => whnf
    exact ⟨rfl, rfl⟩
  have t2 := szSS_tot (Int.not_lt.1 (of_decide_eq_false h))
  clear h
  have k2x : SzM a2x := by unfold SzM; omega
  conv => whnf
  obtain ⟨i0x, j0x, z0x⟩ := k0x.all
  obtain ⟨i1x, j1x, z1x⟩ := k1x.all
  obtain ⟨i2x, j2x, z2x⟩ := k2x.all
  refine ACall.usek (toIntSS_spec a0x i0x j0x) ?_
  conv => whnf
  refine ACall.usek (toIntSS_spec a1x i1x j1x) ?_
  conv => whnf
  refine ACall.usek (toIntSS_spec a2x i2x j2x) ?_
  conv => whnf
  refine ACall.usek (SpreadWorth_s a0x b0x k0x a1x b1x k1x a2x b2x k2x) ?_
  conv => whnf
  refine ACall.usek (toIntSS_spec a0x i0x j0x) ?_
  conv => whnf
  refine ACall.usek (toIntSS_spec a1x i1x j1x) ?_
  conv => whnf
  refine ACall.usek (toIntSS_spec a2x i2x j2x) ?_
  conv => whnf
  refine ACall.usek (SpreadWorth_i a0x b0x k0x a1x b1x k1x a2x b2x k2x) ?_
  conv => whnf
  refine ⟨fun h => ?_, fun h => ?_⟩
  any_goals (exfalso; simp at h; done)
  clear h
  conv => whnf
  refine ⟨fun h => ?_, fun h => ?_⟩
  any_goals (exfalso; simp at h; done)
  clear h
  conv => whnf
  refine ⟨fun h => ?_, fun h => ?_⟩
  any_goals (exfalso; simp at h; done)
  clear h
  conv => whnf
  refine ACall.usek (toIntSS_spec a0x i0x j0x) ?_
  conv => whnf
  refine ACall.usek (eqIntSS_spec a0x a0x (by omega) (fun r hr => by have := tot_mem hr; omega)) ?_
  conv => whnf
  refine ⟨fun h => ?_, fun h => ?_⟩
  any_goals (exfalso; simp at h; done)
  clear h
  conv => whnf
  refine ACall.usek (toIntSS_spec a1x i1x j1x) ?_
  conv => whnf
  refine ACall.usek (eqIntSS_spec a1x a1x (by omega) (fun r hr => by have := tot_mem hr; omega)) ?_
  conv => whnf
  refine ⟨fun h => ?_, fun h => ?_⟩
  any_goals (exfalso; simp at h; done)
  clear h
  conv => whnf
  refine ACall.usek (toIntSS_spec a2x i2x j2x) ?_
  conv => whnf
  refine ACall.usek (eqIntSS_spec a2x a2x (by omega) (fun r hr => by have := tot_mem hr; omega)) ?_
  conv => whnf
  refine ⟨fun h => ?_, fun h => ?_⟩
  any_goals (exfalso; simp at h; done)
  clear h
  conv => whnf
  exact ⟨rfl, rfl⟩
end Go.Proofs.Ytgobkndgaphacaa
