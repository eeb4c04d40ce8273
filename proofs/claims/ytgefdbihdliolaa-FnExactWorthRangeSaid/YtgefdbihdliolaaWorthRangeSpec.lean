/- FnExactWorthRange, walked. -/
import Derived.Test.YtgefdbihdliolaaRange2
namespace Go.Proofs.Ytgefdbihdliolaa
open Go.Aw
set_option maxRecDepth 100000
set_option maxHeartbeats 4000000 in
theorem FnExactWorthRange_spec (a0x : List (List Int)) (b0x : OkM a0x) : FSpec Try.prog 9 [.t (.rows a0x)] (ex (.c (.bool true)) []) := by
  refine fspec tyOk mx Try.func9 rfl (by kernel_rfl) rfl ?_
  conv => whnf
  refine ACall.usek (szIntSS_spec a0x (1048576) (by omega) (by omega) b0x.1 b0x.len) ?_
  conv => whnf
  refine ⟨fun h => ?_, fun h => ?_⟩
  · conv => whnf
    exact ⟨rfl, rfl⟩
  have t0 := szSS_tot (Int.not_lt.1 (of_decide_eq_false h))
  clear h
  have k0x : SzM a0x := by unfold SzM; omega
  conv => whnf
  obtain ⟨i0x, j0x, z0x⟩ := k0x.all
  refine ACall.usek (toIntSS_spec a0x i0x j0x) ?_
  conv => whnf
  refine ACall.usek (WorthRange_s a0x b0x k0x) ?_
  conv => whnf
  refine ACall.usek (toIntSS_spec a0x i0x j0x) ?_
  conv => whnf
  refine ACall.usek (WorthRange_i a0x b0x k0x) ?_
  conv => whnf
  refine ⟨fun h => ?_, fun h => ?_⟩
  any_goals (exfalso; simp at h; done)
  clear h
  conv => whnf
  refine ⟨fun h => ?_, fun h => ?_⟩
  any_goals (exfalso; simp at h; done)
  clear h
  conv => whnf
  refine ⟨fun h => ?_, fun h => ?_⟩
  any_goals (exfalso; simp at h; done)
  clear h
  conv => whnf
  refine ACall.usek (toIntSS_spec a0x i0x j0x) ?_
  conv => whnf
  refine ACall.usek (eqIntSS_spec a0x a0x (by omega) (fun r hr => by have := tot_mem hr; omega)) ?_
  conv => whnf
  refine ⟨fun h => ?_, fun h => ?_⟩
  any_goals (exfalso; simp at h; done)
  clear h
  conv => whnf
  exact ⟨rfl, rfl⟩
end Go.Proofs.Ytgefdbihdliolaa
