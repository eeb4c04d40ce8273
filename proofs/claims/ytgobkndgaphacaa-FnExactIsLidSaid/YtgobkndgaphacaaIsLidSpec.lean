/- FnExactIsLid, walked. -/
import Derived.Test.YtgobkndgaphacaaDet7
namespace Go.Proofs.Ytgobkndgaphacaa
open Go.Aw
set_option maxRecDepth 100000
set_option maxHeartbeats 4000000 in
theorem FnExactIsLid_spec (a0x : List (List Int)) (b0x : OkM a0x) (a1x : List Int) (b1x : OkI a1x) (a2x : Int) (b2x : InR a2x) : FSpec Try.prog 6 [.t (.rows a0x), .t (.ints .i64 a1x), .c (.int .i64 a2x)] (ex (.c (.bool true)) []) := by
  refine fspec tyOk mx Try.func6 rfl (by kernel_rfl) rfl ?_
  conv => whnf
  refine ⟨fun h => ?_, fun h => ?_⟩
  · conv => whnf
    exact ⟨rfl, rfl⟩
  have k1x : SzI a1x := by have := of_decide_eq_false h; unfold SzI; omega
  clear h
  conv => whnf
  refine ACall.usek (szIntSS_spec a0x (1048576) (by omega) (by omega) b0x.1 b0x.len) ?_
  conv => whnf
  refine ⟨fun h => ?_, fun h => ?_⟩
  · conv => whnf
    exact ⟨rfl, rfl⟩
  have t0 := szSS_tot (Int.not_lt.1 (of_decide_eq_false h))
  clear h
  have k0x : SzM a0x := by unfold SzM; omega
  conv => whnf
  obtain ⟨i0x, j0x, z0x⟩ := k0x.all
  have i1x : a1x.length ≤ 1048576 := k1x
  refine ACall.usek (toIntSS_spec a0x i0x j0x) ?_
  conv => whnf
  refine ACall.usek (toIntS_spec a1x i1x) ?_
  conv => whnf
  refine ACall.usek (IsLid_s a0x b0x k0x a1x b1x k1x a2x b2x) ?_
  conv => whnf
  refine ACall.usek (toIntSS_spec a0x i0x j0x) ?_
  conv => whnf
  refine ACall.usek (toIntS_spec a1x i1x) ?_
  conv => whnf
  refine ACall.usek (IsLid_i a0x b0x k0x a1x b1x k1x a2x b2x) ?_
  conv => whnf
  refine ⟨fun h => ?_, fun h => ?_⟩
  any_goals (exfalso; simp at h; done)
  clear h
  conv => whnf
  refine ⟨fun h => ?_, fun h => ?_⟩
  any_goals (exfalso; simp at h; done)
  clear h
  conv => whnf
  refine ACall.usek (toIntSS_spec a0x i0x j0x) ?_
  conv => whnf
  refine ACall.usek (eqIntSS_spec a0x a0x (by omega) (fun r hr => by have := tot_mem hr; omega)) ?_
  conv => whnf
  refine ⟨fun h => ?_, fun h => ?_⟩
  any_goals (exfalso; simp at h; done)
  clear h
  conv => whnf
  refine ACall.usek (toIntS_spec a1x i1x) ?_
  conv => whnf
  refine ACall.usek (eqIntS_spec a1x a1x (by omega)) ?_
  conv => whnf
  refine ⟨fun h => ?_, fun h => ?_⟩
  any_goals (exfalso; simp at h; done)
  clear h
  conv => whnf
  exact ⟨rfl, rfl⟩
end Go.Proofs.Ytgobkndgaphacaa
