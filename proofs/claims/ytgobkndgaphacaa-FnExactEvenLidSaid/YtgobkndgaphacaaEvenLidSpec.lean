/- FnExactEvenLid, walked. -/
import Derived.Test.YtgobkndgaphacaaDet7
namespace Go.Proofs.Ytgobkndgaphacaa
open Go.Aw
set_option maxRecDepth 100000
set_option maxHeartbeats 4000000 in
theorem FnExactEvenLid_spec (a0x : List (List Int)) (b0x : OkM a0x) (a1x : Int) (b1x : InR a1x) : FSpec Try.prog 7 [.t (.rows a0x), .c (.int .i64 a1x)] (ex (.c (.bool true)) []) := by
  refine fspec tyOk mx Try.func7 rfl (by kernel_rfl) rfl ?_
  conv => whnf
  refine ACall.usek (szIntSS_spec a0x (1048576) (by omega) (by omega) b0x.1 b0x.len) ?_
  conv => whnf
  refine ⟨fun h => ?_, fun h => ?_⟩
  · conv => whnf
    exact ⟨rfl, rfl⟩
  have t0 := szSS_tot (Int.not_lt.1 (of_decide_eq_false h))
  clear h
  have k0x : SzM a0x := by unfold SzM; omega
  conv => whnf
  obtain ⟨i0x, j0x, z0x⟩ := k0x.all
  refine ACall.usek (toIntSS_spec a0x i0x j0x) ?_
  conv => whnf
  refine ACall.usek (EvenLid_s a0x b0x k0x a1x b1x) ?_
  conv => whnf
  refine ACall.usek (toIntSS_spec a0x i0x j0x) ?_
  conv => whnf
  refine ACall.usek (EvenLid_i a0x b0x k0x a1x b1x) ?_
  conv => whnf
  have hbd := EvenLid_bd a0x b0x k0x a1x b1x
  have hb0 := hbd
  refine ACall.usek (eqIntS_spec (evL a0x a1x) (evL a0x a1x) (by omega)) ?_
  conv => whnf
  refine ⟨fun h => ?_, fun h => ?_⟩
  any_goals (exfalso; simp at h; done)
  clear h
  conv => whnf
  refine ⟨fun h => ?_, fun h => ?_⟩
  any_goals (exfalso; simp at h; done)
  clear h
  conv => whnf
  refine ACall.usek (toIntSS_spec a0x i0x j0x) ?_
  conv => whnf
  refine ACall.usek (eqIntSS_spec a0x a0x (by omega) (fun r hr => by have := tot_mem hr; omega)) ?_
  conv => whnf
  refine ⟨fun h => ?_, fun h => ?_⟩
  any_goals (exfalso; simp at h; done)
  clear h
  conv => whnf
  refine ACallS.mut (.row 2) (markIntSS_spec a0x (1) (by omega) (by omega) (by omega) (by omega)) ?_ ⟨⟨rfl, rfl⟩, rfl, trivial⟩ rfl
  conv => whnf
  refine ⟨fun h => ?_, fun h => ?_⟩
  any_goals (exfalso; have h9 := of_decide_eq_true h; omega)
  clear h
  conv => whnf
  refine ACall.usek (eqIntS_spec (evL a0x a1x) (evL a0x a1x) (by omega)) ?_
  conv => whnf
  refine ⟨fun h => ?_, fun h => ?_⟩
  any_goals (exfalso; simp at h; done)
  clear h
  conv => whnf
  refine ⟨fun h => ?_, fun h => ?_⟩
  any_goals (exfalso; simp at h; done)
  clear h
  conv => whnf
  refine ACallS.mut (.row 3) (markIntS_spec (evL a0x a1x) (1) (by omega) (by omega) (by omega)) ?_ ⟨⟨rfl, rfl⟩, rfl, trivial⟩ rfl
  conv => whnf
  refine ACall.usek (heldIntS_spec ((evL a0x a1x)).length (1) (by omega) (by omega) (by omega)) ?_
  conv => whnf
  refine ⟨fun h => ?_, fun h => ?_⟩
  any_goals (exfalso; have h9 := of_decide_eq_true h; omega)
  clear h
  conv => whnf
  refine ⟨fun h => ?_, fun h => ?_⟩
  any_goals (exfalso; simp at h; done)
  clear h
  conv => whnf
  refine ACall.usek (toIntSS_spec a0x i0x j0x) ?_
  conv => whnf
  refine ACall.usek (EvenLid_i a0x b0x k0x a1x b1x) ?_
  conv => whnf
  refine ACall.usek (eqIntS_spec (evL a0x a1x) (evL a0x a1x) (by omega)) ?_
  conv => whnf
  refine ⟨fun h => ?_, fun h => ?_⟩
  any_goals (exfalso; simp at h; done)
  clear h
  conv => whnf
  refine ⟨fun h => ?_, fun h => ?_⟩
  any_goals (exfalso; simp at h; done)
  clear h
  conv => whnf
  refine ACall.usek (heldIntS_spec ((evL a0x a1x)).length (1) (by omega) (by omega) (by omega)) ?_
  conv => whnf
  refine ⟨fun h => ?_, fun h => ?_⟩
  any_goals (exfalso; have h9 := of_decide_eq_true h; omega)
  clear h
  conv => whnf
  refine ⟨fun h => ?_, fun h => ?_⟩
  any_goals (exfalso; simp at h; done)
  clear h
  conv => whnf
  exact ⟨rfl, rfl⟩
end Go.Proofs.Ytgobkndgaphacaa
