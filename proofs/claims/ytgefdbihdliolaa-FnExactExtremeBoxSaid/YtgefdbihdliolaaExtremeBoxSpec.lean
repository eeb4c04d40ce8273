/- FnExactExtremeBox, walked. -/
import Derived.Test.YtgefdbihdliolaaExt3
import Derived.Test.YtgefdbihdliolaaHeldBox
namespace Go.Proofs.Ytgefdbihdliolaa
open Go.Aw
set_option maxRecDepth 100000
set_option maxHeartbeats 4000000 in
theorem FnExactExtremeBox_spec (a0x : Int) (b0x : InR a0x) : FSpec Try.prog 6 [.c (.int .i64 a0x)] (ex (.c (.bool true)) []) := by
  refine fspec tyOk mx Try.func6 rfl (by kernel_rfl) rfl ?_
  conv => whnf
  refine ACall.usek (ExtremeBox_s a0x b0x) ?_
  conv => whnf
  refine ACall.usek (ExtremeBox_i a0x b0x) ?_
  conv => whnf
  have hbd := ExtremeBox_bd a0x b0x
  obtain ⟨hb0, hb1⟩ := hbd
  refine ACall.usek (eqBox_refl ((if exOk a0x then 2 else 0)) ((if exOk a0x then 2 else 0)) ((if exOk a0x then 2 else 0)) ((exR a0x)) (by omega) (fun r hr => by have := tot_mem hr; omega)) ?_
  conv => whnf
  refine ⟨fun h => ?_, fun h => ?_⟩
  any_goals (exfalso; simp at h; done)
  clear h
  conv => whnf
  refine ⟨fun h => ?_, fun h => ?_⟩
  any_goals (exfalso; simp at h; done)
  clear h
  conv => whnf
  refine ACallS.inline tyOk mx Try.func31 rfl (by kernel_rfl) rfl ?_
  conv => whnf
  refine ACallS.mut (.row 1) (markIntSS_spec ((exR a0x)) (1) (by omega) (by omega) (by omega) (by omega)) ?_ ⟨⟨rfl, rfl⟩, rfl, trivial⟩ rfl
  conv => whnf
  refine ⟨rfl, ?_⟩
  conv => whnf
  refine ACall.usek (heldBox_spec ((if exOk a0x then 2 else 0)) ((if exOk a0x then 2 else 0)) ((if exOk a0x then 2 else 0)) ((exR a0x)) (1) (by omega) (by omega) (by omega) (by omega)) ?_
  conv => whnf
  refine ⟨fun h => ?_, fun h => ?_⟩
  any_goals (exfalso; have h9 := of_decide_eq_true h; omega)
  clear h
  conv => whnf
  refine ⟨fun h => ?_, fun h => ?_⟩
  any_goals (exfalso; simp at h; done)
  clear h
  conv => whnf
  refine ACall.usek (ExtremeBox_i a0x b0x) ?_
  conv => whnf
  refine ACall.usek (eqBox_refl ((if exOk a0x then 2 else 0)) ((if exOk a0x then 2 else 0)) ((if exOk a0x then 2 else 0)) ((exR a0x)) (by omega) (fun r hr => by have := tot_mem hr; omega)) ?_
  conv => whnf
  refine ⟨fun h => ?_, fun h => ?_⟩
  any_goals (exfalso; simp at h; done)
  clear h
  conv => whnf
  refine ⟨fun h => ?_, fun h => ?_⟩
  any_goals (exfalso; simp at h; done)
  clear h
  conv => whnf
  refine ACall.usek (heldBox_spec ((if exOk a0x then 2 else 0)) ((if exOk a0x then 2 else 0)) ((if exOk a0x then 2 else 0)) ((exR a0x)) (1) (by omega) (by omega) (by omega) (by omega)) ?_
  conv => whnf
  refine ⟨fun h => ?_, fun h => ?_⟩
  any_goals (exfalso; have h9 := of_decide_eq_true h; omega)
  clear h
  conv => whnf
  refine ⟨fun h => ?_, fun h => ?_⟩
  any_goals (exfalso; simp at h; done)
  clear h
  conv => whnf
  exact ⟨rfl, rfl⟩
end Go.Proofs.Ytgefdbihdliolaa
