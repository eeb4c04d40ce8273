/- FnExactNoisySum, walked. -/
import Derived.Test.YtljlhbgkmkdphaaNoisy
import Derived.Test.YtljlhbgkmkdphaaHeldBox
namespace Go.Proofs.Ytljlhbgkmkdphaa
open Go.Aw
set_option maxRecDepth 100000
set_option maxHeartbeats 4000000 in
theorem FnExactNoisySum_spec (a0x : Int) (b0x : InR a0x) (a1x : Int) (b1x : InR a1x) (a2x : Int) (b2x : InR a2x) : FSpec Try.prog 6 [.c (.int .i64 a0x), .c (.int .i64 a1x), .c (.int .i64 a2x)] (ex (.c (.bool true)) []) := by
  refine fspec tyOk mx Try.func6 rfl (by kernel_rfl) rfl ?_
  conv => whnf
  refine ACall.usek (NoisySum_s a0x b0x a1x b1x a2x b2x) ?_
  conv => whnf
  refine ACall.usek (NoisySum_i a0x b0x a1x b1x a2x b2x) ?_
  conv => whnf
  have hbd := NoisySum_bd a0x b0x a1x b1x a2x b2x
  obtain ⟨hb0, hb1⟩ := hbd
  refine ACall.usek (eqBox_refl ((if nsOk a0x a1x a2x then 2 else 0)) ((if nsOk a0x a1x a2x then 2 else 0)) ((if nsOk a0x a1x a2x then nsW a1x a2x else 0)) ((nsR a0x a1x a2x)) (by omega) (fun r hr => by have := tot_mem hr; omega)) ?_
  conv => whnf
  refine ⟨fun h => ?_, fun h => ?_⟩
  any_goals (exfalso; simp at h; done)
  clear h
  conv => whnf
  refine ⟨fun h => ?_, fun h => ?_⟩
  any_goals (exfalso; simp at h; done)
  clear h
  conv => whnf
  refine ACallS.inline tyOk mx Try.func18 rfl (by kernel_rfl) rfl ?_
  conv => whnf
  refine ACallS.mut (.row 2) (markIntSS_spec ((nsR a0x a1x a2x)) (1) (by omega) (by omega) (by omega) (by omega)) ?_ ⟨⟨rfl, rfl⟩, rfl, trivial⟩ rfl
  conv => whnf
  refine ⟨rfl, ?_⟩
  conv => whnf
  refine ACall.usek (heldBox_spec ((if nsOk a0x a1x a2x then 2 else 0)) ((if nsOk a0x a1x a2x then 2 else 0)) ((if nsOk a0x a1x a2x then nsW a1x a2x else 0)) ((nsR a0x a1x a2x)) (1) (by omega) (by omega) (by omega) (by omega)) ?_
  conv => whnf
  refine ⟨fun h => ?_, fun h => ?_⟩
  any_goals (exfalso; have h9 := of_decide_eq_true h; omega)
  clear h
  conv => whnf
  refine ⟨fun h => ?_, fun h => ?_⟩
  any_goals (exfalso; simp at h; done)
  clear h
  conv => whnf
  refine ACall.usek (NoisySum_i a0x b0x a1x b1x a2x b2x) ?_
  conv => whnf
  refine ACall.usek (eqBox_refl ((if nsOk a0x a1x a2x then 2 else 0)) ((if nsOk a0x a1x a2x then 2 else 0)) ((if nsOk a0x a1x a2x then nsW a1x a2x else 0)) ((nsR a0x a1x a2x)) (by omega) (fun r hr => by have := tot_mem hr; omega)) ?_
  conv => whnf
  refine ⟨fun h => ?_, fun h => ?_⟩
  any_goals (exfalso; simp at h; done)
  clear h
  conv => whnf
  refine ⟨fun h => ?_, fun h => ?_⟩
  any_goals (exfalso; simp at h; done)
  clear h
  conv => whnf
  refine ACall.usek (heldBox_spec ((if nsOk a0x a1x a2x then 2 else 0)) ((if nsOk a0x a1x a2x then 2 else 0)) ((if nsOk a0x a1x a2x then nsW a1x a2x else 0)) ((nsR a0x a1x a2x)) (1) (by omega) (by omega) (by omega) (by omega)) ?_
  conv => whnf
  refine ⟨fun h => ?_, fun h => ?_⟩
  any_goals (exfalso; have h9 := of_decide_eq_true h; omega)
  clear h
  conv => whnf
  refine ⟨fun h => ?_, fun h => ?_⟩
  any_goals (exfalso; simp at h; done)
  clear h
  conv => whnf
  exact ⟨rfl, rfl⟩
end Go.Proofs.Ytljlhbgkmkdphaa
