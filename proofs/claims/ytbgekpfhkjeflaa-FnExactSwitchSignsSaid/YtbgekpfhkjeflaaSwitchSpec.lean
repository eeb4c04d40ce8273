/- FnExactSwitchSigns: the program's SwitchSigns returns what the reference's returns, for all arguments. -/
import Derived.Test.YtbgekpfhkjeflaaSign4
namespace Go.Proofs.Ytbgekpfhkjeflaa
open Go.Aw
set_option maxRecDepth 100000
set_option maxHeartbeats 4000000 in
theorem FnExactSwitchSigns_spec (a0x : List (List Int)) (b0x : OkM a0x) (a1x : List Int) (b1x : OkI a1x) (a2x : List Int) (b2x : OkI a2x) : FSpec Try.prog 14 [.t (.rows a0x), .t (.ints .i64 a1x), .t (.ints .i64 a2x)] (ex (.c (.bool true)) []) := by
  refine fspec tyOk mx Try.func14 rfl (by kernel_rfl) rfl ?_
  conv => whnf
  refine ⟨fun h => ?_, fun h => ?_⟩
  · conv => whnf
    exact ⟨rfl, rfl⟩
  have k1x : SzI a1x := by have := of_decide_eq_false h; unfold SzI; omega
  clear h
  conv => whnf
  refine ⟨fun h => ?_, fun h => ?_⟩
  · conv => whnf
    exact ⟨rfl, rfl⟩
  have k2x : SzI a2x := by have := of_decide_eq_false h; unfold SzI; omega
  clear h
  conv => whnf
  refine ACall.usek (szIntSS_spec a0x (1048576) (by omega) (by omega) b0x.1 b0x.len) ?_
  conv => whnf
  refine ⟨fun h => ?_, fun h => ?_⟩
  · conv => whnf
    exact ⟨rfl, rfl⟩
  have t0 := szSS_tot (Int.not_lt.1 (of_decide_eq_false h))
  clear h
  have k0x : SzM a0x := by unfold SzM; omega
  conv => whnf
  obtain ⟨i0x, j0x, z0x⟩ := k0x.all
  have i1x : a1x.length ≤ 1048576 := k1x
  have i2x : a2x.length ≤ 1048576 := k2x
  refine ACall.usek (toIntSS_spec a0x i0x j0x) ?_
  conv => whnf
  refine ACall.usek (toIntS_spec a1x i1x) ?_
  conv => whnf
  refine ACall.usek (toIntS_spec a2x i2x) ?_
  conv => whnf
  refine ACall.usek (SwitchSigns_s a0x b0x k0x a1x b1x k1x a2x b2x k2x) ?_
  conv => whnf
  refine ACall.usek (toIntSS_spec a0x i0x j0x) ?_
  conv => whnf
  refine ACall.usek (toIntS_spec a1x i1x) ?_
  conv => whnf
  refine ACall.usek (toIntS_spec a2x i2x) ?_
  conv => whnf
  refine ACall.usek (SwitchSigns_i a0x b0x k0x a1x b1x k1x a2x b2x k2x) ?_
  conv => whnf
  have hbd := SwitchSigns_bd a0x b0x k0x a1x b1x k1x a2x b2x k2x
  obtain ⟨hb0, hb1⟩ := hbd
  refine ACall.usek (eqIntSS_spec (switchRes a0x a1x a2x) (switchRes a0x a1x a2x) (by omega) (fun r hr => by have := tot_mem hr; omega)) ?_
  conv => whnf
  refine ⟨fun h => ?_, fun h => ?_⟩
  any_goals (exfalso; simp at h; done)
  clear h
  conv => whnf
  refine ⟨fun h => ?_, fun h => ?_⟩
  any_goals (exfalso; simp at h; done)
  clear h
  conv => whnf
  refine ACall.usek (toIntSS_spec a0x i0x j0x) ?_
  conv => whnf
  refine ACall.usek (eqIntSS_spec a0x a0x (by omega) (fun r hr => by have := tot_mem hr; omega)) ?_
  conv => whnf
  refine ⟨fun h => ?_, fun h => ?_⟩
  any_goals (exfalso; simp at h; done)
  clear h
  conv => whnf
  refine ACall.usek (toIntS_spec a1x i1x) ?_
  conv => whnf
  refine ACall.usek (eqIntS_spec a1x a1x (by omega)) ?_
  conv => whnf
  refine ⟨fun h => ?_, fun h => ?_⟩
  any_goals (exfalso; simp at h; done)
  clear h
  conv => whnf
  refine ACall.usek (toIntS_spec a2x i2x) ?_
  conv => whnf
  refine ACall.usek (eqIntS_spec a2x a2x (by omega)) ?_
  conv => whnf
  refine ⟨fun h => ?_, fun h => ?_⟩
  any_goals (exfalso; simp at h; done)
  clear h
  conv => whnf
  refine ACallS.mut (.row 4) (markIntSS_spec a0x (1) (by omega) (by omega) (by omega) (by omega)) ?_ ⟨⟨rfl, rfl⟩, rfl, trivial⟩ rfl
  conv => whnf
  refine ACallS.mut (.row 5) (markIntS_spec a1x (1 + tot a0x) (by omega) (by omega) (by omega)) ?_ ⟨⟨rfl, rfl⟩, rfl, trivial⟩ rfl
  conv => whnf
  refine ACallS.mut (.row 6) (markIntS_spec a2x (1 + tot a0x + (a1x).length) (by omega) (by omega) (by omega)) ?_ ⟨⟨rfl, rfl⟩, rfl, trivial⟩ rfl
  conv => whnf
  refine ⟨fun h => ?_, fun h => ?_⟩
  any_goals (exfalso; have h9 := of_decide_eq_true h; omega)
  clear h
  conv => whnf
  refine ACall.usek (eqIntSS_spec (switchRes a0x a1x a2x) (switchRes a0x a1x a2x) (by omega) (fun r hr => by have := tot_mem hr; omega)) ?_
  conv => whnf
  refine ⟨fun h => ?_, fun h => ?_⟩
  any_goals (exfalso; simp at h; done)
  clear h
  conv => whnf
  refine ⟨fun h => ?_, fun h => ?_⟩
  any_goals (exfalso; simp at h; done)
  clear h
  conv => whnf
  refine ACallS.mut (.row 7) (markIntSS_spec (switchRes a0x a1x a2x) (1) (by omega) (by omega) (by omega) (by omega)) ?_ ⟨⟨rfl, rfl⟩, rfl, trivial⟩ rfl
  conv => whnf
  refine ACall.usek (heldIntSS_spec (switchRes a0x a1x a2x) (1) (by omega) (by omega) (by omega) (by omega)) ?_
  conv => whnf
  refine ⟨fun h => ?_, fun h => ?_⟩
  any_goals (exfalso; have h9 := of_decide_eq_true h; omega)
  clear h
  conv => whnf
  refine ⟨fun h => ?_, fun h => ?_⟩
  any_goals (exfalso; simp at h; done)
  clear h
  conv => whnf
  refine ACall.usek (toIntSS_spec a0x i0x j0x) ?_
  conv => whnf
  refine ACall.usek (toIntS_spec a1x i1x) ?_
  conv => whnf
  refine ACall.usek (toIntS_spec a2x i2x) ?_
  conv => whnf
  refine ACall.usek (SwitchSigns_i a0x b0x k0x a1x b1x k1x a2x b2x k2x) ?_
  conv => whnf
  refine ACall.usek (eqIntSS_spec (switchRes a0x a1x a2x) (switchRes a0x a1x a2x) (by omega) (fun r hr => by have := tot_mem hr; omega)) ?_
  conv => whnf
  refine ⟨fun h => ?_, fun h => ?_⟩
  any_goals (exfalso; simp at h; done)
  clear h
  conv => whnf
  refine ⟨fun h => ?_, fun h => ?_⟩
  any_goals (exfalso; simp at h; done)
  clear h
  conv => whnf
  refine ACall.usek (heldIntSS_spec (switchRes a0x a1x a2x) (1) (by omega) (by omega) (by omega) (by omega)) ?_
  conv => whnf
  refine ⟨fun h => ?_, fun h => ?_⟩
  any_goals (exfalso; have h9 := of_decide_eq_true h; omega)
  clear h
  conv => whnf
  refine ⟨fun h => ?_, fun h => ?_⟩
  any_goals (exfalso; simp at h; done)
  clear h
  conv => whnf
  exact ⟨rfl, rfl⟩
end Go.Proofs.Ytbgekpfhkjeflaa
