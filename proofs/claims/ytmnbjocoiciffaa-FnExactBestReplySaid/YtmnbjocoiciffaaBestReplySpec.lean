/- FnExactBestReply, walked. -/
import Derived.Test.YtmnbjocoiciffaaReply
import Derived.Test.YtmnbjocoiciffaaStGame
namespace Go.Proofs.Ytmnbjocoiciffaa
open Go.Aw
set_option maxRecDepth 100000
set_option maxHeartbeats 4000000 in
theorem FnExactBestReply_spec (a0x : Int) (a0y : Int) (a0z : List Int) (a0w : List (List Int)) (b0x : InR a0x) (b0y : InR a0y) (b0z : OkI a0z) (b0w : OkM a0w) (a1x : List Int) (b1x : OkI a1x) : FSpec Try.prog 10 [.ag [.c (.int .i64 a0x), .c (.int .i64 a0y), .t (.ints .i64 a0z), .t (.rows a0w)], .t (.ints .i64 a1x)] (ex (.c (.bool true)) []) := by
  refine fspec tyOk mx Try.func10 rfl (by kernel_rfl) rfl ?_
  conv => whnf
  refine ⟨fun h => ?_, fun h => ?_⟩
  · conv => whnf
    exact ⟨rfl, rfl⟩
  have k1x : SzI a1x := by have := of_decide_eq_false h; unfold SzI; omega
  clear h
  conv => whnf
  refine ACall.usek (szGame_spec a0x a0y a0z a0w (1048576) (by omega) (by omega) b0z b0w) ?_
  conv => whnf
  refine ⟨fun h => ?_, fun h => ?_⟩
  · conv => whnf
    exact ⟨rfl, rfl⟩
  have t0 := szGame_tot (Int.not_lt.1 (of_decide_eq_false h))
  clear h
  have k0z : SzI a0z := by unfold SzI; omega
  have k0w : SzM a0w := by unfold SzM; omega
  conv => whnf
  have i0z : a0z.length ≤ 1048576 := k0z
  obtain ⟨i0w, j0w, z0w⟩ := k0w.all
  have i1x : a1x.length ≤ 1048576 := k1x
  refine ACall.usek (toGame_spec a0x a0y a0z a0w k0z k0w) ?_
  conv => whnf
  refine ACall.usek (toIntS_spec a1x i1x) ?_
  conv => whnf
  refine ACall.usek (BestReply_s a0x a0y a0z a0w b0x b0y b0z b0w k0z k0w a1x b1x k1x) ?_
  conv => whnf
  refine ACall.usek (toGame_spec a0x a0y a0z a0w k0z k0w) ?_
  conv => whnf
  refine ACall.usek (toIntS_spec a1x i1x) ?_
  conv => whnf
  refine ACall.usek (BestReply_i a0x a0y a0z a0w b0x b0y b0z b0w k0z k0w a1x b1x k1x) ?_
  conv => whnf
  have hbd := BestReply_bd a0x a0y a0z a0w b0x b0y b0z b0w k0z k0w a1x b1x k1x
  have hb0 := hbd
  refine ACall.usek (eqIntS_spec (brR a0x a0y a0z a0w a1x) (brR a0x a0y a0z a0w a1x) (by omega)) ?_
  conv => whnf
  refine ⟨fun h => ?_, fun h => ?_⟩
  any_goals (exfalso; simp at h; done)
  clear h
  conv => whnf
  refine ⟨fun h => ?_, fun h => ?_⟩
  any_goals (exfalso; simp at h; done)
  clear h
  conv => whnf
  refine ⟨fun h => ?_, fun h => ?_⟩
  any_goals (exfalso; simp at h; done)
  clear h
  conv => whnf
  refine ADraw.plan tyOk mx (.q 0 (.q 1 (.last 2 (.last 3 (.q 4 (.done))))) : Plan) (by kernel_rfl) ?_
  conv => whnf
  refine ACall.useR (toGame_spec a0x a0y a0z a0w k0z k0w) ?_
  conv => whnf
  refine ACall.useR (eqGameA_refl a0x a0y a0z a0w k0z k0w) ?_
  conv => whnf
  refine ⟨fun h => ?_, fun h => ?_⟩
  any_goals (exfalso; simp at h; done)
  clear h
  conv => whnf
  refine ACall.usek (toIntS_spec a1x i1x) ?_
  conv => whnf
  refine ACall.usek (eqIntS_spec a1x a1x (by omega)) ?_
  conv => whnf
  refine ⟨fun h => ?_, fun h => ?_⟩
  any_goals (exfalso; simp at h; done)
  clear h
  conv => whnf
  refine ACallS.inline tyOk mx Try.func37 rfl (by kernel_rfl) rfl ?_
  conv => whnf
  refine ACallS.mut (.row 5) (markIntS_spec a0z (1) (by omega) (by omega) (by omega)) ?_ ⟨⟨rfl, rfl⟩, rfl, trivial⟩ rfl
  conv => whnf
  refine ACallS.mut (.row 6) (markIntSS_spec a0w (1 + (a0z).length) (by omega) (by omega) (by omega) (by omega)) ?_ ⟨⟨rfl, rfl⟩, rfl, trivial⟩ rfl
  conv => whnf
  refine ⟨rfl, ?_⟩
  conv => whnf
  refine ACallS.mut (.row 8) (markIntS_spec a1x (1 + (a0z).length + tot a0w) (by omega) (by omega) (by omega)) ?_ ⟨⟨rfl, rfl⟩, rfl, trivial⟩ rfl
  conv => whnf
  refine ⟨fun h => ?_, fun h => ?_⟩
  any_goals (exfalso; have h9 := of_decide_eq_true h; omega)
  clear h
  conv => whnf
  refine ACall.usek (eqIntS_spec (brR a0x a0y a0z a0w a1x) (brR a0x a0y a0z a0w a1x) (by omega)) ?_
  conv => whnf
  refine ⟨fun h => ?_, fun h => ?_⟩
  any_goals (exfalso; simp at h; done)
  clear h
  conv => whnf
  refine ⟨fun h => ?_, fun h => ?_⟩
  any_goals (exfalso; simp at h; done)
  clear h
  conv => whnf
  refine ⟨fun h => ?_, fun h => ?_⟩
  any_goals (exfalso; simp at h; done)
  clear h
  conv => whnf
  refine ACallS.mut (.row 9) (markIntS_spec (brR a0x a0y a0z a0w a1x) (1) (by omega) (by omega) (by omega)) ?_ ⟨⟨rfl, rfl⟩, rfl, trivial⟩ rfl
  conv => whnf
  refine ACall.usek (heldIntS_spec ((brR a0x a0y a0z a0w a1x)).length (1) (by omega) (by omega) (by omega)) ?_
  conv => whnf
  refine ⟨fun h => ?_, fun h => ?_⟩
  any_goals (exfalso; have h9 := of_decide_eq_true h; omega)
  clear h
  conv => whnf
  refine ⟨fun h => ?_, fun h => ?_⟩
  any_goals (exfalso; simp at h; done)
  clear h
  conv => whnf
  refine ACall.usek (toGame_spec a0x a0y a0z a0w k0z k0w) ?_
  conv => whnf
  refine ACall.usek (toIntS_spec a1x i1x) ?_
  conv => whnf
  refine ACall.usek (BestReply_i a0x a0y a0z a0w b0x b0y b0z b0w k0z k0w a1x b1x k1x) ?_
  conv => whnf
  refine ACall.usek (eqIntS_spec (brR a0x a0y a0z a0w a1x) (brR a0x a0y a0z a0w a1x) (by omega)) ?_
  conv => whnf
  refine ⟨fun h => ?_, fun h => ?_⟩
  any_goals (exfalso; simp at h; done)
  clear h
  conv => whnf
  refine ⟨fun h => ?_, fun h => ?_⟩
  any_goals (exfalso; simp at h; done)
  clear h
  conv => whnf
  refine ⟨fun h => ?_, fun h => ?_⟩
  any_goals (exfalso; simp at h; done)
  clear h
  conv => whnf
  refine ACall.usek (heldIntS_spec ((brR a0x a0y a0z a0w a1x)).length (1) (by omega) (by omega) (by omega)) ?_
  conv => whnf
  refine ⟨fun h => ?_, fun h => ?_⟩
  any_goals (exfalso; have h9 := of_decide_eq_true h; omega)
  clear h
  conv => whnf
  refine ⟨fun h => ?_, fun h => ?_⟩
  any_goals (exfalso; simp at h; done)
  clear h
  conv => whnf
  exact ⟨rfl, rfl⟩
end Go.Proofs.Ytmnbjocoiciffaa
