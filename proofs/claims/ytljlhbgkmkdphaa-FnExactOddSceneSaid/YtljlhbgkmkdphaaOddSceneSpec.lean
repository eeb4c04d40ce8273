/- FnExactOddScene, walked. -/
import Derived.Test.YtljlhbgkmkdphaaOdd1
import Derived.Test.YtljlhbgkmkdphaaStScene
namespace Go.Proofs.Ytljlhbgkmkdphaa
open Go.Aw
set_option maxRecDepth 100000
set_option maxHeartbeats 4000000 in
theorem FnExactOddScene_spec (a0x : Int) (a0y : List (List Int)) (a0z : List Int) (b0x : InR a0x) (b0y : OkM a0y) (b0z : OkI a0z) : FSpec Try.prog 7 [.ag [.c (.int .i64 a0x), .t (.rows a0y), .t (.ints .i64 a0z)]] (ex (.c (.bool true)) []) := by
  refine fspec tyOk mx Try.func7 rfl (by kernel_rfl) rfl ?_
  conv => whnf
  refine ACall.usek (szScene_spec a0x a0y a0z (1048576) (by omega) (by omega) b0y b0z) ?_
  conv => whnf
  refine ⟨fun h => ?_, fun h => ?_⟩
  · conv => whnf
    exact ⟨rfl, rfl⟩
  have t0 := szScene_tot (Int.not_lt.1 (of_decide_eq_false h))
  clear h
  have k0y : SzM a0y := by unfold SzM; omega
  have k0z : SzI a0z := by unfold SzI; omega
  conv => whnf
  obtain ⟨i0y, j0y, z0y⟩ := k0y.all
  have i0z : a0z.length ≤ 1048576 := k0z
  refine ACall.usek (toScene_spec a0x a0y a0z k0y k0z) ?_
  conv => whnf
  refine ACall.usek (OddScene_s a0x a0y a0z b0x b0y b0z k0y k0z) ?_
  conv => whnf
  refine ACall.usek (toScene_spec a0x a0y a0z k0y k0z) ?_
  conv => whnf
  refine ACall.usek (OddScene_i a0x a0y a0z b0x b0y b0z k0y k0z) ?_
  conv => whnf
  have hbd := OddScene_bd a0x a0y a0z b0x b0y b0z k0y k0z
  obtain ⟨hb0, hb1, hb2⟩ := hbd
  refine ACall.usek (eqScene_refl ((odE a0x a0y a0z)) ((odM a0x a0y a0z)) ((odS a0x a0y a0z)) (by omega) (fun r hr => by have := tot_mem hr; omega) (by omega)) ?_
  conv => whnf
  refine ⟨fun h => ?_, fun h => ?_⟩
  any_goals (exfalso; simp at h; done)
  clear h
  conv => whnf
  refine ⟨fun h => ?_, fun h => ?_⟩
  any_goals (exfalso; simp at h; done)
  clear h
  conv => whnf
  refine ADraw.plan tyOk mx (.q 0 (.q 1 (.last 2 (.last 3 (.q 4 (.done))))) : Plan) (by kernel_rfl) ?_
  conv => whnf
  refine ACall.useR (toScene_spec a0x a0y a0z k0y k0z) ?_
  conv => whnf
  refine ACall.useR (eqSceneA_refl a0x a0y a0z k0y k0z) ?_
  conv => whnf
  refine ⟨fun h => ?_, fun h => ?_⟩
  any_goals (exfalso; simp at h; done)
  clear h
  conv => whnf
  refine ACallS.inline tyOk mx Try.func33 rfl (by kernel_rfl) rfl ?_
  conv => whnf
  refine ACallS.mut (.row 6) (markIntSS_spec a0y (1) (by omega) (by omega) (by omega) (by omega)) ?_ ⟨⟨rfl, rfl⟩, rfl, trivial⟩ rfl
  conv => whnf
  refine ACallS.mut (.row 7) (markIntS_spec a0z (1 + tot a0y) (by omega) (by omega) (by omega)) ?_ ⟨⟨rfl, rfl⟩, rfl, trivial⟩ rfl
  conv => whnf
  refine ⟨rfl, ?_⟩
  conv => whnf
  refine ⟨fun h => ?_, fun h => ?_⟩
  any_goals (exfalso; have h9 := of_decide_eq_true h; omega)
  clear h
  conv => whnf
  refine ACall.usek (eqScene_refl ((odE a0x a0y a0z)) ((odM a0x a0y a0z)) ((odS a0x a0y a0z)) (by omega) (fun r hr => by have := tot_mem hr; omega) (by omega)) ?_
  conv => whnf
  refine ⟨fun h => ?_, fun h => ?_⟩
  any_goals (exfalso; simp at h; done)
  clear h
  conv => whnf
  refine ⟨fun h => ?_, fun h => ?_⟩
  any_goals (exfalso; simp at h; done)
  clear h
  conv => whnf
  refine ACallS.inline tyOk mx Try.func33 rfl (by kernel_rfl) rfl ?_
  conv => whnf
  refine ACallS.mut (.row 9) (markIntSS_spec ((odM a0x a0y a0z)) (1) (by omega) (by omega) (by omega) (by omega)) ?_ ⟨⟨rfl, rfl⟩, rfl, trivial⟩ rfl
  conv => whnf
  refine ACallS.mut (.row 10) (markIntS_spec ((odS a0x a0y a0z)) (1 + tot ((odM a0x a0y a0z))) (by omega) (by omega) (by omega)) ?_ ⟨⟨rfl, rfl⟩, rfl, trivial⟩ rfl
  conv => whnf
  refine ⟨rfl, ?_⟩
  conv => whnf
  refine ACall.usek (heldScene_spec ((odE a0x a0y a0z)) (1) ((odM a0x a0y a0z)) ((odS a0x a0y a0z)).length (by omega) (by omega) (by omega) (by omega) (by omega)) ?_
  conv => whnf
  refine ⟨fun h => ?_, fun h => ?_⟩
  any_goals (exfalso; have h9 := of_decide_eq_true h; omega)
  clear h
  conv => whnf
  refine ⟨fun h => ?_, fun h => ?_⟩
  any_goals (exfalso; simp at h; done)
  clear h
  conv => whnf
  refine ACall.usek (toScene_spec a0x a0y a0z k0y k0z) ?_
  conv => whnf
  refine ACall.usek (OddScene_i a0x a0y a0z b0x b0y b0z k0y k0z) ?_
  conv => whnf
  refine ACall.usek (eqScene_refl ((odE a0x a0y a0z)) ((odM a0x a0y a0z)) ((odS a0x a0y a0z)) (by omega) (fun r hr => by have := tot_mem hr; omega) (by omega)) ?_
  conv => whnf
  refine ⟨fun h => ?_, fun h => ?_⟩
  any_goals (exfalso; simp at h; done)
  clear h
  conv => whnf
  refine ⟨fun h => ?_, fun h => ?_⟩
  any_goals (exfalso; simp at h; done)
  clear h
  conv => whnf
  refine ACall.usek (heldScene_spec ((odE a0x a0y a0z)) (1) ((odM a0x a0y a0z)) ((odS a0x a0y a0z)).length (by omega) (by omega) (by omega) (by omega) (by omega)) ?_
  conv => whnf
  refine ⟨fun h => ?_, fun h => ?_⟩
  any_goals (exfalso; have h9 := of_decide_eq_true h; omega)
  clear h
  conv => whnf
  refine ⟨fun h => ?_, fun h => ?_⟩
  any_goals (exfalso; simp at h; done)
  clear h
  conv => whnf
  exact ⟨rfl, rfl⟩
end Go.Proofs.Ytljlhbgkmkdphaa
