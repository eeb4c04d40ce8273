/- FnExactQuietValue, walked. -/
import Derived.Test.YtgefdbihdliolaaQQ
import Derived.Test.YtgefdbihdliolaaStGame
namespace Go.Proofs.Ytgefdbihdliolaa
open Go.Aw
set_option maxRecDepth 100000
set_option maxHeartbeats 4000000 in
theorem FnExactQuietValue_spec (a0x : Int) (a0y : Int) (a0z : List Int) (a0w : List (List Int)) (b0x : InR a0x) (b0y : InR a0y) (b0z : OkI a0z) (b0w : OkM a0w) : FSpec Try.prog 12 [.ag [.c (.int .i64 a0x), .c (.int .i64 a0y), .t (.ints .i64 a0z), .t (.rows a0w)]] (ex (.c (.bool true)) []) := by
  refine fspec tyOk mx Try.func12 rfl (by kernel_rfl) rfl ?_
  conv => whnf
  refine ACall.usek (szGame_spec a0x a0y a0z a0w (1048576) (by omega) (by omega) b0z b0w) ?_
  conv => whnf
  refine ⟨fun h => ?_, fun h => ?_⟩
  · conv => whnf
    exact ⟨rfl, rfl⟩
  have t0 := szGame_tot (Int.not_lt.1 (of_decide_eq_false h))
  clear h
  have k0z : SzI a0z := by unfold SzI; omega
  have k0w : SzM a0w := by unfold SzM; omega
  conv => whnf
  have i0z : a0z.length ≤ 1048576 := k0z
  obtain ⟨i0w, j0w, z0w⟩ := k0w.all
  refine ACall.usek (toGame_spec a0x a0y a0z a0w k0z k0w) ?_
  conv => whnf
  refine ACall.usek (QuietValue_s a0x a0y a0z a0w b0x b0y b0z b0w k0z k0w) ?_
  conv => whnf
  refine ACall.usek (toGame_spec a0x a0y a0z a0w k0z k0w) ?_
  conv => whnf
  refine ACall.usek (QuietValue_i a0x a0y a0z a0w b0x b0y b0z b0w k0z k0w) ?_
  conv => whnf
  refine ⟨fun h => ?_, fun h => ?_⟩
  any_goals (exfalso; simp at h; done)
  clear h
  conv => whnf
  refine ⟨fun h => ?_, fun h => ?_⟩
  any_goals (exfalso; simp at h; done)
  clear h
  conv => whnf
  refine ADraw.plan tyOk mx (.q 0 (.q 1 (.last 2 (.last 3 (.q 4 (.done))))) : Plan) (by kernel_rfl) ?_
  conv => whnf
  refine ACall.useR (toGame_spec a0x a0y a0z a0w k0z k0w) ?_
  conv => whnf
  refine ACall.useR (eqGameA_refl a0x a0y a0z a0w k0z k0w) ?_
  conv => whnf
  refine ⟨fun h => ?_, fun h => ?_⟩
  any_goals (exfalso; simp at h; done)
  clear h
  conv => whnf
  exact ⟨rfl, rfl⟩
end Go.Proofs.Ytgefdbihdliolaa
