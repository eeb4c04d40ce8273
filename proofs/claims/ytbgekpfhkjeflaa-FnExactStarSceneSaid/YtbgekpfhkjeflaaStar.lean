/- FnExactStarScene. -/
import Derived.Test.YtbgekpfhkjeflaaScene0
namespace Go.Proofs.Ytbgekpfhkjeflaa
open Go.Aw
set_option maxRecDepth 100000

def starM : List (List Int) := [[0, 1, 2, 3], [0, 4, 5, 6], [1, 4, 7, 8], [2, 5, 7, 9], [3, 6, 8, 9]]
def starS : List Int := [1, 0, 0, 0, 0]
theorem sStar_spec : FSpec Try.prog 20 [] (ex (.ag [.c (.int .i64 10), .own 0, .own 1]) [(0, .rows 23 3 true starM), (1, .ints 3 .i64 starS)]) := by
  refine fspec tyOk mx Try.func20 rfl (by kernel_rfl) rfl ?_
  conv => whnf
  exact ⟨rfl, rfl⟩
theorem iStar_spec : FSpec Try.prog 21 [] (ex (.ag [.c (.int .i64 10), .own 0, .own 1]) [(0, .rows 23 3 true starM), (1, .ints 3 .i64 starS)]) := by
  refine fspec tyOk mx Try.func21 rfl (by kernel_rfl) rfl ?_
  conv => whnf
  exact ⟨rfl, rfl⟩

theorem FnExactStarScene_spec : FSpec Try.prog 4 [] (ex (.c (.bool true)) []) := by
  refine fspec tyOk mx Try.func4 rfl (by kernel_rfl) rfl ?_
  conv => whnf
  refine ACall.use sStar_spec ?_
  conv => whnf
  refine ACall.use iStar_spec ?_
  conv => whnf
  refine ACall.use (eqScene_spec 10 10 starM starM starS starS (by decide) (by decide) (by decide)) ?_
  conv => whnf
  refine ⟨fun h => ?_, fun h => ?_⟩
  · simp at h
  · conv => whnf
    refine ACallS.inline tyOk mx Try.func18 rfl (by kernel_rfl) rfl ?_
    conv => whnf
    refine ACallS.mut (.row 3) (markIntSS_spec starM 1 (by decide) (by decide) (by decide) (by decide)) ?_ ⟨⟨rfl, rfl⟩, rfl, trivial⟩ rfl
    conv => whnf
    refine ACallS.mut (.row 4) (markIntS_spec starS (1 + tot starM) (by decide) (by decide) (by decide)) ?_ ⟨⟨rfl, rfl⟩, rfl, trivial⟩ rfl
    conv => whnf
    refine ⟨rfl, ?_⟩
    conv => whnf
    refine ACall.use (heldScene_spec 10 1 starM starS.length (by decide) (by decide) (by decide) (by decide) (by decide)) ?_
    refine ⟨fun h => ?_, fun h => ?_⟩
    · exact absurd h (by decide)
    · conv => whnf
      refine ⟨fun h => ?_, fun h => ?_⟩
      · exact absurd h (by decide)
      · conv => whnf
        refine ACall.use iStar_spec ?_
        conv => whnf
        refine ACall.use (eqScene_spec 10 10 starM starM starS starS (by decide) (by decide) (by decide)) ?_
        conv => whnf
        refine ⟨fun h => ?_, fun h => ?_⟩
        · simp at h
        · conv => whnf
          refine ACall.use (heldScene_spec 10 1 starM starS.length (by decide) (by decide) (by decide) (by decide) (by decide)) ?_
          refine ⟨fun h => ?_, fun h => ?_⟩
          · exact absurd h (by decide)
          · conv => whnf
            refine ⟨fun h => ?_, fun h => ?_⟩
            · exact absurd h (by decide)
            · conv => whnf
              exact ⟨rfl, rfl⟩
end Go.Proofs.Ytbgekpfhkjeflaa
