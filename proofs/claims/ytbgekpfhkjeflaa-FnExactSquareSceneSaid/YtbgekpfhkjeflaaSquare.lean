/- FnExactSquareScene. -/
import Derived.Test.YtbgekpfhkjeflaaScene0
namespace Go.Proofs.Ytbgekpfhkjeflaa
open Go.Aw
set_option maxRecDepth 100000

def squareM : List (List Int) := [[0, 1, 2], [3, 4, 5], [6, 7, 8], [0, 3, 6], [1, 4, 7], [2, 5, 8]]
def squareS : List Int := [0, 0, 0, 0, 0, 1]
theorem sSquare_spec : FSpec Try.prog 15 [] (ex (.ag [.c (.int .i64 9), .own 0, .own 1]) [(0, .rows 23 3 true squareM), (1, .ints 3 .i64 squareS)]) := by
  refine fspec tyOk mx Try.func15 rfl (by kernel_rfl) rfl ?_
  conv => whnf
  exact ⟨rfl, rfl⟩
theorem iSquare_spec : FSpec Try.prog 16 [] (ex (.ag [.c (.int .i64 9), .own 0, .own 1]) [(0, .rows 23 3 true squareM), (1, .ints 3 .i64 squareS)]) := by
  refine fspec tyOk mx Try.func16 rfl (by kernel_rfl) rfl ?_
  conv => whnf
  exact ⟨rfl, rfl⟩

theorem FnExactSquareScene_spec : FSpec Try.prog 3 [] (ex (.c (.bool true)) []) := by
  refine fspec tyOk mx Try.func3 rfl (by kernel_rfl) rfl ?_
  conv => whnf
  refine ACall.use sSquare_spec ?_
  conv => whnf
  refine ACall.use iSquare_spec ?_
  conv => whnf
  refine ACall.use (eqScene_spec 9 9 squareM squareM squareS squareS (by decide) (by decide) (by decide)) ?_
  conv => whnf
  refine ⟨fun h => ?_, fun h => ?_⟩
  · simp at h
  · conv => whnf
    refine ACallS.inline tyOk mx Try.func18 rfl (by kernel_rfl) rfl ?_
    conv => whnf
    refine ACallS.mut (.row 3) (markIntSS_spec squareM 1 (by decide) (by decide) (by decide) (by decide)) ?_ ⟨⟨rfl, rfl⟩, rfl, trivial⟩ rfl
    conv => whnf
    refine ACallS.mut (.row 4) (markIntS_spec squareS (1 + tot squareM) (by decide) (by decide) (by decide)) ?_ ⟨⟨rfl, rfl⟩, rfl, trivial⟩ rfl
    conv => whnf
    refine ⟨rfl, ?_⟩
    conv => whnf
    refine ACall.use (heldScene_spec 9 1 squareM squareS.length (by decide) (by decide) (by decide) (by decide) (by decide)) ?_
    refine ⟨fun h => ?_, fun h => ?_⟩
    · exact absurd h (by decide)
    · conv => whnf
      refine ⟨fun h => ?_, fun h => ?_⟩
      · exact absurd h (by decide)
      · conv => whnf
        refine ACall.use iSquare_spec ?_
        conv => whnf
        refine ACall.use (eqScene_spec 9 9 squareM squareM squareS squareS (by decide) (by decide) (by decide)) ?_
        conv => whnf
        refine ⟨fun h => ?_, fun h => ?_⟩
        · simp at h
        · conv => whnf
          refine ACall.use (heldScene_spec 9 1 squareM squareS.length (by decide) (by decide) (by decide) (by decide) (by decide)) ?_
          refine ⟨fun h => ?_, fun h => ?_⟩
          · exact absurd h (by decide)
          · conv => whnf
            refine ⟨fun h => ?_, fun h => ?_⟩
            · exact absurd h (by decide)
            · conv => whnf
              exact ⟨rfl, rfl⟩
end Go.Proofs.Ytbgekpfhkjeflaa
