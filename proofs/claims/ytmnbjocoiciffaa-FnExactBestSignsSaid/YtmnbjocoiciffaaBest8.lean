/- BestSigns, program and reference. -/
import Derived.Test.YtmnbjocoiciffaaSign8
namespace Go.Aw
section
variable {P : Program}
/-- (slice, slice, bool): nil where it is false -/
def nilOr2 (ok : Bool) (r r' : ARow) : AVal → List (Nat × ARow) → Prop := fun x h =>
  (ok = false ∧ x = .tu [.c (.slice none 0 0), .c (.slice none 0 0), .c (.bool false)] ∧ h = []) ∨ (ok = true ∧ x = .tu [.own 0, .own 1, .c (.bool true)] ∧ h = [(0, r), (1, r')])

theorem view_ints2 {f : FuncId} {args : List AVal} {ok : Bool} {e e' : Nat} {k k' : IntKind} {l l' : List Int} (h : FSpec P f args (nilOr2 ok (.ints e k l) (.ints e' k' l'))) :
    FSpec P f args (ex (.tu [.own 0, .own 1, .c (.bool ok)]) [(0, .ints e k (if ok then l else [])), (1, .ints e' k' (if ok then l' else []))]) := by
  refine FSpec.view h ?_
  rintro x hr (⟨rfl, rfl, rfl⟩ | ⟨rfl, rfl, rfl⟩)
  · exact ⟨[(0, .nil), (1, .nil)], .tu [.own 0, .own 1, .c (.bool false)], [(0, .ints e k []), (1, .ints e' k' [])], rfl, ⟨rfl, trivial, rfl, trivial, trivial⟩, ⟨⟨rfl, rfl, rfl⟩, ⟨rfl, rfl, rfl⟩, rfl, trivial⟩, rfl, rfl⟩
  · exact ⟨[(0, .row 0), (1, .row 1)], .tu [.own 0, .own 1, .c (.bool true)], [(0, .ints e k l), (1, .ints e' k' l')], rfl, ⟨rfl, rfl, rfl, rfl, trivial⟩, ⟨⟨rfl, rfl⟩, ⟨rfl, rfl⟩, rfl, trivial⟩, rfl, rfl⟩
end
end Go.Aw
namespace Go.Proofs.Ytmnbjocoiciffaa
open Go.Aw
set_option maxRecDepth 100000

theorem BestSigns_s (m : List (List Int)) (hm : OkM m) (_km : SzM m) :
    FSpec Try.prog 23 [.t (.rows m)] (ex (.tu [.own 0, .own 1, .c (.bool (goodM m))]) [(0, .ints 3 .i64 (bestRr m)), (1, .ints 3 .i64 (bestPr m))]) := by
  refine fspec tyOk mx Try.func23 rfl (by kernel_rfl) rfl ?_
  conv => whnf
  refine ACall.use (l5Good_spec m hm.1 hm.len) ?_
  refine ⟨fun h => ?_, fun h => ?_⟩
  · have hg : goodM m = false := by simpa using h
    conv => whnf
    refine ⟨by rw [hg], by rw [bestRr, bestPr, hg]; rfl⟩
  · have hg : goodM m = true := by simpa using h
    conv => whnf
    refine ACall.use (l5Best_spec m hg) ?_
    conv => whnf
    refine ⟨by rw [hg], by rw [bestRr, bestPr, hg]; rfl⟩

theorem BestSigns_i (m : List (List Int)) (hm : OkM m) (_km : SzM m) :
    FSpec Try.prog 25 [.t (.rows m)] (ex (.tu [.own 0, .own 1, .c (.bool (goodM m))]) [(0, .ints 3 .i64 (bestRr m)), (1, .ints 3 .i64 (bestPr m))]) := by
  refine view_ints2 ?_
  refine fspec tyOk mx Try.func25 rfl (by kernel_rfl) rfl ?_
  conv => whnf
  refine ACall.use (iIsSignGame_spec m hm.1 hm.len) ?_
  refine ⟨fun h => ?_, fun h => ?_⟩
  · have hg : goodM m = false := by simpa using h
    conv => whnf
    exact .inl ⟨hg, rfl, rfl⟩
  · have hg : goodM m = true := by simpa using h
    conv => whnf
    refine ACall.use (bestSigns_spec m hg) ?_
    conv => whnf
    exact .inr ⟨hg, rfl, rfl⟩

theorem BestSigns_bd (m : List (List Int)) (_hm : OkM m) (_km : SzM m) : (bestRr m).length ≤ 1000000 ∧ (bestPr m).length ≤ 1000000 := by
  unfold bestRr bestPr
  split
  · rename_i h
    have := best_pre h
    omega
  · simp
end Go.Proofs.Ytmnbjocoiciffaa
