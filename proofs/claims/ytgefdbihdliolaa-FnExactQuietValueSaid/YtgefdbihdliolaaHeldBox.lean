/- Boxes as results: what holds their marks. -/
import Derived.Test.YtgefdbihdliolaaEqBox
namespace Go.Aw
section
variable {P : Program}
/-- (Box, bool): Box{} where it is false -/
def nilOrBox (ok : Bool) (x y z : Int) (r : ARow) : AVal → List (Nat × ARow) → Prop := fun v h =>
  (ok = false ∧ v = .tu [.ag [.c (.int .i64 (0)), .c (.int .i64 (0)), .c (.int .i64 (0)), .c (.slice none 0 0)], .c (.bool false)] ∧ h = []) ∨ (ok = true ∧ v = .tu [.ag [.c (.int .i64 (x)), .c (.int .i64 (y)), .c (.int .i64 (z)), .own 0], .c (.bool true)] ∧ h = [(0, r)])

theorem view_box {f : FuncId} {args : List AVal} {ok : Bool} {x y z : Int} {e e1 : Nat} {m : List (List Int)} (h : FSpec P f args (nilOrBox ok x y z (.rows e e1 true m))) :
    FSpec P f args (ex (.tu [.ag [.c (.int .i64 (if ok then x else 0)), .c (.int .i64 (if ok then y else 0)), .c (.int .i64 (if ok then z else 0)), .own 0], .c (.bool ok)]) [(0, .rows e e1 true (if ok then m else []))]) := by
  refine FSpec.view h ?_
  rintro v hr (⟨rfl, rfl, rfl⟩ | ⟨rfl, rfl, rfl⟩)
  · exact ⟨[(0, .nil)], .tu [.ag [.c (.int .i64 (0)), .c (.int .i64 (0)), .c (.int .i64 (0)), .own 0], .c (.bool false)], [(0, .rows e e1 true [])], rfl, ⟨rfl, trivial, trivial⟩, ⟨⟨rfl, rfl, rfl, ⟨rfl, rfl, rfl⟩, trivial⟩, rfl, trivial⟩, rfl, rfl⟩
  · exact ⟨[(0, .row 0)], .tu [.ag [.c (.int .i64 (x)), .c (.int .i64 (y)), .c (.int .i64 (z)), .own 0], .c (.bool true)], [(0, .rows e e1 true m)], rfl, ⟨rfl, rfl, trivial⟩, ⟨⟨rfl, rfl, rfl, ⟨rfl, rfl⟩, trivial⟩, rfl, trivial⟩, rfl, rfl⟩
end
end Go.Aw
namespace Go.Proofs.Ytgefdbihdliolaa
open Go.Aw
set_option maxRecDepth 100000
theorem heldBox_spec (x y z : Int) (m : List (List Int)) (k : Int) (h0 : 0 ≤ k) (h1 : k ≤ 1099511627776) (h2 : m.length ≤ 1099511627776) (h3 : tot m ≤ 1099511627776) :
    FSpec Try.prog 32 [.ag [.c (.int .i64 x), .c (.int .i64 y), .c (.int .i64 z), .t (.rows (marksR k m))], .c (.int .i64 k)] (ex (.c (.int .i64 (k + tot m))) []) := by
  refine fspec tyOk mx Try.func32 rfl (by kernel_rfl) rfl ?_
  conv => whnf
  refine ACall.use (heldIntSS_spec m k h0 h1 h2 h3) ?_
  refine ⟨fun h => ?_, fun h => ?_⟩
  · have := of_decide_eq_true h
    omega
  · conv => whnf
    exact ⟨rfl, rfl⟩
end Go.Proofs.Ytgefdbihdliolaa
