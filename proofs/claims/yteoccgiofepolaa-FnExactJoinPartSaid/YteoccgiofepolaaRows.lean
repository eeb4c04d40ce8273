/-
  No cell of these rows narrows 'for every input' (looked for: loops, veiled, ifaces, maps, wideKeys, modest, calm, conditions, laid).
  DERIVED. THE GIVEN ROWS OF THIS SEAT. 4 by the template 'for every input the law returns true; each argument reads behind the call as it read before'; 0 by the template 'total and deterministic' (their statements: YteoccgiofepolaaTotals.lean).
  GIVEN WITH THE SEED: the statements are not yours to turn. If you find one false, say at which input.
  Laid BY PROGRAM, IN A SANDBOX (cutbox-rows.mjs): the forced cells as the released guide's own fill.sh prints them over the translation f309ff28bdb88db0… (all of the seat's roots in one cut). By AI agents, Wed Nov 11 2026. No macro, syntax, notation, axiom, sorry.
-/
import Derived.Test.YteoccgiofepolaaChecked
import GoSem.Claim
import GoSem.ClaimJoined
import GoSem.ClaimMapViews
import Derived.JoinedTies
import Derived.KernelRfl
namespace Go.Proofs.Yteoccgiofepolaa
/- THE CELL 'sum', in the pinned program and in every row, IS THE sha256 OF THE DUMP (.gsa) THAT YteoccgiofepolaaProg.lean LOADS. Nothing in Lean hashes anything: it is a label: what it is worth is what the hold of that sum in a sandbox is worth. -/
noncomputable def Try.pinned : Pinned := { name := "yteoccgiofepolaa", sum := "f309ff28bdb88db0c7aa27ffe0a56353f64b06a037b9cb6f9932f285c3efcc68", checked := Try.checked }
namespace Rows
def none {H : Type} : Left H := { results := [], args := [] }

/-- 'laws.FnExactAreSwitched': WHATEVER THE INPUT: true; the input reads as it did. -/
def fnExactAreSwitchedSpec : ChangeSpec := { name := "fnExactAreSwitched", fn := fun _ => fun
  | [d1, d2] => { results := [.lit (.bool true)], args := [d1, d2] }
  | _ => none }
def fnExactAreSwitchedRow : OpenClaim := { program := "yteoccgiofepolaa", sum := "f309ff28bdb88db0c7aa27ffe0a56353f64b06a037b9cb6f9932f285c3efcc68", func := "loop.example/g01141/laws.FnExactAreSwitched", spec := "fnExactAreSwitched", unfollowed := true, recurses := true, apart := false }
def FnExactAreSwitchedSaid : Prop := fnExactAreSwitchedRow.holds Try.pinned (OpenSpec.ofChange fnExactAreSwitchedSpec)

/-- ITS FALSE NEIGHBOUR: 'it returns false'. Refute it at one input. -/
def fnExactAreSwitchedWrong : ChangeSpec := { name := "fnExactAreSwitched", fn := fun _ => fun
  | [d1, d2] => { results := [.lit (.bool false)], args := [d1, d2] }
  | _ => none }
def FnExactAreSwitchedWrongFalsely : Prop := fnExactAreSwitchedRow.holds Try.pinned (OpenSpec.ofChange fnExactAreSwitchedWrong)

/-- 'laws.FnExactFirstSwitched': WHATEVER THE INPUT: true; the input reads as it did. -/
def fnExactFirstSwitchedSpec : ChangeSpec := { name := "fnExactFirstSwitched", fn := fun _ => fun
  | [d] => { results := [.lit (.bool true)], args := [d] }
  | _ => none }
def fnExactFirstSwitchedRow : OpenClaim := { program := "yteoccgiofepolaa", sum := "f309ff28bdb88db0c7aa27ffe0a56353f64b06a037b9cb6f9932f285c3efcc68", func := "loop.example/g01141/laws.FnExactFirstSwitched", spec := "fnExactFirstSwitched", unfollowed := true, recurses := true, apart := false }
def FnExactFirstSwitchedSaid : Prop := fnExactFirstSwitchedRow.holds Try.pinned (OpenSpec.ofChange fnExactFirstSwitchedSpec)

/-- ITS FALSE NEIGHBOUR: 'it returns false'. Refute it at one input. -/
def fnExactFirstSwitchedWrong : ChangeSpec := { name := "fnExactFirstSwitched", fn := fun _ => fun
  | [d] => { results := [.lit (.bool false)], args := [d] }
  | _ => none }
def FnExactFirstSwitchedWrongFalsely : Prop := fnExactFirstSwitchedRow.holds Try.pinned (OpenSpec.ofChange fnExactFirstSwitchedWrong)

/-- 'laws.FnExactJoinPart': WHATEVER THE INPUT: true; the input reads as it did. -/
def fnExactJoinPartSpec : ChangeSpec := { name := "fnExactJoinPart", fn := fun _ => fun
  | [d1, d2, d3] => { results := [.lit (.bool true)], args := [d1, d2, d3] }
  | _ => none }
def fnExactJoinPartRow : OpenClaim := { program := "yteoccgiofepolaa", sum := "f309ff28bdb88db0c7aa27ffe0a56353f64b06a037b9cb6f9932f285c3efcc68", func := "loop.example/g01141/laws.FnExactJoinPart", spec := "fnExactJoinPart", unfollowed := true, recurses := true, apart := false }
def FnExactJoinPartSaid : Prop := fnExactJoinPartRow.holds Try.pinned (OpenSpec.ofChange fnExactJoinPartSpec)

/-- ITS FALSE NEIGHBOUR: 'it returns false'. Refute it at one input. -/
def fnExactJoinPartWrong : ChangeSpec := { name := "fnExactJoinPart", fn := fun _ => fun
  | [d1, d2, d3] => { results := [.lit (.bool false)], args := [d1, d2, d3] }
  | _ => none }
def FnExactJoinPartWrongFalsely : Prop := fnExactJoinPartRow.holds Try.pinned (OpenSpec.ofChange fnExactJoinPartWrong)

/-- 'laws.FnExactRestOf': WHATEVER THE INPUT: true; the input reads as it did. -/
def fnExactRestOfSpec : ChangeSpec := { name := "fnExactRestOf", fn := fun _ => fun
  | [d] => { results := [.lit (.bool true)], args := [d] }
  | _ => none }
def fnExactRestOfRow : OpenClaim := { program := "yteoccgiofepolaa", sum := "f309ff28bdb88db0c7aa27ffe0a56353f64b06a037b9cb6f9932f285c3efcc68", func := "loop.example/g01141/laws.FnExactRestOf", spec := "fnExactRestOf", unfollowed := true, recurses := true, apart := false }
def FnExactRestOfSaid : Prop := fnExactRestOfRow.holds Try.pinned (OpenSpec.ofChange fnExactRestOfSpec)

/-- ITS FALSE NEIGHBOUR: 'it returns false'. Refute it at one input. -/
def fnExactRestOfWrong : ChangeSpec := { name := "fnExactRestOf", fn := fun _ => fun
  | [d] => { results := [.lit (.bool false)], args := [d] }
  | _ => none }
def FnExactRestOfWrongFalsely : Prop := fnExactRestOfRow.holds Try.pinned (OpenSpec.ofChange fnExactRestOfWrong)

/- THE SECOND FORM. 'bulk': how many values and letters a reading holds, each counted each time it is reached (what is shared counts as often as it is met; a slice's spare places count too). A statement '..UptoSaid' is the law's where the arguments, and the package variables that the reading takes, are together of bulk at most 1048576: NARROWER than '..Said'. Prove '..Said' where nothing that the law and all that it calls make is longer than what came in: it says more and counts as full. Else prove '..UptoSaid'. A law counts once. -/
mutual
def uptoBulk {H : Type} : DataW H → Nat
  | .lit (.string bytes) => bytes.length + 1
  | .lit _ => 1
  | .nil => 1
  | .ptr d => uptoBulk d + 1
  | .slice elems spare => uptoBulkAll elems + uptoBulkAll spare + 1
  | .agg parts => uptoBulkAll parts + 1
  | .iface _ d => uptoBulk d + 1
  | .map entries => uptoBulkEntries entries + 1
  | .held _ => 1
def uptoBulkAll {H : Type} : List (DataW H) → Nat
  | [] => 0
  | d :: r => uptoBulk d + uptoBulkAll r
def uptoBulkEntries {H : Type} : List (Lit × DataW H) → Nat
  | [] => 0
  | x :: r => uptoBulkEntry x + uptoBulkEntries r
def uptoBulkEntry {H : Type} : Lit × DataW H → Nat
  | (.string bytes, d) => bytes.length + uptoBulk d + 1
  | (_, d) => uptoBulk d + 1
 end
def uptoSmall : (H : Type) → List (DataW H) → Bool := fun _ ds => decide (uptoBulkAll ds ≤ 1048576)
def OpenSpec.upto (s : _root_.Go.ChangeSpec) : _root_.Go.OpenSpec := { _root_.Go.OpenSpec.ofChange s with cond := some uptoSmall }

/-- 'laws.FnExactAreSwitched', WHERE WHAT IT READS IS OF BULK AT MOST 1048576: true; the input reads as it did. -/
def fnExactAreSwitchedUptoRow : OpenClaim := { program := "yteoccgiofepolaa", sum := "f309ff28bdb88db0c7aa27ffe0a56353f64b06a037b9cb6f9932f285c3efcc68", func := "loop.example/g01141/laws.FnExactAreSwitched", spec := "fnExactAreSwitched", unfollowed := true, recurses := true, apart := false, narrowed := true }
def FnExactAreSwitchedUptoSaid : Prop := fnExactAreSwitchedUptoRow.holds Try.pinned (OpenSpec.upto fnExactAreSwitchedSpec)

/-- 'laws.FnExactFirstSwitched', WHERE WHAT IT READS IS OF BULK AT MOST 1048576: true; the input reads as it did. -/
def fnExactFirstSwitchedUptoRow : OpenClaim := { program := "yteoccgiofepolaa", sum := "f309ff28bdb88db0c7aa27ffe0a56353f64b06a037b9cb6f9932f285c3efcc68", func := "loop.example/g01141/laws.FnExactFirstSwitched", spec := "fnExactFirstSwitched", unfollowed := true, recurses := true, apart := false, narrowed := true }
def FnExactFirstSwitchedUptoSaid : Prop := fnExactFirstSwitchedUptoRow.holds Try.pinned (OpenSpec.upto fnExactFirstSwitchedSpec)

/-- 'laws.FnExactJoinPart', WHERE WHAT IT READS IS OF BULK AT MOST 1048576: true; the input reads as it did. -/
def fnExactJoinPartUptoRow : OpenClaim := { program := "yteoccgiofepolaa", sum := "f309ff28bdb88db0c7aa27ffe0a56353f64b06a037b9cb6f9932f285c3efcc68", func := "loop.example/g01141/laws.FnExactJoinPart", spec := "fnExactJoinPart", unfollowed := true, recurses := true, apart := false, narrowed := true }
def FnExactJoinPartUptoSaid : Prop := fnExactJoinPartUptoRow.holds Try.pinned (OpenSpec.upto fnExactJoinPartSpec)

/-- 'laws.FnExactRestOf', WHERE WHAT IT READS IS OF BULK AT MOST 1048576: true; the input reads as it did. -/
def fnExactRestOfUptoRow : OpenClaim := { program := "yteoccgiofepolaa", sum := "f309ff28bdb88db0c7aa27ffe0a56353f64b06a037b9cb6f9932f285c3efcc68", func := "loop.example/g01141/laws.FnExactRestOf", spec := "fnExactRestOf", unfollowed := true, recurses := true, apart := false, narrowed := true }
def FnExactRestOfUptoSaid : Prop := fnExactRestOfUptoRow.holds Try.pinned (OpenSpec.upto fnExactRestOfSpec)

end Rows
end Go.Proofs.Yteoccgiofepolaa
