/-
  No cell of these rows narrows 'for every input' (looked for: loops, veiled, ifaces, maps, wideKeys, modest, calm, conditions, laid).
  DERIVED. THE GIVEN ROWS OF THIS SEAT. 5 by the template 'for every input the law returns true; each argument reads behind the call as it read before'; 0 by the template 'total and deterministic' (their statements: YtgobkndgaphacaaTotals.lean).
  GIVEN WITH THE SEED: the statements are not yours to turn. If you find one false, say at which input.
  Laid BY PROGRAM, IN A SANDBOX (cutbox-rows.mjs): the forced cells as the released guide's own fill.sh prints them over the translation 9f19e083cf890732… (all of the seat's roots in one cut). By AI agents, Wed Nov 11 2026. No macro, syntax, notation, axiom, sorry.
-/
import Derived.Test.YtgobkndgaphacaaChecked
import GoSem.Claim
import GoSem.ClaimJoined
import GoSem.ClaimMapViews
import Derived.JoinedTies
import Derived.KernelRfl
namespace Go.Proofs.Ytgobkndgaphacaa
/- THE CELL 'sum', in the pinned program and in every row, IS THE sha256 OF THE DUMP (.gsa) THAT YtgobkndgaphacaaProg.lean LOADS. Nothing in Lean hashes anything: it is a label: what it is worth is what the hold of that sum in a sandbox is worth. -/
noncomputable def Try.pinned : Pinned := { name := "ytgobkndgaphacaa", sum := "9f19e083cf8907322b3b7b02d4ff4898d5be051010eb92a1468f61249e0e9d8c", checked := Try.checked }
namespace Rows
def none {H : Type} : Left H := { results := [], args := [] }

/-- 'laws.FnExactIsSpread': WHATEVER THE INPUT: true; the input reads as it did. -/
def fnExactIsSpreadSpec : ChangeSpec := { name := "fnExactIsSpread", fn := fun _ => fun
  | [d1, d2, d3] => { results := [.lit (.bool true)], args := [d1, d2, d3] }
  | _ => none }
def fnExactIsSpreadRow : OpenClaim := { program := "ytgobkndgaphacaa", sum := "9f19e083cf8907322b3b7b02d4ff4898d5be051010eb92a1468f61249e0e9d8c", func := "loop.example/g01141/laws.FnExactIsSpread", spec := "fnExactIsSpread", apart := false }
def FnExactIsSpreadSaid : Prop := fnExactIsSpreadRow.holds Try.pinned (OpenSpec.ofChange fnExactIsSpreadSpec)

/-- ITS FALSE NEIGHBOUR: 'it returns false'. Refute it at one input. -/
def fnExactIsSpreadWrong : ChangeSpec := { name := "fnExactIsSpread", fn := fun _ => fun
  | [d1, d2, d3] => { results := [.lit (.bool false)], args := [d1, d2, d3] }
  | _ => none }
def FnExactIsSpreadWrongFalsely : Prop := fnExactIsSpreadRow.holds Try.pinned (OpenSpec.ofChange fnExactIsSpreadWrong)

/-- 'laws.FnExactSpreadWorth': WHATEVER THE INPUT: true; the input reads as it did. -/
def fnExactSpreadWorthSpec : ChangeSpec := { name := "fnExactSpreadWorth", fn := fun _ => fun
  | [d1, d2, d3] => { results := [.lit (.bool true)], args := [d1, d2, d3] }
  | _ => none }
def fnExactSpreadWorthRow : OpenClaim := { program := "ytgobkndgaphacaa", sum := "9f19e083cf8907322b3b7b02d4ff4898d5be051010eb92a1468f61249e0e9d8c", func := "loop.example/g01141/laws.FnExactSpreadWorth", spec := "fnExactSpreadWorth", apart := false }
def FnExactSpreadWorthSaid : Prop := fnExactSpreadWorthRow.holds Try.pinned (OpenSpec.ofChange fnExactSpreadWorthSpec)

/-- ITS FALSE NEIGHBOUR: 'it returns false'. Refute it at one input. -/
def fnExactSpreadWorthWrong : ChangeSpec := { name := "fnExactSpreadWorth", fn := fun _ => fun
  | [d1, d2, d3] => { results := [.lit (.bool false)], args := [d1, d2, d3] }
  | _ => none }
def FnExactSpreadWorthWrongFalsely : Prop := fnExactSpreadWorthRow.holds Try.pinned (OpenSpec.ofChange fnExactSpreadWorthWrong)

/-- 'laws.FnExactIsNeverNegative': WHATEVER THE INPUT: true; the input reads as it did. -/
def fnExactIsNeverNegativeSpec : ChangeSpec := { name := "fnExactIsNeverNegative", fn := fun _ => fun
  | [d] => { results := [.lit (.bool true)], args := [d] }
  | _ => none }
def fnExactIsNeverNegativeRow : OpenClaim := { program := "ytgobkndgaphacaa", sum := "9f19e083cf8907322b3b7b02d4ff4898d5be051010eb92a1468f61249e0e9d8c", func := "loop.example/g01141/laws.FnExactIsNeverNegative", spec := "fnExactIsNeverNegative", unfollowed := true, recurses := true, apart := false }
def FnExactIsNeverNegativeSaid : Prop := fnExactIsNeverNegativeRow.holds Try.pinned (OpenSpec.ofChange fnExactIsNeverNegativeSpec)

/-- ITS FALSE NEIGHBOUR: 'it returns false'. Refute it at one input. -/
def fnExactIsNeverNegativeWrong : ChangeSpec := { name := "fnExactIsNeverNegative", fn := fun _ => fun
  | [d] => { results := [.lit (.bool false)], args := [d] }
  | _ => none }
def FnExactIsNeverNegativeWrongFalsely : Prop := fnExactIsNeverNegativeRow.holds Try.pinned (OpenSpec.ofChange fnExactIsNeverNegativeWrong)

/-- 'laws.FnExactIsLid': WHATEVER THE INPUT: true; the input reads as it did. -/
def fnExactIsLidSpec : ChangeSpec := { name := "fnExactIsLid", fn := fun _ => fun
  | [d1, d2, d3] => { results := [.lit (.bool true)], args := [d1, d2, d3] }
  | _ => none }
def fnExactIsLidRow : OpenClaim := { program := "ytgobkndgaphacaa", sum := "9f19e083cf8907322b3b7b02d4ff4898d5be051010eb92a1468f61249e0e9d8c", func := "loop.example/g01141/laws.FnExactIsLid", spec := "fnExactIsLid", unfollowed := true, recurses := true, apart := false }
def FnExactIsLidSaid : Prop := fnExactIsLidRow.holds Try.pinned (OpenSpec.ofChange fnExactIsLidSpec)

/-- ITS FALSE NEIGHBOUR: 'it returns false'. Refute it at one input. -/
def fnExactIsLidWrong : ChangeSpec := { name := "fnExactIsLid", fn := fun _ => fun
  | [d1, d2, d3] => { results := [.lit (.bool false)], args := [d1, d2, d3] }
  | _ => none }
def FnExactIsLidWrongFalsely : Prop := fnExactIsLidRow.holds Try.pinned (OpenSpec.ofChange fnExactIsLidWrong)

/-- 'laws.FnExactEvenLid': WHATEVER THE INPUT: true; the input reads as it did. -/
def fnExactEvenLidSpec : ChangeSpec := { name := "fnExactEvenLid", fn := fun _ => fun
  | [d1, d2] => { results := [.lit (.bool true)], args := [d1, d2] }
  | _ => none }
def fnExactEvenLidRow : OpenClaim := { program := "ytgobkndgaphacaa", sum := "9f19e083cf8907322b3b7b02d4ff4898d5be051010eb92a1468f61249e0e9d8c", func := "loop.example/g01141/laws.FnExactEvenLid", spec := "fnExactEvenLid", unfollowed := true, recurses := true, apart := false }
def FnExactEvenLidSaid : Prop := fnExactEvenLidRow.holds Try.pinned (OpenSpec.ofChange fnExactEvenLidSpec)

/-- ITS FALSE NEIGHBOUR: 'it returns false'. Refute it at one input. -/
def fnExactEvenLidWrong : ChangeSpec := { name := "fnExactEvenLid", fn := fun _ => fun
  | [d1, d2] => { results := [.lit (.bool false)], args := [d1, d2] }
  | _ => none }
def FnExactEvenLidWrongFalsely : Prop := fnExactEvenLidRow.holds Try.pinned (OpenSpec.ofChange fnExactEvenLidWrong)

/- THE SECOND FORM. 'bulk': how many values and letters a reading holds, each counted each time it is reached (what is shared counts as often as it is met; a slice's spare places count too). A statement '..UptoSaid' is the law's where the arguments, and the package variables that the reading takes, are together of bulk at most 1048576: NARROWER than '..Said'. Prove '..Said' where nothing that the law and all that it calls make is longer than what came in: it says more and counts as full. Else prove '..UptoSaid'. A law counts once. -/
mutual
def uptoBulk {H : Type} : DataW H → Nat
  | .lit (.string bytes) => bytes.length + 1
  | .lit _ => 1
  | .nil => 1
  | .ptr d => uptoBulk d + 1
  | .slice elems spare => uptoBulkAll elems + uptoBulkAll spare + 1
  | .agg parts => uptoBulkAll parts + 1
  | .iface _ d => uptoBulk d + 1
  | .map entries => uptoBulkEntries entries + 1
  | .held _ => 1
def uptoBulkAll {H : Type} : List (DataW H) → Nat
  | [] => 0
  | d :: r => uptoBulk d + uptoBulkAll r
def uptoBulkEntries {H : Type} : List (Lit × DataW H) → Nat
  | [] => 0
  | x :: r => uptoBulkEntry x + uptoBulkEntries r
def uptoBulkEntry {H : Type} : Lit × DataW H → Nat
  | (.string bytes, d) => bytes.length + uptoBulk d + 1
  | (_, d) => uptoBulk d + 1
 end
def uptoSmall : (H : Type) → List (DataW H) → Bool := fun _ ds => decide (uptoBulkAll ds ≤ 1048576)
def OpenSpec.upto (s : _root_.Go.ChangeSpec) : _root_.Go.OpenSpec := { _root_.Go.OpenSpec.ofChange s with cond := some uptoSmall }

/-- 'laws.FnExactIsSpread', WHERE WHAT IT READS IS OF BULK AT MOST 1048576: true; the input reads as it did. -/
def fnExactIsSpreadUptoRow : OpenClaim := { program := "ytgobkndgaphacaa", sum := "9f19e083cf8907322b3b7b02d4ff4898d5be051010eb92a1468f61249e0e9d8c", func := "loop.example/g01141/laws.FnExactIsSpread", spec := "fnExactIsSpread", apart := false, narrowed := true }
def FnExactIsSpreadUptoSaid : Prop := fnExactIsSpreadUptoRow.holds Try.pinned (OpenSpec.upto fnExactIsSpreadSpec)

/-- 'laws.FnExactSpreadWorth', WHERE WHAT IT READS IS OF BULK AT MOST 1048576: true; the input reads as it did. -/
def fnExactSpreadWorthUptoRow : OpenClaim := { program := "ytgobkndgaphacaa", sum := "9f19e083cf8907322b3b7b02d4ff4898d5be051010eb92a1468f61249e0e9d8c", func := "loop.example/g01141/laws.FnExactSpreadWorth", spec := "fnExactSpreadWorth", apart := false, narrowed := true }
def FnExactSpreadWorthUptoSaid : Prop := fnExactSpreadWorthUptoRow.holds Try.pinned (OpenSpec.upto fnExactSpreadWorthSpec)

/-- 'laws.FnExactIsNeverNegative', WHERE WHAT IT READS IS OF BULK AT MOST 1048576: true; the input reads as it did. -/
def fnExactIsNeverNegativeUptoRow : OpenClaim := { program := "ytgobkndgaphacaa", sum := "9f19e083cf8907322b3b7b02d4ff4898d5be051010eb92a1468f61249e0e9d8c", func := "loop.example/g01141/laws.FnExactIsNeverNegative", spec := "fnExactIsNeverNegative", unfollowed := true, recurses := true, apart := false, narrowed := true }
def FnExactIsNeverNegativeUptoSaid : Prop := fnExactIsNeverNegativeUptoRow.holds Try.pinned (OpenSpec.upto fnExactIsNeverNegativeSpec)

/-- 'laws.FnExactIsLid', WHERE WHAT IT READS IS OF BULK AT MOST 1048576: true; the input reads as it did. -/
def fnExactIsLidUptoRow : OpenClaim := { program := "ytgobkndgaphacaa", sum := "9f19e083cf8907322b3b7b02d4ff4898d5be051010eb92a1468f61249e0e9d8c", func := "loop.example/g01141/laws.FnExactIsLid", spec := "fnExactIsLid", unfollowed := true, recurses := true, apart := false, narrowed := true }
def FnExactIsLidUptoSaid : Prop := fnExactIsLidUptoRow.holds Try.pinned (OpenSpec.upto fnExactIsLidSpec)

/-- 'laws.FnExactEvenLid', WHERE WHAT IT READS IS OF BULK AT MOST 1048576: true; the input reads as it did. -/
def fnExactEvenLidUptoRow : OpenClaim := { program := "ytgobkndgaphacaa", sum := "9f19e083cf8907322b3b7b02d4ff4898d5be051010eb92a1468f61249e0e9d8c", func := "loop.example/g01141/laws.FnExactEvenLid", spec := "fnExactEvenLid", unfollowed := true, recurses := true, apart := false, narrowed := true }
def FnExactEvenLidUptoSaid : Prop := fnExactEvenLidUptoRow.holds Try.pinned (OpenSpec.upto fnExactEvenLidSpec)

end Rows
end Go.Proofs.Ytgobkndgaphacaa
