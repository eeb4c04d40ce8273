/-
  No cell of these rows narrows 'for every input' (looked for: loops, veiled, ifaces, maps, wideKeys, modest, calm, conditions, laid).
  DERIVED. THE GIVEN ROWS OF THIS SEAT. 12 by the template 'for every input the law returns true; each argument reads behind the call as it read before'; 0 by the template 'total and deterministic' (their statements: YtbgekpfhkjeflaaTotals.lean).
  GIVEN WITH THE SEED: the statements are not yours to turn. If you find one false, say at which input.
  Laid BY PROGRAM, IN A SANDBOX (cutbox-rows.mjs): the forced cells as the released guide's own fill.sh prints them over the translation bad8ea0a31661972… (all of the seat's roots in one cut). By AI agents, Wed Nov 11 2026. No macro, syntax, notation, axiom, sorry.
-/
import Derived.Test.YtbgekpfhkjeflaaChecked
import GoSem.Claim
import GoSem.ClaimJoined
import GoSem.ClaimMapViews
import Derived.JoinedTies
import Derived.KernelRfl
namespace Go.Proofs.Ytbgekpfhkjeflaa
/- THE CELL 'sum', in the pinned program and in every row, IS THE sha256 OF THE DUMP (.gsa) THAT YtbgekpfhkjeflaaProg.lean LOADS. Nothing in Lean hashes anything: it is a label: what it is worth is what the hold of that sum in a sandbox is worth. -/
noncomputable def Try.pinned : Pinned := { name := "ytbgekpfhkjeflaa", sum := "bad8ea0a31661972652886b5ab1d3354c1d6f8a59e094a7732dd915078145611", checked := Try.checked }
namespace Rows
def none {H : Type} : Left H := { results := [], args := [] }

/-- 'laws.FnExactSquareScene': WHATEVER THE INPUT: true; the input reads as it did. -/
def fnExactSquareSceneSpec : ChangeSpec := { name := "fnExactSquareScene", fn := fun _ => fun
  | [] => { results := [.lit (.bool true)], args := [] }
  | _ => none }
def fnExactSquareSceneRow : OpenClaim := { program := "ytbgekpfhkjeflaa", sum := "bad8ea0a31661972652886b5ab1d3354c1d6f8a59e094a7732dd915078145611", func := "loop.example/g01141/laws.FnExactSquareScene", spec := "fnExactSquareScene", apart := false }
def FnExactSquareSceneSaid : Prop := fnExactSquareSceneRow.holds Try.pinned (OpenSpec.ofChange fnExactSquareSceneSpec)

/-- ITS FALSE NEIGHBOUR: 'it returns false'. Refute it at one input. -/
def fnExactSquareSceneWrong : ChangeSpec := { name := "fnExactSquareScene", fn := fun _ => fun
  | [] => { results := [.lit (.bool false)], args := [] }
  | _ => none }
def FnExactSquareSceneWrongFalsely : Prop := fnExactSquareSceneRow.holds Try.pinned (OpenSpec.ofChange fnExactSquareSceneWrong)

/-- 'laws.FnExactStarScene': WHATEVER THE INPUT: true; the input reads as it did. -/
def fnExactStarSceneSpec : ChangeSpec := { name := "fnExactStarScene", fn := fun _ => fun
  | [] => { results := [.lit (.bool true)], args := [] }
  | _ => none }
def fnExactStarSceneRow : OpenClaim := { program := "ytbgekpfhkjeflaa", sum := "bad8ea0a31661972652886b5ab1d3354c1d6f8a59e094a7732dd915078145611", func := "loop.example/g01141/laws.FnExactStarScene", spec := "fnExactStarScene", apart := false }
def FnExactStarSceneSaid : Prop := fnExactStarSceneRow.holds Try.pinned (OpenSpec.ofChange fnExactStarSceneSpec)

/-- ITS FALSE NEIGHBOUR: 'it returns false'. Refute it at one input. -/
def fnExactStarSceneWrong : ChangeSpec := { name := "fnExactStarScene", fn := fun _ => fun
  | [] => { results := [.lit (.bool false)], args := [] }
  | _ => none }
def FnExactStarSceneWrongFalsely : Prop := fnExactStarSceneRow.holds Try.pinned (OpenSpec.ofChange fnExactStarSceneWrong)

/-- 'laws.FnExactIsSignGame': WHATEVER THE INPUT: true; the input reads as it did. -/
def fnExactIsSignGameSpec : ChangeSpec := { name := "fnExactIsSignGame", fn := fun _ => fun
  | [d] => { results := [.lit (.bool true)], args := [d] }
  | _ => none }
def fnExactIsSignGameRow : OpenClaim := { program := "ytbgekpfhkjeflaa", sum := "bad8ea0a31661972652886b5ab1d3354c1d6f8a59e094a7732dd915078145611", func := "loop.example/g01141/laws.FnExactIsSignGame", spec := "fnExactIsSignGame", apart := false }
def FnExactIsSignGameSaid : Prop := fnExactIsSignGameRow.holds Try.pinned (OpenSpec.ofChange fnExactIsSignGameSpec)

/-- ITS FALSE NEIGHBOUR: 'it returns false'. Refute it at one input. -/
def fnExactIsSignGameWrong : ChangeSpec := { name := "fnExactIsSignGame", fn := fun _ => fun
  | [d] => { results := [.lit (.bool false)], args := [d] }
  | _ => none }
def FnExactIsSignGameWrongFalsely : Prop := fnExactIsSignGameRow.holds Try.pinned (OpenSpec.ofChange fnExactIsSignGameWrong)

/-- 'laws.FnExactEqualSumBox': WHATEVER THE INPUT: true; the input reads as it did. -/
def fnExactEqualSumBoxSpec : ChangeSpec := { name := "fnExactEqualSumBox", fn := fun _ => fun
  | [d] => { results := [.lit (.bool true)], args := [d] }
  | _ => none }
def fnExactEqualSumBoxRow : OpenClaim := { program := "ytbgekpfhkjeflaa", sum := "bad8ea0a31661972652886b5ab1d3354c1d6f8a59e094a7732dd915078145611", func := "loop.example/g01141/laws.FnExactEqualSumBox", spec := "fnExactEqualSumBox", unfollowed := true, recurses := true, apart := false }
def FnExactEqualSumBoxSaid : Prop := fnExactEqualSumBoxRow.holds Try.pinned (OpenSpec.ofChange fnExactEqualSumBoxSpec)

/-- ITS FALSE NEIGHBOUR: 'it returns false'. Refute it at one input. -/
def fnExactEqualSumBoxWrong : ChangeSpec := { name := "fnExactEqualSumBox", fn := fun _ => fun
  | [d] => { results := [.lit (.bool false)], args := [d] }
  | _ => none }
def FnExactEqualSumBoxWrongFalsely : Prop := fnExactEqualSumBoxRow.holds Try.pinned (OpenSpec.ofChange fnExactEqualSumBoxWrong)

/-- 'laws.FnExactIsScene': WHATEVER THE INPUT: true; the input reads as it did. -/
def fnExactIsSceneSpec : ChangeSpec := { name := "fnExactIsScene", fn := fun _ => fun
  | [d] => { results := [.lit (.bool true)], args := [d] }
  | _ => none }
def fnExactIsSceneRow : OpenClaim := { program := "ytbgekpfhkjeflaa", sum := "bad8ea0a31661972652886b5ab1d3354c1d6f8a59e094a7732dd915078145611", func := "loop.example/g01141/laws.FnExactIsScene", spec := "fnExactIsScene", apart := false }
def FnExactIsSceneSaid : Prop := fnExactIsSceneRow.holds Try.pinned (OpenSpec.ofChange fnExactIsSceneSpec)

/-- ITS FALSE NEIGHBOUR: 'it returns false'. Refute it at one input. -/
def fnExactIsSceneWrong : ChangeSpec := { name := "fnExactIsScene", fn := fun _ => fun
  | [d] => { results := [.lit (.bool false)], args := [d] }
  | _ => none }
def FnExactIsSceneWrongFalsely : Prop := fnExactIsSceneRow.holds Try.pinned (OpenSpec.ofChange fnExactIsSceneWrong)

/-- 'laws.FnExactSignFunctional': WHATEVER THE INPUT: true; the input reads as it did. -/
def fnExactSignFunctionalSpec : ChangeSpec := { name := "fnExactSignFunctional", fn := fun _ => fun
  | [d] => { results := [.lit (.bool true)], args := [d] }
  | _ => none }
def fnExactSignFunctionalRow : OpenClaim := { program := "ytbgekpfhkjeflaa", sum := "bad8ea0a31661972652886b5ab1d3354c1d6f8a59e094a7732dd915078145611", func := "loop.example/g01141/laws.FnExactSignFunctional", spec := "fnExactSignFunctional", apart := false }
def FnExactSignFunctionalSaid : Prop := fnExactSignFunctionalRow.holds Try.pinned (OpenSpec.ofChange fnExactSignFunctionalSpec)

/-- ITS FALSE NEIGHBOUR: 'it returns false'. Refute it at one input. -/
def fnExactSignFunctionalWrong : ChangeSpec := { name := "fnExactSignFunctional", fn := fun _ => fun
  | [d] => { results := [.lit (.bool false)], args := [d] }
  | _ => none }
def FnExactSignFunctionalWrongFalsely : Prop := fnExactSignFunctionalRow.holds Try.pinned (OpenSpec.ofChange fnExactSignFunctionalWrong)

/-- 'laws.FnLids': WHATEVER THE INPUT: true; the input reads as it did. -/
def fnLidsSpec : ChangeSpec := { name := "fnLids", fn := fun _ => fun
  | [d] => { results := [.lit (.bool true)], args := [d] }
  | _ => none }
def fnLidsRow : OpenClaim := { program := "ytbgekpfhkjeflaa", sum := "bad8ea0a31661972652886b5ab1d3354c1d6f8a59e094a7732dd915078145611", func := "loop.example/g01141/laws.FnLids", spec := "fnLids", unfollowed := true, recurses := true, apart := false }
def FnLidsSaid : Prop := fnLidsRow.holds Try.pinned (OpenSpec.ofChange fnLidsSpec)

/-- ITS FALSE NEIGHBOUR: 'it returns false'. Refute it at one input. -/
def fnLidsWrong : ChangeSpec := { name := "fnLids", fn := fun _ => fun
  | [d] => { results := [.lit (.bool false)], args := [d] }
  | _ => none }
def FnLidsWrongFalsely : Prop := fnLidsRow.holds Try.pinned (OpenSpec.ofChange fnLidsWrong)

/-- 'laws.FnExactCutOf': WHATEVER THE INPUT: true; the input reads as it did. -/
def fnExactCutOfSpec : ChangeSpec := { name := "fnExactCutOf", fn := fun _ => fun
  | [d] => { results := [.lit (.bool true)], args := [d] }
  | _ => none }
def fnExactCutOfRow : OpenClaim := { program := "ytbgekpfhkjeflaa", sum := "bad8ea0a31661972652886b5ab1d3354c1d6f8a59e094a7732dd915078145611", func := "loop.example/g01141/laws.FnExactCutOf", spec := "fnExactCutOf", apart := false }
def FnExactCutOfSaid : Prop := fnExactCutOfRow.holds Try.pinned (OpenSpec.ofChange fnExactCutOfSpec)

/-- ITS FALSE NEIGHBOUR: 'it returns false'. Refute it at one input. -/
def fnExactCutOfWrong : ChangeSpec := { name := "fnExactCutOf", fn := fun _ => fun
  | [d] => { results := [.lit (.bool false)], args := [d] }
  | _ => none }
def FnExactCutOfWrongFalsely : Prop := fnExactCutOfRow.holds Try.pinned (OpenSpec.ofChange fnExactCutOfWrong)

/-- 'laws.FnExactIsSpread': WHATEVER THE INPUT: true; the input reads as it did. -/
def fnExactIsSpreadSpec : ChangeSpec := { name := "fnExactIsSpread", fn := fun _ => fun
  | [d1, d2, d3] => { results := [.lit (.bool true)], args := [d1, d2, d3] }
  | _ => none }
def fnExactIsSpreadRow : OpenClaim := { program := "ytbgekpfhkjeflaa", sum := "bad8ea0a31661972652886b5ab1d3354c1d6f8a59e094a7732dd915078145611", func := "loop.example/g01141/laws.FnExactIsSpread", spec := "fnExactIsSpread", apart := false }
def FnExactIsSpreadSaid : Prop := fnExactIsSpreadRow.holds Try.pinned (OpenSpec.ofChange fnExactIsSpreadSpec)

/-- ITS FALSE NEIGHBOUR: 'it returns false'. Refute it at one input. -/
def fnExactIsSpreadWrong : ChangeSpec := { name := "fnExactIsSpread", fn := fun _ => fun
  | [d1, d2, d3] => { results := [.lit (.bool false)], args := [d1, d2, d3] }
  | _ => none }
def FnExactIsSpreadWrongFalsely : Prop := fnExactIsSpreadRow.holds Try.pinned (OpenSpec.ofChange fnExactIsSpreadWrong)

/-- 'laws.FnExactSignBias': WHATEVER THE INPUT: true; the input reads as it did. -/
def fnExactSignBiasSpec : ChangeSpec := { name := "fnExactSignBias", fn := fun _ => fun
  | [d] => { results := [.lit (.bool true)], args := [d] }
  | _ => none }
def fnExactSignBiasRow : OpenClaim := { program := "ytbgekpfhkjeflaa", sum := "bad8ea0a31661972652886b5ab1d3354c1d6f8a59e094a7732dd915078145611", func := "loop.example/g01141/laws.FnExactSignBias", spec := "fnExactSignBias", apart := false }
def FnExactSignBiasSaid : Prop := fnExactSignBiasRow.holds Try.pinned (OpenSpec.ofChange fnExactSignBiasSpec)

/-- ITS FALSE NEIGHBOUR: 'it returns false'. Refute it at one input. -/
def fnExactSignBiasWrong : ChangeSpec := { name := "fnExactSignBias", fn := fun _ => fun
  | [d] => { results := [.lit (.bool false)], args := [d] }
  | _ => none }
def FnExactSignBiasWrongFalsely : Prop := fnExactSignBiasRow.holds Try.pinned (OpenSpec.ofChange fnExactSignBiasWrong)

/-- 'laws.FnExactSpreadWorth': WHATEVER THE INPUT: true; the input reads as it did. -/
def fnExactSpreadWorthSpec : ChangeSpec := { name := "fnExactSpreadWorth", fn := fun _ => fun
  | [d1, d2, d3] => { results := [.lit (.bool true)], args := [d1, d2, d3] }
  | _ => none }
def fnExactSpreadWorthRow : OpenClaim := { program := "ytbgekpfhkjeflaa", sum := "bad8ea0a31661972652886b5ab1d3354c1d6f8a59e094a7732dd915078145611", func := "loop.example/g01141/laws.FnExactSpreadWorth", spec := "fnExactSpreadWorth", apart := false }
def FnExactSpreadWorthSaid : Prop := fnExactSpreadWorthRow.holds Try.pinned (OpenSpec.ofChange fnExactSpreadWorthSpec)

/-- ITS FALSE NEIGHBOUR: 'it returns false'. Refute it at one input. -/
def fnExactSpreadWorthWrong : ChangeSpec := { name := "fnExactSpreadWorth", fn := fun _ => fun
  | [d1, d2, d3] => { results := [.lit (.bool false)], args := [d1, d2, d3] }
  | _ => none }
def FnExactSpreadWorthWrongFalsely : Prop := fnExactSpreadWorthRow.holds Try.pinned (OpenSpec.ofChange fnExactSpreadWorthWrong)

/-- 'laws.FnExactSwitchSigns': WHATEVER THE INPUT: true; the input reads as it did. -/
def fnExactSwitchSignsSpec : ChangeSpec := { name := "fnExactSwitchSigns", fn := fun _ => fun
  | [d1, d2, d3] => { results := [.lit (.bool true)], args := [d1, d2, d3] }
  | _ => none }
def fnExactSwitchSignsRow : OpenClaim := { program := "ytbgekpfhkjeflaa", sum := "bad8ea0a31661972652886b5ab1d3354c1d6f8a59e094a7732dd915078145611", func := "loop.example/g01141/laws.FnExactSwitchSigns", spec := "fnExactSwitchSigns", apart := false }
def FnExactSwitchSignsSaid : Prop := fnExactSwitchSignsRow.holds Try.pinned (OpenSpec.ofChange fnExactSwitchSignsSpec)

/-- ITS FALSE NEIGHBOUR: 'it returns false'. Refute it at one input. -/
def fnExactSwitchSignsWrong : ChangeSpec := { name := "fnExactSwitchSigns", fn := fun _ => fun
  | [d1, d2, d3] => { results := [.lit (.bool false)], args := [d1, d2, d3] }
  | _ => none }
def FnExactSwitchSignsWrongFalsely : Prop := fnExactSwitchSignsRow.holds Try.pinned (OpenSpec.ofChange fnExactSwitchSignsWrong)

/- THE SECOND FORM. 'bulk': how many values and letters a reading holds, each counted each time it is reached (what is shared counts as often as it is met; a slice's spare places count too). A statement '..UptoSaid' is the law's where the arguments, and the package variables that the reading takes, are together of bulk at most 1048576: NARROWER than '..Said'. Prove '..Said' where nothing that the law and all that it calls make is longer than what came in: it says more and counts as full. Else prove '..UptoSaid'. A law counts once. -/
mutual
def uptoBulk {H : Type} : DataW H → Nat
  | .lit (.string bytes) => bytes.length + 1
  | .lit _ => 1
  | .nil => 1
  | .ptr d => uptoBulk d + 1
  | .slice elems spare => uptoBulkAll elems + uptoBulkAll spare + 1
  | .agg parts => uptoBulkAll parts + 1
  | .iface _ d => uptoBulk d + 1
  | .map entries => uptoBulkEntries entries + 1
  | .held _ => 1
def uptoBulkAll {H : Type} : List (DataW H) → Nat
  | [] => 0
  | d :: r => uptoBulk d + uptoBulkAll r
def uptoBulkEntries {H : Type} : List (Lit × DataW H) → Nat
  | [] => 0
  | x :: r => uptoBulkEntry x + uptoBulkEntries r
def uptoBulkEntry {H : Type} : Lit × DataW H → Nat
  | (.string bytes, d) => bytes.length + uptoBulk d + 1
  | (_, d) => uptoBulk d + 1
 end
def uptoSmall : (H : Type) → List (DataW H) → Bool := fun _ ds => decide (uptoBulkAll ds ≤ 1048576)
def OpenSpec.upto (s : _root_.Go.ChangeSpec) : _root_.Go.OpenSpec := { _root_.Go.OpenSpec.ofChange s with cond := some uptoSmall }

/-- 'laws.FnExactSquareScene', WHERE WHAT IT READS IS OF BULK AT MOST 1048576: true; the input reads as it did. -/
def fnExactSquareSceneUptoRow : OpenClaim := { program := "ytbgekpfhkjeflaa", sum := "bad8ea0a31661972652886b5ab1d3354c1d6f8a59e094a7732dd915078145611", func := "loop.example/g01141/laws.FnExactSquareScene", spec := "fnExactSquareScene", apart := false, narrowed := true }
def FnExactSquareSceneUptoSaid : Prop := fnExactSquareSceneUptoRow.holds Try.pinned (OpenSpec.upto fnExactSquareSceneSpec)

/-- 'laws.FnExactStarScene', WHERE WHAT IT READS IS OF BULK AT MOST 1048576: true; the input reads as it did. -/
def fnExactStarSceneUptoRow : OpenClaim := { program := "ytbgekpfhkjeflaa", sum := "bad8ea0a31661972652886b5ab1d3354c1d6f8a59e094a7732dd915078145611", func := "loop.example/g01141/laws.FnExactStarScene", spec := "fnExactStarScene", apart := false, narrowed := true }
def FnExactStarSceneUptoSaid : Prop := fnExactStarSceneUptoRow.holds Try.pinned (OpenSpec.upto fnExactStarSceneSpec)

/-- 'laws.FnExactIsSignGame', WHERE WHAT IT READS IS OF BULK AT MOST 1048576: true; the input reads as it did. -/
def fnExactIsSignGameUptoRow : OpenClaim := { program := "ytbgekpfhkjeflaa", sum := "bad8ea0a31661972652886b5ab1d3354c1d6f8a59e094a7732dd915078145611", func := "loop.example/g01141/laws.FnExactIsSignGame", spec := "fnExactIsSignGame", apart := false, narrowed := true }
def FnExactIsSignGameUptoSaid : Prop := fnExactIsSignGameUptoRow.holds Try.pinned (OpenSpec.upto fnExactIsSignGameSpec)

/-- 'laws.FnExactEqualSumBox', WHERE WHAT IT READS IS OF BULK AT MOST 1048576: true; the input reads as it did. -/
def fnExactEqualSumBoxUptoRow : OpenClaim := { program := "ytbgekpfhkjeflaa", sum := "bad8ea0a31661972652886b5ab1d3354c1d6f8a59e094a7732dd915078145611", func := "loop.example/g01141/laws.FnExactEqualSumBox", spec := "fnExactEqualSumBox", unfollowed := true, recurses := true, apart := false, narrowed := true }
def FnExactEqualSumBoxUptoSaid : Prop := fnExactEqualSumBoxUptoRow.holds Try.pinned (OpenSpec.upto fnExactEqualSumBoxSpec)

/-- 'laws.FnExactIsScene', WHERE WHAT IT READS IS OF BULK AT MOST 1048576: true; the input reads as it did. -/
def fnExactIsSceneUptoRow : OpenClaim := { program := "ytbgekpfhkjeflaa", sum := "bad8ea0a31661972652886b5ab1d3354c1d6f8a59e094a7732dd915078145611", func := "loop.example/g01141/laws.FnExactIsScene", spec := "fnExactIsScene", apart := false, narrowed := true }
def FnExactIsSceneUptoSaid : Prop := fnExactIsSceneUptoRow.holds Try.pinned (OpenSpec.upto fnExactIsSceneSpec)

/-- 'laws.FnExactSignFunctional', WHERE WHAT IT READS IS OF BULK AT MOST 1048576: true; the input reads as it did. -/
def fnExactSignFunctionalUptoRow : OpenClaim := { program := "ytbgekpfhkjeflaa", sum := "bad8ea0a31661972652886b5ab1d3354c1d6f8a59e094a7732dd915078145611", func := "loop.example/g01141/laws.FnExactSignFunctional", spec := "fnExactSignFunctional", apart := false, narrowed := true }
def FnExactSignFunctionalUptoSaid : Prop := fnExactSignFunctionalUptoRow.holds Try.pinned (OpenSpec.upto fnExactSignFunctionalSpec)

/-- 'laws.FnLids', WHERE WHAT IT READS IS OF BULK AT MOST 1048576: true; the input reads as it did. -/
def fnLidsUptoRow : OpenClaim := { program := "ytbgekpfhkjeflaa", sum := "bad8ea0a31661972652886b5ab1d3354c1d6f8a59e094a7732dd915078145611", func := "loop.example/g01141/laws.FnLids", spec := "fnLids", unfollowed := true, recurses := true, apart := false, narrowed := true }
def FnLidsUptoSaid : Prop := fnLidsUptoRow.holds Try.pinned (OpenSpec.upto fnLidsSpec)

/-- 'laws.FnExactCutOf', WHERE WHAT IT READS IS OF BULK AT MOST 1048576: true; the input reads as it did. -/
def fnExactCutOfUptoRow : OpenClaim := { program := "ytbgekpfhkjeflaa", sum := "bad8ea0a31661972652886b5ab1d3354c1d6f8a59e094a7732dd915078145611", func := "loop.example/g01141/laws.FnExactCutOf", spec := "fnExactCutOf", apart := false, narrowed := true }
def FnExactCutOfUptoSaid : Prop := fnExactCutOfUptoRow.holds Try.pinned (OpenSpec.upto fnExactCutOfSpec)

/-- 'laws.FnExactIsSpread', WHERE WHAT IT READS IS OF BULK AT MOST 1048576: true; the input reads as it did. -/
def fnExactIsSpreadUptoRow : OpenClaim := { program := "ytbgekpfhkjeflaa", sum := "bad8ea0a31661972652886b5ab1d3354c1d6f8a59e094a7732dd915078145611", func := "loop.example/g01141/laws.FnExactIsSpread", spec := "fnExactIsSpread", apart := false, narrowed := true }
def FnExactIsSpreadUptoSaid : Prop := fnExactIsSpreadUptoRow.holds Try.pinned (OpenSpec.upto fnExactIsSpreadSpec)

/-- 'laws.FnExactSignBias', WHERE WHAT IT READS IS OF BULK AT MOST 1048576: true; the input reads as it did. -/
def fnExactSignBiasUptoRow : OpenClaim := { program := "ytbgekpfhkjeflaa", sum := "bad8ea0a31661972652886b5ab1d3354c1d6f8a59e094a7732dd915078145611", func := "loop.example/g01141/laws.FnExactSignBias", spec := "fnExactSignBias", apart := false, narrowed := true }
def FnExactSignBiasUptoSaid : Prop := fnExactSignBiasUptoRow.holds Try.pinned (OpenSpec.upto fnExactSignBiasSpec)

/-- 'laws.FnExactSpreadWorth', WHERE WHAT IT READS IS OF BULK AT MOST 1048576: true; the input reads as it did. -/
def fnExactSpreadWorthUptoRow : OpenClaim := { program := "ytbgekpfhkjeflaa", sum := "bad8ea0a31661972652886b5ab1d3354c1d6f8a59e094a7732dd915078145611", func := "loop.example/g01141/laws.FnExactSpreadWorth", spec := "fnExactSpreadWorth", apart := false, narrowed := true }
def FnExactSpreadWorthUptoSaid : Prop := fnExactSpreadWorthUptoRow.holds Try.pinned (OpenSpec.upto fnExactSpreadWorthSpec)

/-- 'laws.FnExactSwitchSigns', WHERE WHAT IT READS IS OF BULK AT MOST 1048576: true; the input reads as it did. -/
def fnExactSwitchSignsUptoRow : OpenClaim := { program := "ytbgekpfhkjeflaa", sum := "bad8ea0a31661972652886b5ab1d3354c1d6f8a59e094a7732dd915078145611", func := "loop.example/g01141/laws.FnExactSwitchSigns", spec := "fnExactSwitchSigns", apart := false, narrowed := true }
def FnExactSwitchSignsUptoSaid : Prop := fnExactSwitchSignsUptoRow.holds Try.pinned (OpenSpec.upto fnExactSwitchSignsSpec)

end Rows
end Go.Proofs.Ytbgekpfhkjeflaa
