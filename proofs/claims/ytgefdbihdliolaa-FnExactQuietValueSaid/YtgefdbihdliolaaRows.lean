/-
  No cell of these rows narrows 'for every input' (looked for: loops, veiled, ifaces, maps, wideKeys, modest, calm, conditions, laid).
  DERIVED. THE GIVEN ROWS OF THIS SEAT. 12 by the template 'for every input the law returns true; each argument reads behind the call as it read before'; 0 by the template 'total and deterministic' (their statements: YtgefdbihdliolaaTotals.lean).
  GIVEN WITH THE SEED: the statements are not yours to turn. If you find one false, say at which input.
  Laid BY PROGRAM, IN A SANDBOX (cutbox-rows.mjs): the forced cells as the released guide's own fill.sh prints them over the translation 42e84b5d81bdb626… (all of the seat's roots in one cut). By AI agents, Wed Nov 11 2026. No macro, syntax, notation, axiom, sorry.
-/
import Derived.Test.YtgefdbihdliolaaChecked
import GoSem.Claim
import GoSem.ClaimJoined
import GoSem.ClaimMapViews
import Derived.JoinedTies
import Derived.KernelRfl
namespace Go.Proofs.Ytgefdbihdliolaa
/- THE CELL 'sum', in the pinned program and in every row, IS THE sha256 OF THE DUMP (.gsa) THAT YtgefdbihdliolaaProg.lean LOADS. Nothing in Lean hashes anything: it is a label: what it is worth is what the hold of that sum in a sandbox is worth. -/
noncomputable def Try.pinned : Pinned := { name := "ytgefdbihdliolaa", sum := "42e84b5d81bdb62679841bebb3f6b89014b20a36253dff3737d7b587ff412d12", checked := Try.checked }
namespace Rows
def none {H : Type} : Left H := { results := [], args := [] }

/-- 'laws.FnExactIsParityProof': WHATEVER THE INPUT: true; the input reads as it did. -/
def fnExactIsParityProofSpec : ChangeSpec := { name := "fnExactIsParityProof", fn := fun _ => fun
  | [d1, d2] => { results := [.lit (.bool true)], args := [d1, d2] }
  | _ => none }
def fnExactIsParityProofRow : OpenClaim := { program := "ytgefdbihdliolaa", sum := "42e84b5d81bdb62679841bebb3f6b89014b20a36253dff3737d7b587ff412d12", func := "loop.example/g01141/laws.FnExactIsParityProof", spec := "fnExactIsParityProof", apart := false }
def FnExactIsParityProofSaid : Prop := fnExactIsParityProofRow.holds Try.pinned (OpenSpec.ofChange fnExactIsParityProofSpec)

/-- ITS FALSE NEIGHBOUR: 'it returns false'. Refute it at one input. -/
def fnExactIsParityProofWrong : ChangeSpec := { name := "fnExactIsParityProof", fn := fun _ => fun
  | [d1, d2] => { results := [.lit (.bool false)], args := [d1, d2] }
  | _ => none }
def FnExactIsParityProofWrongFalsely : Prop := fnExactIsParityProofRow.holds Try.pinned (OpenSpec.ofChange fnExactIsParityProofWrong)

/-- 'laws.FnExactRankOfScene': WHATEVER THE INPUT: true; the input reads as it did. -/
def fnExactRankOfSceneSpec : ChangeSpec := { name := "fnExactRankOfScene", fn := fun _ => fun
  | [d] => { results := [.lit (.bool true)], args := [d] }
  | _ => none }
def fnExactRankOfSceneRow : OpenClaim := { program := "ytgefdbihdliolaa", sum := "42e84b5d81bdb62679841bebb3f6b89014b20a36253dff3737d7b587ff412d12", func := "loop.example/g01141/laws.FnExactRankOfScene", spec := "fnExactRankOfScene", apart := false }
def FnExactRankOfSceneSaid : Prop := fnExactRankOfSceneRow.holds Try.pinned (OpenSpec.ofChange fnExactRankOfSceneSpec)

/-- ITS FALSE NEIGHBOUR: 'it returns false'. Refute it at one input. -/
def fnExactRankOfSceneWrong : ChangeSpec := { name := "fnExactRankOfScene", fn := fun _ => fun
  | [d] => { results := [.lit (.bool false)], args := [d] }
  | _ => none }
def FnExactRankOfSceneWrongFalsely : Prop := fnExactRankOfSceneRow.holds Try.pinned (OpenSpec.ofChange fnExactRankOfSceneWrong)

/-- 'laws.FnExactOddScene': WHATEVER THE INPUT: true; the input reads as it did. -/
def fnExactOddSceneSpec : ChangeSpec := { name := "fnExactOddScene", fn := fun _ => fun
  | [d] => { results := [.lit (.bool true)], args := [d] }
  | _ => none }
def fnExactOddSceneRow : OpenClaim := { program := "ytgefdbihdliolaa", sum := "42e84b5d81bdb62679841bebb3f6b89014b20a36253dff3737d7b587ff412d12", func := "loop.example/g01141/laws.FnExactOddScene", spec := "fnExactOddScene", apart := false }
def FnExactOddSceneSaid : Prop := fnExactOddSceneRow.holds Try.pinned (OpenSpec.ofChange fnExactOddSceneSpec)

/-- ITS FALSE NEIGHBOUR: 'it returns false'. Refute it at one input. -/
def fnExactOddSceneWrong : ChangeSpec := { name := "fnExactOddScene", fn := fun _ => fun
  | [d] => { results := [.lit (.bool false)], args := [d] }
  | _ => none }
def FnExactOddSceneWrongFalsely : Prop := fnExactOddSceneRow.holds Try.pinned (OpenSpec.ofChange fnExactOddSceneWrong)

/-- 'laws.FnExactExtremeBox': WHATEVER THE INPUT: true; the input reads as it did. -/
def fnExactExtremeBoxSpec : ChangeSpec := { name := "fnExactExtremeBox", fn := fun _ => fun
  | [d] => { results := [.lit (.bool true)], args := [d] }
  | _ => none }
def fnExactExtremeBoxRow : OpenClaim := { program := "ytgefdbihdliolaa", sum := "42e84b5d81bdb62679841bebb3f6b89014b20a36253dff3737d7b587ff412d12", func := "loop.example/g01141/laws.FnExactExtremeBox", spec := "fnExactExtremeBox", unfollowed := true, recurses := true, apart := false }
def FnExactExtremeBoxSaid : Prop := fnExactExtremeBoxRow.holds Try.pinned (OpenSpec.ofChange fnExactExtremeBoxSpec)

/-- ITS FALSE NEIGHBOUR: 'it returns false'. Refute it at one input. -/
def fnExactExtremeBoxWrong : ChangeSpec := { name := "fnExactExtremeBox", fn := fun _ => fun
  | [d] => { results := [.lit (.bool false)], args := [d] }
  | _ => none }
def FnExactExtremeBoxWrongFalsely : Prop := fnExactExtremeBoxRow.holds Try.pinned (OpenSpec.ofChange fnExactExtremeBoxWrong)

/-- 'laws.FnExactNoisySum': WHATEVER THE INPUT: true; the input reads as it did. -/
def fnExactNoisySumSpec : ChangeSpec := { name := "fnExactNoisySum", fn := fun _ => fun
  | [d1, d2, d3] => { results := [.lit (.bool true)], args := [d1, d2, d3] }
  | _ => none }
def fnExactNoisySumRow : OpenClaim := { program := "ytgefdbihdliolaa", sum := "42e84b5d81bdb62679841bebb3f6b89014b20a36253dff3737d7b587ff412d12", func := "loop.example/g01141/laws.FnExactNoisySum", spec := "fnExactNoisySum", unfollowed := true, recurses := true, apart := false }
def FnExactNoisySumSaid : Prop := fnExactNoisySumRow.holds Try.pinned (OpenSpec.ofChange fnExactNoisySumSpec)

/-- ITS FALSE NEIGHBOUR: 'it returns false'. Refute it at one input. -/
def fnExactNoisySumWrong : ChangeSpec := { name := "fnExactNoisySum", fn := fun _ => fun
  | [d1, d2, d3] => { results := [.lit (.bool false)], args := [d1, d2, d3] }
  | _ => none }
def FnExactNoisySumWrongFalsely : Prop := fnExactNoisySumRow.holds Try.pinned (OpenSpec.ofChange fnExactNoisySumWrong)

/-- 'laws.FnExactEvenOut': WHATEVER THE INPUT: true; the input reads as it did. -/
def fnExactEvenOutSpec : ChangeSpec := { name := "fnExactEvenOut", fn := fun _ => fun
  | [d] => { results := [.lit (.bool true)], args := [d] }
  | _ => none }
def fnExactEvenOutRow : OpenClaim := { program := "ytgefdbihdliolaa", sum := "42e84b5d81bdb62679841bebb3f6b89014b20a36253dff3737d7b587ff412d12", func := "loop.example/g01141/laws.FnExactEvenOut", spec := "fnExactEvenOut", unfollowed := true, recurses := true, apart := false }
def FnExactEvenOutSaid : Prop := fnExactEvenOutRow.holds Try.pinned (OpenSpec.ofChange fnExactEvenOutSpec)

/-- ITS FALSE NEIGHBOUR: 'it returns false'. Refute it at one input. -/
def fnExactEvenOutWrong : ChangeSpec := { name := "fnExactEvenOut", fn := fun _ => fun
  | [d] => { results := [.lit (.bool false)], args := [d] }
  | _ => none }
def FnExactEvenOutWrongFalsely : Prop := fnExactEvenOutRow.holds Try.pinned (OpenSpec.ofChange fnExactEvenOutWrong)

/-- 'laws.FnExactWorthRange': WHATEVER THE INPUT: true; the input reads as it did. -/
def fnExactWorthRangeSpec : ChangeSpec := { name := "fnExactWorthRange", fn := fun _ => fun
  | [d] => { results := [.lit (.bool true)], args := [d] }
  | _ => none }
def fnExactWorthRangeRow : OpenClaim := { program := "ytgefdbihdliolaa", sum := "42e84b5d81bdb62679841bebb3f6b89014b20a36253dff3737d7b587ff412d12", func := "loop.example/g01141/laws.FnExactWorthRange", spec := "fnExactWorthRange", unfollowed := true, recurses := true, apart := false }
def FnExactWorthRangeSaid : Prop := fnExactWorthRangeRow.holds Try.pinned (OpenSpec.ofChange fnExactWorthRangeSpec)

/-- ITS FALSE NEIGHBOUR: 'it returns false'. Refute it at one input. -/
def fnExactWorthRangeWrong : ChangeSpec := { name := "fnExactWorthRange", fn := fun _ => fun
  | [d] => { results := [.lit (.bool false)], args := [d] }
  | _ => none }
def FnExactWorthRangeWrongFalsely : Prop := fnExactWorthRangeRow.holds Try.pinned (OpenSpec.ofChange fnExactWorthRangeWrong)

/-- 'laws.FnExactIsExtreme': WHATEVER THE INPUT: true; the input reads as it did. -/
def fnExactIsExtremeSpec : ChangeSpec := { name := "fnExactIsExtreme", fn := fun _ => fun
  | [d] => { results := [.lit (.bool true)], args := [d] }
  | _ => none }
def fnExactIsExtremeRow : OpenClaim := { program := "ytgefdbihdliolaa", sum := "42e84b5d81bdb62679841bebb3f6b89014b20a36253dff3737d7b587ff412d12", func := "loop.example/g01141/laws.FnExactIsExtreme", spec := "fnExactIsExtreme", unfollowed := true, recurses := true, apart := false }
def FnExactIsExtremeSaid : Prop := fnExactIsExtremeRow.holds Try.pinned (OpenSpec.ofChange fnExactIsExtremeSpec)

/-- ITS FALSE NEIGHBOUR: 'it returns false'. Refute it at one input. -/
def fnExactIsExtremeWrong : ChangeSpec := { name := "fnExactIsExtreme", fn := fun _ => fun
  | [d] => { results := [.lit (.bool false)], args := [d] }
  | _ => none }
def FnExactIsExtremeWrongFalsely : Prop := fnExactIsExtremeRow.holds Try.pinned (OpenSpec.ofChange fnExactIsExtremeWrong)

/-- 'laws.FnExactQuietBest': WHATEVER THE INPUT: true; the input reads as it did. -/
def fnExactQuietBestSpec : ChangeSpec := { name := "fnExactQuietBest", fn := fun _ => fun
  | [d] => { results := [.lit (.bool true)], args := [d] }
  | _ => none }
def fnExactQuietBestRow : OpenClaim := { program := "ytgefdbihdliolaa", sum := "42e84b5d81bdb62679841bebb3f6b89014b20a36253dff3737d7b587ff412d12", func := "loop.example/g01141/laws.FnExactQuietBest", spec := "fnExactQuietBest", unfollowed := true, recurses := true, apart := false }
def FnExactQuietBestSaid : Prop := fnExactQuietBestRow.holds Try.pinned (OpenSpec.ofChange fnExactQuietBestSpec)

/-- ITS FALSE NEIGHBOUR: 'it returns false'. Refute it at one input. -/
def fnExactQuietBestWrong : ChangeSpec := { name := "fnExactQuietBest", fn := fun _ => fun
  | [d] => { results := [.lit (.bool false)], args := [d] }
  | _ => none }
def FnExactQuietBestWrongFalsely : Prop := fnExactQuietBestRow.holds Try.pinned (OpenSpec.ofChange fnExactQuietBestWrong)

/-- 'laws.FnExactQuietValue': WHATEVER THE INPUT: true; the input reads as it did. -/
def fnExactQuietValueSpec : ChangeSpec := { name := "fnExactQuietValue", fn := fun _ => fun
  | [d] => { results := [.lit (.bool true)], args := [d] }
  | _ => none }
def fnExactQuietValueRow : OpenClaim := { program := "ytgefdbihdliolaa", sum := "42e84b5d81bdb62679841bebb3f6b89014b20a36253dff3737d7b587ff412d12", func := "loop.example/g01141/laws.FnExactQuietValue", spec := "fnExactQuietValue", unfollowed := true, recurses := true, apart := false }
def FnExactQuietValueSaid : Prop := fnExactQuietValueRow.holds Try.pinned (OpenSpec.ofChange fnExactQuietValueSpec)

/-- ITS FALSE NEIGHBOUR: 'it returns false'. Refute it at one input. -/
def fnExactQuietValueWrong : ChangeSpec := { name := "fnExactQuietValue", fn := fun _ => fun
  | [d] => { results := [.lit (.bool false)], args := [d] }
  | _ => none }
def FnExactQuietValueWrongFalsely : Prop := fnExactQuietValueRow.holds Try.pinned (OpenSpec.ofChange fnExactQuietValueWrong)

/-- 'laws.FnExactIsEvenBox': WHATEVER THE INPUT: true; the input reads as it did. -/
def fnExactIsEvenBoxSpec : ChangeSpec := { name := "fnExactIsEvenBox", fn := fun _ => fun
  | [d] => { results := [.lit (.bool true)], args := [d] }
  | _ => none }
def fnExactIsEvenBoxRow : OpenClaim := { program := "ytgefdbihdliolaa", sum := "42e84b5d81bdb62679841bebb3f6b89014b20a36253dff3737d7b587ff412d12", func := "loop.example/g01141/laws.FnExactIsEvenBox", spec := "fnExactIsEvenBox", apart := false }
def FnExactIsEvenBoxSaid : Prop := fnExactIsEvenBoxRow.holds Try.pinned (OpenSpec.ofChange fnExactIsEvenBoxSpec)

/-- ITS FALSE NEIGHBOUR: 'it returns false'. Refute it at one input. -/
def fnExactIsEvenBoxWrong : ChangeSpec := { name := "fnExactIsEvenBox", fn := fun _ => fun
  | [d] => { results := [.lit (.bool false)], args := [d] }
  | _ => none }
def FnExactIsEvenBoxWrongFalsely : Prop := fnExactIsEvenBoxRow.holds Try.pinned (OpenSpec.ofChange fnExactIsEvenBoxWrong)

/-- 'laws.FnExactPartOf': WHATEVER THE INPUT: true; the input reads as it did. -/
def fnExactPartOfSpec : ChangeSpec := { name := "fnExactPartOf", fn := fun _ => fun
  | [d] => { results := [.lit (.bool true)], args := [d] }
  | _ => none }
def fnExactPartOfRow : OpenClaim := { program := "ytgefdbihdliolaa", sum := "42e84b5d81bdb62679841bebb3f6b89014b20a36253dff3737d7b587ff412d12", func := "loop.example/g01141/laws.FnExactPartOf", spec := "fnExactPartOf", apart := false }
def FnExactPartOfSaid : Prop := fnExactPartOfRow.holds Try.pinned (OpenSpec.ofChange fnExactPartOfSpec)

/-- ITS FALSE NEIGHBOUR: 'it returns false'. Refute it at one input. -/
def fnExactPartOfWrong : ChangeSpec := { name := "fnExactPartOf", fn := fun _ => fun
  | [d] => { results := [.lit (.bool false)], args := [d] }
  | _ => none }
def FnExactPartOfWrongFalsely : Prop := fnExactPartOfRow.holds Try.pinned (OpenSpec.ofChange fnExactPartOfWrong)

/- THE SECOND FORM. 'bulk': how many values and letters a reading holds, each counted each time it is reached (what is shared counts as often as it is met; a slice's spare places count too). A statement '..UptoSaid' is the law's where the arguments, and the package variables that the reading takes, are together of bulk at most 1048576: NARROWER than '..Said'. Prove '..Said' where nothing that the law and all that it calls make is longer than what came in: it says more and counts as full. Else prove '..UptoSaid'. A law counts once. -/
mutual
def uptoBulk {H : Type} : DataW H → Nat
  | .lit (.string bytes) => bytes.length + 1
  | .lit _ => 1
  | .nil => 1
  | .ptr d => uptoBulk d + 1
  | .slice elems spare => uptoBulkAll elems + uptoBulkAll spare + 1
  | .agg parts => uptoBulkAll parts + 1
  | .iface _ d => uptoBulk d + 1
  | .map entries => uptoBulkEntries entries + 1
  | .held _ => 1
def uptoBulkAll {H : Type} : List (DataW H) → Nat
  | [] => 0
  | d :: r => uptoBulk d + uptoBulkAll r
def uptoBulkEntries {H : Type} : List (Lit × DataW H) → Nat
  | [] => 0
  | x :: r => uptoBulkEntry x + uptoBulkEntries r
def uptoBulkEntry {H : Type} : Lit × DataW H → Nat
  | (.string bytes, d) => bytes.length + uptoBulk d + 1
  | (_, d) => uptoBulk d + 1
 end
def uptoSmall : (H : Type) → List (DataW H) → Bool := fun _ ds => decide (uptoBulkAll ds ≤ 1048576)
def OpenSpec.upto (s : _root_.Go.ChangeSpec) : _root_.Go.OpenSpec := { _root_.Go.OpenSpec.ofChange s with cond := some uptoSmall }

/-- 'laws.FnExactIsParityProof', WHERE WHAT IT READS IS OF BULK AT MOST 1048576: true; the input reads as it did. -/
def fnExactIsParityProofUptoRow : OpenClaim := { program := "ytgefdbihdliolaa", sum := "42e84b5d81bdb62679841bebb3f6b89014b20a36253dff3737d7b587ff412d12", func := "loop.example/g01141/laws.FnExactIsParityProof", spec := "fnExactIsParityProof", apart := false, narrowed := true }
def FnExactIsParityProofUptoSaid : Prop := fnExactIsParityProofUptoRow.holds Try.pinned (OpenSpec.upto fnExactIsParityProofSpec)

/-- 'laws.FnExactRankOfScene', WHERE WHAT IT READS IS OF BULK AT MOST 1048576: true; the input reads as it did. -/
def fnExactRankOfSceneUptoRow : OpenClaim := { program := "ytgefdbihdliolaa", sum := "42e84b5d81bdb62679841bebb3f6b89014b20a36253dff3737d7b587ff412d12", func := "loop.example/g01141/laws.FnExactRankOfScene", spec := "fnExactRankOfScene", apart := false, narrowed := true }
def FnExactRankOfSceneUptoSaid : Prop := fnExactRankOfSceneUptoRow.holds Try.pinned (OpenSpec.upto fnExactRankOfSceneSpec)

/-- 'laws.FnExactOddScene', WHERE WHAT IT READS IS OF BULK AT MOST 1048576: true; the input reads as it did. -/
def fnExactOddSceneUptoRow : OpenClaim := { program := "ytgefdbihdliolaa", sum := "42e84b5d81bdb62679841bebb3f6b89014b20a36253dff3737d7b587ff412d12", func := "loop.example/g01141/laws.FnExactOddScene", spec := "fnExactOddScene", apart := false, narrowed := true }
def FnExactOddSceneUptoSaid : Prop := fnExactOddSceneUptoRow.holds Try.pinned (OpenSpec.upto fnExactOddSceneSpec)

/-- 'laws.FnExactExtremeBox', WHERE WHAT IT READS IS OF BULK AT MOST 1048576: true; the input reads as it did. -/
def fnExactExtremeBoxUptoRow : OpenClaim := { program := "ytgefdbihdliolaa", sum := "42e84b5d81bdb62679841bebb3f6b89014b20a36253dff3737d7b587ff412d12", func := "loop.example/g01141/laws.FnExactExtremeBox", spec := "fnExactExtremeBox", unfollowed := true, recurses := true, apart := false, narrowed := true }
def FnExactExtremeBoxUptoSaid : Prop := fnExactExtremeBoxUptoRow.holds Try.pinned (OpenSpec.upto fnExactExtremeBoxSpec)

/-- 'laws.FnExactNoisySum', WHERE WHAT IT READS IS OF BULK AT MOST 1048576: true; the input reads as it did. -/
def fnExactNoisySumUptoRow : OpenClaim := { program := "ytgefdbihdliolaa", sum := "42e84b5d81bdb62679841bebb3f6b89014b20a36253dff3737d7b587ff412d12", func := "loop.example/g01141/laws.FnExactNoisySum", spec := "fnExactNoisySum", unfollowed := true, recurses := true, apart := false, narrowed := true }
def FnExactNoisySumUptoSaid : Prop := fnExactNoisySumUptoRow.holds Try.pinned (OpenSpec.upto fnExactNoisySumSpec)

/-- 'laws.FnExactEvenOut', WHERE WHAT IT READS IS OF BULK AT MOST 1048576: true; the input reads as it did. -/
def fnExactEvenOutUptoRow : OpenClaim := { program := "ytgefdbihdliolaa", sum := "42e84b5d81bdb62679841bebb3f6b89014b20a36253dff3737d7b587ff412d12", func := "loop.example/g01141/laws.FnExactEvenOut", spec := "fnExactEvenOut", unfollowed := true, recurses := true, apart := false, narrowed := true }
def FnExactEvenOutUptoSaid : Prop := fnExactEvenOutUptoRow.holds Try.pinned (OpenSpec.upto fnExactEvenOutSpec)

/-- 'laws.FnExactWorthRange', WHERE WHAT IT READS IS OF BULK AT MOST 1048576: true; the input reads as it did. -/
def fnExactWorthRangeUptoRow : OpenClaim := { program := "ytgefdbihdliolaa", sum := "42e84b5d81bdb62679841bebb3f6b89014b20a36253dff3737d7b587ff412d12", func := "loop.example/g01141/laws.FnExactWorthRange", spec := "fnExactWorthRange", unfollowed := true, recurses := true, apart := false, narrowed := true }
def FnExactWorthRangeUptoSaid : Prop := fnExactWorthRangeUptoRow.holds Try.pinned (OpenSpec.upto fnExactWorthRangeSpec)

/-- 'laws.FnExactIsExtreme', WHERE WHAT IT READS IS OF BULK AT MOST 1048576: true; the input reads as it did. -/
def fnExactIsExtremeUptoRow : OpenClaim := { program := "ytgefdbihdliolaa", sum := "42e84b5d81bdb62679841bebb3f6b89014b20a36253dff3737d7b587ff412d12", func := "loop.example/g01141/laws.FnExactIsExtreme", spec := "fnExactIsExtreme", unfollowed := true, recurses := true, apart := false, narrowed := true }
def FnExactIsExtremeUptoSaid : Prop := fnExactIsExtremeUptoRow.holds Try.pinned (OpenSpec.upto fnExactIsExtremeSpec)

/-- 'laws.FnExactQuietBest', WHERE WHAT IT READS IS OF BULK AT MOST 1048576: true; the input reads as it did. -/
def fnExactQuietBestUptoRow : OpenClaim := { program := "ytgefdbihdliolaa", sum := "42e84b5d81bdb62679841bebb3f6b89014b20a36253dff3737d7b587ff412d12", func := "loop.example/g01141/laws.FnExactQuietBest", spec := "fnExactQuietBest", unfollowed := true, recurses := true, apart := false, narrowed := true }
def FnExactQuietBestUptoSaid : Prop := fnExactQuietBestUptoRow.holds Try.pinned (OpenSpec.upto fnExactQuietBestSpec)

/-- 'laws.FnExactQuietValue', WHERE WHAT IT READS IS OF BULK AT MOST 1048576: true; the input reads as it did. -/
def fnExactQuietValueUptoRow : OpenClaim := { program := "ytgefdbihdliolaa", sum := "42e84b5d81bdb62679841bebb3f6b89014b20a36253dff3737d7b587ff412d12", func := "loop.example/g01141/laws.FnExactQuietValue", spec := "fnExactQuietValue", unfollowed := true, recurses := true, apart := false, narrowed := true }
def FnExactQuietValueUptoSaid : Prop := fnExactQuietValueUptoRow.holds Try.pinned (OpenSpec.upto fnExactQuietValueSpec)

/-- 'laws.FnExactIsEvenBox', WHERE WHAT IT READS IS OF BULK AT MOST 1048576: true; the input reads as it did. -/
def fnExactIsEvenBoxUptoRow : OpenClaim := { program := "ytgefdbihdliolaa", sum := "42e84b5d81bdb62679841bebb3f6b89014b20a36253dff3737d7b587ff412d12", func := "loop.example/g01141/laws.FnExactIsEvenBox", spec := "fnExactIsEvenBox", apart := false, narrowed := true }
def FnExactIsEvenBoxUptoSaid : Prop := fnExactIsEvenBoxUptoRow.holds Try.pinned (OpenSpec.upto fnExactIsEvenBoxSpec)

/-- 'laws.FnExactPartOf', WHERE WHAT IT READS IS OF BULK AT MOST 1048576: true; the input reads as it did. -/
def fnExactPartOfUptoRow : OpenClaim := { program := "ytgefdbihdliolaa", sum := "42e84b5d81bdb62679841bebb3f6b89014b20a36253dff3737d7b587ff412d12", func := "loop.example/g01141/laws.FnExactPartOf", spec := "fnExactPartOf", apart := false, narrowed := true }
def FnExactPartOfUptoSaid : Prop := fnExactPartOfUptoRow.holds Try.pinned (OpenSpec.upto fnExactPartOfSpec)

end Rows
end Go.Proofs.Ytgefdbihdliolaa
