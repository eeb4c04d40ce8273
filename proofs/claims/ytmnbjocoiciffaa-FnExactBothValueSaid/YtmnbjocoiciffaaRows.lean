/-
  No cell of these rows narrows 'for every input' (looked for: loops, veiled, ifaces, maps, wideKeys, modest, calm, conditions, laid).
  DERIVED. THE GIVEN ROWS OF THIS SEAT. 12 by the template 'for every input the law returns true; each argument reads behind the call as it read before'; 0 by the template 'total and deterministic' (their statements: YtmnbjocoiciffaaTotals.lean).
  GIVEN WITH THE SEED: the statements are not yours to turn. If you find one false, say at which input.
  Laid BY PROGRAM, IN A SANDBOX (cutbox-rows.mjs): the forced cells as the released guide's own fill.sh prints them over the translation 8b455336d42d7fd1… (all of the seat's roots in one cut). By AI agents, Wed Nov 11 2026. No macro, syntax, notation, axiom, sorry.
-/
import Derived.Test.YtmnbjocoiciffaaChecked
import GoSem.Claim
import GoSem.ClaimJoined
import GoSem.ClaimMapViews
import Derived.JoinedTies
import Derived.KernelRfl
namespace Go.Proofs.Ytmnbjocoiciffaa
/- THE CELL 'sum', in the pinned program and in every row, IS THE sha256 OF THE DUMP (.gsa) THAT YtmnbjocoiciffaaProg.lean LOADS. Nothing in Lean hashes anything: it is a label: what it is worth is what the hold of that sum in a sandbox is worth. -/
noncomputable def Try.pinned : Pinned := { name := "ytmnbjocoiciffaa", sum := "8b455336d42d7fd1d0cb9809eb8fdb00a273a29c0a874b55f392988c6508d96b", checked := Try.checked }
namespace Rows
def none {H : Type} : Left H := { results := [], args := [] }

/-- 'laws.FnExactPlayScore': WHATEVER THE INPUT: true; the input reads as it did. -/
def fnExactPlayScoreSpec : ChangeSpec := { name := "fnExactPlayScore", fn := fun _ => fun
  | [d1, d2] => { results := [.lit (.bool true)], args := [d1, d2] }
  | _ => none }
def fnExactPlayScoreRow : OpenClaim := { program := "ytmnbjocoiciffaa", sum := "8b455336d42d7fd1d0cb9809eb8fdb00a273a29c0a874b55f392988c6508d96b", func := "loop.example/g01141/laws.FnExactPlayScore", spec := "fnExactPlayScore", apart := false }
def FnExactPlayScoreSaid : Prop := fnExactPlayScoreRow.holds Try.pinned (OpenSpec.ofChange fnExactPlayScoreSpec)

/-- ITS FALSE NEIGHBOUR: 'it returns false'. Refute it at one input. -/
def fnExactPlayScoreWrong : ChangeSpec := { name := "fnExactPlayScore", fn := fun _ => fun
  | [d1, d2] => { results := [.lit (.bool false)], args := [d1, d2] }
  | _ => none }
def FnExactPlayScoreWrongFalsely : Prop := fnExactPlayScoreRow.holds Try.pinned (OpenSpec.ofChange fnExactPlayScoreWrong)

/-- 'laws.FnExactBestSigns': WHATEVER THE INPUT: true; the input reads as it did. -/
def fnExactBestSignsSpec : ChangeSpec := { name := "fnExactBestSigns", fn := fun _ => fun
  | [d] => { results := [.lit (.bool true)], args := [d] }
  | _ => none }
def fnExactBestSignsRow : OpenClaim := { program := "ytmnbjocoiciffaa", sum := "8b455336d42d7fd1d0cb9809eb8fdb00a273a29c0a874b55f392988c6508d96b", func := "loop.example/g01141/laws.FnExactBestSigns", spec := "fnExactBestSigns", apart := false }
def FnExactBestSignsSaid : Prop := fnExactBestSignsRow.holds Try.pinned (OpenSpec.ofChange fnExactBestSignsSpec)

/-- ITS FALSE NEIGHBOUR: 'it returns false'. Refute it at one input. -/
def fnExactBestSignsWrong : ChangeSpec := { name := "fnExactBestSigns", fn := fun _ => fun
  | [d] => { results := [.lit (.bool false)], args := [d] }
  | _ => none }
def FnExactBestSignsWrongFalsely : Prop := fnExactBestSignsRow.holds Try.pinned (OpenSpec.ofChange fnExactBestSignsWrong)

/-- 'laws.FnExactSignWorth': WHATEVER THE INPUT: true; the input reads as it did. -/
def fnExactSignWorthSpec : ChangeSpec := { name := "fnExactSignWorth", fn := fun _ => fun
  | [d1, d2] => { results := [.lit (.bool true)], args := [d1, d2] }
  | _ => none }
def fnExactSignWorthRow : OpenClaim := { program := "ytmnbjocoiciffaa", sum := "8b455336d42d7fd1d0cb9809eb8fdb00a273a29c0a874b55f392988c6508d96b", func := "loop.example/g01141/laws.FnExactSignWorth", spec := "fnExactSignWorth", apart := false }
def FnExactSignWorthSaid : Prop := fnExactSignWorthRow.holds Try.pinned (OpenSpec.ofChange fnExactSignWorthSpec)

/-- ITS FALSE NEIGHBOUR: 'it returns false'. Refute it at one input. -/
def fnExactSignWorthWrong : ChangeSpec := { name := "fnExactSignWorth", fn := fun _ => fun
  | [d1, d2] => { results := [.lit (.bool false)], args := [d1, d2] }
  | _ => none }
def FnExactSignWorthWrongFalsely : Prop := fnExactSignWorthRow.holds Try.pinned (OpenSpec.ofChange fnExactSignWorthWrong)

/-- 'laws.FnExactLostPairs': WHATEVER THE INPUT: true; the input reads as it did. -/
def fnExactLostPairsSpec : ChangeSpec := { name := "fnExactLostPairs", fn := fun _ => fun
  | [d1, d2] => { results := [.lit (.bool true)], args := [d1, d2] }
  | _ => none }
def fnExactLostPairsRow : OpenClaim := { program := "ytmnbjocoiciffaa", sum := "8b455336d42d7fd1d0cb9809eb8fdb00a273a29c0a874b55f392988c6508d96b", func := "loop.example/g01141/laws.FnExactLostPairs", spec := "fnExactLostPairs", apart := false }
def FnExactLostPairsSaid : Prop := fnExactLostPairsRow.holds Try.pinned (OpenSpec.ofChange fnExactLostPairsSpec)

/-- ITS FALSE NEIGHBOUR: 'it returns false'. Refute it at one input. -/
def fnExactLostPairsWrong : ChangeSpec := { name := "fnExactLostPairs", fn := fun _ => fun
  | [d1, d2] => { results := [.lit (.bool false)], args := [d1, d2] }
  | _ => none }
def FnExactLostPairsWrongFalsely : Prop := fnExactLostPairsRow.holds Try.pinned (OpenSpec.ofChange fnExactLostPairsWrong)

/-- 'laws.FnExactBothValue': WHATEVER THE INPUT: true; the input reads as it did. -/
def fnExactBothValueSpec : ChangeSpec := { name := "fnExactBothValue", fn := fun _ => fun
  | [d1, d2] => { results := [.lit (.bool true)], args := [d1, d2] }
  | _ => none }
def fnExactBothValueRow : OpenClaim := { program := "ytmnbjocoiciffaa", sum := "8b455336d42d7fd1d0cb9809eb8fdb00a273a29c0a874b55f392988c6508d96b", func := "loop.example/g01141/laws.FnExactBothValue", spec := "fnExactBothValue", apart := false }
def FnExactBothValueSaid : Prop := fnExactBothValueRow.holds Try.pinned (OpenSpec.ofChange fnExactBothValueSpec)

/-- ITS FALSE NEIGHBOUR: 'it returns false'. Refute it at one input. -/
def fnExactBothValueWrong : ChangeSpec := { name := "fnExactBothValue", fn := fun _ => fun
  | [d1, d2] => { results := [.lit (.bool false)], args := [d1, d2] }
  | _ => none }
def FnExactBothValueWrongFalsely : Prop := fnExactBothValueRow.holds Try.pinned (OpenSpec.ofChange fnExactBothValueWrong)

/-- 'laws.FnExactGameFunctional': WHATEVER THE INPUT: true; the input reads as it did. -/
def fnExactGameFunctionalSpec : ChangeSpec := { name := "fnExactGameFunctional", fn := fun _ => fun
  | [d] => { results := [.lit (.bool true)], args := [d] }
  | _ => none }
def fnExactGameFunctionalRow : OpenClaim := { program := "ytmnbjocoiciffaa", sum := "8b455336d42d7fd1d0cb9809eb8fdb00a273a29c0a874b55f392988c6508d96b", func := "loop.example/g01141/laws.FnExactGameFunctional", spec := "fnExactGameFunctional", apart := false }
def FnExactGameFunctionalSaid : Prop := fnExactGameFunctionalRow.holds Try.pinned (OpenSpec.ofChange fnExactGameFunctionalSpec)

/-- ITS FALSE NEIGHBOUR: 'it returns false'. Refute it at one input. -/
def fnExactGameFunctionalWrong : ChangeSpec := { name := "fnExactGameFunctional", fn := fun _ => fun
  | [d] => { results := [.lit (.bool false)], args := [d] }
  | _ => none }
def FnExactGameFunctionalWrongFalsely : Prop := fnExactGameFunctionalRow.holds Try.pinned (OpenSpec.ofChange fnExactGameFunctionalWrong)

/-- 'laws.FnExactEightSums': WHATEVER THE INPUT: true; the input reads as it did. -/
def fnExactEightSumsSpec : ChangeSpec := { name := "fnExactEightSums", fn := fun _ => fun
  | [d] => { results := [.lit (.bool true)], args := [d] }
  | _ => none }
def fnExactEightSumsRow : OpenClaim := { program := "ytmnbjocoiciffaa", sum := "8b455336d42d7fd1d0cb9809eb8fdb00a273a29c0a874b55f392988c6508d96b", func := "loop.example/g01141/laws.FnExactEightSums", spec := "fnExactEightSums", apart := false }
def FnExactEightSumsSaid : Prop := fnExactEightSumsRow.holds Try.pinned (OpenSpec.ofChange fnExactEightSumsSpec)

/-- ITS FALSE NEIGHBOUR: 'it returns false'. Refute it at one input. -/
def fnExactEightSumsWrong : ChangeSpec := { name := "fnExactEightSums", fn := fun _ => fun
  | [d] => { results := [.lit (.bool false)], args := [d] }
  | _ => none }
def FnExactEightSumsWrongFalsely : Prop := fnExactEightSumsRow.holds Try.pinned (OpenSpec.ofChange fnExactEightSumsWrong)

/-- 'laws.FnExactBestReply': WHATEVER THE INPUT: true; the input reads as it did. -/
def fnExactBestReplySpec : ChangeSpec := { name := "fnExactBestReply", fn := fun _ => fun
  | [d1, d2] => { results := [.lit (.bool true)], args := [d1, d2] }
  | _ => none }
def fnExactBestReplyRow : OpenClaim := { program := "ytmnbjocoiciffaa", sum := "8b455336d42d7fd1d0cb9809eb8fdb00a273a29c0a874b55f392988c6508d96b", func := "loop.example/g01141/laws.FnExactBestReply", spec := "fnExactBestReply", apart := false }
def FnExactBestReplySaid : Prop := fnExactBestReplyRow.holds Try.pinned (OpenSpec.ofChange fnExactBestReplySpec)

/-- ITS FALSE NEIGHBOUR: 'it returns false'. Refute it at one input. -/
def fnExactBestReplyWrong : ChangeSpec := { name := "fnExactBestReply", fn := fun _ => fun
  | [d1, d2] => { results := [.lit (.bool false)], args := [d1, d2] }
  | _ => none }
def FnExactBestReplyWrongFalsely : Prop := fnExactBestReplyRow.holds Try.pinned (OpenSpec.ofChange fnExactBestReplyWrong)

/-- 'laws.FnExactCountBest': WHATEVER THE INPUT: true; the input reads as it did. -/
def fnExactCountBestSpec : ChangeSpec := { name := "fnExactCountBest", fn := fun _ => fun
  | [d] => { results := [.lit (.bool true)], args := [d] }
  | _ => none }
def fnExactCountBestRow : OpenClaim := { program := "ytmnbjocoiciffaa", sum := "8b455336d42d7fd1d0cb9809eb8fdb00a273a29c0a874b55f392988c6508d96b", func := "loop.example/g01141/laws.FnExactCountBest", spec := "fnExactCountBest", apart := false }
def FnExactCountBestSaid : Prop := fnExactCountBestRow.holds Try.pinned (OpenSpec.ofChange fnExactCountBestSpec)

/-- ITS FALSE NEIGHBOUR: 'it returns false'. Refute it at one input. -/
def fnExactCountBestWrong : ChangeSpec := { name := "fnExactCountBest", fn := fun _ => fun
  | [d] => { results := [.lit (.bool false)], args := [d] }
  | _ => none }
def FnExactCountBestWrongFalsely : Prop := fnExactCountBestRow.holds Try.pinned (OpenSpec.ofChange fnExactCountBestWrong)

/-- 'laws.FnExactBestPlay': WHATEVER THE INPUT: true; the input reads as it did. -/
def fnExactBestPlaySpec : ChangeSpec := { name := "fnExactBestPlay", fn := fun _ => fun
  | [d] => { results := [.lit (.bool true)], args := [d] }
  | _ => none }
def fnExactBestPlayRow : OpenClaim := { program := "ytmnbjocoiciffaa", sum := "8b455336d42d7fd1d0cb9809eb8fdb00a273a29c0a874b55f392988c6508d96b", func := "loop.example/g01141/laws.FnExactBestPlay", spec := "fnExactBestPlay", apart := false }
def FnExactBestPlaySaid : Prop := fnExactBestPlayRow.holds Try.pinned (OpenSpec.ofChange fnExactBestPlaySpec)

/-- ITS FALSE NEIGHBOUR: 'it returns false'. Refute it at one input. -/
def fnExactBestPlayWrong : ChangeSpec := { name := "fnExactBestPlay", fn := fun _ => fun
  | [d] => { results := [.lit (.bool false)], args := [d] }
  | _ => none }
def FnExactBestPlayWrongFalsely : Prop := fnExactBestPlayRow.holds Try.pinned (OpenSpec.ofChange fnExactBestPlayWrong)

/-- 'laws.FnExactBoxScore': WHATEVER THE INPUT: true; the input reads as it did. -/
def fnExactBoxScoreSpec : ChangeSpec := { name := "fnExactBoxScore", fn := fun _ => fun
  | [d1, d2] => { results := [.lit (.bool true)], args := [d1, d2] }
  | _ => none }
def fnExactBoxScoreRow : OpenClaim := { program := "ytmnbjocoiciffaa", sum := "8b455336d42d7fd1d0cb9809eb8fdb00a273a29c0a874b55f392988c6508d96b", func := "loop.example/g01141/laws.FnExactBoxScore", spec := "fnExactBoxScore", apart := false }
def FnExactBoxScoreSaid : Prop := fnExactBoxScoreRow.holds Try.pinned (OpenSpec.ofChange fnExactBoxScoreSpec)

/-- ITS FALSE NEIGHBOUR: 'it returns false'. Refute it at one input. -/
def fnExactBoxScoreWrong : ChangeSpec := { name := "fnExactBoxScore", fn := fun _ => fun
  | [d1, d2] => { results := [.lit (.bool false)], args := [d1, d2] }
  | _ => none }
def FnExactBoxScoreWrongFalsely : Prop := fnExactBoxScoreRow.holds Try.pinned (OpenSpec.ofChange fnExactBoxScoreWrong)

/-- 'laws.FnExactPerfectPlay': WHATEVER THE INPUT: true; the input reads as it did. -/
def fnExactPerfectPlaySpec : ChangeSpec := { name := "fnExactPerfectPlay", fn := fun _ => fun
  | [d] => { results := [.lit (.bool true)], args := [d] }
  | _ => none }
def fnExactPerfectPlayRow : OpenClaim := { program := "ytmnbjocoiciffaa", sum := "8b455336d42d7fd1d0cb9809eb8fdb00a273a29c0a874b55f392988c6508d96b", func := "loop.example/g01141/laws.FnExactPerfectPlay", spec := "fnExactPerfectPlay", apart := false }
def FnExactPerfectPlaySaid : Prop := fnExactPerfectPlayRow.holds Try.pinned (OpenSpec.ofChange fnExactPerfectPlaySpec)

/-- ITS FALSE NEIGHBOUR: 'it returns false'. Refute it at one input. -/
def fnExactPerfectPlayWrong : ChangeSpec := { name := "fnExactPerfectPlay", fn := fun _ => fun
  | [d] => { results := [.lit (.bool false)], args := [d] }
  | _ => none }
def FnExactPerfectPlayWrongFalsely : Prop := fnExactPerfectPlayRow.holds Try.pinned (OpenSpec.ofChange fnExactPerfectPlayWrong)

/- THE SECOND FORM. 'bulk': how many values and letters a reading holds, each counted each time it is reached (what is shared counts as often as it is met; a slice's spare places count too). A statement '..UptoSaid' is the law's where the arguments, and the package variables that the reading takes, are together of bulk at most 1048576: NARROWER than '..Said'. Prove '..Said' where nothing that the law and all that it calls make is longer than what came in: it says more and counts as full. Else prove '..UptoSaid'. A law counts once. -/
mutual
def uptoBulk {H : Type} : DataW H → Nat
  | .lit (.string bytes) => bytes.length + 1
  | .lit _ => 1
  | .nil => 1
  | .ptr d => uptoBulk d + 1
  | .slice elems spare => uptoBulkAll elems + uptoBulkAll spare + 1
  | .agg parts => uptoBulkAll parts + 1
  | .iface _ d => uptoBulk d + 1
  | .map entries => uptoBulkEntries entries + 1
  | .held _ => 1
def uptoBulkAll {H : Type} : List (DataW H) → Nat
  | [] => 0
  | d :: r => uptoBulk d + uptoBulkAll r
def uptoBulkEntries {H : Type} : List (Lit × DataW H) → Nat
  | [] => 0
  | x :: r => uptoBulkEntry x + uptoBulkEntries r
def uptoBulkEntry {H : Type} : Lit × DataW H → Nat
  | (.string bytes, d) => bytes.length + uptoBulk d + 1
  | (_, d) => uptoBulk d + 1
 end
def uptoSmall : (H : Type) → List (DataW H) → Bool := fun _ ds => decide (uptoBulkAll ds ≤ 1048576)
def OpenSpec.upto (s : _root_.Go.ChangeSpec) : _root_.Go.OpenSpec := { _root_.Go.OpenSpec.ofChange s with cond := some uptoSmall }

/-- 'laws.FnExactPlayScore', WHERE WHAT IT READS IS OF BULK AT MOST 1048576: true; the input reads as it did. -/
def fnExactPlayScoreUptoRow : OpenClaim := { program := "ytmnbjocoiciffaa", sum := "8b455336d42d7fd1d0cb9809eb8fdb00a273a29c0a874b55f392988c6508d96b", func := "loop.example/g01141/laws.FnExactPlayScore", spec := "fnExactPlayScore", apart := false, narrowed := true }
def FnExactPlayScoreUptoSaid : Prop := fnExactPlayScoreUptoRow.holds Try.pinned (OpenSpec.upto fnExactPlayScoreSpec)

/-- 'laws.FnExactBestSigns', WHERE WHAT IT READS IS OF BULK AT MOST 1048576: true; the input reads as it did. -/
def fnExactBestSignsUptoRow : OpenClaim := { program := "ytmnbjocoiciffaa", sum := "8b455336d42d7fd1d0cb9809eb8fdb00a273a29c0a874b55f392988c6508d96b", func := "loop.example/g01141/laws.FnExactBestSigns", spec := "fnExactBestSigns", apart := false, narrowed := true }
def FnExactBestSignsUptoSaid : Prop := fnExactBestSignsUptoRow.holds Try.pinned (OpenSpec.upto fnExactBestSignsSpec)

/-- 'laws.FnExactSignWorth', WHERE WHAT IT READS IS OF BULK AT MOST 1048576: true; the input reads as it did. -/
def fnExactSignWorthUptoRow : OpenClaim := { program := "ytmnbjocoiciffaa", sum := "8b455336d42d7fd1d0cb9809eb8fdb00a273a29c0a874b55f392988c6508d96b", func := "loop.example/g01141/laws.FnExactSignWorth", spec := "fnExactSignWorth", apart := false, narrowed := true }
def FnExactSignWorthUptoSaid : Prop := fnExactSignWorthUptoRow.holds Try.pinned (OpenSpec.upto fnExactSignWorthSpec)

/-- 'laws.FnExactLostPairs', WHERE WHAT IT READS IS OF BULK AT MOST 1048576: true; the input reads as it did. -/
def fnExactLostPairsUptoRow : OpenClaim := { program := "ytmnbjocoiciffaa", sum := "8b455336d42d7fd1d0cb9809eb8fdb00a273a29c0a874b55f392988c6508d96b", func := "loop.example/g01141/laws.FnExactLostPairs", spec := "fnExactLostPairs", apart := false, narrowed := true }
def FnExactLostPairsUptoSaid : Prop := fnExactLostPairsUptoRow.holds Try.pinned (OpenSpec.upto fnExactLostPairsSpec)

/-- 'laws.FnExactBothValue', WHERE WHAT IT READS IS OF BULK AT MOST 1048576: true; the input reads as it did. -/
def fnExactBothValueUptoRow : OpenClaim := { program := "ytmnbjocoiciffaa", sum := "8b455336d42d7fd1d0cb9809eb8fdb00a273a29c0a874b55f392988c6508d96b", func := "loop.example/g01141/laws.FnExactBothValue", spec := "fnExactBothValue", apart := false, narrowed := true }
def FnExactBothValueUptoSaid : Prop := fnExactBothValueUptoRow.holds Try.pinned (OpenSpec.upto fnExactBothValueSpec)

/-- 'laws.FnExactGameFunctional', WHERE WHAT IT READS IS OF BULK AT MOST 1048576: true; the input reads as it did. -/
def fnExactGameFunctionalUptoRow : OpenClaim := { program := "ytmnbjocoiciffaa", sum := "8b455336d42d7fd1d0cb9809eb8fdb00a273a29c0a874b55f392988c6508d96b", func := "loop.example/g01141/laws.FnExactGameFunctional", spec := "fnExactGameFunctional", apart := false, narrowed := true }
def FnExactGameFunctionalUptoSaid : Prop := fnExactGameFunctionalUptoRow.holds Try.pinned (OpenSpec.upto fnExactGameFunctionalSpec)

/-- 'laws.FnExactEightSums', WHERE WHAT IT READS IS OF BULK AT MOST 1048576: true; the input reads as it did. -/
def fnExactEightSumsUptoRow : OpenClaim := { program := "ytmnbjocoiciffaa", sum := "8b455336d42d7fd1d0cb9809eb8fdb00a273a29c0a874b55f392988c6508d96b", func := "loop.example/g01141/laws.FnExactEightSums", spec := "fnExactEightSums", apart := false, narrowed := true }
def FnExactEightSumsUptoSaid : Prop := fnExactEightSumsUptoRow.holds Try.pinned (OpenSpec.upto fnExactEightSumsSpec)

/-- 'laws.FnExactBestReply', WHERE WHAT IT READS IS OF BULK AT MOST 1048576: true; the input reads as it did. -/
def fnExactBestReplyUptoRow : OpenClaim := { program := "ytmnbjocoiciffaa", sum := "8b455336d42d7fd1d0cb9809eb8fdb00a273a29c0a874b55f392988c6508d96b", func := "loop.example/g01141/laws.FnExactBestReply", spec := "fnExactBestReply", apart := false, narrowed := true }
def FnExactBestReplyUptoSaid : Prop := fnExactBestReplyUptoRow.holds Try.pinned (OpenSpec.upto fnExactBestReplySpec)

/-- 'laws.FnExactCountBest', WHERE WHAT IT READS IS OF BULK AT MOST 1048576: true; the input reads as it did. -/
def fnExactCountBestUptoRow : OpenClaim := { program := "ytmnbjocoiciffaa", sum := "8b455336d42d7fd1d0cb9809eb8fdb00a273a29c0a874b55f392988c6508d96b", func := "loop.example/g01141/laws.FnExactCountBest", spec := "fnExactCountBest", apart := false, narrowed := true }
def FnExactCountBestUptoSaid : Prop := fnExactCountBestUptoRow.holds Try.pinned (OpenSpec.upto fnExactCountBestSpec)

/-- 'laws.FnExactBestPlay', WHERE WHAT IT READS IS OF BULK AT MOST 1048576: true; the input reads as it did. -/
def fnExactBestPlayUptoRow : OpenClaim := { program := "ytmnbjocoiciffaa", sum := "8b455336d42d7fd1d0cb9809eb8fdb00a273a29c0a874b55f392988c6508d96b", func := "loop.example/g01141/laws.FnExactBestPlay", spec := "fnExactBestPlay", apart := false, narrowed := true }
def FnExactBestPlayUptoSaid : Prop := fnExactBestPlayUptoRow.holds Try.pinned (OpenSpec.upto fnExactBestPlaySpec)

/-- 'laws.FnExactBoxScore', WHERE WHAT IT READS IS OF BULK AT MOST 1048576: true; the input reads as it did. -/
def fnExactBoxScoreUptoRow : OpenClaim := { program := "ytmnbjocoiciffaa", sum := "8b455336d42d7fd1d0cb9809eb8fdb00a273a29c0a874b55f392988c6508d96b", func := "loop.example/g01141/laws.FnExactBoxScore", spec := "fnExactBoxScore", apart := false, narrowed := true }
def FnExactBoxScoreUptoSaid : Prop := fnExactBoxScoreUptoRow.holds Try.pinned (OpenSpec.upto fnExactBoxScoreSpec)

/-- 'laws.FnExactPerfectPlay', WHERE WHAT IT READS IS OF BULK AT MOST 1048576: true; the input reads as it did. -/
def fnExactPerfectPlayUptoRow : OpenClaim := { program := "ytmnbjocoiciffaa", sum := "8b455336d42d7fd1d0cb9809eb8fdb00a273a29c0a874b55f392988c6508d96b", func := "loop.example/g01141/laws.FnExactPerfectPlay", spec := "fnExactPerfectPlay", apart := false, narrowed := true }
def FnExactPerfectPlayUptoSaid : Prop := fnExactPerfectPlayUptoRow.holds Try.pinned (OpenSpec.upto fnExactPerfectPlaySpec)

end Rows
end Go.Proofs.Ytmnbjocoiciffaa
