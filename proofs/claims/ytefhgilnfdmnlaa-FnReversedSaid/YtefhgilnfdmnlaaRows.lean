/-
  No cell of these rows narrows 'for every input' (looked for: loops, veiled, ifaces, maps, wideKeys, modest, calm, conditions, laid).
  DERIVED. THE GIVEN ROWS OF THIS SEAT. 11 by the template 'for every input the law returns true; each argument reads behind the call as it read before'; 0 by the template 'total and deterministic' (their statements: YtefhgilnfdmnlaaTotals.lean).
  GIVEN WITH THE SEED: the statements are not yours to turn. If you find one false, say at which input.
  Laid BY PROGRAM, IN A SANDBOX (cutbox-rows.mjs): the forced cells as the released guide's own fill.sh prints them over the translation 0306f74cbf64c60b… (all of the seat's roots in one cut). By AI agents, Wed Nov 11 2026. No macro, syntax, notation, axiom, sorry.
-/
import Derived.Test.YtefhgilnfdmnlaaChecked
import GoSem.Claim
import GoSem.ClaimJoined
import GoSem.ClaimMapViews
import Derived.JoinedTies
import Derived.KernelRfl
namespace Go.Proofs.Ytefhgilnfdmnlaa
/- THE CELL 'sum', in the pinned program and in every row, IS THE sha256 OF THE DUMP (.gsa) THAT YtefhgilnfdmnlaaProg.lean LOADS. Nothing in Lean hashes anything: it is a label: what it is worth is what the hold of that sum in a sandbox is worth. -/
noncomputable def Try.pinned : Pinned := { name := "ytefhgilnfdmnlaa", sum := "0306f74cbf64c60b4c5b245a76285c0c3d2fc423fe62665ffa611f6afe17a6a2", checked := Try.checked }
namespace Rows
def none {H : Type} : Left H := { results := [], args := [] }

/-- 'laws.FnExactAreEntries': WHATEVER THE INPUT: true; the input reads as it did. -/
def fnExactAreEntriesSpec : ChangeSpec := { name := "fnExactAreEntries", fn := fun _ => fun
  | [d] => { results := [.lit (.bool true)], args := [d] }
  | _ => none }
def fnExactAreEntriesRow : OpenClaim := { program := "ytefhgilnfdmnlaa", sum := "0306f74cbf64c60b4c5b245a76285c0c3d2fc423fe62665ffa611f6afe17a6a2", func := "loop.example/g03407/laws.FnExactAreEntries", spec := "fnExactAreEntries", apart := false }
def FnExactAreEntriesSaid : Prop := fnExactAreEntriesRow.holds Try.pinned (OpenSpec.ofChange fnExactAreEntriesSpec)

/-- ITS FALSE NEIGHBOUR: 'it returns false'. Refute it at one input. -/
def fnExactAreEntriesWrong : ChangeSpec := { name := "fnExactAreEntries", fn := fun _ => fun
  | [d] => { results := [.lit (.bool false)], args := [d] }
  | _ => none }
def FnExactAreEntriesWrongFalsely : Prop := fnExactAreEntriesRow.holds Try.pinned (OpenSpec.ofChange fnExactAreEntriesWrong)

/-- 'laws.FnExactNegateEntries': WHATEVER THE INPUT: true; the input reads as it did. -/
def fnExactNegateEntriesSpec : ChangeSpec := { name := "fnExactNegateEntries", fn := fun _ => fun
  | [d] => { results := [.lit (.bool true)], args := [d] }
  | _ => none }
def fnExactNegateEntriesRow : OpenClaim := { program := "ytefhgilnfdmnlaa", sum := "0306f74cbf64c60b4c5b245a76285c0c3d2fc423fe62665ffa611f6afe17a6a2", func := "loop.example/g03407/laws.FnExactNegateEntries", spec := "fnExactNegateEntries", apart := false }
def FnExactNegateEntriesSaid : Prop := fnExactNegateEntriesRow.holds Try.pinned (OpenSpec.ofChange fnExactNegateEntriesSpec)

/-- ITS FALSE NEIGHBOUR: 'it returns false'. Refute it at one input. -/
def fnExactNegateEntriesWrong : ChangeSpec := { name := "fnExactNegateEntries", fn := fun _ => fun
  | [d] => { results := [.lit (.bool false)], args := [d] }
  | _ => none }
def FnExactNegateEntriesWrongFalsely : Prop := fnExactNegateEntriesRow.holds Try.pinned (OpenSpec.ofChange fnExactNegateEntriesWrong)

/-- 'laws.FnExactAreDocuments': WHATEVER THE INPUT: true; the input reads as it did. -/
def fnExactAreDocumentsSpec : ChangeSpec := { name := "fnExactAreDocuments", fn := fun _ => fun
  | [d] => { results := [.lit (.bool true)], args := [d] }
  | _ => none }
def fnExactAreDocumentsRow : OpenClaim := { program := "ytefhgilnfdmnlaa", sum := "0306f74cbf64c60b4c5b245a76285c0c3d2fc423fe62665ffa611f6afe17a6a2", func := "loop.example/g03407/laws.FnExactAreDocuments", spec := "fnExactAreDocuments", apart := false }
def FnExactAreDocumentsSaid : Prop := fnExactAreDocumentsRow.holds Try.pinned (OpenSpec.ofChange fnExactAreDocumentsSpec)

/-- ITS FALSE NEIGHBOUR: 'it returns false'. Refute it at one input. -/
def fnExactAreDocumentsWrong : ChangeSpec := { name := "fnExactAreDocuments", fn := fun _ => fun
  | [d] => { results := [.lit (.bool false)], args := [d] }
  | _ => none }
def FnExactAreDocumentsWrongFalsely : Prop := fnExactAreDocumentsRow.holds Try.pinned (OpenSpec.ofChange fnExactAreDocumentsWrong)

/-- 'laws.FnExactBalanceOf': WHATEVER THE INPUT: true; the input reads as it did. -/
def fnExactBalanceOfSpec : ChangeSpec := { name := "fnExactBalanceOf", fn := fun _ => fun
  | [d1, d2, d3] => { results := [.lit (.bool true)], args := [d1, d2, d3] }
  | _ => none }
def fnExactBalanceOfRow : OpenClaim := { program := "ytefhgilnfdmnlaa", sum := "0306f74cbf64c60b4c5b245a76285c0c3d2fc423fe62665ffa611f6afe17a6a2", func := "loop.example/g03407/laws.FnExactBalanceOf", spec := "fnExactBalanceOf", apart := false }
def FnExactBalanceOfSaid : Prop := fnExactBalanceOfRow.holds Try.pinned (OpenSpec.ofChange fnExactBalanceOfSpec)

/-- ITS FALSE NEIGHBOUR: 'it returns false'. Refute it at one input. -/
def fnExactBalanceOfWrong : ChangeSpec := { name := "fnExactBalanceOf", fn := fun _ => fun
  | [d1, d2, d3] => { results := [.lit (.bool false)], args := [d1, d2, d3] }
  | _ => none }
def FnExactBalanceOfWrongFalsely : Prop := fnExactBalanceOfRow.holds Try.pinned (OpenSpec.ofChange fnExactBalanceOfWrong)

/-- 'laws.FnPosted': WHATEVER THE INPUT: true; the input reads as it did. -/
def fnPostedSpec : ChangeSpec := { name := "fnPosted", fn := fun _ => fun
  | [d] => { results := [.lit (.bool true)], args := [d] }
  | _ => none }
def fnPostedRow : OpenClaim := { program := "ytefhgilnfdmnlaa", sum := "0306f74cbf64c60b4c5b245a76285c0c3d2fc423fe62665ffa611f6afe17a6a2", func := "loop.example/g03407/laws.FnPosted", spec := "fnPosted", apart := false }
def FnPostedSaid : Prop := fnPostedRow.holds Try.pinned (OpenSpec.ofChange fnPostedSpec)

/-- ITS FALSE NEIGHBOUR: 'it returns false'. Refute it at one input. -/
def fnPostedWrong : ChangeSpec := { name := "fnPosted", fn := fun _ => fun
  | [d] => { results := [.lit (.bool false)], args := [d] }
  | _ => none }
def FnPostedWrongFalsely : Prop := fnPostedRow.holds Try.pinned (OpenSpec.ofChange fnPostedWrong)

/-- 'laws.FnExactPostEntries': WHATEVER THE INPUT: true; the input reads as it did. -/
def fnExactPostEntriesSpec : ChangeSpec := { name := "fnExactPostEntries", fn := fun _ => fun
  | [d1, d2, d3] => { results := [.lit (.bool true)], args := [d1, d2, d3] }
  | _ => none }
def fnExactPostEntriesRow : OpenClaim := { program := "ytefhgilnfdmnlaa", sum := "0306f74cbf64c60b4c5b245a76285c0c3d2fc423fe62665ffa611f6afe17a6a2", func := "loop.example/g03407/laws.FnExactPostEntries", spec := "fnExactPostEntries", apart := false }
def FnExactPostEntriesSaid : Prop := fnExactPostEntriesRow.holds Try.pinned (OpenSpec.ofChange fnExactPostEntriesSpec)

/-- ITS FALSE NEIGHBOUR: 'it returns false'. Refute it at one input. -/
def fnExactPostEntriesWrong : ChangeSpec := { name := "fnExactPostEntries", fn := fun _ => fun
  | [d1, d2, d3] => { results := [.lit (.bool false)], args := [d1, d2, d3] }
  | _ => none }
def FnExactPostEntriesWrongFalsely : Prop := fnExactPostEntriesRow.holds Try.pinned (OpenSpec.ofChange fnExactPostEntriesWrong)

/-- 'laws.FnExactReverseNumber': WHATEVER THE INPUT: true; the input reads as it did. -/
def fnExactReverseNumberSpec : ChangeSpec := { name := "fnExactReverseNumber", fn := fun _ => fun
  | [d1, d2, d3] => { results := [.lit (.bool true)], args := [d1, d2, d3] }
  | _ => none }
def fnExactReverseNumberRow : OpenClaim := { program := "ytefhgilnfdmnlaa", sum := "0306f74cbf64c60b4c5b245a76285c0c3d2fc423fe62665ffa611f6afe17a6a2", func := "loop.example/g03407/laws.FnExactReverseNumber", spec := "fnExactReverseNumber", apart := false }
def FnExactReverseNumberSaid : Prop := fnExactReverseNumberRow.holds Try.pinned (OpenSpec.ofChange fnExactReverseNumberSpec)

/-- ITS FALSE NEIGHBOUR: 'it returns false'. Refute it at one input. -/
def fnExactReverseNumberWrong : ChangeSpec := { name := "fnExactReverseNumber", fn := fun _ => fun
  | [d1, d2, d3] => { results := [.lit (.bool false)], args := [d1, d2, d3] }
  | _ => none }
def FnExactReverseNumberWrongFalsely : Prop := fnExactReverseNumberRow.holds Try.pinned (OpenSpec.ofChange fnExactReverseNumberWrong)

/-- 'laws.FnExactAddEntries': WHATEVER THE INPUT: true; the input reads as it did. -/
def fnExactAddEntriesSpec : ChangeSpec := { name := "fnExactAddEntries", fn := fun _ => fun
  | [d1, d2] => { results := [.lit (.bool true)], args := [d1, d2] }
  | _ => none }
def fnExactAddEntriesRow : OpenClaim := { program := "ytefhgilnfdmnlaa", sum := "0306f74cbf64c60b4c5b245a76285c0c3d2fc423fe62665ffa611f6afe17a6a2", func := "loop.example/g03407/laws.FnExactAddEntries", spec := "fnExactAddEntries", recurses := true, apart := false }
def FnExactAddEntriesSaid : Prop := fnExactAddEntriesRow.holds Try.pinned (OpenSpec.ofChange fnExactAddEntriesSpec)

/-- ITS FALSE NEIGHBOUR: 'it returns false'. Refute it at one input. -/
def fnExactAddEntriesWrong : ChangeSpec := { name := "fnExactAddEntries", fn := fun _ => fun
  | [d1, d2] => { results := [.lit (.bool false)], args := [d1, d2] }
  | _ => none }
def FnExactAddEntriesWrongFalsely : Prop := fnExactAddEntriesRow.holds Try.pinned (OpenSpec.ofChange fnExactAddEntriesWrong)

/-- 'laws.FnTrials': WHATEVER THE INPUT: true; the input reads as it did. -/
def fnTrialsSpec : ChangeSpec := { name := "fnTrials", fn := fun _ => fun
  | [d] => { results := [.lit (.bool true)], args := [d] }
  | _ => none }
def fnTrialsRow : OpenClaim := { program := "ytefhgilnfdmnlaa", sum := "0306f74cbf64c60b4c5b245a76285c0c3d2fc423fe62665ffa611f6afe17a6a2", func := "loop.example/g03407/laws.FnTrials", spec := "fnTrials", recurses := true, apart := false }
def FnTrialsSaid : Prop := fnTrialsRow.holds Try.pinned (OpenSpec.ofChange fnTrialsSpec)

/-- ITS FALSE NEIGHBOUR: 'it returns false'. Refute it at one input. -/
def fnTrialsWrong : ChangeSpec := { name := "fnTrials", fn := fun _ => fun
  | [d] => { results := [.lit (.bool false)], args := [d] }
  | _ => none }
def FnTrialsWrongFalsely : Prop := fnTrialsRow.holds Try.pinned (OpenSpec.ofChange fnTrialsWrong)

/-- 'laws.FnExactTrialBalance': WHATEVER THE INPUT: true; the input reads as it did. -/
def fnExactTrialBalanceSpec : ChangeSpec := { name := "fnExactTrialBalance", fn := fun _ => fun
  | [d1, d2] => { results := [.lit (.bool true)], args := [d1, d2] }
  | _ => none }
def fnExactTrialBalanceRow : OpenClaim := { program := "ytefhgilnfdmnlaa", sum := "0306f74cbf64c60b4c5b245a76285c0c3d2fc423fe62665ffa611f6afe17a6a2", func := "loop.example/g03407/laws.FnExactTrialBalance", spec := "fnExactTrialBalance", recurses := true, apart := false }
def FnExactTrialBalanceSaid : Prop := fnExactTrialBalanceRow.holds Try.pinned (OpenSpec.ofChange fnExactTrialBalanceSpec)

/-- ITS FALSE NEIGHBOUR: 'it returns false'. Refute it at one input. -/
def fnExactTrialBalanceWrong : ChangeSpec := { name := "fnExactTrialBalance", fn := fun _ => fun
  | [d1, d2] => { results := [.lit (.bool false)], args := [d1, d2] }
  | _ => none }
def FnExactTrialBalanceWrongFalsely : Prop := fnExactTrialBalanceRow.holds Try.pinned (OpenSpec.ofChange fnExactTrialBalanceWrong)

/-- 'laws.FnReversed': WHATEVER THE INPUT: true; the input reads as it did. -/
def fnReversedSpec : ChangeSpec := { name := "fnReversed", fn := fun _ => fun
  | [d] => { results := [.lit (.bool true)], args := [d] }
  | _ => none }
def fnReversedRow : OpenClaim := { program := "ytefhgilnfdmnlaa", sum := "0306f74cbf64c60b4c5b245a76285c0c3d2fc423fe62665ffa611f6afe17a6a2", func := "loop.example/g03407/laws.FnReversed", spec := "fnReversed", recurses := true, apart := false }
def FnReversedSaid : Prop := fnReversedRow.holds Try.pinned (OpenSpec.ofChange fnReversedSpec)

/-- ITS FALSE NEIGHBOUR: 'it returns false'. Refute it at one input. -/
def fnReversedWrong : ChangeSpec := { name := "fnReversed", fn := fun _ => fun
  | [d] => { results := [.lit (.bool false)], args := [d] }
  | _ => none }
def FnReversedWrongFalsely : Prop := fnReversedRow.holds Try.pinned (OpenSpec.ofChange fnReversedWrong)

/- THE SECOND FORM. 'bulk': how many values and letters a reading holds, each counted each time it is reached (what is shared counts as often as it is met; a slice's spare places count too). A statement '..UptoSaid' is the law's where the arguments, and the package variables that the reading takes, are together of bulk at most 1048576: NARROWER than '..Said'. Prove '..Said' where nothing that the law and all that it calls make is longer than what came in: it says more and counts as full. Else prove '..UptoSaid'. A law counts once. -/
mutual
def uptoBulk {H : Type} : DataW H → Nat
  | .lit (.string bytes) => bytes.length + 1
  | .lit _ => 1
  | .nil => 1
  | .ptr d => uptoBulk d + 1
  | .slice elems spare => uptoBulkAll elems + uptoBulkAll spare + 1
  | .agg parts => uptoBulkAll parts + 1
  | .iface _ d => uptoBulk d + 1
  | .map entries => uptoBulkEntries entries + 1
  | .held _ => 1
def uptoBulkAll {H : Type} : List (DataW H) → Nat
  | [] => 0
  | d :: r => uptoBulk d + uptoBulkAll r
def uptoBulkEntries {H : Type} : List (Lit × DataW H) → Nat
  | [] => 0
  | x :: r => uptoBulkEntry x + uptoBulkEntries r
def uptoBulkEntry {H : Type} : Lit × DataW H → Nat
  | (.string bytes, d) => bytes.length + uptoBulk d + 1
  | (_, d) => uptoBulk d + 1
 end
def uptoSmall : (H : Type) → List (DataW H) → Bool := fun _ ds => decide (uptoBulkAll ds ≤ 1048576)
def OpenSpec.upto (s : _root_.Go.ChangeSpec) : _root_.Go.OpenSpec := { _root_.Go.OpenSpec.ofChange s with cond := some uptoSmall }

/-- 'laws.FnExactAreEntries', WHERE WHAT IT READS IS OF BULK AT MOST 1048576: true; the input reads as it did. -/
def fnExactAreEntriesUptoRow : OpenClaim := { program := "ytefhgilnfdmnlaa", sum := "0306f74cbf64c60b4c5b245a76285c0c3d2fc423fe62665ffa611f6afe17a6a2", func := "loop.example/g03407/laws.FnExactAreEntries", spec := "fnExactAreEntries", apart := false, narrowed := true }
def FnExactAreEntriesUptoSaid : Prop := fnExactAreEntriesUptoRow.holds Try.pinned (OpenSpec.upto fnExactAreEntriesSpec)

/-- 'laws.FnExactNegateEntries', WHERE WHAT IT READS IS OF BULK AT MOST 1048576: true; the input reads as it did. -/
def fnExactNegateEntriesUptoRow : OpenClaim := { program := "ytefhgilnfdmnlaa", sum := "0306f74cbf64c60b4c5b245a76285c0c3d2fc423fe62665ffa611f6afe17a6a2", func := "loop.example/g03407/laws.FnExactNegateEntries", spec := "fnExactNegateEntries", apart := false, narrowed := true }
def FnExactNegateEntriesUptoSaid : Prop := fnExactNegateEntriesUptoRow.holds Try.pinned (OpenSpec.upto fnExactNegateEntriesSpec)

/-- 'laws.FnExactAreDocuments', WHERE WHAT IT READS IS OF BULK AT MOST 1048576: true; the input reads as it did. -/
def fnExactAreDocumentsUptoRow : OpenClaim := { program := "ytefhgilnfdmnlaa", sum := "0306f74cbf64c60b4c5b245a76285c0c3d2fc423fe62665ffa611f6afe17a6a2", func := "loop.example/g03407/laws.FnExactAreDocuments", spec := "fnExactAreDocuments", apart := false, narrowed := true }
def FnExactAreDocumentsUptoSaid : Prop := fnExactAreDocumentsUptoRow.holds Try.pinned (OpenSpec.upto fnExactAreDocumentsSpec)

/-- 'laws.FnExactBalanceOf', WHERE WHAT IT READS IS OF BULK AT MOST 1048576: true; the input reads as it did. -/
def fnExactBalanceOfUptoRow : OpenClaim := { program := "ytefhgilnfdmnlaa", sum := "0306f74cbf64c60b4c5b245a76285c0c3d2fc423fe62665ffa611f6afe17a6a2", func := "loop.example/g03407/laws.FnExactBalanceOf", spec := "fnExactBalanceOf", apart := false, narrowed := true }
def FnExactBalanceOfUptoSaid : Prop := fnExactBalanceOfUptoRow.holds Try.pinned (OpenSpec.upto fnExactBalanceOfSpec)

/-- 'laws.FnPosted', WHERE WHAT IT READS IS OF BULK AT MOST 1048576: true; the input reads as it did. -/
def fnPostedUptoRow : OpenClaim := { program := "ytefhgilnfdmnlaa", sum := "0306f74cbf64c60b4c5b245a76285c0c3d2fc423fe62665ffa611f6afe17a6a2", func := "loop.example/g03407/laws.FnPosted", spec := "fnPosted", apart := false, narrowed := true }
def FnPostedUptoSaid : Prop := fnPostedUptoRow.holds Try.pinned (OpenSpec.upto fnPostedSpec)

/-- 'laws.FnExactPostEntries', WHERE WHAT IT READS IS OF BULK AT MOST 1048576: true; the input reads as it did. -/
def fnExactPostEntriesUptoRow : OpenClaim := { program := "ytefhgilnfdmnlaa", sum := "0306f74cbf64c60b4c5b245a76285c0c3d2fc423fe62665ffa611f6afe17a6a2", func := "loop.example/g03407/laws.FnExactPostEntries", spec := "fnExactPostEntries", apart := false, narrowed := true }
def FnExactPostEntriesUptoSaid : Prop := fnExactPostEntriesUptoRow.holds Try.pinned (OpenSpec.upto fnExactPostEntriesSpec)

/-- 'laws.FnExactReverseNumber', WHERE WHAT IT READS IS OF BULK AT MOST 1048576: true; the input reads as it did. -/
def fnExactReverseNumberUptoRow : OpenClaim := { program := "ytefhgilnfdmnlaa", sum := "0306f74cbf64c60b4c5b245a76285c0c3d2fc423fe62665ffa611f6afe17a6a2", func := "loop.example/g03407/laws.FnExactReverseNumber", spec := "fnExactReverseNumber", apart := false, narrowed := true }
def FnExactReverseNumberUptoSaid : Prop := fnExactReverseNumberUptoRow.holds Try.pinned (OpenSpec.upto fnExactReverseNumberSpec)

/-- 'laws.FnExactAddEntries', WHERE WHAT IT READS IS OF BULK AT MOST 1048576: true; the input reads as it did. -/
def fnExactAddEntriesUptoRow : OpenClaim := { program := "ytefhgilnfdmnlaa", sum := "0306f74cbf64c60b4c5b245a76285c0c3d2fc423fe62665ffa611f6afe17a6a2", func := "loop.example/g03407/laws.FnExactAddEntries", spec := "fnExactAddEntries", recurses := true, apart := false, narrowed := true }
def FnExactAddEntriesUptoSaid : Prop := fnExactAddEntriesUptoRow.holds Try.pinned (OpenSpec.upto fnExactAddEntriesSpec)

/-- 'laws.FnTrials', WHERE WHAT IT READS IS OF BULK AT MOST 1048576: true; the input reads as it did. -/
def fnTrialsUptoRow : OpenClaim := { program := "ytefhgilnfdmnlaa", sum := "0306f74cbf64c60b4c5b245a76285c0c3d2fc423fe62665ffa611f6afe17a6a2", func := "loop.example/g03407/laws.FnTrials", spec := "fnTrials", recurses := true, apart := false, narrowed := true }
def FnTrialsUptoSaid : Prop := fnTrialsUptoRow.holds Try.pinned (OpenSpec.upto fnTrialsSpec)

/-- 'laws.FnExactTrialBalance', WHERE WHAT IT READS IS OF BULK AT MOST 1048576: true; the input reads as it did. -/
def fnExactTrialBalanceUptoRow : OpenClaim := { program := "ytefhgilnfdmnlaa", sum := "0306f74cbf64c60b4c5b245a76285c0c3d2fc423fe62665ffa611f6afe17a6a2", func := "loop.example/g03407/laws.FnExactTrialBalance", spec := "fnExactTrialBalance", recurses := true, apart := false, narrowed := true }
def FnExactTrialBalanceUptoSaid : Prop := fnExactTrialBalanceUptoRow.holds Try.pinned (OpenSpec.upto fnExactTrialBalanceSpec)

/-- 'laws.FnReversed', WHERE WHAT IT READS IS OF BULK AT MOST 1048576: true; the input reads as it did. -/
def fnReversedUptoRow : OpenClaim := { program := "ytefhgilnfdmnlaa", sum := "0306f74cbf64c60b4c5b245a76285c0c3d2fc423fe62665ffa611f6afe17a6a2", func := "loop.example/g03407/laws.FnReversed", spec := "fnReversed", recurses := true, apart := false, narrowed := true }
def FnReversedUptoSaid : Prop := fnReversedUptoRow.holds Try.pinned (OpenSpec.upto fnReversedSpec)

end Rows
end Go.Proofs.Ytefhgilnfdmnlaa
