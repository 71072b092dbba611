/-
  No cell of these rows narrows 'for every input' (looked for: loops, veiled, ifaces, maps, wideKeys, modest, calm, conditions, laid).
  DERIVED. THE GIVEN ROWS OF THIS SEAT. 14 by the template 'for every input the law returns true; each argument reads behind the call as it read before'; 0 by the template 'total and deterministic' (their statements: YtknfhiepndffpaaTotals.lean).
  GIVEN WITH THE SEED: the statements are not yours to turn. If you find one false, say at which input.
  Laid BY PROGRAM, IN A SANDBOX (cutbox-rows.mjs): the forced cells as the released guide's own fill.sh prints them over the translation a07ec3edce6fb77f… (all of the seat's roots in one cut). By AI agents, Wed Nov 11 2026. No macro, syntax, notation, axiom, sorry.
-/
import Derived.Test.YtknfhiepndffpaaChecked
import GoSem.Claim
import GoSem.ClaimJoined
import GoSem.ClaimMapViews
import Derived.JoinedTies
import Derived.KernelRfl
namespace Go.Proofs.Ytknfhiepndffpaa
/- THE CELL 'sum', in the pinned program and in every row, IS THE sha256 OF THE DUMP (.gsa) THAT YtknfhiepndffpaaProg.lean LOADS. Nothing in Lean hashes anything: it is a label: what it is worth is what the hold of that sum in a sandbox is worth. -/
noncomputable def Try.pinned : Pinned := { name := "ytknfhiepndffpaa", sum := "a07ec3edce6fb77f3f12225c9ff847337074fe444bfa95de3c75e17cccad792e", checked := Try.checked }
namespace Rows
def none {H : Type} : Left H := { results := [], args := [] }

/-- 'laws.FnLate': WHATEVER THE INPUT: true; the input reads as it did. -/
def fnLateSpec : ChangeSpec := { name := "fnLate", fn := fun _ => fun
  | [d] => { results := [.lit (.bool true)], args := [d] }
  | _ => none }
def fnLateRow : OpenClaim := { program := "ytknfhiepndffpaa", sum := "a07ec3edce6fb77f3f12225c9ff847337074fe444bfa95de3c75e17cccad792e", func := "loop.example/g03407/laws.FnLate", spec := "fnLate", apart := false }
def FnLateSaid : Prop := fnLateRow.holds Try.pinned (OpenSpec.ofChange fnLateSpec)

/-- ITS FALSE NEIGHBOUR: 'it returns false'. Refute it at one input. -/
def fnLateWrong : ChangeSpec := { name := "fnLate", fn := fun _ => fun
  | [d] => { results := [.lit (.bool false)], args := [d] }
  | _ => none }
def FnLateWrongFalsely : Prop := fnLateRow.holds Try.pinned (OpenSpec.ofChange fnLateWrong)

/-- 'laws.FnExactAreLayers': WHATEVER THE INPUT: true; the input reads as it did. -/
def fnExactAreLayersSpec : ChangeSpec := { name := "fnExactAreLayers", fn := fun _ => fun
  | [d] => { results := [.lit (.bool true)], args := [d] }
  | _ => none }
def fnExactAreLayersRow : OpenClaim := { program := "ytknfhiepndffpaa", sum := "a07ec3edce6fb77f3f12225c9ff847337074fe444bfa95de3c75e17cccad792e", func := "loop.example/g03407/laws.FnExactAreLayers", spec := "fnExactAreLayers", apart := false }
def FnExactAreLayersSaid : Prop := fnExactAreLayersRow.holds Try.pinned (OpenSpec.ofChange fnExactAreLayersSpec)

/-- ITS FALSE NEIGHBOUR: 'it returns false'. Refute it at one input. -/
def fnExactAreLayersWrong : ChangeSpec := { name := "fnExactAreLayers", fn := fun _ => fun
  | [d] => { results := [.lit (.bool false)], args := [d] }
  | _ => none }
def FnExactAreLayersWrongFalsely : Prop := fnExactAreLayersRow.holds Try.pinned (OpenSpec.ofChange fnExactAreLayersWrong)

/-- 'laws.FnExactLeftOf': WHATEVER THE INPUT: true; the input reads as it did. -/
def fnExactLeftOfSpec : ChangeSpec := { name := "fnExactLeftOf", fn := fun _ => fun
  | [d] => { results := [.lit (.bool true)], args := [d] }
  | _ => none }
def fnExactLeftOfRow : OpenClaim := { program := "ytknfhiepndffpaa", sum := "a07ec3edce6fb77f3f12225c9ff847337074fe444bfa95de3c75e17cccad792e", func := "loop.example/g03407/laws.FnExactLeftOf", spec := "fnExactLeftOf", apart := false }
def FnExactLeftOfSaid : Prop := fnExactLeftOfRow.holds Try.pinned (OpenSpec.ofChange fnExactLeftOfSpec)

/-- ITS FALSE NEIGHBOUR: 'it returns false'. Refute it at one input. -/
def fnExactLeftOfWrong : ChangeSpec := { name := "fnExactLeftOf", fn := fun _ => fun
  | [d] => { results := [.lit (.bool false)], args := [d] }
  | _ => none }
def FnExactLeftOfWrongFalsely : Prop := fnExactLeftOfRow.holds Try.pinned (OpenSpec.ofChange fnExactLeftOfWrong)

/-- 'laws.FnExactGoneCost': WHATEVER THE INPUT: true; the input reads as it did. -/
def fnExactGoneCostSpec : ChangeSpec := { name := "fnExactGoneCost", fn := fun _ => fun
  | [d] => { results := [.lit (.bool true)], args := [d] }
  | _ => none }
def fnExactGoneCostRow : OpenClaim := { program := "ytknfhiepndffpaa", sum := "a07ec3edce6fb77f3f12225c9ff847337074fe444bfa95de3c75e17cccad792e", func := "loop.example/g03407/laws.FnExactGoneCost", spec := "fnExactGoneCost", apart := false }
def FnExactGoneCostSaid : Prop := fnExactGoneCostRow.holds Try.pinned (OpenSpec.ofChange fnExactGoneCostSpec)

/-- ITS FALSE NEIGHBOUR: 'it returns false'. Refute it at one input. -/
def fnExactGoneCostWrong : ChangeSpec := { name := "fnExactGoneCost", fn := fun _ => fun
  | [d] => { results := [.lit (.bool false)], args := [d] }
  | _ => none }
def FnExactGoneCostWrongFalsely : Prop := fnExactGoneCostRow.holds Try.pinned (OpenSpec.ofChange fnExactGoneCostWrong)

/-- 'laws.FnExactWorthOf': WHATEVER THE INPUT: true; the input reads as it did. -/
def fnExactWorthOfSpec : ChangeSpec := { name := "fnExactWorthOf", fn := fun _ => fun
  | [d] => { results := [.lit (.bool true)], args := [d] }
  | _ => none }
def fnExactWorthOfRow : OpenClaim := { program := "ytknfhiepndffpaa", sum := "a07ec3edce6fb77f3f12225c9ff847337074fe444bfa95de3c75e17cccad792e", func := "loop.example/g03407/laws.FnExactWorthOf", spec := "fnExactWorthOf", apart := false }
def FnExactWorthOfSaid : Prop := fnExactWorthOfRow.holds Try.pinned (OpenSpec.ofChange fnExactWorthOfSpec)

/-- ITS FALSE NEIGHBOUR: 'it returns false'. Refute it at one input. -/
def fnExactWorthOfWrong : ChangeSpec := { name := "fnExactWorthOf", fn := fun _ => fun
  | [d] => { results := [.lit (.bool false)], args := [d] }
  | _ => none }
def FnExactWorthOfWrongFalsely : Prop := fnExactWorthOfRow.holds Try.pinned (OpenSpec.ofChange fnExactWorthOfWrong)

/-- 'laws.FnExactReceiveLayer': WHATEVER THE INPUT: true; the input reads as it did. -/
def fnExactReceiveLayerSpec : ChangeSpec := { name := "fnExactReceiveLayer", fn := fun _ => fun
  | [d1, d2, d3] => { results := [.lit (.bool true)], args := [d1, d2, d3] }
  | _ => none }
def fnExactReceiveLayerRow : OpenClaim := { program := "ytknfhiepndffpaa", sum := "a07ec3edce6fb77f3f12225c9ff847337074fe444bfa95de3c75e17cccad792e", func := "loop.example/g03407/laws.FnExactReceiveLayer", spec := "fnExactReceiveLayer", apart := false }
def FnExactReceiveLayerSaid : Prop := fnExactReceiveLayerRow.holds Try.pinned (OpenSpec.ofChange fnExactReceiveLayerSpec)

/-- ITS FALSE NEIGHBOUR: 'it returns false'. Refute it at one input. -/
def fnExactReceiveLayerWrong : ChangeSpec := { name := "fnExactReceiveLayer", fn := fun _ => fun
  | [d1, d2, d3] => { results := [.lit (.bool false)], args := [d1, d2, d3] }
  | _ => none }
def FnExactReceiveLayerWrongFalsely : Prop := fnExactReceiveLayerRow.holds Try.pinned (OpenSpec.ofChange fnExactReceiveLayerWrong)

/-- 'laws.FnExactDropLayers': WHATEVER THE INPUT: true; the input reads as it did. -/
def fnExactDropLayersSpec : ChangeSpec := { name := "fnExactDropLayers", fn := fun _ => fun
  | [d] => { results := [.lit (.bool true)], args := [d] }
  | _ => none }
def fnExactDropLayersRow : OpenClaim := { program := "ytknfhiepndffpaa", sum := "a07ec3edce6fb77f3f12225c9ff847337074fe444bfa95de3c75e17cccad792e", func := "loop.example/g03407/laws.FnExactDropLayers", spec := "fnExactDropLayers", apart := false }
def FnExactDropLayersSaid : Prop := fnExactDropLayersRow.holds Try.pinned (OpenSpec.ofChange fnExactDropLayersSpec)

/-- ITS FALSE NEIGHBOUR: 'it returns false'. Refute it at one input. -/
def fnExactDropLayersWrong : ChangeSpec := { name := "fnExactDropLayers", fn := fun _ => fun
  | [d] => { results := [.lit (.bool false)], args := [d] }
  | _ => none }
def FnExactDropLayersWrongFalsely : Prop := fnExactDropLayersRow.holds Try.pinned (OpenSpec.ofChange fnExactDropLayersWrong)

/-- 'laws.FnExactAddLate': WHATEVER THE INPUT: true; the input reads as it did. -/
def fnExactAddLateSpec : ChangeSpec := { name := "fnExactAddLate", fn := fun _ => fun
  | [d1, d2, d3] => { results := [.lit (.bool true)], args := [d1, d2, d3] }
  | _ => none }
def fnExactAddLateRow : OpenClaim := { program := "ytknfhiepndffpaa", sum := "a07ec3edce6fb77f3f12225c9ff847337074fe444bfa95de3c75e17cccad792e", func := "loop.example/g03407/laws.FnExactAddLate", spec := "fnExactAddLate", apart := false }
def FnExactAddLateSaid : Prop := fnExactAddLateRow.holds Try.pinned (OpenSpec.ofChange fnExactAddLateSpec)

/-- ITS FALSE NEIGHBOUR: 'it returns false'. Refute it at one input. -/
def fnExactAddLateWrong : ChangeSpec := { name := "fnExactAddLate", fn := fun _ => fun
  | [d1, d2, d3] => { results := [.lit (.bool false)], args := [d1, d2, d3] }
  | _ => none }
def FnExactAddLateWrongFalsely : Prop := fnExactAddLateRow.holds Try.pinned (OpenSpec.ofChange fnExactAddLateWrong)

/-- 'laws.FnExactReturnLayers': WHATEVER THE INPUT: true; the input reads as it did. -/
def fnExactReturnLayersSpec : ChangeSpec := { name := "fnExactReturnLayers", fn := fun _ => fun
  | [d1, d2] => { results := [.lit (.bool true)], args := [d1, d2] }
  | _ => none }
def fnExactReturnLayersRow : OpenClaim := { program := "ytknfhiepndffpaa", sum := "a07ec3edce6fb77f3f12225c9ff847337074fe444bfa95de3c75e17cccad792e", func := "loop.example/g03407/laws.FnExactReturnLayers", spec := "fnExactReturnLayers", apart := false }
def FnExactReturnLayersSaid : Prop := fnExactReturnLayersRow.holds Try.pinned (OpenSpec.ofChange fnExactReturnLayersSpec)

/-- ITS FALSE NEIGHBOUR: 'it returns false'. Refute it at one input. -/
def fnExactReturnLayersWrong : ChangeSpec := { name := "fnExactReturnLayers", fn := fun _ => fun
  | [d1, d2] => { results := [.lit (.bool false)], args := [d1, d2] }
  | _ => none }
def FnExactReturnLayersWrongFalsely : Prop := fnExactReturnLayersRow.holds Try.pinned (OpenSpec.ofChange fnExactReturnLayersWrong)

/-- 'laws.FnExactIssueLayers': WHATEVER THE INPUT: true; the input reads as it did. -/
def fnExactIssueLayersSpec : ChangeSpec := { name := "fnExactIssueLayers", fn := fun _ => fun
  | [d1, d2] => { results := [.lit (.bool true)], args := [d1, d2] }
  | _ => none }
def fnExactIssueLayersRow : OpenClaim := { program := "ytknfhiepndffpaa", sum := "a07ec3edce6fb77f3f12225c9ff847337074fe444bfa95de3c75e17cccad792e", func := "loop.example/g03407/laws.FnExactIssueLayers", spec := "fnExactIssueLayers", apart := false }
def FnExactIssueLayersSaid : Prop := fnExactIssueLayersRow.holds Try.pinned (OpenSpec.ofChange fnExactIssueLayersSpec)

/-- ITS FALSE NEIGHBOUR: 'it returns false'. Refute it at one input. -/
def fnExactIssueLayersWrong : ChangeSpec := { name := "fnExactIssueLayers", fn := fun _ => fun
  | [d1, d2] => { results := [.lit (.bool false)], args := [d1, d2] }
  | _ => none }
def FnExactIssueLayersWrongFalsely : Prop := fnExactIssueLayersRow.holds Try.pinned (OpenSpec.ofChange fnExactIssueLayersWrong)

/-- 'laws.FnDropped': WHATEVER THE INPUT: true; the input reads as it did. -/
def fnDroppedSpec : ChangeSpec := { name := "fnDropped", fn := fun _ => fun
  | [d] => { results := [.lit (.bool true)], args := [d] }
  | _ => none }
def fnDroppedRow : OpenClaim := { program := "ytknfhiepndffpaa", sum := "a07ec3edce6fb77f3f12225c9ff847337074fe444bfa95de3c75e17cccad792e", func := "loop.example/g03407/laws.FnDropped", spec := "fnDropped", apart := false }
def FnDroppedSaid : Prop := fnDroppedRow.holds Try.pinned (OpenSpec.ofChange fnDroppedSpec)

/-- ITS FALSE NEIGHBOUR: 'it returns false'. Refute it at one input. -/
def fnDroppedWrong : ChangeSpec := { name := "fnDropped", fn := fun _ => fun
  | [d] => { results := [.lit (.bool false)], args := [d] }
  | _ => none }
def FnDroppedWrongFalsely : Prop := fnDroppedRow.holds Try.pinned (OpenSpec.ofChange fnDroppedWrong)

/-- 'laws.FnLayers': WHATEVER THE INPUT: true; the input reads as it did. -/
def fnLayersSpec : ChangeSpec := { name := "fnLayers", fn := fun _ => fun
  | [d] => { results := [.lit (.bool true)], args := [d] }
  | _ => none }
def fnLayersRow : OpenClaim := { program := "ytknfhiepndffpaa", sum := "a07ec3edce6fb77f3f12225c9ff847337074fe444bfa95de3c75e17cccad792e", func := "loop.example/g03407/laws.FnLayers", spec := "fnLayers", apart := false }
def FnLayersSaid : Prop := fnLayersRow.holds Try.pinned (OpenSpec.ofChange fnLayersSpec)

/-- ITS FALSE NEIGHBOUR: 'it returns false'. Refute it at one input. -/
def fnLayersWrong : ChangeSpec := { name := "fnLayers", fn := fun _ => fun
  | [d] => { results := [.lit (.bool false)], args := [d] }
  | _ => none }
def FnLayersWrongFalsely : Prop := fnLayersRow.holds Try.pinned (OpenSpec.ofChange fnLayersWrong)

/-- 'laws.FnExactShareLate': WHATEVER THE INPUT: true; the input reads as it did. -/
def fnExactShareLateSpec : ChangeSpec := { name := "fnExactShareLate", fn := fun _ => fun
  | [d1, d2] => { results := [.lit (.bool true)], args := [d1, d2] }
  | _ => none }
def fnExactShareLateRow : OpenClaim := { program := "ytknfhiepndffpaa", sum := "a07ec3edce6fb77f3f12225c9ff847337074fe444bfa95de3c75e17cccad792e", func := "loop.example/g03407/laws.FnExactShareLate", spec := "fnExactShareLate", apart := false }
def FnExactShareLateSaid : Prop := fnExactShareLateRow.holds Try.pinned (OpenSpec.ofChange fnExactShareLateSpec)

/-- ITS FALSE NEIGHBOUR: 'it returns false'. Refute it at one input. -/
def fnExactShareLateWrong : ChangeSpec := { name := "fnExactShareLate", fn := fun _ => fun
  | [d1, d2] => { results := [.lit (.bool false)], args := [d1, d2] }
  | _ => none }
def FnExactShareLateWrongFalsely : Prop := fnExactShareLateRow.holds Try.pinned (OpenSpec.ofChange fnExactShareLateWrong)

/-- 'laws.FnLateShared': WHATEVER THE INPUT: true; the input reads as it did. -/
def fnLateSharedSpec : ChangeSpec := { name := "fnLateShared", fn := fun _ => fun
  | [d] => { results := [.lit (.bool true)], args := [d] }
  | _ => none }
def fnLateSharedRow : OpenClaim := { program := "ytknfhiepndffpaa", sum := "a07ec3edce6fb77f3f12225c9ff847337074fe444bfa95de3c75e17cccad792e", func := "loop.example/g03407/laws.FnLateShared", spec := "fnLateShared", apart := false }
def FnLateSharedSaid : Prop := fnLateSharedRow.holds Try.pinned (OpenSpec.ofChange fnLateSharedSpec)

/-- ITS FALSE NEIGHBOUR: 'it returns false'. Refute it at one input. -/
def fnLateSharedWrong : ChangeSpec := { name := "fnLateShared", fn := fun _ => fun
  | [d] => { results := [.lit (.bool false)], args := [d] }
  | _ => none }
def FnLateSharedWrongFalsely : Prop := fnLateSharedRow.holds Try.pinned (OpenSpec.ofChange fnLateSharedWrong)

/- THE SECOND FORM. 'bulk': how many values and letters a reading holds, each counted each time it is reached (what is shared counts as often as it is met; a slice's spare places count too). A statement '..UptoSaid' is the law's where the arguments, and the package variables that the reading takes, are together of bulk at most 1048576: NARROWER than '..Said'. Prove '..Said' where nothing that the law and all that it calls make is longer than what came in: it says more and counts as full. Else prove '..UptoSaid'. A law counts once. -/
mutual
def uptoBulk {H : Type} : DataW H → Nat
  | .lit (.string bytes) => bytes.length + 1
  | .lit _ => 1
  | .nil => 1
  | .ptr d => uptoBulk d + 1
  | .slice elems spare => uptoBulkAll elems + uptoBulkAll spare + 1
  | .agg parts => uptoBulkAll parts + 1
  | .iface _ d => uptoBulk d + 1
  | .map entries => uptoBulkEntries entries + 1
  | .held _ => 1
def uptoBulkAll {H : Type} : List (DataW H) → Nat
  | [] => 0
  | d :: r => uptoBulk d + uptoBulkAll r
def uptoBulkEntries {H : Type} : List (Lit × DataW H) → Nat
  | [] => 0
  | x :: r => uptoBulkEntry x + uptoBulkEntries r
def uptoBulkEntry {H : Type} : Lit × DataW H → Nat
  | (.string bytes, d) => bytes.length + uptoBulk d + 1
  | (_, d) => uptoBulk d + 1
 end
def uptoSmall : (H : Type) → List (DataW H) → Bool := fun _ ds => decide (uptoBulkAll ds ≤ 1048576)
def OpenSpec.upto (s : _root_.Go.ChangeSpec) : _root_.Go.OpenSpec := { _root_.Go.OpenSpec.ofChange s with cond := some uptoSmall }

/-- 'laws.FnLate', WHERE WHAT IT READS IS OF BULK AT MOST 1048576: true; the input reads as it did. -/
def fnLateUptoRow : OpenClaim := { program := "ytknfhiepndffpaa", sum := "a07ec3edce6fb77f3f12225c9ff847337074fe444bfa95de3c75e17cccad792e", func := "loop.example/g03407/laws.FnLate", spec := "fnLate", apart := false, narrowed := true }
def FnLateUptoSaid : Prop := fnLateUptoRow.holds Try.pinned (OpenSpec.upto fnLateSpec)

/-- 'laws.FnExactAreLayers', WHERE WHAT IT READS IS OF BULK AT MOST 1048576: true; the input reads as it did. -/
def fnExactAreLayersUptoRow : OpenClaim := { program := "ytknfhiepndffpaa", sum := "a07ec3edce6fb77f3f12225c9ff847337074fe444bfa95de3c75e17cccad792e", func := "loop.example/g03407/laws.FnExactAreLayers", spec := "fnExactAreLayers", apart := false, narrowed := true }
def FnExactAreLayersUptoSaid : Prop := fnExactAreLayersUptoRow.holds Try.pinned (OpenSpec.upto fnExactAreLayersSpec)

/-- 'laws.FnExactLeftOf', WHERE WHAT IT READS IS OF BULK AT MOST 1048576: true; the input reads as it did. -/
def fnExactLeftOfUptoRow : OpenClaim := { program := "ytknfhiepndffpaa", sum := "a07ec3edce6fb77f3f12225c9ff847337074fe444bfa95de3c75e17cccad792e", func := "loop.example/g03407/laws.FnExactLeftOf", spec := "fnExactLeftOf", apart := false, narrowed := true }
def FnExactLeftOfUptoSaid : Prop := fnExactLeftOfUptoRow.holds Try.pinned (OpenSpec.upto fnExactLeftOfSpec)

/-- 'laws.FnExactGoneCost', WHERE WHAT IT READS IS OF BULK AT MOST 1048576: true; the input reads as it did. -/
def fnExactGoneCostUptoRow : OpenClaim := { program := "ytknfhiepndffpaa", sum := "a07ec3edce6fb77f3f12225c9ff847337074fe444bfa95de3c75e17cccad792e", func := "loop.example/g03407/laws.FnExactGoneCost", spec := "fnExactGoneCost", apart := false, narrowed := true }
def FnExactGoneCostUptoSaid : Prop := fnExactGoneCostUptoRow.holds Try.pinned (OpenSpec.upto fnExactGoneCostSpec)

/-- 'laws.FnExactWorthOf', WHERE WHAT IT READS IS OF BULK AT MOST 1048576: true; the input reads as it did. -/
def fnExactWorthOfUptoRow : OpenClaim := { program := "ytknfhiepndffpaa", sum := "a07ec3edce6fb77f3f12225c9ff847337074fe444bfa95de3c75e17cccad792e", func := "loop.example/g03407/laws.FnExactWorthOf", spec := "fnExactWorthOf", apart := false, narrowed := true }
def FnExactWorthOfUptoSaid : Prop := fnExactWorthOfUptoRow.holds Try.pinned (OpenSpec.upto fnExactWorthOfSpec)

/-- 'laws.FnExactReceiveLayer', WHERE WHAT IT READS IS OF BULK AT MOST 1048576: true; the input reads as it did. -/
def fnExactReceiveLayerUptoRow : OpenClaim := { program := "ytknfhiepndffpaa", sum := "a07ec3edce6fb77f3f12225c9ff847337074fe444bfa95de3c75e17cccad792e", func := "loop.example/g03407/laws.FnExactReceiveLayer", spec := "fnExactReceiveLayer", apart := false, narrowed := true }
def FnExactReceiveLayerUptoSaid : Prop := fnExactReceiveLayerUptoRow.holds Try.pinned (OpenSpec.upto fnExactReceiveLayerSpec)

/-- 'laws.FnExactDropLayers', WHERE WHAT IT READS IS OF BULK AT MOST 1048576: true; the input reads as it did. -/
def fnExactDropLayersUptoRow : OpenClaim := { program := "ytknfhiepndffpaa", sum := "a07ec3edce6fb77f3f12225c9ff847337074fe444bfa95de3c75e17cccad792e", func := "loop.example/g03407/laws.FnExactDropLayers", spec := "fnExactDropLayers", apart := false, narrowed := true }
def FnExactDropLayersUptoSaid : Prop := fnExactDropLayersUptoRow.holds Try.pinned (OpenSpec.upto fnExactDropLayersSpec)

/-- 'laws.FnExactAddLate', WHERE WHAT IT READS IS OF BULK AT MOST 1048576: true; the input reads as it did. -/
def fnExactAddLateUptoRow : OpenClaim := { program := "ytknfhiepndffpaa", sum := "a07ec3edce6fb77f3f12225c9ff847337074fe444bfa95de3c75e17cccad792e", func := "loop.example/g03407/laws.FnExactAddLate", spec := "fnExactAddLate", apart := false, narrowed := true }
def FnExactAddLateUptoSaid : Prop := fnExactAddLateUptoRow.holds Try.pinned (OpenSpec.upto fnExactAddLateSpec)

/-- 'laws.FnExactReturnLayers', WHERE WHAT IT READS IS OF BULK AT MOST 1048576: true; the input reads as it did. -/
def fnExactReturnLayersUptoRow : OpenClaim := { program := "ytknfhiepndffpaa", sum := "a07ec3edce6fb77f3f12225c9ff847337074fe444bfa95de3c75e17cccad792e", func := "loop.example/g03407/laws.FnExactReturnLayers", spec := "fnExactReturnLayers", apart := false, narrowed := true }
def FnExactReturnLayersUptoSaid : Prop := fnExactReturnLayersUptoRow.holds Try.pinned (OpenSpec.upto fnExactReturnLayersSpec)

/-- 'laws.FnExactIssueLayers', WHERE WHAT IT READS IS OF BULK AT MOST 1048576: true; the input reads as it did. -/
def fnExactIssueLayersUptoRow : OpenClaim := { program := "ytknfhiepndffpaa", sum := "a07ec3edce6fb77f3f12225c9ff847337074fe444bfa95de3c75e17cccad792e", func := "loop.example/g03407/laws.FnExactIssueLayers", spec := "fnExactIssueLayers", apart := false, narrowed := true }
def FnExactIssueLayersUptoSaid : Prop := fnExactIssueLayersUptoRow.holds Try.pinned (OpenSpec.upto fnExactIssueLayersSpec)

/-- 'laws.FnDropped', WHERE WHAT IT READS IS OF BULK AT MOST 1048576: true; the input reads as it did. -/
def fnDroppedUptoRow : OpenClaim := { program := "ytknfhiepndffpaa", sum := "a07ec3edce6fb77f3f12225c9ff847337074fe444bfa95de3c75e17cccad792e", func := "loop.example/g03407/laws.FnDropped", spec := "fnDropped", apart := false, narrowed := true }
def FnDroppedUptoSaid : Prop := fnDroppedUptoRow.holds Try.pinned (OpenSpec.upto fnDroppedSpec)

/-- 'laws.FnLayers', WHERE WHAT IT READS IS OF BULK AT MOST 1048576: true; the input reads as it did. -/
def fnLayersUptoRow : OpenClaim := { program := "ytknfhiepndffpaa", sum := "a07ec3edce6fb77f3f12225c9ff847337074fe444bfa95de3c75e17cccad792e", func := "loop.example/g03407/laws.FnLayers", spec := "fnLayers", apart := false, narrowed := true }
def FnLayersUptoSaid : Prop := fnLayersUptoRow.holds Try.pinned (OpenSpec.upto fnLayersSpec)

/-- 'laws.FnExactShareLate', WHERE WHAT IT READS IS OF BULK AT MOST 1048576: true; the input reads as it did. -/
def fnExactShareLateUptoRow : OpenClaim := { program := "ytknfhiepndffpaa", sum := "a07ec3edce6fb77f3f12225c9ff847337074fe444bfa95de3c75e17cccad792e", func := "loop.example/g03407/laws.FnExactShareLate", spec := "fnExactShareLate", apart := false, narrowed := true }
def FnExactShareLateUptoSaid : Prop := fnExactShareLateUptoRow.holds Try.pinned (OpenSpec.upto fnExactShareLateSpec)

/-- 'laws.FnLateShared', WHERE WHAT IT READS IS OF BULK AT MOST 1048576: true; the input reads as it did. -/
def fnLateSharedUptoRow : OpenClaim := { program := "ytknfhiepndffpaa", sum := "a07ec3edce6fb77f3f12225c9ff847337074fe444bfa95de3c75e17cccad792e", func := "loop.example/g03407/laws.FnLateShared", spec := "fnLateShared", apart := false, narrowed := true }
def FnLateSharedUptoSaid : Prop := fnLateSharedUptoRow.holds Try.pinned (OpenSpec.upto fnLateSharedSpec)

end Rows
end Go.Proofs.Ytknfhiepndffpaa
