/-
  No cell of these rows narrows 'for every input' (looked for: loops, veiled, ifaces, maps, wideKeys, modest, calm, conditions, laid).
  DERIVED. THE GIVEN ROWS OF THIS SEAT. 5 by the template 'for every input the law returns true; each argument reads behind the call as it read before'; 0 by the template 'total and deterministic' (their statements: YtaldlinekipblaaTotals.lean).
  GIVEN WITH THE SEED: the statements are not yours to turn. If you find one false, say at which input.
  Laid BY PROGRAM, IN A SANDBOX (cutbox-rows.mjs): the forced cells as the released guide's own fill.sh prints them over the translation df9a104904834748… (all of the seat's roots in one cut). By AI agents, Wed Nov 11 2026. No macro, syntax, notation, axiom, sorry.
-/
import Derived.Test.YtaldlinekipblaaChecked
import GoSem.Claim
import GoSem.ClaimJoined
import GoSem.ClaimMapViews
import Derived.JoinedTies
import Derived.KernelRfl
namespace Go.Proofs.Ytaldlinekipblaa
/- THE CELL 'sum', in the pinned program and in every row, IS THE sha256 OF THE DUMP (.gsa) THAT YtaldlinekipblaaProg.lean LOADS. Nothing in Lean hashes anything: it is a label: what it is worth is what the hold of that sum in a sandbox is worth. -/
noncomputable def Try.pinned : Pinned := { name := "ytaldlinekipblaa", sum := "df9a104904834748754e8f3d040810c63334b46db77af60e1a8599a261207aa8", checked := Try.checked }
namespace Rows
def none {H : Type} : Left H := { results := [], args := [] }

/-- 'laws.FnExactMadeFrom': WHATEVER THE INPUT: true; the input reads as it did. -/
def fnExactMadeFromSpec : ChangeSpec := { name := "fnExactMadeFrom", fn := fun _ => fun
  | [d1, d2] => { results := [.lit (.bool true)], args := [d1, d2] }
  | _ => none }
def fnExactMadeFromRow : OpenClaim := { program := "ytaldlinekipblaa", sum := "df9a104904834748754e8f3d040810c63334b46db77af60e1a8599a261207aa8", func := "loop.example/g03407/laws.FnExactMadeFrom", spec := "fnExactMadeFrom", recurses := true, apart := false }
def FnExactMadeFromSaid : Prop := fnExactMadeFromRow.holds Try.pinned (OpenSpec.ofChange fnExactMadeFromSpec)

/-- ITS FALSE NEIGHBOUR: 'it returns false'. Refute it at one input. -/
def fnExactMadeFromWrong : ChangeSpec := { name := "fnExactMadeFrom", fn := fun _ => fun
  | [d1, d2] => { results := [.lit (.bool false)], args := [d1, d2] }
  | _ => none }
def FnExactMadeFromWrongFalsely : Prop := fnExactMadeFromRow.holds Try.pinned (OpenSpec.ofChange fnExactMadeFromWrong)

/-- 'laws.FnExactWentInto': WHATEVER THE INPUT: true; the input reads as it did. -/
def fnExactWentIntoSpec : ChangeSpec := { name := "fnExactWentInto", fn := fun _ => fun
  | [d1, d2] => { results := [.lit (.bool true)], args := [d1, d2] }
  | _ => none }
def fnExactWentIntoRow : OpenClaim := { program := "ytaldlinekipblaa", sum := "df9a104904834748754e8f3d040810c63334b46db77af60e1a8599a261207aa8", func := "loop.example/g03407/laws.FnExactWentInto", spec := "fnExactWentInto", recurses := true, apart := false }
def FnExactWentIntoSaid : Prop := fnExactWentIntoRow.holds Try.pinned (OpenSpec.ofChange fnExactWentIntoSpec)

/-- ITS FALSE NEIGHBOUR: 'it returns false'. Refute it at one input. -/
def fnExactWentIntoWrong : ChangeSpec := { name := "fnExactWentInto", fn := fun _ => fun
  | [d1, d2] => { results := [.lit (.bool false)], args := [d1, d2] }
  | _ => none }
def FnExactWentIntoWrongFalsely : Prop := fnExactWentIntoRow.holds Try.pinned (OpenSpec.ofChange fnExactWentIntoWrong)

/-- 'laws.FnExactRecallOf': WHATEVER THE INPUT: true; the input reads as it did. -/
def fnExactRecallOfSpec : ChangeSpec := { name := "fnExactRecallOf", fn := fun _ => fun
  | [d1, d2, d3] => { results := [.lit (.bool true)], args := [d1, d2, d3] }
  | _ => none }
def fnExactRecallOfRow : OpenClaim := { program := "ytaldlinekipblaa", sum := "df9a104904834748754e8f3d040810c63334b46db77af60e1a8599a261207aa8", func := "loop.example/g03407/laws.FnExactRecallOf", spec := "fnExactRecallOf", recurses := true, apart := false }
def FnExactRecallOfSaid : Prop := fnExactRecallOfRow.holds Try.pinned (OpenSpec.ofChange fnExactRecallOfSpec)

/-- ITS FALSE NEIGHBOUR: 'it returns false'. Refute it at one input. -/
def fnExactRecallOfWrong : ChangeSpec := { name := "fnExactRecallOf", fn := fun _ => fun
  | [d1, d2, d3] => { results := [.lit (.bool false)], args := [d1, d2, d3] }
  | _ => none }
def FnExactRecallOfWrongFalsely : Prop := fnExactRecallOfRow.holds Try.pinned (OpenSpec.ofChange fnExactRecallOfWrong)

/-- 'laws.FnExactSuspectsOf': WHATEVER THE INPUT: true; the input reads as it did. -/
def fnExactSuspectsOfSpec : ChangeSpec := { name := "fnExactSuspectsOf", fn := fun _ => fun
  | [d1, d2, d3] => { results := [.lit (.bool true)], args := [d1, d2, d3] }
  | _ => none }
def fnExactSuspectsOfRow : OpenClaim := { program := "ytaldlinekipblaa", sum := "df9a104904834748754e8f3d040810c63334b46db77af60e1a8599a261207aa8", func := "loop.example/g03407/laws.FnExactSuspectsOf", spec := "fnExactSuspectsOf", recurses := true, apart := false }
def FnExactSuspectsOfSaid : Prop := fnExactSuspectsOfRow.holds Try.pinned (OpenSpec.ofChange fnExactSuspectsOfSpec)

/-- ITS FALSE NEIGHBOUR: 'it returns false'. Refute it at one input. -/
def fnExactSuspectsOfWrong : ChangeSpec := { name := "fnExactSuspectsOf", fn := fun _ => fun
  | [d1, d2, d3] => { results := [.lit (.bool false)], args := [d1, d2, d3] }
  | _ => none }
def FnExactSuspectsOfWrongFalsely : Prop := fnExactSuspectsOfRow.holds Try.pinned (OpenSpec.ofChange fnExactSuspectsOfWrong)

/-- 'laws.FnRecalls': WHATEVER THE INPUT: true; the input reads as it did. -/
def fnRecallsSpec : ChangeSpec := { name := "fnRecalls", fn := fun _ => fun
  | [d] => { results := [.lit (.bool true)], args := [d] }
  | _ => none }
def fnRecallsRow : OpenClaim := { program := "ytaldlinekipblaa", sum := "df9a104904834748754e8f3d040810c63334b46db77af60e1a8599a261207aa8", func := "loop.example/g03407/laws.FnRecalls", spec := "fnRecalls", recurses := true, apart := false }
def FnRecallsSaid : Prop := fnRecallsRow.holds Try.pinned (OpenSpec.ofChange fnRecallsSpec)

/-- ITS FALSE NEIGHBOUR: 'it returns false'. Refute it at one input. -/
def fnRecallsWrong : ChangeSpec := { name := "fnRecalls", fn := fun _ => fun
  | [d] => { results := [.lit (.bool false)], args := [d] }
  | _ => none }
def FnRecallsWrongFalsely : Prop := fnRecallsRow.holds Try.pinned (OpenSpec.ofChange fnRecallsWrong)

/- THE SECOND FORM. 'bulk': how many values and letters a reading holds, each counted each time it is reached (what is shared counts as often as it is met; a slice's spare places count too). A statement '..UptoSaid' is the law's where the arguments, and the package variables that the reading takes, are together of bulk at most 1048576: NARROWER than '..Said'. Prove '..Said' where nothing that the law and all that it calls make is longer than what came in: it says more and counts as full. Else prove '..UptoSaid'. A law counts once. -/
mutual
def uptoBulk {H : Type} : DataW H → Nat
  | .lit (.string bytes) => bytes.length + 1
  | .lit _ => 1
  | .nil => 1
  | .ptr d => uptoBulk d + 1
  | .slice elems spare => uptoBulkAll elems + uptoBulkAll spare + 1
  | .agg parts => uptoBulkAll parts + 1
  | .iface _ d => uptoBulk d + 1
  | .map entries => uptoBulkEntries entries + 1
  | .held _ => 1
def uptoBulkAll {H : Type} : List (DataW H) → Nat
  | [] => 0
  | d :: r => uptoBulk d + uptoBulkAll r
def uptoBulkEntries {H : Type} : List (Lit × DataW H) → Nat
  | [] => 0
  | x :: r => uptoBulkEntry x + uptoBulkEntries r
def uptoBulkEntry {H : Type} : Lit × DataW H → Nat
  | (.string bytes, d) => bytes.length + uptoBulk d + 1
  | (_, d) => uptoBulk d + 1
 end
def uptoSmall : (H : Type) → List (DataW H) → Bool := fun _ ds => decide (uptoBulkAll ds ≤ 1048576)
def OpenSpec.upto (s : _root_.Go.ChangeSpec) : _root_.Go.OpenSpec := { _root_.Go.OpenSpec.ofChange s with cond := some uptoSmall }

/-- 'laws.FnExactMadeFrom', WHERE WHAT IT READS IS OF BULK AT MOST 1048576: true; the input reads as it did. -/
def fnExactMadeFromUptoRow : OpenClaim := { program := "ytaldlinekipblaa", sum := "df9a104904834748754e8f3d040810c63334b46db77af60e1a8599a261207aa8", func := "loop.example/g03407/laws.FnExactMadeFrom", spec := "fnExactMadeFrom", recurses := true, apart := false, narrowed := true }
def FnExactMadeFromUptoSaid : Prop := fnExactMadeFromUptoRow.holds Try.pinned (OpenSpec.upto fnExactMadeFromSpec)

/-- 'laws.FnExactWentInto', WHERE WHAT IT READS IS OF BULK AT MOST 1048576: true; the input reads as it did. -/
def fnExactWentIntoUptoRow : OpenClaim := { program := "ytaldlinekipblaa", sum := "df9a104904834748754e8f3d040810c63334b46db77af60e1a8599a261207aa8", func := "loop.example/g03407/laws.FnExactWentInto", spec := "fnExactWentInto", recurses := true, apart := false, narrowed := true }
def FnExactWentIntoUptoSaid : Prop := fnExactWentIntoUptoRow.holds Try.pinned (OpenSpec.upto fnExactWentIntoSpec)

/-- 'laws.FnExactRecallOf', WHERE WHAT IT READS IS OF BULK AT MOST 1048576: true; the input reads as it did. -/
def fnExactRecallOfUptoRow : OpenClaim := { program := "ytaldlinekipblaa", sum := "df9a104904834748754e8f3d040810c63334b46db77af60e1a8599a261207aa8", func := "loop.example/g03407/laws.FnExactRecallOf", spec := "fnExactRecallOf", recurses := true, apart := false, narrowed := true }
def FnExactRecallOfUptoSaid : Prop := fnExactRecallOfUptoRow.holds Try.pinned (OpenSpec.upto fnExactRecallOfSpec)

/-- 'laws.FnExactSuspectsOf', WHERE WHAT IT READS IS OF BULK AT MOST 1048576: true; the input reads as it did. -/
def fnExactSuspectsOfUptoRow : OpenClaim := { program := "ytaldlinekipblaa", sum := "df9a104904834748754e8f3d040810c63334b46db77af60e1a8599a261207aa8", func := "loop.example/g03407/laws.FnExactSuspectsOf", spec := "fnExactSuspectsOf", recurses := true, apart := false, narrowed := true }
def FnExactSuspectsOfUptoSaid : Prop := fnExactSuspectsOfUptoRow.holds Try.pinned (OpenSpec.upto fnExactSuspectsOfSpec)

/-- 'laws.FnRecalls', WHERE WHAT IT READS IS OF BULK AT MOST 1048576: true; the input reads as it did. -/
def fnRecallsUptoRow : OpenClaim := { program := "ytaldlinekipblaa", sum := "df9a104904834748754e8f3d040810c63334b46db77af60e1a8599a261207aa8", func := "loop.example/g03407/laws.FnRecalls", spec := "fnRecalls", recurses := true, apart := false, narrowed := true }
def FnRecallsUptoSaid : Prop := fnRecallsUptoRow.holds Try.pinned (OpenSpec.upto fnRecallsSpec)

end Rows
end Go.Proofs.Ytaldlinekipblaa
