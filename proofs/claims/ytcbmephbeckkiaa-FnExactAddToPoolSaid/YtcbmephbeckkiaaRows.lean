/-
  No cell of these rows narrows 'for every input' (looked for: loops, veiled, ifaces, maps, wideKeys, modest, calm, conditions, laid).
  DERIVED. THE GIVEN ROWS OF THIS SEAT. 6 by the template 'for every input the law returns true; each argument reads behind the call as it read before'; 0 by the template 'total and deterministic' (their statements: YtcbmephbeckkiaaTotals.lean).
  GIVEN WITH THE SEED: the statements are not yours to turn. If you find one false, say at which input.
  Laid BY PROGRAM, IN A SANDBOX (cutbox-rows.mjs): the forced cells as the released guide's own fill.sh prints them over the translation 5a3543cb0af780a8… (all of the seat's roots in one cut). By AI agents, Wed Nov 11 2026. No macro, syntax, notation, axiom, sorry.
-/
import Derived.Test.YtcbmephbeckkiaaChecked
import GoSem.Claim
import GoSem.ClaimJoined
import GoSem.ClaimMapViews
import Derived.JoinedTies
import Derived.KernelRfl
namespace Go.Proofs.Ytcbmephbeckkiaa
/- THE CELL 'sum', in the pinned program and in every row, IS THE sha256 OF THE DUMP (.gsa) THAT YtcbmephbeckkiaaProg.lean LOADS. Nothing in Lean hashes anything: it is a label: what it is worth is what the hold of that sum in a sandbox is worth. -/
noncomputable def Try.pinned : Pinned := { name := "ytcbmephbeckkiaa", sum := "5a3543cb0af780a89ac6ab62f4396b57aa35a06863b32850891122bb2947e58f", checked := Try.checked }
namespace Rows
def none {H : Type} : Left H := { results := [], args := [] }

/-- 'laws.FnExactAreActuals': WHATEVER THE INPUT: true; the input reads as it did. -/
def fnExactAreActualsSpec : ChangeSpec := { name := "fnExactAreActuals", fn := fun _ => fun
  | [d1, d2] => { results := [.lit (.bool true)], args := [d1, d2] }
  | _ => none }
def fnExactAreActualsRow : OpenClaim := { program := "ytcbmephbeckkiaa", sum := "5a3543cb0af780a89ac6ab62f4396b57aa35a06863b32850891122bb2947e58f", func := "loop.example/g03407/laws.FnExactAreActuals", spec := "fnExactAreActuals", apart := false }
def FnExactAreActualsSaid : Prop := fnExactAreActualsRow.holds Try.pinned (OpenSpec.ofChange fnExactAreActualsSpec)

/-- ITS FALSE NEIGHBOUR: 'it returns false'. Refute it at one input. -/
def fnExactAreActualsWrong : ChangeSpec := { name := "fnExactAreActuals", fn := fun _ => fun
  | [d1, d2] => { results := [.lit (.bool false)], args := [d1, d2] }
  | _ => none }
def FnExactAreActualsWrongFalsely : Prop := fnExactAreActualsRow.holds Try.pinned (OpenSpec.ofChange fnExactAreActualsWrong)

/-- 'laws.FnExactIsPool': WHATEVER THE INPUT: true; the input reads as it did. -/
def fnExactIsPoolSpec : ChangeSpec := { name := "fnExactIsPool", fn := fun _ => fun
  | [d] => { results := [.lit (.bool true)], args := [d] }
  | _ => none }
def fnExactIsPoolRow : OpenClaim := { program := "ytcbmephbeckkiaa", sum := "5a3543cb0af780a89ac6ab62f4396b57aa35a06863b32850891122bb2947e58f", func := "loop.example/g03407/laws.FnExactIsPool", spec := "fnExactIsPool", apart := false }
def FnExactIsPoolSaid : Prop := fnExactIsPoolRow.holds Try.pinned (OpenSpec.ofChange fnExactIsPoolSpec)

/-- ITS FALSE NEIGHBOUR: 'it returns false'. Refute it at one input. -/
def fnExactIsPoolWrong : ChangeSpec := { name := "fnExactIsPool", fn := fun _ => fun
  | [d] => { results := [.lit (.bool false)], args := [d] }
  | _ => none }
def FnExactIsPoolWrongFalsely : Prop := fnExactIsPoolRow.holds Try.pinned (OpenSpec.ofChange fnExactIsPoolWrong)

/-- 'laws.FnExactPriceVariance': WHATEVER THE INPUT: true; the input reads as it did. -/
def fnExactPriceVarianceSpec : ChangeSpec := { name := "fnExactPriceVariance", fn := fun _ => fun
  | [d1, d2, d3] => { results := [.lit (.bool true)], args := [d1, d2, d3] }
  | _ => none }
def fnExactPriceVarianceRow : OpenClaim := { program := "ytcbmephbeckkiaa", sum := "5a3543cb0af780a89ac6ab62f4396b57aa35a06863b32850891122bb2947e58f", func := "loop.example/g03407/laws.FnExactPriceVariance", spec := "fnExactPriceVariance", apart := false }
def FnExactPriceVarianceSaid : Prop := fnExactPriceVarianceRow.holds Try.pinned (OpenSpec.ofChange fnExactPriceVarianceSpec)

/-- ITS FALSE NEIGHBOUR: 'it returns false'. Refute it at one input. -/
def fnExactPriceVarianceWrong : ChangeSpec := { name := "fnExactPriceVariance", fn := fun _ => fun
  | [d1, d2, d3] => { results := [.lit (.bool false)], args := [d1, d2, d3] }
  | _ => none }
def FnExactPriceVarianceWrongFalsely : Prop := fnExactPriceVarianceRow.holds Try.pinned (OpenSpec.ofChange fnExactPriceVarianceWrong)

/-- 'laws.FnExactUsageVariance': WHATEVER THE INPUT: true; the input reads as it did. -/
def fnExactUsageVarianceSpec : ChangeSpec := { name := "fnExactUsageVariance", fn := fun _ => fun
  | [d1, d2, d3] => { results := [.lit (.bool true)], args := [d1, d2, d3] }
  | _ => none }
def fnExactUsageVarianceRow : OpenClaim := { program := "ytcbmephbeckkiaa", sum := "5a3543cb0af780a89ac6ab62f4396b57aa35a06863b32850891122bb2947e58f", func := "loop.example/g03407/laws.FnExactUsageVariance", spec := "fnExactUsageVariance", apart := false }
def FnExactUsageVarianceSaid : Prop := fnExactUsageVarianceRow.holds Try.pinned (OpenSpec.ofChange fnExactUsageVarianceSpec)

/-- ITS FALSE NEIGHBOUR: 'it returns false'. Refute it at one input. -/
def fnExactUsageVarianceWrong : ChangeSpec := { name := "fnExactUsageVariance", fn := fun _ => fun
  | [d1, d2, d3] => { results := [.lit (.bool false)], args := [d1, d2, d3] }
  | _ => none }
def FnExactUsageVarianceWrongFalsely : Prop := fnExactUsageVarianceRow.holds Try.pinned (OpenSpec.ofChange fnExactUsageVarianceWrong)

/-- 'laws.FnExactTakeFromPool': WHATEVER THE INPUT: true; the input reads as it did. -/
def fnExactTakeFromPoolSpec : ChangeSpec := { name := "fnExactTakeFromPool", fn := fun _ => fun
  | [d1, d2] => { results := [.lit (.bool true)], args := [d1, d2] }
  | _ => none }
def fnExactTakeFromPoolRow : OpenClaim := { program := "ytcbmephbeckkiaa", sum := "5a3543cb0af780a89ac6ab62f4396b57aa35a06863b32850891122bb2947e58f", func := "loop.example/g03407/laws.FnExactTakeFromPool", spec := "fnExactTakeFromPool", apart := false }
def FnExactTakeFromPoolSaid : Prop := fnExactTakeFromPoolRow.holds Try.pinned (OpenSpec.ofChange fnExactTakeFromPoolSpec)

/-- ITS FALSE NEIGHBOUR: 'it returns false'. Refute it at one input. -/
def fnExactTakeFromPoolWrong : ChangeSpec := { name := "fnExactTakeFromPool", fn := fun _ => fun
  | [d1, d2] => { results := [.lit (.bool false)], args := [d1, d2] }
  | _ => none }
def FnExactTakeFromPoolWrongFalsely : Prop := fnExactTakeFromPoolRow.holds Try.pinned (OpenSpec.ofChange fnExactTakeFromPoolWrong)

/-- 'laws.FnExactAddToPool': WHATEVER THE INPUT: true; the input reads as it did. -/
def fnExactAddToPoolSpec : ChangeSpec := { name := "fnExactAddToPool", fn := fun _ => fun
  | [d1, d2, d3] => { results := [.lit (.bool true)], args := [d1, d2, d3] }
  | _ => none }
def fnExactAddToPoolRow : OpenClaim := { program := "ytcbmephbeckkiaa", sum := "5a3543cb0af780a89ac6ab62f4396b57aa35a06863b32850891122bb2947e58f", func := "loop.example/g03407/laws.FnExactAddToPool", spec := "fnExactAddToPool", apart := false }
def FnExactAddToPoolSaid : Prop := fnExactAddToPoolRow.holds Try.pinned (OpenSpec.ofChange fnExactAddToPoolSpec)

/-- ITS FALSE NEIGHBOUR: 'it returns false'. Refute it at one input. -/
def fnExactAddToPoolWrong : ChangeSpec := { name := "fnExactAddToPool", fn := fun _ => fun
  | [d1, d2, d3] => { results := [.lit (.bool false)], args := [d1, d2, d3] }
  | _ => none }
def FnExactAddToPoolWrongFalsely : Prop := fnExactAddToPoolRow.holds Try.pinned (OpenSpec.ofChange fnExactAddToPoolWrong)

/- THE SECOND FORM. 'bulk': how many values and letters a reading holds, each counted each time it is reached (what is shared counts as often as it is met; a slice's spare places count too). A statement '..UptoSaid' is the law's where the arguments, and the package variables that the reading takes, are together of bulk at most 1048576: NARROWER than '..Said'. Prove '..Said' where nothing that the law and all that it calls make is longer than what came in: it says more and counts as full. Else prove '..UptoSaid'. A law counts once. -/
mutual
def uptoBulk {H : Type} : DataW H → Nat
  | .lit (.string bytes) => bytes.length + 1
  | .lit _ => 1
  | .nil => 1
  | .ptr d => uptoBulk d + 1
  | .slice elems spare => uptoBulkAll elems + uptoBulkAll spare + 1
  | .agg parts => uptoBulkAll parts + 1
  | .iface _ d => uptoBulk d + 1
  | .map entries => uptoBulkEntries entries + 1
  | .held _ => 1
def uptoBulkAll {H : Type} : List (DataW H) → Nat
  | [] => 0
  | d :: r => uptoBulk d + uptoBulkAll r
def uptoBulkEntries {H : Type} : List (Lit × DataW H) → Nat
  | [] => 0
  | x :: r => uptoBulkEntry x + uptoBulkEntries r
def uptoBulkEntry {H : Type} : Lit × DataW H → Nat
  | (.string bytes, d) => bytes.length + uptoBulk d + 1
  | (_, d) => uptoBulk d + 1
 end
def uptoSmall : (H : Type) → List (DataW H) → Bool := fun _ ds => decide (uptoBulkAll ds ≤ 1048576)
def OpenSpec.upto (s : _root_.Go.ChangeSpec) : _root_.Go.OpenSpec := { _root_.Go.OpenSpec.ofChange s with cond := some uptoSmall }

/-- 'laws.FnExactAreActuals', WHERE WHAT IT READS IS OF BULK AT MOST 1048576: true; the input reads as it did. -/
def fnExactAreActualsUptoRow : OpenClaim := { program := "ytcbmephbeckkiaa", sum := "5a3543cb0af780a89ac6ab62f4396b57aa35a06863b32850891122bb2947e58f", func := "loop.example/g03407/laws.FnExactAreActuals", spec := "fnExactAreActuals", apart := false, narrowed := true }
def FnExactAreActualsUptoSaid : Prop := fnExactAreActualsUptoRow.holds Try.pinned (OpenSpec.upto fnExactAreActualsSpec)

/-- 'laws.FnExactIsPool', WHERE WHAT IT READS IS OF BULK AT MOST 1048576: true; the input reads as it did. -/
def fnExactIsPoolUptoRow : OpenClaim := { program := "ytcbmephbeckkiaa", sum := "5a3543cb0af780a89ac6ab62f4396b57aa35a06863b32850891122bb2947e58f", func := "loop.example/g03407/laws.FnExactIsPool", spec := "fnExactIsPool", apart := false, narrowed := true }
def FnExactIsPoolUptoSaid : Prop := fnExactIsPoolUptoRow.holds Try.pinned (OpenSpec.upto fnExactIsPoolSpec)

/-- 'laws.FnExactPriceVariance', WHERE WHAT IT READS IS OF BULK AT MOST 1048576: true; the input reads as it did. -/
def fnExactPriceVarianceUptoRow : OpenClaim := { program := "ytcbmephbeckkiaa", sum := "5a3543cb0af780a89ac6ab62f4396b57aa35a06863b32850891122bb2947e58f", func := "loop.example/g03407/laws.FnExactPriceVariance", spec := "fnExactPriceVariance", apart := false, narrowed := true }
def FnExactPriceVarianceUptoSaid : Prop := fnExactPriceVarianceUptoRow.holds Try.pinned (OpenSpec.upto fnExactPriceVarianceSpec)

/-- 'laws.FnExactUsageVariance', WHERE WHAT IT READS IS OF BULK AT MOST 1048576: true; the input reads as it did. -/
def fnExactUsageVarianceUptoRow : OpenClaim := { program := "ytcbmephbeckkiaa", sum := "5a3543cb0af780a89ac6ab62f4396b57aa35a06863b32850891122bb2947e58f", func := "loop.example/g03407/laws.FnExactUsageVariance", spec := "fnExactUsageVariance", apart := false, narrowed := true }
def FnExactUsageVarianceUptoSaid : Prop := fnExactUsageVarianceUptoRow.holds Try.pinned (OpenSpec.upto fnExactUsageVarianceSpec)

/-- 'laws.FnExactTakeFromPool', WHERE WHAT IT READS IS OF BULK AT MOST 1048576: true; the input reads as it did. -/
def fnExactTakeFromPoolUptoRow : OpenClaim := { program := "ytcbmephbeckkiaa", sum := "5a3543cb0af780a89ac6ab62f4396b57aa35a06863b32850891122bb2947e58f", func := "loop.example/g03407/laws.FnExactTakeFromPool", spec := "fnExactTakeFromPool", apart := false, narrowed := true }
def FnExactTakeFromPoolUptoSaid : Prop := fnExactTakeFromPoolUptoRow.holds Try.pinned (OpenSpec.upto fnExactTakeFromPoolSpec)

/-- 'laws.FnExactAddToPool', WHERE WHAT IT READS IS OF BULK AT MOST 1048576: true; the input reads as it did. -/
def fnExactAddToPoolUptoRow : OpenClaim := { program := "ytcbmephbeckkiaa", sum := "5a3543cb0af780a89ac6ab62f4396b57aa35a06863b32850891122bb2947e58f", func := "loop.example/g03407/laws.FnExactAddToPool", spec := "fnExactAddToPool", apart := false, narrowed := true }
def FnExactAddToPoolUptoSaid : Prop := fnExactAddToPoolUptoRow.holds Try.pinned (OpenSpec.upto fnExactAddToPoolSpec)

end Rows
end Go.Proofs.Ytcbmephbeckkiaa
