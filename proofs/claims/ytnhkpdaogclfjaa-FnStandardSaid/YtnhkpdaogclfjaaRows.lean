/-
  No cell of these rows narrows 'for every input' (looked for: loops, veiled, ifaces, maps, wideKeys, modest, calm, conditions, laid).
  DERIVED. THE GIVEN ROWS OF THIS SEAT. 3 by the template 'for every input the law returns true; each argument reads behind the call as it read before'; 0 by the template 'total and deterministic' (their statements: YtnhkpdaogclfjaaTotals.lean).
  GIVEN WITH THE SEED: the statements are not yours to turn. If you find one false, say at which input.
  Laid BY PROGRAM, IN A SANDBOX (cutbox-rows.mjs): the forced cells as the released guide's own fill.sh prints them over the translation 06da543a43085ce0… (all of the seat's roots in one cut). By AI agents, Wed Nov 11 2026. No macro, syntax, notation, axiom, sorry.
-/
import Derived.Test.YtnhkpdaogclfjaaChecked
import GoSem.Claim
import GoSem.ClaimJoined
import GoSem.ClaimMapViews
import Derived.JoinedTies
import Derived.KernelRfl
namespace Go.Proofs.Ytnhkpdaogclfjaa
/- THE CELL 'sum', in the pinned program and in every row, IS THE sha256 OF THE DUMP (.gsa) THAT YtnhkpdaogclfjaaProg.lean LOADS. Nothing in Lean hashes anything: it is a label: what it is worth is what the hold of that sum in a sandbox is worth. -/
noncomputable def Try.pinned : Pinned := { name := "ytnhkpdaogclfjaa", sum := "06da543a43085ce0ecb3580e289752afa9de2cad2a57453ab0a8b05f743f9433", checked := Try.checked }
namespace Rows
def none {H : Type} : Left H := { results := [], args := [] }

/-- 'laws.FnExactArePrices': WHATEVER THE INPUT: true; the input reads as it did. -/
def fnExactArePricesSpec : ChangeSpec := { name := "fnExactArePrices", fn := fun _ => fun
  | [d1, d2] => { results := [.lit (.bool true)], args := [d1, d2] }
  | _ => none }
def fnExactArePricesRow : OpenClaim := { program := "ytnhkpdaogclfjaa", sum := "06da543a43085ce0ecb3580e289752afa9de2cad2a57453ab0a8b05f743f9433", func := "loop.example/g03407/laws.FnExactArePrices", spec := "fnExactArePrices", apart := false }
def FnExactArePricesSaid : Prop := fnExactArePricesRow.holds Try.pinned (OpenSpec.ofChange fnExactArePricesSpec)

/-- ITS FALSE NEIGHBOUR: 'it returns false'. Refute it at one input. -/
def fnExactArePricesWrong : ChangeSpec := { name := "fnExactArePrices", fn := fun _ => fun
  | [d1, d2] => { results := [.lit (.bool false)], args := [d1, d2] }
  | _ => none }
def FnExactArePricesWrongFalsely : Prop := fnExactArePricesRow.holds Try.pinned (OpenSpec.ofChange fnExactArePricesWrong)

/-- 'laws.FnExactStandardCost': WHATEVER THE INPUT: true; the input reads as it did. -/
def fnExactStandardCostSpec : ChangeSpec := { name := "fnExactStandardCost", fn := fun _ => fun
  | [d1, d2, d3, d4, d5, d6] => { results := [.lit (.bool true)], args := [d1, d2, d3, d4, d5, d6] }
  | _ => none }
def fnExactStandardCostRow : OpenClaim := { program := "ytnhkpdaogclfjaa", sum := "06da543a43085ce0ecb3580e289752afa9de2cad2a57453ab0a8b05f743f9433", func := "loop.example/g03407/laws.FnExactStandardCost", spec := "fnExactStandardCost", recurses := true, apart := false }
def FnExactStandardCostSaid : Prop := fnExactStandardCostRow.holds Try.pinned (OpenSpec.ofChange fnExactStandardCostSpec)

/-- ITS FALSE NEIGHBOUR: 'it returns false'. Refute it at one input. -/
def fnExactStandardCostWrong : ChangeSpec := { name := "fnExactStandardCost", fn := fun _ => fun
  | [d1, d2, d3, d4, d5, d6] => { results := [.lit (.bool false)], args := [d1, d2, d3, d4, d5, d6] }
  | _ => none }
def FnExactStandardCostWrongFalsely : Prop := fnExactStandardCostRow.holds Try.pinned (OpenSpec.ofChange fnExactStandardCostWrong)

/-- 'laws.FnStandard': WHATEVER THE INPUT: true; the input reads as it did. -/
def fnStandardSpec : ChangeSpec := { name := "fnStandard", fn := fun _ => fun
  | [d] => { results := [.lit (.bool true)], args := [d] }
  | _ => none }
def fnStandardRow : OpenClaim := { program := "ytnhkpdaogclfjaa", sum := "06da543a43085ce0ecb3580e289752afa9de2cad2a57453ab0a8b05f743f9433", func := "loop.example/g03407/laws.FnStandard", spec := "fnStandard", unfollowed := true, recurses := true, apart := false }
def FnStandardSaid : Prop := fnStandardRow.holds Try.pinned (OpenSpec.ofChange fnStandardSpec)

/-- ITS FALSE NEIGHBOUR: 'it returns false'. Refute it at one input. -/
def fnStandardWrong : ChangeSpec := { name := "fnStandard", fn := fun _ => fun
  | [d] => { results := [.lit (.bool false)], args := [d] }
  | _ => none }
def FnStandardWrongFalsely : Prop := fnStandardRow.holds Try.pinned (OpenSpec.ofChange fnStandardWrong)

/- THE SECOND FORM. 'bulk': how many values and letters a reading holds, each counted each time it is reached (what is shared counts as often as it is met; a slice's spare places count too). A statement '..UptoSaid' is the law's where the arguments, and the package variables that the reading takes, are together of bulk at most 1048576: NARROWER than '..Said'. Prove '..Said' where nothing that the law and all that it calls make is longer than what came in: it says more and counts as full. Else prove '..UptoSaid'. A law counts once. -/
mutual
def uptoBulk {H : Type} : DataW H → Nat
  | .lit (.string bytes) => bytes.length + 1
  | .lit _ => 1
  | .nil => 1
  | .ptr d => uptoBulk d + 1
  | .slice elems spare => uptoBulkAll elems + uptoBulkAll spare + 1
  | .agg parts => uptoBulkAll parts + 1
  | .iface _ d => uptoBulk d + 1
  | .map entries => uptoBulkEntries entries + 1
  | .held _ => 1
def uptoBulkAll {H : Type} : List (DataW H) → Nat
  | [] => 0
  | d :: r => uptoBulk d + uptoBulkAll r
def uptoBulkEntries {H : Type} : List (Lit × DataW H) → Nat
  | [] => 0
  | x :: r => uptoBulkEntry x + uptoBulkEntries r
def uptoBulkEntry {H : Type} : Lit × DataW H → Nat
  | (.string bytes, d) => bytes.length + uptoBulk d + 1
  | (_, d) => uptoBulk d + 1
 end
def uptoSmall : (H : Type) → List (DataW H) → Bool := fun _ ds => decide (uptoBulkAll ds ≤ 1048576)
def OpenSpec.upto (s : _root_.Go.ChangeSpec) : _root_.Go.OpenSpec := { _root_.Go.OpenSpec.ofChange s with cond := some uptoSmall }

/-- 'laws.FnExactArePrices', WHERE WHAT IT READS IS OF BULK AT MOST 1048576: true; the input reads as it did. -/
def fnExactArePricesUptoRow : OpenClaim := { program := "ytnhkpdaogclfjaa", sum := "06da543a43085ce0ecb3580e289752afa9de2cad2a57453ab0a8b05f743f9433", func := "loop.example/g03407/laws.FnExactArePrices", spec := "fnExactArePrices", apart := false, narrowed := true }
def FnExactArePricesUptoSaid : Prop := fnExactArePricesUptoRow.holds Try.pinned (OpenSpec.upto fnExactArePricesSpec)

/-- 'laws.FnExactStandardCost', WHERE WHAT IT READS IS OF BULK AT MOST 1048576: true; the input reads as it did. -/
def fnExactStandardCostUptoRow : OpenClaim := { program := "ytnhkpdaogclfjaa", sum := "06da543a43085ce0ecb3580e289752afa9de2cad2a57453ab0a8b05f743f9433", func := "loop.example/g03407/laws.FnExactStandardCost", spec := "fnExactStandardCost", recurses := true, apart := false, narrowed := true }
def FnExactStandardCostUptoSaid : Prop := fnExactStandardCostUptoRow.holds Try.pinned (OpenSpec.upto fnExactStandardCostSpec)

/-- 'laws.FnStandard', WHERE WHAT IT READS IS OF BULK AT MOST 1048576: true; the input reads as it did. -/
def fnStandardUptoRow : OpenClaim := { program := "ytnhkpdaogclfjaa", sum := "06da543a43085ce0ecb3580e289752afa9de2cad2a57453ab0a8b05f743f9433", func := "loop.example/g03407/laws.FnStandard", spec := "fnStandard", unfollowed := true, recurses := true, apart := false, narrowed := true }
def FnStandardUptoSaid : Prop := fnStandardUptoRow.holds Try.pinned (OpenSpec.upto fnStandardSpec)

end Rows
end Go.Proofs.Ytnhkpdaogclfjaa
