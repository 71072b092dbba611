/-
  No cell of these rows narrows 'for every input' (looked for: loops, veiled, ifaces, maps, wideKeys, modest, calm, conditions, laid).
  DERIVED. THE GIVEN ROWS OF THIS SEAT. 8 by the template 'for every input the law returns true; each argument reads behind the call as it read before'; 0 by the template 'total and deterministic' (their statements: YtijnkofnpoapnaaTotals.lean).
  GIVEN WITH THE SEED: the statements are not yours to turn. If you find one false, say at which input.
  Laid BY PROGRAM, IN A SANDBOX (cutbox-rows.mjs): the forced cells as the released guide's own fill.sh prints them over the translation 8fd11286c6379e6a… (all of the seat's roots in one cut). By AI agents, Wed Nov 11 2026. No macro, syntax, notation, axiom, sorry.
-/
import Derived.Test.YtijnkofnpoapnaaChecked
import GoSem.Claim
import GoSem.ClaimJoined
import GoSem.ClaimMapViews
import Derived.JoinedTies
import Derived.KernelRfl
namespace Go.Proofs.Ytijnkofnpoapnaa
/- THE CELL 'sum', in the pinned program and in every row, IS THE sha256 OF THE DUMP (.gsa) THAT YtijnkofnpoapnaaProg.lean LOADS. Nothing in Lean hashes anything: it is a label: what it is worth is what the hold of that sum in a sandbox is worth. -/
noncomputable def Try.pinned : Pinned := { name := "ytijnkofnpoapnaa", sum := "8fd11286c6379e6a1afaa5cfc729eaa7152cb5597a48154f7328652fd86c0f0b", checked := Try.checked }
namespace Rows
def none {H : Type} : Left H := { results := [], args := [] }

/-- 'laws.FnExactPoolPrice': WHATEVER THE INPUT: true; the input reads as it did. -/
def fnExactPoolPriceSpec : ChangeSpec := { name := "fnExactPoolPrice", fn := fun _ => fun
  | [d] => { results := [.lit (.bool true)], args := [d] }
  | _ => none }
def fnExactPoolPriceRow : OpenClaim := { program := "ytijnkofnpoapnaa", sum := "8fd11286c6379e6a1afaa5cfc729eaa7152cb5597a48154f7328652fd86c0f0b", func := "loop.example/g03407/laws.FnExactPoolPrice", spec := "fnExactPoolPrice", apart := false }
def FnExactPoolPriceSaid : Prop := fnExactPoolPriceRow.holds Try.pinned (OpenSpec.ofChange fnExactPoolPriceSpec)

/-- ITS FALSE NEIGHBOUR: 'it returns false'. Refute it at one input. -/
def fnExactPoolPriceWrong : ChangeSpec := { name := "fnExactPoolPrice", fn := fun _ => fun
  | [d] => { results := [.lit (.bool false)], args := [d] }
  | _ => none }
def FnExactPoolPriceWrongFalsely : Prop := fnExactPoolPriceRow.holds Try.pinned (OpenSpec.ofChange fnExactPoolPriceWrong)

/-- 'laws.FnExactSplitPool': WHATEVER THE INPUT: true; the input reads as it did. -/
def fnExactSplitPoolSpec : ChangeSpec := { name := "fnExactSplitPool", fn := fun _ => fun
  | [d1, d2] => { results := [.lit (.bool true)], args := [d1, d2] }
  | _ => none }
def fnExactSplitPoolRow : OpenClaim := { program := "ytijnkofnpoapnaa", sum := "8fd11286c6379e6a1afaa5cfc729eaa7152cb5597a48154f7328652fd86c0f0b", func := "loop.example/g03407/laws.FnExactSplitPool", spec := "fnExactSplitPool", apart := false }
def FnExactSplitPoolSaid : Prop := fnExactSplitPoolRow.holds Try.pinned (OpenSpec.ofChange fnExactSplitPoolSpec)

/-- ITS FALSE NEIGHBOUR: 'it returns false'. Refute it at one input. -/
def fnExactSplitPoolWrong : ChangeSpec := { name := "fnExactSplitPool", fn := fun _ => fun
  | [d1, d2] => { results := [.lit (.bool false)], args := [d1, d2] }
  | _ => none }
def FnExactSplitPoolWrongFalsely : Prop := fnExactSplitPoolRow.holds Try.pinned (OpenSpec.ofChange fnExactSplitPoolWrong)

/-- 'laws.FnExactPriceIn': WHATEVER THE INPUT: true; the input reads as it did. -/
def fnExactPriceInSpec : ChangeSpec := { name := "fnExactPriceIn", fn := fun _ => fun
  | [d1, d2] => { results := [.lit (.bool true)], args := [d1, d2] }
  | _ => none }
def fnExactPriceInRow : OpenClaim := { program := "ytijnkofnpoapnaa", sum := "8fd11286c6379e6a1afaa5cfc729eaa7152cb5597a48154f7328652fd86c0f0b", func := "loop.example/g03407/laws.FnExactPriceIn", spec := "fnExactPriceIn", apart := false }
def FnExactPriceInSaid : Prop := fnExactPriceInRow.holds Try.pinned (OpenSpec.ofChange fnExactPriceInSpec)

/-- ITS FALSE NEIGHBOUR: 'it returns false'. Refute it at one input. -/
def fnExactPriceInWrong : ChangeSpec := { name := "fnExactPriceIn", fn := fun _ => fun
  | [d1, d2] => { results := [.lit (.bool false)], args := [d1, d2] }
  | _ => none }
def FnExactPriceInWrongFalsely : Prop := fnExactPriceInRow.holds Try.pinned (OpenSpec.ofChange fnExactPriceInWrong)

/-- 'laws.FnVariances': WHATEVER THE INPUT: true; the input reads as it did. -/
def fnVariancesSpec : ChangeSpec := { name := "fnVariances", fn := fun _ => fun
  | [d] => { results := [.lit (.bool true)], args := [d] }
  | _ => none }
def fnVariancesRow : OpenClaim := { program := "ytijnkofnpoapnaa", sum := "8fd11286c6379e6a1afaa5cfc729eaa7152cb5597a48154f7328652fd86c0f0b", func := "loop.example/g03407/laws.FnVariances", spec := "fnVariances", apart := false }
def FnVariancesSaid : Prop := fnVariancesRow.holds Try.pinned (OpenSpec.ofChange fnVariancesSpec)

/-- ITS FALSE NEIGHBOUR: 'it returns false'. Refute it at one input. -/
def fnVariancesWrong : ChangeSpec := { name := "fnVariances", fn := fun _ => fun
  | [d] => { results := [.lit (.bool false)], args := [d] }
  | _ => none }
def FnVariancesWrongFalsely : Prop := fnVariancesRow.holds Try.pinned (OpenSpec.ofChange fnVariancesWrong)

/-- 'laws.FnSplits': WHATEVER THE INPUT: true; the input reads as it did. -/
def fnSplitsSpec : ChangeSpec := { name := "fnSplits", fn := fun _ => fun
  | [d] => { results := [.lit (.bool true)], args := [d] }
  | _ => none }
def fnSplitsRow : OpenClaim := { program := "ytijnkofnpoapnaa", sum := "8fd11286c6379e6a1afaa5cfc729eaa7152cb5597a48154f7328652fd86c0f0b", func := "loop.example/g03407/laws.FnSplits", spec := "fnSplits", apart := false }
def FnSplitsSaid : Prop := fnSplitsRow.holds Try.pinned (OpenSpec.ofChange fnSplitsSpec)

/-- ITS FALSE NEIGHBOUR: 'it returns false'. Refute it at one input. -/
def fnSplitsWrong : ChangeSpec := { name := "fnSplits", fn := fun _ => fun
  | [d] => { results := [.lit (.bool false)], args := [d] }
  | _ => none }
def FnSplitsWrongFalsely : Prop := fnSplitsRow.holds Try.pinned (OpenSpec.ofChange fnSplitsWrong)

/-- 'laws.FnPools': WHATEVER THE INPUT: true; the input reads as it did. -/
def fnPoolsSpec : ChangeSpec := { name := "fnPools", fn := fun _ => fun
  | [d] => { results := [.lit (.bool true)], args := [d] }
  | _ => none }
def fnPoolsRow : OpenClaim := { program := "ytijnkofnpoapnaa", sum := "8fd11286c6379e6a1afaa5cfc729eaa7152cb5597a48154f7328652fd86c0f0b", func := "loop.example/g03407/laws.FnPools", spec := "fnPools", apart := false }
def FnPoolsSaid : Prop := fnPoolsRow.holds Try.pinned (OpenSpec.ofChange fnPoolsSpec)

/-- ITS FALSE NEIGHBOUR: 'it returns false'. Refute it at one input. -/
def fnPoolsWrong : ChangeSpec := { name := "fnPools", fn := fun _ => fun
  | [d] => { results := [.lit (.bool false)], args := [d] }
  | _ => none }
def FnPoolsWrongFalsely : Prop := fnPoolsRow.holds Try.pinned (OpenSpec.ofChange fnPoolsWrong)

/-- 'laws.FnExactIsEvent': WHATEVER THE INPUT: true; the input reads as it did. -/
def fnExactIsEventSpec : ChangeSpec := { name := "fnExactIsEvent", fn := fun _ => fun
  | [d] => { results := [.lit (.bool true)], args := [d] }
  | _ => none }
def fnExactIsEventRow : OpenClaim := { program := "ytijnkofnpoapnaa", sum := "8fd11286c6379e6a1afaa5cfc729eaa7152cb5597a48154f7328652fd86c0f0b", func := "loop.example/g03407/laws.FnExactIsEvent", spec := "fnExactIsEvent", apart := false }
def FnExactIsEventSaid : Prop := fnExactIsEventRow.holds Try.pinned (OpenSpec.ofChange fnExactIsEventSpec)

/-- ITS FALSE NEIGHBOUR: 'it returns false'. Refute it at one input. -/
def fnExactIsEventWrong : ChangeSpec := { name := "fnExactIsEvent", fn := fun _ => fun
  | [d] => { results := [.lit (.bool false)], args := [d] }
  | _ => none }
def FnExactIsEventWrongFalsely : Prop := fnExactIsEventRow.holds Try.pinned (OpenSpec.ofChange fnExactIsEventWrong)

/-- 'laws.FnExactDropEvent': WHATEVER THE INPUT: true; the input reads as it did. -/
def fnExactDropEventSpec : ChangeSpec := { name := "fnExactDropEvent", fn := fun _ => fun
  | [d1, d2] => { results := [.lit (.bool true)], args := [d1, d2] }
  | _ => none }
def fnExactDropEventRow : OpenClaim := { program := "ytijnkofnpoapnaa", sum := "8fd11286c6379e6a1afaa5cfc729eaa7152cb5597a48154f7328652fd86c0f0b", func := "loop.example/g03407/laws.FnExactDropEvent", spec := "fnExactDropEvent", apart := false }
def FnExactDropEventSaid : Prop := fnExactDropEventRow.holds Try.pinned (OpenSpec.ofChange fnExactDropEventSpec)

/-- ITS FALSE NEIGHBOUR: 'it returns false'. Refute it at one input. -/
def fnExactDropEventWrong : ChangeSpec := { name := "fnExactDropEvent", fn := fun _ => fun
  | [d1, d2] => { results := [.lit (.bool false)], args := [d1, d2] }
  | _ => none }
def FnExactDropEventWrongFalsely : Prop := fnExactDropEventRow.holds Try.pinned (OpenSpec.ofChange fnExactDropEventWrong)

/- THE SECOND FORM. 'bulk': how many values and letters a reading holds, each counted each time it is reached (what is shared counts as often as it is met; a slice's spare places count too). A statement '..UptoSaid' is the law's where the arguments, and the package variables that the reading takes, are together of bulk at most 1048576: NARROWER than '..Said'. Prove '..Said' where nothing that the law and all that it calls make is longer than what came in: it says more and counts as full. Else prove '..UptoSaid'. A law counts once. -/
mutual
def uptoBulk {H : Type} : DataW H → Nat
  | .lit (.string bytes) => bytes.length + 1
  | .lit _ => 1
  | .nil => 1
  | .ptr d => uptoBulk d + 1
  | .slice elems spare => uptoBulkAll elems + uptoBulkAll spare + 1
  | .agg parts => uptoBulkAll parts + 1
  | .iface _ d => uptoBulk d + 1
  | .map entries => uptoBulkEntries entries + 1
  | .held _ => 1
def uptoBulkAll {H : Type} : List (DataW H) → Nat
  | [] => 0
  | d :: r => uptoBulk d + uptoBulkAll r
def uptoBulkEntries {H : Type} : List (Lit × DataW H) → Nat
  | [] => 0
  | x :: r => uptoBulkEntry x + uptoBulkEntries r
def uptoBulkEntry {H : Type} : Lit × DataW H → Nat
  | (.string bytes, d) => bytes.length + uptoBulk d + 1
  | (_, d) => uptoBulk d + 1
 end
def uptoSmall : (H : Type) → List (DataW H) → Bool := fun _ ds => decide (uptoBulkAll ds ≤ 1048576)
def OpenSpec.upto (s : _root_.Go.ChangeSpec) : _root_.Go.OpenSpec := { _root_.Go.OpenSpec.ofChange s with cond := some uptoSmall }

/-- 'laws.FnExactPoolPrice', WHERE WHAT IT READS IS OF BULK AT MOST 1048576: true; the input reads as it did. -/
def fnExactPoolPriceUptoRow : OpenClaim := { program := "ytijnkofnpoapnaa", sum := "8fd11286c6379e6a1afaa5cfc729eaa7152cb5597a48154f7328652fd86c0f0b", func := "loop.example/g03407/laws.FnExactPoolPrice", spec := "fnExactPoolPrice", apart := false, narrowed := true }
def FnExactPoolPriceUptoSaid : Prop := fnExactPoolPriceUptoRow.holds Try.pinned (OpenSpec.upto fnExactPoolPriceSpec)

/-- 'laws.FnExactSplitPool', WHERE WHAT IT READS IS OF BULK AT MOST 1048576: true; the input reads as it did. -/
def fnExactSplitPoolUptoRow : OpenClaim := { program := "ytijnkofnpoapnaa", sum := "8fd11286c6379e6a1afaa5cfc729eaa7152cb5597a48154f7328652fd86c0f0b", func := "loop.example/g03407/laws.FnExactSplitPool", spec := "fnExactSplitPool", apart := false, narrowed := true }
def FnExactSplitPoolUptoSaid : Prop := fnExactSplitPoolUptoRow.holds Try.pinned (OpenSpec.upto fnExactSplitPoolSpec)

/-- 'laws.FnExactPriceIn', WHERE WHAT IT READS IS OF BULK AT MOST 1048576: true; the input reads as it did. -/
def fnExactPriceInUptoRow : OpenClaim := { program := "ytijnkofnpoapnaa", sum := "8fd11286c6379e6a1afaa5cfc729eaa7152cb5597a48154f7328652fd86c0f0b", func := "loop.example/g03407/laws.FnExactPriceIn", spec := "fnExactPriceIn", apart := false, narrowed := true }
def FnExactPriceInUptoSaid : Prop := fnExactPriceInUptoRow.holds Try.pinned (OpenSpec.upto fnExactPriceInSpec)

/-- 'laws.FnVariances', WHERE WHAT IT READS IS OF BULK AT MOST 1048576: true; the input reads as it did. -/
def fnVariancesUptoRow : OpenClaim := { program := "ytijnkofnpoapnaa", sum := "8fd11286c6379e6a1afaa5cfc729eaa7152cb5597a48154f7328652fd86c0f0b", func := "loop.example/g03407/laws.FnVariances", spec := "fnVariances", apart := false, narrowed := true }
def FnVariancesUptoSaid : Prop := fnVariancesUptoRow.holds Try.pinned (OpenSpec.upto fnVariancesSpec)

/-- 'laws.FnSplits', WHERE WHAT IT READS IS OF BULK AT MOST 1048576: true; the input reads as it did. -/
def fnSplitsUptoRow : OpenClaim := { program := "ytijnkofnpoapnaa", sum := "8fd11286c6379e6a1afaa5cfc729eaa7152cb5597a48154f7328652fd86c0f0b", func := "loop.example/g03407/laws.FnSplits", spec := "fnSplits", apart := false, narrowed := true }
def FnSplitsUptoSaid : Prop := fnSplitsUptoRow.holds Try.pinned (OpenSpec.upto fnSplitsSpec)

/-- 'laws.FnPools', WHERE WHAT IT READS IS OF BULK AT MOST 1048576: true; the input reads as it did. -/
def fnPoolsUptoRow : OpenClaim := { program := "ytijnkofnpoapnaa", sum := "8fd11286c6379e6a1afaa5cfc729eaa7152cb5597a48154f7328652fd86c0f0b", func := "loop.example/g03407/laws.FnPools", spec := "fnPools", apart := false, narrowed := true }
def FnPoolsUptoSaid : Prop := fnPoolsUptoRow.holds Try.pinned (OpenSpec.upto fnPoolsSpec)

/-- 'laws.FnExactIsEvent', WHERE WHAT IT READS IS OF BULK AT MOST 1048576: true; the input reads as it did. -/
def fnExactIsEventUptoRow : OpenClaim := { program := "ytijnkofnpoapnaa", sum := "8fd11286c6379e6a1afaa5cfc729eaa7152cb5597a48154f7328652fd86c0f0b", func := "loop.example/g03407/laws.FnExactIsEvent", spec := "fnExactIsEvent", apart := false, narrowed := true }
def FnExactIsEventUptoSaid : Prop := fnExactIsEventUptoRow.holds Try.pinned (OpenSpec.upto fnExactIsEventSpec)

/-- 'laws.FnExactDropEvent', WHERE WHAT IT READS IS OF BULK AT MOST 1048576: true; the input reads as it did. -/
def fnExactDropEventUptoRow : OpenClaim := { program := "ytijnkofnpoapnaa", sum := "8fd11286c6379e6a1afaa5cfc729eaa7152cb5597a48154f7328652fd86c0f0b", func := "loop.example/g03407/laws.FnExactDropEvent", spec := "fnExactDropEvent", apart := false, narrowed := true }
def FnExactDropEventUptoSaid : Prop := fnExactDropEventUptoRow.holds Try.pinned (OpenSpec.upto fnExactDropEventSpec)

end Rows
end Go.Proofs.Ytijnkofnpoapnaa
