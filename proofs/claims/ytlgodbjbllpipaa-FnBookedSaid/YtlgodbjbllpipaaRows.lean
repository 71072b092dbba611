/-
  No cell of these rows narrows 'for every input' (looked for: loops, veiled, ifaces, maps, wideKeys, modest, calm, conditions, laid).
  DERIVED. THE GIVEN ROWS OF THIS SEAT. 7 by the template 'for every input the law returns true; each argument reads behind the call as it read before'; 0 by the template 'total and deterministic' (their statements: YtlgodbjbllpipaaTotals.lean).
  GIVEN WITH THE SEED: the statements are not yours to turn. If you find one false, say at which input.
  Laid BY PROGRAM, IN A SANDBOX (cutbox-rows.mjs): the forced cells as the released guide's own fill.sh prints them over the translation 81a766a0dc8990fa… (all of the seat's roots in one cut). By AI agents, Wed Nov 11 2026. No macro, syntax, notation, axiom, sorry.
-/
import Derived.Test.YtlgodbjbllpipaaChecked
import GoSem.Claim
import GoSem.ClaimJoined
import GoSem.ClaimMapViews
import Derived.JoinedTies
import Derived.KernelRfl
namespace Go.Proofs.Ytlgodbjbllpipaa
/- THE CELL 'sum', in the pinned program and in every row, IS THE sha256 OF THE DUMP (.gsa) THAT YtlgodbjbllpipaaProg.lean LOADS. Nothing in Lean hashes anything: it is a label: what it is worth is what the hold of that sum in a sandbox is worth. -/
noncomputable def Try.pinned : Pinned := { name := "ytlgodbjbllpipaa", sum := "81a766a0dc8990fa97cb2f57d07ed3d4f476ec1ecf85b5d621ca84ea6e934ae6", checked := Try.checked }
namespace Rows
def none {H : Type} : Left H := { results := [], args := [] }

/-- 'laws.FnExactSameBooks': WHATEVER THE INPUT: true; the input reads as it did. -/
def fnExactSameBooksSpec : ChangeSpec := { name := "fnExactSameBooks", fn := fun _ => fun
  | [d1, d2] => { results := [.lit (.bool true)], args := [d1, d2] }
  | _ => none }
def fnExactSameBooksRow : OpenClaim := { program := "ytlgodbjbllpipaa", sum := "81a766a0dc8990fa97cb2f57d07ed3d4f476ec1ecf85b5d621ca84ea6e934ae6", func := "loop.example/g03407/laws.FnExactSameBooks", spec := "fnExactSameBooks", apart := false }
def FnExactSameBooksSaid : Prop := fnExactSameBooksRow.holds Try.pinned (OpenSpec.ofChange fnExactSameBooksSpec)

/-- ITS FALSE NEIGHBOUR: 'it returns false'. Refute it at one input. -/
def fnExactSameBooksWrong : ChangeSpec := { name := "fnExactSameBooks", fn := fun _ => fun
  | [d1, d2] => { results := [.lit (.bool false)], args := [d1, d2] }
  | _ => none }
def FnExactSameBooksWrongFalsely : Prop := fnExactSameBooksRow.holds Try.pinned (OpenSpec.ofChange fnExactSameBooksWrong)

/-- 'laws.FnExactAreBooks': WHATEVER THE INPUT: true; the input reads as it did. -/
def fnExactAreBooksSpec : ChangeSpec := { name := "fnExactAreBooks", fn := fun _ => fun
  | [d] => { results := [.lit (.bool true)], args := [d] }
  | _ => none }
def fnExactAreBooksRow : OpenClaim := { program := "ytlgodbjbllpipaa", sum := "81a766a0dc8990fa97cb2f57d07ed3d4f476ec1ecf85b5d621ca84ea6e934ae6", func := "loop.example/g03407/laws.FnExactAreBooks", spec := "fnExactAreBooks", apart := false }
def FnExactAreBooksSaid : Prop := fnExactAreBooksRow.holds Try.pinned (OpenSpec.ofChange fnExactAreBooksSpec)

/-- ITS FALSE NEIGHBOUR: 'it returns false'. Refute it at one input. -/
def fnExactAreBooksWrong : ChangeSpec := { name := "fnExactAreBooks", fn := fun _ => fun
  | [d] => { results := [.lit (.bool false)], args := [d] }
  | _ => none }
def FnExactAreBooksWrongFalsely : Prop := fnExactAreBooksRow.holds Try.pinned (OpenSpec.ofChange fnExactAreBooksWrong)

/-- 'laws.FnExactStockWorth': WHATEVER THE INPUT: true; the input reads as it did. -/
def fnExactStockWorthSpec : ChangeSpec := { name := "fnExactStockWorth", fn := fun _ => fun
  | [d] => { results := [.lit (.bool true)], args := [d] }
  | _ => none }
def fnExactStockWorthRow : OpenClaim := { program := "ytlgodbjbllpipaa", sum := "81a766a0dc8990fa97cb2f57d07ed3d4f476ec1ecf85b5d621ca84ea6e934ae6", func := "loop.example/g03407/laws.FnExactStockWorth", spec := "fnExactStockWorth", apart := false }
def FnExactStockWorthSaid : Prop := fnExactStockWorthRow.holds Try.pinned (OpenSpec.ofChange fnExactStockWorthSpec)

/-- ITS FALSE NEIGHBOUR: 'it returns false'. Refute it at one input. -/
def fnExactStockWorthWrong : ChangeSpec := { name := "fnExactStockWorth", fn := fun _ => fun
  | [d] => { results := [.lit (.bool false)], args := [d] }
  | _ => none }
def FnExactStockWorthWrongFalsely : Prop := fnExactStockWorthRow.holds Try.pinned (OpenSpec.ofChange fnExactStockWorthWrong)

/-- 'laws.FnExactOnShelf': WHATEVER THE INPUT: true; the input reads as it did. -/
def fnExactOnShelfSpec : ChangeSpec := { name := "fnExactOnShelf", fn := fun _ => fun
  | [d1, d2] => { results := [.lit (.bool true)], args := [d1, d2] }
  | _ => none }
def fnExactOnShelfRow : OpenClaim := { program := "ytlgodbjbllpipaa", sum := "81a766a0dc8990fa97cb2f57d07ed3d4f476ec1ecf85b5d621ca84ea6e934ae6", func := "loop.example/g03407/laws.FnExactOnShelf", spec := "fnExactOnShelf", apart := false }
def FnExactOnShelfSaid : Prop := fnExactOnShelfRow.holds Try.pinned (OpenSpec.ofChange fnExactOnShelfSpec)

/-- ITS FALSE NEIGHBOUR: 'it returns false'. Refute it at one input. -/
def fnExactOnShelfWrong : ChangeSpec := { name := "fnExactOnShelf", fn := fun _ => fun
  | [d1, d2] => { results := [.lit (.bool false)], args := [d1, d2] }
  | _ => none }
def FnExactOnShelfWrongFalsely : Prop := fnExactOnShelfRow.holds Try.pinned (OpenSpec.ofChange fnExactOnShelfWrong)

/-- 'laws.FnExactBooksAgree': WHATEVER THE INPUT: true; the input reads as it did. -/
def fnExactBooksAgreeSpec : ChangeSpec := { name := "fnExactBooksAgree", fn := fun _ => fun
  | [d] => { results := [.lit (.bool true)], args := [d] }
  | _ => none }
def fnExactBooksAgreeRow : OpenClaim := { program := "ytlgodbjbllpipaa", sum := "81a766a0dc8990fa97cb2f57d07ed3d4f476ec1ecf85b5d621ca84ea6e934ae6", func := "loop.example/g03407/laws.FnExactBooksAgree", spec := "fnExactBooksAgree", apart := false }
def FnExactBooksAgreeSaid : Prop := fnExactBooksAgreeRow.holds Try.pinned (OpenSpec.ofChange fnExactBooksAgreeSpec)

/-- ITS FALSE NEIGHBOUR: 'it returns false'. Refute it at one input. -/
def fnExactBooksAgreeWrong : ChangeSpec := { name := "fnExactBooksAgree", fn := fun _ => fun
  | [d] => { results := [.lit (.bool false)], args := [d] }
  | _ => none }
def FnExactBooksAgreeWrongFalsely : Prop := fnExactBooksAgreeRow.holds Try.pinned (OpenSpec.ofChange fnExactBooksAgreeWrong)

/-- 'laws.FnExactBookEvent': WHATEVER THE INPUT: true; the input reads as it did. -/
def fnExactBookEventSpec : ChangeSpec := { name := "fnExactBookEvent", fn := fun _ => fun
  | [d1, d2] => { results := [.lit (.bool true)], args := [d1, d2] }
  | _ => none }
def fnExactBookEventRow : OpenClaim := { program := "ytlgodbjbllpipaa", sum := "81a766a0dc8990fa97cb2f57d07ed3d4f476ec1ecf85b5d621ca84ea6e934ae6", func := "loop.example/g03407/laws.FnExactBookEvent", spec := "fnExactBookEvent", apart := false }
def FnExactBookEventSaid : Prop := fnExactBookEventRow.holds Try.pinned (OpenSpec.ofChange fnExactBookEventSpec)

/-- ITS FALSE NEIGHBOUR: 'it returns false'. Refute it at one input. -/
def fnExactBookEventWrong : ChangeSpec := { name := "fnExactBookEvent", fn := fun _ => fun
  | [d1, d2] => { results := [.lit (.bool false)], args := [d1, d2] }
  | _ => none }
def FnExactBookEventWrongFalsely : Prop := fnExactBookEventRow.holds Try.pinned (OpenSpec.ofChange fnExactBookEventWrong)

/-- 'laws.FnBooked': WHATEVER THE INPUT: true; the input reads as it did. -/
def fnBookedSpec : ChangeSpec := { name := "fnBooked", fn := fun _ => fun
  | [d] => { results := [.lit (.bool true)], args := [d] }
  | _ => none }
def fnBookedRow : OpenClaim := { program := "ytlgodbjbllpipaa", sum := "81a766a0dc8990fa97cb2f57d07ed3d4f476ec1ecf85b5d621ca84ea6e934ae6", func := "loop.example/g03407/laws.FnBooked", spec := "fnBooked", apart := false }
def FnBookedSaid : Prop := fnBookedRow.holds Try.pinned (OpenSpec.ofChange fnBookedSpec)

/-- ITS FALSE NEIGHBOUR: 'it returns false'. Refute it at one input. -/
def fnBookedWrong : ChangeSpec := { name := "fnBooked", fn := fun _ => fun
  | [d] => { results := [.lit (.bool false)], args := [d] }
  | _ => none }
def FnBookedWrongFalsely : Prop := fnBookedRow.holds Try.pinned (OpenSpec.ofChange fnBookedWrong)

/- THE SECOND FORM. 'bulk': how many values and letters a reading holds, each counted each time it is reached (what is shared counts as often as it is met; a slice's spare places count too). A statement '..UptoSaid' is the law's where the arguments, and the package variables that the reading takes, are together of bulk at most 1048576: NARROWER than '..Said'. Prove '..Said' where nothing that the law and all that it calls make is longer than what came in: it says more and counts as full. Else prove '..UptoSaid'. A law counts once. -/
mutual
def uptoBulk {H : Type} : DataW H → Nat
  | .lit (.string bytes) => bytes.length + 1
  | .lit _ => 1
  | .nil => 1
  | .ptr d => uptoBulk d + 1
  | .slice elems spare => uptoBulkAll elems + uptoBulkAll spare + 1
  | .agg parts => uptoBulkAll parts + 1
  | .iface _ d => uptoBulk d + 1
  | .map entries => uptoBulkEntries entries + 1
  | .held _ => 1
def uptoBulkAll {H : Type} : List (DataW H) → Nat
  | [] => 0
  | d :: r => uptoBulk d + uptoBulkAll r
def uptoBulkEntries {H : Type} : List (Lit × DataW H) → Nat
  | [] => 0
  | x :: r => uptoBulkEntry x + uptoBulkEntries r
def uptoBulkEntry {H : Type} : Lit × DataW H → Nat
  | (.string bytes, d) => bytes.length + uptoBulk d + 1
  | (_, d) => uptoBulk d + 1
 end
def uptoSmall : (H : Type) → List (DataW H) → Bool := fun _ ds => decide (uptoBulkAll ds ≤ 1048576)
def OpenSpec.upto (s : _root_.Go.ChangeSpec) : _root_.Go.OpenSpec := { _root_.Go.OpenSpec.ofChange s with cond := some uptoSmall }

/-- 'laws.FnExactSameBooks', WHERE WHAT IT READS IS OF BULK AT MOST 1048576: true; the input reads as it did. -/
def fnExactSameBooksUptoRow : OpenClaim := { program := "ytlgodbjbllpipaa", sum := "81a766a0dc8990fa97cb2f57d07ed3d4f476ec1ecf85b5d621ca84ea6e934ae6", func := "loop.example/g03407/laws.FnExactSameBooks", spec := "fnExactSameBooks", apart := false, narrowed := true }
def FnExactSameBooksUptoSaid : Prop := fnExactSameBooksUptoRow.holds Try.pinned (OpenSpec.upto fnExactSameBooksSpec)

/-- 'laws.FnExactAreBooks', WHERE WHAT IT READS IS OF BULK AT MOST 1048576: true; the input reads as it did. -/
def fnExactAreBooksUptoRow : OpenClaim := { program := "ytlgodbjbllpipaa", sum := "81a766a0dc8990fa97cb2f57d07ed3d4f476ec1ecf85b5d621ca84ea6e934ae6", func := "loop.example/g03407/laws.FnExactAreBooks", spec := "fnExactAreBooks", apart := false, narrowed := true }
def FnExactAreBooksUptoSaid : Prop := fnExactAreBooksUptoRow.holds Try.pinned (OpenSpec.upto fnExactAreBooksSpec)

/-- 'laws.FnExactStockWorth', WHERE WHAT IT READS IS OF BULK AT MOST 1048576: true; the input reads as it did. -/
def fnExactStockWorthUptoRow : OpenClaim := { program := "ytlgodbjbllpipaa", sum := "81a766a0dc8990fa97cb2f57d07ed3d4f476ec1ecf85b5d621ca84ea6e934ae6", func := "loop.example/g03407/laws.FnExactStockWorth", spec := "fnExactStockWorth", apart := false, narrowed := true }
def FnExactStockWorthUptoSaid : Prop := fnExactStockWorthUptoRow.holds Try.pinned (OpenSpec.upto fnExactStockWorthSpec)

/-- 'laws.FnExactOnShelf', WHERE WHAT IT READS IS OF BULK AT MOST 1048576: true; the input reads as it did. -/
def fnExactOnShelfUptoRow : OpenClaim := { program := "ytlgodbjbllpipaa", sum := "81a766a0dc8990fa97cb2f57d07ed3d4f476ec1ecf85b5d621ca84ea6e934ae6", func := "loop.example/g03407/laws.FnExactOnShelf", spec := "fnExactOnShelf", apart := false, narrowed := true }
def FnExactOnShelfUptoSaid : Prop := fnExactOnShelfUptoRow.holds Try.pinned (OpenSpec.upto fnExactOnShelfSpec)

/-- 'laws.FnExactBooksAgree', WHERE WHAT IT READS IS OF BULK AT MOST 1048576: true; the input reads as it did. -/
def fnExactBooksAgreeUptoRow : OpenClaim := { program := "ytlgodbjbllpipaa", sum := "81a766a0dc8990fa97cb2f57d07ed3d4f476ec1ecf85b5d621ca84ea6e934ae6", func := "loop.example/g03407/laws.FnExactBooksAgree", spec := "fnExactBooksAgree", apart := false, narrowed := true }
def FnExactBooksAgreeUptoSaid : Prop := fnExactBooksAgreeUptoRow.holds Try.pinned (OpenSpec.upto fnExactBooksAgreeSpec)

/-- 'laws.FnExactBookEvent', WHERE WHAT IT READS IS OF BULK AT MOST 1048576: true; the input reads as it did. -/
def fnExactBookEventUptoRow : OpenClaim := { program := "ytlgodbjbllpipaa", sum := "81a766a0dc8990fa97cb2f57d07ed3d4f476ec1ecf85b5d621ca84ea6e934ae6", func := "loop.example/g03407/laws.FnExactBookEvent", spec := "fnExactBookEvent", apart := false, narrowed := true }
def FnExactBookEventUptoSaid : Prop := fnExactBookEventUptoRow.holds Try.pinned (OpenSpec.upto fnExactBookEventSpec)

/-- 'laws.FnBooked', WHERE WHAT IT READS IS OF BULK AT MOST 1048576: true; the input reads as it did. -/
def fnBookedUptoRow : OpenClaim := { program := "ytlgodbjbllpipaa", sum := "81a766a0dc8990fa97cb2f57d07ed3d4f476ec1ecf85b5d621ca84ea6e934ae6", func := "loop.example/g03407/laws.FnBooked", spec := "fnBooked", apart := false, narrowed := true }
def FnBookedUptoSaid : Prop := fnBookedUptoRow.holds Try.pinned (OpenSpec.upto fnBookedSpec)

end Rows
end Go.Proofs.Ytlgodbjbllpipaa
