/-
  No cell of these rows narrows 'for every input' (looked for: loops, veiled, ifaces, maps, wideKeys, modest, calm, conditions, laid).
  DERIVED. THE GIVEN ROWS OF THIS SEAT. 8 by the template 'for every input the law returns true; each argument reads behind the call as it read before'; 0 by the template 'total and deterministic' (their statements: YtjbdmhafjcoplaaTotals.lean).
  GIVEN WITH THE SEED: the statements are not yours to turn. If you find one false, say at which input.
  Laid BY PROGRAM, IN A SANDBOX (cutbox-rows.mjs): the forced cells as the released guide's own fill.sh prints them over the translation 8688b70ad6f77814… (all of the seat's roots in one cut). By AI agents, Wed Nov 11 2026. No macro, syntax, notation, axiom, sorry.
-/
import Derived.Test.YtjbdmhafjcoplaaChecked
import GoSem.Claim
import GoSem.ClaimJoined
import GoSem.ClaimMapViews
import Derived.JoinedTies
import Derived.KernelRfl
namespace Go.Proofs.Ytjbdmhafjcoplaa
/- THE CELL 'sum', in the pinned program and in every row, IS THE sha256 OF THE DUMP (.gsa) THAT YtjbdmhafjcoplaaProg.lean LOADS. Nothing in Lean hashes anything: it is a label: what it is worth is what the hold of that sum in a sandbox is worth. -/
noncomputable def Try.pinned : Pinned := { name := "ytjbdmhafjcoplaa", sum := "8688b70ad6f778141b9304d53e953c76e2a652e32f8886a3d48c0012243a984e", checked := Try.checked }
namespace Rows
def none {H : Type} : Left H := { results := [], args := [] }

/-- 'mintagelaw01.DigitPuts': WHATEVER THE INPUT: true; the input reads as it did. -/
def digitPutsSpec : ChangeSpec := { name := "digitPuts", fn := fun _ => fun
  | [d] => { results := [.lit (.bool true)], args := [d] }
  | _ => none }
def digitPutsRow : OpenClaim := { program := "ytjbdmhafjcoplaa", sum := "8688b70ad6f778141b9304d53e953c76e2a652e32f8886a3d48c0012243a984e", func := "mintage/mintagelaw01.DigitPuts", spec := "digitPuts", recurses := true, apart := false }
def DigitPutsSaid : Prop := digitPutsRow.holds Try.pinned (OpenSpec.ofChange digitPutsSpec)

/-- ITS FALSE NEIGHBOUR: 'it returns false'. Refute it at one input. -/
def digitPutsWrong : ChangeSpec := { name := "digitPuts", fn := fun _ => fun
  | [d] => { results := [.lit (.bool false)], args := [d] }
  | _ => none }
def DigitPutsWrongFalsely : Prop := digitPutsRow.holds Try.pinned (OpenSpec.ofChange digitPutsWrong)

/-- 'mintagelaw01.DigitTakes': WHATEVER THE INPUT: true; the input reads as it did. -/
def digitTakesSpec : ChangeSpec := { name := "digitTakes", fn := fun _ => fun
  | [d] => { results := [.lit (.bool true)], args := [d] }
  | _ => none }
def digitTakesRow : OpenClaim := { program := "ytjbdmhafjcoplaa", sum := "8688b70ad6f778141b9304d53e953c76e2a652e32f8886a3d48c0012243a984e", func := "mintage/mintagelaw01.DigitTakes", spec := "digitTakes", recurses := true, apart := false }
def DigitTakesSaid : Prop := digitTakesRow.holds Try.pinned (OpenSpec.ofChange digitTakesSpec)

/-- ITS FALSE NEIGHBOUR: 'it returns false'. Refute it at one input. -/
def digitTakesWrong : ChangeSpec := { name := "digitTakes", fn := fun _ => fun
  | [d] => { results := [.lit (.bool false)], args := [d] }
  | _ => none }
def DigitTakesWrongFalsely : Prop := digitTakesRow.holds Try.pinned (OpenSpec.ofChange digitTakesWrong)

/-- 'mintagelaw01.DigitOne': WHATEVER THE INPUT: true; the input reads as it did. -/
def digitOneSpec : ChangeSpec := { name := "digitOne", fn := fun _ => fun
  | [d] => { results := [.lit (.bool true)], args := [d] }
  | _ => none }
def digitOneRow : OpenClaim := { program := "ytjbdmhafjcoplaa", sum := "8688b70ad6f778141b9304d53e953c76e2a652e32f8886a3d48c0012243a984e", func := "mintage/mintagelaw01.DigitOne", spec := "digitOne", apart := false }
def DigitOneSaid : Prop := digitOneRow.holds Try.pinned (OpenSpec.ofChange digitOneSpec)

/-- ITS FALSE NEIGHBOUR: 'it returns false'. Refute it at one input. -/
def digitOneWrong : ChangeSpec := { name := "digitOne", fn := fun _ => fun
  | [d] => { results := [.lit (.bool false)], args := [d] }
  | _ => none }
def DigitOneWrongFalsely : Prop := digitOneRow.holds Try.pinned (OpenSpec.ofChange digitOneWrong)

/-- 'mintagelaw01.DigitEights': WHATEVER THE INPUT: true; the input reads as it did. -/
def digitEightsSpec : ChangeSpec := { name := "digitEights", fn := fun _ => fun
  | [d] => { results := [.lit (.bool true)], args := [d] }
  | _ => none }
def digitEightsRow : OpenClaim := { program := "ytjbdmhafjcoplaa", sum := "8688b70ad6f778141b9304d53e953c76e2a652e32f8886a3d48c0012243a984e", func := "mintage/mintagelaw01.DigitEights", spec := "digitEights", apart := false }
def DigitEightsSaid : Prop := digitEightsRow.holds Try.pinned (OpenSpec.ofChange digitEightsSpec)

/-- ITS FALSE NEIGHBOUR: 'it returns false'. Refute it at one input. -/
def digitEightsWrong : ChangeSpec := { name := "digitEights", fn := fun _ => fun
  | [d] => { results := [.lit (.bool false)], args := [d] }
  | _ => none }
def DigitEightsWrongFalsely : Prop := digitEightsRow.holds Try.pinned (OpenSpec.ofChange digitEightsWrong)

/-- 'mintagelaw01.DigitTexts': WHATEVER THE INPUT: true; the input reads as it did. -/
def digitTextsSpec : ChangeSpec := { name := "digitTexts", fn := fun _ => fun
  | [d1, d2] => { results := [.lit (.bool true)], args := [d1, d2] }
  | _ => none }
def digitTextsRow : OpenClaim := { program := "ytjbdmhafjcoplaa", sum := "8688b70ad6f778141b9304d53e953c76e2a652e32f8886a3d48c0012243a984e", func := "mintage/mintagelaw01.DigitTexts", spec := "digitTexts", recurses := true, apart := false }
def DigitTextsSaid : Prop := digitTextsRow.holds Try.pinned (OpenSpec.ofChange digitTextsSpec)

/-- ITS FALSE NEIGHBOUR: 'it returns false'. Refute it at one input. -/
def digitTextsWrong : ChangeSpec := { name := "digitTexts", fn := fun _ => fun
  | [d1, d2] => { results := [.lit (.bool false)], args := [d1, d2] }
  | _ => none }
def DigitTextsWrongFalsely : Prop := digitTextsRow.holds Try.pinned (OpenSpec.ofChange digitTextsWrong)

/-- 'mintagelaw01.DigitOrder': WHATEVER THE INPUT: true; the input reads as it did. -/
def digitOrderSpec : ChangeSpec := { name := "digitOrder", fn := fun _ => fun
  | [d1, d2] => { results := [.lit (.bool true)], args := [d1, d2] }
  | _ => none }
def digitOrderRow : OpenClaim := { program := "ytjbdmhafjcoplaa", sum := "8688b70ad6f778141b9304d53e953c76e2a652e32f8886a3d48c0012243a984e", func := "mintage/mintagelaw01.DigitOrder", spec := "digitOrder", inPlace := ["internal/bytealg.abigen_runtime_cmpstring"], apart := false }
def DigitOrderSaid : Prop := digitOrderRow.holds Try.pinned (OpenSpec.ofChange digitOrderSpec)

/-- ITS FALSE NEIGHBOUR: 'it returns false'. Refute it at one input. -/
def digitOrderWrong : ChangeSpec := { name := "digitOrder", fn := fun _ => fun
  | [d1, d2] => { results := [.lit (.bool false)], args := [d1, d2] }
  | _ => none }
def DigitOrderWrongFalsely : Prop := digitOrderRow.holds Try.pinned (OpenSpec.ofChange digitOrderWrong)

/-- 'mintagelaw01.DigitKnown': WHATEVER THE INPUT: true; the input reads as it did. -/
def digitKnownSpec : ChangeSpec := { name := "digitKnown", fn := fun _ => fun
  | [] => { results := [.lit (.bool true)], args := [] }
  | _ => none }
def digitKnownRow : OpenClaim := { program := "ytjbdmhafjcoplaa", sum := "8688b70ad6f778141b9304d53e953c76e2a652e32f8886a3d48c0012243a984e", func := "mintage/mintagelaw01.DigitKnown", spec := "digitKnown", apart := false }
def DigitKnownSaid : Prop := digitKnownRow.holds Try.pinned (OpenSpec.ofChange digitKnownSpec)

/-- ITS FALSE NEIGHBOUR: 'it returns false'. Refute it at one input. -/
def digitKnownWrong : ChangeSpec := { name := "digitKnown", fn := fun _ => fun
  | [] => { results := [.lit (.bool false)], args := [] }
  | _ => none }
def DigitKnownWrongFalsely : Prop := digitKnownRow.holds Try.pinned (OpenSpec.ofChange digitKnownWrong)

/-- 'mintagelaw01.DigitBack': WHATEVER THE INPUT: true; the input reads as it did. -/
def digitBackSpec : ChangeSpec := { name := "digitBack", fn := fun _ => fun
  | [d1, d2, d3] => { results := [.lit (.bool true)], args := [d1, d2, d3] }
  | _ => none }
def digitBackRow : OpenClaim := { program := "ytjbdmhafjcoplaa", sum := "8688b70ad6f778141b9304d53e953c76e2a652e32f8886a3d48c0012243a984e", func := "mintage/mintagelaw01.DigitBack", spec := "digitBack", apart := false }
def DigitBackSaid : Prop := digitBackRow.holds Try.pinned (OpenSpec.ofChange digitBackSpec)

/-- ITS FALSE NEIGHBOUR: 'it returns false'. Refute it at one input. -/
def digitBackWrong : ChangeSpec := { name := "digitBack", fn := fun _ => fun
  | [d1, d2, d3] => { results := [.lit (.bool false)], args := [d1, d2, d3] }
  | _ => none }
def DigitBackWrongFalsely : Prop := digitBackRow.holds Try.pinned (OpenSpec.ofChange digitBackWrong)

/- THE SECOND FORM. 'bulk': how many values and letters a reading holds, each counted each time it is reached (what is shared counts as often as it is met; a slice's spare places count too). A statement '..UptoSaid' is the law's where the arguments, and the package variables that the reading takes, are together of bulk at most 1048576: NARROWER than '..Said'. Prove '..Said' where nothing that the law and all that it calls make is longer than what came in: it says more and counts as full. Else prove '..UptoSaid'. A law counts once. -/
mutual
def uptoBulk {H : Type} : DataW H → Nat
  | .lit (.string bytes) => bytes.length + 1
  | .lit _ => 1
  | .nil => 1
  | .ptr d => uptoBulk d + 1
  | .slice elems spare => uptoBulkAll elems + uptoBulkAll spare + 1
  | .agg parts => uptoBulkAll parts + 1
  | .iface _ d => uptoBulk d + 1
  | .map entries => uptoBulkEntries entries + 1
  | .held _ => 1
def uptoBulkAll {H : Type} : List (DataW H) → Nat
  | [] => 0
  | d :: r => uptoBulk d + uptoBulkAll r
def uptoBulkEntries {H : Type} : List (Lit × DataW H) → Nat
  | [] => 0
  | x :: r => uptoBulkEntry x + uptoBulkEntries r
def uptoBulkEntry {H : Type} : Lit × DataW H → Nat
  | (.string bytes, d) => bytes.length + uptoBulk d + 1
  | (_, d) => uptoBulk d + 1
 end
def uptoSmall : (H : Type) → List (DataW H) → Bool := fun _ ds => decide (uptoBulkAll ds ≤ 1048576)
def OpenSpec.upto (s : _root_.Go.ChangeSpec) : _root_.Go.OpenSpec := { _root_.Go.OpenSpec.ofChange s with cond := some uptoSmall }

/-- 'mintagelaw01.DigitPuts', WHERE WHAT IT READS IS OF BULK AT MOST 1048576: true; the input reads as it did. -/
def digitPutsUptoRow : OpenClaim := { program := "ytjbdmhafjcoplaa", sum := "8688b70ad6f778141b9304d53e953c76e2a652e32f8886a3d48c0012243a984e", func := "mintage/mintagelaw01.DigitPuts", spec := "digitPuts", recurses := true, apart := false, narrowed := true }
def DigitPutsUptoSaid : Prop := digitPutsUptoRow.holds Try.pinned (OpenSpec.upto digitPutsSpec)

/-- 'mintagelaw01.DigitTakes', WHERE WHAT IT READS IS OF BULK AT MOST 1048576: true; the input reads as it did. -/
def digitTakesUptoRow : OpenClaim := { program := "ytjbdmhafjcoplaa", sum := "8688b70ad6f778141b9304d53e953c76e2a652e32f8886a3d48c0012243a984e", func := "mintage/mintagelaw01.DigitTakes", spec := "digitTakes", recurses := true, apart := false, narrowed := true }
def DigitTakesUptoSaid : Prop := digitTakesUptoRow.holds Try.pinned (OpenSpec.upto digitTakesSpec)

/-- 'mintagelaw01.DigitOne', WHERE WHAT IT READS IS OF BULK AT MOST 1048576: true; the input reads as it did. -/
def digitOneUptoRow : OpenClaim := { program := "ytjbdmhafjcoplaa", sum := "8688b70ad6f778141b9304d53e953c76e2a652e32f8886a3d48c0012243a984e", func := "mintage/mintagelaw01.DigitOne", spec := "digitOne", apart := false, narrowed := true }
def DigitOneUptoSaid : Prop := digitOneUptoRow.holds Try.pinned (OpenSpec.upto digitOneSpec)

/-- 'mintagelaw01.DigitEights', WHERE WHAT IT READS IS OF BULK AT MOST 1048576: true; the input reads as it did. -/
def digitEightsUptoRow : OpenClaim := { program := "ytjbdmhafjcoplaa", sum := "8688b70ad6f778141b9304d53e953c76e2a652e32f8886a3d48c0012243a984e", func := "mintage/mintagelaw01.DigitEights", spec := "digitEights", apart := false, narrowed := true }
def DigitEightsUptoSaid : Prop := digitEightsUptoRow.holds Try.pinned (OpenSpec.upto digitEightsSpec)

/-- 'mintagelaw01.DigitTexts', WHERE WHAT IT READS IS OF BULK AT MOST 1048576: true; the input reads as it did. -/
def digitTextsUptoRow : OpenClaim := { program := "ytjbdmhafjcoplaa", sum := "8688b70ad6f778141b9304d53e953c76e2a652e32f8886a3d48c0012243a984e", func := "mintage/mintagelaw01.DigitTexts", spec := "digitTexts", recurses := true, apart := false, narrowed := true }
def DigitTextsUptoSaid : Prop := digitTextsUptoRow.holds Try.pinned (OpenSpec.upto digitTextsSpec)

/-- 'mintagelaw01.DigitOrder', WHERE WHAT IT READS IS OF BULK AT MOST 1048576: true; the input reads as it did. -/
def digitOrderUptoRow : OpenClaim := { program := "ytjbdmhafjcoplaa", sum := "8688b70ad6f778141b9304d53e953c76e2a652e32f8886a3d48c0012243a984e", func := "mintage/mintagelaw01.DigitOrder", spec := "digitOrder", inPlace := ["internal/bytealg.abigen_runtime_cmpstring"], apart := false, narrowed := true }
def DigitOrderUptoSaid : Prop := digitOrderUptoRow.holds Try.pinned (OpenSpec.upto digitOrderSpec)

/-- 'mintagelaw01.DigitKnown', WHERE WHAT IT READS IS OF BULK AT MOST 1048576: true; the input reads as it did. -/
def digitKnownUptoRow : OpenClaim := { program := "ytjbdmhafjcoplaa", sum := "8688b70ad6f778141b9304d53e953c76e2a652e32f8886a3d48c0012243a984e", func := "mintage/mintagelaw01.DigitKnown", spec := "digitKnown", apart := false, narrowed := true }
def DigitKnownUptoSaid : Prop := digitKnownUptoRow.holds Try.pinned (OpenSpec.upto digitKnownSpec)

/-- 'mintagelaw01.DigitBack', WHERE WHAT IT READS IS OF BULK AT MOST 1048576: true; the input reads as it did. -/
def digitBackUptoRow : OpenClaim := { program := "ytjbdmhafjcoplaa", sum := "8688b70ad6f778141b9304d53e953c76e2a652e32f8886a3d48c0012243a984e", func := "mintage/mintagelaw01.DigitBack", spec := "digitBack", apart := false, narrowed := true }
def DigitBackUptoSaid : Prop := digitBackUptoRow.holds Try.pinned (OpenSpec.upto digitBackSpec)

end Rows
end Go.Proofs.Ytjbdmhafjcoplaa
