/-
  No cell of these rows narrows 'for every input' (looked for: loops, veiled, ifaces, maps, wideKeys, modest, calm, conditions, laid).
  DERIVED. THE GIVEN ROWS OF THIS SEAT. 5 by the template 'for every input the law returns true; each argument reads behind the call as it read before'; 0 by the template 'total and deterministic' (their statements: YtdlefnpnnpohmaaTotals.lean).
  GIVEN WITH THE SEED: the statements are not yours to turn. If you find one false, say at which input.
  Laid BY PROGRAM, IN A SANDBOX (cutbox-rows.mjs): the forced cells as the released guide's own fill.sh prints them over the translation de15b770e1211636… (all of the seat's roots in one cut). By AI agents, Wed Nov 11 2026. No macro, syntax, notation, axiom, sorry.
-/
import Derived.Test.YtdlefnpnnpohmaaChecked
import GoSem.Claim
import GoSem.ClaimJoined
import GoSem.ClaimMapViews
import Derived.JoinedTies
import Derived.KernelRfl
namespace Go.Proofs.Ytdlefnpnnpohmaa
/- THE CELL 'sum', in the pinned program and in every row, IS THE sha256 OF THE DUMP (.gsa) THAT YtdlefnpnnpohmaaProg.lean LOADS. Nothing in Lean hashes anything: it is a label: what it is worth is what the hold of that sum in a sandbox is worth. -/
noncomputable def Try.pinned : Pinned := { name := "ytdlefnpnnpohmaa", sum := "de15b770e1211636c175137234cb4d0091ddd3d5bfaef238d89dec84ed053c92", checked := Try.checked }
namespace Rows
def none {H : Type} : Left H := { results := [], args := [] }

/-- 'signpostlaw10.OpenTells': WHATEVER THE INPUT: true; the input reads as it did. -/
def openTellsSpec : ChangeSpec := { name := "openTells", fn := fun _ => fun
  | [d1, d2, d3, d4, d5, d6] => { results := [.lit (.bool true)], args := [d1, d2, d3, d4, d5, d6] }
  | _ => none }
def openTellsRow : OpenClaim := { program := "ytdlefnpnnpohmaa", sum := "de15b770e1211636c175137234cb4d0091ddd3d5bfaef238d89dec84ed053c92", func := "signpost/signpostlaw10.OpenTells", spec := "openTells", apart := false }
def OpenTellsSaid : Prop := openTellsRow.holds Try.pinned (OpenSpec.ofChange openTellsSpec)

/-- ITS FALSE NEIGHBOUR: 'it returns false'. Refute it at one input. -/
def openTellsWrong : ChangeSpec := { name := "openTells", fn := fun _ => fun
  | [d1, d2, d3, d4, d5, d6] => { results := [.lit (.bool false)], args := [d1, d2, d3, d4, d5, d6] }
  | _ => none }
def OpenTellsWrongFalsely : Prop := openTellsRow.holds Try.pinned (OpenSpec.ofChange openTellsWrong)

/-- 'signpostlaw10.OpenFirst': WHATEVER THE INPUT: true; the input reads as it did. -/
def openFirstSpec : ChangeSpec := { name := "openFirst", fn := fun _ => fun
  | [d1, d2] => { results := [.lit (.bool true)], args := [d1, d2] }
  | _ => none }
def openFirstRow : OpenClaim := { program := "ytdlefnpnnpohmaa", sum := "de15b770e1211636c175137234cb4d0091ddd3d5bfaef238d89dec84ed053c92", func := "signpost/signpostlaw10.OpenFirst", spec := "openFirst", apart := false }
def OpenFirstSaid : Prop := openFirstRow.holds Try.pinned (OpenSpec.ofChange openFirstSpec)

/-- ITS FALSE NEIGHBOUR: 'it returns false'. Refute it at one input. -/
def openFirstWrong : ChangeSpec := { name := "openFirst", fn := fun _ => fun
  | [d1, d2] => { results := [.lit (.bool false)], args := [d1, d2] }
  | _ => none }
def OpenFirstWrongFalsely : Prop := openFirstRow.holds Try.pinned (OpenSpec.ofChange openFirstWrong)

/-- 'signpostlaw10.OpenSizes': WHATEVER THE INPUT: true; the input reads as it did. -/
def openSizesSpec : ChangeSpec := { name := "openSizes", fn := fun _ => fun
  | [d1, d2, d3, d4] => { results := [.lit (.bool true)], args := [d1, d2, d3, d4] }
  | _ => none }
def openSizesRow : OpenClaim := { program := "ytdlefnpnnpohmaa", sum := "de15b770e1211636c175137234cb4d0091ddd3d5bfaef238d89dec84ed053c92", func := "signpost/signpostlaw10.OpenSizes", spec := "openSizes", apart := false }
def OpenSizesSaid : Prop := openSizesRow.holds Try.pinned (OpenSpec.ofChange openSizesSpec)

/-- ITS FALSE NEIGHBOUR: 'it returns false'. Refute it at one input. -/
def openSizesWrong : ChangeSpec := { name := "openSizes", fn := fun _ => fun
  | [d1, d2, d3, d4] => { results := [.lit (.bool false)], args := [d1, d2, d3, d4] }
  | _ => none }
def OpenSizesWrongFalsely : Prop := openSizesRow.holds Try.pinned (OpenSpec.ofChange openSizesWrong)

/-- 'signpostlaw10.OpenNumbers': WHATEVER THE INPUT: true; the input reads as it did. -/
def openNumbersSpec : ChangeSpec := { name := "openNumbers", fn := fun _ => fun
  | [] => { results := [.lit (.bool true)], args := [] }
  | _ => none }
def openNumbersRow : OpenClaim := { program := "ytdlefnpnnpohmaa", sum := "de15b770e1211636c175137234cb4d0091ddd3d5bfaef238d89dec84ed053c92", func := "signpost/signpostlaw10.OpenNumbers", spec := "openNumbers", apart := false }
def OpenNumbersSaid : Prop := openNumbersRow.holds Try.pinned (OpenSpec.ofChange openNumbersSpec)

/-- ITS FALSE NEIGHBOUR: 'it returns false'. Refute it at one input. -/
def openNumbersWrong : ChangeSpec := { name := "openNumbers", fn := fun _ => fun
  | [] => { results := [.lit (.bool false)], args := [] }
  | _ => none }
def OpenNumbersWrongFalsely : Prop := openNumbersRow.holds Try.pinned (OpenSpec.ofChange openNumbersWrong)

/-- 'signpostlaw10.OpenBack': WHATEVER THE INPUT: true; the input reads as it did. -/
def openBackSpec : ChangeSpec := { name := "openBack", fn := fun _ => fun
  | [d1, d2, d3, d4, d5, d6, d7] => { results := [.lit (.bool true)], args := [d1, d2, d3, d4, d5, d6, d7] }
  | _ => none }
def openBackRow : OpenClaim := { program := "ytdlefnpnnpohmaa", sum := "de15b770e1211636c175137234cb4d0091ddd3d5bfaef238d89dec84ed053c92", func := "signpost/signpostlaw10.OpenBack", spec := "openBack", apart := false }
def OpenBackSaid : Prop := openBackRow.holds Try.pinned (OpenSpec.ofChange openBackSpec)

/-- ITS FALSE NEIGHBOUR: 'it returns false'. Refute it at one input. -/
def openBackWrong : ChangeSpec := { name := "openBack", fn := fun _ => fun
  | [d1, d2, d3, d4, d5, d6, d7] => { results := [.lit (.bool false)], args := [d1, d2, d3, d4, d5, d6, d7] }
  | _ => none }
def OpenBackWrongFalsely : Prop := openBackRow.holds Try.pinned (OpenSpec.ofChange openBackWrong)

/- THE SECOND FORM. 'bulk': how many values and letters a reading holds, each counted each time it is reached (what is shared counts as often as it is met; a slice's spare places count too). A statement '..UptoSaid' is the law's where the arguments, and the package variables that the reading takes, are together of bulk at most 1048576: NARROWER than '..Said'. Prove '..Said' where nothing that the law and all that it calls make is longer than what came in: it says more and counts as full. Else prove '..UptoSaid'. A law counts once. -/
mutual
def uptoBulk {H : Type} : DataW H → Nat
  | .lit (.string bytes) => bytes.length + 1
  | .lit _ => 1
  | .nil => 1
  | .ptr d => uptoBulk d + 1
  | .slice elems spare => uptoBulkAll elems + uptoBulkAll spare + 1
  | .agg parts => uptoBulkAll parts + 1
  | .iface _ d => uptoBulk d + 1
  | .map entries => uptoBulkEntries entries + 1
  | .held _ => 1
def uptoBulkAll {H : Type} : List (DataW H) → Nat
  | [] => 0
  | d :: r => uptoBulk d + uptoBulkAll r
def uptoBulkEntries {H : Type} : List (Lit × DataW H) → Nat
  | [] => 0
  | x :: r => uptoBulkEntry x + uptoBulkEntries r
def uptoBulkEntry {H : Type} : Lit × DataW H → Nat
  | (.string bytes, d) => bytes.length + uptoBulk d + 1
  | (_, d) => uptoBulk d + 1
 end
def uptoSmall : (H : Type) → List (DataW H) → Bool := fun _ ds => decide (uptoBulkAll ds ≤ 1048576)
def OpenSpec.upto (s : _root_.Go.ChangeSpec) : _root_.Go.OpenSpec := { _root_.Go.OpenSpec.ofChange s with cond := some uptoSmall }

/-- 'signpostlaw10.OpenTells', WHERE WHAT IT READS IS OF BULK AT MOST 1048576: true; the input reads as it did. -/
def openTellsUptoRow : OpenClaim := { program := "ytdlefnpnnpohmaa", sum := "de15b770e1211636c175137234cb4d0091ddd3d5bfaef238d89dec84ed053c92", func := "signpost/signpostlaw10.OpenTells", spec := "openTells", apart := false, narrowed := true }
def OpenTellsUptoSaid : Prop := openTellsUptoRow.holds Try.pinned (OpenSpec.upto openTellsSpec)

/-- 'signpostlaw10.OpenFirst', WHERE WHAT IT READS IS OF BULK AT MOST 1048576: true; the input reads as it did. -/
def openFirstUptoRow : OpenClaim := { program := "ytdlefnpnnpohmaa", sum := "de15b770e1211636c175137234cb4d0091ddd3d5bfaef238d89dec84ed053c92", func := "signpost/signpostlaw10.OpenFirst", spec := "openFirst", apart := false, narrowed := true }
def OpenFirstUptoSaid : Prop := openFirstUptoRow.holds Try.pinned (OpenSpec.upto openFirstSpec)

/-- 'signpostlaw10.OpenSizes', WHERE WHAT IT READS IS OF BULK AT MOST 1048576: true; the input reads as it did. -/
def openSizesUptoRow : OpenClaim := { program := "ytdlefnpnnpohmaa", sum := "de15b770e1211636c175137234cb4d0091ddd3d5bfaef238d89dec84ed053c92", func := "signpost/signpostlaw10.OpenSizes", spec := "openSizes", apart := false, narrowed := true }
def OpenSizesUptoSaid : Prop := openSizesUptoRow.holds Try.pinned (OpenSpec.upto openSizesSpec)

/-- 'signpostlaw10.OpenNumbers', WHERE WHAT IT READS IS OF BULK AT MOST 1048576: true; the input reads as it did. -/
def openNumbersUptoRow : OpenClaim := { program := "ytdlefnpnnpohmaa", sum := "de15b770e1211636c175137234cb4d0091ddd3d5bfaef238d89dec84ed053c92", func := "signpost/signpostlaw10.OpenNumbers", spec := "openNumbers", apart := false, narrowed := true }
def OpenNumbersUptoSaid : Prop := openNumbersUptoRow.holds Try.pinned (OpenSpec.upto openNumbersSpec)

/-- 'signpostlaw10.OpenBack', WHERE WHAT IT READS IS OF BULK AT MOST 1048576: true; the input reads as it did. -/
def openBackUptoRow : OpenClaim := { program := "ytdlefnpnnpohmaa", sum := "de15b770e1211636c175137234cb4d0091ddd3d5bfaef238d89dec84ed053c92", func := "signpost/signpostlaw10.OpenBack", spec := "openBack", apart := false, narrowed := true }
def OpenBackUptoSaid : Prop := openBackUptoRow.holds Try.pinned (OpenSpec.upto openBackSpec)

end Rows
end Go.Proofs.Ytdlefnpnnpohmaa
