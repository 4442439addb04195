/-
  No cell of these rows narrows 'for every input' (looked for: loops, veiled, ifaces, maps, wideKeys, modest, calm, conditions, laid).
  DERIVED. THE GIVEN ROWS OF THIS SEAT. 4 by the template 'for every input the law returns true; each argument reads behind the call as it read before'; 0 by the template 'total and deterministic' (their statements: YtfcgkkgdnagmcaaTotals.lean).
  GIVEN WITH THE SEED: the statements are not yours to turn. If you find one false, say at which input.
  Laid BY PROGRAM, IN A SANDBOX (cutbox-rows.mjs): the forced cells as the released guide's own fill.sh prints them over the translation 00bb6a958a19bed0… (all of the seat's roots in one cut). By AI agents, Wed Nov 11 2026. No macro, syntax, notation, axiom, sorry.
-/
import Derived.Test.YtfcgkkgdnagmcaaChecked
import GoSem.Claim
import GoSem.ClaimJoined
import GoSem.ClaimMapViews
import Derived.JoinedTies
import Derived.KernelRfl
namespace Go.Proofs.Ytfcgkkgdnagmcaa
/- THE CELL 'sum', in the pinned program and in every row, IS THE sha256 OF THE DUMP (.gsa) THAT YtfcgkkgdnagmcaaProg.lean LOADS. Nothing in Lean hashes anything: it is a label: what it is worth is what the hold of that sum in a sandbox is worth. -/
noncomputable def Try.pinned : Pinned := { name := "ytfcgkkgdnagmcaa", sum := "00bb6a958a19bed08d01bf767ad473458539d5f26b02532dc52a7e4bdaf2e4f1", checked := Try.checked }
namespace Rows
def none {H : Type} : Left H := { results := [], args := [] }

/-- 'signpostlaw8.NlriNumbers': WHATEVER THE INPUT: true; the input reads as it did. -/
def nlriNumbersSpec : ChangeSpec := { name := "nlriNumbers", fn := fun _ => fun
  | [] => { results := [.lit (.bool true)], args := [] }
  | _ => none }
def nlriNumbersRow : OpenClaim := { program := "ytfcgkkgdnagmcaa", sum := "00bb6a958a19bed08d01bf767ad473458539d5f26b02532dc52a7e4bdaf2e4f1", func := "signpost/signpostlaw8.NlriNumbers", spec := "nlriNumbers", apart := false }
def NlriNumbersSaid : Prop := nlriNumbersRow.holds Try.pinned (OpenSpec.ofChange nlriNumbersSpec)

/-- ITS FALSE NEIGHBOUR: 'it returns false'. Refute it at one input. -/
def nlriNumbersWrong : ChangeSpec := { name := "nlriNumbers", fn := fun _ => fun
  | [] => { results := [.lit (.bool false)], args := [] }
  | _ => none }
def NlriNumbersWrongFalsely : Prop := nlriNumbersRow.holds Try.pinned (OpenSpec.ofChange nlriNumbersWrong)

/-- 'signpostlaw8.NlriTells': WHATEVER THE INPUT: true; the input reads as it did. -/
def nlriTellsSpec : ChangeSpec := { name := "nlriTells", fn := fun _ => fun
  | [d1, d2, d3, d4, d5] => { results := [.lit (.bool true)], args := [d1, d2, d3, d4, d5] }
  | _ => none }
def nlriTellsRow : OpenClaim := { program := "ytfcgkkgdnagmcaa", sum := "00bb6a958a19bed08d01bf767ad473458539d5f26b02532dc52a7e4bdaf2e4f1", func := "signpost/signpostlaw8.NlriTells", spec := "nlriTells", apart := false }
def NlriTellsSaid : Prop := nlriTellsRow.holds Try.pinned (OpenSpec.ofChange nlriTellsSpec)

/-- ITS FALSE NEIGHBOUR: 'it returns false'. Refute it at one input. -/
def nlriTellsWrong : ChangeSpec := { name := "nlriTells", fn := fun _ => fun
  | [d1, d2, d3, d4, d5] => { results := [.lit (.bool false)], args := [d1, d2, d3, d4, d5] }
  | _ => none }
def NlriTellsWrongFalsely : Prop := nlriTellsRow.holds Try.pinned (OpenSpec.ofChange nlriTellsWrong)

/-- 'signpostlaw8.NlriBack': WHATEVER THE INPUT: true; the input reads as it did. -/
def nlriBackSpec : ChangeSpec := { name := "nlriBack", fn := fun _ => fun
  | [d1, d2, d3] => { results := [.lit (.bool true)], args := [d1, d2, d3] }
  | _ => none }
def nlriBackRow : OpenClaim := { program := "ytfcgkkgdnagmcaa", sum := "00bb6a958a19bed08d01bf767ad473458539d5f26b02532dc52a7e4bdaf2e4f1", func := "signpost/signpostlaw8.NlriBack", spec := "nlriBack", apart := false }
def NlriBackSaid : Prop := nlriBackRow.holds Try.pinned (OpenSpec.ofChange nlriBackSpec)

/-- ITS FALSE NEIGHBOUR: 'it returns false'. Refute it at one input. -/
def nlriBackWrong : ChangeSpec := { name := "nlriBack", fn := fun _ => fun
  | [d1, d2, d3] => { results := [.lit (.bool false)], args := [d1, d2, d3] }
  | _ => none }
def NlriBackWrongFalsely : Prop := nlriBackRow.holds Try.pinned (OpenSpec.ofChange nlriBackWrong)

/-- 'signpostlaw8.NlriBits': WHATEVER THE INPUT: true; the input reads as it did. -/
def nlriBitsSpec : ChangeSpec := { name := "nlriBits", fn := fun _ => fun
  | [d1, d2, d3, d4] => { results := [.lit (.bool true)], args := [d1, d2, d3, d4] }
  | _ => none }
def nlriBitsRow : OpenClaim := { program := "ytfcgkkgdnagmcaa", sum := "00bb6a958a19bed08d01bf767ad473458539d5f26b02532dc52a7e4bdaf2e4f1", func := "signpost/signpostlaw8.NlriBits", spec := "nlriBits", apart := false }
def NlriBitsSaid : Prop := nlriBitsRow.holds Try.pinned (OpenSpec.ofChange nlriBitsSpec)

/-- ITS FALSE NEIGHBOUR: 'it returns false'. Refute it at one input. -/
def nlriBitsWrong : ChangeSpec := { name := "nlriBits", fn := fun _ => fun
  | [d1, d2, d3, d4] => { results := [.lit (.bool false)], args := [d1, d2, d3, d4] }
  | _ => none }
def NlriBitsWrongFalsely : Prop := nlriBitsRow.holds Try.pinned (OpenSpec.ofChange nlriBitsWrong)

/- THE SECOND FORM. 'bulk': how many values and letters a reading holds, each counted each time it is reached (what is shared counts as often as it is met; a slice's spare places count too). A statement '..UptoSaid' is the law's where the arguments, and the package variables that the reading takes, are together of bulk at most 1048576: NARROWER than '..Said'. Prove '..Said' where nothing that the law and all that it calls make is longer than what came in: it says more and counts as full. Else prove '..UptoSaid'. A law counts once. -/
mutual
def uptoBulk {H : Type} : DataW H → Nat
  | .lit (.string bytes) => bytes.length + 1
  | .lit _ => 1
  | .nil => 1
  | .ptr d => uptoBulk d + 1
  | .slice elems spare => uptoBulkAll elems + uptoBulkAll spare + 1
  | .agg parts => uptoBulkAll parts + 1
  | .iface _ d => uptoBulk d + 1
  | .map entries => uptoBulkEntries entries + 1
  | .held _ => 1
def uptoBulkAll {H : Type} : List (DataW H) → Nat
  | [] => 0
  | d :: r => uptoBulk d + uptoBulkAll r
def uptoBulkEntries {H : Type} : List (Lit × DataW H) → Nat
  | [] => 0
  | x :: r => uptoBulkEntry x + uptoBulkEntries r
def uptoBulkEntry {H : Type} : Lit × DataW H → Nat
  | (.string bytes, d) => bytes.length + uptoBulk d + 1
  | (_, d) => uptoBulk d + 1
 end
def uptoSmall : (H : Type) → List (DataW H) → Bool := fun _ ds => decide (uptoBulkAll ds ≤ 1048576)
def OpenSpec.upto (s : _root_.Go.ChangeSpec) : _root_.Go.OpenSpec := { _root_.Go.OpenSpec.ofChange s with cond := some uptoSmall }

/-- 'signpostlaw8.NlriNumbers', WHERE WHAT IT READS IS OF BULK AT MOST 1048576: true; the input reads as it did. -/
def nlriNumbersUptoRow : OpenClaim := { program := "ytfcgkkgdnagmcaa", sum := "00bb6a958a19bed08d01bf767ad473458539d5f26b02532dc52a7e4bdaf2e4f1", func := "signpost/signpostlaw8.NlriNumbers", spec := "nlriNumbers", apart := false, narrowed := true }
def NlriNumbersUptoSaid : Prop := nlriNumbersUptoRow.holds Try.pinned (OpenSpec.upto nlriNumbersSpec)

/-- 'signpostlaw8.NlriTells', WHERE WHAT IT READS IS OF BULK AT MOST 1048576: true; the input reads as it did. -/
def nlriTellsUptoRow : OpenClaim := { program := "ytfcgkkgdnagmcaa", sum := "00bb6a958a19bed08d01bf767ad473458539d5f26b02532dc52a7e4bdaf2e4f1", func := "signpost/signpostlaw8.NlriTells", spec := "nlriTells", apart := false, narrowed := true }
def NlriTellsUptoSaid : Prop := nlriTellsUptoRow.holds Try.pinned (OpenSpec.upto nlriTellsSpec)

/-- 'signpostlaw8.NlriBack', WHERE WHAT IT READS IS OF BULK AT MOST 1048576: true; the input reads as it did. -/
def nlriBackUptoRow : OpenClaim := { program := "ytfcgkkgdnagmcaa", sum := "00bb6a958a19bed08d01bf767ad473458539d5f26b02532dc52a7e4bdaf2e4f1", func := "signpost/signpostlaw8.NlriBack", spec := "nlriBack", apart := false, narrowed := true }
def NlriBackUptoSaid : Prop := nlriBackUptoRow.holds Try.pinned (OpenSpec.upto nlriBackSpec)

/-- 'signpostlaw8.NlriBits', WHERE WHAT IT READS IS OF BULK AT MOST 1048576: true; the input reads as it did. -/
def nlriBitsUptoRow : OpenClaim := { program := "ytfcgkkgdnagmcaa", sum := "00bb6a958a19bed08d01bf767ad473458539d5f26b02532dc52a7e4bdaf2e4f1", func := "signpost/signpostlaw8.NlriBits", spec := "nlriBits", apart := false, narrowed := true }
def NlriBitsUptoSaid : Prop := nlriBitsUptoRow.holds Try.pinned (OpenSpec.upto nlriBitsSpec)

end Rows
end Go.Proofs.Ytfcgkkgdnagmcaa
