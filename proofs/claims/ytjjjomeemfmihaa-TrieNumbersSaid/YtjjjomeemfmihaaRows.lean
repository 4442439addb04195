/-
  No cell of these rows narrows 'for every input' (looked for: loops, veiled, ifaces, maps, wideKeys, modest, calm, conditions, laid).
  DERIVED. THE GIVEN ROWS OF THIS SEAT. 7 by the template 'for every input the law returns true; each argument reads behind the call as it read before'; 0 by the template 'total and deterministic' (their statements: YtjjjomeemfmihaaTotals.lean).
  GIVEN WITH THE SEED: the statements are not yours to turn. If you find one false, say at which input.
  Laid BY PROGRAM, IN A SANDBOX (cutbox-rows.mjs): the forced cells as the released guide's own fill.sh prints them over the translation f912f32fa2e0c4ae… (all of the seat's roots in one cut). By AI agents, Wed Nov 11 2026. No macro, syntax, notation, axiom, sorry.
-/
import Derived.Test.YtjjjomeemfmihaaChecked
import GoSem.Claim
import GoSem.ClaimJoined
import GoSem.ClaimMapViews
import Derived.JoinedTies
import Derived.KernelRfl
namespace Go.Proofs.Ytjjjomeemfmihaa
/- THE CELL 'sum', in the pinned program and in every row, IS THE sha256 OF THE DUMP (.gsa) THAT YtjjjomeemfmihaaProg.lean LOADS. Nothing in Lean hashes anything: it is a label: what it is worth is what the hold of that sum in a sandbox is worth. -/
noncomputable def Try.pinned : Pinned := { name := "ytjjjomeemfmihaa", sum := "f912f32fa2e0c4ae01035d48e54004c218dcbd5456b2a26fb9696608119b7bfb", checked := Try.checked }
namespace Rows
def none {H : Type} : Left H := { results := [], args := [] }

/-- 'signpostlaw3.TrieOrder': WHATEVER THE INPUT: true; the input reads as it did. -/
def trieOrderSpec : ChangeSpec := { name := "trieOrder", fn := fun _ => fun
  | [d1, d2] => { results := [.lit (.bool true)], args := [d1, d2] }
  | _ => none }
def trieOrderRow : OpenClaim := { program := "ytjjjomeemfmihaa", sum := "f912f32fa2e0c4ae01035d48e54004c218dcbd5456b2a26fb9696608119b7bfb", func := "signpost/signpostlaw3.TrieOrder", spec := "trieOrder", recurses := true, apart := false }
def TrieOrderSaid : Prop := trieOrderRow.holds Try.pinned (OpenSpec.ofChange trieOrderSpec)

/-- ITS FALSE NEIGHBOUR: 'it returns false'. Refute it at one input. -/
def trieOrderWrong : ChangeSpec := { name := "trieOrder", fn := fun _ => fun
  | [d1, d2] => { results := [.lit (.bool false)], args := [d1, d2] }
  | _ => none }
def TrieOrderWrongFalsely : Prop := trieOrderRow.holds Try.pinned (OpenSpec.ofChange trieOrderWrong)

/-- 'signpostlaw3.TrieMatch': WHATEVER THE INPUT: true; the input reads as it did. -/
def trieMatchSpec : ChangeSpec := { name := "trieMatch", fn := fun _ => fun
  | [d1, d2] => { results := [.lit (.bool true)], args := [d1, d2] }
  | _ => none }
def trieMatchRow : OpenClaim := { program := "ytjjjomeemfmihaa", sum := "f912f32fa2e0c4ae01035d48e54004c218dcbd5456b2a26fb9696608119b7bfb", func := "signpost/signpostlaw3.TrieMatch", spec := "trieMatch", recurses := true, apart := false }
def TrieMatchSaid : Prop := trieMatchRow.holds Try.pinned (OpenSpec.ofChange trieMatchSpec)

/-- ITS FALSE NEIGHBOUR: 'it returns false'. Refute it at one input. -/
def trieMatchWrong : ChangeSpec := { name := "trieMatch", fn := fun _ => fun
  | [d1, d2] => { results := [.lit (.bool false)], args := [d1, d2] }
  | _ => none }
def TrieMatchWrongFalsely : Prop := trieMatchRow.holds Try.pinned (OpenSpec.ofChange trieMatchWrong)

/-- 'signpostlaw3.TrieParts': WHATEVER THE INPUT: true; the input reads as it did. -/
def triePartsSpec : ChangeSpec := { name := "trieParts", fn := fun _ => fun
  | [d1, d2] => { results := [.lit (.bool true)], args := [d1, d2] }
  | _ => none }
def triePartsRow : OpenClaim := { program := "ytjjjomeemfmihaa", sum := "f912f32fa2e0c4ae01035d48e54004c218dcbd5456b2a26fb9696608119b7bfb", func := "signpost/signpostlaw3.TrieParts", spec := "trieParts", recurses := true, apart := false }
def TriePartsSaid : Prop := triePartsRow.holds Try.pinned (OpenSpec.ofChange triePartsSpec)

/-- ITS FALSE NEIGHBOUR: 'it returns false'. Refute it at one input. -/
def triePartsWrong : ChangeSpec := { name := "trieParts", fn := fun _ => fun
  | [d1, d2] => { results := [.lit (.bool false)], args := [d1, d2] }
  | _ => none }
def TriePartsWrongFalsely : Prop := triePartsRow.holds Try.pinned (OpenSpec.ofChange triePartsWrong)

/-- 'signpostlaw3.TrieBack': WHATEVER THE INPUT: true; the input reads as it did. -/
def trieBackSpec : ChangeSpec := { name := "trieBack", fn := fun _ => fun
  | [d1, d2, d3] => { results := [.lit (.bool true)], args := [d1, d2, d3] }
  | _ => none }
def trieBackRow : OpenClaim := { program := "ytjjjomeemfmihaa", sum := "f912f32fa2e0c4ae01035d48e54004c218dcbd5456b2a26fb9696608119b7bfb", func := "signpost/signpostlaw3.TrieBack", spec := "trieBack", recurses := true, apart := false }
def TrieBackSaid : Prop := trieBackRow.holds Try.pinned (OpenSpec.ofChange trieBackSpec)

/-- ITS FALSE NEIGHBOUR: 'it returns false'. Refute it at one input. -/
def trieBackWrong : ChangeSpec := { name := "trieBack", fn := fun _ => fun
  | [d1, d2, d3] => { results := [.lit (.bool false)], args := [d1, d2, d3] }
  | _ => none }
def TrieBackWrongFalsely : Prop := trieBackRow.holds Try.pinned (OpenSpec.ofChange trieBackWrong)

/-- 'signpostlaw3.TrieNumbers': WHATEVER THE INPUT: true; the input reads as it did. -/
def trieNumbersSpec : ChangeSpec := { name := "trieNumbers", fn := fun _ => fun
  | [] => { results := [.lit (.bool true)], args := [] }
  | _ => none }
def trieNumbersRow : OpenClaim := { program := "ytjjjomeemfmihaa", sum := "f912f32fa2e0c4ae01035d48e54004c218dcbd5456b2a26fb9696608119b7bfb", func := "signpost/signpostlaw3.TrieNumbers", spec := "trieNumbers", recurses := true, apart := false }
def TrieNumbersSaid : Prop := trieNumbersRow.holds Try.pinned (OpenSpec.ofChange trieNumbersSpec)

/-- ITS FALSE NEIGHBOUR: 'it returns false'. Refute it at one input. -/
def trieNumbersWrong : ChangeSpec := { name := "trieNumbers", fn := fun _ => fun
  | [] => { results := [.lit (.bool false)], args := [] }
  | _ => none }
def TrieNumbersWrongFalsely : Prop := trieNumbersRow.holds Try.pinned (OpenSpec.ofChange trieNumbersWrong)

/-- 'signpostlaw3.TriePlays': WHATEVER THE INPUT: true; the input reads as it did. -/
def triePlaysSpec : ChangeSpec := { name := "triePlays", fn := fun _ => fun
  | [d] => { results := [.lit (.bool true)], args := [d] }
  | _ => none }
def triePlaysRow : OpenClaim := { program := "ytjjjomeemfmihaa", sum := "f912f32fa2e0c4ae01035d48e54004c218dcbd5456b2a26fb9696608119b7bfb", func := "signpost/signpostlaw3.TriePlays", spec := "triePlays", recurses := true, apart := false }
def TriePlaysSaid : Prop := triePlaysRow.holds Try.pinned (OpenSpec.ofChange triePlaysSpec)

/-- ITS FALSE NEIGHBOUR: 'it returns false'. Refute it at one input. -/
def triePlaysWrong : ChangeSpec := { name := "triePlays", fn := fun _ => fun
  | [d] => { results := [.lit (.bool false)], args := [d] }
  | _ => none }
def TriePlaysWrongFalsely : Prop := triePlaysRow.holds Try.pinned (OpenSpec.ofChange triePlaysWrong)

/-- 'signpostlaw3.TrieSmall': WHATEVER THE INPUT: true; the input reads as it did. -/
def trieSmallSpec : ChangeSpec := { name := "trieSmall", fn := fun _ => fun
  | [d] => { results := [.lit (.bool true)], args := [d] }
  | _ => none }
def trieSmallRow : OpenClaim := { program := "ytjjjomeemfmihaa", sum := "f912f32fa2e0c4ae01035d48e54004c218dcbd5456b2a26fb9696608119b7bfb", func := "signpost/signpostlaw3.TrieSmall", spec := "trieSmall", recurses := true, apart := false }
def TrieSmallSaid : Prop := trieSmallRow.holds Try.pinned (OpenSpec.ofChange trieSmallSpec)

/-- ITS FALSE NEIGHBOUR: 'it returns false'. Refute it at one input. -/
def trieSmallWrong : ChangeSpec := { name := "trieSmall", fn := fun _ => fun
  | [d] => { results := [.lit (.bool false)], args := [d] }
  | _ => none }
def TrieSmallWrongFalsely : Prop := trieSmallRow.holds Try.pinned (OpenSpec.ofChange trieSmallWrong)

/- THE SECOND FORM. 'bulk': how many values and letters a reading holds, each counted each time it is reached (what is shared counts as often as it is met; a slice's spare places count too). A statement '..UptoSaid' is the law's where the arguments, and the package variables that the reading takes, are together of bulk at most 1048576: NARROWER than '..Said'. Prove '..Said' where nothing that the law and all that it calls make is longer than what came in: it says more and counts as full. Else prove '..UptoSaid'. A law counts once. -/
mutual
def uptoBulk {H : Type} : DataW H → Nat
  | .lit (.string bytes) => bytes.length + 1
  | .lit _ => 1
  | .nil => 1
  | .ptr d => uptoBulk d + 1
  | .slice elems spare => uptoBulkAll elems + uptoBulkAll spare + 1
  | .agg parts => uptoBulkAll parts + 1
  | .iface _ d => uptoBulk d + 1
  | .map entries => uptoBulkEntries entries + 1
  | .held _ => 1
def uptoBulkAll {H : Type} : List (DataW H) → Nat
  | [] => 0
  | d :: r => uptoBulk d + uptoBulkAll r
def uptoBulkEntries {H : Type} : List (Lit × DataW H) → Nat
  | [] => 0
  | x :: r => uptoBulkEntry x + uptoBulkEntries r
def uptoBulkEntry {H : Type} : Lit × DataW H → Nat
  | (.string bytes, d) => bytes.length + uptoBulk d + 1
  | (_, d) => uptoBulk d + 1
 end
def uptoSmall : (H : Type) → List (DataW H) → Bool := fun _ ds => decide (uptoBulkAll ds ≤ 1048576)
def OpenSpec.upto (s : _root_.Go.ChangeSpec) : _root_.Go.OpenSpec := { _root_.Go.OpenSpec.ofChange s with cond := some uptoSmall }

/-- 'signpostlaw3.TrieOrder', WHERE WHAT IT READS IS OF BULK AT MOST 1048576: true; the input reads as it did. -/
def trieOrderUptoRow : OpenClaim := { program := "ytjjjomeemfmihaa", sum := "f912f32fa2e0c4ae01035d48e54004c218dcbd5456b2a26fb9696608119b7bfb", func := "signpost/signpostlaw3.TrieOrder", spec := "trieOrder", recurses := true, apart := false, narrowed := true }
def TrieOrderUptoSaid : Prop := trieOrderUptoRow.holds Try.pinned (OpenSpec.upto trieOrderSpec)

/-- 'signpostlaw3.TrieMatch', WHERE WHAT IT READS IS OF BULK AT MOST 1048576: true; the input reads as it did. -/
def trieMatchUptoRow : OpenClaim := { program := "ytjjjomeemfmihaa", sum := "f912f32fa2e0c4ae01035d48e54004c218dcbd5456b2a26fb9696608119b7bfb", func := "signpost/signpostlaw3.TrieMatch", spec := "trieMatch", recurses := true, apart := false, narrowed := true }
def TrieMatchUptoSaid : Prop := trieMatchUptoRow.holds Try.pinned (OpenSpec.upto trieMatchSpec)

/-- 'signpostlaw3.TrieParts', WHERE WHAT IT READS IS OF BULK AT MOST 1048576: true; the input reads as it did. -/
def triePartsUptoRow : OpenClaim := { program := "ytjjjomeemfmihaa", sum := "f912f32fa2e0c4ae01035d48e54004c218dcbd5456b2a26fb9696608119b7bfb", func := "signpost/signpostlaw3.TrieParts", spec := "trieParts", recurses := true, apart := false, narrowed := true }
def TriePartsUptoSaid : Prop := triePartsUptoRow.holds Try.pinned (OpenSpec.upto triePartsSpec)

/-- 'signpostlaw3.TrieBack', WHERE WHAT IT READS IS OF BULK AT MOST 1048576: true; the input reads as it did. -/
def trieBackUptoRow : OpenClaim := { program := "ytjjjomeemfmihaa", sum := "f912f32fa2e0c4ae01035d48e54004c218dcbd5456b2a26fb9696608119b7bfb", func := "signpost/signpostlaw3.TrieBack", spec := "trieBack", recurses := true, apart := false, narrowed := true }
def TrieBackUptoSaid : Prop := trieBackUptoRow.holds Try.pinned (OpenSpec.upto trieBackSpec)

/-- 'signpostlaw3.TrieNumbers', WHERE WHAT IT READS IS OF BULK AT MOST 1048576: true; the input reads as it did. -/
def trieNumbersUptoRow : OpenClaim := { program := "ytjjjomeemfmihaa", sum := "f912f32fa2e0c4ae01035d48e54004c218dcbd5456b2a26fb9696608119b7bfb", func := "signpost/signpostlaw3.TrieNumbers", spec := "trieNumbers", recurses := true, apart := false, narrowed := true }
def TrieNumbersUptoSaid : Prop := trieNumbersUptoRow.holds Try.pinned (OpenSpec.upto trieNumbersSpec)

/-- 'signpostlaw3.TriePlays', WHERE WHAT IT READS IS OF BULK AT MOST 1048576: true; the input reads as it did. -/
def triePlaysUptoRow : OpenClaim := { program := "ytjjjomeemfmihaa", sum := "f912f32fa2e0c4ae01035d48e54004c218dcbd5456b2a26fb9696608119b7bfb", func := "signpost/signpostlaw3.TriePlays", spec := "triePlays", recurses := true, apart := false, narrowed := true }
def TriePlaysUptoSaid : Prop := triePlaysUptoRow.holds Try.pinned (OpenSpec.upto triePlaysSpec)

/-- 'signpostlaw3.TrieSmall', WHERE WHAT IT READS IS OF BULK AT MOST 1048576: true; the input reads as it did. -/
def trieSmallUptoRow : OpenClaim := { program := "ytjjjomeemfmihaa", sum := "f912f32fa2e0c4ae01035d48e54004c218dcbd5456b2a26fb9696608119b7bfb", func := "signpost/signpostlaw3.TrieSmall", spec := "trieSmall", recurses := true, apart := false, narrowed := true }
def TrieSmallUptoSaid : Prop := trieSmallUptoRow.holds Try.pinned (OpenSpec.upto trieSmallSpec)

end Rows
end Go.Proofs.Ytjjjomeemfmihaa
