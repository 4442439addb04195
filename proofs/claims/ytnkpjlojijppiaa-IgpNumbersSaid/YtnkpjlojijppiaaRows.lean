/-
  No cell of these rows narrows 'for every input' (looked for: loops, veiled, ifaces, maps, wideKeys, modest, calm, conditions, laid).
  DERIVED. THE GIVEN ROWS OF THIS SEAT. 4 by the template 'for every input the law returns true; each argument reads behind the call as it read before'; 0 by the template 'total and deterministic' (their statements: YtnkpjlojijppiaaTotals.lean).
  GIVEN WITH THE SEED: the statements are not yours to turn. If you find one false, say at which input.
  Laid BY PROGRAM, IN A SANDBOX (cutbox-rows.mjs): the forced cells as the released guide's own fill.sh prints them over the translation 26a1e91245a6ab0c… (all of the seat's roots in one cut). By AI agents, Wed Nov 11 2026. No macro, syntax, notation, axiom, sorry.
-/
import Derived.Test.YtnkpjlojijppiaaChecked
import GoSem.Claim
import GoSem.ClaimJoined
import GoSem.ClaimMapViews
import Derived.JoinedTies
import Derived.KernelRfl
namespace Go.Proofs.Ytnkpjlojijppiaa
/- THE CELL 'sum', in the pinned program and in every row, IS THE sha256 OF THE DUMP (.gsa) THAT YtnkpjlojijppiaaProg.lean LOADS. Nothing in Lean hashes anything: it is a label: what it is worth is what the hold of that sum in a sandbox is worth. -/
noncomputable def Try.pinned : Pinned := { name := "ytnkpjlojijppiaa", sum := "26a1e91245a6ab0cd67b9602cfb640aaa3bd539719fd7a291c42ff2865dce7eb", checked := Try.checked }
namespace Rows
def none {H : Type} : Left H := { results := [], args := [] }

/-- 'signpostlaw15.IgpMatch': WHATEVER THE INPUT: true; the input reads as it did. -/
def igpMatchSpec : ChangeSpec := { name := "igpMatch", fn := fun _ => fun
  | [d1, d2] => { results := [.lit (.bool true)], args := [d1, d2] }
  | _ => none }
def igpMatchRow : OpenClaim := { program := "ytnkpjlojijppiaa", sum := "26a1e91245a6ab0cd67b9602cfb640aaa3bd539719fd7a291c42ff2865dce7eb", func := "signpost/signpostlaw15.IgpMatch", spec := "igpMatch", inPlace := ["math.Float64frombits", "math.Float64bits"], recurses := true, plainKeys := false, apart := false }
def IgpMatchSaid : Prop := igpMatchRow.holds Try.pinned (OpenSpec.ofChange igpMatchSpec)

/-- ITS FALSE NEIGHBOUR: 'it returns false'. Refute it at one input. -/
def igpMatchWrong : ChangeSpec := { name := "igpMatch", fn := fun _ => fun
  | [d1, d2] => { results := [.lit (.bool false)], args := [d1, d2] }
  | _ => none }
def IgpMatchWrongFalsely : Prop := igpMatchRow.holds Try.pinned (OpenSpec.ofChange igpMatchWrong)

/-- 'signpostlaw15.IgpPlays': WHATEVER THE INPUT: true; the input reads as it did. -/
def igpPlaysSpec : ChangeSpec := { name := "igpPlays", fn := fun _ => fun
  | [d] => { results := [.lit (.bool true)], args := [d] }
  | _ => none }
def igpPlaysRow : OpenClaim := { program := "ytnkpjlojijppiaa", sum := "26a1e91245a6ab0cd67b9602cfb640aaa3bd539719fd7a291c42ff2865dce7eb", func := "signpost/signpostlaw15.IgpPlays", spec := "igpPlays", inPlace := ["math.Float64frombits", "math.Float64bits"], recurses := true, plainKeys := false, apart := false }
def IgpPlaysSaid : Prop := igpPlaysRow.holds Try.pinned (OpenSpec.ofChange igpPlaysSpec)

/-- ITS FALSE NEIGHBOUR: 'it returns false'. Refute it at one input. -/
def igpPlaysWrong : ChangeSpec := { name := "igpPlays", fn := fun _ => fun
  | [d] => { results := [.lit (.bool false)], args := [d] }
  | _ => none }
def IgpPlaysWrongFalsely : Prop := igpPlaysRow.holds Try.pinned (OpenSpec.ofChange igpPlaysWrong)

/-- 'signpostlaw15.IgpTurns': WHATEVER THE INPUT: true; the input reads as it did. -/
def igpTurnsSpec : ChangeSpec := { name := "igpTurns", fn := fun _ => fun
  | [d1, d2, d3] => { results := [.lit (.bool true)], args := [d1, d2, d3] }
  | _ => none }
def igpTurnsRow : OpenClaim := { program := "ytnkpjlojijppiaa", sum := "26a1e91245a6ab0cd67b9602cfb640aaa3bd539719fd7a291c42ff2865dce7eb", func := "signpost/signpostlaw15.IgpTurns", spec := "igpTurns", inPlace := ["math.Float64frombits", "math.Float64bits"], recurses := true, plainKeys := false, apart := false }
def IgpTurnsSaid : Prop := igpTurnsRow.holds Try.pinned (OpenSpec.ofChange igpTurnsSpec)

/-- ITS FALSE NEIGHBOUR: 'it returns false'. Refute it at one input. -/
def igpTurnsWrong : ChangeSpec := { name := "igpTurns", fn := fun _ => fun
  | [d1, d2, d3] => { results := [.lit (.bool false)], args := [d1, d2, d3] }
  | _ => none }
def IgpTurnsWrongFalsely : Prop := igpTurnsRow.holds Try.pinned (OpenSpec.ofChange igpTurnsWrong)

/-- 'signpostlaw15.IgpNumbers': WHATEVER THE INPUT: true; the input reads as it did. -/
def igpNumbersSpec : ChangeSpec := { name := "igpNumbers", fn := fun _ => fun
  | [] => { results := [.lit (.bool true)], args := [] }
  | _ => none }
def igpNumbersRow : OpenClaim := { program := "ytnkpjlojijppiaa", sum := "26a1e91245a6ab0cd67b9602cfb640aaa3bd539719fd7a291c42ff2865dce7eb", func := "signpost/signpostlaw15.IgpNumbers", spec := "igpNumbers", inPlace := ["math.Float64bits", "math.Float64frombits"], recurses := true, plainKeys := false, apart := false }
def IgpNumbersSaid : Prop := igpNumbersRow.holds Try.pinned (OpenSpec.ofChange igpNumbersSpec)

/-- ITS FALSE NEIGHBOUR: 'it returns false'. Refute it at one input. -/
def igpNumbersWrong : ChangeSpec := { name := "igpNumbers", fn := fun _ => fun
  | [] => { results := [.lit (.bool false)], args := [] }
  | _ => none }
def IgpNumbersWrongFalsely : Prop := igpNumbersRow.holds Try.pinned (OpenSpec.ofChange igpNumbersWrong)

/- THE SECOND FORM. 'bulk': how many values and letters a reading holds, each counted each time it is reached (what is shared counts as often as it is met; a slice's spare places count too). A statement '..UptoSaid' is the law's where the arguments, and the package variables that the reading takes, are together of bulk at most 1048576: NARROWER than '..Said'. Prove '..Said' where nothing that the law and all that it calls make is longer than what came in: it says more and counts as full. Else prove '..UptoSaid'. A law counts once. -/
mutual
def uptoBulk {H : Type} : DataW H → Nat
  | .lit (.string bytes) => bytes.length + 1
  | .lit _ => 1
  | .nil => 1
  | .ptr d => uptoBulk d + 1
  | .slice elems spare => uptoBulkAll elems + uptoBulkAll spare + 1
  | .agg parts => uptoBulkAll parts + 1
  | .iface _ d => uptoBulk d + 1
  | .map entries => uptoBulkEntries entries + 1
  | .held _ => 1
def uptoBulkAll {H : Type} : List (DataW H) → Nat
  | [] => 0
  | d :: r => uptoBulk d + uptoBulkAll r
def uptoBulkEntries {H : Type} : List (Lit × DataW H) → Nat
  | [] => 0
  | x :: r => uptoBulkEntry x + uptoBulkEntries r
def uptoBulkEntry {H : Type} : Lit × DataW H → Nat
  | (.string bytes, d) => bytes.length + uptoBulk d + 1
  | (_, d) => uptoBulk d + 1
 end
def uptoSmall : (H : Type) → List (DataW H) → Bool := fun _ ds => decide (uptoBulkAll ds ≤ 1048576)
def OpenSpec.upto (s : _root_.Go.ChangeSpec) : _root_.Go.OpenSpec := { _root_.Go.OpenSpec.ofChange s with cond := some uptoSmall }

/-- 'signpostlaw15.IgpMatch', WHERE WHAT IT READS IS OF BULK AT MOST 1048576: true; the input reads as it did. -/
def igpMatchUptoRow : OpenClaim := { program := "ytnkpjlojijppiaa", sum := "26a1e91245a6ab0cd67b9602cfb640aaa3bd539719fd7a291c42ff2865dce7eb", func := "signpost/signpostlaw15.IgpMatch", spec := "igpMatch", inPlace := ["math.Float64frombits", "math.Float64bits"], recurses := true, plainKeys := false, apart := false, narrowed := true }
def IgpMatchUptoSaid : Prop := igpMatchUptoRow.holds Try.pinned (OpenSpec.upto igpMatchSpec)

/-- 'signpostlaw15.IgpPlays', WHERE WHAT IT READS IS OF BULK AT MOST 1048576: true; the input reads as it did. -/
def igpPlaysUptoRow : OpenClaim := { program := "ytnkpjlojijppiaa", sum := "26a1e91245a6ab0cd67b9602cfb640aaa3bd539719fd7a291c42ff2865dce7eb", func := "signpost/signpostlaw15.IgpPlays", spec := "igpPlays", inPlace := ["math.Float64frombits", "math.Float64bits"], recurses := true, plainKeys := false, apart := false, narrowed := true }
def IgpPlaysUptoSaid : Prop := igpPlaysUptoRow.holds Try.pinned (OpenSpec.upto igpPlaysSpec)

/-- 'signpostlaw15.IgpTurns', WHERE WHAT IT READS IS OF BULK AT MOST 1048576: true; the input reads as it did. -/
def igpTurnsUptoRow : OpenClaim := { program := "ytnkpjlojijppiaa", sum := "26a1e91245a6ab0cd67b9602cfb640aaa3bd539719fd7a291c42ff2865dce7eb", func := "signpost/signpostlaw15.IgpTurns", spec := "igpTurns", inPlace := ["math.Float64frombits", "math.Float64bits"], recurses := true, plainKeys := false, apart := false, narrowed := true }
def IgpTurnsUptoSaid : Prop := igpTurnsUptoRow.holds Try.pinned (OpenSpec.upto igpTurnsSpec)

/-- 'signpostlaw15.IgpNumbers', WHERE WHAT IT READS IS OF BULK AT MOST 1048576: true; the input reads as it did. -/
def igpNumbersUptoRow : OpenClaim := { program := "ytnkpjlojijppiaa", sum := "26a1e91245a6ab0cd67b9602cfb640aaa3bd539719fd7a291c42ff2865dce7eb", func := "signpost/signpostlaw15.IgpNumbers", spec := "igpNumbers", inPlace := ["math.Float64bits", "math.Float64frombits"], recurses := true, plainKeys := false, apart := false, narrowed := true }
def IgpNumbersUptoSaid : Prop := igpNumbersUptoRow.holds Try.pinned (OpenSpec.upto igpNumbersSpec)

end Rows
end Go.Proofs.Ytnkpjlojijppiaa
