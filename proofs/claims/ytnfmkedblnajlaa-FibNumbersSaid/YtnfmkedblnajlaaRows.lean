/-
  No cell of these rows narrows 'for every input' (looked for: loops, veiled, ifaces, maps, wideKeys, modest, calm, conditions, laid).
  DERIVED. THE GIVEN ROWS OF THIS SEAT. 4 by the template 'for every input the law returns true; each argument reads behind the call as it read before'; 0 by the template 'total and deterministic' (their statements: YtnfmkedblnajlaaTotals.lean).
  GIVEN WITH THE SEED: the statements are not yours to turn. If you find one false, say at which input.
  Laid BY PROGRAM, IN A SANDBOX (cutbox-rows.mjs): the forced cells as the released guide's own fill.sh prints them over the translation e06c921307efbf36… (all of the seat's roots in one cut). By AI agents, Wed Nov 11 2026. No macro, syntax, notation, axiom, sorry.
-/
import Derived.Test.YtnfmkedblnajlaaChecked
import GoSem.Claim
import GoSem.ClaimJoined
import GoSem.ClaimMapViews
import Derived.JoinedTies
import Derived.KernelRfl
namespace Go.Proofs.Ytnfmkedblnajlaa
/- THE CELL 'sum', in the pinned program and in every row, IS THE sha256 OF THE DUMP (.gsa) THAT YtnfmkedblnajlaaProg.lean LOADS. Nothing in Lean hashes anything: it is a label: what it is worth is what the hold of that sum in a sandbox is worth. -/
noncomputable def Try.pinned : Pinned := { name := "ytnfmkedblnajlaa", sum := "e06c921307efbf369d1b0cc0c56342a27e4be956f4ce2b7527486de75660b8a4", checked := Try.checked }
namespace Rows
def none {H : Type} : Left H := { results := [], args := [] }

/-- 'signpostlaw25.FibMatch': WHATEVER THE INPUT: true; the input reads as it did. -/
def fibMatchSpec : ChangeSpec := { name := "fibMatch", fn := fun _ => fun
  | [d1, d2] => { results := [.lit (.bool true)], args := [d1, d2] }
  | _ => none }
def fibMatchRow : OpenClaim := { program := "ytnfmkedblnajlaa", sum := "e06c921307efbf369d1b0cc0c56342a27e4be956f4ce2b7527486de75660b8a4", func := "signpost/signpostlaw25.FibMatch", spec := "fibMatch", plainKeys := false, apart := false }
def FibMatchSaid : Prop := fibMatchRow.holds Try.pinned (OpenSpec.ofChange fibMatchSpec)

/-- ITS FALSE NEIGHBOUR: 'it returns false'. Refute it at one input. -/
def fibMatchWrong : ChangeSpec := { name := "fibMatch", fn := fun _ => fun
  | [d1, d2] => { results := [.lit (.bool false)], args := [d1, d2] }
  | _ => none }
def FibMatchWrongFalsely : Prop := fibMatchRow.holds Try.pinned (OpenSpec.ofChange fibMatchWrong)

/-- 'signpostlaw25.FibRefused': WHATEVER THE INPUT: true; the input reads as it did. -/
def fibRefusedSpec : ChangeSpec := { name := "fibRefused", fn := fun _ => fun
  | [d1, d2] => { results := [.lit (.bool true)], args := [d1, d2] }
  | _ => none }
def fibRefusedRow : OpenClaim := { program := "ytnfmkedblnajlaa", sum := "e06c921307efbf369d1b0cc0c56342a27e4be956f4ce2b7527486de75660b8a4", func := "signpost/signpostlaw25.FibRefused", spec := "fibRefused", recurses := true, plainKeys := false, apart := false }
def FibRefusedSaid : Prop := fibRefusedRow.holds Try.pinned (OpenSpec.ofChange fibRefusedSpec)

/-- ITS FALSE NEIGHBOUR: 'it returns false'. Refute it at one input. -/
def fibRefusedWrong : ChangeSpec := { name := "fibRefused", fn := fun _ => fun
  | [d1, d2] => { results := [.lit (.bool false)], args := [d1, d2] }
  | _ => none }
def FibRefusedWrongFalsely : Prop := fibRefusedRow.holds Try.pinned (OpenSpec.ofChange fibRefusedWrong)

/-- 'signpostlaw25.FibNumbers': WHATEVER THE INPUT: true; the input reads as it did. -/
def fibNumbersSpec : ChangeSpec := { name := "fibNumbers", fn := fun _ => fun
  | [] => { results := [.lit (.bool true)], args := [] }
  | _ => none }
def fibNumbersRow : OpenClaim := { program := "ytnfmkedblnajlaa", sum := "e06c921307efbf369d1b0cc0c56342a27e4be956f4ce2b7527486de75660b8a4", func := "signpost/signpostlaw25.FibNumbers", spec := "fibNumbers", recurses := true, plainKeys := false, apart := false }
def FibNumbersSaid : Prop := fibNumbersRow.holds Try.pinned (OpenSpec.ofChange fibNumbersSpec)

/-- ITS FALSE NEIGHBOUR: 'it returns false'. Refute it at one input. -/
def fibNumbersWrong : ChangeSpec := { name := "fibNumbers", fn := fun _ => fun
  | [] => { results := [.lit (.bool false)], args := [] }
  | _ => none }
def FibNumbersWrongFalsely : Prop := fibNumbersRow.holds Try.pinned (OpenSpec.ofChange fibNumbersWrong)

/-- 'signpostlaw25.FibPlays': WHATEVER THE INPUT: true; the input reads as it did. -/
def fibPlaysSpec : ChangeSpec := { name := "fibPlays", fn := fun _ => fun
  | [d1, d2] => { results := [.lit (.bool true)], args := [d1, d2] }
  | _ => none }
def fibPlaysRow : OpenClaim := { program := "ytnfmkedblnajlaa", sum := "e06c921307efbf369d1b0cc0c56342a27e4be956f4ce2b7527486de75660b8a4", func := "signpost/signpostlaw25.FibPlays", spec := "fibPlays", recurses := true, plainKeys := false, apart := false }
def FibPlaysSaid : Prop := fibPlaysRow.holds Try.pinned (OpenSpec.ofChange fibPlaysSpec)

/-- ITS FALSE NEIGHBOUR: 'it returns false'. Refute it at one input. -/
def fibPlaysWrong : ChangeSpec := { name := "fibPlays", fn := fun _ => fun
  | [d1, d2] => { results := [.lit (.bool false)], args := [d1, d2] }
  | _ => none }
def FibPlaysWrongFalsely : Prop := fibPlaysRow.holds Try.pinned (OpenSpec.ofChange fibPlaysWrong)

/- THE SECOND FORM. 'bulk': how many values and letters a reading holds, each counted each time it is reached (what is shared counts as often as it is met; a slice's spare places count too). A statement '..UptoSaid' is the law's where the arguments, and the package variables that the reading takes, are together of bulk at most 1048576: NARROWER than '..Said'. Prove '..Said' where nothing that the law and all that it calls make is longer than what came in: it says more and counts as full. Else prove '..UptoSaid'. A law counts once. -/
mutual
def uptoBulk {H : Type} : DataW H → Nat
  | .lit (.string bytes) => bytes.length + 1
  | .lit _ => 1
  | .nil => 1
  | .ptr d => uptoBulk d + 1
  | .slice elems spare => uptoBulkAll elems + uptoBulkAll spare + 1
  | .agg parts => uptoBulkAll parts + 1
  | .iface _ d => uptoBulk d + 1
  | .map entries => uptoBulkEntries entries + 1
  | .held _ => 1
def uptoBulkAll {H : Type} : List (DataW H) → Nat
  | [] => 0
  | d :: r => uptoBulk d + uptoBulkAll r
def uptoBulkEntries {H : Type} : List (Lit × DataW H) → Nat
  | [] => 0
  | x :: r => uptoBulkEntry x + uptoBulkEntries r
def uptoBulkEntry {H : Type} : Lit × DataW H → Nat
  | (.string bytes, d) => bytes.length + uptoBulk d + 1
  | (_, d) => uptoBulk d + 1
 end
def uptoSmall : (H : Type) → List (DataW H) → Bool := fun _ ds => decide (uptoBulkAll ds ≤ 1048576)
def OpenSpec.upto (s : _root_.Go.ChangeSpec) : _root_.Go.OpenSpec := { _root_.Go.OpenSpec.ofChange s with cond := some uptoSmall }

/-- 'signpostlaw25.FibMatch', WHERE WHAT IT READS IS OF BULK AT MOST 1048576: true; the input reads as it did. -/
def fibMatchUptoRow : OpenClaim := { program := "ytnfmkedblnajlaa", sum := "e06c921307efbf369d1b0cc0c56342a27e4be956f4ce2b7527486de75660b8a4", func := "signpost/signpostlaw25.FibMatch", spec := "fibMatch", plainKeys := false, apart := false, narrowed := true }
def FibMatchUptoSaid : Prop := fibMatchUptoRow.holds Try.pinned (OpenSpec.upto fibMatchSpec)

/-- 'signpostlaw25.FibRefused', WHERE WHAT IT READS IS OF BULK AT MOST 1048576: true; the input reads as it did. -/
def fibRefusedUptoRow : OpenClaim := { program := "ytnfmkedblnajlaa", sum := "e06c921307efbf369d1b0cc0c56342a27e4be956f4ce2b7527486de75660b8a4", func := "signpost/signpostlaw25.FibRefused", spec := "fibRefused", recurses := true, plainKeys := false, apart := false, narrowed := true }
def FibRefusedUptoSaid : Prop := fibRefusedUptoRow.holds Try.pinned (OpenSpec.upto fibRefusedSpec)

/-- 'signpostlaw25.FibNumbers', WHERE WHAT IT READS IS OF BULK AT MOST 1048576: true; the input reads as it did. -/
def fibNumbersUptoRow : OpenClaim := { program := "ytnfmkedblnajlaa", sum := "e06c921307efbf369d1b0cc0c56342a27e4be956f4ce2b7527486de75660b8a4", func := "signpost/signpostlaw25.FibNumbers", spec := "fibNumbers", recurses := true, plainKeys := false, apart := false, narrowed := true }
def FibNumbersUptoSaid : Prop := fibNumbersUptoRow.holds Try.pinned (OpenSpec.upto fibNumbersSpec)

/-- 'signpostlaw25.FibPlays', WHERE WHAT IT READS IS OF BULK AT MOST 1048576: true; the input reads as it did. -/
def fibPlaysUptoRow : OpenClaim := { program := "ytnfmkedblnajlaa", sum := "e06c921307efbf369d1b0cc0c56342a27e4be956f4ce2b7527486de75660b8a4", func := "signpost/signpostlaw25.FibPlays", spec := "fibPlays", recurses := true, plainKeys := false, apart := false, narrowed := true }
def FibPlaysUptoSaid : Prop := fibPlaysUptoRow.holds Try.pinned (OpenSpec.upto fibPlaysSpec)

end Rows
end Go.Proofs.Ytnfmkedblnajlaa
