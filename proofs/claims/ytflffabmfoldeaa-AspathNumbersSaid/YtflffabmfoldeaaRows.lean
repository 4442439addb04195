/-
  No cell of these rows narrows 'for every input' (looked for: loops, veiled, ifaces, maps, wideKeys, modest, calm, conditions, laid).
  DERIVED. THE GIVEN ROWS OF THIS SEAT. 6 by the template 'for every input the law returns true; each argument reads behind the call as it read before'; 0 by the template 'total and deterministic' (their statements: YtflffabmfoldeaaTotals.lean).
  GIVEN WITH THE SEED: the statements are not yours to turn. If you find one false, say at which input.
  Laid BY PROGRAM, IN A SANDBOX (cutbox-rows.mjs): the forced cells as the released guide's own fill.sh prints them over the translation edb38a5b6c12d690… (all of the seat's roots in one cut). By AI agents, Wed Nov 11 2026. No macro, syntax, notation, axiom, sorry.
-/
import Derived.Test.YtflffabmfoldeaaChecked
import GoSem.Claim
import GoSem.ClaimJoined
import GoSem.ClaimMapViews
import Derived.JoinedTies
import Derived.KernelRfl
namespace Go.Proofs.Ytflffabmfoldeaa
/- THE CELL 'sum', in the pinned program and in every row, IS THE sha256 OF THE DUMP (.gsa) THAT YtflffabmfoldeaaProg.lean LOADS. Nothing in Lean hashes anything: it is a label: what it is worth is what the hold of that sum in a sandbox is worth. -/
noncomputable def Try.pinned : Pinned := { name := "ytflffabmfoldeaa", sum := "edb38a5b6c12d690ad76b499bb72aa835083a492b13f04e2849839bfb0f30aeb", checked := Try.checked }
namespace Rows
def none {H : Type} : Left H := { results := [], args := [] }

/-- 'signpostlaw6.AspathSets': WHATEVER THE INPUT: true; the input reads as it did. -/
def aspathSetsSpec : ChangeSpec := { name := "aspathSets", fn := fun _ => fun
  | [d1, d2] => { results := [.lit (.bool true)], args := [d1, d2] }
  | _ => none }
def aspathSetsRow : OpenClaim := { program := "ytflffabmfoldeaa", sum := "edb38a5b6c12d690ad76b499bb72aa835083a492b13f04e2849839bfb0f30aeb", func := "signpost/signpostlaw6.AspathSets", spec := "aspathSets", inPlace := ["slices.overlaps[uint32]", "slices.overlaps[signpost/api.Seg]"], apart := false }
def AspathSetsSaid : Prop := aspathSetsRow.holds Try.pinned (OpenSpec.ofChange aspathSetsSpec)

/-- ITS FALSE NEIGHBOUR: 'it returns false'. Refute it at one input. -/
def aspathSetsWrong : ChangeSpec := { name := "aspathSets", fn := fun _ => fun
  | [d1, d2] => { results := [.lit (.bool false)], args := [d1, d2] }
  | _ => none }
def AspathSetsWrongFalsely : Prop := aspathSetsRow.holds Try.pinned (OpenSpec.ofChange aspathSetsWrong)

/-- 'signpostlaw6.AspathRules': WHATEVER THE INPUT: true; the input reads as it did. -/
def aspathRulesSpec : ChangeSpec := { name := "aspathRules", fn := fun _ => fun
  | [d1, d2, d3, d4] => { results := [.lit (.bool true)], args := [d1, d2, d3, d4] }
  | _ => none }
def aspathRulesRow : OpenClaim := { program := "ytflffabmfoldeaa", sum := "edb38a5b6c12d690ad76b499bb72aa835083a492b13f04e2849839bfb0f30aeb", func := "signpost/signpostlaw6.AspathRules", spec := "aspathRules", inPlace := ["slices.overlaps[uint32]", "slices.overlaps[signpost/api.Seg]"], unfollowed := true, recurses := true, apart := false }
def AspathRulesSaid : Prop := aspathRulesRow.holds Try.pinned (OpenSpec.ofChange aspathRulesSpec)

/-- ITS FALSE NEIGHBOUR: 'it returns false'. Refute it at one input. -/
def aspathRulesWrong : ChangeSpec := { name := "aspathRules", fn := fun _ => fun
  | [d1, d2, d3, d4] => { results := [.lit (.bool false)], args := [d1, d2, d3, d4] }
  | _ => none }
def AspathRulesWrongFalsely : Prop := aspathRulesRow.holds Try.pinned (OpenSpec.ofChange aspathRulesWrong)

/-- 'signpostlaw6.AspathJoins': WHATEVER THE INPUT: true; the input reads as it did. -/
def aspathJoinsSpec : ChangeSpec := { name := "aspathJoins", fn := fun _ => fun
  | [d1, d2, d3] => { results := [.lit (.bool true)], args := [d1, d2, d3] }
  | _ => none }
def aspathJoinsRow : OpenClaim := { program := "ytflffabmfoldeaa", sum := "edb38a5b6c12d690ad76b499bb72aa835083a492b13f04e2849839bfb0f30aeb", func := "signpost/signpostlaw6.AspathJoins", spec := "aspathJoins", inPlace := ["slices.overlaps[uint32]", "slices.overlaps[signpost/api.Seg]"], apart := false }
def AspathJoinsSaid : Prop := aspathJoinsRow.holds Try.pinned (OpenSpec.ofChange aspathJoinsSpec)

/-- ITS FALSE NEIGHBOUR: 'it returns false'. Refute it at one input. -/
def aspathJoinsWrong : ChangeSpec := { name := "aspathJoins", fn := fun _ => fun
  | [d1, d2, d3] => { results := [.lit (.bool false)], args := [d1, d2, d3] }
  | _ => none }
def AspathJoinsWrongFalsely : Prop := aspathJoinsRow.holds Try.pinned (OpenSpec.ofChange aspathJoinsWrong)

/-- 'signpostlaw6.AspathBack': WHATEVER THE INPUT: true; the input reads as it did. -/
def aspathBackSpec : ChangeSpec := { name := "aspathBack", fn := fun _ => fun
  | [d1, d2, d3] => { results := [.lit (.bool true)], args := [d1, d2, d3] }
  | _ => none }
def aspathBackRow : OpenClaim := { program := "ytflffabmfoldeaa", sum := "edb38a5b6c12d690ad76b499bb72aa835083a492b13f04e2849839bfb0f30aeb", func := "signpost/signpostlaw6.AspathBack", spec := "aspathBack", inPlace := ["slices.overlaps[uint32]", "slices.overlaps[signpost/api.Seg]"], unfollowed := true, recurses := true, apart := false }
def AspathBackSaid : Prop := aspathBackRow.holds Try.pinned (OpenSpec.ofChange aspathBackSpec)

/-- ITS FALSE NEIGHBOUR: 'it returns false'. Refute it at one input. -/
def aspathBackWrong : ChangeSpec := { name := "aspathBack", fn := fun _ => fun
  | [d1, d2, d3] => { results := [.lit (.bool false)], args := [d1, d2, d3] }
  | _ => none }
def AspathBackWrongFalsely : Prop := aspathBackRow.holds Try.pinned (OpenSpec.ofChange aspathBackWrong)

/-- 'signpostlaw6.AspathNumbers': WHATEVER THE INPUT: true; the input reads as it did. -/
def aspathNumbersSpec : ChangeSpec := { name := "aspathNumbers", fn := fun _ => fun
  | [] => { results := [.lit (.bool true)], args := [] }
  | _ => none }
def aspathNumbersRow : OpenClaim := { program := "ytflffabmfoldeaa", sum := "edb38a5b6c12d690ad76b499bb72aa835083a492b13f04e2849839bfb0f30aeb", func := "signpost/signpostlaw6.AspathNumbers", spec := "aspathNumbers", inPlace := ["slices.overlaps[uint32]", "slices.overlaps[signpost/api.Seg]"], unfollowed := true, recurses := true, apart := false }
def AspathNumbersSaid : Prop := aspathNumbersRow.holds Try.pinned (OpenSpec.ofChange aspathNumbersSpec)

/-- ITS FALSE NEIGHBOUR: 'it returns false'. Refute it at one input. -/
def aspathNumbersWrong : ChangeSpec := { name := "aspathNumbers", fn := fun _ => fun
  | [] => { results := [.lit (.bool false)], args := [] }
  | _ => none }
def AspathNumbersWrongFalsely : Prop := aspathNumbersRow.holds Try.pinned (OpenSpec.ofChange aspathNumbersWrong)

/-- 'signpostlaw6.AspathTells': WHATEVER THE INPUT: true; the input reads as it did. -/
def aspathTellsSpec : ChangeSpec := { name := "aspathTells", fn := fun _ => fun
  | [d1, d2, d3, d4, d5, d6, d7] => { results := [.lit (.bool true)], args := [d1, d2, d3, d4, d5, d6, d7] }
  | _ => none }
def aspathTellsRow : OpenClaim := { program := "ytflffabmfoldeaa", sum := "edb38a5b6c12d690ad76b499bb72aa835083a492b13f04e2849839bfb0f30aeb", func := "signpost/signpostlaw6.AspathTells", spec := "aspathTells", inPlace := ["slices.overlaps[uint32]", "slices.overlaps[signpost/api.Seg]"], unfollowed := true, recurses := true, apart := false }
def AspathTellsSaid : Prop := aspathTellsRow.holds Try.pinned (OpenSpec.ofChange aspathTellsSpec)

/-- ITS FALSE NEIGHBOUR: 'it returns false'. Refute it at one input. -/
def aspathTellsWrong : ChangeSpec := { name := "aspathTells", fn := fun _ => fun
  | [d1, d2, d3, d4, d5, d6, d7] => { results := [.lit (.bool false)], args := [d1, d2, d3, d4, d5, d6, d7] }
  | _ => none }
def AspathTellsWrongFalsely : Prop := aspathTellsRow.holds Try.pinned (OpenSpec.ofChange aspathTellsWrong)

/- THE SECOND FORM. 'bulk': how many values and letters a reading holds, each counted each time it is reached (what is shared counts as often as it is met; a slice's spare places count too). A statement '..UptoSaid' is the law's where the arguments, and the package variables that the reading takes, are together of bulk at most 1048576: NARROWER than '..Said'. Prove '..Said' where nothing that the law and all that it calls make is longer than what came in: it says more and counts as full. Else prove '..UptoSaid'. A law counts once. -/
mutual
def uptoBulk {H : Type} : DataW H → Nat
  | .lit (.string bytes) => bytes.length + 1
  | .lit _ => 1
  | .nil => 1
  | .ptr d => uptoBulk d + 1
  | .slice elems spare => uptoBulkAll elems + uptoBulkAll spare + 1
  | .agg parts => uptoBulkAll parts + 1
  | .iface _ d => uptoBulk d + 1
  | .map entries => uptoBulkEntries entries + 1
  | .held _ => 1
def uptoBulkAll {H : Type} : List (DataW H) → Nat
  | [] => 0
  | d :: r => uptoBulk d + uptoBulkAll r
def uptoBulkEntries {H : Type} : List (Lit × DataW H) → Nat
  | [] => 0
  | x :: r => uptoBulkEntry x + uptoBulkEntries r
def uptoBulkEntry {H : Type} : Lit × DataW H → Nat
  | (.string bytes, d) => bytes.length + uptoBulk d + 1
  | (_, d) => uptoBulk d + 1
 end
def uptoSmall : (H : Type) → List (DataW H) → Bool := fun _ ds => decide (uptoBulkAll ds ≤ 1048576)
def OpenSpec.upto (s : _root_.Go.ChangeSpec) : _root_.Go.OpenSpec := { _root_.Go.OpenSpec.ofChange s with cond := some uptoSmall }

/-- 'signpostlaw6.AspathSets', WHERE WHAT IT READS IS OF BULK AT MOST 1048576: true; the input reads as it did. -/
def aspathSetsUptoRow : OpenClaim := { program := "ytflffabmfoldeaa", sum := "edb38a5b6c12d690ad76b499bb72aa835083a492b13f04e2849839bfb0f30aeb", func := "signpost/signpostlaw6.AspathSets", spec := "aspathSets", inPlace := ["slices.overlaps[uint32]", "slices.overlaps[signpost/api.Seg]"], apart := false, narrowed := true }
def AspathSetsUptoSaid : Prop := aspathSetsUptoRow.holds Try.pinned (OpenSpec.upto aspathSetsSpec)

/-- 'signpostlaw6.AspathRules', WHERE WHAT IT READS IS OF BULK AT MOST 1048576: true; the input reads as it did. -/
def aspathRulesUptoRow : OpenClaim := { program := "ytflffabmfoldeaa", sum := "edb38a5b6c12d690ad76b499bb72aa835083a492b13f04e2849839bfb0f30aeb", func := "signpost/signpostlaw6.AspathRules", spec := "aspathRules", inPlace := ["slices.overlaps[uint32]", "slices.overlaps[signpost/api.Seg]"], unfollowed := true, recurses := true, apart := false, narrowed := true }
def AspathRulesUptoSaid : Prop := aspathRulesUptoRow.holds Try.pinned (OpenSpec.upto aspathRulesSpec)

/-- 'signpostlaw6.AspathJoins', WHERE WHAT IT READS IS OF BULK AT MOST 1048576: true; the input reads as it did. -/
def aspathJoinsUptoRow : OpenClaim := { program := "ytflffabmfoldeaa", sum := "edb38a5b6c12d690ad76b499bb72aa835083a492b13f04e2849839bfb0f30aeb", func := "signpost/signpostlaw6.AspathJoins", spec := "aspathJoins", inPlace := ["slices.overlaps[uint32]", "slices.overlaps[signpost/api.Seg]"], apart := false, narrowed := true }
def AspathJoinsUptoSaid : Prop := aspathJoinsUptoRow.holds Try.pinned (OpenSpec.upto aspathJoinsSpec)

/-- 'signpostlaw6.AspathBack', WHERE WHAT IT READS IS OF BULK AT MOST 1048576: true; the input reads as it did. -/
def aspathBackUptoRow : OpenClaim := { program := "ytflffabmfoldeaa", sum := "edb38a5b6c12d690ad76b499bb72aa835083a492b13f04e2849839bfb0f30aeb", func := "signpost/signpostlaw6.AspathBack", spec := "aspathBack", inPlace := ["slices.overlaps[uint32]", "slices.overlaps[signpost/api.Seg]"], unfollowed := true, recurses := true, apart := false, narrowed := true }
def AspathBackUptoSaid : Prop := aspathBackUptoRow.holds Try.pinned (OpenSpec.upto aspathBackSpec)

/-- 'signpostlaw6.AspathNumbers', WHERE WHAT IT READS IS OF BULK AT MOST 1048576: true; the input reads as it did. -/
def aspathNumbersUptoRow : OpenClaim := { program := "ytflffabmfoldeaa", sum := "edb38a5b6c12d690ad76b499bb72aa835083a492b13f04e2849839bfb0f30aeb", func := "signpost/signpostlaw6.AspathNumbers", spec := "aspathNumbers", inPlace := ["slices.overlaps[uint32]", "slices.overlaps[signpost/api.Seg]"], unfollowed := true, recurses := true, apart := false, narrowed := true }
def AspathNumbersUptoSaid : Prop := aspathNumbersUptoRow.holds Try.pinned (OpenSpec.upto aspathNumbersSpec)

/-- 'signpostlaw6.AspathTells', WHERE WHAT IT READS IS OF BULK AT MOST 1048576: true; the input reads as it did. -/
def aspathTellsUptoRow : OpenClaim := { program := "ytflffabmfoldeaa", sum := "edb38a5b6c12d690ad76b499bb72aa835083a492b13f04e2849839bfb0f30aeb", func := "signpost/signpostlaw6.AspathTells", spec := "aspathTells", inPlace := ["slices.overlaps[uint32]", "slices.overlaps[signpost/api.Seg]"], unfollowed := true, recurses := true, apart := false, narrowed := true }
def AspathTellsUptoSaid : Prop := aspathTellsUptoRow.holds Try.pinned (OpenSpec.upto aspathTellsSpec)

end Rows
end Go.Proofs.Ytflffabmfoldeaa
