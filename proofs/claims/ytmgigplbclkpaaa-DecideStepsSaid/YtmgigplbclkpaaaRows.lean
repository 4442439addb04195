/-
  No cell of these rows narrows 'for every input' (looked for: loops, veiled, ifaces, maps, wideKeys, modest, calm, conditions, laid).
  DERIVED. THE GIVEN ROWS OF THIS SEAT. 6 by the template 'for every input the law returns true; each argument reads behind the call as it read before'; 0 by the template 'total and deterministic' (their statements: YtmgigplbclkpaaaTotals.lean).
  GIVEN WITH THE SEED: the statements are not yours to turn. If you find one false, say at which input.
  Laid BY PROGRAM, IN A SANDBOX (cutbox-rows.mjs): the forced cells as the released guide's own fill.sh prints them over the translation b9645058b8218d2b… (all of the seat's roots in one cut). By AI agents, Wed Nov 11 2026. No macro, syntax, notation, axiom, sorry.
-/
import Derived.Test.YtmgigplbclkpaaaChecked
import GoSem.Claim
import GoSem.ClaimJoined
import GoSem.ClaimMapViews
import Derived.JoinedTies
import Derived.KernelRfl
namespace Go.Proofs.Ytmgigplbclkpaaa
/- THE CELL 'sum', in the pinned program and in every row, IS THE sha256 OF THE DUMP (.gsa) THAT YtmgigplbclkpaaaProg.lean LOADS. Nothing in Lean hashes anything: it is a label: what it is worth is what the hold of that sum in a sandbox is worth. -/
noncomputable def Try.pinned : Pinned := { name := "ytmgigplbclkpaaa", sum := "b9645058b8218d2bdec202d998a9ef77ce0c93168eaf17f9224de301d9d54233", checked := Try.checked }
namespace Rows
def none {H : Type} : Left H := { results := [], args := [] }

/-- 'signpostlaw17.DecideTells': WHATEVER THE INPUT: true; the input reads as it did. -/
def decideTellsSpec : ChangeSpec := { name := "decideTells", fn := fun _ => fun
  | [d] => { results := [.lit (.bool true)], args := [d] }
  | _ => none }
def decideTellsRow : OpenClaim := { program := "ytmgigplbclkpaaa", sum := "b9645058b8218d2bdec202d998a9ef77ce0c93168eaf17f9224de301d9d54233", func := "signpost/signpostlaw17.DecideTells", spec := "decideTells", inPlace := ["math.Float64frombits"], apart := false }
def DecideTellsSaid : Prop := decideTellsRow.holds Try.pinned (OpenSpec.ofChange decideTellsSpec)

/-- ITS FALSE NEIGHBOUR: 'it returns false'. Refute it at one input. -/
def decideTellsWrong : ChangeSpec := { name := "decideTells", fn := fun _ => fun
  | [d] => { results := [.lit (.bool false)], args := [d] }
  | _ => none }
def DecideTellsWrongFalsely : Prop := decideTellsRow.holds Try.pinned (OpenSpec.ofChange decideTellsWrong)

/-- 'signpostlaw17.DecideRules': WHATEVER THE INPUT: true; the input reads as it did. -/
def decideRulesSpec : ChangeSpec := { name := "decideRules", fn := fun _ => fun
  | [d1, d2] => { results := [.lit (.bool true)], args := [d1, d2] }
  | _ => none }
def decideRulesRow : OpenClaim := { program := "ytmgigplbclkpaaa", sum := "b9645058b8218d2bdec202d998a9ef77ce0c93168eaf17f9224de301d9d54233", func := "signpost/signpostlaw17.DecideRules", spec := "decideRules", inPlace := ["math.Float64frombits"], apart := false }
def DecideRulesSaid : Prop := decideRulesRow.holds Try.pinned (OpenSpec.ofChange decideRulesSpec)

/-- ITS FALSE NEIGHBOUR: 'it returns false'. Refute it at one input. -/
def decideRulesWrong : ChangeSpec := { name := "decideRules", fn := fun _ => fun
  | [d1, d2] => { results := [.lit (.bool false)], args := [d1, d2] }
  | _ => none }
def DecideRulesWrongFalsely : Prop := decideRulesRow.holds Try.pinned (OpenSpec.ofChange decideRulesWrong)

/-- 'signpostlaw17.DecideLosers': WHATEVER THE INPUT: true; the input reads as it did. -/
def decideLosersSpec : ChangeSpec := { name := "decideLosers", fn := fun _ => fun
  | [d] => { results := [.lit (.bool true)], args := [d] }
  | _ => none }
def decideLosersRow : OpenClaim := { program := "ytmgigplbclkpaaa", sum := "b9645058b8218d2bdec202d998a9ef77ce0c93168eaf17f9224de301d9d54233", func := "signpost/signpostlaw17.DecideLosers", spec := "decideLosers", inPlace := ["math.Float64frombits"], apart := false }
def DecideLosersSaid : Prop := decideLosersRow.holds Try.pinned (OpenSpec.ofChange decideLosersSpec)

/-- ITS FALSE NEIGHBOUR: 'it returns false'. Refute it at one input. -/
def decideLosersWrong : ChangeSpec := { name := "decideLosers", fn := fun _ => fun
  | [d] => { results := [.lit (.bool false)], args := [d] }
  | _ => none }
def DecideLosersWrongFalsely : Prop := decideLosersRow.holds Try.pinned (OpenSpec.ofChange decideLosersWrong)

/-- 'signpostlaw17.DecidePairs': WHATEVER THE INPUT: true; the input reads as it did. -/
def decidePairsSpec : ChangeSpec := { name := "decidePairs", fn := fun _ => fun
  | [d] => { results := [.lit (.bool true)], args := [d] }
  | _ => none }
def decidePairsRow : OpenClaim := { program := "ytmgigplbclkpaaa", sum := "b9645058b8218d2bdec202d998a9ef77ce0c93168eaf17f9224de301d9d54233", func := "signpost/signpostlaw17.DecidePairs", spec := "decidePairs", inPlace := ["math.Float64frombits"], apart := false }
def DecidePairsSaid : Prop := decidePairsRow.holds Try.pinned (OpenSpec.ofChange decidePairsSpec)

/-- ITS FALSE NEIGHBOUR: 'it returns false'. Refute it at one input. -/
def decidePairsWrong : ChangeSpec := { name := "decidePairs", fn := fun _ => fun
  | [d] => { results := [.lit (.bool false)], args := [d] }
  | _ => none }
def DecidePairsWrongFalsely : Prop := decidePairsRow.holds Try.pinned (OpenSpec.ofChange decidePairsWrong)

/-- 'signpostlaw17.DecideSteps': WHATEVER THE INPUT: true; the input reads as it did. -/
def decideStepsSpec : ChangeSpec := { name := "decideSteps", fn := fun _ => fun
  | [d] => { results := [.lit (.bool true)], args := [d] }
  | _ => none }
def decideStepsRow : OpenClaim := { program := "ytmgigplbclkpaaa", sum := "b9645058b8218d2bdec202d998a9ef77ce0c93168eaf17f9224de301d9d54233", func := "signpost/signpostlaw17.DecideSteps", spec := "decideSteps", inPlace := ["math.Float64frombits"], apart := false }
def DecideStepsSaid : Prop := decideStepsRow.holds Try.pinned (OpenSpec.ofChange decideStepsSpec)

/-- ITS FALSE NEIGHBOUR: 'it returns false'. Refute it at one input. -/
def decideStepsWrong : ChangeSpec := { name := "decideSteps", fn := fun _ => fun
  | [d] => { results := [.lit (.bool false)], args := [d] }
  | _ => none }
def DecideStepsWrongFalsely : Prop := decideStepsRow.holds Try.pinned (OpenSpec.ofChange decideStepsWrong)

/-- 'signpostlaw17.DecideNumbers': WHATEVER THE INPUT: true; the input reads as it did. -/
def decideNumbersSpec : ChangeSpec := { name := "decideNumbers", fn := fun _ => fun
  | [] => { results := [.lit (.bool true)], args := [] }
  | _ => none }
def decideNumbersRow : OpenClaim := { program := "ytmgigplbclkpaaa", sum := "b9645058b8218d2bdec202d998a9ef77ce0c93168eaf17f9224de301d9d54233", func := "signpost/signpostlaw17.DecideNumbers", spec := "decideNumbers", inPlace := ["math.Float64frombits", "math.Float64bits"], apart := false }
def DecideNumbersSaid : Prop := decideNumbersRow.holds Try.pinned (OpenSpec.ofChange decideNumbersSpec)

/-- ITS FALSE NEIGHBOUR: 'it returns false'. Refute it at one input. -/
def decideNumbersWrong : ChangeSpec := { name := "decideNumbers", fn := fun _ => fun
  | [] => { results := [.lit (.bool false)], args := [] }
  | _ => none }
def DecideNumbersWrongFalsely : Prop := decideNumbersRow.holds Try.pinned (OpenSpec.ofChange decideNumbersWrong)

/- THE SECOND FORM. 'bulk': how many values and letters a reading holds, each counted each time it is reached (what is shared counts as often as it is met; a slice's spare places count too). A statement '..UptoSaid' is the law's where the arguments, and the package variables that the reading takes, are together of bulk at most 1048576: NARROWER than '..Said'. Prove '..Said' where nothing that the law and all that it calls make is longer than what came in: it says more and counts as full. Else prove '..UptoSaid'. A law counts once. -/
mutual
def uptoBulk {H : Type} : DataW H → Nat
  | .lit (.string bytes) => bytes.length + 1
  | .lit _ => 1
  | .nil => 1
  | .ptr d => uptoBulk d + 1
  | .slice elems spare => uptoBulkAll elems + uptoBulkAll spare + 1
  | .agg parts => uptoBulkAll parts + 1
  | .iface _ d => uptoBulk d + 1
  | .map entries => uptoBulkEntries entries + 1
  | .held _ => 1
def uptoBulkAll {H : Type} : List (DataW H) → Nat
  | [] => 0
  | d :: r => uptoBulk d + uptoBulkAll r
def uptoBulkEntries {H : Type} : List (Lit × DataW H) → Nat
  | [] => 0
  | x :: r => uptoBulkEntry x + uptoBulkEntries r
def uptoBulkEntry {H : Type} : Lit × DataW H → Nat
  | (.string bytes, d) => bytes.length + uptoBulk d + 1
  | (_, d) => uptoBulk d + 1
 end
def uptoSmall : (H : Type) → List (DataW H) → Bool := fun _ ds => decide (uptoBulkAll ds ≤ 1048576)
def OpenSpec.upto (s : _root_.Go.ChangeSpec) : _root_.Go.OpenSpec := { _root_.Go.OpenSpec.ofChange s with cond := some uptoSmall }

/-- 'signpostlaw17.DecideTells', WHERE WHAT IT READS IS OF BULK AT MOST 1048576: true; the input reads as it did. -/
def decideTellsUptoRow : OpenClaim := { program := "ytmgigplbclkpaaa", sum := "b9645058b8218d2bdec202d998a9ef77ce0c93168eaf17f9224de301d9d54233", func := "signpost/signpostlaw17.DecideTells", spec := "decideTells", inPlace := ["math.Float64frombits"], apart := false, narrowed := true }
def DecideTellsUptoSaid : Prop := decideTellsUptoRow.holds Try.pinned (OpenSpec.upto decideTellsSpec)

/-- 'signpostlaw17.DecideRules', WHERE WHAT IT READS IS OF BULK AT MOST 1048576: true; the input reads as it did. -/
def decideRulesUptoRow : OpenClaim := { program := "ytmgigplbclkpaaa", sum := "b9645058b8218d2bdec202d998a9ef77ce0c93168eaf17f9224de301d9d54233", func := "signpost/signpostlaw17.DecideRules", spec := "decideRules", inPlace := ["math.Float64frombits"], apart := false, narrowed := true }
def DecideRulesUptoSaid : Prop := decideRulesUptoRow.holds Try.pinned (OpenSpec.upto decideRulesSpec)

/-- 'signpostlaw17.DecideLosers', WHERE WHAT IT READS IS OF BULK AT MOST 1048576: true; the input reads as it did. -/
def decideLosersUptoRow : OpenClaim := { program := "ytmgigplbclkpaaa", sum := "b9645058b8218d2bdec202d998a9ef77ce0c93168eaf17f9224de301d9d54233", func := "signpost/signpostlaw17.DecideLosers", spec := "decideLosers", inPlace := ["math.Float64frombits"], apart := false, narrowed := true }
def DecideLosersUptoSaid : Prop := decideLosersUptoRow.holds Try.pinned (OpenSpec.upto decideLosersSpec)

/-- 'signpostlaw17.DecidePairs', WHERE WHAT IT READS IS OF BULK AT MOST 1048576: true; the input reads as it did. -/
def decidePairsUptoRow : OpenClaim := { program := "ytmgigplbclkpaaa", sum := "b9645058b8218d2bdec202d998a9ef77ce0c93168eaf17f9224de301d9d54233", func := "signpost/signpostlaw17.DecidePairs", spec := "decidePairs", inPlace := ["math.Float64frombits"], apart := false, narrowed := true }
def DecidePairsUptoSaid : Prop := decidePairsUptoRow.holds Try.pinned (OpenSpec.upto decidePairsSpec)

/-- 'signpostlaw17.DecideSteps', WHERE WHAT IT READS IS OF BULK AT MOST 1048576: true; the input reads as it did. -/
def decideStepsUptoRow : OpenClaim := { program := "ytmgigplbclkpaaa", sum := "b9645058b8218d2bdec202d998a9ef77ce0c93168eaf17f9224de301d9d54233", func := "signpost/signpostlaw17.DecideSteps", spec := "decideSteps", inPlace := ["math.Float64frombits"], apart := false, narrowed := true }
def DecideStepsUptoSaid : Prop := decideStepsUptoRow.holds Try.pinned (OpenSpec.upto decideStepsSpec)

/-- 'signpostlaw17.DecideNumbers', WHERE WHAT IT READS IS OF BULK AT MOST 1048576: true; the input reads as it did. -/
def decideNumbersUptoRow : OpenClaim := { program := "ytmgigplbclkpaaa", sum := "b9645058b8218d2bdec202d998a9ef77ce0c93168eaf17f9224de301d9d54233", func := "signpost/signpostlaw17.DecideNumbers", spec := "decideNumbers", inPlace := ["math.Float64frombits", "math.Float64bits"], apart := false, narrowed := true }
def DecideNumbersUptoSaid : Prop := decideNumbersUptoRow.holds Try.pinned (OpenSpec.upto decideNumbersSpec)

end Rows
end Go.Proofs.Ytmgigplbclkpaaa
