/-
  No cell of these rows narrows 'for every input' (looked for: loops, veiled, ifaces, maps, wideKeys, modest, calm, conditions, laid).
  DERIVED. THE GIVEN ROWS OF THIS SEAT. 7 by the template 'for every input the law returns true; each argument reads behind the call as it read before'; 0 by the template 'total and deterministic' (their statements: YtkbfpjkikjmmeaaTotals.lean).
  GIVEN WITH THE SEED: the statements are not yours to turn. If you find one false, say at which input.
  Laid BY PROGRAM, IN A SANDBOX (cutbox-rows.mjs): the forced cells as the released guide's own fill.sh prints them over the translation e126d31799e0fb7c… (all of the seat's roots in one cut). By AI agents, Wed Nov 11 2026. No macro, syntax, notation, axiom, sorry.
-/
import Derived.Test.YtkbfpjkikjmmeaaChecked
import GoSem.Claim
import GoSem.ClaimJoined
import GoSem.ClaimMapViews
import Derived.JoinedTies
import Derived.KernelRfl
namespace Go.Proofs.Ytkbfpjkikjmmeaa
/- THE CELL 'sum', in the pinned program and in every row, IS THE sha256 OF THE DUMP (.gsa) THAT YtkbfpjkikjmmeaaProg.lean LOADS. Nothing in Lean hashes anything: it is a label: what it is worth is what the hold of that sum in a sandbox is worth. -/
noncomputable def Try.pinned : Pinned := { name := "ytkbfpjkikjmmeaa", sum := "e126d31799e0fb7c3eacd55d8575307c0edaad1f1772a72cd8f058f1a9080d2f", checked := Try.checked }
namespace Rows
def none {H : Type} : Left H := { results := [], args := [] }

/-- 'signpostlaw2.MetricShares': WHATEVER THE INPUT: true; the input reads as it did. -/
def metricSharesSpec : ChangeSpec := { name := "metricShares", fn := fun _ => fun
  | [d1, d2] => { results := [.lit (.bool true)], args := [d1, d2] }
  | _ => none }
def metricSharesRow : OpenClaim := { program := "ytkbfpjkikjmmeaa", sum := "e126d31799e0fb7c3eacd55d8575307c0edaad1f1772a72cd8f058f1a9080d2f", func := "signpost/signpostlaw2.MetricShares", spec := "metricShares", inPlace := ["math.Float64bits", "math.Float64frombits"], apart := false }
def MetricSharesSaid : Prop := metricSharesRow.holds Try.pinned (OpenSpec.ofChange metricSharesSpec)

/-- ITS FALSE NEIGHBOUR: 'it returns false'. Refute it at one input. -/
def metricSharesWrong : ChangeSpec := { name := "metricShares", fn := fun _ => fun
  | [d1, d2] => { results := [.lit (.bool false)], args := [d1, d2] }
  | _ => none }
def MetricSharesWrongFalsely : Prop := metricSharesRow.holds Try.pinned (OpenSpec.ofChange metricSharesWrong)

/-- 'signpostlaw2.MetricScale': WHATEVER THE INPUT: true; the input reads as it did. -/
def metricScaleSpec : ChangeSpec := { name := "metricScale", fn := fun _ => fun
  | [d1, d2, d3] => { results := [.lit (.bool true)], args := [d1, d2, d3] }
  | _ => none }
def metricScaleRow : OpenClaim := { program := "ytkbfpjkikjmmeaa", sum := "e126d31799e0fb7c3eacd55d8575307c0edaad1f1772a72cd8f058f1a9080d2f", func := "signpost/signpostlaw2.MetricScale", spec := "metricScale", inPlace := ["math.Float64bits", "math.Float64frombits"], apart := false }
def MetricScaleSaid : Prop := metricScaleRow.holds Try.pinned (OpenSpec.ofChange metricScaleSpec)

/-- ITS FALSE NEIGHBOUR: 'it returns false'. Refute it at one input. -/
def metricScaleWrong : ChangeSpec := { name := "metricScale", fn := fun _ => fun
  | [d1, d2, d3] => { results := [.lit (.bool false)], args := [d1, d2, d3] }
  | _ => none }
def MetricScaleWrongFalsely : Prop := metricScaleRow.holds Try.pinned (OpenSpec.ofChange metricScaleWrong)

/-- 'signpostlaw2.MetricPath': WHATEVER THE INPUT: true; the input reads as it did. -/
def metricPathSpec : ChangeSpec := { name := "metricPath", fn := fun _ => fun
  | [d1, d2] => { results := [.lit (.bool true)], args := [d1, d2] }
  | _ => none }
def metricPathRow : OpenClaim := { program := "ytkbfpjkikjmmeaa", sum := "e126d31799e0fb7c3eacd55d8575307c0edaad1f1772a72cd8f058f1a9080d2f", func := "signpost/signpostlaw2.MetricPath", spec := "metricPath", inPlace := ["math.Float64frombits", "math.Float64bits"], apart := false }
def MetricPathSaid : Prop := metricPathRow.holds Try.pinned (OpenSpec.ofChange metricPathSpec)

/-- ITS FALSE NEIGHBOUR: 'it returns false'. Refute it at one input. -/
def metricPathWrong : ChangeSpec := { name := "metricPath", fn := fun _ => fun
  | [d1, d2] => { results := [.lit (.bool false)], args := [d1, d2] }
  | _ => none }
def MetricPathWrongFalsely : Prop := metricPathRow.holds Try.pinned (OpenSpec.ofChange metricPathWrong)

/-- 'signpostlaw2.MetricTells': WHATEVER THE INPUT: true; the input reads as it did. -/
def metricTellsSpec : ChangeSpec := { name := "metricTells", fn := fun _ => fun
  | [d1, d2, d3, d4, d5] => { results := [.lit (.bool true)], args := [d1, d2, d3, d4, d5] }
  | _ => none }
def metricTellsRow : OpenClaim := { program := "ytkbfpjkikjmmeaa", sum := "e126d31799e0fb7c3eacd55d8575307c0edaad1f1772a72cd8f058f1a9080d2f", func := "signpost/signpostlaw2.MetricTells", spec := "metricTells", inPlace := ["math.Float64frombits", "math.Float64bits"], apart := false }
def MetricTellsSaid : Prop := metricTellsRow.holds Try.pinned (OpenSpec.ofChange metricTellsSpec)

/-- ITS FALSE NEIGHBOUR: 'it returns false'. Refute it at one input. -/
def metricTellsWrong : ChangeSpec := { name := "metricTells", fn := fun _ => fun
  | [d1, d2, d3, d4, d5] => { results := [.lit (.bool false)], args := [d1, d2, d3, d4, d5] }
  | _ => none }
def MetricTellsWrongFalsely : Prop := metricTellsRow.holds Try.pinned (OpenSpec.ofChange metricTellsWrong)

/-- 'signpostlaw2.MetricBits': WHATEVER THE INPUT: true; the input reads as it did. -/
def metricBitsSpec : ChangeSpec := { name := "metricBits", fn := fun _ => fun
  | [d1, d2, d3] => { results := [.lit (.bool true)], args := [d1, d2, d3] }
  | _ => none }
def metricBitsRow : OpenClaim := { program := "ytkbfpjkikjmmeaa", sum := "e126d31799e0fb7c3eacd55d8575307c0edaad1f1772a72cd8f058f1a9080d2f", func := "signpost/signpostlaw2.MetricBits", spec := "metricBits", inPlace := ["math.Float64frombits", "math.Float64bits"], apart := false }
def MetricBitsSaid : Prop := metricBitsRow.holds Try.pinned (OpenSpec.ofChange metricBitsSpec)

/-- ITS FALSE NEIGHBOUR: 'it returns false'. Refute it at one input. -/
def metricBitsWrong : ChangeSpec := { name := "metricBits", fn := fun _ => fun
  | [d1, d2, d3] => { results := [.lit (.bool false)], args := [d1, d2, d3] }
  | _ => none }
def MetricBitsWrongFalsely : Prop := metricBitsRow.holds Try.pinned (OpenSpec.ofChange metricBitsWrong)

/-- 'signpostlaw2.MetricRules': WHATEVER THE INPUT: true; the input reads as it did. -/
def metricRulesSpec : ChangeSpec := { name := "metricRules", fn := fun _ => fun
  | [d1, d2, d3] => { results := [.lit (.bool true)], args := [d1, d2, d3] }
  | _ => none }
def metricRulesRow : OpenClaim := { program := "ytkbfpjkikjmmeaa", sum := "e126d31799e0fb7c3eacd55d8575307c0edaad1f1772a72cd8f058f1a9080d2f", func := "signpost/signpostlaw2.MetricRules", spec := "metricRules", inPlace := ["math.Float64frombits", "math.Float64bits"], apart := false }
def MetricRulesSaid : Prop := metricRulesRow.holds Try.pinned (OpenSpec.ofChange metricRulesSpec)

/-- ITS FALSE NEIGHBOUR: 'it returns false'. Refute it at one input. -/
def metricRulesWrong : ChangeSpec := { name := "metricRules", fn := fun _ => fun
  | [d1, d2, d3] => { results := [.lit (.bool false)], args := [d1, d2, d3] }
  | _ => none }
def MetricRulesWrongFalsely : Prop := metricRulesRow.holds Try.pinned (OpenSpec.ofChange metricRulesWrong)

/-- 'signpostlaw2.MetricNumbers': WHATEVER THE INPUT: true; the input reads as it did. -/
def metricNumbersSpec : ChangeSpec := { name := "metricNumbers", fn := fun _ => fun
  | [] => { results := [.lit (.bool true)], args := [] }
  | _ => none }
def metricNumbersRow : OpenClaim := { program := "ytkbfpjkikjmmeaa", sum := "e126d31799e0fb7c3eacd55d8575307c0edaad1f1772a72cd8f058f1a9080d2f", func := "signpost/signpostlaw2.MetricNumbers", spec := "metricNumbers", inPlace := ["math.Float64bits", "math.Float64frombits"], apart := false }
def MetricNumbersSaid : Prop := metricNumbersRow.holds Try.pinned (OpenSpec.ofChange metricNumbersSpec)

/-- ITS FALSE NEIGHBOUR: 'it returns false'. Refute it at one input. -/
def metricNumbersWrong : ChangeSpec := { name := "metricNumbers", fn := fun _ => fun
  | [] => { results := [.lit (.bool false)], args := [] }
  | _ => none }
def MetricNumbersWrongFalsely : Prop := metricNumbersRow.holds Try.pinned (OpenSpec.ofChange metricNumbersWrong)

/- THE SECOND FORM. 'bulk': how many values and letters a reading holds, each counted each time it is reached (what is shared counts as often as it is met; a slice's spare places count too). A statement '..UptoSaid' is the law's where the arguments, and the package variables that the reading takes, are together of bulk at most 1048576: NARROWER than '..Said'. Prove '..Said' where nothing that the law and all that it calls make is longer than what came in: it says more and counts as full. Else prove '..UptoSaid'. A law counts once. -/
mutual
def uptoBulk {H : Type} : DataW H → Nat
  | .lit (.string bytes) => bytes.length + 1
  | .lit _ => 1
  | .nil => 1
  | .ptr d => uptoBulk d + 1
  | .slice elems spare => uptoBulkAll elems + uptoBulkAll spare + 1
  | .agg parts => uptoBulkAll parts + 1
  | .iface _ d => uptoBulk d + 1
  | .map entries => uptoBulkEntries entries + 1
  | .held _ => 1
def uptoBulkAll {H : Type} : List (DataW H) → Nat
  | [] => 0
  | d :: r => uptoBulk d + uptoBulkAll r
def uptoBulkEntries {H : Type} : List (Lit × DataW H) → Nat
  | [] => 0
  | x :: r => uptoBulkEntry x + uptoBulkEntries r
def uptoBulkEntry {H : Type} : Lit × DataW H → Nat
  | (.string bytes, d) => bytes.length + uptoBulk d + 1
  | (_, d) => uptoBulk d + 1
 end
def uptoSmall : (H : Type) → List (DataW H) → Bool := fun _ ds => decide (uptoBulkAll ds ≤ 1048576)
def OpenSpec.upto (s : _root_.Go.ChangeSpec) : _root_.Go.OpenSpec := { _root_.Go.OpenSpec.ofChange s with cond := some uptoSmall }

/-- 'signpostlaw2.MetricShares', WHERE WHAT IT READS IS OF BULK AT MOST 1048576: true; the input reads as it did. -/
def metricSharesUptoRow : OpenClaim := { program := "ytkbfpjkikjmmeaa", sum := "e126d31799e0fb7c3eacd55d8575307c0edaad1f1772a72cd8f058f1a9080d2f", func := "signpost/signpostlaw2.MetricShares", spec := "metricShares", inPlace := ["math.Float64bits", "math.Float64frombits"], apart := false, narrowed := true }
def MetricSharesUptoSaid : Prop := metricSharesUptoRow.holds Try.pinned (OpenSpec.upto metricSharesSpec)

/-- 'signpostlaw2.MetricScale', WHERE WHAT IT READS IS OF BULK AT MOST 1048576: true; the input reads as it did. -/
def metricScaleUptoRow : OpenClaim := { program := "ytkbfpjkikjmmeaa", sum := "e126d31799e0fb7c3eacd55d8575307c0edaad1f1772a72cd8f058f1a9080d2f", func := "signpost/signpostlaw2.MetricScale", spec := "metricScale", inPlace := ["math.Float64bits", "math.Float64frombits"], apart := false, narrowed := true }
def MetricScaleUptoSaid : Prop := metricScaleUptoRow.holds Try.pinned (OpenSpec.upto metricScaleSpec)

/-- 'signpostlaw2.MetricPath', WHERE WHAT IT READS IS OF BULK AT MOST 1048576: true; the input reads as it did. -/
def metricPathUptoRow : OpenClaim := { program := "ytkbfpjkikjmmeaa", sum := "e126d31799e0fb7c3eacd55d8575307c0edaad1f1772a72cd8f058f1a9080d2f", func := "signpost/signpostlaw2.MetricPath", spec := "metricPath", inPlace := ["math.Float64frombits", "math.Float64bits"], apart := false, narrowed := true }
def MetricPathUptoSaid : Prop := metricPathUptoRow.holds Try.pinned (OpenSpec.upto metricPathSpec)

/-- 'signpostlaw2.MetricTells', WHERE WHAT IT READS IS OF BULK AT MOST 1048576: true; the input reads as it did. -/
def metricTellsUptoRow : OpenClaim := { program := "ytkbfpjkikjmmeaa", sum := "e126d31799e0fb7c3eacd55d8575307c0edaad1f1772a72cd8f058f1a9080d2f", func := "signpost/signpostlaw2.MetricTells", spec := "metricTells", inPlace := ["math.Float64frombits", "math.Float64bits"], apart := false, narrowed := true }
def MetricTellsUptoSaid : Prop := metricTellsUptoRow.holds Try.pinned (OpenSpec.upto metricTellsSpec)

/-- 'signpostlaw2.MetricBits', WHERE WHAT IT READS IS OF BULK AT MOST 1048576: true; the input reads as it did. -/
def metricBitsUptoRow : OpenClaim := { program := "ytkbfpjkikjmmeaa", sum := "e126d31799e0fb7c3eacd55d8575307c0edaad1f1772a72cd8f058f1a9080d2f", func := "signpost/signpostlaw2.MetricBits", spec := "metricBits", inPlace := ["math.Float64frombits", "math.Float64bits"], apart := false, narrowed := true }
def MetricBitsUptoSaid : Prop := metricBitsUptoRow.holds Try.pinned (OpenSpec.upto metricBitsSpec)

/-- 'signpostlaw2.MetricRules', WHERE WHAT IT READS IS OF BULK AT MOST 1048576: true; the input reads as it did. -/
def metricRulesUptoRow : OpenClaim := { program := "ytkbfpjkikjmmeaa", sum := "e126d31799e0fb7c3eacd55d8575307c0edaad1f1772a72cd8f058f1a9080d2f", func := "signpost/signpostlaw2.MetricRules", spec := "metricRules", inPlace := ["math.Float64frombits", "math.Float64bits"], apart := false, narrowed := true }
def MetricRulesUptoSaid : Prop := metricRulesUptoRow.holds Try.pinned (OpenSpec.upto metricRulesSpec)

/-- 'signpostlaw2.MetricNumbers', WHERE WHAT IT READS IS OF BULK AT MOST 1048576: true; the input reads as it did. -/
def metricNumbersUptoRow : OpenClaim := { program := "ytkbfpjkikjmmeaa", sum := "e126d31799e0fb7c3eacd55d8575307c0edaad1f1772a72cd8f058f1a9080d2f", func := "signpost/signpostlaw2.MetricNumbers", spec := "metricNumbers", inPlace := ["math.Float64bits", "math.Float64frombits"], apart := false, narrowed := true }
def MetricNumbersUptoSaid : Prop := metricNumbersUptoRow.holds Try.pinned (OpenSpec.upto metricNumbersSpec)

end Rows
end Go.Proofs.Ytkbfpjkikjmmeaa
