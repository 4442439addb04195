/-
  No cell of these rows narrows 'for every input' (looked for: loops, veiled, ifaces, maps, wideKeys, modest, calm, conditions, laid).
  DERIVED. THE GIVEN ROWS OF THIS SEAT. 3 by the template 'for every input the law returns true; each argument reads behind the call as it read before'; 0 by the template 'total and deterministic' (their statements: YtecegjimdohmeaaTotals.lean).
  GIVEN WITH THE SEED: the statements are not yours to turn. If you find one false, say at which input.
  Laid BY PROGRAM, IN A SANDBOX (cutbox-rows.mjs): the forced cells as the released guide's own fill.sh prints them over the translation 2f389b8a3e57d3ff… (all of the seat's roots in one cut). By AI agents, Wed Nov 11 2026. No macro, syntax, notation, axiom, sorry.
-/
import Derived.Test.YtecegjimdohmeaaChecked
import GoSem.Claim
import GoSem.ClaimJoined
import GoSem.ClaimMapViews
import Derived.JoinedTies
import Derived.KernelRfl
namespace Go.Proofs.Ytecegjimdohmeaa
/- THE CELL 'sum', in the pinned program and in every row, IS THE sha256 OF THE DUMP (.gsa) THAT YtecegjimdohmeaaProg.lean LOADS. Nothing in Lean hashes anything: it is a label: what it is worth is what the hold of that sum in a sandbox is worth. -/
noncomputable def Try.pinned : Pinned := { name := "ytecegjimdohmeaa", sum := "2f389b8a3e57d3ff2ce6b1c81e2a507249cb679868d465b0c69132d0290fc8e3", checked := Try.checked }
namespace Rows
def none {H : Type} : Left H := { results := [], args := [] }

/-- 'signpostlaw16.NexthopChain': WHATEVER THE INPUT: true; the input reads as it did. -/
def nexthopChainSpec : ChangeSpec := { name := "nexthopChain", fn := fun _ => fun
  | [d1, d2, d3, d4] => { results := [.lit (.bool true)], args := [d1, d2, d3, d4] }
  | _ => none }
def nexthopChainRow : OpenClaim := { program := "ytecegjimdohmeaa", sum := "2f389b8a3e57d3ff2ce6b1c81e2a507249cb679868d465b0c69132d0290fc8e3", func := "signpost/signpostlaw16.NexthopChain", spec := "nexthopChain", inPlace := ["math.Float64frombits", "math.Float64bits"], plainKeys := false, apart := false }
def NexthopChainSaid : Prop := nexthopChainRow.holds Try.pinned (OpenSpec.ofChange nexthopChainSpec)

/-- ITS FALSE NEIGHBOUR: 'it returns false'. Refute it at one input. -/
def nexthopChainWrong : ChangeSpec := { name := "nexthopChain", fn := fun _ => fun
  | [d1, d2, d3, d4] => { results := [.lit (.bool false)], args := [d1, d2, d3, d4] }
  | _ => none }
def NexthopChainWrongFalsely : Prop := nexthopChainRow.holds Try.pinned (OpenSpec.ofChange nexthopChainWrong)

/-- 'signpostlaw16.NexthopDirect': WHATEVER THE INPUT: true; the input reads as it did. -/
def nexthopDirectSpec : ChangeSpec := { name := "nexthopDirect", fn := fun _ => fun
  | [d1, d2, d3, d4, d5] => { results := [.lit (.bool true)], args := [d1, d2, d3, d4, d5] }
  | _ => none }
def nexthopDirectRow : OpenClaim := { program := "ytecegjimdohmeaa", sum := "2f389b8a3e57d3ff2ce6b1c81e2a507249cb679868d465b0c69132d0290fc8e3", func := "signpost/signpostlaw16.NexthopDirect", spec := "nexthopDirect", inPlace := ["math.Float64frombits", "math.Float64bits"], plainKeys := false, apart := false }
def NexthopDirectSaid : Prop := nexthopDirectRow.holds Try.pinned (OpenSpec.ofChange nexthopDirectSpec)

/-- ITS FALSE NEIGHBOUR: 'it returns false'. Refute it at one input. -/
def nexthopDirectWrong : ChangeSpec := { name := "nexthopDirect", fn := fun _ => fun
  | [d1, d2, d3, d4, d5] => { results := [.lit (.bool false)], args := [d1, d2, d3, d4, d5] }
  | _ => none }
def NexthopDirectWrongFalsely : Prop := nexthopDirectRow.holds Try.pinned (OpenSpec.ofChange nexthopDirectWrong)

/-- 'signpostlaw16.NexthopDepends': WHATEVER THE INPUT: true; the input reads as it did. -/
def nexthopDependsSpec : ChangeSpec := { name := "nexthopDepends", fn := fun _ => fun
  | [d1, d2, d3, d4, d5] => { results := [.lit (.bool true)], args := [d1, d2, d3, d4, d5] }
  | _ => none }
def nexthopDependsRow : OpenClaim := { program := "ytecegjimdohmeaa", sum := "2f389b8a3e57d3ff2ce6b1c81e2a507249cb679868d465b0c69132d0290fc8e3", func := "signpost/signpostlaw16.NexthopDepends", spec := "nexthopDepends", inPlace := ["math.Float64frombits", "math.Float64bits"], unfollowed := true, recurses := true, plainKeys := false, apart := false }
def NexthopDependsSaid : Prop := nexthopDependsRow.holds Try.pinned (OpenSpec.ofChange nexthopDependsSpec)

/-- ITS FALSE NEIGHBOUR: 'it returns false'. Refute it at one input. -/
def nexthopDependsWrong : ChangeSpec := { name := "nexthopDepends", fn := fun _ => fun
  | [d1, d2, d3, d4, d5] => { results := [.lit (.bool false)], args := [d1, d2, d3, d4, d5] }
  | _ => none }
def NexthopDependsWrongFalsely : Prop := nexthopDependsRow.holds Try.pinned (OpenSpec.ofChange nexthopDependsWrong)

/- THE SECOND FORM. 'bulk': how many values and letters a reading holds, each counted each time it is reached (what is shared counts as often as it is met; a slice's spare places count too). A statement '..UptoSaid' is the law's where the arguments, and the package variables that the reading takes, are together of bulk at most 1048576: NARROWER than '..Said'. Prove '..Said' where nothing that the law and all that it calls make is longer than what came in: it says more and counts as full. Else prove '..UptoSaid'. A law counts once. -/
mutual
def uptoBulk {H : Type} : DataW H → Nat
  | .lit (.string bytes) => bytes.length + 1
  | .lit _ => 1
  | .nil => 1
  | .ptr d => uptoBulk d + 1
  | .slice elems spare => uptoBulkAll elems + uptoBulkAll spare + 1
  | .agg parts => uptoBulkAll parts + 1
  | .iface _ d => uptoBulk d + 1
  | .map entries => uptoBulkEntries entries + 1
  | .held _ => 1
def uptoBulkAll {H : Type} : List (DataW H) → Nat
  | [] => 0
  | d :: r => uptoBulk d + uptoBulkAll r
def uptoBulkEntries {H : Type} : List (Lit × DataW H) → Nat
  | [] => 0
  | x :: r => uptoBulkEntry x + uptoBulkEntries r
def uptoBulkEntry {H : Type} : Lit × DataW H → Nat
  | (.string bytes, d) => bytes.length + uptoBulk d + 1
  | (_, d) => uptoBulk d + 1
 end
def uptoSmall : (H : Type) → List (DataW H) → Bool := fun _ ds => decide (uptoBulkAll ds ≤ 1048576)
def OpenSpec.upto (s : _root_.Go.ChangeSpec) : _root_.Go.OpenSpec := { _root_.Go.OpenSpec.ofChange s with cond := some uptoSmall }

/-- 'signpostlaw16.NexthopChain', WHERE WHAT IT READS IS OF BULK AT MOST 1048576: true; the input reads as it did. -/
def nexthopChainUptoRow : OpenClaim := { program := "ytecegjimdohmeaa", sum := "2f389b8a3e57d3ff2ce6b1c81e2a507249cb679868d465b0c69132d0290fc8e3", func := "signpost/signpostlaw16.NexthopChain", spec := "nexthopChain", inPlace := ["math.Float64frombits", "math.Float64bits"], plainKeys := false, apart := false, narrowed := true }
def NexthopChainUptoSaid : Prop := nexthopChainUptoRow.holds Try.pinned (OpenSpec.upto nexthopChainSpec)

/-- 'signpostlaw16.NexthopDirect', WHERE WHAT IT READS IS OF BULK AT MOST 1048576: true; the input reads as it did. -/
def nexthopDirectUptoRow : OpenClaim := { program := "ytecegjimdohmeaa", sum := "2f389b8a3e57d3ff2ce6b1c81e2a507249cb679868d465b0c69132d0290fc8e3", func := "signpost/signpostlaw16.NexthopDirect", spec := "nexthopDirect", inPlace := ["math.Float64frombits", "math.Float64bits"], plainKeys := false, apart := false, narrowed := true }
def NexthopDirectUptoSaid : Prop := nexthopDirectUptoRow.holds Try.pinned (OpenSpec.upto nexthopDirectSpec)

/-- 'signpostlaw16.NexthopDepends', WHERE WHAT IT READS IS OF BULK AT MOST 1048576: true; the input reads as it did. -/
def nexthopDependsUptoRow : OpenClaim := { program := "ytecegjimdohmeaa", sum := "2f389b8a3e57d3ff2ce6b1c81e2a507249cb679868d465b0c69132d0290fc8e3", func := "signpost/signpostlaw16.NexthopDepends", spec := "nexthopDepends", inPlace := ["math.Float64frombits", "math.Float64bits"], unfollowed := true, recurses := true, plainKeys := false, apart := false, narrowed := true }
def NexthopDependsUptoSaid : Prop := nexthopDependsUptoRow.holds Try.pinned (OpenSpec.upto nexthopDependsSpec)

end Rows
end Go.Proofs.Ytecegjimdohmeaa
