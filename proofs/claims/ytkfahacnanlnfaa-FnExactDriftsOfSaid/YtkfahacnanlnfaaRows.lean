/-
  No cell of these rows narrows 'for every input' (looked for: loops, veiled, ifaces, maps, wideKeys, modest, calm, conditions, laid).
  DERIVED. THE GIVEN ROWS OF THIS SEAT. 6 by the template 'for every input the law returns true; each argument reads behind the call as it read before'; 0 by the template 'total and deterministic' (their statements: YtkfahacnanlnfaaTotals.lean).
  GIVEN WITH THE SEED: the statements are not yours to turn. If you find one false, say at which input.
  Laid BY PROGRAM, IN A SANDBOX (cutbox-rows.mjs): the forced cells as the released guide's own fill.sh prints them over the translation 9aa7ac4b223328e5… (all of the seat's roots in one cut). By AI agents, Wed Nov 11 2026. No macro, syntax, notation, axiom, sorry.
-/
import Derived.Test.YtkfahacnanlnfaaChecked
import GoSem.Claim
import GoSem.ClaimJoined
import GoSem.ClaimMapViews
import Derived.JoinedTies
import Derived.KernelRfl
namespace Go.Proofs.Ytkfahacnanlnfaa
/- THE CELL 'sum', in the pinned program and in every row, IS THE sha256 OF THE DUMP (.gsa) THAT YtkfahacnanlnfaaProg.lean LOADS. Nothing in Lean hashes anything: it is a label: what it is worth is what the hold of that sum in a sandbox is worth. -/
noncomputable def Try.pinned : Pinned := { name := "ytkfahacnanlnfaa", sum := "9aa7ac4b223328e5f2418ff76b790893353d181e968b3d7818dac8427938e30d", checked := Try.checked }
namespace Rows
def none {H : Type} : Left H := { results := [], args := [] }

/-- 'laws.FnExactInnerOfVectors': WHATEVER THE INPUT: true; the input reads as it did. -/
def fnExactInnerOfVectorsSpec : ChangeSpec := { name := "fnExactInnerOfVectors", fn := fun _ => fun
  | [d1, d2] => { results := [.lit (.bool true)], args := [d1, d2] }
  | _ => none }
def fnExactInnerOfVectorsRow : OpenClaim := { program := "ytkfahacnanlnfaa", sum := "9aa7ac4b223328e5f2418ff76b790893353d181e968b3d7818dac8427938e30d", func := "loop.example/g01214/laws.FnExactInnerOfVectors", spec := "fnExactInnerOfVectors", inPlace := ["math.Float64bits", "math.Float64frombits"], unfollowed := true, recurses := true, apart := false }
def FnExactInnerOfVectorsSaid : Prop := fnExactInnerOfVectorsRow.holds Try.pinned (OpenSpec.ofChange fnExactInnerOfVectorsSpec)

/-- ITS FALSE NEIGHBOUR: 'it returns false'. Refute it at one input. -/
def fnExactInnerOfVectorsWrong : ChangeSpec := { name := "fnExactInnerOfVectors", fn := fun _ => fun
  | [d1, d2] => { results := [.lit (.bool false)], args := [d1, d2] }
  | _ => none }
def FnExactInnerOfVectorsWrongFalsely : Prop := fnExactInnerOfVectorsRow.holds Try.pinned (OpenSpec.ofChange fnExactInnerOfVectorsWrong)

/-- 'laws.FnExactCrossOfVectors': WHATEVER THE INPUT: true; the input reads as it did. -/
def fnExactCrossOfVectorsSpec : ChangeSpec := { name := "fnExactCrossOfVectors", fn := fun _ => fun
  | [d1, d2] => { results := [.lit (.bool true)], args := [d1, d2] }
  | _ => none }
def fnExactCrossOfVectorsRow : OpenClaim := { program := "ytkfahacnanlnfaa", sum := "9aa7ac4b223328e5f2418ff76b790893353d181e968b3d7818dac8427938e30d", func := "loop.example/g01214/laws.FnExactCrossOfVectors", spec := "fnExactCrossOfVectors", inPlace := ["math.Float64bits", "math.Float64frombits"], unfollowed := true, recurses := true, apart := false }
def FnExactCrossOfVectorsSaid : Prop := fnExactCrossOfVectorsRow.holds Try.pinned (OpenSpec.ofChange fnExactCrossOfVectorsSpec)

/-- ITS FALSE NEIGHBOUR: 'it returns false'. Refute it at one input. -/
def fnExactCrossOfVectorsWrong : ChangeSpec := { name := "fnExactCrossOfVectors", fn := fun _ => fun
  | [d1, d2] => { results := [.lit (.bool false)], args := [d1, d2] }
  | _ => none }
def FnExactCrossOfVectorsWrongFalsely : Prop := fnExactCrossOfVectorsRow.holds Try.pinned (OpenSpec.ofChange fnExactCrossOfVectorsWrong)

/-- 'laws.FnExactBellPair': WHATEVER THE INPUT: true; the input reads as it did. -/
def fnExactBellPairSpec : ChangeSpec := { name := "fnExactBellPair", fn := fun _ => fun
  | [d] => { results := [.lit (.bool true)], args := [d] }
  | _ => none }
def fnExactBellPairRow : OpenClaim := { program := "ytkfahacnanlnfaa", sum := "9aa7ac4b223328e5f2418ff76b790893353d181e968b3d7818dac8427938e30d", func := "loop.example/g01214/laws.FnExactBellPair", spec := "fnExactBellPair", inPlace := ["math.sqrt", "math.Float64bits", "math.Float64frombits"], apart := false }
def FnExactBellPairSaid : Prop := fnExactBellPairRow.holds Try.pinned (OpenSpec.ofChange fnExactBellPairSpec)

/-- ITS FALSE NEIGHBOUR: 'it returns false'. Refute it at one input. -/
def fnExactBellPairWrong : ChangeSpec := { name := "fnExactBellPair", fn := fun _ => fun
  | [d] => { results := [.lit (.bool false)], args := [d] }
  | _ => none }
def FnExactBellPairWrongFalsely : Prop := fnExactBellPairRow.holds Try.pinned (OpenSpec.ofChange fnExactBellPairWrong)

/-- 'laws.FnExactWeightsOf': WHATEVER THE INPUT: true; the input reads as it did. -/
def fnExactWeightsOfSpec : ChangeSpec := { name := "fnExactWeightsOf", fn := fun _ => fun
  | [d] => { results := [.lit (.bool true)], args := [d] }
  | _ => none }
def fnExactWeightsOfRow : OpenClaim := { program := "ytkfahacnanlnfaa", sum := "9aa7ac4b223328e5f2418ff76b790893353d181e968b3d7818dac8427938e30d", func := "loop.example/g01214/laws.FnExactWeightsOf", spec := "fnExactWeightsOf", inPlace := ["math.Float64bits", "math.Float64frombits", "math.sqrt"], apart := false }
def FnExactWeightsOfSaid : Prop := fnExactWeightsOfRow.holds Try.pinned (OpenSpec.ofChange fnExactWeightsOfSpec)

/-- ITS FALSE NEIGHBOUR: 'it returns false'. Refute it at one input. -/
def fnExactWeightsOfWrong : ChangeSpec := { name := "fnExactWeightsOf", fn := fun _ => fun
  | [d] => { results := [.lit (.bool false)], args := [d] }
  | _ => none }
def FnExactWeightsOfWrongFalsely : Prop := fnExactWeightsOfRow.holds Try.pinned (OpenSpec.ofChange fnExactWeightsOfWrong)

/-- 'laws.FnExactRenewedTable': WHATEVER THE INPUT: true; the input reads as it did. -/
def fnExactRenewedTableSpec : ChangeSpec := { name := "fnExactRenewedTable", fn := fun _ => fun
  | [d1, d2] => { results := [.lit (.bool true)], args := [d1, d2] }
  | _ => none }
def fnExactRenewedTableRow : OpenClaim := { program := "ytkfahacnanlnfaa", sum := "9aa7ac4b223328e5f2418ff76b790893353d181e968b3d7818dac8427938e30d", func := "loop.example/g01214/laws.FnExactRenewedTable", spec := "fnExactRenewedTable", inPlace := ["math.Float64bits", "math.Float64frombits", "math.sqrt"], unfollowed := true, recurses := true, apart := false }
def FnExactRenewedTableSaid : Prop := fnExactRenewedTableRow.holds Try.pinned (OpenSpec.ofChange fnExactRenewedTableSpec)

/-- ITS FALSE NEIGHBOUR: 'it returns false'. Refute it at one input. -/
def fnExactRenewedTableWrong : ChangeSpec := { name := "fnExactRenewedTable", fn := fun _ => fun
  | [d1, d2] => { results := [.lit (.bool false)], args := [d1, d2] }
  | _ => none }
def FnExactRenewedTableWrongFalsely : Prop := fnExactRenewedTableRow.holds Try.pinned (OpenSpec.ofChange fnExactRenewedTableWrong)

/-- 'laws.FnExactDriftsOf': WHATEVER THE INPUT: true; the input reads as it did. -/
def fnExactDriftsOfSpec : ChangeSpec := { name := "fnExactDriftsOf", fn := fun _ => fun
  | [d] => { results := [.lit (.bool true)], args := [d] }
  | _ => none }
def fnExactDriftsOfRow : OpenClaim := { program := "ytkfahacnanlnfaa", sum := "9aa7ac4b223328e5f2418ff76b790893353d181e968b3d7818dac8427938e30d", func := "loop.example/g01214/laws.FnExactDriftsOf", spec := "fnExactDriftsOf", inPlace := ["math.Float64bits", "math.Float64frombits", "math.sqrt"], unfollowed := true, recurses := true, apart := false }
def FnExactDriftsOfSaid : Prop := fnExactDriftsOfRow.holds Try.pinned (OpenSpec.ofChange fnExactDriftsOfSpec)

/-- ITS FALSE NEIGHBOUR: 'it returns false'. Refute it at one input. -/
def fnExactDriftsOfWrong : ChangeSpec := { name := "fnExactDriftsOf", fn := fun _ => fun
  | [d] => { results := [.lit (.bool false)], args := [d] }
  | _ => none }
def FnExactDriftsOfWrongFalsely : Prop := fnExactDriftsOfRow.holds Try.pinned (OpenSpec.ofChange fnExactDriftsOfWrong)

/- THE SECOND FORM. 'bulk': how many values and letters a reading holds, each counted each time it is reached (what is shared counts as often as it is met; a slice's spare places count too). A statement '..UptoSaid' is the law's where the arguments, and the package variables that the reading takes, are together of bulk at most 1048576: NARROWER than '..Said'. Prove '..Said' where nothing that the law and all that it calls make is longer than what came in: it says more and counts as full. Else prove '..UptoSaid'. A law counts once. -/
mutual
def uptoBulk {H : Type} : DataW H → Nat
  | .lit (.string bytes) => bytes.length + 1
  | .lit _ => 1
  | .nil => 1
  | .ptr d => uptoBulk d + 1
  | .slice elems spare => uptoBulkAll elems + uptoBulkAll spare + 1
  | .agg parts => uptoBulkAll parts + 1
  | .iface _ d => uptoBulk d + 1
  | .map entries => uptoBulkEntries entries + 1
  | .held _ => 1
def uptoBulkAll {H : Type} : List (DataW H) → Nat
  | [] => 0
  | d :: r => uptoBulk d + uptoBulkAll r
def uptoBulkEntries {H : Type} : List (Lit × DataW H) → Nat
  | [] => 0
  | x :: r => uptoBulkEntry x + uptoBulkEntries r
def uptoBulkEntry {H : Type} : Lit × DataW H → Nat
  | (.string bytes, d) => bytes.length + uptoBulk d + 1
  | (_, d) => uptoBulk d + 1
 end
def uptoSmall : (H : Type) → List (DataW H) → Bool := fun _ ds => decide (uptoBulkAll ds ≤ 1048576)
def OpenSpec.upto (s : _root_.Go.ChangeSpec) : _root_.Go.OpenSpec := { _root_.Go.OpenSpec.ofChange s with cond := some uptoSmall }

/-- 'laws.FnExactInnerOfVectors', WHERE WHAT IT READS IS OF BULK AT MOST 1048576: true; the input reads as it did. -/
def fnExactInnerOfVectorsUptoRow : OpenClaim := { program := "ytkfahacnanlnfaa", sum := "9aa7ac4b223328e5f2418ff76b790893353d181e968b3d7818dac8427938e30d", func := "loop.example/g01214/laws.FnExactInnerOfVectors", spec := "fnExactInnerOfVectors", inPlace := ["math.Float64bits", "math.Float64frombits"], unfollowed := true, recurses := true, apart := false, narrowed := true }
def FnExactInnerOfVectorsUptoSaid : Prop := fnExactInnerOfVectorsUptoRow.holds Try.pinned (OpenSpec.upto fnExactInnerOfVectorsSpec)

/-- 'laws.FnExactCrossOfVectors', WHERE WHAT IT READS IS OF BULK AT MOST 1048576: true; the input reads as it did. -/
def fnExactCrossOfVectorsUptoRow : OpenClaim := { program := "ytkfahacnanlnfaa", sum := "9aa7ac4b223328e5f2418ff76b790893353d181e968b3d7818dac8427938e30d", func := "loop.example/g01214/laws.FnExactCrossOfVectors", spec := "fnExactCrossOfVectors", inPlace := ["math.Float64bits", "math.Float64frombits"], unfollowed := true, recurses := true, apart := false, narrowed := true }
def FnExactCrossOfVectorsUptoSaid : Prop := fnExactCrossOfVectorsUptoRow.holds Try.pinned (OpenSpec.upto fnExactCrossOfVectorsSpec)

/-- 'laws.FnExactBellPair', WHERE WHAT IT READS IS OF BULK AT MOST 1048576: true; the input reads as it did. -/
def fnExactBellPairUptoRow : OpenClaim := { program := "ytkfahacnanlnfaa", sum := "9aa7ac4b223328e5f2418ff76b790893353d181e968b3d7818dac8427938e30d", func := "loop.example/g01214/laws.FnExactBellPair", spec := "fnExactBellPair", inPlace := ["math.sqrt", "math.Float64bits", "math.Float64frombits"], apart := false, narrowed := true }
def FnExactBellPairUptoSaid : Prop := fnExactBellPairUptoRow.holds Try.pinned (OpenSpec.upto fnExactBellPairSpec)

/-- 'laws.FnExactWeightsOf', WHERE WHAT IT READS IS OF BULK AT MOST 1048576: true; the input reads as it did. -/
def fnExactWeightsOfUptoRow : OpenClaim := { program := "ytkfahacnanlnfaa", sum := "9aa7ac4b223328e5f2418ff76b790893353d181e968b3d7818dac8427938e30d", func := "loop.example/g01214/laws.FnExactWeightsOf", spec := "fnExactWeightsOf", inPlace := ["math.Float64bits", "math.Float64frombits", "math.sqrt"], apart := false, narrowed := true }
def FnExactWeightsOfUptoSaid : Prop := fnExactWeightsOfUptoRow.holds Try.pinned (OpenSpec.upto fnExactWeightsOfSpec)

/-- 'laws.FnExactRenewedTable', WHERE WHAT IT READS IS OF BULK AT MOST 1048576: true; the input reads as it did. -/
def fnExactRenewedTableUptoRow : OpenClaim := { program := "ytkfahacnanlnfaa", sum := "9aa7ac4b223328e5f2418ff76b790893353d181e968b3d7818dac8427938e30d", func := "loop.example/g01214/laws.FnExactRenewedTable", spec := "fnExactRenewedTable", inPlace := ["math.Float64bits", "math.Float64frombits", "math.sqrt"], unfollowed := true, recurses := true, apart := false, narrowed := true }
def FnExactRenewedTableUptoSaid : Prop := fnExactRenewedTableUptoRow.holds Try.pinned (OpenSpec.upto fnExactRenewedTableSpec)

/-- 'laws.FnExactDriftsOf', WHERE WHAT IT READS IS OF BULK AT MOST 1048576: true; the input reads as it did. -/
def fnExactDriftsOfUptoRow : OpenClaim := { program := "ytkfahacnanlnfaa", sum := "9aa7ac4b223328e5f2418ff76b790893353d181e968b3d7818dac8427938e30d", func := "loop.example/g01214/laws.FnExactDriftsOf", spec := "fnExactDriftsOf", inPlace := ["math.Float64bits", "math.Float64frombits", "math.sqrt"], unfollowed := true, recurses := true, apart := false, narrowed := true }
def FnExactDriftsOfUptoSaid : Prop := fnExactDriftsOfUptoRow.holds Try.pinned (OpenSpec.upto fnExactDriftsOfSpec)

end Rows
end Go.Proofs.Ytkfahacnanlnfaa
