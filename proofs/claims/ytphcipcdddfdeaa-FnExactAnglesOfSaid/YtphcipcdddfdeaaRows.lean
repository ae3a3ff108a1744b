/-
  No cell of these rows narrows 'for every input' (looked for: loops, veiled, ifaces, maps, wideKeys, modest, calm, conditions, laid).
  DERIVED. THE GIVEN ROWS OF THIS SEAT. 5 by the template 'for every input the law returns true; each argument reads behind the call as it read before'; 0 by the template 'total and deterministic' (their statements: YtphcipcdddfdeaaTotals.lean).
  GIVEN WITH THE SEED: the statements are not yours to turn. If you find one false, say at which input.
  Laid BY PROGRAM, IN A SANDBOX (cutbox-rows.mjs): the forced cells as the released guide's own fill.sh prints them over the translation 1857e0d212d32761… (all of the seat's roots in one cut). By AI agents, Wed Nov 11 2026. No macro, syntax, notation, axiom, sorry.
-/
import Derived.Test.YtphcipcdddfdeaaChecked
import GoSem.Claim
import GoSem.ClaimJoined
import GoSem.ClaimMapViews
import Derived.JoinedTies
import Derived.KernelRfl
namespace Go.Proofs.Ytphcipcdddfdeaa
/- THE CELL 'sum', in the pinned program and in every row, IS THE sha256 OF THE DUMP (.gsa) THAT YtphcipcdddfdeaaProg.lean LOADS. Nothing in Lean hashes anything: it is a label: what it is worth is what the hold of that sum in a sandbox is worth. -/
noncomputable def Try.pinned : Pinned := { name := "ytphcipcdddfdeaa", sum := "1857e0d212d327614fc09b16a2384cea29fd60b88a1d6000d8e9bf0fd0df88e7", checked := Try.checked }
namespace Rows
def none {H : Type} : Left H := { results := [], args := [] }

/-- 'laws.FnExactIsSequence': WHATEVER THE INPUT: true; the input reads as it did. -/
def fnExactIsSequenceSpec : ChangeSpec := { name := "fnExactIsSequence", fn := fun _ => fun
  | [d] => { results := [.lit (.bool true)], args := [d] }
  | _ => none }
def fnExactIsSequenceRow : OpenClaim := { program := "ytphcipcdddfdeaa", sum := "1857e0d212d327614fc09b16a2384cea29fd60b88a1d6000d8e9bf0fd0df88e7", func := "loop.example/g01214/laws.FnExactIsSequence", spec := "fnExactIsSequence", unfollowed := true, recurses := true, apart := false }
def FnExactIsSequenceSaid : Prop := fnExactIsSequenceRow.holds Try.pinned (OpenSpec.ofChange fnExactIsSequenceSpec)

/-- ITS FALSE NEIGHBOUR: 'it returns false'. Refute it at one input. -/
def fnExactIsSequenceWrong : ChangeSpec := { name := "fnExactIsSequence", fn := fun _ => fun
  | [d] => { results := [.lit (.bool false)], args := [d] }
  | _ => none }
def FnExactIsSequenceWrongFalsely : Prop := fnExactIsSequenceRow.holds Try.pinned (OpenSpec.ofChange fnExactIsSequenceWrong)

/-- 'laws.FnExactInverseSequence': WHATEVER THE INPUT: true; the input reads as it did. -/
def fnExactInverseSequenceSpec : ChangeSpec := { name := "fnExactInverseSequence", fn := fun _ => fun
  | [d] => { results := [.lit (.bool true)], args := [d] }
  | _ => none }
def fnExactInverseSequenceRow : OpenClaim := { program := "ytphcipcdddfdeaa", sum := "1857e0d212d327614fc09b16a2384cea29fd60b88a1d6000d8e9bf0fd0df88e7", func := "loop.example/g01214/laws.FnExactInverseSequence", spec := "fnExactInverseSequence", unfollowed := true, recurses := true, apart := false }
def FnExactInverseSequenceSaid : Prop := fnExactInverseSequenceRow.holds Try.pinned (OpenSpec.ofChange fnExactInverseSequenceSpec)

/-- ITS FALSE NEIGHBOUR: 'it returns false'. Refute it at one input. -/
def fnExactInverseSequenceWrong : ChangeSpec := { name := "fnExactInverseSequence", fn := fun _ => fun
  | [d] => { results := [.lit (.bool false)], args := [d] }
  | _ => none }
def FnExactInverseSequenceWrongFalsely : Prop := fnExactInverseSequenceRow.holds Try.pinned (OpenSpec.ofChange fnExactInverseSequenceWrong)

/-- 'laws.FnExactAnglesOf': WHATEVER THE INPUT: true; the input reads as it did. -/
def fnExactAnglesOfSpec : ChangeSpec := { name := "fnExactAnglesOf", fn := fun _ => fun
  | [d] => { results := [.lit (.bool true)], args := [d] }
  | _ => none }
def fnExactAnglesOfRow : OpenClaim := { program := "ytphcipcdddfdeaa", sum := "1857e0d212d327614fc09b16a2384cea29fd60b88a1d6000d8e9bf0fd0df88e7", func := "loop.example/g01214/laws.FnExactAnglesOf", spec := "fnExactAnglesOf", unfollowed := true, recurses := true, apart := false }
def FnExactAnglesOfSaid : Prop := fnExactAnglesOfRow.holds Try.pinned (OpenSpec.ofChange fnExactAnglesOfSpec)

/-- ITS FALSE NEIGHBOUR: 'it returns false'. Refute it at one input. -/
def fnExactAnglesOfWrong : ChangeSpec := { name := "fnExactAnglesOf", fn := fun _ => fun
  | [d] => { results := [.lit (.bool false)], args := [d] }
  | _ => none }
def FnExactAnglesOfWrongFalsely : Prop := fnExactAnglesOfRow.holds Try.pinned (OpenSpec.ofChange fnExactAnglesOfWrong)

/-- 'laws.FnExactEchoOf': WHATEVER THE INPUT: true; the input reads as it did. -/
def fnExactEchoOfSpec : ChangeSpec := { name := "fnExactEchoOf", fn := fun _ => fun
  | [d] => { results := [.lit (.bool true)], args := [d] }
  | _ => none }
def fnExactEchoOfRow : OpenClaim := { program := "ytphcipcdddfdeaa", sum := "1857e0d212d327614fc09b16a2384cea29fd60b88a1d6000d8e9bf0fd0df88e7", func := "loop.example/g01214/laws.FnExactEchoOf", spec := "fnExactEchoOf", unfollowed := true, recurses := true, apart := false }
def FnExactEchoOfSaid : Prop := fnExactEchoOfRow.holds Try.pinned (OpenSpec.ofChange fnExactEchoOfSpec)

/-- ITS FALSE NEIGHBOUR: 'it returns false'. Refute it at one input. -/
def fnExactEchoOfWrong : ChangeSpec := { name := "fnExactEchoOf", fn := fun _ => fun
  | [d] => { results := [.lit (.bool false)], args := [d] }
  | _ => none }
def FnExactEchoOfWrongFalsely : Prop := fnExactEchoOfRow.holds Try.pinned (OpenSpec.ofChange fnExactEchoOfWrong)

/-- 'laws.FnExactShortenSequence': WHATEVER THE INPUT: true; the input reads as it did. -/
def fnExactShortenSequenceSpec : ChangeSpec := { name := "fnExactShortenSequence", fn := fun _ => fun
  | [d] => { results := [.lit (.bool true)], args := [d] }
  | _ => none }
def fnExactShortenSequenceRow : OpenClaim := { program := "ytphcipcdddfdeaa", sum := "1857e0d212d327614fc09b16a2384cea29fd60b88a1d6000d8e9bf0fd0df88e7", func := "loop.example/g01214/laws.FnExactShortenSequence", spec := "fnExactShortenSequence", inPlace := ["slices.overlaps[loop.example/g01214/impl.Pulse]"], unfollowed := true, recurses := true, apart := false }
def FnExactShortenSequenceSaid : Prop := fnExactShortenSequenceRow.holds Try.pinned (OpenSpec.ofChange fnExactShortenSequenceSpec)

/-- ITS FALSE NEIGHBOUR: 'it returns false'. Refute it at one input. -/
def fnExactShortenSequenceWrong : ChangeSpec := { name := "fnExactShortenSequence", fn := fun _ => fun
  | [d] => { results := [.lit (.bool false)], args := [d] }
  | _ => none }
def FnExactShortenSequenceWrongFalsely : Prop := fnExactShortenSequenceRow.holds Try.pinned (OpenSpec.ofChange fnExactShortenSequenceWrong)

/- THE SECOND FORM. 'bulk': how many values and letters a reading holds, each counted each time it is reached (what is shared counts as often as it is met; a slice's spare places count too). A statement '..UptoSaid' is the law's where the arguments, and the package variables that the reading takes, are together of bulk at most 1048576: NARROWER than '..Said'. Prove '..Said' where nothing that the law and all that it calls make is longer than what came in: it says more and counts as full. Else prove '..UptoSaid'. A law counts once. -/
mutual
def uptoBulk {H : Type} : DataW H → Nat
  | .lit (.string bytes) => bytes.length + 1
  | .lit _ => 1
  | .nil => 1
  | .ptr d => uptoBulk d + 1
  | .slice elems spare => uptoBulkAll elems + uptoBulkAll spare + 1
  | .agg parts => uptoBulkAll parts + 1
  | .iface _ d => uptoBulk d + 1
  | .map entries => uptoBulkEntries entries + 1
  | .held _ => 1
def uptoBulkAll {H : Type} : List (DataW H) → Nat
  | [] => 0
  | d :: r => uptoBulk d + uptoBulkAll r
def uptoBulkEntries {H : Type} : List (Lit × DataW H) → Nat
  | [] => 0
  | x :: r => uptoBulkEntry x + uptoBulkEntries r
def uptoBulkEntry {H : Type} : Lit × DataW H → Nat
  | (.string bytes, d) => bytes.length + uptoBulk d + 1
  | (_, d) => uptoBulk d + 1
 end
def uptoSmall : (H : Type) → List (DataW H) → Bool := fun _ ds => decide (uptoBulkAll ds ≤ 1048576)
def OpenSpec.upto (s : _root_.Go.ChangeSpec) : _root_.Go.OpenSpec := { _root_.Go.OpenSpec.ofChange s with cond := some uptoSmall }

/-- 'laws.FnExactIsSequence', WHERE WHAT IT READS IS OF BULK AT MOST 1048576: true; the input reads as it did. -/
def fnExactIsSequenceUptoRow : OpenClaim := { program := "ytphcipcdddfdeaa", sum := "1857e0d212d327614fc09b16a2384cea29fd60b88a1d6000d8e9bf0fd0df88e7", func := "loop.example/g01214/laws.FnExactIsSequence", spec := "fnExactIsSequence", unfollowed := true, recurses := true, apart := false, narrowed := true }
def FnExactIsSequenceUptoSaid : Prop := fnExactIsSequenceUptoRow.holds Try.pinned (OpenSpec.upto fnExactIsSequenceSpec)

/-- 'laws.FnExactInverseSequence', WHERE WHAT IT READS IS OF BULK AT MOST 1048576: true; the input reads as it did. -/
def fnExactInverseSequenceUptoRow : OpenClaim := { program := "ytphcipcdddfdeaa", sum := "1857e0d212d327614fc09b16a2384cea29fd60b88a1d6000d8e9bf0fd0df88e7", func := "loop.example/g01214/laws.FnExactInverseSequence", spec := "fnExactInverseSequence", unfollowed := true, recurses := true, apart := false, narrowed := true }
def FnExactInverseSequenceUptoSaid : Prop := fnExactInverseSequenceUptoRow.holds Try.pinned (OpenSpec.upto fnExactInverseSequenceSpec)

/-- 'laws.FnExactAnglesOf', WHERE WHAT IT READS IS OF BULK AT MOST 1048576: true; the input reads as it did. -/
def fnExactAnglesOfUptoRow : OpenClaim := { program := "ytphcipcdddfdeaa", sum := "1857e0d212d327614fc09b16a2384cea29fd60b88a1d6000d8e9bf0fd0df88e7", func := "loop.example/g01214/laws.FnExactAnglesOf", spec := "fnExactAnglesOf", unfollowed := true, recurses := true, apart := false, narrowed := true }
def FnExactAnglesOfUptoSaid : Prop := fnExactAnglesOfUptoRow.holds Try.pinned (OpenSpec.upto fnExactAnglesOfSpec)

/-- 'laws.FnExactEchoOf', WHERE WHAT IT READS IS OF BULK AT MOST 1048576: true; the input reads as it did. -/
def fnExactEchoOfUptoRow : OpenClaim := { program := "ytphcipcdddfdeaa", sum := "1857e0d212d327614fc09b16a2384cea29fd60b88a1d6000d8e9bf0fd0df88e7", func := "loop.example/g01214/laws.FnExactEchoOf", spec := "fnExactEchoOf", unfollowed := true, recurses := true, apart := false, narrowed := true }
def FnExactEchoOfUptoSaid : Prop := fnExactEchoOfUptoRow.holds Try.pinned (OpenSpec.upto fnExactEchoOfSpec)

/-- 'laws.FnExactShortenSequence', WHERE WHAT IT READS IS OF BULK AT MOST 1048576: true; the input reads as it did. -/
def fnExactShortenSequenceUptoRow : OpenClaim := { program := "ytphcipcdddfdeaa", sum := "1857e0d212d327614fc09b16a2384cea29fd60b88a1d6000d8e9bf0fd0df88e7", func := "loop.example/g01214/laws.FnExactShortenSequence", spec := "fnExactShortenSequence", inPlace := ["slices.overlaps[loop.example/g01214/impl.Pulse]"], unfollowed := true, recurses := true, apart := false, narrowed := true }
def FnExactShortenSequenceUptoSaid : Prop := fnExactShortenSequenceUptoRow.holds Try.pinned (OpenSpec.upto fnExactShortenSequenceSpec)

end Rows
end Go.Proofs.Ytphcipcdddfdeaa
