/-
  DERIVED. GIVEN WITH THE SEED: THE CARDS: each row of YtphcipcdddfdeaaDoorRows.lean that lists a variable, with what it lists TIED to the program's text (the seventh form; the later family's looks); each row that meets fmt, with fmt's text TOLD by the authors' own Lean function (tested against real Go, not proved from fmt's source: count such statements apart). THE CARD IS WHAT COUNTS. Prove the row's statement (the work); the ties are given (YtphcipcdddfdeaaDoorTie.lean); close each card by the builder's one call (the guide's Derived/Test/ToyasCard.lean, 'card_holds'). Laid BY PROGRAM, IN A SANDBOX (cutbox-door.mjs). By AI agents, Wed Nov 11 2026. No macro, syntax, notation, axiom, sorry.
-/
import Derived.Test.YtphcipcdddfdeaaDoorRows
import GoSem.ClaimSeven
namespace Go.Proofs.YtphcipcdddfdeaaDoor
namespace Rows

/-- THE TIED CARD OF 'laws.FnExactSequenceText'. -/
def fnExactSequenceTextCard : Claim7 := { stood := { row := fnExactSequenceTextRow, standIns := [], harness := (true, "2fb8d616d6402b19c331480ddee651d9606e73b7f9b6a207100a6f08349bb25f"), looks := true }, kinds := [], alts := [], laidByText := true, laidKinds := [.data, .data, .data], laidTests := true, laidLooks := .later }
def FnExactSequenceTextCardSaid : Prop := Claim7.holds Tryd.pinned (.plain (OpenSpec.ofChange fnExactSequenceTextSpec)) fnExactSequenceTextCard

/-- THE TIED CARD OF 'laws.FnExactParseSequence'. -/
def fnExactParseSequenceCard : Claim7 := { stood := { row := fnExactParseSequenceRow, standIns := [], harness := (true, "2fb8d616d6402b19c331480ddee651d9606e73b7f9b6a207100a6f08349bb25f"), looks := true }, kinds := [], alts := [], laidByText := true, laidKinds := [.data, .data, .data, .data, .sentinel, .sentinel, .pinned], laidTests := true, laidLooks := .later }
def FnExactParseSequenceCardSaid : Prop := Claim7.holds Tryd.pinned (.plain (OpenSpec.ofChange fnExactParseSequenceSpec)) fnExactParseSequenceCard

/-- THE SECOND FORM's CARD OF 'laws.FnExactSequenceText'. -/
def fnExactSequenceTextUptoCard : Claim7 := { stood := { row := fnExactSequenceTextUptoRow, standIns := [], harness := (true, "2fb8d616d6402b19c331480ddee651d9606e73b7f9b6a207100a6f08349bb25f"), looks := true }, kinds := [], alts := [], laidByText := true, laidKinds := [.data, .data, .data], laidTests := true, laidLooks := .later }
def FnExactSequenceTextUptoCardSaid : Prop := Claim7.holds Tryd.pinned (.plain (OpenSpec.upto fnExactSequenceTextSpec)) fnExactSequenceTextUptoCard

/-- THE SECOND FORM's CARD OF 'laws.FnExactParseSequence'. -/
def fnExactParseSequenceUptoCard : Claim7 := { stood := { row := fnExactParseSequenceUptoRow, standIns := [], harness := (true, "2fb8d616d6402b19c331480ddee651d9606e73b7f9b6a207100a6f08349bb25f"), looks := true }, kinds := [], alts := [], laidByText := true, laidKinds := [.data, .data, .data, .data, .sentinel, .sentinel, .pinned], laidTests := true, laidLooks := .later }
def FnExactParseSequenceUptoCardSaid : Prop := Claim7.holds Tryd.pinned (.plain (OpenSpec.upto fnExactParseSequenceSpec)) fnExactParseSequenceUptoCard
end Rows
end Go.Proofs.YtphcipcdddfdeaaDoor
