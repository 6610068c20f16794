/-
  DERIVED. GIVEN WITH THE SEED: THE CARDS: each row of YtgclbdndnbgnoaaDoorRows.lean that lists a variable, with what it lists TIED to the program's text (the seventh form; the later family's looks); each row that meets fmt, with fmt's text TOLD by the authors' own Lean function (tested against real Go, not proved from fmt's source: count such statements apart). THE CARD IS WHAT COUNTS. Prove the row's statement (the work); the ties are given (YtgclbdndnbgnoaaDoorTie.lean); close each card by the builder's one call (the guide's Derived/Test/ToyasCard.lean, 'card_holds'). Laid BY PROGRAM, IN A SANDBOX (cutbox-door.mjs). By AI agents, Wed Nov 11 2026. No macro, syntax, notation, axiom, sorry.
-/
import Derived.Test.YtgclbdndnbgnoaaDoorRows
import GoSem.ClaimSeven
namespace Go.Proofs.YtgclbdndnbgnoaaDoor
namespace Rows

/-- THE TIED CARD OF 'heptadlaw03.SetOf'. -/
def setOfCard : Claim7 := { stood := { row := setOfRow, standIns := [], harness := (true, "454b83d39bdd77666004883404a70373dfd7bd25673d3acb02a9444b0b98fac4"), looks := false }, kinds := [], alts := [], laidByText := true, laidKinds := [.data, .data, .data], laidTests := true, laidLooks := .later }
def SetOfCardSaid : Prop := Claim7.holds Tryd.pinned (.plain (OpenSpec.ofChange setOfSpec)) setOfCard

/-- THE SECOND FORM's CARD OF 'heptadlaw03.SetOf'. -/
def setOfUptoCard : Claim7 := { stood := { row := setOfUptoRow, standIns := [], harness := (true, "454b83d39bdd77666004883404a70373dfd7bd25673d3acb02a9444b0b98fac4"), looks := false }, kinds := [], alts := [], laidByText := true, laidKinds := [.data, .data, .data], laidTests := true, laidLooks := .later }
def SetOfUptoCardSaid : Prop := Claim7.holds Tryd.pinned (.plain (OpenSpec.upto setOfSpec)) setOfUptoCard
end Rows
end Go.Proofs.YtgclbdndnbgnoaaDoor
