/-
  DERIVED. GIVEN WITH THE SEED: THE CARDS: each row of YtniolbbhjibobaaDoorRows.lean that lists a variable, with what it lists TIED to the program's text (the seventh form; the later family's looks); each row that meets fmt, with fmt's text TOLD by the authors' own Lean function (tested against real Go, not proved from fmt's source: count such statements apart). THE CARD IS WHAT COUNTS. Prove the row's statement (the work); the ties are given (YtniolbbhjibobaaDoorTie.lean); close each card by the builder's one call (the guide's Derived/Test/ToyasCard.lean, 'card_holds'). Laid BY PROGRAM, IN A SANDBOX (cutbox-door.mjs). By AI agents, Wed Nov 11 2026. No macro, syntax, notation, axiom, sorry.
-/
import Derived.Test.YtniolbbhjibobaaDoorRows
import GoSem.ClaimSeven
namespace Go.Proofs.YtniolbbhjibobaaDoor
namespace Rows

/-- THE TIED CARD OF 'tokenhalllaw.BlocksList'. -/
def blocksListCard : Claim7 := { stood := { row := blocksListRow, standIns := [], harness := (true, "358fd026f403ba567947745b5e711cf84d492dc8d8cbc1ee9405f2b8d1a3e293"), looks := false }, kinds := [], alts := [], laidByText := true, laidKinds := [.data, .data, .data], laidTests := true, laidLooks := .later }
def BlocksListCardSaid : Prop := Claim7.holds Tryd.pinned (.plain (OpenSpec.ofChange blocksListSpec)) blocksListCard

/-- THE SECOND FORM's CARD OF 'tokenhalllaw.BlocksList'. -/
def blocksListUptoCard : Claim7 := { stood := { row := blocksListUptoRow, standIns := [], harness := (true, "358fd026f403ba567947745b5e711cf84d492dc8d8cbc1ee9405f2b8d1a3e293"), looks := false }, kinds := [], alts := [], laidByText := true, laidKinds := [.data, .data, .data], laidTests := true, laidLooks := .later }
def BlocksListUptoCardSaid : Prop := Claim7.holds Tryd.pinned (.plain (OpenSpec.upto blocksListSpec)) blocksListUptoCard
end Rows
end Go.Proofs.YtniolbbhjibobaaDoor
