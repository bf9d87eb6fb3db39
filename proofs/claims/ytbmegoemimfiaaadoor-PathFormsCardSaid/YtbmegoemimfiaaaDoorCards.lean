/-
  DERIVED. GIVEN WITH THE SEED: THE CARDS: each row of YtbmegoemimfiaaaDoorRows.lean that lists a variable, with what it lists TIED to the program's text (the seventh form; the later family's looks); each row that meets fmt, with fmt's text TOLD by the authors' own Lean function (tested against real Go, not proved from fmt's source: count such statements apart). THE CARD IS WHAT COUNTS. Prove the row's statement (the work); the ties are given (YtbmegoemimfiaaaDoorTie.lean); close each card by the builder's one call (the guide's Derived/Test/ToyasCard.lean, 'card_holds'). Laid BY PROGRAM, IN A SANDBOX (cutbox-door.mjs). By AI agents, Wed Nov 11 2026. No macro, syntax, notation, axiom, sorry.
-/
import Derived.Test.YtbmegoemimfiaaaDoorRows
import GoSem.ClaimSeven
namespace Go.Proofs.YtbmegoemimfiaaaDoor
namespace Rows

/-- THE TIED CARD OF 'hostlerlaw06.PathForms'. -/
def pathFormsCard : Claim7 := { stood := { row := pathFormsRow, standIns := [], harness := (true, "8cf995d7fd38e7727b3bb91daa953cb7f5835e175f77c3b83006ae408d7cc854"), looks := false }, kinds := [], alts := [], laidByText := true, laidKinds := [.data, .data, .data, .data, .pinned], laidTests := true, laidLooks := .later }
def PathFormsCardSaid : Prop := Claim7.holds Tryd.pinned (.plain (OpenSpec.ofChange pathFormsSpec)) pathFormsCard

/-- THE TIED CARD OF 'hostlerlaw06.PathTells'. -/
def pathTellsCard : Claim7 := { stood := { row := pathTellsRow, standIns := [], harness := (true, "8cf995d7fd38e7727b3bb91daa953cb7f5835e175f77c3b83006ae408d7cc854"), looks := false }, kinds := [], alts := [], laidByText := true, laidKinds := [.data, .data, .data, .data, .pinned], laidTests := true, laidLooks := .later }
def PathTellsCardSaid : Prop := Claim7.holds Tryd.pinned (.plain (OpenSpec.ofChange pathTellsSpec)) pathTellsCard

/-- THE SECOND FORM's CARD OF 'hostlerlaw06.PathForms'. -/
def pathFormsUptoCard : Claim7 := { stood := { row := pathFormsUptoRow, standIns := [], harness := (true, "8cf995d7fd38e7727b3bb91daa953cb7f5835e175f77c3b83006ae408d7cc854"), looks := false }, kinds := [], alts := [], laidByText := true, laidKinds := [.data, .data, .data, .data, .pinned], laidTests := true, laidLooks := .later }
def PathFormsUptoCardSaid : Prop := Claim7.holds Tryd.pinned (.plain (OpenSpec.upto pathFormsSpec)) pathFormsUptoCard

/-- THE SECOND FORM's CARD OF 'hostlerlaw06.PathTells'. -/
def pathTellsUptoCard : Claim7 := { stood := { row := pathTellsUptoRow, standIns := [], harness := (true, "8cf995d7fd38e7727b3bb91daa953cb7f5835e175f77c3b83006ae408d7cc854"), looks := false }, kinds := [], alts := [], laidByText := true, laidKinds := [.data, .data, .data, .data, .pinned], laidTests := true, laidLooks := .later }
def PathTellsUptoCardSaid : Prop := Claim7.holds Tryd.pinned (.plain (OpenSpec.upto pathTellsSpec)) pathTellsUptoCard
end Rows
end Go.Proofs.YtbmegoemimfiaaaDoor
