/-
  DERIVED. GIVEN WITH THE SEED: THE CARDS: each row of YtlnafekmiidpkaaDoorRows.lean that lists a variable, with what it lists TIED to the program's text (the seventh form; the later family's looks); each row that meets fmt, with fmt's text TOLD by the authors' own Lean function (tested against real Go, not proved from fmt's source: count such statements apart). THE CARD IS WHAT COUNTS. Prove the row's statement (the work); the ties are given (YtlnafekmiidpkaaDoorTie.lean); close each card by the builder's one call (the guide's Derived/Test/ToyasCard.lean, 'card_holds'). Laid BY PROGRAM, IN A SANDBOX (cutbox-door.mjs). By AI agents, Wed Nov 11 2026. No macro, syntax, notation, axiom, sorry.
-/
import Derived.Test.YtlnafekmiidpkaaDoorRows
import GoSem.ClaimSeven
namespace Go.Proofs.YtlnafekmiidpkaaDoor
namespace Rows

/-- THE TIED CARD OF 'keelsonlaw22.OrderTells'. -/
def orderTellsCard : Claim7 := { stood := { row := orderTellsRow, standIns := [], harness := (true, "f026631d65bb03ae5a0df82067cca7ed35431af4ad69e273b773eb64b17faaa8"), looks := false }, kinds := [], alts := [], laidByText := true, laidKinds := [.data], laidTests := true, laidLooks := .later }
def OrderTellsCardSaid : Prop := Claim7.holds Tryd.pinned (.plain (OpenSpec.ofChange orderTellsSpec)) orderTellsCard

/-- THE TIED CARD OF 'keelsonlaw22.OrderReplays'. -/
def orderReplaysCard : Claim7 := { stood := { row := orderReplaysRow, standIns := [], harness := (true, "f026631d65bb03ae5a0df82067cca7ed35431af4ad69e273b773eb64b17faaa8"), looks := false }, kinds := [], alts := [], laidByText := true, laidKinds := [.data], laidTests := true, laidLooks := .later }
def OrderReplaysCardSaid : Prop := Claim7.holds Tryd.pinned (.plain (OpenSpec.ofChange orderReplaysSpec)) orderReplaysCard

/-- THE SECOND FORM's CARD OF 'keelsonlaw22.OrderTells'. -/
def orderTellsUptoCard : Claim7 := { stood := { row := orderTellsUptoRow, standIns := [], harness := (true, "f026631d65bb03ae5a0df82067cca7ed35431af4ad69e273b773eb64b17faaa8"), looks := false }, kinds := [], alts := [], laidByText := true, laidKinds := [.data], laidTests := true, laidLooks := .later }
def OrderTellsUptoCardSaid : Prop := Claim7.holds Tryd.pinned (.plain (OpenSpec.upto orderTellsSpec)) orderTellsUptoCard

/-- THE SECOND FORM's CARD OF 'keelsonlaw22.OrderReplays'. -/
def orderReplaysUptoCard : Claim7 := { stood := { row := orderReplaysUptoRow, standIns := [], harness := (true, "f026631d65bb03ae5a0df82067cca7ed35431af4ad69e273b773eb64b17faaa8"), looks := false }, kinds := [], alts := [], laidByText := true, laidKinds := [.data], laidTests := true, laidLooks := .later }
def OrderReplaysUptoCardSaid : Prop := Claim7.holds Tryd.pinned (.plain (OpenSpec.upto orderReplaysSpec)) orderReplaysUptoCard
end Rows
end Go.Proofs.YtlnafekmiidpkaaDoor
