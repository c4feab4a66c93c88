/-
  DERIVED. GIVEN WITH THE SEED: THE CARDS: each row of YtapfediapkklnaaDoorRows.lean that lists a variable, with what it lists TIED to the program's text (the seventh form; the later family's looks); each row that meets fmt, with fmt's text TOLD by the authors' own Lean function (tested against real Go, not proved from fmt's source: count such statements apart). THE CARD IS WHAT COUNTS. Prove the row's statement (the work); the ties are given (YtapfediapkklnaaDoorTie.lean); close each card by the builder's one call (the guide's Derived/Test/ToyasCard.lean, 'card_holds'). Laid BY PROGRAM, IN A SANDBOX (cutbox-door.mjs). By AI agents, Wed Nov 11 2026. No macro, syntax, notation, axiom, sorry.
-/
import Derived.Test.YtapfediapkklnaaDoorRows
import GoSem.ClaimSeven
namespace Go.Proofs.YtapfediapkklnaaDoor
namespace Rows

/-- THE TIED CARD OF 'keelsonlaw04.MarksOrder'. -/
def marksOrderCard : Claim7 := { stood := { row := marksOrderRow, standIns := [], harness := (true, "18d30e0360eda4c0155d2df232cbb8752b8c67cb5a3f12156a969777d8b0c93a"), looks := false }, kinds := [], alts := [], laidByText := true, laidKinds := [.data], laidTests := true, laidLooks := .later }
def MarksOrderCardSaid : Prop := Claim7.holds Tryd.pinned (.plain (OpenSpec.ofChange marksOrderSpec)) marksOrderCard

/-- THE TIED CARD OF 'keelsonlaw04.MarksStay'. -/
def marksStayCard : Claim7 := { stood := { row := marksStayRow, standIns := [], harness := (true, "18d30e0360eda4c0155d2df232cbb8752b8c67cb5a3f12156a969777d8b0c93a"), looks := false }, kinds := [], alts := [], laidByText := true, laidKinds := [.data], laidTests := true, laidLooks := .later }
def MarksStayCardSaid : Prop := Claim7.holds Tryd.pinned (.plain (OpenSpec.ofChange marksStaySpec)) marksStayCard

/-- THE TIED CARD OF 'keelsonlaw04.MarksSets'. -/
def marksSetsCard : Claim7 := { stood := { row := marksSetsRow, standIns := [], harness := (true, "18d30e0360eda4c0155d2df232cbb8752b8c67cb5a3f12156a969777d8b0c93a"), looks := false }, kinds := [], alts := [], laidByText := true, laidKinds := [.data], laidTests := true, laidLooks := .later }
def MarksSetsCardSaid : Prop := Claim7.holds Tryd.pinned (.plain (OpenSpec.ofChange marksSetsSpec)) marksSetsCard

/-- THE TIED CARD OF 'keelsonlaw04.MarksTells'. -/
def marksTellsCard : Claim7 := { stood := { row := marksTellsRow, standIns := [], harness := (true, "18d30e0360eda4c0155d2df232cbb8752b8c67cb5a3f12156a969777d8b0c93a"), looks := false }, kinds := [], alts := [], laidByText := true, laidKinds := [.data], laidTests := true, laidLooks := .later }
def MarksTellsCardSaid : Prop := Claim7.holds Tryd.pinned (.plain (OpenSpec.ofChange marksTellsSpec)) marksTellsCard

/-- THE SECOND FORM's CARD OF 'keelsonlaw04.MarksOrder'. -/
def marksOrderUptoCard : Claim7 := { stood := { row := marksOrderUptoRow, standIns := [], harness := (true, "18d30e0360eda4c0155d2df232cbb8752b8c67cb5a3f12156a969777d8b0c93a"), looks := false }, kinds := [], alts := [], laidByText := true, laidKinds := [.data], laidTests := true, laidLooks := .later }
def MarksOrderUptoCardSaid : Prop := Claim7.holds Tryd.pinned (.plain (OpenSpec.upto marksOrderSpec)) marksOrderUptoCard

/-- THE SECOND FORM's CARD OF 'keelsonlaw04.MarksStay'. -/
def marksStayUptoCard : Claim7 := { stood := { row := marksStayUptoRow, standIns := [], harness := (true, "18d30e0360eda4c0155d2df232cbb8752b8c67cb5a3f12156a969777d8b0c93a"), looks := false }, kinds := [], alts := [], laidByText := true, laidKinds := [.data], laidTests := true, laidLooks := .later }
def MarksStayUptoCardSaid : Prop := Claim7.holds Tryd.pinned (.plain (OpenSpec.upto marksStaySpec)) marksStayUptoCard

/-- THE SECOND FORM's CARD OF 'keelsonlaw04.MarksSets'. -/
def marksSetsUptoCard : Claim7 := { stood := { row := marksSetsUptoRow, standIns := [], harness := (true, "18d30e0360eda4c0155d2df232cbb8752b8c67cb5a3f12156a969777d8b0c93a"), looks := false }, kinds := [], alts := [], laidByText := true, laidKinds := [.data], laidTests := true, laidLooks := .later }
def MarksSetsUptoCardSaid : Prop := Claim7.holds Tryd.pinned (.plain (OpenSpec.upto marksSetsSpec)) marksSetsUptoCard

/-- THE SECOND FORM's CARD OF 'keelsonlaw04.MarksTells'. -/
def marksTellsUptoCard : Claim7 := { stood := { row := marksTellsUptoRow, standIns := [], harness := (true, "18d30e0360eda4c0155d2df232cbb8752b8c67cb5a3f12156a969777d8b0c93a"), looks := false }, kinds := [], alts := [], laidByText := true, laidKinds := [.data], laidTests := true, laidLooks := .later }
def MarksTellsUptoCardSaid : Prop := Claim7.holds Tryd.pinned (.plain (OpenSpec.upto marksTellsSpec)) marksTellsUptoCard
end Rows
end Go.Proofs.YtapfediapkklnaaDoor
