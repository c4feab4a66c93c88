/-
  DERIVED. GIVEN WITH THE SEED: THE CARDS: each row of YtikogdkjmnpfcaaDoorRows.lean that lists a variable, with what it lists TIED to the program's text (the seventh form; the later family's looks); each row that meets fmt, with fmt's text TOLD by the authors' own Lean function (tested against real Go, not proved from fmt's source: count such statements apart). THE CARD IS WHAT COUNTS. Prove the row's statement (the work); the ties are given (YtikogdkjmnpfcaaDoorTie.lean); close each card by the builder's one call (the guide's Derived/Test/ToyasCard.lean, 'card_holds'). Laid BY PROGRAM, IN A SANDBOX (cutbox-door.mjs). By AI agents, Wed Nov 11 2026. No macro, syntax, notation, axiom, sorry.
-/
import Derived.Test.YtikogdkjmnpfcaaDoorRows
import GoSem.ClaimSeven
namespace Go.Proofs.YtikogdkjmnpfcaaDoor
namespace Rows

/-- THE TIED CARD OF 'keelsonlaw13.AllocOnce'. -/
def allocOnceCard : Claim7 := { stood := { row := allocOnceRow, standIns := [], harness := (true, "90f7eeb9b8efa1114cceb2c9c046c93c0568f57a8aa0c80293cc38fc96e112cc"), looks := false }, kinds := [], alts := [], laidByText := true, laidKinds := [.data], laidTests := true, laidLooks := .later }
def AllocOnceCardSaid : Prop := Claim7.holds Tryd.pinned (.plain (OpenSpec.ofChange allocOnceSpec)) allocOnceCard

/-- THE TIED CARD OF 'keelsonlaw13.AllocPlays'. -/
def allocPlaysCard : Claim7 := { stood := { row := allocPlaysRow, standIns := [], harness := (true, "90f7eeb9b8efa1114cceb2c9c046c93c0568f57a8aa0c80293cc38fc96e112cc"), looks := false }, kinds := [], alts := [], laidByText := true, laidKinds := [.data], laidTests := true, laidLooks := .later }
def AllocPlaysCardSaid : Prop := Claim7.holds Tryd.pinned (.plain (OpenSpec.ofChange allocPlaysSpec)) allocPlaysCard

/-- THE TIED CARD OF 'keelsonlaw13.AllocNobody'. -/
def allocNobodyCard : Claim7 := { stood := { row := allocNobodyRow, standIns := [], harness := (true, "90f7eeb9b8efa1114cceb2c9c046c93c0568f57a8aa0c80293cc38fc96e112cc"), looks := false }, kinds := [], alts := [], laidByText := true, laidKinds := [.data], laidTests := true, laidLooks := .later }
def AllocNobodyCardSaid : Prop := Claim7.holds Tryd.pinned (.plain (OpenSpec.ofChange allocNobodySpec)) allocNobodyCard

/-- THE SECOND FORM's CARD OF 'keelsonlaw13.AllocOnce'. -/
def allocOnceUptoCard : Claim7 := { stood := { row := allocOnceUptoRow, standIns := [], harness := (true, "90f7eeb9b8efa1114cceb2c9c046c93c0568f57a8aa0c80293cc38fc96e112cc"), looks := false }, kinds := [], alts := [], laidByText := true, laidKinds := [.data], laidTests := true, laidLooks := .later }
def AllocOnceUptoCardSaid : Prop := Claim7.holds Tryd.pinned (.plain (OpenSpec.upto allocOnceSpec)) allocOnceUptoCard

/-- THE SECOND FORM's CARD OF 'keelsonlaw13.AllocPlays'. -/
def allocPlaysUptoCard : Claim7 := { stood := { row := allocPlaysUptoRow, standIns := [], harness := (true, "90f7eeb9b8efa1114cceb2c9c046c93c0568f57a8aa0c80293cc38fc96e112cc"), looks := false }, kinds := [], alts := [], laidByText := true, laidKinds := [.data], laidTests := true, laidLooks := .later }
def AllocPlaysUptoCardSaid : Prop := Claim7.holds Tryd.pinned (.plain (OpenSpec.upto allocPlaysSpec)) allocPlaysUptoCard

/-- THE SECOND FORM's CARD OF 'keelsonlaw13.AllocNobody'. -/
def allocNobodyUptoCard : Claim7 := { stood := { row := allocNobodyUptoRow, standIns := [], harness := (true, "90f7eeb9b8efa1114cceb2c9c046c93c0568f57a8aa0c80293cc38fc96e112cc"), looks := false }, kinds := [], alts := [], laidByText := true, laidKinds := [.data], laidTests := true, laidLooks := .later }
def AllocNobodyUptoCardSaid : Prop := Claim7.holds Tryd.pinned (.plain (OpenSpec.upto allocNobodySpec)) allocNobodyUptoCard
end Rows
end Go.Proofs.YtikogdkjmnpfcaaDoor
