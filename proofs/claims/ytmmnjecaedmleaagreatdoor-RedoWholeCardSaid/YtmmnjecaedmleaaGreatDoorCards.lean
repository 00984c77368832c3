/-
  DERIVED. GIVEN WITH THE SEED: THE CARDS: each row of YtmmnjecaedmleaaGreatDoorRows.lean that lists a variable, with what it lists TIED to the program's text (the seventh form; the later family's looks); each row that meets fmt, with fmt's text TOLD by the authors' own Lean function (tested against real Go, not proved from fmt's source: count such statements apart). THE CARD IS WHAT COUNTS. Prove the row's statement (the work); the ties are given (YtmmnjecaedmleaaGreatDoorTie.lean); close each card by the builder's one call (the guide's Derived/Test/ToyasCard.lean, 'card_holds'). Laid BY PROGRAM, IN A SANDBOX (cutbox-door.mjs). By AI agents, Wed Nov 11 2026. No macro, syntax, notation, axiom, sorry.
-/
import Derived.Test.YtmmnjecaedmleaaGreatDoorRows
import GoSem.ClaimSeven
namespace Go.Proofs.YtmmnjecaedmleaaGreatDoor
namespace Rows

/-- THE TIED CARD OF 'commonslaw13.RedoNewer'. -/
def redoNewerCard : Claim7 := { stood := { row := redoNewerRow, standIns := [], harness := (true, "ad5ac01a4e53eb1f7d8e01071822a1000821cc540c5c89234c0eb019d59699cb"), looks := true }, kinds := [], alts := [], laidByText := true, laidKinds := [.data, .pinned], laidTests := true, laidLooks := .later }
def RedoNewerCardSaid : Prop := Claim7.holds Tryz.pinned (.plain (OpenSpec.ofChange redoNewerSpec)) redoNewerCard

/-- THE TIED CARD OF 'commonslaw13.RedoEvery'. -/
def redoEveryCard : Claim7 := { stood := { row := redoEveryRow, standIns := [], harness := (true, "ad5ac01a4e53eb1f7d8e01071822a1000821cc540c5c89234c0eb019d59699cb"), looks := true }, kinds := [], alts := [], laidByText := true, laidKinds := [.data, .pinned], laidTests := true, laidLooks := .later }
def RedoEveryCardSaid : Prop := Claim7.holds Tryz.pinned (.plain (OpenSpec.ofChange redoEverySpec)) redoEveryCard

/-- THE TIED CARD OF 'commonslaw13.RedoPlans'. -/
def redoPlansCard : Claim7 := { stood := { row := redoPlansRow, standIns := [], harness := (true, "ad5ac01a4e53eb1f7d8e01071822a1000821cc540c5c89234c0eb019d59699cb"), looks := true }, kinds := [], alts := [], laidByText := true, laidKinds := [.data, .pinned], laidTests := true, laidLooks := .later }
def RedoPlansCardSaid : Prop := Claim7.holds Tryz.pinned (.plain (OpenSpec.ofChange redoPlansSpec)) redoPlansCard

/-- THE TIED CARD OF 'commonslaw13.RedoOther'. -/
def redoOtherCard : Claim7 := { stood := { row := redoOtherRow, standIns := [], harness := (true, "ad5ac01a4e53eb1f7d8e01071822a1000821cc540c5c89234c0eb019d59699cb"), looks := true }, kinds := [], alts := [], laidByText := true, laidKinds := [.data, .pinned], laidTests := true, laidLooks := .later }
def RedoOtherCardSaid : Prop := Claim7.holds Tryz.pinned (.plain (OpenSpec.ofChange redoOtherSpec)) redoOtherCard

/-- THE TIED CARD OF 'commonslaw13.LogEvery'. -/
def logEveryCard : Claim7 := { stood := { row := logEveryRow, standIns := [], harness := (true, "ad5ac01a4e53eb1f7d8e01071822a1000821cc540c5c89234c0eb019d59699cb"), looks := true }, kinds := [], alts := [], laidByText := true, laidKinds := [.data, .pinned], laidTests := true, laidLooks := .later }
def LogEveryCardSaid : Prop := Claim7.holds Tryz.pinned (.plain (OpenSpec.ofChange logEverySpec)) logEveryCard

/-- THE TIED CARD OF 'commonslaw13.RedoTells'. -/
def redoTellsCard : Claim7 := { stood := { row := redoTellsRow, standIns := [], harness := (true, "ad5ac01a4e53eb1f7d8e01071822a1000821cc540c5c89234c0eb019d59699cb"), looks := true }, kinds := [], alts := [], laidByText := true, laidKinds := [.data, .pinned], laidTests := true, laidLooks := .later }
def RedoTellsCardSaid : Prop := Claim7.holds Tryz.pinned (.plain (OpenSpec.ofChange redoTellsSpec)) redoTellsCard

/-- THE TIED CARD OF 'commonslaw13.RedoWhole'. -/
def redoWholeCard : Claim7 := { stood := { row := redoWholeRow, standIns := [], harness := (true, "ad5ac01a4e53eb1f7d8e01071822a1000821cc540c5c89234c0eb019d59699cb"), looks := true }, kinds := [], alts := [], laidByText := true, laidKinds := [.data, .pinned], laidTests := true, laidLooks := .later }
def RedoWholeCardSaid : Prop := Claim7.holds Tryz.pinned (.plain (OpenSpec.ofChange redoWholeSpec)) redoWholeCard

/-- THE SECOND FORM's CARD OF 'commonslaw13.RedoNewer'. -/
def redoNewerUptoCard : Claim7 := { stood := { row := redoNewerUptoRow, standIns := [], harness := (true, "ad5ac01a4e53eb1f7d8e01071822a1000821cc540c5c89234c0eb019d59699cb"), looks := true }, kinds := [], alts := [], laidByText := true, laidKinds := [.data, .pinned], laidTests := true, laidLooks := .later }
def RedoNewerUptoCardSaid : Prop := Claim7.holds Tryz.pinned (.plain (OpenSpec.upto redoNewerSpec)) redoNewerUptoCard

/-- THE SECOND FORM's CARD OF 'commonslaw13.RedoEvery'. -/
def redoEveryUptoCard : Claim7 := { stood := { row := redoEveryUptoRow, standIns := [], harness := (true, "ad5ac01a4e53eb1f7d8e01071822a1000821cc540c5c89234c0eb019d59699cb"), looks := true }, kinds := [], alts := [], laidByText := true, laidKinds := [.data, .pinned], laidTests := true, laidLooks := .later }
def RedoEveryUptoCardSaid : Prop := Claim7.holds Tryz.pinned (.plain (OpenSpec.upto redoEverySpec)) redoEveryUptoCard

/-- THE SECOND FORM's CARD OF 'commonslaw13.RedoPlans'. -/
def redoPlansUptoCard : Claim7 := { stood := { row := redoPlansUptoRow, standIns := [], harness := (true, "ad5ac01a4e53eb1f7d8e01071822a1000821cc540c5c89234c0eb019d59699cb"), looks := true }, kinds := [], alts := [], laidByText := true, laidKinds := [.data, .pinned], laidTests := true, laidLooks := .later }
def RedoPlansUptoCardSaid : Prop := Claim7.holds Tryz.pinned (.plain (OpenSpec.upto redoPlansSpec)) redoPlansUptoCard

/-- THE SECOND FORM's CARD OF 'commonslaw13.RedoOther'. -/
def redoOtherUptoCard : Claim7 := { stood := { row := redoOtherUptoRow, standIns := [], harness := (true, "ad5ac01a4e53eb1f7d8e01071822a1000821cc540c5c89234c0eb019d59699cb"), looks := true }, kinds := [], alts := [], laidByText := true, laidKinds := [.data, .pinned], laidTests := true, laidLooks := .later }
def RedoOtherUptoCardSaid : Prop := Claim7.holds Tryz.pinned (.plain (OpenSpec.upto redoOtherSpec)) redoOtherUptoCard

/-- THE SECOND FORM's CARD OF 'commonslaw13.LogEvery'. -/
def logEveryUptoCard : Claim7 := { stood := { row := logEveryUptoRow, standIns := [], harness := (true, "ad5ac01a4e53eb1f7d8e01071822a1000821cc540c5c89234c0eb019d59699cb"), looks := true }, kinds := [], alts := [], laidByText := true, laidKinds := [.data, .pinned], laidTests := true, laidLooks := .later }
def LogEveryUptoCardSaid : Prop := Claim7.holds Tryz.pinned (.plain (OpenSpec.upto logEverySpec)) logEveryUptoCard

/-- THE SECOND FORM's CARD OF 'commonslaw13.RedoTells'. -/
def redoTellsUptoCard : Claim7 := { stood := { row := redoTellsUptoRow, standIns := [], harness := (true, "ad5ac01a4e53eb1f7d8e01071822a1000821cc540c5c89234c0eb019d59699cb"), looks := true }, kinds := [], alts := [], laidByText := true, laidKinds := [.data, .pinned], laidTests := true, laidLooks := .later }
def RedoTellsUptoCardSaid : Prop := Claim7.holds Tryz.pinned (.plain (OpenSpec.upto redoTellsSpec)) redoTellsUptoCard

/-- THE SECOND FORM's CARD OF 'commonslaw13.RedoWhole'. -/
def redoWholeUptoCard : Claim7 := { stood := { row := redoWholeUptoRow, standIns := [], harness := (true, "ad5ac01a4e53eb1f7d8e01071822a1000821cc540c5c89234c0eb019d59699cb"), looks := true }, kinds := [], alts := [], laidByText := true, laidKinds := [.data, .pinned], laidTests := true, laidLooks := .later }
def RedoWholeUptoCardSaid : Prop := Claim7.holds Tryz.pinned (.plain (OpenSpec.upto redoWholeSpec)) redoWholeUptoCard
end Rows
end Go.Proofs.YtmmnjecaedmleaaGreatDoor
