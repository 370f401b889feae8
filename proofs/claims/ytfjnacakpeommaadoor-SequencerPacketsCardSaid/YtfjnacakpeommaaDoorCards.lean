/-
  DERIVED. GIVEN WITH THE SEED: THE CARDS: each row of YtfjnacakpeommaaDoorRows.lean that lists a variable, with what it lists TIED to the program's text (the seventh form; the later family's looks); each row that meets fmt, with fmt's text TOLD by the authors' own Lean function (tested against real Go, not proved from fmt's source: count such statements apart). THE CARD IS WHAT COUNTS. Prove the row's statement (the work); the ties are given (YtfjnacakpeommaaDoorTie.lean); close each card by the builder's one call (the guide's Derived/Test/ToyasCard.lean, 'card_holds'). Laid BY PROGRAM, IN A SANDBOX (cutbox-door.mjs). By AI agents, Wed Nov 11 2026. No macro, syntax, notation, axiom, sorry.
-/
import Derived.Test.YtfjnacakpeommaaDoorRows
import GoSem.ClaimSeven
namespace Go.Proofs.YtfjnacakpeommaaDoor
namespace Rows

/-- THE TIED CARD OF 'chapbooklaw16.SequencerMay'. -/
def sequencerMayCard : Claim7 := { stood := { row := sequencerMayRow, standIns := [], harness := (true, "2283a280623105b0a51047a41836d0f7927c95dc262c1ca1797ff14cc9c4799e"), looks := false }, kinds := [], alts := [], laidByText := true, laidKinds := [.data], laidTests := true, laidLooks := .later }
def SequencerMayCardSaid : Prop := Claim7.holds Tryd.pinned (.plain (OpenSpec.ofChange sequencerMaySpec)) sequencerMayCard

/-- THE TIED CARD OF 'chapbooklaw16.SequencerPackets'. -/
def sequencerPacketsCard : Claim7 := { stood := { row := sequencerPacketsRow, standIns := [], harness := (true, "2283a280623105b0a51047a41836d0f7927c95dc262c1ca1797ff14cc9c4799e"), looks := false }, kinds := [], alts := [], laidByText := true, laidKinds := [.data], laidTests := true, laidLooks := .later }
def SequencerPacketsCardSaid : Prop := Claim7.holds Tryd.pinned (.plain (OpenSpec.ofChange sequencerPacketsSpec)) sequencerPacketsCard

/-- THE SECOND FORM's CARD OF 'chapbooklaw16.SequencerMay'. -/
def sequencerMayUptoCard : Claim7 := { stood := { row := sequencerMayUptoRow, standIns := [], harness := (true, "2283a280623105b0a51047a41836d0f7927c95dc262c1ca1797ff14cc9c4799e"), looks := false }, kinds := [], alts := [], laidByText := true, laidKinds := [.data], laidTests := true, laidLooks := .later }
def SequencerMayUptoCardSaid : Prop := Claim7.holds Tryd.pinned (.plain (OpenSpec.upto sequencerMaySpec)) sequencerMayUptoCard

/-- THE SECOND FORM's CARD OF 'chapbooklaw16.SequencerPackets'. -/
def sequencerPacketsUptoCard : Claim7 := { stood := { row := sequencerPacketsUptoRow, standIns := [], harness := (true, "2283a280623105b0a51047a41836d0f7927c95dc262c1ca1797ff14cc9c4799e"), looks := false }, kinds := [], alts := [], laidByText := true, laidKinds := [.data], laidTests := true, laidLooks := .later }
def SequencerPacketsUptoCardSaid : Prop := Claim7.holds Tryd.pinned (.plain (OpenSpec.upto sequencerPacketsSpec)) sequencerPacketsUptoCard
end Rows
end Go.Proofs.YtfjnacakpeommaaDoor
