/-
  DERIVED. GIVEN WITH THE SEED: THE CARDS: each row of YtfjnacakpeommaaGreatDoorRows.lean that lists a variable, with what it lists TIED to the program's text (the seventh form; the later family's looks); each row that meets fmt, with fmt's text TOLD by the authors' own Lean function (tested against real Go, not proved from fmt's source: count such statements apart). THE CARD IS WHAT COUNTS. Prove the row's statement (the work); the ties are given (YtfjnacakpeommaaGreatDoorTie.lean); close each card by the builder's one call (the guide's Derived/Test/ToyasCard.lean, 'card_holds'). Laid BY PROGRAM, IN A SANDBOX (cutbox-door.mjs). By AI agents, Wed Nov 11 2026. No macro, syntax, notation, axiom, sorry.
-/
import Derived.Test.YtfjnacakpeommaaGreatDoorRows
import GoSem.ClaimSeven
namespace Go.Proofs.YtfjnacakpeommaaGreatDoor
namespace Rows

/-- THE TIED CARD OF 'chapbooklaw16.SequencerPlays'. -/
def sequencerPlaysCard : Claim7 := { stood := { row := sequencerPlaysRow, standIns := [], harness := (true, "96cff2215d1f4bb93e59f0180953d1699a5f13e674d49665f455f14521989155"), looks := false }, kinds := [], alts := [], laidByText := true, laidKinds := [.data], laidTests := true, laidLooks := .later }
def SequencerPlaysCardSaid : Prop := Claim7.holds Tryz.pinned (.plain (OpenSpec.ofChange sequencerPlaysSpec)) sequencerPlaysCard

/-- THE TIED CARD OF 'chapbooklaw16.SequencerLog'. -/
def sequencerLogCard : Claim7 := { stood := { row := sequencerLogRow, standIns := [], harness := (true, "96cff2215d1f4bb93e59f0180953d1699a5f13e674d49665f455f14521989155"), looks := false }, kinds := [], alts := [], laidByText := true, laidKinds := [.data], laidTests := true, laidLooks := .later }
def SequencerLogCardSaid : Prop := Claim7.holds Tryz.pinned (.plain (OpenSpec.ofChange sequencerLogSpec)) sequencerLogCard

/-- THE TIED CARD OF 'chapbooklaw16.SequencerTwice'. -/
def sequencerTwiceCard : Claim7 := { stood := { row := sequencerTwiceRow, standIns := [], harness := (true, "96cff2215d1f4bb93e59f0180953d1699a5f13e674d49665f455f14521989155"), looks := false }, kinds := [], alts := [], laidByText := true, laidKinds := [.data], laidTests := true, laidLooks := .later }
def SequencerTwiceCardSaid : Prop := Claim7.holds Tryz.pinned (.plain (OpenSpec.ofChange sequencerTwiceSpec)) sequencerTwiceCard

/-- THE TIED CARD OF 'chapbooklaw16.SequencerStrange'. -/
def sequencerStrangeCard : Claim7 := { stood := { row := sequencerStrangeRow, standIns := [], harness := (true, "96cff2215d1f4bb93e59f0180953d1699a5f13e674d49665f455f14521989155"), looks := false }, kinds := [], alts := [], laidByText := true, laidKinds := [.data], laidTests := true, laidLooks := .later }
def SequencerStrangeCardSaid : Prop := Claim7.holds Tryz.pinned (.plain (OpenSpec.ofChange sequencerStrangeSpec)) sequencerStrangeCard

/-- THE SECOND FORM's CARD OF 'chapbooklaw16.SequencerPlays'. -/
def sequencerPlaysUptoCard : Claim7 := { stood := { row := sequencerPlaysUptoRow, standIns := [], harness := (true, "96cff2215d1f4bb93e59f0180953d1699a5f13e674d49665f455f14521989155"), looks := false }, kinds := [], alts := [], laidByText := true, laidKinds := [.data], laidTests := true, laidLooks := .later }
def SequencerPlaysUptoCardSaid : Prop := Claim7.holds Tryz.pinned (.plain (OpenSpec.upto sequencerPlaysSpec)) sequencerPlaysUptoCard

/-- THE SECOND FORM's CARD OF 'chapbooklaw16.SequencerLog'. -/
def sequencerLogUptoCard : Claim7 := { stood := { row := sequencerLogUptoRow, standIns := [], harness := (true, "96cff2215d1f4bb93e59f0180953d1699a5f13e674d49665f455f14521989155"), looks := false }, kinds := [], alts := [], laidByText := true, laidKinds := [.data], laidTests := true, laidLooks := .later }
def SequencerLogUptoCardSaid : Prop := Claim7.holds Tryz.pinned (.plain (OpenSpec.upto sequencerLogSpec)) sequencerLogUptoCard

/-- THE SECOND FORM's CARD OF 'chapbooklaw16.SequencerTwice'. -/
def sequencerTwiceUptoCard : Claim7 := { stood := { row := sequencerTwiceUptoRow, standIns := [], harness := (true, "96cff2215d1f4bb93e59f0180953d1699a5f13e674d49665f455f14521989155"), looks := false }, kinds := [], alts := [], laidByText := true, laidKinds := [.data], laidTests := true, laidLooks := .later }
def SequencerTwiceUptoCardSaid : Prop := Claim7.holds Tryz.pinned (.plain (OpenSpec.upto sequencerTwiceSpec)) sequencerTwiceUptoCard

/-- THE SECOND FORM's CARD OF 'chapbooklaw16.SequencerStrange'. -/
def sequencerStrangeUptoCard : Claim7 := { stood := { row := sequencerStrangeUptoRow, standIns := [], harness := (true, "96cff2215d1f4bb93e59f0180953d1699a5f13e674d49665f455f14521989155"), looks := false }, kinds := [], alts := [], laidByText := true, laidKinds := [.data], laidTests := true, laidLooks := .later }
def SequencerStrangeUptoCardSaid : Prop := Claim7.holds Tryz.pinned (.plain (OpenSpec.upto sequencerStrangeSpec)) sequencerStrangeUptoCard
end Rows
end Go.Proofs.YtfjnacakpeommaaGreatDoor
