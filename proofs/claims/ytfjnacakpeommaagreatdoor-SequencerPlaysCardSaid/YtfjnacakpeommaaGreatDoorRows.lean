/-
  NARROWER THAN 'FOR EVERY INPUT', by the rows' own cells (each row's printed sentence says how): SequencerPlays: laid · SequencerLog: laid · SequencerTwice: laid · SequencerStrange: laid.
  DERIVED. THE GIVEN ROWS OF THIS SEAT. 4 by the template 'for every input the law returns true; each argument reads behind the call as it read before'; 0 by the template 'total and deterministic' (their statements: YtfjnacakpeommaaGreatDoorTotals.lean).
  GIVEN WITH THE SEED: the statements are not yours to turn. If you find one false, say at which input.
  Laid BY PROGRAM, IN A SANDBOX (cutbox-rows.mjs): the forced cells as the released guide's own fill.sh prints them over the translation 247eb48dd4d6a737… (all of the seat's roots in one cut). By AI agents, Wed Nov 11 2026. No macro, syntax, notation, axiom, sorry.
-/
import Derived.Test.YtfjnacakpeommaaGreatDoorChecked
import GoSem.Claim
import GoSem.ClaimJoined
import GoSem.ClaimMapViews
import Derived.JoinedTies
import Derived.KernelRfl
namespace Go.Proofs.YtfjnacakpeommaaGreatDoor
/- THE CELL 'sum', in the pinned program and in every row, IS THE sha256 OF THE DUMP (.gsa) THAT YtfjnacakpeommaaGreatDoorProg.lean LOADS. Nothing in Lean hashes anything: it is a label: what it is worth is what the hold of that sum in a sandbox is worth. -/
noncomputable def Tryz.pinned : Pinned := { name := "ytfjnacakpeommaagreatdoor", sum := "247eb48dd4d6a737af9d42b91066d51bdf05e3696f58b2eceb55fd059f896268", checked := Tryz.checked }
namespace Rows
def none {H : Type} : Left H := { results := [], args := [] }

/- WHAT THE LISTED PACKAGE-LEVEL VARIABLES READ AS WHEN THE CALL BEGINS. Each datum BY PROGRAM (the guide's laid-datum.mjs) off the statement by which the dump's own 'gosem.cut.vars' lays the variable. In a bare row this is a premise. The card (YtfjnacakpeommaaGreatDoorCards.lean) ties it to the program's text. -/
def laid_chapbook_prefix_bits {H : Type} : DataW H := .agg [.lit (.int .u64 6), .lit (.int .u64 14), .lit (.int .u64 30), .lit (.int .u64 62)]

/-- 'chapbooklaw16.SequencerPlays': WHATEVER THE INPUT: true; the input reads as it did. -/
def sequencerPlaysSpec : ChangeSpec := { name := "sequencerPlays", fn := fun _ => fun
  | [d1, d2] => { results := [.lit (.bool true)], args := [d1, d2] }
  | _ => none }
def sequencerPlaysRow : OpenClaim := { program := "ytfjnacakpeommaagreatdoor", sum := "247eb48dd4d6a737af9d42b91066d51bdf05e3696f58b2eceb55fd059f896268", func := "chapbook/chapbooklaw16.SequencerPlays", spec := "sequencerPlays", inPlace := ["internal/abi.NoEscape"], named := ["chapbook/prefix.bits"], apart := false, laid := [("chapbook/prefix.bits", laid_chapbook_prefix_bits)] }
def SequencerPlaysSaid : Prop := sequencerPlaysRow.holds Tryz.pinned (OpenSpec.ofChange sequencerPlaysSpec)

/-- ITS FALSE NEIGHBOUR: 'it returns false'. Refute it at one input. -/
def sequencerPlaysWrong : ChangeSpec := { name := "sequencerPlays", fn := fun _ => fun
  | [d1, d2] => { results := [.lit (.bool false)], args := [d1, d2] }
  | _ => none }
def SequencerPlaysWrongFalsely : Prop := sequencerPlaysRow.holds Tryz.pinned (OpenSpec.ofChange sequencerPlaysWrong)

/-- 'chapbooklaw16.SequencerLog': WHATEVER THE INPUT: true; the input reads as it did. -/
def sequencerLogSpec : ChangeSpec := { name := "sequencerLog", fn := fun _ => fun
  | [d1, d2] => { results := [.lit (.bool true)], args := [d1, d2] }
  | _ => none }
def sequencerLogRow : OpenClaim := { program := "ytfjnacakpeommaagreatdoor", sum := "247eb48dd4d6a737af9d42b91066d51bdf05e3696f58b2eceb55fd059f896268", func := "chapbook/chapbooklaw16.SequencerLog", spec := "sequencerLog", inPlace := ["internal/abi.NoEscape"], named := ["chapbook/prefix.bits"], apart := false, laid := [("chapbook/prefix.bits", laid_chapbook_prefix_bits)] }
def SequencerLogSaid : Prop := sequencerLogRow.holds Tryz.pinned (OpenSpec.ofChange sequencerLogSpec)

/-- ITS FALSE NEIGHBOUR: 'it returns false'. Refute it at one input. -/
def sequencerLogWrong : ChangeSpec := { name := "sequencerLog", fn := fun _ => fun
  | [d1, d2] => { results := [.lit (.bool false)], args := [d1, d2] }
  | _ => none }
def SequencerLogWrongFalsely : Prop := sequencerLogRow.holds Tryz.pinned (OpenSpec.ofChange sequencerLogWrong)

/-- 'chapbooklaw16.SequencerTwice': WHATEVER THE INPUT: true; the input reads as it did. -/
def sequencerTwiceSpec : ChangeSpec := { name := "sequencerTwice", fn := fun _ => fun
  | [d1, d2] => { results := [.lit (.bool true)], args := [d1, d2] }
  | _ => none }
def sequencerTwiceRow : OpenClaim := { program := "ytfjnacakpeommaagreatdoor", sum := "247eb48dd4d6a737af9d42b91066d51bdf05e3696f58b2eceb55fd059f896268", func := "chapbook/chapbooklaw16.SequencerTwice", spec := "sequencerTwice", inPlace := ["internal/abi.NoEscape"], named := ["chapbook/prefix.bits"], apart := false, laid := [("chapbook/prefix.bits", laid_chapbook_prefix_bits)] }
def SequencerTwiceSaid : Prop := sequencerTwiceRow.holds Tryz.pinned (OpenSpec.ofChange sequencerTwiceSpec)

/-- ITS FALSE NEIGHBOUR: 'it returns false'. Refute it at one input. -/
def sequencerTwiceWrong : ChangeSpec := { name := "sequencerTwice", fn := fun _ => fun
  | [d1, d2] => { results := [.lit (.bool false)], args := [d1, d2] }
  | _ => none }
def SequencerTwiceWrongFalsely : Prop := sequencerTwiceRow.holds Tryz.pinned (OpenSpec.ofChange sequencerTwiceWrong)

/-- 'chapbooklaw16.SequencerStrange': WHATEVER THE INPUT: true; the input reads as it did. -/
def sequencerStrangeSpec : ChangeSpec := { name := "sequencerStrange", fn := fun _ => fun
  | [d1, d2, d3] => { results := [.lit (.bool true)], args := [d1, d2, d3] }
  | _ => none }
def sequencerStrangeRow : OpenClaim := { program := "ytfjnacakpeommaagreatdoor", sum := "247eb48dd4d6a737af9d42b91066d51bdf05e3696f58b2eceb55fd059f896268", func := "chapbook/chapbooklaw16.SequencerStrange", spec := "sequencerStrange", inPlace := ["internal/abi.NoEscape"], named := ["chapbook/prefix.bits"], apart := false, laid := [("chapbook/prefix.bits", laid_chapbook_prefix_bits)] }
def SequencerStrangeSaid : Prop := sequencerStrangeRow.holds Tryz.pinned (OpenSpec.ofChange sequencerStrangeSpec)

/-- ITS FALSE NEIGHBOUR: 'it returns false'. Refute it at one input. -/
def sequencerStrangeWrong : ChangeSpec := { name := "sequencerStrange", fn := fun _ => fun
  | [d1, d2, d3] => { results := [.lit (.bool false)], args := [d1, d2, d3] }
  | _ => none }
def SequencerStrangeWrongFalsely : Prop := sequencerStrangeRow.holds Tryz.pinned (OpenSpec.ofChange sequencerStrangeWrong)

/- THE SECOND FORM. 'bulk': how many values and letters a reading holds, each counted each time it is reached (what is shared counts as often as it is met; a slice's spare places count too). A statement '..UptoSaid' is the law's where the arguments, and the package variables that the reading takes, are together of bulk at most 1048576: NARROWER than '..Said'. Prove '..Said' where nothing that the law and all that it calls make is longer than what came in: it says more and counts as full. Else prove '..UptoSaid'. A law counts once. -/
mutual
def uptoBulk {H : Type} : DataW H → Nat
  | .lit (.string bytes) => bytes.length + 1
  | .lit _ => 1
  | .nil => 1
  | .ptr d => uptoBulk d + 1
  | .slice elems spare => uptoBulkAll elems + uptoBulkAll spare + 1
  | .agg parts => uptoBulkAll parts + 1
  | .iface _ d => uptoBulk d + 1
  | .map entries => uptoBulkEntries entries + 1
  | .held _ => 1
def uptoBulkAll {H : Type} : List (DataW H) → Nat
  | [] => 0
  | d :: r => uptoBulk d + uptoBulkAll r
def uptoBulkEntries {H : Type} : List (Lit × DataW H) → Nat
  | [] => 0
  | x :: r => uptoBulkEntry x + uptoBulkEntries r
def uptoBulkEntry {H : Type} : Lit × DataW H → Nat
  | (.string bytes, d) => bytes.length + uptoBulk d + 1
  | (_, d) => uptoBulk d + 1
 end
def uptoSmall : (H : Type) → List (DataW H) → Bool := fun _ ds => decide (uptoBulkAll ds ≤ 1048576)
def OpenSpec.upto (s : _root_.Go.ChangeSpec) : _root_.Go.OpenSpec := { _root_.Go.OpenSpec.ofChange s with cond := some uptoSmall }

/-- 'chapbooklaw16.SequencerPlays', WHERE WHAT IT READS IS OF BULK AT MOST 1048576: true; the input reads as it did. -/
def sequencerPlaysUptoRow : OpenClaim := { program := "ytfjnacakpeommaagreatdoor", sum := "247eb48dd4d6a737af9d42b91066d51bdf05e3696f58b2eceb55fd059f896268", func := "chapbook/chapbooklaw16.SequencerPlays", spec := "sequencerPlays", inPlace := ["internal/abi.NoEscape"], named := ["chapbook/prefix.bits"], apart := false, laid := [("chapbook/prefix.bits", laid_chapbook_prefix_bits)], narrowed := true }
def SequencerPlaysUptoSaid : Prop := sequencerPlaysUptoRow.holds Tryz.pinned (OpenSpec.upto sequencerPlaysSpec)

/-- 'chapbooklaw16.SequencerLog', WHERE WHAT IT READS IS OF BULK AT MOST 1048576: true; the input reads as it did. -/
def sequencerLogUptoRow : OpenClaim := { program := "ytfjnacakpeommaagreatdoor", sum := "247eb48dd4d6a737af9d42b91066d51bdf05e3696f58b2eceb55fd059f896268", func := "chapbook/chapbooklaw16.SequencerLog", spec := "sequencerLog", inPlace := ["internal/abi.NoEscape"], named := ["chapbook/prefix.bits"], apart := false, laid := [("chapbook/prefix.bits", laid_chapbook_prefix_bits)], narrowed := true }
def SequencerLogUptoSaid : Prop := sequencerLogUptoRow.holds Tryz.pinned (OpenSpec.upto sequencerLogSpec)

/-- 'chapbooklaw16.SequencerTwice', WHERE WHAT IT READS IS OF BULK AT MOST 1048576: true; the input reads as it did. -/
def sequencerTwiceUptoRow : OpenClaim := { program := "ytfjnacakpeommaagreatdoor", sum := "247eb48dd4d6a737af9d42b91066d51bdf05e3696f58b2eceb55fd059f896268", func := "chapbook/chapbooklaw16.SequencerTwice", spec := "sequencerTwice", inPlace := ["internal/abi.NoEscape"], named := ["chapbook/prefix.bits"], apart := false, laid := [("chapbook/prefix.bits", laid_chapbook_prefix_bits)], narrowed := true }
def SequencerTwiceUptoSaid : Prop := sequencerTwiceUptoRow.holds Tryz.pinned (OpenSpec.upto sequencerTwiceSpec)

/-- 'chapbooklaw16.SequencerStrange', WHERE WHAT IT READS IS OF BULK AT MOST 1048576: true; the input reads as it did. -/
def sequencerStrangeUptoRow : OpenClaim := { program := "ytfjnacakpeommaagreatdoor", sum := "247eb48dd4d6a737af9d42b91066d51bdf05e3696f58b2eceb55fd059f896268", func := "chapbook/chapbooklaw16.SequencerStrange", spec := "sequencerStrange", inPlace := ["internal/abi.NoEscape"], named := ["chapbook/prefix.bits"], apart := false, laid := [("chapbook/prefix.bits", laid_chapbook_prefix_bits)], narrowed := true }
def SequencerStrangeUptoSaid : Prop := sequencerStrangeUptoRow.holds Tryz.pinned (OpenSpec.upto sequencerStrangeSpec)

end Rows
end Go.Proofs.YtfjnacakpeommaaGreatDoor
