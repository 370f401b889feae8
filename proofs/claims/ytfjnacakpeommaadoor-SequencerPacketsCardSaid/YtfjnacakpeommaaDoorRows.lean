/-
  NARROWER THAN 'FOR EVERY INPUT', by the rows' own cells (each row's printed sentence says how): SequencerMay: laid · SequencerPackets: laid.
  DERIVED. THE GIVEN ROWS OF THIS SEAT. 2 by the template 'for every input the law returns true; each argument reads behind the call as it read before'; 0 by the template 'total and deterministic' (their statements: YtfjnacakpeommaaDoorTotals.lean).
  GIVEN WITH THE SEED: the statements are not yours to turn. If you find one false, say at which input.
  Laid BY PROGRAM, IN A SANDBOX (cutbox-rows.mjs): the forced cells as the released guide's own fill.sh prints them over the translation f6d6bf9efff57d66… (all of the seat's roots in one cut). By AI agents, Wed Nov 11 2026. No macro, syntax, notation, axiom, sorry.
-/
import Derived.Test.YtfjnacakpeommaaDoorChecked
import GoSem.Claim
import GoSem.ClaimJoined
import GoSem.ClaimMapViews
import Derived.JoinedTies
import Derived.KernelRfl
namespace Go.Proofs.YtfjnacakpeommaaDoor
/- THE CELL 'sum', in the pinned program and in every row, IS THE sha256 OF THE DUMP (.gsa) THAT YtfjnacakpeommaaDoorProg.lean LOADS. Nothing in Lean hashes anything: it is a label: what it is worth is what the hold of that sum in a sandbox is worth. -/
noncomputable def Tryd.pinned : Pinned := { name := "ytfjnacakpeommaadoor", sum := "f6d6bf9efff57d66d43d99f7529e7db5be86c552790b79125bb680e8a6682bb7", checked := Tryd.checked }
namespace Rows
def none {H : Type} : Left H := { results := [], args := [] }

/- WHAT THE LISTED PACKAGE-LEVEL VARIABLES READ AS WHEN THE CALL BEGINS. Each datum BY PROGRAM (the guide's laid-datum.mjs) off the statement by which the dump's own 'gosem.cut.vars' lays the variable. In a bare row this is a premise. The card (YtfjnacakpeommaaDoorCards.lean) ties it to the program's text. -/
def laid_chapbook_prefix_bits {H : Type} : DataW H := .agg [.lit (.int .u64 6), .lit (.int .u64 14), .lit (.int .u64 30), .lit (.int .u64 62)]

/-- 'chapbooklaw16.SequencerMay': WHATEVER THE INPUT: true; the input reads as it did. -/
def sequencerMaySpec : ChangeSpec := { name := "sequencerMay", fn := fun _ => fun
  | [d] => { results := [.lit (.bool true)], args := [d] }
  | _ => none }
def sequencerMayRow : OpenClaim := { program := "ytfjnacakpeommaadoor", sum := "f6d6bf9efff57d66d43d99f7529e7db5be86c552790b79125bb680e8a6682bb7", func := "chapbook/chapbooklaw16.SequencerMay", spec := "sequencerMay", inPlace := ["internal/abi.NoEscape"], named := ["chapbook/prefix.bits"], apart := false, laid := [("chapbook/prefix.bits", laid_chapbook_prefix_bits)] }
def SequencerMaySaid : Prop := sequencerMayRow.holds Tryd.pinned (OpenSpec.ofChange sequencerMaySpec)

/-- ITS FALSE NEIGHBOUR: 'it returns false'. Refute it at one input. -/
def sequencerMayWrong : ChangeSpec := { name := "sequencerMay", fn := fun _ => fun
  | [d] => { results := [.lit (.bool false)], args := [d] }
  | _ => none }
def SequencerMayWrongFalsely : Prop := sequencerMayRow.holds Tryd.pinned (OpenSpec.ofChange sequencerMayWrong)

/-- 'chapbooklaw16.SequencerPackets': WHATEVER THE INPUT: true; the input reads as it did. -/
def sequencerPacketsSpec : ChangeSpec := { name := "sequencerPackets", fn := fun _ => fun
  | [d1, d2] => { results := [.lit (.bool true)], args := [d1, d2] }
  | _ => none }
def sequencerPacketsRow : OpenClaim := { program := "ytfjnacakpeommaadoor", sum := "f6d6bf9efff57d66d43d99f7529e7db5be86c552790b79125bb680e8a6682bb7", func := "chapbook/chapbooklaw16.SequencerPackets", spec := "sequencerPackets", inPlace := ["internal/abi.NoEscape"], named := ["chapbook/prefix.bits"], apart := false, laid := [("chapbook/prefix.bits", laid_chapbook_prefix_bits)] }
def SequencerPacketsSaid : Prop := sequencerPacketsRow.holds Tryd.pinned (OpenSpec.ofChange sequencerPacketsSpec)

/-- ITS FALSE NEIGHBOUR: 'it returns false'. Refute it at one input. -/
def sequencerPacketsWrong : ChangeSpec := { name := "sequencerPackets", fn := fun _ => fun
  | [d1, d2] => { results := [.lit (.bool false)], args := [d1, d2] }
  | _ => none }
def SequencerPacketsWrongFalsely : Prop := sequencerPacketsRow.holds Tryd.pinned (OpenSpec.ofChange sequencerPacketsWrong)

/- THE SECOND FORM. 'bulk': how many values and letters a reading holds, each counted each time it is reached (what is shared counts as often as it is met; a slice's spare places count too). A statement '..UptoSaid' is the law's where the arguments, and the package variables that the reading takes, are together of bulk at most 1048576: NARROWER than '..Said'. Prove '..Said' where nothing that the law and all that it calls make is longer than what came in: it says more and counts as full. Else prove '..UptoSaid'. A law counts once. -/
mutual
def uptoBulk {H : Type} : DataW H → Nat
  | .lit (.string bytes) => bytes.length + 1
  | .lit _ => 1
  | .nil => 1
  | .ptr d => uptoBulk d + 1
  | .slice elems spare => uptoBulkAll elems + uptoBulkAll spare + 1
  | .agg parts => uptoBulkAll parts + 1
  | .iface _ d => uptoBulk d + 1
  | .map entries => uptoBulkEntries entries + 1
  | .held _ => 1
def uptoBulkAll {H : Type} : List (DataW H) → Nat
  | [] => 0
  | d :: r => uptoBulk d + uptoBulkAll r
def uptoBulkEntries {H : Type} : List (Lit × DataW H) → Nat
  | [] => 0
  | x :: r => uptoBulkEntry x + uptoBulkEntries r
def uptoBulkEntry {H : Type} : Lit × DataW H → Nat
  | (.string bytes, d) => bytes.length + uptoBulk d + 1
  | (_, d) => uptoBulk d + 1
 end
def uptoSmall : (H : Type) → List (DataW H) → Bool := fun _ ds => decide (uptoBulkAll ds ≤ 1048576)
def OpenSpec.upto (s : _root_.Go.ChangeSpec) : _root_.Go.OpenSpec := { _root_.Go.OpenSpec.ofChange s with cond := some uptoSmall }

/-- 'chapbooklaw16.SequencerMay', WHERE WHAT IT READS IS OF BULK AT MOST 1048576: true; the input reads as it did. -/
def sequencerMayUptoRow : OpenClaim := { program := "ytfjnacakpeommaadoor", sum := "f6d6bf9efff57d66d43d99f7529e7db5be86c552790b79125bb680e8a6682bb7", func := "chapbook/chapbooklaw16.SequencerMay", spec := "sequencerMay", inPlace := ["internal/abi.NoEscape"], named := ["chapbook/prefix.bits"], apart := false, laid := [("chapbook/prefix.bits", laid_chapbook_prefix_bits)], narrowed := true }
def SequencerMayUptoSaid : Prop := sequencerMayUptoRow.holds Tryd.pinned (OpenSpec.upto sequencerMaySpec)

/-- 'chapbooklaw16.SequencerPackets', WHERE WHAT IT READS IS OF BULK AT MOST 1048576: true; the input reads as it did. -/
def sequencerPacketsUptoRow : OpenClaim := { program := "ytfjnacakpeommaadoor", sum := "f6d6bf9efff57d66d43d99f7529e7db5be86c552790b79125bb680e8a6682bb7", func := "chapbook/chapbooklaw16.SequencerPackets", spec := "sequencerPackets", inPlace := ["internal/abi.NoEscape"], named := ["chapbook/prefix.bits"], apart := false, laid := [("chapbook/prefix.bits", laid_chapbook_prefix_bits)], narrowed := true }
def SequencerPacketsUptoSaid : Prop := sequencerPacketsUptoRow.holds Tryd.pinned (OpenSpec.upto sequencerPacketsSpec)

end Rows
end Go.Proofs.YtfjnacakpeommaaDoor
