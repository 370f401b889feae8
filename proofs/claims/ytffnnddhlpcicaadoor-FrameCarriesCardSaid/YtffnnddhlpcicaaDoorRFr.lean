/- What the rows of chapbooklaw09 share: a frame read. -/
import Derived.Test.YtffnnddhlpcicaaDoorC9
import Derived.Test.YtffnnddhlpcicaaDoorRow
import Derived.Test.YtffnnddhlpcicaaDoorTie
import Derived.Test.YtffnnddhlpcicaaDoorCards
import Derived.SevenTiedAt
import Derived.ChangeMaps5
namespace Go.Proofs.YtffnnddhlpcicaaDoor
open Go Go.ChangeShapes Go.WideShapes Go.RowKit SL Pl
set_option autoImplicit false
set_option maxRecDepth 100000
theorem u_frame : (Tryd.prog).underlying 23 = some (.struct ((Tryd.prog).fieldsOf 23)) := by kernel_rfl
theorem u_int : (Tryd.prog).underlying 3 = some (.int .i64) := by kernel_rfl
theorem u_string : (Tryd.prog).underlying 9 = some .string := by kernel_rfl
section
variable {H : Type} {enc : TypeId × Value → H} {w : World} {base : Nat} {sp : Nat → Bool} {held : Bool}
theorem open_frame {r : Reach} {b0 : Nat} {v : Value} {d : DataW H} {p : List MemPlace} (hv : Value.okWide Tryd.prog w r b0 23 v) (h : DataW.Trod enc Tryd.prog w base sp held 23 v d p) :
    ∃ f : Fr, v = .agg (fv f).toArray ∧ f.data.length ≤ 9223372036854775807 := by
  obtain ⟨v0, v1, v2, v3, y0, y1, y2, y3, n, rfl, _, _, h0, h1, h2, h3⟩ := Joins.open_agg4 (f0 := ⟨ "Epoch", 3, 0, false, "", "", 0⟩) (f1 := ⟨ "Seq", 3, 1, false, "", "", 8⟩) (f2 := ⟨ "Ack", 3, 2, false, "", "", 16⟩) (f3 := ⟨ "Data", 9, 3, false, "", "", 24⟩) (by kernel_rfl) (by kernel_rfl) (by kernel_rfl) hv h
  obtain ⟨a, e0, _⟩ := DataW.trod_int u_int h0
  obtain ⟨b, e1, _⟩ := DataW.trod_int u_int h1
  obtain ⟨c, e2, _⟩ := DataW.trod_int u_int h2
  obtain ⟨s, e3, _, hs⟩ := DataW.trod_string u_string h3
  obtain rfl : v0 = .int .i64 a := by simpa using e0
  obtain rfl : v1 = .int .i64 b := by simpa using e1
  obtain rfl : v2 = .int .i64 c := by simpa using e2
  obtain rfl : v3 = .string s := by simpa using e3
  exact ⟨⟨a, b, c, s.data.toList⟩, rfl, by
    show s.data.toList.length ≤ _
    have h3 : maxLen = 9223372036854775807 := rfl
    have h4 : s.size = s.data.toList.length := rfl
    omega⟩
end
end Go.Proofs.YtffnnddhlpcicaaDoor
