/- What the rows of chapbooklaw16 share: a configuration read. -/
import Derived.Test.YtfjnacakpeommaaDoorC29
import Derived.Test.YtfjnacakpeommaaDoorRow
import Derived.Test.YtfjnacakpeommaaDoorOpen
import Derived.Test.YtfjnacakpeommaaDoorTie
import Derived.Test.YtfjnacakpeommaaDoorCards
import Derived.SevenTiedAt
import Derived.ChangeMaps5
namespace Go.Proofs.YtfjnacakpeommaaDoor
open Go Go.ChangeShapes Go.WideShapes Go.RowKit SL Pl
set_option autoImplicit false
set_option maxRecDepth 100000
theorem u_int : (Tryd.prog).underlying 3 = some (.int .i64) := by kernel_rfl
theorem u_string : (Tryd.prog).underlying 9 = some .string := by kernel_rfl
section
variable {H : Type} {enc : TypeId × Value → H} {w : World} {base : Nat} {sp : Nat → Bool} {held : Bool}
theorem open_config {r : Reach} {b0 : Nat} {v : Value} {d : DataW H} {p : List MemPlace} (hv : Value.okWide Tryd.prog w r b0 23 v) (h : DataW.Trod enc Tryd.prog w base sp held 23 v d p) :
    ∃ c : Cfg, v = .agg (cfgC c).toArray := by
  have hu : (Tryd.prog).underlying 23 = some (.struct ((Tryd.prog).fieldsOf 23)) := by kernel_rfl
  obtain ⟨cs, rfl, hcs⟩ := okWide_struct hu hv
  obtain ⟨fuel, h⟩ := h
  have h1 := trod_leaves 2 23 [.int .i64, .int .i64, .int .i64, .int .i64, .int .i64, .int .i64] (by kernel_rfl) _ _ _ h
  obtain ⟨v0, r1, hc, ⟨a0, rfl, _⟩, v1, r2, rfl, ⟨a1, rfl, _⟩, v2, r3, rfl, ⟨a2, rfl, _⟩, v3, r4, rfl, ⟨a3, rfl, _⟩, v4, r5, rfl, ⟨a4, rfl, _⟩, v5, r6, rfl, ⟨a5, rfl, _⟩, h⟩ := h1
  have h : r6 = [] := h
  subst h
  have e : (Value.agg cs).cells.toList = cs.toList := rfl
  rw [e] at hc
  exact ⟨⟨a0, a1, a2, a3, a4, a5⟩, by
    show Value.agg cs = Value.agg [Value.int .i64 a0, .int .i64 a1, .int .i64 a2, .int .i64 a3, .int .i64 a4, .int .i64 a5].toArray
    rw [← hc]⟩
end
end Go.Proofs.YtfjnacakpeommaaDoor
