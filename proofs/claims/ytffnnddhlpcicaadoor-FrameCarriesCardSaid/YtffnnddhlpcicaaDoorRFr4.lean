/- What the rows with rounds and arrays share: how such an argument is read. -/
import Derived.Test.YtffnnddhlpcicaaDoorRFr
import Derived.Test.YtffnnddhlpcicaaDoorOpen
import Derived.Test.YtffnnddhlpcicaaDoorC12
namespace Go.Proofs.YtffnnddhlpcicaaDoor
open Go Go.ChangeShapes Go.WideShapes Go.RowKit SL Pl
set_option autoImplicit false
set_option maxRecDepth 100000
theorem pre_add {W : World} {A : HP} {ρ : Rst} {w : World} {l : List HP} (hA : ∀ (ρ : Rst) (w' : World) (L : List HP), Holds ρ w' (whole W :: L) → Holds ρ w' (A :: whole W :: L)) (H : Holds ρ w (l ++ [whole W])) : Holds ρ w ((A :: l) ++ [whole W]) := by
  have H1 := hA _ _ _ H.appends
  exact H1.mono fun _ x => star_mono (fun _ a => a) (fun _ b => big_append.2 (star_comm (big_append (l := [whole W]) (m := l).1 b))) x
theorem upd_row {row : List Value} (h : leavesOk [.str, .int .i64, .int .i64, .str] row) : ∃ u : Up, row = uv u ∧ True := by
  obtain ⟨v0, r1, rfl, ⟨a, rfl, _⟩, v1, r2, rfl, ⟨b, rfl, _⟩, v2, r3, rfl, ⟨c, rfl, _⟩, v3, r4, rfl, ⟨d, rfl, _⟩, h⟩ := h
  have h : r4 = [] := h
  subst h
  exact ⟨⟨a, b, c, d⟩, rfl, trivial⟩
section
variable {H : Type} {enc : TypeId × Value → H} {w : World} {base : Nat} {sp : Nat → Bool} {held : Bool}
theorem open_ups {fuel : Nat} {cs : List Value} {x : DataW H × List MemPlace} (h : DataW.trod enc Tryd.prog w base sp held fuel 40 cs = some x) :
    ∃ (v : Value) (l : List Up), cs = [v] ∧ ∀ (ρ : Rst) (w' : World) (L : List HP), Holds ρ w' (whole w :: L) → Holds ρ w' (UL true v l :: whole w :: L) := by
  obtain ⟨v, rows, rfl, h1, _, _, h2⟩ := trod_rows (k := 3) (ls := [.str, .int .i64, .int .i64, .str]) (show (Tryd.prog).underlying 40 = some (.slice 73) by kernel_rfl) (by kernel_rfl) (show (Tryd.prog).cellsOf 73 ≠ 0 by rw [show (Tryd.prog).cellsOf 73 = 4 by kernel_rfl]; decide) h
  obtain ⟨us, rfl, _⟩ := rows_map (f := uv) (B := fun _ => True) (fun row hr => upd_row (h1 row hr))
  refine ⟨v, us, rfl, fun ρ w' L H => ?_⟩
  have := h2 ρ w' L H
  rw [List.length_map] at this
  exact this
theorem open_round {r : Reach} {b0 : Nat} {v : Value} {d : DataW H} {p : List MemPlace} (hv : Value.okWide Tryd.prog w r b0 42 v) (h : DataW.Trod enc Tryd.prog w base sp held 42 v d p) :
    ∃ (r : Ro) (s : Value), v = .agg (rv r s).toArray ∧ ∀ (ρ : Rst) (w' : World) (L : List HP), Holds ρ w' (whole w :: L) → Holds ρ w' (UL true s r.ups :: whole w :: L) := by
  have hu : (Tryd.prog).underlying 42 = some (.struct ((Tryd.prog).fieldsOf 42)) := by kernel_rfl
  obtain ⟨cs, rfl, hcs⟩ := okWide_struct hu hv
  obtain ⟨fuel, h⟩ := h
  obtain ⟨xs, n, _, _, hl, hxl, hi⟩ := DataW.trod_struct hu h
  have h3 : (Tryd.prog).cellsOf 42 = 3 := by kernel_rfl
  have hsz : ((Tryd.prog).fieldsOf 42).size = 3 := by kernel_rfl
  have e : (Value.agg cs).cells.toList = cs.toList := rfl
  rw [e] at hi hl
  obtain ⟨l, hcl⟩ : ∃ l, cs.toList = l := ⟨_, rfl⟩
  rw [hcl] at hi hl
  rw [h3] at hl
  have hc : cs = l.toArray := by rw [← hcl]
  subst hc
  match l, hl with
  | [a, b, c], _ =>
    have f0 := hi 0 ⟨"Origin", 3, 0, false, "", "", 0⟩ (by kernel_rfl)
    have f1 := hi 1 ⟨"Number", 3, 1, false, "", "", 8⟩ (by kernel_rfl)
    have f2 := hi 2 ⟨"Updates", 40, 2, false, "", "", 16⟩ (by kernel_rfl)
    rw [hsz] at hxl
    have c1 : (Tryd.prog).cellsOf 3 = 1 := by kernel_rfl
    have c2 : (Tryd.prog).cellsOf 40 = 1 := by kernel_rfl
    simp only [c1, c2] at f0 f1 f2
    rw [List.getElem?_eq_getElem (by omega)] at f0 f1 f2
    obtain ⟨n0, e0, _⟩ := DataW.trod_int u_int f0
    obtain ⟨n1, e1, _⟩ := DataW.trod_int u_int f1
    obtain ⟨s, us, e2, hU⟩ := open_ups f2
    obtain rfl : a = .int .i64 n0 := by simpa using e0
    obtain rfl : b = .int .i64 n1 := by simpa using e1
    obtain rfl : c = s := by simpa using e2
    exact ⟨⟨n0, n1, us⟩, c, rfl, hU⟩
theorem open_three {r : Reach} {b0 : Nat} {v : Value} {d : DataW H} {p : List MemPlace} (hv : Value.okWide Tryd.prog w r b0 43 v) (h : DataW.Trod enc Tryd.prog w base sp held 43 v d p) :
    ∃ a b c : Int, v = .agg [Value.int .i64 a, .int .i64 b, .int .i64 c].toArray := by
  have hu : (Tryd.prog).underlying 43 = some (.array 3 3) := by kernel_rfl
  unfold Value.okWide at hv
  rw [hu] at hv
  obtain ⟨cs, rfl, hcs, _⟩ := hv
  obtain ⟨fuel, h⟩ := h
  have h1 := trod_leaves 2 43 [.int .i64, .int .i64, .int .i64] (by kernel_rfl) _ _ _ h
  obtain ⟨v0, r1, hc, ⟨a, rfl, _⟩, v1, r2, rfl, ⟨b, rfl, _⟩, v2, r3, rfl, ⟨c, rfl, _⟩, h⟩ := h1
  have h : r3 = [] := h
  subst h
  have e : (Value.agg cs).cells.toList = cs.toList := rfl
  rw [e] at hc
  exact ⟨a, b, c, by rw [← hc]⟩
end
end Go.Proofs.YtffnnddhlpcicaaDoor
