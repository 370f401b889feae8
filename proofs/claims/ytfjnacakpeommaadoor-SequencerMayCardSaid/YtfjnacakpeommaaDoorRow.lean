/- The rows: what the listed variable gives, a law's call, what a law's row says behind the call. -/
import Derived.Test.YtfjnacakpeommaaDoorC1
import Derived.Test.YtfjnacakpeommaaDoorRows
import Derived.Carry
import Derived.ChangeSame
import Derived.Handed
import Derived.LaidLaws
import Derived.JoinedOf
import Derived.RowKit
import Derived.FnData
import Derived.OpenShut
import Derived.Laws.IdiomArrays
import Derived.Lib.SmallJoins
namespace Go.Proofs.YtfjnacakpeommaaDoor
open Go Go.ChangeShapes Go.WideShapes Go.RowKit SL
set_option autoImplicit false
set_option maxRecDepth 100000
theorem gb_of_laid {W : World} (h : laidMet Tryd.prog [("chapbook/prefix.bits", Rows.laid_chapbook_prefix_bits)] W) :
    ∃ T, W.heap[0]? = some (.cells #[.int .u64 6, .int .u64 14, .int .u64 30, .int .u64 62] T (0, 0)) := by
  obtain ⟨ps, ⟨g, t, cs, fuel, p, q, e1, e2, e3, e4, e5, e6⟩, _, hc⟩ := h
  have eg : g = 0 := (Option.some.inj ((show (Tryd.prog).globalNamed "chapbook/prefix.bits" = some 0 by kernel_rfl).symm.trans e1)).symm
  subst eg
  have et : t = 168 := (Option.some.inj ((show ((Tryd.prog).globals[0]?).map (·.type) = some 168 by kernel_rfl).symm.trans e2)).symm
  subst et
  have hT : (Tryd.prog).underlying 168 = some (.array 4 160) := by kernel_rfl
  have hE : (Tryd.prog).underlying 160 = some (.int .u64) := by kernel_rfl
  have hC : (Tryd.prog).cellsOf 160 = 1 := by kernel_rfl
  obtain ⟨xs, m, hm, hx, hl, hxl, hi⟩ := DataW.trod_array hT e4
  have hCt : (Tryd.prog).cellsOf 168 = 4 := by kernel_rfl
  rw [hCt] at hl
  have cell : ∀ (i : Nat) (n : Int), i < 4 → (xs.map (·.1))[i]? = some (.lit (.int .u64 n)) → cs[i]? = some (.int .u64 n) := fun i n h4 hn => by
    have h1 := hi i h4
    rw [hC, Nat.mul_one] at h1
    rw [List.getElem?_map] at hn
    cases hy : xs[i]? with
    | none => rw [hy] at hn; cases hn
    | some y =>
      rw [hy] at h1 hn
      obtain ⟨z, hz1, hz2, _⟩ := DataW.trod_int hE h1
      have : y.1 = .lit (.int .u64 n) := Option.some.inj hn
      rw [hz2] at this
      have hzn : z = n := by injection this with this; injection this
      subst hzn
      have h3 : (cs.toList.drop i)[0]? = some (.int .u64 z) := by
        have h4 : ((cs.toList.drop i).take 1)[0]? = some (.int .u64 z) := by rw [hz1]; rfl
        rw [List.getElem?_take_of_lt (by decide)] at h4
        exact h4
      rw [List.getElem?_drop] at h3
      simpa using h3
  have hd : xs.map (·.1) = [.lit (.int .u64 6), .lit (.int .u64 14), .lit (.int .u64 30), .lit (.int .u64 62)] := by
    have := congrArg Prod.fst hx
    have h2 : (Rows.laid_chapbook_prefix_bits : DataW Unit) = .agg (xs.map (·.1)) := this
    unfold Rows.laid_chapbook_prefix_bits at h2
    injection h2 with h2
    exact h2.symm
  rw [hd] at cell
  have hcs : cs = #[.int .u64 6, .int .u64 14, .int .u64 30, .int .u64 62] := by
    apply Array.ext_getElem?
    intro i
    have : i = 0 ∨ i = 1 ∨ i = 2 ∨ i = 3 ∨ 4 ≤ i := by omega
    rcases this with rfl | rfl | rfl | rfl | h
    · exact cell 0 6 (by decide) rfl
    · exact cell 1 14 (by decide) rfl
    · exact cell 2 30 (by decide) rfl
    · exact cell 3 62 (by decide) rfl
    · have hsz : cs.size = 4 := by simpa using hl
      rw [Array.getElem?_eq_none (by omega), Array.getElem?_eq_none (by simpa using h)]
  subst hcs
  obtain ⟨⟨c, t, hh⟩, _⟩ := hc 0 0 (by
    rw [e6]
    exact List.mem_append_left _ (List.mem_append_left _ (by simp [MemPlace.row])))
  have h3 : (W.var? Tryd.prog "chapbook/prefix.bits") = some c := by
    unfold World.var?
    rw [e1, Option.bind_some, hh]
  rw [e3] at h3
  obtain rfl := Option.some.inj h3
  exact ⟨t, hh⟩
/-- A law's call, in whatever world that meets the condition. -/
theorem law_calls {f : FuncId} {args : List Value} {W : World} (h : laidMet Tryd.prog [("chapbook/prefix.bits", Rows.laid_chapbook_prefix_bits)] W) {pre : List HP} {post : Value → List HP → Prop}
    (hpre : Holds ⟨W.tape, W.os, W.output⟩ W (GB :: [whole W]) → Holds ⟨W.tape, W.os, W.output⟩ W (pre ++ [whole W]))
    (hs : Sp Tryd.prog f args pre post) (hp : ∀ v M, post v M → v = .bool true) :
    Calls Tryd.prog f args.toArray W fun e W' => e = .returned (.bool true) ∧ Below W.heap.size W W' := by
  obtain ⟨T, hT⟩ := gb_of_laid h
  have H0 := Holds.init W
  have H1 := Holds.whole_one hT H0
  have H2 : Holds ⟨W.tape, W.os, W.output⟩ W (GBT T :: [whole W]) := Holds.one_cel (cs := [.int .u64 6, .int .u64 14, .int .u64 30, .int .u64 62]) (by intro h; cases h) H1
  have H3 : Holds ⟨W.tape, W.os, W.output⟩ W (GB :: [whole W]) := by rw [GB_eq]; exact Holds.ex_mk (A := GBT) T H2
  refine (hs.calls _ _ _ (hpre H3)).mono ?_
  rintro e w' ⟨v, M, rfl, hv, H4⟩
  have H5 : Holds ⟨W.tape, W.os, W.output⟩ w' (whole W :: M) := Holds.appends (l := [whole W]) H4
  exact ⟨by rw [hp v M hv], Holds.below (ρ := ⟨W.tape, W.os, W.output⟩) rfl rfl rfl H5⟩
/-- What reads before the call reads behind it. -/
theorem trodAll_below {H : Type} {enc : TypeId × Value → H} {P : Program} (hl : laidOutB P = true) {W W' : World} (hb : Below W.heap.size W W') :
    ∀ {ts : List TypeId} {vs : List Value} {ds : List (DataW H)} {p : List MemPlace}, (∀ t ∈ ts, P.readableRec t = true ∧ t < P.types.size) → DataW.TrodAll enc P W 0 (fun _ => true) true ts vs ds p → (∀ x ∈ p, x.block < W.heap.size) →
      DataW.TrodAll enc P W' 0 (fun b => decide (b < W.heap.size)) true ts vs ds p
  | [], _, _, _, _, h, _ => by
    obtain ⟨rfl, rfl, rfl⟩ := trodAll_nil h
    rfl
  | t :: ts, _, _, _, ht, h, hp => by
    obtain ⟨v, vs1, d, ds1, a, b, rfl, rfl, rfl, h1, h2⟩ := trodAll_cons h
    exact trodAll_cons_mk (Below.trod hl (ht t List.mem_cons_self).1 (ht t List.mem_cons_self).2 h1 hb (fun x hx => hp x (List.mem_append_left _ hx)))
      (trodAll_below hl hb (fun t h => ht t (List.mem_cons_of_mem _ h)) h2 (fun x hx => hp x (List.mem_append_right _ hx)))
theorem law_post {H : Type} {enc : TypeId × Value → H} {fn : Func} {s : ChangeSpec} {W W' : World} {args : Array Value} {ds gs : List (DataW H)} {before : List MemPlace} {fresh handsOn : Bool} (hs : s.vars = [])
    (hW : DataW.Whole enc Tryd.prog fn.params.toList s.vars false W args.toList ds gs before) (hfn : s.fn H ds = { results := [.lit (.bool true)], args := ds }) (hr : fn.resultTypes = #[4])
    (hps : ∀ t ∈ fn.params.toList, (Tryd.prog).readableRec t = true ∧ t < (Tryd.prog).types.size) (hb : Below W.heap.size W W') : s.post enc Tryd.prog fn false fresh handsOn false W args (.bool true) W' := by
  have hW0 := hW
  obtain ⟨p, q, hA, hV, rfl, hz, hn⟩ := hW
  rw [hs] at hV
  have hgq : gs = [] ∧ q = [] := by
    cases gs with
    | nil => exact ⟨rfl, hV⟩
    | cons g r => exact absurd hV (by intro h; cases h)
  obtain ⟨rfl, rfl⟩ := hgq
  have e1 : s.fn H (ds ++ []) = { results := [.lit (.bool true)], args := ds } := by rw [List.append_nil]; exact hfn
  refine ⟨ds, [], _, [], p, [], hW0, ?_, ?_, ?_, hb.frame _, fun h => by cases h⟩
  · rw [e1, hr]
    exact trodAll_mk1 (shut_bool (show (Tryd.prog).underlying 4 = some .bool by kernel_rfl) true)
  · rw [e1]
    exact trodAll_below (by kernel_rfl) hb hps hA (fun x hx => hW0.lt x (List.mem_append_left _ hx))
  · rw [hs, e1]; rfl
/-- A world that meets the condition. -/
noncomputable def laidWorld (os : Os) : World :=
  let w0 := World.holding Tryd.prog os ⟨#[], #[], []⟩
  { w0 with heap := w0.heap.modify 0 fun
      | .cells _ t frozen => .cells #[.int .u64 6, .int .u64 14, .int .u64 30, .int .u64 62] t frozen
      | o => o }
theorem laidWorld_met (os : Os) (args : Array Value) : laidMetH Tryd.prog [("chapbook/prefix.bits", Rows.laid_chapbook_prefix_bits)] ((laidWorld os).forCall (fun _ _ => 0) ⟨#[], args, []⟩).memory := by
  show laidMet _ _ _
  exact laidMet_of_run' 8 (by kernel_rfl) (by kernel_rfl)
theorem own : ownKnob (Tryd.prog).godebug = none := by kernel_rfl
end Go.Proofs.YtfjnacakpeommaaDoor
