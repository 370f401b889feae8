/- What an argument of plain data is: its cells, by its type; a slice of such, as it lies in the caller's world. -/
import Derived.Test.YtfjnacakpeommaaDoorSl3
import Derived.Deep.Slices
import Derived.OpenShut
import Derived.WideShapes
namespace Go.Proofs.YtfjnacakpeommaaDoor.SL
open Go
set_option autoImplicit false
set_option linter.unusedVariables false

inductive Leaf where
  | int (k : IntKind)
  | bool
  | str
def leafOk : Leaf → Value → Prop
  | .int k, v => ∃ n, v = .int k n ∧ (Lit.int k n).wf = true
  | .bool, v => ∃ b, v = .bool b
  | .str, v => ∃ l : List UInt8, v = SL.str l ∧ l.length ≤ 9223372036854775807
def leavesOk : List Leaf → List Value → Prop
  | [], cs => cs = []
  | x :: ls, cs => ∃ v vs, cs = v :: vs ∧ leafOk x v ∧ leavesOk ls vs
theorem leavesOk_append : ∀ {a b : List Leaf} {cs ds : List Value}, leavesOk a cs → leavesOk b ds → leavesOk (a ++ b) (cs ++ ds)
  | [], b, cs, ds, h1, h2 => by
    have : cs = [] := h1
    subst this; exact h2
  | x :: a, b, cs, ds, ⟨v, vs, e, h, h1⟩, h2 => by
    subst e
    exact ⟨v, vs ++ ds, rfl, h, leavesOk_append h1 h2⟩
/-- The leaves of fields that lie one behind the other. -/
def leavesF (P : Program) (f : TypeId → Option (List Leaf)) : List Field → Nat → Nat → Option (List Leaf)
  | [], off, tot => if off = tot then some [] else none
  | q :: fs, off, tot => if q.offset = off then
      match f q.type with
      | some a => (leavesF P f fs (off + P.cellsOf q.type) tot).map fun b => a ++ b
      | none => none
    else none
def leaves (P : Program) : Nat → TypeId → Option (List Leaf)
  | 0, _ => none
  | n + 1, t => match P.underlying t with
    | some .bool => some [.bool]
    | some (.int k) => some [.int k]
    | some .string => some [.str]
    | some (.struct fs) => leavesF P (leaves P n) fs.toList 0 (P.cellsOf t)
    | some (.array m e) => if P.cellsOf t = m * P.cellsOf e then (leaves P n e).map fun a => (List.replicate m a).flatten else none
    | _ => none
section
variable {H : Type} {enc : TypeId × Value → H} {P : Program} {w : World} {base : Nat} {sp : Nat → Bool} {held : Bool}
theorem leavesF_ok {f : TypeId → Option (List Leaf)} {cs : List Value} : ∀ (fs : List Field) (off tot : Nat) (ls : List Leaf),
    (∀ q ∈ fs, ∀ a, f q.type = some a → leavesOk a ((cs.drop q.offset).take (P.cellsOf q.type))) → leavesF P f fs off tot = some ls → tot = cs.length → off ≤ tot → leavesOk ls (cs.drop off)
  | [], off, tot, ls, _, h, ht, _ => by
    unfold leavesF at h
    split at h
    · rename_i e
      cases h
      show cs.drop off = []
      exact List.drop_of_length_le (by omega)
    · cases h
  | q :: fs, off, tot, ls, hq, h, ht, ho => by
    unfold leavesF at h
    split at h
    · rename_i e
      split at h
      · rename_i a ha
        simp only [Option.map_eq_some_iff] at h
        obtain ⟨b, hb, rfl⟩ := h
        have h1 := hq q List.mem_cons_self a ha
        have hle : off + P.cellsOf q.type ≤ tot := by
          have key : ∀ (fs : List Field) (off tot : Nat) (ls : List Leaf), leavesF P f fs off tot = some ls → off ≤ tot := by
            intro fs
            induction fs with
            | nil => intro off tot ls h; unfold leavesF at h; split at h
                     · omega
                     · cases h
            | cons x fs ih =>
              intro off tot ls h
              unfold leavesF at h
              split at h
              · split at h
                · simp only [Option.map_eq_some_iff] at h
                  obtain ⟨b, hb, _⟩ := h
                  have := ih _ _ _ hb
                  omega
                · cases h
              · cases h
          exact key _ _ _ _ hb
        have h2 := leavesF_ok fs (off + P.cellsOf q.type) tot b (fun x hx => hq x (List.mem_cons_of_mem _ hx)) hb ht hle
        rw [e] at h1
        have h3 := leavesOk_append h1 h2
        rw [← List.drop_drop, List.take_append_drop] at h3
        exact h3
      · cases h
    · cases h
theorem trod_leaves : ∀ (k : Nat) (t : TypeId) (ls : List Leaf), leaves P k t = some ls → ∀ (fuel : Nat) (cs : List Value) (x : DataW H × List MemPlace), DataW.trod enc P w base sp held fuel t cs = some x → leavesOk ls cs
  | 0, _, _, h => by cases h
  | k + 1, t, ls, h => by
    intro fuel cs x hx
    unfold leaves at h
    split at h
    · rename_i ht
      cases h
      obtain ⟨b, rfl, _⟩ := DataW.trod_bool ht hx
      exact ⟨_, _, rfl, ⟨b, rfl⟩, rfl⟩
    · rename_i q ht
      cases h
      obtain ⟨n, rfl, _, hw⟩ := DataW.trod_int ht hx
      exact ⟨_, _, rfl, ⟨n, rfl, hw⟩, rfl⟩
    · rename_i ht
      cases h
      obtain ⟨s, rfl, _, hs⟩ := DataW.trod_string ht hx
      exact ⟨_, _, rfl, ⟨s.data.toList, rfl, hs⟩, rfl⟩
    · rename_i fs ht
      obtain ⟨xs, n, _, _, hl, hxl, hi⟩ := DataW.trod_struct ht hx
      refine leavesF_ok fs.toList 0 (P.cellsOf t) ls (fun q hq a ha => ?_) h hl.symm (Nat.zero_le _)
      obtain ⟨i, hi1, hi2⟩ := List.getElem_of_mem hq
      have hf : fs[i]? = some q := by
        rw [← Array.getElem?_toList, List.getElem?_eq_getElem hi1, hi2]
      have h2 := hi i q hf
      have hlt : i < xs.length := by rw [hxl]; simpa using hi1
      rw [List.getElem?_eq_getElem hlt] at h2
      exact trod_leaves k q.type a ha _ _ _ h2
    · rename_i m e ht
      split at h
      · rename_i hc
        simp only [Option.map_eq_some_iff] at h
        obtain ⟨a, ha, rfl⟩ := h
        obtain ⟨xs, n, _, _, hl, hxl, hi⟩ := DataW.trod_array ht hx
        have key : ∀ j, j ≤ m → leavesOk ((List.replicate j a).flatten) (cs.drop ((m - j) * P.cellsOf e)) := by
          intro j
          induction j with
          | zero =>
            intro _
            show cs.drop _ = []
            exact List.drop_of_length_le (by rw [hl, hc, Nat.sub_zero]; exact Nat.le_refl _)
          | succ j ih =>
            intro hj
            have h1 := ih (by omega)
            have h2 := hi (m - (j + 1)) (by omega)
            have hlt : m - (j + 1) < xs.length := by omega
            rw [List.getElem?_eq_getElem hlt] at h2
            have h3 := leavesOk_append (trod_leaves k e a ha _ _ _ h2) h1
            have e1 : (m - j) * P.cellsOf e = (m - (j + 1)) * P.cellsOf e + P.cellsOf e := by
              rw [← Nat.succ_mul]; congr 1; omega
            rw [e1, ← List.drop_drop, List.take_append_drop] at h3
            rw [List.replicate_succ, List.flatten_cons]
            exact h3
        have := key m (Nat.le_refl _)
        rw [Nat.sub_self, Nat.zero_mul, List.drop_zero] at this
        exact this
      · cases h
    · cases h
/-- A slice of such, in the caller's world. -/
theorem trod_rows {t e : TypeId} {k : Nat} {ls : List Leaf} (ht : P.underlying t = some (.slice e)) (hl : leaves P k e = some ls) (hc : P.cellsOf e ≠ 0) {fuel : Nat} {cs : List Value} {x : DataW H × List MemPlace}
    (h : DataW.trod enc P w base sp held fuel t cs = some x) :
    ∃ (v : Value) (rows : List (List Value)), cs = [v] ∧ (∀ row ∈ rows, leavesOk ls row) ∧ (∀ row ∈ rows, row.length = P.cellsOf e) ∧ rows.length ≤ 9223372036854775807 ∧
      ∀ (ρ : Rst) (w' : World) (L : List HP), Holds ρ w' (whole w :: L) → Holds ρ w' (RS true v rows.length rows.flatten :: whole w :: L) := by
  rcases Go.Deep.open_slice ht h with ⟨rfl, _⟩ | ⟨a, len, cap, m, n, D, Pl, rfl, hb, hlc, hm, hmm, _, hx⟩
  · exact ⟨_, [], rfl, (fun _ h => by cases h), (fun _ h => by cases h), by simp, fun ρ w' L H => H.rs_nil⟩
  have hlm : len ≤ m := by rw [hmm]; split <;> omega
  have hm' : cap ≤ 9223372036854775807 := hm
  by_cases h0 : len = 0
  · subst h0
    exact ⟨_, [], rfl, (fun _ h => by cases h), (fun _ h => by cases h), by simp, fun ρ w' L H => H.rs_nil⟩
  -- the rows, one by one
  have key : ∀ j, j ≤ len → ∃ rows : List (List Value), rows.length = j ∧ (∀ row ∈ rows, leavesOk ls row) ∧ (∀ row ∈ rows, row.length = P.cellsOf e) ∧
      ∀ i, i < j * P.cellsOf e → w.cell? (a.add i) = rows.flatten[i]? := by
    intro j
    induction j with
    | zero => intro _; exact ⟨[], rfl, (fun _ h => by cases h), (fun _ h => by cases h), fun i hi => by omega⟩
    | succ j ih =>
      intro hj
      obtain ⟨rows, r1, r2, r3, r4⟩ := ih (by omega)
      obtain ⟨cs', c1, c2⟩ := hx j (by omega)
      obtain ⟨_, c3, c4⟩ := World.cells?_some c1
      have hfl : rows.flatten.length = j * P.cellsOf e := by
        rw [← r1]
        clear r1 r2 r4 ih
        induction rows with
        | nil => simp
        | cons x rows ih =>
          rw [List.flatten_cons, List.length_append, ih (fun y hy => r3 y (List.mem_cons_of_mem _ hy)), r3 x List.mem_cons_self, List.length_cons, Nat.succ_mul]
          omega
      refine ⟨rows ++ [cs'], by simp [r1], fun row hr => ?_, fun row hr => ?_, fun i hi => ?_⟩
      · rcases List.mem_append.1 hr with hr | hr
        · exact r2 row hr
        · have : row = cs' := by simpa using hr
          subst this
          exact trod_leaves k e ls hl _ _ _ c2
      · rcases List.mem_append.1 hr with hr | hr
        · exact r3 row hr
        · have : row = cs' := by simpa using hr
          subst this
          exact c3
      · rw [List.flatten_append]
        by_cases hij : i < j * P.cellsOf e
        · rw [List.getElem?_append_left (by omega)]
          exact r4 i hij
        · rw [List.getElem?_append_right (by omega), hfl]
          rw [Nat.succ_mul] at hi
          have h5 := c4 (i - j * P.cellsOf e) (by omega)
          rw [Go.Deep.add_add] at h5
          have e2 : j * P.cellsOf e + (i - j * P.cellsOf e) = i := by omega
          rw [e2] at h5
          rw [h5]
          simp
  obtain ⟨rows, r1, r2, r3, r4⟩ := key len (Nat.le_refl _)
  refine ⟨_, rows, rfl, r2, r3, by omega, fun ρ w' L H => ?_⟩
  have hcpos : 0 < P.cellsOf e := by omega
  have hfl : rows.flatten.length = len * P.cellsOf e := by
    rw [← r1]
    clear r1 r2 r4 key
    induction rows with
    | nil => simp
    | cons x rows ih =>
      rw [List.flatten_cons, List.length_append, ih (fun y hy => r3 y (List.mem_cons_of_mem _ hy)), r3 x List.mem_cons_self, List.length_cons, Nat.succ_mul]
      omega
  have hpos : 0 < len * P.cellsOf e := Nat.mul_pos (by omega) hcpos
  have c0 := r4 0 hpos
  have ha0 : a.add 0 = a := by simp [Addr.add]
  rw [ha0, List.getElem?_eq_getElem (by omega)] at c0
  unfold World.cell? at c0
  split at c0
  · rename_i cc T fr hblk
    split at c0
    · cases c0
    · rename_i hsp
      obtain ⟨ab, ao, az⟩ := a
      have has : az = none := by
        cases az with
        | none => rfl
        | some q => simp at hsp
      subst has
      have hcell : ∀ i, i < len * P.cellsOf e → cc.toList[ao + i]? = rows.flatten[i]? := fun i hi => by
        have := r4 i hi
        rw [Addr.add_none] at this
        rw [← this]
        unfold World.cell?
        rw [hblk]
        simp
      have hroom : ao + len * P.cellsOf e ≤ cc.toList.length := by
        have h1 := hcell (len * P.cellsOf e - 1) (by omega)
        rw [List.getElem?_eq_getElem (l := rows.flatten) (by omega)] at h1
        have := List.getElem?_eq_some_iff.1 h1
        obtain ⟨h2, _⟩ := this
        omega
      have hsplit : cc.toList = cc.toList.take ao ++ rows.flatten ++ cc.toList.drop (ao + len * P.cellsOf e) := by
        apply List.ext_getElem?
        intro i
        have hta : (cc.toList.take ao).length = ao := by rw [List.length_take]; omega
        by_cases h1 : i < ao
        · rw [List.append_assoc, List.getElem?_append_left (by omega), List.getElem?_take_of_lt h1]
        · by_cases h2 : i < ao + len * P.cellsOf e
          · rw [List.getElem?_append_left (by rw [List.length_append]; omega), List.getElem?_append_right (by omega), hta, ← hcell (i - ao) (by omega)]
            congr 1
            omega
          · rw [List.getElem?_append_right (by rw [List.length_append]; omega), List.length_append, hta, hfl, List.getElem?_drop]
            congr 1
            omega
      have hta : (cc.toList.take ao).length = ao := by rw [List.length_take]; omega
      have H1 := H.whole_one hblk
      have hcc : cc = (cc.toList.take ao ++ rows.flatten ++ cc.toList.drop (ao + len * P.cellsOf e)).toArray := by
        rw [← hsplit]
      rw [hcc] at H1
      have H2 := H1.one_cel (fun h => by cases h)
      have H3 := H2.rs_row (n := len) (cap := cap)
      rw [hta] at H3
      rw [r1]
      exact H3
  · cases c0
theorem rows_map {α : Type} {f : α → List Value} {B : α → Prop} : ∀ {rows : List (List Value)}, (∀ row ∈ rows, ∃ u, row = f u ∧ B u) → ∃ us : List α, rows = us.map f ∧ ∀ u ∈ us, B u
  | [], _ => ⟨[], rfl, fun _ h => by cases h⟩
  | row :: rows, h => by
    obtain ⟨us, h1, h2⟩ := rows_map (rows := rows) fun r hr => h r (List.mem_cons_of_mem _ hr)
    obtain ⟨u, h3, h4⟩ := h row List.mem_cons_self
    exact ⟨u :: us, by rw [h1, h3]; rfl, fun x hx => by
      rcases List.mem_cons.1 hx with rfl | hx
      · exact h4
      · exact h2 x hx⟩
end
end Go.Proofs.YtfjnacakpeommaaDoor.SL
