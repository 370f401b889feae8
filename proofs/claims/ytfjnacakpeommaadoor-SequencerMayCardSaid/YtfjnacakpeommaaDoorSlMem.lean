/- Steps of a walk: memory, calls, control. -/
import Derived.Test.YtfjnacakpeommaaDoorSlStep
namespace Go.Proofs.YtfjnacakpeommaaDoor.SL
open Go
set_option autoImplicit false
set_option linter.unusedVariables false
set_option linter.unusedSimpArgs false

/-! What a program says of its types, as tables. -/
def tabLk {α : Type} : List (Nat × α) → Nat → Option α
  | [], _ => none
  | (s, v) :: e, t => match Nat.beq s t with | true => some v | false => tabLk e t
def TabAll {α : Type} (R : Nat → α → Prop) : List (Nat × α) → Prop
  | [] => True
  | (t, x) :: l => R t x ∧ TabAll R l
theorem tab_ok {α : Type} {R : Nat → α → Prop} : ∀ {l : List (Nat × α)}, TabAll R l → ∀ {t : Nat} {x : α}, tabLk l t = some x → R t x
  | [], _, t, x, e => by cases e
  | (s, v) :: l, h, t, x, e => by
    unfold tabLk at e
    cases hb : Nat.beq s t with
    | true => rw [hb] at e; cases e; rw [← Nat.eq_of_beq_eq_true hb]; exact h.1
    | false => rw [hb] at e; exact tab_ok h.2 e

/-- A type's size in cells, its bytes, whether it is a struct or an array, its zero value's cells. -/
structure Inf where
  size : Nat
  bytes : Nat
  agg : Bool
  zero : List Value
def isAggD : TypeDesc → Bool
  | .struct _ | .array _ _ => true
  | _ => false
structure InfOk (P : Program) (t : Nat) (i : Inf) : Prop where
  mk ::
  info : ∃ j z, P.info? t = some j ∧ j.size = i.size ∧ j.bytes = i.bytes ∧ j.zero = some z ∧ z.cells = i.zero.toArray
  agg : ∃ d, P.underlying t = some d ∧ isAggD d = i.agg
/-- A struct's fields: places, sizes, types. -/
structure Fl where
  off : Nat
  size : Nat
  type : Nat
def FlOk (P : Program) (t : Nat) (l : List Fl) : Prop :=
  ∃ fs : Array Field, P.underlying t = some (.struct fs) ∧ fs.toList.map (fun f => (f.offset, f.type)) = l.map (fun f => (f.off, f.type)) ∧
    ∀ f ∈ l, ∃ j, P.info? f.type = some j ∧ j.size = f.size
theorem InfOk.of {P : Program} {t : Nat} {i : Inf} (h : (P.info? t).map (fun j => (j.zero.map (fun z => z.cells.toList), j.size, j.bytes)) = some (some i.zero, i.size, i.bytes))
    (h2 : (P.underlying t).map isAggD = some i.agg) : InfOk P t i := by
  simp only [Option.map_eq_some_iff] at h h2
  obtain ⟨j, hj, e⟩ := h
  simp only [Prod.mk.injEq, Option.map_eq_some_iff] at e
  obtain ⟨⟨z, hz, e1⟩, e2, e3⟩ := e
  obtain ⟨d, hd, e4⟩ := h2
  exact ⟨⟨j, z, hj, e2, e3, hz, by rw [← e1]⟩, d, hd, e4⟩
def flsOf : Option TypeDesc → Option (List (Nat × Nat))
  | some (.struct fs) => some (fs.toList.map fun f => (f.offset, f.type))
  | _ => none
theorem FlOk.of {P : Program} {t : Nat} {l : List Fl} (h : flsOf (P.underlying t) = some (l.map fun f => (f.off, f.type)))
    (h2 : (l.all fun f => (P.info? f.type).map (·.size) == some f.size) = true) : FlOk P t l := by
  cases hu : P.underlying t with
  | none => rw [hu] at h; cases h
  | some d =>
    rw [hu] at h
    cases d with
    | struct fs =>
      refine ⟨fs, hu, Option.some.inj h, fun f hf => ?_⟩
      have := List.all_eq_true.1 h2 f hf
      simp only [beq_iff_eq, Option.map_eq_some_iff] at this
      exact this
    | _ => cases h
structure Tabs (P : Program) where
  und : List (Nat × TypeDesc)
  inf : List (Nat × Inf)
  fld : List (Nat × List Fl)
  und_ok : TabAll (fun t d => P.underlying t = some d) und
  inf_ok : TabAll (InfOk P) inf
  fld_ok : TabAll (FlOk P) fld

variable {ρ : Rst} {N : Nat} {env : Env} {L L' : List HP} {P : Program} {ops : Array Oper} {Q : Exit → Act → World → Prop} {rest : List Oper}
  {K : Act → World → Prop} {w : World}

theorem run_und {t : Nat} {d : TypeDesc} (h : P.underlying t = some d) : (underlying t).run P w = .ok d w := run_underlying h w
theorem run_isAgg {t : Nat} {i : Inf} (h : InfOk P t i) : (isAgg t).run P w = .ok i.agg w := by
  obtain ⟨d, hd, e⟩ := h.agg
  simp only [isAgg, Sem.run_bind, run_und hd, Result.andThen_ok]
  rw [← e]
  cases d <;> rfl
theorem run_sizeOf {t : Nat} {i : Inf} (h : InfOk P t i) : (sizeOf t).run P w = .ok i.size w := by
  obtain ⟨j, z, hj, e, _⟩ := h.info
  simp [sizeOf, typeInfo, hj, e]
theorem run_bytes {t : Nat} {i : Inf} (h : InfOk P t i) : ∃ j, (typeInfo t).run P w = .ok j w ∧ j.bytes = i.bytes := by
  obtain ⟨j, z, hj, e, e', _⟩ := h.info
  exact ⟨j, by simp [typeInfo, hj], e'⟩
theorem run_zero {t : Nat} {i : Inf} (h : InfOk P t i) : ∃ z, (zeroValue t).run P w = .ok z w ∧ z.cells = i.zero.toArray := by
  obtain ⟨j, z, hj, e, e', hz, hc⟩ := h.info
  exact ⟨z, by simp [zeroValue, typeInfo, hj, hz], hc⟩

def setR (cs : List Value) (off : Nat) (vs : List Value) : List Value := cs.take off ++ vs ++ cs.drop (off + vs.length)

theorem cell_of {b off T : Nat} {cs : List Value} {fr : Nat × Nat} (h : w.heap[b]? = some (.cells cs.toArray T fr)) : w.cell? ⟨b, off, none⟩ = cs[off]? := by
  simp [World.cell?, h]
theorem frozen_of {b off T : Nat} {cs : List Value} {fr : Nat × Nat} (h : w.heap[b]? = some (.cells cs.toArray T fr)) (hf : fr.1 < fr.2 → cs.length ≤ fr.1) (ho : off < cs.length) : w.frozen? ⟨b, off, none⟩ = false := by
  obtain ⟨lo, hi⟩ := fr
  simp only [World.frozen?, h, Bool.and_eq_false_iff, decide_eq_false_iff_not]
  simp only at hf
  omega
theorem Holds.rowOf {r : Bool} {b T : Nat} {cs : List Value} (H : Holds ρ w (cel r b T cs :: L)) : ∃ fr : Nat × Nat, w.heap[b]? = some (.cells cs.toArray T fr) ∧ (r = false → fr.1 < fr.2 → cs.length ≤ fr.1) := by
  obtain ⟨fr, hf, H⟩ := H.cel_one
  exact ⟨fr, H.block, hf⟩
theorem Addr.add_none (b off n : Nat) : Addr.add ⟨b, off, none⟩ n = ⟨b, off + n, none⟩ := by
  unfold Addr.add; split
  · subst_vars; rfl
  · rfl

theorem run_loadCellsFrom {b off T : Nat} {cs : List Value} {fr : Nat × Nat} (hb : w.heap[b]? = some (.cells cs.toArray T fr)) :
    ∀ (n i : Nat) (acc : Array Value), off + i + n ≤ cs.length → (loadCellsFrom ⟨b, off, none⟩ i n acc).run P w = .ok (acc ++ ((cs.drop (off + i)).take n).toArray) w
  | 0, i, acc, _ => by simp [loadCellsFrom]
  | n + 1, i, acc, h => by
    have hlt : off + i < cs.length := by omega
    have e : cs[off + i]? = some cs[off + i] := List.getElem?_eq_getElem hlt
    simp only [loadCellsFrom, Addr.add_none, Sem.run_bind, Go.run_load, cell_of hb, e, Result.andThen_ok]
    rw [run_loadCellsFrom hb n (i + 1) _ (by omega)]
    congr 1
    rw [List.drop_eq_getElem_cons hlt]
    simp [Nat.add_assoc]
theorem run_loadCells {b off T n : Nat} {cs : List Value} {fr : Nat × Nat} (hb : w.heap[b]? = some (.cells cs.toArray T fr)) (h : off + n ≤ cs.length) :
    (loadCells ⟨b, off, none⟩ n).run P w = .ok ((cs.drop off).take n).toArray w := by
  unfold loadCells
  rw [run_loadCellsFrom hb n 0 #[] (by omega)]
  simp

theorem setCell_put {b off T : Nat} {cs : List Value} {v : Value} (H : Holds ρ w (cel false b T cs :: L)) :
    Holds ρ (w.setCell ⟨b, off, none⟩ v) (cel false b T (cs.set off v) :: L) := by
  obtain ⟨fr, hf, H⟩ := H.cel_one
  have hb := H.block
  refine (H.put (o' := .cells (cs.set off v).toArray T fr) rfl ?_ (fun c hc => ?_)).one_cel (by simpa using hf)
  · simp only [World.setCell, Array.getElem?_modify, if_true, hb, Option.map_some]
    simp
  · simp only [World.setCell, Array.getElem?_modify, if_neg (Ne.symm hc)]

theorem run_store1 {b off T : Nat} {cs : List Value} {v : Value} (H : Holds ρ w (cel false b T cs :: L)) (hv : v.oneCell' = true) (hlt : off < cs.length) :
    (store ⟨b, off, none⟩ v).run P w = .ok () (w.setCell ⟨b, off, none⟩ v) := by
  obtain ⟨fr, hb, hf⟩ := H.rowOf
  rw [run_store P w _ v _ hv, cell_of hb, List.getElem?_eq_getElem hlt]
  simp [frozen_of hb (hf rfl) hlt]

theorem setR_nil (cs : List Value) (off : Nat) : setR cs off [] = cs := by simp [setR]
theorem setR_cons (cs : List Value) (off : Nat) (v : Value) (vs : List Value) (h : off < cs.length) : setR (cs.set off v) (off + 1) vs = setR cs off (v :: vs) := by
  have e1 : (cs.set off v).take (off + 1) = cs.take off ++ [v] := by
    rw [List.take_succ_eq_append_getElem (by simpa using h)]
    simp [List.take_set_of_le]
  have e2 : (cs.set off v).drop (off + 1 + vs.length) = cs.drop (off + (v :: vs).length) := by
    rw [List.drop_set_of_lt (by omega)]
    congr 1
    simp; omega
  unfold setR
  rw [e1, e2]
  simp
theorem setR_length (cs : List Value) (off : Nat) (vs : List Value) (h : off + vs.length ≤ cs.length) : (setR cs off vs).length = cs.length := by
  simp [setR]; omega

theorem run_storeCells {b off T : Nat} : ∀ (vs cs : List Value) (i : Nat) (w : World), Holds ρ w (cel false b T cs :: L) → vs.all Value.oneCell' = true → off + i + vs.length ≤ cs.length →
    ∃ w', (storeCells ⟨b, off, none⟩ vs i).run P w = .ok () w' ∧ Holds ρ w' (cel false b T (setR cs (off + i) vs) :: L)
  | [], cs, i, w, H, _, _ => ⟨w, by simp [storeCells], by rw [setR_nil]; exact H⟩
  | v :: vs, cs, i, w, H, hall, hl => by
    simp only [List.all_cons, Bool.and_eq_true] at hall
    simp only [List.length_cons] at hl
    obtain ⟨w', e, H'⟩ := run_storeCells (off := off) vs (cs.set (off + i) v) (i + 1) _ (setCell_put (off := off + i) (v := v) H) hall.2 (by simp; omega)
    refine ⟨w', ?_, ?_⟩
    · have hlt : off + i < cs.length := by omega
      simp only [storeCells, Addr.add_none, Sem.run_bind, run_store1 (P := P) (off := off + i) H hall.1 hlt, Result.andThen_ok]
      exact e
    · rw [← setR_cons cs (off + i) v vs (by omega)]
      exact H'

/-- The cells of a value, as a list. -/
def cellsL : Value → List Value
  | .agg cs => cs.toList
  | v => [v]
theorem cellsL_eq (v : Value) : v.cells.toList = cellsL v := by cases v <;> rfl

section
variable {d : Nat} {dd : Option Nat} {op : Op} {ty : TypeId} {pos : String} {aft : Array Edge} {g : Option (Nat × Bool)} (tb : Tabs P)

theorem St_alloc {T : TypeId} {i : Inf} (hN : Nat.blt d N = true) (hi : tabLk tb.inf T = some i)
    (h : ∀ b, St ρ N ((d, .pointer (some ⟨b, 0, none⟩)) :: env) (cel false b T i.zero :: L) K) : St ρ N env L (Exec P Q ⟨some d, .alloc T, ty, pos, aft, g⟩ K) :=
  St_run (α := Nat) (v := fun b => .pointer (some ⟨b, 0, none⟩)) (M := fun b => cel false b T i.zero :: L) (by simpa using hN) (fun a w x y => by
    obtain ⟨z, hz, hc⟩ := run_zero (w := w) (tab_ok tb.inf_ok hi)
    refine ⟨w.heap.size, w.alloc (.cells z.cells T), ?_, ?_⟩
    · simp [execOp, Instr.alloc, hz, newVar, newRow, World.alloc_eq]
    · rw [hc]; exact (y.alloc _).one_cel (by simp)) h

/-- A box of a struct. -/
theorem St_boxA {T : TypeId} {x : Operand} {cs : List Value} (hN : Nat.blt d N = true) (hx : ev env x = some (.agg cs.toArray))
    (h : ∀ b, St ρ N ((d, .pointer (some ⟨b, 0, none⟩)) :: env) (cel false b T cs :: L) K) : St ρ N env L (Exec P Q ⟨some d, .box T x, ty, pos, aft, g⟩ K) :=
  St_run (α := Nat) (v := fun b => .pointer (some ⟨b, 0, none⟩)) (M := fun b => cel false b T cs :: L) (by simpa using hN) (fun a w z y => by
    refine ⟨w.heap.size, w.alloc (.cells cs.toArray T), ?_, (y.alloc _).one_cel (by simp)⟩
    simp [execOp, Instr.box, newVar, newRow, ev_ok z hx, Value.cells, World.alloc_eq]) h
theorem St_box1 {T : TypeId} {x : Operand} {v : Value} (hN : Nat.blt d N = true) (hx : ev env x = some v) (hv : v.oneCell' = true)
    (h : ∀ b, St ρ N ((d, .pointer (some ⟨b, 0, none⟩)) :: env) (cel false b T [v] :: L) K) : St ρ N env L (Exec P Q ⟨some d, .box T x, ty, pos, aft, g⟩ K) :=
  St_run (α := Nat) (v := fun b => .pointer (some ⟨b, 0, none⟩)) (M := fun b => cel false b T [v] :: L) (by simpa using hN) (fun a w z y => by
    have hc : v.cells = [v].toArray := by cases v <;> first | rfl | cases hv
    refine ⟨w.heap.size, w.alloc (.cells v.cells T), ?_, by rw [hc]; exact (y.alloc _).one_cel (by simp)⟩
    simp [execOp, Instr.box, newVar, newRow, ev_ok z hx, World.alloc_eq]) h

/-- One cell read. -/
theorem Rd_load {T T' b off : Nat} {r : Bool} {x : Operand} {cs : List Value} {v : Value} {i : Inf} (hx : ev env x = some (.pointer (some ⟨b, off, none⟩)))
    (hi : tabLk tb.inf T = some i) (ha : i.agg = false) (hc : Has L (cel r b T' cs) L') (hv : cs[off]? = some v) : Rd P ρ N env L ⟨dd, .load T x, ty, pos, aft, g⟩ (v) :=
  fun a w z y => by
    obtain ⟨fr, hb, hf⟩ := (y.has hc).rowOf
    simp only [execOp, Instr.loadAt, Instr.sureAddr, ev_ok z hx, loadVar, Sem.run_bind, Sem.run_pure, Result.andThen_ok, run_isAgg (tab_ok tb.inf_ok hi), ha, Bool.false_eq_true, if_false, Go.run_load,
      cell_of hb, hv]
/-- A struct read, or an array: some of a block's cells. -/
theorem Rd_loadA {T T' b off : Nat} {r : Bool} {x : Operand} {cs vs : List Value} {i : Inf} (hx : ev env x = some (.pointer (some ⟨b, off, none⟩)))
    (hi : tabLk tb.inf T = some i) (ha : i.agg = true) (hc : Has L (cel r b T' cs) L') (hl : off + i.size ≤ cs.length) (hv : (cs.drop off).take i.size = vs) : Rd P ρ N env L ⟨dd, .load T x, ty, pos, aft, g⟩ (.agg vs.toArray) :=
  fun a w z y => by
    obtain ⟨fr, hb, hf⟩ := (y.has hc).rowOf
    simp only [execOp, Instr.loadAt, Instr.sureAddr, ev_ok z hx, loadVar, Sem.run_bind, Sem.run_pure, Result.andThen_ok, run_isAgg (tab_ok tb.inf_ok hi), ha, if_true, run_sizeOf (tab_ok tb.inf_ok hi),
      run_loadCells hb hl, hv]
/-- A whole block read. -/
theorem Rd_loadW {T T' b : Nat} {r : Bool} {x : Operand} {cs : List Value} {i : Inf} (hx : ev env x = some (.pointer (some ⟨b, 0, none⟩)))
    (hi : tabLk tb.inf T = some i) (ha : i.agg = true) (hc : Has L (cel r b T' cs) L') (hl : cs.length = i.size) : Rd P ρ N env L ⟨dd, .load T x, ty, pos, aft, g⟩ (.agg cs.toArray) :=
  Rd_loadA tb hx hi ha hc (by omega) (by rw [List.drop_zero, ← hl, List.take_length])

theorem run_storeVar {T T' b off : Nat} {cs : List Value} {v : Value} {i : Inf} (hi : InfOk P T i) (H : Holds ρ w (cel false b T' cs :: L)) (hsz : (cellsL v).length = i.size)
    (hall : (cellsL v).all Value.oneCell' = true) (hl : off + (cellsL v).length ≤ cs.length) :
    ∃ w', (storeVar T ⟨b, off, none⟩ v).run P w = .ok () w' ∧ Holds ρ w' (cel false b T' (setR cs off (cellsL v)) :: L) := by
  obtain ⟨w', e, H'⟩ := run_storeCells (P := P) (off := off) (cellsL v) cs 0 w H hall (by omega)
  refine ⟨w', ?_, H'⟩
  have hs : v.cells.size = i.size := by rw [← hsz, ← cellsL_eq]; simp
  simp only [storeVar, Sem.run_bind, run_sizeOf hi, Result.andThen_ok, hs, ne_eq, not_true_eq_false, if_false, cellsL_eq]
  exact e

theorem St_skipop {M : List HP} (hr : ∀ a w, Ag N env a → Holds ρ w L → ∃ w', (execOp a.eval ⟨none, op, ty, pos, aft, g⟩).run P w = .ok .skip w' ∧ Holds ρ w' M)
    (h : St ρ N env M K) : St ρ N env L (Exec P Q ⟨none, op, ty, pos, aft, g⟩ K) := by
  intro a w x y
  obtain ⟨w', e, hw⟩ := hr a w x y
  unfold Exec Oper.wp
  rw [e]
  exact h _ _ x hw

/-- A store, of one cell or of several. -/
theorem St_storeV {T T' b off : Nat} {x y : Operand} {cs : List Value} {v : Value} {i : Inf} (hx : ev env x = some (.pointer (some ⟨b, off, none⟩))) (hy : ev env y = some v)
    (hi : tabLk tb.inf T = some i) (hsz : (cellsL v).length = i.size) (hall : (cellsL v).all Value.oneCell' = true) (hc : Has L (cel false b T' cs) L') (hl : off + (cellsL v).length ≤ cs.length)
    (h : St ρ N env (cel false b T' (setR cs off (cellsL v)) :: L') K) : St ρ N env L (Exec P Q ⟨none, .store T x y, ty, pos, aft, g⟩ K) :=
  St_skipop (fun a w z H => by
    obtain ⟨w', e, H'⟩ := run_storeVar (P := P) (tab_ok tb.inf_ok hi) (H.has hc) hsz hall hl
    exact ⟨w', by simp [execOp, Instr.storeAt, Instr.sureAddr, ev_ok z hx, ev_ok z hy, e], H'⟩) h
/-- One cell stored. -/
theorem St_store1 {T T' b off : Nat} {x y : Operand} {cs cs' : List Value} {v : Value} {i : Inf} (hx : ev env x = some (.pointer (some ⟨b, off, none⟩))) (hy : ev env y = some v)
    (hi : tabLk tb.inf T = some i) (hsz : i.size = 1) (hv : v.oneCell' = true) (hc : Has L (cel false b T' cs) L') (hl : Nat.blt off cs.length = true) (hcs : cs.set off v = cs')
    (h : St ρ N env (cel false b T' cs' :: L') K) : St ρ N env L (Exec P Q ⟨none, .store T x y, ty, pos, aft, g⟩ K) := by
  have hl' : off < cs.length := by simpa using hl
  have e : cellsL v = [v] := by cases v <;> first | rfl | cases hv
  refine St_storeV tb hx hy hi (by rw [e, hsz]; rfl) (by rw [e]; simp [hv]) hc (by rw [e]; simp only [List.length_singleton]; omega) ?_
  rw [e, ← setR_cons _ _ _ _ hl', setR_nil, hcs]
  exact h
/-- A whole block stored. -/
theorem St_storeW {T T' b : Nat} {x y : Operand} {cs vs : List Value} {i : Inf} (hx : ev env x = some (.pointer (some ⟨b, 0, none⟩))) (hy : ev env y = some (.agg vs.toArray))
    (hi : tabLk tb.inf T = some i) (hsz : vs.length = i.size) (hall : vs.all Value.oneCell' = true) (hc : Has L (cel false b T' cs) L') (hl : vs.length = cs.length)
    (h : St ρ N env (cel false b T' vs :: L') K) : St ρ N env L (Exec P Q ⟨none, .store T x y, ty, pos, aft, g⟩ K) := by
  have e : cellsL (.agg vs.toArray) = vs := rfl
  refine St_storeV tb hx hy hi (by rw [e, hsz]) (by rw [e]; exact hall) hc (by rw [e]; omega) ?_
  have : setR cs 0 vs = vs := by simp [setR, hl]
  rw [e, this]
  exact h

theorem Rd_fieldAddr {T b off i : Nat} {x : Operand} {l : List Fl} {f : Fl} (hx : ev env x = some (.pointer (some ⟨b, off, none⟩)))
    (hf : tabLk tb.fld T = some l) (hi : l[i]? = some f) (hz : Nat.blt 0 f.size = true) : Rd P ρ N env L ⟨dd, .fieldAddr T x i, ty, pos, aft, g⟩ (.pointer (some ⟨b, off + f.off, none⟩)) :=
  fun a w z _ => by
    obtain ⟨fs, hu, hm, hall⟩ := tab_ok tb.fld_ok hf
    have h1 : (fs.toList.map fun f => (f.offset, f.type))[i]? = some (f.off, f.type) := by rw [hm]; simp [hi]
    simp only [List.getElem?_map, Option.map_eq_some_iff] at h1
    obtain ⟨q, hq, e⟩ := h1
    have hq' : fs[i]? = some q := by simpa using hq
    obtain ⟨j, hj, hs⟩ := hall f (List.mem_of_getElem? hi)
    simp only [Prod.mk.injEq] at e
    have hz' : j.size ≠ 0 := by have : 0 < f.size := by simpa using hz
                                omega
    simp only [execOp, Instr.fieldAt, Sem.run_bind, run_und hu, Result.andThen_ok, hq', Instr.sureAddr, ev_ok z hx, Sem.run_pure, fieldPlace, sizeOf, typeInfo, Go.run_program, e.2, hj, hz', if_false, Addr.add_none, e.1]
theorem run_asIntOf {k : IntKind} {n : Int} : (asIntOf (.int k n)).run P w = .ok (k, n) w := rfl
/-- The place of an element of a slice. -/
theorem Rd_indexAddrS {T E b off len cap : Nat} {x y : Operand} {k : IntKind} {n : Int} {i : Inf} (hx : ev env x = some (.slice (some ⟨b, off, none⟩) len cap))
    (hy : ev env y = some (.int k n)) (hu : tabLk tb.und T = some (.slice E)) (hi : tabLk tb.inf E = some i) (h0 : 0 ≤ n ∧ n < (len : Int))
    : Rd P ρ N env L ⟨dd, .indexAddr T x y, ty, pos, aft, g⟩ (.pointer (some ⟨b, off + n.toNat * i.size, none⟩)) :=
  fun a w z _ => by
    simp only [execOp, Instr.indexAt, ev_ok z hx, ev_ok z hy, Sem.run_bind, run_asIntOf, Result.andThen_ok, run_und (tab_ok tb.und_ok hu), Sem.run_pure, if_pos h0, run_sizeOf (tab_ok tb.inf_ok hi), Addr.add_none,
      Bool.and_false]
/-- The place of an element of an array. -/
theorem Rd_indexAddrA {T E b off len : Nat} {x y : Operand} {k : IntKind} {n : Int} {i : Inf} (hx : ev env x = some (.pointer (some ⟨b, off, none⟩)))
    (hy : ev env y = some (.int k n)) (hu : tabLk tb.und T = some (.array len E)) (hi : tabLk tb.inf E = some i) (h0 : 0 ≤ n ∧ n < (len : Int))
    : Rd P ρ N env L ⟨dd, .indexAddr T x y, ty, pos, aft, g⟩ (.pointer (some ⟨b, off + n.toNat * i.size, none⟩)) :=
  fun a w z _ => by
    simp only [execOp, Instr.indexAt, ev_ok z hx, ev_ok z hy, Sem.run_bind, run_asIntOf, Result.andThen_ok, run_und (tab_ok tb.und_ok hu), Sem.run_pure, Instr.sureAddr, if_pos h0, run_sizeOf (tab_ok tb.inf_ok hi), Addr.add_none]
/-- A byte of a text. -/
theorem Rd_indexStr {T : Nat} {x y : Operand} {k : IntKind} {n : Int} {l : List UInt8} {c : UInt8} (hx : ev env x = some (str l))
    (hy : ev env y = some (.int k n)) (hu : tabLk tb.und T = some .string) (h0 : 0 ≤ n) (hc : l[n.toNat]? = some c) : Rd P ρ N env L ⟨dd, .index T x y, ty, pos, aft, g⟩ (.int .u8 c.toNat) :=
  fun a w z _ => by
    have e : (ByteArray.mk l.toArray)[n.toNat]? = some c := by
      have hlt : n.toNat < l.length := by
        rcases Nat.lt_or_ge n.toNat l.length with q | q
        · exact q
        · rw [List.getElem?_eq_none q] at hc; cases hc
      have hs : n.toNat < (ByteArray.mk l.toArray).size := by simpa [ByteArray.size] using hlt
      rw [getElem?_pos (ByteArray.mk l.toArray) n.toNat hs]
      rw [List.getElem?_eq_getElem hlt] at hc
      exact hc
    simp only [execOp, Instr.index, ev_ok z hx, ev_ok z hy, Sem.run_bind, run_asIntOf, Result.andThen_ok, run_und (tab_ok tb.und_ok hu), if_pos h0, e, Sem.run_pure]
theorem Rd_convInt {S T : Nat} {x : Operand} {k k' : IntKind} {n : Int} (hx : ev env x = some (.int k n)) (hu : tabLk tb.und S = some (.int k)) (hv : tabLk tb.und T = some (.int k'))
    : Rd P ρ N env L ⟨dd, .convert S T x, ty, pos, aft, g⟩ (.int k' (k'.wrap n)) :=
  fun a w z _ => by
    simp only [execOp, convert, ev_ok z hx, Sem.run_bind, run_und (tab_ok tb.und_ok hu), run_und (tab_ok tb.und_ok hv), Result.andThen_ok, Conv.intToInt, Sem.run_pure]
/-- A conversion that changes nothing. -/
theorem Rd_convSame {S T : Nat} {x : Operand} {k k' : IntKind} {n : Int} (hx : ev env x = some (.int k n)) (hu : tabLk tb.und S = some (.int k)) (hv : tabLk tb.und T = some (.int k'))
    (hw : k'.wrap n = n) : Rd P ρ N env L ⟨dd, .convert S T x, ty, pos, aft, g⟩ (.int k' n) :=
  by have h := Rd_convInt (ρ := ρ) (N := N) (L := L) (dd := dd) (ty := ty) (pos := pos) (aft := aft) (g := g) tb hx hu hv; rw [hw] at h; exact h

theorem run_resolveB {b : Builtin} {xs : List Operand} {tys : Array TypeId} {a : Act} {vs : List Value} (hx : xs.map a.eval = vs) :
    ∃ cst, (resolve a.eval { callee := .builtin b, args := xs.toArray, argTypes := tys } ty).run P w = .ok { target := .builtin b tys ty cst, args := vs.toArray } w := by
  have h1 : xs.toArray.map a.eval = vs.toArray := by simp [hx]
  simp only [resolve, h1]
  exact ⟨_, rfl⟩
theorem Rd_lenStr {T : Nat} {x : Operand} {l : List UInt8} (hx : ev env x = some (str l)) (hu : tabLk tb.und T = some .string)
    : Rd P ρ N env L ⟨dd, .call { callee := .builtin .len, args := [x].toArray, argTypes := [T].toArray }, ty, pos, aft, g⟩ (.int .i64 l.length) :=
  fun a w z _ => by
    obtain ⟨cst, e⟩ := run_resolveB (P := P) (w := w) (ty := ty) (b := .len) (tys := [T].toArray) (a := a) (xs := [x]) (vs := [str l]) (by simp [ev_ok z hx])
    simp only [execOp, Sem.run_bind, e, Result.andThen_ok, invoke, builtin, Builtin.len_]
    simp [run_und (tab_ok tb.und_ok hu), goInt]
    rfl
theorem Rd_lenSlice {T E : Nat} {x : Operand} {A : Option Addr} {n c : Nat} (hx : ev env x = some (.slice A n c)) (hu : tabLk tb.und T = some (.slice E))
    : Rd P ρ N env L ⟨dd, .call { callee := .builtin .len, args := [x].toArray, argTypes := [T].toArray }, ty, pos, aft, g⟩ (.int .i64 n) :=
  fun a w z _ => by
    obtain ⟨cst, e⟩ := run_resolveB (P := P) (w := w) (ty := ty) (b := .len) (tys := [T].toArray) (a := a) (xs := [x]) (vs := [.slice A n c]) (by simp [ev_ok z hx])
    simp only [execOp, Sem.run_bind, e, Result.andThen_ok, invoke, builtin, Builtin.len_]
    simp [run_und (tab_ok tb.und_ok hu), goInt]
theorem Rd_lenArr {T E : Nat} {x : Operand} {v : Value} {n : Nat} (hx : ev env x = some v) (hu : tabLk tb.und T = some (.array n E))
    : Rd P ρ N env L ⟨dd, .call { callee := .builtin .len, args := [x].toArray, argTypes := [T].toArray }, ty, pos, aft, g⟩ (.int .i64 n) :=
  fun a w z _ => by
    obtain ⟨cst, e⟩ := run_resolveB (P := P) (w := w) (ty := ty) (b := .len) (tys := [T].toArray) (a := a) (xs := [x]) (vs := [v]) (by simp [ev_ok z hx])
    simp only [execOp, Sem.run_bind, e, Result.andThen_ok, invoke, builtin, Builtin.len_]
    simp [run_und (tab_ok tb.und_ok hu), goInt]
theorem Rd_max {x y : Operand} {k k' : IntKind} {m n : Int} {tys : Array TypeId} (hx : ev env x = some (.int k m)) (hy : ev env y = some (.int k' n))
    : Rd P ρ N env L ⟨dd, .call { callee := .builtin .max, args := [x, y].toArray, argTypes := tys }, ty, pos, aft, g⟩ (.int k (if n > m then n else m)) :=
  fun a w z _ => by
    obtain ⟨cst, e⟩ := run_resolveB (P := P) (w := w) (ty := ty) (b := .max) (tys := tys) (a := a) (xs := [x, y]) (vs := [.int k m, .int k' n]) (by simp [ev_ok z hx, ev_ok z hy])
    simp only [execOp, Sem.run_bind, e, Result.andThen_ok, invoke, builtin, Builtin.max_, List.foldlM, Builtin.max2]
    simp
theorem Rd_min {x y : Operand} {k k' : IntKind} {m n : Int} {tys : Array TypeId} (hx : ev env x = some (.int k m)) (hy : ev env y = some (.int k' n))
    : Rd P ρ N env L ⟨dd, .call { callee := .builtin .min, args := [x, y].toArray, argTypes := tys }, ty, pos, aft, g⟩ (.int k (if n < m then n else m)) :=
  fun a w z _ => by
    obtain ⟨cst, e⟩ := run_resolveB (P := P) (w := w) (ty := ty) (b := .min) (tys := tys) (a := a) (xs := [x, y]) (vs := [.int k m, .int k' n]) (by simp [ev_ok z hx, ev_ok z hy])
    simp only [execOp, Sem.run_bind, e, Result.andThen_ok, invoke, builtin, Builtin.min_, List.foldlM, Builtin.min2]
    simp
/-! Calls -/
def Callable (P : Program) (f : FuncId) : Prop := ∃ fn c, P.funcs[f]? = some fn ∧ fn.body = some c ∧ (fn.name == "runtime.NumGoroutine") = false
def RP (ρ : Rst) (post : Value → List HP → Prop) (F : List HP) : Ending → World → Prop := fun e w' => ∃ v M, e = .returned v ∧ post v M ∧ Holds ρ w' (M ++ F)
structure Sp (P : Program) (f : FuncId) (vs : List Value) (pre : List HP) (post : Value → List HP → Prop) : Prop where
  callable : Callable P f
  calls : ∀ (ρ : Rst) (F : List HP) (w : World), Holds ρ w (pre ++ F) → Calls P f vs.toArray w (RP ρ post F)

theorem run_callFunc {f : FuncId} (h : Callable P f) (args : Array Value) : (callFunc f args).run P w = .ok (.enter f args) w := by
  obtain ⟨fn, c, hf, hb, hn⟩ := h
  have hn' : ¬ fn.name = "runtime.NumGoroutine" := by simpa using hn
  simp [callFunc, hf, hb, hn']
theorem St_call {f : FuncId} {xs : List Operand} {tys : Array TypeId} {vs : List Value} {pre F : List HP} {post : Value → List HP → Prop} (hN : Nat.blt d N = true) (ha : evs env xs = some vs)
    (hf : Sp P f vs pre post) (hs : Split L pre F) (h : ∀ v M, post v M → St ρ N ((d, v) :: env) (M ++ F) K) :
    St ρ N env L (Exec P Q ⟨some d, .call { callee := .value (.func f), args := xs.toArray, argTypes := tys }, ty, pos, aft, g⟩ K) := by
  intro a w x y
  have e : (execOp a.eval ⟨some d, .call { callee := .value (.func f), args := xs.toArray, argTypes := tys }, ty, pos, aft, g⟩).run P w = .ok (.enter f vs.toArray) w := by
    simp only [execOp, resolve, Act.eval, Deferred.ofValue, Sem.run_bind, Sem.run_pure, Result.andThen_ok, invoke]
    rw [run_callFunc hf.callable]
    congr 2
    simp [evs_ok x ha]
  unfold Exec Oper.wp
  rw [e]
  refine (hf.calls ρ F w (y.split hs)).mono ?_
  rintro e w' ⟨v, M, rfl, hp, H⟩
  exact h v M hp _ _ (x.put (by simpa using hN) v) H

/-- A function's contract, by its body. -/
def ini : Nat → List Value → Env
  | _, [] => []
  | n, v :: l => (n, v) :: ini (n + 1) l
theorem lk_ini : ∀ (l : List Value) (n t : Nat) (v : Value), lk (ini n l) t = some v → n ≤ t ∧ l[t - n]? = some v
  | [], n, t, v, e => by cases e
  | u :: l, n, t, v, e => by
    rw [ini, lk_cons] at e
    by_cases h : n = t
    · subst h; rw [if_pos rfl] at e; cases e; simp
    · rw [if_neg h] at e
      have := lk_ini l (n + 1) t v e
      refine ⟨by omega, ?_⟩
      have e2 : t - n = (t - (n + 1)) + 1 := by omega
      rw [e2]; simpa using this.2
theorem Sp.intro {f : FuncId} {fn : Func} {c : Code} {n : Nat} {vs : List Value} {pre : List HP} {post : Value → List HP → Prop} (hf : P.funcs[f]? = some fn) (hb : fn.body = some c) (hn : fn.ntmps = n)
    (hg : (fn.name == "runtime.NumGoroutine") = false) (hl : Nat.ble vs.length n = true)
    (h : ∀ (ρ : Rst) (F : List HP), St ρ n (ini 0 vs) (pre ++ [big F]) (c.wp P (bodyPost P fn (RP ρ post F)))) : Sp P f vs pre post :=
  ⟨⟨fn, c, hf, hb, hg⟩, fun ρ F w H => by
    refine calls_of_wp hf hb (h ρ F _ w ⟨?_, rfl, fun t v e => ?_⟩ ?_)
    · have : vs.length ≤ n := by simpa using hl
      simp [hn]; omega
    · have := (lk_ini _ _ _ _ e).2
      have hlt : t < vs.length := by
        rcases Nat.lt_or_ge t vs.length with q | q
        · exact q
        · simp [List.getElem?_eq_none q] at this
      simp only [Nat.sub_zero] at this
      rw [Array.getD_eq_getD_getElem?, Array.getElem?_append_left (by simpa using hlt)]
      simp [this]
    · exact H.mono fun _ x => big_append.2 (star_mono (fun _ a => a) (fun h b => ⟨h, E0, Cmp_E0 h, (Jn_E0 h).symm, b, rfl⟩) (big_append.1 x))⟩

theorem Sp.mono {f : FuncId} {vs : List Value} {pre : List HP} {post post' : Value → List HP → Prop} (h : Sp P f vs pre post) (hp : ∀ v M, post v M → post' v M) : Sp P f vs pre post' :=
  ⟨h.callable, fun ρ F w H => (h.calls ρ F w H).mono fun _ _ ⟨v, M, e, p, H'⟩ => ⟨v, M, e, hp v M p, H'⟩⟩

/-- The end: what is answered, and what is there. -/
theorem St_fin {fn : Func} {post : Value → List HP → Prop} {F : List HP} {v : Value} {M R : List HP} (hr : ∀ a w, Ag N env a → Holds ρ w L → (results fn a.tmps).run P w = .ok v w)
    (hp : post v M) (hs : Split L (M ++ [big F]) R) {e : Exit} (he : e = .ret ∨ e = .normal) : St ρ N env L (bodyPost P fn (RP ρ post F) e) := by
  intro a w x y
  have H : Holds ρ w (M ++ F) := (y.split hs).drops.mono fun _ z => big_append.2 (star_mono (fun _ a => a) (fun h b => by
    obtain ⟨h1, h2, c, rfl, p, q⟩ := b
    have q : h2 = E0 := q
    subst q
    rw [Jn_E0]; exact p) (big_append.1 z))
  rcases he with rfl | rfl <;> exact ⟨x.defers, v, hr a w x y, v, M, rfl, hp, H⟩
theorem St_ret0 {fn : Func} {post : Value → List HP → Prop} {F : List HP} {M R : List HP} {e : Exit} (he : e = .ret ∨ e = .normal) (hr : fn.results = #[]) (hp : post (.tuple #[]) M)
    (hs : Split L (M ++ [big F]) R) : St ρ N env L (bodyPost P fn (RP ρ post F) e) :=
  St_fin (fun a w x _ => by simp [results, hr]) hp hs he
theorem St_ret1 {fn : Func} {post : Value → List HP → Prop} {F : List HP} {v : Value} {t : Nat} {M R : List HP} {e : Exit} (he : e = .ret ∨ e = .normal) (hr : fn.results = #[.tmp t]) (hv : lk env t = some v) (hp : post v M)
    (hs : Split L (M ++ [big F]) R) : St ρ N env L (bodyPost P fn (RP ρ post F) e) :=
  St_fin (fun a w x _ => by rw [results_tmp hr, x.get _ _ hv]) hp hs he
theorem St_ret2 {fn : Func} {post : Value → List HP → Prop} {F : List HP} {v u : Value} {t s : Nat} {M R : List HP} {e : Exit} (he : e = .ret ∨ e = .normal) (hr : fn.results = #[.tmp t, .tmp s]) (hv : lk env t = some v)
    (hu : lk env s = some u) (hp : post (.tuple [v, u].toArray) M) (hs : Split L (M ++ [big F]) R) : St ρ N env L (bodyPost P fn (RP ρ post F) e) :=
  St_fin (fun a w x _ => by rw [results_tmp2 hr, x.get _ _ hv, x.get _ _ hu]) hp hs he
theorem St_ret3 {fn : Func} {post : Value → List HP → Prop} {F : List HP} {v u q : Value} {t s r : Nat} {M R : List HP} {e : Exit} (he : e = .ret ∨ e = .normal) (hr : fn.results = #[.tmp t, .tmp s, .tmp r])
    (hv : lk env t = some v) (hu : lk env s = some u) (hq : lk env r = some q) (hp : post (.tuple [v, u, q].toArray) M) (hs : Split L (M ++ [big F]) R) : St ρ N env L (bodyPost P fn (RP ρ post F) e) :=
  St_fin (fun a w x _ => by
    have h1 := x.get _ _ hv
    have h2 := x.get _ _ hu
    have h3 := x.get _ _ hq
    simp only [Array.getD_eq_getD_getElem?] at h1 h2 h3
    simp [results, hr, h1, h2, h3]) hp hs he
/-- A struct in a variable of its own is answered. -/
theorem St_retC {fn : Func} {post : Value → List HP → Prop} {F : List HP} {t T T' b : Nat} {r : Bool} {cs : List Value} {i : Inf} {M R : List HP} {e : Exit} (he : e = .ret ∨ e = .normal) (hr : fn.results = #[.cell t T])
    (hv : lk env t = some (.pointer (some ⟨b, 0, none⟩))) (hi : tabLk tb.inf T = some i) (ha : i.agg = true) (hc : Has L (cel r b T' cs) L') (hl : cs.length = i.size)
    (hp : post (.agg cs.toArray) M) (hs : Split L (M ++ [big F]) R) : St ρ N env L (bodyPost P fn (RP ρ post F) e) :=
  St_fin (fun a w x y => by
    have h1 := x.get _ _ hv
    simp only [Array.getD_eq_getD_getElem?] at h1
    have h2 : (loadCells ⟨b, 0, none⟩ i.size).run P w = .ok cs.toArray w := by
      obtain ⟨fr, hb, hf⟩ := (y.has hc).rowOf
      rw [run_loadCells hb (by omega), List.drop_zero, ← hl, List.take_length]
    simp [results, hr, h1, loadVar, asAddr, run_isAgg (tab_ok tb.inf_ok hi), ha, run_sizeOf (tab_ok tb.inf_ok hi), h2]) hp hs he
theorem St_retCT {fn : Func} {post : Value → List HP → Prop} {F : List HP} {t T T' b s : Nat} {r : Bool} {u : Value} {cs : List Value} {i : Inf} {M R : List HP} {e : Exit} (he : e = .ret ∨ e = .normal) (hr : fn.results = #[.cell t T, .tmp s])
    (hv : lk env t = some (.pointer (some ⟨b, 0, none⟩))) (hu : lk env s = some u) (hi : tabLk tb.inf T = some i) (ha : i.agg = true) (hc : Has L (cel r b T' cs) L') (hl : cs.length = i.size)
    (hp : post (.tuple [.agg cs.toArray, u].toArray) M) (hs : Split L (M ++ [big F]) R) : St ρ N env L (bodyPost P fn (RP ρ post F) e) :=
  St_fin (fun a w x y => by
    have h1 := x.get _ _ hv
    have h3 := x.get _ _ hu
    simp only [Array.getD_eq_getD_getElem?] at h1 h3
    have h2 : (loadCells ⟨b, 0, none⟩ i.size).run P w = .ok cs.toArray w := by
      obtain ⟨fr, hb, hf⟩ := (y.has hc).rowOf
      rw [run_loadCells hb (by omega), List.drop_zero, ← hl, List.take_length]
    simp [results, hr, h1, h3, loadVar, asAddr, run_isAgg (tab_ok tb.inf_ok hi), ha, run_sizeOf (tab_ok tb.inf_ok hi), h2]) hp hs he
end

/-! Control -/
section
variable {x y c : Code} {id id' : Nat}
theorem St_seq (h : St ρ N env L (x.wp P (Exit.then (y.wp P Q) Q))) : St ρ N env L ((Code.seq x y).wp P Q) := h.mono fun _ _ z => wp_seq z
theorem St_block (h : St ρ N env L (c.wp P (Exit.inBlock id Q))) : St ρ N env L ((Code.block id c).wp P Q) := h.mono fun _ _ z => wp_block z
theorem St_exit (h : St ρ N env L (Q (.exit id))) : St ρ N env L ((Code.exit id).wp P Q) := h.mono fun _ _ z => wp_exit z
theorem St_skip (h : St ρ N env L (Q .normal)) : St ρ N env L (Code.skip.wp P Q) := h.mono fun _ _ z => wp_skip z
theorem St_retc (h : St ρ N env L (Q .ret)) : St ρ N env L (Code.ret.wp P Q) := h.mono fun _ _ z => wp_ret z
theorem St_region {l : List Oper} (h : St ρ N env L (wpList P l.toArray Q l)) : St ρ N env L ((Code.region id l.toArray false).wp P Q) := h.mono fun _ _ z => wp_region_lit z
theorem St_cond {o : Operand} {t : Bool} (hc : ev env o = some (.bool t)) (h1 : t = true → St ρ N env L (x.wp P Q)) (h2 : t = false → St ρ N env L (y.wp P Q)) : St ρ N env L ((Code.cond o x y).wp P Q) :=
  fun a w z H => wp_cond_split (ev_ok z hc) (fun e => h1 e a w z H) (fun e => h2 e a w z H)
theorem St_condT {o : Operand} {t : Bool} (hc' : ev env o = some (.bool t)) (ht : t = true) (h1 : St ρ N env L (x.wp P Q)) : St ρ N env L ((Code.cond o x y).wp P Q) :=
  fun a w z H => wp_cond_true (ev_ok z (ht ▸ hc')) (h1 a w z H)
theorem St_condF {o : Operand} {t : Bool} (hc' : ev env o = some (.bool t)) (ht : t = false) (h1 : St ρ N env L (y.wp P Q)) : St ρ N env L ((Code.cond o x y).wp P Q) :=
  fun a w z H => wp_cond_false (ev_ok z (ht ▸ hc')) (h1 a w z H)
theorem St_thn (h : St ρ N env L K) : St ρ N env L (Exit.then K Q .normal) := h
theorem St_the (h : St ρ N env L (Q (.exit id))) : St ρ N env L (Exit.then K Q (.exit id)) := h
theorem St_thr (h : St ρ N env L (Q .ret)) : St ρ N env L (Exit.then K Q .ret) := h
theorem St_ibn (h : St ρ N env L (Q .normal)) : St ρ N env L (Exit.inBlock id Q .normal) := h
theorem St_ibr (h : St ρ N env L (Q .ret)) : St ρ N env L (Exit.inBlock id Q .ret) := h
theorem St_ibe (h : St ρ N env L (Q .normal)) : St ρ N env L (Exit.inBlock id Q (.exit id)) := by
  intro a w z H; show (if id = id then _ else _); rw [if_pos rfl]; exact h a w z H
theorem St_ibx (hne : Nat.beq id' id = false) (h : St ρ N env L (Q (.exit id'))) : St ρ N env L (Exit.inBlock id Q (.exit id')) := by
  intro a w z H; show (if id' = id then _ else _); rw [if_neg (by intro e; subst e; simp at hne)]; exact h a w z H

def SubE : Env → Env → Prop
  | [], _ => True
  | (t, v) :: l, env => lk env t = some v ∧ SubE l env
theorem SubE.get : ∀ {l : Env}, SubE l env → ∀ t v, lk l t = some v → lk env t = some v
  | [], _, t, v, e => by cases e
  | (s, u) :: l, h, t, v, e => by
    rw [lk_cons] at e
    by_cases hx : s = t
    · subst hx; rw [if_pos rfl] at e; cases e; exact h.1
    · rw [if_neg hx] at e; exact SubE.get h.2 t v e

/-- A state to which a walk comes. -/
def At {α : Type} (ρ : Rst) (N : Nat) (I : α → Prop) (E : α → Env) (M : α → List HP) : Act → World → Prop := fun a w => ∃ y, I y ∧ Ag N (E y) a ∧ Holds ρ w (M y)
theorem St_at {α : Type} {I : α → Prop} {E : α → Env} {M : α → List HP} {R : List HP} (y : α) (hI : I y) (he : SubE (E y) env) (hs : Split L (M y) R) : St ρ N env L (At ρ N I E M) :=
  fun a w z H => ⟨y, hI, ⟨z.size, z.defers, fun t v e => z.get t v (he.get t v e)⟩, (H.split hs).drops⟩
theorem wp_loop_g {α : Type} {Q : Exit → Act → World → Prop} (J : α → Act → World → Prop) (μ : α → Nat)
    (round : ∀ y a w, J y a w → c.wp P (Exit.then (fun a' w' => ∃ z, J z a' w' ∧ μ z < μ y) Q) a w) {y0 : α} {a : Act} {w : World} (h0 : J y0 a w) : (Code.loop c).wp P Q a w := by
  intro b k cs
  have key : ∀ n y a w, μ y = n → J y a w →
      ∃ e a' w', Q e a' w' ∧ Arrives P (lone (b.at a (.code c :: .inLoop c :: k)) cs w) b k cs e a' w' := by
    intro n
    induction n using Nat.strongRecOn with
    | _ n ih =>
      intro y a w hn hJ
      obtain ⟨e, a₁, w₁, hq, harr⟩ := round y a w hJ b (.inLoop c :: k) cs
      cases e with
      | normal =>
        obtain ⟨z, hz, hlt⟩ := hq
        obtain ⟨e₂, a₂, w₂, hq₂, harr₂⟩ := ih (μ z) (hn ▸ hlt) z a₁ w₁ rfl hz
        exact ⟨e₂, a₂, w₂, hq₂, .of_steps (Steps.trans harr (.one step_inLoop)) harr₂⟩
      | exit id => exact ⟨_, a₁, w₁, hq, .pass (x := .inLoop c) rfl (fun _ _ => .inl (by simp)) harr⟩
      | goto l => exact ⟨_, a₁, w₁, hq, .pass (x := .inLoop c) rfl (fun _ _ => .inl (by simp)) harr⟩
      | ret => exact ⟨_, a₁, w₁, hq, .pass (x := .inLoop c) rfl (fun _ _ => .inl (by simp)) harr⟩
      | panic ch => exact ⟨_, a₁, w₁, hq, .pass (x := .inLoop c) rfl (fun _ _ => .inl (by simp)) harr⟩
      | outgrown => exact ⟨_, a₁, w₁, hq, .pass (x := .inLoop c) rfl (fun _ _ => .inl (by simp)) harr⟩
  obtain ⟨e, a', w', hq, harr⟩ := key _ y0 a w rfl h0
  exact ⟨e, a', w', hq, .of_steps (.one step_loop) harr⟩
/-- A loop: what holds at each round's head, and a measure. -/
theorem St_loop {α : Type} (I : α → Prop) (E : α → Env) (M : α → List HP) (μ : α → Nat) (x0 : α) {R : List HP} (hI : I x0) (he : SubE (E x0) env) (hs : Split L (M x0) R)
    (round : ∀ z, I z → St ρ N (E z) (M z) (c.wp P (Exit.then (At ρ N (fun y => I y ∧ μ y < μ z) E M) Q))) : St ρ N env L ((Code.loop c).wp P Q) := by
  intro a w z H
  refine wp_loop_g (fun y a w => I y ∧ Ag N (E y) a ∧ Holds ρ w (M y)) μ ?_ (y0 := x0) ⟨hI, ⟨z.size, z.defers, fun t v e => z.get t v (he.get t v e)⟩, (H.split hs).drops⟩
  rintro y a w ⟨hy, ha, hh⟩
  refine wp_mono (round y hy a w ha hh) ?_
  intro e a w q
  cases e with
  | normal => obtain ⟨z, ⟨h1, h2⟩, h3, h4⟩ := q; exact ⟨z, ⟨h1, h3, h4⟩, h2⟩
  | _ => exact q
end
end Go.Proofs.YtfjnacakpeommaaDoor.SL
