/- Steps of a walk, more: regions that draw their order and only read; texts, arrays, built values, slices that grow. -/
import Derived.Test.YtfjnacakpeommaaDoorSlMem
import Derived.Deep.Quiet
import Derived.Lib.UnsafeStr
namespace Go.Proofs.YtfjnacakpeommaaDoor.SL
open Go
set_option autoImplicit false
set_option linter.unusedVariables false
set_option linter.unusedSimpArgs false

variable {ρ : Rst} {N : Nat} {env : Env} {L L' : List HP} {P : Program} {ops : Array Oper} {Q : Exit → Act → World → Prop} {rest : List Oper}
  {K : Act → World → Prop} {w : World} {lops : List Oper}

/-! Regions that draw their order -/
def Sq (N : Nat) (env : Env) (G : Act → Prop) : Prop := ∀ a, Ag N env a → G a
def QK (ρ : Rst) (L : List HP) (Q : Exit → Act → World → Prop) : Act → Prop := fun a => ∀ w, Holds ρ w L → Q .normal a w
def HC (ρ : Rst) (L : List HP) : World → Prop := fun w => Holds ρ w L
def QExec (P : Program) (C : World → Prop) (o : Oper) (K : Act → Prop) : Act → Prop := fun a => o.quiet P a C K
theorem St_regionQ {id : Nat} {l : List Oper} (hm : P.follows .mixedOrders = true) (hB : Region.lexB .any l.toArray = true)
    (h : Sq N env (wpQuiet P l.toArray (HC ρ L) (QK ρ L Q) l)) : St ρ N env L ((Code.region id l.toArray true).wp P Q) := by
  intro a w x y
  exact wp_region_quiet (C := HC ρ L) hm hB y.drew (h a x)
theorem Sq_nil {C : World → Prop} (h : St ρ N env L (Q .normal)) : Sq N env (wpQuiet P ops C (QK ρ L Q) []) := fun a x w y => h a w x y
variable {C : World → Prop} {G : Act → Prop}
theorem Sq_g0 {o : Oper} (hg : o.guard = none) (h : Sq N env (QExec P C o (wpQuiet P ops C G rest))) : Sq N env (wpQuiet P ops C G (o :: rest)) := by
  intro a x
  unfold wpQuiet
  rw [if_pos (by simp [Region.wanted, hg])]
  exact h a x
theorem Sq_g1 {o : Oper} {j : Nat} {b c : Bool} (hg : o.guard = some (j, b)) (hb' : gd lops env j = some (.bool c)) (hcb : c = b)
    (h : Sq N env (QExec P C o (wpQuiet P lops.toArray C G rest))) : Sq N env (wpQuiet P lops.toArray C G (o :: rest)) := by
  have hb : gd lops env j = some (.bool b) := hcb ▸ hb'
  intro a x
  unfold wpQuiet
  rw [if_pos (by simp [Region.wanted, hg, gd_ok x hb])]
  exact h a x
theorem Sq_gs {o : Oper} {j d : Nat} {b c : Bool} (hg : o.guard = some (j, b)) (hb : gd lops env j = some (.bool c)) (hcb : c = !b) (hd : o.dst = some d) (hN : Nat.blt d N = true)
    (h : Sq N ((d, undef) :: env) (wpQuiet P lops.toArray C G rest)) : Sq N env (wpQuiet P lops.toArray C G (o :: rest)) := by
  intro a x
  unfold wpQuiet
  have : ¬ c = b := by subst hcb; cases b <;> simp
  rw [if_neg (by simp [Region.wanted, hg, gd_ok x hb, this]), hd]
  exact h _ (x.put (by simpa using hN) _)
theorem Sq_gu {o : Oper} {j d : Nat} {b : Bool} (hg : o.guard = some (j, b)) (hb : gd lops env j = some undef) (hd : o.dst = some d) (hN : Nat.blt d N = true)
    (h : Sq N ((d, undef) :: env) (wpQuiet P lops.toArray C G rest)) : Sq N env (wpQuiet P lops.toArray C G (o :: rest)) := by
  intro a x
  unfold wpQuiet
  rw [if_neg (by simp [Region.wanted, hg, gd_undef x hb]), hd]
  exact h _ (x.put (by simpa using hN) _)
theorem Sq_again {d : Nat} {v v' : Value} (e : lk env d = some v) (hv : v = v') (h : Sq N ((d, v') :: env) G) : Sq N env G :=
  fun a x => h a ⟨x.size, x.defers, fun t u e' => by
    rw [lk_cons] at e'
    by_cases hx : d = t
    · subst hx; rw [if_pos rfl] at e'; cases e'; rw [← hv]; exact x.get _ _ e
    · rw [if_neg hx] at e'; exact x.get _ _ e'⟩
theorem Sq_gx {o : Oper} {j t : Nat} {b c : Bool} (hg : o.guard = some (j, b)) (ht : (lops[j]?).bind (·.dst) = some t) (hb : lk env t = some (.bool c))
    (h1 : c = true → Sq N ((t, .bool true) :: env) (wpQuiet P lops.toArray C G (o :: rest)))
    (h2 : c = false → Sq N ((t, .bool false) :: env) (wpQuiet P lops.toArray C G (o :: rest))) : Sq N env (wpQuiet P lops.toArray C G (o :: rest)) := by
  cases hc : c with
  | true => exact Sq_again hb (by rw [hc]) (h1 hc)
  | false => exact Sq_again hb (by rw [hc]) (h2 hc)
section
variable {d : Nat} {dd : Option Nat} {op : Op} {ty : TypeId} {pos : String} {aft : Array Edge} {g : Option (Nat × Bool)} (tb : Tabs P)
theorem Sq_rd {v : Value} (hN : Nat.blt d N = true) (hr : Rd P ρ N env L ⟨some d, op, ty, pos, aft, g⟩ v) (h : Sq N ((d, v) :: env) G) :
    Sq N env (QExec P (HC ρ L) ⟨some d, op, ty, pos, aft, g⟩ G) := by
  intro a x
  refine ⟨v, fun w y => ?_, h _ (x.put (by simpa using hN) v)⟩
  have e := hr a w x y
  unfold Oper.quietAt
  rw [e]
  exact ⟨rfl, rfl⟩
theorem Sq_call {f : FuncId} {xs : List Operand} {tys : Array TypeId} {vs : List Value} {pre F : List HP} {post : Value → List HP → Prop} {v0 : Value} (hN : Nat.blt d N = true) (ha : evs env xs = some vs)
    (hf : Sp P f vs pre post) (hs : Split L pre F) (hq : ∀ v M, post v M → v = v0 ∧ ∃ R, Split (M ++ F) L R) (h : Sq N ((d, v0) :: env) G) :
    Sq N env (QExec P (HC ρ L) ⟨some d, .call { callee := .value (.func f), args := xs.toArray, argTypes := tys }, ty, pos, aft, g⟩ G) := by
  intro a x
  refine ⟨v0, fun w y => ?_, h _ (x.put (by simpa using hN) v0)⟩
  have e : (execOp a.eval ⟨some d, .call { callee := .value (.func f), args := xs.toArray, argTypes := tys }, ty, pos, aft, g⟩).run P w = .ok (.enter f vs.toArray) w := by
    simp only [execOp, resolve, Act.eval, Deferred.ofValue, Sem.run_bind, Sem.run_pure, Result.andThen_ok, invoke]
    rw [run_callFunc hf.callable]
    congr 2
    simp [evs_ok x ha]
  unfold Oper.quietAt
  rw [e]
  have y : Holds ρ w L := y
  refine ⟨rfl, (hf.calls ρ F w (y.split hs)).mono ?_⟩
  rintro e w' ⟨v, M, rfl, hp, H⟩
  obtain ⟨rfl, R, hR⟩ := hq v M hp
  exact ⟨rfl, (H.split hR).drops⟩

/-! Texts -/
theorem extract_str (l : List UInt8) (a b : Nat) : (ByteArray.mk l.toArray).extract a b = ByteArray.mk ((l.drop a).take (b - a)).toArray := by
  apply ByteArray.ext
  rw [ByteArray.data_extract]
  apply Array.toList_inj.1
  simp
theorem size_str (l : List UInt8) : (ByteArray.mk l.toArray).size = l.length := rfl
theorem Rd_sliceStr {T : Nat} {x lo hi : Operand} {l : List UInt8} {k k' : IntKind} {m n : Int} (hx : ev env x = some (str l)) (hl : ev env lo = some (.int k m)) (hh : ev env hi = some (.int k' n))
    (hu : tabLk tb.und T = some .string) (hb : 0 ≤ m ∧ m ≤ n ∧ n ≤ l.length) : Rd P ρ N env L ⟨dd, .slice T x (some lo) (some hi) none, ty, pos, aft, g⟩ (str ((l.drop m.toNat).take (n.toNat - m.toNat))) :=
  fun a w z _ => by
    have h1 : 0 ≤ n ∧ n ≤ ((l.length : Nat) : Int) := by omega
    have h2 : 0 ≤ m ∧ m ≤ ((n.toNat : Nat) : Int) := by omega
    simp only [execOp, Instr.sliceAt, Option.map_some, Option.map_none, ev_ok z hx, ev_ok z hl, ev_ok z hh, Sem.run_bind, run_und (tab_ok tb.und_ok hu), Result.andThen_ok, Instr.slice, Option.isSome_none, Bool.false_eq_true, if_false,
      Instr.sliceBounds, Instr.sliceBound, run_asIntOf, Sem.run_pure, size_str, if_pos h1, if_pos h2, extract_str]
theorem Rd_sliceStrTo {T : Nat} {x hi : Operand} {l : List UInt8} {k' : IntKind} {n : Int} (hx : ev env x = some (str l)) (hh : ev env hi = some (.int k' n))
    (hu : tabLk tb.und T = some .string) (hb : 0 ≤ n ∧ n ≤ l.length) : Rd P ρ N env L ⟨dd, .slice T x none (some hi) none, ty, pos, aft, g⟩ (str (l.take n.toNat)) :=
  fun a w z _ => by
    have h1 : 0 ≤ n ∧ n ≤ ((l.length : Nat) : Int) := by omega
    simp only [execOp, Instr.sliceAt, Option.map_some, Option.map_none, ev_ok z hx, ev_ok z hh, Sem.run_bind, run_und (tab_ok tb.und_ok hu), Result.andThen_ok, Instr.slice, Option.isSome_none, Bool.false_eq_true, if_false,
      Instr.sliceBounds, Instr.sliceBound, run_asIntOf, Sem.run_pure, size_str, if_pos h1, extract_str, List.drop_zero, Nat.sub_zero]
theorem Rd_sliceStrFrom {T : Nat} {x lo : Operand} {l : List UInt8} {k : IntKind} {m : Int} (hx : ev env x = some (str l)) (hl : ev env lo = some (.int k m))
    (hu : tabLk tb.und T = some .string) (hb : 0 ≤ m ∧ m ≤ l.length) : Rd P ρ N env L ⟨dd, .slice T x (some lo) none none, ty, pos, aft, g⟩ (str (l.drop m.toNat)) :=
  fun a w z _ => by
    have h1 : 0 ≤ m ∧ m ≤ ((l.length : Nat) : Int) := by omega
    have e : (l.drop m.toNat).take (l.length - m.toNat) = l.drop m.toNat := by rw [List.take_of_length_le]; simp
    simp only [execOp, Instr.sliceAt, Option.map_some, Option.map_none, ev_ok z hx, ev_ok z hl, Sem.run_bind, run_und (tab_ok tb.und_ok hu), Result.andThen_ok, Instr.slice, Option.isSome_none, Bool.false_eq_true, if_false,
      Instr.sliceBounds, Instr.sliceBound, run_asIntOf, Sem.run_pure, size_str, if_pos h1, extract_str, e]
/-- A text as another type of texts. -/
theorem Rd_convStr {S T : Nat} {x : Operand} {l : List UInt8} (hx : ev env x = some (str l)) (hu : tabLk tb.und S = some .string) (hv : tabLk tb.und T = some .string) :
    Rd P ρ N env L ⟨dd, .convert S T x, ty, pos, aft, g⟩ (str l) :=
  fun a w z _ => by
    simp only [execOp, convert, ev_ok z hx, Sem.run_bind, run_und (tab_ok tb.und_ok hu), run_und (tab_ok tb.und_ok hv), Result.andThen_ok, Sem.run_pure]
/-- An element of an array, one cell an element. -/
theorem Rd_indexArr {T E len : Nat} {x y : Operand} {k : IntKind} {n : Int} {cs : List Value} {i : Inf} {v : Value} (hx : ev env x = some (.agg cs.toArray)) (hy : ev env y = some (.int k n))
    (hu : tabLk tb.und T = some (.array len E)) (hi : tabLk tb.inf E = some i) (ha : i.agg = false) (hs : i.size = 1) (h0 : 0 ≤ n ∧ n < (len : Int)) (hv : cs[n.toNat]? = some v) :
    Rd P ρ N env L ⟨dd, .index T x y, ty, pos, aft, g⟩ v :=
  fun a w z _ => by
    simp only [execOp, Instr.index, ev_ok z hx, ev_ok z hy, Sem.run_bind, run_asIntOf, Result.andThen_ok, run_und (tab_ok tb.und_ok hu), if_pos h0, run_sizeOf (tab_ok tb.inf_ok hi), part, run_isAgg (tab_ok tb.inf_ok hi), ha,
      Bool.false_eq_true, if_false, hs, Nat.mul_one, List.getElem?_toArray, hv, Sem.run_pure]
/-- A field of a struct, of one cell. -/
theorem Rd_field {T i : Nat} {x : Operand} {cs : List Value} {l : List Fl} {f : Fl} {j : Inf} {v : Value} (hx : ev env x = some (.agg cs.toArray)) (hf : tabLk tb.fld T = some l) (hi : l[i]? = some f)
    (hj : tabLk tb.inf f.type = some j) (ha : j.agg = false) (hv : cs[f.off]? = some v) : Rd P ρ N env L ⟨dd, .field T x i, ty, pos, aft, g⟩ v :=
  fun a w z _ => by
    obtain ⟨fs, hu, hm, hall⟩ := tab_ok tb.fld_ok hf
    have h1 : (fs.toList.map fun f => (f.offset, f.type))[i]? = some (f.off, f.type) := by rw [hm]; simp [hi]
    simp only [List.getElem?_map, Option.map_eq_some_iff] at h1
    obtain ⟨q, hq, e⟩ := h1
    have hq' : fs[i]? = some q := by simpa using hq
    simp only [Prod.mk.injEq] at e
    simp only [execOp, Instr.field, ev_ok z hx, Sem.run_bind, run_und hu, Result.andThen_ok, hq', asAgg, Sem.run_pure, part, e.1, e.2, run_isAgg (tab_ok tb.inf_ok hj), ha, Bool.false_eq_true, if_false, List.getElem?_toArray, hv]
/-- A field of several cells. -/
theorem Rd_fieldA {T i : Nat} {x : Operand} {cs vs : List Value} {l : List Fl} {f : Fl} {j : Inf} (hx : ev env x = some (.agg cs.toArray)) (hf : tabLk tb.fld T = some l) (hi : l[i]? = some f)
    (hj : tabLk tb.inf f.type = some j) (ha : j.agg = true) (hv : (cs.drop f.off).take j.size = vs) : Rd P ρ N env L ⟨dd, .field T x i, ty, pos, aft, g⟩ (.agg vs.toArray) :=
  fun a w z _ => by
    obtain ⟨fs, hu, hm, hall⟩ := tab_ok tb.fld_ok hf
    have h1 : (fs.toList.map fun f => (f.offset, f.type))[i]? = some (f.off, f.type) := by rw [hm]; simp [hi]
    simp only [List.getElem?_map, Option.map_eq_some_iff] at h1
    obtain ⟨q, hq, e⟩ := h1
    have hq' : fs[i]? = some q := by simpa using hq
    simp only [Prod.mk.injEq] at e
    have e2 : cs.toArray.extract f.off (f.off + j.size) = vs.toArray := by
      apply Array.toList_inj.1
      simp [← hv]
    simp only [execOp, Instr.field, ev_ok z hx, Sem.run_bind, run_und hu, Result.andThen_ok, hq', asAgg, Sem.run_pure, part, e.1, e.2, run_isAgg (tab_ok tb.inf_ok hj), ha, if_true, run_sizeOf (tab_ok tb.inf_ok hj), e2]

/-! Built values -/
def insL : List Value → Nat → List Value → List Value
  | cs, _, [] => cs
  | cs, off, v :: vs => insL (cs.set off v) (off + 1) vs
theorem insL_length : ∀ (vs cs : List Value) (off : Nat), (insL cs off vs).length = cs.length
  | [], _, _ => rfl
  | v :: vs, cs, off => by rw [insL, insL_length vs]; simp
theorem insL_fold : ∀ (vs : List Value) (cs : List Value) (off k : Nat),
    ((vs.zipIdx k).foldl (fun (cs : Array Value) (x : Value × Nat) => cs.setIfInBounds (off + x.2) x.1) cs.toArray) = (insL cs (off + k) vs).toArray
  | [], _, _, _ => rfl
  | v :: vs, cs, off, k => by
    rw [List.zipIdx_cons, List.foldl_cons, insL]
    have : cs.toArray.setIfInBounds (off + k) v = (cs.set (off + k) v).toArray := by simp
    simp only [this]
    rw [insL_fold vs _ off (k + 1)]
    rfl
/-- Parts laid into a zero value: places (from, size). -/
def fillL (place : Nat → Option (Nat × Nat)) : List Value → List (Nat × Value) → Option (List Value)
  | cs, [] => some cs
  | cs, (i, v) :: r => match place i with
    | none => none
    | some (off, size) => match Nat.beq (cellsL v).length size && Nat.ble (off + size) cs.length with
      | true => fillL place (insL cs off (cellsL v)) r
      | false => none
theorem fill_eq {place place' : Nat → Option (Nat × Nat)} (hp : ∀ i x, place i = some x → place' i = some x) : ∀ {ps : List (Nat × Value)} {cs out : List Value}, fillL place cs ps = some out → Instr.fill place' cs.toArray ps = some out.toArray
  | [], cs, out, h => by cases h; rfl
  | (i, v) :: r, cs, out, h => by
    unfold fillL at h
    cases e : place i with
    | none => rw [e] at h; cases h
    | some x =>
      obtain ⟨off, size⟩ := x
      rw [e] at h
      simp only at h
      cases hb : (Nat.beq (cellsL v).length size && Nat.ble (off + size) cs.length) with
      | false => rw [hb] at h; cases h
      | true =>
        rw [hb] at h
        simp only [Bool.and_eq_true, Nat.ble_eq] at hb
        have h1 : (cellsL v).length = size := Nat.eq_of_beq_eq_true hb.1
        have hs : v.cells.size = size := by rw [← h1, ← cellsL_eq]; simp
        unfold Instr.fill
        simp only [hp i _ e, hs]
        rw [if_neg (by simp; omega)]
        have e3 : v.cells = (cellsL v).toArray := by rw [← cellsL_eq]
        have e2 : v.cells.zipIdx.foldl (fun (cs : Array Value) (x : Value × Nat) => cs.setIfInBounds (off + x.2) x.1) cs.toArray = (insL cs off (cellsL v)).toArray := by
          rw [e3, ← Array.foldl_toList]
          have := insL_fold (cellsL v) cs off 0
          simpa using this
        exact (congrArg (fun c => Instr.fill place' c r) e2).trans (fill_eq hp h)
def plF (l : List Fl) (i : Nat) : Option (Nat × Nat) := match l[i]? with | some f => some (f.off, f.size) | none => none
def evp (env : Env) : List (Nat × Operand) → Option (List (Nat × Value))
  | [] => some []
  | (i, x) :: l => match ev env x with
    | none => none
    | some v => match evp env l with
      | none => none
      | some vs => some ((i, v) :: vs)
theorem evp_ok {a : Act} (h : Ag N env a) : ∀ {l : List (Nat × Operand)} {vs : List (Nat × Value)}, evp env l = some vs → l.map (fun (i, x) => (i, a.eval x)) = vs
  | [], vs, e => by cases e; rfl
  | (i, x) :: l, vs, e => by
    unfold evp at e
    cases h1 : ev env x with
    | none => rw [h1] at e; cases e
    | some v =>
      rw [h1] at e
      cases h2 : evp env l with
      | none => rw [h2] at e; cases e
      | some us =>
        rw [h2] at e; cases e
        simp [ev_ok h h1, evp_ok h h2]
theorem run_places {fs : Array Field} {l : List Fl} (hm : fs.toList.map (fun f => (f.offset, f.type)) = l.map (fun f => (f.off, f.type))) (hall : ∀ f ∈ l, ∃ j, P.info? f.type = some j ∧ j.size = f.size) :
    ((fs.mapM fun f => (do pure (f.offset, ← sizeOf f.type) : Sem (Nat × Nat)))).run P w = .ok (l.map fun f => (f.off, f.size)).toArray w := by
  rw [Array.mapM_eq_mapM_toList]
  have key : ∀ (gs : List Field) (l : List Fl), gs.map (fun f => (f.offset, f.type)) = l.map (fun f => (f.off, f.type)) → (∀ f ∈ l, ∃ j, P.info? f.type = some j ∧ j.size = f.size) →
      ((gs.mapM fun f => (do pure (f.offset, ← sizeOf f.type) : Sem (Nat × Nat)))).run P w = .ok (l.map fun f => (f.off, f.size)) w := by
    intro gs
    induction gs with
    | nil => intro l hm _; cases l with
      | nil => rfl
      | cons => simp at hm
    | cons q gs ih =>
      intro l hm hall
      cases l with
      | nil => simp at hm
      | cons f l =>
        simp only [List.map_cons, List.cons.injEq, Prod.mk.injEq] at hm
        obtain ⟨j, hj, hs⟩ := hall f (by simp)
        have hq : (sizeOf q.type).run P w = .ok f.size w := by simp [sizeOf, typeInfo, hm.1.2, hj, hs]
        rw [List.mapM_cons, Sem.run_bind, Sem.run_bind, hq, Result.andThen_ok, Sem.run_pure, Result.andThen_ok, Sem.run_bind, ih l hm.2 (fun f hf => hall f (by simp [hf])), Result.andThen_ok, Sem.run_pure, List.map_cons, hm.1.1]
  rw [Sem.run_map, key fs.toList l hm hall]
  rfl
/-- A struct built. -/
theorem Rd_build {T : Nat} {ps : List (Nat × Operand)} {l : List Fl} {i : Inf} {pv : List (Nat × Value)} {cs : List Value} (hp : evp env ps = some pv) (hf : tabLk tb.fld T = some l) (hi : tabLk tb.inf T = some i)
    (hv : fillL (plF l) i.zero pv = some cs) : Rd P ρ N env L ⟨dd, .build T ps.toArray, ty, pos, aft, g⟩ (.agg cs.toArray) :=
  fun a w z _ => by
    obtain ⟨fs, hu, hm, hall⟩ := tab_ok tb.fld_ok hf
    obtain ⟨zv, hz, hc⟩ := run_zero (w := w) (tab_ok tb.inf_ok hi)
    have e1 : (ps.toArray.map fun x => (x.1, a.eval x.2)) = pv.toArray := by
      have := evp_ok z hp
      simp only [List.map_toArray]
      exact congrArg List.toArray this
    have e2 : Instr.fill (fun x => (l.map fun f => (f.off, f.size)).toArray[x]?) i.zero.toArray pv = some cs.toArray := fill_eq (fun j x h => by
      unfold plF at h
      cases hj : l[j]? with
      | none => rw [hj] at h; cases h
      | some f => rw [hj] at h; simpa [hj] using h) hv
    simp only [execOp, Instr.build, Sem.run_bind, hz, Result.andThen_ok, run_und hu, run_places hm hall, hc]
    have e1' : (Array.map (fun x => match x with | (i, x) => (i, a.eval x)) ps.toArray) = pv.toArray := e1
    simp only [e1', e2, Sem.run_pure, Result.andThen_ok]
/-- A slice of written-out elements, of a new row. -/
theorem St_buildSlice {T E n : Nat} {ps : List (Nat × Operand)} {i : Inf} {pv : List (Nat × Value)} {cs : List Value} (hN : Nat.blt d N = true) (hp : evp env ps = some pv) (hu : tabLk tb.und T = some (.slice E)) (hi : tabLk tb.inf E = some i)
    (hn : Nat.ble (n * i.size) (2 ^ 24) = true) (hv : fillL (fun j => some (j * i.size, i.size)) ((List.replicate n i.zero).flatten) pv = some cs) (hz : i.zero.length = i.size)
    (h : ∀ b, St ρ N ((d, .slice (some ⟨b, 0, none⟩) n n) :: env) (cel false b E cs :: L) K) :
    St ρ N env L (Exec P Q ⟨some d, .buildSlice T n ps.toArray, ty, pos, aft, g⟩ K) :=
  St_run (α := Nat) (v := fun b => .slice (some ⟨b, 0, none⟩) n n) (M := fun b => cel false b E cs :: L) (by simpa using hN) (fun a w z y => by
    obtain ⟨zv, hzr, hc⟩ := run_zero (w := w) (tab_ok tb.inf_ok hi)
    have e1 : (Array.map (fun x => match x with | (i, x) => (i, a.eval x)) ps.toArray) = pv.toArray := by
      have := evp_ok z hp
      simp only [List.map_toArray]
      exact congrArg List.toArray this
    have hn' : n * i.size ≤ 2 ^ 24 := by simpa using hn
    have e0 : ∀ m, (Array.map (fun x => i.zero.toArray[x % i.zero.toArray.size]!) (Array.range (m * i.size))) = ((List.replicate m i.zero).flatten).toArray := by
      intro m
      apply Array.toList_inj.1
      apply List.ext_getElem?
      intro k
      simp only [Array.toList_map, Array.toList_range, List.getElem?_map]
      by_cases hk : k < m * i.size
      · rw [List.getElem?_range hk]
        have hpos : 0 < i.size := by rcases Nat.eq_zero_or_pos i.size with e | e
                                     · rw [e] at hk; omega
                                     · exact e
        have hlt : k % i.zero.length < i.zero.length := by rw [hz]; exact Nat.mod_lt _ hpos
        have key : ∀ m k, k < m * i.size → ((List.replicate m i.zero).flatten)[k]? = i.zero[k % i.size]? := by
          intro m
          induction m with
          | zero => intro k hk; omega
          | succ m ih =>
            intro k hk
            rw [List.replicate_succ, List.flatten_cons]
            by_cases hks : k < i.size
            · rw [List.getElem?_append_left (by omega), Nat.mod_eq_of_lt hks]
            · rw [List.getElem?_append_right (by omega), hz, ih _ (by rw [Nat.succ_mul] at hk; omega)]
              congr 1
              rw [Nat.mod_eq_sub_mod (by omega : k ≥ i.size)]
        have := key m k hk
        simp only [Option.map_some, List.size_toArray]
        rw [this, ← hz, List.getElem?_eq_getElem hlt]
        simp [hlt]
      · rw [List.getElem?_eq_none (by simpa using hk)]
        have : ((List.replicate m i.zero).flatten).length ≤ k := by simp [hz]; omega
        rw [List.getElem?_eq_none this]; rfl
    have e2 := fill_eq (place' := fun j => some (j * i.size, i.size)) (fun _ _ h => h) hv
    refine ⟨w.heap.size, w.alloc (.cells cs.toArray E), ?_, (y.alloc _).one_cel (by simp)⟩
    have q : ¬ n * i.size > 2 ^ 24 := by omega
    simp only [execOp, Instr.buildSlice, Sem.run_bind, run_und (tab_ok tb.und_ok hu), Result.andThen_ok, run_sizeOf (tab_ok tb.inf_ok hi), if_neg q, Sem.run_pure, e1]
    by_cases q0 : n * i.size = 0
    · have e3 : ((List.replicate n i.zero).flatten) = [] := by
        apply List.eq_nil_of_length_eq_zero
        simp [hz, q0]
      rw [e3] at e2
      simp only [if_pos q0, Sem.run_bind, Sem.run_pure, Result.andThen_ok]
      have e4 : (Array.map (fun x => (#[] : Array Value)[x % (#[] : Array Value).size]!) (Array.range (n * i.size))) = ([] : List Value).toArray := by simp [q0]
      rw [e4]
      simp only [e2, newRow, Sem.run_bind, Go.run_newObj, Sem.run_pure]
      rfl
    · simp only [if_neg q0, Sem.run_bind, hzr, Sem.run_pure, Result.andThen_ok, hc, e0 n, e2, newRow, Go.run_newObj]
      rfl) h
end
end Go.Proofs.YtfjnacakpeommaaDoor.SL
