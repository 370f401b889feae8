/- Steps of a walk: slices that grow, cut and made; bytes and texts. -/
import Derived.Test.YtfjnacakpeommaaDoorSlMore
import Derived.Laws.BytesString
namespace Go.Proofs.YtfjnacakpeommaaDoor.SL
open Go
set_option autoImplicit false
set_option linter.unusedVariables false
set_option linter.unusedSimpArgs false

variable {ρ : Rst} {N : Nat} {env : Env} {L L' : List HP} {P : Program} {ops : Array Oper} {Q : Exit → Act → World → Prop} {rest : List Oper}
  {K : Act → World → Prop} {w : World}

/-- A slice v of n elements of sz cells each, whose cells are cs; it owns its row from its head on. -/
def Sl (E sz : Nat) (v : Value) (n : Nat) (cs : List Value) : HP := fun h =>
  (v = .slice none 0 0 ∧ n = 0 ∧ cs = [] ∧ emp h) ∨
  ∃ (b cap : Nat) (pre rest : List Value), v = .slice (some ⟨b, pre.length, none⟩) n cap ∧ n ≤ cap ∧ (cap - n) * sz ≤ rest.length ∧ cs.length = n * sz ∧ cel false b E (pre ++ cs ++ rest) h
theorem Holds.sl {E sz n : Nat} {v : Value} {cs : List Value} (H : Holds ρ w (Sl E sz v n cs :: L)) :
    (v = .slice none 0 0 ∧ n = 0 ∧ cs = [] ∧ Holds ρ w L) ∨
    ∃ (b cap : Nat) (pre rest : List Value), v = .slice (some ⟨b, pre.length, none⟩) n cap ∧ n ≤ cap ∧ (cap - n) * sz ≤ rest.length ∧ cs.length = n * sz ∧ Holds ρ w (cel false b E (pre ++ cs ++ rest) :: L) := by
  obtain ⟨h, ⟨h1, h2, c, e, a, b2⟩, d⟩ := H.heap
  rcases a with ⟨e1, e2, e3, e4⟩ | ⟨b, cap, pre, rest, e1, e2, e3, e4, e5⟩
  · exact .inl ⟨e1, e2, e3, H.drop⟩
  · exact .inr ⟨b, cap, pre, rest, e1, e2, e3, e4, H.tape, H.os, H.output, h, ⟨h1, h2, c, e, e5, b2⟩, d⟩
theorem Holds.sl_nil {E sz : Nat} (H : Holds ρ w L) : Holds ρ w (Sl E sz (.slice none 0 0) 0 [] :: L) :=
  H.mono fun h x => ⟨E0, h, E0_Cmp h, rfl, .inl ⟨rfl, rfl, rfl, rfl⟩, x⟩
theorem Holds.sl_row {E sz b cap n : Nat} {pre cs rest : List Value} (H : Holds ρ w (cel false b E (pre ++ cs ++ rest) :: L)) (h1 : n ≤ cap) (h2 : (cap - n) * sz ≤ rest.length) (h3 : cs.length = n * sz) :
    Holds ρ w (Sl E sz (.slice (some ⟨b, pre.length, none⟩) n cap) n cs :: L) :=
  H.mono fun _ x => star_mono (fun _ a => .inr ⟨b, cap, pre, rest, rfl, h1, h2, h3, a⟩) (fun _ a => a) x
theorem St_slNil {E sz : Nat} {G : Act → World → Prop} (h : St ρ N env (Sl E sz (.slice none 0 0) 0 [] :: L) G) : St ρ N env L G := fun a w x y => h a w x y.sl_nil
/-- A row that has just been made, as a slice. -/
theorem St_slRow {E sz b n : Nat} {cs : List Value} {G : Act → World → Prop} (hc : Has L (cel false b E cs) L') (h3 : cs.length = n * sz)
    (h : St ρ N env (Sl E sz (.slice (some ⟨b, 0, none⟩) n n) n cs :: L') G) : St ρ N env L G := fun a w x y => by
  have H := y.has hc
  exact h a w x (Holds.sl_row (pre := []) (cs := cs) (rest := []) (by simpa using H) (Nat.le_refl _) (by simp) h3)
theorem St_slOpen {E sz n : Nat} {v : Value} {cs : List Value} {G : Act → World → Prop} (hc : Has L (Sl E sz v n cs) L')
    (h1 : v = .slice none 0 0 → n = 0 → cs = [] → St ρ N env L' G)
    (h2 : ∀ (b cap : Nat) (pre rest : List Value), v = .slice (some ⟨b, pre.length, none⟩) n cap → n ≤ cap → (cap - n) * sz ≤ rest.length → cs.length = n * sz → St ρ N env (cel false b E (pre ++ cs ++ rest) :: L') G) : St ρ N env L G := fun a w x y => by
  rcases (y.has hc).sl with ⟨e1, e2, e3, H⟩ | ⟨b, cap, pre, rest, e1, e2, e3, e4, H⟩
  · exact h1 e1 e2 e3 a w x H
  · exact h2 b cap pre rest e1 e2 e3 e4 a w x H

/-- What can be read: a slice's or a text's first cells. -/
def Src (P : Program) (ρ : Rst) (L : List HP) (sz : Nat) (x : Value) (m : Nat) (ds : List Value) : Prop :=
  ds.length = m * sz ∧ ∀ w, Holds ρ w L → (Builtin.lenOf x).run P w = .ok m w ∧ (Builtin.firstCells sz m x).run P w = .ok ds.toArray w
theorem Src.nil {sz c : Nat} : Src P ρ L sz (.slice none 0 c) 0 [] := ⟨by simp, fun w _ => ⟨rfl, rfl⟩⟩
theorem Src.row {sz b off n c T : Nat} {r : Bool} {cs ds : List Value} (hc : Has L (cel r b T cs) L') (hl : off + n * sz ≤ cs.length) (hd : (cs.drop off).take (n * sz) = ds) :
    Src P ρ L sz (.slice (some ⟨b, off, none⟩) n c) n ds :=
  ⟨by rw [← hd]; simp; omega, fun w H => by
    obtain ⟨fr, hb, hf⟩ := (H.has hc).rowOf
    exact ⟨rfl, by simp only [Builtin.firstCells]; rw [run_loadCells hb hl, hd]⟩⟩
theorem Src.sl {E sz n : Nat} {v : Value} {cs : List Value} (hc : Has L (Sl E sz v n cs) L') : (∃ w, Holds ρ w L) → Src P ρ L sz v n cs := by
  rintro ⟨w0, H0⟩
  refine ⟨?_, fun w H => ?_⟩
  · rcases (H0.has hc).sl with ⟨e1, e2, e3, H⟩ | ⟨b, cap, pre, rest, e1, e2, e3, e4, H⟩
    · rw [e2, e3]; simp
    · exact e4
  · rcases (H.has hc).sl with ⟨rfl, rfl, rfl, H⟩ | ⟨b, cap, pre, rest, rfl, e2, e3, e4, H⟩
    · exact ⟨rfl, rfl⟩
    · obtain ⟨fr, hb, hf⟩ := H.rowOf
      refine ⟨rfl, ?_⟩
      simp only [Builtin.firstCells]
      rw [run_loadCells hb (by simp; omega)]
      simp [← e4]
theorem Src.str {l : List UInt8} : Src P ρ L 1 (str l) l.length (Lib.byteCells l) :=
  ⟨by simp [Lib.byteCells], fun w _ => ⟨rfl, by
    simp only [Builtin.firstCells]
    rw [extract_str]
    simp only [List.drop_zero, Nat.sub_zero, List.take_length]
    simp [Lib.byteCells]⟩⟩

theorem byteCells_ok (l : List UInt8) : (Lib.byteCells l).all Value.oneCell' = true := by simp [Lib.byteCells, Value.oneCell']

theorem growBy_le : ∀ (r n c : Nat), c < n → Builtin.growBy n r c ≤ 2 * n + 1000
  | 0, n, c, h => by simp only [Builtin.growBy]; omega
  | r + 1, n, c, h => by
    simp only [Builtin.growBy]
    rw [if_neg (by omega)]
    by_cases q : c + (c + 768) / 4 < n
    · exact growBy_le r n _ q
    · cases r with
      | zero => simp only [Builtin.growBy]; omega
      | succ r => simp only [Builtin.growBy]; rw [if_pos (by omega)]; omega
theorem nextcap_le {n c : Nat} (h : c < n) : Builtin.nextslicecap n c ≤ 2 * n + 1000 := by
  unfold Builtin.nextslicecap
  split
  · omega
  · split
    · omega
    · exact growBy_le 4 n c h

def sliceOrStr : TypeDesc → Bool
  | .slice _ | .string => true
  | _ => false
theorem run_appendSl {E sz n m : Nat} {T U ty : TypeId} {v x : Value} {cs ds : List Value} {i : Inf} {d : TypeDesc} (hT : P.underlying T = some (.slice E)) (hU : P.underlying U = some d) (hd : sliceOrStr d = true)
    (hi : InfOk P E i) (hs : i.size = sz) (hz : i.zero.length = sz) (hbz : i.bytes ≠ 0) (H : Holds ρ w (Sl E sz v n cs :: L)) (hsrc : Src P ρ (Sl E sz v n cs :: L) sz x m ds) (hok : ds.all Value.oneCell' = true)
    (hb : (2 * (n + m) + 1000) * i.bytes ≤ 2 ^ 48) :
    ∃ v' w', (Builtin.append_ [T, U].toArray ty [v, x].toArray).run P w = .ok v' w' ∧ Holds ρ w' (Sl E sz v' (n + m) (cs ++ ds) :: L) := by
  have hcase : (∃ e, d = .slice e) ∨ d = .string := by
    cases d <;> first | exact .inl ⟨_, rfl⟩ | exact .inr rfl | cases hd
  rcases hcase with ⟨e0, rfl⟩ | rfl
  all_goals
    obtain ⟨hl, hr⟩ := hsrc
    obtain ⟨hlen, hfc⟩ := hr w H
    obtain ⟨jb, hjb, hje⟩ := run_bytes (w := w) hi
    have hzeros : ∀ (c : Nat) (zv : Value), zv.cells = i.zero.toArray → (Builtin.zeroCells zv.cells c).toList.length = c * sz := by
      intro c zv hc
      simp [Builtin.zeroCells, hc, hz]
    -- the way that makes a new row
    have grow : ∀ (base : Option Addr) (cap : Nat), v = .slice base n cap → cs.length = n * sz → ¬ n + m ≤ cap → (Builtin.firstCells sz n v).run P w = .ok cs.toArray w →
        ∃ v' w', (Builtin.append_ [T, U].toArray ty [v, x].toArray).run P w = .ok v' w' ∧ Holds ρ w' (Sl E sz v' (n + m) (cs ++ ds) :: L) := by
      rintro base cap rfl hcs hcap hold
      obtain ⟨q, hq⟩ : ∃ q, (Question.appendCap (n + m) cap E).cut (w.tape w.drawn (.appendCap (n + m) cap E)) = n + m + q := ⟨_, rfl⟩
      have hD : Holds ρ { w with drawn := w.drawn + 1 } L := (H.drop).drew
      obtain ⟨zv, hzv, hzc⟩ := run_zero (w := { w with drawn := w.drawn + 1 }) hi
      obtain ⟨jb', hjb', hje'⟩ := run_bytes (w := { w with drawn := w.drawn + 1 }) hi
      have hH2 : Holds ρ { w with drawn := w.drawn + 1 } (Sl E sz (.slice base n cap) n cs :: L) := H.drew
      obtain ⟨_, hfc2⟩ := hr _ hH2
      have hold2 : (Builtin.firstCells sz n (.slice base n cap)).run P { w with drawn := w.drawn + 1 } = .ok cs.toArray { w with drawn := w.drawn + 1 } := by
        rcases hH2.sl with ⟨e1, rfl, rfl, _⟩ | ⟨b, cap', pre, rest, e1, e2, e3, e4, H'⟩
        · cases e1; rfl
        · cases e1
          obtain ⟨fr, hb', hf⟩ := H'.rowOf
          simp only [Builtin.firstCells]
          rw [run_loadCells hb' (by simp; omega)]
          simp [← e4]
      refine ⟨.slice (some ⟨w.heap.size, 0, none⟩) (n + m) (n + m + q), World.alloc { w with drawn := w.drawn + 1 } (.cells (cs ++ ds ++ (Builtin.zeroCells zv.cells q).toList).toArray E), ?_, ?_⟩
      · have hcap2 : ¬ (Builtin.nextslicecap (n + m) cap * jb.bytes > 2 ^ 48) := by
          rw [hje]
          have h1 : Builtin.nextslicecap (n + m) cap ≤ 2 * (n + m) + 1000 := nextcap_le (by omega)
          have h2 := Nat.mul_le_mul_right i.bytes h1
          omega
        have hq0 : jb.bytes ≠ 0 := by rw [hje]; exact hbz
        have hred : ∀ (A B : Sem Value), (if ((n + m : Nat) : Int) > IntKind.i64.max ∧ (false = true ∨ jb.bytes = 0) then A else B) = B := fun A B => by
          rw [if_neg (by rintro ⟨_, h | h⟩ <;> simp_all)]
        simp only [Builtin.append_, List.getElem?_toArray, List.getElem?_cons_zero, List.getElem?_cons_succ, Sem.run_bind, run_und hT, run_und hU, Result.andThen_ok, run_sizeOf hi, hs, Sem.run_pure]
        simp only [Bool.false_eq_true, if_false, hlen, Result.andThen_ok, if_neg hcap, Sem.run_bind, hjb, Bool.not_false, if_true, hfc, false_or]
        have hgt : (((n + m : Nat) : Int) > IntKind.i64.max ∧ jb.bytes = 0) = False := by simp [hq0]
        simp only [hgt, if_false, Sem.run_bind, hjb, Result.andThen_ok, if_neg hcap2, Go.run_choose, Question.forced, Bool.false_eq_true, hq, hjb', Go.run_askRoom, hold2, hfc2, hzv, Nat.add_sub_cancel_left, newRow, Go.run_newObj, Sem.run_pure]
        have ea : cs.toArray ++ ds.toArray ++ Builtin.zeroCells zv.cells q = (cs ++ ds ++ (Builtin.zeroCells zv.cells q).toList).toArray := by simp
        rw [ea]
        rfl
      · have := (hD.alloc (.cells (cs ++ ds ++ (Builtin.zeroCells zv.cells q).toList).toArray E)).one_cel (by simp)
        exact Holds.sl_row (pre := []) (by simpa using this) (by omega) (by rw [hzeros q zv hzc]; apply Nat.le_of_eq; congr 1; omega) (by simp [hcs, hl, Nat.add_mul])
    rcases H.sl with ⟨rfl, rfl, rfl, H'⟩ | ⟨b, cap, pre, rest, rfl, e2, e3, e4, H'⟩
    · by_cases hm : m = 0
      · subst hm
        have : ds = [] := by apply List.eq_nil_of_length_eq_zero; omega
        subst this
        refine ⟨.slice none 0 0, w, ?_, H⟩
        simp only [Builtin.append_, List.getElem?_toArray, List.getElem?_cons_zero, List.getElem?_cons_succ, Sem.run_bind, run_und hT, run_und hU, Result.andThen_ok, run_sizeOf hi, hs, Sem.run_pure]
        simp [hlen, hfc]
      · exact grow none 0 rfl (by simp) (by omega) rfl
    · by_cases hcap : n + m ≤ cap
      · have hm : m * sz ≤ rest.length := Nat.le_trans (Nat.mul_le_mul_right sz (by omega)) e3
        obtain ⟨w', hst, H2⟩ := run_storeCells (P := P) (off := pre.length + n * sz) ds _ 0 w H' hok (by simp [hl, e4]; omega)
        refine ⟨.slice (some ⟨b, pre.length, none⟩) (n + m) cap, w', ?_, ?_⟩
        · simp only [Builtin.append_, List.getElem?_toArray, List.getElem?_cons_zero, List.getElem?_cons_succ, Sem.run_bind, run_und hT, run_und hU, Result.andThen_ok, run_sizeOf hi, hs, Sem.run_pure]
          simp only [Bool.false_eq_true, if_false, hlen, Result.andThen_ok, if_pos hcap, Sem.run_bind, Bool.not_false, if_true, hfc, Addr.add_none]
          simp [hst]
        · have e : setR (pre ++ cs ++ rest) (pre.length + n * sz + 0) ds = pre ++ (cs ++ ds) ++ rest.drop (m * sz) := by
            unfold setR
            have h1 : (pre ++ cs ++ rest).take (pre.length + n * sz + 0) = pre ++ cs := by
              rw [List.take_append_of_le_length (by simp [e4]), List.take_of_length_le (by simp [e4])]
            have h2 : (pre ++ cs ++ rest).drop (pre.length + n * sz + 0 + ds.length) = rest.drop (m * sz) := by
              rw [List.drop_append, List.drop_of_length_le (by simp [e4])]
              simp only [List.nil_append, List.length_append, e4, hl]
              congr 1
              omega
            rw [h1, h2]
            simp
          rw [e] at H2
          exact H2.sl_row hcap (by simp only [List.length_drop]; have : (cap - (n + m)) * sz = (cap - n) * sz - m * sz := by rw [← Nat.sub_mul]; congr 1; omega
                                   omega) (by simp [e4, hl, Nat.add_mul])
      · refine grow _ cap rfl e4 hcap ?_
        obtain ⟨fr, hb', hf⟩ := H'.rowOf
        simp only [Builtin.firstCells]
        rw [run_loadCells hb' (by simp; omega)]
        simp [← e4]

section
variable {d : Nat} {dd : Option Nat} {op : Op} {ty : TypeId} {pos : String} {aft : Array Edge} {g : Option (Nat × Bool)} (tb : Tabs P)
theorem St_append {E sz n m T U : Nat} {x y : Operand} {v u : Value} {cs ds : List Value} {i : Inf} {D : TypeDesc} (hN : Nat.blt d N = true) (hx : ev env x = some v) (hy : ev env y = some u)
    (hT : tabLk tb.und T = some (.slice E)) (hU : tabLk tb.und U = some D) (hD : sliceOrStr D = true) (hi : tabLk tb.inf E = some i) (hz : (Nat.beq i.size sz && Nat.beq i.zero.length sz && Nat.blt 0 i.bytes) = true)
    (hc : Has L (Sl E sz v n cs) L') (hsrc : (∃ w, Holds ρ w (Sl E sz v n cs :: L')) → Src P ρ (Sl E sz v n cs :: L') sz u m ds) (hok : ds.all Value.oneCell' = true) (hb : (2 * (n + m) + 1000) * i.bytes ≤ 2 ^ 48)
    (h : ∀ v', St ρ N ((d, v') :: env) (Sl E sz v' (n + m) (cs ++ ds) :: L') K) :
    St ρ N env L (Exec P Q ⟨some d, .call { callee := .builtin .append, args := [x, y].toArray, argTypes := [T, U].toArray }, ty, pos, aft, g⟩ K) :=
  St_run (α := Value) (v := fun v' => v') (M := fun v' => Sl E sz v' (n + m) (cs ++ ds) :: L') (by simpa using hN) (fun a w z H => by
    simp only [Bool.and_eq_true, Nat.blt_eq] at hz
    have H1 := H.has hc
    obtain ⟨v', w', e, H2⟩ := run_appendSl (ty := ty) (tab_ok tb.und_ok hT) (tab_ok tb.und_ok hU) hD (tab_ok tb.inf_ok hi) (Nat.eq_of_beq_eq_true hz.1.1) (Nat.eq_of_beq_eq_true hz.1.2) (by omega) H1 (hsrc ⟨w, H1⟩) hok hb
    refine ⟨v', w', ?_, H2⟩
    obtain ⟨cst, er⟩ := run_resolveB (P := P) (w := w) (ty := ty) (b := .append) (tys := [T, U].toArray) (a := a) (xs := [x, y]) (vs := [v, u]) (by simp [ev_ok z hx, ev_ok z hy])
    simp only [execOp, Sem.run_bind, er, Result.andThen_ok, invoke, builtin, e, Sem.run_pure]) h

/-! Cut slices -/
theorem Rd_sliceTo {T E n c : Nat} {x hi : Operand} {A : Option Addr} {k : IntKind} {m : Int} {i : Inf} (hx : ev env x = some (.slice A n c)) (hh : ev env hi = some (.int k m)) (hu : tabLk tb.und T = some (.slice E)) (hi' : tabLk tb.inf E = some i)
    (hb : 0 ≤ m ∧ m ≤ (c : Int)) : Rd P ρ N env L ⟨dd, .slice T x none (some hi) none, ty, pos, aft, g⟩ (.slice A m.toNat c) :=
  fun a w z _ => by
    have e : (if c = 0 then A else A.map (·.add (0 * i.size))) = A := by
      split
      · rfl
      · cases A <;> simp [Addr.add]
    simp only [execOp, Instr.sliceAt, Option.map_some, Option.map_none, ev_ok z hx, ev_ok z hh, Sem.run_bind, run_und (tab_ok tb.und_ok hu), Result.andThen_ok, Instr.slice, Instr.sliceBounds, Instr.sliceBound, run_asIntOf, Sem.run_pure, if_pos hb,
      run_sizeOf (tab_ok tb.inf_ok hi'), e, Nat.sub_zero]
theorem Rd_sliceTo3 {T E n c : Nat} {x hi mx : Operand} {A : Option Addr} {k : IntKind} {m : Int} {i : Inf} (hx : ev env x = some (.slice A n c)) (hh : ev env hi = some (.int k m)) (hm : ev env mx = some (.int k m)) (hu : tabLk tb.und T = some (.slice E)) (hi' : tabLk tb.inf E = some i)
    (hb : 0 ≤ m ∧ m ≤ (c : Int)) : Rd P ρ N env L ⟨dd, .slice T x none (some hi) (some mx), ty, pos, aft, g⟩ (.slice A m.toNat m.toNat) :=
  fun a w z _ => by
    have e : (if m.toNat = 0 then A else A.map (·.add (0 * i.size))) = A := by
      split
      · rfl
      · cases A <;> simp [Addr.add]
    have hb2 : 0 ≤ m ∧ m ≤ ((m.toNat : Nat) : Int) := by omega
    simp only [execOp, Instr.sliceAt, Option.map_some, Option.map_none, ev_ok z hx, ev_ok z hh, ev_ok z hm, Sem.run_bind, run_und (tab_ok tb.und_ok hu), Result.andThen_ok, Instr.slice, Instr.sliceBounds, Instr.sliceBound, run_asIntOf, Sem.run_pure, if_pos hb, if_pos hb2,
      run_sizeOf (tab_ok tb.inf_ok hi'), e, Nat.sub_zero]
theorem Rd_sliceFrom {T E n c : Nat} {x lo : Operand} {A : Option Addr} {k : IntKind} {m : Int} {i : Inf} (hx : ev env x = some (.slice A n c)) (hh : ev env lo = some (.int k m)) (hu : tabLk tb.und T = some (.slice E)) (hi' : tabLk tb.inf E = some i)
    (hb : 0 ≤ m ∧ m ≤ (n : Int)) : Rd P ρ N env L ⟨dd, .slice T x (some lo) none none, ty, pos, aft, g⟩ (.slice (if c = m.toNat then A else A.map (·.add (m.toNat * i.size))) (n - m.toNat) (c - m.toNat)) :=
  fun a w z _ => by
    simp only [execOp, Instr.sliceAt, Option.map_some, Option.map_none, ev_ok z hx, ev_ok z hh, Sem.run_bind, run_und (tab_ok tb.und_ok hu), Result.andThen_ok, Instr.slice, Instr.sliceBounds, Instr.sliceBound, run_asIntOf, Sem.run_pure, Option.isSome_none, Bool.false_eq_true, if_false, if_pos hb,
      run_sizeOf (tab_ok tb.inf_ok hi')]

/-! make -/
theorem St_makeSlice {T E : Nat} {x y : Operand} {n : Int} {i : Inf} (hN : Nat.blt d N = true) (hx : ev env x = some (.int .i64 n)) (hy : ev env y = some (.int .i64 n)) (hT : tabLk tb.und T = some (.slice E)) (hi : tabLk tb.inf E = some i)
    (hz : i.zero.length = i.size) (hb : 0 ≤ n ∧ i.bytes * n ≤ 2 ^ 47) (hs : i.size ≠ 0) (hn : n ≤ 9223372036854775807)
    (h : ∀ b, St ρ N ((d, .slice (some ⟨b, 0, none⟩) n.toNat n.toNat) :: env) (cel false b E ((List.replicate n.toNat i.zero).flatten) :: L) K) :
    St ρ N env L (Exec P Q ⟨some d, .makeSlice T x y, ty, pos, aft, g⟩ K) :=
  St_run (α := Nat) (v := fun b => .slice (some ⟨b, 0, none⟩) n.toNat n.toNat) (M := fun b => cel false b E ((List.replicate n.toNat i.zero).flatten) :: L) (by simpa using hN) (fun a w z H => by
    obtain ⟨zv, hzr, hc⟩ := run_zero (w := w) (tab_ok tb.inf_ok hi)
    obtain ⟨jb, hjb, hje⟩ := run_bytes (w := w) (tab_ok tb.inf_ok hi)
    have hw : IntKind.i64.wrap n = n := IntWalk.i64_in _ (by omega)
    have e0 : (Array.map (fun x => (if n.toNat * i.size = 0 then (#[] : Array Value) else i.zero.toArray)[x % (if n.toNat * i.size = 0 then (#[] : Array Value) else i.zero.toArray).size]!) (Array.range (n.toNat * i.size))) = ((List.replicate n.toNat i.zero).flatten).toArray := by
      by_cases q0 : n.toNat * i.size = 0
      · have : n.toNat = 0 := by rcases Nat.mul_eq_zero.1 q0 with h | h
                                 · exact h
                                 · exact absurd h hs
        simp [this]
      · simp only [if_neg q0]
        apply Array.toList_inj.1
        apply List.ext_getElem?
        intro k
        simp only [Array.toList_map, Array.toList_range, List.getElem?_map]
        by_cases hk : k < n.toNat * i.size
        · rw [List.getElem?_range hk]
          have hlt : k % i.zero.length < i.zero.length := by rw [hz]; exact Nat.mod_lt _ (by omega)
          have key : ∀ m k, k < m * i.size → ((List.replicate m i.zero).flatten)[k]? = i.zero[k % i.size]? := by
            intro m
            induction m with
            | zero => intro k hk; omega
            | succ m ih =>
              intro k hk
              rw [List.replicate_succ, List.flatten_cons]
              by_cases hks : k < i.size
              · rw [List.getElem?_append_left (by omega), Nat.mod_eq_of_lt hks]
              · rw [List.getElem?_append_right (by omega), hz, ih _ (by rw [Nat.succ_mul] at hk; omega)]
                congr 1
                rw [Nat.mod_eq_sub_mod (by omega : k ≥ i.size)]
          have := key n.toNat k hk
          simp only [Option.map_some, List.size_toArray]
          rw [this, ← hz, List.getElem?_eq_getElem hlt]
          simp [hlt]
        · rw [List.getElem?_eq_none (by simpa using hk)]
          have : ((List.replicate n.toNat i.zero).flatten).length ≤ k := by simp [hz]; omega
          rw [List.getElem?_eq_none this]; rfl
    refine ⟨w.heap.size, w.alloc (.cells ((List.replicate n.toNat i.zero).flatten).toArray E), ?_, (H.alloc _).one_cel (by simp)⟩
    have h1 : (decide (n < 0) || decide ((i.bytes : Int) * n > 2 ^ 48)) = false := by simp; omega
    have h2 : (decide (n < 0)) = false := by simp; omega
    have h3 : (decide ((2 : Int) ^ 48 < (i.bytes : Int) * n)) = false := by simp; omega
    simp only [execOp, Instr.makeSlice, ev_ok z hx, ev_ok z hy, Sem.run_bind, run_und (tab_ok tb.und_ok hT), Result.andThen_ok, asInt, run_asIntOf, Sem.run_pure, hjb, hje, hw, h1, h2, h3, Bool.false_or, Int.lt_irrefl, decide_false, Bool.or_self, Bool.false_eq_true, if_false,
      Go.run_askRoom, run_sizeOf (tab_ok tb.inf_ok hi), gt_iff_lt, h3, Bool.or_false, Bool.false_eq_true]
    by_cases q0 : n.toNat * i.size = 0
    · simp only [if_pos q0] at e0
      simp only [if_pos q0, Sem.run_bind, Sem.run_pure, Result.andThen_ok, e0, newRow, Go.run_newObj]
      rfl
    · simp only [if_neg q0] at e0
      simp only [if_neg q0, Sem.run_bind, hzr, Sem.run_pure, Result.andThen_ok, hc, e0, newRow, Go.run_newObj]
      rfl) h

/-! Bytes and texts -/
theorem foldl_push (l : List UInt8) : ∀ (s : ByteArray), (l.map fun c => (c.toNat : Int)).foldl (fun (r : ByteArray) n => r.push (UInt8.ofNat n.toNat)) s = ⟨s.data ++ l.toArray⟩ := by
  induction l with
  | nil => intro s; simp
  | cons c l ih =>
    intro s
    rw [List.map_cons, List.foldl_cons, ih]
    simp [ByteArray.push]
theorem Rd_convBS {S T E : Nat} {x : Operand} {v : Value} {m : Nat} {l : List UInt8} (hx : ev env x = some v) (hu : tabLk tb.und S = some (.slice E)) (he : tabLk tb.und E = some (.int .u8)) (hv : tabLk tb.und T = some .string)
    (hsl : ∃ A n c, v = .slice A n c) (hsrc : (∃ w, Holds ρ w L) → Src P ρ L 1 v m (Lib.byteCells l)) : Rd P ρ N env L ⟨dd, .convert S T x, ty, pos, aft, g⟩ (str l) :=
  fun a w z H => by
    obtain ⟨A, n, c, rfl⟩ := hsl
    obtain ⟨h1, h2⟩ := hsrc ⟨w, H⟩
    obtain ⟨h3, h4⟩ := h2 w H
    have hn : n = m := by simpa [Builtin.lenOf] using h3
    subst hn
    simp only [execOp, ev_ok z hx, Sem.run_bind]
    rw [run_convert_bytes_string w S T E A n c (tab_ok tb.und_ok hu) (tab_ok tb.und_ok he) (tab_ok tb.und_ok hv)]
    cases A with
    | none =>
      simp only [Builtin.firstCells, Sem.run_pure, Result.ok.injEq, and_true] at h4
      have hl : l = [] := by
        have := congrArg Array.size h4
        simp [Lib.byteCells] at this
        exact List.eq_nil_of_length_eq_zero this.symm
      subst hl
      simp only [Conv.bytesToString, Sem.run_pure, Result.andThen_ok]
      rfl
    | some A =>
      simp only [Builtin.firstCells, Nat.mul_one] at h4
      have h5 : (loadCells A n).run P w = .ok ((l.map fun c => (c.toNat : Int)).map (Value.int .u8)).toArray w := by
        rw [h4]; simp [Lib.byteCells]
      rw [run_bytesToString w A n c _ h5, foldl_push]
      simp only [Result.andThen_ok, Sem.run_pure]
      simp
end
end Go.Proofs.YtfjnacakpeommaaDoor.SL
