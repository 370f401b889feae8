/- Pointers held against each other, unsafe.Pointer, the entry of no code, a text over a row of bytes: what strings.Builder asks. -/
import Derived.Test.YtfjnacakpeommaaDoorSlNat
import Derived.Lib.Builder
import Derived.Lib.UnsafeStr
import Derived.Laws.Externs
namespace Go.Proofs.YtfjnacakpeommaaDoor.SL
open Go
set_option autoImplicit false
set_option linter.unusedVariables false
set_option linter.unusedSimpArgs false
variable {ρ : Rst} {N : Nat} {env : Env} {L L' : List HP} {P : Program} {Q : Exit → Act → World → Prop} {K : Act → World → Prop}
variable {d : Nat} {dd : Option Nat} {op : Op} {ty : TypeId} {pos : String} {aft : Array Edge} {g : Option (Nat × Bool)} (tb : Tabs P)

theorem run_equal_nil {w : World} {T e : TypeId} (A : Option Addr) (hT : P.underlying T = some (.pointer e)) : (Op.equal T (.pointer A) (.pointer none)).run P w = .ok A.isNone w := by
  have h : ∀ k : Nat, (Op.equalIn (k + 1) T (.pointer A) (.pointer none)).run P w = .ok A.isNone w := fun k => by
    cases A <;> simp [Op.equalIn, run_underlying hT]
  simp [Op.equal, Op.maxDepth, h 9999]
theorem Rd_ptrEqNil {T U e : TypeId} {x y : Operand} {A : Option Addr} (hx : ev env x = some (.pointer A)) (hy : ev env y = some (.pointer none)) (hT : tabLk tb.und T = some (.pointer e)) :
    Rd P ρ N env L ⟨dd, .binOp .eql T x y U, ty, pos, aft, g⟩ (.bool A.isNone) :=
  fun a w z _ => by
    have h := run_equal_nil (w := w) A (tab_ok tb.und_ok hT)
    cases A <;> simp [execOp, ev_ok z hx, ev_ok z hy, eqGuard, binOp, h]
theorem Rd_ptrNeNil {T U e : TypeId} {x y : Operand} {A : Option Addr} (hx : ev env x = some (.pointer A)) (hy : ev env y = some (.pointer none)) (hT : tabLk tb.und T = some (.pointer e)) :
    Rd P ρ N env L ⟨dd, .binOp .neq T x y U, ty, pos, aft, g⟩ (.bool (!A.isNone)) :=
  fun a w z _ => by
    have h := run_equal_nil (w := w) A (tab_ok tb.und_ok hT)
    cases A <;> simp [execOp, ev_ok z hx, ev_ok z hy, eqGuard, binOp, h]
theorem Rd_nilEqNil {T U e : TypeId} {x y : Operand} (hx : ev env x = some (.pointer none)) (hy : ev env y = some (.pointer none)) (hT : tabLk tb.und T = some (.pointer e)) :
    Rd P ρ N env L ⟨dd, .binOp .eql T x y U, ty, pos, aft, g⟩ (.bool true) := Rd_ptrEqNil tb hx hy hT
theorem Rd_ptrEqNil' {T U e : TypeId} {x y : Operand} {A : Addr} (hx : ev env x = some (.pointer (some A))) (hy : ev env y = some (.pointer none)) (hT : tabLk tb.und T = some (.pointer e)) :
    Rd P ρ N env L ⟨dd, .binOp .eql T x y U, ty, pos, aft, g⟩ (.bool false) := Rd_ptrEqNil tb hx hy hT
theorem Rd_nilNeNil {T U e : TypeId} {x y : Operand} (hx : ev env x = some (.pointer none)) (hy : ev env y = some (.pointer none)) (hT : tabLk tb.und T = some (.pointer e)) :
    Rd P ρ N env L ⟨dd, .binOp .neq T x y U, ty, pos, aft, g⟩ (.bool false) := Rd_ptrNeNil tb hx hy hT
theorem Rd_ptrNeNil' {T U e : TypeId} {x y : Operand} {A : Addr} (hx : ev env x = some (.pointer (some A))) (hy : ev env y = some (.pointer none)) (hT : tabLk tb.und T = some (.pointer e)) :
    Rd P ρ N env L ⟨dd, .binOp .neq T x y U, ty, pos, aft, g⟩ (.bool true) := Rd_ptrNeNil tb hx hy hT
theorem Rd_ptrNeSame {T U e : TypeId} {x y : Operand} {A : Addr} {i : Inf} (hx : ev env x = some (.pointer (some A))) (hy : ev env y = some (.pointer (some A))) (hT : tabLk tb.und T = some (.pointer e)) (hi : tabLk tb.inf e = some i) :
    Rd P ρ N env L ⟨dd, .binOp .neq T x y U, ty, pos, aft, g⟩ (.bool false) :=
  fun a w z _ => by
    obtain ⟨j, z', hj, _⟩ := (tab_ok tb.inf_ok hi).info
    have h := Lib.run_neq_ptr_same w A (tab_ok tb.und_ok hT) hj
    simp [execOp, ev_ok z hx, ev_ok z hy, eqGuard, h]
theorem Rd_toUnsafe {S T e b off T' : Nat} {r : Bool} {x : Operand} {cs : List Value} {i : Inf} (hx : ev env x = some (.pointer (some ⟨b, off, none⟩))) (hS : tabLk tb.und S = some (.pointer e)) (hT : tabLk tb.und T = some .unsafePointer)
    (hi : tabLk tb.inf e = some i) (h0 : Nat.blt 0 i.size = true) (hc : Has L (cel r b T' cs) L') (hl : off < cs.length) : Rd P ρ N env L ⟨dd, .convert S T x, ty, pos, aft, g⟩ (.pointer (some ⟨b, off, none⟩)) :=
  fun a w z y => by
    obtain ⟨fr, hb, hf⟩ := (y.has hc).rowOf
    obtain ⟨j, z', hj, hs, _⟩ := (tab_ok tb.inf_ok hi).info
    have hsh : w.shape? b = some (T', cs.length) := by simp [World.shape?, hb]
    have h0' : 0 < i.size := by simpa using h0
    have h := Lib.run_to_unsafe w ⟨b, off, none⟩ (tab_ok tb.und_ok hS) (tab_ok tb.und_ok hT) hj (by omega) hsh hl
    simp [execOp, ev_ok z hx, h]
theorem Rd_fromUnsafe {S T e b off T' : Nat} {r : Bool} {x : Operand} {cs : List Value} {i : Inf} (hx : ev env x = some (.pointer (some ⟨b, off, none⟩))) (hS : tabLk tb.und S = some .unsafePointer) (hT : tabLk tb.und T = some (.pointer e))
    (hi : tabLk tb.inf e = some i) (hc : Has L (cel r b T' cs) L') (hl : liesAt P P.depth T' (cs.length / P.cellsOf T') off e 1 = true) : Rd P ρ N env L ⟨dd, .convert S T x, ty, pos, aft, g⟩ (.pointer (some ⟨b, off, none⟩)) :=
  fun a w z y => by
    obtain ⟨fr, hb, hf⟩ := (y.has hc).rowOf
    obtain ⟨j, z', hj, hs, _⟩ := (tab_ok tb.inf_ok hi).info
    have hsh : w.shape? b = some (T', cs.length) := by simp [World.shape?, hb]
    have h := Lib.run_from_unsafe w ⟨b, off, none⟩ (tab_ok tb.und_ok hS) (tab_ok tb.und_ok hT) hj hsh hl
    simp [execOp, ev_ok z hx, h]
/-- A function of the model's own that only answers. -/
theorem Rd_extern {f : FuncId} {fn : Func} {xs : List Operand} {tys : Array TypeId} {vs : List Value} {e : Array Value → Sem Value} {v : Value} (ha : evs env xs = some vs) (hf : P.funcs[f]? = some fn) (hname : (fn.name == "runtime.NumGoroutine") = false)
    (hb : fn.body.isNone = true) (hn : Extern.findNext fn = none) (he : Extern.find fn = some e) (hv : ∀ w, (e vs.toArray).run P w = .ok v w) :
    Rd P ρ N env L ⟨dd, .call { callee := .value (.func f), args := xs.toArray, argTypes := tys }, ty, pos, aft, g⟩ v :=
  fun a w z y => by
    have e1 : xs.toArray.map a.eval = vs.toArray := by simp [evs_ok z ha]
    simp only [execOp, resolve, Act.eval, Deferred.ofValue, Sem.run_bind, Sem.run_pure, Result.andThen_ok, invoke]
    rw [e1, run_callFunc_extern hf hname hb hn he]
    have e2 : (#[] ++ vs.toArray ++ #[] : Array Value) = vs.toArray := by simp
    rw [e2, hv w]
    rfl

/-- An owned slice is a slice. -/
theorem St_slIs {E sz n : Nat} {v : Value} {cs : List Value} {G : Act → World → Prop} (hc : Has L (Sl E sz v n cs) L') (h : ∀ A c, v = .slice A n c → St ρ N env L G) : St ρ N env L G := fun a w x y => by
  rcases (y.has hc).sl with ⟨e1, e2, e3, H⟩ | ⟨b, cap, pre, rest, e1, e2, e3, e4, H⟩
  · exact h none 0 (by rw [e1, e2]) a w x y
  · exact h _ _ e1 a w x y

/-! A text over a row -/
theorem liesAt_off {e : TypeId} (hc : P.cellsOf e = 1) (count off n : Nat) (hn : off + n ≤ count) : liesAt P P.depth e count off e n = true := by
  have hd : P.depth = (2 * (P.types.size + Made.depth) + 1) + 1 := rfl
  rw [hd]
  simp only [liesAt, Bool.or_eq_true]
  left
  rw [hd]
  simp [rowAt, hc, hn, sameLayout, Nat.mod_one]
theorem run_unsafeString_off {w : World} {pt it ty e b off : Nat} {cs : List Value} {fr : Nat × Nat} (hp : P.underlying pt = some (.pointer e)) (hc : P.cellsOf e = 1) (hb : w.heap[b]? = some (.cells cs.toArray e fr)) (l : List UInt8) (h0 : l ≠ [])
    (h63 : l.length ≤ 9223372036854775807) (hd : (cs.drop off).take l.length = Lib.byteCells l) :
    (Builtin.unsafeString_ #[pt, it] ty #[.pointer (some ⟨b, off, none⟩), .int .i64 l.length]).run P w = .ok (str l) (w.freeze ⟨b, off, none⟩ l.length) := by
  have hsh : w.shape? b = some (e, cs.length) := by simp [World.shape?, hb]
  have hlen : off + l.length ≤ cs.length := by
    have h1 := congrArg List.length hd
    have h2 : 0 < l.length := List.length_pos_iff.2 h0
    simp [Lib.byteCells] at h1
    omega
  have hcell : ∀ j x, l[j]? = some x → w.cell? ((⟨b, off, none⟩ : Addr).add j) = some (.int .u8 x.toNat) := fun j x hj => by
    rw [Addr.add_none, cell_of hb]
    have hjl : j < l.length := by
      rcases Nat.lt_or_ge j l.length with h | h
      · exact h
      · rw [List.getElem?_eq_none h] at hj; cases hj
    have h1 : ((cs.drop off).take l.length)[j]? = (Lib.byteCells l)[j]? := by rw [hd]
    rw [List.getElem?_take_of_lt hjl, List.getElem?_drop] at h1
    rw [h1]
    simp [Lib.byteCells, hj]
  have hl : l.length ≠ 0 := by simpa using h0
  have hlb := Lib.run_loadBytes (P := P) w l ⟨b, off, none⟩ .empty hcell
  have hlies := liesAt_off (P := P) hc (cs.length / P.cellsOf e) off l.length (by rw [hc]; simpa using hlen)
  have h63' : ¬ (9223372036854775807 : Int) < (l.length : Int) := by omega
  have hmax : IntKind.i64.max = 9223372036854775807 := rfl
  have hneg : ¬ (l.length : Int) < 0 := by omega
  change Sem.run P (Bind.bind (asInt (.int .i64 l.length)) _) w = _
  simp [asInt, asIntOf, hmax, h63', hneg, hl, variablesAt, hsh, elemOf, run_underlying hp, hlies, hlb]
/-- A slice's data, taken by unsafe.SliceData. -/
def SlD (E : Nat) (pv : Value) (n : Nat) (cs : List Value) : HP := fun h =>
  (∃ A, pv = .pointer A ∧ n = 0 ∧ cs = [] ∧ emp h) ∨ ∃ (b : Nat) (pre rest : List Value), pv = .pointer (some ⟨b, pre.length, none⟩) ∧ cs.length = n ∧ cel false b E (pre ++ cs ++ rest) h
theorem Holds.sld {E n : Nat} {pv : Value} {cs : List Value} {w : World} (H : Holds ρ w (SlD E pv n cs :: L)) :
    (∃ A, pv = .pointer A ∧ n = 0 ∧ cs = [] ∧ Holds ρ w L) ∨ ∃ (b : Nat) (pre rest : List Value), pv = .pointer (some ⟨b, pre.length, none⟩) ∧ cs.length = n ∧ Holds ρ w (cel false b E (pre ++ cs ++ rest) :: L) := by
  obtain ⟨h, ⟨h1, h2, c, e, a, b2⟩, dd⟩ := H.heap
  rcases a with ⟨A, e1, e2, e3, e4⟩ | ⟨b, pre, rest, e1, e4, e5⟩
  · exact .inl ⟨A, e1, e2, e3, H.drop⟩
  · exact .inr ⟨b, pre, rest, e1, e4, H.tape, H.os, H.output, h, ⟨h1, h2, c, e, e5, b2⟩, dd⟩
theorem Holds.sld_nil {E : Nat} {A : Option Addr} {w : World} (H : Holds ρ w L) : Holds ρ w (SlD E (.pointer A) 0 [] :: L) :=
  H.mono fun h x => ⟨E0, h, E0_Cmp h, rfl, .inl ⟨A, rfl, rfl, rfl, rfl⟩, x⟩
theorem Holds.sld_row {E b : Nat} {pre cs rest : List Value} {w : World} (H : Holds ρ w (cel false b E (pre ++ cs ++ rest) :: L)) : Holds ρ w (SlD E (.pointer (some ⟨b, pre.length, none⟩)) cs.length cs :: L) :=
  H.mono fun _ x => star_mono (fun _ a => .inr ⟨b, pre, rest, rfl, rfl, a⟩) (fun _ a => a) x
theorem St_unsafeSliceData {E U n : Nat} {x : Operand} {v : Value} {cs : List Value} {tys : Array TypeId} (hN : Nat.blt d N = true) (hx : ev env x = some v) (hty : tabLk tb.und ty = some (.pointer U)) (hc : Has L (Sl E 1 v n cs) L')
    (h : ∀ pv, St ρ N ((d, pv) :: env) (SlD E pv n cs :: L') K) :
    St ρ N env L (Exec P Q ⟨some d, .call { callee := .builtin .unsafeSliceData, args := [x].toArray, argTypes := tys }, ty, pos, aft, g⟩ K) :=
  St_run (α := Value) (v := fun v' => v') (M := fun pv => SlD E pv n cs :: L') (by simpa using hN) (fun a w z H => by
    have H1 := H.has hc
    obtain ⟨cst, er⟩ := run_resolveB (P := P) (w := w) (ty := ty) (b := .unsafeSliceData) (tys := tys) (a := a) (xs := [x]) (vs := [v]) (by simp [ev_ok z hx])
    have key : ∃ v' w', (Builtin.unsafeSliceData_ tys ty [v].toArray).run P w = .ok v' w' ∧ Holds ρ w' (SlD E v' n cs :: L') := by
      rcases H1.sl with ⟨rfl, rfl, rfl, H2⟩ | ⟨b, cap, pre, rest, rfl, e2, e3, e4, H2⟩
      · exact ⟨_, _, Lib.run_unsafeSliceData_nil w _ _ _ _, H2.sld_nil⟩
      · have e4' : cs.length = n := by omega
        by_cases hcap : cap = 0
        · obtain ⟨fr, hb, hf⟩ := H2.rowOf
          have hn0 : n = 0 := by omega
          subst hn0
          have : cs = [] := List.eq_nil_of_length_eq_zero e4'
          subst this
          subst hcap
          exact ⟨_, _, Lib.run_unsafeSliceData_zero w tys ty U (tab_ok tb.und_ok hty) _ _ (_, _) (by simp only [World.shape?, hb]; rfl), ((H2.drop).alloc _).drop.sld_nil⟩
        · refine ⟨_, _, Lib.run_unsafeSliceData_row w _ _ _ _ _ hcap, ?_⟩
          rw [← e4']
          exact H2.sld_row
    obtain ⟨v', w', e, H2⟩ := key
    refine ⟨v', w', ?_, H2⟩
    simp only [execOp, Sem.run_bind, er, Result.andThen_ok, invoke, builtin, e, Sem.run_pure]) h
theorem St_unsafeString {E T U n : Nat} {x y : Operand} {v : Value} {l : List UInt8} (hN : Nat.blt d N = true) (hx : ev env x = some v) (hy : ev env y = some (.int .i64 n)) (hT : tabLk tb.und T = some (.pointer E)) (hE : P.cellsOf E = 1) (h63 : n ≤ 9223372036854775807)
    (hc : Has L (SlD E v n (Lib.byteCells l)) L') (h : St ρ N ((d, str l) :: env) L' K) :
    St ρ N env L (Exec P Q ⟨some d, .call { callee := .builtin .unsafeString, args := [x, y].toArray, argTypes := [T, U].toArray }, ty, pos, aft, g⟩ K) :=
  St_run (α := Unit) (v := fun _ => str l) (M := fun _ => L') (by simpa using hN) (fun a w z H => by
    have H1 := H.has hc
    obtain ⟨cst, er⟩ := run_resolveB (P := P) (w := w) (ty := ty) (b := .unsafeString) (tys := [T, U].toArray) (a := a) (xs := [x, y]) (vs := [v, .int .i64 n]) (by simp [ev_ok z hx, ev_ok z hy])
    have key : ∃ w', (Builtin.unsafeString_ [T, U].toArray ty [v, .int .i64 n].toArray).run P w = .ok (str l) w' ∧ Holds ρ w' L' := by
      rcases H1.sld with ⟨A, rfl, rfl, e3, H2⟩ | ⟨b, pre, rest, rfl, e4, H2⟩
      · have : l = [] := by simpa [Lib.byteCells] using e3
        subst this
        exact ⟨w, Lib.run_unsafeString_none w _ _ _ _, H2⟩
      · have e5 : l.length = n := by simpa [Lib.byteCells] using e4
        by_cases h0 : l = []
        · subst h0
          subst e5
          exact ⟨w, Lib.run_unsafeString_none w _ _ _ _, H2.drop⟩
        · obtain ⟨fr, hf, H3⟩ := H2.cel_one
          have hb := H3.block
          refine ⟨_, by rw [← e5]; exact run_unsafeString_off (tab_ok tb.und_ok hT) hE hb l h0 (by omega) (by simp [Lib.byteCells]), ?_⟩
          have hlt : b < w.heap.size := by
            rcases Nat.lt_or_ge b w.heap.size with h' | h'
            · exact h'
            · simp [Array.getElem?_eq_none h'] at hb
          refine Holds.drop (Holds.put (o' := _) H3 (b := b) ?_ (by
            unfold World.freeze
            rw [if_neg (by simpa using h0)]
            simp only [Array.getElem?_modify, if_true, hb, Option.map_some]; rfl) ?_)
          · unfold World.freeze; split <;> rfl
          · intro c hcb
            unfold World.freeze
            rw [if_neg (by simpa using h0)]
            simp only [Array.getElem?_modify]
            rw [if_neg (fun e => hcb e.symm)]
    obtain ⟨w', e, H2⟩ := key
    refine ⟨(), w', ?_, H2⟩
    simp only [execOp, Sem.run_bind, er, Result.andThen_ok, invoke, builtin, e, Sem.run_pure]) fun _ => h
end Go.Proofs.YtfjnacakpeommaaDoor.SL
