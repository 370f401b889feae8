/- Steps of a walk: slices held against nil, cleared, cut and folded again; parts of memory folded into one chunk. -/
import Derived.Test.YtfjnacakpeommaaDoorSl3
import Derived.Lib.SliceRun
namespace Go.Proofs.YtfjnacakpeommaaDoor.SL
open Go
set_option autoImplicit false
set_option linter.unusedVariables false
set_option linter.unusedSimpArgs false
variable {ρ : Rst} {N : Nat} {env : Env} {L L' : List HP} {P : Program} {Q : Exit → Act → World → Prop} {K : Act → World → Prop} {G : Act → World → Prop}
variable {d : Nat} {dd : Option Nat} {op : Op} {ty : TypeId} {pos : String} {aft : Array Edge} {g : Option (Nat × Bool)} (tb : Tabs P)

theorem Rd_slNil {T U E : TypeId} {x y : Operand} {A : Option Addr} {n c n' c' : Nat} (hx : ev env x = some (.slice A n c)) (hy : ev env y = some (.slice none n' c')) (hT : tabLk tb.und T = some (.slice E)) :
    Rd P ρ N env L ⟨dd, .binOp .eql T x y U, ty, pos, aft, g⟩ (.bool A.isNone) :=
  fun a w z _ => by
    simp only [execOp, ev_ok z hx, ev_ok z hy, Sem.run_bind, eqGuard, Bool.not_true, Bool.false_eq_true, if_false, Sem.run_pure, Result.andThen_ok, Lib.run_eql_slice_nil w T E A n c n' c' (tab_ok tb.und_ok hT)]
theorem Src.rs {sz n : Nat} {r : Bool} {v : Value} {cs : List Value} (hc : Has L (RS r v n cs) L') (hl : cs.length = n * sz) : Src P ρ L sz v n cs :=
  ⟨hl, fun w H => by
    rcases (H.has hc).rs with ⟨rfl, rfl, ⟨A, c, rfl⟩, H2⟩ | ⟨b, T, cap, pre, rest, rfl, H2⟩
    · refine ⟨rfl, ?_⟩
      cases A with
      | none => rfl
      | some A => simp [Builtin.firstCells, loadCells, loadCellsFrom]
    · obtain ⟨fr, hb, hf⟩ := H2.rowOf
      refine ⟨rfl, ?_⟩
      simp only [Builtin.firstCells]
      rw [run_loadCells hb (by simp; omega)]
      simp [← hl]⟩
/-- An owned slice, of less room. -/
theorem St_slCap {E sz n cap c' : Nat} {A : Option Addr} {cs : List Value} (hc : Has L (Sl E sz (.slice A n cap) n cs) L') (h1 : n ≤ c') (h2 : c' ≤ cap)
    (h : St ρ N env (Sl E sz (.slice A n c') n cs :: L') G) : St ρ N env L G := fun a w x y => by
  rcases (y.has hc).sl with ⟨e1, e2, e3, H⟩ | ⟨b, cap', pre, rest, e1, e2, e3, e4, H⟩
  · injection e1 with q1 q2 q3
    have : c' = 0 := by omega
    subst q1 q2 this e3
    exact h a w x H.sl_nil
  · injection e1 with q1 q2 q3
    subst q1 q3
    refine h a w x (H.sl_row h1 ?_ e4)
    have : (c' - n) * sz ≤ (cap - n) * sz := Nat.mul_le_mul_right sz (by omega)
    omega
theorem St_slRoom {E sz n cap : Nat} {A : Option Addr} {cs : List Value} (hc : Has L (Sl E sz (.slice A n cap) n cs) L') (h : n ≤ cap → St ρ N env L G) : St ρ N env L G := fun a w x y => by
  rcases (y.has hc).sl with ⟨e1, e2, e3, H⟩ | ⟨b, cap', pre, rest, e1, e2, e3, e4, H⟩
  · injection e1 with q1 q2 q3
    exact h (by omega) a w x y
  · injection e1 with q1 q2 q3
    exact h (by omega) a w x y
/-- Several cells stored, and how the row reads then. -/
theorem St_storeVe {T T' b off : Nat} {x y : Operand} {cs cs' : List Value} {v : Value} {i : Inf} (hx : ev env x = some (.pointer (some ⟨b, off, none⟩))) (hy : ev env y = some v)
    (hi : tabLk tb.inf T = some i) (hsz : (cellsL v).length = i.size) (hall : (cellsL v).all Value.oneCell' = true) (hc : Has L (cel false b T' cs) L') (hl : Nat.ble (off + (cellsL v).length) cs.length = true) (he : setR cs off (cellsL v) = cs')
    (h : St ρ N env (cel false b T' cs' :: L') K) : St ρ N env L (Exec P Q ⟨none, .store T x y, ty, pos, aft, g⟩ K) := by
  subst he
  exact St_storeV tb hx hy hi hsz hall hc (by simpa using hl) h
/-- One cell stored, and how the row reads then. -/
theorem St_store1e {T T' b off : Nat} {x y : Operand} {cs cs' : List Value} {v : Value} {i : Inf} (hx : ev env x = some (.pointer (some ⟨b, off, none⟩))) (hy : ev env y = some v)
    (hi : tabLk tb.inf T = some i) (hsz : i.size = 1) (hv : v.oneCell' = true) (hc : Has L (cel false b T' cs) L') (he : cs.set off v = cs') (hl : off < cs.length)
    (h : St ρ N env (cel false b T' cs' :: L') K) : St ρ N env L (Exec P Q ⟨none, .store T x y, ty, pos, aft, g⟩ K) :=
  St_store1 tb hx hy hi hsz hv hc (by simpa using hl) he h
theorem St_slMk {E sz b n cap : Nat} {pre cs rest : List Value} (hc : Has L (cel false b E (pre ++ cs ++ rest)) L') (h1 : n ≤ cap) (h2 : (cap - n) * sz ≤ rest.length) (h3 : cs.length = n * sz)
    (h : St ρ N env (Sl E sz (.slice (some ⟨b, pre.length, none⟩) n cap) n cs :: L') G) : St ρ N env L G := fun a w x y => h a w x ((y.has hc).sl_row h1 h2 h3)
/-- Chunks that are folded into one, whose hidden part is z. -/
theorem St_exMk {α : Type} {l : α → List HP} (z : α) (hs : Split L (l z) L') (h : St ρ N env (ex (fun z => big (l z)) :: L') G) : St ρ N env L G :=
  St_conv (fun w H => Holds.ex_mk (A := fun z => big (l z)) z (Holds.shut (H.split hs))) h
theorem St_exOpen {α : Type} {l : α → List HP} (hc : Has L (ex fun z => big (l z)) L') (h : ∀ z, St ρ N env (l z ++ L') G) : St ρ N env L G :=
  St_pull hc (St_ex fun z => St_open (h z))
theorem run_clearCel {t E tt off k : Nat} {w : World} {b : Nat} {cs zs : List Value} {c : Nat} {i : Inf} (ht : P.underlying t = some (.slice E)) (hi : InfOk P E i) (hz : i.zero.all Value.oneCell' = true) (hzs : (List.replicate k i.zero).flatten = zs) (hsz : i.zero.length = i.size)
    (hl : off + zs.length ≤ cs.length) (H : Holds ρ w (cel false b E cs :: L)) (hk : k ≠ 0) :
    ∃ w', (Builtin.clear_ [t].toArray tt [.slice (some ⟨b, off, none⟩) k c].toArray).run P w = .ok (.tuple #[]) w' ∧ Holds ρ w' (cel false b E (setR cs off zs) :: L) := by
  obtain ⟨zv, hzv, hzc⟩ := run_zero (w := w) hi
  have hall : zs.all Value.oneCell' = true := by
    rw [← hzs]
    clear hl hzs hk
    induction k with
    | zero => rfl
    | succ k ih => rw [List.replicate_succ, List.flatten_cons, List.all_append, hz, ih]; rfl
  have hzl : (Builtin.zeroCells zv.cells k).toList = zs := by
    rw [← hzs]
    apply List.ext_getElem?
    intro j
    have hL : ∀ k, ((List.replicate k i.zero).flatten).length = k * i.size := by
      intro k
      induction k with
      | zero => simp
      | succ k ih => rw [List.replicate_succ, List.flatten_cons, List.length_append, ih, hsz, Nat.succ_mul]; omega
    simp only [Builtin.zeroCells, hzc]
    by_cases hj : j < k * i.size
    · have hpos : 0 < i.size := by rcases Nat.eq_zero_or_pos i.size with e | e
                                   · rw [e] at hj; omega
                                   · exact e
      have key : ∀ m q, q < m * i.size → ((List.replicate m i.zero).flatten)[q]? = i.zero[q % i.size]? := by
        intro m
        induction m with
        | zero => intro q hq; omega
        | succ m ih =>
          intro q hq
          rw [List.replicate_succ, List.flatten_cons]
          by_cases hqs : q < i.size
          · rw [List.getElem?_append_left (by omega), Nat.mod_eq_of_lt hqs]
          · rw [List.getElem?_append_right (by omega), hsz, ih _ (by rw [Nat.succ_mul] at hq; omega)]
            congr 1
            rw [Nat.mod_eq_sub_mod (by omega : q ≥ i.size)]
      rw [key k j hj]
      have hlt : j % i.zero.length < i.zero.length := by rw [hsz]; exact Nat.mod_lt _ hpos
      simp only [Array.toList_map, Array.toList_range, List.getElem?_map, List.size_toArray]
      rw [hsz, List.getElem?_range (by rw [Nat.mul_comm]; rw [Nat.mul_comm] at hj; exact hj), Option.map_some]
      rw [hsz] at hlt
      have hlt2 : j % i.size < i.zero.length := by rw [hsz]; exact hlt
      rw [List.getElem?_eq_getElem hlt2]
      simp [hlt2]
    · have g1 : ((List.replicate k i.zero).flatten)[j]? = none := List.getElem?_eq_none (by rw [hL]; omega)
      rw [g1, List.getElem?_eq_none]
      simp only [Array.toList_map, Array.toList_range, List.length_map, List.length_range, List.size_toArray, hsz]
      omega
  obtain ⟨w', e, H'⟩ := run_storeCells (P := P) (off := off) zs cs 0 w H hall (by omega)
  refine ⟨w', ?_, H'⟩
  obtain ⟨k', rfl⟩ : ∃ k', k = k' + 1 := ⟨k - 1, by omega⟩
  simp only [Builtin.clear_, List.getElem?_toArray, List.getElem?_cons_zero, Sem.run_bind, run_und ht, Result.andThen_ok, hzv, hzl, e, Sem.run_pure]
/-- The first k elements of an owned row are cleared. -/
theorem St_clear {T E off k c b : Nat} {x : Operand} {cs zs : List Value} {i : Inf} (hN : Nat.blt d N = true) (hx : ev env x = some (.slice (some ⟨b, off, none⟩) k c)) (hT : tabLk tb.und T = some (.slice E)) (hi : tabLk tb.inf E = some i)
    (hz : (i.zero.all Value.oneCell' && Nat.beq i.zero.length i.size) = true) (hzs : (List.replicate k i.zero).flatten = zs) (hc : Has L (cel false b E cs) L') (hl : off + zs.length ≤ cs.length) (hk : k ≠ 0)
    (h : St ρ N ((d, .tuple #[]) :: env) (cel false b E (setR cs off zs) :: L') K) :
    St ρ N env L (Exec P Q ⟨some d, .call { callee := .builtin .clear, args := [x].toArray, argTypes := [T].toArray }, ty, pos, aft, g⟩ K) :=
  St_run (α := Unit) (v := fun _ => .tuple #[]) (M := fun _ => cel false b E (setR cs off zs) :: L') (by simpa using hN) (fun a w z H => by
    simp only [Bool.and_eq_true] at hz
    have H1 := H.has hc
    obtain ⟨w', e, H2⟩ := run_clearCel (tt := ty) (c := c) (tab_ok tb.und_ok hT) (tab_ok tb.inf_ok hi) hz.1 hzs (Nat.eq_of_beq_eq_true hz.2) hl H1 hk
    refine ⟨(), w', ?_, H2⟩
    obtain ⟨cst, er⟩ := run_resolveB (P := P) (w := w) (ty := ty) (b := .clear) (tys := [T].toArray) (a := a) (xs := [x]) (vs := [.slice (some ⟨b, off, none⟩) k c]) (by simp [ev_ok z hx])
    simp only [execOp, Sem.run_bind, er, Result.andThen_ok, invoke, builtin, e, Sem.run_pure]) fun _ => h
/-- Nothing is cleared. -/
theorem Rd_clear0 {T E : Nat} {x : Operand} {A : Option Addr} {c : Nat} (hx : ev env x = some (.slice A 0 c)) (hT : tabLk tb.und T = some (.slice E)) :
    Rd P ρ N env L ⟨dd, .call { callee := .builtin .clear, args := [x].toArray, argTypes := [T].toArray }, ty, pos, aft, g⟩ (.tuple #[]) :=
  fun a w z _ => by
    obtain ⟨cst, er⟩ := run_resolveB (P := P) (w := w) (ty := ty) (b := .clear) (tys := [T].toArray) (a := a) (xs := [x]) (vs := [.slice A 0 c]) (by simp [ev_ok z hx])
    simp only [execOp, Sem.run_bind, er, Result.andThen_ok, invoke, builtin, Builtin.clear_, List.getElem?_toArray, List.getElem?_cons_zero, run_und (tab_ok tb.und_ok hT)]
    cases A <;> simp
/-- Operations whose value nobody takes. -/
theorem St_runN {α : Type} {v : α → Value} {M : α → List HP}
    (hr : ∀ a w, Ag N env a → Holds ρ w L → ∃ z w', (execOp a.eval ⟨none, op, ty, pos, aft, g⟩).run P w = .ok (.value (v z)) w' ∧ Holds ρ w' (M z))
    (h : ∀ z, St ρ N env (M z) K) : St ρ N env L (Exec P Q ⟨none, op, ty, pos, aft, g⟩ K) := by
  intro a w x y
  obtain ⟨z, w', e, hw⟩ := hr a w x y
  unfold Exec Oper.wp
  rw [e]
  exact h z _ _ (x.put_none _) hw
theorem St_rdN {v : Value} (hr : Rd P ρ N env L ⟨none, op, ty, pos, aft, g⟩ v) (h : St ρ N env L K) : St ρ N env L (Exec P Q ⟨none, op, ty, pos, aft, g⟩ K) :=
  St_runN (α := Unit) (v := fun _ => v) (M := fun _ => L) (fun a w x y => ⟨(), w, hr a w x y, y⟩) fun _ => h
theorem St_clearN {T E off k c b : Nat} {x : Operand} {cs zs : List Value} {i : Inf} (hx : ev env x = some (.slice (some ⟨b, off, none⟩) k c)) (hT : tabLk tb.und T = some (.slice E)) (hi : tabLk tb.inf E = some i)
    (hz : (i.zero.all Value.oneCell' && Nat.beq i.zero.length i.size) = true) (hzs : (List.replicate k i.zero).flatten = zs) (hc : Has L (cel false b E cs) L') (hl : off + zs.length ≤ cs.length) (hk : k ≠ 0)
    (h : St ρ N env (cel false b E (setR cs off zs) :: L') K) :
    St ρ N env L (Exec P Q ⟨none, .call { callee := .builtin .clear, args := [x].toArray, argTypes := [T].toArray }, ty, pos, aft, g⟩ K) :=
  St_runN (α := Unit) (v := fun _ => .tuple #[]) (M := fun _ => cel false b E (setR cs off zs) :: L') (fun a w z H => by
    simp only [Bool.and_eq_true] at hz
    have H1 := H.has hc
    obtain ⟨w', e, H2⟩ := run_clearCel (tt := ty) (c := c) (tab_ok tb.und_ok hT) (tab_ok tb.inf_ok hi) hz.1 hzs (Nat.eq_of_beq_eq_true hz.2) hl H1 hk
    refine ⟨(), w', ?_, H2⟩
    obtain ⟨cst, er⟩ := run_resolveB (P := P) (w := w) (ty := ty) (b := .clear) (tys := [T].toArray) (a := a) (xs := [x]) (vs := [.slice (some ⟨b, off, none⟩) k c]) (by simp [ev_ok z hx])
    simp only [execOp, Sem.run_bind, er, Result.andThen_ok, invoke, builtin, e, Sem.run_pure]) fun _ => h
theorem St_callN {f : FuncId} {xs : List Operand} {tys : Array TypeId} {vs : List Value} {pre F : List HP} {post : Value → List HP → Prop} (ha : evs env xs = some vs)
    (hf : Sp P f vs pre post) (hs : Split L pre F) (h : ∀ v M, post v M → St ρ N env (M ++ F) K) :
    St ρ N env L (Exec P Q ⟨none, .call { callee := .value (.func f), args := xs.toArray, argTypes := tys }, ty, pos, aft, g⟩ K) := by
  intro a w x y
  have e : (execOp a.eval ⟨none, .call { callee := .value (.func f), args := xs.toArray, argTypes := tys }, ty, pos, aft, g⟩).run P w = .ok (.enter f vs.toArray) w := by
    simp only [execOp, resolve, Act.eval, Deferred.ofValue, Sem.run_bind, Sem.run_pure, Result.andThen_ok, invoke]
    rw [run_callFunc hf.callable]
    congr 2
    simp [evs_ok x ha]
  unfold Exec Oper.wp
  rw [e]
  refine (hf.calls ρ F w (y.split hs)).mono ?_
  rintro e w' ⟨v, M, rfl, hp, H⟩
  exact h v M hp _ _ (x.put_none v) H
/-- One cell of an element. -/
theorem flat_cell {α : Type} {f : α → List Value} {k : Nat} (hk : ∀ u, (f u).length = k) {us : List α} {i j : Nat} {u : α} (pre rest : List Value) (h : us[i]? = some u) (hj : j < k) :
    (pre ++ us.flatMap f ++ rest)[pre.length + i * k + j]? = (f u)[j]? := by
  have h1 := flat_at hk us i u pre rest h
  rw [← h1, List.getElem?_take_of_lt hj, List.getElem?_drop]
/-- The first g elements are cleared. -/
theorem setR_front {pre cs rest zs : List Value} (h : zs.length ≤ cs.length) : setR (pre ++ cs ++ rest) pre.length zs = pre ++ zs ++ (cs.drop zs.length ++ rest) := by
  have e : pre ++ cs ++ rest = pre ++ (cs ++ rest) := by simp
  unfold setR
  rw [e, List.take_left, ← List.drop_drop, List.drop_left, List.drop_append_of_le_length h]
/-- What is left of a slice's front, behind a cut. -/
theorem cut_addr {b off m sz c : Nat} : (if c = m then (some ⟨b, off, none⟩ : Option Addr) else (some (⟨b, off, none⟩ : Addr)).map (·.add (m * sz))) = some ⟨b, if c = m then off else off + m * sz, none⟩ := by
  split
  · rfl
  · rw [Option.map_some, Addr.add_none]
end Go.Proofs.YtfjnacakpeommaaDoor.SL
