/- What the proof stands on, part 6: C31, RAc, Sl5, Sl6, C36, C32, C37, C33, C34. -/
import Derived.MapKept
import Derived.Test.YtfjnacakpeommaaGreatDoorM5
/- Contracts: chapbooklaw16.great. -/
namespace Go.Proofs.YtfjnacakpeommaaGreatDoor
open Go SL Pl
set_option autoImplicit false
set_option maxRecDepth 100000
set_option linter.unusedSimpArgs false
set_option linter.unusedVariables false
attribute [local irreducible] St Sq Exec QExec wpList wpQuiet Code.wp Exit.then Exit.inBlock bodyPost At Rd wpOp Wa QK GB
/-- A call: 1 Hear, 2 Tick. -/
structure Ac where
  kind : Int
  src : Int
  b : List UInt8
abbrev av (a : Ac) : List Value := [.int .i64 a.kind, .int .i64 a.src, str a.b]
theorem av_len (a : Ac) : (av a).length = 3 := rfl
def acGreat (c : Cfg) (l : List Ac) : Bool := decide (60 < l.length) || decide (4 < c.clients) || l.any fun a => decide (400 < a.b.length)
theorem acGreat_no {c : Cfg} {l : List Ac} (h : acGreat c l = false) : l.length ≤ 60 ∧ c.clients ≤ 4 ∧ ∀ a ∈ l, a.b.length ≤ 400 := by
  unfold acGreat at h
  simp only [Bool.or_eq_false_iff, decide_eq_false_iff_not, List.any_eq_false, decide_eq_true_eq] at h
  exact ⟨by omega, by omega, fun a ha => by have := h.2 a ha; omega⟩
theorem great16_sp (q : Bool) (c : Cfg) (l : List Ac) (v : Value) : Sp Tryz.prog 8 [.agg (cfgC c).toArray, v] [RS q v l.length (l.flatMap av)] (fun w M => w = .bool (acGreat c l) ∧ M = [RS q v l.length (l.flatMap av)]) := by
  refine Sp.intro (P := Tryz.prog) (Tryz.func8) rfl Tryz.ntmps8 (by decide) rfl ?_
  intro ρ F
  refine St_rsIs (r := q) (v := v) (n := l.length) (cs := l.flatMap av) (by exact Has.auto) ?_
  rintro A k rfl
  by_cases h1 : 60 < l.length ∨ 4 < c.clients
  · have e : acGreat c l = true := by
      unfold acGreat
      rcases h1 with h | h <;> simp [h]
    rw [e]
    repeat' (first | (refine St_step ?_; (try with_reducible intro _)) | (refine St_step2 ?_ ?_ <;> (intro hb; (try simp only [beq_iff_eq, bne_iff_ne, decide_eq_true_eq, decide_eq_false_iff_not, Bool.not_eq_true', Bool.not_eq_false', beq_eq_false_iff_ne, bne_eq_false_iff_eq, ne_eq, Int.not_lt, Int.not_le, gt_iff_lt, ge_iff_le] at hb); (try (first | exact Bool.noConfusion hb | exact absurd trivial hb | (exfalso; omega))))) | fail)
    all_goals (first | contradiction | (exfalso; omega) | (exact St_ret1 (.inl rfl) rfl rfl ⟨rfl, rfl⟩ (by exact Split.auto)) | (exact St_ret2 (.inl rfl) rfl rfl rfl ⟨rfl, rfl⟩ (by exact Split.auto)) | (exact St_ret3 (.inl rfl) rfl rfl rfl rfl ⟨rfl, rfl⟩ (by exact Split.auto)))
  · have e : acGreat c l = l.any fun a => decide (400 < a.b.length) := by
      unfold acGreat
      rw [decide_eq_false (by omega), decide_eq_false (by omega)]; rfl
    rw [e]
    repeat' (first | (refine St_step ?_; (try with_reducible intro _)) | (refine St_step2 ?_ ?_ <;> (intro hb; (try simp only [beq_iff_eq, bne_iff_ne, decide_eq_true_eq, decide_eq_false_iff_not, Bool.not_eq_true', Bool.not_eq_false', beq_eq_false_iff_ne, bne_eq_false_iff_eq, ne_eq, Int.not_lt, Int.not_le, gt_iff_lt, ge_iff_le] at hb); (try (first | exact Bool.noConfusion hb | exact absurd trivial hb | (exfalso; omega))))) | fail)
    all_goals first | (exfalso; omega) | skip
    refine St_loop (fun (i : Nat) => i ≤ l.length ∧ ∀ j, j < i → ∀ a, l[j]? = some a → a.b.length ≤ 400) (fun i => [(15, .slice A l.length k), (16, nat .i64 l.length), (17, nat .i64 i)]) (fun i => [RS q (.slice A l.length k) l.length (l.flatMap av), big F]) (fun i => l.length - i) 0 ⟨Nat.zero_le _, fun j hj => by omega⟩ ⟨rfl, rfl, rfl, trivial⟩ (by exact Split.auto) ?_
    rintro i ⟨hi, hbd⟩
    by_cases hil : i < l.length
    · obtain ⟨a, ha⟩ : ∃ a, l[i]? = some a := ⟨_, List.getElem?_eq_getElem hil⟩
      refine St_rsOpen (r := q) (v := .slice A l.length k) (n := l.length) (cs := l.flatMap av) (by exact Has.auto) (by omega) ?_
      rintro b1 T1 cap1 pre1 rest1 hv1
      injection hv1 with p1 p2 p3
      subst p1 p3
      have hld1 := flat_at av_len l i a pre1 rest1 ha
      have hroom1 := flat_room av_len l i pre1 rest1 hil
      by_cases h4 : 400 < a.b.length
      · have e2 : (l.any fun a => decide (400 < a.b.length)) = true := List.any_eq_true.2 ⟨a, List.mem_of_getElem? ha, decide_eq_true h4⟩
        rw [e2]
        repeat' (first | (apply St_rd; exact rfl; (first | (apply Rd_loadA tb; exact rfl; exact rfl; exact rfl; exact Has.auto; exact hroom1; exact hld1))) | (apply Sq_rd; exact rfl; (first | (apply Rd_loadA tb; exact rfl; exact rfl; exact rfl; exact Has.auto; exact hroom1; exact hld1))) | (refine St_step ?_; (try with_reducible intro _)) | (refine St_step2 ?_ ?_ <;> (intro hb; (try simp only [beq_iff_eq, bne_iff_ne, decide_eq_true_eq, decide_eq_false_iff_not, Bool.not_eq_true', Bool.not_eq_false', beq_eq_false_iff_ne, bne_eq_false_iff_eq, ne_eq, Int.not_lt, Int.not_le, gt_iff_lt, ge_iff_le] at hb); (try (first | exact Bool.noConfusion hb | exact absurd trivial hb | (exfalso; omega))))) | fail)
        all_goals first | (exfalso; omega) | skip
        refine St_rsMk (r := q) (n := l.length) (cap := k) (pre := pre1) (cs := l.flatMap av) (rest := rest1) (by exact Has.auto) ?_
        (first | contradiction | (exfalso; omega) | (exact St_ret1 (.inl rfl) rfl rfl ⟨rfl, rfl⟩ (by exact Split.auto)) | (exact St_ret2 (.inl rfl) rfl rfl rfl ⟨rfl, rfl⟩ (by exact Split.auto)) | (exact St_ret3 (.inl rfl) rfl rfl rfl rfl ⟨rfl, rfl⟩ (by exact Split.auto)))
      · repeat' (first | (apply St_rd; exact rfl; (first | (apply Rd_loadA tb; exact rfl; exact rfl; exact rfl; exact Has.auto; exact hroom1; exact hld1))) | (apply Sq_rd; exact rfl; (first | (apply Rd_loadA tb; exact rfl; exact rfl; exact rfl; exact Has.auto; exact hroom1; exact hld1))) | (refine St_step ?_; (try with_reducible intro _)) | (refine St_step2 ?_ ?_ <;> (intro hb; (try simp only [beq_iff_eq, bne_iff_ne, decide_eq_true_eq, decide_eq_false_iff_not, Bool.not_eq_true', Bool.not_eq_false', beq_eq_false_iff_ne, bne_eq_false_iff_eq, ne_eq, Int.not_lt, Int.not_le, gt_iff_lt, ge_iff_le] at hb); (try (first | exact Bool.noConfusion hb | exact absurd trivial hb | (exfalso; omega))))) | fail)
        all_goals first | (exfalso; omega) | skip
        refine St_rsMk (r := q) (n := l.length) (cap := k) (pre := pre1) (cs := l.flatMap av) (rest := rest1) (by exact Has.auto) ?_
        refine St_at (i + 1) ⟨⟨hil, fun j hj a' ha' => ?_⟩, by omega⟩ ⟨rfl, rfl, rfl, trivial⟩ (by exact Split.auto)
        rcases Nat.lt_or_ge j i with h | h
        · exact hbd j h a' ha'
        · obtain rfl : j = i := by omega
          obtain rfl : a = a' := Option.some.inj (ha.symm.trans ha')
          omega
    · have hii : i = l.length := by omega
      subst hii
      have e2 : (l.any fun a => decide (400 < a.b.length)) = false := by
        rw [List.any_eq_false]
        intro a ha
        obtain ⟨j, hj, e⟩ := List.getElem_of_mem ha
        have := hbd j hj a (by rw [List.getElem?_eq_getElem hj, e])
        simp; omega
      rw [e2]
      repeat' (first | (refine St_step ?_; (try with_reducible intro _)) | (refine St_step2 ?_ ?_ <;> (intro hb; (try simp only [beq_iff_eq, bne_iff_ne, decide_eq_true_eq, decide_eq_false_iff_not, Bool.not_eq_true', Bool.not_eq_false', beq_eq_false_iff_ne, bne_eq_false_iff_eq, ne_eq, Int.not_lt, Int.not_le, gt_iff_lt, ge_iff_le] at hb); (try (first | exact Bool.noConfusion hb | exact absurd trivial hb | (exfalso; omega))))) | fail)
      all_goals (first | contradiction | (exfalso; omega) | (exact St_ret1 (.inl rfl) rfl rfl ⟨rfl, rfl⟩ (by exact Split.auto)) | (exact St_ret2 (.inl rfl) rfl rfl rfl ⟨rfl, rfl⟩ (by exact Split.auto)) | (exact St_ret3 (.inl rfl) rfl rfl rfl rfl ⟨rfl, rfl⟩ (by exact Split.auto)))
end Go.Proofs.YtfjnacakpeommaaGreatDoor
/- What the rows of chapbooklaw16 with calls share: how such an argument is read. -/
namespace Go.Proofs.YtfjnacakpeommaaGreatDoor
open Go Go.ChangeShapes Go.WideShapes Go.RowKit SL Pl
set_option autoImplicit false
set_option maxRecDepth 100000
theorem pre_add {W : World} {A : HP} {ρ : Rst} {w : World} {l : List HP} (hA : ∀ (ρ : Rst) (w' : World) (L : List HP), Holds ρ w' (whole W :: L) → Holds ρ w' (A :: whole W :: L)) (H : Holds ρ w (l ++ [whole W])) : Holds ρ w ((A :: l) ++ [whole W]) := by
  have H1 := hA _ _ _ H.appends
  exact H1.mono fun _ x => star_mono (fun _ a => a) (fun _ b => big_append.2 (star_comm (big_append (l := [whole W]) (m := l).1 b))) x
theorem act_row {row : List Value} (h : leavesOk [.int .i64, .int .i64, .str] row) : ∃ a : Ac, row = av a ∧ a.b.length ≤ 9223372036854775807 := by
  obtain ⟨v0, r1, rfl, ⟨a, rfl, _⟩, v1, r2, rfl, ⟨b, rfl, _⟩, v2, r3, rfl, ⟨c, rfl, hc⟩, h⟩ := h
  have h : r3 = [] := h
  subst h
  exact ⟨⟨a, b, c⟩, rfl, hc⟩
section
variable {H : Type} {enc : TypeId × Value → H} {w : World} {base : Nat} {sp : Nat → Bool} {held : Bool}
theorem open_acts {r : Reach} {b0 : Nat} {v : Value} {d : DataW H} {p : List MemPlace} (hv : Value.okWide Tryz.prog w r b0 24 v) (h : DataW.Trod enc Tryz.prog w base sp held 24 v d p) :
    ∃ (l : List Ac), ∀ (ρ : Rst) (w' : World) (L : List HP), Holds ρ w' (whole w :: L) → Holds ρ w' (RS true v l.length (l.flatMap av) :: whole w :: L) := by
  obtain ⟨fuel, h⟩ := h
  obtain ⟨a0, len, cap, rfl⟩ := okWide_slice (show (Tryz.prog).underlying 24 = some (.slice 35) by kernel_rfl) hv
  obtain ⟨v', rows, hv, h1, _, _, h2⟩ := trod_rows (k := 3) (ls := [.int .i64, .int .i64, .str]) (show (Tryz.prog).underlying 24 = some (.slice 35) by kernel_rfl) (by kernel_rfl) (show (Tryz.prog).cellsOf 35 ≠ 0 by rw [show (Tryz.prog).cellsOf 35 = 3 by kernel_rfl]; decide) h
  obtain ⟨us, rfl, _⟩ := rows_map (f := av) (B := fun _ => True) (fun row hr => (act_row (h1 row hr)).elim fun a ha => ⟨a, ha.1, trivial⟩)
  refine ⟨us, fun ρ w' L H => ?_⟩
  have := h2 ρ w' L H
  rw [List.length_map] at this
  have e : [Value.slice a0 len cap] = [v'] := hv
  rw [List.cons.inj e |>.1]
  exact this
theorem open_act {r : Reach} {b0 : Nat} {v : Value} {d : DataW H} {p : List MemPlace} (hv : Value.okWide Tryz.prog w r b0 35 v) (h : DataW.Trod enc Tryz.prog w base sp held 35 v d p) :
    ∃ a : Ac, v = .agg (av a).toArray ∧ a.b.length ≤ 9223372036854775807 := by
  have hu : (Tryz.prog).underlying 35 = some (.struct ((Tryz.prog).fieldsOf 35)) := by kernel_rfl
  obtain ⟨cs, rfl, hcs⟩ := okWide_struct hu hv
  obtain ⟨fuel, h⟩ := h
  have h1 := trod_leaves 2 35 [.int .i64, .int .i64, .str] (by kernel_rfl) _ _ _ h
  obtain ⟨a, ha, hb⟩ := act_row h1
  have e : (Value.agg cs).cells.toList = cs.toList := rfl
  rw [e] at ha
  exact ⟨a, by rw [← ha], hb⟩
end
end Go.Proofs.YtfjnacakpeommaaGreatDoor
/- Steps of a walk: maps whose keys are whole numbers. -/
namespace Go.Proofs.YtfjnacakpeommaaGreatDoor.SL
open Go
set_option autoImplicit false
set_option linter.unusedVariables false
set_option linter.unusedSimpArgs false
variable {ρ : Rst} {N : Nat} {env : Env} {L L' : List HP} {P : Program} {Q : Exit → Act → World → Prop} {K : Act → World → Prop} {G : Act → World → Prop}
variable {d : Nat} {dd : Option Nat} {op : Op} {ty : TypeId} {pos : String} {aft : Array Edge} {g : Option (Nat × Bool)} (tb : Tabs P)

abbrev keyV (p : Int × Value) : Value × Value := (.int .i64 p.1, p.2)
/-- A map of its own: its entries, in the order in which they were made. -/
def MP (b : Nat) (l : List (Int × Value)) : HP := fun h => ∃ (es : List MapEntry) (clk : Nat), (es.map (fun e => (e.key, e.val)) = l.map keyV ∧ (es.map (·.born)).Nodup ∧ ∀ e ∈ es, e.born < clk) ∧ one false b (.map es.toArray clk) h
def aget : List (Int × Value) → Int → Option Value
  | [], _ => none
  | p :: l, k => if p.1 = k then some p.2 else aget l k
def aset : List (Int × Value) → Int → Value → List (Int × Value)
  | [], k, v => [(k, v)]
  | p :: l, k, v => if p.1 = k then (p.1, v) :: l else p :: aset l k v
theorem aget_set (l : List (Int × Value)) (k : Int) (v : Value) (o : Int) : aget (aset l k v) o = if o = k then some v else aget l o := by
  induction l with
  | nil => unfold aset aget; by_cases h : k = o <;> simp [h, aget, Ne.symm, @eq_comm _ o k]
  | cons p l ih =>
    unfold aset
    by_cases h : p.1 = k
    · rw [if_pos h]
      by_cases h2 : o = k
      · simp [aget, h, h2]
      · have h3 : ¬ p.1 = o := by omega
        simp [aget, h2, h3]
    · rw [if_neg h]
      by_cases h2 : p.1 = o
      · have h3 : ¬ o = k := by omega
        simp [aget, h2, h3]
      · simp [aget, h2, ih]
theorem Holds.mp {b : Nat} {l : List (Int × Value)} {w : World} (H : Holds ρ w (MP b l :: L)) :
    ∃ (es : List MapEntry) (clk : Nat), es.map (fun e => (e.key, e.val)) = l.map keyV ∧ (es.map (·.born)).Nodup ∧ (∀ e ∈ es, e.born < clk) ∧ Holds ρ w (one false b (.map es.toArray clk) :: L) := by
  obtain ⟨h, ⟨h1, h2, c, rfl, ⟨es, clk, ⟨p1, p2, p3⟩, a⟩, q⟩, d⟩ := H.heap
  exact ⟨es, clk, p1, p2, p3, H.tape, H.os, H.output, _, ⟨h1, h2, c, rfl, a, q⟩, d⟩
theorem Holds.mp_mk {b : Nat} {l : List (Int × Value)} {w : World} {es : List MapEntry} {clk : Nat} (h1 : es.map (fun e => (e.key, e.val)) = l.map keyV) (h2 : (es.map (·.born)).Nodup) (h3 : ∀ e ∈ es, e.born < clk)
    (H : Holds ρ w (one false b (.map es.toArray clk) :: L)) : Holds ρ w (MP b l :: L) := H.mono fun _ x => star_mono (fun _ a => ⟨es, clk, ⟨h1, h2, h3⟩, a⟩) (fun _ a => a) x
/-- Where a key stands. -/
theorem map_find (k : Int) (v : Value) : ∀ (es : List MapEntry) (l : List (Int × Value)) (i : Nat), es.map (fun e => (e.key, e.val)) = l.map keyV →
    (aget l k = none ∧ Instr.findNow (.int .i64) (.int .i64 k) es i = some none ∧ aset l k v = l ++ [(k, v)]) ∨
    (∃ j e u, es[j]? = some e ∧ e.key = .int .i64 k ∧ aget l k = some u ∧ Instr.findNow (.int .i64) (.int .i64 k) es i = some (some (i + j, u)) ∧ (es.modify j fun e => { e with key := .int .i64 k, val := v }).map (fun e => (e.key, e.val)) = (aset l k v).map keyV)
  | [], l, i, h => by
    cases l with
    | nil => exact .inl ⟨rfl, rfl, rfl⟩
    | cons _ _ => cases h
  | e :: es, l, i, h => by
    cases l with
    | nil => cases h
    | cons p l =>
      simp only [List.map_cons, List.cons.injEq, keyV, Prod.mk.injEq] at h
      obtain ⟨⟨h1, h2⟩, h3⟩ := h
      by_cases hk : p.1 = k
      · refine .inr ⟨0, e, p.2, rfl, by rw [h1, hk], by simp [aget, hk], by simp [Instr.findNow, Instr.sameNow, h1, hk, h2], ?_⟩
        simp [aset, hk, keyV, h3]
      · have hf : Instr.findNow (.int .i64) (.int .i64 k) (e :: es) i = Instr.findNow (.int .i64) (.int .i64 k) es (i + 1) := by
          have h9 : ¬ k = p.1 := fun h => hk h.symm
          have hb : (k == p.1) = false := by simpa using h9
          simp [Instr.findNow, Instr.sameNow, h1, hb]
        rcases map_find k v es l (i + 1) h3 with ⟨a1, a2, a3⟩ | ⟨j, e', u, a1, a2, a3, a4, a5⟩
        · exact .inl ⟨by simp [aget, hk, a1], by rw [hf, a2], by simp [aset, hk, a3]⟩
        · refine .inr ⟨j + 1, e', u, by simpa using a1, a2, by simp [aget, hk, a3], by rw [hf, a4]; congr 3; omega, ?_⟩
          simp only [List.modify_succ_cons, List.map_cons, aset, if_neg hk, keyV, a5, h1, h2]
theorem born_modify (f : MapEntry → MapEntry) (hf : ∀ e, (f e).born = e.born) : ∀ (es : List MapEntry) (j : Nat), (es.modify j f).map (·.born) = es.map (·.born)
  | [], _ => by simp
  | e :: es, 0 => by simp [hf]
  | e :: es, j + 1 => by simp [born_modify f hf es j]
theorem St_makeMap {T : TypeId} (hN : Nat.blt d N = true) (h : ∀ b, St ρ N ((d, .map (some b)) :: env) (MP b [] :: L) K) : St ρ N env L (Exec P Q ⟨some d, .makeMap T none, ty, pos, aft, g⟩ K) :=
  St_run (α := Nat) (v := fun b => .map (some b)) (M := fun b => MP b [] :: L) (by simpa using hN) (fun a w z y => by
    refine ⟨w.heap.size, w.alloc (.map #[] 0), ?_, (y.alloc _).mp_mk (es := []) (clk := 0) rfl (by simp) (by simp)⟩
    simp [execOp, Instr.makeMap, World.alloc_eq]) h
theorem Rd_mapGet {T E : TypeId} {kt b : Nat} {x y : Operand} {k : Int} {l : List (Int × Value)} {z v : Value} (hx : ev env x = some (.map (some b))) (hy : ev env y = some (.int .i64 k))
    (hT : tabLk tb.und T = some (.map kt E)) (hk : tabLk tb.und kt = some (.int .i64)) (hz : ∀ w, (zeroValue E).run P w = .ok z w) (hc : Has L (MP b l) L') (hv : (aget l k).getD z = v) : Rd P ρ N env L ⟨dd, .lookup T x y false, ty, pos, aft, g⟩ v :=
  fun a w q H => by
    subst hv
    obtain ⟨es, clk, p1, p2, p3, H1⟩ := (H.has hc).mp
    have hb := H1.block
    have hd := tab_ok tb.und_ok hk
    rcases map_find k .nilIface es l 0 p1 with ⟨a1, a2, _⟩ | ⟨j, e, u, a1, a2, a3, a4, _⟩
    · simp [execOp, Instr.lookup, ev_ok q hx, ev_ok q hy, run_und (tab_ok tb.und_ok hT), MapKept.run_getObj_map hb, MapKept.run_checkKey (k := .int .i64 k) hd rfl, MapKept.run_findKey hd a2, hz, a1, Result.andThen]
    · simp [execOp, Instr.lookup, ev_ok q hx, ev_ok q hy, run_und (tab_ok tb.und_ok hT), MapKept.run_getObj_map hb, MapKept.run_checkKey (k := .int .i64 k) hd rfl, MapKept.run_findKey hd a4, a3, Result.andThen]
theorem St_mapSet {T E : TypeId} {kt b : Nat} {x y u : Operand} {k : Int} {v : Value} {l : List (Int × Value)} (hx : ev env x = some (.map (some b))) (hy : ev env y = some (.int .i64 k)) (hu : ev env u = some v)
    (hT : tabLk tb.und T = some (.map kt E)) (hk : tabLk tb.und kt = some (.int .i64)) (hc : Has L (MP b l) L') (h : St ρ N env (MP b (aset l k v) :: L') K) :
    St ρ N env L (Exec P Q ⟨none, .mapUpdate T x y u, ty, pos, aft, g⟩ K) :=
  St_skipop (M := MP b (aset l k v) :: L') (fun a w q H => by
    obtain ⟨es, clk, p1, p2, p3, H1⟩ := (H.has hc).mp
    have hb := H1.block
    have hd := tab_ok tb.und_ok hk
    have hlt : b < w.heap.size := (Array.getElem?_eq_some_iff.1 hb).1
    have hput : ∀ o, Holds ρ { w with heap := w.heap.setIfInBounds b o } (one false b o :: L') := fun o =>
      H1.put rfl (by simp [hlt]) (fun c hne => by simp [Array.getElem?_setIfInBounds, Ne.symm hne])
    rcases map_find k v es l 0 p1 with ⟨a1, a2, a3⟩ | ⟨j, e, u', a1, a2, a3, a4, a5⟩
    · refine ⟨_, ?_, (hput (.map (es ++ [({ key := .int .i64 k, val := v, born := clk } : MapEntry)]).toArray (clk + 1))).mp_mk ?_ ?_ ?_⟩
      · simp [execOp, Instr.mapUpdate, ev_ok q hx, ev_ok q hy, ev_ok q hu, run_und (tab_ok tb.und_ok hT), MapKept.run_getObj_map hb, MapKept.run_checkKey (k := .int .i64 k) hd rfl, MapKept.run_findKey hd a2, MapKept.run_setObj_map _ hb, Result.andThen]
      · rw [a3]; simp [p1]
      · rw [List.map_append, List.nodup_append]
        refine ⟨p2, by simp, ?_⟩
        intro x hx y hy
        simp at hy
        obtain ⟨e, he, rfl⟩ := List.mem_map.1 hx
        have := p3 e he
        omega
      · intro e he
        rcases List.mem_append.1 he with h | h
        · have := p3 e h; omega
        · simp at h; subst h; dsimp only; omega
    · have hj : j < es.length := by
        rcases Nat.lt_or_ge j es.length with h | h
        · exact h
        · rw [List.getElem?_eq_none h] at a1; cases a1
      refine ⟨_, ?_, (hput (.map (es.modify j fun e => { e with key := .int .i64 k, val := v }).toArray clk)).mp_mk a5 ?_ ?_⟩
      · have hst := MapKept.run_keyThatStays (P := P) (w := w) (d := .int .i64) (k := .int .i64 k) rfl
        have ha : ((es.toArray[0 + j]?).map (·.key)).getD (.int .i64 k) = .int .i64 k := by simp [a1, a2]
        simp only [execOp, Instr.mapUpdate, ev_ok q hx, ev_ok q hy, ev_ok q hu, Sem.run_bind, run_und (tab_ok tb.und_ok hT), MapKept.run_getObj_map hb, MapKept.run_checkKey (k := .int .i64 k) hd rfl, MapKept.run_findKey hd a4, Result.andThen]
        rw [ha, hst]
        simp [Result.andThen, MapKept.run_setObj_map _ hb, Nat.zero_add]
      · rw [born_modify (fun e => { e with key := .int .i64 k, val := v }) (fun _ => rfl)]; exact p2
      · intro e' he'
        have h1 : e'.born ∈ (es.modify j fun e => { e with key := .int .i64 k, val := v }).map (·.born) := List.mem_map_of_mem he'
        rw [born_modify (fun e => { e with key := .int .i64 k, val := v }) (fun _ => rfl)] at h1
        obtain ⟨e2, h2, h3⟩ := List.mem_map.1 h1
        rw [← h3]; exact p3 e2 h2) h
/-- A slice that is read, and its two parts. -/
theorem Holds.rs_cut {α : Type} {f : α → List Value} {k : Nat} (hk : ∀ u, (f u).length = k) {A : Option Addr} {n c m : Nat} {xs : List α} {w : World} (hx : xs.length = n) (hm : m ≤ n) (hc : n ≤ c)
    (H : Holds ρ w (RS true (.slice A n c) n (xs.flatMap f) :: L)) :
    Holds ρ w (RS true (.slice A m c) m ((xs.take m).flatMap f) :: RS true (.slice (if c = m then A else A.map (·.add (m * k))) (n - m) (c - m)) (n - m) ((xs.drop m).flatMap f) :: RS true (.slice A n c) n (xs.flatMap f) :: L) := by
  rcases H.rs with ⟨e1, e2, _, H2⟩ | ⟨b, T, cap, pre, rest, e1, H2⟩
  · subst e1
    obtain rfl : m = 0 := by omega
    have : xs = [] := List.length_eq_zero_iff.1 hx
    subst this
    exact H.rs_nil.rs_nil
  · injection e1 with a1 a2 a3
    subst a1 a3
    have hcel := dup_cel b T (pre ++ xs.flatMap f ++ rest)
    have ht : pre ++ xs.flatMap f ++ rest = pre ++ (xs.take m).flatMap f ++ ((xs.drop m).flatMap f ++ rest) := by
      conv => lhs; rw [← List.take_append_drop m xs, List.flatMap_append]
      simp [List.append_assoc]
    have hd : pre ++ xs.flatMap f ++ rest = (pre ++ (xs.take m).flatMap f) ++ (xs.drop m).flatMap f ++ rest := by
      rw [ht]; simp [List.append_assoc]
    have hl : (pre ++ (xs.take m).flatMap f).length = pre.length + m * k := by
      rw [List.length_append, flat_len hk, List.length_take, Nat.min_eq_left (by omega)]
    have H3 := (H2.dup hcel).rs_row (n := n) (cap := c)
    have H4 : Holds ρ w (cel true b T (pre ++ xs.flatMap f ++ rest) :: RS true (.slice (some ⟨b, pre.length, none⟩) n c) n (xs.flatMap f) :: L) := H3.has (Has.tail Has.head)
    have H5 := H4.dup hcel
    have H6 : Holds ρ w (RS true (.slice (if c = m then some ⟨b, pre.length, none⟩ else (some (⟨b, pre.length, none⟩ : Addr)).map (·.add (m * k))) (n - m) (c - m)) (n - m) ((xs.drop m).flatMap f) :: cel true b T (pre ++ xs.flatMap f ++ rest) :: RS true (.slice (some ⟨b, pre.length, none⟩) n c) n (xs.flatMap f) :: L) := by
      by_cases hmn : m = n
      · subst hmn
        have e : xs.drop m = [] := by rw [List.drop_eq_nil_iff]; omega
        rw [e, Nat.sub_self]
        exact H4.rs_nil
      · rw [if_neg (by omega)]
        have H7 := H5
        rw [hd] at H7
        have H8 := H7.rs_row (n := n - m) (cap := c - m)
        rw [hl] at H8
        rw [Option.map_some, Addr.add_none, hd]
        exact H8
    have H9 : Holds ρ w (cel true b T (pre ++ xs.flatMap f ++ rest) :: RS true (.slice (if c = m then some ⟨b, pre.length, none⟩ else (some (⟨b, pre.length, none⟩ : Addr)).map (·.add (m * k))) (n - m) (c - m)) (n - m) ((xs.drop m).flatMap f) :: RS true (.slice (some ⟨b, pre.length, none⟩) n c) n (xs.flatMap f) :: L) := H6.has (Has.tail Has.head)
    rw [ht] at H9
    exact H9.rs_row
theorem St_rsCut {α : Type} {f : α → List Value} {k : Nat} (hk : ∀ u, (f u).length = k) {A : Option Addr} {n c m : Nat} {xs : List α} (hx : xs.length = n) (hm : m ≤ n) (hc : n ≤ c) (hh : Has L (RS true (.slice A n c) n (xs.flatMap f)) L')
    (h : St ρ N env (RS true (.slice A m c) m ((xs.take m).flatMap f) :: RS true (.slice (if c = m then A else A.map (·.add (m * k))) (n - m) (c - m)) (n - m) ((xs.drop m).flatMap f) :: RS true (.slice A n c) n (xs.flatMap f) :: L') G) : St ρ N env L G :=
  fun a w x y => h a w x ((y.has hh).rs_cut hk hx hm hc)
end Go.Proofs.YtfjnacakpeommaaGreatDoor.SL
/- Steps of a walk: an empty slice; a slice of texts. -/
namespace Go.Proofs.YtfjnacakpeommaaGreatDoor.SL
open Go
set_option autoImplicit false
set_option linter.unusedVariables false
set_option linter.unusedSimpArgs false
variable {ρ : Rst} {N : Nat} {env : Env} {L L' : List HP} {P : Program} {Q : Exit → Act → World → Prop} {K : Act → World → Prop} {G : Act → World → Prop}
variable {d : Nat} {dd : Option Nat} {op : Op} {ty : TypeId} {pos : String} {aft : Array Edge} {g : Option (Nat × Bool)} (tb : Tabs P)
theorem St_build0 {T E sz : Nat} {i : Inf} (hN : Nat.blt d N = true) (hu : tabLk tb.und T = some (.slice E)) (hi : tabLk tb.inf E = some i) (hz : i.zero.length = i.size)
    (h : ∀ b, St ρ N ((d, .slice (some ⟨b, 0, none⟩) 0 0) :: env) (Sl E sz (.slice (some ⟨b, 0, none⟩) 0 0) 0 [] :: L) K) :
    St ρ N env L (Exec P Q ⟨some d, .buildSlice T 0 #[], ty, pos, aft, g⟩ K) :=
  St_buildSlice (ρ := ρ) (env := env) (L := L) (Q := Q) (K := K) (ty := ty) (pos := pos) (aft := aft) (g := g) tb (n := 0) (ps := []) (pv := []) (cs := []) hN rfl hu hi (by simp) rfl hz fun b =>
    St_slRow (E := E) (sz := sz) (n := 0) (cs := []) .head (by simp) (h b)
/-- Two operations may come up now. -/
theorem Sa_two {lops : List Oper} {fuel k : Nat} {L0 R : List HP} {listed : Array Bool} {i j : Nat} (hr : Region.ready .any lops.toArray listed = [i, j]) (hs : listed.getD k false = true ∨ Split L L0 R)
    (h1 : St ρ N env L (wpOp P lops.toArray Q i (Wa P .any lops.toArray (CK k (HC ρ L0)) Q fuel (listed.setIfInBounds i true))))
    (h2 : St ρ N env L (wpOp P lops.toArray Q j (Wa P .any lops.toArray (CK k (HC ρ L0)) Q fuel (listed.setIfInBounds j true)))) :
    St ρ N env L (Wa P .any lops.toArray (CK k (HC ρ L0)) Q (fuel + 1) listed) :=
  Sa_all hr rfl hs fun m hm => by
    have h3 : m = i ∨ m = j := by simpa using hm
    rcases h3 with rfl | rfl
    · exact h1
    · exact h2
/-- Operations under a guard, in a region that draws its order. -/
theorem Sa_takeG {lops : List Oper} {fuel k : Nat} {L0 : List HP} {listed : Array Bool} {v : Value} {j : Nat} {b c : Bool} (i : Nat) (hi : lops[i]? = some ⟨some d, op, ty, pos, aft, some (j, b)⟩) (hb : gd lops env j = some (.bool c)) (hcb : c = b)
    (hc : (Region.noSelect lops.toArray && Region.free .any lops.toArray listed i && (Region.ready .any lops.toArray listed).contains i &&
      waitsT .any lops.toArray k i && !(Nat.beq k i) && !(listed.getD k false) && closedB .any lops.toArray listed) = true)
    (hQ : PanicOk Q) (hN : Nat.blt d N = true)
    (hy : Rd P ρ N env L0 ⟨some d, op, ty, pos, aft, some (j, b)⟩ v)
    (h : St ρ N ((d, v) :: env) L (Wa P .any lops.toArray (CK k (HC ρ L0)) Q fuel (listed.setIfInBounds i true))) :
    St ρ N env L (Wa P .any lops.toArray (CK k (HC ρ L0)) Q (fuel + 1) listed) := by
  subst hcb
  simp only [Bool.and_eq_true, Bool.not_eq_true'] at hc
  obtain ⟨⟨⟨⟨⟨⟨h1, h2⟩, h3⟩, h4⟩, h5⟩, h6⟩, h7⟩ := hc
  intro a w x y
  have hi' : lops.toArray[i]? = some ⟨some d, op, ty, pos, aft, some (j, c)⟩ := by simpa using hi
  have hg := gd_ok x hb
  refine Wa.first (H := HC ρ L0) (v := v) hi' (Region.noSelect_spec h1) (fun c a w h => hQ c (a.put (some d) v) a w rfl h) h4 (by intro e; subst e; simp at h5) fuel listed a w (Closed.of h7) h6 (Region.free_spec hi' h2) (by simpa using h3) (.inl ⟨by simp [Region.wanted, hg], fun w hw => hy a w x hw⟩) ?_
  exact h _ w (x.put (by simpa using hN) v) y
theorem Sa_opG {lops : List Oper} {i j : Nat} {b c : Bool} {o : Oper} {K : Act → World → Prop} (hi : lops[i]? = some o) (hg : o.guard = some (j, b)) (hb : gd lops env j = some (.bool c)) (hcb : c = b) (h : St ρ N env L (Exec P Q o K)) : St ρ N env L (wpOp P lops.toArray Q i K) := by
  subst hcb
  intro a w x y
  unfold wpOp
  have hi' : lops.toArray[i]? = some o := by simpa using hi
  have hg' := gd_ok x hb
  rw [hi']
  simp only [Region.wanted, hg, hg', if_true, beq_self_eq_true]
  exact .inl (h a w x y)
/-- Texts in a row. -/
abbrev tv (d : List UInt8) : List Value := [str d]
theorem tv_len (d : List UInt8) : (tv d).length = 1 := rfl
theorem tv_ok (l : List (List UInt8)) : (l.flatMap tv).all Value.oneCell' = true := by
  induction l with
  | nil => rfl
  | cons u l ih => rw [List.flatMap_cons, List.all_append, ih]; rfl
end Go.Proofs.YtfjnacakpeommaaGreatDoor.SL
/- Contracts: chapbookref10, chapbookref11. -/
namespace Go.Proofs.YtfjnacakpeommaaGreatDoor
open Go SL Pl
set_option autoImplicit false
set_option maxRecDepth 100000
set_option linter.unusedSimpArgs false
set_option linter.unusedVariables false
attribute [local irreducible] St Sq Exec QExec wpList wpQuiet Code.wp Exit.then Exit.inBlock bodyPost At Rd wpOp Wa QK GB
/-! The sender -/
structure sfOk (s : Sd) (v : Value) (all : List (List UInt8)) : Prop where
  l : all.length = s.acked + s.ps.length
  d : all.drop s.acked = s.ps
  c : ∃ A c, v = .slice A all.length c ∧ all.length ≤ c
def sfL (b : Nat) (s : Sd) (z : Value × List (List UInt8)) : List HP :=
  [lift (sfOk s z.1 z.2), cel false b 114 [nat .i64 s.win, nat .i64 s.last, z.1, nat .i64 s.acked], RS true z.1 z.2.length (z.2.flatMap tv)]
def SfP (b : Nat) (s : Sd) : HP := ex fun z => big (sfL b s z)
section
variable {ρ : Rst} {N : Nat} {env : Env} {L L' : List HP} {G : Act → World → Prop}
theorem St_sfOpen {b : Nat} {s : Sd} (hc : Has L (SfP b s) L') (h : ∀ (A : Option Addr) (c : Nat) (all : List (List UInt8)), all.length = s.acked + s.ps.length → all.drop s.acked = s.ps → all.length ≤ c →
    St ρ N env (cel false b 114 [nat .i64 s.win, nat .i64 s.last, .slice A all.length c, nat .i64 s.acked] :: RS true (.slice A all.length c) all.length (all.flatMap tv) :: L') G) : St ρ N env L G :=
  St_exOpen (l := sfL b s) hc fun z => St_lift fun hz => by
    obtain ⟨v, all⟩ := z
    obtain ⟨h1, h2, A, c, h3, h4⟩ := hz
    dsimp only at h1 h2 h3 h4
    subst h3
    exact h A c all h1 h2 h4
theorem St_sfMk {b : Nat} {s : Sd} {A : Option Addr} {c : Nat} {all : List (List UInt8)} (h1 : all.length = s.acked + s.ps.length) (h2 : all.drop s.acked = s.ps) (h3 : all.length ≤ c)
    (hs : Split L [cel false b 114 [nat .i64 s.win, nat .i64 s.last, .slice A all.length c, nat .i64 s.acked], RS true (.slice A all.length c) all.length (all.flatMap tv)] L') (h : St ρ N env (SfP b s :: L') G) : St ρ N env L G :=
  St_conv (fun w H => Holds.ex_mk (A := fun z => big (sfL b s z)) (.slice A all.length c, all) (Holds.shut (l := [_, _, _]) (Holds.lift_mk ⟨h1, h2, A, c, rfl, h3⟩ (H.split hs)))) h
end
theorem refClamp_sp (n lo hi : Int) (h : lo ≤ hi) : Sp Tryz.prog 122 [.int .i64 n, .int .i64 lo, .int .i64 hi] [] (fun v M => v = .int .i64 (clampN n lo hi) ∧ M = []) := by
  refine Sp.intro (P := Tryz.prog) (Tryz.func122) rfl Tryz.ntmps122 (by decide) rfl ?_
  intro ρ F
  unfold clampN
  by_cases h1 : n < lo
  · rw [if_pos h1]
    repeat' (first | (refine St_step ?_; (try with_reducible intro _)) | (refine St_step2 ?_ ?_ <;> (intro hb; (try simp only [beq_iff_eq, bne_iff_ne, decide_eq_true_eq, decide_eq_false_iff_not, Bool.not_eq_true', Bool.not_eq_false', beq_eq_false_iff_ne, bne_eq_false_iff_eq, ne_eq, Int.not_lt, Int.not_le, gt_iff_lt, ge_iff_le] at hb); (try (first | exact Bool.noConfusion hb | exact absurd trivial hb | (exfalso; omega))))) | fail)
    all_goals (first | contradiction | (exfalso; omega) | (exact St_ret1 (.inl rfl) rfl rfl ⟨rfl, rfl⟩ (by exact Split.auto)) | (exact St_ret2 (.inl rfl) rfl rfl rfl ⟨rfl, rfl⟩ (by exact Split.auto)) | (exact St_ret3 (.inl rfl) rfl rfl rfl rfl ⟨rfl, rfl⟩ (by exact Split.auto)))
  · rw [if_neg h1]
    by_cases h2 : n > hi
    · rw [if_pos h2]
      repeat' (first | (refine St_step ?_; (try with_reducible intro _)) | (refine St_step2 ?_ ?_ <;> (intro hb; (try simp only [beq_iff_eq, bne_iff_ne, decide_eq_true_eq, decide_eq_false_iff_not, Bool.not_eq_true', Bool.not_eq_false', beq_eq_false_iff_ne, bne_eq_false_iff_eq, ne_eq, Int.not_lt, Int.not_le, gt_iff_lt, ge_iff_le] at hb); (try (first | exact Bool.noConfusion hb | exact absurd trivial hb | (exfalso; omega))))) | fail)
      all_goals (first | contradiction | (exfalso; omega) | (exact St_ret1 (.inl rfl) rfl rfl ⟨rfl, rfl⟩ (by exact Split.auto)) | (exact St_ret2 (.inl rfl) rfl rfl rfl ⟨rfl, rfl⟩ (by exact Split.auto)) | (exact St_ret3 (.inl rfl) rfl rfl rfl rfl ⟨rfl, rfl⟩ (by exact Split.auto)))
    · rw [if_neg h2]
      repeat' (first | (refine St_step ?_; (try with_reducible intro _)) | (refine St_step2 ?_ ?_ <;> (intro hb; (try simp only [beq_iff_eq, bne_iff_ne, decide_eq_true_eq, decide_eq_false_iff_not, Bool.not_eq_true', Bool.not_eq_false', beq_eq_false_iff_ne, bne_eq_false_iff_eq, ne_eq, Int.not_lt, Int.not_le, gt_iff_lt, ge_iff_le] at hb); (try (first | exact Bool.noConfusion hb | exact absurd trivial hb | (exfalso; omega))))) | fail)
      all_goals (first | contradiction | (exfalso; omega) | (exact St_ret1 (.inl rfl) rfl rfl ⟨rfl, rfl⟩ (by exact Split.auto)) | (exact St_ret2 (.inl rfl) rfl rfl rfl ⟨rfl, rfl⟩ (by exact Split.auto)) | (exact St_ret3 (.inl rfl) rfl rfl rfl rfl ⟨rfl, rfl⟩ (by exact Split.auto)))
theorem sfNew_sp (w l : Int) : Sp Tryz.prog 101 [.int .i64 w, .int .i64 l] [] (fun v M => ∃ b, v = .pointer (some ⟨b, 0, none⟩) ∧ M = [SfP b (sdNew w l)]) := by
  refine Sp.intro (P := Tryz.prog) (Tryz.func101) rfl Tryz.ntmps101 (by decide) rfl ?_
  intro ρ F
  have c1 := refClamp_sp w 1 16 (by decide)
  have c2 := refClamp_sp l 0 1125899906842624 (by decide)
  have e1 := clamp_nat (w := w) (lo := 1) (hi := 16) (by decide) (by decide)
  have e2 := clamp_nat (w := l) (lo := 0) (hi := 1125899906842624) (by decide) (by decide)
  rw [e1] at c1
  rw [e2] at c2
  repeat' (first | (apply St_call (hf := c1); exact rfl; exact rfl; exact Split.auto; rintro _ _ ⟨rfl, rfl⟩) | (apply St_call (hf := c2); exact rfl; exact rfl; exact Split.auto; rintro _ _ ⟨rfl, rfl⟩) | (refine St_step ?_; (try with_reducible intro _)) | (refine St_step2 ?_ ?_ <;> (intro hb; (try simp only [beq_iff_eq, bne_iff_ne, decide_eq_true_eq, decide_eq_false_iff_not, Bool.not_eq_true', Bool.not_eq_false', beq_eq_false_iff_ne, bne_eq_false_iff_eq, ne_eq, Int.not_lt, Int.not_le, gt_iff_lt, ge_iff_le] at hb); (try (first | exact Bool.noConfusion hb | exact absurd trivial hb | (exfalso; omega))))) | fail)
  all_goals first | (exfalso; omega) | skip
  rename_i b
  refine St_conv (L' := RS true (.slice none 0 0) 0 [] :: _) (fun w H => Holds.rs_nil H) ?_
  refine St_sfMk (b := b) (s := sdNew w l) (A := none) (c := 0) (all := []) rfl rfl (Nat.le_refl _) (by exact Split.auto) ?_
  exact St_ret1 (.inl rfl) rfl rfl ⟨_, rfl, rfl⟩ (by exact Split.auto)
theorem sfAck_sp (b : Nat) (s : Sd) (n : Int) (ha : s.acked + s.ps.length ≤ 2000000000000000000) : Sp Tryz.prog 81 [.pointer (some ⟨b, 0, none⟩), .int .i64 n] [SfP b s] (fun v M => v = nat .i64 (sdGone s n) ∧ M = [SfP b (sdAck s n)]) := by
  refine Sp.intro (P := Tryz.prog) (Tryz.func81) rfl Tryz.ntmps81 (by decide) rfl ?_
  intro ρ F
  refine St_sfOpen (by exact Has.auto) fun A c all h1 h2 h3 => ?_
  by_cases hg : ((s.acked + s.ps.length : Nat) : Int) < n ∨ n ≤ s.acked
  · have e : sdGone s n = 0 := by unfold sdGone; rw [if_pos (by omega)]
    have e2 : sdAck s n = s := by unfold sdAck; rw [e]; simp
    rw [e, e2]
    rw [← h1] at hg
    repeat' (first | (refine St_step ?_; (try with_reducible intro _)) | (refine St_step2 ?_ ?_ <;> (intro hb; (try simp only [beq_iff_eq, bne_iff_ne, decide_eq_true_eq, decide_eq_false_iff_not, Bool.not_eq_true', Bool.not_eq_false', beq_eq_false_iff_ne, bne_eq_false_iff_eq, ne_eq, Int.not_lt, Int.not_le, gt_iff_lt, ge_iff_le] at hb); (try (first | exact Bool.noConfusion hb | exact absurd trivial hb | (exfalso; omega))))) | fail)
    all_goals first | (exfalso; omega) | skip
    all_goals refine St_sfMk (b := b) (s := s) (A := A) (c := c) (all := all) h1 h2 h3 (by exact Split.auto) ?_
    all_goals exact St_ret1 (.inl rfl) rfl rfl ⟨rfl, rfl⟩ (by exact Split.auto)
  · have e : sdGone s n = (n - s.acked).toNat := by unfold sdGone; rw [if_neg (by omega)]
    obtain ⟨m, hm⟩ : ∃ m : Nat, n = m := ⟨n.toNat, by omega⟩
    subst hm
    have ee : ((sdGone s m : Nat) : Int) = (m : Int) - s.acked := by rw [e]; omega
    have ea : (sdAck s m).acked = m := by show s.acked + sdGone s m = m; omega
    have ep : (sdAck s m).ps = s.ps.drop (sdGone s m) := rfl
    repeat' (first | (refine St_step ?_; (try with_reducible intro _)) | (refine St_step2 ?_ ?_ <;> (intro hb; (try simp only [beq_iff_eq, bne_iff_ne, decide_eq_true_eq, decide_eq_false_iff_not, Bool.not_eq_true', Bool.not_eq_false', beq_eq_false_iff_ne, bne_eq_false_iff_eq, ne_eq, Int.not_lt, Int.not_le, gt_iff_lt, ge_iff_le] at hb); (try (first | exact Bool.noConfusion hb | exact absurd trivial hb | (exfalso; omega))))) | fail)
    all_goals first | (exfalso; omega) | skip
    refine St_sfMk (b := b) (s := sdAck s m) (A := A) (c := c) (all := all) (by rw [ea, ep, List.length_drop]; omega) (by rw [ea, ep, ← h2, List.drop_drop]; congr 1; omega) h3 (by rw [ea]; exact Split.auto) ?_
    exact St_ret1 (.inl rfl) rfl rfl ⟨by rw [← ee], rfl⟩ (by exact Split.auto)
set_option maxHeartbeats 1000000 in
theorem sfOffer_sp (b : Nat) (s : Sd) (d : List UInt8) (hl : s.ps.length ≤ 1000000) (ha : s.acked + s.ps.length ≤ 100000000000) : Sp Tryz.prog 92 [.pointer (some ⟨b, 0, none⟩), str d] [SfP b s]
    (fun v M => (∃ n, v = .tuple [.int .i64 n, nat .i64 (sdOffer s d).2].toArray) ∧ M = [SfP b (sdOffer s d).1]) := by
  refine Sp.intro (P := Tryz.prog) (Tryz.func92) rfl Tryz.ntmps92 (by decide) rfl ?_
  intro ρ F
  refine St_sfOpen (by exact Has.auto) fun A c all h1 h2 h3 => ?_
  unfold sdOffer
  by_cases g1 : s.win ≤ s.ps.length
  · rw [if_pos g1]
    repeat' (first | (apply St_regionQ; kernel_rfl; kernel_rfl) | (refine St_step ?_; (try with_reducible intro _)) | (refine St_step2 ?_ ?_ <;> (intro hb; (try simp only [beq_iff_eq, bne_iff_ne, decide_eq_true_eq, decide_eq_false_iff_not, Bool.not_eq_true', Bool.not_eq_false', beq_eq_false_iff_ne, bne_eq_false_iff_eq, ne_eq, Int.not_lt, Int.not_le, gt_iff_lt, ge_iff_le] at hb); (try (first | exact Bool.noConfusion hb | exact absurd trivial hb | (exfalso; omega))))) | fail)
    all_goals first | (exfalso; omega) | skip
    refine St_sfMk (b := b) (s := s) (A := A) (c := c) (all := all) h1 h2 h3 (by exact Split.auto) ?_
    exact St_ret2 (.inl rfl) rfl rfl rfl ⟨⟨_, rfl⟩, rfl⟩ (by exact Split.auto)
  · rw [if_neg g1]
    by_cases g2 : s.last ≤ s.acked + s.ps.length
    · rw [if_pos g2]
      repeat' (first | (apply St_regionQ; kernel_rfl; kernel_rfl) | (refine St_step ?_; (try with_reducible intro _)) | (refine St_step2 ?_ ?_ <;> (intro hb; (try simp only [beq_iff_eq, bne_iff_ne, decide_eq_true_eq, decide_eq_false_iff_not, Bool.not_eq_true', Bool.not_eq_false', beq_eq_false_iff_ne, bne_eq_false_iff_eq, ne_eq, Int.not_lt, Int.not_le, gt_iff_lt, ge_iff_le] at hb); (try (first | exact Bool.noConfusion hb | exact absurd trivial hb | (exfalso; omega))))) | fail)
      all_goals first | (exfalso; omega) | skip
      refine St_sfMk (b := b) (s := s) (A := A) (c := c) (all := all) h1 h2 h3 (by exact Split.auto) ?_
      exact St_ret2 (.inl rfl) rfl rfl rfl ⟨⟨_, rfl⟩, rfl⟩ (by exact Split.auto)
    · rw [if_neg g2]
      have hfl := SL.flat_len tv_len all
      repeat' (first | (apply St_regionQ; kernel_rfl; kernel_rfl) | (apply St_build0 tb (sz := 1); exact rfl; exact rfl; exact rfl; exact rfl; intro b0) | (apply St_append tb (sz := 1) (n := 0) (m := all.length) (ds := all.flatMap tv); (repeat exact rfl); exact Has.auto; (intro _; exact Src.rs (by exact Has.auto) hfl); exact tv_ok all; (dsimp only; omega); intro v'; refine St_slIs (v := v') (n := 0 + all.length) (by exact Has.auto) ?_; rintro A1 c1 rfl) | (apply St_append tb (sz := 1) (n := 0 + all.length) (m := 1) (cs := [] ++ all.flatMap tv) (ds := [str d]); (repeat exact rfl); exact Has.auto; (intro _; exact Src.row (n := 1) (by exact Has.auto) (by simp) (by exact rfl)); exact rfl; (dsimp only; omega); intro v'; refine St_slIs (v := v') (n := 0 + all.length + 1) (by exact Has.auto) ?_; rintro A2 c2 rfl; refine St_slRoom (A := A2) (n := 0 + all.length + 1) (cap := c2) (cs := [] ++ all.flatMap tv ++ [str d]) (by exact Has.auto) fun hroom => ?_) | (refine St_step ?_; (try with_reducible intro _)) | (refine St_step2 ?_ ?_ <;> (intro hb; (try simp only [beq_iff_eq, bne_iff_ne, decide_eq_true_eq, decide_eq_false_iff_not, Bool.not_eq_true', Bool.not_eq_false', beq_eq_false_iff_ne, bne_eq_false_iff_eq, ne_eq, Int.not_lt, Int.not_le, gt_iff_lt, ge_iff_le] at hb); (try (first | exact Bool.noConfusion hb | exact absurd trivial hb | (exfalso; omega))))) | fail)
      all_goals first | (exfalso; omega) | skip
      have hn : 0 + all.length + 1 = (all ++ [d]).length := by simp
      rw [hn] at hroom
      refine St_slShare (v := .slice A2 (0 + all.length + 1) c2) (cs := [] ++ all.flatMap tv ++ [str d]) (by exact Has.auto) ?_
      refine St_conv (L' := RS true (.slice A2 (all ++ [d]).length c2) (all ++ [d]).length ((all ++ [d]).flatMap tv) :: _) (fun w H => by rw [← hn, List.flatMap_append]; exact H) ?_
      refine St_cel (r := false) (b := b) (cs' := [nat .i64 s.win, nat .i64 s.last, .slice A2 (all ++ [d]).length c2, nat .i64 s.acked]) (by exact Has.auto) (by rw [hn]) ?_
      refine St_sfMk (b := b) (s := ⟨s.win, s.last, s.acked, s.ps ++ [d]⟩) (A := A2) (c := c2) (all := all ++ [d]) (by simp; omega) (by dsimp only; rw [List.drop_append_of_le_length (by omega), h2]) hroom (by exact Split.auto) ?_
      exact St_ret2 (.inl rfl) rfl rfl rfl ⟨⟨_, rfl⟩, rfl⟩ (by exact Split.auto)
theorem sfLeft_sp (b : Nat) (s : Sd) (ha : s.acked + s.ps.length ≤ 100000000000) : Sp Tryz.prog 19 [.pointer (some ⟨b, 0, none⟩)] [SfP b s]
    (fun v M => (∃ A c, v = .slice A s.ps.length c) ∧ M = [RS true v s.ps.length (s.ps.flatMap tv), SfP b s]) := by
  refine Sp.intro (P := Tryz.prog) (Tryz.func19) rfl Tryz.ntmps19 (by decide) rfl ?_
  intro ρ F
  refine St_sfOpen (by exact Has.auto) fun A c all h1 h2 h3 => ?_
  refine St_rsCut (f := tv) (k := 1) tv_len (A := A) (n := all.length) (c := c) (m := s.acked) (xs := all) rfl (by omega) h3 (by exact Has.auto) ?_
  rw [h2]
  have hn : all.length - s.acked = s.ps.length := by omega
  have hfl := SL.flat_len tv_len s.ps
  rw [hn]
  repeat' (first | (refine St_step ?_; (try with_reducible intro _)) | (refine St_step2 ?_ ?_ <;> (intro hb; (try simp only [beq_iff_eq, bne_iff_ne, decide_eq_true_eq, decide_eq_false_iff_not, Bool.not_eq_true', Bool.not_eq_false', beq_eq_false_iff_ne, bne_eq_false_iff_eq, ne_eq, Int.not_lt, Int.not_le, gt_iff_lt, ge_iff_le] at hb); (try (first | exact Bool.noConfusion hb | exact absurd trivial hb | (exfalso; omega))))) | fail)
  (apply St_regionA (1000) ([cel false b 114 [nat .i64 s.win, nat .i64 s.last, .slice A all.length c, nat .i64 s.acked]]); kernel_rfl; (apply Sa_take 1; exact rfl; kernel_rfl; exact PanicOk.auto; exact rfl; (first | (apply Rd_sliceFrom tb; exact rfl; exact rfl; exact rfl; exact rfl; omega) | exact Rd_auto)); (apply Sa_take 2; exact rfl; kernel_rfl; exact PanicOk.auto; exact rfl; (first | (apply Rd_sliceFrom tb; exact rfl; exact rfl; exact rfl; exact rfl; omega) | exact Rd_auto)); (apply Sa_take 3; exact rfl; kernel_rfl; exact PanicOk.auto; exact rfl; (first | (apply Rd_sliceFrom tb; exact rfl; exact rfl; exact rfl; exact rfl; omega) | exact Rd_auto)); (apply Sa_take 4; exact rfl; kernel_rfl; exact PanicOk.auto; exact rfl; (first | (apply Rd_sliceFrom tb; exact rfl; exact rfl; exact rfl; exact rfl; omega) | exact Rd_auto)); (apply Sa_take 5; exact rfl; kernel_rfl; exact PanicOk.auto; exact rfl; (first | (apply Rd_sliceFrom tb; exact rfl; exact rfl; exact rfl; exact rfl; omega) | exact Rd_auto)); (apply Sa_take 6; exact rfl; kernel_rfl; exact PanicOk.auto; exact rfl; (first | (apply Rd_sliceFrom tb; exact rfl; exact rfl; exact rfl; exact rfl; omega) | exact Rd_auto)); (apply Sa_take 7; exact rfl; kernel_rfl; exact PanicOk.auto; exact rfl; (first | (apply Rd_sliceFrom tb; exact rfl; exact rfl; exact rfl; exact rfl; omega) | exact Rd_auto)); (apply Sa_take 8; exact rfl; kernel_rfl; exact PanicOk.auto; exact rfl; (first | (apply Rd_sliceFrom tb; exact rfl; exact rfl; exact rfl; exact rfl; omega) | exact Rd_auto)); (apply Sa_take 9; exact rfl; kernel_rfl; exact PanicOk.auto; exact rfl; (first | (apply Rd_sliceFrom tb; exact rfl; exact rfl; exact rfl; exact rfl; omega) | exact Rd_auto)); (apply Sa_one (i := 0); kernel_rfl; exact .inr (by exact Split.auto)); (apply Sa_op; exact rfl; exact rfl); (first | (apply St_build0 tb (sz := 1); exact rfl; exact rfl; exact rfl; exact rfl; intro b0) | (refine St_val (t := 12) (v' := .slice (if c = s.acked then A else A.map (·.add (s.acked * 1))) s.ps.length (c - s.acked)) rfl (by rw [← hn]; rfl) ?_; apply St_append tb (sz := 1) (n := 0) (m := s.ps.length) (ds := s.ps.flatMap tv); (repeat exact rfl); exact Has.auto; (intro _; exact Src.rs (by exact Has.auto) hfl); exact tv_ok s.ps; (dsimp only; omega); intro v'; refine St_slIs (v := v') (n := 0 + s.ps.length) (by exact Has.auto) ?_; rintro A1 c1 rfl) | (apply St_rd; exact rfl; (first | (apply Rd_sliceFrom tb; exact rfl; exact rfl; exact rfl; exact rfl; omega))) | (apply Sq_rd; exact rfl; (first | (apply Rd_sliceFrom tb; exact rfl; exact rfl; exact rfl; exact rfl; omega))) | (refine St_step ?_; (try with_reducible intro _)) | (refine St_step2 ?_ ?_ <;> (intro hb; (try simp only [beq_iff_eq, bne_iff_ne, decide_eq_true_eq, decide_eq_false_iff_not, Bool.not_eq_true', Bool.not_eq_false', beq_eq_false_iff_ne, bne_eq_false_iff_eq, ne_eq, Int.not_lt, Int.not_le, gt_iff_lt, ge_iff_le] at hb); (try (first | exact Bool.noConfusion hb | exact absurd trivial hb | (exfalso; omega))))) | fail); (apply Sa_one (i := 10); kernel_rfl; exact .inr (by exact Split.auto)); (apply Sa_op; exact rfl; exact rfl); (first | (apply St_build0 tb (sz := 1); exact rfl; exact rfl; exact rfl; exact rfl; intro b0) | (refine St_val (t := 12) (v' := .slice (if c = s.acked then A else A.map (·.add (s.acked * 1))) s.ps.length (c - s.acked)) rfl (by rw [← hn]; rfl) ?_; apply St_append tb (sz := 1) (n := 0) (m := s.ps.length) (ds := s.ps.flatMap tv); (repeat exact rfl); exact Has.auto; (intro _; exact Src.rs (by exact Has.auto) hfl); exact tv_ok s.ps; (dsimp only; omega); intro v'; refine St_slIs (v := v') (n := 0 + s.ps.length) (by exact Has.auto) ?_; rintro A1 c1 rfl) | (apply St_rd; exact rfl; (first | (apply Rd_sliceFrom tb; exact rfl; exact rfl; exact rfl; exact rfl; omega))) | (apply Sq_rd; exact rfl; (first | (apply Rd_sliceFrom tb; exact rfl; exact rfl; exact rfl; exact rfl; omega))) | (refine St_step ?_; (try with_reducible intro _)) | (refine St_step2 ?_ ?_ <;> (intro hb; (try simp only [beq_iff_eq, bne_iff_ne, decide_eq_true_eq, decide_eq_false_iff_not, Bool.not_eq_true', Bool.not_eq_false', beq_eq_false_iff_ne, bne_eq_false_iff_eq, ne_eq, Int.not_lt, Int.not_le, gt_iff_lt, ge_iff_le] at hb); (try (first | exact Bool.noConfusion hb | exact absurd trivial hb | (exfalso; omega))))) | fail); (apply Sa_take 11; exact rfl; kernel_rfl; exact PanicOk.auto; exact rfl; (first | (apply Rd_sliceFrom tb; exact rfl; exact rfl; exact rfl; exact rfl; omega) | exact Rd_auto)); (apply Sa_done; kernel_rfl; exact .inr (by exact Split.auto)))
  repeat' (first | (refine St_step ?_; (try with_reducible intro _)) | (refine St_step2 ?_ ?_ <;> (intro hb; (try simp only [beq_iff_eq, bne_iff_ne, decide_eq_true_eq, decide_eq_false_iff_not, Bool.not_eq_true', Bool.not_eq_false', beq_eq_false_iff_ne, bne_eq_false_iff_eq, ne_eq, Int.not_lt, Int.not_le, gt_iff_lt, ge_iff_le] at hb); (try (first | exact Bool.noConfusion hb | exact absurd trivial hb | (exfalso; omega))))) | fail)
  refine St_slShare (v := .slice A1 (0 + s.ps.length) c1) (cs := [] ++ s.ps.flatMap tv) (by exact Has.auto) ?_
  refine St_conv (L' := RS true (.slice A1 s.ps.length c1) s.ps.length (s.ps.flatMap tv) :: _) (fun w H => by rw [Nat.zero_add] at H; exact H) ?_
  refine St_sfMk (b := b) (s := s) (A := A) (c := c) (all := all) h1 h2 h3 (by exact Split.auto) ?_
  refine St_val (t := 2) (v' := .slice A1 s.ps.length c1) rfl (by rw [Nat.zero_add]) ?_
  exact St_ret1 (.inl rfl) rfl rfl ⟨⟨_, _, rfl⟩, rfl⟩ (by exact Split.auto)
/-! The receiver -/
structure rfOk (r : Rc) (all : List (List UInt8)) (p : Nat) : Prop where
  l : all.length = r.acked
  s : p + r.q.length = r.acked
  d : all.drop p = r.q
def rfL (b : Nat) (r : Rc) (z : (Option Addr × Nat) × List (List UInt8) × Nat) : List HP :=
  [lift (rfOk r z.2.1 z.2.2), cel false b 146 [nat .i64 r.room, .slice z.1.1 z.2.1.length z.1.2, nat .i64 z.2.2], RS true (.slice z.1.1 z.2.1.length z.1.2) z.2.1.length (z.2.1.flatMap tv)]
def RfP (b : Nat) (r : Rc) : HP := ex fun z => big (rfL b r z)
section
variable {ρ : Rst} {N : Nat} {env : Env} {L L' : List HP} {G : Act → World → Prop}
theorem St_rfOpen {b : Nat} {r : Rc} (hc : Has L (RfP b r) L') (h : ∀ (A : Option Addr) (c : Nat) (all : List (List UInt8)) (p : Nat), all.length = r.acked → p + r.q.length = r.acked → all.drop p = r.q →
    St ρ N env (cel false b 146 [nat .i64 r.room, .slice A all.length c, nat .i64 p] :: RS true (.slice A all.length c) all.length (all.flatMap tv) :: L') G) : St ρ N env L G :=
  St_exOpen (l := rfL b r) hc fun z => St_lift fun hz => h z.1.1 z.1.2 z.2.1 z.2.2 hz.l hz.s hz.d
theorem St_rfMk {b : Nat} {r : Rc} {A : Option Addr} {c : Nat} {all : List (List UInt8)} {p : Nat} (h1 : all.length = r.acked) (h2 : p + r.q.length = r.acked) (h3 : all.drop p = r.q)
    (hs : Split L [cel false b 146 [nat .i64 r.room, .slice A all.length c, nat .i64 p], RS true (.slice A all.length c) all.length (all.flatMap tv)] L') (h : St ρ N env (RfP b r :: L') G) : St ρ N env L G :=
  St_conv (fun w H => Holds.ex_mk (A := fun z => big (rfL b r z)) ((A, c), all, p) (Holds.shut (l := [_, _, _]) (Holds.lift_mk ⟨h1, h2, h3⟩ (H.split hs)))) h
end
theorem rfNew_sp (n : Int) : Sp Tryz.prog 102 [.int .i64 n] [] (fun v M => ∃ b, v = .pointer (some ⟨b, 0, none⟩) ∧ M = [RfP b (rcNew n)]) := by
  refine Sp.intro (P := Tryz.prog) (Tryz.func102) rfl Tryz.ntmps102 (by decide) rfl ?_
  intro ρ F
  have e1 := clamp_nat (w := n) (lo := 1) (hi := 16) (by decide) (by decide)
  have e2 : ((rcNew n).room : Int) = clampN n 1 16 := e1.symm
  unfold clampN at e2
  by_cases h1 : n < 1
  · rw [if_pos h1] at e2
    repeat' (first | (refine St_step ?_; (try with_reducible intro _)) | (refine St_step2 ?_ ?_ <;> (intro hb; (try simp only [beq_iff_eq, bne_iff_ne, decide_eq_true_eq, decide_eq_false_iff_not, Bool.not_eq_true', Bool.not_eq_false', beq_eq_false_iff_ne, bne_eq_false_iff_eq, ne_eq, Int.not_lt, Int.not_le, gt_iff_lt, ge_iff_le] at hb); (try (first | exact Bool.noConfusion hb | exact absurd trivial hb | (exfalso; omega))))) | fail)
    all_goals first | (exfalso; omega) | skip
    rename_i b
    refine St_conv (L' := RS true (.slice none 0 0) 0 [] :: _) (fun w H => Holds.rs_nil H) ?_
    refine St_cel (r := false) (b := b) (cs' := [nat .i64 (rcNew n).room, .slice none 0 0, .int .i64 0]) (by exact Has.auto) (by rw [show nat .i64 (rcNew n).room = Value.int .i64 1 from congrArg (Value.int .i64) e2]) ?_
    refine St_rfMk (b := b) (r := rcNew n) (A := none) (c := 0) (all := []) (p := 0) rfl rfl rfl (by exact Split.auto) ?_
    exact St_ret1 (.inl rfl) rfl rfl ⟨_, rfl, rfl⟩ (by exact Split.auto)
  · rw [if_neg h1] at e2
    by_cases h2 : n > 16
    · rw [if_pos h2] at e2
      repeat' (first | (refine St_step ?_; (try with_reducible intro _)) | (refine St_step2 ?_ ?_ <;> (intro hb; (try simp only [beq_iff_eq, bne_iff_ne, decide_eq_true_eq, decide_eq_false_iff_not, Bool.not_eq_true', Bool.not_eq_false', beq_eq_false_iff_ne, bne_eq_false_iff_eq, ne_eq, Int.not_lt, Int.not_le, gt_iff_lt, ge_iff_le] at hb); (try (first | exact Bool.noConfusion hb | exact absurd trivial hb | (exfalso; omega))))) | fail)
      all_goals first | (exfalso; omega) | skip
      rename_i b
      refine St_conv (L' := RS true (.slice none 0 0) 0 [] :: _) (fun w H => Holds.rs_nil H) ?_
      refine St_cel (r := false) (b := b) (cs' := [nat .i64 (rcNew n).room, .slice none 0 0, .int .i64 0]) (by exact Has.auto) (by rw [show nat .i64 (rcNew n).room = Value.int .i64 16 from congrArg (Value.int .i64) e2]) ?_
      refine St_rfMk (b := b) (r := rcNew n) (A := none) (c := 0) (all := []) (p := 0) rfl rfl rfl (by exact Split.auto) ?_
      exact St_ret1 (.inl rfl) rfl rfl ⟨_, rfl, rfl⟩ (by exact Split.auto)
    · rw [if_neg h2] at e2
      repeat' (first | (refine St_step ?_; (try with_reducible intro _)) | (refine St_step2 ?_ ?_ <;> (intro hb; (try simp only [beq_iff_eq, bne_iff_ne, decide_eq_true_eq, decide_eq_false_iff_not, Bool.not_eq_true', Bool.not_eq_false', beq_eq_false_iff_ne, bne_eq_false_iff_eq, ne_eq, Int.not_lt, Int.not_le, gt_iff_lt, ge_iff_le] at hb); (try (first | exact Bool.noConfusion hb | exact absurd trivial hb | (exfalso; omega))))) | fail)
      all_goals first | (exfalso; omega) | skip
      rename_i b
      refine St_conv (L' := RS true (.slice none 0 0) 0 [] :: _) (fun w H => Holds.rs_nil H) ?_
      refine St_cel (r := false) (b := b) (cs' := [nat .i64 (rcNew n).room, .slice none 0 0, .int .i64 0]) (by exact Has.auto) (by rw [show nat .i64 (rcNew n).room = Value.int .i64 n from congrArg (Value.int .i64) e2]) ?_
      refine St_rfMk (b := b) (r := rcNew n) (A := none) (c := 0) (all := []) (p := 0) rfl rfl rfl (by exact Split.auto) ?_
      exact St_ret1 (.inl rfl) rfl rfl ⟨_, rfl, rfl⟩ (by exact Split.auto)
set_option maxHeartbeats 1000000 in
theorem rfHear_sp (b : Nat) (r : Rc) (seq : Int) (d : List UInt8) (ha : r.acked ≤ 100000000000) (hs : seq ≤ 9000000000000000000) : Sp Tryz.prog 82 [.pointer (some ⟨b, 0, none⟩), .int .i64 seq, str d] [RfP b r]
    (fun v M => v = .bool (rcTakes r seq) ∧ M = [RfP b (rcHear r seq d)]) := by
  refine Sp.intro (P := Tryz.prog) (Tryz.func82) rfl Tryz.ntmps82 (by decide) rfl ?_
  intro ρ F
  refine St_rfOpen (by exact Has.auto) fun A c all p h1 h2 h3 => ?_
  unfold rcTakes rcHear
  by_cases hc : r.room ≤ r.q.length ∨ seq ≠ (r.acked : Int) + 1
  · rw [if_pos hc, decide_eq_true hc]
    repeat' (first | (apply St_regionQ; kernel_rfl; kernel_rfl) | (refine St_step ?_; (try with_reducible intro _)) | (refine St_step2 ?_ ?_ <;> (intro hb; (try simp only [beq_iff_eq, bne_iff_ne, decide_eq_true_eq, decide_eq_false_iff_not, Bool.not_eq_true', Bool.not_eq_false', beq_eq_false_iff_ne, bne_eq_false_iff_eq, ne_eq, Int.not_lt, Int.not_le, gt_iff_lt, ge_iff_le] at hb); (try (first | exact Bool.noConfusion hb | exact absurd trivial hb | (exfalso; omega))))) | fail)
    all_goals first | (exfalso; omega) | skip
    all_goals refine St_rfMk (b := b) (r := r) (A := A) (c := c) (all := all) (p := p) h1 h2 h3 (by exact Split.auto) ?_
    all_goals exact St_ret1 (.inl rfl) rfl rfl ⟨rfl, rfl⟩ (by exact Split.auto)
  · rw [if_neg hc, decide_eq_false hc]
    have hfl := SL.flat_len tv_len all
    repeat' (first | (apply St_regionQ; kernel_rfl; kernel_rfl) | (apply St_build0 tb (sz := 1); exact rfl; exact rfl; exact rfl; exact rfl; intro b0) | (apply St_append tb (sz := 1) (n := 0) (m := all.length) (ds := all.flatMap tv); (repeat exact rfl); exact Has.auto; (intro _; exact Src.rs (by exact Has.auto) hfl); exact tv_ok all; (dsimp only; omega); intro v'; refine St_slIs (v := v') (n := 0 + all.length) (by exact Has.auto) ?_; rintro A1 c1 rfl) | (apply St_append tb (sz := 1) (n := 0 + all.length) (m := 1) (cs := [] ++ all.flatMap tv) (ds := [str d]); (repeat exact rfl); exact Has.auto; (intro _; exact Src.row (n := 1) (by exact Has.auto) (by simp) (by exact rfl)); exact rfl; (dsimp only; omega); intro v'; refine St_slIs (v := v') (n := 0 + all.length + 1) (by exact Has.auto) ?_; rintro A2 c2 rfl) | (refine St_step ?_; (try with_reducible intro _)) | (refine St_step2 ?_ ?_ <;> (intro hb; (try simp only [beq_iff_eq, bne_iff_ne, decide_eq_true_eq, decide_eq_false_iff_not, Bool.not_eq_true', Bool.not_eq_false', beq_eq_false_iff_ne, bne_eq_false_iff_eq, ne_eq, Int.not_lt, Int.not_le, gt_iff_lt, ge_iff_le] at hb); (try (first | exact Bool.noConfusion hb | exact absurd trivial hb | (exfalso; omega))))) | fail)
    all_goals first | (exfalso; omega) | skip
    have hn : 0 + all.length + 1 = (all ++ [d]).length := by simp
    refine St_slShare (v := .slice A2 (0 + all.length + 1) c2) (cs := [] ++ all.flatMap tv ++ [str d]) (by exact Has.auto) ?_
    refine St_conv (L' := RS true (.slice A2 (all ++ [d]).length c2) (all ++ [d]).length ((all ++ [d]).flatMap tv) :: _) (fun w H => by rw [← hn, List.flatMap_append]; exact H) ?_
    refine St_cel (r := false) (b := b) (cs' := [nat .i64 r.room, .slice A2 (all ++ [d]).length c2, nat .i64 p]) (by exact Has.auto) (by rw [hn]) ?_
    refine St_rfMk (b := b) (r := ⟨r.room, r.acked + 1, r.q ++ [d]⟩) (A := A2) (c := c2) (all := all ++ [d]) (p := p) (by simp; omega) (by simp; omega) (by dsimp only; rw [List.drop_append_of_le_length (by omega), h3]) (by exact Split.auto) ?_
    exact St_ret1 (.inl rfl) rfl rfl ⟨rfl, rfl⟩ (by exact Split.auto)
theorem rfPop_sp (b : Nat) (r : Rc) (ha : r.acked ≤ 100000000000) : Sp Tryz.prog 42 [.pointer (some ⟨b, 0, none⟩)] [RfP b r]
    (fun v M => v = .tuple [str (r.q.headD []), .bool (!r.q.isEmpty)].toArray ∧ M = [RfP b (rcPop r)]) := by
  refine Sp.intro (P := Tryz.prog) (Tryz.func42) rfl Tryz.ntmps42 (by decide) rfl ?_
  intro ρ F
  refine St_rfOpen (by exact Has.auto) fun A c all p h1 h2 h3 => ?_
  obtain ⟨room, acked, q⟩ := r
  dsimp only at *
  cases q with
  | nil =>
    have h2 : p + 0 = acked := h2
    repeat' (first | (apply St_regionQ; kernel_rfl; kernel_rfl) | (refine St_step ?_; (try with_reducible intro _)) | (refine St_step2 ?_ ?_ <;> (intro hb; (try simp only [beq_iff_eq, bne_iff_ne, decide_eq_true_eq, decide_eq_false_iff_not, Bool.not_eq_true', Bool.not_eq_false', beq_eq_false_iff_ne, bne_eq_false_iff_eq, ne_eq, Int.not_lt, Int.not_le, gt_iff_lt, ge_iff_le] at hb); (try (first | exact Bool.noConfusion hb | exact absurd trivial hb | (exfalso; omega))))) | fail)
    all_goals first | (exfalso; omega) | skip
    refine St_rfMk (b := b) (r := ⟨room, acked, []⟩) (A := A) (c := c) (all := all) (p := p) h1 h2 h3 (by exact Split.auto) ?_
    exact St_ret2 (.inl rfl) rfl rfl rfl ⟨rfl, rfl⟩ (by exact Split.auto)
  | cons d q =>
    have h2 : p + (q.length + 1) = acked := h2
    have hat : all[p]? = some d := by
      have := congrArg (·[0]?) h3
      simpa using this
    have hdr : all.drop (p + 1) = q := by
      rw [← List.drop_drop, h3]; rfl
    refine St_rsOpen (r := true) (v := .slice A all.length c) (n := all.length) (cs := all.flatMap tv) (by exact Has.auto) (by omega) ?_
    rintro b3 T3 cap3 pre3 rest3 hv3
    injection hv3 with q1 q2 q3
    subst q1 q3
    have hld3 : (pre3 ++ all.flatMap tv ++ rest3)[pre3.length + ((p : Int) + 1 - 1).toNat * 1]? = some (str d) := by
      have e : ((p : Int) + 1 - 1).toNat = p := by omega
      have := flat_cell tv_len (us := all) (i := p) (j := 0) (u := d) pre3 rest3 hat (by decide)
      rw [e]; exact this
    repeat' (first | (apply St_regionQ; kernel_rfl; kernel_rfl) | (apply St_rd; exact rfl; (first | (apply Rd_loadn tb; exact rfl; exact rfl; exact rfl; exact Has.auto; exact hld3))) | (apply Sq_rd; exact rfl; (first | (apply Rd_loadn tb; exact rfl; exact rfl; exact rfl; exact Has.auto; exact hld3))) | (refine St_step ?_; (try with_reducible intro _)) | (refine St_step2 ?_ ?_ <;> (intro hb; (try simp only [beq_iff_eq, bne_iff_ne, decide_eq_true_eq, decide_eq_false_iff_not, Bool.not_eq_true', Bool.not_eq_false', beq_eq_false_iff_ne, bne_eq_false_iff_eq, ne_eq, Int.not_lt, Int.not_le, gt_iff_lt, ge_iff_le] at hb); (try (first | exact Bool.noConfusion hb | exact absurd trivial hb | (exfalso; omega))))) | fail)
    all_goals first | (exfalso; omega) | skip
    refine St_rsMk (r := true) (n := all.length) (cap := c) (pre := pre3) (cs := all.flatMap tv) (rest := rest3) (by exact Has.auto) ?_
    refine St_rfMk (b := b) (r := ⟨room, acked, q⟩) (A := some ⟨b3, pre3.length, none⟩) (c := c) (all := all) (p := p + 1) h1 (by dsimp only; omega) hdr (by exact Split.auto) ?_
    exact St_ret2 (.inl rfl) rfl rfl rfl ⟨rfl, rfl⟩ (by exact Split.auto)
end Go.Proofs.YtfjnacakpeommaaGreatDoor
/- Plain: a datagram that comes again; what is sent at a tick; the numbers of an origin's rounds. -/
namespace Go.Proofs.YtfjnacakpeommaaGreatDoor
open Go SL Pl
set_option autoImplicit false
set_option maxRecDepth 100000
set_option linter.unusedSimpArgs false
set_option linter.unusedVariables false
attribute [local irreducible] St Sq Exec QExec wpList wpQuiet Code.wp Exit.then Exit.inBlock bodyPost At Rd wpOp Wa QK GB
def lkDone (k : Lk) : Lk := ⟨k.sd, ⟨k.rc.room, k.rc.acked, []⟩, k.ep, k.win, k.room, k.pas⟩
theorem clampN_id {n lo hi : Int} (h1 : lo ≤ n) (h2 : n ≤ hi) : clampN n lo hi = n := by
  unfold clampN; rw [if_neg (by omega), if_neg (by omega)]
theorem sdAck_again (s : Sd) (n : Int) : sdAck (sdAck s n) n = sdAck s n := by
  have h : sdGone (sdAck s n) n = 0 := by
    by_cases hc : ((s.acked + s.ps.length : Nat) : Int) < n ∨ n ≤ s.acked
    · have hg : sdGone s n = 0 := by unfold sdGone; rw [if_pos (by omega)]
      have : sdAck s n = s := by unfold sdAck; rw [hg]; simp
      rw [this]; exact hg
    · have hg : sdGone s n = (n - s.acked).toNat := by unfold sdGone; rw [if_neg (by omega)]
      unfold sdGone sdAck
      rw [if_pos]
      right
      show n ≤ ((s.acked + sdGone s n : Nat) : Int)
      rw [hg]; omega
  generalize sdAck s n = t at *
  unfold sdAck
  rw [h]
  simp
theorem rcHear_again {r : Rc} {seq : Int} {d : List UInt8} (hq : r.q = []) (hr : 1 ≤ r.room) :
    rcHear ⟨(rcHear r seq d).room, (rcHear r seq d).acked, []⟩ seq d = ⟨(rcHear r seq d).room, (rcHear r seq d).acked, []⟩ := by
  unfold rcHear
  by_cases h : r.room ≤ r.q.length ∨ seq ≠ (r.acked : Int) + 1
  · rw [if_pos h]
    rw [if_pos]
    rcases h with h | h
    · rw [hq] at h; simp at h; omega
    · exact .inr h
  · rw [if_neg h]
    rw [if_pos]
    right
    dsimp only
    omega
theorem lkHear_again {k : Lk} {f : Fr} (hk : lkOk k) (hq : k.rc.q = []) (hp : k.pas = true) (hst : ¬ f.ep < k.ep) (hfe : f.ep ≤ 1099511627776) :
    lkHear (lkDone (lkHear k f)) f = lkDone (lkHear k f) ∧ ((lkDone (lkHear k f)).ep : Int) = f.ep ∧ (lkDone (lkHear k f)).pas = true := by
  have hgo : ¬ (f.ep < k.ep ∨ ((k.ep : Int) < f.ep ∧ k.pas = false)) := by rw [hp]; simp; omega
  rw [lkHear_go hgo]
  have h1 : ∀ k1, k1 = (if lkAnew k f = true then lkFresh k f.ep else k) → lkOk k1 ∧ k1.rc.q = [] ∧ k1.pas = true ∧ (k1.ep : Int) = f.ep := by
    rintro k1 rfl
    split
    · rename_i ha
      refine ⟨lkOk_new f.ep k.win k.room k.pas, rfl, hp, ?_⟩
      show (((clampN f.ep 0 1099511627776).toNat : Nat) : Int) = f.ep
      rw [clampN_id (by have := hk.ep; omega) hfe]
      omega
    · rename_i ha
      refine ⟨hk, hq, hp, ?_⟩
      unfold lkAnew at ha
      rw [hp] at ha
      simp at ha
      omega
  obtain ⟨g1, g2, g3, g4⟩ := h1 _ rfl
  generalize (if lkAnew k f = true then lkFresh k f.ep else k) = k1 at *
  refine ⟨?_, g4, g3⟩
  have hgo2 : ∀ X : Lk, X.ep = k1.ep → X.pas = k1.pas → ¬ (f.ep < ((lkDone X).ep : Int) ∨ (((lkDone X).ep : Int) < f.ep ∧ (lkDone X).pas = false)) := by
    intro X h1 h2
    show ¬ (f.ep < (X.ep : Int) ∨ ((X.ep : Int) < f.ep ∧ X.pas = false))
    rw [h1, h2, g3]; simp; omega
  have hna : lkAnew (lkDone ⟨sdAck k1.sd f.ack, if f.seq = 0 then k1.rc else rcHear k1.rc f.seq f.data, k1.ep, k1.win, k1.room, k1.pas⟩) f = false := by
    unfold lkAnew
    show (decide ((k1.ep : Int) < f.ep) && k1.pas) = false
    rw [decide_eq_false (by omega), Bool.false_and]
  rw [lkHear_go (hgo2 _ ?_ ?_), hna]
  rotate_left
  · rfl
  · rfl
  simp only [Bool.false_eq_true, if_false]
  unfold lkDone
  dsimp only
  rw [sdAck_again]
  by_cases hs : f.seq = 0
  · simp only [hs, if_true]
  · simp only [hs, if_false]
    rw [rcHear_again g2 g1.rc.r1]
/-- A datagram that comes twice, one behind the other. -/
theorem sqHear_twice {s : Sqr} (hs : sqIn s) (src : Int) (b : List UInt8) : sqHear (sqHear s src b) src b = sqHear s src b := by
  by_cases he : sqErr s src b = 0
  case neg =>
    have : sqHear s src b = s := by unfold sqHear; rw [if_pos he]
    rw [this, this]
  case pos =>
    obtain ⟨⟨hs1, hs2⟩, hf0⟩ := sqErr_src he
    obtain ⟨hfi, _⟩ := fget_frIn hf0
    cases hk : s.ks[(src - 1).toNat]? with
    | none =>
      have : sqHear s src b = s := by unfold sqHear; rw [if_neg (fun h => h he), hk]
      rw [this, this]
    | some k =>
      have hkm := hs.ok.ks k (List.mem_of_getElem? hk)
      have hst : ¬ (fget b).1.ep < k.1.ep := by
        intro h
        unfold sqErr at he
        rw [if_neg (by omega), if_neg (by omega), hk] at he
        dsimp only at he
        rw [if_pos h] at he
        cases he
      obtain ⟨a1, a2, a3⟩ := lkHear_again (f := (fget b).1) hkm.1 hkm.2.2.1 hkm.2.2.2 hst (by obtain ⟨⟨_, h2⟩, _⟩ := hfi; exact h2)
      have e1 : sqHear s src b = ⟨s.c, (lkHear k.1 (fget b).1).rc.q.foldl (takeOne s.c src) s.l, s.ks.set (src - 1).toNat (lkDone (lkHear k.1 (fget b).1), if lkAnew k.1 (fget b).1 then 0 else k.2)⟩ := by
        unfold sqHear; rw [if_neg (fun h => h he), hk]; rfl
      rw [e1]
      have hqe : (lkDone (lkHear k.1 (fget b).1)).rc.q = [] := rfl
      have hdd : lkDone (lkDone (lkHear k.1 (fget b).1)) = lkDone (lkHear k.1 (fget b).1) := rfl
      generalize lkDone (lkHear k.1 (fget b).1) = kk at *
      generalize (lkHear k.1 (fget b).1).rc.q.foldl (takeOne s.c src) s.l = l' at *
      generalize (if lkAnew k.1 (fget b).1 = true then 0 else k.2) = at_ at *
      have hilt : (src - 1).toNat < s.ks.length := by
        rcases Nat.lt_or_ge (src - 1).toNat s.ks.length with q | q
        · exact q
        · rw [List.getElem?_eq_none q] at hk; cases hk
      have hk2 : (s.ks.set (src - 1).toNat (kk, at_))[(src - 1).toNat]? = some (kk, at_) := by rw [List.getElem?_set_self hilt]
      have he2 : sqErr ⟨s.c, l', s.ks.set (src - 1).toNat (kk, at_)⟩ src b = 0 := by
        unfold sqErr
        rw [if_neg (by dsimp only; omega), if_neg (by omega)]
        dsimp only
        rw [hk2]
        dsimp only
        rw [if_neg (by omega)]
      have hna : lkAnew kk (fget b).1 = false := by
        unfold lkAnew
        rw [decide_eq_false (by omega), Bool.false_and]
      unfold sqHear
      rw [if_neg (fun h => h he2)]
      dsimp only
      rw [hk2]
      dsimp only
      rw [a1, hna, hqe, List.set_set]
      show Sqr.mk _ _ (List.set _ _ (lkDone kk, _)) = _
      rw [hdd]
      rfl
/-! What is sent. -/
theorem lkFrames_win {k : Lk} {n : Nat} (h1 : 1 ≤ n) (h : k.sd.ps.length ≤ n) : (lkFrames k).length ≤ n := by
  unfold lkFrames
  split
  · exact Nat.zero_le _
  · split
    · exact h1
    · rw [frames1_length]; exact h
theorem tick1_in {s : Sqr} (hs : sqIn s) {k : Lk × Nat} (hk : k ∈ s.ks) : lkOk (tick1 s k).1 ∧ (tick1 s k).1.sd.ps.length ≤ s.c.window.toNat := by
  have h := (sqIn_tick hs).ok.ks (tick1 s k) (List.mem_map_of_mem hk)
  have h2 := (sqIn_tick hs).ps (tick1 s k) (List.mem_map_of_mem hk)
  refine ⟨h.1, ?_⟩
  have h3 := h.1.sd.l
  rw [h2.s] at h3
  exact h3
theorem cfg_win {c : Cfg} (h : cfgOk c) : 1 ≤ c.window.toNat ∧ c.window.toNat ≤ 16 := by
  obtain ⟨_, ⟨h1, h2⟩, _⟩ := h
  omega
theorem tickPks_len {s : Sqr} (hs : sqIn s) {k : Lk × Nat} (hk : k ∈ s.ks) (i : Nat) : (tickPks s i k).length ≤ s.c.window.toNat := by
  have h1 := cfg_win hs.ok.c
  have h2 := tick1_in hs hk
  exact Nat.le_trans (puts_len _ _ _ _) (lkFrames_win h1.1 h2.2)
theorem pksTo_len {s : Sqr} (hs : sqIn s) : ∀ i, i ≤ s.ks.length → (pksTo s i).length ≤ 16 * i
  | 0, _ => by simp [pksTo]
  | i + 1, h => by
    obtain ⟨k, hk⟩ : ∃ k, s.ks[i]? = some k := ⟨_, List.getElem?_eq_getElem (by omega)⟩
    have h1 := pksTo_len hs i (by omega)
    have h2 := tickPks_len hs (List.mem_of_getElem? hk) i
    have h3 := cfg_win hs.ok.c
    rw [pksTo_succ hk, List.length_append]
    omega
theorem sqPks_len {s : Sqr} (hs : sqIn s) : (sqPks s).length ≤ 1024 := by
  have h1 := pksTo_len hs s.ks.length (Nat.le_refl _)
  rw [pksTo_all] at h1
  have h2 := hs.ok.n
  obtain ⟨⟨c1, c2⟩, _⟩ := hs.ok.c
  omega
end Go.Proofs.YtfjnacakpeommaaGreatDoor
/- Contracts: chapbookref12. -/
namespace Go.Proofs.YtfjnacakpeommaaGreatDoor
open Go SL Pl
set_option autoImplicit false
set_option maxRecDepth 100000
set_option linter.unusedSimpArgs false
set_option linter.unusedVariables false
attribute [local irreducible] St Sq Exec QExec wpList wpQuiet Code.wp Exit.then Exit.inBlock bodyPost At Rd wpOp Wa QK GB
def lfL (b : Nat) (k : Lk) (z : Nat × Nat) : List HP :=
  [cel false b 54 [nat .i64 k.ep, .pointer (some ⟨z.1, 0, none⟩), .pointer (some ⟨z.2, 0, none⟩), .int .i64 k.win, .int .i64 k.room, .bool k.pas], SfP z.1 k.sd, RfP z.2 k.rc]
def LfP (b : Nat) (k : Lk) : HP := ex fun z => big (lfL b k z)
attribute [local irreducible] SfP RfP
theorem lfFresh_sp (b : Nat) (v0 v1 v2 : Value) (win room : Int) (pas : Bool) (ep : Int) : Sp Tryz.prog 65 [.pointer (some ⟨b, 0, none⟩), .int .i64 ep]
    [cel false b 54 [v0, v1, v2, .int .i64 win, .int .i64 room, .bool pas]]
    (fun w M => w = .tuple #[] ∧ M = [LfP b ⟨sdNew win 1125899906842624, rcNew room, (clampN ep 0 1099511627776).toNat, win, room, pas⟩]) := by
  refine Sp.intro (P := Tryz.prog) (Tryz.func65) rfl Tryz.ntmps65 (by decide) rfl ?_
  intro ρ F
  have c1 := sfNew_sp win 1125899906842624
  have c2 := rfNew_sp room
  have e1 := clamp_nat (w := ep) (lo := 0) (hi := 1099511627776) (by decide) (by decide)
  unfold clampN at e1 ⊢
  by_cases h1 : ep < 0
  · rw [if_pos h1] at e1 ⊢
    repeat' (first | (apply St_call (hf := c1); exact rfl; exact rfl; exact Split.auto; rintro _ _ ⟨sb, rfl, rfl⟩) | (apply St_call (hf := c2); exact rfl; exact rfl; exact Split.auto; rintro _ _ ⟨rb, rfl, rfl⟩) | (refine St_step ?_; (try with_reducible intro _)) | (refine St_step2 ?_ ?_ <;> (intro hb; (try simp only [beq_iff_eq, bne_iff_ne, decide_eq_true_eq, decide_eq_false_iff_not, Bool.not_eq_true', Bool.not_eq_false', beq_eq_false_iff_ne, bne_eq_false_iff_eq, ne_eq, Int.not_lt, Int.not_le, gt_iff_lt, ge_iff_le] at hb); (try (first | exact Bool.noConfusion hb | exact absurd trivial hb | (exfalso; omega))))) | fail)
    all_goals first | (exfalso; omega) | skip
    refine St_exMk (l := lfL b ⟨sdNew win 1125899906842624, rcNew room, ((0 : Int)).toNat, win, room, pas⟩) (sb, rb) (by exact Split.auto) ?_
    exact St_ret0 (.inr rfl) rfl ⟨rfl, rfl⟩ (by exact Split.auto)
  · rw [if_neg h1] at e1 ⊢
    by_cases h2 : ep > 1099511627776
    · rw [if_pos h2] at e1 ⊢
      repeat' (first | (apply St_call (hf := c1); exact rfl; exact rfl; exact Split.auto; rintro _ _ ⟨sb, rfl, rfl⟩) | (apply St_call (hf := c2); exact rfl; exact rfl; exact Split.auto; rintro _ _ ⟨rb, rfl, rfl⟩) | (refine St_step ?_; (try with_reducible intro _)) | (refine St_step2 ?_ ?_ <;> (intro hb; (try simp only [beq_iff_eq, bne_iff_ne, decide_eq_true_eq, decide_eq_false_iff_not, Bool.not_eq_true', Bool.not_eq_false', beq_eq_false_iff_ne, bne_eq_false_iff_eq, ne_eq, Int.not_lt, Int.not_le, gt_iff_lt, ge_iff_le] at hb); (try (first | exact Bool.noConfusion hb | exact absurd trivial hb | (exfalso; omega))))) | fail)
      all_goals first | (exfalso; omega) | skip
      refine St_exMk (l := lfL b ⟨sdNew win 1125899906842624, rcNew room, ((1099511627776 : Int)).toNat, win, room, pas⟩) (sb, rb) (by exact Split.auto) ?_
      exact St_ret0 (.inr rfl) rfl ⟨rfl, rfl⟩ (by exact Split.auto)
    · rw [if_neg h2] at e1 ⊢
      obtain ⟨m, hm⟩ : ∃ m : Nat, ep = m := ⟨ep.toNat, by omega⟩
      subst hm
      repeat' (first | (apply St_call (hf := c1); exact rfl; exact rfl; exact Split.auto; rintro _ _ ⟨sb, rfl, rfl⟩) | (apply St_call (hf := c2); exact rfl; exact rfl; exact Split.auto; rintro _ _ ⟨rb, rfl, rfl⟩) | (refine St_step ?_; (try with_reducible intro _)) | (refine St_step2 ?_ ?_ <;> (intro hb; (try simp only [beq_iff_eq, bne_iff_ne, decide_eq_true_eq, decide_eq_false_iff_not, Bool.not_eq_true', Bool.not_eq_false', beq_eq_false_iff_ne, bne_eq_false_iff_eq, ne_eq, Int.not_lt, Int.not_le, gt_iff_lt, ge_iff_le] at hb); (try (first | exact Bool.noConfusion hb | exact absurd trivial hb | (exfalso; omega))))) | fail)
      all_goals first | (exfalso; omega) | skip
      refine St_exMk (l := lfL b ⟨sdNew win 1125899906842624, rcNew room, ((m : Int)).toNat, win, room, pas⟩) (sb, rb) (by exact Split.auto) ?_
      exact St_ret0 (.inr rfl) rfl ⟨rfl, rfl⟩ (by exact Split.auto)
theorem lfNew_sp (ep win room : Int) (pas : Bool) : Sp Tryz.prog 31 [.int .i64 ep, .int .i64 win, .int .i64 room, .bool pas] []
    (fun w M => ∃ b, w = .pointer (some ⟨b, 0, none⟩) ∧ M = [LfP b (lkNew ep win room pas)]) := by
  refine Sp.intro (P := Tryz.prog) (Tryz.func31) rfl Tryz.ntmps31 (by decide) rfl ?_
  intro ρ F
  have c1 := fun b v0 v1 v2 => lfFresh_sp b v0 v1 v2 win room pas ep
  repeat' (first | (apply St_call (hf := c1 _ _ _ _); exact rfl; exact rfl; exact Split.auto; rintro _ _ ⟨rfl, rfl⟩) | (refine St_step ?_; (try with_reducible intro _)) | (refine St_step2 ?_ ?_ <;> (intro hb; (try simp only [beq_iff_eq, bne_iff_ne, decide_eq_true_eq, decide_eq_false_iff_not, Bool.not_eq_true', Bool.not_eq_false', beq_eq_false_iff_ne, bne_eq_false_iff_eq, ne_eq, Int.not_lt, Int.not_le, gt_iff_lt, ge_iff_le] at hb); (try (first | exact Bool.noConfusion hb | exact absurd trivial hb | (exfalso; omega))))) | fail)
  all_goals first | (exfalso; omega) | skip
  exact St_ret1 (.inl rfl) rfl rfl ⟨_, rfl, rfl⟩ (by exact Split.auto)
set_option maxHeartbeats 1000000 in
theorem lfHear_sp (b : Nat) (k : Lk) (f : Fr) (hk : lkOk k) (hf : frIn f) (hq : k.rc.acked ≤ 10000000000) (hs : k.sd.acked + k.sd.ps.length ≤ 10000000000) : Sp Tryz.prog 41 [.pointer (some ⟨b, 0, none⟩), .agg (fv f).toArray] [LfP b k]
    (fun v M => v = .bool (lkAnew k f) ∧ M = [LfP b (lkHear k f)]) := by
  refine Sp.intro (P := Tryz.prog) (Tryz.func41) rfl Tryz.ntmps41 (by decide) rfl ?_
  intro ρ F
  refine St_exOpen (l := lfL b k) (by exact Has.auto) fun z => ?_
  have hep := hk.ep
  obtain ⟨⟨f1, f2⟩, ⟨f3, f4⟩, _⟩ := id hf
  have hsk := lkHear_stay (k := k) (f := f)
  have hgo := lkHear_go (k := k) (f := f)
  obtain ⟨sd, rc, ep, win, room, pas⟩ := k
  dsimp only at *
  repeat (refine St_step ?_; (try with_reducible intro fb))
  by_cases hst : f.ep < ep ∨ ((ep : Int) < f.ep ∧ pas = false)
  · rw [hsk hst]
    have ha : lkAnew ⟨sd, rc, ep, win, room, pas⟩ f = false := by
      unfold lkAnew
      dsimp only
      rcases hst with h | ⟨_, h⟩
      · rw [decide_eq_false (by omega), Bool.false_and]
      · rw [h, Bool.and_false]
    rw [ha]
    cases pas
    all_goals
      repeat' (first | (apply St_regionA (1000) ([]); kernel_rfl; (apply Sa_take 0; exact rfl; kernel_rfl; exact PanicOk.auto; exact rfl; (first | exact Rd_auto)); (apply Sa_take 1; exact rfl; kernel_rfl; exact PanicOk.auto; exact rfl; (first | exact Rd_auto)); (apply Sa_take 2; exact rfl; kernel_rfl; exact PanicOk.auto; exact rfl; (first | exact Rd_auto)); (apply Sa_take 3; exact rfl; kernel_rfl; exact PanicOk.auto; exact rfl; (first | exact Rd_auto)); (apply Sa_take 4; exact rfl; kernel_rfl; exact PanicOk.auto; exact rfl; (first | exact Rd_auto)); (apply Sa_take 5; exact rfl; kernel_rfl; exact PanicOk.auto; exact rfl; (first | exact Rd_auto)); (apply Sa_take 6; exact rfl; kernel_rfl; exact PanicOk.auto; exact rfl; (first | exact Rd_auto)); (apply Sa_take 7; exact rfl; kernel_rfl; exact PanicOk.auto; exact rfl; (first | exact Rd_auto)); (apply Sa_takeG 8; exact rfl; exact rfl; (first | with_reducible exact rfl | with_reducible exact Bool.not_false | with_reducible exact Bool.not_true | decide); kernel_rfl; exact PanicOk.auto; exact rfl; (first | exact Rd_auto)); (apply Sa_takeG 9; exact rfl; exact rfl; (first | with_reducible exact rfl | with_reducible exact Bool.not_false | with_reducible exact Bool.not_true | decide); kernel_rfl; exact PanicOk.auto; exact rfl; (first | exact Rd_auto)); (apply Sa_takeG 10; exact rfl; exact rfl; (first | with_reducible exact rfl | with_reducible exact Bool.not_false | with_reducible exact Bool.not_true | decide); kernel_rfl; exact PanicOk.auto; exact rfl; (first | exact Rd_auto)); (apply Sa_takeG 11; exact rfl; exact rfl; (first | with_reducible exact rfl | with_reducible exact Bool.not_false | with_reducible exact Bool.not_true | decide); kernel_rfl; exact PanicOk.auto; exact rfl; (first | exact Rd_auto)); (apply Sa_take 12; exact rfl; kernel_rfl; exact PanicOk.auto; exact rfl; (first | exact Rd_auto)); (apply Sa_done; kernel_rfl; exact .inr (by exact Split.auto))) | (apply St_regionQ; kernel_rfl; kernel_rfl) | (refine St_step ?_; (try with_reducible intro _)) | (refine St_step2 ?_ ?_ <;> (intro hb; (try simp only [beq_iff_eq, bne_iff_ne, decide_eq_true_eq, decide_eq_false_iff_not, Bool.not_eq_true', Bool.not_eq_false', beq_eq_false_iff_ne, bne_eq_false_iff_eq, ne_eq, Int.not_lt, Int.not_le, gt_iff_lt, ge_iff_le] at hb); (try (first | exact Bool.noConfusion hb | exact absurd trivial hb | (exfalso; omega))))) | fail)
    all_goals first | (exfalso; omega) | (exfalso; rcases hst with h | ⟨_, h⟩ <;> first | omega | (cases h; done)) | skip
    all_goals first | (refine St_exMk (l := lfL b ⟨sd, rc, ep, win, room, false⟩) z (by exact Split.auto) ?_; exact St_ret1 (.inl rfl) rfl rfl ⟨rfl, rfl⟩ (by exact Split.auto)) | (refine St_exMk (l := lfL b ⟨sd, rc, ep, win, room, true⟩) z (by exact Split.auto) ?_; exact St_ret1 (.inl rfl) rfl rfl ⟨rfl, rfl⟩ (by exact Split.auto))
  · rw [hgo hst]
    have c1 := fun (b : Nat) (s : Sd) h => sfAck_sp b s f.ack h
    have c2 := fun (b : Nat) (r : Rc) h => rfHear_sp b r f.seq f.data h (by omega)
    by_cases ha : (ep : Int) < f.ep
    · have hp : pas = true := by
        cases pas
        · exact absurd (.inr ⟨ha, rfl⟩) hst
        · rfl
      subst hp
      have han : lkAnew ⟨sd, rc, ep, win, room, true⟩ f = true := by
        unfold lkAnew
        dsimp only
        rw [decide_eq_true ha, Bool.and_true]
      rw [han]
      simp only [if_true]
      have c3 := fun v0 v1 v2 => lfFresh_sp b v0 v1 v2 win room true f.ep
      have e1 : (lkFresh ⟨sd, rc, ep, win, room, true⟩ f.ep) = ⟨sdNew win 1125899906842624, rcNew room, (clampN f.ep 0 1099511627776).toNat, win, room, true⟩ := rfl
      have e2 : (((clampN f.ep 0 1099511627776).toNat : Nat) : Int) = f.ep := by
        rw [clampN_id (by omega) f2]; omega
      rw [e1]
      have hs0 : (sdNew win 1125899906842624).acked + (sdNew win 1125899906842624).ps.length ≤ 2000000000000000000 := by show 0 + 0 ≤ _; decide
      have hr0 : (rcNew room).acked ≤ 100000000000 := by show 0 ≤ _; decide
      generalize sdNew win 1125899906842624 = sd' at *
      generalize rcNew room = rc' at *
      generalize (clampN f.ep 0 1099511627776).toNat = ep' at *
      have c1 := fun (b : Nat) => c1 b sd' hs0
      have c2 := fun (b : Nat) => c2 b rc' hr0
      dsimp only
      by_cases h0 : f.seq = 0
      · rw [if_pos h0]
        repeat' (first | (apply St_regionA (1000) ([]); kernel_rfl; (apply Sa_take 0; exact rfl; kernel_rfl; exact PanicOk.auto; exact rfl; (first | exact Rd_auto)); (apply Sa_take 1; exact rfl; kernel_rfl; exact PanicOk.auto; exact rfl; (first | exact Rd_auto)); (apply Sa_take 2; exact rfl; kernel_rfl; exact PanicOk.auto; exact rfl; (first | exact Rd_auto)); (apply Sa_take 3; exact rfl; kernel_rfl; exact PanicOk.auto; exact rfl; (first | exact Rd_auto)); (apply Sa_take 4; exact rfl; kernel_rfl; exact PanicOk.auto; exact rfl; (first | exact Rd_auto)); (apply Sa_take 5; exact rfl; kernel_rfl; exact PanicOk.auto; exact rfl; (first | exact Rd_auto)); (apply Sa_take 6; exact rfl; kernel_rfl; exact PanicOk.auto; exact rfl; (first | exact Rd_auto)); (apply Sa_take 7; exact rfl; kernel_rfl; exact PanicOk.auto; exact rfl; (first | exact Rd_auto)); (apply Sa_takeG 8; exact rfl; exact rfl; (first | with_reducible exact rfl | with_reducible exact Bool.not_false | with_reducible exact Bool.not_true | decide); kernel_rfl; exact PanicOk.auto; exact rfl; (first | exact Rd_auto)); (apply Sa_takeG 9; exact rfl; exact rfl; (first | with_reducible exact rfl | with_reducible exact Bool.not_false | with_reducible exact Bool.not_true | decide); kernel_rfl; exact PanicOk.auto; exact rfl; (first | exact Rd_auto)); (apply Sa_takeG 10; exact rfl; exact rfl; (first | with_reducible exact rfl | with_reducible exact Bool.not_false | with_reducible exact Bool.not_true | decide); kernel_rfl; exact PanicOk.auto; exact rfl; (first | exact Rd_auto)); (apply Sa_takeG 11; exact rfl; exact rfl; (first | with_reducible exact rfl | with_reducible exact Bool.not_false | with_reducible exact Bool.not_true | decide); kernel_rfl; exact PanicOk.auto; exact rfl; (first | exact Rd_auto)); (apply Sa_take 12; exact rfl; kernel_rfl; exact PanicOk.auto; exact rfl; (first | exact Rd_auto)); (apply Sa_done; kernel_rfl; exact .inr (by exact Split.auto))) | (apply St_call (hf := c3 _ _ _); exact rfl; exact rfl; exact Split.auto; rintro _ _ ⟨rfl, rfl⟩; refine St_exOpen (l := lfL b ⟨sd', rc', ep', win, room, true⟩) (by exact Has.auto) fun z2 => ?_) | (apply St_regionA (1000) ([cel false b 54 [nat .i64 ep', .pointer (some ⟨z2.1, 0, none⟩), .pointer (some ⟨z2.2, 0, none⟩), .int .i64 win, .int .i64 room, .bool true], cel false fb 67 (fv f)]); kernel_rfl; (apply Sa_take 0; exact rfl; kernel_rfl; exact PanicOk.auto; exact rfl; (first | exact Rd_auto)); (apply Sa_take 1; exact rfl; kernel_rfl; exact PanicOk.auto; exact rfl; (first | exact Rd_auto)); (apply Sa_take 2; exact rfl; kernel_rfl; exact PanicOk.auto; exact rfl; (first | exact Rd_auto)); (apply Sa_take 3; exact rfl; kernel_rfl; exact PanicOk.auto; exact rfl; (first | exact Rd_auto)); (apply Sa_take 4; exact rfl; kernel_rfl; exact PanicOk.auto; exact rfl; (first | exact Rd_auto)); (apply Sa_take 5; exact rfl; kernel_rfl; exact PanicOk.auto; exact rfl; (first | exact Rd_auto)); (apply Sa_one (i := 6); kernel_rfl; exact .inr (by exact Split.auto)); (apply Sa_op; exact rfl; exact rfl); (first | (apply St_call (hf := c1 _); exact rfl; exact rfl; exact Split.auto; rintro _ _ ⟨rfl, rfl⟩) | (refine St_step ?_; (try with_reducible intro _)) | (refine St_step2 ?_ ?_ <;> (intro hb; (try simp only [beq_iff_eq, bne_iff_ne, decide_eq_true_eq, decide_eq_false_iff_not, Bool.not_eq_true', Bool.not_eq_false', beq_eq_false_iff_ne, bne_eq_false_iff_eq, ne_eq, Int.not_lt, Int.not_le, gt_iff_lt, ge_iff_le] at hb); (try (first | exact Bool.noConfusion hb | exact absurd trivial hb | (exfalso; omega))))) | fail); (apply Sa_done; kernel_rfl; exact .inr (by exact Split.auto))) | (apply St_regionA (1000) ([cel false b 54 [nat .i64 ep', .pointer (some ⟨z2.1, 0, none⟩), .pointer (some ⟨z2.2, 0, none⟩), .int .i64 win, .int .i64 room, .bool true], cel false fb 67 (fv f)]); kernel_rfl; (apply Sa_take 0; exact rfl; kernel_rfl; exact PanicOk.auto; exact rfl; (first | exact Rd_auto)); (apply Sa_take 1; exact rfl; kernel_rfl; exact PanicOk.auto; exact rfl; (first | exact Rd_auto)); (apply Sa_take 2; exact rfl; kernel_rfl; exact PanicOk.auto; exact rfl; (first | exact Rd_auto)); (apply Sa_take 3; exact rfl; kernel_rfl; exact PanicOk.auto; exact rfl; (first | exact Rd_auto)); (apply Sa_take 4; exact rfl; kernel_rfl; exact PanicOk.auto; exact rfl; (first | exact Rd_auto)); (apply Sa_take 5; exact rfl; kernel_rfl; exact PanicOk.auto; exact rfl; (first | exact Rd_auto)); (apply Sa_take 6; exact rfl; kernel_rfl; exact PanicOk.auto; exact rfl; (first | exact Rd_auto)); (apply Sa_take 7; exact rfl; kernel_rfl; exact PanicOk.auto; exact rfl; (first | exact Rd_auto)); (apply Sa_one (i := 8); kernel_rfl; exact .inr (by exact Split.auto)); (apply Sa_op; exact rfl; exact rfl); (first | (apply St_call (hf := c2 _); exact rfl; exact rfl; exact Split.auto; rintro _ _ ⟨rfl, rfl⟩) | (refine St_step ?_; (try with_reducible intro _)) | (refine St_step2 ?_ ?_ <;> (intro hb; (try simp only [beq_iff_eq, bne_iff_ne, decide_eq_true_eq, decide_eq_false_iff_not, Bool.not_eq_true', Bool.not_eq_false', beq_eq_false_iff_ne, bne_eq_false_iff_eq, ne_eq, Int.not_lt, Int.not_le, gt_iff_lt, ge_iff_le] at hb); (try (first | exact Bool.noConfusion hb | exact absurd trivial hb | (exfalso; omega))))) | fail); (apply Sa_done; kernel_rfl; exact .inr (by exact Split.auto))) | (apply St_regionQ; kernel_rfl; kernel_rfl) | (refine St_step ?_; (try with_reducible intro _)) | (refine St_step2 ?_ ?_ <;> (intro hb; (try simp only [beq_iff_eq, bne_iff_ne, decide_eq_true_eq, decide_eq_false_iff_not, Bool.not_eq_true', Bool.not_eq_false', beq_eq_false_iff_ne, bne_eq_false_iff_eq, ne_eq, Int.not_lt, Int.not_le, gt_iff_lt, ge_iff_le] at hb); (try (first | exact Bool.noConfusion hb | exact absurd trivial hb | (exfalso; omega))))) | fail)
        all_goals first | (exfalso; omega) | skip
        rename_i z2 _
        refine St_exMk (l := lfL b ⟨sdAck sd' f.ack, rc', ep', win, room, true⟩) z2 (by exact Split.auto) ?_
        exact St_ret1 (.inl rfl) rfl rfl ⟨rfl, rfl⟩ (by exact Split.auto)
      · rw [if_neg h0]
        repeat' (first | (apply St_regionA (1000) ([]); kernel_rfl; (apply Sa_take 0; exact rfl; kernel_rfl; exact PanicOk.auto; exact rfl; (first | exact Rd_auto)); (apply Sa_take 1; exact rfl; kernel_rfl; exact PanicOk.auto; exact rfl; (first | exact Rd_auto)); (apply Sa_take 2; exact rfl; kernel_rfl; exact PanicOk.auto; exact rfl; (first | exact Rd_auto)); (apply Sa_take 3; exact rfl; kernel_rfl; exact PanicOk.auto; exact rfl; (first | exact Rd_auto)); (apply Sa_take 4; exact rfl; kernel_rfl; exact PanicOk.auto; exact rfl; (first | exact Rd_auto)); (apply Sa_take 5; exact rfl; kernel_rfl; exact PanicOk.auto; exact rfl; (first | exact Rd_auto)); (apply Sa_take 6; exact rfl; kernel_rfl; exact PanicOk.auto; exact rfl; (first | exact Rd_auto)); (apply Sa_take 7; exact rfl; kernel_rfl; exact PanicOk.auto; exact rfl; (first | exact Rd_auto)); (apply Sa_takeG 8; exact rfl; exact rfl; (first | with_reducible exact rfl | with_reducible exact Bool.not_false | with_reducible exact Bool.not_true | decide); kernel_rfl; exact PanicOk.auto; exact rfl; (first | exact Rd_auto)); (apply Sa_takeG 9; exact rfl; exact rfl; (first | with_reducible exact rfl | with_reducible exact Bool.not_false | with_reducible exact Bool.not_true | decide); kernel_rfl; exact PanicOk.auto; exact rfl; (first | exact Rd_auto)); (apply Sa_takeG 10; exact rfl; exact rfl; (first | with_reducible exact rfl | with_reducible exact Bool.not_false | with_reducible exact Bool.not_true | decide); kernel_rfl; exact PanicOk.auto; exact rfl; (first | exact Rd_auto)); (apply Sa_takeG 11; exact rfl; exact rfl; (first | with_reducible exact rfl | with_reducible exact Bool.not_false | with_reducible exact Bool.not_true | decide); kernel_rfl; exact PanicOk.auto; exact rfl; (first | exact Rd_auto)); (apply Sa_take 12; exact rfl; kernel_rfl; exact PanicOk.auto; exact rfl; (first | exact Rd_auto)); (apply Sa_done; kernel_rfl; exact .inr (by exact Split.auto))) | (apply St_call (hf := c3 _ _ _); exact rfl; exact rfl; exact Split.auto; rintro _ _ ⟨rfl, rfl⟩; refine St_exOpen (l := lfL b ⟨sd', rc', ep', win, room, true⟩) (by exact Has.auto) fun z2 => ?_) | (apply St_regionA (1000) ([cel false b 54 [nat .i64 ep', .pointer (some ⟨z2.1, 0, none⟩), .pointer (some ⟨z2.2, 0, none⟩), .int .i64 win, .int .i64 room, .bool true], cel false fb 67 (fv f)]); kernel_rfl; (apply Sa_take 0; exact rfl; kernel_rfl; exact PanicOk.auto; exact rfl; (first | exact Rd_auto)); (apply Sa_take 1; exact rfl; kernel_rfl; exact PanicOk.auto; exact rfl; (first | exact Rd_auto)); (apply Sa_take 2; exact rfl; kernel_rfl; exact PanicOk.auto; exact rfl; (first | exact Rd_auto)); (apply Sa_take 3; exact rfl; kernel_rfl; exact PanicOk.auto; exact rfl; (first | exact Rd_auto)); (apply Sa_take 4; exact rfl; kernel_rfl; exact PanicOk.auto; exact rfl; (first | exact Rd_auto)); (apply Sa_take 5; exact rfl; kernel_rfl; exact PanicOk.auto; exact rfl; (first | exact Rd_auto)); (apply Sa_one (i := 6); kernel_rfl; exact .inr (by exact Split.auto)); (apply Sa_op; exact rfl; exact rfl); (first | (apply St_call (hf := c1 _); exact rfl; exact rfl; exact Split.auto; rintro _ _ ⟨rfl, rfl⟩) | (refine St_step ?_; (try with_reducible intro _)) | (refine St_step2 ?_ ?_ <;> (intro hb; (try simp only [beq_iff_eq, bne_iff_ne, decide_eq_true_eq, decide_eq_false_iff_not, Bool.not_eq_true', Bool.not_eq_false', beq_eq_false_iff_ne, bne_eq_false_iff_eq, ne_eq, Int.not_lt, Int.not_le, gt_iff_lt, ge_iff_le] at hb); (try (first | exact Bool.noConfusion hb | exact absurd trivial hb | (exfalso; omega))))) | fail); (apply Sa_done; kernel_rfl; exact .inr (by exact Split.auto))) | (apply St_regionA (1000) ([cel false b 54 [nat .i64 ep', .pointer (some ⟨z2.1, 0, none⟩), .pointer (some ⟨z2.2, 0, none⟩), .int .i64 win, .int .i64 room, .bool true], cel false fb 67 (fv f)]); kernel_rfl; (apply Sa_take 0; exact rfl; kernel_rfl; exact PanicOk.auto; exact rfl; (first | exact Rd_auto)); (apply Sa_take 1; exact rfl; kernel_rfl; exact PanicOk.auto; exact rfl; (first | exact Rd_auto)); (apply Sa_take 2; exact rfl; kernel_rfl; exact PanicOk.auto; exact rfl; (first | exact Rd_auto)); (apply Sa_take 3; exact rfl; kernel_rfl; exact PanicOk.auto; exact rfl; (first | exact Rd_auto)); (apply Sa_take 4; exact rfl; kernel_rfl; exact PanicOk.auto; exact rfl; (first | exact Rd_auto)); (apply Sa_take 5; exact rfl; kernel_rfl; exact PanicOk.auto; exact rfl; (first | exact Rd_auto)); (apply Sa_take 6; exact rfl; kernel_rfl; exact PanicOk.auto; exact rfl; (first | exact Rd_auto)); (apply Sa_take 7; exact rfl; kernel_rfl; exact PanicOk.auto; exact rfl; (first | exact Rd_auto)); (apply Sa_one (i := 8); kernel_rfl; exact .inr (by exact Split.auto)); (apply Sa_op; exact rfl; exact rfl); (first | (apply St_call (hf := c2 _); exact rfl; exact rfl; exact Split.auto; rintro _ _ ⟨rfl, rfl⟩) | (refine St_step ?_; (try with_reducible intro _)) | (refine St_step2 ?_ ?_ <;> (intro hb; (try simp only [beq_iff_eq, bne_iff_ne, decide_eq_true_eq, decide_eq_false_iff_not, Bool.not_eq_true', Bool.not_eq_false', beq_eq_false_iff_ne, bne_eq_false_iff_eq, ne_eq, Int.not_lt, Int.not_le, gt_iff_lt, ge_iff_le] at hb); (try (first | exact Bool.noConfusion hb | exact absurd trivial hb | (exfalso; omega))))) | fail); (apply Sa_done; kernel_rfl; exact .inr (by exact Split.auto))) | (apply St_regionQ; kernel_rfl; kernel_rfl) | (refine St_step ?_; (try with_reducible intro _)) | (refine St_step2 ?_ ?_ <;> (intro hb; (try simp only [beq_iff_eq, bne_iff_ne, decide_eq_true_eq, decide_eq_false_iff_not, Bool.not_eq_true', Bool.not_eq_false', beq_eq_false_iff_ne, bne_eq_false_iff_eq, ne_eq, Int.not_lt, Int.not_le, gt_iff_lt, ge_iff_le] at hb); (try (first | exact Bool.noConfusion hb | exact absurd trivial hb | (exfalso; omega))))) | fail)
        all_goals first | (exfalso; omega) | skip
        rename_i z2 _
        refine St_exMk (l := lfL b ⟨sdAck sd' f.ack, rcHear rc' f.seq f.data, ep', win, room, true⟩) z2 (by exact Split.auto) ?_
        exact St_ret1 (.inl rfl) rfl rfl ⟨rfl, rfl⟩ (by exact Split.auto)
    · have han : lkAnew ⟨sd, rc, ep, win, room, pas⟩ f = false := by
        unfold lkAnew
        dsimp only
        rw [decide_eq_false ha, Bool.false_and]
      rw [han]
      simp only [Bool.false_eq_true, if_false]
      have c1 := fun (b : Nat) => c1 b sd (by omega)
      have c2 := fun (b : Nat) => c2 b rc (by omega)
      by_cases h0 : f.seq = 0
      · rw [if_pos h0]
        repeat' (first | (apply St_regionA (1000) ([]); kernel_rfl; (apply Sa_take 0; exact rfl; kernel_rfl; exact PanicOk.auto; exact rfl; (first | exact Rd_auto)); (apply Sa_take 1; exact rfl; kernel_rfl; exact PanicOk.auto; exact rfl; (first | exact Rd_auto)); (apply Sa_take 2; exact rfl; kernel_rfl; exact PanicOk.auto; exact rfl; (first | exact Rd_auto)); (apply Sa_take 3; exact rfl; kernel_rfl; exact PanicOk.auto; exact rfl; (first | exact Rd_auto)); (apply Sa_take 4; exact rfl; kernel_rfl; exact PanicOk.auto; exact rfl; (first | exact Rd_auto)); (apply Sa_take 5; exact rfl; kernel_rfl; exact PanicOk.auto; exact rfl; (first | exact Rd_auto)); (apply Sa_take 6; exact rfl; kernel_rfl; exact PanicOk.auto; exact rfl; (first | exact Rd_auto)); (apply Sa_take 7; exact rfl; kernel_rfl; exact PanicOk.auto; exact rfl; (first | exact Rd_auto)); (apply Sa_takeG 8; exact rfl; exact rfl; (first | with_reducible exact rfl | with_reducible exact Bool.not_false | with_reducible exact Bool.not_true | decide); kernel_rfl; exact PanicOk.auto; exact rfl; (first | exact Rd_auto)); (apply Sa_takeG 9; exact rfl; exact rfl; (first | with_reducible exact rfl | with_reducible exact Bool.not_false | with_reducible exact Bool.not_true | decide); kernel_rfl; exact PanicOk.auto; exact rfl; (first | exact Rd_auto)); (apply Sa_takeG 10; exact rfl; exact rfl; (first | with_reducible exact rfl | with_reducible exact Bool.not_false | with_reducible exact Bool.not_true | decide); kernel_rfl; exact PanicOk.auto; exact rfl; (first | exact Rd_auto)); (apply Sa_takeG 11; exact rfl; exact rfl; (first | with_reducible exact rfl | with_reducible exact Bool.not_false | with_reducible exact Bool.not_true | decide); kernel_rfl; exact PanicOk.auto; exact rfl; (first | exact Rd_auto)); (apply Sa_take 12; exact rfl; kernel_rfl; exact PanicOk.auto; exact rfl; (first | exact Rd_auto)); (apply Sa_done; kernel_rfl; exact .inr (by exact Split.auto))) | (apply St_regionA (1000) ([cel false b 54 [nat .i64 ep, .pointer (some ⟨z.1, 0, none⟩), .pointer (some ⟨z.2, 0, none⟩), .int .i64 win, .int .i64 room, .bool pas], cel false fb 67 (fv f)]); kernel_rfl; (apply Sa_take 0; exact rfl; kernel_rfl; exact PanicOk.auto; exact rfl; (first | exact Rd_auto)); (apply Sa_take 1; exact rfl; kernel_rfl; exact PanicOk.auto; exact rfl; (first | exact Rd_auto)); (apply Sa_take 2; exact rfl; kernel_rfl; exact PanicOk.auto; exact rfl; (first | exact Rd_auto)); (apply Sa_take 3; exact rfl; kernel_rfl; exact PanicOk.auto; exact rfl; (first | exact Rd_auto)); (apply Sa_take 4; exact rfl; kernel_rfl; exact PanicOk.auto; exact rfl; (first | exact Rd_auto)); (apply Sa_take 5; exact rfl; kernel_rfl; exact PanicOk.auto; exact rfl; (first | exact Rd_auto)); (apply Sa_one (i := 6); kernel_rfl; exact .inr (by exact Split.auto)); (apply Sa_op; exact rfl; exact rfl); (first | (apply St_call (hf := c1 _); exact rfl; exact rfl; exact Split.auto; rintro _ _ ⟨rfl, rfl⟩) | (refine St_step ?_; (try with_reducible intro _)) | (refine St_step2 ?_ ?_ <;> (intro hb; (try simp only [beq_iff_eq, bne_iff_ne, decide_eq_true_eq, decide_eq_false_iff_not, Bool.not_eq_true', Bool.not_eq_false', beq_eq_false_iff_ne, bne_eq_false_iff_eq, ne_eq, Int.not_lt, Int.not_le, gt_iff_lt, ge_iff_le] at hb); (try (first | exact Bool.noConfusion hb | exact absurd trivial hb | (exfalso; omega))))) | fail); (apply Sa_done; kernel_rfl; exact .inr (by exact Split.auto))) | (apply St_regionA (1000) ([cel false b 54 [nat .i64 ep, .pointer (some ⟨z.1, 0, none⟩), .pointer (some ⟨z.2, 0, none⟩), .int .i64 win, .int .i64 room, .bool pas], cel false fb 67 (fv f)]); kernel_rfl; (apply Sa_take 0; exact rfl; kernel_rfl; exact PanicOk.auto; exact rfl; (first | exact Rd_auto)); (apply Sa_take 1; exact rfl; kernel_rfl; exact PanicOk.auto; exact rfl; (first | exact Rd_auto)); (apply Sa_take 2; exact rfl; kernel_rfl; exact PanicOk.auto; exact rfl; (first | exact Rd_auto)); (apply Sa_take 3; exact rfl; kernel_rfl; exact PanicOk.auto; exact rfl; (first | exact Rd_auto)); (apply Sa_take 4; exact rfl; kernel_rfl; exact PanicOk.auto; exact rfl; (first | exact Rd_auto)); (apply Sa_take 5; exact rfl; kernel_rfl; exact PanicOk.auto; exact rfl; (first | exact Rd_auto)); (apply Sa_take 6; exact rfl; kernel_rfl; exact PanicOk.auto; exact rfl; (first | exact Rd_auto)); (apply Sa_take 7; exact rfl; kernel_rfl; exact PanicOk.auto; exact rfl; (first | exact Rd_auto)); (apply Sa_one (i := 8); kernel_rfl; exact .inr (by exact Split.auto)); (apply Sa_op; exact rfl; exact rfl); (first | (apply St_call (hf := c2 _); exact rfl; exact rfl; exact Split.auto; rintro _ _ ⟨rfl, rfl⟩) | (refine St_step ?_; (try with_reducible intro _)) | (refine St_step2 ?_ ?_ <;> (intro hb; (try simp only [beq_iff_eq, bne_iff_ne, decide_eq_true_eq, decide_eq_false_iff_not, Bool.not_eq_true', Bool.not_eq_false', beq_eq_false_iff_ne, bne_eq_false_iff_eq, ne_eq, Int.not_lt, Int.not_le, gt_iff_lt, ge_iff_le] at hb); (try (first | exact Bool.noConfusion hb | exact absurd trivial hb | (exfalso; omega))))) | fail); (apply Sa_done; kernel_rfl; exact .inr (by exact Split.auto))) | (apply St_regionQ; kernel_rfl; kernel_rfl) | (refine St_step ?_; (try with_reducible intro _)) | (refine St_step2 ?_ ?_ <;> (intro hb; (try simp only [beq_iff_eq, bne_iff_ne, decide_eq_true_eq, decide_eq_false_iff_not, Bool.not_eq_true', Bool.not_eq_false', beq_eq_false_iff_ne, bne_eq_false_iff_eq, ne_eq, Int.not_lt, Int.not_le, gt_iff_lt, ge_iff_le] at hb); (try (first | exact Bool.noConfusion hb | exact absurd trivial hb | (exfalso; omega))))) | fail)
        all_goals first | (exfalso; omega) | skip
        refine St_exMk (l := lfL b ⟨sdAck sd f.ack, rc, ep, win, room, pas⟩) z (by exact Split.auto) ?_
        exact St_ret1 (.inl rfl) rfl rfl ⟨rfl, rfl⟩ (by exact Split.auto)
      · rw [if_neg h0]
        repeat' (first | (apply St_regionA (1000) ([]); kernel_rfl; (apply Sa_take 0; exact rfl; kernel_rfl; exact PanicOk.auto; exact rfl; (first | exact Rd_auto)); (apply Sa_take 1; exact rfl; kernel_rfl; exact PanicOk.auto; exact rfl; (first | exact Rd_auto)); (apply Sa_take 2; exact rfl; kernel_rfl; exact PanicOk.auto; exact rfl; (first | exact Rd_auto)); (apply Sa_take 3; exact rfl; kernel_rfl; exact PanicOk.auto; exact rfl; (first | exact Rd_auto)); (apply Sa_take 4; exact rfl; kernel_rfl; exact PanicOk.auto; exact rfl; (first | exact Rd_auto)); (apply Sa_take 5; exact rfl; kernel_rfl; exact PanicOk.auto; exact rfl; (first | exact Rd_auto)); (apply Sa_take 6; exact rfl; kernel_rfl; exact PanicOk.auto; exact rfl; (first | exact Rd_auto)); (apply Sa_take 7; exact rfl; kernel_rfl; exact PanicOk.auto; exact rfl; (first | exact Rd_auto)); (apply Sa_takeG 8; exact rfl; exact rfl; (first | with_reducible exact rfl | with_reducible exact Bool.not_false | with_reducible exact Bool.not_true | decide); kernel_rfl; exact PanicOk.auto; exact rfl; (first | exact Rd_auto)); (apply Sa_takeG 9; exact rfl; exact rfl; (first | with_reducible exact rfl | with_reducible exact Bool.not_false | with_reducible exact Bool.not_true | decide); kernel_rfl; exact PanicOk.auto; exact rfl; (first | exact Rd_auto)); (apply Sa_takeG 10; exact rfl; exact rfl; (first | with_reducible exact rfl | with_reducible exact Bool.not_false | with_reducible exact Bool.not_true | decide); kernel_rfl; exact PanicOk.auto; exact rfl; (first | exact Rd_auto)); (apply Sa_takeG 11; exact rfl; exact rfl; (first | with_reducible exact rfl | with_reducible exact Bool.not_false | with_reducible exact Bool.not_true | decide); kernel_rfl; exact PanicOk.auto; exact rfl; (first | exact Rd_auto)); (apply Sa_take 12; exact rfl; kernel_rfl; exact PanicOk.auto; exact rfl; (first | exact Rd_auto)); (apply Sa_done; kernel_rfl; exact .inr (by exact Split.auto))) | (apply St_regionA (1000) ([cel false b 54 [nat .i64 ep, .pointer (some ⟨z.1, 0, none⟩), .pointer (some ⟨z.2, 0, none⟩), .int .i64 win, .int .i64 room, .bool pas], cel false fb 67 (fv f)]); kernel_rfl; (apply Sa_take 0; exact rfl; kernel_rfl; exact PanicOk.auto; exact rfl; (first | exact Rd_auto)); (apply Sa_take 1; exact rfl; kernel_rfl; exact PanicOk.auto; exact rfl; (first | exact Rd_auto)); (apply Sa_take 2; exact rfl; kernel_rfl; exact PanicOk.auto; exact rfl; (first | exact Rd_auto)); (apply Sa_take 3; exact rfl; kernel_rfl; exact PanicOk.auto; exact rfl; (first | exact Rd_auto)); (apply Sa_take 4; exact rfl; kernel_rfl; exact PanicOk.auto; exact rfl; (first | exact Rd_auto)); (apply Sa_take 5; exact rfl; kernel_rfl; exact PanicOk.auto; exact rfl; (first | exact Rd_auto)); (apply Sa_one (i := 6); kernel_rfl; exact .inr (by exact Split.auto)); (apply Sa_op; exact rfl; exact rfl); (first | (apply St_call (hf := c1 _); exact rfl; exact rfl; exact Split.auto; rintro _ _ ⟨rfl, rfl⟩) | (refine St_step ?_; (try with_reducible intro _)) | (refine St_step2 ?_ ?_ <;> (intro hb; (try simp only [beq_iff_eq, bne_iff_ne, decide_eq_true_eq, decide_eq_false_iff_not, Bool.not_eq_true', Bool.not_eq_false', beq_eq_false_iff_ne, bne_eq_false_iff_eq, ne_eq, Int.not_lt, Int.not_le, gt_iff_lt, ge_iff_le] at hb); (try (first | exact Bool.noConfusion hb | exact absurd trivial hb | (exfalso; omega))))) | fail); (apply Sa_done; kernel_rfl; exact .inr (by exact Split.auto))) | (apply St_regionA (1000) ([cel false b 54 [nat .i64 ep, .pointer (some ⟨z.1, 0, none⟩), .pointer (some ⟨z.2, 0, none⟩), .int .i64 win, .int .i64 room, .bool pas], cel false fb 67 (fv f)]); kernel_rfl; (apply Sa_take 0; exact rfl; kernel_rfl; exact PanicOk.auto; exact rfl; (first | exact Rd_auto)); (apply Sa_take 1; exact rfl; kernel_rfl; exact PanicOk.auto; exact rfl; (first | exact Rd_auto)); (apply Sa_take 2; exact rfl; kernel_rfl; exact PanicOk.auto; exact rfl; (first | exact Rd_auto)); (apply Sa_take 3; exact rfl; kernel_rfl; exact PanicOk.auto; exact rfl; (first | exact Rd_auto)); (apply Sa_take 4; exact rfl; kernel_rfl; exact PanicOk.auto; exact rfl; (first | exact Rd_auto)); (apply Sa_take 5; exact rfl; kernel_rfl; exact PanicOk.auto; exact rfl; (first | exact Rd_auto)); (apply Sa_take 6; exact rfl; kernel_rfl; exact PanicOk.auto; exact rfl; (first | exact Rd_auto)); (apply Sa_take 7; exact rfl; kernel_rfl; exact PanicOk.auto; exact rfl; (first | exact Rd_auto)); (apply Sa_one (i := 8); kernel_rfl; exact .inr (by exact Split.auto)); (apply Sa_op; exact rfl; exact rfl); (first | (apply St_call (hf := c2 _); exact rfl; exact rfl; exact Split.auto; rintro _ _ ⟨rfl, rfl⟩) | (refine St_step ?_; (try with_reducible intro _)) | (refine St_step2 ?_ ?_ <;> (intro hb; (try simp only [beq_iff_eq, bne_iff_ne, decide_eq_true_eq, decide_eq_false_iff_not, Bool.not_eq_true', Bool.not_eq_false', beq_eq_false_iff_ne, bne_eq_false_iff_eq, ne_eq, Int.not_lt, Int.not_le, gt_iff_lt, ge_iff_le] at hb); (try (first | exact Bool.noConfusion hb | exact absurd trivial hb | (exfalso; omega))))) | fail); (apply Sa_done; kernel_rfl; exact .inr (by exact Split.auto))) | (apply St_regionQ; kernel_rfl; kernel_rfl) | (refine St_step ?_; (try with_reducible intro _)) | (refine St_step2 ?_ ?_ <;> (intro hb; (try simp only [beq_iff_eq, bne_iff_ne, decide_eq_true_eq, decide_eq_false_iff_not, Bool.not_eq_true', Bool.not_eq_false', beq_eq_false_iff_ne, bne_eq_false_iff_eq, ne_eq, Int.not_lt, Int.not_le, gt_iff_lt, ge_iff_le] at hb); (try (first | exact Bool.noConfusion hb | exact absurd trivial hb | (exfalso; omega))))) | fail)
        all_goals first | (exfalso; omega) | skip
        refine St_exMk (l := lfL b ⟨sdAck sd f.ack, rcHear rc f.seq f.data, ep, win, room, pas⟩) z (by exact Split.auto) ?_
        exact St_ret1 (.inl rfl) rfl rfl ⟨rfl, rfl⟩ (by exact Split.auto)
set_option maxHeartbeats 1000000 in
theorem lfFrames_sp (b : Nat) (k : Lk) (hk : lkOk k) (hq : k.rc.acked ≤ 10000000000) (hs : k.sd.acked + k.sd.ps.length ≤ 10000000000) : Sp Tryz.prog 51 [.pointer (some ⟨b, 0, none⟩)] [LfP b k]
    (fun v M => (∃ A c, v = .slice A (lkFrames k).length c) ∧ M = [RS true v (lkFrames k).length ((lkFrames k).flatMap fv), LfP b k]) := by
  refine Sp.intro (P := Tryz.prog) (Tryz.func51) rfl Tryz.ntmps51 (by decide) rfl ?_
  intro ρ F
  have hw := hk.sd.w
  have hl := hk.sd.l
  have hep := hk.ep
  refine St_exOpen (l := lfL b k) (by exact Has.auto) fun z => ?_
  by_cases h0 : k.ep = 0
  · have e : lkFrames k = [] := if_pos h0
    rw [e]
    repeat' (first | (apply St_build0 tb (sz := 4); exact rfl; exact rfl; exact rfl; exact rfl; intro b0) | (refine St_step ?_; (try with_reducible intro _)) | (refine St_step2 ?_ ?_ <;> (intro hb; (try simp only [beq_iff_eq, bne_iff_ne, decide_eq_true_eq, decide_eq_false_iff_not, Bool.not_eq_true', Bool.not_eq_false', beq_eq_false_iff_ne, bne_eq_false_iff_eq, ne_eq, Int.not_lt, Int.not_le, gt_iff_lt, ge_iff_le] at hb); (try (first | exact Bool.noConfusion hb | exact absurd trivial hb | (exfalso; omega))))) | fail)
    all_goals first | (exfalso; omega) | skip
    refine St_exMk (l := lfL b k) z (by exact Split.auto) ?_
    refine St_rsNil (r := true) (A := some ⟨b0, 0, none⟩) (c := 0) ?_
    exact St_ret1 (.inl rfl) rfl rfl ⟨⟨_, _, rfl⟩, rfl⟩ (by exact Split.auto)
  have cp := sfLeft_sp z.1 k.sd (by omega)
  repeat' (first | (apply St_build0 tb (sz := 4); exact rfl; exact rfl; exact rfl; exact rfl; intro b0) | (apply St_call (hf := cp); exact rfl; exact rfl; exact Split.auto; rintro _ _ ⟨⟨A, c, rfl⟩, rfl⟩) | (refine St_step ?_; (try with_reducible intro _)) | (refine St_step2 ?_ ?_ <;> (intro hb; (try simp only [beq_iff_eq, bne_iff_ne, decide_eq_true_eq, decide_eq_false_iff_not, Bool.not_eq_true', Bool.not_eq_false', beq_eq_false_iff_ne, bne_eq_false_iff_eq, ne_eq, Int.not_lt, Int.not_le, gt_iff_lt, ge_iff_le] at hb); (try (first | exact Bool.noConfusion hb | exact absurd trivial hb | (exfalso; omega))))) | fail)
  all_goals first | (exfalso; omega) | skip
  refine St_sfOpen (b := z.1) (s := k.sd) (by exact Has.auto) fun As cs0 alls s1 s2 s3 => ?_
  refine St_rfOpen (b := z.2) (r := k.rc) (by exact Has.auto) fun Ar cr allr pr r1 r2 r3 => ?_
  refine St_loop (fun (y : Nat × Option Addr × Nat) => y.1 ≤ k.sd.ps.length) (fun y => [(0, .pointer (some ⟨b, 0, none⟩)), (3, .slice y.2.1 y.1 y.2.2), (4, .slice A k.sd.ps.length c), (5, nat .i64 y.1)]) (fun y => [Sl 67 4 (.slice y.2.1 y.1 y.2.2) y.1 ((frames1 k.ep k.rc.acked (k.sd.acked + 1) (k.sd.ps.take y.1)).flatMap fv), RS true (.slice A k.sd.ps.length c) k.sd.ps.length (k.sd.ps.flatMap tv), cel false b 54 [nat .i64 k.ep, .pointer (some ⟨z.1, 0, none⟩), .pointer (some ⟨z.2, 0, none⟩), .int .i64 k.win, .int .i64 k.room, .bool k.pas], cel false z.1 114 [nat .i64 k.sd.win, nat .i64 k.sd.last, .slice As alls.length cs0, nat .i64 k.sd.acked], RS true (.slice As alls.length cs0) alls.length (alls.flatMap tv), cel false z.2 146 [nat .i64 k.rc.room, .slice Ar allr.length cr, nat .i64 pr], RS true (.slice Ar allr.length cr) allr.length (allr.flatMap tv), big F]) (fun y => k.sd.ps.length - y.1) (0, some ⟨b0, 0, none⟩, 0) (Nat.zero_le _) ⟨rfl, rfl, rfl, rfl, trivial⟩ (by exact Split.auto) ?_
  rintro ⟨i, A1, c1⟩ hi
  have hi : i ≤ k.sd.ps.length := hi
  dsimp only
  by_cases hil : i < k.sd.ps.length
  · obtain ⟨d, hd⟩ : ∃ d, k.sd.ps[i]? = some d := ⟨_, List.getElem?_eq_getElem hil⟩
    refine St_rsOpen (r := true) (v := .slice A k.sd.ps.length c) (n := k.sd.ps.length) (cs := k.sd.ps.flatMap tv) (by exact Has.auto) (by omega) ?_
    rintro b2 T cap pre rest hv
    injection hv with hv1 hv2 hv3
    subst hv1 hv3
    have hld : (pre ++ k.sd.ps.flatMap tv ++ rest)[pre.length + (i : Int).toNat * 1]? = some (str d) := by
      have := flat_cell tv_len (us := k.sd.ps) (i := i) (j := 0) (u := d) pre rest hd (by decide)
      rw [Int.toNat_natCast]; exact this
    have hnext : frames1 k.ep k.rc.acked (k.sd.acked + 1) (k.sd.ps.take (i + 1)) = frames1 k.ep k.rc.acked (k.sd.acked + 1) (k.sd.ps.take i) ++ [⟨k.ep, (k.sd.acked : Int) + i + 1, allr.length, d⟩] := by
      rw [List.take_add_one, hd]
      show frames1 k.ep k.rc.acked (k.sd.acked + 1) (k.sd.ps.take i ++ [d]) = _
      rw [frames1_snoc, List.length_take, Nat.min_eq_left hi, r1]
      congr 3
      omega
    repeat' (first | (apply St_regionA (1000) ([cel false b 54 [nat .i64 k.ep, .pointer (some ⟨z.1, 0, none⟩), .pointer (some ⟨z.2, 0, none⟩), .int .i64 k.win, .int .i64 k.room, .bool k.pas], cel false z.1 114 [nat .i64 k.sd.win, nat .i64 k.sd.last, .slice As alls.length cs0, nat .i64 k.sd.acked], cel false z.2 146 [nat .i64 k.rc.room, .slice Ar allr.length cr, nat .i64 pr], cel true b2 T (pre ++ k.sd.ps.flatMap tv ++ rest)]); kernel_rfl; (apply Sa_take 0; exact rfl; kernel_rfl; exact PanicOk.auto; exact rfl; (first | (apply Rd_loadn tb; exact rfl; exact rfl; exact rfl; exact Has.auto; exact hld) | exact Rd_auto)); (apply Sa_take 1; exact rfl; kernel_rfl; exact PanicOk.auto; exact rfl; (first | (apply Rd_loadn tb; exact rfl; exact rfl; exact rfl; exact Has.auto; exact hld) | exact Rd_auto)); (apply Sa_take 2; exact rfl; kernel_rfl; exact PanicOk.auto; exact rfl; (first | (apply Rd_loadn tb; exact rfl; exact rfl; exact rfl; exact Has.auto; exact hld) | exact Rd_auto)); (apply Sa_take 3; exact rfl; kernel_rfl; exact PanicOk.auto; exact rfl; (first | (apply Rd_loadn tb; exact rfl; exact rfl; exact rfl; exact Has.auto; exact hld) | exact Rd_auto)); (apply Sa_take 4; exact rfl; kernel_rfl; exact PanicOk.auto; exact rfl; (first | (apply Rd_loadn tb; exact rfl; exact rfl; exact rfl; exact Has.auto; exact hld) | exact Rd_auto)); (apply Sa_take 5; exact rfl; kernel_rfl; exact PanicOk.auto; exact rfl; (first | (apply Rd_loadn tb; exact rfl; exact rfl; exact rfl; exact Has.auto; exact hld) | exact Rd_auto)); (apply Sa_take 6; exact rfl; kernel_rfl; exact PanicOk.auto; exact rfl; (first | (apply Rd_loadn tb; exact rfl; exact rfl; exact rfl; exact Has.auto; exact hld) | exact Rd_auto)); (apply Sa_take 7; exact rfl; kernel_rfl; exact PanicOk.auto; exact rfl; (first | (apply Rd_loadn tb; exact rfl; exact rfl; exact rfl; exact Has.auto; exact hld) | exact Rd_auto)); (apply Sa_take 8; exact rfl; kernel_rfl; exact PanicOk.auto; exact rfl; (first | (apply Rd_loadn tb; exact rfl; exact rfl; exact rfl; exact Has.auto; exact hld) | exact Rd_auto)); (apply Sa_take 9; exact rfl; kernel_rfl; exact PanicOk.auto; exact rfl; (first | (apply Rd_loadn tb; exact rfl; exact rfl; exact rfl; exact Has.auto; exact hld) | exact Rd_auto)); (apply Sa_take 10; exact rfl; kernel_rfl; exact PanicOk.auto; exact rfl; (first | (apply Rd_loadn tb; exact rfl; exact rfl; exact rfl; exact Has.auto; exact hld) | exact Rd_auto)); (apply Sa_take 11; exact rfl; kernel_rfl; exact PanicOk.auto; exact rfl; (first | (apply Rd_loadn tb; exact rfl; exact rfl; exact rfl; exact Has.auto; exact hld) | exact Rd_auto)); (apply Sa_take 12; exact rfl; kernel_rfl; exact PanicOk.auto; exact rfl; (first | (apply Rd_loadn tb; exact rfl; exact rfl; exact rfl; exact Has.auto; exact hld) | exact Rd_auto)); (apply Sa_take 13; exact rfl; kernel_rfl; exact PanicOk.auto; exact rfl; (first | (apply Rd_loadn tb; exact rfl; exact rfl; exact rfl; exact Has.auto; exact hld) | exact Rd_auto)); (apply Sa_take 14; exact rfl; kernel_rfl; exact PanicOk.auto; exact rfl; (first | (apply Rd_loadn tb; exact rfl; exact rfl; exact rfl; exact Has.auto; exact hld) | exact Rd_auto)); (apply Sa_take 15; exact rfl; kernel_rfl; exact PanicOk.auto; exact rfl; (first | (apply Rd_loadn tb; exact rfl; exact rfl; exact rfl; exact Has.auto; exact hld) | exact Rd_auto)); (apply Sa_take 16; exact rfl; kernel_rfl; exact PanicOk.auto; exact rfl; (first | (apply Rd_loadn tb; exact rfl; exact rfl; exact rfl; exact Has.auto; exact hld) | exact Rd_auto)); (apply Sa_take 17; exact rfl; kernel_rfl; exact PanicOk.auto; exact rfl; (first | (apply Rd_loadn tb; exact rfl; exact rfl; exact rfl; exact Has.auto; exact hld) | exact Rd_auto)); (apply Sa_take 18; exact rfl; kernel_rfl; exact PanicOk.auto; exact rfl; (first | (apply Rd_loadn tb; exact rfl; exact rfl; exact rfl; exact Has.auto; exact hld) | exact Rd_auto)); (apply Sa_take 19; exact rfl; kernel_rfl; exact PanicOk.auto; exact rfl; (first | (apply Rd_loadn tb; exact rfl; exact rfl; exact rfl; exact Has.auto; exact hld) | exact Rd_auto)); (apply Sa_take 20; exact rfl; kernel_rfl; exact PanicOk.auto; exact rfl; (first | (apply Rd_loadn tb; exact rfl; exact rfl; exact rfl; exact Has.auto; exact hld) | exact Rd_auto)); (apply Sa_take 21; exact rfl; kernel_rfl; exact PanicOk.auto; exact rfl; (first | (apply Rd_loadn tb; exact rfl; exact rfl; exact rfl; exact Has.auto; exact hld) | exact Rd_auto)); (apply Sa_take 22; exact rfl; kernel_rfl; exact PanicOk.auto; exact rfl; (first | (apply Rd_loadn tb; exact rfl; exact rfl; exact rfl; exact Has.auto; exact hld) | exact Rd_auto)); (apply Sa_take 23; exact rfl; kernel_rfl; exact PanicOk.auto; exact rfl; (first | (apply Rd_loadn tb; exact rfl; exact rfl; exact rfl; exact Has.auto; exact hld) | exact Rd_auto)); (apply Sa_take 24; exact rfl; kernel_rfl; exact PanicOk.auto; exact rfl; (first | (apply Rd_loadn tb; exact rfl; exact rfl; exact rfl; exact Has.auto; exact hld) | exact Rd_auto)); (apply Sa_take 25; exact rfl; kernel_rfl; exact PanicOk.auto; exact rfl; (first | (apply Rd_loadn tb; exact rfl; exact rfl; exact rfl; exact Has.auto; exact hld) | exact Rd_auto)); (apply Sa_take 26; exact rfl; kernel_rfl; exact PanicOk.auto; exact rfl; (first | (apply Rd_loadn tb; exact rfl; exact rfl; exact rfl; exact Has.auto; exact hld) | exact Rd_auto)); (apply Sa_take 27; exact rfl; kernel_rfl; exact PanicOk.auto; exact rfl; (first | (apply Rd_loadn tb; exact rfl; exact rfl; exact rfl; exact Has.auto; exact hld) | exact Rd_auto)); (apply Sa_one (i := 28); kernel_rfl; exact .inr (by exact Split.auto)); (apply Sa_op; exact rfl; exact rfl); (first | (apply St_append tb (sz := 4) (n := i); (repeat exact rfl); exact Has.auto; (intro _; exact Src.row (n := 1) (by exact Has.auto) (by simp) (by exact rfl)); exact rfl; (dsimp only; omega); intro v'; refine St_slIs (v := v') (n := i + 1) (by exact Has.auto) ?_; rintro A' c' rfl) | (apply St_rd; exact rfl; (first | (apply Rd_loadn tb; exact rfl; exact rfl; exact rfl; exact Has.auto; exact hld))) | (apply Sq_rd; exact rfl; (first | (apply Rd_loadn tb; exact rfl; exact rfl; exact rfl; exact Has.auto; exact hld))) | (refine St_step ?_; (try with_reducible intro _)) | (refine St_step2 ?_ ?_ <;> (intro hb; (try simp only [beq_iff_eq, bne_iff_ne, decide_eq_true_eq, decide_eq_false_iff_not, Bool.not_eq_true', Bool.not_eq_false', beq_eq_false_iff_ne, bne_eq_false_iff_eq, ne_eq, Int.not_lt, Int.not_le, gt_iff_lt, ge_iff_le] at hb); (try (first | exact Bool.noConfusion hb | exact absurd trivial hb | (exfalso; omega))))) | fail); (apply Sa_one (i := 29); kernel_rfl; exact .inr (by exact Split.auto)); (apply Sa_op; exact rfl; exact rfl); (first | (apply St_append tb (sz := 4) (n := i); (repeat exact rfl); exact Has.auto; (intro _; exact Src.row (n := 1) (by exact Has.auto) (by simp) (by exact rfl)); exact rfl; (dsimp only; omega); intro v'; refine St_slIs (v := v') (n := i + 1) (by exact Has.auto) ?_; rintro A' c' rfl) | (apply St_rd; exact rfl; (first | (apply Rd_loadn tb; exact rfl; exact rfl; exact rfl; exact Has.auto; exact hld))) | (apply Sq_rd; exact rfl; (first | (apply Rd_loadn tb; exact rfl; exact rfl; exact rfl; exact Has.auto; exact hld))) | (refine St_step ?_; (try with_reducible intro _)) | (refine St_step2 ?_ ?_ <;> (intro hb; (try simp only [beq_iff_eq, bne_iff_ne, decide_eq_true_eq, decide_eq_false_iff_not, Bool.not_eq_true', Bool.not_eq_false', beq_eq_false_iff_ne, bne_eq_false_iff_eq, ne_eq, Int.not_lt, Int.not_le, gt_iff_lt, ge_iff_le] at hb); (try (first | exact Bool.noConfusion hb | exact absurd trivial hb | (exfalso; omega))))) | fail); (apply Sa_take 30; exact rfl; kernel_rfl; exact PanicOk.auto; exact rfl; (first | (apply Rd_loadn tb; exact rfl; exact rfl; exact rfl; exact Has.auto; exact hld) | exact Rd_auto)); (apply Sa_done; kernel_rfl; exact .inr (by exact Split.auto))) | (refine St_step ?_; (try with_reducible intro _)) | (refine St_step2 ?_ ?_ <;> (intro hb; (try simp only [beq_iff_eq, bne_iff_ne, decide_eq_true_eq, decide_eq_false_iff_not, Bool.not_eq_true', Bool.not_eq_false', beq_eq_false_iff_ne, bne_eq_false_iff_eq, ne_eq, Int.not_lt, Int.not_le, gt_iff_lt, ge_iff_le] at hb); (try (first | exact Bool.noConfusion hb | exact absurd trivial hb | (exfalso; omega))))) | fail)
    all_goals first | (exfalso; omega) | skip
    refine St_slEq (cs' := (frames1 k.ep k.rc.acked (k.sd.acked + 1) (k.sd.ps.take (i + 1))).flatMap fv) (n' := i + 1) (by exact Has.auto) (by rw [hnext, List.flatMap_append]; rfl) rfl ?_
    refine St_rsMk (n := k.sd.ps.length) (cap := c) (cs := k.sd.ps.flatMap tv) (pre := pre) (rest := rest) (by exact Has.auto) ?_
    exact St_at (i + 1, A', c') ⟨by show i + 1 ≤ _; omega, by show _ - (i + 1) < _ - i; omega⟩ ⟨rfl, rfl, rfl, rfl, trivial⟩ (by exact Split.auto)
  · have hii : i = k.sd.ps.length := by omega
    subst hii
    rw [List.take_length]
    by_cases hp : k.sd.ps = []
    · have e : lkFrames k = [⟨k.ep, 0, allr.length, []⟩] := by unfold lkFrames; rw [if_neg h0, if_pos hp, r1]
      have hz : k.sd.ps.length = 0 := by rw [hp]; rfl
      rw [e]
      repeat' (first | (apply St_regionA (1000) ([cel false b 54 [nat .i64 k.ep, .pointer (some ⟨z.1, 0, none⟩), .pointer (some ⟨z.2, 0, none⟩), .int .i64 k.win, .int .i64 k.room, .bool k.pas], cel false z.2 146 [nat .i64 k.rc.room, .slice Ar allr.length cr, nat .i64 pr]]); kernel_rfl; (apply Sa_take 0; exact rfl; kernel_rfl; exact PanicOk.auto; exact rfl; (first | exact Rd_auto)); (apply Sa_take 1; exact rfl; kernel_rfl; exact PanicOk.auto; exact rfl; (first | exact Rd_auto)); (apply Sa_take 2; exact rfl; kernel_rfl; exact PanicOk.auto; exact rfl; (first | exact Rd_auto)); (apply Sa_take 3; exact rfl; kernel_rfl; exact PanicOk.auto; exact rfl; (first | exact Rd_auto)); (apply Sa_take 4; exact rfl; kernel_rfl; exact PanicOk.auto; exact rfl; (first | exact Rd_auto)); (apply Sa_take 5; exact rfl; kernel_rfl; exact PanicOk.auto; exact rfl; (first | exact Rd_auto)); (apply Sa_take 6; exact rfl; kernel_rfl; exact PanicOk.auto; exact rfl; (first | exact Rd_auto)); (apply Sa_take 7; exact rfl; kernel_rfl; exact PanicOk.auto; exact rfl; (first | exact Rd_auto)); (apply Sa_take 8; exact rfl; kernel_rfl; exact PanicOk.auto; exact rfl; (first | exact Rd_auto)); (apply Sa_take 9; exact rfl; kernel_rfl; exact PanicOk.auto; exact rfl; (first | exact Rd_auto)); (apply Sa_take 10; exact rfl; kernel_rfl; exact PanicOk.auto; exact rfl; (first | exact Rd_auto)); (apply Sa_take 11; exact rfl; kernel_rfl; exact PanicOk.auto; exact rfl; (first | exact Rd_auto)); (apply Sa_take 12; exact rfl; kernel_rfl; exact PanicOk.auto; exact rfl; (first | exact Rd_auto)); (apply Sa_take 13; exact rfl; kernel_rfl; exact PanicOk.auto; exact rfl; (first | exact Rd_auto)); (apply Sa_one (i := 14); kernel_rfl; exact .inr (by exact Split.auto)); (apply Sa_op; exact rfl; exact rfl); (first | (apply St_append tb (sz := 4) (n := k.sd.ps.length); (repeat exact rfl); exact Has.auto; (intro _; exact Src.row (n := 1) (by exact Has.auto) (by simp) (by exact rfl)); exact rfl; (dsimp only; omega); intro v'; refine St_slIs (v := v') (n := k.sd.ps.length + 1) (by exact Has.auto) ?_; rintro A' c' rfl) | (refine St_step ?_; (try with_reducible intro _)) | (refine St_step2 ?_ ?_ <;> (intro hb; (try simp only [beq_iff_eq, bne_iff_ne, decide_eq_true_eq, decide_eq_false_iff_not, Bool.not_eq_true', Bool.not_eq_false', beq_eq_false_iff_ne, bne_eq_false_iff_eq, ne_eq, Int.not_lt, Int.not_le, gt_iff_lt, ge_iff_le] at hb); (try (first | exact Bool.noConfusion hb | exact absurd trivial hb | (exfalso; omega))))) | fail); (apply Sa_one (i := 15); kernel_rfl; exact .inr (by exact Split.auto)); (apply Sa_op; exact rfl; exact rfl); (first | (apply St_append tb (sz := 4) (n := k.sd.ps.length); (repeat exact rfl); exact Has.auto; (intro _; exact Src.row (n := 1) (by exact Has.auto) (by simp) (by exact rfl)); exact rfl; (dsimp only; omega); intro v'; refine St_slIs (v := v') (n := k.sd.ps.length + 1) (by exact Has.auto) ?_; rintro A' c' rfl) | (refine St_step ?_; (try with_reducible intro _)) | (refine St_step2 ?_ ?_ <;> (intro hb; (try simp only [beq_iff_eq, bne_iff_ne, decide_eq_true_eq, decide_eq_false_iff_not, Bool.not_eq_true', Bool.not_eq_false', beq_eq_false_iff_ne, bne_eq_false_iff_eq, ne_eq, Int.not_lt, Int.not_le, gt_iff_lt, ge_iff_le] at hb); (try (first | exact Bool.noConfusion hb | exact absurd trivial hb | (exfalso; omega))))) | fail); (apply Sa_take 16; exact rfl; kernel_rfl; exact PanicOk.auto; exact rfl; (first | exact Rd_auto)); (apply Sa_done; kernel_rfl; exact .inr (by exact Split.auto))) | (refine St_step ?_; (try with_reducible intro _)) | (refine St_step2 ?_ ?_ <;> (intro hb; (try simp only [beq_iff_eq, bne_iff_ne, decide_eq_true_eq, decide_eq_false_iff_not, Bool.not_eq_true', Bool.not_eq_false', beq_eq_false_iff_ne, bne_eq_false_iff_eq, ne_eq, Int.not_lt, Int.not_le, gt_iff_lt, ge_iff_le] at hb); (try (first | exact Bool.noConfusion hb | exact absurd trivial hb | (exfalso; omega))))) | fail)
      all_goals first | (exfalso; omega) | skip
      refine St_slEq (v := .slice A' (k.sd.ps.length + 1) c') (cs' := [(⟨k.ep, 0, allr.length, []⟩ : Fr)].flatMap fv) (n' := 1) (by exact Has.auto) (by rw [hp]; rfl) (by omega) ?_
      refine St_slShare (v := .slice A' (k.sd.ps.length + 1) c') (n := 1) (by exact Has.auto) ?_
      refine St_sfMk (b := z.1) (s := k.sd) s1 s2 s3 (by exact Split.auto) ?_
      refine St_rfMk (b := z.2) (r := k.rc) r1 r2 r3 (by exact Split.auto) ?_
      refine St_exMk (l := lfL b k) z (by exact Split.auto) ?_
      refine St_val (t := 2) (v' := .slice A' 1 c') rfl (by rw [hz]) ?_
      rw [hz]
      exact St_ret1 (.inl rfl) rfl rfl ⟨⟨A', c', rfl⟩, rfl⟩ (by exact Split.auto)
    · have e : lkFrames k = frames1 k.ep k.rc.acked (k.sd.acked + 1) k.sd.ps := by unfold lkFrames; rw [if_neg h0, if_neg hp]
      have hz : k.sd.ps.length ≠ 0 := fun h => hp (List.eq_nil_of_length_eq_zero h)
      rw [e, frames1_length]
      repeat' (first | (refine St_step ?_; (try with_reducible intro _)) | (refine St_step2 ?_ ?_ <;> (intro hb; (try simp only [beq_iff_eq, bne_iff_ne, decide_eq_true_eq, decide_eq_false_iff_not, Bool.not_eq_true', Bool.not_eq_false', beq_eq_false_iff_ne, bne_eq_false_iff_eq, ne_eq, Int.not_lt, Int.not_le, gt_iff_lt, ge_iff_le] at hb); (try (first | exact Bool.noConfusion hb | exact absurd trivial hb | (exfalso; omega))))) | fail)
      all_goals first | (exfalso; omega) | skip
      refine St_slShare (n := k.sd.ps.length) (by exact Has.auto) ?_
      refine St_sfMk (b := z.1) (s := k.sd) s1 s2 s3 (by exact Split.auto) ?_
      refine St_rfMk (b := z.2) (r := k.rc) r1 r2 r3 (by exact Split.auto) ?_
      refine St_exMk (l := lfL b k) z (by exact Split.auto) ?_
      exact St_ret1 (.inl rfl) rfl rfl ⟨⟨A1, c1, rfl⟩, rfl⟩ (by exact Split.auto)
end Go.Proofs.YtfjnacakpeommaaGreatDoor
/- Contracts: chapbookref01.Zig, Zag, chapbookref03.Signed, chapbookref04.May, chapbookref06.Bytes, Read, chapbookref07.May, Bytes, Fits. -/
namespace Go.Proofs.YtfjnacakpeommaaGreatDoor
open Go SL Pl
set_option autoImplicit false
set_option maxRecDepth 100000
set_option linter.unusedSimpArgs false
set_option linter.unusedVariables false
attribute [local irreducible] St Sq Exec QExec wpList wpQuiet Code.wp Exit.then Exit.inBlock bodyPost At Rd wpOp Wa QK GB
theorem refZag_sp (n : Nat) (hn : n < 18446744073709551616) : Sp Tryz.prog 130 [nat .u64 n] [] (fun v M => v = .int .i64 (zag n) ∧ M = []) := by
  refine Sp.intro (P := Tryz.prog) (Tryz.func130) rfl Tryz.ntmps130 (by decide) rfl ?_
  intro ρ F
  unfold zag
  by_cases h : 4611686018427387904 ≤ n
  · rw [if_pos h]
    repeat' (first | (refine St_step ?_; (try with_reducible intro _)) | (refine St_step2 ?_ ?_ <;> (intro hb; (try simp only [beq_iff_eq, bne_iff_ne, decide_eq_true_eq, decide_eq_false_iff_not, Bool.not_eq_true', Bool.not_eq_false', beq_eq_false_iff_ne, bne_eq_false_iff_eq, ne_eq, Int.not_lt, Int.not_le, gt_iff_lt, ge_iff_le] at hb); (try (first | exact Bool.noConfusion hb | exact absurd trivial hb | (exfalso; omega))))) | fail)
    all_goals (first | contradiction | (exfalso; omega) | (exact St_ret1 (.inl rfl) rfl rfl ⟨rfl, rfl⟩ (by exact Split.auto)) | (exact St_ret2 (.inl rfl) rfl rfl rfl ⟨rfl, rfl⟩ (by exact Split.auto)) | (exact St_ret3 (.inl rfl) rfl rfl rfl rfl ⟨rfl, rfl⟩ (by exact Split.auto)))
  · rw [if_neg h]
    have e1 : IntKind.i64.wrap ((n / 2 : Nat) : Int) = ((n / 2 : Nat) : Int) := IntWalk.i64_in _ (by omega)
    have e2 : IntKind.i64.wrap (0 - ((n / 2 : Nat) : Int)) = -((n / 2 : Nat) : Int) := by
      rw [show (0 : Int) - ((n / 2 : Nat) : Int) = -((n / 2 : Nat) : Int) by omega]; exact IntWalk.i64_in _ (by omega)
    by_cases h1 : n % 2 = 1
    · rw [if_pos h1]
      repeat' (first | (apply St_rd; exact rfl; (first | (apply Rd_natMod; exact rfl; exact rfl; decide) | (apply Rd_natDiv; exact rfl; exact rfl; exact rfl; exact hn; decide) | (apply Rd_convV tb; exact rfl; exact rfl; exact rfl; exact e1))) | (apply Sq_rd; exact rfl; (first | (apply Rd_natMod; exact rfl; exact rfl; decide) | (apply Rd_natDiv; exact rfl; exact rfl; exact rfl; exact hn; decide) | (apply Rd_convV tb; exact rfl; exact rfl; exact rfl; exact e1))) | (refine St_step ?_; (try with_reducible intro _)) | (refine St_step2 ?_ ?_ <;> (intro hb; (try simp only [beq_iff_eq, bne_iff_ne, decide_eq_true_eq, decide_eq_false_iff_not, Bool.not_eq_true', Bool.not_eq_false', beq_eq_false_iff_ne, bne_eq_false_iff_eq, ne_eq, Int.not_lt, Int.not_le, gt_iff_lt, ge_iff_le] at hb); (try (first | exact Bool.noConfusion hb | exact absurd trivial hb | (exfalso; omega))))) | fail)
      all_goals first | (exfalso; omega) | skip
      refine St_ret1 (.inl rfl) rfl rfl ⟨?_, rfl⟩ (by exact Split.auto)
      rw [e2]
    · rw [if_neg h1]
      repeat' (first | (apply St_rd; exact rfl; (first | (apply Rd_natMod; exact rfl; exact rfl; decide) | (apply Rd_natDiv; exact rfl; exact rfl; exact rfl; exact hn; decide) | (apply Rd_convV tb; exact rfl; exact rfl; exact rfl; exact e1))) | (apply Sq_rd; exact rfl; (first | (apply Rd_natMod; exact rfl; exact rfl; decide) | (apply Rd_natDiv; exact rfl; exact rfl; exact rfl; exact hn; decide) | (apply Rd_convV tb; exact rfl; exact rfl; exact rfl; exact e1))) | (refine St_step ?_; (try with_reducible intro _)) | (refine St_step2 ?_ ?_ <;> (intro hb; (try simp only [beq_iff_eq, bne_iff_ne, decide_eq_true_eq, decide_eq_false_iff_not, Bool.not_eq_true', Bool.not_eq_false', beq_eq_false_iff_ne, bne_eq_false_iff_eq, ne_eq, Int.not_lt, Int.not_le, gt_iff_lt, ge_iff_le] at hb); (try (first | exact Bool.noConfusion hb | exact absurd trivial hb | (exfalso; omega))))) | fail)
      all_goals first | (exfalso; omega) | exact St_ret1 (.inl rfl) rfl rfl ⟨rfl, rfl⟩ (by exact Split.auto)
theorem refZig_sp (n : Int) (h1 : -2305843009213693952 ≤ n) (h2 : n < 2305843009213693952) : Sp Tryz.prog 121 [.int .i64 n] [] (fun v M => v = .tuple [nat .u64 (zig n), .bool true].toArray ∧ M = []) := by
  refine Sp.intro (P := Tryz.prog) (Tryz.func121) rfl Tryz.ntmps121 (by decide) rfl ?_
  intro ρ F
  unfold zig
  by_cases h : 0 ≤ n
  · rw [if_pos h]
    obtain ⟨m, rfl⟩ : ∃ m : Nat, n = m := ⟨n.toNat, by omega⟩
    have e1 : 2 * (m % 2 ^ IntKind.u64.bits) % 2 ^ IntKind.u64.bits = 2 * ((m : Int)).toNat := by show _ % 18446744073709551616 = _; show (2 * (m % 18446744073709551616)) % 18446744073709551616 = _; omega
    repeat' (first | (apply St_rd; exact rfl; (first | (apply Rd_natMul; exact rfl; exact rfl; exact rfl) | (apply Rd_natConv tb; exact rfl; exact rfl; exact rfl; exact rfl))) | (apply Sq_rd; exact rfl; (first | (apply Rd_natMul; exact rfl; exact rfl; exact rfl) | (apply Rd_natConv tb; exact rfl; exact rfl; exact rfl; exact rfl))) | (refine St_step ?_; (try with_reducible intro _)) | (refine St_step2 ?_ ?_ <;> (intro hb; (try simp only [beq_iff_eq, bne_iff_ne, decide_eq_true_eq, decide_eq_false_iff_not, Bool.not_eq_true', Bool.not_eq_false', beq_eq_false_iff_ne, bne_eq_false_iff_eq, ne_eq, Int.not_lt, Int.not_le, gt_iff_lt, ge_iff_le] at hb); (try (first | exact Bool.noConfusion hb | exact absurd trivial hb | (exfalso; omega))))) | fail)
    all_goals first | (exfalso; omega) | skip
    exact St_ret2 (.inl rfl) rfl rfl rfl ⟨by rw [← e1], rfl⟩ (by exact Split.auto)
  · rw [if_neg h]
    obtain ⟨m, hm⟩ : ∃ m : Nat, -n - 1 = m := ⟨(-n - 1).toNat, by omega⟩
    have e0 : IntKind.i64.wrap (0 - (n + 1)) = (m : Int) := by
      rw [show (0 : Int) - (n + 1) = m by omega]; exact IntWalk.i64_in _ (by omega)
    have e1 : (2 * (m % 2 ^ IntKind.u64.bits) % 2 ^ IntKind.u64.bits + 1) % 2 ^ IntKind.u64.bits = 2 * (-n - 1).toNat + 1 := by
      rw [show (-n - 1).toNat = m by omega]; show ((2 * (m % 18446744073709551616)) % 18446744073709551616 + 1) % 18446744073709551616 = _; omega
    repeat' (first | (apply St_rd; exact rfl; apply Rd_neg; exact rfl; rw [e0]) | (apply St_rd; exact rfl; (first | (apply Rd_natMul; exact rfl; exact rfl; exact rfl) | (apply Rd_natAdd; exact rfl; exact rfl; exact rfl) | (apply Rd_natConv tb; exact rfl; exact rfl; exact rfl; exact rfl))) | (apply Sq_rd; exact rfl; (first | (apply Rd_natMul; exact rfl; exact rfl; exact rfl) | (apply Rd_natAdd; exact rfl; exact rfl; exact rfl) | (apply Rd_natConv tb; exact rfl; exact rfl; exact rfl; exact rfl))) | (refine St_step ?_; (try with_reducible intro _)) | (refine St_step2 ?_ ?_ <;> (intro hb; (try simp only [beq_iff_eq, bne_iff_ne, decide_eq_true_eq, decide_eq_false_iff_not, Bool.not_eq_true', Bool.not_eq_false', beq_eq_false_iff_ne, bne_eq_false_iff_eq, ne_eq, Int.not_lt, Int.not_le, gt_iff_lt, ge_iff_le] at hb); (try (first | exact Bool.noConfusion hb | exact absurd trivial hb | (exfalso; omega))))) | fail)
    all_goals first | (exfalso; omega) | skip
    exact St_ret2 (.inl rfl) rfl rfl rfl ⟨by rw [← e1], rfl⟩ (by exact Split.auto)
theorem refSigned_sp (n : Int) (h1 : -2305843009213693952 ≤ n) (h2 : n < 2305843009213693952) : Sp Tryz.prog 98 [.int .i64 n] [] (fun v M => v = .tuple [str (enc (zig n)), .bool true].toArray ∧ M = []) := by
  refine Sp.intro (P := Tryz.prog) (Tryz.func98) rfl Tryz.ntmps98 (by decide) rfl ?_
  intro ρ F
  have c1 := refZig_sp n h1 h2
  have hz : zig n < 4611686018427387904 := by unfold zig; split <;> omega
  have c2 := refPut_sp (zig n) (by omega)
  rw [if_pos hz, if_pos hz] at c2
  repeat' (first | (apply St_call (hf := c1); exact rfl; exact rfl; exact Split.auto; rintro _ _ ⟨rfl, rfl⟩) | (apply St_call (hf := c2); exact rfl; exact rfl; exact Split.auto; rintro _ _ ⟨rfl, rfl⟩) | (refine St_step ?_; (try with_reducible intro _)) | (refine St_step2 ?_ ?_ <;> (intro hb; (try simp only [beq_iff_eq, bne_iff_ne, decide_eq_true_eq, decide_eq_false_iff_not, Bool.not_eq_true', Bool.not_eq_false', beq_eq_false_iff_ne, bne_eq_false_iff_eq, ne_eq, Int.not_lt, Int.not_le, gt_iff_lt, ge_iff_le] at hb); (try (first | exact Bool.noConfusion hb | exact absurd trivial hb | (exfalso; omega))))) | fail)
  all_goals (first | contradiction | (exfalso; omega) | (exact St_ret1 (.inl rfl) rfl rfl ⟨rfl, rfl⟩ (by exact Split.auto)) | (exact St_ret2 (.inl rfl) rfl rfl rfl ⟨rfl, rfl⟩ (by exact Split.auto)) | (exact St_ret3 (.inl rfl) rfl rfl rfl rfl ⟨rfl, rfl⟩ (by exact Split.auto)))
theorem fsigned_sp (k : Nat) (s : List UInt8) (r : Rs) (hs : s.length ≤ 1000000) (hr : r.at_ ≤ s.length) : Sp Tryz.prog 113 [.pointer (some ⟨k, 0, none⟩)] [Rf k s r]
    (fun v M => v = .int .i64 (zag (rraw s r).1) ∧ M = [Rf k s (rraw s r).2]) := by
  refine Sp.intro (P := Tryz.prog) (Tryz.func113) rfl Tryz.ntmps113 (by decide) rfl ?_
  intro ρ F
  have hlt := rraw_lt s r
  have hze := rraw_e (s := s) (r := r)
  have c1 := fraw_sp k s r hs hr
  have c2 := refZag_sp (rraw s r).1 (by omega)
  generalize rraw s r = q at *
  obtain ⟨n, a, e⟩ := q
  have hze : e ≠ 0 → n = 0 := hze
  by_cases he : e = 0
  · subst he
    repeat' (first | (apply St_call (hf := c1); exact rfl; exact rfl; exact Split.auto; rintro _ _ ⟨rfl, rfl⟩) | (apply St_call (hf := c2); exact rfl; exact rfl; exact Split.auto; rintro _ _ ⟨rfl, rfl⟩) | (refine St_step ?_; (try with_reducible intro _)) | (refine St_step2 ?_ ?_ <;> (intro hb; (try simp only [beq_iff_eq, bne_iff_ne, decide_eq_true_eq, decide_eq_false_iff_not, Bool.not_eq_true', Bool.not_eq_false', beq_eq_false_iff_ne, bne_eq_false_iff_eq, ne_eq, Int.not_lt, Int.not_le, gt_iff_lt, ge_iff_le] at hb); (try (first | exact Bool.noConfusion hb | exact absurd trivial hb | (exfalso; omega))))) | fail)
    all_goals (first | contradiction | (exfalso; omega) | (exact St_ret1 (.inl rfl) rfl rfl ⟨rfl, rfl⟩ (by exact Split.auto)) | (exact St_ret2 (.inl rfl) rfl rfl rfl ⟨rfl, rfl⟩ (by exact Split.auto)) | (exact St_ret3 (.inl rfl) rfl rfl rfl rfl ⟨rfl, rfl⟩ (by exact Split.auto)))
  · obtain rfl := hze he
    have hz0 : zag 0 = 0 := rfl
    repeat' (first | (apply St_call (hf := c1); exact rfl; exact rfl; exact Split.auto; rintro _ _ ⟨rfl, rfl⟩) | (apply St_call (hf := c2); exact rfl; exact rfl; exact Split.auto; rintro _ _ ⟨rfl, rfl⟩) | (refine St_step ?_; (try with_reducible intro _)) | (refine St_step2 ?_ ?_ <;> (intro hb; (try simp only [beq_iff_eq, bne_iff_ne, decide_eq_true_eq, decide_eq_false_iff_not, Bool.not_eq_true', Bool.not_eq_false', beq_eq_false_iff_ne, bne_eq_false_iff_eq, ne_eq, Int.not_lt, Int.not_le, gt_iff_lt, ge_iff_le] at hb); (try (first | exact Bool.noConfusion hb | exact absurd trivial hb | (exfalso; omega))))) | fail)
    all_goals first | (exfalso; omega) | (refine St_ret1 (.inl rfl) rfl rfl ⟨?_, rfl⟩ (by exact Split.auto); exact congrArg (Value.int IntKind.i64) hz0.symm)
set_option maxHeartbeats 2000000 in
theorem refMay04_sp (u : Up) : Sp Tryz.prog 114 [.agg (uv u).toArray] [] (fun v M => v = nat .i64 (umay u) ∧ M = []) := by
  refine Sp.intro (P := Tryz.prog) (Tryz.func114) rfl Tryz.ntmps114 (by decide) rfl ?_
  intro ρ F
  unfold umay
  by_cases h1 : u.key.length < 1 ∨ 16 < u.key.length
  · rw [if_pos h1]
    repeat' (first | (refine St_step ?_; (try with_reducible intro _)) | (refine St_step2 ?_ ?_ <;> (intro hb; (try simp only [beq_iff_eq, bne_iff_ne, decide_eq_true_eq, decide_eq_false_iff_not, Bool.not_eq_true', Bool.not_eq_false', beq_eq_false_iff_ne, bne_eq_false_iff_eq, ne_eq, Int.not_lt, Int.not_le, gt_iff_lt, ge_iff_le] at hb); (try (first | exact Bool.noConfusion hb | exact absurd trivial hb | (exfalso; omega))))) | fail)
    all_goals (first | contradiction | (exfalso; omega) | (exact St_ret1 (.inl rfl) rfl rfl ⟨rfl, rfl⟩ (by exact Split.auto)) | (exact St_ret2 (.inl rfl) rfl rfl rfl ⟨rfl, rfl⟩ (by exact Split.auto)) | (exact St_ret3 (.inl rfl) rfl rfl rfl rfl ⟨rfl, rfl⟩ (by exact Split.auto)))
  rw [if_neg h1]
  have hcase : (u.kind = 1 ∨ u.kind = 3) ∨ (¬ (u.kind = 1 ∨ u.kind = 3) ∧ (u.kind = 2 ∨ u.kind = 4)) ∨ (u.kind = 5) ∨ (u.kind < 1 ∨ 5 < u.kind) := by omega
  rcases hcase with h2 | ⟨h2, h5⟩ | h8 | h8
  · rw [if_pos h2]
    by_cases h3 : u.s ≠ []
    · rw [if_pos h3]
      repeat' (first | (refine St_step ?_; (try with_reducible intro _)) | (refine St_step2 ?_ ?_ <;> (intro hb; (try simp only [beq_iff_eq, bne_iff_ne, decide_eq_true_eq, decide_eq_false_iff_not, Bool.not_eq_true', Bool.not_eq_false', beq_eq_false_iff_ne, bne_eq_false_iff_eq, ne_eq, Int.not_lt, Int.not_le, gt_iff_lt, ge_iff_le] at hb); (try (first | exact Bool.noConfusion hb | exact absurd trivial hb | (exfalso; omega))))) | fail)
      all_goals (first | contradiction | (exfalso; omega) | (exact St_ret1 (.inl rfl) rfl rfl ⟨rfl, rfl⟩ (by exact Split.auto)) | (exact St_ret2 (.inl rfl) rfl rfl rfl ⟨rfl, rfl⟩ (by exact Split.auto)) | (exact St_ret3 (.inl rfl) rfl rfl rfl rfl ⟨rfl, rfl⟩ (by exact Split.auto)))
    rw [if_neg h3]
    have h3' : u.s = [] := Decidable.not_not.1 h3
    have h10 : u.s.length = 0 := by rw [h3']; rfl
    by_cases h4 : u.n < -2305843009213693952 ∨ 2305843009213693952 ≤ u.n
    · rw [if_pos h4]
      repeat' (first | (refine St_step ?_; (try with_reducible intro _)) | (refine St_step2 ?_ ?_ <;> (intro hb; (try simp only [beq_iff_eq, bne_iff_ne, decide_eq_true_eq, decide_eq_false_iff_not, Bool.not_eq_true', Bool.not_eq_false', beq_eq_false_iff_ne, bne_eq_false_iff_eq, ne_eq, Int.not_lt, Int.not_le, gt_iff_lt, ge_iff_le] at hb); (try (first | exact Bool.noConfusion hb | exact absurd trivial hb | (exfalso; omega))))) | fail)
      all_goals first | (first | contradiction | (exfalso; omega) | (exact St_ret1 (.inl rfl) rfl rfl ⟨rfl, rfl⟩ (by exact Split.auto)) | (exact St_ret2 (.inl rfl) rfl rfl rfl ⟨rfl, rfl⟩ (by exact Split.auto)) | (exact St_ret3 (.inl rfl) rfl rfl rfl rfl ⟨rfl, rfl⟩ (by exact Split.auto))) | trace_state
    · rw [if_neg h4]
      repeat' (first | (refine St_step ?_; (try with_reducible intro _)) | (refine St_step2 ?_ ?_ <;> (intro hb; (try simp only [beq_iff_eq, bne_iff_ne, decide_eq_true_eq, decide_eq_false_iff_not, Bool.not_eq_true', Bool.not_eq_false', beq_eq_false_iff_ne, bne_eq_false_iff_eq, ne_eq, Int.not_lt, Int.not_le, gt_iff_lt, ge_iff_le] at hb); (try (first | exact Bool.noConfusion hb | exact absurd trivial hb | (exfalso; omega))))) | fail)
      all_goals first | (first | contradiction | (exfalso; omega) | (exact St_ret1 (.inl rfl) rfl rfl ⟨rfl, rfl⟩ (by exact Split.auto)) | (exact St_ret2 (.inl rfl) rfl rfl rfl ⟨rfl, rfl⟩ (by exact Split.auto)) | (exact St_ret3 (.inl rfl) rfl rfl rfl rfl ⟨rfl, rfl⟩ (by exact Split.auto))) | trace_state
  · rw [if_neg h2, if_pos h5]
    by_cases h6 : u.n ≠ 0
    · rw [if_pos h6]
      repeat' (first | (refine St_step ?_; (try with_reducible intro _)) | (refine St_step2 ?_ ?_ <;> (intro hb; (try simp only [beq_iff_eq, bne_iff_ne, decide_eq_true_eq, decide_eq_false_iff_not, Bool.not_eq_true', Bool.not_eq_false', beq_eq_false_iff_ne, bne_eq_false_iff_eq, ne_eq, Int.not_lt, Int.not_le, gt_iff_lt, ge_iff_le] at hb); (try (first | exact Bool.noConfusion hb | exact absurd trivial hb | (exfalso; omega))))) | fail)
      all_goals (first | contradiction | (exfalso; omega) | (exact St_ret1 (.inl rfl) rfl rfl ⟨rfl, rfl⟩ (by exact Split.auto)) | (exact St_ret2 (.inl rfl) rfl rfl rfl ⟨rfl, rfl⟩ (by exact Split.auto)) | (exact St_ret3 (.inl rfl) rfl rfl rfl rfl ⟨rfl, rfl⟩ (by exact Split.auto)))
    rw [if_neg h6]
    by_cases h7 : 32 < u.s.length
    · rw [if_pos h7]
      repeat' (first | (refine St_step ?_; (try with_reducible intro _)) | (refine St_step2 ?_ ?_ <;> (intro hb; (try simp only [beq_iff_eq, bne_iff_ne, decide_eq_true_eq, decide_eq_false_iff_not, Bool.not_eq_true', Bool.not_eq_false', beq_eq_false_iff_ne, bne_eq_false_iff_eq, ne_eq, Int.not_lt, Int.not_le, gt_iff_lt, ge_iff_le] at hb); (try (first | exact Bool.noConfusion hb | exact absurd trivial hb | (exfalso; omega))))) | fail)
      all_goals (first | contradiction | (exfalso; omega) | (exact St_ret1 (.inl rfl) rfl rfl ⟨rfl, rfl⟩ (by exact Split.auto)) | (exact St_ret2 (.inl rfl) rfl rfl rfl ⟨rfl, rfl⟩ (by exact Split.auto)) | (exact St_ret3 (.inl rfl) rfl rfl rfl rfl ⟨rfl, rfl⟩ (by exact Split.auto)))
    · rw [if_neg h7]
      repeat' (first | (refine St_step ?_; (try with_reducible intro _)) | (refine St_step2 ?_ ?_ <;> (intro hb; (try simp only [beq_iff_eq, bne_iff_ne, decide_eq_true_eq, decide_eq_false_iff_not, Bool.not_eq_true', Bool.not_eq_false', beq_eq_false_iff_ne, bne_eq_false_iff_eq, ne_eq, Int.not_lt, Int.not_le, gt_iff_lt, ge_iff_le] at hb); (try (first | exact Bool.noConfusion hb | exact absurd trivial hb | (exfalso; omega))))) | fail)
      all_goals (first | contradiction | (exfalso; omega) | (exact St_ret1 (.inl rfl) rfl rfl ⟨rfl, rfl⟩ (by exact Split.auto)) | (exact St_ret2 (.inl rfl) rfl rfl rfl ⟨rfl, rfl⟩ (by exact Split.auto)) | (exact St_ret3 (.inl rfl) rfl rfl rfl rfl ⟨rfl, rfl⟩ (by exact Split.auto)))
  · rw [if_neg (by omega), if_neg (by omega), if_pos h8]
    by_cases h9 : u.n ≠ 0 ∨ u.s ≠ []
    · rw [if_pos h9]
      repeat' (first | (refine St_step ?_; (try with_reducible intro _)) | (refine St_step2 ?_ ?_ <;> (intro hb; (try simp only [beq_iff_eq, bne_iff_ne, decide_eq_true_eq, decide_eq_false_iff_not, Bool.not_eq_true', Bool.not_eq_false', beq_eq_false_iff_ne, bne_eq_false_iff_eq, ne_eq, Int.not_lt, Int.not_le, gt_iff_lt, ge_iff_le] at hb); (try (first | exact Bool.noConfusion hb | exact absurd trivial hb | (exfalso; omega))))) | fail)
      all_goals first | (first | contradiction | (exfalso; omega) | (exact St_ret1 (.inl rfl) rfl rfl ⟨rfl, rfl⟩ (by exact Split.auto)) | (exact St_ret2 (.inl rfl) rfl rfl rfl ⟨rfl, rfl⟩ (by exact Split.auto)) | (exact St_ret3 (.inl rfl) rfl rfl rfl rfl ⟨rfl, rfl⟩ (by exact Split.auto))) | (exfalso; rcases h9 with h9 | h9 <;> first | omega | contradiction)
    · rw [if_neg h9]
      have h9' : u.s = [] := by
        by_cases hs : u.s = []
        · exact hs
        · exact absurd (.inr hs) h9
      have h10 : u.s.length = 0 := by rw [h9']; rfl
      repeat' (first | (refine St_step ?_; (try with_reducible intro _)) | (refine St_step2 ?_ ?_ <;> (intro hb; (try simp only [beq_iff_eq, bne_iff_ne, decide_eq_true_eq, decide_eq_false_iff_not, Bool.not_eq_true', Bool.not_eq_false', beq_eq_false_iff_ne, bne_eq_false_iff_eq, ne_eq, Int.not_lt, Int.not_le, gt_iff_lt, ge_iff_le] at hb); (try (first | exact Bool.noConfusion hb | exact absurd trivial hb | (exfalso; omega))))) | fail)
      all_goals (first | contradiction | (exfalso; omega) | (exact St_ret1 (.inl rfl) rfl rfl ⟨rfl, rfl⟩ (by exact Split.auto)) | (exact St_ret2 (.inl rfl) rfl rfl rfl ⟨rfl, rfl⟩ (by exact Split.auto)) | (exact St_ret3 (.inl rfl) rfl rfl rfl rfl ⟨rfl, rfl⟩ (by exact Split.auto)))
  · rw [if_neg (by omega), if_neg (by omega), if_neg (by omega)]
    repeat' (first | (refine St_step ?_; (try with_reducible intro _)) | (refine St_step2 ?_ ?_ <;> (intro hb; (try simp only [beq_iff_eq, bne_iff_ne, decide_eq_true_eq, decide_eq_false_iff_not, Bool.not_eq_true', Bool.not_eq_false', beq_eq_false_iff_ne, bne_eq_false_iff_eq, ne_eq, Int.not_lt, Int.not_le, gt_iff_lt, ge_iff_le] at hb); (try (first | exact Bool.noConfusion hb | exact absurd trivial hb | (exfalso; omega))))) | fail)
    all_goals (first | contradiction | (exfalso; omega) | (exact St_ret1 (.inl rfl) rfl rfl ⟨rfl, rfl⟩ (by exact Split.auto)) | (exact St_ret2 (.inl rfl) rfl rfl rfl ⟨rfl, rfl⟩ (by exact Split.auto)) | (exact St_ret3 (.inl rfl) rfl rfl rfl rfl ⟨rfl, rfl⟩ (by exact Split.auto)))
end Go.Proofs.YtfjnacakpeommaaGreatDoor
/- Contracts: chapbookref06.Bytes, Read, chapbookref07.May, Bytes, Fits. -/
namespace Go.Proofs.YtfjnacakpeommaaGreatDoor
open Go SL Pl
set_option autoImplicit false
set_option maxRecDepth 100000
set_option linter.unusedSimpArgs false
set_option linter.unusedVariables false
attribute [local irreducible] St Sq Exec QExec wpList wpQuiet Code.wp Exit.then Exit.inBlock bodyPost At Rd wpOp Wa QK GB
theorem rtext_e0 {s : List UInt8} {lim : Nat} {r : Rs} (h : (rtext s lim r).2.e ≠ 0) : (rtext s lim r).1 = [] := by
  unfold rtext at h ⊢
  split
  · rfl
  · rename_i h1
    rw [if_neg h1] at h
    have := rnum_e (s := s) (lim := lim) (r := r) h
    rw [this]; simp
theorem uread_e1 {s : List UInt8} {r : Rs} (h : (rnum s 5 r).2.e ≠ 0) : uread s r = (up0, (rnum s 5 r).2) := by
  have e1 : uread1 s r = (0, (rnum s 5 r).2) := by
    unfold uread1
    rw [rnum_e h]
    simp only [if_true, rfailR_stop h]
  unfold uread
  rw [e1]
  dsimp only
  rw [uread2_stop h]
  dsimp only
  rw [utl_stop h]
  dsimp only
  rw [if_pos h]
theorem uread_e2 {s : List UInt8} {r : Rs} (h : (rnum s 5 r).2.e = 0) (h0 : (rnum s 5 r).1 = 0) : uread s r = (up0, ⟨(rnum s 5 r).2.at_, 5⟩) := by
  have e1 : uread1 s r = (0, ⟨(rnum s 5 r).2.at_, 5⟩) := by
    unfold uread1
    rw [h0]
    simp only [if_true, rfailR, rfail, h]
  have hs : (⟨(rnum s 5 r).2.at_, 5⟩ : Rs).e ≠ 0 := fun h => Nat.noConfusion h
  unfold uread
  rw [e1]
  dsimp only
  rw [uread2_stop hs]
  dsimp only
  rw [utl_stop hs]
  dsimp only
  rw [if_pos hs]
theorem uread1_ok {s : List UInt8} {r : Rs} (h0 : (rnum s 5 r).1 ≠ 0) : uread1 s r = rnum s 5 r := by
  unfold uread1
  rw [if_neg h0]
theorem uread_e3 {s : List UInt8} {r : Rs} (h0 : (rnum s 5 r).1 ≠ 0) (h : (rtext s 16 (rnum s 5 r).2).2.e ≠ 0) : uread s r = (up0, (rtext s 16 (rnum s 5 r).2).2) := by
  have e2 : uread2 s (rnum s 5 r).2 = ([], (rtext s 16 (rnum s 5 r).2).2) := by
    unfold uread2
    rw [rtext_e0 h]
    simp only [if_true, rfailR_stop h]
  unfold uread
  rw [uread1_ok h0]
  dsimp only
  rw [e2]
  dsimp only
  rw [utl_stop h]
  dsimp only
  rw [if_pos h]
theorem uread_e4 {s : List UInt8} {r : Rs} (h0 : (rnum s 5 r).1 ≠ 0) (h : (rtext s 16 (rnum s 5 r).2).2.e = 0) (hk : (rtext s 16 (rnum s 5 r).2).1 = []) : uread s r = (up0, ⟨(rtext s 16 (rnum s 5 r).2).2.at_, 1⟩) := by
  have e2 : uread2 s (rnum s 5 r).2 = ([], ⟨(rtext s 16 (rnum s 5 r).2).2.at_, 1⟩) := by
    unfold uread2
    rw [hk]
    simp only [if_true, rfailR, rfail, h]
  have hs : (⟨(rtext s 16 (rnum s 5 r).2).2.at_, 1⟩ : Rs).e ≠ 0 := fun h => Nat.noConfusion h
  unfold uread
  rw [uread1_ok h0]
  dsimp only
  rw [e2]
  dsimp only
  rw [utl_stop hs]
  dsimp only
  rw [if_pos hs]
theorem uread_e5 {s : List UInt8} {r : Rs} (h0 : (rnum s 5 r).1 ≠ 0) (hk : (rtext s 16 (rnum s 5 r).2).1 ≠ []) :
    uread s r = if (utl s (rnum s 5 r).1 (rtext s 16 (rnum s 5 r).2).2).2.2.e ≠ 0 then (up0, (utl s (rnum s 5 r).1 (rtext s 16 (rnum s 5 r).2).2).2.2)
      else (⟨(rtext s 16 (rnum s 5 r).2).1, (rnum s 5 r).1, (utl s (rnum s 5 r).1 (rtext s 16 (rnum s 5 r).2).2).1, (utl s (rnum s 5 r).1 (rtext s 16 (rnum s 5 r).2).2).2.1⟩, (utl s (rnum s 5 r).1 (rtext s 16 (rnum s 5 r).2).2).2.2) := by
  have e2 : uread2 s (rnum s 5 r).2 = rtext s 16 (rnum s 5 r).2 := by
    unfold uread2
    rw [if_neg hk]
  unfold uread
  rw [uread1_ok h0]
  dsimp only
  rw [e2]
set_option maxHeartbeats 1000000 in
theorem fread_sp (k : Nat) (s : List UInt8) (r : Rs) (hs : s.length ≤ 1000000) (hr : r.at_ ≤ s.length) : Sp Tryz.prog 83 [.pointer (some ⟨k, 0, none⟩)] [Rf k s r]
    (fun v M => v = .agg (uv (uread s r).1).toArray ∧ M = [Rf k s (uread s r).2]) := by
  refine Sp.intro (P := Tryz.prog) (Tryz.func83) rfl Tryz.ntmps83 (by decide) rfl ?_
  intro ρ F
  have c1 := fnumber_sp k s r 5 hs hr (by decide)
  have l1 := rnum_le (s := s) (lim := 5) hr
  have c2 := ftext_sp k s (rnum s 5 r).2 16 hs l1 (by decide)
  have l2 := rtext_le (s := s) (lim := 16) l1
  have c3 := fsigned_sp k s (rtext s 16 (rnum s 5 r).2).2 hs l2
  have c4 := ftext_sp k s (rtext s 16 (rnum s 5 r).2).2 32 hs l2 (by decide)
  by_cases h1 : (rnum s 5 r).2.e = 0
  case neg =>
    rw [uread_e1 h1]
    generalize rnum s 5 r = q1 at *
    obtain ⟨n1, r1⟩ := q1
    dsimp only at *
    repeat' (first | (apply St_call (hf := c1); exact rfl; exact rfl; exact Split.auto; rintro _ _ ⟨rfl, rfl⟩) | (refine St_step ?_; (try with_reducible intro _)) | (refine St_step2 ?_ ?_ <;> (intro hb; (try simp only [beq_iff_eq, bne_iff_ne, decide_eq_true_eq, decide_eq_false_iff_not, Bool.not_eq_true', Bool.not_eq_false', beq_eq_false_iff_ne, bne_eq_false_iff_eq, ne_eq, Int.not_lt, Int.not_le, gt_iff_lt, ge_iff_le] at hb); (try (first | exact Bool.noConfusion hb | exact absurd trivial hb | (exfalso; omega))))) | fail)
    all_goals first | (exfalso; omega) | exact St_retC tb (.inl rfl) rfl rfl rfl rfl (by exact Has.auto) rfl ⟨rfl, rfl⟩ (by exact Split.auto)
  case pos =>
    by_cases h2 : (rnum s 5 r).1 = 0
    · rw [uread_e2 h1 h2]
      generalize rnum s 5 r = q1 at *
      obtain ⟨n1, a1, e1⟩ := q1
      have h1 : e1 = 0 := h1
      have h2 : n1 = 0 := h2
      subst h1 h2
      repeat' (first | (apply St_call (hf := c1); exact rfl; exact rfl; exact Split.auto; rintro _ _ ⟨rfl, rfl⟩) | (refine St_step ?_; (try with_reducible intro _)) | (refine St_step2 ?_ ?_ <;> (intro hb; (try simp only [beq_iff_eq, bne_iff_ne, decide_eq_true_eq, decide_eq_false_iff_not, Bool.not_eq_true', Bool.not_eq_false', beq_eq_false_iff_ne, bne_eq_false_iff_eq, ne_eq, Int.not_lt, Int.not_le, gt_iff_lt, ge_iff_le] at hb); (try (first | exact Bool.noConfusion hb | exact absurd trivial hb | (exfalso; omega))))) | fail)
      all_goals first | (exfalso; omega) | exact St_retC tb (.inl rfl) rfl rfl rfl rfl (by exact Has.auto) rfl ⟨rfl, rfl⟩ (by exact Split.auto)
    · by_cases h3 : (rtext s 16 (rnum s 5 r).2).2.e = 0
      case neg =>
        rw [uread_e3 h2 h3]
        generalize rnum s 5 r = q1 at *
        obtain ⟨n1, r1⟩ := q1
        dsimp only at *
        generalize rtext s 16 r1 = q2 at *
        obtain ⟨t2, r2⟩ := q2
        dsimp only at *
        repeat' (first | (apply St_call (hf := c1); exact rfl; exact rfl; exact Split.auto; rintro _ _ ⟨rfl, rfl⟩) | (apply St_call (hf := c2); exact rfl; exact rfl; exact Split.auto; rintro _ _ ⟨rfl, rfl⟩) | (refine St_step ?_; (try with_reducible intro _)) | (refine St_step2 ?_ ?_ <;> (intro hb; (try simp only [beq_iff_eq, bne_iff_ne, decide_eq_true_eq, decide_eq_false_iff_not, Bool.not_eq_true', Bool.not_eq_false', beq_eq_false_iff_ne, bne_eq_false_iff_eq, ne_eq, Int.not_lt, Int.not_le, gt_iff_lt, ge_iff_le] at hb); (try (first | exact Bool.noConfusion hb | exact absurd trivial hb | (exfalso; omega))))) | fail)
        all_goals first | (exfalso; omega) | exact St_retC tb (.inl rfl) rfl rfl rfl rfl (by exact Has.auto) rfl ⟨rfl, rfl⟩ (by exact Split.auto)
      case pos =>
        by_cases h4 : (rtext s 16 (rnum s 5 r).2).1 = []
        · rw [uread_e4 h2 h3 h4]
          generalize rnum s 5 r = q1 at *
          obtain ⟨n1, r1⟩ := q1
          dsimp only at *
          generalize rtext s 16 r1 = q2 at *
          obtain ⟨t2, a2, e2⟩ := q2
          have h3 : e2 = 0 := h3
          have h4 : t2 = [] := h4
          subst h3 h4
          repeat' (first | (apply St_call (hf := c1); exact rfl; exact rfl; exact Split.auto; rintro _ _ ⟨rfl, rfl⟩) | (apply St_call (hf := c2); exact rfl; exact rfl; exact Split.auto; rintro _ _ ⟨rfl, rfl⟩) | (refine St_step ?_; (try with_reducible intro _)) | (refine St_step2 ?_ ?_ <;> (intro hb; (try simp only [beq_iff_eq, bne_iff_ne, decide_eq_true_eq, decide_eq_false_iff_not, Bool.not_eq_true', Bool.not_eq_false', beq_eq_false_iff_ne, bne_eq_false_iff_eq, ne_eq, Int.not_lt, Int.not_le, gt_iff_lt, ge_iff_le] at hb); (try (first | exact Bool.noConfusion hb | exact absurd trivial hb | (exfalso; omega))))) | fail)
          all_goals first | (exfalso; omega) | contradiction | exact St_retC tb (.inl rfl) rfl rfl rfl rfl (by exact Has.auto) rfl ⟨rfl, rfl⟩ (by exact Split.auto)
        · rw [uread_e5 h2 h4]
          generalize rnum s 5 r = q1 at *
          obtain ⟨kind, r1⟩ := q1
          dsimp only at *
          generalize rtext s 16 r1 = q2 at *
          obtain ⟨key, r2⟩ := q2
          dsimp only at *
          have hcase : (kind = 1 ∨ kind = 3) ∨ (¬ (kind = 1 ∨ kind = 3) ∧ (kind = 2 ∨ kind = 4)) ∨ (¬ (kind = 1 ∨ kind = 3) ∧ ¬ (kind = 2 ∨ kind = 4)) := by omega
          obtain ⟨n, st, r3, hu⟩ : ∃ n st r3, utl s kind r2 = (n, st, r3) := ⟨_, _, _, rfl⟩
          rw [hu]
          dsimp only
          unfold utl at hu
          rcases hcase with hk | ⟨hk0, hk⟩ | ⟨hk0, hk⟩
          · rw [if_pos hk] at hu
            injection hu with h5 h6
            injection h6 with h6 h7
            rw [h5, h7] at c3
            subst h6
            by_cases he : r3.e = 0
            · rw [if_neg (fun h => h he)]
              repeat' (first | (apply St_call (hf := c1); exact rfl; exact rfl; exact Split.auto; rintro _ _ ⟨rfl, rfl⟩) | (apply St_call (hf := c2); exact rfl; exact rfl; exact Split.auto; rintro _ _ ⟨rfl, rfl⟩) | (apply St_call (hf := c3); exact rfl; exact rfl; exact Split.auto; rintro _ _ ⟨rfl, rfl⟩) | (refine St_step ?_; (try with_reducible intro _)) | (refine St_step2 ?_ ?_ <;> (intro hb; (try simp only [beq_iff_eq, bne_iff_ne, decide_eq_true_eq, decide_eq_false_iff_not, Bool.not_eq_true', Bool.not_eq_false', beq_eq_false_iff_ne, bne_eq_false_iff_eq, ne_eq, Int.not_lt, Int.not_le, gt_iff_lt, ge_iff_le] at hb); (try (first | exact Bool.noConfusion hb | exact absurd trivial hb | (exfalso; omega))))) | fail)
              all_goals first | (exfalso; omega) | contradiction | exact St_retC tb (.inl rfl) rfl rfl rfl rfl (by exact Has.auto) rfl ⟨rfl, rfl⟩ (by exact Split.auto)
            · rw [if_pos he]
              repeat' (first | (apply St_call (hf := c1); exact rfl; exact rfl; exact Split.auto; rintro _ _ ⟨rfl, rfl⟩) | (apply St_call (hf := c2); exact rfl; exact rfl; exact Split.auto; rintro _ _ ⟨rfl, rfl⟩) | (apply St_call (hf := c3); exact rfl; exact rfl; exact Split.auto; rintro _ _ ⟨rfl, rfl⟩) | (refine St_step ?_; (try with_reducible intro _)) | (refine St_step2 ?_ ?_ <;> (intro hb; (try simp only [beq_iff_eq, bne_iff_ne, decide_eq_true_eq, decide_eq_false_iff_not, Bool.not_eq_true', Bool.not_eq_false', beq_eq_false_iff_ne, bne_eq_false_iff_eq, ne_eq, Int.not_lt, Int.not_le, gt_iff_lt, ge_iff_le] at hb); (try (first | exact Bool.noConfusion hb | exact absurd trivial hb | (exfalso; omega))))) | fail)
              all_goals first | (exfalso; omega) | contradiction | exact St_retC tb (.inl rfl) rfl rfl rfl rfl (by exact Has.auto) rfl ⟨rfl, rfl⟩ (by exact Split.auto)
          · rw [if_neg hk0, if_pos hk] at hu
            injection hu with h5 h6
            injection h6 with h6 h7
            rw [h6, h7] at c4
            subst h5
            by_cases he : r3.e = 0
            · rw [if_neg (fun h => h he)]
              repeat' (first | (apply St_call (hf := c1); exact rfl; exact rfl; exact Split.auto; rintro _ _ ⟨rfl, rfl⟩) | (apply St_call (hf := c2); exact rfl; exact rfl; exact Split.auto; rintro _ _ ⟨rfl, rfl⟩) | (apply St_call (hf := c4); exact rfl; exact rfl; exact Split.auto; rintro _ _ ⟨rfl, rfl⟩) | (refine St_step ?_; (try with_reducible intro _)) | (refine St_step2 ?_ ?_ <;> (intro hb; (try simp only [beq_iff_eq, bne_iff_ne, decide_eq_true_eq, decide_eq_false_iff_not, Bool.not_eq_true', Bool.not_eq_false', beq_eq_false_iff_ne, bne_eq_false_iff_eq, ne_eq, Int.not_lt, Int.not_le, gt_iff_lt, ge_iff_le] at hb); (try (first | exact Bool.noConfusion hb | exact absurd trivial hb | (exfalso; omega))))) | fail)
              all_goals first | (exfalso; omega) | contradiction | exact St_retC tb (.inl rfl) rfl rfl rfl rfl (by exact Has.auto) rfl ⟨rfl, rfl⟩ (by exact Split.auto)
            · rw [if_pos he]
              repeat' (first | (apply St_call (hf := c1); exact rfl; exact rfl; exact Split.auto; rintro _ _ ⟨rfl, rfl⟩) | (apply St_call (hf := c2); exact rfl; exact rfl; exact Split.auto; rintro _ _ ⟨rfl, rfl⟩) | (apply St_call (hf := c4); exact rfl; exact rfl; exact Split.auto; rintro _ _ ⟨rfl, rfl⟩) | (refine St_step ?_; (try with_reducible intro _)) | (refine St_step2 ?_ ?_ <;> (intro hb; (try simp only [beq_iff_eq, bne_iff_ne, decide_eq_true_eq, decide_eq_false_iff_not, Bool.not_eq_true', Bool.not_eq_false', beq_eq_false_iff_ne, bne_eq_false_iff_eq, ne_eq, Int.not_lt, Int.not_le, gt_iff_lt, ge_iff_le] at hb); (try (first | exact Bool.noConfusion hb | exact absurd trivial hb | (exfalso; omega))))) | fail)
              all_goals first | (exfalso; omega) | contradiction | exact St_retC tb (.inl rfl) rfl rfl rfl rfl (by exact Has.auto) rfl ⟨rfl, rfl⟩ (by exact Split.auto)
          · rw [if_neg hk0, if_neg hk] at hu
            injection hu with h5 h6
            injection h6 with h6 h7
            subst h5 h6 h7
            rw [if_neg (fun h => h h3)]
            repeat' (first | (apply St_call (hf := c1); exact rfl; exact rfl; exact Split.auto; rintro _ _ ⟨rfl, rfl⟩) | (apply St_call (hf := c2); exact rfl; exact rfl; exact Split.auto; rintro _ _ ⟨rfl, rfl⟩) | (refine St_step ?_; (try with_reducible intro _)) | (refine St_step2 ?_ ?_ <;> (intro hb; (try simp only [beq_iff_eq, bne_iff_ne, decide_eq_true_eq, decide_eq_false_iff_not, Bool.not_eq_true', Bool.not_eq_false', beq_eq_false_iff_ne, bne_eq_false_iff_eq, ne_eq, Int.not_lt, Int.not_le, gt_iff_lt, ge_iff_le] at hb); (try (first | exact Bool.noConfusion hb | exact absurd trivial hb | (exfalso; omega))))) | fail)
            all_goals first | (exfalso; omega) | contradiction | exact St_retC tb (.inl rfl) rfl rfl rfl rfl (by exact Has.auto) rfl ⟨rfl, rfl⟩ (by exact Split.auto)
theorem utail_len {u : Up} (h : umay u = 0) : (utail u).length ≤ 40 ∧ u.key.length ≤ 16 ∧ 1 ≤ u.kind ∧ u.kind ≤ 5 := by
  obtain ⟨k1, k2, _, k4, k5, _⟩ := umay_kind h
  refine ⟨?_, k4, k1, k2⟩
  unfold utail
  split
  · have := enc_len (zig u.n); omega
  · split
    · have := enc_len u.s.length; rw [List.length_append]; omega
    · exact Nat.zero_le _
theorem ubytes_len40 {u : Up} (h : umay u = 0) : (ubytes u).length ≤ 80 := by
  obtain ⟨h1, h2, _⟩ := utail_len h
  have a1 := enc_len u.kind.toNat
  have a2 := enc_len u.key.length
  unfold ubytes
  simp only [List.length_append]
  omega
theorem ubytes06_sp (u : Up) (h : umay u = 0) : Sp Tryz.prog 63 [.agg (uv u).toArray] [] (fun v M => v = str (ubytes u) ∧ M = []) := by
  refine Sp.intro (P := Tryz.prog) (Tryz.func63) rfl Tryz.ntmps63 (by decide) rfl ?_
  intro ρ F
  obtain ⟨k1, k2, k3, k4, k5, k6, k7⟩ := umay_kind h
  obtain ⟨key, kind, n, s⟩ := u
  obtain ⟨kn, hkn⟩ : ∃ kn : Nat, kind = kn := ⟨kind.toNat, by have : (1 : Int) ≤ kind := k1; omega⟩
  subst hkn
  dsimp only at *
  have w1 := refNumber_sp kn (by omega)
  have w2 := refText_sp key (by omega)
  have w3 := refSigned_sp n k6 k7
  have w4 := refText_sp s (by omega)
  have l1 := enc_len kn
  have l2 := enc_len key.length
  have l3 := enc_len (zig n)
  have l4 := enc_len s.length
  have e : ubytes ⟨key, (kn : Int), n, s⟩ = enc kn ++ (enc key.length ++ key) ++ utail ⟨key, (kn : Int), n, s⟩ := by
    exact (List.append_assoc _ _ _).symm
  rw [e]
  unfold utail
  dsimp only
  generalize hq4 : enc key.length ++ key = q4 at *
  have l5 : q4.length ≤ 24 := by rw [← hq4, List.length_append]; omega
  generalize hq6 : enc s.length ++ s = q6 at *
  have l6 : q6.length ≤ 40 := by rw [← hq6, List.length_append]; omega
  generalize enc kn = q5 at *
  generalize enc (zig n) = q7 at *
  have hcase : ((kn : Int) = 1 ∨ (kn : Int) = 3) ∨ (¬ ((kn : Int) = 1 ∨ (kn : Int) = 3) ∧ ((kn : Int) = 2 ∨ (kn : Int) = 4)) ∨ (¬ ((kn : Int) = 1 ∨ (kn : Int) = 3) ∧ ¬ ((kn : Int) = 2 ∨ (kn : Int) = 4)) := by omega
  rcases hcase with hk | ⟨hk0, hk⟩ | ⟨hk0, hk⟩
  · rw [if_pos hk]
    repeat' (first | (apply St_call (hf := w1); exact rfl; exact rfl; exact Split.auto; rintro _ _ ⟨rfl, rfl⟩) | (apply St_call (hf := w2); exact rfl; exact rfl; exact Split.auto; rintro _ _ ⟨rfl, rfl⟩) | (apply St_call (hf := w3); exact rfl; exact rfl; exact Split.auto; rintro _ _ ⟨rfl, rfl⟩) | (apply St_rd; exact rfl; (first | (apply Rd_cat; exact rfl; exact rfl; (simp only [List.length_append]; omega)))) | (apply Sq_rd; exact rfl; (first | (apply Rd_cat; exact rfl; exact rfl; (simp only [List.length_append]; omega)))) | (refine St_step ?_; (try with_reducible intro _)) | (refine St_step2 ?_ ?_ <;> (intro hb; (try simp only [beq_iff_eq, bne_iff_ne, decide_eq_true_eq, decide_eq_false_iff_not, Bool.not_eq_true', Bool.not_eq_false', beq_eq_false_iff_ne, bne_eq_false_iff_eq, ne_eq, Int.not_lt, Int.not_le, gt_iff_lt, ge_iff_le] at hb); (try (first | exact Bool.noConfusion hb | exact absurd trivial hb | (exfalso; omega))))) | fail)
    all_goals first | (exfalso; omega) | exact St_ret1 (.inl rfl) rfl rfl ⟨rfl, rfl⟩ (by exact Split.auto)
  · rw [if_neg hk0, if_pos hk]
    repeat' (first | (apply St_call (hf := w1); exact rfl; exact rfl; exact Split.auto; rintro _ _ ⟨rfl, rfl⟩) | (apply St_call (hf := w2); exact rfl; exact rfl; exact Split.auto; rintro _ _ ⟨rfl, rfl⟩) | (apply St_call (hf := w4); exact rfl; exact rfl; exact Split.auto; rintro _ _ ⟨rfl, rfl⟩) | (apply St_rd; exact rfl; (first | (apply Rd_cat; exact rfl; exact rfl; (simp only [List.length_append]; omega)))) | (apply Sq_rd; exact rfl; (first | (apply Rd_cat; exact rfl; exact rfl; (simp only [List.length_append]; omega)))) | (refine St_step ?_; (try with_reducible intro _)) | (refine St_step2 ?_ ?_ <;> (intro hb; (try simp only [beq_iff_eq, bne_iff_ne, decide_eq_true_eq, decide_eq_false_iff_not, Bool.not_eq_true', Bool.not_eq_false', beq_eq_false_iff_ne, bne_eq_false_iff_eq, ne_eq, Int.not_lt, Int.not_le, gt_iff_lt, ge_iff_le] at hb); (try (first | exact Bool.noConfusion hb | exact absurd trivial hb | (exfalso; omega))))) | fail)
    all_goals first | (exfalso; omega) | exact St_ret1 (.inl rfl) rfl rfl ⟨rfl, rfl⟩ (by exact Split.auto)
  · rw [if_neg hk0, if_neg hk, List.append_nil]
    repeat' (first | (apply St_call (hf := w1); exact rfl; exact rfl; exact Split.auto; rintro _ _ ⟨rfl, rfl⟩) | (apply St_call (hf := w2); exact rfl; exact rfl; exact Split.auto; rintro _ _ ⟨rfl, rfl⟩) | (apply St_rd; exact rfl; (first | (apply Rd_cat; exact rfl; exact rfl; (simp only [List.length_append]; omega)))) | (apply Sq_rd; exact rfl; (first | (apply Rd_cat; exact rfl; exact rfl; (simp only [List.length_append]; omega)))) | (refine St_step ?_; (try with_reducible intro _)) | (refine St_step2 ?_ ?_ <;> (intro hb; (try simp only [beq_iff_eq, bne_iff_ne, decide_eq_true_eq, decide_eq_false_iff_not, Bool.not_eq_true', Bool.not_eq_false', beq_eq_false_iff_ne, bne_eq_false_iff_eq, ne_eq, Int.not_lt, Int.not_le, gt_iff_lt, ge_iff_le] at hb); (try (first | exact Bool.noConfusion hb | exact absurd trivial hb | (exfalso; omega))))) | fail)
    all_goals first | (exfalso; omega) | exact St_ret1 (.inl rfl) rfl rfl ⟨rfl, rfl⟩ (by exact Split.auto)
theorem refRmay_sp (q : Bool) (r : Ro) (v : Value) : Sp Tryz.prog 84 [.agg (rv r v).toArray] [UL q v r.ups] (fun w M => w = nat .i64 (rmay r) ∧ M = [UL q v r.ups]) := by
  refine Sp.intro (P := Tryz.prog) (Tryz.func84) rfl Tryz.ntmps84 (by decide) rfl ?_
  intro ρ F
  refine St_rsIs (by exact Has.auto) ?_
  rintro A c rfl
  obtain ⟨o, n, l⟩ := r
  unfold rmay
  dsimp only
  by_cases h1 : (o < 1 ∨ 64 < o) ∨ (n < 1 ∨ 1099511627776 < n) ∨ (l.length < 1 ∨ 8 < l.length)
  · rw [if_pos h1]
    repeat' (first | (refine St_step ?_; (try with_reducible intro _)) | (refine St_step2 ?_ ?_ <;> (intro hb; (try simp only [beq_iff_eq, bne_iff_ne, decide_eq_true_eq, decide_eq_false_iff_not, Bool.not_eq_true', Bool.not_eq_false', beq_eq_false_iff_ne, bne_eq_false_iff_eq, ne_eq, Int.not_lt, Int.not_le, gt_iff_lt, ge_iff_le] at hb); (try (first | exact Bool.noConfusion hb | exact absurd trivial hb | (exfalso; omega))))) | fail)
    all_goals (first | contradiction | (exfalso; omega) | (exact St_ret1 (.inl rfl) rfl rfl ⟨rfl, rfl⟩ (by exact Split.auto)) | (exact St_ret2 (.inl rfl) rfl rfl rfl ⟨rfl, rfl⟩ (by exact Split.auto)) | (exact St_ret3 (.inl rfl) rfl rfl rfl rfl ⟨rfl, rfl⟩ (by exact Split.auto)))
  · rw [if_neg h1]
    repeat (refine St_step ?_; (try with_reducible intro xb))
    repeat' (first | (refine St_step ?_; (try with_reducible intro _)) | (refine St_step2 ?_ ?_ <;> (intro hb; (try simp only [beq_iff_eq, bne_iff_ne, decide_eq_true_eq, decide_eq_false_iff_not, Bool.not_eq_true', Bool.not_eq_false', beq_eq_false_iff_ne, bne_eq_false_iff_eq, ne_eq, Int.not_lt, Int.not_le, gt_iff_lt, ge_iff_le] at hb); (try (first | exact Bool.noConfusion hb | exact absurd trivial hb | (exfalso; omega))))) | fail)
    all_goals first | (exfalso; omega) | skip
    refine St_loop (fun (i : Nat) => i ≤ l.length ∧ ∀ j, j < i → ∀ x, l[j]? = some x → umay x = 0) (fun i => [(1, .pointer (some ⟨xb, 0, none⟩)), (3, nat .i64 l.length), (4, nat .i64 i)]) (fun i => [cel false xb 64 (rv ⟨o, n, l⟩ (.slice A l.length c)), UL q (.slice A l.length c) l, big F]) (fun i => l.length - i) 0 ⟨Nat.zero_le _, fun j hj => by omega⟩ ⟨rfl, rfl, rfl, trivial⟩ (by exact Split.auto) ?_
    rintro i ⟨hi, hall⟩
    by_cases hil : i < l.length
    · obtain ⟨u, hux⟩ : ∃ u, l[i]? = some u := ⟨_, List.getElem?_eq_getElem hil⟩
      refine St_rsOpen (by exact Has.auto) (by omega) ?_
      rintro b2 T cap pre rest hv
      injection hv with hv1 hv2 hv3
      subst hv1 hv3
      have hld := flat_at uv_len l i u pre rest hux
      have hroom := flat_room uv_len l i pre rest hil
      have hm := refMay04_sp u
      by_cases hu : umay u = 0
      · rw [hu] at hm
        repeat' (first | (apply St_call (hf := hm); exact rfl; exact rfl; exact Split.auto; rintro _ _ ⟨rfl, rfl⟩) | (apply St_rd; exact rfl; (first | (apply Rd_loadA tb; exact rfl; exact rfl; exact rfl; exact Has.auto; exact hroom; exact hld))) | (apply Sq_rd; exact rfl; (first | (apply Rd_loadA tb; exact rfl; exact rfl; exact rfl; exact Has.auto; exact hroom; exact hld))) | (refine St_step ?_; (try with_reducible intro _)) | (refine St_step2 ?_ ?_ <;> (intro hb; (try simp only [beq_iff_eq, bne_iff_ne, decide_eq_true_eq, decide_eq_false_iff_not, Bool.not_eq_true', Bool.not_eq_false', beq_eq_false_iff_ne, bne_eq_false_iff_eq, ne_eq, Int.not_lt, Int.not_le, gt_iff_lt, ge_iff_le] at hb); (try (first | exact Bool.noConfusion hb | exact absurd trivial hb | (exfalso; omega))))) | fail)
        all_goals first | (exfalso; omega) | skip
        refine St_rsMk (n := l.length) (cap := c) (cs := l.flatMap uv) (by exact Has.auto) ?_
        refine St_at (i + 1) ⟨⟨hil, fun j hj x hx => ?_⟩, by omega⟩ ⟨rfl, rfl, rfl, trivial⟩ (by exact Split.auto)
        rcases Nat.lt_or_ge j i with h | h
        · exact hall j h x hx
        · obtain rfl : j = i := by omega
          obtain rfl : u = x := Option.some.inj (hux.symm.trans hx)
          exact hu
      · rw [firstErr_at hall hux hu]
        repeat' (first | (apply St_call (hf := hm); exact rfl; exact rfl; exact Split.auto; rintro _ _ ⟨rfl, rfl⟩) | (apply St_rd; exact rfl; (first | (apply Rd_loadA tb; exact rfl; exact rfl; exact rfl; exact Has.auto; exact hroom; exact hld))) | (apply Sq_rd; exact rfl; (first | (apply Rd_loadA tb; exact rfl; exact rfl; exact rfl; exact Has.auto; exact hroom; exact hld))) | (refine St_step ?_; (try with_reducible intro _)) | (refine St_step2 ?_ ?_ <;> (intro hb; (try simp only [beq_iff_eq, bne_iff_ne, decide_eq_true_eq, decide_eq_false_iff_not, Bool.not_eq_true', Bool.not_eq_false', beq_eq_false_iff_ne, bne_eq_false_iff_eq, ne_eq, Int.not_lt, Int.not_le, gt_iff_lt, ge_iff_le] at hb); (try (first | exact Bool.noConfusion hb | exact absurd trivial hb | (exfalso; omega))))) | fail)
        all_goals first | (exfalso; omega) | skip
        refine St_rsMk (n := l.length) (cap := c) (cs := l.flatMap uv) (by exact Has.auto) ?_
        exact St_ret1 (.inl rfl) rfl rfl ⟨rfl, rfl⟩ (by exact Split.auto)
    · have hii : i = l.length := by omega
      subst hii
      rw [firstErr_all (l := l) fun j x hx => hall j (by
        rcases Nat.lt_or_ge j l.length with h | h
        · exact h
        · rw [List.getElem?_eq_none h] at hx; cases hx) x hx]
      repeat' (first | (refine St_step ?_; (try with_reducible intro _)) | (refine St_step2 ?_ ?_ <;> (intro hb; (try simp only [beq_iff_eq, bne_iff_ne, decide_eq_true_eq, decide_eq_false_iff_not, Bool.not_eq_true', Bool.not_eq_false', beq_eq_false_iff_ne, bne_eq_false_iff_eq, ne_eq, Int.not_lt, Int.not_le, gt_iff_lt, ge_iff_le] at hb); (try (first | exact Bool.noConfusion hb | exact absurd trivial hb | (exfalso; omega))))) | fail)
      all_goals first | (exfalso; omega) | exact St_ret1 (.inl rfl) rfl rfl ⟨rfl, rfl⟩ (by exact Split.auto)
theorem rmay_ups {r : Ro} (h : rmay r = 0) : (1 ≤ r.origin ∧ r.origin ≤ 64) ∧ (1 ≤ r.number ∧ r.number ≤ 1099511627776) ∧ r.ups.length ≤ 8 ∧ ∀ u ∈ r.ups, umay u = 0 := by
  unfold rmay at h
  split at h
  · cases h
  · exact ⟨by omega, by omega, by omega, firstErr_zero h⟩
theorem refRbytes_sp (q : Bool) (r : Ro) (v : Value) (h : rmay r = 0) : Sp Tryz.prog 25 [.agg (rv r v).toArray] [UL q v r.ups] (fun w M => w = str (rbytes r) ∧ M = [UL q v r.ups]) := by
  refine Sp.intro (P := Tryz.prog) (Tryz.func25) rfl Tryz.ntmps25 (by decide) rfl ?_
  intro ρ F
  refine St_rsIs (by exact Has.auto) ?_
  rintro A c rfl
  obtain ⟨⟨o1, o2⟩, ⟨n1, n2⟩, hl, hu⟩ := rmay_ups h
  obtain ⟨o, n, l⟩ := r
  dsimp only at *
  obtain ⟨a, ha⟩ : ∃ a : Nat, o = a := ⟨o.toNat, by omega⟩
  obtain ⟨b, hb⟩ : ∃ b : Nat, n = b := ⟨n.toNat, by omega⟩
  subst ha hb
  have w1 := refNumber_sp a (by omega)
  have w2 := refNumber_sp b (by omega)
  have w3 := refNumber_sp l.length (by omega)
  have l1 := enc_len a; have l2 := enc_len b; have l3 := enc_len l.length
  have e : rbytes ⟨a, b, l⟩ = (enc a ++ enc b ++ enc l.length) ++ l.flatMap ubytes := rfl
  rw [e]
  have hlen : ∀ x ∈ l, (ubytes x).length ≤ 100 := fun x hx => by have := ubytes_len40 (hu x hx); omega
  have lh : (enc a ++ enc b ++ enc l.length).length ≤ 24 := by simp only [List.length_append]; omega
  repeat' (first | (apply St_call (hf := w1); exact rfl; exact rfl; exact Split.auto; rintro _ _ ⟨rfl, rfl⟩) | (apply St_call (hf := w2); exact rfl; exact rfl; exact Split.auto; rintro _ _ ⟨rfl, rfl⟩) | (apply St_call (hf := w3); exact rfl; exact rfl; exact Split.auto; rintro _ _ ⟨rfl, rfl⟩) | (apply St_rd; exact rfl; (first | (apply Rd_cat; exact rfl; exact rfl; (simp only [List.length_append]; omega)))) | (apply Sq_rd; exact rfl; (first | (apply Rd_cat; exact rfl; exact rfl; (simp only [List.length_append]; omega)))) | (refine St_step ?_; (try with_reducible intro _)) | (refine St_step2 ?_ ?_ <;> (intro hb; (try simp only [beq_iff_eq, bne_iff_ne, decide_eq_true_eq, decide_eq_false_iff_not, Bool.not_eq_true', Bool.not_eq_false', beq_eq_false_iff_ne, bne_eq_false_iff_eq, ne_eq, Int.not_lt, Int.not_le, gt_iff_lt, ge_iff_le] at hb); (try (first | exact Bool.noConfusion hb | exact absurd trivial hb | (exfalso; omega))))) | fail)
  rename_i xb
  generalize enc a ++ enc b ++ enc l.length = hd at *
  refine St_loop (fun (i : Nat) => i ≤ l.length) (fun i => [(1, .pointer (some ⟨xb, 0, none⟩)), (9, str (hd ++ (l.take i).flatMap ubytes)), (10, nat .i64 i)]) (fun i => [cel false xb 64 (rv ⟨a, b, l⟩ (.slice A l.length c)), UL q (.slice A l.length c) l, big F]) (fun i => l.length - i) 0 (Nat.zero_le _) ⟨rfl, ?_, rfl, trivial⟩ (by exact Split.auto) ?_
  · rw [List.take_zero, List.flatMap_nil, List.append_nil]; rfl
  intro i hi
  have hbl : ((l.take i).flatMap ubytes).length ≤ 100 * (l.take i).length := flat_len _ _ fun x hx => hlen x (List.mem_of_mem_take hx)
  have hti : (l.take i).length ≤ 1000 := by simp; omega
  by_cases hil : i < l.length
  · obtain ⟨u, hux⟩ : ∃ u, l[i]? = some u := ⟨_, List.getElem?_eq_getElem hil⟩
    refine St_rsOpen (by exact Has.auto) (by omega) ?_
    rintro b2 T cap pre rest hv
    injection hv with hv1 hv2 hv3
    subst hv1 hv3
    have hld := flat_at uv_len l i u pre rest hux
    have hroom := flat_room uv_len l i pre rest hil
    have hub := hlen u (List.mem_of_getElem? hux)
    have hw := ubytes06_sp u (hu u (List.mem_of_getElem? hux))
    have hft : hd ++ (l.take (i + 1)).flatMap ubytes = hd ++ (l.take i).flatMap ubytes ++ ubytes u := by rw [flat_take hux, List.append_assoc]
    repeat' (first | (apply St_call (hf := hw); exact rfl; exact rfl; exact Split.auto; rintro _ _ ⟨rfl, rfl⟩) | (apply St_rd; exact rfl; (first | (apply Rd_loadA tb; exact rfl; exact rfl; exact rfl; exact Has.auto; exact hroom; exact hld) | (apply Rd_cat; exact rfl; exact rfl; (simp only [List.length_append]; omega)))) | (apply Sq_rd; exact rfl; (first | (apply Rd_loadA tb; exact rfl; exact rfl; exact rfl; exact Has.auto; exact hroom; exact hld) | (apply Rd_cat; exact rfl; exact rfl; (simp only [List.length_append]; omega)))) | (refine St_step ?_; (try with_reducible intro _)) | (refine St_step2 ?_ ?_ <;> (intro hb; (try simp only [beq_iff_eq, bne_iff_ne, decide_eq_true_eq, decide_eq_false_iff_not, Bool.not_eq_true', Bool.not_eq_false', beq_eq_false_iff_ne, bne_eq_false_iff_eq, ne_eq, Int.not_lt, Int.not_le, gt_iff_lt, ge_iff_le] at hb); (try (first | exact Bool.noConfusion hb | exact absurd trivial hb | (exfalso; omega))))) | fail)
    refine St_rsMk (n := l.length) (cap := c) (cs := l.flatMap uv) (by exact Has.auto) ?_
    refine St_at (i + 1) ⟨hil, by omega⟩ ⟨rfl, ?_, rfl, trivial⟩ (by exact Split.auto)
    rw [hft]; rfl
  · have hii : i = l.length := by omega
    subst hii
    rw [List.take_length]
    repeat' (first | (refine St_step ?_; (try with_reducible intro _)) | (refine St_step2 ?_ ?_ <;> (intro hb; (try simp only [beq_iff_eq, bne_iff_ne, decide_eq_true_eq, decide_eq_false_iff_not, Bool.not_eq_true', Bool.not_eq_false', beq_eq_false_iff_ne, bne_eq_false_iff_eq, ne_eq, Int.not_lt, Int.not_le, gt_iff_lt, ge_iff_le] at hb); (try (first | exact Bool.noConfusion hb | exact absurd trivial hb | (exfalso; omega))))) | fail)
    all_goals first | (exfalso; omega) | exact St_ret1 (.inl rfl) rfl rfl ⟨rfl, rfl⟩ (by exact Split.auto)
theorem refFits_sp (q : Bool) (l : List Up) (v : Value) (mtu : Int) : Sp Tryz.prog 44 [v, .int .i64 mtu] [UL q v l] (fun w M => w = .bool (rfits l mtu) ∧ M = [UL q v l]) := by
  refine Sp.intro (P := Tryz.prog) (Tryz.func44) rfl Tryz.ntmps44 (by decide) rfl ?_
  intro ρ F
  refine St_rsIs (by exact Has.auto) ?_
  rintro A c rfl
  have c1 := refRmay_sp q ⟨64, 1099511627776, l⟩ (.slice A l.length c)
  unfold rfits
  by_cases h1 : 64 ≤ mtu ∧ mtu ≤ 1400
  · by_cases h2 : rmay ⟨64, 1099511627776, l⟩ = 0
    · have c2 := refRbytes_sp q ⟨64, 1099511627776, l⟩ (.slice A l.length c) h2
      rw [h2] at c1 ⊢
      by_cases h3 : ((rbytes ⟨64, 1099511627776, l⟩).length : Int) ≤ mtu - 40
      · rw [decide_eq_true (by omega)]
        repeat' (first | (apply St_call (hf := c1); exact rfl; exact rfl; exact Split.auto; rintro _ _ ⟨rfl, rfl⟩) | (apply St_call (hf := c2); exact rfl; exact rfl; exact Split.auto; rintro _ _ ⟨rfl, rfl⟩) | (refine St_step ?_; (try with_reducible intro _)) | (refine St_step2 ?_ ?_ <;> (intro hb; (try simp only [beq_iff_eq, bne_iff_ne, decide_eq_true_eq, decide_eq_false_iff_not, Bool.not_eq_true', Bool.not_eq_false', beq_eq_false_iff_ne, bne_eq_false_iff_eq, ne_eq, Int.not_lt, Int.not_le, gt_iff_lt, ge_iff_le] at hb); (try (first | exact Bool.noConfusion hb | exact absurd trivial hb | (exfalso; omega))))) | fail)
        all_goals (first | (first | contradiction | (exfalso; omega) | (exact St_ret1 (.inl rfl) rfl rfl ⟨rfl, rfl⟩ (by exact Split.auto)) | (exact St_ret2 (.inl rfl) rfl rfl rfl ⟨rfl, rfl⟩ (by exact Split.auto)) | (exact St_ret3 (.inl rfl) rfl rfl rfl rfl ⟨rfl, rfl⟩ (by exact Split.auto))) | (exfalso; simp at hb; done) | (refine St_ret1 (.inl rfl) rfl rfl ⟨?_, rfl⟩ (by exact Split.auto); congr 1; first | (simp; done) | (rw [decide_eq_true_eq]; omega)))
      · rw [decide_eq_false (by omega)]
        repeat' (first | (apply St_call (hf := c1); exact rfl; exact rfl; exact Split.auto; rintro _ _ ⟨rfl, rfl⟩) | (apply St_call (hf := c2); exact rfl; exact rfl; exact Split.auto; rintro _ _ ⟨rfl, rfl⟩) | (refine St_step ?_; (try with_reducible intro _)) | (refine St_step2 ?_ ?_ <;> (intro hb; (try simp only [beq_iff_eq, bne_iff_ne, decide_eq_true_eq, decide_eq_false_iff_not, Bool.not_eq_true', Bool.not_eq_false', beq_eq_false_iff_ne, bne_eq_false_iff_eq, ne_eq, Int.not_lt, Int.not_le, gt_iff_lt, ge_iff_le] at hb); (try (first | exact Bool.noConfusion hb | exact absurd trivial hb | (exfalso; omega))))) | fail)
        all_goals first | (exfalso; omega) | (refine St_ret1 (.inl rfl) rfl rfl ⟨?_, rfl⟩ (by exact Split.auto); congr 1; exact decide_eq_false h3) | (first | (first | contradiction | (exfalso; omega) | (exact St_ret1 (.inl rfl) rfl rfl ⟨rfl, rfl⟩ (by exact Split.auto)) | (exact St_ret2 (.inl rfl) rfl rfl rfl ⟨rfl, rfl⟩ (by exact Split.auto)) | (exact St_ret3 (.inl rfl) rfl rfl rfl rfl ⟨rfl, rfl⟩ (by exact Split.auto))) | (exfalso; simp at hb; done) | (refine St_ret1 (.inl rfl) rfl rfl ⟨?_, rfl⟩ (by exact Split.auto); congr 1; first | (simp; done) | (rw [decide_eq_true_eq]; omega)))
    · rw [decide_eq_false (by omega)]
      repeat' (first | (apply St_call (hf := c1); exact rfl; exact rfl; exact Split.auto; rintro _ _ ⟨rfl, rfl⟩) | (refine St_step ?_; (try with_reducible intro _)) | (refine St_step2 ?_ ?_ <;> (intro hb; (try simp only [beq_iff_eq, bne_iff_ne, decide_eq_true_eq, decide_eq_false_iff_not, Bool.not_eq_true', Bool.not_eq_false', beq_eq_false_iff_ne, bne_eq_false_iff_eq, ne_eq, Int.not_lt, Int.not_le, gt_iff_lt, ge_iff_le] at hb); (try (first | exact Bool.noConfusion hb | exact absurd trivial hb | (exfalso; omega))))) | fail)
      all_goals (first | (first | contradiction | (exfalso; omega) | (exact St_ret1 (.inl rfl) rfl rfl ⟨rfl, rfl⟩ (by exact Split.auto)) | (exact St_ret2 (.inl rfl) rfl rfl rfl ⟨rfl, rfl⟩ (by exact Split.auto)) | (exact St_ret3 (.inl rfl) rfl rfl rfl rfl ⟨rfl, rfl⟩ (by exact Split.auto))) | (exfalso; simp at hb; done) | (refine St_ret1 (.inl rfl) rfl rfl ⟨?_, rfl⟩ (by exact Split.auto); congr 1; first | (simp; done) | (rw [decide_eq_true_eq]; omega)))
  · rw [decide_eq_false (by omega)]
    repeat' (first | (apply St_call (hf := c1); exact rfl; exact rfl; exact Split.auto; rintro _ _ ⟨rfl, rfl⟩) | (refine St_step ?_; (try with_reducible intro _)) | (refine St_step2 ?_ ?_ <;> (intro hb; (try simp only [beq_iff_eq, bne_iff_ne, decide_eq_true_eq, decide_eq_false_iff_not, Bool.not_eq_true', Bool.not_eq_false', beq_eq_false_iff_ne, bne_eq_false_iff_eq, ne_eq, Int.not_lt, Int.not_le, gt_iff_lt, ge_iff_le] at hb); (try (first | exact Bool.noConfusion hb | exact absurd trivial hb | (exfalso; omega))))) | fail)
    all_goals (first | (first | contradiction | (exfalso; omega) | (exact St_ret1 (.inl rfl) rfl rfl ⟨rfl, rfl⟩ (by exact Split.auto)) | (exact St_ret2 (.inl rfl) rfl rfl rfl ⟨rfl, rfl⟩ (by exact Split.auto)) | (exact St_ret3 (.inl rfl) rfl rfl rfl rfl ⟨rfl, rfl⟩ (by exact Split.auto))) | (exfalso; simp at hb; done) | (refine St_ret1 (.inl rfl) rfl rfl ⟨?_, rfl⟩ (by exact Split.auto); congr 1; first | (simp; done) | (rw [decide_eq_true_eq]; omega)))
end Go.Proofs.YtfjnacakpeommaaGreatDoor
