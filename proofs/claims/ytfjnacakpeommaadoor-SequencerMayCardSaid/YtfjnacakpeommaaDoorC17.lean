/- Contracts: package receiver. -/
import Derived.Test.YtfjnacakpeommaaDoorC16
namespace Go.Proofs.YtfjnacakpeommaaDoor
open Go SL Pl
set_option autoImplicit false
set_option maxRecDepth 100000
set_option linter.unusedSimpArgs false
set_option linter.unusedVariables false
attribute [local irreducible] St Sq Exec QExec wpList wpQuiet Code.wp Exit.then Exit.inBlock bodyPost At Rd wpOp Wa QK GB
section
variable {ρ : Rst} {N : Nat} {env : Env} {L L' : List HP} {P : Program} {Q : Exit → Act → World → Prop} {K : Act → World → Prop}
variable {d : Nat} {dd : Option Nat} {op : Op} {ty : TypeId} {pos : String} {aft : Array Edge} {g : Option (Nat × Bool)}
theorem Rd_addN {T U : TypeId} {x y : Operand} {m n : Nat} (hx : ev env x = some (nat .i64 m)) (hy : ev env y = some (nat .i64 n)) (hb : m + n ≤ 9223372036854775807) :
    Rd P ρ N env L ⟨dd, .binOp .add T x y U, ty, pos, aft, g⟩ (nat .i64 (m + n)) := by
  have h := Rd_add (P := P) (ρ := ρ) (N := N) (L := L) (dd := dd) (ty := ty) (pos := pos) (aft := aft) (g := g) (T := T) (U := U) hx hy (by omega)
  exact h
theorem Rd_subN {T U : TypeId} {x y : Operand} {m n : Nat} (hx : ev env x = some (nat .i64 m)) (hy : ev env y = some (nat .i64 n)) (hb : n ≤ m ∧ m ≤ 9223372036854775807) :
    Rd P ρ N env L ⟨dd, .binOp .sub T x y U, ty, pos, aft, g⟩ (nat .i64 (m - n)) := by
  have h := Rd_sub (P := P) (ρ := ρ) (N := N) (L := L) (dd := dd) (ty := ty) (pos := pos) (aft := aft) (g := g) (T := T) (U := U) hx hy (by omega)
  have e : (m : Int) - (n : Int) = ((m - n : Nat) : Int) := by omega
  rw [e] at h
  exact h
theorem Rd_pred {T U : TypeId} {x y : Operand} {m : Nat} (hx : ev env x = some (nat .i64 (m + 1))) (hy : ev env y = some (.int .i64 1)) (hb : m ≤ 9223372036854775806) :
    Rd P ρ N env L ⟨dd, .binOp .sub T x y U, ty, pos, aft, g⟩ (nat .i64 m) := by
  have h := Rd_sub (P := P) (ρ := ρ) (N := N) (L := L) (dd := dd) (ty := ty) (pos := pos) (aft := aft) (g := g) (T := T) (U := U) hx hy (by omega)
  have e : ((m + 1 : Nat) : Int) - 1 = (m : Int) := by omega
  rw [e] at h
  exact h
theorem Rd_succ {T U : TypeId} {x y : Operand} {m : Nat} (hx : ev env x = some (nat .i64 m)) (hy : ev env y = some (.int .i64 1)) (hb : m ≤ 9223372036854775806) :
    Rd P ρ N env L ⟨dd, .binOp .add T x y U, ty, pos, aft, g⟩ (nat .i64 (m + 1)) := by
  have h := Rd_add (P := P) (ρ := ρ) (N := N) (L := L) (dd := dd) (ty := ty) (pos := pos) (aft := aft) (g := g) (T := T) (U := U) hx hy (by omega)
  exact h
end
/-- A receiver's cells. -/
def rcC (room acked : Nat) (ring : List (List UInt8)) (frm n : Nat) : List Value := nat .i64 room :: nat .i64 acked :: (ring.map str ++ [nat .i64 frm, nat .i64 n])
theorem rcC_len {room acked frm n : Nat} {ring : List (List UInt8)} (h : ring.length = 16) : (rcC room acked ring frm n).length = 20 := by simp [rcC, h]
theorem rcC_18 {room acked frm n : Nat} {ring : List (List UInt8)} (h : ring.length = 16) : (rcC room acked ring frm n)[18]? = some (nat .i64 frm) := by
  unfold rcC
  rw [List.getElem?_cons_succ, List.getElem?_cons_succ, List.getElem?_append_right (by simp [h])]
  simp [h]
theorem rcC_19 {room acked frm n : Nat} {ring : List (List UInt8)} (h : ring.length = 16) : (rcC room acked ring frm n)[19]? = some (nat .i64 n) := by
  unfold rcC
  rw [List.getElem?_cons_succ, List.getElem?_cons_succ, List.getElem?_append_right (by simp [h])]
  simp [h]
theorem rcC_at {room acked frm n i : Nat} {ring : List (List UInt8)} {x : List UInt8} (h : ring[i]? = some x) : (rcC room acked ring frm n)[2 + i]? = some (str x) := by
  have hi : i < ring.length := by
    rcases Nat.lt_or_ge i ring.length with q | q
    · exact q
    · rw [List.getElem?_eq_none q] at h; cases h
  unfold rcC
  rw [Nat.add_comm 2 i, List.getElem?_cons_succ, List.getElem?_cons_succ, List.getElem?_append_left (by simpa using hi), List.getElem?_map, h]
  rfl
theorem rcC_s18 {room acked frm n m : Nat} {ring : List (List UInt8)} (h : ring.length = 16) : (rcC room acked ring frm n).set 18 (nat .i64 m) = rcC room acked ring m n := by
  unfold rcC
  rw [List.set_cons_succ, List.set_cons_succ, List.set_append_right _ _ (by simp [h])]
  simp [h]
theorem rcC_s19 {room acked frm n m : Nat} {ring : List (List UInt8)} (h : ring.length = 16) : (rcC room acked ring frm n).set 19 (nat .i64 m) = rcC room acked ring frm m := by
  unfold rcC
  rw [List.set_cons_succ, List.set_cons_succ, List.set_append_right _ _ (by simp [h])]
  simp [h]
theorem rcC_set {room acked frm n i : Nat} {ring : List (List UInt8)} {x : List UInt8} (h : i < ring.length) : (rcC room acked ring frm n).set (2 + i) (str x) = rcC room acked (ring.set i x) frm n := by
  unfold rcC
  rw [Nat.add_comm 2 i, List.set_cons_succ, List.set_cons_succ, List.set_append_left _ _ (by simpa using h), List.map_set]
theorem rcC_s1 {room acked frm n m : Nat} {ring : List (List UInt8)} : (rcC room acked ring frm n).set 1 (nat .i64 m) = rcC room m ring frm n := rfl
structure ringOk (ring : List (List UInt8)) (frm : Nat) (q : List (List UInt8)) : Prop where
  len : ring.length = 16
  frm_lt : frm < 16
  q_le : q.length ≤ 16
  at_ : ∀ i, i < q.length → ring[(frm + i) % 16]? = q[i]?
theorem ringOk_nil : ringOk (List.replicate 16 []) 0 [] := ⟨rfl, by decide, by decide, fun i h => by simp at h⟩
theorem ringOk_push {ring : List (List UInt8)} {frm : Nat} {q : List (List UInt8)} (h : ringOk ring frm q) (hq : q.length < 16) (d : List UInt8) : ringOk (ring.set ((frm + q.length) % 16) d) frm (q ++ [d]) := by
  refine ⟨by simp [h.len], h.frm_lt, by simp; omega, fun i hi => ?_⟩
  have hlt : (frm + q.length) % 16 < 16 := Nat.mod_lt _ (by decide)
  have hf := h.frm_lt
  rw [List.getElem?_set]
  by_cases hiq : i = q.length
  · subst hiq
    simp [h.len, hlt]
  · have hi' : i < q.length := by simp at hi; omega
    have hne : ¬ (frm + q.length) % 16 = (frm + i) % 16 := by omega
    rw [if_neg hne, h.at_ i hi', List.getElem?_append_left hi']
theorem ringOk_pop {ring : List (List UInt8)} {frm : Nat} {x : List UInt8} {q : List (List UInt8)} (h : ringOk ring frm (x :: q)) (y : List UInt8) : ringOk (ring.set frm y) ((frm + 1) % 16) q := by
  have hf := h.frm_lt
  have hq := h.q_le
  simp only [List.length_cons] at hq
  refine ⟨by simp [h.len], Nat.mod_lt _ (by decide), by omega, fun i hi => ?_⟩
  have h1 := h.at_ (i + 1) (by simp; omega)
  rw [List.getElem?_cons_succ] at h1
  rw [List.getElem?_set, if_neg (by omega), ← h1]
  congr 1
  omega
def rcL (b : Nat) (r : Rc) (z : List (List UInt8) × Nat) : List HP := [lift (ringOk z.1 z.2 r.q), cel false b 130 (rcC r.room r.acked z.1 z.2 r.q.length)]
def RcP (b : Nat) (r : Rc) : HP := ex fun z => big (rcL b r z)
theorem St_rcOpen {ρ : Rst} {N : Nat} {env : Env} {L L' : List HP} {G : Act → World → Prop} {b : Nat} {r : Rc} (hc : Has L (RcP b r) L')
    (h : ∀ ring frm, ringOk ring frm r.q → St ρ N env (cel false b 130 (rcC r.room r.acked ring frm r.q.length) :: L') G) : St ρ N env L G :=
  St_exOpen (l := rcL b r) hc fun z => St_lift fun hz => h z.1 z.2 hz
theorem St_rcMk {ρ : Rst} {N : Nat} {env : Env} {L L' : List HP} {G : Act → World → Prop} {b frm : Nat} {r : Rc} {ring : List (List UInt8)} (hr : ringOk ring frm r.q) (hc : Has L (cel false b 130 (rcC r.room r.acked ring frm r.q.length)) L')
    (h : St ρ N env (RcP b r :: L') G) : St ρ N env L G :=
  St_conv (fun w H => Holds.ex_mk (A := fun z => big (rcL b r z)) (ring, frm) (Holds.shut (l := [_, _]) (Holds.lift_mk hr (H.has hc)))) h
theorem rcNew_sp (room : Int) : Sp Tryd.prog 66 [.int .i64 room] [] (fun v M => ∃ b, v = .pointer (some ⟨b, 0, none⟩) ∧ M = [RcP b (rcNew room)]) := by
  refine Sp.intro (P := Tryd.prog) (Tryd.func66) rfl Tryd.ntmps66 (by decide) rfl ?_
  intro ρ F
  repeat' (first | (refine St_step ?_; (try with_reducible intro _)) | (refine St_step2 ?_ ?_ <;> (intro hb; (try simp only [beq_iff_eq, bne_iff_ne, decide_eq_true_eq, decide_eq_false_iff_not, Bool.not_eq_true', Bool.not_eq_false', beq_eq_false_iff_ne, bne_eq_false_iff_eq, ne_eq, Int.not_lt, Int.not_le, gt_iff_lt, ge_iff_le] at hb); (try (first | exact Bool.noConfusion hb | exact absurd trivial hb | (exfalso; omega))))) | fail)
  rename_i b
  refine St_cel (r := false) (b := b) (cs' := rcC (rcNew room).room (rcNew room).acked (List.replicate 16 []) 0 (rcNew room).q.length) (by exact Has.auto) ?_ ?_
  · unfold rcNew
    dsimp only
    rw [clamp_val (by decide), clamp_nat (w := room) (lo := 1) (hi := 16) (by decide) (by decide)]
    rfl
  refine St_rcMk (r := rcNew room) ringOk_nil (by exact Has.auto) ?_
  exact St_ret1 (.inl rfl) rfl rfl ⟨_, rfl, rfl⟩ (by exact Split.auto)
theorem rcAck_sp (b : Nat) (r : Rc) : Sp Tryd.prog 58 [.pointer (some ⟨b, 0, none⟩)] [RcP b r] (fun v M => v = nat .i64 r.acked ∧ M = [RcP b r]) := by
  refine Sp.intro (P := Tryd.prog) (Tryd.func58) rfl Tryd.ntmps58 (by decide) rfl ?_
  intro ρ F
  refine St_rcOpen (by exact Has.auto) fun ring frm hr => ?_
  repeat' (first | (refine St_step ?_; (try with_reducible intro _)) | (refine St_step2 ?_ ?_ <;> (intro hb; (try simp only [beq_iff_eq, bne_iff_ne, decide_eq_true_eq, decide_eq_false_iff_not, Bool.not_eq_true', Bool.not_eq_false', beq_eq_false_iff_ne, bne_eq_false_iff_eq, ne_eq, Int.not_lt, Int.not_le, gt_iff_lt, ge_iff_le] at hb); (try (first | exact Bool.noConfusion hb | exact absurd trivial hb | (exfalso; omega))))) | fail)
  refine St_rcMk (r := r) hr (by exact Has.auto) ?_
  exact St_ret1 (.inl rfl) rfl rfl ⟨rfl, rfl⟩ (by exact Split.auto)
theorem place_sp (b i frm n room acked : Nat) (ring : List (List UInt8)) (hl : ring.length = 16) (hi : i ≤ 1000) (hf : frm < 16) : Sp Tryd.prog 70 [.pointer (some ⟨b, 0, none⟩), nat .i64 i] [cel false b 130 (rcC room acked ring frm n)]
    (fun v M => v = nat .i64 ((frm + i) % 16) ∧ M = [cel false b 130 (rcC room acked ring frm n)]) := by
  refine Sp.intro (P := Tryd.prog) (Tryd.func70) rfl Tryd.ntmps70 (by decide) rfl ?_
  intro ρ F
  have h18 := rcC_18 (room := room) (acked := acked) (frm := frm) (n := n) hl
  repeat' (first | (apply St_rd; exact rfl; (first | (apply Rd_loadn tb; exact rfl; exact rfl; exact rfl; exact Has.auto; exact h18) | (apply Rd_addN; exact rfl; exact rfl; omega) | (apply Rd_natMod; exact rfl; exact rfl; decide))) | (apply Sq_rd; exact rfl; (first | (apply Rd_loadn tb; exact rfl; exact rfl; exact rfl; exact Has.auto; exact h18) | (apply Rd_addN; exact rfl; exact rfl; omega) | (apply Rd_natMod; exact rfl; exact rfl; decide))) | (refine St_step ?_; (try with_reducible intro _)) | (refine St_step2 ?_ ?_ <;> (intro hb; (try simp only [beq_iff_eq, bne_iff_ne, decide_eq_true_eq, decide_eq_false_iff_not, Bool.not_eq_true', Bool.not_eq_false', beq_eq_false_iff_ne, bne_eq_false_iff_eq, ne_eq, Int.not_lt, Int.not_le, gt_iff_lt, ge_iff_le] at hb); (try (first | exact Bool.noConfusion hb | exact absurd trivial hb | (exfalso; omega))))) | fail)
  exact St_ret1 (.inl rfl) rfl rfl ⟨rfl, rfl⟩ (by exact Split.auto)
theorem rcHear_sp (b : Nat) (r : Rc) (seq : Int) (d : List UInt8) (h1 : r.room ≤ 16) (h2 : r.acked ≤ 1000000000000000000) (h3 : r.q.length ≤ r.room) :
    Sp Tryd.prog 48 [.pointer (some ⟨b, 0, none⟩), .int .i64 seq, str d] [RcP b r] (fun v M => v = .bool (rcTakes r seq) ∧ M = [RcP b (rcHear r seq d)]) := by
  refine Sp.intro (P := Tryd.prog) (Tryd.func48) rfl Tryd.ntmps48 (by decide) rfl ?_
  intro ρ F
  refine St_rcOpen (by exact Has.auto) fun ring frm hr => ?_
  have hl := hr.len
  have hfr := hr.frm_lt
  have h19 := rcC_19 (room := r.room) (acked := r.acked) (frm := frm) (n := r.q.length) hl
  by_cases hno : r.room ≤ r.q.length ∨ seq ≠ (r.acked : Int) + 1
  · have e : rcHear r seq d = r := if_pos hno
    have e2 : rcTakes r seq = false := by simp only [rcTakes]; rw [decide_eq_true hno]; rfl
    rw [e, e2]
    repeat' (first | (apply St_regionQ; kernel_rfl; kernel_rfl) | (apply St_rd; exact rfl; (first | (apply Rd_loadn tb; exact rfl; exact rfl; exact rfl; exact Has.auto; exact h19))) | (apply Sq_rd; exact rfl; (first | (apply Rd_loadn tb; exact rfl; exact rfl; exact rfl; exact Has.auto; exact h19))) | (refine St_step ?_; (try with_reducible intro _)) | (refine St_step2 ?_ ?_ <;> (intro hb; (try simp only [beq_iff_eq, bne_iff_ne, decide_eq_true_eq, decide_eq_false_iff_not, Bool.not_eq_true', Bool.not_eq_false', beq_eq_false_iff_ne, bne_eq_false_iff_eq, ne_eq, Int.not_lt, Int.not_le, gt_iff_lt, ge_iff_le] at hb); (try (first | exact Bool.noConfusion hb | exact absurd trivial hb | (exfalso; omega))))) | fail)
    all_goals first | (exfalso; omega) | skip
    all_goals refine St_rcMk (r := r) hr (by exact Has.auto) ?_
    all_goals exact St_ret1 (.inl rfl) rfl rfl ⟨rfl, rfl⟩ (by exact Split.auto)
  · have e : rcHear r seq d = ⟨r.room, r.acked + 1, r.q ++ [d]⟩ := if_neg hno
    have e2 : rcTakes r seq = true := by simp only [rcTakes]; rw [decide_eq_false hno]; rfl
    rw [e, e2]
    have hq : r.q.length < 16 := by omega
    have hp := place_sp b r.q.length frm r.q.length r.room r.acked ring hl (by omega) hfr
    have hlt : (frm + r.q.length) % 16 < 16 := Nat.mod_lt _ (by decide)
    have hpush := ringOk_push hr hq d
    generalize hj : (frm + r.q.length) % 16 = j at *
    have hl2 := hpush.len
    have g1 := rcC_19 (room := r.room) (acked := r.acked + 1) (frm := frm) (n := r.q.length) hl2
    have s0 := rcC_set (room := r.room) (acked := r.acked) (frm := frm) (n := r.q.length) (x := d) (show j < ring.length by omega)
    have s1 := rcC_s1 (room := r.room) (acked := r.acked) (ring := ring.set j d) (frm := frm) (n := r.q.length) (m := r.acked + 1)
    have s2 := rcC_s19 (room := r.room) (acked := r.acked + 1) (frm := frm) (n := r.q.length) (m := r.q.length + 1) hl2
    have n0 : 0 + 2 + ((j : Nat) : Int).toNat * 1 < (rcC r.room r.acked ring frm r.q.length).length := by rw [rcC_len hl]; omega
    have n1 : 0 + 1 < (rcC r.room r.acked (ring.set j d) frm r.q.length).length := by rw [rcC_len hl2]; decide
    have n2 : 0 + 19 < (rcC r.room (r.acked + 1) (ring.set j d) frm r.q.length).length := by rw [rcC_len hl2]; decide
    have hix : 0 ≤ (j : Int) ∧ (j : Int) < ((16 : Nat) : Int) := by omega
    have hcast : 0 + 2 + ((j : Nat) : Int).toNat * 1 = 2 + j := by omega
    rw [← hcast] at s0
    repeat' (first | (apply St_regionA (11) ([cel false b 130 (rcC r.room r.acked ring frm r.q.length)]); kernel_rfl; (apply Sa_take 0; exact rfl; kernel_rfl; exact PanicOk.auto; exact rfl; (first | (apply Rd_loadn tb; exact rfl; exact rfl; exact rfl; exact Has.auto; exact h19) | (apply Rd_indexAddrA tb; exact rfl; exact rfl; exact rfl; exact rfl; exact hix) | exact Rd_auto)); (apply Sa_take 1; exact rfl; kernel_rfl; exact PanicOk.auto; exact rfl; (first | (apply Rd_loadn tb; exact rfl; exact rfl; exact rfl; exact Has.auto; exact h19) | (apply Rd_indexAddrA tb; exact rfl; exact rfl; exact rfl; exact rfl; exact hix) | exact Rd_auto)); (apply Sa_take 2; exact rfl; kernel_rfl; exact PanicOk.auto; exact rfl; (first | (apply Rd_loadn tb; exact rfl; exact rfl; exact rfl; exact Has.auto; exact h19) | (apply Rd_indexAddrA tb; exact rfl; exact rfl; exact rfl; exact rfl; exact hix) | exact Rd_auto)); (apply Sa_take 3; exact rfl; kernel_rfl; exact PanicOk.auto; exact rfl; (first | (apply Rd_loadn tb; exact rfl; exact rfl; exact rfl; exact Has.auto; exact h19) | (apply Rd_indexAddrA tb; exact rfl; exact rfl; exact rfl; exact rfl; exact hix) | exact Rd_auto)); (apply Sa_take 4; exact rfl; kernel_rfl; exact PanicOk.auto; exact rfl; (first | (apply Rd_loadn tb; exact rfl; exact rfl; exact rfl; exact Has.auto; exact h19) | (apply Rd_indexAddrA tb; exact rfl; exact rfl; exact rfl; exact rfl; exact hix) | exact Rd_auto)); (apply Sa_take 5; exact rfl; kernel_rfl; exact PanicOk.auto; exact rfl; (first | (apply Rd_loadn tb; exact rfl; exact rfl; exact rfl; exact Has.auto; exact h19) | (apply Rd_indexAddrA tb; exact rfl; exact rfl; exact rfl; exact rfl; exact hix) | exact Rd_auto)); (apply Sa_take 7; exact rfl; kernel_rfl; exact PanicOk.auto; exact rfl; (first | (apply Rd_loadn tb; exact rfl; exact rfl; exact rfl; exact Has.auto; exact h19) | (apply Rd_indexAddrA tb; exact rfl; exact rfl; exact rfl; exact rfl; exact hix) | exact Rd_auto)); (apply Sa_take 8; exact rfl; kernel_rfl; exact PanicOk.auto; exact rfl; (first | (apply Rd_loadn tb; exact rfl; exact rfl; exact rfl; exact Has.auto; exact h19) | (apply Rd_indexAddrA tb; exact rfl; exact rfl; exact rfl; exact rfl; exact hix) | exact Rd_auto)); (apply Sa_take 9; exact rfl; kernel_rfl; exact PanicOk.auto; exact rfl; (first | (apply Rd_loadn tb; exact rfl; exact rfl; exact rfl; exact Has.auto; exact h19) | (apply Rd_indexAddrA tb; exact rfl; exact rfl; exact rfl; exact rfl; exact hix) | exact Rd_auto)); (apply Sa_one (i := 6); kernel_rfl; exact .inr (by exact Split.auto)); (apply Sa_op; exact rfl; exact rfl); (first | (apply St_call (hf := hp); exact rfl; exact rfl; exact Split.auto; rintro _ _ ⟨rfl, rfl⟩) | (apply St_store1e tb; exact rfl; exact rfl; exact rfl; exact rfl; exact rfl; exact Has.auto; exact s0; exact n0) | (apply St_rd; exact rfl; (first | (apply Rd_loadn tb; exact rfl; exact rfl; exact rfl; exact Has.auto; exact h19) | (apply Rd_indexAddrA tb; exact rfl; exact rfl; exact rfl; exact rfl; exact hix))) | (apply Sq_rd; exact rfl; (first | (apply Rd_loadn tb; exact rfl; exact rfl; exact rfl; exact Has.auto; exact h19) | (apply Rd_indexAddrA tb; exact rfl; exact rfl; exact rfl; exact rfl; exact hix))) | (refine St_step ?_; (try with_reducible intro _)) | (refine St_step2 ?_ ?_ <;> (intro hb; (try simp only [beq_iff_eq, bne_iff_ne, decide_eq_true_eq, decide_eq_false_iff_not, Bool.not_eq_true', Bool.not_eq_false', beq_eq_false_iff_ne, bne_eq_false_iff_eq, ne_eq, Int.not_lt, Int.not_le, gt_iff_lt, ge_iff_le] at hb); (try (first | exact Bool.noConfusion hb | exact absurd trivial hb | (exfalso; omega))))) | fail); (apply Sa_take 10; exact rfl; kernel_rfl; exact PanicOk.auto; exact rfl; (first | (apply Rd_loadn tb; exact rfl; exact rfl; exact rfl; exact Has.auto; exact h19) | (apply Rd_indexAddrA tb; exact rfl; exact rfl; exact rfl; exact rfl; exact hix) | exact Rd_auto)); (apply Sa_one (i := 11); kernel_rfl; exact .inr (by exact Split.auto)); (apply Sa_op; exact rfl; exact rfl); (first | (apply St_call (hf := hp); exact rfl; exact rfl; exact Split.auto; rintro _ _ ⟨rfl, rfl⟩) | (apply St_store1e tb; exact rfl; exact rfl; exact rfl; exact rfl; exact rfl; exact Has.auto; exact s0; exact n0) | (apply St_rd; exact rfl; (first | (apply Rd_loadn tb; exact rfl; exact rfl; exact rfl; exact Has.auto; exact h19) | (apply Rd_indexAddrA tb; exact rfl; exact rfl; exact rfl; exact rfl; exact hix))) | (apply Sq_rd; exact rfl; (first | (apply Rd_loadn tb; exact rfl; exact rfl; exact rfl; exact Has.auto; exact h19) | (apply Rd_indexAddrA tb; exact rfl; exact rfl; exact rfl; exact rfl; exact hix))) | (refine St_step ?_; (try with_reducible intro _)) | (refine St_step2 ?_ ?_ <;> (intro hb; (try simp only [beq_iff_eq, bne_iff_ne, decide_eq_true_eq, decide_eq_false_iff_not, Bool.not_eq_true', Bool.not_eq_false', beq_eq_false_iff_ne, bne_eq_false_iff_eq, ne_eq, Int.not_lt, Int.not_le, gt_iff_lt, ge_iff_le] at hb); (try (first | exact Bool.noConfusion hb | exact absurd trivial hb | (exfalso; omega))))) | fail); (apply Sa_done (R := []); kernel_rfl; refine .inl ?_; kernel_rfl)) | (apply St_regionQ; kernel_rfl; kernel_rfl) | (apply St_store1e tb; exact rfl; exact rfl; exact rfl; exact rfl; exact rfl; exact Has.auto; exact s1; exact n1) | (apply St_store1e tb; exact rfl; exact rfl; exact rfl; exact rfl; exact rfl; exact Has.auto; exact s2; exact n2) | (apply St_rd; exact rfl; (first | (apply Rd_loadn tb; exact rfl; exact rfl; exact rfl; exact Has.auto; exact h19) | (apply Rd_loadn tb; exact rfl; exact rfl; exact rfl; exact Has.auto; exact g1) | (apply Rd_addN; exact rfl; exact rfl; omega))) | (apply Sq_rd; exact rfl; (first | (apply Rd_loadn tb; exact rfl; exact rfl; exact rfl; exact Has.auto; exact h19) | (apply Rd_loadn tb; exact rfl; exact rfl; exact rfl; exact Has.auto; exact g1) | (apply Rd_addN; exact rfl; exact rfl; omega))) | (refine St_step ?_; (try with_reducible intro _)) | (refine St_step2 ?_ ?_ <;> (intro hb; (try simp only [beq_iff_eq, bne_iff_ne, decide_eq_true_eq, decide_eq_false_iff_not, Bool.not_eq_true', Bool.not_eq_false', beq_eq_false_iff_ne, bne_eq_false_iff_eq, ne_eq, Int.not_lt, Int.not_le, gt_iff_lt, ge_iff_le] at hb); (try (first | exact Bool.noConfusion hb | exact absurd trivial hb | (exfalso; omega))))) | fail)
    all_goals first | (exfalso; omega) | skip
    have hql : (r.q ++ [d]).length = r.q.length + 1 := by simp
    refine St_rcMk (r := ⟨r.room, r.acked + 1, r.q ++ [d]⟩) hpush (by dsimp only; rw [hql]; exact Has.auto) ?_
    exact St_ret1 (.inl rfl) rfl rfl ⟨rfl, rfl⟩ (by exact Split.auto)
theorem rcPop_sp (b : Nat) (r : Rc) : Sp Tryd.prog 49 [.pointer (some ⟨b, 0, none⟩)] [RcP b r]
    (fun v M => v = .tuple [str (r.q.headD []), .bool (!r.q.isEmpty)].toArray ∧ M = [RcP b (rcPop r)]) := by
  refine Sp.intro (P := Tryd.prog) (Tryd.func49) rfl Tryd.ntmps49 (by decide) rfl ?_
  intro ρ F
  refine St_rcOpen (by exact Has.auto) fun ring frm hr => ?_
  have hl := hr.len
  have hfr := hr.frm_lt
  have hq16 := hr.q_le
  obtain ⟨room, acked, q⟩ := r
  dsimp only at *
  cases q with
  | nil =>
    have h19 := rcC_19 (room := room) (acked := acked) (frm := frm) (n := 0) hl
    repeat' (first | (apply St_rd; exact rfl; (first | (apply Rd_loadn tb; exact rfl; exact rfl; exact rfl; exact Has.auto; exact h19))) | (apply Sq_rd; exact rfl; (first | (apply Rd_loadn tb; exact rfl; exact rfl; exact rfl; exact Has.auto; exact h19))) | (refine St_step ?_; (try with_reducible intro _)) | (refine St_step2 ?_ ?_ <;> (intro hb; (try simp only [beq_iff_eq, bne_iff_ne, decide_eq_true_eq, decide_eq_false_iff_not, Bool.not_eq_true', Bool.not_eq_false', beq_eq_false_iff_ne, bne_eq_false_iff_eq, ne_eq, Int.not_lt, Int.not_le, gt_iff_lt, ge_iff_le] at hb); (try (first | exact Bool.noConfusion hb | exact absurd trivial hb | (exfalso; omega))))) | fail)
    refine St_rcMk (r := ⟨room, acked, []⟩) hr (by exact Has.auto) ?_
    exact St_ret2 (.inl rfl) rfl rfl rfl ⟨rfl, rfl⟩ (by exact Split.auto)
  | cons x q =>
    simp only [List.length_cons] at hq16
    have h0 := hr.at_ 0 (by simp)
    rw [Nat.add_zero, Nat.mod_eq_of_lt hfr] at h0
    have h0 : ring[frm]? = some x := by simpa using h0
    have hpop := ringOk_pop hr []
    have hl2 := hpop.len
    have hn : (x :: q).length = q.length + 1 := rfl
    rw [hn]
    have h19 := rcC_19 (room := room) (acked := acked) (frm := frm) (n := q.length + 1) hl
    have h18 := rcC_18 (room := room) (acked := acked) (frm := frm) (n := q.length + 1) hl
    have h18' := rcC_18 (room := room) (acked := acked) (frm := frm) (n := q.length + 1) hl2
    have hx := rcC_at (room := room) (acked := acked) (frm := frm) (n := q.length + 1) h0
    have g19 := rcC_19 (room := room) (acked := acked) (frm := (frm + 1) % 16) (n := q.length + 1) hl2
    have hp := place_sp b 1 frm (q.length + 1) room acked (ring.set frm []) hl2 (by decide) hfr
    have s0 := rcC_set (room := room) (acked := acked) (frm := frm) (n := q.length + 1) (x := []) (show frm < ring.length by omega)
    have s1 := rcC_s18 (room := room) (acked := acked) (frm := frm) (n := q.length + 1) (m := (frm + 1) % 16) hl2
    have s2 := rcC_s19 (room := room) (acked := acked) (frm := (frm + 1) % 16) (n := q.length + 1) (m := q.length) hl2
    have hcast : 0 + 2 + ((frm : Nat) : Int).toNat * 1 = 2 + frm := by omega
    rw [← hcast] at s0 hx
    have n0 : 0 + 2 + ((frm : Nat) : Int).toNat * 1 < (rcC room acked ring frm (q.length + 1)).length := by rw [rcC_len hl]; omega
    have n1 : 0 + 18 < (rcC room acked (ring.set frm []) frm (q.length + 1)).length := by rw [rcC_len hl2]; decide
    have n2 : 0 + 19 < (rcC room acked (ring.set frm []) ((frm + 1) % 16) (q.length + 1)).length := by rw [rcC_len hl2]; decide
    have hix : 0 ≤ (frm : Int) ∧ (frm : Int) < ((16 : Nat) : Int) := by omega
    repeat' (first | (apply St_regionA (8) ([cel false b 130 (rcC room acked ring frm (q.length + 1))]); kernel_rfl; (apply Sa_take 0; exact rfl; kernel_rfl; exact PanicOk.auto; exact rfl; (first | (apply Rd_loadn tb; exact rfl; exact rfl; exact rfl; exact Has.auto; exact h18) | (apply Rd_indexAddrA tb; exact rfl; exact rfl; exact rfl; exact rfl; exact hix) | exact Rd_auto)); (apply Sa_take 1; exact rfl; kernel_rfl; exact PanicOk.auto; exact rfl; (first | (apply Rd_loadn tb; exact rfl; exact rfl; exact rfl; exact Has.auto; exact h18) | (apply Rd_indexAddrA tb; exact rfl; exact rfl; exact rfl; exact rfl; exact hix) | exact Rd_auto)); (apply Sa_take 2; exact rfl; kernel_rfl; exact PanicOk.auto; exact rfl; (first | (apply Rd_loadn tb; exact rfl; exact rfl; exact rfl; exact Has.auto; exact h18) | (apply Rd_indexAddrA tb; exact rfl; exact rfl; exact rfl; exact rfl; exact hix) | exact Rd_auto)); (apply Sa_take 3; exact rfl; kernel_rfl; exact PanicOk.auto; exact rfl; (first | (apply Rd_loadn tb; exact rfl; exact rfl; exact rfl; exact Has.auto; exact h18) | (apply Rd_indexAddrA tb; exact rfl; exact rfl; exact rfl; exact rfl; exact hix) | exact Rd_auto)); (apply Sa_take 4; exact rfl; kernel_rfl; exact PanicOk.auto; exact rfl; (first | (apply Rd_loadn tb; exact rfl; exact rfl; exact rfl; exact Has.auto; exact h18) | (apply Rd_indexAddrA tb; exact rfl; exact rfl; exact rfl; exact rfl; exact hix) | exact Rd_auto)); (apply Sa_take 5; exact rfl; kernel_rfl; exact PanicOk.auto; exact rfl; (first | (apply Rd_loadn tb; exact rfl; exact rfl; exact rfl; exact Has.auto; exact h18) | (apply Rd_indexAddrA tb; exact rfl; exact rfl; exact rfl; exact rfl; exact hix) | exact Rd_auto)); (apply Sa_take 6; exact rfl; kernel_rfl; exact PanicOk.auto; exact rfl; (first | (apply Rd_loadn tb; exact rfl; exact rfl; exact rfl; exact Has.auto; exact h18) | (apply Rd_indexAddrA tb; exact rfl; exact rfl; exact rfl; exact rfl; exact hix) | exact Rd_auto)); (apply Sa_take 7; exact rfl; kernel_rfl; exact PanicOk.auto; exact rfl; (first | (apply Rd_loadn tb; exact rfl; exact rfl; exact rfl; exact Has.auto; exact h18) | (apply Rd_indexAddrA tb; exact rfl; exact rfl; exact rfl; exact rfl; exact hix) | exact Rd_auto)); (apply Sa_one (i := 8); kernel_rfl; exact .inr (by exact Split.auto)); (apply Sa_op; exact rfl; exact rfl); (first | (apply St_store1e tb; exact rfl; exact rfl; exact rfl; exact rfl; exact rfl; exact Has.auto; exact s0; exact n0) | (apply St_rd; exact rfl; (first | (apply Rd_loadn tb; exact rfl; exact rfl; exact rfl; exact Has.auto; exact h18) | (apply Rd_indexAddrA tb; exact rfl; exact rfl; exact rfl; exact rfl; exact hix))) | (apply Sq_rd; exact rfl; (first | (apply Rd_loadn tb; exact rfl; exact rfl; exact rfl; exact Has.auto; exact h18) | (apply Rd_indexAddrA tb; exact rfl; exact rfl; exact rfl; exact rfl; exact hix))) | (refine St_step ?_; (try with_reducible intro _)) | (refine St_step2 ?_ ?_ <;> (intro hb; (try simp only [beq_iff_eq, bne_iff_ne, decide_eq_true_eq, decide_eq_false_iff_not, Bool.not_eq_true', Bool.not_eq_false', beq_eq_false_iff_ne, bne_eq_false_iff_eq, ne_eq, Int.not_lt, Int.not_le, gt_iff_lt, ge_iff_le] at hb); (try (first | exact Bool.noConfusion hb | exact absurd trivial hb | (exfalso; omega))))) | fail); (apply Sa_done (R := []); kernel_rfl; refine .inl ?_; kernel_rfl)) | (apply St_regionQ; kernel_rfl; kernel_rfl) | (apply St_call (hf := hp); exact rfl; exact rfl; exact Split.auto; rintro _ _ ⟨rfl, rfl⟩) | (apply St_store1e tb; exact rfl; exact rfl; exact rfl; exact rfl; exact rfl; exact Has.auto; exact s1; exact n1) | (apply St_store1e tb; exact rfl; exact rfl; exact rfl; exact rfl; exact rfl; exact Has.auto; exact s2; exact n2) | (apply St_rd; exact rfl; (first | (apply Rd_indexAddrA tb; exact rfl; exact rfl; exact rfl; exact rfl; exact hix) | (apply Rd_loadn tb; exact rfl; exact rfl; exact rfl; exact Has.auto; exact h19) | (apply Rd_loadn tb; exact rfl; exact rfl; exact rfl; exact Has.auto; exact h18) | (apply Rd_loadn tb; exact rfl; exact rfl; exact rfl; exact Has.auto; exact hx) | (apply Rd_loadn tb; exact rfl; exact rfl; exact rfl; exact Has.auto; exact g19) | (apply Rd_pred; exact rfl; exact rfl; omega))) | (apply Sq_rd; exact rfl; (first | (apply Rd_indexAddrA tb; exact rfl; exact rfl; exact rfl; exact rfl; exact hix) | (apply Rd_loadn tb; exact rfl; exact rfl; exact rfl; exact Has.auto; exact h19) | (apply Rd_loadn tb; exact rfl; exact rfl; exact rfl; exact Has.auto; exact h18) | (apply Rd_loadn tb; exact rfl; exact rfl; exact rfl; exact Has.auto; exact hx) | (apply Rd_loadn tb; exact rfl; exact rfl; exact rfl; exact Has.auto; exact g19) | (apply Rd_pred; exact rfl; exact rfl; omega))) | (refine St_step ?_; (try with_reducible intro _)) | (refine St_step2 ?_ ?_ <;> (intro hb; (try simp only [beq_iff_eq, bne_iff_ne, decide_eq_true_eq, decide_eq_false_iff_not, Bool.not_eq_true', Bool.not_eq_false', beq_eq_false_iff_ne, bne_eq_false_iff_eq, ne_eq, Int.not_lt, Int.not_le, gt_iff_lt, ge_iff_le] at hb); (try (first | exact Bool.noConfusion hb | exact absurd trivial hb | (exfalso; omega))))) | fail)
    all_goals first | (exfalso; omega) | skip
    refine St_rcMk (r := ⟨room, acked, q⟩) hpop (by exact Has.auto) ?_
    exact St_ret2 (.inl rfl) rfl rfl rfl ⟨rfl, rfl⟩ (by exact Split.auto)
end Go.Proofs.YtfjnacakpeommaaDoor
