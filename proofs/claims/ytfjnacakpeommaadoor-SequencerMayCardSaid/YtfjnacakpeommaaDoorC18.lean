/- Contracts: package link. -/
import Derived.Test.YtfjnacakpeommaaDoorC17
namespace Go.Proofs.YtfjnacakpeommaaDoor
open Go SL Pl
set_option autoImplicit false
set_option maxRecDepth 100000
set_option linter.unusedSimpArgs false
set_option linter.unusedVariables false
attribute [local irreducible] St Sq Exec QExec wpList wpQuiet Code.wp Exit.then Exit.inBlock bodyPost At Rd wpOp Wa QK GB
structure sdOk (s : Sd) : Prop where
  w1 : 1 ≤ s.win
  w : s.win ≤ 16
  l : s.ps.length ≤ s.win
  m : s.last ≤ 1125899906842624
  t : s.acked + s.ps.length ≤ s.last
structure rcOk (r : Rc) : Prop where
  r1 : 1 ≤ r.room
  rr : r.room ≤ 16
  q : r.q.length ≤ r.room
  a : r.acked ≤ 1125899906842624
structure lkOk (k : Lk) : Prop where
  sd : sdOk k.sd
  rc : rcOk k.rc
  ep : k.ep ≤ 1099511627776
theorem clampN_bd (w lo hi : Int) (h : lo ≤ hi) : lo ≤ clampN w lo hi ∧ clampN w lo hi ≤ hi := by
  unfold clampN; (repeat' split) <;> omega
theorem sdOk_new (w l : Int) : sdOk (sdNew w l) := by
  have h1 := clampN_bd w 1 16 (by decide)
  have h2 := clampN_bd l 0 1125899906842624 (by decide)
  unfold sdNew
  exact ⟨by show 1 ≤ (clampN w 1 16).toNat; omega, by show (clampN w 1 16).toNat ≤ 16; omega, Nat.zero_le _, by show (clampN l 0 1125899906842624).toNat ≤ _; omega, Nat.zero_le _⟩
theorem rcOk_new (w : Int) : rcOk (rcNew w) := by
  have h1 := clampN_bd w 1 16 (by decide)
  unfold rcNew
  exact ⟨by show 1 ≤ (clampN w 1 16).toNat; omega, by show (clampN w 1 16).toNat ≤ 16; omega, Nat.zero_le _, Nat.zero_le _⟩
theorem lkOk_new (e w r : Int) (p : Bool) : lkOk (lkNew e w r p) := by
  have h1 := clampN_bd e 0 1099511627776 (by decide)
  exact ⟨sdOk_new _ _, rcOk_new _, by show (clampN e 0 1099511627776).toNat ≤ _; omega⟩
theorem sdOk_offer {s : Sd} (h : sdOk s) (d : List UInt8) : sdOk (sdOffer s d).1 := by
  unfold sdOffer
  split
  · exact h
  · split
    · exact h
    · rename_i h1 h2
      exact ⟨h.w1, h.w, by simp; omega, h.m, by simp; omega⟩
theorem sdGone_le (s : Sd) (n : Int) : sdGone s n ≤ s.ps.length := by unfold sdGone; split <;> omega
theorem sdOk_ack {s : Sd} (h : sdOk s) (n : Int) : sdOk (sdAck s n) := by
  have hg := sdGone_le s n
  have h1 := h.l
  have h2 := h.t
  exact ⟨h.w1, h.w, by simp [sdAck]; omega, h.m, by simp [sdAck]; omega⟩
theorem rcOk_hear {r : Rc} (h : rcOk r) {seq : Int} (hs : seq ≤ 1125899906842624) (d : List UInt8) : rcOk (rcHear r seq d) := by
  unfold rcHear
  split
  · exact h
  · rename_i h1
    exact ⟨h.r1, h.rr, by simp; omega, by show r.acked + 1 ≤ _; omega⟩
theorem rcOk_pop {r : Rc} (h : rcOk r) : rcOk (rcPop r) := ⟨h.r1, h.rr, by have := h.q; simp [rcPop]; omega, h.a⟩
theorem lkOk_hear {k : Lk} (h : lkOk k) {f : Fr} (hf : frIn f) : lkOk (lkHear k f) := by
  obtain ⟨_, ⟨h3, h4⟩, _⟩ := hf
  unfold lkHear
  split
  · exact h
  · dsimp only
    have h1 : lkOk (if lkAnew k f = true then lkFresh k f.ep else k) := by
      split
      · exact lkOk_new f.ep k.win k.room k.pas
      · exact h
    generalize (if lkAnew k f = true then lkFresh k f.ep else k) = k1 at *
    refine ⟨sdOk_ack h1.sd _, ?_, h1.ep⟩
    show rcOk (if f.seq = 0 then k1.rc else rcHear k1.rc f.seq f.data)
    split
    · exact h1.rc
    · exact rcOk_hear h1.rc h4 _
/-- A link's chunks. -/
def lkL (b : Nat) (k : Lk) (z : Nat × Nat) : List HP :=
  [cel false b 95 [.pointer (some ⟨z.1, 0, none⟩), .pointer (some ⟨z.2, 0, none⟩), nat .i64 k.ep, .int .i64 k.win, .int .i64 k.room, .bool k.pas], SdP z.1 k.sd, RcP z.2 k.rc]
def LkP (b : Nat) (k : Lk) : HP := ex fun z => big (lkL b k z)
theorem begin_sp (b : Nat) (e w r : Int) (p : Bool) (v0 v1 v2 : Value) : Sp Tryd.prog 40 [.pointer (some ⟨b, 0, none⟩), .int .i64 e] [cel false b 95 [v0, v1, v2, .int .i64 w, .int .i64 r, .bool p]]
    (fun v M => v = .tuple #[] ∧ M = [LkP b (lkNew e w r p)]) := by
  refine Sp.intro (P := Tryd.prog) (Tryd.func40) rfl Tryd.ntmps40 (by decide) rfl ?_
  intro ρ F
  repeat' (first | (apply St_regionA (14) ([cel false b 95 [v0, v1, .int .i64 (if 1099511627776 < (if 0 > e then 0 else e) then 1099511627776 else (if 0 > e then 0 else e)), .int .i64 w, .int .i64 r, .bool p]]); kernel_rfl; (apply Sa_take 0; exact rfl; kernel_rfl; exact PanicOk.auto; exact rfl; (first | exact Rd_auto)); (apply Sa_take 1; exact rfl; kernel_rfl; exact PanicOk.auto; exact rfl; (first | exact Rd_auto)); (apply Sa_take 2; exact rfl; kernel_rfl; exact PanicOk.auto; exact rfl; (first | exact Rd_auto)); (apply Sa_take 3; exact rfl; kernel_rfl; exact PanicOk.auto; exact rfl; (first | exact Rd_auto)); (apply Sa_take 4; exact rfl; kernel_rfl; exact PanicOk.auto; exact rfl; (first | exact Rd_auto)); (apply Sa_take 6; exact rfl; kernel_rfl; exact PanicOk.auto; exact rfl; (first | exact Rd_auto)); (apply Sa_take 7; exact rfl; kernel_rfl; exact PanicOk.auto; exact rfl; (first | exact Rd_auto)); (apply Sa_take 8; exact rfl; kernel_rfl; exact PanicOk.auto; exact rfl; (first | exact Rd_auto)); (apply Sa_take 9; exact rfl; kernel_rfl; exact PanicOk.auto; exact rfl; (first | exact Rd_auto)); (apply Sa_one (i := 5); kernel_rfl; exact .inr (by exact Split.auto)); (apply Sa_op; exact rfl; exact rfl); (first | (apply St_call (hf := sdNew_sp w 1125899906842624); exact rfl; exact rfl; exact Split.auto; rintro _ _ ⟨b1, rfl, rfl⟩) | (apply St_call (hf := rcNew_sp r); exact rfl; exact rfl; exact Split.auto; rintro _ _ ⟨b2, rfl, rfl⟩) | (apply St_storeVe tb; exact rfl; exact rfl; exact rfl; exact rfl; exact rfl; exact Has.auto; exact rfl; exact rfl) | (refine St_step ?_; (try with_reducible intro _)) | (refine St_step2 ?_ ?_ <;> (intro hb; (try simp only [beq_iff_eq, bne_iff_ne, decide_eq_true_eq, decide_eq_false_iff_not, Bool.not_eq_true', Bool.not_eq_false', beq_eq_false_iff_ne, bne_eq_false_iff_eq, ne_eq, Int.not_lt, Int.not_le, gt_iff_lt, ge_iff_le] at hb); (try (first | exact Bool.noConfusion hb | exact absurd trivial hb | (exfalso; omega))))) | fail); (apply Sa_one (i := 10); kernel_rfl; exact .inr (by exact Split.auto)); (apply Sa_op; exact rfl; exact rfl); (first | (apply St_call (hf := sdNew_sp w 1125899906842624); exact rfl; exact rfl; exact Split.auto; rintro _ _ ⟨b1, rfl, rfl⟩) | (apply St_call (hf := rcNew_sp r); exact rfl; exact rfl; exact Split.auto; rintro _ _ ⟨b2, rfl, rfl⟩) | (apply St_storeVe tb; exact rfl; exact rfl; exact rfl; exact rfl; exact rfl; exact Has.auto; exact rfl; exact rfl) | (refine St_step ?_; (try with_reducible intro _)) | (refine St_step2 ?_ ?_ <;> (intro hb; (try simp only [beq_iff_eq, bne_iff_ne, decide_eq_true_eq, decide_eq_false_iff_not, Bool.not_eq_true', Bool.not_eq_false', beq_eq_false_iff_ne, bne_eq_false_iff_eq, ne_eq, Int.not_lt, Int.not_le, gt_iff_lt, ge_iff_le] at hb); (try (first | exact Bool.noConfusion hb | exact absurd trivial hb | (exfalso; omega))))) | fail); (apply Sa_take 11; exact rfl; kernel_rfl; exact PanicOk.auto; exact rfl; (first | exact Rd_auto)); (apply Sa_take 12; exact rfl; kernel_rfl; exact PanicOk.auto; exact rfl; (first | exact Rd_auto)); (apply Sa_take 13; exact rfl; kernel_rfl; exact PanicOk.auto; exact rfl; (first | exact Rd_auto)); (apply Sa_one (i := 14); kernel_rfl; exact .inr (by exact Split.auto)); (apply Sa_op; exact rfl; exact rfl); (first | (apply St_call (hf := sdNew_sp w 1125899906842624); exact rfl; exact rfl; exact Split.auto; rintro _ _ ⟨b1, rfl, rfl⟩) | (apply St_call (hf := rcNew_sp r); exact rfl; exact rfl; exact Split.auto; rintro _ _ ⟨b2, rfl, rfl⟩) | (apply St_storeVe tb; exact rfl; exact rfl; exact rfl; exact rfl; exact rfl; exact Has.auto; exact rfl; exact rfl) | (refine St_step ?_; (try with_reducible intro _)) | (refine St_step2 ?_ ?_ <;> (intro hb; (try simp only [beq_iff_eq, bne_iff_ne, decide_eq_true_eq, decide_eq_false_iff_not, Bool.not_eq_true', Bool.not_eq_false', beq_eq_false_iff_ne, bne_eq_false_iff_eq, ne_eq, Int.not_lt, Int.not_le, gt_iff_lt, ge_iff_le] at hb); (try (first | exact Bool.noConfusion hb | exact absurd trivial hb | (exfalso; omega))))) | fail); (apply Sa_done (R := []); kernel_rfl; refine .inl ?_; kernel_rfl)) | (refine St_step ?_; (try with_reducible intro _)) | (refine St_step2 ?_ ?_ <;> (intro hb; (try simp only [beq_iff_eq, bne_iff_ne, decide_eq_true_eq, decide_eq_false_iff_not, Bool.not_eq_true', Bool.not_eq_false', beq_eq_false_iff_ne, bne_eq_false_iff_eq, ne_eq, Int.not_lt, Int.not_le, gt_iff_lt, ge_iff_le] at hb); (try (first | exact Bool.noConfusion hb | exact absurd trivial hb | (exfalso; omega))))) | fail)
  refine St_cel (r := false) (b := b) (cs' := [.pointer (some ⟨b1, 0, none⟩), .pointer (some ⟨b2, 0, none⟩), nat .i64 (lkNew e w r p).ep, .int .i64 w, .int .i64 r, .bool p]) (by exact Has.auto) ?_ ?_
  · rw [clamp_val (by decide), clamp_nat (w := e) (lo := 0) (hi := 1099511627776) (by decide) (by decide)]
    rfl
  refine St_exMk (l := lkL b (lkNew e w r p)) (b1, b2) (by exact Split.auto) ?_
  exact St_ret0 (.inr rfl) rfl ⟨rfl, rfl⟩ (by exact Split.auto)
theorem lkNew_sp (e w r : Int) (p : Bool) : Sp Tryd.prog 15 [.int .i64 e, .int .i64 w, .int .i64 r, .bool p] [] (fun v M => ∃ b, v = .pointer (some ⟨b, 0, none⟩) ∧ M = [LkP b (lkNew e w r p)]) := by
  refine Sp.intro (P := Tryd.prog) (Tryd.func15) rfl Tryd.ntmps15 (by decide) rfl ?_
  intro ρ F
  repeat' (first | (apply St_call (hf := begin_sp _ e w r p _ _ _); exact rfl; exact rfl; exact Split.auto; rintro _ _ ⟨rfl, rfl⟩) | (refine St_step ?_; (try with_reducible intro _)) | (refine St_step2 ?_ ?_ <;> (intro hb; (try simp only [beq_iff_eq, bne_iff_ne, decide_eq_true_eq, decide_eq_false_iff_not, Bool.not_eq_true', Bool.not_eq_false', beq_eq_false_iff_ne, bne_eq_false_iff_eq, ne_eq, Int.not_lt, Int.not_le, gt_iff_lt, ge_iff_le] at hb); (try (first | exact Bool.noConfusion hb | exact absurd trivial hb | (exfalso; omega))))) | fail)
  exact St_ret1 (.inl rfl) rfl rfl ⟨_, rfl, rfl⟩ (by exact Split.auto)
theorem lkEpoch_sp (b : Nat) (k : Lk) : Sp Tryd.prog 23 [.pointer (some ⟨b, 0, none⟩)] [LkP b k] (fun v M => v = nat .i64 k.ep ∧ M = [LkP b k]) := by
  refine Sp.intro (P := Tryd.prog) (Tryd.func23) rfl Tryd.ntmps23 (by decide) rfl ?_
  intro ρ F
  refine St_exOpen (l := lkL b k) (by exact Has.auto) fun z => ?_
  repeat' (first | (refine St_step ?_; (try with_reducible intro _)) | (refine St_step2 ?_ ?_ <;> (intro hb; (try simp only [beq_iff_eq, bne_iff_ne, decide_eq_true_eq, decide_eq_false_iff_not, Bool.not_eq_true', Bool.not_eq_false', beq_eq_false_iff_ne, bne_eq_false_iff_eq, ne_eq, Int.not_lt, Int.not_le, gt_iff_lt, ge_iff_le] at hb); (try (first | exact Bool.noConfusion hb | exact absurd trivial hb | (exfalso; omega))))) | fail)
  refine St_exMk (l := lkL b k) z (by exact Split.auto) ?_
  exact St_ret1 (.inl rfl) rfl rfl ⟨rfl, rfl⟩ (by exact Split.auto)
theorem lkUn_sp (b : Nat) (k : Lk) : Sp Tryd.prog 39 [.pointer (some ⟨b, 0, none⟩)] [LkP b k] (fun v M => v = nat .i64 k.sd.ps.length ∧ M = [LkP b k]) := by
  refine Sp.intro (P := Tryd.prog) (Tryd.func39) rfl Tryd.ntmps39 (by decide) rfl ?_
  intro ρ F
  refine St_exOpen (l := lkL b k) (by exact Has.auto) fun z => ?_
  repeat' (first | (apply St_call (hf := sdUn_sp z.1 k.sd); exact rfl; exact rfl; exact Split.auto; rintro _ _ ⟨rfl, rfl⟩) | (refine St_step ?_; (try with_reducible intro _)) | (refine St_step2 ?_ ?_ <;> (intro hb; (try simp only [beq_iff_eq, bne_iff_ne, decide_eq_true_eq, decide_eq_false_iff_not, Bool.not_eq_true', Bool.not_eq_false', beq_eq_false_iff_ne, bne_eq_false_iff_eq, ne_eq, Int.not_lt, Int.not_le, gt_iff_lt, ge_iff_le] at hb); (try (first | exact Bool.noConfusion hb | exact absurd trivial hb | (exfalso; omega))))) | fail)
  refine St_exMk (l := lkL b k) z (by exact Split.auto) ?_
  exact St_ret1 (.inl rfl) rfl rfl ⟨rfl, rfl⟩ (by exact Split.auto)
def lkPop (k : Lk) : Lk := ⟨k.sd, rcPop k.rc, k.ep, k.win, k.room, k.pas⟩
theorem lkPop_sp (b : Nat) (k : Lk) : Sp Tryd.prog 26 [.pointer (some ⟨b, 0, none⟩)] [LkP b k]
    (fun v M => v = .tuple [str (k.rc.q.headD []), .bool (!k.rc.q.isEmpty)].toArray ∧ M = [LkP b (lkPop k)]) := by
  refine Sp.intro (P := Tryd.prog) (Tryd.func26) rfl Tryd.ntmps26 (by decide) rfl ?_
  intro ρ F
  refine St_exOpen (l := lkL b k) (by exact Has.auto) fun z => ?_
  repeat' (first | (apply St_call (hf := rcPop_sp z.2 k.rc); exact rfl; exact rfl; exact Split.auto; rintro _ _ ⟨rfl, rfl⟩) | (refine St_step ?_; (try with_reducible intro _)) | (refine St_step2 ?_ ?_ <;> (intro hb; (try simp only [beq_iff_eq, bne_iff_ne, decide_eq_true_eq, decide_eq_false_iff_not, Bool.not_eq_true', Bool.not_eq_false', beq_eq_false_iff_ne, bne_eq_false_iff_eq, ne_eq, Int.not_lt, Int.not_le, gt_iff_lt, ge_iff_le] at hb); (try (first | exact Bool.noConfusion hb | exact absurd trivial hb | (exfalso; omega))))) | fail)
  refine St_exMk (l := lkL b (lkPop k)) z (by exact Split.auto) ?_
  exact St_ret2 (.inl rfl) rfl rfl rfl ⟨rfl, rfl⟩ (by exact Split.auto)
def lkOffer (k : Lk) (d : List UInt8) : Lk := ⟨(sdOffer k.sd d).1, k.rc, k.ep, k.win, k.room, k.pas⟩
theorem lkOffer_sp (b : Nat) (k : Lk) (d : List UInt8) (hk : lkOk k) : Sp Tryd.prog 57 [.pointer (some ⟨b, 0, none⟩), str d] [LkP b k]
    (fun v M => v = nat .i64 (sdOffer k.sd d).2 ∧ M = [LkP b (lkOffer k d)]) := by
  refine Sp.intro (P := Tryd.prog) (Tryd.func57) rfl Tryd.ntmps57 (by decide) rfl ?_
  intro ρ F
  refine St_exOpen (l := lkL b k) (by exact Has.auto) fun z => ?_
  have h1 := hk.sd.m
  have h2 := hk.sd.t
  repeat' (first | (apply St_call (hf := sdOffer_sp z.1 k.sd d hk.sd.l hk.sd.w (by omega) hk.sd.m hk.sd.t); exact rfl; exact rfl; exact Split.auto; rintro _ _ ⟨rfl, rfl⟩) | (refine St_step ?_; (try with_reducible intro _)) | (refine St_step2 ?_ ?_ <;> (intro hb; (try simp only [beq_iff_eq, bne_iff_ne, decide_eq_true_eq, decide_eq_false_iff_not, Bool.not_eq_true', Bool.not_eq_false', beq_eq_false_iff_ne, bne_eq_false_iff_eq, ne_eq, Int.not_lt, Int.not_le, gt_iff_lt, ge_iff_le] at hb); (try (first | exact Bool.noConfusion hb | exact absurd trivial hb | (exfalso; omega))))) | fail)
  refine St_exMk (l := lkL b (lkOffer k d)) z (by exact Split.auto) ?_
  exact St_ret1 (.inl rfl) rfl rfl ⟨rfl, rfl⟩ (by exact Split.auto)
theorem lkHear_stay {k : Lk} {f : Fr} (h : f.ep < k.ep ∨ ((k.ep : Int) < f.ep ∧ k.pas = false)) : lkHear k f = k := if_pos h
theorem lkHear_go {k : Lk} {f : Fr} (h : ¬ (f.ep < k.ep ∨ ((k.ep : Int) < f.ep ∧ k.pas = false))) : lkHear k f =
    ⟨sdAck (if lkAnew k f then lkFresh k f.ep else k).sd f.ack, if f.seq = 0 then (if lkAnew k f then lkFresh k f.ep else k).rc else rcHear (if lkAnew k f then lkFresh k f.ep else k).rc f.seq f.data, (if lkAnew k f then lkFresh k f.ep else k).ep, (if lkAnew k f then lkFresh k f.ep else k).win, (if lkAnew k f then lkFresh k f.ep else k).room, (if lkAnew k f then lkFresh k f.ep else k).pas⟩ := if_neg h
theorem sdAck_ps (s : Sd) (n : Int) : (sdAck s n).ps.length ≤ s.ps.length := by simp [sdAck]
set_option maxHeartbeats 1000000 in
theorem lkHear_sp (b : Nat) (k : Lk) (f : Fr) (hk : lkOk k) : Sp Tryd.prog 24 [.pointer (some ⟨b, 0, none⟩), .agg (fv f).toArray] [LkP b k]
    (fun v M => v = .bool (lkAnew k f) ∧ M = [LkP b (lkHear k f)]) := by
  refine Sp.intro (P := Tryd.prog) (Tryd.func24) rfl Tryd.ntmps24 (by decide) rfl ?_
  intro ρ F
  have hmv : ∀ (k1 : Lk), lkOk k1 → k1.sd.ps.length ≤ 1000000 ∧ k1.sd.acked ≤ 1000000000000000000 ∧ k1.rc.room ≤ 16 ∧ k1.rc.acked ≤ 1000000000000000000 ∧ k1.rc.q.length ≤ k1.rc.room := fun k1 h => by
    have a1 := h.sd.l; have a2 := h.sd.w; have a3 := h.sd.m; have a4 := h.sd.t; have a5 := h.rc.rr; have a6 := h.rc.a; have a7 := h.rc.q
    omega
  by_cases hst : f.ep < k.ep ∨ ((k.ep : Int) < f.ep ∧ k.pas = false)
  · rw [lkHear_stay hst]
    have ha : lkAnew k f = false := by
      unfold lkAnew
      rcases hst with h | ⟨h, h2⟩
      · have : ¬ (k.ep : Int) < f.ep := by omega
        simp [this]
      · simp [h2]
    rw [ha]
    refine St_exOpen (l := lkL b k) (by exact Has.auto) fun z => ?_
    rcases hst with h | ⟨h, h2⟩
    · repeat' (first | (apply St_regionQ; kernel_rfl; kernel_rfl) | (refine St_step ?_; (try with_reducible intro _)) | (refine St_step2 ?_ ?_ <;> (intro hb; (try simp only [beq_iff_eq, bne_iff_ne, decide_eq_true_eq, decide_eq_false_iff_not, Bool.not_eq_true', Bool.not_eq_false', beq_eq_false_iff_ne, bne_eq_false_iff_eq, ne_eq, Int.not_lt, Int.not_le, gt_iff_lt, ge_iff_le] at hb); (try (first | exact Bool.noConfusion hb | exact absurd trivial hb | (exfalso; omega))))) | fail)
      all_goals first | (exfalso; omega) | skip
      all_goals refine St_exMk (l := lkL b k) z (by exact Split.auto) ?_
      all_goals exact St_ret1 (.inl rfl) rfl rfl ⟨by first | rfl | rw [decide_eq_true (by omega)] | rw [decide_eq_false (by omega)], rfl⟩ (by exact Split.auto)
    · refine St_cel (r := false) (b := b) (cs' := [.pointer (some ⟨z.1, 0, none⟩), .pointer (some ⟨z.2, 0, none⟩), nat .i64 k.ep, .int .i64 k.win, .int .i64 k.room, .bool false]) (by exact Has.auto) (by rw [h2]) ?_
      repeat' (first | (apply St_regionQ; kernel_rfl; kernel_rfl) | (refine St_step ?_; (try with_reducible intro _)) | (refine St_step2 ?_ ?_ <;> (intro hb; (try simp only [beq_iff_eq, bne_iff_ne, decide_eq_true_eq, decide_eq_false_iff_not, Bool.not_eq_true', Bool.not_eq_false', beq_eq_false_iff_ne, bne_eq_false_iff_eq, ne_eq, Int.not_lt, Int.not_le, gt_iff_lt, ge_iff_le] at hb); (try (first | exact Bool.noConfusion hb | exact absurd trivial hb | (exfalso; omega))))) | fail)
      all_goals first | (exfalso; omega) | skip
      all_goals refine St_cel (r := false) (b := b) (cs' := [.pointer (some ⟨z.1, 0, none⟩), .pointer (some ⟨z.2, 0, none⟩), nat .i64 k.ep, .int .i64 k.win, .int .i64 k.room, .bool k.pas]) (by exact Has.auto) (by rw [h2]) ?_
      all_goals refine St_exMk (l := lkL b k) z (by exact Split.auto) ?_
      all_goals exact St_ret1 (.inl rfl) rfl rfl ⟨by first | rfl | rw [decide_eq_true (by omega)] | rw [decide_eq_false (by omega)], rfl⟩ (by exact Split.auto)
  rw [lkHear_go hst]
  obtain ⟨m1, m2, m3, m4, m5⟩ := hmv (if lkAnew k f then lkFresh k f.ep else k) (by
    split
    · exact lkOk_new f.ep k.win k.room k.pas
    · exact hk)
  by_cases hgt : (k.ep : Int) < f.ep
  · have hp : k.pas = true := by
      cases h : k.pas with
      | true => rfl
      | false => exact absurd (.inr ⟨hgt, h⟩) hst
    have ha : lkAnew k f = true := by unfold lkAnew; rw [hp, decide_eq_true hgt]; rfl
    rw [ha] at m1 m2 m3 m4 m5 ⊢
    simp only [if_true] at m1 m2 m3 m4 m5 ⊢
    refine St_exOpen (l := lkL b k) (by exact Has.auto) fun z => ?_
    refine St_cel (r := false) (b := b) (cs' := [.pointer (some ⟨z.1, 0, none⟩), .pointer (some ⟨z.2, 0, none⟩), nat .i64 k.ep, .int .i64 k.win, .int .i64 k.room, .bool true]) (by exact Has.auto) (by rw [hp]) ?_
    have hbg := begin_sp b f.ep k.win k.room true (.pointer (some ⟨z.1, 0, none⟩)) (.pointer (some ⟨z.2, 0, none⟩)) (nat .i64 k.ep)
    have hfr : lkNew f.ep k.win k.room true = lkFresh k f.ep := by unfold lkFresh; rw [hp]; rfl
    rw [hfr] at hbg
    generalize lkFresh k f.ep = k1 at *
    by_cases hseq : f.seq = 0
    · rw [if_pos hseq]
      repeat (refine St_step ?_; (try with_reducible intro fb))
      repeat' (first | (apply St_call (hf := hbg); exact rfl; exact rfl; exact Split.auto; rintro _ _ ⟨rfl, rfl⟩; refine St_exOpen (l := lkL b k1) (by exact Has.auto) fun z' => ?_) | (apply St_regionA (7) ([cel false b 95 [.pointer (some ⟨z'.1, 0, none⟩), .pointer (some ⟨z'.2, 0, none⟩), nat .i64 k1.ep, .int .i64 k1.win, .int .i64 k1.room, .bool k1.pas], cel false fb 42 (fv f)]); kernel_rfl; (apply Sa_take 0; exact rfl; kernel_rfl; exact PanicOk.auto; exact rfl; (first | exact Rd_auto)); (apply Sa_take 1; exact rfl; kernel_rfl; exact PanicOk.auto; exact rfl; (first | exact Rd_auto)); (apply Sa_take 2; exact rfl; kernel_rfl; exact PanicOk.auto; exact rfl; (first | exact Rd_auto)); (apply Sa_take 3; exact rfl; kernel_rfl; exact PanicOk.auto; exact rfl; (first | exact Rd_auto)); (apply Sa_take 4; exact rfl; kernel_rfl; exact PanicOk.auto; exact rfl; (first | exact Rd_auto)); (apply Sa_take 5; exact rfl; kernel_rfl; exact PanicOk.auto; exact rfl; (first | exact Rd_auto)); (apply Sa_take 6; exact rfl; kernel_rfl; exact PanicOk.auto; exact rfl; (first | exact Rd_auto)); (apply Sa_one (i := 7); kernel_rfl; exact .inr (by exact Split.auto)); (apply Sa_op; exact rfl; exact rfl); (first | (apply St_call (hf := sdAck_sp z'.1 k1.sd f.ack m1 m2); exact rfl; exact rfl; exact Split.auto; rintro _ _ ⟨rfl, rfl⟩) | (refine St_step ?_; (try with_reducible intro _)) | (refine St_step2 ?_ ?_ <;> (intro hb; (try simp only [beq_iff_eq, bne_iff_ne, decide_eq_true_eq, decide_eq_false_iff_not, Bool.not_eq_true', Bool.not_eq_false', beq_eq_false_iff_ne, bne_eq_false_iff_eq, ne_eq, Int.not_lt, Int.not_le, gt_iff_lt, ge_iff_le] at hb); (try (first | exact Bool.noConfusion hb | exact absurd trivial hb | (exfalso; omega))))) | fail); (apply Sa_done (R := []); kernel_rfl; refine .inl ?_; kernel_rfl)) | (apply St_regionA (9) ([cel false b 95 [.pointer (some ⟨z'.1, 0, none⟩), .pointer (some ⟨z'.2, 0, none⟩), nat .i64 k1.ep, .int .i64 k1.win, .int .i64 k1.room, .bool k1.pas], cel false fb 42 (fv f)]); kernel_rfl; (apply Sa_take 0; exact rfl; kernel_rfl; exact PanicOk.auto; exact rfl; (first | exact Rd_auto)); (apply Sa_take 1; exact rfl; kernel_rfl; exact PanicOk.auto; exact rfl; (first | exact Rd_auto)); (apply Sa_take 2; exact rfl; kernel_rfl; exact PanicOk.auto; exact rfl; (first | exact Rd_auto)); (apply Sa_take 3; exact rfl; kernel_rfl; exact PanicOk.auto; exact rfl; (first | exact Rd_auto)); (apply Sa_take 4; exact rfl; kernel_rfl; exact PanicOk.auto; exact rfl; (first | exact Rd_auto)); (apply Sa_take 5; exact rfl; kernel_rfl; exact PanicOk.auto; exact rfl; (first | exact Rd_auto)); (apply Sa_take 6; exact rfl; kernel_rfl; exact PanicOk.auto; exact rfl; (first | exact Rd_auto)); (apply Sa_take 7; exact rfl; kernel_rfl; exact PanicOk.auto; exact rfl; (first | exact Rd_auto)); (apply Sa_take 8; exact rfl; kernel_rfl; exact PanicOk.auto; exact rfl; (first | exact Rd_auto)); (apply Sa_one (i := 9); kernel_rfl; exact .inr (by exact Split.auto)); (apply Sa_op; exact rfl; exact rfl); (first | (apply St_call (hf := rcHear_sp z'.2 k1.rc f.seq f.data m3 m4 m5); exact rfl; exact rfl; exact Split.auto; rintro _ _ ⟨rfl, rfl⟩) | (refine St_step ?_; (try with_reducible intro _)) | (refine St_step2 ?_ ?_ <;> (intro hb; (try simp only [beq_iff_eq, bne_iff_ne, decide_eq_true_eq, decide_eq_false_iff_not, Bool.not_eq_true', Bool.not_eq_false', beq_eq_false_iff_ne, bne_eq_false_iff_eq, ne_eq, Int.not_lt, Int.not_le, gt_iff_lt, ge_iff_le] at hb); (try (first | exact Bool.noConfusion hb | exact absurd trivial hb | (exfalso; omega))))) | fail); (apply Sa_done (R := []); kernel_rfl; refine .inl ?_; kernel_rfl)) | (apply St_regionQ; kernel_rfl; kernel_rfl) | (refine St_step ?_; (try with_reducible intro _)) | (refine St_step2 ?_ ?_ <;> (intro hb; (try simp only [beq_iff_eq, bne_iff_ne, decide_eq_true_eq, decide_eq_false_iff_not, Bool.not_eq_true', Bool.not_eq_false', beq_eq_false_iff_ne, bne_eq_false_iff_eq, ne_eq, Int.not_lt, Int.not_le, gt_iff_lt, ge_iff_le] at hb); (try (first | exact Bool.noConfusion hb | exact absurd trivial hb | (exfalso; omega))))) | fail)
      all_goals first | (exfalso; omega) | skip
      all_goals refine St_exMk (l := lkL b ⟨sdAck k1.sd f.ack, k1.rc, k1.ep, k1.win, k1.room, k1.pas⟩) z' (by exact Split.auto) ?_
      all_goals exact St_ret1 (.inl rfl) rfl rfl ⟨by first | rfl | rw [decide_eq_true (by omega)] | rw [decide_eq_false (by omega)], rfl⟩ (by exact Split.auto)
    · rw [if_neg hseq]
      repeat (refine St_step ?_; (try with_reducible intro fb))
      repeat' (first | (apply St_call (hf := hbg); exact rfl; exact rfl; exact Split.auto; rintro _ _ ⟨rfl, rfl⟩; refine St_exOpen (l := lkL b k1) (by exact Has.auto) fun z' => ?_) | (apply St_regionA (7) ([cel false b 95 [.pointer (some ⟨z'.1, 0, none⟩), .pointer (some ⟨z'.2, 0, none⟩), nat .i64 k1.ep, .int .i64 k1.win, .int .i64 k1.room, .bool k1.pas], cel false fb 42 (fv f)]); kernel_rfl; (apply Sa_take 0; exact rfl; kernel_rfl; exact PanicOk.auto; exact rfl; (first | exact Rd_auto)); (apply Sa_take 1; exact rfl; kernel_rfl; exact PanicOk.auto; exact rfl; (first | exact Rd_auto)); (apply Sa_take 2; exact rfl; kernel_rfl; exact PanicOk.auto; exact rfl; (first | exact Rd_auto)); (apply Sa_take 3; exact rfl; kernel_rfl; exact PanicOk.auto; exact rfl; (first | exact Rd_auto)); (apply Sa_take 4; exact rfl; kernel_rfl; exact PanicOk.auto; exact rfl; (first | exact Rd_auto)); (apply Sa_take 5; exact rfl; kernel_rfl; exact PanicOk.auto; exact rfl; (first | exact Rd_auto)); (apply Sa_take 6; exact rfl; kernel_rfl; exact PanicOk.auto; exact rfl; (first | exact Rd_auto)); (apply Sa_one (i := 7); kernel_rfl; exact .inr (by exact Split.auto)); (apply Sa_op; exact rfl; exact rfl); (first | (apply St_call (hf := sdAck_sp z'.1 k1.sd f.ack m1 m2); exact rfl; exact rfl; exact Split.auto; rintro _ _ ⟨rfl, rfl⟩) | (refine St_step ?_; (try with_reducible intro _)) | (refine St_step2 ?_ ?_ <;> (intro hb; (try simp only [beq_iff_eq, bne_iff_ne, decide_eq_true_eq, decide_eq_false_iff_not, Bool.not_eq_true', Bool.not_eq_false', beq_eq_false_iff_ne, bne_eq_false_iff_eq, ne_eq, Int.not_lt, Int.not_le, gt_iff_lt, ge_iff_le] at hb); (try (first | exact Bool.noConfusion hb | exact absurd trivial hb | (exfalso; omega))))) | fail); (apply Sa_done (R := []); kernel_rfl; refine .inl ?_; kernel_rfl)) | (apply St_regionA (9) ([cel false b 95 [.pointer (some ⟨z'.1, 0, none⟩), .pointer (some ⟨z'.2, 0, none⟩), nat .i64 k1.ep, .int .i64 k1.win, .int .i64 k1.room, .bool k1.pas], cel false fb 42 (fv f)]); kernel_rfl; (apply Sa_take 0; exact rfl; kernel_rfl; exact PanicOk.auto; exact rfl; (first | exact Rd_auto)); (apply Sa_take 1; exact rfl; kernel_rfl; exact PanicOk.auto; exact rfl; (first | exact Rd_auto)); (apply Sa_take 2; exact rfl; kernel_rfl; exact PanicOk.auto; exact rfl; (first | exact Rd_auto)); (apply Sa_take 3; exact rfl; kernel_rfl; exact PanicOk.auto; exact rfl; (first | exact Rd_auto)); (apply Sa_take 4; exact rfl; kernel_rfl; exact PanicOk.auto; exact rfl; (first | exact Rd_auto)); (apply Sa_take 5; exact rfl; kernel_rfl; exact PanicOk.auto; exact rfl; (first | exact Rd_auto)); (apply Sa_take 6; exact rfl; kernel_rfl; exact PanicOk.auto; exact rfl; (first | exact Rd_auto)); (apply Sa_take 7; exact rfl; kernel_rfl; exact PanicOk.auto; exact rfl; (first | exact Rd_auto)); (apply Sa_take 8; exact rfl; kernel_rfl; exact PanicOk.auto; exact rfl; (first | exact Rd_auto)); (apply Sa_one (i := 9); kernel_rfl; exact .inr (by exact Split.auto)); (apply Sa_op; exact rfl; exact rfl); (first | (apply St_call (hf := rcHear_sp z'.2 k1.rc f.seq f.data m3 m4 m5); exact rfl; exact rfl; exact Split.auto; rintro _ _ ⟨rfl, rfl⟩) | (refine St_step ?_; (try with_reducible intro _)) | (refine St_step2 ?_ ?_ <;> (intro hb; (try simp only [beq_iff_eq, bne_iff_ne, decide_eq_true_eq, decide_eq_false_iff_not, Bool.not_eq_true', Bool.not_eq_false', beq_eq_false_iff_ne, bne_eq_false_iff_eq, ne_eq, Int.not_lt, Int.not_le, gt_iff_lt, ge_iff_le] at hb); (try (first | exact Bool.noConfusion hb | exact absurd trivial hb | (exfalso; omega))))) | fail); (apply Sa_done (R := []); kernel_rfl; refine .inl ?_; kernel_rfl)) | (apply St_regionQ; kernel_rfl; kernel_rfl) | (refine St_step ?_; (try with_reducible intro _)) | (refine St_step2 ?_ ?_ <;> (intro hb; (try simp only [beq_iff_eq, bne_iff_ne, decide_eq_true_eq, decide_eq_false_iff_not, Bool.not_eq_true', Bool.not_eq_false', beq_eq_false_iff_ne, bne_eq_false_iff_eq, ne_eq, Int.not_lt, Int.not_le, gt_iff_lt, ge_iff_le] at hb); (try (first | exact Bool.noConfusion hb | exact absurd trivial hb | (exfalso; omega))))) | fail)
      all_goals first | (exfalso; omega) | skip
      all_goals refine St_exMk (l := lkL b ⟨sdAck k1.sd f.ack, rcHear k1.rc f.seq f.data, k1.ep, k1.win, k1.room, k1.pas⟩) z' (by exact Split.auto) ?_
      all_goals exact St_ret1 (.inl rfl) rfl rfl ⟨by first | rfl | rw [decide_eq_true (by omega)] | rw [decide_eq_false (by omega)], rfl⟩ (by exact Split.auto)
  · have ha : lkAnew k f = false := by unfold lkAnew; rw [decide_eq_false hgt]; rfl
    have heq : f.ep = k.ep := by
      have : ¬ f.ep < k.ep := fun h => hst (.inl h)
      omega
    rw [ha] at m1 m2 m3 m4 m5 ⊢
    simp only [Bool.false_eq_true, if_false] at m1 m2 m3 m4 m5 ⊢
    refine St_exOpen (l := lkL b k) (by exact Has.auto) fun z => ?_
    by_cases hseq : f.seq = 0
    · rw [if_pos hseq]
      repeat (refine St_step ?_; (try with_reducible intro fb))
      repeat' (first | (apply St_regionA (7) ([cel false b 95 [.pointer (some ⟨z.1, 0, none⟩), .pointer (some ⟨z.2, 0, none⟩), nat .i64 k.ep, .int .i64 k.win, .int .i64 k.room, .bool k.pas], cel false fb 42 (fv f)]); kernel_rfl; (apply Sa_take 0; exact rfl; kernel_rfl; exact PanicOk.auto; exact rfl; (first | exact Rd_auto)); (apply Sa_take 1; exact rfl; kernel_rfl; exact PanicOk.auto; exact rfl; (first | exact Rd_auto)); (apply Sa_take 2; exact rfl; kernel_rfl; exact PanicOk.auto; exact rfl; (first | exact Rd_auto)); (apply Sa_take 3; exact rfl; kernel_rfl; exact PanicOk.auto; exact rfl; (first | exact Rd_auto)); (apply Sa_take 4; exact rfl; kernel_rfl; exact PanicOk.auto; exact rfl; (first | exact Rd_auto)); (apply Sa_take 5; exact rfl; kernel_rfl; exact PanicOk.auto; exact rfl; (first | exact Rd_auto)); (apply Sa_take 6; exact rfl; kernel_rfl; exact PanicOk.auto; exact rfl; (first | exact Rd_auto)); (apply Sa_one (i := 7); kernel_rfl; exact .inr (by exact Split.auto)); (apply Sa_op; exact rfl; exact rfl); (first | (apply St_call (hf := sdAck_sp z.1 k.sd f.ack m1 m2); exact rfl; exact rfl; exact Split.auto; rintro _ _ ⟨rfl, rfl⟩) | (refine St_step ?_; (try with_reducible intro _)) | (refine St_step2 ?_ ?_ <;> (intro hb; (try simp only [beq_iff_eq, bne_iff_ne, decide_eq_true_eq, decide_eq_false_iff_not, Bool.not_eq_true', Bool.not_eq_false', beq_eq_false_iff_ne, bne_eq_false_iff_eq, ne_eq, Int.not_lt, Int.not_le, gt_iff_lt, ge_iff_le] at hb); (try (first | exact Bool.noConfusion hb | exact absurd trivial hb | (exfalso; omega))))) | fail); (apply Sa_done (R := []); kernel_rfl; refine .inl ?_; kernel_rfl)) | (apply St_regionA (9) ([cel false b 95 [.pointer (some ⟨z.1, 0, none⟩), .pointer (some ⟨z.2, 0, none⟩), nat .i64 k.ep, .int .i64 k.win, .int .i64 k.room, .bool k.pas], cel false fb 42 (fv f)]); kernel_rfl; (apply Sa_take 0; exact rfl; kernel_rfl; exact PanicOk.auto; exact rfl; (first | exact Rd_auto)); (apply Sa_take 1; exact rfl; kernel_rfl; exact PanicOk.auto; exact rfl; (first | exact Rd_auto)); (apply Sa_take 2; exact rfl; kernel_rfl; exact PanicOk.auto; exact rfl; (first | exact Rd_auto)); (apply Sa_take 3; exact rfl; kernel_rfl; exact PanicOk.auto; exact rfl; (first | exact Rd_auto)); (apply Sa_take 4; exact rfl; kernel_rfl; exact PanicOk.auto; exact rfl; (first | exact Rd_auto)); (apply Sa_take 5; exact rfl; kernel_rfl; exact PanicOk.auto; exact rfl; (first | exact Rd_auto)); (apply Sa_take 6; exact rfl; kernel_rfl; exact PanicOk.auto; exact rfl; (first | exact Rd_auto)); (apply Sa_take 7; exact rfl; kernel_rfl; exact PanicOk.auto; exact rfl; (first | exact Rd_auto)); (apply Sa_take 8; exact rfl; kernel_rfl; exact PanicOk.auto; exact rfl; (first | exact Rd_auto)); (apply Sa_one (i := 9); kernel_rfl; exact .inr (by exact Split.auto)); (apply Sa_op; exact rfl; exact rfl); (first | (apply St_call (hf := rcHear_sp z.2 k.rc f.seq f.data m3 m4 m5); exact rfl; exact rfl; exact Split.auto; rintro _ _ ⟨rfl, rfl⟩) | (refine St_step ?_; (try with_reducible intro _)) | (refine St_step2 ?_ ?_ <;> (intro hb; (try simp only [beq_iff_eq, bne_iff_ne, decide_eq_true_eq, decide_eq_false_iff_not, Bool.not_eq_true', Bool.not_eq_false', beq_eq_false_iff_ne, bne_eq_false_iff_eq, ne_eq, Int.not_lt, Int.not_le, gt_iff_lt, ge_iff_le] at hb); (try (first | exact Bool.noConfusion hb | exact absurd trivial hb | (exfalso; omega))))) | fail); (apply Sa_done (R := []); kernel_rfl; refine .inl ?_; kernel_rfl)) | (apply St_regionQ; kernel_rfl; kernel_rfl) | (refine St_step ?_; (try with_reducible intro _)) | (refine St_step2 ?_ ?_ <;> (intro hb; (try simp only [beq_iff_eq, bne_iff_ne, decide_eq_true_eq, decide_eq_false_iff_not, Bool.not_eq_true', Bool.not_eq_false', beq_eq_false_iff_ne, bne_eq_false_iff_eq, ne_eq, Int.not_lt, Int.not_le, gt_iff_lt, ge_iff_le] at hb); (try (first | exact Bool.noConfusion hb | exact absurd trivial hb | (exfalso; omega))))) | fail)
      all_goals first | (exfalso; omega) | skip
      all_goals refine St_exMk (l := lkL b ⟨sdAck k.sd f.ack, k.rc, k.ep, k.win, k.room, k.pas⟩) z (by exact Split.auto) ?_
      all_goals exact St_ret1 (.inl rfl) rfl rfl ⟨by first | rfl | rw [decide_eq_true (by omega)] | rw [decide_eq_false (by omega)], rfl⟩ (by exact Split.auto)
    · rw [if_neg hseq]
      repeat (refine St_step ?_; (try with_reducible intro fb))
      repeat' (first | (apply St_regionA (7) ([cel false b 95 [.pointer (some ⟨z.1, 0, none⟩), .pointer (some ⟨z.2, 0, none⟩), nat .i64 k.ep, .int .i64 k.win, .int .i64 k.room, .bool k.pas], cel false fb 42 (fv f)]); kernel_rfl; (apply Sa_take 0; exact rfl; kernel_rfl; exact PanicOk.auto; exact rfl; (first | exact Rd_auto)); (apply Sa_take 1; exact rfl; kernel_rfl; exact PanicOk.auto; exact rfl; (first | exact Rd_auto)); (apply Sa_take 2; exact rfl; kernel_rfl; exact PanicOk.auto; exact rfl; (first | exact Rd_auto)); (apply Sa_take 3; exact rfl; kernel_rfl; exact PanicOk.auto; exact rfl; (first | exact Rd_auto)); (apply Sa_take 4; exact rfl; kernel_rfl; exact PanicOk.auto; exact rfl; (first | exact Rd_auto)); (apply Sa_take 5; exact rfl; kernel_rfl; exact PanicOk.auto; exact rfl; (first | exact Rd_auto)); (apply Sa_take 6; exact rfl; kernel_rfl; exact PanicOk.auto; exact rfl; (first | exact Rd_auto)); (apply Sa_one (i := 7); kernel_rfl; exact .inr (by exact Split.auto)); (apply Sa_op; exact rfl; exact rfl); (first | (apply St_call (hf := sdAck_sp z.1 k.sd f.ack m1 m2); exact rfl; exact rfl; exact Split.auto; rintro _ _ ⟨rfl, rfl⟩) | (refine St_step ?_; (try with_reducible intro _)) | (refine St_step2 ?_ ?_ <;> (intro hb; (try simp only [beq_iff_eq, bne_iff_ne, decide_eq_true_eq, decide_eq_false_iff_not, Bool.not_eq_true', Bool.not_eq_false', beq_eq_false_iff_ne, bne_eq_false_iff_eq, ne_eq, Int.not_lt, Int.not_le, gt_iff_lt, ge_iff_le] at hb); (try (first | exact Bool.noConfusion hb | exact absurd trivial hb | (exfalso; omega))))) | fail); (apply Sa_done (R := []); kernel_rfl; refine .inl ?_; kernel_rfl)) | (apply St_regionA (9) ([cel false b 95 [.pointer (some ⟨z.1, 0, none⟩), .pointer (some ⟨z.2, 0, none⟩), nat .i64 k.ep, .int .i64 k.win, .int .i64 k.room, .bool k.pas], cel false fb 42 (fv f)]); kernel_rfl; (apply Sa_take 0; exact rfl; kernel_rfl; exact PanicOk.auto; exact rfl; (first | exact Rd_auto)); (apply Sa_take 1; exact rfl; kernel_rfl; exact PanicOk.auto; exact rfl; (first | exact Rd_auto)); (apply Sa_take 2; exact rfl; kernel_rfl; exact PanicOk.auto; exact rfl; (first | exact Rd_auto)); (apply Sa_take 3; exact rfl; kernel_rfl; exact PanicOk.auto; exact rfl; (first | exact Rd_auto)); (apply Sa_take 4; exact rfl; kernel_rfl; exact PanicOk.auto; exact rfl; (first | exact Rd_auto)); (apply Sa_take 5; exact rfl; kernel_rfl; exact PanicOk.auto; exact rfl; (first | exact Rd_auto)); (apply Sa_take 6; exact rfl; kernel_rfl; exact PanicOk.auto; exact rfl; (first | exact Rd_auto)); (apply Sa_take 7; exact rfl; kernel_rfl; exact PanicOk.auto; exact rfl; (first | exact Rd_auto)); (apply Sa_take 8; exact rfl; kernel_rfl; exact PanicOk.auto; exact rfl; (first | exact Rd_auto)); (apply Sa_one (i := 9); kernel_rfl; exact .inr (by exact Split.auto)); (apply Sa_op; exact rfl; exact rfl); (first | (apply St_call (hf := rcHear_sp z.2 k.rc f.seq f.data m3 m4 m5); exact rfl; exact rfl; exact Split.auto; rintro _ _ ⟨rfl, rfl⟩) | (refine St_step ?_; (try with_reducible intro _)) | (refine St_step2 ?_ ?_ <;> (intro hb; (try simp only [beq_iff_eq, bne_iff_ne, decide_eq_true_eq, decide_eq_false_iff_not, Bool.not_eq_true', Bool.not_eq_false', beq_eq_false_iff_ne, bne_eq_false_iff_eq, ne_eq, Int.not_lt, Int.not_le, gt_iff_lt, ge_iff_le] at hb); (try (first | exact Bool.noConfusion hb | exact absurd trivial hb | (exfalso; omega))))) | fail); (apply Sa_done (R := []); kernel_rfl; refine .inl ?_; kernel_rfl)) | (apply St_regionQ; kernel_rfl; kernel_rfl) | (refine St_step ?_; (try with_reducible intro _)) | (refine St_step2 ?_ ?_ <;> (intro hb; (try simp only [beq_iff_eq, bne_iff_ne, decide_eq_true_eq, decide_eq_false_iff_not, Bool.not_eq_true', Bool.not_eq_false', beq_eq_false_iff_ne, bne_eq_false_iff_eq, ne_eq, Int.not_lt, Int.not_le, gt_iff_lt, ge_iff_le] at hb); (try (first | exact Bool.noConfusion hb | exact absurd trivial hb | (exfalso; omega))))) | fail)
      all_goals first | (exfalso; omega) | skip
      all_goals refine St_exMk (l := lkL b ⟨sdAck k.sd f.ack, rcHear k.rc f.seq f.data, k.ep, k.win, k.room, k.pas⟩) z (by exact Split.auto) ?_
      all_goals exact St_ret1 (.inl rfl) rfl rfl ⟨by first | rfl | rw [decide_eq_true (by omega)] | rw [decide_eq_false (by omega)], rfl⟩ (by exact Split.auto)
end Go.Proofs.YtfjnacakpeommaaDoor
