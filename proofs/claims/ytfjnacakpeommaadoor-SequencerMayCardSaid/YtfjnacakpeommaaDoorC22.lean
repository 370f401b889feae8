/- Contracts: package feed. -/
import Derived.Test.YtfjnacakpeommaaDoorC21
namespace Go.Proofs.YtfjnacakpeommaaDoor
open Go SL Pl
set_option autoImplicit false
set_option maxRecDepth 100000
set_option linter.unusedSimpArgs false
set_option linter.unusedVariables false
attribute [local irreducible] St Sq Exec QExec wpList wpQuiet Code.wp Exit.then Exit.inBlock bodyPost At Rd wpOp Wa QK GB
abbrev FdP (b i : Nat) : HP := cel false b 98 [nat .i64 i]
theorem fdNew_sp : Sp Tryd.prog 16 [] [] (fun v M => ∃ b, v = .pointer (some ⟨b, 0, none⟩) ∧ M = [FdP b 0]) := by
  refine Sp.intro (P := Tryd.prog) (Tryd.func16) rfl Tryd.ntmps16 (by decide) rfl ?_
  intro ρ F
  repeat' (first | (refine St_step ?_; (try with_reducible intro _)) | (refine St_step2 ?_ ?_ <;> (intro hb; (try simp only [beq_iff_eq, bne_iff_ne, decide_eq_true_eq, decide_eq_false_iff_not, Bool.not_eq_true', Bool.not_eq_false', beq_eq_false_iff_ne, bne_eq_false_iff_eq, ne_eq, Int.not_lt, Int.not_le, gt_iff_lt, ge_iff_le] at hb); (try (first | exact Bool.noConfusion hb | exact absurd trivial hb | (exfalso; omega))))) | fail)
  exact St_ret1 (.inl rfl) rfl rfl ⟨_, rfl, rfl⟩ (by exact Split.auto)
theorem fdAt_sp (b i : Nat) : Sp Tryd.prog 46 [.pointer (some ⟨b, 0, none⟩)] [FdP b i] (fun v M => v = nat .i64 i ∧ M = [FdP b i]) := by
  refine Sp.intro (P := Tryd.prog) (Tryd.func46) rfl Tryd.ntmps46 (by decide) rfl ?_
  intro ρ F
  repeat' (first | (refine St_step ?_; (try with_reducible intro _)) | (refine St_step2 ?_ ?_ <;> (intro hb; (try simp only [beq_iff_eq, bne_iff_ne, decide_eq_true_eq, decide_eq_false_iff_not, Bool.not_eq_true', Bool.not_eq_false', beq_eq_false_iff_ne, bne_eq_false_iff_eq, ne_eq, Int.not_lt, Int.not_le, gt_iff_lt, ge_iff_le] at hb); (try (first | exact Bool.noConfusion hb | exact absurd trivial hb | (exfalso; omega))))) | fail)
  exact St_ret1 (.inl rfl) rfl rfl ⟨rfl, rfl⟩ (by exact Split.auto)
theorem fdReset_sp (b i : Nat) : Sp Tryd.prog 25 [.pointer (some ⟨b, 0, none⟩)] [FdP b i] (fun v M => v = .tuple #[] ∧ M = [FdP b 0]) := by
  refine Sp.intro (P := Tryd.prog) (Tryd.func25) rfl Tryd.ntmps25 (by decide) rfl ?_
  intro ρ F
  repeat' (first | (refine St_step ?_; (try with_reducible intro _)) | (refine St_step2 ?_ ?_ <;> (intro hb; (try simp only [beq_iff_eq, bne_iff_ne, decide_eq_true_eq, decide_eq_false_iff_not, Bool.not_eq_true', Bool.not_eq_false', beq_eq_false_iff_ne, bne_eq_false_iff_eq, ne_eq, Int.not_lt, Int.not_le, gt_iff_lt, ge_iff_le] at hb); (try (first | exact Bool.noConfusion hb | exact absurd trivial hb | (exfalso; omega))))) | fail)
  exact St_ret0 (.inr rfl) rfl ⟨rfl, rfl⟩ (by exact Split.auto)
theorem sdOffer_err {s : Sd} {d : List UInt8} (h : (sdOffer s d).2 ≠ 0) : (sdOffer s d).1 = s := by
  unfold sdOffer at *
  split
  · rfl
  · split
    · rfl
    · rename_i h1 h2; rw [if_neg h1, if_neg h2] at h; exact absurd rfl h
def lkWith (k : Lk) (s : Sd) : Lk := ⟨s, k.rc, k.ep, k.win, k.room, k.pas⟩
theorem lkOk_with {k : Lk} (h : lkOk k) {s : Sd} (hs : sdOk s) : lkOk (lkWith k s) := ⟨hs, h.rc, h.ep⟩
theorem pumpN_ok (l : List Ro) : ∀ (n i : Nat) {s : Sd}, sdOk s → sdOk (pumpN l n i s).2
  | 0, _, _, h => h
  | n + 1, i, s, h => by
    unfold pumpN
    split
    · exact h
    · split
      · exact h
      · exact pumpN_ok l n (i + 1) (sdOk_offer h _)
theorem pumpN_le (l : List Ro) : ∀ (n i : Nat) (s : Sd), i ≤ (pumpN l n i s).1 ∧ (pumpN l n i s).1 ≤ i + n
  | 0, i, _ => ⟨Nat.le_refl _, Nat.le_refl _⟩
  | n + 1, i, s => by
    unfold pumpN
    split
    · exact ⟨Nat.le_refl _, by omega⟩
    · split
      · exact ⟨Nat.le_refl _, by omega⟩
      · rename_i r _ _
        have := pumpN_le l n (i + 1) (sdOffer s (rput r).1).1
        exact ⟨by omega, by omega⟩
theorem Sp.conv {P : Program} {f : FuncId} {vs : List Value} {pre : List HP} {post post' : Value → List HP → Prop} (h : Sp P f vs pre post)
    (hp : ∀ v M, post v M → ∃ M', post' v M' ∧ ∀ (ρ : Rst) (w : World) (F : List HP), Holds ρ w (M ++ F) → Holds ρ w (M' ++ F)) : Sp P f vs pre post' :=
  ⟨h.callable, fun ρ F w H => (h.calls ρ F w H).mono fun _ _ ⟨v, M, e, p, H'⟩ => let ⟨M', p', c⟩ := hp v M p; ⟨v, M', e, p', c _ _ _ H'⟩⟩
/-- What stands at a place of the log, or nothing. -/
def roAt (l : List Ro) (i : Nat) : Ro := (l[i]?).getD ro0
theorem lgAt2_sp (b clients i : Nat) (l : List Ro) (hu : ∀ r ∈ l, r.ups.length ≤ 1000) : Sp Tryd.prog 56 [.pointer (some ⟨b, 0, none⟩), nat .i64 i] [LgP b clients l]
    (fun w M => ∃ v, w = .tuple [.agg (rv (roAt l i) v).toArray, .bool (decide (i < l.length))].toArray ∧ M = [UL true v (roAt l i).ups, LgP b clients l]) := by
  refine Sp.conv (lgAt_sp b clients i l hu) ?_
  rintro w M (⟨r, v, h1, rfl, rfl⟩ | ⟨h1, rfl, rfl⟩)
  · have hi : i < l.length := by
      rcases Nat.lt_or_ge i l.length with h | h
      · exact h
      · rw [List.getElem?_eq_none h] at h1; cases h1
    have e : roAt l i = r := by unfold roAt; rw [h1]; rfl
    refine ⟨_, ⟨v, ?_, rfl⟩, fun ρ w F H => ?_⟩
    · rw [e, decide_eq_true hi]
    · rw [e]; exact H
  · have hi : ¬ i < l.length := fun h => by rw [List.getElem?_eq_getElem h] at h1; cases h1
    have e : roAt l i = ro0 := by unfold roAt; rw [h1]; rfl
    refine ⟨_, ⟨.slice none 0 0, ?_, rfl⟩, fun ρ w F H => ?_⟩
    · rw [e, decide_eq_false hi]
    · rw [e]; exact H.rs_nil
theorem pumpN_stop {l : List Ro} {i : Nat} {s : Sd} (h : ¬ i < l.length) : pumpN l (l.length - i) i s = (i, s) := by
  have : l.length - i = 0 := by omega
  rw [this]; rfl
theorem pumpN_step {l : List Ro} {i : Nat} {s : Sd} (h : i < l.length) : pumpN l (l.length - i) i s = if (sdOffer s (rput (roAt l i)).1).2 ≠ 0 then (i, s) else pumpN l (l.length - (i + 1)) (i + 1) (sdOffer s (rput (roAt l i)).1).1 := by
  obtain ⟨n, hn⟩ : ∃ n, l.length - i = n + 1 := ⟨l.length - i - 1, by omega⟩
  have e : l.length - (i + 1) = n := by omega
  have hr : l[i]? = some (roAt l i) := by unfold roAt; rw [List.getElem?_eq_getElem h]; rfl
  rw [hn, e, pumpN, hr]
structure PumpI (l : List Ro) (at_ : Nat) (T : Nat × Sd) (i : Nat) (s : Sd) (n : Nat) : Prop where
  le : i ≤ l.length
  goes : pumpN l (l.length - i) i s = T
  ok : sdOk s
  cnt : n + at_ = i
set_option maxHeartbeats 2000000 in
theorem pump_sp (b lb kb clients i : Nat) (l : List Ro) (k : Lk) (hk : lkOk k) (hi : i ≤ l.length) (hl : l.length ≤ 1000000) (hu : ∀ r ∈ l, r.ups.length ≤ 1000) :
    Sp Tryd.prog 30 [.pointer (some ⟨b, 0, none⟩), .pointer (some ⟨lb, 0, none⟩), .pointer (some ⟨kb, 0, none⟩)] [FdP b i, LgP lb clients l, LkP kb k, GB]
      (fun w M => (∃ n : Nat, w = nat .i64 n) ∧ M = [FdP b (pump l i k.sd).1, LgP lb clients l, LkP kb (lkWith k (pump l i k.sd).2), GB]) := by
  refine Sp.intro (P := Tryd.prog) (Tryd.func30) rfl Tryd.ntmps30 (by decide) rfl ?_
  intro ρ F
  obtain ⟨T, hT⟩ : ∃ T, T = pump l i k.sd := ⟨_, rfl⟩
  rw [← hT]
  have hA := fun j => lgAt2_sp lb clients j l hu
  have hI : PumpI l i T i k.sd 0 := ⟨hi, hT.symm, hk.sd, by omega⟩
  have hw : LkP kb k = LkP kb (lkWith k k.sd) := rfl
  rw [hw]
  repeat' (first | (apply St_call (hf := hA i); exact rfl; exact rfl; exact Split.auto; rintro _ _ ⟨v, rfl, rfl⟩; refine St_rsIs (r := true) (v := v) (n := (roAt l i).ups.length) (cs := (roAt l i).ups.flatMap uv) (by exact Has.auto) ?_; rintro Au cu rfl) | (refine St_loop (fun (y : Nat × Sd × Nat × Nat × Option Addr × Nat) => PumpI l i T y.1 y.2.1 y.2.2.1) (fun y => [(0, .pointer (some ⟨b, 0, none⟩)), (1, .pointer (some ⟨lb, 0, none⟩)), (2, .pointer (some ⟨kb, 0, none⟩)), (7, nat .i64 y.2.2.1), (8, .pointer (some ⟨y.2.2.2.1, 0, none⟩)), (9, .bool (decide (y.1 < l.length)))]) (fun y => [cel false y.2.2.2.1 62 (rv (roAt l y.1) (.slice y.2.2.2.2.1 (roAt l y.1).ups.length y.2.2.2.2.2)), UL true (.slice y.2.2.2.2.1 (roAt l y.1).ups.length y.2.2.2.2.2) (roAt l y.1).ups, FdP b y.1, LgP lb clients l, LkP kb (lkWith k y.2.1), GB, big F]) (fun y => l.length - y.1) (i, k.sd, 0, _, Au, cu) hI ⟨rfl, rfl, rfl, rfl, rfl, rfl, trivial⟩ (by exact Split.auto) ?_) | (refine St_step ?_; (try with_reducible intro _)) | (refine St_step2 ?_ ?_ <;> (intro hb; (try simp only [beq_iff_eq, bne_iff_ne, decide_eq_true_eq, decide_eq_false_iff_not, Bool.not_eq_true', Bool.not_eq_false', beq_eq_false_iff_ne, bne_eq_false_iff_eq, ne_eq, Int.not_lt, Int.not_le, gt_iff_lt, ge_iff_le] at hb); (try (first | exact Bool.noConfusion hb | exact absurd trivial hb | (exfalso; omega))))) | fail)
  rintro ⟨j, s, n, rb, Aj, cj⟩ hJ
  have hJ : PumpI l i T j s n := hJ
  obtain ⟨j1, j2, j3, j4⟩ := hJ
  dsimp only
  by_cases hj : j < l.length
  · have hput := rPut_sp true (roAt l j) (.slice Aj (roAt l j).ups.length cj)
    have hof := lkOffer_sp kb (lkWith k s) (rput (roAt l j)).1 (lkOk_with hk j3)
    rw [pumpN_step hj] at j2
    have e1 : (lkWith k s).sd = s := rfl
    rw [e1] at hof
    by_cases he : (sdOffer s (rput (roAt l j)).1).2 = 0
    · rw [if_neg (fun h => h he)] at j2
      rw [he] at hof
      have e2 : lkOffer (lkWith k s) (rput (roAt l j)).1 = lkWith k (sdOffer s (rput (roAt l j)).1).1 := rfl
      rw [e2] at hof
      have hok := sdOk_offer j3 (rput (roAt l j)).1
      generalize (sdOffer s (rput (roAt l j)).1).1 = s' at *
      have hA1 := hA (j + 1)
      repeat' (first | (apply St_call (hf := hput); exact rfl; exact rfl; exact Split.auto; rintro _ _ ⟨rfl, rfl⟩) | (apply St_call (hf := hof); exact rfl; exact rfl; exact Split.auto; rintro _ _ ⟨rfl, rfl⟩) | (apply St_call (hf := hA1); exact rfl; exact rfl; exact Split.auto; rintro _ _ ⟨v, rfl, rfl⟩; refine St_rsIs (r := true) (v := v) (n := (roAt l (j + 1)).ups.length) (cs := (roAt l (j + 1)).ups.flatMap uv) (by exact Has.auto) ?_; rintro Au cu rfl) | (apply St_rd; exact rfl; (first | (apply Rd_succ; exact rfl; exact rfl; omega))) | (apply Sq_rd; exact rfl; (first | (apply Rd_succ; exact rfl; exact rfl; omega))) | (refine St_step ?_; (try with_reducible intro _)) | (refine St_step2 ?_ ?_ <;> (intro hb; (try simp only [beq_iff_eq, bne_iff_ne, decide_eq_true_eq, decide_eq_false_iff_not, Bool.not_eq_true', Bool.not_eq_false', beq_eq_false_iff_ne, bne_eq_false_iff_eq, ne_eq, Int.not_lt, Int.not_le, gt_iff_lt, ge_iff_le] at hb); (try (first | exact Bool.noConfusion hb | exact absurd trivial hb | (exfalso; omega))))) | fail)
      all_goals first | (exfalso; omega) | skip
      exact St_at (j + 1, s', n + 1, _, Au, cu) ⟨⟨by show j + 1 ≤ _; omega, j2, hok, by show n + 1 + i = j + 1; omega⟩, by show l.length - (j + 1) < l.length - j; omega⟩ ⟨rfl, rfl, rfl, rfl, rfl, rfl, trivial⟩ (by exact Split.auto)
    · rw [if_pos he] at j2
      have e2 : lkOffer (lkWith k s) (rput (roAt l j)).1 = lkWith k s := by
        unfold lkOffer
        rw [e1, sdOffer_err he]; rfl
      rw [e2] at hof
      rw [← j2]
      generalize (sdOffer s (rput (roAt l j)).1).2 = e at *
      repeat' (first | (apply St_call (hf := hput); exact rfl; exact rfl; exact Split.auto; rintro _ _ ⟨rfl, rfl⟩) | (apply St_call (hf := hof); exact rfl; exact rfl; exact Split.auto; rintro _ _ ⟨rfl, rfl⟩) | (refine St_step ?_; (try with_reducible intro _)) | (refine St_step2 ?_ ?_ <;> (intro hb; (try simp only [beq_iff_eq, bne_iff_ne, decide_eq_true_eq, decide_eq_false_iff_not, Bool.not_eq_true', Bool.not_eq_false', beq_eq_false_iff_ne, bne_eq_false_iff_eq, ne_eq, Int.not_lt, Int.not_le, gt_iff_lt, ge_iff_le] at hb); (try (first | exact Bool.noConfusion hb | exact absurd trivial hb | (exfalso; omega))))) | fail)
      all_goals first | (exfalso; omega) | skip
      exact St_ret1 (.inl rfl) rfl rfl ⟨⟨n, rfl⟩, rfl⟩ (by exact Split.auto)
  · rw [pumpN_stop hj] at j2
    rw [← j2]
    repeat' (first | (refine St_step ?_; (try with_reducible intro _)) | (refine St_step2 ?_ ?_ <;> (intro hb; (try simp only [beq_iff_eq, bne_iff_ne, decide_eq_true_eq, decide_eq_false_iff_not, Bool.not_eq_true', Bool.not_eq_false', beq_eq_false_iff_ne, bne_eq_false_iff_eq, ne_eq, Int.not_lt, Int.not_le, gt_iff_lt, ge_iff_le] at hb); (try (first | exact Bool.noConfusion hb | exact absurd trivial hb | (exfalso; omega))))) | fail)
    all_goals first | contradiction | skip
    exact St_ret1 (.inl rfl) rfl rfl ⟨⟨n, rfl⟩, rfl⟩ (by exact Split.auto)
end Go.Proofs.YtfjnacakpeommaaDoor
