/- The contract of the law. -/
import Derived.Test.YtfjnacakpeommaaGreatDoorM6
/- Contracts: chapbooklaw16.SequencerTwice. -/
namespace Go.Proofs.YtfjnacakpeommaaGreatDoor
open Go SL Pl
set_option autoImplicit false
set_option maxRecDepth 100000
set_option linter.unusedSimpArgs false
set_option linter.unusedVariables false
attribute [local irreducible] St Sq Exec QExec wpList wpQuiet Code.wp Exit.then Exit.inBlock bodyPost At Rd wpOp Wa QK GB
attribute [local irreducible] LkP LgP SqP PeP SdP RcP RdP
set_option maxHeartbeats 4000000 in
theorem sequencerTwice_sp (q : Bool) (c : Cfg) (l : List Ac) (v : Value) : Sp Tryz.prog 5 [.agg (cfgC c).toArray, v] [RS q v l.length (l.flatMap av), GB]
    (fun w M => w = .bool true ∧ M = [RS q v l.length (l.flatMap av), GB]) := by
  refine Sp.intro (P := Tryz.prog) (Tryz.func5) rfl Tryz.ntmps5 (by decide) rfl ?_
  intro ρ F
  refine St_rsIs (r := q) (v := v) (n := l.length) (cs := l.flatMap av) (by exact Has.auto) ?_
  rintro A k rfl
  have g1 := great16_sp q c l (.slice A l.length k)
  have m1 := may16_sp c
  cases hg : acGreat c l with
  | true =>
    rw [hg] at g1
    repeat' (first | (apply St_regionQ; kernel_rfl; kernel_rfl) | (apply St_call (hf := awake_sp); exact rfl; exact rfl; exact Split.auto; rintro _ _ ⟨rfl, rfl⟩) | (apply St_call (hf := g1); exact rfl; exact rfl; exact Split.auto; rintro _ _ ⟨rfl, rfl⟩) | (refine St_step ?_; (try with_reducible intro _)) | (refine St_step2 ?_ ?_ <;> (intro hb; (try simp only [beq_iff_eq, bne_iff_ne, decide_eq_true_eq, decide_eq_false_iff_not, Bool.not_eq_true', Bool.not_eq_false', beq_eq_false_iff_ne, bne_eq_false_iff_eq, ne_eq, Int.not_lt, Int.not_le, gt_iff_lt, ge_iff_le] at hb); (try (first | exact Bool.noConfusion hb | exact absurd trivial hb | (exfalso; omega))))) | fail)
    all_goals (first | contradiction | (exfalso; omega) | (exact St_ret1 (.inl rfl) rfl rfl ⟨rfl, rfl⟩ (by exact Split.auto)) | (exact St_ret2 (.inl rfl) rfl rfl rfl ⟨rfl, rfl⟩ (by exact Split.auto)) | (exact St_ret3 (.inl rfl) rfl rfl rfl rfl ⟨rfl, rfl⟩ (by exact Split.auto)))
  | false =>
    rw [hg] at g1
    obtain ⟨hl60, hc4, hb4⟩ := acGreat_no hg
    by_cases hc : cfgOk c
    · rw [decide_eq_true hc] at m1
      have n1 := sNewOk_sp hc
      repeat' (first | (apply St_regionQ; kernel_rfl; kernel_rfl) | (apply St_call (hf := awake_sp); exact rfl; exact rfl; exact Split.auto; rintro _ _ ⟨rfl, rfl⟩) | (apply St_call (hf := g1); exact rfl; exact rfl; exact Split.auto; rintro _ _ ⟨rfl, rfl⟩) | (apply St_call (hf := m1); exact rfl; exact rfl; exact Split.auto; rintro _ _ ⟨rfl, rfl⟩) | (apply St_call (hf := n1); exact rfl; exact rfl; exact Split.auto; rintro _ _ ⟨sb, rfl, rfl⟩) | (apply St_rd; exact rfl; (first | (apply Rd_ptrEqNil' tb; exact rfl; exact rfl; exact rfl))) | (apply Sq_rd; exact rfl; (first | (apply Rd_ptrEqNil' tb; exact rfl; exact rfl; exact rfl))) | (refine St_step ?_; (try with_reducible intro _)) | (refine St_step2 ?_ ?_ <;> (intro hb; (try simp only [beq_iff_eq, bne_iff_ne, decide_eq_true_eq, decide_eq_false_iff_not, Bool.not_eq_true', Bool.not_eq_false', beq_eq_false_iff_ne, bne_eq_false_iff_eq, ne_eq, Int.not_lt, Int.not_le, gt_iff_lt, ge_iff_le] at hb); (try (first | exact Bool.noConfusion hb | exact absurd trivial hb | (exfalso; omega))))) | fail)
      all_goals first | (exfalso; omega) | skip
      rename_i cb sa
      refine St_loop (fun (y : Nat × Sqr) => y.1 ≤ l.length ∧ sqIn y.2 ∧ y.2.c = c ∧ y.2.l.length ≤ y.1) (fun y => [(5, .pointer (some ⟨sa, 0, none⟩)), (7, .pointer (some ⟨sb, 0, none⟩)), (40, .slice A l.length k), (41, nat .i64 l.length), (42, nat .i64 y.1)]) (fun y => [SqP sa y.2, SqP sb y.2, RS q (.slice A l.length k) l.length (l.flatMap av), GB, big F]) (fun y => l.length - y.1) (0, sqNew c) ⟨Nat.zero_le _, sqIn_new hc, rfl, Nat.le_refl _⟩ ⟨rfl, rfl, rfl, rfl, rfl, trivial⟩ (by exact Split.auto) ?_
      rintro ⟨i, S⟩ ⟨hi, hS, hSc, hSl⟩
      have hi : i ≤ l.length := hi
      have hSl : S.l.length ≤ i := hSl
      have hSc : S.c = c := hSc
      have hS : sqIn S := hS
      dsimp only
      by_cases hil : i < l.length
      · obtain ⟨a, ha⟩ : ∃ a, l[i]? = some a := ⟨_, List.getElem?_eq_getElem hil⟩
        have hab := hb4 a (List.mem_of_getElem? ha)
        have k1 := sTick_in sa S hS (by omega)
        have k2 := sTick_in sb S hS (by omega)
        refine St_rsOpen (r := q) (v := .slice A l.length k) (n := l.length) (cs := l.flatMap av) (by exact Has.auto) (by omega) ?_
        rintro b1 T1 cap1 pre1 rest1 hv1
        injection hv1 with p1 p2 p3
        subst p1 p3
        have hld1 := flat_at av_len l i a pre1 rest1 ha
        have hroom1 := flat_room av_len l i pre1 rest1 hil
        by_cases hk : a.kind = 2
        · repeat' (first | (apply St_call (hf := k1); exact rfl; exact rfl; exact Split.auto; rintro _ _ ⟨⟨A1, c1, rfl⟩, rfl⟩) | (apply St_call (hf := k2); exact rfl; exact rfl; exact Split.auto; rintro _ _ ⟨⟨A2, c2, rfl⟩, rfl⟩) | (apply St_rd; exact rfl; (first | (apply Rd_loadA tb; exact rfl; exact rfl; exact rfl; exact Has.auto; exact hroom1; exact hld1))) | (apply Sq_rd; exact rfl; (first | (apply Rd_loadA tb; exact rfl; exact rfl; exact rfl; exact Has.auto; exact hroom1; exact hld1))) | (refine St_step ?_; (try with_reducible intro _)) | (refine St_step2 ?_ ?_ <;> (intro hb; (try simp only [beq_iff_eq, bne_iff_ne, decide_eq_true_eq, decide_eq_false_iff_not, Bool.not_eq_true', Bool.not_eq_false', beq_eq_false_iff_ne, bne_eq_false_iff_eq, ne_eq, Int.not_lt, Int.not_le, gt_iff_lt, ge_iff_le] at hb); (try (first | exact Bool.noConfusion hb | exact absurd trivial hb | (exfalso; omega))))) | fail)
          all_goals first | (exfalso; omega) | skip
          refine St_rsMk (r := q) (n := l.length) (cap := k) (pre := pre1) (cs := l.flatMap av) (rest := rest1) (by exact Has.auto) ?_
          exact St_at (i + 1, sqTick S) ⟨⟨hil, sqIn_tick hS, hSc, by show S.l.length ≤ i + 1; omega⟩, by dsimp only; omega⟩ ⟨rfl, rfl, rfl, rfl, rfl, trivial⟩ (by exact Split.auto)
        · have u1 := sHear_in sa S a.src a.b hS (by omega) (by omega)
          have u2 := sHear_in sb S a.src a.b hS (by omega) (by omega)
          have hle := sqHear_len hS a.src a.b
          have u3 := sHear_in sb (sqHear S a.src a.b) a.src a.b (sqIn_hear hS _ _) (by omega) (by omega)
          rw [sqHear_twice hS] at u3
          have hc2 := (sqHear_grows hS a.src a.b).1.trans hSc
          have hi2 := sqIn_hear hS a.src a.b
          generalize sqErr S a.src a.b = e8 at *
          generalize sqErr (sqHear S a.src a.b) a.src a.b = e9 at *
          generalize sqHear S a.src a.b = S2 at *
          repeat' (first | (apply St_call (hf := u1); exact rfl; exact rfl; exact Split.auto; rintro _ _ ⟨rfl, rfl⟩) | (apply St_call (hf := u2); exact rfl; exact rfl; exact Split.auto; rintro _ _ ⟨rfl, rfl⟩) | (apply St_call (hf := u3); exact rfl; exact rfl; exact Split.auto; rintro _ _ ⟨rfl, rfl⟩) | (apply St_rd; exact rfl; (first | (apply Rd_loadA tb; exact rfl; exact rfl; exact rfl; exact Has.auto; exact hroom1; exact hld1))) | (apply Sq_rd; exact rfl; (first | (apply Rd_loadA tb; exact rfl; exact rfl; exact rfl; exact Has.auto; exact hroom1; exact hld1))) | (refine St_step ?_; (try with_reducible intro _)) | (refine St_step2 ?_ ?_ <;> (intro hb; (try simp only [beq_iff_eq, bne_iff_ne, decide_eq_true_eq, decide_eq_false_iff_not, Bool.not_eq_true', Bool.not_eq_false', beq_eq_false_iff_ne, bne_eq_false_iff_eq, ne_eq, Int.not_lt, Int.not_le, gt_iff_lt, ge_iff_le] at hb); (try (first | exact Bool.noConfusion hb | exact absurd trivial hb | (exfalso; omega))))) | fail)
          all_goals first | (exfalso; omega) | skip
          refine St_rsMk (r := q) (n := l.length) (cap := k) (pre := pre1) (cs := l.flatMap av) (rest := rest1) (by exact Has.auto) ?_
          exact St_at (i + 1, S2) ⟨⟨hil, hi2, hc2, by show S2.l.length ≤ i + 1; omega⟩, by dsimp only; omega⟩ ⟨rfl, rfl, rfl, rfl, rfl, trivial⟩ (by exact Split.auto)
      · have hii : i = l.length := by omega
        subst hii
        have hlu := lgOk_ups hS.ok.l
        have f1 := sLog_sp sa S hS.ok (by omega)
        have f2 := sLog_sp sb S hS.ok (by omega)
        repeat' (first | (apply St_call (hf := f1); exact rfl; exact rfl; exact Split.auto; rintro _ _ ⟨⟨A1, c1, rfl⟩, rfl⟩) | (apply St_call (hf := f2); exact rfl; exact rfl; exact Split.auto; rintro _ _ ⟨⟨A2, c2, rfl⟩, rfl⟩) | (refine St_step ?_; (try with_reducible intro _)) | (refine St_step2 ?_ ?_ <;> (intro hb; (try simp only [beq_iff_eq, bne_iff_ne, decide_eq_true_eq, decide_eq_false_iff_not, Bool.not_eq_true', Bool.not_eq_false', beq_eq_false_iff_ne, bne_eq_false_iff_eq, ne_eq, Int.not_lt, Int.not_le, gt_iff_lt, ge_iff_le] at hb); (try (first | exact Bool.noConfusion hb | exact absurd trivial hb | (exfalso; omega))))) | fail)
        all_goals first | (exfalso; omega) | skip
        refine St_rdOpen (v := .slice A1 S.l.length c1) (l := S.l) (by exact Has.auto) fun xs hxs => ?_
        refine St_rdOpen (v := .slice A2 S.l.length c2) (l := S.l) (by exact Has.auto) fun ys hys => ?_
        have f3 := sameAll_sp S.l (.slice A1 S.l.length c1) (.slice A2 S.l.length c2) xs xs ys ys hxs hys (fun _ h => h) (fun _ h => h) (by omega) hlu
        repeat' (first | (apply St_call (hf := f3); exact rfl; exact rfl; exact Split.auto; rintro _ _ ⟨rfl, rfl⟩) | (refine St_step ?_; (try with_reducible intro _)) | (refine St_step2 ?_ ?_ <;> (intro hb; (try simp only [beq_iff_eq, bne_iff_ne, decide_eq_true_eq, decide_eq_false_iff_not, Bool.not_eq_true', Bool.not_eq_false', beq_eq_false_iff_ne, bne_eq_false_iff_eq, ne_eq, Int.not_lt, Int.not_le, gt_iff_lt, ge_iff_le] at hb); (try (first | exact Bool.noConfusion hb | exact absurd trivial hb | (exfalso; omega))))) | fail)
        all_goals (first | contradiction | (exfalso; omega) | (exact St_ret1 (.inl rfl) rfl rfl ⟨rfl, rfl⟩ (by exact Split.auto)) | (exact St_ret2 (.inl rfl) rfl rfl rfl ⟨rfl, rfl⟩ (by exact Split.auto)) | (exact St_ret3 (.inl rfl) rfl rfl rfl rfl ⟨rfl, rfl⟩ (by exact Split.auto)))
    · rw [decide_eq_false hc] at m1
      repeat' (first | (apply St_regionQ; kernel_rfl; kernel_rfl) | (apply St_call (hf := awake_sp); exact rfl; exact rfl; exact Split.auto; rintro _ _ ⟨rfl, rfl⟩) | (apply St_call (hf := g1); exact rfl; exact rfl; exact Split.auto; rintro _ _ ⟨rfl, rfl⟩) | (apply St_call (hf := m1); exact rfl; exact rfl; exact Split.auto; rintro _ _ ⟨rfl, rfl⟩) | (refine St_step ?_; (try with_reducible intro _)) | (refine St_step2 ?_ ?_ <;> (intro hb; (try simp only [beq_iff_eq, bne_iff_ne, decide_eq_true_eq, decide_eq_false_iff_not, Bool.not_eq_true', Bool.not_eq_false', beq_eq_false_iff_ne, bne_eq_false_iff_eq, ne_eq, Int.not_lt, Int.not_le, gt_iff_lt, ge_iff_le] at hb); (try (first | exact Bool.noConfusion hb | exact absurd trivial hb | (exfalso; omega))))) | fail)
      all_goals (first | contradiction | (exfalso; omega) | (exact St_ret1 (.inl rfl) rfl rfl ⟨rfl, rfl⟩ (by exact Split.auto)) | (exact St_ret2 (.inl rfl) rfl rfl rfl ⟨rfl, rfl⟩ (by exact Split.auto)) | (exact St_ret3 (.inl rfl) rfl rfl rfl rfl ⟨rfl, rfl⟩ (by exact Split.auto)))
end Go.Proofs.YtfjnacakpeommaaGreatDoor
