/- Contracts: chapbooklaw09's FrameBack, FrameOne, FrameApart. -/
import Derived.Test.YtffnnddhlpcicaaDoorC9
import Derived.Test.YtffnnddhlpcicaaDoorPl5
namespace Go.Proofs.YtffnnddhlpcicaaDoor
open Go SL Pl
set_option autoImplicit false
set_option maxRecDepth 100000
set_option linter.unusedSimpArgs false
set_option linter.unusedVariables false
attribute [local irreducible] St Sq Exec QExec wpList wpQuiet Code.wp Exit.then Exit.inBlock bodyPost At Rd wpOp Wa QK GB
theorem fr_eq (f g : Fr) : (f.ep == g.ep && (f.seq == g.seq && (f.ack == g.ack && (f.data == g.data && true)))) = true ↔ f = g := by
  obtain ⟨a, b, c, d⟩ := f
  obtain ⟨a', b', c', d'⟩ := g
  simp
theorem frameBack_sp (f : Fr) (mtu : Int) (hd : f.data.length ≤ 9223372036854775807) : Sp Tryd.prog 5 [.agg (fv f).toArray, .int .i64 mtu] [GB] (fun v M => v = .bool true ∧ M = [GB]) := by
  refine Sp.intro (P := Tryd.prog) (Tryd.func5) rfl Tryd.ntmps5 (by decide) rfl ?_
  intro ρ F
  by_cases hl : f.data.length ≤ 2000
  · have c1 := fput_sp f mtu (by omega)
    by_cases he : (fput f mtu).2 = 0
    · obtain ⟨b, hb1⟩ : ∃ b, fput f mtu = (b, 0) := ⟨(fput f mtu).1, by rw [← he]⟩
      obtain ⟨g1, g2, g3, g4, g5, g6⟩ := fget_fput hb1
      rw [hb1] at c1
      have c2 := fget_sp b (by omega)
      rw [g1] at c2
      dsimp only at c1 c2
      repeat' (first | (apply St_call (hf := fawake_sp); exact rfl; exact rfl; exact Split.auto; rintro _ _ ⟨rfl, rfl⟩) | (apply St_call (hf := c1); exact rfl; exact rfl; exact Split.auto; rintro _ _ ⟨rfl, rfl⟩) | (apply St_call (hf := c2); exact rfl; exact rfl; exact Split.auto; rintro _ _ ⟨rfl, rfl⟩) | (apply St_rd; exact rfl; (first | (apply Rd_eqStruct tb; exact rfl; exact rfl; exact rfl; kernel_rfl; exact rfl))) | (apply Sq_rd; exact rfl; (first | (apply Rd_eqStruct tb; exact rfl; exact rfl; exact rfl; kernel_rfl; exact rfl))) | (refine St_step ?_; (try with_reducible intro _)) | (refine St_step2 ?_ ?_ <;> (intro hb; (try simp only [beq_iff_eq, bne_iff_ne, decide_eq_true_eq, decide_eq_false_iff_not, Bool.not_eq_true', Bool.not_eq_false', beq_eq_false_iff_ne, bne_eq_false_iff_eq, ne_eq, Int.not_lt, Int.not_le, gt_iff_lt, ge_iff_le] at hb); (try (first | exact Bool.noConfusion hb | exact absurd trivial hb | (exfalso; omega))))) | fail)
      all_goals (first | (first | contradiction | (exfalso; omega) | (exact St_ret1 (.inl rfl) rfl rfl ⟨rfl, rfl⟩ (by exact Split.auto)) | (exact St_ret2 (.inl rfl) rfl rfl rfl ⟨rfl, rfl⟩ (by exact Split.auto)) | (exact St_ret3 (.inl rfl) rfl rfl rfl rfl ⟨rfl, rfl⟩ (by exact Split.auto))) | (exfalso; simp at hb; done) | (refine St_ret1 (.inl rfl) rfl rfl ⟨?_, rfl⟩ (by exact Split.auto); congr 1; first | (simp; done) | (rw [decide_eq_true_eq]; omega)))
    · have hz := fput_err he
      generalize (fput f mtu).1 = b at *
      generalize (fput f mtu).2 = e at *
      subst hz
      repeat' (first | (apply St_call (hf := fawake_sp); exact rfl; exact rfl; exact Split.auto; rintro _ _ ⟨rfl, rfl⟩) | (apply St_call (hf := c1); exact rfl; exact rfl; exact Split.auto; rintro _ _ ⟨rfl, rfl⟩) | (refine St_step ?_; (try with_reducible intro _)) | (refine St_step2 ?_ ?_ <;> (intro hb; (try simp only [beq_iff_eq, bne_iff_ne, decide_eq_true_eq, decide_eq_false_iff_not, Bool.not_eq_true', Bool.not_eq_false', beq_eq_false_iff_ne, bne_eq_false_iff_eq, ne_eq, Int.not_lt, Int.not_le, gt_iff_lt, ge_iff_le] at hb); (try (first | exact Bool.noConfusion hb | exact absurd trivial hb | (exfalso; omega))))) | fail)
      all_goals (first | (first | contradiction | (exfalso; omega) | (exact St_ret1 (.inl rfl) rfl rfl ⟨rfl, rfl⟩ (by exact Split.auto)) | (exact St_ret2 (.inl rfl) rfl rfl rfl ⟨rfl, rfl⟩ (by exact Split.auto)) | (exact St_ret3 (.inl rfl) rfl rfl rfl rfl ⟨rfl, rfl⟩ (by exact Split.auto))) | (exfalso; simp at hb; done) | (refine St_ret1 (.inl rfl) rfl rfl ⟨?_, rfl⟩ (by exact Split.auto); congr 1; first | (simp; done) | (rw [decide_eq_true_eq]; omega)))
  · repeat' (first | (apply St_call (hf := fawake_sp); exact rfl; exact rfl; exact Split.auto; rintro _ _ ⟨rfl, rfl⟩) | (refine St_step ?_; (try with_reducible intro _)) | (refine St_step2 ?_ ?_ <;> (intro hb; (try simp only [beq_iff_eq, bne_iff_ne, decide_eq_true_eq, decide_eq_false_iff_not, Bool.not_eq_true', Bool.not_eq_false', beq_eq_false_iff_ne, bne_eq_false_iff_eq, ne_eq, Int.not_lt, Int.not_le, gt_iff_lt, ge_iff_le] at hb); (try (first | exact Bool.noConfusion hb | exact absurd trivial hb | (exfalso; omega))))) | fail)
    all_goals (first | (first | contradiction | (exfalso; omega) | (exact St_ret1 (.inl rfl) rfl rfl ⟨rfl, rfl⟩ (by exact Split.auto)) | (exact St_ret2 (.inl rfl) rfl rfl rfl ⟨rfl, rfl⟩ (by exact Split.auto)) | (exact St_ret3 (.inl rfl) rfl rfl rfl rfl ⟨rfl, rfl⟩ (by exact Split.auto))) | (exfalso; simp at hb; done) | (refine St_ret1 (.inl rfl) rfl rfl ⟨?_, rfl⟩ (by exact Split.auto); congr 1; first | (simp; done) | (rw [decide_eq_true_eq]; omega)))
theorem frameOne_sp (b : List UInt8) (hd : b.length ≤ 9223372036854775807) : Sp Tryd.prog 6 [str b] [GB] (fun v M => v = .bool true ∧ M = [GB]) := by
  refine Sp.intro (P := Tryd.prog) (Tryd.func6) rfl Tryd.ntmps6 (by decide) rfl ?_
  intro ρ F
  by_cases hl : b.length ≤ 2000
  · have c1 := fget_sp b (by omega)
    by_cases he : (fget b).2 = 0
    · obtain ⟨f, hb1⟩ : ∃ f, fget b = (f, 0) := ⟨(fget b).1, by rw [← he]⟩
      have hp := fput_of_fget hb1
      obtain ⟨_, hfb⟩ := fput_fget hb1
      have hdl := fbytes_ge f
      rw [hfb] at hdl
      have c2 := fput_sp f 1400 (by omega)
      rw [hb1] at c1
      rw [hp] at c2
      by_cases hg : 1400 < b.length
      · rw [if_pos hg] at c2
        dsimp only at c1 c2
        repeat' (first | (apply St_call (hf := fawake_sp); exact rfl; exact rfl; exact Split.auto; rintro _ _ ⟨rfl, rfl⟩) | (apply St_call (hf := c1); exact rfl; exact rfl; exact Split.auto; rintro _ _ ⟨rfl, rfl⟩) | (apply St_call (hf := c2); exact rfl; exact rfl; exact Split.auto; rintro _ _ ⟨rfl, rfl⟩) | (refine St_step ?_; (try with_reducible intro _)) | (refine St_step2 ?_ ?_ <;> (intro hb; (try simp only [beq_iff_eq, bne_iff_ne, decide_eq_true_eq, decide_eq_false_iff_not, Bool.not_eq_true', Bool.not_eq_false', beq_eq_false_iff_ne, bne_eq_false_iff_eq, ne_eq, Int.not_lt, Int.not_le, gt_iff_lt, ge_iff_le] at hb); (try (first | exact Bool.noConfusion hb | exact absurd trivial hb | (exfalso; omega))))) | fail)
        all_goals (first | (first | contradiction | (exfalso; omega) | (exact St_ret1 (.inl rfl) rfl rfl ⟨rfl, rfl⟩ (by exact Split.auto)) | (exact St_ret2 (.inl rfl) rfl rfl rfl ⟨rfl, rfl⟩ (by exact Split.auto)) | (exact St_ret3 (.inl rfl) rfl rfl rfl rfl ⟨rfl, rfl⟩ (by exact Split.auto))) | (exfalso; simp at hb; done) | (refine St_ret1 (.inl rfl) rfl rfl ⟨?_, rfl⟩ (by exact Split.auto); congr 1; first | (simp; done) | (rw [decide_eq_true_eq]; omega)))
      · rw [if_neg hg] at c2
        dsimp only at c1 c2
        repeat' (first | (apply St_call (hf := fawake_sp); exact rfl; exact rfl; exact Split.auto; rintro _ _ ⟨rfl, rfl⟩) | (apply St_call (hf := c1); exact rfl; exact rfl; exact Split.auto; rintro _ _ ⟨rfl, rfl⟩) | (apply St_call (hf := c2); exact rfl; exact rfl; exact Split.auto; rintro _ _ ⟨rfl, rfl⟩) | (refine St_step ?_; (try with_reducible intro _)) | (refine St_step2 ?_ ?_ <;> (intro hb; (try simp only [beq_iff_eq, bne_iff_ne, decide_eq_true_eq, decide_eq_false_iff_not, Bool.not_eq_true', Bool.not_eq_false', beq_eq_false_iff_ne, bne_eq_false_iff_eq, ne_eq, Int.not_lt, Int.not_le, gt_iff_lt, ge_iff_le] at hb); (try (first | exact Bool.noConfusion hb | exact absurd trivial hb | (exfalso; omega))))) | fail)
        all_goals (first | (first | contradiction | (exfalso; omega) | (exact St_ret1 (.inl rfl) rfl rfl ⟨rfl, rfl⟩ (by exact Split.auto)) | (exact St_ret2 (.inl rfl) rfl rfl rfl ⟨rfl, rfl⟩ (by exact Split.auto)) | (exact St_ret3 (.inl rfl) rfl rfl rfl rfl ⟨rfl, rfl⟩ (by exact Split.auto))) | (exfalso; simp at hb; done) | (refine St_ret1 (.inl rfl) rfl rfl ⟨?_, rfl⟩ (by exact Split.auto); congr 1; first | (simp; done) | (rw [decide_eq_true_eq]; omega)))
    · have hz := fget_err he
      rw [hz] at c1
      generalize (fget b).2 = e at *
      repeat' (first | (apply St_call (hf := fawake_sp); exact rfl; exact rfl; exact Split.auto; rintro _ _ ⟨rfl, rfl⟩) | (apply St_call (hf := c1); exact rfl; exact rfl; exact Split.auto; rintro _ _ ⟨rfl, rfl⟩) | (apply St_rd; exact rfl; (first | (apply Rd_eqStruct tb; exact rfl; exact rfl; exact rfl; kernel_rfl; exact rfl))) | (apply Sq_rd; exact rfl; (first | (apply Rd_eqStruct tb; exact rfl; exact rfl; exact rfl; kernel_rfl; exact rfl))) | (refine St_step ?_; (try with_reducible intro _)) | (refine St_step2 ?_ ?_ <;> (intro hb; (try simp only [beq_iff_eq, bne_iff_ne, decide_eq_true_eq, decide_eq_false_iff_not, Bool.not_eq_true', Bool.not_eq_false', beq_eq_false_iff_ne, bne_eq_false_iff_eq, ne_eq, Int.not_lt, Int.not_le, gt_iff_lt, ge_iff_le] at hb); (try (first | exact Bool.noConfusion hb | exact absurd trivial hb | (exfalso; omega))))) | fail)
      all_goals (first | (first | contradiction | (exfalso; omega) | (exact St_ret1 (.inl rfl) rfl rfl ⟨rfl, rfl⟩ (by exact Split.auto)) | (exact St_ret2 (.inl rfl) rfl rfl rfl ⟨rfl, rfl⟩ (by exact Split.auto)) | (exact St_ret3 (.inl rfl) rfl rfl rfl rfl ⟨rfl, rfl⟩ (by exact Split.auto))) | (exfalso; simp at hb; done) | (refine St_ret1 (.inl rfl) rfl rfl ⟨?_, rfl⟩ (by exact Split.auto); congr 1; first | (simp; done) | (rw [decide_eq_true_eq]; omega)))
  · repeat' (first | (apply St_call (hf := fawake_sp); exact rfl; exact rfl; exact Split.auto; rintro _ _ ⟨rfl, rfl⟩) | (refine St_step ?_; (try with_reducible intro _)) | (refine St_step2 ?_ ?_ <;> (intro hb; (try simp only [beq_iff_eq, bne_iff_ne, decide_eq_true_eq, decide_eq_false_iff_not, Bool.not_eq_true', Bool.not_eq_false', beq_eq_false_iff_ne, bne_eq_false_iff_eq, ne_eq, Int.not_lt, Int.not_le, gt_iff_lt, ge_iff_le] at hb); (try (first | exact Bool.noConfusion hb | exact absurd trivial hb | (exfalso; omega))))) | fail)
    all_goals (first | (first | contradiction | (exfalso; omega) | (exact St_ret1 (.inl rfl) rfl rfl ⟨rfl, rfl⟩ (by exact Split.auto)) | (exact St_ret2 (.inl rfl) rfl rfl rfl ⟨rfl, rfl⟩ (by exact Split.auto)) | (exact St_ret3 (.inl rfl) rfl rfl rfl rfl ⟨rfl, rfl⟩ (by exact Split.auto))) | (exfalso; simp at hb; done) | (refine St_ret1 (.inl rfl) rfl rfl ⟨?_, rfl⟩ (by exact Split.auto); congr 1; first | (simp; done) | (rw [decide_eq_true_eq]; omega)))
theorem frameApart_sp (f g : Fr) (hd : f.data.length ≤ 9223372036854775807) (hd2 : g.data.length ≤ 9223372036854775807) :
    Sp Tryd.prog 8 [.agg (fv f).toArray, .agg (fv g).toArray] [GB] (fun v M => v = .bool true ∧ M = [GB]) := by
  refine Sp.intro (P := Tryd.prog) (Tryd.func8) rfl Tryd.ntmps8 (by decide) rfl ?_
  intro ρ F
  by_cases hl : f.data.length ≤ 1300 ∧ g.data.length ≤ 1300
  · obtain ⟨l1, l2⟩ := hl
    have c1 := fput_sp f 1400 (by omega)
    have c2 := fput_sp g 1400 (by omega)
    by_cases he : (fput f 1400).2 = 0 ∧ (fput g 1400).2 = 0
    · obtain ⟨he, hh⟩ := he
      obtain ⟨a, ha1⟩ : ∃ a, fput f 1400 = (a, 0) := ⟨(fput f 1400).1, by rw [← he]⟩
      obtain ⟨b, hb1⟩ : ∃ b, fput g 1400 = (b, 0) := ⟨(fput g 1400).1, by rw [← hh]⟩
      obtain ⟨g1, g2, g3, _⟩ := fget_fput ha1
      obtain ⟨k1, k2, k3, _⟩ := fget_fput hb1
      have h8 := fbytes_ge8 f g3
      rw [← g2] at h8
      have hiff : (a == b) = (f.ep == g.ep && (f.seq == g.seq && (f.ack == g.ack && (f.data == g.data && true)))) := by
        rw [Bool.eq_iff_iff, fr_eq]
        simp only [beq_iff_eq]
        constructor
        · intro h
          rw [h, k1] at g1
          injection g1 with g1 _
          exact g1.symm
        · intro h
          rw [g2, k2, h]
      rw [ha1] at c1
      rw [hb1] at c2
      dsimp only at c1 c2
      repeat' (first | (apply St_call (hf := fawake_sp); exact rfl; exact rfl; exact Split.auto; rintro _ _ ⟨rfl, rfl⟩) | (apply St_call (hf := c1); exact rfl; exact rfl; exact Split.auto; rintro _ _ ⟨rfl, rfl⟩) | (apply St_call (hf := c2); exact rfl; exact rfl; exact Split.auto; rintro _ _ ⟨rfl, rfl⟩) | (apply St_rd; exact rfl; (first | (apply Rd_eqStruct tb; exact rfl; exact rfl; exact rfl; kernel_rfl; exact rfl) | (apply Rd_boolEq tb; exact rfl; exact rfl; exact rfl))) | (apply Sq_rd; exact rfl; (first | (apply Rd_eqStruct tb; exact rfl; exact rfl; exact rfl; kernel_rfl; exact rfl) | (apply Rd_boolEq tb; exact rfl; exact rfl; exact rfl))) | (refine St_step ?_; (try with_reducible intro _)) | (refine St_step2 ?_ ?_ <;> (intro hb; (try simp only [beq_iff_eq, bne_iff_ne, decide_eq_true_eq, decide_eq_false_iff_not, Bool.not_eq_true', Bool.not_eq_false', beq_eq_false_iff_ne, bne_eq_false_iff_eq, ne_eq, Int.not_lt, Int.not_le, gt_iff_lt, ge_iff_le] at hb); (try (first | exact Bool.noConfusion hb | exact absurd trivial hb | (exfalso; omega))))) | fail)
      all_goals (first | (first | contradiction | (exfalso; omega) | (exact St_ret1 (.inl rfl) rfl rfl ⟨rfl, rfl⟩ (by exact Split.auto)) | (exact St_ret2 (.inl rfl) rfl rfl rfl ⟨rfl, rfl⟩ (by exact Split.auto)) | (exact St_ret3 (.inl rfl) rfl rfl rfl rfl ⟨rfl, rfl⟩ (by exact Split.auto))) | (exfalso; simp at hb; done) | (refine St_ret1 (.inl rfl) rfl rfl ⟨?_, rfl⟩ (by exact Split.auto); congr 1; first | (simp; done) | (rw [decide_eq_true_eq]; omega)))
    · generalize (fput f 1400).1 = a at *
      generalize (fput f 1400).2 = e at *
      generalize (fput g 1400).1 = b at *
      generalize (fput g 1400).2 = h at *
      repeat' (first | (apply St_call (hf := fawake_sp); exact rfl; exact rfl; exact Split.auto; rintro _ _ ⟨rfl, rfl⟩) | (apply St_call (hf := c1); exact rfl; exact rfl; exact Split.auto; rintro _ _ ⟨rfl, rfl⟩) | (apply St_call (hf := c2); exact rfl; exact rfl; exact Split.auto; rintro _ _ ⟨rfl, rfl⟩) | (refine St_step ?_; (try with_reducible intro _)) | (refine St_step2 ?_ ?_ <;> (intro hb; (try simp only [beq_iff_eq, bne_iff_ne, decide_eq_true_eq, decide_eq_false_iff_not, Bool.not_eq_true', Bool.not_eq_false', beq_eq_false_iff_ne, bne_eq_false_iff_eq, ne_eq, Int.not_lt, Int.not_le, gt_iff_lt, ge_iff_le] at hb); (try (first | exact Bool.noConfusion hb | exact absurd trivial hb | (exfalso; omega))))) | fail)
      all_goals (first | (first | contradiction | (exfalso; omega) | (exact St_ret1 (.inl rfl) rfl rfl ⟨rfl, rfl⟩ (by exact Split.auto)) | (exact St_ret2 (.inl rfl) rfl rfl rfl ⟨rfl, rfl⟩ (by exact Split.auto)) | (exact St_ret3 (.inl rfl) rfl rfl rfl rfl ⟨rfl, rfl⟩ (by exact Split.auto))) | (exfalso; simp at hb; done) | (refine St_ret1 (.inl rfl) rfl rfl ⟨?_, rfl⟩ (by exact Split.auto); congr 1; first | (simp; done) | (rw [decide_eq_true_eq]; omega)))
  · repeat' (first | (apply St_call (hf := fawake_sp); exact rfl; exact rfl; exact Split.auto; rintro _ _ ⟨rfl, rfl⟩) | (refine St_step ?_; (try with_reducible intro _)) | (refine St_step2 ?_ ?_ <;> (intro hb; (try simp only [beq_iff_eq, bne_iff_ne, decide_eq_true_eq, decide_eq_false_iff_not, Bool.not_eq_true', Bool.not_eq_false', beq_eq_false_iff_ne, bne_eq_false_iff_eq, ne_eq, Int.not_lt, Int.not_le, gt_iff_lt, ge_iff_le] at hb); (try (first | exact Bool.noConfusion hb | exact absurd trivial hb | (exfalso; omega))))) | fail)
    all_goals (first | (first | contradiction | (exfalso; omega) | (exact St_ret1 (.inl rfl) rfl rfl ⟨rfl, rfl⟩ (by exact Split.auto)) | (exact St_ret2 (.inl rfl) rfl rfl rfl ⟨rfl, rfl⟩ (by exact Split.auto)) | (exact St_ret3 (.inl rfl) rfl rfl rfl rfl ⟨rfl, rfl⟩ (by exact Split.auto))) | (exfalso; simp at hb; done) | (refine St_ret1 (.inl rfl) rfl rfl ⟨?_, rfl⟩ (by exact Split.auto); congr 1; first | (simp; done) | (rw [decide_eq_true_eq]; omega)))
end Go.Proofs.YtffnnddhlpcicaaDoor
