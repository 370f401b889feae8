/- Contracts: chapbooklaw09's statements. -/
import Derived.Test.YtffnnddhlpcicaaDoorC8
import Derived.Test.YtffnnddhlpcicaaDoorSlEq
namespace Go.Proofs.YtffnnddhlpcicaaDoor
open Go SL Pl
set_option autoImplicit false
set_option maxRecDepth 100000
set_option linter.unusedSimpArgs false
set_option linter.unusedVariables false
attribute [local irreducible] St Sq Exec QExec wpList wpQuiet Code.wp Exit.then Exit.inBlock bodyPost At Rd wpOp Wa QK GB
theorem aw1 : fput ⟨1, 0, 5, []⟩ 64 = ([1, 0, 5, 0, 212, 24, 10, 200], 0) := by kernel_rfl
theorem aw2 : fget [1, 0, 5, 0, 212, 24, 10, 200] = (⟨1, 0, 5, []⟩, 0) := by kernel_rfl
theorem aw3 : (fget [97, 98, 99, 100, 101, 102, 103, 104]).2 = 6 := by kernel_rfl
theorem aw4 : (fput ⟨1, 0, 0, [120]⟩ 64).2 = 13 := by kernel_rfl
theorem fawake_sp : Sp Tryd.prog 10 [] [GB] (fun v M => v = .bool true ∧ M = [GB]) := by
  refine Sp.intro (P := Tryd.prog) (Tryd.func10) rfl Tryd.ntmps10 (by decide) rfl ?_
  intro ρ F
  have c1 := fput_sp ⟨1, 0, 5, []⟩ 64 (by simp)
  have c2 := fget_sp [1, 0, 5, 0, 212, 24, 10, 200] (by simp)
  have c3 := fget_sp [97, 98, 99, 100, 101, 102, 103, 104] (by simp)
  have c4 := fput_sp ⟨1, 0, 0, [120]⟩ 64 (by simp)
  rw [aw1] at c1; rw [aw2] at c2; rw [aw3] at c3; rw [aw4] at c4
  dsimp only at c1 c2
  generalize (fget [97, 98, 99, 100, 101, 102, 103, 104]).1 = g3 at c3
  generalize (fput ⟨1, 0, 0, [120]⟩ 64).1 = g4 at c4
  repeat' (first | (apply St_call (hf := c1); exact rfl; exact rfl; exact Split.auto; rintro _ _ ⟨rfl, rfl⟩) | (apply St_call (hf := c2); exact rfl; exact rfl; exact Split.auto; rintro _ _ ⟨rfl, rfl⟩) | (apply St_call (hf := c3); exact rfl; exact rfl; exact Split.auto; rintro _ _ ⟨rfl, rfl⟩) | (apply St_call (hf := c4); exact rfl; exact rfl; exact Split.auto; rintro _ _ ⟨rfl, rfl⟩) | (apply St_rd; exact rfl; (first | (apply Rd_eqStruct tb; exact rfl; exact rfl; exact rfl; kernel_rfl; exact rfl) | (apply Rd_sliceStrTo tb; exact rfl; exact rfl; exact rfl; decide))) | (apply Sq_rd; exact rfl; (first | (apply Rd_eqStruct tb; exact rfl; exact rfl; exact rfl; kernel_rfl; exact rfl) | (apply Rd_sliceStrTo tb; exact rfl; exact rfl; exact rfl; decide))) | (refine St_step ?_; (try with_reducible intro _)) | (refine St_step2 ?_ ?_ <;> (intro hb; (try simp only [beq_iff_eq, bne_iff_ne, decide_eq_true_eq, decide_eq_false_iff_not, Bool.not_eq_true', Bool.not_eq_false', beq_eq_false_iff_ne, bne_eq_false_iff_eq, ne_eq, Int.not_lt, Int.not_le, gt_iff_lt, ge_iff_le] at hb); (try (first | exact Bool.noConfusion hb | exact absurd trivial hb | (exfalso; omega))))) | fail)
  all_goals (first | contradiction | (exfalso; omega) | (exact St_ret1 (.inl rfl) rfl rfl ⟨rfl, rfl⟩ (by exact Split.auto)) | (exact St_ret2 (.inl rfl) rfl rfl rfl ⟨rfl, rfl⟩ (by exact Split.auto)) | (exact St_ret3 (.inl rfl) rfl rfl rfl rfl ⟨rfl, rfl⟩ (by exact Split.auto)))
theorem fput_short (f : Fr) (mtu : Int) : ((fput f mtu).1.length : Int) ≤ max mtu 0 := by
  unfold fput
  split
  · simp; omega
  · split
    · simp; omega
    · split
      · simp; omega
      · show ((fbytes f).length : Int) ≤ _; omega
theorem framePuts_sp (f : Fr) (mtu : Int) (hd : f.data.length ≤ 9223372036854775807) : Sp Tryd.prog 3 [.agg (fv f).toArray, .int .i64 mtu] [GB] (fun v M => v = .bool true ∧ M = [GB]) := by
  refine Sp.intro (P := Tryd.prog) (Tryd.func3) rfl Tryd.ntmps3 (by decide) rfl ?_
  intro ρ F
  by_cases hl : f.data.length ≤ 2000
  · have c1 := fput_sp f mtu (by omega)
    have c2 := refFput_sp f mtu (by omega)
    have c3 := fput_short f mtu
    generalize (fput f mtu).1 = b at *
    generalize (fput f mtu).2 = e at *
    repeat' (first | (apply St_call (hf := fawake_sp); exact rfl; exact rfl; exact Split.auto; rintro _ _ ⟨rfl, rfl⟩) | (apply St_call (hf := c1); exact rfl; exact rfl; exact Split.auto; rintro _ _ ⟨rfl, rfl⟩) | (apply St_call (hf := c2); exact rfl; exact rfl; exact Split.auto; rintro _ _ ⟨rfl, rfl⟩) | (refine St_step ?_; (try with_reducible intro _)) | (refine St_step2 ?_ ?_ <;> (intro hb; (try simp only [beq_iff_eq, bne_iff_ne, decide_eq_true_eq, decide_eq_false_iff_not, Bool.not_eq_true', Bool.not_eq_false', beq_eq_false_iff_ne, bne_eq_false_iff_eq, ne_eq, Int.not_lt, Int.not_le, gt_iff_lt, ge_iff_le] at hb); (try (first | exact Bool.noConfusion hb | exact absurd trivial hb | (exfalso; omega))))) | fail)
    all_goals (first | (first | contradiction | (exfalso; omega) | (exact St_ret1 (.inl rfl) rfl rfl ⟨rfl, rfl⟩ (by exact Split.auto)) | (exact St_ret2 (.inl rfl) rfl rfl rfl ⟨rfl, rfl⟩ (by exact Split.auto)) | (exact St_ret3 (.inl rfl) rfl rfl rfl rfl ⟨rfl, rfl⟩ (by exact Split.auto))) | (exfalso; simp at hb; done) | (refine St_ret1 (.inl rfl) rfl rfl ⟨?_, rfl⟩ (by exact Split.auto); congr 1; first | (simp; done) | (rw [decide_eq_true_eq]; omega)))
  · repeat' (first | (apply St_call (hf := fawake_sp); exact rfl; exact rfl; exact Split.auto; rintro _ _ ⟨rfl, rfl⟩) | (refine St_step ?_; (try with_reducible intro _)) | (refine St_step2 ?_ ?_ <;> (intro hb; (try simp only [beq_iff_eq, bne_iff_ne, decide_eq_true_eq, decide_eq_false_iff_not, Bool.not_eq_true', Bool.not_eq_false', beq_eq_false_iff_ne, bne_eq_false_iff_eq, ne_eq, Int.not_lt, Int.not_le, gt_iff_lt, ge_iff_le] at hb); (try (first | exact Bool.noConfusion hb | exact absurd trivial hb | (exfalso; omega))))) | fail)
    all_goals (first | (first | contradiction | (exfalso; omega) | (exact St_ret1 (.inl rfl) rfl rfl ⟨rfl, rfl⟩ (by exact Split.auto)) | (exact St_ret2 (.inl rfl) rfl rfl rfl ⟨rfl, rfl⟩ (by exact Split.auto)) | (exact St_ret3 (.inl rfl) rfl rfl rfl rfl ⟨rfl, rfl⟩ (by exact Split.auto))) | (exfalso; simp at hb; done) | (refine St_ret1 (.inl rfl) rfl rfl ⟨?_, rfl⟩ (by exact Split.auto); congr 1; first | (simp; done) | (rw [decide_eq_true_eq]; omega)))
theorem frameGets_sp (b : List UInt8) (hd : b.length ≤ 9223372036854775807) : Sp Tryd.prog 4 [str b] [GB] (fun v M => v = .bool true ∧ M = [GB]) := by
  refine Sp.intro (P := Tryd.prog) (Tryd.func4) rfl Tryd.ntmps4 (by decide) rfl ?_
  intro ρ F
  by_cases hl : b.length ≤ 2000
  · have c1 := fget_sp b (by omega)
    have c2 := refFget_sp b (by omega)
    generalize (fget b).1 = f at *
    generalize (fget b).2 = e at *
    repeat' (first | (apply St_call (hf := fawake_sp); exact rfl; exact rfl; exact Split.auto; rintro _ _ ⟨rfl, rfl⟩) | (apply St_call (hf := c1); exact rfl; exact rfl; exact Split.auto; rintro _ _ ⟨rfl, rfl⟩) | (apply St_call (hf := c2); exact rfl; exact rfl; exact Split.auto; rintro _ _ ⟨rfl, rfl⟩) | (apply St_rd; exact rfl; (first | (apply Rd_eqStruct tb; exact rfl; exact rfl; exact rfl; kernel_rfl; exact rfl))) | (apply Sq_rd; exact rfl; (first | (apply Rd_eqStruct tb; exact rfl; exact rfl; exact rfl; kernel_rfl; exact rfl))) | (refine St_step ?_; (try with_reducible intro _)) | (refine St_step2 ?_ ?_ <;> (intro hb; (try simp only [beq_iff_eq, bne_iff_ne, decide_eq_true_eq, decide_eq_false_iff_not, Bool.not_eq_true', Bool.not_eq_false', beq_eq_false_iff_ne, bne_eq_false_iff_eq, ne_eq, Int.not_lt, Int.not_le, gt_iff_lt, ge_iff_le] at hb); (try (first | exact Bool.noConfusion hb | exact absurd trivial hb | (exfalso; omega))))) | fail)
    all_goals (first | (first | contradiction | (exfalso; omega) | (exact St_ret1 (.inl rfl) rfl rfl ⟨rfl, rfl⟩ (by exact Split.auto)) | (exact St_ret2 (.inl rfl) rfl rfl rfl ⟨rfl, rfl⟩ (by exact Split.auto)) | (exact St_ret3 (.inl rfl) rfl rfl rfl rfl ⟨rfl, rfl⟩ (by exact Split.auto))) | (exfalso; simp at hb; done) | (refine St_ret1 (.inl rfl) rfl rfl ⟨?_, rfl⟩ (by exact Split.auto); congr 1; first | (simp; done) | (rw [decide_eq_true_eq]; omega)))
  · repeat' (first | (apply St_call (hf := fawake_sp); exact rfl; exact rfl; exact Split.auto; rintro _ _ ⟨rfl, rfl⟩) | (refine St_step ?_; (try with_reducible intro _)) | (refine St_step2 ?_ ?_ <;> (intro hb; (try simp only [beq_iff_eq, bne_iff_ne, decide_eq_true_eq, decide_eq_false_iff_not, Bool.not_eq_true', Bool.not_eq_false', beq_eq_false_iff_ne, bne_eq_false_iff_eq, ne_eq, Int.not_lt, Int.not_le, gt_iff_lt, ge_iff_le] at hb); (try (first | exact Bool.noConfusion hb | exact absurd trivial hb | (exfalso; omega))))) | fail)
    all_goals (first | (first | contradiction | (exfalso; omega) | (exact St_ret1 (.inl rfl) rfl rfl ⟨rfl, rfl⟩ (by exact Split.auto)) | (exact St_ret2 (.inl rfl) rfl rfl rfl ⟨rfl, rfl⟩ (by exact Split.auto)) | (exact St_ret3 (.inl rfl) rfl rfl rfl rfl ⟨rfl, rfl⟩ (by exact Split.auto))) | (exfalso; simp at hb; done) | (refine St_ret1 (.inl rfl) rfl rfl ⟨?_, rfl⟩ (by exact Split.auto); congr 1; first | (simp; done) | (rw [decide_eq_true_eq]; omega)))
end Go.Proofs.YtffnnddhlpcicaaDoor
