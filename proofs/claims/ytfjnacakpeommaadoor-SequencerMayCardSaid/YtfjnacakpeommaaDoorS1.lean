/- Contracts: chapbooklaw16.SequencerMay. -/
import Derived.Test.YtfjnacakpeommaaDoorC29
namespace Go.Proofs.YtfjnacakpeommaaDoor
open Go SL Pl
set_option autoImplicit false
set_option maxRecDepth 100000
set_option linter.unusedSimpArgs false
set_option linter.unusedVariables false
attribute [local irreducible] St Sq Exec QExec wpList wpQuiet Code.wp Exit.then Exit.inBlock bodyPost At Rd wpOp Wa QK GB
attribute [local irreducible] LkP LgP SqP PeP SdP RcP RdP
set_option maxHeartbeats 4000000 in
theorem sequencerMay_sp (c : Cfg) : Sp Tryd.prog 3 [.agg (cfgC c).toArray] [GB] (fun v M => v = .bool true ∧ M = [GB]) := by
  refine Sp.intro (P := Tryd.prog) (Tryd.func3) rfl Tryd.ntmps3 (by decide) rfl ?_
  intro ρ F
  have m1 := may16_sp c
  have m2 := sMay_sp c
  by_cases hc : cfgOk c
  · have n1 := sNewOk_sp hc
    rw [decide_eq_true hc] at m1
    rw [if_pos hc] at m2
    repeat' (first | (apply St_call (hf := m1); exact rfl; exact rfl; exact Split.auto; rintro _ _ ⟨rfl, rfl⟩) | (apply St_call (hf := n1); exact rfl; exact rfl; exact Split.auto; rintro _ _ ⟨sb, rfl, rfl⟩) | (apply St_call (hf := m2); exact rfl; exact rfl; exact Split.auto; rintro _ _ ⟨rfl, rfl⟩) | (apply St_call (hf := awake_sp); exact rfl; exact rfl; exact Split.auto; rintro _ _ ⟨rfl, rfl⟩) | (apply St_rd; exact rfl; (first | (apply Rd_ptrNeNil' tb; exact rfl; exact rfl; exact rfl) | (apply Rd_boolEq tb; exact rfl; exact rfl; exact rfl))) | (apply Sq_rd; exact rfl; (first | (apply Rd_ptrNeNil' tb; exact rfl; exact rfl; exact rfl) | (apply Rd_boolEq tb; exact rfl; exact rfl; exact rfl))) | (refine St_step ?_; (try with_reducible intro _)) | (refine St_step2 ?_ ?_ <;> (intro hb; (try simp only [beq_iff_eq, bne_iff_ne, decide_eq_true_eq, decide_eq_false_iff_not, Bool.not_eq_true', Bool.not_eq_false', beq_eq_false_iff_ne, bne_eq_false_iff_eq, ne_eq, Int.not_lt, Int.not_le, gt_iff_lt, ge_iff_le] at hb); (try (first | exact Bool.noConfusion hb | exact absurd trivial hb | (exfalso; omega))))) | fail)
    all_goals (first | (first | contradiction | (exfalso; omega) | (exact St_ret1 (.inl rfl) rfl rfl ⟨rfl, rfl⟩ (by exact Split.auto)) | (exact St_ret2 (.inl rfl) rfl rfl rfl ⟨rfl, rfl⟩ (by exact Split.auto)) | (exact St_ret3 (.inl rfl) rfl rfl rfl rfl ⟨rfl, rfl⟩ (by exact Split.auto))) | (exfalso; simp at hb; done) | (refine St_ret1 (.inl rfl) rfl rfl ⟨?_, rfl⟩ (by exact Split.auto); congr 1; first | (simp; done) | (rw [decide_eq_true_eq]; omega)))
  · have n1 := sNewNo_sp hc
    rw [decide_eq_false hc] at m1
    rw [if_neg hc] at m2
    repeat' (first | (apply St_call (hf := m1); exact rfl; exact rfl; exact Split.auto; rintro _ _ ⟨rfl, rfl⟩) | (apply St_call (hf := n1); exact rfl; exact rfl; exact Split.auto; rintro _ _ ⟨rfl, rfl⟩) | (apply St_call (hf := m2); exact rfl; exact rfl; exact Split.auto; rintro _ _ ⟨rfl, rfl⟩) | (apply St_call (hf := awake_sp); exact rfl; exact rfl; exact Split.auto; rintro _ _ ⟨rfl, rfl⟩) | (apply St_rd; exact rfl; (first | (apply Rd_nilNeNil tb; exact rfl; exact rfl; exact rfl) | (apply Rd_boolEq tb; exact rfl; exact rfl; exact rfl))) | (apply Sq_rd; exact rfl; (first | (apply Rd_nilNeNil tb; exact rfl; exact rfl; exact rfl) | (apply Rd_boolEq tb; exact rfl; exact rfl; exact rfl))) | (refine St_step ?_; (try with_reducible intro _)) | (refine St_step2 ?_ ?_ <;> (intro hb; (try simp only [beq_iff_eq, bne_iff_ne, decide_eq_true_eq, decide_eq_false_iff_not, Bool.not_eq_true', Bool.not_eq_false', beq_eq_false_iff_ne, bne_eq_false_iff_eq, ne_eq, Int.not_lt, Int.not_le, gt_iff_lt, ge_iff_le] at hb); (try (first | exact Bool.noConfusion hb | exact absurd trivial hb | (exfalso; omega))))) | fail)
    all_goals (first | (first | contradiction | (exfalso; omega) | (exact St_ret1 (.inl rfl) rfl rfl ⟨rfl, rfl⟩ (by exact Split.auto)) | (exact St_ret2 (.inl rfl) rfl rfl rfl ⟨rfl, rfl⟩ (by exact Split.auto)) | (exact St_ret3 (.inl rfl) rfl rfl rfl rfl ⟨rfl, rfl⟩ (by exact Split.auto))) | (exfalso; simp at hb; done) | (refine St_ret1 (.inl rfl) rfl rfl ⟨?_, rfl⟩ (by exact Split.auto); congr 1; first | (simp; done) | (rw [decide_eq_true_eq]; omega)))
end Go.Proofs.YtfjnacakpeommaaDoor
