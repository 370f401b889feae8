/- Contracts: round.Fits. -/
import Derived.Test.YtfjnacakpeommaaDoorC12
namespace Go.Proofs.YtfjnacakpeommaaDoor
open Go SL Pl
set_option autoImplicit false
set_option maxRecDepth 100000
set_option linter.unusedSimpArgs false
set_option linter.unusedVariables false
attribute [local irreducible] St Sq Exec QExec wpList wpQuiet Code.wp Exit.then Exit.inBlock bodyPost At Rd wpOp Wa QK GB
theorem rFits_sp (q : Bool) (l : List Up) (v : Value) (mtu : Int) : Sp Tryd.prog 28 [v, .int .i64 mtu] [UL q v l, GB] (fun w M => w = .bool (rfits l mtu) ∧ M = [UL q v l, GB]) := by
  refine Sp.intro (P := Tryd.prog) (Tryd.func28) rfl Tryd.ntmps28 (by decide) rfl ?_
  intro ρ F
  refine St_rsIs (by exact Has.auto) ?_
  rintro A c rfl
  have hp := rPut_sp q ⟨64, 1099511627776, l⟩ (.slice A l.length c)
  unfold rfits
  unfold rput at hp
  by_cases h0 : rmay ⟨64, 1099511627776, l⟩ = 0
  · have hlen := rbytes_len h0
    rw [if_neg (fun h => h h0)] at hp
    dsimp only at hp
    generalize rbytes ⟨64, 1099511627776, l⟩ = b at *
    generalize rmay ⟨64, 1099511627776, l⟩ = e at *
    subst h0
    repeat' (first | (apply St_call (hf := hp); exact rfl; exact rfl; exact Split.auto; rintro _ _ ⟨rfl, rfl⟩) | (apply St_call (hf := rin_sp _ _ _); exact rfl; exact rfl; exact Split.auto; rintro _ _ ⟨rfl, rfl⟩) | (refine St_step ?_; (try with_reducible intro _)) | (refine St_step2 ?_ ?_ <;> (intro hb; (try simp only [beq_iff_eq, bne_iff_ne, decide_eq_true_eq, decide_eq_false_iff_not, Bool.not_eq_true', Bool.not_eq_false', beq_eq_false_iff_ne, bne_eq_false_iff_eq, ne_eq, Int.not_lt, Int.not_le, gt_iff_lt, ge_iff_le] at hb); (try (first | exact Bool.noConfusion hb | exact absurd trivial hb | (exfalso; omega))))) | fail)
    all_goals (refine St_ret1 (.inl rfl) rfl rfl ⟨?_, rfl⟩ (by exact Split.auto))
    all_goals first
      | (congr 1; rw [decide_eq_decide]; omega)
      | (congr 1; rw [eq_comm, decide_eq_false_iff_not]; omega)
      | (congr 1; rw [eq_comm, decide_eq_true_eq]; omega)
  · rw [if_pos h0] at hp
    dsimp only at hp
    generalize rbytes ⟨64, 1099511627776, l⟩ = b at *
    generalize rmay ⟨64, 1099511627776, l⟩ = e at *
    repeat' (first | (apply St_call (hf := hp); exact rfl; exact rfl; exact Split.auto; rintro _ _ ⟨rfl, rfl⟩) | (apply St_call (hf := rin_sp _ _ _); exact rfl; exact rfl; exact Split.auto; rintro _ _ ⟨rfl, rfl⟩) | (refine St_step ?_; (try with_reducible intro _)) | (refine St_step2 ?_ ?_ <;> (intro hb; (try simp only [beq_iff_eq, bne_iff_ne, decide_eq_true_eq, decide_eq_false_iff_not, Bool.not_eq_true', Bool.not_eq_false', beq_eq_false_iff_ne, bne_eq_false_iff_eq, ne_eq, Int.not_lt, Int.not_le, gt_iff_lt, ge_iff_le] at hb); (try (first | exact Bool.noConfusion hb | exact absurd trivial hb | (exfalso; omega))))) | fail)
    all_goals (refine St_ret1 (.inl rfl) rfl rfl ⟨?_, rfl⟩ (by exact Split.auto))
    all_goals first
      | (congr 1; rw [decide_eq_decide]; omega)
      | (congr 1; rw [eq_comm, decide_eq_false_iff_not]; omega)
      | (congr 1; rw [eq_comm, decide_eq_true_eq]; omega)
end Go.Proofs.YtfjnacakpeommaaDoor
