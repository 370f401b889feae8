/- Contracts: frame's Get and its reference. -/
import Derived.Test.YtfjnacakpeommaaDoorC7
namespace Go.Proofs.YtfjnacakpeommaaDoor
open Go SL Pl
set_option autoImplicit false
set_option maxRecDepth 100000
set_option linter.unusedSimpArgs false
set_option linter.unusedVariables false
attribute [local irreducible] St Sq Exec QExec wpList wpQuiet Code.wp Exit.then Exit.inBlock bodyPost At Rd wpOp Wa QK GB
theorem unseald_len {b s : List UInt8} (h : unseald b = some s) : s.length ≤ b.length := by
  unfold unseald at h
  split at h
  · cases h; simp
  · cases h
set_option maxHeartbeats 1000000 in
theorem fget_sp (b : List UInt8) (hb0 : b.length ≤ 1000000) :
    Sp Tryd.prog 12 [str b] [GB] (fun v M => v = .tuple [.agg (fv (fget b).1).toArray, nat .i64 (fget b).2].toArray ∧ M = [GB]) := by
  refine Sp.intro (P := Tryd.prog) (Tryd.func12) rfl Tryd.ntmps12 (by decide) rfl ?_
  intro ρ F
  have ho := open_sp b (by omega)
  cases hu : unseald b with
  | none =>
    have hfg : fget b = (fr0, 6) := by unfold fget; rw [hu]
    rw [hu] at ho
    rw [hfg]
    repeat' (first | (apply St_call (hf := ho); exact rfl; exact rfl; exact Split.auto; rintro _ _ ⟨rfl, rfl⟩) | (refine St_step ?_; (try with_reducible intro _)) | (refine St_step2 ?_ ?_ <;> (intro hb; (try simp only [beq_iff_eq, bne_iff_ne, decide_eq_true_eq, decide_eq_false_iff_not, Bool.not_eq_true', Bool.not_eq_false', beq_eq_false_iff_ne, bne_eq_false_iff_eq, ne_eq, Int.not_lt, Int.not_le, gt_iff_lt, ge_iff_le] at hb); (try (first | exact Bool.noConfusion hb | exact absurd trivial hb | (exfalso; omega))))) | fail)
    exact St_retCT tb (.inl rfl) rfl rfl rfl rfl rfl (by exact Has.auto) rfl ⟨rfl, rfl⟩ (by exact Split.auto)
  | some s =>
    have hs : s.length ≤ 1000000 := Nat.le_trans (unseald_len hu) hb0
    rw [hu] at ho
    repeat' (first | (apply St_call (hf := ho); exact rfl; exact rfl; exact Split.auto; rintro _ _ ⟨rfl, rfl⟩) | (apply St_call; exact rfl; exact rfl; exact rread_sp s; exact Split.auto; rintro _ _ ⟨k, rfl, rfl⟩) | (refine St_step ?_; (try with_reducible intro _)) | (refine St_step2 ?_ ?_ <;> (intro hb; (try simp only [beq_iff_eq, bne_iff_ne, decide_eq_true_eq, decide_eq_false_iff_not, Bool.not_eq_true', Bool.not_eq_false', beq_eq_false_iff_ne, bne_eq_false_iff_eq, ne_eq, Int.not_lt, Int.not_le, gt_iff_lt, ge_iff_le] at hb); (try (first | exact Bool.noConfusion hb | exact absurd trivial hb | (exfalso; omega))))) | fail)
    obtain ⟨n1, q1, h1⟩ : ∃ n r, rnum s 1099511627776 ⟨0, 0⟩ = (n, r) := ⟨_, _, rfl⟩
    have c1 := rnumber_sp k s ⟨0, 0⟩ 1099511627776 hs (Nat.zero_le _) (by decide)
    have l1 : q1.at_ ≤ s.length := by have := rnum_le (lim := 1099511627776) (r := ⟨0, 0⟩) (Nat.zero_le s.length); rw [h1] at this; exact this
    rw [h1] at c1
    have hfg : fget b = ftail s n1 (if n1 = 0 then ⟨q1.at_, rfail q1.e 1⟩ else q1) := by unfold fget; rw [hu]; exact fgetIn_eq h1
    rw [hfg]
    obtain ⟨r1, hr1⟩ : ∃ r1 : Rs, r1 = if n1 = 0 then ⟨q1.at_, rfail q1.e 1⟩ else q1 := ⟨_, rfl⟩
    rw [← hr1]
    have l1' : r1.at_ ≤ s.length := by rw [hr1]; split <;> exact l1
    repeat' (first | (apply St_call (hf := c1); exact rfl; exact rfl; exact Split.auto; rintro _ _ ⟨rfl, rfl⟩) | (apply St_call (hf := fail_sp k s q1 1); exact rfl; exact rfl; exact Split.auto; rintro _ _ ⟨rfl, rfl⟩) | (refine St_step ?_; (try with_reducible intro _)) | (refine St_step2 ?_ ?_ <;> (intro hb; (try simp only [beq_iff_eq, bne_iff_ne, decide_eq_true_eq, decide_eq_false_iff_not, Bool.not_eq_true', Bool.not_eq_false', beq_eq_false_iff_ne, bne_eq_false_iff_eq, ne_eq, Int.not_lt, Int.not_le, gt_iff_lt, ge_iff_le] at hb); (try (first | exact Bool.noConfusion hb | exact absurd trivial hb | (exfalso; omega))))) | fail)
    all_goals refine St_cel (r := false) (b := k) (cs' := [str s, nat .i64 r1.at_, nat .i64 r1.e]) (by exact Has.auto) (by rw [hr1]; first | rw [if_pos (by omega)] | rw [if_neg (by omega)]) ?_
    all_goals
      obtain ⟨n2, q2, h2⟩ : ∃ n r, rnum s 1125899906842624 r1 = (n, r) := ⟨_, _, rfl⟩
      have c2 := rnumber_sp k s r1 1125899906842624 hs l1' (by decide)
      have l2 : q2.at_ ≤ s.length := by have := rnum_le (lim := 1125899906842624) l1'; rw [h2] at this; exact this
      obtain ⟨n3, q3, h3⟩ : ∃ n r, rnum s 1125899906842624 q2 = (n, r) := ⟨_, _, rfl⟩
      have c3 := rnumber_sp k s q2 1125899906842624 hs l2 (by decide)
      have l3 : q3.at_ ≤ s.length := by have := rnum_le (lim := 1125899906842624) l2; rw [h3] at this; exact this
      obtain ⟨d4, q4, h4⟩ : ∃ n r, rtext s 1400 q3 = (n, r) := ⟨_, _, rfl⟩
      have c4 := rtext_sp k s q3 1400 hs l3 (by decide)
      have l4 : q4.at_ ≤ s.length := by have := rtext_le (lim := 1400) l3; rw [h4] at this; exact this
      rw [h2] at c2; rw [h3] at c3; rw [h4] at c4
      rw [ftail_eq h2 h3 h4]
      obtain ⟨r5, hr5⟩ : ∃ r5 : Rs, r5 = if d4 ≠ [] ∧ n2 = 0 then ⟨q4.at_, rfail q4.e 13⟩ else q4 := ⟨_, rfl⟩
      have l5 : r5.at_ ≤ s.length := by rw [hr5]; split <;> exact l4
      have c5 := rend_sp k s r5 hs l5
      simp only [← hr5]
      repeat' (first | (apply St_call (hf := c2); exact rfl; exact rfl; exact Split.auto; rintro _ _ ⟨rfl, rfl⟩) | (apply St_call (hf := c3); exact rfl; exact rfl; exact Split.auto; rintro _ _ ⟨rfl, rfl⟩) | (apply St_call (hf := c4); exact rfl; exact rfl; exact Split.auto; rintro _ _ ⟨rfl, rfl⟩) | (apply St_call (hf := fail_sp k s q4 13); exact rfl; exact rfl; exact Split.auto; rintro _ _ ⟨rfl, rfl⟩) | (refine St_step ?_; (try with_reducible intro _)) | (refine St_step2 ?_ ?_ <;> (intro hb; (try simp only [beq_iff_eq, bne_iff_ne, decide_eq_true_eq, decide_eq_false_iff_not, Bool.not_eq_true', Bool.not_eq_false', beq_eq_false_iff_ne, bne_eq_false_iff_eq, ne_eq, Int.not_lt, Int.not_le, gt_iff_lt, ge_iff_le] at hb); (try (first | exact Bool.noConfusion hb | exact absurd trivial hb | (exfalso; omega))))) | fail)
    all_goals refine St_cel (r := false) (b := k) (cs' := [str s, nat .i64 r5.at_, nat .i64 r5.e]) (by exact Has.auto) (by rw [hr5]; first | rw [if_pos ⟨by assumption, by omega⟩] | rw [if_neg (fun h => absurd h.1 (by assumption))] | rw [if_neg (fun h => absurd h.2 (by omega))] | rw [if_neg (fun h => h.1 (by assumption))]) ?_
    all_goals
      by_cases he : rend s r5 = 0
      · rw [if_neg (fun h => h he)]
        rw [he] at c5
        repeat' (first | (apply St_call (hf := c5); exact rfl; exact rfl; exact Split.auto; rintro _ _ ⟨rfl, rfl⟩) | (refine St_step ?_; (try with_reducible intro _)) | (refine St_step2 ?_ ?_ <;> (intro hb; (try simp only [beq_iff_eq, bne_iff_ne, decide_eq_true_eq, decide_eq_false_iff_not, Bool.not_eq_true', Bool.not_eq_false', beq_eq_false_iff_ne, bne_eq_false_iff_eq, ne_eq, Int.not_lt, Int.not_le, gt_iff_lt, ge_iff_le] at hb); (try (first | exact Bool.noConfusion hb | exact absurd trivial hb | (exfalso; omega))))) | fail)
        exact St_retCT tb (.inl rfl) rfl rfl rfl rfl rfl (by exact Has.auto) rfl ⟨rfl, rfl⟩ (by exact Split.auto)
      · rw [if_pos he]
        repeat' (first | (apply St_call (hf := c5); exact rfl; exact rfl; exact Split.auto; rintro _ _ ⟨rfl, rfl⟩) | (refine St_step ?_; (try with_reducible intro _)) | (refine St_step2 ?_ ?_ <;> (intro hb; (try simp only [beq_iff_eq, bne_iff_ne, decide_eq_true_eq, decide_eq_false_iff_not, Bool.not_eq_true', Bool.not_eq_false', beq_eq_false_iff_ne, bne_eq_false_iff_eq, ne_eq, Int.not_lt, Int.not_le, gt_iff_lt, ge_iff_le] at hb); (try (first | exact Bool.noConfusion hb | exact absurd trivial hb | (exfalso; omega))))) | fail)
        exact St_retCT tb (.inl rfl) rfl rfl rfl rfl rfl (by exact Has.auto) rfl ⟨rfl, rfl⟩ (by exact Split.auto)
end Go.Proofs.YtfjnacakpeommaaDoor
