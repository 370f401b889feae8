/- Contracts: update.Read, round.Get, round.Copy. -/
import Derived.Test.YtfjnacakpeommaaDoorC13
import Derived.Test.YtfjnacakpeommaaDoorPl8
namespace Go.Proofs.YtfjnacakpeommaaDoor
open Go SL Pl
set_option autoImplicit false
set_option maxRecDepth 100000
set_option linter.unusedSimpArgs false
set_option linter.unusedVariables false
attribute [local irreducible] St Sq Exec QExec wpList wpQuiet Code.wp Exit.then Exit.inBlock bodyPost At Rd wpOp Wa QK GB
theorem zag_sp (n : Nat) (hn : n < 18446744073709551616) : Sp Tryd.prog 86 [nat .u64 n] [] (fun v M => v = .int .i64 (zag n) ∧ M = []) := by
  refine Sp.intro (P := Tryd.prog) (Tryd.func86) rfl Tryd.ntmps86 (by decide) rfl ?_
  intro ρ F
  unfold zag
  by_cases h : 4611686018427387904 ≤ n
  · rw [if_pos h]
    repeat' (first | (refine St_step ?_; (try with_reducible intro _)) | (refine St_step2 ?_ ?_ <;> (intro hb; (try simp only [beq_iff_eq, bne_iff_ne, decide_eq_true_eq, decide_eq_false_iff_not, Bool.not_eq_true', Bool.not_eq_false', beq_eq_false_iff_ne, bne_eq_false_iff_eq, ne_eq, Int.not_lt, Int.not_le, gt_iff_lt, ge_iff_le] at hb); (try (first | exact Bool.noConfusion hb | exact absurd trivial hb | (exfalso; omega))))) | fail)
    all_goals (first | contradiction | (exfalso; omega) | (exact St_ret1 (.inl rfl) rfl rfl ⟨rfl, rfl⟩ (by exact Split.auto)) | (exact St_ret2 (.inl rfl) rfl rfl rfl ⟨rfl, rfl⟩ (by exact Split.auto)) | (exact St_ret3 (.inl rfl) rfl rfl rfl rfl ⟨rfl, rfl⟩ (by exact Split.auto)))
  · rw [if_neg h]
    have hand : n &&& 1 = n % 2 := Nat.and_two_pow_sub_one_eq_mod _ 1
    have e1 : IntKind.i64.wrap ((n / 2 ^ ((1 : Int)).toNat : Nat) : Int) = ((n / 2 : Nat) : Int) := by
      show IntKind.i64.wrap ((n / 2 : Nat) : Int) = _
      exact IntWalk.i64_in _ (by omega)
    have e2 : IntKind.i64.wrap ((n &&& 1 : Nat) : Int) = ((n % 2 : Nat) : Int) := by
      rw [hand]; exact IntWalk.i64_in _ (by omega)
    by_cases h1 : n % 2 = 1
    · rw [if_pos h1]
      rw [h1] at e2
      obtain ⟨m, hm⟩ : ∃ m, n / 2 = m := ⟨_, rfl⟩
      have hml : m < 2305843009213693952 := by omega
      have e3 : IntKind.i64.wrap (0 - ((1 : Nat) : Int)) = -1 := rfl
      have e4 : intOp .xor .i64 ((n / 2 : Nat) : Int) (-1) = some (.int .i64 (-((n / 2 : Nat) : Int) - 1)) := by
        rw [hm]
        simp only [intOp]
        congr 2
        have a1 : (BitVec.ofInt IntKind.i64.bits (m : Int)) = BitVec.ofNat 64 m := by simp [IntKind.bits]
        have a2 : (BitVec.ofInt IntKind.i64.bits (-1)) = BitVec.allOnes 64 := rfl
        rw [a1, a2]
        have a4 : ((BitVec.ofNat 64 m ^^^ BitVec.allOnes 64 : BitVec 64)).toNat = 2 ^ 64 - 1 - m := by
          rw [BitVec.xor_allOnes, BitVec.toNat_not, BitVec.toNat_ofNat, Nat.mod_eq_of_lt (by omega)]
        show IntKind.i64.wrap (((BitVec.ofNat 64 m ^^^ BitVec.allOnes 64 : BitVec 64)).toNat : Int) = _
        rw [a4]
        have a3 : ((2 ^ 64 - 1 - m : Nat) : Int) = 18446744073709551615 - (m : Int) := by omega
        rw [a3]
        simp only [IntKind.wrap, IntKind.bits, IntKind.signed, if_true]
        simp
        omega
      repeat' (first | (apply St_rd; exact rfl; (first | (apply Rd_natShr; exact rfl; exact rfl; decide) | (apply Rd_natAnd; exact rfl; exact rfl; exact rfl; exact hn; decide) | (apply Rd_convV tb; exact rfl; exact rfl; exact rfl; exact e1) | (apply Rd_convV tb; exact rfl; exact rfl; exact rfl; exact e2) | (apply Rd_intOp (b := .xor); exact rfl; exact rfl; exact e4))) | (apply Sq_rd; exact rfl; (first | (apply Rd_natShr; exact rfl; exact rfl; decide) | (apply Rd_natAnd; exact rfl; exact rfl; exact rfl; exact hn; decide) | (apply Rd_convV tb; exact rfl; exact rfl; exact rfl; exact e1) | (apply Rd_convV tb; exact rfl; exact rfl; exact rfl; exact e2) | (apply Rd_intOp (b := .xor); exact rfl; exact rfl; exact e4))) | (refine St_step ?_; (try with_reducible intro _)) | (refine St_step2 ?_ ?_ <;> (intro hb; (try simp only [beq_iff_eq, bne_iff_ne, decide_eq_true_eq, decide_eq_false_iff_not, Bool.not_eq_true', Bool.not_eq_false', beq_eq_false_iff_ne, bne_eq_false_iff_eq, ne_eq, Int.not_lt, Int.not_le, gt_iff_lt, ge_iff_le] at hb); (try (first | exact Bool.noConfusion hb | exact absurd trivial hb | (exfalso; omega))))) | fail)
      exact St_ret1 (.inl rfl) rfl rfl ⟨rfl, rfl⟩ (by exact Split.auto)
    · rw [if_neg h1]
      have h0 : n % 2 = 0 := by omega
      rw [h0] at e2
      have e4 : intOp .xor .i64 ((n / 2 : Nat) : Int) (IntKind.i64.wrap (0 - ((0 : Nat) : Int))) = some (.int .i64 ((n / 2 : Nat) : Int)) := by
        generalize hm : n / 2 = m at *
        simp only [intOp]
        congr 2
        have a1 : (BitVec.ofInt IntKind.i64.bits (m : Int)) = BitVec.ofNat 64 m := by simp [IntKind.bits]
        have a2 : (BitVec.ofInt IntKind.i64.bits (IntKind.i64.wrap (0 - ((0 : Nat) : Int)))) = 0#64 := rfl
        rw [a1, a2]
        have a4 : ((BitVec.ofNat 64 m ^^^ 0#64 : BitVec 64)).toNat = m := by
          rw [BitVec.xor_zero, BitVec.toNat_ofNat, Nat.mod_eq_of_lt (by omega)]
        show IntKind.i64.wrap (((BitVec.ofNat 64 m ^^^ 0#64 : BitVec 64)).toNat : Int) = _
        rw [a4]
        exact IntWalk.i64_in _ (by omega)
      repeat' (first | (apply St_rd; exact rfl; (first | (apply Rd_natShr; exact rfl; exact rfl; decide) | (apply Rd_natAnd; exact rfl; exact rfl; exact rfl; exact hn; decide) | (apply Rd_convV tb; exact rfl; exact rfl; exact rfl; exact e1) | (apply Rd_convV tb; exact rfl; exact rfl; exact rfl; exact e2) | (apply Rd_intOp (b := .xor); exact rfl; exact rfl; exact e4))) | (apply Sq_rd; exact rfl; (first | (apply Rd_natShr; exact rfl; exact rfl; decide) | (apply Rd_natAnd; exact rfl; exact rfl; exact rfl; exact hn; decide) | (apply Rd_convV tb; exact rfl; exact rfl; exact rfl; exact e1) | (apply Rd_convV tb; exact rfl; exact rfl; exact rfl; exact e2) | (apply Rd_intOp (b := .xor); exact rfl; exact rfl; exact e4))) | (refine St_step ?_; (try with_reducible intro _)) | (refine St_step2 ?_ ?_ <;> (intro hb; (try simp only [beq_iff_eq, bne_iff_ne, decide_eq_true_eq, decide_eq_false_iff_not, Bool.not_eq_true', Bool.not_eq_false', beq_eq_false_iff_ne, bne_eq_false_iff_eq, ne_eq, Int.not_lt, Int.not_le, gt_iff_lt, ge_iff_le] at hb); (try (first | exact Bool.noConfusion hb | exact absurd trivial hb | (exfalso; omega))))) | fail)
      exact St_ret1 (.inl rfl) rfl rfl ⟨rfl, rfl⟩ (by exact Split.auto)
theorem rsigned_sp (k : Nat) (s : List UInt8) (r : Rs) (hs : s.length ≤ 1000000) (hr : r.at_ ≤ s.length) : Sp Tryd.prog 71 [.pointer (some ⟨k, 0, none⟩)] [Rk k s r, GB]
    (fun v M => v = .int .i64 (zag (rraw s r).1) ∧ M = [Rk k s (rraw s r).2, GB]) := by
  refine Sp.intro (P := Tryd.prog) (Tryd.func71) rfl Tryd.ntmps71 (by decide) rfl ?_
  intro ρ F
  have hlt := rraw_lt s r
  have c1 := rget_sp k s r hs hr
  have c2 := zag_sp (rraw s r).1 (by omega)
  repeat' (first | (apply St_call (hf := c1); exact rfl; exact rfl; exact Split.auto; rintro _ _ ⟨rfl, rfl⟩) | (apply St_call (hf := c2); exact rfl; exact rfl; exact Split.auto; rintro _ _ ⟨rfl, rfl⟩) | (refine St_step ?_; (try with_reducible intro _)) | (refine St_step2 ?_ ?_ <;> (intro hb; (try simp only [beq_iff_eq, bne_iff_ne, decide_eq_true_eq, decide_eq_false_iff_not, Bool.not_eq_true', Bool.not_eq_false', beq_eq_false_iff_ne, bne_eq_false_iff_eq, ne_eq, Int.not_lt, Int.not_le, gt_iff_lt, ge_iff_le] at hb); (try (first | exact Bool.noConfusion hb | exact absurd trivial hb | (exfalso; omega))))) | fail)
  all_goals (first | contradiction | (exfalso; omega) | (exact St_ret1 (.inl rfl) rfl rfl ⟨rfl, rfl⟩ (by exact Split.auto)) | (exact St_ret2 (.inl rfl) rfl rfl rfl ⟨rfl, rfl⟩ (by exact Split.auto)) | (exact St_ret3 (.inl rfl) rfl rfl rfl rfl ⟨rfl, rfl⟩ (by exact Split.auto)))
theorem rerr_sp (k : Nat) (s : List UInt8) (r : Rs) : Sp Tryd.prog 72 [.pointer (some ⟨k, 0, none⟩)] [Rk k s r]
    (fun v M => v = nat .i64 r.e ∧ M = [Rk k s r]) := by
  refine Sp.intro (P := Tryd.prog) (Tryd.func72) rfl Tryd.ntmps72 (by decide) rfl ?_
  intro ρ F
  repeat' (first | (refine St_step ?_; (try with_reducible intro _)) | (refine St_step2 ?_ ?_ <;> (intro hb; (try simp only [beq_iff_eq, bne_iff_ne, decide_eq_true_eq, decide_eq_false_iff_not, Bool.not_eq_true', Bool.not_eq_false', beq_eq_false_iff_ne, bne_eq_false_iff_eq, ne_eq, Int.not_lt, Int.not_le, gt_iff_lt, ge_iff_le] at hb); (try (first | exact Bool.noConfusion hb | exact absurd trivial hb | (exfalso; omega))))) | fail)
  all_goals (first | contradiction | (exfalso; omega) | (exact St_ret1 (.inl rfl) rfl rfl ⟨rfl, rfl⟩ (by exact Split.auto)) | (exact St_ret2 (.inl rfl) rfl rfl rfl ⟨rfl, rfl⟩ (by exact Split.auto)) | (exact St_ret3 (.inl rfl) rfl rfl rfl rfl ⟨rfl, rfl⟩ (by exact Split.auto)))
theorem rsome_sp (k : Nat) (s : List UInt8) (r : Rs) (lim : Nat) (hs : s.length ≤ 1000000) (hr : r.at_ ≤ s.length) (hlim : lim ≤ 1152921504606846976) : Sp Tryd.prog 50 [.pointer (some ⟨k, 0, none⟩), nat .i64 lim] [Rk k s r, GB]
    (fun v M => v = nat .i64 (rsome s lim r).1 ∧ M = [Rk k s (rsome s lim r).2, GB]) := by
  refine Sp.intro (P := Tryd.prog) (Tryd.func50) rfl Tryd.ntmps50 (by decide) rfl ?_
  intro ρ F
  have c1 := rnumber_sp k s r lim hs hr hlim
  have c2 := fail_sp k s (rnum s lim r).2 1
  unfold rsome rfailR
  generalize hq : rnum s lim r = q at *
  obtain ⟨n, q⟩ := q
  by_cases h0 : n = 0
  · subst h0
    simp only [if_true]
    repeat' (first | (apply St_call (hf := c1); exact rfl; exact rfl; exact Split.auto; rintro _ _ ⟨rfl, rfl⟩) | (apply St_call (hf := c2); exact rfl; exact rfl; exact Split.auto; rintro _ _ ⟨rfl, rfl⟩) | (refine St_step ?_; (try with_reducible intro _)) | (refine St_step2 ?_ ?_ <;> (intro hb; (try simp only [beq_iff_eq, bne_iff_ne, decide_eq_true_eq, decide_eq_false_iff_not, Bool.not_eq_true', Bool.not_eq_false', beq_eq_false_iff_ne, bne_eq_false_iff_eq, ne_eq, Int.not_lt, Int.not_le, gt_iff_lt, ge_iff_le] at hb); (try (first | exact Bool.noConfusion hb | exact absurd trivial hb | (exfalso; omega))))) | fail)
    all_goals (first | contradiction | (exfalso; omega) | (exact St_ret1 (.inl rfl) rfl rfl ⟨rfl, rfl⟩ (by exact Split.auto)) | (exact St_ret2 (.inl rfl) rfl rfl rfl ⟨rfl, rfl⟩ (by exact Split.auto)) | (exact St_ret3 (.inl rfl) rfl rfl rfl rfl ⟨rfl, rfl⟩ (by exact Split.auto)))
  · simp only [if_neg h0]
    repeat' (first | (apply St_call (hf := c1); exact rfl; exact rfl; exact Split.auto; rintro _ _ ⟨rfl, rfl⟩) | (apply St_call (hf := c2); exact rfl; exact rfl; exact Split.auto; rintro _ _ ⟨rfl, rfl⟩) | (refine St_step ?_; (try with_reducible intro _)) | (refine St_step2 ?_ ?_ <;> (intro hb; (try simp only [beq_iff_eq, bne_iff_ne, decide_eq_true_eq, decide_eq_false_iff_not, Bool.not_eq_true', Bool.not_eq_false', beq_eq_false_iff_ne, bne_eq_false_iff_eq, ne_eq, Int.not_lt, Int.not_le, gt_iff_lt, ge_iff_le] at hb); (try (first | exact Bool.noConfusion hb | exact absurd trivial hb | (exfalso; omega))))) | fail)
    all_goals (first | contradiction | (exfalso; omega) | (exact St_ret1 (.inl rfl) rfl rfl ⟨rfl, rfl⟩ (by exact Split.auto)) | (exact St_ret2 (.inl rfl) rfl rfl rfl ⟨rfl, rfl⟩ (by exact Split.auto)) | (exact St_ret3 (.inl rfl) rfl rfl rfl rfl ⟨rfl, rfl⟩ (by exact Split.auto)))
theorem uread_sp (k : Nat) (s : List UInt8) (r : Rs) (hs : s.length ≤ 1000000) (hr : r.at_ ≤ s.length) : Sp Tryd.prog 51 [.pointer (some ⟨k, 0, none⟩)] [Rk k s r, GB]
    (fun v M => v = .agg (uv (uread s r).1).toArray ∧ M = [Rk k s (uread s r).2, GB]) := by
  refine Sp.intro (P := Tryd.prog) (Tryd.func51) rfl Tryd.ntmps51 (by decide) rfl ?_
  intro ρ F
  have c1 := rnumber_sp k s r 5 hs hr (by decide)
  have f1 := fail_sp k s (rnum s 5 r).2 5
  have l1 := uread1_le hr
  have m1 : (uread1 s r).1 ≤ 5 := rnum_lim
  have c2 := rtext_sp k s (uread1 s r).2 16 hs l1 (by decide)
  have f2 := fail_sp k s (rtext s 16 (uread1 s r).2).2 1
  have l2 := uread2_le l1
  have c3 := rsigned_sp k s (uread2 s (uread1 s r).2).2 hs l2
  have c4 := rtext_sp k s (uread2 s (uread1 s r).2).2 32 hs l2 (by decide)
  have e1 : uread1 s r = ((rnum s 5 r).1, if (rnum s 5 r).1 = 0 then rfailR (rnum s 5 r).2 5 else (rnum s 5 r).2) := rfl
  have e2 : uread2 s (uread1 s r).2 = ((rtext s 16 (uread1 s r).2).1, if (rtext s 16 (uread1 s r).2).1 = [] then rfailR (rtext s 16 (uread1 s r).2).2 1 else (rtext s 16 (uread1 s r).2).2) := rfl
  have eu : uread s r = (if (utl s (uread1 s r).1 (uread2 s (uread1 s r).2).2).2.2.e ≠ 0 then (up0, (utl s (uread1 s r).1 (uread2 s (uread1 s r).2).2).2.2) else (⟨(uread2 s (uread1 s r).2).1, (uread1 s r).1, (utl s (uread1 s r).1 (uread2 s (uread1 s r).2).2).1, (utl s (uread1 s r).1 (uread2 s (uread1 s r).2).2).2.1⟩, (utl s (uread1 s r).1 (uread2 s (uread1 s r).2).2).2.2)) := rfl
  rw [eu]
  generalize hq1 : uread1 s r = q1 at *
  obtain ⟨kind, r1⟩ := q1
  generalize hq2 : uread2 s r1 = q2 at *
  obtain ⟨key, r2⟩ := q2
  generalize rnum s 5 r = p1 at *
  obtain ⟨pk, p1⟩ := p1
  generalize rtext s 16 r1 = p2 at *
  obtain ⟨pt, p2⟩ := p2
  injection e1 with e1a e1b
  injection e2 with e2a e2b
  dsimp only at e1a e1b e2a e2b c1 f1 c2 f2 c3 c4 m1
  subst e1a e2a
  have c5 := fun r => rerr_sp k s r
  have hcase : (kind = 1 ∨ kind = 3) ∨ (¬ (kind = 1 ∨ kind = 3) ∧ (kind = 2 ∨ kind = 4)) ∨ (¬ (kind = 1 ∨ kind = 3) ∧ ¬ (kind = 2 ∨ kind = 4)) := by omega
  obtain ⟨n, st, r3, h3⟩ : ∃ n st r3, utl s kind r2 = (n, st, r3) := ⟨_, _, _, rfl⟩
  have h4 := h3
  unfold utl at h4
  dsimp only
  rw [h3]
  dsimp only
  rcases hcase with hk | ⟨hk0, hk⟩ | ⟨hk0, hk⟩
  · rw [if_pos hk] at h4
    injection h4 with h4a h4b
    injection h4b with h4b h4c
    rw [h4a, h4c] at c3
    subst h4b
    repeat' (first | (apply St_call (hf := c1); exact rfl; exact rfl; exact Split.auto; rintro _ _ ⟨rfl, rfl⟩) | (apply St_call (hf := f1); exact rfl; exact rfl; exact Split.auto; rintro _ _ ⟨rfl, rfl⟩) | (refine St_step ?_; (try with_reducible intro _)) | (refine St_step2 ?_ ?_ <;> (intro hb; (try simp only [beq_iff_eq, bne_iff_ne, decide_eq_true_eq, decide_eq_false_iff_not, Bool.not_eq_true', Bool.not_eq_false', beq_eq_false_iff_ne, bne_eq_false_iff_eq, ne_eq, Int.not_lt, Int.not_le, gt_iff_lt, ge_iff_le] at hb); (try (first | exact Bool.noConfusion hb | exact absurd trivial hb | (exfalso; omega))))) | fail)
    all_goals first | (exfalso; omega) | skip
    all_goals refine St_cel (r := false) (b := k) (cs' := [str s, nat .i64 r1.at_, nat .i64 r1.e]) (by exact Has.auto) (by rw [e1b]; first | rw [if_pos (by omega)]; rfl | rw [if_neg (by omega)]) ?_
    all_goals repeat' (first | (apply St_call (hf := c2); exact rfl; exact rfl; exact Split.auto; rintro _ _ ⟨rfl, rfl⟩) | (apply St_call (hf := f2); exact rfl; exact rfl; exact Split.auto; rintro _ _ ⟨rfl, rfl⟩) | (refine St_step ?_; (try with_reducible intro _)) | (refine St_step2 ?_ ?_ <;> (intro hb; (try simp only [beq_iff_eq, bne_iff_ne, decide_eq_true_eq, decide_eq_false_iff_not, Bool.not_eq_true', Bool.not_eq_false', beq_eq_false_iff_ne, bne_eq_false_iff_eq, ne_eq, Int.not_lt, Int.not_le, gt_iff_lt, ge_iff_le] at hb); (try (first | exact Bool.noConfusion hb | exact absurd trivial hb | (exfalso; omega))))) | fail)
    all_goals first | (exfalso; omega) | skip
    all_goals refine St_cel (r := false) (b := k) (cs' := [str s, nat .i64 r2.at_, nat .i64 r2.e]) (by exact Has.auto) (by rw [e2b]; first | (rw [if_pos (by assumption)]; rfl) | rw [if_neg (by assumption)]) ?_
    all_goals
      by_cases he : r3.e = 0
      · rw [if_neg (fun h => h he)]
        repeat' (first | (apply St_call (hf := c3); exact rfl; exact rfl; exact Split.auto; rintro _ _ ⟨rfl, rfl⟩) | (apply St_call (hf := c5 _); exact rfl; exact rfl; exact Split.auto; rintro _ _ ⟨rfl, rfl⟩) | (refine St_step ?_; (try with_reducible intro _)) | (refine St_step2 ?_ ?_ <;> (intro hb; (try simp only [beq_iff_eq, bne_iff_ne, decide_eq_true_eq, decide_eq_false_iff_not, Bool.not_eq_true', Bool.not_eq_false', beq_eq_false_iff_ne, bne_eq_false_iff_eq, ne_eq, Int.not_lt, Int.not_le, gt_iff_lt, ge_iff_le] at hb); (try (first | exact Bool.noConfusion hb | exact absurd trivial hb | (exfalso; omega))))) | fail)
        all_goals first | (exfalso; omega) | exact St_retC tb (.inl rfl) rfl rfl rfl rfl (by exact Has.auto) rfl ⟨rfl, rfl⟩ (by exact Split.auto)
      · rw [if_pos he]
        repeat' (first | (apply St_call (hf := c3); exact rfl; exact rfl; exact Split.auto; rintro _ _ ⟨rfl, rfl⟩) | (apply St_call (hf := c5 _); exact rfl; exact rfl; exact Split.auto; rintro _ _ ⟨rfl, rfl⟩) | (refine St_step ?_; (try with_reducible intro _)) | (refine St_step2 ?_ ?_ <;> (intro hb; (try simp only [beq_iff_eq, bne_iff_ne, decide_eq_true_eq, decide_eq_false_iff_not, Bool.not_eq_true', Bool.not_eq_false', beq_eq_false_iff_ne, bne_eq_false_iff_eq, ne_eq, Int.not_lt, Int.not_le, gt_iff_lt, ge_iff_le] at hb); (try (first | exact Bool.noConfusion hb | exact absurd trivial hb | (exfalso; omega))))) | fail)
        all_goals first | (exfalso; omega) | exact St_retC tb (.inl rfl) rfl rfl rfl rfl (by exact Has.auto) rfl ⟨rfl, rfl⟩ (by exact Split.auto)
  · rw [if_neg hk0, if_pos hk] at h4
    injection h4 with h4a h4b
    injection h4b with h4b h4c
    rw [h4b, h4c] at c4
    subst h4a
    repeat' (first | (apply St_call (hf := c1); exact rfl; exact rfl; exact Split.auto; rintro _ _ ⟨rfl, rfl⟩) | (apply St_call (hf := f1); exact rfl; exact rfl; exact Split.auto; rintro _ _ ⟨rfl, rfl⟩) | (refine St_step ?_; (try with_reducible intro _)) | (refine St_step2 ?_ ?_ <;> (intro hb; (try simp only [beq_iff_eq, bne_iff_ne, decide_eq_true_eq, decide_eq_false_iff_not, Bool.not_eq_true', Bool.not_eq_false', beq_eq_false_iff_ne, bne_eq_false_iff_eq, ne_eq, Int.not_lt, Int.not_le, gt_iff_lt, ge_iff_le] at hb); (try (first | exact Bool.noConfusion hb | exact absurd trivial hb | (exfalso; omega))))) | fail)
    all_goals first | (exfalso; omega) | skip
    all_goals refine St_cel (r := false) (b := k) (cs' := [str s, nat .i64 r1.at_, nat .i64 r1.e]) (by exact Has.auto) (by rw [e1b]; first | rw [if_pos (by omega)]; rfl | rw [if_neg (by omega)]) ?_
    all_goals repeat' (first | (apply St_call (hf := c2); exact rfl; exact rfl; exact Split.auto; rintro _ _ ⟨rfl, rfl⟩) | (apply St_call (hf := f2); exact rfl; exact rfl; exact Split.auto; rintro _ _ ⟨rfl, rfl⟩) | (refine St_step ?_; (try with_reducible intro _)) | (refine St_step2 ?_ ?_ <;> (intro hb; (try simp only [beq_iff_eq, bne_iff_ne, decide_eq_true_eq, decide_eq_false_iff_not, Bool.not_eq_true', Bool.not_eq_false', beq_eq_false_iff_ne, bne_eq_false_iff_eq, ne_eq, Int.not_lt, Int.not_le, gt_iff_lt, ge_iff_le] at hb); (try (first | exact Bool.noConfusion hb | exact absurd trivial hb | (exfalso; omega))))) | fail)
    all_goals first | (exfalso; omega) | skip
    all_goals refine St_cel (r := false) (b := k) (cs' := [str s, nat .i64 r2.at_, nat .i64 r2.e]) (by exact Has.auto) (by rw [e2b]; first | (rw [if_pos (by assumption)]; rfl) | rw [if_neg (by assumption)]) ?_
    all_goals
      by_cases he : r3.e = 0
      · rw [if_neg (fun h => h he)]
        repeat' (first | (apply St_call (hf := c4); exact rfl; exact rfl; exact Split.auto; rintro _ _ ⟨rfl, rfl⟩) | (apply St_call (hf := c5 _); exact rfl; exact rfl; exact Split.auto; rintro _ _ ⟨rfl, rfl⟩) | (refine St_step ?_; (try with_reducible intro _)) | (refine St_step2 ?_ ?_ <;> (intro hb; (try simp only [beq_iff_eq, bne_iff_ne, decide_eq_true_eq, decide_eq_false_iff_not, Bool.not_eq_true', Bool.not_eq_false', beq_eq_false_iff_ne, bne_eq_false_iff_eq, ne_eq, Int.not_lt, Int.not_le, gt_iff_lt, ge_iff_le] at hb); (try (first | exact Bool.noConfusion hb | exact absurd trivial hb | (exfalso; omega))))) | fail)
        all_goals first | (exfalso; omega) | exact St_retC tb (.inl rfl) rfl rfl rfl rfl (by exact Has.auto) rfl ⟨rfl, rfl⟩ (by exact Split.auto)
      · rw [if_pos he]
        repeat' (first | (apply St_call (hf := c4); exact rfl; exact rfl; exact Split.auto; rintro _ _ ⟨rfl, rfl⟩) | (apply St_call (hf := c5 _); exact rfl; exact rfl; exact Split.auto; rintro _ _ ⟨rfl, rfl⟩) | (refine St_step ?_; (try with_reducible intro _)) | (refine St_step2 ?_ ?_ <;> (intro hb; (try simp only [beq_iff_eq, bne_iff_ne, decide_eq_true_eq, decide_eq_false_iff_not, Bool.not_eq_true', Bool.not_eq_false', beq_eq_false_iff_ne, bne_eq_false_iff_eq, ne_eq, Int.not_lt, Int.not_le, gt_iff_lt, ge_iff_le] at hb); (try (first | exact Bool.noConfusion hb | exact absurd trivial hb | (exfalso; omega))))) | fail)
        all_goals first | (exfalso; omega) | exact St_retC tb (.inl rfl) rfl rfl rfl rfl (by exact Has.auto) rfl ⟨rfl, rfl⟩ (by exact Split.auto)
  · rw [if_neg hk0, if_neg hk] at h4
    injection h4 with h4a h4b
    injection h4b with h4b h4c
    subst h4a h4b h4c
    repeat' (first | (apply St_call (hf := c1); exact rfl; exact rfl; exact Split.auto; rintro _ _ ⟨rfl, rfl⟩) | (apply St_call (hf := f1); exact rfl; exact rfl; exact Split.auto; rintro _ _ ⟨rfl, rfl⟩) | (refine St_step ?_; (try with_reducible intro _)) | (refine St_step2 ?_ ?_ <;> (intro hb; (try simp only [beq_iff_eq, bne_iff_ne, decide_eq_true_eq, decide_eq_false_iff_not, Bool.not_eq_true', Bool.not_eq_false', beq_eq_false_iff_ne, bne_eq_false_iff_eq, ne_eq, Int.not_lt, Int.not_le, gt_iff_lt, ge_iff_le] at hb); (try (first | exact Bool.noConfusion hb | exact absurd trivial hb | (exfalso; omega))))) | fail)
    all_goals first | (exfalso; omega) | skip
    all_goals refine St_cel (r := false) (b := k) (cs' := [str s, nat .i64 r1.at_, nat .i64 r1.e]) (by exact Has.auto) (by rw [e1b]; first | rw [if_pos (by omega)]; rfl | rw [if_neg (by omega)]) ?_
    all_goals repeat' (first | (apply St_call (hf := c2); exact rfl; exact rfl; exact Split.auto; rintro _ _ ⟨rfl, rfl⟩) | (apply St_call (hf := f2); exact rfl; exact rfl; exact Split.auto; rintro _ _ ⟨rfl, rfl⟩) | (refine St_step ?_; (try with_reducible intro _)) | (refine St_step2 ?_ ?_ <;> (intro hb; (try simp only [beq_iff_eq, bne_iff_ne, decide_eq_true_eq, decide_eq_false_iff_not, Bool.not_eq_true', Bool.not_eq_false', beq_eq_false_iff_ne, bne_eq_false_iff_eq, ne_eq, Int.not_lt, Int.not_le, gt_iff_lt, ge_iff_le] at hb); (try (first | exact Bool.noConfusion hb | exact absurd trivial hb | (exfalso; omega))))) | fail)
    all_goals first | (exfalso; omega) | skip
    all_goals refine St_cel (r := false) (b := k) (cs' := [str s, nat .i64 r2.at_, nat .i64 r2.e]) (by exact Has.auto) (by rw [e2b]; first | (rw [if_pos (by assumption)]; rfl) | rw [if_neg (by assumption)]) ?_
    all_goals
      by_cases he : r2.e = 0
      · rw [if_neg (fun h => h he)]
        repeat' (first | (apply St_call (hf := c5 _); exact rfl; exact rfl; exact Split.auto; rintro _ _ ⟨rfl, rfl⟩) | (refine St_step ?_; (try with_reducible intro _)) | (refine St_step2 ?_ ?_ <;> (intro hb; (try simp only [beq_iff_eq, bne_iff_ne, decide_eq_true_eq, decide_eq_false_iff_not, Bool.not_eq_true', Bool.not_eq_false', beq_eq_false_iff_ne, bne_eq_false_iff_eq, ne_eq, Int.not_lt, Int.not_le, gt_iff_lt, ge_iff_le] at hb); (try (first | exact Bool.noConfusion hb | exact absurd trivial hb | (exfalso; omega))))) | fail)
        all_goals first | (exfalso; omega) | exact St_retC tb (.inl rfl) rfl rfl rfl rfl (by exact Has.auto) rfl ⟨rfl, rfl⟩ (by exact Split.auto)
      · rw [if_pos he]
        repeat' (first | (apply St_call (hf := c5 _); exact rfl; exact rfl; exact Split.auto; rintro _ _ ⟨rfl, rfl⟩) | (refine St_step ?_; (try with_reducible intro _)) | (refine St_step2 ?_ ?_ <;> (intro hb; (try simp only [beq_iff_eq, bne_iff_ne, decide_eq_true_eq, decide_eq_false_iff_not, Bool.not_eq_true', Bool.not_eq_false', beq_eq_false_iff_ne, bne_eq_false_iff_eq, ne_eq, Int.not_lt, Int.not_le, gt_iff_lt, ge_iff_le] at hb); (try (first | exact Bool.noConfusion hb | exact absurd trivial hb | (exfalso; omega))))) | fail)
        all_goals first | (exfalso; omega) | exact St_retC tb (.inl rfl) rfl rfl rfl rfl (by exact Has.auto) rfl ⟨rfl, rfl⟩ (by exact Split.auto)
end Go.Proofs.YtfjnacakpeommaaDoor
