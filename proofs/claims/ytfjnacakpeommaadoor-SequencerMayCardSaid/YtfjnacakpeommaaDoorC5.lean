/- Contracts: the readers of package pack and of chapbookref03; the writers' other methods. -/
import Derived.Test.YtfjnacakpeommaaDoorC4
import Derived.Test.YtfjnacakpeommaaDoorPl3
namespace Go.Proofs.YtfjnacakpeommaaDoor
open Go SL Pl
set_option autoImplicit false
set_option maxRecDepth 100000
set_option linter.unusedSimpArgs false
set_option linter.unusedVariables false
attribute [local irreducible] St Sq Exec QExec wpList wpQuiet Code.wp Exit.then Exit.inBlock bodyPost At Rd wpOp Wa QK GB
/-- A reader of package pack. -/
abbrev Rk (k : Nat) (s : List UInt8) (r : Rs) : HP := cel false k 115 [str s, nat .i64 r.at_, nat .i64 r.e]
theorem rk_get {s : List UInt8} {r : Rs} (hr : r.at_ ≤ s.length) : getAns s ((r.at_ : Nat) : Int) = match Pl.get (s.drop r.at_) with
    | .err e => [nat .u64 0, .int .i64 0, nat .i64 e]
    | .num n z => [nat .u64 n, .int .i64 ((r.at_ : Int) + z), .int .i64 0] := by
  unfold getAns
  rw [if_neg (by omega), Int.toNat_natCast]
  cases Pl.get (s.drop r.at_) <;> rfl
set_option maxHeartbeats 1000000 in
theorem rget_sp (k : Nat) (s : List UInt8) (r : Rs) (hs : s.length ≤ 1000000) (hr : r.at_ ≤ s.length) : Sp Tryd.prog 63 [.pointer (some ⟨k, 0, none⟩)] [Rk k s r, GB]
    (fun v M => v = nat .u64 (rraw s r).1 ∧ M = [Rk k s (rraw s r).2, GB]) := by
  refine Sp.intro (P := Tryd.prog) (Tryd.func63) rfl Tryd.ntmps63 (by decide) rfl ?_
  intro ρ F
  have hget := get_sp s ((r.at_ : Nat) : Int) hs
  rw [rk_get hr] at hget
  unfold rraw
  by_cases he : r.e = 0
  · rw [if_neg (fun h => h he)]
    cases hg : Pl.get (s.drop r.at_) with
    | err q =>
      rw [hg] at hget
      have hq := get_err hg
      repeat' (first | (apply St_regionQ; kernel_rfl; kernel_rfl) | (apply Sq_call (hf := hget); exact rfl; exact rfl; exact Split.auto; (rintro _ _ ⟨rfl, rfl⟩; exact ⟨rfl, _, by exact Split.auto⟩)) | (refine St_step ?_; (try with_reducible intro _)) | (refine St_step2 ?_ ?_ <;> (intro hb; (try simp only [beq_iff_eq, bne_iff_ne, decide_eq_true_eq, decide_eq_false_iff_not, Bool.not_eq_true', Bool.not_eq_false', beq_eq_false_iff_ne, bne_eq_false_iff_eq, ne_eq, Int.not_lt, Int.not_le, gt_iff_lt, ge_iff_le] at hb); (try (first | exact Bool.noConfusion hb | exact absurd trivial hb | (exfalso; omega))))) | fail)
      exact St_ret1 (.inl rfl) rfl rfl ⟨rfl, rfl⟩ (by exact Split.auto)
    | num n z =>
      rw [hg] at hget
      obtain ⟨at_, e⟩ := r
      have he : e = 0 := he
      subst he
      repeat' (first | (apply St_regionQ; kernel_rfl; kernel_rfl) | (apply Sq_call (hf := hget); exact rfl; exact rfl; exact Split.auto; (rintro _ _ ⟨rfl, rfl⟩; exact ⟨rfl, _, by exact Split.auto⟩)) | (refine St_step ?_; (try with_reducible intro _)) | (refine St_step2 ?_ ?_ <;> (intro hb; (try simp only [beq_iff_eq, bne_iff_ne, decide_eq_true_eq, decide_eq_false_iff_not, Bool.not_eq_true', Bool.not_eq_false', beq_eq_false_iff_ne, bne_eq_false_iff_eq, ne_eq, Int.not_lt, Int.not_le, gt_iff_lt, ge_iff_le] at hb); (try (first | exact Bool.noConfusion hb | exact absurd trivial hb | (exfalso; omega))))) | fail)
      exact St_ret1 (.inl rfl) rfl rfl ⟨rfl, rfl⟩ (by exact Split.auto)
  · rw [if_pos he]
    repeat' (first | (refine St_step ?_; (try with_reducible intro _)) | (refine St_step2 ?_ ?_ <;> (intro hb; (try simp only [beq_iff_eq, bne_iff_ne, decide_eq_true_eq, decide_eq_false_iff_not, Bool.not_eq_true', Bool.not_eq_false', beq_eq_false_iff_ne, bne_eq_false_iff_eq, ne_eq, Int.not_lt, Int.not_le, gt_iff_lt, ge_iff_le] at hb); (try (first | exact Bool.noConfusion hb | exact absurd trivial hb | (exfalso; omega))))) | fail)
    exact St_ret1 (.inl rfl) rfl rfl ⟨rfl, rfl⟩ (by exact Split.auto)
theorem fail_sp (k : Nat) (s : List UInt8) (r : Rs) (e : Nat) : Sp Tryd.prog 36 [.pointer (some ⟨k, 0, none⟩), nat .i64 e] [Rk k s r]
    (fun v M => v = .tuple #[] ∧ M = [Rk k s ⟨r.at_, rfail r.e e⟩]) := by
  refine Sp.intro (P := Tryd.prog) (Tryd.func36) rfl Tryd.ntmps36 (by decide) rfl ?_
  intro ρ F
  unfold rfail
  by_cases he : r.e = 0
  · rw [if_pos he]
    repeat' (first | (refine St_step ?_; (try with_reducible intro _)) | (refine St_step2 ?_ ?_ <;> (intro hb; (try simp only [beq_iff_eq, bne_iff_ne, decide_eq_true_eq, decide_eq_false_iff_not, Bool.not_eq_true', Bool.not_eq_false', beq_eq_false_iff_ne, bne_eq_false_iff_eq, ne_eq, Int.not_lt, Int.not_le, gt_iff_lt, ge_iff_le] at hb); (try (first | exact Bool.noConfusion hb | exact absurd trivial hb | (exfalso; omega))))) | fail)
    exact St_ret0 (.inr rfl) rfl ⟨rfl, rfl⟩ (by exact Split.auto)
  · rw [if_neg he]
    repeat' (first | (refine St_step ?_; (try with_reducible intro _)) | (refine St_step2 ?_ ?_ <;> (intro hb; (try simp only [beq_iff_eq, bne_iff_ne, decide_eq_true_eq, decide_eq_false_iff_not, Bool.not_eq_true', Bool.not_eq_false', beq_eq_false_iff_ne, bne_eq_false_iff_eq, ne_eq, Int.not_lt, Int.not_le, gt_iff_lt, ge_iff_le] at hb); (try (first | exact Bool.noConfusion hb | exact absurd trivial hb | (exfalso; omega))))) | fail)
    exact St_ret0 (.inr rfl) rfl ⟨rfl, rfl⟩ (by exact Split.auto)
theorem rnumber_sp (k : Nat) (s : List UInt8) (r : Rs) (lim : Nat) (hs : s.length ≤ 1000000) (hr : r.at_ ≤ s.length) (hlim : lim ≤ 1152921504606846976) : Sp Tryd.prog 35 [.pointer (some ⟨k, 0, none⟩), nat .i64 lim] [Rk k s r, GB]
    (fun v M => v = nat .i64 (rnum s lim r).1 ∧ M = [Rk k s (rnum s lim r).2, GB]) := by
  refine Sp.intro (P := Tryd.prog) (Tryd.func35) rfl Tryd.ntmps35 (by decide) rfl ?_
  intro ρ F
  have hlt := rraw_lt s r
  unfold rnum
  by_cases hl : lim < (rraw s r).1
  · rw [if_pos hl]
    repeat' (first | (apply St_call (hf := rget_sp k s r hs hr); exact rfl; exact rfl; exact Split.auto; rintro _ _ ⟨rfl, rfl⟩) | (apply St_call (hf := fail_sp k s _ 1); exact rfl; exact rfl; exact Split.auto; rintro _ _ ⟨rfl, rfl⟩) | (refine St_step ?_; (try with_reducible intro _)) | (refine St_step2 ?_ ?_ <;> (intro hb; (try simp only [beq_iff_eq, bne_iff_ne, decide_eq_true_eq, decide_eq_false_iff_not, Bool.not_eq_true', Bool.not_eq_false', beq_eq_false_iff_ne, bne_eq_false_iff_eq, ne_eq, Int.not_lt, Int.not_le, gt_iff_lt, ge_iff_le] at hb); (try (first | exact Bool.noConfusion hb | exact absurd trivial hb | (exfalso; omega))))) | fail)
    all_goals (first | contradiction | (exfalso; omega) | (exact St_ret1 (.inl rfl) rfl rfl ⟨rfl, rfl⟩ (by exact Split.auto)) | (exact St_ret2 (.inl rfl) rfl rfl rfl ⟨rfl, rfl⟩ (by exact Split.auto)) | (exact St_ret3 (.inl rfl) rfl rfl rfl rfl ⟨rfl, rfl⟩ (by exact Split.auto)))
  · rw [if_neg hl]
    repeat' (first | (apply St_call (hf := rget_sp k s r hs hr); exact rfl; exact rfl; exact Split.auto; rintro _ _ ⟨rfl, rfl⟩) | (apply St_call (hf := fail_sp k s _ 1); exact rfl; exact rfl; exact Split.auto; rintro _ _ ⟨rfl, rfl⟩) | (refine St_step ?_; (try with_reducible intro _)) | (refine St_step2 ?_ ?_ <;> (intro hb; (try simp only [beq_iff_eq, bne_iff_ne, decide_eq_true_eq, decide_eq_false_iff_not, Bool.not_eq_true', Bool.not_eq_false', beq_eq_false_iff_ne, bne_eq_false_iff_eq, ne_eq, Int.not_lt, Int.not_le, gt_iff_lt, ge_iff_le] at hb); (try (first | exact Bool.noConfusion hb | exact absurd trivial hb | (exfalso; omega))))) | fail)
    all_goals (first | contradiction | (exfalso; omega) | (exact St_ret1 (.inl rfl) rfl rfl ⟨rfl, rfl⟩ (by exact Split.auto)) | (exact St_ret2 (.inl rfl) rfl rfl rfl ⟨rfl, rfl⟩ (by exact Split.auto)) | (exact St_ret3 (.inl rfl) rfl rfl rfl rfl ⟨rfl, rfl⟩ (by exact Split.auto)))
theorem rtext_sp (k : Nat) (s : List UInt8) (r : Rs) (lim : Nat) (hs : s.length ≤ 1000000) (hr : r.at_ ≤ s.length) (hlim : lim ≤ 1152921504606846976) : Sp Tryd.prog 37 [.pointer (some ⟨k, 0, none⟩), nat .i64 lim] [Rk k s r, GB]
    (fun v M => v = str (rtext s lim r).1 ∧ M = [Rk k s (rtext s lim r).2, GB]) := by
  refine Sp.intro (P := Tryd.prog) (Tryd.func37) rfl Tryd.ntmps37 (by decide) rfl ?_
  intro ρ F
  have hle := rnum_le (lim := lim) hr
  have hli := rnum_lim (s := s) (lim := lim) (r := r)
  unfold rtext
  generalize hq : rnum s lim r = q at *
  obtain ⟨n, a, e⟩ := q
  have hle : a ≤ s.length := hle
  have hli : n ≤ lim := hli
  have hnum := rnumber_sp k s r lim hs hr hlim
  rw [hq] at hnum
  simp only [Rk] at hnum
  by_cases hl : s.length - a < n
  · rw [if_pos hl]
    repeat' (first | (apply St_call (hf := hnum); exact rfl; exact rfl; exact Split.auto; rintro _ _ ⟨rfl, rfl⟩) | (apply St_call (hf := fail_sp k s ⟨a, e⟩ 2); exact rfl; exact rfl; exact Split.auto; rintro _ _ ⟨rfl, rfl⟩) | (apply St_regionQ; kernel_rfl; kernel_rfl) | (refine St_step ?_; (try with_reducible intro _)) | (refine St_step2 ?_ ?_ <;> (intro hb; (try simp only [beq_iff_eq, bne_iff_ne, decide_eq_true_eq, decide_eq_false_iff_not, Bool.not_eq_true', Bool.not_eq_false', beq_eq_false_iff_ne, bne_eq_false_iff_eq, ne_eq, Int.not_lt, Int.not_le, gt_iff_lt, ge_iff_le] at hb); (try (first | exact Bool.noConfusion hb | exact absurd trivial hb | (exfalso; omega))))) | fail)
    all_goals (first | contradiction | (exfalso; omega) | (exact St_ret1 (.inl rfl) rfl rfl ⟨rfl, rfl⟩ (by exact Split.auto)) | (exact St_ret2 (.inl rfl) rfl rfl rfl ⟨rfl, rfl⟩ (by exact Split.auto)) | (exact St_ret3 (.inl rfl) rfl rfl rfl rfl ⟨rfl, rfl⟩ (by exact Split.auto)))
  · rw [if_neg hl]
    have hd : (s.drop ((a : Nat) : Int).toNat).take (((a : Int) + (n : Int)).toNat - ((a : Nat) : Int).toNat) = (s.drop a).take n := by
      congr 1; omega
    repeat' (first | (apply St_call (hf := hnum); exact rfl; exact rfl; exact Split.auto; rintro _ _ ⟨rfl, rfl⟩) | (apply St_call (hf := fail_sp k s ⟨a, e⟩ 2); exact rfl; exact rfl; exact Split.auto; rintro _ _ ⟨rfl, rfl⟩) | (apply St_regionQ; kernel_rfl; kernel_rfl) | (refine St_step ?_; (try with_reducible intro _)) | (refine St_step2 ?_ ?_ <;> (intro hb; (try simp only [beq_iff_eq, bne_iff_ne, decide_eq_true_eq, decide_eq_false_iff_not, Bool.not_eq_true', Bool.not_eq_false', beq_eq_false_iff_ne, bne_eq_false_iff_eq, ne_eq, Int.not_lt, Int.not_le, gt_iff_lt, ge_iff_le] at hb); (try (first | exact Bool.noConfusion hb | exact absurd trivial hb | (exfalso; omega))))) | fail)
    all_goals (try rw [hd])
    all_goals (first | contradiction | (exfalso; omega) | (exact St_ret1 (.inl rfl) rfl rfl ⟨rfl, rfl⟩ (by exact Split.auto)) | (exact St_ret2 (.inl rfl) rfl rfl rfl ⟨rfl, rfl⟩ (by exact Split.auto)) | (exact St_ret3 (.inl rfl) rfl rfl rfl rfl ⟨rfl, rfl⟩ (by exact Split.auto)))
theorem rend_sp (k : Nat) (s : List UInt8) (r : Rs) (hs : s.length ≤ 1000000) (hr : r.at_ ≤ s.length) : Sp Tryd.prog 38 [.pointer (some ⟨k, 0, none⟩)] [Rk k s r]
    (fun v M => v = nat .i64 (rend s r) ∧ M = [Rk k s ⟨r.at_, rend s r⟩]) := by
  refine Sp.intro (P := Tryd.prog) (Tryd.func38) rfl Tryd.ntmps38 (by decide) rfl ?_
  intro ρ F
  unfold rend
  by_cases hl : r.at_ < s.length
  · rw [if_pos hl]
    repeat' (first | (apply St_call (hf := fail_sp k s r 4); exact rfl; exact rfl; exact Split.auto; rintro _ _ ⟨rfl, rfl⟩) | (apply St_regionQ; kernel_rfl; kernel_rfl) | (refine St_step ?_; (try with_reducible intro _)) | (refine St_step2 ?_ ?_ <;> (intro hb; (try simp only [beq_iff_eq, bne_iff_ne, decide_eq_true_eq, decide_eq_false_iff_not, Bool.not_eq_true', Bool.not_eq_false', beq_eq_false_iff_ne, bne_eq_false_iff_eq, ne_eq, Int.not_lt, Int.not_le, gt_iff_lt, ge_iff_le] at hb); (try (first | exact Bool.noConfusion hb | exact absurd trivial hb | (exfalso; omega))))) | fail)
    all_goals (first | contradiction | (exfalso; omega) | (exact St_ret1 (.inl rfl) rfl rfl ⟨rfl, rfl⟩ (by exact Split.auto)) | (exact St_ret2 (.inl rfl) rfl rfl rfl ⟨rfl, rfl⟩ (by exact Split.auto)) | (exact St_ret3 (.inl rfl) rfl rfl rfl rfl ⟨rfl, rfl⟩ (by exact Split.auto)))
  · rw [if_neg hl]
    repeat' (first | (apply St_call (hf := fail_sp k s r 4); exact rfl; exact rfl; exact Split.auto; rintro _ _ ⟨rfl, rfl⟩) | (apply St_regionQ; kernel_rfl; kernel_rfl) | (refine St_step ?_; (try with_reducible intro _)) | (refine St_step2 ?_ ?_ <;> (intro hb; (try simp only [beq_iff_eq, bne_iff_ne, decide_eq_true_eq, decide_eq_false_iff_not, Bool.not_eq_true', Bool.not_eq_false', beq_eq_false_iff_ne, bne_eq_false_iff_eq, ne_eq, Int.not_lt, Int.not_le, gt_iff_lt, ge_iff_le] at hb); (try (first | exact Bool.noConfusion hb | exact absurd trivial hb | (exfalso; omega))))) | fail)
    all_goals (first | contradiction | (exfalso; omega) | (exact St_ret1 (.inl rfl) rfl rfl ⟨rfl, rfl⟩ (by exact Split.auto)) | (exact St_ret2 (.inl rfl) rfl rfl rfl ⟨rfl, rfl⟩ (by exact Split.auto)) | (exact St_ret3 (.inl rfl) rfl rfl rfl rfl ⟨rfl, rfl⟩ (by exact Split.auto)))
theorem rread_sp (s : List UInt8) : Sp Tryd.prog 34 [str s] [] (fun v M => ∃ k, v = .pointer (some ⟨k, 0, none⟩) ∧ M = [Rk k s ⟨0, 0⟩]) := by
  refine Sp.intro (P := Tryd.prog) (Tryd.func34) rfl Tryd.ntmps34 (by decide) rfl ?_
  intro ρ F
  repeat' (first | (refine St_step ?_; (try with_reducible intro _)) | (refine St_step2 ?_ ?_ <;> (intro hb; (try simp only [beq_iff_eq, bne_iff_ne, decide_eq_true_eq, decide_eq_false_iff_not, Bool.not_eq_true', Bool.not_eq_false', beq_eq_false_iff_ne, bne_eq_false_iff_eq, ne_eq, Int.not_lt, Int.not_le, gt_iff_lt, ge_iff_le] at hb); (try (first | exact Bool.noConfusion hb | exact absurd trivial hb | (exfalso; omega))))) | fail)
  exact St_ret1 (.inl rfl) rfl rfl ⟨_, rfl, rfl⟩ (by exact Split.auto)
end Go.Proofs.YtfjnacakpeommaaDoor
