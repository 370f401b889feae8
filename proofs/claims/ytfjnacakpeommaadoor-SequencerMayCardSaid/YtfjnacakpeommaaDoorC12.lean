/- Contracts: value.May, signed numbers, update.Write, round's May, Put, Fits. -/
import Derived.Test.YtfjnacakpeommaaDoorC7
import Derived.Test.YtfjnacakpeommaaDoorSl3
import Derived.Test.YtfjnacakpeommaaDoorPl7
namespace Go.Proofs.YtfjnacakpeommaaDoor
open Go SL Pl
set_option autoImplicit false
set_option maxRecDepth 100000
set_option linter.unusedSimpArgs false
set_option linter.unusedVariables false
attribute [local irreducible] St Sq Exec QExec wpList wpQuiet Code.wp Exit.then Exit.inBlock bodyPost At Rd wpOp Wa QK GB
/-- An update's cells, a round's. -/
abbrev uv (u : Up) : List Value := [str u.key, .int .i64 u.kind, .int .i64 u.n, str u.s]
abbrev rv (r : Ro) (v : Value) : List Value := [.int .i64 r.origin, .int .i64 r.number, v]
theorem uv_len (u : Up) : (uv u).length = 4 := rfl
theorem umay_sp (u : Up) : Sp Tryd.prog 76 [.agg (uv u).toArray] [] (fun v M => v = nat .i64 (umay u) ∧ M = []) := by
  refine Sp.intro (P := Tryd.prog) (Tryd.func76) rfl Tryd.ntmps76 (by decide) rfl ?_
  intro ρ F
  unfold umay
  by_cases h1 : u.key.length < 1 ∨ 16 < u.key.length
  · rw [if_pos h1]
    repeat' (first | (refine St_step ?_; (try with_reducible intro _)) | (refine St_step2 ?_ ?_ <;> (intro hb; (try simp only [beq_iff_eq, bne_iff_ne, decide_eq_true_eq, decide_eq_false_iff_not, Bool.not_eq_true', Bool.not_eq_false', beq_eq_false_iff_ne, bne_eq_false_iff_eq, ne_eq, Int.not_lt, Int.not_le, gt_iff_lt, ge_iff_le] at hb); (try (first | exact Bool.noConfusion hb | exact absurd trivial hb | (exfalso; omega))))) | fail)
    all_goals (first | contradiction | (exfalso; omega) | (exact St_ret1 (.inl rfl) rfl rfl ⟨rfl, rfl⟩ (by exact Split.auto)) | (exact St_ret2 (.inl rfl) rfl rfl rfl ⟨rfl, rfl⟩ (by exact Split.auto)) | (exact St_ret3 (.inl rfl) rfl rfl rfl rfl ⟨rfl, rfl⟩ (by exact Split.auto)))
  rw [if_neg h1]
  by_cases h2 : u.kind = 1 ∨ u.kind = 3
  · rw [if_pos h2]
    by_cases h3 : u.s ≠ []
    · rw [if_pos h3]
      repeat' (first | (refine St_step ?_; (try with_reducible intro _)) | (refine St_step2 ?_ ?_ <;> (intro hb; (try simp only [beq_iff_eq, bne_iff_ne, decide_eq_true_eq, decide_eq_false_iff_not, Bool.not_eq_true', Bool.not_eq_false', beq_eq_false_iff_ne, bne_eq_false_iff_eq, ne_eq, Int.not_lt, Int.not_le, gt_iff_lt, ge_iff_le] at hb); (try (first | exact Bool.noConfusion hb | exact absurd trivial hb | (exfalso; omega))))) | fail)
      all_goals (first | contradiction | (exfalso; omega) | (exact St_ret1 (.inl rfl) rfl rfl ⟨rfl, rfl⟩ (by exact Split.auto)) | (exact St_ret2 (.inl rfl) rfl rfl rfl ⟨rfl, rfl⟩ (by exact Split.auto)) | (exact St_ret3 (.inl rfl) rfl rfl rfl rfl ⟨rfl, rfl⟩ (by exact Split.auto)))
    rw [if_neg h3]
    have h3' : u.s = [] := Decidable.not_not.1 h3
    by_cases h4 : u.n < -2305843009213693952 ∨ 2305843009213693952 ≤ u.n
    · rw [if_pos h4]
      repeat' (first | (refine St_step ?_; (try with_reducible intro _)) | (refine St_step2 ?_ ?_ <;> (intro hb; (try simp only [beq_iff_eq, bne_iff_ne, decide_eq_true_eq, decide_eq_false_iff_not, Bool.not_eq_true', Bool.not_eq_false', beq_eq_false_iff_ne, bne_eq_false_iff_eq, ne_eq, Int.not_lt, Int.not_le, gt_iff_lt, ge_iff_le] at hb); (try (first | exact Bool.noConfusion hb | exact absurd trivial hb | (exfalso; omega))))) | fail)
      all_goals (first | contradiction | (exfalso; omega) | (exact St_ret1 (.inl rfl) rfl rfl ⟨rfl, rfl⟩ (by exact Split.auto)) | (exact St_ret2 (.inl rfl) rfl rfl rfl ⟨rfl, rfl⟩ (by exact Split.auto)) | (exact St_ret3 (.inl rfl) rfl rfl rfl rfl ⟨rfl, rfl⟩ (by exact Split.auto)))
    · rw [if_neg h4]
      repeat' (first | (refine St_step ?_; (try with_reducible intro _)) | (refine St_step2 ?_ ?_ <;> (intro hb; (try simp only [beq_iff_eq, bne_iff_ne, decide_eq_true_eq, decide_eq_false_iff_not, Bool.not_eq_true', Bool.not_eq_false', beq_eq_false_iff_ne, bne_eq_false_iff_eq, ne_eq, Int.not_lt, Int.not_le, gt_iff_lt, ge_iff_le] at hb); (try (first | exact Bool.noConfusion hb | exact absurd trivial hb | (exfalso; omega))))) | fail)
      all_goals (first | contradiction | (exfalso; omega) | (exact St_ret1 (.inl rfl) rfl rfl ⟨rfl, rfl⟩ (by exact Split.auto)) | (exact St_ret2 (.inl rfl) rfl rfl rfl ⟨rfl, rfl⟩ (by exact Split.auto)) | (exact St_ret3 (.inl rfl) rfl rfl rfl rfl ⟨rfl, rfl⟩ (by exact Split.auto)))
  rw [if_neg h2]
  by_cases h5 : u.kind = 2 ∨ u.kind = 4
  · rw [if_pos h5]
    by_cases h6 : u.n ≠ 0
    · rw [if_pos h6]
      repeat' (first | (refine St_step ?_; (try with_reducible intro _)) | (refine St_step2 ?_ ?_ <;> (intro hb; (try simp only [beq_iff_eq, bne_iff_ne, decide_eq_true_eq, decide_eq_false_iff_not, Bool.not_eq_true', Bool.not_eq_false', beq_eq_false_iff_ne, bne_eq_false_iff_eq, ne_eq, Int.not_lt, Int.not_le, gt_iff_lt, ge_iff_le] at hb); (try (first | exact Bool.noConfusion hb | exact absurd trivial hb | (exfalso; omega))))) | fail)
      all_goals (first | contradiction | (exfalso; omega) | (exact St_ret1 (.inl rfl) rfl rfl ⟨rfl, rfl⟩ (by exact Split.auto)) | (exact St_ret2 (.inl rfl) rfl rfl rfl ⟨rfl, rfl⟩ (by exact Split.auto)) | (exact St_ret3 (.inl rfl) rfl rfl rfl rfl ⟨rfl, rfl⟩ (by exact Split.auto)))
    rw [if_neg h6]
    by_cases h7 : 32 < u.s.length
    · rw [if_pos h7]
      repeat' (first | (refine St_step ?_; (try with_reducible intro _)) | (refine St_step2 ?_ ?_ <;> (intro hb; (try simp only [beq_iff_eq, bne_iff_ne, decide_eq_true_eq, decide_eq_false_iff_not, Bool.not_eq_true', Bool.not_eq_false', beq_eq_false_iff_ne, bne_eq_false_iff_eq, ne_eq, Int.not_lt, Int.not_le, gt_iff_lt, ge_iff_le] at hb); (try (first | exact Bool.noConfusion hb | exact absurd trivial hb | (exfalso; omega))))) | fail)
      all_goals (first | contradiction | (exfalso; omega) | (exact St_ret1 (.inl rfl) rfl rfl ⟨rfl, rfl⟩ (by exact Split.auto)) | (exact St_ret2 (.inl rfl) rfl rfl rfl ⟨rfl, rfl⟩ (by exact Split.auto)) | (exact St_ret3 (.inl rfl) rfl rfl rfl rfl ⟨rfl, rfl⟩ (by exact Split.auto)))
    · rw [if_neg h7]
      repeat' (first | (refine St_step ?_; (try with_reducible intro _)) | (refine St_step2 ?_ ?_ <;> (intro hb; (try simp only [beq_iff_eq, bne_iff_ne, decide_eq_true_eq, decide_eq_false_iff_not, Bool.not_eq_true', Bool.not_eq_false', beq_eq_false_iff_ne, bne_eq_false_iff_eq, ne_eq, Int.not_lt, Int.not_le, gt_iff_lt, ge_iff_le] at hb); (try (first | exact Bool.noConfusion hb | exact absurd trivial hb | (exfalso; omega))))) | fail)
      all_goals (first | contradiction | (exfalso; omega) | (exact St_ret1 (.inl rfl) rfl rfl ⟨rfl, rfl⟩ (by exact Split.auto)) | (exact St_ret2 (.inl rfl) rfl rfl rfl ⟨rfl, rfl⟩ (by exact Split.auto)) | (exact St_ret3 (.inl rfl) rfl rfl rfl rfl ⟨rfl, rfl⟩ (by exact Split.auto)))
  rw [if_neg h5]
  by_cases h8 : u.kind = 5
  · rw [if_pos h8]
    by_cases h9 : u.n ≠ 0 ∨ u.s ≠ []
    · rw [if_pos h9]
      repeat' (first | (refine St_step ?_; (try with_reducible intro _)) | (refine St_step2 ?_ ?_ <;> (intro hb; (try simp only [beq_iff_eq, bne_iff_ne, decide_eq_true_eq, decide_eq_false_iff_not, Bool.not_eq_true', Bool.not_eq_false', beq_eq_false_iff_ne, bne_eq_false_iff_eq, ne_eq, Int.not_lt, Int.not_le, gt_iff_lt, ge_iff_le] at hb); (try (first | exact Bool.noConfusion hb | exact absurd trivial hb | (exfalso; omega))))) | fail)
      all_goals first | (first | contradiction | (exfalso; omega) | (exact St_ret1 (.inl rfl) rfl rfl ⟨rfl, rfl⟩ (by exact Split.auto)) | (exact St_ret2 (.inl rfl) rfl rfl rfl ⟨rfl, rfl⟩ (by exact Split.auto)) | (exact St_ret3 (.inl rfl) rfl rfl rfl rfl ⟨rfl, rfl⟩ (by exact Split.auto))) | (exfalso; rcases h9 with h9 | h9 <;> first | omega | contradiction)
    · rw [if_neg h9]
      have h9' : u.s = [] := by
        by_cases hs : u.s = []
        · exact hs
        · exact absurd (.inr hs) h9
      repeat' (first | (refine St_step ?_; (try with_reducible intro _)) | (refine St_step2 ?_ ?_ <;> (intro hb; (try simp only [beq_iff_eq, bne_iff_ne, decide_eq_true_eq, decide_eq_false_iff_not, Bool.not_eq_true', Bool.not_eq_false', beq_eq_false_iff_ne, bne_eq_false_iff_eq, ne_eq, Int.not_lt, Int.not_le, gt_iff_lt, ge_iff_le] at hb); (try (first | exact Bool.noConfusion hb | exact absurd trivial hb | (exfalso; omega))))) | fail)
      all_goals (first | contradiction | (exfalso; omega) | (exact St_ret1 (.inl rfl) rfl rfl ⟨rfl, rfl⟩ (by exact Split.auto)) | (exact St_ret2 (.inl rfl) rfl rfl rfl ⟨rfl, rfl⟩ (by exact Split.auto)) | (exact St_ret3 (.inl rfl) rfl rfl rfl rfl ⟨rfl, rfl⟩ (by exact Split.auto)))
  · rw [if_neg h8]
    repeat' (first | (refine St_step ?_; (try with_reducible intro _)) | (refine St_step2 ?_ ?_ <;> (intro hb; (try simp only [beq_iff_eq, bne_iff_ne, decide_eq_true_eq, decide_eq_false_iff_not, Bool.not_eq_true', Bool.not_eq_false', beq_eq_false_iff_ne, bne_eq_false_iff_eq, ne_eq, Int.not_lt, Int.not_le, gt_iff_lt, ge_iff_le] at hb); (try (first | exact Bool.noConfusion hb | exact absurd trivial hb | (exfalso; omega))))) | fail)
    all_goals (first | contradiction | (exfalso; omega) | (exact St_ret1 (.inl rfl) rfl rfl ⟨rfl, rfl⟩ (by exact Split.auto)) | (exact St_ret2 (.inl rfl) rfl rfl rfl ⟨rfl, rfl⟩ (by exact Split.auto)) | (exact St_ret3 (.inl rfl) rfl rfl rfl rfl ⟨rfl, rfl⟩ (by exact Split.auto)))
theorem xor_all {y : Nat} (h : y < 18446744073709551616) : y ^^^ 18446744073709551615 = 18446744073709551615 - y := by
  have e : 18446744073709551615 - y = 2 ^ 64 - (y + 1) := by omega
  have e2 : (18446744073709551615 : Nat) = 2 ^ 64 - 1 := rfl
  apply Nat.eq_of_testBit_eq
  intro i
  rw [e, e2, Nat.testBit_xor, Nat.testBit_two_pow_sub_succ (show y < 2 ^ 64 from h), Nat.testBit_two_pow_sub_one]
  by_cases hi : i < 64
  · simp [hi]
  · have hy : y.testBit i = false := Nat.testBit_lt_two_pow (Nat.lt_of_lt_of_le h (Nat.pow_le_pow_right (show 2 > 0 by decide) (show 64 ≤ i by omega)))
    simp [hi, hy]
theorem zig_sp (n : Int) (h : -2305843009213693952 ≤ n ∧ n < 2305843009213693952) : Sp Tryd.prog 95 [.int .i64 n] [] (fun v M => v = .tuple [nat .u64 (zig n), .bool true].toArray ∧ M = []) := by
  refine Sp.intro (P := Tryd.prog) (Tryd.func95) rfl Tryd.ntmps95 (by decide) rfl ?_
  intro ρ F
  obtain ⟨h1, h2⟩ := h
  have e1 : IntKind.i64.wrap (n * 2 ^ (min ((1 : Int)).toNat IntKind.i64.bits)) = 2 * n := by
    show IntKind.i64.wrap (n * 2 ^ 1) = _
    rw [IntWalk.i64_in _ (by omega)]; omega
  unfold zig
  by_cases h0 : 0 ≤ n
  · obtain ⟨m, rfl⟩ := Int.eq_ofNat_of_zero_le h0
    rw [if_pos h0]
    have e2 : IntKind.u64.wrap (2 * (m : Int)) = ((2 * m : Nat) : Int) := by
      have : (2 * (m : Int)) = ((2 * m : Nat) : Int) := rfl
      rw [this, wrap_nat rfl]; simp only [IntKind.bits]; omega
    have e3 : ((m : Int).fdiv (2 ^ (min ((63 : Int)).toNat IntKind.i64.bits))) = 0 := by
      show ((m : Int).fdiv (2 ^ 63)) = 0
      rw [Int.fdiv_eq_ediv_of_nonneg _ (by decide)]; omega
    have hm : 2 * m < 2 ^ IntKind.u64.bits := by simp only [IntKind.bits]; omega
    have hx : 2 * m ^^^ 0 = 2 * m := Nat.xor_zero _
    have e4 : IntKind.u64.wrap 0 = ((0 : Nat) : Int) := rfl
    repeat' (first | (apply St_rd; exact rfl; (first | (apply Rd_shlV; exact rfl; exact rfl; decide; exact e1) | (apply Rd_shrV; exact rfl; exact rfl; decide; exact e3) | (apply Rd_convV tb; exact rfl; exact rfl; exact rfl; exact e2) | (apply Rd_convV tb; exact rfl; exact rfl; exact rfl; exact e4) | (apply Rd_natXor; exact rfl; exact rfl; exact rfl; exact hm; decide))) | (apply Sq_rd; exact rfl; (first | (apply Rd_shlV; exact rfl; exact rfl; decide; exact e1) | (apply Rd_shrV; exact rfl; exact rfl; decide; exact e3) | (apply Rd_convV tb; exact rfl; exact rfl; exact rfl; exact e2) | (apply Rd_convV tb; exact rfl; exact rfl; exact rfl; exact e4) | (apply Rd_natXor; exact rfl; exact rfl; exact rfl; exact hm; decide))) | (refine St_step ?_; (try with_reducible intro _)) | (refine St_step2 ?_ ?_ <;> (intro hb; (try simp only [beq_iff_eq, bne_iff_ne, decide_eq_true_eq, decide_eq_false_iff_not, Bool.not_eq_true', Bool.not_eq_false', beq_eq_false_iff_ne, bne_eq_false_iff_eq, ne_eq, Int.not_lt, Int.not_le, gt_iff_lt, ge_iff_le] at hb); (try (first | exact Bool.noConfusion hb | exact absurd trivial hb | (exfalso; omega))))) | fail)
    refine St_ret2 (.inl rfl) rfl rfl rfl ⟨?_, rfl⟩ (by exact Split.auto)
    rw [hx]; rfl
  · rw [if_neg h0]
    obtain ⟨m, hm⟩ := Int.eq_ofNat_of_zero_le (show 0 ≤ -n - 1 by omega)
    have e2 : IntKind.u64.wrap (2 * n) = ((18446744073709551615 - (2 * m + 1) : Nat) : Int) := by
      have hn : 2 * n = ((18446744073709551615 - (2 * m + 1) : Nat) : Int) - 18446744073709551616 := by omega
      show (2 * n) % 18446744073709551616 = _
      omega
    have e3 : (n.fdiv (2 ^ (min ((63 : Int)).toNat IntKind.i64.bits))) = -1 := by
      show (n.fdiv (2 ^ 63)) = -1
      rw [Int.fdiv_eq_ediv_of_nonneg _ (by decide)]; omega
    have e4 : IntKind.u64.wrap (-1) = ((18446744073709551615 : Nat) : Int) := rfl
    have hq : 18446744073709551615 - (2 * m + 1) < 2 ^ IntKind.u64.bits := by simp only [IntKind.bits]; omega
    have hx : (18446744073709551615 - (2 * m + 1)) ^^^ 18446744073709551615 = 2 * m + 1 := by
      rw [xor_all (by omega)]; omega
    have hmn : (-n - 1).toNat = m := by omega
    rw [hmn]
    repeat' (first | (apply St_rd; exact rfl; (first | (apply Rd_shlV; exact rfl; exact rfl; decide; exact e1) | (apply Rd_shrV; exact rfl; exact rfl; decide; exact e3) | (apply Rd_convV tb; exact rfl; exact rfl; exact rfl; exact e2) | (apply Rd_convV tb; exact rfl; exact rfl; exact rfl; exact e4) | (apply Rd_natXor; exact rfl; exact rfl; exact rfl; exact hq; decide))) | (apply Sq_rd; exact rfl; (first | (apply Rd_shlV; exact rfl; exact rfl; decide; exact e1) | (apply Rd_shrV; exact rfl; exact rfl; decide; exact e3) | (apply Rd_convV tb; exact rfl; exact rfl; exact rfl; exact e2) | (apply Rd_convV tb; exact rfl; exact rfl; exact rfl; exact e4) | (apply Rd_natXor; exact rfl; exact rfl; exact rfl; exact hq; decide))) | (refine St_step ?_; (try with_reducible intro _)) | (refine St_step2 ?_ ?_ <;> (intro hb; (try simp only [beq_iff_eq, bne_iff_ne, decide_eq_true_eq, decide_eq_false_iff_not, Bool.not_eq_true', Bool.not_eq_false', beq_eq_false_iff_ne, bne_eq_false_iff_eq, ne_eq, Int.not_lt, Int.not_le, gt_iff_lt, ge_iff_le] at hb); (try (first | exact Bool.noConfusion hb | exact absurd trivial hb | (exfalso; omega))))) | fail)
    refine St_ret2 (.inl rfl) rfl rfl rfl ⟨?_, rfl⟩ (by exact Split.auto)
    rw [hx]
theorem wSigned_sp (b : Nat) (bs : List UInt8) (bad : Bool) (n : Int) (hn : -2305843009213693952 ≤ n ∧ n < 2305843009213693952) (hb0 : bs.length ≤ 10000000000000) :
    Sp Tryd.prog 88 [.pointer (some ⟨b, 0, none⟩), .int .i64 n] [Wr b bs bad, GB] (fun r M => r = .tuple #[] ∧ M = [Wr b (bs ++ enc (zig n)) bad, GB]) := by
  refine Sp.intro (P := Tryd.prog) (Tryd.func88) rfl Tryd.ntmps88 (by decide) rfl ?_
  intro ρ F
  have hz := zig_lt hn
  have h := wput_sp b bs bad true (zig n) (by omega) hb0
  have e1 : encOr (zig n) = enc (zig n) := if_pos hz
  have e2 : (bad || !true || wbad (zig n)) = bad := by simp [wbad, hz]
  rw [e1, e2] at h
  repeat' (first | (apply St_call (hf := zig_sp n hn); exact rfl; exact rfl; exact Split.auto; rintro _ _ ⟨rfl, rfl⟩) | (apply St_call (hf := h); exact rfl; exact rfl; exact Split.auto; rintro _ _ ⟨rfl, rfl⟩) | (refine St_step ?_; (try with_reducible intro _)) | (refine St_step2 ?_ ?_ <;> (intro hb; (try simp only [beq_iff_eq, bne_iff_ne, decide_eq_true_eq, decide_eq_false_iff_not, Bool.not_eq_true', Bool.not_eq_false', beq_eq_false_iff_ne, bne_eq_false_iff_eq, ne_eq, Int.not_lt, Int.not_le, gt_iff_lt, ge_iff_le] at hb); (try (first | exact Bool.noConfusion hb | exact absurd trivial hb | (exfalso; omega))))) | fail)
  exact St_ret0 (.inr rfl) rfl ⟨rfl, rfl⟩ (by exact Split.auto)
theorem uwrite_sp (b : Nat) (bs : List UInt8) (bad : Bool) (u : Up) (hu : umay u = 0) (hb0 : bs.length ≤ 1000000) :
    Sp Tryd.prog 74 [.pointer (some ⟨b, 0, none⟩), .agg (uv u).toArray] [Wr b bs bad, GB] (fun r M => r = .tuple #[] ∧ M = [Wr b (bs ++ ubytes u) bad, GB]) := by
  refine Sp.intro (P := Tryd.prog) (Tryd.func74) rfl Tryd.ntmps74 (by decide) rfl ?_
  intro ρ F
  obtain ⟨k1, k2, k3, k4, k5, k6, k7⟩ := umay_kind hu
  obtain ⟨key, kind, n, s⟩ := u
  dsimp only at k1 k2 k3 k4 k5 k6 k7
  obtain ⟨k, rfl⟩ := Int.eq_ofNat_of_zero_le (show 0 ≤ kind by omega)
  have l8 := enc_len k
  have l9 := enc_len key.length
  have c1 := wNumber_sp b bs bad k (by omega) (by omega)
  have c2 := wText_sp b (bs ++ enc k) key bad (by simp; omega)
  have c3 := wSigned_sp b (bs ++ enc k ++ (enc key.length ++ key)) bad n ⟨k6, k7⟩ (by simp; omega)
  have c4 := wText_sp b (bs ++ enc k ++ (enc key.length ++ key)) s bad (by simp; omega)
  have e : bs ++ ubytes ⟨key, k, n, s⟩ = bs ++ enc k ++ (enc key.length ++ key) ++ utail ⟨key, k, n, s⟩ := by simp [ubytes]
  rw [e]
  unfold utail
  dsimp only
  by_cases h1 : (k : Int) = 1 ∨ (k : Int) = 3
  · rw [if_pos h1]
    repeat' (first | (apply St_call (hf := c1); exact rfl; exact rfl; exact Split.auto; rintro _ _ ⟨rfl, rfl⟩) | (apply St_call (hf := c2); exact rfl; exact rfl; exact Split.auto; rintro _ _ ⟨rfl, rfl⟩) | (apply St_call (hf := c3); exact rfl; exact rfl; exact Split.auto; rintro _ _ ⟨rfl, rfl⟩) | (apply St_call (hf := c4); exact rfl; exact rfl; exact Split.auto; rintro _ _ ⟨rfl, rfl⟩) | (refine St_step ?_; (try with_reducible intro _)) | (refine St_step2 ?_ ?_ <;> (intro hb; (try simp only [beq_iff_eq, bne_iff_ne, decide_eq_true_eq, decide_eq_false_iff_not, Bool.not_eq_true', Bool.not_eq_false', beq_eq_false_iff_ne, bne_eq_false_iff_eq, ne_eq, Int.not_lt, Int.not_le, gt_iff_lt, ge_iff_le] at hb); (try (first | exact Bool.noConfusion hb | exact absurd trivial hb | (exfalso; omega))))) | fail)
    all_goals first | (exfalso; omega) | exact St_ret0 (.inr rfl) rfl ⟨rfl, rfl⟩ (by exact Split.auto)
  rw [if_neg h1]
  by_cases h2 : (k : Int) = 2 ∨ (k : Int) = 4
  · rw [if_pos h2]
    repeat' (first | (apply St_call (hf := c1); exact rfl; exact rfl; exact Split.auto; rintro _ _ ⟨rfl, rfl⟩) | (apply St_call (hf := c2); exact rfl; exact rfl; exact Split.auto; rintro _ _ ⟨rfl, rfl⟩) | (apply St_call (hf := c3); exact rfl; exact rfl; exact Split.auto; rintro _ _ ⟨rfl, rfl⟩) | (apply St_call (hf := c4); exact rfl; exact rfl; exact Split.auto; rintro _ _ ⟨rfl, rfl⟩) | (refine St_step ?_; (try with_reducible intro _)) | (refine St_step2 ?_ ?_ <;> (intro hb; (try simp only [beq_iff_eq, bne_iff_ne, decide_eq_true_eq, decide_eq_false_iff_not, Bool.not_eq_true', Bool.not_eq_false', beq_eq_false_iff_ne, bne_eq_false_iff_eq, ne_eq, Int.not_lt, Int.not_le, gt_iff_lt, ge_iff_le] at hb); (try (first | exact Bool.noConfusion hb | exact absurd trivial hb | (exfalso; omega))))) | fail)
    all_goals first | (exfalso; omega) | exact St_ret0 (.inr rfl) rfl ⟨rfl, rfl⟩ (by exact Split.auto)
  · rw [if_neg h2, List.append_nil]
    repeat' (first | (apply St_call (hf := c1); exact rfl; exact rfl; exact Split.auto; rintro _ _ ⟨rfl, rfl⟩) | (apply St_call (hf := c2); exact rfl; exact rfl; exact Split.auto; rintro _ _ ⟨rfl, rfl⟩) | (apply St_call (hf := c3); exact rfl; exact rfl; exact Split.auto; rintro _ _ ⟨rfl, rfl⟩) | (apply St_call (hf := c4); exact rfl; exact rfl; exact Split.auto; rintro _ _ ⟨rfl, rfl⟩) | (refine St_step ?_; (try with_reducible intro _)) | (refine St_step2 ?_ ?_ <;> (intro hb; (try simp only [beq_iff_eq, bne_iff_ne, decide_eq_true_eq, decide_eq_false_iff_not, Bool.not_eq_true', Bool.not_eq_false', beq_eq_false_iff_ne, bne_eq_false_iff_eq, ne_eq, Int.not_lt, Int.not_le, gt_iff_lt, ge_iff_le] at hb); (try (first | exact Bool.noConfusion hb | exact absurd trivial hb | (exfalso; omega))))) | fail)
    all_goals first | (exfalso; omega) | exact St_ret0 (.inr rfl) rfl ⟨rfl, rfl⟩ (by exact Split.auto)
theorem rin_sp (n lo hi : Int) : Sp Tryd.prog 53 [.int .i64 n, .int .i64 lo, .int .i64 hi] [] (fun v M => v = .bool (decide (lo ≤ n ∧ n ≤ hi)) ∧ M = []) := by
  refine Sp.intro (P := Tryd.prog) (Tryd.func53) rfl Tryd.ntmps53 (by decide) rfl ?_
  intro ρ F
  repeat' (first | (refine St_step ?_; (try with_reducible intro _)) | (refine St_step2 ?_ ?_ <;> (intro hb; (try simp only [beq_iff_eq, bne_iff_ne, decide_eq_true_eq, decide_eq_false_iff_not, Bool.not_eq_true', Bool.not_eq_false', beq_eq_false_iff_ne, bne_eq_false_iff_eq, ne_eq, Int.not_lt, Int.not_le, gt_iff_lt, ge_iff_le] at hb); (try (first | exact Bool.noConfusion hb | exact absurd trivial hb | (exfalso; omega))))) | fail)
  all_goals (refine St_ret1 (.inl rfl) rfl rfl ⟨?_, rfl⟩ (by exact Split.auto))
  all_goals first
    | (congr 1; rw [decide_eq_decide]; omega)
    | (congr 1; rw [eq_comm, decide_eq_false_iff_not]; omega)
    | (congr 1; rw [eq_comm, decide_eq_true_eq]; omega)
/-- A list of updates, as a slice that is read. -/
abbrev UL (r : Bool) (v : Value) (l : List Up) : HP := RS r v l.length (l.flatMap uv)
theorem rMay_sp (q : Bool) (r : Ro) (v : Value) : Sp Tryd.prog 54 [.agg (rv r v).toArray] [UL q v r.ups] (fun w M => w = nat .i64 (rmay r) ∧ M = [UL q v r.ups]) := by
  refine Sp.intro (P := Tryd.prog) (Tryd.func54) rfl Tryd.ntmps54 (by decide) rfl ?_
  intro ρ F
  refine St_rsIs (by exact Has.auto) ?_
  rintro A c rfl
  unfold rmay
  by_cases h1 : (r.origin < 1 ∨ 64 < r.origin) ∨ (r.number < 1 ∨ 1099511627776 < r.number) ∨ (r.ups.length < 1 ∨ 8 < r.ups.length)
  · rw [if_pos h1]
    repeat' (first | (apply St_call (hf := rin_sp _ _ _); exact rfl; exact rfl; exact Split.auto; rintro _ _ ⟨rfl, rfl⟩) | (refine St_step ?_; (try with_reducible intro _)) | (refine St_step2 ?_ ?_ <;> (intro hb; (try simp only [beq_iff_eq, bne_iff_ne, decide_eq_true_eq, decide_eq_false_iff_not, Bool.not_eq_true', Bool.not_eq_false', beq_eq_false_iff_ne, bne_eq_false_iff_eq, ne_eq, Int.not_lt, Int.not_le, gt_iff_lt, ge_iff_le] at hb); (try (first | exact Bool.noConfusion hb | exact absurd trivial hb | (exfalso; omega))))) | fail)
    all_goals (first | contradiction | (exfalso; omega) | (exact St_ret1 (.inl rfl) rfl rfl ⟨rfl, rfl⟩ (by exact Split.auto)) | (exact St_ret2 (.inl rfl) rfl rfl rfl ⟨rfl, rfl⟩ (by exact Split.auto)) | (exact St_ret3 (.inl rfl) rfl rfl rfl rfl ⟨rfl, rfl⟩ (by exact Split.auto)))
  · rw [if_neg h1]
    repeat' (first | (apply St_call (hf := rin_sp _ _ _); exact rfl; exact rfl; exact Split.auto; rintro _ _ ⟨rfl, rfl⟩) | (refine St_loop (fun (i : Nat) => i ≤ r.ups.length ∧ ∀ j, j < i → ∀ x, r.ups[j]? = some x → umay x = 0) (fun i => [(24, .slice A r.ups.length c), (25, nat .i64 r.ups.length), (26, nat .i64 i)]) (fun i => [UL q (.slice A r.ups.length c) r.ups, big F]) (fun i => r.ups.length - i) 0 ⟨Nat.zero_le _, fun j hj => by omega⟩ ⟨rfl, rfl, rfl, trivial⟩ (by exact Split.auto) ?_) | (refine St_step ?_; (try with_reducible intro _)) | (refine St_step2 ?_ ?_ <;> (intro hb; (try simp only [beq_iff_eq, bne_iff_ne, decide_eq_true_eq, decide_eq_false_iff_not, Bool.not_eq_true', Bool.not_eq_false', beq_eq_false_iff_ne, bne_eq_false_iff_eq, ne_eq, Int.not_lt, Int.not_le, gt_iff_lt, ge_iff_le] at hb); (try (first | exact Bool.noConfusion hb | exact absurd trivial hb | (exfalso; omega))))) | fail)
    rintro i ⟨hi, hall⟩
    by_cases hil : i < r.ups.length
    · obtain ⟨u, hu⟩ : ∃ u, r.ups[i]? = some u := ⟨_, List.getElem?_eq_getElem hil⟩
      refine St_rsOpen (by exact Has.auto) (by omega) ?_
      rintro b T cap pre rest hv
      injection hv with hv1 hv2 hv3
      subst hv1 hv3
      have hld := flat_at uv_len r.ups i u pre rest hu
      have hroom := flat_room uv_len r.ups i pre rest hil
      have hfe := firstErr_at (fun j hj x hx => hall j hj x hx) hu
      have hm := umay_sp u
      generalize hq : umay u = e at *
      have Hall := Lib.hid hall
      clear hall
      repeat' (first | (apply St_call (hf := hm); exact rfl; exact rfl; exact Split.auto; rintro _ _ ⟨rfl, rfl⟩) | (apply St_rd; exact rfl; (first | (apply Rd_loadA tb; exact rfl; exact rfl; exact rfl; exact Has.auto; exact hroom; exact hld))) | (apply Sq_rd; exact rfl; (first | (apply Rd_loadA tb; exact rfl; exact rfl; exact rfl; exact Has.auto; exact hroom; exact hld))) | (refine St_step ?_; (try with_reducible intro _)) | (refine St_step2 ?_ ?_ <;> (intro hb; (try simp only [beq_iff_eq, bne_iff_ne, decide_eq_true_eq, decide_eq_false_iff_not, Bool.not_eq_true', Bool.not_eq_false', beq_eq_false_iff_ne, bne_eq_false_iff_eq, ne_eq, Int.not_lt, Int.not_le, gt_iff_lt, ge_iff_le] at hb); (try (first | exact Bool.noConfusion hb | exact absurd trivial hb | (exfalso; omega))))) | fail)
      · refine St_rsMk (n := r.ups.length) (cap := c) (cs := r.ups.flatMap uv) (by exact Has.auto) ?_
        rw [hfe (by omega)]
        exact St_ret1 (.inl rfl) rfl rfl ⟨rfl, rfl⟩ (by exact Split.auto)
      · refine St_rsMk (n := r.ups.length) (cap := c) (cs := r.ups.flatMap uv) (by exact Has.auto) ?_
        refine St_at (i + 1) ⟨⟨by omega, fun j hj x hx => ?_⟩, by omega⟩ ⟨rfl, rfl, rfl, trivial⟩ (by exact Split.auto)
        by_cases hji : j = i
        · subst hji
          rw [hu] at hx
          cases hx
          rw [hq]; omega
        · exact Hall.out j (by omega) x hx
    · have hii : i = r.ups.length := by omega
      have hz := firstErr_all (l := r.ups) (fun j x hx => hall j (by
        rcases Nat.lt_or_ge j r.ups.length with h | h
        · omega
        · rw [List.getElem?_eq_none h] at hx; cases hx) x hx)
      rw [hz]
      clear hall
      repeat' (first | (refine St_step ?_; (try with_reducible intro _)) | (refine St_step2 ?_ ?_ <;> (intro hb; (try simp only [beq_iff_eq, bne_iff_ne, decide_eq_true_eq, decide_eq_false_iff_not, Bool.not_eq_true', Bool.not_eq_false', beq_eq_false_iff_ne, bne_eq_false_iff_eq, ne_eq, Int.not_lt, Int.not_le, gt_iff_lt, ge_iff_le] at hb); (try (first | exact Bool.noConfusion hb | exact absurd trivial hb | (exfalso; omega))))) | fail)
      all_goals (first | contradiction | (exfalso; omega) | (exact St_ret1 (.inl rfl) rfl rfl ⟨rfl, rfl⟩ (by exact Split.auto)) | (exact St_ret2 (.inl rfl) rfl rfl rfl ⟨rfl, rfl⟩ (by exact Split.auto)) | (exact St_ret3 (.inl rfl) rfl rfl rfl rfl ⟨rfl, rfl⟩ (by exact Split.auto)))
theorem flat_take {l : List Up} {i : Nat} {u : Up} (h : l[i]? = some u) : (l.take (i + 1)).flatMap ubytes = (l.take i).flatMap ubytes ++ ubytes u := by
  rw [List.take_add_one, h]
  simp
theorem flat_bound : ∀ {l : List Up}, (∀ u ∈ l, umay u = 0) → (l.flatMap ubytes).length ≤ 100 * l.length
  | [], _ => by simp
  | u :: l, h => by
    have h1 := ubytes_len u (h u (by simp))
    have h2 := flat_bound (l := l) fun x hx => h x (by simp [hx])
    rw [List.flatMap_cons, List.length_append, List.length_cons]
    omega
theorem rbytes_len {r : Ro} (h : rmay r = 0) : (rbytes r).length ≤ 1000 := by
  obtain ⟨_, _, h3, h4⟩ := rmay_zero h
  have := flat_bound h4
  have l1 := enc_len r.origin.toNat; have l2 := enc_len r.number.toNat; have l3 := enc_len r.ups.length
  simp only [rbytes, List.length_append]
  omega
theorem rPut_sp (q : Bool) (r : Ro) (v : Value) : Sp Tryd.prog 52 [.agg (rv r v).toArray] [UL q v r.ups, GB] (fun w M => w = .tuple [str (rput r).1, nat .i64 (rput r).2].toArray ∧ M = [UL q v r.ups, GB]) := by
  refine Sp.intro (P := Tryd.prog) (Tryd.func52) rfl Tryd.ntmps52 (by decide) rfl ?_
  intro ρ F
  have hmay := rMay_sp q r v
  unfold rput
  by_cases h0 : rmay r = 0
  · rw [if_neg (fun h => h h0)]
    rw [h0] at hmay
    obtain ⟨⟨o1, o2⟩, ⟨n1, n2⟩, ⟨u1, u2⟩, hall⟩ := rmay_zero h0
    obtain ⟨o, n, l⟩ := r
    dsimp only at *
    obtain ⟨o, rfl⟩ := Int.eq_ofNat_of_zero_le (show 0 ≤ o by omega)
    obtain ⟨n, rfl⟩ := Int.eq_ofNat_of_zero_le (show 0 ≤ n by omega)
    refine St_rsIs (by exact Has.auto) ?_
    rintro A c rfl
    have l1 := enc_len o; have l2 := enc_len n; have l3 := enc_len l.length
    have w1 := fun k => wNumber_sp k [] false o (by omega) (by simp)
    have w2 := fun k => wNumber_sp k ([] ++ enc o) false n (by omega) (by simp; omega)
    have w3 := fun k => wNumber_sp k ([] ++ enc o ++ enc n) false l.length (by omega) (by simp; omega)
    have eb : rbytes ⟨o, n, l⟩ = [] ++ enc o ++ enc n ++ enc l.length ++ (l.take l.length).flatMap ubytes := by simp [rbytes]
    have hhead : ([] ++ enc o ++ enc n ++ enc l.length).length ≤ 24 := by simp; omega
    have Hall := Lib.hid hall
    clear hall
    rw [eb]
    generalize [] ++ enc o ++ enc n ++ enc l.length = hd at *
    repeat' (first | (apply St_call (hf := hmay); exact rfl; exact rfl; exact Split.auto; rintro _ _ ⟨rfl, rfl⟩) | (refine St_step ?_; (try with_reducible intro _)) | (refine St_step2 ?_ ?_ <;> (intro hb; (try simp only [beq_iff_eq, bne_iff_ne, decide_eq_true_eq, decide_eq_false_iff_not, Bool.not_eq_true', Bool.not_eq_false', beq_eq_false_iff_ne, bne_eq_false_iff_eq, ne_eq, Int.not_lt, Int.not_le, gt_iff_lt, ge_iff_le] at hb); (try (first | exact Bool.noConfusion hb | exact absurd trivial hb | (exfalso; omega))))) | fail)
    all_goals refine St_slNil (E := 5) (sz := 1) ?_
    all_goals refine St_wrMk (bs := []) (.inl rfl) (by exact Split.auto) ?_
    all_goals repeat' (first | (apply St_call (hf := w1 _); exact rfl; exact rfl; exact Split.auto; rintro _ _ ⟨rfl, rfl⟩) | (apply St_call (hf := w2 _); exact rfl; exact rfl; exact Split.auto; rintro _ _ ⟨rfl, rfl⟩) | (apply St_call (hf := w3 _); exact rfl; exact rfl; exact Split.auto; rintro _ _ ⟨rfl, rfl⟩) | (refine St_loop (fun (i : Nat) => i ≤ l.length) (fun i => [(5, .pointer (some ⟨_, 0, none⟩)), (24, .slice A l.length c), (25, nat .i64 l.length), (26, nat .i64 i)]) (fun i => [Wr _ (hd ++ (l.take i).flatMap ubytes) false, UL q (.slice A l.length c) l, GB, big F]) (fun i => l.length - i) 0 (Nat.zero_le _) ⟨rfl, rfl, rfl, rfl, trivial⟩ (by rw [List.take_zero, List.flatMap_nil, List.append_nil]; exact Split.auto) ?_) | (refine St_step ?_; (try with_reducible intro _)) | (refine St_step2 ?_ ?_ <;> (intro hb; (try simp only [beq_iff_eq, bne_iff_ne, decide_eq_true_eq, decide_eq_false_iff_not, Bool.not_eq_true', Bool.not_eq_false', beq_eq_false_iff_ne, bne_eq_false_iff_eq, ne_eq, Int.not_lt, Int.not_le, gt_iff_lt, ge_iff_le] at hb); (try (first | exact Bool.noConfusion hb | exact absurd trivial hb | (exfalso; omega))))) | fail)
    intro i hi
    by_cases hil : i < l.length
    · obtain ⟨u, hu⟩ : ∃ u, l[i]? = some u := ⟨_, List.getElem?_eq_getElem hil⟩
      refine St_rsOpen (by exact Has.auto) (by omega) ?_
      rintro b T cap pre rest hv
      injection hv with hv1 hv2 hv3
      subst hv1 hv3
      have hld := flat_at uv_len l i u pre rest hu
      have hroom := flat_room uv_len l i pre rest hil
      have hbl : ((l.take i).flatMap ubytes).length ≤ 100 * (l.take i).length := flat_bound fun x hx => Hall.out x (List.mem_of_mem_take hx)
      have hti : (l.take i).length ≤ 8 := by simp; omega
      have hw := fun k => uwrite_sp k (hd ++ (l.take i).flatMap ubytes) false u (Hall.out u (List.mem_of_getElem? hu)) (by simp only [List.length_append]; omega)
      rw [List.append_assoc, ← flat_take hu] at hw
      repeat' (first | (apply St_call (hf := hw _); exact rfl; exact rfl; exact Split.auto; rintro _ _ ⟨rfl, rfl⟩) | (apply St_rd; exact rfl; (first | (apply Rd_loadA tb; exact rfl; exact rfl; exact rfl; exact Has.auto; exact hroom; exact hld))) | (apply Sq_rd; exact rfl; (first | (apply Rd_loadA tb; exact rfl; exact rfl; exact rfl; exact Has.auto; exact hroom; exact hld))) | (refine St_step ?_; (try with_reducible intro _)) | (refine St_step2 ?_ ?_ <;> (intro hb; (try simp only [beq_iff_eq, bne_iff_ne, decide_eq_true_eq, decide_eq_false_iff_not, Bool.not_eq_true', Bool.not_eq_false', beq_eq_false_iff_ne, bne_eq_false_iff_eq, ne_eq, Int.not_lt, Int.not_le, gt_iff_lt, ge_iff_le] at hb); (try (first | exact Bool.noConfusion hb | exact absurd trivial hb | (exfalso; omega))))) | fail)
      refine St_rsMk (n := l.length) (cap := c) (cs := l.flatMap uv) (by exact Has.auto) ?_
      exact St_at (i + 1) ⟨by omega, by omega⟩ ⟨rfl, rfl, rfl, rfl, trivial⟩ (by exact Split.auto)
    · have hii : i = l.length := by omega
      subst hii
      have hbl : ((l.take l.length).flatMap ubytes).length ≤ 100 * (l.take l.length).length := flat_bound fun x hx => Hall.out x (List.mem_of_mem_take hx)
      have hti : (l.take l.length).length ≤ 8 := by simp; omega
      have hy := fun k => wBytes_sp k (hd ++ (l.take l.length).flatMap ubytes) (by simp only [List.length_append]; omega)
      repeat' (first | (apply St_call (hf := hy _); exact rfl; exact rfl; exact Split.auto; rintro _ _ ⟨rfl, rfl⟩) | (refine St_step ?_; (try with_reducible intro _)) | (refine St_step2 ?_ ?_ <;> (intro hb; (try simp only [beq_iff_eq, bne_iff_ne, decide_eq_true_eq, decide_eq_false_iff_not, Bool.not_eq_true', Bool.not_eq_false', beq_eq_false_iff_ne, bne_eq_false_iff_eq, ne_eq, Int.not_lt, Int.not_le, gt_iff_lt, ge_iff_le] at hb); (try (first | exact Bool.noConfusion hb | exact absurd trivial hb | (exfalso; omega))))) | fail)
      exact St_ret2 (.inl rfl) rfl rfl rfl ⟨rfl, rfl⟩ (by exact Split.auto)
  · rw [if_pos h0]
    repeat' (first | (apply St_call (hf := hmay); exact rfl; exact rfl; exact Split.auto; rintro _ _ ⟨rfl, rfl⟩) | (refine St_step ?_; (try with_reducible intro _)) | (refine St_step2 ?_ ?_ <;> (intro hb; (try simp only [beq_iff_eq, bne_iff_ne, decide_eq_true_eq, decide_eq_false_iff_not, Bool.not_eq_true', Bool.not_eq_false', beq_eq_false_iff_ne, bne_eq_false_iff_eq, ne_eq, Int.not_lt, Int.not_le, gt_iff_lt, ge_iff_le] at hb); (try (first | exact Bool.noConfusion hb | exact absurd trivial hb | (exfalso; omega))))) | fail)
    all_goals (first | contradiction | (exfalso; omega) | (exact St_ret1 (.inl rfl) rfl rfl ⟨rfl, rfl⟩ (by exact Split.auto)) | (exact St_ret2 (.inl rfl) rfl rfl rfl ⟨rfl, rfl⟩ (by exact Split.auto)) | (exact St_ret3 (.inl rfl) rfl rfl rfl rfl ⟨rfl, rfl⟩ (by exact Split.auto)))
end Go.Proofs.YtfjnacakpeommaaDoor
