/- Contracts: the packages prefix and chapbookref01. -/
import Derived.Test.YtfjnacakpeommaaDoorSlGo
import Derived.Test.YtfjnacakpeommaaDoorPl1
import Derived.Lib.Hide
namespace Go.Proofs.YtfjnacakpeommaaDoor
open Go SL Pl
set_option autoImplicit false
set_option maxRecDepth 100000
set_option linter.unusedSimpArgs false
set_option linter.unusedVariables false
attribute [local irreducible] St Sq Exec QExec wpList wpQuiet Code.wp Exit.then Exit.inBlock bodyPost At Rd wpOp Wa QK
/-- The table of how many bits a spelling has. -/
abbrev GBT (T : Nat) : HP := cel true 0 T [.int .u64 6, .int .u64 14, .int .u64 30, .int .u64 62]
def GB : HP := ex GBT
theorem GB_eq : GB = ex GBT := rfl
attribute [local irreducible] GB
theorem shr0 (n : Nat) (s : Nat) (hs : s ≤ 64) : (((n : Int).fdiv (2 ^ (min ((s : Nat) : Int).toNat IntKind.u64.bits)) == 0) = true) ↔ n < 2 ^ s := by
  have e : min ((s : Nat) : Int).toNat IntKind.u64.bits = s := by simp [IntKind.bits]; omega
  rw [e, beq_iff_eq, Int.fdiv_eq_ediv_of_nonneg _ (by exact Int.le_of_lt (Int.pow_pos (by decide)))]
  have h2 : ((2 : Int) ^ s) = ((2 ^ s : Nat) : Int) := by simp
  rw [h2, ← Int.natCast_ediv]
  have : (n / 2 ^ s = 0) ↔ n < 2 ^ s := Nat.div_eq_zero_iff_lt (Nat.two_pow_pos s)
  constructor
  · intro h; exact this.1 (by omega)
  · intro h; have := this.2 h; omega
theorem spelling_sp' (T n : Nat) : Sp Tryd.prog 98 [nat .u64 n] [GBT T] (fun v M => v = nat .i64 (sp n) ∧ M = [GBT T]) := by
  refine Sp.intro (P := Tryd.prog) (Tryd.func98) rfl Tryd.ntmps98 (by decide) rfl ?_
  intro ρ F
  repeat' (first | (refine St_loop (fun (z : Nat) => z ≤ 4 ∧ (1 ≤ z → ¬ n < 64) ∧ (2 ≤ z → ¬ n < 16384) ∧ (3 ≤ z → ¬ n < 1073741824) ∧ (4 ≤ z → ¬ n < 4611686018427387904)) (fun z => [(0, nat .u64 n), (5, .agg #[.int .u64 6, .int .u64 14, .int .u64 30, .int .u64 62]), (6, nat .i64 z)]) (fun z => [GBT T, big F]) (fun z => 4 - z) 0 ⟨by omega, by omega, by omega, by omega, by omega⟩ ⟨rfl, rfl, rfl, trivial⟩ (by exact Split.auto) ?_) | (refine St_step ?_; (try with_reducible intro _)) | (refine St_step2 ?_ ?_ <;> (intro hb; (try simp only [beq_iff_eq, bne_iff_ne, decide_eq_true_eq, decide_eq_false_iff_not, Bool.not_eq_true', Bool.not_eq_false', beq_eq_false_iff_ne, bne_eq_false_iff_eq, ne_eq, Int.not_lt, Int.not_le, gt_iff_lt, ge_iff_le] at hb); (try (first | exact Bool.noConfusion hb | exact absurd trivial hb | (exfalso; omega))))) | fail)
  rintro z ⟨hz, h1, h2, h3, h4⟩
  have hcase : z = 0 ∨ z = 1 ∨ z = 2 ∨ z = 3 ∨ z = 4 := by omega
  rcases hcase with rfl | rfl | rfl | rfl | rfl
  all_goals repeat' (first | (refine St_step ?_; (try with_reducible intro _)) | (refine St_step2 ?_ ?_ <;> (intro hb; (try simp only [beq_iff_eq, bne_iff_ne, decide_eq_true_eq, decide_eq_false_iff_not, Bool.not_eq_true', Bool.not_eq_false', beq_eq_false_iff_ne, bne_eq_false_iff_eq, ne_eq, Int.not_lt, Int.not_le, gt_iff_lt, ge_iff_le] at hb); (try (first | exact Bool.noConfusion hb | exact absurd trivial hb | (exfalso; omega))))) | fail)
  all_goals (try simp [IntKind.bits, Int.fdiv_eq_ediv_of_nonneg] at hb)
  all_goals first
    | (refine St_at (1 : Nat) ⟨⟨by omega, by omega, by omega, by omega, by omega⟩, by omega⟩ ⟨rfl, rfl, rfl, trivial⟩ (by exact Split.auto); done)
    | (refine St_at (2 : Nat) ⟨⟨by omega, by omega, by omega, by omega, by omega⟩, by omega⟩ ⟨rfl, rfl, rfl, trivial⟩ (by exact Split.auto); done)
    | (refine St_at (3 : Nat) ⟨⟨by omega, by omega, by omega, by omega, by omega⟩, by omega⟩ ⟨rfl, rfl, rfl, trivial⟩ (by exact Split.auto); done)
    | (refine St_at (4 : Nat) ⟨⟨by omega, by omega, by omega, by omega, by omega⟩, by omega⟩ ⟨rfl, rfl, rfl, trivial⟩ (by exact Split.auto); done)
    | (refine St_ret1 (.inl rfl) rfl rfl ⟨?_, rfl⟩ (by exact Split.auto); unfold sp; (repeat' split) <;> first | rfl | omega)

theorem spelling_sp (n : Nat) : Sp Tryd.prog 98 [nat .u64 n] [GB] (fun v M => v = nat .i64 (sp n) ∧ M = [GB]) := by
  refine ⟨(spelling_sp' 0 n).callable, fun ρ F w H => ?_⟩
  have H0 := H
  rw [GB_eq] at H0
  obtain ⟨T, H1⟩ := Holds.ex H0
  refine ((spelling_sp' T n).calls ρ F w H1).mono ?_
  rintro e w' ⟨r, M, rfl, ⟨rfl, rfl⟩, H2⟩
  exact ⟨_, _, rfl, ⟨rfl, rfl⟩, by rw [GB_eq]; exact Holds.ex_mk (A := GBT) T H2⟩
theorem size_sp (n : Nat) (hn : n < 18446744073709551616) : Sp Tryd.prog 92 [nat .u64 n] [GB] (fun v M => v = nat .i64 (sz n) ∧ M = [GB]) := by
  refine Sp.intro (P := Tryd.prog) (Tryd.func92) rfl Tryd.ntmps92 (by decide) rfl ?_
  intro ρ F
  repeat' (first | (apply St_call; exact rfl; exact rfl; exact spelling_sp n; exact Split.auto; rintro _ _ ⟨rfl, rfl⟩) | (refine St_step ?_; (try with_reducible intro _)) | (refine St_step2 ?_ ?_ <;> (intro hb; (try simp only [beq_iff_eq, bne_iff_ne, decide_eq_true_eq, decide_eq_false_iff_not, Bool.not_eq_true', Bool.not_eq_false', beq_eq_false_iff_ne, bne_eq_false_iff_eq, ne_eq, Int.not_lt, Int.not_le, gt_iff_lt, ge_iff_le] at hb); (try (first | exact Bool.noConfusion hb | exact absurd trivial hb | (exfalso; omega))))) | fail)
  · refine St_ret1 (.inl rfl) rfl rfl ⟨?_, rfl⟩ (by exact Split.auto)
    unfold sz; rw [if_neg (by omega), if_neg (by omega), if_neg (by omega), if_neg (by omega)]; rfl
  · refine St_ret1 (.inl rfl) rfl rfl ⟨?_, rfl⟩ (by exact Split.auto)
    have h1 : n < 4611686018427387904 := by omega
    rw [sz_sp n h1]
    have : sp n = 0 ∨ sp n = 1 ∨ sp n = 2 ∨ sp n = 3 := by have := sp_le n; unfold sp at *; (repeat' split at *) <;> omega
    rcases this with e | e | e | e <;> rw [e] <;> rfl
theorem refSize_sp (n : Nat) (hn : n < 18446744073709551616) : Sp Tryd.prog 83 [nat .u64 n] [] (fun v M => v = nat .i64 (sz n) ∧ M = []) := by
  refine Sp.intro (P := Tryd.prog) (Tryd.func83) rfl Tryd.ntmps83 (by decide) rfl ?_
  intro ρ F
  repeat' (first | (refine St_step ?_; (try with_reducible intro _)) | (refine St_step2 ?_ ?_ <;> (intro hb; (try simp only [beq_iff_eq, bne_iff_ne, decide_eq_true_eq, decide_eq_false_iff_not, Bool.not_eq_true', Bool.not_eq_false', beq_eq_false_iff_ne, bne_eq_false_iff_eq, ne_eq, Int.not_lt, Int.not_le, gt_iff_lt, ge_iff_le] at hb); (try (first | exact Bool.noConfusion hb | exact absurd trivial hb | (exfalso; omega))))) | fail)
  all_goals (refine St_ret1 (.inl rfl) rfl rfl ⟨?_, rfl⟩ (by exact Split.auto))
  all_goals (unfold sz; (repeat' split) <;> first | rfl | omega)
/-- A part of a row that is being filled. -/
def filling (l : List UInt8) (z : Nat) : List Value := (l.take z).map (fun c => Value.int .u8 c.toNat) ++ List.replicate (l.length - z) (.int .u8 0)
theorem filling_set (l : List UInt8) (z : Nat) (c : UInt8) (hc : l[z]? = some c) : (filling l z).set z (.int .u8 c.toNat) = filling l (z + 1) := by
  have hz : z < l.length := by
    rcases Nat.lt_or_ge z l.length with h | h
    · exact h
    · rw [List.getElem?_eq_none h] at hc; cases hc
  have hg : l[z] = c := by rw [List.getElem?_eq_getElem hz] at hc; exact Option.some.inj hc
  unfold filling
  rw [List.set_append_right _ _ (by simp; omega)]
  have e1 : (List.map (fun c => Value.int .u8 c.toNat) (l.take z)).length = z := by simp; omega
  have e2 : l.length - z = (l.length - (z + 1)) + 1 := by omega
  rw [e1, Nat.sub_self, e2, List.replicate_succ, List.set_cons_zero, List.take_succ_eq_append_getElem hz, List.map_append, hg]
  simp
theorem filling_full (l : List UInt8) : filling l l.length = Lib.byteCells l := by simp [filling, Lib.byteCells]
theorem filling_length (l : List UInt8) (z : Nat) (h : z ≤ l.length) : (filling l z).length = l.length := by simp [filling]; omega
set_option maxHeartbeats 1000000 in
theorem put_sp (n : Nat) (hn : n < 18446744073709551616) : Sp Tryd.prog 94 [nat .u64 n] [GB]
    (fun v M => v = .tuple [str (if n < 4611686018427387904 then enc n else []), .int .i64 (if n < 4611686018427387904 then 0 else 1)].toArray ∧ M = [GB]) := by
  refine Sp.intro (P := Tryd.prog) (Tryd.func94) rfl Tryd.ntmps94 (by decide) rfl ?_
  intro ρ F
  have hsp := sp_le n
  have hsz : sz n ≤ 8 := by rcases sz_cases n with h | h | h | h | h <;> omega
  by_cases hlt : n < 4611686018427387904
  · have hs0 : 1 ≤ sz n := by
      rcases Nat.eq_zero_or_pos (sz n) with h | h
      · have := sz_zero.1 h; omega
      · exact h
    rw [if_pos hlt, if_pos hlt]
    repeat' (first | (apply St_call; exact rfl; exact rfl; exact size_sp n hn; exact Split.auto; rintro _ _ ⟨rfl, rfl⟩) | (apply St_call; exact rfl; exact rfl; exact spelling_sp n; exact Split.auto; rintro _ _ ⟨rfl, rfl⟩) | (apply St_rd; exact rfl; (first | (apply Rd_natOr; exact rfl; exact rfl; exact rfl; exact hn; exact Nat.mod_lt _ (by decide)) | (apply Rd_natShl; exact rfl; exact rfl; exact rfl; exact ⟨by omega, by simp only [IntKind.bits]; omega⟩))) | (apply Sq_rd; exact rfl; (first | (apply Rd_natOr; exact rfl; exact rfl; exact rfl; exact hn; exact Nat.mod_lt _ (by decide)) | (apply Rd_natShl; exact rfl; exact rfl; exact rfl; exact ⟨by omega, by simp only [IntKind.bits]; omega⟩))) | (refine St_step ?_; (try with_reducible intro _)) | (refine St_step2 ?_ ?_ <;> (intro hb; (try simp only [beq_iff_eq, bne_iff_ne, decide_eq_true_eq, decide_eq_false_iff_not, Bool.not_eq_true', Bool.not_eq_false', beq_eq_false_iff_ne, bne_eq_false_iff_eq, ne_eq, Int.not_lt, Int.not_le, gt_iff_lt, ge_iff_le] at hb); (try (first | exact Bool.noConfusion hb | exact absurd trivial hb | (exfalso; omega))))) | fail)
    · have hm : (n ||| sp n * 2 ^ (8 * ((sz n : Nat) : Int) - 2).toNat % 2 ^ IntKind.u64.bits) = mrk n := by
        have := mrk_or hlt
        rw [show (8 * ((sz n : Nat) : Int) - 2).toNat = 8 * sz n - 2 from by omega]
        exact this
      rw [hm]
      have hlen : (be (sz n) (mrk n)).length = sz n := be_length _ _
      have hm64 := mrk_lt64 hlt
      have henc : enc n = be (sz n) (mrk n) := rfl
      rw [henc]
      generalize hs : sz n = s at *
      apply St_makeSlice tb; exact rfl; exact rfl; exact rfl; exact rfl; exact rfl; exact rfl
      · constructor
        · omega
        · show ((1 : Nat) : Int) * (s : Int) ≤ _
          omega
      · decide
      · omega
      intro b
      refine St_cel (cs' := filling (be s (mrk n)) 0) (by exact Has.auto) ?_ ?_
      · show (List.replicate ((s : Nat) : Int).toNat [Value.int .u8 0]).flatten = _
        rw [Int.toNat_natCast]
        unfold filling
        rw [hlen]
        simp only [List.take_zero, List.map_nil, List.nil_append, Nat.sub_zero]
        exact List.flatten_replicate_singleton
      repeat' (first | (refine St_loop (fun (z : Nat) => z ≤ s) (fun z => [(0, nat .u64 (mrk n)), (4, nat .i64 s), (5, .slice (some ⟨b, 0, none⟩) ((s : Nat) : Int).toNat ((s : Nat) : Int).toNat), (24, nat .i64 z), (23, .int .i64 ((s : Nat) : Int).toNat)]) (fun z => [cel false b 5 (filling (be s (mrk n)) z), GB, big F]) (fun z => s - z) 0 (Nat.zero_le _) ⟨rfl, rfl, rfl, rfl, rfl, trivial⟩ (by exact Split.auto) ?_) | (refine St_step ?_; (try with_reducible intro _)) | (refine St_step2 ?_ ?_ <;> (intro hb; (try simp only [beq_iff_eq, bne_iff_ne, decide_eq_true_eq, decide_eq_false_iff_not, Bool.not_eq_true', Bool.not_eq_false', beq_eq_false_iff_ne, bne_eq_false_iff_eq, ne_eq, Int.not_lt, Int.not_le, gt_iff_lt, ge_iff_le] at hb); (try (first | exact Bool.noConfusion hb | exact absurd trivial hb | (exfalso; omega))))) | fail)
      intro z hz
      have hget := be_get s (mrk n) z
      have hset := filling_set (be s (mrk n)) z
      have hfl := filling_length (be s (mrk n)) z (by omega)
      have hfull := filling_full (be s (mrk n))
      rw [hlen] at hfull
      repeat' (first | (apply St_store1n tb; exact rfl; exact rfl; exact rfl; exact rfl; exact rfl; exact Has.auto; (simp only [hfl]; omega)) | (apply St_rd; exact rfl; (first | (apply Rd_natShr; exact rfl; exact rfl; exact ⟨by omega, by simp only [IntKind.bits]; omega⟩) | (apply Rd_natConv tb; exact rfl; exact rfl; exact rfl; exact rfl))) | (apply Sq_rd; exact rfl; (first | (apply Rd_natShr; exact rfl; exact rfl; exact ⟨by omega, by simp only [IntKind.bits]; omega⟩) | (apply Rd_natConv tb; exact rfl; exact rfl; exact rfl; exact rfl))) | (refine St_step ?_; (try with_reducible intro _)) | (refine St_step2 ?_ ?_ <;> (intro hb; (try simp only [beq_iff_eq, bne_iff_ne, decide_eq_true_eq, decide_eq_false_iff_not, Bool.not_eq_true', Bool.not_eq_false', beq_eq_false_iff_ne, bne_eq_false_iff_eq, ne_eq, Int.not_lt, Int.not_le, gt_iff_lt, ge_iff_le] at hb); (try (first | exact Bool.noConfusion hb | exact absurd trivial hb | (exfalso; omega))))) | fail)
      · have hg2 := hget (by omega)
        have e : (filling (be s (mrk n)) z).set (0 + ((z : Nat) : Int).toNat * 1) (nat .u8 (mrk n / 2 ^ (8 * ((s : Int) - 1 - (z : Int))).toNat % 2 ^ IntKind.u8.bits)) = filling (be s (mrk n)) (z + 1) := by
          rw [← hset _ hg2]
          have e1 : 0 + ((z : Nat) : Int).toNat * 1 = z := by omega
          have e2 : (8 * ((s : Int) - 1 - (z : Int))).toNat = 8 * (s - 1 - z) := by omega
          rw [e1, e2, Nat.pow_mul]
          congr 1
          simp [IntKind.bits]
        refine St_cel (cs' := filling (be s (mrk n)) (z + 1)) (by exact Has.auto) e ?_
        refine St_at (z + 1) ⟨by omega, by omega⟩ ⟨rfl, rfl, rfl, rfl, rfl, trivial⟩ (by exact Split.auto)
      · have hzs : z = s := by omega
        subst hzs
        rw [hfull]
        repeat' (first | (apply St_rd; exact rfl; (first | (apply Rd_convB tb; exact rfl; exact rfl; exact rfl; exact rfl; exact Has.auto; (rw [hlen]; omega)))) | (apply Sq_rd; exact rfl; (first | (apply Rd_convB tb; exact rfl; exact rfl; exact rfl; exact rfl; exact Has.auto; (rw [hlen]; omega)))) | (refine St_step ?_; (try with_reducible intro _)) | (refine St_step2 ?_ ?_ <;> (intro hb; (try simp only [beq_iff_eq, bne_iff_ne, decide_eq_true_eq, decide_eq_false_iff_not, Bool.not_eq_true', Bool.not_eq_false', beq_eq_false_iff_ne, bne_eq_false_iff_eq, ne_eq, Int.not_lt, Int.not_le, gt_iff_lt, ge_iff_le] at hb); (try (first | exact Bool.noConfusion hb | exact absurd trivial hb | (exfalso; omega))))) | fail)
        exact St_ret2 (.inl rfl) rfl rfl rfl ⟨rfl, rfl⟩ (by exact Split.auto)
  · have hs0 : sz n = 0 := sz_zero.2 (by omega)
    rw [if_neg hlt, if_neg hlt]
    repeat' (first | (apply St_call; exact rfl; exact rfl; exact size_sp n hn; exact Split.auto; rintro _ _ ⟨rfl, rfl⟩) | (refine St_step ?_; (try with_reducible intro _)) | (refine St_step2 ?_ ?_ <;> (intro hb; (try simp only [beq_iff_eq, bne_iff_ne, decide_eq_true_eq, decide_eq_false_iff_not, Bool.not_eq_true', Bool.not_eq_false', beq_eq_false_iff_ne, bne_eq_false_iff_eq, ne_eq, Int.not_lt, Int.not_le, gt_iff_lt, ge_iff_le] at hb); (try (first | exact Bool.noConfusion hb | exact absurd trivial hb | (exfalso; omega))))) | fail)
    · exact St_ret2 (.inl rfl) rfl rfl rfl ⟨rfl, rfl⟩ (by exact Split.auto)
/-- What a number's bytes come to, from a place on. -/
def getAns (l : List UInt8) (at_ : Int) : List Value :=
  if at_ < 0 ∨ (l.length : Int) < at_ then [nat .u64 0, .int .i64 0, .int .i64 1] else
    match Pl.get (l.drop at_.toNat) with
    | .err e => [nat .u64 0, .int .i64 0, nat .i64 e]
    | .num n s => [nat .u64 n, .int .i64 (at_ + s), .int .i64 0]
set_option maxHeartbeats 2000000 in
theorem get_sp (l : List UInt8) (at_ : Int) (hl : l.length ≤ 1000000) : Sp Tryd.prog 82 [str l, .int .i64 at_] [GB]
    (fun v M => v = .tuple (getAns l at_).toArray ∧ M = [GB]) := by
  refine Sp.intro (P := Tryd.prog) (Tryd.func82) rfl Tryd.ntmps82 (by decide) rfl ?_
  intro ρ F
  by_cases h0 : at_ < 0 ∨ (l.length : Int) < at_
  · have e : getAns l at_ = [nat .u64 0, .int .i64 0, .int .i64 1] := if_pos h0
    rw [e]
    repeat' (first | (refine St_step ?_; (try with_reducible intro _)) | (refine St_step2 ?_ ?_ <;> (intro hb; (try simp only [beq_iff_eq, bne_iff_ne, decide_eq_true_eq, decide_eq_false_iff_not, Bool.not_eq_true', Bool.not_eq_false', beq_eq_false_iff_ne, bne_eq_false_iff_eq, ne_eq, Int.not_lt, Int.not_le, gt_iff_lt, ge_iff_le] at hb); (try (first | exact Bool.noConfusion hb | exact absurd trivial hb | (exfalso; omega))))) | fail)
    · exact St_ret3 (.inl rfl) rfl rfl rfl rfl ⟨rfl, rfl⟩ (by exact Split.auto)
    · exact St_ret3 (.inl rfl) rfl rfl rfl rfl ⟨rfl, rfl⟩ (by exact Split.auto)
    all_goals (exfalso; omega)
  · have e : getAns l at_ = _ := if_neg h0
    rw [e]
    have hlen : (l.drop at_.toNat).length ≤ 1000000 := by simp; omega
    repeat' (first | (refine St_step ?_; (try with_reducible intro _)) | (refine St_step2 ?_ ?_ <;> (intro hb; (try simp only [beq_iff_eq, bne_iff_ne, decide_eq_true_eq, decide_eq_false_iff_not, Bool.not_eq_true', Bool.not_eq_false', beq_eq_false_iff_ne, bne_eq_false_iff_eq, ne_eq, Int.not_lt, Int.not_le, gt_iff_lt, ge_iff_le] at hb); (try (first | exact Bool.noConfusion hb | exact absurd trivial hb | (exfalso; omega))))) | fail)
    · rw [hb]; exact St_ret3 (.inl rfl) rfl rfl rfl rfl ⟨rfl, rfl⟩ (by exact Split.auto)
    · generalize l.drop at_.toNat = r at *
      cases r with
      | nil => exact absurd rfl hb
      | cons c t =>
        have hc := c.toNat_lt
        obtain ⟨k, hk⟩ : ∃ k, k = c.toNat / 64 := ⟨_, rfl⟩
        have hk3 : k ≤ 3 := by omega
        obtain ⟨hp1, hp2⟩ := pow_le8 hk3
        have hsh : c.toNat / 2 ^ ((6 : Int)).toNat = k := by rw [hk]; rfl
        simp only [Pl.get, ← hk]
        simp only [List.length_cons] at hlen
        repeat' (first | (apply St_rd; exact rfl; (first | (apply Rd_indexStr tb; exact rfl; exact rfl; exact rfl; decide; exact rfl) | (apply Rd_natShr; exact rfl; exact rfl; decide) | (rw [hsh]; apply Rd_shl1; exact rfl; exact rfl; omega) | (apply Rd_natAnd; exact rfl; exact rfl; exact rfl; exact hc; decide) | (apply Rd_natConv tb; exact rfl; exact rfl; exact rfl; exact rfl))) | (apply Sq_rd; exact rfl; (first | (apply Rd_indexStr tb; exact rfl; exact rfl; exact rfl; decide; exact rfl) | (apply Rd_natShr; exact rfl; exact rfl; decide) | (rw [hsh]; apply Rd_shl1; exact rfl; exact rfl; omega) | (apply Rd_natAnd; exact rfl; exact rfl; exact rfl; exact hc; decide) | (apply Rd_natConv tb; exact rfl; exact rfl; exact rfl; exact rfl))) | (refine St_step ?_; (try with_reducible intro _)) | (refine St_step2 ?_ ?_ <;> (intro hb; (try simp only [beq_iff_eq, bne_iff_ne, decide_eq_true_eq, decide_eq_false_iff_not, Bool.not_eq_true', Bool.not_eq_false', beq_eq_false_iff_ne, bne_eq_false_iff_eq, ne_eq, Int.not_lt, Int.not_le, gt_iff_lt, ge_iff_le] at hb); (try (first | exact Bool.noConfusion hb | exact absurd trivial hb | (exfalso; omega))))) | fail)
        · have hcut : (c :: t).length < 2 ^ k := by omega
          rw [if_pos hcut]
          exact St_ret3 (.inl rfl) rfl rfl rfl rfl ⟨rfl, rfl⟩ (by exact Split.auto)
        · have hcut : ¬ (c :: t).length < 2 ^ k := by omega
          rw [if_neg hcut]
          have hand : (c.toNat &&& 63) % 2 ^ IntKind.u64.bits = c.toNat % 64 := by
            have h1 : c.toNat &&& 63 = c.toNat % 64 := Nat.and_two_pow_sub_one_eq_mod _ 6
            rw [h1]; simp only [IntKind.bits]; omega
          rw [hand]
          have hg := got_sz c t (by rw [← hk]; simp only [List.length_cons] at hcut; omega)
          rw [← hk] at hg
          repeat' (first | (refine St_loop (fun (z : Nat) => 1 ≤ z ∧ z ≤ 2 ^ k) (fun z => [(1, .int .i64 at_), (7, str (c :: t)), (8, nat .i64 (2 ^ k)), (9, nat .u64 (val (t.take (z - 1)) (c.toNat % 64))), (10, nat .i64 z)]) (fun z => [GB, big F]) (fun z => 2 ^ k - z) 1 ⟨Nat.le_refl _, hp2⟩ ⟨rfl, rfl, rfl, rfl, rfl, trivial⟩ (by exact Split.auto) ?_) | (refine St_step ?_; (try with_reducible intro _)) | (refine St_step2 ?_ ?_ <;> (intro hb; (try simp only [beq_iff_eq, bne_iff_ne, decide_eq_true_eq, decide_eq_false_iff_not, Bool.not_eq_true', Bool.not_eq_false', beq_eq_false_iff_ne, bne_eq_false_iff_eq, ne_eq, Int.not_lt, Int.not_le, gt_iff_lt, ge_iff_le] at hb); (try (first | exact Bool.noConfusion hb | exact absurd trivial hb | (exfalso; omega))))) | fail)
          rintro z ⟨hz1, hz2⟩
          simp only [List.length_cons] at hcut
          by_cases hzk : z < 2 ^ k
          · obtain ⟨q, hq⟩ : ∃ q, t[z - 1]? = some q := ⟨t[z - 1], List.getElem?_eq_getElem (by omega)⟩
            have hq' : (c :: t)[((z : Nat) : Int).toNat]? = some q := by
              rw [Int.toNat_natCast, show z = (z - 1) + 1 from by omega, List.getElem?_cons_succ]
              exact hq
            have hv := val_take_lt t (z - 1) (c.toNat % 64) (by omega) (by omega)
            have hsn := val_snoc t (z - 1) (c.toNat % 64) q hq
            repeat' (first | (apply St_rd; exact rfl; (first | (apply Rd_indexStr tb; exact rfl; exact rfl; exact rfl; omega; exact hq') | (apply Rd_natShl; exact rfl; exact rfl; exact rfl; decide) | (apply Rd_natConv tb; exact rfl; exact rfl; exact rfl; exact rfl) | (apply Rd_natOr; exact rfl; exact rfl; exact rfl; exact Nat.mod_lt _ (by decide); exact Nat.mod_lt _ (by decide)))) | (apply Sq_rd; exact rfl; (first | (apply Rd_indexStr tb; exact rfl; exact rfl; exact rfl; omega; exact hq') | (apply Rd_natShl; exact rfl; exact rfl; exact rfl; decide) | (apply Rd_natConv tb; exact rfl; exact rfl; exact rfl; exact rfl) | (apply Rd_natOr; exact rfl; exact rfl; exact rfl; exact Nat.mod_lt _ (by decide); exact Nat.mod_lt _ (by decide)))) | (refine St_step ?_; (try with_reducible intro _)) | (refine St_step2 ?_ ?_ <;> (intro hb; (try simp only [beq_iff_eq, bne_iff_ne, decide_eq_true_eq, decide_eq_false_iff_not, Bool.not_eq_true', Bool.not_eq_false', beq_eq_false_iff_ne, bne_eq_false_iff_eq, ne_eq, Int.not_lt, Int.not_le, gt_iff_lt, ge_iff_le] at hb); (try (first | exact Bool.noConfusion hb | exact absurd trivial hb | (exfalso; omega))))) | fail)
            · have hor := shl_or hv q.toNat_lt
              have e9 : (val (t.take (z - 1)) (c.toNat % 64) * 2 ^ ((8 : Int)).toNat % 2 ^ IntKind.u64.bits) ||| (q.toNat % 2 ^ IntKind.u64.bits) = val (t.take (z + 1 - 1)) (c.toNat % 64) := by
                have h1 : q.toNat % 2 ^ IntKind.u64.bits = q.toNat := Nat.mod_eq_of_lt (Nat.lt_of_lt_of_le q.toNat_lt (by decide))
                rw [h1, show z + 1 - 1 = (z - 1) + 1 from by omega, hsn]
                exact hor
              rw [e9]
              exact St_at (z + 1) ⟨⟨by omega, by omega⟩, by omega⟩ ⟨rfl, rfl, rfl, rfl, rfl, trivial⟩ (by exact Split.auto)
          · have hzz : z = 2 ^ k := by omega
            have hsz := hg.2
            rw [← hzz] at hg ⊢
            have hnn : val (t.take (z - 1)) (c.toNat % 64) < 18446744073709551616 := by omega
            repeat' (first | (apply St_call; exact rfl; exact rfl; exact size_sp _ hnn; exact Split.auto; rintro _ _ ⟨rfl, rfl⟩) | (refine St_step ?_; (try with_reducible intro _)) | (refine St_step2 ?_ ?_ <;> (intro hb; (try simp only [beq_iff_eq, bne_iff_ne, decide_eq_true_eq, decide_eq_false_iff_not, Bool.not_eq_true', Bool.not_eq_false', beq_eq_false_iff_ne, bne_eq_false_iff_eq, ne_eq, Int.not_lt, Int.not_le, gt_iff_lt, ge_iff_le] at hb); (try (first | exact Bool.noConfusion hb | exact absurd trivial hb | (exfalso; omega))))) | fail)
            · rw [if_pos (by omega)]
              exact St_ret3 (.inl rfl) rfl rfl rfl rfl ⟨rfl, rfl⟩ (by exact Split.auto)
            · rw [if_neg (by omega)]
              exact St_ret3 (.inl rfl) rfl rfl rfl rfl ⟨rfl, rfl⟩ (by exact Split.auto)
theorem drop_cons {l t : List UInt8} {n : Nat} {c : UInt8} (h : l.drop n = c :: t) : l[n]? = some c ∧ (∀ i, l[n + 1 + i]? = t[i]?) ∧ l.length = n + 1 + t.length := by
  have h0 : ∀ i, (l.drop n)[i]? = l[n + i]? := fun i => by simp
  have hlen : (l.drop n).length = t.length + 1 := by rw [h]; rfl
  simp only [List.length_drop] at hlen
  refine ⟨?_, fun i => ?_, by omega⟩
  · have := h0 0; rw [h] at this; simpa using this.symm
  · have := h0 (1 + i); rw [h] at this
    rw [Nat.add_assoc, ← this, Nat.add_comm 1 i]; rfl
end Go.Proofs.YtfjnacakpeommaaDoor
