/- Contracts: chapbookref02's Flip, chapbooklaw09's FrameBurst. -/
import Derived.Test.YtffnnddhlpcicaaDoorC10
import Derived.Test.YtffnnddhlpcicaaDoorSl2
import Derived.Test.YtffnnddhlpcicaaDoorPl6
namespace Go.Proofs.YtffnnddhlpcicaaDoor
open Go SL Pl
set_option autoImplicit false
set_option maxRecDepth 100000
set_option linter.unusedSimpArgs false
set_option linter.unusedVariables false
attribute [local irreducible] St Sq Exec QExec wpList wpQuiet Code.wp Exit.then Exit.inBlock bodyPost At Rd wpOp Wa QK GB
theorem byteCells_len (l : List UInt8) : (Lib.byteCells l).length = l.length := by simp [Lib.byteCells]
theorem flip1_cells (l : List UInt8) (r : List Value) (i : Nat) (c : UInt8) (hc : l[i / 8]? = some c) :
    (Lib.byteCells l ++ r).set (i / 8) (nat .u8 (c.toNat ^^^ 2 ^ (i % 8))) = Lib.byteCells (flip1 l i) ++ r := by
  have hi : i / 8 < l.length := by
    rcases Nat.lt_or_ge (i / 8) l.length with h | h
    · exact h
    · rw [List.getElem?_eq_none h] at hc; cases hc
  rw [List.set_append_left _ _ (by rw [byteCells_len]; exact hi)]
  congr 1
  have hx : c.toNat ^^^ 2 ^ (i % 8) < 2 ^ 8 := Nat.xor_lt_two_pow c.toNat_lt (Nat.pow_lt_pow_right (by decide) (Nat.mod_lt _ (by decide)))
  apply List.ext_getElem?
  intro j
  rw [List.getElem?_set]
  simp only [Lib.byteCells, List.length_map, List.getElem?_map, flip1, List.getElem?_modify]
  by_cases hj : i / 8 = j
  · subst hj
    rw [hc]
    have hp : 2 ^ (i % 8) < 256 := Nat.pow_lt_pow_right (show 1 < 2 by decide) (Nat.mod_lt _ (by decide))
    have hx2 : c.toNat ^^^ (2 ^ (i % 8)) % 256 = c.toNat ^^^ 2 ^ (i % 8) := by rw [Nat.mod_eq_of_lt hp]
    simp [hi]
    exact congrArg (fun x : Nat => (x : Int)) hx2.symm
  · simp [hj]
theorem flip_sp (l : List UInt8) (a m : Nat) (hl : l.length ≤ 1000000) (ha : a ≤ 4000) (hm : m < 4294967296) : Sp Tryd.prog 15 [str l, nat .i64 a, nat .u32 m] []
    (fun v M => v = str (flips l a m 32) ∧ M = []) := by
  refine Sp.intro (P := Tryd.prog) (Tryd.func15) rfl Tryd.ntmps15 (by decide) rfl ?_
  intro ρ F
  repeat' (first | (apply St_convSB tb; exact rfl; exact rfl; exact rfl; exact rfl; exact rfl) | (refine St_step ?_; (try with_reducible intro _)) | (refine St_step2 ?_ ?_ <;> (intro hb; (try simp only [beq_iff_eq, bne_iff_ne, decide_eq_true_eq, decide_eq_false_iff_not, Bool.not_eq_true', Bool.not_eq_false', beq_eq_false_iff_ne, bne_eq_false_iff_eq, ne_eq, Int.not_lt, Int.not_le, gt_iff_lt, ge_iff_le] at hb); (try (first | exact Bool.noConfusion hb | exact absurd trivial hb | (exfalso; omega))))) | fail)
  intro b n
  repeat' (first | (refine St_loop (fun (k : Nat) => k ≤ 32) (fun k => [(1, nat .i64 a), (2, nat .u32 (m / 2 ^ k)), (7, .slice (some ⟨b, 0, none⟩) l.length (l.length + n)), (8, nat .i64 k)]) (fun k => [cel false b 5 (Lib.byteCells (flips l a m k) ++ List.replicate n (.int .u8 0)), big F]) (fun k => 32 - k) 0 (Nat.zero_le _) ⟨rfl, ?_, rfl, rfl, trivial⟩ (by exact Split.auto) ?_) | (refine St_step ?_; (try with_reducible intro _)) | (refine St_step2 ?_ ?_ <;> (intro hb; (try simp only [beq_iff_eq, bne_iff_ne, decide_eq_true_eq, decide_eq_false_iff_not, Bool.not_eq_true', Bool.not_eq_false', beq_eq_false_iff_ne, bne_eq_false_iff_eq, ne_eq, Int.not_lt, Int.not_le, gt_iff_lt, ge_iff_le] at hb); (try (first | exact Bool.noConfusion hb | exact absurd trivial hb | (exfalso; omega))))) | fail)
  · rw [Nat.pow_zero, Nat.div_one]; rfl
  intro k hk
  have hfl := flips_length l a m k
  have hmd : m / 2 ^ k < 2 ^ IntKind.u32.bits := Nat.lt_of_le_of_lt (Nat.div_le_self _ _) hm
  have hdd : m / 2 ^ k / 2 = m / 2 ^ (k + 1) := by rw [Nat.div_div_eq_div_mul, Nat.pow_succ]
  by_cases hk32 : k < 32
  · have hi8 : (a + k) % 8 < 8 := Nat.mod_lt _ (by decide)
    by_cases hf : m / 2 ^ k % 2 = 1 ∧ a + k < 8 * l.length
    · have hfs : flips l a m (k + 1) = flip1 (flips l a m k) (a + k) := if_pos hf
      obtain ⟨hf1, hf2⟩ := hf
      have hlen8 : (a + k) / 8 < l.length := by omega
      obtain ⟨c, hc⟩ : ∃ c, (flips l a m k)[(a + k) / 8]? = some c := ⟨_, List.getElem?_eq_getElem (by omega)⟩
      have hset := flip1_cells (flips l a m k) (List.replicate n (.int .u8 0)) (a + k) c hc
      rw [← hfs] at hset
      have hld : (Lib.byteCells (flips l a m k) ++ List.replicate n (.int .u8 0))[0 + (((a + k : Nat) / 8 : Nat) : Int).toNat * 1]? = some (nat .u8 c.toNat) := by
        rw [List.getElem?_append_left (by rw [byteCells_len]; omega)]
        simp only [Int.toNat_natCast, Nat.zero_add, Nat.mul_one, Lib.byteCells, List.getElem?_map, hc, Option.map_some]
      have hlen : (Lib.byteCells (flips l a m k) ++ List.replicate n (Value.int .u8 0)).length = l.length + n := by simp [Lib.byteCells, hfl]
      have hcast : ((a : Int) + (k : Int)) = ((a + k : Nat) : Int) := rfl
      repeat' (first | (apply St_rd; exact rfl; (first | (rw [hcast]; apply Rd_move; exact rfl) | (apply Rd_natMod; exact rfl; exact rfl; decide) | (apply Rd_natDiv; exact rfl; exact rfl; exact rfl; exact hmd; decide))) | (apply Sq_rd; exact rfl; (first | (rw [hcast]; apply Rd_move; exact rfl) | (apply Rd_natMod; exact rfl; exact rfl; decide) | (apply Rd_natDiv; exact rfl; exact rfl; exact rfl; exact hmd; decide))) | (refine St_step ?_; (try with_reducible intro _)) | (refine St_step2 ?_ ?_ <;> (intro hb; (try simp only [beq_iff_eq, bne_iff_ne, decide_eq_true_eq, decide_eq_false_iff_not, Bool.not_eq_true', Bool.not_eq_false', beq_eq_false_iff_ne, bne_eq_false_iff_eq, ne_eq, Int.not_lt, Int.not_le, gt_iff_lt, ge_iff_le] at hb); (try (first | exact Bool.noConfusion hb | exact absurd trivial hb | (exfalso; omega))))) | fail)
      refine St_val (t := 9) (v' := nat .i64 (a + k)) rfl rfl ?_
      generalize hi : a + k = i at *
      refine St_loop (fun (j : Nat) => j ≤ i % 8) (fun j => [(1, nat .i64 a), (2, nat .u32 (m / 2 ^ k)), (7, .slice (some ⟨b, 0, none⟩) l.length (l.length + n)), (8, nat .i64 k), (9, nat .i64 i), (10, nat .u8 (2 ^ j)), (11, nat .i64 j)]) (fun j => [cel false b 5 (Lib.byteCells (flips l a m k) ++ List.replicate n (.int .u8 0)), big F]) (fun j => i % 8 - j) 0 (Nat.zero_le _) ⟨rfl, rfl, rfl, rfl, rfl, ?_, rfl, trivial⟩ (by exact Split.auto) ?_
      · rw [Nat.pow_zero]; rfl
      intro j hj
      by_cases hj8 : j < i % 8
      · have hpj : 2 ^ j * 2 % 2 ^ IntKind.u8.bits = 2 ^ (j + 1) := by
          rw [← Nat.pow_succ]
          exact Nat.mod_eq_of_lt (Nat.pow_lt_pow_right (by decide) (show j + 1 < 8 by omega))
        repeat' (first | (apply St_rd; exact rfl; (first | (apply Rd_natMod; exact rfl; exact rfl; decide) | (apply Rd_natMul; exact rfl; exact rfl; exact rfl))) | (apply Sq_rd; exact rfl; (first | (apply Rd_natMod; exact rfl; exact rfl; decide) | (apply Rd_natMul; exact rfl; exact rfl; exact rfl))) | (refine St_step ?_; (try with_reducible intro _)) | (refine St_step2 ?_ ?_ <;> (intro hb; (try simp only [beq_iff_eq, bne_iff_ne, decide_eq_true_eq, decide_eq_false_iff_not, Bool.not_eq_true', Bool.not_eq_false', beq_eq_false_iff_ne, bne_eq_false_iff_eq, ne_eq, Int.not_lt, Int.not_le, gt_iff_lt, ge_iff_le] at hb); (try (first | exact Bool.noConfusion hb | exact absurd trivial hb | (exfalso; omega))))) | fail)
        rw [hpj]
        exact St_at (j + 1) ⟨by omega, by omega⟩ ⟨rfl, rfl, rfl, rfl, rfl, rfl, rfl, trivial⟩ (by exact Split.auto)
      · have hjj : j = i % 8 := by omega
        have hp8 : 2 ^ j < 2 ^ IntKind.u8.bits := Nat.pow_lt_pow_right (by decide) (show j < 8 by omega)
        have hc8 : c.toNat < 2 ^ IntKind.u8.bits := c.toNat_lt
        have hst : (Lib.byteCells (flips l a m k) ++ List.replicate n (Value.int .u8 0)).set (0 + ((i / 8 : Nat) : Int).toNat * 1) (nat .u8 (c.toNat ^^^ 2 ^ j)) = Lib.byteCells (flips l a m (k + 1)) ++ List.replicate n (.int .u8 0) := by
          rw [← hset, hjj]; simp only [Int.toNat_natCast, Nat.zero_add, Nat.mul_one]
        have hix : 0 ≤ ((i / 8 : Nat) : Int) ∧ ((i / 8 : Nat) : Int) < (l.length : Int) := ⟨Int.natCast_nonneg _, Int.ofNat_lt.2 hlen8⟩
        have hoff : 0 + ((i / 8 : Nat) : Int).toNat * 1 < l.length + n := by rw [Int.toNat_natCast]; omega
        repeat' (first | (apply St_store1n tb; exact rfl; exact rfl; exact rfl; exact rfl; exact rfl; exact Has.auto; (rw [hlen]; exact hoff)) | (apply St_rd; exact rfl; (first | (apply Rd_indexAddrS tb; exact rfl; exact rfl; exact rfl; exact rfl; exact hix) | (apply Rd_natMod; exact rfl; exact rfl; decide) | (apply Rd_iDiv; exact rfl; exact rfl; omega; decide) | (apply Rd_loadn tb; exact rfl; exact rfl; exact rfl; exact Has.auto; exact hld) | (apply Rd_natXor; exact rfl; exact rfl; exact rfl; exact hc8; exact hp8) | (apply Rd_natDiv; exact rfl; exact rfl; exact rfl; exact hmd; decide))) | (apply Sq_rd; exact rfl; (first | (apply Rd_indexAddrS tb; exact rfl; exact rfl; exact rfl; exact rfl; exact hix) | (apply Rd_natMod; exact rfl; exact rfl; decide) | (apply Rd_iDiv; exact rfl; exact rfl; omega; decide) | (apply Rd_loadn tb; exact rfl; exact rfl; exact rfl; exact Has.auto; exact hld) | (apply Rd_natXor; exact rfl; exact rfl; exact rfl; exact hc8; exact hp8) | (apply Rd_natDiv; exact rfl; exact rfl; exact rfl; exact hmd; decide))) | (refine St_step ?_; (try with_reducible intro _)) | (refine St_step2 ?_ ?_ <;> (intro hb; (try simp only [beq_iff_eq, bne_iff_ne, decide_eq_true_eq, decide_eq_false_iff_not, Bool.not_eq_true', Bool.not_eq_false', beq_eq_false_iff_ne, bne_eq_false_iff_eq, ne_eq, Int.not_lt, Int.not_le, gt_iff_lt, ge_iff_le] at hb); (try (first | exact Bool.noConfusion hb | exact absurd trivial hb | (exfalso; omega))))) | fail)
        refine St_cel (r := false) (b := b) (cs' := Lib.byteCells (flips l a m (k + 1)) ++ List.replicate n (.int .u8 0)) (by exact Has.auto) hst ?_
        rw [hdd]
        exact St_at (k + 1) ⟨by omega, by omega⟩ ⟨rfl, rfl, rfl, rfl, trivial⟩ (by exact Split.auto)
    · have hfs : flips l a m (k + 1) = flips l a m k := if_neg hf
      have hcast : ((a : Int) + (k : Int)) = ((a + k : Nat) : Int) := rfl
      repeat' (first | (apply St_rd; exact rfl; (first | (apply Rd_natMod; exact rfl; exact rfl; decide) | (apply Rd_natDiv; exact rfl; exact rfl; exact rfl; exact hmd; decide))) | (apply Sq_rd; exact rfl; (first | (apply Rd_natMod; exact rfl; exact rfl; decide) | (apply Rd_natDiv; exact rfl; exact rfl; exact rfl; exact hmd; decide))) | (refine St_step ?_; (try with_reducible intro _)) | (refine St_step2 ?_ ?_ <;> (intro hb; (try simp only [beq_iff_eq, bne_iff_ne, decide_eq_true_eq, decide_eq_false_iff_not, Bool.not_eq_true', Bool.not_eq_false', beq_eq_false_iff_ne, bne_eq_false_iff_eq, ne_eq, Int.not_lt, Int.not_le, gt_iff_lt, ge_iff_le] at hb); (try (first | exact Bool.noConfusion hb | exact absurd trivial hb | (exfalso; omega))))) | fail)
      all_goals first
        | (exfalso; omega)
        | (rw [hdd]; refine St_at (k + 1) ⟨by omega, by omega⟩ ⟨rfl, rfl, rfl, rfl, trivial⟩ (by rw [hfs]; exact Split.auto))
  · have : k = 32 := by omega
    subst this
    generalize flips l a m 32 = q at *
    repeat' (first | (apply St_rd; exact rfl; (first | (apply Rd_convBS tb (m := l.length) (l := q); exact rfl; exact rfl; exact rfl; exact rfl; exact ⟨_, _, _, rfl⟩; intro _; exact Src.row (by exact Has.auto) (by simp [Lib.byteCells, hfl]) (by simp [Lib.byteCells, ← hfl])))) | (apply Sq_rd; exact rfl; (first | (apply Rd_convBS tb (m := l.length) (l := q); exact rfl; exact rfl; exact rfl; exact rfl; exact ⟨_, _, _, rfl⟩; intro _; exact Src.row (by exact Has.auto) (by simp [Lib.byteCells, hfl]) (by simp [Lib.byteCells, ← hfl])))) | (refine St_step ?_; (try with_reducible intro _)) | (refine St_step2 ?_ ?_ <;> (intro hb; (try simp only [beq_iff_eq, bne_iff_ne, decide_eq_true_eq, decide_eq_false_iff_not, Bool.not_eq_true', Bool.not_eq_false', beq_eq_false_iff_ne, bne_eq_false_iff_eq, ne_eq, Int.not_lt, Int.not_le, gt_iff_lt, ge_iff_le] at hb); (try (first | exact Bool.noConfusion hb | exact absurd trivial hb | (exfalso; omega))))) | fail)
    exact St_ret1 (.inl rfl) rfl rfl ⟨rfl, rfl⟩ (by exact Split.auto)
theorem frameBurst_sp (f : Fr) (a : Int) (m : Nat) (hm : m < 4294967296) (hd : f.data.length ≤ 9223372036854775807) :
    Sp Tryd.prog 7 [.agg (fv f).toArray, .int .i64 a, nat .u32 m] [GB] (fun v M => v = .bool true ∧ M = [GB]) := by
  refine Sp.intro (P := Tryd.prog) (Tryd.func7) rfl Tryd.ntmps7 (by decide) rfl ?_
  intro ρ F
  by_cases hl : f.data.length ≤ 300 ∧ 0 ≤ a ∧ a ≤ 4000
  · obtain ⟨l1, l2, l3⟩ := hl
    obtain ⟨n, rfl⟩ := Int.eq_ofNat_of_zero_le l2
    have c1 := fput_sp f 1400 (by omega)
    by_cases he : (fput f 1400).2 = 0
    · obtain ⟨b, hb1⟩ : ∃ b, fput f 1400 = (b, 0) := ⟨(fput f 1400).1, by rw [← he]⟩
      obtain ⟨g1, g2, g3, g4, g5, g6⟩ := fget_fput hb1
      rw [hb1] at c1
      have c2 := flip_sp b n m (by omega) (by omega) hm
      have hbu := burst (s := fbody f) (a := n) (m := m) (k := 32) (Nat.le_refl _)
      have hseal : seald (fbody f) = b := by rw [g2]; rfl
      have hlen := flips_length b n m 32
      have c3 := fget_sp (flips b n m 32) (by omega)
      rw [hseal] at hbu
      dsimp only at c1
      rcases hbu with hbu | hbu
      · rw [hbu] at c2 c3
        rw [g1] at c3
        dsimp only at c3
        have hbb : (b == b) = true := beq_self_eq_true b
        have hff := (fr_eq f f).2 rfl
        repeat' (first | (apply St_call (hf := fawake_sp); exact rfl; exact rfl; exact Split.auto; rintro _ _ ⟨rfl, rfl⟩) | (apply St_call (hf := c1); exact rfl; exact rfl; exact Split.auto; rintro _ _ ⟨rfl, rfl⟩) | (apply St_call (hf := c2); exact rfl; exact rfl; exact Split.auto; rintro _ _ ⟨rfl, rfl⟩) | (apply St_call (hf := c3); exact rfl; exact rfl; exact Split.auto; rintro _ _ ⟨rfl, rfl⟩) | (apply St_rd; exact rfl; (first | (apply Rd_strOp (v := .bool true); exact rfl; exact rfl; exact congrArg (fun x => some (Value.bool x)) hbb) | (apply Rd_eqStruct tb (r := true); exact rfl; exact rfl; exact rfl; kernel_rfl; exact congrArg some hff))) | (apply Sq_rd; exact rfl; (first | (apply Rd_strOp (v := .bool true); exact rfl; exact rfl; exact congrArg (fun x => some (Value.bool x)) hbb) | (apply Rd_eqStruct tb (r := true); exact rfl; exact rfl; exact rfl; kernel_rfl; exact congrArg some hff))) | (refine St_step ?_; (try with_reducible intro _)) | (refine St_step2 ?_ ?_ <;> (intro hb; (try simp only [beq_iff_eq, bne_iff_ne, decide_eq_true_eq, decide_eq_false_iff_not, Bool.not_eq_true', Bool.not_eq_false', beq_eq_false_iff_ne, bne_eq_false_iff_eq, ne_eq, Int.not_lt, Int.not_le, gt_iff_lt, ge_iff_le] at hb); (try (first | exact Bool.noConfusion hb | exact absurd trivial hb | (exfalso; omega))))) | fail)
        all_goals (first | (first | contradiction | (exfalso; omega) | (exact St_ret1 (.inl rfl) rfl rfl ⟨rfl, rfl⟩ (by exact Split.auto)) | (exact St_ret2 (.inl rfl) rfl rfl rfl ⟨rfl, rfl⟩ (by exact Split.auto)) | (exact St_ret3 (.inl rfl) rfl rfl rfl rfl ⟨rfl, rfl⟩ (by exact Split.auto))) | (exfalso; simp at hb; done) | (refine St_ret1 (.inl rfl) rfl rfl ⟨?_, rfl⟩ (by exact Split.auto); congr 1; first | (simp; done) | (rw [decide_eq_true_eq]; omega)))
      · have hne : flips b n m 32 ≠ b := by
          intro h
          rw [h, ← hseal, unseald_seald] at hbu
          cases hbu
        have hg : fget (flips b n m 32) = (fr0, 6) := by unfold fget; rw [hbu]
        rw [hg] at c3
        dsimp only at c3
        generalize flips b n m 32 = q at *
        have hqb : (q == b) = false := beq_eq_false_iff_ne.2 hne
        repeat' (first | (apply St_call (hf := fawake_sp); exact rfl; exact rfl; exact Split.auto; rintro _ _ ⟨rfl, rfl⟩) | (apply St_call (hf := c1); exact rfl; exact rfl; exact Split.auto; rintro _ _ ⟨rfl, rfl⟩) | (apply St_call (hf := c2); exact rfl; exact rfl; exact Split.auto; rintro _ _ ⟨rfl, rfl⟩) | (apply St_call (hf := c3); exact rfl; exact rfl; exact Split.auto; rintro _ _ ⟨rfl, rfl⟩) | (apply St_rd; exact rfl; (first | (apply Rd_strOp (v := .bool false); exact rfl; exact rfl; exact congrArg (fun x => some (Value.bool x)) hqb) | (apply Rd_strOp (v := .bool true); exact rfl; exact rfl; exact congrArg (fun x => some (Value.bool (!x))) hqb) | (apply Rd_eqStruct tb (r := true); exact rfl; exact rfl; exact rfl; kernel_rfl; exact rfl))) | (apply Sq_rd; exact rfl; (first | (apply Rd_strOp (v := .bool false); exact rfl; exact rfl; exact congrArg (fun x => some (Value.bool x)) hqb) | (apply Rd_strOp (v := .bool true); exact rfl; exact rfl; exact congrArg (fun x => some (Value.bool (!x))) hqb) | (apply Rd_eqStruct tb (r := true); exact rfl; exact rfl; exact rfl; kernel_rfl; exact rfl))) | (refine St_step ?_; (try with_reducible intro _)) | (refine St_step2 ?_ ?_ <;> (intro hb; (try simp only [beq_iff_eq, bne_iff_ne, decide_eq_true_eq, decide_eq_false_iff_not, Bool.not_eq_true', Bool.not_eq_false', beq_eq_false_iff_ne, bne_eq_false_iff_eq, ne_eq, Int.not_lt, Int.not_le, gt_iff_lt, ge_iff_le] at hb); (try (first | exact Bool.noConfusion hb | exact absurd trivial hb | (exfalso; omega))))) | fail)
        all_goals (first | (first | contradiction | (exfalso; omega) | (exact St_ret1 (.inl rfl) rfl rfl ⟨rfl, rfl⟩ (by exact Split.auto)) | (exact St_ret2 (.inl rfl) rfl rfl rfl ⟨rfl, rfl⟩ (by exact Split.auto)) | (exact St_ret3 (.inl rfl) rfl rfl rfl rfl ⟨rfl, rfl⟩ (by exact Split.auto))) | (exfalso; simp at hb; done) | (refine St_ret1 (.inl rfl) rfl rfl ⟨?_, rfl⟩ (by exact Split.auto); congr 1; first | (simp; done) | (rw [decide_eq_true_eq]; omega)))
    · generalize (fput f 1400).1 = b at *
      generalize (fput f 1400).2 = e at *
      repeat' (first | (apply St_call (hf := fawake_sp); exact rfl; exact rfl; exact Split.auto; rintro _ _ ⟨rfl, rfl⟩) | (apply St_call (hf := c1); exact rfl; exact rfl; exact Split.auto; rintro _ _ ⟨rfl, rfl⟩) | (refine St_step ?_; (try with_reducible intro _)) | (refine St_step2 ?_ ?_ <;> (intro hb; (try simp only [beq_iff_eq, bne_iff_ne, decide_eq_true_eq, decide_eq_false_iff_not, Bool.not_eq_true', Bool.not_eq_false', beq_eq_false_iff_ne, bne_eq_false_iff_eq, ne_eq, Int.not_lt, Int.not_le, gt_iff_lt, ge_iff_le] at hb); (try (first | exact Bool.noConfusion hb | exact absurd trivial hb | (exfalso; omega))))) | fail)
      all_goals (first | (first | contradiction | (exfalso; omega) | (exact St_ret1 (.inl rfl) rfl rfl ⟨rfl, rfl⟩ (by exact Split.auto)) | (exact St_ret2 (.inl rfl) rfl rfl rfl ⟨rfl, rfl⟩ (by exact Split.auto)) | (exact St_ret3 (.inl rfl) rfl rfl rfl rfl ⟨rfl, rfl⟩ (by exact Split.auto))) | (exfalso; simp at hb; done) | (refine St_ret1 (.inl rfl) rfl rfl ⟨?_, rfl⟩ (by exact Split.auto); congr 1; first | (simp; done) | (rw [decide_eq_true_eq]; omega)))
  · repeat' (first | (apply St_call (hf := fawake_sp); exact rfl; exact rfl; exact Split.auto; rintro _ _ ⟨rfl, rfl⟩) | (refine St_step ?_; (try with_reducible intro _)) | (refine St_step2 ?_ ?_ <;> (intro hb; (try simp only [beq_iff_eq, bne_iff_ne, decide_eq_true_eq, decide_eq_false_iff_not, Bool.not_eq_true', Bool.not_eq_false', beq_eq_false_iff_ne, bne_eq_false_iff_eq, ne_eq, Int.not_lt, Int.not_le, gt_iff_lt, ge_iff_le] at hb); (try (first | exact Bool.noConfusion hb | exact absurd trivial hb | (exfalso; omega))))) | fail)
    all_goals (first | (first | contradiction | (exfalso; omega) | (exact St_ret1 (.inl rfl) rfl rfl ⟨rfl, rfl⟩ (by exact Split.auto)) | (exact St_ret2 (.inl rfl) rfl rfl rfl ⟨rfl, rfl⟩ (by exact Split.auto)) | (exact St_ret3 (.inl rfl) rfl rfl rfl rfl ⟨rfl, rfl⟩ (by exact Split.auto))) | (exfalso; simp at hb; done) | (refine St_ret1 (.inl rfl) rfl rfl ⟨?_, rfl⟩ (by exact Split.auto); congr 1; first | (simp; done) | (rw [decide_eq_true_eq]; omega)))
end Go.Proofs.YtffnnddhlpcicaaDoor
