/- Contracts: the packages crc and chapbookref02. -/
import Derived.Test.YtfjnacakpeommaaDoorC1
import Derived.Test.YtfjnacakpeommaaDoorPl2
namespace Go.Proofs.YtfjnacakpeommaaDoor
open Go SL Pl
set_option autoImplicit false
set_option maxRecDepth 100000
set_option linter.unusedSimpArgs false
set_option linter.unusedVariables false
attribute [local irreducible] St Sq Exec QExec wpList wpQuiet Code.wp Exit.then Exit.inBlock bodyPost At Rd wpOp Wa QK GB
theorem step_sp (x b : Nat) (hx : x < 4294967296) (hb0 : b < 2) : Sp Tryd.prog 93 [nat .u32 x, nat .u32 b] [] (fun v M => v = nat .u32 (rstep x b) ∧ M = []) := by
  refine Sp.intro (P := Tryd.prog) (Tryd.func93) rfl Tryd.ntmps93 (by decide) rfl ?_
  intro ρ F
  repeat' (first | (apply St_rd; exact rfl; (first | (apply Rd_natMod; exact rfl; exact rfl; decide) | (apply Rd_natDiv; exact rfl; exact rfl; exact rfl; exact hx; decide) | (apply Rd_natXor; exact rfl; exact rfl; exact rfl; (simp only [IntKind.bits]; omega); decide))) | (apply Sq_rd; exact rfl; (first | (apply Rd_natMod; exact rfl; exact rfl; decide) | (apply Rd_natDiv; exact rfl; exact rfl; exact rfl; exact hx; decide) | (apply Rd_natXor; exact rfl; exact rfl; exact rfl; (simp only [IntKind.bits]; omega); decide))) | (refine St_step ?_; (try with_reducible intro _)) | (refine St_step2 ?_ ?_ <;> (intro hb; (try simp only [beq_iff_eq, bne_iff_ne, decide_eq_true_eq, decide_eq_false_iff_not, Bool.not_eq_true', Bool.not_eq_false', beq_eq_false_iff_ne, bne_eq_false_iff_eq, ne_eq, Int.not_lt, Int.not_le, gt_iff_lt, ge_iff_le] at hb); (try (first | exact Bool.noConfusion hb | exact absurd trivial hb | (exfalso; omega))))) | fail)
  · refine St_ret1 (.inl rfl) rfl rfl ⟨?_, rfl⟩ (by exact Split.auto)
    unfold rstep PL; rw [if_neg (by omega)]
  · refine St_ret1 (.inl rfl) rfl rfl ⟨?_, rfl⟩ (by exact Split.auto)
    unfold rstep; rw [if_pos (by omega)]
theorem cbits_lt : ∀ (k c x : Nat), x < 4294967296 → cbits k c x < 4294967296
  | 0, _, _, h => h
  | k + 1, c, x, h => by
    rw [cbits, xor_small _ _ (Nat.mod_lt _ (by decide))]
    exact cbits_lt k _ _ (g1_lt (Nat.xor_lt_two_pow (n := 32) h (by omega)))
theorem byte_bits (x : Nat) (c : UInt8) : byte x c = cbits 8 c.toNat x := (cbits_eq 8 _ _ c.toNat_lt).symm
theorem refRun_sp (x : Nat) (l : List UInt8) (hx : x < 4294967296) (hl : l.length ≤ 4611686018427387904) :
    Sp Tryd.prog 84 [nat .u32 x, str l] [] (fun v M => v = nat .u32 (run x l) ∧ M = []) := by
  refine Sp.intro (P := Tryd.prog) (Tryd.func84) rfl Tryd.ntmps84 (by decide) rfl ?_
  intro ρ F
  repeat' (first | (refine St_loop (fun (i : Nat) => i ≤ l.length) (fun i => [(0, nat .u32 (run x (l.take i))), (1, str l), (5, nat .i64 i)]) (fun i => [big F]) (fun i => l.length - i) 0 (Nat.zero_le _) ⟨rfl, rfl, rfl, trivial⟩ (by exact Split.auto) ?_) | (refine St_step ?_; (try with_reducible intro _)) | (refine St_step2 ?_ ?_ <;> (intro hb; (try simp only [beq_iff_eq, bne_iff_ne, decide_eq_true_eq, decide_eq_false_iff_not, Bool.not_eq_true', Bool.not_eq_false', beq_eq_false_iff_ne, bne_eq_false_iff_eq, ne_eq, Int.not_lt, Int.not_le, gt_iff_lt, ge_iff_le] at hb); (try (first | exact Bool.noConfusion hb | exact absurd trivial hb | (exfalso; omega))))) | fail)
  intro i hi
  have hrl := run_lt (l.take i) hx
  by_cases hil : i < l.length
  · have hg : l[i]? = some l[i] := List.getElem?_eq_getElem hil
    have hs := run_snoc x l i _ hg
    generalize l[i] = c at hg hs
    have hc : c.toNat < 256 := c.toNat_lt
    rw [byte_bits] at hs
    repeat' (first | (refine St_loop (fun (k : Nat) => k ≤ 8) (fun k => [(0, nat .u32 (cbits k c.toNat (run x (l.take i)))), (1, str l), (5, nat .i64 i), (6, nat .u32 (c.toNat / 2 ^ k)), (7, nat .i64 k)]) (fun i => [big F]) (fun k => 8 - k) 0 (Nat.zero_le _) ⟨rfl, rfl, rfl, ?_, rfl, trivial⟩ (by exact Split.auto) ?_) | (apply St_rd; exact rfl; (first | (apply Rd_indexStr tb; exact rfl; exact rfl; exact rfl; omega; exact hg) | (apply Rd_natConv tb (k := .u8) (m := c.toNat); exact rfl; exact rfl; exact rfl; exact rfl))) | (apply Sq_rd; exact rfl; (first | (apply Rd_indexStr tb; exact rfl; exact rfl; exact rfl; omega; exact hg) | (apply Rd_natConv tb (k := .u8) (m := c.toNat); exact rfl; exact rfl; exact rfl; exact rfl))) | (refine St_step ?_; (try with_reducible intro _)) | (refine St_step2 ?_ ?_ <;> (intro hb; (try simp only [beq_iff_eq, bne_iff_ne, decide_eq_true_eq, decide_eq_false_iff_not, Bool.not_eq_true', Bool.not_eq_false', beq_eq_false_iff_ne, bne_eq_false_iff_eq, ne_eq, Int.not_lt, Int.not_le, gt_iff_lt, ge_iff_le] at hb); (try (first | exact Bool.noConfusion hb | exact absurd trivial hb | (exfalso; omega))))) | fail)
    · show some (nat .u32 _) = some (nat .u32 _)
      congr 2
      simp [IntKind.bits]
    intro k hk
    have hbl := cbits_lt k c.toNat _ hrl
    have hbs := cbits_last k c.toNat (run x (l.take i))
    have hdl : c.toNat / 2 ^ k < 2 ^ 32 := Nat.lt_of_le_of_lt (Nat.div_le_self _ _) (by omega)
    have hdd : c.toNat / 2 ^ k / 2 = c.toNat / 2 ^ (k + 1) := by rw [Nat.div_div_eq_div_mul, Nat.pow_succ]
    repeat' (first | (apply St_call; exact rfl; exact rfl; exact step_sp _ _ hbl (Nat.mod_lt _ (by decide)); exact Split.auto; rintro _ _ ⟨rfl, rfl⟩) | (apply St_rd; exact rfl; (first | (apply Rd_natMod; exact rfl; exact rfl; decide) | (apply Rd_natDiv; exact rfl; exact rfl; exact rfl; exact hdl; decide))) | (apply Sq_rd; exact rfl; (first | (apply Rd_natMod; exact rfl; exact rfl; decide) | (apply Rd_natDiv; exact rfl; exact rfl; exact rfl; exact hdl; decide))) | (refine St_step ?_; (try with_reducible intro _)) | (refine St_step2 ?_ ?_ <;> (intro hb; (try simp only [beq_iff_eq, bne_iff_ne, decide_eq_true_eq, decide_eq_false_iff_not, Bool.not_eq_true', Bool.not_eq_false', beq_eq_false_iff_ne, bne_eq_false_iff_eq, ne_eq, Int.not_lt, Int.not_le, gt_iff_lt, ge_iff_le] at hb); (try (first | exact Bool.noConfusion hb | exact absurd trivial hb | (exfalso; omega))))) | fail)
    · rw [hdd, ← hbs]
      exact St_at (k + 1) ⟨by omega, by omega⟩ ⟨rfl, rfl, rfl, rfl, rfl, trivial⟩ (by exact Split.auto)
    · have : k = 8 := by omega
      subst this
      rw [← hs]
      exact St_at (i + 1) ⟨by omega, by omega⟩ ⟨rfl, rfl, rfl, trivial⟩ (by exact Split.auto)
  · have : l.take i = l := List.take_of_length_le (by omega)
    rw [this]
    repeat' (first | (refine St_step ?_; (try with_reducible intro _)) | (refine St_step2 ?_ ?_ <;> (intro hb; (try simp only [beq_iff_eq, bne_iff_ne, decide_eq_true_eq, decide_eq_false_iff_not, Bool.not_eq_true', Bool.not_eq_false', beq_eq_false_iff_ne, bne_eq_false_iff_eq, ne_eq, Int.not_lt, Int.not_le, gt_iff_lt, ge_iff_le] at hb); (try (first | exact Bool.noConfusion hb | exact absurd trivial hb | (exfalso; omega))))) | fail)
    exact St_ret1 (.inl rfl) rfl rfl ⟨rfl, rfl⟩ (by exact Split.auto)
theorem refSum_sp (l : List UInt8) (hl : l.length ≤ 4611686018427387904) : Sp Tryd.prog 68 [str l] [] (fun v M => v = nat .u32 (crc l) ∧ M = []) := by
  refine Sp.intro (P := Tryd.prog) (Tryd.func68) rfl Tryd.ntmps68 (by decide) rfl ?_
  intro ρ F
  have hr := run_lt l (x := 4294967295) (by decide)
  repeat' (first | (apply St_call; exact rfl; exact rfl; exact refRun_sp 4294967295 l (by decide) hl; exact Split.auto; rintro _ _ ⟨rfl, rfl⟩) | (refine St_step ?_; (try with_reducible intro _)) | (refine St_step2 ?_ ?_ <;> (intro hb; (try simp only [beq_iff_eq, bne_iff_ne, decide_eq_true_eq, decide_eq_false_iff_not, Bool.not_eq_true', Bool.not_eq_false', beq_eq_false_iff_ne, bne_eq_false_iff_eq, ne_eq, Int.not_lt, Int.not_le, gt_iff_lt, ge_iff_le] at hb); (try (first | exact Bool.noConfusion hb | exact absurd trivial hb | (exfalso; omega))))) | fail)
  refine St_ret1 (.inl rfl) rfl rfl ⟨?_, rfl⟩ (by exact Split.auto)
  unfold crc
  generalize run 4294967295 l = r at hr
  show Value.int .u32 (IntKind.u32.wrap (4294967295 - (r : Int))) = _
  rw [IntWalk.u32_in _ (by omega)]
  show _ = Value.int .u32 ((4294967295 - r : Nat) : Int)
  congr 1
  omega
theorem le4_snoc (x i : Nat) (h : i < 4) : Lib.byteCells ((le4 x).take i) ++ [nat .u8 (x / 256 ^ i % 256)] = Lib.byteCells ((le4 x).take (i + 1)) := by
  have : i = 0 ∨ i = 1 ∨ i = 2 ∨ i = 3 := by omega
  rcases this with rfl | rfl | rfl | rfl <;> simp [le4, Lib.byteCells]
theorem refSeal_sp (l : List UInt8) (hl : l.length ≤ 4611686018427387904) : Sp Tryd.prog 42 [str l] [] (fun v M => v = str (seald l) ∧ M = []) := by
  refine Sp.intro (P := Tryd.prog) (Tryd.func42) rfl Tryd.ntmps42 (by decide) rfl ?_
  intro ρ F
  have hc := crc_lt l
  unfold seald
  repeat' (first | (apply St_call; exact rfl; exact rfl; exact refSum_sp l hl; exact Split.auto; rintro _ _ ⟨rfl, rfl⟩) | (refine St_step ?_; (try with_reducible intro _)) | (refine St_step2 ?_ ?_ <;> (intro hb; (try simp only [beq_iff_eq, bne_iff_ne, decide_eq_true_eq, decide_eq_false_iff_not, Bool.not_eq_true', Bool.not_eq_false', beq_eq_false_iff_ne, bne_eq_false_iff_eq, ne_eq, Int.not_lt, Int.not_le, gt_iff_lt, ge_iff_le] at hb); (try (first | exact Bool.noConfusion hb | exact absurd trivial hb | (exfalso; omega))))) | fail)
  generalize crc l = x at hc ⊢
  refine St_slRow (E := 5) (sz := 1) (n := 0) (by exact Has.auto) rfl ?_
  repeat' (first | (refine St_loop (fun (z : Nat × Value) => z.1 ≤ 4) (fun z => [(0, str l), (3, nat .u32 (x / 256 ^ z.1)), (4, z.2), (5, nat .i64 z.1)]) (fun z => [Sl 5 1 z.2 z.1 (Lib.byteCells ((le4 x).take z.1)), big F]) (fun z => 4 - z.1) (0, _) (Nat.zero_le _) ⟨rfl, ?_, rfl, rfl, trivial⟩ (by exact Split.auto) ?_) | (refine St_step ?_; (try with_reducible intro _)) | (refine St_step2 ?_ ?_ <;> (intro hb; (try simp only [beq_iff_eq, bne_iff_ne, decide_eq_true_eq, decide_eq_false_iff_not, Bool.not_eq_true', Bool.not_eq_false', beq_eq_false_iff_ne, bne_eq_false_iff_eq, ne_eq, Int.not_lt, Int.not_le, gt_iff_lt, ge_iff_le] at hb); (try (first | exact Bool.noConfusion hb | exact absurd trivial hb | (exfalso; omega))))) | fail)
  · rw [Nat.pow_zero, Nat.div_one]; rfl
  rintro ⟨z, v⟩ hz
  have hz : z ≤ 4 := hz
  by_cases hzs : z < 4
  · have hd : x / 256 ^ z < 2 ^ IntKind.u32.bits := Nat.lt_of_le_of_lt (Nat.div_le_self _ _) hc
    repeat' (first | (apply St_rd; exact rfl; (first | (apply Rd_natMod; exact rfl; exact rfl; decide) | (apply Rd_natConv tb; exact rfl; exact rfl; exact rfl; exact rfl))) | (apply Sq_rd; exact rfl; (first | (apply Rd_natMod; exact rfl; exact rfl; decide) | (apply Rd_natConv tb; exact rfl; exact rfl; exact rfl; exact rfl))) | (refine St_step ?_; (try with_reducible intro _)) | (refine St_step2 ?_ ?_ <;> (intro hb; (try simp only [beq_iff_eq, bne_iff_ne, decide_eq_true_eq, decide_eq_false_iff_not, Bool.not_eq_true', Bool.not_eq_false', beq_eq_false_iff_ne, bne_eq_false_iff_eq, ne_eq, Int.not_lt, Int.not_le, gt_iff_lt, ge_iff_le] at hb); (try (first | exact Bool.noConfusion hb | exact absurd trivial hb | (exfalso; omega))))) | fail)
    apply St_append tb (sz := 1); (repeat exact rfl); exact Has.auto; (intro _; exact Src.row (n := 1) (by exact Has.auto) (by simp) (by exact rfl)); exact rfl; (dsimp only; omega)
    intro v'
    have e1 := le4_snoc x z hzs
    have e0 : nat .u8 (x / 256 ^ z % 256 % 2 ^ IntKind.u8.bits) = nat .u8 (x / 256 ^ z % 256) := by
      simp [IntKind.bits]
    refine St_slEq (cs' := Lib.byteCells ((le4 x).take (z + 1))) (n' := z + 1) (by exact Has.auto) (by rw [← e1, ← e0]; rfl) rfl ?_
    have hdd : x / 256 ^ z / 256 = x / 256 ^ (z + 1) := by rw [Nat.div_div_eq_div_mul, Nat.pow_succ]
    repeat' (first | (apply St_rd; exact rfl; (first | (apply Rd_natDiv; exact rfl; exact rfl; exact rfl; exact hd; decide))) | (apply Sq_rd; exact rfl; (first | (apply Rd_natDiv; exact rfl; exact rfl; exact rfl; exact hd; decide))) | (refine St_step ?_; (try with_reducible intro _)) | (refine St_step2 ?_ ?_ <;> (intro hb; (try simp only [beq_iff_eq, bne_iff_ne, decide_eq_true_eq, decide_eq_false_iff_not, Bool.not_eq_true', Bool.not_eq_false', beq_eq_false_iff_ne, bne_eq_false_iff_eq, ne_eq, Int.not_lt, Int.not_le, gt_iff_lt, ge_iff_le] at hb); (try (first | exact Bool.noConfusion hb | exact absurd trivial hb | (exfalso; omega))))) | fail)
    rw [hdd]
    exact St_at (z + 1, v') ⟨by show z + 1 ≤ 4; omega, by show 4 - (z + 1) < 4 - z; omega⟩ ⟨rfl, rfl, rfl, rfl, trivial⟩ (by exact Split.auto)
  · have hzz : z = 4 := by omega
    subst hzz
    refine St_slOpen (by exact Has.auto) (fun _ h _ => absurd h (by show ¬ 4 = 0; omega)) ?_
    rintro b cap pre rest hv hcap hrest hlen
    have hv : v = .slice (some ⟨b, pre.length, none⟩) 4 cap := hv
    subst hv
    repeat' (first | (apply St_rd; exact rfl; (first | (apply Rd_convBS tb (m := 4) (l := (le4 x).take 4); exact rfl; exact rfl; exact rfl; exact rfl; exact ⟨_, _, _, rfl⟩; intro _; exact Src.row (by exact Has.auto) (by simp [Lib.byteCells, le4]) (by simp [Lib.byteCells, le4])) | (apply Rd_cat; exact rfl; exact rfl; (simp [le4]; omega)))) | (apply Sq_rd; exact rfl; (first | (apply Rd_convBS tb (m := 4) (l := (le4 x).take 4); exact rfl; exact rfl; exact rfl; exact rfl; exact ⟨_, _, _, rfl⟩; intro _; exact Src.row (by exact Has.auto) (by simp [Lib.byteCells, le4]) (by simp [Lib.byteCells, le4])) | (apply Rd_cat; exact rfl; exact rfl; (simp [le4]; omega)))) | (refine St_step ?_; (try with_reducible intro _)) | (refine St_step2 ?_ ?_ <;> (intro hb; (try simp only [beq_iff_eq, bne_iff_ne, decide_eq_true_eq, decide_eq_false_iff_not, Bool.not_eq_true', Bool.not_eq_false', beq_eq_false_iff_ne, bne_eq_false_iff_eq, ne_eq, Int.not_lt, Int.not_le, gt_iff_lt, ge_iff_le] at hb); (try (first | exact Bool.noConfusion hb | exact absurd trivial hb | (exfalso; omega))))) | fail)
    exact St_ret1 (.inl rfl) rfl rfl ⟨rfl, rfl⟩ (by exact Split.auto)
end Go.Proofs.YtfjnacakpeommaaDoor
