/- What the proof stands on, part 3: C2, C2b, Pl4, C7, Sl2, Sl3, Pl7, C12, C13, Pl8, C14, Sl4, C15. -/
import Derived.Lib.ConvBytes
import Derived.Laws.AppendOwn
import Derived.Lib.SliceRun
import Derived.Test.YtfjnacakpeommaaGreatDoorM2
/- Contracts: the packages crc and chapbookref02. -/
namespace Go.Proofs.YtfjnacakpeommaaGreatDoor
open Go SL Pl
set_option autoImplicit false
set_option maxRecDepth 100000
set_option linter.unusedSimpArgs false
set_option linter.unusedVariables false
attribute [local irreducible] St Sq Exec QExec wpList wpQuiet Code.wp Exit.then Exit.inBlock bodyPost At Rd wpOp Wa QK GB
theorem step_sp (x b : Nat) (hx : x < 4294967296) (hb0 : b < 2) : Sp Tryz.prog 132 [nat .u32 x, nat .u32 b] [] (fun v M => v = nat .u32 (rstep x b) ∧ M = []) := by
  refine Sp.intro (P := Tryz.prog) (Tryz.func132) rfl Tryz.ntmps132 (by decide) rfl ?_
  intro ρ F
  repeat' (first | (apply St_rd; exact rfl; (first | (apply Rd_natMod; exact rfl; exact rfl; decide) | (apply Rd_natDiv; exact rfl; exact rfl; exact rfl; exact hx; decide) | (apply Rd_natXor; exact rfl; exact rfl; exact rfl; (simp only [IntKind.bits]; omega); decide))) | (apply Sq_rd; exact rfl; (first | (apply Rd_natMod; exact rfl; exact rfl; decide) | (apply Rd_natDiv; exact rfl; exact rfl; exact rfl; exact hx; decide) | (apply Rd_natXor; exact rfl; exact rfl; exact rfl; (simp only [IntKind.bits]; omega); decide))) | (refine St_step ?_; (try with_reducible intro _)) | (refine St_step2 ?_ ?_ <;> (intro hb; (try simp only [beq_iff_eq, bne_iff_ne, decide_eq_true_eq, decide_eq_false_iff_not, Bool.not_eq_true', Bool.not_eq_false', beq_eq_false_iff_ne, bne_eq_false_iff_eq, ne_eq, Int.not_lt, Int.not_le, gt_iff_lt, ge_iff_le] at hb); (try (first | exact Bool.noConfusion hb | exact absurd trivial hb | (exfalso; omega))))) | fail)
  · refine St_ret1 (.inl rfl) rfl rfl ⟨?_, rfl⟩ (by exact Split.auto)
    unfold rstep PL; rw [if_neg (by omega)]
  · refine St_ret1 (.inl rfl) rfl rfl ⟨?_, rfl⟩ (by exact Split.auto)
    unfold rstep; rw [if_pos (by omega)]
theorem cbits_lt : ∀ (k c x : Nat), x < 4294967296 → cbits k c x < 4294967296
  | 0, _, _, h => h
  | k + 1, c, x, h => by
    rw [cbits, xor_small _ _ (Nat.mod_lt _ (by decide))]
    exact cbits_lt k _ _ (g1_lt (Nat.xor_lt_two_pow (n := 32) h (by omega)))
theorem byte_bits (x : Nat) (c : UInt8) : byte x c = cbits 8 c.toNat x := (cbits_eq 8 _ _ c.toNat_lt).symm
theorem refRun_sp (x : Nat) (l : List UInt8) (hx : x < 4294967296) (hl : l.length ≤ 4611686018427387904) :
    Sp Tryz.prog 120 [nat .u32 x, str l] [] (fun v M => v = nat .u32 (run x l) ∧ M = []) := by
  refine Sp.intro (P := Tryz.prog) (Tryz.func120) rfl Tryz.ntmps120 (by decide) rfl ?_
  intro ρ F
  repeat' (first | (refine St_loop (fun (i : Nat) => i ≤ l.length) (fun i => [(0, nat .u32 (run x (l.take i))), (1, str l), (5, nat .i64 i)]) (fun i => [big F]) (fun i => l.length - i) 0 (Nat.zero_le _) ⟨rfl, rfl, rfl, trivial⟩ (by exact Split.auto) ?_) | (refine St_step ?_; (try with_reducible intro _)) | (refine St_step2 ?_ ?_ <;> (intro hb; (try simp only [beq_iff_eq, bne_iff_ne, decide_eq_true_eq, decide_eq_false_iff_not, Bool.not_eq_true', Bool.not_eq_false', beq_eq_false_iff_ne, bne_eq_false_iff_eq, ne_eq, Int.not_lt, Int.not_le, gt_iff_lt, ge_iff_le] at hb); (try (first | exact Bool.noConfusion hb | exact absurd trivial hb | (exfalso; omega))))) | fail)
  intro i hi
  have hrl := run_lt (l.take i) hx
  by_cases hil : i < l.length
  · have hg : l[i]? = some l[i] := List.getElem?_eq_getElem hil
    have hs := run_snoc x l i _ hg
    generalize l[i] = c at hg hs
    have hc : c.toNat < 256 := c.toNat_lt
    rw [byte_bits] at hs
    repeat' (first | (refine St_loop (fun (k : Nat) => k ≤ 8) (fun k => [(0, nat .u32 (cbits k c.toNat (run x (l.take i)))), (1, str l), (5, nat .i64 i), (6, nat .u32 (c.toNat / 2 ^ k)), (7, nat .i64 k)]) (fun i => [big F]) (fun k => 8 - k) 0 (Nat.zero_le _) ⟨rfl, rfl, rfl, ?_, rfl, trivial⟩ (by exact Split.auto) ?_) | (apply St_rd; exact rfl; (first | (apply Rd_indexStr tb; exact rfl; exact rfl; exact rfl; omega; exact hg) | (apply Rd_natConv tb (k := .u8) (m := c.toNat); exact rfl; exact rfl; exact rfl; exact rfl))) | (apply Sq_rd; exact rfl; (first | (apply Rd_indexStr tb; exact rfl; exact rfl; exact rfl; omega; exact hg) | (apply Rd_natConv tb (k := .u8) (m := c.toNat); exact rfl; exact rfl; exact rfl; exact rfl))) | (refine St_step ?_; (try with_reducible intro _)) | (refine St_step2 ?_ ?_ <;> (intro hb; (try simp only [beq_iff_eq, bne_iff_ne, decide_eq_true_eq, decide_eq_false_iff_not, Bool.not_eq_true', Bool.not_eq_false', beq_eq_false_iff_ne, bne_eq_false_iff_eq, ne_eq, Int.not_lt, Int.not_le, gt_iff_lt, ge_iff_le] at hb); (try (first | exact Bool.noConfusion hb | exact absurd trivial hb | (exfalso; omega))))) | fail)
    · show some (nat .u32 _) = some (nat .u32 _)
      congr 2
      simp [IntKind.bits]
    intro k hk
    have hbl := cbits_lt k c.toNat _ hrl
    have hbs := cbits_last k c.toNat (run x (l.take i))
    have hdl : c.toNat / 2 ^ k < 2 ^ 32 := Nat.lt_of_le_of_lt (Nat.div_le_self _ _) (by omega)
    have hdd : c.toNat / 2 ^ k / 2 = c.toNat / 2 ^ (k + 1) := by rw [Nat.div_div_eq_div_mul, Nat.pow_succ]
    repeat' (first | (apply St_call; exact rfl; exact rfl; exact step_sp _ _ hbl (Nat.mod_lt _ (by decide)); exact Split.auto; rintro _ _ ⟨rfl, rfl⟩) | (apply St_rd; exact rfl; (first | (apply Rd_natMod; exact rfl; exact rfl; decide) | (apply Rd_natDiv; exact rfl; exact rfl; exact rfl; exact hdl; decide))) | (apply Sq_rd; exact rfl; (first | (apply Rd_natMod; exact rfl; exact rfl; decide) | (apply Rd_natDiv; exact rfl; exact rfl; exact rfl; exact hdl; decide))) | (refine St_step ?_; (try with_reducible intro _)) | (refine St_step2 ?_ ?_ <;> (intro hb; (try simp only [beq_iff_eq, bne_iff_ne, decide_eq_true_eq, decide_eq_false_iff_not, Bool.not_eq_true', Bool.not_eq_false', beq_eq_false_iff_ne, bne_eq_false_iff_eq, ne_eq, Int.not_lt, Int.not_le, gt_iff_lt, ge_iff_le] at hb); (try (first | exact Bool.noConfusion hb | exact absurd trivial hb | (exfalso; omega))))) | fail)
    · rw [hdd, ← hbs]
      exact St_at (k + 1) ⟨by omega, by omega⟩ ⟨rfl, rfl, rfl, rfl, rfl, trivial⟩ (by exact Split.auto)
    · have : k = 8 := by omega
      subst this
      rw [← hs]
      exact St_at (i + 1) ⟨by omega, by omega⟩ ⟨rfl, rfl, rfl, trivial⟩ (by exact Split.auto)
  · have : l.take i = l := List.take_of_length_le (by omega)
    rw [this]
    repeat' (first | (refine St_step ?_; (try with_reducible intro _)) | (refine St_step2 ?_ ?_ <;> (intro hb; (try simp only [beq_iff_eq, bne_iff_ne, decide_eq_true_eq, decide_eq_false_iff_not, Bool.not_eq_true', Bool.not_eq_false', beq_eq_false_iff_ne, bne_eq_false_iff_eq, ne_eq, Int.not_lt, Int.not_le, gt_iff_lt, ge_iff_le] at hb); (try (first | exact Bool.noConfusion hb | exact absurd trivial hb | (exfalso; omega))))) | fail)
    exact St_ret1 (.inl rfl) rfl rfl ⟨rfl, rfl⟩ (by exact Split.auto)
theorem refSum_sp (l : List UInt8) (hl : l.length ≤ 4611686018427387904) : Sp Tryz.prog 97 [str l] [] (fun v M => v = nat .u32 (crc l) ∧ M = []) := by
  refine Sp.intro (P := Tryz.prog) (Tryz.func97) rfl Tryz.ntmps97 (by decide) rfl ?_
  intro ρ F
  have hr := run_lt l (x := 4294967295) (by decide)
  repeat' (first | (apply St_call; exact rfl; exact rfl; exact refRun_sp 4294967295 l (by decide) hl; exact Split.auto; rintro _ _ ⟨rfl, rfl⟩) | (refine St_step ?_; (try with_reducible intro _)) | (refine St_step2 ?_ ?_ <;> (intro hb; (try simp only [beq_iff_eq, bne_iff_ne, decide_eq_true_eq, decide_eq_false_iff_not, Bool.not_eq_true', Bool.not_eq_false', beq_eq_false_iff_ne, bne_eq_false_iff_eq, ne_eq, Int.not_lt, Int.not_le, gt_iff_lt, ge_iff_le] at hb); (try (first | exact Bool.noConfusion hb | exact absurd trivial hb | (exfalso; omega))))) | fail)
  refine St_ret1 (.inl rfl) rfl rfl ⟨?_, rfl⟩ (by exact Split.auto)
  unfold crc
  generalize run 4294967295 l = r at hr
  show Value.int .u32 (IntKind.u32.wrap (4294967295 - (r : Int))) = _
  rw [IntWalk.u32_in _ (by omega)]
  show _ = Value.int .u32 ((4294967295 - r : Nat) : Int)
  congr 1
  omega
theorem le4_snoc (x i : Nat) (h : i < 4) : Lib.byteCells ((le4 x).take i) ++ [nat .u8 (x / 256 ^ i % 256)] = Lib.byteCells ((le4 x).take (i + 1)) := by
  have : i = 0 ∨ i = 1 ∨ i = 2 ∨ i = 3 := by omega
  rcases this with rfl | rfl | rfl | rfl <;> simp [le4, Lib.byteCells]
theorem refSeal_sp (l : List UInt8) (hl : l.length ≤ 4611686018427387904) : Sp Tryz.prog 61 [str l] [] (fun v M => v = str (seald l) ∧ M = []) := by
  refine Sp.intro (P := Tryz.prog) (Tryz.func61) rfl Tryz.ntmps61 (by decide) rfl ?_
  intro ρ F
  have hc := crc_lt l
  unfold seald
  repeat' (first | (apply St_call; exact rfl; exact rfl; exact refSum_sp l hl; exact Split.auto; rintro _ _ ⟨rfl, rfl⟩) | (refine St_step ?_; (try with_reducible intro _)) | (refine St_step2 ?_ ?_ <;> (intro hb; (try simp only [beq_iff_eq, bne_iff_ne, decide_eq_true_eq, decide_eq_false_iff_not, Bool.not_eq_true', Bool.not_eq_false', beq_eq_false_iff_ne, bne_eq_false_iff_eq, ne_eq, Int.not_lt, Int.not_le, gt_iff_lt, ge_iff_le] at hb); (try (first | exact Bool.noConfusion hb | exact absurd trivial hb | (exfalso; omega))))) | fail)
  generalize crc l = x at hc ⊢
  refine St_slRow (E := 5) (sz := 1) (n := 0) (by exact Has.auto) rfl ?_
  repeat' (first | (refine St_loop (fun (z : Nat × Value) => z.1 ≤ 4) (fun z => [(0, str l), (3, nat .u32 (x / 256 ^ z.1)), (4, z.2), (5, nat .i64 z.1)]) (fun z => [Sl 5 1 z.2 z.1 (Lib.byteCells ((le4 x).take z.1)), big F]) (fun z => 4 - z.1) (0, _) (Nat.zero_le _) ⟨rfl, ?_, rfl, rfl, trivial⟩ (by exact Split.auto) ?_) | (refine St_step ?_; (try with_reducible intro _)) | (refine St_step2 ?_ ?_ <;> (intro hb; (try simp only [beq_iff_eq, bne_iff_ne, decide_eq_true_eq, decide_eq_false_iff_not, Bool.not_eq_true', Bool.not_eq_false', beq_eq_false_iff_ne, bne_eq_false_iff_eq, ne_eq, Int.not_lt, Int.not_le, gt_iff_lt, ge_iff_le] at hb); (try (first | exact Bool.noConfusion hb | exact absurd trivial hb | (exfalso; omega))))) | fail)
  · rw [Nat.pow_zero, Nat.div_one]; rfl
  rintro ⟨z, v⟩ hz
  have hz : z ≤ 4 := hz
  by_cases hzs : z < 4
  · have hd : x / 256 ^ z < 2 ^ IntKind.u32.bits := Nat.lt_of_le_of_lt (Nat.div_le_self _ _) hc
    repeat' (first | (apply St_rd; exact rfl; (first | (apply Rd_natMod; exact rfl; exact rfl; decide) | (apply Rd_natConv tb; exact rfl; exact rfl; exact rfl; exact rfl))) | (apply Sq_rd; exact rfl; (first | (apply Rd_natMod; exact rfl; exact rfl; decide) | (apply Rd_natConv tb; exact rfl; exact rfl; exact rfl; exact rfl))) | (refine St_step ?_; (try with_reducible intro _)) | (refine St_step2 ?_ ?_ <;> (intro hb; (try simp only [beq_iff_eq, bne_iff_ne, decide_eq_true_eq, decide_eq_false_iff_not, Bool.not_eq_true', Bool.not_eq_false', beq_eq_false_iff_ne, bne_eq_false_iff_eq, ne_eq, Int.not_lt, Int.not_le, gt_iff_lt, ge_iff_le] at hb); (try (first | exact Bool.noConfusion hb | exact absurd trivial hb | (exfalso; omega))))) | fail)
    apply St_append tb (sz := 1); (repeat exact rfl); exact Has.auto; (intro _; exact Src.row (n := 1) (by exact Has.auto) (by simp) (by exact rfl)); exact rfl; (dsimp only; omega)
    intro v'
    have e1 := le4_snoc x z hzs
    have e0 : nat .u8 (x / 256 ^ z % 256 % 2 ^ IntKind.u8.bits) = nat .u8 (x / 256 ^ z % 256) := by
      simp [IntKind.bits]
    refine St_slEq (cs' := Lib.byteCells ((le4 x).take (z + 1))) (n' := z + 1) (by exact Has.auto) (by rw [← e1, ← e0]; rfl) rfl ?_
    have hdd : x / 256 ^ z / 256 = x / 256 ^ (z + 1) := by rw [Nat.div_div_eq_div_mul, Nat.pow_succ]
    repeat' (first | (apply St_rd; exact rfl; (first | (apply Rd_natDiv; exact rfl; exact rfl; exact rfl; exact hd; decide))) | (apply Sq_rd; exact rfl; (first | (apply Rd_natDiv; exact rfl; exact rfl; exact rfl; exact hd; decide))) | (refine St_step ?_; (try with_reducible intro _)) | (refine St_step2 ?_ ?_ <;> (intro hb; (try simp only [beq_iff_eq, bne_iff_ne, decide_eq_true_eq, decide_eq_false_iff_not, Bool.not_eq_true', Bool.not_eq_false', beq_eq_false_iff_ne, bne_eq_false_iff_eq, ne_eq, Int.not_lt, Int.not_le, gt_iff_lt, ge_iff_le] at hb); (try (first | exact Bool.noConfusion hb | exact absurd trivial hb | (exfalso; omega))))) | fail)
    rw [hdd]
    exact St_at (z + 1, v') ⟨by show z + 1 ≤ 4; omega, by show 4 - (z + 1) < 4 - z; omega⟩ ⟨rfl, rfl, rfl, rfl, trivial⟩ (by exact Split.auto)
  · have hzz : z = 4 := by omega
    subst hzz
    refine St_slOpen (by exact Has.auto) (fun _ h _ => absurd h (by show ¬ 4 = 0; omega)) ?_
    rintro b cap pre rest hv hcap hrest hlen
    have hv : v = .slice (some ⟨b, pre.length, none⟩) 4 cap := hv
    subst hv
    repeat' (first | (apply St_rd; exact rfl; (first | (apply Rd_convBS tb (m := 4) (l := (le4 x).take 4); exact rfl; exact rfl; exact rfl; exact rfl; exact ⟨_, _, _, rfl⟩; intro _; exact Src.row (by exact Has.auto) (by simp [Lib.byteCells, le4]) (by simp [Lib.byteCells, le4])) | (apply Rd_cat; exact rfl; exact rfl; (simp [le4]; omega)))) | (apply Sq_rd; exact rfl; (first | (apply Rd_convBS tb (m := 4) (l := (le4 x).take 4); exact rfl; exact rfl; exact rfl; exact rfl; exact ⟨_, _, _, rfl⟩; intro _; exact Src.row (by exact Has.auto) (by simp [Lib.byteCells, le4]) (by simp [Lib.byteCells, le4])) | (apply Rd_cat; exact rfl; exact rfl; (simp [le4]; omega)))) | (refine St_step ?_; (try with_reducible intro _)) | (refine St_step2 ?_ ?_ <;> (intro hb; (try simp only [beq_iff_eq, bne_iff_ne, decide_eq_true_eq, decide_eq_false_iff_not, Bool.not_eq_true', Bool.not_eq_false', beq_eq_false_iff_ne, bne_eq_false_iff_eq, ne_eq, Int.not_lt, Int.not_le, gt_iff_lt, ge_iff_le] at hb); (try (first | exact Bool.noConfusion hb | exact absurd trivial hb | (exfalso; omega))))) | fail)
    exact St_ret1 (.inl rfl) rfl rfl ⟨rfl, rfl⟩ (by exact Split.auto)
theorem refOpen_sp (l : List UInt8) (hl : l.length ≤ 4611686018427387904) : Sp Tryz.prog 56 [str l] []
    (fun v M => v = .tuple (match unseald l with | some t => [str t, .bool true] | none => [str [], .bool false]).toArray ∧ M = []) := by
  refine Sp.intro (P := Tryz.prog) (Tryz.func56) rfl Tryz.ntmps56 (by decide) rfl ?_
  intro ρ F
  unfold unseald
  by_cases h4 : l.length < 4
  · rw [if_neg (by omega)]
    repeat' (first | (refine St_step ?_; (try with_reducible intro _)) | (refine St_step2 ?_ ?_ <;> (intro hb; (try simp only [beq_iff_eq, bne_iff_ne, decide_eq_true_eq, decide_eq_false_iff_not, Bool.not_eq_true', Bool.not_eq_false', beq_eq_false_iff_ne, bne_eq_false_iff_eq, ne_eq, Int.not_lt, Int.not_le, gt_iff_lt, ge_iff_le] at hb); (try (first | exact Bool.noConfusion hb | exact absurd trivial hb | (exfalso; omega))))) | fail)
    exact St_ret2 (.inl rfl) rfl rfl rfl ⟨rfl, rfl⟩ (by exact Split.auto)
  · have e : ((l.length : Int) - 4).toNat = l.length - 4 := by omega
    have hle : (l.take (l.length - 4)).length ≤ 4611686018427387904 := by simp; omega
    by_cases hs : seald (l.take (l.length - 4)) = l
    · rw [if_pos ⟨by omega, hs⟩]
      repeat' (first | (rw [e]; apply St_call; exact rfl; exact rfl; exact refSeal_sp _ hle; exact Split.auto; rintro _ _ ⟨rfl, rfl⟩) | (apply St_rd; exact rfl; (first | (apply Rd_sliceStrTo tb; exact rfl; exact rfl; exact rfl; omega))) | (apply Sq_rd; exact rfl; (first | (apply Rd_sliceStrTo tb; exact rfl; exact rfl; exact rfl; omega))) | (refine St_step ?_; (try with_reducible intro _)) | (refine St_step2 ?_ ?_ <;> (intro hb; (try simp only [beq_iff_eq, bne_iff_ne, decide_eq_true_eq, decide_eq_false_iff_not, Bool.not_eq_true', Bool.not_eq_false', beq_eq_false_iff_ne, bne_eq_false_iff_eq, ne_eq, Int.not_lt, Int.not_le, gt_iff_lt, ge_iff_le] at hb); (try (first | exact Bool.noConfusion hb | exact absurd trivial hb | (exfalso; omega))))) | fail)
      all_goals (first | contradiction | (exfalso; omega) | (exact St_ret1 (.inl rfl) rfl rfl ⟨rfl, rfl⟩ (by exact Split.auto)) | (exact St_ret2 (.inl rfl) rfl rfl rfl ⟨rfl, rfl⟩ (by exact Split.auto)) | (exact St_ret3 (.inl rfl) rfl rfl rfl rfl ⟨rfl, rfl⟩ (by exact Split.auto)))
    · rw [if_neg (fun h => hs h.2)]
      repeat' (first | (rw [e]; apply St_call; exact rfl; exact rfl; exact refSeal_sp _ hle; exact Split.auto; rintro _ _ ⟨rfl, rfl⟩) | (apply St_rd; exact rfl; (first | (apply Rd_sliceStrTo tb; exact rfl; exact rfl; exact rfl; omega))) | (apply Sq_rd; exact rfl; (first | (apply Rd_sliceStrTo tb; exact rfl; exact rfl; exact rfl; omega))) | (refine St_step ?_; (try with_reducible intro _)) | (refine St_step2 ?_ ?_ <;> (intro hb; (try simp only [beq_iff_eq, bne_iff_ne, decide_eq_true_eq, decide_eq_false_iff_not, Bool.not_eq_true', Bool.not_eq_false', beq_eq_false_iff_ne, bne_eq_false_iff_eq, ne_eq, Int.not_lt, Int.not_le, gt_iff_lt, ge_iff_le] at hb); (try (first | exact Bool.noConfusion hb | exact absurd trivial hb | (exfalso; omega))))) | fail)
      all_goals (first | contradiction | (exfalso; omega) | (exact St_ret1 (.inl rfl) rfl rfl ⟨rfl, rfl⟩ (by exact Split.auto)) | (exact St_ret2 (.inl rfl) rfl rfl rfl ⟨rfl, rfl⟩ (by exact Split.auto)) | (exact St_ret3 (.inl rfl) rfl rfl rfl rfl ⟨rfl, rfl⟩ (by exact Split.auto)))
end Go.Proofs.YtfjnacakpeommaaGreatDoor
/- Contracts: the packages crc. -/
namespace Go.Proofs.YtfjnacakpeommaaGreatDoor
open Go SL Pl
set_option autoImplicit false
set_option maxRecDepth 100000
set_option linter.unusedSimpArgs false
set_option linter.unusedVariables false
attribute [local irreducible] St Sq Exec QExec wpList wpQuiet Code.wp Exit.then Exit.inBlock bodyPost At Rd wpOp Wa QK GB
/-- The table as it fills. -/
def tabTo (i : Nat) : List Value := (List.range 256).map fun j => if j < i then nat .u32 (gs 8 j) else .int .u32 0
theorem tabTo_len (i : Nat) : (tabTo i).length = 256 := by simp [tabTo]
theorem tabTo_set (i : Nat) (h : i < 256) : (tabTo i).set i (nat .u32 (gs 8 i)) = tabTo (i + 1) := by
  apply List.ext_getElem?
  intro j
  rw [List.getElem?_set]
  by_cases hj : j < 256
  · simp only [tabTo, List.length_map, List.length_range, List.getElem?_map, List.getElem?_range hj, Option.map_some]
    by_cases hij : i = j
    · subst hij; simp [hj]
    · have : (j < i ↔ j < i + 1) := by omega
      simp [hij, this]
  · have e1 : ∀ i, (tabTo i)[j]? = none := fun i => by rw [List.getElem?_eq_none]; rw [tabTo_len]; omega
    have : ¬ (i = j) := by omega
    simp [this, e1]
theorem tabTo_zero : tabTo 0 = List.replicate 256 (.int .u32 0) := by
  simp only [tabTo, Nat.not_lt_zero, if_false]
  exact List.map_const' .. 
theorem tabTo_ok (i : Nat) : (tabTo i).all Value.oneCell' = true := by
  rw [List.all_eq_true]
  intro v hv
  simp only [tabTo, List.mem_map] at hv
  obtain ⟨j, _, rfl⟩ := hv
  split <;> rfl
theorem tabTo_get (i : Nat) (h : i < 256) : (tabTo 256)[i]? = some (nat .u32 (gs 8 i)) := by
  simp [tabTo, List.getElem?_range h, h]
theorem build_sp : Sp Tryz.prog 141 [] [] (fun v M => v = .agg (tabTo 256).toArray ∧ M = []) := by
  refine Sp.intro (P := Tryz.prog) (Tryz.func141) rfl Tryz.ntmps141 (by decide) rfl ?_
  intro ρ F
  repeat' (first | (refine St_loop (fun (i : Nat) => i ≤ 256) (fun i => [(0, .pointer (some ⟨_, 0, none⟩)), (3, nat .i64 i)]) (fun i => [cel false _ 216 (tabTo i), big F]) (fun i => 256 - i) 0 (Nat.zero_le _) ⟨rfl, rfl, trivial⟩ (by rw [tabTo_zero]; exact Split.auto) ?_) | (refine St_step ?_; (try with_reducible intro _)) | (refine St_step2 ?_ ?_ <;> (intro hb; (try simp only [beq_iff_eq, bne_iff_ne, decide_eq_true_eq, decide_eq_false_iff_not, Bool.not_eq_true', Bool.not_eq_false', beq_eq_false_iff_ne, bne_eq_false_iff_eq, ne_eq, Int.not_lt, Int.not_le, gt_iff_lt, ge_iff_le] at hb); (try (first | exact Bool.noConfusion hb | exact absurd trivial hb | (exfalso; omega))))) | fail)
  intro i hi
  by_cases hil : i < 256
  · repeat' (first | (refine St_loop (fun (k : Nat) => k ≤ 8) (fun k => [(0, .pointer (some ⟨_, 0, none⟩)), (1, nat .i64 i), (2, nat .u32 (gs k i)), (3, nat .i64 i), (8, nat .i64 k)]) (fun k => [cel false _ 216 (tabTo i), big F]) (fun k => 8 - k) 0 (Nat.zero_le _) ⟨rfl, rfl, ?_, rfl, rfl, trivial⟩ (by exact Split.auto) ?_) | (apply St_rd; exact rfl; (first | (apply Rd_natConv tb (k := .i64) (m := i); exact rfl; exact rfl; exact rfl; exact rfl))) | (apply Sq_rd; exact rfl; (first | (apply Rd_natConv tb (k := .i64) (m := i); exact rfl; exact rfl; exact rfl; exact rfl))) | (refine St_step ?_; (try with_reducible intro _)) | (refine St_step2 ?_ ?_ <;> (intro hb; (try simp only [beq_iff_eq, bne_iff_ne, decide_eq_true_eq, decide_eq_false_iff_not, Bool.not_eq_true', Bool.not_eq_false', beq_eq_false_iff_ne, bne_eq_false_iff_eq, ne_eq, Int.not_lt, Int.not_le, gt_iff_lt, ge_iff_le] at hb); (try (first | exact Bool.noConfusion hb | exact absurd trivial hb | (exfalso; omega))))) | fail)
    · show some (nat .u32 _) = some (nat .u32 _)
      congr 2
      simp only [IntKind.bits, gs]; omega
    intro k hk
    have hg := gs_lt k (x := i) (by omega)
    by_cases hk8 : k < 8
    · have hgl := gs_last k i
      have hand : gs k i &&& 1 = gs k i % 2 := Nat.and_two_pow_sub_one_eq_mod _ 1
      repeat' (first | (apply St_rd; exact rfl; (first | (apply Rd_natAnd; exact rfl; exact rfl; exact rfl; exact hg; decide) | (apply Rd_natShr; exact rfl; exact rfl; decide) | (apply Rd_natXor; exact rfl; exact rfl; exact rfl; exact Nat.lt_of_le_of_lt (Nat.div_le_self _ _) hg; decide))) | (apply Sq_rd; exact rfl; (first | (apply Rd_natAnd; exact rfl; exact rfl; exact rfl; exact hg; decide) | (apply Rd_natShr; exact rfl; exact rfl; decide) | (apply Rd_natXor; exact rfl; exact rfl; exact rfl; exact Nat.lt_of_le_of_lt (Nat.div_le_self _ _) hg; decide))) | (refine St_step ?_; (try with_reducible intro _)) | (refine St_step2 ?_ ?_ <;> (intro hb; (try simp only [beq_iff_eq, bne_iff_ne, decide_eq_true_eq, decide_eq_false_iff_not, Bool.not_eq_true', Bool.not_eq_false', beq_eq_false_iff_ne, bne_eq_false_iff_eq, ne_eq, Int.not_lt, Int.not_le, gt_iff_lt, ge_iff_le] at hb); (try (first | exact Bool.noConfusion hb | exact absurd trivial hb | (exfalso; omega))))) | fail)
      all_goals
        refine St_val (t := 2) (v' := nat .u32 (gs (k + 1) i)) rfl ?_ ?_
        · rw [hgl, g1, ← hand]
          first
            | (rw [if_pos (by omega)]; rfl)
            | (rw [if_neg (by omega)]; rfl)
        exact St_at (k + 1) ⟨by omega, by omega⟩ ⟨rfl, rfl, rfl, rfl, rfl, trivial⟩ (by exact Split.auto)
    · have : k = 8 := by omega
      subst this
      have hset := tabTo_set i hil
      have hlen := tabTo_len i
      repeat' (first | (apply St_store1n tb; exact rfl; exact rfl; exact rfl; exact rfl; exact rfl; exact Has.auto; (simp only [hlen]; omega)) | (refine St_step ?_; (try with_reducible intro _)) | (refine St_step2 ?_ ?_ <;> (intro hb; (try simp only [beq_iff_eq, bne_iff_ne, decide_eq_true_eq, decide_eq_false_iff_not, Bool.not_eq_true', Bool.not_eq_false', beq_eq_false_iff_ne, bne_eq_false_iff_eq, ne_eq, Int.not_lt, Int.not_le, gt_iff_lt, ge_iff_le] at hb); (try (first | exact Bool.noConfusion hb | exact absurd trivial hb | (exfalso; omega))))) | fail)
      refine St_cel (cs' := tabTo (i + 1)) (by exact Has.auto) (by rw [← hset]; congr 1; show 0 + ((i : Nat) : Int).toNat * 1 = i; omega) ?_
      repeat' (first | (refine St_step ?_; (try with_reducible intro _)) | (refine St_step2 ?_ ?_ <;> (intro hb; (try simp only [beq_iff_eq, bne_iff_ne, decide_eq_true_eq, decide_eq_false_iff_not, Bool.not_eq_true', Bool.not_eq_false', beq_eq_false_iff_ne, bne_eq_false_iff_eq, ne_eq, Int.not_lt, Int.not_le, gt_iff_lt, ge_iff_le] at hb); (try (first | exact Bool.noConfusion hb | exact absurd trivial hb | (exfalso; omega))))) | fail)
      exact St_at (i + 1) ⟨by omega, by omega⟩ ⟨rfl, rfl, trivial⟩ (by exact Split.auto)
  · have : i = 256 := by omega
    subst this
    repeat' (first | (apply St_storeW tb; exact rfl; exact rfl; exact rfl; exact tabTo_len _; exact tabTo_ok _; exact Has.auto; exact rfl) | (apply St_rd; exact rfl; (first | (apply Rd_loadW tb; exact rfl; exact rfl; exact rfl; exact Has.auto; exact tabTo_len _))) | (apply Sq_rd; exact rfl; (first | (apply Rd_loadW tb; exact rfl; exact rfl; exact rfl; exact Has.auto; exact tabTo_len _))) | (refine St_step ?_; (try with_reducible intro _)) | (refine St_step2 ?_ ?_ <;> (intro hb; (try simp only [beq_iff_eq, bne_iff_ne, decide_eq_true_eq, decide_eq_false_iff_not, Bool.not_eq_true', Bool.not_eq_false', beq_eq_false_iff_ne, bne_eq_false_iff_eq, ne_eq, Int.not_lt, Int.not_le, gt_iff_lt, ge_iff_le] at hb); (try (first | exact Bool.noConfusion hb | exact absurd trivial hb | (exfalso; omega))))) | fail)
    exact St_retC tb (.inl rfl) rfl rfl rfl rfl (by exact Has.auto) (tabTo_len _) ⟨rfl, rfl⟩ (by exact Split.auto)
theorem table_sp : Sp Tryz.prog 138 [] [] (fun v M => v = .agg (tabTo 256).toArray ∧ M = []) := by
  refine Sp.intro (P := Tryz.prog) (Tryz.func138) rfl Tryz.ntmps138 (by decide) rfl ?_
  intro ρ F
  repeat' (first | (apply St_call (hf := build_sp); exact rfl; exact rfl; exact Split.auto; rintro _ _ ⟨rfl, rfl⟩) | (apply St_storeW tb; exact rfl; exact rfl; exact rfl; exact tabTo_len _; exact tabTo_ok _; exact Has.auto; (rw [tabTo_len]; exact rfl)) | (refine St_step ?_; (try with_reducible intro _)) | (refine St_step2 ?_ ?_ <;> (intro hb; (try simp only [beq_iff_eq, bne_iff_ne, decide_eq_true_eq, decide_eq_false_iff_not, Bool.not_eq_true', Bool.not_eq_false', beq_eq_false_iff_ne, bne_eq_false_iff_eq, ne_eq, Int.not_lt, Int.not_le, gt_iff_lt, ge_iff_le] at hb); (try (first | exact Bool.noConfusion hb | exact absurd trivial hb | (exfalso; omega))))) | fail)
  exact St_retC tb (.inl rfl) rfl rfl rfl rfl (by exact Has.auto) (tabTo_len _) ⟨rfl, rfl⟩ (by exact Split.auto)
theorem more_sp (x : Nat) (l : List UInt8) (hx : x < 4294967296) (hl : l.length ≤ 4611686018427387904) :
    Sp Tryz.prog 133 [nat .u32 x, str l] [] (fun v M => v = nat .u32 (4294967295 - run (4294967295 - x) l) ∧ M = []) := by
  refine Sp.intro (P := Tryz.prog) (Tryz.func133) rfl Tryz.ntmps133 (by decide) rfl ?_
  intro ρ F
  repeat' (first | (refine St_loop (fun (i : Nat) => i ≤ l.length) (fun i => [(1, str l), (5, nat .u32 (run (4294967295 - x) (l.take i))), (10, nat .i64 l.length), (11, nat .i64 i)]) (fun i => [big F]) (fun i => l.length - i) 0 (Nat.zero_le _) ⟨rfl, rfl, rfl, rfl, trivial⟩ (by exact Split.auto) ?_) | (apply St_rd; exact rfl; (first | (apply Rd_natCompl; exact rfl; exact rfl; exact hx))) | (apply Sq_rd; exact rfl; (first | (apply Rd_natCompl; exact rfl; exact rfl; exact hx))) | (refine St_step ?_; (try with_reducible intro _)) | (refine St_step2 ?_ ?_ <;> (intro hb; (try simp only [beq_iff_eq, bne_iff_ne, decide_eq_true_eq, decide_eq_false_iff_not, Bool.not_eq_true', Bool.not_eq_false', beq_eq_false_iff_ne, bne_eq_false_iff_eq, ne_eq, Int.not_lt, Int.not_le, gt_iff_lt, ge_iff_le] at hb); (try (first | exact Bool.noConfusion hb | exact absurd trivial hb | (exfalso; omega))))) | fail)
  intro i hi
  have hr := run_lt (l.take i) (x := 4294967295 - x) (by omega)
  by_cases hil : i < l.length
  · have hg : l[i]? = some l[i] := List.getElem?_eq_getElem hil
    have hs := run_snoc (4294967295 - x) l i _ hg
    generalize l[i] = c at hg hs
    have hc : c.toNat < 256 := c.toNat_lt
    generalize run (4294967295 - x) (l.take i) = y at hr hs ⊢
    have hy8 : (y % 2 ^ IntKind.u8.bits) < 2 ^ IntKind.u8.bits := Nat.mod_lt _ (by decide)
    have hxr : (y % 2 ^ IntKind.u8.bits) ^^^ c.toNat < 256 := Nat.xor_lt_two_pow (n := 8) hy8 hc
    have hgl := gs_lt 8 (x := (y % 2 ^ IntKind.u8.bits) ^^^ c.toNat) (by omega)
    have hyd : y / 2 ^ ((8 : Int)).toNat < 2 ^ IntKind.u32.bits := Nat.lt_of_le_of_lt (Nat.div_le_self _ _) hr
    have hget := tabTo_get _ hxr
    repeat' (first | (apply St_regionQ; kernel_rfl; kernel_rfl) | (apply Sq_call; exact rfl; exact rfl; exact table_sp; exact Split.auto; (rintro _ _ ⟨rfl, rfl⟩; exact ⟨rfl, _, by exact Split.auto⟩)) | (apply St_rd; exact rfl; (first | (apply Rd_natShr; exact rfl; exact rfl; decide) | (apply Rd_natConv tb; exact rfl; exact rfl; exact rfl; exact rfl) | (apply Rd_indexStr tb; exact rfl; exact rfl; exact rfl; omega; exact hg) | (apply Rd_natXor (k := .u8); exact rfl; exact rfl; exact rfl; exact hy8; exact hc) | (apply Rd_natXor (k := .u32); exact rfl; exact rfl; exact rfl; exact hyd; exact hgl) | (apply Rd_indexArr tb; exact rfl; exact rfl; exact rfl; exact rfl; exact rfl; exact rfl; (exact ⟨by omega, by omega⟩); (rw [Int.toNat_natCast]; exact hget)))) | (apply Sq_rd; exact rfl; (first | (apply Rd_natShr; exact rfl; exact rfl; decide) | (apply Rd_natConv tb; exact rfl; exact rfl; exact rfl; exact rfl) | (apply Rd_indexStr tb; exact rfl; exact rfl; exact rfl; omega; exact hg) | (apply Rd_natXor (k := .u8); exact rfl; exact rfl; exact rfl; exact hy8; exact hc) | (apply Rd_natXor (k := .u32); exact rfl; exact rfl; exact rfl; exact hyd; exact hgl) | (apply Rd_indexArr tb; exact rfl; exact rfl; exact rfl; exact rfl; exact rfl; exact rfl; (exact ⟨by omega, by omega⟩); (rw [Int.toNat_natCast]; exact hget)))) | (refine St_step ?_; (try with_reducible intro _)) | (refine St_step2 ?_ ?_ <;> (intro hb; (try simp only [beq_iff_eq, bne_iff_ne, decide_eq_true_eq, decide_eq_false_iff_not, Bool.not_eq_true', Bool.not_eq_false', beq_eq_false_iff_ne, bne_eq_false_iff_eq, ne_eq, Int.not_lt, Int.not_le, gt_iff_lt, ge_iff_le] at hb); (try (first | exact Bool.noConfusion hb | exact absurd trivial hb | (exfalso; omega))))) | fail)
    refine St_val (t := 5) (v' := nat .u32 (run (4294967295 - x) (l.take (i + 1)))) rfl ?_ ?_
    · rw [hs, byte_eq]; rfl
    exact St_at (i + 1) ⟨by omega, by omega⟩ ⟨rfl, rfl, rfl, rfl, trivial⟩ (by exact Split.auto)
  · have : l.take i = l := List.take_of_length_le (by omega)
    rw [this] at hr ⊢
    repeat' (first | (apply St_rd; exact rfl; (first | (apply Rd_natCompl; exact rfl; exact rfl; exact hr))) | (apply Sq_rd; exact rfl; (first | (apply Rd_natCompl; exact rfl; exact rfl; exact hr))) | (refine St_step ?_; (try with_reducible intro _)) | (refine St_step2 ?_ ?_ <;> (intro hb; (try simp only [beq_iff_eq, bne_iff_ne, decide_eq_true_eq, decide_eq_false_iff_not, Bool.not_eq_true', Bool.not_eq_false', beq_eq_false_iff_ne, bne_eq_false_iff_eq, ne_eq, Int.not_lt, Int.not_le, gt_iff_lt, ge_iff_le] at hb); (try (first | exact Bool.noConfusion hb | exact absurd trivial hb | (exfalso; omega))))) | fail)
    exact St_ret1 (.inl rfl) rfl rfl ⟨rfl, rfl⟩ (by exact Split.auto)
theorem crcSum_sp (l : List UInt8) (hl : l.length ≤ 4611686018427387904) : Sp Tryz.prog 124 [str l] [] (fun v M => v = nat .u32 (crc l) ∧ M = []) := by
  refine Sp.intro (P := Tryz.prog) (Tryz.func124) rfl Tryz.ntmps124 (by decide) rfl ?_
  intro ρ F
  repeat' (first | (apply St_call (hf := more_sp 0 l (by decide) hl); exact rfl; exact rfl; exact Split.auto; rintro _ _ ⟨rfl, rfl⟩) | (refine St_step ?_; (try with_reducible intro _)) | (refine St_step2 ?_ ?_ <;> (intro hb; (try simp only [beq_iff_eq, bne_iff_ne, decide_eq_true_eq, decide_eq_false_iff_not, Bool.not_eq_true', Bool.not_eq_false', beq_eq_false_iff_ne, bne_eq_false_iff_eq, ne_eq, Int.not_lt, Int.not_le, gt_iff_lt, ge_iff_le] at hb); (try (first | exact Bool.noConfusion hb | exact absurd trivial hb | (exfalso; omega))))) | fail)
  exact St_ret1 (.inl rfl) rfl rfl ⟨rfl, rfl⟩ (by exact Split.auto)
theorem bytes_sp (x : Nat) (hx : x < 4294967296) : Sp Tryz.prog 123 [nat .u32 x] [] (fun v M => v = str (le4 x) ∧ M = []) := by
  refine Sp.intro (P := Tryz.prog) (Tryz.func123) rfl Tryz.ntmps123 (by decide) rfl ?_
  intro ρ F
  have e : [nat .u8 (x % 2 ^ IntKind.u8.bits), nat .u8 (x / 2 ^ ((8 : Int)).toNat % 2 ^ IntKind.u8.bits), nat .u8 (x / 2 ^ ((16 : Int)).toNat % 2 ^ IntKind.u8.bits), nat .u8 (x / 2 ^ ((24 : Int)).toNat % 2 ^ IntKind.u8.bits)] = Lib.byteCells (le4 x) := by
    simp [le4, Lib.byteCells, IntKind.bits]
  repeat' (first | (apply St_rd; exact rfl; (first | (apply Rd_natConv tb; exact rfl; exact rfl; exact rfl; exact rfl) | (apply Rd_natShr; exact rfl; exact rfl; decide) | (apply Rd_convB tb; exact rfl; exact rfl; exact rfl; exact rfl; (rw [e]; exact Has.auto); exact rfl))) | (apply Sq_rd; exact rfl; (first | (apply Rd_natConv tb; exact rfl; exact rfl; exact rfl; exact rfl) | (apply Rd_natShr; exact rfl; exact rfl; decide) | (apply Rd_convB tb; exact rfl; exact rfl; exact rfl; exact rfl; (rw [e]; exact Has.auto); exact rfl))) | (refine St_step ?_; (try with_reducible intro _)) | (refine St_step2 ?_ ?_ <;> (intro hb; (try simp only [beq_iff_eq, bne_iff_ne, decide_eq_true_eq, decide_eq_false_iff_not, Bool.not_eq_true', Bool.not_eq_false', beq_eq_false_iff_ne, bne_eq_false_iff_eq, ne_eq, Int.not_lt, Int.not_le, gt_iff_lt, ge_iff_le] at hb); (try (first | exact Bool.noConfusion hb | exact absurd trivial hb | (exfalso; omega))))) | fail)
  exact St_ret1 (.inl rfl) rfl rfl ⟨rfl, rfl⟩ (by exact Split.auto)
theorem seal_sp (l : List UInt8) (hl : l.length ≤ 4611686018427387904) : Sp Tryz.prog 103 [str l] [] (fun v M => v = str (seald l) ∧ M = []) := by
  refine Sp.intro (P := Tryz.prog) (Tryz.func103) rfl Tryz.ntmps103 (by decide) rfl ?_
  intro ρ F
  repeat' (first | (apply St_call (hf := crcSum_sp l hl); exact rfl; exact rfl; exact Split.auto; rintro _ _ ⟨rfl, rfl⟩) | (apply St_call (hf := bytes_sp _ (crc_lt l)); exact rfl; exact rfl; exact Split.auto; rintro _ _ ⟨rfl, rfl⟩) | (apply St_rd; exact rfl; (first | (apply Rd_cat; exact rfl; exact rfl; (simp [le4]; omega)))) | (apply Sq_rd; exact rfl; (first | (apply Rd_cat; exact rfl; exact rfl; (simp [le4]; omega)))) | (refine St_step ?_; (try with_reducible intro _)) | (refine St_step2 ?_ ?_ <;> (intro hb; (try simp only [beq_iff_eq, bne_iff_ne, decide_eq_true_eq, decide_eq_false_iff_not, Bool.not_eq_true', Bool.not_eq_false', beq_eq_false_iff_ne, bne_eq_false_iff_eq, ne_eq, Int.not_lt, Int.not_le, gt_iff_lt, ge_iff_le] at hb); (try (first | exact Bool.noConfusion hb | exact absurd trivial hb | (exfalso; omega))))) | fail)
  exact St_ret1 (.inl rfl) rfl rfl ⟨rfl, rfl⟩ (by exact Split.auto)
theorem open_sp (l : List UInt8) (hl : l.length ≤ 4611686018427387904) : Sp Tryz.prog 66 [str l] []
    (fun v M => v = .tuple (match unseald l with | some t => [str t, .bool true] | none => [str [], .bool false]).toArray ∧ M = []) := by
  refine Sp.intro (P := Tryz.prog) (Tryz.func66) rfl Tryz.ntmps66 (by decide) rfl ?_
  intro ρ F
  unfold unseald
  by_cases h4 : l.length < 4
  · rw [if_neg (by omega)]
    repeat' (first | (refine St_step ?_; (try with_reducible intro _)) | (refine St_step2 ?_ ?_ <;> (intro hb; (try simp only [beq_iff_eq, bne_iff_ne, decide_eq_true_eq, decide_eq_false_iff_not, Bool.not_eq_true', Bool.not_eq_false', beq_eq_false_iff_ne, bne_eq_false_iff_eq, ne_eq, Int.not_lt, Int.not_le, gt_iff_lt, ge_iff_le] at hb); (try (first | exact Bool.noConfusion hb | exact absurd trivial hb | (exfalso; omega))))) | fail)
    all_goals (first | contradiction | (exfalso; omega) | (exact St_ret1 (.inl rfl) rfl rfl ⟨rfl, rfl⟩ (by exact Split.auto)) | (exact St_ret2 (.inl rfl) rfl rfl rfl ⟨rfl, rfl⟩ (by exact Split.auto)) | (exact St_ret3 (.inl rfl) rfl rfl rfl rfl ⟨rfl, rfl⟩ (by exact Split.auto)))
  · have e : ((l.length : Int) - 4).toNat = l.length - 4 := by omega
    have hle : (l.take (l.length - 4)).length ≤ 4611686018427387904 := by simp; omega
    by_cases hs : seald (l.take (l.length - 4)) = l
    · rw [if_pos ⟨by omega, hs⟩]
      repeat' (first | (rw [e]; apply St_call; exact rfl; exact rfl; exact seal_sp _ hle; exact Split.auto; rintro _ _ ⟨rfl, rfl⟩) | (apply St_rd; exact rfl; (first | (apply Rd_sliceStrTo tb; exact rfl; exact rfl; exact rfl; omega))) | (apply Sq_rd; exact rfl; (first | (apply Rd_sliceStrTo tb; exact rfl; exact rfl; exact rfl; omega))) | (refine St_step ?_; (try with_reducible intro _)) | (refine St_step2 ?_ ?_ <;> (intro hb; (try simp only [beq_iff_eq, bne_iff_ne, decide_eq_true_eq, decide_eq_false_iff_not, Bool.not_eq_true', Bool.not_eq_false', beq_eq_false_iff_ne, bne_eq_false_iff_eq, ne_eq, Int.not_lt, Int.not_le, gt_iff_lt, ge_iff_le] at hb); (try (first | exact Bool.noConfusion hb | exact absurd trivial hb | (exfalso; omega))))) | fail)
      all_goals (first | (first | contradiction | (exfalso; omega) | (exact St_ret1 (.inl rfl) rfl rfl ⟨rfl, rfl⟩ (by exact Split.auto)) | (exact St_ret2 (.inl rfl) rfl rfl rfl ⟨rfl, rfl⟩ (by exact Split.auto)) | (exact St_ret3 (.inl rfl) rfl rfl rfl rfl ⟨rfl, rfl⟩ (by exact Split.auto))) | (rw [e]; (first | contradiction | (exfalso; omega) | (exact St_ret1 (.inl rfl) rfl rfl ⟨rfl, rfl⟩ (by exact Split.auto)) | (exact St_ret2 (.inl rfl) rfl rfl rfl ⟨rfl, rfl⟩ (by exact Split.auto)) | (exact St_ret3 (.inl rfl) rfl rfl rfl rfl ⟨rfl, rfl⟩ (by exact Split.auto)))))
    · rw [if_neg (fun h => hs h.2)]
      repeat' (first | (rw [e]; apply St_call; exact rfl; exact rfl; exact seal_sp _ hle; exact Split.auto; rintro _ _ ⟨rfl, rfl⟩) | (apply St_rd; exact rfl; (first | (apply Rd_sliceStrTo tb; exact rfl; exact rfl; exact rfl; omega))) | (apply Sq_rd; exact rfl; (first | (apply Rd_sliceStrTo tb; exact rfl; exact rfl; exact rfl; omega))) | (refine St_step ?_; (try with_reducible intro _)) | (refine St_step2 ?_ ?_ <;> (intro hb; (try simp only [beq_iff_eq, bne_iff_ne, decide_eq_true_eq, decide_eq_false_iff_not, Bool.not_eq_true', Bool.not_eq_false', beq_eq_false_iff_ne, bne_eq_false_iff_eq, ne_eq, Int.not_lt, Int.not_le, gt_iff_lt, ge_iff_le] at hb); (try (first | exact Bool.noConfusion hb | exact absurd trivial hb | (exfalso; omega))))) | fail)
      all_goals (first | contradiction | (exfalso; omega) | (exact St_ret1 (.inl rfl) rfl rfl ⟨rfl, rfl⟩ (by exact Split.auto)) | (exact St_ret2 (.inl rfl) rfl rfl rfl ⟨rfl, rfl⟩ (by exact Split.auto)) | (exact St_ret3 (.inl rfl) rfl rfl rfl rfl ⟨rfl, rfl⟩ (by exact Split.auto)))
end Go.Proofs.YtfjnacakpeommaaGreatDoor
/- Plain: frames. -/
namespace Go.Proofs.YtfjnacakpeommaaGreatDoor.Pl
set_option autoImplicit false
set_option linter.unusedVariables false

structure Fr where
  ep : Int
  seq : Int
  ack : Int
  data : List UInt8

def fr0 : Fr := ⟨0, 0, 0, []⟩
/-- The numbers are in range. -/
def frIn (f : Fr) : Prop := (1 ≤ f.ep ∧ f.ep ≤ 1099511627776) ∧ (0 ≤ f.seq ∧ f.seq ≤ 1125899906842624) ∧ (0 ≤ f.ack ∧ f.ack ≤ 1125899906842624)
instance (f : Fr) : Decidable (frIn f) := inferInstanceAs (Decidable (_ ∧ _))
def fbody (f : Fr) : List UInt8 := enc f.ep.toNat ++ enc f.seq.toNat ++ enc f.ack.toNat ++ (enc f.data.length ++ f.data)
def fbytes (f : Fr) : List UInt8 := seald (fbody f)
def fmay (f : Fr) : Nat := if ¬ frIn f then 1 else if f.seq = 0 ∧ f.data ≠ [] then 13 else 0
def fput (f : Fr) (mtu : Int) : List UInt8 × Nat :=
  if mtu < 64 ∨ 1400 < mtu then ([], 1) else if fmay f ≠ 0 then ([], fmay f) else if mtu < (fbytes f).length then ([], 3) else (fbytes f, 0)
def ftail (s : List UInt8) (n1 : Nat) (r1 : Rs) : Fr × Nat :=
  let q2 := rnum s 1125899906842624 r1
  let q3 := rnum s 1125899906842624 q2.2
  let q4 := rtext s 1400 q3.2
  let r4 : Rs := if q4.1 ≠ [] ∧ q2.1 = 0 then ⟨q4.2.at_, rfail q4.2.e 13⟩ else q4.2
  if rend s r4 ≠ 0 then (fr0, rend s r4) else (⟨n1, q2.1, q3.1, q4.1⟩, 0)
def fgetIn (s : List UInt8) : Fr × Nat :=
  let q1 := rnum s 1099511627776 ⟨0, 0⟩
  let r1 : Rs := if q1.1 = 0 then ⟨q1.2.at_, rfail q1.2.e 1⟩ else q1.2
  ftail s q1.1 r1
def fget (b : List UInt8) : Fr × Nat := match unseald b with
  | none => (fr0, 6)
  | some s => fgetIn s
theorem ftail_stop {s : List UInt8} {n1 : Nat} {r1 : Rs} (h : r1.e ≠ 0) : ftail s n1 r1 = (fr0, r1.e) := by
  have h2 := rnum_stop (s := s) (lim := 1125899906842624) h
  simp only [ftail, h2, rtext_stop h]
  simp [rend_stop h, h]
theorem ftail_eq {s : List UInt8} {n1 n2 n3 : Nat} {d : List UInt8} {r1 r2 r3 r4 : Rs} (h2 : rnum s 1125899906842624 r1 = (n2, r2)) (h3 : rnum s 1125899906842624 r2 = (n3, r3)) (h4 : rtext s 1400 r3 = (d, r4)) :
    ftail s n1 r1 = (let r5 : Rs := if d ≠ [] ∧ n2 = 0 then ⟨r4.at_, rfail r4.e 13⟩ else r4; if rend s r5 ≠ 0 then (fr0, rend s r5) else (⟨n1, n2, n3, d⟩, 0)) := by
  simp only [ftail, h2, h3, h4]
theorem fgetIn_eq {s : List UInt8} {n1 : Nat} {r1 : Rs} (h1 : rnum s 1099511627776 ⟨0, 0⟩ = (n1, r1)) : fgetIn s = ftail s n1 (if n1 = 0 then ⟨r1.at_, rfail r1.e 1⟩ else r1) := by
  simp only [fgetIn, h1]
end Go.Proofs.YtfjnacakpeommaaGreatDoor.Pl
/- Contracts: frame's Put and its reference. -/
namespace Go.Proofs.YtfjnacakpeommaaGreatDoor
open Go SL Pl
set_option autoImplicit false
set_option maxRecDepth 100000
set_option linter.unusedSimpArgs false
set_option linter.unusedVariables false
attribute [local irreducible] St Sq Exec QExec wpList wpQuiet Code.wp Exit.then Exit.inBlock bodyPost At Rd wpOp Wa QK GB
/-- A frame's cells. -/
abbrev fv (f : Fr) : List Value := [.int .i64 f.ep, .int .i64 f.seq, .int .i64 f.ack, str f.data]
theorem fin_sp (n lo hi : Int) : Sp Tryz.prog 90 [.int .i64 n, .int .i64 lo, .int .i64 hi] [] (fun v M => v = .bool (decide (lo ≤ n ∧ n ≤ hi)) ∧ M = []) := by
  refine Sp.intro (P := Tryz.prog) (Tryz.func90) rfl Tryz.ntmps90 (by decide) rfl ?_
  intro ρ F
  repeat' (first | (refine St_step ?_; (try with_reducible intro _)) | (refine St_step2 ?_ ?_ <;> (intro hb; (try simp only [beq_iff_eq, bne_iff_ne, decide_eq_true_eq, decide_eq_false_iff_not, Bool.not_eq_true', Bool.not_eq_false', beq_eq_false_iff_ne, bne_eq_false_iff_eq, ne_eq, Int.not_lt, Int.not_le, gt_iff_lt, ge_iff_le] at hb); (try (first | exact Bool.noConfusion hb | exact absurd trivial hb | (exfalso; omega))))) | fail)
  all_goals (refine St_ret1 (.inl rfl) rfl rfl ⟨?_, rfl⟩ (by exact Split.auto))
  all_goals first
    | (congr 1; rw [decide_eq_decide]; omega)
    | (congr 1; rw [eq_comm, decide_eq_false_iff_not]; omega)
    | (congr 1; rw [eq_comm, decide_eq_true_eq]; omega)
theorem fseal_sp (f : Fr) (a b c : Nat) (ha : f.ep = a) (hb1 : f.seq = b) (hc : f.ack = c) (ha1 : a < 4611686018427387904) (hb2 : b < 4611686018427387904) (hc1 : c < 4611686018427387904) (hd : f.data.length ≤ 1000000) :
    Sp Tryz.prog 91 [.agg (fv f).toArray] [GB] (fun v M => v = str (fbytes f) ∧ M = [GB]) := by
  refine Sp.intro (P := Tryz.prog) (Tryz.func91) rfl Tryz.ntmps91 (by decide) rfl ?_
  intro ρ F
  obtain ⟨ep, seq, ack, d⟩ := f
  have ha : ep = a := ha
  have hb1 : seq = b := hb1
  have hc : ack = c := hc
  have hd : d.length ≤ 1000000 := hd
  subst ha hb1 hc
  have l1 := enc_len a; have l2 := enc_len b; have l3 := enc_len c; have l4 := enc_len d.length
  have efb : fbytes ⟨a, b, c, d⟩ = seald ([] ++ enc a ++ enc b ++ enc c ++ (enc d.length ++ d)) := rfl
  rw [efb]
  repeat' (first | (refine St_step ?_; (try with_reducible intro _)) | (refine St_step2 ?_ ?_ <;> (intro hb; (try simp only [beq_iff_eq, bne_iff_ne, decide_eq_true_eq, decide_eq_false_iff_not, Bool.not_eq_true', Bool.not_eq_false', beq_eq_false_iff_ne, bne_eq_false_iff_eq, ne_eq, Int.not_lt, Int.not_le, gt_iff_lt, ge_iff_le] at hb); (try (first | exact Bool.noConfusion hb | exact absurd trivial hb | (exfalso; omega))))) | fail)
  refine St_slNil (E := 5) (sz := 1) ?_
  refine St_wrMk (bs := []) (.inl rfl) (by exact Split.auto) ?_
  have w1 := fun k => wNumber_sp k [] false a ha1 (by simp)
  have w2 := fun k => wNumber_sp k ([] ++ enc a) false b hb2 (by simp; omega)
  have w3 := fun k => wNumber_sp k ([] ++ enc a ++ enc b) false c hc1 (by simp; omega)
  have w4 := fun k => wText_sp k ([] ++ enc a ++ enc b ++ enc c) d false (by simp; omega)
  have w5 := fun k => wBytes_sp k ([] ++ enc a ++ enc b ++ enc c ++ (enc d.length ++ d)) (by simp; omega)
  have w6 := seal_sp ([] ++ enc a ++ enc b ++ enc c ++ (enc d.length ++ d)) (by simp; omega)
  generalize [] ++ enc a ++ enc b ++ enc c ++ (enc d.length ++ d) = q at *
  generalize [] ++ enc a ++ enc b ++ enc c = q3 at *
  repeat' (first | (apply St_call (hf := w1 _); exact rfl; exact rfl; exact Split.auto; rintro _ _ ⟨rfl, rfl⟩) | (apply St_call (hf := w2 _); exact rfl; exact rfl; exact Split.auto; rintro _ _ ⟨rfl, rfl⟩) | (apply St_call (hf := w3 _); exact rfl; exact rfl; exact Split.auto; rintro _ _ ⟨rfl, rfl⟩) | (apply St_call (hf := w4 _); exact rfl; exact rfl; exact Split.auto; rintro _ _ ⟨rfl, rfl⟩) | (apply St_call (hf := w5 _); exact rfl; exact rfl; exact Split.auto; rintro _ _ ⟨rfl, rfl⟩) | (apply St_call (hf := w6); exact rfl; exact rfl; exact Split.auto; rintro _ _ ⟨rfl, rfl⟩) | (refine St_step ?_; (try with_reducible intro _)) | (refine St_step2 ?_ ?_ <;> (intro hb; (try simp only [beq_iff_eq, bne_iff_ne, decide_eq_true_eq, decide_eq_false_iff_not, Bool.not_eq_true', Bool.not_eq_false', beq_eq_false_iff_ne, bne_eq_false_iff_eq, ne_eq, Int.not_lt, Int.not_le, gt_iff_lt, ge_iff_le] at hb); (try (first | exact Bool.noConfusion hb | exact absurd trivial hb | (exfalso; omega))))) | fail)
  exact St_ret1 (.inl rfl) rfl rfl ⟨rfl, rfl⟩ (by exact Split.auto)
theorem fbytes_len (f : Fr) : (fbytes f).length ≤ f.data.length + 36 := by
  have l1 := enc_len f.ep.toNat; have l2 := enc_len f.seq.toNat; have l3 := enc_len f.ack.toNat; have l4 := enc_len f.data.length
  simp [fbytes, seald, fbody, le4]; omega
theorem fbytes_ge (f : Fr) : f.data.length ≤ (fbytes f).length := by
  simp [fbytes, seald, fbody, le4]; omega
theorem fput_sp (f : Fr) (mtu : Int) (hd : f.data.length ≤ 1000000) :
    Sp Tryz.prog 48 [.agg (fv f).toArray, .int .i64 mtu] [GB] (fun v M => v = .tuple [str (fput f mtu).1, nat .i64 (fput f mtu).2].toArray ∧ M = [GB]) := by
  refine Sp.intro (P := Tryz.prog) (Tryz.func48) rfl Tryz.ntmps48 (by decide) rfl ?_
  intro ρ F
  have hlen := fbytes_len f
  by_cases hm : mtu < 64 ∨ 1400 < mtu
  · have e : fput f mtu = ([], 1) := if_pos hm
    rw [e]
    repeat' (first | (apply St_call (hf := fin_sp _ _ _); exact rfl; exact rfl; exact Split.auto; rintro _ _ ⟨rfl, rfl⟩) | (refine St_step ?_; (try with_reducible intro _)) | (refine St_step2 ?_ ?_ <;> (intro hb; (try simp only [beq_iff_eq, bne_iff_ne, decide_eq_true_eq, decide_eq_false_iff_not, Bool.not_eq_true', Bool.not_eq_false', beq_eq_false_iff_ne, bne_eq_false_iff_eq, ne_eq, Int.not_lt, Int.not_le, gt_iff_lt, ge_iff_le] at hb); (try (first | exact Bool.noConfusion hb | exact absurd trivial hb | (exfalso; omega))))) | fail)
    all_goals (first | contradiction | (exfalso; omega) | (exact St_ret1 (.inl rfl) rfl rfl ⟨rfl, rfl⟩ (by exact Split.auto)) | (exact St_ret2 (.inl rfl) rfl rfl rfl ⟨rfl, rfl⟩ (by exact Split.auto)) | (exact St_ret3 (.inl rfl) rfl rfl rfl rfl ⟨rfl, rfl⟩ (by exact Split.auto)))
  by_cases hi : frIn f
  · obtain ⟨⟨h1, h2⟩, ⟨h3, h4⟩, h5, h6⟩ := id hi
    obtain ⟨a, ha⟩ := Int.eq_ofNat_of_zero_le (show 0 ≤ f.ep by omega)
    obtain ⟨b, hb'⟩ := Int.eq_ofNat_of_zero_le h3
    obtain ⟨c, hc⟩ := Int.eq_ofNat_of_zero_le h5
    have hs := fseal_sp f a b c ha hb' hc (by omega) (by omega) (by omega) hd
    by_cases h13 : f.seq = 0 ∧ f.data ≠ []
    · have em : fmay f = 13 := by unfold fmay; rw [if_neg (fun h => h hi), if_pos h13]
      have e : fput f mtu = ([], 13) := by unfold fput; rw [if_neg hm, em]; rfl
      rw [e]
      obtain ⟨h7, h8⟩ := h13
      repeat' (first | (apply St_call (hf := fin_sp _ _ _); exact rfl; exact rfl; exact Split.auto; rintro _ _ ⟨rfl, rfl⟩) | (refine St_step ?_; (try with_reducible intro _)) | (refine St_step2 ?_ ?_ <;> (intro hb; (try simp only [beq_iff_eq, bne_iff_ne, decide_eq_true_eq, decide_eq_false_iff_not, Bool.not_eq_true', Bool.not_eq_false', beq_eq_false_iff_ne, bne_eq_false_iff_eq, ne_eq, Int.not_lt, Int.not_le, gt_iff_lt, ge_iff_le] at hb); (try (first | exact Bool.noConfusion hb | exact absurd trivial hb | (exfalso; omega))))) | fail)
      all_goals (first | contradiction | (exfalso; omega) | (exact St_ret1 (.inl rfl) rfl rfl ⟨rfl, rfl⟩ (by exact Split.auto)) | (exact St_ret2 (.inl rfl) rfl rfl rfl ⟨rfl, rfl⟩ (by exact Split.auto)) | (exact St_ret3 (.inl rfl) rfl rfl rfl rfl ⟨rfl, rfl⟩ (by exact Split.auto)))
    · have em : fmay f = 0 := by unfold fmay; rw [if_neg (fun h => h hi), if_neg h13]
      by_cases hl : mtu < (fbytes f).length
      · have e : fput f mtu = ([], 3) := by unfold fput; rw [if_neg hm, em, if_neg (fun h => h rfl), if_pos hl]
        rw [e]
        repeat' (first | (apply St_call (hf := fin_sp _ _ _); exact rfl; exact rfl; exact Split.auto; rintro _ _ ⟨rfl, rfl⟩) | (apply St_call (hf := hs); exact rfl; exact rfl; exact Split.auto; rintro _ _ ⟨rfl, rfl⟩) | (refine St_step ?_; (try with_reducible intro _)) | (refine St_step2 ?_ ?_ <;> (intro hb; (try simp only [beq_iff_eq, bne_iff_ne, decide_eq_true_eq, decide_eq_false_iff_not, Bool.not_eq_true', Bool.not_eq_false', beq_eq_false_iff_ne, bne_eq_false_iff_eq, ne_eq, Int.not_lt, Int.not_le, gt_iff_lt, ge_iff_le] at hb); (try (first | exact Bool.noConfusion hb | exact absurd trivial hb | (exfalso; omega))))) | fail)
        all_goals first | exact absurd ⟨by assumption, by assumption⟩ h13 | (first | contradiction | (exfalso; omega) | (exact St_ret1 (.inl rfl) rfl rfl ⟨rfl, rfl⟩ (by exact Split.auto)) | (exact St_ret2 (.inl rfl) rfl rfl rfl ⟨rfl, rfl⟩ (by exact Split.auto)) | (exact St_ret3 (.inl rfl) rfl rfl rfl rfl ⟨rfl, rfl⟩ (by exact Split.auto)))
      · have e : fput f mtu = (fbytes f, 0) := by unfold fput; rw [if_neg hm, em, if_neg (fun h => h rfl), if_neg hl]
        rw [e]
        repeat' (first | (apply St_call (hf := fin_sp _ _ _); exact rfl; exact rfl; exact Split.auto; rintro _ _ ⟨rfl, rfl⟩) | (apply St_call (hf := hs); exact rfl; exact rfl; exact Split.auto; rintro _ _ ⟨rfl, rfl⟩) | (refine St_step ?_; (try with_reducible intro _)) | (refine St_step2 ?_ ?_ <;> (intro hb; (try simp only [beq_iff_eq, bne_iff_ne, decide_eq_true_eq, decide_eq_false_iff_not, Bool.not_eq_true', Bool.not_eq_false', beq_eq_false_iff_ne, bne_eq_false_iff_eq, ne_eq, Int.not_lt, Int.not_le, gt_iff_lt, ge_iff_le] at hb); (try (first | exact Bool.noConfusion hb | exact absurd trivial hb | (exfalso; omega))))) | fail)
        all_goals first | exact absurd ⟨by assumption, by assumption⟩ h13 | (first | contradiction | (exfalso; omega) | (exact St_ret1 (.inl rfl) rfl rfl ⟨rfl, rfl⟩ (by exact Split.auto)) | (exact St_ret2 (.inl rfl) rfl rfl rfl ⟨rfl, rfl⟩ (by exact Split.auto)) | (exact St_ret3 (.inl rfl) rfl rfl rfl rfl ⟨rfl, rfl⟩ (by exact Split.auto)))
  · have em : fmay f = 1 := by unfold fmay; rw [if_pos hi]
    have e : fput f mtu = ([], 1) := by unfold fput; rw [if_neg hm, em]; rfl
    rw [e]
    have hi' : ¬ ((1 ≤ f.ep ∧ f.ep ≤ 1099511627776) ∧ (0 ≤ f.seq ∧ f.seq ≤ 1125899906842624) ∧ (0 ≤ f.ack ∧ f.ack ≤ 1125899906842624)) := hi
    repeat' (first | (apply St_call (hf := fin_sp _ _ _); exact rfl; exact rfl; exact Split.auto; rintro _ _ ⟨rfl, rfl⟩) | (refine St_step ?_; (try with_reducible intro _)) | (refine St_step2 ?_ ?_ <;> (intro hb; (try simp only [beq_iff_eq, bne_iff_ne, decide_eq_true_eq, decide_eq_false_iff_not, Bool.not_eq_true', Bool.not_eq_false', beq_eq_false_iff_ne, bne_eq_false_iff_eq, ne_eq, Int.not_lt, Int.not_le, gt_iff_lt, ge_iff_le] at hb); (try (first | exact Bool.noConfusion hb | exact absurd trivial hb | (exfalso; omega))))) | fail)
    all_goals (first | contradiction | (exfalso; omega) | (exact St_ret1 (.inl rfl) rfl rfl ⟨rfl, rfl⟩ (by exact Split.auto)) | (exact St_ret2 (.inl rfl) rfl rfl rfl ⟨rfl, rfl⟩ (by exact Split.auto)) | (exact St_ret3 (.inl rfl) rfl rfl rfl rfl ⟨rfl, rfl⟩ (by exact Split.auto)))
theorem refBytes_sp (f : Fr) (a b c : Nat) (ha : f.ep = a) (hb1 : f.seq = b) (hc : f.ack = c) (ha1 : a < 4611686018427387904) (hb2 : b < 4611686018427387904) (hc1 : c < 4611686018427387904) (hd : f.data.length ≤ 1000000) :
    Sp Tryz.prog 24 [.agg (fv f).toArray] [] (fun v M => v = str (fbytes f) ∧ M = []) := by
  refine Sp.intro (P := Tryz.prog) (Tryz.func24) rfl Tryz.ntmps24 (by decide) rfl ?_
  intro ρ F
  obtain ⟨ep, seq, ack, d⟩ := f
  have ha : ep = a := ha
  have hb1 : seq = b := hb1
  have hc : ack = c := hc
  have hd : d.length ≤ 1000000 := hd
  subst ha hb1 hc
  have l1 := enc_len a; have l2 := enc_len b; have l3 := enc_len c; have l4 := enc_len d.length
  have efb : fbytes ⟨a, b, c, d⟩ = seald (enc a ++ enc b ++ enc c ++ (enc d.length ++ d)) := rfl
  rw [efb]
  have w1 := refNumber_sp a ha1
  have w2 := refNumber_sp b hb2
  have w3 := refNumber_sp c hc1
  have w4 := refText_sp d (by omega)
  have w6 := refSeal_sp (enc a ++ enc b ++ enc c ++ (enc d.length ++ d)) (by simp; omega)
  generalize hq4 : enc d.length ++ d = q4 at *
  have l5 : q4.length ≤ 1000008 := by rw [← hq4]; simp; omega
  repeat' (first | (apply St_call (hf := w1); exact rfl; exact rfl; exact Split.auto; rintro _ _ ⟨rfl, rfl⟩) | (apply St_call (hf := w2); exact rfl; exact rfl; exact Split.auto; rintro _ _ ⟨rfl, rfl⟩) | (apply St_call (hf := w3); exact rfl; exact rfl; exact Split.auto; rintro _ _ ⟨rfl, rfl⟩) | (apply St_call (hf := w4); exact rfl; exact rfl; exact Split.auto; rintro _ _ ⟨rfl, rfl⟩) | (apply St_call (hf := w6); exact rfl; exact rfl; exact Split.auto; rintro _ _ ⟨rfl, rfl⟩) | (apply St_rd; exact rfl; (first | (apply Rd_cat; exact rfl; exact rfl; (simp only [List.length_append]; omega)))) | (apply Sq_rd; exact rfl; (first | (apply Rd_cat; exact rfl; exact rfl; (simp only [List.length_append]; omega)))) | (refine St_step ?_; (try with_reducible intro _)) | (refine St_step2 ?_ ?_ <;> (intro hb; (try simp only [beq_iff_eq, bne_iff_ne, decide_eq_true_eq, decide_eq_false_iff_not, Bool.not_eq_true', Bool.not_eq_false', beq_eq_false_iff_ne, bne_eq_false_iff_eq, ne_eq, Int.not_lt, Int.not_le, gt_iff_lt, ge_iff_le] at hb); (try (first | exact Bool.noConfusion hb | exact absurd trivial hb | (exfalso; omega))))) | fail)
  exact St_ret1 (.inl rfl) rfl rfl ⟨rfl, rfl⟩ (by exact Split.auto)
theorem refMay_sp (f : Fr) : Sp Tryz.prog 117 [.agg (fv f).toArray] [] (fun v M => v = nat .i64 (fmay f) ∧ M = []) := by
  refine Sp.intro (P := Tryz.prog) (Tryz.func117) rfl Tryz.ntmps117 (by decide) rfl ?_
  intro ρ F
  by_cases hi : frIn f
  · obtain ⟨⟨h1, h2⟩, ⟨h3, h4⟩, h5, h6⟩ := id hi
    by_cases h13 : f.seq = 0 ∧ f.data ≠ []
    · have em : fmay f = 13 := by unfold fmay; rw [if_neg (fun h => h hi), if_pos h13]
      rw [em]
      obtain ⟨h7, h8⟩ := h13
      repeat' (first | (refine St_step ?_; (try with_reducible intro _)) | (refine St_step2 ?_ ?_ <;> (intro hb; (try simp only [beq_iff_eq, bne_iff_ne, decide_eq_true_eq, decide_eq_false_iff_not, Bool.not_eq_true', Bool.not_eq_false', beq_eq_false_iff_ne, bne_eq_false_iff_eq, ne_eq, Int.not_lt, Int.not_le, gt_iff_lt, ge_iff_le] at hb); (try (first | exact Bool.noConfusion hb | exact absurd trivial hb | (exfalso; omega))))) | fail)
      all_goals (first | contradiction | (exfalso; omega) | (exact St_ret1 (.inl rfl) rfl rfl ⟨rfl, rfl⟩ (by exact Split.auto)) | (exact St_ret2 (.inl rfl) rfl rfl rfl ⟨rfl, rfl⟩ (by exact Split.auto)) | (exact St_ret3 (.inl rfl) rfl rfl rfl rfl ⟨rfl, rfl⟩ (by exact Split.auto)))
    · have em : fmay f = 0 := by unfold fmay; rw [if_neg (fun h => h hi), if_neg h13]
      rw [em]
      repeat' (first | (refine St_step ?_; (try with_reducible intro _)) | (refine St_step2 ?_ ?_ <;> (intro hb; (try simp only [beq_iff_eq, bne_iff_ne, decide_eq_true_eq, decide_eq_false_iff_not, Bool.not_eq_true', Bool.not_eq_false', beq_eq_false_iff_ne, bne_eq_false_iff_eq, ne_eq, Int.not_lt, Int.not_le, gt_iff_lt, ge_iff_le] at hb); (try (first | exact Bool.noConfusion hb | exact absurd trivial hb | (exfalso; omega))))) | fail)
      all_goals first | exact absurd ⟨by assumption, by assumption⟩ h13 | (first | contradiction | (exfalso; omega) | (exact St_ret1 (.inl rfl) rfl rfl ⟨rfl, rfl⟩ (by exact Split.auto)) | (exact St_ret2 (.inl rfl) rfl rfl rfl ⟨rfl, rfl⟩ (by exact Split.auto)) | (exact St_ret3 (.inl rfl) rfl rfl rfl rfl ⟨rfl, rfl⟩ (by exact Split.auto)))
  · have em : fmay f = 1 := by unfold fmay; rw [if_pos hi]
    rw [em]
    have hi' : ¬ ((1 ≤ f.ep ∧ f.ep ≤ 1099511627776) ∧ (0 ≤ f.seq ∧ f.seq ≤ 1125899906842624) ∧ (0 ≤ f.ack ∧ f.ack ≤ 1125899906842624)) := hi
    repeat' (first | (refine St_step ?_; (try with_reducible intro _)) | (refine St_step2 ?_ ?_ <;> (intro hb; (try simp only [beq_iff_eq, bne_iff_ne, decide_eq_true_eq, decide_eq_false_iff_not, Bool.not_eq_true', Bool.not_eq_false', beq_eq_false_iff_ne, bne_eq_false_iff_eq, ne_eq, Int.not_lt, Int.not_le, gt_iff_lt, ge_iff_le] at hb); (try (first | exact Bool.noConfusion hb | exact absurd trivial hb | (exfalso; omega))))) | fail)
    all_goals (first | contradiction | (exfalso; omega) | (exact St_ret1 (.inl rfl) rfl rfl ⟨rfl, rfl⟩ (by exact Split.auto)) | (exact St_ret2 (.inl rfl) rfl rfl rfl ⟨rfl, rfl⟩ (by exact Split.auto)) | (exact St_ret3 (.inl rfl) rfl rfl rfl rfl ⟨rfl, rfl⟩ (by exact Split.auto)))
theorem refFput_sp (f : Fr) (mtu : Int) (hd : f.data.length ≤ 1000000) :
    Sp Tryz.prog 93 [.agg (fv f).toArray, .int .i64 mtu] [] (fun v M => v = .tuple [str (fput f mtu).1, nat .i64 (fput f mtu).2].toArray ∧ M = []) := by
  refine Sp.intro (P := Tryz.prog) (Tryz.func93) rfl Tryz.ntmps93 (by decide) rfl ?_
  intro ρ F
  have hlen := fbytes_len f
  have hge := fbytes_ge f
  by_cases hm : mtu < 64 ∨ 1400 < mtu
  · have e : fput f mtu = ([], 1) := if_pos hm
    rw [e]
    repeat' (first | (refine St_step ?_; (try with_reducible intro _)) | (refine St_step2 ?_ ?_ <;> (intro hb; (try simp only [beq_iff_eq, bne_iff_ne, decide_eq_true_eq, decide_eq_false_iff_not, Bool.not_eq_true', Bool.not_eq_false', beq_eq_false_iff_ne, bne_eq_false_iff_eq, ne_eq, Int.not_lt, Int.not_le, gt_iff_lt, ge_iff_le] at hb); (try (first | exact Bool.noConfusion hb | exact absurd trivial hb | (exfalso; omega))))) | fail)
    all_goals (first | contradiction | (exfalso; omega) | (exact St_ret1 (.inl rfl) rfl rfl ⟨rfl, rfl⟩ (by exact Split.auto)) | (exact St_ret2 (.inl rfl) rfl rfl rfl ⟨rfl, rfl⟩ (by exact Split.auto)) | (exact St_ret3 (.inl rfl) rfl rfl rfl rfl ⟨rfl, rfl⟩ (by exact Split.auto)))
  have hmay := refMay_sp f
  by_cases hz : fmay f = 0
  · have hi : frIn f := by
      by_cases h : frIn f
      · exact h
      · unfold fmay at hz; rw [if_pos h] at hz; cases hz
    obtain ⟨⟨h1, h2⟩, ⟨h3, h4⟩, h5, h6⟩ := id hi
    obtain ⟨a, ha⟩ := Int.eq_ofNat_of_zero_le (show 0 ≤ f.ep by omega)
    obtain ⟨b, hb'⟩ := Int.eq_ofNat_of_zero_le h3
    obtain ⟨c, hc⟩ := Int.eq_ofNat_of_zero_le h5
    have hs := refBytes_sp f a b c ha hb' hc (by omega) (by omega) (by omega) hd
    rw [hz] at hmay
    by_cases hl : mtu < (fbytes f).length
    · have e : fput f mtu = ([], 3) := by unfold fput; rw [if_neg hm, hz, if_neg (fun h => h rfl), if_pos hl]
      rw [e]
      repeat' (first | (apply St_call (hf := hmay); exact rfl; exact rfl; exact Split.auto; rintro _ _ ⟨rfl, rfl⟩) | (apply St_call (hf := hs); exact rfl; exact rfl; exact Split.auto; rintro _ _ ⟨rfl, rfl⟩) | (refine St_step ?_; (try with_reducible intro _)) | (refine St_step2 ?_ ?_ <;> (intro hb; (try simp only [beq_iff_eq, bne_iff_ne, decide_eq_true_eq, decide_eq_false_iff_not, Bool.not_eq_true', Bool.not_eq_false', beq_eq_false_iff_ne, bne_eq_false_iff_eq, ne_eq, Int.not_lt, Int.not_le, gt_iff_lt, ge_iff_le] at hb); (try (first | exact Bool.noConfusion hb | exact absurd trivial hb | (exfalso; omega))))) | fail)
      all_goals (first | contradiction | (exfalso; omega) | (exact St_ret1 (.inl rfl) rfl rfl ⟨rfl, rfl⟩ (by exact Split.auto)) | (exact St_ret2 (.inl rfl) rfl rfl rfl ⟨rfl, rfl⟩ (by exact Split.auto)) | (exact St_ret3 (.inl rfl) rfl rfl rfl rfl ⟨rfl, rfl⟩ (by exact Split.auto)))
    · have e : fput f mtu = (fbytes f, 0) := by unfold fput; rw [if_neg hm, hz, if_neg (fun h => h rfl), if_neg hl]
      rw [e]
      repeat' (first | (apply St_call (hf := hmay); exact rfl; exact rfl; exact Split.auto; rintro _ _ ⟨rfl, rfl⟩) | (apply St_call (hf := hs); exact rfl; exact rfl; exact Split.auto; rintro _ _ ⟨rfl, rfl⟩) | (refine St_step ?_; (try with_reducible intro _)) | (refine St_step2 ?_ ?_ <;> (intro hb; (try simp only [beq_iff_eq, bne_iff_ne, decide_eq_true_eq, decide_eq_false_iff_not, Bool.not_eq_true', Bool.not_eq_false', beq_eq_false_iff_ne, bne_eq_false_iff_eq, ne_eq, Int.not_lt, Int.not_le, gt_iff_lt, ge_iff_le] at hb); (try (first | exact Bool.noConfusion hb | exact absurd trivial hb | (exfalso; omega))))) | fail)
      all_goals (first | contradiction | (exfalso; omega) | (exact St_ret1 (.inl rfl) rfl rfl ⟨rfl, rfl⟩ (by exact Split.auto)) | (exact St_ret2 (.inl rfl) rfl rfl rfl ⟨rfl, rfl⟩ (by exact Split.auto)) | (exact St_ret3 (.inl rfl) rfl rfl rfl rfl ⟨rfl, rfl⟩ (by exact Split.auto)))
  · have e : fput f mtu = ([], fmay f) := by unfold fput; rw [if_neg hm, if_pos hz]
    rw [e]
    repeat' (first | (apply St_call (hf := hmay); exact rfl; exact rfl; exact Split.auto; rintro _ _ ⟨rfl, rfl⟩) | (refine St_step ?_; (try with_reducible intro _)) | (refine St_step2 ?_ ?_ <;> (intro hb; (try simp only [beq_iff_eq, bne_iff_ne, decide_eq_true_eq, decide_eq_false_iff_not, Bool.not_eq_true', Bool.not_eq_false', beq_eq_false_iff_ne, bne_eq_false_iff_eq, ne_eq, Int.not_lt, Int.not_le, gt_iff_lt, ge_iff_le] at hb); (try (first | exact Bool.noConfusion hb | exact absurd trivial hb | (exfalso; omega))))) | fail)
    all_goals (first | contradiction | (exfalso; omega) | (exact St_ret1 (.inl rfl) rfl rfl ⟨rfl, rfl⟩ (by exact Split.auto)) | (exact St_ret2 (.inl rfl) rfl rfl rfl ⟨rfl, rfl⟩ (by exact Split.auto)) | (exact St_ret3 (.inl rfl) rfl rfl rfl rfl ⟨rfl, rfl⟩ (by exact Split.auto)))
end Go.Proofs.YtfjnacakpeommaaGreatDoor
/- Steps of a walk: a text's bytes as a row of their own. -/
namespace Go.Proofs.YtfjnacakpeommaaGreatDoor.SL
open Go
set_option autoImplicit false
set_option linter.unusedVariables false
set_option linter.unusedSimpArgs false
variable {ρ : Rst} {N : Nat} {env : Env} {L L' : List HP} {P : Program} {Q : Exit → Act → World → Prop} {K : Act → World → Prop}
variable {d : Nat} {dd : Option Nat} {op : Op} {ty : TypeId} {pos : String} {aft : Array Edge} {g : Option (Nat × Bool)} (tb : Tabs P)

theorem holds_bytesWorld {w : World} {E : TypeId} (l : List UInt8) (H : Holds ρ w L) :
    Holds ρ (Lib.bytesWorld w E ⟨l.toArray⟩) (cel false w.heap.size E (Lib.byteCells l ++ List.replicate (grownCap w l.length 0 E - l.length) (Value.int .u8 0)) :: L) := by
  have e : Lib.bytesCells w E ⟨l.toArray⟩ = (Lib.byteCells l ++ List.replicate (grownCap w l.length 0 E - l.length) (Value.int .u8 0)).toArray := by
    simp [Lib.bytesCells, Lib.byteCells, ByteArray.size]
  have H1 := (H.drew).alloc (.cells (Lib.bytesCells w E ⟨l.toArray⟩) E)
  have H2 := Holds.put (b := w.heap.size) (w' := Lib.bytesWorld w E ⟨l.toArray⟩) H1 (by unfold Lib.bytesWorld World.freeze; split <;> rfl) (Lib.bytesWorld_at_new w E _) (fun c hc => by
    unfold Lib.bytesWorld World.freeze
    rw [if_neg (by decide)]
    simp only [Array.getElem?_modify]
    rw [if_neg (fun e => hc e.symm)])
  rw [e] at H2
  exact H2.one_cel (fun _ _ => by simp only [List.size_toArray]; exact Nat.le_refl _)
theorem St_convSB {S T E : TypeId} {x : Operand} {l : List UInt8} (hN : Nat.blt d N = true) (hx : ev env x = some (str l)) (hS : tabLk tb.und S = some .string) (hT : tabLk tb.und T = some (.slice E)) (hE : tabLk tb.und E = some (.int .u8))
    (h : ∀ (b n : Nat), St ρ N ((d, .slice (some ⟨b, 0, none⟩) l.length (l.length + n)) :: env) (cel false b E (Lib.byteCells l ++ List.replicate n (Value.int .u8 0)) :: L) K) :
    St ρ N env L (Exec P Q ⟨some d, .convert S T x, ty, pos, aft, g⟩ K) :=
  St_run (α := Nat × Nat) (v := fun z => .slice (some ⟨z.1, 0, none⟩) l.length (l.length + z.2)) (M := fun z => cel false z.1 E (Lib.byteCells l ++ List.replicate z.2 (Value.int .u8 0)) :: L) (by simpa using hN)
    (fun a w y H => by
      refine ⟨(w.heap.size, grownCap w l.length 0 E - l.length), Lib.bytesWorld w E ⟨l.toArray⟩, ?_, holds_bytesWorld l H⟩
      have hg := grownCap_ge w l.length 0 E
      have e : l.length + (grownCap w l.length 0 E - l.length) = grownCap w l.length 0 E := by omega
      simp only [execOp, ev_ok y hx, Sem.run_bind]
      have hr := Lib.run_convert_string_bytes w S T E ⟨l.toArray⟩ (tab_ok tb.und_ok hS) (tab_ok tb.und_ok hT) (tab_ok tb.und_ok hE)
      rw [hr]
      have hs : (ByteArray.mk l.toArray).size = l.length := rfl
      simp only [Result.andThen_ok, Sem.run_pure, hs, e]) (fun z => h z.1 z.2)
end Go.Proofs.YtfjnacakpeommaaGreatDoor.SL
/- Steps of a walk: slices that are only read; elements that are structs. -/
namespace Go.Proofs.YtfjnacakpeommaaGreatDoor.SL
open Go
set_option autoImplicit false
set_option linter.unusedVariables false
set_option linter.unusedSimpArgs false
variable {ρ : Rst} {N : Nat} {env : Env} {L L' : List HP} {P : Program} {Q : Exit → Act → World → Prop} {K : Act → World → Prop}
variable {d : Nat} {dd : Option Nat} {op : Op} {ty : TypeId} {pos : String} {aft : Array Edge} {g : Option (Nat × Bool)} (tb : Tabs P)

/-- A slice that is read: its n elements' cells. -/
def RS (r : Bool) (v : Value) (n : Nat) (cs : List Value) : HP := fun h =>
  (n = 0 ∧ cs = [] ∧ (∃ A c, v = .slice A 0 c) ∧ emp h) ∨
  ∃ (b T cap : Nat) (pre rest : List Value), v = .slice (some ⟨b, pre.length, none⟩) n cap ∧ cel r b T (pre ++ cs ++ rest) h
theorem dup_rs (v : Value) (n : Nat) (cs : List Value) : Dup (RS true v n cs) := fun h H => by
  rcases H with ⟨e1, e2, e3, e4⟩ | ⟨b, T, cap, pre, rest, e1, e2⟩
  · exact star_mono (fun _ a => .inl ⟨e1, e2, e3, a⟩) (fun _ a => .inl ⟨e1, e2, e3, a⟩) (dup_emp h e4)
  · exact star_mono (fun _ a => .inr ⟨b, T, cap, pre, rest, e1, a⟩) (fun _ a => .inr ⟨b, T, cap, pre, rest, e1, a⟩) (dup_cel _ _ _ h e2)
theorem Holds.rs {r : Bool} {v : Value} {n : Nat} {cs : List Value} {w : World} (H : Holds ρ w (RS r v n cs :: L)) :
    (n = 0 ∧ cs = [] ∧ (∃ A c, v = .slice A 0 c) ∧ Holds ρ w L) ∨
    ∃ (b T cap : Nat) (pre rest : List Value), v = .slice (some ⟨b, pre.length, none⟩) n cap ∧ Holds ρ w (cel r b T (pre ++ cs ++ rest) :: L) := by
  obtain ⟨h, ⟨h1, h2, c, e, a, b2⟩, d⟩ := H.heap
  rcases a with ⟨e1, e2, e3, e4⟩ | ⟨b, T, cap, pre, rest, e1, e2⟩
  · exact .inl ⟨e1, e2, e3, H.drop⟩
  · exact .inr ⟨b, T, cap, pre, rest, e1, H.tape, H.os, H.output, h, ⟨h1, h2, c, e, e2, b2⟩, d⟩
theorem Holds.rs_nil {r : Bool} {A : Option Addr} {c : Nat} {w : World} (H : Holds ρ w L) : Holds ρ w (RS r (.slice A 0 c) 0 [] :: L) :=
  H.mono fun h x => ⟨E0, h, E0_Cmp h, rfl, .inl ⟨rfl, rfl, ⟨A, c, rfl⟩, rfl⟩, x⟩
theorem Holds.rs_row {r : Bool} {b T cap n : Nat} {pre cs rest : List Value} {w : World} (H : Holds ρ w (cel r b T (pre ++ cs ++ rest) :: L)) :
    Holds ρ w (RS r (.slice (some ⟨b, pre.length, none⟩) n cap) n cs :: L) :=
  H.mono fun _ x => star_mono (fun _ a => .inr ⟨b, T, cap, pre, rest, rfl, a⟩) (fun _ a => a) x
/-- It is a slice. -/
theorem St_rsIs {r : Bool} {v : Value} {n : Nat} {cs : List Value} {G : Act → World → Prop} (hc : Has L (RS r v n cs) L') (h : ∀ A c, v = .slice A n c → St ρ N env L G) : St ρ N env L G := fun a w x y => by
  rcases (y.has hc).rs with ⟨e1, e2, ⟨A, c, e3⟩, H⟩ | ⟨b, T, cap, pre, rest, e1, H⟩
  · exact h A c (by rw [e3, e1]) a w x y
  · exact h _ _ e1 a w x y
/-- Laid open. -/
theorem St_rsOpen {r : Bool} {v : Value} {n : Nat} {cs : List Value} {G : Act → World → Prop} (hc : Has L (RS r v n cs) L') (hn : 0 < n)
    (h : ∀ (b T cap : Nat) (pre rest : List Value), v = .slice (some ⟨b, pre.length, none⟩) n cap → St ρ N env (cel r b T (pre ++ cs ++ rest) :: L') G) : St ρ N env L G := fun a w x y => by
  rcases (y.has hc).rs with ⟨e1, _⟩ | ⟨b, T, cap, pre, rest, e1, H⟩
  · omega
  · exact h b T cap pre rest e1 a w x H
theorem St_rsMk {r : Bool} {b T cap n : Nat} {pre cs rest : List Value} {G : Act → World → Prop} (hc : Has L (cel r b T (pre ++ cs ++ rest)) L')
    (h : St ρ N env (RS r (.slice (some ⟨b, pre.length, none⟩) n cap) n cs :: L') G) : St ρ N env L G := fun a w x y => h a w x (y.has hc).rs_row
theorem St_rsNil {r : Bool} {A : Option Addr} {c : Nat} {G : Act → World → Prop} (h : St ρ N env (RS r (.slice A 0 c) 0 [] :: L) G) : St ρ N env L G := fun a w x y => h a w x y.rs_nil
theorem Holds.rs_sl {E sz n : Nat} {v : Value} {cs : List Value} {w : World} (H : Holds ρ w (Sl E sz v n cs :: L)) : Holds ρ w (RS false v n cs :: L) := by
  rcases H.sl with ⟨rfl, rfl, rfl, H2⟩ | ⟨b, cap, pre, rest, rfl, e2, e3, e4, H2⟩
  · exact H2.rs_nil
  · exact H2.rs_row
theorem Holds.rs_share {n : Nat} {v : Value} {cs : List Value} {w : World} (H : Holds ρ w (RS false v n cs :: L)) : Holds ρ w (RS true v n cs :: L) := by
  rcases H.rs with ⟨rfl, rfl, ⟨A, c, rfl⟩, H2⟩ | ⟨b, T, cap, pre, rest, rfl, H2⟩
  · exact H2.rs_nil
  · exact H2.shareC.rs_row
/-- A slice of one's own is from here on only read. -/
theorem St_slShare {E sz n : Nat} {v : Value} {cs : List Value} {G : Act → World → Prop} (hc : Has L (Sl E sz v n cs) L')
    (h : St ρ N env (RS true v n cs :: L') G) : St ρ N env L G := fun a w x y => h a w x (y.has hc).rs_sl.rs_share
theorem St_dup {A : HP} {G : Act → World → Prop} (hA : Dup A) (hc : Has L A L') (h : St ρ N env (A :: A :: L') G) : St ρ N env L G := fun a w x y => h a w x ((y.has hc).dup hA)

/-- Elements of k cells each. -/
theorem flat_at {α : Type} {f : α → List Value} {k : Nat} (hk : ∀ u, (f u).length = k) : ∀ (us : List α) (i : Nat) (u : α) (pre rest : List Value), us[i]? = some u →
    ((pre ++ us.flatMap f ++ rest).drop (pre.length + i * k)).take k = f u
  | [], i, u, pre, rest, h => by simp at h
  | x :: us, 0, u, pre, rest, h => by
    have hx : x = u := by simpa using h
    subst hx
    rw [Nat.zero_mul, Nat.add_zero, List.append_assoc, List.drop_left, List.flatMap_cons, List.append_assoc, List.take_append_of_le_length (by rw [hk]; exact Nat.le_refl _), List.take_of_length_le (by rw [hk]; exact Nat.le_refl _)]
  | x :: us, i + 1, u, pre, rest, h => by
    have h2 := flat_at hk us i u (pre ++ f x) rest (by simpa using h)
    rw [← h2, List.flatMap_cons, List.length_append, hk]
    have e : pre ++ (f x ++ List.flatMap f us) ++ rest = pre ++ f x ++ List.flatMap f us ++ rest := by simp
    rw [e, Nat.succ_mul]
    congr 2
    omega
theorem flat_len {α : Type} {f : α → List Value} {k : Nat} (hk : ∀ u, (f u).length = k) (us : List α) : (us.flatMap f).length = us.length * k := by
  induction us with
  | nil => simp
  | cons x us ih => rw [List.flatMap_cons, List.length_append, ih, hk, List.length_cons, Nat.succ_mul]; omega
theorem flat_room {α : Type} {f : α → List Value} {k : Nat} (hk : ∀ u, (f u).length = k) (us : List α) (i : Nat) (pre rest : List Value) (h : i < us.length) :
    pre.length + i * k + k ≤ (pre ++ us.flatMap f ++ rest).length := by
  have h1 : (i + 1) * k ≤ us.length * k := Nat.mul_le_mul_right k h
  rw [Nat.succ_mul] at h1
  simp only [List.length_append, flat_len hk]
  omega
/-- A conversion, a shift, whose outcome is reckoned aside. -/
theorem Rd_convV {S T : Nat} {x : Operand} {k k' : IntKind} {n m : Int} (hx : ev env x = some (.int k n)) (hu : tabLk tb.und S = some (.int k)) (hv : tabLk tb.und T = some (.int k'))
    (hw : k'.wrap n = m) : Rd P ρ N env L ⟨dd, .convert S T x, ty, pos, aft, g⟩ (.int k' m) := by
  have h := Rd_convInt (ρ := ρ) (N := N) (L := L) (dd := dd) (ty := ty) (pos := pos) (aft := aft) (g := g) tb hx hu hv; rw [hw] at h; exact h
theorem Rd_shlV {T U : TypeId} {x y : Operand} {k k' : IntKind} {m n r : Int} (hx : ev env x = some (.int k m)) (hy : ev env y = some (.int k' n))
    (hb : 0 ≤ n) (hr : k.wrap (m * 2 ^ (min n.toNat k.bits)) = r) : Rd P ρ N env L ⟨dd, .binOp .shl T x y U, ty, pos, aft, g⟩ (.int k r) := by
  have h := Rd_shl (P := P) (ρ := ρ) (N := N) (L := L) (dd := dd) (ty := ty) (pos := pos) (aft := aft) (g := g) (T := T) (U := U) hx hy hb; rw [hr] at h; exact h
theorem Rd_shrV {T U : TypeId} {x y : Operand} {k k' : IntKind} {m n r : Int} (hx : ev env x = some (.int k m)) (hy : ev env y = some (.int k' n))
    (hb : 0 ≤ n) (hr : m.fdiv (2 ^ (min n.toNat k.bits)) = r) : Rd P ρ N env L ⟨dd, .binOp .shr T x y U, ty, pos, aft, g⟩ (.int k r) := by
  have h := Rd_shr (P := P) (ρ := ρ) (N := N) (L := L) (dd := dd) (ty := ty) (pos := pos) (aft := aft) (g := g) (T := T) (U := U) hx hy hb; rw [hr] at h; exact h
end Go.Proofs.YtfjnacakpeommaaGreatDoor.SL
/- Plain: updates and rounds. -/
namespace Go.Proofs.YtfjnacakpeommaaGreatDoor.Pl
set_option autoImplicit false
set_option linter.unusedVariables false

structure Up where
  key : List UInt8
  kind : Int
  n : Int
  s : List UInt8
def up0 : Up := ⟨[], 0, 0, []⟩
/-- May an update be? An error. -/
def umay (u : Up) : Nat :=
  if u.key.length < 1 ∨ 16 < u.key.length then 1
  else if u.kind = 1 ∨ u.kind = 3 then (if u.s ≠ [] then 13 else if u.n < -2305843009213693952 ∨ 2305843009213693952 ≤ u.n then 1 else 0)
  else if u.kind = 2 ∨ u.kind = 4 then (if u.n ≠ 0 then 13 else if 32 < u.s.length then 1 else 0)
  else if u.kind = 5 then (if u.n ≠ 0 ∨ u.s ≠ [] then 13 else 0)
  else 5
def firstErr : List Up → Nat
  | [] => 0
  | u :: l => if umay u ≠ 0 then umay u else firstErr l
structure Ro where
  origin : Int
  number : Int
  ups : List Up
def ro0 : Ro := ⟨0, 0, []⟩
def rmay (r : Ro) : Nat :=
  if (r.origin < 1 ∨ 64 < r.origin) ∨ (r.number < 1 ∨ 1099511627776 < r.number) ∨ (r.ups.length < 1 ∨ 8 < r.ups.length) then 1 else firstErr r.ups
/-- A signed number as one without a sign. -/
def zig (n : Int) : Nat := if 0 ≤ n then 2 * n.toNat else 2 * (-n - 1).toNat + 1
def utail (u : Up) : List UInt8 :=
  if u.kind = 1 ∨ u.kind = 3 then enc (zig u.n) else if u.kind = 2 ∨ u.kind = 4 then enc u.s.length ++ u.s else []
def ubytes (u : Up) : List UInt8 := enc u.kind.toNat ++ ((enc u.key.length ++ u.key) ++ utail u)
def rbytes (r : Ro) : List UInt8 := enc r.origin.toNat ++ enc r.number.toNat ++ enc r.ups.length ++ r.ups.flatMap ubytes
def rput (r : Ro) : List UInt8 × Nat := if rmay r ≠ 0 then ([], rmay r) else (rbytes r, 0)
/-- Do updates fit a datagram of mtu bytes? -/
def rfits (l : List Up) (mtu : Int) : Bool := decide (rmay ⟨64, 1099511627776, l⟩ = 0 ∧ 64 ≤ mtu ∧ mtu ≤ 1400 ∧ ((rbytes ⟨64, 1099511627776, l⟩).length : Int) ≤ mtu - 40)
theorem umay_kind {u : Up} (h : umay u = 0) : 1 ≤ u.kind ∧ u.kind ≤ 5 ∧ 1 ≤ u.key.length ∧ u.key.length ≤ 16 ∧ u.s.length ≤ 32 ∧ -2305843009213693952 ≤ u.n ∧ u.n < 2305843009213693952 := by
  unfold umay at h
  split at h
  · cases h
  rename_i h1
  split at h
  · rename_i h2
    split at h
    · cases h
    · rename_i h3
      split at h
      · cases h
      · rename_i h4
        have : u.s = [] := by simpa using h3
        rw [this]
        refine ⟨by omega, by omega, by omega, by omega, by simp, by omega, by omega⟩
  · rename_i h2
    split at h
    · rename_i h3
      split at h
      · cases h
      · rename_i h4
        split at h
        · cases h
        · rename_i h5
          refine ⟨by omega, by omega, by omega, by omega, by omega, by omega, by omega⟩
    · rename_i h3
      split at h
      · rename_i h4
        split at h
        · cases h
        · rename_i h5
          have h6 : u.s = [] := by
            by_cases hs : u.s = []
            · exact hs
            · exact absurd (.inr hs) h5
          rw [h6]
          refine ⟨by omega, by omega, by omega, by omega, by simp, by omega, by omega⟩
      · cases h
theorem firstErr_zero {l : List Up} (h : firstErr l = 0) : ∀ u ∈ l, umay u = 0 := by
  induction l with
  | nil => intro u hu; cases hu
  | cons x l ih =>
    unfold firstErr at h
    split at h
    · rename_i h1; exact absurd h h1
    · rename_i h1
      intro u hu
      rcases List.mem_cons.1 hu with rfl | hu
      · exact Decidable.not_not.1 h1
      · exact ih h u hu
theorem firstErr_at {l : List Up} {i : Nat} {u : Up} (h : ∀ j, j < i → ∀ x, l[j]? = some x → umay x = 0) (hu : l[i]? = some u) (he : umay u ≠ 0) : firstErr l = umay u := by
  induction l generalizing i with
  | nil => simp at hu
  | cons x l ih =>
    unfold firstErr
    cases i with
    | zero =>
      have : x = u := by simpa using hu
      subst this
      rw [if_pos he]
    | succ i =>
      have h0 : umay x = 0 := h 0 (by omega) x rfl
      rw [if_neg (fun h => h h0)]
      exact ih (i := i) (fun j hj y hy => h (j + 1) (by omega) y (by simpa using hy)) (by simpa using hu)
theorem firstErr_all {l : List Up} (h : ∀ (j : Nat) x, l[j]? = some x → umay x = 0) : firstErr l = 0 := by
  induction l with
  | nil => rfl
  | cons x l ih =>
    unfold firstErr
    rw [if_neg (fun h' => h' (h 0 x rfl))]
    exact ih fun j y hy => h (j + 1) y (by simpa using hy)
theorem rmay_zero {r : Ro} (h : rmay r = 0) : (1 ≤ r.origin ∧ r.origin ≤ 64) ∧ (1 ≤ r.number ∧ r.number ≤ 1099511627776) ∧ (1 ≤ r.ups.length ∧ r.ups.length ≤ 8) ∧ ∀ u ∈ r.ups, umay u = 0 := by
  unfold rmay at h
  split at h
  · cases h
  · rename_i h1
    exact ⟨by omega, by omega, by omega, firstErr_zero h⟩
theorem zig_lt {n : Int} (h : -2305843009213693952 ≤ n ∧ n < 2305843009213693952) : zig n < 4611686018427387904 := by
  unfold zig; split <;> omega
theorem ubytes_len (u : Up) (h : umay u = 0) : (ubytes u).length ≤ 100 := by
  obtain ⟨_, _, _, h4, h5, _⟩ := umay_kind h
  have l1 : ∀ n, (enc n).length ≤ 8 := fun n => by
    rw [enc_length]; rcases sz_cases n with h | h | h | h | h <;> omega
  have a1 := l1 u.kind.toNat; have a2 := l1 u.key.length; have a3 := l1 (zig u.n); have a4 := l1 u.s.length
  have : (utail u).length ≤ 40 := by
    unfold utail
    (repeat' split) <;> (try simp only [List.length_append, List.length_nil]) <;> omega
  simp only [ubytes, List.length_append]
  omega
theorem sz_mono {a b : Nat} (h : a ≤ b) (hb : b < 4611686018427387904) : sz a ≤ sz b := by
  unfold sz; (repeat' split) <;> omega
/-- A round that fits makes a frame that isn't too long. -/
theorem carries {r : Ro} {mtu : Int} {f : Fr} (hf : rfits r.ups mtu = true) (hr : rmay r = 0) (hd : f.data = rbytes r) (hm : fmay f = 0) : fput f mtu = (fbytes f, 0) ∧ ((fbytes f).length : Int) ≤ mtu := by
  unfold rfits at hf
  obtain ⟨h0, h1, h2, h3⟩ := of_decide_eq_true hf
  obtain ⟨⟨o1, o2⟩, ⟨n1, n2⟩, ⟨u1, u2⟩, hu⟩ := rmay_zero hr
  have hlen : (rbytes r).length ≤ (rbytes ⟨64, 1099511627776, r.ups⟩).length := by
    simp only [rbytes, List.length_append, enc_length]
    have a1 : sz r.origin.toNat ≤ sz (64 : Int).toNat := sz_mono (by omega) (by decide)
    have a2 : sz r.number.toNat ≤ sz (1099511627776 : Int).toNat := sz_mono (by omega) (by decide)
    omega
  have hd2 : (f.data.length : Int) ≤ mtu - 40 := by rw [hd]; omega
  have hi : frIn f := by
    by_cases h : frIn f
    · exact h
    · unfold fmay at hm; rw [if_pos h] at hm; cases hm
  obtain ⟨⟨e1, e2⟩, ⟨e3, e4⟩, e5, e6⟩ := id hi
  have l1 : ∀ n, (enc n).length ≤ 8 := fun n => by
    rw [enc_length]; rcases sz_cases n with h | h | h | h | h <;> omega
  have b1 := l1 f.ep.toNat; have b2 := l1 f.seq.toNat; have b3 := l1 f.ack.toNat
  have b4 : (enc f.data.length).length ≤ 2 := by
    rw [enc_length]
    exact sz_mono (b := 1400) (by omega) (by decide)
  have hl : ((fbytes f).length : Int) ≤ mtu := by
    simp [fbytes, seald, fbody, le4]; omega
  refine ⟨?_, hl⟩
  unfold fput
  rw [if_neg (by omega), if_neg (by rw [hm]; exact fun h => h rfl), if_neg (by omega)]
end Go.Proofs.YtfjnacakpeommaaGreatDoor.Pl
/- Contracts: value.May, signed numbers, update.Write, round's May, Put, Fits. -/
namespace Go.Proofs.YtfjnacakpeommaaGreatDoor
open Go SL Pl
set_option autoImplicit false
set_option maxRecDepth 100000
set_option linter.unusedSimpArgs false
set_option linter.unusedVariables false
attribute [local irreducible] St Sq Exec QExec wpList wpQuiet Code.wp Exit.then Exit.inBlock bodyPost At Rd wpOp Wa QK GB
/-- An update's cells, a round's. -/
abbrev uv (u : Up) : List Value := [str u.key, .int .i64 u.kind, .int .i64 u.n, str u.s]
abbrev rv (r : Ro) (v : Value) : List Value := [.int .i64 r.origin, .int .i64 r.number, v]
theorem uv_len (u : Up) : (uv u).length = 4 := rfl
theorem umay_sp (u : Up) : Sp Tryz.prog 111 [.agg (uv u).toArray] [] (fun v M => v = nat .i64 (umay u) ∧ M = []) := by
  refine Sp.intro (P := Tryz.prog) (Tryz.func111) rfl Tryz.ntmps111 (by decide) rfl ?_
  intro ρ F
  unfold umay
  by_cases h1 : u.key.length < 1 ∨ 16 < u.key.length
  · rw [if_pos h1]
    repeat' (first | (refine St_step ?_; (try with_reducible intro _)) | (refine St_step2 ?_ ?_ <;> (intro hb; (try simp only [beq_iff_eq, bne_iff_ne, decide_eq_true_eq, decide_eq_false_iff_not, Bool.not_eq_true', Bool.not_eq_false', beq_eq_false_iff_ne, bne_eq_false_iff_eq, ne_eq, Int.not_lt, Int.not_le, gt_iff_lt, ge_iff_le] at hb); (try (first | exact Bool.noConfusion hb | exact absurd trivial hb | (exfalso; omega))))) | fail)
    all_goals (first | contradiction | (exfalso; omega) | (exact St_ret1 (.inl rfl) rfl rfl ⟨rfl, rfl⟩ (by exact Split.auto)) | (exact St_ret2 (.inl rfl) rfl rfl rfl ⟨rfl, rfl⟩ (by exact Split.auto)) | (exact St_ret3 (.inl rfl) rfl rfl rfl rfl ⟨rfl, rfl⟩ (by exact Split.auto)))
  rw [if_neg h1]
  by_cases h2 : u.kind = 1 ∨ u.kind = 3
  · rw [if_pos h2]
    by_cases h3 : u.s ≠ []
    · rw [if_pos h3]
      repeat' (first | (refine St_step ?_; (try with_reducible intro _)) | (refine St_step2 ?_ ?_ <;> (intro hb; (try simp only [beq_iff_eq, bne_iff_ne, decide_eq_true_eq, decide_eq_false_iff_not, Bool.not_eq_true', Bool.not_eq_false', beq_eq_false_iff_ne, bne_eq_false_iff_eq, ne_eq, Int.not_lt, Int.not_le, gt_iff_lt, ge_iff_le] at hb); (try (first | exact Bool.noConfusion hb | exact absurd trivial hb | (exfalso; omega))))) | fail)
      all_goals (first | contradiction | (exfalso; omega) | (exact St_ret1 (.inl rfl) rfl rfl ⟨rfl, rfl⟩ (by exact Split.auto)) | (exact St_ret2 (.inl rfl) rfl rfl rfl ⟨rfl, rfl⟩ (by exact Split.auto)) | (exact St_ret3 (.inl rfl) rfl rfl rfl rfl ⟨rfl, rfl⟩ (by exact Split.auto)))
    rw [if_neg h3]
    have h3' : u.s = [] := Decidable.not_not.1 h3
    by_cases h4 : u.n < -2305843009213693952 ∨ 2305843009213693952 ≤ u.n
    · rw [if_pos h4]
      repeat' (first | (refine St_step ?_; (try with_reducible intro _)) | (refine St_step2 ?_ ?_ <;> (intro hb; (try simp only [beq_iff_eq, bne_iff_ne, decide_eq_true_eq, decide_eq_false_iff_not, Bool.not_eq_true', Bool.not_eq_false', beq_eq_false_iff_ne, bne_eq_false_iff_eq, ne_eq, Int.not_lt, Int.not_le, gt_iff_lt, ge_iff_le] at hb); (try (first | exact Bool.noConfusion hb | exact absurd trivial hb | (exfalso; omega))))) | fail)
      all_goals (first | contradiction | (exfalso; omega) | (exact St_ret1 (.inl rfl) rfl rfl ⟨rfl, rfl⟩ (by exact Split.auto)) | (exact St_ret2 (.inl rfl) rfl rfl rfl ⟨rfl, rfl⟩ (by exact Split.auto)) | (exact St_ret3 (.inl rfl) rfl rfl rfl rfl ⟨rfl, rfl⟩ (by exact Split.auto)))
    · rw [if_neg h4]
      repeat' (first | (refine St_step ?_; (try with_reducible intro _)) | (refine St_step2 ?_ ?_ <;> (intro hb; (try simp only [beq_iff_eq, bne_iff_ne, decide_eq_true_eq, decide_eq_false_iff_not, Bool.not_eq_true', Bool.not_eq_false', beq_eq_false_iff_ne, bne_eq_false_iff_eq, ne_eq, Int.not_lt, Int.not_le, gt_iff_lt, ge_iff_le] at hb); (try (first | exact Bool.noConfusion hb | exact absurd trivial hb | (exfalso; omega))))) | fail)
      all_goals (first | contradiction | (exfalso; omega) | (exact St_ret1 (.inl rfl) rfl rfl ⟨rfl, rfl⟩ (by exact Split.auto)) | (exact St_ret2 (.inl rfl) rfl rfl rfl ⟨rfl, rfl⟩ (by exact Split.auto)) | (exact St_ret3 (.inl rfl) rfl rfl rfl rfl ⟨rfl, rfl⟩ (by exact Split.auto)))
  rw [if_neg h2]
  by_cases h5 : u.kind = 2 ∨ u.kind = 4
  · rw [if_pos h5]
    by_cases h6 : u.n ≠ 0
    · rw [if_pos h6]
      repeat' (first | (refine St_step ?_; (try with_reducible intro _)) | (refine St_step2 ?_ ?_ <;> (intro hb; (try simp only [beq_iff_eq, bne_iff_ne, decide_eq_true_eq, decide_eq_false_iff_not, Bool.not_eq_true', Bool.not_eq_false', beq_eq_false_iff_ne, bne_eq_false_iff_eq, ne_eq, Int.not_lt, Int.not_le, gt_iff_lt, ge_iff_le] at hb); (try (first | exact Bool.noConfusion hb | exact absurd trivial hb | (exfalso; omega))))) | fail)
      all_goals (first | contradiction | (exfalso; omega) | (exact St_ret1 (.inl rfl) rfl rfl ⟨rfl, rfl⟩ (by exact Split.auto)) | (exact St_ret2 (.inl rfl) rfl rfl rfl ⟨rfl, rfl⟩ (by exact Split.auto)) | (exact St_ret3 (.inl rfl) rfl rfl rfl rfl ⟨rfl, rfl⟩ (by exact Split.auto)))
    rw [if_neg h6]
    by_cases h7 : 32 < u.s.length
    · rw [if_pos h7]
      repeat' (first | (refine St_step ?_; (try with_reducible intro _)) | (refine St_step2 ?_ ?_ <;> (intro hb; (try simp only [beq_iff_eq, bne_iff_ne, decide_eq_true_eq, decide_eq_false_iff_not, Bool.not_eq_true', Bool.not_eq_false', beq_eq_false_iff_ne, bne_eq_false_iff_eq, ne_eq, Int.not_lt, Int.not_le, gt_iff_lt, ge_iff_le] at hb); (try (first | exact Bool.noConfusion hb | exact absurd trivial hb | (exfalso; omega))))) | fail)
      all_goals (first | contradiction | (exfalso; omega) | (exact St_ret1 (.inl rfl) rfl rfl ⟨rfl, rfl⟩ (by exact Split.auto)) | (exact St_ret2 (.inl rfl) rfl rfl rfl ⟨rfl, rfl⟩ (by exact Split.auto)) | (exact St_ret3 (.inl rfl) rfl rfl rfl rfl ⟨rfl, rfl⟩ (by exact Split.auto)))
    · rw [if_neg h7]
      repeat' (first | (refine St_step ?_; (try with_reducible intro _)) | (refine St_step2 ?_ ?_ <;> (intro hb; (try simp only [beq_iff_eq, bne_iff_ne, decide_eq_true_eq, decide_eq_false_iff_not, Bool.not_eq_true', Bool.not_eq_false', beq_eq_false_iff_ne, bne_eq_false_iff_eq, ne_eq, Int.not_lt, Int.not_le, gt_iff_lt, ge_iff_le] at hb); (try (first | exact Bool.noConfusion hb | exact absurd trivial hb | (exfalso; omega))))) | fail)
      all_goals (first | contradiction | (exfalso; omega) | (exact St_ret1 (.inl rfl) rfl rfl ⟨rfl, rfl⟩ (by exact Split.auto)) | (exact St_ret2 (.inl rfl) rfl rfl rfl ⟨rfl, rfl⟩ (by exact Split.auto)) | (exact St_ret3 (.inl rfl) rfl rfl rfl rfl ⟨rfl, rfl⟩ (by exact Split.auto)))
  rw [if_neg h5]
  by_cases h8 : u.kind = 5
  · rw [if_pos h8]
    by_cases h9 : u.n ≠ 0 ∨ u.s ≠ []
    · rw [if_pos h9]
      repeat' (first | (refine St_step ?_; (try with_reducible intro _)) | (refine St_step2 ?_ ?_ <;> (intro hb; (try simp only [beq_iff_eq, bne_iff_ne, decide_eq_true_eq, decide_eq_false_iff_not, Bool.not_eq_true', Bool.not_eq_false', beq_eq_false_iff_ne, bne_eq_false_iff_eq, ne_eq, Int.not_lt, Int.not_le, gt_iff_lt, ge_iff_le] at hb); (try (first | exact Bool.noConfusion hb | exact absurd trivial hb | (exfalso; omega))))) | fail)
      all_goals first | (first | contradiction | (exfalso; omega) | (exact St_ret1 (.inl rfl) rfl rfl ⟨rfl, rfl⟩ (by exact Split.auto)) | (exact St_ret2 (.inl rfl) rfl rfl rfl ⟨rfl, rfl⟩ (by exact Split.auto)) | (exact St_ret3 (.inl rfl) rfl rfl rfl rfl ⟨rfl, rfl⟩ (by exact Split.auto))) | (exfalso; rcases h9 with h9 | h9 <;> first | omega | contradiction)
    · rw [if_neg h9]
      have h9' : u.s = [] := by
        by_cases hs : u.s = []
        · exact hs
        · exact absurd (.inr hs) h9
      repeat' (first | (refine St_step ?_; (try with_reducible intro _)) | (refine St_step2 ?_ ?_ <;> (intro hb; (try simp only [beq_iff_eq, bne_iff_ne, decide_eq_true_eq, decide_eq_false_iff_not, Bool.not_eq_true', Bool.not_eq_false', beq_eq_false_iff_ne, bne_eq_false_iff_eq, ne_eq, Int.not_lt, Int.not_le, gt_iff_lt, ge_iff_le] at hb); (try (first | exact Bool.noConfusion hb | exact absurd trivial hb | (exfalso; omega))))) | fail)
      all_goals (first | contradiction | (exfalso; omega) | (exact St_ret1 (.inl rfl) rfl rfl ⟨rfl, rfl⟩ (by exact Split.auto)) | (exact St_ret2 (.inl rfl) rfl rfl rfl ⟨rfl, rfl⟩ (by exact Split.auto)) | (exact St_ret3 (.inl rfl) rfl rfl rfl rfl ⟨rfl, rfl⟩ (by exact Split.auto)))
  · rw [if_neg h8]
    repeat' (first | (refine St_step ?_; (try with_reducible intro _)) | (refine St_step2 ?_ ?_ <;> (intro hb; (try simp only [beq_iff_eq, bne_iff_ne, decide_eq_true_eq, decide_eq_false_iff_not, Bool.not_eq_true', Bool.not_eq_false', beq_eq_false_iff_ne, bne_eq_false_iff_eq, ne_eq, Int.not_lt, Int.not_le, gt_iff_lt, ge_iff_le] at hb); (try (first | exact Bool.noConfusion hb | exact absurd trivial hb | (exfalso; omega))))) | fail)
    all_goals (first | contradiction | (exfalso; omega) | (exact St_ret1 (.inl rfl) rfl rfl ⟨rfl, rfl⟩ (by exact Split.auto)) | (exact St_ret2 (.inl rfl) rfl rfl rfl ⟨rfl, rfl⟩ (by exact Split.auto)) | (exact St_ret3 (.inl rfl) rfl rfl rfl rfl ⟨rfl, rfl⟩ (by exact Split.auto)))
theorem xor_all {y : Nat} (h : y < 18446744073709551616) : y ^^^ 18446744073709551615 = 18446744073709551615 - y := by
  have e : 18446744073709551615 - y = 2 ^ 64 - (y + 1) := by omega
  have e2 : (18446744073709551615 : Nat) = 2 ^ 64 - 1 := rfl
  apply Nat.eq_of_testBit_eq
  intro i
  rw [e, e2, Nat.testBit_xor, Nat.testBit_two_pow_sub_succ (show y < 2 ^ 64 from h), Nat.testBit_two_pow_sub_one]
  by_cases hi : i < 64
  · simp [hi]
  · have hy : y.testBit i = false := Nat.testBit_lt_two_pow (Nat.lt_of_lt_of_le h (Nat.pow_le_pow_right (show 2 > 0 by decide) (show 64 ≤ i by omega)))
    simp [hi, hy]
theorem zig_sp (n : Int) (h : -2305843009213693952 ≤ n ∧ n < 2305843009213693952) : Sp Tryz.prog 136 [.int .i64 n] [] (fun v M => v = .tuple [nat .u64 (zig n), .bool true].toArray ∧ M = []) := by
  refine Sp.intro (P := Tryz.prog) (Tryz.func136) rfl Tryz.ntmps136 (by decide) rfl ?_
  intro ρ F
  obtain ⟨h1, h2⟩ := h
  have e1 : IntKind.i64.wrap (n * 2 ^ (min ((1 : Int)).toNat IntKind.i64.bits)) = 2 * n := by
    show IntKind.i64.wrap (n * 2 ^ 1) = _
    rw [IntWalk.i64_in _ (by omega)]; omega
  unfold zig
  by_cases h0 : 0 ≤ n
  · obtain ⟨m, rfl⟩ := Int.eq_ofNat_of_zero_le h0
    rw [if_pos h0]
    have e2 : IntKind.u64.wrap (2 * (m : Int)) = ((2 * m : Nat) : Int) := by
      have : (2 * (m : Int)) = ((2 * m : Nat) : Int) := rfl
      rw [this, wrap_nat rfl]; simp only [IntKind.bits]; omega
    have e3 : ((m : Int).fdiv (2 ^ (min ((63 : Int)).toNat IntKind.i64.bits))) = 0 := by
      show ((m : Int).fdiv (2 ^ 63)) = 0
      rw [Int.fdiv_eq_ediv_of_nonneg _ (by decide)]; omega
    have hm : 2 * m < 2 ^ IntKind.u64.bits := by simp only [IntKind.bits]; omega
    have hx : 2 * m ^^^ 0 = 2 * m := Nat.xor_zero _
    have e4 : IntKind.u64.wrap 0 = ((0 : Nat) : Int) := rfl
    repeat' (first | (apply St_rd; exact rfl; (first | (apply Rd_shlV; exact rfl; exact rfl; decide; exact e1) | (apply Rd_shrV; exact rfl; exact rfl; decide; exact e3) | (apply Rd_convV tb; exact rfl; exact rfl; exact rfl; exact e2) | (apply Rd_convV tb; exact rfl; exact rfl; exact rfl; exact e4) | (apply Rd_natXor; exact rfl; exact rfl; exact rfl; exact hm; decide))) | (apply Sq_rd; exact rfl; (first | (apply Rd_shlV; exact rfl; exact rfl; decide; exact e1) | (apply Rd_shrV; exact rfl; exact rfl; decide; exact e3) | (apply Rd_convV tb; exact rfl; exact rfl; exact rfl; exact e2) | (apply Rd_convV tb; exact rfl; exact rfl; exact rfl; exact e4) | (apply Rd_natXor; exact rfl; exact rfl; exact rfl; exact hm; decide))) | (refine St_step ?_; (try with_reducible intro _)) | (refine St_step2 ?_ ?_ <;> (intro hb; (try simp only [beq_iff_eq, bne_iff_ne, decide_eq_true_eq, decide_eq_false_iff_not, Bool.not_eq_true', Bool.not_eq_false', beq_eq_false_iff_ne, bne_eq_false_iff_eq, ne_eq, Int.not_lt, Int.not_le, gt_iff_lt, ge_iff_le] at hb); (try (first | exact Bool.noConfusion hb | exact absurd trivial hb | (exfalso; omega))))) | fail)
    refine St_ret2 (.inl rfl) rfl rfl rfl ⟨?_, rfl⟩ (by exact Split.auto)
    rw [hx]; rfl
  · rw [if_neg h0]
    obtain ⟨m, hm⟩ := Int.eq_ofNat_of_zero_le (show 0 ≤ -n - 1 by omega)
    have e2 : IntKind.u64.wrap (2 * n) = ((18446744073709551615 - (2 * m + 1) : Nat) : Int) := by
      have hn : 2 * n = ((18446744073709551615 - (2 * m + 1) : Nat) : Int) - 18446744073709551616 := by omega
      show (2 * n) % 18446744073709551616 = _
      omega
    have e3 : (n.fdiv (2 ^ (min ((63 : Int)).toNat IntKind.i64.bits))) = -1 := by
      show (n.fdiv (2 ^ 63)) = -1
      rw [Int.fdiv_eq_ediv_of_nonneg _ (by decide)]; omega
    have e4 : IntKind.u64.wrap (-1) = ((18446744073709551615 : Nat) : Int) := rfl
    have hq : 18446744073709551615 - (2 * m + 1) < 2 ^ IntKind.u64.bits := by simp only [IntKind.bits]; omega
    have hx : (18446744073709551615 - (2 * m + 1)) ^^^ 18446744073709551615 = 2 * m + 1 := by
      rw [xor_all (by omega)]; omega
    have hmn : (-n - 1).toNat = m := by omega
    rw [hmn]
    repeat' (first | (apply St_rd; exact rfl; (first | (apply Rd_shlV; exact rfl; exact rfl; decide; exact e1) | (apply Rd_shrV; exact rfl; exact rfl; decide; exact e3) | (apply Rd_convV tb; exact rfl; exact rfl; exact rfl; exact e2) | (apply Rd_convV tb; exact rfl; exact rfl; exact rfl; exact e4) | (apply Rd_natXor; exact rfl; exact rfl; exact rfl; exact hq; decide))) | (apply Sq_rd; exact rfl; (first | (apply Rd_shlV; exact rfl; exact rfl; decide; exact e1) | (apply Rd_shrV; exact rfl; exact rfl; decide; exact e3) | (apply Rd_convV tb; exact rfl; exact rfl; exact rfl; exact e2) | (apply Rd_convV tb; exact rfl; exact rfl; exact rfl; exact e4) | (apply Rd_natXor; exact rfl; exact rfl; exact rfl; exact hq; decide))) | (refine St_step ?_; (try with_reducible intro _)) | (refine St_step2 ?_ ?_ <;> (intro hb; (try simp only [beq_iff_eq, bne_iff_ne, decide_eq_true_eq, decide_eq_false_iff_not, Bool.not_eq_true', Bool.not_eq_false', beq_eq_false_iff_ne, bne_eq_false_iff_eq, ne_eq, Int.not_lt, Int.not_le, gt_iff_lt, ge_iff_le] at hb); (try (first | exact Bool.noConfusion hb | exact absurd trivial hb | (exfalso; omega))))) | fail)
    refine St_ret2 (.inl rfl) rfl rfl rfl ⟨?_, rfl⟩ (by exact Split.auto)
    rw [hx]
theorem wSigned_sp (b : Nat) (bs : List UInt8) (bad : Bool) (n : Int) (hn : -2305843009213693952 ≤ n ∧ n < 2305843009213693952) (hb0 : bs.length ≤ 10000000000000) :
    Sp Tryz.prog 128 [.pointer (some ⟨b, 0, none⟩), .int .i64 n] [Wr b bs bad, GB] (fun r M => r = .tuple #[] ∧ M = [Wr b (bs ++ enc (zig n)) bad, GB]) := by
  refine Sp.intro (P := Tryz.prog) (Tryz.func128) rfl Tryz.ntmps128 (by decide) rfl ?_
  intro ρ F
  have hz := zig_lt hn
  have h := wput_sp b bs bad true (zig n) (by omega) hb0
  have e1 : encOr (zig n) = enc (zig n) := if_pos hz
  have e2 : (bad || !true || wbad (zig n)) = bad := by simp [wbad, hz]
  rw [e1, e2] at h
  repeat' (first | (apply St_call (hf := zig_sp n hn); exact rfl; exact rfl; exact Split.auto; rintro _ _ ⟨rfl, rfl⟩) | (apply St_call (hf := h); exact rfl; exact rfl; exact Split.auto; rintro _ _ ⟨rfl, rfl⟩) | (refine St_step ?_; (try with_reducible intro _)) | (refine St_step2 ?_ ?_ <;> (intro hb; (try simp only [beq_iff_eq, bne_iff_ne, decide_eq_true_eq, decide_eq_false_iff_not, Bool.not_eq_true', Bool.not_eq_false', beq_eq_false_iff_ne, bne_eq_false_iff_eq, ne_eq, Int.not_lt, Int.not_le, gt_iff_lt, ge_iff_le] at hb); (try (first | exact Bool.noConfusion hb | exact absurd trivial hb | (exfalso; omega))))) | fail)
  exact St_ret0 (.inr rfl) rfl ⟨rfl, rfl⟩ (by exact Split.auto)
theorem uwrite_sp (b : Nat) (bs : List UInt8) (bad : Bool) (u : Up) (hu : umay u = 0) (hb0 : bs.length ≤ 1000000) :
    Sp Tryz.prog 109 [.pointer (some ⟨b, 0, none⟩), .agg (uv u).toArray] [Wr b bs bad, GB] (fun r M => r = .tuple #[] ∧ M = [Wr b (bs ++ ubytes u) bad, GB]) := by
  refine Sp.intro (P := Tryz.prog) (Tryz.func109) rfl Tryz.ntmps109 (by decide) rfl ?_
  intro ρ F
  obtain ⟨k1, k2, k3, k4, k5, k6, k7⟩ := umay_kind hu
  obtain ⟨key, kind, n, s⟩ := u
  dsimp only at k1 k2 k3 k4 k5 k6 k7
  obtain ⟨k, rfl⟩ := Int.eq_ofNat_of_zero_le (show 0 ≤ kind by omega)
  have l8 := enc_len k
  have l9 := enc_len key.length
  have c1 := wNumber_sp b bs bad k (by omega) (by omega)
  have c2 := wText_sp b (bs ++ enc k) key bad (by simp; omega)
  have c3 := wSigned_sp b (bs ++ enc k ++ (enc key.length ++ key)) bad n ⟨k6, k7⟩ (by simp; omega)
  have c4 := wText_sp b (bs ++ enc k ++ (enc key.length ++ key)) s bad (by simp; omega)
  have e : bs ++ ubytes ⟨key, k, n, s⟩ = bs ++ enc k ++ (enc key.length ++ key) ++ utail ⟨key, k, n, s⟩ := by simp [ubytes]
  rw [e]
  unfold utail
  dsimp only
  by_cases h1 : (k : Int) = 1 ∨ (k : Int) = 3
  · rw [if_pos h1]
    repeat' (first | (apply St_call (hf := c1); exact rfl; exact rfl; exact Split.auto; rintro _ _ ⟨rfl, rfl⟩) | (apply St_call (hf := c2); exact rfl; exact rfl; exact Split.auto; rintro _ _ ⟨rfl, rfl⟩) | (apply St_call (hf := c3); exact rfl; exact rfl; exact Split.auto; rintro _ _ ⟨rfl, rfl⟩) | (apply St_call (hf := c4); exact rfl; exact rfl; exact Split.auto; rintro _ _ ⟨rfl, rfl⟩) | (refine St_step ?_; (try with_reducible intro _)) | (refine St_step2 ?_ ?_ <;> (intro hb; (try simp only [beq_iff_eq, bne_iff_ne, decide_eq_true_eq, decide_eq_false_iff_not, Bool.not_eq_true', Bool.not_eq_false', beq_eq_false_iff_ne, bne_eq_false_iff_eq, ne_eq, Int.not_lt, Int.not_le, gt_iff_lt, ge_iff_le] at hb); (try (first | exact Bool.noConfusion hb | exact absurd trivial hb | (exfalso; omega))))) | fail)
    all_goals first | (exfalso; omega) | exact St_ret0 (.inr rfl) rfl ⟨rfl, rfl⟩ (by exact Split.auto)
  rw [if_neg h1]
  by_cases h2 : (k : Int) = 2 ∨ (k : Int) = 4
  · rw [if_pos h2]
    repeat' (first | (apply St_call (hf := c1); exact rfl; exact rfl; exact Split.auto; rintro _ _ ⟨rfl, rfl⟩) | (apply St_call (hf := c2); exact rfl; exact rfl; exact Split.auto; rintro _ _ ⟨rfl, rfl⟩) | (apply St_call (hf := c3); exact rfl; exact rfl; exact Split.auto; rintro _ _ ⟨rfl, rfl⟩) | (apply St_call (hf := c4); exact rfl; exact rfl; exact Split.auto; rintro _ _ ⟨rfl, rfl⟩) | (refine St_step ?_; (try with_reducible intro _)) | (refine St_step2 ?_ ?_ <;> (intro hb; (try simp only [beq_iff_eq, bne_iff_ne, decide_eq_true_eq, decide_eq_false_iff_not, Bool.not_eq_true', Bool.not_eq_false', beq_eq_false_iff_ne, bne_eq_false_iff_eq, ne_eq, Int.not_lt, Int.not_le, gt_iff_lt, ge_iff_le] at hb); (try (first | exact Bool.noConfusion hb | exact absurd trivial hb | (exfalso; omega))))) | fail)
    all_goals first | (exfalso; omega) | exact St_ret0 (.inr rfl) rfl ⟨rfl, rfl⟩ (by exact Split.auto)
  · rw [if_neg h2, List.append_nil]
    repeat' (first | (apply St_call (hf := c1); exact rfl; exact rfl; exact Split.auto; rintro _ _ ⟨rfl, rfl⟩) | (apply St_call (hf := c2); exact rfl; exact rfl; exact Split.auto; rintro _ _ ⟨rfl, rfl⟩) | (apply St_call (hf := c3); exact rfl; exact rfl; exact Split.auto; rintro _ _ ⟨rfl, rfl⟩) | (apply St_call (hf := c4); exact rfl; exact rfl; exact Split.auto; rintro _ _ ⟨rfl, rfl⟩) | (refine St_step ?_; (try with_reducible intro _)) | (refine St_step2 ?_ ?_ <;> (intro hb; (try simp only [beq_iff_eq, bne_iff_ne, decide_eq_true_eq, decide_eq_false_iff_not, Bool.not_eq_true', Bool.not_eq_false', beq_eq_false_iff_ne, bne_eq_false_iff_eq, ne_eq, Int.not_lt, Int.not_le, gt_iff_lt, ge_iff_le] at hb); (try (first | exact Bool.noConfusion hb | exact absurd trivial hb | (exfalso; omega))))) | fail)
    all_goals first | (exfalso; omega) | exact St_ret0 (.inr rfl) rfl ⟨rfl, rfl⟩ (by exact Split.auto)
theorem rin_sp (n lo hi : Int) : Sp Tryz.prog 78 [.int .i64 n, .int .i64 lo, .int .i64 hi] [] (fun v M => v = .bool (decide (lo ≤ n ∧ n ≤ hi)) ∧ M = []) := by
  refine Sp.intro (P := Tryz.prog) (Tryz.func78) rfl Tryz.ntmps78 (by decide) rfl ?_
  intro ρ F
  repeat' (first | (refine St_step ?_; (try with_reducible intro _)) | (refine St_step2 ?_ ?_ <;> (intro hb; (try simp only [beq_iff_eq, bne_iff_ne, decide_eq_true_eq, decide_eq_false_iff_not, Bool.not_eq_true', Bool.not_eq_false', beq_eq_false_iff_ne, bne_eq_false_iff_eq, ne_eq, Int.not_lt, Int.not_le, gt_iff_lt, ge_iff_le] at hb); (try (first | exact Bool.noConfusion hb | exact absurd trivial hb | (exfalso; omega))))) | fail)
  all_goals (refine St_ret1 (.inl rfl) rfl rfl ⟨?_, rfl⟩ (by exact Split.auto))
  all_goals first
    | (congr 1; rw [decide_eq_decide]; omega)
    | (congr 1; rw [eq_comm, decide_eq_false_iff_not]; omega)
    | (congr 1; rw [eq_comm, decide_eq_true_eq]; omega)
/-- A list of updates, as a slice that is read. -/
abbrev UL (r : Bool) (v : Value) (l : List Up) : HP := RS r v l.length (l.flatMap uv)
theorem rMay_sp (q : Bool) (r : Ro) (v : Value) : Sp Tryz.prog 79 [.agg (rv r v).toArray] [UL q v r.ups] (fun w M => w = nat .i64 (rmay r) ∧ M = [UL q v r.ups]) := by
  refine Sp.intro (P := Tryz.prog) (Tryz.func79) rfl Tryz.ntmps79 (by decide) rfl ?_
  intro ρ F
  refine St_rsIs (by exact Has.auto) ?_
  rintro A c rfl
  unfold rmay
  by_cases h1 : (r.origin < 1 ∨ 64 < r.origin) ∨ (r.number < 1 ∨ 1099511627776 < r.number) ∨ (r.ups.length < 1 ∨ 8 < r.ups.length)
  · rw [if_pos h1]
    repeat' (first | (apply St_call (hf := rin_sp _ _ _); exact rfl; exact rfl; exact Split.auto; rintro _ _ ⟨rfl, rfl⟩) | (refine St_step ?_; (try with_reducible intro _)) | (refine St_step2 ?_ ?_ <;> (intro hb; (try simp only [beq_iff_eq, bne_iff_ne, decide_eq_true_eq, decide_eq_false_iff_not, Bool.not_eq_true', Bool.not_eq_false', beq_eq_false_iff_ne, bne_eq_false_iff_eq, ne_eq, Int.not_lt, Int.not_le, gt_iff_lt, ge_iff_le] at hb); (try (first | exact Bool.noConfusion hb | exact absurd trivial hb | (exfalso; omega))))) | fail)
    all_goals (first | contradiction | (exfalso; omega) | (exact St_ret1 (.inl rfl) rfl rfl ⟨rfl, rfl⟩ (by exact Split.auto)) | (exact St_ret2 (.inl rfl) rfl rfl rfl ⟨rfl, rfl⟩ (by exact Split.auto)) | (exact St_ret3 (.inl rfl) rfl rfl rfl rfl ⟨rfl, rfl⟩ (by exact Split.auto)))
  · rw [if_neg h1]
    repeat' (first | (apply St_call (hf := rin_sp _ _ _); exact rfl; exact rfl; exact Split.auto; rintro _ _ ⟨rfl, rfl⟩) | (refine St_loop (fun (i : Nat) => i ≤ r.ups.length ∧ ∀ j, j < i → ∀ x, r.ups[j]? = some x → umay x = 0) (fun i => [(24, .slice A r.ups.length c), (25, nat .i64 r.ups.length), (26, nat .i64 i)]) (fun i => [UL q (.slice A r.ups.length c) r.ups, big F]) (fun i => r.ups.length - i) 0 ⟨Nat.zero_le _, fun j hj => by omega⟩ ⟨rfl, rfl, rfl, trivial⟩ (by exact Split.auto) ?_) | (refine St_step ?_; (try with_reducible intro _)) | (refine St_step2 ?_ ?_ <;> (intro hb; (try simp only [beq_iff_eq, bne_iff_ne, decide_eq_true_eq, decide_eq_false_iff_not, Bool.not_eq_true', Bool.not_eq_false', beq_eq_false_iff_ne, bne_eq_false_iff_eq, ne_eq, Int.not_lt, Int.not_le, gt_iff_lt, ge_iff_le] at hb); (try (first | exact Bool.noConfusion hb | exact absurd trivial hb | (exfalso; omega))))) | fail)
    rintro i ⟨hi, hall⟩
    by_cases hil : i < r.ups.length
    · obtain ⟨u, hu⟩ : ∃ u, r.ups[i]? = some u := ⟨_, List.getElem?_eq_getElem hil⟩
      refine St_rsOpen (by exact Has.auto) (by omega) ?_
      rintro b T cap pre rest hv
      injection hv with hv1 hv2 hv3
      subst hv1 hv3
      have hld := flat_at uv_len r.ups i u pre rest hu
      have hroom := flat_room uv_len r.ups i pre rest hil
      have hfe := firstErr_at (fun j hj x hx => hall j hj x hx) hu
      have hm := umay_sp u
      generalize hq : umay u = e at *
      have Hall := Lib.hid hall
      clear hall
      repeat' (first | (apply St_call (hf := hm); exact rfl; exact rfl; exact Split.auto; rintro _ _ ⟨rfl, rfl⟩) | (apply St_rd; exact rfl; (first | (apply Rd_loadA tb; exact rfl; exact rfl; exact rfl; exact Has.auto; exact hroom; exact hld))) | (apply Sq_rd; exact rfl; (first | (apply Rd_loadA tb; exact rfl; exact rfl; exact rfl; exact Has.auto; exact hroom; exact hld))) | (refine St_step ?_; (try with_reducible intro _)) | (refine St_step2 ?_ ?_ <;> (intro hb; (try simp only [beq_iff_eq, bne_iff_ne, decide_eq_true_eq, decide_eq_false_iff_not, Bool.not_eq_true', Bool.not_eq_false', beq_eq_false_iff_ne, bne_eq_false_iff_eq, ne_eq, Int.not_lt, Int.not_le, gt_iff_lt, ge_iff_le] at hb); (try (first | exact Bool.noConfusion hb | exact absurd trivial hb | (exfalso; omega))))) | fail)
      · refine St_rsMk (n := r.ups.length) (cap := c) (cs := r.ups.flatMap uv) (by exact Has.auto) ?_
        rw [hfe (by omega)]
        exact St_ret1 (.inl rfl) rfl rfl ⟨rfl, rfl⟩ (by exact Split.auto)
      · refine St_rsMk (n := r.ups.length) (cap := c) (cs := r.ups.flatMap uv) (by exact Has.auto) ?_
        refine St_at (i + 1) ⟨⟨by omega, fun j hj x hx => ?_⟩, by omega⟩ ⟨rfl, rfl, rfl, trivial⟩ (by exact Split.auto)
        by_cases hji : j = i
        · subst hji
          rw [hu] at hx
          cases hx
          rw [hq]; omega
        · exact Hall.out j (by omega) x hx
    · have hii : i = r.ups.length := by omega
      have hz := firstErr_all (l := r.ups) (fun j x hx => hall j (by
        rcases Nat.lt_or_ge j r.ups.length with h | h
        · omega
        · rw [List.getElem?_eq_none h] at hx; cases hx) x hx)
      rw [hz]
      clear hall
      repeat' (first | (refine St_step ?_; (try with_reducible intro _)) | (refine St_step2 ?_ ?_ <;> (intro hb; (try simp only [beq_iff_eq, bne_iff_ne, decide_eq_true_eq, decide_eq_false_iff_not, Bool.not_eq_true', Bool.not_eq_false', beq_eq_false_iff_ne, bne_eq_false_iff_eq, ne_eq, Int.not_lt, Int.not_le, gt_iff_lt, ge_iff_le] at hb); (try (first | exact Bool.noConfusion hb | exact absurd trivial hb | (exfalso; omega))))) | fail)
      all_goals (first | contradiction | (exfalso; omega) | (exact St_ret1 (.inl rfl) rfl rfl ⟨rfl, rfl⟩ (by exact Split.auto)) | (exact St_ret2 (.inl rfl) rfl rfl rfl ⟨rfl, rfl⟩ (by exact Split.auto)) | (exact St_ret3 (.inl rfl) rfl rfl rfl rfl ⟨rfl, rfl⟩ (by exact Split.auto)))
theorem flat_take {l : List Up} {i : Nat} {u : Up} (h : l[i]? = some u) : (l.take (i + 1)).flatMap ubytes = (l.take i).flatMap ubytes ++ ubytes u := by
  rw [List.take_add_one, h]
  simp
theorem flat_bound : ∀ {l : List Up}, (∀ u ∈ l, umay u = 0) → (l.flatMap ubytes).length ≤ 100 * l.length
  | [], _ => by simp
  | u :: l, h => by
    have h1 := ubytes_len u (h u (by simp))
    have h2 := flat_bound (l := l) fun x hx => h x (by simp [hx])
    rw [List.flatMap_cons, List.length_append, List.length_cons]
    omega
theorem rbytes_len {r : Ro} (h : rmay r = 0) : (rbytes r).length ≤ 1000 := by
  obtain ⟨_, _, h3, h4⟩ := rmay_zero h
  have := flat_bound h4
  have l1 := enc_len r.origin.toNat; have l2 := enc_len r.number.toNat; have l3 := enc_len r.ups.length
  simp only [rbytes, List.length_append]
  omega
theorem rPut_sp (q : Bool) (r : Ro) (v : Value) : Sp Tryz.prog 77 [.agg (rv r v).toArray] [UL q v r.ups, GB] (fun w M => w = .tuple [str (rput r).1, nat .i64 (rput r).2].toArray ∧ M = [UL q v r.ups, GB]) := by
  refine Sp.intro (P := Tryz.prog) (Tryz.func77) rfl Tryz.ntmps77 (by decide) rfl ?_
  intro ρ F
  have hmay := rMay_sp q r v
  unfold rput
  by_cases h0 : rmay r = 0
  · rw [if_neg (fun h => h h0)]
    rw [h0] at hmay
    obtain ⟨⟨o1, o2⟩, ⟨n1, n2⟩, ⟨u1, u2⟩, hall⟩ := rmay_zero h0
    obtain ⟨o, n, l⟩ := r
    dsimp only at *
    obtain ⟨o, rfl⟩ := Int.eq_ofNat_of_zero_le (show 0 ≤ o by omega)
    obtain ⟨n, rfl⟩ := Int.eq_ofNat_of_zero_le (show 0 ≤ n by omega)
    refine St_rsIs (by exact Has.auto) ?_
    rintro A c rfl
    have l1 := enc_len o; have l2 := enc_len n; have l3 := enc_len l.length
    have w1 := fun k => wNumber_sp k [] false o (by omega) (by simp)
    have w2 := fun k => wNumber_sp k ([] ++ enc o) false n (by omega) (by simp; omega)
    have w3 := fun k => wNumber_sp k ([] ++ enc o ++ enc n) false l.length (by omega) (by simp; omega)
    have eb : rbytes ⟨o, n, l⟩ = [] ++ enc o ++ enc n ++ enc l.length ++ (l.take l.length).flatMap ubytes := by simp [rbytes]
    have hhead : ([] ++ enc o ++ enc n ++ enc l.length).length ≤ 24 := by simp; omega
    have Hall := Lib.hid hall
    clear hall
    rw [eb]
    generalize [] ++ enc o ++ enc n ++ enc l.length = hd at *
    repeat' (first | (apply St_call (hf := hmay); exact rfl; exact rfl; exact Split.auto; rintro _ _ ⟨rfl, rfl⟩) | (refine St_step ?_; (try with_reducible intro _)) | (refine St_step2 ?_ ?_ <;> (intro hb; (try simp only [beq_iff_eq, bne_iff_ne, decide_eq_true_eq, decide_eq_false_iff_not, Bool.not_eq_true', Bool.not_eq_false', beq_eq_false_iff_ne, bne_eq_false_iff_eq, ne_eq, Int.not_lt, Int.not_le, gt_iff_lt, ge_iff_le] at hb); (try (first | exact Bool.noConfusion hb | exact absurd trivial hb | (exfalso; omega))))) | fail)
    all_goals refine St_slNil (E := 5) (sz := 1) ?_
    all_goals refine St_wrMk (bs := []) (.inl rfl) (by exact Split.auto) ?_
    all_goals repeat' (first | (apply St_call (hf := w1 _); exact rfl; exact rfl; exact Split.auto; rintro _ _ ⟨rfl, rfl⟩) | (apply St_call (hf := w2 _); exact rfl; exact rfl; exact Split.auto; rintro _ _ ⟨rfl, rfl⟩) | (apply St_call (hf := w3 _); exact rfl; exact rfl; exact Split.auto; rintro _ _ ⟨rfl, rfl⟩) | (refine St_loop (fun (i : Nat) => i ≤ l.length) (fun i => [(5, .pointer (some ⟨_, 0, none⟩)), (24, .slice A l.length c), (25, nat .i64 l.length), (26, nat .i64 i)]) (fun i => [Wr _ (hd ++ (l.take i).flatMap ubytes) false, UL q (.slice A l.length c) l, GB, big F]) (fun i => l.length - i) 0 (Nat.zero_le _) ⟨rfl, rfl, rfl, rfl, trivial⟩ (by rw [List.take_zero, List.flatMap_nil, List.append_nil]; exact Split.auto) ?_) | (refine St_step ?_; (try with_reducible intro _)) | (refine St_step2 ?_ ?_ <;> (intro hb; (try simp only [beq_iff_eq, bne_iff_ne, decide_eq_true_eq, decide_eq_false_iff_not, Bool.not_eq_true', Bool.not_eq_false', beq_eq_false_iff_ne, bne_eq_false_iff_eq, ne_eq, Int.not_lt, Int.not_le, gt_iff_lt, ge_iff_le] at hb); (try (first | exact Bool.noConfusion hb | exact absurd trivial hb | (exfalso; omega))))) | fail)
    intro i hi
    by_cases hil : i < l.length
    · obtain ⟨u, hu⟩ : ∃ u, l[i]? = some u := ⟨_, List.getElem?_eq_getElem hil⟩
      refine St_rsOpen (by exact Has.auto) (by omega) ?_
      rintro b T cap pre rest hv
      injection hv with hv1 hv2 hv3
      subst hv1 hv3
      have hld := flat_at uv_len l i u pre rest hu
      have hroom := flat_room uv_len l i pre rest hil
      have hbl : ((l.take i).flatMap ubytes).length ≤ 100 * (l.take i).length := flat_bound fun x hx => Hall.out x (List.mem_of_mem_take hx)
      have hti : (l.take i).length ≤ 8 := by simp; omega
      have hw := fun k => uwrite_sp k (hd ++ (l.take i).flatMap ubytes) false u (Hall.out u (List.mem_of_getElem? hu)) (by simp only [List.length_append]; omega)
      rw [List.append_assoc, ← flat_take hu] at hw
      repeat' (first | (apply St_call (hf := hw _); exact rfl; exact rfl; exact Split.auto; rintro _ _ ⟨rfl, rfl⟩) | (apply St_rd; exact rfl; (first | (apply Rd_loadA tb; exact rfl; exact rfl; exact rfl; exact Has.auto; exact hroom; exact hld))) | (apply Sq_rd; exact rfl; (first | (apply Rd_loadA tb; exact rfl; exact rfl; exact rfl; exact Has.auto; exact hroom; exact hld))) | (refine St_step ?_; (try with_reducible intro _)) | (refine St_step2 ?_ ?_ <;> (intro hb; (try simp only [beq_iff_eq, bne_iff_ne, decide_eq_true_eq, decide_eq_false_iff_not, Bool.not_eq_true', Bool.not_eq_false', beq_eq_false_iff_ne, bne_eq_false_iff_eq, ne_eq, Int.not_lt, Int.not_le, gt_iff_lt, ge_iff_le] at hb); (try (first | exact Bool.noConfusion hb | exact absurd trivial hb | (exfalso; omega))))) | fail)
      refine St_rsMk (n := l.length) (cap := c) (cs := l.flatMap uv) (by exact Has.auto) ?_
      exact St_at (i + 1) ⟨by omega, by omega⟩ ⟨rfl, rfl, rfl, rfl, trivial⟩ (by exact Split.auto)
    · have hii : i = l.length := by omega
      subst hii
      have hbl : ((l.take l.length).flatMap ubytes).length ≤ 100 * (l.take l.length).length := flat_bound fun x hx => Hall.out x (List.mem_of_mem_take hx)
      have hti : (l.take l.length).length ≤ 8 := by simp; omega
      have hy := fun k => wBytes_sp k (hd ++ (l.take l.length).flatMap ubytes) (by simp only [List.length_append]; omega)
      repeat' (first | (apply St_call (hf := hy _); exact rfl; exact rfl; exact Split.auto; rintro _ _ ⟨rfl, rfl⟩) | (refine St_step ?_; (try with_reducible intro _)) | (refine St_step2 ?_ ?_ <;> (intro hb; (try simp only [beq_iff_eq, bne_iff_ne, decide_eq_true_eq, decide_eq_false_iff_not, Bool.not_eq_true', Bool.not_eq_false', beq_eq_false_iff_ne, bne_eq_false_iff_eq, ne_eq, Int.not_lt, Int.not_le, gt_iff_lt, ge_iff_le] at hb); (try (first | exact Bool.noConfusion hb | exact absurd trivial hb | (exfalso; omega))))) | fail)
      exact St_ret2 (.inl rfl) rfl rfl rfl ⟨rfl, rfl⟩ (by exact Split.auto)
  · rw [if_pos h0]
    repeat' (first | (apply St_call (hf := hmay); exact rfl; exact rfl; exact Split.auto; rintro _ _ ⟨rfl, rfl⟩) | (refine St_step ?_; (try with_reducible intro _)) | (refine St_step2 ?_ ?_ <;> (intro hb; (try simp only [beq_iff_eq, bne_iff_ne, decide_eq_true_eq, decide_eq_false_iff_not, Bool.not_eq_true', Bool.not_eq_false', beq_eq_false_iff_ne, bne_eq_false_iff_eq, ne_eq, Int.not_lt, Int.not_le, gt_iff_lt, ge_iff_le] at hb); (try (first | exact Bool.noConfusion hb | exact absurd trivial hb | (exfalso; omega))))) | fail)
    all_goals (first | contradiction | (exfalso; omega) | (exact St_ret1 (.inl rfl) rfl rfl ⟨rfl, rfl⟩ (by exact Split.auto)) | (exact St_ret2 (.inl rfl) rfl rfl rfl ⟨rfl, rfl⟩ (by exact Split.auto)) | (exact St_ret3 (.inl rfl) rfl rfl rfl rfl ⟨rfl, rfl⟩ (by exact Split.auto)))
end Go.Proofs.YtfjnacakpeommaaGreatDoor
/- Contracts: round.Fits. -/
namespace Go.Proofs.YtfjnacakpeommaaGreatDoor
open Go SL Pl
set_option autoImplicit false
set_option maxRecDepth 100000
set_option linter.unusedSimpArgs false
set_option linter.unusedVariables false
attribute [local irreducible] St Sq Exec QExec wpList wpQuiet Code.wp Exit.then Exit.inBlock bodyPost At Rd wpOp Wa QK GB
theorem rFits_sp (q : Bool) (l : List Up) (v : Value) (mtu : Int) : Sp Tryz.prog 39 [v, .int .i64 mtu] [UL q v l, GB] (fun w M => w = .bool (rfits l mtu) ∧ M = [UL q v l, GB]) := by
  refine Sp.intro (P := Tryz.prog) (Tryz.func39) rfl Tryz.ntmps39 (by decide) rfl ?_
  intro ρ F
  refine St_rsIs (by exact Has.auto) ?_
  rintro A c rfl
  have hp := rPut_sp q ⟨64, 1099511627776, l⟩ (.slice A l.length c)
  unfold rfits
  unfold rput at hp
  by_cases h0 : rmay ⟨64, 1099511627776, l⟩ = 0
  · have hlen := rbytes_len h0
    rw [if_neg (fun h => h h0)] at hp
    dsimp only at hp
    generalize rbytes ⟨64, 1099511627776, l⟩ = b at *
    generalize rmay ⟨64, 1099511627776, l⟩ = e at *
    subst h0
    repeat' (first | (apply St_call (hf := hp); exact rfl; exact rfl; exact Split.auto; rintro _ _ ⟨rfl, rfl⟩) | (apply St_call (hf := rin_sp _ _ _); exact rfl; exact rfl; exact Split.auto; rintro _ _ ⟨rfl, rfl⟩) | (refine St_step ?_; (try with_reducible intro _)) | (refine St_step2 ?_ ?_ <;> (intro hb; (try simp only [beq_iff_eq, bne_iff_ne, decide_eq_true_eq, decide_eq_false_iff_not, Bool.not_eq_true', Bool.not_eq_false', beq_eq_false_iff_ne, bne_eq_false_iff_eq, ne_eq, Int.not_lt, Int.not_le, gt_iff_lt, ge_iff_le] at hb); (try (first | exact Bool.noConfusion hb | exact absurd trivial hb | (exfalso; omega))))) | fail)
    all_goals (refine St_ret1 (.inl rfl) rfl rfl ⟨?_, rfl⟩ (by exact Split.auto))
    all_goals first
      | (congr 1; rw [decide_eq_decide]; omega)
      | (congr 1; rw [eq_comm, decide_eq_false_iff_not]; omega)
      | (congr 1; rw [eq_comm, decide_eq_true_eq]; omega)
  · rw [if_pos h0] at hp
    dsimp only at hp
    generalize rbytes ⟨64, 1099511627776, l⟩ = b at *
    generalize rmay ⟨64, 1099511627776, l⟩ = e at *
    repeat' (first | (apply St_call (hf := hp); exact rfl; exact rfl; exact Split.auto; rintro _ _ ⟨rfl, rfl⟩) | (apply St_call (hf := rin_sp _ _ _); exact rfl; exact rfl; exact Split.auto; rintro _ _ ⟨rfl, rfl⟩) | (refine St_step ?_; (try with_reducible intro _)) | (refine St_step2 ?_ ?_ <;> (intro hb; (try simp only [beq_iff_eq, bne_iff_ne, decide_eq_true_eq, decide_eq_false_iff_not, Bool.not_eq_true', Bool.not_eq_false', beq_eq_false_iff_ne, bne_eq_false_iff_eq, ne_eq, Int.not_lt, Int.not_le, gt_iff_lt, ge_iff_le] at hb); (try (first | exact Bool.noConfusion hb | exact absurd trivial hb | (exfalso; omega))))) | fail)
    all_goals (refine St_ret1 (.inl rfl) rfl rfl ⟨?_, rfl⟩ (by exact Split.auto))
    all_goals first
      | (congr 1; rw [decide_eq_decide]; omega)
      | (congr 1; rw [eq_comm, decide_eq_false_iff_not]; omega)
      | (congr 1; rw [eq_comm, decide_eq_true_eq]; omega)
end Go.Proofs.YtfjnacakpeommaaGreatDoor
/- Plain: updates and rounds as they are read. -/
namespace Go.Proofs.YtfjnacakpeommaaGreatDoor.Pl
set_option autoImplicit false
set_option linter.unusedVariables false

def zag (n : Nat) : Int := if 4611686018427387904 ≤ n then 0 else if n % 2 = 1 then -((n / 2 : Nat) : Int) - 1 else ((n / 2 : Nat) : Int)
def rfailR (r : Rs) (k : Nat) : Rs := ⟨r.at_, rfail r.e k⟩
/-- A number from 1 on. -/
def rsome (s : List UInt8) (lim : Nat) (r : Rs) : Nat × Rs := ((rnum s lim r).1, if (rnum s lim r).1 = 0 then rfailR (rnum s lim r).2 1 else (rnum s lim r).2)
/-- What stands behind an update's key. -/
def utl (s : List UInt8) (k : Nat) (r : Rs) : Int × List UInt8 × Rs :=
  if k = 1 ∨ k = 3 then (zag (rraw s r).1, [], (rraw s r).2) else if k = 2 ∨ k = 4 then (0, (rtext s 32 r).1, (rtext s 32 r).2) else (0, [], r)
def uread1 (s : List UInt8) (r : Rs) : Nat × Rs := ((rnum s 5 r).1, if (rnum s 5 r).1 = 0 then rfailR (rnum s 5 r).2 5 else (rnum s 5 r).2)
def uread2 (s : List UInt8) (r : Rs) : List UInt8 × Rs := ((rtext s 16 r).1, if (rtext s 16 r).1 = [] then rfailR (rtext s 16 r).2 1 else (rtext s 16 r).2)
def uread (s : List UInt8) (r : Rs) : Up × Rs :=
  let q1 := uread1 s r
  let q2 := uread2 s q1.2
  let q3 := utl s q1.1 q2.2
  if q3.2.2.e ≠ 0 then (up0, q3.2.2) else (⟨q2.1, q1.1, q3.1, q3.2.1⟩, q3.2.2)
def ureads (s : List UInt8) : Nat → Rs → List Up × Rs
  | 0, r => ([], r)
  | n + 1, r => ((ureads s n r).1 ++ [(uread s (ureads s n r).2).1], (uread s (ureads s n r).2).2)
def rget (s : List UInt8) : Ro × Nat :=
  let q1 := rsome s 64 ⟨0, 0⟩
  let q2 := rsome s 1099511627776 q1.2
  let q3 := rsome s 8 q2.2
  let q4 := ureads s q3.1 q3.2
  let e := rend s q4.2
  if e ≠ 0 then (ro0, e) else (⟨q1.1, q2.1, q4.1⟩, 0)
theorem rsome_le {s : List UInt8} {lim : Nat} {r : Rs} (h : r.at_ ≤ s.length) : (rsome s lim r).2.at_ ≤ s.length := by
  have := rnum_le (lim := lim) h
  unfold rsome
  dsimp only
  split <;> exact this
theorem rsome_lim {s : List UInt8} {lim : Nat} {r : Rs} : (rsome s lim r).1 ≤ lim := rnum_lim
theorem utl_le {s : List UInt8} {k : Nat} {r : Rs} (h : r.at_ ≤ s.length) : (utl s k r).2.2.at_ ≤ s.length := by
  unfold utl
  split
  · exact rraw_le h
  · split
    · exact rtext_le h
    · exact h
theorem uread1_le {s : List UInt8} {r : Rs} (h : r.at_ ≤ s.length) : (uread1 s r).2.at_ ≤ s.length := by
  have := rnum_le (lim := 5) h
  unfold uread1
  dsimp only
  split <;> exact this
theorem uread2_le {s : List UInt8} {r : Rs} (h : r.at_ ≤ s.length) : (uread2 s r).2.at_ ≤ s.length := by
  have := rtext_le (lim := 16) h
  unfold uread2
  dsimp only
  split <;> exact this
theorem uread_at (s : List UInt8) (r : Rs) : (uread s r).2 = (utl s (uread1 s r).1 (uread2 s (uread1 s r).2).2).2.2 := by
  unfold uread
  dsimp only
  split <;> rfl
theorem uread_le {s : List UInt8} {r : Rs} (h : r.at_ ≤ s.length) : (uread s r).2.at_ ≤ s.length := by
  rw [uread_at]
  exact utl_le (uread2_le (uread1_le h))
theorem ureads_le {s : List UInt8} : ∀ (n : Nat) {r : Rs}, r.at_ ≤ s.length → (ureads s n r).2.at_ ≤ s.length
  | 0, _, h => h
  | n + 1, r, h => uread_le (ureads_le n h)
theorem ureads_length {s : List UInt8} : ∀ (n : Nat) {r : Rs}, (ureads s n r).1.length = n
  | 0, _ => rfl
  | n + 1, r => by rw [ureads, List.length_append, ureads_length n]; rfl
/-! An error stays. -/
theorem rfailR_stop {r : Rs} {k : Nat} (h : r.e ≠ 0) : rfailR r k = r := by
  unfold rfailR rfail
  rw [if_neg h]
theorem rraw_stop {s : List UInt8} {r : Rs} (h : r.e ≠ 0) : rraw s r = (0, r) := if_pos h
theorem rsome_stop {s : List UInt8} {lim : Nat} {r : Rs} (h : r.e ≠ 0) : rsome s lim r = (0, r) := by
  unfold rsome
  rw [rnum_stop h]
  simp only [if_true, rfailR_stop h]
theorem uread1_stop {s : List UInt8} {r : Rs} (h : r.e ≠ 0) : uread1 s r = (0, r) := by
  unfold uread1
  rw [rnum_stop h]
  simp only [if_true, rfailR_stop h]
theorem uread2_stop {s : List UInt8} {r : Rs} (h : r.e ≠ 0) : uread2 s r = ([], r) := by
  unfold uread2
  rw [rtext_stop h]
  simp only [if_true, rfailR_stop h]
theorem utl_stop {s : List UInt8} {k : Nat} {r : Rs} (h : r.e ≠ 0) : utl s k r = (0, [], r) := by
  unfold utl
  rw [rraw_stop h, rtext_stop h]
  have : zag 0 = 0 := rfl
  simp only [this]
  (repeat' split) <;> rfl
theorem uread_stop {s : List UInt8} {r : Rs} (h : r.e ≠ 0) : uread s r = (up0, r) := by
  unfold uread
  rw [uread1_stop h]
  dsimp only
  rw [uread2_stop h]
  dsimp only
  rw [utl_stop h]
  dsimp only
  rw [if_pos h]
theorem ureads_stop {s : List UInt8} {n : Nat} {r : Rs} (h : r.e ≠ 0) : (ureads s n r).2 = r := by
  induction n with
  | zero => rfl
  | succ n ih => rw [ureads, ih, uread_stop h]
theorem ureads_add (s : List UInt8) (n : Nat) : ∀ (m : Nat) (r : Rs), (ureads s (n + m) r) = ((ureads s n r).1 ++ (ureads s m (ureads s n r).2).1, (ureads s m (ureads s n r).2).2)
  | 0, r => by simp [ureads]
  | m + 1, r => by
    rw [← Nat.add_assoc, ureads, ureads_add s n m r]
    simp [ureads]
theorem rget_stop {s : List UInt8} {e : Nat} (he : e ≠ 0) (h : (rend s (ureads s (rsome s 8 (rsome s 1099511627776 (rsome s 64 ⟨0, 0⟩).2).2).1 (rsome s 8 (rsome s 1099511627776 (rsome s 64 ⟨0, 0⟩).2).2).2).2) = e) : rget s = (ro0, e) := by
  unfold rget
  dsimp only
  rw [h, if_pos he]
end Go.Proofs.YtfjnacakpeommaaGreatDoor.Pl
/- Contracts: update.Read, round.Get, round.Copy. -/
namespace Go.Proofs.YtfjnacakpeommaaGreatDoor
open Go SL Pl
set_option autoImplicit false
set_option maxRecDepth 100000
set_option linter.unusedSimpArgs false
set_option linter.unusedVariables false
attribute [local irreducible] St Sq Exec QExec wpList wpQuiet Code.wp Exit.then Exit.inBlock bodyPost At Rd wpOp Wa QK GB
theorem zag_sp (n : Nat) (hn : n < 18446744073709551616) : Sp Tryz.prog 126 [nat .u64 n] [] (fun v M => v = .int .i64 (zag n) ∧ M = []) := by
  refine Sp.intro (P := Tryz.prog) (Tryz.func126) rfl Tryz.ntmps126 (by decide) rfl ?_
  intro ρ F
  unfold zag
  by_cases h : 4611686018427387904 ≤ n
  · rw [if_pos h]
    repeat' (first | (refine St_step ?_; (try with_reducible intro _)) | (refine St_step2 ?_ ?_ <;> (intro hb; (try simp only [beq_iff_eq, bne_iff_ne, decide_eq_true_eq, decide_eq_false_iff_not, Bool.not_eq_true', Bool.not_eq_false', beq_eq_false_iff_ne, bne_eq_false_iff_eq, ne_eq, Int.not_lt, Int.not_le, gt_iff_lt, ge_iff_le] at hb); (try (first | exact Bool.noConfusion hb | exact absurd trivial hb | (exfalso; omega))))) | fail)
    all_goals (first | contradiction | (exfalso; omega) | (exact St_ret1 (.inl rfl) rfl rfl ⟨rfl, rfl⟩ (by exact Split.auto)) | (exact St_ret2 (.inl rfl) rfl rfl rfl ⟨rfl, rfl⟩ (by exact Split.auto)) | (exact St_ret3 (.inl rfl) rfl rfl rfl rfl ⟨rfl, rfl⟩ (by exact Split.auto)))
  · rw [if_neg h]
    have hand : n &&& 1 = n % 2 := Nat.and_two_pow_sub_one_eq_mod _ 1
    have e1 : IntKind.i64.wrap ((n / 2 ^ ((1 : Int)).toNat : Nat) : Int) = ((n / 2 : Nat) : Int) := by
      show IntKind.i64.wrap ((n / 2 : Nat) : Int) = _
      exact IntWalk.i64_in _ (by omega)
    have e2 : IntKind.i64.wrap ((n &&& 1 : Nat) : Int) = ((n % 2 : Nat) : Int) := by
      rw [hand]; exact IntWalk.i64_in _ (by omega)
    by_cases h1 : n % 2 = 1
    · rw [if_pos h1]
      rw [h1] at e2
      obtain ⟨m, hm⟩ : ∃ m, n / 2 = m := ⟨_, rfl⟩
      have hml : m < 2305843009213693952 := by omega
      have e3 : IntKind.i64.wrap (0 - ((1 : Nat) : Int)) = -1 := rfl
      have e4 : intOp .xor .i64 ((n / 2 : Nat) : Int) (-1) = some (.int .i64 (-((n / 2 : Nat) : Int) - 1)) := by
        rw [hm]
        simp only [intOp]
        congr 2
        have a1 : (BitVec.ofInt IntKind.i64.bits (m : Int)) = BitVec.ofNat 64 m := by simp [IntKind.bits]
        have a2 : (BitVec.ofInt IntKind.i64.bits (-1)) = BitVec.allOnes 64 := rfl
        rw [a1, a2]
        have a4 : ((BitVec.ofNat 64 m ^^^ BitVec.allOnes 64 : BitVec 64)).toNat = 2 ^ 64 - 1 - m := by
          rw [BitVec.xor_allOnes, BitVec.toNat_not, BitVec.toNat_ofNat, Nat.mod_eq_of_lt (by omega)]
        show IntKind.i64.wrap (((BitVec.ofNat 64 m ^^^ BitVec.allOnes 64 : BitVec 64)).toNat : Int) = _
        rw [a4]
        have a3 : ((2 ^ 64 - 1 - m : Nat) : Int) = 18446744073709551615 - (m : Int) := by omega
        rw [a3]
        simp only [IntKind.wrap, IntKind.bits, IntKind.signed, if_true]
        simp
        omega
      repeat' (first | (apply St_rd; exact rfl; (first | (apply Rd_natShr; exact rfl; exact rfl; decide) | (apply Rd_natAnd; exact rfl; exact rfl; exact rfl; exact hn; decide) | (apply Rd_convV tb; exact rfl; exact rfl; exact rfl; exact e1) | (apply Rd_convV tb; exact rfl; exact rfl; exact rfl; exact e2) | (apply Rd_intOp (b := .xor); exact rfl; exact rfl; exact e4))) | (apply Sq_rd; exact rfl; (first | (apply Rd_natShr; exact rfl; exact rfl; decide) | (apply Rd_natAnd; exact rfl; exact rfl; exact rfl; exact hn; decide) | (apply Rd_convV tb; exact rfl; exact rfl; exact rfl; exact e1) | (apply Rd_convV tb; exact rfl; exact rfl; exact rfl; exact e2) | (apply Rd_intOp (b := .xor); exact rfl; exact rfl; exact e4))) | (refine St_step ?_; (try with_reducible intro _)) | (refine St_step2 ?_ ?_ <;> (intro hb; (try simp only [beq_iff_eq, bne_iff_ne, decide_eq_true_eq, decide_eq_false_iff_not, Bool.not_eq_true', Bool.not_eq_false', beq_eq_false_iff_ne, bne_eq_false_iff_eq, ne_eq, Int.not_lt, Int.not_le, gt_iff_lt, ge_iff_le] at hb); (try (first | exact Bool.noConfusion hb | exact absurd trivial hb | (exfalso; omega))))) | fail)
      exact St_ret1 (.inl rfl) rfl rfl ⟨rfl, rfl⟩ (by exact Split.auto)
    · rw [if_neg h1]
      have h0 : n % 2 = 0 := by omega
      rw [h0] at e2
      have e4 : intOp .xor .i64 ((n / 2 : Nat) : Int) (IntKind.i64.wrap (0 - ((0 : Nat) : Int))) = some (.int .i64 ((n / 2 : Nat) : Int)) := by
        generalize hm : n / 2 = m at *
        simp only [intOp]
        congr 2
        have a1 : (BitVec.ofInt IntKind.i64.bits (m : Int)) = BitVec.ofNat 64 m := by simp [IntKind.bits]
        have a2 : (BitVec.ofInt IntKind.i64.bits (IntKind.i64.wrap (0 - ((0 : Nat) : Int)))) = 0#64 := rfl
        rw [a1, a2]
        have a4 : ((BitVec.ofNat 64 m ^^^ 0#64 : BitVec 64)).toNat = m := by
          rw [BitVec.xor_zero, BitVec.toNat_ofNat, Nat.mod_eq_of_lt (by omega)]
        show IntKind.i64.wrap (((BitVec.ofNat 64 m ^^^ 0#64 : BitVec 64)).toNat : Int) = _
        rw [a4]
        exact IntWalk.i64_in _ (by omega)
      repeat' (first | (apply St_rd; exact rfl; (first | (apply Rd_natShr; exact rfl; exact rfl; decide) | (apply Rd_natAnd; exact rfl; exact rfl; exact rfl; exact hn; decide) | (apply Rd_convV tb; exact rfl; exact rfl; exact rfl; exact e1) | (apply Rd_convV tb; exact rfl; exact rfl; exact rfl; exact e2) | (apply Rd_intOp (b := .xor); exact rfl; exact rfl; exact e4))) | (apply Sq_rd; exact rfl; (first | (apply Rd_natShr; exact rfl; exact rfl; decide) | (apply Rd_natAnd; exact rfl; exact rfl; exact rfl; exact hn; decide) | (apply Rd_convV tb; exact rfl; exact rfl; exact rfl; exact e1) | (apply Rd_convV tb; exact rfl; exact rfl; exact rfl; exact e2) | (apply Rd_intOp (b := .xor); exact rfl; exact rfl; exact e4))) | (refine St_step ?_; (try with_reducible intro _)) | (refine St_step2 ?_ ?_ <;> (intro hb; (try simp only [beq_iff_eq, bne_iff_ne, decide_eq_true_eq, decide_eq_false_iff_not, Bool.not_eq_true', Bool.not_eq_false', beq_eq_false_iff_ne, bne_eq_false_iff_eq, ne_eq, Int.not_lt, Int.not_le, gt_iff_lt, ge_iff_le] at hb); (try (first | exact Bool.noConfusion hb | exact absurd trivial hb | (exfalso; omega))))) | fail)
      exact St_ret1 (.inl rfl) rfl rfl ⟨rfl, rfl⟩ (by exact Split.auto)
theorem rsigned_sp (k : Nat) (s : List UInt8) (r : Rs) (hs : s.length ≤ 1000000) (hr : r.at_ ≤ s.length) : Sp Tryz.prog 106 [.pointer (some ⟨k, 0, none⟩)] [Rk k s r, GB]
    (fun v M => v = .int .i64 (zag (rraw s r).1) ∧ M = [Rk k s (rraw s r).2, GB]) := by
  refine Sp.intro (P := Tryz.prog) (Tryz.func106) rfl Tryz.ntmps106 (by decide) rfl ?_
  intro ρ F
  have hlt := rraw_lt s r
  have c1 := rget_sp k s r hs hr
  have c2 := zag_sp (rraw s r).1 (by omega)
  repeat' (first | (apply St_call (hf := c1); exact rfl; exact rfl; exact Split.auto; rintro _ _ ⟨rfl, rfl⟩) | (apply St_call (hf := c2); exact rfl; exact rfl; exact Split.auto; rintro _ _ ⟨rfl, rfl⟩) | (refine St_step ?_; (try with_reducible intro _)) | (refine St_step2 ?_ ?_ <;> (intro hb; (try simp only [beq_iff_eq, bne_iff_ne, decide_eq_true_eq, decide_eq_false_iff_not, Bool.not_eq_true', Bool.not_eq_false', beq_eq_false_iff_ne, bne_eq_false_iff_eq, ne_eq, Int.not_lt, Int.not_le, gt_iff_lt, ge_iff_le] at hb); (try (first | exact Bool.noConfusion hb | exact absurd trivial hb | (exfalso; omega))))) | fail)
  all_goals (first | contradiction | (exfalso; omega) | (exact St_ret1 (.inl rfl) rfl rfl ⟨rfl, rfl⟩ (by exact Split.auto)) | (exact St_ret2 (.inl rfl) rfl rfl rfl ⟨rfl, rfl⟩ (by exact Split.auto)) | (exact St_ret3 (.inl rfl) rfl rfl rfl rfl ⟨rfl, rfl⟩ (by exact Split.auto)))
theorem rerr_sp (k : Nat) (s : List UInt8) (r : Rs) : Sp Tryz.prog 107 [.pointer (some ⟨k, 0, none⟩)] [Rk k s r]
    (fun v M => v = nat .i64 r.e ∧ M = [Rk k s r]) := by
  refine Sp.intro (P := Tryz.prog) (Tryz.func107) rfl Tryz.ntmps107 (by decide) rfl ?_
  intro ρ F
  repeat' (first | (refine St_step ?_; (try with_reducible intro _)) | (refine St_step2 ?_ ?_ <;> (intro hb; (try simp only [beq_iff_eq, bne_iff_ne, decide_eq_true_eq, decide_eq_false_iff_not, Bool.not_eq_true', Bool.not_eq_false', beq_eq_false_iff_ne, bne_eq_false_iff_eq, ne_eq, Int.not_lt, Int.not_le, gt_iff_lt, ge_iff_le] at hb); (try (first | exact Bool.noConfusion hb | exact absurd trivial hb | (exfalso; omega))))) | fail)
  all_goals (first | contradiction | (exfalso; omega) | (exact St_ret1 (.inl rfl) rfl rfl ⟨rfl, rfl⟩ (by exact Split.auto)) | (exact St_ret2 (.inl rfl) rfl rfl rfl ⟨rfl, rfl⟩ (by exact Split.auto)) | (exact St_ret3 (.inl rfl) rfl rfl rfl rfl ⟨rfl, rfl⟩ (by exact Split.auto)))
theorem rsome_sp (k : Nat) (s : List UInt8) (r : Rs) (lim : Nat) (hs : s.length ≤ 1000000) (hr : r.at_ ≤ s.length) (hlim : lim ≤ 1152921504606846976) : Sp Tryz.prog 75 [.pointer (some ⟨k, 0, none⟩), nat .i64 lim] [Rk k s r, GB]
    (fun v M => v = nat .i64 (rsome s lim r).1 ∧ M = [Rk k s (rsome s lim r).2, GB]) := by
  refine Sp.intro (P := Tryz.prog) (Tryz.func75) rfl Tryz.ntmps75 (by decide) rfl ?_
  intro ρ F
  have c1 := rnumber_sp k s r lim hs hr hlim
  have c2 := fail_sp k s (rnum s lim r).2 1
  unfold rsome rfailR
  generalize hq : rnum s lim r = q at *
  obtain ⟨n, q⟩ := q
  by_cases h0 : n = 0
  · subst h0
    simp only [if_true]
    repeat' (first | (apply St_call (hf := c1); exact rfl; exact rfl; exact Split.auto; rintro _ _ ⟨rfl, rfl⟩) | (apply St_call (hf := c2); exact rfl; exact rfl; exact Split.auto; rintro _ _ ⟨rfl, rfl⟩) | (refine St_step ?_; (try with_reducible intro _)) | (refine St_step2 ?_ ?_ <;> (intro hb; (try simp only [beq_iff_eq, bne_iff_ne, decide_eq_true_eq, decide_eq_false_iff_not, Bool.not_eq_true', Bool.not_eq_false', beq_eq_false_iff_ne, bne_eq_false_iff_eq, ne_eq, Int.not_lt, Int.not_le, gt_iff_lt, ge_iff_le] at hb); (try (first | exact Bool.noConfusion hb | exact absurd trivial hb | (exfalso; omega))))) | fail)
    all_goals (first | contradiction | (exfalso; omega) | (exact St_ret1 (.inl rfl) rfl rfl ⟨rfl, rfl⟩ (by exact Split.auto)) | (exact St_ret2 (.inl rfl) rfl rfl rfl ⟨rfl, rfl⟩ (by exact Split.auto)) | (exact St_ret3 (.inl rfl) rfl rfl rfl rfl ⟨rfl, rfl⟩ (by exact Split.auto)))
  · simp only [if_neg h0]
    repeat' (first | (apply St_call (hf := c1); exact rfl; exact rfl; exact Split.auto; rintro _ _ ⟨rfl, rfl⟩) | (apply St_call (hf := c2); exact rfl; exact rfl; exact Split.auto; rintro _ _ ⟨rfl, rfl⟩) | (refine St_step ?_; (try with_reducible intro _)) | (refine St_step2 ?_ ?_ <;> (intro hb; (try simp only [beq_iff_eq, bne_iff_ne, decide_eq_true_eq, decide_eq_false_iff_not, Bool.not_eq_true', Bool.not_eq_false', beq_eq_false_iff_ne, bne_eq_false_iff_eq, ne_eq, Int.not_lt, Int.not_le, gt_iff_lt, ge_iff_le] at hb); (try (first | exact Bool.noConfusion hb | exact absurd trivial hb | (exfalso; omega))))) | fail)
    all_goals (first | contradiction | (exfalso; omega) | (exact St_ret1 (.inl rfl) rfl rfl ⟨rfl, rfl⟩ (by exact Split.auto)) | (exact St_ret2 (.inl rfl) rfl rfl rfl ⟨rfl, rfl⟩ (by exact Split.auto)) | (exact St_ret3 (.inl rfl) rfl rfl rfl rfl ⟨rfl, rfl⟩ (by exact Split.auto)))
theorem uread_sp (k : Nat) (s : List UInt8) (r : Rs) (hs : s.length ≤ 1000000) (hr : r.at_ ≤ s.length) : Sp Tryz.prog 76 [.pointer (some ⟨k, 0, none⟩)] [Rk k s r, GB]
    (fun v M => v = .agg (uv (uread s r).1).toArray ∧ M = [Rk k s (uread s r).2, GB]) := by
  refine Sp.intro (P := Tryz.prog) (Tryz.func76) rfl Tryz.ntmps76 (by decide) rfl ?_
  intro ρ F
  have c1 := rnumber_sp k s r 5 hs hr (by decide)
  have f1 := fail_sp k s (rnum s 5 r).2 5
  have l1 := uread1_le hr
  have m1 : (uread1 s r).1 ≤ 5 := rnum_lim
  have c2 := rtext_sp k s (uread1 s r).2 16 hs l1 (by decide)
  have f2 := fail_sp k s (rtext s 16 (uread1 s r).2).2 1
  have l2 := uread2_le l1
  have c3 := rsigned_sp k s (uread2 s (uread1 s r).2).2 hs l2
  have c4 := rtext_sp k s (uread2 s (uread1 s r).2).2 32 hs l2 (by decide)
  have e1 : uread1 s r = ((rnum s 5 r).1, if (rnum s 5 r).1 = 0 then rfailR (rnum s 5 r).2 5 else (rnum s 5 r).2) := rfl
  have e2 : uread2 s (uread1 s r).2 = ((rtext s 16 (uread1 s r).2).1, if (rtext s 16 (uread1 s r).2).1 = [] then rfailR (rtext s 16 (uread1 s r).2).2 1 else (rtext s 16 (uread1 s r).2).2) := rfl
  have eu : uread s r = (if (utl s (uread1 s r).1 (uread2 s (uread1 s r).2).2).2.2.e ≠ 0 then (up0, (utl s (uread1 s r).1 (uread2 s (uread1 s r).2).2).2.2) else (⟨(uread2 s (uread1 s r).2).1, (uread1 s r).1, (utl s (uread1 s r).1 (uread2 s (uread1 s r).2).2).1, (utl s (uread1 s r).1 (uread2 s (uread1 s r).2).2).2.1⟩, (utl s (uread1 s r).1 (uread2 s (uread1 s r).2).2).2.2)) := rfl
  rw [eu]
  generalize hq1 : uread1 s r = q1 at *
  obtain ⟨kind, r1⟩ := q1
  generalize hq2 : uread2 s r1 = q2 at *
  obtain ⟨key, r2⟩ := q2
  generalize rnum s 5 r = p1 at *
  obtain ⟨pk, p1⟩ := p1
  generalize rtext s 16 r1 = p2 at *
  obtain ⟨pt, p2⟩ := p2
  injection e1 with e1a e1b
  injection e2 with e2a e2b
  dsimp only at e1a e1b e2a e2b c1 f1 c2 f2 c3 c4 m1
  subst e1a e2a
  have c5 := fun r => rerr_sp k s r
  have hcase : (kind = 1 ∨ kind = 3) ∨ (¬ (kind = 1 ∨ kind = 3) ∧ (kind = 2 ∨ kind = 4)) ∨ (¬ (kind = 1 ∨ kind = 3) ∧ ¬ (kind = 2 ∨ kind = 4)) := by omega
  obtain ⟨n, st, r3, h3⟩ : ∃ n st r3, utl s kind r2 = (n, st, r3) := ⟨_, _, _, rfl⟩
  have h4 := h3
  unfold utl at h4
  dsimp only
  rw [h3]
  dsimp only
  rcases hcase with hk | ⟨hk0, hk⟩ | ⟨hk0, hk⟩
  · rw [if_pos hk] at h4
    injection h4 with h4a h4b
    injection h4b with h4b h4c
    rw [h4a, h4c] at c3
    subst h4b
    repeat' (first | (apply St_call (hf := c1); exact rfl; exact rfl; exact Split.auto; rintro _ _ ⟨rfl, rfl⟩) | (apply St_call (hf := f1); exact rfl; exact rfl; exact Split.auto; rintro _ _ ⟨rfl, rfl⟩) | (refine St_step ?_; (try with_reducible intro _)) | (refine St_step2 ?_ ?_ <;> (intro hb; (try simp only [beq_iff_eq, bne_iff_ne, decide_eq_true_eq, decide_eq_false_iff_not, Bool.not_eq_true', Bool.not_eq_false', beq_eq_false_iff_ne, bne_eq_false_iff_eq, ne_eq, Int.not_lt, Int.not_le, gt_iff_lt, ge_iff_le] at hb); (try (first | exact Bool.noConfusion hb | exact absurd trivial hb | (exfalso; omega))))) | fail)
    all_goals first | (exfalso; omega) | skip
    all_goals refine St_cel (r := false) (b := k) (cs' := [str s, nat .i64 r1.at_, nat .i64 r1.e]) (by exact Has.auto) (by rw [e1b]; first | rw [if_pos (by omega)]; rfl | rw [if_neg (by omega)]) ?_
    all_goals repeat' (first | (apply St_call (hf := c2); exact rfl; exact rfl; exact Split.auto; rintro _ _ ⟨rfl, rfl⟩) | (apply St_call (hf := f2); exact rfl; exact rfl; exact Split.auto; rintro _ _ ⟨rfl, rfl⟩) | (refine St_step ?_; (try with_reducible intro _)) | (refine St_step2 ?_ ?_ <;> (intro hb; (try simp only [beq_iff_eq, bne_iff_ne, decide_eq_true_eq, decide_eq_false_iff_not, Bool.not_eq_true', Bool.not_eq_false', beq_eq_false_iff_ne, bne_eq_false_iff_eq, ne_eq, Int.not_lt, Int.not_le, gt_iff_lt, ge_iff_le] at hb); (try (first | exact Bool.noConfusion hb | exact absurd trivial hb | (exfalso; omega))))) | fail)
    all_goals first | (exfalso; omega) | skip
    all_goals refine St_cel (r := false) (b := k) (cs' := [str s, nat .i64 r2.at_, nat .i64 r2.e]) (by exact Has.auto) (by rw [e2b]; first | (rw [if_pos (by assumption)]; rfl) | rw [if_neg (by assumption)]) ?_
    all_goals
      by_cases he : r3.e = 0
      · rw [if_neg (fun h => h he)]
        repeat' (first | (apply St_call (hf := c3); exact rfl; exact rfl; exact Split.auto; rintro _ _ ⟨rfl, rfl⟩) | (apply St_call (hf := c5 _); exact rfl; exact rfl; exact Split.auto; rintro _ _ ⟨rfl, rfl⟩) | (refine St_step ?_; (try with_reducible intro _)) | (refine St_step2 ?_ ?_ <;> (intro hb; (try simp only [beq_iff_eq, bne_iff_ne, decide_eq_true_eq, decide_eq_false_iff_not, Bool.not_eq_true', Bool.not_eq_false', beq_eq_false_iff_ne, bne_eq_false_iff_eq, ne_eq, Int.not_lt, Int.not_le, gt_iff_lt, ge_iff_le] at hb); (try (first | exact Bool.noConfusion hb | exact absurd trivial hb | (exfalso; omega))))) | fail)
        all_goals first | (exfalso; omega) | exact St_retC tb (.inl rfl) rfl rfl rfl rfl (by exact Has.auto) rfl ⟨rfl, rfl⟩ (by exact Split.auto)
      · rw [if_pos he]
        repeat' (first | (apply St_call (hf := c3); exact rfl; exact rfl; exact Split.auto; rintro _ _ ⟨rfl, rfl⟩) | (apply St_call (hf := c5 _); exact rfl; exact rfl; exact Split.auto; rintro _ _ ⟨rfl, rfl⟩) | (refine St_step ?_; (try with_reducible intro _)) | (refine St_step2 ?_ ?_ <;> (intro hb; (try simp only [beq_iff_eq, bne_iff_ne, decide_eq_true_eq, decide_eq_false_iff_not, Bool.not_eq_true', Bool.not_eq_false', beq_eq_false_iff_ne, bne_eq_false_iff_eq, ne_eq, Int.not_lt, Int.not_le, gt_iff_lt, ge_iff_le] at hb); (try (first | exact Bool.noConfusion hb | exact absurd trivial hb | (exfalso; omega))))) | fail)
        all_goals first | (exfalso; omega) | exact St_retC tb (.inl rfl) rfl rfl rfl rfl (by exact Has.auto) rfl ⟨rfl, rfl⟩ (by exact Split.auto)
  · rw [if_neg hk0, if_pos hk] at h4
    injection h4 with h4a h4b
    injection h4b with h4b h4c
    rw [h4b, h4c] at c4
    subst h4a
    repeat' (first | (apply St_call (hf := c1); exact rfl; exact rfl; exact Split.auto; rintro _ _ ⟨rfl, rfl⟩) | (apply St_call (hf := f1); exact rfl; exact rfl; exact Split.auto; rintro _ _ ⟨rfl, rfl⟩) | (refine St_step ?_; (try with_reducible intro _)) | (refine St_step2 ?_ ?_ <;> (intro hb; (try simp only [beq_iff_eq, bne_iff_ne, decide_eq_true_eq, decide_eq_false_iff_not, Bool.not_eq_true', Bool.not_eq_false', beq_eq_false_iff_ne, bne_eq_false_iff_eq, ne_eq, Int.not_lt, Int.not_le, gt_iff_lt, ge_iff_le] at hb); (try (first | exact Bool.noConfusion hb | exact absurd trivial hb | (exfalso; omega))))) | fail)
    all_goals first | (exfalso; omega) | skip
    all_goals refine St_cel (r := false) (b := k) (cs' := [str s, nat .i64 r1.at_, nat .i64 r1.e]) (by exact Has.auto) (by rw [e1b]; first | rw [if_pos (by omega)]; rfl | rw [if_neg (by omega)]) ?_
    all_goals repeat' (first | (apply St_call (hf := c2); exact rfl; exact rfl; exact Split.auto; rintro _ _ ⟨rfl, rfl⟩) | (apply St_call (hf := f2); exact rfl; exact rfl; exact Split.auto; rintro _ _ ⟨rfl, rfl⟩) | (refine St_step ?_; (try with_reducible intro _)) | (refine St_step2 ?_ ?_ <;> (intro hb; (try simp only [beq_iff_eq, bne_iff_ne, decide_eq_true_eq, decide_eq_false_iff_not, Bool.not_eq_true', Bool.not_eq_false', beq_eq_false_iff_ne, bne_eq_false_iff_eq, ne_eq, Int.not_lt, Int.not_le, gt_iff_lt, ge_iff_le] at hb); (try (first | exact Bool.noConfusion hb | exact absurd trivial hb | (exfalso; omega))))) | fail)
    all_goals first | (exfalso; omega) | skip
    all_goals refine St_cel (r := false) (b := k) (cs' := [str s, nat .i64 r2.at_, nat .i64 r2.e]) (by exact Has.auto) (by rw [e2b]; first | (rw [if_pos (by assumption)]; rfl) | rw [if_neg (by assumption)]) ?_
    all_goals
      by_cases he : r3.e = 0
      · rw [if_neg (fun h => h he)]
        repeat' (first | (apply St_call (hf := c4); exact rfl; exact rfl; exact Split.auto; rintro _ _ ⟨rfl, rfl⟩) | (apply St_call (hf := c5 _); exact rfl; exact rfl; exact Split.auto; rintro _ _ ⟨rfl, rfl⟩) | (refine St_step ?_; (try with_reducible intro _)) | (refine St_step2 ?_ ?_ <;> (intro hb; (try simp only [beq_iff_eq, bne_iff_ne, decide_eq_true_eq, decide_eq_false_iff_not, Bool.not_eq_true', Bool.not_eq_false', beq_eq_false_iff_ne, bne_eq_false_iff_eq, ne_eq, Int.not_lt, Int.not_le, gt_iff_lt, ge_iff_le] at hb); (try (first | exact Bool.noConfusion hb | exact absurd trivial hb | (exfalso; omega))))) | fail)
        all_goals first | (exfalso; omega) | exact St_retC tb (.inl rfl) rfl rfl rfl rfl (by exact Has.auto) rfl ⟨rfl, rfl⟩ (by exact Split.auto)
      · rw [if_pos he]
        repeat' (first | (apply St_call (hf := c4); exact rfl; exact rfl; exact Split.auto; rintro _ _ ⟨rfl, rfl⟩) | (apply St_call (hf := c5 _); exact rfl; exact rfl; exact Split.auto; rintro _ _ ⟨rfl, rfl⟩) | (refine St_step ?_; (try with_reducible intro _)) | (refine St_step2 ?_ ?_ <;> (intro hb; (try simp only [beq_iff_eq, bne_iff_ne, decide_eq_true_eq, decide_eq_false_iff_not, Bool.not_eq_true', Bool.not_eq_false', beq_eq_false_iff_ne, bne_eq_false_iff_eq, ne_eq, Int.not_lt, Int.not_le, gt_iff_lt, ge_iff_le] at hb); (try (first | exact Bool.noConfusion hb | exact absurd trivial hb | (exfalso; omega))))) | fail)
        all_goals first | (exfalso; omega) | exact St_retC tb (.inl rfl) rfl rfl rfl rfl (by exact Has.auto) rfl ⟨rfl, rfl⟩ (by exact Split.auto)
  · rw [if_neg hk0, if_neg hk] at h4
    injection h4 with h4a h4b
    injection h4b with h4b h4c
    subst h4a h4b h4c
    repeat' (first | (apply St_call (hf := c1); exact rfl; exact rfl; exact Split.auto; rintro _ _ ⟨rfl, rfl⟩) | (apply St_call (hf := f1); exact rfl; exact rfl; exact Split.auto; rintro _ _ ⟨rfl, rfl⟩) | (refine St_step ?_; (try with_reducible intro _)) | (refine St_step2 ?_ ?_ <;> (intro hb; (try simp only [beq_iff_eq, bne_iff_ne, decide_eq_true_eq, decide_eq_false_iff_not, Bool.not_eq_true', Bool.not_eq_false', beq_eq_false_iff_ne, bne_eq_false_iff_eq, ne_eq, Int.not_lt, Int.not_le, gt_iff_lt, ge_iff_le] at hb); (try (first | exact Bool.noConfusion hb | exact absurd trivial hb | (exfalso; omega))))) | fail)
    all_goals first | (exfalso; omega) | skip
    all_goals refine St_cel (r := false) (b := k) (cs' := [str s, nat .i64 r1.at_, nat .i64 r1.e]) (by exact Has.auto) (by rw [e1b]; first | rw [if_pos (by omega)]; rfl | rw [if_neg (by omega)]) ?_
    all_goals repeat' (first | (apply St_call (hf := c2); exact rfl; exact rfl; exact Split.auto; rintro _ _ ⟨rfl, rfl⟩) | (apply St_call (hf := f2); exact rfl; exact rfl; exact Split.auto; rintro _ _ ⟨rfl, rfl⟩) | (refine St_step ?_; (try with_reducible intro _)) | (refine St_step2 ?_ ?_ <;> (intro hb; (try simp only [beq_iff_eq, bne_iff_ne, decide_eq_true_eq, decide_eq_false_iff_not, Bool.not_eq_true', Bool.not_eq_false', beq_eq_false_iff_ne, bne_eq_false_iff_eq, ne_eq, Int.not_lt, Int.not_le, gt_iff_lt, ge_iff_le] at hb); (try (first | exact Bool.noConfusion hb | exact absurd trivial hb | (exfalso; omega))))) | fail)
    all_goals first | (exfalso; omega) | skip
    all_goals refine St_cel (r := false) (b := k) (cs' := [str s, nat .i64 r2.at_, nat .i64 r2.e]) (by exact Has.auto) (by rw [e2b]; first | (rw [if_pos (by assumption)]; rfl) | rw [if_neg (by assumption)]) ?_
    all_goals
      by_cases he : r2.e = 0
      · rw [if_neg (fun h => h he)]
        repeat' (first | (apply St_call (hf := c5 _); exact rfl; exact rfl; exact Split.auto; rintro _ _ ⟨rfl, rfl⟩) | (refine St_step ?_; (try with_reducible intro _)) | (refine St_step2 ?_ ?_ <;> (intro hb; (try simp only [beq_iff_eq, bne_iff_ne, decide_eq_true_eq, decide_eq_false_iff_not, Bool.not_eq_true', Bool.not_eq_false', beq_eq_false_iff_ne, bne_eq_false_iff_eq, ne_eq, Int.not_lt, Int.not_le, gt_iff_lt, ge_iff_le] at hb); (try (first | exact Bool.noConfusion hb | exact absurd trivial hb | (exfalso; omega))))) | fail)
        all_goals first | (exfalso; omega) | exact St_retC tb (.inl rfl) rfl rfl rfl rfl (by exact Has.auto) rfl ⟨rfl, rfl⟩ (by exact Split.auto)
      · rw [if_pos he]
        repeat' (first | (apply St_call (hf := c5 _); exact rfl; exact rfl; exact Split.auto; rintro _ _ ⟨rfl, rfl⟩) | (refine St_step ?_; (try with_reducible intro _)) | (refine St_step2 ?_ ?_ <;> (intro hb; (try simp only [beq_iff_eq, bne_iff_ne, decide_eq_true_eq, decide_eq_false_iff_not, Bool.not_eq_true', Bool.not_eq_false', beq_eq_false_iff_ne, bne_eq_false_iff_eq, ne_eq, Int.not_lt, Int.not_le, gt_iff_lt, ge_iff_le] at hb); (try (first | exact Bool.noConfusion hb | exact absurd trivial hb | (exfalso; omega))))) | fail)
        all_goals first | (exfalso; omega) | exact St_retC tb (.inl rfl) rfl rfl rfl rfl (by exact Has.auto) rfl ⟨rfl, rfl⟩ (by exact Split.auto)
end Go.Proofs.YtfjnacakpeommaaGreatDoor
/- Steps of a walk: slices held against nil, cleared, cut and folded again; parts of memory folded into one chunk. -/
namespace Go.Proofs.YtfjnacakpeommaaGreatDoor.SL
open Go
set_option autoImplicit false
set_option linter.unusedVariables false
set_option linter.unusedSimpArgs false
variable {ρ : Rst} {N : Nat} {env : Env} {L L' : List HP} {P : Program} {Q : Exit → Act → World → Prop} {K : Act → World → Prop} {G : Act → World → Prop}
variable {d : Nat} {dd : Option Nat} {op : Op} {ty : TypeId} {pos : String} {aft : Array Edge} {g : Option (Nat × Bool)} (tb : Tabs P)

theorem Rd_slNil {T U E : TypeId} {x y : Operand} {A : Option Addr} {n c n' c' : Nat} (hx : ev env x = some (.slice A n c)) (hy : ev env y = some (.slice none n' c')) (hT : tabLk tb.und T = some (.slice E)) :
    Rd P ρ N env L ⟨dd, .binOp .eql T x y U, ty, pos, aft, g⟩ (.bool A.isNone) :=
  fun a w z _ => by
    simp only [execOp, ev_ok z hx, ev_ok z hy, Sem.run_bind, eqGuard, Bool.not_true, Bool.false_eq_true, if_false, Sem.run_pure, Result.andThen_ok, Lib.run_eql_slice_nil w T E A n c n' c' (tab_ok tb.und_ok hT)]
theorem Src.rs {sz n : Nat} {r : Bool} {v : Value} {cs : List Value} (hc : Has L (RS r v n cs) L') (hl : cs.length = n * sz) : Src P ρ L sz v n cs :=
  ⟨hl, fun w H => by
    rcases (H.has hc).rs with ⟨rfl, rfl, ⟨A, c, rfl⟩, H2⟩ | ⟨b, T, cap, pre, rest, rfl, H2⟩
    · refine ⟨rfl, ?_⟩
      cases A with
      | none => rfl
      | some A => simp [Builtin.firstCells, loadCells, loadCellsFrom]
    · obtain ⟨fr, hb, hf⟩ := H2.rowOf
      refine ⟨rfl, ?_⟩
      simp only [Builtin.firstCells]
      rw [run_loadCells hb (by simp; omega)]
      simp [← hl]⟩
/-- An owned slice, of less room. -/
theorem St_slCap {E sz n cap c' : Nat} {A : Option Addr} {cs : List Value} (hc : Has L (Sl E sz (.slice A n cap) n cs) L') (h1 : n ≤ c') (h2 : c' ≤ cap)
    (h : St ρ N env (Sl E sz (.slice A n c') n cs :: L') G) : St ρ N env L G := fun a w x y => by
  rcases (y.has hc).sl with ⟨e1, e2, e3, H⟩ | ⟨b, cap', pre, rest, e1, e2, e3, e4, H⟩
  · injection e1 with q1 q2 q3
    have : c' = 0 := by omega
    subst q1 q2 this e3
    exact h a w x H.sl_nil
  · injection e1 with q1 q2 q3
    subst q1 q3
    refine h a w x (H.sl_row h1 ?_ e4)
    have : (c' - n) * sz ≤ (cap - n) * sz := Nat.mul_le_mul_right sz (by omega)
    omega
theorem St_slRoom {E sz n cap : Nat} {A : Option Addr} {cs : List Value} (hc : Has L (Sl E sz (.slice A n cap) n cs) L') (h : n ≤ cap → St ρ N env L G) : St ρ N env L G := fun a w x y => by
  rcases (y.has hc).sl with ⟨e1, e2, e3, H⟩ | ⟨b, cap', pre, rest, e1, e2, e3, e4, H⟩
  · injection e1 with q1 q2 q3
    exact h (by omega) a w x y
  · injection e1 with q1 q2 q3
    exact h (by omega) a w x y
/-- Several cells stored, and how the row reads then. -/
theorem St_storeVe {T T' b off : Nat} {x y : Operand} {cs cs' : List Value} {v : Value} {i : Inf} (hx : ev env x = some (.pointer (some ⟨b, off, none⟩))) (hy : ev env y = some v)
    (hi : tabLk tb.inf T = some i) (hsz : (cellsL v).length = i.size) (hall : (cellsL v).all Value.oneCell' = true) (hc : Has L (cel false b T' cs) L') (hl : Nat.ble (off + (cellsL v).length) cs.length = true) (he : setR cs off (cellsL v) = cs')
    (h : St ρ N env (cel false b T' cs' :: L') K) : St ρ N env L (Exec P Q ⟨none, .store T x y, ty, pos, aft, g⟩ K) := by
  subst he
  exact St_storeV tb hx hy hi hsz hall hc (by simpa using hl) h
/-- One cell stored, and how the row reads then. -/
theorem St_store1e {T T' b off : Nat} {x y : Operand} {cs cs' : List Value} {v : Value} {i : Inf} (hx : ev env x = some (.pointer (some ⟨b, off, none⟩))) (hy : ev env y = some v)
    (hi : tabLk tb.inf T = some i) (hsz : i.size = 1) (hv : v.oneCell' = true) (hc : Has L (cel false b T' cs) L') (he : cs.set off v = cs') (hl : off < cs.length)
    (h : St ρ N env (cel false b T' cs' :: L') K) : St ρ N env L (Exec P Q ⟨none, .store T x y, ty, pos, aft, g⟩ K) :=
  St_store1 tb hx hy hi hsz hv hc (by simpa using hl) he h
theorem St_slMk {E sz b n cap : Nat} {pre cs rest : List Value} (hc : Has L (cel false b E (pre ++ cs ++ rest)) L') (h1 : n ≤ cap) (h2 : (cap - n) * sz ≤ rest.length) (h3 : cs.length = n * sz)
    (h : St ρ N env (Sl E sz (.slice (some ⟨b, pre.length, none⟩) n cap) n cs :: L') G) : St ρ N env L G := fun a w x y => h a w x ((y.has hc).sl_row h1 h2 h3)
/-- Chunks that are folded into one, whose hidden part is z. -/
theorem St_exMk {α : Type} {l : α → List HP} (z : α) (hs : Split L (l z) L') (h : St ρ N env (ex (fun z => big (l z)) :: L') G) : St ρ N env L G :=
  St_conv (fun w H => Holds.ex_mk (A := fun z => big (l z)) z (Holds.shut (H.split hs))) h
theorem St_exOpen {α : Type} {l : α → List HP} (hc : Has L (ex fun z => big (l z)) L') (h : ∀ z, St ρ N env (l z ++ L') G) : St ρ N env L G :=
  St_pull hc (St_ex fun z => St_open (h z))
theorem run_clearCel {t E tt off k : Nat} {w : World} {b : Nat} {cs zs : List Value} {c : Nat} {i : Inf} (ht : P.underlying t = some (.slice E)) (hi : InfOk P E i) (hz : i.zero.all Value.oneCell' = true) (hzs : (List.replicate k i.zero).flatten = zs) (hsz : i.zero.length = i.size)
    (hl : off + zs.length ≤ cs.length) (H : Holds ρ w (cel false b E cs :: L)) (hk : k ≠ 0) :
    ∃ w', (Builtin.clear_ [t].toArray tt [.slice (some ⟨b, off, none⟩) k c].toArray).run P w = .ok (.tuple #[]) w' ∧ Holds ρ w' (cel false b E (setR cs off zs) :: L) := by
  obtain ⟨zv, hzv, hzc⟩ := run_zero (w := w) hi
  have hall : zs.all Value.oneCell' = true := by
    rw [← hzs]
    clear hl hzs hk
    induction k with
    | zero => rfl
    | succ k ih => rw [List.replicate_succ, List.flatten_cons, List.all_append, hz, ih]; rfl
  have hzl : (Builtin.zeroCells zv.cells k).toList = zs := by
    rw [← hzs]
    apply List.ext_getElem?
    intro j
    have hL : ∀ k, ((List.replicate k i.zero).flatten).length = k * i.size := by
      intro k
      induction k with
      | zero => simp
      | succ k ih => rw [List.replicate_succ, List.flatten_cons, List.length_append, ih, hsz, Nat.succ_mul]; omega
    simp only [Builtin.zeroCells, hzc]
    by_cases hj : j < k * i.size
    · have hpos : 0 < i.size := by rcases Nat.eq_zero_or_pos i.size with e | e
                                   · rw [e] at hj; omega
                                   · exact e
      have key : ∀ m q, q < m * i.size → ((List.replicate m i.zero).flatten)[q]? = i.zero[q % i.size]? := by
        intro m
        induction m with
        | zero => intro q hq; omega
        | succ m ih =>
          intro q hq
          rw [List.replicate_succ, List.flatten_cons]
          by_cases hqs : q < i.size
          · rw [List.getElem?_append_left (by omega), Nat.mod_eq_of_lt hqs]
          · rw [List.getElem?_append_right (by omega), hsz, ih _ (by rw [Nat.succ_mul] at hq; omega)]
            congr 1
            rw [Nat.mod_eq_sub_mod (by omega : q ≥ i.size)]
      rw [key k j hj]
      have hlt : j % i.zero.length < i.zero.length := by rw [hsz]; exact Nat.mod_lt _ hpos
      simp only [Array.toList_map, Array.toList_range, List.getElem?_map, List.size_toArray]
      rw [hsz, List.getElem?_range (by rw [Nat.mul_comm]; rw [Nat.mul_comm] at hj; exact hj), Option.map_some]
      rw [hsz] at hlt
      have hlt2 : j % i.size < i.zero.length := by rw [hsz]; exact hlt
      rw [List.getElem?_eq_getElem hlt2]
      simp [hlt2]
    · have g1 : ((List.replicate k i.zero).flatten)[j]? = none := List.getElem?_eq_none (by rw [hL]; omega)
      rw [g1, List.getElem?_eq_none]
      simp only [Array.toList_map, Array.toList_range, List.length_map, List.length_range, List.size_toArray, hsz]
      omega
  obtain ⟨w', e, H'⟩ := run_storeCells (P := P) (off := off) zs cs 0 w H hall (by omega)
  refine ⟨w', ?_, H'⟩
  obtain ⟨k', rfl⟩ : ∃ k', k = k' + 1 := ⟨k - 1, by omega⟩
  simp only [Builtin.clear_, List.getElem?_toArray, List.getElem?_cons_zero, Sem.run_bind, run_und ht, Result.andThen_ok, hzv, hzl, e, Sem.run_pure]
/-- The first k elements of an owned row are cleared. -/
theorem St_clear {T E off k c b : Nat} {x : Operand} {cs zs : List Value} {i : Inf} (hN : Nat.blt d N = true) (hx : ev env x = some (.slice (some ⟨b, off, none⟩) k c)) (hT : tabLk tb.und T = some (.slice E)) (hi : tabLk tb.inf E = some i)
    (hz : (i.zero.all Value.oneCell' && Nat.beq i.zero.length i.size) = true) (hzs : (List.replicate k i.zero).flatten = zs) (hc : Has L (cel false b E cs) L') (hl : off + zs.length ≤ cs.length) (hk : k ≠ 0)
    (h : St ρ N ((d, .tuple #[]) :: env) (cel false b E (setR cs off zs) :: L') K) :
    St ρ N env L (Exec P Q ⟨some d, .call { callee := .builtin .clear, args := [x].toArray, argTypes := [T].toArray }, ty, pos, aft, g⟩ K) :=
  St_run (α := Unit) (v := fun _ => .tuple #[]) (M := fun _ => cel false b E (setR cs off zs) :: L') (by simpa using hN) (fun a w z H => by
    simp only [Bool.and_eq_true] at hz
    have H1 := H.has hc
    obtain ⟨w', e, H2⟩ := run_clearCel (tt := ty) (c := c) (tab_ok tb.und_ok hT) (tab_ok tb.inf_ok hi) hz.1 hzs (Nat.eq_of_beq_eq_true hz.2) hl H1 hk
    refine ⟨(), w', ?_, H2⟩
    obtain ⟨cst, er⟩ := run_resolveB (P := P) (w := w) (ty := ty) (b := .clear) (tys := [T].toArray) (a := a) (xs := [x]) (vs := [.slice (some ⟨b, off, none⟩) k c]) (by simp [ev_ok z hx])
    simp only [execOp, Sem.run_bind, er, Result.andThen_ok, invoke, builtin, e, Sem.run_pure]) fun _ => h
/-- Nothing is cleared. -/
theorem Rd_clear0 {T E : Nat} {x : Operand} {A : Option Addr} {c : Nat} (hx : ev env x = some (.slice A 0 c)) (hT : tabLk tb.und T = some (.slice E)) :
    Rd P ρ N env L ⟨dd, .call { callee := .builtin .clear, args := [x].toArray, argTypes := [T].toArray }, ty, pos, aft, g⟩ (.tuple #[]) :=
  fun a w z _ => by
    obtain ⟨cst, er⟩ := run_resolveB (P := P) (w := w) (ty := ty) (b := .clear) (tys := [T].toArray) (a := a) (xs := [x]) (vs := [.slice A 0 c]) (by simp [ev_ok z hx])
    simp only [execOp, Sem.run_bind, er, Result.andThen_ok, invoke, builtin, Builtin.clear_, List.getElem?_toArray, List.getElem?_cons_zero, run_und (tab_ok tb.und_ok hT)]
    cases A <;> simp
/-- Operations whose value nobody takes. -/
theorem St_runN {α : Type} {v : α → Value} {M : α → List HP}
    (hr : ∀ a w, Ag N env a → Holds ρ w L → ∃ z w', (execOp a.eval ⟨none, op, ty, pos, aft, g⟩).run P w = .ok (.value (v z)) w' ∧ Holds ρ w' (M z))
    (h : ∀ z, St ρ N env (M z) K) : St ρ N env L (Exec P Q ⟨none, op, ty, pos, aft, g⟩ K) := by
  intro a w x y
  obtain ⟨z, w', e, hw⟩ := hr a w x y
  unfold Exec Oper.wp
  rw [e]
  exact h z _ _ (x.put_none _) hw
theorem St_rdN {v : Value} (hr : Rd P ρ N env L ⟨none, op, ty, pos, aft, g⟩ v) (h : St ρ N env L K) : St ρ N env L (Exec P Q ⟨none, op, ty, pos, aft, g⟩ K) :=
  St_runN (α := Unit) (v := fun _ => v) (M := fun _ => L) (fun a w x y => ⟨(), w, hr a w x y, y⟩) fun _ => h
theorem St_clearN {T E off k c b : Nat} {x : Operand} {cs zs : List Value} {i : Inf} (hx : ev env x = some (.slice (some ⟨b, off, none⟩) k c)) (hT : tabLk tb.und T = some (.slice E)) (hi : tabLk tb.inf E = some i)
    (hz : (i.zero.all Value.oneCell' && Nat.beq i.zero.length i.size) = true) (hzs : (List.replicate k i.zero).flatten = zs) (hc : Has L (cel false b E cs) L') (hl : off + zs.length ≤ cs.length) (hk : k ≠ 0)
    (h : St ρ N env (cel false b E (setR cs off zs) :: L') K) :
    St ρ N env L (Exec P Q ⟨none, .call { callee := .builtin .clear, args := [x].toArray, argTypes := [T].toArray }, ty, pos, aft, g⟩ K) :=
  St_runN (α := Unit) (v := fun _ => .tuple #[]) (M := fun _ => cel false b E (setR cs off zs) :: L') (fun a w z H => by
    simp only [Bool.and_eq_true] at hz
    have H1 := H.has hc
    obtain ⟨w', e, H2⟩ := run_clearCel (tt := ty) (c := c) (tab_ok tb.und_ok hT) (tab_ok tb.inf_ok hi) hz.1 hzs (Nat.eq_of_beq_eq_true hz.2) hl H1 hk
    refine ⟨(), w', ?_, H2⟩
    obtain ⟨cst, er⟩ := run_resolveB (P := P) (w := w) (ty := ty) (b := .clear) (tys := [T].toArray) (a := a) (xs := [x]) (vs := [.slice (some ⟨b, off, none⟩) k c]) (by simp [ev_ok z hx])
    simp only [execOp, Sem.run_bind, er, Result.andThen_ok, invoke, builtin, e, Sem.run_pure]) fun _ => h
theorem St_callN {f : FuncId} {xs : List Operand} {tys : Array TypeId} {vs : List Value} {pre F : List HP} {post : Value → List HP → Prop} (ha : evs env xs = some vs)
    (hf : Sp P f vs pre post) (hs : Split L pre F) (h : ∀ v M, post v M → St ρ N env (M ++ F) K) :
    St ρ N env L (Exec P Q ⟨none, .call { callee := .value (.func f), args := xs.toArray, argTypes := tys }, ty, pos, aft, g⟩ K) := by
  intro a w x y
  have e : (execOp a.eval ⟨none, .call { callee := .value (.func f), args := xs.toArray, argTypes := tys }, ty, pos, aft, g⟩).run P w = .ok (.enter f vs.toArray) w := by
    simp only [execOp, resolve, Act.eval, Deferred.ofValue, Sem.run_bind, Sem.run_pure, Result.andThen_ok, invoke]
    rw [run_callFunc hf.callable]
    congr 2
    simp [evs_ok x ha]
  unfold Exec Oper.wp
  rw [e]
  refine (hf.calls ρ F w (y.split hs)).mono ?_
  rintro e w' ⟨v, M, rfl, hp, H⟩
  exact h v M hp _ _ (x.put_none v) H
/-- One cell of an element. -/
theorem flat_cell {α : Type} {f : α → List Value} {k : Nat} (hk : ∀ u, (f u).length = k) {us : List α} {i j : Nat} {u : α} (pre rest : List Value) (h : us[i]? = some u) (hj : j < k) :
    (pre ++ us.flatMap f ++ rest)[pre.length + i * k + j]? = (f u)[j]? := by
  have h1 := flat_at hk us i u pre rest h
  rw [← h1, List.getElem?_take_of_lt hj, List.getElem?_drop]
/-- The first g elements are cleared. -/
theorem setR_front {pre cs rest zs : List Value} (h : zs.length ≤ cs.length) : setR (pre ++ cs ++ rest) pre.length zs = pre ++ zs ++ (cs.drop zs.length ++ rest) := by
  have e : pre ++ cs ++ rest = pre ++ (cs ++ rest) := by simp
  unfold setR
  rw [e, List.take_left, ← List.drop_drop, List.drop_left, List.drop_append_of_le_length h]
/-- What is left of a slice's front, behind a cut. -/
theorem cut_addr {b off m sz c : Nat} : (if c = m then (some ⟨b, off, none⟩ : Option Addr) else (some (⟨b, off, none⟩ : Addr)).map (·.add (m * sz))) = some ⟨b, if c = m then off else off + m * sz, none⟩ := by
  split
  · rfl
  · rw [Option.map_some, Addr.add_none]
end Go.Proofs.YtfjnacakpeommaaGreatDoor.SL
/- Contracts: slices.Clone of updates, round.Copy, round.Get. -/
namespace Go.Proofs.YtfjnacakpeommaaGreatDoor
open Go SL Pl
set_option autoImplicit false
set_option maxRecDepth 100000
set_option linter.unusedSimpArgs false
set_option linter.unusedVariables false
attribute [local irreducible] St Sq Exec QExec wpList wpQuiet Code.wp Exit.then Exit.inBlock bodyPost At Rd wpOp Wa QK GB
theorem clone_sp (q : Bool) (l : List Up) (v : Value) (hl : l.length ≤ 1000) : Sp Tryz.prog 112 [v] [UL q v l] (fun w M => ∃ v', w = v' ∧ (∃ A n c, v' = .slice A n c) ∧ M = [UL true v' l, UL q v l]) := by
  refine Sp.intro (P := Tryz.prog) (Tryz.func112) rfl Tryz.ntmps112 (by decide) rfl ?_
  intro ρ F
  refine St_rsIs (by exact Has.auto) ?_
  rintro A c rfl
  have hfl := flat_len uv_len l
  have hok : (l.flatMap uv).all Value.oneCell' = true := by
    clear hl hfl
    induction l with
    | nil => rfl
    | cons u l ih => rw [List.flatMap_cons, List.all_append, ih]; rfl
  cases A with
  | none =>
    -- the slice is nil: it has no elements
    refine St_conv (L' := [UL true (.slice none 0 0) [], UL q (.slice none l.length c) l, big F]) (fun w H => Holds.rs_nil H) ?_
    by_cases h0 : l = []
    · subst h0
      repeat' (first | (apply St_rd; exact rfl; (first | (apply Rd_slNil tb; exact rfl; exact rfl; exact rfl))) | (apply Sq_rd; exact rfl; (first | (apply Rd_slNil tb; exact rfl; exact rfl; exact rfl))) | (refine St_step ?_; (try with_reducible intro _)) | (refine St_step2 ?_ ?_ <;> (intro hb; (try simp only [beq_iff_eq, bne_iff_ne, decide_eq_true_eq, decide_eq_false_iff_not, Bool.not_eq_true', Bool.not_eq_false', beq_eq_false_iff_ne, bne_eq_false_iff_eq, ne_eq, Int.not_lt, Int.not_le, gt_iff_lt, ge_iff_le] at hb); (try (first | exact Bool.noConfusion hb | exact absurd trivial hb | (exfalso; omega))))) | fail)
      all_goals first | exact St_ret1 (.inl rfl) rfl rfl ⟨_, rfl, ⟨_, _, _, rfl⟩, rfl⟩ (by exact Split.auto) | (exfalso; simp at hb; done)
    · refine St_rsOpen (L := [UL true (.slice none 0 0) [], UL q (.slice none l.length c) l, big F]) (v := .slice none l.length c) (n := l.length) (cs := l.flatMap uv) (r := q) (.tail .head) (by
        rcases Nat.eq_zero_or_pos l.length with h | h
        · exact absurd (List.eq_nil_of_length_eq_zero h) h0
        · exact h) ?_
      rintro b T cap pre rest hv
      cases hv
  | some A =>
    repeat' (first | (apply St_rd; exact rfl; (first | (apply Rd_slNil tb; exact rfl; exact rfl; exact rfl))) | (apply Sq_rd; exact rfl; (first | (apply Rd_slNil tb; exact rfl; exact rfl; exact rfl))) | (refine St_step ?_; (try with_reducible intro _)) | (refine St_step2 ?_ ?_ <;> (intro hb; (try simp only [beq_iff_eq, bne_iff_ne, decide_eq_true_eq, decide_eq_false_iff_not, Bool.not_eq_true', Bool.not_eq_false', beq_eq_false_iff_ne, bne_eq_false_iff_eq, ne_eq, Int.not_lt, Int.not_le, gt_iff_lt, ge_iff_le] at hb); (try (first | exact Bool.noConfusion hb | exact absurd trivial hb | (exfalso; omega))))) | fail)
    all_goals try (exfalso; simp at hb; done)
    refine St_slRow (E := 73) (sz := 4) (n := 0) (by exact Has.auto) rfl ?_
    repeat' (first | (apply St_append tb (sz := 4); (repeat exact rfl); exact Has.auto; (intro _; exact Src.rs (by exact Has.auto) hfl); exact hok; (dsimp only; omega); intro v') | (refine St_step ?_; (try with_reducible intro _)) | (refine St_step2 ?_ ?_ <;> (intro hb; (try simp only [beq_iff_eq, bne_iff_ne, decide_eq_true_eq, decide_eq_false_iff_not, Bool.not_eq_true', Bool.not_eq_false', beq_eq_false_iff_ne, bne_eq_false_iff_eq, ne_eq, Int.not_lt, Int.not_le, gt_iff_lt, ge_iff_le] at hb); (try (first | exact Bool.noConfusion hb | exact absurd trivial hb | (exfalso; omega))))) | fail)
    refine St_slIs (by exact Has.auto) ?_
    rintro A' c' rfl
    refine St_slShare (by exact Has.auto) ?_
    rw [List.nil_append, Nat.zero_add]
    repeat' (first | (refine St_step ?_; (try with_reducible intro _)) | (refine St_step2 ?_ ?_ <;> (intro hb; (try simp only [beq_iff_eq, bne_iff_ne, decide_eq_true_eq, decide_eq_false_iff_not, Bool.not_eq_true', Bool.not_eq_false', beq_eq_false_iff_ne, bne_eq_false_iff_eq, ne_eq, Int.not_lt, Int.not_le, gt_iff_lt, ge_iff_le] at hb); (try (first | exact Bool.noConfusion hb | exact absurd trivial hb | (exfalso; omega))))) | fail)
    exact St_ret1 (.inl rfl) rfl rfl ⟨_, rfl, ⟨_, _, _, rfl⟩, rfl⟩ (by exact Split.auto)
theorem copy_sp (q : Bool) (r : Ro) (v : Value) (hl : r.ups.length ≤ 1000) : Sp Tryz.prog 80 [.agg (rv r v).toArray] [UL q v r.ups] (fun w M => ∃ v', w = .agg (rv r v').toArray ∧ M = [UL true v' r.ups, UL q v r.ups]) := by
  refine Sp.intro (P := Tryz.prog) (Tryz.func80) rfl Tryz.ntmps80 (by decide) rfl ?_
  intro ρ F
  refine St_rsIs (by exact Has.auto) ?_
  rintro A c rfl
  repeat' (first | (apply St_call (hf := clone_sp q r.ups (.slice A r.ups.length c) hl); exact rfl; exact rfl; exact Split.auto; rintro _ _ ⟨_, rfl, ⟨A', n', c', rfl⟩, rfl⟩) | (refine St_step ?_; (try with_reducible intro _)) | (refine St_step2 ?_ ?_ <;> (intro hb; (try simp only [beq_iff_eq, bne_iff_ne, decide_eq_true_eq, decide_eq_false_iff_not, Bool.not_eq_true', Bool.not_eq_false', beq_eq_false_iff_ne, bne_eq_false_iff_eq, ne_eq, Int.not_lt, Int.not_le, gt_iff_lt, ge_iff_le] at hb); (try (first | exact Bool.noConfusion hb | exact absurd trivial hb | (exfalso; omega))))) | fail)
  exact St_retC tb (.inl rfl) rfl rfl rfl rfl (by exact Has.auto) rfl ⟨_, rfl, rfl⟩ (by exact Split.auto)
set_option maxHeartbeats 1000000 in
theorem rGet_sp (s : List UInt8) (hs : s.length ≤ 1000000) : Sp Tryz.prog 38 [str s] [GB]
    (fun w M => ∃ v, w = .tuple [.agg (rv (rget s).1 v).toArray, nat .i64 (rget s).2].toArray ∧ M = [UL true v (rget s).1.ups, GB]) := by
  refine Sp.intro (P := Tryz.prog) (Tryz.func38) rfl Tryz.ntmps38 (by decide) rfl ?_
  intro ρ F
  have c1 := fun k => rsome_sp k s ⟨0, 0⟩ 64 hs (Nat.zero_le _) (by decide)
  have l1 := rsome_le (lim := 64) (r := ⟨0, 0⟩) (Nat.zero_le s.length)
  have c2 := fun k => rsome_sp k s (rsome s 64 ⟨0, 0⟩).2 1099511627776 hs l1 (by decide)
  have l2 := rsome_le (lim := 1099511627776) l1
  have c3 := fun k => rsome_sp k s (rsome s 1099511627776 (rsome s 64 ⟨0, 0⟩).2).2 8 hs l2 (by decide)
  have l3 := rsome_le (lim := 8) l2
  have m3 := rsome_lim (s := s) (lim := 8) (r := (rsome s 1099511627776 (rsome s 64 ⟨0, 0⟩).2).2)
  have er : rget s = (if rend s (ureads s (rsome s 8 (rsome s 1099511627776 (rsome s 64 ⟨0, 0⟩).2).2).1 (rsome s 8 (rsome s 1099511627776 (rsome s 64 ⟨0, 0⟩).2).2).2).2 ≠ 0 then (ro0, rend s (ureads s (rsome s 8 (rsome s 1099511627776 (rsome s 64 ⟨0, 0⟩).2).2).1 (rsome s 8 (rsome s 1099511627776 (rsome s 64 ⟨0, 0⟩).2).2).2).2)
      else (⟨(rsome s 64 ⟨0, 0⟩).1, (rsome s 1099511627776 (rsome s 64 ⟨0, 0⟩).2).1, (ureads s (rsome s 8 (rsome s 1099511627776 (rsome s 64 ⟨0, 0⟩).2).2).1 (rsome s 8 (rsome s 1099511627776 (rsome s 64 ⟨0, 0⟩).2).2).2).1⟩, 0)) := rfl
  generalize rsome s 64 ⟨0, 0⟩ = q1 at *
  obtain ⟨o, r1⟩ := q1
  generalize rsome s 1099511627776 r1 = q2 at *
  obtain ⟨n, r2⟩ := q2
  generalize rsome s 8 r2 = q3 at *
  obtain ⟨m, r3⟩ := q3
  dsimp only at *
  rw [er]
  have hfl := fun i => flat_len uv_len (ureads s i r3).1
  have hll := fun i => ureads_length (s := s) i (r := r3)
  have hle := fun i => ureads_le (s := s) i l3
  repeat' (first | (apply St_call; exact rfl; exact rfl; exact rread_sp s; exact Split.auto; rintro _ _ ⟨k, rfl, rfl⟩) | (apply St_call (hf := c1 _); exact rfl; exact rfl; exact Split.auto; rintro _ _ ⟨rfl, rfl⟩) | (apply St_call (hf := c2 _); exact rfl; exact rfl; exact Split.auto; rintro _ _ ⟨rfl, rfl⟩) | (apply St_call (hf := c3 _); exact rfl; exact rfl; exact Split.auto; rintro _ _ ⟨rfl, rfl⟩) | (refine St_step ?_; (try with_reducible intro _)) | (refine St_step2 ?_ ?_ <;> (intro hb; (try simp only [beq_iff_eq, bne_iff_ne, decide_eq_true_eq, decide_eq_false_iff_not, Bool.not_eq_true', Bool.not_eq_false', beq_eq_false_iff_ne, bne_eq_false_iff_eq, ne_eq, Int.not_lt, Int.not_le, gt_iff_lt, ge_iff_le] at hb); (try (first | exact Bool.noConfusion hb | exact absurd trivial hb | (exfalso; omega))))) | fail)
  refine St_slNil (E := 73) (sz := 4) ?_
  repeat' (first | (refine St_loop (fun (z : Nat × Value) => z.1 ≤ m ∧ ∃ A c, z.2 = .slice A z.1 c) (fun z => [(2, .pointer (some ⟨_, 0, none⟩)), (4, .pointer (some ⟨k, 0, none⟩)), (5, .pointer (some ⟨_, 0, none⟩)), (15, nat .i64 m), (16, nat .i64 z.1)]) (fun z => [cel false _ 64 [nat .i64 o, nat .i64 n, z.2], Sl 73 4 z.2 z.1 ((ureads s z.1 r3).1.flatMap uv), Rk k s (ureads s z.1 r3).2, GB, cel false _ 64 [.int .i64 0, .int .i64 0, .slice none 0 0], big F]) (fun z => m - z.1) (0, .slice none 0 0) ⟨Nat.zero_le _, _, _, rfl⟩ ⟨rfl, rfl, rfl, rfl, rfl, trivial⟩ (by exact Split.auto) ?_) | (refine St_step ?_; (try with_reducible intro _)) | (refine St_step2 ?_ ?_ <;> (intro hb; (try simp only [beq_iff_eq, bne_iff_ne, decide_eq_true_eq, decide_eq_false_iff_not, Bool.not_eq_true', Bool.not_eq_false', beq_eq_false_iff_ne, bne_eq_false_iff_eq, ne_eq, Int.not_lt, Int.not_le, gt_iff_lt, ge_iff_le] at hb); (try (first | exact Bool.noConfusion hb | exact absurd trivial hb | (exfalso; omega))))) | fail)
  rename_i b5
  rintro ⟨i, v⟩ ⟨hi, A, c, hv⟩
  have hi : i ≤ m := hi
  have hv : v = .slice A i c := hv
  subst hv
  by_cases him : i < m
  · have hfi := hfl i
    have hli := hll i
    have cu := uread_sp k s (ureads s i r3).2 hs (hle i)
    have hnext : (ureads s (i + 1) r3).1.flatMap uv = (ureads s i r3).1.flatMap uv ++ uv (uread s (ureads s i r3).2).1 := by rw [ureads, List.flatMap_append]; simp
    have hnext2 : (ureads s (i + 1) r3).2 = (uread s (ureads s i r3).2).2 := rfl
    rw [← hnext2] at cu
    generalize (uread s (ureads s i r3).2).1 = u at *
    dsimp only
    repeat' (first | (refine St_step ?_; (try with_reducible intro _)) | (refine St_step2 ?_ ?_ <;> (intro hb; (try simp only [beq_iff_eq, bne_iff_ne, decide_eq_true_eq, decide_eq_false_iff_not, Bool.not_eq_true', Bool.not_eq_false', beq_eq_false_iff_ne, bne_eq_false_iff_eq, ne_eq, Int.not_lt, Int.not_le, gt_iff_lt, ge_iff_le] at hb); (try (first | exact Bool.noConfusion hb | exact absurd trivial hb | (exfalso; omega))))) | fail)
    (apply St_regionA (7) ([cel false b5 64 [nat .i64 o, nat .i64 n, .slice A i c]]); kernel_rfl; (apply Sa_take 0; exact rfl; kernel_rfl; exact PanicOk.auto; exact rfl; (first | exact Rd_auto)); (apply Sa_take 1; exact rfl; kernel_rfl; exact PanicOk.auto; exact rfl; (first | exact Rd_auto)); (apply Sa_take 2; exact rfl; kernel_rfl; exact PanicOk.auto; exact rfl; (first | exact Rd_auto)); (apply Sa_one (i := 3); kernel_rfl; exact .inr (by exact Split.auto)); (apply Sa_op; exact rfl; exact rfl); (first | (apply St_call (hf := cu); exact rfl; exact rfl; exact Split.auto; rintro _ _ ⟨rfl, rfl⟩) | (apply St_append tb (sz := 4); (repeat exact rfl); exact Has.auto; (intro _; exact Src.row (n := 1) (by exact Has.auto) (by simp) (by exact rfl)); exact rfl; (dsimp only; omega); intro v'; refine St_slIs (by exact Has.auto) ?_; rintro A' c' rfl) | (refine St_step ?_; (try with_reducible intro _)) | (refine St_step2 ?_ ?_ <;> (intro hb; (try simp only [beq_iff_eq, bne_iff_ne, decide_eq_true_eq, decide_eq_false_iff_not, Bool.not_eq_true', Bool.not_eq_false', beq_eq_false_iff_ne, bne_eq_false_iff_eq, ne_eq, Int.not_lt, Int.not_le, gt_iff_lt, ge_iff_le] at hb); (try (first | exact Bool.noConfusion hb | exact absurd trivial hb | (exfalso; omega))))) | fail); (apply Sa_one (i := 4); kernel_rfl; exact .inr (by exact Split.auto)); (apply Sa_op; exact rfl; exact rfl); (first | (apply St_call (hf := cu); exact rfl; exact rfl; exact Split.auto; rintro _ _ ⟨rfl, rfl⟩) | (apply St_append tb (sz := 4); (repeat exact rfl); exact Has.auto; (intro _; exact Src.row (n := 1) (by exact Has.auto) (by simp) (by exact rfl)); exact rfl; (dsimp only; omega); intro v'; refine St_slIs (by exact Has.auto) ?_; rintro A' c' rfl) | (refine St_step ?_; (try with_reducible intro _)) | (refine St_step2 ?_ ?_ <;> (intro hb; (try simp only [beq_iff_eq, bne_iff_ne, decide_eq_true_eq, decide_eq_false_iff_not, Bool.not_eq_true', Bool.not_eq_false', beq_eq_false_iff_ne, bne_eq_false_iff_eq, ne_eq, Int.not_lt, Int.not_le, gt_iff_lt, ge_iff_le] at hb); (try (first | exact Bool.noConfusion hb | exact absurd trivial hb | (exfalso; omega))))) | fail); (apply Sa_one (i := 5); kernel_rfl; exact .inr (by exact Split.auto)); (apply Sa_op; exact rfl; exact rfl); (first | (apply St_call (hf := cu); exact rfl; exact rfl; exact Split.auto; rintro _ _ ⟨rfl, rfl⟩) | (apply St_append tb (sz := 4); (repeat exact rfl); exact Has.auto; (intro _; exact Src.row (n := 1) (by exact Has.auto) (by simp) (by exact rfl)); exact rfl; (dsimp only; omega); intro v'; refine St_slIs (by exact Has.auto) ?_; rintro A' c' rfl) | (refine St_step ?_; (try with_reducible intro _)) | (refine St_step2 ?_ ?_ <;> (intro hb; (try simp only [beq_iff_eq, bne_iff_ne, decide_eq_true_eq, decide_eq_false_iff_not, Bool.not_eq_true', Bool.not_eq_false', beq_eq_false_iff_ne, bne_eq_false_iff_eq, ne_eq, Int.not_lt, Int.not_le, gt_iff_lt, ge_iff_le] at hb); (try (first | exact Bool.noConfusion hb | exact absurd trivial hb | (exfalso; omega))))) | fail); (apply Sa_take 6; exact rfl; kernel_rfl; exact PanicOk.auto; exact rfl; (first | exact Rd_auto)); (apply Sa_one (i := 7); kernel_rfl; exact .inr (by exact Split.auto)); (apply Sa_op; exact rfl; exact rfl); (first | (apply St_call (hf := cu); exact rfl; exact rfl; exact Split.auto; rintro _ _ ⟨rfl, rfl⟩) | (apply St_append tb (sz := 4); (repeat exact rfl); exact Has.auto; (intro _; exact Src.row (n := 1) (by exact Has.auto) (by simp) (by exact rfl)); exact rfl; (dsimp only; omega); intro v'; refine St_slIs (by exact Has.auto) ?_; rintro A' c' rfl) | (refine St_step ?_; (try with_reducible intro _)) | (refine St_step2 ?_ ?_ <;> (intro hb; (try simp only [beq_iff_eq, bne_iff_ne, decide_eq_true_eq, decide_eq_false_iff_not, Bool.not_eq_true', Bool.not_eq_false', beq_eq_false_iff_ne, bne_eq_false_iff_eq, ne_eq, Int.not_lt, Int.not_le, gt_iff_lt, ge_iff_le] at hb); (try (first | exact Bool.noConfusion hb | exact absurd trivial hb | (exfalso; omega))))) | fail); (apply Sa_done (R := []); kernel_rfl; refine .inl ?_; kernel_rfl))
    refine St_slEq (cs' := (ureads s (i + 1) r3).1.flatMap uv) (n' := i + 1) (by exact Has.auto) (by rw [hnext]; rfl) rfl ?_
    repeat' (first | (refine St_step ?_; (try with_reducible intro _)) | (refine St_step2 ?_ ?_ <;> (intro hb; (try simp only [beq_iff_eq, bne_iff_ne, decide_eq_true_eq, decide_eq_false_iff_not, Bool.not_eq_true', Bool.not_eq_false', beq_eq_false_iff_ne, bne_eq_false_iff_eq, ne_eq, Int.not_lt, Int.not_le, gt_iff_lt, ge_iff_le] at hb); (try (first | exact Bool.noConfusion hb | exact absurd trivial hb | (exfalso; omega))))) | fail)
    exact St_at (i + 1, .slice A' (i + 1) c') ⟨⟨by show i + 1 ≤ m; omega, _, _, rfl⟩, by show m - (i + 1) < m - i; omega⟩ ⟨rfl, rfl, rfl, rfl, rfl, trivial⟩ (by exact Split.auto)
  · have hmi : i = m := by omega
    subst hmi
    dsimp only
    have ce := rend_sp k s (ureads s i r3).2 hs (hle i)
    refine St_slShare (by exact Has.auto) ?_
    by_cases he : rend s (ureads s i r3).2 = 0
    · rw [if_neg (fun h => h he)]
      rw [he] at ce
      have e2 : (ureads s i r3).1.length = i := hll i
      refine St_pull (A := UL true (.slice A i c) (ureads s i r3).1) (by show Has _ (RS true _ (ureads s i r3).1.length _) _; rw [e2]; exact Has.auto) ?_
      repeat' (first | (apply St_call (hf := ce); exact rfl; exact rfl; exact Split.auto; rintro _ _ ⟨rfl, rfl⟩) | (refine St_step ?_; (try with_reducible intro _)) | (refine St_step2 ?_ ?_ <;> (intro hb; (try simp only [beq_iff_eq, bne_iff_ne, decide_eq_true_eq, decide_eq_false_iff_not, Bool.not_eq_true', Bool.not_eq_false', beq_eq_false_iff_ne, bne_eq_false_iff_eq, ne_eq, Int.not_lt, Int.not_le, gt_iff_lt, ge_iff_le] at hb); (try (first | exact Bool.noConfusion hb | exact absurd trivial hb | (exfalso; omega))))) | fail)
      exact St_retCT tb (.inl rfl) rfl rfl rfl rfl rfl (by exact Has.auto) rfl ⟨_, rfl, rfl⟩ (by exact Split.auto)
    · rw [if_pos he]
      refine St_conv (L' := UL true (.slice none 0 0) [] :: _) (fun w H => Holds.rs_nil H) ?_
      repeat' (first | (apply St_call (hf := ce); exact rfl; exact rfl; exact Split.auto; rintro _ _ ⟨rfl, rfl⟩) | (refine St_step ?_; (try with_reducible intro _)) | (refine St_step2 ?_ ?_ <;> (intro hb; (try simp only [beq_iff_eq, bne_iff_ne, decide_eq_true_eq, decide_eq_false_iff_not, Bool.not_eq_true', Bool.not_eq_false', beq_eq_false_iff_ne, bne_eq_false_iff_eq, ne_eq, Int.not_lt, Int.not_le, gt_iff_lt, ge_iff_le] at hb); (try (first | exact Bool.noConfusion hb | exact absurd trivial hb | (exfalso; omega))))) | fail)
      exact St_retCT tb (.inl rfl) rfl rfl rfl rfl rfl (by exact Has.auto) rfl ⟨_, rfl, rfl⟩ (by exact Split.auto)
end Go.Proofs.YtfjnacakpeommaaGreatDoor
