/- Contracts: the packages crc. -/
import Derived.Test.YtfjnacakpeommaaDoorC2
namespace Go.Proofs.YtfjnacakpeommaaDoor
open Go SL Pl
set_option autoImplicit false
set_option maxRecDepth 100000
set_option linter.unusedSimpArgs false
set_option linter.unusedVariables false
attribute [local irreducible] St Sq Exec QExec wpList wpQuiet Code.wp Exit.then Exit.inBlock bodyPost At Rd wpOp Wa QK GB
/-- The table as it fills. -/
def tabTo (i : Nat) : List Value := (List.range 256).map fun j => if j < i then nat .u32 (gs 8 j) else .int .u32 0
theorem tabTo_len (i : Nat) : (tabTo i).length = 256 := by simp [tabTo]
theorem tabTo_set (i : Nat) (h : i < 256) : (tabTo i).set i (nat .u32 (gs 8 i)) = tabTo (i + 1) := by
  apply List.ext_getElem?
  intro j
  rw [List.getElem?_set]
  by_cases hj : j < 256
  · simp only [tabTo, List.length_map, List.length_range, List.getElem?_map, List.getElem?_range hj, Option.map_some]
    by_cases hij : i = j
    · subst hij; simp [hj]
    · have : (j < i ↔ j < i + 1) := by omega
      simp [hij, this]
  · have e1 : ∀ i, (tabTo i)[j]? = none := fun i => by rw [List.getElem?_eq_none]; rw [tabTo_len]; omega
    have : ¬ (i = j) := by omega
    simp [this, e1]
theorem tabTo_zero : tabTo 0 = List.replicate 256 (.int .u32 0) := by
  simp only [tabTo, Nat.not_lt_zero, if_false]
  exact List.map_const' .. 
theorem tabTo_ok (i : Nat) : (tabTo i).all Value.oneCell' = true := by
  rw [List.all_eq_true]
  intro v hv
  simp only [tabTo, List.mem_map] at hv
  obtain ⟨j, _, rfl⟩ := hv
  split <;> rfl
theorem tabTo_get (i : Nat) (h : i < 256) : (tabTo 256)[i]? = some (nat .u32 (gs 8 i)) := by
  simp [tabTo, List.getElem?_range h, h]
theorem build_sp : Sp Tryd.prog 100 [] [] (fun v M => v = .agg (tabTo 256).toArray ∧ M = []) := by
  refine Sp.intro (P := Tryd.prog) (Tryd.func100) rfl Tryd.ntmps100 (by decide) rfl ?_
  intro ρ F
  repeat' (first | (refine St_loop (fun (i : Nat) => i ≤ 256) (fun i => [(0, .pointer (some ⟨_, 0, none⟩)), (3, nat .i64 i)]) (fun i => [cel false _ 164 (tabTo i), big F]) (fun i => 256 - i) 0 (Nat.zero_le _) ⟨rfl, rfl, trivial⟩ (by rw [tabTo_zero]; exact Split.auto) ?_) | (refine St_step ?_; (try with_reducible intro _)) | (refine St_step2 ?_ ?_ <;> (intro hb; (try simp only [beq_iff_eq, bne_iff_ne, decide_eq_true_eq, decide_eq_false_iff_not, Bool.not_eq_true', Bool.not_eq_false', beq_eq_false_iff_ne, bne_eq_false_iff_eq, ne_eq, Int.not_lt, Int.not_le, gt_iff_lt, ge_iff_le] at hb); (try (first | exact Bool.noConfusion hb | exact absurd trivial hb | (exfalso; omega))))) | fail)
  intro i hi
  by_cases hil : i < 256
  · repeat' (first | (refine St_loop (fun (k : Nat) => k ≤ 8) (fun k => [(0, .pointer (some ⟨_, 0, none⟩)), (1, nat .i64 i), (2, nat .u32 (gs k i)), (3, nat .i64 i), (8, nat .i64 k)]) (fun k => [cel false _ 164 (tabTo i), big F]) (fun k => 8 - k) 0 (Nat.zero_le _) ⟨rfl, rfl, ?_, rfl, rfl, trivial⟩ (by exact Split.auto) ?_) | (apply St_rd; exact rfl; (first | (apply Rd_natConv tb (k := .i64) (m := i); exact rfl; exact rfl; exact rfl; exact rfl))) | (apply Sq_rd; exact rfl; (first | (apply Rd_natConv tb (k := .i64) (m := i); exact rfl; exact rfl; exact rfl; exact rfl))) | (refine St_step ?_; (try with_reducible intro _)) | (refine St_step2 ?_ ?_ <;> (intro hb; (try simp only [beq_iff_eq, bne_iff_ne, decide_eq_true_eq, decide_eq_false_iff_not, Bool.not_eq_true', Bool.not_eq_false', beq_eq_false_iff_ne, bne_eq_false_iff_eq, ne_eq, Int.not_lt, Int.not_le, gt_iff_lt, ge_iff_le] at hb); (try (first | exact Bool.noConfusion hb | exact absurd trivial hb | (exfalso; omega))))) | fail)
    · show some (nat .u32 _) = some (nat .u32 _)
      congr 2
      simp only [IntKind.bits, gs]; omega
    intro k hk
    have hg := gs_lt k (x := i) (by omega)
    by_cases hk8 : k < 8
    · have hgl := gs_last k i
      have hand : gs k i &&& 1 = gs k i % 2 := Nat.and_two_pow_sub_one_eq_mod _ 1
      repeat' (first | (apply St_rd; exact rfl; (first | (apply Rd_natAnd; exact rfl; exact rfl; exact rfl; exact hg; decide) | (apply Rd_natShr; exact rfl; exact rfl; decide) | (apply Rd_natXor; exact rfl; exact rfl; exact rfl; exact Nat.lt_of_le_of_lt (Nat.div_le_self _ _) hg; decide))) | (apply Sq_rd; exact rfl; (first | (apply Rd_natAnd; exact rfl; exact rfl; exact rfl; exact hg; decide) | (apply Rd_natShr; exact rfl; exact rfl; decide) | (apply Rd_natXor; exact rfl; exact rfl; exact rfl; exact Nat.lt_of_le_of_lt (Nat.div_le_self _ _) hg; decide))) | (refine St_step ?_; (try with_reducible intro _)) | (refine St_step2 ?_ ?_ <;> (intro hb; (try simp only [beq_iff_eq, bne_iff_ne, decide_eq_true_eq, decide_eq_false_iff_not, Bool.not_eq_true', Bool.not_eq_false', beq_eq_false_iff_ne, bne_eq_false_iff_eq, ne_eq, Int.not_lt, Int.not_le, gt_iff_lt, ge_iff_le] at hb); (try (first | exact Bool.noConfusion hb | exact absurd trivial hb | (exfalso; omega))))) | fail)
      all_goals
        refine St_val (t := 2) (v' := nat .u32 (gs (k + 1) i)) rfl ?_ ?_
        · rw [hgl, g1, ← hand]
          first
            | (rw [if_pos (by omega)]; rfl)
            | (rw [if_neg (by omega)]; rfl)
        exact St_at (k + 1) ⟨by omega, by omega⟩ ⟨rfl, rfl, rfl, rfl, rfl, trivial⟩ (by exact Split.auto)
    · have : k = 8 := by omega
      subst this
      have hset := tabTo_set i hil
      have hlen := tabTo_len i
      repeat' (first | (apply St_store1n tb; exact rfl; exact rfl; exact rfl; exact rfl; exact rfl; exact Has.auto; (simp only [hlen]; omega)) | (refine St_step ?_; (try with_reducible intro _)) | (refine St_step2 ?_ ?_ <;> (intro hb; (try simp only [beq_iff_eq, bne_iff_ne, decide_eq_true_eq, decide_eq_false_iff_not, Bool.not_eq_true', Bool.not_eq_false', beq_eq_false_iff_ne, bne_eq_false_iff_eq, ne_eq, Int.not_lt, Int.not_le, gt_iff_lt, ge_iff_le] at hb); (try (first | exact Bool.noConfusion hb | exact absurd trivial hb | (exfalso; omega))))) | fail)
      refine St_cel (cs' := tabTo (i + 1)) (by exact Has.auto) (by rw [← hset]; congr 1; show 0 + ((i : Nat) : Int).toNat * 1 = i; omega) ?_
      repeat' (first | (refine St_step ?_; (try with_reducible intro _)) | (refine St_step2 ?_ ?_ <;> (intro hb; (try simp only [beq_iff_eq, bne_iff_ne, decide_eq_true_eq, decide_eq_false_iff_not, Bool.not_eq_true', Bool.not_eq_false', beq_eq_false_iff_ne, bne_eq_false_iff_eq, ne_eq, Int.not_lt, Int.not_le, gt_iff_lt, ge_iff_le] at hb); (try (first | exact Bool.noConfusion hb | exact absurd trivial hb | (exfalso; omega))))) | fail)
      exact St_at (i + 1) ⟨by omega, by omega⟩ ⟨rfl, rfl, trivial⟩ (by exact Split.auto)
  · have : i = 256 := by omega
    subst this
    repeat' (first | (apply St_storeW tb; exact rfl; exact rfl; exact rfl; exact tabTo_len _; exact tabTo_ok _; exact Has.auto; exact rfl) | (apply St_rd; exact rfl; (first | (apply Rd_loadW tb; exact rfl; exact rfl; exact rfl; exact Has.auto; exact tabTo_len _))) | (apply Sq_rd; exact rfl; (first | (apply Rd_loadW tb; exact rfl; exact rfl; exact rfl; exact Has.auto; exact tabTo_len _))) | (refine St_step ?_; (try with_reducible intro _)) | (refine St_step2 ?_ ?_ <;> (intro hb; (try simp only [beq_iff_eq, bne_iff_ne, decide_eq_true_eq, decide_eq_false_iff_not, Bool.not_eq_true', Bool.not_eq_false', beq_eq_false_iff_ne, bne_eq_false_iff_eq, ne_eq, Int.not_lt, Int.not_le, gt_iff_lt, ge_iff_le] at hb); (try (first | exact Bool.noConfusion hb | exact absurd trivial hb | (exfalso; omega))))) | fail)
    exact St_retC tb (.inl rfl) rfl rfl rfl rfl (by exact Has.auto) (tabTo_len _) ⟨rfl, rfl⟩ (by exact Split.auto)
theorem table_sp : Sp Tryd.prog 97 [] [] (fun v M => v = .agg (tabTo 256).toArray ∧ M = []) := by
  refine Sp.intro (P := Tryd.prog) (Tryd.func97) rfl Tryd.ntmps97 (by decide) rfl ?_
  intro ρ F
  repeat' (first | (apply St_call (hf := build_sp); exact rfl; exact rfl; exact Split.auto; rintro _ _ ⟨rfl, rfl⟩) | (apply St_storeW tb; exact rfl; exact rfl; exact rfl; exact tabTo_len _; exact tabTo_ok _; exact Has.auto; (rw [tabTo_len]; exact rfl)) | (refine St_step ?_; (try with_reducible intro _)) | (refine St_step2 ?_ ?_ <;> (intro hb; (try simp only [beq_iff_eq, bne_iff_ne, decide_eq_true_eq, decide_eq_false_iff_not, Bool.not_eq_true', Bool.not_eq_false', beq_eq_false_iff_ne, bne_eq_false_iff_eq, ne_eq, Int.not_lt, Int.not_le, gt_iff_lt, ge_iff_le] at hb); (try (first | exact Bool.noConfusion hb | exact absurd trivial hb | (exfalso; omega))))) | fail)
  exact St_retC tb (.inl rfl) rfl rfl rfl rfl (by exact Has.auto) (tabTo_len _) ⟨rfl, rfl⟩ (by exact Split.auto)
theorem more_sp (x : Nat) (l : List UInt8) (hx : x < 4294967296) (hl : l.length ≤ 4611686018427387904) :
    Sp Tryd.prog 91 [nat .u32 x, str l] [] (fun v M => v = nat .u32 (4294967295 - run (4294967295 - x) l) ∧ M = []) := by
  refine Sp.intro (P := Tryd.prog) (Tryd.func91) rfl Tryd.ntmps91 (by decide) rfl ?_
  intro ρ F
  repeat' (first | (refine St_loop (fun (i : Nat) => i ≤ l.length) (fun i => [(1, str l), (5, nat .u32 (run (4294967295 - x) (l.take i))), (10, nat .i64 l.length), (11, nat .i64 i)]) (fun i => [big F]) (fun i => l.length - i) 0 (Nat.zero_le _) ⟨rfl, rfl, rfl, rfl, trivial⟩ (by exact Split.auto) ?_) | (apply St_rd; exact rfl; (first | (apply Rd_natCompl; exact rfl; exact rfl; exact hx))) | (apply Sq_rd; exact rfl; (first | (apply Rd_natCompl; exact rfl; exact rfl; exact hx))) | (refine St_step ?_; (try with_reducible intro _)) | (refine St_step2 ?_ ?_ <;> (intro hb; (try simp only [beq_iff_eq, bne_iff_ne, decide_eq_true_eq, decide_eq_false_iff_not, Bool.not_eq_true', Bool.not_eq_false', beq_eq_false_iff_ne, bne_eq_false_iff_eq, ne_eq, Int.not_lt, Int.not_le, gt_iff_lt, ge_iff_le] at hb); (try (first | exact Bool.noConfusion hb | exact absurd trivial hb | (exfalso; omega))))) | fail)
  intro i hi
  have hr := run_lt (l.take i) (x := 4294967295 - x) (by omega)
  by_cases hil : i < l.length
  · have hg : l[i]? = some l[i] := List.getElem?_eq_getElem hil
    have hs := run_snoc (4294967295 - x) l i _ hg
    generalize l[i] = c at hg hs
    have hc : c.toNat < 256 := c.toNat_lt
    generalize run (4294967295 - x) (l.take i) = y at hr hs ⊢
    have hy8 : (y % 2 ^ IntKind.u8.bits) < 2 ^ IntKind.u8.bits := Nat.mod_lt _ (by decide)
    have hxr : (y % 2 ^ IntKind.u8.bits) ^^^ c.toNat < 256 := Nat.xor_lt_two_pow (n := 8) hy8 hc
    have hgl := gs_lt 8 (x := (y % 2 ^ IntKind.u8.bits) ^^^ c.toNat) (by omega)
    have hyd : y / 2 ^ ((8 : Int)).toNat < 2 ^ IntKind.u32.bits := Nat.lt_of_le_of_lt (Nat.div_le_self _ _) hr
    have hget := tabTo_get _ hxr
    repeat' (first | (apply St_regionQ; kernel_rfl; kernel_rfl) | (apply Sq_call; exact rfl; exact rfl; exact table_sp; exact Split.auto; (rintro _ _ ⟨rfl, rfl⟩; exact ⟨rfl, _, by exact Split.auto⟩)) | (apply St_rd; exact rfl; (first | (apply Rd_natShr; exact rfl; exact rfl; decide) | (apply Rd_natConv tb; exact rfl; exact rfl; exact rfl; exact rfl) | (apply Rd_indexStr tb; exact rfl; exact rfl; exact rfl; omega; exact hg) | (apply Rd_natXor (k := .u8); exact rfl; exact rfl; exact rfl; exact hy8; exact hc) | (apply Rd_natXor (k := .u32); exact rfl; exact rfl; exact rfl; exact hyd; exact hgl) | (apply Rd_indexArr tb; exact rfl; exact rfl; exact rfl; exact rfl; exact rfl; exact rfl; (exact ⟨by omega, by omega⟩); (rw [Int.toNat_natCast]; exact hget)))) | (apply Sq_rd; exact rfl; (first | (apply Rd_natShr; exact rfl; exact rfl; decide) | (apply Rd_natConv tb; exact rfl; exact rfl; exact rfl; exact rfl) | (apply Rd_indexStr tb; exact rfl; exact rfl; exact rfl; omega; exact hg) | (apply Rd_natXor (k := .u8); exact rfl; exact rfl; exact rfl; exact hy8; exact hc) | (apply Rd_natXor (k := .u32); exact rfl; exact rfl; exact rfl; exact hyd; exact hgl) | (apply Rd_indexArr tb; exact rfl; exact rfl; exact rfl; exact rfl; exact rfl; exact rfl; (exact ⟨by omega, by omega⟩); (rw [Int.toNat_natCast]; exact hget)))) | (refine St_step ?_; (try with_reducible intro _)) | (refine St_step2 ?_ ?_ <;> (intro hb; (try simp only [beq_iff_eq, bne_iff_ne, decide_eq_true_eq, decide_eq_false_iff_not, Bool.not_eq_true', Bool.not_eq_false', beq_eq_false_iff_ne, bne_eq_false_iff_eq, ne_eq, Int.not_lt, Int.not_le, gt_iff_lt, ge_iff_le] at hb); (try (first | exact Bool.noConfusion hb | exact absurd trivial hb | (exfalso; omega))))) | fail)
    refine St_val (t := 5) (v' := nat .u32 (run (4294967295 - x) (l.take (i + 1)))) rfl ?_ ?_
    · rw [hs, byte_eq]; rfl
    exact St_at (i + 1) ⟨by omega, by omega⟩ ⟨rfl, rfl, rfl, rfl, trivial⟩ (by exact Split.auto)
  · have : l.take i = l := List.take_of_length_le (by omega)
    rw [this] at hr ⊢
    repeat' (first | (apply St_rd; exact rfl; (first | (apply Rd_natCompl; exact rfl; exact rfl; exact hr))) | (apply Sq_rd; exact rfl; (first | (apply Rd_natCompl; exact rfl; exact rfl; exact hr))) | (refine St_step ?_; (try with_reducible intro _)) | (refine St_step2 ?_ ?_ <;> (intro hb; (try simp only [beq_iff_eq, bne_iff_ne, decide_eq_true_eq, decide_eq_false_iff_not, Bool.not_eq_true', Bool.not_eq_false', beq_eq_false_iff_ne, bne_eq_false_iff_eq, ne_eq, Int.not_lt, Int.not_le, gt_iff_lt, ge_iff_le] at hb); (try (first | exact Bool.noConfusion hb | exact absurd trivial hb | (exfalso; omega))))) | fail)
    exact St_ret1 (.inl rfl) rfl rfl ⟨rfl, rfl⟩ (by exact Split.auto)
theorem crcSum_sp (l : List UInt8) (hl : l.length ≤ 4611686018427387904) : Sp Tryd.prog 81 [str l] [] (fun v M => v = nat .u32 (crc l) ∧ M = []) := by
  refine Sp.intro (P := Tryd.prog) (Tryd.func81) rfl Tryd.ntmps81 (by decide) rfl ?_
  intro ρ F
  repeat' (first | (apply St_call (hf := more_sp 0 l (by decide) hl); exact rfl; exact rfl; exact Split.auto; rintro _ _ ⟨rfl, rfl⟩) | (refine St_step ?_; (try with_reducible intro _)) | (refine St_step2 ?_ ?_ <;> (intro hb; (try simp only [beq_iff_eq, bne_iff_ne, decide_eq_true_eq, decide_eq_false_iff_not, Bool.not_eq_true', Bool.not_eq_false', beq_eq_false_iff_ne, bne_eq_false_iff_eq, ne_eq, Int.not_lt, Int.not_le, gt_iff_lt, ge_iff_le] at hb); (try (first | exact Bool.noConfusion hb | exact absurd trivial hb | (exfalso; omega))))) | fail)
  exact St_ret1 (.inl rfl) rfl rfl ⟨rfl, rfl⟩ (by exact Split.auto)
theorem bytes_sp (x : Nat) (hx : x < 4294967296) : Sp Tryd.prog 80 [nat .u32 x] [] (fun v M => v = str (le4 x) ∧ M = []) := by
  refine Sp.intro (P := Tryd.prog) (Tryd.func80) rfl Tryd.ntmps80 (by decide) rfl ?_
  intro ρ F
  have e : [nat .u8 (x % 2 ^ IntKind.u8.bits), nat .u8 (x / 2 ^ ((8 : Int)).toNat % 2 ^ IntKind.u8.bits), nat .u8 (x / 2 ^ ((16 : Int)).toNat % 2 ^ IntKind.u8.bits), nat .u8 (x / 2 ^ ((24 : Int)).toNat % 2 ^ IntKind.u8.bits)] = Lib.byteCells (le4 x) := by
    simp [le4, Lib.byteCells, IntKind.bits]
  repeat' (first | (apply St_rd; exact rfl; (first | (apply Rd_natConv tb; exact rfl; exact rfl; exact rfl; exact rfl) | (apply Rd_natShr; exact rfl; exact rfl; decide) | (apply Rd_convB tb; exact rfl; exact rfl; exact rfl; exact rfl; (rw [e]; exact Has.auto); exact rfl))) | (apply Sq_rd; exact rfl; (first | (apply Rd_natConv tb; exact rfl; exact rfl; exact rfl; exact rfl) | (apply Rd_natShr; exact rfl; exact rfl; decide) | (apply Rd_convB tb; exact rfl; exact rfl; exact rfl; exact rfl; (rw [e]; exact Has.auto); exact rfl))) | (refine St_step ?_; (try with_reducible intro _)) | (refine St_step2 ?_ ?_ <;> (intro hb; (try simp only [beq_iff_eq, bne_iff_ne, decide_eq_true_eq, decide_eq_false_iff_not, Bool.not_eq_true', Bool.not_eq_false', beq_eq_false_iff_ne, bne_eq_false_iff_eq, ne_eq, Int.not_lt, Int.not_le, gt_iff_lt, ge_iff_le] at hb); (try (first | exact Bool.noConfusion hb | exact absurd trivial hb | (exfalso; omega))))) | fail)
  exact St_ret1 (.inl rfl) rfl rfl ⟨rfl, rfl⟩ (by exact Split.auto)
theorem seal_sp (l : List UInt8) (hl : l.length ≤ 4611686018427387904) : Sp Tryd.prog 62 [str l] [] (fun v M => v = str (seald l) ∧ M = []) := by
  refine Sp.intro (P := Tryd.prog) (Tryd.func62) rfl Tryd.ntmps62 (by decide) rfl ?_
  intro ρ F
  repeat' (first | (apply St_call (hf := crcSum_sp l hl); exact rfl; exact rfl; exact Split.auto; rintro _ _ ⟨rfl, rfl⟩) | (apply St_call (hf := bytes_sp _ (crc_lt l)); exact rfl; exact rfl; exact Split.auto; rintro _ _ ⟨rfl, rfl⟩) | (apply St_rd; exact rfl; (first | (apply Rd_cat; exact rfl; exact rfl; (simp [le4]; omega)))) | (apply Sq_rd; exact rfl; (first | (apply Rd_cat; exact rfl; exact rfl; (simp [le4]; omega)))) | (refine St_step ?_; (try with_reducible intro _)) | (refine St_step2 ?_ ?_ <;> (intro hb; (try simp only [beq_iff_eq, bne_iff_ne, decide_eq_true_eq, decide_eq_false_iff_not, Bool.not_eq_true', Bool.not_eq_false', beq_eq_false_iff_ne, bne_eq_false_iff_eq, ne_eq, Int.not_lt, Int.not_le, gt_iff_lt, ge_iff_le] at hb); (try (first | exact Bool.noConfusion hb | exact absurd trivial hb | (exfalso; omega))))) | fail)
  exact St_ret1 (.inl rfl) rfl rfl ⟨rfl, rfl⟩ (by exact Split.auto)
theorem open_sp (l : List UInt8) (hl : l.length ≤ 4611686018427387904) : Sp Tryd.prog 33 [str l] []
    (fun v M => v = .tuple (match unseald l with | some t => [str t, .bool true] | none => [str [], .bool false]).toArray ∧ M = []) := by
  refine Sp.intro (P := Tryd.prog) (Tryd.func33) rfl Tryd.ntmps33 (by decide) rfl ?_
  intro ρ F
  unfold unseald
  by_cases h4 : l.length < 4
  · rw [if_neg (by omega)]
    repeat' (first | (refine St_step ?_; (try with_reducible intro _)) | (refine St_step2 ?_ ?_ <;> (intro hb; (try simp only [beq_iff_eq, bne_iff_ne, decide_eq_true_eq, decide_eq_false_iff_not, Bool.not_eq_true', Bool.not_eq_false', beq_eq_false_iff_ne, bne_eq_false_iff_eq, ne_eq, Int.not_lt, Int.not_le, gt_iff_lt, ge_iff_le] at hb); (try (first | exact Bool.noConfusion hb | exact absurd trivial hb | (exfalso; omega))))) | fail)
    all_goals (first | contradiction | (exfalso; omega) | (exact St_ret1 (.inl rfl) rfl rfl ⟨rfl, rfl⟩ (by exact Split.auto)) | (exact St_ret2 (.inl rfl) rfl rfl rfl ⟨rfl, rfl⟩ (by exact Split.auto)) | (exact St_ret3 (.inl rfl) rfl rfl rfl rfl ⟨rfl, rfl⟩ (by exact Split.auto)))
  · have e : ((l.length : Int) - 4).toNat = l.length - 4 := by omega
    have hle : (l.take (l.length - 4)).length ≤ 4611686018427387904 := by simp; omega
    by_cases hs : seald (l.take (l.length - 4)) = l
    · rw [if_pos ⟨by omega, hs⟩]
      repeat' (first | (rw [e]; apply St_call; exact rfl; exact rfl; exact seal_sp _ hle; exact Split.auto; rintro _ _ ⟨rfl, rfl⟩) | (apply St_rd; exact rfl; (first | (apply Rd_sliceStrTo tb; exact rfl; exact rfl; exact rfl; omega))) | (apply Sq_rd; exact rfl; (first | (apply Rd_sliceStrTo tb; exact rfl; exact rfl; exact rfl; omega))) | (refine St_step ?_; (try with_reducible intro _)) | (refine St_step2 ?_ ?_ <;> (intro hb; (try simp only [beq_iff_eq, bne_iff_ne, decide_eq_true_eq, decide_eq_false_iff_not, Bool.not_eq_true', Bool.not_eq_false', beq_eq_false_iff_ne, bne_eq_false_iff_eq, ne_eq, Int.not_lt, Int.not_le, gt_iff_lt, ge_iff_le] at hb); (try (first | exact Bool.noConfusion hb | exact absurd trivial hb | (exfalso; omega))))) | fail)
      all_goals (first | (first | contradiction | (exfalso; omega) | (exact St_ret1 (.inl rfl) rfl rfl ⟨rfl, rfl⟩ (by exact Split.auto)) | (exact St_ret2 (.inl rfl) rfl rfl rfl ⟨rfl, rfl⟩ (by exact Split.auto)) | (exact St_ret3 (.inl rfl) rfl rfl rfl rfl ⟨rfl, rfl⟩ (by exact Split.auto))) | (rw [e]; (first | contradiction | (exfalso; omega) | (exact St_ret1 (.inl rfl) rfl rfl ⟨rfl, rfl⟩ (by exact Split.auto)) | (exact St_ret2 (.inl rfl) rfl rfl rfl ⟨rfl, rfl⟩ (by exact Split.auto)) | (exact St_ret3 (.inl rfl) rfl rfl rfl rfl ⟨rfl, rfl⟩ (by exact Split.auto)))))
    · rw [if_neg (fun h => hs h.2)]
      repeat' (first | (rw [e]; apply St_call; exact rfl; exact rfl; exact seal_sp _ hle; exact Split.auto; rintro _ _ ⟨rfl, rfl⟩) | (apply St_rd; exact rfl; (first | (apply Rd_sliceStrTo tb; exact rfl; exact rfl; exact rfl; omega))) | (apply Sq_rd; exact rfl; (first | (apply Rd_sliceStrTo tb; exact rfl; exact rfl; exact rfl; omega))) | (refine St_step ?_; (try with_reducible intro _)) | (refine St_step2 ?_ ?_ <;> (intro hb; (try simp only [beq_iff_eq, bne_iff_ne, decide_eq_true_eq, decide_eq_false_iff_not, Bool.not_eq_true', Bool.not_eq_false', beq_eq_false_iff_ne, bne_eq_false_iff_eq, ne_eq, Int.not_lt, Int.not_le, gt_iff_lt, ge_iff_le] at hb); (try (first | exact Bool.noConfusion hb | exact absurd trivial hb | (exfalso; omega))))) | fail)
      all_goals (first | contradiction | (exfalso; omega) | (exact St_ret1 (.inl rfl) rfl rfl ⟨rfl, rfl⟩ (by exact Split.auto)) | (exact St_ret2 (.inl rfl) rfl rfl rfl ⟨rfl, rfl⟩ (by exact Split.auto)) | (exact St_ret3 (.inl rfl) rfl rfl rfl rfl ⟨rfl, rfl⟩ (by exact Split.auto)))
end Go.Proofs.YtfjnacakpeommaaDoor
