/- What the proof stands on, part 7: C35, C38, C39, C40, C41. -/
import Derived.Test.YtfjnacakpeommaaGreatDoorM6
/- Contracts: chapbookref07.Get. -/
namespace Go.Proofs.YtfjnacakpeommaaGreatDoor
open Go SL Pl
set_option autoImplicit false
set_option maxRecDepth 100000
set_option linter.unusedSimpArgs false
set_option linter.unusedVariables false
attribute [local irreducible] St Sq Exec QExec wpList wpQuiet Code.wp Exit.then Exit.inBlock bodyPost At Rd wpOp Wa QK GB
theorem rget_1 {s : List UInt8} (h : (rsome s 64 ⟨0, 0⟩).2.e ≠ 0) : rget s = (ro0, (rsome s 64 ⟨0, 0⟩).2.e) := by
  apply rget_stop h
  rw [rsome_stop h, rsome_stop h, ureads_stop h, rend_stop h]
theorem rget_2 {s : List UInt8} (h : (rsome s 1099511627776 (rsome s 64 ⟨0, 0⟩).2).2.e ≠ 0) : rget s = (ro0, (rsome s 1099511627776 (rsome s 64 ⟨0, 0⟩).2).2.e) := by
  apply rget_stop h
  rw [rsome_stop h, ureads_stop h, rend_stop h]
theorem rget_3 {s : List UInt8} (h : (rsome s 8 (rsome s 1099511627776 (rsome s 64 ⟨0, 0⟩).2).2).2.e ≠ 0) : rget s = (ro0, (rsome s 8 (rsome s 1099511627776 (rsome s 64 ⟨0, 0⟩).2).2).2.e) := by
  apply rget_stop h
  rw [ureads_stop h, rend_stop h]
theorem rget_4 {s : List UInt8} {i : Nat} (hi : i ≤ (rsome s 8 (rsome s 1099511627776 (rsome s 64 ⟨0, 0⟩).2).2).1) (h : (ureads s i (rsome s 8 (rsome s 1099511627776 (rsome s 64 ⟨0, 0⟩).2).2).2).2.e ≠ 0) : rget s = (ro0, (ureads s i (rsome s 8 (rsome s 1099511627776 (rsome s 64 ⟨0, 0⟩).2).2).2).2.e) := by
  apply rget_stop h
  obtain ⟨j, hj⟩ : ∃ j, (rsome s 8 (rsome s 1099511627776 (rsome s 64 ⟨0, 0⟩).2).2).1 = i + j := ⟨_, (Nat.add_sub_cancel' hi).symm⟩
  rw [hj, ureads_add]
  dsimp only
  rw [ureads_stop h, rend_stop h]
theorem rget_5 (s : List UInt8) : rget s = (if rend s (ureads s (rsome s 8 (rsome s 1099511627776 (rsome s 64 ⟨0, 0⟩).2).2).1 (rsome s 8 (rsome s 1099511627776 (rsome s 64 ⟨0, 0⟩).2).2).2).2 ≠ 0 then (ro0, rend s (ureads s (rsome s 8 (rsome s 1099511627776 (rsome s 64 ⟨0, 0⟩).2).2).1 (rsome s 8 (rsome s 1099511627776 (rsome s 64 ⟨0, 0⟩).2).2).2).2)
      else (⟨(rsome s 64 ⟨0, 0⟩).1, (rsome s 1099511627776 (rsome s 64 ⟨0, 0⟩).2).1, (ureads s (rsome s 8 (rsome s 1099511627776 (rsome s 64 ⟨0, 0⟩).2).2).1 (rsome s 8 (rsome s 1099511627776 (rsome s 64 ⟨0, 0⟩).2).2).2).1⟩, 0)) := rfl
/-- What is read in the head's round i. -/
def hd0 (s : List UInt8) : Nat → Nat × Rs
  | 0 => rsome s 64 ⟨0, 0⟩
  | 1 => rsome s 1099511627776 (rsome s 64 ⟨0, 0⟩).2
  | _ => rsome s 8 (rsome s 1099511627776 (rsome s 64 ⟨0, 0⟩).2).2
def hdR (s : List UInt8) : Nat → Rs
  | 0 => ⟨0, 0⟩
  | i + 1 => (hd0 s i).2
def hdL (s : List UInt8) : Nat → List Value
  | 0 => [.int .i64 64, .int .i64 1099511627776, .int .i64 8]
  | 1 => [nat .i64 (hd0 s 0).1, .int .i64 1099511627776, .int .i64 8]
  | 2 => [nat .i64 (hd0 s 0).1, nat .i64 (hd0 s 1).1, .int .i64 8]
  | _ => [nat .i64 (hd0 s 0).1, nat .i64 (hd0 s 1).1, nat .i64 (hd0 s 2).1]
def hdM : Nat → Nat
  | 0 => 64
  | 1 => 1099511627776
  | _ => 8
theorem hd0_eq (s : List UInt8) (i : Nat) (hi : i < 3) : hd0 s i = rsome s (hdM i) (hdR s i) := by
  match i, hi with
  | 0, _ => rfl
  | 1, _ => rfl
  | 2, _ => rfl
theorem hdR_le (s : List UInt8) (i : Nat) (h : i ≤ 3) : (hdR s i).at_ ≤ s.length := by
  induction i with
  | zero => exact Nat.zero_le _
  | succ i ih =>
    have e : hdR s (i + 1) = (rsome s (hdM i) (hdR s i)).2 := by rw [← hd0_eq s i (by omega)]; rfl
    rw [e]
    exact rsome_le (ih (by omega))
theorem rget_hd {s : List UInt8} {i : Nat} (hi : i < 3) (h : (hd0 s i).2.e ≠ 0) : rget s = (ro0, (hd0 s i).2.e) := by
  have e0 : hd0 s 0 = rsome s 64 ⟨0, 0⟩ := rfl
  have e1 : hd0 s 1 = rsome s 1099511627776 (rsome s 64 ⟨0, 0⟩).2 := rfl
  have e2 : hd0 s 2 = rsome s 8 (rsome s 1099511627776 (rsome s 64 ⟨0, 0⟩).2).2 := rfl
  have hc : i = 0 ∨ i = 1 ∨ i = 2 := by omega
  rcases hc with rfl | rfl | rfl
  · rw [e0] at h ⊢; exact rget_1 h
  · rw [e1] at h ⊢; exact rget_2 h
  · rw [e2] at h ⊢; exact rget_3 h
theorem hdL_len (s : List UInt8) (i : Nat) : (hdL s i).length = 3 := by
  match i with
  | 0 => rfl
  | 1 => rfl
  | 2 => rfl
  | _ + 3 => rfl
theorem hdL_at (s : List UInt8) (i : Nat) (hi : i < 3) : (hdL s i)[i]? = some (nat .i64 (hdM i)) := by
  match i, hi with
  | 0, _ => rfl
  | 1, _ => rfl
  | 2, _ => rfl
theorem hdL_set (s : List UInt8) (i : Nat) (hi : i < 3) : (hdL s i).set i (nat .i64 (hd0 s i).1) = hdL s (i + 1) := by
  match i, hi with
  | 0, _ => rfl
  | 1, _ => rfl
  | 2, _ => rfl
set_option maxHeartbeats 1000000 in
theorem refRget_sp (s : List UInt8) (hs : s.length ≤ 1000000) : Sp Tryz.prog 43 [str s] []
    (fun w M => ∃ v, w = .tuple [.agg (rv (rget s).1 v).toArray, nat .i64 (rget s).2].toArray ∧ M = [UL true v (rget s).1.ups]) := by
  refine Sp.intro (P := Tryz.prog) (Tryz.func43) rfl Tryz.ntmps43 (by decide) rfl ?_
  intro ρ F
  repeat' (first | (refine St_step ?_; (try with_reducible intro _)) | (refine St_step2 ?_ ?_ <;> (intro hb; (try simp only [beq_iff_eq, bne_iff_ne, decide_eq_true_eq, decide_eq_false_iff_not, Bool.not_eq_true', Bool.not_eq_false', beq_eq_false_iff_ne, bne_eq_false_iff_eq, ne_eq, Int.not_lt, Int.not_le, gt_iff_lt, ge_iff_le] at hb); (try (first | exact Bool.noConfusion hb | exact absurd trivial hb | (exfalso; omega))))) | fail)
  rename_i rb nb kb hb0
  refine St_loop (fun (i : Nat) => i ≤ 3 ∧ (hdR s i).e = 0) (fun i => [(2, .pointer (some ⟨rb, 0, none⟩)), (4, .pointer (some ⟨nb, 0, none⟩)), (5, .pointer (some ⟨kb, 0, none⟩)), (6, .slice (some ⟨hb0, 0, none⟩) 3 3), (7, nat .i64 i)]) (fun i => [cel false hb0 3 (hdL s i), Rf kb s (hdR s i), cel false nb 64 [.int .i64 0, .int .i64 0, .slice none 0 0], cel false rb 64 [.int .i64 0, .int .i64 0, .slice none 0 0], big F]) (fun i => 3 - i) 0 ⟨Nat.zero_le _, rfl⟩ ⟨rfl, rfl, rfl, rfl, rfl, trivial⟩ (by exact Split.auto) ?_
  rintro i ⟨hi, hie⟩
  by_cases hi3 : i < 3
  · have hRl := hdR_le s i hi
    have c1 := fnumber_sp kb s (hdR s i) (hdM i) hs hRl (by unfold hdM; split <;> decide)
    have hat : (hdL s i)[0 + (i : Int).toNat * 1]? = some (nat .i64 (hdM i)) := by
      rw [Int.toNat_natCast, Nat.mul_one, Nat.zero_add]; exact hdL_at s i hi3
    have hlen : 0 + (i : Int).toNat * 1 < (hdL s i).length := by rw [hdL_len]; omega
    have h0 := hd0_eq s i hi3
    have hze := rnum_e (s := s) (lim := hdM i) (r := hdR s i)
    have hq0 : (rnum s (hdM i) (hdR s i)).1 = (hd0 s i).1 := by rw [h0]; rfl
    have hset : (hdL s i).set (0 + (i : Int).toNat * 1) (nat .i64 (rnum s (hdM i) (hdR s i)).1) = hdL s (i + 1) := by
      rw [Int.toNat_natCast, Nat.mul_one, Nat.zero_add, hq0]; exact hdL_set s i hi3
    have hat2 : (hdL s (i + 1))[0 + (i : Int).toNat * 1]? = some (nat .i64 (rnum s (hdM i) (hdR s i)).1) := by
      rw [← hset, List.getElem?_set_self hlen]
    have hrg := fun h => rget_hd (s := s) hi3 h
    have hnx : hdR s (i + 1) = (hd0 s i).2 := rfl
    unfold rsome at h0
    generalize hq : rnum s (hdM i) (hdR s i) = q at *
    obtain ⟨n, a, e⟩ := q
    dsimp only at *
    repeat' (first | (apply St_call (hf := c1); exact rfl; exact rfl; exact Split.auto; rintro _ _ ⟨rfl, rfl⟩) | (apply St_store1n tb; exact rfl; exact rfl; exact rfl; exact rfl; exact rfl; exact Has.auto; exact hlen; refine St_cel (r := false) (b := hb0) (cs' := hdL s (i + 1)) (by exact Has.auto) hset ?_) | (apply St_rd; exact rfl; (first | (apply Rd_loadn tb; exact rfl; exact rfl; exact rfl; exact Has.auto; exact hat) | (apply Rd_loadn tb; exact rfl; exact rfl; exact rfl; exact Has.auto; exact hat2))) | (apply Sq_rd; exact rfl; (first | (apply Rd_loadn tb; exact rfl; exact rfl; exact rfl; exact Has.auto; exact hat) | (apply Rd_loadn tb; exact rfl; exact rfl; exact rfl; exact Has.auto; exact hat2))) | (refine St_step ?_; (try with_reducible intro _)) | (refine St_step2 ?_ ?_ <;> (intro hb; (try simp only [beq_iff_eq, bne_iff_ne, decide_eq_true_eq, decide_eq_false_iff_not, Bool.not_eq_true', Bool.not_eq_false', beq_eq_false_iff_ne, bne_eq_false_iff_eq, ne_eq, Int.not_lt, Int.not_le, gt_iff_lt, ge_iff_le] at hb); (try (first | exact Bool.noConfusion hb | exact absurd trivial hb | (exfalso; omega))))) | fail)
    · have he : e = 0 := by omega
      have hn : n = 0 := by omega
      subst he hn
      simp only [if_true, rfailR, rfail] at h0
      rw [h0] at hrg
      have hrg := hrg (fun h => by cases h)
      dsimp only at hrg
      rw [hrg]
      repeat' (first | (apply St_regionA (1000) ([cel false nb 64 [.int .i64 0, .int .i64 0, .slice none 0 0], cel false kb 119 [str s, nat .i64 a, .int .i64 1]]); kernel_rfl; (apply Sa_take 0; exact rfl; kernel_rfl; exact PanicOk.auto; exact rfl; (first | exact Rd_auto)); (apply Sa_take 1; exact rfl; kernel_rfl; exact PanicOk.auto; exact rfl; (first | exact Rd_auto)); (apply Sa_take 2; exact rfl; kernel_rfl; exact PanicOk.auto; exact rfl; (first | exact Rd_auto)); (apply Sa_take 3; exact rfl; kernel_rfl; exact PanicOk.auto; exact rfl; (first | exact Rd_auto)); (apply Sa_take 4; exact rfl; kernel_rfl; exact PanicOk.auto; exact rfl; (first | exact Rd_auto)); (apply Sa_one (i := 5); kernel_rfl; exact .inr (by exact Split.auto)); (apply Sa_op; exact rfl; exact rfl); (first | (refine St_step ?_; (try with_reducible intro _)) | (refine St_step2 ?_ ?_ <;> (intro hb; (try simp only [beq_iff_eq, bne_iff_ne, decide_eq_true_eq, decide_eq_false_iff_not, Bool.not_eq_true', Bool.not_eq_false', beq_eq_false_iff_ne, bne_eq_false_iff_eq, ne_eq, Int.not_lt, Int.not_le, gt_iff_lt, ge_iff_le] at hb); (try (first | exact Bool.noConfusion hb | exact absurd trivial hb | (exfalso; omega))))) | fail); (apply Sa_take 6; exact rfl; kernel_rfl; exact PanicOk.auto; exact rfl; (first | exact Rd_auto)); (apply Sa_done; kernel_rfl; exact .inr (by exact Split.auto))) | (refine St_step ?_; (try with_reducible intro _)) | (refine St_step2 ?_ ?_ <;> (intro hb; (try simp only [beq_iff_eq, bne_iff_ne, decide_eq_true_eq, decide_eq_false_iff_not, Bool.not_eq_true', Bool.not_eq_false', beq_eq_false_iff_ne, bne_eq_false_iff_eq, ne_eq, Int.not_lt, Int.not_le, gt_iff_lt, ge_iff_le] at hb); (try (first | exact Bool.noConfusion hb | exact absurd trivial hb | (exfalso; omega))))) | fail)
      refine St_conv (L' := UL true (.slice none 0 0) [] :: _) (fun w H => Holds.rs_nil H) ?_
      exact St_retCT tb (.inl rfl) rfl rfl rfl rfl rfl (by exact Has.auto) rfl ⟨_, rfl, rfl⟩ (by exact Split.auto)
    · have he : e = 0 := by omega
      have hn : ¬ n = 0 := by omega
      subst he
      rw [if_neg hn] at h0
      rw [h0] at hnx
      refine St_at (i + 1) ⟨⟨by omega, by rw [hnx]⟩, by omega⟩ ⟨rfl, rfl, rfl, rfl, rfl, trivial⟩ (by rw [hnx]; exact Split.auto)
    · have he : ¬ e = 0 := by omega
      have hn : n = 0 := hze he
      subst hn
      have hfs : rfailR ⟨a, e⟩ 1 = ⟨a, e⟩ := rfailR_stop he
      simp only [if_true, hfs] at h0
      rw [h0] at hrg
      have hrg := hrg he
      dsimp only at hrg
      rw [hrg]
      repeat' (first | (apply St_regionA (1000) ([cel false nb 64 [.int .i64 0, .int .i64 0, .slice none 0 0], Rf kb s ⟨a, e⟩]); kernel_rfl; (apply Sa_take 0; exact rfl; kernel_rfl; exact PanicOk.auto; exact rfl; (first | exact Rd_auto)); (apply Sa_take 1; exact rfl; kernel_rfl; exact PanicOk.auto; exact rfl; (first | exact Rd_auto)); (apply Sa_take 2; exact rfl; kernel_rfl; exact PanicOk.auto; exact rfl; (first | exact Rd_auto)); (apply Sa_take 3; exact rfl; kernel_rfl; exact PanicOk.auto; exact rfl; (first | exact Rd_auto)); (apply Sa_take 4; exact rfl; kernel_rfl; exact PanicOk.auto; exact rfl; (first | exact Rd_auto)); (apply Sa_one (i := 5); kernel_rfl; exact .inr (by exact Split.auto)); (apply Sa_op; exact rfl; exact rfl); (first | (refine St_step ?_; (try with_reducible intro _)) | (refine St_step2 ?_ ?_ <;> (intro hb; (try simp only [beq_iff_eq, bne_iff_ne, decide_eq_true_eq, decide_eq_false_iff_not, Bool.not_eq_true', Bool.not_eq_false', beq_eq_false_iff_ne, bne_eq_false_iff_eq, ne_eq, Int.not_lt, Int.not_le, gt_iff_lt, ge_iff_le] at hb); (try (first | exact Bool.noConfusion hb | exact absurd trivial hb | (exfalso; omega))))) | fail); (apply Sa_take 6; exact rfl; kernel_rfl; exact PanicOk.auto; exact rfl; (first | exact Rd_auto)); (apply Sa_done; kernel_rfl; exact .inr (by exact Split.auto))) | (refine St_step ?_; (try with_reducible intro _)) | (refine St_step2 ?_ ?_ <;> (intro hb; (try simp only [beq_iff_eq, bne_iff_ne, decide_eq_true_eq, decide_eq_false_iff_not, Bool.not_eq_true', Bool.not_eq_false', beq_eq_false_iff_ne, bne_eq_false_iff_eq, ne_eq, Int.not_lt, Int.not_le, gt_iff_lt, ge_iff_le] at hb); (try (first | exact Bool.noConfusion hb | exact absurd trivial hb | (exfalso; omega))))) | fail)
      refine St_conv (L' := UL true (.slice none 0 0) [] :: _) (fun w H => Holds.rs_nil H) ?_
      exact St_retCT tb (.inl rfl) rfl rfl rfl rfl rfl (by exact Has.auto) rfl ⟨_, rfl, rfl⟩ (by exact Split.auto)
  · have hii : i = 3 := by omega
    subst hii
    have e0 : hd0 s 0 = rsome s 64 ⟨0, 0⟩ := rfl
    have e1 : hd0 s 1 = rsome s 1099511627776 (hd0 s 0).2 := rfl
    have e2 : hd0 s 2 = rsome s 8 (hd0 s 1).2 := rfl
    have eR : hdR s 3 = (hd0 s 2).2 := rfl
    have eL : hdL s 3 = [nat .i64 (hd0 s 0).1, nat .i64 (hd0 s 1).1, nat .i64 (hd0 s 2).1] := rfl
    have l3 := hdR_le s 3 (Nat.le_refl _)
    have m3 := rsome_lim (s := s) (lim := 8) (r := (hd0 s 1).2)
    have er := rget_5 s
    have e4 := fun i h1 h2 => rget_4 (s := s) (i := i) h1 h2
    rw [← e0, ← e1, ← e2] at er
    rw [← e0, ← e1, ← e2] at e4
    rw [← e2] at m3
    rw [eL]
    rw [eR] at l3 hie
    rw [eR]
    generalize hd0 s 0 = q1 at *
    generalize hd0 s 1 = q2 at *
    generalize hd0 s 2 = q3 at *
    obtain ⟨o, r1⟩ := q1
    obtain ⟨n, r2⟩ := q2
    obtain ⟨m, r3⟩ := q3
    clear e0 e1 e2 eR eL
    dsimp only at *
    have hfl := fun i => SL.flat_len uv_len (ureads s i r3).1
    have hll := fun i => ureads_length (s := s) i (r := r3)
    have hle := fun i => ureads_le (s := s) i l3
    repeat' (first | (apply St_regionA (8) ([cel false hb0 3 [nat .i64 o, nat .i64 n, nat .i64 m]]); kernel_rfl; (apply Sa_take 0; exact rfl; kernel_rfl; exact PanicOk.auto; exact rfl; (first | exact Rd_auto)); (apply Sa_take 1; exact rfl; kernel_rfl; exact PanicOk.auto; exact rfl; (first | exact Rd_auto)); (apply Sa_take 2; exact rfl; kernel_rfl; exact PanicOk.auto; exact rfl; (first | exact Rd_auto)); (apply Sa_take 3; exact rfl; kernel_rfl; exact PanicOk.auto; exact rfl; (first | exact Rd_auto)); (apply Sa_take 4; exact rfl; kernel_rfl; exact PanicOk.auto; exact rfl; (first | exact Rd_auto)); (apply Sa_take 5; exact rfl; kernel_rfl; exact PanicOk.auto; exact rfl; (first | exact Rd_auto)); (apply Sa_take 6; exact rfl; kernel_rfl; exact PanicOk.auto; exact rfl; (first | exact Rd_auto)); (apply Sa_one (i := 7); kernel_rfl; exact .inr (by exact Split.auto)); (apply Sa_op; exact rfl; exact rfl); (first | (refine St_step ?_; (try with_reducible intro _)) | (refine St_step2 ?_ ?_ <;> (intro hb; (try simp only [beq_iff_eq, bne_iff_ne, decide_eq_true_eq, decide_eq_false_iff_not, Bool.not_eq_true', Bool.not_eq_false', beq_eq_false_iff_ne, bne_eq_false_iff_eq, ne_eq, Int.not_lt, Int.not_le, gt_iff_lt, ge_iff_le] at hb); (try (first | exact Bool.noConfusion hb | exact absurd trivial hb | (exfalso; omega))))) | fail); (apply Sa_one (i := 8); kernel_rfl; exact .inr (by exact Split.auto)); (apply Sa_op; exact rfl; exact rfl); (first | (refine St_step ?_; (try with_reducible intro _)) | (refine St_step2 ?_ ?_ <;> (intro hb; (try simp only [beq_iff_eq, bne_iff_ne, decide_eq_true_eq, decide_eq_false_iff_not, Bool.not_eq_true', Bool.not_eq_false', beq_eq_false_iff_ne, bne_eq_false_iff_eq, ne_eq, Int.not_lt, Int.not_le, gt_iff_lt, ge_iff_le] at hb); (try (first | exact Bool.noConfusion hb | exact absurd trivial hb | (exfalso; omega))))) | fail); (apply Sa_done (R := []); kernel_rfl; refine .inl ?_; kernel_rfl)) | (refine St_step ?_; (try with_reducible intro _)) | (refine St_step2 ?_ ?_ <;> (intro hb; (try simp only [beq_iff_eq, bne_iff_ne, decide_eq_true_eq, decide_eq_false_iff_not, Bool.not_eq_true', Bool.not_eq_false', beq_eq_false_iff_ne, bne_eq_false_iff_eq, ne_eq, Int.not_lt, Int.not_le, gt_iff_lt, ge_iff_le] at hb); (try (first | exact Bool.noConfusion hb | exact absurd trivial hb | (exfalso; omega))))) | fail)
    rename_i ub
    refine St_slNil (E := 73) (sz := 4) ?_
    refine St_loop (fun (z : Nat × Value) => z.1 ≤ m ∧ (ureads s z.1 r3).2.e = 0 ∧ ∃ A c, z.2 = .slice A z.1 c) (fun z => [(2, .pointer (some ⟨rb, 0, none⟩)), (4, .pointer (some ⟨nb, 0, none⟩)), (5, .pointer (some ⟨kb, 0, none⟩)), (6, .slice (some ⟨hb0, 0, none⟩) 3 3), (8, .pointer (some ⟨ub, 0, none⟩)), (9, nat .i64 z.1)]) (fun z => [cel false ub 64 [nat .i64 o, nat .i64 n, z.2], Sl 73 4 z.2 z.1 ((ureads s z.1 r3).1.flatMap uv), Rf kb s (ureads s z.1 r3).2, cel false hb0 3 [nat .i64 o, nat .i64 n, nat .i64 m], cel false nb 64 [.int .i64 0, .int .i64 0, .slice none 0 0], cel false rb 64 [.int .i64 0, .int .i64 0, .slice none 0 0], big F]) (fun z => m - z.1) (0, .slice none 0 0) ⟨Nat.zero_le _, hie, _, _, rfl⟩ ⟨rfl, rfl, rfl, rfl, rfl, rfl, trivial⟩ (by exact Split.auto) ?_
    rintro ⟨i, v⟩ ⟨hi, hie, A, c, hv⟩
    have hi : i ≤ m := hi
    have hie : (ureads s i r3).2.e = 0 := hie
    have hv : v = .slice A i c := hv
    subst hv
    by_cases him : i < m
    · have hfi := hfl i
      have hli := hll i
      have cu := fread_sp kb s (ureads s i r3).2 hs (hle i)
      have hnext : (ureads s (i + 1) r3).1.flatMap uv = (ureads s i r3).1.flatMap uv ++ uv (uread s (ureads s i r3).2).1 := by rw [ureads, List.flatMap_append]; simp
      have hnext2 : (ureads s (i + 1) r3).2 = (uread s (ureads s i r3).2).2 := rfl
      rw [← hnext2] at cu
      generalize (uread s (ureads s i r3).2).1 = u at *
      dsimp only
      by_cases hue : (ureads s (i + 1) r3).2.e = 0
      · repeat' (first | (apply St_call (hf := cu); exact rfl; exact rfl; exact Split.auto; rintro _ _ ⟨rfl, rfl⟩) | (apply St_append tb (sz := 4); (repeat exact rfl); exact Has.auto; (intro _; exact Src.row (n := 1) (by exact Has.auto) (by simp) (by exact rfl)); exact rfl; (dsimp only; omega); intro v'; refine St_slIs (by exact Has.auto) ?_; rintro A' c' rfl) | (refine St_step ?_; (try with_reducible intro _)) | (refine St_step2 ?_ ?_ <;> (intro hb; (try simp only [beq_iff_eq, bne_iff_ne, decide_eq_true_eq, decide_eq_false_iff_not, Bool.not_eq_true', Bool.not_eq_false', beq_eq_false_iff_ne, bne_eq_false_iff_eq, ne_eq, Int.not_lt, Int.not_le, gt_iff_lt, ge_iff_le] at hb); (try (first | exact Bool.noConfusion hb | exact absurd trivial hb | (exfalso; omega))))) | fail)
        all_goals first | (exfalso; omega) | skip
        refine St_slEq (cs' := (ureads s (i + 1) r3).1.flatMap uv) (n' := i + 1) (by exact Has.auto) (by rw [hnext]; rfl) rfl ?_
        exact St_at (i + 1, .slice A' (i + 1) c') ⟨⟨by show i + 1 ≤ m; omega, hue, _, _, rfl⟩, by show m - (i + 1) < m - i; omega⟩ ⟨rfl, rfl, rfl, rfl, rfl, rfl, trivial⟩ (by exact Split.auto)
      · rw [e4 (i + 1) (by omega) hue]
        generalize ureads s (i + 1) r3 = q9 at *
        obtain ⟨l9, a9, e9⟩ := q9
        dsimp only at *
        repeat' (first | (apply St_call (hf := cu); exact rfl; exact rfl; exact Split.auto; rintro _ _ ⟨rfl, rfl⟩) | (apply St_regionA (1000) ([cel false nb 64 [.int .i64 0, .int .i64 0, .slice none 0 0], Rf kb s ⟨a9, e9⟩]); kernel_rfl; (apply Sa_take 0; exact rfl; kernel_rfl; exact PanicOk.auto; exact rfl; (first | exact Rd_auto)); (apply Sa_take 1; exact rfl; kernel_rfl; exact PanicOk.auto; exact rfl; (first | exact Rd_auto)); (apply Sa_take 2; exact rfl; kernel_rfl; exact PanicOk.auto; exact rfl; (first | exact Rd_auto)); (apply Sa_take 3; exact rfl; kernel_rfl; exact PanicOk.auto; exact rfl; (first | exact Rd_auto)); (apply Sa_take 4; exact rfl; kernel_rfl; exact PanicOk.auto; exact rfl; (first | exact Rd_auto)); (apply Sa_one (i := 5); kernel_rfl; exact .inr (by exact Split.auto)); (apply Sa_op; exact rfl; exact rfl); (first | (refine St_step ?_; (try with_reducible intro _)) | (refine St_step2 ?_ ?_ <;> (intro hb; (try simp only [beq_iff_eq, bne_iff_ne, decide_eq_true_eq, decide_eq_false_iff_not, Bool.not_eq_true', Bool.not_eq_false', beq_eq_false_iff_ne, bne_eq_false_iff_eq, ne_eq, Int.not_lt, Int.not_le, gt_iff_lt, ge_iff_le] at hb); (try (first | exact Bool.noConfusion hb | exact absurd trivial hb | (exfalso; omega))))) | fail); (apply Sa_take 6; exact rfl; kernel_rfl; exact PanicOk.auto; exact rfl; (first | exact Rd_auto)); (apply Sa_done; kernel_rfl; exact .inr (by exact Split.auto))) | (refine St_step ?_; (try with_reducible intro _)) | (refine St_step2 ?_ ?_ <;> (intro hb; (try simp only [beq_iff_eq, bne_iff_ne, decide_eq_true_eq, decide_eq_false_iff_not, Bool.not_eq_true', Bool.not_eq_false', beq_eq_false_iff_ne, bne_eq_false_iff_eq, ne_eq, Int.not_lt, Int.not_le, gt_iff_lt, ge_iff_le] at hb); (try (first | exact Bool.noConfusion hb | exact absurd trivial hb | (exfalso; omega))))) | fail)
        all_goals first | (exfalso; omega) | skip
        refine St_conv (L' := UL true (.slice none 0 0) [] :: _) (fun w H => Holds.rs_nil H) ?_
        exact St_retCT tb (.inl rfl) rfl rfl rfl rfl rfl (by exact Has.auto) rfl ⟨_, rfl, rfl⟩ (by exact Split.auto)
    · have hmi : i = m := by omega
      subst hmi
      dsimp only
      have ce := fend_sp kb s (ureads s i r3).2 hs (hle i)
      refine St_slShare (by exact Has.auto) ?_
      rw [er]
      by_cases he : rend s (ureads s i r3).2 = 0
      · rw [if_neg (fun h => h he)]
        rw [he] at ce
        have e2 : (ureads s i r3).1.length = i := hll i
        refine St_pull (A := UL true (.slice A i c) (ureads s i r3).1) (by show Has _ (RS true _ (ureads s i r3).1.length _) _; rw [e2]; exact Has.auto) ?_
        repeat' (first | (apply St_call (hf := ce); exact rfl; exact rfl; exact Split.auto; rintro _ _ ⟨rfl, rfl⟩) | (refine St_step ?_; (try with_reducible intro _)) | (refine St_step2 ?_ ?_ <;> (intro hb; (try simp only [beq_iff_eq, bne_iff_ne, decide_eq_true_eq, decide_eq_false_iff_not, Bool.not_eq_true', Bool.not_eq_false', beq_eq_false_iff_ne, bne_eq_false_iff_eq, ne_eq, Int.not_lt, Int.not_le, gt_iff_lt, ge_iff_le] at hb); (try (first | exact Bool.noConfusion hb | exact absurd trivial hb | (exfalso; omega))))) | fail)
        all_goals first | (exfalso; omega) | skip
        exact St_retCT tb (.inl rfl) rfl rfl rfl rfl rfl (by exact Has.auto) rfl ⟨_, rfl, rfl⟩ (by exact Split.auto)
      · rw [if_pos he]
        refine St_conv (L' := UL true (.slice none 0 0) [] :: _) (fun w H => Holds.rs_nil H) ?_
        repeat' (first | (apply St_call (hf := ce); exact rfl; exact rfl; exact Split.auto; rintro _ _ ⟨rfl, rfl⟩) | (refine St_step ?_; (try with_reducible intro _)) | (refine St_step2 ?_ ?_ <;> (intro hb; (try simp only [beq_iff_eq, bne_iff_ne, decide_eq_true_eq, decide_eq_false_iff_not, Bool.not_eq_true', Bool.not_eq_false', beq_eq_false_iff_ne, bne_eq_false_iff_eq, ne_eq, Int.not_lt, Int.not_le, gt_iff_lt, ge_iff_le] at hb); (try (first | exact Bool.noConfusion hb | exact absurd trivial hb | (exfalso; omega))))) | fail)
        all_goals first | (exfalso; omega) | skip
        exact St_retCT tb (.inl rfl) rfl rfl rfl rfl rfl (by exact Has.auto) rfl ⟨_, rfl, rfl⟩ (by exact Split.auto)
end Go.Proofs.YtfjnacakpeommaaGreatDoor
/- Contracts: chapbookref14, chapbookref15. -/
namespace Go.Proofs.YtfjnacakpeommaaGreatDoor
open Go SL Pl
set_option autoImplicit false
set_option maxRecDepth 100000
set_option linter.unusedSimpArgs false
set_option linter.unusedVariables false
attribute [local irreducible] St Sq Exec QExec wpList wpQuiet Code.wp Exit.then Exit.inBlock bodyPost At Rd wpOp Wa QK GB
def lgFL (b clients : Nat) (l : List Ro) (z : (Option Addr × Nat) × List (Ro × Value)) : List HP :=
  [lift (z.2.map (·.1) = l), cel false b 61 [nat .i64 clients, .slice z.1.1 l.length z.1.2], RS true (.slice z.1.1 l.length z.1.2) l.length (z.2.flatMap rvp), ULs z.2]
def LgF (b clients : Nat) (l : List Ro) : HP := ex fun z => big (lgFL b clients l z)
section
variable {ρ : Rst} {N : Nat} {env : Env} {L L' : List HP} {G : Act → World → Prop}
theorem St_lgfOpen {b n : Nat} {l : List Ro} (hc : Has L (LgF b n l) L') (h : ∀ (A : Option Addr) (c : Nat) (xs : List (Ro × Value)), xs.map (·.1) = l →
    St ρ N env (cel false b 61 [nat .i64 n, .slice A l.length c] :: RS true (.slice A l.length c) l.length (xs.flatMap rvp) :: ULs xs :: L') G) : St ρ N env L G :=
  St_exOpen (l := lgFL b n l) hc fun z => St_lift fun hz => h z.1.1 z.1.2 z.2 hz
theorem St_lgfMk {b n : Nat} {l : List Ro} {A : Option Addr} {c : Nat} {xs : List (Ro × Value)} (h1 : xs.map (·.1) = l)
    (hs : Split L [cel false b 61 [nat .i64 n, .slice A l.length c], RS true (.slice A l.length c) l.length (xs.flatMap rvp), ULs xs] L') (h : St ρ N env (LgF b n l :: L') G) : St ρ N env L G :=
  St_conv (fun w H => Holds.ex_mk (A := fun z => big (lgFL b n l z)) ((A, c), xs) (Holds.shut (l := [_, _, _, _]) (Holds.lift_mk h1 (H.split hs)))) h
end
theorem lgfNew_sp (n : Int) (h1 : 1 ≤ n) (h2 : n ≤ 64) : Sp Tryz.prog 30 [.int .i64 n] [] (fun w M => ∃ b, w = .pointer (some ⟨b, 0, none⟩) ∧ M = [LgF b n.toNat []]) := by
  refine Sp.intro (P := Tryz.prog) (Tryz.func30) rfl Tryz.ntmps30 (by decide) rfl ?_
  intro ρ F
  obtain ⟨m, hm⟩ : ∃ m : Nat, n = m := ⟨n.toNat, by omega⟩
  subst hm
  repeat' (first | (refine St_step ?_; (try with_reducible intro _)) | (refine St_step2 ?_ ?_ <;> (intro hb; (try simp only [beq_iff_eq, bne_iff_ne, decide_eq_true_eq, decide_eq_false_iff_not, Bool.not_eq_true', Bool.not_eq_false', beq_eq_false_iff_ne, bne_eq_false_iff_eq, ne_eq, Int.not_lt, Int.not_le, gt_iff_lt, ge_iff_le] at hb); (try (first | exact Bool.noConfusion hb | exact absurd trivial hb | (exfalso; omega))))) | fail)
  all_goals first | (exfalso; omega) | skip
  rename_i b
  refine St_conv (L' := RS true (.slice none 0 0) 0 [] :: _) (fun w H => Holds.rs_nil H) ?_
  refine St_ulNil ?_
  refine St_lgfMk (b := b) (n := m) (l := []) (A := none) (c := 0) (xs := []) rfl (by exact Split.auto) ?_
  exact St_ret1 (.inl rfl) rfl rfl ⟨_, rfl, rfl⟩ (by exact Split.auto)
theorem lgfLast_sp (b n : Nat) (l : List Ro) (o : Int) (hl : l.length ≤ 1000000) (hm : ∀ r ∈ l, rmay r = 0) : Sp Tryz.prog 85 [.pointer (some ⟨b, 0, none⟩), .int .i64 o] [LgF b n l]
    (fun w M => w = nat .i64 (lastOf l o) ∧ M = [LgF b n l]) := by
  refine Sp.intro (P := Tryz.prog) (Tryz.func85) rfl Tryz.ntmps85 (by decide) rfl ?_
  intro ρ F
  refine St_lgfOpen (by exact Has.auto) fun A c xs hxs => ?_
  have hxl : xs.length = l.length := by rw [← hxs, List.length_map]
  repeat' (first | (refine St_step ?_; (try with_reducible intro _)) | (refine St_step2 ?_ ?_ <;> (intro hb; (try simp only [beq_iff_eq, bne_iff_ne, decide_eq_true_eq, decide_eq_false_iff_not, Bool.not_eq_true', Bool.not_eq_false', beq_eq_false_iff_ne, bne_eq_false_iff_eq, ne_eq, Int.not_lt, Int.not_le, gt_iff_lt, ge_iff_le] at hb); (try (first | exact Bool.noConfusion hb | exact absurd trivial hb | (exfalso; omega))))) | fail)
  refine St_loop (fun (i : Nat) => i ≤ l.length) (fun i => [(0, .pointer (some ⟨b, 0, none⟩)), (1, .int .i64 o), (5, nat .i64 (lastOf (l.take i) o)), (6, nat .i64 i)]) (fun i => [cel false b 61 [nat .i64 n, .slice A l.length c], RS true (.slice A l.length c) l.length (xs.flatMap rvp), ULs xs, big F]) (fun i => l.length - i) 0 (Nat.zero_le _) ⟨rfl, rfl, rfl, rfl, trivial⟩ (by exact Split.auto) ?_
  intro i hi
  by_cases hil : i < l.length
  · obtain ⟨⟨r, u⟩, hz⟩ : ∃ z, xs[i]? = some z := ⟨_, List.getElem?_eq_getElem (by omega)⟩
    have hr : l[i]? = some r := by rw [← hxs, List.getElem?_map, hz]; rfl
    obtain ⟨_, ⟨n1, n2⟩, _⟩ := rmay_ups (hm r (List.mem_of_getElem? hr))
    obtain ⟨m, hmn⟩ : ∃ m : Nat, r.number = m := ⟨r.number.toNat, by omega⟩
    have hsn : lastOf (l.take (i + 1)) o = if r.origin = o then m else lastOf (l.take i) o := by
      have e : l.take (i + 1) = l.take i ++ [r] := by rw [List.take_add_one, hr]; rfl
      rw [e, lastOf_snoc _ _ _ n1, hmn]
      rfl
    refine St_rsOpen (r := true) (v := .slice A l.length c) (n := l.length) (cs := xs.flatMap rvp) (by exact Has.auto) (by omega) ?_
    rintro b3 T3 cap3 pre3 rest3 hv3
    injection hv3 with q1 q2 q3
    subst q1 q3
    have h0 : (pre3 ++ xs.flatMap rvp ++ rest3)[pre3.length + (i : Int).toNat * 3 + 0]? = some (.int .i64 r.origin) := by
      rw [Int.toNat_natCast]; exact flat_cell rvp_len (us := xs) (i := i) (j := 0) (u := (r, u)) pre3 rest3 hz (by decide)
    have h1 : (pre3 ++ xs.flatMap rvp ++ rest3)[pre3.length + (i : Int).toNat * 3 + 1]? = some (nat .i64 m) := by
      rw [Int.toNat_natCast]; rw [flat_cell rvp_len (us := xs) (i := i) (j := 1) (u := (r, u)) pre3 rest3 hz (by decide)]
      show some (Value.int .i64 r.number) = _
      rw [hmn]
    by_cases ho : r.origin = o
    · rw [if_pos ho] at hsn
      repeat' (first | (apply St_rd; exact rfl; (first | (apply Rd_loadn tb; exact rfl; exact rfl; exact rfl; exact Has.auto; exact h0) | (apply Rd_loadn tb; exact rfl; exact rfl; exact rfl; exact Has.auto; exact h1))) | (apply Sq_rd; exact rfl; (first | (apply Rd_loadn tb; exact rfl; exact rfl; exact rfl; exact Has.auto; exact h0) | (apply Rd_loadn tb; exact rfl; exact rfl; exact rfl; exact Has.auto; exact h1))) | (refine St_step ?_; (try with_reducible intro _)) | (refine St_step2 ?_ ?_ <;> (intro hb; (try simp only [beq_iff_eq, bne_iff_ne, decide_eq_true_eq, decide_eq_false_iff_not, Bool.not_eq_true', Bool.not_eq_false', beq_eq_false_iff_ne, bne_eq_false_iff_eq, ne_eq, Int.not_lt, Int.not_le, gt_iff_lt, ge_iff_le] at hb); (try (first | exact Bool.noConfusion hb | exact absurd trivial hb | (exfalso; omega))))) | fail)
      all_goals first | (exfalso; omega) | skip
      refine St_rsMk (r := true) (n := l.length) (cap := c) (pre := pre3) (cs := xs.flatMap rvp) (rest := rest3) (by exact Has.auto) ?_
      exact St_at (i + 1) ⟨hil, by omega⟩ ⟨rfl, rfl, by rw [hsn]; rfl, rfl, trivial⟩ (by exact Split.auto)
    · rw [if_neg ho] at hsn
      repeat' (first | (apply St_rd; exact rfl; (first | (apply Rd_loadn tb; exact rfl; exact rfl; exact rfl; exact Has.auto; exact h0) | (apply Rd_loadn tb; exact rfl; exact rfl; exact rfl; exact Has.auto; exact h1))) | (apply Sq_rd; exact rfl; (first | (apply Rd_loadn tb; exact rfl; exact rfl; exact rfl; exact Has.auto; exact h0) | (apply Rd_loadn tb; exact rfl; exact rfl; exact rfl; exact Has.auto; exact h1))) | (refine St_step ?_; (try with_reducible intro _)) | (refine St_step2 ?_ ?_ <;> (intro hb; (try simp only [beq_iff_eq, bne_iff_ne, decide_eq_true_eq, decide_eq_false_iff_not, Bool.not_eq_true', Bool.not_eq_false', beq_eq_false_iff_ne, bne_eq_false_iff_eq, ne_eq, Int.not_lt, Int.not_le, gt_iff_lt, ge_iff_le] at hb); (try (first | exact Bool.noConfusion hb | exact absurd trivial hb | (exfalso; omega))))) | fail)
      all_goals first | (exfalso; omega) | skip
      refine St_rsMk (r := true) (n := l.length) (cap := c) (pre := pre3) (cs := xs.flatMap rvp) (rest := rest3) (by exact Has.auto) ?_
      exact St_at (i + 1) ⟨hil, by omega⟩ ⟨rfl, rfl, by rw [hsn]; rfl, rfl, trivial⟩ (by exact Split.auto)
  · have hii : i = l.length := by omega
    subst hii
    rw [List.take_length]
    repeat' (first | (refine St_step ?_; (try with_reducible intro _)) | (refine St_step2 ?_ ?_ <;> (intro hb; (try simp only [beq_iff_eq, bne_iff_ne, decide_eq_true_eq, decide_eq_false_iff_not, Bool.not_eq_true', Bool.not_eq_false', beq_eq_false_iff_ne, bne_eq_false_iff_eq, ne_eq, Int.not_lt, Int.not_le, gt_iff_lt, ge_iff_le] at hb); (try (first | exact Bool.noConfusion hb | exact absurd trivial hb | (exfalso; omega))))) | fail)
    all_goals first | (exfalso; omega) | skip
    refine St_lgfMk (b := b) (n := n) (l := l) (A := A) (c := c) (xs := xs) hxs (by exact Split.auto) ?_
    exact St_ret1 (.inl rfl) rfl rfl ⟨rfl, rfl⟩ (by exact Split.auto)
theorem uv_ok (l : List Up) : (l.flatMap uv).all Value.oneCell' = true := by
  induction l with
  | nil => rfl
  | cons u l ih => rw [List.flatMap_cons, List.all_append, ih]; rfl
theorem Holds.ul_get {ρ : Rst} {w : World} {L : List HP} {xs : List (Ro × Value)} {x : Ro × Value} (hx : x ∈ xs) (H : Holds ρ w (ULs xs :: L)) : Holds ρ w (ulp x :: ULs xs :: L) :=
  H.mono fun _ y => star_assoc' (star_mono (fun _ a => big_dup (dup_rs _ _ _) (List.mem_map.2 ⟨x, hx, rfl⟩) a) (fun _ b => b) y)
theorem Holds.ul_ok {ρ : Rst} {w : World} {L : List HP} {xs : List (Ro × Value)} (H : Holds ρ w (ULs xs :: L)) : (xs.flatMap rvp).all Value.oneCell' = true := by
  have h1 : ∀ z ∈ xs, z.2.oneCell' = true := fun z hz => by
    rcases (Holds.ul_get hz H).rs with ⟨_, _, ⟨A, c, e⟩, _⟩ | ⟨b, T, cap, pre, rest, e, _⟩
    · rw [e]; rfl
    · rw [e]; rfl
  clear H
  induction xs with
  | nil => rfl
  | cons z xs ih =>
    rw [List.flatMap_cons, List.all_append, ih fun z hz => h1 z (List.mem_cons_of_mem _ hz)]
    have := h1 z List.mem_cons_self
    rw [show (rvp z).all Value.oneCell' = z.2.oneCell' from by show (true && (true && (z.2.oneCell' && true))) = _; simp, this]
    rfl
theorem St_ulOk {ρ : Rst} {N : Nat} {env : Env} {L L' : List HP} {G : Act → World → Prop} {xs : List (Ro × Value)} (hc : Has L (ULs xs) L') (h : (xs.flatMap rvp).all Value.oneCell' = true → St ρ N env L G) : St ρ N env L G :=
  St_conv (L' := lift ((xs.flatMap rvp).all Value.oneCell' = true) :: L) (fun w H => Holds.lift_mk (Holds.ul_ok (H.has hc)) H) (St_lift h)
attribute [local irreducible] SfP RfP LgF
set_option maxHeartbeats 2000000 in
theorem lgfAdd_sp (q : Bool) (b n : Nat) (l : List Ro) (r : Ro) (v : Value) (hl : l.length ≤ 1000000) (hm : ∀ r ∈ l, rmay r = 0) (hla : ∀ o, lastOf l o ≤ 1099511627776) : Sp Tryz.prog 45 [.pointer (some ⟨b, 0, none⟩), .agg (rv r v).toArray] [LgF b n l, UL q v r.ups]
    (fun w M => w = nat .i64 (lgErr n l r) ∧ M = [LgF b n (lgAdd n l r), UL q v r.ups]) := by
  refine Sp.intro (P := Tryz.prog) (Tryz.func45) rfl Tryz.ntmps45 (by decide) rfl ?_
  intro ρ F
  refine St_rsIs (r := q) (v := v) (n := r.ups.length) (cs := r.ups.flatMap uv) (by exact Has.auto) ?_
  rintro Av cv rfl
  have c1 := refRmay_sp q r (.slice Av r.ups.length cv)
  have c2 := lgfLast_sp b n l r.origin hl hm
  have hlo := hla r.origin
  unfold lgAdd lgErr
  repeat (refine St_step ?_; (try with_reducible intro xb))
  by_cases g1 : rmay r = 0
  case neg =>
    simp only [if_pos g1]
    repeat' (first | (apply St_call (hf := c1); exact rfl; exact rfl; exact Split.auto; rintro _ _ ⟨rfl, rfl⟩) | (refine St_step ?_; (try with_reducible intro _)) | (refine St_step2 ?_ ?_ <;> (intro hb; (try simp only [beq_iff_eq, bne_iff_ne, decide_eq_true_eq, decide_eq_false_iff_not, Bool.not_eq_true', Bool.not_eq_false', beq_eq_false_iff_ne, bne_eq_false_iff_eq, ne_eq, Int.not_lt, Int.not_le, gt_iff_lt, ge_iff_le] at hb); (try (first | exact Bool.noConfusion hb | exact absurd trivial hb | (exfalso; omega))))) | fail)
    all_goals first | (exfalso; omega) | skip
    exact St_ret1 (.inl rfl) rfl rfl ⟨rfl, rfl⟩ (by exact Split.auto)
  case pos =>
    simp only [if_neg (fun h : rmay r ≠ 0 => h g1)]
    rw [g1] at c1
    by_cases g2 : (n : Int) < r.origin
    · simp only [if_pos g2]
      refine St_lgfOpen (by exact Has.auto) fun A c xs hxs => ?_
      repeat' (first | (apply St_call (hf := c1); exact rfl; exact rfl; exact Split.auto; rintro _ _ ⟨rfl, rfl⟩) | (apply St_regionQ; kernel_rfl; kernel_rfl) | (refine St_step ?_; (try with_reducible intro _)) | (refine St_step2 ?_ ?_ <;> (intro hb; (try simp only [beq_iff_eq, bne_iff_ne, decide_eq_true_eq, decide_eq_false_iff_not, Bool.not_eq_true', Bool.not_eq_false', beq_eq_false_iff_ne, bne_eq_false_iff_eq, ne_eq, Int.not_lt, Int.not_le, gt_iff_lt, ge_iff_le] at hb); (try (first | exact Bool.noConfusion hb | exact absurd trivial hb | (exfalso; omega))))) | fail)
      all_goals first | (exfalso; omega) | skip
      refine St_lgfMk (b := b) (n := n) (l := l) (A := A) (c := c) (xs := xs) hxs (by exact Split.auto) ?_
      exact St_ret1 (.inl rfl) rfl rfl ⟨rfl, rfl⟩ (by exact Split.auto)
    · simp only [if_neg g2]
      have hfu := SL.flat_len uv_len r.ups
      have hfx : ∀ xs : List (Ro × Value), (xs.flatMap rvp).length = xs.length * 3 := SL.flat_len rvp_len
      refine St_lgfOpen (by exact Has.auto) fun A c xs hxs => ?_
      have hxl : xs.length = l.length := by rw [← hxs, List.length_map]
      repeat' (first | (apply St_call (hf := c1); exact rfl; exact rfl; exact Split.auto; rintro _ _ ⟨rfl, rfl⟩) | (apply St_regionA (1000) ([cel false xb 64 (rv r (.slice Av r.ups.length cv)), cel false b 61 [nat .i64 n, .slice A l.length c]]); kernel_rfl; (apply Sa_take 0; exact rfl; kernel_rfl; exact PanicOk.auto; exact rfl; (first | exact Rd_auto)); (apply Sa_take 1; exact rfl; kernel_rfl; exact PanicOk.auto; exact rfl; (first | exact Rd_auto)); (apply Sa_take 2; exact rfl; kernel_rfl; exact PanicOk.auto; exact rfl; (first | exact Rd_auto)); (apply Sa_take 3; exact rfl; kernel_rfl; exact PanicOk.auto; exact rfl; (first | exact Rd_auto)); (apply Sa_take 4; exact rfl; kernel_rfl; exact PanicOk.auto; exact rfl; (first | exact Rd_auto)); (apply Sa_take 5; exact rfl; kernel_rfl; exact PanicOk.auto; exact rfl; (first | exact Rd_auto)); (apply Sa_take 6; exact rfl; kernel_rfl; exact PanicOk.auto; exact rfl; (first | exact Rd_auto)); (apply Sa_done; kernel_rfl; exact .inr (by exact Split.auto))) | (refine St_step ?_; (try with_reducible intro _)) | (refine St_step2 ?_ ?_ <;> (intro hb; (try simp only [beq_iff_eq, bne_iff_ne, decide_eq_true_eq, decide_eq_false_iff_not, Bool.not_eq_true', Bool.not_eq_false', beq_eq_false_iff_ne, bne_eq_false_iff_eq, ne_eq, Int.not_lt, Int.not_le, gt_iff_lt, ge_iff_le] at hb); (try (first | exact Bool.noConfusion hb | exact absurd trivial hb | (exfalso; omega))))) | fail)
      all_goals first | (exfalso; omega) | skip
      refine St_lgfMk (b := b) (n := n) (l := l) (A := A) (c := c) (xs := xs) hxs (by exact Split.auto) ?_
      by_cases g3 : r.number ≤ (lastOf l r.origin : Int)
      · simp only [if_pos g3]
        repeat' (first | (apply St_regionA (1000) ([cel false xb 64 (rv r (.slice Av r.ups.length cv))]); kernel_rfl; (apply Sa_take 0; exact rfl; kernel_rfl; exact PanicOk.auto; exact rfl; (first | exact Rd_auto)); (apply Sa_take 1; exact rfl; kernel_rfl; exact PanicOk.auto; exact rfl; (first | exact Rd_auto)); (apply Sa_take 2; exact rfl; kernel_rfl; exact PanicOk.auto; exact rfl; (first | exact Rd_auto)); (apply Sa_take 3; exact rfl; kernel_rfl; exact PanicOk.auto; exact rfl; (first | exact Rd_auto)); (apply Sa_take 4; exact rfl; kernel_rfl; exact PanicOk.auto; exact rfl; (first | exact Rd_auto)); (apply Sa_one (i := 5); kernel_rfl; exact .inr (by exact Split.auto)); (apply Sa_op; exact rfl; exact rfl); (first | (apply St_call (hf := c2); exact rfl; exact rfl; exact Split.auto; rintro _ _ ⟨rfl, rfl⟩) | (refine St_step ?_; (try with_reducible intro _)) | (refine St_step2 ?_ ?_ <;> (intro hb; (try simp only [beq_iff_eq, bne_iff_ne, decide_eq_true_eq, decide_eq_false_iff_not, Bool.not_eq_true', Bool.not_eq_false', beq_eq_false_iff_ne, bne_eq_false_iff_eq, ne_eq, Int.not_lt, Int.not_le, gt_iff_lt, ge_iff_le] at hb); (try (first | exact Bool.noConfusion hb | exact absurd trivial hb | (exfalso; omega))))) | fail); (apply Sa_take 6; exact rfl; kernel_rfl; exact PanicOk.auto; exact rfl; (first | exact Rd_auto)); (apply Sa_done; kernel_rfl; exact .inr (by exact Split.auto))) | (refine St_step ?_; (try with_reducible intro _)) | (refine St_step2 ?_ ?_ <;> (intro hb; (try simp only [beq_iff_eq, bne_iff_ne, decide_eq_true_eq, decide_eq_false_iff_not, Bool.not_eq_true', Bool.not_eq_false', beq_eq_false_iff_ne, bne_eq_false_iff_eq, ne_eq, Int.not_lt, Int.not_le, gt_iff_lt, ge_iff_le] at hb); (try (first | exact Bool.noConfusion hb | exact absurd trivial hb | (exfalso; omega))))) | fail)
        all_goals first | (exfalso; omega) | skip
        exact St_ret1 (.inl rfl) rfl rfl ⟨rfl, rfl⟩ (by exact Split.auto)
      · simp only [if_neg g3]
        by_cases g4 : (lastOf l r.origin : Int) + 1 < r.number
        · simp only [if_pos g4]
          repeat' (first | (apply St_regionA (1000) ([cel false xb 64 (rv r (.slice Av r.ups.length cv))]); kernel_rfl; (apply Sa_take 0; exact rfl; kernel_rfl; exact PanicOk.auto; exact rfl; (first | exact Rd_auto)); (apply Sa_take 1; exact rfl; kernel_rfl; exact PanicOk.auto; exact rfl; (first | exact Rd_auto)); (apply Sa_take 2; exact rfl; kernel_rfl; exact PanicOk.auto; exact rfl; (first | exact Rd_auto)); (apply Sa_take 3; exact rfl; kernel_rfl; exact PanicOk.auto; exact rfl; (first | exact Rd_auto)); (apply Sa_take 4; exact rfl; kernel_rfl; exact PanicOk.auto; exact rfl; (first | exact Rd_auto)); (apply Sa_one (i := 5); kernel_rfl; exact .inr (by exact Split.auto)); (apply Sa_op; exact rfl; exact rfl); (first | (apply St_call (hf := c2); exact rfl; exact rfl; exact Split.auto; rintro _ _ ⟨rfl, rfl⟩) | (refine St_step ?_; (try with_reducible intro _)) | (refine St_step2 ?_ ?_ <;> (intro hb; (try simp only [beq_iff_eq, bne_iff_ne, decide_eq_true_eq, decide_eq_false_iff_not, Bool.not_eq_true', Bool.not_eq_false', beq_eq_false_iff_ne, bne_eq_false_iff_eq, ne_eq, Int.not_lt, Int.not_le, gt_iff_lt, ge_iff_le] at hb); (try (first | exact Bool.noConfusion hb | exact absurd trivial hb | (exfalso; omega))))) | fail); (apply Sa_take 6; exact rfl; kernel_rfl; exact PanicOk.auto; exact rfl; (first | exact Rd_auto)); (apply Sa_done; kernel_rfl; exact .inr (by exact Split.auto))) | (apply St_regionA (1000) ([cel false xb 64 (rv r (.slice Av r.ups.length cv))]); kernel_rfl; (apply Sa_take 0; exact rfl; kernel_rfl; exact PanicOk.auto; exact rfl; (first | exact Rd_auto)); (apply Sa_take 1; exact rfl; kernel_rfl; exact PanicOk.auto; exact rfl; (first | exact Rd_auto)); (apply Sa_take 2; exact rfl; kernel_rfl; exact PanicOk.auto; exact rfl; (first | exact Rd_auto)); (apply Sa_take 3; exact rfl; kernel_rfl; exact PanicOk.auto; exact rfl; (first | exact Rd_auto)); (apply Sa_take 4; exact rfl; kernel_rfl; exact PanicOk.auto; exact rfl; (first | exact Rd_auto)); (apply Sa_one (i := 5); kernel_rfl; exact .inr (by exact Split.auto)); (apply Sa_op; exact rfl; exact rfl); (first | (apply St_call (hf := c2); exact rfl; exact rfl; exact Split.auto; rintro _ _ ⟨rfl, rfl⟩) | (refine St_step ?_; (try with_reducible intro _)) | (refine St_step2 ?_ ?_ <;> (intro hb; (try simp only [beq_iff_eq, bne_iff_ne, decide_eq_true_eq, decide_eq_false_iff_not, Bool.not_eq_true', Bool.not_eq_false', beq_eq_false_iff_ne, bne_eq_false_iff_eq, ne_eq, Int.not_lt, Int.not_le, gt_iff_lt, ge_iff_le] at hb); (try (first | exact Bool.noConfusion hb | exact absurd trivial hb | (exfalso; omega))))) | fail); (apply Sa_take 6; exact rfl; kernel_rfl; exact PanicOk.auto; exact rfl; (first | exact Rd_auto)); (apply Sa_take 7; exact rfl; kernel_rfl; exact PanicOk.auto; exact rfl; (first | exact Rd_auto)); (apply Sa_done; kernel_rfl; exact .inr (by exact Split.auto))) | (refine St_step ?_; (try with_reducible intro _)) | (refine St_step2 ?_ ?_ <;> (intro hb; (try simp only [beq_iff_eq, bne_iff_ne, decide_eq_true_eq, decide_eq_false_iff_not, Bool.not_eq_true', Bool.not_eq_false', beq_eq_false_iff_ne, bne_eq_false_iff_eq, ne_eq, Int.not_lt, Int.not_le, gt_iff_lt, ge_iff_le] at hb); (try (first | exact Bool.noConfusion hb | exact absurd trivial hb | (exfalso; omega))))) | fail)
          all_goals first | (exfalso; omega) | skip
          exact St_ret1 (.inl rfl) rfl rfl ⟨rfl, rfl⟩ (by exact Split.auto)
        · simp only [if_neg g4]
          obtain ⟨_, _, hu8, _⟩ := rmay_ups g1
          repeat' (first | (apply St_regionA (1000) ([cel false xb 64 (rv r (.slice Av r.ups.length cv))]); kernel_rfl; (apply Sa_take 0; exact rfl; kernel_rfl; exact PanicOk.auto; exact rfl; (first | exact Rd_auto)); (apply Sa_take 1; exact rfl; kernel_rfl; exact PanicOk.auto; exact rfl; (first | exact Rd_auto)); (apply Sa_take 2; exact rfl; kernel_rfl; exact PanicOk.auto; exact rfl; (first | exact Rd_auto)); (apply Sa_take 3; exact rfl; kernel_rfl; exact PanicOk.auto; exact rfl; (first | exact Rd_auto)); (apply Sa_take 4; exact rfl; kernel_rfl; exact PanicOk.auto; exact rfl; (first | exact Rd_auto)); (apply Sa_one (i := 5); kernel_rfl; exact .inr (by exact Split.auto)); (apply Sa_op; exact rfl; exact rfl); (first | (apply St_call (hf := c2); exact rfl; exact rfl; exact Split.auto; rintro _ _ ⟨rfl, rfl⟩) | (refine St_step ?_; (try with_reducible intro _)) | (refine St_step2 ?_ ?_ <;> (intro hb; (try simp only [beq_iff_eq, bne_iff_ne, decide_eq_true_eq, decide_eq_false_iff_not, Bool.not_eq_true', Bool.not_eq_false', beq_eq_false_iff_ne, bne_eq_false_iff_eq, ne_eq, Int.not_lt, Int.not_le, gt_iff_lt, ge_iff_le] at hb); (try (first | exact Bool.noConfusion hb | exact absurd trivial hb | (exfalso; omega))))) | fail); (apply Sa_take 6; exact rfl; kernel_rfl; exact PanicOk.auto; exact rfl; (first | exact Rd_auto)); (apply Sa_done; kernel_rfl; exact .inr (by exact Split.auto))) | (apply St_regionA (1000) ([cel false xb 64 (rv r (.slice Av r.ups.length cv))]); kernel_rfl; (apply Sa_take 0; exact rfl; kernel_rfl; exact PanicOk.auto; exact rfl; (first | exact Rd_auto)); (apply Sa_take 1; exact rfl; kernel_rfl; exact PanicOk.auto; exact rfl; (first | exact Rd_auto)); (apply Sa_take 2; exact rfl; kernel_rfl; exact PanicOk.auto; exact rfl; (first | exact Rd_auto)); (apply Sa_take 3; exact rfl; kernel_rfl; exact PanicOk.auto; exact rfl; (first | exact Rd_auto)); (apply Sa_take 4; exact rfl; kernel_rfl; exact PanicOk.auto; exact rfl; (first | exact Rd_auto)); (apply Sa_one (i := 5); kernel_rfl; exact .inr (by exact Split.auto)); (apply Sa_op; exact rfl; exact rfl); (first | (apply St_call (hf := c2); exact rfl; exact rfl; exact Split.auto; rintro _ _ ⟨rfl, rfl⟩) | (refine St_step ?_; (try with_reducible intro _)) | (refine St_step2 ?_ ?_ <;> (intro hb; (try simp only [beq_iff_eq, bne_iff_ne, decide_eq_true_eq, decide_eq_false_iff_not, Bool.not_eq_true', Bool.not_eq_false', beq_eq_false_iff_ne, bne_eq_false_iff_eq, ne_eq, Int.not_lt, Int.not_le, gt_iff_lt, ge_iff_le] at hb); (try (first | exact Bool.noConfusion hb | exact absurd trivial hb | (exfalso; omega))))) | fail); (apply Sa_take 6; exact rfl; kernel_rfl; exact PanicOk.auto; exact rfl; (first | exact Rd_auto)); (apply Sa_take 7; exact rfl; kernel_rfl; exact PanicOk.auto; exact rfl; (first | exact Rd_auto)); (apply Sa_done; kernel_rfl; exact .inr (by exact Split.auto))) | (apply St_build0 tb (sz := 4); exact rfl; exact rfl; exact rfl; exact rfl; intro b0) | (apply St_append tb (sz := 4) (n := 0) (m := r.ups.length) (ds := r.ups.flatMap uv); (repeat exact rfl); exact Has.auto; (intro _; exact Src.rs (by exact Has.auto) hfu); exact uv_ok r.ups; (dsimp only; omega); intro v'; refine St_slIs (v := v') (n := 0 + r.ups.length) (by exact Has.auto) ?_; rintro A1 c1 rfl) | (refine St_step ?_; (try with_reducible intro _)) | (refine St_step2 ?_ ?_ <;> (intro hb; (try simp only [beq_iff_eq, bne_iff_ne, decide_eq_true_eq, decide_eq_false_iff_not, Bool.not_eq_true', Bool.not_eq_false', beq_eq_false_iff_ne, bne_eq_false_iff_eq, ne_eq, Int.not_lt, Int.not_le, gt_iff_lt, ge_iff_le] at hb); (try (first | exact Bool.noConfusion hb | exact absurd trivial hb | (exfalso; omega))))) | fail)
          all_goals first | (exfalso; omega) | skip
          refine St_slShare (v := .slice A1 (0 + r.ups.length) c1) (cs := [] ++ r.ups.flatMap uv) (by exact Has.auto) ?_
          refine St_conv (L' := UL true (.slice A1 r.ups.length c1) r.ups :: _) (fun w H => by rw [Nat.zero_add] at H; exact H) ?_
          refine St_cel (r := false) (b := xb) (cs' := rv r (.slice A1 r.ups.length c1)) (by exact Has.auto) (by first | rfl | rw [Nat.zero_add]) ?_
          refine St_lgfOpen (by exact Has.auto) fun A c xs hxs => ?_
          have hxl : xs.length = l.length := by rw [← hxs, List.length_map]
          have hxx := hfx xs
          rw [hxl] at hxx
          refine St_ulOk (xs := xs) (by exact Has.auto) fun hok => ?_
          have e2 : 0 + l.length + 1 = (l ++ [r]).length := by simp
          repeat' (first | (apply St_regionA (12) ([cel false xb 64 (rv r (.slice A1 r.ups.length c1)), cel false b 61 [nat .i64 n, .slice A l.length c], RS true (.slice A l.length c) l.length (xs.flatMap rvp)]); kernel_rfl; (apply Sa_take 0; exact rfl; kernel_rfl; exact PanicOk.auto; exact rfl; (first | exact Rd_auto)); (apply Sa_take 2; exact rfl; kernel_rfl; exact PanicOk.auto; exact rfl; (first | exact Rd_auto)); (apply Sa_take 3; exact rfl; kernel_rfl; exact PanicOk.auto; exact rfl; (first | exact Rd_auto)); (apply Sa_take 4; exact rfl; kernel_rfl; exact PanicOk.auto; exact rfl; (first | exact Rd_auto)); (apply Sa_take 5; exact rfl; kernel_rfl; exact PanicOk.auto; exact rfl; (first | exact Rd_auto)); (apply Sa_take 7; exact rfl; kernel_rfl; exact PanicOk.auto; exact rfl; (first | exact Rd_auto)); (focus (apply Sa_two (i := 1) (j := 8); kernel_rfl; exact .inr (by exact Split.auto); rotate_left; (focus ((apply Sa_op; exact rfl; exact rfl); (first | (apply St_build0 tb (sz := 3); exact rfl; exact rfl; exact rfl; exact rfl; intro b0) | (apply St_append tb (sz := 3) (n := 0) (m := l.length) (ds := xs.flatMap rvp); (repeat exact rfl); exact Has.auto; (intro _; exact Src.rs (by exact Has.auto) hxx); exact hok; (dsimp only; omega); intro v'; refine St_slIs (v := v') (n := 0 + l.length) (by exact Has.auto) ?_; rintro A4 c4 rfl) | (apply St_append tb (sz := 3) (n := 0 + l.length) (m := 1) (cs := [] ++ xs.flatMap rvp) (ds := rv r (.slice A1 r.ups.length c1)); (repeat exact rfl); exact Has.auto; (intro _; exact Src.row (n := 1) (by exact Has.auto) (by simp) (by exact rfl)); exact rfl; (dsimp only; omega); intro v'; refine St_slIs (v := v') (n := 0 + l.length + 1) (by exact Has.auto) ?_; rintro A5 c5 rfl) | (refine St_step ?_; (try with_reducible intro _)) | (refine St_step2 ?_ ?_ <;> (intro hb; (try simp only [beq_iff_eq, bne_iff_ne, decide_eq_true_eq, decide_eq_false_iff_not, Bool.not_eq_true', Bool.not_eq_false', beq_eq_false_iff_ne, bne_eq_false_iff_eq, ne_eq, Int.not_lt, Int.not_le, gt_iff_lt, ge_iff_le] at hb); (try (first | exact Bool.noConfusion hb | exact absurd trivial hb | (exfalso; omega))))) | fail); (apply Sa_one (i := 1); kernel_rfl; exact .inr (by exact Split.auto)); (apply Sa_op; exact rfl; exact rfl); (first | (apply St_build0 tb (sz := 3); exact rfl; exact rfl; exact rfl; exact rfl; intro b0) | (apply St_append tb (sz := 3) (n := 0) (m := l.length) (ds := xs.flatMap rvp); (repeat exact rfl); exact Has.auto; (intro _; exact Src.rs (by exact Has.auto) hxx); exact hok; (dsimp only; omega); intro v'; refine St_slIs (v := v') (n := 0 + l.length) (by exact Has.auto) ?_; rintro A4 c4 rfl) | (apply St_append tb (sz := 3) (n := 0 + l.length) (m := 1) (cs := [] ++ xs.flatMap rvp) (ds := rv r (.slice A1 r.ups.length c1)); (repeat exact rfl); exact Has.auto; (intro _; exact Src.row (n := 1) (by exact Has.auto) (by simp) (by exact rfl)); exact rfl; (dsimp only; omega); intro v'; refine St_slIs (v := v') (n := 0 + l.length + 1) (by exact Has.auto) ?_; rintro A5 c5 rfl) | (refine St_step ?_; (try with_reducible intro _)) | (refine St_step2 ?_ ?_ <;> (intro hb; (try simp only [beq_iff_eq, bne_iff_ne, decide_eq_true_eq, decide_eq_false_iff_not, Bool.not_eq_true', Bool.not_eq_false', beq_eq_false_iff_ne, bne_eq_false_iff_eq, ne_eq, Int.not_lt, Int.not_le, gt_iff_lt, ge_iff_le] at hb); (try (first | exact Bool.noConfusion hb | exact absurd trivial hb | (exfalso; omega))))) | fail); (apply Sa_one (i := 6); kernel_rfl; exact .inr (by exact Split.auto)); (apply Sa_op; exact rfl; exact rfl); (first | (apply St_build0 tb (sz := 3); exact rfl; exact rfl; exact rfl; exact rfl; intro b0) | (apply St_append tb (sz := 3) (n := 0) (m := l.length) (ds := xs.flatMap rvp); (repeat exact rfl); exact Has.auto; (intro _; exact Src.rs (by exact Has.auto) hxx); exact hok; (dsimp only; omega); intro v'; refine St_slIs (v := v') (n := 0 + l.length) (by exact Has.auto) ?_; rintro A4 c4 rfl) | (apply St_append tb (sz := 3) (n := 0 + l.length) (m := 1) (cs := [] ++ xs.flatMap rvp) (ds := rv r (.slice A1 r.ups.length c1)); (repeat exact rfl); exact Has.auto; (intro _; exact Src.row (n := 1) (by exact Has.auto) (by simp) (by exact rfl)); exact rfl; (dsimp only; omega); intro v'; refine St_slIs (v := v') (n := 0 + l.length + 1) (by exact Has.auto) ?_; rintro A5 c5 rfl) | (refine St_step ?_; (try with_reducible intro _)) | (refine St_step2 ?_ ?_ <;> (intro hb; (try simp only [beq_iff_eq, bne_iff_ne, decide_eq_true_eq, decide_eq_false_iff_not, Bool.not_eq_true', Bool.not_eq_false', beq_eq_false_iff_ne, bne_eq_false_iff_eq, ne_eq, Int.not_lt, Int.not_le, gt_iff_lt, ge_iff_le] at hb); (try (first | exact Bool.noConfusion hb | exact absurd trivial hb | (exfalso; omega))))) | fail); (apply Sa_one (i := 9); kernel_rfl; exact .inr (by exact Split.auto)); (apply Sa_op; exact rfl; exact rfl); (first | (apply St_build0 tb (sz := 3); exact rfl; exact rfl; exact rfl; exact rfl; intro b0) | (apply St_append tb (sz := 3) (n := 0) (m := l.length) (ds := xs.flatMap rvp); (repeat exact rfl); exact Has.auto; (intro _; exact Src.rs (by exact Has.auto) hxx); exact hok; (dsimp only; omega); intro v'; refine St_slIs (v := v') (n := 0 + l.length) (by exact Has.auto) ?_; rintro A4 c4 rfl) | (apply St_append tb (sz := 3) (n := 0 + l.length) (m := 1) (cs := [] ++ xs.flatMap rvp) (ds := rv r (.slice A1 r.ups.length c1)); (repeat exact rfl); exact Has.auto; (intro _; exact Src.row (n := 1) (by exact Has.auto) (by simp) (by exact rfl)); exact rfl; (dsimp only; omega); intro v'; refine St_slIs (v := v') (n := 0 + l.length + 1) (by exact Has.auto) ?_; rintro A5 c5 rfl) | (refine St_step ?_; (try with_reducible intro _)) | (refine St_step2 ?_ ?_ <;> (intro hb; (try simp only [beq_iff_eq, bne_iff_ne, decide_eq_true_eq, decide_eq_false_iff_not, Bool.not_eq_true', Bool.not_eq_false', beq_eq_false_iff_ne, bne_eq_false_iff_eq, ne_eq, Int.not_lt, Int.not_le, gt_iff_lt, ge_iff_le] at hb); (try (first | exact Bool.noConfusion hb | exact absurd trivial hb | (exfalso; omega))))) | fail); (apply Sa_take 10; exact rfl; kernel_rfl; exact PanicOk.auto; exact rfl; (first | exact Rd_auto)); (apply Sa_take 11; exact rfl; kernel_rfl; exact PanicOk.auto; exact rfl; (first | exact Rd_auto)); (apply Sa_one (i := 12); kernel_rfl; exact .inr (by exact Split.auto)); (apply Sa_op; exact rfl; exact rfl); (first | (apply St_build0 tb (sz := 3); exact rfl; exact rfl; exact rfl; exact rfl; intro b0) | (apply St_append tb (sz := 3) (n := 0) (m := l.length) (ds := xs.flatMap rvp); (repeat exact rfl); exact Has.auto; (intro _; exact Src.rs (by exact Has.auto) hxx); exact hok; (dsimp only; omega); intro v'; refine St_slIs (v := v') (n := 0 + l.length) (by exact Has.auto) ?_; rintro A4 c4 rfl) | (apply St_append tb (sz := 3) (n := 0 + l.length) (m := 1) (cs := [] ++ xs.flatMap rvp) (ds := rv r (.slice A1 r.ups.length c1)); (repeat exact rfl); exact Has.auto; (intro _; exact Src.row (n := 1) (by exact Has.auto) (by simp) (by exact rfl)); exact rfl; (dsimp only; omega); intro v'; refine St_slIs (v := v') (n := 0 + l.length + 1) (by exact Has.auto) ?_; rintro A5 c5 rfl) | (refine St_step ?_; (try with_reducible intro _)) | (refine St_step2 ?_ ?_ <;> (intro hb; (try simp only [beq_iff_eq, bne_iff_ne, decide_eq_true_eq, decide_eq_false_iff_not, Bool.not_eq_true', Bool.not_eq_false', beq_eq_false_iff_ne, bne_eq_false_iff_eq, ne_eq, Int.not_lt, Int.not_le, gt_iff_lt, ge_iff_le] at hb); (try (first | exact Bool.noConfusion hb | exact absurd trivial hb | (exfalso; omega))))) | fail); (apply Sa_done (R := []); kernel_rfl; refine .inl ?_; kernel_rfl))); rotate_right; (focus ((apply Sa_op; exact rfl; exact rfl); (first | (apply St_build0 tb (sz := 3); exact rfl; exact rfl; exact rfl; exact rfl; intro b0) | (apply St_append tb (sz := 3) (n := 0) (m := l.length) (ds := xs.flatMap rvp); (repeat exact rfl); exact Has.auto; (intro _; exact Src.rs (by exact Has.auto) hxx); exact hok; (dsimp only; omega); intro v'; refine St_slIs (v := v') (n := 0 + l.length) (by exact Has.auto) ?_; rintro A4 c4 rfl) | (apply St_append tb (sz := 3) (n := 0 + l.length) (m := 1) (cs := [] ++ xs.flatMap rvp) (ds := rv r (.slice A1 r.ups.length c1)); (repeat exact rfl); exact Has.auto; (intro _; exact Src.row (n := 1) (by exact Has.auto) (by simp) (by exact rfl)); exact rfl; (dsimp only; omega); intro v'; refine St_slIs (v := v') (n := 0 + l.length + 1) (by exact Has.auto) ?_; rintro A5 c5 rfl) | (refine St_step ?_; (try with_reducible intro _)) | (refine St_step2 ?_ ?_ <;> (intro hb; (try simp only [beq_iff_eq, bne_iff_ne, decide_eq_true_eq, decide_eq_false_iff_not, Bool.not_eq_true', Bool.not_eq_false', beq_eq_false_iff_ne, bne_eq_false_iff_eq, ne_eq, Int.not_lt, Int.not_le, gt_iff_lt, ge_iff_le] at hb); (try (first | exact Bool.noConfusion hb | exact absurd trivial hb | (exfalso; omega))))) | fail); (focus (apply Sa_two (i := 6) (j := 8); kernel_rfl; exact .inr (by exact Split.auto); rotate_left; (focus ((apply Sa_op; exact rfl; exact rfl); (first | (apply St_build0 tb (sz := 3); exact rfl; exact rfl; exact rfl; exact rfl; intro b0) | (apply St_append tb (sz := 3) (n := 0) (m := l.length) (ds := xs.flatMap rvp); (repeat exact rfl); exact Has.auto; (intro _; exact Src.rs (by exact Has.auto) hxx); exact hok; (dsimp only; omega); intro v'; refine St_slIs (v := v') (n := 0 + l.length) (by exact Has.auto) ?_; rintro A4 c4 rfl) | (apply St_append tb (sz := 3) (n := 0 + l.length) (m := 1) (cs := [] ++ xs.flatMap rvp) (ds := rv r (.slice A1 r.ups.length c1)); (repeat exact rfl); exact Has.auto; (intro _; exact Src.row (n := 1) (by exact Has.auto) (by simp) (by exact rfl)); exact rfl; (dsimp only; omega); intro v'; refine St_slIs (v := v') (n := 0 + l.length + 1) (by exact Has.auto) ?_; rintro A5 c5 rfl) | (refine St_step ?_; (try with_reducible intro _)) | (refine St_step2 ?_ ?_ <;> (intro hb; (try simp only [beq_iff_eq, bne_iff_ne, decide_eq_true_eq, decide_eq_false_iff_not, Bool.not_eq_true', Bool.not_eq_false', beq_eq_false_iff_ne, bne_eq_false_iff_eq, ne_eq, Int.not_lt, Int.not_le, gt_iff_lt, ge_iff_le] at hb); (try (first | exact Bool.noConfusion hb | exact absurd trivial hb | (exfalso; omega))))) | fail); (apply Sa_one (i := 6); kernel_rfl; exact .inr (by exact Split.auto)); (apply Sa_op; exact rfl; exact rfl); (first | (apply St_build0 tb (sz := 3); exact rfl; exact rfl; exact rfl; exact rfl; intro b0) | (apply St_append tb (sz := 3) (n := 0) (m := l.length) (ds := xs.flatMap rvp); (repeat exact rfl); exact Has.auto; (intro _; exact Src.rs (by exact Has.auto) hxx); exact hok; (dsimp only; omega); intro v'; refine St_slIs (v := v') (n := 0 + l.length) (by exact Has.auto) ?_; rintro A4 c4 rfl) | (apply St_append tb (sz := 3) (n := 0 + l.length) (m := 1) (cs := [] ++ xs.flatMap rvp) (ds := rv r (.slice A1 r.ups.length c1)); (repeat exact rfl); exact Has.auto; (intro _; exact Src.row (n := 1) (by exact Has.auto) (by simp) (by exact rfl)); exact rfl; (dsimp only; omega); intro v'; refine St_slIs (v := v') (n := 0 + l.length + 1) (by exact Has.auto) ?_; rintro A5 c5 rfl) | (refine St_step ?_; (try with_reducible intro _)) | (refine St_step2 ?_ ?_ <;> (intro hb; (try simp only [beq_iff_eq, bne_iff_ne, decide_eq_true_eq, decide_eq_false_iff_not, Bool.not_eq_true', Bool.not_eq_false', beq_eq_false_iff_ne, bne_eq_false_iff_eq, ne_eq, Int.not_lt, Int.not_le, gt_iff_lt, ge_iff_le] at hb); (try (first | exact Bool.noConfusion hb | exact absurd trivial hb | (exfalso; omega))))) | fail); (apply Sa_one (i := 9); kernel_rfl; exact .inr (by exact Split.auto)); (apply Sa_op; exact rfl; exact rfl); (first | (apply St_build0 tb (sz := 3); exact rfl; exact rfl; exact rfl; exact rfl; intro b0) | (apply St_append tb (sz := 3) (n := 0) (m := l.length) (ds := xs.flatMap rvp); (repeat exact rfl); exact Has.auto; (intro _; exact Src.rs (by exact Has.auto) hxx); exact hok; (dsimp only; omega); intro v'; refine St_slIs (v := v') (n := 0 + l.length) (by exact Has.auto) ?_; rintro A4 c4 rfl) | (apply St_append tb (sz := 3) (n := 0 + l.length) (m := 1) (cs := [] ++ xs.flatMap rvp) (ds := rv r (.slice A1 r.ups.length c1)); (repeat exact rfl); exact Has.auto; (intro _; exact Src.row (n := 1) (by exact Has.auto) (by simp) (by exact rfl)); exact rfl; (dsimp only; omega); intro v'; refine St_slIs (v := v') (n := 0 + l.length + 1) (by exact Has.auto) ?_; rintro A5 c5 rfl) | (refine St_step ?_; (try with_reducible intro _)) | (refine St_step2 ?_ ?_ <;> (intro hb; (try simp only [beq_iff_eq, bne_iff_ne, decide_eq_true_eq, decide_eq_false_iff_not, Bool.not_eq_true', Bool.not_eq_false', beq_eq_false_iff_ne, bne_eq_false_iff_eq, ne_eq, Int.not_lt, Int.not_le, gt_iff_lt, ge_iff_le] at hb); (try (first | exact Bool.noConfusion hb | exact absurd trivial hb | (exfalso; omega))))) | fail); (apply Sa_take 10; exact rfl; kernel_rfl; exact PanicOk.auto; exact rfl; (first | exact Rd_auto)); (apply Sa_take 11; exact rfl; kernel_rfl; exact PanicOk.auto; exact rfl; (first | exact Rd_auto)); (apply Sa_one (i := 12); kernel_rfl; exact .inr (by exact Split.auto)); (apply Sa_op; exact rfl; exact rfl); (first | (apply St_build0 tb (sz := 3); exact rfl; exact rfl; exact rfl; exact rfl; intro b0) | (apply St_append tb (sz := 3) (n := 0) (m := l.length) (ds := xs.flatMap rvp); (repeat exact rfl); exact Has.auto; (intro _; exact Src.rs (by exact Has.auto) hxx); exact hok; (dsimp only; omega); intro v'; refine St_slIs (v := v') (n := 0 + l.length) (by exact Has.auto) ?_; rintro A4 c4 rfl) | (apply St_append tb (sz := 3) (n := 0 + l.length) (m := 1) (cs := [] ++ xs.flatMap rvp) (ds := rv r (.slice A1 r.ups.length c1)); (repeat exact rfl); exact Has.auto; (intro _; exact Src.row (n := 1) (by exact Has.auto) (by simp) (by exact rfl)); exact rfl; (dsimp only; omega); intro v'; refine St_slIs (v := v') (n := 0 + l.length + 1) (by exact Has.auto) ?_; rintro A5 c5 rfl) | (refine St_step ?_; (try with_reducible intro _)) | (refine St_step2 ?_ ?_ <;> (intro hb; (try simp only [beq_iff_eq, bne_iff_ne, decide_eq_true_eq, decide_eq_false_iff_not, Bool.not_eq_true', Bool.not_eq_false', beq_eq_false_iff_ne, bne_eq_false_iff_eq, ne_eq, Int.not_lt, Int.not_le, gt_iff_lt, ge_iff_le] at hb); (try (first | exact Bool.noConfusion hb | exact absurd trivial hb | (exfalso; omega))))) | fail); (apply Sa_done (R := []); kernel_rfl; refine .inl ?_; kernel_rfl))); rotate_right; (focus ((apply Sa_op; exact rfl; exact rfl); (first | (apply St_build0 tb (sz := 3); exact rfl; exact rfl; exact rfl; exact rfl; intro b0) | (apply St_append tb (sz := 3) (n := 0) (m := l.length) (ds := xs.flatMap rvp); (repeat exact rfl); exact Has.auto; (intro _; exact Src.rs (by exact Has.auto) hxx); exact hok; (dsimp only; omega); intro v'; refine St_slIs (v := v') (n := 0 + l.length) (by exact Has.auto) ?_; rintro A4 c4 rfl) | (apply St_append tb (sz := 3) (n := 0 + l.length) (m := 1) (cs := [] ++ xs.flatMap rvp) (ds := rv r (.slice A1 r.ups.length c1)); (repeat exact rfl); exact Has.auto; (intro _; exact Src.row (n := 1) (by exact Has.auto) (by simp) (by exact rfl)); exact rfl; (dsimp only; omega); intro v'; refine St_slIs (v := v') (n := 0 + l.length + 1) (by exact Has.auto) ?_; rintro A5 c5 rfl) | (refine St_step ?_; (try with_reducible intro _)) | (refine St_step2 ?_ ?_ <;> (intro hb; (try simp only [beq_iff_eq, bne_iff_ne, decide_eq_true_eq, decide_eq_false_iff_not, Bool.not_eq_true', Bool.not_eq_false', beq_eq_false_iff_ne, bne_eq_false_iff_eq, ne_eq, Int.not_lt, Int.not_le, gt_iff_lt, ge_iff_le] at hb); (try (first | exact Bool.noConfusion hb | exact absurd trivial hb | (exfalso; omega))))) | fail); (apply Sa_one (i := 8); kernel_rfl; exact .inr (by exact Split.auto)); (apply Sa_op; exact rfl; exact rfl); (first | (apply St_build0 tb (sz := 3); exact rfl; exact rfl; exact rfl; exact rfl; intro b0) | (apply St_append tb (sz := 3) (n := 0) (m := l.length) (ds := xs.flatMap rvp); (repeat exact rfl); exact Has.auto; (intro _; exact Src.rs (by exact Has.auto) hxx); exact hok; (dsimp only; omega); intro v'; refine St_slIs (v := v') (n := 0 + l.length) (by exact Has.auto) ?_; rintro A4 c4 rfl) | (apply St_append tb (sz := 3) (n := 0 + l.length) (m := 1) (cs := [] ++ xs.flatMap rvp) (ds := rv r (.slice A1 r.ups.length c1)); (repeat exact rfl); exact Has.auto; (intro _; exact Src.row (n := 1) (by exact Has.auto) (by simp) (by exact rfl)); exact rfl; (dsimp only; omega); intro v'; refine St_slIs (v := v') (n := 0 + l.length + 1) (by exact Has.auto) ?_; rintro A5 c5 rfl) | (refine St_step ?_; (try with_reducible intro _)) | (refine St_step2 ?_ ?_ <;> (intro hb; (try simp only [beq_iff_eq, bne_iff_ne, decide_eq_true_eq, decide_eq_false_iff_not, Bool.not_eq_true', Bool.not_eq_false', beq_eq_false_iff_ne, bne_eq_false_iff_eq, ne_eq, Int.not_lt, Int.not_le, gt_iff_lt, ge_iff_le] at hb); (try (first | exact Bool.noConfusion hb | exact absurd trivial hb | (exfalso; omega))))) | fail); (apply Sa_one (i := 9); kernel_rfl; exact .inr (by exact Split.auto)); (apply Sa_op; exact rfl; exact rfl); (first | (apply St_build0 tb (sz := 3); exact rfl; exact rfl; exact rfl; exact rfl; intro b0) | (apply St_append tb (sz := 3) (n := 0) (m := l.length) (ds := xs.flatMap rvp); (repeat exact rfl); exact Has.auto; (intro _; exact Src.rs (by exact Has.auto) hxx); exact hok; (dsimp only; omega); intro v'; refine St_slIs (v := v') (n := 0 + l.length) (by exact Has.auto) ?_; rintro A4 c4 rfl) | (apply St_append tb (sz := 3) (n := 0 + l.length) (m := 1) (cs := [] ++ xs.flatMap rvp) (ds := rv r (.slice A1 r.ups.length c1)); (repeat exact rfl); exact Has.auto; (intro _; exact Src.row (n := 1) (by exact Has.auto) (by simp) (by exact rfl)); exact rfl; (dsimp only; omega); intro v'; refine St_slIs (v := v') (n := 0 + l.length + 1) (by exact Has.auto) ?_; rintro A5 c5 rfl) | (refine St_step ?_; (try with_reducible intro _)) | (refine St_step2 ?_ ?_ <;> (intro hb; (try simp only [beq_iff_eq, bne_iff_ne, decide_eq_true_eq, decide_eq_false_iff_not, Bool.not_eq_true', Bool.not_eq_false', beq_eq_false_iff_ne, bne_eq_false_iff_eq, ne_eq, Int.not_lt, Int.not_le, gt_iff_lt, ge_iff_le] at hb); (try (first | exact Bool.noConfusion hb | exact absurd trivial hb | (exfalso; omega))))) | fail); (apply Sa_take 10; exact rfl; kernel_rfl; exact PanicOk.auto; exact rfl; (first | exact Rd_auto)); (apply Sa_take 11; exact rfl; kernel_rfl; exact PanicOk.auto; exact rfl; (first | exact Rd_auto)); (apply Sa_one (i := 12); kernel_rfl; exact .inr (by exact Split.auto)); (apply Sa_op; exact rfl; exact rfl); (first | (apply St_build0 tb (sz := 3); exact rfl; exact rfl; exact rfl; exact rfl; intro b0) | (apply St_append tb (sz := 3) (n := 0) (m := l.length) (ds := xs.flatMap rvp); (repeat exact rfl); exact Has.auto; (intro _; exact Src.rs (by exact Has.auto) hxx); exact hok; (dsimp only; omega); intro v'; refine St_slIs (v := v') (n := 0 + l.length) (by exact Has.auto) ?_; rintro A4 c4 rfl) | (apply St_append tb (sz := 3) (n := 0 + l.length) (m := 1) (cs := [] ++ xs.flatMap rvp) (ds := rv r (.slice A1 r.ups.length c1)); (repeat exact rfl); exact Has.auto; (intro _; exact Src.row (n := 1) (by exact Has.auto) (by simp) (by exact rfl)); exact rfl; (dsimp only; omega); intro v'; refine St_slIs (v := v') (n := 0 + l.length + 1) (by exact Has.auto) ?_; rintro A5 c5 rfl) | (refine St_step ?_; (try with_reducible intro _)) | (refine St_step2 ?_ ?_ <;> (intro hb; (try simp only [beq_iff_eq, bne_iff_ne, decide_eq_true_eq, decide_eq_false_iff_not, Bool.not_eq_true', Bool.not_eq_false', beq_eq_false_iff_ne, bne_eq_false_iff_eq, ne_eq, Int.not_lt, Int.not_le, gt_iff_lt, ge_iff_le] at hb); (try (first | exact Bool.noConfusion hb | exact absurd trivial hb | (exfalso; omega))))) | fail); (apply Sa_done (R := []); kernel_rfl; refine .inl ?_; kernel_rfl)))))))))) | (refine St_step ?_; (try with_reducible intro _)) | (refine St_step2 ?_ ?_ <;> (intro hb; (try simp only [beq_iff_eq, bne_iff_ne, decide_eq_true_eq, decide_eq_false_iff_not, Bool.not_eq_true', Bool.not_eq_false', beq_eq_false_iff_ne, bne_eq_false_iff_eq, ne_eq, Int.not_lt, Int.not_le, gt_iff_lt, ge_iff_le] at hb); (try (first | exact Bool.noConfusion hb | exact absurd trivial hb | (exfalso; omega))))) | fail)
          all_goals first | (exfalso; omega) | skip
          all_goals refine St_slShare (v := .slice A5 (0 + l.length + 1) c5) (cs := [] ++ xs.flatMap rvp ++ rv r (.slice A1 r.ups.length c1)) (by exact Has.auto) ?_
          all_goals refine St_conv (L' := RS true (.slice A5 (l ++ [r]).length c5) (l ++ [r]).length ((xs ++ [(r, Value.slice A1 r.ups.length c1)]).flatMap rvp) :: _) (fun w H => by rw [e2] at H; rw [List.flatMap_append]; exact H) ?_
          all_goals refine St_cel (r := false) (b := b) (cs' := [nat .i64 n, .slice A5 (l ++ [r]).length c5]) (by exact Has.auto) (by first | rfl | rw [e2]) ?_
          all_goals refine St_pull (A := ulp (r, .slice A1 r.ups.length c1)) (by exact Has.auto) ?_
          all_goals refine St_ulAdd (xs := xs) (x := (r, .slice A1 r.ups.length c1)) (by exact Split.auto) ?_
          all_goals refine St_lgfMk (b := b) (n := n) (l := l ++ [r]) (A := A5) (c := c5) (xs := xs ++ [(r, .slice A1 r.ups.length c1)]) (by rw [List.map_append, hxs]; rfl) (by exact Split.auto) ?_
          all_goals exact St_ret1 (.inl rfl) rfl rfl ⟨rfl, rfl⟩ (by exact Split.auto)
attribute [local irreducible] LfP
theorem sdOffer_more (s : Sd) (d : List UInt8) : (sdOffer s d).1.win = s.win ∧ (sdOffer s d).1.ps.length ≤ max s.ps.length s.win ∧ (sdOffer s d).1.acked + (sdOffer s d).1.ps.length ≤ s.acked + s.ps.length + 1 ∧ ((sdOffer s d).2 ≠ 0 → (sdOffer s d).1 = s) := by
  unfold sdOffer
  split
  · exact ⟨rfl, by dsimp only; omega, by dsimp only; omega, fun _ => rfl⟩
  · split
    · exact ⟨rfl, by dsimp only; omega, by dsimp only; omega, fun _ => rfl⟩
    · refine ⟨rfl, ?_, ?_, fun h => absurd rfl h⟩
      · simp; omega
      · simp; omega
set_option maxHeartbeats 2000000 in
theorem ffPump_sp (b lb kb n at_ : Nat) (l : List Ro) (k : Lk) (hat : at_ ≤ l.length) (hl : l.length ≤ 1000000) (hm : ∀ r ∈ l, rmay r = 0) (hw : k.sd.win ≤ 16) (hp : k.sd.ps.length ≤ 16) (ha : k.sd.acked + k.sd.ps.length ≤ 10000000000) :
    Sp Tryz.prog 49 [.pointer (some ⟨b, 0, none⟩), .pointer (some ⟨lb, 0, none⟩), .pointer (some ⟨kb, 0, none⟩)] [cel false b 43 [nat .i64 at_], LgF lb n l, LfP kb k]
    (fun w M => (∃ m, w = .int .i64 m) ∧ M = [cel false b 43 [nat .i64 (pump l at_ k.sd).1], LgF lb n l, LfP kb (lkWith k (pump l at_ k.sd).2)]) := by
  refine Sp.intro (P := Tryz.prog) (Tryz.func49) rfl Tryz.ntmps49 (by decide) rfl ?_
  intro ρ F
  refine St_lgfOpen (by exact Has.auto) fun A c xs hxs => ?_
  refine St_exOpen (l := lfL kb k) (by unfold LfP; exact Has.auto) fun z => ?_
  have hxl : xs.length = l.length := by rw [← hxs, List.length_map]
  repeat' (first | (refine St_step ?_; (try with_reducible intro _)) | (refine St_step2 ?_ ?_ <;> (intro hb; (try simp only [beq_iff_eq, bne_iff_ne, decide_eq_true_eq, decide_eq_false_iff_not, Bool.not_eq_true', Bool.not_eq_false', beq_eq_false_iff_ne, bne_eq_false_iff_eq, ne_eq, Int.not_lt, Int.not_le, gt_iff_lt, ge_iff_le] at hb); (try (first | exact Bool.noConfusion hb | exact absurd trivial hb | (exfalso; omega))))) | fail)
  refine St_loop (fun (y : Nat × Sd × Nat) => y.1 ≤ l.length ∧ pumpN l (l.length - y.1) y.1 y.2.1 = pump l at_ k.sd ∧ y.2.1.win ≤ 16 ∧ y.2.1.ps.length ≤ 16 ∧ y.2.1.acked + y.2.1.ps.length ≤ 10000000000 + y.1 ∧ y.2.2 ≤ y.1) (fun y => [(0, .pointer (some ⟨b, 0, none⟩)), (1, .pointer (some ⟨lb, 0, none⟩)), (2, .pointer (some ⟨kb, 0, none⟩)), (7, nat .i64 y.2.2)]) (fun y => [cel false b 43 [nat .i64 y.1], cel false lb 61 [nat .i64 n, .slice A l.length c], RS true (.slice A l.length c) l.length (xs.flatMap rvp), ULs xs, cel false kb 54 [nat .i64 k.ep, .pointer (some ⟨z.1, 0, none⟩), .pointer (some ⟨z.2, 0, none⟩), .int .i64 k.win, .int .i64 k.room, .bool k.pas], SfP z.1 y.2.1, RfP z.2 k.rc, big F]) (fun y => l.length - y.1) (at_, k.sd, 0) ⟨hat, rfl, hw, hp, by dsimp only; omega, Nat.zero_le _⟩ ⟨rfl, rfl, rfl, rfl, trivial⟩ (by exact Split.auto) ?_
  rintro ⟨i, s, j⟩ ⟨hi, hT, hsw, hsp, hsa, hj⟩
  have hi : i ≤ l.length := hi
  have hT : pumpN l (l.length - i) i s = pump l at_ k.sd := hT
  have hsw : s.win ≤ 16 := hsw
  have hsp : s.ps.length ≤ 16 := hsp
  have hsa : s.acked + s.ps.length ≤ 10000000000 + i := hsa
  have hj : j ≤ i := hj
  dsimp only
  by_cases hil : i < l.length
  · obtain ⟨⟨r, u⟩, hz⟩ : ∃ z, xs[i]? = some z := ⟨_, List.getElem?_eq_getElem (by omega)⟩
    have hr : l[i]? = some r := by rw [← hxs, List.getElem?_map, hz]; rfl
    have hmr := hm r (List.mem_of_getElem? hr)
    have hrp : (rput r).1 = rbytes r := by unfold rput; rw [if_neg (fun h => h hmr)]
    obtain ⟨m1, m2, m3, m4⟩ := sdOffer_more s (rbytes r)
    have hstep : l.length - i = (l.length - (i + 1)) + 1 := by omega
    rw [hstep] at hT
    unfold pumpN at hT
    rw [hr] at hT
    dsimp only at hT
    rw [hrp] at hT
    refine St_ulGet (xs := xs) (x := (r, u)) (by exact Has.auto) (List.mem_of_getElem? hz) ?_
    refine St_rsIs (r := true) (v := u) (n := r.ups.length) (cs := r.ups.flatMap uv) (by exact Has.auto) ?_
    rintro Au cu rfl
    have c1 := refRbytes_sp true r (.slice Au r.ups.length cu) hmr
    have c2 := sfOffer_sp z.1 s (rbytes r) (by omega) (by omega)
    refine St_rsOpen (r := true) (v := .slice A l.length c) (n := l.length) (cs := xs.flatMap rvp) (by exact Has.auto) (by omega) ?_
    rintro b3 T3 cap3 pre3 rest3 hv3
    injection hv3 with q1 q2 q3
    subst q1 q3
    have hld3 := flat_at rvp_len xs i (r, .slice Au r.ups.length cu) pre3 rest3 hz
    change _ = rv r (.slice Au r.ups.length cu) at hld3
    have hroom3 := flat_room rvp_len xs i pre3 rest3 (by omega)
    have he0 : sdOffer s (rbytes r) = ((sdOffer s (rbytes r)).1, (sdOffer s (rbytes r)).2) := rfl
    generalize (sdOffer s (rbytes r)).1 = s2 at *
    generalize (sdOffer s (rbytes r)).2 = e2 at *
    repeat' (first | (apply St_regionA (1000) ([cel false b 43 [nat .i64 i], cel false lb 61 [nat .i64 n, .slice (some ⟨b3, pre3.length, none⟩) l.length c]]); kernel_rfl; (apply Sa_take 0; exact rfl; kernel_rfl; exact PanicOk.auto; exact rfl; (first | exact Rd_auto)); (apply Sa_take 1; exact rfl; kernel_rfl; exact PanicOk.auto; exact rfl; (first | exact Rd_auto)); (apply Sa_take 2; exact rfl; kernel_rfl; exact PanicOk.auto; exact rfl; (first | exact Rd_auto)); (apply Sa_take 3; exact rfl; kernel_rfl; exact PanicOk.auto; exact rfl; (first | exact Rd_auto)); (apply Sa_take 4; exact rfl; kernel_rfl; exact PanicOk.auto; exact rfl; (first | exact Rd_auto)); (apply Sa_take 5; exact rfl; kernel_rfl; exact PanicOk.auto; exact rfl; (first | exact Rd_auto)); (apply Sa_take 6; exact rfl; kernel_rfl; exact PanicOk.auto; exact rfl; (first | exact Rd_auto)); (apply Sa_take 7; exact rfl; kernel_rfl; exact PanicOk.auto; exact rfl; (first | exact Rd_auto)); (apply Sa_take 8; exact rfl; kernel_rfl; exact PanicOk.auto; exact rfl; (first | exact Rd_auto)); (apply Sa_take 9; exact rfl; kernel_rfl; exact PanicOk.auto; exact rfl; (first | exact Rd_auto)); (apply Sa_done; kernel_rfl; exact .inr (by exact Split.auto))) | (apply St_regionA (1000) ([cel false b 43 [nat .i64 i], cel false lb 61 [nat .i64 n, .slice (some ⟨b3, pre3.length, none⟩) l.length c], cel false kb 54 [nat .i64 k.ep, .pointer (some ⟨z.1, 0, none⟩), .pointer (some ⟨z.2, 0, none⟩), .int .i64 k.win, .int .i64 k.room, .bool k.pas], cel true b3 T3 (pre3 ++ xs.flatMap rvp ++ rest3)]); kernel_rfl; (apply Sa_take 0; exact rfl; kernel_rfl; exact PanicOk.auto; exact rfl; (first | (apply Rd_loadA tb; exact rfl; exact rfl; exact rfl; exact Has.auto; exact hroom3; exact hld3) | exact Rd_auto)); (apply Sa_take 1; exact rfl; kernel_rfl; exact PanicOk.auto; exact rfl; (first | (apply Rd_loadA tb; exact rfl; exact rfl; exact rfl; exact Has.auto; exact hroom3; exact hld3) | exact Rd_auto)); (apply Sa_take 2; exact rfl; kernel_rfl; exact PanicOk.auto; exact rfl; (first | (apply Rd_loadA tb; exact rfl; exact rfl; exact rfl; exact Has.auto; exact hroom3; exact hld3) | exact Rd_auto)); (apply Sa_take 3; exact rfl; kernel_rfl; exact PanicOk.auto; exact rfl; (first | (apply Rd_loadA tb; exact rfl; exact rfl; exact rfl; exact Has.auto; exact hroom3; exact hld3) | exact Rd_auto)); (apply Sa_take 4; exact rfl; kernel_rfl; exact PanicOk.auto; exact rfl; (first | (apply Rd_loadA tb; exact rfl; exact rfl; exact rfl; exact Has.auto; exact hroom3; exact hld3) | exact Rd_auto)); (apply Sa_take 5; exact rfl; kernel_rfl; exact PanicOk.auto; exact rfl; (first | (apply Rd_loadA tb; exact rfl; exact rfl; exact rfl; exact Has.auto; exact hroom3; exact hld3) | exact Rd_auto)); (apply Sa_take 6; exact rfl; kernel_rfl; exact PanicOk.auto; exact rfl; (first | (apply Rd_loadA tb; exact rfl; exact rfl; exact rfl; exact Has.auto; exact hroom3; exact hld3) | exact Rd_auto)); (apply Sa_take 7; exact rfl; kernel_rfl; exact PanicOk.auto; exact rfl; (first | (apply Rd_loadA tb; exact rfl; exact rfl; exact rfl; exact Has.auto; exact hroom3; exact hld3) | exact Rd_auto)); (apply Sa_take 8; exact rfl; kernel_rfl; exact PanicOk.auto; exact rfl; (first | (apply Rd_loadA tb; exact rfl; exact rfl; exact rfl; exact Has.auto; exact hroom3; exact hld3) | exact Rd_auto)); (apply Sa_take 9; exact rfl; kernel_rfl; exact PanicOk.auto; exact rfl; (first | (apply Rd_loadA tb; exact rfl; exact rfl; exact rfl; exact Has.auto; exact hroom3; exact hld3) | exact Rd_auto)); (apply Sa_take 10; exact rfl; kernel_rfl; exact PanicOk.auto; exact rfl; (first | (apply Rd_loadA tb; exact rfl; exact rfl; exact rfl; exact Has.auto; exact hroom3; exact hld3) | exact Rd_auto)); (apply Sa_take 11; exact rfl; kernel_rfl; exact PanicOk.auto; exact rfl; (first | (apply Rd_loadA tb; exact rfl; exact rfl; exact rfl; exact Has.auto; exact hroom3; exact hld3) | exact Rd_auto)); (apply Sa_take 12; exact rfl; kernel_rfl; exact PanicOk.auto; exact rfl; (first | (apply Rd_loadA tb; exact rfl; exact rfl; exact rfl; exact Has.auto; exact hroom3; exact hld3) | exact Rd_auto)); (apply Sa_take 13; exact rfl; kernel_rfl; exact PanicOk.auto; exact rfl; (first | (apply Rd_loadA tb; exact rfl; exact rfl; exact rfl; exact Has.auto; exact hroom3; exact hld3) | exact Rd_auto)); (apply Sa_one (i := 14); kernel_rfl; exact .inr (by exact Split.auto)); (apply Sa_op; exact rfl; exact rfl); (first | (apply St_call (hf := c1); exact rfl; exact rfl; exact Split.auto; rintro _ _ ⟨rfl, rfl⟩) | (apply St_call (hf := c2); exact rfl; exact rfl; exact Split.auto; rintro _ _ ⟨⟨n2, rfl⟩, rfl⟩) | (apply St_rd; exact rfl; (first | (apply Rd_loadA tb; exact rfl; exact rfl; exact rfl; exact Has.auto; exact hroom3; exact hld3))) | (apply Sq_rd; exact rfl; (first | (apply Rd_loadA tb; exact rfl; exact rfl; exact rfl; exact Has.auto; exact hroom3; exact hld3))) | (refine St_step ?_; (try with_reducible intro _)) | (refine St_step2 ?_ ?_ <;> (intro hb; (try simp only [beq_iff_eq, bne_iff_ne, decide_eq_true_eq, decide_eq_false_iff_not, Bool.not_eq_true', Bool.not_eq_false', beq_eq_false_iff_ne, bne_eq_false_iff_eq, ne_eq, Int.not_lt, Int.not_le, gt_iff_lt, ge_iff_le] at hb); (try (first | exact Bool.noConfusion hb | exact absurd trivial hb | (exfalso; omega))))) | fail); (apply Sa_one (i := 15); kernel_rfl; exact .inr (by exact Split.auto)); (apply Sa_op; exact rfl; exact rfl); (first | (apply St_call (hf := c1); exact rfl; exact rfl; exact Split.auto; rintro _ _ ⟨rfl, rfl⟩) | (apply St_call (hf := c2); exact rfl; exact rfl; exact Split.auto; rintro _ _ ⟨⟨n2, rfl⟩, rfl⟩) | (apply St_rd; exact rfl; (first | (apply Rd_loadA tb; exact rfl; exact rfl; exact rfl; exact Has.auto; exact hroom3; exact hld3))) | (apply Sq_rd; exact rfl; (first | (apply Rd_loadA tb; exact rfl; exact rfl; exact rfl; exact Has.auto; exact hroom3; exact hld3))) | (refine St_step ?_; (try with_reducible intro _)) | (refine St_step2 ?_ ?_ <;> (intro hb; (try simp only [beq_iff_eq, bne_iff_ne, decide_eq_true_eq, decide_eq_false_iff_not, Bool.not_eq_true', Bool.not_eq_false', beq_eq_false_iff_ne, bne_eq_false_iff_eq, ne_eq, Int.not_lt, Int.not_le, gt_iff_lt, ge_iff_le] at hb); (try (first | exact Bool.noConfusion hb | exact absurd trivial hb | (exfalso; omega))))) | fail); (apply Sa_take 16; exact rfl; kernel_rfl; exact PanicOk.auto; exact rfl; (first | (apply Rd_loadA tb; exact rfl; exact rfl; exact rfl; exact Has.auto; exact hroom3; exact hld3) | exact Rd_auto)); (apply Sa_take 17; exact rfl; kernel_rfl; exact PanicOk.auto; exact rfl; (first | (apply Rd_loadA tb; exact rfl; exact rfl; exact rfl; exact Has.auto; exact hroom3; exact hld3) | exact Rd_auto)); (apply Sa_take 18; exact rfl; kernel_rfl; exact PanicOk.auto; exact rfl; (first | (apply Rd_loadA tb; exact rfl; exact rfl; exact rfl; exact Has.auto; exact hroom3; exact hld3) | exact Rd_auto)); (apply Sa_take 19; exact rfl; kernel_rfl; exact PanicOk.auto; exact rfl; (first | (apply Rd_loadA tb; exact rfl; exact rfl; exact rfl; exact Has.auto; exact hroom3; exact hld3) | exact Rd_auto)); (apply Sa_take 20; exact rfl; kernel_rfl; exact PanicOk.auto; exact rfl; (first | (apply Rd_loadA tb; exact rfl; exact rfl; exact rfl; exact Has.auto; exact hroom3; exact hld3) | exact Rd_auto)); (apply Sa_done; kernel_rfl; exact .inr (by exact Split.auto))) | (refine St_step ?_; (try with_reducible intro _)) | (refine St_step2 ?_ ?_ <;> (intro hb; (try simp only [beq_iff_eq, bne_iff_ne, decide_eq_true_eq, decide_eq_false_iff_not, Bool.not_eq_true', Bool.not_eq_false', beq_eq_false_iff_ne, bne_eq_false_iff_eq, ne_eq, Int.not_lt, Int.not_le, gt_iff_lt, ge_iff_le] at hb); (try (first | exact Bool.noConfusion hb | exact absurd trivial hb | (exfalso; omega))))) | fail)
    all_goals first | (exfalso; omega) | skip
    all_goals refine St_rsMk (r := true) (n := l.length) (cap := c) (pre := pre3) (cs := xs.flatMap rvp) (rest := rest3) (by exact Has.auto) ?_
    · have he : e2 ≠ 0 := fun h => hb (by rw [h]; rfl)
      rw [if_pos he] at hT
      have hss := m4 he
      subst hss
      rw [← hT]
      refine St_lgfMk (b := lb) (n := n) (l := l) (c := c) (xs := xs) hxs (by exact Split.auto) ?_
      refine St_exMk (l := lfL kb (lkWith k s2)) z (by exact Split.auto) ?_
      exact St_ret1 (.inl rfl) rfl rfl ⟨⟨_, rfl⟩, rfl⟩ (by unfold LfP; exact Split.auto)
    · have he : e2 = 0 := by omega
      subst he
      rw [if_neg (fun h => h rfl)] at hT
      exact St_at (i + 1, s2, j + 1) ⟨⟨hil, hT, by dsimp only; omega, by dsimp only; omega, by dsimp only; omega, by dsimp only; omega⟩, by dsimp only; omega⟩ ⟨rfl, rfl, rfl, rfl, trivial⟩ (by exact Split.auto)
  · have hii : i = l.length := by omega
    subst hii
    rw [Nat.sub_self] at hT
    have hT : (l.length, s) = pump l at_ k.sd := hT
    rw [← hT]
    repeat' (first | (apply St_regionA (1000) ([cel false b 43 [nat .i64 l.length], cel false lb 61 [nat .i64 n, .slice A l.length c]]); kernel_rfl; (apply Sa_take 0; exact rfl; kernel_rfl; exact PanicOk.auto; exact rfl; (first | exact Rd_auto)); (apply Sa_take 1; exact rfl; kernel_rfl; exact PanicOk.auto; exact rfl; (first | exact Rd_auto)); (apply Sa_take 2; exact rfl; kernel_rfl; exact PanicOk.auto; exact rfl; (first | exact Rd_auto)); (apply Sa_take 3; exact rfl; kernel_rfl; exact PanicOk.auto; exact rfl; (first | exact Rd_auto)); (apply Sa_take 4; exact rfl; kernel_rfl; exact PanicOk.auto; exact rfl; (first | exact Rd_auto)); (apply Sa_take 5; exact rfl; kernel_rfl; exact PanicOk.auto; exact rfl; (first | exact Rd_auto)); (apply Sa_take 6; exact rfl; kernel_rfl; exact PanicOk.auto; exact rfl; (first | exact Rd_auto)); (apply Sa_take 7; exact rfl; kernel_rfl; exact PanicOk.auto; exact rfl; (first | exact Rd_auto)); (apply Sa_take 8; exact rfl; kernel_rfl; exact PanicOk.auto; exact rfl; (first | exact Rd_auto)); (apply Sa_take 9; exact rfl; kernel_rfl; exact PanicOk.auto; exact rfl; (first | exact Rd_auto)); (apply Sa_done; kernel_rfl; exact .inr (by exact Split.auto))) | (refine St_step ?_; (try with_reducible intro _)) | (refine St_step2 ?_ ?_ <;> (intro hb; (try simp only [beq_iff_eq, bne_iff_ne, decide_eq_true_eq, decide_eq_false_iff_not, Bool.not_eq_true', Bool.not_eq_false', beq_eq_false_iff_ne, bne_eq_false_iff_eq, ne_eq, Int.not_lt, Int.not_le, gt_iff_lt, ge_iff_le] at hb); (try (first | exact Bool.noConfusion hb | exact absurd trivial hb | (exfalso; omega))))) | fail)
    all_goals first | (exfalso; omega) | skip
    refine St_lgfMk (b := lb) (n := n) (l := l) (c := c) (xs := xs) hxs (by exact Split.auto) ?_
    refine St_exMk (l := lfL kb (lkWith k s)) z (by exact Split.auto) ?_
    exact St_ret1 (.inl rfl) rfl rfl ⟨⟨_, rfl⟩, rfl⟩ (by unfold LfP; exact Split.auto)
end Go.Proofs.YtfjnacakpeommaaGreatDoor
/- Contracts: chapbookref16.New, Packets, Tick. -/
namespace Go.Proofs.YtfjnacakpeommaaGreatDoor
open Go SL Pl
set_option autoImplicit false
set_option maxRecDepth 100000
set_option linter.unusedSimpArgs false
set_option linter.unusedVariables false
attribute [local irreducible] St Sq Exec QExec wpList wpQuiet Code.wp Exit.then Exit.inBlock bodyPost At Rd wpOp Wa QK GB
def pv1 (x : Nat × Nat) : List Value := [.pointer (some ⟨x.1, 0, none⟩)]
def pv2 (x : Nat × Nat) : List Value := [.pointer (some ⟨x.2, 0, none⟩)]
theorem pv1_len (x : Nat × Nat) : (pv1 x).length = 1 := rfl
theorem pv2_len (x : Nat × Nat) : (pv2 x).length = 1 := rfl
abbrev FfC (b n : Nat) : HP := cel false b 43 [nat .i64 n]
def PgP (x : Nat × Nat) (k : Lk × Nat) : HP := big [LfP x.1 k.1, FfC x.2 k.2]
structure SgZ where
  lb : Nat
  A1 : Option Addr
  c1 : Nat
  A2 : Option Addr
  c2 : Nat
  ids : List (Nat × Nat)
abbrev sgCells (s : Sqr) (z : SgZ) : List Value := cfgC s.c ++ [.pointer (some ⟨z.lb, 0, none⟩), .slice z.A1 s.ks.length z.c1, .slice z.A2 s.ks.length z.c2]
def sgL (b : Nat) (s : Sqr) (z : SgZ) : List HP :=
  [lift (z.ids.length = s.ks.length), cel false b 49 (sgCells s z), LgF z.lb s.c.clients.toNat s.l, RS true (.slice z.A1 s.ks.length z.c1) s.ks.length (z.ids.flatMap pv1), RS true (.slice z.A2 s.ks.length z.c2) s.ks.length (z.ids.flatMap pv2), big (List.zipWith PgP z.ids s.ks)]
def SgP (b : Nat) (s : Sqr) : HP := ex fun z => big (sgL b s z)
section
variable {ρ : Rst} {N : Nat} {env : Env} {L L' : List HP} {G : Act → World → Prop}
theorem St_sgOpen {b : Nat} {s : Sqr} (hc : Has L (SgP b s) L')
    (h : ∀ (lb : Nat) (A1 : Option Addr) (c1 : Nat) (A2 : Option Addr) (c2 : Nat) (ids : List (Nat × Nat)), ids.length = s.ks.length → St ρ N env (cel false b 49 (cfgC s.c ++ [.pointer (some ⟨lb, 0, none⟩), .slice A1 s.ks.length c1, .slice A2 s.ks.length c2]) :: LgF lb s.c.clients.toNat s.l :: RS true (.slice A1 s.ks.length c1) s.ks.length (ids.flatMap pv1) :: RS true (.slice A2 s.ks.length c2) s.ks.length (ids.flatMap pv2) :: big (List.zipWith PgP ids s.ks) :: L') G) : St ρ N env L G :=
  St_exOpen (l := sgL b s) hc fun z => St_lift fun hz => h z.lb z.A1 z.c1 z.A2 z.c2 z.ids hz
theorem St_sgMk {b lb : Nat} {s : Sqr} {A1 A2 : Option Addr} {c1 c2 : Nat} {ids : List (Nat × Nat)} (hz : ids.length = s.ks.length)
    (hs : Split L [cel false b 49 (cfgC s.c ++ [.pointer (some ⟨lb, 0, none⟩), .slice A1 s.ks.length c1, .slice A2 s.ks.length c2]), LgF lb s.c.clients.toNat s.l, RS true (.slice A1 s.ks.length c1) s.ks.length (ids.flatMap pv1), RS true (.slice A2 s.ks.length c2) s.ks.length (ids.flatMap pv2), big (List.zipWith PgP ids s.ks)] L')
    (h : St ρ N env (SgP b s :: L') G) : St ρ N env L G :=
  St_conv (fun w H => Holds.ex_mk (A := fun z => big (sgL b s z)) ⟨lb, A1, c1, A2, c2, ids⟩ (Holds.shut (l := [_, _, _, _, _, _]) (Holds.lift_mk hz (H.split hs)))) h
theorem St_pgGet {ids : List (Nat × Nat)} {ks : List (Lk × Nat)} {i : Nat} {x : Nat × Nat} {k : Lk × Nat} (hc : Has L (big (List.zipWith PgP ids ks)) L') (hx : ids[i]? = some x) (hk : ks[i]? = some k)
    (h : St ρ N env (LfP x.1 k.1 :: FfC x.2 k.2 :: big ((List.zipWith PgP ids ks).set i emp) :: L') G) : St ρ N env L G :=
  St_bigGet hc (zip_get hx hk) (St_open (l := [LfP x.1 k.1, FfC x.2 k.2]) h)
theorem St_pgPut {ids : List (Nat × Nat)} {ks : List (Lk × Nat)} {i : Nat} {x : Nat × Nat} {k : Lk × Nat} (hx : ids[i]? = some x) (hk : i < ks.length) (hs : Split L [LfP x.1 k.1, FfC x.2 k.2, big ((List.zipWith PgP ids ks).set i emp)] L')
    (h : St ρ N env (big (List.zipWith PgP ids (ks.set i k)) :: L') G) : St ρ N env L G := by
  have hlt : i < ids.length := by
    rcases Nat.lt_or_ge i ids.length with q | q
    · exact q
    · rw [List.getElem?_eq_none q] at hx; cases hx
  refine St_conv (L' := PgP x k :: big ((List.zipWith PgP ids ks).set i emp) :: L') (fun w H => by
    have := H.split hs
    exact (Holds.shut (l := [LfP x.1 k.1, FfC x.2 k.2]) this)) ?_
  refine St_bigPut (l := List.zipWith PgP ids ks) (i := i) (A := PgP x k) (by simp; omega) (Split.cons .head (Split.cons .head .nil)) ?_
  rw [zip_set hx]
  exact h
end
theorem zipg_snoc {ids : List (Nat × Nat)} {i : Nat} {x : Nat × Nat} {k : Lk × Nat} (h : ids.length = i) : List.zipWith PgP (ids ++ [x]) (List.replicate (i + 1) k) = List.zipWith PgP ids (List.replicate i k) ++ [PgP x k] := by
  rw [List.replicate_succ', List.zipWith_append (by simp [h])]
  rfl
attribute [local irreducible] LfP LgF
set_option maxHeartbeats 1000000 in
theorem sgNew_sp (c : Cfg) (hc : cfgOk c) : Sp Tryz.prog 11 [.agg (cfgC c).toArray] []
    (fun w M => ∃ b, w = .pointer (some ⟨b, 0, none⟩) ∧ M = [SgP b (sqNew c)]) := by
  refine Sp.intro (P := Tryz.prog) (Tryz.func11) rfl Tryz.ntmps11 (by decide) rfl ?_
  intro ρ F
  obtain ⟨⟨h1, h2⟩, _⟩ := id hc
  obtain ⟨n, hn⟩ := Int.eq_ofNat_of_zero_le (show 0 ≤ c.clients by omega)
  have hlg := lgfNew_sp c.clients h1 h2
  have hlk := lfNew_sp 0 c.window c.window true
  have hcc : c.clients.toNat = n := by omega
  repeat (refine St_step ?_; (try with_reducible intro cb))
  repeat' (first | (apply St_regionA (1000) ([cel false cb 23 (cfgC c)]); kernel_rfl; (apply Sa_take 0; exact rfl; kernel_rfl; exact PanicOk.auto; exact rfl; (first | exact Rd_auto)); (apply Sa_take 1; exact rfl; kernel_rfl; exact PanicOk.auto; exact rfl; (first | exact Rd_auto)); (apply Sa_take 2; exact rfl; kernel_rfl; exact PanicOk.auto; exact rfl; (first | exact Rd_auto)); (apply Sa_one (i := 3); kernel_rfl; exact .inr (by exact Split.auto)); (apply Sa_op; exact rfl; exact rfl); (first | (apply St_call (hf := hlg); exact rfl; exact rfl; exact Split.auto; rintro _ _ ⟨lb, rfl, rfl⟩) | (apply St_boxA; exact rfl; exact rfl; intro sb) | (refine St_step ?_; (try with_reducible intro _)) | (refine St_step2 ?_ ?_ <;> (intro hb; (try simp only [beq_iff_eq, bne_iff_ne, decide_eq_true_eq, decide_eq_false_iff_not, Bool.not_eq_true', Bool.not_eq_false', beq_eq_false_iff_ne, bne_eq_false_iff_eq, ne_eq, Int.not_lt, Int.not_le, gt_iff_lt, ge_iff_le] at hb); (try (first | exact Bool.noConfusion hb | exact absurd trivial hb | (exfalso; omega))))) | fail); (apply Sa_take 4; exact rfl; kernel_rfl; exact PanicOk.auto; exact rfl; (first | exact Rd_auto)); (apply Sa_one (i := 5); kernel_rfl; exact .inr (by exact Split.auto)); (apply Sa_op; exact rfl; exact rfl); (first | (apply St_call (hf := hlg); exact rfl; exact rfl; exact Split.auto; rintro _ _ ⟨lb, rfl, rfl⟩) | (apply St_boxA; exact rfl; exact rfl; intro sb) | (refine St_step ?_; (try with_reducible intro _)) | (refine St_step2 ?_ ?_ <;> (intro hb; (try simp only [beq_iff_eq, bne_iff_ne, decide_eq_true_eq, decide_eq_false_iff_not, Bool.not_eq_true', Bool.not_eq_false', beq_eq_false_iff_ne, bne_eq_false_iff_eq, ne_eq, Int.not_lt, Int.not_le, gt_iff_lt, ge_iff_le] at hb); (try (first | exact Bool.noConfusion hb | exact absurd trivial hb | (exfalso; omega))))) | fail); (apply Sa_take 6; exact rfl; kernel_rfl; exact PanicOk.auto; exact rfl; (first | exact Rd_auto)); (apply Sa_done; kernel_rfl; exact .inr (by exact Split.auto))) | (refine St_step ?_; (try with_reducible intro _)) | (refine St_step2 ?_ ?_ <;> (intro hb; (try simp only [beq_iff_eq, bne_iff_ne, decide_eq_true_eq, decide_eq_false_iff_not, Bool.not_eq_true', Bool.not_eq_false', beq_eq_false_iff_ne, bne_eq_false_iff_eq, ne_eq, Int.not_lt, Int.not_le, gt_iff_lt, ge_iff_le] at hb); (try (first | exact Bool.noConfusion hb | exact absurd trivial hb | (exfalso; omega))))) | fail)
  all_goals first | (exfalso; omega) | skip
  refine St_conv (L' := Sl 55 1 (.slice none 0 0) 0 [] :: Sl 44 1 (.slice none 0 0) 0 [] :: big [] :: _) (fun w H => Holds.sl_nil (Holds.sl_nil (H.mono fun h x => star_emp x))) ?_
  refine St_loop (fun (y : Nat × (Option Addr × Nat) × (Option Addr × Nat) × List (Nat × Nat)) => y.1 ≤ n ∧ y.2.2.2.length = y.1) (fun y => [(1, .pointer (some ⟨cb, 0, none⟩)), (3, .pointer (some ⟨sb, 0, none⟩)), (4, nat .i64 y.1)]) (fun y => [cel false cb 23 (cfgC c), cel false sb 49 (cfgC c ++ [.pointer (some ⟨lb, 0, none⟩), .slice y.2.1.1 y.1 y.2.1.2, .slice y.2.2.1.1 y.1 y.2.2.1.2]), Sl 55 1 (.slice y.2.1.1 y.1 y.2.1.2) y.1 (y.2.2.2.flatMap pv1), Sl 44 1 (.slice y.2.2.1.1 y.1 y.2.2.1.2) y.1 (y.2.2.2.flatMap pv2), big (List.zipWith PgP y.2.2.2 (List.replicate y.1 (lkNew 0 c.window c.window true, 0))), LgF lb c.clients.toNat [], big F]) (fun y => n - y.1) (0, (none, 0), (none, 0), []) ⟨Nat.zero_le _, rfl⟩ ⟨rfl, rfl, rfl, trivial⟩ (by exact Split.auto) ?_
  rintro ⟨i, ⟨A1, c1⟩, ⟨A2, c2⟩, ids⟩ ⟨hi, hids⟩
  have hi : i ≤ n := hi
  have hids : ids.length = i := hids
  dsimp only
  by_cases hin : i < n
  · repeat' (first | (apply St_regionA (14) ([cel false cb 23 (cfgC c), cel false sb 49 (cfgC c ++ [.pointer (some ⟨lb, 0, none⟩), .slice A1 i c1, .slice A2 i c2])]); kernel_rfl; (apply Sa_take 0; exact rfl; kernel_rfl; exact PanicOk.auto; exact rfl; (first | exact Rd_auto)); (apply Sa_take 1; exact rfl; kernel_rfl; exact PanicOk.auto; exact rfl; (first | exact Rd_auto)); (apply Sa_take 2; exact rfl; kernel_rfl; exact PanicOk.auto; exact rfl; (first | exact Rd_auto)); (apply Sa_take 3; exact rfl; kernel_rfl; exact PanicOk.auto; exact rfl; (first | exact Rd_auto)); (apply Sa_take 4; exact rfl; kernel_rfl; exact PanicOk.auto; exact rfl; (first | exact Rd_auto)); (apply Sa_take 5; exact rfl; kernel_rfl; exact PanicOk.auto; exact rfl; (first | exact Rd_auto)); (apply Sa_take 6; exact rfl; kernel_rfl; exact PanicOk.auto; exact rfl; (first | exact Rd_auto)); (apply Sa_take 7; exact rfl; kernel_rfl; exact PanicOk.auto; exact rfl; (first | exact Rd_auto)); (apply Sa_take 8; exact rfl; kernel_rfl; exact PanicOk.auto; exact rfl; (first | exact Rd_auto)); (apply Sa_one (i := 9); kernel_rfl; exact .inr (by exact Split.auto)); (apply Sa_op; exact rfl; exact rfl); (first | (apply St_call (hf := hlk); exact rfl; exact rfl; exact Split.auto; rintro _ _ ⟨b1, rfl, rfl⟩) | (apply St_append tb (sz := 1) (n := i) (cs := ids.flatMap pv1); (repeat exact rfl); exact Has.auto; (intro _; exact Src.row (n := 1) (by exact Has.auto) (by simp) (by exact rfl)); exact rfl; (dsimp only; omega); intro v'; refine St_slIs (v := v') (n := i + 1) (by exact Has.auto) ?_; rintro A3 c3 rfl) | (refine St_step ?_; (try with_reducible intro _)) | (refine St_step2 ?_ ?_ <;> (intro hb; (try simp only [beq_iff_eq, bne_iff_ne, decide_eq_true_eq, decide_eq_false_iff_not, Bool.not_eq_true', Bool.not_eq_false', beq_eq_false_iff_ne, bne_eq_false_iff_eq, ne_eq, Int.not_lt, Int.not_le, gt_iff_lt, ge_iff_le] at hb); (try (first | exact Bool.noConfusion hb | exact absurd trivial hb | (exfalso; omega))))) | fail); (apply Sa_one (i := 10); kernel_rfl; exact .inr (by exact Split.auto)); (apply Sa_op; exact rfl; exact rfl); (first | (apply St_call (hf := hlk); exact rfl; exact rfl; exact Split.auto; rintro _ _ ⟨b1, rfl, rfl⟩) | (apply St_append tb (sz := 1) (n := i) (cs := ids.flatMap pv1); (repeat exact rfl); exact Has.auto; (intro _; exact Src.row (n := 1) (by exact Has.auto) (by simp) (by exact rfl)); exact rfl; (dsimp only; omega); intro v'; refine St_slIs (v := v') (n := i + 1) (by exact Has.auto) ?_; rintro A3 c3 rfl) | (refine St_step ?_; (try with_reducible intro _)) | (refine St_step2 ?_ ?_ <;> (intro hb; (try simp only [beq_iff_eq, bne_iff_ne, decide_eq_true_eq, decide_eq_false_iff_not, Bool.not_eq_true', Bool.not_eq_false', beq_eq_false_iff_ne, bne_eq_false_iff_eq, ne_eq, Int.not_lt, Int.not_le, gt_iff_lt, ge_iff_le] at hb); (try (first | exact Bool.noConfusion hb | exact absurd trivial hb | (exfalso; omega))))) | fail); (apply Sa_one (i := 11); kernel_rfl; exact .inr (by exact Split.auto)); (apply Sa_op; exact rfl; exact rfl); (first | (apply St_call (hf := hlk); exact rfl; exact rfl; exact Split.auto; rintro _ _ ⟨b1, rfl, rfl⟩) | (apply St_append tb (sz := 1) (n := i) (cs := ids.flatMap pv1); (repeat exact rfl); exact Has.auto; (intro _; exact Src.row (n := 1) (by exact Has.auto) (by simp) (by exact rfl)); exact rfl; (dsimp only; omega); intro v'; refine St_slIs (v := v') (n := i + 1) (by exact Has.auto) ?_; rintro A3 c3 rfl) | (refine St_step ?_; (try with_reducible intro _)) | (refine St_step2 ?_ ?_ <;> (intro hb; (try simp only [beq_iff_eq, bne_iff_ne, decide_eq_true_eq, decide_eq_false_iff_not, Bool.not_eq_true', Bool.not_eq_false', beq_eq_false_iff_ne, bne_eq_false_iff_eq, ne_eq, Int.not_lt, Int.not_le, gt_iff_lt, ge_iff_le] at hb); (try (first | exact Bool.noConfusion hb | exact absurd trivial hb | (exfalso; omega))))) | fail); (apply Sa_take 12; exact rfl; kernel_rfl; exact PanicOk.auto; exact rfl; (first | exact Rd_auto)); (apply Sa_take 13; exact rfl; kernel_rfl; exact PanicOk.auto; exact rfl; (first | exact Rd_auto)); (apply Sa_one (i := 14); kernel_rfl; exact .inr (by exact Split.auto)); (apply Sa_op; exact rfl; exact rfl); (first | (apply St_call (hf := hlk); exact rfl; exact rfl; exact Split.auto; rintro _ _ ⟨b1, rfl, rfl⟩) | (apply St_append tb (sz := 1) (n := i) (cs := ids.flatMap pv1); (repeat exact rfl); exact Has.auto; (intro _; exact Src.row (n := 1) (by exact Has.auto) (by simp) (by exact rfl)); exact rfl; (dsimp only; omega); intro v'; refine St_slIs (v := v') (n := i + 1) (by exact Has.auto) ?_; rintro A3 c3 rfl) | (refine St_step ?_; (try with_reducible intro _)) | (refine St_step2 ?_ ?_ <;> (intro hb; (try simp only [beq_iff_eq, bne_iff_ne, decide_eq_true_eq, decide_eq_false_iff_not, Bool.not_eq_true', Bool.not_eq_false', beq_eq_false_iff_ne, bne_eq_false_iff_eq, ne_eq, Int.not_lt, Int.not_le, gt_iff_lt, ge_iff_le] at hb); (try (first | exact Bool.noConfusion hb | exact absurd trivial hb | (exfalso; omega))))) | fail); (apply Sa_done (R := []); kernel_rfl; refine .inl ?_; kernel_rfl)) | (apply St_boxA; exact rfl; exact rfl; intro b2) | (apply St_append tb (sz := 1) (n := i) (cs := ids.flatMap pv2); (repeat exact rfl); exact Has.auto; (intro _; exact Src.row (n := 1) (by exact Has.auto) (by simp) (by exact rfl)); exact rfl; (dsimp only; omega); intro v'; refine St_slIs (v := v') (n := i + 1) (by exact Has.auto) ?_; rintro A4 c4 rfl) | (refine St_step ?_; (try with_reducible intro _)) | (refine St_step2 ?_ ?_ <;> (intro hb; (try simp only [beq_iff_eq, bne_iff_ne, decide_eq_true_eq, decide_eq_false_iff_not, Bool.not_eq_true', Bool.not_eq_false', beq_eq_false_iff_ne, bne_eq_false_iff_eq, ne_eq, Int.not_lt, Int.not_le, gt_iff_lt, ge_iff_le] at hb); (try (first | exact Bool.noConfusion hb | exact absurd trivial hb | (exfalso; omega))))) | fail)
    all_goals first | (exfalso; omega) | skip
    refine St_shut (l := [LfP b1 (lkNew 0 c.window c.window true), FfC b2 0]) (by exact Split.auto) ?_
    refine St_bigSnoc (l := List.zipWith PgP ids (List.replicate i (lkNew 0 c.window c.window true, 0))) (A := PgP (b1, b2) (lkNew 0 c.window c.window true, 0)) (by exact Split.auto) ?_
    rw [← zipg_snoc hids]
    refine St_slEq (v := .slice A3 (i + 1) c3) (cs' := (ids ++ [(b1, b2)]).flatMap pv1) (n' := i + 1) (by exact Has.auto) (by rw [List.flatMap_append]; rfl) rfl ?_
    refine St_slEq (v := .slice A4 (i + 1) c4) (cs' := (ids ++ [(b1, b2)]).flatMap pv2) (n' := i + 1) (by exact Has.auto) (by rw [List.flatMap_append]; rfl) rfl ?_
    exact St_at (i + 1, (A3, c3), (A4, c4), ids ++ [(b1, b2)]) ⟨⟨by show i + 1 ≤ n; omega, by show (ids ++ [_]).length = i + 1; simp [hids]⟩, by show n - (i + 1) < n - i; omega⟩ ⟨rfl, rfl, rfl, trivial⟩ (by exact Split.auto)
  · have hii : i = n := by omega
    subst hii
    repeat' (first | (refine St_step ?_; (try with_reducible intro _)) | (refine St_step2 ?_ ?_ <;> (intro hb; (try simp only [beq_iff_eq, bne_iff_ne, decide_eq_true_eq, decide_eq_false_iff_not, Bool.not_eq_true', Bool.not_eq_false', beq_eq_false_iff_ne, bne_eq_false_iff_eq, ne_eq, Int.not_lt, Int.not_le, gt_iff_lt, ge_iff_le] at hb); (try (first | exact Bool.noConfusion hb | exact absurd trivial hb | (exfalso; omega))))) | fail)
    all_goals first | (exfalso; omega) | skip
    have hks : (sqNew c).ks = List.replicate i (lkNew 0 c.window c.window true, 0) := by unfold sqNew; rw [hcc]
    have hlen : (sqNew c).ks.length = i := by rw [hks]; simp
    refine St_slShare (v := .slice A1 i c1) (cs := ids.flatMap pv1) (by exact Has.auto) ?_
    refine St_slShare (v := .slice A2 i c2) (cs := ids.flatMap pv2) (by exact Has.auto) ?_
    refine St_sgMk (b := sb) (lb := lb) (s := sqNew c) (A1 := A1) (c1 := c1) (A2 := A2) (c2 := c2) (ids := ids) (by rw [hlen]; exact hids) (by rw [hlen, hks]; exact Split.auto) ?_
    exact St_ret1 (.inl rfl) rfl rfl ⟨_, rfl, rfl⟩ (by exact Split.auto)
set_option maxHeartbeats 1000000 in
theorem refPackets_sp (q : Bool) (src dst mtu : Int) (fs : List Fr) (v : Value) (hl : fs.length ≤ 1000) (hd : ∀ f ∈ fs, f.data.length ≤ 100000) : Sp Tryz.prog 50 [.int .i64 src, .int .i64 dst, v, .int .i64 mtu] [RS q v fs.length (fs.flatMap fv)]
    (fun w M => (∃ A c, w = .slice A (puts fs src dst mtu).length c) ∧ M = [RS true w (puts fs src dst mtu).length ((puts fs src dst mtu).flatMap kv), RS q v fs.length (fs.flatMap fv)]) := by
  refine Sp.intro (P := Tryz.prog) (Tryz.func50) rfl Tryz.ntmps50 (by decide) rfl ?_
  intro ρ F
  refine St_rsIs (r := q) (v := v) (n := fs.length) (cs := fs.flatMap fv) (by exact Has.auto) ?_
  rintro A c rfl
  repeat' (first | (apply St_build0 tb (sz := 3); exact rfl; exact rfl; exact rfl; exact rfl; intro b0) | (refine St_step ?_; (try with_reducible intro _)) | (refine St_step2 ?_ ?_ <;> (intro hb; (try simp only [beq_iff_eq, bne_iff_ne, decide_eq_true_eq, decide_eq_false_iff_not, Bool.not_eq_true', Bool.not_eq_false', beq_eq_false_iff_ne, bne_eq_false_iff_eq, ne_eq, Int.not_lt, Int.not_le, gt_iff_lt, ge_iff_le] at hb); (try (first | exact Bool.noConfusion hb | exact absurd trivial hb | (exfalso; omega))))) | fail)
  refine St_loop (fun (y : Nat × Option Addr × Nat) => y.1 ≤ fs.length) (fun y => [(0, .int .i64 src), (1, .int .i64 dst), (2, .slice A fs.length c), (3, .int .i64 mtu), (9, .slice y.2.1 (puts (fs.take y.1) src dst mtu).length y.2.2), (10, nat .i64 y.1)]) (fun y => [Sl 77 3 (.slice y.2.1 (puts (fs.take y.1) src dst mtu).length y.2.2) (puts (fs.take y.1) src dst mtu).length ((puts (fs.take y.1) src dst mtu).flatMap kv), RS q (.slice A fs.length c) fs.length (fs.flatMap fv), big F]) (fun y => fs.length - y.1) (0, some ⟨b0, 0, none⟩, 0) (Nat.zero_le _) ⟨rfl, rfl, rfl, rfl, rfl, rfl, trivial⟩ (by rw [List.take_zero]; simp only [puts, List.filterMap_nil]; exact Split.auto) ?_
  rintro ⟨j, A2, c2⟩ hj
  have hj : j ≤ fs.length := hj
  dsimp only
  have hpo : (puts (fs.take j) src dst mtu).length ≤ 2000 := by
    have := puts_len (fs.take j) src dst mtu
    rw [List.length_take] at this; omega
  by_cases hjl : j < fs.length
  · obtain ⟨f, hf⟩ : ∃ f, fs[j]? = some f := ⟨_, List.getElem?_eq_getElem hjl⟩
    refine St_rsOpen (r := q) (v := .slice A fs.length c) (n := fs.length) (cs := fs.flatMap fv) (by exact Has.auto) (by omega) ?_
    rintro b3 T3 cap3 pre3 rest3 hv3
    injection hv3 with q1 q2 q3
    subst q1 q3
    have hld2 := flat_at fv_len fs j f pre3 rest3 hf
    have hroom2 := flat_room fv_len fs j pre3 rest3 hjl
    have hput := refFput_sp f mtu (by have := hd f (List.mem_of_getElem? hf); omega)
    have htake : fs.take (j + 1) = fs.take j ++ [f] := by rw [List.take_add_one, hf]; rfl
    have hst := puts_snoc (fs.take j) f src dst mtu
    rw [← htake] at hst
    by_cases he : (fput f mtu).2 = 0
    · rw [if_pos he] at hst
      rw [he] at hput
      generalize (fput f mtu).1 = w at *
      generalize puts (fs.take j) src dst mtu = out at *
      generalize hq9 : puts (fs.take (j + 1)) src dst mtu = out2 at *
      subst hst
      repeat' (first | (apply St_call (hf := hput); exact rfl; exact rfl; exact Split.auto; rintro _ _ ⟨rfl, rfl⟩) | (apply St_append tb (sz := 3) (n := out.length) (cs := out.flatMap kv); (repeat exact rfl); exact Has.auto; (intro _; exact Src.row (n := 1) (by exact Has.auto) (by simp) (by exact rfl)); exact rfl; (dsimp only; omega); intro v'; refine St_slIs (v := v') (n := out.length + 1) (by exact Has.auto) ?_; rintro A4 c4 rfl) | (apply St_rd; exact rfl; (first | (apply Rd_loadA tb; exact rfl; exact rfl; exact rfl; exact Has.auto; exact hroom2; exact hld2))) | (apply Sq_rd; exact rfl; (first | (apply Rd_loadA tb; exact rfl; exact rfl; exact rfl; exact Has.auto; exact hroom2; exact hld2))) | (refine St_step ?_; (try with_reducible intro _)) | (refine St_step2 ?_ ?_ <;> (intro hb; (try simp only [beq_iff_eq, bne_iff_ne, decide_eq_true_eq, decide_eq_false_iff_not, Bool.not_eq_true', Bool.not_eq_false', beq_eq_false_iff_ne, bne_eq_false_iff_eq, ne_eq, Int.not_lt, Int.not_le, gt_iff_lt, ge_iff_le] at hb); (try (first | exact Bool.noConfusion hb | exact absurd trivial hb | (exfalso; omega))))) | fail)
      all_goals first | (exfalso; omega) | skip
      have e2 : (out ++ [(⟨src, dst, w⟩ : Pk)]).length = out.length + 1 := by simp
      refine St_slEq (v := .slice A4 (out.length + 1) c4) (cs' := (out ++ [(⟨src, dst, w⟩ : Pk)]).flatMap kv) (n' := (out ++ [(⟨src, dst, w⟩ : Pk)]).length) (by exact Has.auto) (by rw [List.flatMap_append]; rfl) e2.symm ?_
      refine St_rsMk (r := q) (n := fs.length) (cap := c) (pre := pre3) (cs := fs.flatMap fv) (rest := rest3) (by exact Has.auto) ?_
      refine St_at (j + 1, A4, c4) ⟨hjl, ?_⟩ ⟨rfl, rfl, rfl, rfl, ?_, rfl, trivial⟩ (by rw [hq9, e2]; exact Split.auto)
      · dsimp only; omega
      · rw [hq9, e2]; rfl
    · rw [if_neg he, List.append_nil] at hst
      generalize (fput f mtu).1 = w at *
      generalize (fput f mtu).2 = er at *
      repeat' (first | (apply St_call (hf := hput); exact rfl; exact rfl; exact Split.auto; rintro _ _ ⟨rfl, rfl⟩) | (apply St_rd; exact rfl; (first | (apply Rd_loadA tb; exact rfl; exact rfl; exact rfl; exact Has.auto; exact hroom2; exact hld2))) | (apply Sq_rd; exact rfl; (first | (apply Rd_loadA tb; exact rfl; exact rfl; exact rfl; exact Has.auto; exact hroom2; exact hld2))) | (refine St_step ?_; (try with_reducible intro _)) | (refine St_step2 ?_ ?_ <;> (intro hb; (try simp only [beq_iff_eq, bne_iff_ne, decide_eq_true_eq, decide_eq_false_iff_not, Bool.not_eq_true', Bool.not_eq_false', beq_eq_false_iff_ne, bne_eq_false_iff_eq, ne_eq, Int.not_lt, Int.not_le, gt_iff_lt, ge_iff_le] at hb); (try (first | exact Bool.noConfusion hb | exact absurd trivial hb | (exfalso; omega))))) | fail)
      all_goals first | (exfalso; omega) | skip
      refine St_rsMk (r := q) (n := fs.length) (cap := c) (pre := pre3) (cs := fs.flatMap fv) (rest := rest3) (by exact Has.auto) ?_
      refine St_at (j + 1, A2, c2) ⟨hjl, ?_⟩ ⟨rfl, rfl, rfl, rfl, ?_, rfl, trivial⟩ (by rw [hst]; exact Split.auto)
      · dsimp only; omega
      · rw [hst]; rfl
  · have hjj : j = fs.length := by omega
    subst hjj
    rw [List.take_length]
    repeat' (first | (refine St_step ?_; (try with_reducible intro _)) | (refine St_step2 ?_ ?_ <;> (intro hb; (try simp only [beq_iff_eq, bne_iff_ne, decide_eq_true_eq, decide_eq_false_iff_not, Bool.not_eq_true', Bool.not_eq_false', beq_eq_false_iff_ne, bne_eq_false_iff_eq, ne_eq, Int.not_lt, Int.not_le, gt_iff_lt, ge_iff_le] at hb); (try (first | exact Bool.noConfusion hb | exact absurd trivial hb | (exfalso; omega))))) | fail)
    all_goals first | (exfalso; omega) | skip
    refine St_slShare (v := .slice A2 (puts fs src dst mtu).length c2) (cs := (puts fs src dst mtu).flatMap kv) (by exact Has.auto) ?_
    exact St_ret1 (.inl rfl) rfl rfl ⟨⟨_, _, rfl⟩, rfl⟩ (by exact Split.auto)
end Go.Proofs.YtfjnacakpeommaaGreatDoor
/- Contracts: chapbookref16.Tick. -/
namespace Go.Proofs.YtfjnacakpeommaaGreatDoor
open Go SL Pl
set_option autoImplicit false
set_option maxRecDepth 100000
set_option linter.unusedSimpArgs false
set_option linter.unusedVariables false
attribute [local irreducible] St Sq Exec QExec wpList wpQuiet Code.wp Exit.then Exit.inBlock bodyPost At Rd wpOp Wa QK GB
/-- How far a sequencer's links have come. -/
def sqSm (s : Sqr) (n : Nat) : Prop := ∀ k ∈ s.ks, k.1.rc.acked ≤ n ∧ k.1.sd.acked + k.1.sd.ps.length ≤ n
theorem sqSm_new (c : Cfg) : sqSm (sqNew c) 0 := fun k hk => by
  have := List.eq_of_mem_replicate hk
  subst this
  exact ⟨Nat.le_refl _, Nat.le_refl _⟩
theorem pumpN_more (l : List Ro) : ∀ (n i : Nat) (s : Sd), (pumpN l n i s).2.acked + (pumpN l n i s).2.ps.length ≤ s.acked + s.ps.length + n
  | 0, _, _ => Nat.le_refl _
  | n + 1, i, s => by
    unfold pumpN
    split
    · dsimp only; omega
    · rename_i r _
      split
      · dsimp only; omega
      · have h1 := (sdOffer_more s (rput r).1).2.2.1
        have h2 := pumpN_more l n (i + 1) (sdOffer s (rput r).1).1
        omega
theorem sqSm_tick {s : Sqr} {n : Nat} (h : sqSm s n) : sqSm (sqTick s) (n + s.l.length) := fun k hk => by
  obtain ⟨x, hx, rfl⟩ := List.mem_map.1 hk
  obtain ⟨h1, h2⟩ := h x hx
  have h3 := pumpN_more s.l (s.l.length - x.2) x.2 x.1.sd
  refine ⟨?_, ?_⟩
  · show x.1.rc.acked ≤ _; omega
  · show (pumpN s.l (s.l.length - x.2) x.2 x.1.sd).2.acked + (pumpN s.l (s.l.length - x.2) x.2 x.1.sd).2.ps.length ≤ _; omega
theorem kv_ok (l : List Pk) : (l.flatMap kv).all Value.oneCell' = true := by
  induction l with
  | nil => rfl
  | cons u l ih => rw [List.flatMap_cons, List.all_append, ih]; rfl
attribute [local irreducible] LfP LgF
set_option maxHeartbeats 2000000 in
theorem sgTick_sp (b : Nat) (s : Sqr) (hs : sqIn s) (hsm : sqSm s 1000000) (hl : s.l.length ≤ 900000) :
    Sp Tryz.prog 16 [.pointer (some ⟨b, 0, none⟩)] [SgP b s] (fun w M => (∃ A c, w = .slice A (sqPks s).length c) ∧ M = [RS true w (sqPks s).length ((sqPks s).flatMap kv), SgP b (sqTick s)]) := by
  refine Sp.intro (P := Tryz.prog) (Tryz.func16) rfl Tryz.ntmps16 (by decide) rfl ?_
  intro ρ F
  refine St_sgOpen (b := b) (s := s) (by exact Has.auto) fun lb A1 c1 A2 c2 ids hz => ?_
  have hcl := hs.ok.n
  obtain ⟨⟨cl1, cl2⟩, _⟩ := id hs.ok.c
  have hsn : s.ks.length ≤ 64 := by omega
  have hmr := lgOk_mem hs.ok.l
  repeat' (first | (apply St_build0 tb (sz := 3); exact rfl; exact rfl; exact rfl; exact rfl; intro b0) | (refine St_step ?_; (try with_reducible intro _)) | (refine St_step2 ?_ ?_ <;> (intro hb; (try simp only [beq_iff_eq, bne_iff_ne, decide_eq_true_eq, decide_eq_false_iff_not, Bool.not_eq_true', Bool.not_eq_false', beq_eq_false_iff_ne, bne_eq_false_iff_eq, ne_eq, Int.not_lt, Int.not_le, gt_iff_lt, ge_iff_le] at hb); (try (first | exact Bool.noConfusion hb | exact absurd trivial hb | (exfalso; omega))))) | fail)
  refine St_loop (fun (y : Nat × Option Addr × Nat) => y.1 ≤ s.ks.length) (fun y => [(0, .pointer (some ⟨b, 0, none⟩)), (3, .slice y.2.1 (pksTo s y.1).length y.2.2), (4, nat .i64 y.1)]) (fun y => [Sl 77 3 (.slice y.2.1 (pksTo s y.1).length y.2.2) (pksTo s y.1).length ((pksTo s y.1).flatMap kv), cel false b 49 (cfgC s.c ++ [.pointer (some ⟨lb, 0, none⟩), .slice A1 s.ks.length c1, .slice A2 s.ks.length c2]), LgF lb s.c.clients.toNat s.l, RS true (.slice A1 s.ks.length c1) s.ks.length (ids.flatMap pv1), RS true (.slice A2 s.ks.length c2) s.ks.length (ids.flatMap pv2), big (List.zipWith PgP ids (ksTo s y.1)), big F]) (fun y => s.ks.length - y.1) (0, some ⟨b0, 0, none⟩, 0) (Nat.zero_le _) ⟨rfl, rfl, rfl, trivial⟩ (by exact Split.auto) ?_
  rintro ⟨i, A, cA⟩ hi
  have hi : i ≤ s.ks.length := hi
  dsimp only
  have hpl := pksTo_len hs i hi
  by_cases hil : i < s.ks.length
  · obtain ⟨k, hk⟩ : ∃ k, s.ks[i]? = some k := ⟨_, List.getElem?_eq_getElem hil⟩
    obtain ⟨x, hx⟩ : ∃ x, ids[i]? = some x := ⟨_, List.getElem?_eq_getElem (by omega)⟩
    have hkm := hs.ok.ks k (List.mem_of_getElem? hk)
    obtain ⟨hs1, hs2⟩ := hsm k (List.mem_of_getElem? hk)
    have hw16 := hkm.1.sd.w
    have hp16 := hkm.1.sd.l
    have hpump := ffPump_sp x.2 lb x.1 s.c.clients.toNat k.2 s.l k.1 hkm.2.1 (by omega) hmr hw16 (by omega) (by omega)
    have e1 : lkWith k.1 (pump s.l k.2 k.1.sd).2 = (tick1 s k).1 := rfl
    have e2 : (pump s.l k.2 k.1.sd).1 = (tick1 s k).2 := rfl
    have hok : lkOk (tick1 s k).1 := by rw [← e1]; exact lkOk_with hkm.1 (pumpN_ok s.l _ _ hkm.1.sd)
    have hmo := pumpN_more s.l (s.l.length - k.2) k.2 k.1.sd
    have hq2 : (tick1 s k).1.rc.acked ≤ 10000000000 := by show k.1.rc.acked ≤ _; omega
    have hs3 : (tick1 s k).1.sd.acked + (tick1 s k).1.sd.ps.length ≤ 10000000000 := by
      show (pumpN s.l (s.l.length - k.2) k.2 k.1.sd).2.acked + (pumpN s.l (s.l.length - k.2) k.2 k.1.sd).2.ps.length ≤ _; omega
    rw [e1, e2] at hpump
    have hfr := lfFrames_sp x.1 (tick1 s k).1 hok hq2 hs3
    have hf16 : (lkFrames (tick1 s k).1).length ≤ 16 := lkFrames_len (by have h1 := hok.sd.l; have h2 := hok.sd.w; omega)
    have hdd : ∀ f ∈ lkFrames (tick1 s k).1, f.data.length ≤ 1000 := lkFrames_data ((sqIn_tick hs).ps (tick1 s k) (List.mem_map_of_mem (List.mem_of_getElem? hk))).d
    have hnext : pksTo s (i + 1) = pksTo s i ++ puts (lkFrames (tick1 s k).1) 0 ((i : Int) + 1) s.c.mtu := pksTo_succ hk
    have hks := ksTo_set hk
    generalize htk : tick1 s k = k' at *
    generalize hfs : lkFrames k'.1 = fs at *
    have hpk := fun v => refPackets_sp true 0 ((i : Int) + 1) s.c.mtu fs v (by omega) (fun f hf => by have := hdd f hf; omega)
    have hpul := puts_len fs 0 ((i : Int) + 1) s.c.mtu
    have hfl := SL.flat_len kv_len (puts fs 0 ((i : Int) + 1) s.c.mtu)
    have hko := kv_ok (puts fs 0 ((i : Int) + 1) s.c.mtu)
    generalize puts fs 0 ((i : Int) + 1) s.c.mtu = more at *
    generalize hout : pksTo s i = out at *
    refine St_pgGet (ids := ids) (ks := ksTo s i) (by exact Has.auto) hx (ksTo_at hk) ?_
    refine St_rsOpen (r := true) (v := .slice A1 s.ks.length c1) (n := s.ks.length) (cs := ids.flatMap pv1) (by exact Has.auto) (by omega) ?_
    rintro b1 T1 cap1 pre1 rest1 hv1
    injection hv1 with p1 p2 p3
    subst p1 p3
    refine St_rsOpen (r := true) (v := .slice A2 s.ks.length c2) (n := s.ks.length) (cs := ids.flatMap pv2) (by exact Has.auto) (by omega) ?_
    rintro b2 T2 cap2 pre2 rest2 hv2
    injection hv2 with p4 p5 p6
    subst p4 p6
    have hl1 : (pre1 ++ ids.flatMap pv1 ++ rest1)[pre1.length + (i : Int).toNat * 1]? = some (.pointer (some ⟨x.1, 0, none⟩)) := by
      have := flat_cell pv1_len (us := ids) (i := i) (j := 0) (u := x) pre1 rest1 hx (by decide)
      rw [Int.toNat_natCast]; exact this
    have hl2 : (pre2 ++ ids.flatMap pv2 ++ rest2)[pre2.length + (i : Int).toNat * 1]? = some (.pointer (some ⟨x.2, 0, none⟩)) := by
      have := flat_cell pv2_len (us := ids) (i := i) (j := 0) (u := x) pre2 rest2 hx (by decide)
      rw [Int.toNat_natCast]; exact this
    repeat' (first | (apply St_regionA (1000) ([cel false b 49 (cfgC s.c ++ [.pointer (some ⟨lb, 0, none⟩), .slice (some ⟨b1, pre1.length, none⟩) s.ks.length c1, .slice (some ⟨b2, pre2.length, none⟩) s.ks.length c2]), cel true b1 T1 (pre1 ++ ids.flatMap pv1 ++ rest1), cel true b2 T2 (pre2 ++ ids.flatMap pv2 ++ rest2)]); kernel_rfl; (apply Sa_take 0; exact rfl; kernel_rfl; exact PanicOk.auto; exact rfl; (first | (apply Rd_loadn tb; exact rfl; exact rfl; exact rfl; exact Has.auto; first | exact hl1 | exact hl2) | exact Rd_auto)); (apply Sa_take 1; exact rfl; kernel_rfl; exact PanicOk.auto; exact rfl; (first | (apply Rd_loadn tb; exact rfl; exact rfl; exact rfl; exact Has.auto; first | exact hl1 | exact hl2) | exact Rd_auto)); (apply Sa_take 2; exact rfl; kernel_rfl; exact PanicOk.auto; exact rfl; (first | (apply Rd_loadn tb; exact rfl; exact rfl; exact rfl; exact Has.auto; first | exact hl1 | exact hl2) | exact Rd_auto)); (apply Sa_take 3; exact rfl; kernel_rfl; exact PanicOk.auto; exact rfl; (first | (apply Rd_loadn tb; exact rfl; exact rfl; exact rfl; exact Has.auto; first | exact hl1 | exact hl2) | exact Rd_auto)); (apply Sa_take 4; exact rfl; kernel_rfl; exact PanicOk.auto; exact rfl; (first | (apply Rd_loadn tb; exact rfl; exact rfl; exact rfl; exact Has.auto; first | exact hl1 | exact hl2) | exact Rd_auto)); (apply Sa_take 5; exact rfl; kernel_rfl; exact PanicOk.auto; exact rfl; (first | (apply Rd_loadn tb; exact rfl; exact rfl; exact rfl; exact Has.auto; first | exact hl1 | exact hl2) | exact Rd_auto)); (apply Sa_take 6; exact rfl; kernel_rfl; exact PanicOk.auto; exact rfl; (first | (apply Rd_loadn tb; exact rfl; exact rfl; exact rfl; exact Has.auto; first | exact hl1 | exact hl2) | exact Rd_auto)); (apply Sa_take 7; exact rfl; kernel_rfl; exact PanicOk.auto; exact rfl; (first | (apply Rd_loadn tb; exact rfl; exact rfl; exact rfl; exact Has.auto; first | exact hl1 | exact hl2) | exact Rd_auto)); (apply Sa_take 8; exact rfl; kernel_rfl; exact PanicOk.auto; exact rfl; (first | (apply Rd_loadn tb; exact rfl; exact rfl; exact rfl; exact Has.auto; first | exact hl1 | exact hl2) | exact Rd_auto)); (apply Sa_take 9; exact rfl; kernel_rfl; exact PanicOk.auto; exact rfl; (first | (apply Rd_loadn tb; exact rfl; exact rfl; exact rfl; exact Has.auto; first | exact hl1 | exact hl2) | exact Rd_auto)); (apply Sa_take 10; exact rfl; kernel_rfl; exact PanicOk.auto; exact rfl; (first | (apply Rd_loadn tb; exact rfl; exact rfl; exact rfl; exact Has.auto; first | exact hl1 | exact hl2) | exact Rd_auto)); (apply Sa_take 11; exact rfl; kernel_rfl; exact PanicOk.auto; exact rfl; (first | (apply Rd_loadn tb; exact rfl; exact rfl; exact rfl; exact Has.auto; first | exact hl1 | exact hl2) | exact Rd_auto)); (apply Sa_take 12; exact rfl; kernel_rfl; exact PanicOk.auto; exact rfl; (first | (apply Rd_loadn tb; exact rfl; exact rfl; exact rfl; exact Has.auto; first | exact hl1 | exact hl2) | exact Rd_auto)); (apply Sa_take 13; exact rfl; kernel_rfl; exact PanicOk.auto; exact rfl; (first | (apply Rd_loadn tb; exact rfl; exact rfl; exact rfl; exact Has.auto; first | exact hl1 | exact hl2) | exact Rd_auto)); (apply Sa_take 14; exact rfl; kernel_rfl; exact PanicOk.auto; exact rfl; (first | (apply Rd_loadn tb; exact rfl; exact rfl; exact rfl; exact Has.auto; first | exact hl1 | exact hl2) | exact Rd_auto)); (apply Sa_take 15; exact rfl; kernel_rfl; exact PanicOk.auto; exact rfl; (first | (apply Rd_loadn tb; exact rfl; exact rfl; exact rfl; exact Has.auto; first | exact hl1 | exact hl2) | exact Rd_auto)); (apply Sa_take 16; exact rfl; kernel_rfl; exact PanicOk.auto; exact rfl; (first | (apply Rd_loadn tb; exact rfl; exact rfl; exact rfl; exact Has.auto; first | exact hl1 | exact hl2) | exact Rd_auto)); (apply Sa_take 17; exact rfl; kernel_rfl; exact PanicOk.auto; exact rfl; (first | (apply Rd_loadn tb; exact rfl; exact rfl; exact rfl; exact Has.auto; first | exact hl1 | exact hl2) | exact Rd_auto)); (apply Sa_one (i := 18); kernel_rfl; exact .inr (by exact Split.auto)); (apply Sa_op; exact rfl; exact rfl); (first | (apply St_call (hf := hpump); exact rfl; exact rfl; exact Split.auto; rintro _ _ ⟨⟨_, rfl⟩, rfl⟩) | (apply St_rd; exact rfl; (first | (apply Rd_loadn tb; exact rfl; exact rfl; exact rfl; exact Has.auto; first | exact hl1 | exact hl2))) | (apply Sq_rd; exact rfl; (first | (apply Rd_loadn tb; exact rfl; exact rfl; exact rfl; exact Has.auto; first | exact hl1 | exact hl2))) | (refine St_step ?_; (try with_reducible intro _)) | (refine St_step2 ?_ ?_ <;> (intro hb; (try simp only [beq_iff_eq, bne_iff_ne, decide_eq_true_eq, decide_eq_false_iff_not, Bool.not_eq_true', Bool.not_eq_false', beq_eq_false_iff_ne, bne_eq_false_iff_eq, ne_eq, Int.not_lt, Int.not_le, gt_iff_lt, ge_iff_le] at hb); (try (first | exact Bool.noConfusion hb | exact absurd trivial hb | (exfalso; omega))))) | fail); (apply Sa_done; kernel_rfl; exact .inr (by exact Split.auto))) | (apply St_regionA (1000) ([cel false b 49 (cfgC s.c ++ [.pointer (some ⟨lb, 0, none⟩), .slice (some ⟨b1, pre1.length, none⟩) s.ks.length c1, .slice (some ⟨b2, pre2.length, none⟩) s.ks.length c2]), cel true b1 T1 (pre1 ++ ids.flatMap pv1 ++ rest1)]); kernel_rfl; (apply Sa_take 0; exact rfl; kernel_rfl; exact PanicOk.auto; exact rfl; (first | (apply Rd_loadn tb; exact rfl; exact rfl; exact rfl; exact Has.auto; first | exact hl1 | exact hl2) | exact Rd_auto)); (apply Sa_take 1; exact rfl; kernel_rfl; exact PanicOk.auto; exact rfl; (first | (apply Rd_loadn tb; exact rfl; exact rfl; exact rfl; exact Has.auto; first | exact hl1 | exact hl2) | exact Rd_auto)); (apply Sa_take 2; exact rfl; kernel_rfl; exact PanicOk.auto; exact rfl; (first | (apply Rd_loadn tb; exact rfl; exact rfl; exact rfl; exact Has.auto; first | exact hl1 | exact hl2) | exact Rd_auto)); (apply Sa_take 3; exact rfl; kernel_rfl; exact PanicOk.auto; exact rfl; (first | (apply Rd_loadn tb; exact rfl; exact rfl; exact rfl; exact Has.auto; first | exact hl1 | exact hl2) | exact Rd_auto)); (apply Sa_take 4; exact rfl; kernel_rfl; exact PanicOk.auto; exact rfl; (first | (apply Rd_loadn tb; exact rfl; exact rfl; exact rfl; exact Has.auto; first | exact hl1 | exact hl2) | exact Rd_auto)); (apply Sa_take 5; exact rfl; kernel_rfl; exact PanicOk.auto; exact rfl; (first | (apply Rd_loadn tb; exact rfl; exact rfl; exact rfl; exact Has.auto; first | exact hl1 | exact hl2) | exact Rd_auto)); (apply Sa_take 6; exact rfl; kernel_rfl; exact PanicOk.auto; exact rfl; (first | (apply Rd_loadn tb; exact rfl; exact rfl; exact rfl; exact Has.auto; first | exact hl1 | exact hl2) | exact Rd_auto)); (apply Sa_take 7; exact rfl; kernel_rfl; exact PanicOk.auto; exact rfl; (first | (apply Rd_loadn tb; exact rfl; exact rfl; exact rfl; exact Has.auto; first | exact hl1 | exact hl2) | exact Rd_auto)); (apply Sa_take 8; exact rfl; kernel_rfl; exact PanicOk.auto; exact rfl; (first | (apply Rd_loadn tb; exact rfl; exact rfl; exact rfl; exact Has.auto; first | exact hl1 | exact hl2) | exact Rd_auto)); (apply Sa_take 9; exact rfl; kernel_rfl; exact PanicOk.auto; exact rfl; (first | (apply Rd_loadn tb; exact rfl; exact rfl; exact rfl; exact Has.auto; first | exact hl1 | exact hl2) | exact Rd_auto)); (apply Sa_take 11; exact rfl; kernel_rfl; exact PanicOk.auto; exact rfl; (first | (apply Rd_loadn tb; exact rfl; exact rfl; exact rfl; exact Has.auto; first | exact hl1 | exact hl2) | exact Rd_auto)); (apply Sa_take 12; exact rfl; kernel_rfl; exact PanicOk.auto; exact rfl; (first | (apply Rd_loadn tb; exact rfl; exact rfl; exact rfl; exact Has.auto; first | exact hl1 | exact hl2) | exact Rd_auto)); (apply Sa_take 13; exact rfl; kernel_rfl; exact PanicOk.auto; exact rfl; (first | (apply Rd_loadn tb; exact rfl; exact rfl; exact rfl; exact Has.auto; first | exact hl1 | exact hl2) | exact Rd_auto)); (apply Sa_take 14; exact rfl; kernel_rfl; exact PanicOk.auto; exact rfl; (first | (apply Rd_loadn tb; exact rfl; exact rfl; exact rfl; exact Has.auto; first | exact hl1 | exact hl2) | exact Rd_auto)); (apply Sa_take 15; exact rfl; kernel_rfl; exact PanicOk.auto; exact rfl; (first | (apply Rd_loadn tb; exact rfl; exact rfl; exact rfl; exact Has.auto; first | exact hl1 | exact hl2) | exact Rd_auto)); (apply Sa_one (i := 10); kernel_rfl; exact .inr (by exact Split.auto)); (apply Sa_op; exact rfl; exact rfl); (first | (apply St_call (hf := hfr); exact rfl; exact rfl; exact Split.auto; rintro _ _ ⟨⟨Af, cf, rfl⟩, rfl⟩) | (apply St_call (hf := hpk _); exact rfl; exact rfl; exact Split.auto; rintro _ _ ⟨⟨Ap, cp, rfl⟩, rfl⟩) | (apply St_append tb (sz := 3) (n := out.length) (cs := out.flatMap kv) (m := more.length) (ds := more.flatMap kv); (repeat exact rfl); exact Has.auto; (intro _; exact Src.rs (by exact Has.auto) hfl); exact hko; (dsimp only; omega); intro v'; refine St_slIs (v := v') (n := out.length + more.length) (by exact Has.auto) ?_; rintro A4 c4 rfl) | (apply St_rd; exact rfl; (first | (apply Rd_loadn tb; exact rfl; exact rfl; exact rfl; exact Has.auto; first | exact hl1 | exact hl2))) | (apply Sq_rd; exact rfl; (first | (apply Rd_loadn tb; exact rfl; exact rfl; exact rfl; exact Has.auto; first | exact hl1 | exact hl2))) | (refine St_step ?_; (try with_reducible intro _)) | (refine St_step2 ?_ ?_ <;> (intro hb; (try simp only [beq_iff_eq, bne_iff_ne, decide_eq_true_eq, decide_eq_false_iff_not, Bool.not_eq_true', Bool.not_eq_false', beq_eq_false_iff_ne, bne_eq_false_iff_eq, ne_eq, Int.not_lt, Int.not_le, gt_iff_lt, ge_iff_le] at hb); (try (first | exact Bool.noConfusion hb | exact absurd trivial hb | (exfalso; omega))))) | fail); (apply Sa_one (i := 16); kernel_rfl; exact .inr (by exact Split.auto)); (apply Sa_op; exact rfl; exact rfl); (first | (apply St_call (hf := hfr); exact rfl; exact rfl; exact Split.auto; rintro _ _ ⟨⟨Af, cf, rfl⟩, rfl⟩) | (apply St_call (hf := hpk _); exact rfl; exact rfl; exact Split.auto; rintro _ _ ⟨⟨Ap, cp, rfl⟩, rfl⟩) | (apply St_append tb (sz := 3) (n := out.length) (cs := out.flatMap kv) (m := more.length) (ds := more.flatMap kv); (repeat exact rfl); exact Has.auto; (intro _; exact Src.rs (by exact Has.auto) hfl); exact hko; (dsimp only; omega); intro v'; refine St_slIs (v := v') (n := out.length + more.length) (by exact Has.auto) ?_; rintro A4 c4 rfl) | (apply St_rd; exact rfl; (first | (apply Rd_loadn tb; exact rfl; exact rfl; exact rfl; exact Has.auto; first | exact hl1 | exact hl2))) | (apply Sq_rd; exact rfl; (first | (apply Rd_loadn tb; exact rfl; exact rfl; exact rfl; exact Has.auto; first | exact hl1 | exact hl2))) | (refine St_step ?_; (try with_reducible intro _)) | (refine St_step2 ?_ ?_ <;> (intro hb; (try simp only [beq_iff_eq, bne_iff_ne, decide_eq_true_eq, decide_eq_false_iff_not, Bool.not_eq_true', Bool.not_eq_false', beq_eq_false_iff_ne, bne_eq_false_iff_eq, ne_eq, Int.not_lt, Int.not_le, gt_iff_lt, ge_iff_le] at hb); (try (first | exact Bool.noConfusion hb | exact absurd trivial hb | (exfalso; omega))))) | fail); (apply Sa_one (i := 17); kernel_rfl; exact .inr (by exact Split.auto)); (apply Sa_op; exact rfl; exact rfl); (first | (apply St_call (hf := hfr); exact rfl; exact rfl; exact Split.auto; rintro _ _ ⟨⟨Af, cf, rfl⟩, rfl⟩) | (apply St_call (hf := hpk _); exact rfl; exact rfl; exact Split.auto; rintro _ _ ⟨⟨Ap, cp, rfl⟩, rfl⟩) | (apply St_append tb (sz := 3) (n := out.length) (cs := out.flatMap kv) (m := more.length) (ds := more.flatMap kv); (repeat exact rfl); exact Has.auto; (intro _; exact Src.rs (by exact Has.auto) hfl); exact hko; (dsimp only; omega); intro v'; refine St_slIs (v := v') (n := out.length + more.length) (by exact Has.auto) ?_; rintro A4 c4 rfl) | (apply St_rd; exact rfl; (first | (apply Rd_loadn tb; exact rfl; exact rfl; exact rfl; exact Has.auto; first | exact hl1 | exact hl2))) | (apply Sq_rd; exact rfl; (first | (apply Rd_loadn tb; exact rfl; exact rfl; exact rfl; exact Has.auto; first | exact hl1 | exact hl2))) | (refine St_step ?_; (try with_reducible intro _)) | (refine St_step2 ?_ ?_ <;> (intro hb; (try simp only [beq_iff_eq, bne_iff_ne, decide_eq_true_eq, decide_eq_false_iff_not, Bool.not_eq_true', Bool.not_eq_false', beq_eq_false_iff_ne, bne_eq_false_iff_eq, ne_eq, Int.not_lt, Int.not_le, gt_iff_lt, ge_iff_le] at hb); (try (first | exact Bool.noConfusion hb | exact absurd trivial hb | (exfalso; omega))))) | fail); (apply Sa_take 18; exact rfl; kernel_rfl; exact PanicOk.auto; exact rfl; (first | (apply Rd_loadn tb; exact rfl; exact rfl; exact rfl; exact Has.auto; first | exact hl1 | exact hl2) | exact Rd_auto)); (apply Sa_done; kernel_rfl; exact .inr (by exact Split.auto))) | (refine St_step ?_; (try with_reducible intro _)) | (refine St_step2 ?_ ?_ <;> (intro hb; (try simp only [beq_iff_eq, bne_iff_ne, decide_eq_true_eq, decide_eq_false_iff_not, Bool.not_eq_true', Bool.not_eq_false', beq_eq_false_iff_ne, bne_eq_false_iff_eq, ne_eq, Int.not_lt, Int.not_le, gt_iff_lt, ge_iff_le] at hb); (try (first | exact Bool.noConfusion hb | exact absurd trivial hb | (exfalso; omega))))) | fail)
    all_goals first | (exfalso; omega) | skip
    have e3 : (out ++ more).length = out.length + more.length := List.length_append
    refine St_slEq (v := .slice A4 (out.length + more.length) c4) (cs' := (out ++ more).flatMap kv) (n' := (out ++ more).length) (by exact Has.auto) (by rw [List.flatMap_append]) e3.symm ?_
    refine St_pgPut (ids := ids) (ks := ksTo s i) (k := k') hx (by rw [ksTo_len]; exact hil) (by exact Split.auto) ?_
    rw [hks]
    refine St_rsMk (r := true) (n := s.ks.length) (cap := c1) (pre := pre1) (cs := ids.flatMap pv1) (rest := rest1) (by exact Has.auto) ?_
    refine St_rsMk (r := true) (n := s.ks.length) (cap := c2) (pre := pre2) (cs := ids.flatMap pv2) (rest := rest2) (by exact Has.auto) ?_
    refine St_at (i + 1, A4, c4) ⟨hil, by dsimp only; omega⟩ ⟨rfl, ?_, rfl, trivial⟩ (by rw [hnext, e3]; exact Split.auto)
    rw [hnext, e3]; rfl
  · have hii : i = s.ks.length := by omega
    subst hii
    rw [pksTo_all, ksTo_all]
    repeat' (first | (refine St_step ?_; (try with_reducible intro _)) | (refine St_step2 ?_ ?_ <;> (intro hb; (try simp only [beq_iff_eq, bne_iff_ne, decide_eq_true_eq, decide_eq_false_iff_not, Bool.not_eq_true', Bool.not_eq_false', beq_eq_false_iff_ne, bne_eq_false_iff_eq, ne_eq, Int.not_lt, Int.not_le, gt_iff_lt, ge_iff_le] at hb); (try (first | exact Bool.noConfusion hb | exact absurd trivial hb | (exfalso; omega))))) | fail)
    all_goals first | (exfalso; omega) | skip
    refine St_slShare (E := 77) (sz := 3) (n := (sqPks s).length) (v := .slice A (sqPks s).length cA) (by exact Has.auto) ?_
    have hln : (sqTick s).ks.length = s.ks.length := by simp [sqTick]
    refine St_sgMk (b := b) (lb := lb) (s := sqTick s) (A1 := A1) (c1 := c1) (A2 := A2) (c2 := c2) (ids := ids) (by rw [hln]; exact hz) (by rw [hln]; exact Split.auto) ?_
    exact St_ret1 (.inl rfl) rfl rfl ⟨⟨_, _, rfl⟩, rfl⟩ (by exact Split.auto)
end Go.Proofs.YtfjnacakpeommaaGreatDoor
/- Contracts: chapbookref16.Hear. -/
namespace Go.Proofs.YtfjnacakpeommaaGreatDoor
open Go SL Pl
set_option autoImplicit false
set_option maxRecDepth 100000
set_option linter.unusedSimpArgs false
set_option linter.unusedVariables false
attribute [local irreducible] St Sq Exec QExec wpList wpQuiet Code.wp Exit.then Exit.inBlock bodyPost At Rd wpOp Wa QK GB
theorem sqSm_hear {s : Sqr} {n : Nat} (h : sqSm s n) (src : Int) (b : List UInt8) : sqSm (sqHear s src b) (n + 1) := fun k hk => by
  have hw : ∀ k ∈ s.ks, k.1.rc.acked ≤ n + 1 ∧ k.1.sd.acked + k.1.sd.ps.length ≤ n + 1 := fun k hk => by
    obtain ⟨h1, h2⟩ := h k hk
    omega
  unfold sqHear at hk
  split at hk
  · exact hw k hk
  · split at hk
    · exact hw k hk
    · rename_i k0 hk0
      rcases List.mem_or_eq_of_mem_set hk with q | q
      · exact hw k q
      · subst q
        obtain ⟨h1, h2⟩ := h k0 (List.mem_of_getElem? hk0)
        dsimp only
        by_cases hst : (fget b).1.ep < k0.1.ep ∨ ((k0.1.ep : Int) < (fget b).1.ep ∧ k0.1.pas = false)
        · rw [lkHear_stay hst]; omega
        · rw [lkHear_go hst]
          have h3 : (if lkAnew k0.1 (fget b).1 = true then lkFresh k0.1 (fget b).1.ep else k0.1).rc.acked ≤ n ∧ (if lkAnew k0.1 (fget b).1 = true then lkFresh k0.1 (fget b).1.ep else k0.1).sd.acked + (if lkAnew k0.1 (fget b).1 = true then lkFresh k0.1 (fget b).1.ep else k0.1).sd.ps.length ≤ n := by
            split
            · exact ⟨Nat.zero_le _, Nat.zero_le _⟩
            · exact ⟨h1, h2⟩
          generalize (if lkAnew k0.1 (fget b).1 = true then lkFresh k0.1 (fget b).1.ep else k0.1) = k1 at *
          dsimp only
          refine ⟨?_, ?_⟩
          · split
            · omega
            · unfold rcHear
              split
              · omega
              · dsimp only; omega
          · unfold sdAck sdGone
            dsimp only
            rw [List.length_drop]
            split <;> omega
theorem lkHear_acked (k : Lk) (f : Fr) : (lkHear k f).rc.acked ≤ k.rc.acked + 1 := by
  by_cases hst : f.ep < k.ep ∨ ((k.ep : Int) < f.ep ∧ k.pas = false)
  · rw [lkHear_stay hst]; omega
  · rw [lkHear_go hst]
    have h3 : (if lkAnew k f = true then lkFresh k f.ep else k).rc.acked ≤ k.rc.acked := by
      split
      · exact Nat.zero_le _
      · exact Nat.le_refl _
    generalize (if lkAnew k f = true then lkFresh k f.ep else k) = k1 at *
    dsimp only
    split
    · omega
    · unfold rcHear
      split
      · omega
      · dsimp only; omega
attribute [local irreducible] LfP LgF SfP RfP
set_option maxHeartbeats 4000000 in
theorem sgHear_sp (b : Nat) (s : Sqr) (src : Int) (bs : List UInt8) (hs : sqIn s) (hsm : sqSm s 1000000) (hb0 : bs.length ≤ 100000) (hl : s.l.length ≤ 900000) :
    Sp Tryz.prog 13 [.pointer (some ⟨b, 0, none⟩), .int .i64 src, str bs] [SgP b s] (fun w M => w = nat .i64 (sqErr s src bs) ∧ M = [SgP b (sqHear s src bs)]) := by
  refine Sp.intro (P := Tryz.prog) (Tryz.func13) rfl Tryz.ntmps13 (by decide) rfl ?_
  intro ρ F
  refine St_sgOpen (b := b) (s := s) (by exact Has.auto) fun lb A1 c1 A2 c2 ids hz => ?_
  have hcl := hs.ok.n
  obtain ⟨⟨cl1, cl2⟩, _⟩ := id hs.ok.c
  have hg := refFget_sp bs (by omega)
  have hgi := fget_frIn (b := bs)
  by_cases hn : src < 1 ∨ s.c.clients < src
  · have e1 : sqErr s src bs = 11 := if_pos hn
    have e2 : sqHear s src bs = s := by unfold sqHear; rw [e1, if_pos (by decide)]
    rw [e1, e2]
    repeat' (first | (refine St_step ?_; (try with_reducible intro _)) | (refine St_step2 ?_ ?_ <;> (intro hb; (try simp only [beq_iff_eq, bne_iff_ne, decide_eq_true_eq, decide_eq_false_iff_not, Bool.not_eq_true', Bool.not_eq_false', beq_eq_false_iff_ne, bne_eq_false_iff_eq, ne_eq, Int.not_lt, Int.not_le, gt_iff_lt, ge_iff_le] at hb); (try (first | exact Bool.noConfusion hb | exact absurd trivial hb | (exfalso; omega))))) | fail)
    all_goals first | (exfalso; omega) | skip
    all_goals refine St_sgMk (b := b) (lb := lb) (s := s) (A1 := A1) (c1 := c1) (A2 := A2) (c2 := c2) (ids := ids) hz (by exact Split.auto) ?_
    all_goals exact St_ret1 (.inl rfl) rfl rfl ⟨rfl, rfl⟩ (by exact Split.auto)
  by_cases he : (fget bs).2 ≠ 0
  · have e1 : sqErr s src bs = (fget bs).2 := by unfold sqErr; rw [if_neg hn, if_pos he]
    have e2 : sqHear s src bs = s := by unfold sqHear; rw [e1, if_pos he]
    rw [e1, e2]
    generalize fget bs = q at *
    obtain ⟨f, e⟩ := q
    dsimp only at *
    repeat' (first | (apply St_call (hf := hg); exact rfl; exact rfl; exact Split.auto; rintro _ _ ⟨rfl, rfl⟩) | (refine St_step ?_; (try with_reducible intro _)) | (refine St_step2 ?_ ?_ <;> (intro hb; (try simp only [beq_iff_eq, bne_iff_ne, decide_eq_true_eq, decide_eq_false_iff_not, Bool.not_eq_true', Bool.not_eq_false', beq_eq_false_iff_ne, bne_eq_false_iff_eq, ne_eq, Int.not_lt, Int.not_le, gt_iff_lt, ge_iff_le] at hb); (try (first | exact Bool.noConfusion hb | exact absurd trivial hb | (exfalso; omega))))) | fail)
    all_goals first | (exfalso; omega) | skip
    all_goals refine St_sgMk (b := b) (lb := lb) (s := s) (A1 := A1) (c1 := c1) (A2 := A2) (c2 := c2) (ids := ids) hz (by exact Split.auto) ?_
    all_goals exact St_ret1 (.inl rfl) rfl rfl ⟨rfl, rfl⟩ (by exact Split.auto)
  have he0 : (fget bs).2 = 0 := by omega
  obtain ⟨hfi, hfd⟩ := hgi he0
  obtain ⟨i, hi⟩ := Int.eq_ofNat_of_zero_le (show 0 ≤ src - 1 by omega)
  have hil : i < s.ks.length := by omega
  obtain ⟨k, hk⟩ : ∃ k, s.ks[i]? = some k := ⟨_, List.getElem?_eq_getElem hil⟩
  obtain ⟨x, hx⟩ : ∃ x, ids[i]? = some x := ⟨_, List.getElem?_eq_getElem (by omega)⟩
  have hkm := hs.ok.ks k (List.mem_of_getElem? hk)
  obtain ⟨hs1, hs2⟩ := hsm k (List.mem_of_getElem? hk)
  have hit : (src - 1).toNat = i := by rw [hi]; rfl
  rw [he0] at hg
  have eE : sqErr s src bs = if (fget bs).1.ep < k.1.ep then 9 else 0 := by unfold sqErr; rw [if_neg hn, if_neg he, hit, hk]
  have eH : sqErr s src bs = 0 → sqHear s src bs = ⟨s.c, (lkHear k.1 (fget bs).1).rc.q.foldl (takeOne s.c src) s.l, s.ks.set i (lkQ (lkHear k.1 (fget bs).1) [], if lkAnew k.1 (fget bs).1 then 0 else k.2)⟩ := fun h => by
    unfold sqHear; rw [h, if_neg (fun h => h rfl), hit, hk]; rfl
  have eH9 : sqErr s src bs = 9 → sqHear s src bs = s := fun h => by unfold sqHear; rw [h, if_pos (by decide)]
  generalize fget bs = fe at *
  obtain ⟨f, e⟩ := fe
  dsimp only at *
  refine St_pgGet (ids := ids) (ks := s.ks) (by exact Has.auto) hx hk ?_
  refine St_rsOpen (r := true) (v := .slice A1 s.ks.length c1) (n := s.ks.length) (cs := ids.flatMap pv1) (by exact Has.auto) (by omega) ?_
  rintro b1 T1 cap1 pre1 rest1 hv1
  injection hv1 with p1 p2 p3
  subst p1 p3
  refine St_rsOpen (r := true) (v := .slice A2 s.ks.length c2) (n := s.ks.length) (cs := ids.flatMap pv2) (by exact Has.auto) (by omega) ?_
  rintro b2 T2 cap2 pre2 rest2 hv2
  injection hv2 with p4 p5 p6
  subst p4 p6
  have hl1 : (pre1 ++ ids.flatMap pv1 ++ rest1)[pre1.length + (i : Int).toNat * 1]? = some (.pointer (some ⟨x.1, 0, none⟩)) := by
    have := flat_cell pv1_len (us := ids) (i := i) (j := 0) (u := x) pre1 rest1 hx (by decide)
    rw [Int.toNat_natCast]; exact this
  have hl2 : (pre2 ++ ids.flatMap pv2 ++ rest2)[pre2.length + (i : Int).toNat * 1]? = some (.pointer (some ⟨x.2, 0, none⟩)) := by
    have := flat_cell pv2_len (us := ids) (i := i) (j := 0) (u := x) pre2 rest2 hx (by decide)
    rw [Int.toNat_natCast]; exact this
  have hset : s.ks.set i k = s.ks := by
    apply List.ext_getElem?
    intro j
    rw [List.getElem?_set]
    by_cases hij : i = j
    · subst hij; rw [if_pos rfl, if_pos hil, hk]
    · rw [if_neg hij]
  by_cases hst : f.ep < k.1.ep
  · rw [if_pos hst] at eE
    rw [eE, eH9 eE]
    refine St_exOpen (l := lfL x.1 k.1) (by unfold LfP; exact Has.auto) fun z => ?_
    repeat' (first | (apply St_call (hf := hg); exact rfl; exact rfl; exact Split.auto; rintro _ _ ⟨rfl, rfl⟩) | (apply St_regionQ; kernel_rfl; kernel_rfl) | (apply St_rd; exact rfl; (first | (apply Rd_subV; exact rfl; exact rfl; exact hi; omega) | (apply Rd_loadn tb; exact rfl; exact rfl; exact rfl; exact Has.auto; first | exact hl1 | exact hl2))) | (apply Sq_rd; exact rfl; (first | (apply Rd_subV; exact rfl; exact rfl; exact hi; omega) | (apply Rd_loadn tb; exact rfl; exact rfl; exact rfl; exact Has.auto; first | exact hl1 | exact hl2))) | (refine St_step ?_; (try with_reducible intro _)) | (refine St_step2 ?_ ?_ <;> (intro hb; (try simp only [beq_iff_eq, bne_iff_ne, decide_eq_true_eq, decide_eq_false_iff_not, Bool.not_eq_true', Bool.not_eq_false', beq_eq_false_iff_ne, bne_eq_false_iff_eq, ne_eq, Int.not_lt, Int.not_le, gt_iff_lt, ge_iff_le] at hb); (try (first | exact Bool.noConfusion hb | exact absurd trivial hb | (exfalso; omega))))) | fail)
    all_goals first | (exfalso; omega) | skip
    refine St_exMk (l := lfL x.1 k.1) z (by exact Split.auto) ?_
    refine St_pgPut (ids := ids) (ks := s.ks) (k := k) hx hil (by unfold LfP; exact Split.auto) ?_
    rw [hset]
    refine St_rsMk (r := true) (n := s.ks.length) (cap := c1) (pre := pre1) (cs := ids.flatMap pv1) (rest := rest1) (by exact Has.auto) ?_
    refine St_rsMk (r := true) (n := s.ks.length) (cap := c2) (pre := pre2) (cs := ids.flatMap pv2) (rest := rest2) (by exact Has.auto) ?_
    refine St_sgMk (b := b) (lb := lb) (s := s) (c1 := c1) (c2 := c2) (ids := ids) hz (by exact Split.auto) ?_
    exact St_ret1 (.inl rfl) rfl rfl ⟨rfl, rfl⟩ (by exact Split.auto)
  rw [if_neg hst] at eE
  rw [eE, eH eE]
  have hkh := lfHear_sp x.1 k.1 f hkm.1 hfi (by omega) (by omega)
  have hka := lkHear_acked k.1 f
  have hq : ∀ d ∈ (lkHear k.1 f).rc.q, d.length ≤ 1000000 := fun d hd => by rw [lkHear_q hkm.2.2.1 d hd]; omega
  have hql := lkHear_qlen (f := f) hkm.2.2.1
  obtain ⟨T, hT⟩ : ∃ T, T = (lkHear k.1 f).rc.q.foldl (takeOne s.c src) s.l := ⟨_, rfl⟩
  rw [← hT]
  have hI : HearI s.c src T (lkHear k.1 f).rc.q s.l := ⟨hT.symm, hq, hs.ok.l, by omega⟩
  generalize hk1 : lkHear k.1 f = k1 at *
  obtain ⟨at_, hat⟩ : ∃ a, a = if lkAnew k.1 f then 0 else k.2 := ⟨_, rfl⟩
  rw [← hat]
  have hpop := fun (b : Nat) (q : List (List UInt8)) => rfPop_sp b ⟨k1.rc.room, k1.rc.acked, q⟩ (by dsimp only; omega)
  refine St_exOpen (l := lfL x.1 k.1) (by unfold LfP; exact Has.auto) fun z => ?_
  repeat' (first | (apply St_call (hf := hg); exact rfl; exact rfl; exact Split.auto; rintro _ _ ⟨rfl, rfl⟩) | (apply St_regionQ; kernel_rfl; kernel_rfl) | (apply St_rd; exact rfl; (first | (apply Rd_subV; exact rfl; exact rfl; exact hi; omega) | (apply Rd_loadn tb; exact rfl; exact rfl; exact rfl; exact Has.auto; first | exact hl1 | exact hl2))) | (apply Sq_rd; exact rfl; (first | (apply Rd_subV; exact rfl; exact rfl; exact hi; omega) | (apply Rd_loadn tb; exact rfl; exact rfl; exact rfl; exact Has.auto; first | exact hl1 | exact hl2))) | (refine St_step ?_; (try with_reducible intro _)) | (refine St_step2 ?_ ?_ <;> (intro hb; (try simp only [beq_iff_eq, bne_iff_ne, decide_eq_true_eq, decide_eq_false_iff_not, Bool.not_eq_true', Bool.not_eq_false', beq_eq_false_iff_ne, bne_eq_false_iff_eq, ne_eq, Int.not_lt, Int.not_le, gt_iff_lt, ge_iff_le] at hb); (try (first | exact Bool.noConfusion hb | exact absurd trivial hb | (exfalso; omega))))) | fail)
  all_goals first | (exfalso; omega) | skip
  refine St_exMk (l := lfL x.1 k.1) z (by exact Split.auto) ?_
  refine St_pull (A := LfP x.1 k.1) (by unfold LfP; exact Has.auto) ?_
  cases han : lkAnew k.1 f
  all_goals
    rw [han] at hkh hat
    simp only [if_true, Bool.false_eq_true, if_false] at hat
    repeat' (first | (apply St_call (hf := hkh); exact rfl; exact rfl; exact Split.auto; rintro _ _ ⟨rfl, rfl⟩) | (apply St_rd; exact rfl; (first | (apply Rd_subV; exact rfl; exact rfl; exact hi; omega) | (apply Rd_loadn tb; exact rfl; exact rfl; exact rfl; exact Has.auto; first | exact hl1 | exact hl2))) | (apply Sq_rd; exact rfl; (first | (apply Rd_subV; exact rfl; exact rfl; exact hi; omega) | (apply Rd_loadn tb; exact rfl; exact rfl; exact rfl; exact Has.auto; first | exact hl1 | exact hl2))) | (refine St_step ?_; (try with_reducible intro _)) | (refine St_step2 ?_ ?_ <;> (intro hb; (try simp only [beq_iff_eq, bne_iff_ne, decide_eq_true_eq, decide_eq_false_iff_not, Bool.not_eq_true', Bool.not_eq_false', beq_eq_false_iff_ne, bne_eq_false_iff_eq, ne_eq, Int.not_lt, Int.not_le, gt_iff_lt, ge_iff_le] at hb); (try (first | exact Bool.noConfusion hb | exact absurd trivial hb | (exfalso; omega))))) | fail)
    all_goals first | (exfalso; omega) | skip
    refine St_exOpen (l := lfL x.1 k1) (by unfold LfP; exact Has.auto) fun z2 => ?_
    (refine St_loop (fun (y : List (List UInt8) × List Ro) => HearI s.c src T y.1 y.2) (fun y => [(0, .pointer (some ⟨b, 0, none⟩)), (1, .int .i64 src), (9, .pointer (some ⟨x.1, 0, none⟩))]) (fun y => [cel false x.1 54 [nat .i64 k1.ep, .pointer (some ⟨z2.1, 0, none⟩), .pointer (some ⟨z2.2, 0, none⟩), .int .i64 k1.win, .int .i64 k1.room, .bool k1.pas], SfP z2.1 k1.sd, RfP z2.2 ⟨k1.rc.room, k1.rc.acked, y.1⟩, cel false b 49 (cfgC s.c ++ [.pointer (some ⟨lb, 0, none⟩), .slice (some ⟨b1, pre1.length, none⟩) s.ks.length c1, .slice (some ⟨b2, pre2.length, none⟩) s.ks.length c2]), LgF lb s.c.clients.toNat y.2, FfC x.2 at_, cel true b1 T1 (pre1 ++ ids.flatMap pv1 ++ rest1), cel true b2 T2 (pre2 ++ ids.flatMap pv2 ++ rest2), big ((List.zipWith PgP ids s.ks).set i emp), big F]) (fun y => y.1.length) (k1.rc.q, s.l) hI ⟨rfl, rfl, rfl, trivial⟩ (by rw [hat]; exact Split.auto) ?_)
    rintro ⟨q, l⟩ ⟨g1, g2, g3, g4⟩
    dsimp only at g1 g2 g3 g4 ⊢
    cases q with
    | nil =>
      have g1 : l = T := g1
      subst g1
      have hp : Sp Tryz.prog 42 [.pointer (some ⟨z2.2, 0, none⟩)] [RfP z2.2 ⟨k1.rc.room, k1.rc.acked, []⟩] (fun v M => v = .tuple [str [], .bool false].toArray ∧ M = [RfP z2.2 ⟨k1.rc.room, k1.rc.acked, []⟩]) := hpop z2.2 []
      repeat' (first | (apply St_call (hf := hp); exact rfl; exact rfl; exact Split.auto; rintro _ _ ⟨rfl, rfl⟩) | (refine St_step ?_; (try with_reducible intro _)) | (refine St_step2 ?_ ?_ <;> (intro hb; (try simp only [beq_iff_eq, bne_iff_ne, decide_eq_true_eq, decide_eq_false_iff_not, Bool.not_eq_true', Bool.not_eq_false', beq_eq_false_iff_ne, bne_eq_false_iff_eq, ne_eq, Int.not_lt, Int.not_le, gt_iff_lt, ge_iff_le] at hb); (try (first | exact Bool.noConfusion hb | exact absurd trivial hb | (exfalso; omega))))) | fail)
      all_goals first | (exfalso; omega) | skip
      refine St_exMk (l := lfL x.1 (lkQ k1 [])) z2 (by exact Split.auto) ?_
      refine St_pgPut (ids := ids) (ks := s.ks) (k := (lkQ k1 [], at_)) hx hil (by unfold LfP; exact Split.auto) ?_
      refine St_rsMk (r := true) (n := s.ks.length) (cap := c1) (pre := pre1) (cs := ids.flatMap pv1) (rest := rest1) (by exact Has.auto) ?_
      refine St_rsMk (r := true) (n := s.ks.length) (cap := c2) (pre := pre2) (cs := ids.flatMap pv2) (rest := rest2) (by exact Has.auto) ?_
      have hsl : (s.ks.set i (lkQ k1 [], at_)).length = s.ks.length := by simp
      refine St_sgMk (b := b) (lb := lb) (s := ⟨s.c, l, s.ks.set i (lkQ k1 [], at_)⟩) (A1 := some ⟨b1, pre1.length, none⟩) (c1 := c1) (A2 := some ⟨b2, pre2.length, none⟩) (c2 := c2) (ids := ids) (by rw [hsl]; exact hz) (by dsimp only; rw [hsl]; exact Split.auto) ?_
      exact St_ret1 (.inl rfl) rfl rfl ⟨rfl, rfl⟩ (by exact Split.auto)
    | cons d q' =>
      have hd := g2 d List.mem_cons_self
      have hp : Sp Tryz.prog 42 [.pointer (some ⟨z2.2, 0, none⟩)] [RfP z2.2 ⟨k1.rc.room, k1.rc.acked, d :: q'⟩] (fun v M => v = .tuple [str d, .bool true].toArray ∧ M = [RfP z2.2 ⟨k1.rc.room, k1.rc.acked, q'⟩]) := hpop z2.2 (d :: q')
      have cg := refRget_sp d hd
      have g1 : q'.foldl (takeOne s.c src) (takeOne s.c src l d) = T := g1
      have hnext : HearI s.c src T q' (takeOne s.c src l d) := ⟨g1, fun x hx => g2 x (List.mem_cons_of_mem _ hx), takeOne_ok g3 d, by have := takeOne_len s.c src l d; simp only [List.length_cons] at g4; omega⟩
      have hlast := lastOf_le (lgOk_mem g3)
      have hmem := lgOk_mem g3
      obtain ⟨r, e, hre⟩ : ∃ r e, rget d = (r, e) := ⟨_, _, rfl⟩
      rw [hre] at cg
      have htk : takeOne s.c src l d = if e = 0 ∧ r.origin = src ∧ rfits r.ups s.c.mtu = true then lgAdd s.c.clients.toNat l r else l := by unfold takeOne; rw [hre]
      dsimp only at cg
      repeat' (first | (apply St_call (hf := hp); exact rfl; exact rfl; exact Split.auto; rintro _ _ ⟨rfl, rfl⟩) | (apply St_call (hf := cg); exact rfl; exact rfl; exact Split.auto; rintro _ _ ⟨v, rfl, rfl⟩; refine St_rsIs (r := true) (v := v) (n := r.ups.length) (cs := r.ups.flatMap uv) (by exact Has.auto) ?_; rintro Av cv rfl) | (refine St_step ?_; (try with_reducible intro _)) | (refine St_step2 ?_ ?_ <;> (intro hb; (try simp only [beq_iff_eq, bne_iff_ne, decide_eq_true_eq, decide_eq_false_iff_not, Bool.not_eq_true', Bool.not_eq_false', beq_eq_false_iff_ne, bne_eq_false_iff_eq, ne_eq, Int.not_lt, Int.not_le, gt_iff_lt, ge_iff_le] at hb); (try (first | exact Bool.noConfusion hb | exact absurd trivial hb | (exfalso; omega))))) | fail)
      rename_i rb
      have cf := refFits_sp true r.ups (.slice Av r.ups.length cv) s.c.mtu
      have cadd := lgfAdd_sp true lb s.c.clients.toNat l r (.slice Av r.ups.length cv) (by omega) hmem hlast
      clear g2 hlast hmem
      by_cases hyes : e = 0 ∧ r.origin = src ∧ rfits r.ups s.c.mtu = true
      · rw [if_pos hyes] at htk
        obtain ⟨y1, y2, y3⟩ := hyes
        rw [y3] at cf
        repeat' (first | (apply St_regionA (1000) ([cel false b 49 (cfgC s.c ++ [.pointer (some ⟨lb, 0, none⟩), .slice (some ⟨b1, pre1.length, none⟩) s.ks.length c1, .slice (some ⟨b2, pre2.length, none⟩) s.ks.length c2]), cel false rb 64 (rv r (.slice Av r.ups.length cv))]); kernel_rfl; (apply Sa_take 0; exact rfl; kernel_rfl; exact PanicOk.auto; exact rfl; (first | exact Rd_auto)); (apply Sa_take 1; exact rfl; kernel_rfl; exact PanicOk.auto; exact rfl; (first | exact Rd_auto)); (apply Sa_take 2; exact rfl; kernel_rfl; exact PanicOk.auto; exact rfl; (first | exact Rd_auto)); (apply Sa_take 3; exact rfl; kernel_rfl; exact PanicOk.auto; exact rfl; (first | exact Rd_auto)); (apply Sa_take 4; exact rfl; kernel_rfl; exact PanicOk.auto; exact rfl; (first | exact Rd_auto)); (apply Sa_one (i := 5); kernel_rfl; exact .inr (by exact Split.auto)); (apply Sa_op; exact rfl; exact rfl); (first | (apply St_call (hf := cadd); exact rfl; exact rfl; exact Split.auto; rintro _ _ ⟨rfl, rfl⟩) | (refine St_step ?_; (try with_reducible intro _)) | (refine St_step2 ?_ ?_ <;> (intro hb; (try simp only [beq_iff_eq, bne_iff_ne, decide_eq_true_eq, decide_eq_false_iff_not, Bool.not_eq_true', Bool.not_eq_false', beq_eq_false_iff_ne, bne_eq_false_iff_eq, ne_eq, Int.not_lt, Int.not_le, gt_iff_lt, ge_iff_le] at hb); (try (first | exact Bool.noConfusion hb | exact absurd trivial hb | (exfalso; omega))))) | fail); (apply Sa_done; kernel_rfl; exact .inr (by exact Split.auto))) | (apply St_regionQ; kernel_rfl; kernel_rfl) | (apply Sq_call (hf := cf); exact rfl; exact rfl; exact Split.auto; (rintro _ _ ⟨rfl, rfl⟩; exact ⟨rfl, _, by exact Split.auto⟩)) | (refine St_step ?_; (try with_reducible intro _)) | (refine St_step2 ?_ ?_ <;> (intro hb; (try simp only [beq_iff_eq, bne_iff_ne, decide_eq_true_eq, decide_eq_false_iff_not, Bool.not_eq_true', Bool.not_eq_false', beq_eq_false_iff_ne, bne_eq_false_iff_eq, ne_eq, Int.not_lt, Int.not_le, gt_iff_lt, ge_iff_le] at hb); (try (first | exact Bool.noConfusion hb | exact absurd trivial hb | (exfalso; omega))))) | fail)
        all_goals first | (exfalso; omega) | skip
        rw [htk] at hnext
        exact St_at (q', lgAdd s.c.clients.toNat l r) ⟨hnext, by show q'.length < (d :: q').length; simp⟩ ⟨rfl, rfl, rfl, trivial⟩ (by exact Split.auto)
      · rw [if_neg hyes] at htk
        by_cases y1 : e = 0
        · by_cases y2 : r.origin = src
          · have y3 : rfits r.ups s.c.mtu = false := by
              cases h : rfits r.ups s.c.mtu with
              | false => rfl
              | true => exact absurd ⟨y1, y2, h⟩ hyes
            rw [y3] at cf
            repeat' (first | (apply St_regionQ; kernel_rfl; kernel_rfl) | (apply Sq_call (hf := cf); exact rfl; exact rfl; exact Split.auto; (rintro _ _ ⟨rfl, rfl⟩; exact ⟨rfl, _, by exact Split.auto⟩)) | (refine St_step ?_; (try with_reducible intro _)) | (refine St_step2 ?_ ?_ <;> (intro hb; (try simp only [beq_iff_eq, bne_iff_ne, decide_eq_true_eq, decide_eq_false_iff_not, Bool.not_eq_true', Bool.not_eq_false', beq_eq_false_iff_ne, bne_eq_false_iff_eq, ne_eq, Int.not_lt, Int.not_le, gt_iff_lt, ge_iff_le] at hb); (try (first | exact Bool.noConfusion hb | exact absurd trivial hb | (exfalso; omega))))) | fail)
            all_goals first | (exfalso; omega) | skip
            rw [htk] at hnext
            exact St_at (q', l) ⟨hnext, by show q'.length < (d :: q').length; simp⟩ ⟨rfl, rfl, rfl, trivial⟩ (by exact Split.auto)
          · repeat' (first | (apply St_regionQ; kernel_rfl; kernel_rfl) | (refine St_step ?_; (try with_reducible intro _)) | (refine St_step2 ?_ ?_ <;> (intro hb; (try simp only [beq_iff_eq, bne_iff_ne, decide_eq_true_eq, decide_eq_false_iff_not, Bool.not_eq_true', Bool.not_eq_false', beq_eq_false_iff_ne, bne_eq_false_iff_eq, ne_eq, Int.not_lt, Int.not_le, gt_iff_lt, ge_iff_le] at hb); (try (first | exact Bool.noConfusion hb | exact absurd trivial hb | (exfalso; omega))))) | fail)
            all_goals first | (exfalso; omega) | skip
            rw [htk] at hnext
            exact St_at (q', l) ⟨hnext, by show q'.length < (d :: q').length; simp⟩ ⟨rfl, rfl, rfl, trivial⟩ (by exact Split.auto)
        · repeat' (first | (apply St_regionQ; kernel_rfl; kernel_rfl) | (refine St_step ?_; (try with_reducible intro _)) | (refine St_step2 ?_ ?_ <;> (intro hb; (try simp only [beq_iff_eq, bne_iff_ne, decide_eq_true_eq, decide_eq_false_iff_not, Bool.not_eq_true', Bool.not_eq_false', beq_eq_false_iff_ne, bne_eq_false_iff_eq, ne_eq, Int.not_lt, Int.not_le, gt_iff_lt, ge_iff_le] at hb); (try (first | exact Bool.noConfusion hb | exact absurd trivial hb | (exfalso; omega))))) | fail)
          all_goals first | (exfalso; omega) | skip
          rw [htk] at hnext
          exact St_at (q', l) ⟨hnext, by show q'.length < (d :: q').length; simp⟩ ⟨rfl, rfl, rfl, trivial⟩ (by exact Split.auto)
end Go.Proofs.YtfjnacakpeommaaGreatDoor
