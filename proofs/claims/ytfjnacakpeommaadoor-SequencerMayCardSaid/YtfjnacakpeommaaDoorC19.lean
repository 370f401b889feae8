/- Contracts: link.Frames. -/
import Derived.Test.YtfjnacakpeommaaDoorC18
namespace Go.Proofs.YtfjnacakpeommaaDoor
open Go SL Pl
set_option autoImplicit false
set_option maxRecDepth 100000
set_option linter.unusedSimpArgs false
set_option linter.unusedVariables false
attribute [local irreducible] St Sq Exec QExec wpList wpQuiet Code.wp Exit.then Exit.inBlock bodyPost At Rd wpOp Wa QK GB
theorem frames1_length (ep ack : Nat) : ∀ (l : List (List UInt8)) (n : Nat), (frames1 ep ack n l).length = l.length
  | [], _ => rfl
  | _ :: l, n => by rw [frames1, List.length_cons, frames1_length ep ack l, List.length_cons]
theorem frames1_snoc (ep ack : Nat) : ∀ (l : List (List UInt8)) (n : Nat) (d : List UInt8), frames1 ep ack n (l ++ [d]) = frames1 ep ack n l ++ [⟨ep, n + l.length, ack, d⟩]
  | [], n, d => by simp [frames1]
  | x :: l, n, d => by
    rw [List.cons_append, frames1, frames1_snoc ep ack l, frames1, List.cons_append, List.length_cons]
    congr 4
    omega
theorem fv_len (f : Fr) : (fv f).length = 4 := rfl
theorem lkFrames_len {k : Lk} (h : k.sd.ps.length ≤ 16) : (lkFrames k).length ≤ 16 := by
  unfold lkFrames
  split
  · simp
  · split
    · simp
    · rw [frames1_length]; exact h
set_option maxHeartbeats 1000000 in
theorem lkFrames_sp (b : Nat) (k : Lk) (hk : lkOk k) : Sp Tryd.prog 31 [.pointer (some ⟨b, 0, none⟩)] [LkP b k]
    (fun v M => ∃ A c, v = .slice A (lkFrames k).length c ∧ M = [RS true v (lkFrames k).length ((lkFrames k).flatMap fv), LkP b k]) := by
  refine Sp.intro (P := Tryd.prog) (Tryd.func31) rfl Tryd.ntmps31 (by decide) rfl ?_
  intro ρ F
  have hw := hk.sd.w
  have hl := hk.sd.l
  have hep := hk.ep
  have hra := hk.rc.a
  have ht := hk.sd.t
  have hm := hk.sd.m
  refine St_exOpen (l := lkL b k) (by exact Has.auto) fun z => ?_
  by_cases h0 : k.ep = 0
  · have e : lkFrames k = [] := if_pos h0
    rw [e]
    repeat' (first | (refine St_step ?_; (try with_reducible intro _)) | (refine St_step2 ?_ ?_ <;> (intro hb; (try simp only [beq_iff_eq, bne_iff_ne, decide_eq_true_eq, decide_eq_false_iff_not, Bool.not_eq_true', Bool.not_eq_false', beq_eq_false_iff_ne, bne_eq_false_iff_eq, ne_eq, Int.not_lt, Int.not_le, gt_iff_lt, ge_iff_le] at hb); (try (first | exact Bool.noConfusion hb | exact absurd trivial hb | (exfalso; omega))))) | fail)
    all_goals first | (exfalso; omega) | skip
    refine St_exMk (l := lkL b k) z (by exact Split.auto) ?_
    refine St_rsNil (r := true) (A := none) (c := 0) ?_
    exact St_ret1 (.inl rfl) rfl rfl ⟨_, _, rfl, rfl⟩ (by exact Split.auto)
  have cp := sdPieces_sp z.1 k.sd (by omega)
  have ca := rcAck_sp z.2 k.rc
  repeat' (first | (apply St_call (hf := ca); exact rfl; exact rfl; exact Split.auto; rintro _ _ ⟨rfl, rfl⟩) | (apply St_call (hf := cp); exact rfl; exact rfl; exact Split.auto; rintro _ _ ⟨A, c, rfl, rfl⟩) | (refine St_step ?_; (try with_reducible intro _)) | (refine St_step2 ?_ ?_ <;> (intro hb; (try simp only [beq_iff_eq, bne_iff_ne, decide_eq_true_eq, decide_eq_false_iff_not, Bool.not_eq_true', Bool.not_eq_false', beq_eq_false_iff_ne, bne_eq_false_iff_eq, ne_eq, Int.not_lt, Int.not_le, gt_iff_lt, ge_iff_le] at hb); (try (first | exact Bool.noConfusion hb | exact absurd trivial hb | (exfalso; omega))))) | fail)
  all_goals first | (exfalso; omega) | skip
  refine St_slNil (E := 42) (sz := 4) ?_
  repeat' (first | (refine St_loop (fun (y : Nat × Option Addr × Nat) => y.1 ≤ k.sd.ps.length) (fun y => [(0, .pointer (some ⟨b, 0, none⟩)), (3, .slice y.2.1 y.1 y.2.2), (4, nat .i64 k.rc.acked), (23, .slice A k.sd.ps.length c), (24, nat .i64 k.sd.ps.length), (25, nat .i64 y.1)]) (fun y => [Sl 42 4 (.slice y.2.1 y.1 y.2.2) y.1 ((frames1 k.ep k.rc.acked (k.sd.acked + 1) (k.sd.ps.take y.1)).flatMap fv), RS true (.slice A k.sd.ps.length c) k.sd.ps.length ((seqs (k.sd.acked + 1) k.sd.ps).flatMap pv), cel false b 95 [.pointer (some ⟨z.1, 0, none⟩), .pointer (some ⟨z.2, 0, none⟩), nat .i64 k.ep, .int .i64 k.win, .int .i64 k.room, .bool k.pas], SdP z.1 k.sd, RcP z.2 k.rc, big F]) (fun y => k.sd.ps.length - y.1) (0, none, 0) (Nat.zero_le _) ⟨rfl, rfl, rfl, rfl, rfl, rfl, trivial⟩ (by exact Split.auto) ?_) | (refine St_step ?_; (try with_reducible intro _)) | (refine St_step2 ?_ ?_ <;> (intro hb; (try simp only [beq_iff_eq, bne_iff_ne, decide_eq_true_eq, decide_eq_false_iff_not, Bool.not_eq_true', Bool.not_eq_false', beq_eq_false_iff_ne, bne_eq_false_iff_eq, ne_eq, Int.not_lt, Int.not_le, gt_iff_lt, ge_iff_le] at hb); (try (first | exact Bool.noConfusion hb | exact absurd trivial hb | (exfalso; omega))))) | fail)
  rintro ⟨i, A1, c1⟩ hi
  have hi : i ≤ k.sd.ps.length := hi
  dsimp only
  by_cases hil : i < k.sd.ps.length
  · obtain ⟨d, hd⟩ : ∃ d, k.sd.ps[i]? = some d := ⟨_, List.getElem?_eq_getElem hil⟩
    have hseq : (seqs (k.sd.acked + 1) k.sd.ps)[i]? = some (k.sd.acked + 1 + i, d) := by rw [seqs_get, hd]; rfl
    refine St_rsOpen (r := true) (v := .slice A k.sd.ps.length c) (by exact Has.auto) (by omega) ?_
    rintro b2 T cap pre rest hv
    injection hv with hv1 hv2 hv3
    subst hv1 hv3
    have hld := flat_at pv_len (seqs (k.sd.acked + 1) k.sd.ps) i _ pre rest hseq
    have hroom := flat_room pv_len (seqs (k.sd.acked + 1) k.sd.ps) i pre rest (by rw [seqs_length]; exact hil)
    have hnext : frames1 k.ep k.rc.acked (k.sd.acked + 1) (k.sd.ps.take (i + 1)) = frames1 k.ep k.rc.acked (k.sd.acked + 1) (k.sd.ps.take i) ++ [⟨k.ep, (k.sd.acked + 1 + i : Nat), k.rc.acked, d⟩] := by
      rw [List.take_add_one, hd]
      show frames1 k.ep k.rc.acked (k.sd.acked + 1) (k.sd.ps.take i ++ [d]) = _
      rw [frames1_snoc, List.length_take, Nat.min_eq_left hi]
      rfl
    repeat' (first | (apply St_rd; exact rfl; (first | (apply Rd_loadA tb; exact rfl; exact rfl; exact rfl; exact Has.auto; exact hroom; exact hld))) | (apply Sq_rd; exact rfl; (first | (apply Rd_loadA tb; exact rfl; exact rfl; exact rfl; exact Has.auto; exact hroom; exact hld))) | (refine St_step ?_; (try with_reducible intro _)) | (refine St_step2 ?_ ?_ <;> (intro hb; (try simp only [beq_iff_eq, bne_iff_ne, decide_eq_true_eq, decide_eq_false_iff_not, Bool.not_eq_true', Bool.not_eq_false', beq_eq_false_iff_ne, bne_eq_false_iff_eq, ne_eq, Int.not_lt, Int.not_le, gt_iff_lt, ge_iff_le] at hb); (try (first | exact Bool.noConfusion hb | exact absurd trivial hb | (exfalso; omega))))) | fail)
    all_goals first | (exfalso; omega) | skip
    rename_i pb
    repeat' (first | (apply St_regionA (13) ([cel false b 95 [.pointer (some ⟨z.1, 0, none⟩), .pointer (some ⟨z.2, 0, none⟩), nat .i64 k.ep, .int .i64 k.win, .int .i64 k.room, .bool k.pas], cel false pb 113 (pv (k.sd.acked + 1 + i, d))]); kernel_rfl; (apply Sa_take 0; exact rfl; kernel_rfl; exact PanicOk.auto; exact rfl; (first | exact Rd_auto)); (apply Sa_take 1; exact rfl; kernel_rfl; exact PanicOk.auto; exact rfl; (first | exact Rd_auto)); (apply Sa_take 2; exact rfl; kernel_rfl; exact PanicOk.auto; exact rfl; (first | exact Rd_auto)); (apply Sa_take 3; exact rfl; kernel_rfl; exact PanicOk.auto; exact rfl; (first | exact Rd_auto)); (apply Sa_take 4; exact rfl; kernel_rfl; exact PanicOk.auto; exact rfl; (first | exact Rd_auto)); (apply Sa_take 5; exact rfl; kernel_rfl; exact PanicOk.auto; exact rfl; (first | exact Rd_auto)); (apply Sa_take 6; exact rfl; kernel_rfl; exact PanicOk.auto; exact rfl; (first | exact Rd_auto)); (apply Sa_take 7; exact rfl; kernel_rfl; exact PanicOk.auto; exact rfl; (first | exact Rd_auto)); (apply Sa_take 8; exact rfl; kernel_rfl; exact PanicOk.auto; exact rfl; (first | exact Rd_auto)); (apply Sa_take 9; exact rfl; kernel_rfl; exact PanicOk.auto; exact rfl; (first | exact Rd_auto)); (apply Sa_take 10; exact rfl; kernel_rfl; exact PanicOk.auto; exact rfl; (first | exact Rd_auto)); (apply Sa_one (i := 11); kernel_rfl; exact .inr (by exact Split.auto)); (apply Sa_op; exact rfl; exact rfl); (first | (apply St_append tb (sz := 4) (n := i); (repeat exact rfl); exact Has.auto; (intro _; exact Src.row (n := 1) (by exact Has.auto) (by simp) (by exact rfl)); exact rfl; (dsimp only; omega); intro v'; refine St_slIs (by exact Has.auto) ?_; rintro A' c' rfl) | (refine St_step ?_; (try with_reducible intro _)) | (refine St_step2 ?_ ?_ <;> (intro hb; (try simp only [beq_iff_eq, bne_iff_ne, decide_eq_true_eq, decide_eq_false_iff_not, Bool.not_eq_true', Bool.not_eq_false', beq_eq_false_iff_ne, bne_eq_false_iff_eq, ne_eq, Int.not_lt, Int.not_le, gt_iff_lt, ge_iff_le] at hb); (try (first | exact Bool.noConfusion hb | exact absurd trivial hb | (exfalso; omega))))) | fail); (apply Sa_one (i := 12); kernel_rfl; exact .inr (by exact Split.auto)); (apply Sa_op; exact rfl; exact rfl); (first | (apply St_append tb (sz := 4) (n := i); (repeat exact rfl); exact Has.auto; (intro _; exact Src.row (n := 1) (by exact Has.auto) (by simp) (by exact rfl)); exact rfl; (dsimp only; omega); intro v'; refine St_slIs (by exact Has.auto) ?_; rintro A' c' rfl) | (refine St_step ?_; (try with_reducible intro _)) | (refine St_step2 ?_ ?_ <;> (intro hb; (try simp only [beq_iff_eq, bne_iff_ne, decide_eq_true_eq, decide_eq_false_iff_not, Bool.not_eq_true', Bool.not_eq_false', beq_eq_false_iff_ne, bne_eq_false_iff_eq, ne_eq, Int.not_lt, Int.not_le, gt_iff_lt, ge_iff_le] at hb); (try (first | exact Bool.noConfusion hb | exact absurd trivial hb | (exfalso; omega))))) | fail); (apply Sa_one (i := 13); kernel_rfl; exact .inr (by exact Split.auto)); (apply Sa_op; exact rfl; exact rfl); (first | (apply St_append tb (sz := 4) (n := i); (repeat exact rfl); exact Has.auto; (intro _; exact Src.row (n := 1) (by exact Has.auto) (by simp) (by exact rfl)); exact rfl; (dsimp only; omega); intro v'; refine St_slIs (by exact Has.auto) ?_; rintro A' c' rfl) | (refine St_step ?_; (try with_reducible intro _)) | (refine St_step2 ?_ ?_ <;> (intro hb; (try simp only [beq_iff_eq, bne_iff_ne, decide_eq_true_eq, decide_eq_false_iff_not, Bool.not_eq_true', Bool.not_eq_false', beq_eq_false_iff_ne, bne_eq_false_iff_eq, ne_eq, Int.not_lt, Int.not_le, gt_iff_lt, ge_iff_le] at hb); (try (first | exact Bool.noConfusion hb | exact absurd trivial hb | (exfalso; omega))))) | fail); (apply Sa_done (R := []); kernel_rfl; refine .inl ?_; kernel_rfl)) | (refine St_step ?_; (try with_reducible intro _)) | (refine St_step2 ?_ ?_ <;> (intro hb; (try simp only [beq_iff_eq, bne_iff_ne, decide_eq_true_eq, decide_eq_false_iff_not, Bool.not_eq_true', Bool.not_eq_false', beq_eq_false_iff_ne, bne_eq_false_iff_eq, ne_eq, Int.not_lt, Int.not_le, gt_iff_lt, ge_iff_le] at hb); (try (first | exact Bool.noConfusion hb | exact absurd trivial hb | (exfalso; omega))))) | fail)
    refine St_slEq (cs' := (frames1 k.ep k.rc.acked (k.sd.acked + 1) (k.sd.ps.take (i + 1))).flatMap fv) (n' := i + 1) (by exact Has.auto) (by rw [hnext, List.flatMap_append]; rfl) rfl ?_
    refine St_rsMk (n := k.sd.ps.length) (cap := c) (cs := (seqs (k.sd.acked + 1) k.sd.ps).flatMap pv) (by exact Has.auto) ?_
    exact St_at (i + 1, A', c') ⟨by show i + 1 ≤ _; omega, by show _ - (i + 1) < _ - i; omega⟩ ⟨rfl, rfl, rfl, rfl, rfl, rfl, trivial⟩ (by exact Split.auto)
  · have hii : i = k.sd.ps.length := by omega
    subst hii
    rw [List.take_length]
    by_cases hp : k.sd.ps = []
    · have e : lkFrames k = [⟨k.ep, 0, k.rc.acked, []⟩] := by unfold lkFrames; rw [if_neg h0, if_pos hp]
      have hz : k.sd.ps.length = 0 := by rw [hp]; rfl
      rw [e]
      repeat' (first | (apply St_append tb (sz := 4) (n := k.sd.ps.length); (repeat exact rfl); exact Has.auto; (intro _; exact Src.row (n := 1) (by exact Has.auto) (by simp) (by exact rfl)); exact rfl; (dsimp only; omega); intro v'; refine St_slIs (by exact Has.auto) ?_; rintro A' c' rfl) | (refine St_step ?_; (try with_reducible intro _)) | (refine St_step2 ?_ ?_ <;> (intro hb; (try simp only [beq_iff_eq, bne_iff_ne, decide_eq_true_eq, decide_eq_false_iff_not, Bool.not_eq_true', Bool.not_eq_false', beq_eq_false_iff_ne, bne_eq_false_iff_eq, ne_eq, Int.not_lt, Int.not_le, gt_iff_lt, ge_iff_le] at hb); (try (first | exact Bool.noConfusion hb | exact absurd trivial hb | (exfalso; omega))))) | fail)
      all_goals first | (exfalso; omega) | skip
      refine St_slEq (cs' := [(⟨k.ep, 0, k.rc.acked, []⟩ : Fr)].flatMap fv) (n' := 1) (by exact Has.auto) (by rw [hp]; rfl) (by omega) ?_
      refine St_slShare (n := 1) (by exact Has.auto) ?_
      refine St_exMk (l := lkL b k) z (by exact Split.auto) ?_
      exact St_ret1 (.inl rfl) rfl rfl ⟨A', c', by rw [hz]; rfl, by rw [hz]⟩ (by rw [hz]; exact Split.auto)
    · have e : lkFrames k = frames1 k.ep k.rc.acked (k.sd.acked + 1) k.sd.ps := by unfold lkFrames; rw [if_neg h0, if_neg hp]
      have hz : k.sd.ps.length ≠ 0 := fun h => hp (List.eq_nil_of_length_eq_zero h)
      rw [e, frames1_length]
      repeat' (first | (refine St_step ?_; (try with_reducible intro _)) | (refine St_step2 ?_ ?_ <;> (intro hb; (try simp only [beq_iff_eq, bne_iff_ne, decide_eq_true_eq, decide_eq_false_iff_not, Bool.not_eq_true', Bool.not_eq_false', beq_eq_false_iff_ne, bne_eq_false_iff_eq, ne_eq, Int.not_lt, Int.not_le, gt_iff_lt, ge_iff_le] at hb); (try (first | exact Bool.noConfusion hb | exact absurd trivial hb | (exfalso; omega))))) | fail)
      all_goals first | (exfalso; omega) | skip
      refine St_slShare (n := k.sd.ps.length) (by exact Has.auto) ?_
      refine St_exMk (l := lkL b k) z (by exact Split.auto) ?_
      exact St_ret1 (.inl rfl) rfl rfl ⟨A1, c1, rfl, rfl⟩ (by exact Split.auto)
end Go.Proofs.YtfjnacakpeommaaDoor
