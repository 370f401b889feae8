/- Contracts: slices.Clone of updates, round.Copy, round.Get. -/
import Derived.Test.YtfjnacakpeommaaDoorC14
import Derived.Test.YtfjnacakpeommaaDoorSl4
namespace Go.Proofs.YtfjnacakpeommaaDoor
open Go SL Pl
set_option autoImplicit false
set_option maxRecDepth 100000
set_option linter.unusedSimpArgs false
set_option linter.unusedVariables false
attribute [local irreducible] St Sq Exec QExec wpList wpQuiet Code.wp Exit.then Exit.inBlock bodyPost At Rd wpOp Wa QK GB
theorem clone_sp (q : Bool) (l : List Up) (v : Value) (hl : l.length ≤ 1000) : Sp Tryd.prog 77 [v] [UL q v l] (fun w M => ∃ v', w = v' ∧ (∃ A n c, v' = .slice A n c) ∧ M = [UL true v' l, UL q v l]) := by
  refine Sp.intro (P := Tryd.prog) (Tryd.func77) rfl Tryd.ntmps77 (by decide) rfl ?_
  intro ρ F
  refine St_rsIs (by exact Has.auto) ?_
  rintro A c rfl
  have hfl := flat_len uv_len l
  have hok : (l.flatMap uv).all Value.oneCell' = true := by
    clear hl hfl
    induction l with
    | nil => rfl
    | cons u l ih => rw [List.flatMap_cons, List.all_append, ih]; rfl
  cases A with
  | none =>
    -- the slice is nil: it has no elements
    refine St_conv (L' := [UL true (.slice none 0 0) [], UL q (.slice none l.length c) l, big F]) (fun w H => Holds.rs_nil H) ?_
    by_cases h0 : l = []
    · subst h0
      repeat' (first | (apply St_rd; exact rfl; (first | (apply Rd_slNil tb; exact rfl; exact rfl; exact rfl))) | (apply Sq_rd; exact rfl; (first | (apply Rd_slNil tb; exact rfl; exact rfl; exact rfl))) | (refine St_step ?_; (try with_reducible intro _)) | (refine St_step2 ?_ ?_ <;> (intro hb; (try simp only [beq_iff_eq, bne_iff_ne, decide_eq_true_eq, decide_eq_false_iff_not, Bool.not_eq_true', Bool.not_eq_false', beq_eq_false_iff_ne, bne_eq_false_iff_eq, ne_eq, Int.not_lt, Int.not_le, gt_iff_lt, ge_iff_le] at hb); (try (first | exact Bool.noConfusion hb | exact absurd trivial hb | (exfalso; omega))))) | fail)
      all_goals first | exact St_ret1 (.inl rfl) rfl rfl ⟨_, rfl, ⟨_, _, _, rfl⟩, rfl⟩ (by exact Split.auto) | (exfalso; simp at hb; done)
    · refine St_rsOpen (L := [UL true (.slice none 0 0) [], UL q (.slice none l.length c) l, big F]) (v := .slice none l.length c) (n := l.length) (cs := l.flatMap uv) (r := q) (.tail .head) (by
        rcases Nat.eq_zero_or_pos l.length with h | h
        · exact absurd (List.eq_nil_of_length_eq_zero h) h0
        · exact h) ?_
      rintro b T cap pre rest hv
      cases hv
  | some A =>
    repeat' (first | (apply St_rd; exact rfl; (first | (apply Rd_slNil tb; exact rfl; exact rfl; exact rfl))) | (apply Sq_rd; exact rfl; (first | (apply Rd_slNil tb; exact rfl; exact rfl; exact rfl))) | (refine St_step ?_; (try with_reducible intro _)) | (refine St_step2 ?_ ?_ <;> (intro hb; (try simp only [beq_iff_eq, bne_iff_ne, decide_eq_true_eq, decide_eq_false_iff_not, Bool.not_eq_true', Bool.not_eq_false', beq_eq_false_iff_ne, bne_eq_false_iff_eq, ne_eq, Int.not_lt, Int.not_le, gt_iff_lt, ge_iff_le] at hb); (try (first | exact Bool.noConfusion hb | exact absurd trivial hb | (exfalso; omega))))) | fail)
    all_goals try (exfalso; simp at hb; done)
    refine St_slRow (E := 59) (sz := 4) (n := 0) (by exact Has.auto) rfl ?_
    repeat' (first | (apply St_append tb (sz := 4); (repeat exact rfl); exact Has.auto; (intro _; exact Src.rs (by exact Has.auto) hfl); exact hok; (dsimp only; omega); intro v') | (refine St_step ?_; (try with_reducible intro _)) | (refine St_step2 ?_ ?_ <;> (intro hb; (try simp only [beq_iff_eq, bne_iff_ne, decide_eq_true_eq, decide_eq_false_iff_not, Bool.not_eq_true', Bool.not_eq_false', beq_eq_false_iff_ne, bne_eq_false_iff_eq, ne_eq, Int.not_lt, Int.not_le, gt_iff_lt, ge_iff_le] at hb); (try (first | exact Bool.noConfusion hb | exact absurd trivial hb | (exfalso; omega))))) | fail)
    refine St_slIs (by exact Has.auto) ?_
    rintro A' c' rfl
    refine St_slShare (by exact Has.auto) ?_
    rw [List.nil_append, Nat.zero_add]
    repeat' (first | (refine St_step ?_; (try with_reducible intro _)) | (refine St_step2 ?_ ?_ <;> (intro hb; (try simp only [beq_iff_eq, bne_iff_ne, decide_eq_true_eq, decide_eq_false_iff_not, Bool.not_eq_true', Bool.not_eq_false', beq_eq_false_iff_ne, bne_eq_false_iff_eq, ne_eq, Int.not_lt, Int.not_le, gt_iff_lt, ge_iff_le] at hb); (try (first | exact Bool.noConfusion hb | exact absurd trivial hb | (exfalso; omega))))) | fail)
    exact St_ret1 (.inl rfl) rfl rfl ⟨_, rfl, ⟨_, _, _, rfl⟩, rfl⟩ (by exact Split.auto)
theorem copy_sp (q : Bool) (r : Ro) (v : Value) (hl : r.ups.length ≤ 1000) : Sp Tryd.prog 55 [.agg (rv r v).toArray] [UL q v r.ups] (fun w M => ∃ v', w = .agg (rv r v').toArray ∧ M = [UL true v' r.ups, UL q v r.ups]) := by
  refine Sp.intro (P := Tryd.prog) (Tryd.func55) rfl Tryd.ntmps55 (by decide) rfl ?_
  intro ρ F
  refine St_rsIs (by exact Has.auto) ?_
  rintro A c rfl
  repeat' (first | (apply St_call (hf := clone_sp q r.ups (.slice A r.ups.length c) hl); exact rfl; exact rfl; exact Split.auto; rintro _ _ ⟨_, rfl, ⟨A', n', c', rfl⟩, rfl⟩) | (refine St_step ?_; (try with_reducible intro _)) | (refine St_step2 ?_ ?_ <;> (intro hb; (try simp only [beq_iff_eq, bne_iff_ne, decide_eq_true_eq, decide_eq_false_iff_not, Bool.not_eq_true', Bool.not_eq_false', beq_eq_false_iff_ne, bne_eq_false_iff_eq, ne_eq, Int.not_lt, Int.not_le, gt_iff_lt, ge_iff_le] at hb); (try (first | exact Bool.noConfusion hb | exact absurd trivial hb | (exfalso; omega))))) | fail)
  exact St_retC tb (.inl rfl) rfl rfl rfl rfl (by exact Has.auto) rfl ⟨_, rfl, rfl⟩ (by exact Split.auto)
set_option maxHeartbeats 1000000 in
theorem rGet_sp (s : List UInt8) (hs : s.length ≤ 1000000) : Sp Tryd.prog 27 [str s] [GB]
    (fun w M => ∃ v, w = .tuple [.agg (rv (rget s).1 v).toArray, nat .i64 (rget s).2].toArray ∧ M = [UL true v (rget s).1.ups, GB]) := by
  refine Sp.intro (P := Tryd.prog) (Tryd.func27) rfl Tryd.ntmps27 (by decide) rfl ?_
  intro ρ F
  have c1 := fun k => rsome_sp k s ⟨0, 0⟩ 64 hs (Nat.zero_le _) (by decide)
  have l1 := rsome_le (lim := 64) (r := ⟨0, 0⟩) (Nat.zero_le s.length)
  have c2 := fun k => rsome_sp k s (rsome s 64 ⟨0, 0⟩).2 1099511627776 hs l1 (by decide)
  have l2 := rsome_le (lim := 1099511627776) l1
  have c3 := fun k => rsome_sp k s (rsome s 1099511627776 (rsome s 64 ⟨0, 0⟩).2).2 8 hs l2 (by decide)
  have l3 := rsome_le (lim := 8) l2
  have m3 := rsome_lim (s := s) (lim := 8) (r := (rsome s 1099511627776 (rsome s 64 ⟨0, 0⟩).2).2)
  have er : rget s = (if rend s (ureads s (rsome s 8 (rsome s 1099511627776 (rsome s 64 ⟨0, 0⟩).2).2).1 (rsome s 8 (rsome s 1099511627776 (rsome s 64 ⟨0, 0⟩).2).2).2).2 ≠ 0 then (ro0, rend s (ureads s (rsome s 8 (rsome s 1099511627776 (rsome s 64 ⟨0, 0⟩).2).2).1 (rsome s 8 (rsome s 1099511627776 (rsome s 64 ⟨0, 0⟩).2).2).2).2)
      else (⟨(rsome s 64 ⟨0, 0⟩).1, (rsome s 1099511627776 (rsome s 64 ⟨0, 0⟩).2).1, (ureads s (rsome s 8 (rsome s 1099511627776 (rsome s 64 ⟨0, 0⟩).2).2).1 (rsome s 8 (rsome s 1099511627776 (rsome s 64 ⟨0, 0⟩).2).2).2).1⟩, 0)) := rfl
  generalize rsome s 64 ⟨0, 0⟩ = q1 at *
  obtain ⟨o, r1⟩ := q1
  generalize rsome s 1099511627776 r1 = q2 at *
  obtain ⟨n, r2⟩ := q2
  generalize rsome s 8 r2 = q3 at *
  obtain ⟨m, r3⟩ := q3
  dsimp only at *
  rw [er]
  have hfl := fun i => flat_len uv_len (ureads s i r3).1
  have hll := fun i => ureads_length (s := s) i (r := r3)
  have hle := fun i => ureads_le (s := s) i l3
  repeat' (first | (apply St_call; exact rfl; exact rfl; exact rread_sp s; exact Split.auto; rintro _ _ ⟨k, rfl, rfl⟩) | (apply St_call (hf := c1 _); exact rfl; exact rfl; exact Split.auto; rintro _ _ ⟨rfl, rfl⟩) | (apply St_call (hf := c2 _); exact rfl; exact rfl; exact Split.auto; rintro _ _ ⟨rfl, rfl⟩) | (apply St_call (hf := c3 _); exact rfl; exact rfl; exact Split.auto; rintro _ _ ⟨rfl, rfl⟩) | (refine St_step ?_; (try with_reducible intro _)) | (refine St_step2 ?_ ?_ <;> (intro hb; (try simp only [beq_iff_eq, bne_iff_ne, decide_eq_true_eq, decide_eq_false_iff_not, Bool.not_eq_true', Bool.not_eq_false', beq_eq_false_iff_ne, bne_eq_false_iff_eq, ne_eq, Int.not_lt, Int.not_le, gt_iff_lt, ge_iff_le] at hb); (try (first | exact Bool.noConfusion hb | exact absurd trivial hb | (exfalso; omega))))) | fail)
  refine St_slNil (E := 59) (sz := 4) ?_
  repeat' (first | (refine St_loop (fun (z : Nat × Value) => z.1 ≤ m ∧ ∃ A c, z.2 = .slice A z.1 c) (fun z => [(2, .pointer (some ⟨_, 0, none⟩)), (4, .pointer (some ⟨k, 0, none⟩)), (5, .pointer (some ⟨_, 0, none⟩)), (15, nat .i64 m), (16, nat .i64 z.1)]) (fun z => [cel false _ 62 [nat .i64 o, nat .i64 n, z.2], Sl 59 4 z.2 z.1 ((ureads s z.1 r3).1.flatMap uv), Rk k s (ureads s z.1 r3).2, GB, cel false _ 62 [.int .i64 0, .int .i64 0, .slice none 0 0], big F]) (fun z => m - z.1) (0, .slice none 0 0) ⟨Nat.zero_le _, _, _, rfl⟩ ⟨rfl, rfl, rfl, rfl, rfl, trivial⟩ (by exact Split.auto) ?_) | (refine St_step ?_; (try with_reducible intro _)) | (refine St_step2 ?_ ?_ <;> (intro hb; (try simp only [beq_iff_eq, bne_iff_ne, decide_eq_true_eq, decide_eq_false_iff_not, Bool.not_eq_true', Bool.not_eq_false', beq_eq_false_iff_ne, bne_eq_false_iff_eq, ne_eq, Int.not_lt, Int.not_le, gt_iff_lt, ge_iff_le] at hb); (try (first | exact Bool.noConfusion hb | exact absurd trivial hb | (exfalso; omega))))) | fail)
  rename_i b5
  rintro ⟨i, v⟩ ⟨hi, A, c, hv⟩
  have hi : i ≤ m := hi
  have hv : v = .slice A i c := hv
  subst hv
  by_cases him : i < m
  · have hfi := hfl i
    have hli := hll i
    have cu := uread_sp k s (ureads s i r3).2 hs (hle i)
    have hnext : (ureads s (i + 1) r3).1.flatMap uv = (ureads s i r3).1.flatMap uv ++ uv (uread s (ureads s i r3).2).1 := by rw [ureads, List.flatMap_append]; simp
    have hnext2 : (ureads s (i + 1) r3).2 = (uread s (ureads s i r3).2).2 := rfl
    rw [← hnext2] at cu
    generalize (uread s (ureads s i r3).2).1 = u at *
    dsimp only
    repeat' (first | (refine St_step ?_; (try with_reducible intro _)) | (refine St_step2 ?_ ?_ <;> (intro hb; (try simp only [beq_iff_eq, bne_iff_ne, decide_eq_true_eq, decide_eq_false_iff_not, Bool.not_eq_true', Bool.not_eq_false', beq_eq_false_iff_ne, bne_eq_false_iff_eq, ne_eq, Int.not_lt, Int.not_le, gt_iff_lt, ge_iff_le] at hb); (try (first | exact Bool.noConfusion hb | exact absurd trivial hb | (exfalso; omega))))) | fail)
    (apply St_regionA (7) ([cel false b5 62 [nat .i64 o, nat .i64 n, .slice A i c]]); kernel_rfl; (apply Sa_take 0; exact rfl; kernel_rfl; exact PanicOk.auto; exact rfl; (first | exact Rd_auto)); (apply Sa_take 1; exact rfl; kernel_rfl; exact PanicOk.auto; exact rfl; (first | exact Rd_auto)); (apply Sa_take 2; exact rfl; kernel_rfl; exact PanicOk.auto; exact rfl; (first | exact Rd_auto)); (apply Sa_one (i := 3); kernel_rfl; exact .inr (by exact Split.auto)); (apply Sa_op; exact rfl; exact rfl); (first | (apply St_call (hf := cu); exact rfl; exact rfl; exact Split.auto; rintro _ _ ⟨rfl, rfl⟩) | (apply St_append tb (sz := 4); (repeat exact rfl); exact Has.auto; (intro _; exact Src.row (n := 1) (by exact Has.auto) (by simp) (by exact rfl)); exact rfl; (dsimp only; omega); intro v'; refine St_slIs (by exact Has.auto) ?_; rintro A' c' rfl) | (refine St_step ?_; (try with_reducible intro _)) | (refine St_step2 ?_ ?_ <;> (intro hb; (try simp only [beq_iff_eq, bne_iff_ne, decide_eq_true_eq, decide_eq_false_iff_not, Bool.not_eq_true', Bool.not_eq_false', beq_eq_false_iff_ne, bne_eq_false_iff_eq, ne_eq, Int.not_lt, Int.not_le, gt_iff_lt, ge_iff_le] at hb); (try (first | exact Bool.noConfusion hb | exact absurd trivial hb | (exfalso; omega))))) | fail); (apply Sa_one (i := 4); kernel_rfl; exact .inr (by exact Split.auto)); (apply Sa_op; exact rfl; exact rfl); (first | (apply St_call (hf := cu); exact rfl; exact rfl; exact Split.auto; rintro _ _ ⟨rfl, rfl⟩) | (apply St_append tb (sz := 4); (repeat exact rfl); exact Has.auto; (intro _; exact Src.row (n := 1) (by exact Has.auto) (by simp) (by exact rfl)); exact rfl; (dsimp only; omega); intro v'; refine St_slIs (by exact Has.auto) ?_; rintro A' c' rfl) | (refine St_step ?_; (try with_reducible intro _)) | (refine St_step2 ?_ ?_ <;> (intro hb; (try simp only [beq_iff_eq, bne_iff_ne, decide_eq_true_eq, decide_eq_false_iff_not, Bool.not_eq_true', Bool.not_eq_false', beq_eq_false_iff_ne, bne_eq_false_iff_eq, ne_eq, Int.not_lt, Int.not_le, gt_iff_lt, ge_iff_le] at hb); (try (first | exact Bool.noConfusion hb | exact absurd trivial hb | (exfalso; omega))))) | fail); (apply Sa_one (i := 5); kernel_rfl; exact .inr (by exact Split.auto)); (apply Sa_op; exact rfl; exact rfl); (first | (apply St_call (hf := cu); exact rfl; exact rfl; exact Split.auto; rintro _ _ ⟨rfl, rfl⟩) | (apply St_append tb (sz := 4); (repeat exact rfl); exact Has.auto; (intro _; exact Src.row (n := 1) (by exact Has.auto) (by simp) (by exact rfl)); exact rfl; (dsimp only; omega); intro v'; refine St_slIs (by exact Has.auto) ?_; rintro A' c' rfl) | (refine St_step ?_; (try with_reducible intro _)) | (refine St_step2 ?_ ?_ <;> (intro hb; (try simp only [beq_iff_eq, bne_iff_ne, decide_eq_true_eq, decide_eq_false_iff_not, Bool.not_eq_true', Bool.not_eq_false', beq_eq_false_iff_ne, bne_eq_false_iff_eq, ne_eq, Int.not_lt, Int.not_le, gt_iff_lt, ge_iff_le] at hb); (try (first | exact Bool.noConfusion hb | exact absurd trivial hb | (exfalso; omega))))) | fail); (apply Sa_take 6; exact rfl; kernel_rfl; exact PanicOk.auto; exact rfl; (first | exact Rd_auto)); (apply Sa_one (i := 7); kernel_rfl; exact .inr (by exact Split.auto)); (apply Sa_op; exact rfl; exact rfl); (first | (apply St_call (hf := cu); exact rfl; exact rfl; exact Split.auto; rintro _ _ ⟨rfl, rfl⟩) | (apply St_append tb (sz := 4); (repeat exact rfl); exact Has.auto; (intro _; exact Src.row (n := 1) (by exact Has.auto) (by simp) (by exact rfl)); exact rfl; (dsimp only; omega); intro v'; refine St_slIs (by exact Has.auto) ?_; rintro A' c' rfl) | (refine St_step ?_; (try with_reducible intro _)) | (refine St_step2 ?_ ?_ <;> (intro hb; (try simp only [beq_iff_eq, bne_iff_ne, decide_eq_true_eq, decide_eq_false_iff_not, Bool.not_eq_true', Bool.not_eq_false', beq_eq_false_iff_ne, bne_eq_false_iff_eq, ne_eq, Int.not_lt, Int.not_le, gt_iff_lt, ge_iff_le] at hb); (try (first | exact Bool.noConfusion hb | exact absurd trivial hb | (exfalso; omega))))) | fail); (apply Sa_done (R := []); kernel_rfl; refine .inl ?_; kernel_rfl))
    refine St_slEq (cs' := (ureads s (i + 1) r3).1.flatMap uv) (n' := i + 1) (by exact Has.auto) (by rw [hnext]; rfl) rfl ?_
    repeat' (first | (refine St_step ?_; (try with_reducible intro _)) | (refine St_step2 ?_ ?_ <;> (intro hb; (try simp only [beq_iff_eq, bne_iff_ne, decide_eq_true_eq, decide_eq_false_iff_not, Bool.not_eq_true', Bool.not_eq_false', beq_eq_false_iff_ne, bne_eq_false_iff_eq, ne_eq, Int.not_lt, Int.not_le, gt_iff_lt, ge_iff_le] at hb); (try (first | exact Bool.noConfusion hb | exact absurd trivial hb | (exfalso; omega))))) | fail)
    exact St_at (i + 1, .slice A' (i + 1) c') ⟨⟨by show i + 1 ≤ m; omega, _, _, rfl⟩, by show m - (i + 1) < m - i; omega⟩ ⟨rfl, rfl, rfl, rfl, rfl, trivial⟩ (by exact Split.auto)
  · have hmi : i = m := by omega
    subst hmi
    dsimp only
    have ce := rend_sp k s (ureads s i r3).2 hs (hle i)
    refine St_slShare (by exact Has.auto) ?_
    by_cases he : rend s (ureads s i r3).2 = 0
    · rw [if_neg (fun h => h he)]
      rw [he] at ce
      have e2 : (ureads s i r3).1.length = i := hll i
      refine St_pull (A := UL true (.slice A i c) (ureads s i r3).1) (by show Has _ (RS true _ (ureads s i r3).1.length _) _; rw [e2]; exact Has.auto) ?_
      repeat' (first | (apply St_call (hf := ce); exact rfl; exact rfl; exact Split.auto; rintro _ _ ⟨rfl, rfl⟩) | (refine St_step ?_; (try with_reducible intro _)) | (refine St_step2 ?_ ?_ <;> (intro hb; (try simp only [beq_iff_eq, bne_iff_ne, decide_eq_true_eq, decide_eq_false_iff_not, Bool.not_eq_true', Bool.not_eq_false', beq_eq_false_iff_ne, bne_eq_false_iff_eq, ne_eq, Int.not_lt, Int.not_le, gt_iff_lt, ge_iff_le] at hb); (try (first | exact Bool.noConfusion hb | exact absurd trivial hb | (exfalso; omega))))) | fail)
      exact St_retCT tb (.inl rfl) rfl rfl rfl rfl rfl (by exact Has.auto) rfl ⟨_, rfl, rfl⟩ (by exact Split.auto)
    · rw [if_pos he]
      refine St_conv (L' := UL true (.slice none 0 0) [] :: _) (fun w H => Holds.rs_nil H) ?_
      repeat' (first | (apply St_call (hf := ce); exact rfl; exact rfl; exact Split.auto; rintro _ _ ⟨rfl, rfl⟩) | (refine St_step ?_; (try with_reducible intro _)) | (refine St_step2 ?_ ?_ <;> (intro hb; (try simp only [beq_iff_eq, bne_iff_ne, decide_eq_true_eq, decide_eq_false_iff_not, Bool.not_eq_true', Bool.not_eq_false', beq_eq_false_iff_ne, bne_eq_false_iff_eq, ne_eq, Int.not_lt, Int.not_le, gt_iff_lt, ge_iff_le] at hb); (try (first | exact Bool.noConfusion hb | exact absurd trivial hb | (exfalso; omega))))) | fail)
      exact St_retCT tb (.inl rfl) rfl rfl rfl rfl rfl (by exact Has.auto) rfl ⟨_, rfl, rfl⟩ (by exact Split.auto)
end Go.Proofs.YtfjnacakpeommaaDoor
