/- The contract of the law. -/
import Derived.Test.YtfjnacakpeommaaGreatDoorM6
/- Contracts: chapbooklaw16.SequencerLog. -/
namespace Go.Proofs.YtfjnacakpeommaaGreatDoor
open Go SL Pl
set_option autoImplicit false
set_option maxRecDepth 100000
set_option linter.unusedSimpArgs false
set_option linter.unusedVariables false
attribute [local irreducible] St Sq Exec QExec wpList wpQuiet Code.wp Exit.then Exit.inBlock bodyPost At Rd wpOp Wa QK GB
theorem ro_in {n : Nat} {l : List Ro} (h : lgOk n l) {i : Nat} {r : Ro} (hr : l[i]? = some r) : 1 ≤ r.origin ∧ r.origin ≤ n ∧ 1 ≤ r.number ∧ r.number ≤ 1099511627776 ∧ r.number = (lastOf (l.take i) r.origin : Int) + 1 := by
  obtain ⟨h1, h2, h3⟩ := h i r hr
  unfold rmay at h1
  split at h1
  · cases h1
  · omega
theorem lastOf_take {n : Nat} {l : List Ro} (h : lgOk n l) {i : Nat} {r : Ro} (hr : l[i]? = some r) (o : Int) : (lastOf (l.take (i + 1)) o : Int) = if o = r.origin then (lastOf (l.take i) r.origin : Int) + 1 else lastOf (l.take i) o := by
  obtain ⟨_, _, h1, _, h2⟩ := ro_in h hr
  have e : l.take (i + 1) = l.take i ++ [r] := by rw [List.take_add_one, hr]; rfl
  rw [e, lastOf_snoc _ _ _ h1]
  by_cases ho : r.origin = o
  · rw [if_pos ho, if_pos ho.symm]; omega
  · rw [if_neg ho, if_neg (fun h => ho h.symm)]
attribute [local irreducible] LkP LgP SqP PeP SdP RcP RdP
set_option maxHeartbeats 4000000 in
theorem sequencerLog_sp (q : Bool) (c : Cfg) (l : List Ac) (v : Value) : Sp Tryz.prog 4 [.agg (cfgC c).toArray, v] [RS q v l.length (l.flatMap av), GB]
    (fun w M => w = .bool true ∧ M = [RS q v l.length (l.flatMap av), GB]) := by
  refine Sp.intro (P := Tryz.prog) (Tryz.func4) rfl Tryz.ntmps4 (by decide) rfl ?_
  intro ρ F
  refine St_rsIs (r := q) (v := v) (n := l.length) (cs := l.flatMap av) (by exact Has.auto) ?_
  rintro A k rfl
  have g1 := great16_sp q c l (.slice A l.length k)
  have m1 := may16_sp c
  cases hg : acGreat c l with
  | true =>
    rw [hg] at g1
    repeat' (first | (apply St_regionQ; kernel_rfl; kernel_rfl) | (apply St_call (hf := awake_sp); exact rfl; exact rfl; exact Split.auto; rintro _ _ ⟨rfl, rfl⟩) | (apply St_call (hf := g1); exact rfl; exact rfl; exact Split.auto; rintro _ _ ⟨rfl, rfl⟩) | (refine St_step ?_; (try with_reducible intro _)) | (refine St_step2 ?_ ?_ <;> (intro hb; (try simp only [beq_iff_eq, bne_iff_ne, decide_eq_true_eq, decide_eq_false_iff_not, Bool.not_eq_true', Bool.not_eq_false', beq_eq_false_iff_ne, bne_eq_false_iff_eq, ne_eq, Int.not_lt, Int.not_le, gt_iff_lt, ge_iff_le] at hb); (try (first | exact Bool.noConfusion hb | exact absurd trivial hb | (exfalso; omega))))) | fail)
    all_goals (first | contradiction | (exfalso; omega) | (exact St_ret1 (.inl rfl) rfl rfl ⟨rfl, rfl⟩ (by exact Split.auto)) | (exact St_ret2 (.inl rfl) rfl rfl rfl ⟨rfl, rfl⟩ (by exact Split.auto)) | (exact St_ret3 (.inl rfl) rfl rfl rfl rfl ⟨rfl, rfl⟩ (by exact Split.auto)))
  | false =>
    rw [hg] at g1
    obtain ⟨hl60, hc4, hb4⟩ := acGreat_no hg
    by_cases hc : cfgOk c
    · rw [decide_eq_true hc] at m1
      have n1 := sNewOk_sp hc
      repeat' (first | (apply St_regionQ; kernel_rfl; kernel_rfl) | (apply St_call (hf := awake_sp); exact rfl; exact rfl; exact Split.auto; rintro _ _ ⟨rfl, rfl⟩) | (apply St_call (hf := g1); exact rfl; exact rfl; exact Split.auto; rintro _ _ ⟨rfl, rfl⟩) | (apply St_call (hf := m1); exact rfl; exact rfl; exact Split.auto; rintro _ _ ⟨rfl, rfl⟩) | (apply St_call (hf := n1); exact rfl; exact rfl; exact Split.auto; rintro _ _ ⟨sa, rfl, rfl⟩) | (apply St_rd; exact rfl; (first | (apply Rd_ptrEqNil' tb; exact rfl; exact rfl; exact rfl))) | (apply Sq_rd; exact rfl; (first | (apply Rd_ptrEqNil' tb; exact rfl; exact rfl; exact rfl))) | (refine St_step ?_; (try with_reducible intro _)) | (refine St_step2 ?_ ?_ <;> (intro hb; (try simp only [beq_iff_eq, bne_iff_ne, decide_eq_true_eq, decide_eq_false_iff_not, Bool.not_eq_true', Bool.not_eq_false', beq_eq_false_iff_ne, bne_eq_false_iff_eq, ne_eq, Int.not_lt, Int.not_le, gt_iff_lt, ge_iff_le] at hb); (try (first | exact Bool.noConfusion hb | exact absurd trivial hb | (exfalso; omega))))) | fail)
      all_goals first | (exfalso; omega) | skip
      rename_i cb
      refine St_loop (fun (y : Nat × Sqr) => y.1 ≤ l.length ∧ sqIn y.2 ∧ y.2.c = c ∧ y.2.l.length ≤ y.1) (fun y => [(2, .pointer (some ⟨cb, 0, none⟩)), (5, .pointer (some ⟨sa, 0, none⟩)), (36, .slice A l.length k), (37, nat .i64 l.length), (38, nat .i64 y.1)]) (fun y => [SqP sa y.2, cel false cb 23 (cfgC c), RS q (.slice A l.length k) l.length (l.flatMap av), GB, big F]) (fun y => l.length - y.1) (0, sqNew c) ⟨Nat.zero_le _, sqIn_new hc, rfl, Nat.le_refl _⟩ ⟨rfl, rfl, rfl, rfl, rfl, trivial⟩ (by exact Split.auto) ?_
      rintro ⟨i, S⟩ ⟨hi, hS, hSc, hSl⟩
      have hi : i ≤ l.length := hi
      have hSl : S.l.length ≤ i := hSl
      have hSc : S.c = c := hSc
      have hS : sqIn S := hS
      dsimp only
      have hlu := lgOk_ups hS.ok.l
      by_cases hil : i < l.length
      · obtain ⟨a, ha⟩ : ∃ a, l[i]? = some a := ⟨_, List.getElem?_eq_getElem hil⟩
        have hab := hb4 a (List.mem_of_getElem? ha)
        have f1 := sLogC_sp sa S hS.ok (by omega)
        refine St_rsOpen (r := q) (v := .slice A l.length k) (n := l.length) (cs := l.flatMap av) (by exact Has.auto) (by omega) ?_
        rintro b1 T1 cap1 pre1 rest1 hv1
        injection hv1 with p1 p2 p3
        subst p1 p3
        have hld1 := flat_at av_len l i a pre1 rest1 ha
        have hroom1 := flat_room av_len l i pre1 rest1 hil
        by_cases hk : a.kind = 2
        · have k1 := sTick_in sa S hS (by omega)
          obtain ⟨S2, x, hS2, hI2, hc2, hxx, hxn, hox⟩ : ∃ S2 x, S2 = sqTick S ∧ sqIn S2 ∧ S2.c = c ∧ S2.l = S.l ++ x ∧ x.length ≤ 1 ∧ ∀ r ∈ x, ¬ a.kind = 2 ∧ r.origin = a.src := ⟨sqTick S, [], rfl, sqIn_tick hS, hSc, (List.append_nil _).symm, by simp, fun r hr => by cases hr⟩
          have hnn : S2.l.length = S.l.length + x.length := by rw [hxx, List.length_append]
          have f2 := sLogC_sp sa S2 hI2.ok (by omega)
          rw [← hS2] at k1
          clear hS2
          repeat' (first | (apply St_call (hf := k1); exact rfl; exact rfl; exact Split.auto; rintro _ _ ⟨⟨A9, c9, rfl⟩, rfl⟩) | (apply St_call (hf := f1); exact rfl; exact rfl; exact Split.auto; rintro _ _ ⟨⟨A1, c1, hr1, rfl⟩, rfl⟩) | (apply St_call (hf := f2); exact rfl; exact rfl; exact Split.auto; rintro _ _ ⟨⟨A2, c2, hr2, rfl⟩, rfl⟩) | (apply St_rd; exact rfl; (first | (apply Rd_loadA tb; exact rfl; exact rfl; exact rfl; exact Has.auto; exact hroom1; exact hld1) | (apply Rd_sliceTo tb; exact rfl; exact rfl; exact rfl; exact rfl; omega))) | (apply Sq_rd; exact rfl; (first | (apply Rd_loadA tb; exact rfl; exact rfl; exact rfl; exact Has.auto; exact hroom1; exact hld1) | (apply Rd_sliceTo tb; exact rfl; exact rfl; exact rfl; exact rfl; omega))) | (refine St_step ?_; (try with_reducible intro _)) | (refine St_step2 ?_ ?_ <;> (intro hb; (try simp only [beq_iff_eq, bne_iff_ne, decide_eq_true_eq, decide_eq_false_iff_not, Bool.not_eq_true', Bool.not_eq_false', beq_eq_false_iff_ne, bne_eq_false_iff_eq, ne_eq, Int.not_lt, Int.not_le, gt_iff_lt, ge_iff_le] at hb); (try (first | exact Bool.noConfusion hb | exact absurd trivial hb | (exfalso; omega))))) | fail)
          all_goals first | (exfalso; omega) | skip
          rename_i ab _
          refine St_rdOpen (v := .slice A1 S.l.length c1) (l := S.l) (by exact Has.auto) fun xs hxs => ?_
          refine St_rdOpen (v := .slice A2 S2.l.length c2) (l := S2.l) (by exact Has.auto) fun ys hys => ?_
          have hyl : ys.length = S2.l.length := by rw [← hys, List.length_map]
          have hxl : xs.length = S.l.length := by rw [← hxs, List.length_map]
          have hyt : (ys.take S.l.length).map (·.1) = S.l := by rw [List.map_take, hys, hxx, List.take_left]
          have hyd : (ys.drop S.l.length).map (·.1) = x := by rw [List.map_drop, hys, hxx, List.drop_left]
          have f3 := sameAll_sp S.l (.slice A2 S.l.length c2) (.slice A1 S.l.length c1) (ys.take S.l.length) ys xs xs hyt hxs (fun _ h => List.mem_of_mem_take h) (fun _ h => h) (by omega) hlu
          refine St_rsCut (f := rvp) (k := 3) rvp_len (A := A2) (n := S2.l.length) (c := c2) (m := S.l.length) (xs := ys) hyl (by omega) hr2 (by exact Has.auto) ?_
          have hn : S2.l.length - S.l.length = x.length := by omega
          rw [hn]
          generalize hzs : ys.drop S.l.length = zs at *
          have hzl : zs.length = x.length := by rw [← hyd, List.length_map]
          repeat' (first | (apply St_call (hf := f3); exact rfl; exact rfl; exact Split.auto; rintro _ _ ⟨rfl, rfl⟩) | (apply St_rd; exact rfl; (first | (apply Rd_sliceFrom tb; exact rfl; exact rfl; exact rfl; exact rfl; omega))) | (apply Sq_rd; exact rfl; (first | (apply Rd_sliceFrom tb; exact rfl; exact rfl; exact rfl; exact rfl; omega))) | (refine St_step ?_; (try with_reducible intro _)) | (refine St_step2 ?_ ?_ <;> (intro hb; (try simp only [beq_iff_eq, bne_iff_ne, decide_eq_true_eq, decide_eq_false_iff_not, Bool.not_eq_true', Bool.not_eq_false', beq_eq_false_iff_ne, bne_eq_false_iff_eq, ne_eq, Int.not_lt, Int.not_le, gt_iff_lt, ge_iff_le] at hb); (try (first | exact Bool.noConfusion hb | exact absurd trivial hb | (exfalso; omega))))) | fail)
          refine St_val (t := 74) (v' := .slice (if c2 = S.l.length then A2 else A2.map (·.add (S.l.length * 3))) x.length (c2 - S.l.length)) rfl (by rw [← hn]; rfl) ?_
          refine St_val (t := 75) (v' := nat .i64 x.length) rfl (by rw [← hn]; rfl) ?_
          generalize (if c2 = S.l.length then A2 else A2.map (·.add (S.l.length * 3))) = B at *
          refine St_loop (fun (j : Nat) => j ≤ x.length) (fun j => [(2, .pointer (some ⟨cb, 0, none⟩)), (5, .pointer (some ⟨sa, 0, none⟩)), (8, .pointer (some ⟨ab, 0, none⟩)), (36, .slice (some ⟨b1, pre1.length, none⟩) l.length k), (37, nat .i64 l.length), (38, nat .i64 i), (74, .slice B x.length (c2 - S.l.length)), (75, nat .i64 x.length), (76, nat .i64 j)]) (fun j => [SqP sa S2, cel false cb 23 (cfgC c), cel false ab 35 (av a), cel q b1 T1 (pre1 ++ l.flatMap av ++ rest1), RS true (.slice B x.length (c2 - S.l.length)) x.length (zs.flatMap rvp), ULs ys, GB, big F]) (fun j => x.length - j) 0 (Nat.zero_le _) ⟨rfl, rfl, rfl, rfl, rfl, rfl, rfl, rfl, rfl, trivial⟩ (by exact Split.auto) ?_
          intro j hj
          by_cases hjl : j < x.length
          · obtain ⟨⟨r, u⟩, hz⟩ : ∃ z, zs[j]? = some z := ⟨_, List.getElem?_eq_getElem (by omega)⟩
            have hrx : x[j]? = some r := by rw [← hyd, List.getElem?_map, hz]; rfl
            obtain ⟨ho1, ho2⟩ := hox r (List.mem_of_getElem? hrx)
            refine St_ulGet (xs := ys) (x := (r, u)) (by exact Has.auto) (List.mem_of_mem_drop (by rw [hzs]; exact List.mem_of_getElem? hz)) ?_
            refine St_rsIs (r := true) (v := u) (n := r.ups.length) (cs := r.ups.flatMap uv) (by exact Has.auto) ?_
            rintro Au cu rfl
            refine St_rsOpen (r := true) (v := .slice B x.length (c2 - S.l.length)) (n := x.length) (cs := zs.flatMap rvp) (by exact Has.auto) (by omega) ?_
            rintro b3 T3 cap3 pre3 rest3 hv3
            injection hv3 with q1 q2 q3
            subst q1 q3
            have hld3 := flat_at rvp_len zs j (r, .slice Au r.ups.length cu) pre3 rest3 hz
            change _ = rv r (.slice Au r.ups.length cu) at hld3
            have hroom3 := flat_room rvp_len zs j pre3 rest3 (by omega)
            repeat' (first | (apply St_rd; exact rfl; (first | (apply Rd_loadA tb; exact rfl; exact rfl; exact rfl; exact Has.auto; exact hroom3; exact hld3))) | (apply Sq_rd; exact rfl; (first | (apply Rd_loadA tb; exact rfl; exact rfl; exact rfl; exact Has.auto; exact hroom3; exact hld3))) | (refine St_step ?_; (try with_reducible intro _)) | (refine St_step2 ?_ ?_ <;> (intro hb; (try simp only [beq_iff_eq, bne_iff_ne, decide_eq_true_eq, decide_eq_false_iff_not, Bool.not_eq_true', Bool.not_eq_false', beq_eq_false_iff_ne, bne_eq_false_iff_eq, ne_eq, Int.not_lt, Int.not_le, gt_iff_lt, ge_iff_le] at hb); (try (first | exact Bool.noConfusion hb | exact absurd trivial hb | (exfalso; omega))))) | fail)
            all_goals first | (exfalso; omega) | skip
            all_goals (refine St_rsMk (r := true) (n := x.length) (cap := c2 - S.l.length) (pre := pre3) (cs := zs.flatMap rvp) (rest := rest3) (by exact Has.auto) ?_)
            all_goals exact St_at (j + 1) ⟨hjl, by omega⟩ ⟨rfl, rfl, rfl, rfl, rfl, rfl, rfl, rfl, rfl, trivial⟩ (by exact Split.auto)
          · repeat' (first | (refine St_step ?_; (try with_reducible intro _)) | (refine St_step2 ?_ ?_ <;> (intro hb; (try simp only [beq_iff_eq, bne_iff_ne, decide_eq_true_eq, decide_eq_false_iff_not, Bool.not_eq_true', Bool.not_eq_false', beq_eq_false_iff_ne, bne_eq_false_iff_eq, ne_eq, Int.not_lt, Int.not_le, gt_iff_lt, ge_iff_le] at hb); (try (first | exact Bool.noConfusion hb | exact absurd trivial hb | (exfalso; omega))))) | fail)
            all_goals first | (exfalso; omega) | skip
            refine St_rsMk (r := q) (n := l.length) (cap := k) (pre := pre1) (cs := l.flatMap av) (rest := rest1) (by exact Has.auto) ?_
            exact St_at (i + 1, S2) ⟨⟨hil, hI2, hc2, by show S2.l.length ≤ i + 1; omega⟩, by dsimp only; omega⟩ ⟨rfl, rfl, rfl, rfl, rfl, trivial⟩ (by exact Split.auto)
        · have k1 := sHear_in sa S a.src a.b hS (by omega) (by omega)
          obtain ⟨S2, x, hS2, hI2, hc2, hxx, hxn, hox⟩ : ∃ S2 x, S2 = sqHear S a.src a.b ∧ sqIn S2 ∧ S2.c = c ∧ S2.l = S.l ++ x ∧ x.length ≤ 1 ∧ ∀ r ∈ x, ¬ a.kind = 2 ∧ r.origin = a.src := by
            obtain ⟨h1, x, h2, h3, h4⟩ := sqHear_grows hS a.src a.b
            exact ⟨_, x, rfl, sqIn_hear hS _ _, h1.trans hSc, h2, h3, fun r hr => ⟨hk, h4 r hr⟩⟩
          have hnn : S2.l.length = S.l.length + x.length := by rw [hxx, List.length_append]
          have f2 := sLogC_sp sa S2 hI2.ok (by omega)
          rw [← hS2] at k1
          clear hS2
          generalize sqErr S a.src a.b = e8 at *
          repeat' (first | (apply St_call (hf := k1); exact rfl; exact rfl; exact Split.auto; rintro _ _ ⟨rfl, rfl⟩) | (apply St_call (hf := f1); exact rfl; exact rfl; exact Split.auto; rintro _ _ ⟨⟨A1, c1, hr1, rfl⟩, rfl⟩) | (apply St_call (hf := f2); exact rfl; exact rfl; exact Split.auto; rintro _ _ ⟨⟨A2, c2, hr2, rfl⟩, rfl⟩) | (apply St_rd; exact rfl; (first | (apply Rd_loadA tb; exact rfl; exact rfl; exact rfl; exact Has.auto; exact hroom1; exact hld1) | (apply Rd_sliceTo tb; exact rfl; exact rfl; exact rfl; exact rfl; omega))) | (apply Sq_rd; exact rfl; (first | (apply Rd_loadA tb; exact rfl; exact rfl; exact rfl; exact Has.auto; exact hroom1; exact hld1) | (apply Rd_sliceTo tb; exact rfl; exact rfl; exact rfl; exact rfl; omega))) | (refine St_step ?_; (try with_reducible intro _)) | (refine St_step2 ?_ ?_ <;> (intro hb; (try simp only [beq_iff_eq, bne_iff_ne, decide_eq_true_eq, decide_eq_false_iff_not, Bool.not_eq_true', Bool.not_eq_false', beq_eq_false_iff_ne, bne_eq_false_iff_eq, ne_eq, Int.not_lt, Int.not_le, gt_iff_lt, ge_iff_le] at hb); (try (first | exact Bool.noConfusion hb | exact absurd trivial hb | (exfalso; omega))))) | fail)
          all_goals first | (exfalso; omega) | skip
          rename_i ab _
          refine St_rdOpen (v := .slice A1 S.l.length c1) (l := S.l) (by exact Has.auto) fun xs hxs => ?_
          refine St_rdOpen (v := .slice A2 S2.l.length c2) (l := S2.l) (by exact Has.auto) fun ys hys => ?_
          have hyl : ys.length = S2.l.length := by rw [← hys, List.length_map]
          have hxl : xs.length = S.l.length := by rw [← hxs, List.length_map]
          have hyt : (ys.take S.l.length).map (·.1) = S.l := by rw [List.map_take, hys, hxx, List.take_left]
          have hyd : (ys.drop S.l.length).map (·.1) = x := by rw [List.map_drop, hys, hxx, List.drop_left]
          have f3 := sameAll_sp S.l (.slice A2 S.l.length c2) (.slice A1 S.l.length c1) (ys.take S.l.length) ys xs xs hyt hxs (fun _ h => List.mem_of_mem_take h) (fun _ h => h) (by omega) hlu
          refine St_rsCut (f := rvp) (k := 3) rvp_len (A := A2) (n := S2.l.length) (c := c2) (m := S.l.length) (xs := ys) hyl (by omega) hr2 (by exact Has.auto) ?_
          have hn : S2.l.length - S.l.length = x.length := by omega
          rw [hn]
          generalize hzs : ys.drop S.l.length = zs at *
          have hzl : zs.length = x.length := by rw [← hyd, List.length_map]
          repeat' (first | (apply St_call (hf := f3); exact rfl; exact rfl; exact Split.auto; rintro _ _ ⟨rfl, rfl⟩) | (apply St_rd; exact rfl; (first | (apply Rd_sliceFrom tb; exact rfl; exact rfl; exact rfl; exact rfl; omega))) | (apply Sq_rd; exact rfl; (first | (apply Rd_sliceFrom tb; exact rfl; exact rfl; exact rfl; exact rfl; omega))) | (refine St_step ?_; (try with_reducible intro _)) | (refine St_step2 ?_ ?_ <;> (intro hb; (try simp only [beq_iff_eq, bne_iff_ne, decide_eq_true_eq, decide_eq_false_iff_not, Bool.not_eq_true', Bool.not_eq_false', beq_eq_false_iff_ne, bne_eq_false_iff_eq, ne_eq, Int.not_lt, Int.not_le, gt_iff_lt, ge_iff_le] at hb); (try (first | exact Bool.noConfusion hb | exact absurd trivial hb | (exfalso; omega))))) | fail)
          refine St_val (t := 74) (v' := .slice (if c2 = S.l.length then A2 else A2.map (·.add (S.l.length * 3))) x.length (c2 - S.l.length)) rfl (by rw [← hn]; rfl) ?_
          refine St_val (t := 75) (v' := nat .i64 x.length) rfl (by rw [← hn]; rfl) ?_
          generalize (if c2 = S.l.length then A2 else A2.map (·.add (S.l.length * 3))) = B at *
          refine St_loop (fun (j : Nat) => j ≤ x.length) (fun j => [(2, .pointer (some ⟨cb, 0, none⟩)), (5, .pointer (some ⟨sa, 0, none⟩)), (8, .pointer (some ⟨ab, 0, none⟩)), (36, .slice (some ⟨b1, pre1.length, none⟩) l.length k), (37, nat .i64 l.length), (38, nat .i64 i), (74, .slice B x.length (c2 - S.l.length)), (75, nat .i64 x.length), (76, nat .i64 j)]) (fun j => [SqP sa S2, cel false cb 23 (cfgC c), cel false ab 35 (av a), cel q b1 T1 (pre1 ++ l.flatMap av ++ rest1), RS true (.slice B x.length (c2 - S.l.length)) x.length (zs.flatMap rvp), ULs ys, GB, big F]) (fun j => x.length - j) 0 (Nat.zero_le _) ⟨rfl, rfl, rfl, rfl, rfl, rfl, rfl, rfl, rfl, trivial⟩ (by exact Split.auto) ?_
          intro j hj
          by_cases hjl : j < x.length
          · obtain ⟨⟨r, u⟩, hz⟩ : ∃ z, zs[j]? = some z := ⟨_, List.getElem?_eq_getElem (by omega)⟩
            have hrx : x[j]? = some r := by rw [← hyd, List.getElem?_map, hz]; rfl
            obtain ⟨ho1, ho2⟩ := hox r (List.mem_of_getElem? hrx)
            refine St_ulGet (xs := ys) (x := (r, u)) (by exact Has.auto) (List.mem_of_mem_drop (by rw [hzs]; exact List.mem_of_getElem? hz)) ?_
            refine St_rsIs (r := true) (v := u) (n := r.ups.length) (cs := r.ups.flatMap uv) (by exact Has.auto) ?_
            rintro Au cu rfl
            refine St_rsOpen (r := true) (v := .slice B x.length (c2 - S.l.length)) (n := x.length) (cs := zs.flatMap rvp) (by exact Has.auto) (by omega) ?_
            rintro b3 T3 cap3 pre3 rest3 hv3
            injection hv3 with q1 q2 q3
            subst q1 q3
            have hld3 := flat_at rvp_len zs j (r, .slice Au r.ups.length cu) pre3 rest3 hz
            change _ = rv r (.slice Au r.ups.length cu) at hld3
            have hroom3 := flat_room rvp_len zs j pre3 rest3 (by omega)
            repeat' (first | (apply St_rd; exact rfl; (first | (apply Rd_loadA tb; exact rfl; exact rfl; exact rfl; exact Has.auto; exact hroom3; exact hld3))) | (apply Sq_rd; exact rfl; (first | (apply Rd_loadA tb; exact rfl; exact rfl; exact rfl; exact Has.auto; exact hroom3; exact hld3))) | (refine St_step ?_; (try with_reducible intro _)) | (refine St_step2 ?_ ?_ <;> (intro hb; (try simp only [beq_iff_eq, bne_iff_ne, decide_eq_true_eq, decide_eq_false_iff_not, Bool.not_eq_true', Bool.not_eq_false', beq_eq_false_iff_ne, bne_eq_false_iff_eq, ne_eq, Int.not_lt, Int.not_le, gt_iff_lt, ge_iff_le] at hb); (try (first | exact Bool.noConfusion hb | exact absurd trivial hb | (exfalso; omega))))) | fail)
            all_goals first | (exfalso; omega) | skip
            all_goals (refine St_rsMk (r := true) (n := x.length) (cap := c2 - S.l.length) (pre := pre3) (cs := zs.flatMap rvp) (rest := rest3) (by exact Has.auto) ?_)
            all_goals exact St_at (j + 1) ⟨hjl, by omega⟩ ⟨rfl, rfl, rfl, rfl, rfl, rfl, rfl, rfl, rfl, trivial⟩ (by exact Split.auto)
          · repeat' (first | (refine St_step ?_; (try with_reducible intro _)) | (refine St_step2 ?_ ?_ <;> (intro hb; (try simp only [beq_iff_eq, bne_iff_ne, decide_eq_true_eq, decide_eq_false_iff_not, Bool.not_eq_true', Bool.not_eq_false', beq_eq_false_iff_ne, bne_eq_false_iff_eq, ne_eq, Int.not_lt, Int.not_le, gt_iff_lt, ge_iff_le] at hb); (try (first | exact Bool.noConfusion hb | exact absurd trivial hb | (exfalso; omega))))) | fail)
            all_goals first | (exfalso; omega) | skip
            refine St_rsMk (r := q) (n := l.length) (cap := k) (pre := pre1) (cs := l.flatMap av) (rest := rest1) (by exact Has.auto) ?_
            exact St_at (i + 1, S2) ⟨⟨hil, hI2, hc2, by show S2.l.length ≤ i + 1; omega⟩, by dsimp only; omega⟩ ⟨rfl, rfl, rfl, rfl, rfl, trivial⟩ (by exact Split.auto)
      · have hii : i = l.length := by omega
        subst hii
        have f1 := sLogC_sp sa S hS.ok (by omega)
        repeat' (first | (apply St_call (hf := f1); exact rfl; exact rfl; exact Split.auto; rintro _ _ ⟨⟨A1, c1, hr1, rfl⟩, rfl⟩) | (apply St_makeMap; exact rfl; intro mb) | (refine St_step ?_; (try with_reducible intro _)) | (refine St_step2 ?_ ?_ <;> (intro hb; (try simp only [beq_iff_eq, bne_iff_ne, decide_eq_true_eq, decide_eq_false_iff_not, Bool.not_eq_true', Bool.not_eq_false', beq_eq_false_iff_ne, bne_eq_false_iff_eq, ne_eq, Int.not_lt, Int.not_le, gt_iff_lt, ge_iff_le] at hb); (try (first | exact Bool.noConfusion hb | exact absurd trivial hb | (exfalso; omega))))) | fail)
        all_goals first | (exfalso; omega) | skip
        refine St_rdOpen (v := .slice A1 S.l.length c1) (l := S.l) (by exact Has.auto) fun xs hxs => ?_
        have hxl : xs.length = S.l.length := by rw [← hxs, List.length_map]
        refine St_loop (fun (y : Nat × List (Int × Value)) => y.1 ≤ S.l.length ∧ ∀ o, (aget y.2 o).getD (.int .i64 0) = .int .i64 (lastOf (S.l.take y.1) o)) (fun y => [(2, .pointer (some ⟨cb, 0, none⟩)), (13, .map (some mb)), (94, .slice A1 S.l.length c1), (95, nat .i64 S.l.length), (96, nat .i64 y.1)]) (fun y => [MP mb y.2, cel false cb 23 (cfgC c), RS true (.slice A1 S.l.length c1) S.l.length (xs.flatMap rvp), ULs xs, RS q (.slice A l.length k) l.length (l.flatMap av), GB, big F]) (fun y => S.l.length - y.1) (0, []) ⟨Nat.zero_le _, fun o => rfl⟩ ⟨rfl, rfl, rfl, rfl, rfl, trivial⟩ (by exact Split.auto) ?_
        rintro ⟨j, m⟩ ⟨hj, hm⟩
        have hj : j ≤ S.l.length := hj
        have hm : ∀ o, (aget m o).getD (.int .i64 0) = .int .i64 (lastOf (S.l.take j) o) := hm
        dsimp only
        by_cases hjl : j < S.l.length
        · obtain ⟨⟨r, u⟩, hz⟩ : ∃ z, xs[j]? = some z := ⟨_, List.getElem?_eq_getElem (by omega)⟩
          have hrx : S.l[j]? = some r := by rw [← hxs, List.getElem?_map, hz]; rfl
          obtain ⟨z1, z2, z3, z4, z5⟩ := ro_in hS.ok.l hrx
          have hlt := lastOf_take hS.ok.l hrx
          rw [hSc] at z2
          obtain ⟨n, hn⟩ : ∃ n, n = lastOf (S.l.take j) r.origin := ⟨_, rfl⟩
          rw [← hn] at z5
          have hm1 : (aget m r.origin).getD (.int .i64 0) = .int .i64 n := by rw [hm, hn]
          have hm2 : (aget (aset m r.origin (.int .i64 ((n : Int) + 1))) r.origin).getD (.int .i64 0) = .int .i64 ((n : Int) + 1) := by rw [aget_set, if_pos rfl]; rfl
          have hz0 : ∀ w : World, (zeroValue 3).run Tryz.prog w = .ok (.int .i64 0) w := fun w => rfl
          refine St_ulGet (xs := xs) (x := (r, u)) (by exact Has.auto) (List.mem_of_getElem? hz) ?_
          refine St_rsIs (r := true) (v := u) (n := r.ups.length) (cs := r.ups.flatMap uv) (by exact Has.auto) ?_
          rintro Au cu rfl
          refine St_rsOpen (r := true) (v := .slice A1 S.l.length c1) (n := S.l.length) (cs := xs.flatMap rvp) (by exact Has.auto) (by omega) ?_
          rintro b3 T3 cap3 pre3 rest3 hv3
          injection hv3 with q1 q2 q3
          subst q1 q3
          have hld3 := flat_at rvp_len xs j (r, .slice Au r.ups.length cu) pre3 rest3 hz
          change _ = rv r (.slice Au r.ups.length cu) at hld3
          have hroom3 := flat_room rvp_len xs j pre3 rest3 (by omega)
          repeat' (first | (apply St_mapSet tb; exact rfl; exact rfl; exact rfl; exact rfl; exact rfl; exact Has.auto) | (apply St_rd; exact rfl; (first | (apply Rd_loadA tb; exact rfl; exact rfl; exact rfl; exact Has.auto; exact hroom3; exact hld3) | (apply Rd_mapGet tb; exact rfl; exact rfl; exact rfl; exact rfl; exact hz0; exact Has.auto; first | exact hm1 | exact hm2))) | (apply Sq_rd; exact rfl; (first | (apply Rd_loadA tb; exact rfl; exact rfl; exact rfl; exact Has.auto; exact hroom3; exact hld3) | (apply Rd_mapGet tb; exact rfl; exact rfl; exact rfl; exact rfl; exact hz0; exact Has.auto; first | exact hm1 | exact hm2))) | (refine St_step ?_; (try with_reducible intro _)) | (refine St_step2 ?_ ?_ <;> (intro hb; (try simp only [beq_iff_eq, bne_iff_ne, decide_eq_true_eq, decide_eq_false_iff_not, Bool.not_eq_true', Bool.not_eq_false', beq_eq_false_iff_ne, bne_eq_false_iff_eq, ne_eq, Int.not_lt, Int.not_le, gt_iff_lt, ge_iff_le] at hb); (try (first | exact Bool.noConfusion hb | exact absurd trivial hb | (exfalso; omega))))) | fail)
          all_goals first | (exfalso; omega) | skip
          refine St_rsMk (r := true) (n := S.l.length) (cap := c1) (pre := pre3) (cs := xs.flatMap rvp) (rest := rest3) (by exact Has.auto) ?_
          refine St_at (j + 1, aset m r.origin (.int .i64 ((n : Int) + 1))) ⟨⟨hjl, fun o => ?_⟩, by dsimp only; omega⟩ ⟨rfl, rfl, rfl, rfl, rfl, trivial⟩ (by exact Split.auto)
          dsimp only
          rw [aget_set, hlt o, ← hn]
          by_cases ho : o = r.origin
          · rw [if_pos ho, if_pos ho]; rfl
          · rw [if_neg ho, if_neg ho]; exact hm o
        · repeat' (first | (refine St_step ?_; (try with_reducible intro _)) | (refine St_step2 ?_ ?_ <;> (intro hb; (try simp only [beq_iff_eq, bne_iff_ne, decide_eq_true_eq, decide_eq_false_iff_not, Bool.not_eq_true', Bool.not_eq_false', beq_eq_false_iff_ne, bne_eq_false_iff_eq, ne_eq, Int.not_lt, Int.not_le, gt_iff_lt, ge_iff_le] at hb); (try (first | exact Bool.noConfusion hb | exact absurd trivial hb | (exfalso; omega))))) | fail)
          all_goals first | (exfalso; omega) | (first | contradiction | (exfalso; omega) | (exact St_ret1 (.inl rfl) rfl rfl ⟨rfl, rfl⟩ (by exact Split.auto)) | (exact St_ret2 (.inl rfl) rfl rfl rfl ⟨rfl, rfl⟩ (by exact Split.auto)) | (exact St_ret3 (.inl rfl) rfl rfl rfl rfl ⟨rfl, rfl⟩ (by exact Split.auto)))
    · rw [decide_eq_false hc] at m1
      repeat' (first | (apply St_regionQ; kernel_rfl; kernel_rfl) | (apply St_call (hf := awake_sp); exact rfl; exact rfl; exact Split.auto; rintro _ _ ⟨rfl, rfl⟩) | (apply St_call (hf := g1); exact rfl; exact rfl; exact Split.auto; rintro _ _ ⟨rfl, rfl⟩) | (apply St_call (hf := m1); exact rfl; exact rfl; exact Split.auto; rintro _ _ ⟨rfl, rfl⟩) | (refine St_step ?_; (try with_reducible intro _)) | (refine St_step2 ?_ ?_ <;> (intro hb; (try simp only [beq_iff_eq, bne_iff_ne, decide_eq_true_eq, decide_eq_false_iff_not, Bool.not_eq_true', Bool.not_eq_false', beq_eq_false_iff_ne, bne_eq_false_iff_eq, ne_eq, Int.not_lt, Int.not_le, gt_iff_lt, ge_iff_le] at hb); (try (first | exact Bool.noConfusion hb | exact absurd trivial hb | (exfalso; omega))))) | fail)
      all_goals (first | contradiction | (exfalso; omega) | (exact St_ret1 (.inl rfl) rfl rfl ⟨rfl, rfl⟩ (by exact Split.auto)) | (exact St_ret2 (.inl rfl) rfl rfl rfl ⟨rfl, rfl⟩ (by exact Split.auto)) | (exact St_ret3 (.inl rfl) rfl rfl rfl rfl ⟨rfl, rfl⟩ (by exact Split.auto)))
end Go.Proofs.YtfjnacakpeommaaGreatDoor
