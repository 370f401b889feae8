/- The contract of the law. -/
import Derived.Test.YtfjnacakpeommaaDoorM5
/- Contracts: chapbooklaw16.SequencerPackets. -/
namespace Go.Proofs.YtfjnacakpeommaaDoor
open Go SL Pl
set_option autoImplicit false
set_option maxRecDepth 100000
set_option linter.unusedSimpArgs false
set_option linter.unusedVariables false
attribute [local irreducible] St Sq Exec QExec wpList wpQuiet Code.wp Exit.then Exit.inBlock bodyPost At Rd wpOp Wa QK GB
def toWho (d : Int) (l : List Pk) : Nat := l.countP fun p => decide (p.dst = d)
theorem toWho_app (d : Int) (l m : List Pk) : toWho d (l ++ m) = toWho d l + toWho d m := List.countP_append
theorem toWho_len (d : Int) (l : List Pk) : toWho d l ≤ l.length := List.countP_le_length
theorem toWho_none {d : Int} {l : List Pk} (h : ∀ p ∈ l, ¬ p.dst = d) : toWho d l = 0 := by
  unfold toWho
  rw [List.countP_eq_zero]
  intro p hp
  simpa using h p hp
structure pkOk (c : Cfg) (n : Nat) (p : Pk) : Prop where
  s : p.src = 0
  d : 1 ≤ p.dst ∧ p.dst ≤ n
  g : (fget p.b).2 = 0
  m : (p.b.length : Int) ≤ c.mtu
theorem puts_mem {fs : List Fr} {a b m : Int} {p : Pk} (h : p ∈ puts fs a b m) : p.src = a ∧ p.dst = b ∧ (fget p.b).2 = 0 ∧ (p.b.length : Int) ≤ m := by
  unfold puts at h
  obtain ⟨f, _, h2⟩ := List.mem_filterMap.1 h
  split at h2
  · rename_i h3
    cases h2
    obtain ⟨g1, _, _, _, g2, _⟩ := fget_fput (f := f) (mtu := m) (b := (fput f m).1) (by rw [← h3])
    exact ⟨rfl, rfl, by rw [g1], g2⟩
  · cases h2
theorem pksTo_ok {s : Sqr} (hs : sqIn s) : ∀ i, i ≤ s.ks.length → (∀ p ∈ pksTo s i, pkOk s.c i p) ∧ ∀ d, toWho d (pksTo s i) ≤ s.c.window.toNat
  | 0, _ => ⟨fun p hp => by simp [pksTo] at hp, fun d => by simp [pksTo, toWho]⟩
  | i + 1, h => by
    obtain ⟨k, hk⟩ : ∃ k, s.ks[i]? = some k := ⟨_, List.getElem?_eq_getElem (by omega)⟩
    obtain ⟨h1, h2⟩ := pksTo_ok hs i (by omega)
    have h3 := tickPks_len hs (List.mem_of_getElem? hk) i
    have h4 : ∀ p ∈ tickPks s i k, p.src = 0 ∧ p.dst = (i : Int) + 1 ∧ (fget p.b).2 = 0 ∧ (p.b.length : Int) ≤ s.c.mtu := fun p hp => puts_mem hp
    rw [pksTo_succ hk]
    refine ⟨fun p hp => ?_, fun d => ?_⟩
    · rcases List.mem_append.1 hp with q | q
      · obtain ⟨a1, a2, a3, a4⟩ := h1 p q
        exact ⟨a1, by omega, a3, a4⟩
      · obtain ⟨a1, a2, a3, a4⟩ := h4 p q
        exact ⟨a1, by omega, a3, a4⟩
    · rw [toWho_app]
      by_cases hd : d = (i : Int) + 1
      · have e : toWho d (pksTo s i) = 0 := toWho_none fun p hp => by have := (h1 p hp).d; omega
        have := toWho_len d (tickPks s i k)
        omega
      · have e : toWho d (tickPks s i k) = 0 := toWho_none fun p hp => by have := (h4 p hp).2.1; omega
        have := h2 d
        omega
theorem sqPks_ok {s : Sqr} (hs : sqIn s) : (∀ p ∈ sqPks s, pkOk s.c s.c.clients.toNat p) ∧ ∀ d, toWho d (sqPks s) ≤ s.c.window.toNat := by
  have h := pksTo_ok hs s.ks.length (Nat.le_refl _)
  rw [pksTo_all, hs.ok.n] at h
  exact h
theorem toWho_take (d : Int) (l : List Pk) (j : Nat) : toWho d (l.take j) ≤ toWho d l := List.Sublist.countP_le (List.take_sublist j l)
theorem toWho_succ {l : List Pk} {j : Nat} {p : Pk} (h : l[j]? = some p) (d : Int) : (toWho d (l.take (j + 1)) : Int) = if d = p.dst then (toWho d (l.take j) : Int) + 1 else toWho d (l.take j) := by
  have e : l.take (j + 1) = l.take j ++ [p] := by rw [List.take_add_one, h]; rfl
  rw [e, toWho_app]
  by_cases hd : d = p.dst
  · rw [if_pos hd]; subst hd; simp [toWho]
  · rw [if_neg hd]
    have : toWho d [p] = 0 := toWho_none fun q hq => by rw [List.mem_singleton.1 hq]; exact fun h => hd h.symm
    rw [this]; rfl
theorem sqUn_le {s : Sqr} (hs : sqIn s) (n : Int) : sqUn s n ≤ s.c.window.toNat := by
  unfold sqUn
  split
  · exact Nat.zero_le _
  · split
    · rename_i k hk
      have h1 := (hs.ok.ks k (List.mem_of_getElem? hk)).1.sd.l
      have h2 := (hs.ps k (List.mem_of_getElem? hk)).s
      omega
    · exact Nat.zero_le _
attribute [local irreducible] LkP LgP SqP PeP SdP RcP RdP
set_option maxHeartbeats 4000000 in
theorem sequencerPackets_sp (q : Bool) (c : Cfg) (l : List Ac) (v : Value) : Sp Tryd.prog 4 [.agg (cfgC c).toArray, v] [RS q v l.length (l.flatMap av), GB]
    (fun w M => w = .bool true ∧ M = [RS q v l.length (l.flatMap av), GB]) := by
  refine Sp.intro (P := Tryd.prog) (Tryd.func4) rfl Tryd.ntmps4 (by decide) rfl ?_
  intro ρ F
  refine St_rsIs (r := q) (v := v) (n := l.length) (cs := l.flatMap av) (by exact Has.auto) ?_
  rintro A k rfl
  have g1 := great16_sp q c l (.slice A l.length k)
  have m1 := may16_sp c
  cases hg : acGreat c l with
  | true =>
    rw [hg] at g1
    repeat' (first | (apply St_regionQ; kernel_rfl; kernel_rfl) | (apply St_call (hf := awake_sp); exact rfl; exact rfl; exact Split.auto; rintro _ _ ⟨rfl, rfl⟩) | (apply St_call (hf := g1); exact rfl; exact rfl; exact Split.auto; rintro _ _ ⟨rfl, rfl⟩) | (refine St_step ?_; (try with_reducible intro _)) | (refine St_step2 ?_ ?_ <;> (intro hb; (try simp only [beq_iff_eq, bne_iff_ne, decide_eq_true_eq, decide_eq_false_iff_not, Bool.not_eq_true', Bool.not_eq_false', beq_eq_false_iff_ne, bne_eq_false_iff_eq, ne_eq, Int.not_lt, Int.not_le, gt_iff_lt, ge_iff_le] at hb); (try (first | exact Bool.noConfusion hb | exact absurd trivial hb | (exfalso; omega))))) | fail)
    all_goals (first | contradiction | (exfalso; omega) | (exact St_ret1 (.inl rfl) rfl rfl ⟨rfl, rfl⟩ (by exact Split.auto)) | (exact St_ret2 (.inl rfl) rfl rfl rfl ⟨rfl, rfl⟩ (by exact Split.auto)) | (exact St_ret3 (.inl rfl) rfl rfl rfl rfl ⟨rfl, rfl⟩ (by exact Split.auto)))
  | false =>
    rw [hg] at g1
    obtain ⟨hl60, hc4, hb4⟩ := acGreat_no hg
    by_cases hc : cfgOk c
    · rw [decide_eq_true hc] at m1
      have n1 := sNewOk_sp hc
      obtain ⟨⟨hcl1, hcl2⟩, ⟨hcw1, hcw2⟩, _⟩ := id hc
      repeat' (first | (apply St_regionQ; kernel_rfl; kernel_rfl) | (apply St_call (hf := awake_sp); exact rfl; exact rfl; exact Split.auto; rintro _ _ ⟨rfl, rfl⟩) | (apply St_call (hf := g1); exact rfl; exact rfl; exact Split.auto; rintro _ _ ⟨rfl, rfl⟩) | (apply St_call (hf := m1); exact rfl; exact rfl; exact Split.auto; rintro _ _ ⟨rfl, rfl⟩) | (apply St_call (hf := n1); exact rfl; exact rfl; exact Split.auto; rintro _ _ ⟨sa, rfl, rfl⟩) | (apply St_rd; exact rfl; (first | (apply Rd_ptrEqNil' tb; exact rfl; exact rfl; exact rfl))) | (apply Sq_rd; exact rfl; (first | (apply Rd_ptrEqNil' tb; exact rfl; exact rfl; exact rfl))) | (refine St_step ?_; (try with_reducible intro _)) | (refine St_step2 ?_ ?_ <;> (intro hb; (try simp only [beq_iff_eq, bne_iff_ne, decide_eq_true_eq, decide_eq_false_iff_not, Bool.not_eq_true', Bool.not_eq_false', beq_eq_false_iff_ne, bne_eq_false_iff_eq, ne_eq, Int.not_lt, Int.not_le, gt_iff_lt, ge_iff_le] at hb); (try (first | exact Bool.noConfusion hb | exact absurd trivial hb | (exfalso; omega))))) | fail)
      all_goals first | (exfalso; omega) | skip
      rename_i cb
      refine St_loop (fun (y : Nat × Sqr) => y.1 ≤ l.length ∧ sqIn y.2 ∧ y.2.c = c ∧ y.2.l.length ≤ y.1) (fun y => [(2, .pointer (some ⟨cb, 0, none⟩)), (5, .pointer (some ⟨sa, 0, none⟩)), (35, .slice A l.length k), (36, nat .i64 l.length), (37, nat .i64 y.1)]) (fun y => [SqP sa y.2, cel false cb 23 (cfgC c), RS q (.slice A l.length k) l.length (l.flatMap av), GB, big F]) (fun y => l.length - y.1) (0, sqNew c) ⟨Nat.zero_le _, sqIn_new hc, rfl, Nat.le_refl _⟩ ⟨rfl, rfl, rfl, rfl, rfl, trivial⟩ (by exact Split.auto) ?_
      rintro ⟨i, S⟩ ⟨hi, hS, hSc, hSl⟩
      have hi : i ≤ l.length := hi
      have hSl : S.l.length ≤ i := hSl
      have hSc : S.c = c := hSc
      have hS : sqIn S := hS
      dsimp only
      by_cases hil : i < l.length
      · obtain ⟨a, ha⟩ : ∃ a, l[i]? = some a := ⟨_, List.getElem?_eq_getElem hil⟩
        have hab := hb4 a (List.mem_of_getElem? ha)
        refine St_rsOpen (r := q) (v := .slice A l.length k) (n := l.length) (cs := l.flatMap av) (by exact Has.auto) (by omega) ?_
        rintro b1 T1 cap1 pre1 rest1 hv1
        injection hv1 with p1 p2 p3
        subst p1 p3
        have hld1 := flat_at av_len l i a pre1 rest1 ha
        have hroom1 := flat_room av_len l i pre1 rest1 hil
        by_cases hk : a.kind = 2
        · have k1 := sTick_in sa S hS (by omega)
          obtain ⟨hok, hwin⟩ := sqPks_ok hS
          have hI2 := sqIn_tick hS
          have hc2 : (sqTick S).c = c := hSc
          have hl2 : (sqTick S).l.length ≤ i + 1 := by show S.l.length ≤ i + 1; omega
          have hun := sqUn_le hI2
          rw [hSc] at hok hwin
          rw [hc2] at hun
          have hpl := sqPks_len hS
          generalize sqPks S = ks at *
          generalize sqTick S = S2 at *
          have hz0 : ∀ w : World, (zeroValue 3).run Tryd.prog w = .ok (.int .i64 0) w := fun w => rfl
          repeat' (first | (apply St_call (hf := k1); exact rfl; exact rfl; exact Split.auto; rintro _ _ ⟨⟨A9, c9, rfl⟩, rfl⟩) | (apply St_makeMap; exact rfl; intro mb) | (apply St_rd; exact rfl; (first | (apply Rd_loadA tb; exact rfl; exact rfl; exact rfl; exact Has.auto; exact hroom1; exact hld1))) | (apply Sq_rd; exact rfl; (first | (apply Rd_loadA tb; exact rfl; exact rfl; exact rfl; exact Has.auto; exact hroom1; exact hld1))) | (refine St_step ?_; (try with_reducible intro _)) | (refine St_step2 ?_ ?_ <;> (intro hb; (try simp only [beq_iff_eq, bne_iff_ne, decide_eq_true_eq, decide_eq_false_iff_not, Bool.not_eq_true', Bool.not_eq_false', beq_eq_false_iff_ne, bne_eq_false_iff_eq, ne_eq, Int.not_lt, Int.not_le, gt_iff_lt, ge_iff_le] at hb); (try (first | exact Bool.noConfusion hb | exact absurd trivial hb | (exfalso; omega))))) | fail)
          all_goals first | (exfalso; omega) | skip
          refine St_loop (fun (y : Nat × List (Int × Value)) => y.1 ≤ ks.length ∧ ∀ d, (aget y.2 d).getD (.int .i64 0) = .int .i64 (toWho d (ks.take y.1))) (fun y => [(2, .pointer (some ⟨cb, 0, none⟩)), (5, .pointer (some ⟨sa, 0, none⟩)), (9, .map (some mb)), (35, .slice (some ⟨b1, pre1.length, none⟩) l.length k), (36, nat .i64 l.length), (37, nat .i64 i), (52, .slice A9 ks.length c9), (53, nat .i64 ks.length), (54, nat .i64 y.1)]) (fun y => [MP mb y.2, SqP sa S2, cel false cb 23 (cfgC c), RS true (.slice A9 ks.length c9) ks.length (ks.flatMap kv), cel q b1 T1 (pre1 ++ l.flatMap av ++ rest1), GB, big F]) (fun y => ks.length - y.1) (0, []) ⟨Nat.zero_le _, fun d => rfl⟩ ⟨rfl, rfl, rfl, rfl, rfl, rfl, rfl, rfl, rfl, trivial⟩ (by exact Split.auto) ?_
          rintro ⟨j, m⟩ ⟨hj, hm⟩
          have hj : j ≤ ks.length := hj
          have hm : ∀ d, (aget m d).getD (.int .i64 0) = .int .i64 (toWho d (ks.take j)) := hm
          dsimp only
          by_cases hjl : j < ks.length
          · obtain ⟨p, hp⟩ : ∃ p, ks[j]? = some p := ⟨_, List.getElem?_eq_getElem hjl⟩
            obtain ⟨o1, ⟨o2, o3⟩, o4, o5⟩ := hok p (List.mem_of_getElem? hp)
            have hsu := toWho_succ hp
            have hw1 := toWho_take p.dst ks (j + 1)
            have hw2 := hwin p.dst
            have hw3 := hsu p.dst
            rw [if_pos rfl] at hw3
            obtain ⟨n, hn⟩ : ∃ n, n = toWho p.dst (ks.take j) := ⟨_, rfl⟩
            rw [← hn] at hw3
            have hm1 : (aget m p.dst).getD (.int .i64 0) = .int .i64 n := by rw [hm, hn]
            have hm2 : (aget (aset m p.dst (.int .i64 ((n : Int) + 1))) p.dst).getD (.int .i64 0) = .int .i64 ((n : Int) + 1) := by rw [aget_set, if_pos rfl]; rfl
            obtain ⟨w1, w2⟩ := cfg_win hc
            have hmtu : c.mtu ≤ 1400 := hc.2.2.2.2.1.2
            have hg := fget_sp p.b (by omega)
            rw [o4] at hg
            generalize (fget p.b).1 = f at *
            refine St_rsOpen (r := true) (v := .slice A9 ks.length c9) (n := ks.length) (cs := ks.flatMap kv) (by exact Has.auto) (by omega) ?_
            rintro b3 T3 cap3 pre3 rest3 hv3
            injection hv3 with q1 q2 q3
            subst q1 q3
            have hld3 := flat_at kv_len ks j p pre3 rest3 hp
            have hroom3 := flat_room kv_len ks j pre3 rest3 (by omega)
            repeat' (first | (apply St_call (hf := hg); exact rfl; exact rfl; exact Split.auto; rintro _ _ ⟨rfl, rfl⟩) | (apply St_mapSet tb; exact rfl; exact rfl; exact rfl; exact rfl; exact rfl; exact Has.auto) | (apply St_rd; exact rfl; (first | (apply Rd_loadA tb; exact rfl; exact rfl; exact rfl; exact Has.auto; exact hroom3; exact hld3) | (apply Rd_mapGet tb; exact rfl; exact rfl; exact rfl; exact rfl; exact hz0; exact Has.auto; first | exact hm1 | exact hm2))) | (apply Sq_rd; exact rfl; (first | (apply Rd_loadA tb; exact rfl; exact rfl; exact rfl; exact Has.auto; exact hroom3; exact hld3) | (apply Rd_mapGet tb; exact rfl; exact rfl; exact rfl; exact rfl; exact hz0; exact Has.auto; first | exact hm1 | exact hm2))) | (refine St_step ?_; (try with_reducible intro _)) | (refine St_step2 ?_ ?_ <;> (intro hb; (try simp only [beq_iff_eq, bne_iff_ne, decide_eq_true_eq, decide_eq_false_iff_not, Bool.not_eq_true', Bool.not_eq_false', beq_eq_false_iff_ne, bne_eq_false_iff_eq, ne_eq, Int.not_lt, Int.not_le, gt_iff_lt, ge_iff_le] at hb); (try (first | exact Bool.noConfusion hb | exact absurd trivial hb | (exfalso; omega))))) | fail)
            all_goals first | (exfalso; omega) | skip
            refine St_rsMk (r := true) (n := ks.length) (cap := c9) (pre := pre3) (cs := ks.flatMap kv) (rest := rest3) (by exact Has.auto) ?_
            refine St_at (j + 1, aset m p.dst (.int .i64 ((n : Int) + 1))) ⟨⟨hjl, fun o => ?_⟩, by dsimp only; omega⟩ ⟨rfl, rfl, rfl, rfl, rfl, rfl, rfl, rfl, rfl, trivial⟩ (by exact Split.auto)
            dsimp only
            rw [aget_set, hsu o]
            by_cases ho : o = p.dst
            · rw [if_pos ho, if_pos ho, ho, hn]; rfl
            · rw [if_neg ho, if_neg ho]; exact hm o
          · repeat' (first | (refine St_step ?_; (try with_reducible intro _)) | (refine St_step2 ?_ ?_ <;> (intro hb; (try simp only [beq_iff_eq, bne_iff_ne, decide_eq_true_eq, decide_eq_false_iff_not, Bool.not_eq_true', Bool.not_eq_false', beq_eq_false_iff_ne, bne_eq_false_iff_eq, ne_eq, Int.not_lt, Int.not_le, gt_iff_lt, ge_iff_le] at hb); (try (first | exact Bool.noConfusion hb | exact absurd trivial hb | (exfalso; omega))))) | fail)
            all_goals first | (exfalso; omega) | skip
            refine St_loop (fun (j : Nat) => (j : Int) ≤ c.clients) (fun j => [(2, .pointer (some ⟨cb, 0, none⟩)), (5, .pointer (some ⟨sa, 0, none⟩)), (35, .slice (some ⟨b1, pre1.length, none⟩) l.length k), (36, nat .i64 l.length), (37, nat .i64 i), (107, .int .i64 c.clients), (108, nat .i64 j)]) (fun j => [SqP sa S2, cel false cb 23 (cfgC c), cel q b1 T1 (pre1 ++ l.flatMap av ++ rest1), GB, big F]) (fun j => c.clients.toNat - j) 0 (by show ((0 : Nat) : Int) ≤ _; omega) ⟨rfl, rfl, rfl, rfl, rfl, rfl, rfl, trivial⟩ (by exact Split.auto) ?_
            intro r hr
            by_cases hrl : (r : Int) < c.clients
            · have u1 := sUn_sp sa S2 ((r : Int) + 1) hI2.ok
              have hle := hun ((r : Int) + 1)
              generalize sqUn S2 ((r : Int) + 1) = un at *
              repeat' (first | (apply St_regionA (1000) ([cel false cb 23 (cfgC c)]); kernel_rfl; (apply Sa_take 0; exact rfl; kernel_rfl; exact PanicOk.auto; exact rfl; (first | exact Rd_auto)); (apply Sa_take 1; exact rfl; kernel_rfl; exact PanicOk.auto; exact rfl; (first | exact Rd_auto)); (apply Sa_take 2; exact rfl; kernel_rfl; exact PanicOk.auto; exact rfl; (first | exact Rd_auto)); (apply Sa_take 4; exact rfl; kernel_rfl; exact PanicOk.auto; exact rfl; (first | exact Rd_auto)); (apply Sa_take 5; exact rfl; kernel_rfl; exact PanicOk.auto; exact rfl; (first | exact Rd_auto)); (apply Sa_one (i := 3); kernel_rfl; exact .inr (by exact Split.auto)); (apply Sa_op; exact rfl; exact rfl); (first | (apply St_call (hf := u1); exact rfl; exact rfl; exact Split.auto; rintro _ _ ⟨rfl, rfl⟩) | (refine St_step ?_; (try with_reducible intro _)) | (refine St_step2 ?_ ?_ <;> (intro hb; (try simp only [beq_iff_eq, bne_iff_ne, decide_eq_true_eq, decide_eq_false_iff_not, Bool.not_eq_true', Bool.not_eq_false', beq_eq_false_iff_ne, bne_eq_false_iff_eq, ne_eq, Int.not_lt, Int.not_le, gt_iff_lt, ge_iff_le] at hb); (try (first | exact Bool.noConfusion hb | exact absurd trivial hb | (exfalso; omega))))) | fail); (apply Sa_take 6; exact rfl; kernel_rfl; exact PanicOk.auto; exact rfl; (first | exact Rd_auto)); (apply Sa_done; kernel_rfl; exact .inr (by exact Split.auto))) | (refine St_step ?_; (try with_reducible intro _)) | (refine St_step2 ?_ ?_ <;> (intro hb; (try simp only [beq_iff_eq, bne_iff_ne, decide_eq_true_eq, decide_eq_false_iff_not, Bool.not_eq_true', Bool.not_eq_false', beq_eq_false_iff_ne, bne_eq_false_iff_eq, ne_eq, Int.not_lt, Int.not_le, gt_iff_lt, ge_iff_le] at hb); (try (first | exact Bool.noConfusion hb | exact absurd trivial hb | (exfalso; omega))))) | fail)
              all_goals first | (exfalso; omega) | skip
              exact St_at (r + 1) ⟨by show ((r + 1 : Nat) : Int) ≤ _; omega, by omega⟩ ⟨rfl, rfl, rfl, rfl, rfl, rfl, rfl, trivial⟩ (by exact Split.auto)
            · repeat' (first | (refine St_step ?_; (try with_reducible intro _)) | (refine St_step2 ?_ ?_ <;> (intro hb; (try simp only [beq_iff_eq, bne_iff_ne, decide_eq_true_eq, decide_eq_false_iff_not, Bool.not_eq_true', Bool.not_eq_false', beq_eq_false_iff_ne, bne_eq_false_iff_eq, ne_eq, Int.not_lt, Int.not_le, gt_iff_lt, ge_iff_le] at hb); (try (first | exact Bool.noConfusion hb | exact absurd trivial hb | (exfalso; omega))))) | fail)
              all_goals first | (exfalso; omega) | skip
              refine St_rsMk (r := q) (n := l.length) (cap := k) (pre := pre1) (cs := l.flatMap av) (rest := rest1) (by exact Has.auto) ?_
              exact St_at (i + 1, S2) ⟨⟨hil, hI2, hc2, hl2⟩, by dsimp only; omega⟩ ⟨rfl, rfl, rfl, rfl, rfl, trivial⟩ (by exact Split.auto)
        · have u1 := sHear_in sa S a.src a.b hS (by omega) (by omega)
          have hle := sqHear_len hS a.src a.b
          have hc2 := (sqHear_grows hS a.src a.b).1.trans hSc
          have hi2 := sqIn_hear hS a.src a.b
          generalize sqErr S a.src a.b = e8 at *
          generalize sqHear S a.src a.b = S2 at *
          repeat' (first | (apply St_call (hf := u1); exact rfl; exact rfl; exact Split.auto; rintro _ _ ⟨rfl, rfl⟩) | (apply St_rd; exact rfl; (first | (apply Rd_loadA tb; exact rfl; exact rfl; exact rfl; exact Has.auto; exact hroom1; exact hld1))) | (apply Sq_rd; exact rfl; (first | (apply Rd_loadA tb; exact rfl; exact rfl; exact rfl; exact Has.auto; exact hroom1; exact hld1))) | (refine St_step ?_; (try with_reducible intro _)) | (refine St_step2 ?_ ?_ <;> (intro hb; (try simp only [beq_iff_eq, bne_iff_ne, decide_eq_true_eq, decide_eq_false_iff_not, Bool.not_eq_true', Bool.not_eq_false', beq_eq_false_iff_ne, bne_eq_false_iff_eq, ne_eq, Int.not_lt, Int.not_le, gt_iff_lt, ge_iff_le] at hb); (try (first | exact Bool.noConfusion hb | exact absurd trivial hb | (exfalso; omega))))) | fail)
          all_goals first | (exfalso; omega) | skip
          refine St_rsMk (r := q) (n := l.length) (cap := k) (pre := pre1) (cs := l.flatMap av) (rest := rest1) (by exact Has.auto) ?_
          exact St_at (i + 1, S2) ⟨⟨hil, hi2, hc2, by show S2.l.length ≤ i + 1; omega⟩, by dsimp only; omega⟩ ⟨rfl, rfl, rfl, rfl, rfl, trivial⟩ (by exact Split.auto)
      · repeat' (first | (refine St_step ?_; (try with_reducible intro _)) | (refine St_step2 ?_ ?_ <;> (intro hb; (try simp only [beq_iff_eq, bne_iff_ne, decide_eq_true_eq, decide_eq_false_iff_not, Bool.not_eq_true', Bool.not_eq_false', beq_eq_false_iff_ne, bne_eq_false_iff_eq, ne_eq, Int.not_lt, Int.not_le, gt_iff_lt, ge_iff_le] at hb); (try (first | exact Bool.noConfusion hb | exact absurd trivial hb | (exfalso; omega))))) | fail)
        all_goals first | (exfalso; omega) | (first | contradiction | (exfalso; omega) | (exact St_ret1 (.inl rfl) rfl rfl ⟨rfl, rfl⟩ (by exact Split.auto)) | (exact St_ret2 (.inl rfl) rfl rfl rfl ⟨rfl, rfl⟩ (by exact Split.auto)) | (exact St_ret3 (.inl rfl) rfl rfl rfl rfl ⟨rfl, rfl⟩ (by exact Split.auto)))
    · rw [decide_eq_false hc] at m1
      repeat' (first | (apply St_regionQ; kernel_rfl; kernel_rfl) | (apply St_call (hf := awake_sp); exact rfl; exact rfl; exact Split.auto; rintro _ _ ⟨rfl, rfl⟩) | (apply St_call (hf := g1); exact rfl; exact rfl; exact Split.auto; rintro _ _ ⟨rfl, rfl⟩) | (apply St_call (hf := m1); exact rfl; exact rfl; exact Split.auto; rintro _ _ ⟨rfl, rfl⟩) | (refine St_step ?_; (try with_reducible intro _)) | (refine St_step2 ?_ ?_ <;> (intro hb; (try simp only [beq_iff_eq, bne_iff_ne, decide_eq_true_eq, decide_eq_false_iff_not, Bool.not_eq_true', Bool.not_eq_false', beq_eq_false_iff_ne, bne_eq_false_iff_eq, ne_eq, Int.not_lt, Int.not_le, gt_iff_lt, ge_iff_le] at hb); (try (first | exact Bool.noConfusion hb | exact absurd trivial hb | (exfalso; omega))))) | fail)
      all_goals (first | contradiction | (exfalso; omega) | (exact St_ret1 (.inl rfl) rfl rfl ⟨rfl, rfl⟩ (by exact Split.auto)) | (exact St_ret2 (.inl rfl) rfl rfl rfl ⟨rfl, rfl⟩ (by exact Split.auto)) | (exact St_ret3 (.inl rfl) rfl rfl rfl rfl ⟨rfl, rfl⟩ (by exact Split.auto)))
end Go.Proofs.YtfjnacakpeommaaDoor
