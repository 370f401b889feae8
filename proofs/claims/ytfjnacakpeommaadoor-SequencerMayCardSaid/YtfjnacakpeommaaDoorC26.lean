/- Contracts: sequencer.Tick. -/
import Derived.Test.YtfjnacakpeommaaDoorC25
namespace Go.Proofs.YtfjnacakpeommaaDoor
open Go SL Pl
set_option autoImplicit false
set_option maxRecDepth 100000
set_option linter.unusedSimpArgs false
set_option linter.unusedVariables false
attribute [local irreducible] St Sq Exec QExec wpList wpQuiet Code.wp Exit.then Exit.inBlock bodyPost At Rd wpOp Wa QK GB
abbrev kv (p : Pk) : List Value := [.int .i64 p.src, .int .i64 p.dst, str p.b]
theorem kv_len (p : Pk) : (kv p).length = 3 := rfl
theorem puts_snoc (fs : List Fr) (f : Fr) (a b m : Int) : puts (fs ++ [f]) a b m = puts fs a b m ++ (if (fput f m).2 = 0 then [⟨a, b, (fput f m).1⟩] else []) := by
  unfold puts
  rw [List.filterMap_append]
  congr 1
  by_cases h : (fput f m).2 = 0
  · simp [h]
  · simp [h]
theorem puts_len (fs : List Fr) (a b m : Int) : (puts fs a b m).length ≤ fs.length := List.length_filterMap_le _ _
/-- Packets of the first i peers. -/
def pksTo (s : Sqr) (i : Nat) : List Pk := ((s.ks.take i).zipIdx.map fun x => tickPks s x.2 x.1).flatten
theorem pksTo_succ {s : Sqr} {i : Nat} {k : Lk × Nat} (h : s.ks[i]? = some k) : pksTo s (i + 1) = pksTo s i ++ tickPks s i k := by
  have hi : i < s.ks.length := by
    rcases Nat.lt_or_ge i s.ks.length with q | q
    · exact q
    · rw [List.getElem?_eq_none q] at h; cases h
  unfold pksTo
  rw [List.take_add_one, h]
  simp only [Option.toList_some, List.zipIdx_append, List.map_append, List.flatten_append, List.zipIdx_singleton, List.map_cons, List.map_nil, List.flatten_cons, List.flatten_nil, List.append_nil, List.length_take]
  rw [Nat.min_eq_left (by omega), Nat.zero_add]
theorem pksTo_all (s : Sqr) : pksTo s s.ks.length = sqPks s := by unfold pksTo sqPks; rw [List.take_length]
/-- The peers, the first i of them ticked. -/
def ksTo (s : Sqr) (i : Nat) : List (Lk × Nat) := (s.ks.take i).map (tick1 s) ++ s.ks.drop i
theorem ksTo_len (s : Sqr) (i : Nat) : (ksTo s i).length = s.ks.length := by simp [ksTo]; omega
theorem ksTo_at {s : Sqr} {i : Nat} {k : Lk × Nat} (h : s.ks[i]? = some k) : (ksTo s i)[i]? = some k := by
  have hi : i < s.ks.length := by
    rcases Nat.lt_or_ge i s.ks.length with q | q
    · exact q
    · rw [List.getElem?_eq_none q] at h; cases h
  unfold ksTo
  rw [List.getElem?_append_right (by simp; omega)]
  simp [h]
  have : i + (i - min i s.ks.length) = i := by omega
  rw [this, h]
theorem ksTo_set {s : Sqr} {i : Nat} {k : Lk × Nat} (h : s.ks[i]? = some k) : (ksTo s i).set i (tick1 s k) = ksTo s (i + 1) := by
  have hi : i < s.ks.length := by
    rcases Nat.lt_or_ge i s.ks.length with q | q
    · exact q
    · rw [List.getElem?_eq_none q] at h; cases h
  have hk : s.ks[i] = k := by rw [List.getElem?_eq_getElem hi] at h; exact Option.some.inj h
  unfold ksTo
  rw [List.set_append_right _ _ (by simp; omega), List.drop_eq_getElem_cons hi, hk, List.take_succ_eq_append_getElem hi, hk]
  simp
  have : i - min i s.ks.length = 0 := by omega
  rw [this]
  rfl
theorem ksTo_all (s : Sqr) : ksTo s s.ks.length = (sqTick s).ks := by simp [ksTo, sqTick]
attribute [local irreducible] LkP LgP SqP PeP SdP RcP
set_option maxHeartbeats 4000000 in
theorem sTick_sp (b : Nat) (s : Sqr) (hs : sqOk s) (hl : s.l.length ≤ 900000) (hd : ∀ (i : Nat) (k : Lk × Nat), s.ks[i]? = some k → ∀ f ∈ lkFrames (tick1 s k).1, f.data.length ≤ 1000000) :
    Sp Tryd.prog 11 [.pointer (some ⟨b, 0, none⟩)] [SqP b s, GB] (fun w M => (∃ A c, w = .slice A (sqPks s).length c) ∧ M = [RS true w (sqPks s).length ((sqPks s).flatMap kv), SqP b (sqTick s), GB]) := by
  refine Sp.intro (P := Tryd.prog) (Tryd.func11) rfl Tryd.ntmps11 (by decide) rfl ?_
  intro ρ F
  refine St_sqOpen (b := b) (s := s) (by exact Has.auto) fun lb A c ids hz => ?_
  have hcl := hs.n
  obtain ⟨⟨c1, c2⟩, _⟩ := hs.c
  have hsn : s.ks.length ≤ 64 := by omega
  refine St_conv (L' := Sl 40 3 (.slice none 0 0) 0 [] :: _) (fun w H => Holds.sl_nil H) ?_
  repeat' (first | (refine St_step ?_; (try with_reducible intro _)) | (refine St_step2 ?_ ?_ <;> (intro hb; (try simp only [beq_iff_eq, bne_iff_ne, decide_eq_true_eq, decide_eq_false_iff_not, Bool.not_eq_true', Bool.not_eq_false', beq_eq_false_iff_ne, bne_eq_false_iff_eq, ne_eq, Int.not_lt, Int.not_le, gt_iff_lt, ge_iff_le] at hb); (try (first | exact Bool.noConfusion hb | exact absurd trivial hb | (exfalso; omega))))) | fail)
  refine St_loop (fun (y : Nat × Option Addr × Nat) => y.1 ≤ s.ks.length ∧ (pksTo s y.1).length ≤ 16 * y.1) (fun y => [(0, .pointer (some ⟨b, 0, none⟩)), (3, .slice y.2.1 (pksTo s y.1).length y.2.2), (13, .slice A s.ks.length c), (14, nat .i64 s.ks.length), (15, nat .i64 y.1)]) (fun y => [Sl 40 3 (.slice y.2.1 (pksTo s y.1).length y.2.2) (pksTo s y.1).length ((pksTo s y.1).flatMap kv), cel false b 50 (cfgC s.c ++ [.pointer (some ⟨lb, 0, none⟩), .slice A s.ks.length c]), LgP lb s.c.clients.toNat s.l, Sl 56 2 (.slice A s.ks.length c) s.ks.length (ids.flatMap idv), big (List.zipWith PeP ids (ksTo s y.1)), GB, big F]) (fun y => s.ks.length - y.1) (0, none, 0) ⟨Nat.zero_le _, Nat.le_refl _⟩ ⟨rfl, rfl, rfl, rfl, rfl, trivial⟩ (by exact Split.auto) ?_
  rintro ⟨i, A1, c1'⟩ ⟨hi, hpl⟩
  have hi : i ≤ s.ks.length := hi
  have hpl : (pksTo s i).length ≤ 16 * i := hpl
  dsimp only
  by_cases hil : i < s.ks.length
  · obtain ⟨k, hk⟩ : ∃ k, s.ks[i]? = some k := ⟨_, List.getElem?_eq_getElem hil⟩
    obtain ⟨x, hx⟩ : ∃ x, ids[i]? = some x := ⟨_, List.getElem?_eq_getElem (by omega)⟩
    have hkm := hs.ks k (List.mem_of_getElem? hk)
    refine St_slOpen (E := 56) (sz := 2) (n := s.ks.length) (v := .slice A s.ks.length c) (by exact Has.auto) (fun h _ _ => ?_) ?_
    · injection h with h1 h2 h3; omega
    rintro b2 cap pre rest hv hcap hrest hlen
    injection hv with hv1 hv2 hv3
    subst hv1 hv3
    have hld := flat_at idv_len ids i x pre rest hx
    have hroom := flat_room idv_len ids i pre rest (by omega)
    refine St_peGet (ids := ids) (ks := ksTo s i) (by exact Has.auto) hx (ksTo_at hk) ?_
    have hpump := pump_sp x.2 lb x.1 s.c.clients.toNat k.2 s.l k.1 hkm.1 hkm.2.1 (by omega) (lgOk_ups hs.l)
    have e1 : lkWith k.1 (pump s.l k.2 k.1.sd).2 = (tick1 s k).1 := rfl
    have e2 : (pump s.l k.2 k.1.sd).1 = (tick1 s k).2 := rfl
    have hok : lkOk (tick1 s k).1 := by rw [← e1]; exact lkOk_with hkm.1 (pumpN_ok s.l _ _ hkm.1.sd)
    rw [e1, e2] at hpump
    have hfr := lkFrames_sp x.1 (tick1 s k).1 hok
    have hf16 : (lkFrames (tick1 s k).1).length ≤ 16 := lkFrames_len (by have h1 := hok.sd.l; have h2 := hok.sd.w; omega)
    have hdd := hd i k hk
    have hnext : pksTo s (i + 1) = pksTo s i ++ puts (lkFrames (tick1 s k).1) 0 ((i : Int) + 1) s.c.mtu := pksTo_succ hk
    have hks := ksTo_set hk
    generalize htk : tick1 s k = k' at *
    generalize hfs : lkFrames k'.1 = fs at *
    repeat' (first | (apply St_rd; exact rfl; (first | (apply Rd_loadA tb; exact rfl; exact rfl; exact rfl; exact Has.auto; exact hroom; exact hld))) | (apply Sq_rd; exact rfl; (first | (apply Rd_loadA tb; exact rfl; exact rfl; exact rfl; exact Has.auto; exact hroom; exact hld))) | (refine St_step ?_; (try with_reducible intro _)) | (refine St_step2 ?_ ?_ <;> (intro hb; (try simp only [beq_iff_eq, bne_iff_ne, decide_eq_true_eq, decide_eq_false_iff_not, Bool.not_eq_true', Bool.not_eq_false', beq_eq_false_iff_ne, bne_eq_false_iff_eq, ne_eq, Int.not_lt, Int.not_le, gt_iff_lt, ge_iff_le] at hb); (try (first | exact Bool.noConfusion hb | exact absurd trivial hb | (exfalso; omega))))) | fail)
    all_goals first | (exfalso; omega) | skip
    rename_i pb
    repeat' (first | (apply St_regionA (8) ([cel false pb 56 (idv x), cel false b 50 (cfgC s.c ++ [.pointer (some ⟨lb, 0, none⟩), .slice (some ⟨b2, pre.length, none⟩) s.ks.length c])]); kernel_rfl; (apply Sa_take 0; exact rfl; kernel_rfl; exact PanicOk.auto; exact rfl; (first | exact Rd_auto)); (apply Sa_take 1; exact rfl; kernel_rfl; exact PanicOk.auto; exact rfl; (first | exact Rd_auto)); (apply Sa_take 2; exact rfl; kernel_rfl; exact PanicOk.auto; exact rfl; (first | exact Rd_auto)); (apply Sa_take 3; exact rfl; kernel_rfl; exact PanicOk.auto; exact rfl; (first | exact Rd_auto)); (apply Sa_take 4; exact rfl; kernel_rfl; exact PanicOk.auto; exact rfl; (first | exact Rd_auto)); (apply Sa_take 5; exact rfl; kernel_rfl; exact PanicOk.auto; exact rfl; (first | exact Rd_auto)); (apply Sa_take 6; exact rfl; kernel_rfl; exact PanicOk.auto; exact rfl; (first | exact Rd_auto)); (apply Sa_take 7; exact rfl; kernel_rfl; exact PanicOk.auto; exact rfl; (first | exact Rd_auto)); (apply Sa_one (i := 8); kernel_rfl; exact .inr (by exact Split.auto)); (apply Sa_op; exact rfl; exact rfl); (first | (apply St_call (hf := hpump); exact rfl; exact rfl; exact Split.auto; rintro _ _ ⟨⟨_, rfl⟩, rfl⟩) | (refine St_step ?_; (try with_reducible intro _)) | (refine St_step2 ?_ ?_ <;> (intro hb; (try simp only [beq_iff_eq, bne_iff_ne, decide_eq_true_eq, decide_eq_false_iff_not, Bool.not_eq_true', Bool.not_eq_false', beq_eq_false_iff_ne, bne_eq_false_iff_eq, ne_eq, Int.not_lt, Int.not_le, gt_iff_lt, ge_iff_le] at hb); (try (first | exact Bool.noConfusion hb | exact absurd trivial hb | (exfalso; omega))))) | fail); (apply Sa_done (R := []); kernel_rfl; refine .inl ?_; kernel_rfl)) | (apply St_call (hf := hfr); exact rfl; exact rfl; exact Split.auto; rintro _ _ ⟨Af, cf, rfl, rfl⟩) | (refine St_step ?_; (try with_reducible intro _)) | (refine St_step2 ?_ ?_ <;> (intro hb; (try simp only [beq_iff_eq, bne_iff_ne, decide_eq_true_eq, decide_eq_false_iff_not, Bool.not_eq_true', Bool.not_eq_false', beq_eq_false_iff_ne, bne_eq_false_iff_eq, ne_eq, Int.not_lt, Int.not_le, gt_iff_lt, ge_iff_le] at hb); (try (first | exact Bool.noConfusion hb | exact absurd trivial hb | (exfalso; omega))))) | fail)
    all_goals first | (exfalso; omega) | skip
    refine St_loop (fun (y : Nat × Option Addr × Nat) => y.1 ≤ fs.length) (fun y => [(0, .pointer (some ⟨b, 0, none⟩)), (3, .slice y.2.1 (pksTo s i ++ puts (fs.take y.1) 0 ((i : Int) + 1) s.c.mtu).length y.2.2), (4, nat .i64 i), (13, .slice (some ⟨b2, pre.length, none⟩) s.ks.length c), (14, nat .i64 s.ks.length), (15, nat .i64 i), (31, .slice Af fs.length cf), (32, nat .i64 fs.length), (33, nat .i64 y.1)]) (fun y => [Sl 40 3 (.slice y.2.1 (pksTo s i ++ puts (fs.take y.1) 0 ((i : Int) + 1) s.c.mtu).length y.2.2) (pksTo s i ++ puts (fs.take y.1) 0 ((i : Int) + 1) s.c.mtu).length ((pksTo s i ++ puts (fs.take y.1) 0 ((i : Int) + 1) s.c.mtu).flatMap kv), RS true (.slice Af fs.length cf) fs.length (fs.flatMap fv), cel false b 50 (cfgC s.c ++ [.pointer (some ⟨lb, 0, none⟩), .slice (some ⟨b2, pre.length, none⟩) s.ks.length c]), LgP lb s.c.clients.toNat s.l, cel false b2 56 (pre ++ ids.flatMap idv ++ rest), LkP x.1 k'.1, FdP x.2 k'.2, big ((List.zipWith PeP ids (ksTo s i)).set i emp), GB, big F]) (fun y => fs.length - y.1) (0, A1, c1') (Nat.zero_le _) ⟨rfl, ?_, rfl, rfl, rfl, rfl, rfl, rfl, rfl, trivial⟩ (by rw [List.take_zero]; simp only [puts, List.filterMap_nil, List.append_nil]; exact Split.auto) ?_
    · rw [List.take_zero]; simp only [puts, List.filterMap_nil, List.append_nil]; rfl
    rintro ⟨j, A2, c2'⟩ hj
    have hj : j ≤ fs.length := hj
    dsimp only
    have hpo : (pksTo s i ++ puts (fs.take j) 0 ((i : Int) + 1) s.c.mtu).length ≤ 2000 := by
      have := puts_len (fs.take j) 0 ((i : Int) + 1) s.c.mtu
      rw [List.length_append]; rw [List.length_take] at this; omega
    by_cases hjl : j < fs.length
    · obtain ⟨f, hf⟩ : ∃ f, fs[j]? = some f := ⟨_, List.getElem?_eq_getElem hjl⟩
      refine St_rsOpen (r := true) (v := .slice Af fs.length cf) (n := fs.length) (cs := fs.flatMap fv) (by exact Has.auto) (by omega) ?_
      rintro b3 T3 cap3 pre3 rest3 hv3
      injection hv3 with q1 q2 q3
      subst q1 q3
      have hld2 := flat_at fv_len fs j f pre3 rest3 hf
      have hroom2 := flat_room fv_len fs j pre3 rest3 hjl
      have hput := fput_sp f s.c.mtu (hdd f (List.mem_of_getElem? hf))
      have htake : fs.take (j + 1) = fs.take j ++ [f] := by rw [List.take_add_one, hf]; rfl
      have hst := puts_snoc (fs.take j) f 0 ((i : Int) + 1) s.c.mtu
      rw [← htake] at hst
      by_cases he : (fput f s.c.mtu).2 = 0
      · rw [if_pos he] at hst
        rw [he] at hput
        have hout : pksTo s i ++ puts (fs.take (j + 1)) 0 ((i : Int) + 1) s.c.mtu = (pksTo s i ++ puts (fs.take j) 0 ((i : Int) + 1) s.c.mtu) ++ [⟨0, (i : Int) + 1, (fput f s.c.mtu).1⟩] := by
          rw [hst, ← List.append_assoc]
        generalize (fput f s.c.mtu).1 = w at *
        generalize pksTo s i ++ puts (fs.take j) 0 ((i : Int) + 1) s.c.mtu = out at *
        repeat' (first | (apply St_regionQ; kernel_rfl; kernel_rfl) | (apply Sq_call (hf := hput); exact rfl; exact rfl; exact Split.auto; (rintro _ _ ⟨rfl, rfl⟩; exact ⟨rfl, _, by exact Split.auto⟩)) | (apply St_append tb (sz := 3) (n := out.length) (cs := out.flatMap kv); (repeat exact rfl); exact Has.auto; (intro _; exact Src.row (n := 1) (by exact Has.auto) (by simp) (by exact rfl)); exact rfl; (dsimp only; omega); intro v'; refine St_slIs (v := v') (n := out.length + 1) (by exact Has.auto) ?_; rintro A4 c4 rfl) | (apply St_rd; exact rfl; (first | (apply Rd_loadA tb; exact rfl; exact rfl; exact rfl; exact Has.auto; exact hroom2; exact hld2))) | (apply Sq_rd; exact rfl; (first | (apply Rd_loadA tb; exact rfl; exact rfl; exact rfl; exact Has.auto; exact hroom2; exact hld2))) | (refine St_step ?_; (try with_reducible intro _)) | (refine St_step2 ?_ ?_ <;> (intro hb; (try simp only [beq_iff_eq, bne_iff_ne, decide_eq_true_eq, decide_eq_false_iff_not, Bool.not_eq_true', Bool.not_eq_false', beq_eq_false_iff_ne, bne_eq_false_iff_eq, ne_eq, Int.not_lt, Int.not_le, gt_iff_lt, ge_iff_le] at hb); (try (first | exact Bool.noConfusion hb | exact absurd trivial hb | (exfalso; omega))))) | fail)
        all_goals first | (exfalso; omega) | skip
        refine St_slEq (v := .slice A4 (out.length + 1) c4) (cs' := (out ++ [(⟨0, (i : Int) + 1, w⟩ : Pk)]).flatMap kv) (n' := (out ++ [(⟨0, (i : Int) + 1, w⟩ : Pk)]).length) (by exact Has.auto) (by rw [List.flatMap_append]; rfl) (by simp) ?_
        refine St_rsMk (r := true) (n := fs.length) (cap := cf) (pre := pre3) (cs := fs.flatMap fv) (rest := rest3) (by exact Has.auto) ?_
        refine St_at (j + 1, A4, c4) ⟨hjl, ?_⟩ ⟨rfl, ?_, rfl, rfl, rfl, rfl, rfl, rfl, rfl, trivial⟩ (by rw [hout, show (out ++ [(⟨0, (i : Int) + 1, w⟩ : Pk)]).length = out.length + 1 by simp]; exact Split.auto)
        · dsimp only; omega
        · rw [hout, List.length_append]; rfl
      · rw [if_neg he, List.append_nil] at hst
        have hout : pksTo s i ++ puts (fs.take (j + 1)) 0 ((i : Int) + 1) s.c.mtu = pksTo s i ++ puts (fs.take j) 0 ((i : Int) + 1) s.c.mtu := by rw [hst]
        generalize (fput f s.c.mtu).1 = w at *
        generalize (fput f s.c.mtu).2 = er at *
        generalize pksTo s i ++ puts (fs.take j) 0 ((i : Int) + 1) s.c.mtu = out at *
        repeat' (first | (apply St_regionQ; kernel_rfl; kernel_rfl) | (apply Sq_call (hf := hput); exact rfl; exact rfl; exact Split.auto; (rintro _ _ ⟨rfl, rfl⟩; exact ⟨rfl, _, by exact Split.auto⟩)) | (apply St_rd; exact rfl; (first | (apply Rd_loadA tb; exact rfl; exact rfl; exact rfl; exact Has.auto; exact hroom2; exact hld2))) | (apply Sq_rd; exact rfl; (first | (apply Rd_loadA tb; exact rfl; exact rfl; exact rfl; exact Has.auto; exact hroom2; exact hld2))) | (refine St_step ?_; (try with_reducible intro _)) | (refine St_step2 ?_ ?_ <;> (intro hb; (try simp only [beq_iff_eq, bne_iff_ne, decide_eq_true_eq, decide_eq_false_iff_not, Bool.not_eq_true', Bool.not_eq_false', beq_eq_false_iff_ne, bne_eq_false_iff_eq, ne_eq, Int.not_lt, Int.not_le, gt_iff_lt, ge_iff_le] at hb); (try (first | exact Bool.noConfusion hb | exact absurd trivial hb | (exfalso; omega))))) | fail)
        all_goals first | (exfalso; omega) | skip
        refine St_rsMk (r := true) (n := fs.length) (cap := cf) (pre := pre3) (cs := fs.flatMap fv) (rest := rest3) (by exact Has.auto) ?_
        refine St_at (j + 1, A2, c2') ⟨hjl, ?_⟩ ⟨rfl, ?_, rfl, rfl, rfl, rfl, rfl, rfl, rfl, trivial⟩ (by rw [hout]; exact Split.auto)
        · dsimp only; omega
        · rw [hout]; rfl
    · have hjj : j = fs.length := by omega
      subst hjj
      rw [List.take_length]
      rw [← hnext]
      repeat' (first | (refine St_step ?_; (try with_reducible intro _)) | (refine St_step2 ?_ ?_ <;> (intro hb; (try simp only [beq_iff_eq, bne_iff_ne, decide_eq_true_eq, decide_eq_false_iff_not, Bool.not_eq_true', Bool.not_eq_false', beq_eq_false_iff_ne, bne_eq_false_iff_eq, ne_eq, Int.not_lt, Int.not_le, gt_iff_lt, ge_iff_le] at hb); (try (first | exact Bool.noConfusion hb | exact absurd trivial hb | (exfalso; omega))))) | fail)
      all_goals first | (exfalso; omega) | skip
      refine St_pePut (ids := ids) (ks := ksTo s i) (k := k') hx (by rw [ksTo_len]; exact hil) (by exact Split.auto) ?_
      rw [hks]
      refine St_slMk (sz := 2) (n := s.ks.length) (cap := c) (pre := pre) (cs := ids.flatMap idv) (rest := rest) (by exact Has.auto) hcap hrest hlen ?_
      refine St_at (i + 1, A2, c2') ⟨⟨hil, ?_⟩, ?_⟩ ⟨rfl, rfl, rfl, rfl, rfl, trivial⟩ (by exact Split.auto)
      · have := puts_len fs 0 ((i : Int) + 1) s.c.mtu
        dsimp only
        rw [hnext, List.length_append]; omega
      · dsimp only; omega
  · have hii : i = s.ks.length := by omega
    subst hii
    rw [pksTo_all, ksTo_all]
    repeat' (first | (refine St_step ?_; (try with_reducible intro _)) | (refine St_step2 ?_ ?_ <;> (intro hb; (try simp only [beq_iff_eq, bne_iff_ne, decide_eq_true_eq, decide_eq_false_iff_not, Bool.not_eq_true', Bool.not_eq_false', beq_eq_false_iff_ne, bne_eq_false_iff_eq, ne_eq, Int.not_lt, Int.not_le, gt_iff_lt, ge_iff_le] at hb); (try (first | exact Bool.noConfusion hb | exact absurd trivial hb | (exfalso; omega))))) | fail)
    refine St_slShare (E := 40) (sz := 3) (n := (sqPks s).length) (v := .slice A1 (sqPks s).length c1') (by exact Has.auto) ?_
    have hln : (sqTick s).ks.length = s.ks.length := by simp [sqTick]
    refine St_sqMk (b := b) (lb := lb) (s := sqTick s) (v := .slice A s.ks.length c) (ids := ids) (by rw [hln]; exact hz) (by rw [hln]; exact Split.auto) ?_
    exact St_ret1 (.inl rfl) rfl rfl ⟨⟨_, _, rfl⟩, rfl⟩ (by exact Split.auto)
end Go.Proofs.YtfjnacakpeommaaDoor
