/- Contracts: sequencer.Hear. -/
import Derived.Test.YtfjnacakpeommaaDoorC24
import Derived.Test.YtfjnacakpeommaaDoorC8
namespace Go.Proofs.YtfjnacakpeommaaDoor
open Go SL Pl
set_option autoImplicit false
set_option maxRecDepth 100000
set_option linter.unusedSimpArgs false
set_option linter.unusedVariables false
attribute [local irreducible] St Sq Exec QExec wpList wpQuiet Code.wp Exit.then Exit.inBlock bodyPost At Rd wpOp Wa QK GB
/-- A link with these pieces waiting. -/
def lkQ (k : Lk) (q : List (List UInt8)) : Lk := ⟨k.sd, ⟨k.rc.room, k.rc.acked, q⟩, k.ep, k.win, k.room, k.pas⟩
theorem fget_frIn {b : List UInt8} (h : (fget b).2 = 0) : frIn (fget b).1 ∧ (fget b).1.data.length ≤ b.length := by
  obtain ⟨h1, h2⟩ := fput_fget (f := (fget b).1) (b := b) (by rw [← h])
  refine ⟨?_, ?_⟩
  · by_cases hi : frIn (fget b).1
    · exact hi
    · unfold fmay at h1; rw [if_pos hi] at h1; cases h1
  · have := fbytes_ge (fget b).1
    rw [h2] at this; exact this
theorem lkHear_q {k : Lk} {f : Fr} (h : k.rc.q = []) : ∀ d ∈ (lkHear k f).rc.q, d = f.data := by
  intro d hd
  by_cases hst : f.ep < k.ep ∨ ((k.ep : Int) < f.ep ∧ k.pas = false)
  · rw [lkHear_stay hst, h] at hd; cases hd
  · rw [lkHear_go hst] at hd
    have h1 : (if lkAnew k f = true then lkFresh k f.ep else k).rc.q = [] := by
      split
      · rfl
      · exact h
    generalize (if lkAnew k f = true then lkFresh k f.ep else k) = k1 at *
    dsimp only at hd
    split at hd
    · rw [h1] at hd; cases hd
    · unfold rcHear at hd
      split at hd
      · rw [h1] at hd; cases hd
      · rw [h1] at hd; simpa using hd
structure HearI (c : Cfg) (src : Int) (T : List Ro) (q : List (List UInt8)) (l : List Ro) : Prop where
  goes : q.foldl (takeOne c src) l = T
  len : ∀ d ∈ q, d.length ≤ 1000000
  ok : lgOk c.clients.toNat l
  n : l.length + q.length ≤ 1000000
theorem takeOne_ok {c : Cfg} {src : Int} {l : List Ro} (h : lgOk c.clients.toNat l) (d : List UInt8) : lgOk c.clients.toNat (takeOne c src l d) := by
  unfold takeOne
  split
  · exact lgOk_add h _
  · exact h
theorem takeOne_len (c : Cfg) (src : Int) (l : List Ro) (d : List UInt8) : (takeOne c src l d).length ≤ l.length + 1 := by
  unfold takeOne lgAdd
  (repeat' split) <;> simp
attribute [local irreducible] LkP LgP SqP PeP SdP RcP
set_option maxHeartbeats 4000000 in
theorem sHear_sp (b : Nat) (s : Sqr) (src : Int) (bs : List UInt8) (hs : sqOk s) (hb0 : bs.length ≤ 100000) (hl : s.l.length ≤ 900000) :
    Sp Tryd.prog 10 [.pointer (some ⟨b, 0, none⟩), .int .i64 src, str bs] [SqP b s, GB] (fun w M => w = nat .i64 (sqErr s src bs) ∧ M = [SqP b (sqHear s src bs), GB]) := by
  refine Sp.intro (P := Tryd.prog) (Tryd.func10) rfl Tryd.ntmps10 (by decide) rfl ?_
  intro ρ F
  refine St_sqOpen (b := b) (s := s) (by exact Has.auto) fun lb A c ids hz => ?_
  have hcl := hs.n
  obtain ⟨⟨c1, c2⟩, _⟩ := hs.c
  have hg := fget_sp bs (by omega)
  have hgi := fget_frIn (b := bs)
  by_cases hn : src < 1 ∨ s.c.clients < src
  · have e1 : sqErr s src bs = 11 := if_pos hn
    have e2 : sqHear s src bs = s := by unfold sqHear; rw [e1, if_pos (by decide)]
    rw [e1, e2]
    repeat' (first | (apply St_call (hf := sin_sp _ _ _); exact rfl; exact rfl; exact Split.auto; rintro _ _ ⟨rfl, rfl⟩) | (refine St_step ?_; (try with_reducible intro _)) | (refine St_step2 ?_ ?_ <;> (intro hb; (try simp only [beq_iff_eq, bne_iff_ne, decide_eq_true_eq, decide_eq_false_iff_not, Bool.not_eq_true', Bool.not_eq_false', beq_eq_false_iff_ne, bne_eq_false_iff_eq, ne_eq, Int.not_lt, Int.not_le, gt_iff_lt, ge_iff_le] at hb); (try (first | exact Bool.noConfusion hb | exact absurd trivial hb | (exfalso; omega))))) | fail)
    all_goals first | (exfalso; omega) | skip
    all_goals refine St_sqMk (b := b) (lb := lb) (s := s) (v := .slice A s.ks.length c) (ids := ids) hz (by exact Split.auto) ?_
    all_goals exact St_ret1 (.inl rfl) rfl rfl ⟨rfl, rfl⟩ (by exact Split.auto)
  by_cases he : (fget bs).2 ≠ 0
  · have e1 : sqErr s src bs = (fget bs).2 := by unfold sqErr; rw [if_neg hn, if_pos he]
    have e2 : sqHear s src bs = s := by unfold sqHear; rw [e1, if_pos he]
    rw [e1, e2]
    generalize fget bs = q at *
    obtain ⟨f, e⟩ := q
    dsimp only at *
    repeat' (first | (apply St_call (hf := sin_sp _ _ _); exact rfl; exact rfl; exact Split.auto; rintro _ _ ⟨rfl, rfl⟩) | (apply St_call (hf := hg); exact rfl; exact rfl; exact Split.auto; rintro _ _ ⟨rfl, rfl⟩) | (refine St_step ?_; (try with_reducible intro _)) | (refine St_step2 ?_ ?_ <;> (intro hb; (try simp only [beq_iff_eq, bne_iff_ne, decide_eq_true_eq, decide_eq_false_iff_not, Bool.not_eq_true', Bool.not_eq_false', beq_eq_false_iff_ne, bne_eq_false_iff_eq, ne_eq, Int.not_lt, Int.not_le, gt_iff_lt, ge_iff_le] at hb); (try (first | exact Bool.noConfusion hb | exact absurd trivial hb | (exfalso; omega))))) | fail)
    all_goals first | (exfalso; omega) | skip
    all_goals refine St_sqMk (b := b) (lb := lb) (s := s) (v := .slice A s.ks.length c) (ids := ids) hz (by exact Split.auto) ?_
    all_goals exact St_ret1 (.inl rfl) rfl rfl ⟨rfl, rfl⟩ (by exact Split.auto)
  have he0 : (fget bs).2 = 0 := by omega
  obtain ⟨hfi, hfd⟩ := hgi he0
  obtain ⟨i, hi⟩ := Int.eq_ofNat_of_zero_le (show 0 ≤ src - 1 by omega)
  have hil : i < s.ks.length := by omega
  obtain ⟨k, hk⟩ : ∃ k, s.ks[i]? = some k := ⟨_, List.getElem?_eq_getElem hil⟩
  obtain ⟨x, hx⟩ : ∃ x, ids[i]? = some x := ⟨_, List.getElem?_eq_getElem (by omega)⟩
  have hkm := hs.ks k (List.mem_of_getElem? hk)
  have hit : (src - 1).toNat = i := by rw [hi]; rfl
  rw [he0] at hg
  have eE : sqErr s src bs = if (fget bs).1.ep < k.1.ep then 9 else 0 := by unfold sqErr; rw [if_neg hn, if_neg he, hit, hk]
  have eH : sqErr s src bs = 0 → sqHear s src bs = ⟨s.c, (lkHear k.1 (fget bs).1).rc.q.foldl (takeOne s.c src) s.l, s.ks.set i (lkQ (lkHear k.1 (fget bs).1) [], if lkAnew k.1 (fget bs).1 then 0 else k.2)⟩ := fun h => by
    unfold sqHear; rw [h, if_neg (fun h => h rfl), hit, hk]; rfl
  have eH9 : sqErr s src bs = 9 → sqHear s src bs = s := fun h => by unfold sqHear; rw [h, if_pos (by decide)]
  generalize fget bs = fe at *
  obtain ⟨f, e⟩ := fe
  dsimp only at *
  refine St_slOpen (E := 56) (sz := 2) (n := s.ks.length) (v := .slice A s.ks.length c) (by exact Has.auto) (fun h _ _ => ?_) ?_
  · injection h with h1 h2 h3; omega
  rintro b2 cap pre rest hv hcap hrest hlen
  injection hv with hv1 hv2 hv3
  subst hv1 hv3
  have hld := flat_at idv_len ids i x pre rest hx
  have hroom := flat_room idv_len ids i pre rest (by omega)
  refine St_peGet (ids := ids) (ks := s.ks) (by exact Has.auto) hx hk ?_
  have hep := lkEpoch_sp x.1 k.1
  have hset : s.ks.set i k = s.ks := by
    apply List.ext_getElem?
    intro j
    rw [List.getElem?_set]
    by_cases hij : i = j
    · subst hij; rw [if_pos rfl, if_pos hil, hk]
    · rw [if_neg hij]
  by_cases hst : f.ep < k.1.ep
  · rw [if_pos hst] at eE
    rw [eE, eH9 eE]
    repeat' (first | (apply St_call (hf := sin_sp _ _ _); exact rfl; exact rfl; exact Split.auto; rintro _ _ ⟨rfl, rfl⟩) | (apply St_call (hf := hg); exact rfl; exact rfl; exact Split.auto; rintro _ _ ⟨rfl, rfl⟩) | (apply St_regionQ; kernel_rfl; kernel_rfl) | (apply Sq_call (hf := hep); exact rfl; exact rfl; exact Split.auto; (rintro _ _ ⟨rfl, rfl⟩; exact ⟨rfl, _, by exact Split.auto⟩)) | (apply St_rd; exact rfl; (first | (apply Rd_subV; exact rfl; exact rfl; exact hi; omega) | (apply Rd_loadA tb; exact rfl; exact rfl; exact rfl; exact Has.auto; exact hroom; exact hld))) | (apply Sq_rd; exact rfl; (first | (apply Rd_subV; exact rfl; exact rfl; exact hi; omega) | (apply Rd_loadA tb; exact rfl; exact rfl; exact rfl; exact Has.auto; exact hroom; exact hld))) | (refine St_step ?_; (try with_reducible intro _)) | (refine St_step2 ?_ ?_ <;> (intro hb; (try simp only [beq_iff_eq, bne_iff_ne, decide_eq_true_eq, decide_eq_false_iff_not, Bool.not_eq_true', Bool.not_eq_false', beq_eq_false_iff_ne, bne_eq_false_iff_eq, ne_eq, Int.not_lt, Int.not_le, gt_iff_lt, ge_iff_le] at hb); (try (first | exact Bool.noConfusion hb | exact absurd trivial hb | (exfalso; omega))))) | fail)
    all_goals first | (exfalso; omega) | skip
    all_goals refine St_pePut (ids := ids) (ks := s.ks) (k := k) hx hil (by exact Split.auto) ?_
    all_goals rw [hset]
    all_goals refine St_slMk (sz := 2) (n := s.ks.length) (cap := c) (pre := pre) (cs := ids.flatMap idv) (rest := rest) (by exact Has.auto) hcap hrest hlen ?_
    all_goals refine St_sqMk (b := b) (lb := lb) (s := s) (v := .slice (some ⟨b2, pre.length, none⟩) s.ks.length c) (ids := ids) hz (by exact Split.auto) ?_
    all_goals exact St_ret1 (.inl rfl) rfl rfl ⟨rfl, rfl⟩ (by exact Split.auto)
  rw [if_neg hst] at eE
  rw [eE, eH eE]
  have hkh := lkHear_sp x.1 k.1 f hkm.1
  obtain ⟨T, hT⟩ : ∃ T, T = (lkHear k.1 f).rc.q.foldl (takeOne s.c src) s.l := ⟨_, rfl⟩
  rw [← hT]
  have hq : ∀ d ∈ (lkHear k.1 f).rc.q, d.length ≤ 1000000 := fun d hd => by
    rw [lkHear_q hkm.2.2.1 d hd]; omega
  have hqn : (lkHear k.1 f).rc.q.length ≤ 16 := by
    have := (lkOk_hear hkm.1 hfi).rc
    have h1 := this.q; have h2 := this.rr; omega
  have hI : HearI s.c src T (lkHear k.1 f).rc.q s.l := ⟨hT.symm, hq, hs.l, by omega⟩
  generalize hk1 : lkHear k.1 f = k1 at *
  have hpop := fun q => lkPop_sp x.1 (lkQ k1 q)
  have hpop0 := lkPop_sp x.1 k1
  obtain ⟨at_, hat⟩ : ∃ a, a = if lkAnew k.1 f then 0 else k.2 := ⟨_, rfl⟩
  rw [← hat]
  have hcfg5 : (cfgC s.c ++ [.pointer (some ⟨lb, 0, none⟩), .slice (some ⟨b2, pre.length, none⟩) s.ks.length c])[0 + 0 + 4]? = some (.int .i64 s.c.mtu) := rfl
  cases han : lkAnew k.1 f
  all_goals
    rw [han] at hkh hat
    simp only [if_true, Bool.false_eq_true, if_false] at hat
    repeat' (first | (apply St_call (hf := sin_sp _ _ _); exact rfl; exact rfl; exact Split.auto; rintro _ _ ⟨rfl, rfl⟩) | (apply St_call (hf := hg); exact rfl; exact rfl; exact Split.auto; rintro _ _ ⟨rfl, rfl⟩) | (apply St_regionQ; kernel_rfl; kernel_rfl) | (apply Sq_call (hf := hep); exact rfl; exact rfl; exact Split.auto; (rintro _ _ ⟨rfl, rfl⟩; exact ⟨rfl, _, by exact Split.auto⟩)) | (apply St_call (hf := hkh); exact rfl; exact rfl; exact Split.auto; rintro _ _ ⟨rfl, rfl⟩) | (apply St_call (hf := fdReset_sp x.2 k.2); exact rfl; exact rfl; exact Split.auto; rintro _ _ ⟨rfl, rfl⟩) | (apply St_call (hf := hpop0); exact rfl; exact rfl; exact Split.auto; rintro _ _ ⟨rfl, rfl⟩) | (apply St_rd; exact rfl; (first | (apply Rd_subV; exact rfl; exact rfl; exact hi; omega) | (apply Rd_loadA tb; exact rfl; exact rfl; exact rfl; exact Has.auto; exact hroom; exact hld))) | (apply Sq_rd; exact rfl; (first | (apply Rd_subV; exact rfl; exact rfl; exact hi; omega) | (apply Rd_loadA tb; exact rfl; exact rfl; exact rfl; exact Has.auto; exact hroom; exact hld))) | (refine St_step ?_; (try with_reducible intro _)) | (refine St_step2 ?_ ?_ <;> (intro hb; (try simp only [beq_iff_eq, bne_iff_ne, decide_eq_true_eq, decide_eq_false_iff_not, Bool.not_eq_true', Bool.not_eq_false', beq_eq_false_iff_ne, bne_eq_false_iff_eq, ne_eq, Int.not_lt, Int.not_le, gt_iff_lt, ge_iff_le] at hb); (try (first | exact Bool.noConfusion hb | exact absurd trivial hb | (exfalso; omega))))) | fail)
    all_goals first | (exfalso; omega) | skip
    (refine St_loop (fun (y : List (List UInt8) × List Ro) => HearI s.c src T y.1 y.2) (fun y => [(0, .pointer (some ⟨b, 0, none⟩)), (1, .int .i64 src), (9, .pointer (some ⟨_, 0, none⟩)), (10, str (y.1.headD [])), (11, .bool (!y.1.isEmpty))]) (fun y => [cel false _ 56 (idv x), LkP x.1 (lkQ k1 (y.1.drop 1)), cel false b 50 (cfgC s.c ++ [.pointer (some ⟨lb, 0, none⟩), .slice (some ⟨b2, pre.length, none⟩) s.ks.length c]), LgP lb s.c.clients.toNat y.2, FdP x.2 _, cel false b2 56 (pre ++ ids.flatMap idv ++ rest), big ((List.zipWith PeP ids s.ks).set i emp), GB, big F]) (fun y => y.1.length) (k1.rc.q, s.l) hI ⟨rfl, rfl, rfl, rfl, rfl, trivial⟩ (by exact Split.auto) ?_)
    rintro ⟨q, l⟩ ⟨g1, g2, g3, g4⟩
    dsimp only at g1 g2 g3 g4 ⊢
    cases q with
    | nil =>
      have g1 : l = T := g1
      subst g1
      repeat' (first | (refine St_step ?_; (try with_reducible intro _)) | (refine St_step2 ?_ ?_ <;> (intro hb; (try simp only [beq_iff_eq, bne_iff_ne, decide_eq_true_eq, decide_eq_false_iff_not, Bool.not_eq_true', Bool.not_eq_false', beq_eq_false_iff_ne, bne_eq_false_iff_eq, ne_eq, Int.not_lt, Int.not_le, gt_iff_lt, ge_iff_le] at hb); (try (first | exact Bool.noConfusion hb | exact absurd trivial hb | (exfalso; omega))))) | fail)
      refine St_pePut (ids := ids) (ks := s.ks) (k := (lkQ k1 [], _)) hx hil (by exact Split.auto) ?_
      refine St_slMk (sz := 2) (n := s.ks.length) (cap := c) (pre := pre) (cs := ids.flatMap idv) (rest := rest) (by exact Has.auto) hcap hrest hlen ?_
      have hsl : (s.ks.set i (lkQ k1 [], at_)).length = s.ks.length := by simp
      refine St_sqMk (b := b) (lb := lb) (s := ⟨s.c, l, s.ks.set i (lkQ k1 [], at_)⟩) (v := .slice (some ⟨b2, pre.length, none⟩) s.ks.length c) (ids := ids) (by rw [hsl]; exact hz) (by dsimp only; rw [hsl, hat]; exact Split.auto) ?_
      exact St_ret1 (.inl rfl) rfl rfl ⟨rfl, by rw [hat]⟩ (by rw [← hat]; exact Split.auto)
    | cons d q' =>
      have hd := g2 d List.mem_cons_self
      have cg := rGet_sp d hd
      have g1 : q'.foldl (takeOne s.c src) (takeOne s.c src l d) = T := g1
      have hnext : HearI s.c src T q' (takeOne s.c src l d) := ⟨g1, fun x hx => g2 x (List.mem_cons_of_mem _ hx), takeOne_ok g3 d, by have := takeOne_len s.c src l d; simp only [List.length_cons] at g4; omega⟩
      have hp := hpop q'
      have hlast := lastOf_le (lgOk_mem g3)
      obtain ⟨r, e, hre⟩ : ∃ r e, rget d = (r, e) := ⟨_, _, rfl⟩
      rw [hre] at cg
      have htk : takeOne s.c src l d = if e = 0 ∧ r.origin = src ∧ rfits r.ups s.c.mtu = true then lgAdd s.c.clients.toNat l r else l := by unfold takeOne; rw [hre]
      dsimp only at cg
      refine St_val (t := 10) (v' := str d) rfl rfl ?_
      refine St_val (t := 11) (v' := .bool true) rfl rfl ?_
      repeat' (first | (apply St_call (hf := cg); exact rfl; exact rfl; exact Split.auto; rintro _ _ ⟨v, rfl, rfl⟩; refine St_rsIs (r := true) (v := v) (n := r.ups.length) (cs := r.ups.flatMap uv) (by exact Has.auto) ?_; rintro Av cv rfl) | (refine St_step ?_; (try with_reducible intro _)) | (refine St_step2 ?_ ?_ <;> (intro hb; (try simp only [beq_iff_eq, bne_iff_ne, decide_eq_true_eq, decide_eq_false_iff_not, Bool.not_eq_true', Bool.not_eq_false', beq_eq_false_iff_ne, bne_eq_false_iff_eq, ne_eq, Int.not_lt, Int.not_le, gt_iff_lt, ge_iff_le] at hb); (try (first | exact Bool.noConfusion hb | exact absurd trivial hb | (exfalso; omega))))) | fail)
      rename_i rb
      have cf := rFits_sp true r.ups (.slice Av r.ups.length cv) s.c.mtu
      have cadd := lgAdd_sp true lb s.c.clients.toNat l r (.slice Av r.ups.length cv) (by omega) (by omega) hlast
      clear g2 hlast
      by_cases hyes : e = 0 ∧ r.origin = src ∧ rfits r.ups s.c.mtu = true
      · rw [if_pos hyes] at htk
        obtain ⟨y1, y2, y3⟩ := hyes
        rw [y3] at cf
        repeat' (first | (apply St_regionA (5) ([cel false b 50 (cfgC s.c ++ [.pointer (some ⟨lb, 0, none⟩), .slice (some ⟨b2, pre.length, none⟩) s.ks.length c]), cel false rb 62 (rv r (.slice Av r.ups.length cv))]); kernel_rfl; (apply Sa_take 0; exact rfl; kernel_rfl; exact PanicOk.auto; exact rfl; (first | exact Rd_auto)); (apply Sa_take 1; exact rfl; kernel_rfl; exact PanicOk.auto; exact rfl; (first | exact Rd_auto)); (apply Sa_take 2; exact rfl; kernel_rfl; exact PanicOk.auto; exact rfl; (first | exact Rd_auto)); (apply Sa_take 3; exact rfl; kernel_rfl; exact PanicOk.auto; exact rfl; (first | exact Rd_auto)); (apply Sa_take 4; exact rfl; kernel_rfl; exact PanicOk.auto; exact rfl; (first | exact Rd_auto)); (apply Sa_one (i := 5); kernel_rfl; exact .inr (by exact Split.auto)); (apply Sa_op; exact rfl; exact rfl); (first | (apply St_call (hf := cadd); exact rfl; exact rfl; exact Split.auto; rintro _ _ ⟨rfl, rfl⟩) | (refine St_step ?_; (try with_reducible intro _)) | (refine St_step2 ?_ ?_ <;> (intro hb; (try simp only [beq_iff_eq, bne_iff_ne, decide_eq_true_eq, decide_eq_false_iff_not, Bool.not_eq_true', Bool.not_eq_false', beq_eq_false_iff_ne, bne_eq_false_iff_eq, ne_eq, Int.not_lt, Int.not_le, gt_iff_lt, ge_iff_le] at hb); (try (first | exact Bool.noConfusion hb | exact absurd trivial hb | (exfalso; omega))))) | fail); (apply Sa_done (R := []); kernel_rfl; refine .inl ?_; kernel_rfl)) | (apply St_regionQ; kernel_rfl; kernel_rfl) | (apply Sq_call (hf := cf); exact rfl; exact rfl; exact Split.auto; (rintro _ _ ⟨rfl, rfl⟩; exact ⟨rfl, _, by exact Split.auto⟩)) | (apply St_call (hf := hp); exact rfl; exact rfl; exact Split.auto; rintro _ _ ⟨rfl, rfl⟩) | (refine St_step ?_; (try with_reducible intro _)) | (refine St_step2 ?_ ?_ <;> (intro hb; (try simp only [beq_iff_eq, bne_iff_ne, decide_eq_true_eq, decide_eq_false_iff_not, Bool.not_eq_true', Bool.not_eq_false', beq_eq_false_iff_ne, bne_eq_false_iff_eq, ne_eq, Int.not_lt, Int.not_le, gt_iff_lt, ge_iff_le] at hb); (try (first | exact Bool.noConfusion hb | exact absurd trivial hb | (exfalso; omega))))) | fail)
        all_goals first | (exfalso; omega) | skip
        rw [htk] at hnext
        exact St_at (q', lgAdd s.c.clients.toNat l r) ⟨hnext, by show q'.length < (d :: q').length; simp⟩ ⟨rfl, rfl, rfl, rfl, rfl, trivial⟩ (by exact Split.auto)
      · rw [if_neg hyes] at htk
        by_cases y1 : e = 0
        · by_cases y2 : r.origin = src
          · have y3 : rfits r.ups s.c.mtu = false := by
              cases h : rfits r.ups s.c.mtu with
              | false => rfl
              | true => exact absurd ⟨y1, y2, h⟩ hyes
            rw [y3] at cf
            repeat' (first | (apply St_regionQ; kernel_rfl; kernel_rfl) | (apply Sq_call (hf := cf); exact rfl; exact rfl; exact Split.auto; (rintro _ _ ⟨rfl, rfl⟩; exact ⟨rfl, _, by exact Split.auto⟩)) | (apply St_call (hf := hp); exact rfl; exact rfl; exact Split.auto; rintro _ _ ⟨rfl, rfl⟩) | (refine St_step ?_; (try with_reducible intro _)) | (refine St_step2 ?_ ?_ <;> (intro hb; (try simp only [beq_iff_eq, bne_iff_ne, decide_eq_true_eq, decide_eq_false_iff_not, Bool.not_eq_true', Bool.not_eq_false', beq_eq_false_iff_ne, bne_eq_false_iff_eq, ne_eq, Int.not_lt, Int.not_le, gt_iff_lt, ge_iff_le] at hb); (try (first | exact Bool.noConfusion hb | exact absurd trivial hb | (exfalso; omega))))) | fail)
            all_goals first | (exfalso; omega) | skip
            rw [htk] at hnext
            exact St_at (q', l) ⟨hnext, by show q'.length < (d :: q').length; simp⟩ ⟨rfl, rfl, rfl, rfl, rfl, trivial⟩ (by exact Split.auto)
          · repeat' (first | (apply St_regionQ; kernel_rfl; kernel_rfl) | (apply St_call (hf := hp); exact rfl; exact rfl; exact Split.auto; rintro _ _ ⟨rfl, rfl⟩) | (refine St_step ?_; (try with_reducible intro _)) | (refine St_step2 ?_ ?_ <;> (intro hb; (try simp only [beq_iff_eq, bne_iff_ne, decide_eq_true_eq, decide_eq_false_iff_not, Bool.not_eq_true', Bool.not_eq_false', beq_eq_false_iff_ne, bne_eq_false_iff_eq, ne_eq, Int.not_lt, Int.not_le, gt_iff_lt, ge_iff_le] at hb); (try (first | exact Bool.noConfusion hb | exact absurd trivial hb | (exfalso; omega))))) | fail)
            all_goals first | (exfalso; omega) | skip
            rw [htk] at hnext
            exact St_at (q', l) ⟨hnext, by show q'.length < (d :: q').length; simp⟩ ⟨rfl, rfl, rfl, rfl, rfl, trivial⟩ (by exact Split.auto)
        · repeat' (first | (apply St_regionQ; kernel_rfl; kernel_rfl) | (apply St_call (hf := hp); exact rfl; exact rfl; exact Split.auto; rintro _ _ ⟨rfl, rfl⟩) | (refine St_step ?_; (try with_reducible intro _)) | (refine St_step2 ?_ ?_ <;> (intro hb; (try simp only [beq_iff_eq, bne_iff_ne, decide_eq_true_eq, decide_eq_false_iff_not, Bool.not_eq_true', Bool.not_eq_false', beq_eq_false_iff_ne, bne_eq_false_iff_eq, ne_eq, Int.not_lt, Int.not_le, gt_iff_lt, ge_iff_le] at hb); (try (first | exact Bool.noConfusion hb | exact absurd trivial hb | (exfalso; omega))))) | fail)
          all_goals first | (exfalso; omega) | skip
          rw [htk] at hnext
          exact St_at (q', l) ⟨hnext, by show q'.length < (d :: q').length; simp⟩ ⟨rfl, rfl, rfl, rfl, rfl, trivial⟩ (by exact Split.auto)
end Go.Proofs.YtfjnacakpeommaaDoor
