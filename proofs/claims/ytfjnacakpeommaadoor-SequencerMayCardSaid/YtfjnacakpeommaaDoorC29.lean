/- What holds of a sequencer, whatever comes; chapbookref16.May, chapbookref07.Bytes of what deletes; chapbooklaw16's config and awake. -/
import Derived.Test.YtfjnacakpeommaaDoorC26
namespace Go.Proofs.YtfjnacakpeommaaDoor
open Go SL Pl
set_option autoImplicit false
set_option maxRecDepth 100000
set_option linter.unusedSimpArgs false
set_option linter.unusedVariables false
attribute [local irreducible] St Sq Exec QExec wpList wpQuiet Code.wp Exit.then Exit.inBlock bodyPost At Rd wpOp Wa QK GB
/-- Of a client's link: what waits is short, its window is the configuration's. -/
structure psOk (c : Cfg) (k : Lk) : Prop where
  d : ∀ d ∈ k.sd.ps, d.length ≤ 1000
  w : k.win = c.window
  s : k.sd.win = c.window.toNat
structure sqIn (s : Sqr) : Prop where
  ok : sqOk s
  ps : ∀ k ∈ s.ks, psOk s.c k.1
theorem sdNew_win {c : Cfg} (h : cfgOk c) (l : Int) : (sdNew c.window l).win = c.window.toNat := by
  obtain ⟨_, ⟨h1, h2⟩, _⟩ := h
  show (clampN c.window 1 16).toNat = _
  unfold clampN; rw [if_neg (by omega), if_neg (by omega)]
theorem sqIn_new {c : Cfg} (h : cfgOk c) : sqIn (sqNew c) := by
  refine ⟨⟨h, by simp [sqNew], fun k hk => ?_, lgOk_nil _⟩, fun k hk => ?_⟩
  · have := List.eq_of_mem_replicate hk
    subst this
    exact ⟨lkOk_new _ _ _ _, Nat.zero_le _, rfl, rfl⟩
  · have := List.eq_of_mem_replicate hk
    subst this
    exact ⟨fun d hd => (by cases hd), rfl, sdNew_win h _⟩
theorem rput_len (r : Ro) : (rput r).1.length ≤ 1000 := by
  unfold rput
  split
  · simp
  · rename_i h
    exact rbytes_len (by omega)
theorem sdOffer_in {s : Sd} (h : ∀ d ∈ s.ps, d.length ≤ 1000) {d : List UInt8} (hd : d.length ≤ 1000) : (∀ y ∈ (sdOffer s d).1.ps, y.length ≤ 1000) ∧ (sdOffer s d).1.win = s.win := by
  unfold sdOffer
  split
  · exact ⟨h, rfl⟩
  · split
    · exact ⟨h, rfl⟩
    · refine ⟨fun x hx => ?_, rfl⟩
      rcases List.mem_append.1 hx with q | q
      · exact h x q
      · have e := List.mem_singleton.1 q
        exact e ▸ hd
theorem pumpN_in (l : List Ro) : ∀ (n i : Nat) {s : Sd}, (∀ d ∈ s.ps, d.length ≤ 1000) → (∀ d ∈ (pumpN l n i s).2.ps, d.length ≤ 1000) ∧ (pumpN l n i s).2.win = s.win
  | 0, _, _, h => ⟨h, rfl⟩
  | n + 1, i, s, h => by
    unfold pumpN
    split
    · exact ⟨h, rfl⟩
    · rename_i r _
      split
      · exact ⟨h, rfl⟩
      · have h1 := sdOffer_in h (rput_len r)
        have h2 := pumpN_in l n (i + 1) (s := (sdOffer s (rput r).1).1) h1.1
        exact ⟨h2.1, h2.2.trans h1.2⟩
theorem lkHear_in {c : Cfg} (hc : cfgOk c) {k : Lk} (h : psOk c k) (hp : k.pas = true) (f : Fr) : psOk c (lkHear k f) ∧ (lkHear k f).pas = true := by
  by_cases hst : f.ep < k.ep ∨ ((k.ep : Int) < f.ep ∧ k.pas = false)
  · rw [lkHear_stay hst]; exact ⟨h, hp⟩
  · rw [lkHear_go hst]
    have h1 : psOk c (if lkAnew k f = true then lkFresh k f.ep else k) ∧ (if lkAnew k f = true then lkFresh k f.ep else k).pas = true := by
      split
      · refine ⟨⟨fun d hd => (by cases hd), h.w, ?_⟩, hp⟩
        show (sdNew k.win _).win = _
        rw [h.w]; exact sdNew_win hc _
      · exact ⟨h, hp⟩
    generalize (if lkAnew k f = true then lkFresh k f.ep else k) = k1 at *
    exact ⟨⟨fun d hd => h1.1.d d (List.mem_of_mem_drop hd), h1.1.w, h1.1.s⟩, h1.2⟩
theorem fold_ok {c : Cfg} {src : Int} : ∀ (q : List (List UInt8)) {l : List Ro}, lgOk c.clients.toNat l → lgOk c.clients.toNat (q.foldl (takeOne c src) l)
  | [], _, h => h
  | d :: q, l, h => fold_ok q (takeOne_ok h d)
theorem takeOne_grows (c : Cfg) (src : Int) (l : List Ro) (d : List UInt8) : ∃ x, takeOne c src l d = l ++ x ∧ ∀ r ∈ x, r.origin = src := by
  unfold takeOne
  split
  · rename_i h
    unfold lgAdd
    split
    · exact ⟨[], by simp, fun r hr => (by cases hr)⟩
    · exact ⟨[(rget d).1], rfl, fun r hr => by rw [List.mem_singleton.1 hr]; exact h.2.1⟩
  · exact ⟨[], by simp, fun r hr => (by cases hr)⟩
theorem fold_grows (c : Cfg) (src : Int) : ∀ (q : List (List UInt8)) (l : List Ro), ∃ x, q.foldl (takeOne c src) l = l ++ x ∧ x.length ≤ q.length ∧ ∀ r ∈ x, r.origin = src
  | [], l => ⟨[], by simp, Nat.le_refl _, fun r hr => (by cases hr)⟩
  | d :: q, l => by
    obtain ⟨x, hx, hs⟩ := takeOne_grows c src l d
    have hlen := takeOne_len c src l d
    obtain ⟨y, hy, hn, hs2⟩ := fold_grows c src q (takeOne c src l d)
    refine ⟨x ++ y, ?_, ?_, fun r hr => ?_⟩
    · rw [List.foldl_cons, hy, hx, List.append_assoc]
    · rw [hx] at hlen; simp at hlen ⊢; omega
    · rcases List.mem_append.1 hr with q | q
      · exact hs r q
      · exact hs2 r q
theorem lkHear_qlen {k : Lk} {f : Fr} (h : k.rc.q = []) : (lkHear k f).rc.q.length ≤ 1 := by
  by_cases hst : f.ep < k.ep ∨ ((k.ep : Int) < f.ep ∧ k.pas = false)
  · rw [lkHear_stay hst, h]; simp
  · rw [lkHear_go hst]
    have h1 : (if lkAnew k f = true then lkFresh k f.ep else k).rc.q = [] := by
      split
      · rfl
      · exact h
    generalize (if lkAnew k f = true then lkFresh k f.ep else k) = k1 at *
    dsimp only
    split
    · rw [h1]; simp
    · unfold rcHear
      split
      · rw [h1]; simp
      · rw [h1]; simp
theorem sqErr_src {s : Sqr} {src : Int} {b : List UInt8} (h : sqErr s src b = 0) : (1 ≤ src ∧ src ≤ s.c.clients) ∧ (fget b).2 = 0 := by
  unfold sqErr at h
  split at h
  · cases h
  · rename_i h1
    split at h
    · rename_i h2; exact absurd h h2
    · exact ⟨by omega, by omega⟩
theorem sqHear_grows {s : Sqr} (hs : sqIn s) (src : Int) (b : List UInt8) : (sqHear s src b).c = s.c ∧ ∃ x, (sqHear s src b).l = s.l ++ x ∧ x.length ≤ 1 ∧ ∀ r ∈ x, r.origin = src := by
  unfold sqHear
  split
  · exact ⟨rfl, [], by simp, by simp, fun r hr => (by cases hr)⟩
  · split
    · exact ⟨rfl, [], by simp, by simp, fun r hr => (by cases hr)⟩
    · rename_i k hk
      obtain ⟨x, h1, h2, h3⟩ := fold_grows s.c src (lkHear k.1 (fget b).1).rc.q s.l
      have := lkHear_qlen (f := (fget b).1) (hs.ok.ks k (List.mem_of_getElem? hk)).2.2.1
      exact ⟨rfl, x, h1, by omega, h3⟩
theorem sqHear_len {s : Sqr} (hs : sqIn s) (src : Int) (b : List UInt8) : (sqHear s src b).l.length ≤ s.l.length + 1 := by
  obtain ⟨_, x, h1, h2, _⟩ := sqHear_grows hs src b
  rw [h1, List.length_append]; omega
theorem sqIn_hear {s : Sqr} (hs : sqIn s) (src : Int) (b : List UInt8) : sqIn (sqHear s src b) := by
  obtain ⟨hcc, xx, hl, _⟩ := sqHear_grows hs src b
  by_cases he : sqErr s src b = 0
  case neg => unfold sqHear; rw [if_pos he]; exact hs
  case pos =>
    cases hk : s.ks[(src - 1).toNat]? with
    | none => unfold sqHear; rw [if_neg (fun h => h he), hk]; exact hs
    | some k =>
      unfold sqHear at hl ⊢
      rw [if_neg (fun h => h he), hk] at hl ⊢
      have hkm := hs.ok.ks k (List.mem_of_getElem? hk)
      have hpm := hs.ps k (List.mem_of_getElem? hk)
      have hgi := (fget_frIn (sqErr_src he).2).1
      have h1 := lkOk_hear hkm.1 hgi
      have h2 := lkHear_in hs.ok.c hpm hkm.2.2.2 (fget b).1
      dsimp only at *
      refine ⟨⟨hs.ok.c, ?_, fun k' hk' => ?_, fold_ok _ hs.ok.l⟩, fun k' hk' => ?_⟩
      · show (List.set _ _ _).length = _
        rw [List.length_set]; exact hs.ok.n
      · rcases List.mem_or_eq_of_mem_set hk' with q | q
        · have := hs.ok.ks k' q
          refine ⟨this.1, ?_, this.2.2⟩
          show _ ≤ (List.foldl (takeOne s.c src) s.l (lkHear k.1 (fget b).1).rc.q).length
          rw [hl, List.length_append]; omega
        · subst q
          refine ⟨⟨h1.sd, ⟨h1.rc.r1, h1.rc.rr, Nat.zero_le _, h1.rc.a⟩, h1.ep⟩, ?_, rfl, h2.2⟩
          show _ ≤ (List.foldl (takeOne s.c src) s.l (lkHear k.1 (fget b).1).rc.q).length
          rw [hl, List.length_append]
          have := hkm.2.1
          dsimp only
          split <;> omega
      · rcases List.mem_or_eq_of_mem_set hk' with q | q
        · exact hs.ps k' q
        · subst q
          exact ⟨h2.1.d, h2.1.w, h2.1.s⟩
theorem sqIn_tick {s : Sqr} (hs : sqIn s) : sqIn (sqTick s) := by
  refine ⟨⟨hs.ok.c, by simp [sqTick]; exact hs.ok.n, fun k hk => ?_, hs.ok.l⟩, fun k hk => ?_⟩
  · obtain ⟨x, hx, rfl⟩ := List.mem_map.1 hk
    have h := hs.ok.ks x hx
    refine ⟨⟨pumpN_ok _ _ _ h.1.sd, h.1.rc, h.1.ep⟩, ?_, h.2.2⟩
    have := (pumpN_le s.l (s.l.length - x.2) x.2 x.1.sd).2
    show (pumpN s.l (s.l.length - x.2) x.2 x.1.sd).1 ≤ s.l.length
    omega
  · obtain ⟨x, hx, rfl⟩ := List.mem_map.1 hk
    have h := hs.ps x hx
    have h1 := pumpN_in s.l (s.l.length - x.2) x.2 h.d
    exact ⟨h1.1, h.w, h1.2.trans h.s⟩
theorem frames1_data (ep ack : Nat) : ∀ (l : List (List UInt8)) (n : Nat), ∀ f ∈ frames1 ep ack n l, f.data ∈ l
  | [], _, f, hf => by cases hf
  | d :: l, n, f, hf => by
    rw [frames1] at hf
    rcases List.mem_cons.1 hf with rfl | h
    · exact List.mem_cons_self
    · exact List.mem_cons_of_mem _ (frames1_data ep ack l (n + 1) f h)
theorem lkFrames_data {k : Lk} {n : Nat} (h : ∀ d ∈ k.sd.ps, d.length ≤ n) : ∀ f ∈ lkFrames k, f.data.length ≤ n := by
  intro f hf
  unfold lkFrames at hf
  split at hf
  · cases hf
  · split at hf
    · rw [List.mem_singleton.1 hf]; exact Nat.zero_le _
    · exact h _ (frames1_data _ _ _ _ f hf)
/-- Hear and Tick, of a sequencer of which all this holds. -/
theorem sHear_in (b : Nat) (s : Sqr) (src : Int) (bs : List UInt8) (hs : sqIn s) (hb0 : bs.length ≤ 100000) (hl : s.l.length ≤ 900000) :
    Sp Tryd.prog 10 [.pointer (some ⟨b, 0, none⟩), .int .i64 src, str bs] [SqP b s, GB] (fun w M => w = nat .i64 (sqErr s src bs) ∧ M = [SqP b (sqHear s src bs), GB]) :=
  sHear_sp b s src bs hs.ok hb0 hl
theorem sTick_in (b : Nat) (s : Sqr) (hs : sqIn s) (hl : s.l.length ≤ 900000) :
    Sp Tryd.prog 11 [.pointer (some ⟨b, 0, none⟩)] [SqP b s, GB] (fun w M => (∃ A c, w = .slice A (sqPks s).length c) ∧ M = [RS true w (sqPks s).length ((sqPks s).flatMap kv), SqP b (sqTick s), GB]) :=
  sTick_sp b s hs.ok hl fun i k hk f hf => by
    have h := (sqIn_tick hs).ps (tick1 s k) (List.mem_map_of_mem (List.mem_of_getElem? hk))
    have := lkFrames_data h.d f hf
    omega
/-! chapbookref16.May, chapbookref06.Bytes and chapbookref07.Bytes of what deletes -/
theorem may16_sp (c : Cfg) : Sp Tryd.prog 5 [.agg (cfgC c).toArray] [] (fun v M => v = .bool (decide (cfgOk c)) ∧ M = []) := by
  refine Sp.intro (P := Tryd.prog) (Tryd.func5) rfl Tryd.ntmps5 (by decide) rfl ?_
  intro ρ F
  obtain ⟨a1, a2, a3, a4, a5, a6⟩ := c
  by_cases hc : cfgOk ⟨a1, a2, a3, a4, a5, a6⟩
  · rw [decide_eq_true hc]
    unfold cfgOk at hc
    dsimp only at hc
    repeat' (first | (refine St_step ?_; (try with_reducible intro _)) | (refine St_step2 ?_ ?_ <;> (intro hb; (try simp only [beq_iff_eq, bne_iff_ne, decide_eq_true_eq, decide_eq_false_iff_not, Bool.not_eq_true', Bool.not_eq_false', beq_eq_false_iff_ne, bne_eq_false_iff_eq, ne_eq, Int.not_lt, Int.not_le, gt_iff_lt, ge_iff_le] at hb); (try (first | exact Bool.noConfusion hb | exact absurd trivial hb | (exfalso; omega))))) | fail)
    all_goals first | (exfalso; omega) | (first | contradiction | (exfalso; omega) | (exact St_ret1 (.inl rfl) rfl rfl ⟨rfl, rfl⟩ (by exact Split.auto)) | (exact St_ret2 (.inl rfl) rfl rfl rfl ⟨rfl, rfl⟩ (by exact Split.auto)) | (exact St_ret3 (.inl rfl) rfl rfl rfl rfl ⟨rfl, rfl⟩ (by exact Split.auto))) | (refine St_ret1 (.inl rfl) rfl rfl ⟨?_, rfl⟩ (by exact Split.auto); congr 1; first | (rw [decide_eq_true_eq]; dsimp only; omega) | (rw [decide_eq_false_iff_not]; dsimp only; omega))
  · rw [decide_eq_false hc]
    unfold cfgOk at hc
    dsimp only at hc
    repeat' (first | (refine St_step ?_; (try with_reducible intro _)) | (refine St_step2 ?_ ?_ <;> (intro hb; (try simp only [beq_iff_eq, bne_iff_ne, decide_eq_true_eq, decide_eq_false_iff_not, Bool.not_eq_true', Bool.not_eq_false', beq_eq_false_iff_ne, bne_eq_false_iff_eq, ne_eq, Int.not_lt, Int.not_le, gt_iff_lt, ge_iff_le] at hb); (try (first | exact Bool.noConfusion hb | exact absurd trivial hb | (exfalso; omega))))) | fail)
    all_goals first | (exfalso; omega) | (first | contradiction | (exfalso; omega) | (exact St_ret1 (.inl rfl) rfl rfl ⟨rfl, rfl⟩ (by exact Split.auto)) | (exact St_ret2 (.inl rfl) rfl rfl rfl ⟨rfl, rfl⟩ (by exact Split.auto)) | (exact St_ret3 (.inl rfl) rfl rfl rfl rfl ⟨rfl, rfl⟩ (by exact Split.auto))) | (refine St_ret1 (.inl rfl) rfl rfl ⟨?_, rfl⟩ (by exact Split.auto); congr 1; first | (rw [decide_eq_true_eq]; dsimp only; omega) | (rw [decide_eq_false_iff_not]; dsimp only; omega))
theorem bytes06_sp (u : Up) (hk : u.kind = 5) (hl : u.key.length ≤ 1000) : Sp Tryd.prog 44 [.agg (uv u).toArray] [] (fun v M => v = str (ubytes u) ∧ M = []) := by
  refine Sp.intro (P := Tryd.prog) (Tryd.func44) rfl Tryd.ntmps44 (by decide) rfl ?_
  intro ρ F
  obtain ⟨key, kind, n, s⟩ := u
  have hk : kind = ((5 : Nat) : Int) := hk
  subst hk
  have hl : key.length ≤ 1000 := hl
  have e : ubytes ⟨key, ((5 : Nat) : Int), n, s⟩ = enc 5 ++ (enc key.length ++ key) := by
    show enc 5 ++ ((enc key.length ++ key) ++ []) = _
    rw [List.append_nil]
  rw [e]
  have w1 := refNumber_sp 5 (by decide)
  have w2 := refText_sp key (by omega)
  have l1 := enc_len 5
  have l2 := enc_len key.length
  generalize hq4 : enc key.length ++ key = q4 at *
  have l5 : q4.length ≤ 1008 := by rw [← hq4]; simp; omega
  generalize enc 5 = q5 at *
  repeat' (first | (apply St_call (hf := w1); exact rfl; exact rfl; exact Split.auto; rintro _ _ ⟨rfl, rfl⟩) | (apply St_call (hf := w2); exact rfl; exact rfl; exact Split.auto; rintro _ _ ⟨rfl, rfl⟩) | (refine St_step ?_; (try with_reducible intro _)) | (refine St_step2 ?_ ?_ <;> (intro hb; (try simp only [beq_iff_eq, bne_iff_ne, decide_eq_true_eq, decide_eq_false_iff_not, Bool.not_eq_true', Bool.not_eq_false', beq_eq_false_iff_ne, bne_eq_false_iff_eq, ne_eq, Int.not_lt, Int.not_le, gt_iff_lt, ge_iff_le] at hb); (try (first | exact Bool.noConfusion hb | exact absurd trivial hb | (exfalso; omega))))) | fail)
  all_goals first | (exfalso; omega) | (first | contradiction | (exfalso; omega) | (exact St_ret1 (.inl rfl) rfl rfl ⟨rfl, rfl⟩ (by exact Split.auto)) | (exact St_ret2 (.inl rfl) rfl rfl rfl ⟨rfl, rfl⟩ (by exact Split.auto)) | (exact St_ret3 (.inl rfl) rfl rfl rfl rfl ⟨rfl, rfl⟩ (by exact Split.auto)))
theorem flat_len {α β : Type} {f : α → List β} (n : Nat) : ∀ (l : List α), (∀ x ∈ l, (f x).length ≤ n) → (l.flatMap f).length ≤ n * l.length
  | [], _ => Nat.zero_le _
  | x :: l, h => by
    have h1 := h x List.mem_cons_self
    have h2 := flat_len n l fun y hy => h y (List.mem_cons_of_mem _ hy)
    rw [List.flatMap_cons, List.length_append, List.length_cons, Nat.mul_succ]
    omega
theorem bytes07_sp (q : Bool) (r : Ro) (v : Value) (a b : Nat) (ha : r.origin = a) (hb : r.number = b) (ha1 : a < 4611686018427387904) (hb1 : b < 4611686018427387904) (hl : r.ups.length ≤ 1000) (hu : ∀ u ∈ r.ups, u.kind = 5 ∧ u.key.length ≤ 16) :
    Sp Tryd.prog 19 [.agg (rv r v).toArray] [UL q v r.ups] (fun w M => w = str (rbytes r) ∧ M = [UL q v r.ups]) := by
  refine Sp.intro (P := Tryd.prog) (Tryd.func19) rfl Tryd.ntmps19 (by decide) rfl ?_
  intro ρ F
  refine St_rsIs (by exact Has.auto) ?_
  rintro A c rfl
  obtain ⟨o, n, l⟩ := r
  have ha : o = a := ha
  have hb : n = b := hb
  have hl : l.length ≤ 1000 := hl
  have hu : ∀ u ∈ l, u.kind = 5 ∧ u.key.length ≤ 16 := hu
  subst ha hb
  have w1 := refNumber_sp a ha1
  have w2 := refNumber_sp b hb1
  have w3 := refNumber_sp l.length (by omega)
  have l1 := enc_len a; have l2 := enc_len b; have l3 := enc_len l.length
  have e : rbytes ⟨a, b, l⟩ = (enc a ++ enc b ++ enc l.length) ++ l.flatMap ubytes := rfl
  rw [e]
  have hlen : ∀ x ∈ l, (ubytes x).length ≤ 100 := by
    intro x hx
    obtain ⟨g1, g2⟩ := hu x hx
    have m1 := enc_len x.kind.toNat; have m2 := enc_len x.key.length
    have : utail x = [] := by unfold utail; rw [if_neg (by omega), if_neg (by omega)]
    simp only [ubytes, this, List.length_append, List.length_nil]
    omega
  have lh : (enc a ++ enc b ++ enc l.length).length ≤ 24 := by simp only [List.length_append]; omega
  repeat' (first | (apply St_call (hf := w1); exact rfl; exact rfl; exact Split.auto; rintro _ _ ⟨rfl, rfl⟩) | (apply St_call (hf := w2); exact rfl; exact rfl; exact Split.auto; rintro _ _ ⟨rfl, rfl⟩) | (apply St_call (hf := w3); exact rfl; exact rfl; exact Split.auto; rintro _ _ ⟨rfl, rfl⟩) | (apply St_rd; exact rfl; (first | (apply Rd_cat; exact rfl; exact rfl; (simp only [List.length_append]; omega)))) | (apply Sq_rd; exact rfl; (first | (apply Rd_cat; exact rfl; exact rfl; (simp only [List.length_append]; omega)))) | (refine St_step ?_; (try with_reducible intro _)) | (refine St_step2 ?_ ?_ <;> (intro hb; (try simp only [beq_iff_eq, bne_iff_ne, decide_eq_true_eq, decide_eq_false_iff_not, Bool.not_eq_true', Bool.not_eq_false', beq_eq_false_iff_ne, bne_eq_false_iff_eq, ne_eq, Int.not_lt, Int.not_le, gt_iff_lt, ge_iff_le] at hb); (try (first | exact Bool.noConfusion hb | exact absurd trivial hb | (exfalso; omega))))) | fail)
  rename_i xb
  generalize enc a ++ enc b ++ enc l.length = hd at *
  refine St_loop (fun (i : Nat) => i ≤ l.length) (fun i => [(1, .pointer (some ⟨xb, 0, none⟩)), (9, str (hd ++ (l.take i).flatMap ubytes)), (10, nat .i64 i)]) (fun i => [cel false xb 62 (rv ⟨a, b, l⟩ (.slice A l.length c)), UL q (.slice A l.length c) l, big F]) (fun i => l.length - i) 0 (Nat.zero_le _) ⟨rfl, ?_, rfl, trivial⟩ (by exact Split.auto) ?_
  · rw [List.take_zero, List.flatMap_nil, List.append_nil]; rfl
  intro i hi
  have hbl : ((l.take i).flatMap ubytes).length ≤ 100 * (l.take i).length := flat_len _ _ fun x hx => hlen x (List.mem_of_mem_take hx)
  have hti : (l.take i).length ≤ 1000 := by simp; omega
  by_cases hil : i < l.length
  · obtain ⟨u, hux⟩ : ∃ u, l[i]? = some u := ⟨_, List.getElem?_eq_getElem hil⟩
    refine St_rsOpen (by exact Has.auto) (by omega) ?_
    rintro b2 T cap pre rest hv
    injection hv with hv1 hv2 hv3
    subst hv1 hv3
    have hld := flat_at uv_len l i u pre rest hux
    have hroom := flat_room uv_len l i pre rest hil
    have hub := hlen u (List.mem_of_getElem? hux)
    obtain ⟨g1, g2⟩ := hu u (List.mem_of_getElem? hux)
    have hw := bytes06_sp u g1 (by omega)
    have hft : hd ++ (l.take (i + 1)).flatMap ubytes = hd ++ (l.take i).flatMap ubytes ++ ubytes u := by rw [flat_take hux, List.append_assoc]
    repeat' (first | (apply St_call (hf := hw); exact rfl; exact rfl; exact Split.auto; rintro _ _ ⟨rfl, rfl⟩) | (apply St_rd; exact rfl; (first | (apply Rd_loadA tb; exact rfl; exact rfl; exact rfl; exact Has.auto; exact hroom; exact hld) | (apply Rd_cat; exact rfl; exact rfl; (simp only [List.length_append]; omega)))) | (apply Sq_rd; exact rfl; (first | (apply Rd_loadA tb; exact rfl; exact rfl; exact rfl; exact Has.auto; exact hroom; exact hld) | (apply Rd_cat; exact rfl; exact rfl; (simp only [List.length_append]; omega)))) | (refine St_step ?_; (try with_reducible intro _)) | (refine St_step2 ?_ ?_ <;> (intro hb; (try simp only [beq_iff_eq, bne_iff_ne, decide_eq_true_eq, decide_eq_false_iff_not, Bool.not_eq_true', Bool.not_eq_false', beq_eq_false_iff_ne, bne_eq_false_iff_eq, ne_eq, Int.not_lt, Int.not_le, gt_iff_lt, ge_iff_le] at hb); (try (first | exact Bool.noConfusion hb | exact absurd trivial hb | (exfalso; omega))))) | fail)
    refine St_rsMk (n := l.length) (cap := c) (cs := l.flatMap uv) (by exact Has.auto) ?_
    refine St_at (i + 1) ⟨hil, by omega⟩ ⟨rfl, ?_, rfl, trivial⟩ (by exact Split.auto)
    rw [hft]; rfl
  · have hii : i = l.length := by omega
    subst hii
    rw [List.take_length] at *
    repeat' (first | (refine St_step ?_; (try with_reducible intro _)) | (refine St_step2 ?_ ?_ <;> (intro hb; (try simp only [beq_iff_eq, bne_iff_ne, decide_eq_true_eq, decide_eq_false_iff_not, Bool.not_eq_true', Bool.not_eq_false', beq_eq_false_iff_ne, bne_eq_false_iff_eq, ne_eq, Int.not_lt, Int.not_le, gt_iff_lt, ge_iff_le] at hb); (try (first | exact Bool.noConfusion hb | exact absurd trivial hb | (exfalso; omega))))) | fail)
    all_goals (first | contradiction | (exfalso; omega) | (exact St_ret1 (.inl rfl) rfl rfl ⟨rfl, rfl⟩ (by exact Split.auto)) | (exact St_ret2 (.inl rfl) rfl rfl rfl ⟨rfl, rfl⟩ (by exact Split.auto)) | (exact St_ret3 (.inl rfl) rfl rfl rfl rfl ⟨rfl, rfl⟩ (by exact Split.auto)))
/-! chapbooklaw16.config and awake -/
def c0 : Cfg := ⟨2, 2, 4, 4, 100, 100⟩
def awU : Up := ⟨[107], 5, 0, []⟩
def awR : Ro := ⟨1, 1, [awU]⟩
def awF : Fr := ⟨1, 1, 0, rbytes awR⟩
def awB : List UInt8 := fbytes awF
def aw1s : Sqr := sqTick (sqNew c0)
def aw2s : Sqr := sqHear aw1s 1 awB
def aw3s : Sqr := sqHear aw2s 3 awB
def aw4s : Sqr := sqHear aw3s 2 [120]
def aw5s : Sqr := sqTick aw4s
theorem c0_ok : cfgOk c0 := by decide
theorem c00_no : ¬ cfgOk ⟨0, 0, 0, 0, 0, 0⟩ := by decide
theorem aw0i : sqIn (sqNew c0) := sqIn_new c0_ok
theorem aw1i : sqIn aw1s := sqIn_tick aw0i
theorem aw2i : sqIn aw2s := sqIn_hear aw1i _ _
theorem aw3i : sqIn aw3s := sqIn_hear aw2i _ _
theorem aw4i : sqIn aw4s := sqIn_hear aw3i _ _
theorem aw5i : sqIn aw5s := sqIn_tick aw4i
theorem aw2l : aw2s.l.length ≤ 1 := sqHear_len aw1i _ _
theorem aw3l : aw3s.l.length ≤ 2 := by have h1 := aw2l; have h2 := sqHear_len aw2i 3 awB; unfold aw3s; omega
theorem aw4l : aw4s.l.length ≤ 3 := by have h1 := aw3l; have h2 := sqHear_len aw3i 2 [120]; unfold aw4s; omega
theorem awBl : awB.length = 14 := by kernel_rfl
theorem awe1 : (sqPks (sqNew c0)).length = 0 := by kernel_rfl
theorem awe2 : sqErr aw1s 1 awB = 0 := by kernel_rfl
theorem awe3 : sqErr aw2s 3 awB = 11 := by kernel_rfl
theorem awe4 : sqErr aw3s 2 [120] = 6 := by kernel_rfl
theorem awe5 : (sqPks aw4s).length = 1 := by kernel_rfl
theorem awe6 : aw5s.l.length = 1 := by kernel_rfl
theorem awe7 : sqFed aw5s 1 = 1 := by kernel_rfl
theorem awe8 : sqUn aw5s 1 = 1 := by kernel_rfl
theorem awe9 : sqFed aw5s 2 = 1 := by kernel_rfl
theorem awe10 : (sqPks aw4s).map Pk.dst = [1] := by kernel_rfl
theorem config_sp : Sp Tryd.prog 17 [] [] (fun v M => v = .agg (cfgC c0).toArray ∧ M = []) := by
  refine Sp.intro (P := Tryd.prog) (Tryd.func17) rfl Tryd.ntmps17 (by decide) rfl ?_
  intro ρ F
  repeat' (first | (refine St_step ?_; (try with_reducible intro _)) | (refine St_step2 ?_ ?_ <;> (intro hb; (try simp only [beq_iff_eq, bne_iff_ne, decide_eq_true_eq, decide_eq_false_iff_not, Bool.not_eq_true', Bool.not_eq_false', beq_eq_false_iff_ne, bne_eq_false_iff_eq, ne_eq, Int.not_lt, Int.not_le, gt_iff_lt, ge_iff_le] at hb); (try (first | exact Bool.noConfusion hb | exact absurd trivial hb | (exfalso; omega))))) | fail)
  exact St_retC tb (.inl rfl) rfl rfl rfl rfl (by exact Has.auto) rfl ⟨rfl, rfl⟩ (by exact Split.auto)
theorem sNewOk_sp {c : Cfg} (hc : cfgOk c) : Sp Tryd.prog 6 [.agg (cfgC c).toArray] [] (fun w M => ∃ b, w = .tuple [.pointer (some ⟨b, 0, none⟩), nat .i64 0].toArray ∧ M = [SqP b (sqNew c)]) :=
  Sp.conv (sNew_sp c) fun v M h => by
    rcases h with ⟨_, h⟩ | ⟨h, _⟩
    · exact ⟨M, h, fun _ _ _ H => H⟩
    · exact absurd hc h
theorem sNewNo_sp {c : Cfg} (hc : ¬ cfgOk c) : Sp Tryd.prog 6 [.agg (cfgC c).toArray] [] (fun w M => w = .tuple [.pointer none, nat .i64 1].toArray ∧ M = []) :=
  Sp.conv (sNew_sp c) fun v M h => by
    rcases h with ⟨h, _⟩ | ⟨_, h⟩
    · exact absurd h hc
    · exact ⟨M, h, fun _ _ _ H => H⟩
attribute [local irreducible] LkP LgP SqP PeP SdP RcP RdP
set_option maxHeartbeats 4000000 in
theorem awake_sp : Sp Tryd.prog 7 [] [GB] (fun v M => v = .bool true ∧ M = [GB]) := by
  refine Sp.intro (P := Tryd.prog) (Tryd.func7) rfl Tryd.ntmps7 (by decide) rfl ?_
  intro ρ F
  have k1 := sNewOk_sp c0_ok
  have k2 := sNewNo_sp c00_no
  repeat' (first | (apply St_call (hf := config_sp); exact rfl; exact rfl; exact Split.auto; rintro _ _ ⟨rfl, rfl⟩) | (apply St_call (hf := k1); exact rfl; exact rfl; exact Split.auto; rintro _ _ ⟨sb, rfl, rfl⟩) | (apply St_call (hf := k2); exact rfl; exact rfl; exact Split.auto; rintro _ _ ⟨rfl, rfl⟩) | (apply St_rd; exact rfl; (first | (apply Rd_ptrEqNil' tb; exact rfl; exact rfl; exact rfl))) | (apply Sq_rd; exact rfl; (first | (apply Rd_ptrEqNil' tb; exact rfl; exact rfl; exact rfl))) | (refine St_step ?_; (try with_reducible intro _)) | (refine St_step2 ?_ ?_ <;> (intro hb; (try simp only [beq_iff_eq, bne_iff_ne, decide_eq_true_eq, decide_eq_false_iff_not, Bool.not_eq_true', Bool.not_eq_false', beq_eq_false_iff_ne, bne_eq_false_iff_eq, ne_eq, Int.not_lt, Int.not_le, gt_iff_lt, ge_iff_le] at hb); (try (first | exact Bool.noConfusion hb | exact absurd trivial hb | (exfalso; omega))))) | fail)
  rename_i kb xb
  refine St_rsMk (r := false) (b := kb) (n := 1) (cap := 1) (pre := []) (cs := awR.ups.flatMap uv) (rest := []) (by exact Has.auto) ?_
  have h7 := bytes07_sp false awR (.slice (some ⟨kb, 0, none⟩) 1 1) 1 1 rfl rfl (by decide) (by decide) (by decide) (by decide)
  have h9 : Sp Tryd.prog 18 [.agg (fv awF).toArray] [] (fun v M => v = str awB ∧ M = []) := refBytes_sp awF 1 1 0 rfl rfl rfl (by decide) (by decide) (by decide) (by decide)
  have t1 := sTick_in sb (sqNew c0) aw0i (Nat.zero_le _)
  have g1 := sHear_in sb aw1s 1 awB aw1i (by rw [awBl]; decide) (Nat.zero_le _)
  have g2 := sHear_in sb aw2s 3 awB aw2i (by rw [awBl]; decide) (Nat.le_trans aw2l (by decide))
  have g3 := sHear_in sb aw3s 2 [120] aw3i (by decide) (Nat.le_trans aw3l (by decide))
  have t2 := sTick_in sb aw4s aw4i (Nat.le_trans aw4l (by decide))
  obtain ⟨p, hp, hd⟩ : ∃ p, sqPks aw4s = [p] ∧ p.dst = 1 := by
    have e1 := awe5
    have e2 := awe10
    rcases h : sqPks aw4s with _ | ⟨p, _ | ⟨q, l⟩⟩
    · rw [h] at e1; cases e1
    · rw [h] at e2; exact ⟨p, rfl, by injection e2⟩
    · rw [h] at e1; simp at e1
  rw [awe1] at t1; rw [awe2] at g1; rw [awe3] at g2; rw [awe4] at g3; rw [hp] at t2
  have n1 : sqTick (sqNew c0) = aw1s := rfl
  have n2 : sqHear aw1s 1 awB = aw2s := rfl
  have n3 : sqHear aw2s 3 awB = aw3s := rfl
  have n4 : sqHear aw3s 2 [120] = aw4s := rfl
  have n5 : sqTick aw4s = aw5s := rfl
  rw [n1] at t1; rw [n2] at g1; rw [n3] at g2; rw [n4] at g3; rw [n5] at t2
  have u1 := sLog_sp sb aw5s aw5i.ok (by rw [awe6]; decide)
  have u2 := sFed_sp sb aw5s 1 aw5i.ok
  have u3 := sUn_sp sb aw5s 1 aw5i.ok
  have u4 := sFed_sp sb aw5s 2 aw5i.ok
  rw [awe6] at u1; rw [awe7] at u2; rw [awe8] at u3; rw [awe9] at u4
  generalize (sqPks (sqNew c0)).flatMap kv = pk1 at *
  generalize aw1s = s1 at *
  generalize aw2s = s2 at *
  generalize aw3s = s3 at *
  generalize aw4s = s4 at *
  generalize aw5s = s5 at *
  repeat' (first | (apply St_call (hf := h7); exact rfl; exact rfl; exact Split.auto; rintro _ _ ⟨rfl, rfl⟩) | (apply St_call (hf := h9); exact rfl; exact rfl; exact Split.auto; rintro _ _ ⟨rfl, rfl⟩) | (apply St_call (hf := t1); exact rfl; exact rfl; exact Split.auto; rintro _ _ ⟨⟨A1, c1, rfl⟩, rfl⟩) | (apply St_call (hf := g1); exact rfl; exact rfl; exact Split.auto; rintro _ _ ⟨rfl, rfl⟩) | (apply St_call (hf := g2); exact rfl; exact rfl; exact Split.auto; rintro _ _ ⟨rfl, rfl⟩) | (apply St_call (hf := g3); exact rfl; exact rfl; exact Split.auto; rintro _ _ ⟨rfl, rfl⟩) | (apply St_call (hf := t2); exact rfl; exact rfl; exact Split.auto; rintro _ _ ⟨⟨A2, c2, rfl⟩, rfl⟩) | (refine St_step ?_; (try with_reducible intro _)) | (refine St_step2 ?_ ?_ <;> (intro hb; (try simp only [beq_iff_eq, bne_iff_ne, decide_eq_true_eq, decide_eq_false_iff_not, Bool.not_eq_true', Bool.not_eq_false', beq_eq_false_iff_ne, bne_eq_false_iff_eq, ne_eq, Int.not_lt, Int.not_le, gt_iff_lt, ge_iff_le] at hb); (try (first | exact Bool.noConfusion hb | exact absurd trivial hb | (exfalso; omega))))) | fail)
  refine St_rsOpen (v := .slice A2 [p].length c2) (n := [p].length) (cs := [p].flatMap kv) (by exact Has.auto) (Nat.zero_lt_one) ?_
  rintro pb T cap pre rest hv
  injection hv with hv1 hv2 hv3
  subst hv1 hv3
  have hc1 := flat_cell kv_len pre rest (us := [p]) (i := 0) (u := p) rfl (show 1 < 3 by decide)
  have hd2 : (kv p)[1]? = some (nat .i64 1) := congrArg (fun x => some (Value.int .i64 x)) hd
  rw [hd2] at hc1
  repeat' (first | (apply St_call (hf := u1); exact rfl; exact rfl; exact Split.auto; rintro _ _ ⟨⟨A3, c3, rfl⟩, rfl⟩) | (apply St_call (hf := u2); exact rfl; exact rfl; exact Split.auto; rintro _ _ ⟨rfl, rfl⟩) | (apply St_call (hf := u3); exact rfl; exact rfl; exact Split.auto; rintro _ _ ⟨rfl, rfl⟩) | (apply St_call (hf := u4); exact rfl; exact rfl; exact Split.auto; rintro _ _ ⟨rfl, rfl⟩) | (apply St_rd; exact rfl; (first | (apply Rd_loadn tb; exact rfl; exact rfl; exact rfl; exact Has.auto; exact hc1))) | (apply Sq_rd; exact rfl; (first | (apply Rd_loadn tb; exact rfl; exact rfl; exact rfl; exact Has.auto; exact hc1))) | (refine St_step ?_; (try with_reducible intro _)) | (refine St_step2 ?_ ?_ <;> (intro hb; (try simp only [beq_iff_eq, bne_iff_ne, decide_eq_true_eq, decide_eq_false_iff_not, Bool.not_eq_true', Bool.not_eq_false', beq_eq_false_iff_ne, bne_eq_false_iff_eq, ne_eq, Int.not_lt, Int.not_le, gt_iff_lt, ge_iff_le] at hb); (try (first | exact Bool.noConfusion hb | exact absurd trivial hb | (exfalso; omega))))) | fail)
  all_goals first | (exact absurd rfl (by assumption)) | (first | contradiction | (exfalso; omega) | (exact St_ret1 (.inl rfl) rfl rfl ⟨rfl, rfl⟩ (by exact Split.auto)) | (exact St_ret2 (.inl rfl) rfl rfl rfl ⟨rfl, rfl⟩ (by exact Split.auto)) | (exact St_ret3 (.inl rfl) rfl rfl rfl rfl ⟨rfl, rfl⟩ (by exact Split.auto)))
end Go.Proofs.YtfjnacakpeommaaDoor
