/- What the proof stands on, part 6: C31, RAc, C32, Sl5. -/
import Derived.MapKept
import Derived.Test.YtfjnacakpeommaaGreatDoorM5
/- Contracts: chapbooklaw16.great. -/
namespace Go.Proofs.YtfjnacakpeommaaGreatDoor
open Go SL Pl
set_option autoImplicit false
set_option maxRecDepth 100000
set_option linter.unusedSimpArgs false
set_option linter.unusedVariables false
attribute [local irreducible] St Sq Exec QExec wpList wpQuiet Code.wp Exit.then Exit.inBlock bodyPost At Rd wpOp Wa QK GB
/-- A call: 1 Hear, 2 Tick. -/
structure Ac where
  kind : Int
  src : Int
  b : List UInt8
abbrev av (a : Ac) : List Value := [.int .i64 a.kind, .int .i64 a.src, str a.b]
theorem av_len (a : Ac) : (av a).length = 3 := rfl
def acGreat (c : Cfg) (l : List Ac) : Bool := decide (60 < l.length) || decide (4 < c.clients) || l.any fun a => decide (400 < a.b.length)
theorem acGreat_no {c : Cfg} {l : List Ac} (h : acGreat c l = false) : l.length ≤ 60 ∧ c.clients ≤ 4 ∧ ∀ a ∈ l, a.b.length ≤ 400 := by
  unfold acGreat at h
  simp only [Bool.or_eq_false_iff, decide_eq_false_iff_not, List.any_eq_false, decide_eq_true_eq] at h
  exact ⟨by omega, by omega, fun a ha => by have := h.2 a ha; omega⟩
theorem great16_sp (q : Bool) (c : Cfg) (l : List Ac) (v : Value) : Sp Tryz.prog 8 [.agg (cfgC c).toArray, v] [RS q v l.length (l.flatMap av)] (fun w M => w = .bool (acGreat c l) ∧ M = [RS q v l.length (l.flatMap av)]) := by
  refine Sp.intro (P := Tryz.prog) (Tryz.func8) rfl Tryz.ntmps8 (by decide) rfl ?_
  intro ρ F
  refine St_rsIs (r := q) (v := v) (n := l.length) (cs := l.flatMap av) (by exact Has.auto) ?_
  rintro A k rfl
  by_cases h1 : 60 < l.length ∨ 4 < c.clients
  · have e : acGreat c l = true := by
      unfold acGreat
      rcases h1 with h | h <;> simp [h]
    rw [e]
    repeat' (first | (refine St_step ?_; (try with_reducible intro _)) | (refine St_step2 ?_ ?_ <;> (intro hb; (try simp only [beq_iff_eq, bne_iff_ne, decide_eq_true_eq, decide_eq_false_iff_not, Bool.not_eq_true', Bool.not_eq_false', beq_eq_false_iff_ne, bne_eq_false_iff_eq, ne_eq, Int.not_lt, Int.not_le, gt_iff_lt, ge_iff_le] at hb); (try (first | exact Bool.noConfusion hb | exact absurd trivial hb | (exfalso; omega))))) | fail)
    all_goals (first | contradiction | (exfalso; omega) | (exact St_ret1 (.inl rfl) rfl rfl ⟨rfl, rfl⟩ (by exact Split.auto)) | (exact St_ret2 (.inl rfl) rfl rfl rfl ⟨rfl, rfl⟩ (by exact Split.auto)) | (exact St_ret3 (.inl rfl) rfl rfl rfl rfl ⟨rfl, rfl⟩ (by exact Split.auto)))
  · have e : acGreat c l = l.any fun a => decide (400 < a.b.length) := by
      unfold acGreat
      rw [decide_eq_false (by omega), decide_eq_false (by omega)]; rfl
    rw [e]
    repeat' (first | (refine St_step ?_; (try with_reducible intro _)) | (refine St_step2 ?_ ?_ <;> (intro hb; (try simp only [beq_iff_eq, bne_iff_ne, decide_eq_true_eq, decide_eq_false_iff_not, Bool.not_eq_true', Bool.not_eq_false', beq_eq_false_iff_ne, bne_eq_false_iff_eq, ne_eq, Int.not_lt, Int.not_le, gt_iff_lt, ge_iff_le] at hb); (try (first | exact Bool.noConfusion hb | exact absurd trivial hb | (exfalso; omega))))) | fail)
    all_goals first | (exfalso; omega) | skip
    refine St_loop (fun (i : Nat) => i ≤ l.length ∧ ∀ j, j < i → ∀ a, l[j]? = some a → a.b.length ≤ 400) (fun i => [(15, .slice A l.length k), (16, nat .i64 l.length), (17, nat .i64 i)]) (fun i => [RS q (.slice A l.length k) l.length (l.flatMap av), big F]) (fun i => l.length - i) 0 ⟨Nat.zero_le _, fun j hj => by omega⟩ ⟨rfl, rfl, rfl, trivial⟩ (by exact Split.auto) ?_
    rintro i ⟨hi, hbd⟩
    by_cases hil : i < l.length
    · obtain ⟨a, ha⟩ : ∃ a, l[i]? = some a := ⟨_, List.getElem?_eq_getElem hil⟩
      refine St_rsOpen (r := q) (v := .slice A l.length k) (n := l.length) (cs := l.flatMap av) (by exact Has.auto) (by omega) ?_
      rintro b1 T1 cap1 pre1 rest1 hv1
      injection hv1 with p1 p2 p3
      subst p1 p3
      have hld1 := flat_at av_len l i a pre1 rest1 ha
      have hroom1 := flat_room av_len l i pre1 rest1 hil
      by_cases h4 : 400 < a.b.length
      · have e2 : (l.any fun a => decide (400 < a.b.length)) = true := List.any_eq_true.2 ⟨a, List.mem_of_getElem? ha, decide_eq_true h4⟩
        rw [e2]
        repeat' (first | (apply St_rd; exact rfl; (first | (apply Rd_loadA tb; exact rfl; exact rfl; exact rfl; exact Has.auto; exact hroom1; exact hld1))) | (apply Sq_rd; exact rfl; (first | (apply Rd_loadA tb; exact rfl; exact rfl; exact rfl; exact Has.auto; exact hroom1; exact hld1))) | (refine St_step ?_; (try with_reducible intro _)) | (refine St_step2 ?_ ?_ <;> (intro hb; (try simp only [beq_iff_eq, bne_iff_ne, decide_eq_true_eq, decide_eq_false_iff_not, Bool.not_eq_true', Bool.not_eq_false', beq_eq_false_iff_ne, bne_eq_false_iff_eq, ne_eq, Int.not_lt, Int.not_le, gt_iff_lt, ge_iff_le] at hb); (try (first | exact Bool.noConfusion hb | exact absurd trivial hb | (exfalso; omega))))) | fail)
        all_goals first | (exfalso; omega) | skip
        refine St_rsMk (r := q) (n := l.length) (cap := k) (pre := pre1) (cs := l.flatMap av) (rest := rest1) (by exact Has.auto) ?_
        (first | contradiction | (exfalso; omega) | (exact St_ret1 (.inl rfl) rfl rfl ⟨rfl, rfl⟩ (by exact Split.auto)) | (exact St_ret2 (.inl rfl) rfl rfl rfl ⟨rfl, rfl⟩ (by exact Split.auto)) | (exact St_ret3 (.inl rfl) rfl rfl rfl rfl ⟨rfl, rfl⟩ (by exact Split.auto)))
      · repeat' (first | (apply St_rd; exact rfl; (first | (apply Rd_loadA tb; exact rfl; exact rfl; exact rfl; exact Has.auto; exact hroom1; exact hld1))) | (apply Sq_rd; exact rfl; (first | (apply Rd_loadA tb; exact rfl; exact rfl; exact rfl; exact Has.auto; exact hroom1; exact hld1))) | (refine St_step ?_; (try with_reducible intro _)) | (refine St_step2 ?_ ?_ <;> (intro hb; (try simp only [beq_iff_eq, bne_iff_ne, decide_eq_true_eq, decide_eq_false_iff_not, Bool.not_eq_true', Bool.not_eq_false', beq_eq_false_iff_ne, bne_eq_false_iff_eq, ne_eq, Int.not_lt, Int.not_le, gt_iff_lt, ge_iff_le] at hb); (try (first | exact Bool.noConfusion hb | exact absurd trivial hb | (exfalso; omega))))) | fail)
        all_goals first | (exfalso; omega) | skip
        refine St_rsMk (r := q) (n := l.length) (cap := k) (pre := pre1) (cs := l.flatMap av) (rest := rest1) (by exact Has.auto) ?_
        refine St_at (i + 1) ⟨⟨hil, fun j hj a' ha' => ?_⟩, by omega⟩ ⟨rfl, rfl, rfl, trivial⟩ (by exact Split.auto)
        rcases Nat.lt_or_ge j i with h | h
        · exact hbd j h a' ha'
        · obtain rfl : j = i := by omega
          obtain rfl : a = a' := Option.some.inj (ha.symm.trans ha')
          omega
    · have hii : i = l.length := by omega
      subst hii
      have e2 : (l.any fun a => decide (400 < a.b.length)) = false := by
        rw [List.any_eq_false]
        intro a ha
        obtain ⟨j, hj, e⟩ := List.getElem_of_mem ha
        have := hbd j hj a (by rw [List.getElem?_eq_getElem hj, e])
        simp; omega
      rw [e2]
      repeat' (first | (refine St_step ?_; (try with_reducible intro _)) | (refine St_step2 ?_ ?_ <;> (intro hb; (try simp only [beq_iff_eq, bne_iff_ne, decide_eq_true_eq, decide_eq_false_iff_not, Bool.not_eq_true', Bool.not_eq_false', beq_eq_false_iff_ne, bne_eq_false_iff_eq, ne_eq, Int.not_lt, Int.not_le, gt_iff_lt, ge_iff_le] at hb); (try (first | exact Bool.noConfusion hb | exact absurd trivial hb | (exfalso; omega))))) | fail)
      all_goals (first | contradiction | (exfalso; omega) | (exact St_ret1 (.inl rfl) rfl rfl ⟨rfl, rfl⟩ (by exact Split.auto)) | (exact St_ret2 (.inl rfl) rfl rfl rfl ⟨rfl, rfl⟩ (by exact Split.auto)) | (exact St_ret3 (.inl rfl) rfl rfl rfl rfl ⟨rfl, rfl⟩ (by exact Split.auto)))
end Go.Proofs.YtfjnacakpeommaaGreatDoor
/- What the rows of chapbooklaw16 with calls share: how such an argument is read. -/
namespace Go.Proofs.YtfjnacakpeommaaGreatDoor
open Go Go.ChangeShapes Go.WideShapes Go.RowKit SL Pl
set_option autoImplicit false
set_option maxRecDepth 100000
theorem pre_add {W : World} {A : HP} {ρ : Rst} {w : World} {l : List HP} (hA : ∀ (ρ : Rst) (w' : World) (L : List HP), Holds ρ w' (whole W :: L) → Holds ρ w' (A :: whole W :: L)) (H : Holds ρ w (l ++ [whole W])) : Holds ρ w ((A :: l) ++ [whole W]) := by
  have H1 := hA _ _ _ H.appends
  exact H1.mono fun _ x => star_mono (fun _ a => a) (fun _ b => big_append.2 (star_comm (big_append (l := [whole W]) (m := l).1 b))) x
theorem act_row {row : List Value} (h : leavesOk [.int .i64, .int .i64, .str] row) : ∃ a : Ac, row = av a ∧ a.b.length ≤ 9223372036854775807 := by
  obtain ⟨v0, r1, rfl, ⟨a, rfl, _⟩, v1, r2, rfl, ⟨b, rfl, _⟩, v2, r3, rfl, ⟨c, rfl, hc⟩, h⟩ := h
  have h : r3 = [] := h
  subst h
  exact ⟨⟨a, b, c⟩, rfl, hc⟩
section
variable {H : Type} {enc : TypeId × Value → H} {w : World} {base : Nat} {sp : Nat → Bool} {held : Bool}
theorem open_acts {r : Reach} {b0 : Nat} {v : Value} {d : DataW H} {p : List MemPlace} (hv : Value.okWide Tryz.prog w r b0 24 v) (h : DataW.Trod enc Tryz.prog w base sp held 24 v d p) :
    ∃ (l : List Ac), ∀ (ρ : Rst) (w' : World) (L : List HP), Holds ρ w' (whole w :: L) → Holds ρ w' (RS true v l.length (l.flatMap av) :: whole w :: L) := by
  obtain ⟨fuel, h⟩ := h
  obtain ⟨a0, len, cap, rfl⟩ := okWide_slice (show (Tryz.prog).underlying 24 = some (.slice 35) by kernel_rfl) hv
  obtain ⟨v', rows, hv, h1, _, _, h2⟩ := trod_rows (k := 3) (ls := [.int .i64, .int .i64, .str]) (show (Tryz.prog).underlying 24 = some (.slice 35) by kernel_rfl) (by kernel_rfl) (show (Tryz.prog).cellsOf 35 ≠ 0 by rw [show (Tryz.prog).cellsOf 35 = 3 by kernel_rfl]; decide) h
  obtain ⟨us, rfl, _⟩ := rows_map (f := av) (B := fun _ => True) (fun row hr => (act_row (h1 row hr)).elim fun a ha => ⟨a, ha.1, trivial⟩)
  refine ⟨us, fun ρ w' L H => ?_⟩
  have := h2 ρ w' L H
  rw [List.length_map] at this
  have e : [Value.slice a0 len cap] = [v'] := hv
  rw [List.cons.inj e |>.1]
  exact this
theorem open_act {r : Reach} {b0 : Nat} {v : Value} {d : DataW H} {p : List MemPlace} (hv : Value.okWide Tryz.prog w r b0 35 v) (h : DataW.Trod enc Tryz.prog w base sp held 35 v d p) :
    ∃ a : Ac, v = .agg (av a).toArray ∧ a.b.length ≤ 9223372036854775807 := by
  have hu : (Tryz.prog).underlying 35 = some (.struct ((Tryz.prog).fieldsOf 35)) := by kernel_rfl
  obtain ⟨cs, rfl, hcs⟩ := okWide_struct hu hv
  obtain ⟨fuel, h⟩ := h
  have h1 := trod_leaves 2 35 [.int .i64, .int .i64, .str] (by kernel_rfl) _ _ _ h
  obtain ⟨a, ha, hb⟩ := act_row h1
  have e : (Value.agg cs).cells.toList = cs.toList := rfl
  rw [e] at ha
  exact ⟨a, by rw [← ha], hb⟩
end
end Go.Proofs.YtfjnacakpeommaaGreatDoor
/- Plain: a datagram that comes again; what is sent at a tick; the numbers of an origin's rounds. -/
namespace Go.Proofs.YtfjnacakpeommaaGreatDoor
open Go SL Pl
set_option autoImplicit false
set_option maxRecDepth 100000
set_option linter.unusedSimpArgs false
set_option linter.unusedVariables false
attribute [local irreducible] St Sq Exec QExec wpList wpQuiet Code.wp Exit.then Exit.inBlock bodyPost At Rd wpOp Wa QK GB
def lkDone (k : Lk) : Lk := ⟨k.sd, ⟨k.rc.room, k.rc.acked, []⟩, k.ep, k.win, k.room, k.pas⟩
theorem clampN_id {n lo hi : Int} (h1 : lo ≤ n) (h2 : n ≤ hi) : clampN n lo hi = n := by
  unfold clampN; rw [if_neg (by omega), if_neg (by omega)]
theorem sdAck_again (s : Sd) (n : Int) : sdAck (sdAck s n) n = sdAck s n := by
  have h : sdGone (sdAck s n) n = 0 := by
    by_cases hc : ((s.acked + s.ps.length : Nat) : Int) < n ∨ n ≤ s.acked
    · have hg : sdGone s n = 0 := by unfold sdGone; rw [if_pos (by omega)]
      have : sdAck s n = s := by unfold sdAck; rw [hg]; simp
      rw [this]; exact hg
    · have hg : sdGone s n = (n - s.acked).toNat := by unfold sdGone; rw [if_neg (by omega)]
      unfold sdGone sdAck
      rw [if_pos]
      right
      show n ≤ ((s.acked + sdGone s n : Nat) : Int)
      rw [hg]; omega
  generalize sdAck s n = t at *
  unfold sdAck
  rw [h]
  simp
theorem rcHear_again {r : Rc} {seq : Int} {d : List UInt8} (hq : r.q = []) (hr : 1 ≤ r.room) :
    rcHear ⟨(rcHear r seq d).room, (rcHear r seq d).acked, []⟩ seq d = ⟨(rcHear r seq d).room, (rcHear r seq d).acked, []⟩ := by
  unfold rcHear
  by_cases h : r.room ≤ r.q.length ∨ seq ≠ (r.acked : Int) + 1
  · rw [if_pos h]
    rw [if_pos]
    rcases h with h | h
    · rw [hq] at h; simp at h; omega
    · exact .inr h
  · rw [if_neg h]
    rw [if_pos]
    right
    dsimp only
    omega
theorem lkHear_again {k : Lk} {f : Fr} (hk : lkOk k) (hq : k.rc.q = []) (hp : k.pas = true) (hst : ¬ f.ep < k.ep) (hfe : f.ep ≤ 1099511627776) :
    lkHear (lkDone (lkHear k f)) f = lkDone (lkHear k f) ∧ ((lkDone (lkHear k f)).ep : Int) = f.ep ∧ (lkDone (lkHear k f)).pas = true := by
  have hgo : ¬ (f.ep < k.ep ∨ ((k.ep : Int) < f.ep ∧ k.pas = false)) := by rw [hp]; simp; omega
  rw [lkHear_go hgo]
  have h1 : ∀ k1, k1 = (if lkAnew k f = true then lkFresh k f.ep else k) → lkOk k1 ∧ k1.rc.q = [] ∧ k1.pas = true ∧ (k1.ep : Int) = f.ep := by
    rintro k1 rfl
    split
    · rename_i ha
      refine ⟨lkOk_new f.ep k.win k.room k.pas, rfl, hp, ?_⟩
      show (((clampN f.ep 0 1099511627776).toNat : Nat) : Int) = f.ep
      rw [clampN_id (by have := hk.ep; omega) hfe]
      omega
    · rename_i ha
      refine ⟨hk, hq, hp, ?_⟩
      unfold lkAnew at ha
      rw [hp] at ha
      simp at ha
      omega
  obtain ⟨g1, g2, g3, g4⟩ := h1 _ rfl
  generalize (if lkAnew k f = true then lkFresh k f.ep else k) = k1 at *
  refine ⟨?_, g4, g3⟩
  have hgo2 : ∀ X : Lk, X.ep = k1.ep → X.pas = k1.pas → ¬ (f.ep < ((lkDone X).ep : Int) ∨ (((lkDone X).ep : Int) < f.ep ∧ (lkDone X).pas = false)) := by
    intro X h1 h2
    show ¬ (f.ep < (X.ep : Int) ∨ ((X.ep : Int) < f.ep ∧ X.pas = false))
    rw [h1, h2, g3]; simp; omega
  have hna : lkAnew (lkDone ⟨sdAck k1.sd f.ack, if f.seq = 0 then k1.rc else rcHear k1.rc f.seq f.data, k1.ep, k1.win, k1.room, k1.pas⟩) f = false := by
    unfold lkAnew
    show (decide ((k1.ep : Int) < f.ep) && k1.pas) = false
    rw [decide_eq_false (by omega), Bool.false_and]
  rw [lkHear_go (hgo2 _ ?_ ?_), hna]
  rotate_left
  · rfl
  · rfl
  simp only [Bool.false_eq_true, if_false]
  unfold lkDone
  dsimp only
  rw [sdAck_again]
  by_cases hs : f.seq = 0
  · simp only [hs, if_true]
  · simp only [hs, if_false]
    rw [rcHear_again g2 g1.rc.r1]
/-- A datagram that comes twice, one behind the other. -/
theorem sqHear_twice {s : Sqr} (hs : sqIn s) (src : Int) (b : List UInt8) : sqHear (sqHear s src b) src b = sqHear s src b := by
  by_cases he : sqErr s src b = 0
  case neg =>
    have : sqHear s src b = s := by unfold sqHear; rw [if_pos he]
    rw [this, this]
  case pos =>
    obtain ⟨⟨hs1, hs2⟩, hf0⟩ := sqErr_src he
    obtain ⟨hfi, _⟩ := fget_frIn hf0
    cases hk : s.ks[(src - 1).toNat]? with
    | none =>
      have : sqHear s src b = s := by unfold sqHear; rw [if_neg (fun h => h he), hk]
      rw [this, this]
    | some k =>
      have hkm := hs.ok.ks k (List.mem_of_getElem? hk)
      have hst : ¬ (fget b).1.ep < k.1.ep := by
        intro h
        unfold sqErr at he
        rw [if_neg (by omega), if_neg (by omega), hk] at he
        dsimp only at he
        rw [if_pos h] at he
        cases he
      obtain ⟨a1, a2, a3⟩ := lkHear_again (f := (fget b).1) hkm.1 hkm.2.2.1 hkm.2.2.2 hst (by obtain ⟨⟨_, h2⟩, _⟩ := hfi; exact h2)
      have e1 : sqHear s src b = ⟨s.c, (lkHear k.1 (fget b).1).rc.q.foldl (takeOne s.c src) s.l, s.ks.set (src - 1).toNat (lkDone (lkHear k.1 (fget b).1), if lkAnew k.1 (fget b).1 then 0 else k.2)⟩ := by
        unfold sqHear; rw [if_neg (fun h => h he), hk]; rfl
      rw [e1]
      have hqe : (lkDone (lkHear k.1 (fget b).1)).rc.q = [] := rfl
      have hdd : lkDone (lkDone (lkHear k.1 (fget b).1)) = lkDone (lkHear k.1 (fget b).1) := rfl
      generalize lkDone (lkHear k.1 (fget b).1) = kk at *
      generalize (lkHear k.1 (fget b).1).rc.q.foldl (takeOne s.c src) s.l = l' at *
      generalize (if lkAnew k.1 (fget b).1 = true then 0 else k.2) = at_ at *
      have hilt : (src - 1).toNat < s.ks.length := by
        rcases Nat.lt_or_ge (src - 1).toNat s.ks.length with q | q
        · exact q
        · rw [List.getElem?_eq_none q] at hk; cases hk
      have hk2 : (s.ks.set (src - 1).toNat (kk, at_))[(src - 1).toNat]? = some (kk, at_) := by rw [List.getElem?_set_self hilt]
      have he2 : sqErr ⟨s.c, l', s.ks.set (src - 1).toNat (kk, at_)⟩ src b = 0 := by
        unfold sqErr
        rw [if_neg (by dsimp only; omega), if_neg (by omega)]
        dsimp only
        rw [hk2]
        dsimp only
        rw [if_neg (by omega)]
      have hna : lkAnew kk (fget b).1 = false := by
        unfold lkAnew
        rw [decide_eq_false (by omega), Bool.false_and]
      unfold sqHear
      rw [if_neg (fun h => h he2)]
      dsimp only
      rw [hk2]
      dsimp only
      rw [a1, hna, hqe, List.set_set]
      show Sqr.mk _ _ (List.set _ _ (lkDone kk, _)) = _
      rw [hdd]
      rfl
/-! What is sent. -/
theorem lkFrames_win {k : Lk} {n : Nat} (h1 : 1 ≤ n) (h : k.sd.ps.length ≤ n) : (lkFrames k).length ≤ n := by
  unfold lkFrames
  split
  · exact Nat.zero_le _
  · split
    · exact h1
    · rw [frames1_length]; exact h
theorem tick1_in {s : Sqr} (hs : sqIn s) {k : Lk × Nat} (hk : k ∈ s.ks) : lkOk (tick1 s k).1 ∧ (tick1 s k).1.sd.ps.length ≤ s.c.window.toNat := by
  have h := (sqIn_tick hs).ok.ks (tick1 s k) (List.mem_map_of_mem hk)
  have h2 := (sqIn_tick hs).ps (tick1 s k) (List.mem_map_of_mem hk)
  refine ⟨h.1, ?_⟩
  have h3 := h.1.sd.l
  rw [h2.s] at h3
  exact h3
theorem cfg_win {c : Cfg} (h : cfgOk c) : 1 ≤ c.window.toNat ∧ c.window.toNat ≤ 16 := by
  obtain ⟨_, ⟨h1, h2⟩, _⟩ := h
  omega
theorem tickPks_len {s : Sqr} (hs : sqIn s) {k : Lk × Nat} (hk : k ∈ s.ks) (i : Nat) : (tickPks s i k).length ≤ s.c.window.toNat := by
  have h1 := cfg_win hs.ok.c
  have h2 := tick1_in hs hk
  exact Nat.le_trans (puts_len _ _ _ _) (lkFrames_win h1.1 h2.2)
theorem pksTo_len {s : Sqr} (hs : sqIn s) : ∀ i, i ≤ s.ks.length → (pksTo s i).length ≤ 16 * i
  | 0, _ => by simp [pksTo]
  | i + 1, h => by
    obtain ⟨k, hk⟩ : ∃ k, s.ks[i]? = some k := ⟨_, List.getElem?_eq_getElem (by omega)⟩
    have h1 := pksTo_len hs i (by omega)
    have h2 := tickPks_len hs (List.mem_of_getElem? hk) i
    have h3 := cfg_win hs.ok.c
    rw [pksTo_succ hk, List.length_append]
    omega
theorem sqPks_len {s : Sqr} (hs : sqIn s) : (sqPks s).length ≤ 1024 := by
  have h1 := pksTo_len hs s.ks.length (Nat.le_refl _)
  rw [pksTo_all] at h1
  have h2 := hs.ok.n
  obtain ⟨⟨c1, c2⟩, _⟩ := hs.ok.c
  omega
end Go.Proofs.YtfjnacakpeommaaGreatDoor
/- Steps of a walk: maps whose keys are whole numbers. -/
namespace Go.Proofs.YtfjnacakpeommaaGreatDoor.SL
open Go
set_option autoImplicit false
set_option linter.unusedVariables false
set_option linter.unusedSimpArgs false
variable {ρ : Rst} {N : Nat} {env : Env} {L L' : List HP} {P : Program} {Q : Exit → Act → World → Prop} {K : Act → World → Prop} {G : Act → World → Prop}
variable {d : Nat} {dd : Option Nat} {op : Op} {ty : TypeId} {pos : String} {aft : Array Edge} {g : Option (Nat × Bool)} (tb : Tabs P)

abbrev keyV (p : Int × Value) : Value × Value := (.int .i64 p.1, p.2)
/-- A map of its own: its entries, in the order in which they were made. -/
def MP (b : Nat) (l : List (Int × Value)) : HP := fun h => ∃ (es : List MapEntry) (clk : Nat), (es.map (fun e => (e.key, e.val)) = l.map keyV ∧ (es.map (·.born)).Nodup ∧ ∀ e ∈ es, e.born < clk) ∧ one false b (.map es.toArray clk) h
def aget : List (Int × Value) → Int → Option Value
  | [], _ => none
  | p :: l, k => if p.1 = k then some p.2 else aget l k
def aset : List (Int × Value) → Int → Value → List (Int × Value)
  | [], k, v => [(k, v)]
  | p :: l, k, v => if p.1 = k then (p.1, v) :: l else p :: aset l k v
theorem aget_set (l : List (Int × Value)) (k : Int) (v : Value) (o : Int) : aget (aset l k v) o = if o = k then some v else aget l o := by
  induction l with
  | nil => unfold aset aget; by_cases h : k = o <;> simp [h, aget, Ne.symm, @eq_comm _ o k]
  | cons p l ih =>
    unfold aset
    by_cases h : p.1 = k
    · rw [if_pos h]
      by_cases h2 : o = k
      · simp [aget, h, h2]
      · have h3 : ¬ p.1 = o := by omega
        simp [aget, h2, h3]
    · rw [if_neg h]
      by_cases h2 : p.1 = o
      · have h3 : ¬ o = k := by omega
        simp [aget, h2, h3]
      · simp [aget, h2, ih]
theorem Holds.mp {b : Nat} {l : List (Int × Value)} {w : World} (H : Holds ρ w (MP b l :: L)) :
    ∃ (es : List MapEntry) (clk : Nat), es.map (fun e => (e.key, e.val)) = l.map keyV ∧ (es.map (·.born)).Nodup ∧ (∀ e ∈ es, e.born < clk) ∧ Holds ρ w (one false b (.map es.toArray clk) :: L) := by
  obtain ⟨h, ⟨h1, h2, c, rfl, ⟨es, clk, ⟨p1, p2, p3⟩, a⟩, q⟩, d⟩ := H.heap
  exact ⟨es, clk, p1, p2, p3, H.tape, H.os, H.output, _, ⟨h1, h2, c, rfl, a, q⟩, d⟩
theorem Holds.mp_mk {b : Nat} {l : List (Int × Value)} {w : World} {es : List MapEntry} {clk : Nat} (h1 : es.map (fun e => (e.key, e.val)) = l.map keyV) (h2 : (es.map (·.born)).Nodup) (h3 : ∀ e ∈ es, e.born < clk)
    (H : Holds ρ w (one false b (.map es.toArray clk) :: L)) : Holds ρ w (MP b l :: L) := H.mono fun _ x => star_mono (fun _ a => ⟨es, clk, ⟨h1, h2, h3⟩, a⟩) (fun _ a => a) x
/-- Where a key stands. -/
theorem map_find (k : Int) (v : Value) : ∀ (es : List MapEntry) (l : List (Int × Value)) (i : Nat), es.map (fun e => (e.key, e.val)) = l.map keyV →
    (aget l k = none ∧ Instr.findNow (.int .i64) (.int .i64 k) es i = some none ∧ aset l k v = l ++ [(k, v)]) ∨
    (∃ j e u, es[j]? = some e ∧ e.key = .int .i64 k ∧ aget l k = some u ∧ Instr.findNow (.int .i64) (.int .i64 k) es i = some (some (i + j, u)) ∧ (es.modify j fun e => { e with key := .int .i64 k, val := v }).map (fun e => (e.key, e.val)) = (aset l k v).map keyV)
  | [], l, i, h => by
    cases l with
    | nil => exact .inl ⟨rfl, rfl, rfl⟩
    | cons _ _ => cases h
  | e :: es, l, i, h => by
    cases l with
    | nil => cases h
    | cons p l =>
      simp only [List.map_cons, List.cons.injEq, keyV, Prod.mk.injEq] at h
      obtain ⟨⟨h1, h2⟩, h3⟩ := h
      by_cases hk : p.1 = k
      · refine .inr ⟨0, e, p.2, rfl, by rw [h1, hk], by simp [aget, hk], by simp [Instr.findNow, Instr.sameNow, h1, hk, h2], ?_⟩
        simp [aset, hk, keyV, h3]
      · have hf : Instr.findNow (.int .i64) (.int .i64 k) (e :: es) i = Instr.findNow (.int .i64) (.int .i64 k) es (i + 1) := by
          have h9 : ¬ k = p.1 := fun h => hk h.symm
          have hb : (k == p.1) = false := by simpa using h9
          simp [Instr.findNow, Instr.sameNow, h1, hb]
        rcases map_find k v es l (i + 1) h3 with ⟨a1, a2, a3⟩ | ⟨j, e', u, a1, a2, a3, a4, a5⟩
        · exact .inl ⟨by simp [aget, hk, a1], by rw [hf, a2], by simp [aset, hk, a3]⟩
        · refine .inr ⟨j + 1, e', u, by simpa using a1, a2, by simp [aget, hk, a3], by rw [hf, a4]; congr 3; omega, ?_⟩
          simp only [List.modify_succ_cons, List.map_cons, aset, if_neg hk, keyV, a5, h1, h2]
theorem born_modify (f : MapEntry → MapEntry) (hf : ∀ e, (f e).born = e.born) : ∀ (es : List MapEntry) (j : Nat), (es.modify j f).map (·.born) = es.map (·.born)
  | [], _ => by simp
  | e :: es, 0 => by simp [hf]
  | e :: es, j + 1 => by simp [born_modify f hf es j]
theorem St_makeMap {T : TypeId} (hN : Nat.blt d N = true) (h : ∀ b, St ρ N ((d, .map (some b)) :: env) (MP b [] :: L) K) : St ρ N env L (Exec P Q ⟨some d, .makeMap T none, ty, pos, aft, g⟩ K) :=
  St_run (α := Nat) (v := fun b => .map (some b)) (M := fun b => MP b [] :: L) (by simpa using hN) (fun a w z y => by
    refine ⟨w.heap.size, w.alloc (.map #[] 0), ?_, (y.alloc _).mp_mk (es := []) (clk := 0) rfl (by simp) (by simp)⟩
    simp [execOp, Instr.makeMap, World.alloc_eq]) h
theorem Rd_mapGet {T E : TypeId} {kt b : Nat} {x y : Operand} {k : Int} {l : List (Int × Value)} {z v : Value} (hx : ev env x = some (.map (some b))) (hy : ev env y = some (.int .i64 k))
    (hT : tabLk tb.und T = some (.map kt E)) (hk : tabLk tb.und kt = some (.int .i64)) (hz : ∀ w, (zeroValue E).run P w = .ok z w) (hc : Has L (MP b l) L') (hv : (aget l k).getD z = v) : Rd P ρ N env L ⟨dd, .lookup T x y false, ty, pos, aft, g⟩ v :=
  fun a w q H => by
    subst hv
    obtain ⟨es, clk, p1, p2, p3, H1⟩ := (H.has hc).mp
    have hb := H1.block
    have hd := tab_ok tb.und_ok hk
    rcases map_find k .nilIface es l 0 p1 with ⟨a1, a2, _⟩ | ⟨j, e, u, a1, a2, a3, a4, _⟩
    · simp [execOp, Instr.lookup, ev_ok q hx, ev_ok q hy, run_und (tab_ok tb.und_ok hT), MapKept.run_getObj_map hb, MapKept.run_checkKey (k := .int .i64 k) hd rfl, MapKept.run_findKey hd a2, hz, a1, Result.andThen]
    · simp [execOp, Instr.lookup, ev_ok q hx, ev_ok q hy, run_und (tab_ok tb.und_ok hT), MapKept.run_getObj_map hb, MapKept.run_checkKey (k := .int .i64 k) hd rfl, MapKept.run_findKey hd a4, a3, Result.andThen]
theorem St_mapSet {T E : TypeId} {kt b : Nat} {x y u : Operand} {k : Int} {v : Value} {l : List (Int × Value)} (hx : ev env x = some (.map (some b))) (hy : ev env y = some (.int .i64 k)) (hu : ev env u = some v)
    (hT : tabLk tb.und T = some (.map kt E)) (hk : tabLk tb.und kt = some (.int .i64)) (hc : Has L (MP b l) L') (h : St ρ N env (MP b (aset l k v) :: L') K) :
    St ρ N env L (Exec P Q ⟨none, .mapUpdate T x y u, ty, pos, aft, g⟩ K) :=
  St_skipop (M := MP b (aset l k v) :: L') (fun a w q H => by
    obtain ⟨es, clk, p1, p2, p3, H1⟩ := (H.has hc).mp
    have hb := H1.block
    have hd := tab_ok tb.und_ok hk
    have hlt : b < w.heap.size := (Array.getElem?_eq_some_iff.1 hb).1
    have hput : ∀ o, Holds ρ { w with heap := w.heap.setIfInBounds b o } (one false b o :: L') := fun o =>
      H1.put rfl (by simp [hlt]) (fun c hne => by simp [Array.getElem?_setIfInBounds, Ne.symm hne])
    rcases map_find k v es l 0 p1 with ⟨a1, a2, a3⟩ | ⟨j, e, u', a1, a2, a3, a4, a5⟩
    · refine ⟨_, ?_, (hput (.map (es ++ [({ key := .int .i64 k, val := v, born := clk } : MapEntry)]).toArray (clk + 1))).mp_mk ?_ ?_ ?_⟩
      · simp [execOp, Instr.mapUpdate, ev_ok q hx, ev_ok q hy, ev_ok q hu, run_und (tab_ok tb.und_ok hT), MapKept.run_getObj_map hb, MapKept.run_checkKey (k := .int .i64 k) hd rfl, MapKept.run_findKey hd a2, MapKept.run_setObj_map _ hb, Result.andThen]
      · rw [a3]; simp [p1]
      · rw [List.map_append, List.nodup_append]
        refine ⟨p2, by simp, ?_⟩
        intro x hx y hy
        simp at hy
        obtain ⟨e, he, rfl⟩ := List.mem_map.1 hx
        have := p3 e he
        omega
      · intro e he
        rcases List.mem_append.1 he with h | h
        · have := p3 e h; omega
        · simp at h; subst h; dsimp only; omega
    · have hj : j < es.length := by
        rcases Nat.lt_or_ge j es.length with h | h
        · exact h
        · rw [List.getElem?_eq_none h] at a1; cases a1
      refine ⟨_, ?_, (hput (.map (es.modify j fun e => { e with key := .int .i64 k, val := v }).toArray clk)).mp_mk a5 ?_ ?_⟩
      · have hst := MapKept.run_keyThatStays (P := P) (w := w) (d := .int .i64) (k := .int .i64 k) rfl
        have ha : ((es.toArray[0 + j]?).map (·.key)).getD (.int .i64 k) = .int .i64 k := by simp [a1, a2]
        simp only [execOp, Instr.mapUpdate, ev_ok q hx, ev_ok q hy, ev_ok q hu, Sem.run_bind, run_und (tab_ok tb.und_ok hT), MapKept.run_getObj_map hb, MapKept.run_checkKey (k := .int .i64 k) hd rfl, MapKept.run_findKey hd a4, Result.andThen]
        rw [ha, hst]
        simp [Result.andThen, MapKept.run_setObj_map _ hb, Nat.zero_add]
      · rw [born_modify (fun e => { e with key := .int .i64 k, val := v }) (fun _ => rfl)]; exact p2
      · intro e' he'
        have h1 : e'.born ∈ (es.modify j fun e => { e with key := .int .i64 k, val := v }).map (·.born) := List.mem_map_of_mem he'
        rw [born_modify (fun e => { e with key := .int .i64 k, val := v }) (fun _ => rfl)] at h1
        obtain ⟨e2, h2, h3⟩ := List.mem_map.1 h1
        rw [← h3]; exact p3 e2 h2) h
/-- A slice that is read, and its two parts. -/
theorem Holds.rs_cut {α : Type} {f : α → List Value} {k : Nat} (hk : ∀ u, (f u).length = k) {A : Option Addr} {n c m : Nat} {xs : List α} {w : World} (hx : xs.length = n) (hm : m ≤ n) (hc : n ≤ c)
    (H : Holds ρ w (RS true (.slice A n c) n (xs.flatMap f) :: L)) :
    Holds ρ w (RS true (.slice A m c) m ((xs.take m).flatMap f) :: RS true (.slice (if c = m then A else A.map (·.add (m * k))) (n - m) (c - m)) (n - m) ((xs.drop m).flatMap f) :: RS true (.slice A n c) n (xs.flatMap f) :: L) := by
  rcases H.rs with ⟨e1, e2, _, H2⟩ | ⟨b, T, cap, pre, rest, e1, H2⟩
  · subst e1
    obtain rfl : m = 0 := by omega
    have : xs = [] := List.length_eq_zero_iff.1 hx
    subst this
    exact H.rs_nil.rs_nil
  · injection e1 with a1 a2 a3
    subst a1 a3
    have hcel := dup_cel b T (pre ++ xs.flatMap f ++ rest)
    have ht : pre ++ xs.flatMap f ++ rest = pre ++ (xs.take m).flatMap f ++ ((xs.drop m).flatMap f ++ rest) := by
      conv => lhs; rw [← List.take_append_drop m xs, List.flatMap_append]
      simp [List.append_assoc]
    have hd : pre ++ xs.flatMap f ++ rest = (pre ++ (xs.take m).flatMap f) ++ (xs.drop m).flatMap f ++ rest := by
      rw [ht]; simp [List.append_assoc]
    have hl : (pre ++ (xs.take m).flatMap f).length = pre.length + m * k := by
      rw [List.length_append, flat_len hk, List.length_take, Nat.min_eq_left (by omega)]
    have H3 := (H2.dup hcel).rs_row (n := n) (cap := c)
    have H4 : Holds ρ w (cel true b T (pre ++ xs.flatMap f ++ rest) :: RS true (.slice (some ⟨b, pre.length, none⟩) n c) n (xs.flatMap f) :: L) := H3.has (Has.tail Has.head)
    have H5 := H4.dup hcel
    have H6 : Holds ρ w (RS true (.slice (if c = m then some ⟨b, pre.length, none⟩ else (some (⟨b, pre.length, none⟩ : Addr)).map (·.add (m * k))) (n - m) (c - m)) (n - m) ((xs.drop m).flatMap f) :: cel true b T (pre ++ xs.flatMap f ++ rest) :: RS true (.slice (some ⟨b, pre.length, none⟩) n c) n (xs.flatMap f) :: L) := by
      by_cases hmn : m = n
      · subst hmn
        have e : xs.drop m = [] := by rw [List.drop_eq_nil_iff]; omega
        rw [e, Nat.sub_self]
        exact H4.rs_nil
      · rw [if_neg (by omega)]
        have H7 := H5
        rw [hd] at H7
        have H8 := H7.rs_row (n := n - m) (cap := c - m)
        rw [hl] at H8
        rw [Option.map_some, Addr.add_none, hd]
        exact H8
    have H9 : Holds ρ w (cel true b T (pre ++ xs.flatMap f ++ rest) :: RS true (.slice (if c = m then some ⟨b, pre.length, none⟩ else (some (⟨b, pre.length, none⟩ : Addr)).map (·.add (m * k))) (n - m) (c - m)) (n - m) ((xs.drop m).flatMap f) :: RS true (.slice (some ⟨b, pre.length, none⟩) n c) n (xs.flatMap f) :: L) := H6.has (Has.tail Has.head)
    rw [ht] at H9
    exact H9.rs_row
theorem St_rsCut {α : Type} {f : α → List Value} {k : Nat} (hk : ∀ u, (f u).length = k) {A : Option Addr} {n c m : Nat} {xs : List α} (hx : xs.length = n) (hm : m ≤ n) (hc : n ≤ c) (hh : Has L (RS true (.slice A n c) n (xs.flatMap f)) L')
    (h : St ρ N env (RS true (.slice A m c) m ((xs.take m).flatMap f) :: RS true (.slice (if c = m then A else A.map (·.add (m * k))) (n - m) (c - m)) (n - m) ((xs.drop m).flatMap f) :: RS true (.slice A n c) n (xs.flatMap f) :: L') G) : St ρ N env L G :=
  fun a w x y => h a w x ((y.has hh).rs_cut hk hx hm hc)
end Go.Proofs.YtfjnacakpeommaaGreatDoor.SL
