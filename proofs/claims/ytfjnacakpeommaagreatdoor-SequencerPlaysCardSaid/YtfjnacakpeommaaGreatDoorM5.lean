/- What the proof stands on, part 5: C22, C23, C24, C8, C25, C26, C29, Row, Open, RSq, C30. -/
import Derived.Test.YtfjnacakpeommaaGreatDoorRows
import Derived.Carry
import Derived.ChangeSame
import Derived.Handed
import Derived.LaidLaws
import Derived.JoinedOf
import Derived.RowKit
import Derived.FnData
import Derived.OpenShut
import Derived.Laws.IdiomArrays
import Derived.Lib.SmallJoins
import Derived.Deep.Slices
import Derived.WideShapes
import Derived.Test.YtfjnacakpeommaaGreatDoorTie
import Derived.Test.YtfjnacakpeommaaGreatDoorCards
import Derived.SevenTiedAt
import Derived.ChangeMaps5
import Derived.Test.YtfjnacakpeommaaGreatDoorM4
/- Contracts: package feed. -/
namespace Go.Proofs.YtfjnacakpeommaaGreatDoor
open Go SL Pl
set_option autoImplicit false
set_option maxRecDepth 100000
set_option linter.unusedSimpArgs false
set_option linter.unusedVariables false
attribute [local irreducible] St Sq Exec QExec wpList wpQuiet Code.wp Exit.then Exit.inBlock bodyPost At Rd wpOp Wa QK GB
abbrev FdP (b i : Nat) : HP := cel false b 135 [nat .i64 i]
theorem fdNew_sp : Sp Tryz.prog 29 [] [] (fun v M => ∃ b, v = .pointer (some ⟨b, 0, none⟩) ∧ M = [FdP b 0]) := by
  refine Sp.intro (P := Tryz.prog) (Tryz.func29) rfl Tryz.ntmps29 (by decide) rfl ?_
  intro ρ F
  repeat' (first | (refine St_step ?_; (try with_reducible intro _)) | (refine St_step2 ?_ ?_ <;> (intro hb; (try simp only [beq_iff_eq, bne_iff_ne, decide_eq_true_eq, decide_eq_false_iff_not, Bool.not_eq_true', Bool.not_eq_false', beq_eq_false_iff_ne, bne_eq_false_iff_eq, ne_eq, Int.not_lt, Int.not_le, gt_iff_lt, ge_iff_le] at hb); (try (first | exact Bool.noConfusion hb | exact absurd trivial hb | (exfalso; omega))))) | fail)
  exact St_ret1 (.inl rfl) rfl rfl ⟨_, rfl, rfl⟩ (by exact Split.auto)
theorem fdAt_sp (b i : Nat) : Sp Tryz.prog 52 [.pointer (some ⟨b, 0, none⟩)] [FdP b i] (fun v M => v = nat .i64 i ∧ M = [FdP b i]) := by
  refine Sp.intro (P := Tryz.prog) (Tryz.func52) rfl Tryz.ntmps52 (by decide) rfl ?_
  intro ρ F
  repeat' (first | (refine St_step ?_; (try with_reducible intro _)) | (refine St_step2 ?_ ?_ <;> (intro hb; (try simp only [beq_iff_eq, bne_iff_ne, decide_eq_true_eq, decide_eq_false_iff_not, Bool.not_eq_true', Bool.not_eq_false', beq_eq_false_iff_ne, bne_eq_false_iff_eq, ne_eq, Int.not_lt, Int.not_le, gt_iff_lt, ge_iff_le] at hb); (try (first | exact Bool.noConfusion hb | exact absurd trivial hb | (exfalso; omega))))) | fail)
  exact St_ret1 (.inl rfl) rfl rfl ⟨rfl, rfl⟩ (by exact Split.auto)
theorem fdReset_sp (b i : Nat) : Sp Tryz.prog 36 [.pointer (some ⟨b, 0, none⟩)] [FdP b i] (fun v M => v = .tuple #[] ∧ M = [FdP b 0]) := by
  refine Sp.intro (P := Tryz.prog) (Tryz.func36) rfl Tryz.ntmps36 (by decide) rfl ?_
  intro ρ F
  repeat' (first | (refine St_step ?_; (try with_reducible intro _)) | (refine St_step2 ?_ ?_ <;> (intro hb; (try simp only [beq_iff_eq, bne_iff_ne, decide_eq_true_eq, decide_eq_false_iff_not, Bool.not_eq_true', Bool.not_eq_false', beq_eq_false_iff_ne, bne_eq_false_iff_eq, ne_eq, Int.not_lt, Int.not_le, gt_iff_lt, ge_iff_le] at hb); (try (first | exact Bool.noConfusion hb | exact absurd trivial hb | (exfalso; omega))))) | fail)
  exact St_ret0 (.inr rfl) rfl ⟨rfl, rfl⟩ (by exact Split.auto)
theorem sdOffer_err {s : Sd} {d : List UInt8} (h : (sdOffer s d).2 ≠ 0) : (sdOffer s d).1 = s := by
  unfold sdOffer at *
  split
  · rfl
  · split
    · rfl
    · rename_i h1 h2; rw [if_neg h1, if_neg h2] at h; exact absurd rfl h
def lkWith (k : Lk) (s : Sd) : Lk := ⟨s, k.rc, k.ep, k.win, k.room, k.pas⟩
theorem lkOk_with {k : Lk} (h : lkOk k) {s : Sd} (hs : sdOk s) : lkOk (lkWith k s) := ⟨hs, h.rc, h.ep⟩
theorem pumpN_ok (l : List Ro) : ∀ (n i : Nat) {s : Sd}, sdOk s → sdOk (pumpN l n i s).2
  | 0, _, _, h => h
  | n + 1, i, s, h => by
    unfold pumpN
    split
    · exact h
    · split
      · exact h
      · exact pumpN_ok l n (i + 1) (sdOk_offer h _)
theorem pumpN_le (l : List Ro) : ∀ (n i : Nat) (s : Sd), i ≤ (pumpN l n i s).1 ∧ (pumpN l n i s).1 ≤ i + n
  | 0, i, _ => ⟨Nat.le_refl _, Nat.le_refl _⟩
  | n + 1, i, s => by
    unfold pumpN
    split
    · exact ⟨Nat.le_refl _, by omega⟩
    · split
      · exact ⟨Nat.le_refl _, by omega⟩
      · rename_i r _ _
        have := pumpN_le l n (i + 1) (sdOffer s (rput r).1).1
        exact ⟨by omega, by omega⟩
theorem Sp.conv {P : Program} {f : FuncId} {vs : List Value} {pre : List HP} {post post' : Value → List HP → Prop} (h : Sp P f vs pre post)
    (hp : ∀ v M, post v M → ∃ M', post' v M' ∧ ∀ (ρ : Rst) (w : World) (F : List HP), Holds ρ w (M ++ F) → Holds ρ w (M' ++ F)) : Sp P f vs pre post' :=
  ⟨h.callable, fun ρ F w H => (h.calls ρ F w H).mono fun _ _ ⟨v, M, e, p, H'⟩ => let ⟨M', p', c⟩ := hp v M p; ⟨v, M', e, p', c _ _ _ H'⟩⟩
/-- What stands at a place of the log, or nothing. -/
def roAt (l : List Ro) (i : Nat) : Ro := (l[i]?).getD ro0
theorem lgAt2_sp (b clients i : Nat) (l : List Ro) (hu : ∀ r ∈ l, r.ups.length ≤ 1000) : Sp Tryz.prog 86 [.pointer (some ⟨b, 0, none⟩), nat .i64 i] [LgP b clients l]
    (fun w M => ∃ v, w = .tuple [.agg (rv (roAt l i) v).toArray, .bool (decide (i < l.length))].toArray ∧ M = [UL true v (roAt l i).ups, LgP b clients l]) := by
  refine Sp.conv (lgAt_sp b clients i l hu) ?_
  rintro w M (⟨r, v, h1, rfl, rfl⟩ | ⟨h1, rfl, rfl⟩)
  · have hi : i < l.length := by
      rcases Nat.lt_or_ge i l.length with h | h
      · exact h
      · rw [List.getElem?_eq_none h] at h1; cases h1
    have e : roAt l i = r := by unfold roAt; rw [h1]; rfl
    refine ⟨_, ⟨v, ?_, rfl⟩, fun ρ w F H => ?_⟩
    · rw [e, decide_eq_true hi]
    · rw [e]; exact H
  · have hi : ¬ i < l.length := fun h => by rw [List.getElem?_eq_getElem h] at h1; cases h1
    have e : roAt l i = ro0 := by unfold roAt; rw [h1]; rfl
    refine ⟨_, ⟨.slice none 0 0, ?_, rfl⟩, fun ρ w F H => ?_⟩
    · rw [e, decide_eq_false hi]
    · rw [e]; exact H.rs_nil
theorem pumpN_stop {l : List Ro} {i : Nat} {s : Sd} (h : ¬ i < l.length) : pumpN l (l.length - i) i s = (i, s) := by
  have : l.length - i = 0 := by omega
  rw [this]; rfl
theorem pumpN_step {l : List Ro} {i : Nat} {s : Sd} (h : i < l.length) : pumpN l (l.length - i) i s = if (sdOffer s (rput (roAt l i)).1).2 ≠ 0 then (i, s) else pumpN l (l.length - (i + 1)) (i + 1) (sdOffer s (rput (roAt l i)).1).1 := by
  obtain ⟨n, hn⟩ : ∃ n, l.length - i = n + 1 := ⟨l.length - i - 1, by omega⟩
  have e : l.length - (i + 1) = n := by omega
  have hr : l[i]? = some (roAt l i) := by unfold roAt; rw [List.getElem?_eq_getElem h]; rfl
  rw [hn, e, pumpN, hr]
structure PumpI (l : List Ro) (at_ : Nat) (T : Nat × Sd) (i : Nat) (s : Sd) (n : Nat) : Prop where
  le : i ≤ l.length
  goes : pumpN l (l.length - i) i s = T
  ok : sdOk s
  cnt : n + at_ = i
set_option maxHeartbeats 2000000 in
theorem pump_sp (b lb kb clients i : Nat) (l : List Ro) (k : Lk) (hk : lkOk k) (hi : i ≤ l.length) (hl : l.length ≤ 1000000) (hu : ∀ r ∈ l, r.ups.length ≤ 1000) :
    Sp Tryz.prog 46 [.pointer (some ⟨b, 0, none⟩), .pointer (some ⟨lb, 0, none⟩), .pointer (some ⟨kb, 0, none⟩)] [FdP b i, LgP lb clients l, LkP kb k, GB]
      (fun w M => (∃ n : Nat, w = nat .i64 n) ∧ M = [FdP b (pump l i k.sd).1, LgP lb clients l, LkP kb (lkWith k (pump l i k.sd).2), GB]) := by
  refine Sp.intro (P := Tryz.prog) (Tryz.func46) rfl Tryz.ntmps46 (by decide) rfl ?_
  intro ρ F
  obtain ⟨T, hT⟩ : ∃ T, T = pump l i k.sd := ⟨_, rfl⟩
  rw [← hT]
  have hA := fun j => lgAt2_sp lb clients j l hu
  have hI : PumpI l i T i k.sd 0 := ⟨hi, hT.symm, hk.sd, by omega⟩
  have hw : LkP kb k = LkP kb (lkWith k k.sd) := rfl
  rw [hw]
  repeat' (first | (apply St_call (hf := hA i); exact rfl; exact rfl; exact Split.auto; rintro _ _ ⟨v, rfl, rfl⟩; refine St_rsIs (r := true) (v := v) (n := (roAt l i).ups.length) (cs := (roAt l i).ups.flatMap uv) (by exact Has.auto) ?_; rintro Au cu rfl) | (refine St_loop (fun (y : Nat × Sd × Nat × Nat × Option Addr × Nat) => PumpI l i T y.1 y.2.1 y.2.2.1) (fun y => [(0, .pointer (some ⟨b, 0, none⟩)), (1, .pointer (some ⟨lb, 0, none⟩)), (2, .pointer (some ⟨kb, 0, none⟩)), (7, nat .i64 y.2.2.1), (8, .pointer (some ⟨y.2.2.2.1, 0, none⟩)), (9, .bool (decide (y.1 < l.length)))]) (fun y => [cel false y.2.2.2.1 64 (rv (roAt l y.1) (.slice y.2.2.2.2.1 (roAt l y.1).ups.length y.2.2.2.2.2)), UL true (.slice y.2.2.2.2.1 (roAt l y.1).ups.length y.2.2.2.2.2) (roAt l y.1).ups, FdP b y.1, LgP lb clients l, LkP kb (lkWith k y.2.1), GB, big F]) (fun y => l.length - y.1) (i, k.sd, 0, _, Au, cu) hI ⟨rfl, rfl, rfl, rfl, rfl, rfl, trivial⟩ (by exact Split.auto) ?_) | (refine St_step ?_; (try with_reducible intro _)) | (refine St_step2 ?_ ?_ <;> (intro hb; (try simp only [beq_iff_eq, bne_iff_ne, decide_eq_true_eq, decide_eq_false_iff_not, Bool.not_eq_true', Bool.not_eq_false', beq_eq_false_iff_ne, bne_eq_false_iff_eq, ne_eq, Int.not_lt, Int.not_le, gt_iff_lt, ge_iff_le] at hb); (try (first | exact Bool.noConfusion hb | exact absurd trivial hb | (exfalso; omega))))) | fail)
  rintro ⟨j, s, n, rb, Aj, cj⟩ hJ
  have hJ : PumpI l i T j s n := hJ
  obtain ⟨j1, j2, j3, j4⟩ := hJ
  dsimp only
  by_cases hj : j < l.length
  · have hput := rPut_sp true (roAt l j) (.slice Aj (roAt l j).ups.length cj)
    have hof := lkOffer_sp kb (lkWith k s) (rput (roAt l j)).1 (lkOk_with hk j3)
    rw [pumpN_step hj] at j2
    have e1 : (lkWith k s).sd = s := rfl
    rw [e1] at hof
    by_cases he : (sdOffer s (rput (roAt l j)).1).2 = 0
    · rw [if_neg (fun h => h he)] at j2
      rw [he] at hof
      have e2 : lkOffer (lkWith k s) (rput (roAt l j)).1 = lkWith k (sdOffer s (rput (roAt l j)).1).1 := rfl
      rw [e2] at hof
      have hok := sdOk_offer j3 (rput (roAt l j)).1
      generalize (sdOffer s (rput (roAt l j)).1).1 = s' at *
      have hA1 := hA (j + 1)
      repeat' (first | (apply St_call (hf := hput); exact rfl; exact rfl; exact Split.auto; rintro _ _ ⟨rfl, rfl⟩) | (apply St_call (hf := hof); exact rfl; exact rfl; exact Split.auto; rintro _ _ ⟨rfl, rfl⟩) | (apply St_call (hf := hA1); exact rfl; exact rfl; exact Split.auto; rintro _ _ ⟨v, rfl, rfl⟩; refine St_rsIs (r := true) (v := v) (n := (roAt l (j + 1)).ups.length) (cs := (roAt l (j + 1)).ups.flatMap uv) (by exact Has.auto) ?_; rintro Au cu rfl) | (apply St_rd; exact rfl; (first | (apply Rd_succ; exact rfl; exact rfl; omega))) | (apply Sq_rd; exact rfl; (first | (apply Rd_succ; exact rfl; exact rfl; omega))) | (refine St_step ?_; (try with_reducible intro _)) | (refine St_step2 ?_ ?_ <;> (intro hb; (try simp only [beq_iff_eq, bne_iff_ne, decide_eq_true_eq, decide_eq_false_iff_not, Bool.not_eq_true', Bool.not_eq_false', beq_eq_false_iff_ne, bne_eq_false_iff_eq, ne_eq, Int.not_lt, Int.not_le, gt_iff_lt, ge_iff_le] at hb); (try (first | exact Bool.noConfusion hb | exact absurd trivial hb | (exfalso; omega))))) | fail)
      all_goals first | (exfalso; omega) | skip
      exact St_at (j + 1, s', n + 1, _, Au, cu) ⟨⟨by show j + 1 ≤ _; omega, j2, hok, by show n + 1 + i = j + 1; omega⟩, by show l.length - (j + 1) < l.length - j; omega⟩ ⟨rfl, rfl, rfl, rfl, rfl, rfl, trivial⟩ (by exact Split.auto)
    · rw [if_pos he] at j2
      have e2 : lkOffer (lkWith k s) (rput (roAt l j)).1 = lkWith k s := by
        unfold lkOffer
        rw [e1, sdOffer_err he]; rfl
      rw [e2] at hof
      rw [← j2]
      generalize (sdOffer s (rput (roAt l j)).1).2 = e at *
      repeat' (first | (apply St_call (hf := hput); exact rfl; exact rfl; exact Split.auto; rintro _ _ ⟨rfl, rfl⟩) | (apply St_call (hf := hof); exact rfl; exact rfl; exact Split.auto; rintro _ _ ⟨rfl, rfl⟩) | (refine St_step ?_; (try with_reducible intro _)) | (refine St_step2 ?_ ?_ <;> (intro hb; (try simp only [beq_iff_eq, bne_iff_ne, decide_eq_true_eq, decide_eq_false_iff_not, Bool.not_eq_true', Bool.not_eq_false', beq_eq_false_iff_ne, bne_eq_false_iff_eq, ne_eq, Int.not_lt, Int.not_le, gt_iff_lt, ge_iff_le] at hb); (try (first | exact Bool.noConfusion hb | exact absurd trivial hb | (exfalso; omega))))) | fail)
      all_goals first | (exfalso; omega) | skip
      exact St_ret1 (.inl rfl) rfl rfl ⟨⟨n, rfl⟩, rfl⟩ (by exact Split.auto)
  · rw [pumpN_stop hj] at j2
    rw [← j2]
    repeat' (first | (refine St_step ?_; (try with_reducible intro _)) | (refine St_step2 ?_ ?_ <;> (intro hb; (try simp only [beq_iff_eq, bne_iff_ne, decide_eq_true_eq, decide_eq_false_iff_not, Bool.not_eq_true', Bool.not_eq_false', beq_eq_false_iff_ne, bne_eq_false_iff_eq, ne_eq, Int.not_lt, Int.not_le, gt_iff_lt, ge_iff_le] at hb); (try (first | exact Bool.noConfusion hb | exact absurd trivial hb | (exfalso; omega))))) | fail)
    all_goals first | contradiction | skip
    exact St_ret1 (.inl rfl) rfl rfl ⟨⟨n, rfl⟩, rfl⟩ (by exact Split.auto)
end Go.Proofs.YtfjnacakpeommaaGreatDoor
/- Contracts: package sequencer, but for Hear and Tick. -/
namespace Go.Proofs.YtfjnacakpeommaaGreatDoor
open Go SL Pl
set_option autoImplicit false
set_option maxRecDepth 100000
set_option linter.unusedSimpArgs false
set_option linter.unusedVariables false
attribute [local irreducible] St Sq Exec QExec wpList wpQuiet Code.wp Exit.then Exit.inBlock bodyPost At Rd wpOp Wa QK GB
theorem star_emp {B : HP} {h : Hp} (H : B h) : star emp B h := ⟨E0, h, E0_Cmp h, rfl, rfl, H⟩
theorem emp_star {B : HP} {h : Hp} (H : star emp B h) : B h := by
  obtain ⟨h1, h2, c, rfl, e, b⟩ := H
  have e : h1 = E0 := e
  subst e
  exact b
theorem big_get {A : HP} : ∀ {l : List HP} {i : Nat}, l[i]? = some A → ∀ {h : Hp}, big l h → star A (big (l.set i emp)) h
  | [], _, e, _, _ => by simp at e
  | B :: l, 0, e, h, H => by
    have : B = A := by simpa using e
    subst this
    exact star_mono (fun _ a => a) (fun _ b => star_emp b) H
  | B :: l, i + 1, e, h, H => by
    have e : l[i]? = some A := by simpa using e
    exact star_swap (star_mono (fun _ a => a) (fun _ b => big_get e b) H)
theorem big_put {A : HP} : ∀ {l : List HP} {i : Nat}, i < l.length → ∀ {h : Hp}, star A (big (l.set i emp)) h → big (l.set i A) h
  | [], _, e, _, _ => by simp at e
  | B :: l, 0, e, h, H => star_mono (fun _ a => a) (fun _ b => emp_star b) H
  | B :: l, i + 1, e, h, H => by
    have e : i < l.length := by simpa using e
    exact star_mono (fun _ a => a) (fun _ b => big_put e b) (star_swap H)
section
variable {ρ : Rst} {N : Nat} {env : Env} {L L' : List HP} {G : Act → World → Prop}
theorem St_bigGet {l : List HP} {i : Nat} {A : HP} (hc : Has L (big l) L') (hi : l[i]? = some A) (h : St ρ N env (A :: big (l.set i emp) :: L') G) : St ρ N env L G :=
  St_conv (L' := A :: big (l.set i emp) :: L') (fun w H => (H.has hc).mono fun _ y => star_assoc' (star_mono (fun _ a => big_get hi a) (fun _ b => b) y)) h
theorem St_bigPut {l : List HP} {i : Nat} {A : HP} (hi : i < l.length) (hs : Split L [A, big (l.set i emp)] L') (h : St ρ N env (big (l.set i A) :: L') G) : St ρ N env L G :=
  St_conv (L' := big (l.set i A) :: L') (fun w H => (H.split hs).mono fun _ y => star_mono (fun _ a => big_put hi a) (fun _ b => b) (star_assoc y)) h
end
theorem zip_get {α β : Type} {f : α → β → HP} {xs : List α} {ys : List β} {i : Nat} {x : α} {y : β} (hx : xs[i]? = some x) (hy : ys[i]? = some y) : (List.zipWith f xs ys)[i]? = some (f x y) := by
  simp [List.getElem?_zipWith, hx, hy]
theorem zip_set {α β : Type} {f : α → β → HP} : ∀ {xs : List α} {ys : List β} {i : Nat} {x : α} {y : β}, xs[i]? = some x → (List.zipWith f xs ys).set i (f x y) = List.zipWith f xs (ys.set i y)
  | [], _, _, _, _, h => by simp at h
  | _ :: _, [], _, _, _, _ => by simp
  | a :: xs, b :: ys, 0, x, y, h => by
    have : a = x := by simpa using h
    subst this
    simp
  | a :: xs, b :: ys, i + 1, x, y, h => by
    have h : xs[i]? = some x := by simpa using h
    simp [zip_set (ys := ys) (y := y) h]
abbrev cfgC (c : Cfg) : List Value := [.int .i64 c.clients, .int .i64 c.window, .int .i64 c.push, .int .i64 c.pull, .int .i64 c.mtu, .int .i64 c.last]
abbrev idv (x : Nat × Nat) : List Value := [.pointer (some ⟨x.1, 0, none⟩), .pointer (some ⟨x.2, 0, none⟩)]
theorem idv_len (x : Nat × Nat) : (idv x).length = 2 := rfl
def PeP (x : Nat × Nat) (k : Lk × Nat) : HP := big [LkP x.1 k.1, FdP x.2 k.2]
/-- The sequencer's chunks: where the log lies, the peers' slice, where their links and feeds lie. -/
def sqL (b : Nat) (s : Sqr) (z : Nat × Value × List (Nat × Nat)) : List HP :=
  [lift (z.2.2.length = s.ks.length), cel false b 83 (cfgC s.c ++ [.pointer (some ⟨z.1, 0, none⟩), z.2.1]), LgP z.1 s.c.clients.toNat s.l, Sl 89 2 z.2.1 s.ks.length (z.2.2.flatMap idv), big (List.zipWith PeP z.2.2 s.ks)]
def SqP (b : Nat) (s : Sqr) : HP := ex fun z => big (sqL b s z)
section
variable {ρ : Rst} {N : Nat} {env : Env} {L L' : List HP} {G : Act → World → Prop}
theorem St_sqOpen {b : Nat} {s : Sqr} (hc : Has L (SqP b s) L')
    (h : ∀ lb A c ids, ids.length = s.ks.length → St ρ N env (cel false b 83 (cfgC s.c ++ [.pointer (some ⟨lb, 0, none⟩), .slice A s.ks.length c]) :: LgP lb s.c.clients.toNat s.l :: Sl 89 2 (.slice A s.ks.length c) s.ks.length (ids.flatMap idv) :: big (List.zipWith PeP ids s.ks) :: L') G) : St ρ N env L G :=
  St_exOpen (l := sqL b s) hc fun z => St_lift fun hz => St_slIs (E := 89) (sz := 2) (v := z.2.1) (n := s.ks.length) (cs := z.2.2.flatMap idv) (.tail (.tail .head)) fun A c e => by
    have := h z.1 A c z.2.2 hz
    rw [← e] at this
    exact this
theorem St_sqMk {b lb : Nat} {s : Sqr} {v : Value} {ids : List (Nat × Nat)} (hz : ids.length = s.ks.length) (hs : Split L [cel false b 83 (cfgC s.c ++ [.pointer (some ⟨lb, 0, none⟩), v]), LgP lb s.c.clients.toNat s.l, Sl 89 2 v s.ks.length (ids.flatMap idv), big (List.zipWith PeP ids s.ks)] L')
    (h : St ρ N env (SqP b s :: L') G) : St ρ N env L G :=
  St_conv (fun w H => Holds.ex_mk (A := fun z => big (sqL b s z)) (lb, v, ids) (Holds.shut (l := [_, _, _, _, _]) (Holds.lift_mk hz (H.split hs)))) h
end
structure sqOk (s : Sqr) : Prop where
  c : cfgOk s.c
  n : s.ks.length = s.c.clients.toNat
  ks : ∀ k ∈ s.ks, lkOk k.1 ∧ k.2 ≤ s.l.length ∧ k.1.rc.q = [] ∧ k.1.pas = true
  l : lgOk s.c.clients.toNat s.l
theorem lgOk_mem {n : Nat} {l : List Ro} (h : lgOk n l) : ∀ r ∈ l, rmay r = 0 := fun r hr => by
  obtain ⟨i, hi, e⟩ := List.getElem_of_mem hr
  exact (h i r (by rw [List.getElem?_eq_getElem hi, e])).1
theorem lgOk_ups {n : Nat} {l : List Ro} (h : lgOk n l) : ∀ r ∈ l, r.ups.length ≤ 1000 := fun r hr => by
  obtain ⟨_, _, h3, _⟩ := rmay_zero (lgOk_mem h r hr); omega
theorem lastOf_le {l : List Ro} (h : ∀ r ∈ l, rmay r = 0) (o : Int) : lastOf l o ≤ 1099511627776 := by
  induction l with
  | nil => exact Nat.zero_le _
  | cons r l ih =>
    have h1 := ih fun x hx => h x (List.mem_cons_of_mem _ hx)
    obtain ⟨_, h2, _⟩ := rmay_zero (h r List.mem_cons_self)
    unfold lastOf
    split
    · split <;> omega
    · exact h1
theorem sin_sp (n lo hi : Int) : Sp Tryz.prog 32 [.int .i64 n, .int .i64 lo, .int .i64 hi] [] (fun v M => v = .bool (decide (lo ≤ n ∧ n ≤ hi)) ∧ M = []) := by
  refine Sp.intro (P := Tryz.prog) (Tryz.func32) rfl Tryz.ntmps32 (by decide) rfl ?_
  intro ρ F
  repeat' (first | (refine St_step ?_; (try with_reducible intro _)) | (refine St_step2 ?_ ?_ <;> (intro hb; (try simp only [beq_iff_eq, bne_iff_ne, decide_eq_true_eq, decide_eq_false_iff_not, Bool.not_eq_true', Bool.not_eq_false', beq_eq_false_iff_ne, bne_eq_false_iff_eq, ne_eq, Int.not_lt, Int.not_le, gt_iff_lt, ge_iff_le] at hb); (try (first | exact Bool.noConfusion hb | exact absurd trivial hb | (exfalso; omega))))) | fail)
  all_goals (refine St_ret1 (.inl rfl) rfl rfl ⟨?_, rfl⟩ (by exact Split.auto))
  all_goals first
    | (congr 1; rw [decide_eq_decide]; omega)
    | (congr 1; rw [eq_comm, decide_eq_false_iff_not]; omega)
    | (congr 1; rw [eq_comm, decide_eq_true_eq]; omega)
theorem sMay_sp (c : Cfg) : Sp Tryz.prog 26 [.agg (cfgC c).toArray] [] (fun v M => v = nat .i64 (if cfgOk c then 0 else 1) ∧ M = []) := by
  refine Sp.intro (P := Tryz.prog) (Tryz.func26) rfl Tryz.ntmps26 (by decide) rfl ?_
  intro ρ F
  by_cases h : cfgOk c
  · rw [if_pos h]
    obtain ⟨h1, h2, h3, h4, h5, h6⟩ := h
    repeat' (first | (apply St_call (hf := sin_sp _ _ _); exact rfl; exact rfl; exact Split.auto; rintro _ _ ⟨rfl, rfl⟩) | (refine St_step ?_; (try with_reducible intro _)) | (refine St_step2 ?_ ?_ <;> (intro hb; (try simp only [beq_iff_eq, bne_iff_ne, decide_eq_true_eq, decide_eq_false_iff_not, Bool.not_eq_true', Bool.not_eq_false', beq_eq_false_iff_ne, bne_eq_false_iff_eq, ne_eq, Int.not_lt, Int.not_le, gt_iff_lt, ge_iff_le] at hb); (try (first | exact Bool.noConfusion hb | exact absurd trivial hb | (exfalso; omega))))) | fail)
    all_goals (first | contradiction | (exfalso; omega) | (exact St_ret1 (.inl rfl) rfl rfl ⟨rfl, rfl⟩ (by exact Split.auto)) | (exact St_ret2 (.inl rfl) rfl rfl rfl ⟨rfl, rfl⟩ (by exact Split.auto)) | (exact St_ret3 (.inl rfl) rfl rfl rfl rfl ⟨rfl, rfl⟩ (by exact Split.auto)))
  · rw [if_neg h]
    have h' : ¬ ((1 ≤ c.clients ∧ c.clients ≤ 64) ∧ (1 ≤ c.window ∧ c.window ≤ 16) ∧ (1 ≤ c.push ∧ c.push ≤ 16) ∧ (1 ≤ c.pull ∧ c.pull ≤ 16) ∧ (64 ≤ c.mtu ∧ c.mtu ≤ 1400) ∧ (1 ≤ c.last ∧ c.last ≤ 1099511627776)) := h
    repeat' (first | (apply St_call (hf := sin_sp _ _ _); exact rfl; exact rfl; exact Split.auto; rintro _ _ ⟨rfl, rfl⟩) | (refine St_step ?_; (try with_reducible intro _)) | (refine St_step2 ?_ ?_ <;> (intro hb; (try simp only [beq_iff_eq, bne_iff_ne, decide_eq_true_eq, decide_eq_false_iff_not, Bool.not_eq_true', Bool.not_eq_false', beq_eq_false_iff_ne, bne_eq_false_iff_eq, ne_eq, Int.not_lt, Int.not_le, gt_iff_lt, ge_iff_le] at hb); (try (first | exact Bool.noConfusion hb | exact absurd trivial hb | (exfalso; omega))))) | fail)
    all_goals (first | contradiction | (exfalso; omega) | (exact St_ret1 (.inl rfl) rfl rfl ⟨rfl, rfl⟩ (by exact Split.auto)) | (exact St_ret2 (.inl rfl) rfl rfl rfl ⟨rfl, rfl⟩ (by exact Split.auto)) | (exact St_ret3 (.inl rfl) rfl rfl rfl rfl ⟨rfl, rfl⟩ (by exact Split.auto)))
theorem sLogC_sp (b : Nat) (s : Sqr) (hs : sqOk s) (hl : s.l.length ≤ 1000000) : Sp Tryz.prog 21 [.pointer (some ⟨b, 0, none⟩)] [SqP b s] (fun w M => (∃ A c, s.l.length ≤ c ∧ w = .slice A s.l.length c) ∧ M = [RdP w s.l, SqP b s]) := by
  refine Sp.intro (P := Tryz.prog) (Tryz.func21) rfl Tryz.ntmps21 (by decide) rfl ?_
  intro ρ F
  refine St_sqOpen (b := b) (s := s) (by exact Has.auto) fun lb A c ids hz => ?_
  have ha := lgAllC_sp lb s.c.clients.toNat s.l hl (lgOk_ups hs.l)
  repeat' (first | (apply St_call (hf := ha); exact rfl; exact rfl; exact Split.auto; rintro _ _ ⟨⟨A', c', hroom, rfl⟩, rfl⟩) | (refine St_step ?_; (try with_reducible intro _)) | (refine St_step2 ?_ ?_ <;> (intro hb; (try simp only [beq_iff_eq, bne_iff_ne, decide_eq_true_eq, decide_eq_false_iff_not, Bool.not_eq_true', Bool.not_eq_false', beq_eq_false_iff_ne, bne_eq_false_iff_eq, ne_eq, Int.not_lt, Int.not_le, gt_iff_lt, ge_iff_le] at hb); (try (first | exact Bool.noConfusion hb | exact absurd trivial hb | (exfalso; omega))))) | fail)
  refine St_sqMk (b := b) (lb := lb) (s := s) (v := .slice A s.ks.length c) (ids := ids) hz (by exact Split.auto) ?_
  exact St_ret1 (.inl rfl) rfl rfl ⟨⟨_, _, hroom, rfl⟩, rfl⟩ (by exact Split.auto)
theorem sLog_sp (b : Nat) (s : Sqr) (hs : sqOk s) (hl : s.l.length ≤ 1000000) : Sp Tryz.prog 21 [.pointer (some ⟨b, 0, none⟩)] [SqP b s] (fun w M => (∃ A c, w = .slice A s.l.length c) ∧ M = [RdP w s.l, SqP b s]) :=
  (sLogC_sp b s hs hl).mono fun v M ⟨⟨A, c, _, h⟩, h2⟩ => ⟨⟨A, c, h⟩, h2⟩
section
variable {ρ : Rst} {N : Nat} {env : Env} {L L' : List HP} {G : Act → World → Prop}
theorem St_shut {l : List HP} (hs : Split L l L') (h : St ρ N env (big l :: L') G) : St ρ N env L G := St_conv (fun w H => Holds.shut (H.split hs)) h
theorem St_peGet {ids : List (Nat × Nat)} {ks : List (Lk × Nat)} {i : Nat} {x : Nat × Nat} {k : Lk × Nat} (hc : Has L (big (List.zipWith PeP ids ks)) L') (hx : ids[i]? = some x) (hk : ks[i]? = some k)
    (h : St ρ N env (LkP x.1 k.1 :: FdP x.2 k.2 :: big ((List.zipWith PeP ids ks).set i emp) :: L') G) : St ρ N env L G :=
  St_bigGet hc (zip_get hx hk) (St_open (l := [LkP x.1 k.1, FdP x.2 k.2]) h)
theorem St_pePut {ids : List (Nat × Nat)} {ks : List (Lk × Nat)} {i : Nat} {x : Nat × Nat} {k : Lk × Nat} (hx : ids[i]? = some x) (hk : i < ks.length) (hs : Split L [LkP x.1 k.1, FdP x.2 k.2, big ((List.zipWith PeP ids ks).set i emp)] L')
    (h : St ρ N env (big (List.zipWith PeP ids (ks.set i k)) :: L') G) : St ρ N env L G := by
  have hlt : i < ids.length := by
    rcases Nat.lt_or_ge i ids.length with q | q
    · exact q
    · rw [List.getElem?_eq_none q] at hx; cases hx
  refine St_conv (L' := PeP x k :: big ((List.zipWith PeP ids ks).set i emp) :: L') (fun w H => by
    have H1 := Holds.split H hs
    exact Holds.shut (l := [LkP x.1 k.1, FdP x.2 k.2]) H1) ?_
  refine St_bigPut (l := List.zipWith PeP ids ks) (i := i) (A := PeP x k) (by simp; omega) (.cons .head (.cons .head .nil)) ?_
  rw [zip_set hx]
  exact h
variable {P : Program} {Q : Exit → Act → World → Prop} {K : Act → World → Prop}
variable {d : Nat} {dd : Option Nat} {op : Op} {ty : TypeId} {pos : String} {aft : Array Edge} {g : Option (Nat × Bool)}
theorem Rd_subV {T U : TypeId} {x y : Operand} {m n r : Int} (hx : ev env x = some (.int .i64 m)) (hy : ev env y = some (.int .i64 n)) (hr : m - n = r)
    (hb : -9223372036854775808 ≤ r ∧ r ≤ 9223372036854775807) : Rd P ρ N env L ⟨dd, .binOp .sub T x y U, ty, pos, aft, g⟩ (.int .i64 r) := by
  subst hr; exact Rd_sub hx hy hb
end
def sqFed (s : Sqr) (n : Int) : Nat := if n < 1 ∨ s.c.clients < n then 0 else match s.ks[(n - 1).toNat]? with | some k => k.2 | none => 0
def sqUn (s : Sqr) (n : Int) : Nat := if n < 1 ∨ s.c.clients < n then 0 else match s.ks[(n - 1).toNat]? with | some k => k.1.sd.ps.length | none => 0
theorem sFed_sp (b : Nat) (s : Sqr) (n : Int) (hs : sqOk s) : Sp Tryz.prog 17 [.pointer (some ⟨b, 0, none⟩), .int .i64 n] [SqP b s] (fun w M => w = nat .i64 (sqFed s n) ∧ M = [SqP b s]) := by
  refine Sp.intro (P := Tryz.prog) (Tryz.func17) rfl Tryz.ntmps17 (by decide) rfl ?_
  intro ρ F
  refine St_sqOpen (b := b) (s := s) (by exact Has.auto) fun lb A c ids hz => ?_
  have hcl := hs.n
  obtain ⟨⟨c1, c2⟩, _⟩ := hs.c
  unfold sqFed
  by_cases hn : n < 1 ∨ s.c.clients < n
  · rw [if_pos hn]
    repeat' (first | (apply St_call (hf := sin_sp _ _ _); exact rfl; exact rfl; exact Split.auto; rintro _ _ ⟨rfl, rfl⟩) | (refine St_step ?_; (try with_reducible intro _)) | (refine St_step2 ?_ ?_ <;> (intro hb; (try simp only [beq_iff_eq, bne_iff_ne, decide_eq_true_eq, decide_eq_false_iff_not, Bool.not_eq_true', Bool.not_eq_false', beq_eq_false_iff_ne, bne_eq_false_iff_eq, ne_eq, Int.not_lt, Int.not_le, gt_iff_lt, ge_iff_le] at hb); (try (first | exact Bool.noConfusion hb | exact absurd trivial hb | (exfalso; omega))))) | fail)
    all_goals first | (exfalso; omega) | skip
    all_goals refine St_sqMk (b := b) (lb := lb) (s := s) (v := .slice A s.ks.length c) (ids := ids) hz (by exact Split.auto) ?_
    all_goals exact St_ret1 (.inl rfl) rfl rfl ⟨rfl, rfl⟩ (by exact Split.auto)
  · rw [if_neg hn]
    obtain ⟨i, hi⟩ := Int.eq_ofNat_of_zero_le (show 0 ≤ n - 1 by omega)
    have hil : i < s.ks.length := by omega
    obtain ⟨k, hk⟩ : ∃ k, s.ks[i]? = some k := ⟨_, List.getElem?_eq_getElem hil⟩
    obtain ⟨x, hx⟩ : ∃ x, ids[i]? = some x := ⟨_, List.getElem?_eq_getElem (by omega)⟩
    rw [hi, Int.toNat_natCast, hk]
    dsimp only
    refine St_slOpen (E := 89) (sz := 2) (n := s.ks.length) (v := .slice A s.ks.length c) (by exact Has.auto) (fun h _ _ => ?_) ?_
    · injection h with h1 h2 h3; omega
    rintro b2 cap pre rest hv hcap hrest hlen
    injection hv with hv1 hv2 hv3
    subst hv1 hv3
    have hc1 := flat_cell idv_len pre rest hx (show 1 < 2 by decide)
    refine St_peGet (ids := ids) (ks := s.ks) (by exact Has.auto) hx hk ?_
    repeat' (first | (apply St_call (hf := sin_sp _ _ _); exact rfl; exact rfl; exact Split.auto; rintro _ _ ⟨rfl, rfl⟩) | (apply St_call (hf := fdAt_sp x.2 k.2); exact rfl; exact rfl; exact Split.auto; rintro _ _ ⟨rfl, rfl⟩) | (apply St_rd; exact rfl; (first | (apply Rd_subV; exact rfl; exact rfl; exact hi; omega) | (apply Rd_loadn tb; exact rfl; exact rfl; exact rfl; exact Has.auto; exact hc1))) | (apply Sq_rd; exact rfl; (first | (apply Rd_subV; exact rfl; exact rfl; exact hi; omega) | (apply Rd_loadn tb; exact rfl; exact rfl; exact rfl; exact Has.auto; exact hc1))) | (refine St_step ?_; (try with_reducible intro _)) | (refine St_step2 ?_ ?_ <;> (intro hb; (try simp only [beq_iff_eq, bne_iff_ne, decide_eq_true_eq, decide_eq_false_iff_not, Bool.not_eq_true', Bool.not_eq_false', beq_eq_false_iff_ne, bne_eq_false_iff_eq, ne_eq, Int.not_lt, Int.not_le, gt_iff_lt, ge_iff_le] at hb); (try (first | exact Bool.noConfusion hb | exact absurd trivial hb | (exfalso; omega))))) | fail)
    all_goals first | (exfalso; omega) | skip
    refine St_pePut (ids := ids) (ks := s.ks) (k := k) hx hil (by exact Split.auto) ?_
    have hset : s.ks.set i k = s.ks := by
      apply List.ext_getElem?
      intro j
      rw [List.getElem?_set]
      by_cases hij : i = j
      · subst hij; rw [if_pos rfl, if_pos hil, hk]
      · rw [if_neg hij]
    rw [hset]
    refine St_slMk (sz := 2) (n := s.ks.length) (cap := c) (pre := pre) (cs := ids.flatMap idv) (rest := rest) (by exact Has.auto) hcap hrest hlen ?_
    refine St_sqMk (b := b) (lb := lb) (s := s) (v := .slice (some ⟨b2, pre.length, none⟩) s.ks.length c) (ids := ids) hz (by exact Split.auto) ?_
    exact St_ret1 (.inl rfl) rfl rfl ⟨rfl, rfl⟩ (by exact Split.auto)
theorem sUn_sp (b : Nat) (s : Sqr) (n : Int) (hs : sqOk s) : Sp Tryz.prog 18 [.pointer (some ⟨b, 0, none⟩), .int .i64 n] [SqP b s] (fun w M => w = nat .i64 (sqUn s n) ∧ M = [SqP b s]) := by
  refine Sp.intro (P := Tryz.prog) (Tryz.func18) rfl Tryz.ntmps18 (by decide) rfl ?_
  intro ρ F
  refine St_sqOpen (b := b) (s := s) (by exact Has.auto) fun lb A c ids hz => ?_
  have hcl := hs.n
  obtain ⟨⟨c1, c2⟩, _⟩ := hs.c
  unfold sqUn
  by_cases hn : n < 1 ∨ s.c.clients < n
  · rw [if_pos hn]
    repeat' (first | (apply St_call (hf := sin_sp _ _ _); exact rfl; exact rfl; exact Split.auto; rintro _ _ ⟨rfl, rfl⟩) | (refine St_step ?_; (try with_reducible intro _)) | (refine St_step2 ?_ ?_ <;> (intro hb; (try simp only [beq_iff_eq, bne_iff_ne, decide_eq_true_eq, decide_eq_false_iff_not, Bool.not_eq_true', Bool.not_eq_false', beq_eq_false_iff_ne, bne_eq_false_iff_eq, ne_eq, Int.not_lt, Int.not_le, gt_iff_lt, ge_iff_le] at hb); (try (first | exact Bool.noConfusion hb | exact absurd trivial hb | (exfalso; omega))))) | fail)
    all_goals first | (exfalso; omega) | skip
    all_goals refine St_sqMk (b := b) (lb := lb) (s := s) (v := .slice A s.ks.length c) (ids := ids) hz (by exact Split.auto) ?_
    all_goals exact St_ret1 (.inl rfl) rfl rfl ⟨rfl, rfl⟩ (by exact Split.auto)
  · rw [if_neg hn]
    obtain ⟨i, hi⟩ := Int.eq_ofNat_of_zero_le (show 0 ≤ n - 1 by omega)
    have hil : i < s.ks.length := by omega
    obtain ⟨k, hk⟩ : ∃ k, s.ks[i]? = some k := ⟨_, List.getElem?_eq_getElem hil⟩
    obtain ⟨x, hx⟩ : ∃ x, ids[i]? = some x := ⟨_, List.getElem?_eq_getElem (by omega)⟩
    rw [hi, Int.toNat_natCast, hk]
    dsimp only
    refine St_slOpen (E := 89) (sz := 2) (n := s.ks.length) (v := .slice A s.ks.length c) (by exact Has.auto) (fun h _ _ => ?_) ?_
    · injection h with h1 h2 h3; omega
    rintro b2 cap pre rest hv hcap hrest hlen
    injection hv with hv1 hv2 hv3
    subst hv1 hv3
    have hc1 := flat_cell idv_len pre rest hx (show 0 < 2 by decide)
    refine St_peGet (ids := ids) (ks := s.ks) (by exact Has.auto) hx hk ?_
    repeat' (first | (apply St_call (hf := sin_sp _ _ _); exact rfl; exact rfl; exact Split.auto; rintro _ _ ⟨rfl, rfl⟩) | (apply St_call (hf := lkUn_sp x.1 k.1); exact rfl; exact rfl; exact Split.auto; rintro _ _ ⟨rfl, rfl⟩) | (apply St_rd; exact rfl; (first | (apply Rd_subV; exact rfl; exact rfl; exact hi; omega) | (apply Rd_loadn tb; exact rfl; exact rfl; exact rfl; exact Has.auto; exact hc1))) | (apply Sq_rd; exact rfl; (first | (apply Rd_subV; exact rfl; exact rfl; exact hi; omega) | (apply Rd_loadn tb; exact rfl; exact rfl; exact rfl; exact Has.auto; exact hc1))) | (refine St_step ?_; (try with_reducible intro _)) | (refine St_step2 ?_ ?_ <;> (intro hb; (try simp only [beq_iff_eq, bne_iff_ne, decide_eq_true_eq, decide_eq_false_iff_not, Bool.not_eq_true', Bool.not_eq_false', beq_eq_false_iff_ne, bne_eq_false_iff_eq, ne_eq, Int.not_lt, Int.not_le, gt_iff_lt, ge_iff_le] at hb); (try (first | exact Bool.noConfusion hb | exact absurd trivial hb | (exfalso; omega))))) | fail)
    all_goals first | (exfalso; omega) | skip
    refine St_pePut (ids := ids) (ks := s.ks) (k := k) hx hil (by exact Split.auto) ?_
    have hset : s.ks.set i k = s.ks := by
      apply List.ext_getElem?
      intro j
      rw [List.getElem?_set]
      by_cases hij : i = j
      · subst hij; rw [if_pos rfl, if_pos hil, hk]
      · rw [if_neg hij]
    rw [hset]
    refine St_slMk (sz := 2) (n := s.ks.length) (cap := c) (pre := pre) (cs := ids.flatMap idv) (rest := rest) (by exact Has.auto) hcap hrest hlen ?_
    refine St_sqMk (b := b) (lb := lb) (s := s) (v := .slice (some ⟨b2, pre.length, none⟩) s.ks.length c) (ids := ids) hz (by exact Split.auto) ?_
    exact St_ret1 (.inl rfl) rfl rfl ⟨rfl, rfl⟩ (by exact Split.auto)
end Go.Proofs.YtfjnacakpeommaaGreatDoor
/- Contracts: sequencer.New. -/
namespace Go.Proofs.YtfjnacakpeommaaGreatDoor
open Go SL Pl
set_option autoImplicit false
set_option maxRecDepth 100000
set_option linter.unusedSimpArgs false
set_option linter.unusedVariables false
attribute [local irreducible] St Sq Exec QExec wpList wpQuiet Code.wp Exit.then Exit.inBlock bodyPost At Rd wpOp Wa QK GB
section
variable {ρ : Rst} {N : Nat} {env : Env} {L L' : List HP} {G : Act → World → Prop}
theorem St_bigNil (h : St ρ N env (big [] :: L) G) : St ρ N env L G := St_conv (L' := big [] :: L) (fun w H => H.mono fun h x => star_emp x) h
theorem St_bigSnoc {l : List HP} {A : HP} (hs : Split L [big l, A] L') (h : St ρ N env (big (l ++ [A]) :: L') G) : St ρ N env L G :=
  St_conv (L' := big (l ++ [A]) :: L') (fun w H => (H.split hs).mono fun _ y => star_mono (fun h a => big_append.2 (star_mono (fun _ c => c) (fun h c => ⟨h, E0, Cmp_E0 h, (Jn_E0 h).symm, c, rfl⟩) a)) (fun _ b => b) (star_assoc y)) h
end
theorem zip_snoc {ids : List (Nat × Nat)} {i : Nat} {x : Nat × Nat} {k : Lk × Nat} (h : ids.length = i) : List.zipWith PeP (ids ++ [x]) (List.replicate (i + 1) k) = List.zipWith PeP ids (List.replicate i k) ++ [PeP x k] := by
  rw [List.replicate_succ', List.zipWith_append (by simp [h])]
  rfl
set_option maxHeartbeats 1000000 in
theorem sNew_sp (c : Cfg) : Sp Tryz.prog 10 [.agg (cfgC c).toArray] []
    (fun w M => (cfgOk c ∧ ∃ b, w = .tuple [.pointer (some ⟨b, 0, none⟩), nat .i64 0].toArray ∧ M = [SqP b (sqNew c)]) ∨ (¬ cfgOk c ∧ w = .tuple [.pointer none, nat .i64 1].toArray ∧ M = [])) := by
  refine Sp.intro (P := Tryz.prog) (Tryz.func10) rfl Tryz.ntmps10 (by decide) rfl ?_
  intro ρ F
  have hm := sMay_sp c
  by_cases hc : cfgOk c
  · rw [if_pos hc] at hm
    obtain ⟨⟨h1, h2⟩, _⟩ := id hc
    obtain ⟨n, hn⟩ := Int.eq_ofNat_of_zero_le (show 0 ≤ c.clients by omega)
    have hcl : (clampN c.clients 1 64).toNat = c.clients.toNat := by
      have := clampN_bd c.clients 1 64 (by decide)
      unfold clampN; rw [if_neg (by omega), if_neg (by omega)]
    have hlg := lgNew_sp c.clients
    rw [hcl] at hlg
    have hlk := lkNew_sp 0 c.window c.window true
    have hcc : c.clients.toNat = n := by omega
    repeat (refine St_step ?_; (try with_reducible intro cb))
    repeat' (first | (apply St_regionA (6) ([cel false cb 23 (cfgC c)]); kernel_rfl; (apply Sa_take 0; exact rfl; kernel_rfl; exact PanicOk.auto; exact rfl; (first | exact Rd_auto)); (apply Sa_take 1; exact rfl; kernel_rfl; exact PanicOk.auto; exact rfl; (first | exact Rd_auto)); (apply Sa_take 2; exact rfl; kernel_rfl; exact PanicOk.auto; exact rfl; (first | exact Rd_auto)); (apply Sa_one (i := 3); kernel_rfl; exact .inr (by exact Split.auto)); (apply Sa_op; exact rfl; exact rfl); (first | (apply St_call (hf := hlg); exact rfl; exact rfl; exact Split.auto; rintro _ _ ⟨lb, rfl, rfl⟩) | (apply St_boxA; exact rfl; exact rfl; intro sb) | (refine St_step ?_; (try with_reducible intro _)) | (refine St_step2 ?_ ?_ <;> (intro hb; (try simp only [beq_iff_eq, bne_iff_ne, decide_eq_true_eq, decide_eq_false_iff_not, Bool.not_eq_true', Bool.not_eq_false', beq_eq_false_iff_ne, bne_eq_false_iff_eq, ne_eq, Int.not_lt, Int.not_le, gt_iff_lt, ge_iff_le] at hb); (try (first | exact Bool.noConfusion hb | exact absurd trivial hb | (exfalso; omega))))) | fail); (apply Sa_take 4; exact rfl; kernel_rfl; exact PanicOk.auto; exact rfl; (first | exact Rd_auto)); (apply Sa_one (i := 5); kernel_rfl; exact .inr (by exact Split.auto)); (apply Sa_op; exact rfl; exact rfl); (first | (apply St_call (hf := hlg); exact rfl; exact rfl; exact Split.auto; rintro _ _ ⟨lb, rfl, rfl⟩) | (apply St_boxA; exact rfl; exact rfl; intro sb) | (refine St_step ?_; (try with_reducible intro _)) | (refine St_step2 ?_ ?_ <;> (intro hb; (try simp only [beq_iff_eq, bne_iff_ne, decide_eq_true_eq, decide_eq_false_iff_not, Bool.not_eq_true', Bool.not_eq_false', beq_eq_false_iff_ne, bne_eq_false_iff_eq, ne_eq, Int.not_lt, Int.not_le, gt_iff_lt, ge_iff_le] at hb); (try (first | exact Bool.noConfusion hb | exact absurd trivial hb | (exfalso; omega))))) | fail); (apply Sa_one (i := 6); kernel_rfl; exact .inr (by exact Split.auto)); (apply Sa_op; exact rfl; exact rfl); (first | (apply St_call (hf := hlg); exact rfl; exact rfl; exact Split.auto; rintro _ _ ⟨lb, rfl, rfl⟩) | (apply St_boxA; exact rfl; exact rfl; intro sb) | (refine St_step ?_; (try with_reducible intro _)) | (refine St_step2 ?_ ?_ <;> (intro hb; (try simp only [beq_iff_eq, bne_iff_ne, decide_eq_true_eq, decide_eq_false_iff_not, Bool.not_eq_true', Bool.not_eq_false', beq_eq_false_iff_ne, bne_eq_false_iff_eq, ne_eq, Int.not_lt, Int.not_le, gt_iff_lt, ge_iff_le] at hb); (try (first | exact Bool.noConfusion hb | exact absurd trivial hb | (exfalso; omega))))) | fail); (apply Sa_done (R := []); kernel_rfl; refine .inl ?_; kernel_rfl)) | (apply St_call (hf := hm); exact rfl; exact rfl; exact Split.auto; rintro _ _ ⟨rfl, rfl⟩) | (refine St_conv (L' := Sl 89 2 (.slice none 0 0) 0 [] :: big [] :: _) (fun w H => Holds.sl_nil (H.mono fun h x => star_emp x)) ?_; refine St_loop (fun (y : Nat × Option Addr × Nat × List (Nat × Nat)) => y.1 ≤ n ∧ y.2.2.2.length = y.1) (fun y => [(1, .pointer (some ⟨cb, 0, none⟩)), (5, .pointer (some ⟨sb, 0, none⟩)), (18, .int .i64 c.clients), (19, nat .i64 y.1)]) (fun y => [cel false cb 23 (cfgC c), cel false sb 83 (cfgC c ++ [.pointer (some ⟨lb, 0, none⟩), .slice y.2.1 y.1 y.2.2.1]), Sl 89 2 (.slice y.2.1 y.1 y.2.2.1) y.1 (y.2.2.2.flatMap idv), big (List.zipWith PeP y.2.2.2 (List.replicate y.1 (lkNew 0 c.window c.window true, 0))), LgP lb c.clients.toNat [], big F]) (fun y => n - y.1) (0, none, 0, []) ⟨Nat.zero_le _, rfl⟩ ⟨rfl, rfl, rfl, rfl, trivial⟩ (by exact Split.auto) ?_) | (refine St_step ?_; (try with_reducible intro _)) | (refine St_step2 ?_ ?_ <;> (intro hb; (try simp only [beq_iff_eq, bne_iff_ne, decide_eq_true_eq, decide_eq_false_iff_not, Bool.not_eq_true', Bool.not_eq_false', beq_eq_false_iff_ne, bne_eq_false_iff_eq, ne_eq, Int.not_lt, Int.not_le, gt_iff_lt, ge_iff_le] at hb); (try (first | exact Bool.noConfusion hb | exact absurd trivial hb | (exfalso; omega))))) | fail)
    all_goals first | (exfalso; omega) | skip
    rintro ⟨i, A, cap, ids⟩ ⟨hi, hids⟩
    have hi : i ≤ n := hi
    have hids : ids.length = i := hids
    dsimp only
    by_cases hin : i < n
    · repeat' (first | (apply St_regionA (16) ([cel false cb 23 (cfgC c), cel false sb 83 (cfgC c ++ [.pointer (some ⟨lb, 0, none⟩), .slice A i cap])]); kernel_rfl; (apply Sa_take 0; exact rfl; kernel_rfl; exact PanicOk.auto; exact rfl; (first | exact Rd_auto)); (apply Sa_take 1; exact rfl; kernel_rfl; exact PanicOk.auto; exact rfl; (first | exact Rd_auto)); (apply Sa_take 2; exact rfl; kernel_rfl; exact PanicOk.auto; exact rfl; (first | exact Rd_auto)); (apply Sa_take 3; exact rfl; kernel_rfl; exact PanicOk.auto; exact rfl; (first | exact Rd_auto)); (apply Sa_take 4; exact rfl; kernel_rfl; exact PanicOk.auto; exact rfl; (first | exact Rd_auto)); (apply Sa_take 5; exact rfl; kernel_rfl; exact PanicOk.auto; exact rfl; (first | exact Rd_auto)); (apply Sa_take 6; exact rfl; kernel_rfl; exact PanicOk.auto; exact rfl; (first | exact Rd_auto)); (apply Sa_take 7; exact rfl; kernel_rfl; exact PanicOk.auto; exact rfl; (first | exact Rd_auto)); (apply Sa_take 8; exact rfl; kernel_rfl; exact PanicOk.auto; exact rfl; (first | exact Rd_auto)); (apply Sa_one (i := 9); kernel_rfl; exact .inr (by exact Split.auto)); (apply Sa_op; exact rfl; exact rfl); (first | (apply St_call (hf := hlk); exact rfl; exact rfl; exact Split.auto; rintro _ _ ⟨b1, rfl, rfl⟩) | (apply St_call (hf := fdNew_sp); exact rfl; exact rfl; exact Split.auto; rintro _ _ ⟨b2, rfl, rfl⟩) | (apply St_append tb (sz := 2) (n := i) (cs := ids.flatMap idv); (repeat exact rfl); exact Has.auto; (intro _; exact Src.row (n := 1) (by exact Has.auto) (by simp) (by exact rfl)); exact rfl; (dsimp only; omega); intro v'; refine St_slIs (v := v') (n := i + 1) (by exact Has.auto) ?_; rintro A2 c2 rfl) | (refine St_step ?_; (try with_reducible intro _)) | (refine St_step2 ?_ ?_ <;> (intro hb; (try simp only [beq_iff_eq, bne_iff_ne, decide_eq_true_eq, decide_eq_false_iff_not, Bool.not_eq_true', Bool.not_eq_false', beq_eq_false_iff_ne, bne_eq_false_iff_eq, ne_eq, Int.not_lt, Int.not_le, gt_iff_lt, ge_iff_le] at hb); (try (first | exact Bool.noConfusion hb | exact absurd trivial hb | (exfalso; omega))))) | fail); (apply Sa_one (i := 10); kernel_rfl; exact .inr (by exact Split.auto)); (apply Sa_op; exact rfl; exact rfl); (first | (apply St_call (hf := hlk); exact rfl; exact rfl; exact Split.auto; rintro _ _ ⟨b1, rfl, rfl⟩) | (apply St_call (hf := fdNew_sp); exact rfl; exact rfl; exact Split.auto; rintro _ _ ⟨b2, rfl, rfl⟩) | (apply St_append tb (sz := 2) (n := i) (cs := ids.flatMap idv); (repeat exact rfl); exact Has.auto; (intro _; exact Src.row (n := 1) (by exact Has.auto) (by simp) (by exact rfl)); exact rfl; (dsimp only; omega); intro v'; refine St_slIs (v := v') (n := i + 1) (by exact Has.auto) ?_; rintro A2 c2 rfl) | (refine St_step ?_; (try with_reducible intro _)) | (refine St_step2 ?_ ?_ <;> (intro hb; (try simp only [beq_iff_eq, bne_iff_ne, decide_eq_true_eq, decide_eq_false_iff_not, Bool.not_eq_true', Bool.not_eq_false', beq_eq_false_iff_ne, bne_eq_false_iff_eq, ne_eq, Int.not_lt, Int.not_le, gt_iff_lt, ge_iff_le] at hb); (try (first | exact Bool.noConfusion hb | exact absurd trivial hb | (exfalso; omega))))) | fail); (apply Sa_take 11; exact rfl; kernel_rfl; exact PanicOk.auto; exact rfl; (first | exact Rd_auto)); (apply Sa_one (i := 12); kernel_rfl; exact .inr (by exact Split.auto)); (apply Sa_op; exact rfl; exact rfl); (first | (apply St_call (hf := hlk); exact rfl; exact rfl; exact Split.auto; rintro _ _ ⟨b1, rfl, rfl⟩) | (apply St_call (hf := fdNew_sp); exact rfl; exact rfl; exact Split.auto; rintro _ _ ⟨b2, rfl, rfl⟩) | (apply St_append tb (sz := 2) (n := i) (cs := ids.flatMap idv); (repeat exact rfl); exact Has.auto; (intro _; exact Src.row (n := 1) (by exact Has.auto) (by simp) (by exact rfl)); exact rfl; (dsimp only; omega); intro v'; refine St_slIs (v := v') (n := i + 1) (by exact Has.auto) ?_; rintro A2 c2 rfl) | (refine St_step ?_; (try with_reducible intro _)) | (refine St_step2 ?_ ?_ <;> (intro hb; (try simp only [beq_iff_eq, bne_iff_ne, decide_eq_true_eq, decide_eq_false_iff_not, Bool.not_eq_true', Bool.not_eq_false', beq_eq_false_iff_ne, bne_eq_false_iff_eq, ne_eq, Int.not_lt, Int.not_le, gt_iff_lt, ge_iff_le] at hb); (try (first | exact Bool.noConfusion hb | exact absurd trivial hb | (exfalso; omega))))) | fail); (apply Sa_one (i := 13); kernel_rfl; exact .inr (by exact Split.auto)); (apply Sa_op; exact rfl; exact rfl); (first | (apply St_call (hf := hlk); exact rfl; exact rfl; exact Split.auto; rintro _ _ ⟨b1, rfl, rfl⟩) | (apply St_call (hf := fdNew_sp); exact rfl; exact rfl; exact Split.auto; rintro _ _ ⟨b2, rfl, rfl⟩) | (apply St_append tb (sz := 2) (n := i) (cs := ids.flatMap idv); (repeat exact rfl); exact Has.auto; (intro _; exact Src.row (n := 1) (by exact Has.auto) (by simp) (by exact rfl)); exact rfl; (dsimp only; omega); intro v'; refine St_slIs (v := v') (n := i + 1) (by exact Has.auto) ?_; rintro A2 c2 rfl) | (refine St_step ?_; (try with_reducible intro _)) | (refine St_step2 ?_ ?_ <;> (intro hb; (try simp only [beq_iff_eq, bne_iff_ne, decide_eq_true_eq, decide_eq_false_iff_not, Bool.not_eq_true', Bool.not_eq_false', beq_eq_false_iff_ne, bne_eq_false_iff_eq, ne_eq, Int.not_lt, Int.not_le, gt_iff_lt, ge_iff_le] at hb); (try (first | exact Bool.noConfusion hb | exact absurd trivial hb | (exfalso; omega))))) | fail); (apply Sa_take 14; exact rfl; kernel_rfl; exact PanicOk.auto; exact rfl; (first | exact Rd_auto)); (apply Sa_take 15; exact rfl; kernel_rfl; exact PanicOk.auto; exact rfl; (first | exact Rd_auto)); (apply Sa_one (i := 16); kernel_rfl; exact .inr (by exact Split.auto)); (apply Sa_op; exact rfl; exact rfl); (first | (apply St_call (hf := hlk); exact rfl; exact rfl; exact Split.auto; rintro _ _ ⟨b1, rfl, rfl⟩) | (apply St_call (hf := fdNew_sp); exact rfl; exact rfl; exact Split.auto; rintro _ _ ⟨b2, rfl, rfl⟩) | (apply St_append tb (sz := 2) (n := i) (cs := ids.flatMap idv); (repeat exact rfl); exact Has.auto; (intro _; exact Src.row (n := 1) (by exact Has.auto) (by simp) (by exact rfl)); exact rfl; (dsimp only; omega); intro v'; refine St_slIs (v := v') (n := i + 1) (by exact Has.auto) ?_; rintro A2 c2 rfl) | (refine St_step ?_; (try with_reducible intro _)) | (refine St_step2 ?_ ?_ <;> (intro hb; (try simp only [beq_iff_eq, bne_iff_ne, decide_eq_true_eq, decide_eq_false_iff_not, Bool.not_eq_true', Bool.not_eq_false', beq_eq_false_iff_ne, bne_eq_false_iff_eq, ne_eq, Int.not_lt, Int.not_le, gt_iff_lt, ge_iff_le] at hb); (try (first | exact Bool.noConfusion hb | exact absurd trivial hb | (exfalso; omega))))) | fail); (apply Sa_done (R := []); kernel_rfl; refine .inl ?_; kernel_rfl)) | (refine St_step ?_; (try with_reducible intro _)) | (refine St_step2 ?_ ?_ <;> (intro hb; (try simp only [beq_iff_eq, bne_iff_ne, decide_eq_true_eq, decide_eq_false_iff_not, Bool.not_eq_true', Bool.not_eq_false', beq_eq_false_iff_ne, bne_eq_false_iff_eq, ne_eq, Int.not_lt, Int.not_le, gt_iff_lt, ge_iff_le] at hb); (try (first | exact Bool.noConfusion hb | exact absurd trivial hb | (exfalso; omega))))) | fail)
      all_goals first | (exfalso; omega) | skip
      refine St_shut (l := [LkP b1 (lkNew 0 c.window c.window true), FdP b2 0]) (by exact Split.auto) ?_
      refine St_bigSnoc (l := List.zipWith PeP ids (List.replicate i (lkNew 0 c.window c.window true, 0))) (A := PeP (b1, b2) (lkNew 0 c.window c.window true, 0)) (by exact Split.auto) ?_
      rw [← zip_snoc hids]
      refine St_slEq (cs' := (ids ++ [(b1, b2)]).flatMap idv) (n' := i + 1) (by exact Has.auto) (by rw [List.flatMap_append]; rfl) rfl ?_
      exact St_at (i + 1, A2, c2, ids ++ [(b1, b2)]) ⟨⟨by show i + 1 ≤ n; omega, by show (ids ++ [_]).length = i + 1; simp [hids]⟩, by show n - (i + 1) < n - i; omega⟩ ⟨rfl, rfl, rfl, rfl, trivial⟩ (by exact Split.auto)
    · have hii : i = n := by omega
      subst hii
      repeat' (first | (refine St_step ?_; (try with_reducible intro _)) | (refine St_step2 ?_ ?_ <;> (intro hb; (try simp only [beq_iff_eq, bne_iff_ne, decide_eq_true_eq, decide_eq_false_iff_not, Bool.not_eq_true', Bool.not_eq_false', beq_eq_false_iff_ne, bne_eq_false_iff_eq, ne_eq, Int.not_lt, Int.not_le, gt_iff_lt, ge_iff_le] at hb); (try (first | exact Bool.noConfusion hb | exact absurd trivial hb | (exfalso; omega))))) | fail)
      all_goals first | (exfalso; omega) | skip
      have hks : (sqNew c).ks = List.replicate i (lkNew 0 c.window c.window true, 0) := by unfold sqNew; rw [hcc]
      have hlen : (sqNew c).ks.length = i := by rw [hks]; simp
      refine St_sqMk (b := sb) (lb := lb) (s := sqNew c) (v := .slice A i cap) (ids := ids) (by rw [hlen]; exact hids) (by rw [hlen, hks]; exact Split.auto) ?_
      exact St_ret2 (.inl rfl) rfl rfl rfl (.inl ⟨hc, _, rfl, rfl⟩) (by exact Split.auto)
  · rw [if_neg hc] at hm
    repeat' (first | (apply St_call (hf := hm); exact rfl; exact rfl; exact Split.auto; rintro _ _ ⟨rfl, rfl⟩) | (refine St_step ?_; (try with_reducible intro _)) | (refine St_step2 ?_ ?_ <;> (intro hb; (try simp only [beq_iff_eq, bne_iff_ne, decide_eq_true_eq, decide_eq_false_iff_not, Bool.not_eq_true', Bool.not_eq_false', beq_eq_false_iff_ne, bne_eq_false_iff_eq, ne_eq, Int.not_lt, Int.not_le, gt_iff_lt, ge_iff_le] at hb); (try (first | exact Bool.noConfusion hb | exact absurd trivial hb | (exfalso; omega))))) | fail)
    all_goals first | (exfalso; omega) | skip
    exact St_ret2 (.inl rfl) rfl rfl rfl (.inr ⟨hc, rfl, rfl⟩) (by exact Split.auto)
end Go.Proofs.YtfjnacakpeommaaGreatDoor
/- Contracts: frame's Get and its reference. -/
namespace Go.Proofs.YtfjnacakpeommaaGreatDoor
open Go SL Pl
set_option autoImplicit false
set_option maxRecDepth 100000
set_option linter.unusedSimpArgs false
set_option linter.unusedVariables false
attribute [local irreducible] St Sq Exec QExec wpList wpQuiet Code.wp Exit.then Exit.inBlock bodyPost At Rd wpOp Wa QK GB
theorem unseald_len {b s : List UInt8} (h : unseald b = some s) : s.length ≤ b.length := by
  unfold unseald at h
  split at h
  · cases h; simp
  · cases h
set_option maxHeartbeats 1000000 in
theorem fget_sp (b : List UInt8) (hb0 : b.length ≤ 1000000) :
    Sp Tryz.prog 33 [str b] [GB] (fun v M => v = .tuple [.agg (fv (fget b).1).toArray, nat .i64 (fget b).2].toArray ∧ M = [GB]) := by
  refine Sp.intro (P := Tryz.prog) (Tryz.func33) rfl Tryz.ntmps33 (by decide) rfl ?_
  intro ρ F
  have ho := open_sp b (by omega)
  cases hu : unseald b with
  | none =>
    have hfg : fget b = (fr0, 6) := by unfold fget; rw [hu]
    rw [hu] at ho
    rw [hfg]
    repeat' (first | (apply St_call (hf := ho); exact rfl; exact rfl; exact Split.auto; rintro _ _ ⟨rfl, rfl⟩) | (refine St_step ?_; (try with_reducible intro _)) | (refine St_step2 ?_ ?_ <;> (intro hb; (try simp only [beq_iff_eq, bne_iff_ne, decide_eq_true_eq, decide_eq_false_iff_not, Bool.not_eq_true', Bool.not_eq_false', beq_eq_false_iff_ne, bne_eq_false_iff_eq, ne_eq, Int.not_lt, Int.not_le, gt_iff_lt, ge_iff_le] at hb); (try (first | exact Bool.noConfusion hb | exact absurd trivial hb | (exfalso; omega))))) | fail)
    exact St_retCT tb (.inl rfl) rfl rfl rfl rfl rfl (by exact Has.auto) rfl ⟨rfl, rfl⟩ (by exact Split.auto)
  | some s =>
    have hs : s.length ≤ 1000000 := Nat.le_trans (unseald_len hu) hb0
    rw [hu] at ho
    repeat' (first | (apply St_call (hf := ho); exact rfl; exact rfl; exact Split.auto; rintro _ _ ⟨rfl, rfl⟩) | (apply St_call; exact rfl; exact rfl; exact rread_sp s; exact Split.auto; rintro _ _ ⟨k, rfl, rfl⟩) | (refine St_step ?_; (try with_reducible intro _)) | (refine St_step2 ?_ ?_ <;> (intro hb; (try simp only [beq_iff_eq, bne_iff_ne, decide_eq_true_eq, decide_eq_false_iff_not, Bool.not_eq_true', Bool.not_eq_false', beq_eq_false_iff_ne, bne_eq_false_iff_eq, ne_eq, Int.not_lt, Int.not_le, gt_iff_lt, ge_iff_le] at hb); (try (first | exact Bool.noConfusion hb | exact absurd trivial hb | (exfalso; omega))))) | fail)
    obtain ⟨n1, q1, h1⟩ : ∃ n r, rnum s 1099511627776 ⟨0, 0⟩ = (n, r) := ⟨_, _, rfl⟩
    have c1 := rnumber_sp k s ⟨0, 0⟩ 1099511627776 hs (Nat.zero_le _) (by decide)
    have l1 : q1.at_ ≤ s.length := by have := rnum_le (lim := 1099511627776) (r := ⟨0, 0⟩) (Nat.zero_le s.length); rw [h1] at this; exact this
    rw [h1] at c1
    have hfg : fget b = ftail s n1 (if n1 = 0 then ⟨q1.at_, rfail q1.e 1⟩ else q1) := by unfold fget; rw [hu]; exact fgetIn_eq h1
    rw [hfg]
    obtain ⟨r1, hr1⟩ : ∃ r1 : Rs, r1 = if n1 = 0 then ⟨q1.at_, rfail q1.e 1⟩ else q1 := ⟨_, rfl⟩
    rw [← hr1]
    have l1' : r1.at_ ≤ s.length := by rw [hr1]; split <;> exact l1
    repeat' (first | (apply St_call (hf := c1); exact rfl; exact rfl; exact Split.auto; rintro _ _ ⟨rfl, rfl⟩) | (apply St_call (hf := fail_sp k s q1 1); exact rfl; exact rfl; exact Split.auto; rintro _ _ ⟨rfl, rfl⟩) | (refine St_step ?_; (try with_reducible intro _)) | (refine St_step2 ?_ ?_ <;> (intro hb; (try simp only [beq_iff_eq, bne_iff_ne, decide_eq_true_eq, decide_eq_false_iff_not, Bool.not_eq_true', Bool.not_eq_false', beq_eq_false_iff_ne, bne_eq_false_iff_eq, ne_eq, Int.not_lt, Int.not_le, gt_iff_lt, ge_iff_le] at hb); (try (first | exact Bool.noConfusion hb | exact absurd trivial hb | (exfalso; omega))))) | fail)
    all_goals refine St_cel (r := false) (b := k) (cs' := [str s, nat .i64 r1.at_, nat .i64 r1.e]) (by exact Has.auto) (by rw [hr1]; first | rw [if_pos (by omega)] | rw [if_neg (by omega)]) ?_
    all_goals
      obtain ⟨n2, q2, h2⟩ : ∃ n r, rnum s 1125899906842624 r1 = (n, r) := ⟨_, _, rfl⟩
      have c2 := rnumber_sp k s r1 1125899906842624 hs l1' (by decide)
      have l2 : q2.at_ ≤ s.length := by have := rnum_le (lim := 1125899906842624) l1'; rw [h2] at this; exact this
      obtain ⟨n3, q3, h3⟩ : ∃ n r, rnum s 1125899906842624 q2 = (n, r) := ⟨_, _, rfl⟩
      have c3 := rnumber_sp k s q2 1125899906842624 hs l2 (by decide)
      have l3 : q3.at_ ≤ s.length := by have := rnum_le (lim := 1125899906842624) l2; rw [h3] at this; exact this
      obtain ⟨d4, q4, h4⟩ : ∃ n r, rtext s 1400 q3 = (n, r) := ⟨_, _, rfl⟩
      have c4 := rtext_sp k s q3 1400 hs l3 (by decide)
      have l4 : q4.at_ ≤ s.length := by have := rtext_le (lim := 1400) l3; rw [h4] at this; exact this
      rw [h2] at c2; rw [h3] at c3; rw [h4] at c4
      rw [ftail_eq h2 h3 h4]
      obtain ⟨r5, hr5⟩ : ∃ r5 : Rs, r5 = if d4 ≠ [] ∧ n2 = 0 then ⟨q4.at_, rfail q4.e 13⟩ else q4 := ⟨_, rfl⟩
      have l5 : r5.at_ ≤ s.length := by rw [hr5]; split <;> exact l4
      have c5 := rend_sp k s r5 hs l5
      simp only [← hr5]
      repeat' (first | (apply St_call (hf := c2); exact rfl; exact rfl; exact Split.auto; rintro _ _ ⟨rfl, rfl⟩) | (apply St_call (hf := c3); exact rfl; exact rfl; exact Split.auto; rintro _ _ ⟨rfl, rfl⟩) | (apply St_call (hf := c4); exact rfl; exact rfl; exact Split.auto; rintro _ _ ⟨rfl, rfl⟩) | (apply St_call (hf := fail_sp k s q4 13); exact rfl; exact rfl; exact Split.auto; rintro _ _ ⟨rfl, rfl⟩) | (refine St_step ?_; (try with_reducible intro _)) | (refine St_step2 ?_ ?_ <;> (intro hb; (try simp only [beq_iff_eq, bne_iff_ne, decide_eq_true_eq, decide_eq_false_iff_not, Bool.not_eq_true', Bool.not_eq_false', beq_eq_false_iff_ne, bne_eq_false_iff_eq, ne_eq, Int.not_lt, Int.not_le, gt_iff_lt, ge_iff_le] at hb); (try (first | exact Bool.noConfusion hb | exact absurd trivial hb | (exfalso; omega))))) | fail)
    all_goals refine St_cel (r := false) (b := k) (cs' := [str s, nat .i64 r5.at_, nat .i64 r5.e]) (by exact Has.auto) (by rw [hr5]; first | rw [if_pos ⟨by assumption, by omega⟩] | rw [if_neg (fun h => absurd h.1 (by assumption))] | rw [if_neg (fun h => absurd h.2 (by omega))] | rw [if_neg (fun h => h.1 (by assumption))]) ?_
    all_goals
      by_cases he : rend s r5 = 0
      · rw [if_neg (fun h => h he)]
        rw [he] at c5
        repeat' (first | (apply St_call (hf := c5); exact rfl; exact rfl; exact Split.auto; rintro _ _ ⟨rfl, rfl⟩) | (refine St_step ?_; (try with_reducible intro _)) | (refine St_step2 ?_ ?_ <;> (intro hb; (try simp only [beq_iff_eq, bne_iff_ne, decide_eq_true_eq, decide_eq_false_iff_not, Bool.not_eq_true', Bool.not_eq_false', beq_eq_false_iff_ne, bne_eq_false_iff_eq, ne_eq, Int.not_lt, Int.not_le, gt_iff_lt, ge_iff_le] at hb); (try (first | exact Bool.noConfusion hb | exact absurd trivial hb | (exfalso; omega))))) | fail)
        exact St_retCT tb (.inl rfl) rfl rfl rfl rfl rfl (by exact Has.auto) rfl ⟨rfl, rfl⟩ (by exact Split.auto)
      · rw [if_pos he]
        repeat' (first | (apply St_call (hf := c5); exact rfl; exact rfl; exact Split.auto; rintro _ _ ⟨rfl, rfl⟩) | (refine St_step ?_; (try with_reducible intro _)) | (refine St_step2 ?_ ?_ <;> (intro hb; (try simp only [beq_iff_eq, bne_iff_ne, decide_eq_true_eq, decide_eq_false_iff_not, Bool.not_eq_true', Bool.not_eq_false', beq_eq_false_iff_ne, bne_eq_false_iff_eq, ne_eq, Int.not_lt, Int.not_le, gt_iff_lt, ge_iff_le] at hb); (try (first | exact Bool.noConfusion hb | exact absurd trivial hb | (exfalso; omega))))) | fail)
        exact St_retCT tb (.inl rfl) rfl rfl rfl rfl rfl (by exact Has.auto) rfl ⟨rfl, rfl⟩ (by exact Split.auto)
set_option maxHeartbeats 1000000 in
theorem refFget_sp (b : List UInt8) (hb0 : b.length ≤ 1000000) :
    Sp Tryz.prog 22 [str b] [] (fun v M => v = .tuple [.agg (fv (fget b).1).toArray, nat .i64 (fget b).2].toArray ∧ M = []) := by
  refine Sp.intro (P := Tryz.prog) (Tryz.func22) rfl Tryz.ntmps22 (by decide) rfl ?_
  intro ρ F
  have ho := refOpen_sp b (by omega)
  cases hu : unseald b with
  | none =>
    have hfg : fget b = (fr0, 6) := by unfold fget; rw [hu]
    rw [hu] at ho
    rw [hfg]
    repeat' (first | (apply St_call (hf := ho); exact rfl; exact rfl; exact Split.auto; rintro _ _ ⟨rfl, rfl⟩) | (refine St_step ?_; (try with_reducible intro _)) | (refine St_step2 ?_ ?_ <;> (intro hb; (try simp only [beq_iff_eq, bne_iff_ne, decide_eq_true_eq, decide_eq_false_iff_not, Bool.not_eq_true', Bool.not_eq_false', beq_eq_false_iff_ne, bne_eq_false_iff_eq, ne_eq, Int.not_lt, Int.not_le, gt_iff_lt, ge_iff_le] at hb); (try (first | exact Bool.noConfusion hb | exact absurd trivial hb | (exfalso; omega))))) | fail)
    exact St_retCT tb (.inl rfl) rfl rfl rfl rfl rfl (by exact Has.auto) rfl ⟨rfl, rfl⟩ (by exact Split.auto)
  | some s =>
    have hs : s.length ≤ 1000000 := Nat.le_trans (unseald_len hu) hb0
    rw [hu] at ho
    obtain ⟨n1, q1, h1⟩ : ∃ n r, rnum s 1099511627776 ⟨0, 0⟩ = (n, r) := ⟨_, _, rfl⟩
    have c1 := fun k => fnumber_sp k s ⟨0, 0⟩ 1099511627776 hs (Nat.zero_le _) (by decide)
    have l1 : q1.at_ ≤ s.length := by have := rnum_le (lim := 1099511627776) (r := ⟨0, 0⟩) (Nat.zero_le s.length); rw [h1] at this; exact this
    have z1 : q1.e ≠ 0 → n1 = 0 := by have := rnum_e (s := s) (lim := 1099511627776) (r := ⟨0, 0⟩); rw [h1] at this; exact this
    simp only [h1] at c1
    have hfg : fget b = ftail s n1 (if n1 = 0 then ⟨q1.at_, rfail q1.e 1⟩ else q1) := by unfold fget; rw [hu]; exact fgetIn_eq h1
    rw [hfg]
    by_cases hear : q1.e = 0 ∧ n1 = 0
    · obtain ⟨e0, n0⟩ := hear
      have : ftail s n1 (if n1 = 0 then ⟨q1.at_, rfail q1.e 1⟩ else q1) = (fr0, 1) := by
        rw [if_pos n0, e0]
        exact ftail_stop (r1 := ⟨q1.at_, 1⟩) (show (1 : Nat) ≠ 0 by decide)
      rw [this]
      repeat' (first | (apply St_call (hf := ho); exact rfl; exact rfl; exact Split.auto; rintro _ _ ⟨rfl, rfl⟩) | (apply St_call (hf := c1 _); exact rfl; exact rfl; exact Split.auto; rintro _ _ ⟨rfl, rfl⟩) | (refine St_step ?_; (try with_reducible intro _)) | (refine St_step2 ?_ ?_ <;> (intro hb; (try simp only [beq_iff_eq, bne_iff_ne, decide_eq_true_eq, decide_eq_false_iff_not, Bool.not_eq_true', Bool.not_eq_false', beq_eq_false_iff_ne, bne_eq_false_iff_eq, ne_eq, Int.not_lt, Int.not_le, gt_iff_lt, ge_iff_le] at hb); (try (first | exact Bool.noConfusion hb | exact absurd trivial hb | (exfalso; omega))))) | fail)
      exact St_retCT tb (.inl rfl) rfl rfl rfl rfl rfl (by exact Has.auto) rfl ⟨rfl, rfl⟩ (by exact Split.auto)
    have er1 : (if n1 = 0 then ⟨q1.at_, rfail q1.e 1⟩ else q1 : Rs) = q1 := by
      split
      · rename_i n0
        have : q1.e ≠ 0 := fun h => hear ⟨h, n0⟩
        unfold rfail; rw [if_neg this]
      · rfl
    rw [er1]
    obtain ⟨n2, q2, h2⟩ : ∃ n r, rnum s 1125899906842624 q1 = (n, r) := ⟨_, _, rfl⟩
    have c2 := fun k => fnumber_sp k s q1 1125899906842624 hs l1 (by decide)
    have l2 : q2.at_ ≤ s.length := by have := rnum_le (lim := 1125899906842624) l1; rw [h2] at this; exact this
    obtain ⟨n3, q3, h3⟩ : ∃ n r, rnum s 1125899906842624 q2 = (n, r) := ⟨_, _, rfl⟩
    have c3 := fun k => fnumber_sp k s q2 1125899906842624 hs l2 (by decide)
    have l3 : q3.at_ ≤ s.length := by have := rnum_le (lim := 1125899906842624) l2; rw [h3] at this; exact this
    obtain ⟨d4, q4, h4⟩ : ∃ n r, rtext s 1400 q3 = (n, r) := ⟨_, _, rfl⟩
    have c4 := fun k => ftext_sp k s q3 1400 hs l3 (by decide)
    have l4 : q4.at_ ≤ s.length := by have := rtext_le (lim := 1400) l3; rw [h4] at this; exact this
    simp only [h2] at c2
    simp only [h3] at c3
    simp only [h4] at c4
    rw [ftail_eq h2 h3 h4]
    have z4 : q4.e ≠ 0 → d4 = [] ∨ q4.e ≠ 0 := fun h => .inr h
    by_cases hear2 : q4.e = 0 ∧ n2 = 0 ∧ d4 ≠ []
    · obtain ⟨e0, n0, d0⟩ := hear2
      have : rend s (if d4 ≠ [] ∧ n2 = 0 then ⟨q4.at_, rfail q4.e 13⟩ else q4) = 13 := by
        rw [if_pos ⟨d0, n0⟩, e0]
        exact rend_stop (r := ⟨q4.at_, 13⟩) (show (13 : Nat) ≠ 0 by decide)
      simp only [this]
      repeat' (first | (apply St_call (hf := ho); exact rfl; exact rfl; exact Split.auto; rintro _ _ ⟨rfl, rfl⟩) | (apply St_call (hf := c1 _); exact rfl; exact rfl; exact Split.auto; rintro _ _ ⟨rfl, rfl⟩) | (apply St_call (hf := c2 _); exact rfl; exact rfl; exact Split.auto; rintro _ _ ⟨rfl, rfl⟩) | (apply St_call (hf := c3 _); exact rfl; exact rfl; exact Split.auto; rintro _ _ ⟨rfl, rfl⟩) | (apply St_call (hf := c4 _); exact rfl; exact rfl; exact Split.auto; rintro _ _ ⟨rfl, rfl⟩) | (refine St_step ?_; (try with_reducible intro _)) | (refine St_step2 ?_ ?_ <;> (intro hb; (try simp only [beq_iff_eq, bne_iff_ne, decide_eq_true_eq, decide_eq_false_iff_not, Bool.not_eq_true', Bool.not_eq_false', beq_eq_false_iff_ne, bne_eq_false_iff_eq, ne_eq, Int.not_lt, Int.not_le, gt_iff_lt, ge_iff_le] at hb); (try (first | exact Bool.noConfusion hb | exact absurd trivial hb | (exfalso; omega))))) | fail)
      all_goals first | (exfalso; omega) | contradiction | exact St_retCT tb (.inl rfl) rfl rfl rfl rfl rfl (by exact Has.auto) rfl ⟨rfl, rfl⟩ (by exact Split.auto)
    have er5 : (if d4 ≠ [] ∧ n2 = 0 then ⟨q4.at_, rfail q4.e 13⟩ else q4 : Rs) = q4 := by
      split
      · rename_i hdn
        have : q4.e ≠ 0 := fun h => hear2 ⟨h, hdn.2, hdn.1⟩
        unfold rfail; rw [if_neg this]
      · rfl
    simp only [er5]
    have c5 := fun k => fend_sp k s q4 hs l4
    by_cases he : rend s q4 = 0
    · rw [if_neg (fun h => h he)]
      rw [he] at c5
      repeat' (first | (apply St_call (hf := ho); exact rfl; exact rfl; exact Split.auto; rintro _ _ ⟨rfl, rfl⟩) | (apply St_call (hf := c1 _); exact rfl; exact rfl; exact Split.auto; rintro _ _ ⟨rfl, rfl⟩) | (apply St_call (hf := c2 _); exact rfl; exact rfl; exact Split.auto; rintro _ _ ⟨rfl, rfl⟩) | (apply St_call (hf := c3 _); exact rfl; exact rfl; exact Split.auto; rintro _ _ ⟨rfl, rfl⟩) | (apply St_call (hf := c4 _); exact rfl; exact rfl; exact Split.auto; rintro _ _ ⟨rfl, rfl⟩) | (apply St_call (hf := c5 _); exact rfl; exact rfl; exact Split.auto; rintro _ _ ⟨rfl, rfl⟩) | (refine St_step ?_; (try with_reducible intro _)) | (refine St_step2 ?_ ?_ <;> (intro hb; (try simp only [beq_iff_eq, bne_iff_ne, decide_eq_true_eq, decide_eq_false_iff_not, Bool.not_eq_true', Bool.not_eq_false', beq_eq_false_iff_ne, bne_eq_false_iff_eq, ne_eq, Int.not_lt, Int.not_le, gt_iff_lt, ge_iff_le] at hb); (try (first | exact Bool.noConfusion hb | exact absurd trivial hb | (exfalso; omega))))) | fail)
      all_goals first | (exfalso; omega) | contradiction | exact absurd ⟨by omega, by omega, by assumption⟩ hear2 | exact St_retCT tb (.inl rfl) rfl rfl rfl rfl rfl (by exact Has.auto) rfl ⟨rfl, rfl⟩ (by exact Split.auto)
    · rw [if_pos he]
      repeat' (first | (apply St_call (hf := ho); exact rfl; exact rfl; exact Split.auto; rintro _ _ ⟨rfl, rfl⟩) | (apply St_call (hf := c1 _); exact rfl; exact rfl; exact Split.auto; rintro _ _ ⟨rfl, rfl⟩) | (apply St_call (hf := c2 _); exact rfl; exact rfl; exact Split.auto; rintro _ _ ⟨rfl, rfl⟩) | (apply St_call (hf := c3 _); exact rfl; exact rfl; exact Split.auto; rintro _ _ ⟨rfl, rfl⟩) | (apply St_call (hf := c4 _); exact rfl; exact rfl; exact Split.auto; rintro _ _ ⟨rfl, rfl⟩) | (apply St_call (hf := c5 _); exact rfl; exact rfl; exact Split.auto; rintro _ _ ⟨rfl, rfl⟩) | (refine St_step ?_; (try with_reducible intro _)) | (refine St_step2 ?_ ?_ <;> (intro hb; (try simp only [beq_iff_eq, bne_iff_ne, decide_eq_true_eq, decide_eq_false_iff_not, Bool.not_eq_true', Bool.not_eq_false', beq_eq_false_iff_ne, bne_eq_false_iff_eq, ne_eq, Int.not_lt, Int.not_le, gt_iff_lt, ge_iff_le] at hb); (try (first | exact Bool.noConfusion hb | exact absurd trivial hb | (exfalso; omega))))) | fail)
      all_goals first | (exfalso; omega) | contradiction | exact absurd ⟨by omega, by omega, by assumption⟩ hear2 | exact St_retCT tb (.inl rfl) rfl rfl rfl rfl rfl (by exact Has.auto) rfl ⟨rfl, rfl⟩ (by exact Split.auto)
end Go.Proofs.YtfjnacakpeommaaGreatDoor
/- Contracts: sequencer.Hear. -/
namespace Go.Proofs.YtfjnacakpeommaaGreatDoor
open Go SL Pl
set_option autoImplicit false
set_option maxRecDepth 100000
set_option linter.unusedSimpArgs false
set_option linter.unusedVariables false
attribute [local irreducible] St Sq Exec QExec wpList wpQuiet Code.wp Exit.then Exit.inBlock bodyPost At Rd wpOp Wa QK GB
/-- A link with these pieces waiting. -/
def lkQ (k : Lk) (q : List (List UInt8)) : Lk := ⟨k.sd, ⟨k.rc.room, k.rc.acked, q⟩, k.ep, k.win, k.room, k.pas⟩
theorem fget_frIn {b : List UInt8} (h : (fget b).2 = 0) : frIn (fget b).1 ∧ (fget b).1.data.length ≤ b.length := by
  obtain ⟨h1, h2⟩ := fput_fget (f := (fget b).1) (b := b) (by rw [← h])
  refine ⟨?_, ?_⟩
  · by_cases hi : frIn (fget b).1
    · exact hi
    · unfold fmay at h1; rw [if_pos hi] at h1; cases h1
  · have := fbytes_ge (fget b).1
    rw [h2] at this; exact this
theorem lkHear_q {k : Lk} {f : Fr} (h : k.rc.q = []) : ∀ d ∈ (lkHear k f).rc.q, d = f.data := by
  intro d hd
  by_cases hst : f.ep < k.ep ∨ ((k.ep : Int) < f.ep ∧ k.pas = false)
  · rw [lkHear_stay hst, h] at hd; cases hd
  · rw [lkHear_go hst] at hd
    have h1 : (if lkAnew k f = true then lkFresh k f.ep else k).rc.q = [] := by
      split
      · rfl
      · exact h
    generalize (if lkAnew k f = true then lkFresh k f.ep else k) = k1 at *
    dsimp only at hd
    split at hd
    · rw [h1] at hd; cases hd
    · unfold rcHear at hd
      split at hd
      · rw [h1] at hd; cases hd
      · rw [h1] at hd; simpa using hd
structure HearI (c : Cfg) (src : Int) (T : List Ro) (q : List (List UInt8)) (l : List Ro) : Prop where
  goes : q.foldl (takeOne c src) l = T
  len : ∀ d ∈ q, d.length ≤ 1000000
  ok : lgOk c.clients.toNat l
  n : l.length + q.length ≤ 1000000
theorem takeOne_ok {c : Cfg} {src : Int} {l : List Ro} (h : lgOk c.clients.toNat l) (d : List UInt8) : lgOk c.clients.toNat (takeOne c src l d) := by
  unfold takeOne
  split
  · exact lgOk_add h _
  · exact h
theorem takeOne_len (c : Cfg) (src : Int) (l : List Ro) (d : List UInt8) : (takeOne c src l d).length ≤ l.length + 1 := by
  unfold takeOne lgAdd
  (repeat' split) <;> simp
attribute [local irreducible] LkP LgP SqP PeP SdP RcP
set_option maxHeartbeats 4000000 in
theorem sHear_sp (b : Nat) (s : Sqr) (src : Int) (bs : List UInt8) (hs : sqOk s) (hb0 : bs.length ≤ 100000) (hl : s.l.length ≤ 900000) :
    Sp Tryz.prog 12 [.pointer (some ⟨b, 0, none⟩), .int .i64 src, str bs] [SqP b s, GB] (fun w M => w = nat .i64 (sqErr s src bs) ∧ M = [SqP b (sqHear s src bs), GB]) := by
  refine Sp.intro (P := Tryz.prog) (Tryz.func12) rfl Tryz.ntmps12 (by decide) rfl ?_
  intro ρ F
  refine St_sqOpen (b := b) (s := s) (by exact Has.auto) fun lb A c ids hz => ?_
  have hcl := hs.n
  obtain ⟨⟨c1, c2⟩, _⟩ := hs.c
  have hg := fget_sp bs (by omega)
  have hgi := fget_frIn (b := bs)
  by_cases hn : src < 1 ∨ s.c.clients < src
  · have e1 : sqErr s src bs = 11 := if_pos hn
    have e2 : sqHear s src bs = s := by unfold sqHear; rw [e1, if_pos (by decide)]
    rw [e1, e2]
    repeat' (first | (apply St_call (hf := sin_sp _ _ _); exact rfl; exact rfl; exact Split.auto; rintro _ _ ⟨rfl, rfl⟩) | (refine St_step ?_; (try with_reducible intro _)) | (refine St_step2 ?_ ?_ <;> (intro hb; (try simp only [beq_iff_eq, bne_iff_ne, decide_eq_true_eq, decide_eq_false_iff_not, Bool.not_eq_true', Bool.not_eq_false', beq_eq_false_iff_ne, bne_eq_false_iff_eq, ne_eq, Int.not_lt, Int.not_le, gt_iff_lt, ge_iff_le] at hb); (try (first | exact Bool.noConfusion hb | exact absurd trivial hb | (exfalso; omega))))) | fail)
    all_goals first | (exfalso; omega) | skip
    all_goals refine St_sqMk (b := b) (lb := lb) (s := s) (v := .slice A s.ks.length c) (ids := ids) hz (by exact Split.auto) ?_
    all_goals exact St_ret1 (.inl rfl) rfl rfl ⟨rfl, rfl⟩ (by exact Split.auto)
  by_cases he : (fget bs).2 ≠ 0
  · have e1 : sqErr s src bs = (fget bs).2 := by unfold sqErr; rw [if_neg hn, if_pos he]
    have e2 : sqHear s src bs = s := by unfold sqHear; rw [e1, if_pos he]
    rw [e1, e2]
    generalize fget bs = q at *
    obtain ⟨f, e⟩ := q
    dsimp only at *
    repeat' (first | (apply St_call (hf := sin_sp _ _ _); exact rfl; exact rfl; exact Split.auto; rintro _ _ ⟨rfl, rfl⟩) | (apply St_call (hf := hg); exact rfl; exact rfl; exact Split.auto; rintro _ _ ⟨rfl, rfl⟩) | (refine St_step ?_; (try with_reducible intro _)) | (refine St_step2 ?_ ?_ <;> (intro hb; (try simp only [beq_iff_eq, bne_iff_ne, decide_eq_true_eq, decide_eq_false_iff_not, Bool.not_eq_true', Bool.not_eq_false', beq_eq_false_iff_ne, bne_eq_false_iff_eq, ne_eq, Int.not_lt, Int.not_le, gt_iff_lt, ge_iff_le] at hb); (try (first | exact Bool.noConfusion hb | exact absurd trivial hb | (exfalso; omega))))) | fail)
    all_goals first | (exfalso; omega) | skip
    all_goals refine St_sqMk (b := b) (lb := lb) (s := s) (v := .slice A s.ks.length c) (ids := ids) hz (by exact Split.auto) ?_
    all_goals exact St_ret1 (.inl rfl) rfl rfl ⟨rfl, rfl⟩ (by exact Split.auto)
  have he0 : (fget bs).2 = 0 := by omega
  obtain ⟨hfi, hfd⟩ := hgi he0
  obtain ⟨i, hi⟩ := Int.eq_ofNat_of_zero_le (show 0 ≤ src - 1 by omega)
  have hil : i < s.ks.length := by omega
  obtain ⟨k, hk⟩ : ∃ k, s.ks[i]? = some k := ⟨_, List.getElem?_eq_getElem hil⟩
  obtain ⟨x, hx⟩ : ∃ x, ids[i]? = some x := ⟨_, List.getElem?_eq_getElem (by omega)⟩
  have hkm := hs.ks k (List.mem_of_getElem? hk)
  have hit : (src - 1).toNat = i := by rw [hi]; rfl
  rw [he0] at hg
  have eE : sqErr s src bs = if (fget bs).1.ep < k.1.ep then 9 else 0 := by unfold sqErr; rw [if_neg hn, if_neg he, hit, hk]
  have eH : sqErr s src bs = 0 → sqHear s src bs = ⟨s.c, (lkHear k.1 (fget bs).1).rc.q.foldl (takeOne s.c src) s.l, s.ks.set i (lkQ (lkHear k.1 (fget bs).1) [], if lkAnew k.1 (fget bs).1 then 0 else k.2)⟩ := fun h => by
    unfold sqHear; rw [h, if_neg (fun h => h rfl), hit, hk]; rfl
  have eH9 : sqErr s src bs = 9 → sqHear s src bs = s := fun h => by unfold sqHear; rw [h, if_pos (by decide)]
  generalize fget bs = fe at *
  obtain ⟨f, e⟩ := fe
  dsimp only at *
  refine St_slOpen (E := 89) (sz := 2) (n := s.ks.length) (v := .slice A s.ks.length c) (by exact Has.auto) (fun h _ _ => ?_) ?_
  · injection h with h1 h2 h3; omega
  rintro b2 cap pre rest hv hcap hrest hlen
  injection hv with hv1 hv2 hv3
  subst hv1 hv3
  have hld := flat_at idv_len ids i x pre rest hx
  have hroom := flat_room idv_len ids i pre rest (by omega)
  refine St_peGet (ids := ids) (ks := s.ks) (by exact Has.auto) hx hk ?_
  have hep := lkEpoch_sp x.1 k.1
  have hset : s.ks.set i k = s.ks := by
    apply List.ext_getElem?
    intro j
    rw [List.getElem?_set]
    by_cases hij : i = j
    · subst hij; rw [if_pos rfl, if_pos hil, hk]
    · rw [if_neg hij]
  by_cases hst : f.ep < k.1.ep
  · rw [if_pos hst] at eE
    rw [eE, eH9 eE]
    repeat' (first | (apply St_call (hf := sin_sp _ _ _); exact rfl; exact rfl; exact Split.auto; rintro _ _ ⟨rfl, rfl⟩) | (apply St_call (hf := hg); exact rfl; exact rfl; exact Split.auto; rintro _ _ ⟨rfl, rfl⟩) | (apply St_regionQ; kernel_rfl; kernel_rfl) | (apply Sq_call (hf := hep); exact rfl; exact rfl; exact Split.auto; (rintro _ _ ⟨rfl, rfl⟩; exact ⟨rfl, _, by exact Split.auto⟩)) | (apply St_rd; exact rfl; (first | (apply Rd_subV; exact rfl; exact rfl; exact hi; omega) | (apply Rd_loadA tb; exact rfl; exact rfl; exact rfl; exact Has.auto; exact hroom; exact hld))) | (apply Sq_rd; exact rfl; (first | (apply Rd_subV; exact rfl; exact rfl; exact hi; omega) | (apply Rd_loadA tb; exact rfl; exact rfl; exact rfl; exact Has.auto; exact hroom; exact hld))) | (refine St_step ?_; (try with_reducible intro _)) | (refine St_step2 ?_ ?_ <;> (intro hb; (try simp only [beq_iff_eq, bne_iff_ne, decide_eq_true_eq, decide_eq_false_iff_not, Bool.not_eq_true', Bool.not_eq_false', beq_eq_false_iff_ne, bne_eq_false_iff_eq, ne_eq, Int.not_lt, Int.not_le, gt_iff_lt, ge_iff_le] at hb); (try (first | exact Bool.noConfusion hb | exact absurd trivial hb | (exfalso; omega))))) | fail)
    all_goals first | (exfalso; omega) | skip
    all_goals refine St_pePut (ids := ids) (ks := s.ks) (k := k) hx hil (by exact Split.auto) ?_
    all_goals rw [hset]
    all_goals refine St_slMk (sz := 2) (n := s.ks.length) (cap := c) (pre := pre) (cs := ids.flatMap idv) (rest := rest) (by exact Has.auto) hcap hrest hlen ?_
    all_goals refine St_sqMk (b := b) (lb := lb) (s := s) (v := .slice (some ⟨b2, pre.length, none⟩) s.ks.length c) (ids := ids) hz (by exact Split.auto) ?_
    all_goals exact St_ret1 (.inl rfl) rfl rfl ⟨rfl, rfl⟩ (by exact Split.auto)
  rw [if_neg hst] at eE
  rw [eE, eH eE]
  have hkh := lkHear_sp x.1 k.1 f hkm.1
  obtain ⟨T, hT⟩ : ∃ T, T = (lkHear k.1 f).rc.q.foldl (takeOne s.c src) s.l := ⟨_, rfl⟩
  rw [← hT]
  have hq : ∀ d ∈ (lkHear k.1 f).rc.q, d.length ≤ 1000000 := fun d hd => by
    rw [lkHear_q hkm.2.2.1 d hd]; omega
  have hqn : (lkHear k.1 f).rc.q.length ≤ 16 := by
    have := (lkOk_hear hkm.1 hfi).rc
    have h1 := this.q; have h2 := this.rr; omega
  have hI : HearI s.c src T (lkHear k.1 f).rc.q s.l := ⟨hT.symm, hq, hs.l, by omega⟩
  generalize hk1 : lkHear k.1 f = k1 at *
  have hpop := fun q => lkPop_sp x.1 (lkQ k1 q)
  have hpop0 := lkPop_sp x.1 k1
  obtain ⟨at_, hat⟩ : ∃ a, a = if lkAnew k.1 f then 0 else k.2 := ⟨_, rfl⟩
  rw [← hat]
  have hcfg5 : (cfgC s.c ++ [.pointer (some ⟨lb, 0, none⟩), .slice (some ⟨b2, pre.length, none⟩) s.ks.length c])[0 + 0 + 4]? = some (.int .i64 s.c.mtu) := rfl
  cases han : lkAnew k.1 f
  all_goals
    rw [han] at hkh hat
    simp only [if_true, Bool.false_eq_true, if_false] at hat
    repeat' (first | (apply St_call (hf := sin_sp _ _ _); exact rfl; exact rfl; exact Split.auto; rintro _ _ ⟨rfl, rfl⟩) | (apply St_call (hf := hg); exact rfl; exact rfl; exact Split.auto; rintro _ _ ⟨rfl, rfl⟩) | (apply St_regionQ; kernel_rfl; kernel_rfl) | (apply Sq_call (hf := hep); exact rfl; exact rfl; exact Split.auto; (rintro _ _ ⟨rfl, rfl⟩; exact ⟨rfl, _, by exact Split.auto⟩)) | (apply St_call (hf := hkh); exact rfl; exact rfl; exact Split.auto; rintro _ _ ⟨rfl, rfl⟩) | (apply St_call (hf := fdReset_sp x.2 k.2); exact rfl; exact rfl; exact Split.auto; rintro _ _ ⟨rfl, rfl⟩) | (apply St_call (hf := hpop0); exact rfl; exact rfl; exact Split.auto; rintro _ _ ⟨rfl, rfl⟩) | (apply St_rd; exact rfl; (first | (apply Rd_subV; exact rfl; exact rfl; exact hi; omega) | (apply Rd_loadA tb; exact rfl; exact rfl; exact rfl; exact Has.auto; exact hroom; exact hld))) | (apply Sq_rd; exact rfl; (first | (apply Rd_subV; exact rfl; exact rfl; exact hi; omega) | (apply Rd_loadA tb; exact rfl; exact rfl; exact rfl; exact Has.auto; exact hroom; exact hld))) | (refine St_step ?_; (try with_reducible intro _)) | (refine St_step2 ?_ ?_ <;> (intro hb; (try simp only [beq_iff_eq, bne_iff_ne, decide_eq_true_eq, decide_eq_false_iff_not, Bool.not_eq_true', Bool.not_eq_false', beq_eq_false_iff_ne, bne_eq_false_iff_eq, ne_eq, Int.not_lt, Int.not_le, gt_iff_lt, ge_iff_le] at hb); (try (first | exact Bool.noConfusion hb | exact absurd trivial hb | (exfalso; omega))))) | fail)
    all_goals first | (exfalso; omega) | skip
    (refine St_loop (fun (y : List (List UInt8) × List Ro) => HearI s.c src T y.1 y.2) (fun y => [(0, .pointer (some ⟨b, 0, none⟩)), (1, .int .i64 src), (9, .pointer (some ⟨_, 0, none⟩)), (10, str (y.1.headD [])), (11, .bool (!y.1.isEmpty))]) (fun y => [cel false _ 89 (idv x), LkP x.1 (lkQ k1 (y.1.drop 1)), cel false b 83 (cfgC s.c ++ [.pointer (some ⟨lb, 0, none⟩), .slice (some ⟨b2, pre.length, none⟩) s.ks.length c]), LgP lb s.c.clients.toNat y.2, FdP x.2 _, cel false b2 89 (pre ++ ids.flatMap idv ++ rest), big ((List.zipWith PeP ids s.ks).set i emp), GB, big F]) (fun y => y.1.length) (k1.rc.q, s.l) hI ⟨rfl, rfl, rfl, rfl, rfl, trivial⟩ (by exact Split.auto) ?_)
    rintro ⟨q, l⟩ ⟨g1, g2, g3, g4⟩
    dsimp only at g1 g2 g3 g4 ⊢
    cases q with
    | nil =>
      have g1 : l = T := g1
      subst g1
      repeat' (first | (refine St_step ?_; (try with_reducible intro _)) | (refine St_step2 ?_ ?_ <;> (intro hb; (try simp only [beq_iff_eq, bne_iff_ne, decide_eq_true_eq, decide_eq_false_iff_not, Bool.not_eq_true', Bool.not_eq_false', beq_eq_false_iff_ne, bne_eq_false_iff_eq, ne_eq, Int.not_lt, Int.not_le, gt_iff_lt, ge_iff_le] at hb); (try (first | exact Bool.noConfusion hb | exact absurd trivial hb | (exfalso; omega))))) | fail)
      refine St_pePut (ids := ids) (ks := s.ks) (k := (lkQ k1 [], _)) hx hil (by exact Split.auto) ?_
      refine St_slMk (sz := 2) (n := s.ks.length) (cap := c) (pre := pre) (cs := ids.flatMap idv) (rest := rest) (by exact Has.auto) hcap hrest hlen ?_
      have hsl : (s.ks.set i (lkQ k1 [], at_)).length = s.ks.length := by simp
      refine St_sqMk (b := b) (lb := lb) (s := ⟨s.c, l, s.ks.set i (lkQ k1 [], at_)⟩) (v := .slice (some ⟨b2, pre.length, none⟩) s.ks.length c) (ids := ids) (by rw [hsl]; exact hz) (by dsimp only; rw [hsl, hat]; exact Split.auto) ?_
      exact St_ret1 (.inl rfl) rfl rfl ⟨rfl, by rw [hat]⟩ (by rw [← hat]; exact Split.auto)
    | cons d q' =>
      have hd := g2 d List.mem_cons_self
      have cg := rGet_sp d hd
      have g1 : q'.foldl (takeOne s.c src) (takeOne s.c src l d) = T := g1
      have hnext : HearI s.c src T q' (takeOne s.c src l d) := ⟨g1, fun x hx => g2 x (List.mem_cons_of_mem _ hx), takeOne_ok g3 d, by have := takeOne_len s.c src l d; simp only [List.length_cons] at g4; omega⟩
      have hp := hpop q'
      have hlast := lastOf_le (lgOk_mem g3)
      obtain ⟨r, e, hre⟩ : ∃ r e, rget d = (r, e) := ⟨_, _, rfl⟩
      rw [hre] at cg
      have htk : takeOne s.c src l d = if e = 0 ∧ r.origin = src ∧ rfits r.ups s.c.mtu = true then lgAdd s.c.clients.toNat l r else l := by unfold takeOne; rw [hre]
      dsimp only at cg
      refine St_val (t := 10) (v' := str d) rfl rfl ?_
      refine St_val (t := 11) (v' := .bool true) rfl rfl ?_
      repeat' (first | (apply St_call (hf := cg); exact rfl; exact rfl; exact Split.auto; rintro _ _ ⟨v, rfl, rfl⟩; refine St_rsIs (r := true) (v := v) (n := r.ups.length) (cs := r.ups.flatMap uv) (by exact Has.auto) ?_; rintro Av cv rfl) | (refine St_step ?_; (try with_reducible intro _)) | (refine St_step2 ?_ ?_ <;> (intro hb; (try simp only [beq_iff_eq, bne_iff_ne, decide_eq_true_eq, decide_eq_false_iff_not, Bool.not_eq_true', Bool.not_eq_false', beq_eq_false_iff_ne, bne_eq_false_iff_eq, ne_eq, Int.not_lt, Int.not_le, gt_iff_lt, ge_iff_le] at hb); (try (first | exact Bool.noConfusion hb | exact absurd trivial hb | (exfalso; omega))))) | fail)
      rename_i rb
      have cf := rFits_sp true r.ups (.slice Av r.ups.length cv) s.c.mtu
      have cadd := lgAdd_sp true lb s.c.clients.toNat l r (.slice Av r.ups.length cv) (by omega) (by omega) hlast
      clear g2 hlast
      by_cases hyes : e = 0 ∧ r.origin = src ∧ rfits r.ups s.c.mtu = true
      · rw [if_pos hyes] at htk
        obtain ⟨y1, y2, y3⟩ := hyes
        rw [y3] at cf
        repeat' (first | (apply St_regionA (5) ([cel false b 83 (cfgC s.c ++ [.pointer (some ⟨lb, 0, none⟩), .slice (some ⟨b2, pre.length, none⟩) s.ks.length c]), cel false rb 64 (rv r (.slice Av r.ups.length cv))]); kernel_rfl; (apply Sa_take 0; exact rfl; kernel_rfl; exact PanicOk.auto; exact rfl; (first | exact Rd_auto)); (apply Sa_take 1; exact rfl; kernel_rfl; exact PanicOk.auto; exact rfl; (first | exact Rd_auto)); (apply Sa_take 2; exact rfl; kernel_rfl; exact PanicOk.auto; exact rfl; (first | exact Rd_auto)); (apply Sa_take 3; exact rfl; kernel_rfl; exact PanicOk.auto; exact rfl; (first | exact Rd_auto)); (apply Sa_take 4; exact rfl; kernel_rfl; exact PanicOk.auto; exact rfl; (first | exact Rd_auto)); (apply Sa_one (i := 5); kernel_rfl; exact .inr (by exact Split.auto)); (apply Sa_op; exact rfl; exact rfl); (first | (apply St_call (hf := cadd); exact rfl; exact rfl; exact Split.auto; rintro _ _ ⟨rfl, rfl⟩) | (refine St_step ?_; (try with_reducible intro _)) | (refine St_step2 ?_ ?_ <;> (intro hb; (try simp only [beq_iff_eq, bne_iff_ne, decide_eq_true_eq, decide_eq_false_iff_not, Bool.not_eq_true', Bool.not_eq_false', beq_eq_false_iff_ne, bne_eq_false_iff_eq, ne_eq, Int.not_lt, Int.not_le, gt_iff_lt, ge_iff_le] at hb); (try (first | exact Bool.noConfusion hb | exact absurd trivial hb | (exfalso; omega))))) | fail); (apply Sa_done (R := []); kernel_rfl; refine .inl ?_; kernel_rfl)) | (apply St_regionQ; kernel_rfl; kernel_rfl) | (apply Sq_call (hf := cf); exact rfl; exact rfl; exact Split.auto; (rintro _ _ ⟨rfl, rfl⟩; exact ⟨rfl, _, by exact Split.auto⟩)) | (apply St_call (hf := hp); exact rfl; exact rfl; exact Split.auto; rintro _ _ ⟨rfl, rfl⟩) | (refine St_step ?_; (try with_reducible intro _)) | (refine St_step2 ?_ ?_ <;> (intro hb; (try simp only [beq_iff_eq, bne_iff_ne, decide_eq_true_eq, decide_eq_false_iff_not, Bool.not_eq_true', Bool.not_eq_false', beq_eq_false_iff_ne, bne_eq_false_iff_eq, ne_eq, Int.not_lt, Int.not_le, gt_iff_lt, ge_iff_le] at hb); (try (first | exact Bool.noConfusion hb | exact absurd trivial hb | (exfalso; omega))))) | fail)
        all_goals first | (exfalso; omega) | skip
        rw [htk] at hnext
        exact St_at (q', lgAdd s.c.clients.toNat l r) ⟨hnext, by show q'.length < (d :: q').length; simp⟩ ⟨rfl, rfl, rfl, rfl, rfl, trivial⟩ (by exact Split.auto)
      · rw [if_neg hyes] at htk
        by_cases y1 : e = 0
        · by_cases y2 : r.origin = src
          · have y3 : rfits r.ups s.c.mtu = false := by
              cases h : rfits r.ups s.c.mtu with
              | false => rfl
              | true => exact absurd ⟨y1, y2, h⟩ hyes
            rw [y3] at cf
            repeat' (first | (apply St_regionQ; kernel_rfl; kernel_rfl) | (apply Sq_call (hf := cf); exact rfl; exact rfl; exact Split.auto; (rintro _ _ ⟨rfl, rfl⟩; exact ⟨rfl, _, by exact Split.auto⟩)) | (apply St_call (hf := hp); exact rfl; exact rfl; exact Split.auto; rintro _ _ ⟨rfl, rfl⟩) | (refine St_step ?_; (try with_reducible intro _)) | (refine St_step2 ?_ ?_ <;> (intro hb; (try simp only [beq_iff_eq, bne_iff_ne, decide_eq_true_eq, decide_eq_false_iff_not, Bool.not_eq_true', Bool.not_eq_false', beq_eq_false_iff_ne, bne_eq_false_iff_eq, ne_eq, Int.not_lt, Int.not_le, gt_iff_lt, ge_iff_le] at hb); (try (first | exact Bool.noConfusion hb | exact absurd trivial hb | (exfalso; omega))))) | fail)
            all_goals first | (exfalso; omega) | skip
            rw [htk] at hnext
            exact St_at (q', l) ⟨hnext, by show q'.length < (d :: q').length; simp⟩ ⟨rfl, rfl, rfl, rfl, rfl, trivial⟩ (by exact Split.auto)
          · repeat' (first | (apply St_regionQ; kernel_rfl; kernel_rfl) | (apply St_call (hf := hp); exact rfl; exact rfl; exact Split.auto; rintro _ _ ⟨rfl, rfl⟩) | (refine St_step ?_; (try with_reducible intro _)) | (refine St_step2 ?_ ?_ <;> (intro hb; (try simp only [beq_iff_eq, bne_iff_ne, decide_eq_true_eq, decide_eq_false_iff_not, Bool.not_eq_true', Bool.not_eq_false', beq_eq_false_iff_ne, bne_eq_false_iff_eq, ne_eq, Int.not_lt, Int.not_le, gt_iff_lt, ge_iff_le] at hb); (try (first | exact Bool.noConfusion hb | exact absurd trivial hb | (exfalso; omega))))) | fail)
            all_goals first | (exfalso; omega) | skip
            rw [htk] at hnext
            exact St_at (q', l) ⟨hnext, by show q'.length < (d :: q').length; simp⟩ ⟨rfl, rfl, rfl, rfl, rfl, trivial⟩ (by exact Split.auto)
        · repeat' (first | (apply St_regionQ; kernel_rfl; kernel_rfl) | (apply St_call (hf := hp); exact rfl; exact rfl; exact Split.auto; rintro _ _ ⟨rfl, rfl⟩) | (refine St_step ?_; (try with_reducible intro _)) | (refine St_step2 ?_ ?_ <;> (intro hb; (try simp only [beq_iff_eq, bne_iff_ne, decide_eq_true_eq, decide_eq_false_iff_not, Bool.not_eq_true', Bool.not_eq_false', beq_eq_false_iff_ne, bne_eq_false_iff_eq, ne_eq, Int.not_lt, Int.not_le, gt_iff_lt, ge_iff_le] at hb); (try (first | exact Bool.noConfusion hb | exact absurd trivial hb | (exfalso; omega))))) | fail)
          all_goals first | (exfalso; omega) | skip
          rw [htk] at hnext
          exact St_at (q', l) ⟨hnext, by show q'.length < (d :: q').length; simp⟩ ⟨rfl, rfl, rfl, rfl, rfl, trivial⟩ (by exact Split.auto)
end Go.Proofs.YtfjnacakpeommaaGreatDoor
/- Contracts: sequencer.Tick. -/
namespace Go.Proofs.YtfjnacakpeommaaGreatDoor
open Go SL Pl
set_option autoImplicit false
set_option maxRecDepth 100000
set_option linter.unusedSimpArgs false
set_option linter.unusedVariables false
attribute [local irreducible] St Sq Exec QExec wpList wpQuiet Code.wp Exit.then Exit.inBlock bodyPost At Rd wpOp Wa QK GB
abbrev kv (p : Pk) : List Value := [.int .i64 p.src, .int .i64 p.dst, str p.b]
theorem kv_len (p : Pk) : (kv p).length = 3 := rfl
theorem puts_snoc (fs : List Fr) (f : Fr) (a b m : Int) : puts (fs ++ [f]) a b m = puts fs a b m ++ (if (fput f m).2 = 0 then [⟨a, b, (fput f m).1⟩] else []) := by
  unfold puts
  rw [List.filterMap_append]
  congr 1
  by_cases h : (fput f m).2 = 0
  · simp [h]
  · simp [h]
theorem puts_len (fs : List Fr) (a b m : Int) : (puts fs a b m).length ≤ fs.length := List.length_filterMap_le _ _
/-- Packets of the first i peers. -/
def pksTo (s : Sqr) (i : Nat) : List Pk := ((s.ks.take i).zipIdx.map fun x => tickPks s x.2 x.1).flatten
theorem pksTo_succ {s : Sqr} {i : Nat} {k : Lk × Nat} (h : s.ks[i]? = some k) : pksTo s (i + 1) = pksTo s i ++ tickPks s i k := by
  have hi : i < s.ks.length := by
    rcases Nat.lt_or_ge i s.ks.length with q | q
    · exact q
    · rw [List.getElem?_eq_none q] at h; cases h
  unfold pksTo
  rw [List.take_add_one, h]
  simp only [Option.toList_some, List.zipIdx_append, List.map_append, List.flatten_append, List.zipIdx_singleton, List.map_cons, List.map_nil, List.flatten_cons, List.flatten_nil, List.append_nil, List.length_take]
  rw [Nat.min_eq_left (by omega), Nat.zero_add]
theorem pksTo_all (s : Sqr) : pksTo s s.ks.length = sqPks s := by unfold pksTo sqPks; rw [List.take_length]
/-- The peers, the first i of them ticked. -/
def ksTo (s : Sqr) (i : Nat) : List (Lk × Nat) := (s.ks.take i).map (tick1 s) ++ s.ks.drop i
theorem ksTo_len (s : Sqr) (i : Nat) : (ksTo s i).length = s.ks.length := by simp [ksTo]; omega
theorem ksTo_at {s : Sqr} {i : Nat} {k : Lk × Nat} (h : s.ks[i]? = some k) : (ksTo s i)[i]? = some k := by
  have hi : i < s.ks.length := by
    rcases Nat.lt_or_ge i s.ks.length with q | q
    · exact q
    · rw [List.getElem?_eq_none q] at h; cases h
  unfold ksTo
  rw [List.getElem?_append_right (by simp; omega)]
  simp [h]
  have : i + (i - min i s.ks.length) = i := by omega
  rw [this, h]
theorem ksTo_set {s : Sqr} {i : Nat} {k : Lk × Nat} (h : s.ks[i]? = some k) : (ksTo s i).set i (tick1 s k) = ksTo s (i + 1) := by
  have hi : i < s.ks.length := by
    rcases Nat.lt_or_ge i s.ks.length with q | q
    · exact q
    · rw [List.getElem?_eq_none q] at h; cases h
  have hk : s.ks[i] = k := by rw [List.getElem?_eq_getElem hi] at h; exact Option.some.inj h
  unfold ksTo
  rw [List.set_append_right _ _ (by simp; omega), List.drop_eq_getElem_cons hi, hk, List.take_succ_eq_append_getElem hi, hk]
  simp
  have : i - min i s.ks.length = 0 := by omega
  rw [this]
  rfl
theorem ksTo_all (s : Sqr) : ksTo s s.ks.length = (sqTick s).ks := by simp [ksTo, sqTick]
attribute [local irreducible] LkP LgP SqP PeP SdP RcP
set_option maxHeartbeats 4000000 in
theorem sTick_sp (b : Nat) (s : Sqr) (hs : sqOk s) (hl : s.l.length ≤ 900000) (hd : ∀ (i : Nat) (k : Lk × Nat), s.ks[i]? = some k → ∀ f ∈ lkFrames (tick1 s k).1, f.data.length ≤ 1000000) :
    Sp Tryz.prog 15 [.pointer (some ⟨b, 0, none⟩)] [SqP b s, GB] (fun w M => (∃ A c, w = .slice A (sqPks s).length c) ∧ M = [RS true w (sqPks s).length ((sqPks s).flatMap kv), SqP b (sqTick s), GB]) := by
  refine Sp.intro (P := Tryz.prog) (Tryz.func15) rfl Tryz.ntmps15 (by decide) rfl ?_
  intro ρ F
  refine St_sqOpen (b := b) (s := s) (by exact Has.auto) fun lb A c ids hz => ?_
  have hcl := hs.n
  obtain ⟨⟨c1, c2⟩, _⟩ := hs.c
  have hsn : s.ks.length ≤ 64 := by omega
  refine St_conv (L' := Sl 77 3 (.slice none 0 0) 0 [] :: _) (fun w H => Holds.sl_nil H) ?_
  repeat' (first | (refine St_step ?_; (try with_reducible intro _)) | (refine St_step2 ?_ ?_ <;> (intro hb; (try simp only [beq_iff_eq, bne_iff_ne, decide_eq_true_eq, decide_eq_false_iff_not, Bool.not_eq_true', Bool.not_eq_false', beq_eq_false_iff_ne, bne_eq_false_iff_eq, ne_eq, Int.not_lt, Int.not_le, gt_iff_lt, ge_iff_le] at hb); (try (first | exact Bool.noConfusion hb | exact absurd trivial hb | (exfalso; omega))))) | fail)
  refine St_loop (fun (y : Nat × Option Addr × Nat) => y.1 ≤ s.ks.length ∧ (pksTo s y.1).length ≤ 16 * y.1) (fun y => [(0, .pointer (some ⟨b, 0, none⟩)), (3, .slice y.2.1 (pksTo s y.1).length y.2.2), (13, .slice A s.ks.length c), (14, nat .i64 s.ks.length), (15, nat .i64 y.1)]) (fun y => [Sl 77 3 (.slice y.2.1 (pksTo s y.1).length y.2.2) (pksTo s y.1).length ((pksTo s y.1).flatMap kv), cel false b 83 (cfgC s.c ++ [.pointer (some ⟨lb, 0, none⟩), .slice A s.ks.length c]), LgP lb s.c.clients.toNat s.l, Sl 89 2 (.slice A s.ks.length c) s.ks.length (ids.flatMap idv), big (List.zipWith PeP ids (ksTo s y.1)), GB, big F]) (fun y => s.ks.length - y.1) (0, none, 0) ⟨Nat.zero_le _, Nat.le_refl _⟩ ⟨rfl, rfl, rfl, rfl, rfl, trivial⟩ (by exact Split.auto) ?_
  rintro ⟨i, A1, c1'⟩ ⟨hi, hpl⟩
  have hi : i ≤ s.ks.length := hi
  have hpl : (pksTo s i).length ≤ 16 * i := hpl
  dsimp only
  by_cases hil : i < s.ks.length
  · obtain ⟨k, hk⟩ : ∃ k, s.ks[i]? = some k := ⟨_, List.getElem?_eq_getElem hil⟩
    obtain ⟨x, hx⟩ : ∃ x, ids[i]? = some x := ⟨_, List.getElem?_eq_getElem (by omega)⟩
    have hkm := hs.ks k (List.mem_of_getElem? hk)
    refine St_slOpen (E := 89) (sz := 2) (n := s.ks.length) (v := .slice A s.ks.length c) (by exact Has.auto) (fun h _ _ => ?_) ?_
    · injection h with h1 h2 h3; omega
    rintro b2 cap pre rest hv hcap hrest hlen
    injection hv with hv1 hv2 hv3
    subst hv1 hv3
    have hld := flat_at idv_len ids i x pre rest hx
    have hroom := flat_room idv_len ids i pre rest (by omega)
    refine St_peGet (ids := ids) (ks := ksTo s i) (by exact Has.auto) hx (ksTo_at hk) ?_
    have hpump := pump_sp x.2 lb x.1 s.c.clients.toNat k.2 s.l k.1 hkm.1 hkm.2.1 (by omega) (lgOk_ups hs.l)
    have e1 : lkWith k.1 (pump s.l k.2 k.1.sd).2 = (tick1 s k).1 := rfl
    have e2 : (pump s.l k.2 k.1.sd).1 = (tick1 s k).2 := rfl
    have hok : lkOk (tick1 s k).1 := by rw [← e1]; exact lkOk_with hkm.1 (pumpN_ok s.l _ _ hkm.1.sd)
    rw [e1, e2] at hpump
    have hfr := lkFrames_sp x.1 (tick1 s k).1 hok
    have hf16 : (lkFrames (tick1 s k).1).length ≤ 16 := lkFrames_len (by have h1 := hok.sd.l; have h2 := hok.sd.w; omega)
    have hdd := hd i k hk
    have hnext : pksTo s (i + 1) = pksTo s i ++ puts (lkFrames (tick1 s k).1) 0 ((i : Int) + 1) s.c.mtu := pksTo_succ hk
    have hks := ksTo_set hk
    generalize htk : tick1 s k = k' at *
    generalize hfs : lkFrames k'.1 = fs at *
    repeat' (first | (apply St_rd; exact rfl; (first | (apply Rd_loadA tb; exact rfl; exact rfl; exact rfl; exact Has.auto; exact hroom; exact hld))) | (apply Sq_rd; exact rfl; (first | (apply Rd_loadA tb; exact rfl; exact rfl; exact rfl; exact Has.auto; exact hroom; exact hld))) | (refine St_step ?_; (try with_reducible intro _)) | (refine St_step2 ?_ ?_ <;> (intro hb; (try simp only [beq_iff_eq, bne_iff_ne, decide_eq_true_eq, decide_eq_false_iff_not, Bool.not_eq_true', Bool.not_eq_false', beq_eq_false_iff_ne, bne_eq_false_iff_eq, ne_eq, Int.not_lt, Int.not_le, gt_iff_lt, ge_iff_le] at hb); (try (first | exact Bool.noConfusion hb | exact absurd trivial hb | (exfalso; omega))))) | fail)
    all_goals first | (exfalso; omega) | skip
    rename_i pb
    repeat' (first | (apply St_regionA (8) ([cel false pb 89 (idv x), cel false b 83 (cfgC s.c ++ [.pointer (some ⟨lb, 0, none⟩), .slice (some ⟨b2, pre.length, none⟩) s.ks.length c])]); kernel_rfl; (apply Sa_take 0; exact rfl; kernel_rfl; exact PanicOk.auto; exact rfl; (first | exact Rd_auto)); (apply Sa_take 1; exact rfl; kernel_rfl; exact PanicOk.auto; exact rfl; (first | exact Rd_auto)); (apply Sa_take 2; exact rfl; kernel_rfl; exact PanicOk.auto; exact rfl; (first | exact Rd_auto)); (apply Sa_take 3; exact rfl; kernel_rfl; exact PanicOk.auto; exact rfl; (first | exact Rd_auto)); (apply Sa_take 4; exact rfl; kernel_rfl; exact PanicOk.auto; exact rfl; (first | exact Rd_auto)); (apply Sa_take 5; exact rfl; kernel_rfl; exact PanicOk.auto; exact rfl; (first | exact Rd_auto)); (apply Sa_take 6; exact rfl; kernel_rfl; exact PanicOk.auto; exact rfl; (first | exact Rd_auto)); (apply Sa_take 7; exact rfl; kernel_rfl; exact PanicOk.auto; exact rfl; (first | exact Rd_auto)); (apply Sa_one (i := 8); kernel_rfl; exact .inr (by exact Split.auto)); (apply Sa_op; exact rfl; exact rfl); (first | (apply St_call (hf := hpump); exact rfl; exact rfl; exact Split.auto; rintro _ _ ⟨⟨_, rfl⟩, rfl⟩) | (refine St_step ?_; (try with_reducible intro _)) | (refine St_step2 ?_ ?_ <;> (intro hb; (try simp only [beq_iff_eq, bne_iff_ne, decide_eq_true_eq, decide_eq_false_iff_not, Bool.not_eq_true', Bool.not_eq_false', beq_eq_false_iff_ne, bne_eq_false_iff_eq, ne_eq, Int.not_lt, Int.not_le, gt_iff_lt, ge_iff_le] at hb); (try (first | exact Bool.noConfusion hb | exact absurd trivial hb | (exfalso; omega))))) | fail); (apply Sa_done (R := []); kernel_rfl; refine .inl ?_; kernel_rfl)) | (apply St_call (hf := hfr); exact rfl; exact rfl; exact Split.auto; rintro _ _ ⟨Af, cf, rfl, rfl⟩) | (refine St_step ?_; (try with_reducible intro _)) | (refine St_step2 ?_ ?_ <;> (intro hb; (try simp only [beq_iff_eq, bne_iff_ne, decide_eq_true_eq, decide_eq_false_iff_not, Bool.not_eq_true', Bool.not_eq_false', beq_eq_false_iff_ne, bne_eq_false_iff_eq, ne_eq, Int.not_lt, Int.not_le, gt_iff_lt, ge_iff_le] at hb); (try (first | exact Bool.noConfusion hb | exact absurd trivial hb | (exfalso; omega))))) | fail)
    all_goals first | (exfalso; omega) | skip
    refine St_loop (fun (y : Nat × Option Addr × Nat) => y.1 ≤ fs.length) (fun y => [(0, .pointer (some ⟨b, 0, none⟩)), (3, .slice y.2.1 (pksTo s i ++ puts (fs.take y.1) 0 ((i : Int) + 1) s.c.mtu).length y.2.2), (4, nat .i64 i), (13, .slice (some ⟨b2, pre.length, none⟩) s.ks.length c), (14, nat .i64 s.ks.length), (15, nat .i64 i), (31, .slice Af fs.length cf), (32, nat .i64 fs.length), (33, nat .i64 y.1)]) (fun y => [Sl 77 3 (.slice y.2.1 (pksTo s i ++ puts (fs.take y.1) 0 ((i : Int) + 1) s.c.mtu).length y.2.2) (pksTo s i ++ puts (fs.take y.1) 0 ((i : Int) + 1) s.c.mtu).length ((pksTo s i ++ puts (fs.take y.1) 0 ((i : Int) + 1) s.c.mtu).flatMap kv), RS true (.slice Af fs.length cf) fs.length (fs.flatMap fv), cel false b 83 (cfgC s.c ++ [.pointer (some ⟨lb, 0, none⟩), .slice (some ⟨b2, pre.length, none⟩) s.ks.length c]), LgP lb s.c.clients.toNat s.l, cel false b2 89 (pre ++ ids.flatMap idv ++ rest), LkP x.1 k'.1, FdP x.2 k'.2, big ((List.zipWith PeP ids (ksTo s i)).set i emp), GB, big F]) (fun y => fs.length - y.1) (0, A1, c1') (Nat.zero_le _) ⟨rfl, ?_, rfl, rfl, rfl, rfl, rfl, rfl, rfl, trivial⟩ (by rw [List.take_zero]; simp only [puts, List.filterMap_nil, List.append_nil]; exact Split.auto) ?_
    · rw [List.take_zero]; simp only [puts, List.filterMap_nil, List.append_nil]; rfl
    rintro ⟨j, A2, c2'⟩ hj
    have hj : j ≤ fs.length := hj
    dsimp only
    have hpo : (pksTo s i ++ puts (fs.take j) 0 ((i : Int) + 1) s.c.mtu).length ≤ 2000 := by
      have := puts_len (fs.take j) 0 ((i : Int) + 1) s.c.mtu
      rw [List.length_append]; rw [List.length_take] at this; omega
    by_cases hjl : j < fs.length
    · obtain ⟨f, hf⟩ : ∃ f, fs[j]? = some f := ⟨_, List.getElem?_eq_getElem hjl⟩
      refine St_rsOpen (r := true) (v := .slice Af fs.length cf) (n := fs.length) (cs := fs.flatMap fv) (by exact Has.auto) (by omega) ?_
      rintro b3 T3 cap3 pre3 rest3 hv3
      injection hv3 with q1 q2 q3
      subst q1 q3
      have hld2 := flat_at fv_len fs j f pre3 rest3 hf
      have hroom2 := flat_room fv_len fs j pre3 rest3 hjl
      have hput := fput_sp f s.c.mtu (hdd f (List.mem_of_getElem? hf))
      have htake : fs.take (j + 1) = fs.take j ++ [f] := by rw [List.take_add_one, hf]; rfl
      have hst := puts_snoc (fs.take j) f 0 ((i : Int) + 1) s.c.mtu
      rw [← htake] at hst
      by_cases he : (fput f s.c.mtu).2 = 0
      · rw [if_pos he] at hst
        rw [he] at hput
        have hout : pksTo s i ++ puts (fs.take (j + 1)) 0 ((i : Int) + 1) s.c.mtu = (pksTo s i ++ puts (fs.take j) 0 ((i : Int) + 1) s.c.mtu) ++ [⟨0, (i : Int) + 1, (fput f s.c.mtu).1⟩] := by
          rw [hst, ← List.append_assoc]
        generalize (fput f s.c.mtu).1 = w at *
        generalize pksTo s i ++ puts (fs.take j) 0 ((i : Int) + 1) s.c.mtu = out at *
        repeat' (first | (apply St_regionQ; kernel_rfl; kernel_rfl) | (apply Sq_call (hf := hput); exact rfl; exact rfl; exact Split.auto; (rintro _ _ ⟨rfl, rfl⟩; exact ⟨rfl, _, by exact Split.auto⟩)) | (apply St_append tb (sz := 3) (n := out.length) (cs := out.flatMap kv); (repeat exact rfl); exact Has.auto; (intro _; exact Src.row (n := 1) (by exact Has.auto) (by simp) (by exact rfl)); exact rfl; (dsimp only; omega); intro v'; refine St_slIs (v := v') (n := out.length + 1) (by exact Has.auto) ?_; rintro A4 c4 rfl) | (apply St_rd; exact rfl; (first | (apply Rd_loadA tb; exact rfl; exact rfl; exact rfl; exact Has.auto; exact hroom2; exact hld2))) | (apply Sq_rd; exact rfl; (first | (apply Rd_loadA tb; exact rfl; exact rfl; exact rfl; exact Has.auto; exact hroom2; exact hld2))) | (refine St_step ?_; (try with_reducible intro _)) | (refine St_step2 ?_ ?_ <;> (intro hb; (try simp only [beq_iff_eq, bne_iff_ne, decide_eq_true_eq, decide_eq_false_iff_not, Bool.not_eq_true', Bool.not_eq_false', beq_eq_false_iff_ne, bne_eq_false_iff_eq, ne_eq, Int.not_lt, Int.not_le, gt_iff_lt, ge_iff_le] at hb); (try (first | exact Bool.noConfusion hb | exact absurd trivial hb | (exfalso; omega))))) | fail)
        all_goals first | (exfalso; omega) | skip
        refine St_slEq (v := .slice A4 (out.length + 1) c4) (cs' := (out ++ [(⟨0, (i : Int) + 1, w⟩ : Pk)]).flatMap kv) (n' := (out ++ [(⟨0, (i : Int) + 1, w⟩ : Pk)]).length) (by exact Has.auto) (by rw [List.flatMap_append]; rfl) (by simp) ?_
        refine St_rsMk (r := true) (n := fs.length) (cap := cf) (pre := pre3) (cs := fs.flatMap fv) (rest := rest3) (by exact Has.auto) ?_
        refine St_at (j + 1, A4, c4) ⟨hjl, ?_⟩ ⟨rfl, ?_, rfl, rfl, rfl, rfl, rfl, rfl, rfl, trivial⟩ (by rw [hout, show (out ++ [(⟨0, (i : Int) + 1, w⟩ : Pk)]).length = out.length + 1 by simp]; exact Split.auto)
        · dsimp only; omega
        · rw [hout, List.length_append]; rfl
      · rw [if_neg he, List.append_nil] at hst
        have hout : pksTo s i ++ puts (fs.take (j + 1)) 0 ((i : Int) + 1) s.c.mtu = pksTo s i ++ puts (fs.take j) 0 ((i : Int) + 1) s.c.mtu := by rw [hst]
        generalize (fput f s.c.mtu).1 = w at *
        generalize (fput f s.c.mtu).2 = er at *
        generalize pksTo s i ++ puts (fs.take j) 0 ((i : Int) + 1) s.c.mtu = out at *
        repeat' (first | (apply St_regionQ; kernel_rfl; kernel_rfl) | (apply Sq_call (hf := hput); exact rfl; exact rfl; exact Split.auto; (rintro _ _ ⟨rfl, rfl⟩; exact ⟨rfl, _, by exact Split.auto⟩)) | (apply St_rd; exact rfl; (first | (apply Rd_loadA tb; exact rfl; exact rfl; exact rfl; exact Has.auto; exact hroom2; exact hld2))) | (apply Sq_rd; exact rfl; (first | (apply Rd_loadA tb; exact rfl; exact rfl; exact rfl; exact Has.auto; exact hroom2; exact hld2))) | (refine St_step ?_; (try with_reducible intro _)) | (refine St_step2 ?_ ?_ <;> (intro hb; (try simp only [beq_iff_eq, bne_iff_ne, decide_eq_true_eq, decide_eq_false_iff_not, Bool.not_eq_true', Bool.not_eq_false', beq_eq_false_iff_ne, bne_eq_false_iff_eq, ne_eq, Int.not_lt, Int.not_le, gt_iff_lt, ge_iff_le] at hb); (try (first | exact Bool.noConfusion hb | exact absurd trivial hb | (exfalso; omega))))) | fail)
        all_goals first | (exfalso; omega) | skip
        refine St_rsMk (r := true) (n := fs.length) (cap := cf) (pre := pre3) (cs := fs.flatMap fv) (rest := rest3) (by exact Has.auto) ?_
        refine St_at (j + 1, A2, c2') ⟨hjl, ?_⟩ ⟨rfl, ?_, rfl, rfl, rfl, rfl, rfl, rfl, rfl, trivial⟩ (by rw [hout]; exact Split.auto)
        · dsimp only; omega
        · rw [hout]; rfl
    · have hjj : j = fs.length := by omega
      subst hjj
      rw [List.take_length]
      rw [← hnext]
      repeat' (first | (refine St_step ?_; (try with_reducible intro _)) | (refine St_step2 ?_ ?_ <;> (intro hb; (try simp only [beq_iff_eq, bne_iff_ne, decide_eq_true_eq, decide_eq_false_iff_not, Bool.not_eq_true', Bool.not_eq_false', beq_eq_false_iff_ne, bne_eq_false_iff_eq, ne_eq, Int.not_lt, Int.not_le, gt_iff_lt, ge_iff_le] at hb); (try (first | exact Bool.noConfusion hb | exact absurd trivial hb | (exfalso; omega))))) | fail)
      all_goals first | (exfalso; omega) | skip
      refine St_pePut (ids := ids) (ks := ksTo s i) (k := k') hx (by rw [ksTo_len]; exact hil) (by exact Split.auto) ?_
      rw [hks]
      refine St_slMk (sz := 2) (n := s.ks.length) (cap := c) (pre := pre) (cs := ids.flatMap idv) (rest := rest) (by exact Has.auto) hcap hrest hlen ?_
      refine St_at (i + 1, A2, c2') ⟨⟨hil, ?_⟩, ?_⟩ ⟨rfl, rfl, rfl, rfl, rfl, trivial⟩ (by exact Split.auto)
      · have := puts_len fs 0 ((i : Int) + 1) s.c.mtu
        dsimp only
        rw [hnext, List.length_append]; omega
      · dsimp only; omega
  · have hii : i = s.ks.length := by omega
    subst hii
    rw [pksTo_all, ksTo_all]
    repeat' (first | (refine St_step ?_; (try with_reducible intro _)) | (refine St_step2 ?_ ?_ <;> (intro hb; (try simp only [beq_iff_eq, bne_iff_ne, decide_eq_true_eq, decide_eq_false_iff_not, Bool.not_eq_true', Bool.not_eq_false', beq_eq_false_iff_ne, bne_eq_false_iff_eq, ne_eq, Int.not_lt, Int.not_le, gt_iff_lt, ge_iff_le] at hb); (try (first | exact Bool.noConfusion hb | exact absurd trivial hb | (exfalso; omega))))) | fail)
    refine St_slShare (E := 77) (sz := 3) (n := (sqPks s).length) (v := .slice A1 (sqPks s).length c1') (by exact Has.auto) ?_
    have hln : (sqTick s).ks.length = s.ks.length := by simp [sqTick]
    refine St_sqMk (b := b) (lb := lb) (s := sqTick s) (v := .slice A s.ks.length c) (ids := ids) (by rw [hln]; exact hz) (by rw [hln]; exact Split.auto) ?_
    exact St_ret1 (.inl rfl) rfl rfl ⟨⟨_, _, rfl⟩, rfl⟩ (by exact Split.auto)
end Go.Proofs.YtfjnacakpeommaaGreatDoor
/- What holds of a sequencer, whatever comes; chapbookref16.May, chapbookref07.Bytes of what deletes; chapbooklaw16's config and awake. -/
namespace Go.Proofs.YtfjnacakpeommaaGreatDoor
open Go SL Pl
set_option autoImplicit false
set_option maxRecDepth 100000
set_option linter.unusedSimpArgs false
set_option linter.unusedVariables false
attribute [local irreducible] St Sq Exec QExec wpList wpQuiet Code.wp Exit.then Exit.inBlock bodyPost At Rd wpOp Wa QK GB
/-- Of a client's link: what waits is short, its window is the configuration's. -/
structure psOk (c : Cfg) (k : Lk) : Prop where
  d : ∀ d ∈ k.sd.ps, d.length ≤ 1000
  w : k.win = c.window
  s : k.sd.win = c.window.toNat
structure sqIn (s : Sqr) : Prop where
  ok : sqOk s
  ps : ∀ k ∈ s.ks, psOk s.c k.1
theorem sdNew_win {c : Cfg} (h : cfgOk c) (l : Int) : (sdNew c.window l).win = c.window.toNat := by
  obtain ⟨_, ⟨h1, h2⟩, _⟩ := h
  show (clampN c.window 1 16).toNat = _
  unfold clampN; rw [if_neg (by omega), if_neg (by omega)]
theorem sqIn_new {c : Cfg} (h : cfgOk c) : sqIn (sqNew c) := by
  refine ⟨⟨h, by simp [sqNew], fun k hk => ?_, lgOk_nil _⟩, fun k hk => ?_⟩
  · have := List.eq_of_mem_replicate hk
    subst this
    exact ⟨lkOk_new _ _ _ _, Nat.zero_le _, rfl, rfl⟩
  · have := List.eq_of_mem_replicate hk
    subst this
    exact ⟨fun d hd => (by cases hd), rfl, sdNew_win h _⟩
theorem rput_len (r : Ro) : (rput r).1.length ≤ 1000 := by
  unfold rput
  split
  · simp
  · rename_i h
    exact rbytes_len (by omega)
theorem sdOffer_in {s : Sd} (h : ∀ d ∈ s.ps, d.length ≤ 1000) {d : List UInt8} (hd : d.length ≤ 1000) : (∀ y ∈ (sdOffer s d).1.ps, y.length ≤ 1000) ∧ (sdOffer s d).1.win = s.win := by
  unfold sdOffer
  split
  · exact ⟨h, rfl⟩
  · split
    · exact ⟨h, rfl⟩
    · refine ⟨fun x hx => ?_, rfl⟩
      rcases List.mem_append.1 hx with q | q
      · exact h x q
      · have e := List.mem_singleton.1 q
        exact e ▸ hd
theorem pumpN_in (l : List Ro) : ∀ (n i : Nat) {s : Sd}, (∀ d ∈ s.ps, d.length ≤ 1000) → (∀ d ∈ (pumpN l n i s).2.ps, d.length ≤ 1000) ∧ (pumpN l n i s).2.win = s.win
  | 0, _, _, h => ⟨h, rfl⟩
  | n + 1, i, s, h => by
    unfold pumpN
    split
    · exact ⟨h, rfl⟩
    · rename_i r _
      split
      · exact ⟨h, rfl⟩
      · have h1 := sdOffer_in h (rput_len r)
        have h2 := pumpN_in l n (i + 1) (s := (sdOffer s (rput r).1).1) h1.1
        exact ⟨h2.1, h2.2.trans h1.2⟩
theorem lkHear_in {c : Cfg} (hc : cfgOk c) {k : Lk} (h : psOk c k) (hp : k.pas = true) (f : Fr) : psOk c (lkHear k f) ∧ (lkHear k f).pas = true := by
  by_cases hst : f.ep < k.ep ∨ ((k.ep : Int) < f.ep ∧ k.pas = false)
  · rw [lkHear_stay hst]; exact ⟨h, hp⟩
  · rw [lkHear_go hst]
    have h1 : psOk c (if lkAnew k f = true then lkFresh k f.ep else k) ∧ (if lkAnew k f = true then lkFresh k f.ep else k).pas = true := by
      split
      · refine ⟨⟨fun d hd => (by cases hd), h.w, ?_⟩, hp⟩
        show (sdNew k.win _).win = _
        rw [h.w]; exact sdNew_win hc _
      · exact ⟨h, hp⟩
    generalize (if lkAnew k f = true then lkFresh k f.ep else k) = k1 at *
    exact ⟨⟨fun d hd => h1.1.d d (List.mem_of_mem_drop hd), h1.1.w, h1.1.s⟩, h1.2⟩
theorem fold_ok {c : Cfg} {src : Int} : ∀ (q : List (List UInt8)) {l : List Ro}, lgOk c.clients.toNat l → lgOk c.clients.toNat (q.foldl (takeOne c src) l)
  | [], _, h => h
  | d :: q, l, h => fold_ok q (takeOne_ok h d)
theorem takeOne_grows (c : Cfg) (src : Int) (l : List Ro) (d : List UInt8) : ∃ x, takeOne c src l d = l ++ x ∧ ∀ r ∈ x, r.origin = src := by
  unfold takeOne
  split
  · rename_i h
    unfold lgAdd
    split
    · exact ⟨[], by simp, fun r hr => (by cases hr)⟩
    · exact ⟨[(rget d).1], rfl, fun r hr => by rw [List.mem_singleton.1 hr]; exact h.2.1⟩
  · exact ⟨[], by simp, fun r hr => (by cases hr)⟩
theorem fold_grows (c : Cfg) (src : Int) : ∀ (q : List (List UInt8)) (l : List Ro), ∃ x, q.foldl (takeOne c src) l = l ++ x ∧ x.length ≤ q.length ∧ ∀ r ∈ x, r.origin = src
  | [], l => ⟨[], by simp, Nat.le_refl _, fun r hr => (by cases hr)⟩
  | d :: q, l => by
    obtain ⟨x, hx, hs⟩ := takeOne_grows c src l d
    have hlen := takeOne_len c src l d
    obtain ⟨y, hy, hn, hs2⟩ := fold_grows c src q (takeOne c src l d)
    refine ⟨x ++ y, ?_, ?_, fun r hr => ?_⟩
    · rw [List.foldl_cons, hy, hx, List.append_assoc]
    · rw [hx] at hlen; simp at hlen ⊢; omega
    · rcases List.mem_append.1 hr with q | q
      · exact hs r q
      · exact hs2 r q
theorem lkHear_qlen {k : Lk} {f : Fr} (h : k.rc.q = []) : (lkHear k f).rc.q.length ≤ 1 := by
  by_cases hst : f.ep < k.ep ∨ ((k.ep : Int) < f.ep ∧ k.pas = false)
  · rw [lkHear_stay hst, h]; simp
  · rw [lkHear_go hst]
    have h1 : (if lkAnew k f = true then lkFresh k f.ep else k).rc.q = [] := by
      split
      · rfl
      · exact h
    generalize (if lkAnew k f = true then lkFresh k f.ep else k) = k1 at *
    dsimp only
    split
    · rw [h1]; simp
    · unfold rcHear
      split
      · rw [h1]; simp
      · rw [h1]; simp
theorem sqErr_src {s : Sqr} {src : Int} {b : List UInt8} (h : sqErr s src b = 0) : (1 ≤ src ∧ src ≤ s.c.clients) ∧ (fget b).2 = 0 := by
  unfold sqErr at h
  split at h
  · cases h
  · rename_i h1
    split at h
    · rename_i h2; exact absurd h h2
    · exact ⟨by omega, by omega⟩
theorem sqHear_grows {s : Sqr} (hs : sqIn s) (src : Int) (b : List UInt8) : (sqHear s src b).c = s.c ∧ ∃ x, (sqHear s src b).l = s.l ++ x ∧ x.length ≤ 1 ∧ ∀ r ∈ x, r.origin = src := by
  unfold sqHear
  split
  · exact ⟨rfl, [], by simp, by simp, fun r hr => (by cases hr)⟩
  · split
    · exact ⟨rfl, [], by simp, by simp, fun r hr => (by cases hr)⟩
    · rename_i k hk
      obtain ⟨x, h1, h2, h3⟩ := fold_grows s.c src (lkHear k.1 (fget b).1).rc.q s.l
      have := lkHear_qlen (f := (fget b).1) (hs.ok.ks k (List.mem_of_getElem? hk)).2.2.1
      exact ⟨rfl, x, h1, by omega, h3⟩
theorem sqHear_len {s : Sqr} (hs : sqIn s) (src : Int) (b : List UInt8) : (sqHear s src b).l.length ≤ s.l.length + 1 := by
  obtain ⟨_, x, h1, h2, _⟩ := sqHear_grows hs src b
  rw [h1, List.length_append]; omega
theorem sqIn_hear {s : Sqr} (hs : sqIn s) (src : Int) (b : List UInt8) : sqIn (sqHear s src b) := by
  obtain ⟨hcc, xx, hl, _⟩ := sqHear_grows hs src b
  by_cases he : sqErr s src b = 0
  case neg => unfold sqHear; rw [if_pos he]; exact hs
  case pos =>
    cases hk : s.ks[(src - 1).toNat]? with
    | none => unfold sqHear; rw [if_neg (fun h => h he), hk]; exact hs
    | some k =>
      unfold sqHear at hl ⊢
      rw [if_neg (fun h => h he), hk] at hl ⊢
      have hkm := hs.ok.ks k (List.mem_of_getElem? hk)
      have hpm := hs.ps k (List.mem_of_getElem? hk)
      have hgi := (fget_frIn (sqErr_src he).2).1
      have h1 := lkOk_hear hkm.1 hgi
      have h2 := lkHear_in hs.ok.c hpm hkm.2.2.2 (fget b).1
      dsimp only at *
      refine ⟨⟨hs.ok.c, ?_, fun k' hk' => ?_, fold_ok _ hs.ok.l⟩, fun k' hk' => ?_⟩
      · show (List.set _ _ _).length = _
        rw [List.length_set]; exact hs.ok.n
      · rcases List.mem_or_eq_of_mem_set hk' with q | q
        · have := hs.ok.ks k' q
          refine ⟨this.1, ?_, this.2.2⟩
          show _ ≤ (List.foldl (takeOne s.c src) s.l (lkHear k.1 (fget b).1).rc.q).length
          rw [hl, List.length_append]; omega
        · subst q
          refine ⟨⟨h1.sd, ⟨h1.rc.r1, h1.rc.rr, Nat.zero_le _, h1.rc.a⟩, h1.ep⟩, ?_, rfl, h2.2⟩
          show _ ≤ (List.foldl (takeOne s.c src) s.l (lkHear k.1 (fget b).1).rc.q).length
          rw [hl, List.length_append]
          have := hkm.2.1
          dsimp only
          split <;> omega
      · rcases List.mem_or_eq_of_mem_set hk' with q | q
        · exact hs.ps k' q
        · subst q
          exact ⟨h2.1.d, h2.1.w, h2.1.s⟩
theorem sqIn_tick {s : Sqr} (hs : sqIn s) : sqIn (sqTick s) := by
  refine ⟨⟨hs.ok.c, by simp [sqTick]; exact hs.ok.n, fun k hk => ?_, hs.ok.l⟩, fun k hk => ?_⟩
  · obtain ⟨x, hx, rfl⟩ := List.mem_map.1 hk
    have h := hs.ok.ks x hx
    refine ⟨⟨pumpN_ok _ _ _ h.1.sd, h.1.rc, h.1.ep⟩, ?_, h.2.2⟩
    have := (pumpN_le s.l (s.l.length - x.2) x.2 x.1.sd).2
    show (pumpN s.l (s.l.length - x.2) x.2 x.1.sd).1 ≤ s.l.length
    omega
  · obtain ⟨x, hx, rfl⟩ := List.mem_map.1 hk
    have h := hs.ps x hx
    have h1 := pumpN_in s.l (s.l.length - x.2) x.2 h.d
    exact ⟨h1.1, h.w, h1.2.trans h.s⟩
theorem frames1_data (ep ack : Nat) : ∀ (l : List (List UInt8)) (n : Nat), ∀ f ∈ frames1 ep ack n l, f.data ∈ l
  | [], _, f, hf => by cases hf
  | d :: l, n, f, hf => by
    rw [frames1] at hf
    rcases List.mem_cons.1 hf with rfl | h
    · exact List.mem_cons_self
    · exact List.mem_cons_of_mem _ (frames1_data ep ack l (n + 1) f h)
theorem lkFrames_data {k : Lk} {n : Nat} (h : ∀ d ∈ k.sd.ps, d.length ≤ n) : ∀ f ∈ lkFrames k, f.data.length ≤ n := by
  intro f hf
  unfold lkFrames at hf
  split at hf
  · cases hf
  · split at hf
    · rw [List.mem_singleton.1 hf]; exact Nat.zero_le _
    · exact h _ (frames1_data _ _ _ _ f hf)
/-- Hear and Tick, of a sequencer of which all this holds. -/
theorem sHear_in (b : Nat) (s : Sqr) (src : Int) (bs : List UInt8) (hs : sqIn s) (hb0 : bs.length ≤ 100000) (hl : s.l.length ≤ 900000) :
    Sp Tryz.prog 12 [.pointer (some ⟨b, 0, none⟩), .int .i64 src, str bs] [SqP b s, GB] (fun w M => w = nat .i64 (sqErr s src bs) ∧ M = [SqP b (sqHear s src bs), GB]) :=
  sHear_sp b s src bs hs.ok hb0 hl
theorem sTick_in (b : Nat) (s : Sqr) (hs : sqIn s) (hl : s.l.length ≤ 900000) :
    Sp Tryz.prog 15 [.pointer (some ⟨b, 0, none⟩)] [SqP b s, GB] (fun w M => (∃ A c, w = .slice A (sqPks s).length c) ∧ M = [RS true w (sqPks s).length ((sqPks s).flatMap kv), SqP b (sqTick s), GB]) :=
  sTick_sp b s hs.ok hl fun i k hk f hf => by
    have h := (sqIn_tick hs).ps (tick1 s k) (List.mem_map_of_mem (List.mem_of_getElem? hk))
    have := lkFrames_data h.d f hf
    omega
/-! chapbookref16.May, chapbookref06.Bytes and chapbookref07.Bytes of what deletes -/
theorem may16_sp (c : Cfg) : Sp Tryz.prog 9 [.agg (cfgC c).toArray] [] (fun v M => v = .bool (decide (cfgOk c)) ∧ M = []) := by
  refine Sp.intro (P := Tryz.prog) (Tryz.func9) rfl Tryz.ntmps9 (by decide) rfl ?_
  intro ρ F
  obtain ⟨a1, a2, a3, a4, a5, a6⟩ := c
  by_cases hc : cfgOk ⟨a1, a2, a3, a4, a5, a6⟩
  · rw [decide_eq_true hc]
    unfold cfgOk at hc
    dsimp only at hc
    repeat' (first | (refine St_step ?_; (try with_reducible intro _)) | (refine St_step2 ?_ ?_ <;> (intro hb; (try simp only [beq_iff_eq, bne_iff_ne, decide_eq_true_eq, decide_eq_false_iff_not, Bool.not_eq_true', Bool.not_eq_false', beq_eq_false_iff_ne, bne_eq_false_iff_eq, ne_eq, Int.not_lt, Int.not_le, gt_iff_lt, ge_iff_le] at hb); (try (first | exact Bool.noConfusion hb | exact absurd trivial hb | (exfalso; omega))))) | fail)
    all_goals first | (exfalso; omega) | (first | contradiction | (exfalso; omega) | (exact St_ret1 (.inl rfl) rfl rfl ⟨rfl, rfl⟩ (by exact Split.auto)) | (exact St_ret2 (.inl rfl) rfl rfl rfl ⟨rfl, rfl⟩ (by exact Split.auto)) | (exact St_ret3 (.inl rfl) rfl rfl rfl rfl ⟨rfl, rfl⟩ (by exact Split.auto))) | (refine St_ret1 (.inl rfl) rfl rfl ⟨?_, rfl⟩ (by exact Split.auto); congr 1; first | (rw [decide_eq_true_eq]; dsimp only; omega) | (rw [decide_eq_false_iff_not]; dsimp only; omega))
  · rw [decide_eq_false hc]
    unfold cfgOk at hc
    dsimp only at hc
    repeat' (first | (refine St_step ?_; (try with_reducible intro _)) | (refine St_step2 ?_ ?_ <;> (intro hb; (try simp only [beq_iff_eq, bne_iff_ne, decide_eq_true_eq, decide_eq_false_iff_not, Bool.not_eq_true', Bool.not_eq_false', beq_eq_false_iff_ne, bne_eq_false_iff_eq, ne_eq, Int.not_lt, Int.not_le, gt_iff_lt, ge_iff_le] at hb); (try (first | exact Bool.noConfusion hb | exact absurd trivial hb | (exfalso; omega))))) | fail)
    all_goals first | (exfalso; omega) | (first | contradiction | (exfalso; omega) | (exact St_ret1 (.inl rfl) rfl rfl ⟨rfl, rfl⟩ (by exact Split.auto)) | (exact St_ret2 (.inl rfl) rfl rfl rfl ⟨rfl, rfl⟩ (by exact Split.auto)) | (exact St_ret3 (.inl rfl) rfl rfl rfl rfl ⟨rfl, rfl⟩ (by exact Split.auto))) | (refine St_ret1 (.inl rfl) rfl rfl ⟨?_, rfl⟩ (by exact Split.auto); congr 1; first | (rw [decide_eq_true_eq]; dsimp only; omega) | (rw [decide_eq_false_iff_not]; dsimp only; omega))
theorem bytes06_sp (u : Up) (hk : u.kind = 5) (hl : u.key.length ≤ 1000) : Sp Tryz.prog 63 [.agg (uv u).toArray] [] (fun v M => v = str (ubytes u) ∧ M = []) := by
  refine Sp.intro (P := Tryz.prog) (Tryz.func63) rfl Tryz.ntmps63 (by decide) rfl ?_
  intro ρ F
  obtain ⟨key, kind, n, s⟩ := u
  have hk : kind = ((5 : Nat) : Int) := hk
  subst hk
  have hl : key.length ≤ 1000 := hl
  have e : ubytes ⟨key, ((5 : Nat) : Int), n, s⟩ = enc 5 ++ (enc key.length ++ key) := by
    show enc 5 ++ ((enc key.length ++ key) ++ []) = _
    rw [List.append_nil]
  rw [e]
  have w1 := refNumber_sp 5 (by decide)
  have w2 := refText_sp key (by omega)
  have l1 := enc_len 5
  have l2 := enc_len key.length
  generalize hq4 : enc key.length ++ key = q4 at *
  have l5 : q4.length ≤ 1008 := by rw [← hq4]; simp; omega
  generalize enc 5 = q5 at *
  repeat' (first | (apply St_call (hf := w1); exact rfl; exact rfl; exact Split.auto; rintro _ _ ⟨rfl, rfl⟩) | (apply St_call (hf := w2); exact rfl; exact rfl; exact Split.auto; rintro _ _ ⟨rfl, rfl⟩) | (refine St_step ?_; (try with_reducible intro _)) | (refine St_step2 ?_ ?_ <;> (intro hb; (try simp only [beq_iff_eq, bne_iff_ne, decide_eq_true_eq, decide_eq_false_iff_not, Bool.not_eq_true', Bool.not_eq_false', beq_eq_false_iff_ne, bne_eq_false_iff_eq, ne_eq, Int.not_lt, Int.not_le, gt_iff_lt, ge_iff_le] at hb); (try (first | exact Bool.noConfusion hb | exact absurd trivial hb | (exfalso; omega))))) | fail)
  all_goals first | (exfalso; omega) | (first | contradiction | (exfalso; omega) | (exact St_ret1 (.inl rfl) rfl rfl ⟨rfl, rfl⟩ (by exact Split.auto)) | (exact St_ret2 (.inl rfl) rfl rfl rfl ⟨rfl, rfl⟩ (by exact Split.auto)) | (exact St_ret3 (.inl rfl) rfl rfl rfl rfl ⟨rfl, rfl⟩ (by exact Split.auto)))
theorem flat_len {α β : Type} {f : α → List β} (n : Nat) : ∀ (l : List α), (∀ x ∈ l, (f x).length ≤ n) → (l.flatMap f).length ≤ n * l.length
  | [], _ => Nat.zero_le _
  | x :: l, h => by
    have h1 := h x List.mem_cons_self
    have h2 := flat_len n l fun y hy => h y (List.mem_cons_of_mem _ hy)
    rw [List.flatMap_cons, List.length_append, List.length_cons, Nat.mul_succ]
    omega
theorem bytes07_sp (q : Bool) (r : Ro) (v : Value) (a b : Nat) (ha : r.origin = a) (hb : r.number = b) (ha1 : a < 4611686018427387904) (hb1 : b < 4611686018427387904) (hl : r.ups.length ≤ 1000) (hu : ∀ u ∈ r.ups, u.kind = 5 ∧ u.key.length ≤ 16) :
    Sp Tryz.prog 25 [.agg (rv r v).toArray] [UL q v r.ups] (fun w M => w = str (rbytes r) ∧ M = [UL q v r.ups]) := by
  refine Sp.intro (P := Tryz.prog) (Tryz.func25) rfl Tryz.ntmps25 (by decide) rfl ?_
  intro ρ F
  refine St_rsIs (by exact Has.auto) ?_
  rintro A c rfl
  obtain ⟨o, n, l⟩ := r
  have ha : o = a := ha
  have hb : n = b := hb
  have hl : l.length ≤ 1000 := hl
  have hu : ∀ u ∈ l, u.kind = 5 ∧ u.key.length ≤ 16 := hu
  subst ha hb
  have w1 := refNumber_sp a ha1
  have w2 := refNumber_sp b hb1
  have w3 := refNumber_sp l.length (by omega)
  have l1 := enc_len a; have l2 := enc_len b; have l3 := enc_len l.length
  have e : rbytes ⟨a, b, l⟩ = (enc a ++ enc b ++ enc l.length) ++ l.flatMap ubytes := rfl
  rw [e]
  have hlen : ∀ x ∈ l, (ubytes x).length ≤ 100 := by
    intro x hx
    obtain ⟨g1, g2⟩ := hu x hx
    have m1 := enc_len x.kind.toNat; have m2 := enc_len x.key.length
    have : utail x = [] := by unfold utail; rw [if_neg (by omega), if_neg (by omega)]
    simp only [ubytes, this, List.length_append, List.length_nil]
    omega
  have lh : (enc a ++ enc b ++ enc l.length).length ≤ 24 := by simp only [List.length_append]; omega
  repeat' (first | (apply St_call (hf := w1); exact rfl; exact rfl; exact Split.auto; rintro _ _ ⟨rfl, rfl⟩) | (apply St_call (hf := w2); exact rfl; exact rfl; exact Split.auto; rintro _ _ ⟨rfl, rfl⟩) | (apply St_call (hf := w3); exact rfl; exact rfl; exact Split.auto; rintro _ _ ⟨rfl, rfl⟩) | (apply St_rd; exact rfl; (first | (apply Rd_cat; exact rfl; exact rfl; (simp only [List.length_append]; omega)))) | (apply Sq_rd; exact rfl; (first | (apply Rd_cat; exact rfl; exact rfl; (simp only [List.length_append]; omega)))) | (refine St_step ?_; (try with_reducible intro _)) | (refine St_step2 ?_ ?_ <;> (intro hb; (try simp only [beq_iff_eq, bne_iff_ne, decide_eq_true_eq, decide_eq_false_iff_not, Bool.not_eq_true', Bool.not_eq_false', beq_eq_false_iff_ne, bne_eq_false_iff_eq, ne_eq, Int.not_lt, Int.not_le, gt_iff_lt, ge_iff_le] at hb); (try (first | exact Bool.noConfusion hb | exact absurd trivial hb | (exfalso; omega))))) | fail)
  rename_i xb
  generalize enc a ++ enc b ++ enc l.length = hd at *
  refine St_loop (fun (i : Nat) => i ≤ l.length) (fun i => [(1, .pointer (some ⟨xb, 0, none⟩)), (9, str (hd ++ (l.take i).flatMap ubytes)), (10, nat .i64 i)]) (fun i => [cel false xb 64 (rv ⟨a, b, l⟩ (.slice A l.length c)), UL q (.slice A l.length c) l, big F]) (fun i => l.length - i) 0 (Nat.zero_le _) ⟨rfl, ?_, rfl, trivial⟩ (by exact Split.auto) ?_
  · rw [List.take_zero, List.flatMap_nil, List.append_nil]; rfl
  intro i hi
  have hbl : ((l.take i).flatMap ubytes).length ≤ 100 * (l.take i).length := flat_len _ _ fun x hx => hlen x (List.mem_of_mem_take hx)
  have hti : (l.take i).length ≤ 1000 := by simp; omega
  by_cases hil : i < l.length
  · obtain ⟨u, hux⟩ : ∃ u, l[i]? = some u := ⟨_, List.getElem?_eq_getElem hil⟩
    refine St_rsOpen (by exact Has.auto) (by omega) ?_
    rintro b2 T cap pre rest hv
    injection hv with hv1 hv2 hv3
    subst hv1 hv3
    have hld := flat_at uv_len l i u pre rest hux
    have hroom := flat_room uv_len l i pre rest hil
    have hub := hlen u (List.mem_of_getElem? hux)
    obtain ⟨g1, g2⟩ := hu u (List.mem_of_getElem? hux)
    have hw := bytes06_sp u g1 (by omega)
    have hft : hd ++ (l.take (i + 1)).flatMap ubytes = hd ++ (l.take i).flatMap ubytes ++ ubytes u := by rw [flat_take hux, List.append_assoc]
    repeat' (first | (apply St_call (hf := hw); exact rfl; exact rfl; exact Split.auto; rintro _ _ ⟨rfl, rfl⟩) | (apply St_rd; exact rfl; (first | (apply Rd_loadA tb; exact rfl; exact rfl; exact rfl; exact Has.auto; exact hroom; exact hld) | (apply Rd_cat; exact rfl; exact rfl; (simp only [List.length_append]; omega)))) | (apply Sq_rd; exact rfl; (first | (apply Rd_loadA tb; exact rfl; exact rfl; exact rfl; exact Has.auto; exact hroom; exact hld) | (apply Rd_cat; exact rfl; exact rfl; (simp only [List.length_append]; omega)))) | (refine St_step ?_; (try with_reducible intro _)) | (refine St_step2 ?_ ?_ <;> (intro hb; (try simp only [beq_iff_eq, bne_iff_ne, decide_eq_true_eq, decide_eq_false_iff_not, Bool.not_eq_true', Bool.not_eq_false', beq_eq_false_iff_ne, bne_eq_false_iff_eq, ne_eq, Int.not_lt, Int.not_le, gt_iff_lt, ge_iff_le] at hb); (try (first | exact Bool.noConfusion hb | exact absurd trivial hb | (exfalso; omega))))) | fail)
    refine St_rsMk (n := l.length) (cap := c) (cs := l.flatMap uv) (by exact Has.auto) ?_
    refine St_at (i + 1) ⟨hil, by omega⟩ ⟨rfl, ?_, rfl, trivial⟩ (by exact Split.auto)
    rw [hft]; rfl
  · have hii : i = l.length := by omega
    subst hii
    rw [List.take_length] at *
    repeat' (first | (refine St_step ?_; (try with_reducible intro _)) | (refine St_step2 ?_ ?_ <;> (intro hb; (try simp only [beq_iff_eq, bne_iff_ne, decide_eq_true_eq, decide_eq_false_iff_not, Bool.not_eq_true', Bool.not_eq_false', beq_eq_false_iff_ne, bne_eq_false_iff_eq, ne_eq, Int.not_lt, Int.not_le, gt_iff_lt, ge_iff_le] at hb); (try (first | exact Bool.noConfusion hb | exact absurd trivial hb | (exfalso; omega))))) | fail)
    all_goals (first | contradiction | (exfalso; omega) | (exact St_ret1 (.inl rfl) rfl rfl ⟨rfl, rfl⟩ (by exact Split.auto)) | (exact St_ret2 (.inl rfl) rfl rfl rfl ⟨rfl, rfl⟩ (by exact Split.auto)) | (exact St_ret3 (.inl rfl) rfl rfl rfl rfl ⟨rfl, rfl⟩ (by exact Split.auto)))
/-! chapbooklaw16.config and awake -/
def c0 : Cfg := ⟨2, 2, 4, 4, 100, 100⟩
def awU : Up := ⟨[107], 5, 0, []⟩
def awR : Ro := ⟨1, 1, [awU]⟩
def awF : Fr := ⟨1, 1, 0, rbytes awR⟩
def awB : List UInt8 := fbytes awF
def aw1s : Sqr := sqTick (sqNew c0)
def aw2s : Sqr := sqHear aw1s 1 awB
def aw3s : Sqr := sqHear aw2s 3 awB
def aw4s : Sqr := sqHear aw3s 2 [120]
def aw5s : Sqr := sqTick aw4s
theorem c0_ok : cfgOk c0 := by decide
theorem c00_no : ¬ cfgOk ⟨0, 0, 0, 0, 0, 0⟩ := by decide
theorem aw0i : sqIn (sqNew c0) := sqIn_new c0_ok
theorem aw1i : sqIn aw1s := sqIn_tick aw0i
theorem aw2i : sqIn aw2s := sqIn_hear aw1i _ _
theorem aw3i : sqIn aw3s := sqIn_hear aw2i _ _
theorem aw4i : sqIn aw4s := sqIn_hear aw3i _ _
theorem aw5i : sqIn aw5s := sqIn_tick aw4i
theorem aw2l : aw2s.l.length ≤ 1 := sqHear_len aw1i _ _
theorem aw3l : aw3s.l.length ≤ 2 := by have h1 := aw2l; have h2 := sqHear_len aw2i 3 awB; unfold aw3s; omega
theorem aw4l : aw4s.l.length ≤ 3 := by have h1 := aw3l; have h2 := sqHear_len aw3i 2 [120]; unfold aw4s; omega
theorem awBl : awB.length = 14 := by kernel_rfl
theorem awe1 : (sqPks (sqNew c0)).length = 0 := by kernel_rfl
theorem awe2 : sqErr aw1s 1 awB = 0 := by kernel_rfl
theorem awe3 : sqErr aw2s 3 awB = 11 := by kernel_rfl
theorem awe4 : sqErr aw3s 2 [120] = 6 := by kernel_rfl
theorem awe5 : (sqPks aw4s).length = 1 := by kernel_rfl
theorem awe6 : aw5s.l.length = 1 := by kernel_rfl
theorem awe7 : sqFed aw5s 1 = 1 := by kernel_rfl
theorem awe8 : sqUn aw5s 1 = 1 := by kernel_rfl
theorem awe9 : sqFed aw5s 2 = 1 := by kernel_rfl
theorem awe10 : (sqPks aw4s).map Pk.dst = [1] := by kernel_rfl
theorem config_sp : Sp Tryz.prog 23 [] [] (fun v M => v = .agg (cfgC c0).toArray ∧ M = []) := by
  refine Sp.intro (P := Tryz.prog) (Tryz.func23) rfl Tryz.ntmps23 (by decide) rfl ?_
  intro ρ F
  repeat' (first | (refine St_step ?_; (try with_reducible intro _)) | (refine St_step2 ?_ ?_ <;> (intro hb; (try simp only [beq_iff_eq, bne_iff_ne, decide_eq_true_eq, decide_eq_false_iff_not, Bool.not_eq_true', Bool.not_eq_false', beq_eq_false_iff_ne, bne_eq_false_iff_eq, ne_eq, Int.not_lt, Int.not_le, gt_iff_lt, ge_iff_le] at hb); (try (first | exact Bool.noConfusion hb | exact absurd trivial hb | (exfalso; omega))))) | fail)
  exact St_retC tb (.inl rfl) rfl rfl rfl rfl (by exact Has.auto) rfl ⟨rfl, rfl⟩ (by exact Split.auto)
theorem sNewOk_sp {c : Cfg} (hc : cfgOk c) : Sp Tryz.prog 10 [.agg (cfgC c).toArray] [] (fun w M => ∃ b, w = .tuple [.pointer (some ⟨b, 0, none⟩), nat .i64 0].toArray ∧ M = [SqP b (sqNew c)]) :=
  Sp.conv (sNew_sp c) fun v M h => by
    rcases h with ⟨_, h⟩ | ⟨h, _⟩
    · exact ⟨M, h, fun _ _ _ H => H⟩
    · exact absurd hc h
theorem sNewNo_sp {c : Cfg} (hc : ¬ cfgOk c) : Sp Tryz.prog 10 [.agg (cfgC c).toArray] [] (fun w M => w = .tuple [.pointer none, nat .i64 1].toArray ∧ M = []) :=
  Sp.conv (sNew_sp c) fun v M h => by
    rcases h with ⟨h, _⟩ | ⟨_, h⟩
    · exact absurd h hc
    · exact ⟨M, h, fun _ _ _ H => H⟩
attribute [local irreducible] LkP LgP SqP PeP SdP RcP RdP
set_option maxHeartbeats 4000000 in
theorem awake_sp : Sp Tryz.prog 7 [] [GB] (fun v M => v = .bool true ∧ M = [GB]) := by
  refine Sp.intro (P := Tryz.prog) (Tryz.func7) rfl Tryz.ntmps7 (by decide) rfl ?_
  intro ρ F
  have k1 := sNewOk_sp c0_ok
  have k2 := sNewNo_sp c00_no
  repeat' (first | (apply St_call (hf := config_sp); exact rfl; exact rfl; exact Split.auto; rintro _ _ ⟨rfl, rfl⟩) | (apply St_call (hf := k1); exact rfl; exact rfl; exact Split.auto; rintro _ _ ⟨sb, rfl, rfl⟩) | (apply St_call (hf := k2); exact rfl; exact rfl; exact Split.auto; rintro _ _ ⟨rfl, rfl⟩) | (apply St_rd; exact rfl; (first | (apply Rd_ptrEqNil' tb; exact rfl; exact rfl; exact rfl))) | (apply Sq_rd; exact rfl; (first | (apply Rd_ptrEqNil' tb; exact rfl; exact rfl; exact rfl))) | (refine St_step ?_; (try with_reducible intro _)) | (refine St_step2 ?_ ?_ <;> (intro hb; (try simp only [beq_iff_eq, bne_iff_ne, decide_eq_true_eq, decide_eq_false_iff_not, Bool.not_eq_true', Bool.not_eq_false', beq_eq_false_iff_ne, bne_eq_false_iff_eq, ne_eq, Int.not_lt, Int.not_le, gt_iff_lt, ge_iff_le] at hb); (try (first | exact Bool.noConfusion hb | exact absurd trivial hb | (exfalso; omega))))) | fail)
  rename_i kb xb
  refine St_rsMk (r := false) (b := kb) (n := 1) (cap := 1) (pre := []) (cs := awR.ups.flatMap uv) (rest := []) (by exact Has.auto) ?_
  have h7 := bytes07_sp false awR (.slice (some ⟨kb, 0, none⟩) 1 1) 1 1 rfl rfl (by decide) (by decide) (by decide) (by decide)
  have h9 : Sp Tryz.prog 24 [.agg (fv awF).toArray] [] (fun v M => v = str awB ∧ M = []) := refBytes_sp awF 1 1 0 rfl rfl rfl (by decide) (by decide) (by decide) (by decide)
  have t1 := sTick_in sb (sqNew c0) aw0i (Nat.zero_le _)
  have g1 := sHear_in sb aw1s 1 awB aw1i (by rw [awBl]; decide) (Nat.zero_le _)
  have g2 := sHear_in sb aw2s 3 awB aw2i (by rw [awBl]; decide) (Nat.le_trans aw2l (by decide))
  have g3 := sHear_in sb aw3s 2 [120] aw3i (by decide) (Nat.le_trans aw3l (by decide))
  have t2 := sTick_in sb aw4s aw4i (Nat.le_trans aw4l (by decide))
  obtain ⟨p, hp, hd⟩ : ∃ p, sqPks aw4s = [p] ∧ p.dst = 1 := by
    have e1 := awe5
    have e2 := awe10
    rcases h : sqPks aw4s with _ | ⟨p, _ | ⟨q, l⟩⟩
    · rw [h] at e1; cases e1
    · rw [h] at e2; exact ⟨p, rfl, by injection e2⟩
    · rw [h] at e1; simp at e1
  rw [awe1] at t1; rw [awe2] at g1; rw [awe3] at g2; rw [awe4] at g3; rw [hp] at t2
  have n1 : sqTick (sqNew c0) = aw1s := rfl
  have n2 : sqHear aw1s 1 awB = aw2s := rfl
  have n3 : sqHear aw2s 3 awB = aw3s := rfl
  have n4 : sqHear aw3s 2 [120] = aw4s := rfl
  have n5 : sqTick aw4s = aw5s := rfl
  rw [n1] at t1; rw [n2] at g1; rw [n3] at g2; rw [n4] at g3; rw [n5] at t2
  have u1 := sLog_sp sb aw5s aw5i.ok (by rw [awe6]; decide)
  have u2 := sFed_sp sb aw5s 1 aw5i.ok
  have u3 := sUn_sp sb aw5s 1 aw5i.ok
  have u4 := sFed_sp sb aw5s 2 aw5i.ok
  rw [awe6] at u1; rw [awe7] at u2; rw [awe8] at u3; rw [awe9] at u4
  generalize (sqPks (sqNew c0)).flatMap kv = pk1 at *
  generalize aw1s = s1 at *
  generalize aw2s = s2 at *
  generalize aw3s = s3 at *
  generalize aw4s = s4 at *
  generalize aw5s = s5 at *
  repeat' (first | (apply St_call (hf := h7); exact rfl; exact rfl; exact Split.auto; rintro _ _ ⟨rfl, rfl⟩) | (apply St_call (hf := h9); exact rfl; exact rfl; exact Split.auto; rintro _ _ ⟨rfl, rfl⟩) | (apply St_call (hf := t1); exact rfl; exact rfl; exact Split.auto; rintro _ _ ⟨⟨A1, c1, rfl⟩, rfl⟩) | (apply St_call (hf := g1); exact rfl; exact rfl; exact Split.auto; rintro _ _ ⟨rfl, rfl⟩) | (apply St_call (hf := g2); exact rfl; exact rfl; exact Split.auto; rintro _ _ ⟨rfl, rfl⟩) | (apply St_call (hf := g3); exact rfl; exact rfl; exact Split.auto; rintro _ _ ⟨rfl, rfl⟩) | (apply St_call (hf := t2); exact rfl; exact rfl; exact Split.auto; rintro _ _ ⟨⟨A2, c2, rfl⟩, rfl⟩) | (refine St_step ?_; (try with_reducible intro _)) | (refine St_step2 ?_ ?_ <;> (intro hb; (try simp only [beq_iff_eq, bne_iff_ne, decide_eq_true_eq, decide_eq_false_iff_not, Bool.not_eq_true', Bool.not_eq_false', beq_eq_false_iff_ne, bne_eq_false_iff_eq, ne_eq, Int.not_lt, Int.not_le, gt_iff_lt, ge_iff_le] at hb); (try (first | exact Bool.noConfusion hb | exact absurd trivial hb | (exfalso; omega))))) | fail)
  refine St_rsOpen (v := .slice A2 [p].length c2) (n := [p].length) (cs := [p].flatMap kv) (by exact Has.auto) (Nat.zero_lt_one) ?_
  rintro pb T cap pre rest hv
  injection hv with hv1 hv2 hv3
  subst hv1 hv3
  have hc1 := flat_cell kv_len pre rest (us := [p]) (i := 0) (u := p) rfl (show 1 < 3 by decide)
  have hd2 : (kv p)[1]? = some (nat .i64 1) := congrArg (fun x => some (Value.int .i64 x)) hd
  rw [hd2] at hc1
  repeat' (first | (apply St_call (hf := u1); exact rfl; exact rfl; exact Split.auto; rintro _ _ ⟨⟨A3, c3, rfl⟩, rfl⟩) | (apply St_call (hf := u2); exact rfl; exact rfl; exact Split.auto; rintro _ _ ⟨rfl, rfl⟩) | (apply St_call (hf := u3); exact rfl; exact rfl; exact Split.auto; rintro _ _ ⟨rfl, rfl⟩) | (apply St_call (hf := u4); exact rfl; exact rfl; exact Split.auto; rintro _ _ ⟨rfl, rfl⟩) | (apply St_rd; exact rfl; (first | (apply Rd_loadn tb; exact rfl; exact rfl; exact rfl; exact Has.auto; exact hc1))) | (apply Sq_rd; exact rfl; (first | (apply Rd_loadn tb; exact rfl; exact rfl; exact rfl; exact Has.auto; exact hc1))) | (refine St_step ?_; (try with_reducible intro _)) | (refine St_step2 ?_ ?_ <;> (intro hb; (try simp only [beq_iff_eq, bne_iff_ne, decide_eq_true_eq, decide_eq_false_iff_not, Bool.not_eq_true', Bool.not_eq_false', beq_eq_false_iff_ne, bne_eq_false_iff_eq, ne_eq, Int.not_lt, Int.not_le, gt_iff_lt, ge_iff_le] at hb); (try (first | exact Bool.noConfusion hb | exact absurd trivial hb | (exfalso; omega))))) | fail)
  all_goals first | (exact absurd rfl (by assumption)) | (first | contradiction | (exfalso; omega) | (exact St_ret1 (.inl rfl) rfl rfl ⟨rfl, rfl⟩ (by exact Split.auto)) | (exact St_ret2 (.inl rfl) rfl rfl rfl ⟨rfl, rfl⟩ (by exact Split.auto)) | (exact St_ret3 (.inl rfl) rfl rfl rfl rfl ⟨rfl, rfl⟩ (by exact Split.auto)))
end Go.Proofs.YtfjnacakpeommaaGreatDoor
/- The rows: what the listed variable gives, a law's call, what a law's row says behind the call. -/
namespace Go.Proofs.YtfjnacakpeommaaGreatDoor
open Go Go.ChangeShapes Go.WideShapes Go.RowKit SL
set_option autoImplicit false
set_option maxRecDepth 100000
theorem gb_of_laid {W : World} (h : laidMet Tryz.prog [("chapbook/prefix.bits", Rows.laid_chapbook_prefix_bits)] W) :
    ∃ T, W.heap[0]? = some (.cells #[.int .u64 6, .int .u64 14, .int .u64 30, .int .u64 62] T (0, 0)) := by
  obtain ⟨ps, ⟨g, t, cs, fuel, p, q, e1, e2, e3, e4, e5, e6⟩, _, hc⟩ := h
  have eg : g = 0 := (Option.some.inj ((show (Tryz.prog).globalNamed "chapbook/prefix.bits" = some 0 by kernel_rfl).symm.trans e1)).symm
  subst eg
  have et : t = 220 := (Option.some.inj ((show ((Tryz.prog).globals[0]?).map (·.type) = some 220 by kernel_rfl).symm.trans e2)).symm
  subst et
  have hT : (Tryz.prog).underlying 220 = some (.array 4 213) := by kernel_rfl
  have hE : (Tryz.prog).underlying 213 = some (.int .u64) := by kernel_rfl
  have hC : (Tryz.prog).cellsOf 213 = 1 := by kernel_rfl
  obtain ⟨xs, m, hm, hx, hl, hxl, hi⟩ := DataW.trod_array hT e4
  have hCt : (Tryz.prog).cellsOf 220 = 4 := by kernel_rfl
  rw [hCt] at hl
  have cell : ∀ (i : Nat) (n : Int), i < 4 → (xs.map (·.1))[i]? = some (.lit (.int .u64 n)) → cs[i]? = some (.int .u64 n) := fun i n h4 hn => by
    have h1 := hi i h4
    rw [hC, Nat.mul_one] at h1
    rw [List.getElem?_map] at hn
    cases hy : xs[i]? with
    | none => rw [hy] at hn; cases hn
    | some y =>
      rw [hy] at h1 hn
      obtain ⟨z, hz1, hz2, _⟩ := DataW.trod_int hE h1
      have : y.1 = .lit (.int .u64 n) := Option.some.inj hn
      rw [hz2] at this
      have hzn : z = n := by injection this with this; injection this
      subst hzn
      have h3 : (cs.toList.drop i)[0]? = some (.int .u64 z) := by
        have h4 : ((cs.toList.drop i).take 1)[0]? = some (.int .u64 z) := by rw [hz1]; rfl
        rw [List.getElem?_take_of_lt (by decide)] at h4
        exact h4
      rw [List.getElem?_drop] at h3
      simpa using h3
  have hd : xs.map (·.1) = [.lit (.int .u64 6), .lit (.int .u64 14), .lit (.int .u64 30), .lit (.int .u64 62)] := by
    have := congrArg Prod.fst hx
    have h2 : (Rows.laid_chapbook_prefix_bits : DataW Unit) = .agg (xs.map (·.1)) := this
    unfold Rows.laid_chapbook_prefix_bits at h2
    injection h2 with h2
    exact h2.symm
  rw [hd] at cell
  have hcs : cs = #[.int .u64 6, .int .u64 14, .int .u64 30, .int .u64 62] := by
    apply Array.ext_getElem?
    intro i
    have : i = 0 ∨ i = 1 ∨ i = 2 ∨ i = 3 ∨ 4 ≤ i := by omega
    rcases this with rfl | rfl | rfl | rfl | h
    · exact cell 0 6 (by decide) rfl
    · exact cell 1 14 (by decide) rfl
    · exact cell 2 30 (by decide) rfl
    · exact cell 3 62 (by decide) rfl
    · have hsz : cs.size = 4 := by simpa using hl
      rw [Array.getElem?_eq_none (by omega), Array.getElem?_eq_none (by simpa using h)]
  subst hcs
  obtain ⟨⟨c, t, hh⟩, _⟩ := hc 0 0 (by
    rw [e6]
    exact List.mem_append_left _ (List.mem_append_left _ (by simp [MemPlace.row])))
  have h3 : (W.var? Tryz.prog "chapbook/prefix.bits") = some c := by
    unfold World.var?
    rw [e1, Option.bind_some, hh]
  rw [e3] at h3
  obtain rfl := Option.some.inj h3
  exact ⟨t, hh⟩
/-- A law's call, in whatever world that meets the condition. -/
theorem law_calls {f : FuncId} {args : List Value} {W : World} (h : laidMet Tryz.prog [("chapbook/prefix.bits", Rows.laid_chapbook_prefix_bits)] W) {pre : List HP} {post : Value → List HP → Prop}
    (hpre : Holds ⟨W.tape, W.os, W.output⟩ W (GB :: [whole W]) → Holds ⟨W.tape, W.os, W.output⟩ W (pre ++ [whole W]))
    (hs : Sp Tryz.prog f args pre post) (hp : ∀ v M, post v M → v = .bool true) :
    Calls Tryz.prog f args.toArray W fun e W' => e = .returned (.bool true) ∧ Below W.heap.size W W' := by
  obtain ⟨T, hT⟩ := gb_of_laid h
  have H0 := Holds.init W
  have H1 := Holds.whole_one hT H0
  have H2 : Holds ⟨W.tape, W.os, W.output⟩ W (GBT T :: [whole W]) := Holds.one_cel (cs := [.int .u64 6, .int .u64 14, .int .u64 30, .int .u64 62]) (by intro h; cases h) H1
  have H3 : Holds ⟨W.tape, W.os, W.output⟩ W (GB :: [whole W]) := by rw [GB_eq]; exact Holds.ex_mk (A := GBT) T H2
  refine (hs.calls _ _ _ (hpre H3)).mono ?_
  rintro e w' ⟨v, M, rfl, hv, H4⟩
  have H5 : Holds ⟨W.tape, W.os, W.output⟩ w' (whole W :: M) := Holds.appends (l := [whole W]) H4
  exact ⟨by rw [hp v M hv], Holds.below (ρ := ⟨W.tape, W.os, W.output⟩) rfl rfl rfl H5⟩
/-- What reads before the call reads behind it. -/
theorem trodAll_below {H : Type} {enc : TypeId × Value → H} {P : Program} (hl : laidOutB P = true) {W W' : World} (hb : Below W.heap.size W W') :
    ∀ {ts : List TypeId} {vs : List Value} {ds : List (DataW H)} {p : List MemPlace}, (∀ t ∈ ts, P.readableRec t = true ∧ t < P.types.size) → DataW.TrodAll enc P W 0 (fun _ => true) true ts vs ds p → (∀ x ∈ p, x.block < W.heap.size) →
      DataW.TrodAll enc P W' 0 (fun b => decide (b < W.heap.size)) true ts vs ds p
  | [], _, _, _, _, h, _ => by
    obtain ⟨rfl, rfl, rfl⟩ := trodAll_nil h
    rfl
  | t :: ts, _, _, _, ht, h, hp => by
    obtain ⟨v, vs1, d, ds1, a, b, rfl, rfl, rfl, h1, h2⟩ := trodAll_cons h
    exact trodAll_cons_mk (Below.trod hl (ht t List.mem_cons_self).1 (ht t List.mem_cons_self).2 h1 hb (fun x hx => hp x (List.mem_append_left _ hx)))
      (trodAll_below hl hb (fun t h => ht t (List.mem_cons_of_mem _ h)) h2 (fun x hx => hp x (List.mem_append_right _ hx)))
theorem law_post {H : Type} {enc : TypeId × Value → H} {fn : Func} {s : ChangeSpec} {W W' : World} {args : Array Value} {ds gs : List (DataW H)} {before : List MemPlace} {fresh handsOn : Bool} (hs : s.vars = [])
    (hW : DataW.Whole enc Tryz.prog fn.params.toList s.vars false W args.toList ds gs before) (hfn : s.fn H ds = { results := [.lit (.bool true)], args := ds }) (hr : fn.resultTypes = #[4])
    (hps : ∀ t ∈ fn.params.toList, (Tryz.prog).readableRec t = true ∧ t < (Tryz.prog).types.size) (hb : Below W.heap.size W W') : s.post enc Tryz.prog fn false fresh handsOn false W args (.bool true) W' := by
  have hW0 := hW
  obtain ⟨p, q, hA, hV, rfl, hz, hn⟩ := hW
  rw [hs] at hV
  have hgq : gs = [] ∧ q = [] := by
    cases gs with
    | nil => exact ⟨rfl, hV⟩
    | cons g r => exact absurd hV (by intro h; cases h)
  obtain ⟨rfl, rfl⟩ := hgq
  have e1 : s.fn H (ds ++ []) = { results := [.lit (.bool true)], args := ds } := by rw [List.append_nil]; exact hfn
  refine ⟨ds, [], _, [], p, [], hW0, ?_, ?_, ?_, hb.frame _, fun h => by cases h⟩
  · rw [e1, hr]
    exact trodAll_mk1 (shut_bool (show (Tryz.prog).underlying 4 = some .bool by kernel_rfl) true)
  · rw [e1]
    exact trodAll_below (by kernel_rfl) hb hps hA (fun x hx => hW0.lt x (List.mem_append_left _ hx))
  · rw [hs, e1]; rfl
/-- A world that meets the condition. -/
noncomputable def laidWorld (os : Os) : World :=
  let w0 := World.holding Tryz.prog os ⟨#[], #[], []⟩
  { w0 with heap := w0.heap.modify 0 fun
      | .cells _ t frozen => .cells #[.int .u64 6, .int .u64 14, .int .u64 30, .int .u64 62] t frozen
      | o => o }
theorem laidWorld_met (os : Os) (args : Array Value) : laidMetH Tryz.prog [("chapbook/prefix.bits", Rows.laid_chapbook_prefix_bits)] ((laidWorld os).forCall (fun _ _ => 0) ⟨#[], args, []⟩).memory := by
  show laidMet _ _ _
  exact laidMet_of_run' 8 (by kernel_rfl) (by kernel_rfl)
theorem own : ownKnob (Tryz.prog).godebug = none := by kernel_rfl
end Go.Proofs.YtfjnacakpeommaaGreatDoor
/- What an argument of plain data is: its cells, by its type; a slice of such, as it lies in the caller's world. -/
namespace Go.Proofs.YtfjnacakpeommaaGreatDoor.SL
open Go
set_option autoImplicit false
set_option linter.unusedVariables false

inductive Leaf where
  | int (k : IntKind)
  | bool
  | str
def leafOk : Leaf → Value → Prop
  | .int k, v => ∃ n, v = .int k n ∧ (Lit.int k n).wf = true
  | .bool, v => ∃ b, v = .bool b
  | .str, v => ∃ l : List UInt8, v = SL.str l ∧ l.length ≤ 9223372036854775807
def leavesOk : List Leaf → List Value → Prop
  | [], cs => cs = []
  | x :: ls, cs => ∃ v vs, cs = v :: vs ∧ leafOk x v ∧ leavesOk ls vs
theorem leavesOk_append : ∀ {a b : List Leaf} {cs ds : List Value}, leavesOk a cs → leavesOk b ds → leavesOk (a ++ b) (cs ++ ds)
  | [], b, cs, ds, h1, h2 => by
    have : cs = [] := h1
    subst this; exact h2
  | x :: a, b, cs, ds, ⟨v, vs, e, h, h1⟩, h2 => by
    subst e
    exact ⟨v, vs ++ ds, rfl, h, leavesOk_append h1 h2⟩
/-- The leaves of fields that lie one behind the other. -/
def leavesF (P : Program) (f : TypeId → Option (List Leaf)) : List Field → Nat → Nat → Option (List Leaf)
  | [], off, tot => if off = tot then some [] else none
  | q :: fs, off, tot => if q.offset = off then
      match f q.type with
      | some a => (leavesF P f fs (off + P.cellsOf q.type) tot).map fun b => a ++ b
      | none => none
    else none
def leaves (P : Program) : Nat → TypeId → Option (List Leaf)
  | 0, _ => none
  | n + 1, t => match P.underlying t with
    | some .bool => some [.bool]
    | some (.int k) => some [.int k]
    | some .string => some [.str]
    | some (.struct fs) => leavesF P (leaves P n) fs.toList 0 (P.cellsOf t)
    | some (.array m e) => if P.cellsOf t = m * P.cellsOf e then (leaves P n e).map fun a => (List.replicate m a).flatten else none
    | _ => none
section
variable {H : Type} {enc : TypeId × Value → H} {P : Program} {w : World} {base : Nat} {sp : Nat → Bool} {held : Bool}
theorem leavesF_ok {f : TypeId → Option (List Leaf)} {cs : List Value} : ∀ (fs : List Field) (off tot : Nat) (ls : List Leaf),
    (∀ q ∈ fs, ∀ a, f q.type = some a → leavesOk a ((cs.drop q.offset).take (P.cellsOf q.type))) → leavesF P f fs off tot = some ls → tot = cs.length → off ≤ tot → leavesOk ls (cs.drop off)
  | [], off, tot, ls, _, h, ht, _ => by
    unfold leavesF at h
    split at h
    · rename_i e
      cases h
      show cs.drop off = []
      exact List.drop_of_length_le (by omega)
    · cases h
  | q :: fs, off, tot, ls, hq, h, ht, ho => by
    unfold leavesF at h
    split at h
    · rename_i e
      split at h
      · rename_i a ha
        simp only [Option.map_eq_some_iff] at h
        obtain ⟨b, hb, rfl⟩ := h
        have h1 := hq q List.mem_cons_self a ha
        have hle : off + P.cellsOf q.type ≤ tot := by
          have key : ∀ (fs : List Field) (off tot : Nat) (ls : List Leaf), leavesF P f fs off tot = some ls → off ≤ tot := by
            intro fs
            induction fs with
            | nil => intro off tot ls h; unfold leavesF at h; split at h
                     · omega
                     · cases h
            | cons x fs ih =>
              intro off tot ls h
              unfold leavesF at h
              split at h
              · split at h
                · simp only [Option.map_eq_some_iff] at h
                  obtain ⟨b, hb, _⟩ := h
                  have := ih _ _ _ hb
                  omega
                · cases h
              · cases h
          exact key _ _ _ _ hb
        have h2 := leavesF_ok fs (off + P.cellsOf q.type) tot b (fun x hx => hq x (List.mem_cons_of_mem _ hx)) hb ht hle
        rw [e] at h1
        have h3 := leavesOk_append h1 h2
        rw [← List.drop_drop, List.take_append_drop] at h3
        exact h3
      · cases h
    · cases h
theorem trod_leaves : ∀ (k : Nat) (t : TypeId) (ls : List Leaf), leaves P k t = some ls → ∀ (fuel : Nat) (cs : List Value) (x : DataW H × List MemPlace), DataW.trod enc P w base sp held fuel t cs = some x → leavesOk ls cs
  | 0, _, _, h => by cases h
  | k + 1, t, ls, h => by
    intro fuel cs x hx
    unfold leaves at h
    split at h
    · rename_i ht
      cases h
      obtain ⟨b, rfl, _⟩ := DataW.trod_bool ht hx
      exact ⟨_, _, rfl, ⟨b, rfl⟩, rfl⟩
    · rename_i q ht
      cases h
      obtain ⟨n, rfl, _, hw⟩ := DataW.trod_int ht hx
      exact ⟨_, _, rfl, ⟨n, rfl, hw⟩, rfl⟩
    · rename_i ht
      cases h
      obtain ⟨s, rfl, _, hs⟩ := DataW.trod_string ht hx
      exact ⟨_, _, rfl, ⟨s.data.toList, rfl, hs⟩, rfl⟩
    · rename_i fs ht
      obtain ⟨xs, n, _, _, hl, hxl, hi⟩ := DataW.trod_struct ht hx
      refine leavesF_ok fs.toList 0 (P.cellsOf t) ls (fun q hq a ha => ?_) h hl.symm (Nat.zero_le _)
      obtain ⟨i, hi1, hi2⟩ := List.getElem_of_mem hq
      have hf : fs[i]? = some q := by
        rw [← Array.getElem?_toList, List.getElem?_eq_getElem hi1, hi2]
      have h2 := hi i q hf
      have hlt : i < xs.length := by rw [hxl]; simpa using hi1
      rw [List.getElem?_eq_getElem hlt] at h2
      exact trod_leaves k q.type a ha _ _ _ h2
    · rename_i m e ht
      split at h
      · rename_i hc
        simp only [Option.map_eq_some_iff] at h
        obtain ⟨a, ha, rfl⟩ := h
        obtain ⟨xs, n, _, _, hl, hxl, hi⟩ := DataW.trod_array ht hx
        have key : ∀ j, j ≤ m → leavesOk ((List.replicate j a).flatten) (cs.drop ((m - j) * P.cellsOf e)) := by
          intro j
          induction j with
          | zero =>
            intro _
            show cs.drop _ = []
            exact List.drop_of_length_le (by rw [hl, hc, Nat.sub_zero]; exact Nat.le_refl _)
          | succ j ih =>
            intro hj
            have h1 := ih (by omega)
            have h2 := hi (m - (j + 1)) (by omega)
            have hlt : m - (j + 1) < xs.length := by omega
            rw [List.getElem?_eq_getElem hlt] at h2
            have h3 := leavesOk_append (trod_leaves k e a ha _ _ _ h2) h1
            have e1 : (m - j) * P.cellsOf e = (m - (j + 1)) * P.cellsOf e + P.cellsOf e := by
              rw [← Nat.succ_mul]; congr 1; omega
            rw [e1, ← List.drop_drop, List.take_append_drop] at h3
            rw [List.replicate_succ, List.flatten_cons]
            exact h3
        have := key m (Nat.le_refl _)
        rw [Nat.sub_self, Nat.zero_mul, List.drop_zero] at this
        exact this
      · cases h
    · cases h
/-- A slice of such, in the caller's world. -/
theorem trod_rows {t e : TypeId} {k : Nat} {ls : List Leaf} (ht : P.underlying t = some (.slice e)) (hl : leaves P k e = some ls) (hc : P.cellsOf e ≠ 0) {fuel : Nat} {cs : List Value} {x : DataW H × List MemPlace}
    (h : DataW.trod enc P w base sp held fuel t cs = some x) :
    ∃ (v : Value) (rows : List (List Value)), cs = [v] ∧ (∀ row ∈ rows, leavesOk ls row) ∧ (∀ row ∈ rows, row.length = P.cellsOf e) ∧ rows.length ≤ 9223372036854775807 ∧
      ∀ (ρ : Rst) (w' : World) (L : List HP), Holds ρ w' (whole w :: L) → Holds ρ w' (RS true v rows.length rows.flatten :: whole w :: L) := by
  rcases Go.Deep.open_slice ht h with ⟨rfl, _⟩ | ⟨a, len, cap, m, n, D, Pl, rfl, hb, hlc, hm, hmm, _, hx⟩
  · exact ⟨_, [], rfl, (fun _ h => by cases h), (fun _ h => by cases h), by simp, fun ρ w' L H => H.rs_nil⟩
  have hlm : len ≤ m := by rw [hmm]; split <;> omega
  have hm' : cap ≤ 9223372036854775807 := hm
  by_cases h0 : len = 0
  · subst h0
    exact ⟨_, [], rfl, (fun _ h => by cases h), (fun _ h => by cases h), by simp, fun ρ w' L H => H.rs_nil⟩
  -- the rows, one by one
  have key : ∀ j, j ≤ len → ∃ rows : List (List Value), rows.length = j ∧ (∀ row ∈ rows, leavesOk ls row) ∧ (∀ row ∈ rows, row.length = P.cellsOf e) ∧
      ∀ i, i < j * P.cellsOf e → w.cell? (a.add i) = rows.flatten[i]? := by
    intro j
    induction j with
    | zero => intro _; exact ⟨[], rfl, (fun _ h => by cases h), (fun _ h => by cases h), fun i hi => by omega⟩
    | succ j ih =>
      intro hj
      obtain ⟨rows, r1, r2, r3, r4⟩ := ih (by omega)
      obtain ⟨cs', c1, c2⟩ := hx j (by omega)
      obtain ⟨_, c3, c4⟩ := World.cells?_some c1
      have hfl : rows.flatten.length = j * P.cellsOf e := by
        rw [← r1]
        clear r1 r2 r4 ih
        induction rows with
        | nil => simp
        | cons x rows ih =>
          rw [List.flatten_cons, List.length_append, ih (fun y hy => r3 y (List.mem_cons_of_mem _ hy)), r3 x List.mem_cons_self, List.length_cons, Nat.succ_mul]
          omega
      refine ⟨rows ++ [cs'], by simp [r1], fun row hr => ?_, fun row hr => ?_, fun i hi => ?_⟩
      · rcases List.mem_append.1 hr with hr | hr
        · exact r2 row hr
        · have : row = cs' := by simpa using hr
          subst this
          exact trod_leaves k e ls hl _ _ _ c2
      · rcases List.mem_append.1 hr with hr | hr
        · exact r3 row hr
        · have : row = cs' := by simpa using hr
          subst this
          exact c3
      · rw [List.flatten_append]
        by_cases hij : i < j * P.cellsOf e
        · rw [List.getElem?_append_left (by omega)]
          exact r4 i hij
        · rw [List.getElem?_append_right (by omega), hfl]
          rw [Nat.succ_mul] at hi
          have h5 := c4 (i - j * P.cellsOf e) (by omega)
          rw [Go.Deep.add_add] at h5
          have e2 : j * P.cellsOf e + (i - j * P.cellsOf e) = i := by omega
          rw [e2] at h5
          rw [h5]
          simp
  obtain ⟨rows, r1, r2, r3, r4⟩ := key len (Nat.le_refl _)
  refine ⟨_, rows, rfl, r2, r3, by omega, fun ρ w' L H => ?_⟩
  have hcpos : 0 < P.cellsOf e := by omega
  have hfl : rows.flatten.length = len * P.cellsOf e := by
    rw [← r1]
    clear r1 r2 r4 key
    induction rows with
    | nil => simp
    | cons x rows ih =>
      rw [List.flatten_cons, List.length_append, ih (fun y hy => r3 y (List.mem_cons_of_mem _ hy)), r3 x List.mem_cons_self, List.length_cons, Nat.succ_mul]
      omega
  have hpos : 0 < len * P.cellsOf e := Nat.mul_pos (by omega) hcpos
  have c0 := r4 0 hpos
  have ha0 : a.add 0 = a := by simp [Addr.add]
  rw [ha0, List.getElem?_eq_getElem (by omega)] at c0
  unfold World.cell? at c0
  split at c0
  · rename_i cc T fr hblk
    split at c0
    · cases c0
    · rename_i hsp
      obtain ⟨ab, ao, az⟩ := a
      have has : az = none := by
        cases az with
        | none => rfl
        | some q => simp at hsp
      subst has
      have hcell : ∀ i, i < len * P.cellsOf e → cc.toList[ao + i]? = rows.flatten[i]? := fun i hi => by
        have := r4 i hi
        rw [Addr.add_none] at this
        rw [← this]
        unfold World.cell?
        rw [hblk]
        simp
      have hroom : ao + len * P.cellsOf e ≤ cc.toList.length := by
        have h1 := hcell (len * P.cellsOf e - 1) (by omega)
        rw [List.getElem?_eq_getElem (l := rows.flatten) (by omega)] at h1
        have := List.getElem?_eq_some_iff.1 h1
        obtain ⟨h2, _⟩ := this
        omega
      have hsplit : cc.toList = cc.toList.take ao ++ rows.flatten ++ cc.toList.drop (ao + len * P.cellsOf e) := by
        apply List.ext_getElem?
        intro i
        have hta : (cc.toList.take ao).length = ao := by rw [List.length_take]; omega
        by_cases h1 : i < ao
        · rw [List.append_assoc, List.getElem?_append_left (by omega), List.getElem?_take_of_lt h1]
        · by_cases h2 : i < ao + len * P.cellsOf e
          · rw [List.getElem?_append_left (by rw [List.length_append]; omega), List.getElem?_append_right (by omega), hta, ← hcell (i - ao) (by omega)]
            congr 1
            omega
          · rw [List.getElem?_append_right (by rw [List.length_append]; omega), List.length_append, hta, hfl, List.getElem?_drop]
            congr 1
            omega
      have hta : (cc.toList.take ao).length = ao := by rw [List.length_take]; omega
      have H1 := H.whole_one hblk
      have hcc : cc = (cc.toList.take ao ++ rows.flatten ++ cc.toList.drop (ao + len * P.cellsOf e)).toArray := by
        rw [← hsplit]
      rw [hcc] at H1
      have H2 := H1.one_cel (fun h => by cases h)
      have H3 := H2.rs_row (n := len) (cap := cap)
      rw [hta] at H3
      rw [r1]
      exact H3
  · cases c0
theorem rows_map {α : Type} {f : α → List Value} {B : α → Prop} : ∀ {rows : List (List Value)}, (∀ row ∈ rows, ∃ u, row = f u ∧ B u) → ∃ us : List α, rows = us.map f ∧ ∀ u ∈ us, B u
  | [], _ => ⟨[], rfl, fun _ h => by cases h⟩
  | row :: rows, h => by
    obtain ⟨us, h1, h2⟩ := rows_map (rows := rows) fun r hr => h r (List.mem_cons_of_mem _ hr)
    obtain ⟨u, h3, h4⟩ := h row List.mem_cons_self
    exact ⟨u :: us, by rw [h1, h3]; rfl, fun x hx => by
      rcases List.mem_cons.1 hx with rfl | hx
      · exact h4
      · exact h2 x hx⟩
end
end Go.Proofs.YtfjnacakpeommaaGreatDoor.SL
/- What the rows of chapbooklaw16 share: a configuration read. -/
namespace Go.Proofs.YtfjnacakpeommaaGreatDoor
open Go Go.ChangeShapes Go.WideShapes Go.RowKit SL Pl
set_option autoImplicit false
set_option maxRecDepth 100000
theorem u_int : (Tryz.prog).underlying 3 = some (.int .i64) := by kernel_rfl
theorem u_string : (Tryz.prog).underlying 9 = some .string := by kernel_rfl
section
variable {H : Type} {enc : TypeId × Value → H} {w : World} {base : Nat} {sp : Nat → Bool} {held : Bool}
theorem open_config {r : Reach} {b0 : Nat} {v : Value} {d : DataW H} {p : List MemPlace} (hv : Value.okWide Tryz.prog w r b0 23 v) (h : DataW.Trod enc Tryz.prog w base sp held 23 v d p) :
    ∃ c : Cfg, v = .agg (cfgC c).toArray := by
  have hu : (Tryz.prog).underlying 23 = some (.struct ((Tryz.prog).fieldsOf 23)) := by kernel_rfl
  obtain ⟨cs, rfl, hcs⟩ := okWide_struct hu hv
  obtain ⟨fuel, h⟩ := h
  have h1 := trod_leaves 2 23 [.int .i64, .int .i64, .int .i64, .int .i64, .int .i64, .int .i64] (by kernel_rfl) _ _ _ h
  obtain ⟨v0, r1, hc, ⟨a0, rfl, _⟩, v1, r2, rfl, ⟨a1, rfl, _⟩, v2, r3, rfl, ⟨a2, rfl, _⟩, v3, r4, rfl, ⟨a3, rfl, _⟩, v4, r5, rfl, ⟨a4, rfl, _⟩, v5, r6, rfl, ⟨a5, rfl, _⟩, h⟩ := h1
  have h : r6 = [] := h
  subst h
  have e : (Value.agg cs).cells.toList = cs.toList := rfl
  rw [e] at hc
  exact ⟨⟨a0, a1, a2, a3, a4, a5⟩, by
    show Value.agg cs = Value.agg [Value.int .i64 a0, .int .i64 a1, .int .i64 a2, .int .i64 a3, .int .i64 a4, .int .i64 a5].toArray
    rw [← hc]⟩
end
end Go.Proofs.YtfjnacakpeommaaGreatDoor
/- Contracts: chapbookref07.Same and SameAll, chapbookref16.Same, of what is the same. -/
namespace Go.Proofs.YtfjnacakpeommaaGreatDoor
open Go SL Pl
set_option autoImplicit false
set_option maxRecDepth 100000
set_option linter.unusedSimpArgs false
set_option linter.unusedVariables false
attribute [local irreducible] St Sq Exec QExec wpList wpQuiet Code.wp Exit.then Exit.inBlock bodyPost At Rd wpOp Wa QK GB
theorem same07_sp (q1 q2 : Bool) (r : Ro) (v1 v2 : Value) (hu : r.ups.length ≤ 1000) : Sp Tryz.prog 54 [.agg (rv r v1).toArray, .agg (rv r v2).toArray] [UL q1 v1 r.ups, UL q2 v2 r.ups]
    (fun v M => v = .bool true ∧ M = [UL q1 v1 r.ups, UL q2 v2 r.ups]) := by
  refine Sp.intro (P := Tryz.prog) (Tryz.func54) rfl Tryz.ntmps54 (by decide) rfl ?_
  intro ρ F
  refine St_rsIs (r := q1) (v := v1) (by exact Has.auto) ?_
  rintro A1 c1 rfl
  refine St_rsIs (r := q2) (v := v2) (by exact Has.auto) ?_
  rintro A2 c2 rfl
  obtain ⟨o, n, l⟩ := r
  have hu : l.length ≤ 1000 := hu
  repeat' (first | (refine St_step ?_; (try with_reducible intro _)) | (refine St_step2 ?_ ?_ <;> (intro hb; (try simp only [beq_iff_eq, bne_iff_ne, decide_eq_true_eq, decide_eq_false_iff_not, Bool.not_eq_true', Bool.not_eq_false', beq_eq_false_iff_ne, bne_eq_false_iff_eq, ne_eq, Int.not_lt, Int.not_le, gt_iff_lt, ge_iff_le] at hb); (try (first | exact Bool.noConfusion hb | exact absurd trivial hb | (exfalso; omega))))) | fail)
  all_goals first | (exfalso; omega) | skip
  rename_i xa xb _ _
  refine St_loop (fun (i : Nat) => i ≤ l.length) (fun i => [(2, .pointer (some ⟨xa, 0, none⟩)), (3, .pointer (some ⟨xb, 0, none⟩)), (5, nat .i64 i)]) (fun i => [cel false xa 64 (rv ⟨o, n, l⟩ (.slice A1 l.length c1)), cel false xb 64 (rv ⟨o, n, l⟩ (.slice A2 l.length c2)), UL q1 (.slice A1 l.length c1) l, UL q2 (.slice A2 l.length c2) l, big F]) (fun i => l.length - i) 0 (Nat.zero_le _) ⟨rfl, rfl, rfl, trivial⟩ (by exact Split.auto) ?_
  intro i hi
  by_cases hil : i < l.length
  · obtain ⟨u, hux⟩ : ∃ u, l[i]? = some u := ⟨_, List.getElem?_eq_getElem hil⟩
    refine St_rsOpen (r := q1) (v := .slice A1 l.length c1) (n := l.length) (cs := l.flatMap uv) (by exact Has.auto) (by omega) ?_
    rintro b1 T1 cap1 pre1 rest1 hv1
    injection hv1 with p1 p2 p3
    subst p1 p3
    refine St_rsOpen (r := q2) (v := .slice A2 l.length c2) (n := l.length) (cs := l.flatMap uv) (by exact Has.auto) (by omega) ?_
    rintro b2 T2 cap2 pre2 rest2 hv2
    injection hv2 with p4 p5 p6
    subst p4 p6
    have hld1 := flat_at uv_len l i u pre1 rest1 hux
    have hroom1 := flat_room uv_len l i pre1 rest1 hil
    have hld2 := flat_at uv_len l i u pre2 rest2 hux
    have hroom2 := flat_room uv_len l i pre2 rest2 hil
    repeat' (first | (apply St_regionQ; kernel_rfl; kernel_rfl) | (apply St_rd; exact rfl; (first | (apply Rd_loadA tb; exact rfl; exact rfl; exact rfl; exact Has.auto; exact hroom1; exact hld1) | (apply Rd_loadA tb; exact rfl; exact rfl; exact rfl; exact Has.auto; exact hroom2; exact hld2) | (apply Rd_neSame tb; exact rfl; exact rfl; exact rfl; kernel_rfl; exact rfl; simp))) | (apply Sq_rd; exact rfl; (first | (apply Rd_loadA tb; exact rfl; exact rfl; exact rfl; exact Has.auto; exact hroom1; exact hld1) | (apply Rd_loadA tb; exact rfl; exact rfl; exact rfl; exact Has.auto; exact hroom2; exact hld2) | (apply Rd_neSame tb; exact rfl; exact rfl; exact rfl; kernel_rfl; exact rfl; simp))) | (refine St_step ?_; (try with_reducible intro _)) | (refine St_step2 ?_ ?_ <;> (intro hb; (try simp only [beq_iff_eq, bne_iff_ne, decide_eq_true_eq, decide_eq_false_iff_not, Bool.not_eq_true', Bool.not_eq_false', beq_eq_false_iff_ne, bne_eq_false_iff_eq, ne_eq, Int.not_lt, Int.not_le, gt_iff_lt, ge_iff_le] at hb); (try (first | exact Bool.noConfusion hb | exact absurd trivial hb | (exfalso; omega))))) | fail)
    refine St_rsMk (r := q2) (n := l.length) (cap := c2) (pre := pre2) (cs := l.flatMap uv) (rest := rest2) (by exact Has.auto) ?_
    refine St_rsMk (r := q1) (n := l.length) (cap := c1) (pre := pre1) (cs := l.flatMap uv) (rest := rest1) (by exact Has.auto) ?_
    exact St_at (i + 1) ⟨hil, by omega⟩ ⟨rfl, rfl, rfl, trivial⟩ (by exact Split.auto)
  · have hii : i = l.length := by omega
    subst hii
    repeat' (first | (refine St_step ?_; (try with_reducible intro _)) | (refine St_step2 ?_ ?_ <;> (intro hb; (try simp only [beq_iff_eq, bne_iff_ne, decide_eq_true_eq, decide_eq_false_iff_not, Bool.not_eq_true', Bool.not_eq_false', beq_eq_false_iff_ne, bne_eq_false_iff_eq, ne_eq, Int.not_lt, Int.not_le, gt_iff_lt, ge_iff_le] at hb); (try (first | exact Bool.noConfusion hb | exact absurd trivial hb | (exfalso; omega))))) | fail)
    all_goals (first | contradiction | (exfalso; omega) | (exact St_ret1 (.inl rfl) rfl rfl ⟨rfl, rfl⟩ (by exact Split.auto)) | (exact St_ret2 (.inl rfl) rfl rfl rfl ⟨rfl, rfl⟩ (by exact Split.auto)) | (exact St_ret3 (.inl rfl) rfl rfl rfl rfl ⟨rfl, rfl⟩ (by exact Split.auto)))
/-- Two lists of the same rounds (a list's rows may be a part of a longer list's). -/
theorem sameAll_sp (l : List Ro) (v1 v2 : Value) (xs xs' ys ys' : List (Ro × Value)) (hx : xs.map (·.1) = l) (hy : ys.map (·.1) = l) (hxs : ∀ x ∈ xs, x ∈ xs') (hys : ∀ y ∈ ys, y ∈ ys') (hl : l.length ≤ 1000000) (hu : ∀ r ∈ l, r.ups.length ≤ 1000) :
    Sp Tryz.prog 20 [v1, v2] [RS true v1 l.length (xs.flatMap rvp), ULs xs', RS true v2 l.length (ys.flatMap rvp), ULs ys']
    (fun v M => v = .bool true ∧ M = [RS true v1 l.length (xs.flatMap rvp), ULs xs', RS true v2 l.length (ys.flatMap rvp), ULs ys']) := by
  refine Sp.intro (P := Tryz.prog) (Tryz.func20) rfl Tryz.ntmps20 (by decide) rfl ?_
  intro ρ F
  refine St_rsIs (r := true) (v := v1) (n := l.length) (cs := xs.flatMap rvp) (by exact Has.auto) ?_
  rintro A1 c1 rfl
  refine St_rsIs (r := true) (v := v2) (n := l.length) (cs := ys.flatMap rvp) (by exact Has.auto) ?_
  rintro A2 c2 rfl
  have hxl : xs.length = l.length := by rw [← hx, List.length_map]
  have hyl : ys.length = l.length := by rw [← hy, List.length_map]
  repeat' (first | (refine St_step ?_; (try with_reducible intro _)) | (refine St_step2 ?_ ?_ <;> (intro hb; (try simp only [beq_iff_eq, bne_iff_ne, decide_eq_true_eq, decide_eq_false_iff_not, Bool.not_eq_true', Bool.not_eq_false', beq_eq_false_iff_ne, bne_eq_false_iff_eq, ne_eq, Int.not_lt, Int.not_le, gt_iff_lt, ge_iff_le] at hb); (try (first | exact Bool.noConfusion hb | exact absurd trivial hb | (exfalso; omega))))) | fail)
  all_goals first | (exfalso; omega) | skip
  refine St_loop (fun (i : Nat) => i ≤ l.length) (fun i => [(0, .slice A1 l.length c1), (1, .slice A2 l.length c2), (5, nat .i64 i)]) (fun i => [RS true (.slice A1 l.length c1) l.length (xs.flatMap rvp), ULs xs', RS true (.slice A2 l.length c2) l.length (ys.flatMap rvp), ULs ys', big F]) (fun i => l.length - i) 0 (Nat.zero_le _) ⟨rfl, rfl, rfl, trivial⟩ (by exact Split.auto) ?_
  intro i hi
  by_cases hil : i < l.length
  · obtain ⟨⟨r, u1⟩, hxi⟩ : ∃ x, xs[i]? = some x := ⟨_, List.getElem?_eq_getElem (by omega)⟩
    obtain ⟨⟨r', u2⟩, hyi⟩ : ∃ y, ys[i]? = some y := ⟨_, List.getElem?_eq_getElem (by omega)⟩
    have hr : l[i]? = some r := by rw [← hx, List.getElem?_map, hxi]; rfl
    have hr' : l[i]? = some r' := by rw [← hy, List.getElem?_map, hyi]; rfl
    obtain rfl : r = r' := Option.some.inj (hr.symm.trans hr')
    have hsame := same07_sp true true r u1 u2 (hu r (List.mem_of_getElem? hr))
    refine St_ulGet (xs := xs') (x := (r, u1)) (by exact Has.auto) (hxs _ (List.mem_of_getElem? hxi)) ?_
    refine St_ulGet (xs := ys') (x := (r, u2)) (by exact Has.auto) (hys _ (List.mem_of_getElem? hyi)) ?_
    refine St_rsOpen (r := true) (v := .slice A1 l.length c1) (n := l.length) (cs := xs.flatMap rvp) (by exact Has.auto) (by omega) ?_
    rintro b1 T1 cap1 pre1 rest1 hv1
    injection hv1 with p1 p2 p3
    subst p1 p3
    refine St_rsOpen (r := true) (v := .slice A2 l.length c2) (n := l.length) (cs := ys.flatMap rvp) (by exact Has.auto) (by omega) ?_
    rintro b2 T2 cap2 pre2 rest2 hv2
    injection hv2 with p4 p5 p6
    subst p4 p6
    have hld1 := flat_at rvp_len xs i (r, u1) pre1 rest1 hxi
    have hroom1 := flat_room rvp_len xs i pre1 rest1 (by omega)
    have hld2 := flat_at rvp_len ys i (r, u2) pre2 rest2 hyi
    have hroom2 := flat_room rvp_len ys i pre2 rest2 (by omega)
    repeat' (first | (apply St_regionQ; kernel_rfl; kernel_rfl) | (apply Sq_call (hf := hsame); exact rfl; exact rfl; exact Split.auto; (rintro _ _ ⟨rfl, rfl⟩; exact ⟨rfl, _, by exact Split.auto⟩)) | (apply St_rd; exact rfl; (first | (apply Rd_loadA tb; exact rfl; exact rfl; exact rfl; exact Has.auto; exact hroom1; exact hld1) | (apply Rd_loadA tb; exact rfl; exact rfl; exact rfl; exact Has.auto; exact hroom2; exact hld2))) | (apply Sq_rd; exact rfl; (first | (apply Rd_loadA tb; exact rfl; exact rfl; exact rfl; exact Has.auto; exact hroom1; exact hld1) | (apply Rd_loadA tb; exact rfl; exact rfl; exact rfl; exact Has.auto; exact hroom2; exact hld2))) | (refine St_step ?_; (try with_reducible intro _)) | (refine St_step2 ?_ ?_ <;> (intro hb; (try simp only [beq_iff_eq, bne_iff_ne, decide_eq_true_eq, decide_eq_false_iff_not, Bool.not_eq_true', Bool.not_eq_false', beq_eq_false_iff_ne, bne_eq_false_iff_eq, ne_eq, Int.not_lt, Int.not_le, gt_iff_lt, ge_iff_le] at hb); (try (first | exact Bool.noConfusion hb | exact absurd trivial hb | (exfalso; omega))))) | fail)
    refine St_rsMk (r := true) (n := l.length) (cap := c2) (pre := pre2) (cs := ys.flatMap rvp) (rest := rest2) (by exact Has.auto) ?_
    refine St_rsMk (r := true) (n := l.length) (cap := c1) (pre := pre1) (cs := xs.flatMap rvp) (rest := rest1) (by exact Has.auto) ?_
    exact St_at (i + 1) ⟨hil, by omega⟩ ⟨rfl, rfl, rfl, trivial⟩ (by exact Split.auto)
  · have hii : i = l.length := by omega
    subst hii
    repeat' (first | (refine St_step ?_; (try with_reducible intro _)) | (refine St_step2 ?_ ?_ <;> (intro hb; (try simp only [beq_iff_eq, bne_iff_ne, decide_eq_true_eq, decide_eq_false_iff_not, Bool.not_eq_true', Bool.not_eq_false', beq_eq_false_iff_ne, bne_eq_false_iff_eq, ne_eq, Int.not_lt, Int.not_le, gt_iff_lt, ge_iff_le] at hb); (try (first | exact Bool.noConfusion hb | exact absurd trivial hb | (exfalso; omega))))) | fail)
    all_goals (first | contradiction | (exfalso; omega) | (exact St_ret1 (.inl rfl) rfl rfl ⟨rfl, rfl⟩ (by exact Split.auto)) | (exact St_ret2 (.inl rfl) rfl rfl rfl ⟨rfl, rfl⟩ (by exact Split.auto)) | (exact St_ret3 (.inl rfl) rfl rfl rfl rfl ⟨rfl, rfl⟩ (by exact Split.auto)))
/-- Packets that are the same. -/
theorem same16_sp (q1 q2 : Bool) (l : List Pk) (v1 v2 : Value) (hl : l.length ≤ 1000000) : Sp Tryz.prog 14 [v1, v2] [RS q1 v1 l.length (l.flatMap kv), RS q2 v2 l.length (l.flatMap kv)]
    (fun v M => v = .bool true ∧ M = [RS q1 v1 l.length (l.flatMap kv), RS q2 v2 l.length (l.flatMap kv)]) := by
  refine Sp.intro (P := Tryz.prog) (Tryz.func14) rfl Tryz.ntmps14 (by decide) rfl ?_
  intro ρ F
  refine St_rsIs (r := q1) (v := v1) (n := l.length) (cs := l.flatMap kv) (by exact Has.auto) ?_
  rintro A1 c1 rfl
  refine St_rsIs (r := q2) (v := v2) (n := l.length) (cs := l.flatMap kv) (by exact Has.auto) ?_
  rintro A2 c2 rfl
  repeat' (first | (refine St_step ?_; (try with_reducible intro _)) | (refine St_step2 ?_ ?_ <;> (intro hb; (try simp only [beq_iff_eq, bne_iff_ne, decide_eq_true_eq, decide_eq_false_iff_not, Bool.not_eq_true', Bool.not_eq_false', beq_eq_false_iff_ne, bne_eq_false_iff_eq, ne_eq, Int.not_lt, Int.not_le, gt_iff_lt, ge_iff_le] at hb); (try (first | exact Bool.noConfusion hb | exact absurd trivial hb | (exfalso; omega))))) | fail)
  all_goals first | (exfalso; omega) | skip
  refine St_loop (fun (i : Nat) => i ≤ l.length) (fun i => [(0, .slice A1 l.length c1), (1, .slice A2 l.length c2), (5, nat .i64 i)]) (fun i => [RS q1 (.slice A1 l.length c1) l.length (l.flatMap kv), RS q2 (.slice A2 l.length c2) l.length (l.flatMap kv), big F]) (fun i => l.length - i) 0 (Nat.zero_le _) ⟨rfl, rfl, rfl, trivial⟩ (by exact Split.auto) ?_
  intro i hi
  by_cases hil : i < l.length
  · obtain ⟨p, hp⟩ : ∃ p, l[i]? = some p := ⟨_, List.getElem?_eq_getElem hil⟩
    refine St_rsOpen (r := q1) (v := .slice A1 l.length c1) (n := l.length) (cs := l.flatMap kv) (by exact Has.auto) (by omega) ?_
    rintro b1 T1 cap1 pre1 rest1 hv1
    injection hv1 with p1 p2 p3
    subst p1 p3
    refine St_rsOpen (r := q2) (v := .slice A2 l.length c2) (n := l.length) (cs := l.flatMap kv) (by exact Has.auto) (by omega) ?_
    rintro b2 T2 cap2 pre2 rest2 hv2
    injection hv2 with p4 p5 p6
    subst p4 p6
    have hld1 := flat_at kv_len l i p pre1 rest1 hp
    have hroom1 := flat_room kv_len l i pre1 rest1 hil
    have hld2 := flat_at kv_len l i p pre2 rest2 hp
    have hroom2 := flat_room kv_len l i pre2 rest2 hil
    repeat' (first | (apply St_regionQ; kernel_rfl; kernel_rfl) | (apply St_rd; exact rfl; (first | (apply Rd_loadA tb; exact rfl; exact rfl; exact rfl; exact Has.auto; exact hroom1; exact hld1) | (apply Rd_loadA tb; exact rfl; exact rfl; exact rfl; exact Has.auto; exact hroom2; exact hld2) | (apply Rd_neSame tb; exact rfl; exact rfl; exact rfl; kernel_rfl; exact rfl; simp))) | (apply Sq_rd; exact rfl; (first | (apply Rd_loadA tb; exact rfl; exact rfl; exact rfl; exact Has.auto; exact hroom1; exact hld1) | (apply Rd_loadA tb; exact rfl; exact rfl; exact rfl; exact Has.auto; exact hroom2; exact hld2) | (apply Rd_neSame tb; exact rfl; exact rfl; exact rfl; kernel_rfl; exact rfl; simp))) | (refine St_step ?_; (try with_reducible intro _)) | (refine St_step2 ?_ ?_ <;> (intro hb; (try simp only [beq_iff_eq, bne_iff_ne, decide_eq_true_eq, decide_eq_false_iff_not, Bool.not_eq_true', Bool.not_eq_false', beq_eq_false_iff_ne, bne_eq_false_iff_eq, ne_eq, Int.not_lt, Int.not_le, gt_iff_lt, ge_iff_le] at hb); (try (first | exact Bool.noConfusion hb | exact absurd trivial hb | (exfalso; omega))))) | fail)
    refine St_rsMk (r := q2) (n := l.length) (cap := c2) (pre := pre2) (cs := l.flatMap kv) (rest := rest2) (by exact Has.auto) ?_
    refine St_rsMk (r := q1) (n := l.length) (cap := c1) (pre := pre1) (cs := l.flatMap kv) (rest := rest1) (by exact Has.auto) ?_
    exact St_at (i + 1) ⟨hil, by omega⟩ ⟨rfl, rfl, rfl, trivial⟩ (by exact Split.auto)
  · have hii : i = l.length := by omega
    subst hii
    repeat' (first | (refine St_step ?_; (try with_reducible intro _)) | (refine St_step2 ?_ ?_ <;> (intro hb; (try simp only [beq_iff_eq, bne_iff_ne, decide_eq_true_eq, decide_eq_false_iff_not, Bool.not_eq_true', Bool.not_eq_false', beq_eq_false_iff_ne, bne_eq_false_iff_eq, ne_eq, Int.not_lt, Int.not_le, gt_iff_lt, ge_iff_le] at hb); (try (first | exact Bool.noConfusion hb | exact absurd trivial hb | (exfalso; omega))))) | fail)
    all_goals (first | contradiction | (exfalso; omega) | (exact St_ret1 (.inl rfl) rfl rfl ⟨rfl, rfl⟩ (by exact Split.auto)) | (exact St_ret2 (.inl rfl) rfl rfl rfl ⟨rfl, rfl⟩ (by exact Split.auto)) | (exact St_ret3 (.inl rfl) rfl rfl rfl rfl ⟨rfl, rfl⟩ (by exact Split.auto)))
end Go.Proofs.YtfjnacakpeommaaGreatDoor
