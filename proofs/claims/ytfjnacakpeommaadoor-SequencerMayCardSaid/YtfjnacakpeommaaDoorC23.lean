/- Contracts: package sequencer, but for Hear and Tick. -/
import Derived.Test.YtfjnacakpeommaaDoorC22
namespace Go.Proofs.YtfjnacakpeommaaDoor
open Go SL Pl
set_option autoImplicit false
set_option maxRecDepth 100000
set_option linter.unusedSimpArgs false
set_option linter.unusedVariables false
attribute [local irreducible] St Sq Exec QExec wpList wpQuiet Code.wp Exit.then Exit.inBlock bodyPost At Rd wpOp Wa QK GB
theorem star_emp {B : HP} {h : Hp} (H : B h) : star emp B h := ⟨E0, h, E0_Cmp h, rfl, rfl, H⟩
theorem emp_star {B : HP} {h : Hp} (H : star emp B h) : B h := by
  obtain ⟨h1, h2, c, rfl, e, b⟩ := H
  have e : h1 = E0 := e
  subst e
  exact b
theorem big_get {A : HP} : ∀ {l : List HP} {i : Nat}, l[i]? = some A → ∀ {h : Hp}, big l h → star A (big (l.set i emp)) h
  | [], _, e, _, _ => by simp at e
  | B :: l, 0, e, h, H => by
    have : B = A := by simpa using e
    subst this
    exact star_mono (fun _ a => a) (fun _ b => star_emp b) H
  | B :: l, i + 1, e, h, H => by
    have e : l[i]? = some A := by simpa using e
    exact star_swap (star_mono (fun _ a => a) (fun _ b => big_get e b) H)
theorem big_put {A : HP} : ∀ {l : List HP} {i : Nat}, i < l.length → ∀ {h : Hp}, star A (big (l.set i emp)) h → big (l.set i A) h
  | [], _, e, _, _ => by simp at e
  | B :: l, 0, e, h, H => star_mono (fun _ a => a) (fun _ b => emp_star b) H
  | B :: l, i + 1, e, h, H => by
    have e : i < l.length := by simpa using e
    exact star_mono (fun _ a => a) (fun _ b => big_put e b) (star_swap H)
section
variable {ρ : Rst} {N : Nat} {env : Env} {L L' : List HP} {G : Act → World → Prop}
theorem St_bigGet {l : List HP} {i : Nat} {A : HP} (hc : Has L (big l) L') (hi : l[i]? = some A) (h : St ρ N env (A :: big (l.set i emp) :: L') G) : St ρ N env L G :=
  St_conv (L' := A :: big (l.set i emp) :: L') (fun w H => (H.has hc).mono fun _ y => star_assoc' (star_mono (fun _ a => big_get hi a) (fun _ b => b) y)) h
theorem St_bigPut {l : List HP} {i : Nat} {A : HP} (hi : i < l.length) (hs : Split L [A, big (l.set i emp)] L') (h : St ρ N env (big (l.set i A) :: L') G) : St ρ N env L G :=
  St_conv (L' := big (l.set i A) :: L') (fun w H => (H.split hs).mono fun _ y => star_mono (fun _ a => big_put hi a) (fun _ b => b) (star_assoc y)) h
end
theorem zip_get {α β : Type} {f : α → β → HP} {xs : List α} {ys : List β} {i : Nat} {x : α} {y : β} (hx : xs[i]? = some x) (hy : ys[i]? = some y) : (List.zipWith f xs ys)[i]? = some (f x y) := by
  simp [List.getElem?_zipWith, hx, hy]
theorem zip_set {α β : Type} {f : α → β → HP} : ∀ {xs : List α} {ys : List β} {i : Nat} {x : α} {y : β}, xs[i]? = some x → (List.zipWith f xs ys).set i (f x y) = List.zipWith f xs (ys.set i y)
  | [], _, _, _, _, h => by simp at h
  | _ :: _, [], _, _, _, _ => by simp
  | a :: xs, b :: ys, 0, x, y, h => by
    have : a = x := by simpa using h
    subst this
    simp
  | a :: xs, b :: ys, i + 1, x, y, h => by
    have h : xs[i]? = some x := by simpa using h
    simp [zip_set (ys := ys) (y := y) h]
abbrev cfgC (c : Cfg) : List Value := [.int .i64 c.clients, .int .i64 c.window, .int .i64 c.push, .int .i64 c.pull, .int .i64 c.mtu, .int .i64 c.last]
abbrev idv (x : Nat × Nat) : List Value := [.pointer (some ⟨x.1, 0, none⟩), .pointer (some ⟨x.2, 0, none⟩)]
theorem idv_len (x : Nat × Nat) : (idv x).length = 2 := rfl
def PeP (x : Nat × Nat) (k : Lk × Nat) : HP := big [LkP x.1 k.1, FdP x.2 k.2]
/-- The sequencer's chunks: where the log lies, the peers' slice, where their links and feeds lie. -/
def sqL (b : Nat) (s : Sqr) (z : Nat × Value × List (Nat × Nat)) : List HP :=
  [lift (z.2.2.length = s.ks.length), cel false b 50 (cfgC s.c ++ [.pointer (some ⟨z.1, 0, none⟩), z.2.1]), LgP z.1 s.c.clients.toNat s.l, Sl 56 2 z.2.1 s.ks.length (z.2.2.flatMap idv), big (List.zipWith PeP z.2.2 s.ks)]
def SqP (b : Nat) (s : Sqr) : HP := ex fun z => big (sqL b s z)
section
variable {ρ : Rst} {N : Nat} {env : Env} {L L' : List HP} {G : Act → World → Prop}
theorem St_sqOpen {b : Nat} {s : Sqr} (hc : Has L (SqP b s) L')
    (h : ∀ lb A c ids, ids.length = s.ks.length → St ρ N env (cel false b 50 (cfgC s.c ++ [.pointer (some ⟨lb, 0, none⟩), .slice A s.ks.length c]) :: LgP lb s.c.clients.toNat s.l :: Sl 56 2 (.slice A s.ks.length c) s.ks.length (ids.flatMap idv) :: big (List.zipWith PeP ids s.ks) :: L') G) : St ρ N env L G :=
  St_exOpen (l := sqL b s) hc fun z => St_lift fun hz => St_slIs (E := 56) (sz := 2) (v := z.2.1) (n := s.ks.length) (cs := z.2.2.flatMap idv) (.tail (.tail .head)) fun A c e => by
    have := h z.1 A c z.2.2 hz
    rw [← e] at this
    exact this
theorem St_sqMk {b lb : Nat} {s : Sqr} {v : Value} {ids : List (Nat × Nat)} (hz : ids.length = s.ks.length) (hs : Split L [cel false b 50 (cfgC s.c ++ [.pointer (some ⟨lb, 0, none⟩), v]), LgP lb s.c.clients.toNat s.l, Sl 56 2 v s.ks.length (ids.flatMap idv), big (List.zipWith PeP ids s.ks)] L')
    (h : St ρ N env (SqP b s :: L') G) : St ρ N env L G :=
  St_conv (fun w H => Holds.ex_mk (A := fun z => big (sqL b s z)) (lb, v, ids) (Holds.shut (l := [_, _, _, _, _]) (Holds.lift_mk hz (H.split hs)))) h
end
structure sqOk (s : Sqr) : Prop where
  c : cfgOk s.c
  n : s.ks.length = s.c.clients.toNat
  ks : ∀ k ∈ s.ks, lkOk k.1 ∧ k.2 ≤ s.l.length ∧ k.1.rc.q = [] ∧ k.1.pas = true
  l : lgOk s.c.clients.toNat s.l
theorem lgOk_mem {n : Nat} {l : List Ro} (h : lgOk n l) : ∀ r ∈ l, rmay r = 0 := fun r hr => by
  obtain ⟨i, hi, e⟩ := List.getElem_of_mem hr
  exact (h i r (by rw [List.getElem?_eq_getElem hi, e])).1
theorem lgOk_ups {n : Nat} {l : List Ro} (h : lgOk n l) : ∀ r ∈ l, r.ups.length ≤ 1000 := fun r hr => by
  obtain ⟨_, _, h3, _⟩ := rmay_zero (lgOk_mem h r hr); omega
theorem lastOf_le {l : List Ro} (h : ∀ r ∈ l, rmay r = 0) (o : Int) : lastOf l o ≤ 1099511627776 := by
  induction l with
  | nil => exact Nat.zero_le _
  | cons r l ih =>
    have h1 := ih fun x hx => h x (List.mem_cons_of_mem _ hx)
    obtain ⟨_, h2, _⟩ := rmay_zero (h r List.mem_cons_self)
    unfold lastOf
    split
    · split <;> omega
    · exact h1
theorem sin_sp (n lo hi : Int) : Sp Tryd.prog 22 [.int .i64 n, .int .i64 lo, .int .i64 hi] [] (fun v M => v = .bool (decide (lo ≤ n ∧ n ≤ hi)) ∧ M = []) := by
  refine Sp.intro (P := Tryd.prog) (Tryd.func22) rfl Tryd.ntmps22 (by decide) rfl ?_
  intro ρ F
  repeat' (first | (refine St_step ?_; (try with_reducible intro _)) | (refine St_step2 ?_ ?_ <;> (intro hb; (try simp only [beq_iff_eq, bne_iff_ne, decide_eq_true_eq, decide_eq_false_iff_not, Bool.not_eq_true', Bool.not_eq_false', beq_eq_false_iff_ne, bne_eq_false_iff_eq, ne_eq, Int.not_lt, Int.not_le, gt_iff_lt, ge_iff_le] at hb); (try (first | exact Bool.noConfusion hb | exact absurd trivial hb | (exfalso; omega))))) | fail)
  all_goals (refine St_ret1 (.inl rfl) rfl rfl ⟨?_, rfl⟩ (by exact Split.auto))
  all_goals first
    | (congr 1; rw [decide_eq_decide]; omega)
    | (congr 1; rw [eq_comm, decide_eq_false_iff_not]; omega)
    | (congr 1; rw [eq_comm, decide_eq_true_eq]; omega)
theorem sMay_sp (c : Cfg) : Sp Tryd.prog 8 [.agg (cfgC c).toArray] [] (fun v M => v = nat .i64 (if cfgOk c then 0 else 1) ∧ M = []) := by
  refine Sp.intro (P := Tryd.prog) (Tryd.func8) rfl Tryd.ntmps8 (by decide) rfl ?_
  intro ρ F
  by_cases h : cfgOk c
  · rw [if_pos h]
    obtain ⟨h1, h2, h3, h4, h5, h6⟩ := h
    repeat' (first | (apply St_call (hf := sin_sp _ _ _); exact rfl; exact rfl; exact Split.auto; rintro _ _ ⟨rfl, rfl⟩) | (refine St_step ?_; (try with_reducible intro _)) | (refine St_step2 ?_ ?_ <;> (intro hb; (try simp only [beq_iff_eq, bne_iff_ne, decide_eq_true_eq, decide_eq_false_iff_not, Bool.not_eq_true', Bool.not_eq_false', beq_eq_false_iff_ne, bne_eq_false_iff_eq, ne_eq, Int.not_lt, Int.not_le, gt_iff_lt, ge_iff_le] at hb); (try (first | exact Bool.noConfusion hb | exact absurd trivial hb | (exfalso; omega))))) | fail)
    all_goals (first | contradiction | (exfalso; omega) | (exact St_ret1 (.inl rfl) rfl rfl ⟨rfl, rfl⟩ (by exact Split.auto)) | (exact St_ret2 (.inl rfl) rfl rfl rfl ⟨rfl, rfl⟩ (by exact Split.auto)) | (exact St_ret3 (.inl rfl) rfl rfl rfl rfl ⟨rfl, rfl⟩ (by exact Split.auto)))
  · rw [if_neg h]
    have h' : ¬ ((1 ≤ c.clients ∧ c.clients ≤ 64) ∧ (1 ≤ c.window ∧ c.window ≤ 16) ∧ (1 ≤ c.push ∧ c.push ≤ 16) ∧ (1 ≤ c.pull ∧ c.pull ≤ 16) ∧ (64 ≤ c.mtu ∧ c.mtu ≤ 1400) ∧ (1 ≤ c.last ∧ c.last ≤ 1099511627776)) := h
    repeat' (first | (apply St_call (hf := sin_sp _ _ _); exact rfl; exact rfl; exact Split.auto; rintro _ _ ⟨rfl, rfl⟩) | (refine St_step ?_; (try with_reducible intro _)) | (refine St_step2 ?_ ?_ <;> (intro hb; (try simp only [beq_iff_eq, bne_iff_ne, decide_eq_true_eq, decide_eq_false_iff_not, Bool.not_eq_true', Bool.not_eq_false', beq_eq_false_iff_ne, bne_eq_false_iff_eq, ne_eq, Int.not_lt, Int.not_le, gt_iff_lt, ge_iff_le] at hb); (try (first | exact Bool.noConfusion hb | exact absurd trivial hb | (exfalso; omega))))) | fail)
    all_goals (first | contradiction | (exfalso; omega) | (exact St_ret1 (.inl rfl) rfl rfl ⟨rfl, rfl⟩ (by exact Split.auto)) | (exact St_ret2 (.inl rfl) rfl rfl rfl ⟨rfl, rfl⟩ (by exact Split.auto)) | (exact St_ret3 (.inl rfl) rfl rfl rfl rfl ⟨rfl, rfl⟩ (by exact Split.auto)))
theorem sLog_sp (b : Nat) (s : Sqr) (hs : sqOk s) (hl : s.l.length ≤ 1000000) : Sp Tryd.prog 20 [.pointer (some ⟨b, 0, none⟩)] [SqP b s] (fun w M => (∃ A c, w = .slice A s.l.length c) ∧ M = [RdP w s.l, SqP b s]) := by
  refine Sp.intro (P := Tryd.prog) (Tryd.func20) rfl Tryd.ntmps20 (by decide) rfl ?_
  intro ρ F
  refine St_sqOpen (b := b) (s := s) (by exact Has.auto) fun lb A c ids hz => ?_
  have ha := lgAll_sp lb s.c.clients.toNat s.l hl (lgOk_ups hs.l)
  repeat' (first | (apply St_call (hf := ha); exact rfl; exact rfl; exact Split.auto; rintro _ _ ⟨⟨A', c', rfl⟩, rfl⟩) | (refine St_step ?_; (try with_reducible intro _)) | (refine St_step2 ?_ ?_ <;> (intro hb; (try simp only [beq_iff_eq, bne_iff_ne, decide_eq_true_eq, decide_eq_false_iff_not, Bool.not_eq_true', Bool.not_eq_false', beq_eq_false_iff_ne, bne_eq_false_iff_eq, ne_eq, Int.not_lt, Int.not_le, gt_iff_lt, ge_iff_le] at hb); (try (first | exact Bool.noConfusion hb | exact absurd trivial hb | (exfalso; omega))))) | fail)
  refine St_sqMk (b := b) (lb := lb) (s := s) (v := .slice A s.ks.length c) (ids := ids) hz (by exact Split.auto) ?_
  exact St_ret1 (.inl rfl) rfl rfl ⟨⟨_, _, rfl⟩, rfl⟩ (by exact Split.auto)
section
variable {ρ : Rst} {N : Nat} {env : Env} {L L' : List HP} {G : Act → World → Prop}
theorem St_shut {l : List HP} (hs : Split L l L') (h : St ρ N env (big l :: L') G) : St ρ N env L G := St_conv (fun w H => Holds.shut (H.split hs)) h
theorem St_peGet {ids : List (Nat × Nat)} {ks : List (Lk × Nat)} {i : Nat} {x : Nat × Nat} {k : Lk × Nat} (hc : Has L (big (List.zipWith PeP ids ks)) L') (hx : ids[i]? = some x) (hk : ks[i]? = some k)
    (h : St ρ N env (LkP x.1 k.1 :: FdP x.2 k.2 :: big ((List.zipWith PeP ids ks).set i emp) :: L') G) : St ρ N env L G :=
  St_bigGet hc (zip_get hx hk) (St_open (l := [LkP x.1 k.1, FdP x.2 k.2]) h)
theorem St_pePut {ids : List (Nat × Nat)} {ks : List (Lk × Nat)} {i : Nat} {x : Nat × Nat} {k : Lk × Nat} (hx : ids[i]? = some x) (hk : i < ks.length) (hs : Split L [LkP x.1 k.1, FdP x.2 k.2, big ((List.zipWith PeP ids ks).set i emp)] L')
    (h : St ρ N env (big (List.zipWith PeP ids (ks.set i k)) :: L') G) : St ρ N env L G := by
  have hlt : i < ids.length := by
    rcases Nat.lt_or_ge i ids.length with q | q
    · exact q
    · rw [List.getElem?_eq_none q] at hx; cases hx
  refine St_conv (L' := PeP x k :: big ((List.zipWith PeP ids ks).set i emp) :: L') (fun w H => by
    have H1 := Holds.split H hs
    exact Holds.shut (l := [LkP x.1 k.1, FdP x.2 k.2]) H1) ?_
  refine St_bigPut (l := List.zipWith PeP ids ks) (i := i) (A := PeP x k) (by simp; omega) (.cons .head (.cons .head .nil)) ?_
  rw [zip_set hx]
  exact h
variable {P : Program} {Q : Exit → Act → World → Prop} {K : Act → World → Prop}
variable {d : Nat} {dd : Option Nat} {op : Op} {ty : TypeId} {pos : String} {aft : Array Edge} {g : Option (Nat × Bool)}
theorem Rd_subV {T U : TypeId} {x y : Operand} {m n r : Int} (hx : ev env x = some (.int .i64 m)) (hy : ev env y = some (.int .i64 n)) (hr : m - n = r)
    (hb : -9223372036854775808 ≤ r ∧ r ≤ 9223372036854775807) : Rd P ρ N env L ⟨dd, .binOp .sub T x y U, ty, pos, aft, g⟩ (.int .i64 r) := by
  subst hr; exact Rd_sub hx hy hb
end
def sqFed (s : Sqr) (n : Int) : Nat := if n < 1 ∨ s.c.clients < n then 0 else match s.ks[(n - 1).toNat]? with | some k => k.2 | none => 0
def sqUn (s : Sqr) (n : Int) : Nat := if n < 1 ∨ s.c.clients < n then 0 else match s.ks[(n - 1).toNat]? with | some k => k.1.sd.ps.length | none => 0
theorem sFed_sp (b : Nat) (s : Sqr) (n : Int) (hs : sqOk s) : Sp Tryd.prog 21 [.pointer (some ⟨b, 0, none⟩), .int .i64 n] [SqP b s] (fun w M => w = nat .i64 (sqFed s n) ∧ M = [SqP b s]) := by
  refine Sp.intro (P := Tryd.prog) (Tryd.func21) rfl Tryd.ntmps21 (by decide) rfl ?_
  intro ρ F
  refine St_sqOpen (b := b) (s := s) (by exact Has.auto) fun lb A c ids hz => ?_
  have hcl := hs.n
  obtain ⟨⟨c1, c2⟩, _⟩ := hs.c
  unfold sqFed
  by_cases hn : n < 1 ∨ s.c.clients < n
  · rw [if_pos hn]
    repeat' (first | (apply St_call (hf := sin_sp _ _ _); exact rfl; exact rfl; exact Split.auto; rintro _ _ ⟨rfl, rfl⟩) | (refine St_step ?_; (try with_reducible intro _)) | (refine St_step2 ?_ ?_ <;> (intro hb; (try simp only [beq_iff_eq, bne_iff_ne, decide_eq_true_eq, decide_eq_false_iff_not, Bool.not_eq_true', Bool.not_eq_false', beq_eq_false_iff_ne, bne_eq_false_iff_eq, ne_eq, Int.not_lt, Int.not_le, gt_iff_lt, ge_iff_le] at hb); (try (first | exact Bool.noConfusion hb | exact absurd trivial hb | (exfalso; omega))))) | fail)
    all_goals first | (exfalso; omega) | skip
    all_goals refine St_sqMk (b := b) (lb := lb) (s := s) (v := .slice A s.ks.length c) (ids := ids) hz (by exact Split.auto) ?_
    all_goals exact St_ret1 (.inl rfl) rfl rfl ⟨rfl, rfl⟩ (by exact Split.auto)
  · rw [if_neg hn]
    obtain ⟨i, hi⟩ := Int.eq_ofNat_of_zero_le (show 0 ≤ n - 1 by omega)
    have hil : i < s.ks.length := by omega
    obtain ⟨k, hk⟩ : ∃ k, s.ks[i]? = some k := ⟨_, List.getElem?_eq_getElem hil⟩
    obtain ⟨x, hx⟩ : ∃ x, ids[i]? = some x := ⟨_, List.getElem?_eq_getElem (by omega)⟩
    rw [hi, Int.toNat_natCast, hk]
    dsimp only
    refine St_slOpen (E := 56) (sz := 2) (n := s.ks.length) (v := .slice A s.ks.length c) (by exact Has.auto) (fun h _ _ => ?_) ?_
    · injection h with h1 h2 h3; omega
    rintro b2 cap pre rest hv hcap hrest hlen
    injection hv with hv1 hv2 hv3
    subst hv1 hv3
    have hc1 := flat_cell idv_len pre rest hx (show 1 < 2 by decide)
    refine St_peGet (ids := ids) (ks := s.ks) (by exact Has.auto) hx hk ?_
    repeat' (first | (apply St_call (hf := sin_sp _ _ _); exact rfl; exact rfl; exact Split.auto; rintro _ _ ⟨rfl, rfl⟩) | (apply St_call (hf := fdAt_sp x.2 k.2); exact rfl; exact rfl; exact Split.auto; rintro _ _ ⟨rfl, rfl⟩) | (apply St_rd; exact rfl; (first | (apply Rd_subV; exact rfl; exact rfl; exact hi; omega) | (apply Rd_loadn tb; exact rfl; exact rfl; exact rfl; exact Has.auto; exact hc1))) | (apply Sq_rd; exact rfl; (first | (apply Rd_subV; exact rfl; exact rfl; exact hi; omega) | (apply Rd_loadn tb; exact rfl; exact rfl; exact rfl; exact Has.auto; exact hc1))) | (refine St_step ?_; (try with_reducible intro _)) | (refine St_step2 ?_ ?_ <;> (intro hb; (try simp only [beq_iff_eq, bne_iff_ne, decide_eq_true_eq, decide_eq_false_iff_not, Bool.not_eq_true', Bool.not_eq_false', beq_eq_false_iff_ne, bne_eq_false_iff_eq, ne_eq, Int.not_lt, Int.not_le, gt_iff_lt, ge_iff_le] at hb); (try (first | exact Bool.noConfusion hb | exact absurd trivial hb | (exfalso; omega))))) | fail)
    all_goals first | (exfalso; omega) | skip
    refine St_pePut (ids := ids) (ks := s.ks) (k := k) hx hil (by exact Split.auto) ?_
    have hset : s.ks.set i k = s.ks := by
      apply List.ext_getElem?
      intro j
      rw [List.getElem?_set]
      by_cases hij : i = j
      · subst hij; rw [if_pos rfl, if_pos hil, hk]
      · rw [if_neg hij]
    rw [hset]
    refine St_slMk (sz := 2) (n := s.ks.length) (cap := c) (pre := pre) (cs := ids.flatMap idv) (rest := rest) (by exact Has.auto) hcap hrest hlen ?_
    refine St_sqMk (b := b) (lb := lb) (s := s) (v := .slice (some ⟨b2, pre.length, none⟩) s.ks.length c) (ids := ids) hz (by exact Split.auto) ?_
    exact St_ret1 (.inl rfl) rfl rfl ⟨rfl, rfl⟩ (by exact Split.auto)
theorem sUn_sp (b : Nat) (s : Sqr) (n : Int) (hs : sqOk s) : Sp Tryd.prog 13 [.pointer (some ⟨b, 0, none⟩), .int .i64 n] [SqP b s] (fun w M => w = nat .i64 (sqUn s n) ∧ M = [SqP b s]) := by
  refine Sp.intro (P := Tryd.prog) (Tryd.func13) rfl Tryd.ntmps13 (by decide) rfl ?_
  intro ρ F
  refine St_sqOpen (b := b) (s := s) (by exact Has.auto) fun lb A c ids hz => ?_
  have hcl := hs.n
  obtain ⟨⟨c1, c2⟩, _⟩ := hs.c
  unfold sqUn
  by_cases hn : n < 1 ∨ s.c.clients < n
  · rw [if_pos hn]
    repeat' (first | (apply St_call (hf := sin_sp _ _ _); exact rfl; exact rfl; exact Split.auto; rintro _ _ ⟨rfl, rfl⟩) | (refine St_step ?_; (try with_reducible intro _)) | (refine St_step2 ?_ ?_ <;> (intro hb; (try simp only [beq_iff_eq, bne_iff_ne, decide_eq_true_eq, decide_eq_false_iff_not, Bool.not_eq_true', Bool.not_eq_false', beq_eq_false_iff_ne, bne_eq_false_iff_eq, ne_eq, Int.not_lt, Int.not_le, gt_iff_lt, ge_iff_le] at hb); (try (first | exact Bool.noConfusion hb | exact absurd trivial hb | (exfalso; omega))))) | fail)
    all_goals first | (exfalso; omega) | skip
    all_goals refine St_sqMk (b := b) (lb := lb) (s := s) (v := .slice A s.ks.length c) (ids := ids) hz (by exact Split.auto) ?_
    all_goals exact St_ret1 (.inl rfl) rfl rfl ⟨rfl, rfl⟩ (by exact Split.auto)
  · rw [if_neg hn]
    obtain ⟨i, hi⟩ := Int.eq_ofNat_of_zero_le (show 0 ≤ n - 1 by omega)
    have hil : i < s.ks.length := by omega
    obtain ⟨k, hk⟩ : ∃ k, s.ks[i]? = some k := ⟨_, List.getElem?_eq_getElem hil⟩
    obtain ⟨x, hx⟩ : ∃ x, ids[i]? = some x := ⟨_, List.getElem?_eq_getElem (by omega)⟩
    rw [hi, Int.toNat_natCast, hk]
    dsimp only
    refine St_slOpen (E := 56) (sz := 2) (n := s.ks.length) (v := .slice A s.ks.length c) (by exact Has.auto) (fun h _ _ => ?_) ?_
    · injection h with h1 h2 h3; omega
    rintro b2 cap pre rest hv hcap hrest hlen
    injection hv with hv1 hv2 hv3
    subst hv1 hv3
    have hc1 := flat_cell idv_len pre rest hx (show 0 < 2 by decide)
    refine St_peGet (ids := ids) (ks := s.ks) (by exact Has.auto) hx hk ?_
    repeat' (first | (apply St_call (hf := sin_sp _ _ _); exact rfl; exact rfl; exact Split.auto; rintro _ _ ⟨rfl, rfl⟩) | (apply St_call (hf := lkUn_sp x.1 k.1); exact rfl; exact rfl; exact Split.auto; rintro _ _ ⟨rfl, rfl⟩) | (apply St_rd; exact rfl; (first | (apply Rd_subV; exact rfl; exact rfl; exact hi; omega) | (apply Rd_loadn tb; exact rfl; exact rfl; exact rfl; exact Has.auto; exact hc1))) | (apply Sq_rd; exact rfl; (first | (apply Rd_subV; exact rfl; exact rfl; exact hi; omega) | (apply Rd_loadn tb; exact rfl; exact rfl; exact rfl; exact Has.auto; exact hc1))) | (refine St_step ?_; (try with_reducible intro _)) | (refine St_step2 ?_ ?_ <;> (intro hb; (try simp only [beq_iff_eq, bne_iff_ne, decide_eq_true_eq, decide_eq_false_iff_not, Bool.not_eq_true', Bool.not_eq_false', beq_eq_false_iff_ne, bne_eq_false_iff_eq, ne_eq, Int.not_lt, Int.not_le, gt_iff_lt, ge_iff_le] at hb); (try (first | exact Bool.noConfusion hb | exact absurd trivial hb | (exfalso; omega))))) | fail)
    all_goals first | (exfalso; omega) | skip
    refine St_pePut (ids := ids) (ks := s.ks) (k := k) hx hil (by exact Split.auto) ?_
    have hset : s.ks.set i k = s.ks := by
      apply List.ext_getElem?
      intro j
      rw [List.getElem?_set]
      by_cases hij : i = j
      · subst hij; rw [if_pos rfl, if_pos hil, hk]
      · rw [if_neg hij]
    rw [hset]
    refine St_slMk (sz := 2) (n := s.ks.length) (cap := c) (pre := pre) (cs := ids.flatMap idv) (rest := rest) (by exact Has.auto) hcap hrest hlen ?_
    refine St_sqMk (b := b) (lb := lb) (s := s) (v := .slice (some ⟨b2, pre.length, none⟩) s.ks.length c) (ids := ids) hz (by exact Split.auto) ?_
    exact St_ret1 (.inl rfl) rfl rfl ⟨rfl, rfl⟩ (by exact Split.auto)
end Go.Proofs.YtfjnacakpeommaaDoor
