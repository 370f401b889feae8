/- Contracts: package commit. -/
import Derived.Test.YtfjnacakpeommaaDoorC19
namespace Go.Proofs.YtfjnacakpeommaaDoor
open Go SL Pl
set_option autoImplicit false
set_option maxRecDepth 100000
set_option linter.unusedSimpArgs false
set_option linter.unusedVariables false
attribute [local irreducible] St Sq Exec QExec wpList wpQuiet Code.wp Exit.then Exit.inBlock bodyPost At Rd wpOp Wa QK GB
theorem big_dup {l : List HP} {A : HP} (hA : Dup A) (hm : A ∈ l) : ∀ {h : Hp}, big l h → star A (big l) h := by
  induction l with
  | nil => cases hm
  | cons B l ih =>
    intro h H
    rcases List.mem_cons.1 hm with rfl | hm
    · exact star_assoc' (star_mono (fun _ a => hA _ a) (fun _ b => b) H)
    · exact star_swap (star_mono (fun _ a => a) (fun _ b => ih hm b) H)
/-- Rounds, with their updates' slices. -/
abbrev rvp (x : Ro × Value) : List Value := rv x.1 x.2
theorem rvp_len (x : Ro × Value) : (rvp x).length = 3 := rfl
abbrev ulp (x : Ro × Value) : HP := UL true x.2 x.1.ups
def ULs (xs : List (Ro × Value)) : HP := big (xs.map ulp)
theorem dup_uls (xs : List (Ro × Value)) : Dup (ULs xs) := dup_big fun A hA => by
  obtain ⟨x, _, rfl⟩ := List.mem_map.1 hA
  exact dup_rs _ _ _
section
variable {ρ : Rst} {N : Nat} {env : Env} {L L' : List HP} {G : Act → World → Prop}
theorem St_ulGet {xs : List (Ro × Value)} {x : Ro × Value} (hc : Has L (ULs xs) L') (hx : x ∈ xs) (h : St ρ N env (ulp x :: ULs xs :: L') G) : St ρ N env L G :=
  St_conv (L' := ulp x :: ULs xs :: L') (fun w H => (H.has hc).mono fun _ y => star_assoc' (star_mono (fun _ a => big_dup (dup_rs _ _ _) (List.mem_map.2 ⟨x, hx, rfl⟩) a) (fun _ b => b) y)) h
theorem St_ulAdd {xs : List (Ro × Value)} {x : Ro × Value} (hs : Split L [ULs xs, ulp x] L') (h : St ρ N env (ULs (xs ++ [x]) :: L') G) : St ρ N env L G :=
  St_conv (fun w H => (H.split hs).mono fun _ y => by
    have y2 := star_assoc y
    refine star_mono (fun h a => ?_) (fun _ b => b) y2
    unfold ULs
    rw [List.map_append]
    exact big_append.2 (star_mono (fun _ c => c) (fun h c => ⟨h, E0, Cmp_E0 h, (Jn_E0 h).symm, c, rfl⟩) a)) h
theorem St_ulNil (h : St ρ N env (ULs [] :: L) G) : St ρ N env L G :=
  St_conv (L' := ULs [] :: L) (fun w H => H.mono fun h x => ⟨E0, h, E0_Cmp h, rfl, rfl, x⟩) h
end
/-- The last numbers, by origin. -/
def lastC (l : List Ro) : List Value := (List.range 65).map fun (o : Nat) => nat .i64 (lastOf l (o : Int))
theorem lastC_len (l : List Ro) : (lastC l).length = 65 := by simp [lastC]
theorem lastC_at (l : List Ro) (o : Nat) (h : o < 65) : (lastC l)[o]? = some (nat .i64 (lastOf l (o : Int))) := by
  simp [lastC, h]
theorem lastC_set (l : List Ro) (r : Ro) (o : Nat) (h : o < 65) (ho : r.origin = o) (hn : r.number = (lastOf l r.origin : Int) + 1) : (lastC l).set o (nat .i64 (lastOf l (o : Int) + 1)) = lastC (l ++ [r]) := by
  apply List.ext_getElem?
  intro j
  rw [List.getElem?_set]
  by_cases hj : j < 65
  · have h2 : ∀ l, (lastC l)[j]? = some (nat .i64 (lastOf l (j : Int))) := fun l => lastC_at l j hj
    rw [h2 (l ++ [r]), lastOf_snoc l r j (by omega)]
    by_cases hoj : o = j
    · subst hoj
      rw [if_pos rfl, if_pos (by rw [lastC_len]; exact h), if_pos ho]
      rw [ho] at hn
      congr 2
      omega
    · rw [if_neg hoj, if_neg (by omega), h2 l]
  · have h2 : ∀ l, (lastC l)[j]? = none := fun l => List.getElem?_eq_none (by rw [lastC_len]; omega)
    rw [if_neg (by omega), h2, h2]
def lgL (b clients : Nat) (l : List Ro) (z : Value × List (Ro × Value)) : List HP :=
  [lift (z.2.map (·.1) = l), cel false b 89 (nat .i64 clients :: z.1 :: lastC l), Sl 62 3 z.1 l.length (z.2.flatMap rvp), ULs z.2]
def LgP (b clients : Nat) (l : List Ro) : HP := ex fun z => big (lgL b clients l z)
section
variable {ρ : Rst} {N : Nat} {env : Env} {L L' : List HP} {G : Act → World → Prop}
theorem St_lgOpen {b clients : Nat} {l : List Ro} (hc : Has L (LgP b clients l) L')
    (h : ∀ v xs, xs.map (·.1) = l → St ρ N env (cel false b 89 (nat .i64 clients :: v :: lastC l) :: Sl 62 3 v l.length (xs.flatMap rvp) :: ULs xs :: L') G) : St ρ N env L G :=
  St_exOpen (l := lgL b clients l) hc fun z => St_lift fun hz => h z.1 z.2 hz
theorem St_lgMk {b clients : Nat} {l : List Ro} {v : Value} {xs : List (Ro × Value)} (hx : xs.map (·.1) = l) (hs : Split L [cel false b 89 (nat .i64 clients :: v :: lastC l), Sl 62 3 v l.length (xs.flatMap rvp), ULs xs] L')
    (h : St ρ N env (LgP b clients l :: L') G) : St ρ N env L G :=
  St_conv (fun w H => Holds.ex_mk (A := fun z => big (lgL b clients l z)) (v, xs) (Holds.shut (l := [_, _, _, _]) (Holds.lift_mk hx (H.split hs)))) h
end
theorem lgNew_sp (n : Int) : Sp Tryd.prog 14 [.int .i64 n] [] (fun v M => ∃ b, v = .pointer (some ⟨b, 0, none⟩) ∧ M = [LgP b (clampN n 1 64).toNat []]) := by
  refine Sp.intro (P := Tryd.prog) (Tryd.func14) rfl Tryd.ntmps14 (by decide) rfl ?_
  intro ρ F
  repeat' (first | (refine St_step ?_; (try with_reducible intro _)) | (refine St_step2 ?_ ?_ <;> (intro hb; (try simp only [beq_iff_eq, bne_iff_ne, decide_eq_true_eq, decide_eq_false_iff_not, Bool.not_eq_true', Bool.not_eq_false', beq_eq_false_iff_ne, bne_eq_false_iff_eq, ne_eq, Int.not_lt, Int.not_le, gt_iff_lt, ge_iff_le] at hb); (try (first | exact Bool.noConfusion hb | exact absurd trivial hb | (exfalso; omega))))) | fail)
  rename_i b
  refine St_cel (r := false) (b := b) (cs' := nat .i64 (clampN n 1 64).toNat :: .slice none 0 0 :: lastC []) (by exact Has.auto) ?_ ?_
  · rw [clamp_val (by decide), clamp_nat (w := n) (lo := 1) (hi := 64) (by decide) (by decide)]
    rfl
  refine St_slNil (E := 62) (sz := 3) ?_
  refine St_ulNil ?_
  refine St_lgMk (b := b) (clients := (clampN n 1 64).toNat) (l := []) (v := .slice none 0 0) (xs := []) rfl (by exact Split.auto) ?_
  exact St_ret1 (.inl rfl) rfl rfl ⟨_, rfl, rfl⟩ (by exact Split.auto)
theorem lgAt_sp (b clients i : Nat) (l : List Ro) (hu : ∀ r ∈ l, r.ups.length ≤ 1000) : Sp Tryd.prog 56 [.pointer (some ⟨b, 0, none⟩), nat .i64 i] [LgP b clients l]
    (fun w M => (∃ r v, l[i]? = some r ∧ w = .tuple [.agg (rv r v).toArray, .bool true].toArray ∧ M = [UL true v r.ups, LgP b clients l]) ∨ (l[i]? = none ∧ w = .tuple [.agg (rv ro0 (.slice none 0 0)).toArray, .bool false].toArray ∧ M = [LgP b clients l])) := by
  refine Sp.intro (P := Tryd.prog) (Tryd.func56) rfl Tryd.ntmps56 (by decide) rfl ?_
  intro ρ F
  refine St_lgOpen (by exact Has.auto) fun v xs hx => ?_
  refine St_slIs (v := v) (by exact Has.auto) ?_
  rintro A c rfl
  by_cases hi : i < l.length
  · obtain ⟨y, hy⟩ : ∃ y, xs[i]? = some y := ⟨_, List.getElem?_eq_getElem (by rw [← hx] at hi; simpa using hi)⟩
    obtain ⟨r, u⟩ := y
    have hr : l[i]? = some r := by rw [← hx, List.getElem?_map, hy]; rfl
    refine St_slOpen (v := .slice A l.length c) (by exact Has.auto) (fun h _ _ => ?_) ?_
    · injection h with h1 h2 h3; omega
    rintro b2 cap pre rest hv hcap hrest hlen
    injection hv with hv1 hv2 hv3
    subst hv1 hv3
    have hld := flat_at rvp_len xs i (r, u) pre rest hy
    have hroom := flat_room rvp_len xs i pre rest (by rw [← hx] at hi; simpa using hi)
    have cc := copy_sp true r u (hu r (List.mem_of_getElem? hr))
    refine St_ulGet (xs := xs) (x := (r, u)) (by exact Has.auto) (List.mem_of_getElem? hy) ?_
    repeat' (first | (apply St_call (hf := cc); exact rfl; exact rfl; exact Split.auto; rintro _ _ ⟨v', rfl, rfl⟩) | (apply St_rd; exact rfl; (first | (apply Rd_loadA tb; exact rfl; exact rfl; exact rfl; exact Has.auto; exact hroom; exact hld))) | (apply Sq_rd; exact rfl; (first | (apply Rd_loadA tb; exact rfl; exact rfl; exact rfl; exact Has.auto; exact hroom; exact hld))) | (refine St_step ?_; (try with_reducible intro _)) | (refine St_step2 ?_ ?_ <;> (intro hb; (try simp only [beq_iff_eq, bne_iff_ne, decide_eq_true_eq, decide_eq_false_iff_not, Bool.not_eq_true', Bool.not_eq_false', beq_eq_false_iff_ne, bne_eq_false_iff_eq, ne_eq, Int.not_lt, Int.not_le, gt_iff_lt, ge_iff_le] at hb); (try (first | exact Bool.noConfusion hb | exact absurd trivial hb | (exfalso; omega))))) | fail)
    refine St_rsIs (r := true) (v := v') (n := r.ups.length) (cs := r.ups.flatMap uv) (by exact Has.auto) ?_
    rintro A' c' rfl
    repeat' (first | (refine St_step ?_; (try with_reducible intro _)) | (refine St_step2 ?_ ?_ <;> (intro hb; (try simp only [beq_iff_eq, bne_iff_ne, decide_eq_true_eq, decide_eq_false_iff_not, Bool.not_eq_true', Bool.not_eq_false', beq_eq_false_iff_ne, bne_eq_false_iff_eq, ne_eq, Int.not_lt, Int.not_le, gt_iff_lt, ge_iff_le] at hb); (try (first | exact Bool.noConfusion hb | exact absurd trivial hb | (exfalso; omega))))) | fail)
    refine St_slMk (sz := 3) (n := l.length) (cap := c) (pre := pre) (cs := xs.flatMap rvp) (rest := rest) (by exact Has.auto) hcap hrest hlen ?_
    refine St_lgMk (b := b) (clients := clients) (l := l) (v := .slice (some ⟨b2, pre.length, none⟩) l.length c) (xs := xs) hx (by exact Split.auto) ?_
    exact St_retCT tb (.inl rfl) rfl rfl rfl rfl rfl (by exact Has.auto) rfl (.inl ⟨r, _, hr, rfl, rfl⟩) (by exact Split.auto)
  · have hn : l[i]? = none := List.getElem?_eq_none (by omega)
    repeat' (first | (refine St_step ?_; (try with_reducible intro _)) | (refine St_step2 ?_ ?_ <;> (intro hb; (try simp only [beq_iff_eq, bne_iff_ne, decide_eq_true_eq, decide_eq_false_iff_not, Bool.not_eq_true', Bool.not_eq_false', beq_eq_false_iff_ne, bne_eq_false_iff_eq, ne_eq, Int.not_lt, Int.not_le, gt_iff_lt, ge_iff_le] at hb); (try (first | exact Bool.noConfusion hb | exact absurd trivial hb | (exfalso; omega))))) | fail)
    all_goals first | (exfalso; omega) | skip
    all_goals refine St_lgMk (b := b) (clients := clients) (l := l) (v := .slice A l.length c) (xs := xs) hx (by exact Split.auto) ?_
    all_goals exact St_retCT tb (.inl rfl) rfl rfl rfl rfl rfl (by exact Has.auto) rfl (.inr ⟨hn, rfl, rfl⟩) (by exact Split.auto)
/-- Rounds that are read: a slice of them. -/
def RdL (v : Value) (l : List Ro) (xs : List (Ro × Value)) : List HP := [lift (xs.map (·.1) = l), RS true v l.length (xs.flatMap rvp), ULs xs]
def RdP (v : Value) (l : List Ro) : HP := ex fun xs => big (RdL v l xs)
theorem dup_rd (v : Value) (l : List Ro) : Dup (RdP v l) := dup_ex fun xs => dup_big fun A hA => by
  simp only [RdL, List.mem_cons, List.not_mem_nil, or_false] at hA
  rcases hA with rfl | rfl | rfl
  · exact dup_lift _
  · exact dup_rs _ _ _
  · exact dup_uls _
section
variable {ρ : Rst} {N : Nat} {env : Env} {L L' : List HP} {G : Act → World → Prop}
theorem St_rdOpen {v : Value} {l : List Ro} (hc : Has L (RdP v l) L') (h : ∀ xs, xs.map (·.1) = l → St ρ N env (RS true v l.length (xs.flatMap rvp) :: ULs xs :: L') G) : St ρ N env L G :=
  St_exOpen (l := RdL v l) hc fun xs => St_lift fun hx => h xs hx
theorem St_rdMk {v : Value} {l : List Ro} {xs : List (Ro × Value)} (hx : xs.map (·.1) = l) (hs : Split L [RS true v l.length (xs.flatMap rvp), ULs xs] L') (h : St ρ N env (RdP v l :: L') G) : St ρ N env L G :=
  St_conv (fun w H => Holds.ex_mk (A := fun z => big (RdL v l z)) xs (Holds.shut (l := [_, _, _]) (Holds.lift_mk hx (H.split hs)))) h
end
set_option maxHeartbeats 1000000 in
theorem lgAll_sp (b clients : Nat) (l : List Ro) (hl : l.length ≤ 1000000) (hu : ∀ r ∈ l, r.ups.length ≤ 1000) : Sp Tryd.prog 45 [.pointer (some ⟨b, 0, none⟩)] [LgP b clients l]
    (fun w M => (∃ A c, w = .slice A l.length c) ∧ M = [RdP w l, LgP b clients l]) := by
  refine Sp.intro (P := Tryd.prog) (Tryd.func45) rfl Tryd.ntmps45 (by decide) rfl ?_
  intro ρ F
  refine St_lgOpen (by exact Has.auto) fun v xs hx => ?_
  refine St_slIs (v := v) (by exact Has.auto) ?_
  rintro A c rfl
  have hxl : xs.length = l.length := by rw [← hx]; simp
  refine St_slNil (E := 62) (sz := 3) ?_
  refine St_ulNil ?_
  repeat' (first | (refine St_loop (fun (y : Nat × Option Addr × Nat × List (Ro × Value)) => y.1 ≤ l.length ∧ y.2.2.2.map (·.1) = l.take y.1) (fun y => [(3, .slice y.2.1 y.1 y.2.2.1), (9, .slice A l.length c), (10, nat .i64 l.length), (11, nat .i64 y.1)]) (fun y => [Sl 62 3 (.slice y.2.1 y.1 y.2.2.1) y.1 (y.2.2.2.flatMap rvp), ULs y.2.2.2, cel false b 89 (nat .i64 clients :: .slice A l.length c :: lastC l), Sl 62 3 (.slice A l.length c) l.length (xs.flatMap rvp), ULs xs, big F]) (fun y => l.length - y.1) (0, none, 0, []) ⟨Nat.zero_le _, rfl⟩ ⟨rfl, rfl, rfl, rfl, trivial⟩ (by exact Split.auto) ?_) | (refine St_step ?_; (try with_reducible intro _)) | (refine St_step2 ?_ ?_ <;> (intro hb; (try simp only [beq_iff_eq, bne_iff_ne, decide_eq_true_eq, decide_eq_false_iff_not, Bool.not_eq_true', Bool.not_eq_false', beq_eq_false_iff_ne, bne_eq_false_iff_eq, ne_eq, Int.not_lt, Int.not_le, gt_iff_lt, ge_iff_le] at hb); (try (first | exact Bool.noConfusion hb | exact absurd trivial hb | (exfalso; omega))))) | fail)
  rintro ⟨i, A1, c1, ys⟩ ⟨hi, hys⟩
  have hi : i ≤ l.length := hi
  have hys : ys.map (·.1) = l.take i := hys
  dsimp only
  by_cases hil : i < l.length
  · obtain ⟨y, hy⟩ : ∃ y, xs[i]? = some y := ⟨_, List.getElem?_eq_getElem (by omega)⟩
    obtain ⟨r, u⟩ := y
    have hr : l[i]? = some r := by rw [← hx, List.getElem?_map, hy]; rfl
    refine St_slOpen (v := .slice A l.length c) (cs := xs.flatMap rvp) (by exact Has.auto) (fun h _ _ => ?_) ?_
    · injection h with h1 h2 h3; omega
    rintro b2 cap pre rest hv hcap hrest hlen
    injection hv with hv1 hv2 hv3
    subst hv1 hv3
    have hld := flat_at rvp_len xs i (r, u) pre rest hy
    have hroom := flat_room rvp_len xs i pre rest (by omega)
    have cc := copy_sp true r u (hu r (List.mem_of_getElem? hr))
    refine St_ulGet (xs := xs) (x := (r, u)) (by exact Has.auto) (List.mem_of_getElem? hy) ?_
    refine St_rsIs (r := true) (v := u) (n := r.ups.length) (cs := r.ups.flatMap uv) (by exact Has.auto) ?_
    rintro Au cu rfl
    have hylen : ys.length = i := by have := congrArg List.length hys; simp at this; omega
    repeat' (first | (apply St_call (hf := cc); exact rfl; exact rfl; exact Split.auto; rintro _ _ ⟨v', rfl, rfl⟩; refine St_rsIs (r := true) (v := v') (n := r.ups.length) (cs := r.ups.flatMap uv) (by exact Has.auto) ?_; rintro A' c' rfl) | (apply St_append tb (sz := 3) (n := i) (cs := ys.flatMap rvp); (repeat exact rfl); exact Has.auto; (intro _; exact Src.row (n := 1) (by exact Has.auto) (by simp) (by exact rfl)); exact rfl; (dsimp only; omega); intro v'; refine St_slIs (v := v') (n := i + 1) (by exact Has.auto) ?_; rintro A2 c2 rfl) | (apply St_rd; exact rfl; (first | (apply Rd_loadA tb; exact rfl; exact rfl; exact rfl; exact Has.auto; exact hroom; exact hld))) | (apply Sq_rd; exact rfl; (first | (apply Rd_loadA tb; exact rfl; exact rfl; exact rfl; exact Has.auto; exact hroom; exact hld))) | (refine St_step ?_; (try with_reducible intro _)) | (refine St_step2 ?_ ?_ <;> (intro hb; (try simp only [beq_iff_eq, bne_iff_ne, decide_eq_true_eq, decide_eq_false_iff_not, Bool.not_eq_true', Bool.not_eq_false', beq_eq_false_iff_ne, bne_eq_false_iff_eq, ne_eq, Int.not_lt, Int.not_le, gt_iff_lt, ge_iff_le] at hb); (try (first | exact Bool.noConfusion hb | exact absurd trivial hb | (exfalso; omega))))) | fail)
    all_goals first | (exfalso; omega) | skip
    refine St_slMk (sz := 3) (n := l.length) (cap := c) (pre := pre) (cs := xs.flatMap rvp) (rest := rest) (by exact Has.auto) hcap hrest hlen ?_
    refine St_ulAdd (xs := ys) (x := (r, .slice A' r.ups.length c')) (by exact Split.auto) ?_
    refine St_slEq (cs' := (ys ++ [(r, Value.slice A' r.ups.length c')]).flatMap rvp) (n' := i + 1) (by exact Has.auto) (by rw [List.flatMap_append]; rfl) rfl ?_
    exact St_at (i + 1, A2, c2, ys ++ [(r, .slice A' r.ups.length c')]) ⟨⟨by show i + 1 ≤ _; omega, by show (ys ++ [_]).map _ = l.take (i + 1); rw [List.map_append, hys, List.take_add_one, hr]; rfl⟩, by show _ - (i + 1) < _ - i; omega⟩ ⟨rfl, rfl, rfl, rfl, trivial⟩ (by exact Split.auto)
  · have hii : i = l.length := by omega
    subst hii
    rw [List.take_length] at hys
    repeat' (first | (refine St_step ?_; (try with_reducible intro _)) | (refine St_step2 ?_ ?_ <;> (intro hb; (try simp only [beq_iff_eq, bne_iff_ne, decide_eq_true_eq, decide_eq_false_iff_not, Bool.not_eq_true', Bool.not_eq_false', beq_eq_false_iff_ne, bne_eq_false_iff_eq, ne_eq, Int.not_lt, Int.not_le, gt_iff_lt, ge_iff_le] at hb); (try (first | exact Bool.noConfusion hb | exact absurd trivial hb | (exfalso; omega))))) | fail)
    refine St_slShare (v := .slice A1 l.length c1) (cs := ys.flatMap rvp) (by exact Has.auto) ?_
    refine St_rdMk (v := .slice A1 l.length c1) (l := l) (xs := ys) hys (by exact Split.auto) ?_
    refine St_lgMk (b := b) (clients := clients) (l := l) (v := .slice A l.length c) (xs := xs) hx (by exact Split.auto) ?_
    exact St_ret1 (.inl rfl) rfl rfl ⟨⟨_, _, rfl⟩, rfl⟩ (by exact Split.auto)
end Go.Proofs.YtfjnacakpeommaaDoor
