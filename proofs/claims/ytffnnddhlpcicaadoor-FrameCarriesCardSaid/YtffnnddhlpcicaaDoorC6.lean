/- Contracts: chapbookref03's reader and writing; the writer's other methods. -/
import Derived.Test.YtffnnddhlpcicaaDoorC5
namespace Go.Proofs.YtffnnddhlpcicaaDoor
open Go SL Pl
set_option autoImplicit false
set_option maxRecDepth 100000
set_option linter.unusedSimpArgs false
set_option linter.unusedVariables false
attribute [local irreducible] St Sq Exec QExec wpList wpQuiet Code.wp Exit.then Exit.inBlock bodyPost At Rd wpOp Wa QK GB
/-- A reader of chapbookref03. -/
abbrev Rf (k : Nat) (s : List UInt8) (r : Rs) : HP := cel false k 61 [str s, nat .i64 r.at_, nat .i64 r.e]
set_option maxHeartbeats 1000000 in
theorem fraw_sp (k : Nat) (s : List UInt8) (r : Rs) (hs : s.length ≤ 1000000) (hr : r.at_ ≤ s.length) : Sp Tryd.prog 45 [.pointer (some ⟨k, 0, none⟩)] [Rf k s r]
    (fun v M => v = nat .u64 (rraw s r).1 ∧ M = [Rf k s (rraw s r).2]) := by
  refine Sp.intro (P := Tryd.prog) (Tryd.func45) rfl Tryd.ntmps45 (by decide) rfl ?_
  intro ρ F
  have hget := refGet_sp s ((r.at_ : Nat) : Int) hs
  rw [rk_get hr] at hget
  unfold rraw
  by_cases he : r.e = 0
  · rw [if_neg (fun h => h he)]
    cases hg : Pl.get (s.drop r.at_) with
    | err q =>
      rw [hg] at hget
      have hq := get_err hg
      repeat' (first | (apply St_regionQ; kernel_rfl; kernel_rfl) | (apply Sq_call (hf := hget); exact rfl; exact rfl; exact Split.auto; (rintro _ _ ⟨rfl, rfl⟩; exact ⟨rfl, _, by exact Split.auto⟩)) | (refine St_step ?_; (try with_reducible intro _)) | (refine St_step2 ?_ ?_ <;> (intro hb; (try simp only [beq_iff_eq, bne_iff_ne, decide_eq_true_eq, decide_eq_false_iff_not, Bool.not_eq_true', Bool.not_eq_false', beq_eq_false_iff_ne, bne_eq_false_iff_eq, ne_eq, Int.not_lt, Int.not_le, gt_iff_lt, ge_iff_le] at hb); (try (first | exact Bool.noConfusion hb | exact absurd trivial hb | (exfalso; omega))))) | fail)
      exact St_ret1 (.inl rfl) rfl rfl ⟨rfl, rfl⟩ (by exact Split.auto)
    | num n z =>
      rw [hg] at hget
      obtain ⟨at_, e⟩ := r
      have he : e = 0 := he
      subst he
      repeat' (first | (apply St_regionQ; kernel_rfl; kernel_rfl) | (apply Sq_call (hf := hget); exact rfl; exact rfl; exact Split.auto; (rintro _ _ ⟨rfl, rfl⟩; exact ⟨rfl, _, by exact Split.auto⟩)) | (refine St_step ?_; (try with_reducible intro _)) | (refine St_step2 ?_ ?_ <;> (intro hb; (try simp only [beq_iff_eq, bne_iff_ne, decide_eq_true_eq, decide_eq_false_iff_not, Bool.not_eq_true', Bool.not_eq_false', beq_eq_false_iff_ne, bne_eq_false_iff_eq, ne_eq, Int.not_lt, Int.not_le, gt_iff_lt, ge_iff_le] at hb); (try (first | exact Bool.noConfusion hb | exact absurd trivial hb | (exfalso; omega))))) | fail)
      exact St_ret1 (.inl rfl) rfl rfl ⟨rfl, rfl⟩ (by exact Split.auto)
  · rw [if_pos he]
    repeat' (first | (refine St_step ?_; (try with_reducible intro _)) | (refine St_step2 ?_ ?_ <;> (intro hb; (try simp only [beq_iff_eq, bne_iff_ne, decide_eq_true_eq, decide_eq_false_iff_not, Bool.not_eq_true', Bool.not_eq_false', beq_eq_false_iff_ne, bne_eq_false_iff_eq, ne_eq, Int.not_lt, Int.not_le, gt_iff_lt, ge_iff_le] at hb); (try (first | exact Bool.noConfusion hb | exact absurd trivial hb | (exfalso; omega))))) | fail)
    exact St_ret1 (.inl rfl) rfl rfl ⟨rfl, rfl⟩ (by exact Split.auto)
theorem fnumber_sp (k : Nat) (s : List UInt8) (r : Rs) (lim : Nat) (hs : s.length ≤ 1000000) (hr : r.at_ ≤ s.length) (hlim : lim ≤ 1152921504606846976) : Sp Tryd.prog 30 [.pointer (some ⟨k, 0, none⟩), nat .i64 lim] [Rf k s r]
    (fun v M => v = nat .i64 (rnum s lim r).1 ∧ M = [Rf k s (rnum s lim r).2]) := by
  refine Sp.intro (P := Tryd.prog) (Tryd.func30) rfl Tryd.ntmps30 (by decide) rfl ?_
  intro ρ F
  have hlt := rraw_lt s r
  have hraw := fraw_sp k s r hs hr
  have hze := rraw_e (s := s) (r := r)
  unfold rnum
  generalize hq : rraw s r = q at *
  obtain ⟨n, a, e⟩ := q
  simp only [Rf] at hraw
  have hlt : n < 4611686018427387904 := hlt
  have hze : e ≠ 0 → n = 0 := hze
  unfold rfail
  by_cases hl : lim < n
  · rw [if_pos hl]
    have he : e = 0 := by
      by_cases h : e = 0
      · exact h
      · have := hze h; omega
    subst he
    repeat' (first | (apply St_call (hf := hraw); exact rfl; exact rfl; exact Split.auto; rintro _ _ ⟨rfl, rfl⟩) | (refine St_step ?_; (try with_reducible intro _)) | (refine St_step2 ?_ ?_ <;> (intro hb; (try simp only [beq_iff_eq, bne_iff_ne, decide_eq_true_eq, decide_eq_false_iff_not, Bool.not_eq_true', Bool.not_eq_false', beq_eq_false_iff_ne, bne_eq_false_iff_eq, ne_eq, Int.not_lt, Int.not_le, gt_iff_lt, ge_iff_le] at hb); (try (first | exact Bool.noConfusion hb | exact absurd trivial hb | (exfalso; omega))))) | fail)
    all_goals (first | contradiction | (exfalso; omega) | (exact St_ret1 (.inl rfl) rfl rfl ⟨rfl, rfl⟩ (by exact Split.auto)) | (exact St_ret2 (.inl rfl) rfl rfl rfl ⟨rfl, rfl⟩ (by exact Split.auto)) | (exact St_ret3 (.inl rfl) rfl rfl rfl rfl ⟨rfl, rfl⟩ (by exact Split.auto)))
  · rw [if_neg hl]
    by_cases he : e = 0
    · subst he
      repeat' (first | (apply St_call (hf := hraw); exact rfl; exact rfl; exact Split.auto; rintro _ _ ⟨rfl, rfl⟩) | (refine St_step ?_; (try with_reducible intro _)) | (refine St_step2 ?_ ?_ <;> (intro hb; (try simp only [beq_iff_eq, bne_iff_ne, decide_eq_true_eq, decide_eq_false_iff_not, Bool.not_eq_true', Bool.not_eq_false', beq_eq_false_iff_ne, bne_eq_false_iff_eq, ne_eq, Int.not_lt, Int.not_le, gt_iff_lt, ge_iff_le] at hb); (try (first | exact Bool.noConfusion hb | exact absurd trivial hb | (exfalso; omega))))) | fail)
      all_goals (first | contradiction | (exfalso; omega) | (exact St_ret1 (.inl rfl) rfl rfl ⟨rfl, rfl⟩ (by exact Split.auto)) | (exact St_ret2 (.inl rfl) rfl rfl rfl ⟨rfl, rfl⟩ (by exact Split.auto)) | (exact St_ret3 (.inl rfl) rfl rfl rfl rfl ⟨rfl, rfl⟩ (by exact Split.auto)))
    · have hn : n = 0 := hze he
      subst hn
      repeat' (first | (apply St_call (hf := hraw); exact rfl; exact rfl; exact Split.auto; rintro _ _ ⟨rfl, rfl⟩) | (refine St_step ?_; (try with_reducible intro _)) | (refine St_step2 ?_ ?_ <;> (intro hb; (try simp only [beq_iff_eq, bne_iff_ne, decide_eq_true_eq, decide_eq_false_iff_not, Bool.not_eq_true', Bool.not_eq_false', beq_eq_false_iff_ne, bne_eq_false_iff_eq, ne_eq, Int.not_lt, Int.not_le, gt_iff_lt, ge_iff_le] at hb); (try (first | exact Bool.noConfusion hb | exact absurd trivial hb | (exfalso; omega))))) | fail)
      all_goals (first | contradiction | (exfalso; omega) | (exact St_ret1 (.inl rfl) rfl rfl ⟨rfl, rfl⟩ (by exact Split.auto)) | (exact St_ret2 (.inl rfl) rfl rfl rfl ⟨rfl, rfl⟩ (by exact Split.auto)) | (exact St_ret3 (.inl rfl) rfl rfl rfl rfl ⟨rfl, rfl⟩ (by exact Split.auto)))
theorem ftext_sp (k : Nat) (s : List UInt8) (r : Rs) (lim : Nat) (hs : s.length ≤ 1000000) (hr : r.at_ ≤ s.length) (hlim : lim ≤ 1152921504606846976) : Sp Tryd.prog 31 [.pointer (some ⟨k, 0, none⟩), nat .i64 lim] [Rf k s r]
    (fun v M => v = str (rtext s lim r).1 ∧ M = [Rf k s (rtext s lim r).2]) := by
  refine Sp.intro (P := Tryd.prog) (Tryd.func31) rfl Tryd.ntmps31 (by decide) rfl ?_
  intro ρ F
  have hle := rnum_le (lim := lim) hr
  have hli := rnum_lim (s := s) (lim := lim) (r := r)
  have hze := rnum_e (s := s) (lim := lim) (r := r)
  unfold rtext
  generalize hq : rnum s lim r = q at *
  obtain ⟨n, a, e⟩ := q
  have hle : a ≤ s.length := hle
  have hli : n ≤ lim := hli
  have hze : e ≠ 0 → n = 0 := hze
  have hnum := fnumber_sp k s r lim hs hr hlim
  rw [hq] at hnum
  simp only [Rf] at hnum
  unfold rfail
  by_cases he : e = 0
  · subst he
    by_cases hl : s.length - a < n
    · rw [if_pos hl]
      repeat' (first | (apply St_call (hf := hnum); exact rfl; exact rfl; exact Split.auto; rintro _ _ ⟨rfl, rfl⟩) | (apply St_regionQ; kernel_rfl; kernel_rfl) | (refine St_step ?_; (try with_reducible intro _)) | (refine St_step2 ?_ ?_ <;> (intro hb; (try simp only [beq_iff_eq, bne_iff_ne, decide_eq_true_eq, decide_eq_false_iff_not, Bool.not_eq_true', Bool.not_eq_false', beq_eq_false_iff_ne, bne_eq_false_iff_eq, ne_eq, Int.not_lt, Int.not_le, gt_iff_lt, ge_iff_le] at hb); (try (first | exact Bool.noConfusion hb | exact absurd trivial hb | (exfalso; omega))))) | fail)
      all_goals (first | contradiction | (exfalso; omega) | (exact St_ret1 (.inl rfl) rfl rfl ⟨rfl, rfl⟩ (by exact Split.auto)) | (exact St_ret2 (.inl rfl) rfl rfl rfl ⟨rfl, rfl⟩ (by exact Split.auto)) | (exact St_ret3 (.inl rfl) rfl rfl rfl rfl ⟨rfl, rfl⟩ (by exact Split.auto)))
    · rw [if_neg hl]
      have hd : (s.drop ((a : Nat) : Int).toNat).take (((a : Int) + (n : Int)).toNat - ((a : Nat) : Int).toNat) = (s.drop a).take n := by
        congr 1; omega
      repeat' (first | (apply St_call (hf := hnum); exact rfl; exact rfl; exact Split.auto; rintro _ _ ⟨rfl, rfl⟩) | (apply St_regionQ; kernel_rfl; kernel_rfl) | (refine St_step ?_; (try with_reducible intro _)) | (refine St_step2 ?_ ?_ <;> (intro hb; (try simp only [beq_iff_eq, bne_iff_ne, decide_eq_true_eq, decide_eq_false_iff_not, Bool.not_eq_true', Bool.not_eq_false', beq_eq_false_iff_ne, bne_eq_false_iff_eq, ne_eq, Int.not_lt, Int.not_le, gt_iff_lt, ge_iff_le] at hb); (try (first | exact Bool.noConfusion hb | exact absurd trivial hb | (exfalso; omega))))) | fail)
      all_goals (try rw [hd])
      all_goals (first | contradiction | (exfalso; omega) | (exact St_ret1 (.inl rfl) rfl rfl ⟨rfl, rfl⟩ (by exact Split.auto)) | (exact St_ret2 (.inl rfl) rfl rfl rfl ⟨rfl, rfl⟩ (by exact Split.auto)) | (exact St_ret3 (.inl rfl) rfl rfl rfl rfl ⟨rfl, rfl⟩ (by exact Split.auto)))
  · have hn : n = 0 := hze he
    subst hn
    rw [if_neg (Nat.not_lt_zero _)]
    repeat' (first | (apply St_call (hf := hnum); exact rfl; exact rfl; exact Split.auto; rintro _ _ ⟨rfl, rfl⟩) | (apply St_regionQ; kernel_rfl; kernel_rfl) | (refine St_step ?_; (try with_reducible intro _)) | (refine St_step2 ?_ ?_ <;> (intro hb; (try simp only [beq_iff_eq, bne_iff_ne, decide_eq_true_eq, decide_eq_false_iff_not, Bool.not_eq_true', Bool.not_eq_false', beq_eq_false_iff_ne, bne_eq_false_iff_eq, ne_eq, Int.not_lt, Int.not_le, gt_iff_lt, ge_iff_le] at hb); (try (first | exact Bool.noConfusion hb | exact absurd trivial hb | (exfalso; omega))))) | fail)
    all_goals (first | contradiction | (exfalso; omega) | (exact St_ret1 (.inl rfl) rfl rfl ⟨rfl, rfl⟩ (by exact Split.auto)) | (exact St_ret2 (.inl rfl) rfl rfl rfl ⟨rfl, rfl⟩ (by exact Split.auto)) | (exact St_ret3 (.inl rfl) rfl rfl rfl rfl ⟨rfl, rfl⟩ (by exact Split.auto)))
theorem fend_sp (k : Nat) (s : List UInt8) (r : Rs) (hs : s.length ≤ 1000000) (hr : r.at_ ≤ s.length) : Sp Tryd.prog 32 [.pointer (some ⟨k, 0, none⟩)] [Rf k s r]
    (fun v M => v = nat .i64 (rend s r) ∧ M = [Rf k s ⟨r.at_, rend s r⟩]) := by
  refine Sp.intro (P := Tryd.prog) (Tryd.func32) rfl Tryd.ntmps32 (by decide) rfl ?_
  intro ρ F
  unfold rend rfail
  by_cases he : r.e = 0
  · rw [if_pos he]
    by_cases hl : r.at_ < s.length
    · rw [if_pos hl]
      repeat' (first | (apply St_regionQ; kernel_rfl; kernel_rfl) | (refine St_step ?_; (try with_reducible intro _)) | (refine St_step2 ?_ ?_ <;> (intro hb; (try simp only [beq_iff_eq, bne_iff_ne, decide_eq_true_eq, decide_eq_false_iff_not, Bool.not_eq_true', Bool.not_eq_false', beq_eq_false_iff_ne, bne_eq_false_iff_eq, ne_eq, Int.not_lt, Int.not_le, gt_iff_lt, ge_iff_le] at hb); (try (first | exact Bool.noConfusion hb | exact absurd trivial hb | (exfalso; omega))))) | fail)
      all_goals (first | contradiction | (exfalso; omega) | (exact St_ret1 (.inl rfl) rfl rfl ⟨rfl, rfl⟩ (by exact Split.auto)) | (exact St_ret2 (.inl rfl) rfl rfl rfl ⟨rfl, rfl⟩ (by exact Split.auto)) | (exact St_ret3 (.inl rfl) rfl rfl rfl rfl ⟨rfl, rfl⟩ (by exact Split.auto)))
    · rw [if_neg hl]
      repeat' (first | (apply St_regionQ; kernel_rfl; kernel_rfl) | (refine St_step ?_; (try with_reducible intro _)) | (refine St_step2 ?_ ?_ <;> (intro hb; (try simp only [beq_iff_eq, bne_iff_ne, decide_eq_true_eq, decide_eq_false_iff_not, Bool.not_eq_true', Bool.not_eq_false', beq_eq_false_iff_ne, bne_eq_false_iff_eq, ne_eq, Int.not_lt, Int.not_le, gt_iff_lt, ge_iff_le] at hb); (try (first | exact Bool.noConfusion hb | exact absurd trivial hb | (exfalso; omega))))) | fail)
      all_goals (first | contradiction | (exfalso; omega) | (exact St_ret1 (.inl rfl) rfl rfl ⟨rfl, rfl⟩ (by exact Split.auto)) | (exact St_ret2 (.inl rfl) rfl rfl rfl ⟨rfl, rfl⟩ (by exact Split.auto)) | (exact St_ret3 (.inl rfl) rfl rfl rfl rfl ⟨rfl, rfl⟩ (by exact Split.auto)))
  · rw [if_neg he]
    have e2 : (if r.at_ < s.length then r.e else r.e) = r.e := by split <;> rfl
    rw [e2]
    repeat' (first | (apply St_regionQ; kernel_rfl; kernel_rfl) | (refine St_step ?_; (try with_reducible intro _)) | (refine St_step2 ?_ ?_ <;> (intro hb; (try simp only [beq_iff_eq, bne_iff_ne, decide_eq_true_eq, decide_eq_false_iff_not, Bool.not_eq_true', Bool.not_eq_false', beq_eq_false_iff_ne, bne_eq_false_iff_eq, ne_eq, Int.not_lt, Int.not_le, gt_iff_lt, ge_iff_le] at hb); (try (first | exact Bool.noConfusion hb | exact absurd trivial hb | (exfalso; omega))))) | fail)
    all_goals (first | contradiction | (exfalso; omega) | (exact St_ret1 (.inl rfl) rfl rfl ⟨rfl, rfl⟩ (by exact Split.auto)) | (exact St_ret2 (.inl rfl) rfl rfl rfl ⟨rfl, rfl⟩ (by exact Split.auto)) | (exact St_ret3 (.inl rfl) rfl rfl rfl rfl ⟨rfl, rfl⟩ (by exact Split.auto)))
/-! Writing -/
theorem wNumber_sp (b : Nat) (bs : List UInt8) (bad : Bool) (n : Nat) (hn : n < 4611686018427387904) (hb0 : bs.length ≤ 10000000000000) :
    Sp Tryd.prog 36 [.pointer (some ⟨b, 0, none⟩), nat .i64 n] [Wr b bs bad, GB] (fun r M => r = .tuple #[] ∧ M = [Wr b (bs ++ enc n) bad, GB]) := by
  refine Sp.intro (P := Tryd.prog) (Tryd.func36) rfl Tryd.ntmps36 (by decide) rfl ?_
  intro ρ F
  have h := wput_sp b bs bad true n (by omega) hb0
  have e1 : encOr n = enc n := if_pos hn
  have e2 : (bad || !true || wbad n) = bad := by simp [wbad, hn]
  rw [e1, e2] at h
  have hd : decide ((n : Int) ≥ 0) = true := by simp
  repeat' (first | (rw [hd]; apply St_call (hf := h); exact rfl; exact rfl; exact Split.auto; rintro _ _ ⟨rfl, rfl⟩) | (refine St_step ?_; (try with_reducible intro _)) | (refine St_step2 ?_ ?_ <;> (intro hb; (try simp only [beq_iff_eq, bne_iff_ne, decide_eq_true_eq, decide_eq_false_iff_not, Bool.not_eq_true', Bool.not_eq_false', beq_eq_false_iff_ne, bne_eq_false_iff_eq, ne_eq, Int.not_lt, Int.not_le, gt_iff_lt, ge_iff_le] at hb); (try (first | exact Bool.noConfusion hb | exact absurd trivial hb | (exfalso; omega))))) | fail)
  exact St_ret0 (.inr rfl) rfl ⟨rfl, rfl⟩ (by exact Split.auto)
theorem wText_sp (b : Nat) (bs s : List UInt8) (bad : Bool) (hb0 : bs.length + s.length ≤ 1000000000000) :
    Sp Tryd.prog 39 [.pointer (some ⟨b, 0, none⟩), str s] [Wr b bs bad, GB] (fun r M => r = .tuple #[] ∧ M = [Wr b (bs ++ (enc s.length ++ s)) bad, GB]) := by
  refine Sp.intro (P := Tryd.prog) (Tryd.func39) rfl Tryd.ntmps39 (by decide) rfl ?_
  intro ρ F
  have h1 := wNumber_sp b bs bad s.length (by omega) (by omega)
  have h8 := enc_len s.length
  have h2 := wWrite_sp b (bs ++ enc s.length) s bad (by simp; omega)
  rw [List.append_assoc] at h2
  repeat' (first | (apply St_call (hf := h1); exact rfl; exact rfl; exact Split.auto; rintro _ _ ⟨rfl, rfl⟩) | (apply St_call (hf := h2); exact rfl; exact rfl; exact Split.auto; rintro _ _ ⟨rfl, rfl⟩) | (refine St_step ?_; (try with_reducible intro _)) | (refine St_step2 ?_ ?_ <;> (intro hb; (try simp only [beq_iff_eq, bne_iff_ne, decide_eq_true_eq, decide_eq_false_iff_not, Bool.not_eq_true', Bool.not_eq_false', beq_eq_false_iff_ne, bne_eq_false_iff_eq, ne_eq, Int.not_lt, Int.not_le, gt_iff_lt, ge_iff_le] at hb); (try (first | exact Bool.noConfusion hb | exact absurd trivial hb | (exfalso; omega))))) | fail)
  exact St_ret0 (.inr rfl) rfl ⟨rfl, rfl⟩ (by exact Split.auto)
theorem wBytes_sp (b : Nat) (bs : List UInt8) (hb0 : bs.length ≤ 100000000000000) : Sp Tryd.prog 38 [.pointer (some ⟨b, 0, none⟩)] [Wr b bs false]
    (fun r M => r = .tuple [str bs, .int .i64 0].toArray ∧ M = []) := by
  refine Sp.intro (P := Tryd.prog) (Tryd.func38) rfl Tryd.ntmps38 (by decide) rfl ?_
  intro ρ F
  refine St_wr (by exact Has.auto) fun p v hp => ?_
  repeat' (first | (refine St_step ?_; (try with_reducible intro _)) | (refine St_step2 ?_ ?_ <;> (intro hb; (try simp only [beq_iff_eq, bne_iff_ne, decide_eq_true_eq, decide_eq_false_iff_not, Bool.not_eq_true', Bool.not_eq_false', beq_eq_false_iff_ne, bne_eq_false_iff_eq, ne_eq, Int.not_lt, Int.not_le, gt_iff_lt, ge_iff_le] at hb); (try (first | exact Bool.noConfusion hb | exact absurd trivial hb | (exfalso; omega))))) | fail)
  refine St_wrMk hp (by exact Split.auto) ?_
  have h := wString_sp b bs false hb0
  repeat' (first | (apply St_call (hf := h); exact rfl; exact rfl; exact Split.auto; rintro _ _ ⟨rfl, rfl⟩) | (refine St_step ?_; (try with_reducible intro _)) | (refine St_step2 ?_ ?_ <;> (intro hb; (try simp only [beq_iff_eq, bne_iff_ne, decide_eq_true_eq, decide_eq_false_iff_not, Bool.not_eq_true', Bool.not_eq_false', beq_eq_false_iff_ne, bne_eq_false_iff_eq, ne_eq, Int.not_lt, Int.not_le, gt_iff_lt, ge_iff_le] at hb); (try (first | exact Bool.noConfusion hb | exact absurd trivial hb | (exfalso; omega))))) | fail)
  exact St_ret2 (.inl rfl) rfl rfl rfl ⟨rfl, rfl⟩ (by exact Split.auto)
theorem wBytesBad_sp (b : Nat) (bs : List UInt8) : Sp Tryd.prog 38 [.pointer (some ⟨b, 0, none⟩)] [Wr b bs true]
    (fun r M => r = .tuple [str [], .int .i64 1].toArray ∧ M = []) := by
  refine Sp.intro (P := Tryd.prog) (Tryd.func38) rfl Tryd.ntmps38 (by decide) rfl ?_
  intro ρ F
  refine St_wr (by exact Has.auto) fun p v hp => ?_
  repeat' (first | (refine St_step ?_; (try with_reducible intro _)) | (refine St_step2 ?_ ?_ <;> (intro hb; (try simp only [beq_iff_eq, bne_iff_ne, decide_eq_true_eq, decide_eq_false_iff_not, Bool.not_eq_true', Bool.not_eq_false', beq_eq_false_iff_ne, bne_eq_false_iff_eq, ne_eq, Int.not_lt, Int.not_le, gt_iff_lt, ge_iff_le] at hb); (try (first | exact Bool.noConfusion hb | exact absurd trivial hb | (exfalso; omega))))) | fail)
  exact St_ret2 (.inl rfl) rfl rfl rfl ⟨rfl, rfl⟩ (by exact Split.auto)
theorem refNumber_sp (n : Nat) (hn : n < 4611686018427387904) : Sp Tryd.prog 41 [nat .i64 n] [] (fun v M => v = .tuple [str (enc n), .bool true].toArray ∧ M = []) := by
  refine Sp.intro (P := Tryd.prog) (Tryd.func41) rfl Tryd.ntmps41 (by decide) rfl ?_
  intro ρ F
  have h := refPut_sp n (by omega)
  rw [if_pos hn, if_pos hn] at h
  repeat' (first | (apply St_call (hf := h); exact rfl; exact rfl; exact Split.auto; rintro _ _ ⟨rfl, rfl⟩) | (refine St_step ?_; (try with_reducible intro _)) | (refine St_step2 ?_ ?_ <;> (intro hb; (try simp only [beq_iff_eq, bne_iff_ne, decide_eq_true_eq, decide_eq_false_iff_not, Bool.not_eq_true', Bool.not_eq_false', beq_eq_false_iff_ne, bne_eq_false_iff_eq, ne_eq, Int.not_lt, Int.not_le, gt_iff_lt, ge_iff_le] at hb); (try (first | exact Bool.noConfusion hb | exact absurd trivial hb | (exfalso; omega))))) | fail)
  exact St_ret2 (.inl rfl) rfl rfl rfl ⟨rfl, rfl⟩ (by exact Split.auto)
theorem refText_sp (s : List UInt8) (hs : s.length < 1000000000000) : Sp Tryd.prog 43 [str s] [] (fun v M => v = str (enc s.length ++ s) ∧ M = []) := by
  refine Sp.intro (P := Tryd.prog) (Tryd.func43) rfl Tryd.ntmps43 (by decide) rfl ?_
  intro ρ F
  have h := refNumber_sp s.length (by omega)
  have h8 := enc_len s.length
  repeat' (first | (apply St_call (hf := h); exact rfl; exact rfl; exact Split.auto; rintro _ _ ⟨rfl, rfl⟩) | (refine St_step ?_; (try with_reducible intro _)) | (refine St_step2 ?_ ?_ <;> (intro hb; (try simp only [beq_iff_eq, bne_iff_ne, decide_eq_true_eq, decide_eq_false_iff_not, Bool.not_eq_true', Bool.not_eq_false', beq_eq_false_iff_ne, bne_eq_false_iff_eq, ne_eq, Int.not_lt, Int.not_le, gt_iff_lt, ge_iff_le] at hb); (try (first | exact Bool.noConfusion hb | exact absurd trivial hb | (exfalso; omega))))) | fail)
  exact St_ret1 (.inl rfl) rfl rfl ⟨rfl, rfl⟩ (by exact Split.auto)
end Go.Proofs.YtffnnddhlpcicaaDoor
