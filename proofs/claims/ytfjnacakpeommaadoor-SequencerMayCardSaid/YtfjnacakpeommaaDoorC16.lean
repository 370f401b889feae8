/- Contracts: package sender. -/
import Derived.Test.YtfjnacakpeommaaDoorC15
import Derived.Test.YtfjnacakpeommaaDoorPl9
namespace Go.Proofs.YtfjnacakpeommaaDoor
open Go SL Pl
set_option autoImplicit false
set_option maxRecDepth 100000
set_option linter.unusedSimpArgs false
set_option linter.unusedVariables false
attribute [local irreducible] St Sq Exec QExec wpList wpQuiet Code.wp Exit.then Exit.inBlock bodyPost At Rd wpOp Wa QK GB
/-- Pieces, by their numbers. -/
def seqs : Nat → List (List UInt8) → List (Nat × List UInt8)
  | _, [] => []
  | n, d :: l => (n, d) :: seqs (n + 1) l
theorem seqs_length : ∀ (l : List (List UInt8)) (n : Nat), (seqs n l).length = l.length
  | [], _ => rfl
  | _ :: l, n => by rw [seqs, List.length_cons, seqs_length l, List.length_cons]
theorem seqs_get : ∀ (l : List (List UInt8)) (n i : Nat), (seqs n l)[i]? = (l[i]?).map fun d => (n + i, d)
  | [], _, _ => by simp [seqs]
  | d :: l, n, 0 => by simp [seqs]
  | d :: l, n, i + 1 => by
    rw [seqs, List.getElem?_cons_succ, seqs_get l, List.getElem?_cons_succ]
    have : n + 1 + i = n + (i + 1) := by omega
    rw [this]
theorem seqs_drop : ∀ (g : Nat) (l : List (List UInt8)) (n : Nat), (seqs n l).drop g = seqs (n + g) (l.drop g)
  | 0, _, _ => rfl
  | g + 1, [], n => by simp [seqs]
  | g + 1, d :: l, n => by
    rw [seqs, List.drop_succ_cons, seqs_drop g l, List.drop_succ_cons]
    congr 1
    omega
theorem seqs_snoc : ∀ (l : List (List UInt8)) (n : Nat) (d : List UInt8), seqs n (l ++ [d]) = seqs n l ++ [(n + l.length, d)]
  | [], _, _ => rfl
  | x :: l, n, d => by
    rw [List.cons_append, seqs, seqs_snoc l, seqs, List.cons_append, List.length_cons]
    have : n + 1 + l.length = n + (l.length + 1) := by omega
    rw [this]
abbrev pv (p : Nat × List UInt8) : List Value := [nat .i64 p.1, str p.2]
theorem pv_len (p : Nat × List UInt8) : (pv p).length = 2 := rfl
def sdL (b : Nat) (s : Sd) (v : Value) : List HP :=
  [cel false b 127 [nat .i64 s.win, nat .i64 s.last, nat .i64 (s.acked + s.ps.length), v], Sl 113 2 v s.ps.length ((seqs (s.acked + 1) s.ps).flatMap pv)]
def SdP (b : Nat) (s : Sd) : HP := ex fun v => big (sdL b s v)
theorem clamp_val {w lo hi : Int} (h : lo ≤ hi) : (if hi < (if lo > w then lo else w) then hi else (if lo > w then lo else w)) = clampN w lo hi := by
  unfold clampN; (repeat' split) <;> omega
theorem clamp_nat {w lo hi : Int} (h0 : 0 ≤ lo) (h : lo ≤ hi) : clampN w lo hi = ((clampN w lo hi).toNat : Int) := by
  unfold clampN; (repeat' split) <;> omega
theorem sdNew_sp (w l : Int) : Sp Tryd.prog 65 [.int .i64 w, .int .i64 l] [] (fun v M => ∃ b, v = .pointer (some ⟨b, 0, none⟩) ∧ M = [SdP b (sdNew w l)]) := by
  refine Sp.intro (P := Tryd.prog) (Tryd.func65) rfl Tryd.ntmps65 (by decide) rfl ?_
  intro ρ F
  repeat' (first | (refine St_step ?_; (try with_reducible intro _)) | (refine St_step2 ?_ ?_ <;> (intro hb; (try simp only [beq_iff_eq, bne_iff_ne, decide_eq_true_eq, decide_eq_false_iff_not, Bool.not_eq_true', Bool.not_eq_false', beq_eq_false_iff_ne, bne_eq_false_iff_eq, ne_eq, Int.not_lt, Int.not_le, gt_iff_lt, ge_iff_le] at hb); (try (first | exact Bool.noConfusion hb | exact absurd trivial hb | (exfalso; omega))))) | fail)
  rename_i b
  refine St_slNil (E := 113) (sz := 2) ?_
  refine St_cel (r := false) (b := b) (cs' := [nat .i64 (sdNew w l).win, nat .i64 (sdNew w l).last, nat .i64 ((sdNew w l).acked + (sdNew w l).ps.length), .slice none 0 0]) (by exact Has.auto) ?_ ?_
  · unfold sdNew
    dsimp only
    rw [clamp_val (by decide), clamp_val (by decide)]
    have e1 := clamp_nat (w := w) (lo := 1) (hi := 16) (by decide) (by decide)
    have e2 := clamp_nat (w := l) (lo := 0) (hi := 1125899906842624) (by decide) (by decide)
    rw [e1, e2]
    rfl
  refine St_exMk (l := sdL b (sdNew w l)) (.slice none 0 0) (by exact Split.auto) ?_
  exact St_ret1 (.inl rfl) rfl rfl ⟨_, rfl, rfl⟩ (by exact Split.auto)
theorem sdUn_sp (b : Nat) (s : Sd) : Sp Tryd.prog 64 [.pointer (some ⟨b, 0, none⟩)] [SdP b s] (fun v M => v = nat .i64 s.ps.length ∧ M = [SdP b s]) := by
  refine Sp.intro (P := Tryd.prog) (Tryd.func64) rfl Tryd.ntmps64 (by decide) rfl ?_
  intro ρ F
  refine St_exOpen (l := sdL b s) (by exact Has.auto) fun v => ?_
  refine St_slIs (v := v) (by exact Has.auto) ?_
  rintro A c rfl
  repeat' (first | (refine St_step ?_; (try with_reducible intro _)) | (refine St_step2 ?_ ?_ <;> (intro hb; (try simp only [beq_iff_eq, bne_iff_ne, decide_eq_true_eq, decide_eq_false_iff_not, Bool.not_eq_true', Bool.not_eq_false', beq_eq_false_iff_ne, bne_eq_false_iff_eq, ne_eq, Int.not_lt, Int.not_le, gt_iff_lt, ge_iff_le] at hb); (try (first | exact Bool.noConfusion hb | exact absurd trivial hb | (exfalso; omega))))) | fail)
  refine St_exMk (l := sdL b s) (.slice A s.ps.length c) (by exact Split.auto) ?_
  exact St_ret1 (.inl rfl) rfl rfl ⟨rfl, rfl⟩ (by exact Split.auto)
theorem sdOffer_sp (b : Nat) (s : Sd) (dt : List UInt8) (h1 : s.ps.length ≤ s.win) (h2 : s.win ≤ 16) (h3 : s.acked ≤ 1000000000000000000) (h4 : s.last ≤ 1125899906842624) (h5 : s.acked + s.ps.length ≤ s.last) :
    Sp Tryd.prog 78 [.pointer (some ⟨b, 0, none⟩), str dt] [SdP b s]
      (fun v M => v = .tuple [nat .i64 (if (sdOffer s dt).2 = 0 then s.acked + s.ps.length + 1 else 0), nat .i64 (sdOffer s dt).2].toArray ∧ M = [SdP b (sdOffer s dt).1]) := by
  refine Sp.intro (P := Tryd.prog) (Tryd.func78) rfl Tryd.ntmps78 (by decide) rfl ?_
  intro ρ F
  refine St_exOpen (l := sdL b s) (by exact Has.auto) fun v => ?_
  refine St_slIs (v := v) (by exact Has.auto) ?_
  rintro A c rfl
  by_cases hw : s.win ≤ s.ps.length
  · have e : sdOffer s dt = (s, 7) := if_pos hw
    rw [e]
    repeat' (first | (apply St_regionQ; kernel_rfl; kernel_rfl) | (refine St_step ?_; (try with_reducible intro _)) | (refine St_step2 ?_ ?_ <;> (intro hb; (try simp only [beq_iff_eq, bne_iff_ne, decide_eq_true_eq, decide_eq_false_iff_not, Bool.not_eq_true', Bool.not_eq_false', beq_eq_false_iff_ne, bne_eq_false_iff_eq, ne_eq, Int.not_lt, Int.not_le, gt_iff_lt, ge_iff_le] at hb); (try (first | exact Bool.noConfusion hb | exact absurd trivial hb | (exfalso; omega))))) | fail)
    all_goals first | (exfalso; omega) | skip
    refine St_exMk (l := sdL b s) (.slice A s.ps.length c) (by exact Split.auto) ?_
    exact St_ret2 (.inl rfl) rfl rfl rfl ⟨rfl, rfl⟩ (by exact Split.auto)
  by_cases hl : s.last ≤ s.acked + s.ps.length
  · have e : sdOffer s dt = (s, 8) := by unfold sdOffer; rw [if_neg hw, if_pos hl]
    rw [e]
    repeat' (first | (apply St_regionQ; kernel_rfl; kernel_rfl) | (refine St_step ?_; (try with_reducible intro _)) | (refine St_step2 ?_ ?_ <;> (intro hb; (try simp only [beq_iff_eq, bne_iff_ne, decide_eq_true_eq, decide_eq_false_iff_not, Bool.not_eq_true', Bool.not_eq_false', beq_eq_false_iff_ne, bne_eq_false_iff_eq, ne_eq, Int.not_lt, Int.not_le, gt_iff_lt, ge_iff_le] at hb); (try (first | exact Bool.noConfusion hb | exact absurd trivial hb | (exfalso; omega))))) | fail)
    all_goals first | (exfalso; omega) | skip
    refine St_exMk (l := sdL b s) (.slice A s.ps.length c) (by exact Split.auto) ?_
    exact St_ret2 (.inl rfl) rfl rfl rfl ⟨rfl, rfl⟩ (by exact Split.auto)
  have e : sdOffer s dt = (⟨s.win, s.last, s.acked, s.ps ++ [dt]⟩, 0) := by unfold sdOffer; rw [if_neg hw, if_neg hl]
  rw [e]
  have hcat : (seqs (s.acked + 1) (s.ps ++ [dt])).flatMap pv = (seqs (s.acked + 1) s.ps).flatMap pv ++ [nat .i64 (s.acked + 1 + s.ps.length), str dt] := by
    rw [seqs_snoc, List.flatMap_append]; rfl
  have hcast : ((s.acked + s.ps.length : Nat) : Int) + 1 = ((s.acked + (s.ps ++ [dt]).length : Nat) : Int) := by simp; omega
  have hcast2 : ((s.acked + s.ps.length : Nat) : Int) + 1 = ((s.acked + 1 + s.ps.length : Nat) : Int) := by omega
  -- the room of the slice
  refine St_slRoom (by exact Has.auto) fun hcap => ?_
  refine St_slCap (c' := s.ps.length) (by exact Has.auto) (Nat.le_refl _) hcap ?_
  repeat' (first | (apply St_regionA (18) ([cel false b 127 [nat .i64 s.win, nat .i64 s.last, .int .i64 (((s.acked + s.ps.length : Nat) : Int) + 1), .slice A s.ps.length c]]); kernel_rfl; (apply Sa_take 0; exact rfl; kernel_rfl; exact PanicOk.auto; exact rfl; (first | (apply Rd_sliceTo3 tb; exact rfl; exact rfl; exact rfl; exact rfl; exact rfl; omega) | exact Rd_auto)); (apply Sa_take 1; exact rfl; kernel_rfl; exact PanicOk.auto; exact rfl; (first | (apply Rd_sliceTo3 tb; exact rfl; exact rfl; exact rfl; exact rfl; exact rfl; omega) | exact Rd_auto)); (apply Sa_take 2; exact rfl; kernel_rfl; exact PanicOk.auto; exact rfl; (first | (apply Rd_sliceTo3 tb; exact rfl; exact rfl; exact rfl; exact rfl; exact rfl; omega) | exact Rd_auto)); (apply Sa_take 3; exact rfl; kernel_rfl; exact PanicOk.auto; exact rfl; (first | (apply Rd_sliceTo3 tb; exact rfl; exact rfl; exact rfl; exact rfl; exact rfl; omega) | exact Rd_auto)); (apply Sa_take 4; exact rfl; kernel_rfl; exact PanicOk.auto; exact rfl; (first | (apply Rd_sliceTo3 tb; exact rfl; exact rfl; exact rfl; exact rfl; exact rfl; omega) | exact Rd_auto)); (apply Sa_take 5; exact rfl; kernel_rfl; exact PanicOk.auto; exact rfl; (first | (apply Rd_sliceTo3 tb; exact rfl; exact rfl; exact rfl; exact rfl; exact rfl; omega) | exact Rd_auto)); (apply Sa_take 6; exact rfl; kernel_rfl; exact PanicOk.auto; exact rfl; (first | (apply Rd_sliceTo3 tb; exact rfl; exact rfl; exact rfl; exact rfl; exact rfl; omega) | exact Rd_auto)); (apply Sa_take 7; exact rfl; kernel_rfl; exact PanicOk.auto; exact rfl; (first | (apply Rd_sliceTo3 tb; exact rfl; exact rfl; exact rfl; exact rfl; exact rfl; omega) | exact Rd_auto)); (apply Sa_take 8; exact rfl; kernel_rfl; exact PanicOk.auto; exact rfl; (first | (apply Rd_sliceTo3 tb; exact rfl; exact rfl; exact rfl; exact rfl; exact rfl; omega) | exact Rd_auto)); (apply Sa_take 9; exact rfl; kernel_rfl; exact PanicOk.auto; exact rfl; (first | (apply Rd_sliceTo3 tb; exact rfl; exact rfl; exact rfl; exact rfl; exact rfl; omega) | exact Rd_auto)); (apply Sa_take 10; exact rfl; kernel_rfl; exact PanicOk.auto; exact rfl; (first | (apply Rd_sliceTo3 tb; exact rfl; exact rfl; exact rfl; exact rfl; exact rfl; omega) | exact Rd_auto)); (apply Sa_take 11; exact rfl; kernel_rfl; exact PanicOk.auto; exact rfl; (first | (apply Rd_sliceTo3 tb; exact rfl; exact rfl; exact rfl; exact rfl; exact rfl; omega) | exact Rd_auto)); (apply Sa_take 12; exact rfl; kernel_rfl; exact PanicOk.auto; exact rfl; (first | (apply Rd_sliceTo3 tb; exact rfl; exact rfl; exact rfl; exact rfl; exact rfl; omega) | exact Rd_auto)); (apply Sa_take 13; exact rfl; kernel_rfl; exact PanicOk.auto; exact rfl; (first | (apply Rd_sliceTo3 tb; exact rfl; exact rfl; exact rfl; exact rfl; exact rfl; omega) | exact Rd_auto)); (apply Sa_one (i := 14); kernel_rfl; exact .inr (by exact Split.auto)); (apply Sa_op; exact rfl; exact rfl); (first | (apply St_append tb (sz := 2) (n := s.ps.length); (repeat exact rfl); exact Has.auto; (intro _; exact Src.row (n := 1) (by exact Has.auto) (by simp) (by exact rfl)); exact rfl; (dsimp only; omega); intro v'; refine St_slIs (by exact Has.auto) ?_; rintro A' c' rfl) | (apply St_rd; exact rfl; (first | (apply Rd_sliceTo3 tb; exact rfl; exact rfl; exact rfl; exact rfl; exact rfl; omega))) | (apply Sq_rd; exact rfl; (first | (apply Rd_sliceTo3 tb; exact rfl; exact rfl; exact rfl; exact rfl; exact rfl; omega))) | (refine St_step ?_; (try with_reducible intro _)) | (refine St_step2 ?_ ?_ <;> (intro hb; (try simp only [beq_iff_eq, bne_iff_ne, decide_eq_true_eq, decide_eq_false_iff_not, Bool.not_eq_true', Bool.not_eq_false', beq_eq_false_iff_ne, bne_eq_false_iff_eq, ne_eq, Int.not_lt, Int.not_le, gt_iff_lt, ge_iff_le] at hb); (try (first | exact Bool.noConfusion hb | exact absurd trivial hb | (exfalso; omega))))) | fail); (apply Sa_one (i := 15); kernel_rfl; exact .inr (by exact Split.auto)); (apply Sa_op; exact rfl; exact rfl); (first | (apply St_append tb (sz := 2) (n := s.ps.length); (repeat exact rfl); exact Has.auto; (intro _; exact Src.row (n := 1) (by exact Has.auto) (by simp) (by exact rfl)); exact rfl; (dsimp only; omega); intro v'; refine St_slIs (by exact Has.auto) ?_; rintro A' c' rfl) | (apply St_rd; exact rfl; (first | (apply Rd_sliceTo3 tb; exact rfl; exact rfl; exact rfl; exact rfl; exact rfl; omega))) | (apply Sq_rd; exact rfl; (first | (apply Rd_sliceTo3 tb; exact rfl; exact rfl; exact rfl; exact rfl; exact rfl; omega))) | (refine St_step ?_; (try with_reducible intro _)) | (refine St_step2 ?_ ?_ <;> (intro hb; (try simp only [beq_iff_eq, bne_iff_ne, decide_eq_true_eq, decide_eq_false_iff_not, Bool.not_eq_true', Bool.not_eq_false', beq_eq_false_iff_ne, bne_eq_false_iff_eq, ne_eq, Int.not_lt, Int.not_le, gt_iff_lt, ge_iff_le] at hb); (try (first | exact Bool.noConfusion hb | exact absurd trivial hb | (exfalso; omega))))) | fail); (apply Sa_take 16; exact rfl; kernel_rfl; exact PanicOk.auto; exact rfl; (first | (apply Rd_sliceTo3 tb; exact rfl; exact rfl; exact rfl; exact rfl; exact rfl; omega) | exact Rd_auto)); (apply Sa_take 17; exact rfl; kernel_rfl; exact PanicOk.auto; exact rfl; (first | (apply Rd_sliceTo3 tb; exact rfl; exact rfl; exact rfl; exact rfl; exact rfl; omega) | exact Rd_auto)); (apply Sa_one (i := 18); kernel_rfl; exact .inr (by exact Split.auto)); (apply Sa_op; exact rfl; exact rfl); (first | (apply St_append tb (sz := 2) (n := s.ps.length); (repeat exact rfl); exact Has.auto; (intro _; exact Src.row (n := 1) (by exact Has.auto) (by simp) (by exact rfl)); exact rfl; (dsimp only; omega); intro v'; refine St_slIs (by exact Has.auto) ?_; rintro A' c' rfl) | (apply St_rd; exact rfl; (first | (apply Rd_sliceTo3 tb; exact rfl; exact rfl; exact rfl; exact rfl; exact rfl; omega))) | (apply Sq_rd; exact rfl; (first | (apply Rd_sliceTo3 tb; exact rfl; exact rfl; exact rfl; exact rfl; exact rfl; omega))) | (refine St_step ?_; (try with_reducible intro _)) | (refine St_step2 ?_ ?_ <;> (intro hb; (try simp only [beq_iff_eq, bne_iff_ne, decide_eq_true_eq, decide_eq_false_iff_not, Bool.not_eq_true', Bool.not_eq_false', beq_eq_false_iff_ne, bne_eq_false_iff_eq, ne_eq, Int.not_lt, Int.not_le, gt_iff_lt, ge_iff_le] at hb); (try (first | exact Bool.noConfusion hb | exact absurd trivial hb | (exfalso; omega))))) | fail); (apply Sa_done (R := []); kernel_rfl; refine .inl ?_; kernel_rfl)) | (apply St_regionQ; kernel_rfl; kernel_rfl) | (refine St_step ?_; (try with_reducible intro _)) | (refine St_step2 ?_ ?_ <;> (intro hb; (try simp only [beq_iff_eq, bne_iff_ne, decide_eq_true_eq, decide_eq_false_iff_not, Bool.not_eq_true', Bool.not_eq_false', beq_eq_false_iff_ne, bne_eq_false_iff_eq, ne_eq, Int.not_lt, Int.not_le, gt_iff_lt, ge_iff_le] at hb); (try (first | exact Bool.noConfusion hb | exact absurd trivial hb | (exfalso; omega))))) | fail)
  refine St_slEq (cs' := (seqs (s.acked + 1) (s.ps ++ [dt])).flatMap pv) (n' := (s.ps ++ [dt]).length) (by exact Has.auto) (by rw [hcat, hcast2]; rfl) (by simp) ?_
  refine St_cel (r := false) (b := b) (cs' := [nat .i64 s.win, nat .i64 s.last, nat .i64 (s.acked + (s.ps ++ [dt]).length), .slice A' (s.ps.length + 1) c']) (by exact Has.auto) (by rw [hcast]) ?_
  refine St_exMk (l := sdL b ⟨s.win, s.last, s.acked, s.ps ++ [dt]⟩) (.slice A' (s.ps.length + 1) c') (by exact Split.auto) ?_
  exact St_ret2 (.inl rfl) rfl rfl rfl ⟨rfl, rfl⟩ (by exact Split.auto)
theorem sdPieces_sp (b : Nat) (s : Sd) (h2 : s.ps.length ≤ 1000000) :
    Sp Tryd.prog 59 [.pointer (some ⟨b, 0, none⟩)] [SdP b s]
      (fun v M => ∃ A c, v = .slice A s.ps.length c ∧ M = [RS true v s.ps.length ((seqs (s.acked + 1) s.ps).flatMap pv), SdP b s]) := by
  refine Sp.intro (P := Tryd.prog) (Tryd.func59) rfl Tryd.ntmps59 (by decide) rfl ?_
  intro ρ F
  refine St_exOpen (l := sdL b s) (by exact Has.auto) fun v => ?_
  refine St_slIs (v := v) (by exact Has.auto) ?_
  rintro A c rfl
  have hok : ((seqs (s.acked + 1) s.ps).flatMap pv).all Value.oneCell' = true := by
    clear h2
    generalize s.acked + 1 = n
    induction s.ps generalizing n with
    | nil => rfl
    | cons u l ih => rw [seqs, List.flatMap_cons, List.all_append, ih]; rfl
  have hfl := flat_len pv_len (seqs (s.acked + 1) s.ps)
  rw [seqs_length] at hfl
  repeat' (first | (refine St_step ?_; (try with_reducible intro _)) | (refine St_step2 ?_ ?_ <;> (intro hb; (try simp only [beq_iff_eq, bne_iff_ne, decide_eq_true_eq, decide_eq_false_iff_not, Bool.not_eq_true', Bool.not_eq_false', beq_eq_false_iff_ne, bne_eq_false_iff_eq, ne_eq, Int.not_lt, Int.not_le, gt_iff_lt, ge_iff_le] at hb); (try (first | exact Bool.noConfusion hb | exact absurd trivial hb | (exfalso; omega))))) | fail)
  refine St_slRow (E := 113) (sz := 2) (n := 0) (by exact Has.auto) rfl ?_
  repeat' (first | (apply St_append tb (sz := 2) (m := s.ps.length); exact rfl; exact rfl; exact rfl; exact rfl; exact rfl; exact rfl; exact rfl; exact rfl; exact Has.auto; (intro hw; exact Src.sl (by exact .tail Has.auto) hw); exact hok; (dsimp only; omega); intro v') | (refine St_step ?_; (try with_reducible intro _)) | (refine St_step2 ?_ ?_ <;> (intro hb; (try simp only [beq_iff_eq, bne_iff_ne, decide_eq_true_eq, decide_eq_false_iff_not, Bool.not_eq_true', Bool.not_eq_false', beq_eq_false_iff_ne, bne_eq_false_iff_eq, ne_eq, Int.not_lt, Int.not_le, gt_iff_lt, ge_iff_le] at hb); (try (first | exact Bool.noConfusion hb | exact absurd trivial hb | (exfalso; omega))))) | fail)
  refine St_slIs (v := v') (n := 0 + s.ps.length) (by exact Has.auto) ?_
  rintro A' c' rfl
  refine St_slShare (v := .slice A' (0 + s.ps.length) c') (by exact Has.auto) ?_
  refine St_exMk (l := sdL b s) (.slice A s.ps.length c) (by exact Split.auto) ?_
  rw [Nat.zero_add, List.nil_append]
  exact St_ret1 (.inl rfl) rfl rfl ⟨_, _, rfl, rfl⟩ (by exact Split.auto)
theorem zeros_len (g : Nat) : ((List.replicate g [Value.int .i64 0, str []]).flatten).length = g * 2 := by
  induction g with
  | zero => rfl
  | succ g ih => rw [List.replicate_succ, List.flatten_cons, List.length_append, ih, Nat.succ_mul]; simp; omega
theorem flat_drop2 (g n : Nat) (l : List (List UInt8)) : ((seqs n l).flatMap pv).drop (g * 2) = (seqs (n + g) (l.drop g)).flatMap pv := by
  rw [← seqs_drop]
  generalize seqs n l = us
  induction g generalizing us with
  | zero => simp
  | succ g ih =>
    cases us with
    | nil => simp
    | cons u us =>
      rw [List.flatMap_cons, List.drop_succ_cons, ← ih us, Nat.succ_mul, Nat.add_comm, ← List.drop_drop]
      rfl
theorem sdAck_sp (b : Nat) (s : Sd) (n : Int) (h1 : s.ps.length ≤ 1000000) (h3 : s.acked ≤ 1000000000000000000) :
    Sp Tryd.prog 47 [.pointer (some ⟨b, 0, none⟩), .int .i64 n] [SdP b s]
      (fun v M => v = nat .i64 (sdGone s n) ∧ M = [SdP b (sdAck s n)]) := by
  refine Sp.intro (P := Tryd.prog) (Tryd.func47) rfl Tryd.ntmps47 (by decide) rfl ?_
  intro ρ F
  refine St_exOpen (l := sdL b s) (by exact Has.auto) fun v => ?_
  obtain ⟨g, hg⟩ : ∃ g, g = sdGone s n := ⟨_, rfl⟩
  have hgd : g = if (s.acked + s.ps.length : Int) < n ∨ n ≤ s.acked then 0 else (n - s.acked).toNat := hg
  have hack : sdAck s n = ⟨s.win, s.last, s.acked + g, s.ps.drop g⟩ := by rw [hg]; rfl
  rw [hack, ← hg]
  have hgl : g ≤ s.ps.length := by rw [hgd]; split <;> omega
  have hsum : s.acked + g + (s.ps.drop g).length = s.acked + s.ps.length := by simp; omega
  by_cases hn : (s.acked + s.ps.length : Int) < n
  · have hg0 : g = 0 := by rw [hgd, if_pos (.inl hn)]
    subst hg0
    refine St_slIs (v := v) (by exact Has.auto) ?_
    rintro A c rfl
    repeat' (first | (refine St_step ?_; (try with_reducible intro _)) | (refine St_step2 ?_ ?_ <;> (intro hb; (try simp only [beq_iff_eq, bne_iff_ne, decide_eq_true_eq, decide_eq_false_iff_not, Bool.not_eq_true', Bool.not_eq_false', beq_eq_false_iff_ne, bne_eq_false_iff_eq, ne_eq, Int.not_lt, Int.not_le, gt_iff_lt, ge_iff_le] at hb); (try (first | exact Bool.noConfusion hb | exact absurd trivial hb | (exfalso; omega))))) | fail)
    all_goals first | (exfalso; omega) | skip
    refine St_exMk (l := sdL b ⟨s.win, s.last, s.acked + 0, s.ps.drop 0⟩) (.slice A s.ps.length c) (by exact Split.auto) ?_
    exact St_ret1 (.inl rfl) rfl rfl ⟨rfl, rfl⟩ (by exact Split.auto)
  have hmore : ∀ i : Nat, i < s.ps.length → (((s.acked + 1 + i : Nat) : Int) ≤ n ↔ i < g) := fun i hi => by
    rw [hgd]; split <;> omega
  refine St_slOpen (v := v) (n := s.ps.length) (by exact Has.auto) ?_ ?_
  · -- there are none
    rintro rfl h0 _
    have hg0 : g = 0 := by omega
    subst hg0
    repeat' (first | (refine St_loop (fun (i : Nat) => i = 0) (fun i => [(0, .pointer (some ⟨b, 0, none⟩)), (1, .int .i64 n), (5, nat .i64 0)]) (fun i => [cel false b 127 [nat .i64 s.win, nat .i64 s.last, nat .i64 (s.acked + s.ps.length), .slice none 0 0], big F]) (fun i => 0) 0 rfl ⟨rfl, rfl, rfl, trivial⟩ (by exact Split.auto) ?_) | (refine St_step ?_; (try with_reducible intro _)) | (refine St_step2 ?_ ?_ <;> (intro hb; (try simp only [beq_iff_eq, bne_iff_ne, decide_eq_true_eq, decide_eq_false_iff_not, Bool.not_eq_true', Bool.not_eq_false', beq_eq_false_iff_ne, bne_eq_false_iff_eq, ne_eq, Int.not_lt, Int.not_le, gt_iff_lt, ge_iff_le] at hb); (try (first | exact Bool.noConfusion hb | exact absurd trivial hb | (exfalso; omega))))) | fail)
    rintro i rfl
    repeat' (first | (apply St_rdN; apply Rd_clear0 tb; exact rfl; exact rfl) | (apply St_rd; exact rfl; (first | (apply Rd_sliceTo tb; exact rfl; exact rfl; exact rfl; exact rfl; decide) | (apply Rd_sliceFrom tb; exact rfl; exact rfl; exact rfl; exact rfl; decide))) | (apply Sq_rd; exact rfl; (first | (apply Rd_sliceTo tb; exact rfl; exact rfl; exact rfl; exact rfl; decide) | (apply Rd_sliceFrom tb; exact rfl; exact rfl; exact rfl; exact rfl; decide))) | (refine St_step ?_; (try with_reducible intro _)) | (refine St_step2 ?_ ?_ <;> (intro hb; (try simp only [beq_iff_eq, bne_iff_ne, decide_eq_true_eq, decide_eq_false_iff_not, Bool.not_eq_true', Bool.not_eq_false', beq_eq_false_iff_ne, bne_eq_false_iff_eq, ne_eq, Int.not_lt, Int.not_le, gt_iff_lt, ge_iff_le] at hb); (try (first | exact Bool.noConfusion hb | exact absurd trivial hb | (exfalso; omega))))) | fail)
    refine St_slNil (E := 113) (sz := 2) ?_
    have e0 : s.ps.drop 0 = [] := List.eq_nil_of_length_eq_zero (by rw [List.drop_zero]; exact h0)
    have e1 : s.ps = [] := List.eq_nil_of_length_eq_zero h0
    refine St_exMk (l := sdL b ⟨s.win, s.last, s.acked + 0, s.ps.drop 0⟩) (.slice none 0 0) (by rw [e0]; unfold sdL; rw [e1]; exact Split.auto) ?_
    exact St_ret1 (.inl rfl) rfl rfl ⟨rfl, rfl⟩ (by exact Split.auto)
  · rintro b' cap pre rest rfl hcap hrest hlen
    have hcell : ∀ i, i < s.ps.length → (pre ++ (seqs (s.acked + 1) s.ps).flatMap pv ++ rest)[pre.length + ((i : Nat) : Int).toNat * 2 + 0]? = some (nat .i64 (s.acked + 1 + i)) := fun i hi => by
      rw [Int.toNat_natCast, flat_cell pv_len pre rest (by rw [seqs_get, List.getElem?_eq_getElem hi]; rfl) (by decide)]
      rfl
    have Hcell := Lib.hid hcell
    have Hmore := Lib.hid hmore
    clear hcell hmore
    have hwl : (pre ++ (seqs (s.acked + 1) s.ps).flatMap pv ++ rest).length = pre.length + s.ps.length * 2 + rest.length := by
      simp only [List.length_append, hlen]
    repeat' (first | (refine St_loop (fun (i : Nat) => i ≤ g) (fun i => [(0, .pointer (some ⟨b, 0, none⟩)), (1, .int .i64 n), (5, nat .i64 i)]) (fun i => [cel false b 127 [nat .i64 s.win, nat .i64 s.last, nat .i64 (s.acked + s.ps.length), .slice (some ⟨b', pre.length, none⟩) s.ps.length cap], cel false b' 113 (pre ++ (seqs (s.acked + 1) s.ps).flatMap pv ++ rest), big F]) (fun i => g - i) 0 (Nat.zero_le _) ⟨rfl, rfl, rfl, trivial⟩ (by exact Split.auto) ?_) | (refine St_step ?_; (try with_reducible intro _)) | (refine St_step2 ?_ ?_ <;> (intro hb; (try simp only [beq_iff_eq, bne_iff_ne, decide_eq_true_eq, decide_eq_false_iff_not, Bool.not_eq_true', Bool.not_eq_false', beq_eq_false_iff_ne, bne_eq_false_iff_eq, ne_eq, Int.not_lt, Int.not_le, gt_iff_lt, ge_iff_le] at hb); (try (first | exact Bool.noConfusion hb | exact absurd trivial hb | (exfalso; omega))))) | fail)
    all_goals first | (exfalso; omega) | skip
    intro i hi
    by_cases hig : i < g
    · have hc := Hcell.out i (by omega)
      have hm := (Hmore.out i (by omega)).2 hig
      repeat' (first | (apply St_rd; exact rfl; (first | (apply Rd_loadn tb; exact rfl; exact rfl; exact rfl; exact Has.auto; exact hc))) | (apply Sq_rd; exact rfl; (first | (apply Rd_loadn tb; exact rfl; exact rfl; exact rfl; exact Has.auto; exact hc))) | (refine St_step ?_; (try with_reducible intro _)) | (refine St_step2 ?_ ?_ <;> (intro hb; (try simp only [beq_iff_eq, bne_iff_ne, decide_eq_true_eq, decide_eq_false_iff_not, Bool.not_eq_true', Bool.not_eq_false', beq_eq_false_iff_ne, bne_eq_false_iff_eq, ne_eq, Int.not_lt, Int.not_le, gt_iff_lt, ge_iff_le] at hb); (try (first | exact Bool.noConfusion hb | exact absurd trivial hb | (exfalso; omega))))) | fail)
      all_goals first | (exfalso; omega) | exact St_at (i + 1) ⟨by omega, by omega⟩ ⟨rfl, rfl, rfl, trivial⟩ (by exact Split.auto)
    · have hie : i = g := by omega
      subst hie
      have hstop : i < s.ps.length → ¬ ((s.acked + 1 + i : Nat) : Int) ≤ n := fun h h2 => hig ((Hmore.out i h).1 h2)
      have hz := zeros_len i
      have hset := setR_front (pre := pre) (cs := (seqs (s.acked + 1) s.ps).flatMap pv) (rest := rest) (zs := (List.replicate i [Value.int .i64 0, str []]).flatten) (by rw [hz, hlen]; omega)
      rw [hz, flat_drop2] at hset
      have hz1 := hset
      -- what the cut answers, and the chunks folded
      have fold : ∀ {env : Env} {G : Act → World → Prop} {L L' : List HP}, Has L (cel false b 127 [nat .i64 s.win, nat .i64 s.last, nat .i64 (s.acked + s.ps.length), .slice (if cap = i then some ⟨b', pre.length, none⟩ else (some (⟨b', pre.length, none⟩ : Addr)).map (·.add (i * 2))) (s.ps.length - i) (cap - i)]) L' →
          ∀ {L'' : List HP}, Has L' (cel false b' 113 (pre ++ (List.replicate i [Value.int .i64 0, str []]).flatten ++ ((seqs (s.acked + 1 + i) (s.ps.drop i)).flatMap pv ++ rest))) L'' →
          St ρ 49 env (SdP b ⟨s.win, s.last, s.acked + i, s.ps.drop i⟩ :: L'') G → St ρ 49 env L G := by
        intro env G L L' h1 L'' h2 h
        rw [cut_addr] at h1
        refine St_pull h1 ?_
        have hdl : (s.ps.drop i).length = s.ps.length - i := by simp
        have hcl : ((seqs (s.acked + 1 + i) (s.ps.drop i)).flatMap pv).length = (s.ps.length - i) * 2 := by rw [flat_len pv_len, seqs_length, hdl]
        have e1 : s.acked + 1 + i = s.acked + i + 1 := by omega
        by_cases hci : cap = i
        · have h0 : s.ps.drop i = [] := List.eq_nil_of_length_eq_zero (by omega)
          rw [h0] at h2
          have h2' : Has (cel false b 127 [nat .i64 s.win, nat .i64 s.last, nat .i64 (s.acked + s.ps.length), .slice (some ⟨b', if cap = i then pre.length else pre.length + i * 2, none⟩) (s.ps.length - i) (cap - i)] :: L') (cel false b' 113 (pre ++ [] ++ ((List.replicate i [Value.int .i64 0, str []]).flatten ++ ([] ++ rest)))) (_ :: L'') := .tail (by
            have : pre ++ [] ++ ((List.replicate i [Value.int .i64 0, str []]).flatten ++ ([] ++ rest)) = pre ++ (List.replicate i [Value.int .i64 0, str []]).flatten ++ ((seqs (s.acked + 1 + i) []).flatMap pv ++ rest) := by simp [seqs]
            rw [this]; exact h2)
          refine St_slMk (sz := 2) (n := 0) (cap := 0) h2' (Nat.le_refl _) (by simp) rfl ?_
          refine St_exMk (l := sdL b ⟨s.win, s.last, s.acked + i, s.ps.drop i⟩) (.slice (some ⟨b', pre.length, none⟩) 0 0) ?_ h
          have e2 : s.ps.length - i = 0 := by omega
          have e3 : cap - i = 0 := by omega
          rw [if_pos hci, e2, e3]
          unfold sdL
          dsimp only
          rw [hsum, h0]
          exact Split.auto
        · have h2' : Has (cel false b 127 [nat .i64 s.win, nat .i64 s.last, nat .i64 (s.acked + s.ps.length), .slice (some ⟨b', if cap = i then pre.length else pre.length + i * 2, none⟩) (s.ps.length - i) (cap - i)] :: L') (cel false b' 113 ((pre ++ (List.replicate i [Value.int .i64 0, str []]).flatten) ++ (seqs (s.acked + 1 + i) (s.ps.drop i)).flatMap pv ++ rest)) (_ :: L'') := .tail (by
            rw [List.append_assoc (pre ++ _)]; exact h2)
          refine St_slMk (sz := 2) (n := s.ps.length - i) (cap := cap - i) h2' (by omega) (by rw [Nat.sub_sub_sub_cancel_right hgl]; exact hrest) hcl ?_
          refine St_exMk (l := sdL b ⟨s.win, s.last, s.acked + i, s.ps.drop i⟩) (.slice (some ⟨b', (pre ++ (List.replicate i [Value.int .i64 0, str []]).flatten).length, none⟩) (s.ps.length - i) (cap - i)) ?_ h
          have e4 : (pre ++ (List.replicate i [Value.int .i64 0, str []]).flatten).length = pre.length + i * 2 := by rw [List.length_append, hz]
          rw [if_neg hci, e4]
          unfold sdL
          dsimp only
          rw [hsum, hdl, ← e1]
          exact Split.auto
      have hset0 : pre ++ (seqs (s.acked + 1) s.ps).flatMap pv ++ rest = pre ++ (List.replicate 0 [Value.int .i64 0, str []]).flatten ++ ((seqs (s.acked + 1 + 0) (s.ps.drop 0)).flatMap pv ++ rest) := by simp
      by_cases hi0 : i = 0
      · by_cases hlast : i < s.ps.length
        · have hc := Hcell.out i hlast
          have hm := hstop hlast
          subst hi0
          repeat' (first | (apply St_rdN; apply Rd_clear0 tb; exact rfl; exact rfl) | (apply St_rd; exact rfl; (first | (apply Rd_loadn tb; exact rfl; exact rfl; exact rfl; exact Has.auto; exact hc) | (apply Rd_sliceTo tb; exact rfl; exact rfl; exact rfl; exact rfl; omega) | (apply Rd_sliceFrom tb; exact rfl; exact rfl; exact rfl; exact rfl; omega))) | (apply Sq_rd; exact rfl; (first | (apply Rd_loadn tb; exact rfl; exact rfl; exact rfl; exact Has.auto; exact hc) | (apply Rd_sliceTo tb; exact rfl; exact rfl; exact rfl; exact rfl; omega) | (apply Rd_sliceFrom tb; exact rfl; exact rfl; exact rfl; exact rfl; omega))) | (refine St_step ?_; (try with_reducible intro _)) | (refine St_step2 ?_ ?_ <;> (intro hb; (try simp only [beq_iff_eq, bne_iff_ne, decide_eq_true_eq, decide_eq_false_iff_not, Bool.not_eq_true', Bool.not_eq_false', beq_eq_false_iff_ne, bne_eq_false_iff_eq, ne_eq, Int.not_lt, Int.not_le, gt_iff_lt, ge_iff_le] at hb); (try (first | exact Bool.noConfusion hb | exact absurd trivial hb | (exfalso; omega))))) | fail)
          all_goals first | (exfalso; omega) | skip
          refine St_cel (r := false) (b := b') (by exact Has.auto) hset0 ?_
          refine fold (by exact Has.auto) (by exact Has.auto) ?_
          exact St_ret1 (.inl rfl) rfl rfl ⟨rfl, rfl⟩ (by exact Split.auto)
        · subst hi0
          repeat' (first | (apply St_rdN; apply Rd_clear0 tb; exact rfl; exact rfl) | (apply St_rd; exact rfl; (first | (apply Rd_sliceTo tb; exact rfl; exact rfl; exact rfl; exact rfl; omega) | (apply Rd_sliceFrom tb; exact rfl; exact rfl; exact rfl; exact rfl; omega))) | (apply Sq_rd; exact rfl; (first | (apply Rd_sliceTo tb; exact rfl; exact rfl; exact rfl; exact rfl; omega) | (apply Rd_sliceFrom tb; exact rfl; exact rfl; exact rfl; exact rfl; omega))) | (refine St_step ?_; (try with_reducible intro _)) | (refine St_step2 ?_ ?_ <;> (intro hb; (try simp only [beq_iff_eq, bne_iff_ne, decide_eq_true_eq, decide_eq_false_iff_not, Bool.not_eq_true', Bool.not_eq_false', beq_eq_false_iff_ne, bne_eq_false_iff_eq, ne_eq, Int.not_lt, Int.not_le, gt_iff_lt, ge_iff_le] at hb); (try (first | exact Bool.noConfusion hb | exact absurd trivial hb | (exfalso; omega))))) | fail)
          all_goals first | (exfalso; omega) | skip
          refine St_cel (r := false) (b := b') (by exact Has.auto) hset0 ?_
          refine fold (by exact Has.auto) (by exact Has.auto) ?_
          exact St_ret1 (.inl rfl) rfl rfl ⟨rfl, rfl⟩ (by exact Split.auto)
      · have hzl : pre.length + ((List.replicate i [Value.int .i64 0, str []]).flatten).length ≤ (pre ++ (seqs (s.acked + 1) s.ps).flatMap pv ++ rest).length := by rw [hz, hwl]; omega
        by_cases hlast : i < s.ps.length
        · have hc := Hcell.out i hlast
          have hm := hstop hlast
          repeat' (first | (apply St_clearN tb; exact rfl; exact rfl; exact rfl; exact rfl; exact rfl; exact Has.auto; exact hzl; exact hi0) | (apply St_rd; exact rfl; (first | (apply Rd_loadn tb; exact rfl; exact rfl; exact rfl; exact Has.auto; exact hc) | (apply Rd_sliceTo tb; exact rfl; exact rfl; exact rfl; exact rfl; omega) | (apply Rd_sliceFrom tb; exact rfl; exact rfl; exact rfl; exact rfl; omega))) | (apply Sq_rd; exact rfl; (first | (apply Rd_loadn tb; exact rfl; exact rfl; exact rfl; exact Has.auto; exact hc) | (apply Rd_sliceTo tb; exact rfl; exact rfl; exact rfl; exact rfl; omega) | (apply Rd_sliceFrom tb; exact rfl; exact rfl; exact rfl; exact rfl; omega))) | (refine St_step ?_; (try with_reducible intro _)) | (refine St_step2 ?_ ?_ <;> (intro hb; (try simp only [beq_iff_eq, bne_iff_ne, decide_eq_true_eq, decide_eq_false_iff_not, Bool.not_eq_true', Bool.not_eq_false', beq_eq_false_iff_ne, bne_eq_false_iff_eq, ne_eq, Int.not_lt, Int.not_le, gt_iff_lt, ge_iff_le] at hb); (try (first | exact Bool.noConfusion hb | exact absurd trivial hb | (exfalso; omega))))) | fail)
          all_goals first | (exfalso; omega) | skip
          refine St_cel (r := false) (b := b') (by exact Has.auto) hset ?_
          refine fold (by exact Has.auto) (by exact Has.auto) ?_
          exact St_ret1 (.inl rfl) rfl rfl ⟨rfl, rfl⟩ (by exact Split.auto)
        · repeat' (first | (apply St_clearN tb; exact rfl; exact rfl; exact rfl; exact rfl; exact rfl; exact Has.auto; exact hzl; exact hi0) | (apply St_rd; exact rfl; (first | (apply Rd_sliceTo tb; exact rfl; exact rfl; exact rfl; exact rfl; omega) | (apply Rd_sliceFrom tb; exact rfl; exact rfl; exact rfl; exact rfl; omega))) | (apply Sq_rd; exact rfl; (first | (apply Rd_sliceTo tb; exact rfl; exact rfl; exact rfl; exact rfl; omega) | (apply Rd_sliceFrom tb; exact rfl; exact rfl; exact rfl; exact rfl; omega))) | (refine St_step ?_; (try with_reducible intro _)) | (refine St_step2 ?_ ?_ <;> (intro hb; (try simp only [beq_iff_eq, bne_iff_ne, decide_eq_true_eq, decide_eq_false_iff_not, Bool.not_eq_true', Bool.not_eq_false', beq_eq_false_iff_ne, bne_eq_false_iff_eq, ne_eq, Int.not_lt, Int.not_le, gt_iff_lt, ge_iff_le] at hb); (try (first | exact Bool.noConfusion hb | exact absurd trivial hb | (exfalso; omega))))) | fail)
          all_goals first | (exfalso; omega) | skip
          refine St_cel (r := false) (b := b') (by exact Has.auto) hset ?_
          refine fold (by exact Has.auto) (by exact Has.auto) ?_
          exact St_ret1 (.inl rfl) rfl rfl ⟨rfl, rfl⟩ (by exact Split.auto)
end Go.Proofs.YtfjnacakpeommaaDoor
