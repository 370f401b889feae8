/- Contracts: chapbookref03's reader and writing; the writer's other methods. -/
import Derived.Test.YtfjnacakpeommaaDoorC5
namespace Go.Proofs.YtfjnacakpeommaaDoor
open Go SL Pl
set_option autoImplicit false
set_option maxRecDepth 100000
set_option linter.unusedSimpArgs false
set_option linter.unusedVariables false
attribute [local irreducible] St Sq Exec QExec wpList wpQuiet Code.wp Exit.then Exit.inBlock bodyPost At Rd wpOp Wa QK GB
/-! Writing -/
theorem wNumber_sp (b : Nat) (bs : List UInt8) (bad : Bool) (n : Nat) (hn : n < 4611686018427387904) (hb0 : bs.length ≤ 10000000000000) :
    Sp Tryd.prog 73 [.pointer (some ⟨b, 0, none⟩), nat .i64 n] [Wr b bs bad, GB] (fun r M => r = .tuple #[] ∧ M = [Wr b (bs ++ enc n) bad, GB]) := by
  refine Sp.intro (P := Tryd.prog) (Tryd.func73) rfl Tryd.ntmps73 (by decide) rfl ?_
  intro ρ F
  have h := wput_sp b bs bad true n (by omega) hb0
  have e1 : encOr n = enc n := if_pos hn
  have e2 : (bad || !true || wbad n) = bad := by simp [wbad, hn]
  rw [e1, e2] at h
  have hd : decide ((n : Int) ≥ 0) = true := by simp
  repeat' (first | (rw [hd]; apply St_call (hf := h); exact rfl; exact rfl; exact Split.auto; rintro _ _ ⟨rfl, rfl⟩) | (refine St_step ?_; (try with_reducible intro _)) | (refine St_step2 ?_ ?_ <;> (intro hb; (try simp only [beq_iff_eq, bne_iff_ne, decide_eq_true_eq, decide_eq_false_iff_not, Bool.not_eq_true', Bool.not_eq_false', beq_eq_false_iff_ne, bne_eq_false_iff_eq, ne_eq, Int.not_lt, Int.not_le, gt_iff_lt, ge_iff_le] at hb); (try (first | exact Bool.noConfusion hb | exact absurd trivial hb | (exfalso; omega))))) | fail)
  exact St_ret0 (.inr rfl) rfl ⟨rfl, rfl⟩ (by exact Split.auto)
theorem wText_sp (b : Nat) (bs s : List UInt8) (bad : Bool) (hb0 : bs.length + s.length ≤ 1000000000000) :
    Sp Tryd.prog 79 [.pointer (some ⟨b, 0, none⟩), str s] [Wr b bs bad, GB] (fun r M => r = .tuple #[] ∧ M = [Wr b (bs ++ (enc s.length ++ s)) bad, GB]) := by
  refine Sp.intro (P := Tryd.prog) (Tryd.func79) rfl Tryd.ntmps79 (by decide) rfl ?_
  intro ρ F
  have h1 := wNumber_sp b bs bad s.length (by omega) (by omega)
  have h8 := enc_len s.length
  have h2 := wWrite_sp b (bs ++ enc s.length) s bad (by simp; omega)
  rw [List.append_assoc] at h2
  repeat' (first | (apply St_call (hf := h1); exact rfl; exact rfl; exact Split.auto; rintro _ _ ⟨rfl, rfl⟩) | (apply St_call (hf := h2); exact rfl; exact rfl; exact Split.auto; rintro _ _ ⟨rfl, rfl⟩) | (refine St_step ?_; (try with_reducible intro _)) | (refine St_step2 ?_ ?_ <;> (intro hb; (try simp only [beq_iff_eq, bne_iff_ne, decide_eq_true_eq, decide_eq_false_iff_not, Bool.not_eq_true', Bool.not_eq_false', beq_eq_false_iff_ne, bne_eq_false_iff_eq, ne_eq, Int.not_lt, Int.not_le, gt_iff_lt, ge_iff_le] at hb); (try (first | exact Bool.noConfusion hb | exact absurd trivial hb | (exfalso; omega))))) | fail)
  exact St_ret0 (.inr rfl) rfl ⟨rfl, rfl⟩ (by exact Split.auto)
theorem wBytes_sp (b : Nat) (bs : List UInt8) (hb0 : bs.length ≤ 100000000000000) : Sp Tryd.prog 75 [.pointer (some ⟨b, 0, none⟩)] [Wr b bs false]
    (fun r M => r = .tuple [str bs, .int .i64 0].toArray ∧ M = []) := by
  refine Sp.intro (P := Tryd.prog) (Tryd.func75) rfl Tryd.ntmps75 (by decide) rfl ?_
  intro ρ F
  refine St_wr (by exact Has.auto) fun p v hp => ?_
  repeat' (first | (refine St_step ?_; (try with_reducible intro _)) | (refine St_step2 ?_ ?_ <;> (intro hb; (try simp only [beq_iff_eq, bne_iff_ne, decide_eq_true_eq, decide_eq_false_iff_not, Bool.not_eq_true', Bool.not_eq_false', beq_eq_false_iff_ne, bne_eq_false_iff_eq, ne_eq, Int.not_lt, Int.not_le, gt_iff_lt, ge_iff_le] at hb); (try (first | exact Bool.noConfusion hb | exact absurd trivial hb | (exfalso; omega))))) | fail)
  refine St_wrMk hp (by exact Split.auto) ?_
  have h := wString_sp b bs false hb0
  repeat' (first | (apply St_call (hf := h); exact rfl; exact rfl; exact Split.auto; rintro _ _ ⟨rfl, rfl⟩) | (refine St_step ?_; (try with_reducible intro _)) | (refine St_step2 ?_ ?_ <;> (intro hb; (try simp only [beq_iff_eq, bne_iff_ne, decide_eq_true_eq, decide_eq_false_iff_not, Bool.not_eq_true', Bool.not_eq_false', beq_eq_false_iff_ne, bne_eq_false_iff_eq, ne_eq, Int.not_lt, Int.not_le, gt_iff_lt, ge_iff_le] at hb); (try (first | exact Bool.noConfusion hb | exact absurd trivial hb | (exfalso; omega))))) | fail)
  exact St_ret2 (.inl rfl) rfl rfl rfl ⟨rfl, rfl⟩ (by exact Split.auto)
theorem wBytesBad_sp (b : Nat) (bs : List UInt8) : Sp Tryd.prog 75 [.pointer (some ⟨b, 0, none⟩)] [Wr b bs true]
    (fun r M => r = .tuple [str [], .int .i64 1].toArray ∧ M = []) := by
  refine Sp.intro (P := Tryd.prog) (Tryd.func75) rfl Tryd.ntmps75 (by decide) rfl ?_
  intro ρ F
  refine St_wr (by exact Has.auto) fun p v hp => ?_
  repeat' (first | (refine St_step ?_; (try with_reducible intro _)) | (refine St_step2 ?_ ?_ <;> (intro hb; (try simp only [beq_iff_eq, bne_iff_ne, decide_eq_true_eq, decide_eq_false_iff_not, Bool.not_eq_true', Bool.not_eq_false', beq_eq_false_iff_ne, bne_eq_false_iff_eq, ne_eq, Int.not_lt, Int.not_le, gt_iff_lt, ge_iff_le] at hb); (try (first | exact Bool.noConfusion hb | exact absurd trivial hb | (exfalso; omega))))) | fail)
  exact St_ret2 (.inl rfl) rfl rfl rfl ⟨rfl, rfl⟩ (by exact Split.auto)
theorem refNumber_sp (n : Nat) (hn : n < 4611686018427387904) : Sp Tryd.prog 41 [nat .i64 n] [] (fun v M => v = .tuple [str (enc n), .bool true].toArray ∧ M = []) := by
  refine Sp.intro (P := Tryd.prog) (Tryd.func41) rfl Tryd.ntmps41 (by decide) rfl ?_
  intro ρ F
  have h := refPut_sp n (by omega)
  rw [if_pos hn, if_pos hn] at h
  repeat' (first | (apply St_call (hf := h); exact rfl; exact rfl; exact Split.auto; rintro _ _ ⟨rfl, rfl⟩) | (refine St_step ?_; (try with_reducible intro _)) | (refine St_step2 ?_ ?_ <;> (intro hb; (try simp only [beq_iff_eq, bne_iff_ne, decide_eq_true_eq, decide_eq_false_iff_not, Bool.not_eq_true', Bool.not_eq_false', beq_eq_false_iff_ne, bne_eq_false_iff_eq, ne_eq, Int.not_lt, Int.not_le, gt_iff_lt, ge_iff_le] at hb); (try (first | exact Bool.noConfusion hb | exact absurd trivial hb | (exfalso; omega))))) | fail)
  exact St_ret2 (.inl rfl) rfl rfl rfl ⟨rfl, rfl⟩ (by exact Split.auto)
theorem refText_sp (s : List UInt8) (hs : s.length < 1000000000000) : Sp Tryd.prog 43 [str s] [] (fun v M => v = str (enc s.length ++ s) ∧ M = []) := by
  refine Sp.intro (P := Tryd.prog) (Tryd.func43) rfl Tryd.ntmps43 (by decide) rfl ?_
  intro ρ F
  have h := refNumber_sp s.length (by omega)
  have h8 := enc_len s.length
  repeat' (first | (apply St_call (hf := h); exact rfl; exact rfl; exact Split.auto; rintro _ _ ⟨rfl, rfl⟩) | (refine St_step ?_; (try with_reducible intro _)) | (refine St_step2 ?_ ?_ <;> (intro hb; (try simp only [beq_iff_eq, bne_iff_ne, decide_eq_true_eq, decide_eq_false_iff_not, Bool.not_eq_true', Bool.not_eq_false', beq_eq_false_iff_ne, bne_eq_false_iff_eq, ne_eq, Int.not_lt, Int.not_le, gt_iff_lt, ge_iff_le] at hb); (try (first | exact Bool.noConfusion hb | exact absurd trivial hb | (exfalso; omega))))) | fail)
  exact St_ret1 (.inl rfl) rfl rfl ⟨rfl, rfl⟩ (by exact Split.auto)
end Go.Proofs.YtfjnacakpeommaaDoor
