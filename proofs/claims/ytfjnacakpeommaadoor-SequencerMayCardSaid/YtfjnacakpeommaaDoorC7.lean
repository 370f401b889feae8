/- Contracts: frame's Put and its reference. -/
import Derived.Test.YtfjnacakpeommaaDoorC6
import Derived.Test.YtfjnacakpeommaaDoorC2b
import Derived.Test.YtfjnacakpeommaaDoorPl4
namespace Go.Proofs.YtfjnacakpeommaaDoor
open Go SL Pl
set_option autoImplicit false
set_option maxRecDepth 100000
set_option linter.unusedSimpArgs false
set_option linter.unusedVariables false
attribute [local irreducible] St Sq Exec QExec wpList wpQuiet Code.wp Exit.then Exit.inBlock bodyPost At Rd wpOp Wa QK GB
/-- A frame's cells. -/
abbrev fv (f : Fr) : List Value := [.int .i64 f.ep, .int .i64 f.seq, .int .i64 f.ack, str f.data]
theorem fin_sp (n lo hi : Int) : Sp Tryd.prog 60 [.int .i64 n, .int .i64 lo, .int .i64 hi] [] (fun v M => v = .bool (decide (lo ≤ n ∧ n ≤ hi)) ∧ M = []) := by
  refine Sp.intro (P := Tryd.prog) (Tryd.func60) rfl Tryd.ntmps60 (by decide) rfl ?_
  intro ρ F
  repeat' (first | (refine St_step ?_; (try with_reducible intro _)) | (refine St_step2 ?_ ?_ <;> (intro hb; (try simp only [beq_iff_eq, bne_iff_ne, decide_eq_true_eq, decide_eq_false_iff_not, Bool.not_eq_true', Bool.not_eq_false', beq_eq_false_iff_ne, bne_eq_false_iff_eq, ne_eq, Int.not_lt, Int.not_le, gt_iff_lt, ge_iff_le] at hb); (try (first | exact Bool.noConfusion hb | exact absurd trivial hb | (exfalso; omega))))) | fail)
  all_goals (refine St_ret1 (.inl rfl) rfl rfl ⟨?_, rfl⟩ (by exact Split.auto))
  all_goals first
    | (congr 1; rw [decide_eq_decide]; omega)
    | (congr 1; rw [eq_comm, decide_eq_false_iff_not]; omega)
    | (congr 1; rw [eq_comm, decide_eq_true_eq]; omega)
theorem fseal_sp (f : Fr) (a b c : Nat) (ha : f.ep = a) (hb1 : f.seq = b) (hc : f.ack = c) (ha1 : a < 4611686018427387904) (hb2 : b < 4611686018427387904) (hc1 : c < 4611686018427387904) (hd : f.data.length ≤ 1000000) :
    Sp Tryd.prog 61 [.agg (fv f).toArray] [GB] (fun v M => v = str (fbytes f) ∧ M = [GB]) := by
  refine Sp.intro (P := Tryd.prog) (Tryd.func61) rfl Tryd.ntmps61 (by decide) rfl ?_
  intro ρ F
  obtain ⟨ep, seq, ack, d⟩ := f
  have ha : ep = a := ha
  have hb1 : seq = b := hb1
  have hc : ack = c := hc
  have hd : d.length ≤ 1000000 := hd
  subst ha hb1 hc
  have l1 := enc_len a; have l2 := enc_len b; have l3 := enc_len c; have l4 := enc_len d.length
  have efb : fbytes ⟨a, b, c, d⟩ = seald ([] ++ enc a ++ enc b ++ enc c ++ (enc d.length ++ d)) := rfl
  rw [efb]
  repeat' (first | (refine St_step ?_; (try with_reducible intro _)) | (refine St_step2 ?_ ?_ <;> (intro hb; (try simp only [beq_iff_eq, bne_iff_ne, decide_eq_true_eq, decide_eq_false_iff_not, Bool.not_eq_true', Bool.not_eq_false', beq_eq_false_iff_ne, bne_eq_false_iff_eq, ne_eq, Int.not_lt, Int.not_le, gt_iff_lt, ge_iff_le] at hb); (try (first | exact Bool.noConfusion hb | exact absurd trivial hb | (exfalso; omega))))) | fail)
  refine St_slNil (E := 5) (sz := 1) ?_
  refine St_wrMk (bs := []) (.inl rfl) (by exact Split.auto) ?_
  have w1 := fun k => wNumber_sp k [] false a ha1 (by simp)
  have w2 := fun k => wNumber_sp k ([] ++ enc a) false b hb2 (by simp; omega)
  have w3 := fun k => wNumber_sp k ([] ++ enc a ++ enc b) false c hc1 (by simp; omega)
  have w4 := fun k => wText_sp k ([] ++ enc a ++ enc b ++ enc c) d false (by simp; omega)
  have w5 := fun k => wBytes_sp k ([] ++ enc a ++ enc b ++ enc c ++ (enc d.length ++ d)) (by simp; omega)
  have w6 := seal_sp ([] ++ enc a ++ enc b ++ enc c ++ (enc d.length ++ d)) (by simp; omega)
  generalize [] ++ enc a ++ enc b ++ enc c ++ (enc d.length ++ d) = q at *
  generalize [] ++ enc a ++ enc b ++ enc c = q3 at *
  repeat' (first | (apply St_call (hf := w1 _); exact rfl; exact rfl; exact Split.auto; rintro _ _ ⟨rfl, rfl⟩) | (apply St_call (hf := w2 _); exact rfl; exact rfl; exact Split.auto; rintro _ _ ⟨rfl, rfl⟩) | (apply St_call (hf := w3 _); exact rfl; exact rfl; exact Split.auto; rintro _ _ ⟨rfl, rfl⟩) | (apply St_call (hf := w4 _); exact rfl; exact rfl; exact Split.auto; rintro _ _ ⟨rfl, rfl⟩) | (apply St_call (hf := w5 _); exact rfl; exact rfl; exact Split.auto; rintro _ _ ⟨rfl, rfl⟩) | (apply St_call (hf := w6); exact rfl; exact rfl; exact Split.auto; rintro _ _ ⟨rfl, rfl⟩) | (refine St_step ?_; (try with_reducible intro _)) | (refine St_step2 ?_ ?_ <;> (intro hb; (try simp only [beq_iff_eq, bne_iff_ne, decide_eq_true_eq, decide_eq_false_iff_not, Bool.not_eq_true', Bool.not_eq_false', beq_eq_false_iff_ne, bne_eq_false_iff_eq, ne_eq, Int.not_lt, Int.not_le, gt_iff_lt, ge_iff_le] at hb); (try (first | exact Bool.noConfusion hb | exact absurd trivial hb | (exfalso; omega))))) | fail)
  exact St_ret1 (.inl rfl) rfl rfl ⟨rfl, rfl⟩ (by exact Split.auto)
theorem fbytes_len (f : Fr) : (fbytes f).length ≤ f.data.length + 36 := by
  have l1 := enc_len f.ep.toNat; have l2 := enc_len f.seq.toNat; have l3 := enc_len f.ack.toNat; have l4 := enc_len f.data.length
  simp [fbytes, seald, fbody, le4]; omega
theorem fbytes_ge (f : Fr) : f.data.length ≤ (fbytes f).length := by
  simp [fbytes, seald, fbody, le4]; omega
theorem fput_sp (f : Fr) (mtu : Int) (hd : f.data.length ≤ 1000000) :
    Sp Tryd.prog 32 [.agg (fv f).toArray, .int .i64 mtu] [GB] (fun v M => v = .tuple [str (fput f mtu).1, nat .i64 (fput f mtu).2].toArray ∧ M = [GB]) := by
  refine Sp.intro (P := Tryd.prog) (Tryd.func32) rfl Tryd.ntmps32 (by decide) rfl ?_
  intro ρ F
  have hlen := fbytes_len f
  by_cases hm : mtu < 64 ∨ 1400 < mtu
  · have e : fput f mtu = ([], 1) := if_pos hm
    rw [e]
    repeat' (first | (apply St_call (hf := fin_sp _ _ _); exact rfl; exact rfl; exact Split.auto; rintro _ _ ⟨rfl, rfl⟩) | (refine St_step ?_; (try with_reducible intro _)) | (refine St_step2 ?_ ?_ <;> (intro hb; (try simp only [beq_iff_eq, bne_iff_ne, decide_eq_true_eq, decide_eq_false_iff_not, Bool.not_eq_true', Bool.not_eq_false', beq_eq_false_iff_ne, bne_eq_false_iff_eq, ne_eq, Int.not_lt, Int.not_le, gt_iff_lt, ge_iff_le] at hb); (try (first | exact Bool.noConfusion hb | exact absurd trivial hb | (exfalso; omega))))) | fail)
    all_goals (first | contradiction | (exfalso; omega) | (exact St_ret1 (.inl rfl) rfl rfl ⟨rfl, rfl⟩ (by exact Split.auto)) | (exact St_ret2 (.inl rfl) rfl rfl rfl ⟨rfl, rfl⟩ (by exact Split.auto)) | (exact St_ret3 (.inl rfl) rfl rfl rfl rfl ⟨rfl, rfl⟩ (by exact Split.auto)))
  by_cases hi : frIn f
  · obtain ⟨⟨h1, h2⟩, ⟨h3, h4⟩, h5, h6⟩ := id hi
    obtain ⟨a, ha⟩ := Int.eq_ofNat_of_zero_le (show 0 ≤ f.ep by omega)
    obtain ⟨b, hb'⟩ := Int.eq_ofNat_of_zero_le h3
    obtain ⟨c, hc⟩ := Int.eq_ofNat_of_zero_le h5
    have hs := fseal_sp f a b c ha hb' hc (by omega) (by omega) (by omega) hd
    by_cases h13 : f.seq = 0 ∧ f.data ≠ []
    · have em : fmay f = 13 := by unfold fmay; rw [if_neg (fun h => h hi), if_pos h13]
      have e : fput f mtu = ([], 13) := by unfold fput; rw [if_neg hm, em]; rfl
      rw [e]
      obtain ⟨h7, h8⟩ := h13
      repeat' (first | (apply St_call (hf := fin_sp _ _ _); exact rfl; exact rfl; exact Split.auto; rintro _ _ ⟨rfl, rfl⟩) | (refine St_step ?_; (try with_reducible intro _)) | (refine St_step2 ?_ ?_ <;> (intro hb; (try simp only [beq_iff_eq, bne_iff_ne, decide_eq_true_eq, decide_eq_false_iff_not, Bool.not_eq_true', Bool.not_eq_false', beq_eq_false_iff_ne, bne_eq_false_iff_eq, ne_eq, Int.not_lt, Int.not_le, gt_iff_lt, ge_iff_le] at hb); (try (first | exact Bool.noConfusion hb | exact absurd trivial hb | (exfalso; omega))))) | fail)
      all_goals (first | contradiction | (exfalso; omega) | (exact St_ret1 (.inl rfl) rfl rfl ⟨rfl, rfl⟩ (by exact Split.auto)) | (exact St_ret2 (.inl rfl) rfl rfl rfl ⟨rfl, rfl⟩ (by exact Split.auto)) | (exact St_ret3 (.inl rfl) rfl rfl rfl rfl ⟨rfl, rfl⟩ (by exact Split.auto)))
    · have em : fmay f = 0 := by unfold fmay; rw [if_neg (fun h => h hi), if_neg h13]
      by_cases hl : mtu < (fbytes f).length
      · have e : fput f mtu = ([], 3) := by unfold fput; rw [if_neg hm, em, if_neg (fun h => h rfl), if_pos hl]
        rw [e]
        repeat' (first | (apply St_call (hf := fin_sp _ _ _); exact rfl; exact rfl; exact Split.auto; rintro _ _ ⟨rfl, rfl⟩) | (apply St_call (hf := hs); exact rfl; exact rfl; exact Split.auto; rintro _ _ ⟨rfl, rfl⟩) | (refine St_step ?_; (try with_reducible intro _)) | (refine St_step2 ?_ ?_ <;> (intro hb; (try simp only [beq_iff_eq, bne_iff_ne, decide_eq_true_eq, decide_eq_false_iff_not, Bool.not_eq_true', Bool.not_eq_false', beq_eq_false_iff_ne, bne_eq_false_iff_eq, ne_eq, Int.not_lt, Int.not_le, gt_iff_lt, ge_iff_le] at hb); (try (first | exact Bool.noConfusion hb | exact absurd trivial hb | (exfalso; omega))))) | fail)
        all_goals first | exact absurd ⟨by assumption, by assumption⟩ h13 | (first | contradiction | (exfalso; omega) | (exact St_ret1 (.inl rfl) rfl rfl ⟨rfl, rfl⟩ (by exact Split.auto)) | (exact St_ret2 (.inl rfl) rfl rfl rfl ⟨rfl, rfl⟩ (by exact Split.auto)) | (exact St_ret3 (.inl rfl) rfl rfl rfl rfl ⟨rfl, rfl⟩ (by exact Split.auto)))
      · have e : fput f mtu = (fbytes f, 0) := by unfold fput; rw [if_neg hm, em, if_neg (fun h => h rfl), if_neg hl]
        rw [e]
        repeat' (first | (apply St_call (hf := fin_sp _ _ _); exact rfl; exact rfl; exact Split.auto; rintro _ _ ⟨rfl, rfl⟩) | (apply St_call (hf := hs); exact rfl; exact rfl; exact Split.auto; rintro _ _ ⟨rfl, rfl⟩) | (refine St_step ?_; (try with_reducible intro _)) | (refine St_step2 ?_ ?_ <;> (intro hb; (try simp only [beq_iff_eq, bne_iff_ne, decide_eq_true_eq, decide_eq_false_iff_not, Bool.not_eq_true', Bool.not_eq_false', beq_eq_false_iff_ne, bne_eq_false_iff_eq, ne_eq, Int.not_lt, Int.not_le, gt_iff_lt, ge_iff_le] at hb); (try (first | exact Bool.noConfusion hb | exact absurd trivial hb | (exfalso; omega))))) | fail)
        all_goals first | exact absurd ⟨by assumption, by assumption⟩ h13 | (first | contradiction | (exfalso; omega) | (exact St_ret1 (.inl rfl) rfl rfl ⟨rfl, rfl⟩ (by exact Split.auto)) | (exact St_ret2 (.inl rfl) rfl rfl rfl ⟨rfl, rfl⟩ (by exact Split.auto)) | (exact St_ret3 (.inl rfl) rfl rfl rfl rfl ⟨rfl, rfl⟩ (by exact Split.auto)))
  · have em : fmay f = 1 := by unfold fmay; rw [if_pos hi]
    have e : fput f mtu = ([], 1) := by unfold fput; rw [if_neg hm, em]; rfl
    rw [e]
    have hi' : ¬ ((1 ≤ f.ep ∧ f.ep ≤ 1099511627776) ∧ (0 ≤ f.seq ∧ f.seq ≤ 1125899906842624) ∧ (0 ≤ f.ack ∧ f.ack ≤ 1125899906842624)) := hi
    repeat' (first | (apply St_call (hf := fin_sp _ _ _); exact rfl; exact rfl; exact Split.auto; rintro _ _ ⟨rfl, rfl⟩) | (refine St_step ?_; (try with_reducible intro _)) | (refine St_step2 ?_ ?_ <;> (intro hb; (try simp only [beq_iff_eq, bne_iff_ne, decide_eq_true_eq, decide_eq_false_iff_not, Bool.not_eq_true', Bool.not_eq_false', beq_eq_false_iff_ne, bne_eq_false_iff_eq, ne_eq, Int.not_lt, Int.not_le, gt_iff_lt, ge_iff_le] at hb); (try (first | exact Bool.noConfusion hb | exact absurd trivial hb | (exfalso; omega))))) | fail)
    all_goals (first | contradiction | (exfalso; omega) | (exact St_ret1 (.inl rfl) rfl rfl ⟨rfl, rfl⟩ (by exact Split.auto)) | (exact St_ret2 (.inl rfl) rfl rfl rfl ⟨rfl, rfl⟩ (by exact Split.auto)) | (exact St_ret3 (.inl rfl) rfl rfl rfl rfl ⟨rfl, rfl⟩ (by exact Split.auto)))
theorem refBytes_sp (f : Fr) (a b c : Nat) (ha : f.ep = a) (hb1 : f.seq = b) (hc : f.ack = c) (ha1 : a < 4611686018427387904) (hb2 : b < 4611686018427387904) (hc1 : c < 4611686018427387904) (hd : f.data.length ≤ 1000000) :
    Sp Tryd.prog 18 [.agg (fv f).toArray] [] (fun v M => v = str (fbytes f) ∧ M = []) := by
  refine Sp.intro (P := Tryd.prog) (Tryd.func18) rfl Tryd.ntmps18 (by decide) rfl ?_
  intro ρ F
  obtain ⟨ep, seq, ack, d⟩ := f
  have ha : ep = a := ha
  have hb1 : seq = b := hb1
  have hc : ack = c := hc
  have hd : d.length ≤ 1000000 := hd
  subst ha hb1 hc
  have l1 := enc_len a; have l2 := enc_len b; have l3 := enc_len c; have l4 := enc_len d.length
  have efb : fbytes ⟨a, b, c, d⟩ = seald (enc a ++ enc b ++ enc c ++ (enc d.length ++ d)) := rfl
  rw [efb]
  have w1 := refNumber_sp a ha1
  have w2 := refNumber_sp b hb2
  have w3 := refNumber_sp c hc1
  have w4 := refText_sp d (by omega)
  have w6 := refSeal_sp (enc a ++ enc b ++ enc c ++ (enc d.length ++ d)) (by simp; omega)
  generalize hq4 : enc d.length ++ d = q4 at *
  have l5 : q4.length ≤ 1000008 := by rw [← hq4]; simp; omega
  repeat' (first | (apply St_call (hf := w1); exact rfl; exact rfl; exact Split.auto; rintro _ _ ⟨rfl, rfl⟩) | (apply St_call (hf := w2); exact rfl; exact rfl; exact Split.auto; rintro _ _ ⟨rfl, rfl⟩) | (apply St_call (hf := w3); exact rfl; exact rfl; exact Split.auto; rintro _ _ ⟨rfl, rfl⟩) | (apply St_call (hf := w4); exact rfl; exact rfl; exact Split.auto; rintro _ _ ⟨rfl, rfl⟩) | (apply St_call (hf := w6); exact rfl; exact rfl; exact Split.auto; rintro _ _ ⟨rfl, rfl⟩) | (apply St_rd; exact rfl; (first | (apply Rd_cat; exact rfl; exact rfl; (simp only [List.length_append]; omega)))) | (apply Sq_rd; exact rfl; (first | (apply Rd_cat; exact rfl; exact rfl; (simp only [List.length_append]; omega)))) | (refine St_step ?_; (try with_reducible intro _)) | (refine St_step2 ?_ ?_ <;> (intro hb; (try simp only [beq_iff_eq, bne_iff_ne, decide_eq_true_eq, decide_eq_false_iff_not, Bool.not_eq_true', Bool.not_eq_false', beq_eq_false_iff_ne, bne_eq_false_iff_eq, ne_eq, Int.not_lt, Int.not_le, gt_iff_lt, ge_iff_le] at hb); (try (first | exact Bool.noConfusion hb | exact absurd trivial hb | (exfalso; omega))))) | fail)
  exact St_ret1 (.inl rfl) rfl rfl ⟨rfl, rfl⟩ (by exact Split.auto)
end Go.Proofs.YtfjnacakpeommaaDoor
