/- Contracts: round.Fits, what is great, chapbooklaw09's FrameCarries. -/
import Derived.Test.YtffnnddhlpcicaaDoorC12
import Derived.Test.YtffnnddhlpcicaaDoorC9
namespace Go.Proofs.YtffnnddhlpcicaaDoor
open Go SL Pl
set_option autoImplicit false
set_option maxRecDepth 100000
set_option linter.unusedSimpArgs false
set_option linter.unusedVariables false
attribute [local irreducible] St Sq Exec QExec wpList wpQuiet Code.wp Exit.then Exit.inBlock bodyPost At Rd wpOp Wa QK GB
theorem rFits_sp (q : Bool) (l : List Up) (v : Value) (mtu : Int) : Sp Tryd.prog 17 [v, .int .i64 mtu] [UL q v l, GB] (fun w M => w = .bool (rfits l mtu) ∧ M = [UL q v l, GB]) := by
  refine Sp.intro (P := Tryd.prog) (Tryd.func17) rfl Tryd.ntmps17 (by decide) rfl ?_
  intro ρ F
  refine St_rsIs (by exact Has.auto) ?_
  rintro A c rfl
  have hp := rPut_sp q ⟨64, 1099511627776, l⟩ (.slice A l.length c)
  unfold rfits
  unfold rput at hp
  by_cases h0 : rmay ⟨64, 1099511627776, l⟩ = 0
  · have hlen := rbytes_len h0
    rw [if_neg (fun h => h h0)] at hp
    dsimp only at hp
    generalize rbytes ⟨64, 1099511627776, l⟩ = b at *
    generalize rmay ⟨64, 1099511627776, l⟩ = e at *
    subst h0
    repeat' (first | (apply St_call (hf := hp); exact rfl; exact rfl; exact Split.auto; rintro _ _ ⟨rfl, rfl⟩) | (apply St_call (hf := rin_sp _ _ _); exact rfl; exact rfl; exact Split.auto; rintro _ _ ⟨rfl, rfl⟩) | (refine St_step ?_; (try with_reducible intro _)) | (refine St_step2 ?_ ?_ <;> (intro hb; (try simp only [beq_iff_eq, bne_iff_ne, decide_eq_true_eq, decide_eq_false_iff_not, Bool.not_eq_true', Bool.not_eq_false', beq_eq_false_iff_ne, bne_eq_false_iff_eq, ne_eq, Int.not_lt, Int.not_le, gt_iff_lt, ge_iff_le] at hb); (try (first | exact Bool.noConfusion hb | exact absurd trivial hb | (exfalso; omega))))) | fail)
    all_goals (refine St_ret1 (.inl rfl) rfl rfl ⟨?_, rfl⟩ (by exact Split.auto))
    all_goals first
      | (congr 1; rw [decide_eq_decide]; omega)
      | (congr 1; rw [eq_comm, decide_eq_false_iff_not]; omega)
      | (congr 1; rw [eq_comm, decide_eq_true_eq]; omega)
  · rw [if_pos h0] at hp
    dsimp only at hp
    generalize rbytes ⟨64, 1099511627776, l⟩ = b at *
    generalize rmay ⟨64, 1099511627776, l⟩ = e at *
    repeat' (first | (apply St_call (hf := hp); exact rfl; exact rfl; exact Split.auto; rintro _ _ ⟨rfl, rfl⟩) | (apply St_call (hf := rin_sp _ _ _); exact rfl; exact rfl; exact Split.auto; rintro _ _ ⟨rfl, rfl⟩) | (refine St_step ?_; (try with_reducible intro _)) | (refine St_step2 ?_ ?_ <;> (intro hb; (try simp only [beq_iff_eq, bne_iff_ne, decide_eq_true_eq, decide_eq_false_iff_not, Bool.not_eq_true', Bool.not_eq_false', beq_eq_false_iff_ne, bne_eq_false_iff_eq, ne_eq, Int.not_lt, Int.not_le, gt_iff_lt, ge_iff_le] at hb); (try (first | exact Bool.noConfusion hb | exact absurd trivial hb | (exfalso; omega))))) | fail)
    all_goals (refine St_ret1 (.inl rfl) rfl rfl ⟨?_, rfl⟩ (by exact Split.auto))
    all_goals first
      | (congr 1; rw [decide_eq_decide]; omega)
      | (congr 1; rw [eq_comm, decide_eq_false_iff_not]; omega)
      | (congr 1; rw [eq_comm, decide_eq_true_eq]; omega)
def ugreat (u : Up) : Bool := decide (100 < u.key.length ∨ 1200 < u.s.length)
def lgreat (l : List Up) : Bool := decide (200 < l.length) || l.any ugreat
theorem ugreat_sp (u : Up) : Sp Tryd.prog 46 [.agg (uv u).toArray] [] (fun v M => v = .bool (ugreat u) ∧ M = []) := by
  refine Sp.intro (P := Tryd.prog) (Tryd.func46) rfl Tryd.ntmps46 (by decide) rfl ?_
  intro ρ F
  unfold ugreat
  repeat' (first | (refine St_step ?_; (try with_reducible intro _)) | (refine St_step2 ?_ ?_ <;> (intro hb; (try simp only [beq_iff_eq, bne_iff_ne, decide_eq_true_eq, decide_eq_false_iff_not, Bool.not_eq_true', Bool.not_eq_false', beq_eq_false_iff_ne, bne_eq_false_iff_eq, ne_eq, Int.not_lt, Int.not_le, gt_iff_lt, ge_iff_le] at hb); (try (first | exact Bool.noConfusion hb | exact absurd trivial hb | (exfalso; omega))))) | fail)
  all_goals (refine St_ret1 (.inl rfl) rfl rfl ⟨?_, rfl⟩ (by exact Split.auto))
  all_goals first
    | (congr 1; rw [decide_eq_decide]; omega)
    | (congr 1; rw [eq_comm, decide_eq_false_iff_not]; omega)
    | (congr 1; rw [eq_comm, decide_eq_true_eq]; omega)
theorem any_step {l : List Up} {i : Nat} {u : Up} (h : l[i]? = some u) : (l.take (i + 1)).any ugreat = ((l.take i).any ugreat || ugreat u) := by
  rw [List.take_add_one, h]
  simp
theorem lgreat_sp (q : Bool) (l : List Up) (v : Value) : Sp Tryd.prog 33 [v] [UL q v l] (fun w M => w = .bool (lgreat l) ∧ M = [UL q v l]) := by
  refine Sp.intro (P := Tryd.prog) (Tryd.func33) rfl Tryd.ntmps33 (by decide) rfl ?_
  intro ρ F
  refine St_rsIs (by exact Has.auto) ?_
  rintro A c rfl
  unfold lgreat
  by_cases h2 : 200 < l.length
  · have e : (decide (200 < l.length) || l.any ugreat) = true := by simp [h2]
    rw [e]
    repeat' (first | (refine St_step ?_; (try with_reducible intro _)) | (refine St_step2 ?_ ?_ <;> (intro hb; (try simp only [beq_iff_eq, bne_iff_ne, decide_eq_true_eq, decide_eq_false_iff_not, Bool.not_eq_true', Bool.not_eq_false', beq_eq_false_iff_ne, bne_eq_false_iff_eq, ne_eq, Int.not_lt, Int.not_le, gt_iff_lt, ge_iff_le] at hb); (try (first | exact Bool.noConfusion hb | exact absurd trivial hb | (exfalso; omega))))) | fail)
    all_goals (first | contradiction | (exfalso; omega) | (exact St_ret1 (.inl rfl) rfl rfl ⟨rfl, rfl⟩ (by exact Split.auto)) | (exact St_ret2 (.inl rfl) rfl rfl rfl ⟨rfl, rfl⟩ (by exact Split.auto)) | (exact St_ret3 (.inl rfl) rfl rfl rfl rfl ⟨rfl, rfl⟩ (by exact Split.auto)))
  · have e : (decide (200 < l.length) || l.any ugreat) = (l.take l.length).any ugreat := by simp [h2]
    rw [e]
    repeat' (first | (refine St_loop (fun (i : Nat) => i ≤ l.length ∧ (l.take i).any ugreat = false) (fun i => [(0, .slice A l.length c), (3, nat .i64 i)]) (fun i => [UL q (.slice A l.length c) l, big F]) (fun i => l.length - i) 0 ⟨Nat.zero_le _, rfl⟩ ⟨rfl, rfl, trivial⟩ (by exact Split.auto) ?_) | (refine St_step ?_; (try with_reducible intro _)) | (refine St_step2 ?_ ?_ <;> (intro hb; (try simp only [beq_iff_eq, bne_iff_ne, decide_eq_true_eq, decide_eq_false_iff_not, Bool.not_eq_true', Bool.not_eq_false', beq_eq_false_iff_ne, bne_eq_false_iff_eq, ne_eq, Int.not_lt, Int.not_le, gt_iff_lt, ge_iff_le] at hb); (try (first | exact Bool.noConfusion hb | exact absurd trivial hb | (exfalso; omega))))) | fail)
    all_goals try (exfalso; omega)
    rintro i ⟨hi, hany⟩
    by_cases hil : i < l.length
    · obtain ⟨u, hu⟩ : ∃ u, l[i]? = some u := ⟨_, List.getElem?_eq_getElem hil⟩
      refine St_rsOpen (by exact Has.auto) (by omega) ?_
      rintro b T cap pre rest hv
      injection hv with hv1 hv2 hv3
      subst hv1 hv3
      have hld := flat_at uv_len l i u pre rest hu
      have hroom := flat_room uv_len l i pre rest hil
      have hst := any_step hu
      rw [hany, Bool.false_or] at hst
      have hg := ugreat_sp u
      cases hgu : ugreat u with
      | true =>
        rw [hgu] at hg hst
        have hfin : (l.take l.length).any ugreat = true := by
          rw [List.take_length, List.any_eq_true]
          rw [List.any_eq_true] at hst
          obtain ⟨x, h1, h2⟩ := hst
          exact ⟨x, List.mem_of_mem_take h1, h2⟩
        rw [hfin]
        repeat' (first | (apply St_call (hf := hg); exact rfl; exact rfl; exact Split.auto; rintro _ _ ⟨rfl, rfl⟩) | (apply St_rd; exact rfl; (first | (apply Rd_loadA tb; exact rfl; exact rfl; exact rfl; exact Has.auto; exact hroom; exact hld))) | (apply Sq_rd; exact rfl; (first | (apply Rd_loadA tb; exact rfl; exact rfl; exact rfl; exact Has.auto; exact hroom; exact hld))) | (refine St_step ?_; (try with_reducible intro _)) | (refine St_step2 ?_ ?_ <;> (intro hb; (try simp only [beq_iff_eq, bne_iff_ne, decide_eq_true_eq, decide_eq_false_iff_not, Bool.not_eq_true', Bool.not_eq_false', beq_eq_false_iff_ne, bne_eq_false_iff_eq, ne_eq, Int.not_lt, Int.not_le, gt_iff_lt, ge_iff_le] at hb); (try (first | exact Bool.noConfusion hb | exact absurd trivial hb | (exfalso; omega))))) | fail)
        refine St_rsMk (n := l.length) (cap := c) (cs := l.flatMap uv) (by exact Has.auto) ?_
        (first | contradiction | (exfalso; omega) | (exact St_ret1 (.inl rfl) rfl rfl ⟨rfl, rfl⟩ (by exact Split.auto)) | (exact St_ret2 (.inl rfl) rfl rfl rfl ⟨rfl, rfl⟩ (by exact Split.auto)) | (exact St_ret3 (.inl rfl) rfl rfl rfl rfl ⟨rfl, rfl⟩ (by exact Split.auto)))
      | false =>
        rw [hgu] at hg hst
        repeat' (first | (apply St_call (hf := hg); exact rfl; exact rfl; exact Split.auto; rintro _ _ ⟨rfl, rfl⟩) | (apply St_rd; exact rfl; (first | (apply Rd_loadA tb; exact rfl; exact rfl; exact rfl; exact Has.auto; exact hroom; exact hld))) | (apply Sq_rd; exact rfl; (first | (apply Rd_loadA tb; exact rfl; exact rfl; exact rfl; exact Has.auto; exact hroom; exact hld))) | (refine St_step ?_; (try with_reducible intro _)) | (refine St_step2 ?_ ?_ <;> (intro hb; (try simp only [beq_iff_eq, bne_iff_ne, decide_eq_true_eq, decide_eq_false_iff_not, Bool.not_eq_true', Bool.not_eq_false', beq_eq_false_iff_ne, bne_eq_false_iff_eq, ne_eq, Int.not_lt, Int.not_le, gt_iff_lt, ge_iff_le] at hb); (try (first | exact Bool.noConfusion hb | exact absurd trivial hb | (exfalso; omega))))) | fail)
        refine St_rsMk (n := l.length) (cap := c) (cs := l.flatMap uv) (by exact Has.auto) ?_
        exact St_at (i + 1) ⟨⟨by omega, hst⟩, by omega⟩ ⟨rfl, rfl, trivial⟩ (by exact Split.auto)
    · have hii : i = l.length := by omega
      subst hii
      rw [hany]
      repeat' (first | (refine St_step ?_; (try with_reducible intro _)) | (refine St_step2 ?_ ?_ <;> (intro hb; (try simp only [beq_iff_eq, bne_iff_ne, decide_eq_true_eq, decide_eq_false_iff_not, Bool.not_eq_true', Bool.not_eq_false', beq_eq_false_iff_ne, bne_eq_false_iff_eq, ne_eq, Int.not_lt, Int.not_le, gt_iff_lt, ge_iff_le] at hb); (try (first | exact Bool.noConfusion hb | exact absurd trivial hb | (exfalso; omega))))) | fail)
      all_goals (first | contradiction | (exfalso; omega) | (exact St_ret1 (.inl rfl) rfl rfl ⟨rfl, rfl⟩ (by exact Split.auto)) | (exact St_ret2 (.inl rfl) rfl rfl rfl ⟨rfl, rfl⟩ (by exact Split.auto)) | (exact St_ret3 (.inl rfl) rfl rfl rfl rfl ⟨rfl, rfl⟩ (by exact Split.auto)))
theorem rgreat_sp (q : Bool) (r : Ro) (v : Value) : Sp Tryd.prog 16 [.agg (rv r v).toArray] [UL q v r.ups] (fun w M => w = .bool (decide (20 < r.ups.length) || lgreat r.ups) ∧ M = [UL q v r.ups]) := by
  refine Sp.intro (P := Tryd.prog) (Tryd.func16) rfl Tryd.ntmps16 (by decide) rfl ?_
  intro ρ F
  refine St_rsIs (by exact Has.auto) ?_
  rintro A c rfl
  have h := lgreat_sp q r.ups (.slice A r.ups.length c)
  generalize lgreat r.ups = g at *
  by_cases h2 : 20 < r.ups.length
  · have e : (decide (20 < r.ups.length) || g) = true := by simp [h2]
    rw [e]
    repeat' (first | (apply St_call (hf := h); exact rfl; exact rfl; exact Split.auto; rintro _ _ ⟨rfl, rfl⟩) | (refine St_step ?_; (try with_reducible intro _)) | (refine St_step2 ?_ ?_ <;> (intro hb; (try simp only [beq_iff_eq, bne_iff_ne, decide_eq_true_eq, decide_eq_false_iff_not, Bool.not_eq_true', Bool.not_eq_false', beq_eq_false_iff_ne, bne_eq_false_iff_eq, ne_eq, Int.not_lt, Int.not_le, gt_iff_lt, ge_iff_le] at hb); (try (first | exact Bool.noConfusion hb | exact absurd trivial hb | (exfalso; omega))))) | fail)
    all_goals (first | contradiction | (exfalso; omega) | (exact St_ret1 (.inl rfl) rfl rfl ⟨rfl, rfl⟩ (by exact Split.auto)) | (exact St_ret2 (.inl rfl) rfl rfl rfl ⟨rfl, rfl⟩ (by exact Split.auto)) | (exact St_ret3 (.inl rfl) rfl rfl rfl rfl ⟨rfl, rfl⟩ (by exact Split.auto)))
  · have e : (decide (20 < r.ups.length) || g) = g := by simp [h2]
    rw [e]
    repeat' (first | (apply St_call (hf := h); exact rfl; exact rfl; exact Split.auto; rintro _ _ ⟨rfl, rfl⟩) | (refine St_step ?_; (try with_reducible intro _)) | (refine St_step2 ?_ ?_ <;> (intro hb; (try simp only [beq_iff_eq, bne_iff_ne, decide_eq_true_eq, decide_eq_false_iff_not, Bool.not_eq_true', Bool.not_eq_false', beq_eq_false_iff_ne, bne_eq_false_iff_eq, ne_eq, Int.not_lt, Int.not_le, gt_iff_lt, ge_iff_le] at hb); (try (first | exact Bool.noConfusion hb | exact absurd trivial hb | (exfalso; omega))))) | fail)
    all_goals (first | contradiction | (exfalso; omega) | (exact St_ret1 (.inl rfl) rfl rfl ⟨rfl, rfl⟩ (by exact Split.auto)) | (exact St_ret2 (.inl rfl) rfl rfl rfl ⟨rfl, rfl⟩ (by exact Split.auto)) | (exact St_ret3 (.inl rfl) rfl rfl rfl rfl ⟨rfl, rfl⟩ (by exact Split.auto)))
theorem frameCarries_sp (q : Bool) (r : Ro) (v : Value) (mtu a b c : Int) : Sp Tryd.prog 9 [.agg (rv r v).toArray, .int .i64 mtu, .agg [.int .i64 a, .int .i64 b, .int .i64 c].toArray] [UL q v r.ups, GB]
    (fun w M => w = .bool true ∧ M = [UL q v r.ups, GB]) := by
  refine Sp.intro (P := Tryd.prog) (Tryd.func9) rfl Tryd.ntmps9 (by decide) rfl ?_
  intro ρ F
  refine St_rsIs (by exact Has.auto) ?_
  rintro A k rfl
  have c1 := rgreat_sp q r (.slice A r.ups.length k)
  have c2 := rFits_sp q r.ups (.slice A r.ups.length k) mtu
  have c3 := rPut_sp q r (.slice A r.ups.length k)
  generalize (decide (20 < r.ups.length) || lgreat r.ups) = g at *
  cases hf : rfits r.ups mtu with
  | false =>
    rw [hf] at c2
    cases g
    all_goals repeat' (first | (apply St_call (hf := fawake_sp); exact rfl; exact rfl; exact Split.auto; rintro _ _ ⟨rfl, rfl⟩) | (apply St_call (hf := c1); exact rfl; exact rfl; exact Split.auto; rintro _ _ ⟨rfl, rfl⟩) | (apply St_call (hf := c2); exact rfl; exact rfl; exact Split.auto; rintro _ _ ⟨rfl, rfl⟩) | (refine St_step ?_; (try with_reducible intro _)) | (refine St_step2 ?_ ?_ <;> (intro hb; (try simp only [beq_iff_eq, bne_iff_ne, decide_eq_true_eq, decide_eq_false_iff_not, Bool.not_eq_true', Bool.not_eq_false', beq_eq_false_iff_ne, bne_eq_false_iff_eq, ne_eq, Int.not_lt, Int.not_le, gt_iff_lt, ge_iff_le] at hb); (try (first | exact Bool.noConfusion hb | exact absurd trivial hb | (exfalso; omega))))) | fail)
    all_goals (first | (first | contradiction | (exfalso; omega) | (exact St_ret1 (.inl rfl) rfl rfl ⟨rfl, rfl⟩ (by exact Split.auto)) | (exact St_ret2 (.inl rfl) rfl rfl rfl ⟨rfl, rfl⟩ (by exact Split.auto)) | (exact St_ret3 (.inl rfl) rfl rfl rfl rfl ⟨rfl, rfl⟩ (by exact Split.auto))) | (exfalso; simp at hb; done) | (refine St_ret1 (.inl rfl) rfl rfl ⟨?_, rfl⟩ (by exact Split.auto); congr 1; first | (simp; done) | (rw [decide_eq_true_eq]; omega)))
  | true =>
    rw [hf] at c2
    cases g with
    | true =>
      repeat' (first | (apply St_call (hf := fawake_sp); exact rfl; exact rfl; exact Split.auto; rintro _ _ ⟨rfl, rfl⟩) | (apply St_call (hf := c1); exact rfl; exact rfl; exact Split.auto; rintro _ _ ⟨rfl, rfl⟩) | (apply St_call (hf := c2); exact rfl; exact rfl; exact Split.auto; rintro _ _ ⟨rfl, rfl⟩) | (refine St_step ?_; (try with_reducible intro _)) | (refine St_step2 ?_ ?_ <;> (intro hb; (try simp only [beq_iff_eq, bne_iff_ne, decide_eq_true_eq, decide_eq_false_iff_not, Bool.not_eq_true', Bool.not_eq_false', beq_eq_false_iff_ne, bne_eq_false_iff_eq, ne_eq, Int.not_lt, Int.not_le, gt_iff_lt, ge_iff_le] at hb); (try (first | exact Bool.noConfusion hb | exact absurd trivial hb | (exfalso; omega))))) | fail)
      all_goals (first | (first | contradiction | (exfalso; omega) | (exact St_ret1 (.inl rfl) rfl rfl ⟨rfl, rfl⟩ (by exact Split.auto)) | (exact St_ret2 (.inl rfl) rfl rfl rfl ⟨rfl, rfl⟩ (by exact Split.auto)) | (exact St_ret3 (.inl rfl) rfl rfl rfl rfl ⟨rfl, rfl⟩ (by exact Split.auto))) | (exfalso; simp at hb; done) | (refine St_ret1 (.inl rfl) rfl rfl ⟨?_, rfl⟩ (by exact Split.auto); congr 1; first | (simp; done) | (rw [decide_eq_true_eq]; omega)))
    | false =>
      unfold rput at c3
      by_cases hr : rmay r = 0
      · rw [if_neg (fun h => h hr)] at c3
        dsimp only at c3
        have hlen := rbytes_len hr
        obtain ⟨f, hfd⟩ : ∃ f : Fr, f = ⟨a, b, c, rbytes r⟩ := ⟨_, rfl⟩
        have c4 := refMay_sp ⟨a, b, c, rbytes r⟩
        have c5 := fput_sp ⟨a, b, c, rbytes r⟩ mtu (by show (rbytes r).length ≤ _; omega)
        by_cases hm : fmay ⟨a, b, c, rbytes r⟩ = 0
        · obtain ⟨k1, k2⟩ := carries (f := ⟨a, b, c, rbytes r⟩) hf hr rfl hm
          rw [k1] at c5
          rw [hm] at c4
          dsimp only at c5
          generalize fbytes ⟨a, b, c, rbytes r⟩ = w at *
          repeat' (first | (apply St_call (hf := fawake_sp); exact rfl; exact rfl; exact Split.auto; rintro _ _ ⟨rfl, rfl⟩) | (apply St_call (hf := c1); exact rfl; exact rfl; exact Split.auto; rintro _ _ ⟨rfl, rfl⟩) | (apply St_call (hf := c2); exact rfl; exact rfl; exact Split.auto; rintro _ _ ⟨rfl, rfl⟩) | (apply St_call (hf := c3); exact rfl; exact rfl; exact Split.auto; rintro _ _ ⟨rfl, rfl⟩) | (apply St_call (hf := c4); exact rfl; exact rfl; exact Split.auto; rintro _ _ ⟨rfl, rfl⟩) | (apply St_call (hf := c5); exact rfl; exact rfl; exact Split.auto; rintro _ _ ⟨rfl, rfl⟩) | (refine St_step ?_; (try with_reducible intro _)) | (refine St_step2 ?_ ?_ <;> (intro hb; (try simp only [beq_iff_eq, bne_iff_ne, decide_eq_true_eq, decide_eq_false_iff_not, Bool.not_eq_true', Bool.not_eq_false', beq_eq_false_iff_ne, bne_eq_false_iff_eq, ne_eq, Int.not_lt, Int.not_le, gt_iff_lt, ge_iff_le] at hb); (try (first | exact Bool.noConfusion hb | exact absurd trivial hb | (exfalso; omega))))) | fail)
          all_goals (first | (first | contradiction | (exfalso; omega) | (exact St_ret1 (.inl rfl) rfl rfl ⟨rfl, rfl⟩ (by exact Split.auto)) | (exact St_ret2 (.inl rfl) rfl rfl rfl ⟨rfl, rfl⟩ (by exact Split.auto)) | (exact St_ret3 (.inl rfl) rfl rfl rfl rfl ⟨rfl, rfl⟩ (by exact Split.auto))) | (exfalso; simp at hb; done) | (refine St_ret1 (.inl rfl) rfl rfl ⟨?_, rfl⟩ (by exact Split.auto); congr 1; first | (simp; done) | (rw [decide_eq_true_eq]; omega)))
        · generalize fmay ⟨a, b, c, rbytes r⟩ = e at *
          repeat' (first | (apply St_call (hf := fawake_sp); exact rfl; exact rfl; exact Split.auto; rintro _ _ ⟨rfl, rfl⟩) | (apply St_call (hf := c1); exact rfl; exact rfl; exact Split.auto; rintro _ _ ⟨rfl, rfl⟩) | (apply St_call (hf := c2); exact rfl; exact rfl; exact Split.auto; rintro _ _ ⟨rfl, rfl⟩) | (apply St_call (hf := c3); exact rfl; exact rfl; exact Split.auto; rintro _ _ ⟨rfl, rfl⟩) | (apply St_call (hf := c4); exact rfl; exact rfl; exact Split.auto; rintro _ _ ⟨rfl, rfl⟩) | (refine St_step ?_; (try with_reducible intro _)) | (refine St_step2 ?_ ?_ <;> (intro hb; (try simp only [beq_iff_eq, bne_iff_ne, decide_eq_true_eq, decide_eq_false_iff_not, Bool.not_eq_true', Bool.not_eq_false', beq_eq_false_iff_ne, bne_eq_false_iff_eq, ne_eq, Int.not_lt, Int.not_le, gt_iff_lt, ge_iff_le] at hb); (try (first | exact Bool.noConfusion hb | exact absurd trivial hb | (exfalso; omega))))) | fail)
          all_goals (first | (first | contradiction | (exfalso; omega) | (exact St_ret1 (.inl rfl) rfl rfl ⟨rfl, rfl⟩ (by exact Split.auto)) | (exact St_ret2 (.inl rfl) rfl rfl rfl ⟨rfl, rfl⟩ (by exact Split.auto)) | (exact St_ret3 (.inl rfl) rfl rfl rfl rfl ⟨rfl, rfl⟩ (by exact Split.auto))) | (exfalso; simp at hb; done) | (refine St_ret1 (.inl rfl) rfl rfl ⟨?_, rfl⟩ (by exact Split.auto); congr 1; first | (simp; done) | (rw [decide_eq_true_eq]; omega)))
      · rw [if_pos hr] at c3
        dsimp only at c3
        generalize rmay r = e at *
        repeat' (first | (apply St_call (hf := fawake_sp); exact rfl; exact rfl; exact Split.auto; rintro _ _ ⟨rfl, rfl⟩) | (apply St_call (hf := c1); exact rfl; exact rfl; exact Split.auto; rintro _ _ ⟨rfl, rfl⟩) | (apply St_call (hf := c2); exact rfl; exact rfl; exact Split.auto; rintro _ _ ⟨rfl, rfl⟩) | (apply St_call (hf := c3); exact rfl; exact rfl; exact Split.auto; rintro _ _ ⟨rfl, rfl⟩) | (refine St_step ?_; (try with_reducible intro _)) | (refine St_step2 ?_ ?_ <;> (intro hb; (try simp only [beq_iff_eq, bne_iff_ne, decide_eq_true_eq, decide_eq_false_iff_not, Bool.not_eq_true', Bool.not_eq_false', beq_eq_false_iff_ne, bne_eq_false_iff_eq, ne_eq, Int.not_lt, Int.not_le, gt_iff_lt, ge_iff_le] at hb); (try (first | exact Bool.noConfusion hb | exact absurd trivial hb | (exfalso; omega))))) | fail)
        all_goals (first | (first | contradiction | (exfalso; omega) | (exact St_ret1 (.inl rfl) rfl rfl ⟨rfl, rfl⟩ (by exact Split.auto)) | (exact St_ret2 (.inl rfl) rfl rfl rfl ⟨rfl, rfl⟩ (by exact Split.auto)) | (exact St_ret3 (.inl rfl) rfl rfl rfl rfl ⟨rfl, rfl⟩ (by exact Split.auto))) | (exfalso; simp at hb; done) | (refine St_ret1 (.inl rfl) rfl rfl ⟨?_, rfl⟩ (by exact Split.auto); congr 1; first | (simp; done) | (rw [decide_eq_true_eq]; omega)))
end Go.Proofs.YtffnnddhlpcicaaDoor
