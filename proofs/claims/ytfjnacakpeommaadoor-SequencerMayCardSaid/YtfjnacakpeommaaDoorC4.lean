/- Contracts: the writer of package pack, chapbookref03's writing. -/
import Derived.Test.YtfjnacakpeommaaDoorC3
namespace Go.Proofs.YtfjnacakpeommaaDoor
open Go SL Pl
set_option autoImplicit false
set_option maxRecDepth 100000
set_option linter.unusedSimpArgs false
set_option linter.unusedVariables false
attribute [local irreducible] St Sq Exec QExec wpList wpQuiet Code.wp Exit.then Exit.inBlock bodyPost At Rd wpOp Wa QK GB
/-- A writer: what it holds, is it wrong. -/
def Wr (b : Nat) (bs : List UInt8) (bad : Bool) : HP := ex fun (pv : Value × Value) => big [lift (selfOr b pv.1), cel false b 136 [pv.1, pv.2, .bool bad], Sl 5 1 pv.2 bs.length (Lib.byteCells bs)]
section
variable {ρ : Rst} {N : Nat} {env : Env} {L L' : List HP} {G : Act → World → Prop}
theorem St_wr {b : Nat} {bs : List UInt8} {bad : Bool} (hc : Has L (Wr b bs bad) L')
    (h : ∀ p v, selfOr b p → St ρ N env (cel false b 136 [p, v, .bool bad] :: Sl 5 1 v bs.length (Lib.byteCells bs) :: L') G) : St ρ N env L G := by
  refine St_pull hc (St_ex fun pv => St_open (St_lift fun hp => ?_))
  exact h pv.1 pv.2 hp
theorem St_wrMk {b : Nat} {bs : List UInt8} {bad : Bool} {p v : Value} (hp : selfOr b p) (hs : Split L [cel false b 136 [p, v, .bool bad], Sl 5 1 v bs.length (Lib.byteCells bs)] L')
    (h : St ρ N env (Wr b bs bad :: L') G) : St ρ N env L G :=
  St_conv (fun w H => by
    have H1 := H.split hs
    have H2 := Holds.lift_mk hp H1
    exact Holds.ex_mk (A := fun (pv : Value × Value) => big [lift (selfOr b pv.1), cel false b 136 [pv.1, pv.2, .bool bad], Sl 5 1 pv.2 bs.length (Lib.byteCells bs)]) (p, v) (Holds.shut (l := [_, _, _]) H2)) h
end
theorem wr_lies (x : Value) : liesAt Tryd.prog (Tryd.prog).depth 136 (([x].length + 2) / (Tryd.prog).cellsOf 136) 0 134 1 = true := by kernel_rfl
theorem Holds.wr {ρ : Rst} {w : World} {L : List HP} {b : Nat} {bs : List UInt8} {bad : Bool} (H : Holds ρ w (Wr b bs bad :: L)) :
    ∃ p v, selfOr b p ∧ Holds ρ w (cel false b 136 [p, v, .bool bad] :: Sl 5 1 v bs.length (Lib.byteCells bs) :: L) := by
  obtain ⟨pv, H1⟩ := Holds.ex H
  obtain ⟨hp, H2⟩ := Holds.lift (Holds.open H1)
  exact ⟨pv.1, pv.2, hp, H2⟩
theorem Holds.wrMk {ρ : Rst} {w : World} {L : List HP} {b : Nat} {bs : List UInt8} {bad : Bool} {p v : Value} (hp : selfOr b p) (H : Holds ρ w (cel false b 136 [p, v, .bool bad] :: Sl 5 1 v bs.length (Lib.byteCells bs) :: L)) :
    Holds ρ w (Wr b bs bad :: L) := by
  have H2 := Holds.lift_mk hp H
  exact Holds.ex_mk (A := fun (pv : Value × Value) => big [lift (selfOr b pv.1), cel false b 136 [pv.1, pv.2, .bool bad], Sl 5 1 pv.2 bs.length (Lib.byteCells bs)]) (p, v) (Holds.shut (l := [_, _, _]) H2)
theorem wWrite_sp (b : Nat) (bs s : List UInt8) (bad : Bool) (hb : bs.length + s.length ≤ 100000000000000) : Sp Tryd.prog 90 [.pointer (some ⟨b, 0, none⟩), str s] [Wr b bs bad]
    (fun r M => r = .tuple #[nat .i64 s.length, .nilIface] ∧ M = [Wr b (bs ++ s) bad]) := by
  refine ⟨(writeString_sp b 136 (.pointer none) .nilIface [.bool bad] (.inl rfl) (wr_lies _) bs s hb).callable, fun ρ F w H => ?_⟩
  obtain ⟨p, v, hp, H1⟩ := Holds.wr H
  refine ((writeString_sp b 136 p v [.bool bad] hp (wr_lies _) bs s hb).calls ρ F w H1).mono ?_
  rintro e w' ⟨r, M, rfl, ⟨rfl, v', rfl⟩, H2⟩
  exact ⟨_, _, rfl, ⟨rfl, rfl⟩, Holds.wrMk (.inr rfl) H2⟩
theorem wString_sp (b : Nat) (bs : List UInt8) (bad : Bool) (hb : bs.length ≤ 100000000000000) : Sp Tryd.prog 89 [.pointer (some ⟨b, 0, none⟩)] [Wr b bs bad]
    (fun r M => r = str bs ∧ M = []) := by
  refine ⟨(bString_sp b 136 (.pointer none) .nilIface [.bool bad] bs hb).callable, fun ρ F w H => ?_⟩
  obtain ⟨p, v, hp, H1⟩ := Holds.wr H
  refine ((bString_sp b 136 p v [.bool bad] bs hb).calls ρ F w H1).mono ?_
  rintro e w' ⟨r, M, rfl, ⟨rfl, rfl⟩, H2⟩
  exact ⟨_, _, rfl, ⟨rfl, rfl⟩, Holds.drop H2⟩
theorem enc_len (n : Nat) : (enc n).length ≤ 8 := by
  rw [enc_length]
  rcases sz_cases n with h | h | h | h | h <;> omega
def encOr (n : Nat) : List UInt8 := if n < 4611686018427387904 then enc n else []
theorem encOr_len (n : Nat) : (encOr n).length ≤ 8 := by
  unfold encOr; split
  · exact enc_len n
  · simp
def wbad (n : Nat) : Bool := !decide (n < 4611686018427387904)
theorem wput_sp (b : Nat) (bs : List UInt8) (bad ok : Bool) (n : Nat) (hn : n < 18446744073709551616) (hb0 : bs.length ≤ 10000000000000) :
    Sp Tryd.prog 87 [.pointer (some ⟨b, 0, none⟩), nat .u64 n, .bool ok] [Wr b bs bad, GB]
      (fun r M => r = .tuple #[] ∧ M = [Wr b (bs ++ encOr n) (bad || !ok || wbad n), GB]) := by
  refine Sp.intro (P := Tryd.prog) (Tryd.func87) rfl Tryd.ntmps87 (by decide) rfl ?_
  intro ρ F
  refine St_wr (by exact Has.auto) fun p v hp => ?_
  have hp8 := encOr_len n
  have hlen : bs.length + (encOr n).length ≤ 100000000000000 := by omega
  unfold wbad
  by_cases hlt : n < 4611686018427387904
  · have e : encOr n = enc n := if_pos hlt
    have hput := put_sp n hn
    rw [if_pos hlt, if_pos hlt, ← e] at hput
    generalize encOr n = q at *
    cases bad <;> cases ok
    all_goals
      repeat' (first | (apply St_call (hf := hput); exact rfl; exact rfl; exact Split.auto; rintro _ _ ⟨rfl, rfl⟩) | (refine St_step ?_; (try with_reducible intro _)) | (refine St_step2 ?_ ?_ <;> (intro hb; (try simp only [beq_iff_eq, bne_iff_ne, decide_eq_true_eq, decide_eq_false_iff_not, Bool.not_eq_true', Bool.not_eq_false', beq_eq_false_iff_ne, bne_eq_false_iff_eq, ne_eq, Int.not_lt, Int.not_le, gt_iff_lt, ge_iff_le] at hb); (try (first | exact Bool.noConfusion hb | exact absurd trivial hb | (exfalso; omega))))) | fail)
      refine St_wrMk hp (by exact Split.auto) ?_
      repeat' (first | (apply St_call (hf := wWrite_sp b bs q _ hlen); exact rfl; exact rfl; exact Split.auto; rintro _ _ ⟨rfl, rfl⟩) | (refine St_step ?_; (try with_reducible intro _)) | (refine St_step2 ?_ ?_ <;> (intro hb; (try simp only [beq_iff_eq, bne_iff_ne, decide_eq_true_eq, decide_eq_false_iff_not, Bool.not_eq_true', Bool.not_eq_false', beq_eq_false_iff_ne, bne_eq_false_iff_eq, ne_eq, Int.not_lt, Int.not_le, gt_iff_lt, ge_iff_le] at hb); (try (first | exact Bool.noConfusion hb | exact absurd trivial hb | (exfalso; omega))))) | fail)
      refine St_ret0 (M := [Wr b (bs ++ q) _, GB]) (.inr rfl) rfl ⟨rfl, ?_⟩ (by exact Split.auto)
      simp [hlt]
  · have e : encOr n = [] := if_neg hlt
    have hput := put_sp n hn
    rw [if_neg hlt, if_neg hlt, ← e] at hput
    generalize encOr n = q at *
    cases bad <;> cases ok
    all_goals
      repeat' (first | (apply St_call (hf := hput); exact rfl; exact rfl; exact Split.auto; rintro _ _ ⟨rfl, rfl⟩) | (refine St_step ?_; (try with_reducible intro _)) | (refine St_step2 ?_ ?_ <;> (intro hb; (try simp only [beq_iff_eq, bne_iff_ne, decide_eq_true_eq, decide_eq_false_iff_not, Bool.not_eq_true', Bool.not_eq_false', beq_eq_false_iff_ne, bne_eq_false_iff_eq, ne_eq, Int.not_lt, Int.not_le, gt_iff_lt, ge_iff_le] at hb); (try (first | exact Bool.noConfusion hb | exact absurd trivial hb | (exfalso; omega))))) | fail)
      refine St_wrMk hp (by exact Split.auto) ?_
      repeat' (first | (apply St_call (hf := wWrite_sp b bs q _ hlen); exact rfl; exact rfl; exact Split.auto; rintro _ _ ⟨rfl, rfl⟩) | (refine St_step ?_; (try with_reducible intro _)) | (refine St_step2 ?_ ?_ <;> (intro hb; (try simp only [beq_iff_eq, bne_iff_ne, decide_eq_true_eq, decide_eq_false_iff_not, Bool.not_eq_true', Bool.not_eq_false', beq_eq_false_iff_ne, bne_eq_false_iff_eq, ne_eq, Int.not_lt, Int.not_le, gt_iff_lt, ge_iff_le] at hb); (try (first | exact Bool.noConfusion hb | exact absurd trivial hb | (exfalso; omega))))) | fail)
      refine St_ret0 (M := [Wr b (bs ++ q) _, GB]) (.inr rfl) rfl ⟨rfl, ?_⟩ (by exact Split.auto)
      simp [hlt]
end Go.Proofs.YtfjnacakpeommaaDoor
