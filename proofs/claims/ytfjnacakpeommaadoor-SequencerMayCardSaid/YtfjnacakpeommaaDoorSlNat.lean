/- Steps of a walk: bits of whole numbers from 0 on; rewriting what is known. -/
import Derived.Test.YtfjnacakpeommaaDoorSlDraw
import Derived.Laws.BitsAllLaws
namespace Go.Proofs.YtfjnacakpeommaaDoor.SL
open Go
set_option autoImplicit false
set_option linter.unusedVariables false
set_option linter.unusedSimpArgs false
abbrev nat (k : IntKind) (n : Nat) : Value := .int k (n : Int)
variable {ρ : Rst} {N : Nat} {env : Env} {L L' : List HP} {P : Program} {ops : Array Oper} {Q : Exit → Act → World → Prop} {rest : List Oper}
  {K : Act → World → Prop} {w : World} {G : Act → World → Prop}
theorem St_cel {r : Bool} {b T : Nat} {cs cs' : List Value} (hc : Has L (cel r b T cs) L') (e : cs = cs') (h : St ρ N env (cel r b T cs' :: L') G) : St ρ N env L G := by
  subst e; exact St_pull hc h
theorem St_slEq {E sz n n' : Nat} {v : Value} {cs cs' : List Value} (hc : Has L (Sl E sz v n cs) L') (e : cs = cs') (en : n = n') (h : St ρ N env (Sl E sz v n' cs' :: L') G) : St ρ N env L G := by
  subst e; subst en; exact St_pull hc h
/-- A slot's value is spelled otherwise. -/
theorem St_val {t : Nat} {v v' : Value} (e : lk env t = some v) (hv : v = v') (h : St ρ N ((t, v') :: env) L G) : St ρ N env L G := St.again e hv h

/-- Fewer slots and chunks are kept. -/
theorem St_keep (env' : Env) (M : List HP) {R : List HP} (he : SubE env' env) (hs : Split L M R) (h : St ρ N env' M G) : St ρ N env L G := St.weak h he.get hs
def ubits : IntKind → Bool
  | .u8 | .u16 | .u32 | .u64 => true
  | _ => false
theorem wrap_nat {k : IntKind} (hu : ubits k = true) (n : Nat) : k.wrap (n : Int) = ((n % 2 ^ k.bits : Nat) : Int) := by
  cases k <;> first | (cases hu; done) | (simp [IntKind.wrap, IntKind.bits, IntKind.signed])
theorem ofInt_nat {k : IntKind} (n : Nat) (h : n < 2 ^ k.bits) : (BitVec.ofInt k.bits (n : Int)).toNat = n := by
  simp [BitVec.toNat_ofInt, Nat.mod_eq_of_lt h]
section
variable {d : Nat} {dd : Option Nat} {op : Op} {ty : TypeId} {pos : String} {aft : Array Edge} {g : Option (Nat × Bool)} {T U : TypeId} {x y : Operand} {k k' : IntKind} {m n : Nat}
theorem Rd_natOr (hx : ev env x = some (nat k m)) (hy : ev env y = some (nat k n)) (hu : ubits k = true) (hm : m < 2 ^ k.bits) (hn : n < 2 ^ k.bits) : Rd P ρ N env L ⟨dd, .binOp .or T x y U, ty, pos, aft, g⟩ (nat k (m ||| n)) :=
  Rd_intOp hx hy (by
    simp only [intOp]
    rw [BitVec.toNat_or, ofInt_nat m hm, ofInt_nat n hn, wrap_nat hu, Nat.mod_eq_of_lt (Nat.or_lt_two_pow hm hn)])
theorem Rd_natAnd (hx : ev env x = some (nat k m)) (hy : ev env y = some (nat k n)) (hu : ubits k = true) (hm : m < 2 ^ k.bits) (hn : n < 2 ^ k.bits) : Rd P ρ N env L ⟨dd, .binOp .and T x y U, ty, pos, aft, g⟩ (nat k (m &&& n)) :=
  Rd_intOp hx hy (by
    simp only [intOp]
    rw [BitVec.toNat_and, ofInt_nat m hm, ofInt_nat n hn, wrap_nat hu, Nat.mod_eq_of_lt (Nat.and_lt_two_pow _ hn)])
theorem Rd_natXor (hx : ev env x = some (nat k m)) (hy : ev env y = some (nat k n)) (hu : ubits k = true) (hm : m < 2 ^ k.bits) (hn : n < 2 ^ k.bits) : Rd P ρ N env L ⟨dd, .binOp .xor T x y U, ty, pos, aft, g⟩ (nat k (m ^^^ n)) :=
  Rd_intOp hx hy (by
    simp only [intOp]
    rw [BitVec.toNat_xor, ofInt_nat m hm, ofInt_nat n hn, wrap_nat hu, Nat.mod_eq_of_lt (Nat.xor_lt_two_pow hm hn)])
theorem Rd_natShl {s : Int} (hx : ev env x = some (nat k m)) (hy : ev env y = some (.int k' s)) (hu : ubits k = true) (hs : 0 ≤ s ∧ s < k.bits) : Rd P ρ N env L ⟨dd, .binOp .shl T x y U, ty, pos, aft, g⟩ (nat k (m * 2 ^ s.toNat % 2 ^ k.bits)) := by
  have h := Rd_shl (P := P) (ρ := ρ) (N := N) (L := L) (dd := dd) (ty := ty) (pos := pos) (aft := aft) (g := g) (T := T) (U := U) hx hy hs.1
  have e : k.wrap ((m : Int) * 2 ^ (min s.toNat k.bits)) = ((m * 2 ^ s.toNat % 2 ^ k.bits : Nat) : Int) := by
    rw [Nat.min_eq_left (by omega), ← wrap_nat hu]
    simp
  rw [e] at h
  exact h
theorem Rd_natShr {s : Int} (hx : ev env x = some (nat k m)) (hy : ev env y = some (.int k' s)) (hs : 0 ≤ s ∧ s ≤ k.bits) : Rd P ρ N env L ⟨dd, .binOp .shr T x y U, ty, pos, aft, g⟩ (nat k (m / 2 ^ s.toNat)) := by
  have h := Rd_shr (P := P) (ρ := ρ) (N := N) (L := L) (dd := dd) (ty := ty) (pos := pos) (aft := aft) (g := g) (T := T) (U := U) hx hy hs.1
  have e : ((m : Int).fdiv (2 ^ (min s.toNat k.bits))) = ((m / 2 ^ s.toNat : Nat) : Int) := by
    rw [Nat.min_eq_left (by omega), Int.fdiv_eq_ediv_of_nonneg _ (Int.le_of_lt (Int.pow_pos (by decide)))]
    simp
  rw [e] at h
  exact h
theorem Rd_natMul (hx : ev env x = some (nat k m)) (hy : ev env y = some (nat k n)) (hu : ubits k = true) : Rd P ρ N env L ⟨dd, .binOp .mul T x y U, ty, pos, aft, g⟩ (nat k (m * n % 2 ^ k.bits)) :=
  Rd_intOp hx hy (by simp only [intOp, nat]; rw [show ((m : Int) * n) = ((m * n : Nat) : Int) from by simp, wrap_nat hu])
theorem Rd_natAdd (hx : ev env x = some (nat k m)) (hy : ev env y = some (nat k n)) (hu : ubits k = true) : Rd P ρ N env L ⟨dd, .binOp .add T x y U, ty, pos, aft, g⟩ (nat k ((m + n) % 2 ^ k.bits)) :=
  Rd_intOp hx hy (by simp only [intOp, nat]; rw [show ((m : Int) + n) = ((m + n : Nat) : Int) from by simp, wrap_nat hu])
theorem Rd_natDiv (hx : ev env x = some (nat k m)) (hy : ev env y = some (nat k n)) (hu : ubits k = true) (hm : m < 2 ^ k.bits) (hn : n ≠ 0) : Rd P ρ N env L ⟨dd, .binOp .quo T x y U, ty, pos, aft, g⟩ (nat k (m / n)) := by
  have h := Rd_quo (P := P) (ρ := ρ) (N := N) (L := L) (dd := dd) (ty := ty) (pos := pos) (aft := aft) (g := g) (T := T) (U := U) hx hy (by omega)
  have e : k.wrap ((m : Int).tdiv n) = ((m / n : Nat) : Int) := by
    have : (m : Int).tdiv n = ((m / n : Nat) : Int) := rfl
    rw [this, wrap_nat hu, Nat.mod_eq_of_lt (Nat.lt_of_le_of_lt (Nat.div_le_self _ _) hm)]
  rw [e] at h
  exact h
theorem Rd_iDiv (hx : ev env x = some (nat .i64 m)) (hy : ev env y = some (nat .i64 n)) (hm : m < 9223372036854775808) (hn : n ≠ 0) : Rd P ρ N env L ⟨dd, .binOp .quo T x y U, ty, pos, aft, g⟩ (nat .i64 (m / n)) := by
  have h := Rd_quo (P := P) (ρ := ρ) (N := N) (L := L) (dd := dd) (ty := ty) (pos := pos) (aft := aft) (g := g) (T := T) (U := U) hx hy (by omega)
  have e : IntKind.i64.wrap ((m : Int).tdiv n) = ((m / n : Nat) : Int) := by
    have h1 : (m : Int).tdiv n = ((m / n : Nat) : Int) := rfl
    have h2 := Nat.div_le_self m n
    rw [h1]
    generalize m / n = q at h2 ⊢
    exact IntWalk.i64_in _ ⟨by omega, by omega⟩
  rw [e] at h
  exact h
theorem Rd_natMod (hx : ev env x = some (nat k m)) (hy : ev env y = some (nat k n)) (hn : n ≠ 0) : Rd P ρ N env L ⟨dd, .binOp .rem T x y U, ty, pos, aft, g⟩ (nat k (m % n)) := by
  have h := Rd_rem (P := P) (ρ := ρ) (N := N) (L := L) (dd := dd) (ty := ty) (pos := pos) (aft := aft) (g := g) (T := T) (U := U) hx hy (by omega)
  exact h
/-- 1 << e of an int. -/
theorem Rd_shl1 {e : Nat} (hx : ev env x = some (.int .i64 1)) (hy : ev env y = some (nat k' e)) (he : e ≤ 62) : Rd P ρ N env L ⟨dd, .binOp .shl T x y U, ty, pos, aft, g⟩ (nat .i64 (2 ^ e)) := by
  have h := Rd_shl (P := P) (ρ := ρ) (N := N) (L := L) (dd := dd) (ty := ty) (pos := pos) (aft := aft) (g := g) (T := T) (U := U) hx hy (by omega)
  have e1 : IntKind.i64.wrap ((1 : Int) * 2 ^ (min ((e : Nat) : Int).toNat IntKind.i64.bits)) = ((2 ^ e : Nat) : Int) := by
    have h2 : min ((e : Nat) : Int).toNat IntKind.i64.bits = e := by simp [IntKind.bits]; omega
    rw [h2, Int.one_mul]
    have h3 : ((2 : Int) ^ e) = ((2 ^ e : Nat) : Int) := by simp
    rw [h3]
    have h4 : 2 ^ e ≤ 2 ^ 62 := Nat.pow_le_pow_right (by decide) he
    have h5 : (2 : Nat) ^ 62 = 4611686018427387904 := by decide
    have h6 : 0 < 2 ^ e := Nat.two_pow_pos e
    generalize 2 ^ e = q at h4 h6 ⊢
    exact IntWalk.i64_in _ ⟨by omega, by omega⟩
  rw [e1] at h
  exact h
variable (tb : Tabs P)
theorem Rd_natConv {S : TypeId} (hx : ev env x = some (nat k m)) (hS : tabLk tb.und S = some (.int k)) (hT : tabLk tb.und T = some (.int k')) (hu : ubits k' = true) : Rd P ρ N env L ⟨dd, .convert S T x, ty, pos, aft, g⟩ (nat k' (m % 2 ^ k'.bits)) := by
  have h := Rd_convInt (P := P) (ρ := ρ) (N := N) (L := L) (dd := dd) (ty := ty) (pos := pos) (aft := aft) (g := g) tb hx hS hT
  rw [wrap_nat hu] at h
  exact h
theorem Rd_natCompl (hx : ev env x = some (nat k m)) (hu : ubits k = true) (hm : m < 2 ^ k.bits) : Rd P ρ N env L ⟨dd, .unOp .xor T x, ty, pos, aft, g⟩ (nat k (2 ^ k.bits - 1 - m)) := by
  have h := Rd_compl (P := P) (ρ := ρ) (N := N) (L := L) (dd := dd) (ty := ty) (pos := pos) (aft := aft) (g := g) (T := T) hx
  have e : k.wrap (BitVec.ofInt k.bits (if k.signed then -1 else k.max) ^^^ BitVec.ofInt k.bits (m : Int)).toNat = ((2 ^ k.bits - 1 - m : Nat) : Int) := by
    have hs : k.signed = false := by cases k <;> first | rfl | cases hu
    have hmax : k.max = ((2 ^ k.bits - 1 : Nat) : Int) := by
      simp only [IntKind.max, hs]
      cases k <;> first | rfl | cases hu
    have hal : BitVec.ofInt k.bits (k.max) = BitVec.allOnes k.bits := by
      apply BitVec.eq_of_toNat_eq
      rw [hmax, ofInt_nat _ (by have := Nat.two_pow_pos k.bits; omega), BitVec.toNat_allOnes]
    rw [hs]
    simp only [Bool.false_eq_true, if_false, hal, BitVec.allOnes_xor, BitVec.toNat_not]
    rw [ofInt_nat m hm, wrap_nat hu, Nat.mod_eq_of_lt (by have := Nat.two_pow_pos k.bits; omega)]
  rw [e] at h
  exact h
/-- One cell stored at a place that is reckoned. -/
theorem St_store1n {T T' b off : Nat} {x y : Operand} {cs : List Value} {v : Value} {i : Inf} (hx : ev env x = some (.pointer (some ⟨b, off, none⟩))) (hy : ev env y = some v)
    (hi : tabLk tb.inf T = some i) (hsz : i.size = 1) (hv : v.oneCell' = true) (hc : Has L (cel false b T' cs) L') (hl : off < cs.length)
    (h : St ρ N env (cel false b T' (cs.set off v) :: L') K) : St ρ N env L (Exec P Q ⟨none, .store T x y, ty, pos, aft, g⟩ K) :=
  St_store1 tb hx hy hi hsz hv hc (by simpa using hl) rfl h
theorem Rd_loadn {T T' b off : Nat} {r : Bool} {x : Operand} {cs : List Value} {v : Value} {i : Inf} (hx : ev env x = some (.pointer (some ⟨b, off, none⟩)))
    (hi : tabLk tb.inf T = some i) (ha : i.agg = false) (hc : Has L (cel r b T' cs) L') (hv : cs[off]? = some v) : Rd P ρ N env L ⟨dd, .load T x, ty, pos, aft, g⟩ v := Rd_load tb hx hi ha hc hv
/-- A row of bytes, all of it, as a text. -/
theorem Rd_convB {S E T' b n c : Nat} {r : Bool} {l : List UInt8} (hx : ev env x = some (.slice (some ⟨b, 0, none⟩) n c)) (hu : tabLk tb.und S = some (.slice E)) (he : tabLk tb.und E = some (.int .u8)) (hv : tabLk tb.und T = some .string)
    (hc : Has L (cel r b T' (Lib.byteCells l)) L') (hn : n = l.length) : Rd P ρ N env L ⟨dd, .convert S T x, ty, pos, aft, g⟩ (str l) :=
  Rd_convBS tb (m := n) hx hu he hv ⟨_, _, _, rfl⟩ fun _ => Src.row hc (by simp [Lib.byteCells, hn]) (by rw [List.drop_zero, Nat.mul_one, List.take_of_length_le (by simp [Lib.byteCells, hn])])
end
end Go.Proofs.YtfjnacakpeommaaDoor.SL
