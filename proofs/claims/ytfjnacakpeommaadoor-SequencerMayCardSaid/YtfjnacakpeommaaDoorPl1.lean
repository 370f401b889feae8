/- Plain: the numbers' spelling in 1, 2, 4 or 8 bytes; both programs' answers are these. -/
namespace Go.Proofs.YtfjnacakpeommaaDoor.Pl
set_option autoImplicit false
set_option linter.unusedVariables false

/-- Which spelling a number has; 4: none. -/
def sp (n : Nat) : Nat := if n < 64 then 0 else if n < 16384 then 1 else if n < 1073741824 then 2 else if n < 4611686018427387904 then 3 else 4
def sz (n : Nat) : Nat := if n < 64 then 1 else if n < 16384 then 2 else if n < 1073741824 then 4 else if n < 4611686018427387904 then 8 else 0
theorem sz_sp (n : Nat) (h : n < 4611686018427387904) : sz n = 2 ^ sp n := by
  unfold sz sp
  repeat (split; · rfl)
  omega
/-- s bytes of a number, the highest first. -/
def be : Nat → Nat → List UInt8
  | 0, _ => []
  | s + 1, n => be s (n / 256) ++ [UInt8.ofNat (n % 256)]
theorem be_length : ∀ (s n : Nat), (be s n).length = s
  | 0, _ => rfl
  | s + 1, n => by simp [be, be_length s]
def mrk (n : Nat) : Nat := n + sp n * 2 ^ (8 * sz n - 2)
/-- A number's bytes. -/
def enc (n : Nat) : List UInt8 := be (sz n) (mrk n)
theorem enc_length (n : Nat) : (enc n).length = sz n := be_length _ _
def val : List UInt8 → Nat → Nat
  | [], a => a
  | c :: l, a => val l (256 * a + c.toNat)
theorem val_append : ∀ (l m : List UInt8) (a : Nat), val (l ++ m) a = val m (val l a)
  | [], _, _ => rfl
  | c :: l, m, a => val_append l m _
theorem val_be : ∀ (s n a : Nat), val (be s n) a = a * 256 ^ s + n % 256 ^ s
  | 0, n, a => by simp [be, val, Nat.mod_one]
  | s + 1, n, a => by
    rw [be, val_append, val_be s]
    have h1 : (UInt8.ofNat (n % 256)).toNat = n % 256 := by simp
    simp only [val, h1]
    have h2 : n % 256 ^ (s + 1) = 256 * (n / 256 % 256 ^ s) + n % 256 := by
      rw [Nat.pow_succ, Nat.mul_comm (256 ^ s) 256, Nat.mod_mul]; omega
    rw [h2, Nat.pow_succ]
    have : a * (256 ^ s * 256) = 256 * (a * 256 ^ s) := by rw [← Nat.mul_assoc, Nat.mul_comm]
    omega

/-- The number at the front of bytes: ErrCut 2, ErrLong 3; the number, how many bytes it has. -/
inductive Got where
  | err (e : Nat)
  | num (n size : Nat)
def get (l : List UInt8) : Got := match l with
  | [] => .err 2
  | c :: t =>
    let s := 2 ^ (c.toNat / 64)
    if l.length < s then .err 2 else
      let n := val (t.take (s - 1)) (c.toNat % 64)
      if sz n < s then .err 3 else .num n s

theorem val_lt : ∀ (l : List UInt8) (a : Nat), val l a < (a + 1) * 256 ^ l.length
  | [], a => by simp [val]
  | c :: l, a => by
    have h := val_lt l (256 * a + c.toNat)
    have hc : c.toNat < 256 := c.toNat_lt
    simp only [val, List.length_cons, Nat.pow_succ]
    have h2 : (256 * a + c.toNat + 1) * 256 ^ l.length ≤ (256 * (a + 1)) * 256 ^ l.length := Nat.mul_le_mul_right _ (by omega)
    have h3 : 256 * (a + 1) * 256 ^ l.length = (a + 1) * (256 ^ l.length * 256) := by
      rw [Nat.mul_comm 256, Nat.mul_assoc, Nat.mul_comm 256]
    omega
theorem sz_le_of_lt {n k : Nat} (hk : k ≤ 3) (h : n < 64 * 256 ^ (2 ^ k - 1)) : sz n ≤ 2 ^ k ∧ sz n ≠ 0 := by
  have : k = 0 ∨ k = 1 ∨ k = 2 ∨ k = 3 := by omega
  rcases this with rfl | rfl | rfl | rfl <;> simp at h <;> unfold sz <;> (repeat' split) <;> omega
/-- The number of a whole spelling never has more bytes. -/
theorem got_sz (c : UInt8) (t : List UInt8) (h : 2 ^ (c.toNat / 64) - 1 ≤ t.length) :
    sz (val (t.take (2 ^ (c.toNat / 64) - 1)) (c.toNat % 64)) ≤ 2 ^ (c.toNat / 64) ∧ val (t.take (2 ^ (c.toNat / 64) - 1)) (c.toNat % 64) < 4611686018427387904 := by
  have hc : c.toNat < 256 := c.toNat_lt
  have hk : c.toNat / 64 ≤ 3 := by omega
  have h1 := val_lt (t.take (2 ^ (c.toNat / 64) - 1)) (c.toNat % 64)
  have h2 : (t.take (2 ^ (c.toNat / 64) - 1)).length = 2 ^ (c.toNat / 64) - 1 := by simp; omega
  rw [h2] at h1
  have h3 : (c.toNat % 64 + 1) * 256 ^ (2 ^ (c.toNat / 64) - 1) ≤ 64 * 256 ^ (2 ^ (c.toNat / 64) - 1) := Nat.mul_le_mul_right _ (by omega)
  refine ⟨(sz_le_of_lt hk (by omega)).1, ?_⟩
  have : c.toNat / 64 = 0 ∨ c.toNat / 64 = 1 ∨ c.toNat / 64 = 2 ∨ c.toNat / 64 = 3 := by omega
  rcases this with e | e | e | e <;> rw [e] at h1 h3 ⊢ <;> simp at h1 h3 ⊢ <;> omega
theorem sp_le (n : Nat) : sp n ≤ 4 := by unfold sp; (repeat' split) <;> omega
theorem mrk_lt {n : Nat} (h : n < 4611686018427387904) : mrk n < 256 ^ sz n ∧ mrk n / 256 ^ (sz n - 1) = sp n * 64 + n / 256 ^ (sz n - 1) ∧ n / 256 ^ (sz n - 1) < 64 ∧ mrk n % 256 ^ (sz n - 1) = n % 256 ^ (sz n - 1) := by
  unfold mrk sz sp
  (repeat' split) <;> simp <;> omega
/-- What is put is got. -/
theorem get_enc {n : Nat} (h : n < 4611686018427387904) (r : List UInt8) : get (enc n ++ r) = .num n (sz n) := by
  obtain ⟨m1, m2, m3, m4⟩ := mrk_lt h
  have hs : sz n = 2 ^ sp n := sz_sp n h
  have hs0 : 1 ≤ sz n := by rw [hs]; exact Nat.one_le_two_pow
  have hsp : sp n ≤ 3 := by unfold sp; (repeat' split) <;> omega
  have key : ∀ s m, m < 256 ^ (s + 1) → ∃ c t, be (s + 1) m = c :: t ∧ c.toNat = m / 256 ^ s ∧ t.length = s ∧ ∀ a, val t a = a * 256 ^ s + m % 256 ^ s := by
    intro s
    induction s with
    | zero => intro m hm; exact ⟨UInt8.ofNat (m % 256), [], rfl, by simp at hm ⊢; omega, rfl, fun a => by simp [val, Nat.mod_one]⟩
    | succ s ih =>
      intro m hm
      have hm' : m / 256 < 256 ^ (s + 1) := by rw [Nat.pow_succ] at hm; omega
      obtain ⟨c, t, h1, h2, h3, h4⟩ := ih (m / 256) hm'
      refine ⟨c, t ++ [UInt8.ofNat (m % 256)], by rw [be, h1]; rfl, ?_, by simp [h3], fun a => ?_⟩
      · rw [h2, Nat.div_div_eq_div_mul, Nat.pow_succ, Nat.mul_comm]
      · have h1 : (UInt8.ofNat (m % 256)).toNat = m % 256 := by simp
        rw [val_append, h4]
        simp only [val, h1]
        have h2 : m % 256 ^ (s + 1) = 256 * (m / 256 % 256 ^ s) + m % 256 := by
          rw [Nat.pow_succ, Nat.mul_comm (256 ^ s) 256, Nat.mod_mul]; omega
        rw [h2, Nat.pow_succ]
        have : a * (256 ^ s * 256) = 256 * (a * 256 ^ s) := by rw [← Nat.mul_assoc, Nat.mul_comm]
        omega
  obtain ⟨s, hs1⟩ : ∃ s, sz n = s + 1 := ⟨sz n - 1, by omega⟩
  obtain ⟨c, t, h1, h2, h3, h4⟩ := key s (mrk n) (by rw [← hs1]; exact m1)
  rw [hs1] at m2 m3 m4
  simp only [Nat.add_sub_cancel] at m2 m3 m4
  have hc : c.toNat = sp n * 64 + n / 256 ^ s := by rw [h2, m2]
  have hn : n / 256 ^ s * 256 ^ s + n % 256 ^ s = n := Nat.div_add_mod' n _
  have hc12 : c.toNat / 64 = sp n ∧ c.toNat % 64 = n / 256 ^ s := by
    generalize n / 256 ^ s = q at hc m3 ⊢
    omega
  obtain ⟨hc1, hc2⟩ := hc12
  unfold enc
  rw [hs1, h1]
  simp only [get, List.cons_append, hc1, hc2]
  rw [← hs, hs1, if_neg (by rw [List.length_cons, List.length_append, h3]; omega)]
  have ht : (t ++ r).take (s + 1 - 1) = t := by rw [Nat.add_sub_cancel, List.take_append_of_le_length (by omega), List.take_of_length_le (by omega)]
  rw [ht, h4, m4]
  rw [hn, if_neg (by omega)]

/-- What is got is put as it was. -/
theorem enc_get {l : List UInt8} {n s : Nat} (h : get l = .num n s) : n < 4611686018427387904 ∧ s = sz n ∧ l.take s = enc n ∧ s ≤ l.length ∧ 1 ≤ s := by
  cases l with
  | nil => simp [get] at h
  | cons c t =>
    simp only [get] at h
    split at h
    · cases h
    · rename_i h1
      split at h
      · cases h
      · rename_i h2
        simp only [Got.num.injEq] at h
        obtain ⟨hn, hs⟩ := h
        simp only [List.length_cons] at h1
        have hc : c.toNat < 256 := c.toNat_lt
        obtain ⟨g1, g2⟩ := got_sz c t (by omega)
        rw [hn] at g1 g2 h2
        rw [hs] at g1 h2 h1
        have e1 : s = sz n := by omega
        have hs0 : 1 ≤ s := by rw [← hs]; exact Nat.one_le_two_pow
        refine ⟨g2, e1, ?_, by simp; omega, hs0⟩
        have hsp : sp n = c.toNat / 64 := by
          have := sz_sp n g2
          rw [← e1, ← hs] at this
          have p1 : sp n ≤ 4 := sp_le n
          have p2 : c.toNat / 64 ≤ 3 := by omega
          generalize sp n = x at this p1 ⊢
          generalize c.toNat / 64 = y at this p2 ⊢
          have hx : x = 0 ∨ x = 1 ∨ x = 2 ∨ x = 3 ∨ x = 4 := by omega
          have hy : y = 0 ∨ y = 1 ∨ y = 2 ∨ y = 3 := by omega
          rcases hx with rfl | rfl | rfl | rfl | rfl <;> rcases hy with rfl | rfl | rfl | rfl <;> first | rfl | (simp at this)
        -- both are s bytes of one value
        have inj : ∀ (l m : List UInt8), l.length = m.length → ∀ a b, val l a = val m b → a = b ∧ l = m := by
          intro l
          induction l with
          | nil => intro m hm a b hv; cases m with
            | nil => exact ⟨hv, rfl⟩
            | cons => simp at hm
          | cons x l ih =>
            intro m hm a b hv
            cases m with
            | nil => simp at hm
            | cons y m =>
              simp only [val] at hv
              obtain ⟨h3, h4⟩ := ih m (by simpa using hm) _ _ hv
              have hx := x.toNat_lt
              have hy := y.toNat_lt
              have : x.toNat = y.toNat := by omega
              exact ⟨by omega, by rw [UInt8.toNat_inj.1 this, h4]⟩
        obtain ⟨m1, m2, m3, m4⟩ := mrk_lt g2
        obtain ⟨s', hs'⟩ : ∃ s', s = s' + 1 := ⟨s - 1, by omega⟩
        refine (inj _ _ ?_ 0 0 ?_).2
        · rw [enc_length, ← e1]; simp; omega
        · unfold enc
          rw [val_be, ← e1] 
          rw [← e1] at m1
          rw [Nat.mod_eq_of_lt m1, Nat.zero_mul, Nat.zero_add, hs', List.take_succ_cons]
          simp only [val, Nat.mul_zero, Nat.zero_add]
          rw [hs, hs', Nat.add_sub_cancel] at hn
          have lin : ∀ (l : List UInt8) (a d : Nat), val l (a + d) = val l a + d * 256 ^ l.length := by
            intro l
            induction l with
            | nil => intro a d; simp [val]
            | cons x l ih =>
              intro a d
              simp only [val, List.length_cons, Nat.pow_succ]
              have : 256 * (a + d) + x.toNat = (256 * a + x.toNat) + 256 * d := by omega
              have e3 : 256 * d * 256 ^ l.length = d * (256 ^ l.length * 256) := by rw [Nat.mul_comm 256 d, Nat.mul_assoc, Nat.mul_comm 256]
              rw [this, ih, e3]
          have hcc : c.toNat = c.toNat % 64 + 64 * (c.toNat / 64) := by omega
          rw [hcc, lin, hn, ← hsp]
          have hlen : (t.take s').length = s' := by simp; omega
          rw [hlen]
          unfold mrk
          rw [← e1, hs']
          have : 64 * sp n * 256 ^ s' = sp n * 2 ^ (8 * (s' + 1) - 2) := by
            have e2 : 8 * (s' + 1) - 2 = 6 + 8 * s' := by omega
            rw [e2, Nat.pow_add, Nat.pow_mul]
            simp [Nat.mul_comm, Nat.mul_left_comm, Nat.mul_assoc]
          rw [this]

theorem be_get : ∀ (s m i : Nat), i < s → (be s m)[i]? = some (UInt8.ofNat (m / 256 ^ (s - 1 - i) % 256))
  | 0, _, _, h => by omega
  | s + 1, m, i, h => by
    rw [be]
    by_cases hi : i < s
    · rw [List.getElem?_append_left (by rw [be_length]; exact hi), be_get s (m / 256) i hi, Nat.div_div_eq_div_mul]
      have : s + 1 - 1 - i = (s - 1 - i) + 1 := by omega
      rw [this, Nat.pow_succ, Nat.mul_comm]
    · have : i = s := by omega
      subst this
      rw [List.getElem?_append_right (by rw [be_length]; omega)]
      simp [be_length]
theorem mrk_or {n : Nat} (h : n < 4611686018427387904) : n ||| (sp n * 2 ^ (8 * sz n - 2) % 2 ^ 64) = mrk n := by
  unfold mrk sp sz
  (repeat' split) <;> simp only [Nat.reduceMul, Nat.reduceSub, Nat.reducePow, Nat.reduceMod, Nat.zero_mul, Nat.one_mul, Nat.zero_mod, Nat.or_zero, Nat.add_zero] <;> try omega
  · rw [Nat.or_comm]; have := Nat.two_pow_add_eq_or_of_lt (i := 14) (b := n) (by omega) 1; simp only [Nat.reducePow, Nat.reduceMul] at this; omega
  · rw [Nat.or_comm]; have := Nat.two_pow_add_eq_or_of_lt (i := 30) (b := n) (by omega) 2; simp only [Nat.reducePow, Nat.reduceMul] at this; omega
  · rw [Nat.or_comm]; have := Nat.two_pow_add_eq_or_of_lt (i := 62) (b := n) (by omega) 3; simp only [Nat.reducePow, Nat.reduceMul] at this; omega
theorem sz_cases (n : Nat) : sz n = 0 ∨ sz n = 1 ∨ sz n = 2 ∨ sz n = 4 ∨ sz n = 8 := by unfold sz; (repeat' split) <;> simp
theorem sz_zero {n : Nat} : sz n = 0 ↔ 4611686018427387904 ≤ n := by unfold sz; (repeat' split) <;> omega
theorem mrk_lt64 {n : Nat} (h : n < 4611686018427387904) : mrk n < 18446744073709551616 := by
  unfold mrk sp sz; (repeat' split) <;> simp <;> omega

theorem shl_or {n c : Nat} (hn : n < 2 ^ 56) (hc : c < 256) : (n * 2 ^ 8 % 2 ^ 64) ||| c = 256 * n + c := by
  rw [Nat.mod_eq_of_lt (by omega), Nat.mul_comm, ← Nat.two_pow_add_eq_or_of_lt (i := 8) (b := c) (by omega) n]
theorem val_snoc (t : List UInt8) (i a : Nat) (c : UInt8) (h : t[i]? = some c) : val (t.take (i + 1)) a = 256 * val (t.take i) a + c.toNat := by
  have hi : i < t.length := by
    rcases Nat.lt_or_ge i t.length with q | q
    · exact q
    · rw [List.getElem?_eq_none q] at h; cases h
  have hg : t[i] = c := by rw [List.getElem?_eq_getElem hi] at h; exact Option.some.inj h
  rw [List.take_succ_eq_append_getElem hi, val_append, hg]
  rfl
theorem val_take_lt (t : List UInt8) (i a : Nat) (ha : a < 64) (hi : i ≤ 6) : val (t.take i) a < 2 ^ 56 := by
  have h1 := val_lt (t.take i) a
  have h2 : (t.take i).length ≤ i := by simp; omega
  have h3 : 256 ^ (t.take i).length ≤ 256 ^ 6 := Nat.pow_le_pow_right (by decide) (by omega)
  have h4 : (a + 1) * 256 ^ (t.take i).length ≤ 64 * 256 ^ 6 := Nat.mul_le_mul (by omega) h3
  have : (64 : Nat) * 256 ^ 6 ≤ 2 ^ 56 := by decide
  omega
theorem pow_le8 {k : Nat} (h : k ≤ 3) : 2 ^ k ≤ 8 ∧ 1 ≤ 2 ^ k := by
  have : k = 0 ∨ k = 1 ∨ k = 2 ∨ k = 3 := by omega
  rcases this with rfl | rfl | rfl | rfl <;> decide
theorem be_front : ∀ (s n : Nat), be (s + 1) n = UInt8.ofNat (n / 256 ^ s % 256) :: be s n
  | 0, n => by simp [be]
  | s + 1, n => by
    rw [be, be_front s (n / 256), Nat.div_div_eq_div_mul]
    have : (256 : Nat) * 256 ^ s = 256 ^ (s + 1) := by rw [Nat.pow_succ, Nat.mul_comm]
    rw [this]
    rfl
theorem be_mod : ∀ (s n m : Nat), n % 256 ^ s = m % 256 ^ s → be s n = be s m
  | 0, _, _, _ => rfl
  | s + 1, n, m, h => by
    rw [Nat.pow_succ, Nat.mul_comm, Nat.mod_mul, Nat.mod_mul] at h
    rw [be, be, be_mod s (n / 256) (m / 256) (by omega)]
    congr 3
    omega
theorem enc_eq {n : Nat} (h : n < 4611686018427387904) : ∃ s, sz n = s + 1 ∧ enc n = UInt8.ofNat (n / 256 ^ s % 256 + 64 * sp n) :: be s n ∧ n / 256 ^ s < 64 ∧ sp n ≤ 3 := by
  obtain ⟨m1, m2, m3, m4⟩ := mrk_lt h
  have hs : sz n = 2 ^ sp n := sz_sp n h
  have hs0 : 1 ≤ sz n := by rw [hs]; exact Nat.one_le_two_pow
  have hsp : sp n ≤ 3 := by unfold sp; (repeat' split) <;> omega
  obtain ⟨s, e⟩ : ∃ s, sz n = s + 1 := ⟨sz n - 1, by omega⟩
  rw [e, Nat.add_sub_cancel] at m2 m3 m4
  refine ⟨s, e, ?_, m3, hsp⟩
  unfold enc
  rw [e, be_front, be_mod s (mrk n) n m4, m2]
  congr 2
  generalize n / 256 ^ s = q at m3 ⊢
  omega
end Go.Proofs.YtfjnacakpeommaaDoor.Pl
