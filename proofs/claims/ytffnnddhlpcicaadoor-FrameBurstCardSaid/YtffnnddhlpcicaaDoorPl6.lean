/- Plain: a burst of changed bits is told by the checksum. -/
import Derived.Test.YtffnnddhlpcicaaDoorPl5
namespace Go.Proofs.YtffnnddhlpcicaaDoor.Pl
set_option autoImplicit false
set_option linter.unusedVariables false

/-- One bit of a row of bytes is changed. -/
def flip1 (l : List UInt8) (i : Nat) : List UInt8 := l.modify (i / 8) (fun c => UInt8.ofNat (c.toNat ^^^ 2 ^ (i % 8)))
def flips (l : List UInt8) (a m : Nat) : Nat → List UInt8
  | 0 => l
  | k + 1 => if m / 2 ^ k % 2 = 1 ∧ a + k < 8 * l.length then flip1 (flips l a m k) (a + k) else flips l a m k
theorem flip1_length (l : List UInt8) (i : Nat) : (flip1 l i).length = l.length := by simp [flip1]
theorem flips_length (l : List UInt8) (a m : Nat) : ∀ k, (flips l a m k).length = l.length
  | 0 => rfl
  | k + 1 => by
    rw [flips]
    split
    · rw [flip1_length, flips_length l a m k]
    · exact flips_length l a m k
/-- A row of bytes as a number, the lowest byte first. -/
def num : List UInt8 → Nat
  | [] => 0
  | c :: l => c.toNat + 256 * num l
theorem num_xor (c : UInt8) (l : List UInt8) : num (c :: l) = c.toNat ^^^ 256 * num l := by
  have h := split256 (num (c :: l))
  have hc := c.toNat_lt
  have e1 : num (c :: l) / 256 = num l := by simp only [num]; omega
  have e2 : num (c :: l) % 256 = c.toNat := by simp only [num]; omega
  rw [e1, e2] at h
  rw [h, Nat.xor_comm]
theorem num_inj : ∀ (l m : List UInt8), l.length = m.length → num l = num m → l = m
  | [], [], _, _ => rfl
  | [], _ :: _, h, _ => by simp at h
  | _ :: _, [], h, _ => by simp at h
  | c :: l, d :: m, h, e => by
    simp only [num] at e
    have hc := c.toNat_lt
    have hd := d.toNat_lt
    have h1 : c.toNat = d.toNat := by omega
    have h2 := num_inj l m (by simpa using h) (by omega)
    rw [UInt8.toNat_inj.1 h1, h2]
theorem mul_xor (k x y : Nat) : 2 ^ k * (x ^^^ y) = 2 ^ k * x ^^^ 2 ^ k * y := by
  have := Nat.shiftLeft_xor_distrib (a := x) (b := y) (i := k)
  simpa [Nat.shiftLeft_eq, Nat.mul_comm] using this
theorem num_flip1 : ∀ (l : List UInt8) (i : Nat), i < 8 * l.length → num (flip1 l i) = num l ^^^ 2 ^ i
  | [], i, h => by simp at h
  | c :: l, i, h => by
    by_cases hi : i < 8
    · have e : flip1 (c :: l) i = UInt8.ofNat (c.toNat ^^^ 2 ^ i) :: l := by
        unfold flip1
        have h1 : i / 8 = 0 := by omega
        have h2 : i % 8 = i := by omega
        rw [h1, h2]
        rfl
      have hp : 2 ^ i < 2 ^ 8 := Nat.pow_lt_pow_right (by decide) hi
      have hx : c.toNat ^^^ 2 ^ i < 2 ^ 8 := Nat.xor_lt_two_pow c.toNat_lt hp
      rw [e, num_xor, num_xor]
      have e2 : (UInt8.ofNat (c.toNat ^^^ 2 ^ i)).toNat = c.toNat ^^^ 2 ^ i := by
        rw [UInt8.toNat_ofNat']
        exact Nat.mod_eq_of_lt hx
      rw [e2, Nat.xor_assoc, Nat.xor_assoc, Nat.xor_comm (2 ^ i)]
    · obtain ⟨j, rfl⟩ : ∃ j, i = j + 8 := ⟨i - 8, by omega⟩
      have e : flip1 (c :: l) (j + 8) = c :: flip1 l j := by
        unfold flip1
        have h1 : (j + 8) / 8 = j / 8 + 1 := by omega
        have h2 : (j + 8) % 8 = j % 8 := by omega
        rw [h1, h2]
        rfl
      have ih := num_flip1 l j (by simp only [List.length_cons] at h; omega)
      rw [e, num_xor, num_xor, ih]
      have h3 : 256 * (num l ^^^ 2 ^ j) = 256 * num l ^^^ 2 ^ (j + 8) := by
        have := mul_xor 8 (num l) (2 ^ j)
        rw [← Nat.pow_add, Nat.add_comm 8 j] at this
        exact this
      rw [h3, Nat.xor_assoc]
/-- What a burst changes, counted from its first bit. -/
def mm (n a m : Nat) : Nat → Nat
  | 0 => 0
  | k + 1 => mm n a m k ^^^ (if m / 2 ^ k % 2 = 1 ∧ a + k < n then 2 ^ k else 0)
theorem mm_lt (n a m : Nat) : ∀ k, mm n a m k < 2 ^ k
  | 0 => by simp [mm]
  | k + 1 => by
    have h := mm_lt n a m k
    have hp : 2 ^ k < 2 ^ (k + 1) := Nat.pow_lt_pow_right (by decide) (Nat.lt_succ_self k)
    refine Nat.xor_lt_two_pow (Nat.lt_trans h hp) ?_
    split
    · exact hp
    · exact Nat.two_pow_pos _
theorem mm_zero {n a m : Nat} (h : n ≤ a) : ∀ k, mm n a m k = 0
  | 0 => rfl
  | k + 1 => by rw [mm, mm_zero h k, if_neg (by omega)]; rfl
theorem num_flips (l : List UInt8) (a m : Nat) : ∀ k, num (flips l a m k) = num l ^^^ 2 ^ a * mm (8 * l.length) a m k
  | 0 => by simp [flips, mm]
  | k + 1 => by
    rw [flips, mm]
    split
    · rename_i h
      rw [num_flip1 _ _ (by rw [flips_length]; exact h.2), num_flips l a m k, mul_xor, Nat.xor_assoc, Nat.pow_add]
    · rw [num_flips l a m k]; simp
theorem gs_add : ∀ (a b x : Nat), gs (a + b) x = gs b (gs a x)
  | 0, b, x => by rw [Nat.zero_add]; rfl
  | a + 1, b, x => by
    have : a + 1 + b = (a + b) + 1 := by omega
    rw [this, gs, gs_add a b]
    rfl
theorem run_num : ∀ (l : List UInt8) (x : Nat), run x l = gs (8 * l.length) (x ^^^ num l)
  | [], x => by simp [run, num, gs]
  | c :: l, x => by
    have h : run x (c :: l) = run (byte x c) l := rfl
    rw [h, run_num l]
    have e : 8 * (c :: l).length = 8 + 8 * l.length := by simp only [List.length_cons]; omega
    rw [e, gs_add, num_xor, ← Nat.xor_assoc, gs_xor 8 (x ^^^ c.toNat)]
    have := gs_pow 8 (num l)
    rw [show (2 : Nat) ^ 8 = 256 from rfl] at this
    rw [this]
    rfl
theorem g1_ne {x : Nat} (h : x < 4294967296) (h0 : x ≠ 0) : g1 x ≠ 0 := by
  unfold g1
  split
  · intro e
    have e2 : x / 2 = PL := by
      have h3 : (x / 2 ^^^ PL) ^^^ PL = 0 ^^^ PL := by rw [e]
      rw [Nat.xor_assoc, Nat.xor_self, Nat.xor_zero, Nat.zero_xor] at h3
      exact h3
    unfold PL at e2
    omega
  · omega
theorem gs_ne : ∀ (k : Nat) {x : Nat}, x < 4294967296 → x ≠ 0 → gs k x ≠ 0
  | 0, _, _, h => h
  | k + 1, _, h, h0 => gs_ne k (g1_lt h) (g1_ne h h0)
theorem num_le4 {z : Nat} (h : z < 4294967296) : num (le4 z) = z := by
  simp only [le4, num, UInt8.toNat_ofNat']
  omega
theorem xor_compl {y : Nat} (h : y < 4294967296) : y ^^^ (4294967295 - y) = 4294967295 := by
  have e : 4294967295 - y = 2 ^ 32 - (y + 1) := by omega
  have e2 : (4294967295 : Nat) = 2 ^ 32 - 1 := rfl
  apply Nat.eq_of_testBit_eq
  intro i
  rw [e, e2, Nat.testBit_xor, Nat.testBit_two_pow_sub_succ h, Nat.testBit_two_pow_sub_one]
  by_cases hi : i < 32
  · simp [hi]
  · have hy : y.testBit i = false := Nat.testBit_lt_two_pow (Nat.lt_of_lt_of_le h (Nat.pow_le_pow_right (show 2 > 0 by decide) (show 32 ≤ i by omega)))
    simp [hi, hy]
/-- What is sealed leaves one register. -/
theorem run_seald (s : List UInt8) : run 4294967295 (seald s) = gs 32 4294967295 := by
  have h : run 4294967295 (seald s) = run (run 4294967295 s) (le4 (crc s)) := by
    unfold run seald
    rw [List.foldl_append]
  have hl := run_lt s (x := 4294967295) (by decide)
  rw [h, run_num, num_le4 (crc_lt s)]
  unfold crc
  rw [xor_compl hl]
  rfl
theorem burst {s : List UInt8} {a m k : Nat} (hk : k ≤ 32) : flips (seald s) a m k = seald s ∨ unseald (flips (seald s) a m k) = none := by
  cases hu : unseald (flips (seald s) a m k) with
  | none => exact .inr rfl
  | some t =>
    left
    have h1 := seald_unseald hu
    have h2 := run_seald t
    rw [h1, run_num, flips_length, num_flips, ← Nat.xor_assoc, gs_xor, ← run_num, run_seald] at h2
    generalize hn : 8 * (seald s).length = n at *
    have h3 : gs n (2 ^ a * mm n a m k) = 0 := by
      have h4 : gs 32 4294967295 ^^^ (gs 32 4294967295 ^^^ gs n (2 ^ a * mm n a m k)) = 0 := by rw [h2, Nat.xor_self]
      rw [← Nat.xor_assoc, Nat.xor_self, Nat.zero_xor] at h4
      exact h4
    have h0 : mm n a m k = 0 := by
      by_cases hna : n ≤ a
      · exact mm_zero hna k
      · have e : n = a + (n - a) := by omega
        have hlt : mm n a m k < 4294967296 := Nat.lt_of_lt_of_le (mm_lt n a m k) (by
          have : (4294967296 : Nat) = 2 ^ 32 := rfl
          rw [this]
          exact Nat.pow_le_pow_right (by decide) hk)
        generalize mm n a m k = q at *
        rw [e, gs_add, gs_pow] at h3
        by_cases hq : q = 0
        · exact hq
        · exact absurd h3 (gs_ne _ hlt hq)
    apply num_inj _ _ (flips_length ..)
    rw [num_flips, hn, h0]
    simp
end Go.Proofs.YtffnnddhlpcicaaDoor.Pl
