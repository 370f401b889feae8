/- Plain: updates and rounds. -/
import Derived.Test.YtfjnacakpeommaaDoorPl4
namespace Go.Proofs.YtfjnacakpeommaaDoor.Pl
set_option autoImplicit false
set_option linter.unusedVariables false

structure Up where
  key : List UInt8
  kind : Int
  n : Int
  s : List UInt8
def up0 : Up := ⟨[], 0, 0, []⟩
/-- May an update be? An error. -/
def umay (u : Up) : Nat :=
  if u.key.length < 1 ∨ 16 < u.key.length then 1
  else if u.kind = 1 ∨ u.kind = 3 then (if u.s ≠ [] then 13 else if u.n < -2305843009213693952 ∨ 2305843009213693952 ≤ u.n then 1 else 0)
  else if u.kind = 2 ∨ u.kind = 4 then (if u.n ≠ 0 then 13 else if 32 < u.s.length then 1 else 0)
  else if u.kind = 5 then (if u.n ≠ 0 ∨ u.s ≠ [] then 13 else 0)
  else 5
def firstErr : List Up → Nat
  | [] => 0
  | u :: l => if umay u ≠ 0 then umay u else firstErr l
structure Ro where
  origin : Int
  number : Int
  ups : List Up
def ro0 : Ro := ⟨0, 0, []⟩
def rmay (r : Ro) : Nat :=
  if (r.origin < 1 ∨ 64 < r.origin) ∨ (r.number < 1 ∨ 1099511627776 < r.number) ∨ (r.ups.length < 1 ∨ 8 < r.ups.length) then 1 else firstErr r.ups
/-- A signed number as one without a sign. -/
def zig (n : Int) : Nat := if 0 ≤ n then 2 * n.toNat else 2 * (-n - 1).toNat + 1
def utail (u : Up) : List UInt8 :=
  if u.kind = 1 ∨ u.kind = 3 then enc (zig u.n) else if u.kind = 2 ∨ u.kind = 4 then enc u.s.length ++ u.s else []
def ubytes (u : Up) : List UInt8 := enc u.kind.toNat ++ ((enc u.key.length ++ u.key) ++ utail u)
def rbytes (r : Ro) : List UInt8 := enc r.origin.toNat ++ enc r.number.toNat ++ enc r.ups.length ++ r.ups.flatMap ubytes
def rput (r : Ro) : List UInt8 × Nat := if rmay r ≠ 0 then ([], rmay r) else (rbytes r, 0)
/-- Do updates fit a datagram of mtu bytes? -/
def rfits (l : List Up) (mtu : Int) : Bool := decide (rmay ⟨64, 1099511627776, l⟩ = 0 ∧ 64 ≤ mtu ∧ mtu ≤ 1400 ∧ ((rbytes ⟨64, 1099511627776, l⟩).length : Int) ≤ mtu - 40)
theorem umay_kind {u : Up} (h : umay u = 0) : 1 ≤ u.kind ∧ u.kind ≤ 5 ∧ 1 ≤ u.key.length ∧ u.key.length ≤ 16 ∧ u.s.length ≤ 32 ∧ -2305843009213693952 ≤ u.n ∧ u.n < 2305843009213693952 := by
  unfold umay at h
  split at h
  · cases h
  rename_i h1
  split at h
  · rename_i h2
    split at h
    · cases h
    · rename_i h3
      split at h
      · cases h
      · rename_i h4
        have : u.s = [] := by simpa using h3
        rw [this]
        refine ⟨by omega, by omega, by omega, by omega, by simp, by omega, by omega⟩
  · rename_i h2
    split at h
    · rename_i h3
      split at h
      · cases h
      · rename_i h4
        split at h
        · cases h
        · rename_i h5
          refine ⟨by omega, by omega, by omega, by omega, by omega, by omega, by omega⟩
    · rename_i h3
      split at h
      · rename_i h4
        split at h
        · cases h
        · rename_i h5
          have h6 : u.s = [] := by
            by_cases hs : u.s = []
            · exact hs
            · exact absurd (.inr hs) h5
          rw [h6]
          refine ⟨by omega, by omega, by omega, by omega, by simp, by omega, by omega⟩
      · cases h
theorem firstErr_zero {l : List Up} (h : firstErr l = 0) : ∀ u ∈ l, umay u = 0 := by
  induction l with
  | nil => intro u hu; cases hu
  | cons x l ih =>
    unfold firstErr at h
    split at h
    · rename_i h1; exact absurd h h1
    · rename_i h1
      intro u hu
      rcases List.mem_cons.1 hu with rfl | hu
      · exact Decidable.not_not.1 h1
      · exact ih h u hu
theorem firstErr_at {l : List Up} {i : Nat} {u : Up} (h : ∀ j, j < i → ∀ x, l[j]? = some x → umay x = 0) (hu : l[i]? = some u) (he : umay u ≠ 0) : firstErr l = umay u := by
  induction l generalizing i with
  | nil => simp at hu
  | cons x l ih =>
    unfold firstErr
    cases i with
    | zero =>
      have : x = u := by simpa using hu
      subst this
      rw [if_pos he]
    | succ i =>
      have h0 : umay x = 0 := h 0 (by omega) x rfl
      rw [if_neg (fun h => h h0)]
      exact ih (i := i) (fun j hj y hy => h (j + 1) (by omega) y (by simpa using hy)) (by simpa using hu)
theorem firstErr_all {l : List Up} (h : ∀ (j : Nat) x, l[j]? = some x → umay x = 0) : firstErr l = 0 := by
  induction l with
  | nil => rfl
  | cons x l ih =>
    unfold firstErr
    rw [if_neg (fun h' => h' (h 0 x rfl))]
    exact ih fun j y hy => h (j + 1) y (by simpa using hy)
theorem rmay_zero {r : Ro} (h : rmay r = 0) : (1 ≤ r.origin ∧ r.origin ≤ 64) ∧ (1 ≤ r.number ∧ r.number ≤ 1099511627776) ∧ (1 ≤ r.ups.length ∧ r.ups.length ≤ 8) ∧ ∀ u ∈ r.ups, umay u = 0 := by
  unfold rmay at h
  split at h
  · cases h
  · rename_i h1
    exact ⟨by omega, by omega, by omega, firstErr_zero h⟩
theorem zig_lt {n : Int} (h : -2305843009213693952 ≤ n ∧ n < 2305843009213693952) : zig n < 4611686018427387904 := by
  unfold zig; split <;> omega
theorem ubytes_len (u : Up) (h : umay u = 0) : (ubytes u).length ≤ 100 := by
  obtain ⟨_, _, _, h4, h5, _⟩ := umay_kind h
  have l1 : ∀ n, (enc n).length ≤ 8 := fun n => by
    rw [enc_length]; rcases sz_cases n with h | h | h | h | h <;> omega
  have a1 := l1 u.kind.toNat; have a2 := l1 u.key.length; have a3 := l1 (zig u.n); have a4 := l1 u.s.length
  have : (utail u).length ≤ 40 := by
    unfold utail
    (repeat' split) <;> (try simp only [List.length_append, List.length_nil]) <;> omega
  simp only [ubytes, List.length_append]
  omega
theorem sz_mono {a b : Nat} (h : a ≤ b) (hb : b < 4611686018427387904) : sz a ≤ sz b := by
  unfold sz; (repeat' split) <;> omega
/-- A round that fits makes a frame that isn't too long. -/
theorem carries {r : Ro} {mtu : Int} {f : Fr} (hf : rfits r.ups mtu = true) (hr : rmay r = 0) (hd : f.data = rbytes r) (hm : fmay f = 0) : fput f mtu = (fbytes f, 0) ∧ ((fbytes f).length : Int) ≤ mtu := by
  unfold rfits at hf
  obtain ⟨h0, h1, h2, h3⟩ := of_decide_eq_true hf
  obtain ⟨⟨o1, o2⟩, ⟨n1, n2⟩, ⟨u1, u2⟩, hu⟩ := rmay_zero hr
  have hlen : (rbytes r).length ≤ (rbytes ⟨64, 1099511627776, r.ups⟩).length := by
    simp only [rbytes, List.length_append, enc_length]
    have a1 : sz r.origin.toNat ≤ sz (64 : Int).toNat := sz_mono (by omega) (by decide)
    have a2 : sz r.number.toNat ≤ sz (1099511627776 : Int).toNat := sz_mono (by omega) (by decide)
    omega
  have hd2 : (f.data.length : Int) ≤ mtu - 40 := by rw [hd]; omega
  have hi : frIn f := by
    by_cases h : frIn f
    · exact h
    · unfold fmay at hm; rw [if_pos h] at hm; cases hm
  obtain ⟨⟨e1, e2⟩, ⟨e3, e4⟩, e5, e6⟩ := id hi
  have l1 : ∀ n, (enc n).length ≤ 8 := fun n => by
    rw [enc_length]; rcases sz_cases n with h | h | h | h | h <;> omega
  have b1 := l1 f.ep.toNat; have b2 := l1 f.seq.toNat; have b3 := l1 f.ack.toNat
  have b4 : (enc f.data.length).length ≤ 2 := by
    rw [enc_length]
    exact sz_mono (b := 1400) (by omega) (by decide)
  have hl : ((fbytes f).length : Int) ≤ mtu := by
    simp [fbytes, seald, fbody, le4]; omega
  refine ⟨?_, hl⟩
  unfold fput
  rw [if_neg (by omega), if_neg (by rw [hm]; exact fun h => h rfl), if_neg (by omega)]
end Go.Proofs.YtfjnacakpeommaaDoor.Pl
