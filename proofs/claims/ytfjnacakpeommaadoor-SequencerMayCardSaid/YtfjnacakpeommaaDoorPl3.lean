/- Plain: a reader of numbers and texts. -/
import Derived.Test.YtfjnacakpeommaaDoorPl1
namespace Go.Proofs.YtfjnacakpeommaaDoor.Pl
set_option autoImplicit false
set_option linter.unusedVariables false

/-- How far it is read, the error. -/
structure Rs where
  at_ : Nat
  e : Nat
def rfail (e k : Nat) : Nat := if e = 0 then k else e
def rraw (s : List UInt8) (r : Rs) : Nat × Rs := if r.e ≠ 0 then (0, r) else match get (s.drop r.at_) with
  | .err k => (0, ⟨r.at_, k⟩)
  | .num n z => (n, ⟨r.at_ + z, 0⟩)
def rnum (s : List UInt8) (lim : Nat) (r : Rs) : Nat × Rs :=
  if lim < (rraw s r).1 then (0, ⟨(rraw s r).2.at_, rfail (rraw s r).2.e 1⟩) else rraw s r
def rtext (s : List UInt8) (lim : Nat) (r : Rs) : List UInt8 × Rs :=
  if s.length - (rnum s lim r).2.at_ < (rnum s lim r).1 then ([], ⟨(rnum s lim r).2.at_, rfail (rnum s lim r).2.e 2⟩)
  else ((s.drop (rnum s lim r).2.at_).take (rnum s lim r).1, ⟨(rnum s lim r).2.at_ + (rnum s lim r).1, (rnum s lim r).2.e⟩)
def rend (s : List UInt8) (r : Rs) : Nat := if r.at_ < s.length then rfail r.e 4 else r.e

theorem get_err {l : List UInt8} {k : Nat} (h : get l = .err k) : k = 2 ∨ k = 3 := by
  unfold get at h
  split at h
  · cases h; exact .inl rfl
  · dsimp only at h
    split at h
    · cases h; exact .inl rfl
    · split at h
      · cases h; exact .inr rfl
      · cases h
theorem rraw_le {s : List UInt8} {r : Rs} (h : r.at_ ≤ s.length) : (rraw s r).2.at_ ≤ s.length := by
  unfold rraw
  split
  · exact h
  · split
    · exact h
    · rename_i n z hg
      have := enc_get hg
      simp only [List.length_drop] at this
      show r.at_ + z ≤ _
      omega
theorem rraw_e {s : List UInt8} {r : Rs} (h : (rraw s r).2.e ≠ 0) : (rraw s r).1 = 0 := by
  unfold rraw at *
  split
  · rfl
  · rename_i h0
    rw [if_neg h0] at h
    split
    · rfl
    · rename_i hg; rw [hg] at h; exact absurd rfl h
theorem rraw_lt (s : List UInt8) (r : Rs) : (rraw s r).1 < 4611686018427387904 := by
  unfold rraw
  split
  · show 0 < _; decide
  · split
    · show 0 < _; decide
    · rename_i hg; exact (enc_get hg).1
theorem rnum_le {s : List UInt8} {lim : Nat} {r : Rs} (h : r.at_ ≤ s.length) : (rnum s lim r).2.at_ ≤ s.length := by
  unfold rnum
  split <;> exact rraw_le h
theorem rnum_lim {s : List UInt8} {lim : Nat} {r : Rs} : (rnum s lim r).1 ≤ lim := by
  unfold rnum
  split
  · exact Nat.zero_le _
  · omega
theorem rfail_ne {e k : Nat} (h : k ≠ 0) : rfail e k ≠ 0 := by unfold rfail; split <;> omega
theorem rnum_e {s : List UInt8} {lim : Nat} {r : Rs} (h : (rnum s lim r).2.e ≠ 0) : (rnum s lim r).1 = 0 := by
  unfold rnum at *
  split
  · rfl
  · rename_i h0; rw [if_neg h0] at h; exact rraw_e h
theorem rnum_stop {s : List UInt8} {lim : Nat} {r : Rs} (h : r.e ≠ 0) : rnum s lim r = (0, r) := by
  have : rraw s r = (0, r) := if_pos h
  unfold rnum
  rw [this, if_neg (Nat.not_lt_zero _)]
theorem rtext_stop {s : List UInt8} {lim : Nat} {r : Rs} (h : r.e ≠ 0) : rtext s lim r = ([], r) := by
  unfold rtext
  rw [rnum_stop h, if_neg (Nat.not_lt_zero _)]
  simp
theorem rtext_le {s : List UInt8} {lim : Nat} {r : Rs} (h : r.at_ ≤ s.length) : (rtext s lim r).2.at_ ≤ s.length := by
  have := rnum_le (lim := lim) h
  unfold rtext
  split
  · exact this
  · show _ + _ ≤ _; omega
theorem rend_stop {s : List UInt8} {r : Rs} (h : r.e ≠ 0) : rend s r = r.e := by
  unfold rend rfail
  rw [if_neg h]; split <;> rfl
/-- The error as a number that is small. -/
theorem rfail_lt {e k : Nat} (he : e < 16) (hk : k < 16) : rfail e k < 16 := by unfold rfail; split <;> assumption
theorem rraw_elt {s : List UInt8} {r : Rs} (h : r.e < 16) : (rraw s r).2.e < 16 := by
  unfold rraw
  split
  · exact h
  · split
    · rename_i k hg; have := get_err hg; show k < 16; omega
    · show 0 < 16; omega
theorem rnum_elt {s : List UInt8} {lim : Nat} {r : Rs} (h : r.e < 16) : (rnum s lim r).2.e < 16 := by
  unfold rnum
  split
  · exact rfail_lt (rraw_elt h) (by decide)
  · exact rraw_elt h
theorem rtext_elt {s : List UInt8} {lim : Nat} {r : Rs} (h : r.e < 16) : (rtext s lim r).2.e < 16 := by
  have := rnum_elt (s := s) (lim := lim) h
  unfold rtext
  split
  · exact rfail_lt this (by decide)
  · exact this
end Go.Proofs.YtfjnacakpeommaaDoor.Pl
