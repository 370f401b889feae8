/- Plain: updates and rounds as they are read. -/
import Derived.Test.YtfjnacakpeommaaDoorPl7
namespace Go.Proofs.YtfjnacakpeommaaDoor.Pl
set_option autoImplicit false
set_option linter.unusedVariables false

def zag (n : Nat) : Int := if 4611686018427387904 ≤ n then 0 else if n % 2 = 1 then -((n / 2 : Nat) : Int) - 1 else ((n / 2 : Nat) : Int)
def rfailR (r : Rs) (k : Nat) : Rs := ⟨r.at_, rfail r.e k⟩
/-- A number from 1 on. -/
def rsome (s : List UInt8) (lim : Nat) (r : Rs) : Nat × Rs := ((rnum s lim r).1, if (rnum s lim r).1 = 0 then rfailR (rnum s lim r).2 1 else (rnum s lim r).2)
/-- What stands behind an update's key. -/
def utl (s : List UInt8) (k : Nat) (r : Rs) : Int × List UInt8 × Rs :=
  if k = 1 ∨ k = 3 then (zag (rraw s r).1, [], (rraw s r).2) else if k = 2 ∨ k = 4 then (0, (rtext s 32 r).1, (rtext s 32 r).2) else (0, [], r)
def uread1 (s : List UInt8) (r : Rs) : Nat × Rs := ((rnum s 5 r).1, if (rnum s 5 r).1 = 0 then rfailR (rnum s 5 r).2 5 else (rnum s 5 r).2)
def uread2 (s : List UInt8) (r : Rs) : List UInt8 × Rs := ((rtext s 16 r).1, if (rtext s 16 r).1 = [] then rfailR (rtext s 16 r).2 1 else (rtext s 16 r).2)
def uread (s : List UInt8) (r : Rs) : Up × Rs :=
  let q1 := uread1 s r
  let q2 := uread2 s q1.2
  let q3 := utl s q1.1 q2.2
  if q3.2.2.e ≠ 0 then (up0, q3.2.2) else (⟨q2.1, q1.1, q3.1, q3.2.1⟩, q3.2.2)
def ureads (s : List UInt8) : Nat → Rs → List Up × Rs
  | 0, r => ([], r)
  | n + 1, r => ((ureads s n r).1 ++ [(uread s (ureads s n r).2).1], (uread s (ureads s n r).2).2)
def rget (s : List UInt8) : Ro × Nat :=
  let q1 := rsome s 64 ⟨0, 0⟩
  let q2 := rsome s 1099511627776 q1.2
  let q3 := rsome s 8 q2.2
  let q4 := ureads s q3.1 q3.2
  let e := rend s q4.2
  if e ≠ 0 then (ro0, e) else (⟨q1.1, q2.1, q4.1⟩, 0)
theorem rsome_le {s : List UInt8} {lim : Nat} {r : Rs} (h : r.at_ ≤ s.length) : (rsome s lim r).2.at_ ≤ s.length := by
  have := rnum_le (lim := lim) h
  unfold rsome
  dsimp only
  split <;> exact this
theorem rsome_lim {s : List UInt8} {lim : Nat} {r : Rs} : (rsome s lim r).1 ≤ lim := rnum_lim
theorem utl_le {s : List UInt8} {k : Nat} {r : Rs} (h : r.at_ ≤ s.length) : (utl s k r).2.2.at_ ≤ s.length := by
  unfold utl
  split
  · exact rraw_le h
  · split
    · exact rtext_le h
    · exact h
theorem uread1_le {s : List UInt8} {r : Rs} (h : r.at_ ≤ s.length) : (uread1 s r).2.at_ ≤ s.length := by
  have := rnum_le (lim := 5) h
  unfold uread1
  dsimp only
  split <;> exact this
theorem uread2_le {s : List UInt8} {r : Rs} (h : r.at_ ≤ s.length) : (uread2 s r).2.at_ ≤ s.length := by
  have := rtext_le (lim := 16) h
  unfold uread2
  dsimp only
  split <;> exact this
theorem uread_at (s : List UInt8) (r : Rs) : (uread s r).2 = (utl s (uread1 s r).1 (uread2 s (uread1 s r).2).2).2.2 := by
  unfold uread
  dsimp only
  split <;> rfl
theorem uread_le {s : List UInt8} {r : Rs} (h : r.at_ ≤ s.length) : (uread s r).2.at_ ≤ s.length := by
  rw [uread_at]
  exact utl_le (uread2_le (uread1_le h))
theorem ureads_le {s : List UInt8} : ∀ (n : Nat) {r : Rs}, r.at_ ≤ s.length → (ureads s n r).2.at_ ≤ s.length
  | 0, _, h => h
  | n + 1, r, h => uread_le (ureads_le n h)
theorem ureads_length {s : List UInt8} : ∀ (n : Nat) {r : Rs}, (ureads s n r).1.length = n
  | 0, _ => rfl
  | n + 1, r => by rw [ureads, List.length_append, ureads_length n]; rfl
/-! An error stays. -/
theorem rfailR_stop {r : Rs} {k : Nat} (h : r.e ≠ 0) : rfailR r k = r := by
  unfold rfailR rfail
  rw [if_neg h]
theorem rraw_stop {s : List UInt8} {r : Rs} (h : r.e ≠ 0) : rraw s r = (0, r) := if_pos h
theorem rsome_stop {s : List UInt8} {lim : Nat} {r : Rs} (h : r.e ≠ 0) : rsome s lim r = (0, r) := by
  unfold rsome
  rw [rnum_stop h]
  simp only [if_true, rfailR_stop h]
theorem uread1_stop {s : List UInt8} {r : Rs} (h : r.e ≠ 0) : uread1 s r = (0, r) := by
  unfold uread1
  rw [rnum_stop h]
  simp only [if_true, rfailR_stop h]
theorem uread2_stop {s : List UInt8} {r : Rs} (h : r.e ≠ 0) : uread2 s r = ([], r) := by
  unfold uread2
  rw [rtext_stop h]
  simp only [if_true, rfailR_stop h]
theorem utl_stop {s : List UInt8} {k : Nat} {r : Rs} (h : r.e ≠ 0) : utl s k r = (0, [], r) := by
  unfold utl
  rw [rraw_stop h, rtext_stop h]
  have : zag 0 = 0 := rfl
  simp only [this]
  (repeat' split) <;> rfl
theorem uread_stop {s : List UInt8} {r : Rs} (h : r.e ≠ 0) : uread s r = (up0, r) := by
  unfold uread
  rw [uread1_stop h]
  dsimp only
  rw [uread2_stop h]
  dsimp only
  rw [utl_stop h]
  dsimp only
  rw [if_pos h]
theorem ureads_stop {s : List UInt8} {n : Nat} {r : Rs} (h : r.e ≠ 0) : (ureads s n r).2 = r := by
  induction n with
  | zero => rfl
  | succ n ih => rw [ureads, ih, uread_stop h]
theorem ureads_add (s : List UInt8) (n : Nat) : ∀ (m : Nat) (r : Rs), (ureads s (n + m) r) = ((ureads s n r).1 ++ (ureads s m (ureads s n r).2).1, (ureads s m (ureads s n r).2).2)
  | 0, r => by simp [ureads]
  | m + 1, r => by
    rw [← Nat.add_assoc, ureads, ureads_add s n m r]
    simp [ureads]
theorem rget_stop {s : List UInt8} {e : Nat} (he : e ≠ 0) (h : (rend s (ureads s (rsome s 8 (rsome s 1099511627776 (rsome s 64 ⟨0, 0⟩).2).2).1 (rsome s 8 (rsome s 1099511627776 (rsome s 64 ⟨0, 0⟩).2).2).2).2) = e) : rget s = (ro0, e) := by
  unfold rget
  dsimp only
  rw [h, if_pos he]
end Go.Proofs.YtfjnacakpeommaaDoor.Pl
