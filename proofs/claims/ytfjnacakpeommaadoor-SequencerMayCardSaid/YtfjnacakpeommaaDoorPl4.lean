/- Plain: frames. -/
import Derived.Test.YtfjnacakpeommaaDoorPl2
import Derived.Test.YtfjnacakpeommaaDoorPl3
namespace Go.Proofs.YtfjnacakpeommaaDoor.Pl
set_option autoImplicit false
set_option linter.unusedVariables false

structure Fr where
  ep : Int
  seq : Int
  ack : Int
  data : List UInt8

def fr0 : Fr := ⟨0, 0, 0, []⟩
/-- The numbers are in range. -/
def frIn (f : Fr) : Prop := (1 ≤ f.ep ∧ f.ep ≤ 1099511627776) ∧ (0 ≤ f.seq ∧ f.seq ≤ 1125899906842624) ∧ (0 ≤ f.ack ∧ f.ack ≤ 1125899906842624)
instance (f : Fr) : Decidable (frIn f) := inferInstanceAs (Decidable (_ ∧ _))
def fbody (f : Fr) : List UInt8 := enc f.ep.toNat ++ enc f.seq.toNat ++ enc f.ack.toNat ++ (enc f.data.length ++ f.data)
def fbytes (f : Fr) : List UInt8 := seald (fbody f)
def fmay (f : Fr) : Nat := if ¬ frIn f then 1 else if f.seq = 0 ∧ f.data ≠ [] then 13 else 0
def fput (f : Fr) (mtu : Int) : List UInt8 × Nat :=
  if mtu < 64 ∨ 1400 < mtu then ([], 1) else if fmay f ≠ 0 then ([], fmay f) else if mtu < (fbytes f).length then ([], 3) else (fbytes f, 0)
def ftail (s : List UInt8) (n1 : Nat) (r1 : Rs) : Fr × Nat :=
  let q2 := rnum s 1125899906842624 r1
  let q3 := rnum s 1125899906842624 q2.2
  let q4 := rtext s 1400 q3.2
  let r4 : Rs := if q4.1 ≠ [] ∧ q2.1 = 0 then ⟨q4.2.at_, rfail q4.2.e 13⟩ else q4.2
  if rend s r4 ≠ 0 then (fr0, rend s r4) else (⟨n1, q2.1, q3.1, q4.1⟩, 0)
def fgetIn (s : List UInt8) : Fr × Nat :=
  let q1 := rnum s 1099511627776 ⟨0, 0⟩
  let r1 : Rs := if q1.1 = 0 then ⟨q1.2.at_, rfail q1.2.e 1⟩ else q1.2
  ftail s q1.1 r1
def fget (b : List UInt8) : Fr × Nat := match unseald b with
  | none => (fr0, 6)
  | some s => fgetIn s
theorem ftail_stop {s : List UInt8} {n1 : Nat} {r1 : Rs} (h : r1.e ≠ 0) : ftail s n1 r1 = (fr0, r1.e) := by
  have h2 := rnum_stop (s := s) (lim := 1125899906842624) h
  simp only [ftail, h2, rtext_stop h]
  simp [rend_stop h, h]
theorem ftail_eq {s : List UInt8} {n1 n2 n3 : Nat} {d : List UInt8} {r1 r2 r3 r4 : Rs} (h2 : rnum s 1125899906842624 r1 = (n2, r2)) (h3 : rnum s 1125899906842624 r2 = (n3, r3)) (h4 : rtext s 1400 r3 = (d, r4)) :
    ftail s n1 r1 = (let r5 : Rs := if d ≠ [] ∧ n2 = 0 then ⟨r4.at_, rfail r4.e 13⟩ else r4; if rend s r5 ≠ 0 then (fr0, rend s r5) else (⟨n1, n2, n3, d⟩, 0)) := by
  simp only [ftail, h2, h3, h4]
theorem fgetIn_eq {s : List UInt8} {n1 : Nat} {r1 : Rs} (h1 : rnum s 1099511627776 ⟨0, 0⟩ = (n1, r1)) : fgetIn s = ftail s n1 (if n1 = 0 then ⟨r1.at_, rfail r1.e 1⟩ else r1) := by
  simp only [fgetIn, h1]
end Go.Proofs.YtfjnacakpeommaaDoor.Pl
