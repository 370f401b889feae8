/- Plain: sender, receiver, link, log, feed, sequencer. -/
import Derived.Test.YtfjnacakpeommaaDoorPl8
import Derived.Test.YtfjnacakpeommaaDoorPl5
namespace Go.Proofs.YtfjnacakpeommaaDoor.Pl
set_option autoImplicit false
set_option linter.unusedVariables false

/-- Data that is sent: how much is acknowledged, what is not. -/
structure Sd where
  win : Nat
  last : Nat
  acked : Nat
  ps : List (List UInt8)
def clampN (n lo hi : Int) : Int := if n < lo then lo else if n > hi then hi else n
def sdNew (win last : Int) : Sd := ⟨(clampN win 1 16).toNat, (clampN last 0 1125899906842624).toNat, 0, []⟩
def sdOffer (s : Sd) (d : List UInt8) : Sd × Nat :=
  if s.win ≤ s.ps.length then (s, 7) else if s.last ≤ s.acked + s.ps.length then (s, 8) else (⟨s.win, s.last, s.acked, s.ps ++ [d]⟩, 0)
def sdGone (s : Sd) (n : Int) : Nat := if (s.acked + s.ps.length : Int) < n ∨ n ≤ s.acked then 0 else (n - s.acked).toNat
def sdAck (s : Sd) (n : Int) : Sd := ⟨s.win, s.last, s.acked + sdGone s n, s.ps.drop (sdGone s n)⟩
/-- Data that comes. -/
structure Rc where
  room : Nat
  acked : Nat
  q : List (List UInt8)
def rcNew (room : Int) : Rc := ⟨(clampN room 1 16).toNat, 0, []⟩
def rcHear (r : Rc) (seq : Int) (d : List UInt8) : Rc := if r.room ≤ r.q.length ∨ seq ≠ (r.acked : Int) + 1 then r else ⟨r.room, r.acked + 1, r.q ++ [d]⟩
def rcTakes (r : Rc) (seq : Int) : Bool := !decide (r.room ≤ r.q.length ∨ seq ≠ (r.acked : Int) + 1)
def rcPop (r : Rc) : Rc := ⟨r.room, r.acked, r.q.drop 1⟩
/-- One end of a road. -/
structure Lk where
  sd : Sd
  rc : Rc
  ep : Nat
  win : Int
  room : Int
  pas : Bool
def lkFresh (k : Lk) (ep : Int) : Lk := ⟨sdNew k.win 1125899906842624, rcNew k.room, (clampN ep 0 1099511627776).toNat, k.win, k.room, k.pas⟩
def lkNew (ep win room : Int) (pas : Bool) : Lk := ⟨sdNew win 1125899906842624, rcNew room, (clampN ep 0 1099511627776).toNat, win, room, pas⟩
def frames1 (ep ack : Nat) : Nat → List (List UInt8) → List Fr
  | _, [] => []
  | n, d :: l => ⟨ep, n, ack, d⟩ :: frames1 ep ack (n + 1) l
def lkFrames (k : Lk) : List Fr := if k.ep = 0 then [] else if k.sd.ps = [] then [⟨k.ep, 0, k.rc.acked, []⟩] else frames1 k.ep k.rc.acked (k.sd.acked + 1) k.sd.ps
def lkAnew (k : Lk) (f : Fr) : Bool := decide ((k.ep : Int) < f.ep) && k.pas
def lkHear (k : Lk) (f : Fr) : Lk :=
  if f.ep < k.ep ∨ ((k.ep : Int) < f.ep ∧ k.pas = false) then k
  else
    let k1 := if lkAnew k f then lkFresh k f.ep else k
    ⟨sdAck k1.sd f.ack, if f.seq = 0 then k1.rc else rcHear k1.rc f.seq f.data, k1.ep, k1.win, k1.room, k1.pas⟩
/-- The number of an origin's last round. -/
def lastOf : List Ro → Int → Nat
  | [], _ => 0
  | r :: l, o => if lastOf l o = 0 then (if r.origin = o then r.number.toNat else 0) else lastOf l o
def lgErr (clients : Nat) (l : List Ro) (r : Ro) : Nat :=
  if rmay r ≠ 0 then rmay r else if (clients : Int) < r.origin then 11 else if r.number ≤ lastOf l r.origin then 12 else if (lastOf l r.origin : Int) + 1 < r.number then 10 else 0
def lgAdd (clients : Nat) (l : List Ro) (r : Ro) : List Ro := if lgErr clients l r ≠ 0 then l else l ++ [r]
/-- A log that came of adding. -/
def lgOk (clients : Nat) (l : List Ro) : Prop := ∀ (i : Nat) r, l[i]? = some r → rmay r = 0 ∧ r.origin ≤ clients ∧ r.number = (lastOf (l.take i) r.origin : Int) + 1
theorem lastOf_snoc (l : List Ro) (r : Ro) (o : Int) (h : 1 ≤ r.number) : lastOf (l ++ [r]) o = if r.origin = o then r.number.toNat else lastOf l o := by
  induction l with
  | nil => simp [lastOf]
  | cons x l ih =>
    simp only [List.cons_append, lastOf, ih]
    by_cases ho : r.origin = o
    · have hz : r.number.toNat ≠ 0 := by omega
      simp [ho, hz]
    · simp [ho]
theorem lgErr_zero {clients : Nat} {l : List Ro} {r : Ro} (h : lgErr clients l r = 0) : rmay r = 0 ∧ r.origin ≤ clients ∧ r.number = (lastOf l r.origin : Int) + 1 := by
  unfold lgErr at h
  split at h
  · rename_i h1; exact absurd h h1
  · rename_i h1
    split at h
    · cases h
    · split at h
      · cases h
      · split at h
        · cases h
        · exact ⟨by omega, by omega, by omega⟩
theorem lgOk_nil (clients : Nat) : lgOk clients [] := fun i r h => by simp at h
theorem lgOk_add {clients : Nat} {l : List Ro} (h : lgOk clients l) (r : Ro) : lgOk clients (lgAdd clients l r) := by
  unfold lgAdd
  split
  · exact h
  · rename_i he
    have he : lgErr clients l r = 0 := by omega
    intro i x hx
    by_cases hi : i < l.length
    · rw [List.getElem?_append_left hi] at hx
      rw [List.take_append_of_le_length (by omega)]
      exact h i x hx
    · rw [List.getElem?_append_right (by omega)] at hx
      have hi0 : i - l.length = 0 := by
        rcases Nat.eq_zero_or_pos (i - l.length) with h | h
        · exact h
        · rw [List.getElem?_eq_none (by simp; omega)] at hx; cases hx
      rw [hi0] at hx
      have : r = x := by simpa using hx
      subst this
      have : i = l.length := by omega
      subst this
      rw [List.take_left]
      exact lgErr_zero he
/-- As many rounds as the link takes. -/
def pumpN (l : List Ro) : Nat → Nat → Sd → Nat × Sd
  | 0, i, s => (i, s)
  | n + 1, i, s => match l[i]? with
    | none => (i, s)
    | some r => if (sdOffer s (rput r).1).2 ≠ 0 then (i, s) else pumpN l n (i + 1) (sdOffer s (rput r).1).1
def pump (l : List Ro) (i : Nat) (s : Sd) : Nat × Sd := pumpN l (l.length - i) i s
structure Cfg where
  clients : Int
  window : Int
  push : Int
  pull : Int
  mtu : Int
  last : Int
def cfgOk (c : Cfg) : Prop := (1 ≤ c.clients ∧ c.clients ≤ 64) ∧ (1 ≤ c.window ∧ c.window ≤ 16) ∧ (1 ≤ c.push ∧ c.push ≤ 16) ∧ (1 ≤ c.pull ∧ c.pull ≤ 16) ∧ (64 ≤ c.mtu ∧ c.mtu ≤ 1400) ∧ (1 ≤ c.last ∧ c.last ≤ 1099511627776)
instance (c : Cfg) : Decidable (cfgOk c) := inferInstanceAs (Decidable (_ ∧ _))
structure Pk where
  src : Int
  dst : Int
  b : List UInt8
/-- The sequencer: the log, a link and a place in the log for each client. -/
structure Sqr where
  c : Cfg
  l : List Ro
  ks : List (Lk × Nat)
def sqNew (c : Cfg) : Sqr := ⟨c, [], List.replicate c.clients.toNat (lkNew 0 c.window c.window true, 0)⟩
def takeOne (c : Cfg) (src : Int) (l : List Ro) (d : List UInt8) : List Ro :=
  if (rget d).2 = 0 ∧ (rget d).1.origin = src ∧ rfits (rget d).1.ups c.mtu = true then lgAdd c.clients.toNat l (rget d).1 else l
def sqErr (s : Sqr) (src : Int) (b : List UInt8) : Nat :=
  if src < 1 ∨ s.c.clients < src then 11 else if (fget b).2 ≠ 0 then (fget b).2 else match s.ks[(src - 1).toNat]? with
    | none => 0
    | some k => if (fget b).1.ep < k.1.ep then 9 else 0
def sqHear (s : Sqr) (src : Int) (b : List UInt8) : Sqr :=
  if sqErr s src b ≠ 0 then s else match s.ks[(src - 1).toNat]? with
    | none => s
    | some k =>
      let k1 := lkHear k.1 (fget b).1
      let at_ := if lkAnew k.1 (fget b).1 then 0 else k.2
      ⟨s.c, k1.rc.q.foldl (takeOne s.c src) s.l, s.ks.set (src - 1).toNat (⟨k1.sd, ⟨k1.rc.room, k1.rc.acked, []⟩, k1.ep, k1.win, k1.room, k1.pas⟩, at_)⟩
def puts (fs : List Fr) (src dst mtu : Int) : List Pk := fs.filterMap fun f => if (fput f mtu).2 = 0 then some ⟨src, dst, (fput f mtu).1⟩ else none
def tick1 (s : Sqr) (k : Lk × Nat) : Lk × Nat := (⟨(pump s.l k.2 k.1.sd).2, k.1.rc, k.1.ep, k.1.win, k.1.room, k.1.pas⟩, (pump s.l k.2 k.1.sd).1)
def tickPks (s : Sqr) (i : Nat) (k : Lk × Nat) : List Pk := puts (lkFrames (tick1 s k).1) 0 (i + 1) s.c.mtu
def sqTick (s : Sqr) : Sqr := ⟨s.c, s.l, s.ks.map (tick1 s)⟩
def sqPks (s : Sqr) : List Pk := (s.ks.zipIdx.map fun x => tickPks s x.2 x.1).flatten
end Go.Proofs.YtfjnacakpeommaaDoor.Pl
