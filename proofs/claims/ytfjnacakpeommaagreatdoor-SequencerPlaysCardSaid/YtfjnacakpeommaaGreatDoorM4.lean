/- What the proof stands on, part 4: Pl5, Pl9, C16, C17, C18, C19, C20, C21. -/
import Derived.Test.YtfjnacakpeommaaGreatDoorM3
/- Plain: a frame that is put is got as it was, and the other way round. -/
namespace Go.Proofs.YtfjnacakpeommaaGreatDoor.Pl
set_option autoImplicit false
set_option linter.unusedVariables false

theorem seald_length (l : List UInt8) : (seald l).length = l.length + 4 := by simp [seald, le4]
theorem unseald_seald (l : List UInt8) : unseald (seald l) = some l := by
  have e : (seald l).take ((seald l).length - 4) = l := by
    rw [seald_length, Nat.add_sub_cancel]
    simp [seald]
  unfold unseald
  rw [e, if_pos ⟨by rw [seald_length]; omega, rfl⟩]
theorem seald_unseald {b s : List UInt8} (h : unseald b = some s) : seald s = b := by
  unfold unseald at h
  split at h
  · rename_i hc
    cases h
    exact hc.2
  · cases h
theorem drop_app {s a b : List UInt8} {k : Nat} (h : s.drop k = a ++ b) : s.drop (k + a.length) = b := by
  rw [← List.drop_drop, h]; simp
theorem rraw_enc {s r : List UInt8} {k n : Nat} (h : s.drop k = enc n ++ r) (hn : n < 4611686018427387904) : rraw s ⟨k, 0⟩ = (n, ⟨k + sz n, 0⟩) := by
  unfold rraw
  rw [if_neg (fun h => h rfl)]
  simp only [h, get_enc hn]
theorem rnum_enc {s r : List UInt8} {k n lim : Nat} (h : s.drop k = enc n ++ r) (hn : n < 4611686018427387904) (hl : n ≤ lim) : rnum s lim ⟨k, 0⟩ = (n, ⟨k + sz n, 0⟩) := by
  unfold rnum
  rw [rraw_enc h hn, if_neg (by show ¬ lim < n; omega)]
theorem rtext_enc {s d r : List UInt8} {k lim : Nat} (h : s.drop k = enc d.length ++ (d ++ r)) (hn : d.length < 4611686018427387904) (hl : d.length ≤ lim) :
    rtext s lim ⟨k, 0⟩ = (d, ⟨k + sz d.length + d.length, 0⟩) := by
  have h2 := drop_app h
  rw [enc_length] at h2
  have hlen : d.length ≤ s.length - (k + sz d.length) := by
    have := congrArg List.length h2
    simp at this; omega
  unfold rtext
  rw [rnum_enc h hn hl, if_neg (by show ¬ s.length - (k + sz d.length) < d.length; omega)]
  simp [h2]
theorem fget_fput {f : Fr} {mtu : Int} {b : List UInt8} (h : fput f mtu = (b, 0)) : fget b = (f, 0) ∧ b = fbytes f ∧ frIn f ∧ f.data.length ≤ 1400 ∧ (b.length : Int) ≤ mtu ∧ mtu ≤ 1400 := by
  unfold fput at h
  split at h
  · cases h
  rename_i hm
  split at h
  · rename_i hz
    injection h with _ h
    exact absurd h hz
  rename_i hz
  split at h
  · cases h
  rename_i hl
  injection h with h _
  subst h
  have hz : fmay f = 0 := by omega
  have hi : frIn f := by
    by_cases hi : frIn f
    · exact hi
    · unfold fmay at hz; rw [if_pos hi] at hz; cases hz
  have h13 : ¬ (f.seq = 0 ∧ f.data ≠ []) := by
    intro h
    unfold fmay at hz; rw [if_neg (fun h => h hi), if_pos h] at hz; cases hz
  obtain ⟨⟨h1, h2⟩, ⟨h3, h4⟩, h5, h6⟩ := id hi
  have hd : f.data.length ≤ 1400 := by
    have : f.data.length ≤ (fbytes f).length := by simp [fbytes, seald, fbody, le4]; omega
    omega
  refine ⟨?_, rfl, hi, hd, by omega, by omega⟩
  obtain ⟨a, ha⟩ := Int.eq_ofNat_of_zero_le (show 0 ≤ f.ep by omega)
  obtain ⟨b, hb⟩ := Int.eq_ofNat_of_zero_le h3
  obtain ⟨c, hc⟩ := Int.eq_ofNat_of_zero_le h5
  obtain ⟨ep, seq, ack, d⟩ := f
  have ha : ep = a := ha
  have hb : seq = b := hb
  have hc : ack = c := hc
  have hd : d.length ≤ 1400 := hd
  subst ha hb hc
  have h2 : (a : Int) ≤ 1099511627776 := h2
  have h1 : 1 ≤ (a : Int) := h1
  have h4 : (b : Int) ≤ 1125899906842624 := h4
  have h6 : (c : Int) ≤ 1125899906842624 := h6
  have h13 : ¬ ((b : Int) = 0 ∧ d ≠ []) := h13
  have eb : fbytes ⟨a, b, c, d⟩ = seald (enc a ++ (enc b ++ (enc c ++ (enc d.length ++ (d ++ []))))) := by simp [fbytes, fbody]
  unfold fget
  rw [eb, unseald_seald]
  generalize hs : enc a ++ (enc b ++ (enc c ++ (enc d.length ++ (d ++ [])))) = s
  have k1 : s.drop 0 = enc a ++ (enc b ++ (enc c ++ (enc d.length ++ (d ++ [])))) := hs.symm
  have k2 := drop_app k1
  have k3 := drop_app k2
  have k4 := drop_app k3
  have k5 := drop_app (a := enc d.length ++ d) (b := []) (k := 0 + (enc a).length + (enc b).length + (enc c).length) (by rw [k4]; simp)
  rw [enc_length] at k2 k3 k4 k5
  rw [enc_length] at k3 k4 k5
  rw [enc_length] at k4 k5
  have q1 := rnum_enc (lim := 1099511627776) k1 (by omega) (by omega)
  have q2 := rnum_enc (lim := 1125899906842624) k2 (by omega) (by omega)
  have q3 := rnum_enc (lim := 1125899906842624) k3 (by omega) (by omega)
  have q4 := rtext_enc (lim := 1400) k4 (by omega) hd
  have hend : s.length = 0 + sz a + sz b + sz c + sz d.length + d.length := by
    rw [← hs]; simp [enc_length]; omega
  show fgetIn s = _
  rw [fgetIn_eq q1, if_neg (by omega), ftail_eq q2 q3 q4]
  have : ¬ (d ≠ [] ∧ b = 0) := fun h => h13 ⟨by omega, h.1⟩
  simp only [if_neg this]
  have hr : rend s ⟨0 + sz a + sz b + sz c + sz d.length + d.length, 0⟩ = 0 := by
    unfold rend; rw [if_neg (by rw [hend]; exact Nat.lt_irrefl _)]
  rw [if_neg (by rw [hr]; exact fun h => h rfl)]
/-! The other way round -/
theorem rraw_inv {s : List UInt8} {r r' : Rs} {n : Nat} (h : rraw s r = (n, r')) (he : r'.e = 0) : r.e = 0 ∧ n < 4611686018427387904 ∧ r'.at_ = r.at_ + sz n ∧ s.drop r.at_ = enc n ++ s.drop r'.at_ := by
  unfold rraw at h
  split at h
  · rename_i h0
    injection h with _ h
    subst h
    exact absurd he h0
  · rename_i h0
    split at h
    · rename_i k hg
      injection h with _ h
      subst h
      have := get_err hg
      have he : k = 0 := he
      omega
    · rename_i m z hg
      injection h with h1 h2
      subst h1 h2
      obtain ⟨g1, g2, g3, g4, _⟩ := enc_get hg
      refine ⟨by omega, g1, by show r.at_ + z = _; omega, ?_⟩
      show _ = enc m ++ s.drop (r.at_ + z)
      rw [← g3, ← List.drop_drop, List.take_append_drop]
theorem rnum_inv {s : List UInt8} {r r' : Rs} {n lim : Nat} (h : rnum s lim r = (n, r')) (he : r'.e = 0) : r.e = 0 ∧ n < 4611686018427387904 ∧ n ≤ lim ∧ r'.at_ = r.at_ + sz n ∧ s.drop r.at_ = enc n ++ s.drop r'.at_ := by
  unfold rnum at h
  split at h
  · injection h with _ h
    subst h
    exact absurd he (rfail_ne (by decide))
  · rename_i hl
    obtain ⟨a, b, c, d⟩ := rraw_inv h he
    rw [h] at hl
    exact ⟨a, b, by show n ≤ lim; have : ¬ lim < n := hl; omega, c, d⟩
theorem rtext_inv {s d : List UInt8} {r r' : Rs} {lim : Nat} (hr : r.at_ ≤ s.length) (h : rtext s lim r = (d, r')) (he : r'.e = 0) :
    r.e = 0 ∧ d.length < 4611686018427387904 ∧ d.length ≤ lim ∧ s.drop r.at_ = enc d.length ++ (d ++ s.drop r'.at_) := by
  unfold rtext at h
  obtain ⟨n, q, hq⟩ : ∃ n q, rnum s lim r = (n, q) := ⟨_, _, rfl⟩
  have hle : q.at_ ≤ s.length := by have := rnum_le (lim := lim) hr; rw [hq] at this; exact this
  rw [hq] at h
  split at h
  · injection h with _ h
    subst h
    exact absurd he (rfail_ne (by decide))
  · rename_i hl
    have hl : ¬ s.length - q.at_ < n := hl
    injection h with h1 h2
    subst h1 h2
    obtain ⟨a, b, c, e, f⟩ := rnum_inv hq he
    have hlen : ((s.drop q.at_).take n).length = n := by simp; omega
    refine ⟨a, by rw [hlen]; exact b, by rw [hlen]; exact c, ?_⟩
    rw [hlen]
    show _ = enc n ++ ((s.drop q.at_).take n ++ s.drop (q.at_ + n))
    rw [f, ← List.drop_drop, List.take_append_drop]
theorem rend_inv {s : List UInt8} {r : Rs} (h : rend s r = 0) : r.e = 0 ∧ s.drop r.at_ = [] := by
  unfold rend at h
  split at h
  · exact absurd h (rfail_ne (by decide))
  · exact ⟨h, List.drop_of_length_le (by omega)⟩
/-- What is got is a frame that may be, and its bytes are those. -/
theorem fput_fget {b : List UInt8} {f : Fr} (h : fget b = (f, 0)) : fmay f = 0 ∧ fbytes f = b := by
  unfold fget at h
  split at h
  · injection h with _ h; cases h
  rename_i s hs
  obtain ⟨n1, q1, h1⟩ : ∃ n r, rnum s 1099511627776 ⟨0, 0⟩ = (n, r) := ⟨_, _, rfl⟩
  rw [fgetIn_eq h1] at h
  generalize hr1 : (if n1 = 0 then ⟨q1.at_, rfail q1.e 1⟩ else q1 : Rs) = r1 at h
  obtain ⟨n2, q2, h2⟩ : ∃ n r, rnum s 1125899906842624 r1 = (n, r) := ⟨_, _, rfl⟩
  obtain ⟨n3, q3, h3⟩ : ∃ n r, rnum s 1125899906842624 q2 = (n, r) := ⟨_, _, rfl⟩
  obtain ⟨d, q4, h4⟩ : ∃ n r, rtext s 1400 q3 = (n, r) := ⟨_, _, rfl⟩
  rw [ftail_eq h2 h3 h4] at h
  generalize hr5 : (if d ≠ [] ∧ n2 = 0 then ⟨q4.at_, rfail q4.e 13⟩ else q4 : Rs) = r5 at h
  simp only at h
  split at h
  · rename_i he
    injection h with _ h
    exact absurd h he
  rename_i he
  injection h with h _
  subst h
  have he : rend s r5 = 0 := by omega
  obtain ⟨e5, k5⟩ := rend_inv he
  have hdn : ¬ (d ≠ [] ∧ n2 = 0) := by
    intro hc
    rw [if_pos hc] at hr5
    rw [← hr5] at e5
    exact rfail_ne (by decide) e5
  rw [if_neg hdn] at hr5
  subst hr5
  have l1 : q1.at_ ≤ s.length := by have := rnum_le (lim := 1099511627776) (r := ⟨0, 0⟩) (Nat.zero_le s.length); rw [h1] at this; exact this
  have l1' : r1.at_ ≤ s.length := by rw [← hr1]; split <;> exact l1
  have l2 : q2.at_ ≤ s.length := by have := rnum_le (lim := 1125899906842624) l1'; rw [h2] at this; exact this
  have l3 : q3.at_ ≤ s.length := by have := rnum_le (lim := 1125899906842624) l2; rw [h3] at this; exact this
  obtain ⟨e4, _, m4, k4⟩ := rtext_inv l3 h4 e5
  obtain ⟨e3, _, m3, _, k3⟩ := rnum_inv h3 e4
  obtain ⟨e2, _, m2, _, k2⟩ := rnum_inv h2 e3
  have hn1 : n1 ≠ 0 := by
    intro hc
    rw [if_pos hc] at hr1
    rw [← hr1] at e2
    exact rfail_ne (by decide) e2
  rw [if_neg hn1] at hr1
  subst hr1
  obtain ⟨_, _, m1, _, k1⟩ := rnum_inv h1 e2
  have hi : frIn ⟨n1, n2, n3, d⟩ := ⟨⟨by show 1 ≤ (n1 : Int); omega, by show (n1 : Int) ≤ _; omega⟩, ⟨by show 0 ≤ (n2 : Int); omega, by show (n2 : Int) ≤ _; omega⟩, by show 0 ≤ (n3 : Int); omega, by show (n3 : Int) ≤ _; omega⟩
  refine ⟨?_, ?_⟩
  · unfold fmay
    rw [if_neg (fun h => h hi), if_neg]
    intro hc
    exact hdn ⟨hc.2, by have := hc.1; simpa using this⟩
  · rw [← seald_unseald hs]
    unfold fbytes
    congr 1
    have e : s = s.drop 0 := rfl
    rw [e, k1, k2, k3, k4, k5]
    simp [fbody]
theorem fput_err {f : Fr} {mtu : Int} (h : (fput f mtu).2 ≠ 0) : (fput f mtu).1 = [] := by
  unfold fput at *
  split
  · rfl
  · split
    · rfl
    · split
      · rfl
      · rename_i h1 h2 h3
        rw [if_neg h1, if_neg h2, if_neg h3] at h
        exact absurd rfl h
theorem ftail_err {s : List UInt8} {n1 : Nat} {r1 : Rs} (h : (ftail s n1 r1).2 ≠ 0) : (ftail s n1 r1).1 = fr0 := by
  revert h
  unfold ftail
  dsimp only
  generalize rend s _ = e
  intro h
  by_cases he : e = 0
  · rw [if_neg (fun h => h he)] at h
    exact absurd rfl h
  · rw [if_pos he]
theorem fget_err {b : List UInt8} (h : (fget b).2 ≠ 0) : (fget b).1 = fr0 := by
  unfold fget at *
  split
  · rfl
  · rename_i s hs
    rw [hs] at h
    exact ftail_err h
theorem fput_of_fget {b : List UInt8} {f : Fr} (h : fget b = (f, 0)) : fput f 1400 = if 1400 < b.length then ([], 3) else (b, 0) := by
  obtain ⟨h1, h2⟩ := fput_fget h
  unfold fput
  rw [if_neg (by omega), h1, if_neg (fun h => h rfl), h2]
  by_cases hl : 1400 < b.length
  · rw [if_pos hl, if_pos (by omega)]
  · rw [if_neg hl, if_neg (by omega)]
theorem fbytes_ge8 (f : Fr) (h : frIn f) : 8 ≤ (fbytes f).length := by
  obtain ⟨⟨h1, h2⟩, ⟨h3, h4⟩, h5, h6⟩ := h
  have k : ∀ n : Nat, n < 4611686018427387904 → 1 ≤ (enc n).length := fun n hn => by
    rw [enc_length]
    rcases Nat.eq_zero_or_pos (sz n) with h | h
    · have := sz_zero.1 h; omega
    · exact h
  have a1 := k f.ep.toNat (by omega)
  have a2 := k f.seq.toNat (by omega)
  have a3 := k f.ack.toNat (by omega)
  by_cases hd : f.data.length < 4611686018427387904
  · have a4 := k f.data.length hd
    simp [fbytes, seald, fbody, le4]; omega
  · simp [fbytes, seald, fbody, le4]; omega
end Go.Proofs.YtfjnacakpeommaaGreatDoor.Pl
/- Plain: sender, receiver, link, log, feed, sequencer. -/
namespace Go.Proofs.YtfjnacakpeommaaGreatDoor.Pl
set_option autoImplicit false
set_option linter.unusedVariables false

/-- Data that is sent: how much is acknowledged, what is not. -/
structure Sd where
  win : Nat
  last : Nat
  acked : Nat
  ps : List (List UInt8)
def clampN (n lo hi : Int) : Int := if n < lo then lo else if n > hi then hi else n
def sdNew (win last : Int) : Sd := ⟨(clampN win 1 16).toNat, (clampN last 0 1125899906842624).toNat, 0, []⟩
def sdOffer (s : Sd) (d : List UInt8) : Sd × Nat :=
  if s.win ≤ s.ps.length then (s, 7) else if s.last ≤ s.acked + s.ps.length then (s, 8) else (⟨s.win, s.last, s.acked, s.ps ++ [d]⟩, 0)
def sdGone (s : Sd) (n : Int) : Nat := if (s.acked + s.ps.length : Int) < n ∨ n ≤ s.acked then 0 else (n - s.acked).toNat
def sdAck (s : Sd) (n : Int) : Sd := ⟨s.win, s.last, s.acked + sdGone s n, s.ps.drop (sdGone s n)⟩
/-- Data that comes. -/
structure Rc where
  room : Nat
  acked : Nat
  q : List (List UInt8)
def rcNew (room : Int) : Rc := ⟨(clampN room 1 16).toNat, 0, []⟩
def rcHear (r : Rc) (seq : Int) (d : List UInt8) : Rc := if r.room ≤ r.q.length ∨ seq ≠ (r.acked : Int) + 1 then r else ⟨r.room, r.acked + 1, r.q ++ [d]⟩
def rcTakes (r : Rc) (seq : Int) : Bool := !decide (r.room ≤ r.q.length ∨ seq ≠ (r.acked : Int) + 1)
def rcPop (r : Rc) : Rc := ⟨r.room, r.acked, r.q.drop 1⟩
/-- One end of a road. -/
structure Lk where
  sd : Sd
  rc : Rc
  ep : Nat
  win : Int
  room : Int
  pas : Bool
def lkFresh (k : Lk) (ep : Int) : Lk := ⟨sdNew k.win 1125899906842624, rcNew k.room, (clampN ep 0 1099511627776).toNat, k.win, k.room, k.pas⟩
def lkNew (ep win room : Int) (pas : Bool) : Lk := ⟨sdNew win 1125899906842624, rcNew room, (clampN ep 0 1099511627776).toNat, win, room, pas⟩
def frames1 (ep ack : Nat) : Nat → List (List UInt8) → List Fr
  | _, [] => []
  | n, d :: l => ⟨ep, n, ack, d⟩ :: frames1 ep ack (n + 1) l
def lkFrames (k : Lk) : List Fr := if k.ep = 0 then [] else if k.sd.ps = [] then [⟨k.ep, 0, k.rc.acked, []⟩] else frames1 k.ep k.rc.acked (k.sd.acked + 1) k.sd.ps
def lkAnew (k : Lk) (f : Fr) : Bool := decide ((k.ep : Int) < f.ep) && k.pas
def lkHear (k : Lk) (f : Fr) : Lk :=
  if f.ep < k.ep ∨ ((k.ep : Int) < f.ep ∧ k.pas = false) then k
  else
    let k1 := if lkAnew k f then lkFresh k f.ep else k
    ⟨sdAck k1.sd f.ack, if f.seq = 0 then k1.rc else rcHear k1.rc f.seq f.data, k1.ep, k1.win, k1.room, k1.pas⟩
/-- The number of an origin's last round. -/
def lastOf : List Ro → Int → Nat
  | [], _ => 0
  | r :: l, o => if lastOf l o = 0 then (if r.origin = o then r.number.toNat else 0) else lastOf l o
def lgErr (clients : Nat) (l : List Ro) (r : Ro) : Nat :=
  if rmay r ≠ 0 then rmay r else if (clients : Int) < r.origin then 11 else if r.number ≤ lastOf l r.origin then 12 else if (lastOf l r.origin : Int) + 1 < r.number then 10 else 0
def lgAdd (clients : Nat) (l : List Ro) (r : Ro) : List Ro := if lgErr clients l r ≠ 0 then l else l ++ [r]
/-- A log that came of adding. -/
def lgOk (clients : Nat) (l : List Ro) : Prop := ∀ (i : Nat) r, l[i]? = some r → rmay r = 0 ∧ r.origin ≤ clients ∧ r.number = (lastOf (l.take i) r.origin : Int) + 1
theorem lastOf_snoc (l : List Ro) (r : Ro) (o : Int) (h : 1 ≤ r.number) : lastOf (l ++ [r]) o = if r.origin = o then r.number.toNat else lastOf l o := by
  induction l with
  | nil => simp [lastOf]
  | cons x l ih =>
    simp only [List.cons_append, lastOf, ih]
    by_cases ho : r.origin = o
    · have hz : r.number.toNat ≠ 0 := by omega
      simp [ho, hz]
    · simp [ho]
theorem lgErr_zero {clients : Nat} {l : List Ro} {r : Ro} (h : lgErr clients l r = 0) : rmay r = 0 ∧ r.origin ≤ clients ∧ r.number = (lastOf l r.origin : Int) + 1 := by
  unfold lgErr at h
  split at h
  · rename_i h1; exact absurd h h1
  · rename_i h1
    split at h
    · cases h
    · split at h
      · cases h
      · split at h
        · cases h
        · exact ⟨by omega, by omega, by omega⟩
theorem lgOk_nil (clients : Nat) : lgOk clients [] := fun i r h => by simp at h
theorem lgOk_add {clients : Nat} {l : List Ro} (h : lgOk clients l) (r : Ro) : lgOk clients (lgAdd clients l r) := by
  unfold lgAdd
  split
  · exact h
  · rename_i he
    have he : lgErr clients l r = 0 := by omega
    intro i x hx
    by_cases hi : i < l.length
    · rw [List.getElem?_append_left hi] at hx
      rw [List.take_append_of_le_length (by omega)]
      exact h i x hx
    · rw [List.getElem?_append_right (by omega)] at hx
      have hi0 : i - l.length = 0 := by
        rcases Nat.eq_zero_or_pos (i - l.length) with h | h
        · exact h
        · rw [List.getElem?_eq_none (by simp; omega)] at hx; cases hx
      rw [hi0] at hx
      have : r = x := by simpa using hx
      subst this
      have : i = l.length := by omega
      subst this
      rw [List.take_left]
      exact lgErr_zero he
/-- As many rounds as the link takes. -/
def pumpN (l : List Ro) : Nat → Nat → Sd → Nat × Sd
  | 0, i, s => (i, s)
  | n + 1, i, s => match l[i]? with
    | none => (i, s)
    | some r => if (sdOffer s (rput r).1).2 ≠ 0 then (i, s) else pumpN l n (i + 1) (sdOffer s (rput r).1).1
def pump (l : List Ro) (i : Nat) (s : Sd) : Nat × Sd := pumpN l (l.length - i) i s
structure Cfg where
  clients : Int
  window : Int
  push : Int
  pull : Int
  mtu : Int
  last : Int
def cfgOk (c : Cfg) : Prop := (1 ≤ c.clients ∧ c.clients ≤ 64) ∧ (1 ≤ c.window ∧ c.window ≤ 16) ∧ (1 ≤ c.push ∧ c.push ≤ 16) ∧ (1 ≤ c.pull ∧ c.pull ≤ 16) ∧ (64 ≤ c.mtu ∧ c.mtu ≤ 1400) ∧ (1 ≤ c.last ∧ c.last ≤ 1099511627776)
instance (c : Cfg) : Decidable (cfgOk c) := inferInstanceAs (Decidable (_ ∧ _))
structure Pk where
  src : Int
  dst : Int
  b : List UInt8
/-- The sequencer: the log, a link and a place in the log for each client. -/
structure Sqr where
  c : Cfg
  l : List Ro
  ks : List (Lk × Nat)
def sqNew (c : Cfg) : Sqr := ⟨c, [], List.replicate c.clients.toNat (lkNew 0 c.window c.window true, 0)⟩
def takeOne (c : Cfg) (src : Int) (l : List Ro) (d : List UInt8) : List Ro :=
  if (rget d).2 = 0 ∧ (rget d).1.origin = src ∧ rfits (rget d).1.ups c.mtu = true then lgAdd c.clients.toNat l (rget d).1 else l
def sqErr (s : Sqr) (src : Int) (b : List UInt8) : Nat :=
  if src < 1 ∨ s.c.clients < src then 11 else if (fget b).2 ≠ 0 then (fget b).2 else match s.ks[(src - 1).toNat]? with
    | none => 0
    | some k => if (fget b).1.ep < k.1.ep then 9 else 0
def sqHear (s : Sqr) (src : Int) (b : List UInt8) : Sqr :=
  if sqErr s src b ≠ 0 then s else match s.ks[(src - 1).toNat]? with
    | none => s
    | some k =>
      let k1 := lkHear k.1 (fget b).1
      let at_ := if lkAnew k.1 (fget b).1 then 0 else k.2
      ⟨s.c, k1.rc.q.foldl (takeOne s.c src) s.l, s.ks.set (src - 1).toNat (⟨k1.sd, ⟨k1.rc.room, k1.rc.acked, []⟩, k1.ep, k1.win, k1.room, k1.pas⟩, at_)⟩
def puts (fs : List Fr) (src dst mtu : Int) : List Pk := fs.filterMap fun f => if (fput f mtu).2 = 0 then some ⟨src, dst, (fput f mtu).1⟩ else none
def tick1 (s : Sqr) (k : Lk × Nat) : Lk × Nat := (⟨(pump s.l k.2 k.1.sd).2, k.1.rc, k.1.ep, k.1.win, k.1.room, k.1.pas⟩, (pump s.l k.2 k.1.sd).1)
def tickPks (s : Sqr) (i : Nat) (k : Lk × Nat) : List Pk := puts (lkFrames (tick1 s k).1) 0 (i + 1) s.c.mtu
def sqTick (s : Sqr) : Sqr := ⟨s.c, s.l, s.ks.map (tick1 s)⟩
def sqPks (s : Sqr) : List Pk := (s.ks.zipIdx.map fun x => tickPks s x.2 x.1).flatten
end Go.Proofs.YtfjnacakpeommaaGreatDoor.Pl
/- Contracts: package sender. -/
namespace Go.Proofs.YtfjnacakpeommaaGreatDoor
open Go SL Pl
set_option autoImplicit false
set_option maxRecDepth 100000
set_option linter.unusedSimpArgs false
set_option linter.unusedVariables false
attribute [local irreducible] St Sq Exec QExec wpList wpQuiet Code.wp Exit.then Exit.inBlock bodyPost At Rd wpOp Wa QK GB
/-- Pieces, by their numbers. -/
def seqs : Nat → List (List UInt8) → List (Nat × List UInt8)
  | _, [] => []
  | n, d :: l => (n, d) :: seqs (n + 1) l
theorem seqs_length : ∀ (l : List (List UInt8)) (n : Nat), (seqs n l).length = l.length
  | [], _ => rfl
  | _ :: l, n => by rw [seqs, List.length_cons, seqs_length l, List.length_cons]
theorem seqs_get : ∀ (l : List (List UInt8)) (n i : Nat), (seqs n l)[i]? = (l[i]?).map fun d => (n + i, d)
  | [], _, _ => by simp [seqs]
  | d :: l, n, 0 => by simp [seqs]
  | d :: l, n, i + 1 => by
    rw [seqs, List.getElem?_cons_succ, seqs_get l, List.getElem?_cons_succ]
    have : n + 1 + i = n + (i + 1) := by omega
    rw [this]
theorem seqs_drop : ∀ (g : Nat) (l : List (List UInt8)) (n : Nat), (seqs n l).drop g = seqs (n + g) (l.drop g)
  | 0, _, _ => rfl
  | g + 1, [], n => by simp [seqs]
  | g + 1, d :: l, n => by
    rw [seqs, List.drop_succ_cons, seqs_drop g l, List.drop_succ_cons]
    congr 1
    omega
theorem seqs_snoc : ∀ (l : List (List UInt8)) (n : Nat) (d : List UInt8), seqs n (l ++ [d]) = seqs n l ++ [(n + l.length, d)]
  | [], _, _ => rfl
  | x :: l, n, d => by
    rw [List.cons_append, seqs, seqs_snoc l, seqs, List.cons_append, List.length_cons]
    have : n + 1 + l.length = n + (l.length + 1) := by omega
    rw [this]
abbrev pv (p : Nat × List UInt8) : List Value := [nat .i64 p.1, str p.2]
theorem pv_len (p : Nat × List UInt8) : (pv p).length = 2 := rfl
def sdL (b : Nat) (s : Sd) (v : Value) : List HP :=
  [cel false b 174 [nat .i64 s.win, nat .i64 s.last, nat .i64 (s.acked + s.ps.length), v], Sl 155 2 v s.ps.length ((seqs (s.acked + 1) s.ps).flatMap pv)]
def SdP (b : Nat) (s : Sd) : HP := ex fun v => big (sdL b s v)
theorem clamp_val {w lo hi : Int} (h : lo ≤ hi) : (if hi < (if lo > w then lo else w) then hi else (if lo > w then lo else w)) = clampN w lo hi := by
  unfold clampN; (repeat' split) <;> omega
theorem clamp_nat {w lo hi : Int} (h0 : 0 ≤ lo) (h : lo ≤ hi) : clampN w lo hi = ((clampN w lo hi).toNat : Int) := by
  unfold clampN; (repeat' split) <;> omega
theorem sdNew_sp (w l : Int) : Sp Tryz.prog 99 [.int .i64 w, .int .i64 l] [] (fun v M => ∃ b, v = .pointer (some ⟨b, 0, none⟩) ∧ M = [SdP b (sdNew w l)]) := by
  refine Sp.intro (P := Tryz.prog) (Tryz.func99) rfl Tryz.ntmps99 (by decide) rfl ?_
  intro ρ F
  repeat' (first | (refine St_step ?_; (try with_reducible intro _)) | (refine St_step2 ?_ ?_ <;> (intro hb; (try simp only [beq_iff_eq, bne_iff_ne, decide_eq_true_eq, decide_eq_false_iff_not, Bool.not_eq_true', Bool.not_eq_false', beq_eq_false_iff_ne, bne_eq_false_iff_eq, ne_eq, Int.not_lt, Int.not_le, gt_iff_lt, ge_iff_le] at hb); (try (first | exact Bool.noConfusion hb | exact absurd trivial hb | (exfalso; omega))))) | fail)
  rename_i b
  refine St_slNil (E := 155) (sz := 2) ?_
  refine St_cel (r := false) (b := b) (cs' := [nat .i64 (sdNew w l).win, nat .i64 (sdNew w l).last, nat .i64 ((sdNew w l).acked + (sdNew w l).ps.length), .slice none 0 0]) (by exact Has.auto) ?_ ?_
  · unfold sdNew
    dsimp only
    rw [clamp_val (by decide), clamp_val (by decide)]
    have e1 := clamp_nat (w := w) (lo := 1) (hi := 16) (by decide) (by decide)
    have e2 := clamp_nat (w := l) (lo := 0) (hi := 1125899906842624) (by decide) (by decide)
    rw [e1, e2]
    rfl
  refine St_exMk (l := sdL b (sdNew w l)) (.slice none 0 0) (by exact Split.auto) ?_
  exact St_ret1 (.inl rfl) rfl rfl ⟨_, rfl, rfl⟩ (by exact Split.auto)
theorem sdUn_sp (b : Nat) (s : Sd) : Sp Tryz.prog 94 [.pointer (some ⟨b, 0, none⟩)] [SdP b s] (fun v M => v = nat .i64 s.ps.length ∧ M = [SdP b s]) := by
  refine Sp.intro (P := Tryz.prog) (Tryz.func94) rfl Tryz.ntmps94 (by decide) rfl ?_
  intro ρ F
  refine St_exOpen (l := sdL b s) (by exact Has.auto) fun v => ?_
  refine St_slIs (v := v) (by exact Has.auto) ?_
  rintro A c rfl
  repeat' (first | (refine St_step ?_; (try with_reducible intro _)) | (refine St_step2 ?_ ?_ <;> (intro hb; (try simp only [beq_iff_eq, bne_iff_ne, decide_eq_true_eq, decide_eq_false_iff_not, Bool.not_eq_true', Bool.not_eq_false', beq_eq_false_iff_ne, bne_eq_false_iff_eq, ne_eq, Int.not_lt, Int.not_le, gt_iff_lt, ge_iff_le] at hb); (try (first | exact Bool.noConfusion hb | exact absurd trivial hb | (exfalso; omega))))) | fail)
  refine St_exMk (l := sdL b s) (.slice A s.ps.length c) (by exact Split.auto) ?_
  exact St_ret1 (.inl rfl) rfl rfl ⟨rfl, rfl⟩ (by exact Split.auto)
theorem sdOffer_sp (b : Nat) (s : Sd) (dt : List UInt8) (h1 : s.ps.length ≤ s.win) (h2 : s.win ≤ 16) (h3 : s.acked ≤ 1000000000000000000) (h4 : s.last ≤ 1125899906842624) (h5 : s.acked + s.ps.length ≤ s.last) :
    Sp Tryz.prog 115 [.pointer (some ⟨b, 0, none⟩), str dt] [SdP b s]
      (fun v M => v = .tuple [nat .i64 (if (sdOffer s dt).2 = 0 then s.acked + s.ps.length + 1 else 0), nat .i64 (sdOffer s dt).2].toArray ∧ M = [SdP b (sdOffer s dt).1]) := by
  refine Sp.intro (P := Tryz.prog) (Tryz.func115) rfl Tryz.ntmps115 (by decide) rfl ?_
  intro ρ F
  refine St_exOpen (l := sdL b s) (by exact Has.auto) fun v => ?_
  refine St_slIs (v := v) (by exact Has.auto) ?_
  rintro A c rfl
  by_cases hw : s.win ≤ s.ps.length
  · have e : sdOffer s dt = (s, 7) := if_pos hw
    rw [e]
    repeat' (first | (apply St_regionQ; kernel_rfl; kernel_rfl) | (refine St_step ?_; (try with_reducible intro _)) | (refine St_step2 ?_ ?_ <;> (intro hb; (try simp only [beq_iff_eq, bne_iff_ne, decide_eq_true_eq, decide_eq_false_iff_not, Bool.not_eq_true', Bool.not_eq_false', beq_eq_false_iff_ne, bne_eq_false_iff_eq, ne_eq, Int.not_lt, Int.not_le, gt_iff_lt, ge_iff_le] at hb); (try (first | exact Bool.noConfusion hb | exact absurd trivial hb | (exfalso; omega))))) | fail)
    all_goals first | (exfalso; omega) | skip
    refine St_exMk (l := sdL b s) (.slice A s.ps.length c) (by exact Split.auto) ?_
    exact St_ret2 (.inl rfl) rfl rfl rfl ⟨rfl, rfl⟩ (by exact Split.auto)
  by_cases hl : s.last ≤ s.acked + s.ps.length
  · have e : sdOffer s dt = (s, 8) := by unfold sdOffer; rw [if_neg hw, if_pos hl]
    rw [e]
    repeat' (first | (apply St_regionQ; kernel_rfl; kernel_rfl) | (refine St_step ?_; (try with_reducible intro _)) | (refine St_step2 ?_ ?_ <;> (intro hb; (try simp only [beq_iff_eq, bne_iff_ne, decide_eq_true_eq, decide_eq_false_iff_not, Bool.not_eq_true', Bool.not_eq_false', beq_eq_false_iff_ne, bne_eq_false_iff_eq, ne_eq, Int.not_lt, Int.not_le, gt_iff_lt, ge_iff_le] at hb); (try (first | exact Bool.noConfusion hb | exact absurd trivial hb | (exfalso; omega))))) | fail)
    all_goals first | (exfalso; omega) | skip
    refine St_exMk (l := sdL b s) (.slice A s.ps.length c) (by exact Split.auto) ?_
    exact St_ret2 (.inl rfl) rfl rfl rfl ⟨rfl, rfl⟩ (by exact Split.auto)
  have e : sdOffer s dt = (⟨s.win, s.last, s.acked, s.ps ++ [dt]⟩, 0) := by unfold sdOffer; rw [if_neg hw, if_neg hl]
  rw [e]
  have hcat : (seqs (s.acked + 1) (s.ps ++ [dt])).flatMap pv = (seqs (s.acked + 1) s.ps).flatMap pv ++ [nat .i64 (s.acked + 1 + s.ps.length), str dt] := by
    rw [seqs_snoc, List.flatMap_append]; rfl
  have hcast : ((s.acked + s.ps.length : Nat) : Int) + 1 = ((s.acked + (s.ps ++ [dt]).length : Nat) : Int) := by simp; omega
  have hcast2 : ((s.acked + s.ps.length : Nat) : Int) + 1 = ((s.acked + 1 + s.ps.length : Nat) : Int) := by omega
  -- the room of the slice
  refine St_slRoom (by exact Has.auto) fun hcap => ?_
  refine St_slCap (c' := s.ps.length) (by exact Has.auto) (Nat.le_refl _) hcap ?_
  repeat' (first | (apply St_regionA (18) ([cel false b 174 [nat .i64 s.win, nat .i64 s.last, .int .i64 (((s.acked + s.ps.length : Nat) : Int) + 1), .slice A s.ps.length c]]); kernel_rfl; (apply Sa_take 0; exact rfl; kernel_rfl; exact PanicOk.auto; exact rfl; (first | (apply Rd_sliceTo3 tb; exact rfl; exact rfl; exact rfl; exact rfl; exact rfl; omega) | exact Rd_auto)); (apply Sa_take 1; exact rfl; kernel_rfl; exact PanicOk.auto; exact rfl; (first | (apply Rd_sliceTo3 tb; exact rfl; exact rfl; exact rfl; exact rfl; exact rfl; omega) | exact Rd_auto)); (apply Sa_take 2; exact rfl; kernel_rfl; exact PanicOk.auto; exact rfl; (first | (apply Rd_sliceTo3 tb; exact rfl; exact rfl; exact rfl; exact rfl; exact rfl; omega) | exact Rd_auto)); (apply Sa_take 3; exact rfl; kernel_rfl; exact PanicOk.auto; exact rfl; (first | (apply Rd_sliceTo3 tb; exact rfl; exact rfl; exact rfl; exact rfl; exact rfl; omega) | exact Rd_auto)); (apply Sa_take 4; exact rfl; kernel_rfl; exact PanicOk.auto; exact rfl; (first | (apply Rd_sliceTo3 tb; exact rfl; exact rfl; exact rfl; exact rfl; exact rfl; omega) | exact Rd_auto)); (apply Sa_take 5; exact rfl; kernel_rfl; exact PanicOk.auto; exact rfl; (first | (apply Rd_sliceTo3 tb; exact rfl; exact rfl; exact rfl; exact rfl; exact rfl; omega) | exact Rd_auto)); (apply Sa_take 6; exact rfl; kernel_rfl; exact PanicOk.auto; exact rfl; (first | (apply Rd_sliceTo3 tb; exact rfl; exact rfl; exact rfl; exact rfl; exact rfl; omega) | exact Rd_auto)); (apply Sa_take 7; exact rfl; kernel_rfl; exact PanicOk.auto; exact rfl; (first | (apply Rd_sliceTo3 tb; exact rfl; exact rfl; exact rfl; exact rfl; exact rfl; omega) | exact Rd_auto)); (apply Sa_take 8; exact rfl; kernel_rfl; exact PanicOk.auto; exact rfl; (first | (apply Rd_sliceTo3 tb; exact rfl; exact rfl; exact rfl; exact rfl; exact rfl; omega) | exact Rd_auto)); (apply Sa_take 9; exact rfl; kernel_rfl; exact PanicOk.auto; exact rfl; (first | (apply Rd_sliceTo3 tb; exact rfl; exact rfl; exact rfl; exact rfl; exact rfl; omega) | exact Rd_auto)); (apply Sa_take 10; exact rfl; kernel_rfl; exact PanicOk.auto; exact rfl; (first | (apply Rd_sliceTo3 tb; exact rfl; exact rfl; exact rfl; exact rfl; exact rfl; omega) | exact Rd_auto)); (apply Sa_take 11; exact rfl; kernel_rfl; exact PanicOk.auto; exact rfl; (first | (apply Rd_sliceTo3 tb; exact rfl; exact rfl; exact rfl; exact rfl; exact rfl; omega) | exact Rd_auto)); (apply Sa_take 12; exact rfl; kernel_rfl; exact PanicOk.auto; exact rfl; (first | (apply Rd_sliceTo3 tb; exact rfl; exact rfl; exact rfl; exact rfl; exact rfl; omega) | exact Rd_auto)); (apply Sa_take 13; exact rfl; kernel_rfl; exact PanicOk.auto; exact rfl; (first | (apply Rd_sliceTo3 tb; exact rfl; exact rfl; exact rfl; exact rfl; exact rfl; omega) | exact Rd_auto)); (apply Sa_one (i := 14); kernel_rfl; exact .inr (by exact Split.auto)); (apply Sa_op; exact rfl; exact rfl); (first | (apply St_append tb (sz := 2) (n := s.ps.length); (repeat exact rfl); exact Has.auto; (intro _; exact Src.row (n := 1) (by exact Has.auto) (by simp) (by exact rfl)); exact rfl; (dsimp only; omega); intro v'; refine St_slIs (by exact Has.auto) ?_; rintro A' c' rfl) | (apply St_rd; exact rfl; (first | (apply Rd_sliceTo3 tb; exact rfl; exact rfl; exact rfl; exact rfl; exact rfl; omega))) | (apply Sq_rd; exact rfl; (first | (apply Rd_sliceTo3 tb; exact rfl; exact rfl; exact rfl; exact rfl; exact rfl; omega))) | (refine St_step ?_; (try with_reducible intro _)) | (refine St_step2 ?_ ?_ <;> (intro hb; (try simp only [beq_iff_eq, bne_iff_ne, decide_eq_true_eq, decide_eq_false_iff_not, Bool.not_eq_true', Bool.not_eq_false', beq_eq_false_iff_ne, bne_eq_false_iff_eq, ne_eq, Int.not_lt, Int.not_le, gt_iff_lt, ge_iff_le] at hb); (try (first | exact Bool.noConfusion hb | exact absurd trivial hb | (exfalso; omega))))) | fail); (apply Sa_one (i := 15); kernel_rfl; exact .inr (by exact Split.auto)); (apply Sa_op; exact rfl; exact rfl); (first | (apply St_append tb (sz := 2) (n := s.ps.length); (repeat exact rfl); exact Has.auto; (intro _; exact Src.row (n := 1) (by exact Has.auto) (by simp) (by exact rfl)); exact rfl; (dsimp only; omega); intro v'; refine St_slIs (by exact Has.auto) ?_; rintro A' c' rfl) | (apply St_rd; exact rfl; (first | (apply Rd_sliceTo3 tb; exact rfl; exact rfl; exact rfl; exact rfl; exact rfl; omega))) | (apply Sq_rd; exact rfl; (first | (apply Rd_sliceTo3 tb; exact rfl; exact rfl; exact rfl; exact rfl; exact rfl; omega))) | (refine St_step ?_; (try with_reducible intro _)) | (refine St_step2 ?_ ?_ <;> (intro hb; (try simp only [beq_iff_eq, bne_iff_ne, decide_eq_true_eq, decide_eq_false_iff_not, Bool.not_eq_true', Bool.not_eq_false', beq_eq_false_iff_ne, bne_eq_false_iff_eq, ne_eq, Int.not_lt, Int.not_le, gt_iff_lt, ge_iff_le] at hb); (try (first | exact Bool.noConfusion hb | exact absurd trivial hb | (exfalso; omega))))) | fail); (apply Sa_take 16; exact rfl; kernel_rfl; exact PanicOk.auto; exact rfl; (first | (apply Rd_sliceTo3 tb; exact rfl; exact rfl; exact rfl; exact rfl; exact rfl; omega) | exact Rd_auto)); (apply Sa_take 17; exact rfl; kernel_rfl; exact PanicOk.auto; exact rfl; (first | (apply Rd_sliceTo3 tb; exact rfl; exact rfl; exact rfl; exact rfl; exact rfl; omega) | exact Rd_auto)); (apply Sa_one (i := 18); kernel_rfl; exact .inr (by exact Split.auto)); (apply Sa_op; exact rfl; exact rfl); (first | (apply St_append tb (sz := 2) (n := s.ps.length); (repeat exact rfl); exact Has.auto; (intro _; exact Src.row (n := 1) (by exact Has.auto) (by simp) (by exact rfl)); exact rfl; (dsimp only; omega); intro v'; refine St_slIs (by exact Has.auto) ?_; rintro A' c' rfl) | (apply St_rd; exact rfl; (first | (apply Rd_sliceTo3 tb; exact rfl; exact rfl; exact rfl; exact rfl; exact rfl; omega))) | (apply Sq_rd; exact rfl; (first | (apply Rd_sliceTo3 tb; exact rfl; exact rfl; exact rfl; exact rfl; exact rfl; omega))) | (refine St_step ?_; (try with_reducible intro _)) | (refine St_step2 ?_ ?_ <;> (intro hb; (try simp only [beq_iff_eq, bne_iff_ne, decide_eq_true_eq, decide_eq_false_iff_not, Bool.not_eq_true', Bool.not_eq_false', beq_eq_false_iff_ne, bne_eq_false_iff_eq, ne_eq, Int.not_lt, Int.not_le, gt_iff_lt, ge_iff_le] at hb); (try (first | exact Bool.noConfusion hb | exact absurd trivial hb | (exfalso; omega))))) | fail); (apply Sa_done (R := []); kernel_rfl; refine .inl ?_; kernel_rfl)) | (apply St_regionQ; kernel_rfl; kernel_rfl) | (refine St_step ?_; (try with_reducible intro _)) | (refine St_step2 ?_ ?_ <;> (intro hb; (try simp only [beq_iff_eq, bne_iff_ne, decide_eq_true_eq, decide_eq_false_iff_not, Bool.not_eq_true', Bool.not_eq_false', beq_eq_false_iff_ne, bne_eq_false_iff_eq, ne_eq, Int.not_lt, Int.not_le, gt_iff_lt, ge_iff_le] at hb); (try (first | exact Bool.noConfusion hb | exact absurd trivial hb | (exfalso; omega))))) | fail)
  refine St_slEq (cs' := (seqs (s.acked + 1) (s.ps ++ [dt])).flatMap pv) (n' := (s.ps ++ [dt]).length) (by exact Has.auto) (by rw [hcat, hcast2]; rfl) (by simp) ?_
  refine St_cel (r := false) (b := b) (cs' := [nat .i64 s.win, nat .i64 s.last, nat .i64 (s.acked + (s.ps ++ [dt]).length), .slice A' (s.ps.length + 1) c']) (by exact Has.auto) (by rw [hcast]) ?_
  refine St_exMk (l := sdL b ⟨s.win, s.last, s.acked, s.ps ++ [dt]⟩) (.slice A' (s.ps.length + 1) c') (by exact Split.auto) ?_
  exact St_ret2 (.inl rfl) rfl rfl rfl ⟨rfl, rfl⟩ (by exact Split.auto)
theorem sdPieces_sp (b : Nat) (s : Sd) (h2 : s.ps.length ≤ 1000000) :
    Sp Tryz.prog 89 [.pointer (some ⟨b, 0, none⟩)] [SdP b s]
      (fun v M => ∃ A c, v = .slice A s.ps.length c ∧ M = [RS true v s.ps.length ((seqs (s.acked + 1) s.ps).flatMap pv), SdP b s]) := by
  refine Sp.intro (P := Tryz.prog) (Tryz.func89) rfl Tryz.ntmps89 (by decide) rfl ?_
  intro ρ F
  refine St_exOpen (l := sdL b s) (by exact Has.auto) fun v => ?_
  refine St_slIs (v := v) (by exact Has.auto) ?_
  rintro A c rfl
  have hok : ((seqs (s.acked + 1) s.ps).flatMap pv).all Value.oneCell' = true := by
    clear h2
    generalize s.acked + 1 = n
    induction s.ps generalizing n with
    | nil => rfl
    | cons u l ih => rw [seqs, List.flatMap_cons, List.all_append, ih]; rfl
  have hfl := flat_len pv_len (seqs (s.acked + 1) s.ps)
  rw [seqs_length] at hfl
  repeat' (first | (refine St_step ?_; (try with_reducible intro _)) | (refine St_step2 ?_ ?_ <;> (intro hb; (try simp only [beq_iff_eq, bne_iff_ne, decide_eq_true_eq, decide_eq_false_iff_not, Bool.not_eq_true', Bool.not_eq_false', beq_eq_false_iff_ne, bne_eq_false_iff_eq, ne_eq, Int.not_lt, Int.not_le, gt_iff_lt, ge_iff_le] at hb); (try (first | exact Bool.noConfusion hb | exact absurd trivial hb | (exfalso; omega))))) | fail)
  refine St_slRow (E := 155) (sz := 2) (n := 0) (by exact Has.auto) rfl ?_
  repeat' (first | (apply St_append tb (sz := 2) (m := s.ps.length); exact rfl; exact rfl; exact rfl; exact rfl; exact rfl; exact rfl; exact rfl; exact rfl; exact Has.auto; (intro hw; exact Src.sl (by exact .tail Has.auto) hw); exact hok; (dsimp only; omega); intro v') | (refine St_step ?_; (try with_reducible intro _)) | (refine St_step2 ?_ ?_ <;> (intro hb; (try simp only [beq_iff_eq, bne_iff_ne, decide_eq_true_eq, decide_eq_false_iff_not, Bool.not_eq_true', Bool.not_eq_false', beq_eq_false_iff_ne, bne_eq_false_iff_eq, ne_eq, Int.not_lt, Int.not_le, gt_iff_lt, ge_iff_le] at hb); (try (first | exact Bool.noConfusion hb | exact absurd trivial hb | (exfalso; omega))))) | fail)
  refine St_slIs (v := v') (n := 0 + s.ps.length) (by exact Has.auto) ?_
  rintro A' c' rfl
  refine St_slShare (v := .slice A' (0 + s.ps.length) c') (by exact Has.auto) ?_
  refine St_exMk (l := sdL b s) (.slice A s.ps.length c) (by exact Split.auto) ?_
  rw [Nat.zero_add, List.nil_append]
  exact St_ret1 (.inl rfl) rfl rfl ⟨_, _, rfl, rfl⟩ (by exact Split.auto)
theorem zeros_len (g : Nat) : ((List.replicate g [Value.int .i64 0, str []]).flatten).length = g * 2 := by
  induction g with
  | zero => rfl
  | succ g ih => rw [List.replicate_succ, List.flatten_cons, List.length_append, ih, Nat.succ_mul]; simp; omega
theorem flat_drop2 (g n : Nat) (l : List (List UInt8)) : ((seqs n l).flatMap pv).drop (g * 2) = (seqs (n + g) (l.drop g)).flatMap pv := by
  rw [← seqs_drop]
  generalize seqs n l = us
  induction g generalizing us with
  | zero => simp
  | succ g ih =>
    cases us with
    | nil => simp
    | cons u us =>
      rw [List.flatMap_cons, List.drop_succ_cons, ← ih us, Nat.succ_mul, Nat.add_comm, ← List.drop_drop]
      rfl
theorem sdAck_sp (b : Nat) (s : Sd) (n : Int) (h1 : s.ps.length ≤ 1000000) (h3 : s.acked ≤ 1000000000000000000) :
    Sp Tryz.prog 72 [.pointer (some ⟨b, 0, none⟩), .int .i64 n] [SdP b s]
      (fun v M => v = nat .i64 (sdGone s n) ∧ M = [SdP b (sdAck s n)]) := by
  refine Sp.intro (P := Tryz.prog) (Tryz.func72) rfl Tryz.ntmps72 (by decide) rfl ?_
  intro ρ F
  refine St_exOpen (l := sdL b s) (by exact Has.auto) fun v => ?_
  obtain ⟨g, hg⟩ : ∃ g, g = sdGone s n := ⟨_, rfl⟩
  have hgd : g = if (s.acked + s.ps.length : Int) < n ∨ n ≤ s.acked then 0 else (n - s.acked).toNat := hg
  have hack : sdAck s n = ⟨s.win, s.last, s.acked + g, s.ps.drop g⟩ := by rw [hg]; rfl
  rw [hack, ← hg]
  have hgl : g ≤ s.ps.length := by rw [hgd]; split <;> omega
  have hsum : s.acked + g + (s.ps.drop g).length = s.acked + s.ps.length := by simp; omega
  by_cases hn : (s.acked + s.ps.length : Int) < n
  · have hg0 : g = 0 := by rw [hgd, if_pos (.inl hn)]
    subst hg0
    refine St_slIs (v := v) (by exact Has.auto) ?_
    rintro A c rfl
    repeat' (first | (refine St_step ?_; (try with_reducible intro _)) | (refine St_step2 ?_ ?_ <;> (intro hb; (try simp only [beq_iff_eq, bne_iff_ne, decide_eq_true_eq, decide_eq_false_iff_not, Bool.not_eq_true', Bool.not_eq_false', beq_eq_false_iff_ne, bne_eq_false_iff_eq, ne_eq, Int.not_lt, Int.not_le, gt_iff_lt, ge_iff_le] at hb); (try (first | exact Bool.noConfusion hb | exact absurd trivial hb | (exfalso; omega))))) | fail)
    all_goals first | (exfalso; omega) | skip
    refine St_exMk (l := sdL b ⟨s.win, s.last, s.acked + 0, s.ps.drop 0⟩) (.slice A s.ps.length c) (by exact Split.auto) ?_
    exact St_ret1 (.inl rfl) rfl rfl ⟨rfl, rfl⟩ (by exact Split.auto)
  have hmore : ∀ i : Nat, i < s.ps.length → (((s.acked + 1 + i : Nat) : Int) ≤ n ↔ i < g) := fun i hi => by
    rw [hgd]; split <;> omega
  refine St_slOpen (v := v) (n := s.ps.length) (by exact Has.auto) ?_ ?_
  · -- there are none
    rintro rfl h0 _
    have hg0 : g = 0 := by omega
    subst hg0
    repeat' (first | (refine St_loop (fun (i : Nat) => i = 0) (fun i => [(0, .pointer (some ⟨b, 0, none⟩)), (1, .int .i64 n), (5, nat .i64 0)]) (fun i => [cel false b 174 [nat .i64 s.win, nat .i64 s.last, nat .i64 (s.acked + s.ps.length), .slice none 0 0], big F]) (fun i => 0) 0 rfl ⟨rfl, rfl, rfl, trivial⟩ (by exact Split.auto) ?_) | (refine St_step ?_; (try with_reducible intro _)) | (refine St_step2 ?_ ?_ <;> (intro hb; (try simp only [beq_iff_eq, bne_iff_ne, decide_eq_true_eq, decide_eq_false_iff_not, Bool.not_eq_true', Bool.not_eq_false', beq_eq_false_iff_ne, bne_eq_false_iff_eq, ne_eq, Int.not_lt, Int.not_le, gt_iff_lt, ge_iff_le] at hb); (try (first | exact Bool.noConfusion hb | exact absurd trivial hb | (exfalso; omega))))) | fail)
    rintro i rfl
    repeat' (first | (apply St_rdN; apply Rd_clear0 tb; exact rfl; exact rfl) | (apply St_rd; exact rfl; (first | (apply Rd_sliceTo tb; exact rfl; exact rfl; exact rfl; exact rfl; decide) | (apply Rd_sliceFrom tb; exact rfl; exact rfl; exact rfl; exact rfl; decide))) | (apply Sq_rd; exact rfl; (first | (apply Rd_sliceTo tb; exact rfl; exact rfl; exact rfl; exact rfl; decide) | (apply Rd_sliceFrom tb; exact rfl; exact rfl; exact rfl; exact rfl; decide))) | (refine St_step ?_; (try with_reducible intro _)) | (refine St_step2 ?_ ?_ <;> (intro hb; (try simp only [beq_iff_eq, bne_iff_ne, decide_eq_true_eq, decide_eq_false_iff_not, Bool.not_eq_true', Bool.not_eq_false', beq_eq_false_iff_ne, bne_eq_false_iff_eq, ne_eq, Int.not_lt, Int.not_le, gt_iff_lt, ge_iff_le] at hb); (try (first | exact Bool.noConfusion hb | exact absurd trivial hb | (exfalso; omega))))) | fail)
    refine St_slNil (E := 155) (sz := 2) ?_
    have e0 : s.ps.drop 0 = [] := List.eq_nil_of_length_eq_zero (by rw [List.drop_zero]; exact h0)
    have e1 : s.ps = [] := List.eq_nil_of_length_eq_zero h0
    refine St_exMk (l := sdL b ⟨s.win, s.last, s.acked + 0, s.ps.drop 0⟩) (.slice none 0 0) (by rw [e0]; unfold sdL; rw [e1]; exact Split.auto) ?_
    exact St_ret1 (.inl rfl) rfl rfl ⟨rfl, rfl⟩ (by exact Split.auto)
  · rintro b' cap pre rest rfl hcap hrest hlen
    have hcell : ∀ i, i < s.ps.length → (pre ++ (seqs (s.acked + 1) s.ps).flatMap pv ++ rest)[pre.length + ((i : Nat) : Int).toNat * 2 + 0]? = some (nat .i64 (s.acked + 1 + i)) := fun i hi => by
      rw [Int.toNat_natCast, flat_cell pv_len pre rest (by rw [seqs_get, List.getElem?_eq_getElem hi]; rfl) (by decide)]
      rfl
    have Hcell := Lib.hid hcell
    have Hmore := Lib.hid hmore
    clear hcell hmore
    have hwl : (pre ++ (seqs (s.acked + 1) s.ps).flatMap pv ++ rest).length = pre.length + s.ps.length * 2 + rest.length := by
      simp only [List.length_append, hlen]
    repeat' (first | (refine St_loop (fun (i : Nat) => i ≤ g) (fun i => [(0, .pointer (some ⟨b, 0, none⟩)), (1, .int .i64 n), (5, nat .i64 i)]) (fun i => [cel false b 174 [nat .i64 s.win, nat .i64 s.last, nat .i64 (s.acked + s.ps.length), .slice (some ⟨b', pre.length, none⟩) s.ps.length cap], cel false b' 155 (pre ++ (seqs (s.acked + 1) s.ps).flatMap pv ++ rest), big F]) (fun i => g - i) 0 (Nat.zero_le _) ⟨rfl, rfl, rfl, trivial⟩ (by exact Split.auto) ?_) | (refine St_step ?_; (try with_reducible intro _)) | (refine St_step2 ?_ ?_ <;> (intro hb; (try simp only [beq_iff_eq, bne_iff_ne, decide_eq_true_eq, decide_eq_false_iff_not, Bool.not_eq_true', Bool.not_eq_false', beq_eq_false_iff_ne, bne_eq_false_iff_eq, ne_eq, Int.not_lt, Int.not_le, gt_iff_lt, ge_iff_le] at hb); (try (first | exact Bool.noConfusion hb | exact absurd trivial hb | (exfalso; omega))))) | fail)
    all_goals first | (exfalso; omega) | skip
    intro i hi
    by_cases hig : i < g
    · have hc := Hcell.out i (by omega)
      have hm := (Hmore.out i (by omega)).2 hig
      repeat' (first | (apply St_rd; exact rfl; (first | (apply Rd_loadn tb; exact rfl; exact rfl; exact rfl; exact Has.auto; exact hc))) | (apply Sq_rd; exact rfl; (first | (apply Rd_loadn tb; exact rfl; exact rfl; exact rfl; exact Has.auto; exact hc))) | (refine St_step ?_; (try with_reducible intro _)) | (refine St_step2 ?_ ?_ <;> (intro hb; (try simp only [beq_iff_eq, bne_iff_ne, decide_eq_true_eq, decide_eq_false_iff_not, Bool.not_eq_true', Bool.not_eq_false', beq_eq_false_iff_ne, bne_eq_false_iff_eq, ne_eq, Int.not_lt, Int.not_le, gt_iff_lt, ge_iff_le] at hb); (try (first | exact Bool.noConfusion hb | exact absurd trivial hb | (exfalso; omega))))) | fail)
      all_goals first | (exfalso; omega) | exact St_at (i + 1) ⟨by omega, by omega⟩ ⟨rfl, rfl, rfl, trivial⟩ (by exact Split.auto)
    · have hie : i = g := by omega
      subst hie
      have hstop : i < s.ps.length → ¬ ((s.acked + 1 + i : Nat) : Int) ≤ n := fun h h2 => hig ((Hmore.out i h).1 h2)
      have hz := zeros_len i
      have hset := setR_front (pre := pre) (cs := (seqs (s.acked + 1) s.ps).flatMap pv) (rest := rest) (zs := (List.replicate i [Value.int .i64 0, str []]).flatten) (by rw [hz, hlen]; omega)
      rw [hz, flat_drop2] at hset
      have hz1 := hset
      -- what the cut answers, and the chunks folded
      have fold : ∀ {env : Env} {G : Act → World → Prop} {L L' : List HP}, Has L (cel false b 174 [nat .i64 s.win, nat .i64 s.last, nat .i64 (s.acked + s.ps.length), .slice (if cap = i then some ⟨b', pre.length, none⟩ else (some (⟨b', pre.length, none⟩ : Addr)).map (·.add (i * 2))) (s.ps.length - i) (cap - i)]) L' →
          ∀ {L'' : List HP}, Has L' (cel false b' 155 (pre ++ (List.replicate i [Value.int .i64 0, str []]).flatten ++ ((seqs (s.acked + 1 + i) (s.ps.drop i)).flatMap pv ++ rest))) L'' →
          St ρ 49 env (SdP b ⟨s.win, s.last, s.acked + i, s.ps.drop i⟩ :: L'') G → St ρ 49 env L G := by
        intro env G L L' h1 L'' h2 h
        rw [cut_addr] at h1
        refine St_pull h1 ?_
        have hdl : (s.ps.drop i).length = s.ps.length - i := by simp
        have hcl : ((seqs (s.acked + 1 + i) (s.ps.drop i)).flatMap pv).length = (s.ps.length - i) * 2 := by rw [flat_len pv_len, seqs_length, hdl]
        have e1 : s.acked + 1 + i = s.acked + i + 1 := by omega
        by_cases hci : cap = i
        · have h0 : s.ps.drop i = [] := List.eq_nil_of_length_eq_zero (by omega)
          rw [h0] at h2
          have h2' : Has (cel false b 174 [nat .i64 s.win, nat .i64 s.last, nat .i64 (s.acked + s.ps.length), .slice (some ⟨b', if cap = i then pre.length else pre.length + i * 2, none⟩) (s.ps.length - i) (cap - i)] :: L') (cel false b' 155 (pre ++ [] ++ ((List.replicate i [Value.int .i64 0, str []]).flatten ++ ([] ++ rest)))) (_ :: L'') := .tail (by
            have : pre ++ [] ++ ((List.replicate i [Value.int .i64 0, str []]).flatten ++ ([] ++ rest)) = pre ++ (List.replicate i [Value.int .i64 0, str []]).flatten ++ ((seqs (s.acked + 1 + i) []).flatMap pv ++ rest) := by simp [seqs]
            rw [this]; exact h2)
          refine St_slMk (sz := 2) (n := 0) (cap := 0) h2' (Nat.le_refl _) (by simp) rfl ?_
          refine St_exMk (l := sdL b ⟨s.win, s.last, s.acked + i, s.ps.drop i⟩) (.slice (some ⟨b', pre.length, none⟩) 0 0) ?_ h
          have e2 : s.ps.length - i = 0 := by omega
          have e3 : cap - i = 0 := by omega
          rw [if_pos hci, e2, e3]
          unfold sdL
          dsimp only
          rw [hsum, h0]
          exact Split.auto
        · have h2' : Has (cel false b 174 [nat .i64 s.win, nat .i64 s.last, nat .i64 (s.acked + s.ps.length), .slice (some ⟨b', if cap = i then pre.length else pre.length + i * 2, none⟩) (s.ps.length - i) (cap - i)] :: L') (cel false b' 155 ((pre ++ (List.replicate i [Value.int .i64 0, str []]).flatten) ++ (seqs (s.acked + 1 + i) (s.ps.drop i)).flatMap pv ++ rest)) (_ :: L'') := .tail (by
            rw [List.append_assoc (pre ++ _)]; exact h2)
          refine St_slMk (sz := 2) (n := s.ps.length - i) (cap := cap - i) h2' (by omega) (by rw [Nat.sub_sub_sub_cancel_right hgl]; exact hrest) hcl ?_
          refine St_exMk (l := sdL b ⟨s.win, s.last, s.acked + i, s.ps.drop i⟩) (.slice (some ⟨b', (pre ++ (List.replicate i [Value.int .i64 0, str []]).flatten).length, none⟩) (s.ps.length - i) (cap - i)) ?_ h
          have e4 : (pre ++ (List.replicate i [Value.int .i64 0, str []]).flatten).length = pre.length + i * 2 := by rw [List.length_append, hz]
          rw [if_neg hci, e4]
          unfold sdL
          dsimp only
          rw [hsum, hdl, ← e1]
          exact Split.auto
      have hset0 : pre ++ (seqs (s.acked + 1) s.ps).flatMap pv ++ rest = pre ++ (List.replicate 0 [Value.int .i64 0, str []]).flatten ++ ((seqs (s.acked + 1 + 0) (s.ps.drop 0)).flatMap pv ++ rest) := by simp
      by_cases hi0 : i = 0
      · by_cases hlast : i < s.ps.length
        · have hc := Hcell.out i hlast
          have hm := hstop hlast
          subst hi0
          repeat' (first | (apply St_rdN; apply Rd_clear0 tb; exact rfl; exact rfl) | (apply St_rd; exact rfl; (first | (apply Rd_loadn tb; exact rfl; exact rfl; exact rfl; exact Has.auto; exact hc) | (apply Rd_sliceTo tb; exact rfl; exact rfl; exact rfl; exact rfl; omega) | (apply Rd_sliceFrom tb; exact rfl; exact rfl; exact rfl; exact rfl; omega))) | (apply Sq_rd; exact rfl; (first | (apply Rd_loadn tb; exact rfl; exact rfl; exact rfl; exact Has.auto; exact hc) | (apply Rd_sliceTo tb; exact rfl; exact rfl; exact rfl; exact rfl; omega) | (apply Rd_sliceFrom tb; exact rfl; exact rfl; exact rfl; exact rfl; omega))) | (refine St_step ?_; (try with_reducible intro _)) | (refine St_step2 ?_ ?_ <;> (intro hb; (try simp only [beq_iff_eq, bne_iff_ne, decide_eq_true_eq, decide_eq_false_iff_not, Bool.not_eq_true', Bool.not_eq_false', beq_eq_false_iff_ne, bne_eq_false_iff_eq, ne_eq, Int.not_lt, Int.not_le, gt_iff_lt, ge_iff_le] at hb); (try (first | exact Bool.noConfusion hb | exact absurd trivial hb | (exfalso; omega))))) | fail)
          all_goals first | (exfalso; omega) | skip
          refine St_cel (r := false) (b := b') (by exact Has.auto) hset0 ?_
          refine fold (by exact Has.auto) (by exact Has.auto) ?_
          exact St_ret1 (.inl rfl) rfl rfl ⟨rfl, rfl⟩ (by exact Split.auto)
        · subst hi0
          repeat' (first | (apply St_rdN; apply Rd_clear0 tb; exact rfl; exact rfl) | (apply St_rd; exact rfl; (first | (apply Rd_sliceTo tb; exact rfl; exact rfl; exact rfl; exact rfl; omega) | (apply Rd_sliceFrom tb; exact rfl; exact rfl; exact rfl; exact rfl; omega))) | (apply Sq_rd; exact rfl; (first | (apply Rd_sliceTo tb; exact rfl; exact rfl; exact rfl; exact rfl; omega) | (apply Rd_sliceFrom tb; exact rfl; exact rfl; exact rfl; exact rfl; omega))) | (refine St_step ?_; (try with_reducible intro _)) | (refine St_step2 ?_ ?_ <;> (intro hb; (try simp only [beq_iff_eq, bne_iff_ne, decide_eq_true_eq, decide_eq_false_iff_not, Bool.not_eq_true', Bool.not_eq_false', beq_eq_false_iff_ne, bne_eq_false_iff_eq, ne_eq, Int.not_lt, Int.not_le, gt_iff_lt, ge_iff_le] at hb); (try (first | exact Bool.noConfusion hb | exact absurd trivial hb | (exfalso; omega))))) | fail)
          all_goals first | (exfalso; omega) | skip
          refine St_cel (r := false) (b := b') (by exact Has.auto) hset0 ?_
          refine fold (by exact Has.auto) (by exact Has.auto) ?_
          exact St_ret1 (.inl rfl) rfl rfl ⟨rfl, rfl⟩ (by exact Split.auto)
      · have hzl : pre.length + ((List.replicate i [Value.int .i64 0, str []]).flatten).length ≤ (pre ++ (seqs (s.acked + 1) s.ps).flatMap pv ++ rest).length := by rw [hz, hwl]; omega
        by_cases hlast : i < s.ps.length
        · have hc := Hcell.out i hlast
          have hm := hstop hlast
          repeat' (first | (apply St_clearN tb; exact rfl; exact rfl; exact rfl; exact rfl; exact rfl; exact Has.auto; exact hzl; exact hi0) | (apply St_rd; exact rfl; (first | (apply Rd_loadn tb; exact rfl; exact rfl; exact rfl; exact Has.auto; exact hc) | (apply Rd_sliceTo tb; exact rfl; exact rfl; exact rfl; exact rfl; omega) | (apply Rd_sliceFrom tb; exact rfl; exact rfl; exact rfl; exact rfl; omega))) | (apply Sq_rd; exact rfl; (first | (apply Rd_loadn tb; exact rfl; exact rfl; exact rfl; exact Has.auto; exact hc) | (apply Rd_sliceTo tb; exact rfl; exact rfl; exact rfl; exact rfl; omega) | (apply Rd_sliceFrom tb; exact rfl; exact rfl; exact rfl; exact rfl; omega))) | (refine St_step ?_; (try with_reducible intro _)) | (refine St_step2 ?_ ?_ <;> (intro hb; (try simp only [beq_iff_eq, bne_iff_ne, decide_eq_true_eq, decide_eq_false_iff_not, Bool.not_eq_true', Bool.not_eq_false', beq_eq_false_iff_ne, bne_eq_false_iff_eq, ne_eq, Int.not_lt, Int.not_le, gt_iff_lt, ge_iff_le] at hb); (try (first | exact Bool.noConfusion hb | exact absurd trivial hb | (exfalso; omega))))) | fail)
          all_goals first | (exfalso; omega) | skip
          refine St_cel (r := false) (b := b') (by exact Has.auto) hset ?_
          refine fold (by exact Has.auto) (by exact Has.auto) ?_
          exact St_ret1 (.inl rfl) rfl rfl ⟨rfl, rfl⟩ (by exact Split.auto)
        · repeat' (first | (apply St_clearN tb; exact rfl; exact rfl; exact rfl; exact rfl; exact rfl; exact Has.auto; exact hzl; exact hi0) | (apply St_rd; exact rfl; (first | (apply Rd_sliceTo tb; exact rfl; exact rfl; exact rfl; exact rfl; omega) | (apply Rd_sliceFrom tb; exact rfl; exact rfl; exact rfl; exact rfl; omega))) | (apply Sq_rd; exact rfl; (first | (apply Rd_sliceTo tb; exact rfl; exact rfl; exact rfl; exact rfl; omega) | (apply Rd_sliceFrom tb; exact rfl; exact rfl; exact rfl; exact rfl; omega))) | (refine St_step ?_; (try with_reducible intro _)) | (refine St_step2 ?_ ?_ <;> (intro hb; (try simp only [beq_iff_eq, bne_iff_ne, decide_eq_true_eq, decide_eq_false_iff_not, Bool.not_eq_true', Bool.not_eq_false', beq_eq_false_iff_ne, bne_eq_false_iff_eq, ne_eq, Int.not_lt, Int.not_le, gt_iff_lt, ge_iff_le] at hb); (try (first | exact Bool.noConfusion hb | exact absurd trivial hb | (exfalso; omega))))) | fail)
          all_goals first | (exfalso; omega) | skip
          refine St_cel (r := false) (b := b') (by exact Has.auto) hset ?_
          refine fold (by exact Has.auto) (by exact Has.auto) ?_
          exact St_ret1 (.inl rfl) rfl rfl ⟨rfl, rfl⟩ (by exact Split.auto)
end Go.Proofs.YtfjnacakpeommaaGreatDoor
/- Contracts: package receiver. -/
namespace Go.Proofs.YtfjnacakpeommaaGreatDoor
open Go SL Pl
set_option autoImplicit false
set_option maxRecDepth 100000
set_option linter.unusedSimpArgs false
set_option linter.unusedVariables false
attribute [local irreducible] St Sq Exec QExec wpList wpQuiet Code.wp Exit.then Exit.inBlock bodyPost At Rd wpOp Wa QK GB
section
variable {ρ : Rst} {N : Nat} {env : Env} {L L' : List HP} {P : Program} {Q : Exit → Act → World → Prop} {K : Act → World → Prop}
variable {d : Nat} {dd : Option Nat} {op : Op} {ty : TypeId} {pos : String} {aft : Array Edge} {g : Option (Nat × Bool)}
theorem Rd_addN {T U : TypeId} {x y : Operand} {m n : Nat} (hx : ev env x = some (nat .i64 m)) (hy : ev env y = some (nat .i64 n)) (hb : m + n ≤ 9223372036854775807) :
    Rd P ρ N env L ⟨dd, .binOp .add T x y U, ty, pos, aft, g⟩ (nat .i64 (m + n)) := by
  have h := Rd_add (P := P) (ρ := ρ) (N := N) (L := L) (dd := dd) (ty := ty) (pos := pos) (aft := aft) (g := g) (T := T) (U := U) hx hy (by omega)
  exact h
theorem Rd_subN {T U : TypeId} {x y : Operand} {m n : Nat} (hx : ev env x = some (nat .i64 m)) (hy : ev env y = some (nat .i64 n)) (hb : n ≤ m ∧ m ≤ 9223372036854775807) :
    Rd P ρ N env L ⟨dd, .binOp .sub T x y U, ty, pos, aft, g⟩ (nat .i64 (m - n)) := by
  have h := Rd_sub (P := P) (ρ := ρ) (N := N) (L := L) (dd := dd) (ty := ty) (pos := pos) (aft := aft) (g := g) (T := T) (U := U) hx hy (by omega)
  have e : (m : Int) - (n : Int) = ((m - n : Nat) : Int) := by omega
  rw [e] at h
  exact h
theorem Rd_pred {T U : TypeId} {x y : Operand} {m : Nat} (hx : ev env x = some (nat .i64 (m + 1))) (hy : ev env y = some (.int .i64 1)) (hb : m ≤ 9223372036854775806) :
    Rd P ρ N env L ⟨dd, .binOp .sub T x y U, ty, pos, aft, g⟩ (nat .i64 m) := by
  have h := Rd_sub (P := P) (ρ := ρ) (N := N) (L := L) (dd := dd) (ty := ty) (pos := pos) (aft := aft) (g := g) (T := T) (U := U) hx hy (by omega)
  have e : ((m + 1 : Nat) : Int) - 1 = (m : Int) := by omega
  rw [e] at h
  exact h
theorem Rd_succ {T U : TypeId} {x y : Operand} {m : Nat} (hx : ev env x = some (nat .i64 m)) (hy : ev env y = some (.int .i64 1)) (hb : m ≤ 9223372036854775806) :
    Rd P ρ N env L ⟨dd, .binOp .add T x y U, ty, pos, aft, g⟩ (nat .i64 (m + 1)) := by
  have h := Rd_add (P := P) (ρ := ρ) (N := N) (L := L) (dd := dd) (ty := ty) (pos := pos) (aft := aft) (g := g) (T := T) (U := U) hx hy (by omega)
  exact h
end
/-- A receiver's cells. -/
def rcC (room acked : Nat) (ring : List (List UInt8)) (frm n : Nat) : List Value := nat .i64 room :: nat .i64 acked :: (ring.map str ++ [nat .i64 frm, nat .i64 n])
theorem rcC_len {room acked frm n : Nat} {ring : List (List UInt8)} (h : ring.length = 16) : (rcC room acked ring frm n).length = 20 := by simp [rcC, h]
theorem rcC_18 {room acked frm n : Nat} {ring : List (List UInt8)} (h : ring.length = 16) : (rcC room acked ring frm n)[18]? = some (nat .i64 frm) := by
  unfold rcC
  rw [List.getElem?_cons_succ, List.getElem?_cons_succ, List.getElem?_append_right (by simp [h])]
  simp [h]
theorem rcC_19 {room acked frm n : Nat} {ring : List (List UInt8)} (h : ring.length = 16) : (rcC room acked ring frm n)[19]? = some (nat .i64 n) := by
  unfold rcC
  rw [List.getElem?_cons_succ, List.getElem?_cons_succ, List.getElem?_append_right (by simp [h])]
  simp [h]
theorem rcC_at {room acked frm n i : Nat} {ring : List (List UInt8)} {x : List UInt8} (h : ring[i]? = some x) : (rcC room acked ring frm n)[2 + i]? = some (str x) := by
  have hi : i < ring.length := by
    rcases Nat.lt_or_ge i ring.length with q | q
    · exact q
    · rw [List.getElem?_eq_none q] at h; cases h
  unfold rcC
  rw [Nat.add_comm 2 i, List.getElem?_cons_succ, List.getElem?_cons_succ, List.getElem?_append_left (by simpa using hi), List.getElem?_map, h]
  rfl
theorem rcC_s18 {room acked frm n m : Nat} {ring : List (List UInt8)} (h : ring.length = 16) : (rcC room acked ring frm n).set 18 (nat .i64 m) = rcC room acked ring m n := by
  unfold rcC
  rw [List.set_cons_succ, List.set_cons_succ, List.set_append_right _ _ (by simp [h])]
  simp [h]
theorem rcC_s19 {room acked frm n m : Nat} {ring : List (List UInt8)} (h : ring.length = 16) : (rcC room acked ring frm n).set 19 (nat .i64 m) = rcC room acked ring frm m := by
  unfold rcC
  rw [List.set_cons_succ, List.set_cons_succ, List.set_append_right _ _ (by simp [h])]
  simp [h]
theorem rcC_set {room acked frm n i : Nat} {ring : List (List UInt8)} {x : List UInt8} (h : i < ring.length) : (rcC room acked ring frm n).set (2 + i) (str x) = rcC room acked (ring.set i x) frm n := by
  unfold rcC
  rw [Nat.add_comm 2 i, List.set_cons_succ, List.set_cons_succ, List.set_append_left _ _ (by simpa using h), List.map_set]
theorem rcC_s1 {room acked frm n m : Nat} {ring : List (List UInt8)} : (rcC room acked ring frm n).set 1 (nat .i64 m) = rcC room m ring frm n := rfl
structure ringOk (ring : List (List UInt8)) (frm : Nat) (q : List (List UInt8)) : Prop where
  len : ring.length = 16
  frm_lt : frm < 16
  q_le : q.length ≤ 16
  at_ : ∀ i, i < q.length → ring[(frm + i) % 16]? = q[i]?
theorem ringOk_nil : ringOk (List.replicate 16 []) 0 [] := ⟨rfl, by decide, by decide, fun i h => by simp at h⟩
theorem ringOk_push {ring : List (List UInt8)} {frm : Nat} {q : List (List UInt8)} (h : ringOk ring frm q) (hq : q.length < 16) (d : List UInt8) : ringOk (ring.set ((frm + q.length) % 16) d) frm (q ++ [d]) := by
  refine ⟨by simp [h.len], h.frm_lt, by simp; omega, fun i hi => ?_⟩
  have hlt : (frm + q.length) % 16 < 16 := Nat.mod_lt _ (by decide)
  have hf := h.frm_lt
  rw [List.getElem?_set]
  by_cases hiq : i = q.length
  · subst hiq
    simp [h.len, hlt]
  · have hi' : i < q.length := by simp at hi; omega
    have hne : ¬ (frm + q.length) % 16 = (frm + i) % 16 := by omega
    rw [if_neg hne, h.at_ i hi', List.getElem?_append_left hi']
theorem ringOk_pop {ring : List (List UInt8)} {frm : Nat} {x : List UInt8} {q : List (List UInt8)} (h : ringOk ring frm (x :: q)) (y : List UInt8) : ringOk (ring.set frm y) ((frm + 1) % 16) q := by
  have hf := h.frm_lt
  have hq := h.q_le
  simp only [List.length_cons] at hq
  refine ⟨by simp [h.len], Nat.mod_lt _ (by decide), by omega, fun i hi => ?_⟩
  have h1 := h.at_ (i + 1) (by simp; omega)
  rw [List.getElem?_cons_succ] at h1
  rw [List.getElem?_set, if_neg (by omega), ← h1]
  congr 1
  omega
def rcL (b : Nat) (r : Rc) (z : List (List UInt8) × Nat) : List HP := [lift (ringOk z.1 z.2 r.q), cel false b 177 (rcC r.room r.acked z.1 z.2 r.q.length)]
def RcP (b : Nat) (r : Rc) : HP := ex fun z => big (rcL b r z)
theorem St_rcOpen {ρ : Rst} {N : Nat} {env : Env} {L L' : List HP} {G : Act → World → Prop} {b : Nat} {r : Rc} (hc : Has L (RcP b r) L')
    (h : ∀ ring frm, ringOk ring frm r.q → St ρ N env (cel false b 177 (rcC r.room r.acked ring frm r.q.length) :: L') G) : St ρ N env L G :=
  St_exOpen (l := rcL b r) hc fun z => St_lift fun hz => h z.1 z.2 hz
theorem St_rcMk {ρ : Rst} {N : Nat} {env : Env} {L L' : List HP} {G : Act → World → Prop} {b frm : Nat} {r : Rc} {ring : List (List UInt8)} (hr : ringOk ring frm r.q) (hc : Has L (cel false b 177 (rcC r.room r.acked ring frm r.q.length)) L')
    (h : St ρ N env (RcP b r :: L') G) : St ρ N env L G :=
  St_conv (fun w H => Holds.ex_mk (A := fun z => big (rcL b r z)) (ring, frm) (Holds.shut (l := [_, _]) (Holds.lift_mk hr (H.has hc)))) h
theorem rcNew_sp (room : Int) : Sp Tryz.prog 100 [.int .i64 room] [] (fun v M => ∃ b, v = .pointer (some ⟨b, 0, none⟩) ∧ M = [RcP b (rcNew room)]) := by
  refine Sp.intro (P := Tryz.prog) (Tryz.func100) rfl Tryz.ntmps100 (by decide) rfl ?_
  intro ρ F
  repeat' (first | (refine St_step ?_; (try with_reducible intro _)) | (refine St_step2 ?_ ?_ <;> (intro hb; (try simp only [beq_iff_eq, bne_iff_ne, decide_eq_true_eq, decide_eq_false_iff_not, Bool.not_eq_true', Bool.not_eq_false', beq_eq_false_iff_ne, bne_eq_false_iff_eq, ne_eq, Int.not_lt, Int.not_le, gt_iff_lt, ge_iff_le] at hb); (try (first | exact Bool.noConfusion hb | exact absurd trivial hb | (exfalso; omega))))) | fail)
  rename_i b
  refine St_cel (r := false) (b := b) (cs' := rcC (rcNew room).room (rcNew room).acked (List.replicate 16 []) 0 (rcNew room).q.length) (by exact Has.auto) ?_ ?_
  · unfold rcNew
    dsimp only
    rw [clamp_val (by decide), clamp_nat (w := room) (lo := 1) (hi := 16) (by decide) (by decide)]
    rfl
  refine St_rcMk (r := rcNew room) ringOk_nil (by exact Has.auto) ?_
  exact St_ret1 (.inl rfl) rfl rfl ⟨_, rfl, rfl⟩ (by exact Split.auto)
theorem rcAck_sp (b : Nat) (r : Rc) : Sp Tryz.prog 88 [.pointer (some ⟨b, 0, none⟩)] [RcP b r] (fun v M => v = nat .i64 r.acked ∧ M = [RcP b r]) := by
  refine Sp.intro (P := Tryz.prog) (Tryz.func88) rfl Tryz.ntmps88 (by decide) rfl ?_
  intro ρ F
  refine St_rcOpen (by exact Has.auto) fun ring frm hr => ?_
  repeat' (first | (refine St_step ?_; (try with_reducible intro _)) | (refine St_step2 ?_ ?_ <;> (intro hb; (try simp only [beq_iff_eq, bne_iff_ne, decide_eq_true_eq, decide_eq_false_iff_not, Bool.not_eq_true', Bool.not_eq_false', beq_eq_false_iff_ne, bne_eq_false_iff_eq, ne_eq, Int.not_lt, Int.not_le, gt_iff_lt, ge_iff_le] at hb); (try (first | exact Bool.noConfusion hb | exact absurd trivial hb | (exfalso; omega))))) | fail)
  refine St_rcMk (r := r) hr (by exact Has.auto) ?_
  exact St_ret1 (.inl rfl) rfl rfl ⟨rfl, rfl⟩ (by exact Split.auto)
theorem place_sp (b i frm n room acked : Nat) (ring : List (List UInt8)) (hl : ring.length = 16) (hi : i ≤ 1000) (hf : frm < 16) : Sp Tryz.prog 105 [.pointer (some ⟨b, 0, none⟩), nat .i64 i] [cel false b 177 (rcC room acked ring frm n)]
    (fun v M => v = nat .i64 ((frm + i) % 16) ∧ M = [cel false b 177 (rcC room acked ring frm n)]) := by
  refine Sp.intro (P := Tryz.prog) (Tryz.func105) rfl Tryz.ntmps105 (by decide) rfl ?_
  intro ρ F
  have h18 := rcC_18 (room := room) (acked := acked) (frm := frm) (n := n) hl
  repeat' (first | (apply St_rd; exact rfl; (first | (apply Rd_loadn tb; exact rfl; exact rfl; exact rfl; exact Has.auto; exact h18) | (apply Rd_addN; exact rfl; exact rfl; omega) | (apply Rd_natMod; exact rfl; exact rfl; decide))) | (apply Sq_rd; exact rfl; (first | (apply Rd_loadn tb; exact rfl; exact rfl; exact rfl; exact Has.auto; exact h18) | (apply Rd_addN; exact rfl; exact rfl; omega) | (apply Rd_natMod; exact rfl; exact rfl; decide))) | (refine St_step ?_; (try with_reducible intro _)) | (refine St_step2 ?_ ?_ <;> (intro hb; (try simp only [beq_iff_eq, bne_iff_ne, decide_eq_true_eq, decide_eq_false_iff_not, Bool.not_eq_true', Bool.not_eq_false', beq_eq_false_iff_ne, bne_eq_false_iff_eq, ne_eq, Int.not_lt, Int.not_le, gt_iff_lt, ge_iff_le] at hb); (try (first | exact Bool.noConfusion hb | exact absurd trivial hb | (exfalso; omega))))) | fail)
  exact St_ret1 (.inl rfl) rfl rfl ⟨rfl, rfl⟩ (by exact Split.auto)
theorem rcHear_sp (b : Nat) (r : Rc) (seq : Int) (d : List UInt8) (h1 : r.room ≤ 16) (h2 : r.acked ≤ 1000000000000000000) (h3 : r.q.length ≤ r.room) :
    Sp Tryz.prog 73 [.pointer (some ⟨b, 0, none⟩), .int .i64 seq, str d] [RcP b r] (fun v M => v = .bool (rcTakes r seq) ∧ M = [RcP b (rcHear r seq d)]) := by
  refine Sp.intro (P := Tryz.prog) (Tryz.func73) rfl Tryz.ntmps73 (by decide) rfl ?_
  intro ρ F
  refine St_rcOpen (by exact Has.auto) fun ring frm hr => ?_
  have hl := hr.len
  have hfr := hr.frm_lt
  have h19 := rcC_19 (room := r.room) (acked := r.acked) (frm := frm) (n := r.q.length) hl
  by_cases hno : r.room ≤ r.q.length ∨ seq ≠ (r.acked : Int) + 1
  · have e : rcHear r seq d = r := if_pos hno
    have e2 : rcTakes r seq = false := by simp only [rcTakes]; rw [decide_eq_true hno]; rfl
    rw [e, e2]
    repeat' (first | (apply St_regionQ; kernel_rfl; kernel_rfl) | (apply St_rd; exact rfl; (first | (apply Rd_loadn tb; exact rfl; exact rfl; exact rfl; exact Has.auto; exact h19))) | (apply Sq_rd; exact rfl; (first | (apply Rd_loadn tb; exact rfl; exact rfl; exact rfl; exact Has.auto; exact h19))) | (refine St_step ?_; (try with_reducible intro _)) | (refine St_step2 ?_ ?_ <;> (intro hb; (try simp only [beq_iff_eq, bne_iff_ne, decide_eq_true_eq, decide_eq_false_iff_not, Bool.not_eq_true', Bool.not_eq_false', beq_eq_false_iff_ne, bne_eq_false_iff_eq, ne_eq, Int.not_lt, Int.not_le, gt_iff_lt, ge_iff_le] at hb); (try (first | exact Bool.noConfusion hb | exact absurd trivial hb | (exfalso; omega))))) | fail)
    all_goals first | (exfalso; omega) | skip
    all_goals refine St_rcMk (r := r) hr (by exact Has.auto) ?_
    all_goals exact St_ret1 (.inl rfl) rfl rfl ⟨rfl, rfl⟩ (by exact Split.auto)
  · have e : rcHear r seq d = ⟨r.room, r.acked + 1, r.q ++ [d]⟩ := if_neg hno
    have e2 : rcTakes r seq = true := by simp only [rcTakes]; rw [decide_eq_false hno]; rfl
    rw [e, e2]
    have hq : r.q.length < 16 := by omega
    have hp := place_sp b r.q.length frm r.q.length r.room r.acked ring hl (by omega) hfr
    have hlt : (frm + r.q.length) % 16 < 16 := Nat.mod_lt _ (by decide)
    have hpush := ringOk_push hr hq d
    generalize hj : (frm + r.q.length) % 16 = j at *
    have hl2 := hpush.len
    have g1 := rcC_19 (room := r.room) (acked := r.acked + 1) (frm := frm) (n := r.q.length) hl2
    have s0 := rcC_set (room := r.room) (acked := r.acked) (frm := frm) (n := r.q.length) (x := d) (show j < ring.length by omega)
    have s1 := rcC_s1 (room := r.room) (acked := r.acked) (ring := ring.set j d) (frm := frm) (n := r.q.length) (m := r.acked + 1)
    have s2 := rcC_s19 (room := r.room) (acked := r.acked + 1) (frm := frm) (n := r.q.length) (m := r.q.length + 1) hl2
    have n0 : 0 + 2 + ((j : Nat) : Int).toNat * 1 < (rcC r.room r.acked ring frm r.q.length).length := by rw [rcC_len hl]; omega
    have n1 : 0 + 1 < (rcC r.room r.acked (ring.set j d) frm r.q.length).length := by rw [rcC_len hl2]; decide
    have n2 : 0 + 19 < (rcC r.room (r.acked + 1) (ring.set j d) frm r.q.length).length := by rw [rcC_len hl2]; decide
    have hix : 0 ≤ (j : Int) ∧ (j : Int) < ((16 : Nat) : Int) := by omega
    have hcast : 0 + 2 + ((j : Nat) : Int).toNat * 1 = 2 + j := by omega
    rw [← hcast] at s0
    repeat' (first | (apply St_regionA (11) ([cel false b 177 (rcC r.room r.acked ring frm r.q.length)]); kernel_rfl; (apply Sa_take 0; exact rfl; kernel_rfl; exact PanicOk.auto; exact rfl; (first | (apply Rd_loadn tb; exact rfl; exact rfl; exact rfl; exact Has.auto; exact h19) | (apply Rd_indexAddrA tb; exact rfl; exact rfl; exact rfl; exact rfl; exact hix) | exact Rd_auto)); (apply Sa_take 1; exact rfl; kernel_rfl; exact PanicOk.auto; exact rfl; (first | (apply Rd_loadn tb; exact rfl; exact rfl; exact rfl; exact Has.auto; exact h19) | (apply Rd_indexAddrA tb; exact rfl; exact rfl; exact rfl; exact rfl; exact hix) | exact Rd_auto)); (apply Sa_take 2; exact rfl; kernel_rfl; exact PanicOk.auto; exact rfl; (first | (apply Rd_loadn tb; exact rfl; exact rfl; exact rfl; exact Has.auto; exact h19) | (apply Rd_indexAddrA tb; exact rfl; exact rfl; exact rfl; exact rfl; exact hix) | exact Rd_auto)); (apply Sa_take 3; exact rfl; kernel_rfl; exact PanicOk.auto; exact rfl; (first | (apply Rd_loadn tb; exact rfl; exact rfl; exact rfl; exact Has.auto; exact h19) | (apply Rd_indexAddrA tb; exact rfl; exact rfl; exact rfl; exact rfl; exact hix) | exact Rd_auto)); (apply Sa_take 4; exact rfl; kernel_rfl; exact PanicOk.auto; exact rfl; (first | (apply Rd_loadn tb; exact rfl; exact rfl; exact rfl; exact Has.auto; exact h19) | (apply Rd_indexAddrA tb; exact rfl; exact rfl; exact rfl; exact rfl; exact hix) | exact Rd_auto)); (apply Sa_take 5; exact rfl; kernel_rfl; exact PanicOk.auto; exact rfl; (first | (apply Rd_loadn tb; exact rfl; exact rfl; exact rfl; exact Has.auto; exact h19) | (apply Rd_indexAddrA tb; exact rfl; exact rfl; exact rfl; exact rfl; exact hix) | exact Rd_auto)); (apply Sa_take 7; exact rfl; kernel_rfl; exact PanicOk.auto; exact rfl; (first | (apply Rd_loadn tb; exact rfl; exact rfl; exact rfl; exact Has.auto; exact h19) | (apply Rd_indexAddrA tb; exact rfl; exact rfl; exact rfl; exact rfl; exact hix) | exact Rd_auto)); (apply Sa_take 8; exact rfl; kernel_rfl; exact PanicOk.auto; exact rfl; (first | (apply Rd_loadn tb; exact rfl; exact rfl; exact rfl; exact Has.auto; exact h19) | (apply Rd_indexAddrA tb; exact rfl; exact rfl; exact rfl; exact rfl; exact hix) | exact Rd_auto)); (apply Sa_take 9; exact rfl; kernel_rfl; exact PanicOk.auto; exact rfl; (first | (apply Rd_loadn tb; exact rfl; exact rfl; exact rfl; exact Has.auto; exact h19) | (apply Rd_indexAddrA tb; exact rfl; exact rfl; exact rfl; exact rfl; exact hix) | exact Rd_auto)); (apply Sa_one (i := 6); kernel_rfl; exact .inr (by exact Split.auto)); (apply Sa_op; exact rfl; exact rfl); (first | (apply St_call (hf := hp); exact rfl; exact rfl; exact Split.auto; rintro _ _ ⟨rfl, rfl⟩) | (apply St_store1e tb; exact rfl; exact rfl; exact rfl; exact rfl; exact rfl; exact Has.auto; exact s0; exact n0) | (apply St_rd; exact rfl; (first | (apply Rd_loadn tb; exact rfl; exact rfl; exact rfl; exact Has.auto; exact h19) | (apply Rd_indexAddrA tb; exact rfl; exact rfl; exact rfl; exact rfl; exact hix))) | (apply Sq_rd; exact rfl; (first | (apply Rd_loadn tb; exact rfl; exact rfl; exact rfl; exact Has.auto; exact h19) | (apply Rd_indexAddrA tb; exact rfl; exact rfl; exact rfl; exact rfl; exact hix))) | (refine St_step ?_; (try with_reducible intro _)) | (refine St_step2 ?_ ?_ <;> (intro hb; (try simp only [beq_iff_eq, bne_iff_ne, decide_eq_true_eq, decide_eq_false_iff_not, Bool.not_eq_true', Bool.not_eq_false', beq_eq_false_iff_ne, bne_eq_false_iff_eq, ne_eq, Int.not_lt, Int.not_le, gt_iff_lt, ge_iff_le] at hb); (try (first | exact Bool.noConfusion hb | exact absurd trivial hb | (exfalso; omega))))) | fail); (apply Sa_take 10; exact rfl; kernel_rfl; exact PanicOk.auto; exact rfl; (first | (apply Rd_loadn tb; exact rfl; exact rfl; exact rfl; exact Has.auto; exact h19) | (apply Rd_indexAddrA tb; exact rfl; exact rfl; exact rfl; exact rfl; exact hix) | exact Rd_auto)); (apply Sa_one (i := 11); kernel_rfl; exact .inr (by exact Split.auto)); (apply Sa_op; exact rfl; exact rfl); (first | (apply St_call (hf := hp); exact rfl; exact rfl; exact Split.auto; rintro _ _ ⟨rfl, rfl⟩) | (apply St_store1e tb; exact rfl; exact rfl; exact rfl; exact rfl; exact rfl; exact Has.auto; exact s0; exact n0) | (apply St_rd; exact rfl; (first | (apply Rd_loadn tb; exact rfl; exact rfl; exact rfl; exact Has.auto; exact h19) | (apply Rd_indexAddrA tb; exact rfl; exact rfl; exact rfl; exact rfl; exact hix))) | (apply Sq_rd; exact rfl; (first | (apply Rd_loadn tb; exact rfl; exact rfl; exact rfl; exact Has.auto; exact h19) | (apply Rd_indexAddrA tb; exact rfl; exact rfl; exact rfl; exact rfl; exact hix))) | (refine St_step ?_; (try with_reducible intro _)) | (refine St_step2 ?_ ?_ <;> (intro hb; (try simp only [beq_iff_eq, bne_iff_ne, decide_eq_true_eq, decide_eq_false_iff_not, Bool.not_eq_true', Bool.not_eq_false', beq_eq_false_iff_ne, bne_eq_false_iff_eq, ne_eq, Int.not_lt, Int.not_le, gt_iff_lt, ge_iff_le] at hb); (try (first | exact Bool.noConfusion hb | exact absurd trivial hb | (exfalso; omega))))) | fail); (apply Sa_done (R := []); kernel_rfl; refine .inl ?_; kernel_rfl)) | (apply St_regionQ; kernel_rfl; kernel_rfl) | (apply St_store1e tb; exact rfl; exact rfl; exact rfl; exact rfl; exact rfl; exact Has.auto; exact s1; exact n1) | (apply St_store1e tb; exact rfl; exact rfl; exact rfl; exact rfl; exact rfl; exact Has.auto; exact s2; exact n2) | (apply St_rd; exact rfl; (first | (apply Rd_loadn tb; exact rfl; exact rfl; exact rfl; exact Has.auto; exact h19) | (apply Rd_loadn tb; exact rfl; exact rfl; exact rfl; exact Has.auto; exact g1) | (apply Rd_addN; exact rfl; exact rfl; omega))) | (apply Sq_rd; exact rfl; (first | (apply Rd_loadn tb; exact rfl; exact rfl; exact rfl; exact Has.auto; exact h19) | (apply Rd_loadn tb; exact rfl; exact rfl; exact rfl; exact Has.auto; exact g1) | (apply Rd_addN; exact rfl; exact rfl; omega))) | (refine St_step ?_; (try with_reducible intro _)) | (refine St_step2 ?_ ?_ <;> (intro hb; (try simp only [beq_iff_eq, bne_iff_ne, decide_eq_true_eq, decide_eq_false_iff_not, Bool.not_eq_true', Bool.not_eq_false', beq_eq_false_iff_ne, bne_eq_false_iff_eq, ne_eq, Int.not_lt, Int.not_le, gt_iff_lt, ge_iff_le] at hb); (try (first | exact Bool.noConfusion hb | exact absurd trivial hb | (exfalso; omega))))) | fail)
    all_goals first | (exfalso; omega) | skip
    have hql : (r.q ++ [d]).length = r.q.length + 1 := by simp
    refine St_rcMk (r := ⟨r.room, r.acked + 1, r.q ++ [d]⟩) hpush (by dsimp only; rw [hql]; exact Has.auto) ?_
    exact St_ret1 (.inl rfl) rfl rfl ⟨rfl, rfl⟩ (by exact Split.auto)
theorem rcPop_sp (b : Nat) (r : Rc) : Sp Tryz.prog 74 [.pointer (some ⟨b, 0, none⟩)] [RcP b r]
    (fun v M => v = .tuple [str (r.q.headD []), .bool (!r.q.isEmpty)].toArray ∧ M = [RcP b (rcPop r)]) := by
  refine Sp.intro (P := Tryz.prog) (Tryz.func74) rfl Tryz.ntmps74 (by decide) rfl ?_
  intro ρ F
  refine St_rcOpen (by exact Has.auto) fun ring frm hr => ?_
  have hl := hr.len
  have hfr := hr.frm_lt
  have hq16 := hr.q_le
  obtain ⟨room, acked, q⟩ := r
  dsimp only at *
  cases q with
  | nil =>
    have h19 := rcC_19 (room := room) (acked := acked) (frm := frm) (n := 0) hl
    repeat' (first | (apply St_rd; exact rfl; (first | (apply Rd_loadn tb; exact rfl; exact rfl; exact rfl; exact Has.auto; exact h19))) | (apply Sq_rd; exact rfl; (first | (apply Rd_loadn tb; exact rfl; exact rfl; exact rfl; exact Has.auto; exact h19))) | (refine St_step ?_; (try with_reducible intro _)) | (refine St_step2 ?_ ?_ <;> (intro hb; (try simp only [beq_iff_eq, bne_iff_ne, decide_eq_true_eq, decide_eq_false_iff_not, Bool.not_eq_true', Bool.not_eq_false', beq_eq_false_iff_ne, bne_eq_false_iff_eq, ne_eq, Int.not_lt, Int.not_le, gt_iff_lt, ge_iff_le] at hb); (try (first | exact Bool.noConfusion hb | exact absurd trivial hb | (exfalso; omega))))) | fail)
    refine St_rcMk (r := ⟨room, acked, []⟩) hr (by exact Has.auto) ?_
    exact St_ret2 (.inl rfl) rfl rfl rfl ⟨rfl, rfl⟩ (by exact Split.auto)
  | cons x q =>
    simp only [List.length_cons] at hq16
    have h0 := hr.at_ 0 (by simp)
    rw [Nat.add_zero, Nat.mod_eq_of_lt hfr] at h0
    have h0 : ring[frm]? = some x := by simpa using h0
    have hpop := ringOk_pop hr []
    have hl2 := hpop.len
    have hn : (x :: q).length = q.length + 1 := rfl
    rw [hn]
    have h19 := rcC_19 (room := room) (acked := acked) (frm := frm) (n := q.length + 1) hl
    have h18 := rcC_18 (room := room) (acked := acked) (frm := frm) (n := q.length + 1) hl
    have h18' := rcC_18 (room := room) (acked := acked) (frm := frm) (n := q.length + 1) hl2
    have hx := rcC_at (room := room) (acked := acked) (frm := frm) (n := q.length + 1) h0
    have g19 := rcC_19 (room := room) (acked := acked) (frm := (frm + 1) % 16) (n := q.length + 1) hl2
    have hp := place_sp b 1 frm (q.length + 1) room acked (ring.set frm []) hl2 (by decide) hfr
    have s0 := rcC_set (room := room) (acked := acked) (frm := frm) (n := q.length + 1) (x := []) (show frm < ring.length by omega)
    have s1 := rcC_s18 (room := room) (acked := acked) (frm := frm) (n := q.length + 1) (m := (frm + 1) % 16) hl2
    have s2 := rcC_s19 (room := room) (acked := acked) (frm := (frm + 1) % 16) (n := q.length + 1) (m := q.length) hl2
    have hcast : 0 + 2 + ((frm : Nat) : Int).toNat * 1 = 2 + frm := by omega
    rw [← hcast] at s0 hx
    have n0 : 0 + 2 + ((frm : Nat) : Int).toNat * 1 < (rcC room acked ring frm (q.length + 1)).length := by rw [rcC_len hl]; omega
    have n1 : 0 + 18 < (rcC room acked (ring.set frm []) frm (q.length + 1)).length := by rw [rcC_len hl2]; decide
    have n2 : 0 + 19 < (rcC room acked (ring.set frm []) ((frm + 1) % 16) (q.length + 1)).length := by rw [rcC_len hl2]; decide
    have hix : 0 ≤ (frm : Int) ∧ (frm : Int) < ((16 : Nat) : Int) := by omega
    repeat' (first | (apply St_regionA (8) ([cel false b 177 (rcC room acked ring frm (q.length + 1))]); kernel_rfl; (apply Sa_take 0; exact rfl; kernel_rfl; exact PanicOk.auto; exact rfl; (first | (apply Rd_loadn tb; exact rfl; exact rfl; exact rfl; exact Has.auto; exact h18) | (apply Rd_indexAddrA tb; exact rfl; exact rfl; exact rfl; exact rfl; exact hix) | exact Rd_auto)); (apply Sa_take 1; exact rfl; kernel_rfl; exact PanicOk.auto; exact rfl; (first | (apply Rd_loadn tb; exact rfl; exact rfl; exact rfl; exact Has.auto; exact h18) | (apply Rd_indexAddrA tb; exact rfl; exact rfl; exact rfl; exact rfl; exact hix) | exact Rd_auto)); (apply Sa_take 2; exact rfl; kernel_rfl; exact PanicOk.auto; exact rfl; (first | (apply Rd_loadn tb; exact rfl; exact rfl; exact rfl; exact Has.auto; exact h18) | (apply Rd_indexAddrA tb; exact rfl; exact rfl; exact rfl; exact rfl; exact hix) | exact Rd_auto)); (apply Sa_take 3; exact rfl; kernel_rfl; exact PanicOk.auto; exact rfl; (first | (apply Rd_loadn tb; exact rfl; exact rfl; exact rfl; exact Has.auto; exact h18) | (apply Rd_indexAddrA tb; exact rfl; exact rfl; exact rfl; exact rfl; exact hix) | exact Rd_auto)); (apply Sa_take 4; exact rfl; kernel_rfl; exact PanicOk.auto; exact rfl; (first | (apply Rd_loadn tb; exact rfl; exact rfl; exact rfl; exact Has.auto; exact h18) | (apply Rd_indexAddrA tb; exact rfl; exact rfl; exact rfl; exact rfl; exact hix) | exact Rd_auto)); (apply Sa_take 5; exact rfl; kernel_rfl; exact PanicOk.auto; exact rfl; (first | (apply Rd_loadn tb; exact rfl; exact rfl; exact rfl; exact Has.auto; exact h18) | (apply Rd_indexAddrA tb; exact rfl; exact rfl; exact rfl; exact rfl; exact hix) | exact Rd_auto)); (apply Sa_take 6; exact rfl; kernel_rfl; exact PanicOk.auto; exact rfl; (first | (apply Rd_loadn tb; exact rfl; exact rfl; exact rfl; exact Has.auto; exact h18) | (apply Rd_indexAddrA tb; exact rfl; exact rfl; exact rfl; exact rfl; exact hix) | exact Rd_auto)); (apply Sa_take 7; exact rfl; kernel_rfl; exact PanicOk.auto; exact rfl; (first | (apply Rd_loadn tb; exact rfl; exact rfl; exact rfl; exact Has.auto; exact h18) | (apply Rd_indexAddrA tb; exact rfl; exact rfl; exact rfl; exact rfl; exact hix) | exact Rd_auto)); (apply Sa_one (i := 8); kernel_rfl; exact .inr (by exact Split.auto)); (apply Sa_op; exact rfl; exact rfl); (first | (apply St_store1e tb; exact rfl; exact rfl; exact rfl; exact rfl; exact rfl; exact Has.auto; exact s0; exact n0) | (apply St_rd; exact rfl; (first | (apply Rd_loadn tb; exact rfl; exact rfl; exact rfl; exact Has.auto; exact h18) | (apply Rd_indexAddrA tb; exact rfl; exact rfl; exact rfl; exact rfl; exact hix))) | (apply Sq_rd; exact rfl; (first | (apply Rd_loadn tb; exact rfl; exact rfl; exact rfl; exact Has.auto; exact h18) | (apply Rd_indexAddrA tb; exact rfl; exact rfl; exact rfl; exact rfl; exact hix))) | (refine St_step ?_; (try with_reducible intro _)) | (refine St_step2 ?_ ?_ <;> (intro hb; (try simp only [beq_iff_eq, bne_iff_ne, decide_eq_true_eq, decide_eq_false_iff_not, Bool.not_eq_true', Bool.not_eq_false', beq_eq_false_iff_ne, bne_eq_false_iff_eq, ne_eq, Int.not_lt, Int.not_le, gt_iff_lt, ge_iff_le] at hb); (try (first | exact Bool.noConfusion hb | exact absurd trivial hb | (exfalso; omega))))) | fail); (apply Sa_done (R := []); kernel_rfl; refine .inl ?_; kernel_rfl)) | (apply St_regionQ; kernel_rfl; kernel_rfl) | (apply St_call (hf := hp); exact rfl; exact rfl; exact Split.auto; rintro _ _ ⟨rfl, rfl⟩) | (apply St_store1e tb; exact rfl; exact rfl; exact rfl; exact rfl; exact rfl; exact Has.auto; exact s1; exact n1) | (apply St_store1e tb; exact rfl; exact rfl; exact rfl; exact rfl; exact rfl; exact Has.auto; exact s2; exact n2) | (apply St_rd; exact rfl; (first | (apply Rd_indexAddrA tb; exact rfl; exact rfl; exact rfl; exact rfl; exact hix) | (apply Rd_loadn tb; exact rfl; exact rfl; exact rfl; exact Has.auto; exact h19) | (apply Rd_loadn tb; exact rfl; exact rfl; exact rfl; exact Has.auto; exact h18) | (apply Rd_loadn tb; exact rfl; exact rfl; exact rfl; exact Has.auto; exact hx) | (apply Rd_loadn tb; exact rfl; exact rfl; exact rfl; exact Has.auto; exact g19) | (apply Rd_pred; exact rfl; exact rfl; omega))) | (apply Sq_rd; exact rfl; (first | (apply Rd_indexAddrA tb; exact rfl; exact rfl; exact rfl; exact rfl; exact hix) | (apply Rd_loadn tb; exact rfl; exact rfl; exact rfl; exact Has.auto; exact h19) | (apply Rd_loadn tb; exact rfl; exact rfl; exact rfl; exact Has.auto; exact h18) | (apply Rd_loadn tb; exact rfl; exact rfl; exact rfl; exact Has.auto; exact hx) | (apply Rd_loadn tb; exact rfl; exact rfl; exact rfl; exact Has.auto; exact g19) | (apply Rd_pred; exact rfl; exact rfl; omega))) | (refine St_step ?_; (try with_reducible intro _)) | (refine St_step2 ?_ ?_ <;> (intro hb; (try simp only [beq_iff_eq, bne_iff_ne, decide_eq_true_eq, decide_eq_false_iff_not, Bool.not_eq_true', Bool.not_eq_false', beq_eq_false_iff_ne, bne_eq_false_iff_eq, ne_eq, Int.not_lt, Int.not_le, gt_iff_lt, ge_iff_le] at hb); (try (first | exact Bool.noConfusion hb | exact absurd trivial hb | (exfalso; omega))))) | fail)
    all_goals first | (exfalso; omega) | skip
    refine St_rcMk (r := ⟨room, acked, q⟩) hpop (by exact Has.auto) ?_
    exact St_ret2 (.inl rfl) rfl rfl rfl ⟨rfl, rfl⟩ (by exact Split.auto)
end Go.Proofs.YtfjnacakpeommaaGreatDoor
/- Contracts: package link. -/
namespace Go.Proofs.YtfjnacakpeommaaGreatDoor
open Go SL Pl
set_option autoImplicit false
set_option maxRecDepth 100000
set_option linter.unusedSimpArgs false
set_option linter.unusedVariables false
attribute [local irreducible] St Sq Exec QExec wpList wpQuiet Code.wp Exit.then Exit.inBlock bodyPost At Rd wpOp Wa QK GB
structure sdOk (s : Sd) : Prop where
  w1 : 1 ≤ s.win
  w : s.win ≤ 16
  l : s.ps.length ≤ s.win
  m : s.last ≤ 1125899906842624
  t : s.acked + s.ps.length ≤ s.last
structure rcOk (r : Rc) : Prop where
  r1 : 1 ≤ r.room
  rr : r.room ≤ 16
  q : r.q.length ≤ r.room
  a : r.acked ≤ 1125899906842624
structure lkOk (k : Lk) : Prop where
  sd : sdOk k.sd
  rc : rcOk k.rc
  ep : k.ep ≤ 1099511627776
theorem clampN_bd (w lo hi : Int) (h : lo ≤ hi) : lo ≤ clampN w lo hi ∧ clampN w lo hi ≤ hi := by
  unfold clampN; (repeat' split) <;> omega
theorem sdOk_new (w l : Int) : sdOk (sdNew w l) := by
  have h1 := clampN_bd w 1 16 (by decide)
  have h2 := clampN_bd l 0 1125899906842624 (by decide)
  unfold sdNew
  exact ⟨by show 1 ≤ (clampN w 1 16).toNat; omega, by show (clampN w 1 16).toNat ≤ 16; omega, Nat.zero_le _, by show (clampN l 0 1125899906842624).toNat ≤ _; omega, Nat.zero_le _⟩
theorem rcOk_new (w : Int) : rcOk (rcNew w) := by
  have h1 := clampN_bd w 1 16 (by decide)
  unfold rcNew
  exact ⟨by show 1 ≤ (clampN w 1 16).toNat; omega, by show (clampN w 1 16).toNat ≤ 16; omega, Nat.zero_le _, Nat.zero_le _⟩
theorem lkOk_new (e w r : Int) (p : Bool) : lkOk (lkNew e w r p) := by
  have h1 := clampN_bd e 0 1099511627776 (by decide)
  exact ⟨sdOk_new _ _, rcOk_new _, by show (clampN e 0 1099511627776).toNat ≤ _; omega⟩
theorem sdOk_offer {s : Sd} (h : sdOk s) (d : List UInt8) : sdOk (sdOffer s d).1 := by
  unfold sdOffer
  split
  · exact h
  · split
    · exact h
    · rename_i h1 h2
      exact ⟨h.w1, h.w, by simp; omega, h.m, by simp; omega⟩
theorem sdGone_le (s : Sd) (n : Int) : sdGone s n ≤ s.ps.length := by unfold sdGone; split <;> omega
theorem sdOk_ack {s : Sd} (h : sdOk s) (n : Int) : sdOk (sdAck s n) := by
  have hg := sdGone_le s n
  have h1 := h.l
  have h2 := h.t
  exact ⟨h.w1, h.w, by simp [sdAck]; omega, h.m, by simp [sdAck]; omega⟩
theorem rcOk_hear {r : Rc} (h : rcOk r) {seq : Int} (hs : seq ≤ 1125899906842624) (d : List UInt8) : rcOk (rcHear r seq d) := by
  unfold rcHear
  split
  · exact h
  · rename_i h1
    exact ⟨h.r1, h.rr, by simp; omega, by show r.acked + 1 ≤ _; omega⟩
theorem rcOk_pop {r : Rc} (h : rcOk r) : rcOk (rcPop r) := ⟨h.r1, h.rr, by have := h.q; simp [rcPop]; omega, h.a⟩
theorem lkOk_hear {k : Lk} (h : lkOk k) {f : Fr} (hf : frIn f) : lkOk (lkHear k f) := by
  obtain ⟨_, ⟨h3, h4⟩, _⟩ := hf
  unfold lkHear
  split
  · exact h
  · dsimp only
    have h1 : lkOk (if lkAnew k f = true then lkFresh k f.ep else k) := by
      split
      · exact lkOk_new f.ep k.win k.room k.pas
      · exact h
    generalize (if lkAnew k f = true then lkFresh k f.ep else k) = k1 at *
    refine ⟨sdOk_ack h1.sd _, ?_, h1.ep⟩
    show rcOk (if f.seq = 0 then k1.rc else rcHear k1.rc f.seq f.data)
    split
    · exact h1.rc
    · exact rcOk_hear h1.rc h4 _
/-- A link's chunks. -/
def lkL (b : Nat) (k : Lk) (z : Nat × Nat) : List HP :=
  [cel false b 132 [.pointer (some ⟨z.1, 0, none⟩), .pointer (some ⟨z.2, 0, none⟩), nat .i64 k.ep, .int .i64 k.win, .int .i64 k.room, .bool k.pas], SdP z.1 k.sd, RcP z.2 k.rc]
def LkP (b : Nat) (k : Lk) : HP := ex fun z => big (lkL b k z)
theorem begin_sp (b : Nat) (e w r : Int) (p : Bool) (v0 v1 v2 : Value) : Sp Tryz.prog 64 [.pointer (some ⟨b, 0, none⟩), .int .i64 e] [cel false b 132 [v0, v1, v2, .int .i64 w, .int .i64 r, .bool p]]
    (fun v M => v = .tuple #[] ∧ M = [LkP b (lkNew e w r p)]) := by
  refine Sp.intro (P := Tryz.prog) (Tryz.func64) rfl Tryz.ntmps64 (by decide) rfl ?_
  intro ρ F
  repeat' (first | (apply St_regionA (14) ([cel false b 132 [v0, v1, .int .i64 (if 1099511627776 < (if 0 > e then 0 else e) then 1099511627776 else (if 0 > e then 0 else e)), .int .i64 w, .int .i64 r, .bool p]]); kernel_rfl; (apply Sa_take 0; exact rfl; kernel_rfl; exact PanicOk.auto; exact rfl; (first | exact Rd_auto)); (apply Sa_take 1; exact rfl; kernel_rfl; exact PanicOk.auto; exact rfl; (first | exact Rd_auto)); (apply Sa_take 2; exact rfl; kernel_rfl; exact PanicOk.auto; exact rfl; (first | exact Rd_auto)); (apply Sa_take 3; exact rfl; kernel_rfl; exact PanicOk.auto; exact rfl; (first | exact Rd_auto)); (apply Sa_take 4; exact rfl; kernel_rfl; exact PanicOk.auto; exact rfl; (first | exact Rd_auto)); (apply Sa_take 6; exact rfl; kernel_rfl; exact PanicOk.auto; exact rfl; (first | exact Rd_auto)); (apply Sa_take 7; exact rfl; kernel_rfl; exact PanicOk.auto; exact rfl; (first | exact Rd_auto)); (apply Sa_take 8; exact rfl; kernel_rfl; exact PanicOk.auto; exact rfl; (first | exact Rd_auto)); (apply Sa_take 9; exact rfl; kernel_rfl; exact PanicOk.auto; exact rfl; (first | exact Rd_auto)); (apply Sa_one (i := 5); kernel_rfl; exact .inr (by exact Split.auto)); (apply Sa_op; exact rfl; exact rfl); (first | (apply St_call (hf := sdNew_sp w 1125899906842624); exact rfl; exact rfl; exact Split.auto; rintro _ _ ⟨b1, rfl, rfl⟩) | (apply St_call (hf := rcNew_sp r); exact rfl; exact rfl; exact Split.auto; rintro _ _ ⟨b2, rfl, rfl⟩) | (apply St_storeVe tb; exact rfl; exact rfl; exact rfl; exact rfl; exact rfl; exact Has.auto; exact rfl; exact rfl) | (refine St_step ?_; (try with_reducible intro _)) | (refine St_step2 ?_ ?_ <;> (intro hb; (try simp only [beq_iff_eq, bne_iff_ne, decide_eq_true_eq, decide_eq_false_iff_not, Bool.not_eq_true', Bool.not_eq_false', beq_eq_false_iff_ne, bne_eq_false_iff_eq, ne_eq, Int.not_lt, Int.not_le, gt_iff_lt, ge_iff_le] at hb); (try (first | exact Bool.noConfusion hb | exact absurd trivial hb | (exfalso; omega))))) | fail); (apply Sa_one (i := 10); kernel_rfl; exact .inr (by exact Split.auto)); (apply Sa_op; exact rfl; exact rfl); (first | (apply St_call (hf := sdNew_sp w 1125899906842624); exact rfl; exact rfl; exact Split.auto; rintro _ _ ⟨b1, rfl, rfl⟩) | (apply St_call (hf := rcNew_sp r); exact rfl; exact rfl; exact Split.auto; rintro _ _ ⟨b2, rfl, rfl⟩) | (apply St_storeVe tb; exact rfl; exact rfl; exact rfl; exact rfl; exact rfl; exact Has.auto; exact rfl; exact rfl) | (refine St_step ?_; (try with_reducible intro _)) | (refine St_step2 ?_ ?_ <;> (intro hb; (try simp only [beq_iff_eq, bne_iff_ne, decide_eq_true_eq, decide_eq_false_iff_not, Bool.not_eq_true', Bool.not_eq_false', beq_eq_false_iff_ne, bne_eq_false_iff_eq, ne_eq, Int.not_lt, Int.not_le, gt_iff_lt, ge_iff_le] at hb); (try (first | exact Bool.noConfusion hb | exact absurd trivial hb | (exfalso; omega))))) | fail); (apply Sa_take 11; exact rfl; kernel_rfl; exact PanicOk.auto; exact rfl; (first | exact Rd_auto)); (apply Sa_take 12; exact rfl; kernel_rfl; exact PanicOk.auto; exact rfl; (first | exact Rd_auto)); (apply Sa_take 13; exact rfl; kernel_rfl; exact PanicOk.auto; exact rfl; (first | exact Rd_auto)); (apply Sa_one (i := 14); kernel_rfl; exact .inr (by exact Split.auto)); (apply Sa_op; exact rfl; exact rfl); (first | (apply St_call (hf := sdNew_sp w 1125899906842624); exact rfl; exact rfl; exact Split.auto; rintro _ _ ⟨b1, rfl, rfl⟩) | (apply St_call (hf := rcNew_sp r); exact rfl; exact rfl; exact Split.auto; rintro _ _ ⟨b2, rfl, rfl⟩) | (apply St_storeVe tb; exact rfl; exact rfl; exact rfl; exact rfl; exact rfl; exact Has.auto; exact rfl; exact rfl) | (refine St_step ?_; (try with_reducible intro _)) | (refine St_step2 ?_ ?_ <;> (intro hb; (try simp only [beq_iff_eq, bne_iff_ne, decide_eq_true_eq, decide_eq_false_iff_not, Bool.not_eq_true', Bool.not_eq_false', beq_eq_false_iff_ne, bne_eq_false_iff_eq, ne_eq, Int.not_lt, Int.not_le, gt_iff_lt, ge_iff_le] at hb); (try (first | exact Bool.noConfusion hb | exact absurd trivial hb | (exfalso; omega))))) | fail); (apply Sa_done (R := []); kernel_rfl; refine .inl ?_; kernel_rfl)) | (refine St_step ?_; (try with_reducible intro _)) | (refine St_step2 ?_ ?_ <;> (intro hb; (try simp only [beq_iff_eq, bne_iff_ne, decide_eq_true_eq, decide_eq_false_iff_not, Bool.not_eq_true', Bool.not_eq_false', beq_eq_false_iff_ne, bne_eq_false_iff_eq, ne_eq, Int.not_lt, Int.not_le, gt_iff_lt, ge_iff_le] at hb); (try (first | exact Bool.noConfusion hb | exact absurd trivial hb | (exfalso; omega))))) | fail)
  refine St_cel (r := false) (b := b) (cs' := [.pointer (some ⟨b1, 0, none⟩), .pointer (some ⟨b2, 0, none⟩), nat .i64 (lkNew e w r p).ep, .int .i64 w, .int .i64 r, .bool p]) (by exact Has.auto) ?_ ?_
  · rw [clamp_val (by decide), clamp_nat (w := e) (lo := 0) (hi := 1099511627776) (by decide) (by decide)]
    rfl
  refine St_exMk (l := lkL b (lkNew e w r p)) (b1, b2) (by exact Split.auto) ?_
  exact St_ret0 (.inr rfl) rfl ⟨rfl, rfl⟩ (by exact Split.auto)
theorem lkNew_sp (e w r : Int) (p : Bool) : Sp Tryz.prog 28 [.int .i64 e, .int .i64 w, .int .i64 r, .bool p] [] (fun v M => ∃ b, v = .pointer (some ⟨b, 0, none⟩) ∧ M = [LkP b (lkNew e w r p)]) := by
  refine Sp.intro (P := Tryz.prog) (Tryz.func28) rfl Tryz.ntmps28 (by decide) rfl ?_
  intro ρ F
  repeat' (first | (apply St_call (hf := begin_sp _ e w r p _ _ _); exact rfl; exact rfl; exact Split.auto; rintro _ _ ⟨rfl, rfl⟩) | (refine St_step ?_; (try with_reducible intro _)) | (refine St_step2 ?_ ?_ <;> (intro hb; (try simp only [beq_iff_eq, bne_iff_ne, decide_eq_true_eq, decide_eq_false_iff_not, Bool.not_eq_true', Bool.not_eq_false', beq_eq_false_iff_ne, bne_eq_false_iff_eq, ne_eq, Int.not_lt, Int.not_le, gt_iff_lt, ge_iff_le] at hb); (try (first | exact Bool.noConfusion hb | exact absurd trivial hb | (exfalso; omega))))) | fail)
  exact St_ret1 (.inl rfl) rfl rfl ⟨_, rfl, rfl⟩ (by exact Split.auto)
theorem lkEpoch_sp (b : Nat) (k : Lk) : Sp Tryz.prog 34 [.pointer (some ⟨b, 0, none⟩)] [LkP b k] (fun v M => v = nat .i64 k.ep ∧ M = [LkP b k]) := by
  refine Sp.intro (P := Tryz.prog) (Tryz.func34) rfl Tryz.ntmps34 (by decide) rfl ?_
  intro ρ F
  refine St_exOpen (l := lkL b k) (by exact Has.auto) fun z => ?_
  repeat' (first | (refine St_step ?_; (try with_reducible intro _)) | (refine St_step2 ?_ ?_ <;> (intro hb; (try simp only [beq_iff_eq, bne_iff_ne, decide_eq_true_eq, decide_eq_false_iff_not, Bool.not_eq_true', Bool.not_eq_false', beq_eq_false_iff_ne, bne_eq_false_iff_eq, ne_eq, Int.not_lt, Int.not_le, gt_iff_lt, ge_iff_le] at hb); (try (first | exact Bool.noConfusion hb | exact absurd trivial hb | (exfalso; omega))))) | fail)
  refine St_exMk (l := lkL b k) z (by exact Split.auto) ?_
  exact St_ret1 (.inl rfl) rfl rfl ⟨rfl, rfl⟩ (by exact Split.auto)
theorem lkUn_sp (b : Nat) (k : Lk) : Sp Tryz.prog 53 [.pointer (some ⟨b, 0, none⟩)] [LkP b k] (fun v M => v = nat .i64 k.sd.ps.length ∧ M = [LkP b k]) := by
  refine Sp.intro (P := Tryz.prog) (Tryz.func53) rfl Tryz.ntmps53 (by decide) rfl ?_
  intro ρ F
  refine St_exOpen (l := lkL b k) (by exact Has.auto) fun z => ?_
  repeat' (first | (apply St_call (hf := sdUn_sp z.1 k.sd); exact rfl; exact rfl; exact Split.auto; rintro _ _ ⟨rfl, rfl⟩) | (refine St_step ?_; (try with_reducible intro _)) | (refine St_step2 ?_ ?_ <;> (intro hb; (try simp only [beq_iff_eq, bne_iff_ne, decide_eq_true_eq, decide_eq_false_iff_not, Bool.not_eq_true', Bool.not_eq_false', beq_eq_false_iff_ne, bne_eq_false_iff_eq, ne_eq, Int.not_lt, Int.not_le, gt_iff_lt, ge_iff_le] at hb); (try (first | exact Bool.noConfusion hb | exact absurd trivial hb | (exfalso; omega))))) | fail)
  refine St_exMk (l := lkL b k) z (by exact Split.auto) ?_
  exact St_ret1 (.inl rfl) rfl rfl ⟨rfl, rfl⟩ (by exact Split.auto)
def lkPop (k : Lk) : Lk := ⟨k.sd, rcPop k.rc, k.ep, k.win, k.room, k.pas⟩
theorem lkPop_sp (b : Nat) (k : Lk) : Sp Tryz.prog 37 [.pointer (some ⟨b, 0, none⟩)] [LkP b k]
    (fun v M => v = .tuple [str (k.rc.q.headD []), .bool (!k.rc.q.isEmpty)].toArray ∧ M = [LkP b (lkPop k)]) := by
  refine Sp.intro (P := Tryz.prog) (Tryz.func37) rfl Tryz.ntmps37 (by decide) rfl ?_
  intro ρ F
  refine St_exOpen (l := lkL b k) (by exact Has.auto) fun z => ?_
  repeat' (first | (apply St_call (hf := rcPop_sp z.2 k.rc); exact rfl; exact rfl; exact Split.auto; rintro _ _ ⟨rfl, rfl⟩) | (refine St_step ?_; (try with_reducible intro _)) | (refine St_step2 ?_ ?_ <;> (intro hb; (try simp only [beq_iff_eq, bne_iff_ne, decide_eq_true_eq, decide_eq_false_iff_not, Bool.not_eq_true', Bool.not_eq_false', beq_eq_false_iff_ne, bne_eq_false_iff_eq, ne_eq, Int.not_lt, Int.not_le, gt_iff_lt, ge_iff_le] at hb); (try (first | exact Bool.noConfusion hb | exact absurd trivial hb | (exfalso; omega))))) | fail)
  refine St_exMk (l := lkL b (lkPop k)) z (by exact Split.auto) ?_
  exact St_ret2 (.inl rfl) rfl rfl rfl ⟨rfl, rfl⟩ (by exact Split.auto)
def lkOffer (k : Lk) (d : List UInt8) : Lk := ⟨(sdOffer k.sd d).1, k.rc, k.ep, k.win, k.room, k.pas⟩
theorem lkOffer_sp (b : Nat) (k : Lk) (d : List UInt8) (hk : lkOk k) : Sp Tryz.prog 87 [.pointer (some ⟨b, 0, none⟩), str d] [LkP b k]
    (fun v M => v = nat .i64 (sdOffer k.sd d).2 ∧ M = [LkP b (lkOffer k d)]) := by
  refine Sp.intro (P := Tryz.prog) (Tryz.func87) rfl Tryz.ntmps87 (by decide) rfl ?_
  intro ρ F
  refine St_exOpen (l := lkL b k) (by exact Has.auto) fun z => ?_
  have h1 := hk.sd.m
  have h2 := hk.sd.t
  repeat' (first | (apply St_call (hf := sdOffer_sp z.1 k.sd d hk.sd.l hk.sd.w (by omega) hk.sd.m hk.sd.t); exact rfl; exact rfl; exact Split.auto; rintro _ _ ⟨rfl, rfl⟩) | (refine St_step ?_; (try with_reducible intro _)) | (refine St_step2 ?_ ?_ <;> (intro hb; (try simp only [beq_iff_eq, bne_iff_ne, decide_eq_true_eq, decide_eq_false_iff_not, Bool.not_eq_true', Bool.not_eq_false', beq_eq_false_iff_ne, bne_eq_false_iff_eq, ne_eq, Int.not_lt, Int.not_le, gt_iff_lt, ge_iff_le] at hb); (try (first | exact Bool.noConfusion hb | exact absurd trivial hb | (exfalso; omega))))) | fail)
  refine St_exMk (l := lkL b (lkOffer k d)) z (by exact Split.auto) ?_
  exact St_ret1 (.inl rfl) rfl rfl ⟨rfl, rfl⟩ (by exact Split.auto)
theorem lkHear_stay {k : Lk} {f : Fr} (h : f.ep < k.ep ∨ ((k.ep : Int) < f.ep ∧ k.pas = false)) : lkHear k f = k := if_pos h
theorem lkHear_go {k : Lk} {f : Fr} (h : ¬ (f.ep < k.ep ∨ ((k.ep : Int) < f.ep ∧ k.pas = false))) : lkHear k f =
    ⟨sdAck (if lkAnew k f then lkFresh k f.ep else k).sd f.ack, if f.seq = 0 then (if lkAnew k f then lkFresh k f.ep else k).rc else rcHear (if lkAnew k f then lkFresh k f.ep else k).rc f.seq f.data, (if lkAnew k f then lkFresh k f.ep else k).ep, (if lkAnew k f then lkFresh k f.ep else k).win, (if lkAnew k f then lkFresh k f.ep else k).room, (if lkAnew k f then lkFresh k f.ep else k).pas⟩ := if_neg h
theorem sdAck_ps (s : Sd) (n : Int) : (sdAck s n).ps.length ≤ s.ps.length := by simp [sdAck]
set_option maxHeartbeats 1000000 in
theorem lkHear_sp (b : Nat) (k : Lk) (f : Fr) (hk : lkOk k) : Sp Tryz.prog 35 [.pointer (some ⟨b, 0, none⟩), .agg (fv f).toArray] [LkP b k]
    (fun v M => v = .bool (lkAnew k f) ∧ M = [LkP b (lkHear k f)]) := by
  refine Sp.intro (P := Tryz.prog) (Tryz.func35) rfl Tryz.ntmps35 (by decide) rfl ?_
  intro ρ F
  have hmv : ∀ (k1 : Lk), lkOk k1 → k1.sd.ps.length ≤ 1000000 ∧ k1.sd.acked ≤ 1000000000000000000 ∧ k1.rc.room ≤ 16 ∧ k1.rc.acked ≤ 1000000000000000000 ∧ k1.rc.q.length ≤ k1.rc.room := fun k1 h => by
    have a1 := h.sd.l; have a2 := h.sd.w; have a3 := h.sd.m; have a4 := h.sd.t; have a5 := h.rc.rr; have a6 := h.rc.a; have a7 := h.rc.q
    omega
  by_cases hst : f.ep < k.ep ∨ ((k.ep : Int) < f.ep ∧ k.pas = false)
  · rw [lkHear_stay hst]
    have ha : lkAnew k f = false := by
      unfold lkAnew
      rcases hst with h | ⟨h, h2⟩
      · have : ¬ (k.ep : Int) < f.ep := by omega
        simp [this]
      · simp [h2]
    rw [ha]
    refine St_exOpen (l := lkL b k) (by exact Has.auto) fun z => ?_
    rcases hst with h | ⟨h, h2⟩
    · repeat' (first | (apply St_regionQ; kernel_rfl; kernel_rfl) | (refine St_step ?_; (try with_reducible intro _)) | (refine St_step2 ?_ ?_ <;> (intro hb; (try simp only [beq_iff_eq, bne_iff_ne, decide_eq_true_eq, decide_eq_false_iff_not, Bool.not_eq_true', Bool.not_eq_false', beq_eq_false_iff_ne, bne_eq_false_iff_eq, ne_eq, Int.not_lt, Int.not_le, gt_iff_lt, ge_iff_le] at hb); (try (first | exact Bool.noConfusion hb | exact absurd trivial hb | (exfalso; omega))))) | fail)
      all_goals first | (exfalso; omega) | skip
      all_goals refine St_exMk (l := lkL b k) z (by exact Split.auto) ?_
      all_goals exact St_ret1 (.inl rfl) rfl rfl ⟨by first | rfl | rw [decide_eq_true (by omega)] | rw [decide_eq_false (by omega)], rfl⟩ (by exact Split.auto)
    · refine St_cel (r := false) (b := b) (cs' := [.pointer (some ⟨z.1, 0, none⟩), .pointer (some ⟨z.2, 0, none⟩), nat .i64 k.ep, .int .i64 k.win, .int .i64 k.room, .bool false]) (by exact Has.auto) (by rw [h2]) ?_
      repeat' (first | (apply St_regionQ; kernel_rfl; kernel_rfl) | (refine St_step ?_; (try with_reducible intro _)) | (refine St_step2 ?_ ?_ <;> (intro hb; (try simp only [beq_iff_eq, bne_iff_ne, decide_eq_true_eq, decide_eq_false_iff_not, Bool.not_eq_true', Bool.not_eq_false', beq_eq_false_iff_ne, bne_eq_false_iff_eq, ne_eq, Int.not_lt, Int.not_le, gt_iff_lt, ge_iff_le] at hb); (try (first | exact Bool.noConfusion hb | exact absurd trivial hb | (exfalso; omega))))) | fail)
      all_goals first | (exfalso; omega) | skip
      all_goals refine St_cel (r := false) (b := b) (cs' := [.pointer (some ⟨z.1, 0, none⟩), .pointer (some ⟨z.2, 0, none⟩), nat .i64 k.ep, .int .i64 k.win, .int .i64 k.room, .bool k.pas]) (by exact Has.auto) (by rw [h2]) ?_
      all_goals refine St_exMk (l := lkL b k) z (by exact Split.auto) ?_
      all_goals exact St_ret1 (.inl rfl) rfl rfl ⟨by first | rfl | rw [decide_eq_true (by omega)] | rw [decide_eq_false (by omega)], rfl⟩ (by exact Split.auto)
  rw [lkHear_go hst]
  obtain ⟨m1, m2, m3, m4, m5⟩ := hmv (if lkAnew k f then lkFresh k f.ep else k) (by
    split
    · exact lkOk_new f.ep k.win k.room k.pas
    · exact hk)
  by_cases hgt : (k.ep : Int) < f.ep
  · have hp : k.pas = true := by
      cases h : k.pas with
      | true => rfl
      | false => exact absurd (.inr ⟨hgt, h⟩) hst
    have ha : lkAnew k f = true := by unfold lkAnew; rw [hp, decide_eq_true hgt]; rfl
    rw [ha] at m1 m2 m3 m4 m5 ⊢
    simp only [if_true] at m1 m2 m3 m4 m5 ⊢
    refine St_exOpen (l := lkL b k) (by exact Has.auto) fun z => ?_
    refine St_cel (r := false) (b := b) (cs' := [.pointer (some ⟨z.1, 0, none⟩), .pointer (some ⟨z.2, 0, none⟩), nat .i64 k.ep, .int .i64 k.win, .int .i64 k.room, .bool true]) (by exact Has.auto) (by rw [hp]) ?_
    have hbg := begin_sp b f.ep k.win k.room true (.pointer (some ⟨z.1, 0, none⟩)) (.pointer (some ⟨z.2, 0, none⟩)) (nat .i64 k.ep)
    have hfr : lkNew f.ep k.win k.room true = lkFresh k f.ep := by unfold lkFresh; rw [hp]; rfl
    rw [hfr] at hbg
    generalize lkFresh k f.ep = k1 at *
    by_cases hseq : f.seq = 0
    · rw [if_pos hseq]
      repeat (refine St_step ?_; (try with_reducible intro fb))
      repeat' (first | (apply St_call (hf := hbg); exact rfl; exact rfl; exact Split.auto; rintro _ _ ⟨rfl, rfl⟩; refine St_exOpen (l := lkL b k1) (by exact Has.auto) fun z' => ?_) | (apply St_regionA (7) ([cel false b 132 [.pointer (some ⟨z'.1, 0, none⟩), .pointer (some ⟨z'.2, 0, none⟩), nat .i64 k1.ep, .int .i64 k1.win, .int .i64 k1.room, .bool k1.pas], cel false fb 67 (fv f)]); kernel_rfl; (apply Sa_take 0; exact rfl; kernel_rfl; exact PanicOk.auto; exact rfl; (first | exact Rd_auto)); (apply Sa_take 1; exact rfl; kernel_rfl; exact PanicOk.auto; exact rfl; (first | exact Rd_auto)); (apply Sa_take 2; exact rfl; kernel_rfl; exact PanicOk.auto; exact rfl; (first | exact Rd_auto)); (apply Sa_take 3; exact rfl; kernel_rfl; exact PanicOk.auto; exact rfl; (first | exact Rd_auto)); (apply Sa_take 4; exact rfl; kernel_rfl; exact PanicOk.auto; exact rfl; (first | exact Rd_auto)); (apply Sa_take 5; exact rfl; kernel_rfl; exact PanicOk.auto; exact rfl; (first | exact Rd_auto)); (apply Sa_take 6; exact rfl; kernel_rfl; exact PanicOk.auto; exact rfl; (first | exact Rd_auto)); (apply Sa_one (i := 7); kernel_rfl; exact .inr (by exact Split.auto)); (apply Sa_op; exact rfl; exact rfl); (first | (apply St_call (hf := sdAck_sp z'.1 k1.sd f.ack m1 m2); exact rfl; exact rfl; exact Split.auto; rintro _ _ ⟨rfl, rfl⟩) | (refine St_step ?_; (try with_reducible intro _)) | (refine St_step2 ?_ ?_ <;> (intro hb; (try simp only [beq_iff_eq, bne_iff_ne, decide_eq_true_eq, decide_eq_false_iff_not, Bool.not_eq_true', Bool.not_eq_false', beq_eq_false_iff_ne, bne_eq_false_iff_eq, ne_eq, Int.not_lt, Int.not_le, gt_iff_lt, ge_iff_le] at hb); (try (first | exact Bool.noConfusion hb | exact absurd trivial hb | (exfalso; omega))))) | fail); (apply Sa_done (R := []); kernel_rfl; refine .inl ?_; kernel_rfl)) | (apply St_regionA (9) ([cel false b 132 [.pointer (some ⟨z'.1, 0, none⟩), .pointer (some ⟨z'.2, 0, none⟩), nat .i64 k1.ep, .int .i64 k1.win, .int .i64 k1.room, .bool k1.pas], cel false fb 67 (fv f)]); kernel_rfl; (apply Sa_take 0; exact rfl; kernel_rfl; exact PanicOk.auto; exact rfl; (first | exact Rd_auto)); (apply Sa_take 1; exact rfl; kernel_rfl; exact PanicOk.auto; exact rfl; (first | exact Rd_auto)); (apply Sa_take 2; exact rfl; kernel_rfl; exact PanicOk.auto; exact rfl; (first | exact Rd_auto)); (apply Sa_take 3; exact rfl; kernel_rfl; exact PanicOk.auto; exact rfl; (first | exact Rd_auto)); (apply Sa_take 4; exact rfl; kernel_rfl; exact PanicOk.auto; exact rfl; (first | exact Rd_auto)); (apply Sa_take 5; exact rfl; kernel_rfl; exact PanicOk.auto; exact rfl; (first | exact Rd_auto)); (apply Sa_take 6; exact rfl; kernel_rfl; exact PanicOk.auto; exact rfl; (first | exact Rd_auto)); (apply Sa_take 7; exact rfl; kernel_rfl; exact PanicOk.auto; exact rfl; (first | exact Rd_auto)); (apply Sa_take 8; exact rfl; kernel_rfl; exact PanicOk.auto; exact rfl; (first | exact Rd_auto)); (apply Sa_one (i := 9); kernel_rfl; exact .inr (by exact Split.auto)); (apply Sa_op; exact rfl; exact rfl); (first | (apply St_call (hf := rcHear_sp z'.2 k1.rc f.seq f.data m3 m4 m5); exact rfl; exact rfl; exact Split.auto; rintro _ _ ⟨rfl, rfl⟩) | (refine St_step ?_; (try with_reducible intro _)) | (refine St_step2 ?_ ?_ <;> (intro hb; (try simp only [beq_iff_eq, bne_iff_ne, decide_eq_true_eq, decide_eq_false_iff_not, Bool.not_eq_true', Bool.not_eq_false', beq_eq_false_iff_ne, bne_eq_false_iff_eq, ne_eq, Int.not_lt, Int.not_le, gt_iff_lt, ge_iff_le] at hb); (try (first | exact Bool.noConfusion hb | exact absurd trivial hb | (exfalso; omega))))) | fail); (apply Sa_done (R := []); kernel_rfl; refine .inl ?_; kernel_rfl)) | (apply St_regionQ; kernel_rfl; kernel_rfl) | (refine St_step ?_; (try with_reducible intro _)) | (refine St_step2 ?_ ?_ <;> (intro hb; (try simp only [beq_iff_eq, bne_iff_ne, decide_eq_true_eq, decide_eq_false_iff_not, Bool.not_eq_true', Bool.not_eq_false', beq_eq_false_iff_ne, bne_eq_false_iff_eq, ne_eq, Int.not_lt, Int.not_le, gt_iff_lt, ge_iff_le] at hb); (try (first | exact Bool.noConfusion hb | exact absurd trivial hb | (exfalso; omega))))) | fail)
      all_goals first | (exfalso; omega) | skip
      all_goals refine St_exMk (l := lkL b ⟨sdAck k1.sd f.ack, k1.rc, k1.ep, k1.win, k1.room, k1.pas⟩) z' (by exact Split.auto) ?_
      all_goals exact St_ret1 (.inl rfl) rfl rfl ⟨by first | rfl | rw [decide_eq_true (by omega)] | rw [decide_eq_false (by omega)], rfl⟩ (by exact Split.auto)
    · rw [if_neg hseq]
      repeat (refine St_step ?_; (try with_reducible intro fb))
      repeat' (first | (apply St_call (hf := hbg); exact rfl; exact rfl; exact Split.auto; rintro _ _ ⟨rfl, rfl⟩; refine St_exOpen (l := lkL b k1) (by exact Has.auto) fun z' => ?_) | (apply St_regionA (7) ([cel false b 132 [.pointer (some ⟨z'.1, 0, none⟩), .pointer (some ⟨z'.2, 0, none⟩), nat .i64 k1.ep, .int .i64 k1.win, .int .i64 k1.room, .bool k1.pas], cel false fb 67 (fv f)]); kernel_rfl; (apply Sa_take 0; exact rfl; kernel_rfl; exact PanicOk.auto; exact rfl; (first | exact Rd_auto)); (apply Sa_take 1; exact rfl; kernel_rfl; exact PanicOk.auto; exact rfl; (first | exact Rd_auto)); (apply Sa_take 2; exact rfl; kernel_rfl; exact PanicOk.auto; exact rfl; (first | exact Rd_auto)); (apply Sa_take 3; exact rfl; kernel_rfl; exact PanicOk.auto; exact rfl; (first | exact Rd_auto)); (apply Sa_take 4; exact rfl; kernel_rfl; exact PanicOk.auto; exact rfl; (first | exact Rd_auto)); (apply Sa_take 5; exact rfl; kernel_rfl; exact PanicOk.auto; exact rfl; (first | exact Rd_auto)); (apply Sa_take 6; exact rfl; kernel_rfl; exact PanicOk.auto; exact rfl; (first | exact Rd_auto)); (apply Sa_one (i := 7); kernel_rfl; exact .inr (by exact Split.auto)); (apply Sa_op; exact rfl; exact rfl); (first | (apply St_call (hf := sdAck_sp z'.1 k1.sd f.ack m1 m2); exact rfl; exact rfl; exact Split.auto; rintro _ _ ⟨rfl, rfl⟩) | (refine St_step ?_; (try with_reducible intro _)) | (refine St_step2 ?_ ?_ <;> (intro hb; (try simp only [beq_iff_eq, bne_iff_ne, decide_eq_true_eq, decide_eq_false_iff_not, Bool.not_eq_true', Bool.not_eq_false', beq_eq_false_iff_ne, bne_eq_false_iff_eq, ne_eq, Int.not_lt, Int.not_le, gt_iff_lt, ge_iff_le] at hb); (try (first | exact Bool.noConfusion hb | exact absurd trivial hb | (exfalso; omega))))) | fail); (apply Sa_done (R := []); kernel_rfl; refine .inl ?_; kernel_rfl)) | (apply St_regionA (9) ([cel false b 132 [.pointer (some ⟨z'.1, 0, none⟩), .pointer (some ⟨z'.2, 0, none⟩), nat .i64 k1.ep, .int .i64 k1.win, .int .i64 k1.room, .bool k1.pas], cel false fb 67 (fv f)]); kernel_rfl; (apply Sa_take 0; exact rfl; kernel_rfl; exact PanicOk.auto; exact rfl; (first | exact Rd_auto)); (apply Sa_take 1; exact rfl; kernel_rfl; exact PanicOk.auto; exact rfl; (first | exact Rd_auto)); (apply Sa_take 2; exact rfl; kernel_rfl; exact PanicOk.auto; exact rfl; (first | exact Rd_auto)); (apply Sa_take 3; exact rfl; kernel_rfl; exact PanicOk.auto; exact rfl; (first | exact Rd_auto)); (apply Sa_take 4; exact rfl; kernel_rfl; exact PanicOk.auto; exact rfl; (first | exact Rd_auto)); (apply Sa_take 5; exact rfl; kernel_rfl; exact PanicOk.auto; exact rfl; (first | exact Rd_auto)); (apply Sa_take 6; exact rfl; kernel_rfl; exact PanicOk.auto; exact rfl; (first | exact Rd_auto)); (apply Sa_take 7; exact rfl; kernel_rfl; exact PanicOk.auto; exact rfl; (first | exact Rd_auto)); (apply Sa_take 8; exact rfl; kernel_rfl; exact PanicOk.auto; exact rfl; (first | exact Rd_auto)); (apply Sa_one (i := 9); kernel_rfl; exact .inr (by exact Split.auto)); (apply Sa_op; exact rfl; exact rfl); (first | (apply St_call (hf := rcHear_sp z'.2 k1.rc f.seq f.data m3 m4 m5); exact rfl; exact rfl; exact Split.auto; rintro _ _ ⟨rfl, rfl⟩) | (refine St_step ?_; (try with_reducible intro _)) | (refine St_step2 ?_ ?_ <;> (intro hb; (try simp only [beq_iff_eq, bne_iff_ne, decide_eq_true_eq, decide_eq_false_iff_not, Bool.not_eq_true', Bool.not_eq_false', beq_eq_false_iff_ne, bne_eq_false_iff_eq, ne_eq, Int.not_lt, Int.not_le, gt_iff_lt, ge_iff_le] at hb); (try (first | exact Bool.noConfusion hb | exact absurd trivial hb | (exfalso; omega))))) | fail); (apply Sa_done (R := []); kernel_rfl; refine .inl ?_; kernel_rfl)) | (apply St_regionQ; kernel_rfl; kernel_rfl) | (refine St_step ?_; (try with_reducible intro _)) | (refine St_step2 ?_ ?_ <;> (intro hb; (try simp only [beq_iff_eq, bne_iff_ne, decide_eq_true_eq, decide_eq_false_iff_not, Bool.not_eq_true', Bool.not_eq_false', beq_eq_false_iff_ne, bne_eq_false_iff_eq, ne_eq, Int.not_lt, Int.not_le, gt_iff_lt, ge_iff_le] at hb); (try (first | exact Bool.noConfusion hb | exact absurd trivial hb | (exfalso; omega))))) | fail)
      all_goals first | (exfalso; omega) | skip
      all_goals refine St_exMk (l := lkL b ⟨sdAck k1.sd f.ack, rcHear k1.rc f.seq f.data, k1.ep, k1.win, k1.room, k1.pas⟩) z' (by exact Split.auto) ?_
      all_goals exact St_ret1 (.inl rfl) rfl rfl ⟨by first | rfl | rw [decide_eq_true (by omega)] | rw [decide_eq_false (by omega)], rfl⟩ (by exact Split.auto)
  · have ha : lkAnew k f = false := by unfold lkAnew; rw [decide_eq_false hgt]; rfl
    have heq : f.ep = k.ep := by
      have : ¬ f.ep < k.ep := fun h => hst (.inl h)
      omega
    rw [ha] at m1 m2 m3 m4 m5 ⊢
    simp only [Bool.false_eq_true, if_false] at m1 m2 m3 m4 m5 ⊢
    refine St_exOpen (l := lkL b k) (by exact Has.auto) fun z => ?_
    by_cases hseq : f.seq = 0
    · rw [if_pos hseq]
      repeat (refine St_step ?_; (try with_reducible intro fb))
      repeat' (first | (apply St_regionA (7) ([cel false b 132 [.pointer (some ⟨z.1, 0, none⟩), .pointer (some ⟨z.2, 0, none⟩), nat .i64 k.ep, .int .i64 k.win, .int .i64 k.room, .bool k.pas], cel false fb 67 (fv f)]); kernel_rfl; (apply Sa_take 0; exact rfl; kernel_rfl; exact PanicOk.auto; exact rfl; (first | exact Rd_auto)); (apply Sa_take 1; exact rfl; kernel_rfl; exact PanicOk.auto; exact rfl; (first | exact Rd_auto)); (apply Sa_take 2; exact rfl; kernel_rfl; exact PanicOk.auto; exact rfl; (first | exact Rd_auto)); (apply Sa_take 3; exact rfl; kernel_rfl; exact PanicOk.auto; exact rfl; (first | exact Rd_auto)); (apply Sa_take 4; exact rfl; kernel_rfl; exact PanicOk.auto; exact rfl; (first | exact Rd_auto)); (apply Sa_take 5; exact rfl; kernel_rfl; exact PanicOk.auto; exact rfl; (first | exact Rd_auto)); (apply Sa_take 6; exact rfl; kernel_rfl; exact PanicOk.auto; exact rfl; (first | exact Rd_auto)); (apply Sa_one (i := 7); kernel_rfl; exact .inr (by exact Split.auto)); (apply Sa_op; exact rfl; exact rfl); (first | (apply St_call (hf := sdAck_sp z.1 k.sd f.ack m1 m2); exact rfl; exact rfl; exact Split.auto; rintro _ _ ⟨rfl, rfl⟩) | (refine St_step ?_; (try with_reducible intro _)) | (refine St_step2 ?_ ?_ <;> (intro hb; (try simp only [beq_iff_eq, bne_iff_ne, decide_eq_true_eq, decide_eq_false_iff_not, Bool.not_eq_true', Bool.not_eq_false', beq_eq_false_iff_ne, bne_eq_false_iff_eq, ne_eq, Int.not_lt, Int.not_le, gt_iff_lt, ge_iff_le] at hb); (try (first | exact Bool.noConfusion hb | exact absurd trivial hb | (exfalso; omega))))) | fail); (apply Sa_done (R := []); kernel_rfl; refine .inl ?_; kernel_rfl)) | (apply St_regionA (9) ([cel false b 132 [.pointer (some ⟨z.1, 0, none⟩), .pointer (some ⟨z.2, 0, none⟩), nat .i64 k.ep, .int .i64 k.win, .int .i64 k.room, .bool k.pas], cel false fb 67 (fv f)]); kernel_rfl; (apply Sa_take 0; exact rfl; kernel_rfl; exact PanicOk.auto; exact rfl; (first | exact Rd_auto)); (apply Sa_take 1; exact rfl; kernel_rfl; exact PanicOk.auto; exact rfl; (first | exact Rd_auto)); (apply Sa_take 2; exact rfl; kernel_rfl; exact PanicOk.auto; exact rfl; (first | exact Rd_auto)); (apply Sa_take 3; exact rfl; kernel_rfl; exact PanicOk.auto; exact rfl; (first | exact Rd_auto)); (apply Sa_take 4; exact rfl; kernel_rfl; exact PanicOk.auto; exact rfl; (first | exact Rd_auto)); (apply Sa_take 5; exact rfl; kernel_rfl; exact PanicOk.auto; exact rfl; (first | exact Rd_auto)); (apply Sa_take 6; exact rfl; kernel_rfl; exact PanicOk.auto; exact rfl; (first | exact Rd_auto)); (apply Sa_take 7; exact rfl; kernel_rfl; exact PanicOk.auto; exact rfl; (first | exact Rd_auto)); (apply Sa_take 8; exact rfl; kernel_rfl; exact PanicOk.auto; exact rfl; (first | exact Rd_auto)); (apply Sa_one (i := 9); kernel_rfl; exact .inr (by exact Split.auto)); (apply Sa_op; exact rfl; exact rfl); (first | (apply St_call (hf := rcHear_sp z.2 k.rc f.seq f.data m3 m4 m5); exact rfl; exact rfl; exact Split.auto; rintro _ _ ⟨rfl, rfl⟩) | (refine St_step ?_; (try with_reducible intro _)) | (refine St_step2 ?_ ?_ <;> (intro hb; (try simp only [beq_iff_eq, bne_iff_ne, decide_eq_true_eq, decide_eq_false_iff_not, Bool.not_eq_true', Bool.not_eq_false', beq_eq_false_iff_ne, bne_eq_false_iff_eq, ne_eq, Int.not_lt, Int.not_le, gt_iff_lt, ge_iff_le] at hb); (try (first | exact Bool.noConfusion hb | exact absurd trivial hb | (exfalso; omega))))) | fail); (apply Sa_done (R := []); kernel_rfl; refine .inl ?_; kernel_rfl)) | (apply St_regionQ; kernel_rfl; kernel_rfl) | (refine St_step ?_; (try with_reducible intro _)) | (refine St_step2 ?_ ?_ <;> (intro hb; (try simp only [beq_iff_eq, bne_iff_ne, decide_eq_true_eq, decide_eq_false_iff_not, Bool.not_eq_true', Bool.not_eq_false', beq_eq_false_iff_ne, bne_eq_false_iff_eq, ne_eq, Int.not_lt, Int.not_le, gt_iff_lt, ge_iff_le] at hb); (try (first | exact Bool.noConfusion hb | exact absurd trivial hb | (exfalso; omega))))) | fail)
      all_goals first | (exfalso; omega) | skip
      all_goals refine St_exMk (l := lkL b ⟨sdAck k.sd f.ack, k.rc, k.ep, k.win, k.room, k.pas⟩) z (by exact Split.auto) ?_
      all_goals exact St_ret1 (.inl rfl) rfl rfl ⟨by first | rfl | rw [decide_eq_true (by omega)] | rw [decide_eq_false (by omega)], rfl⟩ (by exact Split.auto)
    · rw [if_neg hseq]
      repeat (refine St_step ?_; (try with_reducible intro fb))
      repeat' (first | (apply St_regionA (7) ([cel false b 132 [.pointer (some ⟨z.1, 0, none⟩), .pointer (some ⟨z.2, 0, none⟩), nat .i64 k.ep, .int .i64 k.win, .int .i64 k.room, .bool k.pas], cel false fb 67 (fv f)]); kernel_rfl; (apply Sa_take 0; exact rfl; kernel_rfl; exact PanicOk.auto; exact rfl; (first | exact Rd_auto)); (apply Sa_take 1; exact rfl; kernel_rfl; exact PanicOk.auto; exact rfl; (first | exact Rd_auto)); (apply Sa_take 2; exact rfl; kernel_rfl; exact PanicOk.auto; exact rfl; (first | exact Rd_auto)); (apply Sa_take 3; exact rfl; kernel_rfl; exact PanicOk.auto; exact rfl; (first | exact Rd_auto)); (apply Sa_take 4; exact rfl; kernel_rfl; exact PanicOk.auto; exact rfl; (first | exact Rd_auto)); (apply Sa_take 5; exact rfl; kernel_rfl; exact PanicOk.auto; exact rfl; (first | exact Rd_auto)); (apply Sa_take 6; exact rfl; kernel_rfl; exact PanicOk.auto; exact rfl; (first | exact Rd_auto)); (apply Sa_one (i := 7); kernel_rfl; exact .inr (by exact Split.auto)); (apply Sa_op; exact rfl; exact rfl); (first | (apply St_call (hf := sdAck_sp z.1 k.sd f.ack m1 m2); exact rfl; exact rfl; exact Split.auto; rintro _ _ ⟨rfl, rfl⟩) | (refine St_step ?_; (try with_reducible intro _)) | (refine St_step2 ?_ ?_ <;> (intro hb; (try simp only [beq_iff_eq, bne_iff_ne, decide_eq_true_eq, decide_eq_false_iff_not, Bool.not_eq_true', Bool.not_eq_false', beq_eq_false_iff_ne, bne_eq_false_iff_eq, ne_eq, Int.not_lt, Int.not_le, gt_iff_lt, ge_iff_le] at hb); (try (first | exact Bool.noConfusion hb | exact absurd trivial hb | (exfalso; omega))))) | fail); (apply Sa_done (R := []); kernel_rfl; refine .inl ?_; kernel_rfl)) | (apply St_regionA (9) ([cel false b 132 [.pointer (some ⟨z.1, 0, none⟩), .pointer (some ⟨z.2, 0, none⟩), nat .i64 k.ep, .int .i64 k.win, .int .i64 k.room, .bool k.pas], cel false fb 67 (fv f)]); kernel_rfl; (apply Sa_take 0; exact rfl; kernel_rfl; exact PanicOk.auto; exact rfl; (first | exact Rd_auto)); (apply Sa_take 1; exact rfl; kernel_rfl; exact PanicOk.auto; exact rfl; (first | exact Rd_auto)); (apply Sa_take 2; exact rfl; kernel_rfl; exact PanicOk.auto; exact rfl; (first | exact Rd_auto)); (apply Sa_take 3; exact rfl; kernel_rfl; exact PanicOk.auto; exact rfl; (first | exact Rd_auto)); (apply Sa_take 4; exact rfl; kernel_rfl; exact PanicOk.auto; exact rfl; (first | exact Rd_auto)); (apply Sa_take 5; exact rfl; kernel_rfl; exact PanicOk.auto; exact rfl; (first | exact Rd_auto)); (apply Sa_take 6; exact rfl; kernel_rfl; exact PanicOk.auto; exact rfl; (first | exact Rd_auto)); (apply Sa_take 7; exact rfl; kernel_rfl; exact PanicOk.auto; exact rfl; (first | exact Rd_auto)); (apply Sa_take 8; exact rfl; kernel_rfl; exact PanicOk.auto; exact rfl; (first | exact Rd_auto)); (apply Sa_one (i := 9); kernel_rfl; exact .inr (by exact Split.auto)); (apply Sa_op; exact rfl; exact rfl); (first | (apply St_call (hf := rcHear_sp z.2 k.rc f.seq f.data m3 m4 m5); exact rfl; exact rfl; exact Split.auto; rintro _ _ ⟨rfl, rfl⟩) | (refine St_step ?_; (try with_reducible intro _)) | (refine St_step2 ?_ ?_ <;> (intro hb; (try simp only [beq_iff_eq, bne_iff_ne, decide_eq_true_eq, decide_eq_false_iff_not, Bool.not_eq_true', Bool.not_eq_false', beq_eq_false_iff_ne, bne_eq_false_iff_eq, ne_eq, Int.not_lt, Int.not_le, gt_iff_lt, ge_iff_le] at hb); (try (first | exact Bool.noConfusion hb | exact absurd trivial hb | (exfalso; omega))))) | fail); (apply Sa_done (R := []); kernel_rfl; refine .inl ?_; kernel_rfl)) | (apply St_regionQ; kernel_rfl; kernel_rfl) | (refine St_step ?_; (try with_reducible intro _)) | (refine St_step2 ?_ ?_ <;> (intro hb; (try simp only [beq_iff_eq, bne_iff_ne, decide_eq_true_eq, decide_eq_false_iff_not, Bool.not_eq_true', Bool.not_eq_false', beq_eq_false_iff_ne, bne_eq_false_iff_eq, ne_eq, Int.not_lt, Int.not_le, gt_iff_lt, ge_iff_le] at hb); (try (first | exact Bool.noConfusion hb | exact absurd trivial hb | (exfalso; omega))))) | fail)
      all_goals first | (exfalso; omega) | skip
      all_goals refine St_exMk (l := lkL b ⟨sdAck k.sd f.ack, rcHear k.rc f.seq f.data, k.ep, k.win, k.room, k.pas⟩) z (by exact Split.auto) ?_
      all_goals exact St_ret1 (.inl rfl) rfl rfl ⟨by first | rfl | rw [decide_eq_true (by omega)] | rw [decide_eq_false (by omega)], rfl⟩ (by exact Split.auto)
end Go.Proofs.YtfjnacakpeommaaGreatDoor
/- Contracts: link.Frames. -/
namespace Go.Proofs.YtfjnacakpeommaaGreatDoor
open Go SL Pl
set_option autoImplicit false
set_option maxRecDepth 100000
set_option linter.unusedSimpArgs false
set_option linter.unusedVariables false
attribute [local irreducible] St Sq Exec QExec wpList wpQuiet Code.wp Exit.then Exit.inBlock bodyPost At Rd wpOp Wa QK GB
theorem frames1_length (ep ack : Nat) : ∀ (l : List (List UInt8)) (n : Nat), (frames1 ep ack n l).length = l.length
  | [], _ => rfl
  | _ :: l, n => by rw [frames1, List.length_cons, frames1_length ep ack l, List.length_cons]
theorem frames1_snoc (ep ack : Nat) : ∀ (l : List (List UInt8)) (n : Nat) (d : List UInt8), frames1 ep ack n (l ++ [d]) = frames1 ep ack n l ++ [⟨ep, n + l.length, ack, d⟩]
  | [], n, d => by simp [frames1]
  | x :: l, n, d => by
    rw [List.cons_append, frames1, frames1_snoc ep ack l, frames1, List.cons_append, List.length_cons]
    congr 4
    omega
theorem fv_len (f : Fr) : (fv f).length = 4 := rfl
theorem lkFrames_len {k : Lk} (h : k.sd.ps.length ≤ 16) : (lkFrames k).length ≤ 16 := by
  unfold lkFrames
  split
  · simp
  · split
    · simp
    · rw [frames1_length]; exact h
set_option maxHeartbeats 1000000 in
theorem lkFrames_sp (b : Nat) (k : Lk) (hk : lkOk k) : Sp Tryz.prog 47 [.pointer (some ⟨b, 0, none⟩)] [LkP b k]
    (fun v M => ∃ A c, v = .slice A (lkFrames k).length c ∧ M = [RS true v (lkFrames k).length ((lkFrames k).flatMap fv), LkP b k]) := by
  refine Sp.intro (P := Tryz.prog) (Tryz.func47) rfl Tryz.ntmps47 (by decide) rfl ?_
  intro ρ F
  have hw := hk.sd.w
  have hl := hk.sd.l
  have hep := hk.ep
  have hra := hk.rc.a
  have ht := hk.sd.t
  have hm := hk.sd.m
  refine St_exOpen (l := lkL b k) (by exact Has.auto) fun z => ?_
  by_cases h0 : k.ep = 0
  · have e : lkFrames k = [] := if_pos h0
    rw [e]
    repeat' (first | (refine St_step ?_; (try with_reducible intro _)) | (refine St_step2 ?_ ?_ <;> (intro hb; (try simp only [beq_iff_eq, bne_iff_ne, decide_eq_true_eq, decide_eq_false_iff_not, Bool.not_eq_true', Bool.not_eq_false', beq_eq_false_iff_ne, bne_eq_false_iff_eq, ne_eq, Int.not_lt, Int.not_le, gt_iff_lt, ge_iff_le] at hb); (try (first | exact Bool.noConfusion hb | exact absurd trivial hb | (exfalso; omega))))) | fail)
    all_goals first | (exfalso; omega) | skip
    refine St_exMk (l := lkL b k) z (by exact Split.auto) ?_
    refine St_rsNil (r := true) (A := none) (c := 0) ?_
    exact St_ret1 (.inl rfl) rfl rfl ⟨_, _, rfl, rfl⟩ (by exact Split.auto)
  have cp := sdPieces_sp z.1 k.sd (by omega)
  have ca := rcAck_sp z.2 k.rc
  repeat' (first | (apply St_call (hf := ca); exact rfl; exact rfl; exact Split.auto; rintro _ _ ⟨rfl, rfl⟩) | (apply St_call (hf := cp); exact rfl; exact rfl; exact Split.auto; rintro _ _ ⟨A, c, rfl, rfl⟩) | (refine St_step ?_; (try with_reducible intro _)) | (refine St_step2 ?_ ?_ <;> (intro hb; (try simp only [beq_iff_eq, bne_iff_ne, decide_eq_true_eq, decide_eq_false_iff_not, Bool.not_eq_true', Bool.not_eq_false', beq_eq_false_iff_ne, bne_eq_false_iff_eq, ne_eq, Int.not_lt, Int.not_le, gt_iff_lt, ge_iff_le] at hb); (try (first | exact Bool.noConfusion hb | exact absurd trivial hb | (exfalso; omega))))) | fail)
  all_goals first | (exfalso; omega) | skip
  refine St_slNil (E := 67) (sz := 4) ?_
  repeat' (first | (refine St_loop (fun (y : Nat × Option Addr × Nat) => y.1 ≤ k.sd.ps.length) (fun y => [(0, .pointer (some ⟨b, 0, none⟩)), (3, .slice y.2.1 y.1 y.2.2), (4, nat .i64 k.rc.acked), (23, .slice A k.sd.ps.length c), (24, nat .i64 k.sd.ps.length), (25, nat .i64 y.1)]) (fun y => [Sl 67 4 (.slice y.2.1 y.1 y.2.2) y.1 ((frames1 k.ep k.rc.acked (k.sd.acked + 1) (k.sd.ps.take y.1)).flatMap fv), RS true (.slice A k.sd.ps.length c) k.sd.ps.length ((seqs (k.sd.acked + 1) k.sd.ps).flatMap pv), cel false b 132 [.pointer (some ⟨z.1, 0, none⟩), .pointer (some ⟨z.2, 0, none⟩), nat .i64 k.ep, .int .i64 k.win, .int .i64 k.room, .bool k.pas], SdP z.1 k.sd, RcP z.2 k.rc, big F]) (fun y => k.sd.ps.length - y.1) (0, none, 0) (Nat.zero_le _) ⟨rfl, rfl, rfl, rfl, rfl, rfl, trivial⟩ (by exact Split.auto) ?_) | (refine St_step ?_; (try with_reducible intro _)) | (refine St_step2 ?_ ?_ <;> (intro hb; (try simp only [beq_iff_eq, bne_iff_ne, decide_eq_true_eq, decide_eq_false_iff_not, Bool.not_eq_true', Bool.not_eq_false', beq_eq_false_iff_ne, bne_eq_false_iff_eq, ne_eq, Int.not_lt, Int.not_le, gt_iff_lt, ge_iff_le] at hb); (try (first | exact Bool.noConfusion hb | exact absurd trivial hb | (exfalso; omega))))) | fail)
  rintro ⟨i, A1, c1⟩ hi
  have hi : i ≤ k.sd.ps.length := hi
  dsimp only
  by_cases hil : i < k.sd.ps.length
  · obtain ⟨d, hd⟩ : ∃ d, k.sd.ps[i]? = some d := ⟨_, List.getElem?_eq_getElem hil⟩
    have hseq : (seqs (k.sd.acked + 1) k.sd.ps)[i]? = some (k.sd.acked + 1 + i, d) := by rw [seqs_get, hd]; rfl
    refine St_rsOpen (r := true) (v := .slice A k.sd.ps.length c) (by exact Has.auto) (by omega) ?_
    rintro b2 T cap pre rest hv
    injection hv with hv1 hv2 hv3
    subst hv1 hv3
    have hld := flat_at pv_len (seqs (k.sd.acked + 1) k.sd.ps) i _ pre rest hseq
    have hroom := flat_room pv_len (seqs (k.sd.acked + 1) k.sd.ps) i pre rest (by rw [seqs_length]; exact hil)
    have hnext : frames1 k.ep k.rc.acked (k.sd.acked + 1) (k.sd.ps.take (i + 1)) = frames1 k.ep k.rc.acked (k.sd.acked + 1) (k.sd.ps.take i) ++ [⟨k.ep, (k.sd.acked + 1 + i : Nat), k.rc.acked, d⟩] := by
      rw [List.take_add_one, hd]
      show frames1 k.ep k.rc.acked (k.sd.acked + 1) (k.sd.ps.take i ++ [d]) = _
      rw [frames1_snoc, List.length_take, Nat.min_eq_left hi]
      rfl
    repeat' (first | (apply St_rd; exact rfl; (first | (apply Rd_loadA tb; exact rfl; exact rfl; exact rfl; exact Has.auto; exact hroom; exact hld))) | (apply Sq_rd; exact rfl; (first | (apply Rd_loadA tb; exact rfl; exact rfl; exact rfl; exact Has.auto; exact hroom; exact hld))) | (refine St_step ?_; (try with_reducible intro _)) | (refine St_step2 ?_ ?_ <;> (intro hb; (try simp only [beq_iff_eq, bne_iff_ne, decide_eq_true_eq, decide_eq_false_iff_not, Bool.not_eq_true', Bool.not_eq_false', beq_eq_false_iff_ne, bne_eq_false_iff_eq, ne_eq, Int.not_lt, Int.not_le, gt_iff_lt, ge_iff_le] at hb); (try (first | exact Bool.noConfusion hb | exact absurd trivial hb | (exfalso; omega))))) | fail)
    all_goals first | (exfalso; omega) | skip
    rename_i pb
    repeat' (first | (apply St_regionA (13) ([cel false b 132 [.pointer (some ⟨z.1, 0, none⟩), .pointer (some ⟨z.2, 0, none⟩), nat .i64 k.ep, .int .i64 k.win, .int .i64 k.room, .bool k.pas], cel false pb 155 (pv (k.sd.acked + 1 + i, d))]); kernel_rfl; (apply Sa_take 0; exact rfl; kernel_rfl; exact PanicOk.auto; exact rfl; (first | exact Rd_auto)); (apply Sa_take 1; exact rfl; kernel_rfl; exact PanicOk.auto; exact rfl; (first | exact Rd_auto)); (apply Sa_take 2; exact rfl; kernel_rfl; exact PanicOk.auto; exact rfl; (first | exact Rd_auto)); (apply Sa_take 3; exact rfl; kernel_rfl; exact PanicOk.auto; exact rfl; (first | exact Rd_auto)); (apply Sa_take 4; exact rfl; kernel_rfl; exact PanicOk.auto; exact rfl; (first | exact Rd_auto)); (apply Sa_take 5; exact rfl; kernel_rfl; exact PanicOk.auto; exact rfl; (first | exact Rd_auto)); (apply Sa_take 6; exact rfl; kernel_rfl; exact PanicOk.auto; exact rfl; (first | exact Rd_auto)); (apply Sa_take 7; exact rfl; kernel_rfl; exact PanicOk.auto; exact rfl; (first | exact Rd_auto)); (apply Sa_take 8; exact rfl; kernel_rfl; exact PanicOk.auto; exact rfl; (first | exact Rd_auto)); (apply Sa_take 9; exact rfl; kernel_rfl; exact PanicOk.auto; exact rfl; (first | exact Rd_auto)); (apply Sa_take 10; exact rfl; kernel_rfl; exact PanicOk.auto; exact rfl; (first | exact Rd_auto)); (apply Sa_one (i := 11); kernel_rfl; exact .inr (by exact Split.auto)); (apply Sa_op; exact rfl; exact rfl); (first | (apply St_append tb (sz := 4) (n := i); (repeat exact rfl); exact Has.auto; (intro _; exact Src.row (n := 1) (by exact Has.auto) (by simp) (by exact rfl)); exact rfl; (dsimp only; omega); intro v'; refine St_slIs (by exact Has.auto) ?_; rintro A' c' rfl) | (refine St_step ?_; (try with_reducible intro _)) | (refine St_step2 ?_ ?_ <;> (intro hb; (try simp only [beq_iff_eq, bne_iff_ne, decide_eq_true_eq, decide_eq_false_iff_not, Bool.not_eq_true', Bool.not_eq_false', beq_eq_false_iff_ne, bne_eq_false_iff_eq, ne_eq, Int.not_lt, Int.not_le, gt_iff_lt, ge_iff_le] at hb); (try (first | exact Bool.noConfusion hb | exact absurd trivial hb | (exfalso; omega))))) | fail); (apply Sa_one (i := 12); kernel_rfl; exact .inr (by exact Split.auto)); (apply Sa_op; exact rfl; exact rfl); (first | (apply St_append tb (sz := 4) (n := i); (repeat exact rfl); exact Has.auto; (intro _; exact Src.row (n := 1) (by exact Has.auto) (by simp) (by exact rfl)); exact rfl; (dsimp only; omega); intro v'; refine St_slIs (by exact Has.auto) ?_; rintro A' c' rfl) | (refine St_step ?_; (try with_reducible intro _)) | (refine St_step2 ?_ ?_ <;> (intro hb; (try simp only [beq_iff_eq, bne_iff_ne, decide_eq_true_eq, decide_eq_false_iff_not, Bool.not_eq_true', Bool.not_eq_false', beq_eq_false_iff_ne, bne_eq_false_iff_eq, ne_eq, Int.not_lt, Int.not_le, gt_iff_lt, ge_iff_le] at hb); (try (first | exact Bool.noConfusion hb | exact absurd trivial hb | (exfalso; omega))))) | fail); (apply Sa_one (i := 13); kernel_rfl; exact .inr (by exact Split.auto)); (apply Sa_op; exact rfl; exact rfl); (first | (apply St_append tb (sz := 4) (n := i); (repeat exact rfl); exact Has.auto; (intro _; exact Src.row (n := 1) (by exact Has.auto) (by simp) (by exact rfl)); exact rfl; (dsimp only; omega); intro v'; refine St_slIs (by exact Has.auto) ?_; rintro A' c' rfl) | (refine St_step ?_; (try with_reducible intro _)) | (refine St_step2 ?_ ?_ <;> (intro hb; (try simp only [beq_iff_eq, bne_iff_ne, decide_eq_true_eq, decide_eq_false_iff_not, Bool.not_eq_true', Bool.not_eq_false', beq_eq_false_iff_ne, bne_eq_false_iff_eq, ne_eq, Int.not_lt, Int.not_le, gt_iff_lt, ge_iff_le] at hb); (try (first | exact Bool.noConfusion hb | exact absurd trivial hb | (exfalso; omega))))) | fail); (apply Sa_done (R := []); kernel_rfl; refine .inl ?_; kernel_rfl)) | (refine St_step ?_; (try with_reducible intro _)) | (refine St_step2 ?_ ?_ <;> (intro hb; (try simp only [beq_iff_eq, bne_iff_ne, decide_eq_true_eq, decide_eq_false_iff_not, Bool.not_eq_true', Bool.not_eq_false', beq_eq_false_iff_ne, bne_eq_false_iff_eq, ne_eq, Int.not_lt, Int.not_le, gt_iff_lt, ge_iff_le] at hb); (try (first | exact Bool.noConfusion hb | exact absurd trivial hb | (exfalso; omega))))) | fail)
    refine St_slEq (cs' := (frames1 k.ep k.rc.acked (k.sd.acked + 1) (k.sd.ps.take (i + 1))).flatMap fv) (n' := i + 1) (by exact Has.auto) (by rw [hnext, List.flatMap_append]; rfl) rfl ?_
    refine St_rsMk (n := k.sd.ps.length) (cap := c) (cs := (seqs (k.sd.acked + 1) k.sd.ps).flatMap pv) (by exact Has.auto) ?_
    exact St_at (i + 1, A', c') ⟨by show i + 1 ≤ _; omega, by show _ - (i + 1) < _ - i; omega⟩ ⟨rfl, rfl, rfl, rfl, rfl, rfl, trivial⟩ (by exact Split.auto)
  · have hii : i = k.sd.ps.length := by omega
    subst hii
    rw [List.take_length]
    by_cases hp : k.sd.ps = []
    · have e : lkFrames k = [⟨k.ep, 0, k.rc.acked, []⟩] := by unfold lkFrames; rw [if_neg h0, if_pos hp]
      have hz : k.sd.ps.length = 0 := by rw [hp]; rfl
      rw [e]
      repeat' (first | (apply St_append tb (sz := 4) (n := k.sd.ps.length); (repeat exact rfl); exact Has.auto; (intro _; exact Src.row (n := 1) (by exact Has.auto) (by simp) (by exact rfl)); exact rfl; (dsimp only; omega); intro v'; refine St_slIs (by exact Has.auto) ?_; rintro A' c' rfl) | (refine St_step ?_; (try with_reducible intro _)) | (refine St_step2 ?_ ?_ <;> (intro hb; (try simp only [beq_iff_eq, bne_iff_ne, decide_eq_true_eq, decide_eq_false_iff_not, Bool.not_eq_true', Bool.not_eq_false', beq_eq_false_iff_ne, bne_eq_false_iff_eq, ne_eq, Int.not_lt, Int.not_le, gt_iff_lt, ge_iff_le] at hb); (try (first | exact Bool.noConfusion hb | exact absurd trivial hb | (exfalso; omega))))) | fail)
      all_goals first | (exfalso; omega) | skip
      refine St_slEq (cs' := [(⟨k.ep, 0, k.rc.acked, []⟩ : Fr)].flatMap fv) (n' := 1) (by exact Has.auto) (by rw [hp]; rfl) (by omega) ?_
      refine St_slShare (n := 1) (by exact Has.auto) ?_
      refine St_exMk (l := lkL b k) z (by exact Split.auto) ?_
      exact St_ret1 (.inl rfl) rfl rfl ⟨A', c', by rw [hz]; rfl, by rw [hz]⟩ (by rw [hz]; exact Split.auto)
    · have e : lkFrames k = frames1 k.ep k.rc.acked (k.sd.acked + 1) k.sd.ps := by unfold lkFrames; rw [if_neg h0, if_neg hp]
      have hz : k.sd.ps.length ≠ 0 := fun h => hp (List.eq_nil_of_length_eq_zero h)
      rw [e, frames1_length]
      repeat' (first | (refine St_step ?_; (try with_reducible intro _)) | (refine St_step2 ?_ ?_ <;> (intro hb; (try simp only [beq_iff_eq, bne_iff_ne, decide_eq_true_eq, decide_eq_false_iff_not, Bool.not_eq_true', Bool.not_eq_false', beq_eq_false_iff_ne, bne_eq_false_iff_eq, ne_eq, Int.not_lt, Int.not_le, gt_iff_lt, ge_iff_le] at hb); (try (first | exact Bool.noConfusion hb | exact absurd trivial hb | (exfalso; omega))))) | fail)
      all_goals first | (exfalso; omega) | skip
      refine St_slShare (n := k.sd.ps.length) (by exact Has.auto) ?_
      refine St_exMk (l := lkL b k) z (by exact Split.auto) ?_
      exact St_ret1 (.inl rfl) rfl rfl ⟨A1, c1, rfl, rfl⟩ (by exact Split.auto)
end Go.Proofs.YtfjnacakpeommaaGreatDoor
/- Contracts: package commit. -/
namespace Go.Proofs.YtfjnacakpeommaaGreatDoor
open Go SL Pl
set_option autoImplicit false
set_option maxRecDepth 100000
set_option linter.unusedSimpArgs false
set_option linter.unusedVariables false
attribute [local irreducible] St Sq Exec QExec wpList wpQuiet Code.wp Exit.then Exit.inBlock bodyPost At Rd wpOp Wa QK GB
theorem big_dup {l : List HP} {A : HP} (hA : Dup A) (hm : A ∈ l) : ∀ {h : Hp}, big l h → star A (big l) h := by
  induction l with
  | nil => cases hm
  | cons B l ih =>
    intro h H
    rcases List.mem_cons.1 hm with rfl | hm
    · exact star_assoc' (star_mono (fun _ a => hA _ a) (fun _ b => b) H)
    · exact star_swap (star_mono (fun _ a => a) (fun _ b => ih hm b) H)
/-- Rounds, with their updates' slices. -/
abbrev rvp (x : Ro × Value) : List Value := rv x.1 x.2
theorem rvp_len (x : Ro × Value) : (rvp x).length = 3 := rfl
abbrev ulp (x : Ro × Value) : HP := UL true x.2 x.1.ups
def ULs (xs : List (Ro × Value)) : HP := big (xs.map ulp)
theorem dup_uls (xs : List (Ro × Value)) : Dup (ULs xs) := dup_big fun A hA => by
  obtain ⟨x, _, rfl⟩ := List.mem_map.1 hA
  exact dup_rs _ _ _
section
variable {ρ : Rst} {N : Nat} {env : Env} {L L' : List HP} {G : Act → World → Prop}
theorem St_ulGet {xs : List (Ro × Value)} {x : Ro × Value} (hc : Has L (ULs xs) L') (hx : x ∈ xs) (h : St ρ N env (ulp x :: ULs xs :: L') G) : St ρ N env L G :=
  St_conv (L' := ulp x :: ULs xs :: L') (fun w H => (H.has hc).mono fun _ y => star_assoc' (star_mono (fun _ a => big_dup (dup_rs _ _ _) (List.mem_map.2 ⟨x, hx, rfl⟩) a) (fun _ b => b) y)) h
theorem St_ulAdd {xs : List (Ro × Value)} {x : Ro × Value} (hs : Split L [ULs xs, ulp x] L') (h : St ρ N env (ULs (xs ++ [x]) :: L') G) : St ρ N env L G :=
  St_conv (fun w H => (H.split hs).mono fun _ y => by
    have y2 := star_assoc y
    refine star_mono (fun h a => ?_) (fun _ b => b) y2
    unfold ULs
    rw [List.map_append]
    exact big_append.2 (star_mono (fun _ c => c) (fun h c => ⟨h, E0, Cmp_E0 h, (Jn_E0 h).symm, c, rfl⟩) a)) h
theorem St_ulNil (h : St ρ N env (ULs [] :: L) G) : St ρ N env L G :=
  St_conv (L' := ULs [] :: L) (fun w H => H.mono fun h x => ⟨E0, h, E0_Cmp h, rfl, rfl, x⟩) h
end
/-- The last numbers, by origin. -/
def lastC (l : List Ro) : List Value := (List.range 65).map fun (o : Nat) => nat .i64 (lastOf l (o : Int))
theorem lastC_len (l : List Ro) : (lastC l).length = 65 := by simp [lastC]
theorem lastC_at (l : List Ro) (o : Nat) (h : o < 65) : (lastC l)[o]? = some (nat .i64 (lastOf l (o : Int))) := by
  simp [lastC, h]
theorem lastC_set (l : List Ro) (r : Ro) (o : Nat) (h : o < 65) (ho : r.origin = o) (hn : r.number = (lastOf l r.origin : Int) + 1) : (lastC l).set o (nat .i64 (lastOf l (o : Int) + 1)) = lastC (l ++ [r]) := by
  apply List.ext_getElem?
  intro j
  rw [List.getElem?_set]
  by_cases hj : j < 65
  · have h2 : ∀ l, (lastC l)[j]? = some (nat .i64 (lastOf l (j : Int))) := fun l => lastC_at l j hj
    rw [h2 (l ++ [r]), lastOf_snoc l r j (by omega)]
    by_cases hoj : o = j
    · subst hoj
      rw [if_pos rfl, if_pos (by rw [lastC_len]; exact h), if_pos ho]
      rw [ho] at hn
      congr 2
      omega
    · rw [if_neg hoj, if_neg (by omega), h2 l]
  · have h2 : ∀ l, (lastC l)[j]? = none := fun l => List.getElem?_eq_none (by rw [lastC_len]; omega)
    rw [if_neg (by omega), h2, h2]
def lgL (b clients : Nat) (l : List Ro) (z : Value × List (Ro × Value)) : List HP :=
  [lift (z.2.map (·.1) = l), cel false b 126 (nat .i64 clients :: z.1 :: lastC l), Sl 64 3 z.1 l.length (z.2.flatMap rvp), ULs z.2]
def LgP (b clients : Nat) (l : List Ro) : HP := ex fun z => big (lgL b clients l z)
section
variable {ρ : Rst} {N : Nat} {env : Env} {L L' : List HP} {G : Act → World → Prop}
theorem St_lgOpen {b clients : Nat} {l : List Ro} (hc : Has L (LgP b clients l) L')
    (h : ∀ v xs, xs.map (·.1) = l → St ρ N env (cel false b 126 (nat .i64 clients :: v :: lastC l) :: Sl 64 3 v l.length (xs.flatMap rvp) :: ULs xs :: L') G) : St ρ N env L G :=
  St_exOpen (l := lgL b clients l) hc fun z => St_lift fun hz => h z.1 z.2 hz
theorem St_lgMk {b clients : Nat} {l : List Ro} {v : Value} {xs : List (Ro × Value)} (hx : xs.map (·.1) = l) (hs : Split L [cel false b 126 (nat .i64 clients :: v :: lastC l), Sl 64 3 v l.length (xs.flatMap rvp), ULs xs] L')
    (h : St ρ N env (LgP b clients l :: L') G) : St ρ N env L G :=
  St_conv (fun w H => Holds.ex_mk (A := fun z => big (lgL b clients l z)) (v, xs) (Holds.shut (l := [_, _, _, _]) (Holds.lift_mk hx (H.split hs)))) h
end
theorem lgNew_sp (n : Int) : Sp Tryz.prog 27 [.int .i64 n] [] (fun v M => ∃ b, v = .pointer (some ⟨b, 0, none⟩) ∧ M = [LgP b (clampN n 1 64).toNat []]) := by
  refine Sp.intro (P := Tryz.prog) (Tryz.func27) rfl Tryz.ntmps27 (by decide) rfl ?_
  intro ρ F
  repeat' (first | (refine St_step ?_; (try with_reducible intro _)) | (refine St_step2 ?_ ?_ <;> (intro hb; (try simp only [beq_iff_eq, bne_iff_ne, decide_eq_true_eq, decide_eq_false_iff_not, Bool.not_eq_true', Bool.not_eq_false', beq_eq_false_iff_ne, bne_eq_false_iff_eq, ne_eq, Int.not_lt, Int.not_le, gt_iff_lt, ge_iff_le] at hb); (try (first | exact Bool.noConfusion hb | exact absurd trivial hb | (exfalso; omega))))) | fail)
  rename_i b
  refine St_cel (r := false) (b := b) (cs' := nat .i64 (clampN n 1 64).toNat :: .slice none 0 0 :: lastC []) (by exact Has.auto) ?_ ?_
  · rw [clamp_val (by decide), clamp_nat (w := n) (lo := 1) (hi := 64) (by decide) (by decide)]
    rfl
  refine St_slNil (E := 64) (sz := 3) ?_
  refine St_ulNil ?_
  refine St_lgMk (b := b) (clients := (clampN n 1 64).toNat) (l := []) (v := .slice none 0 0) (xs := []) rfl (by exact Split.auto) ?_
  exact St_ret1 (.inl rfl) rfl rfl ⟨_, rfl, rfl⟩ (by exact Split.auto)
theorem lgAt_sp (b clients i : Nat) (l : List Ro) (hu : ∀ r ∈ l, r.ups.length ≤ 1000) : Sp Tryz.prog 86 [.pointer (some ⟨b, 0, none⟩), nat .i64 i] [LgP b clients l]
    (fun w M => (∃ r v, l[i]? = some r ∧ w = .tuple [.agg (rv r v).toArray, .bool true].toArray ∧ M = [UL true v r.ups, LgP b clients l]) ∨ (l[i]? = none ∧ w = .tuple [.agg (rv ro0 (.slice none 0 0)).toArray, .bool false].toArray ∧ M = [LgP b clients l])) := by
  refine Sp.intro (P := Tryz.prog) (Tryz.func86) rfl Tryz.ntmps86 (by decide) rfl ?_
  intro ρ F
  refine St_lgOpen (by exact Has.auto) fun v xs hx => ?_
  refine St_slIs (v := v) (by exact Has.auto) ?_
  rintro A c rfl
  by_cases hi : i < l.length
  · obtain ⟨y, hy⟩ : ∃ y, xs[i]? = some y := ⟨_, List.getElem?_eq_getElem (by rw [← hx] at hi; simpa using hi)⟩
    obtain ⟨r, u⟩ := y
    have hr : l[i]? = some r := by rw [← hx, List.getElem?_map, hy]; rfl
    refine St_slOpen (v := .slice A l.length c) (by exact Has.auto) (fun h _ _ => ?_) ?_
    · injection h with h1 h2 h3; omega
    rintro b2 cap pre rest hv hcap hrest hlen
    injection hv with hv1 hv2 hv3
    subst hv1 hv3
    have hld := flat_at rvp_len xs i (r, u) pre rest hy
    have hroom := flat_room rvp_len xs i pre rest (by rw [← hx] at hi; simpa using hi)
    have cc := copy_sp true r u (hu r (List.mem_of_getElem? hr))
    refine St_ulGet (xs := xs) (x := (r, u)) (by exact Has.auto) (List.mem_of_getElem? hy) ?_
    repeat' (first | (apply St_call (hf := cc); exact rfl; exact rfl; exact Split.auto; rintro _ _ ⟨v', rfl, rfl⟩) | (apply St_rd; exact rfl; (first | (apply Rd_loadA tb; exact rfl; exact rfl; exact rfl; exact Has.auto; exact hroom; exact hld))) | (apply Sq_rd; exact rfl; (first | (apply Rd_loadA tb; exact rfl; exact rfl; exact rfl; exact Has.auto; exact hroom; exact hld))) | (refine St_step ?_; (try with_reducible intro _)) | (refine St_step2 ?_ ?_ <;> (intro hb; (try simp only [beq_iff_eq, bne_iff_ne, decide_eq_true_eq, decide_eq_false_iff_not, Bool.not_eq_true', Bool.not_eq_false', beq_eq_false_iff_ne, bne_eq_false_iff_eq, ne_eq, Int.not_lt, Int.not_le, gt_iff_lt, ge_iff_le] at hb); (try (first | exact Bool.noConfusion hb | exact absurd trivial hb | (exfalso; omega))))) | fail)
    refine St_rsIs (r := true) (v := v') (n := r.ups.length) (cs := r.ups.flatMap uv) (by exact Has.auto) ?_
    rintro A' c' rfl
    repeat' (first | (refine St_step ?_; (try with_reducible intro _)) | (refine St_step2 ?_ ?_ <;> (intro hb; (try simp only [beq_iff_eq, bne_iff_ne, decide_eq_true_eq, decide_eq_false_iff_not, Bool.not_eq_true', Bool.not_eq_false', beq_eq_false_iff_ne, bne_eq_false_iff_eq, ne_eq, Int.not_lt, Int.not_le, gt_iff_lt, ge_iff_le] at hb); (try (first | exact Bool.noConfusion hb | exact absurd trivial hb | (exfalso; omega))))) | fail)
    refine St_slMk (sz := 3) (n := l.length) (cap := c) (pre := pre) (cs := xs.flatMap rvp) (rest := rest) (by exact Has.auto) hcap hrest hlen ?_
    refine St_lgMk (b := b) (clients := clients) (l := l) (v := .slice (some ⟨b2, pre.length, none⟩) l.length c) (xs := xs) hx (by exact Split.auto) ?_
    exact St_retCT tb (.inl rfl) rfl rfl rfl rfl rfl (by exact Has.auto) rfl (.inl ⟨r, _, hr, rfl, rfl⟩) (by exact Split.auto)
  · have hn : l[i]? = none := List.getElem?_eq_none (by omega)
    repeat' (first | (refine St_step ?_; (try with_reducible intro _)) | (refine St_step2 ?_ ?_ <;> (intro hb; (try simp only [beq_iff_eq, bne_iff_ne, decide_eq_true_eq, decide_eq_false_iff_not, Bool.not_eq_true', Bool.not_eq_false', beq_eq_false_iff_ne, bne_eq_false_iff_eq, ne_eq, Int.not_lt, Int.not_le, gt_iff_lt, ge_iff_le] at hb); (try (first | exact Bool.noConfusion hb | exact absurd trivial hb | (exfalso; omega))))) | fail)
    all_goals first | (exfalso; omega) | skip
    all_goals refine St_lgMk (b := b) (clients := clients) (l := l) (v := .slice A l.length c) (xs := xs) hx (by exact Split.auto) ?_
    all_goals exact St_retCT tb (.inl rfl) rfl rfl rfl rfl rfl (by exact Has.auto) rfl (.inr ⟨hn, rfl, rfl⟩) (by exact Split.auto)
/-- Rounds that are read: a slice of them. -/
def RdL (v : Value) (l : List Ro) (xs : List (Ro × Value)) : List HP := [lift (xs.map (·.1) = l), RS true v l.length (xs.flatMap rvp), ULs xs]
def RdP (v : Value) (l : List Ro) : HP := ex fun xs => big (RdL v l xs)
theorem dup_rd (v : Value) (l : List Ro) : Dup (RdP v l) := dup_ex fun xs => dup_big fun A hA => by
  simp only [RdL, List.mem_cons, List.not_mem_nil, or_false] at hA
  rcases hA with rfl | rfl | rfl
  · exact dup_lift _
  · exact dup_rs _ _ _
  · exact dup_uls _
section
variable {ρ : Rst} {N : Nat} {env : Env} {L L' : List HP} {G : Act → World → Prop}
theorem St_rdOpen {v : Value} {l : List Ro} (hc : Has L (RdP v l) L') (h : ∀ xs, xs.map (·.1) = l → St ρ N env (RS true v l.length (xs.flatMap rvp) :: ULs xs :: L') G) : St ρ N env L G :=
  St_exOpen (l := RdL v l) hc fun xs => St_lift fun hx => h xs hx
theorem St_rdMk {v : Value} {l : List Ro} {xs : List (Ro × Value)} (hx : xs.map (·.1) = l) (hs : Split L [RS true v l.length (xs.flatMap rvp), ULs xs] L') (h : St ρ N env (RdP v l :: L') G) : St ρ N env L G :=
  St_conv (fun w H => Holds.ex_mk (A := fun z => big (RdL v l z)) xs (Holds.shut (l := [_, _, _]) (Holds.lift_mk hx (H.split hs)))) h
end
set_option maxHeartbeats 1000000 in
theorem lgAllC_sp (b clients : Nat) (l : List Ro) (hl : l.length ≤ 1000000) (hu : ∀ r ∈ l, r.ups.length ≤ 1000) : Sp Tryz.prog 55 [.pointer (some ⟨b, 0, none⟩)] [LgP b clients l]
    (fun w M => (∃ A c, l.length ≤ c ∧ w = .slice A l.length c) ∧ M = [RdP w l, LgP b clients l]) := by
  refine Sp.intro (P := Tryz.prog) (Tryz.func55) rfl Tryz.ntmps55 (by decide) rfl ?_
  intro ρ F
  refine St_lgOpen (by exact Has.auto) fun v xs hx => ?_
  refine St_slIs (v := v) (by exact Has.auto) ?_
  rintro A c rfl
  have hxl : xs.length = l.length := by rw [← hx]; simp
  refine St_slNil (E := 64) (sz := 3) ?_
  refine St_ulNil ?_
  repeat' (first | (refine St_loop (fun (y : Nat × Option Addr × Nat × List (Ro × Value)) => y.1 ≤ l.length ∧ y.2.2.2.map (·.1) = l.take y.1) (fun y => [(3, .slice y.2.1 y.1 y.2.2.1), (9, .slice A l.length c), (10, nat .i64 l.length), (11, nat .i64 y.1)]) (fun y => [Sl 64 3 (.slice y.2.1 y.1 y.2.2.1) y.1 (y.2.2.2.flatMap rvp), ULs y.2.2.2, cel false b 126 (nat .i64 clients :: .slice A l.length c :: lastC l), Sl 64 3 (.slice A l.length c) l.length (xs.flatMap rvp), ULs xs, big F]) (fun y => l.length - y.1) (0, none, 0, []) ⟨Nat.zero_le _, rfl⟩ ⟨rfl, rfl, rfl, rfl, trivial⟩ (by exact Split.auto) ?_) | (refine St_step ?_; (try with_reducible intro _)) | (refine St_step2 ?_ ?_ <;> (intro hb; (try simp only [beq_iff_eq, bne_iff_ne, decide_eq_true_eq, decide_eq_false_iff_not, Bool.not_eq_true', Bool.not_eq_false', beq_eq_false_iff_ne, bne_eq_false_iff_eq, ne_eq, Int.not_lt, Int.not_le, gt_iff_lt, ge_iff_le] at hb); (try (first | exact Bool.noConfusion hb | exact absurd trivial hb | (exfalso; omega))))) | fail)
  rintro ⟨i, A1, c1, ys⟩ ⟨hi, hys⟩
  have hi : i ≤ l.length := hi
  have hys : ys.map (·.1) = l.take i := hys
  dsimp only
  by_cases hil : i < l.length
  · obtain ⟨y, hy⟩ : ∃ y, xs[i]? = some y := ⟨_, List.getElem?_eq_getElem (by omega)⟩
    obtain ⟨r, u⟩ := y
    have hr : l[i]? = some r := by rw [← hx, List.getElem?_map, hy]; rfl
    refine St_slOpen (v := .slice A l.length c) (cs := xs.flatMap rvp) (by exact Has.auto) (fun h _ _ => ?_) ?_
    · injection h with h1 h2 h3; omega
    rintro b2 cap pre rest hv hcap hrest hlen
    injection hv with hv1 hv2 hv3
    subst hv1 hv3
    have hld := flat_at rvp_len xs i (r, u) pre rest hy
    have hroom := flat_room rvp_len xs i pre rest (by omega)
    have cc := copy_sp true r u (hu r (List.mem_of_getElem? hr))
    refine St_ulGet (xs := xs) (x := (r, u)) (by exact Has.auto) (List.mem_of_getElem? hy) ?_
    refine St_rsIs (r := true) (v := u) (n := r.ups.length) (cs := r.ups.flatMap uv) (by exact Has.auto) ?_
    rintro Au cu rfl
    have hylen : ys.length = i := by have := congrArg List.length hys; simp at this; omega
    repeat' (first | (apply St_call (hf := cc); exact rfl; exact rfl; exact Split.auto; rintro _ _ ⟨v', rfl, rfl⟩; refine St_rsIs (r := true) (v := v') (n := r.ups.length) (cs := r.ups.flatMap uv) (by exact Has.auto) ?_; rintro A' c' rfl) | (apply St_append tb (sz := 3) (n := i) (cs := ys.flatMap rvp); (repeat exact rfl); exact Has.auto; (intro _; exact Src.row (n := 1) (by exact Has.auto) (by simp) (by exact rfl)); exact rfl; (dsimp only; omega); intro v'; refine St_slIs (v := v') (n := i + 1) (by exact Has.auto) ?_; rintro A2 c2 rfl) | (apply St_rd; exact rfl; (first | (apply Rd_loadA tb; exact rfl; exact rfl; exact rfl; exact Has.auto; exact hroom; exact hld))) | (apply Sq_rd; exact rfl; (first | (apply Rd_loadA tb; exact rfl; exact rfl; exact rfl; exact Has.auto; exact hroom; exact hld))) | (refine St_step ?_; (try with_reducible intro _)) | (refine St_step2 ?_ ?_ <;> (intro hb; (try simp only [beq_iff_eq, bne_iff_ne, decide_eq_true_eq, decide_eq_false_iff_not, Bool.not_eq_true', Bool.not_eq_false', beq_eq_false_iff_ne, bne_eq_false_iff_eq, ne_eq, Int.not_lt, Int.not_le, gt_iff_lt, ge_iff_le] at hb); (try (first | exact Bool.noConfusion hb | exact absurd trivial hb | (exfalso; omega))))) | fail)
    all_goals first | (exfalso; omega) | skip
    refine St_slMk (sz := 3) (n := l.length) (cap := c) (pre := pre) (cs := xs.flatMap rvp) (rest := rest) (by exact Has.auto) hcap hrest hlen ?_
    refine St_ulAdd (xs := ys) (x := (r, .slice A' r.ups.length c')) (by exact Split.auto) ?_
    refine St_slEq (cs' := (ys ++ [(r, Value.slice A' r.ups.length c')]).flatMap rvp) (n' := i + 1) (by exact Has.auto) (by rw [List.flatMap_append]; rfl) rfl ?_
    exact St_at (i + 1, A2, c2, ys ++ [(r, .slice A' r.ups.length c')]) ⟨⟨by show i + 1 ≤ _; omega, by show (ys ++ [_]).map _ = l.take (i + 1); rw [List.map_append, hys, List.take_add_one, hr]; rfl⟩, by show _ - (i + 1) < _ - i; omega⟩ ⟨rfl, rfl, rfl, rfl, trivial⟩ (by exact Split.auto)
  · have hii : i = l.length := by omega
    subst hii
    rw [List.take_length] at hys
    repeat' (first | (refine St_step ?_; (try with_reducible intro _)) | (refine St_step2 ?_ ?_ <;> (intro hb; (try simp only [beq_iff_eq, bne_iff_ne, decide_eq_true_eq, decide_eq_false_iff_not, Bool.not_eq_true', Bool.not_eq_false', beq_eq_false_iff_ne, bne_eq_false_iff_eq, ne_eq, Int.not_lt, Int.not_le, gt_iff_lt, ge_iff_le] at hb); (try (first | exact Bool.noConfusion hb | exact absurd trivial hb | (exfalso; omega))))) | fail)
    refine St_slRoom (A := A1) (n := l.length) (cap := c1) (cs := ys.flatMap rvp) (by exact Has.auto) fun hroom => ?_
    refine St_slShare (v := .slice A1 l.length c1) (cs := ys.flatMap rvp) (by exact Has.auto) ?_
    refine St_rdMk (v := .slice A1 l.length c1) (l := l) (xs := ys) hys (by exact Split.auto) ?_
    refine St_lgMk (b := b) (clients := clients) (l := l) (v := .slice A l.length c) (xs := xs) hx (by exact Split.auto) ?_
    exact St_ret1 (.inl rfl) rfl rfl ⟨⟨_, _, hroom, rfl⟩, rfl⟩ (by exact Split.auto)
theorem lgAll_sp (b clients : Nat) (l : List Ro) (hl : l.length ≤ 1000000) (hu : ∀ r ∈ l, r.ups.length ≤ 1000) : Sp Tryz.prog 55 [.pointer (some ⟨b, 0, none⟩)] [LgP b clients l]
    (fun w M => (∃ A c, w = .slice A l.length c) ∧ M = [RdP w l, LgP b clients l]) :=
  (lgAllC_sp b clients l hl hu).mono fun v M ⟨⟨A, c, _, h⟩, h2⟩ => ⟨⟨A, c, h⟩, h2⟩
end Go.Proofs.YtfjnacakpeommaaGreatDoor
/- Contracts: commit.Log's Add; package feed. -/
namespace Go.Proofs.YtfjnacakpeommaaGreatDoor
open Go SL Pl
set_option autoImplicit false
set_option maxRecDepth 100000
set_option linter.unusedSimpArgs false
set_option linter.unusedVariables false
attribute [local irreducible] St Sq Exec QExec wpList wpQuiet Code.wp Exit.then Exit.inBlock bodyPost At Rd wpOp Wa QK GB
theorem lgC_at {clients : Nat} {v : Value} {l : List Ro} {o : Nat} (h : o < 65) : (nat .i64 clients :: v :: lastC l)[2 + o]? = some (nat .i64 (lastOf l (o : Int))) := by
  rw [Nat.add_comm 2 o, List.getElem?_cons_succ, List.getElem?_cons_succ, lastC_at l o h]
theorem lgC_set {clients : Nat} {v : Value} {l : List Ro} {r : Ro} {o : Nat} (h : o < 65) (ho : r.origin = o) (hn : r.number = (lastOf l r.origin : Int) + 1) :
    (nat .i64 clients :: v :: lastC l).set (2 + o) (nat .i64 (lastOf l (o : Int) + 1)) = nat .i64 clients :: v :: lastC (l ++ [r]) := by
  rw [Nat.add_comm 2 o, List.set_cons_succ, List.set_cons_succ, lastC_set l r o h ho hn]
theorem lgC_len {clients : Nat} {v : Value} {l : List Ro} : (nat .i64 clients :: v :: lastC l).length = 67 := by simp [lastC_len]
set_option maxHeartbeats 1000000 in
theorem lgAdd_sp (q : Bool) (b clients : Nat) (l : List Ro) (r : Ro) (v : Value) (hc64 : clients ≤ 64) (hl : l.length ≤ 1000000) (hlast : ∀ o, lastOf l o ≤ 1099511627776) :
    Sp Tryz.prog 40 [.pointer (some ⟨b, 0, none⟩), .agg (rv r v).toArray] [LgP b clients l, UL q v r.ups]
      (fun w M => w = nat .i64 (lgErr clients l r) ∧ M = [LgP b clients (lgAdd clients l r), UL q v r.ups]) := by
  refine Sp.intro (P := Tryz.prog) (Tryz.func40) rfl Tryz.ntmps40 (by decide) rfl ?_
  intro ρ F
  refine St_rsIs (r := q) (v := v) (n := r.ups.length) (cs := r.ups.flatMap uv) (by exact Has.auto) ?_
  rintro Au cu rfl
  have hmay := rMay_sp q r (.slice Au r.ups.length cu)
  unfold lgAdd lgErr
  by_cases h0 : rmay r ≠ 0
  · rw [if_pos h0, if_pos h0]
    repeat' (first | (apply St_call (hf := hmay); exact rfl; exact rfl; exact Split.auto; rintro _ _ ⟨rfl, rfl⟩) | (refine St_step ?_; (try with_reducible intro _)) | (refine St_step2 ?_ ?_ <;> (intro hb; (try simp only [beq_iff_eq, bne_iff_ne, decide_eq_true_eq, decide_eq_false_iff_not, Bool.not_eq_true', Bool.not_eq_false', beq_eq_false_iff_ne, bne_eq_false_iff_eq, ne_eq, Int.not_lt, Int.not_le, gt_iff_lt, ge_iff_le] at hb); (try (first | exact Bool.noConfusion hb | exact absurd trivial hb | (exfalso; omega))))) | fail)
    all_goals (first | contradiction | (exfalso; omega) | (exact St_ret1 (.inl rfl) rfl rfl ⟨rfl, rfl⟩ (by exact Split.auto)) | (exact St_ret2 (.inl rfl) rfl rfl rfl ⟨rfl, rfl⟩ (by exact Split.auto)) | (exact St_ret3 (.inl rfl) rfl rfl rfl rfl ⟨rfl, rfl⟩ (by exact Split.auto)))
  have h0' : rmay r = 0 := by omega
  rw [if_neg h0]
  obtain ⟨⟨o1, o2⟩, ⟨n1, n2⟩, ⟨u1, u2⟩, _⟩ := rmay_zero h0'
  rw [h0'] at hmay
  obtain ⟨o, ho⟩ := Int.eq_ofNat_of_zero_le (show 0 ≤ r.origin by omega)
  have ho65 : o < 65 := by omega
  have hll := hlast (o : Int)
  rw [← ho] at hll
  refine St_lgOpen (b := b) (clients := clients) (l := l) (by exact Has.auto) fun v xs hx => ?_
  refine St_slIs (v := v) (n := l.length) (by exact Has.auto) ?_
  rintro A c rfl
  have hat := lgC_at (clients := clients) (v := .slice A l.length c) (l := l) ho65
  rw [← ho] at hat
  have hcast : 0 + 2 + ((o : Nat) : Int).toNat * 1 = 2 + o := by omega
  have hix : 0 ≤ r.origin ∧ r.origin < ((65 : Nat) : Int) := by omega
  have hcast : 0 + 2 + r.origin.toNat * 1 = 2 + o := by omega
  rw [← hcast] at hat
  by_cases h1 : (clients : Int) < r.origin
  · rw [if_pos h1]
    simp only [ne_eq, not_false_eq_true, Nat.reduceEqDiff, if_true]
    repeat' (first | (apply St_call (hf := hmay); exact rfl; exact rfl; exact Split.auto; rintro _ _ ⟨rfl, rfl⟩) | (apply St_regionQ; kernel_rfl; kernel_rfl) | (apply St_rd; exact rfl; (first | (apply Rd_indexAddrA tb; exact rfl; exact rfl; exact rfl; exact rfl; exact hix) | (apply Rd_loadn tb; exact rfl; exact rfl; exact rfl; exact Has.auto; exact hat))) | (apply Sq_rd; exact rfl; (first | (apply Rd_indexAddrA tb; exact rfl; exact rfl; exact rfl; exact rfl; exact hix) | (apply Rd_loadn tb; exact rfl; exact rfl; exact rfl; exact Has.auto; exact hat))) | (refine St_step ?_; (try with_reducible intro _)) | (refine St_step2 ?_ ?_ <;> (intro hb; (try simp only [beq_iff_eq, bne_iff_ne, decide_eq_true_eq, decide_eq_false_iff_not, Bool.not_eq_true', Bool.not_eq_false', beq_eq_false_iff_ne, bne_eq_false_iff_eq, ne_eq, Int.not_lt, Int.not_le, gt_iff_lt, ge_iff_le] at hb); (try (first | exact Bool.noConfusion hb | exact absurd trivial hb | (exfalso; omega))))) | fail)
    all_goals first | (exfalso; omega) | skip
    all_goals refine St_lgMk (b := b) (clients := clients) (l := l) (v := .slice A l.length c) (xs := xs) hx (by exact Split.auto) ?_
    all_goals exact St_ret1 (.inl rfl) rfl rfl ⟨rfl, rfl⟩ (by exact Split.auto)
  rw [if_neg h1]
  by_cases h2 : r.number ≤ lastOf l r.origin
  · rw [if_pos h2]
    simp only [ne_eq, not_false_eq_true, Nat.reduceEqDiff, if_true]
    repeat' (first | (apply St_call (hf := hmay); exact rfl; exact rfl; exact Split.auto; rintro _ _ ⟨rfl, rfl⟩) | (apply St_regionQ; kernel_rfl; kernel_rfl) | (apply St_rd; exact rfl; (first | (apply Rd_indexAddrA tb; exact rfl; exact rfl; exact rfl; exact rfl; exact hix) | (apply Rd_loadn tb; exact rfl; exact rfl; exact rfl; exact Has.auto; exact hat))) | (apply Sq_rd; exact rfl; (first | (apply Rd_indexAddrA tb; exact rfl; exact rfl; exact rfl; exact rfl; exact hix) | (apply Rd_loadn tb; exact rfl; exact rfl; exact rfl; exact Has.auto; exact hat))) | (refine St_step ?_; (try with_reducible intro _)) | (refine St_step2 ?_ ?_ <;> (intro hb; (try simp only [beq_iff_eq, bne_iff_ne, decide_eq_true_eq, decide_eq_false_iff_not, Bool.not_eq_true', Bool.not_eq_false', beq_eq_false_iff_ne, bne_eq_false_iff_eq, ne_eq, Int.not_lt, Int.not_le, gt_iff_lt, ge_iff_le] at hb); (try (first | exact Bool.noConfusion hb | exact absurd trivial hb | (exfalso; omega))))) | fail)
    all_goals first | (exfalso; omega) | skip
    all_goals refine St_lgMk (b := b) (clients := clients) (l := l) (v := .slice A l.length c) (xs := xs) hx (by exact Split.auto) ?_
    all_goals exact St_ret1 (.inl rfl) rfl rfl ⟨rfl, rfl⟩ (by exact Split.auto)
  rw [if_neg h2]
  by_cases h3 : (lastOf l r.origin : Int) + 1 < r.number
  · rw [if_pos h3]
    simp only [ne_eq, not_false_eq_true, Nat.reduceEqDiff, if_true]
    repeat' (first | (apply St_call (hf := hmay); exact rfl; exact rfl; exact Split.auto; rintro _ _ ⟨rfl, rfl⟩) | (apply St_regionQ; kernel_rfl; kernel_rfl) | (apply St_rd; exact rfl; (first | (apply Rd_indexAddrA tb; exact rfl; exact rfl; exact rfl; exact rfl; exact hix) | (apply Rd_loadn tb; exact rfl; exact rfl; exact rfl; exact Has.auto; exact hat))) | (apply Sq_rd; exact rfl; (first | (apply Rd_indexAddrA tb; exact rfl; exact rfl; exact rfl; exact rfl; exact hix) | (apply Rd_loadn tb; exact rfl; exact rfl; exact rfl; exact Has.auto; exact hat))) | (refine St_step ?_; (try with_reducible intro _)) | (refine St_step2 ?_ ?_ <;> (intro hb; (try simp only [beq_iff_eq, bne_iff_ne, decide_eq_true_eq, decide_eq_false_iff_not, Bool.not_eq_true', Bool.not_eq_false', beq_eq_false_iff_ne, bne_eq_false_iff_eq, ne_eq, Int.not_lt, Int.not_le, gt_iff_lt, ge_iff_le] at hb); (try (first | exact Bool.noConfusion hb | exact absurd trivial hb | (exfalso; omega))))) | fail)
    all_goals first | (exfalso; omega) | skip
    all_goals refine St_lgMk (b := b) (clients := clients) (l := l) (v := .slice A l.length c) (xs := xs) hx (by exact Split.auto) ?_
    all_goals exact St_ret1 (.inl rfl) rfl rfl ⟨rfl, rfl⟩ (by exact Split.auto)
  rw [if_neg h3]
  simp only [ne_eq, not_true_eq_false, if_false]
  have hn : r.number = (lastOf l r.origin : Int) + 1 := by omega
  have hset := lgC_set (clients := clients) (v := .slice A l.length c) (l := l) (r := r) ho65 ho hn
  rw [← ho, ← hcast] at hset
  have hn2 : 0 + 2 + r.origin.toNat * 1 < (nat .i64 clients :: Value.slice A l.length c :: lastC l).length := by rw [lgC_len]; omega
  have cc := copy_sp q r (.slice Au r.ups.length cu) (by omega)
  have hsucc : Value.int .i64 ((lastOf l r.origin : Int) + 1) = nat .i64 (lastOf l r.origin + 1) := rfl
  repeat (refine St_step ?_; (try with_reducible intro rb))
  repeat' (first | (apply St_call (hf := hmay); exact rfl; exact rfl; exact Split.auto; rintro _ _ ⟨rfl, rfl⟩) | (apply St_regionA (11) ([cel false b 126 (nat .i64 clients :: .slice A l.length c :: lastC l), cel false rb 64 (rv r (.slice Au r.ups.length cu))]); kernel_rfl; (apply Sa_take 0; exact rfl; kernel_rfl; exact PanicOk.auto; exact rfl; (first | (apply Rd_indexAddrA tb; exact rfl; exact rfl; exact rfl; exact rfl; exact hix) | (apply Rd_loadn tb; exact rfl; exact rfl; exact rfl; exact Has.auto; exact hat) | exact Rd_auto)); (apply Sa_take 1; exact rfl; kernel_rfl; exact PanicOk.auto; exact rfl; (first | (apply Rd_indexAddrA tb; exact rfl; exact rfl; exact rfl; exact rfl; exact hix) | (apply Rd_loadn tb; exact rfl; exact rfl; exact rfl; exact Has.auto; exact hat) | exact Rd_auto)); (apply Sa_take 2; exact rfl; kernel_rfl; exact PanicOk.auto; exact rfl; (first | (apply Rd_indexAddrA tb; exact rfl; exact rfl; exact rfl; exact rfl; exact hix) | (apply Rd_loadn tb; exact rfl; exact rfl; exact rfl; exact Has.auto; exact hat) | exact Rd_auto)); (apply Sa_take 3; exact rfl; kernel_rfl; exact PanicOk.auto; exact rfl; (first | (apply Rd_indexAddrA tb; exact rfl; exact rfl; exact rfl; exact rfl; exact hix) | (apply Rd_loadn tb; exact rfl; exact rfl; exact rfl; exact Has.auto; exact hat) | exact Rd_auto)); (apply Sa_take 4; exact rfl; kernel_rfl; exact PanicOk.auto; exact rfl; (first | (apply Rd_indexAddrA tb; exact rfl; exact rfl; exact rfl; exact rfl; exact hix) | (apply Rd_loadn tb; exact rfl; exact rfl; exact rfl; exact Has.auto; exact hat) | exact Rd_auto)); (apply Sa_take 5; exact rfl; kernel_rfl; exact PanicOk.auto; exact rfl; (first | (apply Rd_indexAddrA tb; exact rfl; exact rfl; exact rfl; exact rfl; exact hix) | (apply Rd_loadn tb; exact rfl; exact rfl; exact rfl; exact Has.auto; exact hat) | exact Rd_auto)); (apply Sa_take 6; exact rfl; kernel_rfl; exact PanicOk.auto; exact rfl; (first | (apply Rd_indexAddrA tb; exact rfl; exact rfl; exact rfl; exact rfl; exact hix) | (apply Rd_loadn tb; exact rfl; exact rfl; exact rfl; exact Has.auto; exact hat) | exact Rd_auto)); (apply Sa_take 7; exact rfl; kernel_rfl; exact PanicOk.auto; exact rfl; (first | (apply Rd_indexAddrA tb; exact rfl; exact rfl; exact rfl; exact rfl; exact hix) | (apply Rd_loadn tb; exact rfl; exact rfl; exact rfl; exact Has.auto; exact hat) | exact Rd_auto)); (apply Sa_take 8; exact rfl; kernel_rfl; exact PanicOk.auto; exact rfl; (first | (apply Rd_indexAddrA tb; exact rfl; exact rfl; exact rfl; exact rfl; exact hix) | (apply Rd_loadn tb; exact rfl; exact rfl; exact rfl; exact Has.auto; exact hat) | exact Rd_auto)); (apply Sa_take 9; exact rfl; kernel_rfl; exact PanicOk.auto; exact rfl; (first | (apply Rd_indexAddrA tb; exact rfl; exact rfl; exact rfl; exact rfl; exact hix) | (apply Rd_loadn tb; exact rfl; exact rfl; exact rfl; exact Has.auto; exact hat) | exact Rd_auto)); (apply Sa_take 10; exact rfl; kernel_rfl; exact PanicOk.auto; exact rfl; (first | (apply Rd_indexAddrA tb; exact rfl; exact rfl; exact rfl; exact rfl; exact hix) | (apply Rd_loadn tb; exact rfl; exact rfl; exact rfl; exact Has.auto; exact hat) | exact Rd_auto)); (apply Sa_one (i := 11); kernel_rfl; exact .inr (by exact Split.auto)); (apply Sa_op; exact rfl; exact rfl); (first | (apply St_store1e tb; exact rfl; exact rfl; exact rfl; exact rfl; exact rfl; exact Has.auto; exact hset; exact hn2) | (apply St_rd; exact rfl; (first | (apply Rd_indexAddrA tb; exact rfl; exact rfl; exact rfl; exact rfl; exact hix) | (apply Rd_loadn tb; exact rfl; exact rfl; exact rfl; exact Has.auto; exact hat))) | (apply Sq_rd; exact rfl; (first | (apply Rd_indexAddrA tb; exact rfl; exact rfl; exact rfl; exact rfl; exact hix) | (apply Rd_loadn tb; exact rfl; exact rfl; exact rfl; exact Has.auto; exact hat))) | (refine St_step ?_; (try with_reducible intro _)) | (refine St_step2 ?_ ?_ <;> (intro hb; (try simp only [beq_iff_eq, bne_iff_ne, decide_eq_true_eq, decide_eq_false_iff_not, Bool.not_eq_true', Bool.not_eq_false', beq_eq_false_iff_ne, bne_eq_false_iff_eq, ne_eq, Int.not_lt, Int.not_le, gt_iff_lt, ge_iff_le] at hb); (try (first | exact Bool.noConfusion hb | exact absurd trivial hb | (exfalso; omega))))) | fail); (apply Sa_done (R := []); kernel_rfl; refine .inl ?_; kernel_rfl)) | (apply St_regionA (11) ([cel false b 126 (nat .i64 clients :: .slice A l.length c :: lastC (l ++ [r])), cel false rb 64 (rv r (.slice Au r.ups.length cu))]); kernel_rfl; (apply Sa_take 0; exact rfl; kernel_rfl; exact PanicOk.auto; exact rfl; (first | exact Rd_auto)); (apply Sa_take 1; exact rfl; kernel_rfl; exact PanicOk.auto; exact rfl; (first | exact Rd_auto)); (apply Sa_take 2; exact rfl; kernel_rfl; exact PanicOk.auto; exact rfl; (first | exact Rd_auto)); (apply Sa_take 3; exact rfl; kernel_rfl; exact PanicOk.auto; exact rfl; (first | exact Rd_auto)); (apply Sa_take 4; exact rfl; kernel_rfl; exact PanicOk.auto; exact rfl; (first | exact Rd_auto)); (apply Sa_take 5; exact rfl; kernel_rfl; exact PanicOk.auto; exact rfl; (first | exact Rd_auto)); (apply Sa_one (i := 6); kernel_rfl; exact .inr (by exact Split.auto)); (apply Sa_op; exact rfl; exact rfl); (first | (apply St_call (hf := cc); exact rfl; exact rfl; exact Split.auto; rintro _ _ ⟨v', rfl, rfl⟩; refine St_rsIs (r := true) (v := v') (n := r.ups.length) (cs := r.ups.flatMap uv) (by exact Has.auto) ?_; rintro A' c' rfl) | (apply St_append tb (sz := 3) (n := l.length) (cs := xs.flatMap rvp); (repeat exact rfl); exact Has.auto; (intro _; exact Src.row (n := 1) (by exact Has.auto) (by simp) (by exact rfl)); exact rfl; (dsimp only; omega); intro v'; refine St_slIs (v := v') (n := l.length + 1) (by exact Has.auto) ?_; rintro A2 c2 rfl) | (refine St_step ?_; (try with_reducible intro _)) | (refine St_step2 ?_ ?_ <;> (intro hb; (try simp only [beq_iff_eq, bne_iff_ne, decide_eq_true_eq, decide_eq_false_iff_not, Bool.not_eq_true', Bool.not_eq_false', beq_eq_false_iff_ne, bne_eq_false_iff_eq, ne_eq, Int.not_lt, Int.not_le, gt_iff_lt, ge_iff_le] at hb); (try (first | exact Bool.noConfusion hb | exact absurd trivial hb | (exfalso; omega))))) | fail); (apply Sa_one (i := 7); kernel_rfl; exact .inr (by exact Split.auto)); (apply Sa_op; exact rfl; exact rfl); (first | (apply St_call (hf := cc); exact rfl; exact rfl; exact Split.auto; rintro _ _ ⟨v', rfl, rfl⟩; refine St_rsIs (r := true) (v := v') (n := r.ups.length) (cs := r.ups.flatMap uv) (by exact Has.auto) ?_; rintro A' c' rfl) | (apply St_append tb (sz := 3) (n := l.length) (cs := xs.flatMap rvp); (repeat exact rfl); exact Has.auto; (intro _; exact Src.row (n := 1) (by exact Has.auto) (by simp) (by exact rfl)); exact rfl; (dsimp only; omega); intro v'; refine St_slIs (v := v') (n := l.length + 1) (by exact Has.auto) ?_; rintro A2 c2 rfl) | (refine St_step ?_; (try with_reducible intro _)) | (refine St_step2 ?_ ?_ <;> (intro hb; (try simp only [beq_iff_eq, bne_iff_ne, decide_eq_true_eq, decide_eq_false_iff_not, Bool.not_eq_true', Bool.not_eq_false', beq_eq_false_iff_ne, bne_eq_false_iff_eq, ne_eq, Int.not_lt, Int.not_le, gt_iff_lt, ge_iff_le] at hb); (try (first | exact Bool.noConfusion hb | exact absurd trivial hb | (exfalso; omega))))) | fail); (apply Sa_one (i := 8); kernel_rfl; exact .inr (by exact Split.auto)); (apply Sa_op; exact rfl; exact rfl); (first | (apply St_call (hf := cc); exact rfl; exact rfl; exact Split.auto; rintro _ _ ⟨v', rfl, rfl⟩; refine St_rsIs (r := true) (v := v') (n := r.ups.length) (cs := r.ups.flatMap uv) (by exact Has.auto) ?_; rintro A' c' rfl) | (apply St_append tb (sz := 3) (n := l.length) (cs := xs.flatMap rvp); (repeat exact rfl); exact Has.auto; (intro _; exact Src.row (n := 1) (by exact Has.auto) (by simp) (by exact rfl)); exact rfl; (dsimp only; omega); intro v'; refine St_slIs (v := v') (n := l.length + 1) (by exact Has.auto) ?_; rintro A2 c2 rfl) | (refine St_step ?_; (try with_reducible intro _)) | (refine St_step2 ?_ ?_ <;> (intro hb; (try simp only [beq_iff_eq, bne_iff_ne, decide_eq_true_eq, decide_eq_false_iff_not, Bool.not_eq_true', Bool.not_eq_false', beq_eq_false_iff_ne, bne_eq_false_iff_eq, ne_eq, Int.not_lt, Int.not_le, gt_iff_lt, ge_iff_le] at hb); (try (first | exact Bool.noConfusion hb | exact absurd trivial hb | (exfalso; omega))))) | fail); (apply Sa_take 9; exact rfl; kernel_rfl; exact PanicOk.auto; exact rfl; (first | exact Rd_auto)); (apply Sa_take 10; exact rfl; kernel_rfl; exact PanicOk.auto; exact rfl; (first | exact Rd_auto)); (apply Sa_one (i := 11); kernel_rfl; exact .inr (by exact Split.auto)); (apply Sa_op; exact rfl; exact rfl); (first | (apply St_call (hf := cc); exact rfl; exact rfl; exact Split.auto; rintro _ _ ⟨v', rfl, rfl⟩; refine St_rsIs (r := true) (v := v') (n := r.ups.length) (cs := r.ups.flatMap uv) (by exact Has.auto) ?_; rintro A' c' rfl) | (apply St_append tb (sz := 3) (n := l.length) (cs := xs.flatMap rvp); (repeat exact rfl); exact Has.auto; (intro _; exact Src.row (n := 1) (by exact Has.auto) (by simp) (by exact rfl)); exact rfl; (dsimp only; omega); intro v'; refine St_slIs (v := v') (n := l.length + 1) (by exact Has.auto) ?_; rintro A2 c2 rfl) | (refine St_step ?_; (try with_reducible intro _)) | (refine St_step2 ?_ ?_ <;> (intro hb; (try simp only [beq_iff_eq, bne_iff_ne, decide_eq_true_eq, decide_eq_false_iff_not, Bool.not_eq_true', Bool.not_eq_false', beq_eq_false_iff_ne, bne_eq_false_iff_eq, ne_eq, Int.not_lt, Int.not_le, gt_iff_lt, ge_iff_le] at hb); (try (first | exact Bool.noConfusion hb | exact absurd trivial hb | (exfalso; omega))))) | fail); (apply Sa_done (R := []); kernel_rfl; refine .inl ?_; kernel_rfl)) | (apply St_regionQ; kernel_rfl; kernel_rfl) | (apply St_rd; exact rfl; (first | (apply Rd_indexAddrA tb; exact rfl; exact rfl; exact rfl; exact rfl; exact hix) | (apply Rd_loadn tb; exact rfl; exact rfl; exact rfl; exact Has.auto; exact hat))) | (apply Sq_rd; exact rfl; (first | (apply Rd_indexAddrA tb; exact rfl; exact rfl; exact rfl; exact rfl; exact hix) | (apply Rd_loadn tb; exact rfl; exact rfl; exact rfl; exact Has.auto; exact hat))) | (refine St_step ?_; (try with_reducible intro _)) | (refine St_step2 ?_ ?_ <;> (intro hb; (try simp only [beq_iff_eq, bne_iff_ne, decide_eq_true_eq, decide_eq_false_iff_not, Bool.not_eq_true', Bool.not_eq_false', beq_eq_false_iff_ne, bne_eq_false_iff_eq, ne_eq, Int.not_lt, Int.not_le, gt_iff_lt, ge_iff_le] at hb); (try (first | exact Bool.noConfusion hb | exact absurd trivial hb | (exfalso; omega))))) | fail)
  all_goals first | (exfalso; omega) | skip
  refine St_ulAdd (xs := xs) (x := (r, .slice A' r.ups.length c')) (by exact Split.auto) ?_
  refine St_slEq (v := .slice A2 (l.length + 1) c2) (cs' := (xs ++ [(r, Value.slice A' r.ups.length c')]).flatMap rvp) (n' := (l ++ [r]).length) (by exact Has.auto) (by rw [List.flatMap_append]; rfl) (by simp) ?_
  refine St_lgMk (b := b) (clients := clients) (l := l ++ [r]) (v := .slice A2 (l.length + 1) c2) (xs := xs ++ [(r, .slice A' r.ups.length c')]) (by rw [List.map_append, hx]; rfl) (by exact Split.auto) ?_
  exact St_ret1 (.inl rfl) rfl rfl ⟨rfl, rfl⟩ (by exact Split.auto)
end Go.Proofs.YtfjnacakpeommaaGreatDoor
