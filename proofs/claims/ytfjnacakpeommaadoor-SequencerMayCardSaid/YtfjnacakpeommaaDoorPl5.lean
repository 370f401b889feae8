/- Plain: a frame that is put is got as it was, and the other way round. -/
import Derived.Test.YtfjnacakpeommaaDoorPl4
namespace Go.Proofs.YtfjnacakpeommaaDoor.Pl
set_option autoImplicit false
set_option linter.unusedVariables false

theorem seald_length (l : List UInt8) : (seald l).length = l.length + 4 := by simp [seald, le4]
theorem unseald_seald (l : List UInt8) : unseald (seald l) = some l := by
  have e : (seald l).take ((seald l).length - 4) = l := by
    rw [seald_length, Nat.add_sub_cancel]
    simp [seald]
  unfold unseald
  rw [e, if_pos ⟨by rw [seald_length]; omega, rfl⟩]
theorem seald_unseald {b s : List UInt8} (h : unseald b = some s) : seald s = b := by
  unfold unseald at h
  split at h
  · rename_i hc
    cases h
    exact hc.2
  · cases h
theorem drop_app {s a b : List UInt8} {k : Nat} (h : s.drop k = a ++ b) : s.drop (k + a.length) = b := by
  rw [← List.drop_drop, h]; simp
theorem rraw_enc {s r : List UInt8} {k n : Nat} (h : s.drop k = enc n ++ r) (hn : n < 4611686018427387904) : rraw s ⟨k, 0⟩ = (n, ⟨k + sz n, 0⟩) := by
  unfold rraw
  rw [if_neg (fun h => h rfl)]
  simp only [h, get_enc hn]
theorem rnum_enc {s r : List UInt8} {k n lim : Nat} (h : s.drop k = enc n ++ r) (hn : n < 4611686018427387904) (hl : n ≤ lim) : rnum s lim ⟨k, 0⟩ = (n, ⟨k + sz n, 0⟩) := by
  unfold rnum
  rw [rraw_enc h hn, if_neg (by show ¬ lim < n; omega)]
theorem rtext_enc {s d r : List UInt8} {k lim : Nat} (h : s.drop k = enc d.length ++ (d ++ r)) (hn : d.length < 4611686018427387904) (hl : d.length ≤ lim) :
    rtext s lim ⟨k, 0⟩ = (d, ⟨k + sz d.length + d.length, 0⟩) := by
  have h2 := drop_app h
  rw [enc_length] at h2
  have hlen : d.length ≤ s.length - (k + sz d.length) := by
    have := congrArg List.length h2
    simp at this; omega
  unfold rtext
  rw [rnum_enc h hn hl, if_neg (by show ¬ s.length - (k + sz d.length) < d.length; omega)]
  simp [h2]
theorem fget_fput {f : Fr} {mtu : Int} {b : List UInt8} (h : fput f mtu = (b, 0)) : fget b = (f, 0) ∧ b = fbytes f ∧ frIn f ∧ f.data.length ≤ 1400 ∧ (b.length : Int) ≤ mtu ∧ mtu ≤ 1400 := by
  unfold fput at h
  split at h
  · cases h
  rename_i hm
  split at h
  · rename_i hz
    injection h with _ h
    exact absurd h hz
  rename_i hz
  split at h
  · cases h
  rename_i hl
  injection h with h _
  subst h
  have hz : fmay f = 0 := by omega
  have hi : frIn f := by
    by_cases hi : frIn f
    · exact hi
    · unfold fmay at hz; rw [if_pos hi] at hz; cases hz
  have h13 : ¬ (f.seq = 0 ∧ f.data ≠ []) := by
    intro h
    unfold fmay at hz; rw [if_neg (fun h => h hi), if_pos h] at hz; cases hz
  obtain ⟨⟨h1, h2⟩, ⟨h3, h4⟩, h5, h6⟩ := id hi
  have hd : f.data.length ≤ 1400 := by
    have : f.data.length ≤ (fbytes f).length := by simp [fbytes, seald, fbody, le4]; omega
    omega
  refine ⟨?_, rfl, hi, hd, by omega, by omega⟩
  obtain ⟨a, ha⟩ := Int.eq_ofNat_of_zero_le (show 0 ≤ f.ep by omega)
  obtain ⟨b, hb⟩ := Int.eq_ofNat_of_zero_le h3
  obtain ⟨c, hc⟩ := Int.eq_ofNat_of_zero_le h5
  obtain ⟨ep, seq, ack, d⟩ := f
  have ha : ep = a := ha
  have hb : seq = b := hb
  have hc : ack = c := hc
  have hd : d.length ≤ 1400 := hd
  subst ha hb hc
  have h2 : (a : Int) ≤ 1099511627776 := h2
  have h1 : 1 ≤ (a : Int) := h1
  have h4 : (b : Int) ≤ 1125899906842624 := h4
  have h6 : (c : Int) ≤ 1125899906842624 := h6
  have h13 : ¬ ((b : Int) = 0 ∧ d ≠ []) := h13
  have eb : fbytes ⟨a, b, c, d⟩ = seald (enc a ++ (enc b ++ (enc c ++ (enc d.length ++ (d ++ []))))) := by simp [fbytes, fbody]
  unfold fget
  rw [eb, unseald_seald]
  generalize hs : enc a ++ (enc b ++ (enc c ++ (enc d.length ++ (d ++ [])))) = s
  have k1 : s.drop 0 = enc a ++ (enc b ++ (enc c ++ (enc d.length ++ (d ++ [])))) := hs.symm
  have k2 := drop_app k1
  have k3 := drop_app k2
  have k4 := drop_app k3
  have k5 := drop_app (a := enc d.length ++ d) (b := []) (k := 0 + (enc a).length + (enc b).length + (enc c).length) (by rw [k4]; simp)
  rw [enc_length] at k2 k3 k4 k5
  rw [enc_length] at k3 k4 k5
  rw [enc_length] at k4 k5
  have q1 := rnum_enc (lim := 1099511627776) k1 (by omega) (by omega)
  have q2 := rnum_enc (lim := 1125899906842624) k2 (by omega) (by omega)
  have q3 := rnum_enc (lim := 1125899906842624) k3 (by omega) (by omega)
  have q4 := rtext_enc (lim := 1400) k4 (by omega) hd
  have hend : s.length = 0 + sz a + sz b + sz c + sz d.length + d.length := by
    rw [← hs]; simp [enc_length]; omega
  show fgetIn s = _
  rw [fgetIn_eq q1, if_neg (by omega), ftail_eq q2 q3 q4]
  have : ¬ (d ≠ [] ∧ b = 0) := fun h => h13 ⟨by omega, h.1⟩
  simp only [if_neg this]
  have hr : rend s ⟨0 + sz a + sz b + sz c + sz d.length + d.length, 0⟩ = 0 := by
    unfold rend; rw [if_neg (by rw [hend]; exact Nat.lt_irrefl _)]
  rw [if_neg (by rw [hr]; exact fun h => h rfl)]
/-! The other way round -/
theorem rraw_inv {s : List UInt8} {r r' : Rs} {n : Nat} (h : rraw s r = (n, r')) (he : r'.e = 0) : r.e = 0 ∧ n < 4611686018427387904 ∧ r'.at_ = r.at_ + sz n ∧ s.drop r.at_ = enc n ++ s.drop r'.at_ := by
  unfold rraw at h
  split at h
  · rename_i h0
    injection h with _ h
    subst h
    exact absurd he h0
  · rename_i h0
    split at h
    · rename_i k hg
      injection h with _ h
      subst h
      have := get_err hg
      have he : k = 0 := he
      omega
    · rename_i m z hg
      injection h with h1 h2
      subst h1 h2
      obtain ⟨g1, g2, g3, g4, _⟩ := enc_get hg
      refine ⟨by omega, g1, by show r.at_ + z = _; omega, ?_⟩
      show _ = enc m ++ s.drop (r.at_ + z)
      rw [← g3, ← List.drop_drop, List.take_append_drop]
theorem rnum_inv {s : List UInt8} {r r' : Rs} {n lim : Nat} (h : rnum s lim r = (n, r')) (he : r'.e = 0) : r.e = 0 ∧ n < 4611686018427387904 ∧ n ≤ lim ∧ r'.at_ = r.at_ + sz n ∧ s.drop r.at_ = enc n ++ s.drop r'.at_ := by
  unfold rnum at h
  split at h
  · injection h with _ h
    subst h
    exact absurd he (rfail_ne (by decide))
  · rename_i hl
    obtain ⟨a, b, c, d⟩ := rraw_inv h he
    rw [h] at hl
    exact ⟨a, b, by show n ≤ lim; have : ¬ lim < n := hl; omega, c, d⟩
theorem rtext_inv {s d : List UInt8} {r r' : Rs} {lim : Nat} (hr : r.at_ ≤ s.length) (h : rtext s lim r = (d, r')) (he : r'.e = 0) :
    r.e = 0 ∧ d.length < 4611686018427387904 ∧ d.length ≤ lim ∧ s.drop r.at_ = enc d.length ++ (d ++ s.drop r'.at_) := by
  unfold rtext at h
  obtain ⟨n, q, hq⟩ : ∃ n q, rnum s lim r = (n, q) := ⟨_, _, rfl⟩
  have hle : q.at_ ≤ s.length := by have := rnum_le (lim := lim) hr; rw [hq] at this; exact this
  rw [hq] at h
  split at h
  · injection h with _ h
    subst h
    exact absurd he (rfail_ne (by decide))
  · rename_i hl
    have hl : ¬ s.length - q.at_ < n := hl
    injection h with h1 h2
    subst h1 h2
    obtain ⟨a, b, c, e, f⟩ := rnum_inv hq he
    have hlen : ((s.drop q.at_).take n).length = n := by simp; omega
    refine ⟨a, by rw [hlen]; exact b, by rw [hlen]; exact c, ?_⟩
    rw [hlen]
    show _ = enc n ++ ((s.drop q.at_).take n ++ s.drop (q.at_ + n))
    rw [f, ← List.drop_drop, List.take_append_drop]
theorem rend_inv {s : List UInt8} {r : Rs} (h : rend s r = 0) : r.e = 0 ∧ s.drop r.at_ = [] := by
  unfold rend at h
  split at h
  · exact absurd h (rfail_ne (by decide))
  · exact ⟨h, List.drop_of_length_le (by omega)⟩
/-- What is got is a frame that may be, and its bytes are those. -/
theorem fput_fget {b : List UInt8} {f : Fr} (h : fget b = (f, 0)) : fmay f = 0 ∧ fbytes f = b := by
  unfold fget at h
  split at h
  · injection h with _ h; cases h
  rename_i s hs
  obtain ⟨n1, q1, h1⟩ : ∃ n r, rnum s 1099511627776 ⟨0, 0⟩ = (n, r) := ⟨_, _, rfl⟩
  rw [fgetIn_eq h1] at h
  generalize hr1 : (if n1 = 0 then ⟨q1.at_, rfail q1.e 1⟩ else q1 : Rs) = r1 at h
  obtain ⟨n2, q2, h2⟩ : ∃ n r, rnum s 1125899906842624 r1 = (n, r) := ⟨_, _, rfl⟩
  obtain ⟨n3, q3, h3⟩ : ∃ n r, rnum s 1125899906842624 q2 = (n, r) := ⟨_, _, rfl⟩
  obtain ⟨d, q4, h4⟩ : ∃ n r, rtext s 1400 q3 = (n, r) := ⟨_, _, rfl⟩
  rw [ftail_eq h2 h3 h4] at h
  generalize hr5 : (if d ≠ [] ∧ n2 = 0 then ⟨q4.at_, rfail q4.e 13⟩ else q4 : Rs) = r5 at h
  simp only at h
  split at h
  · rename_i he
    injection h with _ h
    exact absurd h he
  rename_i he
  injection h with h _
  subst h
  have he : rend s r5 = 0 := by omega
  obtain ⟨e5, k5⟩ := rend_inv he
  have hdn : ¬ (d ≠ [] ∧ n2 = 0) := by
    intro hc
    rw [if_pos hc] at hr5
    rw [← hr5] at e5
    exact rfail_ne (by decide) e5
  rw [if_neg hdn] at hr5
  subst hr5
  have l1 : q1.at_ ≤ s.length := by have := rnum_le (lim := 1099511627776) (r := ⟨0, 0⟩) (Nat.zero_le s.length); rw [h1] at this; exact this
  have l1' : r1.at_ ≤ s.length := by rw [← hr1]; split <;> exact l1
  have l2 : q2.at_ ≤ s.length := by have := rnum_le (lim := 1125899906842624) l1'; rw [h2] at this; exact this
  have l3 : q3.at_ ≤ s.length := by have := rnum_le (lim := 1125899906842624) l2; rw [h3] at this; exact this
  obtain ⟨e4, _, m4, k4⟩ := rtext_inv l3 h4 e5
  obtain ⟨e3, _, m3, _, k3⟩ := rnum_inv h3 e4
  obtain ⟨e2, _, m2, _, k2⟩ := rnum_inv h2 e3
  have hn1 : n1 ≠ 0 := by
    intro hc
    rw [if_pos hc] at hr1
    rw [← hr1] at e2
    exact rfail_ne (by decide) e2
  rw [if_neg hn1] at hr1
  subst hr1
  obtain ⟨_, _, m1, _, k1⟩ := rnum_inv h1 e2
  have hi : frIn ⟨n1, n2, n3, d⟩ := ⟨⟨by show 1 ≤ (n1 : Int); omega, by show (n1 : Int) ≤ _; omega⟩, ⟨by show 0 ≤ (n2 : Int); omega, by show (n2 : Int) ≤ _; omega⟩, by show 0 ≤ (n3 : Int); omega, by show (n3 : Int) ≤ _; omega⟩
  refine ⟨?_, ?_⟩
  · unfold fmay
    rw [if_neg (fun h => h hi), if_neg]
    intro hc
    exact hdn ⟨hc.2, by have := hc.1; simpa using this⟩
  · rw [← seald_unseald hs]
    unfold fbytes
    congr 1
    have e : s = s.drop 0 := rfl
    rw [e, k1, k2, k3, k4, k5]
    simp [fbody]
theorem fput_err {f : Fr} {mtu : Int} (h : (fput f mtu).2 ≠ 0) : (fput f mtu).1 = [] := by
  unfold fput at *
  split
  · rfl
  · split
    · rfl
    · split
      · rfl
      · rename_i h1 h2 h3
        rw [if_neg h1, if_neg h2, if_neg h3] at h
        exact absurd rfl h
theorem ftail_err {s : List UInt8} {n1 : Nat} {r1 : Rs} (h : (ftail s n1 r1).2 ≠ 0) : (ftail s n1 r1).1 = fr0 := by
  revert h
  unfold ftail
  dsimp only
  generalize rend s _ = e
  intro h
  by_cases he : e = 0
  · rw [if_neg (fun h => h he)] at h
    exact absurd rfl h
  · rw [if_pos he]
theorem fget_err {b : List UInt8} (h : (fget b).2 ≠ 0) : (fget b).1 = fr0 := by
  unfold fget at *
  split
  · rfl
  · rename_i s hs
    rw [hs] at h
    exact ftail_err h
theorem fput_of_fget {b : List UInt8} {f : Fr} (h : fget b = (f, 0)) : fput f 1400 = if 1400 < b.length then ([], 3) else (b, 0) := by
  obtain ⟨h1, h2⟩ := fput_fget h
  unfold fput
  rw [if_neg (by omega), h1, if_neg (fun h => h rfl), h2]
  by_cases hl : 1400 < b.length
  · rw [if_pos hl, if_pos (by omega)]
  · rw [if_neg hl, if_neg (by omega)]
theorem fbytes_ge8 (f : Fr) (h : frIn f) : 8 ≤ (fbytes f).length := by
  obtain ⟨⟨h1, h2⟩, ⟨h3, h4⟩, h5, h6⟩ := h
  have k : ∀ n : Nat, n < 4611686018427387904 → 1 ≤ (enc n).length := fun n hn => by
    rw [enc_length]
    rcases Nat.eq_zero_or_pos (sz n) with h | h
    · have := sz_zero.1 h; omega
    · exact h
  have a1 := k f.ep.toNat (by omega)
  have a2 := k f.seq.toNat (by omega)
  have a3 := k f.ack.toNat (by omega)
  by_cases hd : f.data.length < 4611686018427387904
  · have a4 := k f.data.length hd
    simp [fbytes, seald, fbody, le4]; omega
  · simp [fbytes, seald, fbody, le4]; omega
end Go.Proofs.YtfjnacakpeommaaDoor.Pl
