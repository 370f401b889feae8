/- Steps of a walk: slices that are only read; elements that are structs. -/
import Derived.Test.YtfjnacakpeommaaDoorSl2
namespace Go.Proofs.YtfjnacakpeommaaDoor.SL
open Go
set_option autoImplicit false
set_option linter.unusedVariables false
set_option linter.unusedSimpArgs false
variable {ρ : Rst} {N : Nat} {env : Env} {L L' : List HP} {P : Program} {Q : Exit → Act → World → Prop} {K : Act → World → Prop}
variable {d : Nat} {dd : Option Nat} {op : Op} {ty : TypeId} {pos : String} {aft : Array Edge} {g : Option (Nat × Bool)} (tb : Tabs P)

/-- A slice that is read: its n elements' cells. -/
def RS (r : Bool) (v : Value) (n : Nat) (cs : List Value) : HP := fun h =>
  (n = 0 ∧ cs = [] ∧ (∃ A c, v = .slice A 0 c) ∧ emp h) ∨
  ∃ (b T cap : Nat) (pre rest : List Value), v = .slice (some ⟨b, pre.length, none⟩) n cap ∧ cel r b T (pre ++ cs ++ rest) h
theorem dup_rs (v : Value) (n : Nat) (cs : List Value) : Dup (RS true v n cs) := fun h H => by
  rcases H with ⟨e1, e2, e3, e4⟩ | ⟨b, T, cap, pre, rest, e1, e2⟩
  · exact star_mono (fun _ a => .inl ⟨e1, e2, e3, a⟩) (fun _ a => .inl ⟨e1, e2, e3, a⟩) (dup_emp h e4)
  · exact star_mono (fun _ a => .inr ⟨b, T, cap, pre, rest, e1, a⟩) (fun _ a => .inr ⟨b, T, cap, pre, rest, e1, a⟩) (dup_cel _ _ _ h e2)
theorem Holds.rs {r : Bool} {v : Value} {n : Nat} {cs : List Value} {w : World} (H : Holds ρ w (RS r v n cs :: L)) :
    (n = 0 ∧ cs = [] ∧ (∃ A c, v = .slice A 0 c) ∧ Holds ρ w L) ∨
    ∃ (b T cap : Nat) (pre rest : List Value), v = .slice (some ⟨b, pre.length, none⟩) n cap ∧ Holds ρ w (cel r b T (pre ++ cs ++ rest) :: L) := by
  obtain ⟨h, ⟨h1, h2, c, e, a, b2⟩, d⟩ := H.heap
  rcases a with ⟨e1, e2, e3, e4⟩ | ⟨b, T, cap, pre, rest, e1, e2⟩
  · exact .inl ⟨e1, e2, e3, H.drop⟩
  · exact .inr ⟨b, T, cap, pre, rest, e1, H.tape, H.os, H.output, h, ⟨h1, h2, c, e, e2, b2⟩, d⟩
theorem Holds.rs_nil {r : Bool} {A : Option Addr} {c : Nat} {w : World} (H : Holds ρ w L) : Holds ρ w (RS r (.slice A 0 c) 0 [] :: L) :=
  H.mono fun h x => ⟨E0, h, E0_Cmp h, rfl, .inl ⟨rfl, rfl, ⟨A, c, rfl⟩, rfl⟩, x⟩
theorem Holds.rs_row {r : Bool} {b T cap n : Nat} {pre cs rest : List Value} {w : World} (H : Holds ρ w (cel r b T (pre ++ cs ++ rest) :: L)) :
    Holds ρ w (RS r (.slice (some ⟨b, pre.length, none⟩) n cap) n cs :: L) :=
  H.mono fun _ x => star_mono (fun _ a => .inr ⟨b, T, cap, pre, rest, rfl, a⟩) (fun _ a => a) x
/-- It is a slice. -/
theorem St_rsIs {r : Bool} {v : Value} {n : Nat} {cs : List Value} {G : Act → World → Prop} (hc : Has L (RS r v n cs) L') (h : ∀ A c, v = .slice A n c → St ρ N env L G) : St ρ N env L G := fun a w x y => by
  rcases (y.has hc).rs with ⟨e1, e2, ⟨A, c, e3⟩, H⟩ | ⟨b, T, cap, pre, rest, e1, H⟩
  · exact h A c (by rw [e3, e1]) a w x y
  · exact h _ _ e1 a w x y
/-- Laid open. -/
theorem St_rsOpen {r : Bool} {v : Value} {n : Nat} {cs : List Value} {G : Act → World → Prop} (hc : Has L (RS r v n cs) L') (hn : 0 < n)
    (h : ∀ (b T cap : Nat) (pre rest : List Value), v = .slice (some ⟨b, pre.length, none⟩) n cap → St ρ N env (cel r b T (pre ++ cs ++ rest) :: L') G) : St ρ N env L G := fun a w x y => by
  rcases (y.has hc).rs with ⟨e1, _⟩ | ⟨b, T, cap, pre, rest, e1, H⟩
  · omega
  · exact h b T cap pre rest e1 a w x H
theorem St_rsMk {r : Bool} {b T cap n : Nat} {pre cs rest : List Value} {G : Act → World → Prop} (hc : Has L (cel r b T (pre ++ cs ++ rest)) L')
    (h : St ρ N env (RS r (.slice (some ⟨b, pre.length, none⟩) n cap) n cs :: L') G) : St ρ N env L G := fun a w x y => h a w x (y.has hc).rs_row
theorem St_rsNil {r : Bool} {A : Option Addr} {c : Nat} {G : Act → World → Prop} (h : St ρ N env (RS r (.slice A 0 c) 0 [] :: L) G) : St ρ N env L G := fun a w x y => h a w x y.rs_nil
theorem Holds.rs_sl {E sz n : Nat} {v : Value} {cs : List Value} {w : World} (H : Holds ρ w (Sl E sz v n cs :: L)) : Holds ρ w (RS false v n cs :: L) := by
  rcases H.sl with ⟨rfl, rfl, rfl, H2⟩ | ⟨b, cap, pre, rest, rfl, e2, e3, e4, H2⟩
  · exact H2.rs_nil
  · exact H2.rs_row
theorem Holds.rs_share {n : Nat} {v : Value} {cs : List Value} {w : World} (H : Holds ρ w (RS false v n cs :: L)) : Holds ρ w (RS true v n cs :: L) := by
  rcases H.rs with ⟨rfl, rfl, ⟨A, c, rfl⟩, H2⟩ | ⟨b, T, cap, pre, rest, rfl, H2⟩
  · exact H2.rs_nil
  · exact H2.shareC.rs_row
/-- A slice of one's own is from here on only read. -/
theorem St_slShare {E sz n : Nat} {v : Value} {cs : List Value} {G : Act → World → Prop} (hc : Has L (Sl E sz v n cs) L')
    (h : St ρ N env (RS true v n cs :: L') G) : St ρ N env L G := fun a w x y => h a w x (y.has hc).rs_sl.rs_share
theorem St_dup {A : HP} {G : Act → World → Prop} (hA : Dup A) (hc : Has L A L') (h : St ρ N env (A :: A :: L') G) : St ρ N env L G := fun a w x y => h a w x ((y.has hc).dup hA)

/-- Elements of k cells each. -/
theorem flat_at {α : Type} {f : α → List Value} {k : Nat} (hk : ∀ u, (f u).length = k) : ∀ (us : List α) (i : Nat) (u : α) (pre rest : List Value), us[i]? = some u →
    ((pre ++ us.flatMap f ++ rest).drop (pre.length + i * k)).take k = f u
  | [], i, u, pre, rest, h => by simp at h
  | x :: us, 0, u, pre, rest, h => by
    have hx : x = u := by simpa using h
    subst hx
    rw [Nat.zero_mul, Nat.add_zero, List.append_assoc, List.drop_left, List.flatMap_cons, List.append_assoc, List.take_append_of_le_length (by rw [hk]; exact Nat.le_refl _), List.take_of_length_le (by rw [hk]; exact Nat.le_refl _)]
  | x :: us, i + 1, u, pre, rest, h => by
    have h2 := flat_at hk us i u (pre ++ f x) rest (by simpa using h)
    rw [← h2, List.flatMap_cons, List.length_append, hk]
    have e : pre ++ (f x ++ List.flatMap f us) ++ rest = pre ++ f x ++ List.flatMap f us ++ rest := by simp
    rw [e, Nat.succ_mul]
    congr 2
    omega
theorem flat_len {α : Type} {f : α → List Value} {k : Nat} (hk : ∀ u, (f u).length = k) (us : List α) : (us.flatMap f).length = us.length * k := by
  induction us with
  | nil => simp
  | cons x us ih => rw [List.flatMap_cons, List.length_append, ih, hk, List.length_cons, Nat.succ_mul]; omega
theorem flat_room {α : Type} {f : α → List Value} {k : Nat} (hk : ∀ u, (f u).length = k) (us : List α) (i : Nat) (pre rest : List Value) (h : i < us.length) :
    pre.length + i * k + k ≤ (pre ++ us.flatMap f ++ rest).length := by
  have h1 : (i + 1) * k ≤ us.length * k := Nat.mul_le_mul_right k h
  rw [Nat.succ_mul] at h1
  simp only [List.length_append, flat_len hk]
  omega
/-- A conversion, a shift, whose outcome is reckoned aside. -/
theorem Rd_convV {S T : Nat} {x : Operand} {k k' : IntKind} {n m : Int} (hx : ev env x = some (.int k n)) (hu : tabLk tb.und S = some (.int k)) (hv : tabLk tb.und T = some (.int k'))
    (hw : k'.wrap n = m) : Rd P ρ N env L ⟨dd, .convert S T x, ty, pos, aft, g⟩ (.int k' m) := by
  have h := Rd_convInt (ρ := ρ) (N := N) (L := L) (dd := dd) (ty := ty) (pos := pos) (aft := aft) (g := g) tb hx hu hv; rw [hw] at h; exact h
theorem Rd_shlV {T U : TypeId} {x y : Operand} {k k' : IntKind} {m n r : Int} (hx : ev env x = some (.int k m)) (hy : ev env y = some (.int k' n))
    (hb : 0 ≤ n) (hr : k.wrap (m * 2 ^ (min n.toNat k.bits)) = r) : Rd P ρ N env L ⟨dd, .binOp .shl T x y U, ty, pos, aft, g⟩ (.int k r) := by
  have h := Rd_shl (P := P) (ρ := ρ) (N := N) (L := L) (dd := dd) (ty := ty) (pos := pos) (aft := aft) (g := g) (T := T) (U := U) hx hy hb; rw [hr] at h; exact h
theorem Rd_shrV {T U : TypeId} {x y : Operand} {k k' : IntKind} {m n r : Int} (hx : ev env x = some (.int k m)) (hy : ev env y = some (.int k' n))
    (hb : 0 ≤ n) (hr : m.fdiv (2 ^ (min n.toNat k.bits)) = r) : Rd P ρ N env L ⟨dd, .binOp .shr T x y U, ty, pos, aft, g⟩ (.int k r) := by
  have h := Rd_shr (P := P) (ρ := ρ) (N := N) (L := L) (dd := dd) (ty := ty) (pos := pos) (aft := aft) (g := g) (T := T) (U := U) hx hy hb; rw [hr] at h; exact h
end Go.Proofs.YtfjnacakpeommaaDoor.SL
