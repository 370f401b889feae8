/- Chunks of memory: partial heaps that join, and the judgement that a world holds a list of chunks. -/
import Derived.Calls
import Derived.Orders
import Derived.Laws.World
import Derived.Laws.Sem
import Derived.Laws.Entries
import Derived.Below
namespace Go.Proofs.YtfjnacakpeommaaDoor.SL
open Go
set_option autoImplicit false

abbrev Cl := Option (Bool × Obj)
abbrev Hp := Nat → Cl

/-- Two contents of one block that may be joined. -/
def okp (x y : Cl) : Prop := x = none ∨ y = none ∨ (x = y ∧ ∃ o, x = some (true, o))
def jn (x y : Cl) : Cl := match x with | some p => some p | none => y

def Cmp (h g : Hp) : Prop := ∀ b, okp (h b) (g b)
def Jn (h g : Hp) : Hp := fun b => jn (h b) (g b)
def E0 : Hp := fun _ => none

theorem jn_comm {x y : Cl} (h : okp x y) : jn x y = jn y x := by
  rcases h with rfl | rfl | ⟨rfl, _⟩
  · cases y <;> rfl
  · cases x <;> rfl
  · rfl
theorem okp_symm {x y : Cl} (h : okp x y) : okp y x := by
  rcases h with rfl | rfl | ⟨rfl, o, rfl⟩
  · exact .inr (.inl rfl)
  · exact .inl rfl
  · exact .inr (.inr ⟨rfl, o, rfl⟩)
theorem jn_assoc (x y z : Cl) : jn (jn x y) z = jn x (jn y z) := by cases x <;> rfl
theorem okp_jn {x y z : Cl} (h1 : okp y z) (h2 : okp x (jn y z)) : okp x y ∧ okp (jn x y) z ∧ okp x z := by
  cases x with
  | none => exact ⟨.inl rfl, h1, .inl rfl⟩
  | some p =>
    cases y with
    | none =>
      have h2' : okp (some p) z := h2
      exact ⟨.inr (.inl rfl), h2', h2'⟩
    | some q =>
      rcases h2 with h | h | ⟨h, o, ho⟩
      · cases h
      · cases h
      · have hpq : (some p : Cl) = some q := h
        cases z with
        | none => exact ⟨.inr (.inr ⟨hpq, o, ho⟩), .inr (.inl rfl), .inr (.inl rfl)⟩
        | some r =>
          rcases h1 with h | h | ⟨h, o', ho'⟩
          · cases h
          · cases h
          · exact ⟨.inr (.inr ⟨hpq, o, ho⟩), .inr (.inr ⟨hpq.trans h, o, ho⟩), .inr (.inr ⟨hpq.trans h, o, ho⟩)⟩
theorem okp_jn' {x y z : Cl} (h1 : okp x y) (h2 : okp (jn x y) z) : okp y z ∧ okp x (jn y z) ∧ okp x z := by
  have := okp_jn (x := z) (y := y) (z := x) (okp_symm h1) (by rw [← jn_comm h1]; exact okp_symm h2)
  obtain ⟨a, b, c⟩ := this
  refine ⟨okp_symm a, ?_, okp_symm c⟩
  rw [← jn_comm a]
  exact okp_symm b
theorem Jn_comm {h g : Hp} (c : Cmp h g) : Jn h g = Jn g h := funext fun b => jn_comm (c b)
theorem Cmp_symm {h g : Hp} (c : Cmp h g) : Cmp g h := fun b => okp_symm (c b)
theorem Jn_E0 (h : Hp) : Jn h E0 = h := funext fun b => by unfold Jn E0; cases h b <;> rfl
theorem E0_Jn (h : Hp) : Jn E0 h = h := rfl
theorem Cmp_E0 (h : Hp) : Cmp h E0 := fun _ => .inr (.inl rfl)
theorem E0_Cmp (h : Hp) : Cmp E0 h := fun _ => .inl rfl

abbrev HP := Hp → Prop
def star (A B : HP) : HP := fun h => ∃ h1 h2, Cmp h1 h2 ∧ h = Jn h1 h2 ∧ A h1 ∧ B h2

theorem star_comm {A B : HP} {h : Hp} (H : star A B h) : star B A h := by
  obtain ⟨h1, h2, c, rfl, a, b⟩ := H
  exact ⟨h2, h1, Cmp_symm c, Jn_comm c, b, a⟩
theorem star_assoc {A B C : HP} {h : Hp} (H : star A (star B C) h) : star (star A B) C h := by
  obtain ⟨h1, h2, c, rfl, a, h3, h4, c', rfl, b, d⟩ := H
  refine ⟨Jn h1 h3, h4, fun x => (okp_jn (c' x) (c x)).2.1, funext fun x => (jn_assoc _ _ _).symm, ⟨h1, h3, fun x => (okp_jn (c' x) (c x)).1, rfl, a, b⟩, d⟩
theorem star_assoc' {A B C : HP} {h : Hp} (H : star (star A B) C h) : star A (star B C) h := by
  obtain ⟨h1, h2, c, rfl, ⟨h3, h4, c', rfl, a, b⟩, d⟩ := H
  exact ⟨h3, Jn h4 h2, fun x => (okp_jn' (c' x) (c x)).2.1, funext fun x => jn_assoc _ _ _, a, h4, h2, fun x => (okp_jn' (c' x) (c x)).1, rfl, b, d⟩
theorem star_mono {A A' B B' : HP} {h : Hp} (ha : ∀ h, A h → A' h) (hb : ∀ h, B h → B' h) (H : star A B h) : star A' B' h := by
  obtain ⟨h1, h2, c, e, a, b⟩ := H
  exact ⟨h1, h2, c, e, ha _ a, hb _ b⟩
theorem star_swap {A B C : HP} {h : Hp} (H : star A (star B C) h) : star B (star A C) h :=
  star_assoc' (star_mono (fun _ x => star_comm x) (fun _ x => x) (star_assoc H))

def emp : HP := fun h => h = E0
def big : List HP → HP
  | [] => emp
  | A :: l => star A (big l)

theorem big_append {l m : List HP} : ∀ {h : Hp}, big (l ++ m) h ↔ star (big l) (big m) h := by
  induction l with
  | nil =>
    intro h
    constructor
    · intro H; exact ⟨E0, h, E0_Cmp h, rfl, rfl, H⟩
    · rintro ⟨h1, h2, c, rfl, rfl, b⟩; exact b
  | cons A l ih =>
    intro h
    constructor
    · intro H; exact star_assoc (star_mono (fun _ x => x) (fun _ x => ih.1 x) H)
    · intro H; exact star_mono (fun _ x => x) (fun _ x => ih.2 x) (star_assoc' H)

/-- A chunk of a list, and the rest. -/
inductive Has : List HP → HP → List HP → Prop
  | head {A : HP} {l : List HP} : Has (A :: l) A l
  | tail {A B : HP} {l l' : List HP} : Has l A l' → Has (B :: l) A (B :: l')

theorem Has.pull {l : List HP} {A : HP} {l' : List HP} (H : Has l A l') : ∀ {h : Hp}, big l h → big (A :: l') h := by
  induction H with
  | head => exact fun x => x
  | tail _ ih => exact fun x => star_swap (star_mono (fun _ y => y) (fun _ y => ih y) x)

inductive Split : List HP → List HP → List HP → Prop
  | nil {l : List HP} : Split l [] l
  | cons {l : List HP} {A : HP} {l1 p F : List HP} : Has l A l1 → Split l1 p F → Split l (A :: p) F

theorem Split.pull {l p F : List HP} (H : Split l p F) : ∀ {h : Hp}, big l h → big (p ++ F) h := by
  induction H with
  | nil => exact fun x => x
  | cons hh _ ih => exact fun x => star_mono (fun _ y => y) (fun _ y => ih y) (hh.pull x)

def one (r : Bool) (b : Nat) (o : Obj) : HP := fun h => h = fun c => if c = b then some (r, o) else none
/-- A row of cells of its own (r = false; none of them marked) or of all (r = true). -/
def cel (r : Bool) (b : Nat) (T : TypeId) (cs : List Value) : HP := fun h => ∃ fr : Nat × Nat, (r = false → fr.1 < fr.2 → cs.length ≤ fr.1) ∧ one r b (.cells cs.toArray T fr) h
def lift (p : Prop) : HP := fun h => p ∧ h = E0
def ex {α : Type} (A : α → HP) : HP := fun h => ∃ x, A x h

/-- What of a world no call changes. -/
structure Rst where
  tape : Nat → Question → Nat
  os : Os
  output : Array (Nat × ByteArray)

structure Holds (ρ : Rst) (w : World) (L : List HP) : Prop where
  tape : w.tape = ρ.tape
  os : w.os = ρ.os
  output : w.output = ρ.output
  heap : ∃ h, big L h ∧ ∀ b r o, h b = some (r, o) → w.heap[b]? = some o

variable {ρ : Rst} {w : World} {L L' : List HP}

theorem Holds.mono (H : Holds ρ w L) (f : ∀ h, big L h → big L' h) : Holds ρ w L' :=
  ⟨H.tape, H.os, H.output, let ⟨h, a, b⟩ := H.heap; ⟨h, f h a, b⟩⟩
theorem Holds.split {p F : List HP} (H : Holds ρ w L) (s : Split L p F) : Holds ρ w (p ++ F) := H.mono fun _ x => s.pull x
theorem Holds.has {A : HP} (H : Holds ρ w L) (s : Has L A L') : Holds ρ w (A :: L') := H.mono fun _ x => s.pull x

theorem Holds.drop {A : HP} (H : Holds ρ w (A :: L)) : Holds ρ w L := by
  obtain ⟨h, ⟨h1, h2, c, rfl, a, b⟩, d⟩ := H.heap
  refine ⟨H.tape, H.os, H.output, h2, b, fun x r o e => ?_⟩
  rcases c x with c | c | ⟨c, o', ho'⟩
  · exact d x r o (by unfold Jn; rw [c]; exact e)
  · rw [c] at e; cases e
  · exact d x r o (by unfold Jn; rw [c, e]; rfl)
theorem Holds.drops {l : List HP} (H : Holds ρ w (L ++ l)) : Holds ρ w L := by
  have H' : Holds ρ w (l ++ L) := H.mono fun _ x => big_append.2 (star_comm (big_append.1 x))
  clear H
  induction l with
  | nil => exact H'
  | cons A l ih => exact ih H'.drop
theorem Holds.appends {l : List HP} (H : Holds ρ w (L ++ l)) : Holds ρ w (l ++ L) := H.mono fun _ x => big_append.2 (star_comm (big_append.1 x))

theorem Holds.block {r : Bool} {b : Nat} {o : Obj} (H : Holds ρ w (one r b o :: L)) : w.heap[b]? = some o := by
  obtain ⟨h, ⟨h1, h2, c, rfl, a, _⟩, d⟩ := H.heap
  have a : h1 = _ := a
  subst a
  exact d b r o (by simp [Jn, jn])

theorem fresh_of {h : Hp} (d : ∀ b r o, h b = some (r, o) → w.heap[b]? = some o) {b : Nat} (hlt : w.heap.size ≤ b) : h b = none := by
  cases e : h b with
  | none => rfl
  | some p =>
    obtain ⟨r, o⟩ := p
    have := d b r o e
    rw [Array.getElem?_eq_none hlt] at this
    cases this

theorem Holds.alloc (H : Holds ρ w L) (o : Obj) : Holds ρ (w.alloc o) (one false w.heap.size o :: L) := by
  obtain ⟨h, a, d⟩ := H.heap
  have hn : h w.heap.size = none := fresh_of d (Nat.le_refl _)
  refine ⟨H.tape, H.os, H.output, Jn (fun c => if c = w.heap.size then some (false, o) else none) h, ⟨_, h, fun x => ?_, rfl, rfl, a⟩, fun b r o' e => ?_⟩
  · by_cases hx : x = w.heap.size
    · exact .inr (.inl (hx ▸ hn))
    · exact .inl (by simp [hx])
  · by_cases hx : b = w.heap.size
    · subst hx
      simp only [Jn, jn, if_true] at e
      obtain ⟨rfl, rfl⟩ : false = r ∧ o = o' := by simpa using e
      show (w.heap.push o)[w.heap.size]? = some o
      simp
    · simp only [Jn, jn, if_neg hx] at e
      have := d b r o' e
      have hlt : b < w.heap.size := by
        rcases Nat.lt_or_ge b w.heap.size with g | g
        · exact g
        · rw [Array.getElem?_eq_none g] at this; cases this
      show (w.heap.push o)[b]? = some o'
      rw [Array.getElem?_push, if_neg hx]
      exact this

theorem Holds.drew (H : Holds ρ w L) : Holds ρ w.drew L := ⟨H.tape, H.os, H.output, H.heap⟩

/-- An own block is written anew. -/
theorem Holds.put {b : Nat} {o o' : Obj} {w' : World} (H : Holds ρ w (one false b o :: L)) (hw : w' = { w with heap := w'.heap })
    (hb : w'.heap[b]? = some o') (hk : ∀ c, c ≠ b → w'.heap[c]? = w.heap[c]?) : Holds ρ w' (one false b o' :: L) := by
  obtain ⟨h, ⟨h1, h2, c, rfl, a, b2⟩, d⟩ := H.heap
  have a : h1 = _ := a
  subst a
  have e2 : h2 b = none := by
    rcases c b with c | c | ⟨c, o1, ho1⟩
    · simp at c
    · exact c
    · simp at ho1
  refine ⟨by rw [hw]; exact H.tape, by rw [hw]; exact H.os, by rw [hw]; exact H.output, Jn (fun c => if c = b then some (false, o') else none) h2, ⟨_, h2, fun x => ?_, rfl, rfl, b2⟩, fun x r o1 e => ?_⟩
  · by_cases hx : x = b
    · exact .inr (.inl (hx ▸ e2))
    · exact .inl (by simp [hx])
  · by_cases hx : x = b
    · subst hx
      simp only [Jn, jn, if_true] at e
      obtain ⟨rfl, rfl⟩ : false = r ∧ o' = o1 := by simpa using e
      exact hb
    · simp only [Jn, jn, if_neg hx] at e
      rw [hk x hx]
      exact d x r o1 (by simp only [Jn, jn, if_neg hx]; exact e)

/-- An own block becomes everybody's. -/
theorem Holds.share {b : Nat} {o : Obj} (H : Holds ρ w (one false b o :: L)) : Holds ρ w (one true b o :: L) := by
  obtain ⟨h, ⟨h1, h2, c, rfl, a, b2⟩, d⟩ := H.heap
  have a : h1 = _ := a
  subst a
  have e2 : h2 b = none := by
    rcases c b with c | c | ⟨c, o1, ho1⟩
    · simp at c
    · exact c
    · simp at ho1
  refine ⟨H.tape, H.os, H.output, Jn (fun c => if c = b then some (true, o) else none) h2, ⟨_, h2, fun x => ?_, rfl, rfl, b2⟩, fun x r o1 e => ?_⟩
  · by_cases hx : x = b
    · exact .inr (.inl (hx ▸ e2))
    · exact .inl (by simp [hx])
  · by_cases hx : x = b
    · subst hx
      simp only [Jn, jn, if_true] at e
      obtain ⟨rfl, rfl⟩ : true = r ∧ o = o1 := by simpa using e
      exact d x false o (by simp [Jn, jn])
    · simp only [Jn, jn, if_neg hx] at e
      exact d x r o1 (by simp only [Jn, jn, if_neg hx]; exact e)

theorem Holds.cel_one {r : Bool} {b : Nat} {T : TypeId} {cs : List Value} (H : Holds ρ w (cel r b T cs :: L)) :
    ∃ fr : Nat × Nat, (r = false → fr.1 < fr.2 → cs.length ≤ fr.1) ∧ Holds ρ w (one r b (.cells cs.toArray T fr) :: L) := by
  obtain ⟨h, ⟨h1, h2, c, rfl, ⟨fr, hf, a⟩, b⟩, d⟩ := H.heap
  exact ⟨fr, hf, H.tape, H.os, H.output, _, ⟨h1, h2, c, rfl, a, b⟩, d⟩
theorem Holds.one_cel {r : Bool} {b : Nat} {T : TypeId} {cs : List Value} {fr : Nat × Nat} (hf : r = false → fr.1 < fr.2 → cs.length ≤ fr.1) (H : Holds ρ w (one r b (.cells cs.toArray T fr) :: L)) :
    Holds ρ w (cel r b T cs :: L) := H.mono fun _ x => star_mono (fun _ a => ⟨fr, hf, a⟩) (fun _ a => a) x
/-- An own row becomes everybody's. -/
theorem Holds.shareC {b : Nat} {T : TypeId} {cs : List Value} (H : Holds ρ w (cel false b T cs :: L)) : Holds ρ w (cel true b T cs :: L) := by
  obtain ⟨fr, hf, H⟩ := H.cel_one
  exact H.share.one_cel (fun h => by cases h)
theorem Holds.lift {p : Prop} (H : Holds ρ w (lift p :: L)) : p ∧ Holds ρ w L := by
  obtain ⟨h, ⟨h1, h2, c, rfl, a, b⟩, d⟩ := H.heap
  exact ⟨a.1, H.drop⟩
theorem Holds.lift_mk {p : Prop} (hp : p) (H : Holds ρ w L) : Holds ρ w (SL.lift p :: L) :=
  H.mono fun h x => ⟨E0, h, E0_Cmp h, rfl, ⟨hp, rfl⟩, x⟩
theorem Holds.ex {α : Type} {A : α → HP} (H : Holds ρ w (ex A :: L)) : ∃ x, Holds ρ w (A x :: L) := by
  obtain ⟨h, ⟨h1, h2, c, rfl, ⟨x, a⟩, b⟩, d⟩ := H.heap
  exact ⟨x, H.tape, H.os, H.output, _, ⟨h1, h2, c, rfl, a, b⟩, d⟩
theorem Holds.ex_mk {α : Type} {A : α → HP} (x : α) (H : Holds ρ w (A x :: L)) : Holds ρ w (SL.ex A :: L) :=
  H.mono fun _ y => star_mono (fun _ a => ⟨x, a⟩) (fun _ b => b) y
/-- A chunk that is a list of chunks is laid open. -/
theorem Holds.open {l : List HP} (H : Holds ρ w (big l :: L)) : Holds ρ w (l ++ L) := H.mono fun _ x => big_append.2 x
theorem Holds.shut {l : List HP} (H : Holds ρ w (l ++ L)) : Holds ρ w (big l :: L) := H.mono fun _ x => big_append.1 x

/-- A chunk that may be had twice. -/
def Dup (A : HP) : Prop := ∀ h, A h → star A A h
theorem Holds.dup {A : HP} (hA : Dup A) (H : Holds ρ w (A :: L)) : Holds ρ w (A :: A :: L) :=
  H.mono fun _ x => star_assoc' (star_mono (fun h a => hA h a) (fun _ b => b) x)
theorem dup_one (b : Nat) (o : Obj) : Dup (one true b o) := fun h e => by
  have e : h = _ := e
  subst e
  refine ⟨_, _, fun x => ?_, funext fun x => ?_, rfl, rfl⟩
  · by_cases hx : x = b
    · exact .inr (.inr ⟨rfl, o, by simp [hx]⟩)
    · exact .inl (by simp [hx])
  · by_cases hx : x = b <;> simp [Jn, jn, hx]
theorem dup_cel (b : Nat) (T : TypeId) (cs : List Value) : Dup (cel true b T cs) := fun h ⟨fr, hf, H⟩ =>
  star_mono (fun _ a => ⟨fr, hf, a⟩) (fun _ a => ⟨fr, hf, a⟩) (dup_one _ _ h H)
theorem dup_lift (p : Prop) : Dup (lift p) := fun h ⟨hp, e⟩ => by subst e; exact ⟨E0, E0, E0_Cmp _, rfl, ⟨hp, rfl⟩, ⟨hp, rfl⟩⟩
theorem dup_star {A B : HP} (ha : Dup A) (hb : Dup B) : Dup (star A B) := fun h H => by
  have H1 : star (star A A) (star B B) h := star_mono (fun h a => ha h a) (fun h b => hb h b) H
  exact star_assoc (star_mono (fun _ x => x) (fun _ x => star_swap x) (star_assoc' H1))
theorem dup_emp : Dup emp := fun h e => by have e : h = _ := e; subst e; exact ⟨E0, E0, E0_Cmp _, rfl, rfl, rfl⟩
theorem dup_ex {α : Type} {A : α → HP} (hA : ∀ x, Dup (A x)) : Dup (ex A) := fun h ⟨x, a⟩ =>
  star_mono (fun _ a => ⟨x, a⟩) (fun _ a => ⟨x, a⟩) (hA x h a)
theorem dup_big {l : List HP} (h : ∀ A ∈ l, Dup A) : Dup (big l) := by
  induction l with
  | nil => exact dup_emp
  | cons A l ih => exact dup_star (h A (by simp)) (ih fun B hB => h B (by simp [hB]))

/-- All of a heap, as everybody's. -/
def whole (W : World) : HP := fun h => h = fun b => (W.heap[b]?).map fun o => (true, o)
theorem dup_whole (W : World) : Dup (whole W) := fun h e => by
  have e : h = _ := e
  subst e
  refine ⟨_, _, fun x => ?_, funext fun x => ?_, rfl, rfl⟩
  · cases hx : W.heap[x]? with
    | none => exact .inl (by simp)
    | some o => exact .inr (.inr ⟨rfl, o, by simp⟩)
  · cases hx : W.heap[x]? <;> simp [Jn, jn, hx]
theorem Holds.init (W : World) : Holds ⟨W.tape, W.os, W.output⟩ W [whole W] :=
  ⟨rfl, rfl, rfl, _, ⟨_, E0, Cmp_E0 _, (Jn_E0 _).symm, rfl, rfl⟩, fun b r o e => by
    cases hb : W.heap[b]? with
    | none => simp [hb] at e
    | some o' => simp [hb] at e; rw [e.2]⟩
theorem Holds.whole_one {W : World} {b : Nat} {o : Obj} (hb : W.heap[b]? = some o) (H : Holds ρ w (whole W :: L)) : Holds ρ w (one true b o :: whole W :: L) := by
  refine H.mono fun h x => ?_
  obtain ⟨h1, h2, c, rfl, e, y⟩ := x
  have e : h1 = _ := e
  subst e
  refine star_assoc' ⟨_, h2, c, rfl, ⟨fun c => if c = b then some (true, o) else none, _, fun x => ?_, funext fun x => ?_, rfl, rfl⟩, y⟩
  · by_cases hx : x = b
    · subst hx; exact .inr (.inr ⟨by simp [hb], o, by simp⟩)
    · exact .inl (by simp [hx])
  · by_cases hx : x = b
    · subst hx; simp [Jn, jn, hb]
    · simp [Jn, jn, hx]
theorem Holds.below {W : World} (h1 : W.tape = ρ.tape) (h2 : W.os = ρ.os) (h3 : W.output = ρ.output) (H : Holds ρ w (whole W :: L)) : RowKit.Below W.heap.size W w := by
  obtain ⟨h, ⟨g1, g2, c, rfl, e, y⟩, d⟩ := H.heap
  have e : g1 = _ := e
  subst e
  have key : ∀ k, k < W.heap.size → w.heap[k]? = W.heap[k]? := fun k hk => by
    have hs : W.heap[k]? = some W.heap[k] := Array.getElem?_eq_getElem hk
    rw [d k true W.heap[k] (by simp [Jn, jn, hs]), hs]
  refine ⟨H.os.trans h2.symm, H.tape.trans h1.symm, H.output.trans h3.symm, ?_, key⟩
  rcases Nat.lt_or_ge w.heap.size W.heap.size with g | g
  · have := key w.heap.size g
    rw [Array.getElem?_eq_none (Nat.le_refl _), Array.getElem?_eq_getElem g] at this
    cases this
  · exact g

end Go.Proofs.YtfjnacakpeommaaDoor.SL
