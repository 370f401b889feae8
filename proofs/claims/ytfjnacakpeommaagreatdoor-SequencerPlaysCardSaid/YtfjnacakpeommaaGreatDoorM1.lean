/- What the proof stands on, part 1: SlHeap, SlStep, SlMem, SlMore, SlSlice, SlDraw, SlNat, SlStr, SlEq. -/
import Derived.Calls
import Derived.Orders
import Derived.Laws.World
import Derived.Laws.Sem
import Derived.Laws.Entries
import Derived.Below
import Derived.Tactics
import Derived.IntWalk
import Derived.Laws.Strings
import Derived.Deep.Quiet
import Derived.Lib.UnsafeStr
import Derived.Laws.BytesString
import Derived.Laws.BitsAllLaws
import Derived.Lib.Builder
import Derived.Laws.Externs
import Derived.Laws.StructEq
/- Chunks of memory: partial heaps that join, and the judgement that a world holds a list of chunks. -/
namespace Go.Proofs.YtfjnacakpeommaaGreatDoor.SL
open Go
set_option autoImplicit false

abbrev Cl := Option (Bool × Obj)
abbrev Hp := Nat → Cl

/-- Two contents of one block that may be joined. -/
def okp (x y : Cl) : Prop := x = none ∨ y = none ∨ (x = y ∧ ∃ o, x = some (true, o))
def jn (x y : Cl) : Cl := match x with | some p => some p | none => y

def Cmp (h g : Hp) : Prop := ∀ b, okp (h b) (g b)
def Jn (h g : Hp) : Hp := fun b => jn (h b) (g b)
def E0 : Hp := fun _ => none

theorem jn_comm {x y : Cl} (h : okp x y) : jn x y = jn y x := by
  rcases h with rfl | rfl | ⟨rfl, _⟩
  · cases y <;> rfl
  · cases x <;> rfl
  · rfl
theorem okp_symm {x y : Cl} (h : okp x y) : okp y x := by
  rcases h with rfl | rfl | ⟨rfl, o, rfl⟩
  · exact .inr (.inl rfl)
  · exact .inl rfl
  · exact .inr (.inr ⟨rfl, o, rfl⟩)
theorem jn_assoc (x y z : Cl) : jn (jn x y) z = jn x (jn y z) := by cases x <;> rfl
theorem okp_jn {x y z : Cl} (h1 : okp y z) (h2 : okp x (jn y z)) : okp x y ∧ okp (jn x y) z ∧ okp x z := by
  cases x with
  | none => exact ⟨.inl rfl, h1, .inl rfl⟩
  | some p =>
    cases y with
    | none =>
      have h2' : okp (some p) z := h2
      exact ⟨.inr (.inl rfl), h2', h2'⟩
    | some q =>
      rcases h2 with h | h | ⟨h, o, ho⟩
      · cases h
      · cases h
      · have hpq : (some p : Cl) = some q := h
        cases z with
        | none => exact ⟨.inr (.inr ⟨hpq, o, ho⟩), .inr (.inl rfl), .inr (.inl rfl)⟩
        | some r =>
          rcases h1 with h | h | ⟨h, o', ho'⟩
          · cases h
          · cases h
          · exact ⟨.inr (.inr ⟨hpq, o, ho⟩), .inr (.inr ⟨hpq.trans h, o, ho⟩), .inr (.inr ⟨hpq.trans h, o, ho⟩)⟩
theorem okp_jn' {x y z : Cl} (h1 : okp x y) (h2 : okp (jn x y) z) : okp y z ∧ okp x (jn y z) ∧ okp x z := by
  have := okp_jn (x := z) (y := y) (z := x) (okp_symm h1) (by rw [← jn_comm h1]; exact okp_symm h2)
  obtain ⟨a, b, c⟩ := this
  refine ⟨okp_symm a, ?_, okp_symm c⟩
  rw [← jn_comm a]
  exact okp_symm b
theorem Jn_comm {h g : Hp} (c : Cmp h g) : Jn h g = Jn g h := funext fun b => jn_comm (c b)
theorem Cmp_symm {h g : Hp} (c : Cmp h g) : Cmp g h := fun b => okp_symm (c b)
theorem Jn_E0 (h : Hp) : Jn h E0 = h := funext fun b => by unfold Jn E0; cases h b <;> rfl
theorem E0_Jn (h : Hp) : Jn E0 h = h := rfl
theorem Cmp_E0 (h : Hp) : Cmp h E0 := fun _ => .inr (.inl rfl)
theorem E0_Cmp (h : Hp) : Cmp E0 h := fun _ => .inl rfl

abbrev HP := Hp → Prop
def star (A B : HP) : HP := fun h => ∃ h1 h2, Cmp h1 h2 ∧ h = Jn h1 h2 ∧ A h1 ∧ B h2

theorem star_comm {A B : HP} {h : Hp} (H : star A B h) : star B A h := by
  obtain ⟨h1, h2, c, rfl, a, b⟩ := H
  exact ⟨h2, h1, Cmp_symm c, Jn_comm c, b, a⟩
theorem star_assoc {A B C : HP} {h : Hp} (H : star A (star B C) h) : star (star A B) C h := by
  obtain ⟨h1, h2, c, rfl, a, h3, h4, c', rfl, b, d⟩ := H
  refine ⟨Jn h1 h3, h4, fun x => (okp_jn (c' x) (c x)).2.1, funext fun x => (jn_assoc _ _ _).symm, ⟨h1, h3, fun x => (okp_jn (c' x) (c x)).1, rfl, a, b⟩, d⟩
theorem star_assoc' {A B C : HP} {h : Hp} (H : star (star A B) C h) : star A (star B C) h := by
  obtain ⟨h1, h2, c, rfl, ⟨h3, h4, c', rfl, a, b⟩, d⟩ := H
  exact ⟨h3, Jn h4 h2, fun x => (okp_jn' (c' x) (c x)).2.1, funext fun x => jn_assoc _ _ _, a, h4, h2, fun x => (okp_jn' (c' x) (c x)).1, rfl, b, d⟩
theorem star_mono {A A' B B' : HP} {h : Hp} (ha : ∀ h, A h → A' h) (hb : ∀ h, B h → B' h) (H : star A B h) : star A' B' h := by
  obtain ⟨h1, h2, c, e, a, b⟩ := H
  exact ⟨h1, h2, c, e, ha _ a, hb _ b⟩
theorem star_swap {A B C : HP} {h : Hp} (H : star A (star B C) h) : star B (star A C) h :=
  star_assoc' (star_mono (fun _ x => star_comm x) (fun _ x => x) (star_assoc H))

def emp : HP := fun h => h = E0
def big : List HP → HP
  | [] => emp
  | A :: l => star A (big l)

theorem big_append {l m : List HP} : ∀ {h : Hp}, big (l ++ m) h ↔ star (big l) (big m) h := by
  induction l with
  | nil =>
    intro h
    constructor
    · intro H; exact ⟨E0, h, E0_Cmp h, rfl, rfl, H⟩
    · rintro ⟨h1, h2, c, rfl, rfl, b⟩; exact b
  | cons A l ih =>
    intro h
    constructor
    · intro H; exact star_assoc (star_mono (fun _ x => x) (fun _ x => ih.1 x) H)
    · intro H; exact star_mono (fun _ x => x) (fun _ x => ih.2 x) (star_assoc' H)

/-- A chunk of a list, and the rest. -/
inductive Has : List HP → HP → List HP → Prop
  | head {A : HP} {l : List HP} : Has (A :: l) A l
  | tail {A B : HP} {l l' : List HP} : Has l A l' → Has (B :: l) A (B :: l')

theorem Has.pull {l : List HP} {A : HP} {l' : List HP} (H : Has l A l') : ∀ {h : Hp}, big l h → big (A :: l') h := by
  induction H with
  | head => exact fun x => x
  | tail _ ih => exact fun x => star_swap (star_mono (fun _ y => y) (fun _ y => ih y) x)

inductive Split : List HP → List HP → List HP → Prop
  | nil {l : List HP} : Split l [] l
  | cons {l : List HP} {A : HP} {l1 p F : List HP} : Has l A l1 → Split l1 p F → Split l (A :: p) F

theorem Split.pull {l p F : List HP} (H : Split l p F) : ∀ {h : Hp}, big l h → big (p ++ F) h := by
  induction H with
  | nil => exact fun x => x
  | cons hh _ ih => exact fun x => star_mono (fun _ y => y) (fun _ y => ih y) (hh.pull x)

def one (r : Bool) (b : Nat) (o : Obj) : HP := fun h => h = fun c => if c = b then some (r, o) else none
/-- A row of cells of its own (r = false; none of them marked) or of all (r = true). -/
def cel (r : Bool) (b : Nat) (T : TypeId) (cs : List Value) : HP := fun h => ∃ fr : Nat × Nat, (r = false → fr.1 < fr.2 → cs.length ≤ fr.1) ∧ one r b (.cells cs.toArray T fr) h
def lift (p : Prop) : HP := fun h => p ∧ h = E0
def ex {α : Type} (A : α → HP) : HP := fun h => ∃ x, A x h

/-- What of a world no call changes. -/
structure Rst where
  tape : Nat → Question → Nat
  os : Os
  output : Array (Nat × ByteArray)

structure Holds (ρ : Rst) (w : World) (L : List HP) : Prop where
  tape : w.tape = ρ.tape
  os : w.os = ρ.os
  output : w.output = ρ.output
  heap : ∃ h, big L h ∧ ∀ b r o, h b = some (r, o) → w.heap[b]? = some o

variable {ρ : Rst} {w : World} {L L' : List HP}

theorem Holds.mono (H : Holds ρ w L) (f : ∀ h, big L h → big L' h) : Holds ρ w L' :=
  ⟨H.tape, H.os, H.output, let ⟨h, a, b⟩ := H.heap; ⟨h, f h a, b⟩⟩
theorem Holds.split {p F : List HP} (H : Holds ρ w L) (s : Split L p F) : Holds ρ w (p ++ F) := H.mono fun _ x => s.pull x
theorem Holds.has {A : HP} (H : Holds ρ w L) (s : Has L A L') : Holds ρ w (A :: L') := H.mono fun _ x => s.pull x

theorem Holds.drop {A : HP} (H : Holds ρ w (A :: L)) : Holds ρ w L := by
  obtain ⟨h, ⟨h1, h2, c, rfl, a, b⟩, d⟩ := H.heap
  refine ⟨H.tape, H.os, H.output, h2, b, fun x r o e => ?_⟩
  rcases c x with c | c | ⟨c, o', ho'⟩
  · exact d x r o (by unfold Jn; rw [c]; exact e)
  · rw [c] at e; cases e
  · exact d x r o (by unfold Jn; rw [c, e]; rfl)
theorem Holds.drops {l : List HP} (H : Holds ρ w (L ++ l)) : Holds ρ w L := by
  have H' : Holds ρ w (l ++ L) := H.mono fun _ x => big_append.2 (star_comm (big_append.1 x))
  clear H
  induction l with
  | nil => exact H'
  | cons A l ih => exact ih H'.drop
theorem Holds.appends {l : List HP} (H : Holds ρ w (L ++ l)) : Holds ρ w (l ++ L) := H.mono fun _ x => big_append.2 (star_comm (big_append.1 x))

theorem Holds.block {r : Bool} {b : Nat} {o : Obj} (H : Holds ρ w (one r b o :: L)) : w.heap[b]? = some o := by
  obtain ⟨h, ⟨h1, h2, c, rfl, a, _⟩, d⟩ := H.heap
  have a : h1 = _ := a
  subst a
  exact d b r o (by simp [Jn, jn])

theorem fresh_of {h : Hp} (d : ∀ b r o, h b = some (r, o) → w.heap[b]? = some o) {b : Nat} (hlt : w.heap.size ≤ b) : h b = none := by
  cases e : h b with
  | none => rfl
  | some p =>
    obtain ⟨r, o⟩ := p
    have := d b r o e
    rw [Array.getElem?_eq_none hlt] at this
    cases this

theorem Holds.alloc (H : Holds ρ w L) (o : Obj) : Holds ρ (w.alloc o) (one false w.heap.size o :: L) := by
  obtain ⟨h, a, d⟩ := H.heap
  have hn : h w.heap.size = none := fresh_of d (Nat.le_refl _)
  refine ⟨H.tape, H.os, H.output, Jn (fun c => if c = w.heap.size then some (false, o) else none) h, ⟨_, h, fun x => ?_, rfl, rfl, a⟩, fun b r o' e => ?_⟩
  · by_cases hx : x = w.heap.size
    · exact .inr (.inl (hx ▸ hn))
    · exact .inl (by simp [hx])
  · by_cases hx : b = w.heap.size
    · subst hx
      simp only [Jn, jn, if_true] at e
      obtain ⟨rfl, rfl⟩ : false = r ∧ o = o' := by simpa using e
      show (w.heap.push o)[w.heap.size]? = some o
      simp
    · simp only [Jn, jn, if_neg hx] at e
      have := d b r o' e
      have hlt : b < w.heap.size := by
        rcases Nat.lt_or_ge b w.heap.size with g | g
        · exact g
        · rw [Array.getElem?_eq_none g] at this; cases this
      show (w.heap.push o)[b]? = some o'
      rw [Array.getElem?_push, if_neg hx]
      exact this

theorem Holds.drew (H : Holds ρ w L) : Holds ρ w.drew L := ⟨H.tape, H.os, H.output, H.heap⟩

/-- An own block is written anew. -/
theorem Holds.put {b : Nat} {o o' : Obj} {w' : World} (H : Holds ρ w (one false b o :: L)) (hw : w' = { w with heap := w'.heap })
    (hb : w'.heap[b]? = some o') (hk : ∀ c, c ≠ b → w'.heap[c]? = w.heap[c]?) : Holds ρ w' (one false b o' :: L) := by
  obtain ⟨h, ⟨h1, h2, c, rfl, a, b2⟩, d⟩ := H.heap
  have a : h1 = _ := a
  subst a
  have e2 : h2 b = none := by
    rcases c b with c | c | ⟨c, o1, ho1⟩
    · simp at c
    · exact c
    · simp at ho1
  refine ⟨by rw [hw]; exact H.tape, by rw [hw]; exact H.os, by rw [hw]; exact H.output, Jn (fun c => if c = b then some (false, o') else none) h2, ⟨_, h2, fun x => ?_, rfl, rfl, b2⟩, fun x r o1 e => ?_⟩
  · by_cases hx : x = b
    · exact .inr (.inl (hx ▸ e2))
    · exact .inl (by simp [hx])
  · by_cases hx : x = b
    · subst hx
      simp only [Jn, jn, if_true] at e
      obtain ⟨rfl, rfl⟩ : false = r ∧ o' = o1 := by simpa using e
      exact hb
    · simp only [Jn, jn, if_neg hx] at e
      rw [hk x hx]
      exact d x r o1 (by simp only [Jn, jn, if_neg hx]; exact e)

/-- An own block becomes everybody's. -/
theorem Holds.share {b : Nat} {o : Obj} (H : Holds ρ w (one false b o :: L)) : Holds ρ w (one true b o :: L) := by
  obtain ⟨h, ⟨h1, h2, c, rfl, a, b2⟩, d⟩ := H.heap
  have a : h1 = _ := a
  subst a
  have e2 : h2 b = none := by
    rcases c b with c | c | ⟨c, o1, ho1⟩
    · simp at c
    · exact c
    · simp at ho1
  refine ⟨H.tape, H.os, H.output, Jn (fun c => if c = b then some (true, o) else none) h2, ⟨_, h2, fun x => ?_, rfl, rfl, b2⟩, fun x r o1 e => ?_⟩
  · by_cases hx : x = b
    · exact .inr (.inl (hx ▸ e2))
    · exact .inl (by simp [hx])
  · by_cases hx : x = b
    · subst hx
      simp only [Jn, jn, if_true] at e
      obtain ⟨rfl, rfl⟩ : true = r ∧ o = o1 := by simpa using e
      exact d x false o (by simp [Jn, jn])
    · simp only [Jn, jn, if_neg hx] at e
      exact d x r o1 (by simp only [Jn, jn, if_neg hx]; exact e)

theorem Holds.cel_one {r : Bool} {b : Nat} {T : TypeId} {cs : List Value} (H : Holds ρ w (cel r b T cs :: L)) :
    ∃ fr : Nat × Nat, (r = false → fr.1 < fr.2 → cs.length ≤ fr.1) ∧ Holds ρ w (one r b (.cells cs.toArray T fr) :: L) := by
  obtain ⟨h, ⟨h1, h2, c, rfl, ⟨fr, hf, a⟩, b⟩, d⟩ := H.heap
  exact ⟨fr, hf, H.tape, H.os, H.output, _, ⟨h1, h2, c, rfl, a, b⟩, d⟩
theorem Holds.one_cel {r : Bool} {b : Nat} {T : TypeId} {cs : List Value} {fr : Nat × Nat} (hf : r = false → fr.1 < fr.2 → cs.length ≤ fr.1) (H : Holds ρ w (one r b (.cells cs.toArray T fr) :: L)) :
    Holds ρ w (cel r b T cs :: L) := H.mono fun _ x => star_mono (fun _ a => ⟨fr, hf, a⟩) (fun _ a => a) x
/-- An own row becomes everybody's. -/
theorem Holds.shareC {b : Nat} {T : TypeId} {cs : List Value} (H : Holds ρ w (cel false b T cs :: L)) : Holds ρ w (cel true b T cs :: L) := by
  obtain ⟨fr, hf, H⟩ := H.cel_one
  exact H.share.one_cel (fun h => by cases h)
theorem Holds.lift {p : Prop} (H : Holds ρ w (lift p :: L)) : p ∧ Holds ρ w L := by
  obtain ⟨h, ⟨h1, h2, c, rfl, a, b⟩, d⟩ := H.heap
  exact ⟨a.1, H.drop⟩
theorem Holds.lift_mk {p : Prop} (hp : p) (H : Holds ρ w L) : Holds ρ w (SL.lift p :: L) :=
  H.mono fun h x => ⟨E0, h, E0_Cmp h, rfl, ⟨hp, rfl⟩, x⟩
theorem Holds.ex {α : Type} {A : α → HP} (H : Holds ρ w (ex A :: L)) : ∃ x, Holds ρ w (A x :: L) := by
  obtain ⟨h, ⟨h1, h2, c, rfl, ⟨x, a⟩, b⟩, d⟩ := H.heap
  exact ⟨x, H.tape, H.os, H.output, _, ⟨h1, h2, c, rfl, a, b⟩, d⟩
theorem Holds.ex_mk {α : Type} {A : α → HP} (x : α) (H : Holds ρ w (A x :: L)) : Holds ρ w (SL.ex A :: L) :=
  H.mono fun _ y => star_mono (fun _ a => ⟨x, a⟩) (fun _ b => b) y
/-- A chunk that is a list of chunks is laid open. -/
theorem Holds.open {l : List HP} (H : Holds ρ w (big l :: L)) : Holds ρ w (l ++ L) := H.mono fun _ x => big_append.2 x
theorem Holds.shut {l : List HP} (H : Holds ρ w (l ++ L)) : Holds ρ w (big l :: L) := H.mono fun _ x => big_append.1 x

/-- A chunk that may be had twice. -/
def Dup (A : HP) : Prop := ∀ h, A h → star A A h
theorem Holds.dup {A : HP} (hA : Dup A) (H : Holds ρ w (A :: L)) : Holds ρ w (A :: A :: L) :=
  H.mono fun _ x => star_assoc' (star_mono (fun h a => hA h a) (fun _ b => b) x)
theorem dup_one (b : Nat) (o : Obj) : Dup (one true b o) := fun h e => by
  have e : h = _ := e
  subst e
  refine ⟨_, _, fun x => ?_, funext fun x => ?_, rfl, rfl⟩
  · by_cases hx : x = b
    · exact .inr (.inr ⟨rfl, o, by simp [hx]⟩)
    · exact .inl (by simp [hx])
  · by_cases hx : x = b <;> simp [Jn, jn, hx]
theorem dup_cel (b : Nat) (T : TypeId) (cs : List Value) : Dup (cel true b T cs) := fun h ⟨fr, hf, H⟩ =>
  star_mono (fun _ a => ⟨fr, hf, a⟩) (fun _ a => ⟨fr, hf, a⟩) (dup_one _ _ h H)
theorem dup_lift (p : Prop) : Dup (lift p) := fun h ⟨hp, e⟩ => by subst e; exact ⟨E0, E0, E0_Cmp _, rfl, ⟨hp, rfl⟩, ⟨hp, rfl⟩⟩
theorem dup_star {A B : HP} (ha : Dup A) (hb : Dup B) : Dup (star A B) := fun h H => by
  have H1 : star (star A A) (star B B) h := star_mono (fun h a => ha h a) (fun h b => hb h b) H
  exact star_assoc (star_mono (fun _ x => x) (fun _ x => star_swap x) (star_assoc' H1))
theorem dup_emp : Dup emp := fun h e => by have e : h = _ := e; subst e; exact ⟨E0, E0, E0_Cmp _, rfl, rfl, rfl⟩
theorem dup_ex {α : Type} {A : α → HP} (hA : ∀ x, Dup (A x)) : Dup (ex A) := fun h ⟨x, a⟩ =>
  star_mono (fun _ a => ⟨x, a⟩) (fun _ a => ⟨x, a⟩) (hA x h a)
theorem dup_big {l : List HP} (h : ∀ A ∈ l, Dup A) : Dup (big l) := by
  induction l with
  | nil => exact dup_emp
  | cons A l ih => exact dup_star (h A (by simp)) (ih fun B hB => h B (by simp [hB]))

/-- All of a heap, as everybody's. -/
def whole (W : World) : HP := fun h => h = fun b => (W.heap[b]?).map fun o => (true, o)
theorem dup_whole (W : World) : Dup (whole W) := fun h e => by
  have e : h = _ := e
  subst e
  refine ⟨_, _, fun x => ?_, funext fun x => ?_, rfl, rfl⟩
  · cases hx : W.heap[x]? with
    | none => exact .inl (by simp)
    | some o => exact .inr (.inr ⟨rfl, o, by simp⟩)
  · cases hx : W.heap[x]? <;> simp [Jn, jn, hx]
theorem Holds.init (W : World) : Holds ⟨W.tape, W.os, W.output⟩ W [whole W] :=
  ⟨rfl, rfl, rfl, _, ⟨_, E0, Cmp_E0 _, (Jn_E0 _).symm, rfl, rfl⟩, fun b r o e => by
    cases hb : W.heap[b]? with
    | none => simp [hb] at e
    | some o' => simp [hb] at e; rw [e.2]⟩
theorem Holds.whole_one {W : World} {b : Nat} {o : Obj} (hb : W.heap[b]? = some o) (H : Holds ρ w (whole W :: L)) : Holds ρ w (one true b o :: whole W :: L) := by
  refine H.mono fun h x => ?_
  obtain ⟨h1, h2, c, rfl, e, y⟩ := x
  have e : h1 = _ := e
  subst e
  refine star_assoc' ⟨_, h2, c, rfl, ⟨fun c => if c = b then some (true, o) else none, _, fun x => ?_, funext fun x => ?_, rfl, rfl⟩, y⟩
  · by_cases hx : x = b
    · subst hx; exact .inr (.inr ⟨by simp [hb], o, by simp⟩)
    · exact .inl (by simp [hx])
  · by_cases hx : x = b
    · subst hx; simp [Jn, jn, hb]
    · simp [Jn, jn, hx]
theorem Holds.below {W : World} (h1 : W.tape = ρ.tape) (h2 : W.os = ρ.os) (h3 : W.output = ρ.output) (H : Holds ρ w (whole W :: L)) : RowKit.Below W.heap.size W w := by
  obtain ⟨h, ⟨g1, g2, c, rfl, e, y⟩, d⟩ := H.heap
  have e : g1 = _ := e
  subst e
  have key : ∀ k, k < W.heap.size → w.heap[k]? = W.heap[k]? := fun k hk => by
    have hs : W.heap[k]? = some W.heap[k] := Array.getElem?_eq_getElem hk
    rw [d k true W.heap[k] (by simp [Jn, jn, hs]), hs]
  refine ⟨H.os.trans h2.symm, H.tape.trans h1.symm, H.output.trans h3.symm, ?_, key⟩
  rcases Nat.lt_or_ge w.heap.size W.heap.size with g | g
  · have := key w.heap.size g
    rw [Array.getElem?_eq_none (Nat.le_refl _), Array.getElem?_eq_getElem g] at this
    cases this
  · exact g

end Go.Proofs.YtfjnacakpeommaaGreatDoor.SL
/- Steps of a walk: what each operation makes of the known slots and of the chunks of memory. -/
namespace Go.Proofs.YtfjnacakpeommaaGreatDoor.SL
open Go
set_option autoImplicit false
set_option linter.unusedVariables false
set_option linter.unusedSimpArgs false

abbrev Env := List (Nat × Value)
def lk : Env → Nat → Option Value
  | [], _ => none
  | (s, v) :: e, t => match Nat.beq s t with | true => some v | false => lk e t

structure Ag (N : Nat) (env : Env) (a : Act) : Prop where
  size : a.tmps.size = N
  defers : a.defers = []
  get : ∀ t v, lk env t = some v → a.tmps.getD t undef = v

/-- From any frame that has these slots, and any world that holds these chunks, G. -/
def St (ρ : Rst) (N : Nat) (env : Env) (L : List HP) (G : Act → World → Prop) : Prop := ∀ a w, Ag N env a → Holds ρ w L → G a w

def ev (env : Env) : Operand → Option Value
  | .tmp t => lk env t
  | .const v => some v
  | .global g => some (.pointer (some ⟨g, 0, none⟩))
  | .func f => some (.func (.func f) #[] #[])
def evs (env : Env) : List Operand → Option (List Value)
  | [] => some []
  | x :: l => match ev env x with
    | none => none
    | some v => match evs env l with
      | none => none
      | some vs => some (v :: vs)

variable {ρ : Rst} {N : Nat} {env : Env} {L L' : List HP} {P : Program} {ops : Array Oper} {Q : Exit → Act → World → Prop} {rest : List Oper}
  {K : Act → World → Prop}

theorem ev_ok {a : Act} (h : Ag N env a) {x : Operand} {v : Value} (e : ev env x = some v) : a.eval x = v := by
  cases x with
  | tmp t => exact h.get t v e
  | const u => cases e; rfl
  | global g => cases e; rfl
  | func f => cases e; rfl
theorem evs_ok {a : Act} (h : Ag N env a) : ∀ {l : List Operand} {vs : List Value}, evs env l = some vs → l.map a.eval = vs
  | [], vs, e => by cases e; rfl
  | x :: l, vs, e => by
    unfold evs at e
    cases h1 : ev env x with
    | none => rw [h1] at e; cases e
    | some v =>
      rw [h1] at e
      cases h2 : evs env l with
      | none => rw [h2] at e; cases e
      | some us =>
        rw [h2] at e; cases e
        simp [ev_ok h h1, evs_ok h h2]

theorem lk_cons (d t : Nat) (v : Value) : lk ((d, v) :: env) t = if d = t then some v else lk env t := by
  show (match Nat.beq d t with | true => some v | false => lk env t) = _
  by_cases h : d = t
  · subst h; simp
  · rw [if_neg h]
    have : Nat.beq d t = false := by
      cases e : Nat.beq d t with
      | false => rfl
      | true => exact absurd (Nat.eq_of_beq_eq_true e) h
    rw [this]

theorem Ag.put {a : Act} (h : Ag N env a) {d : Nat} (hd : d < N) (v : Value) : Ag N ((d, v) :: env) (a.put (some d) v) := by
  refine ⟨by simp [Act.put, h.size], h.defers, fun t u e => ?_⟩
  rw [lk_cons] at e
  by_cases hx : d = t
  · subst hx
    rw [if_pos rfl] at e
    cases e
    simp [Act.put, h.size, hd]
  · rw [if_neg hx] at e
    have := h.get t u e
    rw [← this]
    simp [Act.put, Array.getElem?_setIfInBounds_ne hx]
theorem Ag.put_none {a : Act} (h : Ag N env a) (v : Value) : Ag N env (a.put none v) := h

theorem St.mono {G G' : Act → World → Prop} (h : St ρ N env L G) (f : ∀ a w, G a w → G' a w) : St ρ N env L G' := fun a w x y => f a w (h a w x y)
/-- Slots that are known already, chunks that are there, by fewer. -/
theorem St.weak {env' : Env} {G : Act → World → Prop} (h : St ρ N env' L' G) (he : ∀ t v, lk env' t = some v → lk env t = some v) {F : List HP} (hs : Split L L' F) : St ρ N env L G :=
  fun a w x y => h a w ⟨x.size, x.defers, fun t v e => x.get t v (he t v e)⟩ (y.split hs).drops
theorem St.again {d : Nat} {v v' : Value} {G : Act → World → Prop} (e : lk env d = some v) (hv : v = v') (h : St ρ N ((d, v') :: env) L G) : St ρ N env L G :=
  fun a w x y => h a w ⟨x.size, x.defers, fun t u e' => by
    rw [lk_cons] at e'
    by_cases hx : d = t
    · subst hx; rw [if_pos rfl] at e'; cases e'; rw [← hv]; exact x.get _ _ e
    · rw [if_neg hx] at e'; exact x.get _ _ e'⟩ y

theorem St_ex {α : Type} {A : α → HP} {G : Act → World → Prop} (h : ∀ x, St ρ N env (A x :: L) G) : St ρ N env (ex A :: L) G :=
  fun a w x y => let ⟨z, hz⟩ := y.ex; h z a w x hz
theorem St_lift {p : Prop} {G : Act → World → Prop} (h : p → St ρ N env L G) : St ρ N env (lift p :: L) G :=
  fun a w x y => h y.lift.1 a w x y.lift.2
theorem St_open {l : List HP} {G : Act → World → Prop} (h : St ρ N env (l ++ L) G) : St ρ N env (big l :: L) G :=
  fun a w x y => h a w x y.open
theorem St_pull {A : HP} {G : Act → World → Prop} (hh : Has L A L') (h : St ρ N env (A :: L') G) : St ρ N env L G :=
  fun a w x y => h a w x (y.has hh)
theorem St_conv {G : Act → World → Prop} (f : ∀ w, Holds ρ w L → Holds ρ w L') (h : St ρ N env L' G) : St ρ N env L G :=
  fun a w x y => h a w x (f w y)

/-! Operations -/
def Exec (P : Program) (Q : Exit → Act → World → Prop) (o : Oper) (K : Act → World → Prop) : Act → World → Prop := fun a w => o.wp P a w K Q

theorem St_nil (h : St ρ N env L (Q .normal)) : St ρ N env L (wpList P ops Q []) := h
theorem St_g0 {o : Oper} (hg : o.guard = none) (h : St ρ N env L (Exec P Q o (wpList P ops Q rest))) : St ρ N env L (wpList P ops Q (o :: rest)) := by
  intro a w x y
  unfold wpList
  rw [if_pos (by simp [Region.wanted, hg])]
  exact .inl (h a w x y)

def gd (ops : List Oper) (env : Env) (j : Nat) : Option Value :=
  match ops[j]? with
  | some ⟨some t, _, _, _, _, _⟩ => lk env t
  | _ => none
theorem gd_ok {a : Act} (h : Ag N env a) {j : Nat} {b : Bool} {l : List Oper} (e : gd l env j = some (.bool b)) : yielded l.toArray a.tmps j = some b := by
  unfold gd at e
  unfold yielded
  simp only [List.getElem?_toArray]
  cases ho : l[j]? with
  | none => rw [ho] at e; cases e
  | some o =>
    rw [ho] at e
    obtain ⟨d, op, ty, pos, aft, g⟩ := o
    cases d with
    | none => cases e
    | some t =>
      have := h.get t _ e
      have ht : t < a.tmps.size := by
        rcases Nat.lt_or_ge t a.tmps.size with g | g
        · exact g
        · rw [Array.getD_eq_getD_getElem?, Array.getElem?_eq_none g] at this
          cases this
      rw [Array.getD_eq_getD_getElem?, Array.getElem?_eq_getElem ht] at this
      simp only [Option.bind_some]
      rw [Array.getElem?_eq_getElem ht]
      simp only [Option.getD_some] at this
      rw [this]

variable {lops : List Oper}
/-- A guarded operation that is wanted. -/
theorem St_g1 {o : Oper} {j : Nat} {b c : Bool} (hg : o.guard = some (j, b)) (hb' : gd lops env j = some (.bool c)) (hcb : c = b)
    (h : St ρ N env L (Exec P Q o (wpList P lops.toArray Q rest))) : St ρ N env L (wpList P lops.toArray Q (o :: rest)) := by
  have hb : gd lops env j = some (.bool b) := hcb ▸ hb'
  intro a w x y
  unfold wpList
  rw [if_pos (by simp [Region.wanted, hg, gd_ok x hb])]
  exact .inl (h a w x y)
/-- A guarded operation that is passed over. -/
theorem St_gs {o : Oper} {j d : Nat} {b c : Bool} (hg : o.guard = some (j, b)) (hb : gd lops env j = some (.bool c)) (hcb : c = !b) (hd : o.dst = some d) (hN : Nat.blt d N = true)
    (h : St ρ N ((d, undef) :: env) L (wpList P lops.toArray Q rest)) : St ρ N env L (wpList P lops.toArray Q (o :: rest)) := by
  intro a w x y
  unfold wpList
  have : ¬ c = b := by subst hcb; cases b <;> simp
  rw [if_neg (by simp [Region.wanted, hg, gd_ok x hb, this]), hd]
  exact h _ w (x.put (by simpa using hN) _) y
theorem gd_undef {a : Act} (h : Ag N env a) {j : Nat} {l : List Oper} (e : gd l env j = some undef) : yielded l.toArray a.tmps j = none := by
  unfold gd at e
  unfold yielded
  simp only [List.getElem?_toArray]
  cases ho : l[j]? with
  | none => rw [ho] at e; cases e
  | some o =>
    rw [ho] at e
    obtain ⟨d, op, ty, pos, aft, g⟩ := o
    cases d with
    | none => cases e
    | some t =>
      have := h.get t _ e
      simp only [Option.bind_some]
      rcases Nat.lt_or_ge t a.tmps.size with g | g
      · rw [Array.getD_eq_getD_getElem?, Array.getElem?_eq_getElem g] at this
        simp only [Option.getD_some] at this
        rw [Array.getElem?_eq_getElem g, this]
        rfl
      · rw [Array.getElem?_eq_none g]
/-- An operation whose guard was itself passed over. -/
theorem St_gu {o : Oper} {j d : Nat} {b : Bool} (hg : o.guard = some (j, b)) (hb : gd lops env j = some undef) (hd : o.dst = some d) (hN : Nat.blt d N = true)
    (h : St ρ N ((d, undef) :: env) L (wpList P lops.toArray Q rest)) : St ρ N env L (wpList P lops.toArray Q (o :: rest)) := by
  intro a w x y
  unfold wpList
  rw [if_neg (by simp [Region.wanted, hg, gd_undef x hb]), hd]
  exact h _ w (x.put (by simpa using hN) _) y
/-- A guard that is not decided: both ways. -/
theorem St_gx {o : Oper} {j t : Nat} {b c : Bool} (hg : o.guard = some (j, b)) (ht : (lops[j]?).bind (·.dst) = some t) (hb : lk env t = some (.bool c))
    (h1 : c = true → St ρ N ((t, .bool true) :: env) L (wpList P lops.toArray Q (o :: rest)))
    (h2 : c = false → St ρ N ((t, .bool false) :: env) L (wpList P lops.toArray Q (o :: rest))) : St ρ N env L (wpList P lops.toArray Q (o :: rest)) := by
  cases hc : c with
  | true => exact St.again hb (by rw [hc]) (h1 hc)
  | false => exact St.again hb (by rw [hc]) (h2 hc)

section
variable {d : Nat} {op : Op} {ty : TypeId} {pos : String} {aft : Array Edge} {g : Option (Nat × Bool)}

theorem St_run {α : Type} {v : α → Value} {M : α → List HP} (hN : d < N)
    (hr : ∀ a w, Ag N env a → Holds ρ w L → ∃ z w', (execOp a.eval ⟨some d, op, ty, pos, aft, g⟩).run P w = .ok (.value (v z)) w' ∧ Holds ρ w' (M z))
    (h : ∀ z, St ρ N ((d, v z) :: env) (M z) K) : St ρ N env L (Exec P Q ⟨some d, op, ty, pos, aft, g⟩ K) := by
  intro a w x y
  obtain ⟨z, w', e, hw⟩ := hr a w x y
  unfold Exec Oper.wp
  rw [e]
  exact h z _ _ (x.put hN _) hw
theorem St_pure {v : Value} (hN : d < N) (hr : ∀ a w, Ag N env a → (execOp a.eval ⟨some d, op, ty, pos, aft, g⟩).run P w = .ok (.value v) w)
    (h : St ρ N ((d, v) :: env) L K) : St ρ N env L (Exec P Q ⟨some d, op, ty, pos, aft, g⟩ K) :=
  St_run (α := Unit) (v := fun _ => v) (M := fun _ => L) hN (fun a w x y => ⟨(), w, hr a w x, y⟩) fun _ => h
/-- One that reads memory. -/
theorem St_read {v : Value} (hN : d < N) (hr : ∀ a w, Ag N env a → Holds ρ w L → (execOp a.eval ⟨some d, op, ty, pos, aft, g⟩).run P w = .ok (.value v) w)
    (h : St ρ N ((d, v) :: env) L K) : St ρ N env L (Exec P Q ⟨some d, op, ty, pos, aft, g⟩ K) :=
  St_run (α := Unit) (v := fun _ => v) (M := fun _ => L) hN (fun a w x y => ⟨(), w, hr a w x y, y⟩) fun _ => h

/-- An operation that yields a value and leaves the world as it is. -/
def Rd (P : Program) (ρ : Rst) (N : Nat) (env : Env) (L : List HP) (o : Oper) (v : Value) : Prop :=
  ∀ a w, Ag N env a → Holds ρ w L → (execOp a.eval o).run P w = .ok (.value v) w
theorem St_rd {v : Value} (hN : Nat.blt d N = true) (hr : Rd P ρ N env L ⟨some d, op, ty, pos, aft, g⟩ v) (h : St ρ N ((d, v) :: env) L K) :
    St ρ N env L (Exec P Q ⟨some d, op, ty, pos, aft, g⟩ K) := St_read (by simpa using hN) hr h
variable {dd : Option Nat}

theorem Rd_move {x : Operand} {v : Value} (hx : ev env x = some v) : Rd P ρ N env L ⟨dd, .move x, ty, pos, aft, g⟩ (v) :=
  fun a w y _ => by simp [execOp, ev_ok y hx]
theorem Rd_assign {x : Operand} {v : Value} (hx : ev env x = some v) : Rd P ρ N env L ⟨dd, .assign x, ty, pos, aft, g⟩ (v) :=
  fun a w y _ => by simp [execOp, ev_ok y hx]
theorem Rd_pick1 {c x y : Operand} {v : Value} {t : Bool} (hc' : ev env c = some (.bool t)) (ht : t = true) (hx : ev env x = some v) : Rd P ρ N env L ⟨dd, .pick c x y, ty, pos, aft, g⟩ (v) :=
  fun a w z _ => by have hc := ht ▸ hc'; simp [execOp, ev_ok z hx, ev_ok z hc, asBool]
theorem Rd_pick0 {c x y : Operand} {v : Value} {t : Bool} (hc' : ev env c = some (.bool t)) (ht : t = false) (hy : ev env y = some v) : Rd P ρ N env L ⟨dd, .pick c x y, ty, pos, aft, g⟩ (v) :=
  fun a w z _ => by have hc := ht ▸ hc'; simp [execOp, ev_ok z hy, ev_ok z hc, asBool]
theorem Rd_extract {x : Operand} {i : Nat} {l : List Value} {v : Value} (hx : ev env x = some (.tuple l.toArray)) (hv : l[i]? = some v) : Rd P ρ N env L ⟨dd, .extract x i, ty, pos, aft, g⟩ (v) :=
  fun a w z _ => by simp [execOp, ev_ok z hx, Instr.extract, hv]
theorem Rd_nilCheck {x : Operand} {A : Addr} (hx : ev env x = some (.pointer (some A))) : Rd P ρ N env L ⟨dd, .nilCheck x, ty, pos, aft, g⟩ (.pointer (some A)) :=
  fun a w z _ => by simp [execOp, ev_ok z hx]
/-- What an operation on two whole numbers makes. -/
def intOp (op : BinOp) (k : IntKind) (x y : Int) : Option Value :=
  match op with
  | .add => some (.int k (k.wrap (x + y)))
  | .sub => some (.int k (k.wrap (x - y)))
  | .mul => some (.int k (k.wrap (x * y)))
  | .and => some (.int k (k.wrap (BitVec.ofInt k.bits x &&& BitVec.ofInt k.bits y).toNat))
  | .or => some (.int k (k.wrap (BitVec.ofInt k.bits x ||| BitVec.ofInt k.bits y).toNat))
  | .xor => some (.int k (k.wrap (BitVec.ofInt k.bits x ^^^ BitVec.ofInt k.bits y).toNat))
  | .eql => some (.bool (x == y))
  | .neq => some (.bool (x != y))
  | .lss => some (.bool (decide (x < y)))
  | .leq => some (.bool (decide (x ≤ y)))
  | .gtr => some (.bool (decide (x > y)))
  | .geq => some (.bool (decide (x ≥ y)))
  | _ => none

theorem run_eqGuard_int {k k' : IntKind} {x y : Int} {op : BinOp} {T : TypeId} {u v : Operand} (w : World) : (eqGuard op T u v (.int k x) (.int k' y)).run P w = .ok () w := by
  cases op <;> simp [eqGuard]
theorem Rd_intOp {b : BinOp} {T U : TypeId} {x y : Operand} {k : IntKind} {m n : Int} {v : Value} (hx : ev env x = some (.int k m)) (hy : ev env y = some (.int k n))
    (hv : intOp b k m n = some v) : Rd P ρ N env L ⟨dd, .binOp b T x y U, ty, pos, aft, g⟩ (v) :=
  fun a w z _ => by
    cases b <;> simp only [intOp] at hv <;> cases hv <;> simp [execOp, ev_ok z hx, ev_ok z hy, run_eqGuard_int, binOp, Op.intArith, Op.intCmp, Op.intBits]
theorem Rd_add {T U : TypeId} {x y : Operand} {m n : Int} (hx : ev env x = some (.int .i64 m)) (hy : ev env y = some (.int .i64 n))
    (hb : -9223372036854775808 ≤ m + n ∧ m + n ≤ 9223372036854775807) : Rd P ρ N env L ⟨dd, .binOp .add T x y U, ty, pos, aft, g⟩ (.int .i64 (m + n)) :=
  Rd_intOp hx hy (by show some (Value.int .i64 (IntKind.i64.wrap (m + n))) = _; rw [IntWalk.i64_in _ hb])
theorem Rd_sub {T U : TypeId} {x y : Operand} {m n : Int} (hx : ev env x = some (.int .i64 m)) (hy : ev env y = some (.int .i64 n))
    (hb : -9223372036854775808 ≤ m - n ∧ m - n ≤ 9223372036854775807) : Rd P ρ N env L ⟨dd, .binOp .sub T x y U, ty, pos, aft, g⟩ (.int .i64 (m - n)) :=
  Rd_intOp hx hy (by show some (Value.int .i64 (IntKind.i64.wrap (m - n))) = _; rw [IntWalk.i64_in _ hb])
theorem Rd_mul {T U : TypeId} {x y : Operand} {m n : Int} (hx : ev env x = some (.int .i64 m)) (hy : ev env y = some (.int .i64 n))
    (hb : -9223372036854775808 ≤ m * n ∧ m * n ≤ 9223372036854775807) : Rd P ρ N env L ⟨dd, .binOp .mul T x y U, ty, pos, aft, g⟩ (.int .i64 (m * n)) :=
  Rd_intOp hx hy (by show some (Value.int .i64 (IntKind.i64.wrap (m * n))) = _; rw [IntWalk.i64_in _ hb])
theorem Rd_quo {T U : TypeId} {x y : Operand} {k : IntKind} {m n : Int} (hx : ev env x = some (.int k m)) (hy : ev env y = some (.int k n))
    (hb : n ≠ 0) : Rd P ρ N env L ⟨dd, .binOp .quo T x y U, ty, pos, aft, g⟩ (.int k (k.wrap (m.tdiv n))) :=
  fun a w z _ => by simp [execOp, ev_ok z hx, ev_ok z hy, run_eqGuard_int, binOp, Op.intDiv, hb]
theorem Rd_rem {T U : TypeId} {x y : Operand} {k : IntKind} {m n : Int} (hx : ev env x = some (.int k m)) (hy : ev env y = some (.int k n))
    (hb : n ≠ 0) : Rd P ρ N env L ⟨dd, .binOp .rem T x y U, ty, pos, aft, g⟩ (.int k (m.tmod n)) :=
  fun a w z _ => by simp [execOp, ev_ok z hx, ev_ok z hy, run_eqGuard_int, binOp, Op.intDiv, hb]
theorem Rd_shl {T U : TypeId} {x y : Operand} {k k' : IntKind} {m n : Int} (hx : ev env x = some (.int k m)) (hy : ev env y = some (.int k' n))
    (hb : 0 ≤ n) : Rd P ρ N env L ⟨dd, .binOp .shl T x y U, ty, pos, aft, g⟩ (.int k (k.wrap (m * 2 ^ (min n.toNat k.bits)))) :=
  fun a w z _ => by simp [execOp, ev_ok z hx, ev_ok z hy, run_eqGuard_int, binOp, Op.shift]; intro hc; omega
theorem Rd_shr {T U : TypeId} {x y : Operand} {k k' : IntKind} {m n : Int} (hx : ev env x = some (.int k m)) (hy : ev env y = some (.int k' n))
    (hb : 0 ≤ n) : Rd P ρ N env L ⟨dd, .binOp .shr T x y U, ty, pos, aft, g⟩ (.int k (m.fdiv (2 ^ (min n.toNat k.bits)))) :=
  fun a w z _ => by simp [execOp, ev_ok z hx, ev_ok z hy, run_eqGuard_int, binOp, Op.shift]; intro hc; omega
theorem Rd_not {T : TypeId} {x : Operand} {b : Bool} (hx : ev env x = some (.bool b)) : Rd P ρ N env L ⟨dd, .unOp .not T x, ty, pos, aft, g⟩ (.bool (!b)) :=
  fun a w z _ => by simp [execOp, ev_ok z hx, Op.unary]
theorem Rd_neg {T : TypeId} {x : Operand} {k : IntKind} {n : Int} (hx : ev env x = some (.int k n)) : Rd P ρ N env L ⟨dd, .unOp .neg T x, ty, pos, aft, g⟩ (.int k (k.wrap (0 - n))) :=
  fun a w z _ => by simp [execOp, ev_ok z hx, Op.unary, Op.intArith]
theorem Rd_compl {T : TypeId} {x : Operand} {k : IntKind} {n : Int} (hx : ev env x = some (.int k n))
    : Rd P ρ N env L ⟨dd, .unOp .xor T x, ty, pos, aft, g⟩ (.int k (k.wrap (BitVec.ofInt k.bits (if k.signed then -1 else k.max) ^^^ BitVec.ofInt k.bits n).toNat)) :=
  fun a w z _ => by simp [execOp, ev_ok z hx, Op.unary, Op.intBits]
/-- A text out of its bytes. -/
abbrev str (l : List UInt8) : Value := .string ⟨l.toArray⟩
theorem toList_str (l : List UInt8) : (ByteArray.mk l.toArray).toList = l := by rw [ByteArray.toList_eq]
theorem run_eqGuard_str {x y : ByteArray} {op : BinOp} {T : TypeId} {u v : Operand} (w : World) : (eqGuard op T u v (.string x) (.string y)).run P w = .ok () w := by
  cases op <;> simp [eqGuard]
def strOp (op : BinOp) (x y : List UInt8) : Option Value :=
  match op with
  | .eql => some (.bool (x == y))
  | .neq => some (.bool (!(x == y)))
  | .lss => some (.bool (Op.bytesLess x y))
  | _ => none
theorem Rd_strOp {b : BinOp} {T U : TypeId} {x y : Operand} {m n : List UInt8} {v : Value} (hx : ev env x = some (str m)) (hy : ev env y = some (str n))
    (hv : strOp b m n = some v) : Rd P ρ N env L ⟨dd, .binOp b T x y U, ty, pos, aft, g⟩ (v) :=
  fun a w z _ => by
    cases b <;> simp only [strOp] at hv <;> cases hv <;> simp [execOp, ev_ok z hx, ev_ok z hy, run_eqGuard_str, binOp, Op.stringOp, toList_str]
theorem Rd_cat {T U : TypeId} {x y : Operand} {m n : List UInt8} (hx : ev env x = some (str m)) (hy : ev env y = some (str n))
    (hb : m.length + n.length ≤ 9223372036854775807) : Rd P ρ N env L ⟨dd, .binOp .add T x y U, ty, pos, aft, g⟩ (str (m ++ n)) :=
  fun a w z _ => by
    have hs : ∀ l : List UInt8, (ByteArray.mk l.toArray).size = l.length := fun l => by simp [ByteArray.size]
    simp only [execOp, ev_ok z hx, ev_ok z hy, Sem.run_bind, run_eqGuard_str, binOp, Op.stringOp, Result.andThen_ok, hs, IntKind.max]
    rw [if_neg (by simp [IntKind.bits, IntKind.signed]; omega)]
    simp only [Sem.run_pure, Result.andThen_ok]
    congr 2
end

end Go.Proofs.YtfjnacakpeommaaGreatDoor.SL
/- Steps of a walk: memory, calls, control. -/
namespace Go.Proofs.YtfjnacakpeommaaGreatDoor.SL
open Go
set_option autoImplicit false
set_option linter.unusedVariables false
set_option linter.unusedSimpArgs false

/-! What a program says of its types, as tables. -/
def tabLk {α : Type} : List (Nat × α) → Nat → Option α
  | [], _ => none
  | (s, v) :: e, t => match Nat.beq s t with | true => some v | false => tabLk e t
def TabAll {α : Type} (R : Nat → α → Prop) : List (Nat × α) → Prop
  | [] => True
  | (t, x) :: l => R t x ∧ TabAll R l
theorem tab_ok {α : Type} {R : Nat → α → Prop} : ∀ {l : List (Nat × α)}, TabAll R l → ∀ {t : Nat} {x : α}, tabLk l t = some x → R t x
  | [], _, t, x, e => by cases e
  | (s, v) :: l, h, t, x, e => by
    unfold tabLk at e
    cases hb : Nat.beq s t with
    | true => rw [hb] at e; cases e; rw [← Nat.eq_of_beq_eq_true hb]; exact h.1
    | false => rw [hb] at e; exact tab_ok h.2 e

/-- A type's size in cells, its bytes, whether it is a struct or an array, its zero value's cells. -/
structure Inf where
  size : Nat
  bytes : Nat
  agg : Bool
  zero : List Value
def isAggD : TypeDesc → Bool
  | .struct _ | .array _ _ => true
  | _ => false
structure InfOk (P : Program) (t : Nat) (i : Inf) : Prop where
  mk ::
  info : ∃ j z, P.info? t = some j ∧ j.size = i.size ∧ j.bytes = i.bytes ∧ j.zero = some z ∧ z.cells = i.zero.toArray
  agg : ∃ d, P.underlying t = some d ∧ isAggD d = i.agg
/-- A struct's fields: places, sizes, types. -/
structure Fl where
  off : Nat
  size : Nat
  type : Nat
def FlOk (P : Program) (t : Nat) (l : List Fl) : Prop :=
  ∃ fs : Array Field, P.underlying t = some (.struct fs) ∧ fs.toList.map (fun f => (f.offset, f.type)) = l.map (fun f => (f.off, f.type)) ∧
    ∀ f ∈ l, ∃ j, P.info? f.type = some j ∧ j.size = f.size
theorem InfOk.of {P : Program} {t : Nat} {i : Inf} (h : (P.info? t).map (fun j => (j.zero.map (fun z => z.cells.toList), j.size, j.bytes)) = some (some i.zero, i.size, i.bytes))
    (h2 : (P.underlying t).map isAggD = some i.agg) : InfOk P t i := by
  simp only [Option.map_eq_some_iff] at h h2
  obtain ⟨j, hj, e⟩ := h
  simp only [Prod.mk.injEq, Option.map_eq_some_iff] at e
  obtain ⟨⟨z, hz, e1⟩, e2, e3⟩ := e
  obtain ⟨d, hd, e4⟩ := h2
  exact ⟨⟨j, z, hj, e2, e3, hz, by rw [← e1]⟩, d, hd, e4⟩
def flsOf : Option TypeDesc → Option (List (Nat × Nat))
  | some (.struct fs) => some (fs.toList.map fun f => (f.offset, f.type))
  | _ => none
theorem FlOk.of {P : Program} {t : Nat} {l : List Fl} (h : flsOf (P.underlying t) = some (l.map fun f => (f.off, f.type)))
    (h2 : (l.all fun f => (P.info? f.type).map (·.size) == some f.size) = true) : FlOk P t l := by
  cases hu : P.underlying t with
  | none => rw [hu] at h; cases h
  | some d =>
    rw [hu] at h
    cases d with
    | struct fs =>
      refine ⟨fs, hu, Option.some.inj h, fun f hf => ?_⟩
      have := List.all_eq_true.1 h2 f hf
      simp only [beq_iff_eq, Option.map_eq_some_iff] at this
      exact this
    | _ => cases h
structure Tabs (P : Program) where
  und : List (Nat × TypeDesc)
  inf : List (Nat × Inf)
  fld : List (Nat × List Fl)
  und_ok : TabAll (fun t d => P.underlying t = some d) und
  inf_ok : TabAll (InfOk P) inf
  fld_ok : TabAll (FlOk P) fld

variable {ρ : Rst} {N : Nat} {env : Env} {L L' : List HP} {P : Program} {ops : Array Oper} {Q : Exit → Act → World → Prop} {rest : List Oper}
  {K : Act → World → Prop} {w : World}

theorem run_und {t : Nat} {d : TypeDesc} (h : P.underlying t = some d) : (underlying t).run P w = .ok d w := run_underlying h w
theorem run_isAgg {t : Nat} {i : Inf} (h : InfOk P t i) : (isAgg t).run P w = .ok i.agg w := by
  obtain ⟨d, hd, e⟩ := h.agg
  simp only [isAgg, Sem.run_bind, run_und hd, Result.andThen_ok]
  rw [← e]
  cases d <;> rfl
theorem run_sizeOf {t : Nat} {i : Inf} (h : InfOk P t i) : (sizeOf t).run P w = .ok i.size w := by
  obtain ⟨j, z, hj, e, _⟩ := h.info
  simp [sizeOf, typeInfo, hj, e]
theorem run_bytes {t : Nat} {i : Inf} (h : InfOk P t i) : ∃ j, (typeInfo t).run P w = .ok j w ∧ j.bytes = i.bytes := by
  obtain ⟨j, z, hj, e, e', _⟩ := h.info
  exact ⟨j, by simp [typeInfo, hj], e'⟩
theorem run_zero {t : Nat} {i : Inf} (h : InfOk P t i) : ∃ z, (zeroValue t).run P w = .ok z w ∧ z.cells = i.zero.toArray := by
  obtain ⟨j, z, hj, e, e', hz, hc⟩ := h.info
  exact ⟨z, by simp [zeroValue, typeInfo, hj, hz], hc⟩

def setR (cs : List Value) (off : Nat) (vs : List Value) : List Value := cs.take off ++ vs ++ cs.drop (off + vs.length)

theorem cell_of {b off T : Nat} {cs : List Value} {fr : Nat × Nat} (h : w.heap[b]? = some (.cells cs.toArray T fr)) : w.cell? ⟨b, off, none⟩ = cs[off]? := by
  simp [World.cell?, h]
theorem frozen_of {b off T : Nat} {cs : List Value} {fr : Nat × Nat} (h : w.heap[b]? = some (.cells cs.toArray T fr)) (hf : fr.1 < fr.2 → cs.length ≤ fr.1) (ho : off < cs.length) : w.frozen? ⟨b, off, none⟩ = false := by
  obtain ⟨lo, hi⟩ := fr
  simp only [World.frozen?, h, Bool.and_eq_false_iff, decide_eq_false_iff_not]
  simp only at hf
  omega
theorem Holds.rowOf {r : Bool} {b T : Nat} {cs : List Value} (H : Holds ρ w (cel r b T cs :: L)) : ∃ fr : Nat × Nat, w.heap[b]? = some (.cells cs.toArray T fr) ∧ (r = false → fr.1 < fr.2 → cs.length ≤ fr.1) := by
  obtain ⟨fr, hf, H⟩ := H.cel_one
  exact ⟨fr, H.block, hf⟩
theorem Addr.add_none (b off n : Nat) : Addr.add ⟨b, off, none⟩ n = ⟨b, off + n, none⟩ := by
  unfold Addr.add; split
  · subst_vars; rfl
  · rfl

theorem run_loadCellsFrom {b off T : Nat} {cs : List Value} {fr : Nat × Nat} (hb : w.heap[b]? = some (.cells cs.toArray T fr)) :
    ∀ (n i : Nat) (acc : Array Value), off + i + n ≤ cs.length → (loadCellsFrom ⟨b, off, none⟩ i n acc).run P w = .ok (acc ++ ((cs.drop (off + i)).take n).toArray) w
  | 0, i, acc, _ => by simp [loadCellsFrom]
  | n + 1, i, acc, h => by
    have hlt : off + i < cs.length := by omega
    have e : cs[off + i]? = some cs[off + i] := List.getElem?_eq_getElem hlt
    simp only [loadCellsFrom, Addr.add_none, Sem.run_bind, Go.run_load, cell_of hb, e, Result.andThen_ok]
    rw [run_loadCellsFrom hb n (i + 1) _ (by omega)]
    congr 1
    rw [List.drop_eq_getElem_cons hlt]
    simp [Nat.add_assoc]
theorem run_loadCells {b off T n : Nat} {cs : List Value} {fr : Nat × Nat} (hb : w.heap[b]? = some (.cells cs.toArray T fr)) (h : off + n ≤ cs.length) :
    (loadCells ⟨b, off, none⟩ n).run P w = .ok ((cs.drop off).take n).toArray w := by
  unfold loadCells
  rw [run_loadCellsFrom hb n 0 #[] (by omega)]
  simp

theorem setCell_put {b off T : Nat} {cs : List Value} {v : Value} (H : Holds ρ w (cel false b T cs :: L)) :
    Holds ρ (w.setCell ⟨b, off, none⟩ v) (cel false b T (cs.set off v) :: L) := by
  obtain ⟨fr, hf, H⟩ := H.cel_one
  have hb := H.block
  refine (H.put (o' := .cells (cs.set off v).toArray T fr) rfl ?_ (fun c hc => ?_)).one_cel (by simpa using hf)
  · simp only [World.setCell, Array.getElem?_modify, if_true, hb, Option.map_some]
    simp
  · simp only [World.setCell, Array.getElem?_modify, if_neg (Ne.symm hc)]

theorem run_store1 {b off T : Nat} {cs : List Value} {v : Value} (H : Holds ρ w (cel false b T cs :: L)) (hv : v.oneCell' = true) (hlt : off < cs.length) :
    (store ⟨b, off, none⟩ v).run P w = .ok () (w.setCell ⟨b, off, none⟩ v) := by
  obtain ⟨fr, hb, hf⟩ := H.rowOf
  rw [run_store P w _ v _ hv, cell_of hb, List.getElem?_eq_getElem hlt]
  simp [frozen_of hb (hf rfl) hlt]

theorem setR_nil (cs : List Value) (off : Nat) : setR cs off [] = cs := by simp [setR]
theorem setR_cons (cs : List Value) (off : Nat) (v : Value) (vs : List Value) (h : off < cs.length) : setR (cs.set off v) (off + 1) vs = setR cs off (v :: vs) := by
  have e1 : (cs.set off v).take (off + 1) = cs.take off ++ [v] := by
    rw [List.take_succ_eq_append_getElem (by simpa using h)]
    simp [List.take_set_of_le]
  have e2 : (cs.set off v).drop (off + 1 + vs.length) = cs.drop (off + (v :: vs).length) := by
    rw [List.drop_set_of_lt (by omega)]
    congr 1
    simp; omega
  unfold setR
  rw [e1, e2]
  simp
theorem setR_length (cs : List Value) (off : Nat) (vs : List Value) (h : off + vs.length ≤ cs.length) : (setR cs off vs).length = cs.length := by
  simp [setR]; omega

theorem run_storeCells {b off T : Nat} : ∀ (vs cs : List Value) (i : Nat) (w : World), Holds ρ w (cel false b T cs :: L) → vs.all Value.oneCell' = true → off + i + vs.length ≤ cs.length →
    ∃ w', (storeCells ⟨b, off, none⟩ vs i).run P w = .ok () w' ∧ Holds ρ w' (cel false b T (setR cs (off + i) vs) :: L)
  | [], cs, i, w, H, _, _ => ⟨w, by simp [storeCells], by rw [setR_nil]; exact H⟩
  | v :: vs, cs, i, w, H, hall, hl => by
    simp only [List.all_cons, Bool.and_eq_true] at hall
    simp only [List.length_cons] at hl
    obtain ⟨w', e, H'⟩ := run_storeCells (off := off) vs (cs.set (off + i) v) (i + 1) _ (setCell_put (off := off + i) (v := v) H) hall.2 (by simp; omega)
    refine ⟨w', ?_, ?_⟩
    · have hlt : off + i < cs.length := by omega
      simp only [storeCells, Addr.add_none, Sem.run_bind, run_store1 (P := P) (off := off + i) H hall.1 hlt, Result.andThen_ok]
      exact e
    · rw [← setR_cons cs (off + i) v vs (by omega)]
      exact H'

/-- The cells of a value, as a list. -/
def cellsL : Value → List Value
  | .agg cs => cs.toList
  | v => [v]
theorem cellsL_eq (v : Value) : v.cells.toList = cellsL v := by cases v <;> rfl

section
variable {d : Nat} {dd : Option Nat} {op : Op} {ty : TypeId} {pos : String} {aft : Array Edge} {g : Option (Nat × Bool)} (tb : Tabs P)

theorem St_alloc {T : TypeId} {i : Inf} (hN : Nat.blt d N = true) (hi : tabLk tb.inf T = some i)
    (h : ∀ b, St ρ N ((d, .pointer (some ⟨b, 0, none⟩)) :: env) (cel false b T i.zero :: L) K) : St ρ N env L (Exec P Q ⟨some d, .alloc T, ty, pos, aft, g⟩ K) :=
  St_run (α := Nat) (v := fun b => .pointer (some ⟨b, 0, none⟩)) (M := fun b => cel false b T i.zero :: L) (by simpa using hN) (fun a w x y => by
    obtain ⟨z, hz, hc⟩ := run_zero (w := w) (tab_ok tb.inf_ok hi)
    refine ⟨w.heap.size, w.alloc (.cells z.cells T), ?_, ?_⟩
    · simp [execOp, Instr.alloc, hz, newVar, newRow, World.alloc_eq]
    · rw [hc]; exact (y.alloc _).one_cel (by simp)) h

/-- A box of a struct. -/
theorem St_boxA {T : TypeId} {x : Operand} {cs : List Value} (hN : Nat.blt d N = true) (hx : ev env x = some (.agg cs.toArray))
    (h : ∀ b, St ρ N ((d, .pointer (some ⟨b, 0, none⟩)) :: env) (cel false b T cs :: L) K) : St ρ N env L (Exec P Q ⟨some d, .box T x, ty, pos, aft, g⟩ K) :=
  St_run (α := Nat) (v := fun b => .pointer (some ⟨b, 0, none⟩)) (M := fun b => cel false b T cs :: L) (by simpa using hN) (fun a w z y => by
    refine ⟨w.heap.size, w.alloc (.cells cs.toArray T), ?_, (y.alloc _).one_cel (by simp)⟩
    simp [execOp, Instr.box, newVar, newRow, ev_ok z hx, Value.cells, World.alloc_eq]) h
theorem St_box1 {T : TypeId} {x : Operand} {v : Value} (hN : Nat.blt d N = true) (hx : ev env x = some v) (hv : v.oneCell' = true)
    (h : ∀ b, St ρ N ((d, .pointer (some ⟨b, 0, none⟩)) :: env) (cel false b T [v] :: L) K) : St ρ N env L (Exec P Q ⟨some d, .box T x, ty, pos, aft, g⟩ K) :=
  St_run (α := Nat) (v := fun b => .pointer (some ⟨b, 0, none⟩)) (M := fun b => cel false b T [v] :: L) (by simpa using hN) (fun a w z y => by
    have hc : v.cells = [v].toArray := by cases v <;> first | rfl | cases hv
    refine ⟨w.heap.size, w.alloc (.cells v.cells T), ?_, by rw [hc]; exact (y.alloc _).one_cel (by simp)⟩
    simp [execOp, Instr.box, newVar, newRow, ev_ok z hx, World.alloc_eq]) h

/-- One cell read. -/
theorem Rd_load {T T' b off : Nat} {r : Bool} {x : Operand} {cs : List Value} {v : Value} {i : Inf} (hx : ev env x = some (.pointer (some ⟨b, off, none⟩)))
    (hi : tabLk tb.inf T = some i) (ha : i.agg = false) (hc : Has L (cel r b T' cs) L') (hv : cs[off]? = some v) : Rd P ρ N env L ⟨dd, .load T x, ty, pos, aft, g⟩ (v) :=
  fun a w z y => by
    obtain ⟨fr, hb, hf⟩ := (y.has hc).rowOf
    simp only [execOp, Instr.loadAt, Instr.sureAddr, ev_ok z hx, loadVar, Sem.run_bind, Sem.run_pure, Result.andThen_ok, run_isAgg (tab_ok tb.inf_ok hi), ha, Bool.false_eq_true, if_false, Go.run_load,
      cell_of hb, hv]
/-- A struct read, or an array: some of a block's cells. -/
theorem Rd_loadA {T T' b off : Nat} {r : Bool} {x : Operand} {cs vs : List Value} {i : Inf} (hx : ev env x = some (.pointer (some ⟨b, off, none⟩)))
    (hi : tabLk tb.inf T = some i) (ha : i.agg = true) (hc : Has L (cel r b T' cs) L') (hl : off + i.size ≤ cs.length) (hv : (cs.drop off).take i.size = vs) : Rd P ρ N env L ⟨dd, .load T x, ty, pos, aft, g⟩ (.agg vs.toArray) :=
  fun a w z y => by
    obtain ⟨fr, hb, hf⟩ := (y.has hc).rowOf
    simp only [execOp, Instr.loadAt, Instr.sureAddr, ev_ok z hx, loadVar, Sem.run_bind, Sem.run_pure, Result.andThen_ok, run_isAgg (tab_ok tb.inf_ok hi), ha, if_true, run_sizeOf (tab_ok tb.inf_ok hi),
      run_loadCells hb hl, hv]
/-- A whole block read. -/
theorem Rd_loadW {T T' b : Nat} {r : Bool} {x : Operand} {cs : List Value} {i : Inf} (hx : ev env x = some (.pointer (some ⟨b, 0, none⟩)))
    (hi : tabLk tb.inf T = some i) (ha : i.agg = true) (hc : Has L (cel r b T' cs) L') (hl : cs.length = i.size) : Rd P ρ N env L ⟨dd, .load T x, ty, pos, aft, g⟩ (.agg cs.toArray) :=
  Rd_loadA tb hx hi ha hc (by omega) (by rw [List.drop_zero, ← hl, List.take_length])

theorem run_storeVar {T T' b off : Nat} {cs : List Value} {v : Value} {i : Inf} (hi : InfOk P T i) (H : Holds ρ w (cel false b T' cs :: L)) (hsz : (cellsL v).length = i.size)
    (hall : (cellsL v).all Value.oneCell' = true) (hl : off + (cellsL v).length ≤ cs.length) :
    ∃ w', (storeVar T ⟨b, off, none⟩ v).run P w = .ok () w' ∧ Holds ρ w' (cel false b T' (setR cs off (cellsL v)) :: L) := by
  obtain ⟨w', e, H'⟩ := run_storeCells (P := P) (off := off) (cellsL v) cs 0 w H hall (by omega)
  refine ⟨w', ?_, H'⟩
  have hs : v.cells.size = i.size := by rw [← hsz, ← cellsL_eq]; simp
  simp only [storeVar, Sem.run_bind, run_sizeOf hi, Result.andThen_ok, hs, ne_eq, not_true_eq_false, if_false, cellsL_eq]
  exact e

theorem St_skipop {M : List HP} (hr : ∀ a w, Ag N env a → Holds ρ w L → ∃ w', (execOp a.eval ⟨none, op, ty, pos, aft, g⟩).run P w = .ok .skip w' ∧ Holds ρ w' M)
    (h : St ρ N env M K) : St ρ N env L (Exec P Q ⟨none, op, ty, pos, aft, g⟩ K) := by
  intro a w x y
  obtain ⟨w', e, hw⟩ := hr a w x y
  unfold Exec Oper.wp
  rw [e]
  exact h _ _ x hw

/-- A store, of one cell or of several. -/
theorem St_storeV {T T' b off : Nat} {x y : Operand} {cs : List Value} {v : Value} {i : Inf} (hx : ev env x = some (.pointer (some ⟨b, off, none⟩))) (hy : ev env y = some v)
    (hi : tabLk tb.inf T = some i) (hsz : (cellsL v).length = i.size) (hall : (cellsL v).all Value.oneCell' = true) (hc : Has L (cel false b T' cs) L') (hl : off + (cellsL v).length ≤ cs.length)
    (h : St ρ N env (cel false b T' (setR cs off (cellsL v)) :: L') K) : St ρ N env L (Exec P Q ⟨none, .store T x y, ty, pos, aft, g⟩ K) :=
  St_skipop (fun a w z H => by
    obtain ⟨w', e, H'⟩ := run_storeVar (P := P) (tab_ok tb.inf_ok hi) (H.has hc) hsz hall hl
    exact ⟨w', by simp [execOp, Instr.storeAt, Instr.sureAddr, ev_ok z hx, ev_ok z hy, e], H'⟩) h
/-- One cell stored. -/
theorem St_store1 {T T' b off : Nat} {x y : Operand} {cs cs' : List Value} {v : Value} {i : Inf} (hx : ev env x = some (.pointer (some ⟨b, off, none⟩))) (hy : ev env y = some v)
    (hi : tabLk tb.inf T = some i) (hsz : i.size = 1) (hv : v.oneCell' = true) (hc : Has L (cel false b T' cs) L') (hl : Nat.blt off cs.length = true) (hcs : cs.set off v = cs')
    (h : St ρ N env (cel false b T' cs' :: L') K) : St ρ N env L (Exec P Q ⟨none, .store T x y, ty, pos, aft, g⟩ K) := by
  have hl' : off < cs.length := by simpa using hl
  have e : cellsL v = [v] := by cases v <;> first | rfl | cases hv
  refine St_storeV tb hx hy hi (by rw [e, hsz]; rfl) (by rw [e]; simp [hv]) hc (by rw [e]; simp only [List.length_singleton]; omega) ?_
  rw [e, ← setR_cons _ _ _ _ hl', setR_nil, hcs]
  exact h
/-- A whole block stored. -/
theorem St_storeW {T T' b : Nat} {x y : Operand} {cs vs : List Value} {i : Inf} (hx : ev env x = some (.pointer (some ⟨b, 0, none⟩))) (hy : ev env y = some (.agg vs.toArray))
    (hi : tabLk tb.inf T = some i) (hsz : vs.length = i.size) (hall : vs.all Value.oneCell' = true) (hc : Has L (cel false b T' cs) L') (hl : vs.length = cs.length)
    (h : St ρ N env (cel false b T' vs :: L') K) : St ρ N env L (Exec P Q ⟨none, .store T x y, ty, pos, aft, g⟩ K) := by
  have e : cellsL (.agg vs.toArray) = vs := rfl
  refine St_storeV tb hx hy hi (by rw [e, hsz]) (by rw [e]; exact hall) hc (by rw [e]; omega) ?_
  have : setR cs 0 vs = vs := by simp [setR, hl]
  rw [e, this]
  exact h

theorem Rd_fieldAddr {T b off i : Nat} {x : Operand} {l : List Fl} {f : Fl} (hx : ev env x = some (.pointer (some ⟨b, off, none⟩)))
    (hf : tabLk tb.fld T = some l) (hi : l[i]? = some f) (hz : Nat.blt 0 f.size = true) : Rd P ρ N env L ⟨dd, .fieldAddr T x i, ty, pos, aft, g⟩ (.pointer (some ⟨b, off + f.off, none⟩)) :=
  fun a w z _ => by
    obtain ⟨fs, hu, hm, hall⟩ := tab_ok tb.fld_ok hf
    have h1 : (fs.toList.map fun f => (f.offset, f.type))[i]? = some (f.off, f.type) := by rw [hm]; simp [hi]
    simp only [List.getElem?_map, Option.map_eq_some_iff] at h1
    obtain ⟨q, hq, e⟩ := h1
    have hq' : fs[i]? = some q := by simpa using hq
    obtain ⟨j, hj, hs⟩ := hall f (List.mem_of_getElem? hi)
    simp only [Prod.mk.injEq] at e
    have hz' : j.size ≠ 0 := by have : 0 < f.size := by simpa using hz
                                omega
    simp only [execOp, Instr.fieldAt, Sem.run_bind, run_und hu, Result.andThen_ok, hq', Instr.sureAddr, ev_ok z hx, Sem.run_pure, fieldPlace, sizeOf, typeInfo, Go.run_program, e.2, hj, hz', if_false, Addr.add_none, e.1]
theorem run_asIntOf {k : IntKind} {n : Int} : (asIntOf (.int k n)).run P w = .ok (k, n) w := rfl
/-- The place of an element of a slice. -/
theorem Rd_indexAddrS {T E b off len cap : Nat} {x y : Operand} {k : IntKind} {n : Int} {i : Inf} (hx : ev env x = some (.slice (some ⟨b, off, none⟩) len cap))
    (hy : ev env y = some (.int k n)) (hu : tabLk tb.und T = some (.slice E)) (hi : tabLk tb.inf E = some i) (h0 : 0 ≤ n ∧ n < (len : Int))
    : Rd P ρ N env L ⟨dd, .indexAddr T x y, ty, pos, aft, g⟩ (.pointer (some ⟨b, off + n.toNat * i.size, none⟩)) :=
  fun a w z _ => by
    simp only [execOp, Instr.indexAt, ev_ok z hx, ev_ok z hy, Sem.run_bind, run_asIntOf, Result.andThen_ok, run_und (tab_ok tb.und_ok hu), Sem.run_pure, if_pos h0, run_sizeOf (tab_ok tb.inf_ok hi), Addr.add_none,
      Bool.and_false]
/-- The place of an element of an array. -/
theorem Rd_indexAddrA {T E b off len : Nat} {x y : Operand} {k : IntKind} {n : Int} {i : Inf} (hx : ev env x = some (.pointer (some ⟨b, off, none⟩)))
    (hy : ev env y = some (.int k n)) (hu : tabLk tb.und T = some (.array len E)) (hi : tabLk tb.inf E = some i) (h0 : 0 ≤ n ∧ n < (len : Int))
    : Rd P ρ N env L ⟨dd, .indexAddr T x y, ty, pos, aft, g⟩ (.pointer (some ⟨b, off + n.toNat * i.size, none⟩)) :=
  fun a w z _ => by
    simp only [execOp, Instr.indexAt, ev_ok z hx, ev_ok z hy, Sem.run_bind, run_asIntOf, Result.andThen_ok, run_und (tab_ok tb.und_ok hu), Sem.run_pure, Instr.sureAddr, if_pos h0, run_sizeOf (tab_ok tb.inf_ok hi), Addr.add_none]
/-- A byte of a text. -/
theorem Rd_indexStr {T : Nat} {x y : Operand} {k : IntKind} {n : Int} {l : List UInt8} {c : UInt8} (hx : ev env x = some (str l))
    (hy : ev env y = some (.int k n)) (hu : tabLk tb.und T = some .string) (h0 : 0 ≤ n) (hc : l[n.toNat]? = some c) : Rd P ρ N env L ⟨dd, .index T x y, ty, pos, aft, g⟩ (.int .u8 c.toNat) :=
  fun a w z _ => by
    have e : (ByteArray.mk l.toArray)[n.toNat]? = some c := by
      have hlt : n.toNat < l.length := by
        rcases Nat.lt_or_ge n.toNat l.length with q | q
        · exact q
        · rw [List.getElem?_eq_none q] at hc; cases hc
      have hs : n.toNat < (ByteArray.mk l.toArray).size := by simpa [ByteArray.size] using hlt
      rw [getElem?_pos (ByteArray.mk l.toArray) n.toNat hs]
      rw [List.getElem?_eq_getElem hlt] at hc
      exact hc
    simp only [execOp, Instr.index, ev_ok z hx, ev_ok z hy, Sem.run_bind, run_asIntOf, Result.andThen_ok, run_und (tab_ok tb.und_ok hu), if_pos h0, e, Sem.run_pure]
theorem Rd_convInt {S T : Nat} {x : Operand} {k k' : IntKind} {n : Int} (hx : ev env x = some (.int k n)) (hu : tabLk tb.und S = some (.int k)) (hv : tabLk tb.und T = some (.int k'))
    : Rd P ρ N env L ⟨dd, .convert S T x, ty, pos, aft, g⟩ (.int k' (k'.wrap n)) :=
  fun a w z _ => by
    simp only [execOp, convert, ev_ok z hx, Sem.run_bind, run_und (tab_ok tb.und_ok hu), run_und (tab_ok tb.und_ok hv), Result.andThen_ok, Conv.intToInt, Sem.run_pure]
/-- A conversion that changes nothing. -/
theorem Rd_convSame {S T : Nat} {x : Operand} {k k' : IntKind} {n : Int} (hx : ev env x = some (.int k n)) (hu : tabLk tb.und S = some (.int k)) (hv : tabLk tb.und T = some (.int k'))
    (hw : k'.wrap n = n) : Rd P ρ N env L ⟨dd, .convert S T x, ty, pos, aft, g⟩ (.int k' n) :=
  by have h := Rd_convInt (ρ := ρ) (N := N) (L := L) (dd := dd) (ty := ty) (pos := pos) (aft := aft) (g := g) tb hx hu hv; rw [hw] at h; exact h

theorem run_resolveB {b : Builtin} {xs : List Operand} {tys : Array TypeId} {a : Act} {vs : List Value} (hx : xs.map a.eval = vs) :
    ∃ cst, (resolve a.eval { callee := .builtin b, args := xs.toArray, argTypes := tys } ty).run P w = .ok { target := .builtin b tys ty cst, args := vs.toArray } w := by
  have h1 : xs.toArray.map a.eval = vs.toArray := by simp [hx]
  simp only [resolve, h1]
  exact ⟨_, rfl⟩
theorem Rd_lenStr {T : Nat} {x : Operand} {l : List UInt8} (hx : ev env x = some (str l)) (hu : tabLk tb.und T = some .string)
    : Rd P ρ N env L ⟨dd, .call { callee := .builtin .len, args := [x].toArray, argTypes := [T].toArray }, ty, pos, aft, g⟩ (.int .i64 l.length) :=
  fun a w z _ => by
    obtain ⟨cst, e⟩ := run_resolveB (P := P) (w := w) (ty := ty) (b := .len) (tys := [T].toArray) (a := a) (xs := [x]) (vs := [str l]) (by simp [ev_ok z hx])
    simp only [execOp, Sem.run_bind, e, Result.andThen_ok, invoke, builtin, Builtin.len_]
    simp [run_und (tab_ok tb.und_ok hu), goInt]
    rfl
theorem Rd_lenSlice {T E : Nat} {x : Operand} {A : Option Addr} {n c : Nat} (hx : ev env x = some (.slice A n c)) (hu : tabLk tb.und T = some (.slice E))
    : Rd P ρ N env L ⟨dd, .call { callee := .builtin .len, args := [x].toArray, argTypes := [T].toArray }, ty, pos, aft, g⟩ (.int .i64 n) :=
  fun a w z _ => by
    obtain ⟨cst, e⟩ := run_resolveB (P := P) (w := w) (ty := ty) (b := .len) (tys := [T].toArray) (a := a) (xs := [x]) (vs := [.slice A n c]) (by simp [ev_ok z hx])
    simp only [execOp, Sem.run_bind, e, Result.andThen_ok, invoke, builtin, Builtin.len_]
    simp [run_und (tab_ok tb.und_ok hu), goInt]
theorem Rd_lenArr {T E : Nat} {x : Operand} {v : Value} {n : Nat} (hx : ev env x = some v) (hu : tabLk tb.und T = some (.array n E))
    : Rd P ρ N env L ⟨dd, .call { callee := .builtin .len, args := [x].toArray, argTypes := [T].toArray }, ty, pos, aft, g⟩ (.int .i64 n) :=
  fun a w z _ => by
    obtain ⟨cst, e⟩ := run_resolveB (P := P) (w := w) (ty := ty) (b := .len) (tys := [T].toArray) (a := a) (xs := [x]) (vs := [v]) (by simp [ev_ok z hx])
    simp only [execOp, Sem.run_bind, e, Result.andThen_ok, invoke, builtin, Builtin.len_]
    simp [run_und (tab_ok tb.und_ok hu), goInt]
theorem Rd_max {x y : Operand} {k k' : IntKind} {m n : Int} {tys : Array TypeId} (hx : ev env x = some (.int k m)) (hy : ev env y = some (.int k' n))
    : Rd P ρ N env L ⟨dd, .call { callee := .builtin .max, args := [x, y].toArray, argTypes := tys }, ty, pos, aft, g⟩ (.int k (if n > m then n else m)) :=
  fun a w z _ => by
    obtain ⟨cst, e⟩ := run_resolveB (P := P) (w := w) (ty := ty) (b := .max) (tys := tys) (a := a) (xs := [x, y]) (vs := [.int k m, .int k' n]) (by simp [ev_ok z hx, ev_ok z hy])
    simp only [execOp, Sem.run_bind, e, Result.andThen_ok, invoke, builtin, Builtin.max_, List.foldlM, Builtin.max2]
    simp
theorem Rd_min {x y : Operand} {k k' : IntKind} {m n : Int} {tys : Array TypeId} (hx : ev env x = some (.int k m)) (hy : ev env y = some (.int k' n))
    : Rd P ρ N env L ⟨dd, .call { callee := .builtin .min, args := [x, y].toArray, argTypes := tys }, ty, pos, aft, g⟩ (.int k (if n < m then n else m)) :=
  fun a w z _ => by
    obtain ⟨cst, e⟩ := run_resolveB (P := P) (w := w) (ty := ty) (b := .min) (tys := tys) (a := a) (xs := [x, y]) (vs := [.int k m, .int k' n]) (by simp [ev_ok z hx, ev_ok z hy])
    simp only [execOp, Sem.run_bind, e, Result.andThen_ok, invoke, builtin, Builtin.min_, List.foldlM, Builtin.min2]
    simp
/-! Calls -/
def Callable (P : Program) (f : FuncId) : Prop := ∃ fn c, P.funcs[f]? = some fn ∧ fn.body = some c ∧ (fn.name == "runtime.NumGoroutine") = false
def RP (ρ : Rst) (post : Value → List HP → Prop) (F : List HP) : Ending → World → Prop := fun e w' => ∃ v M, e = .returned v ∧ post v M ∧ Holds ρ w' (M ++ F)
structure Sp (P : Program) (f : FuncId) (vs : List Value) (pre : List HP) (post : Value → List HP → Prop) : Prop where
  callable : Callable P f
  calls : ∀ (ρ : Rst) (F : List HP) (w : World), Holds ρ w (pre ++ F) → Calls P f vs.toArray w (RP ρ post F)

theorem run_callFunc {f : FuncId} (h : Callable P f) (args : Array Value) : (callFunc f args).run P w = .ok (.enter f args) w := by
  obtain ⟨fn, c, hf, hb, hn⟩ := h
  have hn' : ¬ fn.name = "runtime.NumGoroutine" := by simpa using hn
  simp [callFunc, hf, hb, hn']
theorem St_call {f : FuncId} {xs : List Operand} {tys : Array TypeId} {vs : List Value} {pre F : List HP} {post : Value → List HP → Prop} (hN : Nat.blt d N = true) (ha : evs env xs = some vs)
    (hf : Sp P f vs pre post) (hs : Split L pre F) (h : ∀ v M, post v M → St ρ N ((d, v) :: env) (M ++ F) K) :
    St ρ N env L (Exec P Q ⟨some d, .call { callee := .value (.func f), args := xs.toArray, argTypes := tys }, ty, pos, aft, g⟩ K) := by
  intro a w x y
  have e : (execOp a.eval ⟨some d, .call { callee := .value (.func f), args := xs.toArray, argTypes := tys }, ty, pos, aft, g⟩).run P w = .ok (.enter f vs.toArray) w := by
    simp only [execOp, resolve, Act.eval, Deferred.ofValue, Sem.run_bind, Sem.run_pure, Result.andThen_ok, invoke]
    rw [run_callFunc hf.callable]
    congr 2
    simp [evs_ok x ha]
  unfold Exec Oper.wp
  rw [e]
  refine (hf.calls ρ F w (y.split hs)).mono ?_
  rintro e w' ⟨v, M, rfl, hp, H⟩
  exact h v M hp _ _ (x.put (by simpa using hN) v) H

/-- A function's contract, by its body. -/
def ini : Nat → List Value → Env
  | _, [] => []
  | n, v :: l => (n, v) :: ini (n + 1) l
theorem lk_ini : ∀ (l : List Value) (n t : Nat) (v : Value), lk (ini n l) t = some v → n ≤ t ∧ l[t - n]? = some v
  | [], n, t, v, e => by cases e
  | u :: l, n, t, v, e => by
    rw [ini, lk_cons] at e
    by_cases h : n = t
    · subst h; rw [if_pos rfl] at e; cases e; simp
    · rw [if_neg h] at e
      have := lk_ini l (n + 1) t v e
      refine ⟨by omega, ?_⟩
      have e2 : t - n = (t - (n + 1)) + 1 := by omega
      rw [e2]; simpa using this.2
theorem Sp.intro {f : FuncId} {fn : Func} {c : Code} {n : Nat} {vs : List Value} {pre : List HP} {post : Value → List HP → Prop} (hf : P.funcs[f]? = some fn) (hb : fn.body = some c) (hn : fn.ntmps = n)
    (hg : (fn.name == "runtime.NumGoroutine") = false) (hl : Nat.ble vs.length n = true)
    (h : ∀ (ρ : Rst) (F : List HP), St ρ n (ini 0 vs) (pre ++ [big F]) (c.wp P (bodyPost P fn (RP ρ post F)))) : Sp P f vs pre post :=
  ⟨⟨fn, c, hf, hb, hg⟩, fun ρ F w H => by
    refine calls_of_wp hf hb (h ρ F _ w ⟨?_, rfl, fun t v e => ?_⟩ ?_)
    · have : vs.length ≤ n := by simpa using hl
      simp [hn]; omega
    · have := (lk_ini _ _ _ _ e).2
      have hlt : t < vs.length := by
        rcases Nat.lt_or_ge t vs.length with q | q
        · exact q
        · simp [List.getElem?_eq_none q] at this
      simp only [Nat.sub_zero] at this
      rw [Array.getD_eq_getD_getElem?, Array.getElem?_append_left (by simpa using hlt)]
      simp [this]
    · exact H.mono fun _ x => big_append.2 (star_mono (fun _ a => a) (fun h b => ⟨h, E0, Cmp_E0 h, (Jn_E0 h).symm, b, rfl⟩) (big_append.1 x))⟩

theorem Sp.mono {f : FuncId} {vs : List Value} {pre : List HP} {post post' : Value → List HP → Prop} (h : Sp P f vs pre post) (hp : ∀ v M, post v M → post' v M) : Sp P f vs pre post' :=
  ⟨h.callable, fun ρ F w H => (h.calls ρ F w H).mono fun _ _ ⟨v, M, e, p, H'⟩ => ⟨v, M, e, hp v M p, H'⟩⟩

/-- The end: what is answered, and what is there. -/
theorem St_fin {fn : Func} {post : Value → List HP → Prop} {F : List HP} {v : Value} {M R : List HP} (hr : ∀ a w, Ag N env a → Holds ρ w L → (results fn a.tmps).run P w = .ok v w)
    (hp : post v M) (hs : Split L (M ++ [big F]) R) {e : Exit} (he : e = .ret ∨ e = .normal) : St ρ N env L (bodyPost P fn (RP ρ post F) e) := by
  intro a w x y
  have H : Holds ρ w (M ++ F) := (y.split hs).drops.mono fun _ z => big_append.2 (star_mono (fun _ a => a) (fun h b => by
    obtain ⟨h1, h2, c, rfl, p, q⟩ := b
    have q : h2 = E0 := q
    subst q
    rw [Jn_E0]; exact p) (big_append.1 z))
  rcases he with rfl | rfl <;> exact ⟨x.defers, v, hr a w x y, v, M, rfl, hp, H⟩
theorem St_ret0 {fn : Func} {post : Value → List HP → Prop} {F : List HP} {M R : List HP} {e : Exit} (he : e = .ret ∨ e = .normal) (hr : fn.results = #[]) (hp : post (.tuple #[]) M)
    (hs : Split L (M ++ [big F]) R) : St ρ N env L (bodyPost P fn (RP ρ post F) e) :=
  St_fin (fun a w x _ => by simp [results, hr]) hp hs he
theorem St_ret1 {fn : Func} {post : Value → List HP → Prop} {F : List HP} {v : Value} {t : Nat} {M R : List HP} {e : Exit} (he : e = .ret ∨ e = .normal) (hr : fn.results = #[.tmp t]) (hv : lk env t = some v) (hp : post v M)
    (hs : Split L (M ++ [big F]) R) : St ρ N env L (bodyPost P fn (RP ρ post F) e) :=
  St_fin (fun a w x _ => by rw [results_tmp hr, x.get _ _ hv]) hp hs he
theorem St_ret2 {fn : Func} {post : Value → List HP → Prop} {F : List HP} {v u : Value} {t s : Nat} {M R : List HP} {e : Exit} (he : e = .ret ∨ e = .normal) (hr : fn.results = #[.tmp t, .tmp s]) (hv : lk env t = some v)
    (hu : lk env s = some u) (hp : post (.tuple [v, u].toArray) M) (hs : Split L (M ++ [big F]) R) : St ρ N env L (bodyPost P fn (RP ρ post F) e) :=
  St_fin (fun a w x _ => by rw [results_tmp2 hr, x.get _ _ hv, x.get _ _ hu]) hp hs he
theorem St_ret3 {fn : Func} {post : Value → List HP → Prop} {F : List HP} {v u q : Value} {t s r : Nat} {M R : List HP} {e : Exit} (he : e = .ret ∨ e = .normal) (hr : fn.results = #[.tmp t, .tmp s, .tmp r])
    (hv : lk env t = some v) (hu : lk env s = some u) (hq : lk env r = some q) (hp : post (.tuple [v, u, q].toArray) M) (hs : Split L (M ++ [big F]) R) : St ρ N env L (bodyPost P fn (RP ρ post F) e) :=
  St_fin (fun a w x _ => by
    have h1 := x.get _ _ hv
    have h2 := x.get _ _ hu
    have h3 := x.get _ _ hq
    simp only [Array.getD_eq_getD_getElem?] at h1 h2 h3
    simp [results, hr, h1, h2, h3]) hp hs he
/-- A struct in a variable of its own is answered. -/
theorem St_retC {fn : Func} {post : Value → List HP → Prop} {F : List HP} {t T T' b : Nat} {r : Bool} {cs : List Value} {i : Inf} {M R : List HP} {e : Exit} (he : e = .ret ∨ e = .normal) (hr : fn.results = #[.cell t T])
    (hv : lk env t = some (.pointer (some ⟨b, 0, none⟩))) (hi : tabLk tb.inf T = some i) (ha : i.agg = true) (hc : Has L (cel r b T' cs) L') (hl : cs.length = i.size)
    (hp : post (.agg cs.toArray) M) (hs : Split L (M ++ [big F]) R) : St ρ N env L (bodyPost P fn (RP ρ post F) e) :=
  St_fin (fun a w x y => by
    have h1 := x.get _ _ hv
    simp only [Array.getD_eq_getD_getElem?] at h1
    have h2 : (loadCells ⟨b, 0, none⟩ i.size).run P w = .ok cs.toArray w := by
      obtain ⟨fr, hb, hf⟩ := (y.has hc).rowOf
      rw [run_loadCells hb (by omega), List.drop_zero, ← hl, List.take_length]
    simp [results, hr, h1, loadVar, asAddr, run_isAgg (tab_ok tb.inf_ok hi), ha, run_sizeOf (tab_ok tb.inf_ok hi), h2]) hp hs he
theorem St_retCT {fn : Func} {post : Value → List HP → Prop} {F : List HP} {t T T' b s : Nat} {r : Bool} {u : Value} {cs : List Value} {i : Inf} {M R : List HP} {e : Exit} (he : e = .ret ∨ e = .normal) (hr : fn.results = #[.cell t T, .tmp s])
    (hv : lk env t = some (.pointer (some ⟨b, 0, none⟩))) (hu : lk env s = some u) (hi : tabLk tb.inf T = some i) (ha : i.agg = true) (hc : Has L (cel r b T' cs) L') (hl : cs.length = i.size)
    (hp : post (.tuple [.agg cs.toArray, u].toArray) M) (hs : Split L (M ++ [big F]) R) : St ρ N env L (bodyPost P fn (RP ρ post F) e) :=
  St_fin (fun a w x y => by
    have h1 := x.get _ _ hv
    have h3 := x.get _ _ hu
    simp only [Array.getD_eq_getD_getElem?] at h1 h3
    have h2 : (loadCells ⟨b, 0, none⟩ i.size).run P w = .ok cs.toArray w := by
      obtain ⟨fr, hb, hf⟩ := (y.has hc).rowOf
      rw [run_loadCells hb (by omega), List.drop_zero, ← hl, List.take_length]
    simp [results, hr, h1, h3, loadVar, asAddr, run_isAgg (tab_ok tb.inf_ok hi), ha, run_sizeOf (tab_ok tb.inf_ok hi), h2]) hp hs he
end

/-! Control -/
section
variable {x y c : Code} {id id' : Nat}
theorem St_seq (h : St ρ N env L (x.wp P (Exit.then (y.wp P Q) Q))) : St ρ N env L ((Code.seq x y).wp P Q) := h.mono fun _ _ z => wp_seq z
theorem St_block (h : St ρ N env L (c.wp P (Exit.inBlock id Q))) : St ρ N env L ((Code.block id c).wp P Q) := h.mono fun _ _ z => wp_block z
theorem St_exit (h : St ρ N env L (Q (.exit id))) : St ρ N env L ((Code.exit id).wp P Q) := h.mono fun _ _ z => wp_exit z
theorem St_skip (h : St ρ N env L (Q .normal)) : St ρ N env L (Code.skip.wp P Q) := h.mono fun _ _ z => wp_skip z
theorem St_retc (h : St ρ N env L (Q .ret)) : St ρ N env L (Code.ret.wp P Q) := h.mono fun _ _ z => wp_ret z
theorem St_region {l : List Oper} (h : St ρ N env L (wpList P l.toArray Q l)) : St ρ N env L ((Code.region id l.toArray false).wp P Q) := h.mono fun _ _ z => wp_region_lit z
theorem St_cond {o : Operand} {t : Bool} (hc : ev env o = some (.bool t)) (h1 : t = true → St ρ N env L (x.wp P Q)) (h2 : t = false → St ρ N env L (y.wp P Q)) : St ρ N env L ((Code.cond o x y).wp P Q) :=
  fun a w z H => wp_cond_split (ev_ok z hc) (fun e => h1 e a w z H) (fun e => h2 e a w z H)
theorem St_condT {o : Operand} {t : Bool} (hc' : ev env o = some (.bool t)) (ht : t = true) (h1 : St ρ N env L (x.wp P Q)) : St ρ N env L ((Code.cond o x y).wp P Q) :=
  fun a w z H => wp_cond_true (ev_ok z (ht ▸ hc')) (h1 a w z H)
theorem St_condF {o : Operand} {t : Bool} (hc' : ev env o = some (.bool t)) (ht : t = false) (h1 : St ρ N env L (y.wp P Q)) : St ρ N env L ((Code.cond o x y).wp P Q) :=
  fun a w z H => wp_cond_false (ev_ok z (ht ▸ hc')) (h1 a w z H)
theorem St_thn (h : St ρ N env L K) : St ρ N env L (Exit.then K Q .normal) := h
theorem St_the (h : St ρ N env L (Q (.exit id))) : St ρ N env L (Exit.then K Q (.exit id)) := h
theorem St_thr (h : St ρ N env L (Q .ret)) : St ρ N env L (Exit.then K Q .ret) := h
theorem St_ibn (h : St ρ N env L (Q .normal)) : St ρ N env L (Exit.inBlock id Q .normal) := h
theorem St_ibr (h : St ρ N env L (Q .ret)) : St ρ N env L (Exit.inBlock id Q .ret) := h
theorem St_ibe (h : St ρ N env L (Q .normal)) : St ρ N env L (Exit.inBlock id Q (.exit id)) := by
  intro a w z H; show (if id = id then _ else _); rw [if_pos rfl]; exact h a w z H
theorem St_ibx (hne : Nat.beq id' id = false) (h : St ρ N env L (Q (.exit id'))) : St ρ N env L (Exit.inBlock id Q (.exit id')) := by
  intro a w z H; show (if id' = id then _ else _); rw [if_neg (by intro e; subst e; simp at hne)]; exact h a w z H

def SubE : Env → Env → Prop
  | [], _ => True
  | (t, v) :: l, env => lk env t = some v ∧ SubE l env
theorem SubE.get : ∀ {l : Env}, SubE l env → ∀ t v, lk l t = some v → lk env t = some v
  | [], _, t, v, e => by cases e
  | (s, u) :: l, h, t, v, e => by
    rw [lk_cons] at e
    by_cases hx : s = t
    · subst hx; rw [if_pos rfl] at e; cases e; exact h.1
    · rw [if_neg hx] at e; exact SubE.get h.2 t v e

/-- A state to which a walk comes. -/
def At {α : Type} (ρ : Rst) (N : Nat) (I : α → Prop) (E : α → Env) (M : α → List HP) : Act → World → Prop := fun a w => ∃ y, I y ∧ Ag N (E y) a ∧ Holds ρ w (M y)
theorem St_at {α : Type} {I : α → Prop} {E : α → Env} {M : α → List HP} {R : List HP} (y : α) (hI : I y) (he : SubE (E y) env) (hs : Split L (M y) R) : St ρ N env L (At ρ N I E M) :=
  fun a w z H => ⟨y, hI, ⟨z.size, z.defers, fun t v e => z.get t v (he.get t v e)⟩, (H.split hs).drops⟩
theorem wp_loop_g {α : Type} {Q : Exit → Act → World → Prop} (J : α → Act → World → Prop) (μ : α → Nat)
    (round : ∀ y a w, J y a w → c.wp P (Exit.then (fun a' w' => ∃ z, J z a' w' ∧ μ z < μ y) Q) a w) {y0 : α} {a : Act} {w : World} (h0 : J y0 a w) : (Code.loop c).wp P Q a w := by
  intro b k cs
  have key : ∀ n y a w, μ y = n → J y a w →
      ∃ e a' w', Q e a' w' ∧ Arrives P (lone (b.at a (.code c :: .inLoop c :: k)) cs w) b k cs e a' w' := by
    intro n
    induction n using Nat.strongRecOn with
    | _ n ih =>
      intro y a w hn hJ
      obtain ⟨e, a₁, w₁, hq, harr⟩ := round y a w hJ b (.inLoop c :: k) cs
      cases e with
      | normal =>
        obtain ⟨z, hz, hlt⟩ := hq
        obtain ⟨e₂, a₂, w₂, hq₂, harr₂⟩ := ih (μ z) (hn ▸ hlt) z a₁ w₁ rfl hz
        exact ⟨e₂, a₂, w₂, hq₂, .of_steps (Steps.trans harr (.one step_inLoop)) harr₂⟩
      | exit id => exact ⟨_, a₁, w₁, hq, .pass (x := .inLoop c) rfl (fun _ _ => .inl (by simp)) harr⟩
      | goto l => exact ⟨_, a₁, w₁, hq, .pass (x := .inLoop c) rfl (fun _ _ => .inl (by simp)) harr⟩
      | ret => exact ⟨_, a₁, w₁, hq, .pass (x := .inLoop c) rfl (fun _ _ => .inl (by simp)) harr⟩
      | panic ch => exact ⟨_, a₁, w₁, hq, .pass (x := .inLoop c) rfl (fun _ _ => .inl (by simp)) harr⟩
      | outgrown => exact ⟨_, a₁, w₁, hq, .pass (x := .inLoop c) rfl (fun _ _ => .inl (by simp)) harr⟩
  obtain ⟨e, a', w', hq, harr⟩ := key _ y0 a w rfl h0
  exact ⟨e, a', w', hq, .of_steps (.one step_loop) harr⟩
/-- A loop: what holds at each round's head, and a measure. -/
theorem St_loop {α : Type} (I : α → Prop) (E : α → Env) (M : α → List HP) (μ : α → Nat) (x0 : α) {R : List HP} (hI : I x0) (he : SubE (E x0) env) (hs : Split L (M x0) R)
    (round : ∀ z, I z → St ρ N (E z) (M z) (c.wp P (Exit.then (At ρ N (fun y => I y ∧ μ y < μ z) E M) Q))) : St ρ N env L ((Code.loop c).wp P Q) := by
  intro a w z H
  refine wp_loop_g (fun y a w => I y ∧ Ag N (E y) a ∧ Holds ρ w (M y)) μ ?_ (y0 := x0) ⟨hI, ⟨z.size, z.defers, fun t v e => z.get t v (he.get t v e)⟩, (H.split hs).drops⟩
  rintro y a w ⟨hy, ha, hh⟩
  refine wp_mono (round y hy a w ha hh) ?_
  intro e a w q
  cases e with
  | normal => obtain ⟨z, ⟨h1, h2⟩, h3, h4⟩ := q; exact ⟨z, ⟨h1, h3, h4⟩, h2⟩
  | _ => exact q
end
end Go.Proofs.YtfjnacakpeommaaGreatDoor.SL
/- Steps of a walk, more: regions that draw their order and only read; texts, arrays, built values, slices that grow. -/
namespace Go.Proofs.YtfjnacakpeommaaGreatDoor.SL
open Go
set_option autoImplicit false
set_option linter.unusedVariables false
set_option linter.unusedSimpArgs false

variable {ρ : Rst} {N : Nat} {env : Env} {L L' : List HP} {P : Program} {ops : Array Oper} {Q : Exit → Act → World → Prop} {rest : List Oper}
  {K : Act → World → Prop} {w : World} {lops : List Oper}

/-! Regions that draw their order -/
def Sq (N : Nat) (env : Env) (G : Act → Prop) : Prop := ∀ a, Ag N env a → G a
def QK (ρ : Rst) (L : List HP) (Q : Exit → Act → World → Prop) : Act → Prop := fun a => ∀ w, Holds ρ w L → Q .normal a w
def HC (ρ : Rst) (L : List HP) : World → Prop := fun w => Holds ρ w L
def QExec (P : Program) (C : World → Prop) (o : Oper) (K : Act → Prop) : Act → Prop := fun a => o.quiet P a C K
theorem St_regionQ {id : Nat} {l : List Oper} (hm : P.follows .mixedOrders = true) (hB : Region.lexB .any l.toArray = true)
    (h : Sq N env (wpQuiet P l.toArray (HC ρ L) (QK ρ L Q) l)) : St ρ N env L ((Code.region id l.toArray true).wp P Q) := by
  intro a w x y
  exact wp_region_quiet (C := HC ρ L) hm hB y.drew (h a x)
theorem Sq_nil {C : World → Prop} (h : St ρ N env L (Q .normal)) : Sq N env (wpQuiet P ops C (QK ρ L Q) []) := fun a x w y => h a w x y
variable {C : World → Prop} {G : Act → Prop}
theorem Sq_g0 {o : Oper} (hg : o.guard = none) (h : Sq N env (QExec P C o (wpQuiet P ops C G rest))) : Sq N env (wpQuiet P ops C G (o :: rest)) := by
  intro a x
  unfold wpQuiet
  rw [if_pos (by simp [Region.wanted, hg])]
  exact h a x
theorem Sq_g1 {o : Oper} {j : Nat} {b c : Bool} (hg : o.guard = some (j, b)) (hb' : gd lops env j = some (.bool c)) (hcb : c = b)
    (h : Sq N env (QExec P C o (wpQuiet P lops.toArray C G rest))) : Sq N env (wpQuiet P lops.toArray C G (o :: rest)) := by
  have hb : gd lops env j = some (.bool b) := hcb ▸ hb'
  intro a x
  unfold wpQuiet
  rw [if_pos (by simp [Region.wanted, hg, gd_ok x hb])]
  exact h a x
theorem Sq_gs {o : Oper} {j d : Nat} {b c : Bool} (hg : o.guard = some (j, b)) (hb : gd lops env j = some (.bool c)) (hcb : c = !b) (hd : o.dst = some d) (hN : Nat.blt d N = true)
    (h : Sq N ((d, undef) :: env) (wpQuiet P lops.toArray C G rest)) : Sq N env (wpQuiet P lops.toArray C G (o :: rest)) := by
  intro a x
  unfold wpQuiet
  have : ¬ c = b := by subst hcb; cases b <;> simp
  rw [if_neg (by simp [Region.wanted, hg, gd_ok x hb, this]), hd]
  exact h _ (x.put (by simpa using hN) _)
theorem Sq_gu {o : Oper} {j d : Nat} {b : Bool} (hg : o.guard = some (j, b)) (hb : gd lops env j = some undef) (hd : o.dst = some d) (hN : Nat.blt d N = true)
    (h : Sq N ((d, undef) :: env) (wpQuiet P lops.toArray C G rest)) : Sq N env (wpQuiet P lops.toArray C G (o :: rest)) := by
  intro a x
  unfold wpQuiet
  rw [if_neg (by simp [Region.wanted, hg, gd_undef x hb]), hd]
  exact h _ (x.put (by simpa using hN) _)
theorem Sq_again {d : Nat} {v v' : Value} (e : lk env d = some v) (hv : v = v') (h : Sq N ((d, v') :: env) G) : Sq N env G :=
  fun a x => h a ⟨x.size, x.defers, fun t u e' => by
    rw [lk_cons] at e'
    by_cases hx : d = t
    · subst hx; rw [if_pos rfl] at e'; cases e'; rw [← hv]; exact x.get _ _ e
    · rw [if_neg hx] at e'; exact x.get _ _ e'⟩
theorem Sq_gx {o : Oper} {j t : Nat} {b c : Bool} (hg : o.guard = some (j, b)) (ht : (lops[j]?).bind (·.dst) = some t) (hb : lk env t = some (.bool c))
    (h1 : c = true → Sq N ((t, .bool true) :: env) (wpQuiet P lops.toArray C G (o :: rest)))
    (h2 : c = false → Sq N ((t, .bool false) :: env) (wpQuiet P lops.toArray C G (o :: rest))) : Sq N env (wpQuiet P lops.toArray C G (o :: rest)) := by
  cases hc : c with
  | true => exact Sq_again hb (by rw [hc]) (h1 hc)
  | false => exact Sq_again hb (by rw [hc]) (h2 hc)
section
variable {d : Nat} {dd : Option Nat} {op : Op} {ty : TypeId} {pos : String} {aft : Array Edge} {g : Option (Nat × Bool)} (tb : Tabs P)
theorem Sq_rd {v : Value} (hN : Nat.blt d N = true) (hr : Rd P ρ N env L ⟨some d, op, ty, pos, aft, g⟩ v) (h : Sq N ((d, v) :: env) G) :
    Sq N env (QExec P (HC ρ L) ⟨some d, op, ty, pos, aft, g⟩ G) := by
  intro a x
  refine ⟨v, fun w y => ?_, h _ (x.put (by simpa using hN) v)⟩
  have e := hr a w x y
  unfold Oper.quietAt
  rw [e]
  exact ⟨rfl, rfl⟩
theorem Sq_call {f : FuncId} {xs : List Operand} {tys : Array TypeId} {vs : List Value} {pre F : List HP} {post : Value → List HP → Prop} {v0 : Value} (hN : Nat.blt d N = true) (ha : evs env xs = some vs)
    (hf : Sp P f vs pre post) (hs : Split L pre F) (hq : ∀ v M, post v M → v = v0 ∧ ∃ R, Split (M ++ F) L R) (h : Sq N ((d, v0) :: env) G) :
    Sq N env (QExec P (HC ρ L) ⟨some d, .call { callee := .value (.func f), args := xs.toArray, argTypes := tys }, ty, pos, aft, g⟩ G) := by
  intro a x
  refine ⟨v0, fun w y => ?_, h _ (x.put (by simpa using hN) v0)⟩
  have e : (execOp a.eval ⟨some d, .call { callee := .value (.func f), args := xs.toArray, argTypes := tys }, ty, pos, aft, g⟩).run P w = .ok (.enter f vs.toArray) w := by
    simp only [execOp, resolve, Act.eval, Deferred.ofValue, Sem.run_bind, Sem.run_pure, Result.andThen_ok, invoke]
    rw [run_callFunc hf.callable]
    congr 2
    simp [evs_ok x ha]
  unfold Oper.quietAt
  rw [e]
  have y : Holds ρ w L := y
  refine ⟨rfl, (hf.calls ρ F w (y.split hs)).mono ?_⟩
  rintro e w' ⟨v, M, rfl, hp, H⟩
  obtain ⟨rfl, R, hR⟩ := hq v M hp
  exact ⟨rfl, (H.split hR).drops⟩

/-! Texts -/
theorem extract_str (l : List UInt8) (a b : Nat) : (ByteArray.mk l.toArray).extract a b = ByteArray.mk ((l.drop a).take (b - a)).toArray := by
  apply ByteArray.ext
  rw [ByteArray.data_extract]
  apply Array.toList_inj.1
  simp
theorem size_str (l : List UInt8) : (ByteArray.mk l.toArray).size = l.length := rfl
theorem Rd_sliceStr {T : Nat} {x lo hi : Operand} {l : List UInt8} {k k' : IntKind} {m n : Int} (hx : ev env x = some (str l)) (hl : ev env lo = some (.int k m)) (hh : ev env hi = some (.int k' n))
    (hu : tabLk tb.und T = some .string) (hb : 0 ≤ m ∧ m ≤ n ∧ n ≤ l.length) : Rd P ρ N env L ⟨dd, .slice T x (some lo) (some hi) none, ty, pos, aft, g⟩ (str ((l.drop m.toNat).take (n.toNat - m.toNat))) :=
  fun a w z _ => by
    have h1 : 0 ≤ n ∧ n ≤ ((l.length : Nat) : Int) := by omega
    have h2 : 0 ≤ m ∧ m ≤ ((n.toNat : Nat) : Int) := by omega
    simp only [execOp, Instr.sliceAt, Option.map_some, Option.map_none, ev_ok z hx, ev_ok z hl, ev_ok z hh, Sem.run_bind, run_und (tab_ok tb.und_ok hu), Result.andThen_ok, Instr.slice, Option.isSome_none, Bool.false_eq_true, if_false,
      Instr.sliceBounds, Instr.sliceBound, run_asIntOf, Sem.run_pure, size_str, if_pos h1, if_pos h2, extract_str]
theorem Rd_sliceStrTo {T : Nat} {x hi : Operand} {l : List UInt8} {k' : IntKind} {n : Int} (hx : ev env x = some (str l)) (hh : ev env hi = some (.int k' n))
    (hu : tabLk tb.und T = some .string) (hb : 0 ≤ n ∧ n ≤ l.length) : Rd P ρ N env L ⟨dd, .slice T x none (some hi) none, ty, pos, aft, g⟩ (str (l.take n.toNat)) :=
  fun a w z _ => by
    have h1 : 0 ≤ n ∧ n ≤ ((l.length : Nat) : Int) := by omega
    simp only [execOp, Instr.sliceAt, Option.map_some, Option.map_none, ev_ok z hx, ev_ok z hh, Sem.run_bind, run_und (tab_ok tb.und_ok hu), Result.andThen_ok, Instr.slice, Option.isSome_none, Bool.false_eq_true, if_false,
      Instr.sliceBounds, Instr.sliceBound, run_asIntOf, Sem.run_pure, size_str, if_pos h1, extract_str, List.drop_zero, Nat.sub_zero]
theorem Rd_sliceStrFrom {T : Nat} {x lo : Operand} {l : List UInt8} {k : IntKind} {m : Int} (hx : ev env x = some (str l)) (hl : ev env lo = some (.int k m))
    (hu : tabLk tb.und T = some .string) (hb : 0 ≤ m ∧ m ≤ l.length) : Rd P ρ N env L ⟨dd, .slice T x (some lo) none none, ty, pos, aft, g⟩ (str (l.drop m.toNat)) :=
  fun a w z _ => by
    have h1 : 0 ≤ m ∧ m ≤ ((l.length : Nat) : Int) := by omega
    have e : (l.drop m.toNat).take (l.length - m.toNat) = l.drop m.toNat := by rw [List.take_of_length_le]; simp
    simp only [execOp, Instr.sliceAt, Option.map_some, Option.map_none, ev_ok z hx, ev_ok z hl, Sem.run_bind, run_und (tab_ok tb.und_ok hu), Result.andThen_ok, Instr.slice, Option.isSome_none, Bool.false_eq_true, if_false,
      Instr.sliceBounds, Instr.sliceBound, run_asIntOf, Sem.run_pure, size_str, if_pos h1, extract_str, e]
/-- A text as another type of texts. -/
theorem Rd_convStr {S T : Nat} {x : Operand} {l : List UInt8} (hx : ev env x = some (str l)) (hu : tabLk tb.und S = some .string) (hv : tabLk tb.und T = some .string) :
    Rd P ρ N env L ⟨dd, .convert S T x, ty, pos, aft, g⟩ (str l) :=
  fun a w z _ => by
    simp only [execOp, convert, ev_ok z hx, Sem.run_bind, run_und (tab_ok tb.und_ok hu), run_und (tab_ok tb.und_ok hv), Result.andThen_ok, Sem.run_pure]
/-- An element of an array, one cell an element. -/
theorem Rd_indexArr {T E len : Nat} {x y : Operand} {k : IntKind} {n : Int} {cs : List Value} {i : Inf} {v : Value} (hx : ev env x = some (.agg cs.toArray)) (hy : ev env y = some (.int k n))
    (hu : tabLk tb.und T = some (.array len E)) (hi : tabLk tb.inf E = some i) (ha : i.agg = false) (hs : i.size = 1) (h0 : 0 ≤ n ∧ n < (len : Int)) (hv : cs[n.toNat]? = some v) :
    Rd P ρ N env L ⟨dd, .index T x y, ty, pos, aft, g⟩ v :=
  fun a w z _ => by
    simp only [execOp, Instr.index, ev_ok z hx, ev_ok z hy, Sem.run_bind, run_asIntOf, Result.andThen_ok, run_und (tab_ok tb.und_ok hu), if_pos h0, run_sizeOf (tab_ok tb.inf_ok hi), part, run_isAgg (tab_ok tb.inf_ok hi), ha,
      Bool.false_eq_true, if_false, hs, Nat.mul_one, List.getElem?_toArray, hv, Sem.run_pure]
/-- A field of a struct, of one cell. -/
theorem Rd_field {T i : Nat} {x : Operand} {cs : List Value} {l : List Fl} {f : Fl} {j : Inf} {v : Value} (hx : ev env x = some (.agg cs.toArray)) (hf : tabLk tb.fld T = some l) (hi : l[i]? = some f)
    (hj : tabLk tb.inf f.type = some j) (ha : j.agg = false) (hv : cs[f.off]? = some v) : Rd P ρ N env L ⟨dd, .field T x i, ty, pos, aft, g⟩ v :=
  fun a w z _ => by
    obtain ⟨fs, hu, hm, hall⟩ := tab_ok tb.fld_ok hf
    have h1 : (fs.toList.map fun f => (f.offset, f.type))[i]? = some (f.off, f.type) := by rw [hm]; simp [hi]
    simp only [List.getElem?_map, Option.map_eq_some_iff] at h1
    obtain ⟨q, hq, e⟩ := h1
    have hq' : fs[i]? = some q := by simpa using hq
    simp only [Prod.mk.injEq] at e
    simp only [execOp, Instr.field, ev_ok z hx, Sem.run_bind, run_und hu, Result.andThen_ok, hq', asAgg, Sem.run_pure, part, e.1, e.2, run_isAgg (tab_ok tb.inf_ok hj), ha, Bool.false_eq_true, if_false, List.getElem?_toArray, hv]
/-- A field of several cells. -/
theorem Rd_fieldA {T i : Nat} {x : Operand} {cs vs : List Value} {l : List Fl} {f : Fl} {j : Inf} (hx : ev env x = some (.agg cs.toArray)) (hf : tabLk tb.fld T = some l) (hi : l[i]? = some f)
    (hj : tabLk tb.inf f.type = some j) (ha : j.agg = true) (hv : (cs.drop f.off).take j.size = vs) : Rd P ρ N env L ⟨dd, .field T x i, ty, pos, aft, g⟩ (.agg vs.toArray) :=
  fun a w z _ => by
    obtain ⟨fs, hu, hm, hall⟩ := tab_ok tb.fld_ok hf
    have h1 : (fs.toList.map fun f => (f.offset, f.type))[i]? = some (f.off, f.type) := by rw [hm]; simp [hi]
    simp only [List.getElem?_map, Option.map_eq_some_iff] at h1
    obtain ⟨q, hq, e⟩ := h1
    have hq' : fs[i]? = some q := by simpa using hq
    simp only [Prod.mk.injEq] at e
    have e2 : cs.toArray.extract f.off (f.off + j.size) = vs.toArray := by
      apply Array.toList_inj.1
      simp [← hv]
    simp only [execOp, Instr.field, ev_ok z hx, Sem.run_bind, run_und hu, Result.andThen_ok, hq', asAgg, Sem.run_pure, part, e.1, e.2, run_isAgg (tab_ok tb.inf_ok hj), ha, if_true, run_sizeOf (tab_ok tb.inf_ok hj), e2]

/-! Built values -/
def insL : List Value → Nat → List Value → List Value
  | cs, _, [] => cs
  | cs, off, v :: vs => insL (cs.set off v) (off + 1) vs
theorem insL_length : ∀ (vs cs : List Value) (off : Nat), (insL cs off vs).length = cs.length
  | [], _, _ => rfl
  | v :: vs, cs, off => by rw [insL, insL_length vs]; simp
theorem insL_fold : ∀ (vs : List Value) (cs : List Value) (off k : Nat),
    ((vs.zipIdx k).foldl (fun (cs : Array Value) (x : Value × Nat) => cs.setIfInBounds (off + x.2) x.1) cs.toArray) = (insL cs (off + k) vs).toArray
  | [], _, _, _ => rfl
  | v :: vs, cs, off, k => by
    rw [List.zipIdx_cons, List.foldl_cons, insL]
    have : cs.toArray.setIfInBounds (off + k) v = (cs.set (off + k) v).toArray := by simp
    simp only [this]
    rw [insL_fold vs _ off (k + 1)]
    rfl
/-- Parts laid into a zero value: places (from, size). -/
def fillL (place : Nat → Option (Nat × Nat)) : List Value → List (Nat × Value) → Option (List Value)
  | cs, [] => some cs
  | cs, (i, v) :: r => match place i with
    | none => none
    | some (off, size) => match Nat.beq (cellsL v).length size && Nat.ble (off + size) cs.length with
      | true => fillL place (insL cs off (cellsL v)) r
      | false => none
theorem fill_eq {place place' : Nat → Option (Nat × Nat)} (hp : ∀ i x, place i = some x → place' i = some x) : ∀ {ps : List (Nat × Value)} {cs out : List Value}, fillL place cs ps = some out → Instr.fill place' cs.toArray ps = some out.toArray
  | [], cs, out, h => by cases h; rfl
  | (i, v) :: r, cs, out, h => by
    unfold fillL at h
    cases e : place i with
    | none => rw [e] at h; cases h
    | some x =>
      obtain ⟨off, size⟩ := x
      rw [e] at h
      simp only at h
      cases hb : (Nat.beq (cellsL v).length size && Nat.ble (off + size) cs.length) with
      | false => rw [hb] at h; cases h
      | true =>
        rw [hb] at h
        simp only [Bool.and_eq_true, Nat.ble_eq] at hb
        have h1 : (cellsL v).length = size := Nat.eq_of_beq_eq_true hb.1
        have hs : v.cells.size = size := by rw [← h1, ← cellsL_eq]; simp
        unfold Instr.fill
        simp only [hp i _ e, hs]
        rw [if_neg (by simp; omega)]
        have e3 : v.cells = (cellsL v).toArray := by rw [← cellsL_eq]
        have e2 : v.cells.zipIdx.foldl (fun (cs : Array Value) (x : Value × Nat) => cs.setIfInBounds (off + x.2) x.1) cs.toArray = (insL cs off (cellsL v)).toArray := by
          rw [e3, ← Array.foldl_toList]
          have := insL_fold (cellsL v) cs off 0
          simpa using this
        exact (congrArg (fun c => Instr.fill place' c r) e2).trans (fill_eq hp h)
def plF (l : List Fl) (i : Nat) : Option (Nat × Nat) := match l[i]? with | some f => some (f.off, f.size) | none => none
def evp (env : Env) : List (Nat × Operand) → Option (List (Nat × Value))
  | [] => some []
  | (i, x) :: l => match ev env x with
    | none => none
    | some v => match evp env l with
      | none => none
      | some vs => some ((i, v) :: vs)
theorem evp_ok {a : Act} (h : Ag N env a) : ∀ {l : List (Nat × Operand)} {vs : List (Nat × Value)}, evp env l = some vs → l.map (fun (i, x) => (i, a.eval x)) = vs
  | [], vs, e => by cases e; rfl
  | (i, x) :: l, vs, e => by
    unfold evp at e
    cases h1 : ev env x with
    | none => rw [h1] at e; cases e
    | some v =>
      rw [h1] at e
      cases h2 : evp env l with
      | none => rw [h2] at e; cases e
      | some us =>
        rw [h2] at e; cases e
        simp [ev_ok h h1, evp_ok h h2]
theorem run_places {fs : Array Field} {l : List Fl} (hm : fs.toList.map (fun f => (f.offset, f.type)) = l.map (fun f => (f.off, f.type))) (hall : ∀ f ∈ l, ∃ j, P.info? f.type = some j ∧ j.size = f.size) :
    ((fs.mapM fun f => (do pure (f.offset, ← sizeOf f.type) : Sem (Nat × Nat)))).run P w = .ok (l.map fun f => (f.off, f.size)).toArray w := by
  rw [Array.mapM_eq_mapM_toList]
  have key : ∀ (gs : List Field) (l : List Fl), gs.map (fun f => (f.offset, f.type)) = l.map (fun f => (f.off, f.type)) → (∀ f ∈ l, ∃ j, P.info? f.type = some j ∧ j.size = f.size) →
      ((gs.mapM fun f => (do pure (f.offset, ← sizeOf f.type) : Sem (Nat × Nat)))).run P w = .ok (l.map fun f => (f.off, f.size)) w := by
    intro gs
    induction gs with
    | nil => intro l hm _; cases l with
      | nil => rfl
      | cons => simp at hm
    | cons q gs ih =>
      intro l hm hall
      cases l with
      | nil => simp at hm
      | cons f l =>
        simp only [List.map_cons, List.cons.injEq, Prod.mk.injEq] at hm
        obtain ⟨j, hj, hs⟩ := hall f (by simp)
        have hq : (sizeOf q.type).run P w = .ok f.size w := by simp [sizeOf, typeInfo, hm.1.2, hj, hs]
        rw [List.mapM_cons, Sem.run_bind, Sem.run_bind, hq, Result.andThen_ok, Sem.run_pure, Result.andThen_ok, Sem.run_bind, ih l hm.2 (fun f hf => hall f (by simp [hf])), Result.andThen_ok, Sem.run_pure, List.map_cons, hm.1.1]
  rw [Sem.run_map, key fs.toList l hm hall]
  rfl
/-- A struct built. -/
theorem Rd_build {T : Nat} {ps : List (Nat × Operand)} {l : List Fl} {i : Inf} {pv : List (Nat × Value)} {cs : List Value} (hp : evp env ps = some pv) (hf : tabLk tb.fld T = some l) (hi : tabLk tb.inf T = some i)
    (hv : fillL (plF l) i.zero pv = some cs) : Rd P ρ N env L ⟨dd, .build T ps.toArray, ty, pos, aft, g⟩ (.agg cs.toArray) :=
  fun a w z _ => by
    obtain ⟨fs, hu, hm, hall⟩ := tab_ok tb.fld_ok hf
    obtain ⟨zv, hz, hc⟩ := run_zero (w := w) (tab_ok tb.inf_ok hi)
    have e1 : (ps.toArray.map fun x => (x.1, a.eval x.2)) = pv.toArray := by
      have := evp_ok z hp
      simp only [List.map_toArray]
      exact congrArg List.toArray this
    have e2 : Instr.fill (fun x => (l.map fun f => (f.off, f.size)).toArray[x]?) i.zero.toArray pv = some cs.toArray := fill_eq (fun j x h => by
      unfold plF at h
      cases hj : l[j]? with
      | none => rw [hj] at h; cases h
      | some f => rw [hj] at h; simpa [hj] using h) hv
    simp only [execOp, Instr.build, Sem.run_bind, hz, Result.andThen_ok, run_und hu, run_places hm hall, hc]
    have e1' : (Array.map (fun x => match x with | (i, x) => (i, a.eval x)) ps.toArray) = pv.toArray := e1
    simp only [e1', e2, Sem.run_pure, Result.andThen_ok]
/-- A slice of written-out elements, of a new row. -/
theorem St_buildSlice {T E n : Nat} {ps : List (Nat × Operand)} {i : Inf} {pv : List (Nat × Value)} {cs : List Value} (hN : Nat.blt d N = true) (hp : evp env ps = some pv) (hu : tabLk tb.und T = some (.slice E)) (hi : tabLk tb.inf E = some i)
    (hn : Nat.ble (n * i.size) (2 ^ 24) = true) (hv : fillL (fun j => some (j * i.size, i.size)) ((List.replicate n i.zero).flatten) pv = some cs) (hz : i.zero.length = i.size)
    (h : ∀ b, St ρ N ((d, .slice (some ⟨b, 0, none⟩) n n) :: env) (cel false b E cs :: L) K) :
    St ρ N env L (Exec P Q ⟨some d, .buildSlice T n ps.toArray, ty, pos, aft, g⟩ K) :=
  St_run (α := Nat) (v := fun b => .slice (some ⟨b, 0, none⟩) n n) (M := fun b => cel false b E cs :: L) (by simpa using hN) (fun a w z y => by
    obtain ⟨zv, hzr, hc⟩ := run_zero (w := w) (tab_ok tb.inf_ok hi)
    have e1 : (Array.map (fun x => match x with | (i, x) => (i, a.eval x)) ps.toArray) = pv.toArray := by
      have := evp_ok z hp
      simp only [List.map_toArray]
      exact congrArg List.toArray this
    have hn' : n * i.size ≤ 2 ^ 24 := by simpa using hn
    have e0 : ∀ m, (Array.map (fun x => i.zero.toArray[x % i.zero.toArray.size]!) (Array.range (m * i.size))) = ((List.replicate m i.zero).flatten).toArray := by
      intro m
      apply Array.toList_inj.1
      apply List.ext_getElem?
      intro k
      simp only [Array.toList_map, Array.toList_range, List.getElem?_map]
      by_cases hk : k < m * i.size
      · rw [List.getElem?_range hk]
        have hpos : 0 < i.size := by rcases Nat.eq_zero_or_pos i.size with e | e
                                     · rw [e] at hk; omega
                                     · exact e
        have hlt : k % i.zero.length < i.zero.length := by rw [hz]; exact Nat.mod_lt _ hpos
        have key : ∀ m k, k < m * i.size → ((List.replicate m i.zero).flatten)[k]? = i.zero[k % i.size]? := by
          intro m
          induction m with
          | zero => intro k hk; omega
          | succ m ih =>
            intro k hk
            rw [List.replicate_succ, List.flatten_cons]
            by_cases hks : k < i.size
            · rw [List.getElem?_append_left (by omega), Nat.mod_eq_of_lt hks]
            · rw [List.getElem?_append_right (by omega), hz, ih _ (by rw [Nat.succ_mul] at hk; omega)]
              congr 1
              rw [Nat.mod_eq_sub_mod (by omega : k ≥ i.size)]
        have := key m k hk
        simp only [Option.map_some, List.size_toArray]
        rw [this, ← hz, List.getElem?_eq_getElem hlt]
        simp [hlt]
      · rw [List.getElem?_eq_none (by simpa using hk)]
        have : ((List.replicate m i.zero).flatten).length ≤ k := by simp [hz]; omega
        rw [List.getElem?_eq_none this]; rfl
    have e2 := fill_eq (place' := fun j => some (j * i.size, i.size)) (fun _ _ h => h) hv
    refine ⟨w.heap.size, w.alloc (.cells cs.toArray E), ?_, (y.alloc _).one_cel (by simp)⟩
    have q : ¬ n * i.size > 2 ^ 24 := by omega
    simp only [execOp, Instr.buildSlice, Sem.run_bind, run_und (tab_ok tb.und_ok hu), Result.andThen_ok, run_sizeOf (tab_ok tb.inf_ok hi), if_neg q, Sem.run_pure, e1]
    by_cases q0 : n * i.size = 0
    · have e3 : ((List.replicate n i.zero).flatten) = [] := by
        apply List.eq_nil_of_length_eq_zero
        simp [hz, q0]
      rw [e3] at e2
      simp only [if_pos q0, Sem.run_bind, Sem.run_pure, Result.andThen_ok]
      have e4 : (Array.map (fun x => (#[] : Array Value)[x % (#[] : Array Value).size]!) (Array.range (n * i.size))) = ([] : List Value).toArray := by simp [q0]
      rw [e4]
      simp only [e2, newRow, Sem.run_bind, Go.run_newObj, Sem.run_pure]
      rfl
    · simp only [if_neg q0, Sem.run_bind, hzr, Sem.run_pure, Result.andThen_ok, hc, e0 n, e2, newRow, Go.run_newObj]
      rfl) h
end
end Go.Proofs.YtfjnacakpeommaaGreatDoor.SL
/- Steps of a walk: slices that grow, cut and made; bytes and texts. -/
namespace Go.Proofs.YtfjnacakpeommaaGreatDoor.SL
open Go
set_option autoImplicit false
set_option linter.unusedVariables false
set_option linter.unusedSimpArgs false

variable {ρ : Rst} {N : Nat} {env : Env} {L L' : List HP} {P : Program} {ops : Array Oper} {Q : Exit → Act → World → Prop} {rest : List Oper}
  {K : Act → World → Prop} {w : World}

/-- A slice v of n elements of sz cells each, whose cells are cs; it owns its row from its head on. -/
def Sl (E sz : Nat) (v : Value) (n : Nat) (cs : List Value) : HP := fun h =>
  (v = .slice none 0 0 ∧ n = 0 ∧ cs = [] ∧ emp h) ∨
  ∃ (b cap : Nat) (pre rest : List Value), v = .slice (some ⟨b, pre.length, none⟩) n cap ∧ n ≤ cap ∧ (cap - n) * sz ≤ rest.length ∧ cs.length = n * sz ∧ cel false b E (pre ++ cs ++ rest) h
theorem Holds.sl {E sz n : Nat} {v : Value} {cs : List Value} (H : Holds ρ w (Sl E sz v n cs :: L)) :
    (v = .slice none 0 0 ∧ n = 0 ∧ cs = [] ∧ Holds ρ w L) ∨
    ∃ (b cap : Nat) (pre rest : List Value), v = .slice (some ⟨b, pre.length, none⟩) n cap ∧ n ≤ cap ∧ (cap - n) * sz ≤ rest.length ∧ cs.length = n * sz ∧ Holds ρ w (cel false b E (pre ++ cs ++ rest) :: L) := by
  obtain ⟨h, ⟨h1, h2, c, e, a, b2⟩, d⟩ := H.heap
  rcases a with ⟨e1, e2, e3, e4⟩ | ⟨b, cap, pre, rest, e1, e2, e3, e4, e5⟩
  · exact .inl ⟨e1, e2, e3, H.drop⟩
  · exact .inr ⟨b, cap, pre, rest, e1, e2, e3, e4, H.tape, H.os, H.output, h, ⟨h1, h2, c, e, e5, b2⟩, d⟩
theorem Holds.sl_nil {E sz : Nat} (H : Holds ρ w L) : Holds ρ w (Sl E sz (.slice none 0 0) 0 [] :: L) :=
  H.mono fun h x => ⟨E0, h, E0_Cmp h, rfl, .inl ⟨rfl, rfl, rfl, rfl⟩, x⟩
theorem Holds.sl_row {E sz b cap n : Nat} {pre cs rest : List Value} (H : Holds ρ w (cel false b E (pre ++ cs ++ rest) :: L)) (h1 : n ≤ cap) (h2 : (cap - n) * sz ≤ rest.length) (h3 : cs.length = n * sz) :
    Holds ρ w (Sl E sz (.slice (some ⟨b, pre.length, none⟩) n cap) n cs :: L) :=
  H.mono fun _ x => star_mono (fun _ a => .inr ⟨b, cap, pre, rest, rfl, h1, h2, h3, a⟩) (fun _ a => a) x
theorem St_slNil {E sz : Nat} {G : Act → World → Prop} (h : St ρ N env (Sl E sz (.slice none 0 0) 0 [] :: L) G) : St ρ N env L G := fun a w x y => h a w x y.sl_nil
/-- A row that has just been made, as a slice. -/
theorem St_slRow {E sz b n : Nat} {cs : List Value} {G : Act → World → Prop} (hc : Has L (cel false b E cs) L') (h3 : cs.length = n * sz)
    (h : St ρ N env (Sl E sz (.slice (some ⟨b, 0, none⟩) n n) n cs :: L') G) : St ρ N env L G := fun a w x y => by
  have H := y.has hc
  exact h a w x (Holds.sl_row (pre := []) (cs := cs) (rest := []) (by simpa using H) (Nat.le_refl _) (by simp) h3)
theorem St_slOpen {E sz n : Nat} {v : Value} {cs : List Value} {G : Act → World → Prop} (hc : Has L (Sl E sz v n cs) L')
    (h1 : v = .slice none 0 0 → n = 0 → cs = [] → St ρ N env L' G)
    (h2 : ∀ (b cap : Nat) (pre rest : List Value), v = .slice (some ⟨b, pre.length, none⟩) n cap → n ≤ cap → (cap - n) * sz ≤ rest.length → cs.length = n * sz → St ρ N env (cel false b E (pre ++ cs ++ rest) :: L') G) : St ρ N env L G := fun a w x y => by
  rcases (y.has hc).sl with ⟨e1, e2, e3, H⟩ | ⟨b, cap, pre, rest, e1, e2, e3, e4, H⟩
  · exact h1 e1 e2 e3 a w x H
  · exact h2 b cap pre rest e1 e2 e3 e4 a w x H

/-- What can be read: a slice's or a text's first cells. -/
def Src (P : Program) (ρ : Rst) (L : List HP) (sz : Nat) (x : Value) (m : Nat) (ds : List Value) : Prop :=
  ds.length = m * sz ∧ ∀ w, Holds ρ w L → (Builtin.lenOf x).run P w = .ok m w ∧ (Builtin.firstCells sz m x).run P w = .ok ds.toArray w
theorem Src.nil {sz c : Nat} : Src P ρ L sz (.slice none 0 c) 0 [] := ⟨by simp, fun w _ => ⟨rfl, rfl⟩⟩
theorem Src.row {sz b off n c T : Nat} {r : Bool} {cs ds : List Value} (hc : Has L (cel r b T cs) L') (hl : off + n * sz ≤ cs.length) (hd : (cs.drop off).take (n * sz) = ds) :
    Src P ρ L sz (.slice (some ⟨b, off, none⟩) n c) n ds :=
  ⟨by rw [← hd]; simp; omega, fun w H => by
    obtain ⟨fr, hb, hf⟩ := (H.has hc).rowOf
    exact ⟨rfl, by simp only [Builtin.firstCells]; rw [run_loadCells hb hl, hd]⟩⟩
theorem Src.sl {E sz n : Nat} {v : Value} {cs : List Value} (hc : Has L (Sl E sz v n cs) L') : (∃ w, Holds ρ w L) → Src P ρ L sz v n cs := by
  rintro ⟨w0, H0⟩
  refine ⟨?_, fun w H => ?_⟩
  · rcases (H0.has hc).sl with ⟨e1, e2, e3, H⟩ | ⟨b, cap, pre, rest, e1, e2, e3, e4, H⟩
    · rw [e2, e3]; simp
    · exact e4
  · rcases (H.has hc).sl with ⟨rfl, rfl, rfl, H⟩ | ⟨b, cap, pre, rest, rfl, e2, e3, e4, H⟩
    · exact ⟨rfl, rfl⟩
    · obtain ⟨fr, hb, hf⟩ := H.rowOf
      refine ⟨rfl, ?_⟩
      simp only [Builtin.firstCells]
      rw [run_loadCells hb (by simp; omega)]
      simp [← e4]
theorem Src.str {l : List UInt8} : Src P ρ L 1 (str l) l.length (Lib.byteCells l) :=
  ⟨by simp [Lib.byteCells], fun w _ => ⟨rfl, by
    simp only [Builtin.firstCells]
    rw [extract_str]
    simp only [List.drop_zero, Nat.sub_zero, List.take_length]
    simp [Lib.byteCells]⟩⟩

theorem byteCells_ok (l : List UInt8) : (Lib.byteCells l).all Value.oneCell' = true := by simp [Lib.byteCells, Value.oneCell']

theorem growBy_le : ∀ (r n c : Nat), c < n → Builtin.growBy n r c ≤ 2 * n + 1000
  | 0, n, c, h => by simp only [Builtin.growBy]; omega
  | r + 1, n, c, h => by
    simp only [Builtin.growBy]
    rw [if_neg (by omega)]
    by_cases q : c + (c + 768) / 4 < n
    · exact growBy_le r n _ q
    · cases r with
      | zero => simp only [Builtin.growBy]; omega
      | succ r => simp only [Builtin.growBy]; rw [if_pos (by omega)]; omega
theorem nextcap_le {n c : Nat} (h : c < n) : Builtin.nextslicecap n c ≤ 2 * n + 1000 := by
  unfold Builtin.nextslicecap
  split
  · omega
  · split
    · omega
    · exact growBy_le 4 n c h

def sliceOrStr : TypeDesc → Bool
  | .slice _ | .string => true
  | _ => false
theorem run_appendSl {E sz n m : Nat} {T U ty : TypeId} {v x : Value} {cs ds : List Value} {i : Inf} {d : TypeDesc} (hT : P.underlying T = some (.slice E)) (hU : P.underlying U = some d) (hd : sliceOrStr d = true)
    (hi : InfOk P E i) (hs : i.size = sz) (hz : i.zero.length = sz) (hbz : i.bytes ≠ 0) (H : Holds ρ w (Sl E sz v n cs :: L)) (hsrc : Src P ρ (Sl E sz v n cs :: L) sz x m ds) (hok : ds.all Value.oneCell' = true)
    (hb : (2 * (n + m) + 1000) * i.bytes ≤ 2 ^ 48) :
    ∃ v' w', (Builtin.append_ [T, U].toArray ty [v, x].toArray).run P w = .ok v' w' ∧ Holds ρ w' (Sl E sz v' (n + m) (cs ++ ds) :: L) := by
  have hcase : (∃ e, d = .slice e) ∨ d = .string := by
    cases d <;> first | exact .inl ⟨_, rfl⟩ | exact .inr rfl | cases hd
  rcases hcase with ⟨e0, rfl⟩ | rfl
  all_goals
    obtain ⟨hl, hr⟩ := hsrc
    obtain ⟨hlen, hfc⟩ := hr w H
    obtain ⟨jb, hjb, hje⟩ := run_bytes (w := w) hi
    have hzeros : ∀ (c : Nat) (zv : Value), zv.cells = i.zero.toArray → (Builtin.zeroCells zv.cells c).toList.length = c * sz := by
      intro c zv hc
      simp [Builtin.zeroCells, hc, hz]
    -- the way that makes a new row
    have grow : ∀ (base : Option Addr) (cap : Nat), v = .slice base n cap → cs.length = n * sz → ¬ n + m ≤ cap → (Builtin.firstCells sz n v).run P w = .ok cs.toArray w →
        ∃ v' w', (Builtin.append_ [T, U].toArray ty [v, x].toArray).run P w = .ok v' w' ∧ Holds ρ w' (Sl E sz v' (n + m) (cs ++ ds) :: L) := by
      rintro base cap rfl hcs hcap hold
      obtain ⟨q, hq⟩ : ∃ q, (Question.appendCap (n + m) cap E).cut (w.tape w.drawn (.appendCap (n + m) cap E)) = n + m + q := ⟨_, rfl⟩
      have hD : Holds ρ { w with drawn := w.drawn + 1 } L := (H.drop).drew
      obtain ⟨zv, hzv, hzc⟩ := run_zero (w := { w with drawn := w.drawn + 1 }) hi
      obtain ⟨jb', hjb', hje'⟩ := run_bytes (w := { w with drawn := w.drawn + 1 }) hi
      have hH2 : Holds ρ { w with drawn := w.drawn + 1 } (Sl E sz (.slice base n cap) n cs :: L) := H.drew
      obtain ⟨_, hfc2⟩ := hr _ hH2
      have hold2 : (Builtin.firstCells sz n (.slice base n cap)).run P { w with drawn := w.drawn + 1 } = .ok cs.toArray { w with drawn := w.drawn + 1 } := by
        rcases hH2.sl with ⟨e1, rfl, rfl, _⟩ | ⟨b, cap', pre, rest, e1, e2, e3, e4, H'⟩
        · cases e1; rfl
        · cases e1
          obtain ⟨fr, hb', hf⟩ := H'.rowOf
          simp only [Builtin.firstCells]
          rw [run_loadCells hb' (by simp; omega)]
          simp [← e4]
      refine ⟨.slice (some ⟨w.heap.size, 0, none⟩) (n + m) (n + m + q), World.alloc { w with drawn := w.drawn + 1 } (.cells (cs ++ ds ++ (Builtin.zeroCells zv.cells q).toList).toArray E), ?_, ?_⟩
      · have hcap2 : ¬ (Builtin.nextslicecap (n + m) cap * jb.bytes > 2 ^ 48) := by
          rw [hje]
          have h1 : Builtin.nextslicecap (n + m) cap ≤ 2 * (n + m) + 1000 := nextcap_le (by omega)
          have h2 := Nat.mul_le_mul_right i.bytes h1
          omega
        have hq0 : jb.bytes ≠ 0 := by rw [hje]; exact hbz
        have hred : ∀ (A B : Sem Value), (if ((n + m : Nat) : Int) > IntKind.i64.max ∧ (false = true ∨ jb.bytes = 0) then A else B) = B := fun A B => by
          rw [if_neg (by rintro ⟨_, h | h⟩ <;> simp_all)]
        simp only [Builtin.append_, List.getElem?_toArray, List.getElem?_cons_zero, List.getElem?_cons_succ, Sem.run_bind, run_und hT, run_und hU, Result.andThen_ok, run_sizeOf hi, hs, Sem.run_pure]
        simp only [Bool.false_eq_true, if_false, hlen, Result.andThen_ok, if_neg hcap, Sem.run_bind, hjb, Bool.not_false, if_true, hfc, false_or]
        have hgt : (((n + m : Nat) : Int) > IntKind.i64.max ∧ jb.bytes = 0) = False := by simp [hq0]
        simp only [hgt, if_false, Sem.run_bind, hjb, Result.andThen_ok, if_neg hcap2, Go.run_choose, Question.forced, Bool.false_eq_true, hq, hjb', Go.run_askRoom, hold2, hfc2, hzv, Nat.add_sub_cancel_left, newRow, Go.run_newObj, Sem.run_pure]
        have ea : cs.toArray ++ ds.toArray ++ Builtin.zeroCells zv.cells q = (cs ++ ds ++ (Builtin.zeroCells zv.cells q).toList).toArray := by simp
        rw [ea]
        rfl
      · have := (hD.alloc (.cells (cs ++ ds ++ (Builtin.zeroCells zv.cells q).toList).toArray E)).one_cel (by simp)
        exact Holds.sl_row (pre := []) (by simpa using this) (by omega) (by rw [hzeros q zv hzc]; apply Nat.le_of_eq; congr 1; omega) (by simp [hcs, hl, Nat.add_mul])
    rcases H.sl with ⟨rfl, rfl, rfl, H'⟩ | ⟨b, cap, pre, rest, rfl, e2, e3, e4, H'⟩
    · by_cases hm : m = 0
      · subst hm
        have : ds = [] := by apply List.eq_nil_of_length_eq_zero; omega
        subst this
        refine ⟨.slice none 0 0, w, ?_, H⟩
        simp only [Builtin.append_, List.getElem?_toArray, List.getElem?_cons_zero, List.getElem?_cons_succ, Sem.run_bind, run_und hT, run_und hU, Result.andThen_ok, run_sizeOf hi, hs, Sem.run_pure]
        simp [hlen, hfc]
      · exact grow none 0 rfl (by simp) (by omega) rfl
    · by_cases hcap : n + m ≤ cap
      · have hm : m * sz ≤ rest.length := Nat.le_trans (Nat.mul_le_mul_right sz (by omega)) e3
        obtain ⟨w', hst, H2⟩ := run_storeCells (P := P) (off := pre.length + n * sz) ds _ 0 w H' hok (by simp [hl, e4]; omega)
        refine ⟨.slice (some ⟨b, pre.length, none⟩) (n + m) cap, w', ?_, ?_⟩
        · simp only [Builtin.append_, List.getElem?_toArray, List.getElem?_cons_zero, List.getElem?_cons_succ, Sem.run_bind, run_und hT, run_und hU, Result.andThen_ok, run_sizeOf hi, hs, Sem.run_pure]
          simp only [Bool.false_eq_true, if_false, hlen, Result.andThen_ok, if_pos hcap, Sem.run_bind, Bool.not_false, if_true, hfc, Addr.add_none]
          simp [hst]
        · have e : setR (pre ++ cs ++ rest) (pre.length + n * sz + 0) ds = pre ++ (cs ++ ds) ++ rest.drop (m * sz) := by
            unfold setR
            have h1 : (pre ++ cs ++ rest).take (pre.length + n * sz + 0) = pre ++ cs := by
              rw [List.take_append_of_le_length (by simp [e4]), List.take_of_length_le (by simp [e4])]
            have h2 : (pre ++ cs ++ rest).drop (pre.length + n * sz + 0 + ds.length) = rest.drop (m * sz) := by
              rw [List.drop_append, List.drop_of_length_le (by simp [e4])]
              simp only [List.nil_append, List.length_append, e4, hl]
              congr 1
              omega
            rw [h1, h2]
            simp
          rw [e] at H2
          exact H2.sl_row hcap (by simp only [List.length_drop]; have : (cap - (n + m)) * sz = (cap - n) * sz - m * sz := by rw [← Nat.sub_mul]; congr 1; omega
                                   omega) (by simp [e4, hl, Nat.add_mul])
      · refine grow _ cap rfl e4 hcap ?_
        obtain ⟨fr, hb', hf⟩ := H'.rowOf
        simp only [Builtin.firstCells]
        rw [run_loadCells hb' (by simp; omega)]
        simp [← e4]

section
variable {d : Nat} {dd : Option Nat} {op : Op} {ty : TypeId} {pos : String} {aft : Array Edge} {g : Option (Nat × Bool)} (tb : Tabs P)
theorem St_append {E sz n m T U : Nat} {x y : Operand} {v u : Value} {cs ds : List Value} {i : Inf} {D : TypeDesc} (hN : Nat.blt d N = true) (hx : ev env x = some v) (hy : ev env y = some u)
    (hT : tabLk tb.und T = some (.slice E)) (hU : tabLk tb.und U = some D) (hD : sliceOrStr D = true) (hi : tabLk tb.inf E = some i) (hz : (Nat.beq i.size sz && Nat.beq i.zero.length sz && Nat.blt 0 i.bytes) = true)
    (hc : Has L (Sl E sz v n cs) L') (hsrc : (∃ w, Holds ρ w (Sl E sz v n cs :: L')) → Src P ρ (Sl E sz v n cs :: L') sz u m ds) (hok : ds.all Value.oneCell' = true) (hb : (2 * (n + m) + 1000) * i.bytes ≤ 2 ^ 48)
    (h : ∀ v', St ρ N ((d, v') :: env) (Sl E sz v' (n + m) (cs ++ ds) :: L') K) :
    St ρ N env L (Exec P Q ⟨some d, .call { callee := .builtin .append, args := [x, y].toArray, argTypes := [T, U].toArray }, ty, pos, aft, g⟩ K) :=
  St_run (α := Value) (v := fun v' => v') (M := fun v' => Sl E sz v' (n + m) (cs ++ ds) :: L') (by simpa using hN) (fun a w z H => by
    simp only [Bool.and_eq_true, Nat.blt_eq] at hz
    have H1 := H.has hc
    obtain ⟨v', w', e, H2⟩ := run_appendSl (ty := ty) (tab_ok tb.und_ok hT) (tab_ok tb.und_ok hU) hD (tab_ok tb.inf_ok hi) (Nat.eq_of_beq_eq_true hz.1.1) (Nat.eq_of_beq_eq_true hz.1.2) (by omega) H1 (hsrc ⟨w, H1⟩) hok hb
    refine ⟨v', w', ?_, H2⟩
    obtain ⟨cst, er⟩ := run_resolveB (P := P) (w := w) (ty := ty) (b := .append) (tys := [T, U].toArray) (a := a) (xs := [x, y]) (vs := [v, u]) (by simp [ev_ok z hx, ev_ok z hy])
    simp only [execOp, Sem.run_bind, er, Result.andThen_ok, invoke, builtin, e, Sem.run_pure]) h

/-! Cut slices -/
theorem Rd_sliceTo {T E n c : Nat} {x hi : Operand} {A : Option Addr} {k : IntKind} {m : Int} {i : Inf} (hx : ev env x = some (.slice A n c)) (hh : ev env hi = some (.int k m)) (hu : tabLk tb.und T = some (.slice E)) (hi' : tabLk tb.inf E = some i)
    (hb : 0 ≤ m ∧ m ≤ (c : Int)) : Rd P ρ N env L ⟨dd, .slice T x none (some hi) none, ty, pos, aft, g⟩ (.slice A m.toNat c) :=
  fun a w z _ => by
    have e : (if c = 0 then A else A.map (·.add (0 * i.size))) = A := by
      split
      · rfl
      · cases A <;> simp [Addr.add]
    simp only [execOp, Instr.sliceAt, Option.map_some, Option.map_none, ev_ok z hx, ev_ok z hh, Sem.run_bind, run_und (tab_ok tb.und_ok hu), Result.andThen_ok, Instr.slice, Instr.sliceBounds, Instr.sliceBound, run_asIntOf, Sem.run_pure, if_pos hb,
      run_sizeOf (tab_ok tb.inf_ok hi'), e, Nat.sub_zero]
theorem Rd_sliceTo3 {T E n c : Nat} {x hi mx : Operand} {A : Option Addr} {k : IntKind} {m : Int} {i : Inf} (hx : ev env x = some (.slice A n c)) (hh : ev env hi = some (.int k m)) (hm : ev env mx = some (.int k m)) (hu : tabLk tb.und T = some (.slice E)) (hi' : tabLk tb.inf E = some i)
    (hb : 0 ≤ m ∧ m ≤ (c : Int)) : Rd P ρ N env L ⟨dd, .slice T x none (some hi) (some mx), ty, pos, aft, g⟩ (.slice A m.toNat m.toNat) :=
  fun a w z _ => by
    have e : (if m.toNat = 0 then A else A.map (·.add (0 * i.size))) = A := by
      split
      · rfl
      · cases A <;> simp [Addr.add]
    have hb2 : 0 ≤ m ∧ m ≤ ((m.toNat : Nat) : Int) := by omega
    simp only [execOp, Instr.sliceAt, Option.map_some, Option.map_none, ev_ok z hx, ev_ok z hh, ev_ok z hm, Sem.run_bind, run_und (tab_ok tb.und_ok hu), Result.andThen_ok, Instr.slice, Instr.sliceBounds, Instr.sliceBound, run_asIntOf, Sem.run_pure, if_pos hb, if_pos hb2,
      run_sizeOf (tab_ok tb.inf_ok hi'), e, Nat.sub_zero]
theorem Rd_sliceFrom {T E n c : Nat} {x lo : Operand} {A : Option Addr} {k : IntKind} {m : Int} {i : Inf} (hx : ev env x = some (.slice A n c)) (hh : ev env lo = some (.int k m)) (hu : tabLk tb.und T = some (.slice E)) (hi' : tabLk tb.inf E = some i)
    (hb : 0 ≤ m ∧ m ≤ (n : Int)) : Rd P ρ N env L ⟨dd, .slice T x (some lo) none none, ty, pos, aft, g⟩ (.slice (if c = m.toNat then A else A.map (·.add (m.toNat * i.size))) (n - m.toNat) (c - m.toNat)) :=
  fun a w z _ => by
    simp only [execOp, Instr.sliceAt, Option.map_some, Option.map_none, ev_ok z hx, ev_ok z hh, Sem.run_bind, run_und (tab_ok tb.und_ok hu), Result.andThen_ok, Instr.slice, Instr.sliceBounds, Instr.sliceBound, run_asIntOf, Sem.run_pure, Option.isSome_none, Bool.false_eq_true, if_false, if_pos hb,
      run_sizeOf (tab_ok tb.inf_ok hi')]

/-! make -/
theorem St_makeSlice {T E : Nat} {x y : Operand} {n : Int} {i : Inf} (hN : Nat.blt d N = true) (hx : ev env x = some (.int .i64 n)) (hy : ev env y = some (.int .i64 n)) (hT : tabLk tb.und T = some (.slice E)) (hi : tabLk tb.inf E = some i)
    (hz : i.zero.length = i.size) (hb : 0 ≤ n ∧ i.bytes * n ≤ 2 ^ 47) (hs : i.size ≠ 0) (hn : n ≤ 9223372036854775807)
    (h : ∀ b, St ρ N ((d, .slice (some ⟨b, 0, none⟩) n.toNat n.toNat) :: env) (cel false b E ((List.replicate n.toNat i.zero).flatten) :: L) K) :
    St ρ N env L (Exec P Q ⟨some d, .makeSlice T x y, ty, pos, aft, g⟩ K) :=
  St_run (α := Nat) (v := fun b => .slice (some ⟨b, 0, none⟩) n.toNat n.toNat) (M := fun b => cel false b E ((List.replicate n.toNat i.zero).flatten) :: L) (by simpa using hN) (fun a w z H => by
    obtain ⟨zv, hzr, hc⟩ := run_zero (w := w) (tab_ok tb.inf_ok hi)
    obtain ⟨jb, hjb, hje⟩ := run_bytes (w := w) (tab_ok tb.inf_ok hi)
    have hw : IntKind.i64.wrap n = n := IntWalk.i64_in _ (by omega)
    have e0 : (Array.map (fun x => (if n.toNat * i.size = 0 then (#[] : Array Value) else i.zero.toArray)[x % (if n.toNat * i.size = 0 then (#[] : Array Value) else i.zero.toArray).size]!) (Array.range (n.toNat * i.size))) = ((List.replicate n.toNat i.zero).flatten).toArray := by
      by_cases q0 : n.toNat * i.size = 0
      · have : n.toNat = 0 := by rcases Nat.mul_eq_zero.1 q0 with h | h
                                 · exact h
                                 · exact absurd h hs
        simp [this]
      · simp only [if_neg q0]
        apply Array.toList_inj.1
        apply List.ext_getElem?
        intro k
        simp only [Array.toList_map, Array.toList_range, List.getElem?_map]
        by_cases hk : k < n.toNat * i.size
        · rw [List.getElem?_range hk]
          have hlt : k % i.zero.length < i.zero.length := by rw [hz]; exact Nat.mod_lt _ (by omega)
          have key : ∀ m k, k < m * i.size → ((List.replicate m i.zero).flatten)[k]? = i.zero[k % i.size]? := by
            intro m
            induction m with
            | zero => intro k hk; omega
            | succ m ih =>
              intro k hk
              rw [List.replicate_succ, List.flatten_cons]
              by_cases hks : k < i.size
              · rw [List.getElem?_append_left (by omega), Nat.mod_eq_of_lt hks]
              · rw [List.getElem?_append_right (by omega), hz, ih _ (by rw [Nat.succ_mul] at hk; omega)]
                congr 1
                rw [Nat.mod_eq_sub_mod (by omega : k ≥ i.size)]
          have := key n.toNat k hk
          simp only [Option.map_some, List.size_toArray]
          rw [this, ← hz, List.getElem?_eq_getElem hlt]
          simp [hlt]
        · rw [List.getElem?_eq_none (by simpa using hk)]
          have : ((List.replicate n.toNat i.zero).flatten).length ≤ k := by simp [hz]; omega
          rw [List.getElem?_eq_none this]; rfl
    refine ⟨w.heap.size, w.alloc (.cells ((List.replicate n.toNat i.zero).flatten).toArray E), ?_, (H.alloc _).one_cel (by simp)⟩
    have h1 : (decide (n < 0) || decide ((i.bytes : Int) * n > 2 ^ 48)) = false := by simp; omega
    have h2 : (decide (n < 0)) = false := by simp; omega
    have h3 : (decide ((2 : Int) ^ 48 < (i.bytes : Int) * n)) = false := by simp; omega
    simp only [execOp, Instr.makeSlice, ev_ok z hx, ev_ok z hy, Sem.run_bind, run_und (tab_ok tb.und_ok hT), Result.andThen_ok, asInt, run_asIntOf, Sem.run_pure, hjb, hje, hw, h1, h2, h3, Bool.false_or, Int.lt_irrefl, decide_false, Bool.or_self, Bool.false_eq_true, if_false,
      Go.run_askRoom, run_sizeOf (tab_ok tb.inf_ok hi), gt_iff_lt, h3, Bool.or_false, Bool.false_eq_true]
    by_cases q0 : n.toNat * i.size = 0
    · simp only [if_pos q0] at e0
      simp only [if_pos q0, Sem.run_bind, Sem.run_pure, Result.andThen_ok, e0, newRow, Go.run_newObj]
      rfl
    · simp only [if_neg q0] at e0
      simp only [if_neg q0, Sem.run_bind, hzr, Sem.run_pure, Result.andThen_ok, hc, e0, newRow, Go.run_newObj]
      rfl) h

/-! Bytes and texts -/
theorem foldl_push (l : List UInt8) : ∀ (s : ByteArray), (l.map fun c => (c.toNat : Int)).foldl (fun (r : ByteArray) n => r.push (UInt8.ofNat n.toNat)) s = ⟨s.data ++ l.toArray⟩ := by
  induction l with
  | nil => intro s; simp
  | cons c l ih =>
    intro s
    rw [List.map_cons, List.foldl_cons, ih]
    simp [ByteArray.push]
theorem Rd_convBS {S T E : Nat} {x : Operand} {v : Value} {m : Nat} {l : List UInt8} (hx : ev env x = some v) (hu : tabLk tb.und S = some (.slice E)) (he : tabLk tb.und E = some (.int .u8)) (hv : tabLk tb.und T = some .string)
    (hsl : ∃ A n c, v = .slice A n c) (hsrc : (∃ w, Holds ρ w L) → Src P ρ L 1 v m (Lib.byteCells l)) : Rd P ρ N env L ⟨dd, .convert S T x, ty, pos, aft, g⟩ (str l) :=
  fun a w z H => by
    obtain ⟨A, n, c, rfl⟩ := hsl
    obtain ⟨h1, h2⟩ := hsrc ⟨w, H⟩
    obtain ⟨h3, h4⟩ := h2 w H
    have hn : n = m := by simpa [Builtin.lenOf] using h3
    subst hn
    simp only [execOp, ev_ok z hx, Sem.run_bind]
    rw [run_convert_bytes_string w S T E A n c (tab_ok tb.und_ok hu) (tab_ok tb.und_ok he) (tab_ok tb.und_ok hv)]
    cases A with
    | none =>
      simp only [Builtin.firstCells, Sem.run_pure, Result.ok.injEq, and_true] at h4
      have hl : l = [] := by
        have := congrArg Array.size h4
        simp [Lib.byteCells] at this
        exact List.eq_nil_of_length_eq_zero this.symm
      subst hl
      simp only [Conv.bytesToString, Sem.run_pure, Result.andThen_ok]
      rfl
    | some A =>
      simp only [Builtin.firstCells, Nat.mul_one] at h4
      have h5 : (loadCells A n).run P w = .ok ((l.map fun c => (c.toNat : Int)).map (Value.int .u8)).toArray w := by
        rw [h4]; simp [Lib.byteCells]
      rw [run_bytesToString w A n c _ h5, foldl_push]
      simp only [Result.andThen_ok, Sem.run_pure]
      simp
end
end Go.Proofs.YtfjnacakpeommaaGreatDoor.SL
/- Regions that draw their order, with operations that write or call: the quiet ones first, the others in whatever order their edges allow. -/
namespace Go.Proofs.YtfjnacakpeommaaGreatDoor.SL
open Go
set_option autoImplicit false
set_option linter.unusedVariables false
set_option linter.unusedSimpArgs false

/-- Whatever order; at each step the world is of the class (which may hang on what has been done). -/
def Wa (P : Program) (md : Region.Mode) (ops : Array Oper) (C : Array Bool → World → Prop) (Q : Exit → Act → World → Prop) : Nat → Array Bool → Act → World → Prop
  | 0, listed, a, w => C listed w ∧ Region.ready md ops listed = [] ∧ Q .normal a w
  | fuel + 1, listed, a, w => C listed w ∧ (Region.ready md ops listed = [] → Q .normal a w) ∧
    ∀ i ∈ Region.ready md ops listed, wpOp P ops Q i (Wa P md ops C Q fuel (listed.setIfInBounds i true)) a w

section
variable {P : Program} {ops : Array Oper} {md : Region.Mode} {C : Array Bool → World → Prop} {Q : Exit → Act → World → Prop}
theorem Wa.any : ∀ (fuel : Nat) (listed : Array Bool) (a : Act) (w : World), Wa P md ops C Q fuel listed a w → wpAny P md ops Q fuel listed a w
  | 0, _, _, _, h => ⟨h.2.1, h.2.2⟩
  | fuel + 1, _, _, _, h => ⟨h.2.1, fun i hi => wpOp_mono (fun a w => Wa.any fuel _ a w) (h.2.2 i hi)⟩
theorem Wa.cls : ∀ {fuel : Nat} {listed : Array Bool} {a : Act} {w : World}, Wa P md ops C Q fuel listed a w → C listed w
  | 0, _, _, _, h => h.1
  | _ + 1, _, _, _, h => h.1

/-- The class: as long as the operation k is not done, H holds of the world. -/
def CK (k : Nat) (H : World → Prop) : Array Bool → World → Prop := fun listed w => listed.getD k false = true ∨ H w
/-- The operation k waits for i (or there is none of that number). -/
def waits (md : Region.Mode) (ops : Array Oper) (k i : Nat) : Bool := match ops[k]? with
  | some o => o.after.any fun e => Region.binds md e && e.on == i
  | none => true
/-- .. or waits for one that waits for it. -/
def reach (md : Region.Mode) (ops : Array Oper) : Nat → Nat → Nat → Bool
  | 0, _, _ => false
  | n + 1, m, i => match ops[m]? with
    | some o => o.after.any fun e => Region.binds md e && (e.on == i || reach md ops n e.on i)
    | none => false
def waitsT (md : Region.Mode) (ops : Array Oper) (k i : Nat) : Bool := waits md ops k i || reach md ops ops.size k i
/-- What is listed waits for nothing that is not. -/
def closedB (md : Region.Mode) (ops : Array Oper) (listed : Array Bool) : Bool :=
  (List.range ops.size).all fun j => !(listed.getD j false) || match ops[j]? with
    | some o => o.after.all fun e => !(Region.binds md e) || listed.getD e.on false
    | none => true
def Closed (md : Region.Mode) (ops : Array Oper) (listed : Array Bool) : Prop :=
  ∀ j o, ops[j]? = some o → listed.getD j false = true → ∀ e ∈ o.after, Region.binds md e = true → listed.getD e.on false = true
theorem Closed.of {listed : Array Bool} (h : closedB md ops listed = true) : Closed md ops listed := by
  intro j o ho hj e he hb
  have hlt : j < ops.size := (Array.getElem?_eq_some_iff.1 ho).1
  have := List.all_eq_true.1 h j (List.mem_range.2 hlt)
  simp only [hj, ho, Bool.not_true, Bool.false_or] at this
  have := Array.all_eq_true_iff_forall_mem.1 this e he
  simpa [hb] using this
theorem Closed.reach {listed : Array Bool} (hc : Closed md ops listed) {i : Nat} : ∀ (n m : Nat), SL.reach md ops n m i = true → listed.getD m false = true → listed.getD i false = true
  | 0, _, h, _ => by cases h
  | n + 1, m, h, hm => by
    unfold SL.reach at h
    cases ho : ops[m]? with
    | none => rw [ho] at h; cases h
    | some o =>
      rw [ho] at h
      obtain ⟨e, he, hb⟩ := Array.any_eq_true'.1 h
      simp only [Bool.and_eq_true, Bool.or_eq_true, beq_iff_eq] at hb
      have h1 := hc m o ho hm e he hb.1
      rcases hb.2 with h2 | h2
      · rw [← h2]; exact h1
      · exact Closed.reach hc n e.on h2 h1
theorem Closed.put {listed : Array Bool} (hc : Closed md ops listed) {j : Nat} (hj : j ∈ Region.ready md ops listed) : Closed md ops (listed.setIfInBounds j true) := by
  obtain ⟨_, oj, hoj, hall⟩ := mem_ready.1 hj
  intro m o ho hm e he hb
  refine getD_set_true ?_
  by_cases hmj : m = j
  · subst hmj
    rw [hoj] at ho
    cases ho
    exact hall e he hb
  · rw [getD_set_ne false (Ne.symm hmj)] at hm
    exact hc m o ho hm e he hb
/-- In state a the operation o yields v, in every world of which H holds. -/
def YC (P : Program) (ops : Array Oper) (H : World → Prop) (o : Oper) (v : Value) (a : Act) : Prop :=
  (Region.wanted o (yielded ops a.tmps) = true ∧ ∀ w, H w → (execOp a.eval o).run P w = .ok (.value v) w) ∨
  (Region.wanted o (yielded ops a.tmps) = false ∧ v = undef)
theorem YC.wpOp {H : World → Prop} {i : Nat} {o : Oper} {v : Value} {a : Act} (hi : ops[i]? = some o) (hy : YC P ops H o v a) {K : Act → World → Prop} {w : World} (hC : H w)
    (h : K (a.put o.dst v) w) : Go.wpOp P ops Q i K a w := by
  unfold Go.wpOp
  simp only [hi]
  rcases hy with ⟨hw, hv⟩ | ⟨hw, rfl⟩
  · simp only [hw, if_true, Oper.wp, hv w hC, Oper.upon]; exact .inl h
  · simp only [hw, Bool.false_eq_true, if_false]; exact h
theorem YC.of_same {H : World → Prop} {o : Oper} {v : Value} {a a' : Act} (hy : YC P ops H o v a) (he : execOp a'.eval o = execOp a.eval o)
    (hw : Region.wanted o (yielded ops a'.tmps) = Region.wanted o (yielded ops a.tmps)) : YC P ops H o v a' := by
  unfold YC at *
  rw [he, hw]
  exact hy
theorem wpOp_putC {H : World → Prop} {j : Nat} {oi oj : Oper} {v : Value} (hj : ops[j]? = some oj) (hap : oi.apart ops oj = true)
    (hsi : ∀ cs b, oi.op ≠ .select cs b) (hsj : ∀ cs b, oj.op ≠ .select cs b)
    (hQ : ∀ c a w, Q (.panic c) (a.put oi.dst v) w → Q (.panic c) a w) {K : Act → World → Prop} {a : Act} {w : World}
    (hy : YC P ops H oi v a) (h : wpOp P ops Q j K (a.put oi.dst v) w) :
    wpOp P ops Q j (fun a' w' => YC P ops H oi v a' ∧ K (a'.put oi.dst v) w') a w := by
  obtain ⟨h1, h2, h3⟩ := Oper.apart_spec hap
  have keep : ∀ (a : Act), YC P ops H oi v a → ∀ u, YC P ops H oi v (a.put oj.dst u) := fun a hy u =>
    hy.of_same (execOp_put oi hsi a oj.dst u h3) (wanted_put oi a oj.dst u h3)
  have keepD : ∀ d, YC P ops H oi v { a with defers := d :: a.defers } := fun d => hy.of_same rfl rfl
  unfold wpOp at *
  simp only [hj] at *
  rw [wanted_put oj a oi.dst v h1] at h
  split
  · rename_i hw
    simp only [hw, if_true] at h
    rcases h with h | ⟨hasks, hlets⟩
    case inr => exact .inr ⟨by unfold Oper.asks at *; rw [execOp_put oj hsj a oi.dst v h1] at hasks; exact hasks, hlets⟩
    refine .inl ?_
    unfold Oper.wp at *
    rw [execOp_put oj hsj a oi.dst v h1] at h
    generalize (execOp a.eval oj).run P w = r at *
    cases r with
    | ok n w' =>
      cases n <;> simp only [Oper.upon] at h ⊢
      case value u => exact ⟨keep a hy u, by rw [← Act.put_comm a v u h2]; exact h⟩
      case skip => exact ⟨keep a hy _, by rw [← Act.put_comm a v undef h2]; exact h⟩
      case defer d =>
        refine ⟨keep _ (keepD d) _, ?_⟩
        rw [← Act.put_comm _ v undef h2, ← Act.put_defers]
        exact h
      case enter f args =>
        refine Calls.mono h fun e w'' he => ?_
        cases e with
        | returned u => exact ⟨keep a hy u, by rw [← Act.put_comm a v u h2]; exact he⟩
        | panicked c => exact hQ _ _ _ he
        | outgrown => exact he
      case row row args => exact Rows.mono h fun u w'' he => ⟨keep a hy u, by rw [← Act.put_comm a v u h2]; exact he⟩
    | halt x w' =>
      cases x <;> simp only [Oper.upon] at h ⊢
      case panic u => exact hQ _ _ _ h
  · rename_i hw
    simp only [hw] at h
    exact ⟨keep a hy _, by rw [← Act.put_comm a v undef h2]; exact h⟩
theorem Wa.first {H : World → Prop} {i k : Nat} {oi : Oper} {v : Value} (hi : ops[i]? = some oi) (hsel : ∀ (j : Nat) (o : Oper) cs b, ops[j]? = some o → o.op ≠ .select cs b)
    (hQ : ∀ c a w, Q (.panic c) (a.put oi.dst v) w → Q (.panic c) a w) (hki : waitsT md ops k i = true) (hne : k ≠ i) :
    ∀ (fuel : Nat) (listed : Array Bool) (a : Act) (w : World), Closed md ops listed → listed.getD k false = false →
      (∀ j oj, ops[j]? = some oj → j ≠ i → listed.getD j true = false → (∀ e ∈ oj.after, Region.binds md e = true → e.on ≠ i) → oi.apart ops oj = true) →
      i ∈ Region.ready md ops listed → YC P ops H oi v a →
      Wa P md ops (CK k H) Q fuel (listed.setIfInBounds i true) (a.put oi.dst v) w → Wa P md ops (CK k H) Q (fuel + 1) listed a w := by
  intro fuel
  induction fuel with
  | zero =>
    intro listed a w hcl hku _ hr hy W
    have hH : H w := W.cls.resolve_left (by rw [getD_set_ne false (Ne.symm hne), hku]; simp)
    refine ⟨.inr hH, fun h => (by rw [h] at hr; cases hr), fun j hj => ?_⟩
    by_cases hji : j = i
    · subst hji; exact hy.wpOp hi hH W
    · have := ready_mono hj hji
      rw [W.2.1] at this
      cases this
  | succ fuel ih =>
    intro listed a w hcl hku hfree hr hy W
    have hH : H w := W.cls.resolve_left (by rw [getD_set_ne false (Ne.symm hne), hku]; simp)
    have hun := (mem_ready.1 hr).1
    refine ⟨.inr hH, fun h => (by rw [h] at hr; cases hr), fun j hj => ?_⟩
    by_cases hji : j = i
    · subst hji; exact hy.wpOp hi hH W
    · have h1 := W.2.2 j (ready_mono hj hji)
      obtain ⟨hjun, oj, hoj, hall⟩ := mem_ready.1 hj
      have hnot : ∀ e ∈ oj.after, Region.binds md e = true → e.on ≠ i := fun e he hb heq => by
        have h1 := hall e he hb
        rw [heq] at h1
        rcases Nat.lt_or_ge i listed.size with h' | h'
        · simp [h'] at hun h1; rw [hun] at h1; cases h1
        · simp [Array.getElem?_eq_none h'] at h1
      have hjk : j ≠ k := fun e => by
        subst e
        unfold waitsT at hki
        rw [Bool.or_eq_true] at hki
        rcases hki with hki | hki
        · unfold waits at hki
          rw [hoj] at hki
          obtain ⟨e, he, hb⟩ := Array.any_eq_true'.1 hki
          simp only [Bool.and_eq_true, beq_iff_eq] at hb
          exact hnot e he hb.1 hb.2
        · have hsz : ∃ n, ops.size = n + 1 := ⟨ops.size - 1, by have := (Array.getElem?_eq_some_iff.1 hoj).1; omega⟩
          obtain ⟨n, hn⟩ := hsz
          rw [hn] at hki
          unfold reach at hki
          rw [hoj] at hki
          obtain ⟨e, he, hb⟩ := Array.any_eq_true'.1 hki
          simp only [Bool.and_eq_true, Bool.or_eq_true, beq_iff_eq] at hb
          rcases hb.2 with h5 | h5
          · exact hnot e he hb.1 h5
          · have h6 := hcl.reach n e.on h5 (hall e he hb.1)
            rcases Nat.lt_or_ge i listed.size with h' | h'
            · simp [h'] at hun h6; rw [hun] at h6; cases h6
            · simp [Array.getElem?_eq_none h'] at h6
      have h2 := wpOp_putC hoj (hfree j oj hoj hji hjun hnot) (fun cs b => hsel i oi cs b hi) (fun cs b => hsel j oj cs b hoj) hQ hy h1
      have hfree' : ∀ k ok, ops[k]? = some ok → k ≠ i → (listed.setIfInBounds j true).getD k true = false →
          (∀ e ∈ ok.after, Region.binds md e = true → e.on ≠ i) → oi.apart ops ok = true := fun k ok hk hki hun hno => by
        refine hfree k ok hk hki ?_ hno
        by_cases hjk : j = k
        · subst hjk; exact hjun
        · rw [getD_set_ne true hjk] at hun; exact hun
      refine wpOp_mono (fun a' w' h3 => ih (listed.setIfInBounds j true) a' w' (hcl.put hj) (by rw [getD_set_ne false hjk]; exact hku) hfree' (ready_mono hr (Ne.symm hji)) h3.1 ?_) h2
      rw [Array.setIfInBounds_comm _ _ hji]
      exact h3.2
end

variable {ρ : Rst} {N : Nat} {env : Env} {L L' : List HP} {P : Program} {Q : Exit → Act → World → Prop} {K : Act → World → Prop} {lops : List Oper}
/-- The order is drawn. k: the operation behind which L0 need no more hold (a number too great: none). -/
theorem St_regionA {id : Nat} (k : Nat) (L0 : List HP) (hm : P.follows .mixedOrders = true) (h : St ρ N env L (Wa P .any lops.toArray (CK k (HC ρ L0)) Q lops.length (List.replicate lops.length false).toArray)) :
    St ρ N env L ((Code.region id lops.toArray true).wp P Q) := by
  intro a w x y
  refine wp_region_any hm ?_
  have := Wa.any _ _ _ _ (h a _ x y.drew)
  simpa using this
section
variable {d : Nat} {dd : Option Nat} {op : Op} {ty : TypeId} {pos : String} {aft : Array Edge} {g : Option (Nat × Bool)} {fuel k : Nat} {L0 R : List HP} {listed : Array Bool}
/-- A panic's end looks at no slot. -/
def PanicOk (Q : Exit → Act → World → Prop) : Prop := ∀ c a a' w, a.defers = a'.defers → Q (.panic c) a w → Q (.panic c) a' w
theorem PanicOk.body {fn : Func} {R : Ending → World → Prop} : PanicOk (bodyPost P fn R) := fun c a a' w e h => ⟨e ▸ h.1, h.2⟩
theorem PanicOk.then {K : Act → World → Prop} (h : PanicOk Q) : PanicOk (Exit.then K Q) := h
theorem PanicOk.block {id : Nat} (h : PanicOk Q) : PanicOk (Exit.inBlock id Q) := h
/-- A quiet operation may be taken first. -/
theorem Sa_take {v : Value} (i : Nat) (hi : lops[i]? = some ⟨some d, op, ty, pos, aft, none⟩) (hc : (Region.noSelect lops.toArray && Region.free .any lops.toArray listed i && (Region.ready .any lops.toArray listed).contains i &&
      waitsT .any lops.toArray k i && !(Nat.beq k i) && !(listed.getD k false) && closedB .any lops.toArray listed) = true)
    (hQ : PanicOk Q) (hN : Nat.blt d N = true)
    (hy : Rd P ρ N env L0 ⟨some d, op, ty, pos, aft, none⟩ v)
    (h : St ρ N ((d, v) :: env) L (Wa P .any lops.toArray (CK k (HC ρ L0)) Q fuel (listed.setIfInBounds i true))) :
    St ρ N env L (Wa P .any lops.toArray (CK k (HC ρ L0)) Q (fuel + 1) listed) := by
  simp only [Bool.and_eq_true, Bool.not_eq_true'] at hc
  obtain ⟨⟨⟨⟨⟨⟨h1, h2⟩, h3⟩, h4⟩, h5⟩, h6⟩, h7⟩ := hc
  intro a w x y
  have hi' : lops.toArray[i]? = some ⟨some d, op, ty, pos, aft, none⟩ := by simpa using hi
  refine Wa.first (H := HC ρ L0) (v := v) hi' (Region.noSelect_spec h1) (fun c a w h => hQ c (a.put (some d) v) a w rfl h) h4 (by intro e; subst e; simp at h5) fuel listed a w (Closed.of h7) h6 (Region.free_spec hi' h2) (by simpa using h3) (.inl ⟨rfl, fun w hw => hy a w x hw⟩) ?_
  exact h _ w (x.put (by simpa using hN) v) y
/-- All that may come up now. -/
theorem Sa_all {rs : List Nat} (hr : Region.ready .any lops.toArray listed = rs) (hne : rs.isEmpty = false) (hs : listed.getD k false = true ∨ Split L L0 R)
    (h : ∀ i, i ∈ rs → St ρ N env L (wpOp P lops.toArray Q i (Wa P .any lops.toArray (CK k (HC ρ L0)) Q fuel (listed.setIfInBounds i true)))) :
    St ρ N env L (Wa P .any lops.toArray (CK k (HC ρ L0)) Q (fuel + 1) listed) := by
  intro a w x y
  refine ⟨?_, fun h0 => ?_, fun i hi => h i (hr ▸ hi) a w x y⟩
  · rcases hs with hs | hs
    · exact .inl hs
    · exact .inr (y.split hs).drops
  · rw [hr] at h0; rw [h0] at hne; cases hne
theorem Sa_one {i : Nat} (hr : Region.ready .any lops.toArray listed = [i]) (hs : listed.getD k false = true ∨ Split L L0 R)
    (h : St ρ N env L (wpOp P lops.toArray Q i (Wa P .any lops.toArray (CK k (HC ρ L0)) Q fuel (listed.setIfInBounds i true)))) :
    St ρ N env L (Wa P .any lops.toArray (CK k (HC ρ L0)) Q (fuel + 1) listed) :=
  Sa_all hr rfl hs fun j hj => by
    have : j = i := by simpa using hj
    subst this; exact h
theorem Sa_op {i : Nat} {o : Oper} {K : Act → World → Prop} (hi : lops[i]? = some o) (hg : o.guard = none) (h : St ρ N env L (Exec P Q o K)) : St ρ N env L (wpOp P lops.toArray Q i K) := by
  intro a w x y
  unfold wpOp
  have hi' : lops.toArray[i]? = some o := by simpa using hi
  rw [hi']
  simp only [Region.wanted, hg, if_true]
  exact .inl (h a w x y)
theorem Sa_done (hr : Region.ready .any lops.toArray listed = []) (hs : listed.getD k false = true ∨ Split L L0 R) (h : St ρ N env L (Q .normal)) :
    St ρ N env L (Wa P .any lops.toArray (CK k (HC ρ L0)) Q 0 listed) := by
  intro a w x y
  refine ⟨?_, hr, h a w x y⟩
  rcases hs with hs | hs
  · exact .inl hs
  · exact .inr (y.split hs).drops
end
end Go.Proofs.YtfjnacakpeommaaGreatDoor.SL
/- Steps of a walk: bits of whole numbers from 0 on; rewriting what is known. -/
namespace Go.Proofs.YtfjnacakpeommaaGreatDoor.SL
open Go
set_option autoImplicit false
set_option linter.unusedVariables false
set_option linter.unusedSimpArgs false
abbrev nat (k : IntKind) (n : Nat) : Value := .int k (n : Int)
variable {ρ : Rst} {N : Nat} {env : Env} {L L' : List HP} {P : Program} {ops : Array Oper} {Q : Exit → Act → World → Prop} {rest : List Oper}
  {K : Act → World → Prop} {w : World} {G : Act → World → Prop}
theorem St_cel {r : Bool} {b T : Nat} {cs cs' : List Value} (hc : Has L (cel r b T cs) L') (e : cs = cs') (h : St ρ N env (cel r b T cs' :: L') G) : St ρ N env L G := by
  subst e; exact St_pull hc h
theorem St_slEq {E sz n n' : Nat} {v : Value} {cs cs' : List Value} (hc : Has L (Sl E sz v n cs) L') (e : cs = cs') (en : n = n') (h : St ρ N env (Sl E sz v n' cs' :: L') G) : St ρ N env L G := by
  subst e; subst en; exact St_pull hc h
/-- A slot's value is spelled otherwise. -/
theorem St_val {t : Nat} {v v' : Value} (e : lk env t = some v) (hv : v = v') (h : St ρ N ((t, v') :: env) L G) : St ρ N env L G := St.again e hv h

/-- Fewer slots and chunks are kept. -/
theorem St_keep (env' : Env) (M : List HP) {R : List HP} (he : SubE env' env) (hs : Split L M R) (h : St ρ N env' M G) : St ρ N env L G := St.weak h he.get hs
def ubits : IntKind → Bool
  | .u8 | .u16 | .u32 | .u64 => true
  | _ => false
theorem wrap_nat {k : IntKind} (hu : ubits k = true) (n : Nat) : k.wrap (n : Int) = ((n % 2 ^ k.bits : Nat) : Int) := by
  cases k <;> first | (cases hu; done) | (simp [IntKind.wrap, IntKind.bits, IntKind.signed])
theorem ofInt_nat {k : IntKind} (n : Nat) (h : n < 2 ^ k.bits) : (BitVec.ofInt k.bits (n : Int)).toNat = n := by
  simp [BitVec.toNat_ofInt, Nat.mod_eq_of_lt h]
section
variable {d : Nat} {dd : Option Nat} {op : Op} {ty : TypeId} {pos : String} {aft : Array Edge} {g : Option (Nat × Bool)} {T U : TypeId} {x y : Operand} {k k' : IntKind} {m n : Nat}
theorem Rd_natOr (hx : ev env x = some (nat k m)) (hy : ev env y = some (nat k n)) (hu : ubits k = true) (hm : m < 2 ^ k.bits) (hn : n < 2 ^ k.bits) : Rd P ρ N env L ⟨dd, .binOp .or T x y U, ty, pos, aft, g⟩ (nat k (m ||| n)) :=
  Rd_intOp hx hy (by
    simp only [intOp]
    rw [BitVec.toNat_or, ofInt_nat m hm, ofInt_nat n hn, wrap_nat hu, Nat.mod_eq_of_lt (Nat.or_lt_two_pow hm hn)])
theorem Rd_natAnd (hx : ev env x = some (nat k m)) (hy : ev env y = some (nat k n)) (hu : ubits k = true) (hm : m < 2 ^ k.bits) (hn : n < 2 ^ k.bits) : Rd P ρ N env L ⟨dd, .binOp .and T x y U, ty, pos, aft, g⟩ (nat k (m &&& n)) :=
  Rd_intOp hx hy (by
    simp only [intOp]
    rw [BitVec.toNat_and, ofInt_nat m hm, ofInt_nat n hn, wrap_nat hu, Nat.mod_eq_of_lt (Nat.and_lt_two_pow _ hn)])
theorem Rd_natXor (hx : ev env x = some (nat k m)) (hy : ev env y = some (nat k n)) (hu : ubits k = true) (hm : m < 2 ^ k.bits) (hn : n < 2 ^ k.bits) : Rd P ρ N env L ⟨dd, .binOp .xor T x y U, ty, pos, aft, g⟩ (nat k (m ^^^ n)) :=
  Rd_intOp hx hy (by
    simp only [intOp]
    rw [BitVec.toNat_xor, ofInt_nat m hm, ofInt_nat n hn, wrap_nat hu, Nat.mod_eq_of_lt (Nat.xor_lt_two_pow hm hn)])
theorem Rd_natShl {s : Int} (hx : ev env x = some (nat k m)) (hy : ev env y = some (.int k' s)) (hu : ubits k = true) (hs : 0 ≤ s ∧ s < k.bits) : Rd P ρ N env L ⟨dd, .binOp .shl T x y U, ty, pos, aft, g⟩ (nat k (m * 2 ^ s.toNat % 2 ^ k.bits)) := by
  have h := Rd_shl (P := P) (ρ := ρ) (N := N) (L := L) (dd := dd) (ty := ty) (pos := pos) (aft := aft) (g := g) (T := T) (U := U) hx hy hs.1
  have e : k.wrap ((m : Int) * 2 ^ (min s.toNat k.bits)) = ((m * 2 ^ s.toNat % 2 ^ k.bits : Nat) : Int) := by
    rw [Nat.min_eq_left (by omega), ← wrap_nat hu]
    simp
  rw [e] at h
  exact h
theorem Rd_natShr {s : Int} (hx : ev env x = some (nat k m)) (hy : ev env y = some (.int k' s)) (hs : 0 ≤ s ∧ s ≤ k.bits) : Rd P ρ N env L ⟨dd, .binOp .shr T x y U, ty, pos, aft, g⟩ (nat k (m / 2 ^ s.toNat)) := by
  have h := Rd_shr (P := P) (ρ := ρ) (N := N) (L := L) (dd := dd) (ty := ty) (pos := pos) (aft := aft) (g := g) (T := T) (U := U) hx hy hs.1
  have e : ((m : Int).fdiv (2 ^ (min s.toNat k.bits))) = ((m / 2 ^ s.toNat : Nat) : Int) := by
    rw [Nat.min_eq_left (by omega), Int.fdiv_eq_ediv_of_nonneg _ (Int.le_of_lt (Int.pow_pos (by decide)))]
    simp
  rw [e] at h
  exact h
theorem Rd_natMul (hx : ev env x = some (nat k m)) (hy : ev env y = some (nat k n)) (hu : ubits k = true) : Rd P ρ N env L ⟨dd, .binOp .mul T x y U, ty, pos, aft, g⟩ (nat k (m * n % 2 ^ k.bits)) :=
  Rd_intOp hx hy (by simp only [intOp, nat]; rw [show ((m : Int) * n) = ((m * n : Nat) : Int) from by simp, wrap_nat hu])
theorem Rd_natAdd (hx : ev env x = some (nat k m)) (hy : ev env y = some (nat k n)) (hu : ubits k = true) : Rd P ρ N env L ⟨dd, .binOp .add T x y U, ty, pos, aft, g⟩ (nat k ((m + n) % 2 ^ k.bits)) :=
  Rd_intOp hx hy (by simp only [intOp, nat]; rw [show ((m : Int) + n) = ((m + n : Nat) : Int) from by simp, wrap_nat hu])
theorem Rd_natDiv (hx : ev env x = some (nat k m)) (hy : ev env y = some (nat k n)) (hu : ubits k = true) (hm : m < 2 ^ k.bits) (hn : n ≠ 0) : Rd P ρ N env L ⟨dd, .binOp .quo T x y U, ty, pos, aft, g⟩ (nat k (m / n)) := by
  have h := Rd_quo (P := P) (ρ := ρ) (N := N) (L := L) (dd := dd) (ty := ty) (pos := pos) (aft := aft) (g := g) (T := T) (U := U) hx hy (by omega)
  have e : k.wrap ((m : Int).tdiv n) = ((m / n : Nat) : Int) := by
    have : (m : Int).tdiv n = ((m / n : Nat) : Int) := rfl
    rw [this, wrap_nat hu, Nat.mod_eq_of_lt (Nat.lt_of_le_of_lt (Nat.div_le_self _ _) hm)]
  rw [e] at h
  exact h
theorem Rd_iDiv (hx : ev env x = some (nat .i64 m)) (hy : ev env y = some (nat .i64 n)) (hm : m < 9223372036854775808) (hn : n ≠ 0) : Rd P ρ N env L ⟨dd, .binOp .quo T x y U, ty, pos, aft, g⟩ (nat .i64 (m / n)) := by
  have h := Rd_quo (P := P) (ρ := ρ) (N := N) (L := L) (dd := dd) (ty := ty) (pos := pos) (aft := aft) (g := g) (T := T) (U := U) hx hy (by omega)
  have e : IntKind.i64.wrap ((m : Int).tdiv n) = ((m / n : Nat) : Int) := by
    have h1 : (m : Int).tdiv n = ((m / n : Nat) : Int) := rfl
    have h2 := Nat.div_le_self m n
    rw [h1]
    generalize m / n = q at h2 ⊢
    exact IntWalk.i64_in _ ⟨by omega, by omega⟩
  rw [e] at h
  exact h
theorem Rd_natMod (hx : ev env x = some (nat k m)) (hy : ev env y = some (nat k n)) (hn : n ≠ 0) : Rd P ρ N env L ⟨dd, .binOp .rem T x y U, ty, pos, aft, g⟩ (nat k (m % n)) := by
  have h := Rd_rem (P := P) (ρ := ρ) (N := N) (L := L) (dd := dd) (ty := ty) (pos := pos) (aft := aft) (g := g) (T := T) (U := U) hx hy (by omega)
  exact h
/-- 1 << e of an int. -/
theorem Rd_shl1 {e : Nat} (hx : ev env x = some (.int .i64 1)) (hy : ev env y = some (nat k' e)) (he : e ≤ 62) : Rd P ρ N env L ⟨dd, .binOp .shl T x y U, ty, pos, aft, g⟩ (nat .i64 (2 ^ e)) := by
  have h := Rd_shl (P := P) (ρ := ρ) (N := N) (L := L) (dd := dd) (ty := ty) (pos := pos) (aft := aft) (g := g) (T := T) (U := U) hx hy (by omega)
  have e1 : IntKind.i64.wrap ((1 : Int) * 2 ^ (min ((e : Nat) : Int).toNat IntKind.i64.bits)) = ((2 ^ e : Nat) : Int) := by
    have h2 : min ((e : Nat) : Int).toNat IntKind.i64.bits = e := by simp [IntKind.bits]; omega
    rw [h2, Int.one_mul]
    have h3 : ((2 : Int) ^ e) = ((2 ^ e : Nat) : Int) := by simp
    rw [h3]
    have h4 : 2 ^ e ≤ 2 ^ 62 := Nat.pow_le_pow_right (by decide) he
    have h5 : (2 : Nat) ^ 62 = 4611686018427387904 := by decide
    have h6 : 0 < 2 ^ e := Nat.two_pow_pos e
    generalize 2 ^ e = q at h4 h6 ⊢
    exact IntWalk.i64_in _ ⟨by omega, by omega⟩
  rw [e1] at h
  exact h
variable (tb : Tabs P)
theorem Rd_natConv {S : TypeId} (hx : ev env x = some (nat k m)) (hS : tabLk tb.und S = some (.int k)) (hT : tabLk tb.und T = some (.int k')) (hu : ubits k' = true) : Rd P ρ N env L ⟨dd, .convert S T x, ty, pos, aft, g⟩ (nat k' (m % 2 ^ k'.bits)) := by
  have h := Rd_convInt (P := P) (ρ := ρ) (N := N) (L := L) (dd := dd) (ty := ty) (pos := pos) (aft := aft) (g := g) tb hx hS hT
  rw [wrap_nat hu] at h
  exact h
theorem Rd_natCompl (hx : ev env x = some (nat k m)) (hu : ubits k = true) (hm : m < 2 ^ k.bits) : Rd P ρ N env L ⟨dd, .unOp .xor T x, ty, pos, aft, g⟩ (nat k (2 ^ k.bits - 1 - m)) := by
  have h := Rd_compl (P := P) (ρ := ρ) (N := N) (L := L) (dd := dd) (ty := ty) (pos := pos) (aft := aft) (g := g) (T := T) hx
  have e : k.wrap (BitVec.ofInt k.bits (if k.signed then -1 else k.max) ^^^ BitVec.ofInt k.bits (m : Int)).toNat = ((2 ^ k.bits - 1 - m : Nat) : Int) := by
    have hs : k.signed = false := by cases k <;> first | rfl | cases hu
    have hmax : k.max = ((2 ^ k.bits - 1 : Nat) : Int) := by
      simp only [IntKind.max, hs]
      cases k <;> first | rfl | cases hu
    have hal : BitVec.ofInt k.bits (k.max) = BitVec.allOnes k.bits := by
      apply BitVec.eq_of_toNat_eq
      rw [hmax, ofInt_nat _ (by have := Nat.two_pow_pos k.bits; omega), BitVec.toNat_allOnes]
    rw [hs]
    simp only [Bool.false_eq_true, if_false, hal, BitVec.allOnes_xor, BitVec.toNat_not]
    rw [ofInt_nat m hm, wrap_nat hu, Nat.mod_eq_of_lt (by have := Nat.two_pow_pos k.bits; omega)]
  rw [e] at h
  exact h
/-- One cell stored at a place that is reckoned. -/
theorem St_store1n {T T' b off : Nat} {x y : Operand} {cs : List Value} {v : Value} {i : Inf} (hx : ev env x = some (.pointer (some ⟨b, off, none⟩))) (hy : ev env y = some v)
    (hi : tabLk tb.inf T = some i) (hsz : i.size = 1) (hv : v.oneCell' = true) (hc : Has L (cel false b T' cs) L') (hl : off < cs.length)
    (h : St ρ N env (cel false b T' (cs.set off v) :: L') K) : St ρ N env L (Exec P Q ⟨none, .store T x y, ty, pos, aft, g⟩ K) :=
  St_store1 tb hx hy hi hsz hv hc (by simpa using hl) rfl h
theorem Rd_loadn {T T' b off : Nat} {r : Bool} {x : Operand} {cs : List Value} {v : Value} {i : Inf} (hx : ev env x = some (.pointer (some ⟨b, off, none⟩)))
    (hi : tabLk tb.inf T = some i) (ha : i.agg = false) (hc : Has L (cel r b T' cs) L') (hv : cs[off]? = some v) : Rd P ρ N env L ⟨dd, .load T x, ty, pos, aft, g⟩ v := Rd_load tb hx hi ha hc hv
/-- A row of bytes, all of it, as a text. -/
theorem Rd_convB {S E T' b n c : Nat} {r : Bool} {l : List UInt8} (hx : ev env x = some (.slice (some ⟨b, 0, none⟩) n c)) (hu : tabLk tb.und S = some (.slice E)) (he : tabLk tb.und E = some (.int .u8)) (hv : tabLk tb.und T = some .string)
    (hc : Has L (cel r b T' (Lib.byteCells l)) L') (hn : n = l.length) : Rd P ρ N env L ⟨dd, .convert S T x, ty, pos, aft, g⟩ (str l) :=
  Rd_convBS tb (m := n) hx hu he hv ⟨_, _, _, rfl⟩ fun _ => Src.row hc (by simp [Lib.byteCells, hn]) (by rw [List.drop_zero, Nat.mul_one, List.take_of_length_le (by simp [Lib.byteCells, hn])])
end
end Go.Proofs.YtfjnacakpeommaaGreatDoor.SL
/- Pointers held against each other, unsafe.Pointer, the entry of no code, a text over a row of bytes: what strings.Builder asks. -/
namespace Go.Proofs.YtfjnacakpeommaaGreatDoor.SL
open Go
set_option autoImplicit false
set_option linter.unusedVariables false
set_option linter.unusedSimpArgs false
variable {ρ : Rst} {N : Nat} {env : Env} {L L' : List HP} {P : Program} {Q : Exit → Act → World → Prop} {K : Act → World → Prop}
variable {d : Nat} {dd : Option Nat} {op : Op} {ty : TypeId} {pos : String} {aft : Array Edge} {g : Option (Nat × Bool)} (tb : Tabs P)

theorem run_equal_nil {w : World} {T e : TypeId} (A : Option Addr) (hT : P.underlying T = some (.pointer e)) : (Op.equal T (.pointer A) (.pointer none)).run P w = .ok A.isNone w := by
  have h : ∀ k : Nat, (Op.equalIn (k + 1) T (.pointer A) (.pointer none)).run P w = .ok A.isNone w := fun k => by
    cases A <;> simp [Op.equalIn, run_underlying hT]
  simp [Op.equal, Op.maxDepth, h 9999]
theorem Rd_ptrEqNil {T U e : TypeId} {x y : Operand} {A : Option Addr} (hx : ev env x = some (.pointer A)) (hy : ev env y = some (.pointer none)) (hT : tabLk tb.und T = some (.pointer e)) :
    Rd P ρ N env L ⟨dd, .binOp .eql T x y U, ty, pos, aft, g⟩ (.bool A.isNone) :=
  fun a w z _ => by
    have h := run_equal_nil (w := w) A (tab_ok tb.und_ok hT)
    cases A <;> simp [execOp, ev_ok z hx, ev_ok z hy, eqGuard, binOp, h]
theorem Rd_ptrNeNil {T U e : TypeId} {x y : Operand} {A : Option Addr} (hx : ev env x = some (.pointer A)) (hy : ev env y = some (.pointer none)) (hT : tabLk tb.und T = some (.pointer e)) :
    Rd P ρ N env L ⟨dd, .binOp .neq T x y U, ty, pos, aft, g⟩ (.bool (!A.isNone)) :=
  fun a w z _ => by
    have h := run_equal_nil (w := w) A (tab_ok tb.und_ok hT)
    cases A <;> simp [execOp, ev_ok z hx, ev_ok z hy, eqGuard, binOp, h]
theorem Rd_nilEqNil {T U e : TypeId} {x y : Operand} (hx : ev env x = some (.pointer none)) (hy : ev env y = some (.pointer none)) (hT : tabLk tb.und T = some (.pointer e)) :
    Rd P ρ N env L ⟨dd, .binOp .eql T x y U, ty, pos, aft, g⟩ (.bool true) := Rd_ptrEqNil tb hx hy hT
theorem Rd_ptrEqNil' {T U e : TypeId} {x y : Operand} {A : Addr} (hx : ev env x = some (.pointer (some A))) (hy : ev env y = some (.pointer none)) (hT : tabLk tb.und T = some (.pointer e)) :
    Rd P ρ N env L ⟨dd, .binOp .eql T x y U, ty, pos, aft, g⟩ (.bool false) := Rd_ptrEqNil tb hx hy hT
theorem Rd_nilNeNil {T U e : TypeId} {x y : Operand} (hx : ev env x = some (.pointer none)) (hy : ev env y = some (.pointer none)) (hT : tabLk tb.und T = some (.pointer e)) :
    Rd P ρ N env L ⟨dd, .binOp .neq T x y U, ty, pos, aft, g⟩ (.bool false) := Rd_ptrNeNil tb hx hy hT
theorem Rd_ptrNeNil' {T U e : TypeId} {x y : Operand} {A : Addr} (hx : ev env x = some (.pointer (some A))) (hy : ev env y = some (.pointer none)) (hT : tabLk tb.und T = some (.pointer e)) :
    Rd P ρ N env L ⟨dd, .binOp .neq T x y U, ty, pos, aft, g⟩ (.bool true) := Rd_ptrNeNil tb hx hy hT
theorem Rd_ptrNeSame {T U e : TypeId} {x y : Operand} {A : Addr} {i : Inf} (hx : ev env x = some (.pointer (some A))) (hy : ev env y = some (.pointer (some A))) (hT : tabLk tb.und T = some (.pointer e)) (hi : tabLk tb.inf e = some i) :
    Rd P ρ N env L ⟨dd, .binOp .neq T x y U, ty, pos, aft, g⟩ (.bool false) :=
  fun a w z _ => by
    obtain ⟨j, z', hj, _⟩ := (tab_ok tb.inf_ok hi).info
    have h := Lib.run_neq_ptr_same w A (tab_ok tb.und_ok hT) hj
    simp [execOp, ev_ok z hx, ev_ok z hy, eqGuard, h]
theorem Rd_toUnsafe {S T e b off T' : Nat} {r : Bool} {x : Operand} {cs : List Value} {i : Inf} (hx : ev env x = some (.pointer (some ⟨b, off, none⟩))) (hS : tabLk tb.und S = some (.pointer e)) (hT : tabLk tb.und T = some .unsafePointer)
    (hi : tabLk tb.inf e = some i) (h0 : Nat.blt 0 i.size = true) (hc : Has L (cel r b T' cs) L') (hl : off < cs.length) : Rd P ρ N env L ⟨dd, .convert S T x, ty, pos, aft, g⟩ (.pointer (some ⟨b, off, none⟩)) :=
  fun a w z y => by
    obtain ⟨fr, hb, hf⟩ := (y.has hc).rowOf
    obtain ⟨j, z', hj, hs, _⟩ := (tab_ok tb.inf_ok hi).info
    have hsh : w.shape? b = some (T', cs.length) := by simp [World.shape?, hb]
    have h0' : 0 < i.size := by simpa using h0
    have h := Lib.run_to_unsafe w ⟨b, off, none⟩ (tab_ok tb.und_ok hS) (tab_ok tb.und_ok hT) hj (by omega) hsh hl
    simp [execOp, ev_ok z hx, h]
theorem Rd_fromUnsafe {S T e b off T' : Nat} {r : Bool} {x : Operand} {cs : List Value} {i : Inf} (hx : ev env x = some (.pointer (some ⟨b, off, none⟩))) (hS : tabLk tb.und S = some .unsafePointer) (hT : tabLk tb.und T = some (.pointer e))
    (hi : tabLk tb.inf e = some i) (hc : Has L (cel r b T' cs) L') (hl : liesAt P P.depth T' (cs.length / P.cellsOf T') off e 1 = true) : Rd P ρ N env L ⟨dd, .convert S T x, ty, pos, aft, g⟩ (.pointer (some ⟨b, off, none⟩)) :=
  fun a w z y => by
    obtain ⟨fr, hb, hf⟩ := (y.has hc).rowOf
    obtain ⟨j, z', hj, hs, _⟩ := (tab_ok tb.inf_ok hi).info
    have hsh : w.shape? b = some (T', cs.length) := by simp [World.shape?, hb]
    have h := Lib.run_from_unsafe w ⟨b, off, none⟩ (tab_ok tb.und_ok hS) (tab_ok tb.und_ok hT) hj hsh hl
    simp [execOp, ev_ok z hx, h]
/-- A function of the model's own that only answers. -/
theorem Rd_extern {f : FuncId} {fn : Func} {xs : List Operand} {tys : Array TypeId} {vs : List Value} {e : Array Value → Sem Value} {v : Value} (ha : evs env xs = some vs) (hf : P.funcs[f]? = some fn) (hname : (fn.name == "runtime.NumGoroutine") = false)
    (hb : fn.body.isNone = true) (hn : Extern.findNext fn = none) (he : Extern.find fn = some e) (hv : ∀ w, (e vs.toArray).run P w = .ok v w) :
    Rd P ρ N env L ⟨dd, .call { callee := .value (.func f), args := xs.toArray, argTypes := tys }, ty, pos, aft, g⟩ v :=
  fun a w z y => by
    have e1 : xs.toArray.map a.eval = vs.toArray := by simp [evs_ok z ha]
    simp only [execOp, resolve, Act.eval, Deferred.ofValue, Sem.run_bind, Sem.run_pure, Result.andThen_ok, invoke]
    rw [e1, run_callFunc_extern hf hname hb hn he]
    have e2 : (#[] ++ vs.toArray ++ #[] : Array Value) = vs.toArray := by simp
    rw [e2, hv w]
    rfl

/-- An owned slice is a slice. -/
theorem St_slIs {E sz n : Nat} {v : Value} {cs : List Value} {G : Act → World → Prop} (hc : Has L (Sl E sz v n cs) L') (h : ∀ A c, v = .slice A n c → St ρ N env L G) : St ρ N env L G := fun a w x y => by
  rcases (y.has hc).sl with ⟨e1, e2, e3, H⟩ | ⟨b, cap, pre, rest, e1, e2, e3, e4, H⟩
  · exact h none 0 (by rw [e1, e2]) a w x y
  · exact h _ _ e1 a w x y

/-! A text over a row -/
theorem liesAt_off {e : TypeId} (hc : P.cellsOf e = 1) (count off n : Nat) (hn : off + n ≤ count) : liesAt P P.depth e count off e n = true := by
  have hd : P.depth = (2 * (P.types.size + Made.depth) + 1) + 1 := rfl
  rw [hd]
  simp only [liesAt, Bool.or_eq_true]
  left
  rw [hd]
  simp [rowAt, hc, hn, sameLayout, Nat.mod_one]
theorem run_unsafeString_off {w : World} {pt it ty e b off : Nat} {cs : List Value} {fr : Nat × Nat} (hp : P.underlying pt = some (.pointer e)) (hc : P.cellsOf e = 1) (hb : w.heap[b]? = some (.cells cs.toArray e fr)) (l : List UInt8) (h0 : l ≠ [])
    (h63 : l.length ≤ 9223372036854775807) (hd : (cs.drop off).take l.length = Lib.byteCells l) :
    (Builtin.unsafeString_ #[pt, it] ty #[.pointer (some ⟨b, off, none⟩), .int .i64 l.length]).run P w = .ok (str l) (w.freeze ⟨b, off, none⟩ l.length) := by
  have hsh : w.shape? b = some (e, cs.length) := by simp [World.shape?, hb]
  have hlen : off + l.length ≤ cs.length := by
    have h1 := congrArg List.length hd
    have h2 : 0 < l.length := List.length_pos_iff.2 h0
    simp [Lib.byteCells] at h1
    omega
  have hcell : ∀ j x, l[j]? = some x → w.cell? ((⟨b, off, none⟩ : Addr).add j) = some (.int .u8 x.toNat) := fun j x hj => by
    rw [Addr.add_none, cell_of hb]
    have hjl : j < l.length := by
      rcases Nat.lt_or_ge j l.length with h | h
      · exact h
      · rw [List.getElem?_eq_none h] at hj; cases hj
    have h1 : ((cs.drop off).take l.length)[j]? = (Lib.byteCells l)[j]? := by rw [hd]
    rw [List.getElem?_take_of_lt hjl, List.getElem?_drop] at h1
    rw [h1]
    simp [Lib.byteCells, hj]
  have hl : l.length ≠ 0 := by simpa using h0
  have hlb := Lib.run_loadBytes (P := P) w l ⟨b, off, none⟩ .empty hcell
  have hlies := liesAt_off (P := P) hc (cs.length / P.cellsOf e) off l.length (by rw [hc]; simpa using hlen)
  have h63' : ¬ (9223372036854775807 : Int) < (l.length : Int) := by omega
  have hmax : IntKind.i64.max = 9223372036854775807 := rfl
  have hneg : ¬ (l.length : Int) < 0 := by omega
  change Sem.run P (Bind.bind (asInt (.int .i64 l.length)) _) w = _
  simp [asInt, asIntOf, hmax, h63', hneg, hl, variablesAt, hsh, elemOf, run_underlying hp, hlies, hlb]
/-- A slice's data, taken by unsafe.SliceData. -/
def SlD (E : Nat) (pv : Value) (n : Nat) (cs : List Value) : HP := fun h =>
  (∃ A, pv = .pointer A ∧ n = 0 ∧ cs = [] ∧ emp h) ∨ ∃ (b : Nat) (pre rest : List Value), pv = .pointer (some ⟨b, pre.length, none⟩) ∧ cs.length = n ∧ cel false b E (pre ++ cs ++ rest) h
theorem Holds.sld {E n : Nat} {pv : Value} {cs : List Value} {w : World} (H : Holds ρ w (SlD E pv n cs :: L)) :
    (∃ A, pv = .pointer A ∧ n = 0 ∧ cs = [] ∧ Holds ρ w L) ∨ ∃ (b : Nat) (pre rest : List Value), pv = .pointer (some ⟨b, pre.length, none⟩) ∧ cs.length = n ∧ Holds ρ w (cel false b E (pre ++ cs ++ rest) :: L) := by
  obtain ⟨h, ⟨h1, h2, c, e, a, b2⟩, dd⟩ := H.heap
  rcases a with ⟨A, e1, e2, e3, e4⟩ | ⟨b, pre, rest, e1, e4, e5⟩
  · exact .inl ⟨A, e1, e2, e3, H.drop⟩
  · exact .inr ⟨b, pre, rest, e1, e4, H.tape, H.os, H.output, h, ⟨h1, h2, c, e, e5, b2⟩, dd⟩
theorem Holds.sld_nil {E : Nat} {A : Option Addr} {w : World} (H : Holds ρ w L) : Holds ρ w (SlD E (.pointer A) 0 [] :: L) :=
  H.mono fun h x => ⟨E0, h, E0_Cmp h, rfl, .inl ⟨A, rfl, rfl, rfl, rfl⟩, x⟩
theorem Holds.sld_row {E b : Nat} {pre cs rest : List Value} {w : World} (H : Holds ρ w (cel false b E (pre ++ cs ++ rest) :: L)) : Holds ρ w (SlD E (.pointer (some ⟨b, pre.length, none⟩)) cs.length cs :: L) :=
  H.mono fun _ x => star_mono (fun _ a => .inr ⟨b, pre, rest, rfl, rfl, a⟩) (fun _ a => a) x
theorem St_unsafeSliceData {E U n : Nat} {x : Operand} {v : Value} {cs : List Value} {tys : Array TypeId} (hN : Nat.blt d N = true) (hx : ev env x = some v) (hty : tabLk tb.und ty = some (.pointer U)) (hc : Has L (Sl E 1 v n cs) L')
    (h : ∀ pv, St ρ N ((d, pv) :: env) (SlD E pv n cs :: L') K) :
    St ρ N env L (Exec P Q ⟨some d, .call { callee := .builtin .unsafeSliceData, args := [x].toArray, argTypes := tys }, ty, pos, aft, g⟩ K) :=
  St_run (α := Value) (v := fun v' => v') (M := fun pv => SlD E pv n cs :: L') (by simpa using hN) (fun a w z H => by
    have H1 := H.has hc
    obtain ⟨cst, er⟩ := run_resolveB (P := P) (w := w) (ty := ty) (b := .unsafeSliceData) (tys := tys) (a := a) (xs := [x]) (vs := [v]) (by simp [ev_ok z hx])
    have key : ∃ v' w', (Builtin.unsafeSliceData_ tys ty [v].toArray).run P w = .ok v' w' ∧ Holds ρ w' (SlD E v' n cs :: L') := by
      rcases H1.sl with ⟨rfl, rfl, rfl, H2⟩ | ⟨b, cap, pre, rest, rfl, e2, e3, e4, H2⟩
      · exact ⟨_, _, Lib.run_unsafeSliceData_nil w _ _ _ _, H2.sld_nil⟩
      · have e4' : cs.length = n := by omega
        by_cases hcap : cap = 0
        · obtain ⟨fr, hb, hf⟩ := H2.rowOf
          have hn0 : n = 0 := by omega
          subst hn0
          have : cs = [] := List.eq_nil_of_length_eq_zero e4'
          subst this
          subst hcap
          exact ⟨_, _, Lib.run_unsafeSliceData_zero w tys ty U (tab_ok tb.und_ok hty) _ _ (_, _) (by simp only [World.shape?, hb]; rfl), ((H2.drop).alloc _).drop.sld_nil⟩
        · refine ⟨_, _, Lib.run_unsafeSliceData_row w _ _ _ _ _ hcap, ?_⟩
          rw [← e4']
          exact H2.sld_row
    obtain ⟨v', w', e, H2⟩ := key
    refine ⟨v', w', ?_, H2⟩
    simp only [execOp, Sem.run_bind, er, Result.andThen_ok, invoke, builtin, e, Sem.run_pure]) h
theorem St_unsafeString {E T U n : Nat} {x y : Operand} {v : Value} {l : List UInt8} (hN : Nat.blt d N = true) (hx : ev env x = some v) (hy : ev env y = some (.int .i64 n)) (hT : tabLk tb.und T = some (.pointer E)) (hE : P.cellsOf E = 1) (h63 : n ≤ 9223372036854775807)
    (hc : Has L (SlD E v n (Lib.byteCells l)) L') (h : St ρ N ((d, str l) :: env) L' K) :
    St ρ N env L (Exec P Q ⟨some d, .call { callee := .builtin .unsafeString, args := [x, y].toArray, argTypes := [T, U].toArray }, ty, pos, aft, g⟩ K) :=
  St_run (α := Unit) (v := fun _ => str l) (M := fun _ => L') (by simpa using hN) (fun a w z H => by
    have H1 := H.has hc
    obtain ⟨cst, er⟩ := run_resolveB (P := P) (w := w) (ty := ty) (b := .unsafeString) (tys := [T, U].toArray) (a := a) (xs := [x, y]) (vs := [v, .int .i64 n]) (by simp [ev_ok z hx, ev_ok z hy])
    have key : ∃ w', (Builtin.unsafeString_ [T, U].toArray ty [v, .int .i64 n].toArray).run P w = .ok (str l) w' ∧ Holds ρ w' L' := by
      rcases H1.sld with ⟨A, rfl, rfl, e3, H2⟩ | ⟨b, pre, rest, rfl, e4, H2⟩
      · have : l = [] := by simpa [Lib.byteCells] using e3
        subst this
        exact ⟨w, Lib.run_unsafeString_none w _ _ _ _, H2⟩
      · have e5 : l.length = n := by simpa [Lib.byteCells] using e4
        by_cases h0 : l = []
        · subst h0
          subst e5
          exact ⟨w, Lib.run_unsafeString_none w _ _ _ _, H2.drop⟩
        · obtain ⟨fr, hf, H3⟩ := H2.cel_one
          have hb := H3.block
          refine ⟨_, by rw [← e5]; exact run_unsafeString_off (tab_ok tb.und_ok hT) hE hb l h0 (by omega) (by simp [Lib.byteCells]), ?_⟩
          have hlt : b < w.heap.size := by
            rcases Nat.lt_or_ge b w.heap.size with h' | h'
            · exact h'
            · simp [Array.getElem?_eq_none h'] at hb
          refine Holds.drop (Holds.put (o' := _) H3 (b := b) ?_ (by
            unfold World.freeze
            rw [if_neg (by simpa using h0)]
            simp only [Array.getElem?_modify, if_true, hb, Option.map_some]; rfl) ?_)
          · unfold World.freeze; split <;> rfl
          · intro c hcb
            unfold World.freeze
            rw [if_neg (by simpa using h0)]
            simp only [Array.getElem?_modify]
            rw [if_neg (fun e => hcb e.symm)]
    obtain ⟨w', e, H2⟩ := key
    refine ⟨(), w', ?_, H2⟩
    simp only [execOp, Sem.run_bind, er, Result.andThen_ok, invoke, builtin, e, Sem.run_pure]) fun _ => h
end Go.Proofs.YtfjnacakpeommaaGreatDoor.SL
/- Structs held against each other, whose fields are numbers, texts, truths. -/
namespace Go.Proofs.YtfjnacakpeommaaGreatDoor.SL
open Go
set_option autoImplicit false
set_option linter.unusedVariables false
set_option linter.unusedSimpArgs false
variable {ρ : Rst} {N : Nat} {env : Env} {L L' : List HP} {P : Program} {Q : Exit → Act → World → Prop} {K : Act → World → Prop}
variable {d : Nat} {dd : Option Nat} {op : Op} {ty : TypeId} {pos : String} {aft : Array Edge} {g : Option (Nat × Bool)} (tb : Tabs P)

def eqCell : TypeDesc → Value → Value → Option Bool
  | .int _, .int k a, .int k' b => if k = k' then some (a == b) else none
  | .bool, .bool a, .bool b => some (a == b)
  | .string, .string a, .string b => some (a.data.toList == b.data.toList)
  | _, _, _ => none
def eqFl (und : List (Nat × TypeDesc)) (cs ds : List Value) : List Fl → Option Bool
  | [] => some true
  | f :: l => match tabLk und f.type, cs[f.off]?, ds[f.off]? with
    | some D, some x, some y => match eqCell D x y with
      | some r => (eqFl und cs ds l).map fun s => r && s
      | none => none
    | _, _, _ => none
def namesOk (P : Program) (T : TypeId) : Bool := (P.fieldsOf T).toList.all (fun f => f.name != "_") && !(P.stoodInHeld T) && !(P.eqGuardType P.depth T)
theorem eqCell_ok {w : World} {k : Nat} {t : TypeId} {D : TypeDesc} {x y : Value} {r : Bool} (hu : P.underlying t = some D) (h : eqCell D x y = some r) :
    (Op.equalIn (k + 1) t x y).run P w = .ok r w ∧ isAggD D = false := by
  unfold eqCell at h
  split at h
  · rename_i kk k1 a k2 b
    split at h
    · rename_i hk
      subst hk
      cases h
      exact ⟨run_equalIn_int w _ _ _ _ _ _ hu, rfl⟩
    · cases h
  · cases h
    exact ⟨run_equalIn_bool w _ _ _ _ hu, rfl⟩
  · cases h
    rename_i a b
    refine ⟨?_, rfl⟩
    rw [run_equalIn_string w _ _ _ _ hu, ByteArray.toList_eq, ByteArray.toList_eq]
  · cases h
theorem run_part1 {w : World} {t : TypeId} {D : TypeDesc} {cs : List Value} {off : Nat} {x : Value} (hu : P.underlying t = some D) (ha : isAggD D = false) (hx : cs[off]? = some x) :
    (part t cs.toArray off).run P w = .ok x w := by
  have h : (isAgg t).run P w = .ok false w := by
    simp only [isAgg, Sem.run_bind, run_und hu, Result.andThen_ok]
    cases D <;> simp [isAggD] at ha ⊢
  simp only [part, Sem.run_bind, h, Result.andThen_ok, Bool.false_eq_true, if_false, List.getElem?_toArray, hx, Sem.run_pure]
theorem eqFl_ok {w : World} {k : Nat} {cs ds : List Value} : ∀ {l : List Fl} {fs : List Field} {r : Bool}, fs.map (fun f => (f.offset, f.type)) = l.map (fun f => (f.off, f.type)) → fs.all (fun f => f.name != "_") = true →
    eqFl tb.und cs ds l = some r → (Op.eqFields (k + 1) cs.toArray ds.toArray fs).run P w = .ok r w
  | [], [], r, _, _, h => by cases h; rfl
  | [], _ :: _, _, h, _, _ => by cases h
  | _ :: _, [], _, h, _, _ => by cases h
  | f :: l, f' :: fs, r, hm, hn, h => by
    simp only [List.map_cons, List.cons.injEq, Prod.mk.injEq] at hm
    obtain ⟨⟨h1, h2⟩, h3⟩ := hm
    simp only [List.all_cons, Bool.and_eq_true, bne_iff_ne] at hn
    unfold eqFl at h
    split at h
    · rename_i D x y hu hx hy
      split at h
      · rename_i r1 hr1
        simp only [Option.map_eq_some_iff] at h
        obtain ⟨s, hs, rfl⟩ := h
        have hU := tab_ok tb.und_ok hu
        rw [← h2] at hU
        obtain ⟨he, ha⟩ := eqCell_ok (w := w) (k := k) hU hr1
        have ih := eqFl_ok (w := w) (k := k) h3 hn.2 hs
        simp only [Op.eqFields, if_pos hn.1, Sem.run_bind, h1, run_part1 hU ha hx, run_part1 hU ha hy, Result.andThen_ok, he]
        cases r1
        · rfl
        · simp only [Bool.not_true, Bool.false_eq_true, if_false, ih, Bool.true_and]
      · cases h
    · cases h
theorem Rd_eqStruct {T U : TypeId} {x y : Operand} {cs ds : List Value} {l : List Fl} {r : Bool} (hx : ev env x = some (.agg cs.toArray)) (hy : ev env y = some (.agg ds.toArray)) (hf : tabLk tb.fld T = some l) (hn : namesOk P T = true)
    (he : eqFl tb.und cs ds l = some r) : Rd P ρ N env L ⟨dd, .binOp .eql T x y U, ty, pos, aft, g⟩ (.bool r) :=
  fun a w z _ => by
    obtain ⟨fs, hu, hm, _⟩ := tab_ok tb.fld_ok hf
    simp only [namesOk, Bool.and_eq_true, Bool.not_eq_true'] at hn
    have hfo : P.fieldsOf T = fs := by unfold Program.fieldsOf; rw [hu]
    have hu2 : P.underlying T = some (.struct (P.fieldsOf T)) := by rw [hfo]; exact hu
    have h := eqFl_ok tb (w := w) (k := 9998) (fs := (P.fieldsOf T).toList) (by rw [hfo]; exact hm) hn.1.1 he
    simp only [execOp, ev_ok z hx, ev_ok z hy, Sem.run_bind, run_eqGuard_agg w .eql T x y _ _ hn.2, Result.andThen_ok, run_eql_struct, run_equalIn_agg w 9999 T _ _ hu2 hn.1.2, h, Sem.run_pure]
theorem Rd_neStruct {T U : TypeId} {x y : Operand} {cs ds : List Value} {l : List Fl} {r : Bool} (hx : ev env x = some (.agg cs.toArray)) (hy : ev env y = some (.agg ds.toArray)) (hf : tabLk tb.fld T = some l) (hn : namesOk P T = true)
    (he : eqFl tb.und cs ds l = some r) : Rd P ρ N env L ⟨dd, .binOp .neq T x y U, ty, pos, aft, g⟩ (.bool (!r)) :=
  fun a w z _ => by
    obtain ⟨fs, hu, hm, _⟩ := tab_ok tb.fld_ok hf
    simp only [namesOk, Bool.and_eq_true, Bool.not_eq_true'] at hn
    have hfo : P.fieldsOf T = fs := by unfold Program.fieldsOf; rw [hu]
    have hu2 : P.underlying T = some (.struct (P.fieldsOf T)) := by rw [hfo]; exact hu
    have h := eqFl_ok tb (w := w) (k := 9998) (fs := (P.fieldsOf T).toList) (by rw [hfo]; exact hm) hn.1.1 he
    simp only [execOp, ev_ok z hx, ev_ok z hy, Sem.run_bind, run_eqGuard_agg w .neq T x y _ _ hn.2, Result.andThen_ok, run_neq_struct, run_equalIn_agg w 9999 T _ _ hu2 hn.1.2, h, Sem.run_pure]
/-- Structs that are the same aren't different. -/
theorem Rd_neSame {T U : TypeId} {x y : Operand} {cs ds : List Value} {l : List Fl} {r : Bool} (hx : ev env x = some (.agg cs.toArray)) (hy : ev env y = some (.agg ds.toArray)) (hf : tabLk tb.fld T = some l) (hn : namesOk P T = true)
    (he : eqFl tb.und cs ds l = some r) (hr : r = true) : Rd P ρ N env L ⟨dd, .binOp .neq T x y U, ty, pos, aft, g⟩ (.bool false) := by
  have h := Rd_neStruct (ρ := ρ) (N := N) (L := L) (dd := dd) (ty := ty) (pos := pos) (aft := aft) (g := g) tb (U := U) hx hy hf hn he
  rw [hr] at h
  exact h
theorem Rd_boolEq {T U : TypeId} {x y : Operand} {p q : Bool} (hx : ev env x = some (.bool p)) (hy : ev env y = some (.bool q)) (hT : tabLk tb.und T = some .bool) :
    Rd P ρ N env L ⟨dd, .binOp .eql T x y U, ty, pos, aft, g⟩ (.bool (p == q)) :=
  fun a w z _ => by
    simp only [execOp, ev_ok z hx, ev_ok z hy, Sem.run_bind, eqGuard, Bool.not_true, Bool.false_eq_true, if_false, Sem.run_pure, Result.andThen_ok, run_eql_bool w T p q (tab_ok tb.und_ok hT)]
end Go.Proofs.YtfjnacakpeommaaGreatDoor.SL
