/- Steps of a walk: what each operation makes of the known slots and of the chunks of memory. -/
import Derived.Test.YtfjnacakpeommaaDoorSlHeap
import Derived.Tactics
import Derived.IntWalk
import Derived.Laws.Strings
namespace Go.Proofs.YtfjnacakpeommaaDoor.SL
open Go
set_option autoImplicit false
set_option linter.unusedVariables false
set_option linter.unusedSimpArgs false

abbrev Env := List (Nat × Value)
def lk : Env → Nat → Option Value
  | [], _ => none
  | (s, v) :: e, t => match Nat.beq s t with | true => some v | false => lk e t

structure Ag (N : Nat) (env : Env) (a : Act) : Prop where
  size : a.tmps.size = N
  defers : a.defers = []
  get : ∀ t v, lk env t = some v → a.tmps.getD t undef = v

/-- From any frame that has these slots, and any world that holds these chunks, G. -/
def St (ρ : Rst) (N : Nat) (env : Env) (L : List HP) (G : Act → World → Prop) : Prop := ∀ a w, Ag N env a → Holds ρ w L → G a w

def ev (env : Env) : Operand → Option Value
  | .tmp t => lk env t
  | .const v => some v
  | .global g => some (.pointer (some ⟨g, 0, none⟩))
  | .func f => some (.func (.func f) #[] #[])
def evs (env : Env) : List Operand → Option (List Value)
  | [] => some []
  | x :: l => match ev env x with
    | none => none
    | some v => match evs env l with
      | none => none
      | some vs => some (v :: vs)

variable {ρ : Rst} {N : Nat} {env : Env} {L L' : List HP} {P : Program} {ops : Array Oper} {Q : Exit → Act → World → Prop} {rest : List Oper}
  {K : Act → World → Prop}

theorem ev_ok {a : Act} (h : Ag N env a) {x : Operand} {v : Value} (e : ev env x = some v) : a.eval x = v := by
  cases x with
  | tmp t => exact h.get t v e
  | const u => cases e; rfl
  | global g => cases e; rfl
  | func f => cases e; rfl
theorem evs_ok {a : Act} (h : Ag N env a) : ∀ {l : List Operand} {vs : List Value}, evs env l = some vs → l.map a.eval = vs
  | [], vs, e => by cases e; rfl
  | x :: l, vs, e => by
    unfold evs at e
    cases h1 : ev env x with
    | none => rw [h1] at e; cases e
    | some v =>
      rw [h1] at e
      cases h2 : evs env l with
      | none => rw [h2] at e; cases e
      | some us =>
        rw [h2] at e; cases e
        simp [ev_ok h h1, evs_ok h h2]

theorem lk_cons (d t : Nat) (v : Value) : lk ((d, v) :: env) t = if d = t then some v else lk env t := by
  show (match Nat.beq d t with | true => some v | false => lk env t) = _
  by_cases h : d = t
  · subst h; simp
  · rw [if_neg h]
    have : Nat.beq d t = false := by
      cases e : Nat.beq d t with
      | false => rfl
      | true => exact absurd (Nat.eq_of_beq_eq_true e) h
    rw [this]

theorem Ag.put {a : Act} (h : Ag N env a) {d : Nat} (hd : d < N) (v : Value) : Ag N ((d, v) :: env) (a.put (some d) v) := by
  refine ⟨by simp [Act.put, h.size], h.defers, fun t u e => ?_⟩
  rw [lk_cons] at e
  by_cases hx : d = t
  · subst hx
    rw [if_pos rfl] at e
    cases e
    simp [Act.put, h.size, hd]
  · rw [if_neg hx] at e
    have := h.get t u e
    rw [← this]
    simp [Act.put, Array.getElem?_setIfInBounds_ne hx]
theorem Ag.put_none {a : Act} (h : Ag N env a) (v : Value) : Ag N env (a.put none v) := h

theorem St.mono {G G' : Act → World → Prop} (h : St ρ N env L G) (f : ∀ a w, G a w → G' a w) : St ρ N env L G' := fun a w x y => f a w (h a w x y)
/-- Slots that are known already, chunks that are there, by fewer. -/
theorem St.weak {env' : Env} {G : Act → World → Prop} (h : St ρ N env' L' G) (he : ∀ t v, lk env' t = some v → lk env t = some v) {F : List HP} (hs : Split L L' F) : St ρ N env L G :=
  fun a w x y => h a w ⟨x.size, x.defers, fun t v e => x.get t v (he t v e)⟩ (y.split hs).drops
theorem St.again {d : Nat} {v v' : Value} {G : Act → World → Prop} (e : lk env d = some v) (hv : v = v') (h : St ρ N ((d, v') :: env) L G) : St ρ N env L G :=
  fun a w x y => h a w ⟨x.size, x.defers, fun t u e' => by
    rw [lk_cons] at e'
    by_cases hx : d = t
    · subst hx; rw [if_pos rfl] at e'; cases e'; rw [← hv]; exact x.get _ _ e
    · rw [if_neg hx] at e'; exact x.get _ _ e'⟩ y

theorem St_ex {α : Type} {A : α → HP} {G : Act → World → Prop} (h : ∀ x, St ρ N env (A x :: L) G) : St ρ N env (ex A :: L) G :=
  fun a w x y => let ⟨z, hz⟩ := y.ex; h z a w x hz
theorem St_lift {p : Prop} {G : Act → World → Prop} (h : p → St ρ N env L G) : St ρ N env (lift p :: L) G :=
  fun a w x y => h y.lift.1 a w x y.lift.2
theorem St_open {l : List HP} {G : Act → World → Prop} (h : St ρ N env (l ++ L) G) : St ρ N env (big l :: L) G :=
  fun a w x y => h a w x y.open
theorem St_pull {A : HP} {G : Act → World → Prop} (hh : Has L A L') (h : St ρ N env (A :: L') G) : St ρ N env L G :=
  fun a w x y => h a w x (y.has hh)
theorem St_conv {G : Act → World → Prop} (f : ∀ w, Holds ρ w L → Holds ρ w L') (h : St ρ N env L' G) : St ρ N env L G :=
  fun a w x y => h a w x (f w y)

/-! Operations -/
def Exec (P : Program) (Q : Exit → Act → World → Prop) (o : Oper) (K : Act → World → Prop) : Act → World → Prop := fun a w => o.wp P a w K Q

theorem St_nil (h : St ρ N env L (Q .normal)) : St ρ N env L (wpList P ops Q []) := h
theorem St_g0 {o : Oper} (hg : o.guard = none) (h : St ρ N env L (Exec P Q o (wpList P ops Q rest))) : St ρ N env L (wpList P ops Q (o :: rest)) := by
  intro a w x y
  unfold wpList
  rw [if_pos (by simp [Region.wanted, hg])]
  exact .inl (h a w x y)

def gd (ops : List Oper) (env : Env) (j : Nat) : Option Value :=
  match ops[j]? with
  | some ⟨some t, _, _, _, _, _⟩ => lk env t
  | _ => none
theorem gd_ok {a : Act} (h : Ag N env a) {j : Nat} {b : Bool} {l : List Oper} (e : gd l env j = some (.bool b)) : yielded l.toArray a.tmps j = some b := by
  unfold gd at e
  unfold yielded
  simp only [List.getElem?_toArray]
  cases ho : l[j]? with
  | none => rw [ho] at e; cases e
  | some o =>
    rw [ho] at e
    obtain ⟨d, op, ty, pos, aft, g⟩ := o
    cases d with
    | none => cases e
    | some t =>
      have := h.get t _ e
      have ht : t < a.tmps.size := by
        rcases Nat.lt_or_ge t a.tmps.size with g | g
        · exact g
        · rw [Array.getD_eq_getD_getElem?, Array.getElem?_eq_none g] at this
          cases this
      rw [Array.getD_eq_getD_getElem?, Array.getElem?_eq_getElem ht] at this
      simp only [Option.bind_some]
      rw [Array.getElem?_eq_getElem ht]
      simp only [Option.getD_some] at this
      rw [this]

variable {lops : List Oper}
/-- A guarded operation that is wanted. -/
theorem St_g1 {o : Oper} {j : Nat} {b c : Bool} (hg : o.guard = some (j, b)) (hb' : gd lops env j = some (.bool c)) (hcb : c = b)
    (h : St ρ N env L (Exec P Q o (wpList P lops.toArray Q rest))) : St ρ N env L (wpList P lops.toArray Q (o :: rest)) := by
  have hb : gd lops env j = some (.bool b) := hcb ▸ hb'
  intro a w x y
  unfold wpList
  rw [if_pos (by simp [Region.wanted, hg, gd_ok x hb])]
  exact .inl (h a w x y)
/-- A guarded operation that is passed over. -/
theorem St_gs {o : Oper} {j d : Nat} {b c : Bool} (hg : o.guard = some (j, b)) (hb : gd lops env j = some (.bool c)) (hcb : c = !b) (hd : o.dst = some d) (hN : Nat.blt d N = true)
    (h : St ρ N ((d, undef) :: env) L (wpList P lops.toArray Q rest)) : St ρ N env L (wpList P lops.toArray Q (o :: rest)) := by
  intro a w x y
  unfold wpList
  have : ¬ c = b := by subst hcb; cases b <;> simp
  rw [if_neg (by simp [Region.wanted, hg, gd_ok x hb, this]), hd]
  exact h _ w (x.put (by simpa using hN) _) y
theorem gd_undef {a : Act} (h : Ag N env a) {j : Nat} {l : List Oper} (e : gd l env j = some undef) : yielded l.toArray a.tmps j = none := by
  unfold gd at e
  unfold yielded
  simp only [List.getElem?_toArray]
  cases ho : l[j]? with
  | none => rw [ho] at e; cases e
  | some o =>
    rw [ho] at e
    obtain ⟨d, op, ty, pos, aft, g⟩ := o
    cases d with
    | none => cases e
    | some t =>
      have := h.get t _ e
      simp only [Option.bind_some]
      rcases Nat.lt_or_ge t a.tmps.size with g | g
      · rw [Array.getD_eq_getD_getElem?, Array.getElem?_eq_getElem g] at this
        simp only [Option.getD_some] at this
        rw [Array.getElem?_eq_getElem g, this]
        rfl
      · rw [Array.getElem?_eq_none g]
/-- An operation whose guard was itself passed over. -/
theorem St_gu {o : Oper} {j d : Nat} {b : Bool} (hg : o.guard = some (j, b)) (hb : gd lops env j = some undef) (hd : o.dst = some d) (hN : Nat.blt d N = true)
    (h : St ρ N ((d, undef) :: env) L (wpList P lops.toArray Q rest)) : St ρ N env L (wpList P lops.toArray Q (o :: rest)) := by
  intro a w x y
  unfold wpList
  rw [if_neg (by simp [Region.wanted, hg, gd_undef x hb]), hd]
  exact h _ w (x.put (by simpa using hN) _) y
/-- A guard that is not decided: both ways. -/
theorem St_gx {o : Oper} {j t : Nat} {b c : Bool} (hg : o.guard = some (j, b)) (ht : (lops[j]?).bind (·.dst) = some t) (hb : lk env t = some (.bool c))
    (h1 : c = true → St ρ N ((t, .bool true) :: env) L (wpList P lops.toArray Q (o :: rest)))
    (h2 : c = false → St ρ N ((t, .bool false) :: env) L (wpList P lops.toArray Q (o :: rest))) : St ρ N env L (wpList P lops.toArray Q (o :: rest)) := by
  cases hc : c with
  | true => exact St.again hb (by rw [hc]) (h1 hc)
  | false => exact St.again hb (by rw [hc]) (h2 hc)

section
variable {d : Nat} {op : Op} {ty : TypeId} {pos : String} {aft : Array Edge} {g : Option (Nat × Bool)}

theorem St_run {α : Type} {v : α → Value} {M : α → List HP} (hN : d < N)
    (hr : ∀ a w, Ag N env a → Holds ρ w L → ∃ z w', (execOp a.eval ⟨some d, op, ty, pos, aft, g⟩).run P w = .ok (.value (v z)) w' ∧ Holds ρ w' (M z))
    (h : ∀ z, St ρ N ((d, v z) :: env) (M z) K) : St ρ N env L (Exec P Q ⟨some d, op, ty, pos, aft, g⟩ K) := by
  intro a w x y
  obtain ⟨z, w', e, hw⟩ := hr a w x y
  unfold Exec Oper.wp
  rw [e]
  exact h z _ _ (x.put hN _) hw
theorem St_pure {v : Value} (hN : d < N) (hr : ∀ a w, Ag N env a → (execOp a.eval ⟨some d, op, ty, pos, aft, g⟩).run P w = .ok (.value v) w)
    (h : St ρ N ((d, v) :: env) L K) : St ρ N env L (Exec P Q ⟨some d, op, ty, pos, aft, g⟩ K) :=
  St_run (α := Unit) (v := fun _ => v) (M := fun _ => L) hN (fun a w x y => ⟨(), w, hr a w x, y⟩) fun _ => h
/-- One that reads memory. -/
theorem St_read {v : Value} (hN : d < N) (hr : ∀ a w, Ag N env a → Holds ρ w L → (execOp a.eval ⟨some d, op, ty, pos, aft, g⟩).run P w = .ok (.value v) w)
    (h : St ρ N ((d, v) :: env) L K) : St ρ N env L (Exec P Q ⟨some d, op, ty, pos, aft, g⟩ K) :=
  St_run (α := Unit) (v := fun _ => v) (M := fun _ => L) hN (fun a w x y => ⟨(), w, hr a w x y, y⟩) fun _ => h

/-- An operation that yields a value and leaves the world as it is. -/
def Rd (P : Program) (ρ : Rst) (N : Nat) (env : Env) (L : List HP) (o : Oper) (v : Value) : Prop :=
  ∀ a w, Ag N env a → Holds ρ w L → (execOp a.eval o).run P w = .ok (.value v) w
theorem St_rd {v : Value} (hN : Nat.blt d N = true) (hr : Rd P ρ N env L ⟨some d, op, ty, pos, aft, g⟩ v) (h : St ρ N ((d, v) :: env) L K) :
    St ρ N env L (Exec P Q ⟨some d, op, ty, pos, aft, g⟩ K) := St_read (by simpa using hN) hr h
variable {dd : Option Nat}

theorem Rd_move {x : Operand} {v : Value} (hx : ev env x = some v) : Rd P ρ N env L ⟨dd, .move x, ty, pos, aft, g⟩ (v) :=
  fun a w y _ => by simp [execOp, ev_ok y hx]
theorem Rd_assign {x : Operand} {v : Value} (hx : ev env x = some v) : Rd P ρ N env L ⟨dd, .assign x, ty, pos, aft, g⟩ (v) :=
  fun a w y _ => by simp [execOp, ev_ok y hx]
theorem Rd_pick1 {c x y : Operand} {v : Value} {t : Bool} (hc' : ev env c = some (.bool t)) (ht : t = true) (hx : ev env x = some v) : Rd P ρ N env L ⟨dd, .pick c x y, ty, pos, aft, g⟩ (v) :=
  fun a w z _ => by have hc := ht ▸ hc'; simp [execOp, ev_ok z hx, ev_ok z hc, asBool]
theorem Rd_pick0 {c x y : Operand} {v : Value} {t : Bool} (hc' : ev env c = some (.bool t)) (ht : t = false) (hy : ev env y = some v) : Rd P ρ N env L ⟨dd, .pick c x y, ty, pos, aft, g⟩ (v) :=
  fun a w z _ => by have hc := ht ▸ hc'; simp [execOp, ev_ok z hy, ev_ok z hc, asBool]
theorem Rd_extract {x : Operand} {i : Nat} {l : List Value} {v : Value} (hx : ev env x = some (.tuple l.toArray)) (hv : l[i]? = some v) : Rd P ρ N env L ⟨dd, .extract x i, ty, pos, aft, g⟩ (v) :=
  fun a w z _ => by simp [execOp, ev_ok z hx, Instr.extract, hv]
theorem Rd_nilCheck {x : Operand} {A : Addr} (hx : ev env x = some (.pointer (some A))) : Rd P ρ N env L ⟨dd, .nilCheck x, ty, pos, aft, g⟩ (.pointer (some A)) :=
  fun a w z _ => by simp [execOp, ev_ok z hx]
/-- What an operation on two whole numbers makes. -/
def intOp (op : BinOp) (k : IntKind) (x y : Int) : Option Value :=
  match op with
  | .add => some (.int k (k.wrap (x + y)))
  | .sub => some (.int k (k.wrap (x - y)))
  | .mul => some (.int k (k.wrap (x * y)))
  | .and => some (.int k (k.wrap (BitVec.ofInt k.bits x &&& BitVec.ofInt k.bits y).toNat))
  | .or => some (.int k (k.wrap (BitVec.ofInt k.bits x ||| BitVec.ofInt k.bits y).toNat))
  | .xor => some (.int k (k.wrap (BitVec.ofInt k.bits x ^^^ BitVec.ofInt k.bits y).toNat))
  | .eql => some (.bool (x == y))
  | .neq => some (.bool (x != y))
  | .lss => some (.bool (decide (x < y)))
  | .leq => some (.bool (decide (x ≤ y)))
  | .gtr => some (.bool (decide (x > y)))
  | .geq => some (.bool (decide (x ≥ y)))
  | _ => none

theorem run_eqGuard_int {k k' : IntKind} {x y : Int} {op : BinOp} {T : TypeId} {u v : Operand} (w : World) : (eqGuard op T u v (.int k x) (.int k' y)).run P w = .ok () w := by
  cases op <;> simp [eqGuard]
theorem Rd_intOp {b : BinOp} {T U : TypeId} {x y : Operand} {k : IntKind} {m n : Int} {v : Value} (hx : ev env x = some (.int k m)) (hy : ev env y = some (.int k n))
    (hv : intOp b k m n = some v) : Rd P ρ N env L ⟨dd, .binOp b T x y U, ty, pos, aft, g⟩ (v) :=
  fun a w z _ => by
    cases b <;> simp only [intOp] at hv <;> cases hv <;> simp [execOp, ev_ok z hx, ev_ok z hy, run_eqGuard_int, binOp, Op.intArith, Op.intCmp, Op.intBits]
theorem Rd_add {T U : TypeId} {x y : Operand} {m n : Int} (hx : ev env x = some (.int .i64 m)) (hy : ev env y = some (.int .i64 n))
    (hb : -9223372036854775808 ≤ m + n ∧ m + n ≤ 9223372036854775807) : Rd P ρ N env L ⟨dd, .binOp .add T x y U, ty, pos, aft, g⟩ (.int .i64 (m + n)) :=
  Rd_intOp hx hy (by show some (Value.int .i64 (IntKind.i64.wrap (m + n))) = _; rw [IntWalk.i64_in _ hb])
theorem Rd_sub {T U : TypeId} {x y : Operand} {m n : Int} (hx : ev env x = some (.int .i64 m)) (hy : ev env y = some (.int .i64 n))
    (hb : -9223372036854775808 ≤ m - n ∧ m - n ≤ 9223372036854775807) : Rd P ρ N env L ⟨dd, .binOp .sub T x y U, ty, pos, aft, g⟩ (.int .i64 (m - n)) :=
  Rd_intOp hx hy (by show some (Value.int .i64 (IntKind.i64.wrap (m - n))) = _; rw [IntWalk.i64_in _ hb])
theorem Rd_mul {T U : TypeId} {x y : Operand} {m n : Int} (hx : ev env x = some (.int .i64 m)) (hy : ev env y = some (.int .i64 n))
    (hb : -9223372036854775808 ≤ m * n ∧ m * n ≤ 9223372036854775807) : Rd P ρ N env L ⟨dd, .binOp .mul T x y U, ty, pos, aft, g⟩ (.int .i64 (m * n)) :=
  Rd_intOp hx hy (by show some (Value.int .i64 (IntKind.i64.wrap (m * n))) = _; rw [IntWalk.i64_in _ hb])
theorem Rd_quo {T U : TypeId} {x y : Operand} {k : IntKind} {m n : Int} (hx : ev env x = some (.int k m)) (hy : ev env y = some (.int k n))
    (hb : n ≠ 0) : Rd P ρ N env L ⟨dd, .binOp .quo T x y U, ty, pos, aft, g⟩ (.int k (k.wrap (m.tdiv n))) :=
  fun a w z _ => by simp [execOp, ev_ok z hx, ev_ok z hy, run_eqGuard_int, binOp, Op.intDiv, hb]
theorem Rd_rem {T U : TypeId} {x y : Operand} {k : IntKind} {m n : Int} (hx : ev env x = some (.int k m)) (hy : ev env y = some (.int k n))
    (hb : n ≠ 0) : Rd P ρ N env L ⟨dd, .binOp .rem T x y U, ty, pos, aft, g⟩ (.int k (m.tmod n)) :=
  fun a w z _ => by simp [execOp, ev_ok z hx, ev_ok z hy, run_eqGuard_int, binOp, Op.intDiv, hb]
theorem Rd_shl {T U : TypeId} {x y : Operand} {k k' : IntKind} {m n : Int} (hx : ev env x = some (.int k m)) (hy : ev env y = some (.int k' n))
    (hb : 0 ≤ n) : Rd P ρ N env L ⟨dd, .binOp .shl T x y U, ty, pos, aft, g⟩ (.int k (k.wrap (m * 2 ^ (min n.toNat k.bits)))) :=
  fun a w z _ => by simp [execOp, ev_ok z hx, ev_ok z hy, run_eqGuard_int, binOp, Op.shift]; intro hc; omega
theorem Rd_shr {T U : TypeId} {x y : Operand} {k k' : IntKind} {m n : Int} (hx : ev env x = some (.int k m)) (hy : ev env y = some (.int k' n))
    (hb : 0 ≤ n) : Rd P ρ N env L ⟨dd, .binOp .shr T x y U, ty, pos, aft, g⟩ (.int k (m.fdiv (2 ^ (min n.toNat k.bits)))) :=
  fun a w z _ => by simp [execOp, ev_ok z hx, ev_ok z hy, run_eqGuard_int, binOp, Op.shift]; intro hc; omega
theorem Rd_not {T : TypeId} {x : Operand} {b : Bool} (hx : ev env x = some (.bool b)) : Rd P ρ N env L ⟨dd, .unOp .not T x, ty, pos, aft, g⟩ (.bool (!b)) :=
  fun a w z _ => by simp [execOp, ev_ok z hx, Op.unary]
theorem Rd_neg {T : TypeId} {x : Operand} {k : IntKind} {n : Int} (hx : ev env x = some (.int k n)) : Rd P ρ N env L ⟨dd, .unOp .neg T x, ty, pos, aft, g⟩ (.int k (k.wrap (0 - n))) :=
  fun a w z _ => by simp [execOp, ev_ok z hx, Op.unary, Op.intArith]
theorem Rd_compl {T : TypeId} {x : Operand} {k : IntKind} {n : Int} (hx : ev env x = some (.int k n))
    : Rd P ρ N env L ⟨dd, .unOp .xor T x, ty, pos, aft, g⟩ (.int k (k.wrap (BitVec.ofInt k.bits (if k.signed then -1 else k.max) ^^^ BitVec.ofInt k.bits n).toNat)) :=
  fun a w z _ => by simp [execOp, ev_ok z hx, Op.unary, Op.intBits]
/-- A text out of its bytes. -/
abbrev str (l : List UInt8) : Value := .string ⟨l.toArray⟩
theorem toList_str (l : List UInt8) : (ByteArray.mk l.toArray).toList = l := by rw [ByteArray.toList_eq]
theorem run_eqGuard_str {x y : ByteArray} {op : BinOp} {T : TypeId} {u v : Operand} (w : World) : (eqGuard op T u v (.string x) (.string y)).run P w = .ok () w := by
  cases op <;> simp [eqGuard]
def strOp (op : BinOp) (x y : List UInt8) : Option Value :=
  match op with
  | .eql => some (.bool (x == y))
  | .neq => some (.bool (!(x == y)))
  | .lss => some (.bool (Op.bytesLess x y))
  | _ => none
theorem Rd_strOp {b : BinOp} {T U : TypeId} {x y : Operand} {m n : List UInt8} {v : Value} (hx : ev env x = some (str m)) (hy : ev env y = some (str n))
    (hv : strOp b m n = some v) : Rd P ρ N env L ⟨dd, .binOp b T x y U, ty, pos, aft, g⟩ (v) :=
  fun a w z _ => by
    cases b <;> simp only [strOp] at hv <;> cases hv <;> simp [execOp, ev_ok z hx, ev_ok z hy, run_eqGuard_str, binOp, Op.stringOp, toList_str]
theorem Rd_cat {T U : TypeId} {x y : Operand} {m n : List UInt8} (hx : ev env x = some (str m)) (hy : ev env y = some (str n))
    (hb : m.length + n.length ≤ 9223372036854775807) : Rd P ρ N env L ⟨dd, .binOp .add T x y U, ty, pos, aft, g⟩ (str (m ++ n)) :=
  fun a w z _ => by
    have hs : ∀ l : List UInt8, (ByteArray.mk l.toArray).size = l.length := fun l => by simp [ByteArray.size]
    simp only [execOp, ev_ok z hx, ev_ok z hy, Sem.run_bind, run_eqGuard_str, binOp, Op.stringOp, Result.andThen_ok, hs, IntKind.max]
    rw [if_neg (by simp [IntKind.bits, IntKind.signed]; omega)]
    simp only [Sem.run_pure, Result.andThen_ok]
    congr 2
end

end Go.Proofs.YtfjnacakpeommaaDoor.SL
