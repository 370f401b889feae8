/- Regions that draw their order, with operations that write or call: the quiet ones first, the others in whatever order their edges allow. -/
import Derived.Test.YtfjnacakpeommaaDoorSlSlice
namespace Go.Proofs.YtfjnacakpeommaaDoor.SL
open Go
set_option autoImplicit false
set_option linter.unusedVariables false
set_option linter.unusedSimpArgs false

/-- Whatever order; at each step the world is of the class (which may hang on what has been done). -/
def Wa (P : Program) (md : Region.Mode) (ops : Array Oper) (C : Array Bool → World → Prop) (Q : Exit → Act → World → Prop) : Nat → Array Bool → Act → World → Prop
  | 0, listed, a, w => C listed w ∧ Region.ready md ops listed = [] ∧ Q .normal a w
  | fuel + 1, listed, a, w => C listed w ∧ (Region.ready md ops listed = [] → Q .normal a w) ∧
    ∀ i ∈ Region.ready md ops listed, wpOp P ops Q i (Wa P md ops C Q fuel (listed.setIfInBounds i true)) a w

section
variable {P : Program} {ops : Array Oper} {md : Region.Mode} {C : Array Bool → World → Prop} {Q : Exit → Act → World → Prop}
theorem Wa.any : ∀ (fuel : Nat) (listed : Array Bool) (a : Act) (w : World), Wa P md ops C Q fuel listed a w → wpAny P md ops Q fuel listed a w
  | 0, _, _, _, h => ⟨h.2.1, h.2.2⟩
  | fuel + 1, _, _, _, h => ⟨h.2.1, fun i hi => wpOp_mono (fun a w => Wa.any fuel _ a w) (h.2.2 i hi)⟩
theorem Wa.cls : ∀ {fuel : Nat} {listed : Array Bool} {a : Act} {w : World}, Wa P md ops C Q fuel listed a w → C listed w
  | 0, _, _, _, h => h.1
  | _ + 1, _, _, _, h => h.1

/-- The class: as long as the operation k is not done, H holds of the world. -/
def CK (k : Nat) (H : World → Prop) : Array Bool → World → Prop := fun listed w => listed.getD k false = true ∨ H w
/-- The operation k waits for i (or there is none of that number). -/
def waits (md : Region.Mode) (ops : Array Oper) (k i : Nat) : Bool := match ops[k]? with
  | some o => o.after.any fun e => Region.binds md e && e.on == i
  | none => true
/-- .. or waits for one that waits for it. -/
def reach (md : Region.Mode) (ops : Array Oper) : Nat → Nat → Nat → Bool
  | 0, _, _ => false
  | n + 1, m, i => match ops[m]? with
    | some o => o.after.any fun e => Region.binds md e && (e.on == i || reach md ops n e.on i)
    | none => false
def waitsT (md : Region.Mode) (ops : Array Oper) (k i : Nat) : Bool := waits md ops k i || reach md ops ops.size k i
/-- What is listed waits for nothing that is not. -/
def closedB (md : Region.Mode) (ops : Array Oper) (listed : Array Bool) : Bool :=
  (List.range ops.size).all fun j => !(listed.getD j false) || match ops[j]? with
    | some o => o.after.all fun e => !(Region.binds md e) || listed.getD e.on false
    | none => true
def Closed (md : Region.Mode) (ops : Array Oper) (listed : Array Bool) : Prop :=
  ∀ j o, ops[j]? = some o → listed.getD j false = true → ∀ e ∈ o.after, Region.binds md e = true → listed.getD e.on false = true
theorem Closed.of {listed : Array Bool} (h : closedB md ops listed = true) : Closed md ops listed := by
  intro j o ho hj e he hb
  have hlt : j < ops.size := (Array.getElem?_eq_some_iff.1 ho).1
  have := List.all_eq_true.1 h j (List.mem_range.2 hlt)
  simp only [hj, ho, Bool.not_true, Bool.false_or] at this
  have := Array.all_eq_true_iff_forall_mem.1 this e he
  simpa [hb] using this
theorem Closed.reach {listed : Array Bool} (hc : Closed md ops listed) {i : Nat} : ∀ (n m : Nat), SL.reach md ops n m i = true → listed.getD m false = true → listed.getD i false = true
  | 0, _, h, _ => by cases h
  | n + 1, m, h, hm => by
    unfold SL.reach at h
    cases ho : ops[m]? with
    | none => rw [ho] at h; cases h
    | some o =>
      rw [ho] at h
      obtain ⟨e, he, hb⟩ := Array.any_eq_true'.1 h
      simp only [Bool.and_eq_true, Bool.or_eq_true, beq_iff_eq] at hb
      have h1 := hc m o ho hm e he hb.1
      rcases hb.2 with h2 | h2
      · rw [← h2]; exact h1
      · exact Closed.reach hc n e.on h2 h1
theorem Closed.put {listed : Array Bool} (hc : Closed md ops listed) {j : Nat} (hj : j ∈ Region.ready md ops listed) : Closed md ops (listed.setIfInBounds j true) := by
  obtain ⟨_, oj, hoj, hall⟩ := mem_ready.1 hj
  intro m o ho hm e he hb
  refine getD_set_true ?_
  by_cases hmj : m = j
  · subst hmj
    rw [hoj] at ho
    cases ho
    exact hall e he hb
  · rw [getD_set_ne false (Ne.symm hmj)] at hm
    exact hc m o ho hm e he hb
/-- In state a the operation o yields v, in every world of which H holds. -/
def YC (P : Program) (ops : Array Oper) (H : World → Prop) (o : Oper) (v : Value) (a : Act) : Prop :=
  (Region.wanted o (yielded ops a.tmps) = true ∧ ∀ w, H w → (execOp a.eval o).run P w = .ok (.value v) w) ∨
  (Region.wanted o (yielded ops a.tmps) = false ∧ v = undef)
theorem YC.wpOp {H : World → Prop} {i : Nat} {o : Oper} {v : Value} {a : Act} (hi : ops[i]? = some o) (hy : YC P ops H o v a) {K : Act → World → Prop} {w : World} (hC : H w)
    (h : K (a.put o.dst v) w) : Go.wpOp P ops Q i K a w := by
  unfold Go.wpOp
  simp only [hi]
  rcases hy with ⟨hw, hv⟩ | ⟨hw, rfl⟩
  · simp only [hw, if_true, Oper.wp, hv w hC, Oper.upon]; exact .inl h
  · simp only [hw, Bool.false_eq_true, if_false]; exact h
theorem YC.of_same {H : World → Prop} {o : Oper} {v : Value} {a a' : Act} (hy : YC P ops H o v a) (he : execOp a'.eval o = execOp a.eval o)
    (hw : Region.wanted o (yielded ops a'.tmps) = Region.wanted o (yielded ops a.tmps)) : YC P ops H o v a' := by
  unfold YC at *
  rw [he, hw]
  exact hy
theorem wpOp_putC {H : World → Prop} {j : Nat} {oi oj : Oper} {v : Value} (hj : ops[j]? = some oj) (hap : oi.apart ops oj = true)
    (hsi : ∀ cs b, oi.op ≠ .select cs b) (hsj : ∀ cs b, oj.op ≠ .select cs b)
    (hQ : ∀ c a w, Q (.panic c) (a.put oi.dst v) w → Q (.panic c) a w) {K : Act → World → Prop} {a : Act} {w : World}
    (hy : YC P ops H oi v a) (h : wpOp P ops Q j K (a.put oi.dst v) w) :
    wpOp P ops Q j (fun a' w' => YC P ops H oi v a' ∧ K (a'.put oi.dst v) w') a w := by
  obtain ⟨h1, h2, h3⟩ := Oper.apart_spec hap
  have keep : ∀ (a : Act), YC P ops H oi v a → ∀ u, YC P ops H oi v (a.put oj.dst u) := fun a hy u =>
    hy.of_same (execOp_put oi hsi a oj.dst u h3) (wanted_put oi a oj.dst u h3)
  have keepD : ∀ d, YC P ops H oi v { a with defers := d :: a.defers } := fun d => hy.of_same rfl rfl
  unfold wpOp at *
  simp only [hj] at *
  rw [wanted_put oj a oi.dst v h1] at h
  split
  · rename_i hw
    simp only [hw, if_true] at h
    rcases h with h | ⟨hasks, hlets⟩
    case inr => exact .inr ⟨by unfold Oper.asks at *; rw [execOp_put oj hsj a oi.dst v h1] at hasks; exact hasks, hlets⟩
    refine .inl ?_
    unfold Oper.wp at *
    rw [execOp_put oj hsj a oi.dst v h1] at h
    generalize (execOp a.eval oj).run P w = r at *
    cases r with
    | ok n w' =>
      cases n <;> simp only [Oper.upon] at h ⊢
      case value u => exact ⟨keep a hy u, by rw [← Act.put_comm a v u h2]; exact h⟩
      case skip => exact ⟨keep a hy _, by rw [← Act.put_comm a v undef h2]; exact h⟩
      case defer d =>
        refine ⟨keep _ (keepD d) _, ?_⟩
        rw [← Act.put_comm _ v undef h2, ← Act.put_defers]
        exact h
      case enter f args =>
        refine Calls.mono h fun e w'' he => ?_
        cases e with
        | returned u => exact ⟨keep a hy u, by rw [← Act.put_comm a v u h2]; exact he⟩
        | panicked c => exact hQ _ _ _ he
        | outgrown => exact he
      case row row args => exact Rows.mono h fun u w'' he => ⟨keep a hy u, by rw [← Act.put_comm a v u h2]; exact he⟩
    | halt x w' =>
      cases x <;> simp only [Oper.upon] at h ⊢
      case panic u => exact hQ _ _ _ h
  · rename_i hw
    simp only [hw] at h
    exact ⟨keep a hy _, by rw [← Act.put_comm a v undef h2]; exact h⟩
theorem Wa.first {H : World → Prop} {i k : Nat} {oi : Oper} {v : Value} (hi : ops[i]? = some oi) (hsel : ∀ (j : Nat) (o : Oper) cs b, ops[j]? = some o → o.op ≠ .select cs b)
    (hQ : ∀ c a w, Q (.panic c) (a.put oi.dst v) w → Q (.panic c) a w) (hki : waitsT md ops k i = true) (hne : k ≠ i) :
    ∀ (fuel : Nat) (listed : Array Bool) (a : Act) (w : World), Closed md ops listed → listed.getD k false = false →
      (∀ j oj, ops[j]? = some oj → j ≠ i → listed.getD j true = false → (∀ e ∈ oj.after, Region.binds md e = true → e.on ≠ i) → oi.apart ops oj = true) →
      i ∈ Region.ready md ops listed → YC P ops H oi v a →
      Wa P md ops (CK k H) Q fuel (listed.setIfInBounds i true) (a.put oi.dst v) w → Wa P md ops (CK k H) Q (fuel + 1) listed a w := by
  intro fuel
  induction fuel with
  | zero =>
    intro listed a w hcl hku _ hr hy W
    have hH : H w := W.cls.resolve_left (by rw [getD_set_ne false (Ne.symm hne), hku]; simp)
    refine ⟨.inr hH, fun h => (by rw [h] at hr; cases hr), fun j hj => ?_⟩
    by_cases hji : j = i
    · subst hji; exact hy.wpOp hi hH W
    · have := ready_mono hj hji
      rw [W.2.1] at this
      cases this
  | succ fuel ih =>
    intro listed a w hcl hku hfree hr hy W
    have hH : H w := W.cls.resolve_left (by rw [getD_set_ne false (Ne.symm hne), hku]; simp)
    have hun := (mem_ready.1 hr).1
    refine ⟨.inr hH, fun h => (by rw [h] at hr; cases hr), fun j hj => ?_⟩
    by_cases hji : j = i
    · subst hji; exact hy.wpOp hi hH W
    · have h1 := W.2.2 j (ready_mono hj hji)
      obtain ⟨hjun, oj, hoj, hall⟩ := mem_ready.1 hj
      have hnot : ∀ e ∈ oj.after, Region.binds md e = true → e.on ≠ i := fun e he hb heq => by
        have h1 := hall e he hb
        rw [heq] at h1
        rcases Nat.lt_or_ge i listed.size with h' | h'
        · simp [h'] at hun h1; rw [hun] at h1; cases h1
        · simp [Array.getElem?_eq_none h'] at h1
      have hjk : j ≠ k := fun e => by
        subst e
        unfold waitsT at hki
        rw [Bool.or_eq_true] at hki
        rcases hki with hki | hki
        · unfold waits at hki
          rw [hoj] at hki
          obtain ⟨e, he, hb⟩ := Array.any_eq_true'.1 hki
          simp only [Bool.and_eq_true, beq_iff_eq] at hb
          exact hnot e he hb.1 hb.2
        · have hsz : ∃ n, ops.size = n + 1 := ⟨ops.size - 1, by have := (Array.getElem?_eq_some_iff.1 hoj).1; omega⟩
          obtain ⟨n, hn⟩ := hsz
          rw [hn] at hki
          unfold reach at hki
          rw [hoj] at hki
          obtain ⟨e, he, hb⟩ := Array.any_eq_true'.1 hki
          simp only [Bool.and_eq_true, Bool.or_eq_true, beq_iff_eq] at hb
          rcases hb.2 with h5 | h5
          · exact hnot e he hb.1 h5
          · have h6 := hcl.reach n e.on h5 (hall e he hb.1)
            rcases Nat.lt_or_ge i listed.size with h' | h'
            · simp [h'] at hun h6; rw [hun] at h6; cases h6
            · simp [Array.getElem?_eq_none h'] at h6
      have h2 := wpOp_putC hoj (hfree j oj hoj hji hjun hnot) (fun cs b => hsel i oi cs b hi) (fun cs b => hsel j oj cs b hoj) hQ hy h1
      have hfree' : ∀ k ok, ops[k]? = some ok → k ≠ i → (listed.setIfInBounds j true).getD k true = false →
          (∀ e ∈ ok.after, Region.binds md e = true → e.on ≠ i) → oi.apart ops ok = true := fun k ok hk hki hun hno => by
        refine hfree k ok hk hki ?_ hno
        by_cases hjk : j = k
        · subst hjk; exact hjun
        · rw [getD_set_ne true hjk] at hun; exact hun
      refine wpOp_mono (fun a' w' h3 => ih (listed.setIfInBounds j true) a' w' (hcl.put hj) (by rw [getD_set_ne false hjk]; exact hku) hfree' (ready_mono hr (Ne.symm hji)) h3.1 ?_) h2
      rw [Array.setIfInBounds_comm _ _ hji]
      exact h3.2
end

variable {ρ : Rst} {N : Nat} {env : Env} {L L' : List HP} {P : Program} {Q : Exit → Act → World → Prop} {K : Act → World → Prop} {lops : List Oper}
/-- The order is drawn. k: the operation behind which L0 need no more hold (a number too great: none). -/
theorem St_regionA {id : Nat} (k : Nat) (L0 : List HP) (hm : P.follows .mixedOrders = true) (h : St ρ N env L (Wa P .any lops.toArray (CK k (HC ρ L0)) Q lops.length (List.replicate lops.length false).toArray)) :
    St ρ N env L ((Code.region id lops.toArray true).wp P Q) := by
  intro a w x y
  refine wp_region_any hm ?_
  have := Wa.any _ _ _ _ (h a _ x y.drew)
  simpa using this
section
variable {d : Nat} {dd : Option Nat} {op : Op} {ty : TypeId} {pos : String} {aft : Array Edge} {g : Option (Nat × Bool)} {fuel k : Nat} {L0 R : List HP} {listed : Array Bool}
/-- A panic's end looks at no slot. -/
def PanicOk (Q : Exit → Act → World → Prop) : Prop := ∀ c a a' w, a.defers = a'.defers → Q (.panic c) a w → Q (.panic c) a' w
theorem PanicOk.body {fn : Func} {R : Ending → World → Prop} : PanicOk (bodyPost P fn R) := fun c a a' w e h => ⟨e ▸ h.1, h.2⟩
theorem PanicOk.then {K : Act → World → Prop} (h : PanicOk Q) : PanicOk (Exit.then K Q) := h
theorem PanicOk.block {id : Nat} (h : PanicOk Q) : PanicOk (Exit.inBlock id Q) := h
/-- A quiet operation may be taken first. -/
theorem Sa_take {v : Value} (i : Nat) (hi : lops[i]? = some ⟨some d, op, ty, pos, aft, none⟩) (hc : (Region.noSelect lops.toArray && Region.free .any lops.toArray listed i && (Region.ready .any lops.toArray listed).contains i &&
      waitsT .any lops.toArray k i && !(Nat.beq k i) && !(listed.getD k false) && closedB .any lops.toArray listed) = true)
    (hQ : PanicOk Q) (hN : Nat.blt d N = true)
    (hy : Rd P ρ N env L0 ⟨some d, op, ty, pos, aft, none⟩ v)
    (h : St ρ N ((d, v) :: env) L (Wa P .any lops.toArray (CK k (HC ρ L0)) Q fuel (listed.setIfInBounds i true))) :
    St ρ N env L (Wa P .any lops.toArray (CK k (HC ρ L0)) Q (fuel + 1) listed) := by
  simp only [Bool.and_eq_true, Bool.not_eq_true'] at hc
  obtain ⟨⟨⟨⟨⟨⟨h1, h2⟩, h3⟩, h4⟩, h5⟩, h6⟩, h7⟩ := hc
  intro a w x y
  have hi' : lops.toArray[i]? = some ⟨some d, op, ty, pos, aft, none⟩ := by simpa using hi
  refine Wa.first (H := HC ρ L0) (v := v) hi' (Region.noSelect_spec h1) (fun c a w h => hQ c (a.put (some d) v) a w rfl h) h4 (by intro e; subst e; simp at h5) fuel listed a w (Closed.of h7) h6 (Region.free_spec hi' h2) (by simpa using h3) (.inl ⟨rfl, fun w hw => hy a w x hw⟩) ?_
  exact h _ w (x.put (by simpa using hN) v) y
/-- All that may come up now. -/
theorem Sa_all {rs : List Nat} (hr : Region.ready .any lops.toArray listed = rs) (hne : rs.isEmpty = false) (hs : listed.getD k false = true ∨ Split L L0 R)
    (h : ∀ i, i ∈ rs → St ρ N env L (wpOp P lops.toArray Q i (Wa P .any lops.toArray (CK k (HC ρ L0)) Q fuel (listed.setIfInBounds i true)))) :
    St ρ N env L (Wa P .any lops.toArray (CK k (HC ρ L0)) Q (fuel + 1) listed) := by
  intro a w x y
  refine ⟨?_, fun h0 => ?_, fun i hi => h i (hr ▸ hi) a w x y⟩
  · rcases hs with hs | hs
    · exact .inl hs
    · exact .inr (y.split hs).drops
  · rw [hr] at h0; rw [h0] at hne; cases hne
theorem Sa_one {i : Nat} (hr : Region.ready .any lops.toArray listed = [i]) (hs : listed.getD k false = true ∨ Split L L0 R)
    (h : St ρ N env L (wpOp P lops.toArray Q i (Wa P .any lops.toArray (CK k (HC ρ L0)) Q fuel (listed.setIfInBounds i true)))) :
    St ρ N env L (Wa P .any lops.toArray (CK k (HC ρ L0)) Q (fuel + 1) listed) :=
  Sa_all hr rfl hs fun j hj => by
    have : j = i := by simpa using hj
    subst this; exact h
theorem Sa_op {i : Nat} {o : Oper} {K : Act → World → Prop} (hi : lops[i]? = some o) (hg : o.guard = none) (h : St ρ N env L (Exec P Q o K)) : St ρ N env L (wpOp P lops.toArray Q i K) := by
  intro a w x y
  unfold wpOp
  have hi' : lops.toArray[i]? = some o := by simpa using hi
  rw [hi']
  simp only [Region.wanted, hg, if_true]
  exact .inl (h a w x y)
theorem Sa_done (hr : Region.ready .any lops.toArray listed = []) (hs : listed.getD k false = true ∨ Split L L0 R) (h : St ρ N env L (Q .normal)) :
    St ρ N env L (Wa P .any lops.toArray (CK k (HC ρ L0)) Q 0 listed) := by
  intro a w x y
  refine ⟨?_, hr, h a w x y⟩
  rcases hs with hs | hs
  · exact .inl hs
  · exact .inr (y.split hs).drops
end
end Go.Proofs.YtfjnacakpeommaaDoor.SL
