/- Structs held against each other, whose fields are numbers, texts, truths. -/
import Derived.Test.YtfjnacakpeommaaDoorSlStr
import Derived.Laws.StructEq
namespace Go.Proofs.YtfjnacakpeommaaDoor.SL
open Go
set_option autoImplicit false
set_option linter.unusedVariables false
set_option linter.unusedSimpArgs false
variable {ρ : Rst} {N : Nat} {env : Env} {L L' : List HP} {P : Program} {Q : Exit → Act → World → Prop} {K : Act → World → Prop}
variable {d : Nat} {dd : Option Nat} {op : Op} {ty : TypeId} {pos : String} {aft : Array Edge} {g : Option (Nat × Bool)} (tb : Tabs P)

def eqCell : TypeDesc → Value → Value → Option Bool
  | .int _, .int k a, .int k' b => if k = k' then some (a == b) else none
  | .bool, .bool a, .bool b => some (a == b)
  | .string, .string a, .string b => some (a.data.toList == b.data.toList)
  | _, _, _ => none
def eqFl (und : List (Nat × TypeDesc)) (cs ds : List Value) : List Fl → Option Bool
  | [] => some true
  | f :: l => match tabLk und f.type, cs[f.off]?, ds[f.off]? with
    | some D, some x, some y => match eqCell D x y with
      | some r => (eqFl und cs ds l).map fun s => r && s
      | none => none
    | _, _, _ => none
def namesOk (P : Program) (T : TypeId) : Bool := (P.fieldsOf T).toList.all (fun f => f.name != "_") && !(P.stoodInHeld T) && !(P.eqGuardType P.depth T)
theorem eqCell_ok {w : World} {k : Nat} {t : TypeId} {D : TypeDesc} {x y : Value} {r : Bool} (hu : P.underlying t = some D) (h : eqCell D x y = some r) :
    (Op.equalIn (k + 1) t x y).run P w = .ok r w ∧ isAggD D = false := by
  unfold eqCell at h
  split at h
  · rename_i kk k1 a k2 b
    split at h
    · rename_i hk
      subst hk
      cases h
      exact ⟨run_equalIn_int w _ _ _ _ _ _ hu, rfl⟩
    · cases h
  · cases h
    exact ⟨run_equalIn_bool w _ _ _ _ hu, rfl⟩
  · cases h
    rename_i a b
    refine ⟨?_, rfl⟩
    rw [run_equalIn_string w _ _ _ _ hu, ByteArray.toList_eq, ByteArray.toList_eq]
  · cases h
theorem run_part1 {w : World} {t : TypeId} {D : TypeDesc} {cs : List Value} {off : Nat} {x : Value} (hu : P.underlying t = some D) (ha : isAggD D = false) (hx : cs[off]? = some x) :
    (part t cs.toArray off).run P w = .ok x w := by
  have h : (isAgg t).run P w = .ok false w := by
    simp only [isAgg, Sem.run_bind, run_und hu, Result.andThen_ok]
    cases D <;> simp [isAggD] at ha ⊢
  simp only [part, Sem.run_bind, h, Result.andThen_ok, Bool.false_eq_true, if_false, List.getElem?_toArray, hx, Sem.run_pure]
theorem eqFl_ok {w : World} {k : Nat} {cs ds : List Value} : ∀ {l : List Fl} {fs : List Field} {r : Bool}, fs.map (fun f => (f.offset, f.type)) = l.map (fun f => (f.off, f.type)) → fs.all (fun f => f.name != "_") = true →
    eqFl tb.und cs ds l = some r → (Op.eqFields (k + 1) cs.toArray ds.toArray fs).run P w = .ok r w
  | [], [], r, _, _, h => by cases h; rfl
  | [], _ :: _, _, h, _, _ => by cases h
  | _ :: _, [], _, h, _, _ => by cases h
  | f :: l, f' :: fs, r, hm, hn, h => by
    simp only [List.map_cons, List.cons.injEq, Prod.mk.injEq] at hm
    obtain ⟨⟨h1, h2⟩, h3⟩ := hm
    simp only [List.all_cons, Bool.and_eq_true, bne_iff_ne] at hn
    unfold eqFl at h
    split at h
    · rename_i D x y hu hx hy
      split at h
      · rename_i r1 hr1
        simp only [Option.map_eq_some_iff] at h
        obtain ⟨s, hs, rfl⟩ := h
        have hU := tab_ok tb.und_ok hu
        rw [← h2] at hU
        obtain ⟨he, ha⟩ := eqCell_ok (w := w) (k := k) hU hr1
        have ih := eqFl_ok (w := w) (k := k) h3 hn.2 hs
        simp only [Op.eqFields, if_pos hn.1, Sem.run_bind, h1, run_part1 hU ha hx, run_part1 hU ha hy, Result.andThen_ok, he]
        cases r1
        · rfl
        · simp only [Bool.not_true, Bool.false_eq_true, if_false, ih, Bool.true_and]
      · cases h
    · cases h
theorem Rd_eqStruct {T U : TypeId} {x y : Operand} {cs ds : List Value} {l : List Fl} {r : Bool} (hx : ev env x = some (.agg cs.toArray)) (hy : ev env y = some (.agg ds.toArray)) (hf : tabLk tb.fld T = some l) (hn : namesOk P T = true)
    (he : eqFl tb.und cs ds l = some r) : Rd P ρ N env L ⟨dd, .binOp .eql T x y U, ty, pos, aft, g⟩ (.bool r) :=
  fun a w z _ => by
    obtain ⟨fs, hu, hm, _⟩ := tab_ok tb.fld_ok hf
    simp only [namesOk, Bool.and_eq_true, Bool.not_eq_true'] at hn
    have hfo : P.fieldsOf T = fs := by unfold Program.fieldsOf; rw [hu]
    have hu2 : P.underlying T = some (.struct (P.fieldsOf T)) := by rw [hfo]; exact hu
    have h := eqFl_ok tb (w := w) (k := 9998) (fs := (P.fieldsOf T).toList) (by rw [hfo]; exact hm) hn.1.1 he
    simp only [execOp, ev_ok z hx, ev_ok z hy, Sem.run_bind, run_eqGuard_agg w .eql T x y _ _ hn.2, Result.andThen_ok, run_eql_struct, run_equalIn_agg w 9999 T _ _ hu2 hn.1.2, h, Sem.run_pure]
theorem Rd_boolEq {T U : TypeId} {x y : Operand} {p q : Bool} (hx : ev env x = some (.bool p)) (hy : ev env y = some (.bool q)) (hT : tabLk tb.und T = some .bool) :
    Rd P ρ N env L ⟨dd, .binOp .eql T x y U, ty, pos, aft, g⟩ (.bool (p == q)) :=
  fun a w z _ => by
    simp only [execOp, ev_ok z hx, ev_ok z hy, Sem.run_bind, eqGuard, Bool.not_true, Bool.false_eq_true, if_false, Sem.run_pure, Result.andThen_ok, run_eql_bool w T p q (tab_ok tb.und_ok hT)]
end Go.Proofs.YtfjnacakpeommaaDoor.SL
