/- The steps of a walk as one lemma: its side conditions are filled by a tactic that stands in its signature (so that the walks' texts stay short). Written by prep.py. -/
import Derived.Test.YtfjnacakpeommaaDoorSlEq
import Derived.Test.YtfjnacakpeommaaDoorSlDraw
import Derived.Test.YtfjnacakpeommaaDoorFacts
namespace Go.Proofs.YtfjnacakpeommaaDoor.SL
open Go
set_option autoImplicit false
theorem Has.auto {L L' : List HP} {A : HP} (h : Has L A L' := by (repeat (first | exact Has.head | apply Has.tail))) : Has L A L' := h
theorem Split.auto {L p F : List HP} (h : Split L p F := by (repeat (first | exact Split.nil | (apply Split.cons; (repeat (first | exact Has.head | apply Has.tail)))))) : Split L p F := h
theorem PanicOk.auto {Q : Exit → Act → World → Prop} (h : PanicOk Q := by (repeat (first | exact PanicOk.body | apply PanicOk.then | apply PanicOk.block))) : PanicOk Q := h
theorem Rd_auto {P : Program} {ρ : Rst} {N : Nat} {env : Env} {L : List HP} {o : Oper} {v : Value} (h : Rd P ρ N env L o v := by first
  | (apply Rd_move; exact rfl)
  | (apply Rd_assign; exact rfl)
  | (apply Rd_extract; exact rfl; exact rfl)
  | (apply Rd_fieldAddr tb; exact rfl; exact rfl; exact rfl; exact rfl)
  | (apply Rd_load tb; exact rfl; exact rfl; exact rfl; (repeat (first | exact Has.head | apply Has.tail)); exact rfl)
  | (apply Rd_nilCheck; exact rfl)
  | (apply Rd_loadW tb; exact rfl; exact rfl; exact rfl; (repeat (first | exact Has.head | apply Has.tail)); exact rfl)
  | (apply Rd_pick1; exact rfl; (first | with_reducible exact rfl | with_reducible exact Bool.not_false | with_reducible exact Bool.not_true | decide); exact rfl)
  | (apply Rd_pick0; exact rfl; (first | with_reducible exact rfl | with_reducible exact Bool.not_false | with_reducible exact Bool.not_true | decide); exact rfl)
  | (apply Rd_add; exact rfl; exact rfl; omega)
  | (apply Rd_sub; exact rfl; exact rfl; omega)
  | (apply Rd_mul; exact rfl; exact rfl; omega)
  | (apply Rd_intOp; exact rfl; exact rfl; exact rfl)
  | (apply Rd_not; exact rfl)
  | (apply Rd_strOp; exact rfl; exact rfl; exact rfl)
  | (apply Rd_cat; exact rfl; exact rfl; omega)
  | (apply Rd_convSame tb; exact rfl; exact rfl; exact rfl; exact IntWalk.i64_in _ (by omega))
  | (apply Rd_convSame tb; exact rfl; exact rfl; exact rfl; exact IntWalk.u64_in _ (by omega))
  | (apply Rd_convSame tb; exact rfl; exact rfl; exact rfl; exact IntWalk.u8_in _ (by omega))
  | (apply Rd_convSame tb; exact rfl; exact rfl; exact rfl; exact IntWalk.u32_in _ (by omega))
  | (apply Rd_convInt tb; exact rfl; exact rfl; exact rfl)
  | (apply Rd_convStr tb; exact rfl; exact rfl; exact rfl)
  | (apply Rd_lenStr tb; exact rfl; exact rfl)
  | (apply Rd_lenSlice tb; exact rfl; exact rfl)
  | (apply Rd_max; exact rfl; exact rfl)
  | (apply Rd_min; exact rfl; exact rfl)
  | (apply Rd_field tb; exact rfl; exact rfl; exact rfl; exact rfl; exact rfl; exact rfl)
  | (apply Rd_fieldA tb; exact rfl; exact rfl; exact rfl; exact rfl; exact rfl; exact rfl)
  | (apply Rd_build tb; exact rfl; exact rfl; exact rfl; (simp only [fillL, plF, insL, cellsL, List.set, Nat.beq, Nat.ble, Bool.and_true, Bool.and_self, List.length_cons, List.length_nil, List.getElem?_cons_zero, List.getElem?_cons_succ, Nat.reduceAdd]; exact rfl))
  | (apply Rd_indexAddrS tb; exact rfl; exact rfl; exact rfl; exact rfl; omega)
  | (apply Rd_indexAddrA tb; exact rfl; exact rfl; exact rfl; exact rfl; omega)
  | (apply Rd_quo; exact rfl; exact rfl; decide)
  | (apply Rd_rem; exact rfl; exact rfl; decide)
  | (apply Rd_shl; exact rfl; exact rfl; omega)
  | (apply Rd_shr; exact rfl; exact rfl; omega)
  | (apply Rd_neg; exact rfl)
  | (apply Rd_compl; exact rfl)
  | (apply Rd_sliceStr tb; exact rfl; exact rfl; exact rfl; exact rfl; omega)
  | (apply Rd_sliceStrTo tb; exact rfl; exact rfl; exact rfl; omega)
  | (apply Rd_sliceStrFrom tb; exact rfl; exact rfl; exact rfl; omega)
  | (apply Rd_lenArr tb; exact rfl; exact rfl)
  | (apply Rd_indexArr tb; exact rfl; exact rfl; exact rfl; exact rfl; exact rfl; exact rfl; decide; exact rfl)) : Rd P ρ N env L o v := h
def Stp (A B : Prop) : Prop := B → A
def Stp2 (A B C : Prop) : Prop := B → C → A
theorem St_step2 {A B C : Prop} (h : B) (k : C) (s : Stp2 A B C := by
  intro h k
  first
  | (apply St_gx; exact rfl; exact rfl; exact rfl; exact h; exact k)
  | (apply St_cond; exact rfl; exact h; exact k)
  | (apply Sq_gx; exact rfl; exact rfl; exact rfl; exact h; exact k)) : A := s h k
theorem St_step {A B : Prop} (h : B) (s : Stp A B := by
  intro h
  first
  | (apply St_g0; exact rfl; exact h)
  | (apply St_rd; exact rfl; (first | (apply Rd_move; exact rfl) | (apply Rd_assign; exact rfl) | (apply Rd_extract; exact rfl; exact rfl) | (apply Rd_fieldAddr tb; exact rfl; exact rfl; exact rfl; exact rfl) | (apply Rd_load tb; exact rfl; exact rfl; exact rfl; (repeat (first | exact Has.head | apply Has.tail)); exact rfl) | (apply Rd_nilCheck; exact rfl) | (apply Rd_loadW tb; exact rfl; exact rfl; exact rfl; (repeat (first | exact Has.head | apply Has.tail)); exact rfl) | (apply Rd_pick1; exact rfl; (first | with_reducible exact rfl | with_reducible exact Bool.not_false | with_reducible exact Bool.not_true | decide); exact rfl) | (apply Rd_pick0; exact rfl; (first | with_reducible exact rfl | with_reducible exact Bool.not_false | with_reducible exact Bool.not_true | decide); exact rfl) | (apply Rd_add; exact rfl; exact rfl; (clear h; omega)) | (apply Rd_sub; exact rfl; exact rfl; (clear h; omega)) | (apply Rd_mul; exact rfl; exact rfl; (clear h; omega)) | (apply Rd_intOp; exact rfl; exact rfl; exact rfl) | (apply Rd_not; exact rfl) | (apply Rd_strOp; exact rfl; exact rfl; exact rfl) | (apply Rd_cat; exact rfl; exact rfl; (clear h; omega)) | (apply Rd_convSame tb; exact rfl; exact rfl; exact rfl; exact IntWalk.i64_in _ (by (clear h; omega))) | (apply Rd_convSame tb; exact rfl; exact rfl; exact rfl; exact IntWalk.u64_in _ (by (clear h; omega))) | (apply Rd_convSame tb; exact rfl; exact rfl; exact rfl; exact IntWalk.u8_in _ (by (clear h; omega))) | (apply Rd_convSame tb; exact rfl; exact rfl; exact rfl; exact IntWalk.u32_in _ (by (clear h; omega))) | (apply Rd_convInt tb; exact rfl; exact rfl; exact rfl) | (apply Rd_convStr tb; exact rfl; exact rfl; exact rfl) | (apply Rd_lenStr tb; exact rfl; exact rfl) | (apply Rd_lenSlice tb; exact rfl; exact rfl) | (apply Rd_max; exact rfl; exact rfl) | (apply Rd_min; exact rfl; exact rfl) | (apply Rd_field tb; exact rfl; exact rfl; exact rfl; exact rfl; exact rfl; exact rfl) | (apply Rd_fieldA tb; exact rfl; exact rfl; exact rfl; exact rfl; exact rfl; exact rfl) | (apply Rd_build tb; exact rfl; exact rfl; exact rfl; (simp only [fillL, plF, insL, cellsL, List.set, Nat.beq, Nat.ble, Bool.and_true, Bool.and_self, List.length_cons, List.length_nil, List.getElem?_cons_zero, List.getElem?_cons_succ, Nat.reduceAdd]; exact rfl)) | (apply Rd_indexAddrS tb; exact rfl; exact rfl; exact rfl; exact rfl; (clear h; omega)) | (apply Rd_indexAddrA tb; exact rfl; exact rfl; exact rfl; exact rfl; (clear h; omega)) | (apply Rd_quo; exact rfl; exact rfl; decide) | (apply Rd_rem; exact rfl; exact rfl; decide) | (apply Rd_shl; exact rfl; exact rfl; (clear h; omega)) | (apply Rd_shr; exact rfl; exact rfl; (clear h; omega)) | (apply Rd_neg; exact rfl) | (apply Rd_compl; exact rfl) | (apply Rd_sliceStr tb; exact rfl; exact rfl; exact rfl; exact rfl; (clear h; omega)) | (apply Rd_sliceStrTo tb; exact rfl; exact rfl; exact rfl; (clear h; omega)) | (apply Rd_sliceStrFrom tb; exact rfl; exact rfl; exact rfl; (clear h; omega)) | (apply Rd_lenArr tb; exact rfl; exact rfl) | (apply Rd_indexArr tb; exact rfl; exact rfl; exact rfl; exact rfl; exact rfl; exact rfl; decide; exact rfl)); exact h)
  | (apply St_nil; exact h)
  | (apply St_thn; exact h)
  | (apply St_seq; exact h)
  | (apply St_region; exact h)
  | (apply St_store1 tb; exact rfl; exact rfl; exact rfl; exact rfl; exact rfl; (repeat (first | exact Has.head | apply Has.tail)); exact rfl; simp only [List.set]; exact rfl; exact h)
  | (apply St_storeW tb; exact rfl; exact rfl; exact rfl; exact rfl; exact rfl; (repeat (first | exact Has.head | apply Has.tail)); exact rfl; exact h)
  | (apply St_g1; exact rfl; exact rfl; (first | with_reducible exact rfl | with_reducible exact Bool.not_false | with_reducible exact Bool.not_true | decide); exact h)
  | (apply St_gs; exact rfl; exact rfl; (with_reducible first | exact rfl | exact Bool.not_true.symm | exact Bool.not_false.symm); exact rfl; exact rfl; exact h)
  | (apply St_gu; exact rfl; exact rfl; exact rfl; exact rfl; exact h)
  | (apply St_alloc tb; exact rfl; exact rfl; exact h)
  | (apply St_boxA; exact rfl; exact rfl; exact h)
  | (apply St_box1; exact rfl; exact rfl; exact rfl; exact h)
  | (apply St_buildSlice tb; exact rfl; exact rfl; exact rfl; exact rfl; exact rfl; (simp only [fillL, insL, cellsL, List.replicate_succ, List.replicate_zero, List.flatten_cons, List.flatten_nil, List.append_nil, List.nil_append, List.cons_append, List.set_cons_zero, List.set_cons_succ, Nat.zero_mul, Nat.one_mul, Nat.reduceMul, Nat.reduceAdd, List.length_cons, List.length_nil, Nat.beq, Nat.ble, Bool.and_self, Bool.and_true]; exact rfl); exact rfl; exact h)
  | (apply St_condT; exact rfl; (first | with_reducible exact rfl | with_reducible exact Bool.not_false | with_reducible exact Bool.not_true | decide); exact h)
  | (apply St_condF; exact rfl; (first | with_reducible exact rfl | with_reducible exact Bool.not_false | with_reducible exact Bool.not_true | decide); exact h)
  | (apply St_skip; exact h)
  | (apply St_retc; exact h)
  | (apply St_thr; exact h)
  | (apply St_ibr; exact h)
  | (apply St_ibn; exact h)
  | (apply St_ibe; exact h)
  | (apply St_ibx; exact rfl; exact h)
  | (apply St_the; exact h)
  | (apply St_exit; exact h)
  | (apply St_block; exact h)
  | (apply Sq_g0; exact rfl; exact h)
  | (apply Sq_rd; exact rfl; (first | (apply Rd_move; exact rfl) | (apply Rd_assign; exact rfl) | (apply Rd_extract; exact rfl; exact rfl) | (apply Rd_fieldAddr tb; exact rfl; exact rfl; exact rfl; exact rfl) | (apply Rd_load tb; exact rfl; exact rfl; exact rfl; (repeat (first | exact Has.head | apply Has.tail)); exact rfl) | (apply Rd_nilCheck; exact rfl) | (apply Rd_loadW tb; exact rfl; exact rfl; exact rfl; (repeat (first | exact Has.head | apply Has.tail)); exact rfl) | (apply Rd_pick1; exact rfl; (first | with_reducible exact rfl | with_reducible exact Bool.not_false | with_reducible exact Bool.not_true | decide); exact rfl) | (apply Rd_pick0; exact rfl; (first | with_reducible exact rfl | with_reducible exact Bool.not_false | with_reducible exact Bool.not_true | decide); exact rfl) | (apply Rd_add; exact rfl; exact rfl; (clear h; omega)) | (apply Rd_sub; exact rfl; exact rfl; (clear h; omega)) | (apply Rd_mul; exact rfl; exact rfl; (clear h; omega)) | (apply Rd_intOp; exact rfl; exact rfl; exact rfl) | (apply Rd_not; exact rfl) | (apply Rd_strOp; exact rfl; exact rfl; exact rfl) | (apply Rd_cat; exact rfl; exact rfl; (clear h; omega)) | (apply Rd_convSame tb; exact rfl; exact rfl; exact rfl; exact IntWalk.i64_in _ (by (clear h; omega))) | (apply Rd_convSame tb; exact rfl; exact rfl; exact rfl; exact IntWalk.u64_in _ (by (clear h; omega))) | (apply Rd_convSame tb; exact rfl; exact rfl; exact rfl; exact IntWalk.u8_in _ (by (clear h; omega))) | (apply Rd_convSame tb; exact rfl; exact rfl; exact rfl; exact IntWalk.u32_in _ (by (clear h; omega))) | (apply Rd_convInt tb; exact rfl; exact rfl; exact rfl) | (apply Rd_convStr tb; exact rfl; exact rfl; exact rfl) | (apply Rd_lenStr tb; exact rfl; exact rfl) | (apply Rd_lenSlice tb; exact rfl; exact rfl) | (apply Rd_max; exact rfl; exact rfl) | (apply Rd_min; exact rfl; exact rfl) | (apply Rd_field tb; exact rfl; exact rfl; exact rfl; exact rfl; exact rfl; exact rfl) | (apply Rd_fieldA tb; exact rfl; exact rfl; exact rfl; exact rfl; exact rfl; exact rfl) | (apply Rd_build tb; exact rfl; exact rfl; exact rfl; (simp only [fillL, plF, insL, cellsL, List.set, Nat.beq, Nat.ble, Bool.and_true, Bool.and_self, List.length_cons, List.length_nil, List.getElem?_cons_zero, List.getElem?_cons_succ, Nat.reduceAdd]; exact rfl)) | (apply Rd_indexAddrS tb; exact rfl; exact rfl; exact rfl; exact rfl; (clear h; omega)) | (apply Rd_indexAddrA tb; exact rfl; exact rfl; exact rfl; exact rfl; (clear h; omega)) | (apply Rd_quo; exact rfl; exact rfl; decide) | (apply Rd_rem; exact rfl; exact rfl; decide) | (apply Rd_shl; exact rfl; exact rfl; (clear h; omega)) | (apply Rd_shr; exact rfl; exact rfl; (clear h; omega)) | (apply Rd_neg; exact rfl) | (apply Rd_compl; exact rfl) | (apply Rd_sliceStr tb; exact rfl; exact rfl; exact rfl; exact rfl; (clear h; omega)) | (apply Rd_sliceStrTo tb; exact rfl; exact rfl; exact rfl; (clear h; omega)) | (apply Rd_sliceStrFrom tb; exact rfl; exact rfl; exact rfl; (clear h; omega)) | (apply Rd_lenArr tb; exact rfl; exact rfl) | (apply Rd_indexArr tb; exact rfl; exact rfl; exact rfl; exact rfl; exact rfl; exact rfl; decide; exact rfl)); exact h)
  | (apply Sq_nil; exact h)
  | (apply Sq_g1; exact rfl; exact rfl; (first | with_reducible exact rfl | with_reducible exact Bool.not_false | with_reducible exact Bool.not_true | decide); exact h)
  | (apply Sq_gs; exact rfl; exact rfl; (with_reducible first | exact rfl | exact Bool.not_true.symm | exact Bool.not_false.symm); exact rfl; exact rfl; exact h)
  | (apply Sq_gu; exact rfl; exact rfl; exact rfl; exact rfl; exact h)) : A := s h
end Go.Proofs.YtfjnacakpeommaaDoor.SL
