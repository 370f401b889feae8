/- chapbooklaw09.FrameBurst answers true for every frame, place and mask, and leaves its arguments as they were; prefix.bits holds what the program's text lays. -/
import Derived.Test.YtffnnddhlpcicaaDoorRFr3
import Derived.Test.YtffnnddhlpcicaaDoorC11
namespace Go.Proofs.YtffnnddhlpcicaaDoor
open Go Go.ChangeShapes Go.WideShapes Go.RowKit SL Pl
set_option autoImplicit false
set_option maxRecDepth 100000
set_option linter.unusedVariables false
theorem frameBurst_ps : ∀ t ∈ (Tryd.f7).params.toList, t = 23 ∨ t = 3 ∨ t = 36 := fun t ht => by
  simpa [show (Tryd.f7).params = #[23, 3, 36] from rfl] using ht
set_option maxHeartbeats 1000000 in
theorem frameBurst_lifted (os : Os) (started : os.Started) (H : Type) (enc : TypeId × Value → H) :
    ReturnsInHanded {} Tryd.checked os 7 .any (fun w args => (Rows.frameBurstSpec.pre enc Tryd.prog Tryd.f7 [] false w args ∧ laidMetH Tryd.prog [("chapbook/prefix.bits", Rows.laid_chapbook_prefix_bits)] w) ∧ sizedMet enc Tryd.prog Tryd.f7 (OpenSpec.ofChange Rows.frameBurstSpec) false w args)
      (Rows.frameBurstSpec.post enc Tryd.prog Tryd.f7 false true false false) := by
  refine returnsInHanded_of_change_and (C := Tryd.checked) (X := fun w _ => laidMetH Tryd.prog [("chapbook/prefix.bits", Rows.laid_chapbook_prefix_bits)] w) (fun _ _ _ hh h => h.of_heap hh) own started (by kernel_rfl) Tryd.func7
    (ChangeSpec.witness_at (enc := enc) (C := Tryd.checked) (os := os) (X := fun w _ => laidMetH Tryd.prog [("chapbook/prefix.bits", Rows.laid_chapbook_prefix_bits)] w) false (laidWorld os) #[.agg (fv fr0).toArray, .int .i64 0, .int .u32 0] 8 rfl (by kernel_rfl) (by kernel_rfl) (by kernel_rfl) (by kernel_rfl) (by kernel_rfl) (laidWorld_met os _)) ?_
  intro W base args ds gs before hval0 hW _ _ hL _
  have hval : ∀ (j : Nat) t v, (Tryd.f7).params[j]? = some t → args[j]? = some v → Value.okWide Tryd.prog W .any base t v := hval0
  have hL' : laidMet Tryd.prog [("chapbook/prefix.bits", Rows.laid_chapbook_prefix_bits)] W := hL
  obtain ⟨p, q, hA, hV, _⟩ := id hW
  have hA : DataW.TrodAll enc Tryd.prog W 0 (fun _ => true) true [23, 3, 36] args.toList ds p := hA
  obtain ⟨v0, v1, v2, d0, d1, d2, p0, p1, p2, rfl, rfl, _, h0, h1, h2⟩ := trodAll_three hA
  obtain ⟨f0, rfl, hf0⟩ := open_frame (hval 0 _ v0 rfl rfl) h0
  obtain ⟨n1, rfl, hn1⟩ := open_int u_int (hval 1 _ v1 rfl rfl) h1
  obtain ⟨n2, rfl, _, _, hn2⟩ := open_int u_u32 (hval 2 _ v2 rfl rfl) h2
  obtain ⟨m2, rfl, hm2⟩ := u32_nat hn2
  refine (law_calls (args := [.agg (fv f0).toArray, .int .i64 n1, nat .u32 m2]) hL' (fun h => h) (frameBurst_sp f0 n1 m2 hm2 hf0) (fun v M h => h.1)).mono fun e W' ⟨he, hb⟩ => ?_
  subst he
  refine ⟨_, rfl, law_post rfl hW rfl rfl ?_ hb⟩
  exact fun t ht => by
    rcases frameBurst_ps t ht with rfl | rfl | rfl <;> exact ⟨by kernel_rfl, of_decide_eq_true (by kernel_rfl)⟩
theorem frameBurst_holds : Rows.FrameBurstSaid :=
  OpenClaim.holds_of_wide 7 Tryd.f7 rfl rfl rfl rfl rfl rfl rfl ⟨rfl, rfl, rfl, rfl, rfl⟩ rfl rfl rfl rfl rfl (by kernel_rfl) Tryd.func7 (by kernel_rfl)
    (of_decide_eq_true (by kernel_rfl)) (by unfold Func.isWrapper; rw [if_neg (of_decide_eq_false (by kernel_rfl))]; exact ⟨rfl, rfl⟩)
    (fun os started H enc _ => frameBurst_lifted os started H enc)
theorem frameBurst_card : Rows.FrameBurstCardSaid :=
  Claim7.holds_tied_plain_at .later [] [.data] true _ false
    frameBurst_holds (fun _ h => by cases h) (by kernel_rfl) (fun _ h => by cases h) frameBurst_row_tie rfl ⟨rfl, rfl⟩ (by kernel_rfl) rfl
    (fun f fn hf hfn => by
      obtain rfl : f = 7 := Option.some.inj ((show (Tryd.prog).funcNamed "chapbook/chapbooklaw09.FrameBurst" = some 7 by kernel_rfl).symm.trans hf) |>.symm
      obtain rfl : fn = Tryd.f7 := (Option.some.inj ((Tryd.func7).symm.trans hfn)).symm
      exact ⟨by kernel_rfl, fun j t ht => by
        have h2 := frameBurst_ps t (Array.mem_toList_iff.2 (Array.mem_of_getElem? ht))
        rcases h2 with rfl | rfl | rfl <;> exact (show (Tryd.prog).wantsStandIn _ = false by kernel_rfl)⟩)
    (by kernel_rfl)
end Go.Proofs.YtffnnddhlpcicaaDoor
