/- chapbooklaw16.SequencerMay answers true for every configuration, and leaves it as it was; prefix.bits holds what the program's text lays. -/
import Derived.Test.YtfjnacakpeommaaDoorRSq
import Derived.Test.YtfjnacakpeommaaDoorS1
namespace Go.Proofs.YtfjnacakpeommaaDoor
open Go Go.ChangeShapes Go.WideShapes Go.RowKit SL Pl
set_option autoImplicit false
set_option maxRecDepth 100000
set_option linter.unusedVariables false
theorem sequencerMay_ps : ∀ t ∈ (Tryd.f3).params.toList, t = 23 := fun t ht => by
  simpa [show (Tryd.f3).params = #[23] from rfl] using ht
set_option maxHeartbeats 1000000 in
theorem sequencerMay_lifted (os : Os) (started : os.Started) (H : Type) (enc : TypeId × Value → H) :
    ReturnsInHanded {} Tryd.checked os 3 .any (fun w args => (Rows.sequencerMaySpec.pre enc Tryd.prog Tryd.f3 [] false w args ∧ laidMetH Tryd.prog [("chapbook/prefix.bits", Rows.laid_chapbook_prefix_bits)] w) ∧ sizedMet enc Tryd.prog Tryd.f3 (OpenSpec.ofChange Rows.sequencerMaySpec) false w args)
      (Rows.sequencerMaySpec.post enc Tryd.prog Tryd.f3 false true false false) := by
  refine returnsInHanded_of_change_and (C := Tryd.checked) (X := fun w _ => laidMetH Tryd.prog [("chapbook/prefix.bits", Rows.laid_chapbook_prefix_bits)] w) (fun _ _ _ hh h => h.of_heap hh) own started (by kernel_rfl) Tryd.func3
    (ChangeSpec.witness_at (enc := enc) (C := Tryd.checked) (os := os) (X := fun w _ => laidMetH Tryd.prog [("chapbook/prefix.bits", Rows.laid_chapbook_prefix_bits)] w) false (laidWorld os) #[.agg (cfgC c0).toArray] 8 rfl (by kernel_rfl) (by kernel_rfl) (by kernel_rfl) (by kernel_rfl) (by kernel_rfl) (laidWorld_met os _)) ?_
  intro W base args ds gs before hval0 hW _ _ hL _
  have hval : ∀ (j : Nat) t v, (Tryd.f3).params[j]? = some t → args[j]? = some v → Value.okWide Tryd.prog W .any base t v := hval0
  have hL' : laidMet Tryd.prog [("chapbook/prefix.bits", Rows.laid_chapbook_prefix_bits)] W := hL
  obtain ⟨p, q, hA, hV, _⟩ := id hW
  have hA : DataW.TrodAll enc Tryd.prog W 0 (fun _ => true) true [23] args.toList ds p := hA
  obtain ⟨v0, d0, rfl, rfl, h0⟩ := trodAll_one hA
  obtain ⟨c0, rfl⟩ := open_config (hval 0 _ v0 rfl rfl) h0
  refine (law_calls (args := [.agg (cfgC c0).toArray]) hL' (fun h => h) (sequencerMay_sp c0) (fun v M h => h.1)).mono fun e W' ⟨he, hb⟩ => ?_
  subst he
  refine ⟨_, rfl, law_post rfl hW rfl rfl ?_ hb⟩
  exact fun t ht => by
    rcases sequencerMay_ps t ht with rfl <;> exact ⟨by kernel_rfl, of_decide_eq_true (by kernel_rfl)⟩
theorem sequencerMay_holds : Rows.SequencerMaySaid :=
  OpenClaim.holds_of_wide 3 Tryd.f3 rfl rfl rfl rfl rfl rfl rfl ⟨rfl, rfl, rfl, rfl, rfl⟩ rfl rfl rfl rfl rfl (by kernel_rfl) Tryd.func3 (by kernel_rfl)
    (of_decide_eq_true (by kernel_rfl)) (by unfold Func.isWrapper; rw [if_neg (of_decide_eq_false (by kernel_rfl))]; exact ⟨rfl, rfl⟩)
    (fun os started H enc _ => sequencerMay_lifted os started H enc)
theorem sequencerMay_card : Rows.SequencerMayCardSaid :=
  Claim7.holds_tied_plain_at .later [] [.data] true _ false
    sequencerMay_holds (fun _ h => by cases h) (by kernel_rfl) (fun _ h => by cases h) sequencerMay_row_tie rfl ⟨rfl, rfl⟩ (by kernel_rfl) rfl
    (fun f fn hf hfn => by
      obtain rfl : f = 3 := Option.some.inj ((show (Tryd.prog).funcNamed "chapbook/chapbooklaw16.SequencerMay" = some 3 by kernel_rfl).symm.trans hf) |>.symm
      obtain rfl : fn = Tryd.f3 := (Option.some.inj ((Tryd.func3).symm.trans hfn)).symm
      exact ⟨by kernel_rfl, fun j t ht => by
        have h2 := sequencerMay_ps t (Array.mem_toList_iff.2 (Array.mem_of_getElem? ht))
        rcases h2 with rfl <;> exact (show (Tryd.prog).wantsStandIn _ = false by kernel_rfl)⟩)
    (by kernel_rfl)
end Go.Proofs.YtfjnacakpeommaaDoor
