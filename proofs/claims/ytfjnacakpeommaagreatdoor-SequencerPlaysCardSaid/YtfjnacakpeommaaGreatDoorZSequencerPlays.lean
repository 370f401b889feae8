/- chapbooklaw16.SequencerPlays answers true for every configuration and every calls, and leaves its arguments as they were; prefix.bits holds what the program's text lays. -/
import Derived.Test.YtfjnacakpeommaaGreatDoorYSequencerPlays
namespace Go.Proofs.YtfjnacakpeommaaGreatDoor
open Go Go.ChangeShapes Go.WideShapes Go.RowKit SL Pl
set_option autoImplicit false
set_option maxRecDepth 100000
set_option linter.unusedVariables false
theorem sequencerPlays_ps : ∀ t ∈ (Tryz.f3).params.toList, t = 23 ∨ t = 24 := fun t ht => by
  simpa [show (Tryz.f3).params = #[23, 24] from rfl] using ht
set_option maxHeartbeats 1000000 in
theorem sequencerPlays_lifted (os : Os) (started : os.Started) (H : Type) (enc : TypeId × Value → H) :
    ReturnsInHanded {} Tryz.checked os 3 .any (fun w args => (Rows.sequencerPlaysSpec.pre enc Tryz.prog Tryz.f3 [] false w args ∧ laidMetH Tryz.prog [("chapbook/prefix.bits", Rows.laid_chapbook_prefix_bits)] w) ∧ sizedMet enc Tryz.prog Tryz.f3 (OpenSpec.ofChange Rows.sequencerPlaysSpec) false w args)
      (Rows.sequencerPlaysSpec.post enc Tryz.prog Tryz.f3 false true false false) := by
  refine returnsInHanded_of_change_and (C := Tryz.checked) (X := fun w _ => laidMetH Tryz.prog [("chapbook/prefix.bits", Rows.laid_chapbook_prefix_bits)] w) (fun _ _ _ hh h => h.of_heap hh) own started (by kernel_rfl) Tryz.func3
    (ChangeSpec.witness_at (enc := enc) (C := Tryz.checked) (os := os) (X := fun w _ => laidMetH Tryz.prog [("chapbook/prefix.bits", Rows.laid_chapbook_prefix_bits)] w) false (laidWorld os) #[.agg (cfgC c0).toArray, .slice none 0 0] 8 rfl (by kernel_rfl) (by kernel_rfl) (by kernel_rfl) (by kernel_rfl) (by kernel_rfl) (laidWorld_met os _)) ?_
  intro W base args ds gs before hval0 hW _ _ hL _
  have hval : ∀ (j : Nat) t v, (Tryz.f3).params[j]? = some t → args[j]? = some v → Value.okWide Tryz.prog W .any base t v := hval0
  have hL' : laidMet Tryz.prog [("chapbook/prefix.bits", Rows.laid_chapbook_prefix_bits)] W := hL
  obtain ⟨p, q, hA, hV, _⟩ := id hW
  have hA : DataW.TrodAll enc Tryz.prog W 0 (fun _ => true) true [23, 24] args.toList ds p := hA
  obtain ⟨v0, v1, d0, d1, p0, p1, rfl, rfl, _, h0, h1⟩ := trodAll_two hA
  obtain ⟨c0, rfl⟩ := open_config (hval 0 _ v0 rfl rfl) h0
  obtain ⟨l1, hl1⟩ := open_acts (hval 1 _ v1 rfl rfl) h1
  refine (law_calls (args := [.agg (cfgC c0).toArray, v1]) hL' (fun h => pre_add hl1 h) (sequencerPlays_sp true c0 l1 v1) (fun v M h => h.1)).mono fun e W' ⟨he, hb⟩ => ?_
  subst he
  refine ⟨_, rfl, law_post rfl hW rfl rfl ?_ hb⟩
  exact fun t ht => by
    rcases sequencerPlays_ps t ht with rfl | rfl <;> exact ⟨by kernel_rfl, of_decide_eq_true (by kernel_rfl)⟩
theorem sequencerPlays_holds : Rows.SequencerPlaysSaid :=
  OpenClaim.holds_of_wide 3 Tryz.f3 rfl rfl rfl rfl rfl rfl rfl ⟨rfl, rfl, rfl, rfl, rfl⟩ rfl rfl rfl rfl rfl (by kernel_rfl) Tryz.func3 (by kernel_rfl)
    (of_decide_eq_true (by kernel_rfl)) (by unfold Func.isWrapper; rw [if_neg (of_decide_eq_false (by kernel_rfl))]; exact ⟨rfl, rfl⟩)
    (fun os started H enc _ => sequencerPlays_lifted os started H enc)
theorem sequencerPlays_card : Rows.SequencerPlaysCardSaid :=
  Claim7.holds_tied_plain_at .later [] [.data] true _ false
    sequencerPlays_holds (fun _ h => by cases h) (by kernel_rfl) (fun _ h => by cases h) sequencerPlays_row_tie rfl ⟨rfl, rfl⟩ (by kernel_rfl) rfl
    (fun f fn hf hfn => by
      obtain rfl : f = 3 := Option.some.inj ((show (Tryz.prog).funcNamed "chapbook/chapbooklaw16.SequencerPlays" = some 3 by kernel_rfl).symm.trans hf) |>.symm
      obtain rfl : fn = Tryz.f3 := (Option.some.inj ((Tryz.func3).symm.trans hfn)).symm
      exact ⟨by kernel_rfl, fun j t ht => by
        have h2 := sequencerPlays_ps t (Array.mem_toList_iff.2 (Array.mem_of_getElem? ht))
        rcases h2 with rfl | rfl <;> exact (show (Tryz.prog).wantsStandIn _ = false by kernel_rfl)⟩)
    (by kernel_rfl)
end Go.Proofs.YtfjnacakpeommaaGreatDoor
