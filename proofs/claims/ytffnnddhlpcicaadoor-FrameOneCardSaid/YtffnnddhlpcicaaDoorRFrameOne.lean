/- chapbooklaw09.FrameOne answers true for every text, and leaves it as it was; prefix.bits holds what the program's text lays. -/
import Derived.Test.YtffnnddhlpcicaaDoorRFr
import Derived.Test.YtffnnddhlpcicaaDoorC10
namespace Go.Proofs.YtffnnddhlpcicaaDoor
open Go Go.ChangeShapes Go.WideShapes Go.RowKit SL Pl
set_option autoImplicit false
set_option maxRecDepth 100000
set_option linter.unusedVariables false
theorem frameOne_ps : ∀ t ∈ (Tryd.f6).params.toList, t = 9 := fun t ht => by
  simpa [show (Tryd.f6).params = #[9] from rfl] using ht
set_option maxHeartbeats 1000000 in
theorem frameOne_lifted (os : Os) (started : os.Started) (H : Type) (enc : TypeId × Value → H) :
    ReturnsInHanded {} Tryd.checked os 6 .any (fun w args => (Rows.frameOneSpec.pre enc Tryd.prog Tryd.f6 [] false w args ∧ laidMetH Tryd.prog [("chapbook/prefix.bits", Rows.laid_chapbook_prefix_bits)] w) ∧ sizedMet enc Tryd.prog Tryd.f6 (OpenSpec.ofChange Rows.frameOneSpec) false w args)
      (Rows.frameOneSpec.post enc Tryd.prog Tryd.f6 false true false false) := by
  refine returnsInHanded_of_change_and (C := Tryd.checked) (X := fun w _ => laidMetH Tryd.prog [("chapbook/prefix.bits", Rows.laid_chapbook_prefix_bits)] w) (fun _ _ _ hh h => h.of_heap hh) own started (by kernel_rfl) Tryd.func6
    (ChangeSpec.witness_at (enc := enc) (C := Tryd.checked) (os := os) (X := fun w _ => laidMetH Tryd.prog [("chapbook/prefix.bits", Rows.laid_chapbook_prefix_bits)] w) false (laidWorld os) #[str []] 8 rfl (by kernel_rfl) (by kernel_rfl) (by kernel_rfl) (by kernel_rfl) (by kernel_rfl) (laidWorld_met os _)) ?_
  intro W base args ds gs before hval0 hW _ _ hL _
  have hval : ∀ (j : Nat) t v, (Tryd.f6).params[j]? = some t → args[j]? = some v → Value.okWide Tryd.prog W .any base t v := hval0
  have hL' : laidMet Tryd.prog [("chapbook/prefix.bits", Rows.laid_chapbook_prefix_bits)] W := hL
  obtain ⟨p, q, hA, hV, _⟩ := id hW
  have hA : DataW.TrodAll enc Tryd.prog W 0 (fun _ => true) true [9] args.toList ds p := hA
  obtain ⟨v0, d0, rfl, rfl, h0⟩ := trodAll_one hA
  obtain ⟨s0, rfl, _, _, hs0⟩ := Go.ChangeMaps.open_string u_string (hval 0 _ v0 rfl rfl) h0
  refine (law_calls (args := [str s0.data.toList]) hL' (fun h => h) (frameOne_sp s0.data.toList hs0) (fun v M h => h.1)).mono fun e W' ⟨he, hb⟩ => ?_
  subst he
  refine ⟨_, rfl, law_post rfl hW rfl rfl ?_ hb⟩
  exact fun t ht => by
    rcases frameOne_ps t ht with rfl <;> exact ⟨by kernel_rfl, of_decide_eq_true (by kernel_rfl)⟩
theorem frameOne_holds : Rows.FrameOneSaid :=
  OpenClaim.holds_of_wide 6 Tryd.f6 rfl rfl rfl rfl rfl rfl rfl ⟨rfl, rfl, rfl, rfl, rfl⟩ rfl rfl rfl rfl rfl (by kernel_rfl) Tryd.func6 (by kernel_rfl)
    (of_decide_eq_true (by kernel_rfl)) (by unfold Func.isWrapper; rw [if_neg (of_decide_eq_false (by kernel_rfl))]; exact ⟨rfl, rfl⟩)
    (fun os started H enc _ => frameOne_lifted os started H enc)
theorem frameOne_card : Rows.FrameOneCardSaid :=
  Claim7.holds_tied_plain_at .later [] [.data] true _ false
    frameOne_holds (fun _ h => by cases h) (by kernel_rfl) (fun _ h => by cases h) frameOne_row_tie rfl ⟨rfl, rfl⟩ (by kernel_rfl) rfl
    (fun f fn hf hfn => by
      obtain rfl : f = 6 := Option.some.inj ((show (Tryd.prog).funcNamed "chapbook/chapbooklaw09.FrameOne" = some 6 by kernel_rfl).symm.trans hf) |>.symm
      obtain rfl : fn = Tryd.f6 := (Option.some.inj ((Tryd.func6).symm.trans hfn)).symm
      exact ⟨by kernel_rfl, fun j t ht => by
        have h2 := frameOne_ps t (Array.mem_toList_iff.2 (Array.mem_of_getElem? ht))
        rcases h2 with rfl <;> exact (show (Tryd.prog).wantsStandIn _ = false by kernel_rfl)⟩)
    (by kernel_rfl)
end Go.Proofs.YtffnnddhlpcicaaDoor
