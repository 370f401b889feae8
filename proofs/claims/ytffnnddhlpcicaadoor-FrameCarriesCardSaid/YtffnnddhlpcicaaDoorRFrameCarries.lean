/- chapbooklaw09.FrameCarries answers true for every round, mtu and numbers, and leaves its arguments as they were; prefix.bits holds what the program's text lays. -/
import Derived.Test.YtffnnddhlpcicaaDoorRFr4
import Derived.Test.YtffnnddhlpcicaaDoorC13
namespace Go.Proofs.YtffnnddhlpcicaaDoor
open Go Go.ChangeShapes Go.WideShapes Go.RowKit SL Pl
set_option autoImplicit false
set_option maxRecDepth 100000
set_option linter.unusedVariables false
theorem frameCarries_ps : ∀ t ∈ (Tryd.f9).params.toList, t = 42 ∨ t = 3 ∨ t = 43 := fun t ht => by
  simpa [show (Tryd.f9).params = #[42, 3, 43] from rfl] using ht
set_option maxHeartbeats 1000000 in
theorem frameCarries_lifted (os : Os) (started : os.Started) (H : Type) (enc : TypeId × Value → H) :
    ReturnsInHanded {} Tryd.checked os 9 .any (fun w args => (Rows.frameCarriesSpec.pre enc Tryd.prog Tryd.f9 [] false w args ∧ laidMetH Tryd.prog [("chapbook/prefix.bits", Rows.laid_chapbook_prefix_bits)] w) ∧ sizedMet enc Tryd.prog Tryd.f9 (OpenSpec.ofChange Rows.frameCarriesSpec) false w args)
      (Rows.frameCarriesSpec.post enc Tryd.prog Tryd.f9 false true false false) := by
  refine returnsInHanded_of_change_and (C := Tryd.checked) (X := fun w _ => laidMetH Tryd.prog [("chapbook/prefix.bits", Rows.laid_chapbook_prefix_bits)] w) (fun _ _ _ hh h => h.of_heap hh) own started (by kernel_rfl) Tryd.func9
    (ChangeSpec.witness_at (enc := enc) (C := Tryd.checked) (os := os) (X := fun w _ => laidMetH Tryd.prog [("chapbook/prefix.bits", Rows.laid_chapbook_prefix_bits)] w) false (laidWorld os) #[.agg (rv ro0 (.slice none 0 0)).toArray, .int .i64 0, .agg [Value.int .i64 0, .int .i64 0, .int .i64 0].toArray] 8 rfl (by kernel_rfl) (by kernel_rfl) (by kernel_rfl) (by kernel_rfl) (by kernel_rfl) (laidWorld_met os _)) ?_
  intro W base args ds gs before hval0 hW _ _ hL _
  have hval : ∀ (j : Nat) t v, (Tryd.f9).params[j]? = some t → args[j]? = some v → Value.okWide Tryd.prog W .any base t v := hval0
  have hL' : laidMet Tryd.prog [("chapbook/prefix.bits", Rows.laid_chapbook_prefix_bits)] W := hL
  obtain ⟨p, q, hA, hV, _⟩ := id hW
  have hA : DataW.TrodAll enc Tryd.prog W 0 (fun _ => true) true [42, 3, 43] args.toList ds p := hA
  obtain ⟨v0, v1, v2, d0, d1, d2, p0, p1, p2, rfl, rfl, _, h0, h1, h2⟩ := trodAll_three hA
  obtain ⟨r0, q0, rfl, hr0⟩ := open_round (hval 0 _ v0 rfl rfl) h0
  obtain ⟨n1, rfl, hn1⟩ := open_int u_int (hval 1 _ v1 rfl rfl) h1
  obtain ⟨a2, b2, c2, rfl⟩ := open_three (hval 2 _ v2 rfl rfl) h2
  refine (law_calls (args := [.agg (rv r0 q0).toArray, .int .i64 n1, .agg [Value.int .i64 a2, .int .i64 b2, .int .i64 c2].toArray]) hL' (fun h => pre_add hr0 h) (frameCarries_sp true r0 q0 n1 a2 b2 c2) (fun v M h => h.1)).mono fun e W' ⟨he, hb⟩ => ?_
  subst he
  refine ⟨_, rfl, law_post rfl hW rfl rfl ?_ hb⟩
  exact fun t ht => by
    rcases frameCarries_ps t ht with rfl | rfl | rfl <;> exact ⟨by kernel_rfl, of_decide_eq_true (by kernel_rfl)⟩
theorem frameCarries_holds : Rows.FrameCarriesSaid :=
  OpenClaim.holds_of_wide 9 Tryd.f9 rfl rfl rfl rfl rfl rfl rfl ⟨rfl, rfl, rfl, rfl, rfl⟩ rfl rfl rfl rfl rfl (by kernel_rfl) Tryd.func9 (by kernel_rfl)
    (of_decide_eq_true (by kernel_rfl)) (by unfold Func.isWrapper; rw [if_neg (of_decide_eq_false (by kernel_rfl))]; exact ⟨rfl, rfl⟩)
    (fun os started H enc _ => frameCarries_lifted os started H enc)
theorem frameCarries_card : Rows.FrameCarriesCardSaid :=
  Claim7.holds_tied_plain_at .later [] [.data] true _ false
    frameCarries_holds (fun _ h => by cases h) (by kernel_rfl) (fun _ h => by cases h) frameCarries_row_tie rfl ⟨rfl, rfl⟩ (by kernel_rfl) rfl
    (fun f fn hf hfn => by
      obtain rfl : f = 9 := Option.some.inj ((show (Tryd.prog).funcNamed "chapbook/chapbooklaw09.FrameCarries" = some 9 by kernel_rfl).symm.trans hf) |>.symm
      obtain rfl : fn = Tryd.f9 := (Option.some.inj ((Tryd.func9).symm.trans hfn)).symm
      exact ⟨by kernel_rfl, fun j t ht => by
        have h2 := frameCarries_ps t (Array.mem_toList_iff.2 (Array.mem_of_getElem? ht))
        rcases h2 with rfl | rfl | rfl <;> exact (show (Tryd.prog).wantsStandIn _ = false by kernel_rfl)⟩)
    (by kernel_rfl)
end Go.Proofs.YtffnnddhlpcicaaDoor
