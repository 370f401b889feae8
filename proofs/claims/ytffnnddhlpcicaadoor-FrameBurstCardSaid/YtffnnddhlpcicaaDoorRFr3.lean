/- What the rows with a uint32 share. -/
import Derived.Test.YtffnnddhlpcicaaDoorRFr
namespace Go.Proofs.YtffnnddhlpcicaaDoor
open Go Go.ChangeShapes Go.WideShapes Go.RowKit SL Pl
set_option autoImplicit false
theorem u_u32 : (Tryd.prog).underlying 36 = some (.int .u32) := by kernel_rfl
theorem u32_nat {n : Int} (h : (Lit.int .u32 n).wf = true) : ∃ m : Nat, n = m ∧ m < 4294967296 := by
  simp only [Lit.wf, Bool.and_eq_true, decide_eq_true_eq] at h
  have h1 : IntKind.u32.min = 0 := rfl
  have h2 : IntKind.u32.max = 4294967295 := rfl
  obtain ⟨m, rfl⟩ := Int.eq_ofNat_of_zero_le (show 0 ≤ n by omega)
  exact ⟨m, rfl, by omega⟩
end Go.Proofs.YtffnnddhlpcicaaDoor
