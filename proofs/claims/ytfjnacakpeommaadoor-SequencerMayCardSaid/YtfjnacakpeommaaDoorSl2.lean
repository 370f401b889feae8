/- Steps of a walk: a text's bytes as a row of their own. -/
import Derived.Test.YtfjnacakpeommaaDoorSlGo
import Derived.Lib.ConvBytes
import Derived.Laws.AppendOwn
namespace Go.Proofs.YtfjnacakpeommaaDoor.SL
open Go
set_option autoImplicit false
set_option linter.unusedVariables false
set_option linter.unusedSimpArgs false
variable {ρ : Rst} {N : Nat} {env : Env} {L L' : List HP} {P : Program} {Q : Exit → Act → World → Prop} {K : Act → World → Prop}
variable {d : Nat} {dd : Option Nat} {op : Op} {ty : TypeId} {pos : String} {aft : Array Edge} {g : Option (Nat × Bool)} (tb : Tabs P)

theorem holds_bytesWorld {w : World} {E : TypeId} (l : List UInt8) (H : Holds ρ w L) :
    Holds ρ (Lib.bytesWorld w E ⟨l.toArray⟩) (cel false w.heap.size E (Lib.byteCells l ++ List.replicate (grownCap w l.length 0 E - l.length) (Value.int .u8 0)) :: L) := by
  have e : Lib.bytesCells w E ⟨l.toArray⟩ = (Lib.byteCells l ++ List.replicate (grownCap w l.length 0 E - l.length) (Value.int .u8 0)).toArray := by
    simp [Lib.bytesCells, Lib.byteCells, ByteArray.size]
  have H1 := (H.drew).alloc (.cells (Lib.bytesCells w E ⟨l.toArray⟩) E)
  have H2 := Holds.put (b := w.heap.size) (w' := Lib.bytesWorld w E ⟨l.toArray⟩) H1 (by unfold Lib.bytesWorld World.freeze; split <;> rfl) (Lib.bytesWorld_at_new w E _) (fun c hc => by
    unfold Lib.bytesWorld World.freeze
    rw [if_neg (by decide)]
    simp only [Array.getElem?_modify]
    rw [if_neg (fun e => hc e.symm)])
  rw [e] at H2
  exact H2.one_cel (fun _ _ => by simp only [List.size_toArray]; exact Nat.le_refl _)
theorem St_convSB {S T E : TypeId} {x : Operand} {l : List UInt8} (hN : Nat.blt d N = true) (hx : ev env x = some (str l)) (hS : tabLk tb.und S = some .string) (hT : tabLk tb.und T = some (.slice E)) (hE : tabLk tb.und E = some (.int .u8))
    (h : ∀ (b n : Nat), St ρ N ((d, .slice (some ⟨b, 0, none⟩) l.length (l.length + n)) :: env) (cel false b E (Lib.byteCells l ++ List.replicate n (Value.int .u8 0)) :: L) K) :
    St ρ N env L (Exec P Q ⟨some d, .convert S T x, ty, pos, aft, g⟩ K) :=
  St_run (α := Nat × Nat) (v := fun z => .slice (some ⟨z.1, 0, none⟩) l.length (l.length + z.2)) (M := fun z => cel false z.1 E (Lib.byteCells l ++ List.replicate z.2 (Value.int .u8 0)) :: L) (by simpa using hN)
    (fun a w y H => by
      refine ⟨(w.heap.size, grownCap w l.length 0 E - l.length), Lib.bytesWorld w E ⟨l.toArray⟩, ?_, holds_bytesWorld l H⟩
      have hg := grownCap_ge w l.length 0 E
      have e : l.length + (grownCap w l.length 0 E - l.length) = grownCap w l.length 0 E := by omega
      simp only [execOp, ev_ok y hx, Sem.run_bind]
      have hr := Lib.run_convert_string_bytes w S T E ⟨l.toArray⟩ (tab_ok tb.und_ok hS) (tab_ok tb.und_ok hT) (tab_ok tb.und_ok hE)
      rw [hr]
      have hs : (ByteArray.mk l.toArray).size = l.length := rfl
      simp only [Result.andThen_ok, Sem.run_pure, hs, e]) (fun z => h z.1 z.2)
end Go.Proofs.YtfjnacakpeommaaDoor.SL
