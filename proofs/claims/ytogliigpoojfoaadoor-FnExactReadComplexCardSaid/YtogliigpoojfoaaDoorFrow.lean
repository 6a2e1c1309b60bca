/-
  What a slice of 32-bit numbers reads as.
-/
import Derived.Test.YtogliigpoojfoaaDoorRows
import Derived.Test.YtogliigpoojfoaaDoorFx
namespace Go.Proofs.YtogliigpoojfoaaDoor
open Go.RowKit Fl
/-- A slice of 32-bit numbers reads as a list of words. -/
def FRow (w : World) (a : Option Addr) (l : List Nat) : Prop :=
  ∀ i, i < l.length → ∃ b o, a = some ⟨b, o, none⟩ ∧ b < w.heap.size ∧ w.cell? ⟨b, o + i, none⟩ = some (.float .f32 (l.getD i 0))
def AllWf (l : List Nat) : Prop := ∀ i, i < l.length → (Lit.float .f32 (l.getD i 0)).wf = true

theorem FRow.below {w w' : World} {a : Option Addr} {l : List Nat} (h : FRow w a l) (hb : Below w.heap.size w w') : FRow w' a l := by
  intro i hi
  obtain ⟨b, o, ha, hlt, hc⟩ := h i hi
  refine ⟨b, o, ha, Nat.lt_of_lt_of_le hlt hb.size, ?_⟩
  rw [hb.cell (p := ⟨b, o + i, none⟩) hlt]; exact hc
theorem FRow.drewN {w : World} {a : Option Addr} {l : List Nat} (h : FRow w a l) (n : Nat) : FRow (w.drewN n) a l := h
theorem getD_get {l : List Nat} {k : Nat} (h : k < l.length) : l.getD k 0 = l[k] := by simp [List.getD, List.getElem?_eq_getElem h]
end Go.Proofs.YtogliigpoojfoaaDoor
