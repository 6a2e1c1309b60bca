/-
  What a slice of integers reads as, and how one that came in is opened.
-/
import Derived.Test.YtogliigpoojfoaaDoorRows
import Derived.WalkKit
import Derived.Deep.Draws
import Derived.ProofKit
import Derived.Deep.Slices
import Derived.Below
namespace Go.Proofs.YtogliigpoojfoaaDoor
open Go.RowKit
/-- A slice of integers reads as a list of numbers. -/
def IRow (k : IntKind) (w : World) (a : Option Addr) (l : List Int) : Prop :=
  ∀ i, i < l.length → ∃ b o, a = some ⟨b, o, none⟩ ∧ b < w.heap.size ∧ w.cell? ⟨b, o + i, none⟩ = some (.int k (l.getD i 0))
def IAll (k : IntKind) (l : List Int) : Prop := ∀ i, i < l.length → (Lit.int k (l.getD i 0)).wf = true
theorem IRow.below {k : IntKind} {w w' : World} {a : Option Addr} {l : List Int} (h : IRow k w a l) (hb : Below w.heap.size w w') : IRow k w' a l := by
  intro i hi
  obtain ⟨b, o, ha, hlt, hc⟩ := h i hi
  refine ⟨b, o, ha, Nat.lt_of_lt_of_le hlt hb.size, ?_⟩
  rw [hb.cell (p := ⟨b, o + i, none⟩) hlt]; exact hc
theorem IRow.drewN {k : IntKind} {w : World} {a : Option Addr} {l : List Int} (h : IRow k w a l) (n : Nat) : IRow k (w.drewN n) a l := h
theorem IAll.u8 {l : List Int} (h : IAll .u8 l) {i : Nat} (hi : i < l.length) : 0 ≤ l.getD i 0 ∧ l.getD i 0 < 256 := by
  have := h i hi
  generalize l.getD i 0 = x at *
  simp [Lit.wf, IntKind.min, IntKind.max, IntKind.signed, IntKind.bits] at this
  omega
theorem IAll.i64 {l : List Int} (h : IAll .i64 l) {i : Nat} (hi : i < l.length) : -9223372036854775808 ≤ l.getD i 0 ∧ l.getD i 0 ≤ 9223372036854775807 := by
  have := h i hi
  generalize l.getD i 0 = x at *
  simp [Lit.wf, IntKind.min, IntKind.max, IntKind.signed, IntKind.bits] at this
  omega
theorem iget {l : List Int} {k : Nat} (h : k < l.length) : l.getD k 0 = l[k] := by simp [List.getD, List.getElem?_eq_getElem h]
end Go.Proofs.YtogliigpoojfoaaDoor
namespace Go.Proofs.YtogliigpoojfoaaDoor
open Go.ChangeShapes Go.WideShapes Go.RowKit Go.Deep
section
variable {H : Type} {enc : TypeId × Value → H} {P : Program} {w : World} {base : Nat} {spare : Nat → Bool} {held : Bool} {t : TypeId} {cs : List Value} {x : DataW H × List MemPlace} {fuel : Nat}
theorem open_irow {e : TypeId} {k : IntKind} (ht : P.underlying t = some (.slice e)) (he : P.underlying e = some (.int k)) (hc : P.cellsOf e = 1) (h : DataW.trod enc P w base spare held fuel t cs = some x) :
    ∃ a cap l, cs = [.slice a l.length cap] ∧ IRow k w a l ∧ IAll k l := by
  rcases open_slice1 ht hc h with ⟨rfl, -⟩ | ⟨a, len, cap, m, n, V, D, Pl, rfl, hb, hl, hcm, hm, -, hel⟩
  · exact ⟨none, 0, [], rfl, fun i hi => by simp at hi, fun i hi => by simp at hi⟩
  · have hlm : len ≤ m := by rw [hm]; split <;> omega
    have h1 : ∀ i, i < len → ∃ b, V i = .int k b ∧ (Lit.int k b).wf = true := by
      intro i hi
      obtain ⟨b, hb, -, hw⟩ := DataW.trod_int he (hel i (by omega)).2
      exact ⟨b, by simpa using hb, hw⟩
    obtain ⟨f, hf⟩ := choose_lt h1
    have hget : ∀ i, i < len → ((List.range len).map f).getD i 0 = f i := by
      intro i hi
      simp [List.getD, hi]
    refine ⟨some a, cap, (List.range len).map f, by simp, fun i hi => ?_, fun i hi => ?_⟩
    · have hi' : i < len := by simpa using hi
      have hcell := (hel i (by omega)).1
      rw [(hf i hi').1] at hcell
      obtain ⟨ab, ao, asp⟩ := a
      have hcell0 := (hel 0 (by omega)).1
      have hsp : asp = none := by
        have e0 : (⟨ab, ao, asp⟩ : Addr).add 0 = ⟨ab, ao, asp⟩ := by simp [Addr.add]
        rw [e0] at hcell0
        unfold World.cell? at hcell0
        split at hcell0
        · cases asp with
          | none => rfl
          | some s => simp at hcell0
        · cases hcell0
      subst hsp
      have hadd : (⟨ab, ao, none⟩ : Addr).add i = ⟨ab, ao + i, none⟩ := by
        unfold Addr.add
        by_cases h0 : i = 0
        · subst h0; simp
        · simp [h0]
      rw [hadd] at hcell
      refine ⟨ab, ao, rfl, World.block_lt_of_cell? w _ hcell, ?_⟩
      rw [hget i hi']; exact hcell
    · have hi' : i < len := by simpa using hi
      rw [hget i hi']; exact (hf i hi').2
end
end Go.Proofs.YtogliigpoojfoaaDoor
