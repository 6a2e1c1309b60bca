/-
  How a slice of 32-bit numbers that came in is opened.
-/
import Derived.Test.YtogliigpoojfoaaDoorFrow
import Derived.ProofKit
import Derived.Deep.Slices
namespace Go.Proofs.YtogliigpoojfoaaDoor
open Go.ChangeShapes Go.WideShapes Go.RowKit Go.Deep

section
variable {H : Type} {enc : TypeId × Value → H} {P : Program} {w : World} {base : Nat} {spare : Nat → Bool} {held : Bool} {t : TypeId} {cs : List Value} {x : DataW H × List MemPlace} {fuel : Nat}
theorem trod_float {k : FloatKind} (ht : P.underlying t = some (.float k)) (h : DataW.trod enc P w base spare held fuel t cs = some x) : ∃ b, cs = [.float k b] ∧ (Lit.float k b).wf = true := by
  cases fuel with
  | zero => simp [DataW.trod] at h
  | succ n =>
    unfold DataW.trod at h
    rw [ht] at h
    split at h <;> simp_all

theorem open_floats {e : TypeId} (ht : P.underlying t = some (.slice e)) (he : P.underlying e = some (.float .f32)) (hc : P.cellsOf e = 1) (h : DataW.trod enc P w base spare held fuel t cs = some x) :
    ∃ a cap l, cs = [.slice a l.length cap] ∧ FRow w a l ∧ AllWf l := by
  rcases open_slice1 ht hc h with ⟨rfl, -⟩ | ⟨a, len, cap, m, n, V, D, Pl, rfl, hb, hl, hcm, hm, -, hel⟩
  · exact ⟨none, 0, [], rfl, fun i hi => by simp at hi, fun i hi => by simp at hi⟩
  · have hlm : len ≤ m := by rw [hm]; split <;> omega
    have h1 : ∀ i, i < len → ∃ b, V i = .float .f32 b ∧ (Lit.float .f32 b).wf = true := by
      intro i hi
      obtain ⟨b, hb, hw⟩ := trod_float he (hel i (by omega)).2
      exact ⟨b, by simpa using hb, hw⟩
    obtain ⟨f, hf⟩ := choose_lt h1
    have hget : ∀ i, i < len → ((List.range len).map f).getD i 0 = f i := by
      intro i hi
      simp [List.getD, hi]
    refine ⟨some a, cap, (List.range len).map f, by simp, fun i hi => ?_, fun i hi => ?_⟩
    · have hi' : i < len := by simpa using hi
      have hcell := (hel i (by omega)).1
      rw [(hf i hi').1] at hcell
      obtain ⟨ab, ao, asp⟩ := a
      have hcell0 := (hel 0 (by omega)).1
      have hsp : asp = none := by
        have e0 : (⟨ab, ao, asp⟩ : Addr).add 0 = ⟨ab, ao, asp⟩ := by simp [Addr.add]
        rw [e0] at hcell0
        unfold World.cell? at hcell0
        split at hcell0
        · cases asp with
          | none => rfl
          | some s => simp at hcell0
        · cases hcell0
      subst hsp
      have hadd : (⟨ab, ao, none⟩ : Addr).add i = ⟨ab, ao + i, none⟩ := by
        unfold Addr.add
        by_cases h0 : i = 0
        · subst h0; simp
        · simp [h0]
      rw [hadd] at hcell
      refine ⟨ab, ao, rfl, World.block_lt_of_cell? w _ hcell, ?_⟩
      rw [hget i hi']; exact hcell
    · have hi' : i < len := by simpa using hi
      rw [hget i hi']; exact (hf i hi').2
end
end Go.Proofs.YtogliigpoojfoaaDoor
