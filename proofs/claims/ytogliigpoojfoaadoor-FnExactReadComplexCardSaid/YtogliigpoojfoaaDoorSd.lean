/-
  Contracts of the small functions on single numbers, continued: subnormal numbers, equal ones, numbers out of bits.
-/
import Derived.Test.YtogliigpoojfoaaDoorSc
namespace Go.Proofs.YtogliigpoojfoaaDoor
open Go.RowKit Fl

theorem neq_zero (a : Nat) : (FloatKind.f32.format.order a 0 != some .eq) = decide (mag Ieee.single a ≠ 0) := by
  cases h : (FloatKind.f32.decode a).isNaN
  · have := order_zero32 h
    rw [bne, this]
    by_cases c : mag Ieee.single a = 0 <;> simp [c]
  · rw [order_nan_left h]
    rw [nan32] at h
    have := of_decide_eq_true h
    have c : mag Ieee.single a ≠ 0 := by show a % 2147483648 ≠ 0; omega
    rw [decide_eq_true c]; rfl

theorem subB_zero {a : Nat} (c : mag Ieee.single a = 0) : subB a = false := by
  unfold subB; rw [c]; rfl
theorem subB_pos {a : Nat} (c : ¬ mag Ieee.single a = 0) : subB a = decide (mag Ieee.single a < 8388608) := by
  unfold subB; exact decide_eq_decide.2 (by omega)


end Go.Proofs.YtogliigpoojfoaaDoor
