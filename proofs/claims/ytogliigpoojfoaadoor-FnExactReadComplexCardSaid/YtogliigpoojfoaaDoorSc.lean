/-
  Contracts of the small functions on single numbers.
-/
import Derived.Test.YtogliigpoojfoaaDoorRows
import Derived.Test.YtogliigpoojfoaaDoorBt
namespace Go.Proofs.YtogliigpoojfoaaDoor
open Go.RowKit Fl

/-! the words of floats, as numbers -/
@[go_sem] theorem cf_f32bits (a : Nat) (w : World) : (callFunc 91 #[.float .f32 a]).run Tryd.prog w = .ok (.value (.int .u32 a)) w := by kernel_rfl
@[go_sem] theorem cf_f32from (a : Int) (w : World) : (callFunc 78 #[.int .u32 a]).run Tryd.prog w = .ok (.value (.float .f32 a.toNat)) w := by kernel_rfl

theorem grown_drewN (w : World) (n : Nat) : Grown w (w.drewN n) := by
  induction n with
  | zero => exact Grown.refl w
  | succ n ih => exact ih.drew


theorem neq_self (a : Nat) : (FloatKind.f32.format.order a a != some .eq) = (FloatKind.f32.decode a).isNaN := by
  cases h : (FloatKind.f32.decode a).isNaN
  · rw [order_self h]; rfl
  · rw [order_nan_left h]; rfl
theorem neq_self64 (a : Nat) : (FloatKind.f64.format.order a a != some .eq) = (FloatKind.f64.decode a).isNaN := by
  cases h : (FloatKind.f64.decode a).isNaN
  · rw [order_self h]; rfl
  · rw [order_nan_left h]; rfl

theorem bitsI_num {a : Nat} (h : (FloatKind.f32.decode a).isNaN = false) : bitsI a = wrap64 a := by unfold bitsI; rw [if_neg (by rw [h]; decide)]
theorem bitsI_nan {a : Nat} (h : (FloatKind.f32.decode a).isNaN = true) : bitsI a = 2143289344 := by unfold bitsI; rw [if_pos h]

theorem bits_any (a : Nat) (w : World) :
    Calls Tryd.prog 76 #[.float .f32 a] w fun e w' => e = .returned (.int .i64 (bitsI a)) ∧ w' = w := by
  cases h : (FloatKind.f32.decode a).isNaN
  · have h1 := neq_self a
    rw [h] at h1
    have hb : Hid (bitsI a = wrap64 a) := bitsI_num h
    clear h
    go_enter Tryd.func76, Tryd.ntmps76
    go_wp2
    go_ret
    exact ⟨by rw [hb.out]; rfl, rfl⟩
  · have h1 := neq_self a
    rw [h] at h1
    have hb : Hid (bitsI a = 2143289344) := bitsI_nan h
    clear h
    go_enter Tryd.func76, Tryd.ntmps76
    go_wp2
    go_ret
    exact ⟨by rw [hb.out]; rfl, rfl⟩
theorem ibits_any (a : Nat) (w : World) :
    Calls Tryd.prog 69 #[.float .f32 a] w fun e w' => e = .returned (.int .i64 (bitsI a)) ∧ w' = w := by
  cases h : (FloatKind.f32.decode a).isNaN
  · have h1 := neq_self a
    rw [h] at h1
    have hb : Hid (bitsI a = wrap64 a) := bitsI_num h
    clear h
    go_enter Tryd.func69, Tryd.ntmps69
    go_wp2
    go_ret
    exact ⟨by rw [hb.out]; rfl, rfl⟩
  · have h1 := neq_self a
    rw [h] at h1
    have hb : Hid (bitsI a = 2143289344) := bitsI_nan h
    clear h
    go_enter Tryd.func69, Tryd.ntmps69
    go_wp2
    go_ret
    exact ⟨by rw [hb.out]; rfl, rfl⟩
end Go.Proofs.YtogliigpoojfoaaDoor
