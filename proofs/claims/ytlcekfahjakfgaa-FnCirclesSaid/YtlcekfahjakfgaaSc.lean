/-
  Contracts of the small functions on single numbers.
-/
import Derived.Test.YtlcekfahjakfgaaRows
import Derived.Test.YtlcekfahjakfgaaBt
namespace Go.Proofs.Ytlcekfahjakfgaa
open Go.RowKit Fl

/-! the words of floats, as numbers -/
@[go_sem] theorem cf_f32bits (a : Nat) (w : World) : (callFunc 82 #[.float .f32 a]).run Try.prog w = .ok (.value (.int .u32 a)) w := by kernel_rfl
@[go_sem] theorem cf_f32from (a : Int) (w : World) : (callFunc 76 #[.int .u32 a]).run Try.prog w = .ok (.value (.float .f32 a.toNat)) w := by kernel_rfl
@[go_sem] theorem cf_f64bits (a : Nat) (w : World) : (callFunc 72 #[.float .f64 a]).run Try.prog w = .ok (.value (.int .u64 a)) w := by kernel_rfl
@[go_sem] theorem cf_f64from (a : Int) (w : World) : (callFunc 62 #[.int .u64 a]).run Try.prog w = .ok (.value (.float .f64 a.toNat)) w := by kernel_rfl

theorem grown_drewN (w : World) (n : Nat) : Grown w (w.drewN n) := by
  induction n with
  | zero => exact Grown.refl w
  | succ n ih => exact ih.drew

theorem fin_any (a : Nat) (w : World) :
    Calls Try.prog 48 #[.float .f32 a] w fun e w' => e = .returned (.bool (finB .f32 a)) ∧ ∃ n, w' = w.drewN n := by
  go_enter Try.func48, Try.ntmps48
  go_wp2_with (refine wpList_float rfl _ _ _ _ _ rfl rfl _ _ _ rfl rfl ?_; intro r n hr)
  go_ret
  exact ⟨by rw [fin_sub hr]; rfl, _, rfl⟩
theorem ifin_any (a : Nat) (w : World) :
    Calls Try.prog 41 #[.float .f32 a] w fun e w' => e = .returned (.bool (finB .f32 a)) ∧ ∃ n, w' = w.drewN n := by
  go_enter Try.func41, Try.ntmps41
  go_wp2_with (refine wpList_float rfl _ _ _ _ _ rfl rfl _ _ _ rfl rfl ?_; intro r n hr)
  go_ret
  exact ⟨by rw [fin_sub hr]; rfl, _, rfl⟩

theorem neq_self (a : Nat) : (FloatKind.f32.format.order a a != some .eq) = (FloatKind.f32.decode a).isNaN := by
  cases h : (FloatKind.f32.decode a).isNaN
  · rw [order_self h]; rfl
  · rw [order_nan_left h]; rfl
theorem neq_self64 (a : Nat) : (FloatKind.f64.format.order a a != some .eq) = (FloatKind.f64.decode a).isNaN := by
  cases h : (FloatKind.f64.decode a).isNaN
  · rw [order_self h]; rfl
  · rw [order_nan_left h]; rfl

theorem bitsI_num {a : Nat} (h : (FloatKind.f32.decode a).isNaN = false) : bitsI a = wrap64 a := by unfold bitsI; rw [if_neg (by rw [h]; decide)]
theorem bitsI_nan {a : Nat} (h : (FloatKind.f32.decode a).isNaN = true) : bitsI a = 2143289344 := by unfold bitsI; rw [if_pos h]

theorem bits_any (a : Nat) (w : World) :
    Calls Try.prog 74 #[.float .f32 a] w fun e w' => e = .returned (.int .i64 (bitsI a)) ∧ w' = w := by
  cases h : (FloatKind.f32.decode a).isNaN
  · have h1 := neq_self a
    rw [h] at h1
    have hb : Hid (bitsI a = wrap64 a) := bitsI_num h
    clear h
    go_enter Try.func74, Try.ntmps74
    go_wp2
    go_ret
    exact ⟨by rw [hb.out]; rfl, rfl⟩
  · have h1 := neq_self a
    rw [h] at h1
    have hb : Hid (bitsI a = 2143289344) := bitsI_nan h
    clear h
    go_enter Try.func74, Try.ntmps74
    go_wp2
    go_ret
    exact ⟨by rw [hb.out]; rfl, rfl⟩
theorem abs_any (a : Nat) (w : World) :
    Calls Try.prog 54 #[.float .f64 a] w fun e w' => e = .returned (.float .f64 (absN a)) ∧ w' = w := by
  go_enter Try.func54, Try.ntmps54
  go_wp2
  go_ret
  exact ⟨rfl, rfl⟩
theorem copysign_any (a b : Nat) (w : World) :
    Calls Try.prog 83 #[.float .f64 a, .float .f64 b] w fun e w' => e = .returned (.float .f64 (copyN a b)) ∧ w' = w := by
  go_enter Try.func83, Try.ntmps83
  go_wp2
  go_ret
  exact ⟨rfl, rfl⟩
end Go.Proofs.Ytlcekfahjakfgaa
