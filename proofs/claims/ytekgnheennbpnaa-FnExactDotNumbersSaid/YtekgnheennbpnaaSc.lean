/-
  Contracts of the small functions on single numbers.
-/
import Derived.Test.YtekgnheennbpnaaRows
import Derived.Test.YtekgnheennbpnaaBt
namespace Go.Proofs.Ytekgnheennbpnaa
open Go.RowKit Fl

/-! the words of floats, as numbers -/
@[go_sem] theorem cf_f32bits (a : Nat) (w : World) : (callFunc 39 #[.float .f32 a]).run Try.prog w = .ok (.value (.int .u32 a)) w := by kernel_rfl
@[go_sem] theorem cf_f32from (a : Int) (w : World) : (callFunc 47 #[.int .u32 a]).run Try.prog w = .ok (.value (.float .f32 a.toNat)) w := by kernel_rfl
@[go_sem] theorem cf_f64bits (a : Nat) (w : World) : (callFunc 57 #[.float .f64 a]).run Try.prog w = .ok (.value (.int .u64 a)) w := by kernel_rfl
@[go_sem] theorem cf_f64from (a : Int) (w : World) : (callFunc 56 #[.int .u64 a]).run Try.prog w = .ok (.value (.float .f64 a.toNat)) w := by kernel_rfl

theorem grown_drewN (w : World) (n : Nat) : Grown w (w.drewN n) := by
  induction n with
  | zero => exact Grown.refl w
  | succ n ih => exact ih.drew

theorem fin_any (a : Nat) (w : World) :
    Calls Try.prog 37 #[.float .f32 a] w fun e w' => e = .returned (.bool (finB .f32 a)) ∧ ∃ n, w' = w.drewN n := by
  go_enter Try.func37, Try.ntmps37
  go_wp2_with (refine wpList_float rfl _ _ _ _ _ rfl rfl _ _ _ rfl rfl ?_; intro r n hr)
  go_ret
  exact ⟨by rw [fin_sub hr]; rfl, _, rfl⟩
theorem ifin_any (a : Nat) (w : World) :
    Calls Try.prog 15 #[.float .f32 a] w fun e w' => e = .returned (.bool (finB .f32 a)) ∧ ∃ n, w' = w.drewN n := by
  go_enter Try.func15, Try.ntmps15
  go_wp2_with (refine wpList_float rfl _ _ _ _ _ rfl rfl _ _ _ rfl rfl ?_; intro r n hr)
  go_ret
  exact ⟨by rw [fin_sub hr]; rfl, _, rfl⟩
theorem sfin_any (a : Nat) (w : World) :
    Calls Try.prog 14 #[.float .f32 a] w fun e w' => e = .returned (.bool (finB .f32 a)) ∧ ∃ n, w' = w.drewN n := by
  go_enter Try.func14, Try.ntmps14
  go_wp2_with (go_at_call 37; refine (fin_any _ _).mono ?_; rintro e w' ⟨rfl, n, rfl⟩)
  go_ret
  exact ⟨rfl, _, rfl⟩

theorem neq_self (a : Nat) : (FloatKind.f32.format.order a a != some .eq) = (FloatKind.f32.decode a).isNaN := by
  cases h : (FloatKind.f32.decode a).isNaN
  · rw [order_self h]; rfl
  · rw [order_nan_left h]; rfl
theorem neq_self64 (a : Nat) : (FloatKind.f64.format.order a a != some .eq) = (FloatKind.f64.decode a).isNaN := by
  cases h : (FloatKind.f64.decode a).isNaN
  · rw [order_self h]; rfl
  · rw [order_nan_left h]; rfl

theorem bitsI_num {a : Nat} (h : (FloatKind.f32.decode a).isNaN = false) : bitsI a = wrap64 a := by unfold bitsI; rw [if_neg (by rw [h]; decide)]
theorem bitsI_nan {a : Nat} (h : (FloatKind.f32.decode a).isNaN = true) : bitsI a = 2143289344 := by unfold bitsI; rw [if_pos h]

theorem bits_any (a : Nat) (w : World) :
    Calls Try.prog 38 #[.float .f32 a] w fun e w' => e = .returned (.int .i64 (bitsI a)) ∧ w' = w := by
  cases h : (FloatKind.f32.decode a).isNaN
  · have h1 := neq_self a
    rw [h] at h1
    have hb : Hid (bitsI a = wrap64 a) := bitsI_num h
    clear h
    go_enter Try.func38, Try.ntmps38
    go_wp2
    go_ret
    exact ⟨by rw [hb.out]; rfl, rfl⟩
  · have h1 := neq_self a
    rw [h] at h1
    have hb : Hid (bitsI a = 2143289344) := bitsI_nan h
    clear h
    go_enter Try.func38, Try.ntmps38
    go_wp2
    go_ret
    exact ⟨by rw [hb.out]; rfl, rfl⟩
theorem ibits_any (a : Nat) (w : World) :
    Calls Try.prog 17 #[.float .f32 a] w fun e w' => e = .returned (.int .i64 (bitsI a)) ∧ w' = w := by
  cases h : (FloatKind.f32.decode a).isNaN
  · have h1 := neq_self a
    rw [h] at h1
    have hb : Hid (bitsI a = wrap64 a) := bitsI_num h
    clear h
    go_enter Try.func17, Try.ntmps17
    go_wp2
    go_ret
    exact ⟨by rw [hb.out]; rfl, rfl⟩
  · have h1 := neq_self a
    rw [h] at h1
    have hb : Hid (bitsI a = 2143289344) := bitsI_nan h
    clear h
    go_enter Try.func17, Try.ntmps17
    go_wp2
    go_ret
    exact ⟨by rw [hb.out]; rfl, rfl⟩
theorem sbits_any (a : Nat) (w : World) :
    Calls Try.prog 16 #[.float .f32 a] w fun e w' => e = .returned (.int .i64 (bitsI a)) ∧ w' = w := by
  go_enter Try.func16, Try.ntmps16
  go_wp2_with (go_at_call 38; refine (bits_any _ _).mono ?_; rintro e w' ⟨rfl, rfl⟩)
  go_ret
  exact ⟨rfl, rfl⟩
theorem abs_any (a : Nat) (w : World) :
    Calls Try.prog 40 #[.float .f64 a] w fun e w' => e = .returned (.float .f64 (absN a)) ∧ w' = w := by
  go_enter Try.func40, Try.ntmps40
  go_wp2
  go_ret
  exact ⟨rfl, rfl⟩
theorem signbit_any (a : Nat) (w : World) :
    Calls Try.prog 42 #[.float .f64 a] w fun e w' => e = .returned (.bool (negN a)) ∧ w' = w := by
  go_enter Try.func42, Try.ntmps42
  go_wp2
  go_ret
  exact ⟨rfl, rfl⟩
theorem copysign_any (a b : Nat) (w : World) :
    Calls Try.prog 49 #[.float .f64 a, .float .f64 b] w fun e w' => e = .returned (.float .f64 (copyN a b)) ∧ w' = w := by
  go_enter Try.func49, Try.ntmps49
  go_wp2
  go_ret
  exact ⟨rfl, rfl⟩
end Go.Proofs.Ytekgnheennbpnaa
