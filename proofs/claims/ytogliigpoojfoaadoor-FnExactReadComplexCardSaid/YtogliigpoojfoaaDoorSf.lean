/-
  Contracts: two numbers that mean the same are told to be the same; square roots; numbers out of bits; flushed numbers.
-/
import Derived.Test.YtogliigpoojfoaaDoorSd
namespace Go.Proofs.YtogliigpoojfoaaDoor
open Go.RowKit Fl

theorem mean_cases (k : FloatKind) (b : Nat) : ((k.decode b).isNaN = true ∧ mean k b = none) ∨ ((k.decode b).isNaN = false ∧ mean k b = some b) := by
  cases h : (k.decode b).isNaN
  · exact .inr ⟨rfl, mean_of h⟩
  · exact .inl ⟨rfl, mean_nan h⟩

theorem same_nan (a b : Nat) (ha : (FloatKind.f64.format.order a a != some .eq) = true) (hb : (FloatKind.f64.format.order b b != some .eq) = true) (w : World) :
    Calls Tryd.prog 48 #[.float .f64 a, .float .f64 b] w fun e w' => e = .returned (.bool true) ∧ ∃ n, w' = w.drewN n := by
  go_enter Tryd.func48, Tryd.ntmps48
  go_wp2
  go_ret
  exact ⟨rfl, 0, rfl⟩
theorem same_num (a : Nat) (ha : (FloatKind.f64.format.order a a != some .eq) = false) (hs : (FloatKind.f64.format.order a a == some .eq) = true) (w : World) :
    Calls Tryd.prog 48 #[.float .f64 a, .float .f64 a] w fun e w' => e = .returned (.bool true) ∧ ∃ n, w' = w.drewN n := by
  cases hz : (FloatKind.f64.format.order a 0 == some .eq)
  · go_enter Tryd.func48, Tryd.ntmps48
    go_wp2
    go_ret
    exact ⟨rfl, 0, rfl⟩
  · go_enter Tryd.func48, Tryd.ntmps48
    go_wp2_with (refine wpList_float rfl _ _ _ _ _ rfl rfl _ _ _ rfl rfl ?_; intro r n hr)
    rename_i r' n' hr'
    go_ret
    have e : FloatKind.f64.format.order r' 0 = FloatKind.f64.format.order r 0 := by
      rw [order_mean, order_mean .f64 r 0, hr.1, hr'.1]
    exact ⟨by rw [e, beq_self_eq_true]; rfl, _, rfl⟩
theorem same_yes (a b : Nat) (h : mean .f64 a = mean .f64 b) (w : World) :
    Calls Tryd.prog 48 #[.float .f64 a, .float .f64 b] w fun e w' => e = .returned (.bool true) ∧ ∃ n, w' = w.drewN n := by
  rcases mean_cases .f64 a with ⟨h1, h2⟩ | ⟨h1, h2⟩
  · rcases mean_cases .f64 b with ⟨g1, g2⟩ | ⟨g1, g2⟩
    · exact same_nan a b (by rw [neq_self64, h1]) (by rw [neq_self64, g1]) w
    · rw [h2, g2] at h; cases h
  · rcases mean_cases .f64 b with ⟨g1, g2⟩ | ⟨g1, g2⟩
    · rw [h2, g2] at h; cases h
    · rw [h2, g2] at h; cases h
      exact same_num a (by rw [neq_self64, h1]) (by rw [order_self h1]; rfl) w

end Go.Proofs.YtogliigpoojfoaaDoor
