/-
  Contracts: two numbers that mean the same are told to be the same; square roots; numbers out of bits; flushed numbers.
-/
import Derived.Test.YtlcekfahjakfgaaSd
namespace Go.Proofs.Ytlcekfahjakfgaa
open Go.RowKit Fl

theorem mean_cases (k : FloatKind) (b : Nat) : ((k.decode b).isNaN = true ∧ mean k b = none) ∨ ((k.decode b).isNaN = false ∧ mean k b = some b) := by
  cases h : (k.decode b).isNaN
  · exact .inr ⟨rfl, mean_of h⟩
  · exact .inl ⟨rfl, mean_nan h⟩

theorem same_nan (a b : Nat) (ha : (FloatKind.f64.format.order a a != some .eq) = true) (hb : (FloatKind.f64.format.order b b != some .eq) = true) (w : World) :
    Calls Try.prog 14 #[.float .f64 a, .float .f64 b] w fun e w' => e = .returned (.bool true) ∧ ∃ n, w' = w.drewN n := by
  go_enter Try.func14, Try.ntmps14
  go_wp2
  go_ret
  exact ⟨rfl, 0, rfl⟩
theorem same_num (a : Nat) (ha : (FloatKind.f64.format.order a a != some .eq) = false) (hs : (FloatKind.f64.format.order a a == some .eq) = true) (w : World) :
    Calls Try.prog 14 #[.float .f64 a, .float .f64 a] w fun e w' => e = .returned (.bool true) ∧ ∃ n, w' = w.drewN n := by
  cases hz : (FloatKind.f64.format.order a 0 == some .eq)
  · go_enter Try.func14, Try.ntmps14
    go_wp2
    go_ret
    exact ⟨rfl, 0, rfl⟩
  · go_enter Try.func14, Try.ntmps14
    go_wp2_with (refine wpList_float rfl _ _ _ _ _ rfl rfl _ _ _ rfl rfl ?_; intro r n hr)
    rename_i r' n' hr'
    go_ret
    have e : FloatKind.f64.format.order r' 0 = FloatKind.f64.format.order r 0 := by
      rw [order_mean, order_mean .f64 r 0, hr.1, hr'.1]
    exact ⟨by rw [e, beq_self_eq_true]; rfl, _, rfl⟩
theorem same_yes (a b : Nat) (h : mean .f64 a = mean .f64 b) (w : World) :
    Calls Try.prog 14 #[.float .f64 a, .float .f64 b] w fun e w' => e = .returned (.bool true) ∧ ∃ n, w' = w.drewN n := by
  rcases mean_cases .f64 a with ⟨h1, h2⟩ | ⟨h1, h2⟩
  · rcases mean_cases .f64 b with ⟨g1, g2⟩ | ⟨g1, g2⟩
    · exact same_nan a b (by rw [neq_self64, h1]) (by rw [neq_self64, g1]) w
    · rw [h2, g2] at h; cases h
  · rcases mean_cases .f64 b with ⟨g1, g2⟩ | ⟨g1, g2⟩
    · rw [h2, g2] at h; cases h
    · rw [h2, g2] at h; cases h
      exact same_num a (by rw [neq_self64, h1]) (by rw [order_self h1]; rfl) w

theorem cf_sqrt (a : Nat) (w : World) : ∃ r n, (callFunc 73 #[.float .f64 a]).run Try.prog w = .ok (.value (.float .f64 r)) (w.drewN n) ∧ FSqrt a r := by
  obtain ⟨r, n, hr, hf⟩ := run_sqrt (P := Try.prog) w a
  have h := run_callFunc_extern (fn := Try.f73) (e := Extern.MathSqrt.sqrt) Try.func73 (by kernel_rfl) (by kernel_rfl) (by kernel_rfl) (by kernel_rfl) #[.float .f64 a] w
  exact ⟨r, n, by rw [h, hr]; rfl, hf⟩
theorem msqrt_any (a : Nat) (w : World) :
    Calls Try.prog 55 #[.float .f64 a] w fun e w' => ∃ r, FSqrt a r ∧ e = .returned (.float .f64 r) ∧ ∃ n, w' = w.drewN n := by
  obtain ⟨r, n, hc, hf⟩ := cf_sqrt a w
  go_enter Try.func55, Try.ntmps55
  go_wp2
  go_ret
  exact ⟨r, hf, rfl, n, rfl⟩
theorem narrow_any (a : Nat) (ha : (Lit.float .f64 a).wf = true) (w : World) :
    Calls Try.prog 59 #[.float .f64 a] w fun e w' => ∃ r, FConv .f64 .f32 a r ∧ e = .returned (.float .f32 r) ∧ ∃ n, w' = w.drewN n := by
  go_enter Try.func59, Try.ntmps59
  go_wp2_with (refine wpList_fconv rfl _ _ _ rfl .f64 .f32 _ rfl (by assumption) (by rw [Try.underlying25]; rfl) Try.underlying22 ?_; intro r n hr)
  go_ret
  exact ⟨r, hr, rfl, _, rfl⟩
end Go.Proofs.Ytlcekfahjakfgaa
