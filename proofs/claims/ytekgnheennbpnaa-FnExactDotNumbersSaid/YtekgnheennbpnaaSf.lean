/-
  Contracts: two numbers that mean the same are told to be the same; square roots; numbers out of bits; flushed numbers.
-/
import Derived.Test.YtekgnheennbpnaaSd
namespace Go.Proofs.Ytekgnheennbpnaa
open Go.RowKit Fl

theorem mean_cases (k : FloatKind) (b : Nat) : ((k.decode b).isNaN = true ∧ mean k b = none) ∨ ((k.decode b).isNaN = false ∧ mean k b = some b) := by
  cases h : (k.decode b).isNaN
  · exact .inr ⟨rfl, mean_of h⟩
  · exact .inl ⟨rfl, mean_nan h⟩

theorem same_nan (a b : Nat) (ha : (FloatKind.f64.format.order a a != some .eq) = true) (hb : (FloatKind.f64.format.order b b != some .eq) = true) (w : World) :
    Calls Try.prog 26 #[.float .f64 a, .float .f64 b] w fun e w' => e = .returned (.bool true) ∧ ∃ n, w' = w.drewN n := by
  go_enter Try.func26, Try.ntmps26
  go_wp2
  go_ret
  exact ⟨rfl, 0, rfl⟩
theorem same_num (a : Nat) (ha : (FloatKind.f64.format.order a a != some .eq) = false) (hs : (FloatKind.f64.format.order a a == some .eq) = true) (w : World) :
    Calls Try.prog 26 #[.float .f64 a, .float .f64 a] w fun e w' => e = .returned (.bool true) ∧ ∃ n, w' = w.drewN n := by
  cases hz : (FloatKind.f64.format.order a 0 == some .eq)
  · go_enter Try.func26, Try.ntmps26
    go_wp2
    go_ret
    exact ⟨rfl, 0, rfl⟩
  · go_enter Try.func26, Try.ntmps26
    go_wp2_with (refine wpList_float rfl _ _ _ _ _ rfl rfl _ _ _ rfl rfl ?_; intro r n hr)
    rename_i r' n' hr'
    go_ret
    have e : FloatKind.f64.format.order r' 0 = FloatKind.f64.format.order r 0 := by
      rw [order_mean, order_mean .f64 r 0, hr.1, hr'.1]
    exact ⟨by rw [e, beq_self_eq_true]; rfl, _, rfl⟩
theorem same_yes (a b : Nat) (h : mean .f64 a = mean .f64 b) (w : World) :
    Calls Try.prog 26 #[.float .f64 a, .float .f64 b] w fun e w' => e = .returned (.bool true) ∧ ∃ n, w' = w.drewN n := by
  rcases mean_cases .f64 a with ⟨h1, h2⟩ | ⟨h1, h2⟩
  · rcases mean_cases .f64 b with ⟨g1, g2⟩ | ⟨g1, g2⟩
    · exact same_nan a b (by rw [neq_self64, h1]) (by rw [neq_self64, g1]) w
    · rw [h2, g2] at h; cases h
  · rcases mean_cases .f64 b with ⟨g1, g2⟩ | ⟨g1, g2⟩
    · rw [h2, g2] at h; cases h
    · rw [h2, g2] at h; cases h
      exact same_num a (by rw [neq_self64, h1]) (by rw [order_self h1]; rfl) w

theorem cf_sqrt (a : Nat) (w : World) : ∃ r n, (callFunc 59 #[.float .f64 a]).run Try.prog w = .ok (.value (.float .f64 r)) (w.drewN n) ∧ FSqrt a r := by
  obtain ⟨r, n, hr, hf⟩ := run_sqrt (P := Try.prog) w a
  have h := run_callFunc_extern (fn := Try.f59) (e := Extern.MathSqrt.sqrt) Try.func59 (by kernel_rfl) (by kernel_rfl) (by kernel_rfl) (by kernel_rfl) #[.float .f64 a] w
  exact ⟨r, n, by rw [h, hr]; rfl, hf⟩
theorem msqrt_any (a : Nat) (w : World) :
    Calls Try.prog 55 #[.float .f64 a] w fun e w' => ∃ r, FSqrt a r ∧ e = .returned (.float .f64 r) ∧ ∃ n, w' = w.drewN n := by
  obtain ⟨r, n, hc, hf⟩ := cf_sqrt a w
  go_enter Try.func55, Try.ntmps55
  go_wp2
  go_ret
  exact ⟨r, hf, rfl, n, rfl⟩
theorem narrow_any (a : Nat) (ha : (Lit.float .f64 a).wf = true) (w : World) :
    Calls Try.prog 58 #[.float .f64 a] w fun e w' => ∃ r, FConv .f64 .f32 a r ∧ e = .returned (.float .f32 r) ∧ ∃ n, w' = w.drewN n := by
  go_enter Try.func58, Try.ntmps58
  go_wp2_with (refine wpList_fconv rfl _ _ _ rfl .f64 .f32 _ rfl (by assumption) (by rw [Try.underlying33]; rfl) Try.underlying23 ?_; intro r n hr)
  go_ret
  exact ⟨r, hr, rfl, _, rfl⟩
/-- What the root of a 32-bit number is, through the 64-bit ones. -/
def RootOf (a r : Nat) : Prop := ∃ x y, FConv .f32 .f64 a x ∧ FSqrt x y ∧ FConv .f64 .f32 y r
theorem lsqrt_any (a : Nat) (ha : (Lit.float .f32 a).wf = true) (w : World) :
    Calls Try.prog 54 #[.float .f32 a] w fun e w' => ∃ r, RootOf a r ∧ e = .returned (.float .f32 r) ∧ ∃ n, w' = w.drewN n := by
  go_enter Try.func54, Try.ntmps54
  go_wp2_with (first | (refine wpList_fconv rfl _ _ _ rfl .f32 .f64 _ rfl (by assumption) (by rw [Try.underlying23]; rfl) Try.underlying33 ?_; intro x n hx) | (go_at_call 55; refine (msqrt_any _ _).mono ?_; rintro e w' ⟨y, hy, rfl, m, rfl⟩) | (go_at_call 58; refine (narrow_any _ (by exact hy.2) _).mono ?_; rintro e w' ⟨r, hr, rfl, k, rfl⟩))
  go_ret
  exact ⟨r, ⟨x, y, hx, hy, hr⟩, rfl, _, rfl⟩
theorem sroot_any (a : Nat) (ha : (Lit.float .f32 a).wf = true) (w : World) :
    Calls Try.prog 35 #[.float .f32 a] w fun e w' => ∃ r, RootOf a r ∧ e = .returned (.float .f32 r) ∧ ∃ n, w' = w.drewN n := by
  go_enter Try.func35, Try.ntmps35
  go_wp2_with (go_at_call 54; refine (lsqrt_any _ (by assumption) _).mono ?_; rintro e w' ⟨r, hr, rfl, k, rfl⟩)
  go_ret
  exact ⟨r, hr, rfl, _, rfl⟩
theorem root_wf {a r : Nat} (h : RootOf a r) : (Lit.float .f32 r).wf = true := by
  obtain ⟨x, y, _, _, h⟩ := h; exact h.2
theorem root_fits {a x y : Nat} (hx : FConv .f32 .f64 a x) (hy : FSqrt x y) : fits .f64 .f32 y = true := by
  rcases mean_cases .f32 a with ⟨h1, h2⟩ | ⟨h1, h2⟩
  · have h3 := hx.1 (fits_wide a)
    rw [h2] at h3
    have h4 := hy.1
    rw [h3] at h4
    rcases mean_cases .f64 y with ⟨g1, g2⟩ | ⟨g1, g2⟩
    · exact fits_nan g1
    · rw [g2] at h4; cases h4
  · by_cases hf : mag Ieee.single a < Ieee.single.infRung
    · exact sqrt_fits (wide_bd hf hx) hy
    · have hi : mag FloatKind.f32.format a = FloatKind.f32.format.infRung := by
        have := le_inf h1
        have : ¬ mag FloatKind.f32.format a < FloatKind.f32.format.infRung := hf
        omega
      have hd : FloatKind.f32.decode a = .infinity (sgn Ieee.single a) := read_inf .f32 hi
      have h3 := hx.1 (fits_wide a)
      rw [h2] at h3
      have h5 : mean .f64 x = some (FloatKind.f64.encode (FloatKind.f32.decode a)) := h3
      rw [hd] at h5
      have h4 := hy.1
      rw [h5] at h4
      cases hs : sgn Ieee.single a
      · rw [hs] at h4
        have h6 : mean .f64 y = some 9218868437227405312 := by rw [h4]; decide +kernel
        obtain ⟨rfl, -⟩ := mean_some h6
        exact fits_inf (by decide)
      · rw [hs] at h4
        have h6 : mean .f64 y = none := by rw [h4]; decide +kernel
        rcases mean_cases .f64 y with ⟨g1, g2⟩ | ⟨g1, g2⟩
        · exact fits_nan g1
        · rw [g2] at h6; cases h6
theorem root_same {a r g x y : Nat} (hr : RootOf a r) (hg : RootOf a g) (hx : FConv .f32 .f64 g x) (hy : FConv .f32 .f64 r y) : mean .f64 x = mean .f64 y := by
  obtain ⟨x1, y1, h1, h2, h3⟩ := hr
  obtain ⟨x2, y2, h4, h5, h6⟩ := hg
  have e1 : mean .f64 x1 = mean .f64 x2 := by rw [h1.1 (fits_wide a), h4.1 (fits_wide a)]
  have e2 : mean .f64 y1 = mean .f64 y2 := by rw [h2.1, h5.1, e1]
  have e3 : mean .f32 r = mean .f32 g := conv_same e2 h3 h6 (root_fits h1 h2) (root_fits h4 h5)
  exact conv_same e3.symm hx hy (fits_wide _) (fits_wide _)
theorem iroot_any (a : Nat) (ha : (Lit.float .f32 a).wf = true) (w : World) :
    Calls Try.prog 36 #[.float .f32 a] w fun e w' => ∃ r, RootOf a r ∧ e = .returned (.float .f32 r) ∧ ∃ n, w' = w.drewN n := by
  go_enter Try.func36, Try.ntmps36
  go_wp2_with (first | (refine wpList_fconv rfl _ _ _ rfl .f32 .f64 _ rfl (by assumption) (by rw [Try.underlying23]; rfl) Try.underlying33 ?_; intro x n hx) | (go_at_call 55; refine (msqrt_any _ _).mono ?_; rintro e w' ⟨y, hy, rfl, m, rfl⟩) | (refine wpList_fconv rfl _ _ _ rfl .f64 .f32 _ rfl (by exact hy.2) (by rw [Try.underlying33]; rfl) Try.underlying23 ?_; intro r n hr))
  go_ret
  exact ⟨r, ⟨x, y, hx, hy, hr⟩, rfl, _, rfl⟩
theorem law_RootNumber (a : Nat) (ha : (Lit.float .f32 a).wf = true) (w : World) :
    Calls Try.prog 13 #[.float .f32 a] w fun e w' => e = .returned (.bool true) ∧ Grown w w' := by
  go_enter Try.func13, Try.ntmps13
  go_wp2_with (first | (go_at_call 35; refine (sroot_any _ (by assumption) _).mono ?_; rintro e w' ⟨r, hr, rfl, k, rfl⟩) | (go_at_call 36; refine (iroot_any _ (by assumption) _).mono ?_; rintro e w' ⟨g, hg, rfl, k, rfl⟩) | (go_at_call 26; refine (same_yes _ _ (root_same hr hg (by assumption) (by assumption)) _).mono ?_; rintro e w' ⟨rfl, n, rfl⟩) | (refine wpList_fconv rfl _ _ _ rfl .f32 .f64 _ rfl (by first | exact root_wf hr | exact root_wf hg) (by rw [Try.underlying23]; rfl) Try.underlying33 ?_; intro x n hx))
  all_goals (go_ret; exact ⟨rfl, grown_drewN _ _⟩)
end Go.Proofs.Ytekgnheennbpnaa
