/-
  The sine of 32-bit numbers: both functions, and the law.
-/
import Derived.Test.YtlcekfahjakfgaaSi
import Derived.Test.YtlcekfahjakfgaaSg
namespace Go.Proofs.Ytlcekfahjakfgaa
open Go.RowKit Fl

def wideN (a : Nat) : Nat := FloatKind.f64.encode (FloatKind.f32.decode a)
theorem wide_eq {a x : Nat} (h : (FloatKind.f32.decode a).isNaN = false) (hx : FConv .f32 .f64 a x) : x = wideN a := by
  have h1 := hx.1 (fits_wide a)
  rw [mean_of h] at h1
  exact (mean_some (c := wideN a) h1).1
theorem wide_wf (a : Nat) : (Lit.float .f64 (wideN a)).wf = true := wf_of_lt .f64 _ (FloatKind.f64.format.write_lt _)
theorem nan_of_fin {a : Nat} (h : finB .f32 a = true) : (FloatKind.f32.decode a).isNaN = false := by
  rw [isNaN_iff]
  have := of_decide_eq_true h
  exact decide_eq_false (by omega)
theorem wide_conv {a : Nat} (h : (FloatKind.f32.decode a).isNaN = false) : FConv .f32 .f64 a (wideN a) := by
  refine ⟨fun _ => ?_, wide_wf a⟩
  rw [mean_of h]
  exact mean_of (encode_read .f64 _ h)
theorem wide_fin {a : Nat} (h : finB .f32 a = true) : Fin64 (wideN a) := by
  have hf : mag Ieee.single a < Ieee.single.infRung := of_decide_eq_true h
  have hb := wide_bd hf (wide_conv (nan_of_fin h))
  exact Nat.lt_of_le_of_lt hb (top_double_lt (by omega))
theorem wide_nfin {a x : Nat} (h : finB .f32 a = false) (hx : FConv .f32 .f64 a x) : ¬ Fin64 x := by
  have hf : ¬ mag Ieee.single a < Ieee.single.infRung := of_decide_eq_false h
  cases hn : (FloatKind.f32.decode a).isNaN
  · obtain ⟨q, rfl, hq, hi, -⟩ := widen hn hx
    have hle := le_inf hn
    have hle' : mag Ieee.single a ≤ Ieee.single.infRung := hle
    have := hi.2 (by omega)
    unfold Fin64
    rw [mag_word _ _ hq]; omega
  · intro hc
    have h1 := hx.1 (fits_wide a)
    rw [mean_nan hn] at h1
    rw [hc.mean] at h1; cases h1

def hugeB (x : Nat) : Bool := FloatKind.f64.format.order (absN x) 4841369599423283200 == some .gt || FloatKind.f64.format.order (absN x) 4841369599423283200 == some .eq
theorem hugeB_eq {x : Nat} (hw : (Lit.float .f64 x).wf = true) (h : Fin64 x) : hugeB x = !decide (mag Ieee.double x < two52) := by
  have ea : absN x = mag Ieee.double x := absN_eq hw
  have hm : mag Ieee.double (absN x) = mag Ieee.double x := by
    rw [ea]; exact Nat.mod_eq_of_lt (Nat.lt_trans h (by decide))
  have hs : sgn Ieee.double (absN x) = false := by
    rw [ea]
    show (mag Ieee.double x / 9223372036854775808 % 2 == 1) = false
    have : mag Ieee.double x < 9223372036854775808 := Nat.lt_trans h (by decide)
    rw [Nat.div_eq_of_lt this]; rfl
  have hf : Fin64 (absN x) := by unfold Fin64; rw [hm]; exact h
  have hv : val Ieee.double (absN x) = (V Ieee.double (mag Ieee.double x) : Int) := by
    unfold val; rw [hs, hm]; rfl
  unfold hugeB
  rw [huge_up hf, hv]
  by_cases c : mag Ieee.double x < two52
  · have := V_two52_lt.1 c
    rw [decide_eq_true c, decide_eq_false (by omega)]; rfl
  · have : ¬ V Ieee.double (mag Ieee.double x) < V Ieee.double two52 := fun h => c (V_two52_lt.2 h)
    rw [decide_eq_false c, decide_eq_true (by omega)]; rfl
theorem huge_any (x : Nat) (w : World) :
    Calls Try.prog 44 #[.float .f64 x] w fun e w' => e = .returned (.bool (hugeB x)) ∧ w' = w := by
  go_enter Try.func44, Try.ntmps44
  go_wp2_with (go_at_call 54; refine (abs_any _ _).mono ?_; rintro e w' ⟨rfl, rfl⟩)
  go_ret
  exact ⟨rfl, rfl⟩

/-- The sine of what a 32-bit number is, in 64 bits. -/
def sinOf (a : Nat) : Option Nat := if finB .f32 a then sinWM (wideN a) else none
theorem sinWM_conv {a x : Nat} (hx : FConv .f32 .f64 a x) : sinWM x = sinOf a := by
  unfold sinOf
  cases h : finB .f32 a
  · rw [sinWM_nan (wide_nfin h hx)]; simp
  · rw [wide_eq (nan_of_fin h) hx]; simp
theorem sinWM_fits {x y : Nat} (h : mean .f64 y = sinWM x) : fits .f64 .f32 y = true := by
  unfold sinWM at h
  split at h
  · split at h
    · rename_i hs
      exact MB.fits (by rw [h]; exact (sineM_part hs).mono (by omega))
    · obtain ⟨rfl, -⟩ := mean_some h
      decide
  · rcases mean_cases .f64 y with ⟨g1, g2⟩ | ⟨g1, g2⟩
    · exact fits_nan g1
    · rw [g2] at h; cases h
/-- What the sine of a 32-bit number is. -/
def SinIs (a g : Nat) : Prop := mean .f32 g = fconv .f64 .f32 (sinOf a) ∧ (Lit.float .f32 g).wf = true
theorem SinIs.mk {a x y g : Nat} (hx : FConv .f32 .f64 a x) (hy : mean .f64 y = sinWM x) (hg : FConv .f64 .f32 y g) : SinIs a g :=
  ⟨by rw [hg.1 (sinWM_fits hy), hy, sinWM_conv hx], hg.2⟩
theorem lsine_any (a : Nat) (ha : (Lit.float .f32 a).wf = true) (w : World) :
    Calls Try.prog 43 #[.float .f32 a] w fun e w' => ∃ g, SinIs a g ∧ e = .returned (.float .f32 g) ∧ ∃ n, w' = w.drewN n := by
  go_enter Try.func43, Try.ntmps43
  go_wp2_with (first | (refine wpList_fconv rfl _ _ _ rfl .f32 .f64 _ rfl (by assumption) (by rw [Try.underlying22]; rfl) Try.underlying25 ?_; intro x n hx) | (go_at_call 63; refine (swide_any _ _).mono ?_; rintro e w' ⟨y, hy, rfl, m, rfl⟩; have hY := Lib_hid' hy; clear hy) | (go_at_call 59; refine (narrow_any _ (by exact hY.out.2) _).mono ?_; rintro e w' ⟨g, hg, rfl, k, rfl⟩))
  go_ret
  exact ⟨g, SinIs.mk hx hY.out.1 hg, rfl, _, rfl⟩
theorem ssine_any (a : Nat) (ha : (Lit.float .f32 a).wf = true) (w : World) :
    Calls Try.prog 17 #[.float .f32 a] w fun e w' => ∃ g, SinIs a g ∧ e = .returned (.float .f32 g) ∧ ∃ n, w' = w.drewN n := by
  go_enter Try.func17, Try.ntmps17
  go_wp2_with (go_at_call 43; refine (lsine_any _ (by assumption) _).mono ?_; rintro e w' ⟨g, hg, rfl, k, rfl⟩)
  go_ret
  exact ⟨g, hg, rfl, _, rfl⟩
theorem SinIs.nan {a g : Nat} (h : finB .f32 a = false) (hg : FConv .f64 .f32 9221120237041090561 g) : SinIs a g := by
  refine ⟨?_, hg.2⟩
  rw [hg.1 (by decide +kernel), mean_nan64.1]
  unfold sinOf
  rw [h]; simp
theorem SinIs.huge {a : Nat} (h : finB .f32 a = true) (hh : hugeB (wideN a) = true) : SinIs a 0 := by
  refine ⟨?_, wf_of_lt .f32 _ (by decide)⟩
  have hs : ¬ mag Ieee.double (wideN a) < two52 := by
    rw [hugeB_eq (wide_wf a) (wide_fin h)] at hh
    simpa using hh
  unfold sinOf
  rw [h, sinWM_huge (wide_fin h) hs]
  decide +kernel
theorem small_of {a : Nat} (h : finB .f32 a = true) (hh : hugeB (wideN a) = false) : mag Ieee.double (wideN a) < two52 := by
  rw [hugeB_eq (wide_wf a) (wide_fin h)] at hh
  simpa using hh
theorem SinIs.small {a y g : Nat} (h : finB .f32 a = true) (hh : mag Ieee.double (wideN a) < two52) (hy : mean .f64 y = sineM (partM (wideN a))) (hg : FConv .f64 .f32 y g) : SinIs a g :=
  SinIs.mk (wide_conv (nan_of_fin h)) (by rw [hy, sinWM_small hh]) hg
theorem isineT_any (a : Nat) (ha : (Lit.float .f32 a).wf = true) (w : World) :
    Calls Try.prog 18 #[.float .f32 a] w fun e w' => ∃ g, SinIs a g ∧ e = .returned (.float .f32 g) ∧ ∃ n, w' = w.drewN n := by
  cases hf : finB .f32 a
  · have hF := Lib_hid' hf
    go_enter Try.func18, Try.ntmps18
    go_wp2_with (first | (go_at_call 41; refine (ifin_any _ _).mono ?_; rintro e w' ⟨rfl, n, rfl⟩) | (go_at_call 40; refine (mnan_any _).mono ?_; rintro e w' ⟨rfl, rfl⟩) | (refine wpList_fconv rfl _ _ _ rfl .f64 .f32 _ rfl (by exact mean_nan64.2) (by rw [Try.underlying25]; rfl) Try.underlying22 ?_; intro g n hg))
    go_ret
    exact ⟨g, SinIs.nan hF.out hg, rfl, _, rfl⟩
  · have hF := Lib_hid' hf
    have hW := wide_wf a
    cases hh : hugeB (wideN a)
    · have hS := Lib_hid' (small_of hf hh)
      go_enter Try.func18, Try.ntmps18
      go_wp2_with (first | (go_at_call 41; refine (ifin_any _ _).mono ?_; rintro e w' ⟨rfl, n, rfl⟩) | (refine wpList_fconv rfl _ _ _ rfl .f32 .f64 _ rfl (by assumption) (by rw [Try.underlying22]; rfl) Try.underlying25 ?_; intro x n hx; obtain rfl := wide_eq (nan_of_fin hF.out) hx) | (go_at_call 44; refine (huge_any _ _).mono ?_; rintro e w' ⟨rfl, rfl⟩) | (go_at_call 45; refine (isine_any _ hS.out _).mono ?_; rintro e w' ⟨y, hy, rfl, m, rfl⟩; have hY := Lib_hid' hy; clear hy) | (refine wpList_fconv rfl _ _ _ rfl .f64 .f32 _ rfl (by exact hY.out.2) (by rw [Try.underlying25]; rfl) Try.underlying22 ?_; intro g n hg))
      go_ret
      exact ⟨g, SinIs.small hF.out hS.out hY.out.1 hg, rfl, _, rfl⟩
    · have hH := Lib_hid' hh
      go_enter Try.func18, Try.ntmps18
      go_wp2_with (first | (go_at_call 41; refine (ifin_any _ _).mono ?_; rintro e w' ⟨rfl, n, rfl⟩) | (refine wpList_fconv rfl _ _ _ rfl .f32 .f64 _ rfl (by assumption) (by rw [Try.underlying22]; rfl) Try.underlying25 ?_; intro x n hx; obtain rfl := wide_eq (nan_of_fin hF.out) hx) | (go_at_call 44; refine (huge_any _ _).mono ?_; rintro e w' ⟨rfl, rfl⟩))
      go_ret
      exact ⟨0, SinIs.huge hF.out hH.out, rfl, _, rfl⟩
theorem mean_wide' {r q x y : Nat} (h : mean .f32 r = mean .f32 q) (hx : FConv .f32 .f64 r x) (hy : FConv .f32 .f64 q y) : mean .f64 x = mean .f64 y := conv_same h hx hy (fits_wide _) (fits_wide _)
theorem law_SineTurns (a : Nat) (ha : (Lit.float .f32 a).wf = true) (w : World) :
    Calls Try.prog 5 #[.float .f32 a] w fun e w' => e = .returned (.bool true) ∧ Grown w w' := by
  go_enter Try.func5, Try.ntmps5
  go_wp2_with (first | (go_at_call 17; refine (ssine_any _ (by assumption) _).mono ?_; rintro e w' ⟨r, hr, rfl, k, rfl⟩) | (go_at_call 18; refine (isineT_any _ (by assumption) _).mono ?_; rintro e w' ⟨g, hg, rfl, k, rfl⟩) | (go_at_call 14; refine (same_yes _ _ (mean_wide' (hg.1.trans hr.1.symm) (by assumption) (by assumption)) _).mono ?_; rintro e w' ⟨rfl, n, rfl⟩) | (refine wpList_fconv rfl _ _ _ rfl .f32 .f64 _ rfl (by first | exact hr.2 | exact hg.2) (by rw [Try.underlying22]; rfl) Try.underlying25 ?_; intro x n hx))
  all_goals (go_ret; exact ⟨rfl, grown_drewN _ _⟩)
end Go.Proofs.Ytlcekfahjakfgaa
