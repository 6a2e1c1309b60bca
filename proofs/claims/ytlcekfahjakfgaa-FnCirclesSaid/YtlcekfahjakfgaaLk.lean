/-
  The logarithm of 32-bit numbers, continued: every input, both functions, and the law.
-/
import Derived.Test.YtlcekfahjakfgaaLj
namespace Go.Proofs.Ytlcekfahjakfgaa
open Go.RowKit Fl

theorem logN_bd {r0 : Nat} (hi : LgIn r0) : MB 16 (logN r0) := by
  unfold LgIn at hi
  unfold logN
  refine logM_bd ?_ ?_ (whole_bd ?_ ?_).1
  · unfold low75 restW; omega
  · unfold high15 restW; omega
  · unfold expE; omega
  · unfold expE; omega
/-- The logarithm of what a 32-bit number is, in 64 bits. -/
def lgOf (a : Nat) : Option Nat :=
  if (FloatKind.f32.decode a).isNaN then none
  else if mag Ieee.single a = 0 then some 18442240474082181120
  else if sgn Ieee.single a then none
  else if finB .f32 a then logN (wideN a) else some 9218868437227405312
theorem lgOf_nan {a : Nat} (h : (FloatKind.f32.decode a).isNaN = true) : lgOf a = none := by unfold lgOf; rw [if_pos h]
theorem lgOf_zero {a : Nat} (h : (FloatKind.f32.decode a).isNaN = false) (h0 : mag Ieee.single a = 0) : lgOf a = some 18442240474082181120 := by
  unfold lgOf; rw [h, if_pos h0]; rfl
theorem lgOf_neg {a : Nat} (h : (FloatKind.f32.decode a).isNaN = false) (h0 : mag Ieee.single a ≠ 0) (hs : sgn Ieee.single a = true) : lgOf a = none := by
  unfold lgOf; rw [h, if_neg h0, hs]; rfl
theorem lgOf_inf {a : Nat} (h : (FloatKind.f32.decode a).isNaN = false) (h0 : mag Ieee.single a ≠ 0) (hs : sgn Ieee.single a = false) (hf : finB .f32 a = false) : lgOf a = some 9218868437227405312 := by
  unfold lgOf; rw [h, if_neg h0, hs, hf]; rfl
theorem lgOf_pos {a : Nat} (h0 : mag Ieee.single a ≠ 0) (hs : sgn Ieee.single a = false) (hf : finB .f32 a = true) : lgOf a = logN (wideN a) := by
  unfold lgOf; rw [nan_of_fin hf, if_neg h0, hs, hf]; rfl
theorem lg_fits {a y : Nat} (hy : mean .f64 y = lgOf a) : fits .f64 .f32 y = true := by
  have hno : lgOf a = none → fits .f64 .f32 y = true := by
    intro h
    rw [h] at hy
    rcases mean_cases .f64 y with ⟨g1, g2⟩ | ⟨g1, g2⟩
    · exact fits_nan g1
    · rw [g2] at hy; cases hy
  have hinf : ∀ c, mag Ieee.double c = Ieee.double.infRung → lgOf a = some c → fits .f64 .f32 y = true := by
    intro c hc h
    rw [h] at hy
    obtain ⟨rfl, -⟩ := mean_some hy
    exact fits_inf (s := .f64) hc
  cases hn : (FloatKind.f32.decode a).isNaN
  · by_cases h0 : mag Ieee.single a = 0
    · exact hinf _ (by decide) (lgOf_zero hn h0)
    · cases hs : sgn Ieee.single a
      · cases hf : finB .f32 a
        · exact hinf _ (by decide) (lgOf_inf hn h0 hs hf)
        · rw [lgOf_pos h0 hs hf] at hy
          exact MB.fits (by rw [hy]; exact (logN_bd (wide_lgin hf hs h0)).mono (by omega))
      · exact hno (lgOf_neg hn h0 hs)
  · exact hno (lgOf_nan hn)
/-- What the logarithm of a 32-bit number is. -/
def LgIs (a g : Nat) : Prop := mean .f32 g = fconv .f64 .f32 (lgOf a) ∧ (Lit.float .f32 g).wf = true
theorem LgIs.mk' {a y g : Nat} (hy : mean .f64 y = lgOf a) (hg : FConv .f64 .f32 y g) : LgIs a g :=
  ⟨by rw [hg.1 (lg_fits hy), hy], hg.2⟩

/-! ### Tests on a number and on its 64-bit form -/
theorem inf_eq32 {a : Nat} (hw : (Lit.float .f32 a).wf = true) (hn : (FloatKind.f32.decode a).isNaN = false) (hs : sgn Ieee.single a = false) (hf : finB .f32 a = false) : a = 2139095040 := by
  have h1 : ¬ mag Ieee.single a < Ieee.single.infRung := of_decide_eq_false hf
  have h2 : mag Ieee.single a ≤ Ieee.single.infRung := le_inf hn
  have h3 : mag Ieee.single a = 2139095040 := Nat.le_antisymm h2 (Nat.le_of_not_lt h1)
  have h4 := word_sgn_mag Ieee.single (lt_of_wf hw)
  rw [hs, h3] at h4
  exact h4
theorem wide_word {a : Nat} (h : (FloatKind.f32.decode a).isNaN = false) : sgn Ieee.double (wideN a) = sgn Ieee.single a ∧ mag Ieee.double (wideN a) ≤ Ieee.double.infRung ∧ (mag Ieee.double (wideN a) = 0 ↔ mag Ieee.single a = 0) := by
  obtain ⟨q, hx, hq, hi, hv⟩ := widen h (wide_conv h)
  rw [hx, sgn_word _ _ hq, mag_word _ _ hq]
  refine ⟨rfl, hq, ?_⟩
  by_cases hf : mag Ieee.single a < Ieee.single.infRung
  · have key : ∃ K, 0 < K ∧ V Ieee.double q = V Ieee.single (mag Ieee.single a) * K := ⟨_, Nat.two_pow_pos 925, hv hf⟩
    clear hv
    obtain ⟨K, hK, hv⟩ := key
    constructor
    · intro h0
      by_cases c : mag Ieee.single a = 0
      · exact c
      · have g := V_pos (f := Ieee.single) c
        have z : V Ieee.double 0 = 0 := by decide
        rw [h0, z] at hv
        exact absurd hv (Nat.ne_of_lt (Nat.mul_pos g hK))
    · intro h0
      by_cases c : q = 0
      · exact c
      · have g := V_pos (f := Ieee.double) c
        have z : V Ieee.single 0 = 0 := by decide
        rw [h0, z, Nat.zero_mul] at hv
        exact absurd hv.symm (Nat.ne_of_lt g)
  · have hle := le_inf h
    have hle' : mag Ieee.single a ≤ Ieee.single.infRung := hle
    have e : mag Ieee.single a = Ieee.single.infRung := by omega
    rw [hi.2 e, e]; decide
theorem wide_num {a : Nat} (h : (FloatKind.f32.decode a).isNaN = false) : (FloatKind.f64.format.order (wideN a) (wideN a) != some .eq) = false := by
  rw [neq_self64]; exact encode_read .f64 _ h
theorem wide_lt {a : Nat} (h : (FloatKind.f32.decode a).isNaN = false) (h0 : mag Ieee.single a ≠ 0) (hs : sgn Ieee.single a = true) : FloatKind.f64.format.order (wideN a) 0 = some .lt := by
  obtain ⟨e1, e2, e3⟩ := wide_word h
  exact ord0_lt (k := .f64) e2 (e1.trans hs) (fun c => h0 (e3.1 c))
theorem wide_zero {a : Nat} (h : (FloatKind.f32.decode a).isNaN = false) (h0 : mag Ieee.single a = 0) : FloatKind.f64.format.order (wideN a) 0 = some .eq := by
  obtain ⟨e1, e2, e3⟩ := wide_word h
  exact ord0_eq (k := .f64) (e3.2 h0)

theorem mean_ninf : mean .f64 18442240474082181120 = some 18442240474082181120 ∧ (Lit.float .f64 18442240474082181120).wf = true := by decide +kernel
theorem mean_pinf : mean .f64 9218868437227405312 = some 9218868437227405312 ∧ (Lit.float .f64 9218868437227405312).wf = true := by decide +kernel
theorem inf_facts : (FloatKind.f64.format.order 9218868437227405312 9218868437227405312 != some .eq) = false ∧ FloatKind.f64.format.order 9218868437227405312 0 = some .gt ∧ (FloatKind.f64.format.order 9218868437227405312 9218868437227405311 == some .gt) = true := by decide +kernel
theorem wide_inf : wideN 2139095040 = 9218868437227405312 := by decide +kernel
theorem slogw_any (a x : Nat) (ha : (Lit.float .f32 a).wf = true) (hx : FConv .f32 .f64 a x) (w : World) :
    Calls Try.prog 61 #[.float .f64 x] w fun e w' => ∃ r, (mean .f64 r = lgOf a ∧ (Lit.float .f64 r).wf = true) ∧ e = .returned (.float .f64 r) ∧ ∃ n, w' = w.drewN n := by
  cases hn : (FloatKind.f32.decode a).isNaN
  · obtain rfl := wide_eq hn hx
    clear hx
    have t1 := wide_num hn
    by_cases h0 : mag Ieee.single a = 0
    · have t2 := wide_zero hn h0
      have hL := Lib_hid' (lgOf_zero hn h0)
      clear hn h0
      go_enter Try.func61, Try.ntmps61
      go_wp2_with (go_at_call 39; refine (inf_neg _).mono ?_; rintro e w' ⟨rfl, rfl⟩)
      go_ret
      exact ⟨_, ⟨by rw [hL.out]; exact mean_ninf.1, mean_ninf.2⟩, rfl, 0, rfl⟩
    · cases hs : sgn Ieee.single a
      · cases hf : finB .f32 a
        · have hL := Lib_hid' (lgOf_inf hn h0 hs hf)
          obtain rfl := inf_eq32 ha hn hs hf
          rw [wide_inf]
          obtain ⟨f1, f2, f3⟩ := inf_facts
          clear hn h0 hs hf t1 ha
          go_enter Try.func61, Try.ntmps61
          go_wp2_with (go_at_call 75; refine (isinf1_any _ _).mono ?_; rw [f3]; rintro e w' ⟨rfl, rfl⟩)
          go_ret
          exact ⟨_, ⟨by rw [hL.out]; exact mean_pinf.1, mean_pinf.2⟩, rfl, 0, rfl⟩
        · rw [lgOf_pos h0 hs hf]
          exact slog_pos _ (wide_lgin hf hs h0) w
      · have t2 := wide_lt hn h0 hs
        have hL := Lib_hid' (lgOf_neg hn h0 hs)
        clear hn h0 hs
        go_enter Try.func61, Try.ntmps61
        go_wp2_with (go_at_call 40; refine (mnan_any _).mono ?_; rintro e w' ⟨rfl, rfl⟩)
        go_ret
        exact ⟨_, ⟨by rw [hL.out]; exact mean_nan64.1, mean_nan64.2⟩, rfl, 0, rfl⟩
  · have hL := Lib_hid' (lgOf_nan hn)
    have t1 : (FloatKind.f64.format.order x x != some .eq) = true := by
      rw [neq_self64]
      have h1 := hx.1 (fits_wide a)
      rw [mean_nan hn] at h1
      rcases mean_cases .f64 x with ⟨g1, g2⟩ | ⟨g1, g2⟩
      · exact g1
      · rw [g2] at h1; cases h1
    clear hn hx
    go_enter Try.func61, Try.ntmps61
    go_wp2_with (go_at_call 40; refine (mnan_any _).mono ?_; rintro e w' ⟨rfl, rfl⟩)
    go_ret
    exact ⟨_, ⟨by rw [hL.out]; exact mean_nan64.1, mean_nan64.2⟩, rfl, 0, rfl⟩
theorem slogt_any (a : Nat) (ha : (Lit.float .f32 a).wf = true) (w : World) :
    Calls Try.prog 38 #[.float .f32 a] w fun e w' => ∃ g, LgIs a g ∧ e = .returned (.float .f32 g) ∧ ∃ n, w' = w.drewN n := by
  go_enter Try.func38, Try.ntmps38
  go_wp2_with (first | (refine wpList_fconv rfl _ _ _ rfl .f32 .f64 _ rfl (by assumption) (by rw [Try.underlying22]; rfl) Try.underlying25 ?_; intro x n hx) | (go_at_call 61; refine (slogw_any a _ (by assumption) (by assumption) _).mono ?_; rintro e w' ⟨y, hy, rfl, m, rfl⟩; have hY := Lib_hid' hy; clear hy) | (go_at_call 59; refine (narrow_any _ (by exact hY.out.2) _).mono ?_; rintro e w' ⟨g, hg, rfl, k, rfl⟩))
  go_ret
  exact ⟨g, LgIs.mk' hY.out.1 hg, rfl, _, rfl⟩
theorem slogn_any (a : Nat) (ha : (Lit.float .f32 a).wf = true) (w : World) :
    Calls Try.prog 15 #[.float .f32 a] w fun e w' => ∃ g, LgIs a g ∧ e = .returned (.float .f32 g) ∧ ∃ n, w' = w.drewN n := by
  go_enter Try.func15, Try.ntmps15
  go_wp2_with (go_at_call 38; refine (slogt_any _ (by assumption) _).mono ?_; rintro e w' ⟨g, hg, rfl, k, rfl⟩)
  go_ret
  exact ⟨g, hg, rfl, _, rfl⟩
theorem ilogn_any (a : Nat) (ha : (Lit.float .f32 a).wf = true) (w : World) :
    Calls Try.prog 16 #[.float .f32 a] w fun e w' => ∃ g, LgIs a g ∧ e = .returned (.float .f32 g) ∧ ∃ n, w' = w.drewN n := by
  have t1 := neq_self a
  cases hn : (FloatKind.f32.decode a).isNaN
  · rw [hn] at t1
    by_cases h0 : mag Ieee.single a = 0
    · have t2 := ord0_eq (k := .f32) (c := a) h0
      have hL := Lib_hid' (lgOf_zero hn h0)
      clear hn h0
      go_enter Try.func16, Try.ntmps16
      go_wp2_with (first | (go_at_call 39; refine (inf_neg _).mono ?_; rintro e w' ⟨rfl, rfl⟩) | (refine wpList_fconv rfl _ _ _ rfl .f64 .f32 _ rfl (by exact mean_ninf.2) (by rw [Try.underlying25]; rfl) Try.underlying22 ?_; intro g n hg))
      go_ret
      exact ⟨g, LgIs.mk' (by rw [hL.out]; exact mean_ninf.1) hg, rfl, _, rfl⟩
    · cases hs : sgn Ieee.single a
      · have t2 := ord0_gt (k := .f32) (c := a) (le_inf hn) hs h0
        cases hf : finB .f32 a
        · have hL := Lib_hid' (lgOf_inf hn h0 hs hf)
          have hI := Lib_hid' (inf_eq32 ha hn hs hf)
          clear hn h0 hs
          go_enter Try.func16, Try.ntmps16
          go_wp2_with (go_at_call 41; refine (ifin_any _ _).mono ?_; rw [hf]; rintro e w' ⟨rfl, n, rfl⟩)
          go_ret
          exact ⟨a, ⟨by rw [hL.out, hI.out]; decide +kernel, ha⟩, rfl, _, rfl⟩
        · have hL := Lib_hid' (lgOf_pos h0 hs hf)
          have hG := Lib_hid' (wide_lgin hf hs h0)
          have hF := Lib_hid' hf
          have hW := wide_wf a
          clear hn h0 hs
          go_enter Try.func16, Try.ntmps16
          go_wp2_with (first | (go_at_call 41; refine (ifin_any _ _).mono ?_; rw [hf]; rintro e w' ⟨rfl, n, rfl⟩) | (refine wpList_fconv rfl _ _ _ rfl .f32 .f64 _ rfl (by assumption) (by rw [Try.underlying22]; rfl) Try.underlying25 ?_; intro x n hx; obtain rfl := wide_eq (nan_of_fin hF.out) hx) | (go_at_call 42; refine (ilog_any _ hG.out _).mono ?_; rintro e w' ⟨y, hy, rfl, m, rfl⟩; have hY := Lib_hid' hy; clear hy) | (refine wpList_fconv rfl _ _ _ rfl .f64 .f32 _ rfl (by exact hY.out.2) (by rw [Try.underlying25]; rfl) Try.underlying22 ?_; intro g n hg))
          go_ret
          exact ⟨g, LgIs.mk' (by rw [hL.out]; exact hY.out.1) hg, rfl, _, rfl⟩
      · have t2 := ord0_lt (k := .f32) (c := a) (le_inf hn) hs h0
        have hL := Lib_hid' (lgOf_neg hn h0 hs)
        clear hn h0 hs
        go_enter Try.func16, Try.ntmps16
        go_wp2_with (first | (go_at_call 40; refine (mnan_any _).mono ?_; rintro e w' ⟨rfl, rfl⟩) | (refine wpList_fconv rfl _ _ _ rfl .f64 .f32 _ rfl (by exact mean_nan64.2) (by rw [Try.underlying25]; rfl) Try.underlying22 ?_; intro g n hg))
        go_ret
        exact ⟨g, LgIs.mk' (by rw [hL.out]; exact mean_nan64.1) hg, rfl, _, rfl⟩
  · rw [hn] at t1
    have t2 := order_nan_left (k := .f32) (a := a) (b := 0) hn
    have hL := Lib_hid' (lgOf_nan hn)
    clear hn
    go_enter Try.func16, Try.ntmps16
    go_wp2_with (first | (go_at_call 40; refine (mnan_any _).mono ?_; rintro e w' ⟨rfl, rfl⟩) | (refine wpList_fconv rfl _ _ _ rfl .f64 .f32 _ rfl (by exact mean_nan64.2) (by rw [Try.underlying25]; rfl) Try.underlying22 ?_; intro g n hg))
    go_ret
    exact ⟨g, LgIs.mk' (by rw [hL.out]; exact mean_nan64.1) hg, rfl, _, rfl⟩
theorem law_LogNumber (a : Nat) (ha : (Lit.float .f32 a).wf = true) (w : World) :
    Calls Try.prog 4 #[.float .f32 a] w fun e w' => e = .returned (.bool true) ∧ Grown w w' := by
  go_enter Try.func4, Try.ntmps4
  go_wp2_with (first | (go_at_call 15; refine (slogn_any _ (by assumption) _).mono ?_; rintro e w' ⟨r, hr, rfl, k, rfl⟩) | (go_at_call 16; refine (ilogn_any _ (by assumption) _).mono ?_; rintro e w' ⟨g, hg, rfl, k, rfl⟩) | (go_at_call 14; refine (same_yes _ _ (mean_wide' (hg.1.trans hr.1.symm) (by assumption) (by assumption)) _).mono ?_; rintro e w' ⟨rfl, n, rfl⟩) | (refine wpList_fconv rfl _ _ _ rfl .f32 .f64 _ rfl (by first | exact hr.2 | exact hg.2) (by rw [Try.underlying22]; rfl) Try.underlying25 ?_; intro x n hx))
  all_goals (go_ret; exact ⟨rfl, grown_drewN _ _⟩)
end Go.Proofs.Ytlcekfahjakfgaa
