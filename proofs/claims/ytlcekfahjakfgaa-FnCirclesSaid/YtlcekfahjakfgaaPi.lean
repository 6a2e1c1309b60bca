/-
  Contracts: phasors; the law on them.
-/
import Derived.Test.YtlcekfahjakfgaaSj
import Derived.Test.YtlcekfahjakfgaaPh
import Derived.Deep.RegionWith
namespace Go.Proofs.Ytlcekfahjakfgaa
open Go.RowKit Fl

/-- What a phasor is, in 32 bits. -/
def PhIs (a g h : Nat) : Prop := (mean .f32 g = fconv .f64 .f32 (phaseM a).1 ∧ (Lit.float .f32 g).wf = true) ∧ (mean .f32 h = fconv .f64 .f32 (phaseM a).2 ∧ (Lit.float .f32 h).wf = true)
theorem PhIs.mk {a y z g h : Nat} (hp : phaseM a = (mean .f64 y, mean .f64 z)) (fy : fits .f64 .f32 y = true) (fz : fits .f64 .f32 z = true) (hg : FConv .f64 .f32 y g) (hh : FConv .f64 .f32 z h) : PhIs a g h := by
  unfold PhIs
  rw [hp]
  exact ⟨⟨hg.1 fy, hg.2⟩, ⟨hh.1 fz, hh.2⟩⟩
theorem phase_nan {a : Nat} (h : ¬ Fin64 a) : phaseM a = (none, none) := if_neg h
theorem phase_huge {a : Nat} (h : Fin64 a) (hs : ¬ mag Ieee.double a < two52) : phaseM a = (some one64, some 0) := by
  unfold phaseM; unfold Fin64 at h; rw [if_pos h, if_neg hs]
theorem PhIs.nan {a g h : Nat} (hn : ¬ Fin64 a) (hg : mean .f32 g = none ∧ (Lit.float .f32 g).wf = true) (hh : mean .f32 h = none ∧ (Lit.float .f32 h).wf = true) : PhIs a g h := by
  unfold PhIs
  rw [phase_nan hn]
  exact ⟨hg, hh⟩
theorem PhIs.huge {a : Nat} (h : Fin64 a) (hs : ¬ mag Ieee.double a < two52) : PhIs a 1065353216 0 := by
  unfold PhIs
  rw [phase_huge h hs]
  decide +kernel
theorem nan32_is {g : Nat} (hg : FConv .f64 .f32 9221120237041090561 g) : mean .f32 g = none ∧ (Lit.float .f32 g).wf = true := ⟨by rw [hg.1 (by decide +kernel), mean_nan64.1]; rfl, hg.2⟩

/-- What stands at the head of the loop. -/
def QuartHead (a : Nat) (fb j : Nat) : Prop := j ≤ 4 ∧ Quart (4 - j) fb ∧ quartM (5 - j) (some fb) j = quartM 5 (partM a) 0
theorem QuartHead.start {a f : Nat} (h : mag Ieee.double a < two52) (hf : mean .f64 f = partM a) : QuartHead a f 0 := by
  have hq := quart_start h hf
  refine ⟨by omega, hq, ?_⟩
  rw [← hf, hq.1.mean]
theorem QuartHead.lt {a fb j : Nat} (h : QuartHead a fb j) (hge : geM (some fb) (some quarter64) = true) : j < 4 := by
  by_cases c : j = 4
  · subst c
    rw [quart_none h.2.1] at hge; cases hge
  · have := h.1; omega
theorem QuartHead.step {a fb j q : Nat} (h : QuartHead a fb j) (hge : geM (some fb) (some quarter64) = true) (hq : FRes .sub .f64 fb 4598175219545276416 q) : QuartHead a q (j + 1) := by
  have hj := h.lt hge
  have e : 4 - j = (4 - (j + 1)) + 1 := by omega
  have h2 := h.2.1
  rw [e] at h2
  obtain ⟨g, hg, hgq⟩ := quart_step (by omega) h2 hge
  have hm : mean .f64 q = some g := by rw [hq.1, h2.1.mean, mean_quarter]; exact hg
  obtain ⟨rfl, -⟩ := mean_some hm
  refine ⟨by omega, hgq, ?_⟩
  rw [← h.2.2]
  have e5 : 5 - j = (5 - (j + 1)) + 1 := by omega
  rw [e5]
  show quartM (5 - (j + 1)) (some q) (j + 1) = (if geM (some fb) (some quarter64) then quartM (5 - (j + 1)) (fop .sub .f64 (some fb) (some quarter64)) (j + 1) else (some fb, j))
  rw [hge, hg]; rfl
theorem QuartHead.stop {a fb j : Nat} (h : QuartHead a fb j) (hge : geM (some fb) (some quarter64) = false) : quartM 5 (partM a) 0 = (some fb, j) := by
  rw [← h.2.2]
  have := h.1
  have e5 : 5 - j = (5 - (j + 1)) + 1 := by omega
  rw [e5]
  unfold quartM
  rw [hge]; simp
theorem QuartHead.test {a fb j : Nat} {b : Bool} (h : QuartHead a fb j) (hb : (FloatKind.f64.format.order fb 4598175219545276416 == some .gt || FloatKind.f64.format.order fb 4598175219545276416 == some .eq) = b) : geM (some fb) (some quarter64) = b := by
  rw [order_mean, h.2.1.1.mean, mean_quarter] at hb; exact hb
/-- The rest behind the loop. -/
theorem QuartHead.rest {a fb j x : Nat} (h : QuartHead a fb j) (hge : geM (some fb) (some quarter64) = false) (hx : FRes .sub .f64 4598175219545276416 fb x) : mag Ieee.double x < two52 ∧ mag Ieee.double fb < two52 ∧ mean .f64 x = fop .sub .f64 (some quarter64) (some fb) := by
  have h4 := h.2.1.up (by omega)
  obtain ⟨g, hg, hs⟩ := quart_rest h4 hge
  have hm : mean .f64 x = fop .sub .f64 (some quarter64) (some fb) := by rw [hx.1, mean_quarter, h4.1.mean]
  refine ⟨?_, quart_small (by omega) h4, hm⟩
  rw [hg] at hm
  obtain ⟨rfl, -⟩ := mean_some hm
  exact hs
theorem phase_small {a fb j x c s : Nat} (ha : mag Ieee.double a < two52) (h : QuartHead a fb j) (hge : geM (some fb) (some quarter64) = false) (hx : FRes .sub .f64 4598175219545276416 fb x) (hc : mean .f64 c = sineM (partM x)) (hs : mean .f64 s = sineM (partM fb)) : phaseM a = turnM j (mean .f64 c) (mean .f64 s) := by
  obtain ⟨h1, h2, h3⟩ := h.rest hge hx
  have fx : Fin64 x := Nat.lt_trans h1 (by decide)
  unfold phaseM
  rw [if_pos (Nat.lt_trans ha (by decide)), if_pos ha, h.stop hge]
  show turnM j (sinA (fop .sub .f64 (some quarter64) (some fb))) (sinA (some fb)) = _
  rw [← h3, fx.mean, hc, hs]; rfl
theorem mean_zero64 : mean .f64 0 = some 0 := by decide
theorem fits_sin {x c : Nat} (hx : mag Ieee.double x < two52) (hc : mean .f64 c = sineM (partM x)) : fits .f64 .f32 c = true := MB.fits (by rw [hc]; exact (sineM_part hx).mono (by omega))
theorem fits_nsin {x c y : Nat} (hx : mag Ieee.double x < two52) (hc : mean .f64 c = sineM (partM x)) (hy : FRes .sub .f64 0 c y) : fits .f64 .f32 y = true := MB.fits (by rw [hy.1, mean_zero64, hc]; exact sub_zero_bd (sineM_part hx))
theorem ph0 {a c s j : Nat} (hj : j = 0 ∨ j = 4) (h : phaseM a = turnM j (mean .f64 c) (mean .f64 s)) : phaseM a = (mean .f64 c, mean .f64 s) := by
  rcases hj with rfl | rfl <;> exact h
theorem ph1 {a c s y : Nat} (h : phaseM a = turnM 1 (mean .f64 c) (mean .f64 s)) (hy : FRes .sub .f64 0 s y) : phaseM a = (mean .f64 y, mean .f64 c) := by
  rw [h, hy.1, mean_zero64]; rfl
theorem ph2 {a c s y z : Nat} (h : phaseM a = turnM 2 (mean .f64 c) (mean .f64 s)) (hy : FRes .sub .f64 0 c y) (hz : FRes .sub .f64 0 s z) : phaseM a = (mean .f64 y, mean .f64 z) := by
  rw [h, hy.1, hz.1, mean_zero64]; rfl
theorem ph3 {a c s z : Nat} (h : phaseM a = turnM 3 (mean .f64 c) (mean .f64 s)) (hz : FRes .sub .f64 0 c z) : phaseM a = (mean .f64 s, mean .f64 z) := by
  rw [h, hz.1, mean_zero64]; rfl

set_option maxHeartbeats 3000000 in
theorem iphase_any (a : Nat) (hw : (Lit.float .f64 a).wf = true) (w : World) :
    Calls Try.prog 20 #[.float .f64 a] w fun e w' => ∃ g h, PhIs a g h ∧ e = .returned (.complex .f32 g h) ∧ ∃ n, w' = w.drewN n := by
  by_cases hf : Fin64 a
  · by_cases hs : mag Ieee.double a < two52
    · have hH := Lib_hid' hs
      have hh : hugeB a = false := by rw [hugeB_eq hw hf, decide_eq_true hs]; rfl
      clear hs
      go_enter Try.func20, Try.ntmps20
      go_wp2_with (first | (go_at_call 40; refine (mnan_any _).mono ?_; rintro e w' ⟨rfl, rfl⟩) | (refine wpList_fconv rfl _ _ _ rfl .f64 .f32 9221120237041090561 rfl (by exact mean_nan64.2) (by rw [Try.underlying25]; rfl) Try.underlying22 ?_; intro nv nnv hnv) | (refine wpList_float rfl .sub _ _ _ _ rfl rfl .f64 a a rfl rfl ?_; intro r0 n0 hr0; have hr1 := sub_fin hf hr0) | (go_at_call 44; refine (huge_any _ _).mono ?_; rintro e w' ⟨rfl, rfl⟩) | (go_at_call 47; refine (part_any _ hH.out _).mono ?_; rintro e w' ⟨f, hf0, rfl, n5, rfl⟩; have hF := Lib_hid' hf0; clear hf0))
      go_loopw [4, 5] (fun f q wr => ∃ fb j : Nat, f = .float .f64 fb ∧ q = .int .i64 j ∧ QuartHead a fb j ∧ ∃ n, wr = w.drewN n) (fun _ q _ => 5 - (intOf q).toNat)
      case atStart => exact ⟨f, 0, rfl, rfl, QuartHead.start hH.out hF.out.1, _, rfl⟩
      case round =>
        obtain ⟨fb, j, rfl, rfl, hq, n, rfl⟩ := hrel
        have hj4 := hq.1
        have hQ := Lib_hid' hq
        clear hq
        cases hb : (FloatKind.f64.format.order fb 4598175219545276416 == some .gt || FloatKind.f64.format.order fb 4598175219545276416 == some .eq)
        · have hge := Lib_hid' (hQ.out.test hb)
          go_wp2_with (first | (refine wpList_float rfl .sub _ _ _ _ rfl rfl .f64 4598175219545276416 fb rfl rfl ?_; intro x nx hx) | fail)
          have hX := Lib_hid' (hQ.out.rest hge.out hx)
          refine (isine_any x hX.out.1 _).mono ?_
          rintro e w' ⟨c, hc, rfl, m1, rfl⟩
          have hC := Lib_hid' (hc)
          clear hc
          go_wp2_with fail
          refine (isine_any fb hX.out.2.1 _).mono ?_
          rintro e w' ⟨s, hs, rfl, m2, rfl⟩
          have hS := Lib_hid' (hs)
          clear hs
          have hP := Lib_hid' (phase_small hH.out hQ.out hge.out hx hC.out.1 hS.out.1)
          clear hx
          have hj : j = 0 ∨ j = 1 ∨ j = 2 ∨ j = 3 ∨ j = 4 := by have := hQ.out.1; omega
          rcases hj with rfl | rfl | rfl | rfl | rfl
          · go_wp2_with (first | (refine wpList_fconv rfl _ _ _ rfl .f64 .f32 c rfl hC.out.2 (by rw [Try.underlying25]; rfl) Try.underlying22 ?_; intro g ng hg) | (refine wpList_fconv rfl _ _ _ rfl .f64 .f32 s rfl hS.out.2 (by rw [Try.underlying25]; rfl) Try.underlying22 ?_; intro h nh hh))
            go_ret
            exact ⟨g, h, PhIs.mk (ph0 (.inl rfl) hP.out) (fits_sin hX.out.1 hC.out.1) (fits_sin hX.out.2.1 hS.out.1) hg hh, rfl, _, rfl⟩
          · go_wp2_with (first | (refine wpList_float rfl .sub _ _ _ _ rfl rfl .f64 0 s rfl rfl ?_; intro y ny hy) | (refine wpList_fconv rfl _ _ _ rfl .f64 .f32 y rfl hy.2 (by rw [Try.underlying25]; rfl) Try.underlying22 ?_; intro g ng hg) | (refine wpList_fconv rfl _ _ _ rfl .f64 .f32 c rfl hC.out.2 (by rw [Try.underlying25]; rfl) Try.underlying22 ?_; intro h nh hh))
            go_ret
            exact ⟨g, h, PhIs.mk (ph1 hP.out hy) (fits_nsin hX.out.2.1 hS.out.1 hy) (fits_sin hX.out.1 hC.out.1) hg hh, rfl, _, rfl⟩
          · go_wp2_with (first | (refine wpList_float rfl .sub _ _ _ _ rfl rfl .f64 0 c rfl rfl ?_; intro y ny hy) | (refine wpList_float rfl .sub _ _ _ _ rfl rfl .f64 0 s rfl rfl ?_; intro z nz hz) | (refine wpList_fconv rfl _ _ _ rfl .f64 .f32 y rfl hy.2 (by rw [Try.underlying25]; rfl) Try.underlying22 ?_; intro g ng hg) | (refine wpList_fconv rfl _ _ _ rfl .f64 .f32 z rfl hz.2 (by rw [Try.underlying25]; rfl) Try.underlying22 ?_; intro h nh hh))
            go_ret
            exact ⟨g, h, PhIs.mk (ph2 hP.out hy hz) (fits_nsin hX.out.1 hC.out.1 hy) (fits_nsin hX.out.2.1 hS.out.1 hz) hg hh, rfl, _, rfl⟩
          · go_wp2_with (first | (refine wpList_float rfl .sub _ _ _ _ rfl rfl .f64 0 c rfl rfl ?_; intro z nz hz) | (refine wpList_fconv rfl _ _ _ rfl .f64 .f32 s rfl hS.out.2 (by rw [Try.underlying25]; rfl) Try.underlying22 ?_; intro g ng hg) | (refine wpList_fconv rfl _ _ _ rfl .f64 .f32 z rfl hz.2 (by rw [Try.underlying25]; rfl) Try.underlying22 ?_; intro h nh hh))
            go_ret
            exact ⟨g, h, PhIs.mk (ph3 hP.out hz) (fits_sin hX.out.2.1 hS.out.1) (fits_nsin hX.out.1 hC.out.1 hz) hg hh, rfl, _, rfl⟩
          · go_wp2_with (first | (refine wpList_fconv rfl _ _ _ rfl .f64 .f32 c rfl hC.out.2 (by rw [Try.underlying25]; rfl) Try.underlying22 ?_; intro g ng hg) | (refine wpList_fconv rfl _ _ _ rfl .f64 .f32 s rfl hS.out.2 (by rw [Try.underlying25]; rfl) Try.underlying22 ?_; intro h nh hh))
            go_ret
            exact ⟨g, h, PhIs.mk (ph0 (.inr rfl) hP.out) (fits_sin hX.out.1 hC.out.1) (fits_sin hX.out.2.1 hS.out.1) hg hh, rfl, _, rfl⟩
        · have hge := Lib_hid' (hQ.out.test hb)
          have hlt := hQ.out.lt hge.out
          go_wp2_with (first | (refine wpList_float rfl .sub _ _ _ _ rfl rfl .f64 fb 4598175219545276416 rfl rfl ?_; intro f1 nf1 hf1))
          go_roundw
          case rel => exact ⟨f1, j + 1, rfl, by go_num, hQ.out.step hge.out hf1, _, rfl⟩
          case measure => simp [intOf]; omega
    · have hh : hugeB a = true := by rw [hugeB_eq hw hf, decide_eq_false hs]; rfl
      have hP := Lib_hid' (PhIs.huge hf hs)
      clear hs
      go_enter Try.func20, Try.ntmps20
      go_wp2_with (first | (go_at_call 40; refine (mnan_any _).mono ?_; rintro e w' ⟨rfl, rfl⟩) | (refine wpList_fconv rfl _ _ _ rfl .f64 .f32 9221120237041090561 rfl (by exact mean_nan64.2) (by rw [Try.underlying25]; rfl) Try.underlying22 ?_; intro nv nnv hnv) | (refine wpList_float rfl .sub _ _ _ _ rfl rfl .f64 a a rfl rfl ?_; intro r0 n0 hr0; have hr1 := sub_fin hf hr0) | (go_at_call 44; refine (huge_any _ _).mono ?_; rintro e w' ⟨rfl, rfl⟩))
      go_ret
      exact ⟨_, _, hP.out, rfl, _, rfl⟩
  · have hN := Lib_hid' hf
    clear hf
    go_enter Try.func20, Try.ntmps20
    go_wp2_with (first | (go_at_call 40; refine (mnan_any _).mono ?_; rintro e w' ⟨rfl, rfl⟩) | (refine wpList_fconv rfl _ _ _ rfl .f64 .f32 9221120237041090561 rfl (by exact mean_nan64.2) (by rw [Try.underlying25]; rfl) Try.underlying22 ?_; intro nv nnv hnv) | (refine wpList_float rfl .sub _ _ _ _ rfl rfl .f64 a a rfl rfl ?_; intro r0 n0 hr0; have hr1 := sub_nfin hN.out hr0))
    go_ret
    exact ⟨_, _, PhIs.nan hN.out (nan32_is hnv) (nan32_is hnv), rfl, _, rfl⟩

theorem sin_fix {x y : Nat} (h : mag Ieee.double x < two52) (hy : mean .f64 y = sinWM x ∧ (Lit.float .f64 y).wf = true) : mean .f64 y = sineM (partM x) ∧ (Lit.float .f64 y).wf = true := ⟨by rw [hy.1, sinWM_small h], hy.2⟩
theorem nan32_const : mean .f32 2143289344 = none ∧ (Lit.float .f32 2143289344).wf = true := by decide +kernel
theorem lnan_any (w : World) :
    Calls Try.prog 64 #[.int .i64 2143289344] w fun e w' => e = .returned (.float .f32 2143289344) ∧ w = w' :=
  (lfrom_any 2143289344 (by decide) w).mono fun _ _ ⟨h1, h2⟩ => ⟨h1, h2.symm⟩
set_option maxHeartbeats 4000000 in
theorem lphase_any (a : Nat) (w : World) :
    Calls Try.prog 46 #[.float .f64 a] w fun e w' => ∃ g h, PhIs a g h ∧ e = .returned (.complex .f32 g h) ∧ ∃ n, w' = w.drewN n := by
  by_cases hs : mag Ieee.double a < two52
  · have ha : Fin64 a := Nat.lt_trans hs (by decide)
    have hH := Lib_hid' hs
    have hlt := V_two52_lt.1 hs
    have hv := val_cases a
    have u1 := huge_up ha
    rw [decide_eq_false (by omega)] at u1
    have u2 := huge_down ha
    rw [decide_eq_false (by omega)] at u2
    have hci := fun wx => run_convert_float_int (P := Try.prog) wx 25 2 .f64 .i64 a (wholeZ a) (by rw [Try.underlying25]; rfl) Try.underlying2 (toInt_whole hs)
    clear hlt hv hs
    go_enter Try.func46, Try.ntmps46
    go_wp2_with (refine wpList_float rfl .sub _ _ _ _ rfl rfl .f64 a a rfl rfl ?_; intro r0 n0 hr0; have hr1 := sub_fin ha hr0)
    obtain ⟨f0, m0, e0, h0⟩ := run_float (P := Try.prog) (w.drewN n0) .sub rfl 25 .f64 a (floatOfInt .f64 (wholeZ a))
    rw [e0]
    have hE := Lib_hid' e0
    have h0' := Lib_hid' h0
    clear e0 h0
    cases hl : (FloatKind.f64.format.order f0 0 == some .lt)
    · obtain ⟨f, hf0, hf⟩ : ∃ f, f = f0 ∧ Hid (mean .f64 f = partM a ∧ (Lit.float .f64 f).wf = true) := ⟨f0, rfl, part_ge hH.out h0'.out hl⟩
      subst hf0
      have hF := hf
      clear hf h0' hE
      go_wp2
      go_loopw [3, 4] (fun f q wr => ∃ fb j : Nat, f = .float .f64 fb ∧ q = .int .i64 j ∧ QuartHead a fb j ∧ ∃ n, wr = w.drewN n) (fun _ q _ => 5 - (intOf q).toNat)
      case atStart => exact ⟨f, 0, rfl, rfl, QuartHead.start hH.out hF.out.1, _, rfl⟩
      case round =>
        obtain ⟨fb, j, rfl, rfl, hq, n, rfl⟩ := hrel
        have hj4 := hq.1
        have hQ := Lib_hid' hq
        clear hq
        cases hb : (FloatKind.f64.format.order fb 4598175219545276416 == some .gt || FloatKind.f64.format.order fb 4598175219545276416 == some .eq)
        · have hge := Lib_hid' (hQ.out.test hb)
          go_wp2_with (first | (refine wpList_float rfl .sub _ _ _ _ rfl rfl .f64 4598175219545276416 fb rfl rfl ?_; intro x nx hx) | fail)
          have hX := Lib_hid' (hQ.out.rest hge.out hx)
          refine (swide_any x _).mono ?_
          rintro e w' ⟨c, hc, rfl, m1, rfl⟩
          have hC := Lib_hid' (sin_fix hX.out.1 hc)
          clear hc
          go_wp2_with fail
          refine (swide_any fb _).mono ?_
          rintro e w' ⟨s, hs, rfl, m2, rfl⟩
          have hS := Lib_hid' (sin_fix hX.out.2.1 hs)
          clear hs
          have hP := Lib_hid' (phase_small hH.out hQ.out hge.out hx hC.out.1 hS.out.1)
          clear hx
          have hj : j = 0 ∨ j = 1 ∨ j = 2 ∨ j = 3 ∨ j = 4 := by have := hQ.out.1; omega
          rcases hj with rfl | rfl | rfl | rfl | rfl
          · go_wp2_with (first | (go_at_call_of 59 (Value.float .f64 c); refine (narrow_any _ hC.out.2 _).mono ?_; rintro e w' ⟨g, hg, rfl, kg, rfl⟩) | (go_at_call_of 59 (Value.float .f64 s); refine (narrow_any _ hS.out.2 _).mono ?_; rintro e w' ⟨h, hh, rfl, kh, rfl⟩))
            go_ret
            exact ⟨g, h, PhIs.mk (ph0 (.inl rfl) hP.out) (fits_sin hX.out.1 hC.out.1) (fits_sin hX.out.2.1 hS.out.1) hg hh, rfl, _, rfl⟩
          · go_wp2_with (first | (refine wpList_float rfl .sub _ _ _ _ rfl rfl .f64 0 s rfl rfl ?_; intro y ny hy) | (go_at_call_of 59 (Value.float .f64 y); refine (narrow_any _ hy.2 _).mono ?_; rintro e w' ⟨g, hg, rfl, kg, rfl⟩) | (go_at_call_of 59 (Value.float .f64 c); refine (narrow_any _ hC.out.2 _).mono ?_; rintro e w' ⟨h, hh, rfl, kh, rfl⟩))
            go_ret
            exact ⟨g, h, PhIs.mk (ph1 hP.out hy) (fits_nsin hX.out.2.1 hS.out.1 hy) (fits_sin hX.out.1 hC.out.1) hg hh, rfl, _, rfl⟩
          · go_wp2_with (first | (refine wpList_float rfl .sub _ _ _ _ rfl rfl .f64 0 c rfl rfl ?_; intro y ny hy) | (refine wpList_float rfl .sub _ _ _ _ rfl rfl .f64 0 s rfl rfl ?_; intro z nz hz) | (go_at_call_of 59 (Value.float .f64 y); refine (narrow_any _ hy.2 _).mono ?_; rintro e w' ⟨g, hg, rfl, kg, rfl⟩) | (go_at_call_of 59 (Value.float .f64 z); refine (narrow_any _ hz.2 _).mono ?_; rintro e w' ⟨h, hh, rfl, kh, rfl⟩))
            go_ret
            exact ⟨g, h, PhIs.mk (ph2 hP.out hy hz) (fits_nsin hX.out.1 hC.out.1 hy) (fits_nsin hX.out.2.1 hS.out.1 hz) hg hh, rfl, _, rfl⟩
          · go_wp2_with (first | (refine wpList_float rfl .sub _ _ _ _ rfl rfl .f64 0 c rfl rfl ?_; intro z nz hz) | (go_at_call_of 59 (Value.float .f64 s); refine (narrow_any _ hS.out.2 _).mono ?_; rintro e w' ⟨g, hg, rfl, kg, rfl⟩) | (go_at_call_of 59 (Value.float .f64 z); refine (narrow_any _ hz.2 _).mono ?_; rintro e w' ⟨h, hh, rfl, kh, rfl⟩))
            go_ret
            exact ⟨g, h, PhIs.mk (ph3 hP.out hz) (fits_sin hX.out.2.1 hS.out.1) (fits_nsin hX.out.1 hC.out.1 hz) hg hh, rfl, _, rfl⟩
          · go_wp2_with (first | (go_at_call_of 59 (Value.float .f64 c); refine (narrow_any _ hC.out.2 _).mono ?_; rintro e w' ⟨g, hg, rfl, kg, rfl⟩) | (go_at_call_of 59 (Value.float .f64 s); refine (narrow_any _ hS.out.2 _).mono ?_; rintro e w' ⟨h, hh, rfl, kh, rfl⟩))
            go_ret
            exact ⟨g, h, PhIs.mk (ph0 (.inr rfl) hP.out) (fits_sin hX.out.1 hC.out.1) (fits_sin hX.out.2.1 hS.out.1) hg hh, rfl, _, rfl⟩
        · have hge := Lib_hid' (hQ.out.test hb)
          have hlt := hQ.out.lt hge.out
          go_wp2_with (first | (refine wpList_float rfl .sub _ _ _ _ rfl rfl .f64 fb 4598175219545276416 rfl rfl ?_; intro f1 nf1 hf1))
          go_roundw
          case rel => exact ⟨f1, j + 1, rfl, by go_num, hQ.out.step hge.out hf1, _, rfl⟩
          case measure => simp [intOf]; omega
    · go_wp2
      obtain ⟨f, m1, e1, h1⟩ := run_float (P := Try.prog) (w.drewN (n0 + m0)) .add rfl 25 .f64 f0 4607182418800017408
      rw [e1]
      have hF := Lib_hid' (part_lt hH.out h0'.out hl h1)
      clear e1 h1 h0' hE hl
      go_wp2
      go_loopw [3, 4] (fun f q wr => ∃ fb j : Nat, f = .float .f64 fb ∧ q = .int .i64 j ∧ QuartHead a fb j ∧ ∃ n, wr = w.drewN n) (fun _ q _ => 5 - (intOf q).toNat)
      case atStart => exact ⟨f, 0, rfl, rfl, QuartHead.start hH.out hF.out.1, _, rfl⟩
      case round =>
        obtain ⟨fb, j, rfl, rfl, hq, n, rfl⟩ := hrel
        have hj4 := hq.1
        have hQ := Lib_hid' hq
        clear hq
        cases hb : (FloatKind.f64.format.order fb 4598175219545276416 == some .gt || FloatKind.f64.format.order fb 4598175219545276416 == some .eq)
        · have hge := Lib_hid' (hQ.out.test hb)
          go_wp2_with (first | (refine wpList_float rfl .sub _ _ _ _ rfl rfl .f64 4598175219545276416 fb rfl rfl ?_; intro x nx hx) | fail)
          have hX := Lib_hid' (hQ.out.rest hge.out hx)
          refine (swide_any x _).mono ?_
          rintro e w' ⟨c, hc, rfl, m1, rfl⟩
          have hC := Lib_hid' (sin_fix hX.out.1 hc)
          clear hc
          go_wp2_with fail
          refine (swide_any fb _).mono ?_
          rintro e w' ⟨s, hs, rfl, m2, rfl⟩
          have hS := Lib_hid' (sin_fix hX.out.2.1 hs)
          clear hs
          have hP := Lib_hid' (phase_small hH.out hQ.out hge.out hx hC.out.1 hS.out.1)
          clear hx
          have hj : j = 0 ∨ j = 1 ∨ j = 2 ∨ j = 3 ∨ j = 4 := by have := hQ.out.1; omega
          rcases hj with rfl | rfl | rfl | rfl | rfl
          · go_wp2_with (first | (go_at_call_of 59 (Value.float .f64 c); refine (narrow_any _ hC.out.2 _).mono ?_; rintro e w' ⟨g, hg, rfl, kg, rfl⟩) | (go_at_call_of 59 (Value.float .f64 s); refine (narrow_any _ hS.out.2 _).mono ?_; rintro e w' ⟨h, hh, rfl, kh, rfl⟩))
            go_ret
            exact ⟨g, h, PhIs.mk (ph0 (.inl rfl) hP.out) (fits_sin hX.out.1 hC.out.1) (fits_sin hX.out.2.1 hS.out.1) hg hh, rfl, _, rfl⟩
          · go_wp2_with (first | (refine wpList_float rfl .sub _ _ _ _ rfl rfl .f64 0 s rfl rfl ?_; intro y ny hy) | (go_at_call_of 59 (Value.float .f64 y); refine (narrow_any _ hy.2 _).mono ?_; rintro e w' ⟨g, hg, rfl, kg, rfl⟩) | (go_at_call_of 59 (Value.float .f64 c); refine (narrow_any _ hC.out.2 _).mono ?_; rintro e w' ⟨h, hh, rfl, kh, rfl⟩))
            go_ret
            exact ⟨g, h, PhIs.mk (ph1 hP.out hy) (fits_nsin hX.out.2.1 hS.out.1 hy) (fits_sin hX.out.1 hC.out.1) hg hh, rfl, _, rfl⟩
          · go_wp2_with (first | (refine wpList_float rfl .sub _ _ _ _ rfl rfl .f64 0 c rfl rfl ?_; intro y ny hy) | (refine wpList_float rfl .sub _ _ _ _ rfl rfl .f64 0 s rfl rfl ?_; intro z nz hz) | (go_at_call_of 59 (Value.float .f64 y); refine (narrow_any _ hy.2 _).mono ?_; rintro e w' ⟨g, hg, rfl, kg, rfl⟩) | (go_at_call_of 59 (Value.float .f64 z); refine (narrow_any _ hz.2 _).mono ?_; rintro e w' ⟨h, hh, rfl, kh, rfl⟩))
            go_ret
            exact ⟨g, h, PhIs.mk (ph2 hP.out hy hz) (fits_nsin hX.out.1 hC.out.1 hy) (fits_nsin hX.out.2.1 hS.out.1 hz) hg hh, rfl, _, rfl⟩
          · go_wp2_with (first | (refine wpList_float rfl .sub _ _ _ _ rfl rfl .f64 0 c rfl rfl ?_; intro z nz hz) | (go_at_call_of 59 (Value.float .f64 s); refine (narrow_any _ hS.out.2 _).mono ?_; rintro e w' ⟨g, hg, rfl, kg, rfl⟩) | (go_at_call_of 59 (Value.float .f64 z); refine (narrow_any _ hz.2 _).mono ?_; rintro e w' ⟨h, hh, rfl, kh, rfl⟩))
            go_ret
            exact ⟨g, h, PhIs.mk (ph3 hP.out hz) (fits_sin hX.out.2.1 hS.out.1) (fits_nsin hX.out.1 hC.out.1 hz) hg hh, rfl, _, rfl⟩
          · go_wp2_with (first | (go_at_call_of 59 (Value.float .f64 c); refine (narrow_any _ hC.out.2 _).mono ?_; rintro e w' ⟨g, hg, rfl, kg, rfl⟩) | (go_at_call_of 59 (Value.float .f64 s); refine (narrow_any _ hS.out.2 _).mono ?_; rintro e w' ⟨h, hh, rfl, kh, rfl⟩))
            go_ret
            exact ⟨g, h, PhIs.mk (ph0 (.inr rfl) hP.out) (fits_sin hX.out.1 hC.out.1) (fits_sin hX.out.2.1 hS.out.1) hg hh, rfl, _, rfl⟩
        · have hge := Lib_hid' (hQ.out.test hb)
          have hlt := hQ.out.lt hge.out
          go_wp2_with (first | (refine wpList_float rfl .sub _ _ _ _ rfl rfl .f64 fb 4598175219545276416 rfl rfl ?_; intro f1 nf1 hf1))
          go_roundw
          case rel => exact ⟨f1, j + 1, rfl, by go_num, hQ.out.step hge.out hf1, _, rfl⟩
          case measure => simp [intOf]; omega
  · by_cases ha : Fin64 a
    · have hP := Lib_hid' (PhIs.huge ha hs)
      have hge : ¬ V Ieee.double (mag Ieee.double a) < V Ieee.double two52 := fun h => hs (V_two52_lt.2 h)
      have u1 := huge_up ha
      have u2 := huge_down ha
      rcases val_cases a with hv | hv
      · rw [decide_eq_true (by omega)] at u1
        clear hge hs u2 hv
        go_enter Try.func46, Try.ntmps46
        go_wp2_with (refine wpList_float rfl .sub _ _ _ _ rfl rfl .f64 a a rfl rfl ?_; intro r0 n0 hr0; have hr1 := sub_fin ha hr0)
        go_ret
        exact ⟨_, _, hP.out, rfl, _, rfl⟩
      · have hp : 0 < V Ieee.double two52 := by decide +kernel
        rw [decide_eq_false (by omega)] at u1
        rw [decide_eq_true (by omega)] at u2
        clear hge hs hv hp
        go_enter Try.func46, Try.ntmps46
        go_wp2_with (refine wpList_float rfl .sub _ _ _ _ rfl rfl .f64 a a rfl rfl ?_; intro r0 n0 hr0; have hr1 := sub_fin ha hr0)
        go_ret
        exact ⟨_, _, hP.out, rfl, _, rfl⟩
    · have hN := Lib_hid' ha
      clear hs ha
      go_enter Try.func46, Try.ntmps46
      go_wp2_with (first | (refine wpList_float rfl .sub _ _ _ _ rfl rfl .f64 a a rfl rfl ?_; intro r0 n0 hr0; have hr1 := sub_nfin hN.out hr0) | (go_at_call 64; refine (lnan_any _).mono ?_; rintro e w' ⟨rfl, rfl⟩))
      go_ret
      exact ⟨_, _, PhIs.nan hN.out nan32_const nan32_const, rfl, _, rfl⟩
theorem sphase_any (a : Nat) (w : World) :
    Calls Try.prog 19 #[.float .f64 a] w fun e w' => ∃ g h, PhIs a g h ∧ e = .returned (.complex .f32 g h) ∧ ∃ n, w' = w.drewN n := by
  go_enter Try.func19, Try.ntmps19
  go_wp2_with (go_at_call 46; refine (lphase_any _ _).mono ?_; rintro e w' ⟨g, h, hp, rfl, n, rfl⟩)
  go_ret
  exact ⟨g, h, hp, rfl, _, rfl⟩
theorem samec_yes (a b c d : Nat) (h1 : mean .f64 a = mean .f64 c) (h2 : mean .f64 b = mean .f64 d) (w : World) :
    Calls Try.prog 21 #[.complex .f64 a b, .complex .f64 c d] w fun e w' => e = .returned (.bool true) ∧ ∃ n, w' = w.drewN n := by
  have H1 := Lib_hid' h1
  have H2 := Lib_hid' h2
  clear h1 h2
  go_enter Try.func21, Try.ntmps21
  go_wp2_with (first | (go_at_call_of 14 (Value.float .f64 a); refine (same_yes _ _ H1.out _).mono ?_; rintro e w' ⟨rfl, n, rfl⟩) | (go_at_call_of 14 (Value.float .f64 b); refine (same_yes _ _ H2.out _).mono ?_; rintro e w' ⟨rfl, m, rfl⟩))
  go_ret
  exact ⟨rfl, _, rfl⟩
/-- THE WALK's LAW: a conversion between two kinds of complex numbers. -/
theorem wpList_cconv {P : Program} {ops : Array Oper} {rest : List Oper} {o : Oper} {a : Act} {w : World} {Q : Exit → Act → World → Prop} (hgd : Region.wanted o (yielded ops a.tmps) = true) (src dst : TypeId) (x : Operand) (ho : o.op = .convert src dst x)
    (s k : FloatKind) (p q : Nat) (hx : a.eval x = .complex s p q) (hw1 : (Lit.float s p).wf = true) (hw2 : (Lit.float s q).wf = true) (hs : P.underlying src = some (.complex s)) (hd : P.underlying dst = some (.complex k))
    (h : ∀ r t n, FConv s k p r → FConv s k q t → wpList P ops Q rest (a.put o.dst (.complex k r t)) (w.drewN n)) : wpList P ops Q (o :: rest) a w :=
  wpList_want hgd fun K hK => by
    have key : ∀ (p : Nat) (w : World), (Lit.float s p).wf = true → ∃ r n, (Conv.floatToFloat s p k).run P w = .ok (.float k r) (w.drewN n) ∧ FConv s k p r := fun p w hw => run_ftf w s k p hw
    obtain ⟨r, n, hr, hf⟩ := key p w hw1
    obtain ⟨t, m, ht, hg⟩ := key q (w.drewN n) hw2
    have hK' := hK _ _ (h r t (n + m) hf hg)
    have hr' : (convert src dst (a.eval x)).run P w = .ok (.complex k r t) (w.drewN (n + m)) := by
      rw [hx]
      simp [convert, run_underlying hs, run_underlying hd, Conv.complexToComplex, hr, ht]
    unfold Oper.wp execOp
    simp only [ho, Sem.run_bind, Sem.run_pure, Result.andThen_ok, hr']
    exact hK'
set_option maxHeartbeats 800000 in
theorem law_PhasorOf (a : Nat) (ha : (Lit.float .f64 a).wf = true) (w : World) :
    Calls Try.prog 6 #[.float .f64 a] w fun e w' => e = .returned (.bool true) ∧ Grown w w' := by
  go_enter Try.func6, Try.ntmps6
  go_wp2_with (first | (go_at_call 19; refine (sphase_any _ _).mono ?_; rintro e w' ⟨g, h, hp, rfl, n, rfl⟩; have hP := Lib_hid' hp; clear hp) | (go_at_call 20; refine (iphase_any _ (by assumption) _).mono ?_; rintro e w' ⟨x, y, hq, rfl, m, rfl⟩; have hQ := Lib_hid' hq; clear hq) | (refine wpList_cconv rfl _ _ _ rfl .f32 .f64 x y rfl hQ.out.1.2 hQ.out.2.2 Try.underlying27 Try.underlying30 ?_; intro r1 t1 n1 hr1 ht1) | (refine wpList_cconv rfl _ _ _ rfl .f32 .f64 g h rfl hP.out.1.2 hP.out.2.2 Try.underlying27 Try.underlying30 ?_; intro r2 t2 n2 hr2 ht2) | (go_at_call 21; refine (samec_yes _ _ _ _ (mean_wide' (hQ.out.1.1.trans hP.out.1.1.symm) hr1 hr2) (mean_wide' (hQ.out.2.1.trans hP.out.2.1.symm) ht1 ht2) _).mono ?_; rintro e w' ⟨rfl, k, rfl⟩))
  all_goals (go_ret; exact ⟨rfl, grown_drewN _ _⟩)
end Go.Proofs.Ytlcekfahjakfgaa
