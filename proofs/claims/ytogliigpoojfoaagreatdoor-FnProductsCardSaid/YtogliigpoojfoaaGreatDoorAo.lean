/-
  The angle of 32-bit points: both functions, and the law.
-/
import Derived.Test.YtogliigpoojfoaaGreatDoorAn
namespace Go.Proofs.YtogliigpoojfoaaGreatDoor
set_option maxRecDepth 100000
open Go.RowKit Fl

theorem grown_drewN' {w w' : World} (h : Grown w w') : ∀ n, Grown w (w'.drewN n) := by
  intro n
  induction n generalizing w' with
  | zero => exact h
  | succ n ih => exact ih (w' := w'.drew) h.drew
/-- The angle of a 32-bit point, in 64 bits. -/
def angOf (y x : Nat) : Option Nat := if finB .f32 y && finB .f32 x then angW (wideN y) (wideN x) else none
theorem angW_conv {y x y' x' : Nat} (hy : FConv .f32 .f64 y y') (hx : FConv .f32 .f64 x x') : angW y' x' = angOf y x := by
  unfold angOf
  cases h : finB .f32 y
  · rw [angW_nan fun c => wide_nfin h hy c.1]; simp
  · cases k : finB .f32 x
    · rw [angW_nan fun c => wide_nfin k hx c.2]; simp
    · rw [wide_eq (nan_of_fin h) hy, wide_eq (nan_of_fin k) hx]; simp
/-- What the angle of a 32-bit point is. -/
def AngIs (y x g : Nat) : Prop := mean .f32 g = fconv .f64 .f32 (angOf y x) ∧ (Lit.float .f32 g).wf = true
theorem AngIs.mk {y x y' x' r g : Nat} (hy : FConv .f32 .f64 y y') (hx : FConv .f32 .f64 x x') (hr : mean .f64 r = angW y' x') (hg : FConv .f64 .f32 r g) : AngIs y x g :=
  ⟨by rw [hg.1 (angW_fits hy.2 hx.2 hr), hr, angW_conv hy hx], hg.2⟩
theorem AngIs.of {y x r g : Nat} (hf : finB .f32 y = true ∧ finB .f32 x = true) (hr : mean .f64 r = angW (wideN y) (wideN x)) (hg : FConv .f64 .f32 r g) : AngIs y x g :=
  AngIs.mk (wide_conv (nan_of_fin hf.1)) (wide_conv (nan_of_fin hf.2)) hr hg
theorem AngIs.nan {y x g : Nat} (h : (finB .f32 y && finB .f32 x) = false) (hg : FConv .f64 .f32 9221120237041090561 g) : AngIs y x g := by
  refine ⟨?_, hg.2⟩
  rw [hg.1 (by decide +kernel), mean_nan64.1]
  unfold angOf
  rw [h]; simp
theorem AngIs.zero {y x : Nat} (hf : finB .f32 y = true ∧ finB .f32 x = true) (h : angW (wideN y) (wideN x) = some 0) : AngIs y x 0 := by
  refine ⟨?_, wf_of_lt .f32 _ (by decide)⟩
  unfold angOf
  rw [hf.1, hf.2, h]
  decide +kernel
/-- Tests against nought answer alike in both widths. -/
theorem test32 {x : Nat} (h : finB .f32 x = true) : FloatKind.f32.format.order x 0 = FloatKind.f64.format.order (wideN x) 0 := by
  have hf : mag Ieee.single x < Ieee.single.infRung := of_decide_eq_true h
  obtain ⟨q, hq, hle, hi, hv⟩ := widen (nan_of_fin h) (wide_conv (nan_of_fin h))
  have hw : Fin64 (wideN x) := wide_fin h
  have e0 : val Ieee.single 0 = 0 := by decide
  have o1 : FloatKind.f32.format.order x 0 = some (compare (val Ieee.single x) (val Ieee.single 0)) := order_val .f32 (Nat.le_of_lt hf) (by decide)
  rw [o1, order_fin hw fin_zero, val_zero, e0]
  have hm : mag Ieee.double (wideN x) = q := by rw [hq]; exact mag_word _ _ hle
  have hs : sgn Ieee.double (wideN x) = sgn Ieee.single x := by rw [hq]; exact sgn_word _ _ hle
  have ev : val Ieee.double (wideN x) = val Ieee.single x * ((2 ^ 925 : Nat) : Int) := by
    unfold val
    rw [hm, hs, hv hf, sV_mul]
  rw [ev]
  have hp : (0 : Int) < ((2 ^ 925 : Nat) : Int) := by
    have := Nat.two_pow_pos 925
    omega
  generalize ((2 ^ 925 : Nat) : Int) = K at hp
  generalize val Ieee.single x = v
  congr 1
  by_cases c1 : v < 0
  · rw [cmp_lt c1, cmp_lt (Int.mul_neg_of_neg_of_pos c1 hp)]
  · by_cases c2 : 0 < v
    · rw [cmp_gt c2, cmp_gt (Int.mul_pos c2 hp)]
    · have : v = 0 := by omega
      subst this
      rw [Int.zero_mul]
set_option maxHeartbeats 4000000 in
theorem iangle_any (y x : Nat) (hwy : (Lit.float .f32 y).wf = true) (hwx : (Lit.float .f32 x).wf = true) (w : World) :
    Calls Tryz.prog 34 #[.float .f32 y, .float .f32 x] w fun e w' => ∃ g, AngIs y x g ∧ e = .returned (.float .f32 g) ∧ Laid w w' := by
  have hB := build2 x y
  cases hff : (finB .f32 y && finB .f32 x)
  · have hN := Lib_hid' hff
    have hF : Hid ((!([x, y].any fun x => !finB .f32 x)) = false) := by
      revert hff
      show _ → (!([x, y].any fun x => !finB .f32 x)) = false
      simp only [List.any_cons, List.any_nil]
      cases finB .f32 y <;> cases finB .f32 x <;> simp
    clear hff
    go_enter Tryz.func34, Tryz.ntmps34
    go_wp2_with (first | (go_at_call 60; refine (af_any (some ⟨w.heap.size, 0, none⟩) 2 [x, y] (by simp) _ (row2 x y w)).mono ?_; rw [hF.out]; rintro e w' ⟨rfl, naf, rfl⟩) | (go_at_call 66; refine (mnan_any _).mono ?_; rintro e w' ⟨rfl, rfl⟩) | (refine wpList_fconv rfl _ _ _ rfl .f64 .f32 9221120237041090561 rfl (by exact mean_nan64.2) (by rw [Tryz.underlying46]; rfl) Tryz.underlying28 ?_; intro g ng hg))
    go_ret
    exact ⟨g, AngIs.nan hN.out hg, rfl, ⟨_, _, rfl⟩⟩
  · have hff' : finB .f32 y = true ∧ finB .f32 x = true := by simpa using hff
    have hFF := Lib_hid' hff'
    have hFx := Lib_hid' hff'.2
    have hFy := Lib_hid' hff'.1
    have hF : Hid ((!([x, y].any fun x => !finB .f32 x)) = true) := by
      show (!([x, y].any fun x => !finB .f32 x)) = true
      rw [List.any_cons, List.any_cons, List.any_nil, hff'.1, hff'.2]; rfl
    have fx : Fin64 (wideN x) := wide_fin hff'.2
    have fy : Fin64 (wideN y) := wide_fin hff'.1
    have wx := wide_wf x
    have wy := wide_wf y
    have zx : (FloatKind.f32.format.order x 0 == some .eq) = decide (mag Ieee.double (wideN x) = 0) := by rw [test32 hff'.2]; exact nilB_eq fx
    have zy : (FloatKind.f32.format.order y 0 == some .eq) = decide (mag Ieee.double (wideN y) = 0) := by rw [test32 hff'.1]; exact nilB_eq fy
    have hLx : Hid ((FloatKind.f32.format.order x 0 == some .lt) = lowB (wideN x)) := by unfold Hid; rw [test32 hff'.2]
    have hLy : Hid ((FloatKind.f32.format.order y 0 == some .lt) = lowB (wideN y)) := by unfold Hid; rw [test32 hff'.1]
    clear hff hff'
    by_cases h0 : mag Ieee.double (wideN x) = 0 ∧ mag Ieee.double (wideN y) = 0
    · have hA := Lib_hid' (angW_zero fy fx h0)
      rw [decide_eq_true h0.1] at zx
      rw [decide_eq_true h0.2] at zy
      clear h0
      go_enter Tryz.func34, Tryz.ntmps34
      go_wp2_with (first | (go_at_call 60; refine (af_any (some ⟨w.heap.size, 0, none⟩) 2 [x, y] (by simp) _ (row2 x y w)).mono ?_; rw [hF.out]; rintro e w' ⟨rfl, naf, rfl⟩))
      go_ret
      exact ⟨0, AngIs.zero hFF.out hA.out, rfl, ⟨_, _, rfl⟩⟩
    · have hA := Lib_hid' (angW_some fy fx h0)
      cases ho : overB (wideN y) (wideN x)
      · have hx0 : ¬ mag Ieee.double (wideN x) = 0 := by
          have := overB_eq wy wx fy fx
          rw [ho] at this
          have := of_decide_eq_false this.symm
          omega
        rw [decide_eq_false hx0] at zx
        clear h0 zy hx0
        go_enter Tryz.func34, Tryz.ntmps34
        go_wp2_with (first | (go_at_call 60; refine (af_any (some ⟨w.heap.size, 0, none⟩) 2 [x, y] (by simp) _ (row2 x y w)).mono ?_; rw [hF.out]; rintro e w' ⟨rfl, naf, rfl⟩) | (refine wpList_fconv rfl _ _ _ rfl .f32 .f64 y rfl (by assumption) (by rw [Tryz.underlying28]; rfl) Tryz.underlying46 ?_; intro y2 ny2 hy2; obtain rfl := wide_eq (nan_of_fin hFy.out) hy2) | (refine wpList_fconv rfl _ _ _ rfl .f32 .f64 x rfl (by assumption) (by rw [Tryz.underlying28]; rfl) Tryz.underlying46 ?_; intro x2 nx2 hx2; obtain rfl := wide_eq (nan_of_fin hFx.out) hx2) | (go_at_call 65; refine (abs_any _ _).mono ?_; rintro e w' ⟨rfl, rfl⟩) | (refine wpList_float rfl .quo _ _ _ _ rfl rfl .f64 (absN (wideN y)) (absN (wideN x)) rfl rfl ?_; intro t0 nt0 ht0))
        have hO := Lib_hid' (And.intro ho (tan0_no wy wx fy fx ho ht0))
        clear ht0
        go_loopw [7, 42] (fun t i wr => ∃ j : Nat, j ≤ 3 ∧ i = .int .i64 j ∧ (∃ tb, t = .float .f64 tb ∧ mean .f64 tb = tM (mean .f64 t0) j) ∧ ∃ n, wr = (w.alloc (.cells #[.float .f32 x, .float .f32 y] 28)).drewN n) (fun _ i _ => 3 - (intOf i).toNat)
        case atStart => exact ⟨0, by omega, rfl, ⟨_, rfl, rfl⟩, _, rfl⟩
        case round =>
          obtain ⟨j, hj, rfl, ⟨tb, rfl, ht⟩, n, rfl⟩ := hrel
          have hT := Lib_hid' ht
          clear ht
          by_cases hlt : j < 3
          · go_wp2_with (first | (refine wpList_float rfl .mul _ _ _ _ rfl rfl .f64 tb tb rfl rfl ?_; intro sa nsa hsa) | (refine wpList_float rfl .add _ _ _ _ rfl rfl .f64 4607182418800017408 sa rfl rfl ?_; intro sb nsb hsb) | (go_at_call 43; refine (msqrt_any _ _).mono ?_; rintro e w' ⟨sc, hsc, rfl, nsc, rfl⟩) | (refine wpList_float rfl .add _ _ _ _ rfl rfl .f64 4607182418800017408 sc rfl rfl ?_; intro sd nsd hsd) | (refine wpList_float rfl .quo _ _ _ _ rfl rfl .f64 tb sd rfl rfl ?_; intro se nse hse))
            go_roundw
            case rel => exact ⟨j + 1, by omega, by go_num, ⟨_, rfl, half_step hT.out hsa hsb hsc hsd hse⟩, _, rfl⟩
            case measure => simp [intOf]; omega
          · have hj3 : j = 3 := by omega
            subst hj3
            go_wp2_with (first | (refine wpList_float rfl .mul _ _ _ _ rfl rfl .f64 tb tb rfl rfl ?_; intro u nu hu))
            have hU := Lib_hid' hu
            clear hu
            go_loopw [9, 10] (fun p k wr => ∃ j : Nat, j ≤ 8 ∧ (∃ kb, k = .float .f64 kb ∧ mean .f64 kb = kA j) ∧ (∃ pb, p = .float .f64 pb ∧ mean .f64 pb = angP (mean .f64 u) j) ∧ ∃ n, wr = (w.alloc (.cells #[.float .f32 x, .float .f32 y] 28)).drewN n) (fun _ k _ => leftA k)
            case atStart => exact ⟨0, by omega, ⟨_, rfl, by decide +kernel⟩, ⟨_, rfl, mean_zero64'⟩, _, rfl⟩
            case round =>
              obtain ⟨j, hj, ⟨kb, rfl, hk⟩, ⟨pb, rfl, hp⟩, n, rfl⟩ := hrel
              have hP := Lib_hid' hp
              have hK := Lib_hid' hk
              clear hp hk
              by_cases hlt : j < 8
              · have hge := ge_test hK.out mean_one64 (kA_test j hlt)
                go_wp2_with (first | (refine wpList_float rfl .quo _ _ _ _ rfl rfl .f64 4607182418800017408 kb rfl rfl ?_; intro ga nga hga) | (refine wpList_float rfl .mul _ _ _ _ rfl rfl .f64 u pb rfl rfl ?_; intro gb ngb hgb) | (refine wpList_float rfl .sub _ _ _ _ rfl rfl .f64 ga gb rfl rfl ?_; intro gc ngc hgc) | (refine wpList_float rfl .sub _ _ _ _ rfl rfl .f64 kb 4611686018427387904 rfl rfl ?_; intro gd ngd hgd))
                go_roundw
                case rel => exact ⟨j + 1, by omega, ⟨_, rfl, kA_step hK.out hgd⟩, ⟨_, rfl, angP_stepF hlt hK.out hP.out hga hgb hgc⟩, _, rfl⟩
                case measure => exact kA_less hlt hK.out hgd
              · have hj8 : j = 8 := by omega
                subst hj8
                have hge := ge_test hK.out mean_one64 kA_end
                go_wp2_with (first | (refine wpList_float rfl .mul _ _ _ _ rfl rfl .f64 tb pb rfl rfl ?_; intro xa nxa hxa) | (refine wpList_float rfl .mul _ _ _ _ rfl rfl .f64 4620693217682128896 xa rfl rfl ?_; intro xb nxb hxb) | (refine wpList_float rfl .quo _ _ _ _ rfl rfl .f64 xb 4618760256179416344 rfl rfl ?_; intro xc nxc hxc) | (refine wpList_float rfl .sub _ _ _ _ rfl rfl .f64 4602678819172646912 xc rfl rfl ?_; intro xe nxe hxe) | (refine wpList_fconv rfl _ _ _ rfl .f64 .f32 (Op.negFloat .f64 xe) rfl (by exact wf_neg hxe.2) (by rw [Tryz.underlying46]; rfl) Tryz.underlying28 ?_; intro g ng hg) | (refine wpList_fconv rfl _ _ _ rfl .f64 .f32 xe rfl (by exact hxe.2) (by rw [Tryz.underlying46]; rfl) Tryz.underlying28 ?_; intro g ng hg) | (refine wpList_fconv rfl _ _ _ rfl .f64 .f32 (Op.negFloat .f64 xc) rfl (by exact wf_neg hxc.2) (by rw [Tryz.underlying46]; rfl) Tryz.underlying28 ?_; intro g ng hg) | (refine wpList_fconv rfl _ _ _ rfl .f64 .f32 xc rfl (by exact hxc.2) (by rw [Tryz.underlying46]; rfl) Tryz.underlying28 ?_; intro g ng hg))
                all_goals go_ret
                all_goals first | exact ⟨g, AngIs.of hFF.out (ang_mk hA.out hO.out (quad_tt (over_no (arc_end hT.out hU.out hP.out hxa hxb hxc)) hxe (hLx.out.symm.trans (by assumption)) (hLy.out.symm.trans (by assumption)))) hg, rfl, ⟨_, _, rfl⟩⟩ | exact ⟨g, AngIs.of hFF.out (ang_mk hA.out hO.out (quad_tf (over_no (arc_end hT.out hU.out hP.out hxa hxb hxc)) hxe (hLx.out.symm.trans (by assumption)) (hLy.out.symm.trans (by assumption)))) hg, rfl, ⟨_, _, rfl⟩⟩ | exact ⟨g, AngIs.of hFF.out (ang_mk hA.out hO.out (quad_ft (over_no (arc_end hT.out hU.out hP.out hxa hxb hxc)) (hLx.out.symm.trans (by assumption)) (hLy.out.symm.trans (by assumption)))) hg, rfl, ⟨_, _, rfl⟩⟩ | exact ⟨g, AngIs.of hFF.out (ang_mk hA.out hO.out (quad_ff (over_no (arc_end hT.out hU.out hP.out hxa hxb hxc)) (hLx.out.symm.trans (by assumption)) (hLy.out.symm.trans (by assumption)))) hg, rfl, ⟨_, _, rfl⟩⟩
      · have hy0 : ¬ mag Ieee.double (wideN y) = 0 := by
          have := overB_eq wy wx fy fx
          rw [ho] at this
          have := of_decide_eq_true this.symm
          omega
        rw [decide_eq_false hy0] at zy
        cases hzx : decide (mag Ieee.double (wideN x) = 0)
        all_goals rw [hzx] at zx
        all_goals clear h0 hy0 hzx
        all_goals go_enter Tryz.func34, Tryz.ntmps34
        all_goals go_wp2_with (first | (go_at_call 60; refine (af_any (some ⟨w.heap.size, 0, none⟩) 2 [x, y] (by simp) _ (row2 x y w)).mono ?_; rw [hF.out]; rintro e w' ⟨rfl, naf, rfl⟩) | (refine wpList_fconv rfl _ _ _ rfl .f32 .f64 y rfl (by assumption) (by rw [Tryz.underlying28]; rfl) Tryz.underlying46 ?_; intro y2 ny2 hy2; obtain rfl := wide_eq (nan_of_fin hFy.out) hy2) | (refine wpList_fconv rfl _ _ _ rfl .f32 .f64 x rfl (by assumption) (by rw [Tryz.underlying28]; rfl) Tryz.underlying46 ?_; intro x2 nx2 hx2; obtain rfl := wide_eq (nan_of_fin hFx.out) hx2) | (go_at_call 65; refine (abs_any _ _).mono ?_; rintro e w' ⟨rfl, rfl⟩) | (refine wpList_float rfl .quo _ _ _ _ rfl rfl .f64 (absN (wideN x)) (absN (wideN y)) rfl rfl ?_; intro t0 nt0 ht0) | (refine wpList_float rfl .quo _ _ _ _ rfl rfl .f64 (absN (wideN y)) (absN (wideN x)) rfl rfl ?_; intro q0 nq0 hq0))
        all_goals have hO := Lib_hid' (And.intro ho (tan0_yes wy wx fy fx ho ht0))
        all_goals clear ht0 hq0
        · go_loopw [7, 42] (fun t i wr => ∃ j : Nat, j ≤ 3 ∧ i = .int .i64 j ∧ (∃ tb, t = .float .f64 tb ∧ mean .f64 tb = tM (mean .f64 t0) j) ∧ ∃ n, wr = (w.alloc (.cells #[.float .f32 x, .float .f32 y] 28)).drewN n) (fun _ i _ => 3 - (intOf i).toNat)
          case atStart => exact ⟨0, by omega, rfl, ⟨_, rfl, rfl⟩, _, rfl⟩
          case round =>
            obtain ⟨j, hj, rfl, ⟨tb, rfl, ht⟩, n, rfl⟩ := hrel
            have hT := Lib_hid' ht
            clear ht
            by_cases hlt : j < 3
            · go_wp2_with (first | (refine wpList_float rfl .mul _ _ _ _ rfl rfl .f64 tb tb rfl rfl ?_; intro sa nsa hsa) | (refine wpList_float rfl .add _ _ _ _ rfl rfl .f64 4607182418800017408 sa rfl rfl ?_; intro sb nsb hsb) | (go_at_call 43; refine (msqrt_any _ _).mono ?_; rintro e w' ⟨sc, hsc, rfl, nsc, rfl⟩) | (refine wpList_float rfl .add _ _ _ _ rfl rfl .f64 4607182418800017408 sc rfl rfl ?_; intro sd nsd hsd) | (refine wpList_float rfl .quo _ _ _ _ rfl rfl .f64 tb sd rfl rfl ?_; intro se nse hse))
              go_roundw
              case rel => exact ⟨j + 1, by omega, by go_num, ⟨_, rfl, half_step hT.out hsa hsb hsc hsd hse⟩, _, rfl⟩
              case measure => simp [intOf]; omega
            · have hj3 : j = 3 := by omega
              subst hj3
              go_wp2_with (first | (refine wpList_float rfl .mul _ _ _ _ rfl rfl .f64 tb tb rfl rfl ?_; intro u nu hu))
              have hU := Lib_hid' hu
              clear hu
              go_loopw [9, 10] (fun p k wr => ∃ j : Nat, j ≤ 8 ∧ (∃ kb, k = .float .f64 kb ∧ mean .f64 kb = kA j) ∧ (∃ pb, p = .float .f64 pb ∧ mean .f64 pb = angP (mean .f64 u) j) ∧ ∃ n, wr = (w.alloc (.cells #[.float .f32 x, .float .f32 y] 28)).drewN n) (fun _ k _ => leftA k)
              case atStart => exact ⟨0, by omega, ⟨_, rfl, by decide +kernel⟩, ⟨_, rfl, mean_zero64'⟩, _, rfl⟩
              case round =>
                obtain ⟨j, hj, ⟨kb, rfl, hk⟩, ⟨pb, rfl, hp⟩, n, rfl⟩ := hrel
                have hP := Lib_hid' hp
                have hK := Lib_hid' hk
                clear hp hk
                by_cases hlt : j < 8
                · have hge := ge_test hK.out mean_one64 (kA_test j hlt)
                  go_wp2_with (first | (refine wpList_float rfl .quo _ _ _ _ rfl rfl .f64 4607182418800017408 kb rfl rfl ?_; intro ga nga hga) | (refine wpList_float rfl .mul _ _ _ _ rfl rfl .f64 u pb rfl rfl ?_; intro gb ngb hgb) | (refine wpList_float rfl .sub _ _ _ _ rfl rfl .f64 ga gb rfl rfl ?_; intro gc ngc hgc) | (refine wpList_float rfl .sub _ _ _ _ rfl rfl .f64 kb 4611686018427387904 rfl rfl ?_; intro gd ngd hgd))
                  go_roundw
                  case rel => exact ⟨j + 1, by omega, ⟨_, rfl, kA_step hK.out hgd⟩, ⟨_, rfl, angP_stepF hlt hK.out hP.out hga hgb hgc⟩, _, rfl⟩
                  case measure => exact kA_less hlt hK.out hgd
                · have hj8 : j = 8 := by omega
                  subst hj8
                  have hge := ge_test hK.out mean_one64 kA_end
                  go_wp2_with (first | (refine wpList_float rfl .mul _ _ _ _ rfl rfl .f64 tb pb rfl rfl ?_; intro xa nxa hxa) | (refine wpList_float rfl .mul _ _ _ _ rfl rfl .f64 4620693217682128896 xa rfl rfl ?_; intro xb nxb hxb) | (refine wpList_float rfl .quo _ _ _ _ rfl rfl .f64 xb 4618760256179416344 rfl rfl ?_; intro xc nxc hxc) | (refine wpList_float rfl .sub _ _ _ _ rfl rfl .f64 4598175219545276416 xc rfl rfl ?_; intro xd nxd hxd) | (refine wpList_float rfl .sub _ _ _ _ rfl rfl .f64 4602678819172646912 xd rfl rfl ?_; intro xe nxe hxe) | (refine wpList_fconv rfl _ _ _ rfl .f64 .f32 (Op.negFloat .f64 xe) rfl (by exact wf_neg hxe.2) (by rw [Tryz.underlying46]; rfl) Tryz.underlying28 ?_; intro g ng hg) | (refine wpList_fconv rfl _ _ _ rfl .f64 .f32 xe rfl (by exact hxe.2) (by rw [Tryz.underlying46]; rfl) Tryz.underlying28 ?_; intro g ng hg) | (refine wpList_fconv rfl _ _ _ rfl .f64 .f32 (Op.negFloat .f64 xd) rfl (by exact wf_neg hxd.2) (by rw [Tryz.underlying46]; rfl) Tryz.underlying28 ?_; intro g ng hg) | (refine wpList_fconv rfl _ _ _ rfl .f64 .f32 xd rfl (by exact hxd.2) (by rw [Tryz.underlying46]; rfl) Tryz.underlying28 ?_; intro g ng hg))
                  all_goals go_ret
                  all_goals first | exact ⟨g, AngIs.of hFF.out (ang_mk hA.out hO.out (quad_tt (over_yes (arc_end hT.out hU.out hP.out hxa hxb hxc) hxd) hxe (hLx.out.symm.trans (by assumption)) (hLy.out.symm.trans (by assumption)))) hg, rfl, ⟨_, _, rfl⟩⟩ | exact ⟨g, AngIs.of hFF.out (ang_mk hA.out hO.out (quad_tf (over_yes (arc_end hT.out hU.out hP.out hxa hxb hxc) hxd) hxe (hLx.out.symm.trans (by assumption)) (hLy.out.symm.trans (by assumption)))) hg, rfl, ⟨_, _, rfl⟩⟩ | exact ⟨g, AngIs.of hFF.out (ang_mk hA.out hO.out (quad_ft (over_yes (arc_end hT.out hU.out hP.out hxa hxb hxc) hxd) (hLx.out.symm.trans (by assumption)) (hLy.out.symm.trans (by assumption)))) hg, rfl, ⟨_, _, rfl⟩⟩ | exact ⟨g, AngIs.of hFF.out (ang_mk hA.out hO.out (quad_ff (over_yes (arc_end hT.out hU.out hP.out hxa hxb hxc) hxd) (hLx.out.symm.trans (by assumption)) (hLy.out.symm.trans (by assumption)))) hg, rfl, ⟨_, _, rfl⟩⟩
        · go_loopw [7, 42] (fun t i wr => ∃ j : Nat, j ≤ 3 ∧ i = .int .i64 j ∧ (∃ tb, t = .float .f64 tb ∧ mean .f64 tb = tM (mean .f64 t0) j) ∧ ∃ n, wr = (w.alloc (.cells #[.float .f32 x, .float .f32 y] 28)).drewN n) (fun _ i _ => 3 - (intOf i).toNat)
          case atStart => exact ⟨0, by omega, rfl, ⟨_, rfl, rfl⟩, _, rfl⟩
          case round =>
            obtain ⟨j, hj, rfl, ⟨tb, rfl, ht⟩, n, rfl⟩ := hrel
            have hT := Lib_hid' ht
            clear ht
            by_cases hlt : j < 3
            · go_wp2_with (first | (refine wpList_float rfl .mul _ _ _ _ rfl rfl .f64 tb tb rfl rfl ?_; intro sa nsa hsa) | (refine wpList_float rfl .add _ _ _ _ rfl rfl .f64 4607182418800017408 sa rfl rfl ?_; intro sb nsb hsb) | (go_at_call 43; refine (msqrt_any _ _).mono ?_; rintro e w' ⟨sc, hsc, rfl, nsc, rfl⟩) | (refine wpList_float rfl .add _ _ _ _ rfl rfl .f64 4607182418800017408 sc rfl rfl ?_; intro sd nsd hsd) | (refine wpList_float rfl .quo _ _ _ _ rfl rfl .f64 tb sd rfl rfl ?_; intro se nse hse))
              go_roundw
              case rel => exact ⟨j + 1, by omega, by go_num, ⟨_, rfl, half_step hT.out hsa hsb hsc hsd hse⟩, _, rfl⟩
              case measure => simp [intOf]; omega
            · have hj3 : j = 3 := by omega
              subst hj3
              go_wp2_with (first | (refine wpList_float rfl .mul _ _ _ _ rfl rfl .f64 tb tb rfl rfl ?_; intro u nu hu))
              have hU := Lib_hid' hu
              clear hu
              go_loopw [9, 10] (fun p k wr => ∃ j : Nat, j ≤ 8 ∧ (∃ kb, k = .float .f64 kb ∧ mean .f64 kb = kA j) ∧ (∃ pb, p = .float .f64 pb ∧ mean .f64 pb = angP (mean .f64 u) j) ∧ ∃ n, wr = (w.alloc (.cells #[.float .f32 x, .float .f32 y] 28)).drewN n) (fun _ k _ => leftA k)
              case atStart => exact ⟨0, by omega, ⟨_, rfl, by decide +kernel⟩, ⟨_, rfl, mean_zero64'⟩, _, rfl⟩
              case round =>
                obtain ⟨j, hj, ⟨kb, rfl, hk⟩, ⟨pb, rfl, hp⟩, n, rfl⟩ := hrel
                have hP := Lib_hid' hp
                have hK := Lib_hid' hk
                clear hp hk
                by_cases hlt : j < 8
                · have hge := ge_test hK.out mean_one64 (kA_test j hlt)
                  go_wp2_with (first | (refine wpList_float rfl .quo _ _ _ _ rfl rfl .f64 4607182418800017408 kb rfl rfl ?_; intro ga nga hga) | (refine wpList_float rfl .mul _ _ _ _ rfl rfl .f64 u pb rfl rfl ?_; intro gb ngb hgb) | (refine wpList_float rfl .sub _ _ _ _ rfl rfl .f64 ga gb rfl rfl ?_; intro gc ngc hgc) | (refine wpList_float rfl .sub _ _ _ _ rfl rfl .f64 kb 4611686018427387904 rfl rfl ?_; intro gd ngd hgd))
                  go_roundw
                  case rel => exact ⟨j + 1, by omega, ⟨_, rfl, kA_step hK.out hgd⟩, ⟨_, rfl, angP_stepF hlt hK.out hP.out hga hgb hgc⟩, _, rfl⟩
                  case measure => exact kA_less hlt hK.out hgd
                · have hj8 : j = 8 := by omega
                  subst hj8
                  have hge := ge_test hK.out mean_one64 kA_end
                  go_wp2_with (first | (refine wpList_float rfl .mul _ _ _ _ rfl rfl .f64 tb pb rfl rfl ?_; intro xa nxa hxa) | (refine wpList_float rfl .mul _ _ _ _ rfl rfl .f64 4620693217682128896 xa rfl rfl ?_; intro xb nxb hxb) | (refine wpList_float rfl .quo _ _ _ _ rfl rfl .f64 xb 4618760256179416344 rfl rfl ?_; intro xc nxc hxc) | (refine wpList_float rfl .sub _ _ _ _ rfl rfl .f64 4598175219545276416 xc rfl rfl ?_; intro xd nxd hxd) | (refine wpList_float rfl .sub _ _ _ _ rfl rfl .f64 4602678819172646912 xd rfl rfl ?_; intro xe nxe hxe) | (refine wpList_fconv rfl _ _ _ rfl .f64 .f32 (Op.negFloat .f64 xe) rfl (by exact wf_neg hxe.2) (by rw [Tryz.underlying46]; rfl) Tryz.underlying28 ?_; intro g ng hg) | (refine wpList_fconv rfl _ _ _ rfl .f64 .f32 xe rfl (by exact hxe.2) (by rw [Tryz.underlying46]; rfl) Tryz.underlying28 ?_; intro g ng hg) | (refine wpList_fconv rfl _ _ _ rfl .f64 .f32 (Op.negFloat .f64 xd) rfl (by exact wf_neg hxd.2) (by rw [Tryz.underlying46]; rfl) Tryz.underlying28 ?_; intro g ng hg) | (refine wpList_fconv rfl _ _ _ rfl .f64 .f32 xd rfl (by exact hxd.2) (by rw [Tryz.underlying46]; rfl) Tryz.underlying28 ?_; intro g ng hg))
                  all_goals go_ret
                  all_goals first | exact ⟨g, AngIs.of hFF.out (ang_mk hA.out hO.out (quad_tt (over_yes (arc_end hT.out hU.out hP.out hxa hxb hxc) hxd) hxe (hLx.out.symm.trans (by assumption)) (hLy.out.symm.trans (by assumption)))) hg, rfl, ⟨_, _, rfl⟩⟩ | exact ⟨g, AngIs.of hFF.out (ang_mk hA.out hO.out (quad_tf (over_yes (arc_end hT.out hU.out hP.out hxa hxb hxc) hxd) hxe (hLx.out.symm.trans (by assumption)) (hLy.out.symm.trans (by assumption)))) hg, rfl, ⟨_, _, rfl⟩⟩ | exact ⟨g, AngIs.of hFF.out (ang_mk hA.out hO.out (quad_ft (over_yes (arc_end hT.out hU.out hP.out hxa hxb hxc) hxd) (hLx.out.symm.trans (by assumption)) (hLy.out.symm.trans (by assumption)))) hg, rfl, ⟨_, _, rfl⟩⟩ | exact ⟨g, AngIs.of hFF.out (ang_mk hA.out hO.out (quad_ff (over_yes (arc_end hT.out hU.out hP.out hxa hxb hxc) hxd) (hLx.out.symm.trans (by assumption)) (hLy.out.symm.trans (by assumption)))) hg, rfl, ⟨_, _, rfl⟩⟩
end Go.Proofs.YtogliigpoojfoaaGreatDoor
