/-
  The logarithm of 32-bit numbers: the reference's walk, the special cases, both functions and the law.
-/
import Derived.Test.YtlcekfahjakfgaaLi
import Derived.Test.YtlcekfahjakfgaaSj
namespace Go.Proofs.Ytlcekfahjakfgaa
open Go.RowKit Fl

/-! ### Comparisons with nought -/
theorem ord0 {k : FloatKind} {c : Nat} (hle : mag k.format c ≤ k.format.infRung) : k.format.order c 0 = some (compare (val k.format c) 0) := by
  have h0 : mag k.format 0 ≤ k.format.infRung := by cases k <;> decide
  have v0 : val k.format 0 = 0 := by cases k <;> decide
  rw [order_val k hle h0, v0]
theorem V_pos {f : Ieee.Format} {r : Nat} (h : r ≠ 0) : 0 < V f r := by
  have h0 : V f 0 = 0 := V_small (Nat.two_pow_pos _)
  have := V_lt (f := f) (show 0 < r by omega)
  omega
theorem ord0_lt {k : FloatKind} {c : Nat} (hle : mag k.format c ≤ k.format.infRung) (hs : sgn k.format c = true) (h0 : mag k.format c ≠ 0) : k.format.order c 0 = some .lt := by
  rw [ord0 hle]
  have := V_pos (f := k.format) h0
  have e : val k.format c = -(V k.format (mag k.format c) : Int) := by unfold val; rw [hs]; rfl
  rw [e, cmp_lt (by omega)]
theorem ord0_gt {k : FloatKind} {c : Nat} (hle : mag k.format c ≤ k.format.infRung) (hs : sgn k.format c = false) (h0 : mag k.format c ≠ 0) : k.format.order c 0 = some .gt := by
  rw [ord0 hle]
  have := V_pos (f := k.format) h0
  have e : val k.format c = (V k.format (mag k.format c) : Int) := by unfold val; rw [hs]; rfl
  rw [e, cmp_gt (by omega)]
theorem ord0_eq {k : FloatKind} {c : Nat} (h0 : mag k.format c = 0) : k.format.order c 0 = some .eq := by
  rw [ord0 (by omega)]
  have z : V k.format 0 = 0 := V_small (Nat.two_pow_pos _)
  have e : val k.format c = 0 := by unfold val; rw [h0, z]; cases sgn k.format c <;> rfl
  rw [e]; rfl
theorem num_le {k : FloatKind} {c : Nat} (h : (k.decode c).isNaN = false) : mag k.format c ≤ k.format.infRung := le_inf h

/-! ### What a 32-bit number is as a 64-bit one -/
theorem wide_lgin {a : Nat} (h : finB .f32 a = true) (hs : sgn Ieee.single a = false) (h0 : mag Ieee.single a ≠ 0) : LgIn (wideN a) := by
  have hf : mag Ieee.single a < Ieee.single.infRung := of_decide_eq_true h
  obtain ⟨q, hx, hq, -, hv⟩ := widen (nan_of_fin h) (wide_conv (nan_of_fin h))
  have hv := hv hf
  rw [hs] at hx
  have hx : wideN a = q := hx
  rw [hx]
  have l1 : V Ieee.double (874 * 4503599627370496) = V Ieee.single 1 * 2 ^ 925 := by decide +kernel
  have l2 : V Ieee.double (1151 * 4503599627370496) = V Ieee.single Ieee.single.infRung * 2 ^ 925 := by decide +kernel
  have hp : 0 < 2 ^ 925 := Nat.two_pow_pos 925
  generalize (2 : Nat) ^ 925 = K at *
  have g1 := Nat.mul_le_mul_right K (V_le (f := Ieee.single) (show 1 ≤ mag Ieee.single a by omega))
  have g2 := Nat.mul_lt_mul_of_pos_right (V_lt (f := Ieee.single) hf) hp
  constructor
  · by_cases c : 874 * 4503599627370496 ≤ q
    · exact c
    · have := V_lt (f := Ieee.double) (show q < 874 * 4503599627370496 by omega)
      omega
  · by_cases c : q < 1151 * 4503599627370496
    · exact c
    · have := V_le (f := Ieee.double) (show 1151 * 4503599627370496 ≤ q by omega)
      omega
theorem LgIn.magn {r : Nat} (h : LgIn r) : mag Ieee.double r = r ∧ sgn Ieee.double r = false := by
  unfold LgIn at h
  refine ⟨Nat.mod_eq_of_lt (show r < 9223372036854775808 by omega), ?_⟩
  show (r / 9223372036854775808 % 2 == 1) = false
  rw [Nat.div_eq_of_lt (by omega)]; rfl
theorem LgIn.fin {r : Nat} (h : LgIn r) : Fin64 r := by
  unfold Fin64
  rw [h.magn.1]
  unfold LgIn at h
  show r < 9218868437227405312
  omega
theorem LgIn.nan {r : Nat} (h : LgIn r) : (FloatKind.f64.decode r).isNaN = false := (mean_some h.fin.mean).2
theorem LgIn.self {r : Nat} (h : LgIn r) : (FloatKind.f64.format.order r r != some .eq) = false := by rw [order_self h.nan]; rfl
theorem LgIn.gt {r : Nat} (h : LgIn r) : FloatKind.f64.format.order r 0 = some .gt :=
  ord0_gt (k := .f64) (Nat.le_of_lt h.fin) h.magn.2 (by
    have := h.magn.1
    show mag Ieee.double r ≠ 0
    unfold LgIn at h
    omega)
theorem LgIn.noinf {r : Nat} (h : LgIn r) : (FloatKind.f64.format.order r 9218868437227405311 == some .gt) = false := by
  have hc : Fin64 9218868437227405311 := by unfold Fin64; decide
  rw [order_fin h.fin hc]
  have e1 : val Ieee.double r = (V Ieee.double r : Int) := by unfold val; rw [h.magn.1, h.magn.2]; rfl
  have e2 : val Ieee.double 9218868437227405311 = (V Ieee.double 9218868437227405311 : Int) := by unfold val; rfl
  have hr : r < 9218868437227405311 := by unfold LgIn at h; omega
  have := V_lt (f := Ieee.double) hr
  rw [e1, e2, cmp_lt (by omega)]; rfl

theorem isinf1_any (x : Nat) (w : World) :
    Calls Try.prog 75 #[.float .f64 x, .int .i64 1] w fun e w' => e = .returned (.bool (FloatKind.f64.format.order x 9218868437227405311 == some .gt)) ∧ w = w' := by
  go_enter Try.func75, Try.ntmps75
  go_wp2
  go_ret
  exact ⟨rfl, rfl⟩
theorem inf_neg (w : World) :
    Calls Try.prog 39 #[.int .i64 (-1)] w fun e w' => e = .returned (.float .f64 18442240474082181120) ∧ w' = w := by
  go_enter Try.func39, Try.ntmps39
  go_wp2
  go_ret
  exact ⟨rfl, rfl⟩

set_option maxHeartbeats 2000000 in
theorem slog_pos (r0 : Nat) (hi0 : LgIn r0) (w : World) :
    Calls Try.prog 61 #[.float .f64 r0] w fun e w' => ∃ r, (mean .f64 r = logN r0 ∧ (Lit.float .f64 r).wf = true) ∧ e = .returned (.float .f64 r) ∧ ∃ n, w' = w.drewN n := by
  have t1 := hi0.self
  have t2 := hi0.gt
  have t4 := hi0.noinf
  have hi := Lib_hid' hi0
  clear hi0
  go_enter Try.func61, Try.ntmps61
  go_wp2_with (go_at_call 75; refine (isinf1_any _ _).mono ?_; rw [t4]; rintro e w' ⟨rfl, rfl⟩)
  clear t1 t2 t4
  go_loopw [0, 3] (fun x k wr => ∃ r : Nat, ∃ e : Int, x = .float .f64 r ∧ k = .int .i64 e ∧ LgInv r0 r e ∧ ∃ n, wr = w.drewN n) (fun x _ _ => bitsOf x)
  case atStart => exact ⟨r0, 0, rfl, rfl, ⟨by omega, .inl rfl⟩, 0, rfl⟩
  case round =>
    obtain ⟨r, e, rfl, rfl, hinv, n, rfl⟩ := hrel
    have hlim := hinv.lim hi.out
    obtain ⟨hl1, hl2, hl3, hl4⟩ := hlim
    have tg := hinv.ge hi.out
    have hI := Lib_hid' hinv
    clear hinv
    by_cases hlt : 4609434218613702656 ≤ r
    · rw [decide_eq_true hlt] at tg
      go_wp2_with ((refine wpList_float rfl .quo _ _ _ _ rfl rfl .f64 r 4611686018427387904 rfl rfl ?_; intro q nq hq))
      go_roundw
      case rel => exact ⟨q, e + 1, rfl, rfl, (hI.out.half hi.out hlt hq).1, _, rfl⟩
      case measure => exact (hI.out.half hi.out hlt hq).2.1
    · rw [decide_eq_false hlt] at tg
      go_wp2
      go_loopw [0, 3] (fun x k wr => ∃ r : Nat, ∃ e : Int, x = .float .f64 r ∧ k = .int .i64 e ∧ LgInv r0 r e ∧ r < 4609434218613702656 ∧ ∃ n, wr = w.drewN n) (fun x _ _ => 4609434218613702656 - bitsOf x)
      case atStart => exact ⟨r, e, rfl, rfl, hI.out, by omega, _, rfl⟩
      case round =>
        clear hI tg hl1 hl2 hl3 hl4 hlt
        obtain ⟨r, e, rfl, rfl, hinv, hge, n, rfl⟩ := hrel
        obtain ⟨hl1, hl2, hl3, hl4⟩ := hinv.lim hi.out
        have tl := hinv.lt hi.out
        have hI := Lib_hid' hinv
        clear hinv
        by_cases hlt : r < 4604930618986332160
        · rw [decide_eq_true hlt] at tl
          go_wp2_with ((refine wpList_float rfl .mul _ _ _ _ rfl rfl .f64 r 4611686018427387904 rfl rfl ?_; intro q nq hq))
          go_roundw
          case rel => exact ⟨q, e - 1, rfl, rfl, (hI.out.twice hi.out hlt hq).1, (hI.out.twice hi.out hlt hq).2.2, _, rfl⟩
          case measure =>
            have := (hI.out.twice hi.out hlt hq).2
            show 4609434218613702656 - q < 4609434218613702656 - r
            omega
        · rw [decide_eq_false hlt] at tl
          go_wp2_with (first | (refine wpList_float rfl .sub _ _ _ _ rfl rfl .f64 r 4607182418800017408 rfl rfl ?_; intro sa nsa hsa) | (refine wpList_float rfl .add _ _ _ _ rfl rfl .f64 r 4607182418800017408 rfl rfl ?_; intro sb nsb hsb) | (refine wpList_float rfl .quo _ _ _ _ rfl rfl .f64 sa sb rfl rfl ?_; intro sc nsc hsc) | (refine wpList_float rfl .mul _ _ _ _ rfl rfl .f64 sc sc rfl rfl ?_; intro u nu hu))
          have hS := Lib_hid' (LgS.mk' (hI.out.means hi.out) hsa hsb hsc hu)
          have hD := Lib_hid' (hI.out.done (by omega) hge)
          clear hsa hsb hsc hu
          go_loopw [6, 7] (fun p k wr => ∃ j : Nat, j ≤ 13 ∧ k = .int .i64 (25 - 2 * (j : Int)) ∧ (∃ pb, p = .float .f64 pb ∧ mean .f64 pb = logP (mean .f64 u) j) ∧ ∃ n, wr = w.drewN n) (fun _ k _ => (intOf k + 1).toNat)
          case atStart => exact ⟨0, by omega, rfl, ⟨_, rfl, mean_zero64'⟩, _, rfl⟩
          case round =>
            obtain ⟨j, hj, rfl, ⟨pb, rfl, hp⟩, n, rfl⟩ := hrel
            have hP := Lib_hid' hp
            clear hp
            by_cases hlt : j < 13
            · go_wp2_with (first | (refine wpList_float rfl .quo _ _ _ _ rfl rfl .f64 4607182418800017408 (floatOfInt .f64 (25 - 2 * (j : Int))) rfl rfl ?_; intro ga nga hga) | (refine wpList_float rfl .mul _ _ _ _ rfl rfl .f64 u pb rfl rfl ?_; intro gb ngb hgb) | (refine wpList_float rfl .add _ _ _ _ rfl rfl .f64 ga gb rfl rfl ?_; intro gc ngc hgc))
              go_roundw
              case rel => exact ⟨j + 1, by omega, by go_num, ⟨_, rfl, logP_stepI hlt hP.out hga hgb hgc⟩, _, rfl⟩
              case measure => simp [intOf]; omega
            · have hj13 : j = 13 := by omega
              subst hj13
              go_wp2_with (first | (refine wpList_float rfl .mul _ _ _ _ rfl rfl .f64 sc pb rfl rfl ?_; intro xa nxa hxa) | (refine wpList_float rfl .mul _ _ _ _ rfl rfl .f64 4611686018427387904 xa rfl rfl ?_; intro xb nxb hxb) | (refine wpList_float rfl .mul _ _ _ _ rfl rfl .f64 (floatOfInt .f64 e) 4604418534313441775 rfl rfl ?_; intro xc nxc hxc) | (refine wpList_float rfl .add _ _ _ _ rfl rfl .f64 xb xc rfl rfl ?_; intro xd nxd hxd))
              go_ret
              exact ⟨_, ⟨by rw [← hD.out]; exact log_end hS.out hP.out (whole_bd (by omega) (by omega)).2 hxa hxb hxc hxd, hxd.2⟩, rfl, _, rfl⟩
end Go.Proofs.Ytlcekfahjakfgaa
