/-
  Contracts: the logarithm of a finite number greater than nought, both ways.
-/
import Derived.Test.YtlcekfahjakfgaaLh
import Derived.Test.YtlcekfahjakfgaaAn
namespace Go.Proofs.Ytlcekfahjakfgaa
open Go.RowKit Fl

/-- What stands at the head of the loops that bring a number near to 1. -/
def LgInv (r0 r : Nat) (e : Int) : Prop := (r : Int) + e * 4503599627370496 = r0 ∧ (e = 0 ∨ (0 < e ∧ 4604930618986332160 ≤ r) ∨ (e < 0 ∧ r < 4609434218613702656))
/-- The words of the finite 32-bit numbers greater than nought. -/
def LgIn (r0 : Nat) : Prop := 874 * 4503599627370496 ≤ r0 ∧ r0 < 1151 * 4503599627370496
theorem binade_eq : Ieee.double.binade = 4503599627370496 := by decide
theorem inf_eq : Ieee.double.infRung = 9218868437227405312 := by decide
theorem LgInv.lim {r0 r : Nat} {e : Int} (hi : LgIn r0) (h : LgInv r0 r e) : -200 < e ∧ e < 200 ∧ 874 * 4503599627370496 ≤ r ∧ r < 1151 * 4503599627370496 := by
  unfold LgInv LgIn at *
  omega
theorem LgInv.ge {r0 r : Nat} {e : Int} (hi : LgIn r0) (h : LgInv r0 r e) : (FloatKind.f64.format.order r 4609434218613702656 == some .gt || FloatKind.f64.format.order r 4609434218613702656 == some .eq) = decide (4609434218613702656 ≤ r) := by
  have := h.lim hi
  have hr : r < Ieee.double.infRung := by rw [inf_eq]; omega
  have := ge_rung hr (c := 4609434218613702656) (by decide)
  exact this
theorem LgInv.lt {r0 r : Nat} {e : Int} (hi : LgIn r0) (h : LgInv r0 r e) : (FloatKind.f64.format.order r 4604930618986332160 == some .lt) = decide (r < 4604930618986332160) := by
  have := h.lim hi
  have hr : r < Ieee.double.infRung := by rw [inf_eq]; omega
  have := lt_rung hr (c := 4604930618986332160) (by decide)
  exact this
theorem LgInv.means {r0 r : Nat} {e : Int} (hi : LgIn r0) (h : LgInv r0 r e) : mean .f64 r = some r := by
  have := h.lim hi
  have hr : r < Ieee.double.infRung := by rw [inf_eq]; omega
  exact (pos_val hr).1.mean
theorem LgInv.half {r0 r q : Nat} {e : Int} (hi : LgIn r0) (h : LgInv r0 r e) (hge : 4609434218613702656 ≤ r) (hq : FRes .quo .f64 r 4611686018427387904 q) : LgInv r0 q (e + 1) ∧ q < r ∧ 4604930618986332160 ≤ q := by
  have hl := h.lim hi
  have hr : r < Ieee.double.infRung := by rw [inf_eq]; omega
  have h1 := hq.1
  rw [h.means hi, mean_two] at h1
  have h2 : mean .f64 q = some (r - Ieee.double.binade) := h1.trans (hlv (by rw [binade_eq]; omega) hr)
  have h3 := (mean_some h2).1
  rw [binade_eq] at h3
  clear h2 h1 hq
  unfold LgInv at *
  omega
theorem LgInv.twice {r0 r q : Nat} {e : Int} (hi : LgIn r0) (h : LgInv r0 r e) (hlt : r < 4604930618986332160) (hq : FRes .mul .f64 r 4611686018427387904 q) : LgInv r0 q (e - 1) ∧ r < q ∧ q < 4609434218613702656 := by
  have hl := h.lim hi
  have h1 := hq.1
  rw [h.means hi, mean_two] at h1
  have h2 : mean .f64 q = some (r + Ieee.double.binade) := h1.trans (dbl (by rw [binade_eq]; omega) (by rw [binade_eq, inf_eq]; omega))
  have h3 := (mean_some h2).1
  rw [binade_eq] at h3
  clear h2 h1 hq
  unfold LgInv at *
  omega

/-! ### The last loop -/
theorem divL_eq : ∀ j : Nat, j < 13 → mean .f64 (floatOfInt .f64 (25 - 2 * (j : Int))) = some (divL j) := by decide +kernel
theorem logP_stepI {u j p a b c : Nat} (hj : j < 13) (hp : mean .f64 p = logP (mean .f64 u) j) (ha : FRes .quo .f64 4607182418800017408 (floatOfInt .f64 (25 - 2 * (j : Int))) a) (hb : FRes .mul .f64 u p b) (hc : FRes .add .f64 a b c) : mean .f64 c = logP (mean .f64 u) (j + 1) := by
  rw [hc.1, hb.1, ha.1, hp, mean_one64, divL_eq j hj]; rfl
/-- The counter of the loop, as a float. -/
def kL : Nat → Option Nat
  | 0 => some 4627730092099895296
  | j + 1 => fop .sub .f64 (kL j) (some 4611686018427387904)
theorem kL_test : ∀ j, j < 13 → geM (kL j) (some one64) = true := by decide +kernel
theorem kL_end : geM (kL 13) (some one64) = false := by decide +kernel
theorem kL_div : ∀ j, j < 13 → kL j = some (divL j) := by decide +kernel
theorem kL_step {j k q : Nat} (hk : mean .f64 k = kL j) (hq : FRes .sub .f64 k 4611686018427387904 q) : mean .f64 q = kL (j + 1) := by
  rw [hq.1, hk, mean_two]; rfl
theorem logP_stepF {u j k p a b c : Nat} (hj : j < 13) (hk : mean .f64 k = kL j) (hp : mean .f64 p = logP (mean .f64 u) j) (ha : FRes .quo .f64 4607182418800017408 k a) (hb : FRes .mul .f64 u p b) (hc : FRes .add .f64 a b c) : mean .f64 c = logP (mean .f64 u) (j + 1) := by
  rw [hc.1, hb.1, ha.1, hp, mean_one64, hk, kL_div j hj]; rfl
/-- How many rounds are left, from the counter: the whole number that it is, and one. -/
def leftL (v : Value) : Nat := ((FloatKind.f64.decode (bitsOf v)).toInt .zero).elim 0 fun n => (n + 1).toNat
theorem leftL_of {j k : Nat} (hj : j < 14) (hk : mean .f64 k = kL j) : leftL (.float .f64 k) = 26 - 2 * j := by
  have h : ∀ j, j < 14 → (kL j).any (fun b => decide (leftL (.float .f64 b) = 26 - 2 * j)) = true := by decide +kernel
  have := h j hj
  rw [← hk] at this
  unfold mean at this
  split at this
  · cases this
  · exact of_decide_eq_true this
theorem kL_less {j k q : Nat} (hj : j < 13) (hk : mean .f64 k = kL j) (hq : FRes .sub .f64 k 4611686018427387904 q) : leftL (.float .f64 q) < leftL (.float .f64 k) := by
  rw [leftL_of (by omega) hk, leftL_of (by omega) (kL_step hk hq)]; omega
/-- What s and u are. -/
def LgS (r s u : Nat) : Prop := mean .f64 s = logS (some r) ∧ FRes .mul .f64 s s u
theorem LgS.mk' {r a b s u : Nat} (hm : mean .f64 r = some r) (ha : FRes .sub .f64 r 4607182418800017408 a) (hb : FRes .add .f64 r 4607182418800017408 b) (hs : FRes .quo .f64 a b s) (hu : FRes .mul .f64 s s u) : LgS r s u := by
  refine ⟨?_, hu⟩
  rw [hs.1, ha.1, hb.1, hm, mean_one64]; rfl
theorem log_end {r s u p a b c d k : Nat} {e : Int} (hS : LgS r s u) (hp : mean .f64 p = logP (mean .f64 u) 13) (hk : mean .f64 k = some (wholeW e)) (ha : FRes .mul .f64 s p a) (hb : FRes .mul .f64 4611686018427387904 a b) (hc : FRes .mul .f64 k 4604418534313441775 c) (hd : FRes .add .f64 b c d) : mean .f64 d = logM (some r) (some (wholeW e)) := by
  have hl : mean .f64 4604418534313441775 = some ln64 := by decide +kernel
  rw [hd.1, hb.1, hc.1, ha.1, hp, hk, mean_two, hS.2.1, hS.1, hl]; rfl
/-- The logarithm of a finite number greater than nought. -/
def logN (r0 : Nat) : Option Nat := logM (some (restW r0)) (some (wholeW (expE r0)))
theorem LgInv.done {r0 r : Nat} {e : Int} (h : LgInv r0 r e) (h1 : 4604930618986332160 ≤ r) (h2 : r < 4609434218613702656) : logM (some r) (some (wholeW e)) = logN r0 := by
  obtain ⟨a, b⟩ := normal_one h.1 h1 h2
  unfold logN
  rw [← a, ← b]

set_option maxHeartbeats 2000000 in
theorem ilog_any (r0 : Nat) (hi0 : LgIn r0) (w : World) :
    Calls Try.prog 42 #[.float .f64 r0] w fun e w' => ∃ r, (mean .f64 r = logN r0 ∧ (Lit.float .f64 r).wf = true) ∧ e = .returned (.float .f64 r) ∧ ∃ n, w' = w.drewN n := by
  have hi := Lib_hid' hi0
  clear hi0
  go_enter Try.func42, Try.ntmps42
  go_wp2
  go_loopw [0, 3] (fun x k wr => ∃ r eb : Nat, ∃ e : Int, x = .float .f64 r ∧ k = .float .f64 eb ∧ mean .f64 eb = some (wholeW e) ∧ LgInv r0 r e ∧ ∃ n, wr = w.drewN n) (fun x _ _ => 4609434218613702656 - bitsOf x)
  case atStart => exact ⟨r0, 0, 0, rfl, rfl, by decide +kernel, ⟨by omega, .inl rfl⟩, 0, rfl⟩
  case round =>
    obtain ⟨r, eb, e, rfl, rfl, he, hinv, n, rfl⟩ := hrel
    have hlim := hinv.lim hi.out
    have tl := hinv.lt hi.out
    have hI := Lib_hid' hinv
    have hE := Lib_hid' he
    clear hinv he
    by_cases hlt : r < 4604930618986332160
    · rw [decide_eq_true hlt] at tl
      go_wp2_with (first | (refine wpList_float rfl .mul _ _ _ _ rfl rfl .f64 r 4611686018427387904 rfl rfl ?_; intro q nq hq) | (refine wpList_float rfl .sub _ _ _ _ rfl rfl .f64 eb 4607182418800017408 rfl rfl ?_; intro ec nec hec))
      go_roundw
      case rel => exact ⟨q, ec, e - 1, rfl, rfl, by rw [hec.1, hE.out, mean_one64]; exact whole_down (by omega) (by omega), (hI.out.twice hi.out hlt hq).1, _, rfl⟩
      case measure =>
        have := (hI.out.twice hi.out hlt hq).2
        show 4609434218613702656 - q < 4609434218613702656 - r
        omega
    · rw [decide_eq_false hlt] at tl
      go_wp2
      go_loopw [0, 3] (fun x k wr => ∃ r eb : Nat, ∃ e : Int, x = .float .f64 r ∧ k = .float .f64 eb ∧ mean .f64 eb = some (wholeW e) ∧ LgInv r0 r e ∧ 4604930618986332160 ≤ r ∧ ∃ n, wr = w.drewN n) (fun x _ _ => bitsOf x)
      case atStart => exact ⟨r, eb, e, rfl, rfl, hE.out, hI.out, by omega, _, rfl⟩
      case round =>
        clear hI hE tl hlim hlt
        obtain ⟨r, eb, e, rfl, rfl, he, hinv, hge, n, rfl⟩ := hrel
        have hlim := hinv.lim hi.out
        have tg := hinv.ge hi.out
        have hI := Lib_hid' hinv
        have hE := Lib_hid' he
        clear hinv he
        by_cases hlt : 4609434218613702656 ≤ r
        · rw [decide_eq_true hlt] at tg
          go_wp2_with (first | (refine wpList_float rfl .quo _ _ _ _ rfl rfl .f64 r 4611686018427387904 rfl rfl ?_; intro q nq hq) | (refine wpList_float rfl .add _ _ _ _ rfl rfl .f64 eb 4607182418800017408 rfl rfl ?_; intro ec nec hec))
          go_roundw
          case rel => exact ⟨q, ec, e + 1, rfl, rfl, by rw [hec.1, hE.out, mean_one64]; exact whole_up (by omega) (by omega), (hI.out.half hi.out hlt hq).1, (hI.out.half hi.out hlt hq).2.2, _, rfl⟩
          case measure => exact (hI.out.half hi.out hlt hq).2.1
        · rw [decide_eq_false hlt] at tg
          go_wp2_with (first | (refine wpList_float rfl .sub _ _ _ _ rfl rfl .f64 r 4607182418800017408 rfl rfl ?_; intro sa nsa hsa) | (refine wpList_float rfl .add _ _ _ _ rfl rfl .f64 r 4607182418800017408 rfl rfl ?_; intro sb nsb hsb) | (refine wpList_float rfl .quo _ _ _ _ rfl rfl .f64 sa sb rfl rfl ?_; intro sc nsc hsc) | (refine wpList_float rfl .mul _ _ _ _ rfl rfl .f64 sc sc rfl rfl ?_; intro u nu hu))
          have hS := Lib_hid' (LgS.mk' (hI.out.means hi.out) hsa hsb hsc hu)
          have hD := Lib_hid' (hI.out.done hge (by omega))
          clear hsa hsb hsc hu
          go_loopw [6, 7] (fun p k wr => ∃ j : Nat, j ≤ 13 ∧ (∃ kb, k = .float .f64 kb ∧ mean .f64 kb = kL j) ∧ (∃ pb, p = .float .f64 pb ∧ mean .f64 pb = logP (mean .f64 u) j) ∧ ∃ n, wr = w.drewN n) (fun _ k _ => leftL k)
          case atStart => exact ⟨0, by omega, ⟨_, rfl, by decide +kernel⟩, ⟨_, rfl, mean_zero64'⟩, _, rfl⟩
          case round =>
            obtain ⟨j, hj, ⟨kb, rfl, hk⟩, ⟨pb, rfl, hp⟩, n, rfl⟩ := hrel
            have hP := Lib_hid' hp
            have hK := Lib_hid' hk
            clear hp hk
            by_cases hlt : j < 13
            · have hge := ge_test hK.out mean_one64 (kL_test j hlt)
              go_wp2_with (first | (refine wpList_float rfl .quo _ _ _ _ rfl rfl .f64 4607182418800017408 kb rfl rfl ?_; intro ga nga hga) | (refine wpList_float rfl .mul _ _ _ _ rfl rfl .f64 u pb rfl rfl ?_; intro gb ngb hgb) | (refine wpList_float rfl .add _ _ _ _ rfl rfl .f64 ga gb rfl rfl ?_; intro gc ngc hgc) | (refine wpList_float rfl .sub _ _ _ _ rfl rfl .f64 kb 4611686018427387904 rfl rfl ?_; intro gd ngd hgd))
              go_roundw
              case rel => exact ⟨j + 1, by omega, ⟨_, rfl, kL_step hK.out hgd⟩, ⟨_, rfl, logP_stepF hlt hK.out hP.out hga hgb hgc⟩, _, rfl⟩
              case measure => exact kL_less hlt hK.out hgd
            · have hj13 : j = 13 := by omega
              subst hj13
              have hge := ge_test hK.out mean_one64 kL_end
              go_wp2_with (first | (refine wpList_float rfl .mul _ _ _ _ rfl rfl .f64 sc pb rfl rfl ?_; intro xa nxa hxa) | (refine wpList_float rfl .mul _ _ _ _ rfl rfl .f64 4611686018427387904 xa rfl rfl ?_; intro xb nxb hxb) | (refine wpList_float rfl .mul _ _ _ _ rfl rfl .f64 eb 4604418534313441775 rfl rfl ?_; intro xc nxc hxc) | (refine wpList_float rfl .add _ _ _ _ rfl rfl .f64 xb xc rfl rfl ?_; intro xd nxd hxd))
              go_ret
              exact ⟨_, ⟨by rw [← hD.out]; exact log_end hS.out hP.out hE.out hxa hxb hxc hxd, hxd.2⟩, rfl, _, rfl⟩
end Go.Proofs.Ytlcekfahjakfgaa
