/-
  Contracts: the angle of a point, both ways.
-/
import Derived.Test.YtogliigpoojfoaaGreatDoorKa
import Derived.Test.YtogliigpoojfoaaGreatDoorKb
import Derived.Deep.RegionWith
namespace Go.Proofs.YtogliigpoojfoaaGreatDoor
set_option maxRecDepth 100000
open Go.RowKit Fl

theorem mean_zero64' : mean .f64 0 = some 0 := by decide
theorem mean_quarter' : mean .f64 4598175219545276416 = some quarter64 := by decide +kernel
theorem mean_eight : mean .f64 4620693217682128896 = some eight64 := by decide +kernel
theorem half_step {t0 : Option Nat} {j t a b c d e : Nat} (ht : mean .f64 t = tM t0 j) (ha : FRes .mul .f64 t t a) (hb : FRes .add .f64 4607182418800017408 a b) (hc : FSqrt b c) (hd : FRes .add .f64 4607182418800017408 c d) (he : FRes .quo .f64 t d e) : mean .f64 e = tM t0 (j + 1) := by
  rw [he.1, hd.1, hc.1, hb.1, ha.1, ht, mean_one64]; rfl
theorem divA_eq : ∀ j : Nat, j < 8 → mean .f64 (floatOfInt .f64 (15 - 2 * (j : Int))) = some (divA j) := by decide +kernel
theorem angP_stepI {u j p a b c : Nat} (hj : j < 8) (hp : mean .f64 p = angP (mean .f64 u) j) (ha : FRes .quo .f64 4607182418800017408 (floatOfInt .f64 (15 - 2 * (j : Int))) a) (hb : FRes .mul .f64 u p b) (hc : FRes .sub .f64 a b c) : mean .f64 c = angP (mean .f64 u) (j + 1) := by
  rw [hc.1, hb.1, ha.1, hp, mean_one64, divA_eq j hj]; rfl
/-- The counter of the loop, as a float. -/
def kA : Nat → Option Nat
  | 0 => some 4624633867356078080
  | j + 1 => fop .sub .f64 (kA j) (some 4611686018427387904)
theorem kA_some : ∀ j, j < 9 → (kA j).isSome = true := by decide +kernel
theorem kA_test : ∀ j, j < 8 → geM (kA j) (some one64) = true := by decide +kernel
theorem kA_end : geM (kA 8) (some one64) = false := by decide +kernel
theorem kA_lt : ∀ j, j < 7 → (kA (j + 1)).getD 0 < (kA j).getD 0 := by decide +kernel
theorem kA_div : ∀ j, j < 8 → kA j = some (divA j) := by decide +kernel
theorem kA_step {j k q : Nat} (hk : mean .f64 k = kA j) (hq : FRes .sub .f64 k 4611686018427387904 q) : mean .f64 q = kA (j + 1) := by
  rw [hq.1, hk, mean_two]; rfl
theorem angP_stepF {u j k p a b c : Nat} (hj : j < 8) (hk : mean .f64 k = kA j) (hp : mean .f64 p = angP (mean .f64 u) j) (ha : FRes .quo .f64 4607182418800017408 k a) (hb : FRes .mul .f64 u p b) (hc : FRes .sub .f64 a b c) : mean .f64 c = angP (mean .f64 u) (j + 1) := by
  rw [hc.1, hb.1, ha.1, hp, mean_one64, hk, kA_div j hj]; rfl
/-- How many rounds are left, from the counter. -/
def leftA (v : Value) : Nat := if bitsOf v = 4624633867356078080 then 8 else if bitsOf v = (kA 1).getD 0 then 7 else if bitsOf v = (kA 2).getD 0 then 6 else if bitsOf v = (kA 3).getD 0 then 5 else if bitsOf v = (kA 4).getD 0 then 4 else if bitsOf v = (kA 5).getD 0 then 3 else if bitsOf v = (kA 6).getD 0 then 2 else if bitsOf v = (kA 7).getD 0 then 1 else 0
theorem leftA_of {j k : Nat} (hj : j < 9) (hk : mean .f64 k = kA j) : leftA (.float .f64 k) = 8 - j := by
  have key : ∀ j, j < 9 → ∀ b, kA j = some b → leftA (.float .f64 b) = 8 - j := by
    have h : ∀ j, j < 9 → (kA j).all (fun b => decide (leftA (.float .f64 b) = 8 - j)) = true := by decide +kernel
    intro j hj b hb
    have := h j hj
    rw [hb] at this
    exact of_decide_eq_true this
  obtain ⟨b, hb⟩ := Option.isSome_iff_exists.1 (kA_some j hj)
  rw [hb] at hk
  obtain ⟨rfl, -⟩ := mean_some hk
  exact key j hj _ hb
theorem kA_less {j k q : Nat} (hj : j < 8) (hk : mean .f64 k = kA j) (hq : FRes .sub .f64 k 4611686018427387904 q) : leftA (.float .f64 q) < leftA (.float .f64 k) := by
  rw [leftA_of (by omega) hk, leftA_of (by omega) (kA_step hk hq)]; omega
theorem arc_end {t0 t u p a b c : Nat} (ht : mean .f64 t = tM (mean .f64 t0) 3) (hu : FRes .mul .f64 t t u) (hp : mean .f64 p = angP (mean .f64 u) 8) (ha : FRes .mul .f64 t p a) (hb : FRes .mul .f64 4620693217682128896 a b) (hc : FRes .quo .f64 b 4618760256179416344 c) : mean .f64 c = arcM (mean .f64 t0) := by
  rw [hc.1, hb.1, ha.1, hp, hu.1, ht, mean_eight, mean_tau]; rfl
/-- The angle behind the first turn. -/
def ovM (over : Bool) (x : Option Nat) : Option Nat := if over then fop .sub .f64 (some quarter64) x else x
theorem over_yes {x : Option Nat} {c d : Nat} (h : mean .f64 c = x) (hd : FRes .sub .f64 4598175219545276416 c d) : mean .f64 d = ovM true x := by
  rw [hd.1, h, mean_quarter']; rfl
theorem over_no {x : Option Nat} {c : Nat} (h : mean .f64 c = x) : mean .f64 c = ovM false x := h
theorem quad_ff {over l m : Bool} {x : Option Nat} {c : Nat} (h : mean .f64 c = ovM over x) (hl : l = false) (hm : m = false) : mean .f64 c = quadM over l m x := by
  subst hl; subst hm; exact h
theorem quad_ft {over l m : Bool} {x : Option Nat} {c : Nat} (h : mean .f64 c = ovM over x) (hl : l = false) (hm : m = true) : mean .f64 (Op.negFloat .f64 c) = quadM over l m x := by
  subst hl; subst hm; rw [mean_neg, h]; rfl
theorem quad_tf {over l m : Bool} {x : Option Nat} {c d : Nat} (h : mean .f64 c = ovM over x) (hd : FRes .sub .f64 4602678819172646912 c d) (hl : l = true) (hm : m = false) : mean .f64 d = quadM over l m x := by
  subst hl; subst hm; rw [hd.1, h, mean_half]; rfl
theorem quad_tt {over l m : Bool} {x : Option Nat} {c d : Nat} (h : mean .f64 c = ovM over x) (hd : FRes .sub .f64 4602678819172646912 c d) (hl : l = true) (hm : m = true) : mean .f64 (Op.negFloat .f64 d) = quadM over l m x := by
  subst hl; subst hm; rw [mean_neg, hd.1, h, mean_half]; rfl

/-! ### The absolute values -/
theorem abs_fin {x : Nat} (hw : (Lit.float .f64 x).wf = true) (h : Fin64 x) : Fin64 (absN x) ∧ mag Ieee.double (absN x) = mag Ieee.double x ∧ val Ieee.double (absN x) = (V Ieee.double (mag Ieee.double x) : Int) := by
  have ea : absN x = mag Ieee.double x := absN_eq hw
  have hm : mag Ieee.double (absN x) = mag Ieee.double x := by
    rw [ea]; exact Nat.mod_eq_of_lt (Nat.lt_trans h (by decide))
  have hs : sgn Ieee.double (absN x) = false := by
    rw [ea]
    show (mag Ieee.double x / 9223372036854775808 % 2 == 1) = false
    have : mag Ieee.double x < 9223372036854775808 := Nat.lt_trans h (by decide)
    rw [Nat.div_eq_of_lt this]; rfl
  refine ⟨by unfold Fin64; rw [hm]; exact h, hm, ?_⟩
  unfold val; rw [hs, hm]; rfl
/-- Whether the first is the greater one. -/
abbrev overB (y x : Nat) : Bool := FloatKind.f64.format.order (absN y) (absN x) == some .gt
theorem overB_eq {y x : Nat} (hy : (Lit.float .f64 y).wf = true) (hx : (Lit.float .f64 x).wf = true) (fy : Fin64 y) (fx : Fin64 x) : overB y x = decide (mag Ieee.double x < mag Ieee.double y) := by
  obtain ⟨a1, -, a3⟩ := abs_fin hy fy
  obtain ⟨b1, -, b3⟩ := abs_fin hx fx
  have := gtM_fin a1 b1
  rw [a3, b3] at this
  refine Eq.trans (show overB y x = _ from this) (decide_eq_decide.2 ?_)
  rw [Int.ofNat_lt]
  exact V_lt_iff
abbrev lowB (x : Nat) : Bool := FloatKind.f64.format.order x 0 == some .lt
abbrev nilB (x : Nat) : Bool := FloatKind.f64.format.order x 0 == some .eq
theorem nilB_eq {x : Nat} (h : Fin64 x) : nilB x = decide (mag Ieee.double x = 0) := by
  unfold nilB
  rw [order_fin h fin_zero, val_zero]
  by_cases c : mag Ieee.double x = 0
  · have : val Ieee.double x = 0 := by unfold val; rw [c, V_zero]; cases sgn Ieee.double x <;> rfl
    rw [decide_eq_true c, this]; rfl
  · have hv : V Ieee.double 0 < V Ieee.double (mag Ieee.double x) := V_lt (by omega)
    rw [V_zero] at hv
    have : val Ieee.double x ≠ 0 := by unfold val; cases sgn Ieee.double x <;> simp [sV] <;> omega
    rw [decide_eq_false c]
    cases hc : compare (val Ieee.double x) 0
    · rfl
    · exact absurd (Int.compare_eq_eq.1 hc) this
    · rfl
/-- The tangent with which the rounds start. -/
def tan0 (y x : Nat) : Option Nat := if overB y x then fop .quo .f64 (some (absN x)) (some (absN y)) else fop .quo .f64 (some (absN y)) (some (absN x))
/-- The angle of a point, in 64 bits. -/
def angW (y x : Nat) : Option Nat :=
  if mag Ieee.double y < Ieee.double.infRung ∧ mag Ieee.double x < Ieee.double.infRung then
    if mag Ieee.double x = 0 ∧ mag Ieee.double y = 0 then some 0 else quadM (overB y x) (lowB x) (lowB y) (arcM (tan0 y x))
  else none
theorem tan0_yes {y x r : Nat} (hy : (Lit.float .f64 y).wf = true) (hx : (Lit.float .f64 x).wf = true) (fy : Fin64 y) (fx : Fin64 x) (ho : overB y x = true) (hr : FRes .quo .f64 (absN x) (absN y) r) : mean .f64 r = tan0 y x := by
  unfold tan0
  rw [ho, hr.1, (abs_fin hy fy).1.mean, (abs_fin hx fx).1.mean]; rfl
theorem tan0_no {y x r : Nat} (hy : (Lit.float .f64 y).wf = true) (hx : (Lit.float .f64 x).wf = true) (fy : Fin64 y) (fx : Fin64 x) (ho : overB y x = false) (hr : FRes .quo .f64 (absN y) (absN x) r) : mean .f64 r = tan0 y x := by
  unfold tan0
  rw [ho, hr.1, (abs_fin hy fy).1.mean, (abs_fin hx fx).1.mean]; rfl
theorem tan0_bd {y x : Nat} (hy : (Lit.float .f64 y).wf = true) (hx : (Lit.float .f64 x).wf = true) (fy : Fin64 y) (fx : Fin64 x) (h0 : ¬(mag Ieee.double x = 0 ∧ mag Ieee.double y = 0)) : MB 1 (tan0 y x) := by
  obtain ⟨a1, a2, -⟩ := abs_fin hy fy
  obtain ⟨b1, b2, -⟩ := abs_fin hx fx
  unfold tan0
  rw [overB_eq hy hx fy fx]
  by_cases c : mag Ieee.double x < mag Ieee.double y
  · rw [decide_eq_true c]
    exact div_le b1 a1 (by omega) (by omega)
  · rw [decide_eq_false c]
    exact div_le a1 b1 (by omega) (by omega)
theorem ang_mk {y x t r : Nat} {over : Bool} (hA : angW y x = quadM (overB y x) (lowB x) (lowB y) (arcM (tan0 y x))) (hO : overB y x = over ∧ mean .f64 t = tan0 y x) (h : mean .f64 r = quadM over (lowB x) (lowB y) (arcM (mean .f64 t))) : mean .f64 r = angW y x := by
  rw [hA, h, hO.1, hO.2]
theorem angW_some {y x : Nat} (fy : Fin64 y) (fx : Fin64 x) (h0 : ¬(mag Ieee.double x = 0 ∧ mag Ieee.double y = 0)) : angW y x = quadM (overB y x) (lowB x) (lowB y) (arcM (tan0 y x)) := by
  unfold angW; rw [if_pos ⟨fy, fx⟩, if_neg h0]
theorem angW_zero {y x : Nat} (fy : Fin64 y) (fx : Fin64 x) (h0 : mag Ieee.double x = 0 ∧ mag Ieee.double y = 0) : angW y x = some 0 := by
  unfold angW; rw [if_pos ⟨fy, fx⟩, if_pos h0]
theorem angW_nan {y x : Nat} (h : ¬ (Fin64 y ∧ Fin64 x)) : angW y x = none := if_neg h
theorem angW_fits {y x r : Nat} (hy : (Lit.float .f64 y).wf = true) (hx : (Lit.float .f64 x).wf = true) (h : mean .f64 r = angW y x) : fits .f64 .f32 r = true := by
  by_cases hf : Fin64 y ∧ Fin64 x
  · by_cases h0 : mag Ieee.double x = 0 ∧ mag Ieee.double y = 0
    · rw [angW_zero hf.1 hf.2 h0] at h
      obtain ⟨rfl, -⟩ := mean_some h
      decide
    · rw [angW_some hf.1 hf.2 h0] at h
      exact MB.fits (by rw [h]; exact quadM_bd (arcM_bd (tan0_bd hy hx hf.1 hf.2 h0)))
  · rw [angW_nan hf] at h
    rcases mean_cases .f64 r with ⟨g1, g2⟩ | ⟨g1, g2⟩
    · exact fits_nan g1
    · rw [g2] at h; cases h

end Go.Proofs.YtogliigpoojfoaaGreatDoor
