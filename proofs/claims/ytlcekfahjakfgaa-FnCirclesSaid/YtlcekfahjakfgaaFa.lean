/-
  Sums of floating point, as whole numbers of the least unit; numbers cut towards zero.
-/
import Derived.Test.YtlcekfahjakfgaaFm
namespace Go.Proofs.Ytlcekfahjakfgaa.Fl
open Go

/-- A 64-bit word is finite. -/
def Fin64 (a : Nat) : Prop := mag Ieee.double a < Ieee.double.infRung
/-- The word of a rounded whole number of least units. -/
def rnd64 (N : Nat) : Nat := min (rnd Ieee.double N Ieee.double.leastPlace) Ieee.double.infRung

theorem sV_mul (s : Bool) (m k : Nat) : sV s (m * k) = sV s m * (k : Int) := by
  cases s
  · simp [sV]
  · simp [sV, Int.neg_mul]

/-- The exact sum of two finite words. -/
theorem sum_val {a b : Nat} (ha : Fin64 a) (t : Bool) (hbt : ∃ m p, (if t then (Ieee.double.read b).opposite else Ieee.double.read b) = .number (sgn Ieee.double b ^^ t) m p ∧ Ieee.double.leastPlace ≤ p ∧ m * 2 ^ (p - Ieee.double.leastPlace).toNat = V Ieee.double (mag Ieee.double b)) :
    ∃ sg, ((Ieee.double.read a).sum (if t then (Ieee.double.read b).opposite else Ieee.double.read b)).map Ieee.double.write = some (Ieee.double.word sg (rnd64 (val Ieee.double a + sV (sgn Ieee.double b ^^ t) (V Ieee.double (mag Ieee.double b))).natAbs)) ∧
      (val Ieee.double a + sV (sgn Ieee.double b ^^ t) (V Ieee.double (mag Ieee.double b)) ≠ 0 → sg = decide (val Ieee.double a + sV (sgn Ieee.double b ^^ t) (V Ieee.double (mag Ieee.double b)) < 0)) := by
  obtain ⟨m, p, e1, l1, v1, -⟩ := read_fin Ieee.double ha
  obtain ⟨n, q, e2, l2, v2⟩ := hbt
  generalize (sgn Ieee.double b ^^ t) = u at *
  unfold val
  rw [e1, e2]
  simp only [Ieee.Datum.sum, shiftLeft_signed]
  generalize hb : min p q = base
  have k1 : m * 2 ^ (p - Ieee.double.leastPlace).toNat = m * 2 ^ (p - base).toNat * 2 ^ (base - Ieee.double.leastPlace).toNat := by
    rw [Nat.mul_assoc, ← Nat.pow_add]; congr 2; omega
  have k2 : n * 2 ^ (q - Ieee.double.leastPlace).toNat = n * 2 ^ (q - base).toNat * 2 ^ (base - Ieee.double.leastPlace).toNat := by
    rw [Nat.mul_assoc, ← Nat.pow_add]; congr 2; omega
  rw [← v1, ← v2, k1, k2, sV_mul _ (m * 2 ^ (p - base).toNat), sV_mul _ (n * 2 ^ (q - base).toNat), ← Int.add_mul]
  generalize sV (sgn Ieee.double a) (m * 2 ^ (p - base).toNat) + sV u (n * 2 ^ (q - base).toNat) = T
  have hK : 0 < 2 ^ (base - Ieee.double.leastPlace).toNat := Nat.two_pow_pos _
  have habs : (T * ((2 ^ (base - Ieee.double.leastPlace).toNat : Nat) : Int)).natAbs = T.natAbs * 2 ^ (base - Ieee.double.leastPlace).toNat := by rw [Int.natAbs_mul, Int.natAbs_natCast]
  have hr : rnd Ieee.double T.natAbs base = rnd Ieee.double (T.natAbs * 2 ^ (base - Ieee.double.leastPlace).toNat) Ieee.double.leastPlace := rnd_at Ieee.double _ (by omega)
  refine ⟨if T = 0 then sgn Ieee.double a && u else decide (T < 0), ?_, fun h0 => ?_⟩
  · show some (Ieee.double.nearest _ T.natAbs base) = _
    rw [nearest_rnd, hr]
    unfold rnd64
    rw [habs]
  · generalize ((2 ^ (base - Ieee.double.leastPlace).toNat : Nat)) = K at *
    have hK' : (0 : Int) < (K : Int) := by omega
    have hT : T ≠ 0 := fun c => h0 (by rw [c, Int.zero_mul])
    rw [if_neg hT]
    apply decide_eq_decide.2
    constructor
    · intro h; exact Int.mul_neg_of_neg_of_pos h hK'
    · intro h
      by_cases c : T < 0
      · exact c
      · have := Int.mul_nonneg (show 0 ≤ T by omega) (Int.le_of_lt hK'); omega

theorem add_val {a b : Nat} (ha : Fin64 a) (hb : Fin64 b) :
    ∃ sg, fop .add .f64 (some a) (some b) = some (Ieee.double.word sg (rnd64 (val Ieee.double a + val Ieee.double b).natAbs)) ∧ (val Ieee.double a + val Ieee.double b ≠ 0 → sg = decide (val Ieee.double a + val Ieee.double b < 0)) := by
  obtain ⟨m, p, e1, l1, v1, -⟩ := read_fin Ieee.double hb
  have := sum_val ha false ⟨m, p, by rw [e1]; simp, l1, v1⟩
  rw [Bool.xor_false] at this
  exact this
theorem sub_val {a b : Nat} (ha : Fin64 a) (hb : Fin64 b) :
    ∃ sg, fop .sub .f64 (some a) (some b) = some (Ieee.double.word sg (rnd64 (val Ieee.double a - val Ieee.double b).natAbs)) ∧ (val Ieee.double a - val Ieee.double b ≠ 0 → sg = decide (val Ieee.double a - val Ieee.double b < 0)) := by
  obtain ⟨m, p, e1, l1, v1, -⟩ := read_fin Ieee.double hb
  have := sum_val ha true ⟨m, p, by rw [e1]; simp [Ieee.Datum.opposite], l1, v1⟩
  have e : sV (sgn Ieee.double b ^^ true) (V Ieee.double (mag Ieee.double b)) = - val Ieee.double b := by
    unfold val; cases sgn Ieee.double b <;> simp [sV]
  rw [e, ← Int.sub_eq_add_neg] at this
  exact this

theorem rnd64_mono {N M : Nat} (h : N ≤ M) : rnd64 N ≤ rnd64 M := by
  unfold rnd64
  have := rnd_mono Ieee.double h
  omega
theorem rnd64_V {r : Nat} (h : r ≤ Ieee.double.infRung) : rnd64 (V Ieee.double r) = r := by
  unfold rnd64
  rw [rnd_V, Nat.min_eq_left h]
theorem rnd64_le {N r : Nat} (h : N ≤ V Ieee.double r) (hr : r ≤ Ieee.double.infRung) : rnd64 N ≤ r := by
  have := rnd64_mono h
  rwa [rnd64_V hr] at this
theorem le_rnd64 {N r : Nat} (h : V Ieee.double r ≤ N) (hr : r ≤ Ieee.double.infRung) : r ≤ rnd64 N := by
  have := rnd64_mono h
  rwa [rnd64_V hr] at this
theorem rnd64_inf (N : Nat) : rnd64 N ≤ Ieee.double.infRung := Nat.min_le_right ..

/-! ### Numbers cut towards zero -/

/-- The whole part of a finite word's magnitude. -/
def wholeC (a : Nat) : Nat := V Ieee.double (mag Ieee.double a) / 2 ^ 1074
/-- The whole part. -/
def wholeZ (a : Nat) : Int := sV (sgn Ieee.double a) (wholeC a)
/-- Its word. -/
def wholeN (a : Nat) : Nat := FloatKind.f64.nearest (wholeZ a)
def truncN (a : Nat) : Nat := FloatKind.f64.encode ((FloatKind.f64.decode a).integral .zero)

theorem cut_zero_way (neg : Bool) (n d : Nat) : Ieee.Toward.zero.cut neg n d = n / 2 ^ d := by
  unfold Ieee.Toward.cut
  simp only [Nat.shiftLeft_eq, Nat.one_mul, Bool.toNat_false, Nat.add_zero]
  by_cases h : d ≤ n.log2 + 2
  · rw [Nat.min_eq_left h]
  · rw [Nat.min_eq_right (by omega)]
    have h1 : n < 2 ^ (n.log2 + 1) := Nat.lt_log2_self
    rw [Nat.div_eq_of_lt (Nat.lt_of_lt_of_le h1 (Nat.pow_le_pow_right (by decide) (by omega))), Nat.div_eq_of_lt (Nat.lt_of_lt_of_le h1 (Nat.pow_le_pow_right (by decide) (by omega)))]

theorem integral_fin {a : Nat} (h : Fin64 a) : (FloatKind.f64.decode a).integral .zero = .number (sgn Ieee.double a) (wholeC a) 0 := by
  obtain ⟨m, p, e1, l1, v1, -⟩ := read_fin Ieee.double h
  have e2 : FloatKind.f64.decode a = .number (sgn Ieee.double a) m p := e1
  have l2 : (-1074 : Int) ≤ p := l1
  rw [e2]
  show Ieee.Datum.number _ (Ieee.Toward.zero.cut _ (m <<< p.toNat) (-p).toNat) 0 = _
  rw [cut_zero_way, Nat.shiftLeft_eq]
  congr 1
  unfold wholeC
  rw [← v1]
  have e3 : (p - Ieee.double.leastPlace).toNat = (p + 1074).toNat := by show (p - (-1074)).toNat = _; congr 1
  rw [e3]
  by_cases hp : 0 ≤ p
  · have e4 : (p + 1074).toNat = p.toNat + 1074 := by omega
    have e5 : (-p).toNat = 0 := by omega
    rw [e4, e5, Nat.pow_add, ← Nat.mul_assoc, Nat.mul_div_cancel _ (Nat.two_pow_pos 1074), Nat.pow_zero, Nat.div_one]
  · have e4 : (1074 : Nat) = (-p).toNat + (p + 1074).toNat := by omega
    have e5 : p.toNat = 0 := by omega
    rw [e5, Nat.pow_zero, Nat.mul_one]
    generalize (p + 1074).toNat = x at *
    generalize (-p).toNat = y at *
    rw [e4, Nat.pow_add, Nat.mul_div_mul_right _ _ (Nat.two_pow_pos x)]

theorem toInt_fin {a : Nat} (h : Fin64 a) : (FloatKind.f64.decode a).toInt .zero = some (wholeZ a) := by
  unfold Ieee.Datum.toInt
  rw [integral_fin h]
  simp [shiftLeft_signed, wholeZ]

theorem trunc_whole {a : Nat} (h : Fin64 a) (h0 : wholeC a ≠ 0) : truncN a = wholeN a := by
  unfold truncN wholeN FloatKind.nearest wholeZ
  rw [integral_fin h]
  congr 2
  · cases sgn Ieee.double a <;> simp [sV] <;> omega
  · cases sgn Ieee.double a <;> simp [sV]
theorem trunc_zero {a : Nat} (h : Fin64 a) (h0 : wholeC a = 0) : truncN a = Ieee.double.word (sgn Ieee.double a) 0 := by
  unfold truncN
  rw [integral_fin h, h0]; rfl

/-! ### Ranges -/

theorem val_word (s : Bool) {q : Nat} (h : q ≤ Ieee.double.infRung) : val Ieee.double (Ieee.double.word s q) = sV s (V Ieee.double q) := by
  unfold val
  rw [sgn_word _ _ h, mag_word _ _ h]
theorem V_zero : V Ieee.double 0 = 0 := by decide
/-- A sum from 0 to the value of r is rounded to a number from 0 to it. -/
theorem range_word {sg : Bool} {S : Int} {r : Nat} (hr : r < Ieee.double.infRung) (hs : S ≠ 0 → sg = decide (S < 0)) (h0 : 0 ≤ S) (h1 : S ≤ (V Ieee.double r : Int)) :
    Fin64 (Ieee.double.word sg (rnd64 S.natAbs)) ∧ 0 ≤ val Ieee.double (Ieee.double.word sg (rnd64 S.natAbs)) ∧ val Ieee.double (Ieee.double.word sg (rnd64 S.natAbs)) ≤ (V Ieee.double r : Int) := by
  have hle : rnd64 S.natAbs ≤ r := rnd64_le (by omega) (by omega)
  have hi := rnd64_inf S.natAbs
  refine ⟨?_, ?_⟩
  · unfold Fin64; rw [mag_word _ _ hi]; omega
  · rw [val_word _ hi]
    have hv : V Ieee.double (rnd64 S.natAbs) ≤ V Ieee.double r := V_le hle
    by_cases c : S = 0
    · subst c
      have : rnd64 (Int.natAbs 0) = 0 := by decide
      rw [this, V_zero]
      cases sg <;> simp [sV]
    · rw [hs c]
      have : decide (S < 0) = false := decide_eq_false (by omega)
      rw [this]
      simp only [sV, Bool.false_eq_true, if_false]
      omega
theorem sub_range {a b r : Nat} (ha : Fin64 a) (hb : Fin64 b) (hr : r < Ieee.double.infRung) (h0 : 0 ≤ val Ieee.double a - val Ieee.double b) (h1 : val Ieee.double a - val Ieee.double b ≤ (V Ieee.double r : Int)) :
    ∃ c, fop .sub .f64 (some a) (some b) = some c ∧ Fin64 c ∧ 0 ≤ val Ieee.double c ∧ val Ieee.double c ≤ (V Ieee.double r : Int) := by
  obtain ⟨sg, e, hs⟩ := sub_val ha hb
  exact ⟨_, e, range_word hr hs h0 h1⟩
theorem add_range {a b r : Nat} (ha : Fin64 a) (hb : Fin64 b) (hr : r < Ieee.double.infRung) (h0 : 0 ≤ val Ieee.double a + val Ieee.double b) (h1 : val Ieee.double a + val Ieee.double b ≤ (V Ieee.double r : Int)) :
    ∃ c, fop .add .f64 (some a) (some b) = some c ∧ Fin64 c ∧ 0 ≤ val Ieee.double c ∧ val Ieee.double c ≤ (V Ieee.double r : Int) := by
  obtain ⟨sg, e, hs⟩ := add_val ha hb
  exact ⟨_, e, range_word hr hs h0 h1⟩
theorem Fin64.mean {a : Nat} (h : Fin64 a) : mean .f64 a = some a := mean_some_of_fin (k := .f64) (Nat.le_of_lt h)
theorem order_fin {a b : Nat} (ha : Fin64 a) (hb : Fin64 b) : FloatKind.f64.format.order a b = some (compare (val Ieee.double a) (val Ieee.double b)) := order_val .f64 (Nat.le_of_lt ha) (Nat.le_of_lt hb)

def one64 : Nat := 4607182418800017408
def half64 : Nat := 4602678819172646912
def quarter64 : Nat := 4598175219545276416
def tau64 : Nat := 4618760256179416344
def two52 : Nat := 4841369599423283200
theorem V_one : V Ieee.double one64 = 4 * 2 ^ 1072 := by decide +kernel
theorem V_half : V Ieee.double half64 = 2 * 2 ^ 1072 := by decide +kernel
theorem V_quarter : V Ieee.double quarter64 = 2 ^ 1072 := by decide +kernel
theorem V_one' : 2 ^ 1074 = V Ieee.double one64 := by decide +kernel
theorem V_one_pos : 0 < V Ieee.double one64 := by decide +kernel
theorem V_two52 : V Ieee.double two52 = 2 ^ 52 * V Ieee.double one64 := by decide +kernel
theorem val_one : val Ieee.double one64 = (V Ieee.double one64 : Int) := by decide +kernel
theorem val_half : val Ieee.double half64 = (V Ieee.double half64 : Int) := by decide +kernel
theorem val_quarter : val Ieee.double quarter64 = (V Ieee.double quarter64 : Int) := by decide +kernel
theorem val_zero : val Ieee.double 0 = 0 := by decide

/-! ### What is behind the point -/

def ltM (x y : Option Nat) : Bool := ford .f64 x y == some .lt
def gtM (x y : Option Nat) : Bool := ford .f64 x y == some .gt
def geM (x y : Option Nat) : Bool := ford .f64 x y == some .gt || ford .f64 x y == some .eq

/-- What is left of a number behind the point, plus 1 if it is less than 0. -/
def partM (a : Nat) : Option Nat :=
  if ltM (fop .sub .f64 (some a) (some (wholeN a))) (some 0) then fop .add .f64 (fop .sub .f64 (some a) (some (wholeN a))) (some one64) else fop .sub .f64 (some a) (some (wholeN a))

/-- The whole part of a number of less than 2 to the power of 52 is exact. -/
theorem whole_val {a : Nat} (h : mag Ieee.double a < two52) : Fin64 (wholeN a) ∧ val Ieee.double (wholeN a) = wholeZ a * ((V Ieee.double one64 : Nat) : Int) ∧ wholeC a < 2 ^ 52 := by
  have hV : V Ieee.double (mag Ieee.double a) < V Ieee.double two52 := V_lt h
  have hC : wholeC a < 2 ^ 52 := by
    unfold wholeC
    rw [V_one', Nat.div_lt_iff_lt_mul V_one_pos]
    rw [V_two52] at hV; exact hV
  obtain ⟨r, hr, hlt⟩ := repr Ieee.double (wholeC a) 1074 (Nat.lt_trans hC (by decide))
  have hfin : r < Ieee.double.infRung := Nat.lt_trans hlt (by decide)
  have hrnd : rnd Ieee.double (wholeC a) 0 = r := by
    rw [rnd_at Ieee.double (wholeC a) (show Ieee.double.leastPlace ≤ 0 by decide)]
    have : ((0 : Int) - Ieee.double.leastPlace).toNat = 1074 := by decide
    rw [this, ← hr, rnd_V]
  have hw : wholeN a = Ieee.double.word (decide (wholeZ a < 0)) r := by
    unfold wholeN FloatKind.nearest
    show Ieee.double.nearest _ (wholeZ a).natAbs 0 = _
    have : (wholeZ a).natAbs = wholeC a := by unfold wholeZ; cases sgn Ieee.double a <;> simp [sV]
    rw [this, nearest_rnd, hrnd, Nat.min_eq_left (Nat.le_of_lt hfin)]
  refine ⟨?_, ?_, hC⟩
  · rw [hw]; unfold Fin64; rw [mag_word _ _ (Nat.le_of_lt hfin)]; exact hfin
  · rw [V_one'] at hr
    rw [hw, val_word _ (Nat.le_of_lt hfin), hr]
    generalize V Ieee.double one64 = K
    rw [sV_mul]
    unfold wholeZ
    cases sgn Ieee.double a
    · have : decide (sV false (wholeC a) < 0) = false := decide_eq_false (by simp [sV])
      rw [this]
    · by_cases c : wholeC a = 0
      · rw [c]; simp [sV]
      · have : decide (sV true (wholeC a) < 0) = true := decide_eq_true (by simp [sV]; omega)
        rw [this]

/-- What is behind the point is from 0 to 1. -/
theorem partM_range {a : Nat} (h : mag Ieee.double a < two52) : ∃ c, partM a = some c ∧ Fin64 c ∧ 0 ≤ val Ieee.double c ∧ val Ieee.double c ≤ (V Ieee.double one64 : Int) := by
  obtain ⟨hwf, hwv, -⟩ := whole_val h
  have ha : Fin64 a := Nat.lt_trans h (by decide)
  have h1 : Fin64 one64 := by unfold Fin64; decide
  have hdm : V Ieee.double (mag Ieee.double a) = V Ieee.double one64 * wholeC a + V Ieee.double (mag Ieee.double a) % V Ieee.double one64 := by
    unfold wholeC; rw [V_one', Nat.div_add_mod]
  have hmod : V Ieee.double (mag Ieee.double a) % V Ieee.double one64 < V Ieee.double one64 := Nat.mod_lt _ V_one_pos
  obtain ⟨sg, e, hs⟩ := sub_val ha hwf
  rw [hwv] at e hs
  have hS : val Ieee.double a - wholeZ a * ((V Ieee.double one64 : Nat) : Int) = sV (sgn Ieee.double a) (V Ieee.double (mag Ieee.double a) % V Ieee.double one64) := by
    unfold val wholeZ
    generalize V Ieee.double (mag Ieee.double a) % V Ieee.double one64 = R at *
    rw [hdm, Nat.mul_comm]
    generalize V Ieee.double one64 = K
    cases sgn Ieee.double a
    · simp [sV]; omega
    · simp [sV, Int.neg_mul]; omega
  rw [hS] at e hs
  generalize V Ieee.double (mag Ieee.double a) % V Ieee.double one64 = R at *
  have hone : one64 < Ieee.double.infRung := by decide
  cases hsg : sgn Ieee.double a
  · rw [hsg] at e hs
    have hr := range_word hone hs (by simp [sV]) (by simp [sV]; omega)
    refine ⟨_, ?_, hr⟩
    unfold partM
    rw [e]
    have : ltM (some (Ieee.double.word sg (rnd64 (sV false R).natAbs))) (some 0) = false := by
      show (FloatKind.f64.format.order _ 0 == some .lt) = false
      rw [order_fin hr.1 (by unfold Fin64; decide), val_zero]
      cases hc : compare (val Ieee.double (Ieee.double.word sg (rnd64 (sV false R).natAbs))) 0
      · have := Int.compare_eq_lt.1 hc; omega
      · rfl
      · rfl
    rw [this]; simp
  · rw [hsg] at e hs
    have hq : rnd64 (sV true R).natAbs ≤ one64 := rnd64_le (by simp [sV]; omega) (by decide)
    have hi := rnd64_inf (sV true R).natAbs
    have hvq : V Ieee.double (rnd64 (sV true R).natAbs) ≤ V Ieee.double one64 := V_le hq
    have hf : Fin64 (Ieee.double.word sg (rnd64 (sV true R).natAbs)) := by unfold Fin64; rw [mag_word _ _ hi]; omega
    have hv := val_word sg hi
    by_cases c : R = 0
    · subst c
      have z : rnd64 (sV true 0).natAbs = 0 := by decide
      rw [z] at e hf hv hi
      refine ⟨_, ?_, hf, ?_⟩
      · unfold partM
        rw [e]
        have : ltM (some (Ieee.double.word sg 0)) (some 0) = false := by
          show (FloatKind.f64.format.order _ 0 == some .lt) = false
          rw [order_fin hf (by unfold Fin64; decide), val_zero, hv, V_zero]
          cases sg <;> decide
        rw [this]; simp
      · rw [hv, V_zero]; cases sg <;> simp [sV]
    · have hsg' : sg = true := by
        rw [hs (by simp [sV]; omega)]
        exact decide_eq_true (by simp [sV]; omega)
      rw [hsg'] at e hf hv
      have v1 : V Ieee.double 1 = 1 := by decide
      have hpos : 1 ≤ rnd64 (sV true R).natAbs := le_rnd64 (by rw [v1]; simp [sV]; omega) (by decide)
      have hvpos : 0 < V Ieee.double (rnd64 (sV true R).natAbs) := by have := V_le (f := Ieee.double) hpos; omega
      generalize rnd64 (sV true R).natAbs = q at *
      have hv' : val Ieee.double (Ieee.double.word true q) = -(V Ieee.double q : Int) := by rw [hv]; simp [sV]
      obtain ⟨c, e2, hc⟩ := add_range (r := one64) hf h1 hone (by rw [hv', val_one]; omega) (by rw [hv', val_one]; omega)
      refine ⟨c, ?_, hc⟩
      unfold partM
      rw [e]
      have : ltM (some (Ieee.double.word true q)) (some 0) = true := by
        show (FloatKind.f64.format.order _ 0 == some .lt) = true
        rw [order_fin hf (by unfold Fin64; decide), val_zero, hv', cmp_lt (by omega)]; rfl
      rw [this]; simp only [if_true]
      exact e2

end Go.Proofs.Ytlcekfahjakfgaa.Fl
