/-
  The bits of floats, as numbers.
-/
import Derived.Test.YtogliigpoojfoaaDoorFx
namespace Go.Proofs.YtogliigpoojfoaaDoor.Fl
open Go Go.IntWalk Go.RowKit

theorem i64_and_nat (a b : Nat) (ha : a < 4294967296) (hb : b < 4294967296) : bits .and .i64 (a : Int) (b : Int) = ((a &&& b : Nat) : Int) := by
  have hx : a &&& b ≤ a := Nat.and_le_left
  show IntKind.i64.wrap ((BitVec.ofInt 64 (a : Int) &&& BitVec.ofInt 64 (b : Int)).toNat : Int) = _
  rw [BitVec.toNat_and, ofInt_u64 a (by omega), ofInt_u64 b (by omega), IntKind.wrap_i64]
  omega

theorem and_mask (n : Nat) : n &&& 2139095040 = n % 2147483648 / 8388608 * 8388608 := by
  have e : (2139095040 : Nat) = 255 * 2 ^ 23 := by decide
  have e1 : (2147483648 : Nat) = 2 ^ 31 := by decide
  have e2 : (8388608 : Nat) = 2 ^ 23 := by decide
  rw [e, e1, e2]
  apply Nat.eq_of_testBit_eq
  intro i
  rw [Nat.testBit_and, Nat.testBit_mul_two_pow, Nat.testBit_mul_two_pow, Nat.testBit_div_two_pow, Nat.testBit_mod_two_pow]
  by_cases h : 23 ≤ i
  · have e3 : i - 23 + 23 = i := by omega
    have e4 : (255 : Nat).testBit (i - 23) = decide (i - 23 < 8) := by
      have : (255 : Nat) = 2 ^ 8 - 1 := by decide
      rw [this, Nat.testBit_two_pow_sub_one]
    rw [e3, e4]
    have e5 : decide (i - 23 < 8) = decide (i < 31) := by
      apply decide_eq_decide.2; omega
    rw [e5, Bool.and_comm (decide (23 ≤ i)), Bool.and_comm (decide (23 ≤ i)), decide_eq_true h, Bool.and_true, Bool.and_true, Bool.and_comm]
  · rw [decide_eq_false h]; simp
theorem and_sign (n : Nat) (h : n < 4294967296) : n &&& 2147483648 = n / 2147483648 * 2147483648 := by
  have e1 : (2147483648 : Nat) = 2 ^ 31 := by decide
  rw [e1]
  apply Nat.eq_of_testBit_eq
  intro i
  rw [Nat.testBit_and, Nat.testBit_two_pow, Nat.testBit_mul_two_pow, Nat.testBit_div_two_pow]
  by_cases h1 : 31 = i
  · subst h1; simp
  · rw [decide_eq_false h1]
    by_cases h2 : 31 ≤ i
    · have : n.testBit (i - 31 + 31) = false := by
        apply Nat.testBit_lt_two_pow
        have : 2 ^ 32 ≤ 2 ^ (i - 31 + 31) := Nat.pow_le_pow_right (by decide) (by omega)
        omega
      rw [this]; simp
    · rw [decide_eq_false h2]; simp

/-- The bits of a number as BitsOf tells them. -/
def bitsI (a : Nat) : Int := if (FloatKind.f32.decode a).isNaN then 2143289344 else wrap64 a
/-- The same, as a number. -/
def bitsN (a : Nat) : Nat := if (FloatKind.f32.decode a).isNaN then 2143289344 else a

theorem lt_of_wf {a : Nat} (h : (Lit.float .f32 a).wf = true) : a < 4294967296 := by simpa [Lit.wf] using h
theorem lt_of_wf64 {a : Nat} (h : (Lit.float .f64 a).wf = true) : a < 18446744073709551616 := by simpa [Lit.wf] using h
theorem bitsN_lt {a : Nat} (h : (Lit.float .f32 a).wf = true) : bitsN a < 4294967296 := by
  have := lt_of_wf h
  unfold bitsN; split <;> omega
theorem bitsI_eq {a : Nat} (h : (Lit.float .f32 a).wf = true) : bitsI a = (bitsN a : Nat) := by
  have := lt_of_wf h
  unfold bitsI bitsN
  split
  · rfl
  · exact IntWalk.wrap64_in _ (by omega)

def absN (a : Nat) : Nat := (bits BinOp.andNot IntKind.u64 (a : Int) 9223372036854775808).toNat
def negN (a : Nat) : Bool := decide (wrap64 (a : Int) < 0)
def copyN (a b : Nat) : Nat := (bits BinOp.or IntKind.u64 (bits BinOp.andNot IntKind.u64 (a : Int) 9223372036854775808) (bits BinOp.and IntKind.u64 (b : Int) 9223372036854775808)).toNat

theorem and_low63 (a : Nat) : a &&& 9223372036854775807 = a % 9223372036854775808 := by
  have e : (9223372036854775807 : Nat) = 2 ^ 63 - 1 := by decide
  have e2 : (9223372036854775808 : Nat) = 2 ^ 63 := by decide
  rw [e, e2, Nat.and_two_pow_sub_one_eq_mod]
theorem absN_eq {a : Nat} (h : (Lit.float .f64 a).wf = true) : absN a = a % 9223372036854775808 := by
  have ha := lt_of_wf64 h
  unfold absN
  have := u64_andNot_nat a 9223372036854775808 ha (by decide)
  have e : bits BinOp.andNot IntKind.u64 (a : Int) 9223372036854775808 = ((a &&& 9223372036854775807 : Nat) : Int) := this
  rw [e, Int.toNat_natCast, and_low63]
theorem negN_eq {a : Nat} (h : (Lit.float .f64 a).wf = true) : negN a = decide (9223372036854775808 ≤ a) := by
  have ha := lt_of_wf64 h
  unfold negN wrap64
  apply decide_eq_decide.2
  omega
theorem copyN_zero {b : Nat} (h : (Lit.float .f64 b).wf = true) : copyN 0 b = b / 9223372036854775808 * 9223372036854775808 := by
  have hb := lt_of_wf64 h
  unfold copyN
  have e1 : bits BinOp.andNot IntKind.u64 ((0 : Nat) : Int) 9223372036854775808 = ((0 : Nat) : Int) := by
    have := u64_andNot_nat 0 9223372036854775808 (by decide) (by decide)
    have e : bits BinOp.andNot IntKind.u64 ((0 : Nat) : Int) 9223372036854775808 = ((0 &&& 9223372036854775807 : Nat) : Int) := this
    rw [e]; simp
  have e2 : bits BinOp.and IntKind.u64 (b : Int) 9223372036854775808 = ((b &&& 9223372036854775808 : Nat) : Int) := u64_and_nat b 9223372036854775808 hb (by decide)
  have e3 : b &&& 9223372036854775808 = b / 9223372036854775808 * 9223372036854775808 := by
    have q : (9223372036854775808 : Nat) = 2 ^ 63 := by decide
    rw [q]
    apply Nat.eq_of_testBit_eq
    intro i
    rw [Nat.testBit_and, Nat.testBit_two_pow, Nat.testBit_mul_two_pow, Nat.testBit_div_two_pow]
    by_cases h1 : 63 = i
    · subst h1; simp
    · rw [decide_eq_false h1]
      by_cases h2 : 63 ≤ i
      · have : b.testBit (i - 63 + 63) = false := by
          apply Nat.testBit_lt_two_pow
          have : 2 ^ 64 ≤ 2 ^ (i - 63 + 63) := Nat.pow_le_pow_right (by decide) (by omega)
          omega
        rw [this]; simp
      · rw [decide_eq_false h2]; simp
  have hl : b / 9223372036854775808 * 9223372036854775808 < 18446744073709551616 := by omega
  rw [e1, e2, e3, u64_or_nat 0 _ (by decide) hl, Nat.zero_or, Int.toNat_natCast]

/-- A number is subnormal: its magnitude has no exponent, and is not nought. -/
def subB (a : Nat) : Bool := decide (0 < mag Ieee.single a ∧ mag Ieee.single a < 8388608)
/-- The mask that leaves the exponent. -/
def maskI (a : Nat) : Int := bits BinOp.and IntKind.i64 (bitsI a) 2139095040

theorem nan32 (a : Nat) : (FloatKind.f32.decode a).isNaN = decide (2139095040 < a % 2147483648) := isNaN_iff .f32 a
theorem nan64 (a : Nat) : (FloatKind.f64.decode a).isNaN = decide (9218868437227405312 < a % 9223372036854775808) := isNaN_iff .f64 a

theorem maskI_zero {a : Nat} (h : (Lit.float .f32 a).wf = true) : (maskI a == 0) = decide (mag Ieee.single a < 8388608) := by
  have hl := bitsN_lt h
  unfold maskI
  rw [bitsI_eq h]
  have e : bits BinOp.and IntKind.i64 ((bitsN a : Nat) : Int) 2139095040 = ((bitsN a &&& 2139095040 : Nat) : Int) := i64_and_nat _ 2139095040 hl (by decide)
  rw [e, and_mask]
  show _ = decide (a % 2147483648 < 8388608)
  unfold bitsN
  rw [nan32]
  have key : ∀ x : Nat, x < 2147483648 → (((x / 8388608 * 8388608 : Nat) : Int) == 0) = decide (x < 8388608) := by
    intro x hx
    rw [Bool.eq_iff_iff]; simp only [beq_iff_eq, decide_eq_true_eq]; omega
  split
  · rename_i hn
    have := of_decide_eq_true hn
    rw [key _ (Nat.mod_lt _ (by decide))]
    exact decide_eq_decide.2 (by omega)
  · exact key _ (Nat.mod_lt _ (by decide))

theorem order_zero32 {a : Nat} (h : (FloatKind.f32.decode a).isNaN = false) : (FloatKind.f32.format.order a 0 == some .eq) = decide (mag Ieee.single a = 0) := by
  rw [order_val .f32 (le_inf h) (by decide)]
  have v0 : val FloatKind.f32.format 0 = 0 := by decide
  rw [v0]
  have e : (compare (val FloatKind.f32.format a) 0 = .eq) ↔ mag Ieee.single a = 0 := by
    rw [Int.compare_eq_eq]
    show sV (sgn Ieee.single a) (V Ieee.single (mag Ieee.single a)) = 0 ↔ _
    have : sV (sgn Ieee.single a) (V Ieee.single (mag Ieee.single a)) = 0 ↔ V Ieee.single (mag Ieee.single a) = 0 := by
      cases sgn Ieee.single a <;> simp [sV]
    rw [this]
    have v0 : V Ieee.single 0 = 0 := by decide
    exact ⟨fun h => V_inj (f := Ieee.single) (by rw [h, v0]), fun h => by rw [h, v0]⟩
  by_cases c : mag Ieee.single a = 0
  · rw [decide_eq_true c, e.2 c]; rfl
  · rw [decide_eq_false c]
    cases hc : compare (val FloatKind.f32.format a) 0
    · rfl
    · exact absurd (e.1 hc) c
    · rfl

theorem word_double (s : Bool) (q : Nat) : Ieee.double.word s q = (if s then 9223372036854775808 else 0) + q := by
  cases s
  · show q = 0 + q; omega
  · rfl

theorem V_two_126 : V Ieee.double 4039728865751334912 = 8388608 * 2 ^ 925 := by decide +kernel
theorem V_binade : V Ieee.single 8388608 = 8388608 := by decide

/-- The absolute value of the wide number is less than 2 to the power of -126 just where the magnitude has no exponent. -/
theorem abs_small {a r : Nat} (h : FConv .f32 .f64 a r) : (FloatKind.f64.format.order (absN r) 4039728865751334912 == some .lt) = decide (mag Ieee.single a < 8388608) := by
  have hw := lt_of_wf64 h.2
  rw [absN_eq h.2]
  cases hn : (FloatKind.f32.decode a).isNaN
  · obtain ⟨q, rfl, hq, hi, hv⟩ := widen hn h
    have hq' : q ≤ 9218868437227405312 := hq
    have e : Ieee.double.word (sgn Ieee.single a) q % 9223372036854775808 = q := by rw [word_double]; split <;> omega
    rw [e]
    have m1 : mag Ieee.double q = q := Nat.mod_eq_of_lt (show q < 9223372036854775808 by omega)
    have s1 : sgn Ieee.double q = false := by
      show (q / 9223372036854775808 % 2 == 1) = false
      rw [Nat.div_eq_of_lt (by omega)]; rfl
    have o := order_val .f64 (a := q) (b := 4039728865751334912) (by show mag Ieee.double q ≤ _; rw [m1]; exact hq) (by decide)
    rw [o]
    have v1 : val FloatKind.f64.format q = (V Ieee.double q : Int) := by
      show sV (sgn Ieee.double q) (V Ieee.double (mag Ieee.double q)) = _
      rw [s1, m1]; rfl
    have v2 : val FloatKind.f64.format 4039728865751334912 = ((V Ieee.double 4039728865751334912 : Nat) : Int) := by
      show sV (sgn Ieee.double 4039728865751334912) (V Ieee.double (mag Ieee.double 4039728865751334912)) = _
      have : sgn Ieee.double 4039728865751334912 = false := by decide
      have m : mag Ieee.double 4039728865751334912 = 4039728865751334912 := by decide
      rw [this, m]; rfl
    rw [v1, v2]
    have key : V Ieee.double q < V Ieee.double 4039728865751334912 ↔ mag Ieee.single a < 8388608 := by
      have hle := le_inf hn
      have hle' : mag Ieee.single a ≤ 2139095040 := hle
      by_cases c : mag Ieee.single a < Ieee.single.infRung
      · rw [hv c, V_two_126]
        have hp := Nat.two_pow_pos 925
        generalize 2 ^ 925 = K at hp
        rw [Nat.mul_lt_mul_right hp]
        rw [show (8388608 : Nat) = V Ieee.single 8388608 from V_binade.symm, V_lt_iff, V_binade]
      · have c' : mag Ieee.single a = 2139095040 := by
          have : ¬ mag Ieee.single a < 2139095040 := c
          omega
        have hqi : q = Ieee.double.infRung := hi.2 c'
        have hq2 : q = 9218868437227405312 := hqi
        rw [V_lt_iff, c', hq2]; decide
    by_cases c : mag Ieee.single a < 8388608
    · rw [cmp_lt (by have := key.2 c; omega), decide_eq_true c]; rfl
    · have : ¬ V Ieee.double q < V Ieee.double 4039728865751334912 := fun h => c (key.1 h)
      rw [decide_eq_false c]
      cases hc : compare (V Ieee.double q : Int) ((V Ieee.double 4039728865751334912 : Nat) : Int)
      · have := Int.compare_eq_lt.1 hc; omega
      · rfl
      · rfl
  · have h1 := h.1 (fits_wide a)
    rw [mean_nan hn] at h1
    have hr : (FloatKind.f64.decode r).isNaN = true := by
      cases hh : (FloatKind.f64.decode r).isNaN
      · rw [mean_of hh] at h1; cases h1
      · rfl
    have hr' : (FloatKind.f64.decode (r % 9223372036854775808)).isNaN = true := by
      rw [nan64] at hr ⊢
      rw [Nat.mod_mod]; exact hr
    rw [order_nan_left hr']
    rw [nan32] at hn
    have := of_decide_eq_true hn
    have : ¬ mag Ieee.single a < 8388608 := by show ¬ a % 2147483648 < 8388608; omega
    rw [decide_eq_false this]; rfl

theorem bitsI_inj_num {a b : Nat} (ha : (Lit.float .f32 a).wf = true) (hb : (Lit.float .f32 b).wf = true) (na : (FloatKind.f32.decode a).isNaN = false) (nb : (FloatKind.f32.decode b).isNaN = false) : (bitsI a == bitsI b) = decide (a = b) := by
  rw [bitsI_eq ha, bitsI_eq hb]
  unfold bitsN
  rw [na, nb, Bool.eq_iff_iff]
  simp only [beq_iff_eq, decide_eq_true_eq, Bool.false_eq_true, if_false]; omega
theorem bitsI_nan_right {a b : Nat} (ha : (Lit.float .f32 a).wf = true) (na : (FloatKind.f32.decode a).isNaN = false) (nb : (FloatKind.f32.decode b).isNaN = true) : (bitsI a == bitsI b) = false := by
  rw [bitsI_eq ha]
  unfold bitsN bitsI
  rw [na, nb]
  rw [nan32] at na
  have := of_decide_eq_false na
  simp only [if_true, Bool.false_eq_true, if_false, beq_eq_false_iff_ne, ne_eq]
  omega
theorem bitsI_nan_left {a b : Nat} (hb : (Lit.float .f32 b).wf = true) (na : (FloatKind.f32.decode a).isNaN = true) : (bitsI a == bitsI b) = (FloatKind.f32.decode b).isNaN := by
  cases nb : (FloatKind.f32.decode b).isNaN
  · have := bitsI_nan_right hb nb na
    rw [beq_eq_false_iff_ne] at this ⊢
    exact fun h => this h.symm
  · unfold bitsI
    rw [na, nb]; rfl

/-- Equal numbers have the same words, or are both nought. -/
theorem order_eq_iff {a b : Nat} (na : (FloatKind.f32.decode a).isNaN = false) (nb : (FloatKind.f32.decode b).isNaN = false) :
    (FloatKind.f32.format.order a b == some .eq) = true ↔ (mag Ieee.single a = mag Ieee.single b ∧ (sgn Ieee.single a = sgn Ieee.single b ∨ mag Ieee.single a = 0)) := by
  rw [order_val .f32 (le_inf na) (le_inf nb)]
  have : (some (compare (val FloatKind.f32.format a) (val FloatKind.f32.format b)) == some Ordering.eq) = true ↔ val Ieee.single a = val Ieee.single b := by
    show _ ↔ val FloatKind.f32.format a = val FloatKind.f32.format b
    rw [← Int.compare_eq_eq]
    cases compare (val FloatKind.f32.format a) (val FloatKind.f32.format b) <;> decide
  rw [this]
  unfold val
  have z : ∀ x, V Ieee.single x = 0 ↔ x = 0 := fun x => ⟨fun h => V_inj (f := Ieee.single) (by rw [h]; decide), fun h => by rw [h]; decide⟩
  have i : ∀ x y, V Ieee.single x = V Ieee.single y ↔ x = y := fun x y => ⟨V_inj, fun h => by rw [h]⟩
  have z1 := z (mag Ieee.single a)
  have z2 := z (mag Ieee.single b)
  have i1 := i (mag Ieee.single a) (mag Ieee.single b)
  generalize V Ieee.single (mag Ieee.single a) = x at *
  generalize V Ieee.single (mag Ieee.single b) = y at *
  generalize mag Ieee.single a = u at *
  generalize mag Ieee.single b = v at *
  cases sgn Ieee.single a <;> cases sgn Ieee.single b <;> simp [sV] <;> omega

theorem negN_wide {a r : Nat} (na : (FloatKind.f32.decode a).isNaN = false) (h : FConv .f32 .f64 a r) : negN r = sgn Ieee.single a := by
  rw [negN_eq h.2]
  obtain ⟨q, rfl, hq, -, -⟩ := widen na h
  have hq' : q ≤ 9218868437227405312 := hq
  rw [word_double]
  cases sgn Ieee.single a
  · exact decide_eq_false (by simp; omega)
  · exact decide_eq_true (by simp)

theorem copyN_wf {b : Nat} (h : (Lit.float .f64 b).wf = true) : (Lit.float .f64 (copyN 0 b)).wf = true := by
  have hb := lt_of_wf64 h
  rw [copyN_zero h]
  exact wf_of_lt .f64 _ (show b / 9223372036854775808 * 9223372036854775808 < 18446744073709551616 by omega)

end Go.Proofs.YtogliigpoojfoaaDoor.Fl
