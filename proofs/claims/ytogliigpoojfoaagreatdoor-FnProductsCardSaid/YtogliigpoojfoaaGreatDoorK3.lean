/-
  Several texts of this claim in one.
  The bits of floats, as numbers.
  Contracts of the small functions on single numbers.
  Names: whether a text is one, both ways.
  Hexadecimal digits of the words of numbers (plain).
  Hexadecimal texts of numbers: the reference's walk.
  The library's text of a number at base 16: its walk.
-/
import Derived.Test.YtogliigpoojfoaaGreatDoorK2
import Derived.Test.YtogliigpoojfoaaGreatDoorRows
import Derived.WalkKit
import Derived.Below
import Derived.Lib.Hide
import Derived.Test.YtogliigpoojfoaaGreatDoorK1
import Derived.Lib.LaidTab
section
namespace Go.Proofs.YtogliigpoojfoaaGreatDoor.Fl
set_option maxRecDepth 100000
open Go Go.IntWalk Go.RowKit

theorem i64_and_nat (a b : Nat) (ha : a < 4294967296) (hb : b < 4294967296) : bits .and .i64 (a : Int) (b : Int) = ((a &&& b : Nat) : Int) := by
  have hx : a &&& b ≤ a := Nat.and_le_left
  show IntKind.i64.wrap ((BitVec.ofInt 64 (a : Int) &&& BitVec.ofInt 64 (b : Int)).toNat : Int) = _
  rw [BitVec.toNat_and, ofInt_u64 a (by omega), ofInt_u64 b (by omega), IntKind.wrap_i64]
  omega

theorem and_mask (n : Nat) : n &&& 2139095040 = n % 2147483648 / 8388608 * 8388608 := by
  have e : (2139095040 : Nat) = 255 * 2 ^ 23 := by decide
  have e1 : (2147483648 : Nat) = 2 ^ 31 := by decide
  have e2 : (8388608 : Nat) = 2 ^ 23 := by decide
  rw [e, e1, e2]
  apply Nat.eq_of_testBit_eq
  intro i
  rw [Nat.testBit_and, Nat.testBit_mul_two_pow, Nat.testBit_mul_two_pow, Nat.testBit_div_two_pow, Nat.testBit_mod_two_pow]
  by_cases h : 23 ≤ i
  · have e3 : i - 23 + 23 = i := by omega
    have e4 : (255 : Nat).testBit (i - 23) = decide (i - 23 < 8) := by
      have : (255 : Nat) = 2 ^ 8 - 1 := by decide
      rw [this, Nat.testBit_two_pow_sub_one]
    rw [e3, e4]
    have e5 : decide (i - 23 < 8) = decide (i < 31) := by
      apply decide_eq_decide.2; omega
    rw [e5, Bool.and_comm (decide (23 ≤ i)), Bool.and_comm (decide (23 ≤ i)), decide_eq_true h, Bool.and_true, Bool.and_true, Bool.and_comm]
  · rw [decide_eq_false h]; simp
theorem and_sign (n : Nat) (h : n < 4294967296) : n &&& 2147483648 = n / 2147483648 * 2147483648 := by
  have e1 : (2147483648 : Nat) = 2 ^ 31 := by decide
  rw [e1]
  apply Nat.eq_of_testBit_eq
  intro i
  rw [Nat.testBit_and, Nat.testBit_two_pow, Nat.testBit_mul_two_pow, Nat.testBit_div_two_pow]
  by_cases h1 : 31 = i
  · subst h1; simp
  · rw [decide_eq_false h1]
    by_cases h2 : 31 ≤ i
    · have : n.testBit (i - 31 + 31) = false := by
        apply Nat.testBit_lt_two_pow
        have : 2 ^ 32 ≤ 2 ^ (i - 31 + 31) := Nat.pow_le_pow_right (by decide) (by omega)
        omega
      rw [this]; simp
    · rw [decide_eq_false h2]; simp

/-- The bits of a number as BitsOf tells them. -/
def bitsI (a : Nat) : Int := if (FloatKind.f32.decode a).isNaN then 2143289344 else wrap64 a
/-- The same, as a number. -/
def bitsN (a : Nat) : Nat := if (FloatKind.f32.decode a).isNaN then 2143289344 else a

theorem lt_of_wf {a : Nat} (h : (Lit.float .f32 a).wf = true) : a < 4294967296 := by simpa [Lit.wf] using h
theorem lt_of_wf64 {a : Nat} (h : (Lit.float .f64 a).wf = true) : a < 18446744073709551616 := by simpa [Lit.wf] using h
theorem bitsN_lt {a : Nat} (h : (Lit.float .f32 a).wf = true) : bitsN a < 4294967296 := by
  have := lt_of_wf h
  unfold bitsN; split <;> omega
theorem bitsI_eq {a : Nat} (h : (Lit.float .f32 a).wf = true) : bitsI a = (bitsN a : Nat) := by
  have := lt_of_wf h
  unfold bitsI bitsN
  split
  · rfl
  · exact IntWalk.wrap64_in _ (by omega)

def absN (a : Nat) : Nat := (bits BinOp.andNot IntKind.u64 (a : Int) 9223372036854775808).toNat
def negN (a : Nat) : Bool := decide (wrap64 (a : Int) < 0)
def copyN (a b : Nat) : Nat := (bits BinOp.or IntKind.u64 (bits BinOp.andNot IntKind.u64 (a : Int) 9223372036854775808) (bits BinOp.and IntKind.u64 (b : Int) 9223372036854775808)).toNat

theorem and_low63 (a : Nat) : a &&& 9223372036854775807 = a % 9223372036854775808 := by
  have e : (9223372036854775807 : Nat) = 2 ^ 63 - 1 := by decide
  have e2 : (9223372036854775808 : Nat) = 2 ^ 63 := by decide
  rw [e, e2, Nat.and_two_pow_sub_one_eq_mod]
theorem absN_eq {a : Nat} (h : (Lit.float .f64 a).wf = true) : absN a = a % 9223372036854775808 := by
  have ha := lt_of_wf64 h
  unfold absN
  have := u64_andNot_nat a 9223372036854775808 ha (by decide)
  have e : bits BinOp.andNot IntKind.u64 (a : Int) 9223372036854775808 = ((a &&& 9223372036854775807 : Nat) : Int) := this
  rw [e, Int.toNat_natCast, and_low63]
theorem negN_eq {a : Nat} (h : (Lit.float .f64 a).wf = true) : negN a = decide (9223372036854775808 ≤ a) := by
  have ha := lt_of_wf64 h
  unfold negN wrap64
  apply decide_eq_decide.2
  omega
theorem copyN_zero {b : Nat} (h : (Lit.float .f64 b).wf = true) : copyN 0 b = b / 9223372036854775808 * 9223372036854775808 := by
  have hb := lt_of_wf64 h
  unfold copyN
  have e1 : bits BinOp.andNot IntKind.u64 ((0 : Nat) : Int) 9223372036854775808 = ((0 : Nat) : Int) := by
    have := u64_andNot_nat 0 9223372036854775808 (by decide) (by decide)
    have e : bits BinOp.andNot IntKind.u64 ((0 : Nat) : Int) 9223372036854775808 = ((0 &&& 9223372036854775807 : Nat) : Int) := this
    rw [e]; simp
  have e2 : bits BinOp.and IntKind.u64 (b : Int) 9223372036854775808 = ((b &&& 9223372036854775808 : Nat) : Int) := u64_and_nat b 9223372036854775808 hb (by decide)
  have e3 : b &&& 9223372036854775808 = b / 9223372036854775808 * 9223372036854775808 := by
    have q : (9223372036854775808 : Nat) = 2 ^ 63 := by decide
    rw [q]
    apply Nat.eq_of_testBit_eq
    intro i
    rw [Nat.testBit_and, Nat.testBit_two_pow, Nat.testBit_mul_two_pow, Nat.testBit_div_two_pow]
    by_cases h1 : 63 = i
    · subst h1; simp
    · rw [decide_eq_false h1]
      by_cases h2 : 63 ≤ i
      · have : b.testBit (i - 63 + 63) = false := by
          apply Nat.testBit_lt_two_pow
          have : 2 ^ 64 ≤ 2 ^ (i - 63 + 63) := Nat.pow_le_pow_right (by decide) (by omega)
          omega
        rw [this]; simp
      · rw [decide_eq_false h2]; simp
  have hl : b / 9223372036854775808 * 9223372036854775808 < 18446744073709551616 := by omega
  rw [e1, e2, e3, u64_or_nat 0 _ (by decide) hl, Nat.zero_or, Int.toNat_natCast]

/-- A number is subnormal: its magnitude has no exponent, and is not nought. -/
def subB (a : Nat) : Bool := decide (0 < mag Ieee.single a ∧ mag Ieee.single a < 8388608)
/-- The mask that leaves the exponent. -/
def maskI (a : Nat) : Int := bits BinOp.and IntKind.i64 (bitsI a) 2139095040

theorem nan32 (a : Nat) : (FloatKind.f32.decode a).isNaN = decide (2139095040 < a % 2147483648) := isNaN_iff .f32 a
theorem nan64 (a : Nat) : (FloatKind.f64.decode a).isNaN = decide (9218868437227405312 < a % 9223372036854775808) := isNaN_iff .f64 a

theorem maskI_zero {a : Nat} (h : (Lit.float .f32 a).wf = true) : (maskI a == 0) = decide (mag Ieee.single a < 8388608) := by
  have hl := bitsN_lt h
  unfold maskI
  rw [bitsI_eq h]
  have e : bits BinOp.and IntKind.i64 ((bitsN a : Nat) : Int) 2139095040 = ((bitsN a &&& 2139095040 : Nat) : Int) := i64_and_nat _ 2139095040 hl (by decide)
  rw [e, and_mask]
  show _ = decide (a % 2147483648 < 8388608)
  unfold bitsN
  rw [nan32]
  have key : ∀ x : Nat, x < 2147483648 → (((x / 8388608 * 8388608 : Nat) : Int) == 0) = decide (x < 8388608) := by
    intro x hx
    rw [Bool.eq_iff_iff]; simp only [beq_iff_eq, decide_eq_true_eq]; omega
  split
  · rename_i hn
    have := of_decide_eq_true hn
    rw [key _ (Nat.mod_lt _ (by decide))]
    exact decide_eq_decide.2 (by omega)
  · exact key _ (Nat.mod_lt _ (by decide))

theorem order_zero32 {a : Nat} (h : (FloatKind.f32.decode a).isNaN = false) : (FloatKind.f32.format.order a 0 == some .eq) = decide (mag Ieee.single a = 0) := by
  rw [order_val .f32 (le_inf h) (by decide)]
  have v0 : val FloatKind.f32.format 0 = 0 := by decide
  rw [v0]
  have e : (compare (val FloatKind.f32.format a) 0 = .eq) ↔ mag Ieee.single a = 0 := by
    rw [Int.compare_eq_eq]
    show sV (sgn Ieee.single a) (V Ieee.single (mag Ieee.single a)) = 0 ↔ _
    have : sV (sgn Ieee.single a) (V Ieee.single (mag Ieee.single a)) = 0 ↔ V Ieee.single (mag Ieee.single a) = 0 := by
      cases sgn Ieee.single a <;> simp [sV]
    rw [this]
    have v0 : V Ieee.single 0 = 0 := by decide
    exact ⟨fun h => V_inj (f := Ieee.single) (by rw [h, v0]), fun h => by rw [h, v0]⟩
  by_cases c : mag Ieee.single a = 0
  · rw [decide_eq_true c, e.2 c]; rfl
  · rw [decide_eq_false c]
    cases hc : compare (val FloatKind.f32.format a) 0
    · rfl
    · exact absurd (e.1 hc) c
    · rfl

theorem word_double (s : Bool) (q : Nat) : Ieee.double.word s q = (if s then 9223372036854775808 else 0) + q := by
  cases s
  · show q = 0 + q; omega
  · rfl

theorem V_two_126 : V Ieee.double 4039728865751334912 = 8388608 * 2 ^ 925 := by decide +kernel
theorem V_binade : V Ieee.single 8388608 = 8388608 := by decide

/-- The absolute value of the wide number is less than 2 to the power of -126 just where the magnitude has no exponent. -/
theorem abs_small {a r : Nat} (h : FConv .f32 .f64 a r) : (FloatKind.f64.format.order (absN r) 4039728865751334912 == some .lt) = decide (mag Ieee.single a < 8388608) := by
  have hw := lt_of_wf64 h.2
  rw [absN_eq h.2]
  cases hn : (FloatKind.f32.decode a).isNaN
  · obtain ⟨q, rfl, hq, hi, hv⟩ := widen hn h
    have hq' : q ≤ 9218868437227405312 := hq
    have e : Ieee.double.word (sgn Ieee.single a) q % 9223372036854775808 = q := by rw [word_double]; split <;> omega
    rw [e]
    have m1 : mag Ieee.double q = q := Nat.mod_eq_of_lt (show q < 9223372036854775808 by omega)
    have s1 : sgn Ieee.double q = false := by
      show (q / 9223372036854775808 % 2 == 1) = false
      rw [Nat.div_eq_of_lt (by omega)]; rfl
    have o := order_val .f64 (a := q) (b := 4039728865751334912) (by show mag Ieee.double q ≤ _; rw [m1]; exact hq) (by decide)
    rw [o]
    have v1 : val FloatKind.f64.format q = (V Ieee.double q : Int) := by
      show sV (sgn Ieee.double q) (V Ieee.double (mag Ieee.double q)) = _
      rw [s1, m1]; rfl
    have v2 : val FloatKind.f64.format 4039728865751334912 = ((V Ieee.double 4039728865751334912 : Nat) : Int) := by
      show sV (sgn Ieee.double 4039728865751334912) (V Ieee.double (mag Ieee.double 4039728865751334912)) = _
      have : sgn Ieee.double 4039728865751334912 = false := by decide
      have m : mag Ieee.double 4039728865751334912 = 4039728865751334912 := by decide
      rw [this, m]; rfl
    rw [v1, v2]
    have key : V Ieee.double q < V Ieee.double 4039728865751334912 ↔ mag Ieee.single a < 8388608 := by
      have hle := le_inf hn
      have hle' : mag Ieee.single a ≤ 2139095040 := hle
      by_cases c : mag Ieee.single a < Ieee.single.infRung
      · rw [hv c, V_two_126]
        have hp := Nat.two_pow_pos 925
        generalize 2 ^ 925 = K at hp
        rw [Nat.mul_lt_mul_right hp]
        rw [show (8388608 : Nat) = V Ieee.single 8388608 from V_binade.symm, V_lt_iff, V_binade]
      · have c' : mag Ieee.single a = 2139095040 := by
          have : ¬ mag Ieee.single a < 2139095040 := c
          omega
        have hqi : q = Ieee.double.infRung := hi.2 c'
        have hq2 : q = 9218868437227405312 := hqi
        rw [V_lt_iff, c', hq2]; decide
    by_cases c : mag Ieee.single a < 8388608
    · rw [cmp_lt (by have := key.2 c; omega), decide_eq_true c]; rfl
    · have : ¬ V Ieee.double q < V Ieee.double 4039728865751334912 := fun h => c (key.1 h)
      rw [decide_eq_false c]
      cases hc : compare (V Ieee.double q : Int) ((V Ieee.double 4039728865751334912 : Nat) : Int)
      · have := Int.compare_eq_lt.1 hc; omega
      · rfl
      · rfl
  · have h1 := h.1 (fits_wide a)
    rw [mean_nan hn] at h1
    have hr : (FloatKind.f64.decode r).isNaN = true := by
      cases hh : (FloatKind.f64.decode r).isNaN
      · rw [mean_of hh] at h1; cases h1
      · rfl
    have hr' : (FloatKind.f64.decode (r % 9223372036854775808)).isNaN = true := by
      rw [nan64] at hr ⊢
      rw [Nat.mod_mod]; exact hr
    rw [order_nan_left hr']
    rw [nan32] at hn
    have := of_decide_eq_true hn
    have : ¬ mag Ieee.single a < 8388608 := by show ¬ a % 2147483648 < 8388608; omega
    rw [decide_eq_false this]; rfl

theorem bitsI_inj_num {a b : Nat} (ha : (Lit.float .f32 a).wf = true) (hb : (Lit.float .f32 b).wf = true) (na : (FloatKind.f32.decode a).isNaN = false) (nb : (FloatKind.f32.decode b).isNaN = false) : (bitsI a == bitsI b) = decide (a = b) := by
  rw [bitsI_eq ha, bitsI_eq hb]
  unfold bitsN
  rw [na, nb, Bool.eq_iff_iff]
  simp only [beq_iff_eq, decide_eq_true_eq, Bool.false_eq_true, if_false]; omega
theorem bitsI_nan_right {a b : Nat} (ha : (Lit.float .f32 a).wf = true) (na : (FloatKind.f32.decode a).isNaN = false) (nb : (FloatKind.f32.decode b).isNaN = true) : (bitsI a == bitsI b) = false := by
  rw [bitsI_eq ha]
  unfold bitsN bitsI
  rw [na, nb]
  rw [nan32] at na
  have := of_decide_eq_false na
  simp only [if_true, Bool.false_eq_true, if_false, beq_eq_false_iff_ne, ne_eq]
  omega
theorem bitsI_nan_left {a b : Nat} (hb : (Lit.float .f32 b).wf = true) (na : (FloatKind.f32.decode a).isNaN = true) : (bitsI a == bitsI b) = (FloatKind.f32.decode b).isNaN := by
  cases nb : (FloatKind.f32.decode b).isNaN
  · have := bitsI_nan_right hb nb na
    rw [beq_eq_false_iff_ne] at this ⊢
    exact fun h => this h.symm
  · unfold bitsI
    rw [na, nb]; rfl

/-- Equal numbers have the same words, or are both nought. -/
theorem order_eq_iff {a b : Nat} (na : (FloatKind.f32.decode a).isNaN = false) (nb : (FloatKind.f32.decode b).isNaN = false) :
    (FloatKind.f32.format.order a b == some .eq) = true ↔ (mag Ieee.single a = mag Ieee.single b ∧ (sgn Ieee.single a = sgn Ieee.single b ∨ mag Ieee.single a = 0)) := by
  rw [order_val .f32 (le_inf na) (le_inf nb)]
  have : (some (compare (val FloatKind.f32.format a) (val FloatKind.f32.format b)) == some Ordering.eq) = true ↔ val Ieee.single a = val Ieee.single b := by
    show _ ↔ val FloatKind.f32.format a = val FloatKind.f32.format b
    rw [← Int.compare_eq_eq]
    cases compare (val FloatKind.f32.format a) (val FloatKind.f32.format b) <;> decide
  rw [this]
  unfold val
  have z : ∀ x, V Ieee.single x = 0 ↔ x = 0 := fun x => ⟨fun h => V_inj (f := Ieee.single) (by rw [h]; decide), fun h => by rw [h]; decide⟩
  have i : ∀ x y, V Ieee.single x = V Ieee.single y ↔ x = y := fun x y => ⟨V_inj, fun h => by rw [h]⟩
  have z1 := z (mag Ieee.single a)
  have z2 := z (mag Ieee.single b)
  have i1 := i (mag Ieee.single a) (mag Ieee.single b)
  generalize V Ieee.single (mag Ieee.single a) = x at *
  generalize V Ieee.single (mag Ieee.single b) = y at *
  generalize mag Ieee.single a = u at *
  generalize mag Ieee.single b = v at *
  cases sgn Ieee.single a <;> cases sgn Ieee.single b <;> simp [sV] <;> omega

theorem negN_wide {a r : Nat} (na : (FloatKind.f32.decode a).isNaN = false) (h : FConv .f32 .f64 a r) : negN r = sgn Ieee.single a := by
  rw [negN_eq h.2]
  obtain ⟨q, rfl, hq, -, -⟩ := widen na h
  have hq' : q ≤ 9218868437227405312 := hq
  rw [word_double]
  cases sgn Ieee.single a
  · exact decide_eq_false (by simp; omega)
  · exact decide_eq_true (by simp)

theorem copyN_wf {b : Nat} (h : (Lit.float .f64 b).wf = true) : (Lit.float .f64 (copyN 0 b)).wf = true := by
  have hb := lt_of_wf64 h
  rw [copyN_zero h]
  exact wf_of_lt .f64 _ (show b / 9223372036854775808 * 9223372036854775808 < 18446744073709551616 by omega)

end Go.Proofs.YtogliigpoojfoaaGreatDoor.Fl
end

section
namespace Go.Proofs.YtogliigpoojfoaaGreatDoor
set_option maxRecDepth 100000
open Go.RowKit Fl

/-! the words of floats, as numbers -/
@[go_sem] theorem cf_f32bits (a : Nat) (w : World) : (callFunc 55 #[.float .f32 a]).run Tryz.prog w = .ok (.value (.int .u32 a)) w := by kernel_rfl
@[go_sem] theorem cf_f32from (a : Int) (w : World) : (callFunc 54 #[.int .u32 a]).run Tryz.prog w = .ok (.value (.float .f32 a.toNat)) w := by kernel_rfl
@[go_sem] theorem cf_f64bits (a : Nat) (w : World) : (callFunc 86 #[.float .f64 a]).run Tryz.prog w = .ok (.value (.int .u64 a)) w := by kernel_rfl
@[go_sem] theorem cf_f64from (a : Int) (w : World) : (callFunc 85 #[.int .u64 a]).run Tryz.prog w = .ok (.value (.float .f64 a.toNat)) w := by kernel_rfl

theorem grown_drewN (w : World) (n : Nat) : Grown w (w.drewN n) := by
  induction n with
  | zero => exact Grown.refl w
  | succ n ih => exact ih.drew

theorem fin_any (a : Nat) (w : World) :
    Calls Tryz.prog 61 #[.float .f32 a] w fun e w' => e = .returned (.bool (finB .f32 a)) ∧ ∃ n, w' = w.drewN n := by
  go_enter Tryz.func61, Tryz.ntmps61
  go_wp2_with (refine wpList_float rfl _ _ _ _ _ rfl rfl _ _ _ rfl rfl ?_; intro r n hr)
  go_ret
  exact ⟨by rw [fin_sub hr]; rfl, _, rfl⟩
theorem ifin_any (a : Nat) (w : World) :
    Calls Tryz.prog 67 #[.float .f32 a] w fun e w' => e = .returned (.bool (finB .f32 a)) ∧ ∃ n, w' = w.drewN n := by
  go_enter Tryz.func67, Tryz.ntmps67
  go_wp2_with (refine wpList_float rfl _ _ _ _ _ rfl rfl _ _ _ rfl rfl ?_; intro r n hr)
  go_ret
  exact ⟨by rw [fin_sub hr]; rfl, _, rfl⟩
theorem sfin_any (a : Nat) (w : World) :
    Calls Tryz.prog 27 #[.float .f32 a] w fun e w' => e = .returned (.bool (finB .f32 a)) ∧ ∃ n, w' = w.drewN n := by
  go_enter Tryz.func27, Tryz.ntmps27
  go_wp2_with (go_at_call 61; refine (fin_any _ _).mono ?_; rintro e w' ⟨rfl, n, rfl⟩)
  go_ret
  exact ⟨rfl, _, rfl⟩

theorem neq_self (a : Nat) : (FloatKind.f32.format.order a a != some .eq) = (FloatKind.f32.decode a).isNaN := by
  cases h : (FloatKind.f32.decode a).isNaN
  · rw [order_self h]; rfl
  · rw [order_nan_left h]; rfl
theorem neq_self64 (a : Nat) : (FloatKind.f64.format.order a a != some .eq) = (FloatKind.f64.decode a).isNaN := by
  cases h : (FloatKind.f64.decode a).isNaN
  · rw [order_self h]; rfl
  · rw [order_nan_left h]; rfl

theorem bitsI_num {a : Nat} (h : (FloatKind.f32.decode a).isNaN = false) : bitsI a = wrap64 a := by unfold bitsI; rw [if_neg (by rw [h]; decide)]
theorem bitsI_nan {a : Nat} (h : (FloatKind.f32.decode a).isNaN = true) : bitsI a = 2143289344 := by unfold bitsI; rw [if_pos h]

theorem bits_any (a : Nat) (w : World) :
    Calls Tryz.prog 71 #[.float .f32 a] w fun e w' => e = .returned (.int .i64 (bitsI a)) ∧ w' = w := by
  cases h : (FloatKind.f32.decode a).isNaN
  · have h1 := neq_self a
    rw [h] at h1
    have hb : Hid (bitsI a = wrap64 a) := bitsI_num h
    clear h
    go_enter Tryz.func71, Tryz.ntmps71
    go_wp2
    go_ret
    exact ⟨by rw [hb.out]; rfl, rfl⟩
  · have h1 := neq_self a
    rw [h] at h1
    have hb : Hid (bitsI a = 2143289344) := bitsI_nan h
    clear h
    go_enter Tryz.func71, Tryz.ntmps71
    go_wp2
    go_ret
    exact ⟨by rw [hb.out]; rfl, rfl⟩
theorem ibits_any (a : Nat) (w : World) :
    Calls Tryz.prog 21 #[.float .f32 a] w fun e w' => e = .returned (.int .i64 (bitsI a)) ∧ w' = w := by
  cases h : (FloatKind.f32.decode a).isNaN
  · have h1 := neq_self a
    rw [h] at h1
    have hb : Hid (bitsI a = wrap64 a) := bitsI_num h
    clear h
    go_enter Tryz.func21, Tryz.ntmps21
    go_wp2
    go_ret
    exact ⟨by rw [hb.out]; rfl, rfl⟩
  · have h1 := neq_self a
    rw [h] at h1
    have hb : Hid (bitsI a = 2143289344) := bitsI_nan h
    clear h
    go_enter Tryz.func21, Tryz.ntmps21
    go_wp2
    go_ret
    exact ⟨by rw [hb.out]; rfl, rfl⟩
theorem abs_any (a : Nat) (w : World) :
    Calls Tryz.prog 65 #[.float .f64 a] w fun e w' => e = .returned (.float .f64 (absN a)) ∧ w' = w := by
  go_enter Tryz.func65, Tryz.ntmps65
  go_wp2
  go_ret
  exact ⟨rfl, rfl⟩
theorem signbit_any (a : Nat) (w : World) :
    Calls Tryz.prog 82 #[.float .f64 a] w fun e w' => e = .returned (.bool (negN a)) ∧ w' = w := by
  go_enter Tryz.func82, Tryz.ntmps82
  go_wp2
  go_ret
  exact ⟨rfl, rfl⟩
theorem copysign_any (a b : Nat) (w : World) :
    Calls Tryz.prog 62 #[.float .f64 a, .float .f64 b] w fun e w' => e = .returned (.float .f64 (copyN a b)) ∧ w' = w := by
  go_enter Tryz.func62, Tryz.ntmps62
  go_wp2
  go_ret
  exact ⟨rfl, rfl⟩
end Go.Proofs.YtogliigpoojfoaaGreatDoor
end

section
namespace Go.Proofs.YtogliigpoojfoaaGreatDoor
set_option maxRecDepth 100000
open Go.RowKit

theorem take_snoc' (s : ByteArray) (k : Nat) (h : k < s.size) : s.data.toList.take (k + 1) = s.data.toList.take k ++ [s[k]] := by
  rw [List.take_succ_eq_append_getElem (by simpa using h)]; rfl
theorem len_list (s : ByteArray) : s.data.toList.length = s.size := rfl
theorem hidB {p : Prop} (h : p) : Hid p := h
end Go.Proofs.YtogliigpoojfoaaGreatDoor
end

section
namespace Go.Proofs.YtogliigpoojfoaaGreatDoor
set_option maxRecDepth 100000
open Go.RowKit Fl

/-- The digit of a value below 16. -/
def hexC (d : Nat) : UInt8 := if d < 10 then UInt8.ofNat (48 + d) else UInt8.ofNat (87 + d)
theorem hexC_nat (d : Nat) (h : d < 16) : (hexC d).toNat = if d < 10 then 48 + d else 87 + d := by
  unfold hexC
  split
  · rw [UInt8.toNat_ofNat']; exact Nat.mod_eq_of_lt (by omega)
  · rw [UInt8.toNat_ofNat']; exact Nat.mod_eq_of_lt (by omega)
/-- The low n digits, the greatest first. -/
def lowH : Nat → Nat → List UInt8
  | 0, _ => []
  | n + 1, m => hexC (m / 16 ^ n % 16) :: lowH n m
theorem lowH_len : ∀ (n m : Nat), (lowH n m).length = n
  | 0, _ => rfl
  | n + 1, m => by rw [lowH, List.length_cons, lowH_len n m]
theorem lowH_pad {n m : Nat} (h : m < 16 ^ n) : lowH (n + 1) m = 48 :: lowH n m := by
  show hexC (m / 16 ^ n % 16) :: _ = _
  rw [Nat.div_eq_of_lt h]; rfl
theorem pad_all (n m : Nat) (h : m < 16 ^ n) : ∀ k : Nat, lowH (k + n) m = List.replicate k 48 ++ lowH n m := by
  intro k
  induction k with
  | zero => rw [Nat.zero_add]; rfl
  | succ k ih =>
    rw [show k + 1 + n = (k + n) + 1 by omega, lowH_pad (Nat.lt_of_lt_of_le h (Nat.pow_le_pow_right (by decide) (by omega))), ih, List.replicate_succ]; rfl
/-- The value of a digit, of lower case alone. -/
def dlow (b : UInt8) : Option Nat := if 48 ≤ b.toNat ∧ b.toNat ≤ 57 then some (b.toNat - 48) else if 97 ≤ b.toNat ∧ b.toNat ≤ 102 then some (b.toNat - 87) else none
theorem dlow_hexC (d : Nat) (h : d < 16) : dlow (hexC d) = some d := by
  unfold dlow
  rw [hexC_nat d h]
  by_cases c : d < 10
  · rw [if_pos c, if_pos (by omega)]; congr 1; omega
  · rw [if_neg c, if_neg (by omega), if_pos (by omega)]; congr 1; omega
theorem hexC_dlow {b : UInt8} {d : Nat} (h : dlow b = some d) : d < 16 ∧ hexC d = b := by
  unfold dlow at h
  split at h
  · injection h with h
    subst h
    refine ⟨by omega, UInt8.toNat_inj.1 ?_⟩
    rw [hexC_nat _ (by omega), if_pos (by omega)]; omega
  · split at h
    · injection h with h
      subst h
      refine ⟨by omega, UInt8.toNat_inj.1 ?_⟩
      rw [hexC_nat _ (by omega), if_neg (by omega)]; omega
    · cases h
def stepS (a : Option Nat) (b : UInt8) : Option Nat := a.bind fun n => (dlow b).map fun d => 16 * n + d
def svH (l : List UInt8) : Option Nat := l.foldl stepS (some 0)
theorem svH_snoc (l : List UInt8) (b : UInt8) : svH (l ++ [b]) = stepS (svH l) b := by unfold svH; rw [List.foldl_append]; rfl
theorem foldS_none (l : List UInt8) : l.foldl stepS none = none := by
  induction l with
  | nil => rfl
  | cons b l ih => exact ih
theorem svH_none {l : List UInt8} {k : Nat} (h : svH (l.take k) = none) : svH l = none := by
  unfold svH at h ⊢
  rw [← List.take_append_drop k l, List.foldl_append, h]
  exact foldS_none _
theorem stepS_some {a m : Nat} {b : UInt8} (h : stepS (some a) b = some m) : ∃ d, dlow b = some d ∧ m = 16 * a + d := by
  unfold stepS at h
  cases hd : dlow b with
  | none => rw [hd] at h; cases h
  | some d =>
    rw [hd] at h
    injection h with h
    exact ⟨d, rfl, h.symm⟩
theorem foldS_low (m : Nat) : ∀ (n a : Nat), (lowH n m).foldl stepS (some a) = some (a * 16 ^ n + m % 16 ^ n) := by
  intro n
  induction n with
  | zero => intro a; simp [lowH, Nat.mod_one]
  | succ n ih =>
    intro a
    have h1 : stepS (some a) (hexC (m / 16 ^ n % 16)) = some (16 * a + m / 16 ^ n % 16) := by
      unfold stepS
      rw [dlow_hexC _ (Nat.mod_lt _ (by decide))]; rfl
    show (lowH n m).foldl stepS (stepS (some a) (hexC (m / 16 ^ n % 16))) = _
    rw [h1, ih, Nat.mod_pow_succ]
    congr 1
    rw [Nat.pow_succ, Nat.add_mul, Nat.mul_comm (16 ^ n) 16, ← Nat.mul_assoc, Nat.mul_comm a 16, Nat.mul_comm (16 ^ n) (m / 16 ^ n % 16)]
    omega
theorem svH_low (n m : Nat) (h : m < 16 ^ n) : svH (lowH n m) = some m := by
  unfold svH
  rw [foldS_low, Nat.zero_mul, Nat.zero_add, Nat.mod_eq_of_lt h]
theorem foldS_inv : ∀ (l : List UInt8) (a m : Nat), l.foldl stepS (some a) = some m → l = lowH l.length m ∧ m / 16 ^ l.length = a := by
  intro l
  induction l with
  | nil =>
    intro a m h
    injection h with h
    subst h
    exact ⟨rfl, by simp⟩
  | cons b l ih =>
    intro a m h
    have h' : l.foldl stepS (stepS (some a) b) = some m := h
    cases hs : stepS (some a) b with
    | none => rw [hs, foldS_none] at h'; cases h'
    | some q =>
      rw [hs] at h'
      obtain ⟨d, hd, rfl⟩ := stepS_some hs
      obtain ⟨h1, h2⟩ := ih _ _ h'
      obtain ⟨h3, h4⟩ := hexC_dlow hd
      have h5 : (16 * a + d) % 16 = d := by omega
      refine ⟨?_, ?_⟩
      · rw [List.length_cons]
        show b :: l = hexC (m / 16 ^ l.length % 16) :: lowH l.length m
        rw [h2, h5, h4, ← h1]
      · rw [List.length_cons, Nat.pow_succ, ← Nat.div_div_eq_div_mul, h2]; omega
theorem svH_inv {l : List UInt8} {m : Nat} (h : svH l = some m) : l = lowH l.length m ∧ m < 16 ^ l.length := by
  obtain ⟨h1, h2⟩ := foldS_inv l 0 m h
  refine ⟨h1, ?_⟩
  rcases Nat.div_eq_zero_iff.1 h2 with c | c
  · exact absurd c (Nat.pos_iff_ne_zero.1 (Nat.pow_pos (by decide)))
  · exact c
theorem foldS_mono : ∀ (l : List UInt8) (a m : Nat), l.foldl stepS (some a) = some m → a ≤ m := by
  intro l
  induction l with
  | nil => intro a m h; injection h with h; omega
  | cons b l ih =>
    intro a m h
    have h' : l.foldl stepS (stepS (some a) b) = some m := h
    cases hs : stepS (some a) b with
    | none => rw [hs, foldS_none] at h'; cases h'
    | some q =>
      rw [hs] at h'
      obtain ⟨d, hd, rfl⟩ := stepS_some hs
      have := ih _ _ h'
      omega
/-- The value of a digit of either case. -/
def dboth (b : UInt8) : Option Nat := if 48 ≤ b.toNat ∧ b.toNat ≤ 57 then some (b.toNat - 48) else if 97 ≤ (b ||| 32).toNat ∧ (b ||| 32).toNat ≤ 102 then some ((b ||| 32).toNat - 87) else none
theorem or32 (d : Nat) (h : 10 ≤ d) (h2 : d < 16) : (hexC d ||| 32) = hexC d := by
  have : d = 10 ∨ d = 11 ∨ d = 12 ∨ d = 13 ∨ d = 14 ∨ d = 15 := by omega
  rcases this with rfl | rfl | rfl | rfl | rfl | rfl <;> decide
theorem dboth_low {b : UInt8} {d : Nat} (h : dlow b = some d) : dboth b = some d := by
  obtain ⟨h1, h2⟩ := hexC_dlow h
  have hn := hexC_nat d h1
  unfold dboth
  subst h2
  by_cases c : d < 10
  · rw [if_pos c] at hn
    rw [hn, if_pos (by omega)]; congr 1; omega
  · rw [if_neg c] at hn
    rw [or32 d (by omega) h1, hn, if_neg (by omega), if_pos (by omega)]; congr 1; omega
def stepI (a : Option Nat) (b : UInt8) : Option Nat := a.bind fun n => (dboth b).bind fun d => if 16 * n + d < 4294967296 then some (16 * n + d) else none
def hvH (l : List UInt8) : Option Nat := l.foldl stepI (some 0)
theorem hvH_snoc (l : List UInt8) (b : UInt8) : hvH (l ++ [b]) = stepI (hvH l) b := by unfold hvH; rw [List.foldl_append]; rfl
theorem foldI_none (l : List UInt8) : l.foldl stepI none = none := by
  induction l with
  | nil => rfl
  | cons b l ih => exact ih
theorem hvH_none {l : List UInt8} {k : Nat} (h : hvH (l.take k) = none) : hvH l = none := by
  unfold hvH at h ⊢
  rw [← List.take_append_drop k l, List.foldl_append, h]
  exact foldI_none _
theorem foldI_of : ∀ (l : List UInt8) (a m : Nat), m < 4294967296 → l.foldl stepS (some a) = some m → l.foldl stepI (some a) = some m := by
  intro l
  induction l with
  | nil => intro a m _ h; exact h
  | cons b l ih =>
    intro a m hm h
    have h' : l.foldl stepS (stepS (some a) b) = some m := h
    cases hs : stepS (some a) b with
    | none => rw [hs, foldS_none] at h'; cases h'
    | some q =>
      rw [hs] at h'
      obtain ⟨d, hd, rfl⟩ := stepS_some hs
      have hle := foldS_mono _ _ _ h'
      have e : stepI (some a) b = some (16 * a + d) := by
        unfold stepI
        rw [dboth_low hd]
        show (if 16 * a + d < 4294967296 then some (16 * a + d) else none) = _
        rw [if_pos (by omega)]
      show l.foldl stepI (stepI (some a) b) = _
      rw [e]
      exact ih _ _ hm h'
theorem hvH_of {l : List UInt8} {m : Nat} (hm : m < 4294967296) (h : svH l = some m) : hvH l = some m := foldI_of l 0 m hm h
theorem stepI_lt {a : Option Nat} {b : UInt8} {m : Nat} (h : stepI a b = some m) : m < 4294967296 := by
  unfold stepI at h
  cases a with
  | none => cases h
  | some a =>
    cases hd : dboth b with
    | none => rw [hd] at h; cases h
    | some d =>
      rw [hd] at h
      change (if 16 * a + d < 4294967296 then some (16 * a + d) else none) = some m at h
      split at h
      · injection h with h; omega
      · cases h
theorem pow16_8 : (16 : Nat) ^ 8 = 4294967296 := by decide
/-- Whether a text is one of a number: 8 digits, of a word that is the number's own. -/
def readXB (s : ByteArray) : Bool := match svH s.data.toList with
  | some n => decide (s.data.toList.length = 8) && decide (bitsI n = (n : Int))
  | none => false
def readX (s : ByteArray) : Nat := if readXB s then (svH s.data.toList).getD 0 else 0
theorem readX_no {s : ByteArray} (h : readXB s = false) : readX s = 0 := by unfold readX; rw [h]; rfl
theorem readXB_iff {s : ByteArray} : readXB s = true ↔ ∃ n, svH s.data.toList = some n ∧ s.data.toList.length = 8 ∧ bitsI n = (n : Int) := by
  unfold readXB
  cases hs : svH s.data.toList with
  | none => simp
  | some n => simp
theorem readX_of {s : ByteArray} {n : Nat} (h1 : svH s.data.toList = some n) (h2 : s.data.toList.length = 8) (h3 : bitsI n = (n : Int)) : readXB s = true ∧ readX s = n := by
  have h := readXB_iff.2 ⟨n, h1, h2, h3⟩
  refine ⟨h, ?_⟩
  unfold readX
  rw [if_pos h, h1]; rfl
theorem bitsI_val {n : Nat} (h : n < 4294967296) : bitsI n = (bitsN n : Nat) ∧ bitsN n < 4294967296 := by
  have hw : (Lit.float .f32 n).wf = true := wf_of_lt _ _ h
  refine ⟨bitsI_eq hw, ?_⟩
  unfold bitsN
  split <;> omega
/-- The text of a number: the 8 digits of its word. -/
def hexT (n : Nat) : ByteArray := ⟨(lowH 8 (bitsN n)).toArray⟩
theorem hexT_list (n : Nat) : (hexT n).data.toList = lowH 8 (bitsN n) := by unfold hexT; simp
theorem hexT_size (n : Nat) : (hexT n).size = 8 := by
  show (lowH 8 (bitsN n)).toArray.size = 8
  rw [List.size_toArray, lowH_len]
/-- What the program's reading says. -/
theorem readX_prog {s : ByteArray} {n : Nat} (h1 : hvH s.data.toList = some n) (hn : n < 4294967296) (h2 : hexT n = s) : readXB s = true ∧ readX s = n := by
  obtain ⟨hb, hl⟩ := bitsI_val hn
  have e : s.data.toList = lowH 8 (bitsN n) := by rw [← h2, hexT_list]
  have hs : svH s.data.toList = some (bitsN n) := by rw [e]; exact svH_low 8 _ (by rw [pow16_8]; exact hl)
  have hh := hvH_of hl hs
  rw [h1] at hh
  injection hh with hh
  refine readX_of (by rw [hs, ← hh]) (by rw [e, lowH_len]) ?_
  rw [hb, ← hh]
theorem readX_prog_no {s : ByteArray} {n : Nat} (h1 : hvH s.data.toList = some n) (h2 : hexT n ≠ s) : readXB s = false := by
  cases hb : readXB s
  · rfl
  · obtain ⟨m, g1, g2, g3⟩ := readXB_iff.1 hb
    obtain ⟨q1, q2⟩ := svH_inv g1
    rw [g2, pow16_8] at q2
    have hh := hvH_of q2 g1
    rw [h1] at hh
    injection hh with hh
    subst hh
    have g4 := (bitsI_val q2).1
    rw [g3] at g4
    refine absurd (ByteArray.ext (Array.toList_inj.1 ?_)) h2
    rw [hexT_list, ← Int.ofNat_inj.1 g4, q1, g2]
theorem readX_prog_bad {s : ByteArray} (h1 : hvH s.data.toList = none) : readXB s = false := by
  cases hb : readXB s
  · rfl
  · obtain ⟨m, g1, g2, g3⟩ := readXB_iff.1 hb
    obtain ⟨q1, q2⟩ := svH_inv g1
    rw [g2, pow16_8] at q2
    have hh := hvH_of q2 g1
    rw [h1] at hh
    cases hh
/-- What the reference's reading says. -/
theorem readX_len {s : ByteArray} (h : s.size ≠ 8) : readXB s = false := by
  cases hb : readXB s
  · rfl
  · obtain ⟨m, g1, g2, g3⟩ := readXB_iff.1 hb
    exact absurd (show s.size = 8 from g2) h
theorem readX_none {s : ByteArray} (h : svH s.data.toList = none) : readXB s = false := by unfold readXB; rw [h]
theorem readX_bits {s : ByteArray} {n : Nat} (h : svH s.data.toList = some n) (h2 : bitsI n ≠ (n : Int)) : readXB s = false := by
  unfold readXB; rw [h]
  show (_ && decide (bitsI n = (n : Int))) = false
  rw [decide_eq_false h2, Bool.and_false]
end Go.Proofs.YtogliigpoojfoaaGreatDoor
end

section
namespace Go.Proofs.YtogliigpoojfoaaGreatDoor
set_option maxRecDepth 100000
open Go.RowKit Fl

def uvals (l : List UInt8) : List Value := l.map fun b => .int .u8 (b.toNat : Int)
theorem uvals_push (l : List UInt8) (x : UInt8) : uvals l ++ [.int .u8 (x.toNat : Int)] = uvals (l ++ [x]) := by unfold uvals; rw [List.map_append]; rfl
theorem uone_cell (W : World) (x : Int) : ∀ (j : Nat) u, ([.int .u8 x] : List Value)[j]? = some u → (W.alloc (.cells #[.int .u8 x] 5)).cell? ((⟨W.heap.size, 0, none⟩ : Addr).add j) = some u := by
  intro j u hj
  have hj0 : j = 0 := by
    rcases Nat.lt_or_ge j 1 with c | c
    · omega
    · rw [List.getElem?_eq_none (by simpa using c)] at hj; cases hj
  subst hj0
  simp at hj
  subst hj
  exact new_cell _ _ _
theorem uone_flat (x : Int) : ∀ u ∈ ([.int .u8 x] : List Value), u.oneCell' = true := by
  intro u hu
  simp at hu
  subst hu; rfl
theorem unone (w : World) : (w.alloc (.cells #[] 5)).ownsRow w.heap.size 5 1 (.slice (some ⟨w.heap.size, 0, none⟩) 0 0) 0 (uvals []) :=
  World.ownsRow_made w #[] 0 (Nat.le_refl _) (Nat.zero_le _) rfl
theorem text_of_own {w : World} {base g n cap m : Nat} {l : List UInt8} (h : w.ownsRow base 5 1 (.slice (some ⟨g, 0, none⟩) n cap) m (uvals l)) : ∀ j (hj : j < l.length), w.cell? ((⟨g, 0, none⟩ : Addr).add j) = some (.int .u8 (l[j].toNat : Int)) := by
  intro j hj
  exact h.cells (g := g) rfl j (.int .u8 (l[j].toNat : Int)) (by simp [uvals, hj])
theorem below_newH {w W : World} (h : Below w.heap.size w W) (o : Obj) : w.heap.size ≤ (W.alloc o).heap.size := by
  have h1 := h.size
  have h2 := new_size W o
  omega
theorem owns_shapeH {w : World} {base e size n : Nat} {v : Value} {xs : List Value} (h : w.ownsRow base e size v n xs) (hn : 0 < n) : ∃ g cap, v = .slice (some ⟨g, 0, none⟩) n cap ∧ base ≤ g ∧ g < w.heap.size ∧ n ≤ cap := by
  rcases h.2 with ⟨-, h0⟩ | ⟨g, cap, cur, hv, hbg, hgg, hc, -⟩
  · omega
  · exact ⟨g, cap, hv, hbg, (Array.getElem?_eq_some_iff.1 hgg).1, hc⟩
theorem owns_blockH {w : World} {base e size n m : Nat} {a : Option Addr} {cap : Nat} {xs : List Value} (h : w.ownsRow base e size (.slice a n cap) m xs) : ∀ k, (Value.slice a n cap).ownBlock = some k → base ≤ k := fun k hk => (h.lt k hk).1
/-- The low digits one by one, from the greatest. -/
def preH (j m : Nat) : List UInt8 := (lowH 8 m).take j
theorem preH_step (j m : Nat) (h : j < 8) : preH (j + 1) m = preH j m ++ [hexC (m / 16 ^ (7 - j) % 16)] := by
  unfold preH
  have hl : j < (lowH 8 m).length := by rw [lowH_len]; exact h
  rw [List.take_succ_eq_append_getElem hl]
  congr 1
  have : j = 0 ∨ j = 1 ∨ j = 2 ∨ j = 3 ∨ j = 4 ∨ j = 5 ∨ j = 6 ∨ j = 7 := by omega
  rcases this with rfl | rfl | rfl | rfl | rfl | rfl | rfl | rfl <;> rfl
theorem preH_len (j m : Nat) (h : j ≤ 8) : (preH j m).length = j := by
  unfold preH; rw [List.length_take, lowH_len]; omega
theorem preH_done (m : Nat) : preH 8 m = lowH 8 m := by
  unfold preH; rw [List.take_of_length_le]; rw [lowH_len]; exact Nat.le_refl _
theorem digit_and (j m : Nat) (h : j < 8) (hm : m < 4294967296) : bits BinOp.and IntKind.i64 ((m : Int) / 2 ^ (28 - 4 * j)) 15 = ((m / 16 ^ (7 - j) % 16 : Nat) : Int) := by
  have e : (2 : Nat) ^ (28 - 4 * j) = 16 ^ (7 - j) := by
    rw [show (16 : Nat) = 2 ^ 4 by decide, ← Nat.pow_mul, show 4 * (7 - j) = 28 - 4 * j by omega]
  have e2 : ((m : Int) / 2 ^ (28 - 4 * j)) = ((m / 16 ^ (7 - j) : Nat) : Int) := by
    rw [← e]; push_cast; rfl
  rw [e2]
  have hlt : m / 16 ^ (7 - j) < 4294967296 := Nat.lt_of_le_of_lt (Nat.div_le_self _ _) hm
  have h1 := i64_and_nat (m / 16 ^ (7 - j)) 15 hlt (by decide)
  have h2 : m / 16 ^ (7 - j) &&& 15 = m / 16 ^ (7 - j) % 16 := Nat.and_two_pow_sub_one_eq_mod _ 4
  rw [h2] at h1
  exact h1
theorem digit_char (d : Nat) (h : d < 16) : ∀ hb : d < (⟨#[48, 49, 50, 51, 52, 53, 54, 55, 56, 57, 97, 98, 99, 100, 101, 102]⟩ : ByteArray).size, (⟨#[48, 49, 50, 51, 52, 53, 54, 55, 56, 57, 97, 98, 99, 100, 101, 102]⟩ : ByteArray)[d] = hexC d := by
  have : d = 0 ∨ d = 1 ∨ d = 2 ∨ d = 3 ∨ d = 4 ∨ d = 5 ∨ d = 6 ∨ d = 7 ∨ d = 8 ∨ d = 9 ∨ d = 10 ∨ d = 11 ∨ d = 12 ∨ d = 13 ∨ d = 14 ∨ d = 15 := by omega
  rcases this with rfl | rfl | rfl | rfl | rfl | rfl | rfl | rfl | rfl | rfl | rfl | rfl | rfl | rfl | rfl | rfl <;> intro _ <;> rfl
end Go.Proofs.YtogliigpoojfoaaGreatDoor
end

section
namespace Go.Proofs.YtogliigpoojfoaaGreatDoor
set_option maxRecDepth 100000
open Go.RowKit Fl

theorem pow2_16 (w : World) :
    Calls Tryz.prog 123 #[.int .i64 16] w fun e w' => e = .returned (.bool true) ∧ w = w' := by
  go_enter Tryz.func123, Tryz.ntmps123
  go_wp2
  go_ret
  exact ⟨rfl, rfl⟩
theorem tz_16 (w : World) (h : w.cell? ⟨6, 15, none⟩ = some (.int .u8 4)) :
    Calls Tryz.prog 124 #[.int .u64 16] w fun e w' => e = .returned (.int .i64 4) ∧ w = w' := by
  have hV : IntKind.u64.wrap (bits BinOp.and IntKind.u64 16 (IntKind.u64.wrap (-16)) * 285870213051353865) = 4573923408821661840 := by kernel_rfl
  go_enter Tryz.func124, Tryz.ntmps124
  go_wp2
  go_ret
  exact ⟨rfl, rfl⟩
theorem cell_new {w : World} {p : Addr} {v : Value} (h : w.cell? p = some v) (o : Obj) : (w.alloc o).cell? p = some v := by
  rw [((Below.refl _ w).alloc (Nat.le_refl _) o).cell (p := p) (World.block_lt_of_cell? w _ h)]; exact h
theorem digit_char36 (d : Nat) (h : d < 16) : ∀ hb : d < (⟨#[48, 49, 50, 51, 52, 53, 54, 55, 56, 57, 97, 98, 99, 100, 101, 102, 103, 104, 105, 106, 107, 108, 109, 110, 111, 112, 113, 114, 115, 116, 117, 118, 119, 120, 121, 122]⟩ : ByteArray).size, (⟨#[48, 49, 50, 51, 52, 53, 54, 55, 56, 57, 97, 98, 99, 100, 101, 102, 103, 104, 105, 106, 107, 108, 109, 110, 111, 112, 113, 114, 115, 116, 117, 118, 119, 120, 121, 122]⟩ : ByteArray)[d] = hexC d := by
  have : d = 0 ∨ d = 1 ∨ d = 2 ∨ d = 3 ∨ d = 4 ∨ d = 5 ∨ d = 6 ∨ d = 7 ∨ d = 8 ∨ d = 9 ∨ d = 10 ∨ d = 11 ∨ d = 12 ∨ d = 13 ∨ d = 14 ∨ d = 15 := by omega
  rcases this with rfl | rfl | rfl | rfl | rfl | rfl | rfl | rfl | rfl | rfl | rfl | rfl | rfl | rfl | rfl | rfl <;> intro _ <;> rfl
/-- What stands at the loop's head: j digits are there; the array's first cells are what they were. -/
structure HexInv (w W : World) (m j u : Nat) : Prop where
  below : Below w.heap.size w W
  size : w.heap.size < W.heap.size
  val : u = m / 16 ^ j
  cell : ∀ k, k < 65 → ∃ v, W.cell? ⟨w.heap.size, k, none⟩ = some v
  free : ∀ k, W.frozen? ⟨w.heap.size, k, none⟩ = false
  dig : ∀ k, k < j → W.cell? ⟨w.heap.size, 64 - k, none⟩ = some (.int .u8 ((hexC (m / 16 ^ k % 16)).toNat : Int))
theorem HexInv.start (w : World) (m : Nat) : HexInv w (w.alloc (.cells Tryz.zeroCells141 141)) m 0 m := by
  refine ⟨(Below.refl _ _).alloc (Nat.le_refl _) _, new_size w _, by simp, fun k hk => ?_, fun k => World.frozen?_alloc_new _ _ _ _, fun k hk => absurd hk (Nat.not_lt_zero _)⟩
  have hs := MapKept.heap_alloc w (.cells Tryz.zeroCells141 141)
  unfold World.cell?
  rw [hs.1]
  have : k < (Tryz.zeroCells141).size := by
    have e : (Tryz.zeroCells141).size = 65 := by kernel_rfl
    omega
  exact ⟨_, Array.getElem?_eq_getElem this⟩
theorem HexInv.step {w W : World} {m j u : Nat} (h : HexInv w W m j u) (hj : j < 65) (x : UInt8) (hx : x = hexC (u % 16)) : HexInv w (W.setCell ⟨w.heap.size, 65 - j - 1, none⟩ (.int .u8 (x.toNat : Int))) m (j + 1) (u / 16) := by
  have hb := h.below.setCell (p := ⟨w.heap.size, 65 - j - 1, none⟩) (Nat.le_refl _) (.int .u8 (x.toNat : Int))
  obtain ⟨old, hold⟩ := h.cell (65 - j - 1) (by omega)
  refine ⟨hb, ?_, ?_, fun k hk => ?_, fun k => ?_, fun k hk => ?_⟩
  · rw [World.size_setCell]; exact h.size
  · rw [h.val, Nat.div_div_eq_div_mul, Nat.pow_succ]
  · by_cases c : k = 65 - j - 1
    · subst c; exact ⟨_, World.cell?_setCell_same _ _ _ hold⟩
    · rw [World.cell?_setCell_other _ _ _ _ (fun e => by have h9 : 65 - j - 1 = k := congrArg Addr.off e; exact c h9.symm)]; exact h.cell k hk
  · rw [World.frozen?_setCell]; exact h.free k
  · by_cases c : k = j
    · subst c
      have e9 : 64 - k = 65 - k - 1 := by omega
      rw [e9, World.cell?_setCell_same _ _ _ hold, hx, h.val]
    · rw [World.cell?_setCell_other _ _ _ _ (fun e => by have h9 : 65 - j - 1 = 64 - k := congrArg Addr.off e; omega)]; exact h.dig k (by omega)
theorem hex_more {m j u : Nat} (hv : u = m / 16 ^ j) (hu : 16 ≤ u) (hm : m < 4294967296) : j + 1 < 8 := by
  rcases Nat.lt_or_ge (j + 1) 8 with c | c
  · exact c
  · exfalso
    have h1 : 16 ^ 7 ≤ 16 ^ j := Nat.pow_le_pow_right (by decide) (by omega)
    have h2 : m / 16 ^ j ≤ m / 16 ^ 7 := Nat.div_le_div_left h1 (by decide)
    have h3 : m / 16 ^ 7 < 16 := by
      have e : (16 : Nat) ^ 7 = 268435456 := by decide
      rw [e]; omega
    omega
theorem hex_end {m j u : Nat} (hv : u = m / 16 ^ j) (hu : u < 16) : m < 16 ^ (j + 1) := by
  rw [Nat.pow_succ, Nat.mul_comm]
  rw [hv] at hu
  exact (Nat.div_lt_iff_lt_mul (Nat.pow_pos (by decide))).1 hu
theorem lowH_get : ∀ (n m i : Nat) (h : i < n), (lowH n m)[i]'(by rw [lowH_len]; exact h) = hexC (m / 16 ^ (n - 1 - i) % 16) := by
  intro n
  induction n with
  | zero => intro m i h; omega
  | succ n ih =>
    intro m i h
    cases i with
    | zero => rfl
    | succ i =>
      have := ih m i (by omega)
      rw [show n + 1 - 1 - (i + 1) = n - 1 - i by omega, ← this]; rfl
theorem HexInv.text {w W : World} {m n u : Nat} (h : HexInv w W m n u) (hn : n ≤ 65) : ∀ i (hi : i < (lowH n m).length), W.cell? ((⟨w.heap.size, 65 - n, none⟩ : Addr).add i) = some (.int .u8 ((lowH n m)[i].toNat : Int)) := by
  intro i hi
  have hi' : i < n := by rw [lowH_len] at hi; exact hi
  have hadd : (⟨w.heap.size, 65 - n, none⟩ : Addr).add i = ⟨w.heap.size, 64 - (n - 1 - i), none⟩ := by
    unfold Addr.add; split <;> simp_all; omega
  rw [hadd, h.dig _ (by omega), lowH_get n m i hi']
set_option maxRecDepth 100000 in
set_option maxHeartbeats 4000000 in
theorem fbits_any (m : Nat) (hm : m < 4294967296) (w : World) (h : w.cell? ⟨6, 15, none⟩ = some (.int .u8 4)) :
    Calls Tryz.prog 103 #[.slice none 0 0, .int .u64 m, .int .i64 16, .bool false, .bool false] w fun e w' => ∃ n, 1 ≤ n ∧ n ≤ 8 ∧ m < 16 ^ n ∧ e = .returned (.tuple #[.slice none 0 0, .string ⟨(lowH n m).toArray⟩]) ∧ Below w.heap.size w w' := by
  have hTz := hidI (fun w h => tz_16 w h)
  have hT := hidI h
  have hSt := hidI (HexInv.start w m)
  clear h
  go_enter Tryz.func103, Tryz.ntmps103
  go_wp2_with (first | (go_at_call 123; refine (pow2_16 _).mono ?_; rintro e w' ⟨rfl, rfl⟩) | (go_at_call 124; refine (hTz.out _ (cell_new hT.out _)).mono ?_; rintro e w' ⟨rfl, rfl⟩))
  go_loopw [1, 13] (fun vu vi wr => ∃ (W : World) (j u : Nat), W = wr ∧ vu = .int .u64 u ∧ vi = .int .i64 (65 - (j : Int)) ∧ j < 8 ∧ u < 4294967296 ∧ Hid (HexInv w W m j u) ∧ Hid (j = 0 ∨ 1 ≤ u)) (fun vu _ _ => (intOf vu).toNat)
  case atStart => exact ⟨_, 0, m, rfl, rfl, rfl, by omega, hm, hSt.out, .inl rfl⟩
  case round =>
    obtain ⟨W, j, u, rfl, rfl, rfl, hj, hu, hinv, hpos⟩ := hrel
    have hcell := hinv.out.cell (65 - j - 1) (by omega)
    have hfree := hinv.out.free (65 - j - 1)
    obtain ⟨old, hcell⟩ := hcell
    by_cases hge : 16 ≤ u
    · have hand := u64_and_nat u 15 (by omega) (by decide)
      rw [Nat.and_two_pow_sub_one_eq_mod u 4] at hand
      have hand' : bits BinOp.and IntKind.u64 (u : Int) 15 = ((u % 16 : Nat) : Int) := hand
      clear hand
      have hd : u % 16 < 16 := Nat.mod_lt _ (by decide)
      have hnext := hidI (fun x hx => hinv.out.step (by omega) x hx)
      generalize hq : u % 16 = d at hand' hd hnext
      have hch := hidI (digit_char36 d hd)
      have hnx := hidI (hnext.out _ (hch.out (by show d < 36; omega)))
      have hj1 := hex_more hinv.out.val hge hm
      go_wp2
      go_roundw
      case rel => exact ⟨_, j + 1, u / 16, rfl, by go_num, by go_num, hj1, by omega, hnx.out, .inr (by omega)⟩
      case measure => simp [intOf]; omega
    · have hd : u < 16 := by omega
      have hch := hidI (digit_char36 u hd)
      have hmod : u % 16 = u := Nat.mod_eq_of_lt hd
      have hend := hidI (hex_end hinv.out.val hd)
      have hnx := hidI (hinv.out.step (by omega) _ ((hch.out (by show u < 36; omega)).trans (by rw [hmod])))
      have hal : Tryz.prog.arrayLen 141 = 65 := by kernel_rfl
      have hsl : ∀ W, (Instr.sliceAt 141 (.pointer (some ⟨w.heap.size, 0, none⟩)) (some (.int .i64 (65 - (j : Int) - 1))) none none).run Tryz.prog W = .ok (.slice (some ⟨w.heap.size, 64 - j, none⟩) (j + 1) (j + 1)) W := fun W => by
        rw [run_sliceAt_array_l W 141 ⟨w.heap.size, 0, none⟩ (by kernel_rfl) .i64 (65 - (j : Int) - 1) (by omega) (by rw [hal]; omega)]
        go_simp
        rw [if_neg (by omega)]
        exact ⟨by congr 1; omega, by omega⟩
      have hcv := run_convert_bytes_back (P := Tryz.prog) _ 22 9 5 ⟨w.heap.size, 65 - (j + 1), none⟩ (j + 1) (lowH (j + 1) m) Tryz.underlying22 Tryz.underlying5 Tryz.underlying9 (hnx.out.text (by omega))
      rw [lowH_len, show 65 - (j + 1) = 64 - j by omega] at hcv
      clear hal hmod
      go_wp2
      go_ret2
      exact ⟨j + 1, by omega, by omega, hend.out, rfl, hnx.out.below⟩
theorem ifmt_any (m : Nat) (hm : m < 4294967296) (w : World) (h : w.cell? ⟨6, 15, none⟩ = some (.int .u8 4)) :
    Calls Tryz.prog 88 #[.int .i64 m, .int .i64 16] w fun e w' => ∃ n, 1 ≤ n ∧ n ≤ 8 ∧ m < 16 ^ n ∧ e = .returned (.string ⟨(lowH n m).toArray⟩) ∧ Below w.heap.size w w' := by
  have hF := hidI (fbits_any m hm w h)
  clear h
  go_enter Tryz.func88, Tryz.ntmps88
  go_wp2_with (first | (go_at_call 103; refine hF.out.mono ?_; rintro e w' ⟨n, h1, h2, h3, rfl, hB⟩; have b1 := hidI hB; have hn := hidI h3; clear hB h3))
  go_ret
  exact ⟨n, h1, h2, hn.out, rfl, b1.out⟩
theorem fmt_any (m : Nat) (hm : m < 4294967296) (w : World) (h : w.cell? ⟨6, 15, none⟩ = some (.int .u8 4)) :
    Calls Tryz.prog 74 #[.int .i64 m, .int .i64 16] w fun e w' => ∃ n, 1 ≤ n ∧ n ≤ 8 ∧ m < 16 ^ n ∧ e = .returned (.string ⟨(lowH n m).toArray⟩) ∧ Below w.heap.size w w' := by
  have hF := hidI (ifmt_any m hm w h)
  clear h
  go_enter Tryz.func74, Tryz.ntmps74
  go_wp2_with (first | (go_at_call 88; refine hF.out.mono ?_; rintro e w' ⟨n, h1, h2, h3, rfl, hB⟩; have b1 := hidI hB; have hn := hidI h3; clear hB h3))
  go_ret
  exact ⟨n, h1, h2, hn.out, rfl, b1.out⟩
end Go.Proofs.YtogliigpoojfoaaGreatDoor
end
