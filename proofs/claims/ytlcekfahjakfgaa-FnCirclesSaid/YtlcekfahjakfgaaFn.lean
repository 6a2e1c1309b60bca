/-
  The sine, as a plain function of what words mean; its bound.
-/
import Derived.Test.YtlcekfahjakfgaaFa
namespace Go.Proofs.Ytlcekfahjakfgaa.Fl
open Go

/-- The opposite of what a word means. -/
def negM (x : Option Nat) : Option Nat := x.map (Op.negFloat .f64)

/-- The number with which the sine goes on: the distance to the next half turn. -/
def foldM (f : Option Nat) : Option Nat :=
  if gtM (if geM f (some half64) then fop .sub .f64 f (some half64) else f) (some quarter64) then fop .sub .f64 (some half64) (if geM f (some half64) then fop .sub .f64 f (some half64) else f)
  else (if geM f (some half64) then fop .sub .f64 f (some half64) else f)

/-- The divisor in round j. -/
def divS (j : Nat) : Nat := FloatKind.f64.nearest (2 * (8 - j) * (2 * (8 - j) + 1) : Int)
def sinP (u : Option Nat) : Nat → Option Nat
  | 0 => some one64
  | j + 1 => fop .sub .f64 (some one64) (fop .quo .f64 (fop .mul .f64 u (sinP u j)) (some (divS j)))
/-- The sine of a number of turns from 0 to 1. -/
def sineM (f : Option Nat) : Option Nat :=
  if geM f (some half64) then negM (fop .mul .f64 (fop .mul .f64 (foldM f) (some tau64)) (sinP (fop .mul .f64 (fop .mul .f64 (foldM f) (some tau64)) (fop .mul .f64 (foldM f) (some tau64))) 8))
  else fop .mul .f64 (fop .mul .f64 (foldM f) (some tau64)) (sinP (fop .mul .f64 (fop .mul .f64 (foldM f) (some tau64)) (fop .mul .f64 (foldM f) (some tau64))) 8)

theorem geM_fin {a b : Nat} (ha : Fin64 a) (hb : Fin64 b) : geM (some a) (some b) = decide (val Ieee.double b ≤ val Ieee.double a) := by
  show (FloatKind.f64.format.order a b == some .gt || FloatKind.f64.format.order a b == some .eq) = _
  rw [order_fin ha hb]
  by_cases h1 : val Ieee.double a < val Ieee.double b
  · rw [cmp_lt h1, decide_eq_false (by omega)]; rfl
  · by_cases h2 : val Ieee.double b < val Ieee.double a
    · rw [cmp_gt h2, decide_eq_true (by omega)]; rfl
    · have : val Ieee.double a = val Ieee.double b := by omega
      rw [this, decide_eq_true (by omega), Int.compare_eq_eq.2 rfl]; rfl
theorem gtM_fin {a b : Nat} (ha : Fin64 a) (hb : Fin64 b) : gtM (some a) (some b) = decide (val Ieee.double b < val Ieee.double a) := by
  show (FloatKind.f64.format.order a b == some .gt) = _
  rw [order_fin ha hb]
  by_cases h1 : val Ieee.double a < val Ieee.double b
  · rw [cmp_lt h1, decide_eq_false (by omega)]; rfl
  · by_cases h2 : val Ieee.double b < val Ieee.double a
    · rw [cmp_gt h2, decide_eq_true (by omega)]; rfl
    · have : val Ieee.double a = val Ieee.double b := by omega
      rw [this, decide_eq_false (by omega), Int.compare_eq_eq.2 rfl]; rfl
theorem ltM_fin {a b : Nat} (ha : Fin64 a) (hb : Fin64 b) : ltM (some a) (some b) = decide (val Ieee.double a < val Ieee.double b) := by
  show (FloatKind.f64.format.order a b == some .lt) = _
  rw [order_fin ha hb]
  by_cases h1 : val Ieee.double a < val Ieee.double b
  · rw [cmp_lt h1, decide_eq_true h1]; rfl
  · rw [decide_eq_false h1]
    by_cases h2 : val Ieee.double b < val Ieee.double a
    · rw [cmp_gt h2]; rfl
    · have : val Ieee.double a = val Ieee.double b := by omega
      rw [this, Int.compare_eq_eq.2 rfl]; rfl

theorem fin_one : Fin64 one64 := by unfold Fin64; decide
theorem fin_half : Fin64 half64 := by unfold Fin64; decide
theorem fin_quarter : Fin64 quarter64 := by unfold Fin64; decide
theorem fin_zero : Fin64 0 := by unfold Fin64; decide

theorem foldM_range {f : Nat} (hf : Fin64 f) (h0 : 0 ≤ val Ieee.double f) (h1 : val Ieee.double f ≤ (V Ieee.double one64 : Int)) :
    ∃ c, foldM (some f) = some c ∧ Fin64 c ∧ 0 ≤ val Ieee.double c ∧ val Ieee.double c ≤ (V Ieee.double quarter64 : Int) := by
  have eo : V Ieee.double one64 = 4 * V Ieee.double quarter64 := by rw [V_one, V_quarter]
  have eh : V Ieee.double half64 = 2 * V Ieee.double quarter64 := by rw [V_half, V_quarter]
  have step1 : ∃ g, (if geM (some f) (some half64) then fop .sub .f64 (some f) (some half64) else some f) = some g ∧ Fin64 g ∧ 0 ≤ val Ieee.double g ∧ val Ieee.double g ≤ (V Ieee.double half64 : Int) := by
    rw [geM_fin hf fin_half, val_half]
    by_cases c : (V Ieee.double half64 : Int) ≤ val Ieee.double f
    · rw [decide_eq_true c]
      simp only [if_true]
      exact sub_range hf fin_half (by decide) (by rw [val_half]; omega) (by rw [val_half]; omega)
    · rw [decide_eq_false c]
      exact ⟨f, by simp, hf, h0, by omega⟩
  obtain ⟨g, hg, hgf, hg0, hg1⟩ := step1
  unfold foldM
  rw [hg, gtM_fin hgf fin_quarter, val_quarter]
  by_cases c : (V Ieee.double quarter64 : Int) < val Ieee.double g
  · rw [decide_eq_true c]
    simp only [if_true]
    exact sub_range fin_half hgf (by decide) (by rw [val_half]; omega) (by rw [val_half]; omega)
  · rw [decide_eq_false c]
    exact ⟨g, by simp, hgf, hg0, by omega⟩

theorem bd_of_val {c r : Nat} {e : Int} (hr : r ≤ top Ieee.double e) (hc : 0 ≤ val Ieee.double c) (h : val Ieee.double c ≤ (V Ieee.double r : Int)) : Bd .f64 e c := by
  have : V Ieee.double (mag Ieee.double c) ≤ V Ieee.double r := by
    unfold val at h hc
    generalize V Ieee.double (mag Ieee.double c) = x at *
    generalize V Ieee.double r = y at *
    cases sgn Ieee.double c <;> simp [sV] at h hc <;> omega
  have hm : mag Ieee.double c ≤ r := by
    by_cases k : r < mag Ieee.double c
    · have := V_lt (f := Ieee.double) k; omega
    · omega
  exact Nat.le_trans hm hr

theorem foldM_bd {f : Nat} (hf : Fin64 f) (h0 : 0 ≤ val Ieee.double f) (h1 : val Ieee.double f ≤ (V Ieee.double one64 : Int)) : MB (-2) (foldM (some f)) := by
  obtain ⟨c, hc, -, h2, h3⟩ := foldM_range hf h0 h1
  exact ⟨c, hc, bd_of_val (r := quarter64) (by decide) h2 h3⟩

theorem mb_const {e : Int} {c : Nat} (h : mag Ieee.double c ≤ top Ieee.double e) : MB e (some c) := ⟨c, rfl, h⟩

theorem divS_lb : ∀ j, j < 8 → LB 2 (some (divS j)) := by
  intro j hj
  have key : ∀ j, j < 8 → top Ieee.double 2 ≤ mag Ieee.double (divS j) ∧ mag Ieee.double (divS j) < Ieee.double.infRung := by decide +kernel
  exact ⟨_, rfl, key j hj⟩

theorem sinP_bd {u : Option Nat} (hu : MB 8 u) : ∀ j : Nat, j ≤ 8 → MB (13 * (j : Int)) (sinP u j) := by
  intro j
  induction j with
  | zero => intro _; exact mb_const (by decide)
  | succ j ih =>
    intro hj
    have h1 := (hu.mul (ih (by omega)) (by omega) (by omega) (by omega) (by omega)).div (divS_lb j (by omega)) (by omega) (by omega) (by omega) (by omega)
    have h2 := (mb_const (e := 0) (c := one64) (by decide)).sub h1 (by omega) (by omega) (by omega) (by omega)
    exact h2.mono (by omega)

theorem neg_bd {e : Int} {x : Option Nat} (h : MB e x) : MB e (negM x) := by
  obtain ⟨b, rfl, hb⟩ := h
  refine ⟨_, rfl, ?_⟩
  have hb' : b % 2 ^ 63 ≤ top Ieee.double e := hb
  show (b ^^^ 2 ^ 63) % 2 ^ 63 ≤ top Ieee.double e
  have : (b ^^^ 2 ^ 63) % 2 ^ 63 = b % 2 ^ 63 := by
    apply Nat.eq_of_testBit_eq
    intro i
    rw [Nat.testBit_mod_two_pow, Nat.testBit_mod_two_pow, Nat.testBit_xor, Nat.testBit_two_pow]
    by_cases h1 : i < 63
    · have : decide (63 = i) = false := decide_eq_false (by omega)
      rw [this]; simp
    · rw [decide_eq_false h1]; simp
  rw [this]; exact hb'

/-- The sine fits the 32-bit numbers. -/
theorem sineM_bd {f : Nat} (hf : Fin64 f) (h0 : 0 ≤ val Ieee.double f) (h1 : val Ieee.double f ≤ (V Ieee.double one64 : Int)) : MB 110 (sineM (some f)) := by
  have hz := (foldM_bd hf h0 h1).mul (mb_const (e := 3) (c := tau64) (by decide)) (by omega) (by omega) (by omega) (by omega)
  have hu := (hz.mono (e' := 3) (by omega)).mul (hz.mono (e' := 3) (by omega)) (by omega) (by omega) (by omega) (by omega)
  have hp := sinP_bd (hu.mono (e' := 8) (by omega)) 8 (by omega)
  have hr := (hz.mono (e' := 3) (by omega)).mul hp (by omega) (by omega) (by omega) (by omega)
  unfold sineM
  split
  · exact neg_bd (hr.mono (e' := 110) (by omega))
  · exact hr.mono (e' := 110) (by omega)

theorem sineM_part {a : Nat} (h : mag Ieee.double a < two52) : MB 110 (sineM (partM a)) := by
  obtain ⟨c, hc, h1, h2, h3⟩ := partM_range h
  rw [hc]; exact sineM_bd h1 h2 h3

end Go.Proofs.Ytlcekfahjakfgaa.Fl
