/-
  The logarithm, as a plain function of what words mean: doubling and halving are exact.
-/
import Derived.Test.YtlcekfahjakfgaaFk
namespace Go.Proofs.Ytlcekfahjakfgaa.Fl
open Go

def two64 : Nat := 4611686018427387904
theorem read_two : Ieee.double.read two64 = .number false (2 ^ 52) (-51) := by decide +kernel
theorem read_norm {r : Nat} (h : Ieee.double.binade ≤ r) (hr : r < Ieee.double.infRung) :
    Ieee.double.read r = .number false (Ieee.double.binade + r % Ieee.double.binade) (Ieee.double.leastPlace + ((r / Ieee.double.binade - 1 : Nat) : Int)) := by
  have hs : r < Ieee.double.signWeight := Nat.lt_trans hr Ieee.double.infRung_lt
  have hm : mag Ieee.double r = r := Nat.mod_eq_of_lt hs
  have hg : sgn Ieee.double r = false := by unfold sgn; rw [Nat.div_eq_of_lt hs]; rfl
  rw [read_eq, hm, if_neg (by omega), if_pos hr, hg]
theorem V_norm {r : Nat} (h : Ieee.double.binade ≤ r) : V Ieee.double r = (Ieee.double.binade + r % Ieee.double.binade) * 2 ^ (r / Ieee.double.binade - 1) := by
  unfold V; rw [if_neg (by omega)]
/-- The word of a normal mantissa at a place. -/
theorem nearest_norm {r : Nat} (h : Ieee.double.binade ≤ r) (hr : r < Ieee.double.infRung) (j : Nat) (neg : Bool) :
    Ieee.double.nearest neg ((Ieee.double.binade + r % Ieee.double.binade) * 2 ^ j) (Ieee.double.leastPlace + ((r / Ieee.double.binade - 1 : Nat) : Int) - j) = Ieee.double.word neg r := by
  rw [nearest_rnd, rnd_shift, rnd_at Ieee.double _ (by omega)]
  have e : (Ieee.double.leastPlace + ((r / Ieee.double.binade - 1 : Nat) : Int) - Ieee.double.leastPlace).toNat = r / Ieee.double.binade - 1 := by omega
  rw [e, ← V_norm h, rnd_V, Nat.min_eq_left (by omega)]
theorem dbl {r : Nat} (h : Ieee.double.binade ≤ r) (hr : r + Ieee.double.binade < Ieee.double.infRung) : fop .mul .f64 (some r) (some two64) = some (r + Ieee.double.binade) := by
  have hbp : 0 < Ieee.double.binade := by decide
  show ((Ieee.double.read r).product (Ieee.double.read two64)).map Ieee.double.write = _
  rw [read_two, read_norm h (by omega)]
  show some (Ieee.double.nearest (false ^^ false) ((Ieee.double.binade + r % Ieee.double.binade) * 2 ^ 52) (Ieee.double.leastPlace + ((r / Ieee.double.binade - 1 : Nat) : Int) + (-51))) = _
  have hd : (r + Ieee.double.binade) / Ieee.double.binade = r / Ieee.double.binade + 1 := Nat.add_div_right _ hbp
  have hd1 : 1 ≤ r / Ieee.double.binade := (Nat.le_div_iff_mul_le hbp).2 (by omega)
  have e := nearest_norm (r := r + Ieee.double.binade) (by omega) hr 52 false
  rw [Nat.add_mod_right, hd] at e
  have ep : Ieee.double.leastPlace + ((r / Ieee.double.binade - 1 : Nat) : Int) + (-51) = Ieee.double.leastPlace + ((r / Ieee.double.binade + 1 - 1 : Nat) : Int) - ((52 : Nat) : Int) := by omega
  rw [ep]
  exact congrArg some e
theorem word_false (x : Nat) : Ieee.double.word false x = x := rfl
theorem quo_mant (M : Nat) : 2 * ((M <<< 54) / 2 ^ 52) + ((M <<< 54) % 2 ^ 52 != 0).toNat = M * 2 ^ 3 := by
  have e2 : M <<< 54 = M * 4 * 2 ^ 52 := by
    rw [Nat.shiftLeft_eq, Nat.mul_assoc]
  rw [e2, Nat.mul_div_cancel _ (Nat.two_pow_pos 52), Nat.mul_mod_left]
  have e5 : ((0 : Nat) != 0).toNat = 0 := by decide
  rw [e5]
  omega
theorem quo_two {M : Nat} (hlog : M.log2 = 52) (p : Int) : (Ieee.Datum.number false M p).quotient 54 (.number false (2 ^ 52) (-51)) = some (.number false (M * 2 ^ 3) (p - 4)) := by
  have h0 : (2 ^ 52 : Nat) ≠ 0 := Nat.pos_iff_ne_zero.1 (Nat.two_pow_pos 52)
  have hl : (2 ^ 52 : Nat).log2 = 52 := Nat.log2_two_pow
  have hm := quo_mant M
  generalize (2 ^ 52 : Nat) = K at *
  simp only [Ieee.Datum.quotient]
  rw [if_neg h0, hlog, hl]
  have e1 : (54 + 52 - 52 : Nat) = 54 := by omega
  rw [e1, hm]
  have e4 : p - (-51) - ((54 : Nat) : Int) - 1 = p - 4 := by omega
  rw [e4, Bool.xor_self]
theorem hlv {r : Nat} (h : 2 * Ieee.double.binade ≤ r) (hr : r < Ieee.double.infRung) : fop .quo .f64 (some r) (some two64) = some (r - Ieee.double.binade) := by
  have hbp : 0 < Ieee.double.binade := by decide
  show ((Ieee.double.read r).quotient (52 + 2) (Ieee.double.read two64)).map Ieee.double.write = _
  rw [read_two, read_norm (by omega) hr]
  have hmod := Nat.mod_lt r hbp
  have hb : Ieee.double.binade = 2 ^ 52 := rfl
  have e52 : (2 : Nat) ^ (52 + 1) = 2 * Ieee.double.binade := by decide
  have hlog : (Ieee.double.binade + r % Ieee.double.binade).log2 = 52 := by
    apply Nat.le_antisymm
    · exact log2_le_of (by rw [e52]; omega)
    · exact (Nat.le_log2 (by omega)).2 (by rw [← hb]; omega)
  generalize hM : Ieee.double.binade + r % Ieee.double.binade = M at *
  have hq := fun p => quo_two hlog p
  refine Eq.trans (congrArg (Option.map Ieee.double.write) (hq _)) ?_
  have hs : r - Ieee.double.binade + Ieee.double.binade = r := by omega
  have hd : r / Ieee.double.binade = (r - Ieee.double.binade) / Ieee.double.binade + 1 := by
    rw [← Nat.add_div_right _ hbp, hs]
  have hd1 : 1 ≤ (r - Ieee.double.binade) / Ieee.double.binade := (Nat.le_div_iff_mul_le hbp).2 (by omega)
  have hm : (r - Ieee.double.binade) % Ieee.double.binade = r % Ieee.double.binade := by
    have := Nat.add_mod_right (r - Ieee.double.binade) Ieee.double.binade
    rw [hs] at this; exact this.symm
  have e := nearest_norm (r := r - Ieee.double.binade) (by omega) (by omega) 3 false
  rw [hm, hM, word_false] at e
  have ep : Ieee.double.leastPlace + ((r / Ieee.double.binade - 1 : Nat) : Int) - 4 = Ieee.double.leastPlace + (((r - Ieee.double.binade) / Ieee.double.binade - 1 : Nat) : Int) - ((3 : Nat) : Int) := by omega
  rw [ep]
  exact congrArg some e

/-! ### The binade to which the loops bring a number -/
def low75 : Nat := 4604930618986332160
def high15 : Nat := 4609434218613702656
theorem pos_val {r : Nat} (hr : r < Ieee.double.infRung) : Fin64 r ∧ val Ieee.double r = (V Ieee.double r : Int) := by
  have hs : r < Ieee.double.signWeight := Nat.lt_trans hr Ieee.double.infRung_lt
  have hm : mag Ieee.double r = r := Nat.mod_eq_of_lt hs
  have hg : sgn Ieee.double r = false := by unfold sgn; rw [Nat.div_eq_of_lt hs]; rfl
  refine ⟨by unfold Fin64; rw [hm]; exact hr, ?_⟩
  unfold val; rw [hm, hg]; rfl
theorem ge_rung {r c : Nat} (hr : r < Ieee.double.infRung) (hc : c < Ieee.double.infRung) : geM (some r) (some c) = decide (c ≤ r) := by
  obtain ⟨f1, v1⟩ := pos_val hr
  obtain ⟨f2, v2⟩ := pos_val hc
  rw [geM_fin f1 f2, v1, v2]
  refine decide_eq_decide.2 ?_
  have := V_lt_iff (f := Ieee.double) (r := r) (q := c)
  omega
theorem lt_rung {r c : Nat} (hr : r < Ieee.double.infRung) (hc : c < Ieee.double.infRung) : ltM (some r) (some c) = decide (r < c) := by
  obtain ⟨f1, v1⟩ := pos_val hr
  obtain ⟨f2, v2⟩ := pos_val hc
  rw [ltM_fin f1 f2, v1, v2]
  refine decide_eq_decide.2 ?_
  have := V_lt_iff (f := Ieee.double) (r := r) (q := c)
  omega
/-- The exponent, and the word that is left. -/
def expE (r : Nat) : Int := ((r : Int) - 4604930618986332160) / 4503599627370496
def restW (r : Nat) : Nat := (4604930618986332160 + ((r : Int) - 4604930618986332160) % 4503599627370496).toNat
theorem normal_one {r0 r : Nat} {e : Int} (h : (r : Int) + e * 4503599627370496 = r0) (h1 : 4604930618986332160 ≤ r) (h2 : r < 4609434218613702656) : r = restW r0 ∧ e = expE r0 := by
  unfold restW expE
  omega
end Go.Proofs.Ytlcekfahjakfgaa.Fl
