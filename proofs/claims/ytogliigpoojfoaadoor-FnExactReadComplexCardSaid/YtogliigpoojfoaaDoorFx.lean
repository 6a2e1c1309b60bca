/-
  More on the values of floating point: signs and magnitudes of words, comparisons, and the way from the 32-bit numbers to the 64-bit ones.
-/
import Derived.Test.YtogliigpoojfoaaDoorFv
namespace Go.Proofs.YtogliigpoojfoaaDoor.Fl
open Go

def sgn (f : Ieee.Format) (b : Nat) : Bool := b / f.signWeight % 2 == 1
def mag (f : Ieee.Format) (b : Nat) : Nat := b % f.signWeight
/-- The value of a word that is no not-a-number; an infinity is worth more than all. -/
def val (f : Ieee.Format) (b : Nat) : Int := sV (sgn f b) (V f (mag f b))

theorem read_eq (f : Ieee.Format) (b : Nat) : f.read b = if mag f b < f.binade then .number (sgn f b) (mag f b) f.leastPlace
    else if mag f b < f.infRung then .number (sgn f b) (f.binade + mag f b % f.binade) (f.leastPlace + (mag f b / f.binade - 1 : Nat))
    else if mag f b = f.infRung then .infinity (sgn f b) else .nan (sgn f b) (mag f b - f.infRung) := rfl

theorem binade_le_inf {f : Ieee.Format} (he : 1 ≤ f.exponentBits) : f.binade ≤ f.infRung := by
  unfold Ieee.Format.infRung
  have : 2 ^ 1 ≤ 2 ^ f.exponentBits := Nat.pow_le_pow_right (by decide) he
  exact Nat.le_mul_of_pos_left _ (by omega)

theorem isNaN_iff (k : FloatKind) (b : Nat) : (k.decode b).isNaN = decide (k.format.infRung < mag k.format b) := by
  have hb : k.format.binade ≤ k.format.infRung := binade_le_inf (by cases k <;> decide)
  show (k.format.read b).isNaN = _
  rw [read_eq]
  split
  · rw [decide_eq_false (by omega)]; rfl
  · split
    · rw [decide_eq_false (by omega)]; rfl
    · split
      · rw [decide_eq_false (by omega)]; rfl
      · rw [decide_eq_true (by omega)]; rfl

theorem read_fin (f : Ieee.Format) {b : Nat} (h : mag f b < f.infRung) :
    ∃ m p, f.read b = .number (sgn f b) m p ∧ f.leastPlace ≤ p ∧ m * 2 ^ (p - f.leastPlace).toNat = V f (mag f b) ∧ m < 2 ^ (f.fractionBits + 1) := by
  have hbp : 0 < f.binade := Nat.two_pow_pos _
  have hb : f.binade = 2 ^ f.fractionBits := rfl
  rw [read_eq]
  unfold V
  split
  · exact ⟨_, _, rfl, Int.le_refl _, by simp, by rw [Nat.pow_succ, ← hb]; omega⟩
  · first | rw [if_pos h] | skip
    have hmod := Nat.mod_lt (mag f b) hbp
    refine ⟨_, _, rfl, by omega, ?_, by rw [Nat.pow_succ, ← hb]; omega⟩
    have : (f.leastPlace + ((mag f b / f.binade - 1 : Nat) : Int) - f.leastPlace).toNat = mag f b / f.binade - 1 := by omega
    rw [this]

theorem read_inf (k : FloatKind) {b : Nat} (h : mag k.format b = k.format.infRung) : k.format.read b = .infinity (sgn k.format b) := by
  have hb : k.format.binade ≤ k.format.infRung := binade_le_inf (by cases k <;> decide)
  rw [read_eq, if_neg (by omega), if_neg (by omega), if_pos h]

theorem sV_lt_pos (s : Bool) {x y : Nat} (h : x < y) : sV s x < sV false y := by
  cases s <;> simp [sV] <;> omega
theorem sV_lt_neg (s : Bool) {x y : Nat} (h : x < y) : sV true y < sV s x := by
  cases s <;> simp [sV] <;> omega

theorem cmp_lt {x y : Int} (h : x < y) : compare x y = .lt := Int.compare_eq_lt.2 h
theorem cmp_gt {x y : Int} (h : y < x) : compare x y = .gt := Int.compare_eq_gt.2 h

/-- How two words that are no not-a-number stand to each other. -/
theorem order_val (k : FloatKind) {a b : Nat} (ha : mag k.format a ≤ k.format.infRung) (hb : mag k.format b ≤ k.format.infRung) :
    k.format.order a b = some (compare (val k.format a) (val k.format b)) := by
  unfold Ieee.Format.order val
  by_cases h1 : mag k.format a < k.format.infRung
  · obtain ⟨m, p, e1, l1, v1, -⟩ := read_fin k.format h1
    by_cases h2 : mag k.format b < k.format.infRung
    · obtain ⟨n, j, e2, l2, v2, -⟩ := read_fin k.format h2
      rw [e1, e2, order_number _ _ _ _ _ _ k.format.leastPlace l1 l2, v1, v2]
    · have e := read_inf k (b := b) (by omega)
      rw [e1, e]
      have hv : V k.format (mag k.format a) < V k.format (mag k.format b) := V_lt (by omega)
      cases hs : sgn k.format b
      · rw [cmp_lt (sV_lt_pos _ hv)]; rfl
      · rw [cmp_gt (sV_lt_neg _ hv)]; rfl
  · have e := read_inf k (b := a) (by omega)
    by_cases h2 : mag k.format b < k.format.infRung
    · obtain ⟨n, j, e2, l2, v2, -⟩ := read_fin k.format h2
      rw [e2, e]
      have hv : V k.format (mag k.format b) < V k.format (mag k.format a) := V_lt (by omega)
      cases hs : sgn k.format a
      · rw [cmp_gt (sV_lt_pos _ hv)]; rfl
      · rw [cmp_lt (sV_lt_neg _ hv)]; rfl
    · have e' := read_inf k (b := b) (by omega)
      rw [e, e']
      have hv : mag k.format a = mag k.format b := by omega
      have hp : 0 < V k.format (mag k.format b) := by
        have h0 : V k.format 0 = 0 := V_small (Nat.two_pow_pos _)
        have : V k.format 0 < V k.format (mag k.format b) := V_lt (by have := binade_le_inf (f := k.format) (by cases k <;> decide); have : 0 < k.format.binade := Nat.two_pow_pos _; omega)
        omega
      rw [hv]
      generalize V k.format (mag k.format b) = v at hp
      cases sgn k.format a <;> cases sgn k.format b
      · simp [Ieee.Datum.order]
      · rw [cmp_gt (by simp [sV]; omega)]; rfl
      · rw [cmp_lt (by simp [sV]; omega)]; rfl
      · simp [Ieee.Datum.order]

theorem order_nan_left {k : FloatKind} {a b : Nat} (h : (k.decode a).isNaN = true) : k.format.order a b = none := by
  show Ieee.Datum.order (k.decode a) _ = none
  generalize k.decode a = d at h
  cases d <;> first | cases h | skip
  rfl
theorem order_nan_right {k : FloatKind} {a b : Nat} (h : (k.decode b).isNaN = true) : k.format.order a b = none := by
  show Ieee.Datum.order _ (k.decode b) = none
  generalize k.decode b = d at h
  generalize k.format.read a = c
  cases d <;> first | cases h | skip
  cases c <;> rfl

theorem le_inf {k : FloatKind} {a : Nat} (h : (k.decode a).isNaN = false) : mag k.format a ≤ k.format.infRung := by
  rw [isNaN_iff] at h
  have := of_decide_eq_false h
  omega
theorem order_self {k : FloatKind} {a : Nat} (h : (k.decode a).isNaN = false) : k.format.order a a = some .eq := by
  rw [order_val k (le_inf h) (le_inf h)]
  simp

/-- A comparison, of what words mean. -/
def ford (k : FloatKind) (x y : Option Nat) : Option Ordering := x.bind fun a => y.bind fun b => k.format.order a b
theorem order_mean (k : FloatKind) (a b : Nat) : k.format.order a b = ford k (mean k a) (mean k b) := by
  unfold mean
  cases ha : (k.decode a).isNaN
  · cases hb : (k.decode b).isNaN
    · simp [ford]
    · simp [ford, order_nan_right hb]
  · simp [ford, order_nan_left ha]

/-- Whether a word is a finite number. -/
def finB (k : FloatKind) (a : Nat) : Bool := decide (mag k.format a < k.format.infRung)

theorem mag_word (f : Ieee.Format) (s : Bool) {r : Nat} (h : r ≤ f.infRung) : mag f (f.word s r) = r := word_mod f s (by have := f.infRung_lt; omega)
theorem sgn_word (f : Ieee.Format) (s : Bool) {r : Nat} (h : r ≤ f.infRung) : sgn f (f.word s r) = s := by
  have hlt := f.infRung_lt
  have hs : 0 < f.signWeight := by omega
  unfold sgn Ieee.Format.word
  cases s
  · simp only [Bool.false_eq_true, if_false]; rw [Nat.div_eq_of_lt (by omega)]; rfl
  · simp only [if_true]; rw [Nat.add_div_left _ hs, Nat.div_eq_of_lt (by omega)]; rfl
theorem word_sgn_mag (f : Ieee.Format) {b : Nat} (h : b < 2 * f.signWeight) : b = f.word (sgn f b) (mag f b) := by
  have hs : 0 < f.signWeight := Nat.two_pow_pos _
  unfold sgn mag Ieee.Format.word
  by_cases h1 : b < f.signWeight
  · rw [Nat.div_eq_of_lt h1, Nat.mod_eq_of_lt h1]; simp
  · have e : b % f.signWeight = b - f.signWeight := by rw [Nat.mod_eq_sub_mod (by omega), Nat.mod_eq_of_lt (by omega)]
    have e2 : b / f.signWeight = 1 := by
      rw [Nat.div_eq_sub_div hs (by omega), Nat.div_eq_of_lt (by omega)]
    rw [e, e2]; simp; omega

theorem mean_some_of_fin {k : FloatKind} {a : Nat} (h : mag k.format a ≤ k.format.infRung) : mean k a = some a := mean_of (by rw [isNaN_iff]; exact decide_eq_false (by omega))

/-- A number less itself is zero just where it is finite. -/
theorem fin_sub {k : FloatKind} {a r : Nat} (h : FRes .sub k a a r) : (k.format.order r 0 == some .eq) = finB k a := by
  have h := h.1
  by_cases hf : mag k.format a < k.format.infRung
  · obtain ⟨m, p, e, -, -, -⟩ := read_fin k.format hf
    rw [mean_some_of_fin (a := a) (by omega)] at h
    have hs : floatBits .sub k a a = some (k.format.word (sgn k.format a && !sgn k.format a) 0) := by
      show ((k.format.read a).sum (k.format.read a).opposite).map k.format.write = _
      rw [e]
      have : (Ieee.Datum.number (sgn k.format a) m p).sum (Ieee.Datum.number (sgn k.format a) m p).opposite = some (.number (sgn k.format a && !sgn k.format a) 0 p) := by
        simp only [Ieee.Datum.opposite, Ieee.Datum.sum, shiftLeft_signed]
        have : sV (sgn k.format a) (m * 2 ^ (p - min p p).toNat) + sV (!sgn k.format a) (m * 2 ^ (p - min p p).toNat) = 0 := by
          cases sgn k.format a <;> simp [sV] <;> omega
        rw [this]; simp
      rw [this]; rfl
    have h2 : mean k r = some (k.format.word (sgn k.format a && !sgn k.format a) 0) := by rw [h]; exact hs
    obtain ⟨rfl, hn⟩ := mean_some h2
    have e0 : mag k.format 0 = 0 := Nat.zero_mod _
    have ew := mag_word k.format (sgn k.format a && !sgn k.format a) (Nat.zero_le k.format.infRung)
    rw [order_val k (by rw [ew]; exact Nat.zero_le _) (by rw [e0]; exact Nat.zero_le _)]
    have v0 : ∀ s, sV s (V k.format 0) = 0 := by
      intro s; rw [V_small (Nat.two_pow_pos _)]; cases s <;> rfl
    unfold val
    rw [ew, e0, v0, v0, finB, decide_eq_true hf]; rfl
  · have hs : fop .sub k (mean k a) (mean k a) = none := by
      apply fop_none
      show ((k.format.read a).sum (k.format.read a).opposite).map k.format.write = _
      by_cases hi : mag k.format a = k.format.infRung
      · rw [read_inf k hi]
        cases sgn k.format a <;> rfl
      · have : (k.decode a).isNaN = true := by rw [isNaN_iff]; exact decide_eq_true (by omega)
        have e : k.format.read a = k.decode a := rfl
        rw [e]
        generalize k.decode a = d at this
        cases d <;> first | cases this | skip
        rfl
    have : (k.decode r).isNaN = true := by
      rw [hs] at h
      cases hh : (k.decode r).isNaN
      · rw [mean_of hh] at h; cases h
      · rfl
    rw [order_nan_left this, finB, decide_eq_false hf]; rfl

theorem repr (f : Ieee.Format) (m s : Nat) (h : m < 2 ^ (f.fractionBits + 1)) : ∃ r, V f r = m * 2 ^ s ∧ r < (s + 2) * f.binade := by
  have hb : f.binade = 2 ^ f.fractionBits := rfl
  have hbp : 0 < f.binade := Nat.two_pow_pos _
  rw [Nat.pow_succ, ← hb] at h
  induction s generalizing m with
  | zero =>
    refine ⟨m, ?_, by omega⟩
    unfold V
    by_cases h1 : m < f.binade
    · rw [if_pos h1]; simp
    · rw [if_neg h1]
      have e1 : m / f.binade = 1 := by rw [Nat.div_eq_sub_div hbp (by omega), Nat.div_eq_of_lt (by omega)]
      have e2 : m % f.binade = m - f.binade := by rw [Nat.mod_eq_sub_mod (by omega), Nat.mod_eq_of_lt (by omega)]
      rw [e1, e2]; simp; omega
  | succ s ih =>
    by_cases h1 : m < f.binade
    · obtain ⟨r, hv, hr⟩ := ih (m * 2) (by omega)
      refine ⟨r, by rw [hv, Nat.pow_succ', Nat.mul_assoc], Nat.lt_of_lt_of_le hr (Nat.mul_le_mul_right _ (by omega))⟩
    · refine ⟨(s + 2) * f.binade + (m - f.binade), ?_, ?_⟩
      · unfold V
        have hle : 1 * f.binade ≤ (s + 2) * f.binade := Nat.mul_le_mul_right _ (by omega)
        rw [if_neg (by omega)]
        have e1 : ((s + 2) * f.binade + (m - f.binade)) / f.binade = s + 2 := by
          rw [Nat.mul_comm, Nat.mul_add_div hbp, Nat.div_eq_of_lt (by omega)]
        have e2 : ((s + 2) * f.binade + (m - f.binade)) % f.binade = m - f.binade := by
          rw [Nat.mul_comm, Nat.mul_add_mod, Nat.mod_eq_of_lt (by omega)]
        rw [e1, e2]
        have : f.binade + (m - f.binade) = m := by omega
        rw [this]; congr 2
      · have : (s + 1 + 2) * f.binade = (s + 2) * f.binade + f.binade := by rw [show s + 1 + 2 = s + 2 + 1 from rfl, Nat.add_mul, Nat.one_mul]
        omega

/-- A 32-bit number that is no not-a-number, as a 64-bit one: of the same sign, and its magnitude is the same number. -/
theorem widen {a r : Nat} (hn : (FloatKind.f32.decode a).isNaN = false) (h : FConv .f32 .f64 a r) :
    ∃ q, r = Ieee.double.word (sgn Ieee.single a) q ∧ q ≤ Ieee.double.infRung ∧ (q = Ieee.double.infRung ↔ mag Ieee.single a = Ieee.single.infRung) ∧ (mag Ieee.single a < Ieee.single.infRung → V Ieee.double q = V Ieee.single (mag Ieee.single a) * 2 ^ 925) := by
  have h1 := h.1 (fits_wide a)
  rw [mean_of hn] at h1
  have h2 : mean .f64 r = some (FloatKind.f64.encode (FloatKind.f32.decode a)) := h1
  obtain ⟨rfl, -⟩ := mean_some h2
  have hle := le_inf hn
  have hle' : mag Ieee.single a ≤ Ieee.single.infRung := hle
  by_cases hi : mag Ieee.single a = Ieee.single.infRung
  · refine ⟨Ieee.double.infRung, ?_, Nat.le_refl _, by simp [hi], fun c => by omega⟩
    have : FloatKind.f32.decode a = .infinity (sgn Ieee.single a) := read_inf .f32 hi
    rw [this]; rfl
  · obtain ⟨m, p, e, lp, v, hm⟩ := read_fin Ieee.single (b := a) (by omega)
    have e' : FloatKind.f32.decode a = .number (sgn Ieee.single a) m p := e
    have hp := single_number e'
    have lp' : (-149 : Int) ≤ p := lp
    obtain ⟨q, hq, hqr⟩ := repr Ieee.double m (p + 1074).toNat (Nat.lt_of_lt_of_le hm (by decide))
    have hqlt : q < Ieee.double.infRung := by
      by_cases h0 : m = 0
      · subst h0
        have : V Ieee.double q = V Ieee.double 0 := by rw [hq]; rw [V_small (Nat.two_pow_pos _)]; simp
        rw [V_inj this]; decide
      · have := hp h0
        have hx : (p + 1074).toNat + 2 ≤ 1203 := by omega
        have := Nat.mul_le_mul_right Ieee.double.binade hx
        have : 1203 * Ieee.double.binade < Ieee.double.infRung := by decide
        omega
    have hrnd : rnd Ieee.double m p = q := by
      have lq : Ieee.double.leastPlace ≤ p := by show (-1074 : Int) ≤ p; omega
      rw [rnd_at Ieee.double m lq]
      have : (p - Ieee.double.leastPlace).toNat = (p + 1074).toNat := by show (p - (-1074)).toNat = _; congr 1
      rw [this, ← hq, rnd_V]
    refine ⟨q, ?_, by omega, ⟨fun c => by omega, fun c => by omega⟩, fun _ => ?_⟩
    · rw [e']
      show Ieee.double.nearest _ m p = _
      rw [nearest_rnd, hrnd, Nat.min_eq_left (by omega)]
    · have ee : (p + 1074).toNat = (p - Ieee.single.leastPlace).toNat + 925 := by
        show (p + 1074).toNat = (p - (-149)).toNat + 925
        omega
      rw [hq, ee, Nat.pow_add, ← Nat.mul_assoc, v]

/-- A finite 32-bit number is at most 2 to the power of 128 as a 64-bit one. -/
theorem wide_bd {a r : Nat} (hf : mag Ieee.single a < Ieee.single.infRung) (h : FConv .f32 .f64 a r) : Bd .f64 128 r := by
  have h1 := h.1 (fits_wide a)
  rw [mean_some_of_fin (k := .f32) (Nat.le_of_lt hf)] at h1
  have h2 : mean .f64 r = some (FloatKind.f64.encode (FloatKind.f32.decode a)) := h1
  obtain ⟨rfl, -⟩ := mean_some h2
  obtain ⟨m, p, e, -, -, -⟩ := read_fin Ieee.single hf
  have e' : FloatKind.f32.decode a = .number (sgn Ieee.single a) m p := e
  rw [e']
  exact Bd.of_nearest (fun h0 => by have := single_number e' h0; omega) (by decide) (by decide)

theorem rootFrom_lt (n : Nat) : ∀ todo root, Ieee.Datum.rootFrom n todo root < root + 2 ^ todo := by
  intro todo
  induction todo with
  | zero => intro root; simp [Ieee.Datum.rootFrom]
  | succ k ih =>
    intro root
    unfold Ieee.Datum.rootFrom
    dsimp only
    split
    · have := ih (root + 1 <<< k)
      rw [Nat.shiftLeft_eq, Nat.one_mul] at this ⊢
      rw [Nat.pow_succ]; omega
    · have := ih root
      rw [Nat.pow_succ]
      have : 0 < 2 ^ k := Nat.two_pow_pos _
      omega

/-- The root of a number of at most 2 to the power of 128 fits the 32-bit ones. -/
theorem sqrt_fits {x y : Nat} (hx : Bd .f64 128 x) (h : FSqrt x y) : fits .f64 .f32 y = true := by
  obtain ⟨s, m, p, e, hm, lp, hlt⟩ := hx.read (by decide) (by decide)
  have h1 := h.1
  have hn : (FloatKind.f64.decode x).isNaN = false := by rw [e]; rfl
  rw [mean_of hn] at h1
  have h2 : mean .f64 y = ((FloatKind.f64.decode x).root 54).map FloatKind.f64.format.write := h1
  rw [e] at h2
  simp only [Ieee.Datum.root] at h2
  by_cases h0 : m = 0
  · rw [if_pos h0] at h2
    obtain ⟨rfl, -⟩ := mean_some h2
    apply fits_of_bd
    exact Bd.of_nearest (fun c => absurd h0 c) (by decide) (by decide)
  · rw [if_neg h0] at h2
    cases s
    · have hm := hm h0
      simp only [Bool.false_eq_true, if_false] at h2
      obtain ⟨rfl, -⟩ := mean_some h2
      apply fits_of_bd
      have hl : m.log2 < 53 := (Nat.log2_lt h0).2 hlt
      generalize hmore : 2 * 54 - m.log2 + ((p - ((2 * 54 - m.log2 : Nat) : Int)) % 2).toNat = more
      generalize hn' : m <<< more = n'
      have hlog : n'.log2 ≤ 109 := by
        apply log2_le_of
        rw [← hn', Nat.shiftLeft_eq]
        have hm1 : m < 2 ^ (m.log2 + 1) := Nat.lt_log2_self
        have := Nat.mul_lt_mul_of_pos_right hm1 (Nat.two_pow_pos more)
        rw [← Nat.pow_add] at this
        exact Nat.lt_of_lt_of_le this (Nat.pow_le_pow_right (by decide) (by omega))
      have hw := rootFrom_lt n' (n'.log2 / 2 + 1) 0
      generalize Ieee.Datum.rootFrom n' (n'.log2 / 2 + 1) 0 = whole at hw ⊢
      have hw2 : whole < 2 ^ 55 := by
        have : 2 ^ (n'.log2 / 2 + 1) ≤ 2 ^ 55 := Nat.pow_le_pow_right (by decide) (by omega)
        omega
      refine Bd.of_nearest (fun _ => ?_) (by decide) (by decide)
      have hb : ∀ b : Bool, b.toNat ≤ 1 := by intro b; cases b <;> decide
      have hb1 := hb (whole * whole != n')
      have : (2 * whole + (whole * whole != n').toNat).log2 ≤ 56 := log2_le_of (by rw [show (2 : Nat) ^ (56 + 1) = 2 * 2 ^ 56 from by rw [Nat.pow_succ, Nat.mul_comm], show (2 : Nat) ^ 56 = 2 * 2 ^ 55 from by rw [Nat.pow_succ, Nat.mul_comm]]; omega)
      omega
    · have h3 : mean .f64 y = none := h2
      rcases hd : FloatKind.f64.decode y with ⟨s', m', p'⟩ | s' | ⟨s', t'⟩
      · rw [mean_of (by rw [hd]; rfl)] at h3; cases h3
      · rw [mean_of (by rw [hd]; rfl)] at h3; cases h3
      · unfold fits; rw [hd]; simp

/-- What means nothing fits. -/
theorem fits_nan {s k : FloatKind} {a : Nat} (h : (s.decode a).isNaN = true) : fits s k a = true := by
  unfold fits
  generalize s.decode a = d at h
  cases d <;> first | cases h | skip
  simp
theorem fits_inf {s k : FloatKind} {a : Nat} (h : mag s.format a = s.format.infRung) : fits s k a = true := by
  unfold fits
  have : s.decode a = .infinity (sgn s.format a) := read_inf s h
  rw [this]; simp

/-- Conversions of words that mean the same mean the same. -/
theorem conv_same {s k : FloatKind} {a b r q : Nat} (h : mean s a = mean s b) (hr : FConv s k a r) (hq : FConv s k b q) (fa : fits s k a = true) (fb : fits s k b = true) : mean k r = mean k q := by
  rw [hr.1 fa, hq.1 fb, h]

end Go.Proofs.YtogliigpoojfoaaDoor.Fl
