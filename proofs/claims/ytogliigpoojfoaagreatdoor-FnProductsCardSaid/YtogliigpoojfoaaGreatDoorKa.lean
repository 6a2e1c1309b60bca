/-
  Several texts of this claim in one.
  Bounds for what words mean, operation by operation, in 64 bits; sums as whole numbers of the least unit.
  Sums of floating point, as whole numbers of the least unit; numbers cut towards zero.
  The sine, as a plain function of what words mean; its bound.
  The angle, as a plain function of what words mean; its bound.
-/
import Derived.Test.YtogliigpoojfoaaGreatDoorK2
section
namespace Go.Proofs.YtogliigpoojfoaaGreatDoor.Fl
set_option maxRecDepth 100000
open Go

/-- It means a number whose absolute value is at most 2 to the power of e. -/
def MB (e : Int) (x : Option Nat) : Prop := ∃ b, x = some b ∧ Bd .f64 e b
/-- It means a finite number whose absolute value is at least 2 to the power of e. -/
def LB (e : Int) (x : Option Nat) : Prop := ∃ b, x = some b ∧ top Ieee.double e ≤ mag Ieee.double b ∧ mag Ieee.double b < Ieee.double.infRung

theorem MB.mono {e e' : Int} {x : Option Nat} (h : MB e x) (he : e ≤ e') : MB e' x := by
  obtain ⟨b, rfl, hb⟩ := h; exact ⟨b, rfl, hb.mono he⟩
theorem MB.fits {x : Nat} (h : MB 126 (mean .f64 x)) : fits .f64 .f32 x = true := by
  obtain ⟨b, hm, hb⟩ := h
  obtain ⟨rfl, -⟩ := mean_some hm
  exact fits_of_bd hb

theorem top_double_lt {e : Int} (h : e ≤ 1000) : top Ieee.double e < Ieee.double.infRung := by
  unfold top
  have e1 : Ieee.double.binade = 4503599627370496 := rfl
  have e2 : Ieee.double.infRung = 2047 * 4503599627370496 := rfl
  have e3 : ((Ieee.double.fractionBits : Nat) : Int) = 52 := rfl
  have e4 : Ieee.double.leastPlace = -1074 := rfl
  rw [e1, e2, e3, e4]
  exact Nat.mul_lt_mul_of_pos_right (by omega) (by decide)

theorem Bd.read64 {e : Int} {b : Nat} (h : Bd .f64 e b) (h0 : -1000 ≤ e) (h1 : e ≤ 1000) :
    ∃ s m p, Ieee.double.read b = .number s m p ∧ (m ≠ 0 → p + m.log2 ≤ e) ∧ (-1074 : Int) ≤ p ∧ m < 2 ^ 53 ∧ s = sgn Ieee.double b ∧ m * 2 ^ (p + 1074).toNat = V Ieee.double (mag Ieee.double b) := by
  have hlt := top_double_lt h1
  have hm : mag Ieee.double b ≤ top Ieee.double e := h
  obtain ⟨s, m, p, e1, e2, e3, e4⟩ := Bd.read h (by show (-1074 : Int) + 52 ≤ e; omega) hlt
  obtain ⟨m', p', f1, f2, f3, f4⟩ := read_fin Ieee.double (b := b) (by omega)
  have e1' : Ieee.double.read b = .number s m p := e1
  have hh := f1
  rw [e1'] at hh
  cases hh
  refine ⟨_, _, _, e1', e2, e3, e4, rfl, ?_⟩
  rw [← f3]; congr 2

theorem bd_encode {neg : Bool} {m : Nat} {p e : Int} (hm : m ≠ 0 → p + m.log2 < e) (h0 : -1000 ≤ e) (h1 : e ≤ 1000) : Bd .f64 e (Ieee.double.write (.number neg m p)) :=
  Bd.of_nearest (k := .f64) hm (by show (-1074 : Int) + 52 + 1 ≤ e; omega) (top_double_lt h1)

theorem log2_mul_le (m n : Nat) : (m * n).log2 ≤ m.log2 + n.log2 + 1 := by
  apply log2_le_of
  have h1 : m < 2 ^ (m.log2 + 1) := Nat.lt_log2_self
  have h2 : n < 2 ^ (n.log2 + 1) := Nat.lt_log2_self
  have h3 : m * n < 2 ^ (m.log2 + 1) * 2 ^ (n.log2 + 1) := Nat.mul_lt_mul'' h1 h2
  rw [← Nat.pow_add] at h3
  have e : m.log2 + 1 + (n.log2 + 1) = m.log2 + n.log2 + 1 + 1 := by omega
  rwa [e] at h3

theorem MB.mul {e1 e2 : Int} {x y : Option Nat} (hx : MB e1 x) (hy : MB e2 y) (h1 : -400 ≤ e1) (h2 : e1 ≤ 400) (h3 : -400 ≤ e2) (h4 : e2 ≤ 400) : MB (e1 + e2 + 2) (fop .mul .f64 x y) := by
  obtain ⟨a, rfl, ha⟩ := hx
  obtain ⟨b, rfl, hb⟩ := hy
  obtain ⟨s, m, p, r1, l1, -, -, -, -⟩ := ha.read64 (by omega) (by omega)
  obtain ⟨t, n, q, r2, l2, -, -, -, -⟩ := hb.read64 (by omega) (by omega)
  refine ⟨Ieee.double.write (.number (s ^^ t) (m * n) (p + q)), ?_, ?_⟩
  · show ((Ieee.double.read a).product (Ieee.double.read b)).map Ieee.double.write = _
    rw [r1, r2]; rfl
  · apply bd_encode _ (by omega) (by omega)
    intro h0
    have hm : m ≠ 0 := fun c => h0 (by rw [c, Nat.zero_mul])
    have hn : n ≠ 0 := fun c => h0 (by rw [c, Nat.mul_zero])
    have := log2_mul_le m n
    have := l1 hm
    have := l2 hn
    omega

theorem log2_le_log2 {m n : Nat} (h : m ≤ n) : m.log2 ≤ n.log2 := by
  apply log2_le_of
  exact Nat.lt_of_le_of_lt h Nat.lt_log2_self

theorem abs_signed (s : Bool) (m u : Nat) : (Ieee.signed s m u).natAbs = m * 2 ^ u := by
  rw [shiftLeft_signed]
  unfold sV
  split <;> omega

theorem sum_bd {e1 e2 : Int} {m n : Nat} {p q : Int} {s t : Bool} (l1 : m ≠ 0 → p + m.log2 ≤ e1) (l2 : n ≠ 0 → q + n.log2 ≤ e2) :
    (Ieee.signed s m (p - min p q).toNat + Ieee.signed t n (q - min p q).toNat).natAbs ≠ 0 →
      min p q + ((Ieee.signed s m (p - min p q).toNat + Ieee.signed t n (q - min p q).toNat).natAbs.log2 : Nat) < max e1 e2 + 2 := by
  intro h0
  have hle : (Ieee.signed s m (p - min p q).toNat + Ieee.signed t n (q - min p q).toNat).natAbs ≤ m * 2 ^ (p - min p q).toNat + n * 2 ^ (q - min p q).toNat := by
    have := Int.natAbs_add_le (Ieee.signed s m (p - min p q).toNat) (Ieee.signed t n (q - min p q).toNat)
    rwa [abs_signed, abs_signed] at this
  generalize (Ieee.signed s m (p - min p q).toNat + Ieee.signed t n (q - min p q).toNat).natAbs = N at *
  have key : ∀ (m : Nat) (p base e : Int), base ≤ p → (m ≠ 0 → p + m.log2 ≤ e) → base ≤ e + 1 → m * 2 ^ (p - base).toNat ≤ 2 ^ (e + 1 - base).toNat := by
    intro m p base e hb hl hbe
    by_cases h : m = 0
    · subst h; simp
    · have := hl h
      have h1 : m < 2 ^ (m.log2 + 1) := Nat.lt_log2_self
      have := Nat.mul_le_mul_right (2 ^ (p - base).toNat) (Nat.le_of_lt h1)
      refine Nat.le_trans this ?_
      rw [← Nat.pow_add]
      exact Nat.pow_le_pow_right (by decide) (by omega)
  have hb : min p q ≤ max e1 e2 + 1 := by
    by_cases hm : m = 0
    · by_cases hn : n = 0
      · subst hm; subst hn; simp at hle; omega
      · have := l2 hn; omega
    · have := l1 hm; omega
  have k1 := key m p (min p q) (max e1 e2) (by omega) (fun h => by have := l1 h; omega) hb
  have k2 := key n q (min p q) (max e1 e2) (by omega) (fun h => by have := l2 h; omega) hb
  have hN : N < 2 ^ ((max e1 e2 + 1 - min p q).toNat + 1 + 1) := by
    have : 0 < 2 ^ (max e1 e2 + 1 - min p q).toNat := Nat.two_pow_pos _
    rw [Nat.pow_succ, Nat.pow_succ]; omega
  have hN2 : N ≤ 2 ^ ((max e1 e2 + 1 - min p q).toNat + 1) := by rw [Nat.pow_succ]; omega
  by_cases c : N = 2 ^ ((max e1 e2 + 1 - min p q).toNat + 1)
  · -- both are powers of two: then the sum is of at most this size
    have : N.log2 = (max e1 e2 + 1 - min p q).toNat + 1 := by rw [c, Nat.log2_two_pow]
    have hlt : m * 2 ^ (p - min p q).toNat + n * 2 ^ (q - min p q).toNat < 2 ^ ((max e1 e2 + 1 - min p q).toNat + 1) ∨ m * 2 ^ (p - min p q).toNat = 2 ^ (max e1 e2 + 1 - min p q).toNat := by
      rw [Nat.pow_succ]; omega
    exfalso
    rcases hlt with hlt | heq
    · omega
    · by_cases hm : m = 0
      · subst hm
        have : 0 < 2 ^ (max e1 e2 + 1 - min p q).toNat := Nat.two_pow_pos _
        omega
      · have hl := l1 hm
        have h1 : m < 2 ^ (m.log2 + 1) := Nat.lt_log2_self
        have h2 := Nat.mul_lt_mul_of_pos_right h1 (Nat.two_pow_pos (p - min p q).toNat)
        rw [← Nat.pow_add, heq] at h2
        have := (Nat.pow_lt_pow_iff_right (a := 2) (by decide)).1 h2
        omega
  · have : N.log2 < (max e1 e2 + 1 - min p q).toNat + 1 := (Nat.log2_lt h0).2 (by omega)
    omega

theorem MB.add {e1 e2 : Int} {x y : Option Nat} (hx : MB e1 x) (hy : MB e2 y) (h1 : -400 ≤ e1) (h2 : e1 ≤ 400) (h3 : -400 ≤ e2) (h4 : e2 ≤ 400) : MB (max e1 e2 + 2) (fop .add .f64 x y) := by
  obtain ⟨a, rfl, ha⟩ := hx
  obtain ⟨b, rfl, hb⟩ := hy
  obtain ⟨s, m, p, r1, l1, -, -, -, -⟩ := ha.read64 (by omega) (by omega)
  obtain ⟨t, n, q, r2, l2, -, -, -, -⟩ := hb.read64 (by omega) (by omega)
  refine ⟨_, ?_, bd_encode (neg := if Ieee.signed s m (p - min p q).toNat + Ieee.signed t n (q - min p q).toNat = 0 then s && t else decide (Ieee.signed s m (p - min p q).toNat + Ieee.signed t n (q - min p q).toNat < 0)) (sum_bd (s := s) (t := t) l1 l2) (by omega) (by omega)⟩
  show ((Ieee.double.read a).sum (Ieee.double.read b)).map Ieee.double.write = _
  rw [r1, r2]; rfl
theorem MB.sub {e1 e2 : Int} {x y : Option Nat} (hx : MB e1 x) (hy : MB e2 y) (h1 : -400 ≤ e1) (h2 : e1 ≤ 400) (h3 : -400 ≤ e2) (h4 : e2 ≤ 400) : MB (max e1 e2 + 2) (fop .sub .f64 x y) := by
  obtain ⟨a, rfl, ha⟩ := hx
  obtain ⟨b, rfl, hb⟩ := hy
  obtain ⟨s, m, p, r1, l1, -, -, -, -⟩ := ha.read64 (by omega) (by omega)
  obtain ⟨t, n, q, r2, l2, -, -, -, -⟩ := hb.read64 (by omega) (by omega)
  refine ⟨_, ?_, bd_encode (neg := if Ieee.signed s m (p - min p q).toNat + Ieee.signed (!t) n (q - min p q).toNat = 0 then s && !t else decide (Ieee.signed s m (p - min p q).toNat + Ieee.signed (!t) n (q - min p q).toNat < 0)) (sum_bd (s := s) (t := !t) l1 l2) (by omega) (by omega)⟩
  show ((Ieee.double.read a).sum (Ieee.double.read b).opposite).map Ieee.double.write = _
  rw [r1, r2]; rfl

theorem LB.read {e : Int} {b : Nat} (h0 : -1000 ≤ e) (h : top Ieee.double e ≤ mag Ieee.double b) (hf : mag Ieee.double b < Ieee.double.infRung) :
    ∃ s m p, Ieee.double.read b = .number s m p ∧ m ≠ 0 ∧ e ≤ p + m.log2 ∧ (-1074 : Int) ≤ p := by
  have hbp : 0 < Ieee.double.binade := by decide
  have hge : Ieee.double.binade ≤ mag Ieee.double b := by
    refine Nat.le_trans ?_ h
    unfold top
    have e3 : ((Ieee.double.fractionBits : Nat) : Int) = 52 := rfl
    have e4 : Ieee.double.leastPlace = -1074 := rfl
    rw [e3, e4]
    exact Nat.le_mul_of_pos_left _ (by omega)
  have e1 := read_eq Ieee.double b
  rw [if_neg (by omega), if_pos hf] at e1
  refine ⟨_, _, _, e1, by omega, ?_, by show (-1074 : Int) ≤ -1074 + _; omega⟩
  have hb : Ieee.double.binade = 2 ^ 52 := rfl
  have hl : 52 ≤ (Ieee.double.binade + mag Ieee.double b % Ieee.double.binade).log2 := by
    apply (Nat.le_log2 (by omega)).2
    rw [← hb]; omega
  have hd : (e + 1 - 52 + 1074).toNat ≤ mag Ieee.double b / Ieee.double.binade := by
    rw [Nat.le_div_iff_mul_le hbp]; exact h
  have e4 : Ieee.double.leastPlace = -1074 := rfl
  rw [e4]
  omega

theorem MB.div {e1 e2 : Int} {x y : Option Nat} (hx : MB e1 x) (hy : LB e2 y) (h1 : -400 ≤ e1) (h2 : e1 ≤ 400) (h3 : -400 ≤ e2) (h4 : e2 ≤ 400) : MB (e1 - e2 + 3) (fop .quo .f64 x y) := by
  obtain ⟨a, rfl, ha⟩ := hx
  obtain ⟨b, rfl, hb, hbf⟩ := hy
  obtain ⟨s, m, p, r1, l1, lp, hm53, -, -⟩ := ha.read64 (by omega) (by omega)
  obtain ⟨t, n, q, r2, n0, l2, -⟩ := LB.read (by omega) hb hbf
  have hq : (Ieee.Datum.number s m p).quotient 54 (.number t n q) = some (.number (s ^^ t) (2 * ((m <<< (54 + n.log2 - m.log2)) / n) + ((m <<< (54 + n.log2 - m.log2)) % n != 0).toNat) (p - q - (54 + n.log2 - m.log2 : Nat) - 1)) := by
    simp only [Ieee.Datum.quotient]
    rw [if_neg n0]
  refine ⟨_, ?_, bd_encode (neg := s ^^ t) (m := 2 * ((m <<< (54 + n.log2 - m.log2)) / n) + ((m <<< (54 + n.log2 - m.log2)) % n != 0).toNat) (p := p - q - (54 + n.log2 - m.log2 : Nat) - 1) ?_ (by omega) (by omega)⟩
  · show ((Ieee.double.read a).quotient (52 + 2) (Ieee.double.read b)).map Ieee.double.write = _
    rw [r1, r2]
    show ((Ieee.Datum.number s m p).quotient 54 (.number t n q)).map Ieee.double.write = _
    rw [hq]; rfl
  · intro h0
    by_cases hm : m = 0
    · subst hm; simp [Nat.shiftLeft_eq] at h0
    · have hl1 := l1 hm
      have hml : m.log2 < 53 := (Nat.log2_lt hm).2 hm53
      generalize hmore : 54 + n.log2 - m.log2 = more at *
      have hd : m <<< more < 2 ^ (m.log2 + 1 + more) := by
        rw [Nat.shiftLeft_eq, Nat.pow_add]
        exact Nat.mul_lt_mul_of_pos_right Nat.lt_log2_self (Nat.two_pow_pos _)
      have hn : 2 ^ n.log2 ≤ n := Nat.log2_self_le n0
      have hdiv : (m <<< more) / n < 2 ^ (m.log2 + 1 + more - n.log2) := by
        rw [Nat.div_lt_iff_lt_mul (by omega)]
        refine Nat.lt_of_lt_of_le hd ?_
        have : 2 ^ (m.log2 + 1 + more) = 2 ^ (m.log2 + 1 + more - n.log2) * 2 ^ n.log2 := by
          rw [← Nat.pow_add]; congr 1; omega
        rw [this]
        exact Nat.mul_le_mul_left _ hn
      have hb : ∀ b : Bool, b.toNat ≤ 1 := by intro b; cases b <;> decide
      have hb1 := hb ((m <<< more) % n != 0)
      have hlog : (2 * ((m <<< more) / n) + ((m <<< more) % n != 0).toNat).log2 ≤ m.log2 + 1 + more - n.log2 := by
        apply log2_le_of
        rw [Nat.pow_succ]; omega
      omega

end Go.Proofs.YtogliigpoojfoaaGreatDoor.Fl
end

section
namespace Go.Proofs.YtogliigpoojfoaaGreatDoor.Fl
set_option maxRecDepth 100000
open Go

/-- A 64-bit word is finite. -/
def Fin64 (a : Nat) : Prop := mag Ieee.double a < Ieee.double.infRung
/-- The word of a rounded whole number of least units. -/
def rnd64 (N : Nat) : Nat := min (rnd Ieee.double N Ieee.double.leastPlace) Ieee.double.infRung

theorem sV_mul (s : Bool) (m k : Nat) : sV s (m * k) = sV s m * (k : Int) := by
  cases s
  · simp [sV]
  · simp [sV, Int.neg_mul]

/-- The exact sum of two finite words. -/
theorem sum_val {a b : Nat} (ha : Fin64 a) (t : Bool) (hbt : ∃ m p, (if t then (Ieee.double.read b).opposite else Ieee.double.read b) = .number (sgn Ieee.double b ^^ t) m p ∧ Ieee.double.leastPlace ≤ p ∧ m * 2 ^ (p - Ieee.double.leastPlace).toNat = V Ieee.double (mag Ieee.double b)) :
    ∃ sg, ((Ieee.double.read a).sum (if t then (Ieee.double.read b).opposite else Ieee.double.read b)).map Ieee.double.write = some (Ieee.double.word sg (rnd64 (val Ieee.double a + sV (sgn Ieee.double b ^^ t) (V Ieee.double (mag Ieee.double b))).natAbs)) ∧
      (val Ieee.double a + sV (sgn Ieee.double b ^^ t) (V Ieee.double (mag Ieee.double b)) ≠ 0 → sg = decide (val Ieee.double a + sV (sgn Ieee.double b ^^ t) (V Ieee.double (mag Ieee.double b)) < 0)) := by
  obtain ⟨m, p, e1, l1, v1, -⟩ := read_fin Ieee.double ha
  obtain ⟨n, q, e2, l2, v2⟩ := hbt
  generalize (sgn Ieee.double b ^^ t) = u at *
  unfold val
  rw [e1, e2]
  simp only [Ieee.Datum.sum, shiftLeft_signed]
  generalize hb : min p q = base
  have k1 : m * 2 ^ (p - Ieee.double.leastPlace).toNat = m * 2 ^ (p - base).toNat * 2 ^ (base - Ieee.double.leastPlace).toNat := by
    rw [Nat.mul_assoc, ← Nat.pow_add]; congr 2; omega
  have k2 : n * 2 ^ (q - Ieee.double.leastPlace).toNat = n * 2 ^ (q - base).toNat * 2 ^ (base - Ieee.double.leastPlace).toNat := by
    rw [Nat.mul_assoc, ← Nat.pow_add]; congr 2; omega
  rw [← v1, ← v2, k1, k2, sV_mul _ (m * 2 ^ (p - base).toNat), sV_mul _ (n * 2 ^ (q - base).toNat), ← Int.add_mul]
  generalize sV (sgn Ieee.double a) (m * 2 ^ (p - base).toNat) + sV u (n * 2 ^ (q - base).toNat) = T
  have hK : 0 < 2 ^ (base - Ieee.double.leastPlace).toNat := Nat.two_pow_pos _
  have habs : (T * ((2 ^ (base - Ieee.double.leastPlace).toNat : Nat) : Int)).natAbs = T.natAbs * 2 ^ (base - Ieee.double.leastPlace).toNat := by rw [Int.natAbs_mul, Int.natAbs_natCast]
  have hr : rnd Ieee.double T.natAbs base = rnd Ieee.double (T.natAbs * 2 ^ (base - Ieee.double.leastPlace).toNat) Ieee.double.leastPlace := rnd_at Ieee.double _ (by omega)
  refine ⟨if T = 0 then sgn Ieee.double a && u else decide (T < 0), ?_, fun h0 => ?_⟩
  · show some (Ieee.double.nearest _ T.natAbs base) = _
    rw [nearest_rnd, hr]
    unfold rnd64
    rw [habs]
  · generalize ((2 ^ (base - Ieee.double.leastPlace).toNat : Nat)) = K at *
    have hK' : (0 : Int) < (K : Int) := by omega
    have hT : T ≠ 0 := fun c => h0 (by rw [c, Int.zero_mul])
    rw [if_neg hT]
    apply decide_eq_decide.2
    constructor
    · intro h; exact Int.mul_neg_of_neg_of_pos h hK'
    · intro h
      by_cases c : T < 0
      · exact c
      · have := Int.mul_nonneg (show 0 ≤ T by omega) (Int.le_of_lt hK'); omega

theorem add_val {a b : Nat} (ha : Fin64 a) (hb : Fin64 b) :
    ∃ sg, fop .add .f64 (some a) (some b) = some (Ieee.double.word sg (rnd64 (val Ieee.double a + val Ieee.double b).natAbs)) ∧ (val Ieee.double a + val Ieee.double b ≠ 0 → sg = decide (val Ieee.double a + val Ieee.double b < 0)) := by
  obtain ⟨m, p, e1, l1, v1, -⟩ := read_fin Ieee.double hb
  have := sum_val ha false ⟨m, p, by rw [e1]; simp, l1, v1⟩
  rw [Bool.xor_false] at this
  exact this
theorem sub_val {a b : Nat} (ha : Fin64 a) (hb : Fin64 b) :
    ∃ sg, fop .sub .f64 (some a) (some b) = some (Ieee.double.word sg (rnd64 (val Ieee.double a - val Ieee.double b).natAbs)) ∧ (val Ieee.double a - val Ieee.double b ≠ 0 → sg = decide (val Ieee.double a - val Ieee.double b < 0)) := by
  obtain ⟨m, p, e1, l1, v1, -⟩ := read_fin Ieee.double hb
  have := sum_val ha true ⟨m, p, by rw [e1]; simp [Ieee.Datum.opposite], l1, v1⟩
  have e : sV (sgn Ieee.double b ^^ true) (V Ieee.double (mag Ieee.double b)) = - val Ieee.double b := by
    unfold val; cases sgn Ieee.double b <;> simp [sV]
  rw [e, ← Int.sub_eq_add_neg] at this
  exact this

theorem rnd64_mono {N M : Nat} (h : N ≤ M) : rnd64 N ≤ rnd64 M := by
  unfold rnd64
  have := rnd_mono Ieee.double h
  omega
theorem rnd64_V {r : Nat} (h : r ≤ Ieee.double.infRung) : rnd64 (V Ieee.double r) = r := by
  unfold rnd64
  rw [rnd_V, Nat.min_eq_left h]
theorem rnd64_le {N r : Nat} (h : N ≤ V Ieee.double r) (hr : r ≤ Ieee.double.infRung) : rnd64 N ≤ r := by
  have := rnd64_mono h
  rwa [rnd64_V hr] at this
theorem le_rnd64 {N r : Nat} (h : V Ieee.double r ≤ N) (hr : r ≤ Ieee.double.infRung) : r ≤ rnd64 N := by
  have := rnd64_mono h
  rwa [rnd64_V hr] at this
theorem rnd64_inf (N : Nat) : rnd64 N ≤ Ieee.double.infRung := Nat.min_le_right ..

/-! ### Numbers cut towards zero -/

/-- The whole part of a finite word's magnitude. -/
def wholeC (a : Nat) : Nat := V Ieee.double (mag Ieee.double a) / 2 ^ 1074
/-- The whole part. -/
def wholeZ (a : Nat) : Int := sV (sgn Ieee.double a) (wholeC a)
/-- Its word. -/
def wholeN (a : Nat) : Nat := FloatKind.f64.nearest (wholeZ a)
def truncN (a : Nat) : Nat := FloatKind.f64.encode ((FloatKind.f64.decode a).integral .zero)

theorem cut_zero_way (neg : Bool) (n d : Nat) : Ieee.Toward.zero.cut neg n d = n / 2 ^ d := by
  unfold Ieee.Toward.cut
  simp only [Nat.shiftLeft_eq, Nat.one_mul, Bool.toNat_false, Nat.add_zero]
  by_cases h : d ≤ n.log2 + 2
  · rw [Nat.min_eq_left h]
  · rw [Nat.min_eq_right (by omega)]
    have h1 : n < 2 ^ (n.log2 + 1) := Nat.lt_log2_self
    rw [Nat.div_eq_of_lt (Nat.lt_of_lt_of_le h1 (Nat.pow_le_pow_right (by decide) (by omega))), Nat.div_eq_of_lt (Nat.lt_of_lt_of_le h1 (Nat.pow_le_pow_right (by decide) (by omega)))]

theorem integral_fin {a : Nat} (h : Fin64 a) : (FloatKind.f64.decode a).integral .zero = .number (sgn Ieee.double a) (wholeC a) 0 := by
  obtain ⟨m, p, e1, l1, v1, -⟩ := read_fin Ieee.double h
  have e2 : FloatKind.f64.decode a = .number (sgn Ieee.double a) m p := e1
  have l2 : (-1074 : Int) ≤ p := l1
  rw [e2]
  show Ieee.Datum.number _ (Ieee.Toward.zero.cut _ (m <<< p.toNat) (-p).toNat) 0 = _
  rw [cut_zero_way, Nat.shiftLeft_eq]
  congr 1
  unfold wholeC
  rw [← v1]
  have e3 : (p - Ieee.double.leastPlace).toNat = (p + 1074).toNat := by show (p - (-1074)).toNat = _; congr 1
  rw [e3]
  by_cases hp : 0 ≤ p
  · have e4 : (p + 1074).toNat = p.toNat + 1074 := by omega
    have e5 : (-p).toNat = 0 := by omega
    rw [e4, e5, Nat.pow_add, ← Nat.mul_assoc, Nat.mul_div_cancel _ (Nat.two_pow_pos 1074), Nat.pow_zero, Nat.div_one]
  · have e4 : (1074 : Nat) = (-p).toNat + (p + 1074).toNat := by omega
    have e5 : p.toNat = 0 := by omega
    rw [e5, Nat.pow_zero, Nat.mul_one]
    generalize (p + 1074).toNat = x at *
    generalize (-p).toNat = y at *
    rw [e4, Nat.pow_add, Nat.mul_div_mul_right _ _ (Nat.two_pow_pos x)]

theorem toInt_fin {a : Nat} (h : Fin64 a) : (FloatKind.f64.decode a).toInt .zero = some (wholeZ a) := by
  unfold Ieee.Datum.toInt
  rw [integral_fin h]
  simp [shiftLeft_signed, wholeZ]

theorem trunc_whole {a : Nat} (h : Fin64 a) (h0 : wholeC a ≠ 0) : truncN a = wholeN a := by
  unfold truncN wholeN FloatKind.nearest wholeZ
  rw [integral_fin h]
  congr 2
  · cases sgn Ieee.double a <;> simp [sV] <;> omega
  · cases sgn Ieee.double a <;> simp [sV]
theorem trunc_zero {a : Nat} (h : Fin64 a) (h0 : wholeC a = 0) : truncN a = Ieee.double.word (sgn Ieee.double a) 0 := by
  unfold truncN
  rw [integral_fin h, h0]; rfl

/-! ### Ranges -/

theorem val_word (s : Bool) {q : Nat} (h : q ≤ Ieee.double.infRung) : val Ieee.double (Ieee.double.word s q) = sV s (V Ieee.double q) := by
  unfold val
  rw [sgn_word _ _ h, mag_word _ _ h]
theorem V_zero : V Ieee.double 0 = 0 := by decide
/-- A sum from 0 to the value of r is rounded to a number from 0 to it. -/
theorem range_word {sg : Bool} {S : Int} {r : Nat} (hr : r < Ieee.double.infRung) (hs : S ≠ 0 → sg = decide (S < 0)) (h0 : 0 ≤ S) (h1 : S ≤ (V Ieee.double r : Int)) :
    Fin64 (Ieee.double.word sg (rnd64 S.natAbs)) ∧ 0 ≤ val Ieee.double (Ieee.double.word sg (rnd64 S.natAbs)) ∧ val Ieee.double (Ieee.double.word sg (rnd64 S.natAbs)) ≤ (V Ieee.double r : Int) := by
  have hle : rnd64 S.natAbs ≤ r := rnd64_le (by omega) (by omega)
  have hi := rnd64_inf S.natAbs
  refine ⟨?_, ?_⟩
  · unfold Fin64; rw [mag_word _ _ hi]; omega
  · rw [val_word _ hi]
    have hv : V Ieee.double (rnd64 S.natAbs) ≤ V Ieee.double r := V_le hle
    by_cases c : S = 0
    · subst c
      have : rnd64 (Int.natAbs 0) = 0 := by decide
      rw [this, V_zero]
      cases sg <;> simp [sV]
    · rw [hs c]
      have : decide (S < 0) = false := decide_eq_false (by omega)
      rw [this]
      simp only [sV, Bool.false_eq_true, if_false]
      omega
theorem sub_range {a b r : Nat} (ha : Fin64 a) (hb : Fin64 b) (hr : r < Ieee.double.infRung) (h0 : 0 ≤ val Ieee.double a - val Ieee.double b) (h1 : val Ieee.double a - val Ieee.double b ≤ (V Ieee.double r : Int)) :
    ∃ c, fop .sub .f64 (some a) (some b) = some c ∧ Fin64 c ∧ 0 ≤ val Ieee.double c ∧ val Ieee.double c ≤ (V Ieee.double r : Int) := by
  obtain ⟨sg, e, hs⟩ := sub_val ha hb
  exact ⟨_, e, range_word hr hs h0 h1⟩
theorem add_range {a b r : Nat} (ha : Fin64 a) (hb : Fin64 b) (hr : r < Ieee.double.infRung) (h0 : 0 ≤ val Ieee.double a + val Ieee.double b) (h1 : val Ieee.double a + val Ieee.double b ≤ (V Ieee.double r : Int)) :
    ∃ c, fop .add .f64 (some a) (some b) = some c ∧ Fin64 c ∧ 0 ≤ val Ieee.double c ∧ val Ieee.double c ≤ (V Ieee.double r : Int) := by
  obtain ⟨sg, e, hs⟩ := add_val ha hb
  exact ⟨_, e, range_word hr hs h0 h1⟩
theorem Fin64.mean {a : Nat} (h : Fin64 a) : mean .f64 a = some a := mean_some_of_fin (k := .f64) (Nat.le_of_lt h)
theorem order_fin {a b : Nat} (ha : Fin64 a) (hb : Fin64 b) : FloatKind.f64.format.order a b = some (compare (val Ieee.double a) (val Ieee.double b)) := order_val .f64 (Nat.le_of_lt ha) (Nat.le_of_lt hb)

def one64 : Nat := 4607182418800017408
def half64 : Nat := 4602678819172646912
def quarter64 : Nat := 4598175219545276416
def tau64 : Nat := 4618760256179416344
def two52 : Nat := 4841369599423283200
theorem V_one : V Ieee.double one64 = 4 * 2 ^ 1072 := by decide +kernel
theorem V_half : V Ieee.double half64 = 2 * 2 ^ 1072 := by decide +kernel
theorem V_quarter : V Ieee.double quarter64 = 2 ^ 1072 := by decide +kernel
theorem V_one' : 2 ^ 1074 = V Ieee.double one64 := by decide +kernel
theorem V_one_pos : 0 < V Ieee.double one64 := by decide +kernel
theorem V_two52 : V Ieee.double two52 = 2 ^ 52 * V Ieee.double one64 := by decide +kernel
theorem val_one : val Ieee.double one64 = (V Ieee.double one64 : Int) := by decide +kernel
theorem val_half : val Ieee.double half64 = (V Ieee.double half64 : Int) := by decide +kernel
theorem val_quarter : val Ieee.double quarter64 = (V Ieee.double quarter64 : Int) := by decide +kernel
theorem val_zero : val Ieee.double 0 = 0 := by decide

/-! ### What is behind the point -/

def ltM (x y : Option Nat) : Bool := ford .f64 x y == some .lt
def gtM (x y : Option Nat) : Bool := ford .f64 x y == some .gt
def geM (x y : Option Nat) : Bool := ford .f64 x y == some .gt || ford .f64 x y == some .eq

/-- What is left of a number behind the point, plus 1 if it is less than 0. -/
def partM (a : Nat) : Option Nat :=
  if ltM (fop .sub .f64 (some a) (some (wholeN a))) (some 0) then fop .add .f64 (fop .sub .f64 (some a) (some (wholeN a))) (some one64) else fop .sub .f64 (some a) (some (wholeN a))

/-- The whole part of a number of less than 2 to the power of 52 is exact. -/
theorem whole_val {a : Nat} (h : mag Ieee.double a < two52) : Fin64 (wholeN a) ∧ val Ieee.double (wholeN a) = wholeZ a * ((V Ieee.double one64 : Nat) : Int) ∧ wholeC a < 2 ^ 52 := by
  have hV : V Ieee.double (mag Ieee.double a) < V Ieee.double two52 := V_lt h
  have hC : wholeC a < 2 ^ 52 := by
    unfold wholeC
    rw [V_one', Nat.div_lt_iff_lt_mul V_one_pos]
    rw [V_two52] at hV; exact hV
  obtain ⟨r, hr, hlt⟩ := repr Ieee.double (wholeC a) 1074 (Nat.lt_trans hC (by decide))
  have hfin : r < Ieee.double.infRung := Nat.lt_trans hlt (by decide)
  have hrnd : rnd Ieee.double (wholeC a) 0 = r := by
    rw [rnd_at Ieee.double (wholeC a) (show Ieee.double.leastPlace ≤ 0 by decide)]
    have : ((0 : Int) - Ieee.double.leastPlace).toNat = 1074 := by decide
    rw [this, ← hr, rnd_V]
  have hw : wholeN a = Ieee.double.word (decide (wholeZ a < 0)) r := by
    unfold wholeN FloatKind.nearest
    show Ieee.double.nearest _ (wholeZ a).natAbs 0 = _
    have : (wholeZ a).natAbs = wholeC a := by unfold wholeZ; cases sgn Ieee.double a <;> simp [sV]
    rw [this, nearest_rnd, hrnd, Nat.min_eq_left (Nat.le_of_lt hfin)]
  refine ⟨?_, ?_, hC⟩
  · rw [hw]; unfold Fin64; rw [mag_word _ _ (Nat.le_of_lt hfin)]; exact hfin
  · rw [V_one'] at hr
    rw [hw, val_word _ (Nat.le_of_lt hfin), hr]
    generalize V Ieee.double one64 = K
    rw [sV_mul]
    unfold wholeZ
    cases sgn Ieee.double a
    · have : decide (sV false (wholeC a) < 0) = false := decide_eq_false (by simp [sV])
      rw [this]
    · by_cases c : wholeC a = 0
      · rw [c]; simp [sV]
      · have : decide (sV true (wholeC a) < 0) = true := decide_eq_true (by simp [sV]; omega)
        rw [this]

/-- What is behind the point is from 0 to 1. -/
theorem partM_range {a : Nat} (h : mag Ieee.double a < two52) : ∃ c, partM a = some c ∧ Fin64 c ∧ 0 ≤ val Ieee.double c ∧ val Ieee.double c ≤ (V Ieee.double one64 : Int) := by
  obtain ⟨hwf, hwv, -⟩ := whole_val h
  have ha : Fin64 a := Nat.lt_trans h (by decide)
  have h1 : Fin64 one64 := by unfold Fin64; decide
  have hdm : V Ieee.double (mag Ieee.double a) = V Ieee.double one64 * wholeC a + V Ieee.double (mag Ieee.double a) % V Ieee.double one64 := by
    unfold wholeC; rw [V_one', Nat.div_add_mod]
  have hmod : V Ieee.double (mag Ieee.double a) % V Ieee.double one64 < V Ieee.double one64 := Nat.mod_lt _ V_one_pos
  obtain ⟨sg, e, hs⟩ := sub_val ha hwf
  rw [hwv] at e hs
  have hS : val Ieee.double a - wholeZ a * ((V Ieee.double one64 : Nat) : Int) = sV (sgn Ieee.double a) (V Ieee.double (mag Ieee.double a) % V Ieee.double one64) := by
    unfold val wholeZ
    generalize V Ieee.double (mag Ieee.double a) % V Ieee.double one64 = R at *
    rw [hdm, Nat.mul_comm]
    generalize V Ieee.double one64 = K
    cases sgn Ieee.double a
    · simp [sV]; omega
    · simp [sV, Int.neg_mul]; omega
  rw [hS] at e hs
  generalize V Ieee.double (mag Ieee.double a) % V Ieee.double one64 = R at *
  have hone : one64 < Ieee.double.infRung := by decide
  cases hsg : sgn Ieee.double a
  · rw [hsg] at e hs
    have hr := range_word hone hs (by simp [sV]) (by simp [sV]; omega)
    refine ⟨_, ?_, hr⟩
    unfold partM
    rw [e]
    have : ltM (some (Ieee.double.word sg (rnd64 (sV false R).natAbs))) (some 0) = false := by
      show (FloatKind.f64.format.order _ 0 == some .lt) = false
      rw [order_fin hr.1 (by unfold Fin64; decide), val_zero]
      cases hc : compare (val Ieee.double (Ieee.double.word sg (rnd64 (sV false R).natAbs))) 0
      · have := Int.compare_eq_lt.1 hc; omega
      · rfl
      · rfl
    rw [this]; simp
  · rw [hsg] at e hs
    have hq : rnd64 (sV true R).natAbs ≤ one64 := rnd64_le (by simp [sV]; omega) (by decide)
    have hi := rnd64_inf (sV true R).natAbs
    have hvq : V Ieee.double (rnd64 (sV true R).natAbs) ≤ V Ieee.double one64 := V_le hq
    have hf : Fin64 (Ieee.double.word sg (rnd64 (sV true R).natAbs)) := by unfold Fin64; rw [mag_word _ _ hi]; omega
    have hv := val_word sg hi
    by_cases c : R = 0
    · subst c
      have z : rnd64 (sV true 0).natAbs = 0 := by decide
      rw [z] at e hf hv hi
      refine ⟨_, ?_, hf, ?_⟩
      · unfold partM
        rw [e]
        have : ltM (some (Ieee.double.word sg 0)) (some 0) = false := by
          show (FloatKind.f64.format.order _ 0 == some .lt) = false
          rw [order_fin hf (by unfold Fin64; decide), val_zero, hv, V_zero]
          cases sg <;> decide
        rw [this]; simp
      · rw [hv, V_zero]; cases sg <;> simp [sV]
    · have hsg' : sg = true := by
        rw [hs (by simp [sV]; omega)]
        exact decide_eq_true (by simp [sV]; omega)
      rw [hsg'] at e hf hv
      have v1 : V Ieee.double 1 = 1 := by decide
      have hpos : 1 ≤ rnd64 (sV true R).natAbs := le_rnd64 (by rw [v1]; simp [sV]; omega) (by decide)
      have hvpos : 0 < V Ieee.double (rnd64 (sV true R).natAbs) := by have := V_le (f := Ieee.double) hpos; omega
      generalize rnd64 (sV true R).natAbs = q at *
      have hv' : val Ieee.double (Ieee.double.word true q) = -(V Ieee.double q : Int) := by rw [hv]; simp [sV]
      obtain ⟨c, e2, hc⟩ := add_range (r := one64) hf h1 hone (by rw [hv', val_one]; omega) (by rw [hv', val_one]; omega)
      refine ⟨c, ?_, hc⟩
      unfold partM
      rw [e]
      have : ltM (some (Ieee.double.word true q)) (some 0) = true := by
        show (FloatKind.f64.format.order _ 0 == some .lt) = true
        rw [order_fin hf (by unfold Fin64; decide), val_zero, hv', cmp_lt (by omega)]; rfl
      rw [this]; simp only [if_true]
      exact e2

end Go.Proofs.YtogliigpoojfoaaGreatDoor.Fl
end

section
namespace Go.Proofs.YtogliigpoojfoaaGreatDoor.Fl
set_option maxRecDepth 100000
open Go

/-- The opposite of what a word means. -/
def negM (x : Option Nat) : Option Nat := x.map (Op.negFloat .f64)

/-- The number with which the sine goes on: the distance to the next half turn. -/
def foldM (f : Option Nat) : Option Nat :=
  if gtM (if geM f (some half64) then fop .sub .f64 f (some half64) else f) (some quarter64) then fop .sub .f64 (some half64) (if geM f (some half64) then fop .sub .f64 f (some half64) else f)
  else (if geM f (some half64) then fop .sub .f64 f (some half64) else f)

/-- The divisor in round j. -/
def divS (j : Nat) : Nat := FloatKind.f64.nearest (2 * (8 - j) * (2 * (8 - j) + 1) : Int)
def sinP (u : Option Nat) : Nat → Option Nat
  | 0 => some one64
  | j + 1 => fop .sub .f64 (some one64) (fop .quo .f64 (fop .mul .f64 u (sinP u j)) (some (divS j)))
/-- The sine of a number of turns from 0 to 1. -/
def sineM (f : Option Nat) : Option Nat :=
  if geM f (some half64) then negM (fop .mul .f64 (fop .mul .f64 (foldM f) (some tau64)) (sinP (fop .mul .f64 (fop .mul .f64 (foldM f) (some tau64)) (fop .mul .f64 (foldM f) (some tau64))) 8))
  else fop .mul .f64 (fop .mul .f64 (foldM f) (some tau64)) (sinP (fop .mul .f64 (fop .mul .f64 (foldM f) (some tau64)) (fop .mul .f64 (foldM f) (some tau64))) 8)

theorem geM_fin {a b : Nat} (ha : Fin64 a) (hb : Fin64 b) : geM (some a) (some b) = decide (val Ieee.double b ≤ val Ieee.double a) := by
  show (FloatKind.f64.format.order a b == some .gt || FloatKind.f64.format.order a b == some .eq) = _
  rw [order_fin ha hb]
  by_cases h1 : val Ieee.double a < val Ieee.double b
  · rw [cmp_lt h1, decide_eq_false (by omega)]; rfl
  · by_cases h2 : val Ieee.double b < val Ieee.double a
    · rw [cmp_gt h2, decide_eq_true (by omega)]; rfl
    · have : val Ieee.double a = val Ieee.double b := by omega
      rw [this, decide_eq_true (by omega), Int.compare_eq_eq.2 rfl]; rfl
theorem gtM_fin {a b : Nat} (ha : Fin64 a) (hb : Fin64 b) : gtM (some a) (some b) = decide (val Ieee.double b < val Ieee.double a) := by
  show (FloatKind.f64.format.order a b == some .gt) = _
  rw [order_fin ha hb]
  by_cases h1 : val Ieee.double a < val Ieee.double b
  · rw [cmp_lt h1, decide_eq_false (by omega)]; rfl
  · by_cases h2 : val Ieee.double b < val Ieee.double a
    · rw [cmp_gt h2, decide_eq_true (by omega)]; rfl
    · have : val Ieee.double a = val Ieee.double b := by omega
      rw [this, decide_eq_false (by omega), Int.compare_eq_eq.2 rfl]; rfl
theorem ltM_fin {a b : Nat} (ha : Fin64 a) (hb : Fin64 b) : ltM (some a) (some b) = decide (val Ieee.double a < val Ieee.double b) := by
  show (FloatKind.f64.format.order a b == some .lt) = _
  rw [order_fin ha hb]
  by_cases h1 : val Ieee.double a < val Ieee.double b
  · rw [cmp_lt h1, decide_eq_true h1]; rfl
  · rw [decide_eq_false h1]
    by_cases h2 : val Ieee.double b < val Ieee.double a
    · rw [cmp_gt h2]; rfl
    · have : val Ieee.double a = val Ieee.double b := by omega
      rw [this, Int.compare_eq_eq.2 rfl]; rfl

theorem fin_one : Fin64 one64 := by unfold Fin64; decide
theorem fin_half : Fin64 half64 := by unfold Fin64; decide
theorem fin_quarter : Fin64 quarter64 := by unfold Fin64; decide
theorem fin_zero : Fin64 0 := by unfold Fin64; decide

theorem foldM_range {f : Nat} (hf : Fin64 f) (h0 : 0 ≤ val Ieee.double f) (h1 : val Ieee.double f ≤ (V Ieee.double one64 : Int)) :
    ∃ c, foldM (some f) = some c ∧ Fin64 c ∧ 0 ≤ val Ieee.double c ∧ val Ieee.double c ≤ (V Ieee.double quarter64 : Int) := by
  have eo : V Ieee.double one64 = 4 * V Ieee.double quarter64 := by rw [V_one, V_quarter]
  have eh : V Ieee.double half64 = 2 * V Ieee.double quarter64 := by rw [V_half, V_quarter]
  have step1 : ∃ g, (if geM (some f) (some half64) then fop .sub .f64 (some f) (some half64) else some f) = some g ∧ Fin64 g ∧ 0 ≤ val Ieee.double g ∧ val Ieee.double g ≤ (V Ieee.double half64 : Int) := by
    rw [geM_fin hf fin_half, val_half]
    by_cases c : (V Ieee.double half64 : Int) ≤ val Ieee.double f
    · rw [decide_eq_true c]
      simp only [if_true]
      exact sub_range hf fin_half (by decide) (by rw [val_half]; omega) (by rw [val_half]; omega)
    · rw [decide_eq_false c]
      exact ⟨f, by simp, hf, h0, by omega⟩
  obtain ⟨g, hg, hgf, hg0, hg1⟩ := step1
  unfold foldM
  rw [hg, gtM_fin hgf fin_quarter, val_quarter]
  by_cases c : (V Ieee.double quarter64 : Int) < val Ieee.double g
  · rw [decide_eq_true c]
    simp only [if_true]
    exact sub_range fin_half hgf (by decide) (by rw [val_half]; omega) (by rw [val_half]; omega)
  · rw [decide_eq_false c]
    exact ⟨g, by simp, hgf, hg0, by omega⟩

theorem bd_of_val {c r : Nat} {e : Int} (hr : r ≤ top Ieee.double e) (hc : 0 ≤ val Ieee.double c) (h : val Ieee.double c ≤ (V Ieee.double r : Int)) : Bd .f64 e c := by
  have : V Ieee.double (mag Ieee.double c) ≤ V Ieee.double r := by
    unfold val at h hc
    generalize V Ieee.double (mag Ieee.double c) = x at *
    generalize V Ieee.double r = y at *
    cases sgn Ieee.double c <;> simp [sV] at h hc <;> omega
  have hm : mag Ieee.double c ≤ r := by
    by_cases k : r < mag Ieee.double c
    · have := V_lt (f := Ieee.double) k; omega
    · omega
  exact Nat.le_trans hm hr

theorem foldM_bd {f : Nat} (hf : Fin64 f) (h0 : 0 ≤ val Ieee.double f) (h1 : val Ieee.double f ≤ (V Ieee.double one64 : Int)) : MB (-2) (foldM (some f)) := by
  obtain ⟨c, hc, -, h2, h3⟩ := foldM_range hf h0 h1
  exact ⟨c, hc, bd_of_val (r := quarter64) (by decide) h2 h3⟩

theorem mb_const {e : Int} {c : Nat} (h : mag Ieee.double c ≤ top Ieee.double e) : MB e (some c) := ⟨c, rfl, h⟩

theorem divS_lb : ∀ j, j < 8 → LB 2 (some (divS j)) := by
  intro j hj
  have key : ∀ j, j < 8 → top Ieee.double 2 ≤ mag Ieee.double (divS j) ∧ mag Ieee.double (divS j) < Ieee.double.infRung := by decide +kernel
  exact ⟨_, rfl, key j hj⟩

theorem sinP_bd {u : Option Nat} (hu : MB 8 u) : ∀ j : Nat, j ≤ 8 → MB (13 * (j : Int)) (sinP u j) := by
  intro j
  induction j with
  | zero => intro _; exact mb_const (by decide)
  | succ j ih =>
    intro hj
    have h1 := (hu.mul (ih (by omega)) (by omega) (by omega) (by omega) (by omega)).div (divS_lb j (by omega)) (by omega) (by omega) (by omega) (by omega)
    have h2 := (mb_const (e := 0) (c := one64) (by decide)).sub h1 (by omega) (by omega) (by omega) (by omega)
    exact h2.mono (by omega)

theorem neg_bd {e : Int} {x : Option Nat} (h : MB e x) : MB e (negM x) := by
  obtain ⟨b, rfl, hb⟩ := h
  refine ⟨_, rfl, ?_⟩
  have hb' : b % 2 ^ 63 ≤ top Ieee.double e := hb
  show (b ^^^ 2 ^ 63) % 2 ^ 63 ≤ top Ieee.double e
  have : (b ^^^ 2 ^ 63) % 2 ^ 63 = b % 2 ^ 63 := by
    apply Nat.eq_of_testBit_eq
    intro i
    rw [Nat.testBit_mod_two_pow, Nat.testBit_mod_two_pow, Nat.testBit_xor, Nat.testBit_two_pow]
    by_cases h1 : i < 63
    · have : decide (63 = i) = false := decide_eq_false (by omega)
      rw [this]; simp
    · rw [decide_eq_false h1]; simp
  rw [this]; exact hb'

/-- The sine fits the 32-bit numbers. -/
theorem sineM_bd {f : Nat} (hf : Fin64 f) (h0 : 0 ≤ val Ieee.double f) (h1 : val Ieee.double f ≤ (V Ieee.double one64 : Int)) : MB 110 (sineM (some f)) := by
  have hz := (foldM_bd hf h0 h1).mul (mb_const (e := 3) (c := tau64) (by decide)) (by omega) (by omega) (by omega) (by omega)
  have hu := (hz.mono (e' := 3) (by omega)).mul (hz.mono (e' := 3) (by omega)) (by omega) (by omega) (by omega) (by omega)
  have hp := sinP_bd (hu.mono (e' := 8) (by omega)) 8 (by omega)
  have hr := (hz.mono (e' := 3) (by omega)).mul hp (by omega) (by omega) (by omega) (by omega)
  unfold sineM
  split
  · exact neg_bd (hr.mono (e' := 110) (by omega))
  · exact hr.mono (e' := 110) (by omega)

theorem sineM_part {a : Nat} (h : mag Ieee.double a < two52) : MB 110 (sineM (partM a)) := by
  obtain ⟨c, hc, h1, h2, h3⟩ := partM_range h
  rw [hc]; exact sineM_bd h1 h2 h3

end Go.Proofs.YtogliigpoojfoaaGreatDoor.Fl
end

section
namespace Go.Proofs.YtogliigpoojfoaaGreatDoor.Fl
set_option maxRecDepth 100000
open Go

/-- It means a number of at most 2 to the power of e, without a sign. -/
def PB (e : Int) (x : Option Nat) : Prop := ∃ b, x = some b ∧ Bd .f64 e b ∧ sgn Ieee.double b = false
theorem PB.mb {e : Int} {x : Option Nat} (h : PB e x) : MB e x := by obtain ⟨b, h1, h2, -⟩ := h; exact ⟨b, h1, h2⟩
theorem PB.mono {e e' : Int} {x : Option Nat} (h : PB e x) (he : e ≤ e') : PB e' x := by obtain ⟨b, h1, h2, h3⟩ := h; exact ⟨b, h1, h2.mono he, h3⟩
theorem sgn_nearest (neg : Bool) (m : Nat) (p : Int) : sgn Ieee.double (Ieee.double.nearest neg m p) = neg := by
  rw [nearest_rnd, sgn_word]
  exact Nat.min_le_right ..
theorem pb_encode {m : Nat} {p e : Int} (hm : m ≠ 0 → p + m.log2 < e) (h0 : -1000 ≤ e) (h1 : e ≤ 1000) : PB e (some (Ieee.double.write (.number false m p))) :=
  ⟨_, rfl, bd_encode hm h0 h1, sgn_nearest ..⟩

theorem sq_pb {e : Int} {x : Option Nat} (hx : MB e x) (h1 : -400 ≤ e) (h2 : e ≤ 400) : PB (2 * e + 2) (fop .mul .f64 x x) := by
  obtain ⟨a, rfl, ha⟩ := hx
  obtain ⟨s, m, p, r1, l1, -, -, -, -⟩ := ha.read64 (by omega) (by omega)
  have e1 : fop .mul .f64 (some a) (some a) = some (Ieee.double.write (.number false (m * m) (p + p))) := by
    show ((Ieee.double.read a).product (Ieee.double.read a)).map Ieee.double.write = _
    rw [r1]
    show some (Ieee.double.write (.number (s ^^ s) (m * m) (p + p))) = _
    rw [Bool.xor_self]
  rw [e1]
  refine pb_encode ?_ (by omega) (by omega)
  intro h0
  have hm : m ≠ 0 := fun c => h0 (by rw [c, Nat.zero_mul])
  have := log2_mul_le m m
  have := l1 hm
  omega

theorem Bd.fin {e : Int} {b : Nat} (h : Bd .f64 e b) (h1 : e ≤ 1000) : Fin64 b := Nat.lt_of_le_of_lt h (top_double_lt h1)
theorem V_pos_one {b : Nat} (hs : sgn Ieee.double b = false) : (0 : Int) ≤ val Ieee.double b := by
  unfold val; rw [hs]
  show (0 : Int) ≤ ((V Ieee.double (mag Ieee.double b) : Nat) : Int)
  omega

theorem one_add {e : Int} {x : Option Nat} (h : PB e x) (h1 : 0 ≤ e) (h2 : e ≤ 400) : PB (e + 2) (fop .add .f64 (some one64) x) ∧ LB 0 (fop .add .f64 (some one64) x) := by
  have hb : MB (e + 2) (fop .add .f64 (some one64) x) := ((mb_const (e := 0) (c := one64) (by decide)).add h.mb (by omega) (by omega) (by omega) (by omega)).mono (by omega)
  obtain ⟨b, rfl, hx, hs⟩ := h
  have hv := V_pos_one hs
  obtain ⟨sg, e1, e2⟩ := add_val fin_one (hx.fin (by omega))
  rw [e1] at hb ⊢
  have hpos := V_one_pos
  rw [val_one] at e2 hb ⊢
  have hsg : sg = false := by
    rw [e2 (by omega)]; exact decide_eq_false (by omega)
  subst hsg
  generalize hN : ((V Ieee.double one64 : Int) + val Ieee.double b).natAbs = N at *
  have hN1 : V Ieee.double one64 ≤ N := by omega
  have hle := rnd64_inf N
  obtain ⟨c, hc, hbc⟩ := hb
  cases hc
  have hm : mag Ieee.double (Ieee.double.word false (rnd64 N)) = rnd64 N := mag_word _ _ hle
  refine ⟨⟨_, rfl, hbc, sgn_word _ _ hle⟩, _, rfl, ?_, hbc.fin (by omega)⟩
  rw [hm]
  exact Nat.le_trans (by decide) (le_rnd64 hN1 (by decide))

theorem sqrt_pb {e : Int} {x : Option Nat} (h : PB e x) (h1 : 0 ≤ e) (h2 : e ≤ 400) : PB (e + 2) (fsqrt x) := by
  obtain ⟨b, rfl, hx, hs⟩ := h
  obtain ⟨s, m, p, r1, l1, lp, hlt, hsg, -⟩ := hx.read64 (by omega) (by omega)
  rw [hs] at hsg
  subst hsg
  have e1 : fsqrt (some b) = ((Ieee.double.read b).root 54).map Ieee.double.write := rfl
  rw [e1, r1]
  simp only [Ieee.Datum.root]
  by_cases h0 : m = 0
  · rw [if_pos h0]
    exact pb_encode (fun c => absurd h0 c) (by omega) (by omega)
  · rw [if_neg h0]
    have hm := l1 h0
    simp only [Bool.false_eq_true, if_false]
    have hl : m.log2 < 53 := (Nat.log2_lt h0).2 hlt
    generalize hmore : 2 * 54 - m.log2 + ((p - ((2 * 54 - m.log2 : Nat) : Int)) % 2).toNat = more
    generalize hn' : m <<< more = n'
    have hlog : n'.log2 ≤ 109 := by
      apply log2_le_of
      rw [← hn', Nat.shiftLeft_eq]
      have hm1 : m < 2 ^ (m.log2 + 1) := Nat.lt_log2_self
      have := Nat.mul_lt_mul_of_pos_right hm1 (Nat.two_pow_pos more)
      rw [← Nat.pow_add] at this
      exact Nat.lt_of_lt_of_le this (Nat.pow_le_pow_right (by decide) (by omega))
    have hw := rootFrom_lt n' (n'.log2 / 2 + 1) 0
    generalize Ieee.Datum.rootFrom n' (n'.log2 / 2 + 1) 0 = whole at hw ⊢
    have hw2 : whole < 2 ^ 55 := by
      have : 2 ^ (n'.log2 / 2 + 1) ≤ 2 ^ 55 := Nat.pow_le_pow_right (by decide) (by omega)
      omega
    refine pb_encode (fun _ => ?_) (by omega) (by omega)
    have hb : ∀ b : Bool, b.toNat ≤ 1 := by intro b; cases b <;> decide
    have hb1 := hb (whole * whole != n')
    have : (2 * whole + (whole * whole != n').toNat).log2 ≤ 56 := log2_le_of (by rw [show (2 : Nat) ^ (56 + 1) = 2 * 2 ^ 56 from by rw [Nat.pow_succ, Nat.mul_comm], show (2 : Nat) ^ 56 = 2 * 2 ^ 55 from by rw [Nat.pow_succ, Nat.mul_comm]]; omega)
    omega

/-- The size of a quotient. -/
theorem quot_log {m n : Nat} (hm : m ≠ 0) (hm53 : m < 2 ^ 53) (n0 : n ≠ 0) (p q : Int) :
    p - q - (54 + n.log2 - m.log2 : Nat) - 1 + ((2 * ((m <<< (54 + n.log2 - m.log2)) / n) + ((m <<< (54 + n.log2 - m.log2)) % n != 0).toNat).log2 : Nat) ≤ p + m.log2 - (q + n.log2) := by
  have hml : m.log2 < 53 := (Nat.log2_lt hm).2 hm53
  generalize hmore : 54 + n.log2 - m.log2 = more at *
  have hd : m <<< more < 2 ^ (m.log2 + 1 + more) := by
    rw [Nat.shiftLeft_eq, Nat.pow_add]
    exact Nat.mul_lt_mul_of_pos_right Nat.lt_log2_self (Nat.two_pow_pos _)
  have hn : 2 ^ n.log2 ≤ n := Nat.log2_self_le n0
  have hdiv : (m <<< more) / n < 2 ^ (m.log2 + 1 + more - n.log2) := by
    rw [Nat.div_lt_iff_lt_mul (by omega)]
    refine Nat.lt_of_lt_of_le hd ?_
    have : 2 ^ (m.log2 + 1 + more) = 2 ^ (m.log2 + 1 + more - n.log2) * 2 ^ n.log2 := by
      rw [← Nat.pow_add]; congr 1; omega
    rw [this]
    exact Nat.mul_le_mul_left _ hn
  have hb : ∀ b : Bool, b.toNat ≤ 1 := by intro b; cases b <;> decide
  have hb1 := hb ((m <<< more) % n != 0)
  have hlog : (2 * ((m <<< more) / n) + ((m <<< more) % n != 0).toNat).log2 ≤ m.log2 + 1 + more - n.log2 := by
    apply log2_le_of
    rw [Nat.pow_succ]; omega
  omega
theorem quot_zero {n : Nat} (k : Nat) : 2 * (((0 : Nat) <<< k) / n) + (((0 : Nat) <<< k) % n != 0).toNat = 0 := by simp [Nat.shiftLeft_eq]

/-- The quotient of two numbers whose sizes are known. -/
theorem quo_bd {a b : Nat} {s t : Bool} {m n : Nat} {p q e : Int} (r1 : Ieee.double.read a = .number s m p) (r2 : Ieee.double.read b = .number t n q) (hm53 : m < 2 ^ 53) (n0 : n ≠ 0) (h : m ≠ 0 → p + m.log2 < q + n.log2 + e) (h0 : -1000 ≤ e) (h1 : e ≤ 1000) :
    MB e (fop .quo .f64 (some a) (some b)) := by
  have hq : (Ieee.Datum.number s m p).quotient 54 (.number t n q) = some (.number (s ^^ t) (2 * ((m <<< (54 + n.log2 - m.log2)) / n) + ((m <<< (54 + n.log2 - m.log2)) % n != 0).toNat) (p - q - (54 + n.log2 - m.log2 : Nat) - 1)) := by
    simp only [Ieee.Datum.quotient]
    rw [if_neg n0]
  refine ⟨_, ?_, bd_encode (neg := s ^^ t) (m := 2 * ((m <<< (54 + n.log2 - m.log2)) / n) + ((m <<< (54 + n.log2 - m.log2)) % n != 0).toNat) (p := p - q - (54 + n.log2 - m.log2 : Nat) - 1) ?_ h0 h1⟩
  · show ((Ieee.double.read a).quotient (52 + 2) (Ieee.double.read b)).map Ieee.double.write = _
    rw [r1, r2]
    show ((Ieee.Datum.number s m p).quotient 54 (.number t n q)).map Ieee.double.write = _
    rw [hq]; rfl
  · intro hz
    by_cases hm : m = 0
    · subst hm; exact absurd (quot_zero _) hz
    · have := quot_log hm hm53 n0 p q
      have := h hm
      omega

theorem MB.div1 {e1 e2 : Int} {x y : Option Nat} (hx : MB e1 x) (hy : LB e2 y) (h1 : -400 ≤ e1) (h2 : e1 ≤ 400) (h3 : -400 ≤ e2) (h4 : e2 ≤ 400) : MB (e1 - e2 + 1) (fop .quo .f64 x y) := by
  obtain ⟨a, rfl, ha⟩ := hx
  obtain ⟨b, rfl, hb, hbf⟩ := hy
  obtain ⟨s, m, p, r1, l1, lp, hm53, -, -⟩ := ha.read64 (by omega) (by omega)
  obtain ⟨t, n, q, r2, n0, l2, -⟩ := LB.read (by omega) hb hbf
  exact quo_bd r1 r2 hm53 n0 (fun h => by have := l1 h; omega) (by omega) (by omega)

theorem log2_shift {m : Nat} (hm : m ≠ 0) (k : Nat) : (m * 2 ^ k).log2 = m.log2 + k := by
  have h1 : 2 ^ m.log2 ≤ m := Nat.log2_self_le hm
  have h2 : m < 2 ^ (m.log2 + 1) := Nat.lt_log2_self
  have hp := Nat.two_pow_pos k
  have hne : m * 2 ^ k ≠ 0 := Nat.mul_ne_zero hm (by omega)
  apply Nat.le_antisymm
  · apply log2_le_of
    have := Nat.mul_lt_mul_of_pos_right h2 hp
    rw [← Nat.pow_add] at this
    have e : m.log2 + 1 + k = m.log2 + k + 1 := by omega
    rwa [e] at this
  · apply (Nat.le_log2 hne).2
    rw [Nat.pow_add]
    exact Nat.mul_le_mul_right _ h1

/-- The quotient of a smaller number by a greater one. -/
theorem div_le {a b : Nat} (ha : Fin64 a) (hb : Fin64 b) (h : mag Ieee.double a ≤ mag Ieee.double b) (h0 : mag Ieee.double b ≠ 0) : MB 1 (fop .quo .f64 (some a) (some b)) := by
  obtain ⟨m, p, r1, p1, v1, hm53⟩ := read_fin Ieee.double ha
  obtain ⟨n, q, r2, q1, v2, -⟩ := read_fin Ieee.double hb
  have hv := V_le (f := Ieee.double) h
  have hvp : V Ieee.double 0 < V Ieee.double (mag Ieee.double b) := V_lt (by omega)
  rw [V_zero] at hvp
  have n0 : n ≠ 0 := by
    rintro rfl
    rw [Nat.zero_mul] at v2; omega
  refine quo_bd r1 r2 hm53 n0 (fun hm => ?_) (by omega) (by omega)
  have h1 := log2_le_log2 hv
  rw [← v1, ← v2, log2_shift hm, log2_shift n0] at h1
  omega

/-- The rounds that halve the angle. -/
def halfT (t : Option Nat) : Option Nat := fop .quo .f64 t (fop .add .f64 (some one64) (fsqrt (fop .add .f64 (some one64) (fop .mul .f64 t t))))
def tM (t : Option Nat) : Nat → Option Nat
  | 0 => t
  | j + 1 => halfT (tM t j)
theorem halfT_bd {e : Int} {t : Option Nat} (h : MB e t) (h1 : 0 ≤ e) (h2 : e ≤ 10) : MB (e + 1) (halfT t) := by
  have hq := (one_add (sq_pb h (by omega) (by omega)) (by omega) (by omega)).1
  have hd := (one_add (sqrt_pb hq (by omega) (by omega)) (by omega) (by omega)).2
  exact (h.div1 hd (by omega) (by omega) (by omega) (by omega)).mono (by omega)
theorem tM_bd {t : Option Nat} (h : MB 1 t) : ∀ j : Nat, j ≤ 3 → MB (1 + (j : Int)) (tM t j) := by
  intro j
  induction j with
  | zero => intro _; exact h.mono (by omega)
  | succ j ih => intro hj; exact (halfT_bd (ih (by omega)) (by omega) (by omega)).mono (by omega)

/-- The divisor in round j. -/
def divA (j : Nat) : Nat := FloatKind.f64.nearest (15 - 2 * (j : Int))
def angP (u : Option Nat) : Nat → Option Nat
  | 0 => some 0
  | j + 1 => fop .sub .f64 (fop .quo .f64 (some one64) (some (divA j))) (fop .mul .f64 u (angP u j))
theorem divA_bd : ∀ j, j < 8 → MB 0 (fop .quo .f64 (some one64) (some (divA j))) := by
  intro j hj
  have key : ∀ j, j < 8 → ∃ b, fop .quo .f64 (some one64) (some (divA j)) = some b ∧ mag Ieee.double b ≤ top Ieee.double 0 := by
    have h : ∀ j, j < 8 → ((fop .quo .f64 (some one64) (some (divA j))).any fun b => decide (mag Ieee.double b ≤ top Ieee.double 0)) = true := by decide +kernel
    intro j hj
    have := h j hj
    generalize fop .quo .f64 (some one64) (some (divA j)) = x at this
    cases x with
    | none => cases this
    | some b => exact ⟨b, rfl, of_decide_eq_true this⟩
  exact key j hj
theorem angP_bd {u : Option Nat} (hu : MB 10 u) : ∀ j : Nat, j ≤ 8 → MB (14 * (j : Int) - 12) (angP u j) := by
  intro j
  induction j with
  | zero => intro _; exact mb_const (by decide)
  | succ j ih =>
    intro hj
    have h1 := hu.mul (ih (by omega)) (by omega) (by omega) (by omega) (by omega)
    exact ((divA_bd j (by omega)).sub h1 (by omega) (by omega) (by omega) (by omega)).mono (by omega)

def eight64 : Nat := 4620693217682128896
/-- The angle of a tangent from 0 to 1, in turns. -/
def arcM (t : Option Nat) : Option Nat := fop .quo .f64 (fop .mul .f64 (some eight64) (fop .mul .f64 (tM t 3) (angP (fop .mul .f64 (tM t 3) (tM t 3)) 8))) (some tau64)
theorem arcM_bd {t : Option Nat} (h : MB 1 t) : MB 115 (arcM t) := by
  have ht := tM_bd h 3 (by omega)
  have hu := (ht.mono (e' := 4) (by omega)).mul (ht.mono (e' := 4) (by omega)) (by omega) (by omega) (by omega) (by omega)
  have hp := angP_bd (hu.mono (by omega)) 8 (by omega)
  have h1 := (ht.mono (e' := 4) (by omega)).mul (hp.mono (e' := 100) (by omega)) (by omega) (by omega) (by omega) (by omega)
  have h2 := (mb_const (e := 3) (c := eight64) (by decide)).mul (h1.mono (e' := 106) (by omega)) (by omega) (by omega) (by omega) (by omega)
  have hl : LB 2 (some tau64) := ⟨_, rfl, by decide, by decide⟩
  exact ((h2.mono (e' := 112) (by omega)).div1 hl (by omega) (by omega) (by omega) (by omega)).mono (by omega)
/-- The angle by its signs. -/
def quadM (over left low : Bool) (x : Option Nat) : Option Nat :=
  let y := if over then fop .sub .f64 (some quarter64) x else x
  let z := if left then fop .sub .f64 (some half64) y else y
  if low then negM z else z
theorem quadM_bd {over left low : Bool} {x : Option Nat} (h : MB 115 x) : MB 126 (quadM over left low x) := by
  have hy : MB 117 (if over then fop .sub .f64 (some quarter64) x else x) := by
    cases over
    · exact h.mono (by omega)
    · exact ((mb_const (e := 0) (c := quarter64) (by decide)).sub h (by omega) (by omega) (by omega) (by omega)).mono (by omega)
  have hz : MB 119 (if left then fop .sub .f64 (some half64) (if over then fop .sub .f64 (some quarter64) x else x) else (if over then fop .sub .f64 (some quarter64) x else x)) := by
    cases left
    · exact hy.mono (by omega)
    · exact ((mb_const (e := 0) (c := half64) (by decide)).sub hy (by omega) (by omega) (by omega) (by omega)).mono (by omega)
  unfold quadM
  dsimp only
  cases low
  · exact hz.mono (by omega)
  · exact (neg_bd hz).mono (by omega)

end Go.Proofs.YtogliigpoojfoaaGreatDoor.Fl
end
