/-
  Bounds for what words mean, operation by operation, in 64 bits; sums as whole numbers of the least unit.
-/
import Derived.Test.YtlcekfahjakfgaaFx
namespace Go.Proofs.Ytlcekfahjakfgaa.Fl
open Go

/-- It means a number whose absolute value is at most 2 to the power of e. -/
def MB (e : Int) (x : Option Nat) : Prop := ∃ b, x = some b ∧ Bd .f64 e b
/-- It means a finite number whose absolute value is at least 2 to the power of e. -/
def LB (e : Int) (x : Option Nat) : Prop := ∃ b, x = some b ∧ top Ieee.double e ≤ mag Ieee.double b ∧ mag Ieee.double b < Ieee.double.infRung

theorem MB.mono {e e' : Int} {x : Option Nat} (h : MB e x) (he : e ≤ e') : MB e' x := by
  obtain ⟨b, rfl, hb⟩ := h; exact ⟨b, rfl, hb.mono he⟩
theorem MB.fits {x : Nat} (h : MB 126 (mean .f64 x)) : fits .f64 .f32 x = true := by
  obtain ⟨b, hm, hb⟩ := h
  obtain ⟨rfl, -⟩ := mean_some hm
  exact fits_of_bd hb

theorem top_double_lt {e : Int} (h : e ≤ 1000) : top Ieee.double e < Ieee.double.infRung := by
  unfold top
  have e1 : Ieee.double.binade = 4503599627370496 := rfl
  have e2 : Ieee.double.infRung = 2047 * 4503599627370496 := rfl
  have e3 : ((Ieee.double.fractionBits : Nat) : Int) = 52 := rfl
  have e4 : Ieee.double.leastPlace = -1074 := rfl
  rw [e1, e2, e3, e4]
  exact Nat.mul_lt_mul_of_pos_right (by omega) (by decide)

theorem Bd.read64 {e : Int} {b : Nat} (h : Bd .f64 e b) (h0 : -1000 ≤ e) (h1 : e ≤ 1000) :
    ∃ s m p, Ieee.double.read b = .number s m p ∧ (m ≠ 0 → p + m.log2 ≤ e) ∧ (-1074 : Int) ≤ p ∧ m < 2 ^ 53 ∧ s = sgn Ieee.double b ∧ m * 2 ^ (p + 1074).toNat = V Ieee.double (mag Ieee.double b) := by
  have hlt := top_double_lt h1
  have hm : mag Ieee.double b ≤ top Ieee.double e := h
  obtain ⟨s, m, p, e1, e2, e3, e4⟩ := Bd.read h (by show (-1074 : Int) + 52 ≤ e; omega) hlt
  obtain ⟨m', p', f1, f2, f3, f4⟩ := read_fin Ieee.double (b := b) (by omega)
  have e1' : Ieee.double.read b = .number s m p := e1
  have hh := f1
  rw [e1'] at hh
  cases hh
  refine ⟨_, _, _, e1', e2, e3, e4, rfl, ?_⟩
  rw [← f3]; congr 2

theorem bd_encode {neg : Bool} {m : Nat} {p e : Int} (hm : m ≠ 0 → p + m.log2 < e) (h0 : -1000 ≤ e) (h1 : e ≤ 1000) : Bd .f64 e (Ieee.double.write (.number neg m p)) :=
  Bd.of_nearest (k := .f64) hm (by show (-1074 : Int) + 52 + 1 ≤ e; omega) (top_double_lt h1)

theorem log2_mul_le (m n : Nat) : (m * n).log2 ≤ m.log2 + n.log2 + 1 := by
  apply log2_le_of
  have h1 : m < 2 ^ (m.log2 + 1) := Nat.lt_log2_self
  have h2 : n < 2 ^ (n.log2 + 1) := Nat.lt_log2_self
  have h3 : m * n < 2 ^ (m.log2 + 1) * 2 ^ (n.log2 + 1) := Nat.mul_lt_mul'' h1 h2
  rw [← Nat.pow_add] at h3
  have e : m.log2 + 1 + (n.log2 + 1) = m.log2 + n.log2 + 1 + 1 := by omega
  rwa [e] at h3

theorem MB.mul {e1 e2 : Int} {x y : Option Nat} (hx : MB e1 x) (hy : MB e2 y) (h1 : -400 ≤ e1) (h2 : e1 ≤ 400) (h3 : -400 ≤ e2) (h4 : e2 ≤ 400) : MB (e1 + e2 + 2) (fop .mul .f64 x y) := by
  obtain ⟨a, rfl, ha⟩ := hx
  obtain ⟨b, rfl, hb⟩ := hy
  obtain ⟨s, m, p, r1, l1, -, -, -, -⟩ := ha.read64 (by omega) (by omega)
  obtain ⟨t, n, q, r2, l2, -, -, -, -⟩ := hb.read64 (by omega) (by omega)
  refine ⟨Ieee.double.write (.number (s ^^ t) (m * n) (p + q)), ?_, ?_⟩
  · show ((Ieee.double.read a).product (Ieee.double.read b)).map Ieee.double.write = _
    rw [r1, r2]; rfl
  · apply bd_encode _ (by omega) (by omega)
    intro h0
    have hm : m ≠ 0 := fun c => h0 (by rw [c, Nat.zero_mul])
    have hn : n ≠ 0 := fun c => h0 (by rw [c, Nat.mul_zero])
    have := log2_mul_le m n
    have := l1 hm
    have := l2 hn
    omega

theorem log2_le_log2 {m n : Nat} (h : m ≤ n) : m.log2 ≤ n.log2 := by
  apply log2_le_of
  exact Nat.lt_of_le_of_lt h Nat.lt_log2_self

theorem abs_signed (s : Bool) (m u : Nat) : (Ieee.signed s m u).natAbs = m * 2 ^ u := by
  rw [shiftLeft_signed]
  unfold sV
  split <;> omega

theorem sum_bd {e1 e2 : Int} {m n : Nat} {p q : Int} {s t : Bool} (l1 : m ≠ 0 → p + m.log2 ≤ e1) (l2 : n ≠ 0 → q + n.log2 ≤ e2) :
    (Ieee.signed s m (p - min p q).toNat + Ieee.signed t n (q - min p q).toNat).natAbs ≠ 0 →
      min p q + ((Ieee.signed s m (p - min p q).toNat + Ieee.signed t n (q - min p q).toNat).natAbs.log2 : Nat) < max e1 e2 + 2 := by
  intro h0
  have hle : (Ieee.signed s m (p - min p q).toNat + Ieee.signed t n (q - min p q).toNat).natAbs ≤ m * 2 ^ (p - min p q).toNat + n * 2 ^ (q - min p q).toNat := by
    have := Int.natAbs_add_le (Ieee.signed s m (p - min p q).toNat) (Ieee.signed t n (q - min p q).toNat)
    rwa [abs_signed, abs_signed] at this
  generalize (Ieee.signed s m (p - min p q).toNat + Ieee.signed t n (q - min p q).toNat).natAbs = N at *
  have key : ∀ (m : Nat) (p base e : Int), base ≤ p → (m ≠ 0 → p + m.log2 ≤ e) → base ≤ e + 1 → m * 2 ^ (p - base).toNat ≤ 2 ^ (e + 1 - base).toNat := by
    intro m p base e hb hl hbe
    by_cases h : m = 0
    · subst h; simp
    · have := hl h
      have h1 : m < 2 ^ (m.log2 + 1) := Nat.lt_log2_self
      have := Nat.mul_le_mul_right (2 ^ (p - base).toNat) (Nat.le_of_lt h1)
      refine Nat.le_trans this ?_
      rw [← Nat.pow_add]
      exact Nat.pow_le_pow_right (by decide) (by omega)
  have hb : min p q ≤ max e1 e2 + 1 := by
    by_cases hm : m = 0
    · by_cases hn : n = 0
      · subst hm; subst hn; simp at hle; omega
      · have := l2 hn; omega
    · have := l1 hm; omega
  have k1 := key m p (min p q) (max e1 e2) (by omega) (fun h => by have := l1 h; omega) hb
  have k2 := key n q (min p q) (max e1 e2) (by omega) (fun h => by have := l2 h; omega) hb
  have hN : N < 2 ^ ((max e1 e2 + 1 - min p q).toNat + 1 + 1) := by
    have : 0 < 2 ^ (max e1 e2 + 1 - min p q).toNat := Nat.two_pow_pos _
    rw [Nat.pow_succ, Nat.pow_succ]; omega
  have hN2 : N ≤ 2 ^ ((max e1 e2 + 1 - min p q).toNat + 1) := by rw [Nat.pow_succ]; omega
  by_cases c : N = 2 ^ ((max e1 e2 + 1 - min p q).toNat + 1)
  · -- both are powers of two: then the sum is of at most this size
    have : N.log2 = (max e1 e2 + 1 - min p q).toNat + 1 := by rw [c, Nat.log2_two_pow]
    have hlt : m * 2 ^ (p - min p q).toNat + n * 2 ^ (q - min p q).toNat < 2 ^ ((max e1 e2 + 1 - min p q).toNat + 1) ∨ m * 2 ^ (p - min p q).toNat = 2 ^ (max e1 e2 + 1 - min p q).toNat := by
      rw [Nat.pow_succ]; omega
    exfalso
    rcases hlt with hlt | heq
    · omega
    · by_cases hm : m = 0
      · subst hm
        have : 0 < 2 ^ (max e1 e2 + 1 - min p q).toNat := Nat.two_pow_pos _
        omega
      · have hl := l1 hm
        have h1 : m < 2 ^ (m.log2 + 1) := Nat.lt_log2_self
        have h2 := Nat.mul_lt_mul_of_pos_right h1 (Nat.two_pow_pos (p - min p q).toNat)
        rw [← Nat.pow_add, heq] at h2
        have := (Nat.pow_lt_pow_iff_right (a := 2) (by decide)).1 h2
        omega
  · have : N.log2 < (max e1 e2 + 1 - min p q).toNat + 1 := (Nat.log2_lt h0).2 (by omega)
    omega

theorem MB.add {e1 e2 : Int} {x y : Option Nat} (hx : MB e1 x) (hy : MB e2 y) (h1 : -400 ≤ e1) (h2 : e1 ≤ 400) (h3 : -400 ≤ e2) (h4 : e2 ≤ 400) : MB (max e1 e2 + 2) (fop .add .f64 x y) := by
  obtain ⟨a, rfl, ha⟩ := hx
  obtain ⟨b, rfl, hb⟩ := hy
  obtain ⟨s, m, p, r1, l1, -, -, -, -⟩ := ha.read64 (by omega) (by omega)
  obtain ⟨t, n, q, r2, l2, -, -, -, -⟩ := hb.read64 (by omega) (by omega)
  refine ⟨_, ?_, bd_encode (neg := if Ieee.signed s m (p - min p q).toNat + Ieee.signed t n (q - min p q).toNat = 0 then s && t else decide (Ieee.signed s m (p - min p q).toNat + Ieee.signed t n (q - min p q).toNat < 0)) (sum_bd (s := s) (t := t) l1 l2) (by omega) (by omega)⟩
  show ((Ieee.double.read a).sum (Ieee.double.read b)).map Ieee.double.write = _
  rw [r1, r2]; rfl
theorem MB.sub {e1 e2 : Int} {x y : Option Nat} (hx : MB e1 x) (hy : MB e2 y) (h1 : -400 ≤ e1) (h2 : e1 ≤ 400) (h3 : -400 ≤ e2) (h4 : e2 ≤ 400) : MB (max e1 e2 + 2) (fop .sub .f64 x y) := by
  obtain ⟨a, rfl, ha⟩ := hx
  obtain ⟨b, rfl, hb⟩ := hy
  obtain ⟨s, m, p, r1, l1, -, -, -, -⟩ := ha.read64 (by omega) (by omega)
  obtain ⟨t, n, q, r2, l2, -, -, -, -⟩ := hb.read64 (by omega) (by omega)
  refine ⟨_, ?_, bd_encode (neg := if Ieee.signed s m (p - min p q).toNat + Ieee.signed (!t) n (q - min p q).toNat = 0 then s && !t else decide (Ieee.signed s m (p - min p q).toNat + Ieee.signed (!t) n (q - min p q).toNat < 0)) (sum_bd (s := s) (t := !t) l1 l2) (by omega) (by omega)⟩
  show ((Ieee.double.read a).sum (Ieee.double.read b).opposite).map Ieee.double.write = _
  rw [r1, r2]; rfl

theorem LB.read {e : Int} {b : Nat} (h0 : -1000 ≤ e) (h : top Ieee.double e ≤ mag Ieee.double b) (hf : mag Ieee.double b < Ieee.double.infRung) :
    ∃ s m p, Ieee.double.read b = .number s m p ∧ m ≠ 0 ∧ e ≤ p + m.log2 ∧ (-1074 : Int) ≤ p := by
  have hbp : 0 < Ieee.double.binade := by decide
  have hge : Ieee.double.binade ≤ mag Ieee.double b := by
    refine Nat.le_trans ?_ h
    unfold top
    have e3 : ((Ieee.double.fractionBits : Nat) : Int) = 52 := rfl
    have e4 : Ieee.double.leastPlace = -1074 := rfl
    rw [e3, e4]
    exact Nat.le_mul_of_pos_left _ (by omega)
  have e1 := read_eq Ieee.double b
  rw [if_neg (by omega), if_pos hf] at e1
  refine ⟨_, _, _, e1, by omega, ?_, by show (-1074 : Int) ≤ -1074 + _; omega⟩
  have hb : Ieee.double.binade = 2 ^ 52 := rfl
  have hl : 52 ≤ (Ieee.double.binade + mag Ieee.double b % Ieee.double.binade).log2 := by
    apply (Nat.le_log2 (by omega)).2
    rw [← hb]; omega
  have hd : (e + 1 - 52 + 1074).toNat ≤ mag Ieee.double b / Ieee.double.binade := by
    rw [Nat.le_div_iff_mul_le hbp]; exact h
  have e4 : Ieee.double.leastPlace = -1074 := rfl
  rw [e4]
  omega

theorem MB.div {e1 e2 : Int} {x y : Option Nat} (hx : MB e1 x) (hy : LB e2 y) (h1 : -400 ≤ e1) (h2 : e1 ≤ 400) (h3 : -400 ≤ e2) (h4 : e2 ≤ 400) : MB (e1 - e2 + 3) (fop .quo .f64 x y) := by
  obtain ⟨a, rfl, ha⟩ := hx
  obtain ⟨b, rfl, hb, hbf⟩ := hy
  obtain ⟨s, m, p, r1, l1, lp, hm53, -, -⟩ := ha.read64 (by omega) (by omega)
  obtain ⟨t, n, q, r2, n0, l2, -⟩ := LB.read (by omega) hb hbf
  have hq : (Ieee.Datum.number s m p).quotient 54 (.number t n q) = some (.number (s ^^ t) (2 * ((m <<< (54 + n.log2 - m.log2)) / n) + ((m <<< (54 + n.log2 - m.log2)) % n != 0).toNat) (p - q - (54 + n.log2 - m.log2 : Nat) - 1)) := by
    simp only [Ieee.Datum.quotient]
    rw [if_neg n0]
  refine ⟨_, ?_, bd_encode (neg := s ^^ t) (m := 2 * ((m <<< (54 + n.log2 - m.log2)) / n) + ((m <<< (54 + n.log2 - m.log2)) % n != 0).toNat) (p := p - q - (54 + n.log2 - m.log2 : Nat) - 1) ?_ (by omega) (by omega)⟩
  · show ((Ieee.double.read a).quotient (52 + 2) (Ieee.double.read b)).map Ieee.double.write = _
    rw [r1, r2]
    show ((Ieee.Datum.number s m p).quotient 54 (.number t n q)).map Ieee.double.write = _
    rw [hq]; rfl
  · intro h0
    by_cases hm : m = 0
    · subst hm; simp [Nat.shiftLeft_eq] at h0
    · have hl1 := l1 hm
      have hml : m.log2 < 53 := (Nat.log2_lt hm).2 hm53
      generalize hmore : 54 + n.log2 - m.log2 = more at *
      have hd : m <<< more < 2 ^ (m.log2 + 1 + more) := by
        rw [Nat.shiftLeft_eq, Nat.pow_add]
        exact Nat.mul_lt_mul_of_pos_right Nat.lt_log2_self (Nat.two_pow_pos _)
      have hn : 2 ^ n.log2 ≤ n := Nat.log2_self_le n0
      have hdiv : (m <<< more) / n < 2 ^ (m.log2 + 1 + more - n.log2) := by
        rw [Nat.div_lt_iff_lt_mul (by omega)]
        refine Nat.lt_of_lt_of_le hd ?_
        have : 2 ^ (m.log2 + 1 + more) = 2 ^ (m.log2 + 1 + more - n.log2) * 2 ^ n.log2 := by
          rw [← Nat.pow_add]; congr 1; omega
        rw [this]
        exact Nat.mul_le_mul_left _ hn
      have hb : ∀ b : Bool, b.toNat ≤ 1 := by intro b; cases b <;> decide
      have hb1 := hb ((m <<< more) % n != 0)
      have hlog : (2 * ((m <<< more) / n) + ((m <<< more) % n != 0).toNat).log2 ≤ m.log2 + 1 + more - n.log2 := by
        apply log2_le_of
        rw [Nat.pow_succ]; omega
      omega

end Go.Proofs.Ytlcekfahjakfgaa.Fl
