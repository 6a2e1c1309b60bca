/-
  The values of floating point as whole numbers of the least unit: what a word is worth, that rounding goes upwards with what is rounded, and that numbers which a format has are rounded to themselves.
-/
import Derived.Test.YtogliigpoojfoaaDoorFb
namespace Go.Proofs.YtogliigpoojfoaaDoor.Fl
open Go

/-- What a rung is worth, in least units. -/
def V (f : Ieee.Format) (r : Nat) : Nat := if r < f.binade then r else (f.binade + r % f.binade) * 2 ^ (r / f.binade - 1)

theorem V_small {f : Ieee.Format} {r : Nat} (h : r < f.binade) : V f r = r := if_pos h

/-- A finite word, read. -/
theorem read_word (f : Ieee.Format) (neg : Bool) {r : Nat} (h : r < f.infRung) :
    ∃ m p, f.read (f.word neg r) = .number neg m p ∧ f.leastPlace ≤ p ∧ m * 2 ^ (p - f.leastPlace).toNat = V f r ∧ m < 2 ^ (f.fractionBits + 1) := by
  have hlt := f.infRung_lt
  have hbp : 0 < f.binade := Nat.two_pow_pos _
  have hb : f.binade = 2 ^ f.fractionBits := rfl
  have hn : (f.word neg r / f.signWeight % 2 == 1) = neg := by
    unfold Ieee.Format.word
    have hs : 0 < f.signWeight := by omega
    cases neg
    · simp only [Bool.false_eq_true, if_false]; rw [Nat.div_eq_of_lt (by omega)]; rfl
    · simp only [if_true]; rw [Nat.add_div_left _ hs, Nat.div_eq_of_lt (by omega)]; rfl
  unfold Ieee.Format.read V
  dsimp only
  rw [word_mod _ _ (by omega), hn]
  split
  · rename_i h1
    exact ⟨_, _, rfl, Int.le_refl _, by simp, by rw [Nat.pow_succ, ← hb]; omega⟩
  · first | rw [if_pos h] | skip
    have hmod := Nat.mod_lt r hbp
    refine ⟨_, _, rfl, by omega, ?_, by rw [Nat.pow_succ, ← hb]; omega⟩
    have : (f.leastPlace + ((r / f.binade - 1 : Nat) : Int) - f.leastPlace).toNat = r / f.binade - 1 := by omega
    rw [this]

theorem word_of (f : Ieee.Format) {b : Nat} (h : b < 2 * f.signWeight) : ∃ neg, b = f.word neg (b % f.signWeight) := by
  have hs : 0 < f.signWeight := Nat.two_pow_pos _
  by_cases h1 : b < f.signWeight
  · exact ⟨false, by simp [Ieee.Format.word, Nat.mod_eq_of_lt h1]⟩
  · refine ⟨true, ?_⟩
    have : b % f.signWeight = b - f.signWeight := by rw [Nat.mod_eq_sub_mod (by omega), Nat.mod_eq_of_lt (by omega)]
    simp only [Ieee.Format.word, if_true]; omega

theorem V_lt_succ (f : Ieee.Format) (r : Nat) : V f r < V f (r + 1) := by
  have hbp : 0 < f.binade := Nat.two_pow_pos _
  unfold V
  by_cases h1 : r + 1 < f.binade
  · rw [if_pos (by omega), if_pos h1]; omega
  · rw [if_neg h1]
    by_cases h2 : r < f.binade
    · have e : r + 1 = f.binade := by omega
      rw [if_pos h2, e, Nat.mod_self, Nat.div_self hbp]; simp; omega
    · rw [if_neg h2]
      have hmod := Nat.mod_lt r hbp
      have hdm := Nat.div_add_mod r f.binade
      have hd1 : 1 ≤ r / f.binade := by rw [Nat.le_div_iff_mul_le hbp]; omega
      by_cases h3 : r % f.binade + 1 < f.binade
      · have e1 : (r + 1) / f.binade = r / f.binade := by
          rw [← hdm, Nat.add_assoc, Nat.mul_add_div hbp, Nat.div_eq_of_lt h3, Nat.mul_add_div hbp, Nat.div_eq_of_lt hmod]
        have e2 : (r + 1) % f.binade = r % f.binade + 1 := by
          conv => lhs; rw [← hdm, Nat.add_assoc]
          rw [Nat.mul_add_mod, Nat.mod_eq_of_lt h3]
        rw [e1, e2]
        exact Nat.mul_lt_mul_of_pos_right (by omega) (Nat.two_pow_pos _)
      · have e3 : r % f.binade + 1 = f.binade := by omega
        have e1 : (r + 1) / f.binade = r / f.binade + 1 := by
          rw [← hdm, Nat.add_assoc, e3, Nat.mul_add_div hbp, Nat.div_self hbp, Nat.mul_add_div hbp, Nat.div_eq_of_lt hmod]
        have e2 : (r + 1) % f.binade = 0 := by
          rw [← hdm, Nat.add_assoc, e3, Nat.mul_add_mod, Nat.mod_self]
        rw [e1, e2]
        have e4 : 2 ^ (r / f.binade + 1 - 1) = 2 * 2 ^ (r / f.binade - 1) := by
          rw [← Nat.pow_succ']; congr 1; omega
        rw [e4, Nat.add_zero, ← Nat.mul_assoc]
        exact Nat.mul_lt_mul_of_pos_right (by omega) (Nat.two_pow_pos _)

theorem V_lt {f : Ieee.Format} {r q : Nat} (h : r < q) : V f r < V f q := by
  induction q with
  | zero => omega
  | succ q ih =>
    have := V_lt_succ f q
    by_cases e : r = q
    · subst e; exact this
    · exact Nat.lt_trans (ih (by omega)) this
theorem V_le {f : Ieee.Format} {r q : Nat} (h : r ≤ q) : V f r ≤ V f q := by
  by_cases e : r = q
  · subst e; exact Nat.le_refl _
  · exact Nat.le_of_lt (V_lt (by omega))
theorem V_lt_iff {f : Ieee.Format} {r q : Nat} : V f r < V f q ↔ r < q := by
  constructor
  · intro h
    by_cases e : r < q
    · exact e
    · have := V_le (f := f) (r := q) (q := r) (by omega); omega
  · exact V_lt
theorem V_inj {f : Ieee.Format} {r q : Nat} (h : V f r = V f q) : r = q := by
  by_cases h1 : r < q
  · have := V_lt (f := f) h1; omega
  · by_cases h2 : q < r
    · have := V_lt (f := f) h2; omega
    · omega

/-- The signed value of a word. -/
def sV (neg : Bool) (v : Nat) : Int := if neg then -(v : Int) else v

theorem shiftLeft_signed (neg : Bool) (m up : Nat) : Ieee.signed neg m up = sV neg (m * 2 ^ up) := by
  unfold Ieee.signed sV
  rw [Nat.shiftLeft_eq]

theorem order_number (s t : Bool) (m n : Nat) (i j lp : Int) (hi : lp ≤ i) (hj : lp ≤ j) :
    Ieee.Datum.order (.number s m i) (.number t n j) = some (compare (sV s (m * 2 ^ (i - lp).toNat)) (sV t (n * 2 ^ (j - lp).toNat))) := by
  unfold Ieee.Datum.order
  simp only [shiftLeft_signed]
  congr 1
  generalize hb : min i j = base
  have e1 : m * 2 ^ (i - lp).toNat = m * 2 ^ (i - base).toNat * 2 ^ (base - lp).toNat := by
    rw [Nat.mul_assoc, ← Nat.pow_add]; congr 2; omega
  have e2 : n * 2 ^ (j - lp).toNat = n * 2 ^ (j - base).toNat * 2 ^ (base - lp).toNat := by
    rw [Nat.mul_assoc, ← Nat.pow_add]; congr 2; omega
  rw [e1, e2]
  generalize m * 2 ^ (i - base).toNat = a
  generalize n * 2 ^ (j - base).toNat = b
  have hk : 0 < 2 ^ (base - lp).toNat := Nat.two_pow_pos _
  generalize 2 ^ (base - lp).toNat = k at hk
  have hs : ∀ (s : Bool) (a : Nat), sV s (a * k) = sV s a * (k : Int) := by
    intro s a; cases s
    · simp [sV]
    · simp [sV, Int.neg_mul]
  rw [hs, hs]
  have hk' : (0 : Int) < (k : Int) := by omega
  generalize sV s a = x
  generalize sV t b = y
  rw [Int.compare_eq_ite_lt, Int.compare_eq_ite_lt]
  by_cases h1 : x < y
  · rw [if_pos h1, if_pos (Int.mul_lt_mul_of_pos_right h1 hk')]
  · rw [if_neg h1]
    by_cases h2 : y < x
    · rw [if_pos h2, if_neg (by have := Int.mul_lt_mul_of_pos_right h2 hk'; omega), if_pos (Int.mul_lt_mul_of_pos_right h2 hk')]
    · have : x = y := by omega
      subst this; simp

/-- How two finite words stand to each other. -/
theorem order_word (f : Ieee.Format) (s t : Bool) {r q : Nat} (hr : r < f.infRung) (hq : q < f.infRung) :
    f.order (f.word s r) (f.word t q) = some (compare (sV s (V f r)) (sV t (V f q))) := by
  obtain ⟨m, p, e1, l1, v1, -⟩ := read_word f s hr
  obtain ⟨n, j, e2, l2, v2, -⟩ := read_word f t hq
  unfold Ieee.Format.order
  rw [e1, e2, order_number _ _ _ _ _ _ f.leastPlace l1 l2, v1, v2]

/-- The rung to which a magnitude is rounded. -/
def rnd (f : Ieee.Format) (mag : Nat) (place : Int) : Nat :=
  if mag = 0 then 0 else
  let last := max (place + mag.log2 - f.fractionBits) f.leastPlace
  (last - f.leastPlace).toNat * f.binade + Ieee.Toward.even.cut false (mag <<< (place - last).toNat) (last - place).toNat

theorem cut_neg (neg : Bool) (n d : Nat) : Ieee.Toward.even.cut neg n d = Ieee.Toward.even.cut false n d := rfl

theorem nearest_rnd (f : Ieee.Format) (neg : Bool) (mag : Nat) (place : Int) : f.nearest neg mag place = f.word neg (min (rnd f mag place) f.infRung) := by
  unfold Ieee.Format.nearest rnd
  split
  · simp
  · dsimp only
    rw [cut_neg]

/-- 'Half to even' of n over g. -/
def half (n g : Nat) : Nat := n / g + (decide (g < 2 * (n % g)) || (g == 2 * (n % g) && n / g % 2 == 1)).toNat

theorem cut_half (n d : Nat) (h : d ≤ n.log2 + 2) : Ieee.Toward.even.cut false n d = half n (2 ^ d) := by
  unfold Ieee.Toward.cut half
  rw [Nat.min_eq_left h, Nat.shiftLeft_eq, Nat.one_mul]

theorem half_mono {n m g : Nat} (h : n ≤ m) : half n g ≤ half m g := by
  unfold half
  have hd : n / g ≤ m / g := Nat.div_le_div_right h
  have b1 : ∀ b : Bool, b.toNat ≤ 1 := by intro b; cases b <;> decide
  by_cases e : n / g = m / g
  · have h1 := Nat.div_add_mod n g
    have h2 := Nat.div_add_mod m g
    rw [e] at h1 ⊢
    have hr : n % g ≤ m % g := by omega
    apply Nat.add_le_add_left
    generalize n % g = a at *
    generalize m % g = b at *
    by_cases c1 : g < 2 * a
    · have c2 : g < 2 * b := by omega
      simp [c1, c2]
    · by_cases c2 : g < 2 * b
      · simp only [c2, decide_true, Bool.true_or]; exact b1 _
      · by_cases c4 : g = 2 * a
        · have c5 : g = 2 * b := by omega
          rw [show decide (g < 2 * a) = false from decide_eq_false c1, show (g == 2 * a) = true from beq_iff_eq.2 c4, show (g == 2 * b) = true from beq_iff_eq.2 c5, show decide (g < 2 * b) = false from decide_eq_false c2]
          exact Nat.le_refl _
        · rw [show decide (g < 2 * a) = false from decide_eq_false c1, show (g == 2 * a) = false from beq_eq_false_iff_ne.2 c4]
          exact Nat.zero_le _
  · have := b1 (decide (g < 2 * (n % g)) || (g == 2 * (n % g) && n / g % 2 == 1))
    omega

theorem half_le {n g b : Nat} (hg : 0 < g) (h : n ≤ b * g) : half n g ≤ b := by
  have hm := half_mono (g := g) h
  have : half (b * g) g = b := by
    unfold half
    rw [Nat.mul_div_cancel _ hg, Nat.mul_mod_left]
    have : ¬ g < 0 := by omega
    have h2 : (g == 2 * 0) = false := by simp; omega
    simp [h2]
  omega
theorem le_half {n g b : Nat} (hg : 0 < g) (h : b * g ≤ n) : b ≤ half n g := by
  have : b ≤ n / g := by rwa [Nat.le_div_iff_mul_le hg]
  unfold half; omega

/-- Rounding of a whole number of least units. -/
theorem rnd_units (f : Ieee.Format) (N : Nat) : rnd f N f.leastPlace = (N.log2 - f.fractionBits) * f.binade + half N (2 ^ (N.log2 - f.fractionBits)) := by
  unfold rnd
  split
  · rename_i h; subst h; simp [half]
  · dsimp only
    generalize hl : max (f.leastPlace + N.log2 - f.fractionBits) f.leastPlace = last
    have e1 : (last - f.leastPlace).toNat = N.log2 - f.fractionBits := by omega
    have e2 : (f.leastPlace - last).toNat = 0 := by omega
    rw [e1, e2, Nat.shiftLeft_zero, cut_half _ _ (by omega)]

theorem rnd_mono (f : Ieee.Format) {N M : Nat} (h : N ≤ M) : rnd f N f.leastPlace ≤ rnd f M f.leastPlace := by
  rw [rnd_units, rnd_units]
  have hb : f.binade = 2 ^ f.fractionBits := rfl
  by_cases hN : N = 0
  · subst hN; simp [half]
  have hlog : N.log2 ≤ M.log2 := by
    have h1 := Nat.log2_self_le hN
    have h2 : M < 2 ^ (M.log2 + 1) := Nat.lt_log2_self
    by_cases c : N.log2 ≤ M.log2
    · exact c
    · have := Nat.pow_le_pow_right (n := 2) (by decide) (show M.log2 + 1 ≤ N.log2 by omega); omega
  by_cases e : N.log2 - f.fractionBits = M.log2 - f.fractionBits
  · rw [e]; exact Nat.add_le_add_left (half_mono h) _
  · have hlt : N.log2 - f.fractionBits + 1 ≤ M.log2 - f.fractionBits := by omega
    have u : half N (2 ^ (N.log2 - f.fractionBits)) ≤ 2 * f.binade := by
      apply half_le (Nat.two_pow_pos _)
      have : N < 2 ^ (N.log2 + 1) := Nat.lt_log2_self
      refine Nat.le_trans (Nat.le_of_lt this) ?_
      rw [hb, ← Nat.pow_succ', ← Nat.pow_add]
      exact Nat.pow_le_pow_right (by decide) (by omega)
    have l : f.binade ≤ half M (2 ^ (M.log2 - f.fractionBits)) := by
      apply le_half (Nat.two_pow_pos _)
      have : 2 ^ M.log2 ≤ M := Nat.log2_self_le (by omega)
      refine Nat.le_trans ?_ this
      rw [hb, ← Nat.pow_add]
      exact Nat.pow_le_pow_right (by decide) (by omega)
    have := Nat.mul_le_mul_right f.binade hlt
    rw [Nat.add_mul] at this
    omega

theorem rnd_V (f : Ieee.Format) (r : Nat) : rnd f (V f r) f.leastPlace = r := by
  rw [rnd_units]
  have hb : f.binade = 2 ^ f.fractionBits := rfl
  have hbp : 0 < f.binade := Nat.two_pow_pos _
  unfold V
  split
  · rename_i h
    have hl : r.log2 ≤ f.fractionBits := log2_le_of (by rw [Nat.pow_succ, ← hb]; omega)
    have : r.log2 - f.fractionBits = 0 := by omega
    rw [this]; simp [half, Nat.mod_one]
  · rename_i h
    have hmod := Nat.mod_lt r hbp
    have hdm := Nat.div_add_mod r f.binade
    have hd1 : 1 ≤ r / f.binade := by rw [Nat.le_div_iff_mul_le hbp]; omega
    have hl : ((f.binade + r % f.binade) * 2 ^ (r / f.binade - 1)).log2 = f.fractionBits + (r / f.binade - 1) := by
      apply Nat.le_antisymm
      · apply log2_le_of
        have : f.binade + r % f.binade < 2 ^ (f.fractionBits + 1) := by rw [Nat.pow_succ, ← hb]; omega
        have := Nat.mul_lt_mul_of_pos_right this (Nat.two_pow_pos (r / f.binade - 1))
        rw [← Nat.pow_add] at this
        have e : f.fractionBits + 1 + (r / f.binade - 1) = f.fractionBits + (r / f.binade - 1) + 1 := by omega
        rwa [e] at this
      · apply (Nat.le_log2 (Nat.mul_ne_zero (by omega) (Nat.ne_of_gt (Nat.two_pow_pos _)))).2
        rw [Nat.pow_add, ← hb]
        exact Nat.mul_le_mul_right _ (by omega)
    rw [hl]
    have e0 : f.fractionBits + (r / f.binade - 1) - f.fractionBits = r / f.binade - 1 := by omega
    rw [e0]
    have hg : 0 < 2 ^ (r / f.binade - 1) := Nat.two_pow_pos _
    have e1 : half ((f.binade + r % f.binade) * 2 ^ (r / f.binade - 1)) (2 ^ (r / f.binade - 1)) = f.binade + r % f.binade :=
      Nat.le_antisymm (half_le hg (Nat.le_refl _)) (le_half hg (Nat.le_refl _))
    rw [e1, Nat.sub_mul]
    have : 1 * f.binade ≤ r / f.binade * f.binade := Nat.mul_le_mul_right _ hd1
    rw [Nat.mul_comm] at hdm
    omega

/-- A magnitude may be written at a lower place. -/
theorem rnd_shift (f : Ieee.Format) (m s : Nat) (p : Int) : rnd f (m * 2 ^ s) (p - s) = rnd f m p := by
  unfold rnd
  by_cases h0 : m = 0
  · subst h0; simp
  have hs : 0 < 2 ^ s := Nat.two_pow_pos _
  rw [if_neg h0, if_neg (Nat.mul_ne_zero h0 (Nat.ne_of_gt hs))]
  have hlog : (m * 2 ^ s).log2 = m.log2 + s := by
    apply Nat.le_antisymm
    · apply log2_le_of
      have := Nat.mul_lt_mul_of_pos_right (Nat.lt_log2_self (n := m)) hs
      rw [← Nat.pow_add] at this
      have e : m.log2 + 1 + s = m.log2 + s + 1 := by omega
      rwa [e] at this
    · apply (Nat.le_log2 (Nat.mul_ne_zero h0 (Nat.ne_of_gt hs))).2
      rw [Nat.pow_add]
      exact Nat.mul_le_mul_right _ (Nat.log2_self_le h0)
  dsimp only
  rw [hlog]
  have e0 : p - s + ((m.log2 + s : Nat) : Int) - f.fractionBits = p + m.log2 - f.fractionBits := by omega
  rw [e0]
  generalize hl : max (p + m.log2 - f.fractionBits) f.leastPlace = last
  congr 1
  by_cases hp : last ≤ p
  · have d0 : (last - p).toNat = 0 := by omega
    rw [d0, cut_zero, Nat.shiftLeft_eq, Nat.shiftLeft_eq]
    by_cases hp2 : last ≤ p - s
    · have d1 : (last - (p - s)).toNat = 0 := by omega
      rw [d1, cut_zero, Nat.mul_assoc, ← Nat.pow_add]; congr 2; omega
    · have d1 : (p - s - last).toNat = 0 := by omega
      rw [d1, Nat.pow_zero, Nat.mul_one, cut_half _ _ (by rw [hlog]; omega)]
      have e : m * 2 ^ s = m * 2 ^ (p - last).toNat * 2 ^ (last - (p - s)).toNat := by
        rw [Nat.mul_assoc, ← Nat.pow_add]; congr 2; omega
      rw [e]
      exact Nat.le_antisymm (half_le (Nat.two_pow_pos _) (Nat.le_refl _)) (le_half (Nat.two_pow_pos _) (Nat.le_refl _))
  · have d1 : (p - last).toNat = 0 := by omega
    have d2 : (p - s - last).toNat = 0 := by omega
    rw [d1, d2, Nat.shiftLeft_zero, Nat.shiftLeft_zero]
    have d3 : (last - (p - s)).toNat = (last - p).toNat + s := by omega
    rw [d3]
    unfold Ieee.Toward.cut
    rw [hlog]
    have d4 : min ((last - p).toNat + s) (m.log2 + s + 2) = min (last - p).toNat (m.log2 + 2) + s := by omega
    rw [d4]
    simp only [Nat.shiftLeft_eq, Nat.one_mul]
    rw [Nat.pow_add]
    generalize 2 ^ min (last - p).toNat (m.log2 + 2) = g
    generalize 2 ^ s = k at hs
    rw [Nat.mul_div_mul_right _ _ hs, Nat.mul_mod_mul_right]
    have c1 : decide (g * k < 2 * (m % g * k)) = decide (g < 2 * (m % g)) := by
      rw [← Nat.mul_assoc]
      exact decide_eq_decide.2 ⟨fun h => Nat.lt_of_mul_lt_mul_right h, fun h => Nat.mul_lt_mul_of_pos_right h hs⟩
    have c2 : (g * k == 2 * (m % g * k)) = (g == 2 * (m % g)) := by
      rw [← Nat.mul_assoc, Bool.eq_iff_iff]; simp only [beq_iff_eq]
      exact ⟨fun h => Nat.eq_of_mul_eq_mul_right hs h, fun h => congrArg (· * k) h⟩
    rw [c1, c2]

theorem rnd_at (f : Ieee.Format) (m : Nat) {p : Int} (h : f.leastPlace ≤ p) : rnd f m p = rnd f (m * 2 ^ (p - f.leastPlace).toNat) f.leastPlace := by
  have := rnd_shift f m (p - f.leastPlace).toNat p
  rw [← this]; congr 1; omega

end Go.Proofs.YtogliigpoojfoaaDoor.Fl
