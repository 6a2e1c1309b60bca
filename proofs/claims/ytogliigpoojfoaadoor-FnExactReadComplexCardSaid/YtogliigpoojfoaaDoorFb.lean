/-
  Bounds of floating point: where exact results lie below a power of two, the words that stand for them do so, too.
-/
import Derived.Test.YtogliigpoojfoaaDoorFl
namespace Go.Proofs.YtogliigpoojfoaaDoor.Fl
open Go

theorem log2_lt {n e : Nat} (h : n.log2 < e) : n < 2 ^ e := by
  by_cases h0 : n = 0
  · subst h0; exact Nat.two_pow_pos _
  · exact (Nat.log2_lt h0).1 h
theorem log2_le_of {n e : Nat} (h : n < 2 ^ (e + 1)) : n.log2 ≤ e := by
  by_cases h0 : n = 0
  · subst h0; simp
  · have := (Nat.log2_lt h0).2 h; omega

theorem cut_even_le (neg : Bool) (n drop : Nat) : Ieee.Toward.even.cut neg n drop ≤ n / 2 ^ (min drop (n.log2 + 2)) + 1 := by
  unfold Ieee.Toward.cut
  simp only [Nat.shiftLeft_eq, Nat.one_mul]
  have h : ∀ b : Bool, b.toNat ≤ 1 := by intro b; cases b <;> decide
  exact Nat.add_le_add_left (h _) _

theorem cut_zero (neg : Bool) (n : Nat) : Ieee.Toward.even.cut neg n 0 = n := by
  unfold Ieee.Toward.cut
  simp [Nat.shiftLeft_eq, Nat.mod_one]

/-- The rung of 2 to the power of e. -/
def top (f : Ieee.Format) (e : Int) : Nat := (e + 1 - f.fractionBits - f.leastPlace).toNat * f.binade

theorem kept_le (f : Ieee.Format) (neg : Bool) (mag : Nat) (place last : Int) (h1 : place + mag.log2 - f.fractionBits ≤ last) :
    Ieee.Toward.even.cut neg (mag <<< (place - last).toNat) (last - place).toNat ≤ 2 ^ (f.fractionBits + 1) := by
  by_cases hp : last ≤ place
  · have e0 : (last - place).toNat = 0 := by omega
    rw [e0, cut_zero, Nat.shiftLeft_eq]
    have hm : mag < 2 ^ (mag.log2 + 1) := Nat.lt_log2_self
    have := Nat.mul_le_mul_right (2 ^ (place - last).toNat) (Nat.le_of_lt hm)
    refine Nat.le_trans this ?_
    rw [← Nat.pow_add]
    exact Nat.pow_le_pow_right (by decide) (by omega)
  · have e0 : (place - last).toNat = 0 := by omega
    rw [e0, Nat.shiftLeft_zero]
    refine Nat.le_trans (cut_even_le neg mag _) ?_
    have hm : mag < 2 ^ (mag.log2 + 1) := Nat.lt_log2_self
    by_cases hd : (last - place).toNat ≤ mag.log2 + 1
    · have em : min (last - place).toNat (mag.log2 + 2) = (last - place).toNat := by omega
      rw [em]
      have : mag / 2 ^ (last - place).toNat < 2 ^ (f.fractionBits + 1) := by
        rw [Nat.div_lt_iff_lt_mul (Nat.two_pow_pos _), ← Nat.pow_add]
        exact Nat.lt_of_lt_of_le hm (Nat.pow_le_pow_right (by decide) (by omega))
      omega
    · have hz : mag / 2 ^ (min (last - place).toNat (mag.log2 + 2)) = 0 := by
        apply Nat.div_eq_of_lt
        exact Nat.lt_of_lt_of_le hm (Nat.pow_le_pow_right (by decide) (by omega))
      rw [hz]
      have : 1 ≤ 2 ^ (f.fractionBits + 1) := Nat.one_le_two_pow
      omega

theorem nearest_bound (f : Ieee.Format) (neg : Bool) (mag : Nat) (place e : Int) (hm : mag ≠ 0 → place + mag.log2 < e) (he : f.leastPlace + f.fractionBits + 1 ≤ e) :
    ∃ r, f.nearest neg mag place = f.word neg r ∧ r ≤ top f e := by
  unfold Ieee.Format.nearest
  split
  · exact ⟨0, rfl, Nat.zero_le _⟩
  · rename_i h0
    dsimp only
    have hp := hm h0
    generalize hl : max (place + mag.log2 - f.fractionBits) f.leastPlace = last
    have h1 : place + mag.log2 - f.fractionBits ≤ last := by omega
    have h2 : last ≤ e - 1 - f.fractionBits := by omega
    have h3 : f.leastPlace ≤ last := by omega
    refine ⟨_, rfl, ?_⟩
    have hk := kept_le f neg mag place last h1
    refine Nat.le_trans (Nat.min_le_left ..) ?_
    unfold top
    have hb : 2 ^ (f.fractionBits + 1) = 2 * f.binade := by unfold Ieee.Format.binade; rw [Nat.pow_succ, Nat.mul_comm]
    rw [hb] at hk
    have hq : (last - f.leastPlace).toNat + 2 ≤ (e + 1 - f.fractionBits - f.leastPlace).toNat := by omega
    have := Nat.mul_le_mul_right f.binade hq
    rw [Nat.add_mul] at this
    omega

theorem word_mod (f : Ieee.Format) (neg : Bool) {r : Nat} (h : r < f.signWeight) : f.word neg r % f.signWeight = r := by
  unfold Ieee.Format.word
  split
  · rw [Nat.add_mod_left]; exact Nat.mod_eq_of_lt h
  · exact Nat.mod_eq_of_lt h

/-- The absolute value is at most 2 to the power of e. -/
def Bd (k : FloatKind) (e : Int) (b : Nat) : Prop := b % k.format.signWeight ≤ top k.format e

theorem Bd.mono {k : FloatKind} {e e' : Int} {b : Nat} (h : Bd k e b) (he : e ≤ e') : Bd k e' b := by
  refine Nat.le_trans h ?_
  unfold top
  exact Nat.mul_le_mul_right _ (by omega)

theorem top_lt (f : Ieee.Format) (e : Int) (h : e + 1 - f.fractionBits - f.leastPlace < (2 : Int) ^ f.exponentBits - 1) (h0 : 0 ≤ e + 1 - f.fractionBits - f.leastPlace) : top f e < f.infRung := by
  unfold top Ieee.Format.infRung
  have hb : 0 < f.binade := Nat.two_pow_pos _
  apply Nat.mul_lt_mul_of_pos_right _ hb
  have h1 : 1 ≤ 2 ^ f.exponentBits := Nat.one_le_two_pow
  have : (((2 ^ f.exponentBits - 1 : Nat)) : Int) = (2 : Int) ^ f.exponentBits - 1 := by
    rw [Int.natCast_sub h1]; simp
  omega

/-- What a word of at most 2 to the power of e stands for. -/
theorem Bd.read {k : FloatKind} {e : Int} {b : Nat} (h : Bd k e b) (h0 : k.format.leastPlace + k.format.fractionBits ≤ e) (h1 : top k.format e < k.format.infRung) :
    ∃ s m p, k.decode b = .number s m p ∧ (m ≠ 0 → p + m.log2 ≤ e) ∧ k.format.leastPlace ≤ p ∧ m < 2 ^ (k.format.fractionBits + 1) := by
  unfold Bd at h
  unfold FloatKind.decode Ieee.Format.read
  generalize hr : b % k.format.signWeight = r at h
  generalize hf : k.format = f at *
  dsimp only
  have hb : f.binade = 2 ^ f.fractionBits := rfl
  have hbp : 0 < f.binade := Nat.two_pow_pos _
  split
  · rename_i hlt
    refine ⟨_, _, _, rfl, fun hm => ?_, Int.le_refl _, ?_⟩
    · have : r.log2 < f.fractionBits := (Nat.log2_lt hm).2 (by omega)
      omega
    · rw [Nat.pow_succ, ← hb]; omega
  · rename_i hge
    rw [if_pos (by omega)]
    have hmod := Nat.mod_lt r hbp
    refine ⟨_, _, _, rfl, fun _ => ?_, by omega, by rw [Nat.pow_succ, ← hb]; omega⟩
    have hl : (f.binade + r % f.binade).log2 ≤ f.fractionBits := log2_le_of (by rw [Nat.pow_succ, ← hb]; omega)
    have hd : r / f.binade ≤ (e + 1 - f.fractionBits - f.leastPlace).toNat := by
      refine Nat.div_le_of_le_mul ?_
      rw [Nat.mul_comm]; exact h
    have hd1 : 1 ≤ r / f.binade := by rw [Nat.le_div_iff_mul_le hbp]; omega
    omega

theorem finite_of_rung {k : FloatKind} {neg : Bool} {r : Nat} (h : r < k.format.infRung) : (k.decode (k.format.word neg r)).isInfinity = false := by
  have hlt := k.format.infRung_lt
  unfold FloatKind.decode Ieee.Format.read
  dsimp only
  rw [word_mod _ _ (by omega)]
  split
  all_goals first | rfl | (rw [if_pos h]; rfl)

theorem Bd.of_nearest {k : FloatKind} {neg : Bool} {mag : Nat} {place e : Int} (hm : mag ≠ 0 → place + mag.log2 < e) (he : k.format.leastPlace + k.format.fractionBits + 1 ≤ e) (h1 : top k.format e < k.format.infRung) :
    Bd k e (k.encode (.number neg mag place)) := by
  obtain ⟨r, hr, hle⟩ := nearest_bound k.format neg mag place e hm he
  have hlt := k.format.infRung_lt
  show k.format.nearest neg mag place % _ ≤ _
  rw [hr, word_mod _ _ (by omega)]
  exact hle

theorem not_inf_of_nearest {k : FloatKind} {neg : Bool} {mag : Nat} {place e : Int} (hm : mag ≠ 0 → place + mag.log2 < e) (he : k.format.leastPlace + k.format.fractionBits + 1 ≤ e) (h1 : top k.format e < k.format.infRung) :
    (k.decode (k.encode (.number neg mag place))).isInfinity = false := by
  obtain ⟨r, hr, hle⟩ := nearest_bound k.format neg mag place e hm he
  show (k.decode (k.format.nearest neg mag place)).isInfinity = false
  rw [hr]
  exact finite_of_rung (by omega)

/-- A 64-bit number of at most 2 to the power of 126 fits the 32-bit ones. -/
theorem fits_of_bd {b : Nat} (h : Bd .f64 126 b) : fits .f64 .f32 b = true := by
  obtain ⟨s, m, p, he, hm, -, -⟩ := h.read (by decide) (by decide)
  have := not_inf_of_nearest (k := .f32) (neg := s) (mag := m) (place := p) (e := 127) (fun h => by have := hm h; omega) (by decide) (by decide)
  unfold fits
  rw [he]; simp [this]

theorem single_number {b : Nat} {s : Bool} {m : Nat} {p : Int} (h : FloatKind.f32.decode b = .number s m p) : (m ≠ 0 → p + m.log2 ≤ 127) := by
  unfold FloatKind.decode Ieee.Format.read at h
  dsimp only at h
  have bi : FloatKind.f32.format.binade = 8388608 := rfl
  have ir : FloatKind.f32.format.infRung = 2139095040 := rfl
  have lp : FloatKind.f32.format.leastPlace = -149 := rfl
  rw [bi, ir, lp] at h
  generalize b % FloatKind.f32.format.signWeight = r at h
  split at h
  · rename_i hlt
    cases h
    intro hm
    have : m.log2 < 23 := (Nat.log2_lt hm).2 (by omega)
    omega
  · split at h
    · cases h
      intro hm
      have : (8388608 + r % 8388608).log2 < 24 := (Nat.log2_lt hm).2 (by omega)
      omega
    · split at h <;> cases h

/-- Every 32-bit number fits the 64-bit ones. -/
theorem fits_wide (b : Nat) : fits .f32 .f64 b = true := by
  unfold fits
  cases h : FloatKind.f32.decode b with
  | number s m p =>
    have := not_inf_of_nearest (k := .f64) (neg := s) (mag := m) (place := p) (e := 128) (fun hm => by have := single_number h hm; omega) (by decide) (by decide)
    simp [this]
  | infinity s => simp
  | nan s t => simp

end Go.Proofs.YtogliigpoojfoaaDoor.Fl
