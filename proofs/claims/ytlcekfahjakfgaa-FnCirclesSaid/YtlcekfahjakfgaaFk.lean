/-
  Sharper bounds: a number of at most 2 to the power of e, the power itself among them.
-/
import Derived.Test.YtlcekfahjakfgaaAg
namespace Go.Proofs.Ytlcekfahjakfgaa.Fl
open Go

/-- The size of a datum: below the power, or the power itself. -/
def Sz (m : Nat) (p e : Int) : Prop := m ≠ 0 → p + m.log2 < e ∨ (p + m.log2 = e ∧ m = 2 ^ m.log2)

theorem V_top {e : Int} (h0 : -1000 ≤ e) : V Ieee.double (top Ieee.double e) = 2 ^ (e + 1074).toNat := by
  have e3 : ((Ieee.double.fractionBits : Nat) : Int) = 52 := rfl
  have e4 : Ieee.double.leastPlace = -1074 := rfl
  have hbp : 0 < Ieee.double.binade := by decide
  unfold top V
  rw [e3, e4]
  obtain ⟨n, hn⟩ : ∃ n : Nat, (e + 1 - 52 - -1074).toNat = n + 1 := ⟨(e + 1 - 52 - -1074).toNat - 1, by omega⟩
  rw [hn, if_neg (by rw [Nat.add_mul]; omega), Nat.mul_mod_left, Nat.mul_div_cancel _ hbp, Nat.add_zero, Nat.add_sub_cancel]
  show 2 ^ 52 * 2 ^ n = _
  rw [← Nat.pow_add]; congr 1; omega
theorem rnd_pow {j : Nat} {e : Int} (h0 : -1000 ≤ e) : rnd Ieee.double (2 ^ j) (e - j) = top Ieee.double e := by
  have h := rnd_shift Ieee.double 1 j e
  rw [Nat.one_mul] at h
  rw [h, rnd_at Ieee.double 1 (show Ieee.double.leastPlace ≤ e by show (-1074 : Int) ≤ e; omega), Nat.one_mul]
  have : (e - Ieee.double.leastPlace).toNat = (e + 1074).toNat := by show (e - -1074).toNat = _; congr 1
  rw [this, ← V_top h0, rnd_V]
theorem sz_encode {neg : Bool} {m : Nat} {p e : Int} (h : Sz m p e) (h0 : -1000 ≤ e) (h1 : e ≤ 1000) : Bd .f64 e (Ieee.double.write (.number neg m p)) := by
  by_cases hm : m = 0
  · exact bd_encode (fun c => absurd hm c) h0 h1
  · rcases h hm with h | ⟨h, hp⟩
    · exact bd_encode (fun _ => h) h0 h1
    · have hlt := top_double_lt h1
      show mag Ieee.double (Ieee.double.nearest neg m p) ≤ _
      rw [nearest_rnd, mag_word _ _ (Nat.min_le_right ..)]
      have e1 : p = e - (m.log2 : Nat) := by omega
      have e2 : rnd Ieee.double m p = top Ieee.double e := by
        have := rnd_pow (j := m.log2) h0
        rwa [← hp, ← e1] at this
      rw [e2]
      exact Nat.min_le_left ..
theorem Bd.sz {e : Int} {b : Nat} (h : Bd .f64 e b) (h0 : -1000 ≤ e) (h1 : e ≤ 1000) :
    ∃ s m p, Ieee.double.read b = .number s m p ∧ Sz m p e ∧ (-1074 : Int) ≤ p ∧ m < 2 ^ 53 := by
  obtain ⟨s, m, p, r1, l1, p1, hm, -, v⟩ := h.read64 h0 h1
  refine ⟨s, m, p, r1, fun h0' => ?_, p1, hm⟩
  have hl := l1 h0'
  by_cases c : p + m.log2 < e
  · exact .inl c
  · have he : p + m.log2 = e := by omega
    refine .inr ⟨he, ?_⟩
    have hv := V_le (f := Ieee.double) (show mag Ieee.double b ≤ top Ieee.double e from h)
    rw [← v, V_top h0] at hv
    have hk : (e + 1074).toNat = m.log2 + (p + 1074).toNat := by omega
    rw [hk, Nat.pow_add] at hv
    have h2 := Nat.le_of_mul_le_mul_right hv (Nat.two_pow_pos _)
    have h3 := Nat.log2_self_le h0'
    omega

theorem MB.mulk {e1 e2 : Int} {x y : Option Nat} (hx : MB e1 x) (hy : MB e2 y) (h1 : -400 ≤ e1) (h2 : e1 ≤ 400) (h3 : -400 ≤ e2) (h4 : e2 ≤ 400) : MB (e1 + e2) (fop .mul .f64 x y) := by
  obtain ⟨a, rfl, ha⟩ := hx
  obtain ⟨b, rfl, hb⟩ := hy
  obtain ⟨s, m, p, r1, l1, -, -⟩ := ha.sz (by omega) (by omega)
  obtain ⟨t, n, q, r2, l2, -, -⟩ := hb.sz (by omega) (by omega)
  refine ⟨Ieee.double.write (.number (s ^^ t) (m * n) (p + q)), ?_, ?_⟩
  · show ((Ieee.double.read a).product (Ieee.double.read b)).map Ieee.double.write = _
    rw [r1, r2]; rfl
  · apply sz_encode _ (by omega) (by omega)
    intro h0
    have hm : m ≠ 0 := fun c => h0 (by rw [c, Nat.zero_mul])
    have hn : n ≠ 0 := fun c => h0 (by rw [c, Nat.mul_zero])
    have hmn := log2_mul_le m n
    rcases l1 hm with k1 | ⟨k1, g1⟩
    · rcases l2 hn with k2 | ⟨k2, g2⟩
      · left; omega
      · left
        have := log2_shift hm n.log2
        rw [← g2] at this
        omega
    · rcases l2 hn with k2 | ⟨k2, g2⟩
      · left
        have := log2_shift hn m.log2
        rw [← g1, Nat.mul_comm] at this
        omega
      · right
        have e1 : m * n = 2 ^ (m.log2 + n.log2) := by rw [Nat.pow_add, ← g1, ← g2]
        have e2 : (m * n).log2 = m.log2 + n.log2 := by rw [e1, Nat.log2_two_pow]
        exact ⟨by omega, by rw [e2, e1]⟩

theorem sum_sz {e1 e2 : Int} {m n : Nat} {p q : Int} {s t : Bool} (l1 : Sz m p e1) (l2 : Sz n q e2) :
    Sz (Ieee.signed s m (p - min p q).toNat + Ieee.signed t n (q - min p q).toNat).natAbs (min p q) (max e1 e2 + 1) := by
  intro h0
  have hle : (Ieee.signed s m (p - min p q).toNat + Ieee.signed t n (q - min p q).toNat).natAbs ≤ m * 2 ^ (p - min p q).toNat + n * 2 ^ (q - min p q).toNat := by
    have := Int.natAbs_add_le (Ieee.signed s m (p - min p q).toNat) (Ieee.signed t n (q - min p q).toNat)
    rwa [abs_signed, abs_signed] at this
  generalize (Ieee.signed s m (p - min p q).toNat + Ieee.signed t n (q - min p q).toNat).natAbs = N at *
  have key : ∀ (m : Nat) (p base e : Int), base ≤ p → Sz m p e → base ≤ e → m * 2 ^ (p - base).toNat ≤ 2 ^ (e - base).toNat := by
    intro m p base e hb hl hbe
    by_cases h : m = 0
    · subst h; simp
    · rcases hl h with hl | ⟨hl, g⟩
      · have h1 : m < 2 ^ (m.log2 + 1) := Nat.lt_log2_self
        refine Nat.le_trans (Nat.mul_le_mul_right (2 ^ (p - base).toNat) (Nat.le_of_lt h1)) ?_
        rw [← Nat.pow_add]
        exact Nat.pow_le_pow_right (by decide) (by omega)
      · rw [g, ← Nat.pow_add]
        exact Nat.pow_le_pow_right (by decide) (by omega)
  have hle' : ∀ (m : Nat) (p e : Int), Sz m p e → m ≠ 0 → p ≤ e := by
    intro m p e h hm
    rcases h hm with h | ⟨h, -⟩ <;> omega
  have mono : ∀ (m : Nat) (p e e' : Int), Sz m p e → e ≤ e' → Sz m p e' := by
    intro m p e e' h he hm
    rcases h hm with h | ⟨h, g⟩
    · left; omega
    · by_cases c : e = e'
      · right; exact ⟨by omega, g⟩
      · left; omega
  have hb : min p q ≤ max e1 e2 := by
    by_cases hm : m = 0
    · by_cases hn : n = 0
      · subst hm; subst hn; simp at hle; omega
      · have := hle' n q e2 l2 hn; omega
    · have := hle' m p e1 l1 hm; omega
  have k1 := key m p (min p q) (max e1 e2) (by omega) (mono _ _ _ _ l1 (by omega)) hb
  have k2 := key n q (min p q) (max e1 e2) (by omega) (mono _ _ _ _ l2 (by omega)) hb
  have hN : N ≤ 2 ^ ((max e1 e2 - min p q).toNat + 1) := by rw [Nat.pow_succ]; omega
  by_cases c : N = 2 ^ ((max e1 e2 - min p q).toNat + 1)
  · right
    have : N.log2 = (max e1 e2 - min p q).toNat + 1 := by rw [c, Nat.log2_two_pow]
    exact ⟨by omega, by rw [this]; exact c⟩
  · left
    have : N.log2 < (max e1 e2 - min p q).toNat + 1 := (Nat.log2_lt h0).2 (by omega)
    omega

theorem MB.addk {e1 e2 : Int} {x y : Option Nat} (hx : MB e1 x) (hy : MB e2 y) (h1 : -400 ≤ e1) (h2 : e1 ≤ 400) (h3 : -400 ≤ e2) (h4 : e2 ≤ 400) : MB (max e1 e2 + 1) (fop .add .f64 x y) := by
  obtain ⟨a, rfl, ha⟩ := hx
  obtain ⟨b, rfl, hb⟩ := hy
  obtain ⟨s, m, p, r1, l1, -, -⟩ := ha.sz (by omega) (by omega)
  obtain ⟨t, n, q, r2, l2, -, -⟩ := hb.sz (by omega) (by omega)
  refine ⟨_, ?_, sz_encode (neg := if Ieee.signed s m (p - min p q).toNat + Ieee.signed t n (q - min p q).toNat = 0 then s && t else decide (Ieee.signed s m (p - min p q).toNat + Ieee.signed t n (q - min p q).toNat < 0)) (sum_sz (s := s) (t := t) l1 l2) (by omega) (by omega)⟩
  show ((Ieee.double.read a).sum (Ieee.double.read b)).map Ieee.double.write = _
  rw [r1, r2]; rfl
theorem MB.subk {e1 e2 : Int} {x y : Option Nat} (hx : MB e1 x) (hy : MB e2 y) (h1 : -400 ≤ e1) (h2 : e1 ≤ 400) (h3 : -400 ≤ e2) (h4 : e2 ≤ 400) : MB (max e1 e2 + 1) (fop .sub .f64 x y) := by
  obtain ⟨a, rfl, ha⟩ := hx
  obtain ⟨b, rfl, hb⟩ := hy
  obtain ⟨s, m, p, r1, l1, -, -⟩ := ha.sz (by omega) (by omega)
  obtain ⟨t, n, q, r2, l2, -, -⟩ := hb.sz (by omega) (by omega)
  refine ⟨_, ?_, sz_encode (neg := if Ieee.signed s m (p - min p q).toNat + Ieee.signed (!t) n (q - min p q).toNat = 0 then s && !t else decide (Ieee.signed s m (p - min p q).toNat + Ieee.signed (!t) n (q - min p q).toNat < 0)) (sum_sz (s := s) (t := !t) l1 l2) (by omega) (by omega)⟩
  show ((Ieee.double.read a).sum (Ieee.double.read b).opposite).map Ieee.double.write = _
  rw [r1, r2]; rfl

end Go.Proofs.Ytlcekfahjakfgaa.Fl
