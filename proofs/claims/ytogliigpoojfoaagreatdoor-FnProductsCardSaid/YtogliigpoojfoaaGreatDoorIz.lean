/-
  Whole numbers in floating point: sums, products, quotients and conversions of them are exact while they are small.
-/
import Derived.Test.YtogliigpoojfoaaGreatDoorKa
namespace Go.Proofs.YtogliigpoojfoaaGreatDoor.Fl
set_option maxRecDepth 100000
open Go

/-- A finite 64-bit word that is worth a whole number. -/
def Iz (a : Nat) (n : Int) : Prop := Fin64 a ∧ val Ieee.double a = n * ((V Ieee.double one64 : Nat) : Int)
def one32 : Nat := 1065353216
/-- A finite 32-bit word that is worth a whole number. -/
def Is (a : Nat) (n : Int) : Prop := mag Ieee.single a < Ieee.single.infRung ∧ val Ieee.single a = n * ((V Ieee.single one32 : Nat) : Int)
theorem V_one32 : 2 ^ 149 = V Ieee.single one32 := by decide +kernel
theorem V_one32_pos : 0 < V Ieee.single one32 := by decide +kernel
theorem V_ones : V Ieee.double one64 = V Ieee.single one32 * 2 ^ 925 := by decide +kernel

theorem whole_rung {K : Nat} (h : K < 2 ^ 53) : ∃ r, r < Ieee.double.infRung ∧ V Ieee.double r = K * V Ieee.double one64 ∧ rnd Ieee.double K 0 = r ∧ rnd64 (K * V Ieee.double one64) = r := by
  obtain ⟨r, hr, hlt⟩ := repr Ieee.double K 1074 (Nat.lt_of_lt_of_le h (by decide))
  have hfin : r < Ieee.double.infRung := Nat.lt_trans hlt (by decide)
  have h1 : rnd Ieee.double K 0 = r := by
    rw [rnd_at Ieee.double K (show Ieee.double.leastPlace ≤ 0 by decide)]
    have : ((0 : Int) - Ieee.double.leastPlace).toNat = 1074 := by decide
    rw [this, ← hr, rnd_V]
  rw [V_one'] at hr
  refine ⟨r, hfin, hr, h1, ?_⟩
  rw [← hr, rnd64_V (Nat.le_of_lt hfin)]
theorem whole_rung32 {K : Nat} (h : K < 2 ^ 24) : ∃ r, r < Ieee.single.infRung ∧ V Ieee.single r = K * V Ieee.single one32 ∧ rnd Ieee.single K 0 = r := by
  obtain ⟨r, hr, hlt⟩ := repr Ieee.single K 149 (Nat.lt_of_lt_of_le h (by decide))
  have hfin : r < Ieee.single.infRung := Nat.lt_trans hlt (by decide)
  have h1 : rnd Ieee.single K 0 = r := by
    rw [rnd_at Ieee.single K (show Ieee.single.leastPlace ≤ 0 by decide)]
    have : ((0 : Int) - Ieee.single.leastPlace).toNat = 149 := by decide
    rw [this, ← hr, rnd_V]
  rw [V_one32] at hr
  exact ⟨r, hfin, hr, h1⟩
theorem sV_abs {sg : Bool} {n : Int} (hs : n ≠ 0 → sg = decide (n < 0)) : sV sg n.natAbs = n := by
  by_cases c : n = 0
  · subst c; cases sg <;> simp [sV]
  · rw [hs c]
    by_cases d : n < 0
    · rw [decide_eq_true d]; simp only [sV, if_true]; omega
    · rw [decide_eq_false d]; simp only [sV, Bool.false_eq_true, if_false]; omega
theorem iz_word {sg : Bool} {n : Int} {r : Nat} (hr : r < Ieee.double.infRung) (hv : V Ieee.double r = n.natAbs * V Ieee.double one64) (hs : n ≠ 0 → sg = decide (n < 0)) : Iz (Ieee.double.word sg r) n := by
  refine ⟨?_, ?_⟩
  · unfold Fin64; rw [mag_word _ _ (Nat.le_of_lt hr)]; exact hr
  · rw [val_word _ (Nat.le_of_lt hr), hv]
    generalize V Ieee.double one64 = K
    rw [sV_mul, sV_abs hs]
theorem is_word {sg : Bool} {n : Int} {r : Nat} (hr : r < Ieee.single.infRung) (hv : V Ieee.single r = n.natAbs * V Ieee.single one32) (hs : n ≠ 0 → sg = decide (n < 0)) : Is (Ieee.single.word sg r) n := by
  refine ⟨?_, ?_⟩
  · rw [mag_word _ _ (Nat.le_of_lt hr)]; exact hr
  · unfold val
    rw [sgn_word _ _ (Nat.le_of_lt hr), mag_word _ _ (Nat.le_of_lt hr), hv]
    generalize V Ieee.single one32 = K
    rw [sV_mul, sV_abs hs]
theorem mul_neg {T K : Int} (hK : 0 < K) : (T * K < 0) = (T < 0) := by
  apply propext
  constructor
  · intro h
    by_cases c : T < 0
    · exact c
    · have := Int.mul_nonneg (show 0 ≤ T by omega) (Int.le_of_lt hK); omega
  · intro h; exact Int.mul_neg_of_neg_of_pos h hK
theorem unit_pos : (0 : Int) < ((V Ieee.double one64 : Nat) : Int) := by have := V_one_pos; omega
theorem unit32_pos : (0 : Int) < ((V Ieee.single one32 : Nat) : Int) := by have := V_one32_pos; omega
theorem abs_unit (n : Int) (K : Nat) : (n * (K : Int)).natAbs = n.natAbs * K := by rw [Int.natAbs_mul, Int.natAbs_natCast]
/-- The signs of words that aren't 0. -/
theorem sgn_of {s : Bool} {v K : Nat} {n : Int} (hK : 0 < K) (h : sV s v = n * (K : Int)) : v = n.natAbs * K ∧ (n ≠ 0 → s = decide (n < 0)) := by
  have h1 : v = n.natAbs * K := by
    rw [← abs_unit, ← h]; cases s <;> simp [sV]
  refine ⟨h1, fun h0 => ?_⟩
  have hK' : (0 : Int) < (K : Int) := by omega
  have hp : 0 < n.natAbs * K := Nat.mul_pos (by omega) hK
  have := mul_neg (T := n) hK'
  cases s
  · have h2 : ¬ n * (K : Int) < 0 := by rw [← h]; simp only [sV, Bool.false_eq_true, if_false]; omega
    rw [this] at h2
    rw [decide_eq_false h2]
  · have h2 : n * (K : Int) < 0 := by rw [← h]; simp only [sV, if_true]; omega
    rw [this] at h2
    rw [decide_eq_true h2]
theorem Iz.abs {a : Nat} {n : Int} (h : Iz a n) : V Ieee.double (mag Ieee.double a) = n.natAbs * V Ieee.double one64 ∧ (n ≠ 0 → sgn Ieee.double a = decide (n < 0)) := sgn_of V_one_pos h.2
theorem Is.abs {a : Nat} {n : Int} (h : Is a n) : V Ieee.single (mag Ieee.single a) = n.natAbs * V Ieee.single one32 ∧ (n ≠ 0 → sgn Ieee.single a = decide (n < 0)) := sgn_of V_one32_pos h.2

theorem iz_add {a b : Nat} {n m : Int} (ha : Iz a n) (hb : Iz b m) (h : (n + m).natAbs < 2 ^ 53) : ∃ c, fop .add .f64 (some a) (some b) = some c ∧ Iz c (n + m) := by
  obtain ⟨sg, e, hs⟩ := add_val ha.1 hb.1
  obtain ⟨r, hr, hv, -, hrd⟩ := whole_rung h
  rw [ha.2, hb.2, ← Int.add_mul] at e hs
  rw [abs_unit, hrd] at e
  have hp := unit_pos
  refine ⟨_, e, iz_word hr hv fun h0 => ?_⟩
  rw [hs (Int.mul_ne_zero h0 (by omega))]
  simp only [mul_neg hp]
theorem iz_sub {a b : Nat} {n m : Int} (ha : Iz a n) (hb : Iz b m) (h : (n - m).natAbs < 2 ^ 53) : ∃ c, fop .sub .f64 (some a) (some b) = some c ∧ Iz c (n - m) := by
  obtain ⟨sg, e, hs⟩ := sub_val ha.1 hb.1
  obtain ⟨r, hr, hv, -, hrd⟩ := whole_rung h
  rw [ha.2, hb.2, ← Int.sub_mul] at e hs
  rw [abs_unit, hrd] at e
  have hp := unit_pos
  refine ⟨_, e, iz_word hr hv fun h0 => ?_⟩
  rw [hs (Int.mul_ne_zero h0 (by omega))]
  simp only [mul_neg hp]
theorem neg_prod {n m : Int} (hn : n ≠ 0) (hm : m ≠ 0) : (decide (n < 0) ^^ decide (m < 0)) = decide (n * m < 0) := by
  by_cases h1 : n < 0 <;> by_cases h2 : m < 0
  · have := Int.mul_pos_of_neg_of_neg h1 h2
    rw [decide_eq_true h1, decide_eq_true h2, decide_eq_false (by omega)]; rfl
  · have := Int.mul_neg_of_neg_of_pos h1 (show 0 < m by omega)
    rw [decide_eq_true h1, decide_eq_false h2, decide_eq_true this]; rfl
  · have := Int.mul_neg_of_pos_of_neg (show 0 < n by omega) h2
    rw [decide_eq_false h1, decide_eq_true h2, decide_eq_true this]; rfl
  · have := Int.mul_pos (show 0 < n by omega) (show 0 < m by omega)
    rw [decide_eq_false h1, decide_eq_false h2, decide_eq_false (by omega)]; rfl
theorem least64 : Ieee.double.leastPlace = -1074 := by decide
theorem one_lift : V Ieee.double one64 = 2 ^ 1074 := V_one'.symm
theorem iz_mul {a b : Nat} {n m : Int} (ha : Iz a n) (hb : Iz b m) (h : (n * m).natAbs < 2 ^ 53) : ∃ c, fop .mul .f64 (some a) (some b) = some c ∧ Iz c (n * m) ∧ sgn Ieee.double c = (sgn Ieee.double a ^^ sgn Ieee.double b) := by
  obtain ⟨x, p, e1, l1, v1, -⟩ := read_fin Ieee.double ha.1
  obtain ⟨y, q, e2, l2, v2, -⟩ := read_fin Ieee.double hb.1
  obtain ⟨r, hr, hv, hrd, -⟩ := whole_rung h
  rw [least64] at l1 l2 v1 v2
  have hrnd : rnd Ieee.double (x * y) (p + q) = r := by
    obtain ⟨S, hS⟩ : ∃ S : Nat, S = 1074 := ⟨_, rfl⟩
    have hone : V Ieee.double one64 = 2 ^ S := by rw [hS]; exact one_lift
    have h1 := rnd_shift Ieee.double (x * y) ((p - -1074).toNat + (q - -1074).toNat) (p + q)
    have h2 := rnd_shift Ieee.double (n * m).natAbs (S + S) 0
    have e3 : x * y * 2 ^ ((p - -1074).toNat + (q - -1074).toNat) = (n * m).natAbs * 2 ^ (S + S) := by
      rw [Nat.pow_add, Nat.pow_add, Nat.mul_mul_mul_comm, v1, v2, ha.abs.1, hb.abs.1, hone, Int.natAbs_mul, Nat.mul_mul_mul_comm]
    have e4 : p + q - (((p - -1074).toNat + (q - -1074).toNat : Nat) : Int) = 0 - ((S + S : Nat) : Int) := by omega
    rw [e3, e4] at h1
    rw [← h1, h2, hrd]
  have hw : fop .mul .f64 (some a) (some b) = some (Ieee.double.word (sgn Ieee.double a ^^ sgn Ieee.double b) r) := by
    show ((Ieee.double.read a).product (Ieee.double.read b)).map Ieee.double.write = _
    rw [e1, e2]
    show some (Ieee.double.nearest _ (x * y) (p + q)) = _
    rw [nearest_rnd, hrnd, Nat.min_eq_left (Nat.le_of_lt hr)]
  refine ⟨_, hw, iz_word hr hv fun h0 => ?_, sgn_word _ _ (Nat.le_of_lt hr)⟩
  have hn : n ≠ 0 := fun c => h0 (by rw [c, Int.zero_mul])
  have hm : m ≠ 0 := fun c => h0 (by rw [c, Int.mul_zero])
  rw [ha.abs.2 hn, hb.abs.2 hm, neg_prod hn hm]
theorem log2_scale {m : Nat} (hm : m ≠ 0) (k : Nat) : (m * 2 ^ k).log2 = m.log2 + k := by
  have h1 : 2 ^ m.log2 ≤ m := Nat.log2_self_le hm
  have h2 : m < 2 ^ (m.log2 + 1) := Nat.lt_log2_self
  have hp := Nat.two_pow_pos k
  have hne : m * 2 ^ k ≠ 0 := Nat.mul_ne_zero hm (by omega)
  apply Nat.le_antisymm
  · apply log2_le_of
    have := Nat.mul_lt_mul_of_pos_right h2 hp
    rw [← Nat.pow_add] at this
    have e : m.log2 + 1 + k = m.log2 + k + 1 := by omega
    rwa [e] at this
  · apply (Nat.le_log2 hne).2
    rw [Nat.pow_add]
    exact Nat.mul_le_mul_right _ h1
theorem iz_quo {a b : Nat} {n m : Int} (ha : Iz a (n * m)) (hb : Iz b m) (hm : m ≠ 0) (h : n.natAbs < 2 ^ 53) : ∃ c, fop .quo .f64 (some a) (some b) = some c ∧ Iz c n := by
  obtain ⟨x, p, e1, l1, v1, hx53⟩ := read_fin Ieee.double ha.1
  obtain ⟨y, q, e2, l2, v2, -⟩ := read_fin Ieee.double hb.1
  obtain ⟨r, hr, hv, hrd, -⟩ := whole_rung h
  rw [least64] at l1 l2 v1 v2
  have hy0 : y ≠ 0 := by
    rintro rfl
    rw [Nat.zero_mul, hb.abs.1] at v2
    have := Nat.mul_pos (show 0 < m.natAbs by omega) V_one_pos
    omega
  have hX : x * 2 ^ (p - -1074).toNat = n.natAbs * y * 2 ^ (q - -1074).toNat := by
    rw [v1, Nat.mul_assoc, v2, ha.abs.1, hb.abs.1, Int.natAbs_mul, Nat.mul_assoc]
  have hq : (Ieee.Datum.number (sgn Ieee.double a) x p).quotient 54 (.number (sgn Ieee.double b) y q) = some (.number (sgn Ieee.double a ^^ sgn Ieee.double b) (2 * ((x <<< (54 + y.log2 - x.log2)) / y) + ((x <<< (54 + y.log2 - x.log2)) % y != 0).toNat) (p - q - (54 + y.log2 - x.log2 : Nat) - 1)) := by
    simp only [Ieee.Datum.quotient]
    rw [if_neg hy0]
  have hz : rnd Ieee.double (2 * ((x <<< (54 + y.log2 - x.log2)) / y) + ((x <<< (54 + y.log2 - x.log2)) % y != 0).toNat) (p - q - (54 + y.log2 - x.log2 : Nat) - 1) = r := by
    by_cases hn : n = 0
    · subst hn
      have : x = 0 := by
        have hpos := Nat.two_pow_pos (p - -1074).toNat
        simp only [Int.natAbs_zero, Nat.zero_mul] at hX
        rcases Nat.mul_eq_zero.1 hX with h1 | h1
        · exact h1
        · omega
      subst this
      have e : 2 * (((0 : Nat) <<< (54 + y.log2 - Nat.log2 0)) / y) + (((0 : Nat) <<< (54 + y.log2 - Nat.log2 0)) % y != 0).toNat = 0 := by simp [Nat.shiftLeft_eq]
      rw [e, ← hrd]
      unfold rnd
      simp
    · have hx0 : x ≠ 0 := by
        rintro rfl
        rw [Nat.zero_mul] at hX
        have := Nat.mul_pos (Nat.mul_pos (show 0 < n.natAbs by omega) (show 0 < y by omega)) (Nat.two_pow_pos (q - -1074).toNat)
        omega
      have hxl : x.log2 < 53 := (Nat.log2_lt hx0).2 hx53
      have hL := congrArg Nat.log2 hX
      have hny : n.natAbs * y ≠ 0 := Nat.mul_ne_zero (by omega) hy0
      rw [log2_scale hx0, log2_scale hny] at hL
      have hml : (n.natAbs * y).log2 ≤ n.natAbs.log2 + y.log2 + 1 := by
        apply log2_le_of
        have h1 : n.natAbs < 2 ^ (n.natAbs.log2 + 1) := Nat.lt_log2_self
        have h2 : y < 2 ^ (y.log2 + 1) := Nat.lt_log2_self
        have h3 := Nat.mul_lt_mul'' h1 h2
        rw [← Nat.pow_add] at h3
        have e : n.natAbs.log2 + 1 + (y.log2 + 1) = n.natAbs.log2 + y.log2 + 1 + 1 := by omega
        rwa [e] at h3
      have hnl : n.natAbs.log2 < 53 := (Nat.log2_lt (by omega)).2 h
      generalize hk : 54 + y.log2 - x.log2 = k
      generalize hP : (p - -1074).toNat = P at *
      generalize hQ : (q - -1074).toNat = Q at *
      have hPk : P ≤ k + Q := by omega
      have hxk : x <<< k = n.natAbs * 2 ^ (k + Q - P) * y := by
        rw [Nat.shiftLeft_eq]
        apply Nat.eq_of_mul_eq_mul_right (Nat.two_pow_pos P)
        calc x * 2 ^ k * 2 ^ P = x * 2 ^ P * 2 ^ k := Nat.mul_right_comm _ _ _
          _ = n.natAbs * y * (2 ^ Q * 2 ^ k) := by rw [hX, Nat.mul_assoc]
          _ = n.natAbs * y * (2 ^ (k + Q - P) * 2 ^ P) := by rw [← Nat.pow_add, ← Nat.pow_add]; congr 2; omega
          _ = n.natAbs * 2 ^ (k + Q - P) * y * 2 ^ P := by rw [← Nat.mul_assoc, Nat.mul_right_comm n.natAbs]
      rw [hxk, Nat.mul_div_cancel _ (by omega), Nat.mul_mod_left]
      have e5 : 2 * (n.natAbs * 2 ^ (k + Q - P)) + ((0 : Nat) != 0).toNat = n.natAbs * 2 ^ (k + Q - P + 1) := by
        rw [Nat.pow_succ]
        show 2 * (n.natAbs * 2 ^ (k + Q - P)) + 0 = _
        rw [Nat.add_zero, Nat.mul_comm 2, Nat.mul_assoc]
      have e6 : p - q - (k : Int) - 1 = 0 - ((k + Q - P + 1 : Nat) : Int) := by omega
      rw [e5, e6, rnd_shift, hrd]
  have hw : fop .quo .f64 (some a) (some b) = some (Ieee.double.word (sgn Ieee.double a ^^ sgn Ieee.double b) r) := by
    show ((Ieee.double.read a).quotient (52 + 2) (Ieee.double.read b)).map Ieee.double.write = _
    rw [e1, e2]
    show ((Ieee.Datum.number (sgn Ieee.double a) x p).quotient 54 (.number (sgn Ieee.double b) y q)).map Ieee.double.write = _
    rw [hq]
    show some (Ieee.double.nearest _ _ _) = _
    rw [nearest_rnd, hz, Nat.min_eq_left (Nat.le_of_lt hr)]
  refine ⟨_, hw, iz_word hr hv fun hn => ?_⟩
  have hnm : n * m ≠ 0 := Int.mul_ne_zero hn hm
  rw [ha.abs.2 hnm, hb.abs.2 hm, ← neg_prod hn hm, Bool.xor_assoc, Bool.xor_self, Bool.xor_false]

/-! ### Conversions -/

theorem is_int {n : Int} (h : n.natAbs < 2 ^ 24) : Is (floatOfInt .f32 n) n := by
  obtain ⟨r, hr, hv, hrd⟩ := whole_rung32 h
  have : floatOfInt .f32 n = Ieee.single.word (decide (n < 0)) r := by
    show Ieee.single.nearest _ n.natAbs 0 = _
    rw [nearest_rnd, hrd, Nat.min_eq_left (Nat.le_of_lt hr)]
  rw [this]
  exact is_word hr hv fun _ => rfl
theorem Is.mean {a : Nat} {n : Int} (h : Is a n) : Fl.mean .f32 a = some a := mean_some_of_fin (k := .f32) (Nat.le_of_lt h.1)
theorem Is.fin {a : Nat} {n : Int} (h : Is a n) : finB .f32 a = true := decide_eq_true h.1
theorem Iz.mean {a : Nat} {n : Int} (h : Iz a n) : Fl.mean .f64 a = some a := Fin64.mean h.1
/-- Widened. -/
theorem is_wide {a r : Nat} {n : Int} (h : Is a n) (hr : FConv .f32 .f64 a r) : Iz r n ∧ sgn Ieee.double r = sgn Ieee.single a := by
  have hn : (FloatKind.f32.decode a).isNaN = false := by rw [isNaN_iff]; exact decide_eq_false (by have := h.1; show ¬ Ieee.single.infRung < mag Ieee.single a; omega)
  obtain ⟨q, rfl, hq, hi, hv⟩ := widen hn hr
  have hq' : q < Ieee.double.infRung := by
    rcases Nat.lt_or_eq_of_le hq with h1 | h1
    · exact h1
    · have := hi.1 h1; have := h.1; omega
  have hv' := hv h.1
  refine ⟨iz_word hq' ?_ h.abs.2, sgn_word _ _ hq⟩
  rw [hv', h.abs.1, V_ones, Nat.mul_assoc]
/-- Narrowed. -/
theorem iz_narrow {b r : Nat} {n : Int} (h : Iz b n) (hn : n.natAbs < 2 ^ 24) (hr : FConv .f64 .f32 b r) : Is r n ∧ sgn Ieee.single r = sgn Ieee.double b := by
  obtain ⟨x, p, e1, l1, v1, -⟩ := read_fin Ieee.double h.1
  rw [least64] at l1 v1
  obtain ⟨g, hg, hv, hrd⟩ := whole_rung32 hn
  have hrnd : rnd Ieee.single x p = g := by
    have h1 := rnd_shift Ieee.single x (p - -1074).toNat p
    have h2 := rnd_shift Ieee.single n.natAbs 1074 0
    rw [v1, h.abs.1, one_lift] at h1
    have e4 : p - ((p - -1074).toNat : Int) = 0 - ((1074 : Nat) : Int) := by omega
    rw [e4] at h1
    rw [← h1, h2, hrd]
  have hd : FloatKind.f64.decode b = .number (sgn Ieee.double b) x p := e1
  have hen : FloatKind.f32.encode (FloatKind.f64.decode b) = Ieee.single.word (sgn Ieee.double b) g := by
    rw [hd]
    show Ieee.single.nearest _ x p = _
    rw [nearest_rnd, hrnd, Nat.min_eq_left (Nat.le_of_lt hg)]
  have hfit : fits .f64 .f32 b = true := by
    unfold fits
    rw [hd] at hen ⊢
    simp only [hen]
    have hi : (FloatKind.f32.decode (Ieee.single.word (sgn Ieee.double b) g)).isInfinity = false := finite_of_rung (k := .f32) (neg := sgn Ieee.double b) hg
    rw [hi]
    simp
  have hm := hr.1 hfit
  rw [h.mean] at hm
  have hm' : Fl.mean .f32 r = some (Ieee.single.word (sgn Ieee.double b) g) := by
    rw [hm, ← hen]; rfl
  obtain ⟨rfl, -⟩ := mean_some hm'
  exact ⟨is_word hg hv h.abs.2, sgn_word _ _ (Nat.le_of_lt hg)⟩
theorem is_order {a b : Nat} {n m : Int} (ha : Is a n) (hb : Is b m) : FloatKind.f32.format.order a b = some (compare n m) := by
  rw [order_val .f32 (Nat.le_of_lt ha.1) (Nat.le_of_lt hb.1)]
  show some (compare (val Ieee.single a) (val Ieee.single b)) = _
  rw [ha.2, hb.2]
  have hp := unit32_pos
  generalize ((V Ieee.single one32 : Nat) : Int) = K at hp
  congr 1
  rcases Int.lt_trichotomy n m with h | h | h
  · rw [cmp_lt h, cmp_lt (Int.mul_lt_mul_of_pos_right h hp)]
  · subst h; rw [Int.compare_eq_eq.2 rfl, Int.compare_eq_eq.2 rfl]
  · rw [cmp_gt h, cmp_gt (Int.mul_lt_mul_of_pos_right h hp)]
/-- The words worth the same, of the same sign, are the same. -/
theorem is_same {a b : Nat} {n : Int} (ha : Is a n) (hb : Is b n) (hs : sgn Ieee.single a = sgn Ieee.single b) (h1 : a < 4294967296) (h2 : b < 4294967296) : a = b := by
  have hm : mag Ieee.single a = mag Ieee.single b := V_inj (ha.abs.1.trans hb.abs.1.symm)
  rw [word_sgn_mag Ieee.single (b := a) h1, word_sgn_mag Ieee.single (b := b) h2, hs, hm]
end Go.Proofs.YtogliigpoojfoaaGreatDoor.Fl
