/-
  The angle, as a plain function of what words mean; its bound.
-/
import Derived.Test.YtlcekfahjakfgaaFn
namespace Go.Proofs.Ytlcekfahjakfgaa.Fl
open Go

/-- It means a number of at most 2 to the power of e, without a sign. -/
def PB (e : Int) (x : Option Nat) : Prop := ∃ b, x = some b ∧ Bd .f64 e b ∧ sgn Ieee.double b = false
theorem PB.mb {e : Int} {x : Option Nat} (h : PB e x) : MB e x := by obtain ⟨b, h1, h2, -⟩ := h; exact ⟨b, h1, h2⟩
theorem PB.mono {e e' : Int} {x : Option Nat} (h : PB e x) (he : e ≤ e') : PB e' x := by obtain ⟨b, h1, h2, h3⟩ := h; exact ⟨b, h1, h2.mono he, h3⟩
theorem sgn_nearest (neg : Bool) (m : Nat) (p : Int) : sgn Ieee.double (Ieee.double.nearest neg m p) = neg := by
  rw [nearest_rnd, sgn_word]
  exact Nat.min_le_right ..
theorem pb_encode {m : Nat} {p e : Int} (hm : m ≠ 0 → p + m.log2 < e) (h0 : -1000 ≤ e) (h1 : e ≤ 1000) : PB e (some (Ieee.double.write (.number false m p))) :=
  ⟨_, rfl, bd_encode hm h0 h1, sgn_nearest ..⟩

theorem sq_pb {e : Int} {x : Option Nat} (hx : MB e x) (h1 : -400 ≤ e) (h2 : e ≤ 400) : PB (2 * e + 2) (fop .mul .f64 x x) := by
  obtain ⟨a, rfl, ha⟩ := hx
  obtain ⟨s, m, p, r1, l1, -, -, -, -⟩ := ha.read64 (by omega) (by omega)
  have e1 : fop .mul .f64 (some a) (some a) = some (Ieee.double.write (.number false (m * m) (p + p))) := by
    show ((Ieee.double.read a).product (Ieee.double.read a)).map Ieee.double.write = _
    rw [r1]
    show some (Ieee.double.write (.number (s ^^ s) (m * m) (p + p))) = _
    rw [Bool.xor_self]
  rw [e1]
  refine pb_encode ?_ (by omega) (by omega)
  intro h0
  have hm : m ≠ 0 := fun c => h0 (by rw [c, Nat.zero_mul])
  have := log2_mul_le m m
  have := l1 hm
  omega

theorem Bd.fin {e : Int} {b : Nat} (h : Bd .f64 e b) (h1 : e ≤ 1000) : Fin64 b := Nat.lt_of_le_of_lt h (top_double_lt h1)
theorem V_pos_one {b : Nat} (hs : sgn Ieee.double b = false) : (0 : Int) ≤ val Ieee.double b := by
  unfold val; rw [hs]
  show (0 : Int) ≤ ((V Ieee.double (mag Ieee.double b) : Nat) : Int)
  omega

theorem one_add {e : Int} {x : Option Nat} (h : PB e x) (h1 : 0 ≤ e) (h2 : e ≤ 400) : PB (e + 2) (fop .add .f64 (some one64) x) ∧ LB 0 (fop .add .f64 (some one64) x) := by
  have hb : MB (e + 2) (fop .add .f64 (some one64) x) := ((mb_const (e := 0) (c := one64) (by decide)).add h.mb (by omega) (by omega) (by omega) (by omega)).mono (by omega)
  obtain ⟨b, rfl, hx, hs⟩ := h
  have hv := V_pos_one hs
  obtain ⟨sg, e1, e2⟩ := add_val fin_one (hx.fin (by omega))
  rw [e1] at hb ⊢
  have hpos := V_one_pos
  rw [val_one] at e2 hb ⊢
  have hsg : sg = false := by
    rw [e2 (by omega)]; exact decide_eq_false (by omega)
  subst hsg
  generalize hN : ((V Ieee.double one64 : Int) + val Ieee.double b).natAbs = N at *
  have hN1 : V Ieee.double one64 ≤ N := by omega
  have hle := rnd64_inf N
  obtain ⟨c, hc, hbc⟩ := hb
  cases hc
  have hm : mag Ieee.double (Ieee.double.word false (rnd64 N)) = rnd64 N := mag_word _ _ hle
  refine ⟨⟨_, rfl, hbc, sgn_word _ _ hle⟩, _, rfl, ?_, hbc.fin (by omega)⟩
  rw [hm]
  exact Nat.le_trans (by decide) (le_rnd64 hN1 (by decide))

theorem sqrt_pb {e : Int} {x : Option Nat} (h : PB e x) (h1 : 0 ≤ e) (h2 : e ≤ 400) : PB (e + 2) (fsqrt x) := by
  obtain ⟨b, rfl, hx, hs⟩ := h
  obtain ⟨s, m, p, r1, l1, lp, hlt, hsg, -⟩ := hx.read64 (by omega) (by omega)
  rw [hs] at hsg
  subst hsg
  have e1 : fsqrt (some b) = ((Ieee.double.read b).root 54).map Ieee.double.write := rfl
  rw [e1, r1]
  simp only [Ieee.Datum.root]
  by_cases h0 : m = 0
  · rw [if_pos h0]
    exact pb_encode (fun c => absurd h0 c) (by omega) (by omega)
  · rw [if_neg h0]
    have hm := l1 h0
    simp only [Bool.false_eq_true, if_false]
    have hl : m.log2 < 53 := (Nat.log2_lt h0).2 hlt
    generalize hmore : 2 * 54 - m.log2 + ((p - ((2 * 54 - m.log2 : Nat) : Int)) % 2).toNat = more
    generalize hn' : m <<< more = n'
    have hlog : n'.log2 ≤ 109 := by
      apply log2_le_of
      rw [← hn', Nat.shiftLeft_eq]
      have hm1 : m < 2 ^ (m.log2 + 1) := Nat.lt_log2_self
      have := Nat.mul_lt_mul_of_pos_right hm1 (Nat.two_pow_pos more)
      rw [← Nat.pow_add] at this
      exact Nat.lt_of_lt_of_le this (Nat.pow_le_pow_right (by decide) (by omega))
    have hw := rootFrom_lt n' (n'.log2 / 2 + 1) 0
    generalize Ieee.Datum.rootFrom n' (n'.log2 / 2 + 1) 0 = whole at hw ⊢
    have hw2 : whole < 2 ^ 55 := by
      have : 2 ^ (n'.log2 / 2 + 1) ≤ 2 ^ 55 := Nat.pow_le_pow_right (by decide) (by omega)
      omega
    refine pb_encode (fun _ => ?_) (by omega) (by omega)
    have hb : ∀ b : Bool, b.toNat ≤ 1 := by intro b; cases b <;> decide
    have hb1 := hb (whole * whole != n')
    have : (2 * whole + (whole * whole != n').toNat).log2 ≤ 56 := log2_le_of (by rw [show (2 : Nat) ^ (56 + 1) = 2 * 2 ^ 56 from by rw [Nat.pow_succ, Nat.mul_comm], show (2 : Nat) ^ 56 = 2 * 2 ^ 55 from by rw [Nat.pow_succ, Nat.mul_comm]]; omega)
    omega

/-- The size of a quotient. -/
theorem quot_log {m n : Nat} (hm : m ≠ 0) (hm53 : m < 2 ^ 53) (n0 : n ≠ 0) (p q : Int) :
    p - q - (54 + n.log2 - m.log2 : Nat) - 1 + ((2 * ((m <<< (54 + n.log2 - m.log2)) / n) + ((m <<< (54 + n.log2 - m.log2)) % n != 0).toNat).log2 : Nat) ≤ p + m.log2 - (q + n.log2) := by
  have hml : m.log2 < 53 := (Nat.log2_lt hm).2 hm53
  generalize hmore : 54 + n.log2 - m.log2 = more at *
  have hd : m <<< more < 2 ^ (m.log2 + 1 + more) := by
    rw [Nat.shiftLeft_eq, Nat.pow_add]
    exact Nat.mul_lt_mul_of_pos_right Nat.lt_log2_self (Nat.two_pow_pos _)
  have hn : 2 ^ n.log2 ≤ n := Nat.log2_self_le n0
  have hdiv : (m <<< more) / n < 2 ^ (m.log2 + 1 + more - n.log2) := by
    rw [Nat.div_lt_iff_lt_mul (by omega)]
    refine Nat.lt_of_lt_of_le hd ?_
    have : 2 ^ (m.log2 + 1 + more) = 2 ^ (m.log2 + 1 + more - n.log2) * 2 ^ n.log2 := by
      rw [← Nat.pow_add]; congr 1; omega
    rw [this]
    exact Nat.mul_le_mul_left _ hn
  have hb : ∀ b : Bool, b.toNat ≤ 1 := by intro b; cases b <;> decide
  have hb1 := hb ((m <<< more) % n != 0)
  have hlog : (2 * ((m <<< more) / n) + ((m <<< more) % n != 0).toNat).log2 ≤ m.log2 + 1 + more - n.log2 := by
    apply log2_le_of
    rw [Nat.pow_succ]; omega
  omega
theorem quot_zero {n : Nat} (k : Nat) : 2 * (((0 : Nat) <<< k) / n) + (((0 : Nat) <<< k) % n != 0).toNat = 0 := by simp [Nat.shiftLeft_eq]

/-- The quotient of two numbers whose sizes are known. -/
theorem quo_bd {a b : Nat} {s t : Bool} {m n : Nat} {p q e : Int} (r1 : Ieee.double.read a = .number s m p) (r2 : Ieee.double.read b = .number t n q) (hm53 : m < 2 ^ 53) (n0 : n ≠ 0) (h : m ≠ 0 → p + m.log2 < q + n.log2 + e) (h0 : -1000 ≤ e) (h1 : e ≤ 1000) :
    MB e (fop .quo .f64 (some a) (some b)) := by
  have hq : (Ieee.Datum.number s m p).quotient 54 (.number t n q) = some (.number (s ^^ t) (2 * ((m <<< (54 + n.log2 - m.log2)) / n) + ((m <<< (54 + n.log2 - m.log2)) % n != 0).toNat) (p - q - (54 + n.log2 - m.log2 : Nat) - 1)) := by
    simp only [Ieee.Datum.quotient]
    rw [if_neg n0]
  refine ⟨_, ?_, bd_encode (neg := s ^^ t) (m := 2 * ((m <<< (54 + n.log2 - m.log2)) / n) + ((m <<< (54 + n.log2 - m.log2)) % n != 0).toNat) (p := p - q - (54 + n.log2 - m.log2 : Nat) - 1) ?_ h0 h1⟩
  · show ((Ieee.double.read a).quotient (52 + 2) (Ieee.double.read b)).map Ieee.double.write = _
    rw [r1, r2]
    show ((Ieee.Datum.number s m p).quotient 54 (.number t n q)).map Ieee.double.write = _
    rw [hq]; rfl
  · intro hz
    by_cases hm : m = 0
    · subst hm; exact absurd (quot_zero _) hz
    · have := quot_log hm hm53 n0 p q
      have := h hm
      omega

theorem MB.div1 {e1 e2 : Int} {x y : Option Nat} (hx : MB e1 x) (hy : LB e2 y) (h1 : -400 ≤ e1) (h2 : e1 ≤ 400) (h3 : -400 ≤ e2) (h4 : e2 ≤ 400) : MB (e1 - e2 + 1) (fop .quo .f64 x y) := by
  obtain ⟨a, rfl, ha⟩ := hx
  obtain ⟨b, rfl, hb, hbf⟩ := hy
  obtain ⟨s, m, p, r1, l1, lp, hm53, -, -⟩ := ha.read64 (by omega) (by omega)
  obtain ⟨t, n, q, r2, n0, l2, -⟩ := LB.read (by omega) hb hbf
  exact quo_bd r1 r2 hm53 n0 (fun h => by have := l1 h; omega) (by omega) (by omega)

theorem log2_shift {m : Nat} (hm : m ≠ 0) (k : Nat) : (m * 2 ^ k).log2 = m.log2 + k := by
  have h1 : 2 ^ m.log2 ≤ m := Nat.log2_self_le hm
  have h2 : m < 2 ^ (m.log2 + 1) := Nat.lt_log2_self
  have hp := Nat.two_pow_pos k
  have hne : m * 2 ^ k ≠ 0 := Nat.mul_ne_zero hm (by omega)
  apply Nat.le_antisymm
  · apply log2_le_of
    have := Nat.mul_lt_mul_of_pos_right h2 hp
    rw [← Nat.pow_add] at this
    have e : m.log2 + 1 + k = m.log2 + k + 1 := by omega
    rwa [e] at this
  · apply (Nat.le_log2 hne).2
    rw [Nat.pow_add]
    exact Nat.mul_le_mul_right _ h1

/-- The quotient of a smaller number by a greater one. -/
theorem div_le {a b : Nat} (ha : Fin64 a) (hb : Fin64 b) (h : mag Ieee.double a ≤ mag Ieee.double b) (h0 : mag Ieee.double b ≠ 0) : MB 1 (fop .quo .f64 (some a) (some b)) := by
  obtain ⟨m, p, r1, p1, v1, hm53⟩ := read_fin Ieee.double ha
  obtain ⟨n, q, r2, q1, v2, -⟩ := read_fin Ieee.double hb
  have hv := V_le (f := Ieee.double) h
  have hvp : V Ieee.double 0 < V Ieee.double (mag Ieee.double b) := V_lt (by omega)
  rw [V_zero] at hvp
  have n0 : n ≠ 0 := by
    rintro rfl
    rw [Nat.zero_mul] at v2; omega
  refine quo_bd r1 r2 hm53 n0 (fun hm => ?_) (by omega) (by omega)
  have h1 := log2_le_log2 hv
  rw [← v1, ← v2, log2_shift hm, log2_shift n0] at h1
  omega

/-- The rounds that halve the angle. -/
def halfT (t : Option Nat) : Option Nat := fop .quo .f64 t (fop .add .f64 (some one64) (fsqrt (fop .add .f64 (some one64) (fop .mul .f64 t t))))
def tM (t : Option Nat) : Nat → Option Nat
  | 0 => t
  | j + 1 => halfT (tM t j)
theorem halfT_bd {e : Int} {t : Option Nat} (h : MB e t) (h1 : 0 ≤ e) (h2 : e ≤ 10) : MB (e + 1) (halfT t) := by
  have hq := (one_add (sq_pb h (by omega) (by omega)) (by omega) (by omega)).1
  have hd := (one_add (sqrt_pb hq (by omega) (by omega)) (by omega) (by omega)).2
  exact (h.div1 hd (by omega) (by omega) (by omega) (by omega)).mono (by omega)
theorem tM_bd {t : Option Nat} (h : MB 1 t) : ∀ j : Nat, j ≤ 3 → MB (1 + (j : Int)) (tM t j) := by
  intro j
  induction j with
  | zero => intro _; exact h.mono (by omega)
  | succ j ih => intro hj; exact (halfT_bd (ih (by omega)) (by omega) (by omega)).mono (by omega)

/-- The divisor in round j. -/
def divA (j : Nat) : Nat := FloatKind.f64.nearest (15 - 2 * (j : Int))
def angP (u : Option Nat) : Nat → Option Nat
  | 0 => some 0
  | j + 1 => fop .sub .f64 (fop .quo .f64 (some one64) (some (divA j))) (fop .mul .f64 u (angP u j))
theorem divA_bd : ∀ j, j < 8 → MB 0 (fop .quo .f64 (some one64) (some (divA j))) := by
  intro j hj
  have key : ∀ j, j < 8 → ∃ b, fop .quo .f64 (some one64) (some (divA j)) = some b ∧ mag Ieee.double b ≤ top Ieee.double 0 := by
    have h : ∀ j, j < 8 → ((fop .quo .f64 (some one64) (some (divA j))).any fun b => decide (mag Ieee.double b ≤ top Ieee.double 0)) = true := by decide +kernel
    intro j hj
    have := h j hj
    generalize fop .quo .f64 (some one64) (some (divA j)) = x at this
    cases x with
    | none => cases this
    | some b => exact ⟨b, rfl, of_decide_eq_true this⟩
  exact key j hj
theorem angP_bd {u : Option Nat} (hu : MB 10 u) : ∀ j : Nat, j ≤ 8 → MB (14 * (j : Int) - 12) (angP u j) := by
  intro j
  induction j with
  | zero => intro _; exact mb_const (by decide)
  | succ j ih =>
    intro hj
    have h1 := hu.mul (ih (by omega)) (by omega) (by omega) (by omega) (by omega)
    exact ((divA_bd j (by omega)).sub h1 (by omega) (by omega) (by omega) (by omega)).mono (by omega)

def eight64 : Nat := 4620693217682128896
/-- The angle of a tangent from 0 to 1, in turns. -/
def arcM (t : Option Nat) : Option Nat := fop .quo .f64 (fop .mul .f64 (some eight64) (fop .mul .f64 (tM t 3) (angP (fop .mul .f64 (tM t 3) (tM t 3)) 8))) (some tau64)
theorem arcM_bd {t : Option Nat} (h : MB 1 t) : MB 115 (arcM t) := by
  have ht := tM_bd h 3 (by omega)
  have hu := (ht.mono (e' := 4) (by omega)).mul (ht.mono (e' := 4) (by omega)) (by omega) (by omega) (by omega) (by omega)
  have hp := angP_bd (hu.mono (by omega)) 8 (by omega)
  have h1 := (ht.mono (e' := 4) (by omega)).mul (hp.mono (e' := 100) (by omega)) (by omega) (by omega) (by omega) (by omega)
  have h2 := (mb_const (e := 3) (c := eight64) (by decide)).mul (h1.mono (e' := 106) (by omega)) (by omega) (by omega) (by omega) (by omega)
  have hl : LB 2 (some tau64) := ⟨_, rfl, by decide, by decide⟩
  exact ((h2.mono (e' := 112) (by omega)).div1 hl (by omega) (by omega) (by omega) (by omega)).mono (by omega)
/-- The angle by its signs. -/
def quadM (over left low : Bool) (x : Option Nat) : Option Nat :=
  let y := if over then fop .sub .f64 (some quarter64) x else x
  let z := if left then fop .sub .f64 (some half64) y else y
  if low then negM z else z
theorem quadM_bd {over left low : Bool} {x : Option Nat} (h : MB 115 x) : MB 126 (quadM over left low x) := by
  have hy : MB 117 (if over then fop .sub .f64 (some quarter64) x else x) := by
    cases over
    · exact h.mono (by omega)
    · exact ((mb_const (e := 0) (c := quarter64) (by decide)).sub h (by omega) (by omega) (by omega) (by omega)).mono (by omega)
  have hz : MB 119 (if left then fop .sub .f64 (some half64) (if over then fop .sub .f64 (some quarter64) x else x) else (if over then fop .sub .f64 (some quarter64) x else x)) := by
    cases left
    · exact hy.mono (by omega)
    · exact ((mb_const (e := 0) (c := half64) (by decide)).sub hy (by omega) (by omega) (by omega) (by omega)).mono (by omega)
  unfold quadM
  dsimp only
  cases low
  · exact hz.mono (by omega)
  · exact (neg_bd hz).mono (by omega)

end Go.Proofs.Ytlcekfahjakfgaa.Fl
