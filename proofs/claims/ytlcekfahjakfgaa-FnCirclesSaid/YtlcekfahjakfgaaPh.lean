/-
  The phasor, as a plain function of what words mean.
-/
import Derived.Test.YtlcekfahjakfgaaFn
namespace Go.Proofs.Ytlcekfahjakfgaa.Fl
open Go

/-- Quarters are taken away, as long as there are any. -/
def quartM : Nat → Option Nat → Nat → Option Nat × Nat
  | 0, f, q => (f, q)
  | n + 1, f, q => if geM f (some quarter64) then quartM n (fop .sub .f64 f (some quarter64)) (q + 1) else (f, q)

/-- At most q quarters of turns are left. -/
def Quart (q : Nat) (f : Nat) : Prop := Fin64 f ∧ 0 ≤ val Ieee.double f ∧ val Ieee.double f ≤ ((q * V Ieee.double quarter64 : Nat) : Int)

theorem quart_start {a : Nat} (h : mag Ieee.double a < two52) {f : Nat} (hf : mean .f64 f = partM a) : Quart 4 f := by
  obtain ⟨c, hc, h1, h2, h3⟩ := partM_range h
  rw [hc] at hf
  obtain ⟨rfl, -⟩ := mean_some hf
  refine ⟨h1, h2, ?_⟩
  have : V Ieee.double one64 = 4 * V Ieee.double quarter64 := by rw [V_one, V_quarter]
  rw [← this]; exact h3
theorem V_three : V Ieee.double 4604930618986332160 = 3 * V Ieee.double quarter64 := by decide +kernel
theorem V_two : V Ieee.double half64 = 2 * V Ieee.double quarter64 := by decide +kernel
theorem quart_step {q f : Nat} (hq : q < 4) (h : Quart (q + 1) f) (hge : geM (some f) (some quarter64) = true) : ∃ g, fop .sub .f64 (some f) (some quarter64) = some g ∧ Quart q g := by
  obtain ⟨h1, h2, h3⟩ := h
  rw [geM_fin h1 fin_quarter, val_quarter] at hge
  have hge := of_decide_eq_true hge
  have key : ∃ r, r < Ieee.double.infRung ∧ V Ieee.double r = q * V Ieee.double quarter64 := by
    have : q = 0 ∨ q = 1 ∨ q = 2 ∨ q = 3 := by omega
    rcases this with rfl | rfl | rfl | rfl
    · exact ⟨0, by decide, by rw [V_zero]; simp⟩
    · exact ⟨quarter64, by decide, by simp⟩
    · exact ⟨half64, by decide, V_two⟩
    · exact ⟨4604930618986332160, by decide, V_three⟩
  obtain ⟨r, hr, hv⟩ := key
  have e : (q + 1) * V Ieee.double quarter64 = q * V Ieee.double quarter64 + V Ieee.double quarter64 := by rw [Nat.add_mul, Nat.one_mul]
  rw [e] at h3
  obtain ⟨c, hc, c1, c2, c3⟩ := sub_range (r := r) h1 fin_quarter hr (by rw [val_quarter]; omega) (by rw [val_quarter, hv]; omega)
  exact ⟨c, hc, c1, c2, by rw [hv] at c3; exact c3⟩
theorem quart_none {f : Nat} (h : Quart 0 f) : geM (some f) (some quarter64) = false := by
  obtain ⟨h1, h2, h3⟩ := h
  rw [geM_fin h1 fin_quarter, val_quarter]
  have : 0 < V Ieee.double quarter64 := by decide +kernel
  exact decide_eq_false (by simp at h3; omega)
theorem quart_small {q f : Nat} (hq : q ≤ 4) (h : Quart q f) : mag Ieee.double f < two52 := by
  obtain ⟨h1, h2, h3⟩ := h
  have hv : V Ieee.double (mag Ieee.double f) ≤ V Ieee.double one64 := by
    have e : V Ieee.double one64 = 4 * V Ieee.double quarter64 := by rw [V_one, V_quarter]
    have : q * V Ieee.double quarter64 ≤ 4 * V Ieee.double quarter64 := Nat.mul_le_mul_right _ hq
    have : val Ieee.double f ≤ (V Ieee.double one64 : Int) := by omega
    unfold val at this h2
    generalize V Ieee.double (mag Ieee.double f) = x at *
    generalize V Ieee.double one64 = y at *
    cases sgn Ieee.double f <;> simp [sV] at this h2 <;> omega
  have : mag Ieee.double f ≤ one64 := by
    by_cases k : one64 < mag Ieee.double f
    · have := V_lt (f := Ieee.double) k; omega
    · omega
  exact Nat.lt_of_le_of_lt this (by decide)
/-- What a quarter less the rest is. -/
theorem quart_rest {f : Nat} (h : Quart 4 f) (hge : geM (some f) (some quarter64) = false) : ∃ g, fop .sub .f64 (some quarter64) (some f) = some g ∧ mag Ieee.double g < two52 := by
  obtain ⟨h1, h2, h3⟩ := h
  rw [geM_fin h1 fin_quarter, val_quarter] at hge
  have hge := of_decide_eq_false hge
  obtain ⟨c, hc, c1, c2, c3⟩ := sub_range (r := quarter64) fin_quarter h1 (by decide) (by rw [val_quarter]; omega) (by rw [val_quarter]; omega)
  exact ⟨c, hc, quart_small (q := 1) (by omega) ⟨c1, c2, by rw [Nat.one_mul]; exact c3⟩⟩
theorem Quart.up {q f : Nat} (hq : q ≤ 4) (h : Quart q f) : Quart 4 f := by
  refine ⟨h.1, h.2.1, ?_⟩
  have := h.2.2
  have : q * V Ieee.double quarter64 ≤ 4 * V Ieee.double quarter64 := Nat.mul_le_mul_right _ hq
  omega

/-- The sine of what a word means. -/
def sinA (x : Option Nat) : Option Nat := x.bind fun b => sineM (partM b)
/-- The parts of the phasor, by how often a quarter was taken away. -/
def turnM (q : Nat) (c s : Option Nat) : Option Nat × Option Nat :=
  if q = 1 then (fop .sub .f64 (some 0) s, c) else if q = 2 then (fop .sub .f64 (some 0) c, fop .sub .f64 (some 0) s) else if q = 3 then (s, fop .sub .f64 (some 0) c) else (c, s)
def phaseM (a : Nat) : Option Nat × Option Nat :=
  if mag Ieee.double a < Ieee.double.infRung then (if mag Ieee.double a < two52 then turnM (quartM 5 (partM a) 0).2 (sinA (fop .sub .f64 (some quarter64) (quartM 5 (partM a) 0).1)) (sinA (quartM 5 (partM a) 0).1) else (some one64, some 0)) else (none, none)
theorem sub_zero_bd {x : Option Nat} (h : MB 110 x) : MB 126 (fop .sub .f64 (some 0) x) := ((mb_const (e := 0) (c := 0) (by decide)).sub h (by omega) (by omega) (by omega) (by omega)).mono (by omega)

end Go.Proofs.Ytlcekfahjakfgaa.Fl
