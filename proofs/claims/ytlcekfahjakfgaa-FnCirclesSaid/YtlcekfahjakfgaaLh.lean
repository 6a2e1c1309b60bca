/-
  The logarithm of a number from 0.75 to 1.5 and of its power of two; its bound.
-/
import Derived.Test.YtlcekfahjakfgaaLg
namespace Go.Proofs.Ytlcekfahjakfgaa.Fl
open Go

/-- The divisor in round j. -/
def divL (j : Nat) : Nat := FloatKind.f64.nearest (25 - 2 * (j : Int))
def logP (u : Option Nat) : Nat → Option Nat
  | 0 => some 0
  | j + 1 => fop .add .f64 (fop .quo .f64 (some one64) (some (divL j))) (fop .mul .f64 u (logP u j))
def ln64 : Nat := 4604418534313441775
def logS (x : Option Nat) : Option Nat := fop .quo .f64 (fop .sub .f64 x (some one64)) (fop .add .f64 x (some one64))
/-- The logarithm, by the word that is left and the exponent's word. -/
def logM (x e : Option Nat) : Option Nat :=
  fop .add .f64 (fop .mul .f64 (some two64) (fop .mul .f64 (logS x) (logP (fop .mul .f64 (logS x) (logS x)) 13))) (fop .mul .f64 e (some ln64))
theorem divL_bd : ∀ j, j < 13 → MB 0 (fop .quo .f64 (some one64) (some (divL j))) := by
  intro j hj
  have h : ∀ j, j < 13 → ((fop .quo .f64 (some one64) (some (divL j))).any fun b => decide (mag Ieee.double b ≤ top Ieee.double 0)) = true := by decide +kernel
  have := h j hj
  generalize fop .quo .f64 (some one64) (some (divL j)) = x at this
  cases x with
  | none => cases this
  | some b =>
    have hb : mag Ieee.double b ≤ top Ieee.double 0 := of_decide_eq_true this
    exact ⟨b, rfl, hb⟩
theorem logP_bd {u : Option Nat} (hu : MB 0 u) : ∀ j : Nat, j ≤ 13 → MB (j : Int) (logP u j) := by
  intro j
  induction j with
  | zero => intro _; exact mb_const (by decide)
  | succ j ih =>
    intro hj
    have h1 := hu.mulk (ih (by omega)) (by omega) (by omega) (by omega) (by omega)
    exact ((divL_bd j (by omega)).addk h1 (by omega) (by omega) (by omega) (by omega)).mono (by omega)
theorem logS_bd {r : Nat} (h1 : low75 ≤ r) (h2 : r < high15) : MB 0 (logS (some r)) := by
  have hr : r < Ieee.double.infRung := Nat.lt_trans h2 (by decide)
  obtain ⟨fr, vr⟩ := pos_val hr
  have v1 := V_le (f := Ieee.double) h1
  have v2 := V_le (f := Ieee.double) (Nat.le_of_lt h2)
  have c1 : V Ieee.double low75 = 3 * 2 ^ 1072 := by decide +kernel
  have c2 : V Ieee.double high15 = 6 * 2 ^ 1072 := by decide +kernel
  have c3 := V_one
  have c4 := V_half
  have c5 := val_one
  obtain ⟨sg, e1, -⟩ := sub_val fr fin_one
  obtain ⟨sg', e2, -⟩ := add_val fr fin_one
  rw [vr, c5] at e1 e2
  have hs : MB (-1) (fop .sub .f64 (some r) (some one64)) := by
    refine ⟨_, e1, ?_⟩
    show mag Ieee.double _ ≤ _
    rw [mag_word _ _ (rnd64_inf _)]
    refine Nat.le_trans (rnd64_le (r := half64) ?_ (by decide)) (by decide)
    rw [c4]
    generalize (2 : Nat) ^ 1072 = K at *
    omega
  have hd : LB 0 (fop .add .f64 (some r) (some one64)) := by
    refine ⟨_, e2, ?_, ?_⟩
    · rw [mag_word _ _ (rnd64_inf _)]
      refine Nat.le_trans (by decide) (le_rnd64 (r := one64) ?_ (by decide))
      omega
    · rw [mag_word _ _ (rnd64_inf _)]
      refine Nat.lt_of_le_of_lt (rnd64_le (r := 4613937818241073152) ?_ (by decide)) (by decide)
      have c6 : V Ieee.double 4613937818241073152 = 12 * 2 ^ 1072 := by decide +kernel
      rw [c6]
      generalize (2 : Nat) ^ 1072 = K at *
      omega
  exact (hs.div1 hd (by omega) (by omega) (by omega) (by omega)).mono (by omega)
theorem logM_bd {r : Nat} (h1 : low75 ≤ r) (h2 : r < high15) {e : Option Nat} (he : MB 8 e) : MB 16 (logM (some r) e) := by
  have hs := logS_bd h1 h2
  have hu := hs.mulk hs (by omega) (by omega) (by omega) (by omega)
  have hq := logP_bd hu 13 (by omega)
  have h3 := hs.mulk hq (by omega) (by omega) (by omega) (by omega)
  have h4 := (mb_const (e := 1) (c := two64) (by decide)).mulk h3 (by omega) (by omega) (by omega) (by omega)
  have h5 := he.mulk (mb_const (e := 0) (c := ln64) (by decide)) (by omega) (by omega) (by omega) (by omega)
  exact (h4.addk h5 (by omega) (by omega) (by omega) (by omega)).mono (by omega)
/-- A whole number as a 64-bit one. -/
def wholeW (e : Int) : Nat := FloatKind.f64.nearest e
theorem whole_step : ∀ n : Nat, n < 401 → fop .add .f64 (some (wholeW ((n : Int) - 200))) (some one64) = some (wholeW ((n : Int) - 199)) ∧ fop .sub .f64 (some (wholeW ((n : Int) - 200))) (some one64) = some (wholeW ((n : Int) - 201)) ∧ mag Ieee.double (wholeW ((n : Int) - 200)) ≤ top Ieee.double 8 ∧ mean .f64 (wholeW ((n : Int) - 200)) = some (wholeW ((n : Int) - 200)) := by decide +kernel
theorem whole_up {e : Int} (h1 : -200 ≤ e) (h2 : e ≤ 200) : fop .add .f64 (some (wholeW e)) (some one64) = some (wholeW (e + 1)) := by
  have h := (whole_step (e + 200).toNat (by omega)).1
  have e1 : ((e + 200).toNat : Int) - 200 = e := by omega
  have e2 : ((e + 200).toNat : Int) - 199 = e + 1 := by omega
  rwa [e1, e2] at h
theorem whole_down {e : Int} (h1 : -200 ≤ e) (h2 : e ≤ 200) : fop .sub .f64 (some (wholeW e)) (some one64) = some (wholeW (e - 1)) := by
  have h := (whole_step (e + 200).toNat (by omega)).2.1
  have e1 : ((e + 200).toNat : Int) - 200 = e := by omega
  have e2 : ((e + 200).toNat : Int) - 201 = e - 1 := by omega
  rwa [e1, e2] at h
theorem whole_bd {e : Int} (h1 : -200 ≤ e) (h2 : e ≤ 200) : MB 8 (some (wholeW e)) ∧ mean .f64 (wholeW e) = some (wholeW e) := by
  have h := (whole_step (e + 200).toNat (by omega)).2.2
  have e1 : ((e + 200).toNat : Int) - 200 = e := by omega
  rw [e1] at h
  exact ⟨⟨_, rfl, h.1⟩, h.2⟩
end Go.Proofs.Ytlcekfahjakfgaa.Fl
