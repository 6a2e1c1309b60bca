/-
  Contracts of the small functions on single numbers, continued: subnormal numbers, equal ones, numbers out of bits.
-/
import Derived.Test.YtekgnheennbpnaaSc
namespace Go.Proofs.Ytekgnheennbpnaa
open Go.RowKit Fl

theorem neq_zero (a : Nat) : (FloatKind.f32.format.order a 0 != some .eq) = decide (mag Ieee.single a ≠ 0) := by
  cases h : (FloatKind.f32.decode a).isNaN
  · have := order_zero32 h
    rw [bne, this]
    by_cases c : mag Ieee.single a = 0 <;> simp [c]
  · rw [order_nan_left h]
    rw [nan32] at h
    have := of_decide_eq_true h
    have c : mag Ieee.single a ≠ 0 := by show a % 2147483648 ≠ 0; omega
    rw [decide_eq_true c]; rfl

theorem subB_zero {a : Nat} (c : mag Ieee.single a = 0) : subB a = false := by
  unfold subB; rw [c]; rfl
theorem subB_pos {a : Nat} (c : ¬ mag Ieee.single a = 0) : subB a = decide (mag Ieee.single a < 8388608) := by
  unfold subB; exact decide_eq_decide.2 (by omega)

theorem ssub_any (a : Nat) (ha : (Lit.float .f32 a).wf = true) (w : World) :
    Calls Try.prog 18 #[.float .f32 a] w fun e w' => e = .returned (.bool (subB a)) ∧ w' = w := by
  have hz := neq_zero a
  by_cases c : mag Ieee.single a = 0
  · rw [decide_eq_false (by omega)] at hz
    have hs : Hid (subB a = false) := subB_zero c
    clear c
    go_enter Try.func18, Try.ntmps18
    go_wp2_with (go_at_call 38; refine (bits_any _ _).mono ?_; rintro e w' ⟨rfl, rfl⟩)
    go_ret
    exact ⟨by rw [hs.out]; rfl, rfl⟩
  · rw [decide_eq_true c] at hz
    have hs : Hid (subB a = decide (mag Ieee.single a < 8388608)) := subB_pos c
    have hm : Hid ((maskI a == 0) = decide (mag Ieee.single a < 8388608)) := maskI_zero ha
    clear c ha
    go_enter Try.func18, Try.ntmps18
    go_wp2_with (go_at_call 38; refine (bits_any _ _).mono ?_; rintro e w' ⟨rfl, rfl⟩)
    go_ret
    exact ⟨by rw [hs.out, ← hm.out]; rfl, rfl⟩
theorem isub_any (a : Nat) (ha : (Lit.float .f32 a).wf = true) (w : World) :
    Calls Try.prog 19 #[.float .f32 a] w fun e w' => e = .returned (.bool (subB a)) ∧ ∃ n, w' = w.drewN n := by
  have hz := neq_zero a
  by_cases c : mag Ieee.single a = 0
  · rw [decide_eq_false (by omega)] at hz
    have hs : Hid (subB a = false) := subB_zero c
    clear c
    go_enter Try.func19, Try.ntmps19
    go_wp2
    go_ret
    exact ⟨by rw [hs.out]; rfl, 0, rfl⟩
  · rw [decide_eq_true c] at hz
    have hs : Hid (subB a = decide (mag Ieee.single a < 8388608)) := subB_pos c
    clear c
    go_enter Try.func19, Try.ntmps19
    go_wp2_with (first | (refine wpList_fconv rfl _ _ _ rfl .f32 .f64 _ rfl (by assumption) (by rw [Try.underlying23]; rfl) Try.underlying33 ?_; intro r n hr) | (go_at_call 40; refine (abs_any _ _).mono ?_; rintro e w' ⟨rfl, rfl⟩))
    go_ret
    exact ⟨by rw [hs.out, ← abs_small hr]; rfl, _, rfl⟩

/-- Whether two numbers are the same, by their bits. -/
def sameB (a b : Nat) : Bool := bitsI a == bitsI b
theorem lsame_any (a b : Nat) (w : World) :
    Calls Try.prog 41 #[.float .f32 a, .float .f32 b] w fun e w' => e = .returned (.bool (sameB a b)) ∧ w' = w := by
  go_enter Try.func41, Try.ntmps41
  go_wp2_with (go_at_call 38; refine (bits_any _ _).mono ?_; rintro e w' ⟨rfl, rfl⟩)
  go_ret
  exact ⟨rfl, rfl⟩
theorem ssame_any (a b : Nat) (w : World) :
    Calls Try.prog 20 #[.float .f32 a, .float .f32 b] w fun e w' => e = .returned (.bool (sameB a b)) ∧ w' = w := by
  go_enter Try.func20, Try.ntmps20
  go_wp2_with (go_at_call 41; refine (lsame_any _ _ _).mono ?_; rintro e w' ⟨rfl, rfl⟩)
  go_ret
  exact ⟨rfl, rfl⟩
theorem sameB_nan_right {a b : Nat} (ha : (Lit.float .f32 a).wf = true) (na : (FloatKind.f32.decode a).isNaN = false) (nb : (FloatKind.f32.decode b).isNaN = true) : sameB a b = false := bitsI_nan_right ha na nb
theorem sameB_nan_left {a b : Nat} (hb : (Lit.float .f32 b).wf = true) (na : (FloatKind.f32.decode a).isNaN = true) : sameB a b = (FloatKind.f32.decode b).isNaN := bitsI_nan_left hb na
theorem sameB_ne {a b : Nat} (ha : (Lit.float .f32 a).wf = true) (hb : (Lit.float .f32 b).wf = true) (na : (FloatKind.f32.decode a).isNaN = false) (nb : (FloatKind.f32.decode b).isNaN = false) (h : (FloatKind.f32.format.order a b == some .eq) = false) : sameB a b = false := by
  unfold sameB
  rw [bitsI_inj_num ha hb na nb]
  apply decide_eq_false
  rintro rfl
  rw [order_self na] at h; cases h
theorem sameB_eq {a b r q : Nat} (ha : (Lit.float .f32 a).wf = true) (hb : (Lit.float .f32 b).wf = true) (na : (FloatKind.f32.decode a).isNaN = false) (nb : (FloatKind.f32.decode b).isNaN = false) (h : (FloatKind.f32.format.order a b == some .eq) = true)
    (hr : FConv .f32 .f64 a r) (hq : FConv .f32 .f64 b q) : sameB a b = (negN r == negN q) := by
  unfold sameB
  rw [bitsI_inj_num ha hb na nb, negN_wide na hr, negN_wide nb hq]
  have hm := ((order_eq_iff na nb).1 h).1
  have la : a < 2 * Ieee.single.signWeight := lt_of_wf ha
  have lb : b < 2 * Ieee.single.signWeight := lt_of_wf hb
  by_cases c : sgn Ieee.single a = sgn Ieee.single b
  · rw [c, beq_self_eq_true]
    apply decide_eq_true
    rw [word_sgn_mag Ieee.single la, word_sgn_mag Ieee.single lb, c, hm]
  · rw [beq_eq_false_iff_ne.2 c]
    apply decide_eq_false
    rintro rfl
    exact c rfl
theorem isame_any (a b : Nat) (ha : (Lit.float .f32 a).wf = true) (hb : (Lit.float .f32 b).wf = true) (w : World) :
    Calls Try.prog 21 #[.float .f32 a, .float .f32 b] w fun e w' => e = .returned (.bool (sameB a b)) ∧ ∃ n, w' = w.drewN n := by
  have na := neq_self a
  have nb := neq_self b
  cases hna : (FloatKind.f32.decode a).isNaN
  · cases hnb : (FloatKind.f32.decode b).isNaN
    · rw [hna] at na
      rw [hnb] at nb
      cases he : (FloatKind.f32.format.order a b == some .eq)
      · have hs : Hid (sameB a b = false) := sameB_ne ha hb hna hnb he
        clear ha hb hna hnb
        go_enter Try.func21, Try.ntmps21
        go_wp2
        go_ret
        exact ⟨by rw [hs.out]; rfl, 0, rfl⟩
      · have hs : Hid (∀ r q, FConv .f32 .f64 a r → FConv .f32 .f64 b q → sameB a b = (negN r == negN q)) := fun r q hr hq => sameB_eq ha hb hna hnb he hr hq
        clear hna hnb
        go_enter Try.func21, Try.ntmps21
        go_wp2_with (first | (refine wpList_fconv rfl _ _ _ rfl .f32 .f64 _ rfl (by assumption) (by rw [Try.underlying23]; rfl) Try.underlying33 ?_; intro r n hr) | (go_at_call 42; refine (signbit_any _ _).mono ?_; rintro e w' ⟨rfl, rfl⟩))
        go_ret
        exact ⟨by rw [hs.out _ _ (by assumption) (by assumption)]; rfl, _, rfl⟩
    · rw [hna] at na
      rw [hnb] at nb
      have hs : Hid (sameB a b = false) := sameB_nan_right ha hna hnb
      clear ha hb hna hnb
      go_enter Try.func21, Try.ntmps21
      go_wp2
      go_ret
      exact ⟨by rw [hs.out]; rfl, 0, rfl⟩
  · rw [hna] at na
    have hs : Hid (sameB a b = (FloatKind.f32.decode b).isNaN) := sameB_nan_left hb hna
    clear ha hb hna
    have nb' : Hid ((FloatKind.f32.format.order b b != some .eq) = (FloatKind.f32.decode b).isNaN) := nb
    clear nb
    go_enter Try.func21, Try.ntmps21
    go_wp2
    go_ret
    exact ⟨by rw [hs.out, ← nb'.out]; rfl, 0, rfl⟩
end Go.Proofs.Ytekgnheennbpnaa
