/-
  Several texts of this claim in one.
  Contracts of the small functions on single numbers, continued: subnormal numbers, equal ones, numbers out of bits.
  Contracts: two numbers that mean the same are told to be the same; square roots; numbers out of bits; flushed numbers.
  Contracts: bounds, check numbers, numbers out of bits, flushed numbers.
  What a slice of 32-bit numbers reads as.
  The laws of floating point for a region that draws its order: one operation of it.
  Contracts of the functions on lists of numbers.
-/
import Derived.Test.YtogliigpoojfoaaGreatDoorK3
import Derived.Test.YtogliigpoojfoaaGreatDoorRows
import Derived.Test.YtogliigpoojfoaaGreatDoorK2
import Derived.Deep.RegionHeld3
import Derived.OwnWalk
section
namespace Go.Proofs.YtogliigpoojfoaaGreatDoor
set_option maxRecDepth 100000
open Go.RowKit Fl

theorem neq_zero (a : Nat) : (FloatKind.f32.format.order a 0 != some .eq) = decide (mag Ieee.single a ≠ 0) := by
  cases h : (FloatKind.f32.decode a).isNaN
  · have := order_zero32 h
    rw [bne, this]
    by_cases c : mag Ieee.single a = 0 <;> simp [c]
  · rw [order_nan_left h]
    rw [nan32] at h
    have := of_decide_eq_true h
    have c : mag Ieee.single a ≠ 0 := by show a % 2147483648 ≠ 0; omega
    rw [decide_eq_true c]; rfl

theorem subB_zero {a : Nat} (c : mag Ieee.single a = 0) : subB a = false := by
  unfold subB; rw [c]; rfl
theorem subB_pos {a : Nat} (c : ¬ mag Ieee.single a = 0) : subB a = decide (mag Ieee.single a < 8388608) := by
  unfold subB; exact decide_eq_decide.2 (by omega)

theorem isub_any (a : Nat) (ha : (Lit.float .f32 a).wf = true) (w : World) :
    Calls Tryz.prog 33 #[.float .f32 a] w fun e w' => e = .returned (.bool (subB a)) ∧ ∃ n, w' = w.drewN n := by
  have hz := neq_zero a
  by_cases c : mag Ieee.single a = 0
  · rw [decide_eq_false (by omega)] at hz
    have hs : Hid (subB a = false) := subB_zero c
    clear c
    go_enter Tryz.func33, Tryz.ntmps33
    go_wp2
    go_ret
    exact ⟨by rw [hs.out]; rfl, 0, rfl⟩
  · rw [decide_eq_true c] at hz
    have hs : Hid (subB a = decide (mag Ieee.single a < 8388608)) := subB_pos c
    clear c
    go_enter Tryz.func33, Tryz.ntmps33
    go_wp2_with (first | (refine wpList_fconv rfl _ _ _ rfl .f32 .f64 _ rfl (by assumption) (by rw [Tryz.underlying28]; rfl) Tryz.underlying46 ?_; intro r n hr) | (go_at_call 65; refine (abs_any _ _).mono ?_; rintro e w' ⟨rfl, rfl⟩))
    go_ret
    exact ⟨by rw [hs.out, ← abs_small hr]; rfl, _, rfl⟩

/-- Whether two numbers are the same, by their bits. -/
def sameB (a b : Nat) : Bool := bitsI a == bitsI b
theorem lsame_any (a b : Nat) (w : World) :
    Calls Tryz.prog 42 #[.float .f32 a, .float .f32 b] w fun e w' => e = .returned (.bool (sameB a b)) ∧ w' = w := by
  go_enter Tryz.func42, Tryz.ntmps42
  go_wp2_with (go_at_call 71; refine (bits_any _ _).mono ?_; rintro e w' ⟨rfl, rfl⟩)
  go_ret
  exact ⟨rfl, rfl⟩
theorem ssame_any (a b : Nat) (w : World) :
    Calls Tryz.prog 10 #[.float .f32 a, .float .f32 b] w fun e w' => e = .returned (.bool (sameB a b)) ∧ w' = w := by
  go_enter Tryz.func10, Tryz.ntmps10
  go_wp2_with (go_at_call 42; refine (lsame_any _ _ _).mono ?_; rintro e w' ⟨rfl, rfl⟩)
  go_ret
  exact ⟨rfl, rfl⟩
theorem sameB_nan_right {a b : Nat} (ha : (Lit.float .f32 a).wf = true) (na : (FloatKind.f32.decode a).isNaN = false) (nb : (FloatKind.f32.decode b).isNaN = true) : sameB a b = false := bitsI_nan_right ha na nb
theorem sameB_nan_left {a b : Nat} (hb : (Lit.float .f32 b).wf = true) (na : (FloatKind.f32.decode a).isNaN = true) : sameB a b = (FloatKind.f32.decode b).isNaN := bitsI_nan_left hb na
theorem sameB_ne {a b : Nat} (ha : (Lit.float .f32 a).wf = true) (hb : (Lit.float .f32 b).wf = true) (na : (FloatKind.f32.decode a).isNaN = false) (nb : (FloatKind.f32.decode b).isNaN = false) (h : (FloatKind.f32.format.order a b == some .eq) = false) : sameB a b = false := by
  unfold sameB
  rw [bitsI_inj_num ha hb na nb]
  apply decide_eq_false
  rintro rfl
  rw [order_self na] at h; cases h
theorem sameB_eq {a b r q : Nat} (ha : (Lit.float .f32 a).wf = true) (hb : (Lit.float .f32 b).wf = true) (na : (FloatKind.f32.decode a).isNaN = false) (nb : (FloatKind.f32.decode b).isNaN = false) (h : (FloatKind.f32.format.order a b == some .eq) = true)
    (hr : FConv .f32 .f64 a r) (hq : FConv .f32 .f64 b q) : sameB a b = (negN r == negN q) := by
  unfold sameB
  rw [bitsI_inj_num ha hb na nb, negN_wide na hr, negN_wide nb hq]
  have hm := ((order_eq_iff na nb).1 h).1
  have la : a < 2 * Ieee.single.signWeight := lt_of_wf ha
  have lb : b < 2 * Ieee.single.signWeight := lt_of_wf hb
  by_cases c : sgn Ieee.single a = sgn Ieee.single b
  · rw [c, beq_self_eq_true]
    apply decide_eq_true
    rw [word_sgn_mag Ieee.single la, word_sgn_mag Ieee.single lb, c, hm]
  · rw [beq_eq_false_iff_ne.2 c]
    apply decide_eq_false
    rintro rfl
    exact c rfl
theorem isame_any (a b : Nat) (ha : (Lit.float .f32 a).wf = true) (hb : (Lit.float .f32 b).wf = true) (w : World) :
    Calls Tryz.prog 59 #[.float .f32 a, .float .f32 b] w fun e w' => e = .returned (.bool (sameB a b)) ∧ ∃ n, w' = w.drewN n := by
  have na := neq_self a
  have nb := neq_self b
  cases hna : (FloatKind.f32.decode a).isNaN
  · cases hnb : (FloatKind.f32.decode b).isNaN
    · rw [hna] at na
      rw [hnb] at nb
      cases he : (FloatKind.f32.format.order a b == some .eq)
      · have hs : Hid (sameB a b = false) := sameB_ne ha hb hna hnb he
        clear ha hb hna hnb
        go_enter Tryz.func59, Tryz.ntmps59
        go_wp2
        go_ret
        exact ⟨by rw [hs.out]; rfl, 0, rfl⟩
      · have hs : Hid (∀ r q, FConv .f32 .f64 a r → FConv .f32 .f64 b q → sameB a b = (negN r == negN q)) := fun r q hr hq => sameB_eq ha hb hna hnb he hr hq
        clear hna hnb
        go_enter Tryz.func59, Tryz.ntmps59
        go_wp2_with (first | (refine wpList_fconv rfl _ _ _ rfl .f32 .f64 _ rfl (by assumption) (by rw [Tryz.underlying28]; rfl) Tryz.underlying46 ?_; intro r n hr) | (go_at_call 82; refine (signbit_any _ _).mono ?_; rintro e w' ⟨rfl, rfl⟩))
        go_ret
        exact ⟨by rw [hs.out _ _ (by assumption) (by assumption)]; rfl, _, rfl⟩
    · rw [hna] at na
      rw [hnb] at nb
      have hs : Hid (sameB a b = false) := sameB_nan_right ha hna hnb
      clear ha hb hna hnb
      go_enter Tryz.func59, Tryz.ntmps59
      go_wp2
      go_ret
      exact ⟨by rw [hs.out]; rfl, 0, rfl⟩
  · rw [hna] at na
    have hs : Hid (sameB a b = (FloatKind.f32.decode b).isNaN) := sameB_nan_left hb hna
    clear ha hb hna
    have nb' : Hid ((FloatKind.f32.format.order b b != some .eq) = (FloatKind.f32.decode b).isNaN) := nb
    clear nb
    go_enter Tryz.func59, Tryz.ntmps59
    go_wp2
    go_ret
    exact ⟨by rw [hs.out, ← nb'.out]; rfl, 0, rfl⟩
end Go.Proofs.YtogliigpoojfoaaGreatDoor
end

section
namespace Go.Proofs.YtogliigpoojfoaaGreatDoor
set_option maxRecDepth 100000
open Go.RowKit Fl

theorem mean_cases (k : FloatKind) (b : Nat) : ((k.decode b).isNaN = true ∧ mean k b = none) ∨ ((k.decode b).isNaN = false ∧ mean k b = some b) := by
  cases h : (k.decode b).isNaN
  · exact .inr ⟨rfl, mean_of h⟩
  · exact .inl ⟨rfl, mean_nan h⟩


theorem cf_sqrt (a : Nat) (w : World) : ∃ r n, (callFunc 72 #[.float .f64 a]).run Tryz.prog w = .ok (.value (.float .f64 r)) (w.drewN n) ∧ FSqrt a r := by
  obtain ⟨r, n, hr, hf⟩ := run_sqrt (P := Tryz.prog) w a
  have h := run_callFunc_extern (fn := Tryz.f72) (e := Extern.MathSqrt.sqrt) Tryz.func72 (by kernel_rfl) (by kernel_rfl) (by kernel_rfl) (by kernel_rfl) #[.float .f64 a] w
  exact ⟨r, n, by rw [h, hr]; rfl, hf⟩
theorem msqrt_any (a : Nat) (w : World) :
    Calls Tryz.prog 43 #[.float .f64 a] w fun e w' => ∃ r, FSqrt a r ∧ e = .returned (.float .f64 r) ∧ ∃ n, w' = w.drewN n := by
  obtain ⟨r, n, hc, hf⟩ := cf_sqrt a w
  go_enter Tryz.func43, Tryz.ntmps43
  go_wp2
  go_ret
  exact ⟨r, hf, rfl, n, rfl⟩
theorem narrow_any (a : Nat) (ha : (Lit.float .f64 a).wf = true) (w : World) :
    Calls Tryz.prog 73 #[.float .f64 a] w fun e w' => ∃ r, FConv .f64 .f32 a r ∧ e = .returned (.float .f32 r) ∧ ∃ n, w' = w.drewN n := by
  go_enter Tryz.func73, Tryz.ntmps73
  go_wp2_with (refine wpList_fconv rfl _ _ _ rfl .f64 .f32 _ rfl (by assumption) (by rw [Tryz.underlying46]; rfl) Tryz.underlying28 ?_; intro r n hr)
  go_ret
  exact ⟨r, hr, rfl, _, rfl⟩
/-- What the root of a 32-bit number is, through the 64-bit ones. -/
def RootOf (a r : Nat) : Prop := ∃ x y, FConv .f32 .f64 a x ∧ FSqrt x y ∧ FConv .f64 .f32 y r
theorem lsqrt_any (a : Nat) (ha : (Lit.float .f32 a).wf = true) (w : World) :
    Calls Tryz.prog 44 #[.float .f32 a] w fun e w' => ∃ r, RootOf a r ∧ e = .returned (.float .f32 r) ∧ ∃ n, w' = w.drewN n := by
  go_enter Tryz.func44, Tryz.ntmps44
  go_wp2_with (first | (refine wpList_fconv rfl _ _ _ rfl .f32 .f64 _ rfl (by assumption) (by rw [Tryz.underlying28]; rfl) Tryz.underlying46 ?_; intro x n hx) | (go_at_call 43; refine (msqrt_any _ _).mono ?_; rintro e w' ⟨y, hy, rfl, m, rfl⟩) | (go_at_call 73; refine (narrow_any _ (by exact hy.2) _).mono ?_; rintro e w' ⟨r, hr, rfl, k, rfl⟩))
  go_ret
  exact ⟨r, ⟨x, y, hx, hy, hr⟩, rfl, _, rfl⟩
theorem sroot_any (a : Nat) (ha : (Lit.float .f32 a).wf = true) (w : World) :
    Calls Tryz.prog 12 #[.float .f32 a] w fun e w' => ∃ r, RootOf a r ∧ e = .returned (.float .f32 r) ∧ ∃ n, w' = w.drewN n := by
  go_enter Tryz.func12, Tryz.ntmps12
  go_wp2_with (go_at_call 44; refine (lsqrt_any _ (by assumption) _).mono ?_; rintro e w' ⟨r, hr, rfl, k, rfl⟩)
  go_ret
  exact ⟨r, hr, rfl, _, rfl⟩
theorem root_wf {a r : Nat} (h : RootOf a r) : (Lit.float .f32 r).wf = true := by
  obtain ⟨x, y, _, _, h⟩ := h; exact h.2
theorem root_fits {a x y : Nat} (hx : FConv .f32 .f64 a x) (hy : FSqrt x y) : fits .f64 .f32 y = true := by
  rcases mean_cases .f32 a with ⟨h1, h2⟩ | ⟨h1, h2⟩
  · have h3 := hx.1 (fits_wide a)
    rw [h2] at h3
    have h4 := hy.1
    rw [h3] at h4
    rcases mean_cases .f64 y with ⟨g1, g2⟩ | ⟨g1, g2⟩
    · exact fits_nan g1
    · rw [g2] at h4; cases h4
  · by_cases hf : mag Ieee.single a < Ieee.single.infRung
    · exact sqrt_fits (wide_bd hf hx) hy
    · have hi : mag FloatKind.f32.format a = FloatKind.f32.format.infRung := by
        have := le_inf h1
        have : ¬ mag FloatKind.f32.format a < FloatKind.f32.format.infRung := hf
        omega
      have hd : FloatKind.f32.decode a = .infinity (sgn Ieee.single a) := read_inf .f32 hi
      have h3 := hx.1 (fits_wide a)
      rw [h2] at h3
      have h5 : mean .f64 x = some (FloatKind.f64.encode (FloatKind.f32.decode a)) := h3
      rw [hd] at h5
      have h4 := hy.1
      rw [h5] at h4
      cases hs : sgn Ieee.single a
      · rw [hs] at h4
        have h6 : mean .f64 y = some 9218868437227405312 := by rw [h4]; decide +kernel
        obtain ⟨rfl, -⟩ := mean_some h6
        exact fits_inf (by decide)
      · rw [hs] at h4
        have h6 : mean .f64 y = none := by rw [h4]; decide +kernel
        rcases mean_cases .f64 y with ⟨g1, g2⟩ | ⟨g1, g2⟩
        · exact fits_nan g1
        · rw [g2] at h6; cases h6
theorem root_same {a r g x y : Nat} (hr : RootOf a r) (hg : RootOf a g) (hx : FConv .f32 .f64 g x) (hy : FConv .f32 .f64 r y) : mean .f64 x = mean .f64 y := by
  obtain ⟨x1, y1, h1, h2, h3⟩ := hr
  obtain ⟨x2, y2, h4, h5, h6⟩ := hg
  have e1 : mean .f64 x1 = mean .f64 x2 := by rw [h1.1 (fits_wide a), h4.1 (fits_wide a)]
  have e2 : mean .f64 y1 = mean .f64 y2 := by rw [h2.1, h5.1, e1]
  have e3 : mean .f32 r = mean .f32 g := conv_same e2 h3 h6 (root_fits h1 h2) (root_fits h4 h5)
  exact conv_same e3.symm hx hy (fits_wide _) (fits_wide _)
end Go.Proofs.YtogliigpoojfoaaGreatDoor
end

section
namespace Go.Proofs.YtogliigpoojfoaaGreatDoor
set_option maxRecDepth 100000
open Go.RowKit Fl

theorem win_yes (n lo hi : Int) (h1 : lo ≤ n) (h2 : n ≤ hi) (w : World) :
    Calls Tryz.prog 53 #[.int .i64 n, .int .i64 lo, .int .i64 hi] w fun e w' => e = .returned (.bool true) ∧ w' = w := by
  go_enter Tryz.func53, Tryz.ntmps53
  go_wp2
  go_ret
  exact ⟨rfl, rfl⟩
theorem win_no (n lo hi : Int) (h : n < lo ∨ hi < n) (w : World) :
    Calls Tryz.prog 53 #[.int .i64 n, .int .i64 lo, .int .i64 hi] w fun e w' => e = .returned (.bool false) ∧ w' = w := by
  by_cases h1 : lo ≤ n
  · have h2 : ¬ n ≤ hi := by omega
    clear h
    go_enter Tryz.func53, Tryz.ntmps53
    go_wp2
    go_ret
    exact ⟨rfl, rfl⟩
  · clear h
    go_enter Tryz.func53, Tryz.ntmps53
    go_wp2
    go_ret
    exact ⟨rfl, rfl⟩

theorem ret_float {k : FloatKind} {a b : Nat} (h : a = b) : Ending.returned (.float k a) = .returned (.float k b) := by rw [h]
theorem ret_float_bool {k : FloatKind} {a b : Nat} {c : Bool} (h : a = b) : Ending.returned (.tuple #[.float k a, .bool c]) = .returned (.tuple #[.float k b, .bool c]) := by rw [h]
theorem wide_same {a x y : Nat} (hx : FConv .f32 .f64 a x) (hy : FConv .f32 .f64 a y) : mean .f64 x = mean .f64 y := conv_same rfl hx hy (fits_wide _) (fits_wide _)
theorem lfrom_any (n : Nat) (hn : n < 4294967296) (w : World) :
    Calls Tryz.prog 51 #[.int .i64 n] w fun e w' => e = .returned (.float .f32 n) ∧ w' = w := by
  have hc : Hid (n % 4294967296 = n) := Nat.mod_eq_of_lt hn
  clear hn
  go_enter Tryz.func51, Tryz.ntmps51
  go_wp2
  go_ret
  exact ⟨ret_float hc.out, rfl⟩
def fromOf (n : Int) : Nat := if 0 ≤ n ∧ n ≤ 4294967295 then n.toNat else 0
def fromOk (n : Int) : Bool := decide (0 ≤ n ∧ n ≤ 4294967295)
theorem fromOf_wf (n : Int) : (Lit.float .f32 (fromOf n)).wf = true := by
  unfold fromOf
  split
  · exact wf_of_lt .f32 _ (show n.toNat < 4294967296 by omega)
  · decide
theorem ifrom_any (n : Int) (w : World) :
    Calls Tryz.prog 20 #[.int .i64 n] w fun e w' => e = .returned (.tuple #[.float .f32 (fromOf n), .bool (fromOk n)]) ∧ w' = w := by
  by_cases h : 0 ≤ n ∧ n ≤ 4294967295
  · have e1 : fromOf n = n.toNat := if_pos h
    have e2 : fromOk n = true := decide_eq_true h
    rw [e1, e2]
    clear e1 e2
    obtain ⟨h0, h1⟩ := h
    obtain ⟨m, rfl⟩ := Int.eq_ofNat_of_zero_le h0
    rw [Int.toNat_natCast]
    go_enter Tryz.func20, Tryz.ntmps20
    go_wp2_with (go_at_call 53; refine (win_yes _ _ _ (by omega) (by omega) _).mono ?_; rintro e w' ⟨rfl, rfl⟩)
    go_ret2
    exact ⟨rfl, rfl⟩
  · have e1 : fromOf n = 0 := if_neg h
    have e2 : fromOk n = false := decide_eq_false h
    rw [e1, e2]
    have h' : n < 0 ∨ 4294967295 < n := by omega
    clear e1 e2 h
    go_enter Tryz.func20, Tryz.ntmps20
    go_wp2_with (go_at_call 53; refine (win_no _ _ _ (by omega) _).mono ?_; rintro e w' ⟨rfl, rfl⟩)
    go_ret2
    exact ⟨rfl, rfl⟩
/-- A number, but a zero of its sign where it is subnormal. -/
def flushN (a : Nat) : Nat := if mag Ieee.single a < 8388608 then a / 2147483648 * 2147483648 else a
theorem flushN_lt {a : Nat} (h : (Lit.float .f32 a).wf = true) : (Lit.float .f32 (flushN a)).wf = true := by
  have := lt_of_wf h
  refine wf_of_lt .f32 _ (show flushN a < 4294967296 from ?_)
  unfold flushN; split <;> omega
theorem flushN_small {a : Nat} (h : mag Ieee.single a < 8388608) : flushN a = a / 2147483648 * 2147483648 := if_pos h
theorem flushN_great {a : Nat} (h : ¬ mag Ieee.single a < 8388608) : flushN a = a := if_neg h
theorem bitsI_small {a : Nat} (ha : (Lit.float .f32 a).wf = true) (h : mag Ieee.single a < 8388608) : bitsI a = (a : Int) := by
  rw [bitsI_eq ha]
  unfold bitsN
  rw [nan32]
  have : ¬ 2139095040 < a % 2147483648 := by
    have : a % 2147483648 < 8388608 := h
    omega
  rw [decide_eq_false this]; rfl
theorem sign_bits {a : Nat} (ha : (Lit.float .f32 a).wf = true) (h : mag Ieee.single a < 8388608) : bits BinOp.and IntKind.i64 (bitsI a) 2147483648 = ((flushN a : Nat) : Int) := by
  have hl := lt_of_wf ha
  rw [bitsI_small ha h, flushN_small h]
  have e : bits BinOp.and IntKind.i64 (a : Int) 2147483648 = ((a &&& 2147483648 : Nat) : Int) := i64_and_nat _ 2147483648 hl (by decide)
  rw [e, and_sign a hl]
theorem copy_flush {a x g : Nat} (ha : (Lit.float .f32 a).wf = true) (hs : mag Ieee.single a < 8388608) (hx : FConv .f32 .f64 a x) (hg : FConv .f64 .f32 (copyN 0 x) g) : g = flushN a := by
  have hl := lt_of_wf ha
  have hn : (FloatKind.f32.decode a).isNaN = false := by
    rw [nan32]; apply decide_eq_false
    have : a % 2147483648 < 8388608 := hs
    omega
  rw [copyN_zero hx.2] at hg
  obtain ⟨q, rfl, hq, -, -⟩ := widen hn hx
  have hq' : q ≤ 9218868437227405312 := hq
  rw [word_double] at hg
  rw [flushN_small hs]
  cases hsg : sgn Ieee.single a
  · rw [hsg] at hg
    have e : ((if false = true then 9223372036854775808 else 0) + q) / 9223372036854775808 * 9223372036854775808 = 0 := by
      simp only [Bool.false_eq_true, if_false]; omega
    rw [e] at hg
    have h1 := hg.1 (by decide)
    have h2 : mean .f32 g = some 0 := by rw [h1]; decide +kernel
    obtain ⟨rfl, -⟩ := mean_some h2
    have : (a / 2147483648 % 2 == 1) = false := hsg
    rw [beq_eq_false_iff_ne] at this
    omega
  · rw [hsg] at hg
    have e : ((if true = true then 9223372036854775808 else 0) + q) / 9223372036854775808 * 9223372036854775808 = 9223372036854775808 := by
      simp only [if_true]; omega
    rw [e] at hg
    have h1 := hg.1 (by decide)
    have h2 : mean .f32 g = some 2147483648 := by rw [h1]; decide +kernel
    obtain ⟨rfl, -⟩ := mean_some h2
    have : (a / 2147483648 % 2 == 1) = true := hsg
    rw [beq_iff_eq] at this
    omega
theorem flushN_not_sub {a : Nat} (ha : (Lit.float .f32 a).wf = true) (h : subB a = false) : flushN a = a := by
  have hl := lt_of_wf ha
  unfold subB at h
  have h := of_decide_eq_false h
  by_cases c : mag Ieee.single a < 8388608
  · rw [flushN_small c]
    have : mag Ieee.single a = 0 := by omega
    have : a % 2147483648 = 0 := this
    omega
  · exact flushN_great c
theorem subB_small {a : Nat} (h : subB a = true) : mag Ieee.single a < 8388608 := by
  unfold subB at h
  exact (of_decide_eq_true h).2
theorem iflush_any (a : Nat) (ha : (Lit.float .f32 a).wf = true) (w : World) :
    Calls Tryz.prog 28 #[.float .f32 a] w fun e w' => e = .returned (.float .f32 (flushN a)) ∧ ∃ n, w' = w.drewN n := by
  cases h : subB a
  · have h2 : Hid (flushN a = a) := flushN_not_sub ha h
    go_enter Tryz.func28, Tryz.ntmps28
    go_wp2_with (go_at_call 33; refine (isub_any _ (by assumption) _).mono ?_; rintro e w' ⟨rfl, n, rfl⟩)
    go_ret
    exact ⟨by rw [h2.out]; rfl, _, rfl⟩
  · have hs : Hid (mag Ieee.single a < 8388608) := subB_small h
    go_enter Tryz.func28, Tryz.ntmps28
    go_wp2_with (first | (go_at_call 33; refine (isub_any _ (by assumption) _).mono ?_; rintro e w' ⟨rfl, n, rfl⟩) | (refine wpList_fconv rfl _ _ _ rfl .f32 .f64 _ rfl (by assumption) (by rw [Tryz.underlying28]; rfl) Tryz.underlying46 ?_; intro x n hx) | (go_at_call 62; refine (copysign_any _ _ _).mono ?_; rintro e w' ⟨rfl, rfl⟩) | (refine wpList_fconv rfl _ _ _ rfl .f64 .f32 _ rfl (by exact copyN_wf hx.2) (by rw [Tryz.underlying46]; rfl) Tryz.underlying28 ?_; intro g n hg))
    go_ret
    exact ⟨by rw [← copy_flush ha hs.out hx hg]; rfl, _, rfl⟩
end Go.Proofs.YtogliigpoojfoaaGreatDoor
end

section
namespace Go.Proofs.YtogliigpoojfoaaGreatDoor
set_option maxRecDepth 100000
open Go.RowKit Fl
/-- A slice of 32-bit numbers reads as a list of words. -/
def FRow (w : World) (a : Option Addr) (l : List Nat) : Prop :=
  ∀ i, i < l.length → ∃ b o, a = some ⟨b, o, none⟩ ∧ b < w.heap.size ∧ w.cell? ⟨b, o + i, none⟩ = some (.float .f32 (l.getD i 0))
def AllWf (l : List Nat) : Prop := ∀ i, i < l.length → (Lit.float .f32 (l.getD i 0)).wf = true

theorem FRow.below {w w' : World} {a : Option Addr} {l : List Nat} (h : FRow w a l) (hb : Below w.heap.size w w') : FRow w' a l := by
  intro i hi
  obtain ⟨b, o, ha, hlt, hc⟩ := h i hi
  refine ⟨b, o, ha, Nat.lt_of_lt_of_le hlt hb.size, ?_⟩
  rw [hb.cell (p := ⟨b, o + i, none⟩) hlt]; exact hc
theorem FRow.drewN {w : World} {a : Option Addr} {l : List Nat} (h : FRow w a l) (n : Nat) : FRow (w.drewN n) a l := h
theorem getD_get {l : List Nat} {k : Nat} (h : k < l.length) : l.getD k 0 = l[k] := by simp [List.getD, List.getElem?_eq_getElem h]
end Go.Proofs.YtogliigpoojfoaaGreatDoor
end

section
namespace Go.Proofs.YtogliigpoojfoaaGreatDoor.Fl
set_option maxRecDepth 100000
open Go

theorem step_fconv {P : Program} {ops : Array Oper} {o : Oper} {a : Act} {w : World} {K : Act → World → Prop} {Q : Exit → Act → World → Prop} {E : Prop} (hgd : Region.wanted o (yielded ops a.tmps) = true) (src dst : TypeId) (x : Operand) (ho : o.op = .convert src dst x)
    (s k : FloatKind) (p : Nat) (hx : a.eval x = .float s p) (hw : (Lit.float s p).wf = true) (hs : (P.underlying src).isSome = true) (hd : P.underlying dst = some (.float k))
    (h : ∀ r n, FConv s k p r → K (a.put o.dst (.float k r)) (w.drewN n)) : if Region.wanted o (yielded ops a.tmps) = true then Oper.wp P o a w K Q else E := by
  rw [if_pos hgd]
  obtain ⟨r, n, hr, hf⟩ := run_fconv (P := P) w src dst s k p hw hs hd
  have hK' := h r n hf
  have hr' : (convert src dst (a.eval x)).run P w = .ok (.float k r) (w.drewN n) := by rw [hx]; exact hr
  unfold Oper.wp execOp
  simp only [ho, Sem.run_bind, Sem.run_pure, Result.andThen_ok, hr']
  exact hK'

theorem step_float {P : Program} {ops : Array Oper} {o : Oper} {a : Act} {w : World} {K : Act → World → Prop} {Q : Exit → Act → World → Prop} {E : Prop} (hgd : Region.wanted o (yielded ops a.tmps) = true) (op : BinOp) (tx ty : TypeId) (x y : Operand) (ho : o.op = .binOp op tx x y ty)
    (har : isArith op = true) (k : FloatKind) (p q : Nat) (hx : a.eval x = .float k p) (hy : a.eval y = .float k q)
    (h : ∀ r n, FRes op k p q r → K (a.put o.dst (.float k r)) (w.drewN n)) : if Region.wanted o (yielded ops a.tmps) = true then Oper.wp P o a w K Q else E := by
  rw [if_pos hgd]
  obtain ⟨r, n, hr, hf⟩ := run_float (P := P) w op har tx k p q
  have hK' := h r n hf
  have hr' : (binOp op tx (a.eval x) (a.eval y)).run P w = .ok (.float k r) (w.drewN n) := by rw [hx, hy]; exact hr
  have heq : (eqGuard op tx x y (a.eval x) (a.eval y)).run P w = .ok () w := by
    cases op <;> simp only [isArith] at har <;> first | (cases har; done) | rfl
  unfold Oper.wp execOp
  simp only [ho, Sem.run_bind, Sem.run_pure, Result.andThen_ok, heq, hr']
  exact hK'
/-- One operation of a region that draws its order. -/
theorem wpOp_of_wp {P : Program} {ops : Array Oper} {Q : Exit → Act → World → Prop} {i : Nat} {o : Oper} {K : Act → World → Prop} {a : Act} {w : World} (hi : ops[i]? = some o) (hg : Region.wanted o (yielded ops a.tmps) = true)
    (h : o.wp P a w K Q) : wpOp P ops Q i K a w := by
  unfold Go.wpOp
  simp only [hi, hg, if_true]
  exact .inl h
theorem wp_fconv {P : Program} {o : Oper} {a : Act} {w : World} {K : Act → World → Prop} {Q : Exit → Act → World → Prop} (src dst : TypeId) (x : Operand) (ho : o.op = .convert src dst x)
    (s k : FloatKind) (p : Nat) (hx : a.eval x = .float s p) (hw : (Lit.float s p).wf = true) (hs : (P.underlying src).isSome = true) (hd : P.underlying dst = some (.float k))
    (h : ∀ r n, FConv s k p r → K (a.put o.dst (.float k r)) (w.drewN n)) : Oper.wp P o a w K Q := by
  obtain ⟨r, n, hr, hf⟩ := run_fconv (P := P) w src dst s k p hw hs hd
  have hK' := h r n hf
  have hr' : (convert src dst (a.eval x)).run P w = .ok (.float k r) (w.drewN n) := by rw [hx]; exact hr
  unfold Oper.wp execOp
  simp only [ho, Sem.run_bind, Sem.run_pure, Result.andThen_ok, hr']
  exact hK'
theorem wp_float {P : Program} {o : Oper} {a : Act} {w : World} {K : Act → World → Prop} {Q : Exit → Act → World → Prop} (op : BinOp) (tx ty : TypeId) (x y : Operand) (ho : o.op = .binOp op tx x y ty)
    (har : isArith op = true) (k : FloatKind) (p q : Nat) (hx : a.eval x = .float k p) (hy : a.eval y = .float k q)
    (h : ∀ r n, FRes op k p q r → K (a.put o.dst (.float k r)) (w.drewN n)) : Oper.wp P o a w K Q := by
  obtain ⟨r, n, hr, hf⟩ := run_float (P := P) w op har tx k p q
  have hK' := h r n hf
  have hr' : (binOp op tx (a.eval x) (a.eval y)).run P w = .ok (.float k r) (w.drewN n) := by rw [hx, hy]; exact hr
  have heq : (eqGuard op tx x y (a.eval x) (a.eval y)).run P w = .ok () w := by
    cases op <;> simp only [isArith] at har <;> first | (cases har; done) | rfl
  unfold Oper.wp execOp
  simp only [ho, Sem.run_bind, Sem.run_pure, Result.andThen_ok, heq, hr']
  exact hK'
/-- A call, by its contract. -/
theorem wp_call {P : Program} {o : Oper} {a : Act} {w : World} {K : Act → World → Prop} {Q : Exit → Act → World → Prop} {f : FuncId} {args : Array Value} (hr : (execOp a.eval o).run P w = .ok (.enter f args) w)
    (h : Calls P f args w fun e w' => ∃ v, e = .returned v ∧ K (a.put o.dst v) w') : Oper.wp P o a w K Q := by
  unfold Oper.wp
  rw [hr]
  refine Calls.mono h ?_
  rintro e w' ⟨v, rfl, hk⟩
  exact hk
theorem drawn_once (w : World) (n m : Nat) : ({ heap := w.heap, tape := w.tape, drawn := (w.drewN n).drawn + 1, os := (w.drewN n).os, output := (w.drewN n).output } : World).drewN m = w.drewN (n + 1 + m) := by
  show ({ w with drawn := w.drawn + n + 1 + m } : World) = { w with drawn := w.drawn + (n + 1 + m) }
  congr 1
  omega
end Go.Proofs.YtogliigpoojfoaaGreatDoor.Fl
end

section
namespace Go.Proofs.YtogliigpoojfoaaGreatDoor
set_option maxRecDepth 100000
open Go.RowKit Fl

theorem below_drewN' (w : World) (n : Nat) : Below w.heap.size w (w.drewN n) := by
  induction n with
  | zero => exact Below.refl _ _
  | succ n ih => exact ih.drew

theorem Tryz.infoF : (Tryz.prog.info? 28).map (fun i => (i.zero, i.size, i.bytes)) = some (some (.float .f32 0), 1, 4) := by kernel_rfl

def vals (l : List Nat) : List Value := l.map (Value.float .f32)
theorem Lib_hid {p : Prop} (h : p) : Hid p := h

end Go.Proofs.YtogliigpoojfoaaGreatDoor
end
