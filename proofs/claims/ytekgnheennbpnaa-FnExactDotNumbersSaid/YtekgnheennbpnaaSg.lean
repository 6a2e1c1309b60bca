/-
  Contracts: bounds, check numbers, numbers out of bits, flushed numbers.
-/
import Derived.Test.YtekgnheennbpnaaSf
namespace Go.Proofs.Ytekgnheennbpnaa
open Go.RowKit Fl

theorem sin_yes (n lo hi : Int) (h1 : lo ≤ n) (h2 : n ≤ hi) (w : World) :
    Calls Try.prog 43 #[.int .i64 n, .int .i64 lo, .int .i64 hi] w fun e w' => e = .returned (.bool true) ∧ w' = w := by
  go_enter Try.func43, Try.ntmps43
  go_wp2
  go_ret
  exact ⟨rfl, rfl⟩
theorem sin_no (n lo hi : Int) (h : n < lo ∨ hi < n) (w : World) :
    Calls Try.prog 43 #[.int .i64 n, .int .i64 lo, .int .i64 hi] w fun e w' => e = .returned (.bool false) ∧ w' = w := by
  by_cases h1 : lo ≤ n
  · have h2 : ¬ n ≤ hi := by omega
    clear h
    go_enter Try.func43, Try.ntmps43
    go_wp2
    go_ret
    exact ⟨rfl, rfl⟩
  · clear h
    go_enter Try.func43, Try.ntmps43
    go_wp2
    go_ret
    exact ⟨rfl, rfl⟩
theorem win_yes (n lo hi : Int) (h1 : lo ≤ n) (h2 : n ≤ hi) (w : World) :
    Calls Try.prog 45 #[.int .i64 n, .int .i64 lo, .int .i64 hi] w fun e w' => e = .returned (.bool true) ∧ w' = w := by
  go_enter Try.func45, Try.ntmps45
  go_wp2
  go_ret
  exact ⟨rfl, rfl⟩
theorem win_no (n lo hi : Int) (h : n < lo ∨ hi < n) (w : World) :
    Calls Try.prog 45 #[.int .i64 n, .int .i64 lo, .int .i64 hi] w fun e w' => e = .returned (.bool false) ∧ w' = w := by
  by_cases h1 : lo ≤ n
  · have h2 : ¬ n ≤ hi := by omega
    clear h
    go_enter Try.func45, Try.ntmps45
    go_wp2
    go_ret
    exact ⟨rfl, rfl⟩
  · clear h
    go_enter Try.func45, Try.ntmps45
    go_wp2
    go_ret
    exact ⟨rfl, rfl⟩
/-- The check number of bytes. -/
def chk (n : Int) (l : List UInt8) : Int := l.foldl (fun n c => (911 * n + (c.toNat : Int) + 181) % 65003) n
theorem chk_snoc (n : Int) (l : List UInt8) (c : UInt8) : chk n (l ++ [c]) = (911 * chk n l + (c.toNat : Int) + 181) % 65003 := by simp [chk]
theorem chk_bd (n : Int) (h0 : 0 ≤ n) (h1 : n < 65003) (l : List UInt8) : 0 ≤ chk n l ∧ chk n l < 65003 := by
  unfold chk
  induction l generalizing n with
  | nil => exact ⟨h0, h1⟩
  | cons c l ih => refine ih _ ?_ ?_ <;> (dsimp only; omega)
def chkOf (n : Int) (l : List UInt8) : Int := if 0 ≤ n ∧ n < 65003 then chk n l else 0
def chkOk (n : Int) : Bool := decide (0 ≤ n ∧ n < 65003)
theorem chkOf_in {n : Int} {l : List UInt8} (h : 0 ≤ n ∧ n < 65003) : chkOf n l = chk n l := if_pos h
theorem chkOf_out {n : Int} {l : List UInt8} (h : ¬ (0 ≤ n ∧ n < 65003)) : chkOf n l = 0 := if_neg h
theorem chkOk_in {n : Int} (h : 0 ≤ n ∧ n < 65003) : chkOk n = true := decide_eq_true h
theorem chkOk_out {n : Int} (h : ¬ (0 ≤ n ∧ n < 65003)) : chkOk n = false := decide_eq_false h
theorem take_snoc (s : ByteArray) (k : Nat) (h : k < s.size) : s.data.toList.take (k + 1) = s.data.toList.take k ++ [s[k]] := by
  rw [List.take_succ_eq_append_getElem (by simpa using h)]; rfl
theorem ret_int {k : IntKind} {a b : Int} (h : a = b) : Ending.returned (.int k a) = .returned (.int k b) := by rw [h]
theorem ret_int_bool {k : IntKind} {a b : Int} {c : Bool} (h : a = b) : Ending.returned (.tuple #[.int k a, .bool c]) = .returned (.tuple #[.int k b, .bool c]) := by rw [h]
theorem take_all (s : ByteArray) : s.data.toList.take s.size = s.data.toList := List.take_of_length_le (by simp)

theorem lcheck_any (n : Int) (h0 : 0 ≤ n) (h1 : n < 65003) (s : ByteArray) (hs : s.size ≤ maxLen) (w : World) :
    Calls Try.prog 44 #[.int .i64 n, .string s] w fun e w' => e = .returned (.int .i64 (chk n s.data.toList)) ∧ w' = w := by
  unfold maxLen at hs
  go_enter Try.func44, Try.ntmps44
  go_wp2
  go_loop [0, 5] (fun v i => ∃ k : Nat, k ≤ s.size ∧ i = .int .i64 k ∧ v = .int .i64 (chk n (s.data.toList.take k))) (fun _ i => s.size - (intOf i).toNat)
  case atStart => exact ⟨0, Nat.zero_le _, rfl, rfl⟩
  case round =>
    obtain ⟨k, hk, rfl, rfl⟩ := hrel
    have hb := chk_bd n h0 h1 (s.data.toList.take k)
    obtain ⟨hb0, hb1⟩ := hb
    by_cases hlt : k < s.size
    · have HS : Hid (chk n (s.data.toList.take (k + 1)) = (911 * chk n (s.data.toList.take k) + (s[k].toNat : Int) + 181) % 65003) := by
        rw [take_snoc s k hlt]; exact chk_snoc _ _ _
      have hc : (s[k].toNat : Int) < 256 := by have := s[k].toNat_lt; omega
      go_wp2
      all_goals
        go_round
        case rel => exact ⟨k + 1, by omega, by go_num, by rw [HS.out]⟩
        case measure => simp [intOf]; omega
    · go_wp2
      go_ret
      exact ⟨ret_int (by rw [show k = s.size by omega, take_all]), rfl⟩
theorem scheck_any (n : Int) (s : ByteArray) (hs : s.size ≤ maxLen) (w : World) :
    Calls Try.prog 22 #[.int .i64 n, .string s] w fun e w' => e = .returned (.tuple #[.int .i64 (chkOf n s.data.toList), .bool (chkOk n)]) ∧ w' = w := by
  by_cases h : 0 ≤ n ∧ n < 65003
  · rw [chkOf_in h, chkOk_in h]
    obtain ⟨h0, h1⟩ := h
    go_enter Try.func22, Try.ntmps22
    go_wp2_with (first | (go_at_call 43; refine (sin_yes _ _ _ (by omega) (by omega) _).mono ?_; rintro e w' ⟨rfl, rfl⟩) | (go_at_call 44; refine (lcheck_any _ (by assumption) (by assumption) _ (by assumption) _).mono ?_; rintro e w' ⟨rfl, rfl⟩))
    go_ret2
    exact ⟨rfl, rfl⟩
  · rw [chkOf_out h, chkOk_out h]
    have h' : n < 0 ∨ 65002 < n := by omega
    clear h
    go_enter Try.func22, Try.ntmps22
    go_wp2_with (go_at_call 43; refine (sin_no _ _ _ (by omega) _).mono ?_; rintro e w' ⟨rfl, rfl⟩)
    go_ret2
    exact ⟨rfl, rfl⟩
theorem icheck_any (n : Int) (s : ByteArray) (hs : s.size ≤ maxLen) (w : World) :
    Calls Try.prog 23 #[.int .i64 n, .string s] w fun e w' => e = .returned (.tuple #[.int .i64 (chkOf n s.data.toList), .bool (chkOk n)]) ∧ w' = w := by
  unfold maxLen at hs
  by_cases h : 0 ≤ n ∧ n < 65003
  · rw [chkOf_in h, chkOk_in h]
    obtain ⟨h0, h1⟩ := h
    go_enter Try.func23, Try.ntmps23
    go_wp2_with (go_at_call 45; refine (win_yes _ _ _ (by omega) (by omega) _).mono ?_; rintro e w' ⟨rfl, rfl⟩)
    go_loop [0, 6, 12] (fun v _ i => ∃ k : Nat, k ≤ s.size ∧ i = .int .i64 k ∧ v = .int .i64 (chk n (s.data.toList.take k))) (fun _ _ i => s.size - (intOf i).toNat)
    case atStart => exact ⟨0, Nat.zero_le _, rfl, rfl⟩
    case round =>
      obtain ⟨k, hk, rfl, rfl⟩ := hrel
      have hb := chk_bd n h0 h1 (s.data.toList.take k)
      obtain ⟨hb0, hb1⟩ := hb
      by_cases hlt : k < s.size
      · have HS : Hid (chk n (s.data.toList.take (k + 1)) = (911 * chk n (s.data.toList.take k) + (s[k].toNat : Int) + 181) % 65003) := by
          rw [take_snoc s k hlt]; exact chk_snoc _ _ _
        have hc : (s[k].toNat : Int) < 256 := by have := s[k].toNat_lt; omega
        go_wp2
        all_goals
          go_round
          case rel => exact ⟨k + 1, by omega, by go_num, by rw [HS.out]⟩
          case measure => simp [intOf]; omega
      · go_wp2
        go_ret2
        exact ⟨ret_int_bool (by rw [show k = s.size by omega, take_all]), rfl⟩
  · rw [chkOf_out h, chkOk_out h]
    have h' : n < 0 ∨ 65002 < n := by omega
    clear h
    go_enter Try.func23, Try.ntmps23
    go_wp2_with (go_at_call 45; refine (win_no _ _ _ (by omega) _).mono ?_; rintro e w' ⟨rfl, rfl⟩)
    go_ret2
    exact ⟨rfl, rfl⟩
theorem law_CheckOf (n : Int) (s : ByteArray) (_ : (Lit.int .i64 n).wf = true) (hs : s.size ≤ maxLen) (w : World) :
    Calls Try.prog 8 #[.int .i64 n, .string s] w fun e w' => e = .returned (.bool true) ∧ Grown w w' := by
  go_enter Try.func8, Try.ntmps8
  go_wp2_with (first | (go_at_call 22; refine (scheck_any _ _ (by assumption) _).mono ?_; rintro e w' ⟨rfl, rfl⟩) | (go_at_call 23; refine (icheck_any _ _ (by assumption) _).mono ?_; rintro e w' ⟨rfl, rfl⟩))
  all_goals (go_ret; exact ⟨rfl, Grown.refl _⟩)

theorem ret_float {k : FloatKind} {a b : Nat} (h : a = b) : Ending.returned (.float k a) = .returned (.float k b) := by rw [h]
theorem ret_float_bool {k : FloatKind} {a b : Nat} {c : Bool} (h : a = b) : Ending.returned (.tuple #[.float k a, .bool c]) = .returned (.tuple #[.float k b, .bool c]) := by rw [h]
theorem wide_same {a x y : Nat} (hx : FConv .f32 .f64 a x) (hy : FConv .f32 .f64 a y) : mean .f64 x = mean .f64 y := conv_same rfl hx hy (fits_wide _) (fits_wide _)
theorem lfrom_any (n : Nat) (hn : n < 4294967296) (w : World) :
    Calls Try.prog 46 #[.int .i64 n] w fun e w' => e = .returned (.float .f32 n) ∧ w' = w := by
  have hc : Hid (n % 4294967296 = n) := Nat.mod_eq_of_lt hn
  clear hn
  go_enter Try.func46, Try.ntmps46
  go_wp2
  go_ret
  exact ⟨ret_float hc.out, rfl⟩
def fromOf (n : Int) : Nat := if 0 ≤ n ∧ n ≤ 4294967295 then n.toNat else 0
def fromOk (n : Int) : Bool := decide (0 ≤ n ∧ n ≤ 4294967295)
theorem fromOf_wf (n : Int) : (Lit.float .f32 (fromOf n)).wf = true := by
  unfold fromOf
  split
  · exact wf_of_lt .f32 _ (show n.toNat < 4294967296 by omega)
  · decide
theorem sfrom_any (n : Int) (w : World) :
    Calls Try.prog 24 #[.int .i64 n] w fun e w' => e = .returned (.tuple #[.float .f32 (fromOf n), .bool (fromOk n)]) ∧ w' = w := by
  by_cases h : 0 ≤ n ∧ n ≤ 4294967295
  · have e1 : fromOf n = n.toNat := if_pos h
    have e2 : fromOk n = true := decide_eq_true h
    rw [e1, e2]
    clear e1 e2
    obtain ⟨h0, h1⟩ := h
    obtain ⟨m, rfl⟩ := Int.eq_ofNat_of_zero_le h0
    rw [Int.toNat_natCast]
    go_enter Try.func24, Try.ntmps24
    go_wp2_with (first | (go_at_call 43; refine (sin_yes _ _ _ (by omega) (by omega) _).mono ?_; rintro e w' ⟨rfl, rfl⟩) | (go_at_call 46; refine (lfrom_any _ (by omega) _).mono ?_; rintro e w' ⟨rfl, rfl⟩))
    go_ret2
    exact ⟨rfl, rfl⟩
  · have e1 : fromOf n = 0 := if_neg h
    have e2 : fromOk n = false := decide_eq_false h
    rw [e1, e2]
    have h' : n < 0 ∨ 4294967295 < n := by omega
    clear e1 e2 h
    go_enter Try.func24, Try.ntmps24
    go_wp2_with (go_at_call 43; refine (sin_no _ _ _ (by omega) _).mono ?_; rintro e w' ⟨rfl, rfl⟩)
    go_ret2
    exact ⟨rfl, rfl⟩
theorem ifrom_any (n : Int) (w : World) :
    Calls Try.prog 25 #[.int .i64 n] w fun e w' => e = .returned (.tuple #[.float .f32 (fromOf n), .bool (fromOk n)]) ∧ w' = w := by
  by_cases h : 0 ≤ n ∧ n ≤ 4294967295
  · have e1 : fromOf n = n.toNat := if_pos h
    have e2 : fromOk n = true := decide_eq_true h
    rw [e1, e2]
    clear e1 e2
    obtain ⟨h0, h1⟩ := h
    obtain ⟨m, rfl⟩ := Int.eq_ofNat_of_zero_le h0
    rw [Int.toNat_natCast]
    go_enter Try.func25, Try.ntmps25
    go_wp2_with (go_at_call 45; refine (win_yes _ _ _ (by omega) (by omega) _).mono ?_; rintro e w' ⟨rfl, rfl⟩)
    go_ret2
    exact ⟨rfl, rfl⟩
  · have e1 : fromOf n = 0 := if_neg h
    have e2 : fromOk n = false := decide_eq_false h
    rw [e1, e2]
    have h' : n < 0 ∨ 4294967295 < n := by omega
    clear e1 e2 h
    go_enter Try.func25, Try.ntmps25
    go_wp2_with (go_at_call 45; refine (win_no _ _ _ (by omega) _).mono ?_; rintro e w' ⟨rfl, rfl⟩)
    go_ret2
    exact ⟨rfl, rfl⟩
theorem law_FromBits (n : Int) (_ : (Lit.int .i64 n).wf = true) (w : World) :
    Calls Try.prog 9 #[.int .i64 n] w fun e w' => e = .returned (.bool true) ∧ Grown w w' := by
  have hw := fromOf_wf n
  go_enter Try.func9, Try.ntmps9
  go_wp2_with (first | (go_at_call 24; refine (sfrom_any _ _).mono ?_; rintro e w' ⟨rfl, rfl⟩) | (go_at_call 25; refine (ifrom_any _ _).mono ?_; rintro e w' ⟨rfl, rfl⟩) | (refine wpList_fconv rfl _ _ _ rfl .f32 .f64 _ rfl hw (by rw [Try.underlying23]; rfl) Try.underlying33 ?_; intro x k hx) | (go_at_call 26; refine (same_yes _ _ (by exact wide_same (by assumption) (by assumption)) _).mono ?_; rintro e w' ⟨rfl, n, rfl⟩))
  all_goals (go_ret; exact ⟨rfl, grown_drewN _ _⟩)
/-- A number, but a zero of its sign where it is subnormal. -/
def flushN (a : Nat) : Nat := if mag Ieee.single a < 8388608 then a / 2147483648 * 2147483648 else a
theorem flushN_lt {a : Nat} (h : (Lit.float .f32 a).wf = true) : (Lit.float .f32 (flushN a)).wf = true := by
  have := lt_of_wf h
  refine wf_of_lt .f32 _ (show flushN a < 4294967296 from ?_)
  unfold flushN; split <;> omega
theorem flushN_small {a : Nat} (h : mag Ieee.single a < 8388608) : flushN a = a / 2147483648 * 2147483648 := if_pos h
theorem flushN_great {a : Nat} (h : ¬ mag Ieee.single a < 8388608) : flushN a = a := if_neg h
theorem bitsI_small {a : Nat} (ha : (Lit.float .f32 a).wf = true) (h : mag Ieee.single a < 8388608) : bitsI a = (a : Int) := by
  rw [bitsI_eq ha]
  unfold bitsN
  rw [nan32]
  have : ¬ 2139095040 < a % 2147483648 := by
    have : a % 2147483648 < 8388608 := h
    omega
  rw [decide_eq_false this]; rfl
theorem sign_bits {a : Nat} (ha : (Lit.float .f32 a).wf = true) (h : mag Ieee.single a < 8388608) : bits BinOp.and IntKind.i64 (bitsI a) 2147483648 = ((flushN a : Nat) : Int) := by
  have hl := lt_of_wf ha
  rw [bitsI_small ha h, flushN_small h]
  have e : bits BinOp.and IntKind.i64 (a : Int) 2147483648 = ((a &&& 2147483648 : Nat) : Int) := i64_and_nat _ 2147483648 hl (by decide)
  rw [e, and_sign a hl]
theorem lflush_any (a : Nat) (ha : (Lit.float .f32 a).wf = true) (w : World) :
    Calls Try.prog 48 #[.float .f32 a] w fun e w' => e = .returned (.float .f32 (flushN a)) ∧ w' = w := by
  by_cases h : mag Ieee.single a < 8388608
  · have h1 : (bits BinOp.and IntKind.i64 (bitsI a) 2139095040 == 0) = true := by
      have := maskI_zero ha
      rw [decide_eq_true h] at this; exact this
    have h2 := sign_bits ha h
    have h3 : flushN a < 4294967296 := lt_of_wf (flushN_lt ha)
    have h4 : Hid (flushN a < 4294967296) := h3
    clear h ha h3
    go_enter Try.func48, Try.ntmps48
    go_wp2_with (first | (go_at_call 38; refine (bits_any _ _).mono ?_; rintro e w' ⟨rfl, rfl⟩) | (go_at_call 46; refine (lfrom_any _ h4.out _).mono ?_; rintro e w' ⟨rfl, rfl⟩))
    go_ret
    exact ⟨rfl, rfl⟩
  · have h1 : (bits BinOp.and IntKind.i64 (bitsI a) 2139095040 == 0) = false := by
      have := maskI_zero ha
      rw [decide_eq_false h] at this; exact this
    have h2 : Hid (flushN a = a) := flushN_great h
    clear h ha
    go_enter Try.func48, Try.ntmps48
    go_wp2_with (go_at_call 38; refine (bits_any _ _).mono ?_; rintro e w' ⟨rfl, rfl⟩)
    go_ret
    exact ⟨by rw [h2.out]; rfl, rfl⟩
theorem sflush_any (a : Nat) (ha : (Lit.float .f32 a).wf = true) (w : World) :
    Calls Try.prog 27 #[.float .f32 a] w fun e w' => e = .returned (.float .f32 (flushN a)) ∧ w' = w := by
  go_enter Try.func27, Try.ntmps27
  go_wp2_with (go_at_call 48; refine (lflush_any _ (by assumption) _).mono ?_; rintro e w' ⟨rfl, rfl⟩)
  go_ret
  exact ⟨rfl, rfl⟩
/-- A zero of the sign of the wide number, narrowed. -/
theorem copy_flush {a x g : Nat} (ha : (Lit.float .f32 a).wf = true) (hs : mag Ieee.single a < 8388608) (hx : FConv .f32 .f64 a x) (hg : FConv .f64 .f32 (copyN 0 x) g) : g = flushN a := by
  have hl := lt_of_wf ha
  have hn : (FloatKind.f32.decode a).isNaN = false := by
    rw [nan32]; apply decide_eq_false
    have : a % 2147483648 < 8388608 := hs
    omega
  rw [copyN_zero hx.2] at hg
  obtain ⟨q, rfl, hq, -, -⟩ := widen hn hx
  have hq' : q ≤ 9218868437227405312 := hq
  rw [word_double] at hg
  rw [flushN_small hs]
  cases hsg : sgn Ieee.single a
  · rw [hsg] at hg
    have e : ((if false = true then 9223372036854775808 else 0) + q) / 9223372036854775808 * 9223372036854775808 = 0 := by
      simp only [Bool.false_eq_true, if_false]; omega
    rw [e] at hg
    have h1 := hg.1 (by decide)
    have h2 : mean .f32 g = some 0 := by rw [h1]; decide +kernel
    obtain ⟨rfl, -⟩ := mean_some h2
    have : (a / 2147483648 % 2 == 1) = false := hsg
    rw [beq_eq_false_iff_ne] at this
    omega
  · rw [hsg] at hg
    have e : ((if true = true then 9223372036854775808 else 0) + q) / 9223372036854775808 * 9223372036854775808 = 9223372036854775808 := by
      simp only [if_true]; omega
    rw [e] at hg
    have h1 := hg.1 (by decide)
    have h2 : mean .f32 g = some 2147483648 := by rw [h1]; decide +kernel
    obtain ⟨rfl, -⟩ := mean_some h2
    have : (a / 2147483648 % 2 == 1) = true := hsg
    rw [beq_iff_eq] at this
    omega
theorem flushN_not_sub {a : Nat} (ha : (Lit.float .f32 a).wf = true) (h : subB a = false) : flushN a = a := by
  have hl := lt_of_wf ha
  unfold subB at h
  have h := of_decide_eq_false h
  by_cases c : mag Ieee.single a < 8388608
  · rw [flushN_small c]
    have : mag Ieee.single a = 0 := by omega
    have : a % 2147483648 = 0 := this
    omega
  · exact flushN_great c
theorem subB_small {a : Nat} (h : subB a = true) : mag Ieee.single a < 8388608 := by
  unfold subB at h
  exact (of_decide_eq_true h).2
theorem iflush_any (a : Nat) (ha : (Lit.float .f32 a).wf = true) (w : World) :
    Calls Try.prog 28 #[.float .f32 a] w fun e w' => e = .returned (.float .f32 (flushN a)) ∧ ∃ n, w' = w.drewN n := by
  cases h : subB a
  · have h2 : Hid (flushN a = a) := flushN_not_sub ha h
    go_enter Try.func28, Try.ntmps28
    go_wp2_with (go_at_call 19; refine (isub_any _ (by assumption) _).mono ?_; rintro e w' ⟨rfl, n, rfl⟩)
    go_ret
    exact ⟨by rw [h2.out]; rfl, _, rfl⟩
  · have hs : Hid (mag Ieee.single a < 8388608) := subB_small h
    go_enter Try.func28, Try.ntmps28
    go_wp2_with (first | (go_at_call 19; refine (isub_any _ (by assumption) _).mono ?_; rintro e w' ⟨rfl, n, rfl⟩) | (refine wpList_fconv rfl _ _ _ rfl .f32 .f64 _ rfl (by assumption) (by rw [Try.underlying23]; rfl) Try.underlying33 ?_; intro x n hx) | (go_at_call 49; refine (copysign_any _ _ _).mono ?_; rintro e w' ⟨rfl, rfl⟩) | (refine wpList_fconv rfl _ _ _ rfl .f64 .f32 _ rfl (by exact copyN_wf hx.2) (by rw [Try.underlying33]; rfl) Try.underlying23 ?_; intro g n hg))
    go_ret
    exact ⟨by rw [← copy_flush ha hs.out hx hg]; rfl, _, rfl⟩
theorem law_FlushNumber (a : Nat) (ha : (Lit.float .f32 a).wf = true) (w : World) :
    Calls Try.prog 10 #[.float .f32 a] w fun e w' => e = .returned (.bool true) ∧ Grown w w' := by
  have hw := flushN_lt ha
  go_enter Try.func10, Try.ntmps10
  go_wp2_with (first | (go_at_call 27; refine (sflush_any _ (by assumption) _).mono ?_; rintro e w' ⟨rfl, rfl⟩) | (go_at_call 28; refine (iflush_any _ (by assumption) _).mono ?_; rintro e w' ⟨rfl, n, rfl⟩) | (refine wpList_fconv rfl _ _ _ rfl .f32 .f64 _ rfl hw (by rw [Try.underlying23]; rfl) Try.underlying33 ?_; intro x k hx) | (go_at_call 26; refine (same_yes _ _ (by exact wide_same (by assumption) (by assumption)) _).mono ?_; rintro e w' ⟨rfl, n, rfl⟩))
  all_goals (go_ret; exact ⟨rfl, grown_drewN _ _⟩)
end Go.Proofs.Ytekgnheennbpnaa
