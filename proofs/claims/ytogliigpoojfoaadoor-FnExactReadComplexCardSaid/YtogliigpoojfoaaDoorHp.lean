/-
  Hexadecimal digits of the words of numbers (plain).
-/
import Derived.Test.YtogliigpoojfoaaDoorBt
import Derived.Test.YtogliigpoojfoaaDoorNa
namespace Go.Proofs.YtogliigpoojfoaaDoor
open Go.RowKit Fl

/-- The digit of a value below 16. -/
def hexC (d : Nat) : UInt8 := if d < 10 then UInt8.ofNat (48 + d) else UInt8.ofNat (87 + d)
theorem hexC_nat (d : Nat) (h : d < 16) : (hexC d).toNat = if d < 10 then 48 + d else 87 + d := by
  unfold hexC
  split
  · rw [UInt8.toNat_ofNat']; exact Nat.mod_eq_of_lt (by omega)
  · rw [UInt8.toNat_ofNat']; exact Nat.mod_eq_of_lt (by omega)
/-- The low n digits, the greatest first. -/
def lowH : Nat → Nat → List UInt8
  | 0, _ => []
  | n + 1, m => hexC (m / 16 ^ n % 16) :: lowH n m
theorem lowH_len : ∀ (n m : Nat), (lowH n m).length = n
  | 0, _ => rfl
  | n + 1, m => by rw [lowH, List.length_cons, lowH_len n m]
theorem lowH_pad {n m : Nat} (h : m < 16 ^ n) : lowH (n + 1) m = 48 :: lowH n m := by
  show hexC (m / 16 ^ n % 16) :: _ = _
  rw [Nat.div_eq_of_lt h]; rfl
theorem pad_all (n m : Nat) (h : m < 16 ^ n) : ∀ k : Nat, lowH (k + n) m = List.replicate k 48 ++ lowH n m := by
  intro k
  induction k with
  | zero => rw [Nat.zero_add]; rfl
  | succ k ih =>
    rw [show k + 1 + n = (k + n) + 1 by omega, lowH_pad (Nat.lt_of_lt_of_le h (Nat.pow_le_pow_right (by decide) (by omega))), ih, List.replicate_succ]; rfl
/-- The value of a digit, of lower case alone. -/
def dlow (b : UInt8) : Option Nat := if 48 ≤ b.toNat ∧ b.toNat ≤ 57 then some (b.toNat - 48) else if 97 ≤ b.toNat ∧ b.toNat ≤ 102 then some (b.toNat - 87) else none
theorem dlow_hexC (d : Nat) (h : d < 16) : dlow (hexC d) = some d := by
  unfold dlow
  rw [hexC_nat d h]
  by_cases c : d < 10
  · rw [if_pos c, if_pos (by omega)]; congr 1; omega
  · rw [if_neg c, if_neg (by omega), if_pos (by omega)]; congr 1; omega
theorem hexC_dlow {b : UInt8} {d : Nat} (h : dlow b = some d) : d < 16 ∧ hexC d = b := by
  unfold dlow at h
  split at h
  · injection h with h
    subst h
    refine ⟨by omega, UInt8.toNat_inj.1 ?_⟩
    rw [hexC_nat _ (by omega), if_pos (by omega)]; omega
  · split at h
    · injection h with h
      subst h
      refine ⟨by omega, UInt8.toNat_inj.1 ?_⟩
      rw [hexC_nat _ (by omega), if_neg (by omega)]; omega
    · cases h
def stepS (a : Option Nat) (b : UInt8) : Option Nat := a.bind fun n => (dlow b).map fun d => 16 * n + d
def svH (l : List UInt8) : Option Nat := l.foldl stepS (some 0)
theorem svH_snoc (l : List UInt8) (b : UInt8) : svH (l ++ [b]) = stepS (svH l) b := by unfold svH; rw [List.foldl_append]; rfl
theorem foldS_none (l : List UInt8) : l.foldl stepS none = none := by
  induction l with
  | nil => rfl
  | cons b l ih => exact ih
theorem svH_none {l : List UInt8} {k : Nat} (h : svH (l.take k) = none) : svH l = none := by
  unfold svH at h ⊢
  rw [← List.take_append_drop k l, List.foldl_append, h]
  exact foldS_none _
theorem stepS_some {a m : Nat} {b : UInt8} (h : stepS (some a) b = some m) : ∃ d, dlow b = some d ∧ m = 16 * a + d := by
  unfold stepS at h
  cases hd : dlow b with
  | none => rw [hd] at h; cases h
  | some d =>
    rw [hd] at h
    injection h with h
    exact ⟨d, rfl, h.symm⟩
theorem foldS_low (m : Nat) : ∀ (n a : Nat), (lowH n m).foldl stepS (some a) = some (a * 16 ^ n + m % 16 ^ n) := by
  intro n
  induction n with
  | zero => intro a; simp [lowH, Nat.mod_one]
  | succ n ih =>
    intro a
    have h1 : stepS (some a) (hexC (m / 16 ^ n % 16)) = some (16 * a + m / 16 ^ n % 16) := by
      unfold stepS
      rw [dlow_hexC _ (Nat.mod_lt _ (by decide))]; rfl
    show (lowH n m).foldl stepS (stepS (some a) (hexC (m / 16 ^ n % 16))) = _
    rw [h1, ih, Nat.mod_pow_succ]
    congr 1
    rw [Nat.pow_succ, Nat.add_mul, Nat.mul_comm (16 ^ n) 16, ← Nat.mul_assoc, Nat.mul_comm a 16, Nat.mul_comm (16 ^ n) (m / 16 ^ n % 16)]
    omega
theorem svH_low (n m : Nat) (h : m < 16 ^ n) : svH (lowH n m) = some m := by
  unfold svH
  rw [foldS_low, Nat.zero_mul, Nat.zero_add, Nat.mod_eq_of_lt h]
theorem foldS_inv : ∀ (l : List UInt8) (a m : Nat), l.foldl stepS (some a) = some m → l = lowH l.length m ∧ m / 16 ^ l.length = a := by
  intro l
  induction l with
  | nil =>
    intro a m h
    injection h with h
    subst h
    exact ⟨rfl, by simp⟩
  | cons b l ih =>
    intro a m h
    have h' : l.foldl stepS (stepS (some a) b) = some m := h
    cases hs : stepS (some a) b with
    | none => rw [hs, foldS_none] at h'; cases h'
    | some q =>
      rw [hs] at h'
      obtain ⟨d, hd, rfl⟩ := stepS_some hs
      obtain ⟨h1, h2⟩ := ih _ _ h'
      obtain ⟨h3, h4⟩ := hexC_dlow hd
      have h5 : (16 * a + d) % 16 = d := by omega
      refine ⟨?_, ?_⟩
      · rw [List.length_cons]
        show b :: l = hexC (m / 16 ^ l.length % 16) :: lowH l.length m
        rw [h2, h5, h4, ← h1]
      · rw [List.length_cons, Nat.pow_succ, ← Nat.div_div_eq_div_mul, h2]; omega
theorem svH_inv {l : List UInt8} {m : Nat} (h : svH l = some m) : l = lowH l.length m ∧ m < 16 ^ l.length := by
  obtain ⟨h1, h2⟩ := foldS_inv l 0 m h
  refine ⟨h1, ?_⟩
  rcases Nat.div_eq_zero_iff.1 h2 with c | c
  · exact absurd c (Nat.pos_iff_ne_zero.1 (Nat.pow_pos (by decide)))
  · exact c
theorem foldS_mono : ∀ (l : List UInt8) (a m : Nat), l.foldl stepS (some a) = some m → a ≤ m := by
  intro l
  induction l with
  | nil => intro a m h; injection h with h; omega
  | cons b l ih =>
    intro a m h
    have h' : l.foldl stepS (stepS (some a) b) = some m := h
    cases hs : stepS (some a) b with
    | none => rw [hs, foldS_none] at h'; cases h'
    | some q =>
      rw [hs] at h'
      obtain ⟨d, hd, rfl⟩ := stepS_some hs
      have := ih _ _ h'
      omega
/-- The value of a digit of either case. -/
def dboth (b : UInt8) : Option Nat := if 48 ≤ b.toNat ∧ b.toNat ≤ 57 then some (b.toNat - 48) else if 97 ≤ (b ||| 32).toNat ∧ (b ||| 32).toNat ≤ 102 then some ((b ||| 32).toNat - 87) else none
theorem or32 (d : Nat) (h : 10 ≤ d) (h2 : d < 16) : (hexC d ||| 32) = hexC d := by
  have : d = 10 ∨ d = 11 ∨ d = 12 ∨ d = 13 ∨ d = 14 ∨ d = 15 := by omega
  rcases this with rfl | rfl | rfl | rfl | rfl | rfl <;> decide
theorem dboth_low {b : UInt8} {d : Nat} (h : dlow b = some d) : dboth b = some d := by
  obtain ⟨h1, h2⟩ := hexC_dlow h
  have hn := hexC_nat d h1
  unfold dboth
  subst h2
  by_cases c : d < 10
  · rw [if_pos c] at hn
    rw [hn, if_pos (by omega)]; congr 1; omega
  · rw [if_neg c] at hn
    rw [or32 d (by omega) h1, hn, if_neg (by omega), if_pos (by omega)]; congr 1; omega
def stepI (a : Option Nat) (b : UInt8) : Option Nat := a.bind fun n => (dboth b).bind fun d => if 16 * n + d < 4294967296 then some (16 * n + d) else none
def hvH (l : List UInt8) : Option Nat := l.foldl stepI (some 0)
theorem hvH_snoc (l : List UInt8) (b : UInt8) : hvH (l ++ [b]) = stepI (hvH l) b := by unfold hvH; rw [List.foldl_append]; rfl
theorem foldI_none (l : List UInt8) : l.foldl stepI none = none := by
  induction l with
  | nil => rfl
  | cons b l ih => exact ih
theorem hvH_none {l : List UInt8} {k : Nat} (h : hvH (l.take k) = none) : hvH l = none := by
  unfold hvH at h ⊢
  rw [← List.take_append_drop k l, List.foldl_append, h]
  exact foldI_none _
theorem foldI_of : ∀ (l : List UInt8) (a m : Nat), m < 4294967296 → l.foldl stepS (some a) = some m → l.foldl stepI (some a) = some m := by
  intro l
  induction l with
  | nil => intro a m _ h; exact h
  | cons b l ih =>
    intro a m hm h
    have h' : l.foldl stepS (stepS (some a) b) = some m := h
    cases hs : stepS (some a) b with
    | none => rw [hs, foldS_none] at h'; cases h'
    | some q =>
      rw [hs] at h'
      obtain ⟨d, hd, rfl⟩ := stepS_some hs
      have hle := foldS_mono _ _ _ h'
      have e : stepI (some a) b = some (16 * a + d) := by
        unfold stepI
        rw [dboth_low hd]
        show (if 16 * a + d < 4294967296 then some (16 * a + d) else none) = _
        rw [if_pos (by omega)]
      show l.foldl stepI (stepI (some a) b) = _
      rw [e]
      exact ih _ _ hm h'
theorem hvH_of {l : List UInt8} {m : Nat} (hm : m < 4294967296) (h : svH l = some m) : hvH l = some m := foldI_of l 0 m hm h
theorem stepI_lt {a : Option Nat} {b : UInt8} {m : Nat} (h : stepI a b = some m) : m < 4294967296 := by
  unfold stepI at h
  cases a with
  | none => cases h
  | some a =>
    cases hd : dboth b with
    | none => rw [hd] at h; cases h
    | some d =>
      rw [hd] at h
      change (if 16 * a + d < 4294967296 then some (16 * a + d) else none) = some m at h
      split at h
      · injection h with h; omega
      · cases h
theorem pow16_8 : (16 : Nat) ^ 8 = 4294967296 := by decide
/-- Whether a text is one of a number: 8 digits, of a word that is the number's own. -/
def readXB (s : ByteArray) : Bool := match svH s.data.toList with
  | some n => decide (s.data.toList.length = 8) && decide (bitsI n = (n : Int))
  | none => false
def readX (s : ByteArray) : Nat := if readXB s then (svH s.data.toList).getD 0 else 0
theorem readX_no {s : ByteArray} (h : readXB s = false) : readX s = 0 := by unfold readX; rw [h]; rfl
theorem readXB_iff {s : ByteArray} : readXB s = true ↔ ∃ n, svH s.data.toList = some n ∧ s.data.toList.length = 8 ∧ bitsI n = (n : Int) := by
  unfold readXB
  cases hs : svH s.data.toList with
  | none => simp
  | some n => simp
theorem readX_of {s : ByteArray} {n : Nat} (h1 : svH s.data.toList = some n) (h2 : s.data.toList.length = 8) (h3 : bitsI n = (n : Int)) : readXB s = true ∧ readX s = n := by
  have h := readXB_iff.2 ⟨n, h1, h2, h3⟩
  refine ⟨h, ?_⟩
  unfold readX
  rw [if_pos h, h1]; rfl
theorem bitsI_val {n : Nat} (h : n < 4294967296) : bitsI n = (bitsN n : Nat) ∧ bitsN n < 4294967296 := by
  have hw : (Lit.float .f32 n).wf = true := wf_of_lt _ _ h
  refine ⟨bitsI_eq hw, ?_⟩
  unfold bitsN
  split <;> omega
/-- The text of a number: the 8 digits of its word. -/
def hexT (n : Nat) : ByteArray := ⟨(lowH 8 (bitsN n)).toArray⟩
theorem hexT_list (n : Nat) : (hexT n).data.toList = lowH 8 (bitsN n) := by unfold hexT; simp
theorem hexT_size (n : Nat) : (hexT n).size = 8 := by
  show (lowH 8 (bitsN n)).toArray.size = 8
  rw [List.size_toArray, lowH_len]
/-- What the program's reading says. -/
theorem readX_prog {s : ByteArray} {n : Nat} (h1 : hvH s.data.toList = some n) (hn : n < 4294967296) (h2 : hexT n = s) : readXB s = true ∧ readX s = n := by
  obtain ⟨hb, hl⟩ := bitsI_val hn
  have e : s.data.toList = lowH 8 (bitsN n) := by rw [← h2, hexT_list]
  have hs : svH s.data.toList = some (bitsN n) := by rw [e]; exact svH_low 8 _ (by rw [pow16_8]; exact hl)
  have hh := hvH_of hl hs
  rw [h1] at hh
  injection hh with hh
  refine readX_of (by rw [hs, ← hh]) (by rw [e, lowH_len]) ?_
  rw [hb, ← hh]
theorem readX_prog_no {s : ByteArray} {n : Nat} (h1 : hvH s.data.toList = some n) (h2 : hexT n ≠ s) : readXB s = false := by
  cases hb : readXB s
  · rfl
  · obtain ⟨m, g1, g2, g3⟩ := readXB_iff.1 hb
    obtain ⟨q1, q2⟩ := svH_inv g1
    rw [g2, pow16_8] at q2
    have hh := hvH_of q2 g1
    rw [h1] at hh
    injection hh with hh
    subst hh
    have g4 := (bitsI_val q2).1
    rw [g3] at g4
    refine absurd (ByteArray.ext (Array.toList_inj.1 ?_)) h2
    rw [hexT_list, ← Int.ofNat_inj.1 g4, q1, g2]
theorem readX_prog_bad {s : ByteArray} (h1 : hvH s.data.toList = none) : readXB s = false := by
  cases hb : readXB s
  · rfl
  · obtain ⟨m, g1, g2, g3⟩ := readXB_iff.1 hb
    obtain ⟨q1, q2⟩ := svH_inv g1
    rw [g2, pow16_8] at q2
    have hh := hvH_of q2 g1
    rw [h1] at hh
    cases hh
/-- What the reference's reading says. -/
theorem readX_len {s : ByteArray} (h : s.size ≠ 8) : readXB s = false := by
  cases hb : readXB s
  · rfl
  · obtain ⟨m, g1, g2, g3⟩ := readXB_iff.1 hb
    exact absurd (show s.size = 8 from g2) h
theorem readX_none {s : ByteArray} (h : svH s.data.toList = none) : readXB s = false := by unfold readXB; rw [h]
theorem readX_bits {s : ByteArray} {n : Nat} (h : svH s.data.toList = some n) (h2 : bitsI n ≠ (n : Int)) : readXB s = false := by
  unfold readXB; rw [h]
  show (_ && decide (bitsI n = (n : Int))) = false
  rw [decide_eq_false h2, Bool.and_false]
end Go.Proofs.YtogliigpoojfoaaDoor
