/-
  The number that a text spells: the reference's and the library's ways agree (plain).
-/
import Derived.Test.YtogliigpoojfoaaDoorLs
import Derived.Lib.ParseIntBTie
namespace Go.Proofs.YtogliigpoojfoaaDoor
open Go.RowKit

def stepN (a : Nat) (b : UInt8) : Nat := if 48 ≤ b.toNat ∧ b.toNat ≤ 57 then 10 * a + (b.toNat - 48) else a
def digN (a : Nat) (l : List UInt8) : Nat := l.foldl stepN a
theorem digN_snoc (a : Nat) (l : List UInt8) (b : UInt8) : digN a (l ++ [b]) = stepN (digN a l) b := by unfold digN; rw [List.foldl_append]; rfl
theorem digN_lt : ∀ (l : List UInt8) (a : Nat), digN a l + 1 ≤ (a + 1) * 10 ^ l.length := by
  intro l
  induction l with
  | nil => intro a; simp [digN]
  | cons b l ih =>
    intro a
    have h := ih (stepN a b)
    have h1 : stepN a b + 1 ≤ (a + 1) * 10 := by
      unfold stepN; have := b.toNat_lt; split <;> omega
    have h2 := Nat.mul_le_mul_right (10 ^ l.length) h1
    show digN (stepN a b) l + 1 ≤ _
    rw [List.length_cons, Nat.pow_succ, Nat.mul_comm (10 ^ l.length) 10, ← Nat.mul_assoc]
    omega
theorem stepN_digit (a d : Nat) (h : d < 10) : stepN a (UInt8.ofNat (48 + d)) = 10 * a + d := by
  have e : (UInt8.ofNat (48 + d)).toNat = 48 + d := by
    rw [UInt8.toNat_ofNat']; exact Nat.mod_eq_of_lt (by omega)
  unfold stepN; rw [e, if_pos (by omega)]; omega
def isD (b : UInt8) : Prop := 48 ≤ b.toNat ∧ b.toNat ≤ 57
theorem isD_of (d : Nat) (h : d < 10) : isD (UInt8.ofNat (48 + d)) := by
  have e : (UInt8.ofNat (48 + d)).toNat = 48 + d := by
    rw [UInt8.toNat_ofNat']; exact Nat.mod_eq_of_lt (by omega)
  unfold isD; rw [e]; omega
theorem dec_val (m : Nat) : digN 0 (Lib.decDigits m) = m ∧ (∀ b ∈ Lib.decDigits m, isD b) ∧ 1 ≤ (Lib.decDigits m).length := by
  induction m using Nat.strongRecOn with
  | ind m ih =>
    by_cases h : m < 10
    · rw [Lib.decDigits_one h]
      refine ⟨?_, fun b hb => ?_, by simp⟩
      · show stepN 0 _ = m
        rw [stepN_digit 0 m h]; omega
      · rw [List.mem_singleton] at hb; subst hb; exact isD_of m h
    · obtain ⟨h1, h2, h3⟩ := ih (m / 10) (by omega)
      rw [Lib.decDigits, dif_neg h]
      refine ⟨?_, fun b hb => ?_, by simp⟩
      · rw [digN_snoc, h1, stepN_digit _ _ (Nat.mod_lt _ (by decide))]; omega
      · rcases List.mem_append.1 hb with c | c
        · exact h2 b c
        · rw [List.mem_singleton] at c; subst c; exact isD_of (m % 10) (Nat.mod_lt _ (by decide))
theorem dec_len : ∀ (k m : Nat), m < 10 ^ k → 0 < k → (Lib.decDigits m).length ≤ k := by
  intro k
  induction k with
  | zero => intro m _ h0; omega
  | succ k ih =>
    intro m hm _
    by_cases hs : m < 10
    · rw [Lib.decDigits_one hs]; simp
    · rw [Lib.decDigits, dif_neg hs, List.length_append]
      have hk : 0 < k := by
        rcases Nat.eq_zero_or_pos k with c | c
        · subst c; omega
        · exact c
      have : m / 10 < 10 ^ k := by
        rw [Nat.div_lt_iff_lt_mul (by decide)]
        rw [Nat.pow_succ] at hm; exact hm
      have := ih (m / 10) this hk
      simp; omega
/-- The number that the reference reads. -/
def specV (l : List UInt8) : Int := if l.head? = some 45 then -(digN 0 l : Int) else (digN 0 l : Int)
theorem specV_itoa (n : Int) : specV (Lib.itoa n) = n := by
  by_cases hn : n < 0
  · obtain ⟨m, rfl⟩ : ∃ m : Nat, n = -(m : Int) := ⟨n.natAbs, by omega⟩
    rw [Lib.itoa_neg m (by omega)]
    unfold specV
    rw [List.head?_cons, if_pos rfl]
    have : digN 0 (45 :: Lib.decDigits m) = digN 0 (Lib.decDigits m) := rfl
    rw [this, (dec_val m).1]
  · obtain ⟨m, rfl⟩ : ∃ m : Nat, n = (m : Int) := ⟨n.toNat, by omega⟩
    rw [Lib.itoa_nonneg m]
    unfold specV
    rw [(dec_val m).1, if_neg]
    intro c
    have h2 := (dec_val m).2.1
    cases hd : Lib.decDigits m with
    | nil => rw [hd] at c; cases c
    | cons x xs =>
      rw [hd] at c h2
      simp at c
      subst c
      have := h2 45 (List.mem_cons_self ..)
      unfold isD at this
      have e : (45 : UInt8).toNat = 45 := rfl
      omega
theorem inV_iff {n : Int} (h : inV n = true) : -1000000000000000 ≤ n ∧ n ≤ 1000000000000000 := by
  unfold inV at h; simpa using h
theorem itoa_len {n : Int} (h : inV n = true) : 1 ≤ (Lib.itoa n).length ∧ (Lib.itoa n).length ≤ 17 := by
  have hb := inV_iff h
  by_cases hn : n < 0
  · obtain ⟨m, rfl⟩ : ∃ m : Nat, n = -(m : Int) := ⟨n.natAbs, by omega⟩
    rw [Lib.itoa_neg m (by omega), List.length_cons]
    have := dec_len 16 m (by omega) (by decide)
    omega
  · obtain ⟨m, rfl⟩ : ∃ m : Nat, n = (m : Int) := ⟨n.toNat, by omega⟩
    rw [Lib.itoa_nonneg m]
    have := dec_len 16 m (by omega) (by decide)
    have := (dec_val m).2.2
    omega
theorem digN_mono : ∀ (l : List UInt8) (a : Nat), a ≤ digN a l := by
  intro l
  induction l with
  | nil => intro a; exact Nat.le_refl _
  | cons b l ih =>
    intro a
    have h := ih (stepN a b)
    have h1 : a ≤ stepN a b := by unfold stepN; split <;> omega
    exact Nat.le_trans h1 h
theorem parse_digits : ∀ (l : List UInt8) (a : Nat), (∀ b ∈ l, isD b) → digN a l < 10 ^ 18 → Lib.parseUint10 a l = .ok (digN a l) := by
  intro l
  induction l with
  | nil => intro a _ _; rfl
  | cons b l ih =>
    intro a hd hlt
    have hb : isD b := hd b (List.mem_cons_self ..)
    have e : stepN a b = a * 10 + (b.toNat - 48) := by unfold stepN; rw [if_pos (show 48 ≤ b.toNat ∧ b.toNat ≤ 57 from hb)]; omega
    have hlt' : digN (stepN a b) l < 10 ^ 18 := hlt
    have hm := digN_mono l (stepN a b)
    have h := ih (stepN a b) (fun c hc => hd c (List.mem_cons_of_mem _ hc)) hlt'
    show Lib.parseUint10 a (b :: l) = .ok (digN (stepN a b) l)
    rw [← h, e]
    rw [e] at hm hlt'
    simp only [Lib.parseUint10]
    unfold isD at hb
    rw [if_pos hb, if_neg (by omega), if_neg (by omega)]
theorem parse_itoa {n : Int} (h : inV n = true) : Lib.parseIntB 64 (Lib.itoa n) = .ok n := by
  have hb := inV_iff h
  rw [Lib.parseIntB_64]
  by_cases hn : n < 0
  · obtain ⟨m, rfl⟩ : ∃ m : Nat, n = -(m : Int) := ⟨n.natAbs, by omega⟩
    rw [Lib.itoa_neg m (by omega)]
    obtain ⟨h1, h2, h3⟩ := dec_val m
    have hp := parse_digits (Lib.decDigits m) 0 h2 (by rw [h1]; omega)
    rw [h1] at hp
    have hne : Lib.decDigits m ≠ [] := by intro c; rw [c] at h3; simp at h3
    unfold Lib.atoiAll Lib.parseMag
    have e45 : (45 : UInt8).toNat = 45 := rfl
    simp only [e45, or_true, if_true, if_neg hne, hp]
    rw [if_neg (by simp), if_neg (by omega)]
  · obtain ⟨m, rfl⟩ : ∃ m : Nat, n = (m : Int) := ⟨n.toNat, by omega⟩
    rw [Lib.itoa_nonneg m]
    obtain ⟨h1, h2, h3⟩ := dec_val m
    have hp := parse_digits (Lib.decDigits m) 0 h2 (by rw [h1]; omega)
    rw [h1] at hp
    cases hd : Lib.decDigits m with
    | nil => rw [hd] at h3; simp at h3
    | cons x xs =>
      rw [hd] at hp h2
      have hx := h2 x (List.mem_cons_self ..)
      unfold isD at hx
      unfold Lib.atoiAll Lib.parseMag
      simp only
      rw [if_neg (show ¬ (x.toNat = 43 ∨ x.toNat = 45) by omega), if_neg (List.cons_ne_nil x xs), hp]
      simp only
      rw [if_neg (show ¬ (¬ x.toNat = 45 ∧ 9223372036854775808 ≤ m) by omega), if_neg (show ¬ (x.toNat = 45 ∧ 9223372036854775808 < m) by omega), if_neg (show ¬ x.toNat = 45 by omega)]
/-- Whether a text is one of a number that is not too great, and the number. -/
def readB (s : ByteArray) : Bool := inV (specV s.data.toList) && decide (decT (specV s.data.toList) = s)
def readN (s : ByteArray) : Int := if readB s then specV s.data.toList else 0
theorem decT_list (n : Int) : (decT n).data.toList = Lib.itoa n := by unfold decT; simp
theorem readB_iff {s : ByteArray} : readB s = true ↔ ∃ n, inV n = true ∧ decT n = s := by
  unfold readB
  constructor
  · intro h
    rw [Bool.and_eq_true, decide_eq_true_iff] at h
    exact ⟨_, h.1, h.2⟩
  · rintro ⟨n, h1, rfl⟩
    rw [decT_list, specV_itoa, h1, decide_eq_true rfl]; rfl
theorem readB_of {n : Int} {s : ByteArray} (h1 : inV n = true) (h2 : decT n = s) : readB s = true ∧ readN s = n := by
  have h := readB_iff.2 ⟨n, h1, h2⟩
  refine ⟨h, ?_⟩
  unfold readN
  rw [if_pos h, ← h2, decT_list, specV_itoa]
theorem readN_no {s : ByteArray} (h : readB s = false) : readN s = 0 := by unfold readN; rw [h]; rfl
theorem readB_len {s : ByteArray} (h : ¬ (1 ≤ s.size ∧ s.size ≤ 17)) : readB s = false := by
  cases hb : readB s
  · rfl
  · obtain ⟨n, h1, h2⟩ := readB_iff.1 hb
    have := itoa_len h1
    have e : s.size = (Lib.itoa n).length := by
      rw [← h2]; show (Lib.itoa n).toArray.size = _; simp
    omega
theorem readB_parse {s : ByteArray} {n : Int} (h : Lib.parseIntB 64 s.data.toList = .ok n) (hno : ¬ (inV n = true ∧ decT n = s)) : readB s = false := by
  cases hb : readB s
  · rfl
  · obtain ⟨m, h1, h2⟩ := readB_iff.1 hb
    have hp := parse_itoa h1
    rw [← decT_list, h2, h] at hp
    injection hp with hp
    subst hp
    exact absurd ⟨h1, h2⟩ hno
theorem readB_bad {s : ByteArray} (h : ∀ n, Lib.parseIntB 64 s.data.toList ≠ .ok n) : readB s = false := by
  cases hb : readB s
  · rfl
  · obtain ⟨m, h1, h2⟩ := readB_iff.1 hb
    have hp := parse_itoa h1
    rw [← decT_list, h2] at hp
    exact absurd hp (h m)
theorem readB_spec {s : ByteArray} (hno : ¬ (inV (specV s.data.toList) = true ∧ decT (specV s.data.toList) = s)) : readB s = false := by
  unfold readB
  cases h : inV (specV s.data.toList)
  · rfl
  · rw [Bool.true_and]; exact decide_eq_false (fun c => hno ⟨h, c⟩)
end Go.Proofs.YtogliigpoojfoaaDoor
