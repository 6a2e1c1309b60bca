/-
  Several texts of this claim in one.
  Contracts: copies and comparison of lists of int64.
  Lists as texts: what they are, and the reference's walks.
  The number that a text spells: the reference's and the library's ways agree (plain).
  Lists as texts: the program's walks.
  Numbers read from texts: the walks.
  Numbers read from texts: the program's function, and the law.
-/
import Derived.Test.YtogliigpoojfoaaGreatDoorK1
import Derived.OwnWalk
import Derived.Deep.QuietTactic
import Derived.BigQuiet
import Derived.Lib.Hide
import Derived.Lib.ItoaLen
import Derived.Lib.ParseIntBTie
import Derived.Test.YtogliigpoojfoaaGreatDoorSh4
import Derived.Test.YtogliigpoojfoaaGreatDoorK3
section
namespace Go.Proofs.YtogliigpoojfoaaGreatDoor
set_option maxRecDepth 100000
open Go.RowKit
theorem hidT {p : Prop} (h : p) : Hid p := h
theorem igetD {l : List Int} {k : Nat} (h : k < l.length) : l.getD k 0 = l[k] := by simp [List.getD, List.getElem?_eq_getElem h]
theorem below_drewT (w : World) (n : Nat) : Below w.heap.size w (w.drewN n) := by
  induction n with
  | zero => exact Below.refl _ _
  | succ n ih => exact ih.drew
end Go.Proofs.YtogliigpoojfoaaGreatDoor
end

section
namespace Go.Proofs.YtogliigpoojfoaaGreatDoor
set_option maxRecDepth 100000
open Go.RowKit

def inV (n : Int) : Bool := decide (-1000000000000000 ≤ n) && decide (n ≤ 1000000000000000)
def listB (l : List Int) : Bool := l.all inV && decide ((l.length : Int) ≤ 64)
def accT (s : ByteArray) (l : List Int) : ByteArray := l.foldl (fun s n => s ++ ((⟨#[44]⟩ : ByteArray) ++ decT n)) s
def textL : List Int → ByteArray
  | [] => ⟨#[110, 111, 110, 101]⟩
  | x :: xs => accT (decT x) xs
theorem accT_snoc (s : ByteArray) (l : List Int) (n : Int) : accT s (l ++ [n]) = accT s l ++ ((⟨#[44]⟩ : ByteArray) ++ decT n) := by
  unfold accT; rw [List.foldl_append]; rfl
theorem decT_size {n : Int} (h0 : -9223372036854775808 ≤ n) (h1 : n ≤ 9223372036854775807) : (decT n).size ≤ 21 := by
  have := Lib.itoa_length_le n h0 h1
  show (Lib.itoa n).toArray.size ≤ 21
  simpa using this
theorem accT_size : ∀ (l : List Int) (s : ByteArray), (∀ n ∈ l, -9223372036854775808 ≤ n ∧ n ≤ 9223372036854775807) → (accT s l).size ≤ s.size + 22 * l.length := by
  intro l
  induction l with
  | nil => intro s _; exact Nat.le_refl _
  | cons n l ih =>
    intro s h
    have h1 := ih (s ++ ((⟨#[44]⟩ : ByteArray) ++ decT n)) (fun m hm => h m (List.mem_cons_of_mem _ hm))
    have h2 := decT_size (h n (List.mem_cons_self ..)).1 (h n (List.mem_cons_self ..)).2
    have h3 : (s ++ ((⟨#[44]⟩ : ByteArray) ++ decT n)).size = s.size + (1 + (decT n).size) := by
      rw [ByteArray.size_append, ByteArray.size_append]; rfl
    show (accT (s ++ ((⟨#[44]⟩ : ByteArray) ++ decT n)) l).size ≤ _
    rw [List.length_cons]
    omega
theorem IAll.mem {l : List Int} (h : IAll .i64 l) : ∀ n ∈ l, -9223372036854775808 ≤ n ∧ n ≤ 9223372036854775807 := by
  intro n hn
  obtain ⟨i, hi, rfl⟩ := List.getElem_of_mem hn
  have := h.i64 hi
  rwa [igetD hi] at this
theorem listB_no {l : List Int} {k : Nat} (hk : k < l.length) (h : inV l[k] = false) : listB l = false := by
  have : l.all inV = false := by
    rw [List.all_eq_false]; exact ⟨l[k], List.getElem_mem _, by rw [h]; decide⟩
  unfold listB; rw [this, Bool.false_and]
theorem listB_end {l : List Int} {k : Nat} (hk : l.length ≤ k) (h : (l.take k).all inV = true) : listB l = decide ((l.length : Int) ≤ 64) := by
  rw [List.take_of_length_le hk] at h
  unfold listB; rw [h, Bool.true_and]
theorem all_step {l : List Int} {k : Nat} (hk : k < l.length) (h : (l.take k).all inV = true) (h2 : inV l[k] = true) : (l.take (k + 1)).all inV = true := by
  rw [List.take_succ_eq_append_getElem hk, List.all_append, h]
  simp [h2]
end Go.Proofs.YtogliigpoojfoaaGreatDoor
end

section
namespace Go.Proofs.YtogliigpoojfoaaGreatDoor
set_option maxRecDepth 100000
open Go.RowKit

def stepN (a : Nat) (b : UInt8) : Nat := if 48 ≤ b.toNat ∧ b.toNat ≤ 57 then 10 * a + (b.toNat - 48) else a
def digN (a : Nat) (l : List UInt8) : Nat := l.foldl stepN a
theorem digN_snoc (a : Nat) (l : List UInt8) (b : UInt8) : digN a (l ++ [b]) = stepN (digN a l) b := by unfold digN; rw [List.foldl_append]; rfl
theorem digN_lt : ∀ (l : List UInt8) (a : Nat), digN a l + 1 ≤ (a + 1) * 10 ^ l.length := by
  intro l
  induction l with
  | nil => intro a; simp [digN]
  | cons b l ih =>
    intro a
    have h := ih (stepN a b)
    have h1 : stepN a b + 1 ≤ (a + 1) * 10 := by
      unfold stepN; have := b.toNat_lt; split <;> omega
    have h2 := Nat.mul_le_mul_right (10 ^ l.length) h1
    show digN (stepN a b) l + 1 ≤ _
    rw [List.length_cons, Nat.pow_succ, Nat.mul_comm (10 ^ l.length) 10, ← Nat.mul_assoc]
    omega
theorem stepN_digit (a d : Nat) (h : d < 10) : stepN a (UInt8.ofNat (48 + d)) = 10 * a + d := by
  have e : (UInt8.ofNat (48 + d)).toNat = 48 + d := by
    rw [UInt8.toNat_ofNat']; exact Nat.mod_eq_of_lt (by omega)
  unfold stepN; rw [e, if_pos (by omega)]; omega
def isD (b : UInt8) : Prop := 48 ≤ b.toNat ∧ b.toNat ≤ 57
theorem isD_of (d : Nat) (h : d < 10) : isD (UInt8.ofNat (48 + d)) := by
  have e : (UInt8.ofNat (48 + d)).toNat = 48 + d := by
    rw [UInt8.toNat_ofNat']; exact Nat.mod_eq_of_lt (by omega)
  unfold isD; rw [e]; omega
theorem dec_val (m : Nat) : digN 0 (Lib.decDigits m) = m ∧ (∀ b ∈ Lib.decDigits m, isD b) ∧ 1 ≤ (Lib.decDigits m).length := by
  induction m using Nat.strongRecOn with
  | ind m ih =>
    by_cases h : m < 10
    · rw [Lib.decDigits_one h]
      refine ⟨?_, fun b hb => ?_, by simp⟩
      · show stepN 0 _ = m
        rw [stepN_digit 0 m h]; omega
      · rw [List.mem_singleton] at hb; subst hb; exact isD_of m h
    · obtain ⟨h1, h2, h3⟩ := ih (m / 10) (by omega)
      rw [Lib.decDigits, dif_neg h]
      refine ⟨?_, fun b hb => ?_, by simp⟩
      · rw [digN_snoc, h1, stepN_digit _ _ (Nat.mod_lt _ (by decide))]; omega
      · rcases List.mem_append.1 hb with c | c
        · exact h2 b c
        · rw [List.mem_singleton] at c; subst c; exact isD_of (m % 10) (Nat.mod_lt _ (by decide))
theorem dec_len : ∀ (k m : Nat), m < 10 ^ k → 0 < k → (Lib.decDigits m).length ≤ k := by
  intro k
  induction k with
  | zero => intro m _ h0; omega
  | succ k ih =>
    intro m hm _
    by_cases hs : m < 10
    · rw [Lib.decDigits_one hs]; simp
    · rw [Lib.decDigits, dif_neg hs, List.length_append]
      have hk : 0 < k := by
        rcases Nat.eq_zero_or_pos k with c | c
        · subst c; omega
        · exact c
      have : m / 10 < 10 ^ k := by
        rw [Nat.div_lt_iff_lt_mul (by decide)]
        rw [Nat.pow_succ] at hm; exact hm
      have := ih (m / 10) this hk
      simp; omega
/-- The number that the reference reads. -/
def specV (l : List UInt8) : Int := if l.head? = some 45 then -(digN 0 l : Int) else (digN 0 l : Int)
theorem specV_itoa (n : Int) : specV (Lib.itoa n) = n := by
  by_cases hn : n < 0
  · obtain ⟨m, rfl⟩ : ∃ m : Nat, n = -(m : Int) := ⟨n.natAbs, by omega⟩
    rw [Lib.itoa_neg m (by omega)]
    unfold specV
    rw [List.head?_cons, if_pos rfl]
    have : digN 0 (45 :: Lib.decDigits m) = digN 0 (Lib.decDigits m) := rfl
    rw [this, (dec_val m).1]
  · obtain ⟨m, rfl⟩ : ∃ m : Nat, n = (m : Int) := ⟨n.toNat, by omega⟩
    rw [Lib.itoa_nonneg m]
    unfold specV
    rw [(dec_val m).1, if_neg]
    intro c
    have h2 := (dec_val m).2.1
    cases hd : Lib.decDigits m with
    | nil => rw [hd] at c; cases c
    | cons x xs =>
      rw [hd] at c h2
      simp at c
      subst c
      have := h2 45 (List.mem_cons_self ..)
      unfold isD at this
      have e : (45 : UInt8).toNat = 45 := rfl
      omega
theorem inV_iff {n : Int} (h : inV n = true) : -1000000000000000 ≤ n ∧ n ≤ 1000000000000000 := by
  unfold inV at h; simpa using h
theorem itoa_len {n : Int} (h : inV n = true) : 1 ≤ (Lib.itoa n).length ∧ (Lib.itoa n).length ≤ 17 := by
  have hb := inV_iff h
  by_cases hn : n < 0
  · obtain ⟨m, rfl⟩ : ∃ m : Nat, n = -(m : Int) := ⟨n.natAbs, by omega⟩
    rw [Lib.itoa_neg m (by omega), List.length_cons]
    have := dec_len 16 m (by omega) (by decide)
    omega
  · obtain ⟨m, rfl⟩ : ∃ m : Nat, n = (m : Int) := ⟨n.toNat, by omega⟩
    rw [Lib.itoa_nonneg m]
    have := dec_len 16 m (by omega) (by decide)
    have := (dec_val m).2.2
    omega
theorem digN_mono : ∀ (l : List UInt8) (a : Nat), a ≤ digN a l := by
  intro l
  induction l with
  | nil => intro a; exact Nat.le_refl _
  | cons b l ih =>
    intro a
    have h := ih (stepN a b)
    have h1 : a ≤ stepN a b := by unfold stepN; split <;> omega
    exact Nat.le_trans h1 h
theorem parse_digits : ∀ (l : List UInt8) (a : Nat), (∀ b ∈ l, isD b) → digN a l < 10 ^ 18 → Lib.parseUint10 a l = .ok (digN a l) := by
  intro l
  induction l with
  | nil => intro a _ _; rfl
  | cons b l ih =>
    intro a hd hlt
    have hb : isD b := hd b (List.mem_cons_self ..)
    have e : stepN a b = a * 10 + (b.toNat - 48) := by unfold stepN; rw [if_pos (show 48 ≤ b.toNat ∧ b.toNat ≤ 57 from hb)]; omega
    have hlt' : digN (stepN a b) l < 10 ^ 18 := hlt
    have hm := digN_mono l (stepN a b)
    have h := ih (stepN a b) (fun c hc => hd c (List.mem_cons_of_mem _ hc)) hlt'
    show Lib.parseUint10 a (b :: l) = .ok (digN (stepN a b) l)
    rw [← h, e]
    rw [e] at hm hlt'
    simp only [Lib.parseUint10]
    unfold isD at hb
    rw [if_pos hb, if_neg (by omega), if_neg (by omega)]
theorem parse_itoa {n : Int} (h : inV n = true) : Lib.parseIntB 64 (Lib.itoa n) = .ok n := by
  have hb := inV_iff h
  rw [Lib.parseIntB_64]
  by_cases hn : n < 0
  · obtain ⟨m, rfl⟩ : ∃ m : Nat, n = -(m : Int) := ⟨n.natAbs, by omega⟩
    rw [Lib.itoa_neg m (by omega)]
    obtain ⟨h1, h2, h3⟩ := dec_val m
    have hp := parse_digits (Lib.decDigits m) 0 h2 (by rw [h1]; omega)
    rw [h1] at hp
    have hne : Lib.decDigits m ≠ [] := by intro c; rw [c] at h3; simp at h3
    unfold Lib.atoiAll Lib.parseMag
    have e45 : (45 : UInt8).toNat = 45 := rfl
    simp only [e45, or_true, if_true, if_neg hne, hp]
    rw [if_neg (by simp), if_neg (by omega)]
  · obtain ⟨m, rfl⟩ : ∃ m : Nat, n = (m : Int) := ⟨n.toNat, by omega⟩
    rw [Lib.itoa_nonneg m]
    obtain ⟨h1, h2, h3⟩ := dec_val m
    have hp := parse_digits (Lib.decDigits m) 0 h2 (by rw [h1]; omega)
    rw [h1] at hp
    cases hd : Lib.decDigits m with
    | nil => rw [hd] at h3; simp at h3
    | cons x xs =>
      rw [hd] at hp h2
      have hx := h2 x (List.mem_cons_self ..)
      unfold isD at hx
      unfold Lib.atoiAll Lib.parseMag
      simp only
      rw [if_neg (show ¬ (x.toNat = 43 ∨ x.toNat = 45) by omega), if_neg (List.cons_ne_nil x xs), hp]
      simp only
      rw [if_neg (show ¬ (¬ x.toNat = 45 ∧ 9223372036854775808 ≤ m) by omega), if_neg (show ¬ (x.toNat = 45 ∧ 9223372036854775808 < m) by omega), if_neg (show ¬ x.toNat = 45 by omega)]
/-- Whether a text is one of a number that is not too great, and the number. -/
def readB (s : ByteArray) : Bool := inV (specV s.data.toList) && decide (decT (specV s.data.toList) = s)
def readN (s : ByteArray) : Int := if readB s then specV s.data.toList else 0
theorem decT_list (n : Int) : (decT n).data.toList = Lib.itoa n := by unfold decT; simp
theorem readB_iff {s : ByteArray} : readB s = true ↔ ∃ n, inV n = true ∧ decT n = s := by
  unfold readB
  constructor
  · intro h
    rw [Bool.and_eq_true, decide_eq_true_iff] at h
    exact ⟨_, h.1, h.2⟩
  · rintro ⟨n, h1, rfl⟩
    rw [decT_list, specV_itoa, h1, decide_eq_true rfl]; rfl
theorem readB_of {n : Int} {s : ByteArray} (h1 : inV n = true) (h2 : decT n = s) : readB s = true ∧ readN s = n := by
  have h := readB_iff.2 ⟨n, h1, h2⟩
  refine ⟨h, ?_⟩
  unfold readN
  rw [if_pos h, ← h2, decT_list, specV_itoa]
theorem readN_no {s : ByteArray} (h : readB s = false) : readN s = 0 := by unfold readN; rw [h]; rfl
theorem readB_len {s : ByteArray} (h : ¬ (1 ≤ s.size ∧ s.size ≤ 17)) : readB s = false := by
  cases hb : readB s
  · rfl
  · obtain ⟨n, h1, h2⟩ := readB_iff.1 hb
    have := itoa_len h1
    have e : s.size = (Lib.itoa n).length := by
      rw [← h2]; show (Lib.itoa n).toArray.size = _; simp
    omega
theorem readB_parse {s : ByteArray} {n : Int} (h : Lib.parseIntB 64 s.data.toList = .ok n) (hno : ¬ (inV n = true ∧ decT n = s)) : readB s = false := by
  cases hb : readB s
  · rfl
  · obtain ⟨m, h1, h2⟩ := readB_iff.1 hb
    have hp := parse_itoa h1
    rw [← decT_list, h2, h] at hp
    injection hp with hp
    subst hp
    exact absurd ⟨h1, h2⟩ hno
theorem readB_bad {s : ByteArray} (h : ∀ n, Lib.parseIntB 64 s.data.toList ≠ .ok n) : readB s = false := by
  cases hb : readB s
  · rfl
  · obtain ⟨m, h1, h2⟩ := readB_iff.1 hb
    have hp := parse_itoa h1
    rw [← decT_list, h2] at hp
    exact absurd hp (h m)
theorem readB_spec {s : ByteArray} (hno : ¬ (inV (specV s.data.toList) = true ∧ decT (specV s.data.toList) = s)) : readB s = false := by
  unfold readB
  cases h : inV (specV s.data.toList)
  · rfl
  · rw [Bool.true_and]; exact decide_eq_false (fun c => hno ⟨h, c⟩)
end Go.Proofs.YtogliigpoojfoaaGreatDoor
end

section
namespace Go.Proofs.YtogliigpoojfoaaGreatDoor
set_option maxRecDepth 100000
open Go.RowKit

theorem win_any (n : Int) (w : World) :
    Calls Tryz.prog 53 #[.int .i64 n, .int .i64 (-1000000000000000), .int .i64 1000000000000000] w fun e w' => e = .returned (.bool (inV n)) ∧ w = w' := by
  unfold inV
  by_cases h1 : -1000000000000000 ≤ n
  · by_cases h2 : n ≤ 1000000000000000
    · go_enter Tryz.func53, Tryz.ntmps53
      go_wp2
      go_ret
      simp [h1, h2]
    · have h2' : decide (n ≤ 1000000000000000) = false := decide_eq_false h2
      clear h2
      go_enter Tryz.func53, Tryz.ntmps53
      go_wp2
      go_ret
      exact ⟨by rw [h2', Bool.and_false]; rfl, rfl⟩
  · have h1' : decide (-1000000000000000 ≤ n) = false := decide_eq_false h1
    have h2 : n < -1000000000000000 := by omega
    go_enter Tryz.func53, Tryz.ntmps53
    go_wp2
    go_ret
    exact ⟨rfl, rfl⟩
theorem owns_below {w w' : World} {base e size n : Nat} {v : Value} {xs : List Value} (h : w.ownsRow base e size v n xs) (hb : Below w.heap.size w w') : w'.ownsRow base e size v n xs := by
  refine ⟨h.1, ?_⟩
  rcases h.2 with hn | ⟨g, cap, cur, hv, hbg, hgg, rest⟩
  · exact .inl hn
  · refine .inr ⟨g, cap, cur, hv, hbg, ?_, rest⟩
    rw [hb.block g (Array.getElem?_eq_some_iff.1 hgg).1]
    exact hgg
theorem owns_shape {w : World} {base e size n : Nat} {v : Value} {xs : List Value} (h : w.ownsRow base e size v n xs) (hn : 0 < n) : ∃ g cap, v = .slice (some ⟨g, 0, none⟩) n cap ∧ base ≤ g ∧ g < w.heap.size ∧ n ≤ cap := by
  rcases h.2 with ⟨-, h0⟩ | ⟨g, cap, cur, hv, hbg, hgg, hc, -⟩
  · omega
  · exact ⟨g, cap, hv, hbg, (Array.getElem?_eq_some_iff.1 hgg).1, hc⟩
theorem owns_block {w : World} {base e size n m : Nat} {a : Option Addr} {cap : Nat} {xs : List Value} (h : w.ownsRow base e size (.slice a n cap) m xs) : ∀ k, (Value.slice a n cap).ownBlock = some k → base ≤ k := fun k hk => (h.lt k hk).1
def strs (l : List ByteArray) : List Value := l.map Value.string
theorem strs_cell {w : World} {base e g n cap m : Nat} {l : List ByteArray} (h : w.ownsRow base e 1 (.slice (some ⟨g, 0, none⟩) n cap) m (strs l)) : ∀ (j : Nat) x, l[j]? = some x → w.cell? ⟨g, 0 + j, none⟩ = some (.string x) := by
  intro j x hx
  have := h.cells (g := g) rfl j (.string x) (by simp [strs, hx])
  have hadd : (⟨g, 0, none⟩ : Addr).add j = ⟨g, 0 + j, none⟩ := by unfold Addr.add; split <;> simp_all
  rwa [hadd] at this
def noneT : ByteArray := ⟨#[110, 111, 110, 101]⟩
def joinT (l : List ByteArray) : ByteArray := ⟨(Lib.join (l.map (·.data.toList)) [44]).toArray⟩
theorem lor_nil (a : Option Addr) (cap : Nat) (w : World) :
    Calls Tryz.prog 47 #[.slice a 0 cap] w fun e w' => e = .returned (.string noneT) ∧ Below w.heap.size w w' := by
  go_enter Tryz.func47, Tryz.ntmps47
  go_wp2
  go_ret
  exact ⟨rfl, Below.refl _ _⟩
theorem lor_any (g cap n : Nat) (l : List ByteArray) (hn : l.length = n) (h0 : 0 < n) (hN : n ≤ 1048576) (hcap : n ≤ cap) (w : World) (hg : g < w.heap.size) (hc : ∀ (j : Nat) x, l[j]? = some x → w.cell? ⟨g, 0 + j, none⟩ = some (.string x))
    (hlen : (Lib.join (l.map (·.data.toList)) [44]).length ≤ 140737488355328) :
    Calls Tryz.prog 47 #[.slice (some ⟨g, 0, none⟩) n cap] w fun e w' => e = .returned (.string (joinT l)) ∧ Below w.heap.size w w' := by
  have hcon := Tryz.strings_Join g 0 cap l ⟨#[44]⟩ w hc hg (by omega) (by omega) hlen
  rw [hn] at hcon
  have hC := hidI hcon
  have t1 : ((n : Int) == 0) = false := beq_eq_false_iff_ne.2 (by omega)
  clear hcon hc hlen hn
  go_enter Tryz.func47, Tryz.ntmps47
  go_wp2_with (go_at_call 76; refine hC.out.mono ?_; rintro e w' ⟨rfl, hB⟩; have b1 := hidI hB; clear hB)
  go_ret
  exact ⟨rfl, b1.out⟩
theorem run_buildS {P : Program} (w : World) {t e : TypeId} (ht : P.underlying t = some (.slice e)) (hs : (P.info? e).map (·.size) = some 1) (hz : ((P.info? e).bind (·.zero)).isSome = true) (c : ByteArray) :
    (Instr.buildSlice t 1 #[(0, .string c)]).run P w = .ok (.slice (some ⟨w.heap.size, 0, none⟩) 1 1) (w.alloc (.cells #[.string c] e)) := by
  cases hie : P.info? e with
  | none => rw [hie] at hs; cases hs
  | some ie =>
    simp only [hie, Option.map_some, Option.some.injEq, Option.bind_some] at hs hz
    obtain ⟨z, hzz⟩ := Option.isSome_iff_exists.1 hz
    refine run_buildSlice w _ _ 1 _ _ ie z ht hie hzz (by rw [hs]; omega) (by rw [hs]; omega) ?_
    rw [hs]
    exact Great.fill_flat [Value.string c] _ (fun v hv => by simp at hv; rcases hv with rfl | rfl <;> rfl) (by simp)
theorem Tryz.infoS : (Tryz.prog.info? 9).map (fun i => (i.zero, i.size, i.bytes)) = some (some (.string ⟨#[]⟩), 1, 16) := by kernel_rfl
theorem Tryz.sizeS : (Tryz.prog.info? 9).map (·.size) = some 1 := by kernel_rfl
theorem Tryz.zeroS : ((Tryz.prog.info? 9).bind (·.zero)).isSome = true := by kernel_rfl
theorem Tryz.someS : (Tryz.prog.info? 9).isSome = true := by kernel_rfl
theorem strs_snoc (l : List Int) (k : Nat) (h : k < l.length) : strs ((l.take k).map decT) ++ [.string (decT l[k])] = strs ((l.take (k + 1)).map decT) := by
  unfold strs
  rw [List.take_succ_eq_append_getElem h, List.map_append, List.map_append]; rfl
/-- The library's join of the texts is the reference's. -/
theorem join_acc : ∀ (xs : List Int) (x : ByteArray), (Lib.join ((x :: xs.map decT).map (·.data.toList)) [44]) = (accT x xs).data.toList := by
  intro xs
  induction xs with
  | nil => intro x; simp [Lib.join, accT, List.intercalate]
  | cons n xs ih =>
    intro x
    have h := ih (x ++ ((⟨#[44]⟩ : ByteArray) ++ decT n))
    have e1 : accT x (n :: xs) = accT (x ++ ((⟨#[44]⟩ : ByteArray) ++ decT n)) xs := rfl
    rw [e1, ← h]
    have e2 : (x ++ ((⟨#[44]⟩ : ByteArray) ++ decT n)).data.toList = x.data.toList ++ ([44] ++ (decT n).data.toList) := by
      rw [ByteArray.data_append, ByteArray.data_append]; simp
    cases xs with
    | nil => simp [Lib.join, List.intercalate, List.intersperse]
    | cons m ms => simp [Lib.join, List.intercalate, List.intersperse]
theorem join_text (x : Int) (xs : List Int) : joinT ((x :: xs).map decT) = textL (x :: xs) := by
  unfold joinT
  rw [List.map_cons, join_acc]; rfl
end Go.Proofs.YtogliigpoojfoaaGreatDoor
end

section
namespace Go.Proofs.YtogliigpoojfoaaGreatDoor
set_option maxRecDepth 100000
open Go.RowKit

theorem ne45 {b : UInt8} (h : b ≠ 45) : ((b.toNat : Int) == 45) = false := by
  rw [beq_eq_false_iff_ne]
  intro e
  apply h
  apply UInt8.toNat_inj.1
  have e2 : (45 : UInt8).toNat = 45 := rfl
  rw [e2]; omega
theorem same_text {a b : ByteArray} (h : a = b) : (a.toList == b.toList) = true := by rw [h]; exact beq_self_eq_true _
theorem diff_text {a b : ByteArray} (h : a ≠ b) : (a.toList == b.toList) = false := by
  rw [beq_eq_false_iff_ne]
  intro e
  apply h
  rw [ByteArray.toList_eq, ByteArray.toList_eq] at e
  exact ByteArray.ext (Array.toList_inj.1 e)
theorem digN_take {s : ByteArray} {k : Nat} (hk : k < s.size) : digN 0 (s.data.toList.take (k + 1)) = stepN (digN 0 (s.data.toList.take k)) s[k] := by
  rw [take_snoc' s k hk, digN_snoc]
theorem digN_bd {s : ByteArray} (h : s.size ≤ 17) (k : Nat) : digN 0 (s.data.toList.take k) < 100000000000000000 := by
  have h1 := digN_lt (s.data.toList.take k) 0
  have h2 : (s.data.toList.take k).length ≤ 17 := by
    rw [List.length_take, len_list]; omega
  have h3 := Nat.pow_le_pow_right (show 0 < 10 by decide) h2
  omega
theorem specV_neg {s : ByteArray} {k : Nat} (hk : s.size ≤ k) (h0 : 0 < s.size) (h : s[0] = 45) : specV s.data.toList = -(digN 0 (s.data.toList.take k) : Int) := by
  rw [List.take_of_length_le (by rw [len_list]; exact hk)]
  unfold specV
  rw [if_pos]
  rw [List.head?_eq_getElem?, List.getElem?_eq_getElem (by rw [len_list]; exact h0)]
  exact congrArg some h
theorem specV_pos {s : ByteArray} {k : Nat} (hk : s.size ≤ k) (h0 : 0 < s.size) (h : s[0] ≠ 45) : specV s.data.toList = (digN 0 (s.data.toList.take k) : Int) := by
  rw [List.take_of_length_le (by rw [len_list]; exact hk)]
  unfold specV
  rw [if_neg]
  rw [List.head?_eq_getElem?, List.getElem?_eq_getElem (by rw [len_list]; exact h0)]
  intro c
  injection c with c
  exact h c
end Go.Proofs.YtogliigpoojfoaaGreatDoor
end

section
namespace Go.Proofs.YtogliigpoojfoaaGreatDoor
set_option maxRecDepth 100000
open Go.RowKit

/-- The variable holds some error. -/
def ErrVar (n : String) (w : World) : Prop := ∃ tp p, w.var? Tryz.prog n = some #[.iface tp p]
theorem Tryz.starE : "*" ++ "errors.errorString" = "*errors.errorString" := by decide
theorem Tryz.rowE (u : TypeId) (h : Tryz.prog.typeName? 3 u = some "*errors.errorString") : u = 156 :=
  typeName_ptr_named (nm := "errors.errorString") (by rw [Tryz.starE]; kernel_rfl) (by kernel_rfl) (by decide) u (by rw [Tryz.starE]; exact h)
theorem gErr (n : String) (h : (Tryz.prog.globalNamed n).bind (fun g => (Tryz.prog.globals[g]?).map (·.type)) = some 96) : ∃ g, Tryz.prog.globalNamed n = some g ∧ (Tryz.prog.globals[g]?).map (·.type) = some 96 := by
  rw [Option.bind_eq_some_iff] at h
  exact h
theorem err_head {n : String} {text : List UInt8} {W : World} {rest : List (String × DataW Unit)} (hn : (Tryz.prog.globalNamed n).bind (fun g => (Tryz.prog.globals[g]?).map (·.type)) = some 96) (h : laidMet Tryz.prog ((n, .iface "*errors.errorString" (.ptr (.agg [.lit (.string text)]))) :: rest) W) : ErrVar n W := by
  obtain ⟨g, hg, ht⟩ := gErr n hn
  obtain ⟨a, s, hv, -, -, -⟩ := laid_sentinel h hg ht Tryz.underlying96 Tryz.rowE Tryz.underlying156 Tryz.underlying158 rfl rfl Tryz.underlying9 (by kernel_rfl) (by kernel_rfl)
  exact ⟨_, _, hv⟩
theorem ErrVar.stays {n : String} {w w' : World} (h : ErrVar n w) (hb : Below w.heap.size w w') : ErrVar n w' := by
  obtain ⟨tp, p, h⟩ := h
  refine ⟨tp, p, ?_⟩
  unfold World.var? at h ⊢
  cases hg : Tryz.prog.globalNamed n with
  | none => simp [hg] at h
  | some g =>
    simp only [hg, Option.bind_some] at h ⊢
    have hlt : g < w.heap.size := by
      rcases Nat.lt_or_ge g w.heap.size with h' | h'
      · exact h'
      · simp [Array.getElem?_eq_none h'] at h
    rw [hb.block g hlt]
    exact h
end Go.Proofs.YtogliigpoojfoaaGreatDoor
end
