/-
  Names: whether a text is one, both ways.
-/
import Derived.Test.YtogliigpoojfoaaDoorRows
import Derived.Test.YtogliigpoojfoaaDoorSh1
import Derived.WalkKit
import Derived.Below
import Derived.Lib.Hide
namespace Go.Proofs.YtogliigpoojfoaaDoor
open Go.RowKit Go.Shelf

def lowB (b : UInt8) : Bool := decide (97 ≤ b.toNat) && decide (b.toNat ≤ 122)
def nameB (l : List UInt8) : Bool := decide (1 ≤ l.length) && decide (l.length ≤ 8) && l.all lowB
def letters : List UInt8 := [97, 98, 99, 100, 101, 102, 103, 104, 105, 106, 107, 108, 109, 110, 111, 112, 113, 114, 115, 116, 117, 118, 119, 120, 121, 122]
theorem letters_low (b : UInt8) : letters.contains b = lowB b := by
  have h : ∀ n, n < 256 → letters.contains (UInt8.ofNat n) = lowB (UInt8.ofNat n) := by decide +kernel
  have := h b.toNat b.toNat_lt
  rwa [UInt8.ofNat_toNat] at this
theorem dw_nil {α : Type} {p : α → Bool} : ∀ {l : List α}, l.dropWhile p = [] ↔ ∀ x, x ∈ l → p x = true := by
  intro l
  induction l with
  | nil => simp
  | cons a l ih =>
    rw [List.dropWhile_cons]
    cases h : p a
    · simp [h]
    · simp only [if_true]
      rw [ih]
      constructor
      · intro hl x hx
        rcases List.mem_cons.1 hx with rfl | hx
        · exact h
        · exact hl x hx
      · intro hl x hx
        exact hl x (List.mem_cons_of_mem _ hx)
theorem dw_head {α : Type} {p : α → Bool} : ∀ {l : List α} {x : α} {xs : List α}, l.dropWhile p = x :: xs → p x = false := by
  intro l
  induction l with
  | nil => intro x xs h; simp at h
  | cons a l ih =>
    intro x xs h
    rw [List.dropWhile_cons] at h
    cases hp : p a
    · rw [hp] at h
      simp only [Bool.false_eq_true, if_false, List.cons.injEq] at h
      rw [← h.1]; exact hp
    · rw [hp] at h
      simp only [if_true] at h
      exact ih h
theorem trim_all {l : List UInt8} (h : l.all lowB = true) : Lib.trimS l letters = [] := by
  have e : (fun b => letters.contains b) = lowB := funext letters_low
  unfold Lib.trimS Lib.trimLeftS Lib.trimRightS
  rw [e]
  have : l.reverse.dropWhile lowB = [] := by
    rw [dw_nil]
    intro x hx
    exact List.all_eq_true.1 h x (List.mem_reverse.1 hx)
  rw [this]; rfl
theorem trim_some {l : List UInt8} (h : l.all lowB = false) : Lib.trimS l letters ≠ [] := by
  have e : (fun b => letters.contains b) = lowB := funext letters_low
  unfold Lib.trimS Lib.trimLeftS Lib.trimRightS
  rw [e]
  intro c
  rw [dw_nil] at c
  have hall : ∀ x ∈ l.reverse.dropWhile lowB, lowB x = true := fun x hx => c x (List.mem_reverse.2 hx)
  have hnil : l.reverse.dropWhile lowB = [] := by
    cases hd : l.reverse.dropWhile lowB with
    | nil => rfl
    | cons x xs =>
      have h1 := hall x (by rw [hd]; exact List.mem_cons_self ..)
      have h2 := dw_head hd
      rw [h1] at h2; cases h2
  rw [dw_nil] at hnil
  have : l.all lowB = true := List.all_eq_true.2 fun x hx => hnil x (List.mem_reverse.2 hx)
  rw [h] at this; cases this
theorem take_snoc' (s : ByteArray) (k : Nat) (h : k < s.size) : s.data.toList.take (k + 1) = s.data.toList.take k ++ [s[k]] := by
  rw [List.take_succ_eq_append_getElem (by simpa using h)]; rfl
theorem len_list (s : ByteArray) : s.data.toList.length = s.size := rfl
theorem hidB {p : Prop} (h : p) : Hid p := h
theorem nameB_end {s : ByteArray} {k : Nat} (hk : s.size ≤ k) (h : (s.data.toList.take k).all lowB = true) : nameB s.data.toList = (decide (1 ≤ (s.size : Int)) && decide ((s.size : Int) ≤ 8)) := by
  rw [List.take_of_length_le (by rw [len_list]; exact hk)] at h
  unfold nameB
  rw [h, Bool.and_true, len_list]
  congr 1
  · exact decide_eq_decide.2 (by omega)
  · exact decide_eq_decide.2 (by omega)
theorem nameB_no {s : ByteArray} {k : Nat} (hk : k < s.size) (h : lowB s[k] = false) : nameB s.data.toList = false := by
  have : s.data.toList.all lowB = false := by
    rw [List.all_eq_false]
    exact ⟨s[k], by
      have : s[k] = s.data.toList[k]'(by rw [len_list]; exact hk) := rfl
      rw [this]; exact List.getElem_mem _, by rw [h]; decide⟩
  unfold nameB
  rw [this, Bool.and_false]
theorem nameB_len {s : ByteArray} (h : ¬ (1 ≤ s.size ∧ s.size ≤ 8)) : nameB s.data.toList = false := by
  unfold nameB
  rw [len_list]
  by_cases h1 : 1 ≤ s.size
  · have h2 : ¬ s.size ≤ 8 := fun c => h ⟨h1, c⟩
    rw [decide_eq_false h2, Bool.and_false, Bool.false_and]
  · rw [decide_eq_false h1, Bool.false_and, Bool.false_and]
theorem nameB_in {s : ByteArray} (h1 : 1 ≤ s.size) (h2 : s.size ≤ 8) : nameB s.data.toList = s.data.toList.all lowB := by
  unfold nameB
  rw [len_list, decide_eq_true h1, decide_eq_true h2, Bool.true_and, Bool.true_and]
set_option maxHeartbeats 400000 in
theorem sname_any (s : ByteArray) (hs : s.size ≤ 1048576) (w : World) :
    Calls Tryd.prog 13 #[.string s] w fun e w' => e = .returned (.bool (nameB s.data.toList)) ∧ w = w' := by
  generalize hq : nameB s.data.toList = q
  have hQ := hidB hq
  clear hq
  go_enter Tryd.func13, Tryd.ntmps13
  go_wp2
  go_loop [3] (fun i => ∃ k : Nat, k ≤ s.size ∧ i = .int .i64 k ∧ Hid ((s.data.toList.take k).all lowB = true)) (fun i => s.size - (intOf i).toNat)
  case atStart => exact ⟨0, Nat.zero_le _, rfl, rfl⟩
  case round =>
    obtain ⟨k, hk, rfl, hall⟩ := hrel
    by_cases hlt : k < s.size
    · by_cases h1 : (s[k].toNat : Int) < 97
      · have hN := hidB (nameB_no hlt (by unfold lowB; rw [decide_eq_false (by omega)]; rfl))
        go_wp2
        go_ret
        exact ⟨by rw [← hQ.out, hN.out]; rfl, rfl⟩
      · have h1' : 97 ≤ (s[k].toNat : Int) := by omega
        clear h1
        by_cases h2 : 122 < (s[k].toNat : Int)
        · have hN := hidB (nameB_no hlt (by unfold lowB; rw [decide_eq_false (show ¬ s[k].toNat ≤ 122 by omega), Bool.and_false]))
          go_wp2
          go_ret
          exact ⟨by rw [← hQ.out, hN.out]; rfl, rfl⟩
        · have h2' : (s[k].toNat : Int) ≤ 122 := by omega
          have hL : Hid (lowB s[k] = true) := by
            show lowB s[k] = true
            unfold lowB
            rw [decide_eq_true (show 97 ≤ s[k].toNat by omega), decide_eq_true (show s[k].toNat ≤ 122 by omega)]; rfl
          clear h2
          go_wp2
          go_round
          case rel => exact ⟨k + 1, by omega, by go_num, by
            show (s.data.toList.take (k + 1)).all lowB = true
            rw [take_snoc' s k hlt, List.all_append, hall.out]
            simp [hL.out]⟩
          case measure => simp [intOf]; omega
    · have hN := nameB_end (by omega) hall.out
      by_cases h1 : 1 ≤ s.size
      · rw [decide_eq_true (by omega)] at hN
        have hN' := hidB hN
        clear hN
        go_wp2
        go_ret
        exact ⟨by rw [← hQ.out, hN'.out]; rfl, rfl⟩
      · have h1' : s.size < 1 := by omega
        rw [decide_eq_false (show ¬ (1 : Int) ≤ (s.size : Int) by omega)] at hN
        have hN' := hidB hN
        clear hN h1
        go_wp2
        go_ret
        exact ⟨by rw [← hQ.out, hN'.out]; rfl, rfl⟩
theorem iname_no (s : ByteArray) (h : ¬ (1 ≤ s.size ∧ s.size ≤ 8)) (w : World) :
    Calls Tryd.prog 14 #[.string s] w fun e w' => e = .returned (.bool false) ∧ Below w.heap.size w w' := by
  by_cases h1 : 1 ≤ s.size
  · have h2 : 8 < s.size := by omega
    clear h
    go_enter Tryd.func14, Tryd.ntmps14
    go_wp2
    go_ret
    exact ⟨rfl, Below.refl _ _⟩
  · have h2 : s.size < 1 := by omega
    clear h h1
    go_enter Tryd.func14, Tryd.ntmps14
    go_wp2
    go_ret
    exact ⟨rfl, Below.refl _ _⟩
theorem iname_yes (s : ByteArray) (h1 : 1 ≤ s.size) (h2 : s.size ≤ 8) (w : World) :
    Calls Tryd.prog 14 #[.string s] w fun e w' => e = .returned (.bool (s.data.toList.all lowB)) ∧ Below w.heap.size w w' := by
  have hcon := Any.strings_Trim_laid Tryd.l160 (by kernel_rfl) s ⟨#[97, 98, 99, 100, 101, 102, 103, 104, 105, 106, 107, 108, 109, 110, 111, 112, 113, 114, 115, 116, 117, 118, 119, 120, 121, 122]⟩ w (by omega) (by decide) (ascii_of_all (by decide))
  change Calls Tryd.prog 40 _ _ (fun e w' => e = .returned (.string ⟨(Lib.trimS s.data.toList letters).toArray⟩) ∧ Below w.heap.size w w') at hcon
  cases ha : s.data.toList.all lowB
  · have hne := trim_some ha
    generalize (Lib.trimS s.data.toList letters) = l at hcon hne
    cases l with
    | nil => exact absurd rfl hne
    | cons c cs =>
      have hC := hidB hcon
      clear hcon hne ha
      go_enter Tryd.func14, Tryd.ntmps14
      go_wp2_with (go_at_call 40; refine hC.out.mono ?_; rintro e w' ⟨rfl, hB⟩)
      go_ret
      exact ⟨rfl, hB⟩
  · rw [trim_all ha] at hcon
    have hC := hidB hcon
    clear hcon ha
    go_enter Tryd.func14, Tryd.ntmps14
    go_wp2_with (go_at_call 40; refine hC.out.mono ?_; rintro e w' ⟨rfl, hB⟩)
    go_ret
    exact ⟨rfl, hB⟩
theorem iname_any (s : ByteArray) (w : World) :
    Calls Tryd.prog 14 #[.string s] w fun e w' => e = .returned (.bool (nameB s.data.toList)) ∧ Below w.heap.size w w' := by
  by_cases h : 1 ≤ s.size ∧ s.size ≤ 8
  · rw [nameB_in h.1 h.2]; exact iname_yes s h.1 h.2 w
  · rw [nameB_len h]; exact iname_no s h w
theorem law_IsName (s : ByteArray) (_ : s.size ≤ maxLen) (w : World) (_ : laidMetH Tryd.prog Rows.fnExactIsNameRow.laid w) :
    Calls Tryd.prog 4 #[.string s] w fun e w' => e = .returned (.bool true) ∧ Below w.heap.size w w' := by
  by_cases hs : s.size ≤ 1048576
  · generalize hq : nameB s.data.toList = q
    have hS := hidB (sname_any s hs)
    have hI := hidB (iname_any s)
    rw [hq] at hS hI
    clear hq
    go_enter Tryd.func4, Tryd.ntmps4
    go_wp2_with (first | (go_at_call 13; refine (hS.out _).mono ?_; rintro e w' ⟨rfl, rfl⟩) | (go_at_call 14; refine (hI.out _).mono ?_; rintro e w' ⟨rfl, hB⟩))
    all_goals go_ret
    all_goals exact ⟨rfl, hB⟩
  · have hs' : 1048576 < s.size := by omega
    clear hs
    go_enter Tryd.func4, Tryd.ntmps4
    go_wp2
    go_ret
    exact ⟨rfl, Below.refl _ _⟩
end Go.Proofs.YtogliigpoojfoaaDoor
