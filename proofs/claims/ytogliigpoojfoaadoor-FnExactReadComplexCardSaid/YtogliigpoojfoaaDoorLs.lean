/-
  Lists as texts: what they are, and the reference's walks.
-/
import Derived.Test.YtogliigpoojfoaaDoorDe
import Derived.Test.YtogliigpoojfoaaDoorLt
import Derived.Lib.ItoaLen
namespace Go.Proofs.YtogliigpoojfoaaDoor
open Go.RowKit

def inV (n : Int) : Bool := decide (-1000000000000000 ≤ n) && decide (n ≤ 1000000000000000)
def listB (l : List Int) : Bool := l.all inV && decide ((l.length : Int) ≤ 64)
def accT (s : ByteArray) (l : List Int) : ByteArray := l.foldl (fun s n => s ++ ((⟨#[44]⟩ : ByteArray) ++ decT n)) s
def textL : List Int → ByteArray
  | [] => ⟨#[110, 111, 110, 101]⟩
  | x :: xs => accT (decT x) xs
theorem accT_snoc (s : ByteArray) (l : List Int) (n : Int) : accT s (l ++ [n]) = accT s l ++ ((⟨#[44]⟩ : ByteArray) ++ decT n) := by
  unfold accT; rw [List.foldl_append]; rfl
theorem decT_size {n : Int} (h0 : -9223372036854775808 ≤ n) (h1 : n ≤ 9223372036854775807) : (decT n).size ≤ 21 := by
  have := Lib.itoa_length_le n h0 h1
  show (Lib.itoa n).toArray.size ≤ 21
  simpa using this
theorem accT_size : ∀ (l : List Int) (s : ByteArray), (∀ n ∈ l, -9223372036854775808 ≤ n ∧ n ≤ 9223372036854775807) → (accT s l).size ≤ s.size + 22 * l.length := by
  intro l
  induction l with
  | nil => intro s _; exact Nat.le_refl _
  | cons n l ih =>
    intro s h
    have h1 := ih (s ++ ((⟨#[44]⟩ : ByteArray) ++ decT n)) (fun m hm => h m (List.mem_cons_of_mem _ hm))
    have h2 := decT_size (h n (List.mem_cons_self ..)).1 (h n (List.mem_cons_self ..)).2
    have h3 : (s ++ ((⟨#[44]⟩ : ByteArray) ++ decT n)).size = s.size + (1 + (decT n).size) := by
      rw [ByteArray.size_append, ByteArray.size_append]; rfl
    show (accT (s ++ ((⟨#[44]⟩ : ByteArray) ++ decT n)) l).size ≤ _
    rw [List.length_cons]
    omega
theorem IAll.mem {l : List Int} (h : IAll .i64 l) : ∀ n ∈ l, -9223372036854775808 ≤ n ∧ n ≤ 9223372036854775807 := by
  intro n hn
  obtain ⟨i, hi, rfl⟩ := List.getElem_of_mem hn
  have := h.i64 hi
  rwa [igetD hi] at this
theorem listB_no {l : List Int} {k : Nat} (hk : k < l.length) (h : inV l[k] = false) : listB l = false := by
  have : l.all inV = false := by
    rw [List.all_eq_false]; exact ⟨l[k], List.getElem_mem _, by rw [h]; decide⟩
  unfold listB; rw [this, Bool.false_and]
theorem listB_end {l : List Int} {k : Nat} (hk : l.length ≤ k) (h : (l.take k).all inV = true) : listB l = decide ((l.length : Int) ≤ 64) := by
  rw [List.take_of_length_le hk] at h
  unfold listB; rw [h, Bool.true_and]
theorem all_step {l : List Int} {k : Nat} (hk : k < l.length) (h : (l.take k).all inV = true) (h2 : inV l[k] = true) : (l.take (k + 1)).all inV = true := by
  rw [List.take_succ_eq_append_getElem hk, List.all_append, h]
  simp [h2]
theorem sin_any (n : Int) (w : World) :
    Calls Tryd.prog 65 #[.int .i64 n, .int .i64 (-1000000000000000), .int .i64 1000000000000000] w fun e w' => e = .returned (.bool (inV n)) ∧ w = w' := by
  unfold inV
  by_cases h1 : -1000000000000000 ≤ n
  · by_cases h2 : n ≤ 1000000000000000
    · go_enter Tryd.func65, Tryd.ntmps65
      go_wp2
      go_ret
      simp [h1, h2]
    · have h2' : decide (n ≤ 1000000000000000) = false := decide_eq_false h2
      clear h2
      go_enter Tryd.func65, Tryd.ntmps65
      go_wp2
      go_ret
      exact ⟨by rw [h2', Bool.and_false]; rfl, rfl⟩
  · have h1' : decide (-1000000000000000 ≤ n) = false := decide_eq_false h1
    have h2 : n < -1000000000000000 := by omega
    go_enter Tryd.func65, Tryd.ntmps65
    go_wp2
    go_ret
    exact ⟨rfl, rfl⟩
set_option maxHeartbeats 400000 in
theorem slist_any (a : Option Addr) (cap : Nat) (l : List Int) (hl : l.length ≤ 1048576) (w : World) (h : IRow .i64 w a l) :
    Calls Tryd.prog 41 #[.slice a l.length cap] w fun e w' => e = .returned (.bool (listB l)) ∧ w = w' := by
  have hB : Hid (∀ i, i < l.length → ∃ b o, a = some ⟨b, o, none⟩ ∧ b < w.heap.size ∧ w.cell? ⟨b, o + i, none⟩ = some (.int .i64 (l.getD i 0))) := h
  clear h
  have hIn := hidI (fun n => sin_any n w)
  go_enter Tryd.func41, Tryd.ntmps41
  go_wp2
  go_loop [3] (fun i => ∃ k : Nat, k ≤ l.length ∧ i = .int .i64 k ∧ Hid ((l.take k).all inV = true)) (fun i => l.length - (intOf i).toNat)
  case atStart => exact ⟨0, Nat.zero_le _, rfl, rfl⟩
  case round =>
    obtain ⟨k, hk, rfl, hall⟩ := hrel
    by_cases hlt : k < l.length
    · obtain ⟨b, o, rfl, hb, hc⟩ := hB.out k hlt
      rw [igetD hlt] at hc
      cases hv : inV l[k]
      · have hN := hidI (listB_no hlt hv)
        have hV := hidI hv
        clear hv
        go_wp2_with (go_at_call 65; refine (hIn.out _).mono ?_; rintro e w' ⟨rfl, rfl⟩; rw [hV.out])
        go_ret
        exact ⟨by rw [hN.out]; rfl, rfl⟩
      · have hN := hidI (all_step hlt hall.out hv)
        have hV := hidI hv
        clear hv
        go_wp2_with (go_at_call 65; refine (hIn.out _).mono ?_; rintro e w' ⟨rfl, rfl⟩; rw [hV.out])
        go_round
        case rel => exact ⟨k + 1, by omega, by go_num, hN.out⟩
        case measure => simp [intOf]; omega
    · have hN := hidI (listB_end (by omega) hall.out)
      go_wp2
      go_ret
      exact ⟨by rw [hN.out]; rfl, rfl⟩
theorem stext_nil (a : Option Addr) (cap : Nat) (w : World) :
    Calls Tryd.prog 42 #[.slice a 0 cap] w fun e w' => e = .returned (.string (textL [])) ∧ Below w.heap.size w w' := by
  go_enter Tryd.func42, Tryd.ntmps42
  go_wp2
  go_ret
  exact ⟨rfl, Below.refl _ _⟩
theorem IRow.tail_cell {w W : World} {a : Option Addr} {l : List Int} (h : IRow .i64 w a l) (hb : Below w.heap.size w W) {k : Nat} (hk : k < l.length) : ∃ b o, a = some ⟨b, o, none⟩ ∧ W.cell? ⟨b, o + k, none⟩ = some (.int .i64 l[k]) := by
  obtain ⟨b, o, ha, hlt, hc⟩ := h.below hb k hk
  rw [igetD hk] at hc
  exact ⟨b, o, ha, hc⟩
set_option maxHeartbeats 1000000 in
theorem stext_cons (a : Option Addr) (cap : Nat) (x : Int) (xs : List Int) (n : Nat) (hn : xs.length + 1 = n) (hl : n ≤ 1048576) (hw : IAll .i64 (x :: xs)) (w : World) (h : IRow .i64 w a (x :: xs)) :
    Calls Tryd.prog 42 #[.slice a n cap] w fun e w' => e = .returned (.string (textL (x :: xs))) ∧ Below w.heap.size w w' := by
  have hS := hidI (fun (k : Nat) (hk : k < (x :: xs).length) (w : World) => sdec_any (x :: xs)[k] (by have := hw.i64 hk; rw [igetD hk] at this; exact this.1) (by have := hw.i64 hk; rw [igetD hk] at this; exact this.2) w)
  have hH := hidI h
  have hLen : (x :: xs).length = n := by rw [List.length_cons]; exact hn
  obtain ⟨b, o, rfl, hlt0, hc0⟩ := h 0 (by simp)
  rw [Nat.add_zero, show (x :: xs).getD 0 0 = x from rfl] at hc0
  have t1 : ((n : Int) == 0) = false := beq_eq_false_iff_ne.2 (by omega)
  have hn1 : 0 < n := by omega
  have hSz := hidI (fun k => show (accT (decT x) (xs.take k)).size ≤ 21 + 22 * xs.length from by
    have h1 := accT_size (xs.take k) (decT x) (fun m hm => hw.mem m (List.mem_cons_of_mem _ (List.mem_of_mem_take hm)))
    have h2 := decT_size (hw.mem x (List.mem_cons_self ..)).1 (hw.mem x (List.mem_cons_self ..)).2
    have h3 : (xs.take k).length ≤ xs.length := List.length_take_le' ..
    omega)
  have hDz := hidI (fun (k : Nat) (hk : k < (x :: xs).length) => decT_size (hw.mem (x :: xs)[k] (List.getElem_mem _)).1 (hw.mem (x :: xs)[k] (List.getElem_mem _)).2)
  clear h hlt0
  have hNL := hidI hn
  have hLN := hidI hLen
  clear hn hLen
  go_enter Tryd.func42, Tryd.ntmps42
  go_wp2_with (go_at_call 38; refine (hS.out 0 (by simp) _).mono ?_; rintro e w1 ⟨rfl, hB⟩; have b1 := hidI hB; clear hB)
  clear hc0
  go_loopw [3, 4] (fun s i wr => ∃ (W : World) (k : Nat), W = wr ∧ k ≤ n ∧ 1 ≤ k ∧ i = .int .i64 k ∧ s = .string (accT (decT x) (xs.take (k - 1))) ∧ Hid (Below w.heap.size w W)) (fun _ i _ => n - (intOf i).toNat)
  case atStart => exact ⟨_, 1, rfl, by omega, by omega, rfl, rfl, b1.out⟩
  case round =>
    obtain ⟨W, k, rfl, hk, hk1, rfl, rfl, hbel⟩ := hrel
    clear b1
    by_cases hlt : k < n
    · have hlt' : k < (x :: xs).length := by rw [hLN.out]; exact hlt
      obtain ⟨b', o', e', hc⟩ := hH.out.tail_cell hbel.out hlt'
      cases e'
      have hsn : Hid (accT (decT x) (xs.take k) = accT (decT x) (xs.take (k - 1)) ++ ((⟨#[44]⟩ : ByteArray) ++ decT (x :: xs)[k])) := by
        show _ = _
        have := hNL.out
        obtain ⟨j, rfl⟩ : ∃ j, k = j + 1 := ⟨k - 1, by omega⟩
        rw [List.take_succ_eq_append_getElem (by omega), accT_snoc]; rfl
      have hSk := hidI (hS.out k hlt')
      have hDk := hDz.out k hlt'
      have hAk : (accT (decT x) (xs.take (k - 1))).size ≤ 25000000 := by have := hSz.out (k - 1); have := hNL.out; omega
      generalize (x :: xs)[k] = v at hc hsn hSk hDk
      clear hlt'
      generalize hA : accT (decT x) (xs.take (k - 1)) = A at hsn hAk
      clear hA
      go_wp2_with (go_at_call 38; refine (hSk.out _).mono ?_; rintro e w2 ⟨rfl, hB⟩; have b2 := hidI (hbel.out.trans (hB.mono hbel.out.size)); clear hB)
      go_roundw
      case rel => exact ⟨_, k + 1, rfl, by omega, by omega, by go_num, by rw [Nat.add_sub_cancel, hsn.out], b2.out⟩
      case measure => simp [intOf]; omega
    · have hk' : k - 1 = xs.length := by have := hNL.out; omega
      have hend : Hid (accT (decT x) (xs.take (k - 1)) = textL (x :: xs)) := by
        show _ = _
        rw [List.take_of_length_le (by omega)]; rfl
      clear hk'
      go_wp2
      go_ret
      exact ⟨by rw [hend.out]; rfl, hbel.out⟩
theorem stext_any (a : Option Addr) (cap : Nat) (l : List Int) (hl : l.length ≤ 1048576) (hw : IAll .i64 l) (w : World) (h : IRow .i64 w a l) :
    Calls Tryd.prog 42 #[.slice a l.length cap] w fun e w' => e = .returned (.string (textL l)) ∧ Below w.heap.size w w' := by
  cases l with
  | nil => exact stext_nil a cap w
  | cons x xs => exact stext_cons a cap x xs _ rfl hl hw w h
def listT (l : List Int) : ByteArray := if listB l then textL l else ⟨#[]⟩
theorem slisttext_any (a : Option Addr) (cap : Nat) (l : List Int) (hl : l.length ≤ 1048576) (hw : IAll .i64 l) (w : World) (h : IRow .i64 w a l) :
    Calls Tryd.prog 15 #[.slice a l.length cap] w fun e w' => e = .returned (.tuple #[.string (listT l), .bool (listB l)]) ∧ Below w.heap.size w w' := by
  have hLs := hidI (slist_any a cap l hl w h)
  have hTx := hidI (stext_any a cap l hl hw w h)
  unfold listT
  clear h
  cases hv : listB l
  · have hV := hidI hv
    clear hv
    go_enter Tryd.func15, Tryd.ntmps15
    go_wp2_with (go_at_call 41; refine hLs.out.mono ?_; rintro e w' ⟨rfl, rfl⟩; rw [hV.out])
    go_ret2
    exact ⟨rfl, Below.refl _ _⟩
  · have hV := hidI hv
    clear hv
    go_enter Tryd.func15, Tryd.ntmps15
    go_wp2_with (first | (go_at_call 41; refine hLs.out.mono ?_; rintro e w' ⟨rfl, rfl⟩; rw [hV.out]) | (go_at_call 42; refine hTx.out.mono ?_; rintro e w' ⟨rfl, hB⟩; have b1 := hidI hB; clear hB))
    go_ret2
    exact ⟨rfl, b1.out⟩
end Go.Proofs.YtogliigpoojfoaaDoor
