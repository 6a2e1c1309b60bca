/-
  Numbers read from texts: the walks.
-/
import Derived.Test.YtogliigpoojfoaaDoorRp
import Derived.Test.YtogliigpoojfoaaDoorNa
import Derived.Test.YtogliigpoojfoaaDoorLw
namespace Go.Proofs.YtogliigpoojfoaaDoor
open Go.RowKit

theorem ne45 {b : UInt8} (h : b ≠ 45) : ((b.toNat : Int) == 45) = false := by
  rw [beq_eq_false_iff_ne]
  intro e
  apply h
  apply UInt8.toNat_inj.1
  have e2 : (45 : UInt8).toNat = 45 := rfl
  rw [e2]; omega
theorem same_text {a b : ByteArray} (h : a = b) : (a.toList == b.toList) = true := by rw [h]; exact beq_self_eq_true _
theorem diff_text {a b : ByteArray} (h : a ≠ b) : (a.toList == b.toList) = false := by
  rw [beq_eq_false_iff_ne]
  intro e
  apply h
  rw [ByteArray.toList_eq, ByteArray.toList_eq] at e
  exact ByteArray.ext (Array.toList_inj.1 e)
theorem digN_take {s : ByteArray} {k : Nat} (hk : k < s.size) : digN 0 (s.data.toList.take (k + 1)) = stepN (digN 0 (s.data.toList.take k)) s[k] := by
  rw [take_snoc' s k hk, digN_snoc]
theorem digN_bd {s : ByteArray} (h : s.size ≤ 17) (k : Nat) : digN 0 (s.data.toList.take k) < 100000000000000000 := by
  have h1 := digN_lt (s.data.toList.take k) 0
  have h2 : (s.data.toList.take k).length ≤ 17 := by
    rw [List.length_take, len_list]; omega
  have h3 := Nat.pow_le_pow_right (show 0 < 10 by decide) h2
  omega
theorem specV_neg {s : ByteArray} {k : Nat} (hk : s.size ≤ k) (h0 : 0 < s.size) (h : s[0] = 45) : specV s.data.toList = -(digN 0 (s.data.toList.take k) : Int) := by
  rw [List.take_of_length_le (by rw [len_list]; exact hk)]
  unfold specV
  rw [if_pos]
  rw [List.head?_eq_getElem?, List.getElem?_eq_getElem (by rw [len_list]; exact h0)]
  exact congrArg some h
theorem specV_pos {s : ByteArray} {k : Nat} (hk : s.size ≤ k) (h0 : 0 < s.size) (h : s[0] ≠ 45) : specV s.data.toList = (digN 0 (s.data.toList.take k) : Int) := by
  rw [List.take_of_length_le (by rw [len_list]; exact hk)]
  unfold specV
  rw [if_neg]
  rw [List.head?_eq_getElem?, List.getElem?_eq_getElem (by rw [len_list]; exact h0)]
  intro c
  injection c with c
  exact h c
theorem sval_out (s : ByteArray) (h : ¬ (1 ≤ s.size ∧ s.size ≤ 17)) (w : World) :
    Calls Tryd.prog 49 #[.string s] w fun e w' => e = .returned (.tuple #[.int .i64 (readN s), .bool (readB s)]) ∧ Below w.heap.size w w' := by
  have hB := readB_len h
  rw [readN_no hB, hB]
  clear hB
  by_cases h1 : 1 ≤ s.size
  · have h2 : 17 < s.size := by omega
    clear h
    go_enter Tryd.func49, Tryd.ntmps49
    go_wp2
    go_ret2
    exact ⟨rfl, Below.refl _ _⟩
  · have h2 : s.size < 1 := by omega
    clear h h1
    go_enter Tryd.func49, Tryd.ntmps49
    go_wp2
    go_ret2
    exact ⟨rfl, Below.refl _ _⟩
/-- What the rest of the function needs to know of a number V that was read. -/
theorem sval_rest (s : ByteArray) (V : Int) (h : specV s.data.toList = V) : (inV V = true ∧ decT V = s ∧ readB s = true ∧ readN s = V) ∨ (inV V = true ∧ decT V ≠ s ∧ readB s = false ∧ readN s = 0) ∨ (inV V = false ∧ readB s = false ∧ readN s = 0) := by
  subst h
  cases h1 : inV (specV s.data.toList)
  · have hb := readB_spec (s := s) (by rw [h1]; simp)
    exact .inr (.inr ⟨rfl, hb, readN_no hb⟩)
  · by_cases h2 : decT (specV s.data.toList) = s
    · have := readB_of h1 h2
      exact .inl ⟨rfl, h2, this.1, this.2⟩
    · have hb := readB_spec (s := s) (fun c => h2 c.2)
      exact .inr (.inl ⟨rfl, h2, hb, readN_no hb⟩)
set_option maxHeartbeats 2000000 in
theorem sval_in (s : ByteArray) (h1 : 1 ≤ s.size) (h2 : s.size ≤ 17) (w : World) :
    Calls Tryd.prog 49 #[.string s] w fun e w' => e = .returned (.tuple #[.int .i64 (readN s), .bool (readB s)]) ∧ Below w.heap.size w w' := by
  have hbd := hidI (fun k => digN_bd h2 k)
  have hR := hidI (sval_rest s)
  go_enter Tryd.func49, Tryd.ntmps49
  go_wp2
  go_loop [4, 5] (fun v i => ∃ k : Nat, k ≤ s.size ∧ i = .int .i64 k ∧ v = .int .i64 (digN 0 (s.data.toList.take k))) (fun _ i => s.size - (intOf i).toNat)
  case atStart => exact ⟨0, Nat.zero_le _, rfl, rfl⟩
  case round =>
    obtain ⟨k, hk, rfl, rfl⟩ := hrel
    have hN := hbd.out k
    by_cases hlt : k < s.size
    · have hS := hidI (digN_take hlt)
      generalize digN 0 (s.data.toList.take k) = N at hN hS
      by_cases c1 : (s[k].toNat : Int) < 48
      · have hE : Hid (digN 0 (s.data.toList.take (k + 1)) = N) := by
          show _ = _
          rw [hS.out]; unfold stepN; rw [if_neg (by omega)]
        go_wp2
        go_round
        case rel => exact ⟨k + 1, by omega, by go_num, by rw [hE.out]⟩
        case measure => simp [intOf]; omega
      · have c1' : 48 ≤ (s[k].toNat : Int) := by omega
        clear c1
        by_cases c2 : 57 < (s[k].toNat : Int)
        · have hE : Hid (digN 0 (s.data.toList.take (k + 1)) = N) := by
            show _ = _
            rw [hS.out]; unfold stepN; rw [if_neg (by omega)]
          go_wp2
          go_round
          case rel => exact ⟨k + 1, by omega, by go_num, by rw [hE.out]⟩
          case measure => simp [intOf]; omega
        · have c2' : (s[k].toNat : Int) ≤ 57 := by omega
          have hE : Hid (((digN 0 (s.data.toList.take (k + 1)) : Nat) : Int) = 10 * (N : Int) + ((s[k].toNat : Int) - 48)) := by
            show _ = _
            rw [hS.out]; unfold stepN; rw [if_pos (by omega)]; omega
          clear c2
          go_wp2
          go_round
          case rel => exact ⟨k + 1, by omega, by go_num, by rw [hE.out]⟩
          case measure => simp [intOf]; omega
    · have hk' : s.size ≤ k := by omega
      by_cases c : s[0] = 45
      · have hV := specV_neg hk' h1 c
        generalize digN 0 (s.data.toList.take k) = N at hN hV
        have hR' := hR.out _ hV
        have hIn := hidI (fun w => sin_any (-(N : Int)) w)
        have hDc := hidI (fun w => sdec_any (-(N : Int)) (by omega) (by omega) w)
        have t0 : ((s[0].toNat : Int) == 45) = true := by rw [c]; rfl
        clear hV c
        rcases hR' with ⟨r1, r2, r3, r4⟩ | ⟨r1, r2, r3, r4⟩ | ⟨r1, r3, r4⟩
        · have q1 := hidI r1
          have q3 := hidI r3
          have q4 := hidI r4
          have t1 := same_text r2
          clear r1 r2 r3 r4
          go_wp2_with (first | (go_at_call 65; refine (hIn.out _).mono ?_; rintro e w' ⟨rfl, rfl⟩; rw [q1.out]) | (go_at_call 38; refine (hDc.out _).mono ?_; rintro e w' ⟨rfl, hB⟩; have b1 := hidI hB; clear hB))
          go_ret2
          exact ⟨by rw [q3.out, q4.out]; rfl, b1.out⟩
        · have q1 := hidI r1
          have q3 := hidI r3
          have q4 := hidI r4
          have t1 := diff_text r2
          clear r1 r2 r3 r4
          go_wp2_with (first | (go_at_call 65; refine (hIn.out _).mono ?_; rintro e w' ⟨rfl, rfl⟩; rw [q1.out]) | (go_at_call 38; refine (hDc.out _).mono ?_; rintro e w' ⟨rfl, hB⟩; have b1 := hidI hB; clear hB))
          go_ret2
          exact ⟨by rw [q3.out, q4.out]; rfl, b1.out⟩
        · have q1 := hidI r1
          have q3 := hidI r3
          have q4 := hidI r4
          clear r1 r3 r4
          go_wp2_with (first | (go_at_call 65; refine (hIn.out _).mono ?_; rintro e w' ⟨rfl, rfl⟩; rw [q1.out]) | (go_at_call 38; refine (hDc.out _).mono ?_; rintro e w' ⟨rfl, hB⟩; have b1 := hidI hB; clear hB))
          go_ret2
          exact ⟨by rw [q3.out, q4.out]; rfl, Below.refl _ _⟩
      · have hV := specV_pos hk' h1 c
        generalize digN 0 (s.data.toList.take k) = N at hN hV
        have hR' := hR.out _ hV
        have hIn := hidI (fun w => sin_any ((N : Int)) w)
        have hDc := hidI (fun w => sdec_any ((N : Int)) (by omega) (by omega) w)
        have t0 : ((s[0].toNat : Int) == 45) = false := ne45 c
        clear hV c
        rcases hR' with ⟨r1, r2, r3, r4⟩ | ⟨r1, r2, r3, r4⟩ | ⟨r1, r3, r4⟩
        · have q1 := hidI r1
          have q3 := hidI r3
          have q4 := hidI r4
          have t1 := same_text r2
          clear r1 r2 r3 r4
          go_wp2_with (first | (go_at_call 65; refine (hIn.out _).mono ?_; rintro e w' ⟨rfl, rfl⟩; rw [q1.out]) | (go_at_call 38; refine (hDc.out _).mono ?_; rintro e w' ⟨rfl, hB⟩; have b1 := hidI hB; clear hB))
          go_ret2
          exact ⟨by rw [q3.out, q4.out]; rfl, b1.out⟩
        · have q1 := hidI r1
          have q3 := hidI r3
          have q4 := hidI r4
          have t1 := diff_text r2
          clear r1 r2 r3 r4
          go_wp2_with (first | (go_at_call 65; refine (hIn.out _).mono ?_; rintro e w' ⟨rfl, rfl⟩; rw [q1.out]) | (go_at_call 38; refine (hDc.out _).mono ?_; rintro e w' ⟨rfl, hB⟩; have b1 := hidI hB; clear hB))
          go_ret2
          exact ⟨by rw [q3.out, q4.out]; rfl, b1.out⟩
        · have q1 := hidI r1
          have q3 := hidI r3
          have q4 := hidI r4
          clear r1 r3 r4
          go_wp2_with (first | (go_at_call 65; refine (hIn.out _).mono ?_; rintro e w' ⟨rfl, rfl⟩; rw [q1.out]) | (go_at_call 38; refine (hDc.out _).mono ?_; rintro e w' ⟨rfl, hB⟩; have b1 := hidI hB; clear hB))
          go_ret2
          exact ⟨by rw [q3.out, q4.out]; rfl, Below.refl _ _⟩
theorem sval_any (s : ByteArray) (w : World) :
    Calls Tryd.prog 49 #[.string s] w fun e w' => e = .returned (.tuple #[.int .i64 (readN s), .bool (readB s)]) ∧ Below w.heap.size w w' := by
  by_cases h : 1 ≤ s.size ∧ s.size ≤ 17
  · exact sval_in s h.1 h.2 w
  · exact sval_out s h w
theorem sread_any (s : ByteArray) (w : World) :
    Calls Tryd.prog 23 #[.string s] w fun e w' => e = .returned (.tuple #[.int .i64 (readN s), .bool (readB s)]) ∧ Below w.heap.size w w' := by
  have hV := hidI (fun w => sval_any s w)
  go_enter Tryd.func23, Tryd.ntmps23
  go_wp2_with (go_at_call 49; refine (hV.out _).mono ?_; rintro e w' ⟨rfl, hB⟩; have b1 := hidI hB; clear hB)
  go_ret2
  exact ⟨rfl, b1.out⟩
end Go.Proofs.YtogliigpoojfoaaDoor
