/-
  Contract: the reference's text of a number in decimal.
-/
import Derived.Test.YtogliigpoojfoaaDoorDc
import Derived.WalkKit
import Derived.Below
namespace Go.Proofs.YtogliigpoojfoaaDoor
open Go.RowKit

theorem hidI {p : Prop} (h : p) : Hid p := h
theorem Tryd.info8 : (Tryd.prog.info? 5).map (fun i => (i.zero, i.size, i.bytes)) = some (some (.int .u8 0), 1, 1) := by kernel_rfl
theorem Tryd.size8 : (Tryd.prog.info? 5).map (·.size) = some 1 := by kernel_rfl
theorem Tryd.zero8 : ((Tryd.prog.info? 5).bind (·.zero)).isSome = true := by kernel_rfl
theorem Tryd.some8 : (Tryd.prog.info? 5).isSome = true := by kernel_rfl
theorem below_two {w W w2 : World} {o : Obj} (h : Below w.heap.size w W) (h2 : Below (W.alloc o).heap.size (W.alloc o) w2) : Below w.heap.size w w2 :=
  (h.alloc h.size o).trans (h2.mono (by
    have := h.size
    show w.heap.size ≤ (W.heap.push o).size
    simp; omega))
theorem new_cell (W : World) (v : Value) (t : TypeId) : (W.alloc (.cells #[v] t)).cell? ⟨W.heap.size, 0, none⟩ = some v := by
  have hs := MapKept.heap_alloc W (.cells #[v] t)
  unfold World.cell?; rw [hs.1]; rfl
theorem new_size (W : World) (o : Obj) : W.heap.size < (W.alloc o).heap.size := by
  show _ < (W.heap.push o).size
  simp
theorem new_row {k : IntKind} {W : World} {a : Option Addr} {l : List Int} (h : IRow k W a l) (o : Obj) : IRow k (W.alloc o) a l := h.below ((Below.refl _ _).alloc (Nat.le_refl _) o)
/-- How many rounds are left, and one where nothing is there yet. -/
def decLeft (o r : Value) : Nat := (match o with | .slice _ n _ => if n = 0 then 1 else 0 | _ => 0) + (intOf r).natAbs
theorem decLeft_start {a a2 : Option Addr} {c c2 k : Nat} {r r2 : Int} (n : Nat) (h : r.natAbs = k) (h2 : r2.natAbs = k / 10) : decLeft (.slice a2 (n + 1) c2) (.int .i64 r2) < decLeft (.slice a 0 c) (.int .i64 r) := by
  have e1 : (intOf (.int .i64 r2)) = r2 := rfl
  have e2 : (intOf (.int .i64 r)) = r := rfl
  unfold decLeft
  rw [e1, e2]
  show (if n + 1 = 0 then 1 else 0) + _ < (if 0 = 0 then 1 else 0) + _
  rw [if_neg (by omega), if_pos rfl]; omega
theorem decLeft_more {a a2 : Option Addr} {c c2 k n m : Nat} {r r2 : Int} (hk : k ≠ 0) (h : r.natAbs = k) (h2 : r2.natAbs = k / 10) : decLeft (.slice a2 (n + 1) c2) (.int .i64 r2) < decLeft (.slice a (m + 1) c) (.int .i64 r) := by
  have e1 : (intOf (.int .i64 r2)) = r2 := rfl
  have e2 : (intOf (.int .i64 r)) = r := rfl
  unfold decLeft
  rw [e1, e2]
  show (if n + 1 = 0 then 1 else 0) + _ < (if m + 1 = 0 then 1 else 0) + _
  rw [if_neg (by omega), if_neg (by omega)]; omega
theorem step_pos {m k : Nat} {L : List Int} (h : DecInv m k L) (hr : L = [] ∨ k ≠ 0) : DecInv m (k / 10) ((48 + (k : Int) % 10) :: L) := by
  have e : (48 + (k : Int) % 10) = (48 : Int) + ((k % 10 : Nat) : Int) := by omega
  rw [e]; exact h.step hr
set_option maxRecDepth 100000 in
set_option maxHeartbeats 1000000 in
theorem sdec_pos (m : Nat) (hm : m ≤ 9223372036854775807) (w : World) :
    Calls Tryd.prog 38 #[.int .i64 m] w fun e w' => e = .returned (.string (strOfNums (digL m))) ∧ Below w.heap.size w w' := by
  obtain ⟨i0, hi, hz0, hz1, hz2⟩ := info_parts Tryd.info8
  have hz2' : i0.bytes ≤ 16 := by rw [hz2]; omega
  have hI := hidI hi
  have hZ0 := hidI hz0
  have hZ1 := hidI hz1
  clear hi hz0 hz1 hz2
  have h20 : Hid (m < 10 ^ 20) := by show m < 10 ^ 20; omega
  have hB0 := fun w => run_build0 (P := Tryd.prog) w Tryd.underlying69 Tryd.some8
  have hB1 := fun w c => run_build1 (P := Tryd.prog) (k := .u8) w Tryd.underlying69 Tryd.size8 Tryd.zero8 c
  go_enter Tryd.func38, Tryd.ntmps38
  go_wp2
  go_loopw [3, 4] (fun o r wr => ∃ (W : World) (a : Option Addr) (L : List Int) (n cap k : Nat), W = wr ∧ o = .slice a n cap ∧ Hid (L.length = n) ∧ r = .int .i64 k ∧ Hid (DecInv m k L) ∧ k ≤ m ∧ Hid (IRow .u8 W a L) ∧ Hid (Below w.heap.size w W)) (fun o r _ => decLeft o r)
  case atStart => exact ⟨_, _, [], _, _, m, rfl, rfl, rfl, rfl, .inl ⟨rfl, rfl⟩, Nat.le_refl _, irow_nil _ _ _, (Below.refl _ _).alloc (Nat.le_refl _) _⟩
  case round =>
    obtain ⟨W, a, L, n, cap, k, rfl, rfl, hn, rfl, hinv, hk, hrow, hbel⟩ := hrel
    have hlen := hinv.out.len h20.out
    rw [hn.out] at hlen
    have hnil : Hid (n = 0 → L = []) := fun h => List.eq_nil_of_length_eq_zero (hn.out.trans h)
    have hcons : Hid (n ≠ 0 → L ≠ []) := fun h c => h (by rw [← hn.out, c]; rfl)
    by_cases hn0 : n = 0
    · have hE := hidI (hnil.out hn0)
      subst hn0
      go_wp2_with (first | (refine wpList_prepend rfl _ _ rfl Tryd.underlying69 hI.out hZ0.out hZ1.out hz2' W.heap.size (48 + (k : Int) % 10) a L cap rfl (by rw [hn.out]; rfl) (new_cell _ _ _) (new_size _ _) (by rw [hn.out]; omega) (new_row hrow.out _) ?_; intro a2 cap2 w2 hr2 hb2; have HR := hidI hr2; have HB := hidI (below_two hbel.out hb2); clear hr2 hb2))
      go_roundw
      case rel => exact ⟨w2, a2, (48 + (k : Int) % 10) :: L, _, cap2, k / 10, rfl, rfl, rfl, by go_num, step_pos hinv.out (.inl hE.out), by omega, HR.out, HB.out⟩
      case measure => exact decLeft_start (k := k) _ (by omega) (by omega)
    · have hE := hidI (hcons.out hn0)
      have t1 : ((n : Int) == 0) = false := beq_eq_false_iff_ne.2 (by omega)
      obtain ⟨n', rfl⟩ : ∃ n', n = n' + 1 := ⟨n - 1, by omega⟩
      by_cases hk0 : k = 0
      · subst hk0
        have hd := hinv.out.done hE.out rfl
        have hT := run_text (P := Tryd.prog) (w := W) (t := 69) (d := 9) Tryd.underlying69 Tryd.underlying5 Tryd.underlying9 a L cap hE.out hrow.out
        rw [hn.out] at hT
        rw [hd] at hT
        clear hd hn0
        go_wp2
        go_ret
        exact ⟨rfl, hbel.out⟩
      · have t2 : ((k : Int) != 0) = true := by simpa using hk0
        go_wp2_with (first | (refine wpList_prepend rfl _ _ rfl Tryd.underlying69 hI.out hZ0.out hZ1.out hz2' W.heap.size (48 + (k : Int) % 10) a L cap rfl (by rw [hn.out]; rfl) (new_cell _ _ _) (new_size _ _) (by rw [hn.out]; omega) (new_row hrow.out _) ?_; intro a2 cap2 w2 hr2 hb2; have HR := hidI hr2; have HB := hidI (below_two hbel.out hb2); clear hr2 hb2))
        go_roundw
        case rel => exact ⟨w2, a2, (48 + (k : Int) % 10) :: L, _, cap2, k / 10, rfl, rfl, rfl, by go_num, step_pos hinv.out (.inr hk0), by omega, HR.out, HB.out⟩
        case measure => exact decLeft_more (k := k) hk0 (by omega) (by omega)
theorem tneg_mod (k : Nat) : (-(k : Int)).tmod 10 = -((k % 10 : Nat) : Int) := by rw [Int.neg_tmod]; rfl
theorem tneg_div (k : Nat) : (-(k : Int)).tdiv 10 = -((k / 10 : Nat) : Int) := by rw [Int.neg_tdiv]; rfl
theorem step_neg {m k : Nat} {L : List Int} {D : Int} (h : DecInv m k L) (hr : L = [] ∨ k ≠ 0) (hD : D = -((k % 10 : Nat) : Int)) : DecInv m (k / 10) ((48 + -D) :: L) := by
  have e : (48 + -D) = (48 : Int) + ((k % 10 : Nat) : Int) := by omega
  rw [e]; exact h.step hr
theorem step_nil {m k : Nat} {L : List Int} (h : DecInv m k L) (hr : L = [] ∨ k ≠ 0) (hD : (0 : Int) = -((k % 10 : Nat) : Int)) : DecInv m (k / 10) ((48 : Int) :: L) := by
  have e : (48 : Int) = (48 : Int) + ((k % 10 : Nat) : Int) := by omega
  rw [e]; exact h.step hr
set_option maxRecDepth 100000 in
set_option maxHeartbeats 2000000 in
theorem sdec_neg (m : Nat) (h1 : 1 ≤ m) (hm : m ≤ 9223372036854775808) (w : World) :
    Calls Tryd.prog 38 #[.int .i64 (-(m : Int))] w fun e w' => e = .returned (.string (strOfNums (45 :: digL m))) ∧ Below w.heap.size w w' := by
  obtain ⟨i0, hi, hz0, hz1, hz2⟩ := info_parts Tryd.info8
  have hz2' : i0.bytes ≤ 16 := by rw [hz2]; omega
  have hI := hidI hi
  have hZ0 := hidI hz0
  have hZ1 := hidI hz1
  clear hi hz0 hz1 hz2
  have h20 : Hid (m < 10 ^ 20) := by show m < 10 ^ 20; omega
  have hB0 := fun w => run_build0 (P := Tryd.prog) w Tryd.underlying69 Tryd.some8
  have hB1 := fun w c => run_build1 (P := Tryd.prog) (k := .u8) w Tryd.underlying69 Tryd.size8 Tryd.zero8 c
  obtain ⟨N, hN⟩ : ∃ N : Int, N = -(m : Int) := ⟨_, rfl⟩
  have hN1 : N < 0 := by omega
  have hN2 : -9223372036854775808 ≤ N := by omega
  rw [← hN]
  have hNN := hidI hN
  have hMM := hidI hm
  clear hN hm h1
  go_enter Tryd.func38, Tryd.ntmps38
  go_wp2
  go_loopw [3, 4] (fun o r wr => ∃ (W : World) (a : Option Addr) (L : List Int) (n cap k : Nat) (R : Int), W = wr ∧ o = .slice a n cap ∧ Hid (L.length = n) ∧ r = .int .i64 R ∧ Hid (R = -(k : Int)) ∧ Hid (DecInv m k L) ∧ Hid (k ≤ m) ∧ Hid (IRow .u8 W a L) ∧ Hid (Below w.heap.size w W)) (fun o r _ => decLeft o r)
  case atStart => exact ⟨_, _, [], _, _, m, N, rfl, rfl, rfl, rfl, hNN.out, .inl ⟨rfl, rfl⟩, Nat.le_refl _, irow_nil _ _ _, (Below.refl _ _).alloc (Nat.le_refl _) _⟩
  case round =>
    obtain ⟨W, a, L, n, cap, k, R, rfl, rfl, hn, rfl, hR, hinv, hk, hrow, hbel⟩ := hrel
    have hlen := hinv.out.len h20.out
    rw [hn.out] at hlen
    have hnil : Hid (n = 0 → L = []) := fun h => List.eq_nil_of_length_eq_zero (hn.out.trans h)
    have hcons : Hid (n ≠ 0 → L ≠ []) := fun h c => h (by rw [← hn.out, c]; rfl)
    have hR1 : R ≤ 0 := by have := hR.out; omega
    have hR2 : -9223372036854775808 ≤ R := by have := hR.out; have := hk.out; have := hMM.out; omega
    obtain ⟨D, hD⟩ : ∃ D : Int, R.tmod 10 = D := ⟨_, rfl⟩
    obtain ⟨V, hV⟩ : ∃ V : Int, R.tdiv 10 = V := ⟨_, rfl⟩
    have hDk : Hid (D = -((k % 10 : Nat) : Int)) := by show D = _; rw [← hD, hR.out]; exact tneg_mod k
    have hVk : Hid (V = -((k / 10 : Nat) : Int)) := by show V = _; rw [← hV, hR.out]; exact tneg_div k
    have hD1 : -9 ≤ D := by have := hDk.out; omega
    have hD2 : D ≤ 0 := by have := hDk.out; omega
    have hV1 : -9223372036854775808 ≤ V := by have := hVk.out; have := hk.out; have := hMM.out; omega
    have hV2 : V ≤ 0 := by have := hVk.out; omega
    have hVw : wrap64 V = V := IntWalk.wrap64_in _ (by omega)
    have go1 : Hid (R.natAbs = k) := by show R.natAbs = k; have := hR.out; omega
    have go2 : Hid (V.natAbs = k / 10) := by show V.natAbs = k / 10; have := hVk.out; omega
    by_cases hn0 : n = 0
    · have hE := hidI (hnil.out hn0)
      subst hn0
      by_cases hd0 : D < 0
      · go_wp2_with (first | (refine wpList_prepend rfl _ _ rfl Tryd.underlying69 hI.out hZ0.out hZ1.out hz2' W.heap.size (48 + -D) a L cap rfl (by rw [hn.out]; rfl) (new_cell _ _ _) (new_size _ _) (by rw [hn.out]; omega) (new_row hrow.out _) ?_; intro a2 cap2 w2 hr2 hb2; have HR := hidI hr2; have HB := hidI (below_two hbel.out hb2); clear hr2 hb2))
        go_roundw
        case rel => exact ⟨w2, a2, (48 + -D) :: L, _, cap2, k / 10, V, rfl, rfl, rfl, rfl, hVk.out, step_neg hinv.out (.inl hE.out) hDk.out, Nat.le_trans (Nat.div_le_self _ _) hk.out, HR.out, HB.out⟩
        case measure => exact decLeft_start (k := k) _ go1.out go2.out
      · have hd1 : D = 0 := by omega
        subst hd1
        go_wp2_with (first | (refine wpList_prepend rfl _ _ rfl Tryd.underlying69 hI.out hZ0.out hZ1.out hz2' W.heap.size (48) a L cap rfl (by rw [hn.out]; rfl) (new_cell _ _ _) (new_size _ _) (by rw [hn.out]; omega) (new_row hrow.out _) ?_; intro a2 cap2 w2 hr2 hb2; have HR := hidI hr2; have HB := hidI (below_two hbel.out hb2); clear hr2 hb2))
        go_roundw
        case rel => exact ⟨w2, a2, (48 : Int) :: L, _, cap2, k / 10, V, rfl, rfl, rfl, rfl, hVk.out, step_nil hinv.out (.inl hE.out) hDk.out, Nat.le_trans (Nat.div_le_self _ _) hk.out, HR.out, HB.out⟩
        case measure => exact decLeft_start (k := k) _ go1.out go2.out
    · have hE := hidI (hcons.out hn0)
      have t1 : ((n : Int) == 0) = false := beq_eq_false_iff_ne.2 (by omega)
      obtain ⟨n', rfl⟩ : ∃ n', n = n' + 1 := ⟨n - 1, by omega⟩
      by_cases hk0 : k = 0
      · subst hk0
        have hd := hidI (hinv.out.done hE.out rfl)
        have hR0 : R = 0 := by have := hR.out; omega
        subst hR0
        clear hn0 hD hV hR1 hR2 hVw
        go_wp2_with (first | (refine wpList_prepend rfl _ _ rfl Tryd.underlying69 hI.out hZ0.out hZ1.out hz2' W.heap.size (45) a L cap rfl (by rw [hn.out]; rfl) (new_cell _ _ _) (new_size _ _) (by rw [hn.out]; omega) (new_row hrow.out _) ?_; intro a2 cap2 w2 hr2 hb2; have HR := hidI hr2; have HB := hidI (below_two hbel.out hb2); clear hr2 hb2; have hT := run_text (P := Tryd.prog) (w := w2) (t := 69) (d := 9) Tryd.underlying69 Tryd.underlying5 Tryd.underlying9 a2 (45 :: L) cap2 (by simp) HR.out; rw [List.length_cons] at hT))
        go_ret
        exact ⟨by rw [hd.out]; rfl, HB.out⟩
      · have t2 : (R != 0) = true := by have := hR.out; simp; omega
        by_cases hd0 : D < 0
        · go_wp2_with (first | (refine wpList_prepend rfl _ _ rfl Tryd.underlying69 hI.out hZ0.out hZ1.out hz2' W.heap.size (48 + -D) a L cap rfl (by rw [hn.out]; rfl) (new_cell _ _ _) (new_size _ _) (by rw [hn.out]; omega) (new_row hrow.out _) ?_; intro a2 cap2 w2 hr2 hb2; have HR := hidI hr2; have HB := hidI (below_two hbel.out hb2); clear hr2 hb2))
          go_roundw
          case rel => exact ⟨w2, a2, (48 + -D) :: L, _, cap2, k / 10, V, rfl, rfl, rfl, rfl, hVk.out, step_neg hinv.out (.inr hk0) hDk.out, Nat.le_trans (Nat.div_le_self _ _) hk.out, HR.out, HB.out⟩
          case measure => exact decLeft_more (k := k) hk0 go1.out go2.out
        · have hd1 : D = 0 := by omega
          subst hd1
          go_wp2_with (first | (refine wpList_prepend rfl _ _ rfl Tryd.underlying69 hI.out hZ0.out hZ1.out hz2' W.heap.size (48) a L cap rfl (by rw [hn.out]; rfl) (new_cell _ _ _) (new_size _ _) (by rw [hn.out]; omega) (new_row hrow.out _) ?_; intro a2 cap2 w2 hr2 hb2; have HR := hidI hr2; have HB := hidI (below_two hbel.out hb2); clear hr2 hb2))
          go_roundw
          case rel => exact ⟨w2, a2, (48 : Int) :: L, _, cap2, k / 10, V, rfl, rfl, rfl, rfl, hVk.out, step_nil hinv.out (.inr hk0) hDk.out, Nat.le_trans (Nat.div_le_self _ _) hk.out, HR.out, HB.out⟩
          case measure => exact decLeft_more (k := k) hk0 go1.out go2.out
end Go.Proofs.YtogliigpoojfoaaDoor
