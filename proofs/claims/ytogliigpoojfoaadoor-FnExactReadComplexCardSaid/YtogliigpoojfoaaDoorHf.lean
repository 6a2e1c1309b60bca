/-
  The library's text of a number at base 16: its walk.
-/
import Derived.Test.YtogliigpoojfoaaDoorHx
import Derived.Lib.LaidTab
namespace Go.Proofs.YtogliigpoojfoaaDoor
open Go.RowKit Fl

theorem pow2_16 (w : World) :
    Calls Tryd.prog 104 #[.int .i64 16] w fun e w' => e = .returned (.bool true) ∧ w = w' := by
  go_enter Tryd.func104, Tryd.ntmps104
  go_wp2
  go_ret
  exact ⟨rfl, rfl⟩
theorem tz_16 (w : World) (h : w.cell? ⟨7, 15, none⟩ = some (.int .u8 4)) :
    Calls Tryd.prog 105 #[.int .u64 16] w fun e w' => e = .returned (.int .i64 4) ∧ w = w' := by
  have hV : IntKind.u64.wrap (bits BinOp.and IntKind.u64 16 (IntKind.u64.wrap (-16)) * 285870213051353865) = 4573923408821661840 := by kernel_rfl
  go_enter Tryd.func105, Tryd.ntmps105
  go_wp2
  go_ret
  exact ⟨rfl, rfl⟩
theorem cell_new {w : World} {p : Addr} {v : Value} (h : w.cell? p = some v) (o : Obj) : (w.alloc o).cell? p = some v := by
  rw [((Below.refl _ w).alloc (Nat.le_refl _) o).cell (p := p) (World.block_lt_of_cell? w _ h)]; exact h
theorem digit_char36 (d : Nat) (h : d < 16) : ∀ hb : d < (⟨#[48, 49, 50, 51, 52, 53, 54, 55, 56, 57, 97, 98, 99, 100, 101, 102, 103, 104, 105, 106, 107, 108, 109, 110, 111, 112, 113, 114, 115, 116, 117, 118, 119, 120, 121, 122]⟩ : ByteArray).size, (⟨#[48, 49, 50, 51, 52, 53, 54, 55, 56, 57, 97, 98, 99, 100, 101, 102, 103, 104, 105, 106, 107, 108, 109, 110, 111, 112, 113, 114, 115, 116, 117, 118, 119, 120, 121, 122]⟩ : ByteArray)[d] = hexC d := by
  have : d = 0 ∨ d = 1 ∨ d = 2 ∨ d = 3 ∨ d = 4 ∨ d = 5 ∨ d = 6 ∨ d = 7 ∨ d = 8 ∨ d = 9 ∨ d = 10 ∨ d = 11 ∨ d = 12 ∨ d = 13 ∨ d = 14 ∨ d = 15 := by omega
  rcases this with rfl | rfl | rfl | rfl | rfl | rfl | rfl | rfl | rfl | rfl | rfl | rfl | rfl | rfl | rfl | rfl <;> intro _ <;> rfl
/-- What stands at the loop's head: j digits are there; the array's first cells are what they were. -/
structure HexInv (w W : World) (m j u : Nat) : Prop where
  below : Below w.heap.size w W
  size : w.heap.size < W.heap.size
  val : u = m / 16 ^ j
  cell : ∀ k, k < 65 → ∃ v, W.cell? ⟨w.heap.size, k, none⟩ = some v
  free : ∀ k, W.frozen? ⟨w.heap.size, k, none⟩ = false
  dig : ∀ k, k < j → W.cell? ⟨w.heap.size, 64 - k, none⟩ = some (.int .u8 ((hexC (m / 16 ^ k % 16)).toNat : Int))
theorem HexInv.start (w : World) (m : Nat) : HexInv w (w.alloc (.cells Tryd.zeroCells121 121)) m 0 m := by
  refine ⟨(Below.refl _ _).alloc (Nat.le_refl _) _, new_size w _, by simp, fun k hk => ?_, fun k => World.frozen?_alloc_new _ _ _ _, fun k hk => absurd hk (Nat.not_lt_zero _)⟩
  have hs := MapKept.heap_alloc w (.cells Tryd.zeroCells121 121)
  unfold World.cell?
  rw [hs.1]
  have : k < (Tryd.zeroCells121).size := by
    have e : (Tryd.zeroCells121).size = 65 := by kernel_rfl
    omega
  exact ⟨_, Array.getElem?_eq_getElem this⟩
theorem HexInv.step {w W : World} {m j u : Nat} (h : HexInv w W m j u) (hj : j < 65) (x : UInt8) (hx : x = hexC (u % 16)) : HexInv w (W.setCell ⟨w.heap.size, 65 - j - 1, none⟩ (.int .u8 (x.toNat : Int))) m (j + 1) (u / 16) := by
  have hb := h.below.setCell (p := ⟨w.heap.size, 65 - j - 1, none⟩) (Nat.le_refl _) (.int .u8 (x.toNat : Int))
  obtain ⟨old, hold⟩ := h.cell (65 - j - 1) (by omega)
  refine ⟨hb, ?_, ?_, fun k hk => ?_, fun k => ?_, fun k hk => ?_⟩
  · rw [World.size_setCell]; exact h.size
  · rw [h.val, Nat.div_div_eq_div_mul, Nat.pow_succ]
  · by_cases c : k = 65 - j - 1
    · subst c; exact ⟨_, World.cell?_setCell_same _ _ _ hold⟩
    · rw [World.cell?_setCell_other _ _ _ _ (fun e => by have h9 : 65 - j - 1 = k := congrArg Addr.off e; exact c h9.symm)]; exact h.cell k hk
  · rw [World.frozen?_setCell]; exact h.free k
  · by_cases c : k = j
    · subst c
      have e9 : 64 - k = 65 - k - 1 := by omega
      rw [e9, World.cell?_setCell_same _ _ _ hold, hx, h.val]
    · rw [World.cell?_setCell_other _ _ _ _ (fun e => by have h9 : 65 - j - 1 = 64 - k := congrArg Addr.off e; omega)]; exact h.dig k (by omega)
theorem hex_more {m j u : Nat} (hv : u = m / 16 ^ j) (hu : 16 ≤ u) (hm : m < 4294967296) : j + 1 < 8 := by
  rcases Nat.lt_or_ge (j + 1) 8 with c | c
  · exact c
  · exfalso
    have h1 : 16 ^ 7 ≤ 16 ^ j := Nat.pow_le_pow_right (by decide) (by omega)
    have h2 : m / 16 ^ j ≤ m / 16 ^ 7 := Nat.div_le_div_left h1 (by decide)
    have h3 : m / 16 ^ 7 < 16 := by
      have e : (16 : Nat) ^ 7 = 268435456 := by decide
      rw [e]; omega
    omega
theorem hex_end {m j u : Nat} (hv : u = m / 16 ^ j) (hu : u < 16) : m < 16 ^ (j + 1) := by
  rw [Nat.pow_succ, Nat.mul_comm]
  rw [hv] at hu
  exact (Nat.div_lt_iff_lt_mul (Nat.pow_pos (by decide))).1 hu
theorem lowH_get : ∀ (n m i : Nat) (h : i < n), (lowH n m)[i]'(by rw [lowH_len]; exact h) = hexC (m / 16 ^ (n - 1 - i) % 16) := by
  intro n
  induction n with
  | zero => intro m i h; omega
  | succ n ih =>
    intro m i h
    cases i with
    | zero => rfl
    | succ i =>
      have := ih m i (by omega)
      rw [show n + 1 - 1 - (i + 1) = n - 1 - i by omega, ← this]; rfl
theorem HexInv.text {w W : World} {m n u : Nat} (h : HexInv w W m n u) (hn : n ≤ 65) : ∀ i (hi : i < (lowH n m).length), W.cell? ((⟨w.heap.size, 65 - n, none⟩ : Addr).add i) = some (.int .u8 ((lowH n m)[i].toNat : Int)) := by
  intro i hi
  have hi' : i < n := by rw [lowH_len] at hi; exact hi
  have hadd : (⟨w.heap.size, 65 - n, none⟩ : Addr).add i = ⟨w.heap.size, 64 - (n - 1 - i), none⟩ := by
    unfold Addr.add; split <;> simp_all; omega
  rw [hadd, h.dig _ (by omega), lowH_get n m i hi']
set_option maxRecDepth 100000 in
set_option maxHeartbeats 4000000 in
theorem fbits_any (m : Nat) (hm : m < 4294967296) (w : World) (h : w.cell? ⟨7, 15, none⟩ = some (.int .u8 4)) :
    Calls Tryd.prog 83 #[.slice none 0 0, .int .u64 m, .int .i64 16, .bool false, .bool false] w fun e w' => ∃ n, 1 ≤ n ∧ n ≤ 8 ∧ m < 16 ^ n ∧ e = .returned (.tuple #[.slice none 0 0, .string ⟨(lowH n m).toArray⟩]) ∧ Below w.heap.size w w' := by
  have hTz := hidI (fun w h => tz_16 w h)
  have hT := hidI h
  have hSt := hidI (HexInv.start w m)
  clear h
  go_enter Tryd.func83, Tryd.ntmps83
  go_wp2_with (first | (go_at_call 104; refine (pow2_16 _).mono ?_; rintro e w' ⟨rfl, rfl⟩) | (go_at_call 105; refine (hTz.out _ (cell_new hT.out _)).mono ?_; rintro e w' ⟨rfl, rfl⟩))
  go_loopw [1, 13] (fun vu vi wr => ∃ (W : World) (j u : Nat), W = wr ∧ vu = .int .u64 u ∧ vi = .int .i64 (65 - (j : Int)) ∧ j < 8 ∧ u < 4294967296 ∧ Hid (HexInv w W m j u) ∧ Hid (j = 0 ∨ 1 ≤ u)) (fun vu _ _ => (intOf vu).toNat)
  case atStart => exact ⟨_, 0, m, rfl, rfl, rfl, by omega, hm, hSt.out, .inl rfl⟩
  case round =>
    obtain ⟨W, j, u, rfl, rfl, rfl, hj, hu, hinv, hpos⟩ := hrel
    have hcell := hinv.out.cell (65 - j - 1) (by omega)
    have hfree := hinv.out.free (65 - j - 1)
    obtain ⟨old, hcell⟩ := hcell
    by_cases hge : 16 ≤ u
    · have hand := u64_and_nat u 15 (by omega) (by decide)
      rw [Nat.and_two_pow_sub_one_eq_mod u 4] at hand
      have hand' : bits BinOp.and IntKind.u64 (u : Int) 15 = ((u % 16 : Nat) : Int) := hand
      clear hand
      have hd : u % 16 < 16 := Nat.mod_lt _ (by decide)
      have hnext := hidI (fun x hx => hinv.out.step (by omega) x hx)
      generalize hq : u % 16 = d at hand' hd hnext
      have hch := hidI (digit_char36 d hd)
      have hnx := hidI (hnext.out _ (hch.out (by show d < 36; omega)))
      have hj1 := hex_more hinv.out.val hge hm
      go_wp2
      go_roundw
      case rel => exact ⟨_, j + 1, u / 16, rfl, by go_num, by go_num, hj1, by omega, hnx.out, .inr (by omega)⟩
      case measure => simp [intOf]; omega
    · have hd : u < 16 := by omega
      have hch := hidI (digit_char36 u hd)
      have hmod : u % 16 = u := Nat.mod_eq_of_lt hd
      have hend := hidI (hex_end hinv.out.val hd)
      have hnx := hidI (hinv.out.step (by omega) _ ((hch.out (by show u < 36; omega)).trans (by rw [hmod])))
      have hal : Tryd.prog.arrayLen 121 = 65 := by kernel_rfl
      have hsl : ∀ W, (Instr.sliceAt 121 (.pointer (some ⟨w.heap.size, 0, none⟩)) (some (.int .i64 (65 - (j : Int) - 1))) none none).run Tryd.prog W = .ok (.slice (some ⟨w.heap.size, 64 - j, none⟩) (j + 1) (j + 1)) W := fun W => by
        rw [run_sliceAt_array_l W 121 ⟨w.heap.size, 0, none⟩ (by kernel_rfl) .i64 (65 - (j : Int) - 1) (by omega) (by rw [hal]; omega)]
        go_simp
        rw [if_neg (by omega)]
        exact ⟨by congr 1; omega, by omega⟩
      have hcv := run_convert_bytes_back (P := Tryd.prog) _ 69 9 5 ⟨w.heap.size, 65 - (j + 1), none⟩ (j + 1) (lowH (j + 1) m) Tryd.underlying69 Tryd.underlying5 Tryd.underlying9 (hnx.out.text (by omega))
      rw [lowH_len, show 65 - (j + 1) = 64 - j by omega] at hcv
      clear hal hmod
      go_wp2
      go_ret2
      exact ⟨j + 1, by omega, by omega, hend.out, rfl, hnx.out.below⟩
theorem ifmt_any (m : Nat) (hm : m < 4294967296) (w : World) (h : w.cell? ⟨7, 15, none⟩ = some (.int .u8 4)) :
    Calls Tryd.prog 57 #[.int .i64 m, .int .i64 16] w fun e w' => ∃ n, 1 ≤ n ∧ n ≤ 8 ∧ m < 16 ^ n ∧ e = .returned (.string ⟨(lowH n m).toArray⟩) ∧ Below w.heap.size w w' := by
  have hF := hidI (fbits_any m hm w h)
  clear h
  go_enter Tryd.func57, Tryd.ntmps57
  go_wp2_with (first | (go_at_call 83; refine hF.out.mono ?_; rintro e w' ⟨n, h1, h2, h3, rfl, hB⟩; have b1 := hidI hB; have hn := hidI h3; clear hB h3))
  go_ret
  exact ⟨n, h1, h2, hn.out, rfl, b1.out⟩
theorem fmt_any (m : Nat) (hm : m < 4294967296) (w : World) (h : w.cell? ⟨7, 15, none⟩ = some (.int .u8 4)) :
    Calls Tryd.prog 39 #[.int .i64 m, .int .i64 16] w fun e w' => ∃ n, 1 ≤ n ∧ n ≤ 8 ∧ m < 16 ^ n ∧ e = .returned (.string ⟨(lowH n m).toArray⟩) ∧ Below w.heap.size w w' := by
  have hF := hidI (ifmt_any m hm w h)
  clear h
  go_enter Tryd.func39, Tryd.ntmps39
  go_wp2_with (first | (go_at_call 57; refine hF.out.mono ?_; rintro e w' ⟨n, h1, h2, h3, rfl, hB⟩; have b1 := hidI hB; have hn := hidI h3; clear hB h3))
  go_ret
  exact ⟨n, h1, h2, hn.out, rfl, b1.out⟩
end Go.Proofs.YtogliigpoojfoaaDoor
