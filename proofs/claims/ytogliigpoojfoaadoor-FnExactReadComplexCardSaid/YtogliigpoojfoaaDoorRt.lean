/-
  The parts of a text between commas: the walks.
-/
import Derived.Test.YtogliigpoojfoaaDoorRs
import Derived.Test.YtogliigpoojfoaaDoorLx
import Derived.Test.YtogliigpoojfoaaDoorRf
namespace Go.Proofs.YtogliigpoojfoaaDoor
open Go.RowKit

theorem strs_push (P : List ByteArray) (x : ByteArray) : strs P ++ [.string x] = strs (P ++ [x]) := by unfold strs; rw [List.map_append]; rfl
theorem eq44 {b : UInt8} (h : b = 44) : ((b.toNat : Int) == 44) = true := by rw [h]; rfl
theorem ne44 {b : UInt8} (h : b ≠ 44) : ((b.toNat : Int) == 44) = false := by
  rw [beq_eq_false_iff_ne]
  intro e
  apply h
  apply UInt8.toNat_inj.1
  have e2 : (44 : UInt8).toNat = 44 := rfl
  rw [e2]; omega
theorem one_cell (W : World) (s : ByteArray) : ∀ (j : Nat) u, ([.string s] : List Value)[j]? = some u → (W.alloc (.cells #[.string s] 9)).cell? ((⟨W.heap.size, 0, none⟩ : Addr).add j) = some u := by
  intro j u hj
  have hj0 : j = 0 := by
    rcases Nat.lt_or_ge j 1 with c | c
    · omega
    · rw [List.getElem?_eq_none (by simpa using c)] at hj; cases hj
  subst hj0
  simp at hj
  subst hj
  exact new_cell _ _ _
theorem one_flat (s : ByteArray) : ∀ u ∈ ([.string s] : List Value), u.oneCell' = true := by
  intro u hu
  simp at hu
  subst hu; rfl
theorem below_new {w W : World} (h : Below w.heap.size w W) (o : Obj) : w.heap.size ≤ (W.alloc o).heap.size := by
  have h1 := h.size
  have h2 := new_size W o
  omega
set_option maxRecDepth 100000 in
set_option maxHeartbeats 2000000 in
theorem scut_any (s : ByteArray) (hs : s.size ≤ 1048576) (w : World) :
    Calls Tryd.prog 73 #[.string s, .int .u8 44] w fun e w' => ∃ g cap n, (cutT s).length = n ∧ e = .returned (.slice (some ⟨g, 0, none⟩) n cap) ∧ w'.ownsRow w.heap.size 9 1 (.slice (some ⟨g, 0, none⟩) n cap) n (strs (cutT s)) ∧ Below w.heap.size w w' := by
  obtain ⟨i0, hi, hz0, hz1, hz2⟩ := info_parts Tryd.infoS
  have hI := hidI hi
  have hZ0 := hidI hz0
  have hZ1 := hidI hz1
  have hZ2 := hidI hz2
  clear hi hz0 hz1 hz2
  have hB0 := fun w => run_build0 (P := Tryd.prog) w Tryd.underlying52 Tryd.someS
  have hB1 := fun w c => run_buildS (P := Tryd.prog) w Tryd.underlying52 Tryd.sizeS Tryd.zeroS c
  go_enter Tryd.func73, Tryd.ntmps73
  go_wp2
  go_loopw [5, 6, 7] (fun v f i wr => ∃ (W : World) (P : List ByteArray) (n f' k g vc : Nat), W = wr ∧ v = .slice (some ⟨g, 0, none⟩) n vc ∧ f = .int .i64 f' ∧ i = .int .i64 k ∧ Hid (P.length = n) ∧ Hid (W.ownsRow w.heap.size 9 1 (.slice (some ⟨g, 0, none⟩) n vc) n (strs P)) ∧ Hid (CutInv s P f' k) ∧ n ≤ k ∧ k ≤ s.size + 1 ∧ Hid (Below w.heap.size w W)) (fun _ _ i _ => s.size + 1 - (intOf i).toNat)
  case atStart => exact ⟨_, [], 0, 0, 0, _, _, rfl, rfl, rfl, rfl, rfl, owns_none w, CutInv.start s, by omega, by omega, (Below.refl _ _).alloc (Nat.le_refl _) _⟩
  case round =>
    obtain ⟨W, P, n, f, k, g, vc, rfl, rfl, rfl, rfl, hPn, hown, hinv, hnk, hk, hbel⟩ := hrel
    by_cases hlt : k < s.size
    · have hf := hinv.out.from (by omega)
      by_cases hc : s[k] = 44
      · have t0 := eq44 hc
        have hN := hidI (hinv.out.comma hlt hc)
        clear hc
        go_wp2_with (first | (refine wpList_append_own _ rfl _ _ 52 rfl w.heap.size 9 i0 (.string ⟨#[]⟩) 1 16 Tryd.underlying52 hI.out hZ0.out hZ1.out hZ2.out rfl (by omega) _ n _ rfl (hown.out.alloc _) ⟨W.heap.size, 0, none⟩ 1 1 [.string (s.extract f k)] rfl rfl (one_cell _ _) (one_flat _) ?c3 ?c4 (below_new hbel.out _) ?c6))
        case c3 => unfold maxLen; omega
        case c4 => omega
        intro v' w3 h2 h3 _
        rw [strs_push] at h2
        have b3 := hidI ((hbel.out.alloc hbel.out.size (.cells #[.string (s.extract f k)] 9)).grown h3 (below_new hbel.out _) (owns_block hown.out))
        obtain ⟨g', vc', rfl, -, -, -⟩ := owns_shape h2 (Nat.succ_pos n)
        have o3 := hidI h2
        clear h2 h3
        go_wp2
        go_roundw
        case rel => exact ⟨w3, P ++ [s.extract f k], n + 1, k + 1, k + 1, g', vc', rfl, rfl, by go_num, by go_num, by show _ = _; rw [List.length_append, hPn.out]; rfl, o3.out, hN.out, by omega, by omega, b3.out⟩
        case measure => simp [intOf]; omega
      · have t0 := ne44 hc
        have hN := hidI (hinv.out.other hlt hc)
        clear hc
        go_wp2
        go_roundw
        case rel => exact ⟨W, P, n, f, k + 1, g, vc, rfl, rfl, rfl, by go_num, hPn.out, hown.out, hN.out, by omega, by omega, hbel.out⟩
        case measure => simp [intOf]; omega
    · by_cases he : k = s.size
      · subst he
        have hf := hinv.out.from (by omega)
        have hN := hidI hinv.out.last
        go_wp2_with (first | (refine wpList_append_own _ rfl _ _ 52 rfl w.heap.size 9 i0 (.string ⟨#[]⟩) 1 16 Tryd.underlying52 hI.out hZ0.out hZ1.out hZ2.out rfl (by omega) _ n _ rfl (hown.out.alloc _) ⟨W.heap.size, 0, none⟩ 1 1 [.string (s.extract f s.size)] rfl rfl (one_cell _ _) (one_flat _) ?d3 ?d4 (below_new hbel.out _) ?d6))
        case d3 => unfold maxLen; omega
        case d4 => omega
        intro v' w3 h2 h3 _
        rw [strs_push] at h2
        have b3 := hidI ((hbel.out.alloc hbel.out.size (.cells #[.string (s.extract f s.size)] 9)).grown h3 (below_new hbel.out _) (owns_block hown.out))
        obtain ⟨g', vc', rfl, -, -, -⟩ := owns_shape h2 (Nat.succ_pos n)
        have o3 := hidI h2
        clear h2 h3
        go_wp2
        go_roundw
        case rel => exact ⟨w3, P ++ [s.extract f s.size], n + 1, s.size + 1, s.size + 1, g', vc', rfl, rfl, by go_num, by go_num, by show _ = _; rw [List.length_append, hPn.out]; rfl, o3.out, hN.out, by omega, by omega, b3.out⟩
        case measure => simp [intOf]
      · have hk' : k = s.size + 1 := by omega
        subst hk'
        have hP := hinv.out.done
        subst hP
        go_wp2
        go_ret
        exact ⟨g, vc, n, hPn.out, rfl, hown.out, hbel.out⟩
set_option maxRecDepth 100000 in
theorem iparts_none (s : ByteArray) (h : s = noneT) (w : World) :
    Calls Tryd.prog 52 #[.string s] w fun e w' => e = .returned (.slice none 0 0) ∧ w = w' := by
  have t : (s.toList == [110, 111, 110, 101]) = true := by have := same_text h; rwa [show noneT.toList = [110, 111, 110, 101] from ByteArray.toList_mk _] at this
  clear h
  go_enter Tryd.func52, Tryd.ntmps52
  go_wp2
  go_ret
  exact ⟨rfl, rfl⟩
set_option maxRecDepth 100000 in
theorem iparts_some (s : ByteArray) (h : s ≠ noneT) (hs : s.size ≤ 1048576) (w : World) (m : Int) (hm : w.cell? ⟨8, 0, none⟩ = some (.int .i64 m)) :
    Calls Tryd.prog 52 #[.string s] w fun e w' => ∃ n, (cutT s).length = n ∧ e = .returned (.slice (some ⟨w.heap.size, 0, none⟩) n n) ∧ w' = w.alloc (.cells (strs (cutT s)).toArray 9) := by
  have t : (s.toList == [110, 111, 110, 101]) = false := by have := diff_text h; rwa [show noneT.toList = [110, 111, 110, 101] from ByteArray.toList_mk _] at this
  clear h
  have hc := Tryd.strings_Split s ⟨#[44]⟩ m w (by omega) hm (by decide)
  rw [splitB_cut] at hc
  have hn := cutT_count s
  have hC := hidI hc
  clear hc
  generalize Lib.countB s ⟨#[44]⟩ + 1 = n at hn hC
  go_enter Tryd.func52, Tryd.ntmps52
  go_wp2_with (go_at_call 74; refine hC.out.mono ?_; rintro e w' ⟨rfl, hw'⟩)
  go_ret
  exact ⟨n, hn, rfl, rfl⟩
end Go.Proofs.YtogliigpoojfoaaDoor
