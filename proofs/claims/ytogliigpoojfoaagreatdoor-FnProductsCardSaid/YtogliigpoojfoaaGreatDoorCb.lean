/-
  Texts of lists of complex numbers: what the program makes of a list, and that it is read back.
-/
import Derived.Test.YtogliigpoojfoaaGreatDoorMd
import Derived.Test.YtogliigpoojfoaaGreatDoorK8
import Derived.Test.YtogliigpoojfoaaGreatDoorCs
namespace Go.Proofs.YtogliigpoojfoaaGreatDoor
set_option maxRecDepth 100000
open Go.RowKit Fl

def hexC2 (p : Nat × Nat) : ByteArray := hexT p.1 ++ hexT p.2
def ctext (l : List (Nat × Nat)) : ByteArray := textB (l.map hexC2)
def bitsC (p : Nat × Nat) : Nat × Nat := (bitsN p.1, bitsN p.2)
theorem hexC2_size (p : Nat × Nat) : (hexC2 p).size = 16 := by unfold hexC2; rw [ByteArray.size_append, hexT_size, hexT_size]
theorem hexC2_left (p : Nat × Nat) : (hexC2 p).extract 0 8 = hexT p.1 := ByteArray.extract_append_eq_left (hexT_size _).symm
theorem hexC2_right (p : Nat × Nat) : (hexC2 p).extract 8 16 = hexT p.2 := ByteArray.extract_append_eq_right (hexT_size _).symm (by rw [hexT_size, hexT_size])
theorem hexC2_list (p : Nat × Nat) : (hexC2 p).data.toList = lowH 8 (bitsN p.1) ++ lowH 8 (bitsN p.2) := by
  unfold hexC2
  rw [ByteArray.data_append, Array.toList_append, hexT_list, hexT_list]
theorem readC_hex {p : Nat × Nat} (h1 : p.1 < 4294967296) (h2 : p.2 < 4294967296) : readCB (hexC2 p) = true ∧ readC (hexC2 p) = bitsC p := by
  rw [readCB_of (hexC2_size p)]
  unfold readC bitsC
  rw [hexC2_left, hexC2_right, (readX_hex h1).1, (readX_hex h2).1, (readX_hex h1).2, (readX_hex h2).2]
  exact ⟨rfl, rfl⟩
theorem CWf.lt {l : List (Nat × Nat)} (h : CWf l) {k : Nat} (hk : k < l.length) : l[k].1 < 4294967296 ∧ l[k].2 < 4294967296 := by
  have := h k hk
  rw [cgetD hk] at this
  exact ⟨lt_of_wf this.1, lt_of_wf this.2⟩
theorem accB_hexC (x : Nat × Nat) (xs : List (Nat × Nat)) : (accB (hexC2 x) (xs.map hexC2)).size ≤ 16 + 17 * xs.length := by
  have h1 := accB_size 16 (xs.map hexC2) (hexC2 x) (fun y hy => by
    obtain ⟨n, -, rfl⟩ := List.mem_map.1 hy
    rw [hexC2_size]; exact Nat.le_refl _)
  rw [hexC2_size, List.length_map] at h1
  omega
theorem ctext_back (l : List (Nat × Nat)) (hl : l.length ≤ 256) (hw : CWf l) : listOkC (ctext l) = true ∧ pairsOf (ctext l) = l.map bitsC ∧ (ctext l).size ≤ 1048576 := by
  cases l with
  | nil =>
    have e : ctext [] = noneT := rfl
    unfold listOkC pairsOf
    rw [e, if_pos rfl, if_pos rfl]
    exact ⟨rfl, rfl, by decide⟩
  | cons x xs =>
    have hlt : ∀ y ∈ x :: xs, y.1 < 4294967296 ∧ y.2 < 4294967296 := fun y hy => by
      obtain ⟨i, hi, rfl⟩ := List.getElem_of_mem hy
      exact hw.lt hi
    have hsz : 16 ≤ (ctext (x :: xs)).size := by
      have := accB_ge (xs.map hexC2) (hexC2 x)
      rw [hexC2_size] at this
      exact this
    have hne : ctext (x :: xs) ≠ noneT := fun e => by
      rw [e] at hsz
      have : noneT.size = 4 := rfl
      omega
    have hcut : cutT (ctext (x :: xs)) = (x :: xs).map hexC2 := cutT_text (by simp) (fun p hp b hb => by
      obtain ⟨y, -, rfl⟩ := List.mem_map.1 hp
      rw [hexC2_list] at hb
      rcases List.mem_append.1 hb with h | h
      · exact lowH_free _ _ b h
      · exact lowH_free _ _ b h)
    have hok : okC ((x :: xs).map hexC2) = true := by
      unfold okC
      rw [Bool.and_eq_true, decide_eq_true_iff, List.length_map, List.all_eq_true]
      refine ⟨fun p hp => ?_, hl⟩
      obtain ⟨y, hy, rfl⟩ := List.mem_map.1 hp
      exact (readC_hex (hlt y hy).1 (hlt y hy).2).1
    refine ⟨?_, ?_, ?_⟩
    · unfold listOkC; rw [if_neg hne, hcut, hok]
    · unfold pairsOf
      rw [if_neg hne, hcut, numC_yes hok, List.map_map]
      apply List.map_congr_left
      intro y hy
      exact (readC_hex (hlt y hy).1 (hlt y hy).2).2
    · have h2 : (ctext (x :: xs)).size ≤ 16 + 17 * xs.length := accB_hexC x xs
      rw [List.length_cons] at hl
      omega
theorem hexC2_le {l : List (Nat × Nat)} : ∀ x ∈ l.map hexC2, x.size ≤ 16 := by
  intro x hx
  obtain ⟨n, -, rfl⟩ := List.mem_map.1 hx
  rw [hexC2_size]; exact Nat.le_refl _
theorem CRow.tail_cell {w W : World} {a : Option Addr} {l : List (Nat × Nat)} (h : CRow w a l) (hb : Below w.heap.size w W) {k : Nat} (hk : k < l.length) : ∃ b o, a = some ⟨b, o, none⟩ ∧ W.cell? ⟨b, o + k, none⟩ = some (.complex .f32 l[k].1 l[k].2) := by
  obtain ⟨b, o, ha, hlt, hc⟩ := h.below hb k hk
  rw [cgetD hk] at hc
  exact ⟨b, o, ha, hc⟩
theorem strs_hexC (l : List (Nat × Nat)) (k : Nat) (h : k < l.length) : strs ((l.take k).map hexC2) ++ [.string (hexT l[k].1 ++ hexT l[k].2)] = strs ((l.take (k + 1)).map hexC2) := by
  unfold strs
  rw [List.take_succ_eq_append_getElem h, List.map_append, List.map_append]; rfl
theorem resC_rowZ {w : World} {b n : Nat} {v : Value} {l : List (Nat × Nat)} (hn : l.length = n) (h : w.ownsRow b 24 1 v n (cvals l)) : ∃ a cap, v = .slice a n cap ∧ CRow w a l := by
  rcases h.2 with ⟨rfl, h0⟩ | ⟨g, cap, cur, rfl, hb, hg, rest⟩
  · subst h0
    have : l = [] := List.eq_nil_of_length_eq_zero hn
    subst this
    exact ⟨none, 0, rfl, fun i hi => by simp at hi⟩
  · refine ⟨_, cap, rfl, fun i hi => ⟨g, 0, rfl, (Array.getElem?_eq_some_iff.1 hg).1, ?_⟩⟩
    have := h.cellAt i (by omega)
    rw [Nat.zero_add, this]
    simp [cvals, List.getD, List.getElem?_eq_getElem hi]
theorem crow_own {w : World} {b g vc n : Nat} {l : List (Nat × Nat)} (hn : l.length = n) (h : w.ownsRow b 24 1 (.slice (some ⟨g, 0, none⟩) n vc) n (cvals l)) : CRow w (some ⟨g, 0, none⟩) l := by
  obtain ⟨a, c, e, hr⟩ := resC_rowZ hn h
  cases e
  exact hr
theorem crow_at {w : World} {a : Option Addr} {l : List (Nat × Nat)} (h : CRow w a l) {k : Nat} (hk : k < l.length) : ∃ b o, a = some ⟨b, o, none⟩ ∧ w.cell? ⟨b, o + k, none⟩ = some (.complex .f32 l[k].1 l[k].2) := by
  obtain ⟨b, o, ha, -, hc⟩ := h k hk
  rw [cgetD hk] at hc
  exact ⟨b, o, ha, hc⟩
/-- What the program reads back of a text of complex numbers. -/
theorem cread_back (L : List (Nat × Nat)) (k : Nat) (hk : L.length = k) (h256 : k ≤ 256) (hw : CWf L) (w : World) (m : Int) (hm : w.cell? ⟨4, 0, none⟩ = some (.int .i64 m)) (hR : HexOk w) :
    Calls Tryz.prog 18 #[.string (ctext L)] w fun e w' => ∃ a cap, e = .returned (.tuple #[.slice a k cap, .bool true]) ∧ CRow w' a (L.map bitsC) ∧ Below w.heap.size w w' := by
  obtain ⟨h1, h2, h3⟩ := ctext_back L (by omega) hw
  refine (ireadcx_any (ctext L) h3 w m hm hR).mono ?_
  rintro e w' ⟨v, rfl, ho, hB⟩
  rw [h2] at ho
  have hl : (L.map bitsC).length = k := by rw [List.length_map]; exact hk
  rw [hl] at ho
  obtain ⟨a, c, rfl, hr⟩ := resC_rowZ hl ho
  rw [h1]
  exact ⟨a, c, rfl, hr, hB⟩
set_option maxRecDepth 100000 in
set_option maxHeartbeats 2000000 in
theorem ictext_few (a : Option Addr) (cap : Nat) (l : List (Nat × Nat)) (n : Nat) (hn : l.length = n) (h256 : n ≤ 256) (hw : CWf l) (w : World) (h : CRow w a l) (hT : TabOk w) :
    Calls Tryz.prog 17 #[.slice a n cap] w fun e w' => e = .returned (.tuple #[.string (ctext l), .bool true]) ∧ Below w.heap.size w w' := by
  obtain ⟨i0, hi, hz0, hz1, hz2⟩ := info_parts Tryz.infoS
  have hI := hidI hi
  have hZ0 := hidI hz0
  have hZ1 := hidI hz1
  have hZ2 := hidI hz2
  clear hi hz0 hz1 hz2
  have hH := hidI h
  have hP := hidI hT
  have hHex := hidI (fun (k : Nat) (hk : k < l.length) (w : World) (hp : TabOk w) => ihex_any l[k].1 (hw.lt hk).1 w hp)
  have hHex2 := hidI (fun (k : Nat) (hk : k < l.length) (w : World) (hp : TabOk w) => ihex_any l[k].2 (hw.lt hk).2 w hp)
  have hEnd := hidI (fun (g cap base : Nat) W ho => lor_parts g cap n base 16 (l.map hexC2) (by rw [List.length_map]; exact hn) (by omega) (by omega) hexC2_le W ho)
  have hB0 := fun w => run_build0 (P := Tryz.prog) w Tryz.underlying68 Tryz.someS
  have hB1 := fun w c => run_buildS (P := Tryz.prog) w Tryz.underlying68 Tryz.sizeS Tryz.zeroS c
  have hNL := hidI hn
  clear h hT hw hn
  go_enter Tryz.func17, Tryz.ntmps17
  go_wp2
  go_loopw [4, 13] (fun v i wr => ∃ (W : World) (k g vc : Nat), W = wr ∧ k ≤ n ∧ i = .int .i64 k ∧ v = .slice (some ⟨g, 0, none⟩) k vc ∧ Hid (W.ownsRow w.heap.size 9 1 (.slice (some ⟨g, 0, none⟩) k vc) k (strs ((l.take k).map hexC2))) ∧ Hid (Below w.heap.size w W)) (fun _ i _ => n - (intOf i).toNat)
  case atStart => exact ⟨_, 0, _, _, rfl, by omega, rfl, rfl, sown_none w, (Below.refl _ _).alloc (Nat.le_refl _) _⟩
  case round =>
    obtain ⟨W, k, g, vc, rfl, hk, rfl, rfl, hown, hbel⟩ := hrel
    by_cases hlt : k < n
    · have hlt' : k < l.length := by rw [hNL.out]; exact hlt
      obtain ⟨b, o, rfl, hc⟩ := hH.out.tail_cell hbel.out hlt'
      have hsn := hidI (strs_hexC l k hlt')
      have hDk := hidI (hHex.out k hlt')
      have hEk := hidI (hHex2.out k hlt')
      have s1 := hexT_size l[k].1
      have s2 := hexT_size l[k].2
      generalize l[k].1 = x at hc hsn hDk s1
      generalize l[k].2 = y at hc hsn hEk s2
      clear hlt'
      generalize hexT x = s at hsn hDk s1
      generalize hexT y = t at hsn hEk s2
      go_wp2_with (first | (go_at_call 46; refine (hEk.out _ (hP.out.stays b2.out)).mono ?_; rintro e w3 ⟨rfl, hB⟩; have o3 := hidI (owns_below o2.out hB); have b3 := hidI (b2.out.trans (hB.mono b2.out.size)); clear hB) | (go_at_call 46; refine (hDk.out _ (hP.out.stays hbel.out)).mono ?_; rintro e w2 ⟨rfl, hB⟩; have o2 := hidI (owns_below hown.out hB); have b2 := hidI (hbel.out.trans (hB.mono hbel.out.size)); clear hB) | (refine wpList_append_own _ rfl _ _ 68 rfl w.heap.size 9 i0 (.string ⟨#[]⟩) 1 16 Tryz.underlying68 hI.out hZ0.out hZ1.out hZ2.out rfl (by omega) _ k _ rfl (o3.out.alloc _) ⟨w3.heap.size, 0, none⟩ 1 1 [.string (s ++ t)] rfl rfl (sone_cell _ _) (sone_flat _) ?c3 ?c4 (below_newH b3.out _) ?c6))
      case c3 => unfold maxLen; omega
      case c4 => omega
      intro v' w4 h2 h3 _
      rw [← List.map_take, hsn.out] at h2
      have b4 := hidI ((b3.out.alloc b3.out.size (.cells #[.string (s ++ t)] 9)).grown h3 (below_newH b3.out _) (owns_block o3.out))
      obtain ⟨g', vc', rfl, -, -, -⟩ := owns_shape h2 (Nat.succ_pos k)
      have o4 := hidI h2
      clear h2 h3
      go_wp2
      go_roundw
      case rel => exact ⟨w4, k + 1, g', vc', rfl, by omega, by go_num, rfl, o4.out, b4.out⟩
      case measure => simp [intOf]; omega
    · have hk' : k = n := by omega
      subst hk'
      have ho := hown.out
      rw [List.take_of_length_le (by rw [hNL.out]; exact Nat.le_refl _)] at ho
      have hE := hidI (hEnd.out g vc w.heap.size _ ho)
      clear ho hlt
      go_wp2_with (go_at_call 47; refine hE.out.mono ?_; rintro e w2 ⟨rfl, hB⟩; have b2 := hidI (hbel.out.trans (hB.mono hbel.out.size)); clear hB)
      go_ret2
      exact ⟨rfl, b2.out⟩
end Go.Proofs.YtogliigpoojfoaaGreatDoor
