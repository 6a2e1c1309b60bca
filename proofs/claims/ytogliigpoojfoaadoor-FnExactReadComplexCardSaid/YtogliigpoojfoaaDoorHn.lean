/-
  Texts of lists of numbers: the reference's and the program's walks.
-/
import Derived.Test.YtogliigpoojfoaaDoorHh
import Derived.Test.YtogliigpoojfoaaDoorHq
import Derived.Test.YtogliigpoojfoaaDoorSl
namespace Go.Proofs.YtogliigpoojfoaaDoor
open Go.RowKit Fl

def wtext (l : List Nat) : ByteArray := textB (l.map hexT)
theorem FRow.tail_cell {w W : World} {a : Option Addr} {l : List Nat} (h : FRow w a l) (hb : Below w.heap.size w W) {k : Nat} (hk : k < l.length) : ∃ b o, a = some ⟨b, o, none⟩ ∧ W.cell? ⟨b, o + k, none⟩ = some (.float .f32 l[k]) := by
  obtain ⟨b, o, ha, hlt, hc⟩ := h.below hb k hk
  rw [getD_get hk] at hc
  exact ⟨b, o, ha, hc⟩
theorem AllWf.lt {l : List Nat} (h : AllWf l) {k : Nat} (hk : k < l.length) : l[k] < 4294967296 := by
  have := h k hk
  rw [getD_get hk] at this
  exact lt_of_wf this
theorem hexT_le {l : List Nat} : ∀ x ∈ l.map hexT, x.size ≤ 8 := by
  intro x hx
  obtain ⟨n, -, rfl⟩ := List.mem_map.1 hx
  rw [hexT_size]; exact Nat.le_refl _
theorem accB_hex (x : Nat) (xs : List Nat) (k : Nat) : (accB (hexT x) ((xs.map hexT).take k)).size ≤ 8 + 9 * xs.length := by
  have h1 := accB_size 8 ((xs.map hexT).take k) (hexT x) (fun y hy => hexT_le y (List.mem_of_mem_take hy))
  rw [hexT_size] at h1
  have h2 : ((xs.map hexT).take k).length ≤ xs.length := by rw [List.length_take, List.length_map]; omega
  omega
theorem sntext_nil (a : Option Addr) (cap : Nat) (w : World) :
    Calls Tryd.prog 46 #[.slice a 0 cap] w fun e w' => e = .returned (.string (wtext [])) ∧ Below w.heap.size w w' := by
  go_enter Tryd.func46, Tryd.ntmps46
  go_wp2
  go_ret
  exact ⟨rfl, Below.refl _ _⟩
set_option maxHeartbeats 1000000 in
theorem sntext_cons (a : Option Addr) (cap : Nat) (x : Nat) (xs : List Nat) (n : Nat) (hn : xs.length + 1 = n) (hl : n ≤ 1048576) (hw : AllWf (x :: xs)) (w : World) (h : FRow w a (x :: xs)) :
    Calls Tryd.prog 46 #[.slice a n cap] w fun e w' => e = .returned (.string (wtext (x :: xs))) ∧ Below w.heap.size w w' := by
  have hS := hidI (fun (k : Nat) (hk : k < (x :: xs).length) (w : World) => shex_any (x :: xs)[k] (hw.lt hk) w)
  have hH := hidI h
  have hLen : (x :: xs).length = n := by rw [List.length_cons]; exact hn
  obtain ⟨b, o, rfl, hlt0, hc0⟩ := h 0 (by simp)
  rw [Nat.add_zero, show (x :: xs).getD 0 0 = x from rfl] at hc0
  have t1 : ((n : Int) == 0) = false := beq_eq_false_iff_ne.2 (by omega)
  have hn1 : 0 < n := by omega
  have hSz := hidI (fun k => accB_hex x xs k)
  clear h hlt0
  have hNL := hidI hn
  have hLN := hidI hLen
  clear hn hLen
  go_enter Tryd.func46, Tryd.ntmps46
  go_wp2_with (go_at_call 68; refine (hS.out 0 (by simp) _).mono ?_; rintro e w1 ⟨rfl, hB⟩; have b1 := hidI hB; clear hB)
  clear hc0
  go_loopw [3, 4] (fun s i wr => ∃ (W : World) (k : Nat), W = wr ∧ k ≤ n ∧ 1 ≤ k ∧ i = .int .i64 k ∧ s = .string (accB (hexT x) ((xs.map hexT).take (k - 1))) ∧ Hid (Below w.heap.size w W)) (fun _ i _ => n - (intOf i).toNat)
  case atStart => exact ⟨_, 1, rfl, by omega, by omega, rfl, rfl, b1.out⟩
  case round =>
    obtain ⟨W, k, rfl, hk, hk1, rfl, rfl, hbel⟩ := hrel
    clear b1
    by_cases hlt : k < n
    · have hlt' : k < (x :: xs).length := by rw [hLN.out]; exact hlt
      obtain ⟨b', o', e', hc⟩ := hH.out.tail_cell hbel.out hlt'
      cases e'
      have hsn : Hid (accB (hexT x) ((xs.map hexT).take k) = accB (hexT x) ((xs.map hexT).take (k - 1)) ++ ((⟨#[44]⟩ : ByteArray) ++ hexT (x :: xs)[k])) := by
        show _ = _
        have := hNL.out
        obtain ⟨j, rfl⟩ : ∃ j, k = j + 1 := ⟨k - 1, by omega⟩
        rw [List.take_succ_eq_append_getElem (by rw [List.length_map]; omega), accB_snoc, List.getElem_map]; rfl
      have hSk := hidI (hS.out k hlt')
      have hDk := hexT_size (x :: xs)[k]
      have hAk : (accB (hexT x) ((xs.map hexT).take (k - 1))).size ≤ 25000000 := by have := hSz.out (k - 1); have := hNL.out; omega
      generalize (x :: xs)[k] = v at hc hsn hSk hDk
      clear hlt'
      generalize hA : accB (hexT x) ((xs.map hexT).take (k - 1)) = A at hsn hAk
      clear hA
      generalize hexT v = T at hsn hSk hDk
      go_wp2_with (go_at_call 68; refine (hSk.out _).mono ?_; rintro e w2 ⟨rfl, hB⟩; have b2 := hidI (hbel.out.trans (hB.mono hbel.out.size)); clear hB)
      go_roundw
      case rel => exact ⟨_, k + 1, rfl, by omega, by omega, by go_num, by rw [Nat.add_sub_cancel, hsn.out], b2.out⟩
      case measure => simp [intOf]; omega
    · have hk' : k - 1 = xs.length := by have := hNL.out; omega
      have hend : Hid (accB (hexT x) ((xs.map hexT).take (k - 1)) = wtext (x :: xs)) := by
        show _ = _
        rw [List.take_of_length_le (by rw [List.length_map]; omega)]; rfl
      clear hk'
      go_wp2
      go_ret
      exact ⟨by rw [hend.out]; rfl, hbel.out⟩
theorem sntext_any (a : Option Addr) (cap : Nat) (l : List Nat) (hl : l.length ≤ 1048576) (hw : AllWf l) (w : World) (h : FRow w a l) :
    Calls Tryd.prog 46 #[.slice a l.length cap] w fun e w' => e = .returned (.string (wtext l)) ∧ Below w.heap.size w w' := by
  cases l with
  | nil => exact sntext_nil a cap w
  | cons x xs => exact sntext_cons a cap x xs _ rfl hl hw w h
def fewB (n : Nat) : Bool := decide (n ≤ 256)
def nText (l : List Nat) : ByteArray := if fewB l.length then wtext l else ⟨#[]⟩
theorem sfew_any (a : Option Addr) (cap n : Nat) (w : World) :
    Calls Tryd.prog 45 #[.slice a n cap] w fun e w' => e = .returned (.bool (fewB n)) ∧ w = w' := by
  unfold fewB
  by_cases h : n ≤ 256
  · rw [decide_eq_true h]
    go_enter Tryd.func45, Tryd.ntmps45
    go_wp2
    go_ret
    refine ⟨?_, rfl⟩
    show Ending.returned (.bool (decide ((n : Int) ≤ 256))) = _
    rw [decide_eq_true (by omega)]
  · rw [decide_eq_false h]
    have h' : 256 < n := by omega
    clear h
    go_enter Tryd.func45, Tryd.ntmps45
    go_wp2
    go_ret
    refine ⟨?_, rfl⟩
    show Ending.returned (.bool (decide ((n : Int) ≤ 256))) = _
    rw [decide_eq_false (by omega)]
theorem snumtext_any (a : Option Addr) (cap : Nat) (l : List Nat) (hl : l.length ≤ 1048576) (hw : AllWf l) (w : World) (h : FRow w a l) :
    Calls Tryd.prog 19 #[.slice a l.length cap] w fun e w' => e = .returned (.tuple #[.string (nText l), .bool (fewB l.length)]) ∧ Below w.heap.size w w' := by
  have hFw := hidI (sfew_any a cap l.length w)
  have hTx := hidI (sntext_any a cap l hl hw w h)
  unfold nText
  clear h
  cases hv : fewB l.length
  · have hV := hidI hv
    clear hv
    go_enter Tryd.func19, Tryd.ntmps19
    go_wp2_with (go_at_call 45; refine hFw.out.mono ?_; rintro e w' ⟨rfl, rfl⟩; rw [hV.out])
    go_ret2
    exact ⟨rfl, Below.refl _ _⟩
  · have hV := hidI hv
    clear hv
    go_enter Tryd.func19, Tryd.ntmps19
    go_wp2_with (first | (go_at_call 45; refine hFw.out.mono ?_; rintro e w' ⟨rfl, rfl⟩; rw [hV.out]) | (go_at_call 46; refine hTx.out.mono ?_; rintro e w' ⟨rfl, hB⟩; have b1 := hidI hB; clear hB))
    go_ret2
    exact ⟨rfl, b1.out⟩
theorem sown_none (w : World) : (w.alloc (.cells #[] 9)).ownsRow w.heap.size 9 1 (.slice (some ⟨w.heap.size, 0, none⟩) 0 0) 0 (strs []) :=
  World.ownsRow_made w #[] 0 (Nat.le_refl _) (Nat.zero_le _) rfl
theorem sone_cell (W : World) (x : ByteArray) : ∀ (j : Nat) u, ([.string x] : List Value)[j]? = some u → (W.alloc (.cells #[.string x] 9)).cell? ((⟨W.heap.size, 0, none⟩ : Addr).add j) = some u := by
  intro j u hj
  have hj0 : j = 0 := by
    rcases Nat.lt_or_ge j 1 with c | c
    · omega
    · rw [List.getElem?_eq_none (by simpa using c)] at hj; cases hj
  subst hj0
  simp at hj
  subst hj
  exact new_cell _ _ _
theorem sone_flat (x : ByteArray) : ∀ u ∈ ([.string x] : List Value), u.oneCell' = true := by
  intro u hu
  simp at hu
  subst hu; rfl
theorem strs_hex (l : List Nat) (k : Nat) (h : k < l.length) : strs ((l.take k).map hexT) ++ [.string (hexT l[k])] = strs ((l.take (k + 1)).map hexT) := by
  unfold strs
  rw [List.take_succ_eq_append_getElem h, List.map_append, List.map_append]; rfl
theorem inumtext_long (a : Option Addr) (cap n : Nat) (h : 256 < n) (w : World) :
    Calls Tryd.prog 21 #[.slice a n cap] w fun e w' => e = .returned (.tuple #[.string ⟨#[]⟩, .bool false]) ∧ Below w.heap.size w w' := by
  go_enter Tryd.func21, Tryd.ntmps21
  go_wp2
  go_ret2
  exact ⟨rfl, Below.refl _ _⟩
set_option maxRecDepth 100000 in
set_option maxHeartbeats 2000000 in
theorem inumtext_few (a : Option Addr) (cap : Nat) (l : List Nat) (n : Nat) (hn : l.length = n) (h256 : n ≤ 256) (hw : AllWf l) (w : World) (h : FRow w a l) (hT : TabOk w) :
    Calls Tryd.prog 21 #[.slice a n cap] w fun e w' => e = .returned (.tuple #[.string (wtext l), .bool true]) ∧ Below w.heap.size w w' := by
  obtain ⟨i0, hi, hz0, hz1, hz2⟩ := info_parts Tryd.infoS
  have hI := hidI hi
  have hZ0 := hidI hz0
  have hZ1 := hidI hz1
  have hZ2 := hidI hz2
  clear hi hz0 hz1 hz2
  have hH := hidI h
  have hP := hidI hT
  have hHex := hidI (fun (k : Nat) (hk : k < l.length) (w : World) (hp : TabOk w) => ihex_any l[k] (hw.lt hk) w hp)
  have hEnd := hidI (fun (g cap base : Nat) W ho => lor_parts g cap n base 8 (l.map hexT) (by rw [List.length_map]; exact hn) (by omega) (by omega) hexT_le W ho)
  have hB0 := fun w => run_build0 (P := Tryd.prog) w Tryd.underlying52 Tryd.someS
  have hB1 := fun w c => run_buildS (P := Tryd.prog) w Tryd.underlying52 Tryd.sizeS Tryd.zeroS c
  have hNL := hidI hn
  clear h hT hw hn
  go_enter Tryd.func21, Tryd.ntmps21
  go_wp2
  go_loopw [4, 13] (fun v i wr => ∃ (W : World) (k g vc : Nat), W = wr ∧ k ≤ n ∧ i = .int .i64 k ∧ v = .slice (some ⟨g, 0, none⟩) k vc ∧ Hid (W.ownsRow w.heap.size 9 1 (.slice (some ⟨g, 0, none⟩) k vc) k (strs ((l.take k).map hexT))) ∧ Hid (Below w.heap.size w W)) (fun _ i _ => n - (intOf i).toNat)
  case atStart => exact ⟨_, 0, _, _, rfl, by omega, rfl, rfl, sown_none w, (Below.refl _ _).alloc (Nat.le_refl _) _⟩
  case round =>
    obtain ⟨W, k, g, vc, rfl, hk, rfl, rfl, hown, hbel⟩ := hrel
    by_cases hlt : k < n
    · have hlt' : k < l.length := by rw [hNL.out]; exact hlt
      obtain ⟨b, o, rfl, hc⟩ := hH.out.tail_cell hbel.out hlt'
      have hsn := hidI (strs_hex l k hlt')
      have hDk := hidI (hHex.out k hlt')
      generalize l[k] = x at hc hsn hDk
      clear hlt'
      generalize hexT x = s at hsn hDk
      go_wp2_with (first | (go_at_call 47; refine (hDk.out _ (hP.out.stays hbel.out)).mono ?_; rintro e w2 ⟨rfl, hB⟩; have o2 := hidI (owns_below hown.out hB); have b2 := hidI (hbel.out.trans (hB.mono hbel.out.size)); clear hB) | (refine wpList_append_own _ rfl _ _ 52 rfl w.heap.size 9 i0 (.string ⟨#[]⟩) 1 16 Tryd.underlying52 hI.out hZ0.out hZ1.out hZ2.out rfl (by omega) _ k _ rfl (o2.out.alloc _) ⟨w2.heap.size, 0, none⟩ 1 1 [.string s] rfl rfl (sone_cell _ _) (sone_flat _) ?c3 ?c4 (below_newH b2.out _) ?c6))
      case c3 => unfold maxLen; omega
      case c4 => omega
      intro v' w3 h2 h3 _
      rw [← List.map_take, hsn.out] at h2
      have b3 := hidI ((b2.out.alloc b2.out.size (.cells #[.string s] 9)).grown h3 (below_newH b2.out _) (owns_block o2.out))
      obtain ⟨g', vc', rfl, -, -, -⟩ := owns_shape h2 (Nat.succ_pos k)
      have o3 := hidI h2
      clear h2 h3
      go_wp2
      go_roundw
      case rel => exact ⟨w3, k + 1, g', vc', rfl, by omega, by go_num, rfl, o3.out, b3.out⟩
      case measure => simp [intOf]; omega
    · have hk' : k = n := by omega
      subst hk'
      have ho := hown.out
      rw [List.take_of_length_le (by rw [hNL.out]; exact Nat.le_refl _)] at ho
      have hE := hidI (hEnd.out g vc w.heap.size _ ho)
      clear ho hlt
      go_wp2_with (go_at_call 44; refine hE.out.mono ?_; rintro e w2 ⟨rfl, hB⟩; have b2 := hidI (hbel.out.trans (hB.mono hbel.out.size)); clear hB)
      go_ret2
      exact ⟨rfl, b2.out⟩
theorem inumtext_any (a : Option Addr) (cap : Nat) (l : List Nat) (hw : AllWf l) (w : World) (h : FRow w a l) (hT : TabOk w) :
    Calls Tryd.prog 21 #[.slice a l.length cap] w fun e w' => e = .returned (.tuple #[.string (nText l), .bool (fewB l.length)]) ∧ Below w.heap.size w w' := by
  unfold nText
  by_cases h256 : l.length ≤ 256
  · rw [show fewB l.length = true from decide_eq_true h256]
    exact inumtext_few a cap l _ rfl h256 hw w h hT
  · rw [show fewB l.length = false from decide_eq_false h256]
    exact inumtext_long a cap _ (by omega) w
end Go.Proofs.YtogliigpoojfoaaDoor
