/-
  Lists of numbers read from texts: marks in a result.
-/
import Derived.Test.YtogliigpoojfoaaDoorHv
namespace Go.Proofs.YtogliigpoojfoaaDoor
open Go.RowKit Fl

/-- The marks: 1, 2, .. as numbers. -/
def markW (i : Nat) : Nat := floatOfInt .f32 ((i : Int) + 1)
def upF (n : Nat) : List Nat := (List.range n).map markW
theorem upF_len (n : Nat) : (upF n).length = n := by simp [upF]
theorem mark_self : ∀ i : Nat, i < 256 → (FloatKind.f32.format.order (markW i) (markW i) != some .eq) = false := by decide +kernel
theorem upF_set (l : List Nat) (k : Nat) (h : k < l.length) : (vals (upF k) ++ vals (l.drop k)).set k (.float .f32 (markW k)) = vals (upF (k + 1)) ++ vals (l.drop (k + 1)) := by
  have hl : (vals (upF k)).length = k := by simp [vals, upF]
  have h1 : l.drop k = l[k] :: l.drop (k + 1) := List.drop_eq_getElem_cons h
  have h2 : upF (k + 1) = upF k ++ [markW k] := by
    unfold upF
    rw [List.range_succ, List.map_append]; rfl
  rw [List.set_append_right _ _ (by omega), hl, Nat.sub_self, h1, h2]
  unfold vals
  rw [List.map_cons, List.set_cons_zero, List.map_append, List.append_assoc]; rfl
theorem run_mark {P : Program} (w : World) (src dst : TypeId) {x : Nat} {z : Int} (h : x = floatOfInt .f32 z) (hs : (P.underlying src).isSome = true) (hd : P.underlying dst = some (.float .f32)) :
    (convert src dst (.int .i64 z)).run P w = .ok (.float .f32 x) w := by
  rw [run_convert_int_float w src dst .i64 .f32 z hs hd, h]
theorem upF_cell {w : World} {a : Option Addr} {n : Nat} (hn : n ≤ 256) (h : FRow w a (upF n)) : ∀ k, k < n → ∃ b o, a = some ⟨b, o, none⟩ ∧ ∃ x, w.cell? ⟨b, o + k, none⟩ = some (.float .f32 x) ∧ x = floatOfInt .f32 ((k : Int) + 1) ∧ (FloatKind.f32.format.order x x != some .eq) = false := by
  intro k hk
  obtain ⟨b, o, ha, -, hc⟩ := h k (by rw [upF_len]; exact hk)
  refine ⟨b, o, ha, markW k, ?_, rfl, mark_self k (by omega)⟩
  rw [hc]
  congr 2
  rw [getD_get (by rw [upF_len]; exact hk)]
  unfold upF
  rw [List.getElem_map, List.getElem_range]
set_option maxHeartbeats 400000 in
theorem heldF_any (a : Option Addr) (cap n : Nat) (hn : n ≤ 256) (w : World) (h : FRow w a (upF n)) :
    Calls Tryd.prog 32 #[.slice a n cap, .int .i64 1] w fun e w' => e = .returned (.int .i64 ((n : Int) + 1)) ∧ w = w' := by
  have hH := hidI (upF_cell hn h)
  clear h
  go_enter Tryd.func32, Tryd.ntmps32
  go_wp2
  go_loop [1, 5] (fun q i => ∃ k : Nat, k ≤ n ∧ i = .int .i64 k ∧ q = .int .i64 ((k : Int) + 1)) (fun _ i => n - (intOf i).toNat)
  case atStart => exact ⟨0, Nat.zero_le _, rfl, rfl⟩
  case round =>
    obtain ⟨k, hk, rfl, rfl⟩ := hrel
    by_cases hlt : k < n
    · obtain ⟨b, o, rfl, x, hc, hx, ht⟩ := hH.out k hlt
      have hcv := fun wx => run_mark (P := Tryd.prog) wx 3 55 hx (by rw [Tryd.underlying3]; rfl) Tryd.underlying55
      clear hx
      go_wp2
      go_round
      case rel => exact ⟨k + 1, by omega, by go_num, by go_num⟩
      case measure => simp [intOf]; omega
    · have hk' : k = n := by omega
      subst hk'
      go_wp2
      go_ret
      exact ⟨rfl, rfl⟩
set_option maxHeartbeats 400000 in
theorem markF_any (B g cap n : Nat) (l : List Nat) (hn : l.length = n) (hn2 : n ≤ 256) (w : World) (h : w.ownsRow B 55 1 (.slice (some ⟨g, 0, none⟩) n cap) n (vals l)) (hg : B ≤ g) :
    Calls Tryd.prog 31 #[.slice (some ⟨g, 0, none⟩) n cap, .int .i64 1] w fun e w' => e = .returned (.int .i64 ((n : Int) + 1)) ∧ w'.ownsRow B 55 1 (.slice (some ⟨g, 0, none⟩) n cap) n (vals (upF n)) ∧ Below B w w' := by
  have hL := hidI hn
  have h0 := hidI h
  clear h hn
  go_enter Tryd.func31, Tryd.ntmps31
  go_wp2
  go_loopw [1, 5] (fun q i wr => ∃ (W : World) (k : Nat), W = wr ∧ k ≤ n ∧ i = .int .i64 k ∧ q = .int .i64 ((k : Int) + 1) ∧ Hid (W.ownsRow B 55 1 (.slice (some ⟨g, 0, none⟩) n cap) n (vals (upF k) ++ vals (l.drop k))) ∧ Hid (Below B w W)) (fun _ i _ => n - (intOf i).toNat)
  case atStart => exact ⟨_, 0, rfl, Nat.zero_le _, rfl, rfl, h0.out, Below.refl _ _⟩
  case round =>
    obtain ⟨W, k, rfl, hk, rfl, rfl, ho, hb⟩ := hrel
    by_cases hlt : k < n
    · have hlt' : k < l.length := by rw [hL.out]; exact hlt
      have hcell : ∃ v, W.cell? ⟨g, k, none⟩ = some v := by
        have h1 := ho.out.cellAt k (by omega)
        have h2 := ho.out.1
        rw [h1]
        exact ⟨_, List.getElem?_eq_getElem (by omega)⟩
      have hfro := ho.out.frozenAt k
      have hst := ho.out.stored k (.float .f32 (markW k))
      rw [upF_set l k hlt'] at hst
      have hS := hidI hst.1
      have hB := hidI (hb.out.setCell (p := ⟨g, k, none⟩) hg (.float .f32 (markW k)))
      unfold markW at hS hB
      clear hst hlt'
      obtain ⟨old, hcell⟩ := hcell
      go_wp2
      go_roundw
      case rel => exact ⟨_, k + 1, rfl, by omega, by go_num, by go_num, hS.out, hB.out⟩
      case measure => simp [intOf]; omega
    · have hk' : k = n := by omega
      subst hk'
      have hE := ho.out
      rw [List.drop_of_length_le (by rw [hL.out]; exact Nat.le_refl _)] at hE
      have hE2 := hidI (show W.ownsRow B 55 1 (.slice (some ⟨g, 0, none⟩) k cap) k (vals (upF k)) from by simpa [vals] using hE)
      clear hE
      go_wp2
      go_ret
      exact ⟨rfl, hE2.out, hb.out⟩
theorem markF_nil (w : World) :
    Calls Tryd.prog 31 #[.slice none 0 0, .int .i64 1] w fun e w' => e = .returned (.int .i64 1) ∧ w = w' := by
  go_enter Tryd.func31, Tryd.ntmps31
  go_wp2
  go_loop [1, 5] (fun q i => i = .int .i64 0 ∧ q = .int .i64 1) (fun _ _ => 0)
  case atStart => exact ⟨rfl, rfl⟩
  case round =>
    obtain ⟨rfl, rfl⟩ := hrel
    go_wp2
    go_ret
    exact ⟨rfl, rfl⟩
theorem resF_row {w : World} {b n : Nat} {v : Value} {l : List Nat} (hn : l.length = n) (h : w.ownsRow b 55 1 v n (vals l)) : ∃ a cap, v = .slice a n cap ∧ FRow w a l := by
  rcases h.2 with ⟨rfl, h0⟩ | ⟨g, cap, cur, rfl, hb, hg, rest⟩
  · subst h0
    have : l = [] := List.eq_nil_of_length_eq_zero hn
    subst this
    exact ⟨none, 0, rfl, fun i hi => by simp at hi⟩
  · refine ⟨_, cap, rfl, fun i hi => ⟨g, 0, rfl, (Array.getElem?_eq_some_iff.1 hg).1, ?_⟩⟩
    have := h.cellAt i (by omega)
    rw [Nat.zero_add, this]
    simp [vals, List.getD, List.getElem?_eq_getElem hi]
theorem markF_res (a : Option Addr) (cap n b : Nat) (l : List Nat) (hn : l.length = n) (hn2 : n ≤ 256) (w : World) (h : w.ownsRow b 55 1 (.slice a n cap) n (vals l)) :
    Calls Tryd.prog 31 #[.slice a n cap, .int .i64 1] w fun e w' => e = .returned (.int .i64 ((n : Int) + 1)) ∧ w'.ownsRow b 55 1 (.slice a n cap) n (vals (upF n)) ∧ Below b w w' := by
  have h' := h
  rcases h'.2 with ⟨hv, h0⟩ | ⟨g, c, cur, hv, hb, -⟩
  · subst h0
    cases hv
    refine (markF_nil w).mono ?_
    rintro e w' ⟨rfl, rfl⟩
    exact ⟨rfl, World.ownsRow_nil _ _ _ _, Below.refl _ _⟩
  · cases hv
    exact markF_any b g cap n l hn hn2 w h hb
theorem wordsOf_len (s : ByteArray) : (wordsOf s).length ≤ 256 := by
  unfold wordsOf numX
  split
  · simp
  · split
    · next h =>
      unfold okX at h
      rw [Bool.and_eq_true, decide_eq_true_iff] at h
      rw [List.length_map]; exact h.2
    · simp
theorem readX_wf (x : ByteArray) : readX x < 4294967296 := by
  unfold readX
  split
  · next h =>
    obtain ⟨n, h1, h2, -⟩ := readXB_iff.1 h
    obtain ⟨-, h4⟩ := svH_inv h1
    rw [h2, pow16_8] at h4
    rw [h1]; exact h4
  · omega
theorem wordsOf_wf (s : ByteArray) : AllWf (wordsOf s) := by
  intro i hi
  have hm : (wordsOf s).getD i 0 ∈ wordsOf s := by
    rw [getD_get hi]; exact List.getElem_mem _
  refine wf_of_lt _ _ ?_
  show _ < 4294967296
  generalize (wordsOf s).getD i 0 = x at hm
  unfold wordsOf numX at hm
  split at hm
  · cases hm
  · split at hm
    · obtain ⟨y, -, rfl⟩ := List.mem_map.1 hm
      exact readX_wf y
    · cases hm
end Go.Proofs.YtogliigpoojfoaaDoor
