/-
  Numbers that are drawn out of bytes: each is some 32-bit word.
-/
import Derived.Test.YtogliigpoojfoaaGreatDoorK9
namespace Go.Proofs.YtogliigpoojfoaaGreatDoor
set_option maxRecDepth 100000
open Go.RowKit Fl

theorem build_ten {P : Program} (w : World) {t e : TypeId} (ht : P.underlying t = some (.slice e)) (hs : (P.info? e).map (·.size) = some 1) (hz : ((P.info? e).bind (·.zero)).isSome = true) :
    (Instr.buildSlice t 10 #[(0, .int .i64 0), (1, .int .i64 2147483648), (2, .int .i64 2139095040), (3, .int .i64 4286578688), (4, .int .i64 2143289344), (5, .int .i64 1), (6, .int .i64 2139095039), (7, .int .i64 8388608), (8, .int .i64 8388607), (9, .int .i64 2147483649)]).run P w = .ok (.slice (some ⟨w.heap.size, 0, none⟩) 10 10) (w.alloc (.cells #[.int .i64 0, .int .i64 2147483648, .int .i64 2139095040, .int .i64 4286578688, .int .i64 2143289344, .int .i64 1, .int .i64 2139095039, .int .i64 8388608, .int .i64 8388607, .int .i64 2147483649] e)) := by
  cases hie : P.info? e with
  | none => rw [hie] at hs; cases hs
  | some ie =>
    simp only [hie, Option.map_some, Option.some.injEq, Option.bind_some] at hs hz
    obtain ⟨z, hzz⟩ := Option.isSome_iff_exists.1 hz
    refine run_buildSlice w _ _ 10 _ _ ie z ht hie hzz (by rw [hs]; omega) (by rw [hs]; omega) ?_
    rw [hs]
    exact Great.fill_flat [Value.int .i64 0, Value.int .i64 2147483648, Value.int .i64 2139095040, Value.int .i64 4286578688, Value.int .i64 2143289344, Value.int .i64 1, Value.int .i64 2139095039, Value.int .i64 8388608, Value.int .i64 8388607, Value.int .i64 2147483649] _ (fun v hv => by simp at hv; rcases hv with rfl | rfl | rfl | rfl | rfl | rfl | rfl | rfl | rfl | rfl <;> rfl) (by simp)
theorem build_ten_words {w w0 : World} {g n cap B : Nat} {a : Option Addr} {T : TypeId} (h : SrcAt w0 w g a n cap B) : Words (w.alloc (.cells #[.int .i64 0, .int .i64 2147483648, .int .i64 2139095040, .int .i64 4286578688, .int .i64 2143289344, .int .i64 1, .int .i64 2139095039, .int .i64 8388608, .int .i64 8388607, .int .i64 2147483649] T)) g (some ⟨w.heap.size, 0, none⟩) 10 := by
  intro i hi
  have hs := MapKept.heap_alloc w (.cells #[.int .i64 0, .int .i64 2147483648, .int .i64 2139095040, .int .i64 4286578688, .int .i64 2143289344, .int .i64 1, .int .i64 2139095039, .int .i64 8388608, .int .i64 8388607, .int .i64 2147483649] T)
  have hc : (w.alloc (.cells #[.int .i64 0, .int .i64 2147483648, .int .i64 2139095040, .int .i64 4286578688, .int .i64 2143289344, .int .i64 1, .int .i64 2139095039, .int .i64 8388608, .int .i64 8388607, .int .i64 2147483649] T)).cell? ⟨w.heap.size, 0 + i, none⟩ = (#[.int .i64 0, .int .i64 2147483648, .int .i64 2139095040, .int .i64 4286578688, .int .i64 2143289344, .int .i64 1, .int .i64 2139095039, .int .i64 8388608, .int .i64 8388607, .int .i64 2147483649] : Array Value)[i]? := by
    rw [Nat.zero_add]; unfold World.cell?; rw [hs.1]; rfl
  have hg : w.heap.size ≠ g := fun e => by have := h.lt; omega
  have : i = 0 ∨ i = 1 ∨ i = 2 ∨ i = 3 ∨ i = 4 ∨ i = 5 ∨ i = 6 ∨ i = 7 ∨ i = 8 ∨ i = 9 := by omega
  rcases this with rfl | rfl | rfl | rfl | rfl | rfl | rfl | rfl | rfl | rfl
  · exact ⟨_, _, 0, rfl, hg, hc, by omega, by omega⟩
  · exact ⟨_, _, 2147483648, rfl, hg, hc, by omega, by omega⟩
  · exact ⟨_, _, 2139095040, rfl, hg, hc, by omega, by omega⟩
  · exact ⟨_, _, 4286578688, rfl, hg, hc, by omega, by omega⟩
  · exact ⟨_, _, 2143289344, rfl, hg, hc, by omega, by omega⟩
  · exact ⟨_, _, 1, rfl, hg, hc, by omega, by omega⟩
  · exact ⟨_, _, 2139095039, rfl, hg, hc, by omega, by omega⟩
  · exact ⟨_, _, 8388608, rfl, hg, hc, by omega, by omega⟩
  · exact ⟨_, _, 8388607, rfl, hg, hc, by omega, by omega⟩
  · exact ⟨_, _, 2147483649, rfl, hg, hc, by omega, by omega⟩
theorem build_four {P : Program} (w : World) {t e : TypeId} (ht : P.underlying t = some (.slice e)) (hs : (P.info? e).map (·.size) = some 1) (hz : ((P.info? e).bind (·.zero)).isSome = true) :
    (Instr.buildSlice t 4 #[(0, .int .i64 8388608), (1, .int .i64 2130706432), (2, .int .i64 1610612736), (3, .int .i64 536870912)]).run P w = .ok (.slice (some ⟨w.heap.size, 0, none⟩) 4 4) (w.alloc (.cells #[.int .i64 8388608, .int .i64 2130706432, .int .i64 1610612736, .int .i64 536870912] e)) := by
  cases hie : P.info? e with
  | none => rw [hie] at hs; cases hs
  | some ie =>
    simp only [hie, Option.map_some, Option.some.injEq, Option.bind_some] at hs hz
    obtain ⟨z, hzz⟩ := Option.isSome_iff_exists.1 hz
    refine run_buildSlice w _ _ 4 _ _ ie z ht hie hzz (by rw [hs]; omega) (by rw [hs]; omega) ?_
    rw [hs]
    exact Great.fill_flat [Value.int .i64 8388608, Value.int .i64 2130706432, Value.int .i64 1610612736, Value.int .i64 536870912] _ (fun v hv => by simp at hv; rcases hv with rfl | rfl | rfl | rfl <;> rfl) (by simp)
theorem build_four_words {w w0 : World} {g n cap B : Nat} {a : Option Addr} {T : TypeId} (h : SrcAt w0 w g a n cap B) : Words (w.alloc (.cells #[.int .i64 8388608, .int .i64 2130706432, .int .i64 1610612736, .int .i64 536870912] T)) g (some ⟨w.heap.size, 0, none⟩) 4 := by
  intro i hi
  have hs := MapKept.heap_alloc w (.cells #[.int .i64 8388608, .int .i64 2130706432, .int .i64 1610612736, .int .i64 536870912] T)
  have hc : (w.alloc (.cells #[.int .i64 8388608, .int .i64 2130706432, .int .i64 1610612736, .int .i64 536870912] T)).cell? ⟨w.heap.size, 0 + i, none⟩ = (#[.int .i64 8388608, .int .i64 2130706432, .int .i64 1610612736, .int .i64 536870912] : Array Value)[i]? := by
    rw [Nat.zero_add]; unfold World.cell?; rw [hs.1]; rfl
  have hg : w.heap.size ≠ g := fun e => by have := h.lt; omega
  have : i = 0 ∨ i = 1 ∨ i = 2 ∨ i = 3 := by omega
  rcases this with rfl | rfl | rfl | rfl
  · exact ⟨_, _, 8388608, rfl, hg, hc, by omega, by omega⟩
  · exact ⟨_, _, 2130706432, rfl, hg, hc, by omega, by omega⟩
  · exact ⟨_, _, 1610612736, rfl, hg, hc, by omega, by omega⟩
  · exact ⟨_, _, 536870912, rfl, hg, hc, by omega, by omega⟩
theorem Tryz.sizeI64 : (Tryz.prog.info? 2).map (·.size) = some 1 := by kernel_rfl
theorem Tryz.zeroI64 : ((Tryz.prog.info? 2).bind (·.zero)).isSome = true := by kernel_rfl
theorem plain_any {w0 : World} {g : Nat} {a : Option Addr} {l : List Int} {n cap B : Nat} (hb : Bytes w0 a l n) (hn : n ≤ 1048576) (hB : B ≤ 999980) (w : World) (h : SrcAt w0 w g a n cap B) :
    Calls Tryz.prog 79 #[.pointer (some ⟨g, 0, none⟩)] w fun e w' => ∃ r, (Lit.float .f32 r).wf = true ∧ e = .returned (.float .f32 r) ∧ SrcAt w0 w' g a n cap (B + 4) ∧ w.grownBy w' (some g) := by
  have hP := hidI (fun w (h : SrcAt w0 w g a n cap B) => pick_any hb hn (by omega) 129 (by omega) (by omega) w h)
  have hO := hidI (fun w (h : SrcAt w0 w g a n cap (B + 2)) => one_any hb hn (by omega) 4 (by omega) (by omega) w h)
  have hS := hidI h
  clear h
  go_enter Tryz.func79, Tryz.ntmps79
  go_wp2_with (first | (go_at_call 39; refine (hP.out _ hS.out).mono ?_; rintro e w1 ⟨x, ⟨hx0, hx1⟩, rfl, hs, hgr⟩; have hS1 := hidI hs; have hG1 := hidI hgr; clear hs hgr hS) | (go_at_call 50; refine (hO.out _ hS1.out).mono ?_; rintro e w2 ⟨b, rfl, hs, hgr⟩; have hS2 := hidI hs; have hG2 := hidI (grown_trans hG1.out hgr); clear hs hgr hS1; cases b) | (refine wpList_float rfl .quo _ _ _ _ rfl rfl .f32 _ _ rfl rfl ?_; intro r m hr))
  all_goals go_ret
  all_goals exact ⟨_, hr.2, rfl, hS2.out.draws _, grown_draws hG2.out _⟩
theorem src_alloc {w w0 : World} {g n cap B : Nat} {a : Option Addr} (h : SrcAt w0 w g a n cap B) (o : Obj) : SrcAt w0 (w.alloc o) g a n cap B :=
  h.kept (World.grownBy_alloc w o none) (by simp) (by simp)
set_option maxHeartbeats 4000000 in
theorem float_any {w0 : World} {g : Nat} {a : Option Addr} {l : List Int} {n cap B : Nat} (hb : Bytes w0 a l n) (hn : n ≤ 1048576) (hB : B ≤ 999960) (w : World) (h : SrcAt w0 w g a n cap B) :
    Calls Tryz.prog 52 #[.pointer (some ⟨g, 0, none⟩)] w fun e w' => ∃ r, (Lit.float .f32 r).wf = true ∧ e = .returned (.float .f32 r) ∧ SrcAt w0 w' g a n cap (B + 10) ∧ w.grownBy w' (some g) := by
  have hO := hidI (fun w (h : SrcAt w0 w g a n cap B) => one_any hb hn (by omega) 12 (by omega) (by omega) w h)
  have hPl2 := hidI (fun w (h : SrcAt w0 w g a n cap (B + 2)) => plain_any hb hn (by omega) w h)
  have hPl4 := hidI (fun w (h : SrcAt w0 w g a n cap (B + 4)) => plain_any hb hn (by omega) w h)
  have hP4 := hidI (fun w (h : SrcAt w0 w g a n cap (B + 2)) => pick_any hb hn (by omega) 4 (by omega) (by omega) w h)
  have hPa := hidI (fun w (h : SrcAt w0 w g a n cap (B + 4)) => pick_any hb hn (by omega) 65536 (by omega) (by omega) w h)
  have hPb := hidI (fun w (h : SrcAt w0 w g a n cap (B + 6)) => pick_any hb hn (by omega) 65536 (by omega) (by omega) w h)
  have hA10 := hidI (fun aa c w (h : SrcAt w0 w g a n cap (B + 4)) hw => among_any hb hn (by omega) aa 10 c (by omega) (by omega) w h hw)
  have hA4 := hidI (fun aa c w (h : SrcAt w0 w g a n cap (B + 8)) hw => among_any hb hn (by omega) aa 4 c (by omega) (by omega) w h hw)
  have hB10 := fun w => build_ten (P := Tryz.prog) w Tryz.underlying100 Tryz.sizeI64 Tryz.zeroI64
  have hB4 := fun w => build_four (P := Tryz.prog) w Tryz.underlying100 Tryz.sizeI64 Tryz.zeroI64
  have hS := hidI h
  clear h
  go_enter Tryz.func52, Tryz.ntmps52
  go_wp2_with (first
    | (go_at_call 50; refine (hO.out _ hS.out).mono ?_; rintro e w1 ⟨b, rfl, hs, hgr⟩; have hS1 := hidI hs; have hG1 := hidI hgr; clear hs hgr hS; cases b)
    | (go_at_call 39; refine (hP4.out _ hS1.out).mono ?_; rintro e w2 ⟨x, ⟨hx0, hx1⟩, rfl, hs, hgr⟩; have hS2 := hidI hs; have hG2 := hidI (grown_trans hG1.out hgr); clear hs hgr hS1; rcases (show x = 0 ∨ x = 1 ∨ x = 2 ∨ x = 3 by omega) with rfl | rfl | rfl | rfl)
    | (go_at_call 79; refine (hPl2.out _ hS1.out).mono ?_; rintro e w2 ⟨r, hr, rfl, hs, hgr⟩; have hS2 := hidI hs; have hG2 := hidI (grown_trans hG1.out hgr); have hwf := hidI hr; clear hs hgr hr hS1)
    | (go_at_call 80; refine (hA10.out _ _ _ (src_alloc hS2.out _) (build_ten_words hS2.out)).mono ?_; rintro e w3 ⟨y, ⟨hy0, hy1⟩, rfl, hs, hgr⟩; have hS3 := hidI hs; have hG3 := hidI (grown_trans (grown_trans hG2.out (World.grownBy_alloc _ _ _)) hgr); clear hs hgr hS2)
    | (go_at_call 39; refine (hPb.out _ hS3.out).mono ?_; rintro e w4 ⟨z, ⟨hz0, hz1⟩, rfl, hs, hgr⟩; have hS4 := hidI hs; have hG4 := hidI (grown_trans hG3.out hgr); clear hs hgr hS3)
    | (go_at_call 39; refine (hPa.out _ hS2.out).mono ?_; rintro e w3 ⟨y, ⟨hy0, hy1⟩, rfl, hs, hgr⟩; have hS3 := hidI hs; have hG3 := hidI (grown_trans hG2.out hgr); clear hs hgr hS2)
    | (go_at_call 79; refine (hPl4.out _ hS2.out).mono ?_; rintro e w3 ⟨r, hr, rfl, hs, hgr⟩; have hS3 := hidI hs; have hG3 := hidI (grown_trans hG2.out hgr); have hwf := hidI hr; clear hs hgr hr hS2)
    | (go_at_call 80; refine (hA4.out _ _ _ (src_alloc hS3.out _) (build_four_words hS3.out)).mono ?_; rintro e w4 ⟨y, ⟨hy0, hy1⟩, rfl, hs, hgr⟩; have hS4 := hidI hs; have hG4 := hidI (grown_trans (grown_trans hG3.out (World.grownBy_alloc _ _ _)) hgr); clear hs hgr hS3)
    | (go_at_call 51; refine (from_int _ (by omega) (by omega) _).mono ?_; rintro e w5 ⟨q, hq, rfl, rfl⟩; have hwq := hidI hq; clear hq)
    | (refine wpList_float rfl .mul _ _ _ _ rfl rfl .f32 _ _ rfl rfl ?_; intro p m hp))
  all_goals go_ret
  all_goals first
    | exact ⟨_, hwf.out, rfl, hS2.out.more (by omega), hG2.out⟩
    | exact ⟨_, hwq.out, rfl, hS3.out.more (by omega), hG3.out⟩
    | exact ⟨_, hwq.out, rfl, hS4.out.more (by omega), hG4.out⟩
    | exact ⟨_, hp.2, rfl, (hS4.out.more (by omega)).draws _, grown_draws hG4.out _⟩
theorem own_ne {w : World} {base e size n cap m g g' : Nat} {xs : List Value} (h : w.ownsRow base e size (.slice (some ⟨g', 0, none⟩) n cap) m xs) (hg : g < base) : g' ≠ g := by
  have := (h.lt g' rfl).1
  omega
theorem src_grown {w0 w w' : World} {g g' j vc n cap B : Nat} {a : Option Addr} (h : SrcAt w0 w g a n cap B) (hg : w.grownBy w' (Value.slice (some ⟨g', 0, none⟩) j vc).ownBlock) (hne : g' ≠ g) (hge : w0.heap.size ≤ g') : SrcAt w0 w' g a n cap B :=
  h.kept hg (by simpa [Value.ownBlock] using Ne.symm hne) (fun k hk => by simp [Value.ownBlock] at hk; omega)
theorem base_new {w2 : World} {base e size n cap m g' : Nat} {xs : List Value} (h : w2.ownsRow base e size (.slice (some ⟨g', 0, none⟩) n cap) m xs) (o : Obj) : base ≤ (w2.alloc o).heap.size := by
  have h1 := h.lt g' rfl
  have h2 := new_size w2 o
  omega
theorem wf_push {L : List Nat} {r : Nat} (h : AllWf L) (hr : (Lit.float .f32 r).wf = true) : AllWf (L ++ [r]) := by
  intro i hi
  rw [getD_get hi]
  rw [List.length_append, List.length_singleton] at hi
  by_cases c : i < L.length
  · rw [List.getElem_append_left c, ← getD_get c]; exact h i c
  · have : i = L.length := by omega
    subst this
    simpa using hr
set_option maxHeartbeats 4000000 in
theorem floats_any {w0 : World} {g : Nat} {a : Option Addr} {l : List Int} {n cap B : Nat} (hb : Bytes w0 a l n) (hn : n ≤ 1048576) (N : Nat) (hN : N ≤ 100) (hB : B ≤ 900000) (w : World) (h : SrcAt w0 w g a n cap B) :
    Calls Tryz.prog 63 #[.pointer (some ⟨g, 0, none⟩), .int .i64 N] w fun e w' => ∃ g' vc L, L.length = N ∧ AllWf L ∧ e = .returned (.slice (some ⟨g', 0, none⟩) N vc) ∧ w'.ownsRow w.heap.size 28 1 (.slice (some ⟨g', 0, none⟩) N vc) N (vals L) ∧ Below w0.heap.size w0 w' := by
  obtain ⟨i0, hi, hz0, hz1, hz2⟩ := info_parts Tryz.infoF
  have hI := hidI hi
  have hZ0 := hidI hz0
  have hZ1 := hidI hz1
  have hZ2 := hidI hz2
  clear hi hz0 hz1 hz2
  have hB0 := fun w => run_build0 (P := Tryz.prog) w Tryz.underlying52 Tryz.someF
  have hB1 := fun w c => run_buildF (P := Tryz.prog) w Tryz.underlying52 Tryz.sizeF Tryz.zeroF .f32 c
  have hO := hidI (fun w (h : SrcAt w0 w g a n cap B) => one_any hb hn (by omega) 4 (by omega) (by omega) w h)
  have hF := hidI (fun j (hj : j ≤ 100) w (h : SrcAt w0 w g a n cap (B + 2 + 10 * j)) => float_any hb hn (by omega) w h)
  have hP := hidI (fun j (hj : j ≤ 100) w (h : SrcAt w0 w g a n cap (B + 2 + 10 * j)) => plain_any hb hn (by omega) w h)
  have hS := hidI (src_alloc h (.cells #[] 28))
  have hlt := h.lt
  have hge := h.ge
  clear h
  go_enter Tryz.func63, Tryz.ntmps63
  go_wp2_with (go_at_call 50; refine (hO.out _ hS.out).mono ?_; rintro e w1 ⟨b, rfl, hs, hgr⟩; have hS1 := hidI hs; have hO1 := hidI ((fnone w).kept hgr (.inr (by simp [Value.ownBlock]; omega))); clear hs hgr hS)
  go_loopw [1, 5] (fun q v wr => ∃ (W : World) (j g' vc : Nat) (L : List Nat), W = wr ∧ j ≤ N ∧ q = .int .i64 ((N : Int) - j) ∧ v = .slice (some ⟨g', 0, none⟩) j vc ∧ Hid (L.length = j ∧ AllWf L) ∧ Hid (W.ownsRow w.heap.size 28 1 (.slice (some ⟨g', 0, none⟩) j vc) j (vals L)) ∧ Hid (SrcAt w0 W g a n cap (B + 2 + 10 * j))) (fun q _ _ => (intOf q).toNat)
  case atStart => exact ⟨_, 0, _, _, [], rfl, Nat.zero_le _, by go_num, rfl, ⟨rfl, fun i hi => by simp at hi⟩, hO1.out, hS1.out⟩
  case round =>
    obtain ⟨W, j, g', vc, L, rfl, hj, rfl, rfl, hL, hown, hsrc⟩ := hrel
    clear hO1 hS1
    have hne := own_ne hown.out hlt
    by_cases hjN : j < N
    · cases b
      · go_wp2_with (first | (go_at_call 79; refine (hP.out j (by omega) _ hsrc.out).mono ?_; rintro e w2 ⟨r, hr, rfl, hs, hgr⟩; have hS2 := hidI hs; have hR := hidI hr; have o2 := hidI (hown.out.kept hgr (.inr (by simpa [Value.ownBlock] using hne))); clear hs hgr hr) | (refine wpList_append_own _ rfl _ _ 52 rfl w.heap.size 28 i0 (.float .f32 0) 1 4 Tryz.underlying52 hI.out hZ0.out hZ1.out hZ2.out rfl (by omega) _ j _ rfl (o2.out.alloc _) ⟨w2.heap.size, 0, none⟩ 1 1 [.float .f32 r] rfl rfl (fone_cell _ _) (fone_flat _) ?c3 ?c4 ?c5 ?c6))
        case c3 => unfold maxLen; omega
        case c4 => omega
        case c5 => exact base_new o2.out _
        intro v' w3 h2 h3 _
        rw [vals_push] at h2
        have s3 := hidI ((src_grown (src_alloc hS2.out _) h3 hne (by have := (hown.out.lt g' rfl).1; omega)).more (C := B + 2 + 10 * (j + 1)) (by omega))
        have l3 := hidI (show (L ++ [r]).length = j + 1 ∧ AllWf (L ++ [r]) from ⟨by rw [List.length_append, hL.out.1]; rfl, wf_push hL.out.2 hR.out⟩)
        obtain ⟨g2, vc', rfl, -, -, -⟩ := owns_shape h2 (Nat.succ_pos j)
        have o3 := hidI h2
        clear h2 h3
        go_wp2
        go_roundw
        case rel => exact ⟨w3, j + 1, g2, vc', L ++ [r], rfl, by omega, by go_num, rfl, l3.out, o3.out, s3.out⟩
        case measure => simp [intOf]; omega
      · go_wp2_with (first | (refine wpList_append_own _ rfl _ _ 52 rfl w.heap.size 28 i0 (.float .f32 0) 1 4 Tryz.underlying52 hI.out hZ0.out hZ1.out hZ2.out rfl (by omega) _ j _ rfl (o2.out.alloc _) ⟨w2.heap.size, 0, none⟩ 1 1 [.float .f32 r] rfl rfl (fone_cell _ _) (fone_flat _) ?d3 ?d4 ?d5 ?d6) | (go_at_call 52; refine (hF.out j (by omega) _ hsrc.out).mono ?_; rintro e w2 ⟨r, hr, rfl, hs, hgr⟩; have hS2 := hidI hs; have hR := hidI hr; have o2 := hidI (hown.out.kept hgr (.inr (by simpa [Value.ownBlock] using hne))); clear hs hgr hr))
        case d3 => unfold maxLen; omega
        case d4 => omega
        case d5 => exact base_new o2.out _
        intro v' w3 h2 h3 _
        rw [vals_push] at h2
        have s3 := hidI ((src_grown (src_alloc hS2.out _) h3 hne (by have := (hown.out.lt g' rfl).1; omega)).more (C := B + 2 + 10 * (j + 1)) (by omega))
        have l3 := hidI (show (L ++ [r]).length = j + 1 ∧ AllWf (L ++ [r]) from ⟨by rw [List.length_append, hL.out.1]; rfl, wf_push hL.out.2 hR.out⟩)
        obtain ⟨g2, vc', rfl, -, -, -⟩ := owns_shape h2 (Nat.succ_pos j)
        have o3 := hidI h2
        clear h2 h3
        go_wp2
        go_roundw
        case rel => exact ⟨w3, j + 1, g2, vc', L ++ [r], rfl, by omega, by go_num, rfl, l3.out, o3.out, s3.out⟩
        case measure => simp [intOf]; omega
    · have hj' : j = N := by omega
      subst hj'
      obtain ⟨hL1, hL2⟩ := hL.out
      have hq1 := hidI hL1
      have hq2 := hidI hL2
      clear hL1 hL2
      go_wp2
      go_ret
      exact ⟨g', vc, L, hq1.out, hq2.out, rfl, hown.out, hsrc.out.below⟩
theorem bnumber_any (a : Option Addr) (cap : Nat) (l : List Int) (n : Nat) (hl : n ≤ 1048576) (w : World) (hb : Bytes w a l n) :
    Calls Tryz.prog 19 #[.slice a n cap] w fun e w' => ∃ r, (Lit.float .f32 r).wf = true ∧ e = .returned (.float .f32 r) ∧ Below w.heap.size w w' := by
  have hFr := hidI (from_any a n cap w)
  have hO := hidI (fun w' (h : SrcAt w w' w.heap.size a n cap 0) => one_any hb hl (by omega) 2 (by omega) (by omega) w' h)
  have hF := hidI (fun w' (h : SrcAt w w' w.heap.size a n cap 2) => float_any hb hl (by omega) w' h)
  have hPa := hidI (fun w' (h : SrcAt w w' w.heap.size a n cap 2) => pick_any hb hl (by omega) 65536 (by omega) (by omega) w' h)
  have hPb := hidI (fun w' (h : SrcAt w w' w.heap.size a n cap 4) => pick_any hb hl (by omega) 65536 (by omega) (by omega) w' h)
  go_enter Tryz.func19, Tryz.ntmps19
  go_wp2_with (first
    | (go_at_call 38; refine hFr.out.mono ?_; rintro e w1 ⟨rfl, hs, -⟩; have hS0 := hidI hs; clear hs)
    | (go_at_call 50; refine (hO.out _ hS0.out).mono ?_; rintro e w2 ⟨b, rfl, hs, hgr⟩; have hS1 := hidI hs; clear hs hgr hS0; cases b)
    | (go_at_call 52; refine (hF.out _ hS1.out).mono ?_; rintro e w3 ⟨r, hr, rfl, hs, hgr⟩; have hS2 := hidI hs.below; have hR := hidI hr; clear hs hgr hr)
    | (go_at_call 39; refine (hPb.out _ hS3.out).mono ?_; rintro e w4 ⟨z, ⟨hz0, hz1⟩, rfl, hs, hgr⟩; have hS4 := hidI hs.below; clear hs hgr hS3)
    | (go_at_call 39; refine (hPa.out _ hS1.out).mono ?_; rintro e w3 ⟨y, ⟨hy0, hy1⟩, rfl, hs, hgr⟩; have hS3 := hidI hs; clear hs hgr hS1)
    | (go_at_call 51; refine (from_int _ (by omega) (by omega) _).mono ?_; rintro e w5 ⟨q, hq, rfl, rfl⟩; have hR := hidI hq; clear hq))
  all_goals go_ret
  all_goals first | exact ⟨_, hR.out, rfl, hS2.out⟩ | exact ⟨_, hR.out, rfl, hS4.out⟩
theorem bnumbers_any (a : Option Addr) (cap : Nat) (l : List Int) (n : Nat) (hl : n ≤ 1048576) (N : Nat) (hN : N ≤ 100) (w : World) (hb : Bytes w a l n) :
    Calls Tryz.prog 29 #[.slice a n cap, .int .i64 N] w fun e w' => ∃ g' vc L, L.length = N ∧ AllWf L ∧ e = .returned (.slice (some ⟨g', 0, none⟩) N vc) ∧ w'.ownsRow w.heap.size 28 1 (.slice (some ⟨g', 0, none⟩) N vc) N (vals L) ∧ Below w.heap.size w w' := by
  have hFr := hidI (from_any a n cap w)
  have hF := hidI (fun w' (h : SrcAt w w' w.heap.size a n cap 0) => floats_any hb hl N hN (by omega) w' h)
  go_enter Tryz.func29, Tryz.ntmps29
  go_wp2_with (first
    | (go_at_call 38; refine hFr.out.mono ?_; rintro e w1 ⟨rfl, hs, hlt⟩; have hS0 := hidI hs; have hSz := hidI (Nat.le_of_lt hlt); clear hs hlt)
    | (go_at_call 63; refine (hF.out _ hS0.out).mono ?_; rintro e w2 ⟨g', vc, L, h1, h2, rfl, ho, hB⟩; have hL1 := hidI h1; have hL2 := hidI h2; have hO := hidI (owns_base ho hSz.out); have hBl := hidI hB; clear h1 h2 ho hB))
  go_ret
  exact ⟨g', vc, L, hL1.out, hL2.out, rfl, hO.out, hBl.out⟩
end Go.Proofs.YtogliigpoojfoaaGreatDoor
