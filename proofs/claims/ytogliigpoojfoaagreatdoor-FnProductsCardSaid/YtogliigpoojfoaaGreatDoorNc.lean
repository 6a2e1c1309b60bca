/-
  Complex numbers drawn out of bytes.
-/
import Derived.Test.YtogliigpoojfoaaGreatDoorMc
import Derived.Test.YtogliigpoojfoaaGreatDoorCr
namespace Go.Proofs.YtogliigpoojfoaaGreatDoor
set_option maxRecDepth 100000
open Go.RowKit Fl

theorem fine_any {w0 : World} {g : Nat} {a : Option Addr} {l : List Int} {n cap B : Nat} (hb : Bytes w0 a l n) (hn : n ≤ 1048576) (hB : B ≤ 999980) (w : World) (h : SrcAt w0 w g a n cap B) :
    Calls Tryz.prog 57 #[.pointer (some ⟨g, 0, none⟩)] w fun e w' => ∃ r t, ((Lit.float .f32 r).wf = true ∧ (Lit.float .f32 t).wf = true) ∧ e = .returned (.complex .f32 r t) ∧ SrcAt w0 w' g a n cap (B + 20) ∧ w.grownBy w' (some g) := by
  have hP := hidI (fun w (h : SrcAt w0 w g a n cap B) => pick_any hb hn (by omega) 65 (by omega) (by omega) w h)
  have hP2 := hidI (fun w (h : SrcAt w0 w g a n cap (B + 2)) => pick_any hb hn (by omega) 65 (by omega) (by omega) w h)
  have hS := hidI h
  clear h
  go_enter Tryz.func57, Tryz.ntmps57
  go_wp2_with (first
    | (go_at_call 39; refine (hP2.out _ (hS1.out.draws _)).mono ?_; rintro e w2 ⟨y, ⟨hy0, hy1⟩, rfl, hs, hgr⟩; have hS2 := hidI hs; have hG2 := hidI (grown_trans (grown_draws hG1.out _) hgr); clear hs hgr hS1)
    | (go_at_call 39; refine (hP.out _ hS.out).mono ?_; rintro e w1 ⟨x, ⟨hx0, hx1⟩, rfl, hs, hgr⟩; have hS1 := hidI hs; have hG1 := hidI hgr; clear hs hgr hS)
    | (have _ := hr1; refine wpList_float rfl .quo _ _ _ _ rfl rfl .f32 _ _ rfl rfl ?_; intro t m2 hr2)
    | (refine wpList_float rfl .quo _ _ _ _ rfl rfl .f32 _ _ rfl rfl ?_; intro r m1 hr1))
  go_ret
  exact ⟨r, t, ⟨hr1.2, hr2.2⟩, rfl, (hS2.out.draws _).more (by omega), grown_draws hG2.out _⟩
theorem dcomplex_any {w0 : World} {g : Nat} {a : Option Addr} {l : List Int} {n cap B : Nat} (hb : Bytes w0 a l n) (hn : n ≤ 1048576) (hB : B ≤ 999940) (w : World) (h : SrcAt w0 w g a n cap B) :
    Calls Tryz.prog 56 #[.pointer (some ⟨g, 0, none⟩)] w fun e w' => ∃ r t, ((Lit.float .f32 r).wf = true ∧ (Lit.float .f32 t).wf = true) ∧ e = .returned (.complex .f32 r t) ∧ SrcAt w0 w' g a n cap (B + 20) ∧ w.grownBy w' (some g) := by
  have hP := hidI (fun w (h : SrcAt w0 w g a n cap B) => float_any hb hn (by omega) w h)
  have hP2 := hidI (fun w (h : SrcAt w0 w g a n cap (B + 10)) => float_any hb hn (by omega) w h)
  have hS := hidI h
  clear h
  go_enter Tryz.func56, Tryz.ntmps56
  go_wp2_with (first
    | (go_at_call 52; refine (hP2.out _ hS1.out).mono ?_; rintro e w2 ⟨t, ht, rfl, hs, hgr⟩; have hS2 := hidI hs; have hG2 := hidI (grown_trans hG1.out hgr); have hT := hidI ht; clear hs hgr hS1 ht)
    | (go_at_call 52; refine (hP.out _ hS.out).mono ?_; rintro e w1 ⟨r, hr, rfl, hs, hgr⟩; have hS1 := hidI hs; have hG1 := hidI hgr; have hR := hidI hr; clear hs hgr hS hr))
  go_ret
  exact ⟨r, t, ⟨hR.out, hT.out⟩, rfl, hS2.out.more (by omega), hG2.out⟩
theorem cwf_push {L : List (Nat × Nat)} {r t : Nat} (h : CWf L) (hr : (Lit.float .f32 r).wf = true ∧ (Lit.float .f32 t).wf = true) : CWf (L ++ [(r, t)]) := by
  intro i hi
  rw [cgetD hi]
  rw [List.length_append, List.length_singleton] at hi
  by_cases c : i < L.length
  · rw [List.getElem_append_left c, ← cgetD c]; exact h i c
  · have : i = L.length := by omega
    subst this
    simpa using hr
set_option maxHeartbeats 4000000 in
theorem complexes_any {w0 : World} {g : Nat} {a : Option Addr} {l : List Int} {n cap B : Nat} (hb : Bytes w0 a l n) (hn : n ≤ 1048576) (N : Nat) (hN : N ≤ 100) (hB : B ≤ 900000) (w : World) (h : SrcAt w0 w g a n cap B) :
    Calls Tryz.prog 45 #[.pointer (some ⟨g, 0, none⟩), .int .i64 N] w fun e w' => ∃ g' vc L, L.length = N ∧ CWf L ∧ e = .returned (.slice (some ⟨g', 0, none⟩) N vc) ∧ w'.ownsRow w.heap.size 24 1 (.slice (some ⟨g', 0, none⟩) N vc) N (cvals L) ∧ Below w0.heap.size w0 w' := by
  obtain ⟨i0, hi, hz0, hz1, hz2⟩ := info_parts Tryz.infoC
  have hI := hidI hi
  have hZ0 := hidI hz0
  have hZ1 := hidI hz1
  have hZ2 := hidI hz2
  clear hi hz0 hz1 hz2
  have hB0 := fun w => run_build0 (P := Tryz.prog) w Tryz.underlying25 Tryz.someC
  have hB1 := fun w c d => run_buildC (P := Tryz.prog) w Tryz.underlying25 Tryz.sizeC Tryz.zeroC .f32 c d
  have hO := hidI (fun w (h : SrcAt w0 w g a n cap B) => one_any hb hn (by omega) 5 (by omega) (by omega) w h)
  have hF := hidI (fun j (hj : j ≤ 100) w (h : SrcAt w0 w g a n cap (B + 2 + 20 * j)) => dcomplex_any hb hn (by omega) w h)
  have hP := hidI (fun j (hj : j ≤ 100) w (h : SrcAt w0 w g a n cap (B + 2 + 20 * j)) => fine_any hb hn (by omega) w h)
  have hS := hidI (src_alloc h (.cells #[] 24))
  have hlt := h.lt
  have hge := h.ge
  clear h
  go_enter Tryz.func45, Tryz.ntmps45
  go_wp2_with (go_at_call 50; refine (hO.out _ hS.out).mono ?_; rintro e w1 ⟨b, rfl, hs, hgr⟩; have hS1 := hidI hs; have hO1 := hidI ((cnone w).kept hgr (.inr (by simp [Value.ownBlock]; omega))); clear hs hgr hS)
  go_loopw [1, 5] (fun q v wr => ∃ (W : World) (j g' vc : Nat) (L : List (Nat × Nat)), W = wr ∧ j ≤ N ∧ q = .int .i64 ((N : Int) - j) ∧ v = .slice (some ⟨g', 0, none⟩) j vc ∧ Hid (L.length = j ∧ CWf L) ∧ Hid (W.ownsRow w.heap.size 24 1 (.slice (some ⟨g', 0, none⟩) j vc) j (cvals L)) ∧ Hid (SrcAt w0 W g a n cap (B + 2 + 20 * j))) (fun q _ _ => (intOf q).toNat)
  case atStart => exact ⟨_, 0, _, _, [], rfl, Nat.zero_le _, by go_num, rfl, ⟨rfl, fun i hi => by simp at hi⟩, hO1.out, hS1.out⟩
  case round =>
    obtain ⟨W, j, g', vc, L, rfl, hj, rfl, rfl, hL, hown, hsrc⟩ := hrel
    clear hO1 hS1
    have hne := own_ne hown.out hlt
    by_cases hjN : j < N
    · cases b
      · go_wp2_with (first | (go_at_call 57; refine (hP.out j (by omega) _ hsrc.out).mono ?_; rintro e w2 ⟨r, t, hr, rfl, hs, hgr⟩; have hS2 := hidI hs; have hR := hidI hr; have o2 := hidI (hown.out.kept hgr (.inr (by simpa [Value.ownBlock] using hne))); clear hs hgr hr) | (refine wpList_append_own _ rfl _ _ 25 rfl w.heap.size 24 i0 (.complex .f32 0 0) 1 8 Tryz.underlying25 hI.out hZ0.out hZ1.out hZ2.out rfl (by omega) _ j _ rfl (o2.out.alloc _) ⟨w2.heap.size, 0, none⟩ 1 1 [.complex .f32 r t] rfl rfl (cone_cell _ _ _) (cone_flat _ _) ?c3 ?c4 ?c5 ?c6))
        case c3 => unfold maxLen; omega
        case c4 => omega
        case c5 => exact base_new o2.out _
        intro v' w3 h2 h3 _
        rw [cvals_push] at h2
        have s3 := hidI ((src_grown (src_alloc hS2.out _) h3 hne (by have := (hown.out.lt g' rfl).1; omega)).more (C := B + 2 + 20 * (j + 1)) (by omega))
        have l3 := hidI (show (L ++ [(r, t)]).length = j + 1 ∧ CWf (L ++ [(r, t)]) from ⟨by rw [List.length_append, hL.out.1]; rfl, cwf_push hL.out.2 hR.out⟩)
        obtain ⟨g2, vc', rfl, -, -, -⟩ := owns_shape h2 (Nat.succ_pos j)
        have o3 := hidI h2
        clear h2 h3
        go_wp2
        go_roundw
        case rel => exact ⟨w3, j + 1, g2, vc', L ++ [(r, t)], rfl, by omega, by go_num, rfl, l3.out, o3.out, s3.out⟩
        case measure => simp [intOf]; omega
      · go_wp2_with (first | (refine wpList_append_own _ rfl _ _ 25 rfl w.heap.size 24 i0 (.complex .f32 0 0) 1 8 Tryz.underlying25 hI.out hZ0.out hZ1.out hZ2.out rfl (by omega) _ j _ rfl (o2.out.alloc _) ⟨w2.heap.size, 0, none⟩ 1 1 [.complex .f32 r t] rfl rfl (cone_cell _ _ _) (cone_flat _ _) ?d3 ?d4 ?d5 ?d6) | (go_at_call 56; refine (hF.out j (by omega) _ hsrc.out).mono ?_; rintro e w2 ⟨r, t, hr, rfl, hs, hgr⟩; have hS2 := hidI hs; have hR := hidI hr; have o2 := hidI (hown.out.kept hgr (.inr (by simpa [Value.ownBlock] using hne))); clear hs hgr hr))
        case d3 => unfold maxLen; omega
        case d4 => omega
        case d5 => exact base_new o2.out _
        intro v' w3 h2 h3 _
        rw [cvals_push] at h2
        have s3 := hidI ((src_grown (src_alloc hS2.out _) h3 hne (by have := (hown.out.lt g' rfl).1; omega)).more (C := B + 2 + 20 * (j + 1)) (by omega))
        have l3 := hidI (show (L ++ [(r, t)]).length = j + 1 ∧ CWf (L ++ [(r, t)]) from ⟨by rw [List.length_append, hL.out.1]; rfl, cwf_push hL.out.2 hR.out⟩)
        obtain ⟨g2, vc', rfl, -, -, -⟩ := owns_shape h2 (Nat.succ_pos j)
        have o3 := hidI h2
        clear h2 h3
        go_wp2
        go_roundw
        case rel => exact ⟨w3, j + 1, g2, vc', L ++ [(r, t)], rfl, by omega, by go_num, rfl, l3.out, o3.out, s3.out⟩
        case measure => simp [intOf]; omega
    · have hj' : j = N := by omega
      subst hj'
      obtain ⟨hL1, hL2⟩ := hL.out
      have hq1 := hidI hL1
      have hq2 := hidI hL2
      clear hL1 hL2
      go_wp2
      go_ret
      exact ⟨g', vc, L, hq1.out, hq2.out, rfl, hown.out, hsrc.out.below⟩
theorem bany_any (a : Option Addr) (cap : Nat) (l : List Int) (n : Nat) (hl : n ≤ 1048576) (N : Nat) (hN : N ≤ 100) (w : World) (hb : Bytes w a l n) :
    Calls Tryz.prog 15 #[.slice a n cap, .int .i64 N] w fun e w' => ∃ g' vc L, L.length = N ∧ CWf L ∧ e = .returned (.slice (some ⟨g', 0, none⟩) N vc) ∧ w'.ownsRow w.heap.size 24 1 (.slice (some ⟨g', 0, none⟩) N vc) N (cvals L) ∧ Below w.heap.size w w' := by
  have hFr := hidI (from_any a n cap w)
  have hF := hidI (fun w' (h : SrcAt w w' w.heap.size a n cap 0) => complexes_any hb hl N hN (by omega) w' h)
  go_enter Tryz.func15, Tryz.ntmps15
  go_wp2_with (first
    | (go_at_call 38; refine hFr.out.mono ?_; rintro e w1 ⟨rfl, hs, hlt⟩; have hS0 := hidI hs; have hSz := hidI (Nat.le_of_lt hlt); clear hs hlt)
    | (go_at_call 45; refine (hF.out _ hS0.out).mono ?_; rintro e w2 ⟨g', vc, L, h1, h2, rfl, ho, hB⟩; have hL1 := hidI h1; have hL2 := hidI h2; have hO := hidI (owns_base ho hSz.out); have hBl := hidI hB; clear h1 h2 ho hB))
  go_ret
  exact ⟨g', vc, L, hL1.out, hL2.out, rfl, hO.out, hBl.out⟩
theorem bcomplex_any (a : Option Addr) (cap : Nat) (l : List Int) (n : Nat) (hl : n ≤ 1048576) (w : World) (hb : Bytes w a l n) :
    Calls Tryz.prog 22 #[.slice a n cap] w fun e w' => ∃ r t, ((Lit.float .f32 r).wf = true ∧ (Lit.float .f32 t).wf = true) ∧ e = .returned (.complex .f32 r t) ∧ Below w.heap.size w w' := by
  have hFr := hidI (from_any a n cap w)
  have hO := hidI (fun w' (h : SrcAt w w' w.heap.size a n cap 0) => one_any hb hl (by omega) 4 (by omega) (by omega) w' h)
  have hF := hidI (fun w' (h : SrcAt w w' w.heap.size a n cap 2) => dcomplex_any hb hl (by omega) w' h)
  have hP := hidI (fun w' (h : SrcAt w w' w.heap.size a n cap 2) => fine_any hb hl (by omega) w' h)
  go_enter Tryz.func22, Tryz.ntmps22
  go_wp2_with (first
    | (go_at_call 38; refine hFr.out.mono ?_; rintro e w1 ⟨rfl, hs, -⟩; have hS0 := hidI hs; clear hs)
    | (go_at_call 50; refine (hO.out _ hS0.out).mono ?_; rintro e w2 ⟨b, rfl, hs, hgr⟩; have hS1 := hidI hs; clear hs hgr hS0; cases b)
    | (go_at_call 56; refine (hF.out _ hS1.out).mono ?_; rintro e w3 ⟨r, t, hr, rfl, hs, hgr⟩; have hS2 := hidI hs.below; have hR := hidI hr; clear hs hgr hr)
    | (go_at_call 57; refine (hP.out _ hS1.out).mono ?_; rintro e w3 ⟨r, t, hr, rfl, hs, hgr⟩; have hS2 := hidI hs.below; have hR := hidI hr; clear hs hgr hr))
  all_goals go_ret
  all_goals exact ⟨r, t, hR.out, rfl, hS2.out⟩
def wholeC2 (p : Int × Int) : Nat × Nat := (floatOfInt .f32 p.1, floatOfInt .f32 p.2)
set_option maxHeartbeats 4000000 in
theorem bwhole_any (a : Option Addr) (cap : Nat) (l : List Int) (n : Nat) (hl : n ≤ 1048576) (w : World) (hb : Bytes w a l n) :
    Calls Tryz.prog 6 #[.slice a n cap, .int .i64 1, .int .i64 200] w fun e w' => ∃ (g' vc : Nat) (x y : Int), ((-200 ≤ x ∧ x ≤ 200) ∧ -200 ≤ y ∧ y ≤ 200) ∧ e = .returned (.slice (some ⟨g', 0, none⟩) 1 vc) ∧ w'.ownsRow w.heap.size 24 1 (.slice (some ⟨g', 0, none⟩) 1 vc) 1 (cvals [wholeC2 (x, y)]) ∧ Below w.heap.size w w' := by
  obtain ⟨i0, hi, hz0, hz1, hz2⟩ := info_parts Tryz.infoC
  have hI := hidI hi
  have hZ0 := hidI hz0
  have hZ1 := hidI hz1
  have hZ2 := hidI hz2
  clear hi hz0 hz1 hz2
  have hB0 := fun w => run_build0 (P := Tryz.prog) w Tryz.underlying25 Tryz.someC
  have hB1 := fun w c d => run_buildC (P := Tryz.prog) w Tryz.underlying25 Tryz.sizeC Tryz.zeroC .f32 c d
  have hFr := hidI (from_any a n cap w)
  have hP := hidI (fun w' (h : SrcAt w w' w.heap.size a n cap 0) => pick_any hb hl (by omega) 401 (by omega) (by omega) w' h)
  have hP2 := hidI (fun w' (h : SrcAt w w' w.heap.size a n cap 2) => pick_any hb hl (by omega) 401 (by omega) (by omega) w' h)
  go_enter Tryz.func6, Tryz.ntmps6
  go_wp2_with (go_at_call 38; refine hFr.out.mono ?_; rintro e w1 ⟨rfl, hs, hlt⟩; have hS0 := hidI (src_alloc hs (.cells #[] 24)); have hO1 := hidI (cnone w1); have hlw := hidI hlt; clear hs hlt)
  go_loopw [1, 8] (fun q v wr => ∃ (W : World) (j g' vc : Nat) (L : List (Int × Int)), W = wr ∧ j ≤ 1 ∧ q = .int .i64 (1 - (j : Int)) ∧ v = .slice (some ⟨g', 0, none⟩) j vc ∧ Hid (L.length = j ∧ ∀ p ∈ L, (-200 ≤ p.1 ∧ p.1 ≤ 200) ∧ -200 ≤ p.2 ∧ p.2 ≤ 200) ∧ Hid (W.ownsRow w1.heap.size 24 1 (.slice (some ⟨g', 0, none⟩) j vc) j (cvals (L.map wholeC2))) ∧ Hid (j = 0 → SrcAt w W w.heap.size a n cap 0) ∧ Hid (Below w.heap.size w W)) (fun q _ _ => (intOf q).toNat)
  case atStart => exact ⟨_, 0, _, _, [], rfl, Nat.zero_le _, rfl, rfl, ⟨rfl, fun i hi => by simp at hi⟩, hO1.out, hidI (fun _ => hS0.out), hS0.out.below⟩
  case round =>
    obtain ⟨W, j, g', vc, L, rfl, hj, rfl, rfl, hL, hown, hsrc, hbel⟩ := hrel
    clear hO1 hS0
    have hne := own_ne hown.out hlw.out
    by_cases hj1 : j < 1
    · obtain rfl : j = 0 := by omega
      obtain rfl : L = [] := List.eq_nil_of_length_eq_zero hL.out.1
      have hsr := hidI (hsrc.out rfl)
      clear hL hsrc hbel
      go_wp2_with (first
        | (go_at_call 39; refine (hP2.out _ hS1.out).mono ?_; rintro e w3 ⟨y, ⟨hy0, hy1⟩, rfl, hs, hgr⟩; have hS2 := hidI hs; have o2 := hidI (o1.out.kept hgr (.inr (by simpa [Value.ownBlock] using hne))); clear hs hgr hS1)
        | (go_at_call 39; refine (hP.out _ hsr.out).mono ?_; rintro e w2 ⟨x, ⟨hx0, hx1⟩, rfl, hs, hgr⟩; have hS1 := hidI hs; have o1 := hidI (hown.out.kept hgr (.inr (by simpa [Value.ownBlock] using hne))); clear hs hgr hsr)
        | (refine wpList_append_own _ rfl _ _ 25 rfl w1.heap.size 24 i0 (.complex .f32 0 0) 1 8 Tryz.underlying25 hI.out hZ0.out hZ1.out hZ2.out rfl (by omega) _ 0 _ rfl (o2.out.alloc _) ⟨w3.heap.size, 0, none⟩ 1 1 [.complex .f32 (floatOfInt .f32 (x - 200)) (floatOfInt .f32 (y - 200))] rfl rfl (cone_cell _ _ _) (cone_flat _ _) ?c3 ?c4 ?c5 ?c6))
      case c3 => unfold maxLen; omega
      case c4 => omega
      case c5 => exact base_new o2.out _
      intro v' w4 h2 h3 _
      have s3 := hidI (src_grown (src_alloc hS2.out _) h3 hne (by have := (hown.out.lt g' rfl).1; have := hlw.out; omega)).below
      obtain ⟨g2, vc', rfl, -, -, -⟩ := owns_shape h2 (Nat.succ_pos 0)
      have o3 := hidI (show w4.ownsRow w1.heap.size 24 1 (.slice (some ⟨g2, 0, none⟩) 1 vc') 1 (cvals ([(x - 200, y - 200)].map wholeC2)) from h2)
      have l3 := hidI (show ([(x - 200, y - 200)] : List (Int × Int)).length = 1 ∧ ∀ p ∈ ([(x - 200, y - 200)] : List (Int × Int)), (-200 ≤ p.1 ∧ p.1 ≤ 200) ∧ -200 ≤ p.2 ∧ p.2 ≤ 200 from ⟨rfl, fun p hp => by simp at hp; subst hp; simp only []; omega⟩)
      clear h2 h3
      go_wp2
      go_roundw
      case rel => exact ⟨w4, 1, g2, vc', [(x - 200, y - 200)], rfl, by omega, by go_num, rfl, l3.out, o3.out, hidI (fun h : (1 : Nat) = 0 => absurd h (by decide)), s3.out⟩
      case measure => simp [intOf]
    · obtain rfl : j = 1 := by omega
      obtain ⟨hL1, hL2⟩ := hL.out
      obtain ⟨p, rfl⟩ := List.length_eq_one_iff.1 hL1
      have hq := hidI (hL2 p (List.mem_singleton.2 rfl))
      have hO := hidI (owns_base hown.out (Nat.le_of_lt hlw.out))
      clear hL1 hL2 hL hown hsrc
      go_wp2
      go_ret
      exact ⟨g', vc, p.1, p.2, hq.out, rfl, hO.out, hbel.out⟩
end Go.Proofs.YtogliigpoojfoaaGreatDoor
