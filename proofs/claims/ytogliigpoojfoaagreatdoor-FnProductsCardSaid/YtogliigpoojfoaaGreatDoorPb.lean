/-
  The law on products: the walk.
-/
import Derived.Test.YtogliigpoojfoaaGreatDoorPa
import Derived.Test.YtogliigpoojfoaaGreatDoorKd
import Derived.Deep.DeepCutAuto
namespace Go.Proofs.YtogliigpoojfoaaGreatDoor
set_option maxRecDepth 100000
open Go.RowKit Fl

theorem same_isP {a b : Nat} {q : Bool} (h : sameB a b = q) (w : World) :
    Calls Tryz.prog 10 #[.float .f32 a, .float .f32 b] w fun e w' => e = .returned (.bool q) ∧ w = w' := by
  refine (ssame_any a b w).mono ?_
  rintro e w' ⟨rfl, rfl⟩
  rw [h]
  exact ⟨rfl, rfl⟩
theorem sfin_is {a : Nat} {q : Bool} (h : finB .f32 a = q) (w : World) :
    Calls Tryz.prog 27 #[.float .f32 a] w fun e w' => e = .returned (.bool q) ∧ ∃ m, w' = w.drewN m := by
  refine (sfin_any a w).mono ?_
  rintro e w' h'
  rw [h] at h'
  first | exact ⟨h'.1, h'.2⟩ | exact ⟨h'.1, 0, h'.2⟩
theorem is_ne {a b : Nat} {n : Int} (ha : IsW a n) (hb : IsW b n) : (FloatKind.f32.format.order a b != some .eq) = false := by
  unfold bne; rw [is_eq ha hb]; rfl
theorem sq_zero {s t : Int} (h : s * s + t * t = 0) : s = 0 ∧ t = 0 := by
  have n1 := sq_nonneg s
  have n2 := sq_nonneg t
  exact ⟨by rcases Int.mul_eq_zero.1 (show s * s = 0 by omega) with c | c <;> exact c, by rcases Int.mul_eq_zero.1 (show t * t = 0 by omega) with c | c <;> exact c⟩
theorem CRow.drewC {w : World} {a : Option Addr} {l : List (Nat × Nat)} (h : CRow w a l) (n : Nat) : CRow (w.drewN n) a l := h.below (Below.draws (Below.refl _ _) n)
theorem w64 {z X : Int} (h : X = z) (hb : z.natAbs ≤ 1000000) : wrap64 z = X := by
  rw [h]; exact IntWalk.wrap64_in _ (by omega)
set_option maxHeartbeats 8000000 in
theorem law_FnProducts_few (a0 a1 : Option Addr) (c0 c1 : Nat) (l0 l1 : List Int) (n0 n1 : Nat) (h0 : n0 ≤ 1048576) (h1 : n1 ≤ 1048576) (w : World) (hb0 : Bytes w a0 l0 n0) (hb1 : Bytes w a1 l1 n1) (mx : Int) (hm : w.cell? ⟨4, 0, none⟩ = some (.int .i64 mx)) (hO : HexOk w) :
    Calls Tryz.prog 3 #[.slice a0 n0 c0, .slice a1 n1 c1] w fun e w' => e = .returned (.bool true) ∧ Below w.heap.size w w' := by
  have hB0 := hidI hb0
  have hB1 := hidI hb1
  have hM := hidI hm
  have hX := hidI hO
  have hW0 := hidI (fun w h => bwhole_part a0 c0 l0 n0 h0 w h)
  have hW1 := hidI (fun w h => bwhole_part a1 c1 l1 n1 h1 w h)
  have hNz := hidI (fun w h => bnumber_any a0 c0 l0 n0 h0 w h)
  have hCz := hidI (fun w h => bcomplex_any a0 c0 l0 n0 h0 w h)
  have hNs := hidI (fun N (hN : N ≤ 100) w h => bany_any a1 c1 l1 n1 h1 N hN w h)
  have hAt := hidI (fun w (h : Bytes w a0 l0 n0) => (show Calls Tryz.prog 16 #[.slice a0 n0 c0, .int .i64 0, .int .i64 9] w fun e w' => ∃ k : Nat, k < 9 ∧ e = .returned (.int .i64 k) ∧ ∃ m, w' = w.drewN m from by
    have := at_any a0 c0 l0 (by rw [h.len]; exact h0) 0 9 (by omega) (by omega) (by omega) w h.row h.all
    rw [h.len] at this
    exact this))
  clear hb0 hb1 hm hO
  go_enter Tryz.func3, Tryz.ntmps3
  go_wp2_with (first
    | (go_at_call 5; refine (long_no _ _ _ _ _ _ h0 h1 _).mono ?_; rintro e w' ⟨rfl, rfl⟩)
    | (go_at_call 6; refine (hW1.out _ (hB1.out.below b1.out)).mono ?_; rintro e w2 ⟨g2, v2, s, t, c, d, hp2, rfl, hc2, hB⟩; have hP2 := hidI hp2; have b2 := hidI (b1.out.trans (hB.mono b1.out.size)); clear hp2 hB)
    | (go_at_call 6; refine (hW0.out _ hB0.out).mono ?_; rintro e w1 ⟨g1, v1, n, m, a, b, hp1, rfl, hc1, hB⟩; have hP1 := hidI hp1; have b1 := hidI hB; clear hp1 hB))
  obtain ⟨pa, pb⟩ := hP1.out
  obtain ⟨pc, pd⟩ := hP2.out
  have hca := fun w => run_convert_float_int (P := Tryz.prog) w 28 2 .f32 .i64 a n (by rw [Tryz.underlying28]; rfl) Tryz.underlying2 pa.cut
  have hcb := fun w => run_convert_float_int (P := Tryz.prog) w 28 2 .f32 .i64 b m (by rw [Tryz.underlying28]; rfl) Tryz.underlying2 pb.cut
  have hcc := fun w => run_convert_float_int (P := Tryz.prog) w 28 2 .f32 .i64 c s (by rw [Tryz.underlying28]; rfl) Tryz.underlying2 pc.cut
  have hcd := fun w => run_convert_float_int (P := Tryz.prog) w 28 2 .f32 .i64 d t (by rw [Tryz.underlying28]; rfl) Tryz.underlying2 pd.cut
  have k1 := mul_bd pa.bd pc.bd
  have k2 := mul_bd pb.bd pd.bd
  have k3 := mul_bd pa.bd pd.bd
  have k4 := mul_bd pb.bd pc.bd
  have k5 := mul_bd pa.bd pa.bd
  have k6 := mul_bd pb.bd pb.bd
  obtain ⟨A, eA⟩ : ∃ A, A = n * s := ⟨_, rfl⟩
  obtain ⟨B, eB⟩ : ∃ A, A = m * t := ⟨_, rfl⟩
  obtain ⟨C, eC⟩ : ∃ A, A = n * t := ⟨_, rfl⟩
  obtain ⟨D, eD⟩ : ∃ A, A = m * s := ⟨_, rfl⟩
  obtain ⟨E, eE⟩ : ∃ A, A = n * n := ⟨_, rfl⟩
  obtain ⟨F, eF⟩ : ∃ A, A = m * m := ⟨_, rfl⟩
  obtain ⟨X, eX⟩ : ∃ X, X = A - B := ⟨_, rfl⟩
  obtain ⟨Y, eY⟩ : ∃ X, X = C + D := ⟨_, rfl⟩
  obtain ⟨Z, eZ⟩ : ∃ X, X = E + F := ⟨_, rfl⟩
  have m1 := w64 eA (by omega)
  have m2 := w64 eB (by omega)
  have m3 := w64 eC (by omega)
  have m4 := w64 eD (by omega)
  have m5 := w64 eE (by omega)
  have m6 := w64 eF (by omega)
  have m7 := w64 eX (by omega)
  have m8 := w64 eY (by omega)
  have m9 := w64 eZ (by omega)
  obtain ⟨fx, efx⟩ : ∃ f, f = floatOfInt .f32 X := ⟨_, rfl⟩
  obtain ⟨fy, efy⟩ : ∃ f, f = floatOfInt .f32 Y := ⟨_, rfl⟩
  obtain ⟨fz, efz⟩ : ∃ f, f = floatOfInt .f32 Z := ⟨_, rfl⟩
  have hcx := fun w => run_int32 (P := Tryz.prog) w 2 28 efx (by rw [Tryz.underlying2]; rfl) Tryz.underlying28
  have hcy := fun w => run_int32 (P := Tryz.prog) w 2 28 efy (by rw [Tryz.underlying2]; rfl) Tryz.underlying28
  have hcz := fun w => run_int32 (P := Tryz.prog) w 2 28 efz (by rw [Tryz.underlying2]; rfl) Tryz.underlying28
  have ix := hidI (show IsW fx (n * s - m * t) from by rw [efx, eX, eA, eB]; exact isw_int (by omega))
  have iy := hidI (show IsW fy (n * t + m * s) from by rw [efy, eY, eC, eD]; exact isw_int (by omega))
  have iz := hidI (show IsW fz (n * n + m * m) from by rw [efz, eZ, eE, eF]; exact isw_int (by omega))
  have sz := hidI (show sgn Ieee.single fz = false from by
    rw [efz, eZ, eE, eF]
    have n1 := sq_nonneg n
    have n2 := sq_nonneg m
    exact sgn_int (by omega) (by omega))
  have hM1 := hidI (fun w => mul_whole pa.is pb.is pc.is pd.is pa.bd pb.bd pc.bd pd.bd w)
  have hM2 := hidI (fun w => mul_whole pc.is pd.is pa.is pb.is pc.bd pd.bd pa.bd pb.bd w)
  have hM3 := hidI (fun w => mul_whole pa.is pb.is pa.is (isw_neg pb.is) pa.bd pb.bd pa.bd (by rw [Int.natAbs_neg]; exact pb.bd) w)
  have hPw := hidI (fun w => pow_whole pa.is pb.is pa.bd pb.bd w)
  have hLg := hidI (fun w => long_whole pa.is pb.is pa.bd pb.bd w)
  have hRt := hidI (fun w => sroot_any fz iz.out.2 w)
  have hQu := hidI (fun x y hx hy h0 w => quo_whole (x := x) (y := y) (n := n) (m := m) hx hy pc.is pd.is pa.bd pb.bd pc.bd pd.bd h0 w)
  have hSc := hidI (fun w => scale_any a b 1073741824 w)
  obtain ⟨da, eda, ta⟩ := pa.dbl
  obtain ⟨db, edb, tb⟩ := pb.dbl
  have hTa := hidI ta
  have hTb := hidI tb
  have hsum := fun w => run_complex_sum (P := Tryz.prog) w .add (.inl rfl) 24 .f32 a b a b da db (by unfold cSumBits; rw [eda, edb]; rfl)
  have hia := hidI pa.is
  have hib := hidI pb.is
  have zc := is_zero pc.is
  have zd := is_zero pd.is
  have hs0 := pc.bd
  have ht0 := pd.bd
  clear k1 k2 k3 k4 k5 k6 eA eB eC eD eE eF eX eY eZ efx efy efz ta tb eda edb hc1 hc2 pa pb pc pd hP1 hP2
  have hZc := hidI zc
  have hZd := hidI zd
  clear zc zd hs0 ht0
  go_upto_region 11 with (first
    | (go_at_call 7; (with_reducible refine (hM1.out _).mono ?_); rintro e w' ⟨x, y, hxy, rfl, q1, rfl⟩; have hXY := hidI hxy; have t1 : (FloatKind.f32.format.order x fx == some .eq) = true := is_eq hxy.1 ix.out; have t2 : (FloatKind.f32.format.order y fy == some .eq) = true := is_eq hxy.2 iy.out; clear hxy)
    | (go_at_call 7; (with_reducible refine (hM2.out _).mono ?_); rintro e w' ⟨x2, y2, ⟨hx2, hy2⟩, rfl, q2, rfl⟩; rw [Int.mul_comm s n, Int.mul_comm t m] at hx2; rw [Int.mul_comm s m, Int.mul_comm t n, Int.add_comm] at hy2; have t3 : (FloatKind.f32.format.order x2 x == some .eq) = true := is_eq hx2 hXY.out.1; have t4 : (FloatKind.f32.format.order y2 y == some .eq) = true := is_eq hy2 hXY.out.2; clear hx2 hy2)
    | (go_at_call 8; refine (hPw.out _).mono ?_; rintro e w' ⟨r, hr, rfl, q3, rfl⟩; have t5 : (FloatKind.f32.format.order r fz != some .eq) = false := is_ne hr iz.out; clear hr)
    | (go_at_call 9; refine (conj_any _ _ _).mono ?_; rintro e w' ⟨rfl, rfl⟩)
    | (go_at_call 7; (with_reducible refine (hM3.out _).mono ?_); rintro e w' ⟨x3, y3, ⟨hx3, hy3⟩, rfl, q4, rfl⟩; rw [Int.mul_neg, Int.sub_neg] at hx3; rw [Int.mul_neg, Int.mul_comm m n, Int.add_left_neg] at hy3; have t6 : (FloatKind.f32.format.order x3 fz == some .eq) = true := is_eq hx3 iz.out; have t7 : (FloatKind.f32.format.order y3 0 == some .eq) = true := is_eq hy3 is_nil; clear hx3 hy3)
    | (go_at_call 11; refine (hLg.out _).mono ?_; rintro e w' ⟨r1, hr1, rfl, q5, rfl⟩; have hR1 := hidI hr1; clear hr1)
    | (go_at_call 12; refine (hRt.out _).mono ?_; rintro e w' ⟨r2, hr2, rfl, q6, rfl⟩; have t8 : sameB r1 r2 = true := sameB_mean (long_root hR1.out iz.out sz.out hr2); clear hr2)
    | (go_at_call 10; refine (same_isP t8 _).mono ?_; rintro e w' ⟨rfl, rfl⟩))
  go_cut [136] (fun s136 wx => s136 = .bool false ∧ ∃ q, wx = w2.drewN q)
  case first =>
    by_cases hz : s = 0 ∧ t = 0
    · have z1 : (FloatKind.f32.format.order c 0 == some .eq) = true := by rw [hZc.out, hz.1]; rfl
      have z2 : (FloatKind.f32.format.order d 0 == some .eq) = true := by rw [hZd.out, hz.2]; rfl
      clear hz
      go_wp2_with (first
        | (go_at_call 14; refine (hSc.out _).mono ?_; rintro e w' ⟨u2, v2, ⟨hu2, hv2⟩, rfl, q8, rfl⟩; have t11 := hTa.out u2 hu2; have t12 := hTb.out v2 hv2; clear hu2 hv2))
      go_meet
      exact ⟨rfl, _, rfl⟩
    · have z1 : ((FloatKind.f32.format.order c 0 == some .eq) && (FloatKind.f32.format.order d 0 == some .eq)) = false := by
        rw [hZc.out, hZd.out, Bool.and_eq_false_iff, decide_eq_false_iff_not, decide_eq_false_iff_not]; omega
      have z2 := hidI (show s * s + t * t ≠ 0 from fun h => hz (sq_zero h))
      clear hz
      go_wp2_with (first
        | (go_at_call 13; refine (hQu.out x y hXY.out.1 hXY.out.2 z2.out _).mono ?_; rintro e w' ⟨u, v, ⟨hu, hv⟩, rfl, q7, rfl⟩; have t9 : (FloatKind.f32.format.order u a == some .eq) = true := is_eq hu hia.out; have t10 : (FloatKind.f32.format.order v b == some .eq) = true := is_eq hv hib.out; clear hu hv)
        | (go_at_call 14; refine (hSc.out _).mono ?_; rintro e w' ⟨u2, v2, ⟨hu2, hv2⟩, rfl, q8, rfl⟩; have t11 := hTa.out u2 hu2; have t12 := hTb.out v2 hv2; clear hu2 hv2))
      go_meet
      exact ⟨rfl, _, rfl⟩
  case rest =>
    obtain ⟨rfl, q, rfl⟩ := hcut
    clear hca hcb hcc hcd m1 m2 m3 m4 m5 m6 m7 m8 m9 hcx hcy hcz ix iy iz sz hM1 hM2 hM3 hPw hLg hRt hQu hSc hTa hTb hsum hia hib hZc hZd hXY t1 t2 t3 t4 t5 t6 t7 hR1 t8
    go_wp2_with (first
      | (go_at_call 16; refine (hAt.out _ ((hB0.out.below b2.out).draws _)).mono ?_; rintro e w' ⟨k, hk, rfl, j1, rfl⟩)
      | (go_at_call 15; refine (hNs.out k (by omega) _ ((hB1.out.below b2.out).draws _)).mono ?_; rintro e w3 ⟨g, vc, L, hL1, hL2, rfl, ho, hB⟩; have hLen := hidI hL1; have hWf := hidI hL2; have hRow := hidI (crow_own hL1 ho); have b3 := hidI (Below.trans (Below.draws b2.out _) (hB.mono b2.out.size)); clear hL1 hL2 ho hB)
      | (go_at_call 17; refine (ictext_few _ _ L k hLen.out (by omega) hWf.out _ hRow.out (hX.out.tab.stays b3.out)).mono ?_; rintro e w4 ⟨rfl, hB⟩; have b4 := hidI (b3.out.trans (hB.mono b3.out.size)); have hRow4 := hidI (hRow.out.below hB); clear hB)
      | (go_at_call 18; refine (cread_back L k hLen.out (by omega) hWf.out _ mx (cmax hM.out b4.out) (hX.out.stays b4.out)).mono ?_; rintro e w5 ⟨a5, c5, rfl, hr5, hB⟩; have b5 := hidI (b4.out.trans (hB.mono b4.out.size)); have hRow5 := hidI (hRow4.out.below hB); have hRd := hidI hr5; clear hr5 hB)
      | (go_at_call 19; refine (hNz.out _ (hB0.out.below b5.out)).mono ?_; rintro e w6 ⟨z, hz, rfl, hB⟩; have hZ := hidI hz; have b6 := hidI (b5.out.trans (hB.mono b5.out.size)); have hRow6 := hidI (hRow5.out.below hB); have hRd6 := hidI (hRd.out.below hB); clear hz hB)
      | (go_at_call 21; refine (ibits_any _ _).mono ?_; rintro e w' ⟨rfl, rfl⟩)
      | (go_at_call 20; refine (ifrom_any _ _).mono ?_; rintro e w' ⟨rfl, rfl⟩; rw [(from_own (lt_of_wf hZ.out)).1, (from_own (lt_of_wf hZ.out)).2])
      | (go_at_call 22; refine (hCz.out _ (hB0.out.below b6.out)).mono ?_; rintro e w7 ⟨x, y, ⟨hx, hy⟩, rfl, hB⟩; have b7 := hidI (b6.out.trans (hB.mono b6.out.size)); have hRow7 := hidI (hRow6.out.below hB); have hRd7 := hidI (hRd6.out.below hB); clear hB; obtain ⟨u1, hu1⟩ : ∃ u, finB .f32 x = u := ⟨_, rfl⟩; obtain ⟨u2, hu2⟩ : ∃ u, finB .f32 y = u := ⟨_, rfl⟩; have hU1 := hidI (fun w => sfin_is (a := x) hu1 w); have hU2 := hidI (fun w => sfin_is (a := y) hu2 w); have hU := hidI (fun w => ifinc_any x y u1 u2 hu1 hu2 w); have hS8 := hidI (fun w => isamec_any x (Op.negFloat .f32 (Op.negFloat .f32 y)) x y hx (neg_wf (neg_wf hy)) hx hy (sameB_refl _) (by rw [neg_twice]; exact sameB_refl _) w); clear hu1 hu2)
      | (refine wpList_fconv rfl _ _ _ rfl .f32 .f64 x rfl hx (by rw [Tryz.underlying28]; rfl) Tryz.underlying46 ?_; intro xd n7 hxd; have hXd := hidI hxd; clear hxd)
      | (refine wpList_fconv rfl _ _ _ rfl .f32 .f64 y rfl hy (by rw [Tryz.underlying28]; rfl) Tryz.underlying46 ?_; intro yd n8 hyd; have hYd := hidI hyd; clear hyd)
      | (go_at_call 23; refine (bsame_any L k hLen.out hWf.out _ _ _ _ _ (hRd7.out.drewC _) (hRow7.out.drewC _) (by omega)).mono ?_; rintro e w' ⟨rfl, j2, rfl⟩)
      | (go_at_call 10; refine (same_isP (sameB_own (lt_of_wf hZ.out)) _).mono ?_; rintro e w' ⟨rfl, rfl⟩)
      | (go_at_call 25; refine (narrowc_any _ _ hXd.out.2 hYd.out.2 _).mono ?_; rintro e w' ⟨r9, t9, ⟨hr9, ht9⟩, rfl, j3, rfl⟩; have hS9 := hidI (fun w => isamec_any r9 t9 x y hr9.2 ht9.2 hx hy (sameB_mean (narrow_same hx hXd.out hr9)) (sameB_mean (narrow_same hy hYd.out ht9)) w); clear hr9 ht9)
      | (go_at_call 24; (with_reducible refine (hS9.out _).mono ?_); rintro e w' ⟨rfl, j4, rfl⟩)
      | (go_at_call 24; (with_reducible refine (hS8.out _).mono ?_); rintro e w' ⟨rfl, j5, rfl⟩)
      | (go_at_call 9; refine (conj_any _ _ _).mono ?_; rintro e w' ⟨rfl, rfl⟩)
      | (go_at_call 26; refine (hU.out _).mono ?_; rintro e w9 ⟨rfl, hL⟩; have b9 := hidI (Below.trans (Below.draws b7.out _) (hL.below.mono b7.out.size)); clear hL; cases u1 <;> cases u2)
      | (go_at_call 27; (with_reducible refine (hU1.out _).mono ?_); rintro e w' ⟨rfl, j6, rfl⟩)
      | (go_at_call 27; (with_reducible refine (hU2.out _).mono ?_); rintro e w' ⟨rfl, j7, rfl⟩))
    all_goals go_ret
    all_goals exact ⟨rfl, Below.draws b9.out _⟩
theorem law_FnProducts_long (a0 a1 : Option Addr) (c0 c1 n0 n1 : Nat) (h : ¬ (n0 ≤ 1048576 ∧ n1 ≤ 1048576)) (w : World) :
    Calls Tryz.prog 3 #[.slice a0 n0 c0, .slice a1 n1 c1] w fun e w' => e = .returned (.bool true) ∧ Below w.heap.size w w' := by
  have hN := hidI h
  clear h
  go_enter Tryz.func3, Tryz.ntmps3
  go_wp2_with (go_at_call 5; refine (long_yes _ _ _ _ _ _ hN.out _).mono ?_; rintro e w' ⟨rfl, rfl⟩)
  go_ret
  exact ⟨rfl, Below.refl _ _⟩
theorem law_FnProducts (a0 : Option Addr) (c0 : Nat) (l0 : List Int) (a1 : Option Addr) (c1 : Nat) (l1 : List Int) (w : World) (r0 : IRow .u8 w a0 l0) (i0 : IAll .u8 l0) (r1 : IRow .u8 w a1 l1) (i1 : IAll .u8 l1) (hL : laidMetH Tryz.prog Rows.fnProductsRow.laid w) (hsh : w.ShapedOpen Tryz.prog) :
    Calls Tryz.prog 3 #[.slice a0 l0.length c0, .slice a1 l1.length c1] w fun e w' => e = .returned (.bool true) ∧ Below w.heap.size w w' := by
  by_cases hs : l0.length ≤ 1048576 ∧ l1.length ≤ 1048576
  · have hO : HexOk w := by
      rw [MakeChecks.laidMetH_plain _ _ _ (by kernel_rfl)] at hL
      have h0 := laidMet.tail (show laidMet Tryz.prog (_ :: _ :: _ :: _ :: _ :: _ :: _ :: []) w from hL)
      have h1 := laidMet.tail (laidMet.tail (laidMet.tail h0))
      exact ⟨tab_head h0, err_head (by kernel_rfl) (laidMet.tail h1), err_head (by kernel_rfl) h1⟩
    obtain ⟨m, hm⟩ := maxlen_cell hsh
    exact law_FnProducts_few a0 a1 c0 c1 l0 l1 _ _ hs.1 hs.2 w ⟨r0, i0, rfl⟩ ⟨r1, i1, rfl⟩ m hm hO
  · exact law_FnProducts_long a0 a1 c0 c1 _ _ hs w
end Go.Proofs.YtogliigpoojfoaaGreatDoor
