/-
  The law of phasors, angles and tenths of decibels.
-/
import Derived.Test.YtlcekfahjakfgaaCq
import Derived.Test.YtlcekfahjakfgaaCta
import Derived.Test.YtlcekfahjakfgaaCtb
import Derived.Test.YtlcekfahjakfgaaCtc
import Derived.Test.YtlcekfahjakfgaaCtd
namespace Go.Proofs.Ytlcekfahjakfgaa
open Go.RowKit Fl

theorem bstep' {w w1 w2 : World} (h : Below w.heap.size w w1) (hL : Laid w1 w2) : Below w.heap.size w w2 := h.trans (hL.below.mono h.size)
theorem bstep {w w1 w2 : World} {n : Nat} (h : Below w.heap.size w w1) (hL : Laid (w1.drewN n) w2) : Below w.heap.size w w2 :=
  Below.trans (b := w1.drewN n) ⟨h.os, h.tape, h.output, h.size, h.block⟩ (hL.below.mono h.size)
theorem at_0_256 {a : Option Addr} {cap : Nat} {l : List Int} (hl : l.length ≤ 1048576) (w : World) (h : IRow .u8 w a l) (hw : IAll .u8 l) :
    Calls Try.prog 27 #[.slice a l.length cap, .int .i64 0, .int .i64 256] w fun e w' => ∃ k : Nat, k < 256 ∧ e = .returned (.int .i64 k) ∧ ∃ m, w' = w.drewN m :=
  at_any a cap l hl 0 256 (by omega) (by omega) (by omega) w h hw
theorem at_1_256 {a : Option Addr} {cap : Nat} {l : List Int} (hl : l.length ≤ 1048576) (w : World) (h : IRow .u8 w a l) (hw : IAll .u8 l) :
    Calls Try.prog 27 #[.slice a l.length cap, .int .i64 1, .int .i64 256] w fun e w' => ∃ k : Nat, k < 256 ∧ e = .returned (.int .i64 k) ∧ ∃ m, w' = w.drewN m :=
  at_any a cap l hl 1 256 (by omega) (by omega) (by omega) w h hw
theorem at_0_200 {a : Option Addr} {cap : Nat} {l : List Int} (hl : l.length ≤ 1048576) (w : World) (h : IRow .u8 w a l) (hw : IAll .u8 l) :
    Calls Try.prog 27 #[.slice a l.length cap, .int .i64 0, .int .i64 200] w fun e w' => ∃ k : Nat, k < 200 ∧ e = .returned (.int .i64 k) ∧ ∃ m, w' = w.drewN m :=
  at_any a cap l hl 0 200 (by omega) (by omega) (by omega) w h hw
theorem at_1_200 {a : Option Addr} {cap : Nat} {l : List Int} (hl : l.length ≤ 1048576) (w : World) (h : IRow .u8 w a l) (hw : IAll .u8 l) :
    Calls Try.prog 27 #[.slice a l.length cap, .int .i64 1, .int .i64 200] w fun e w' => ∃ k : Nat, k < 200 ∧ e = .returned (.int .i64 k) ∧ ∃ m, w' = w.drewN m :=
  at_any a cap l hl 1 200 (by omega) (by omega) (by omega) w h hw
theorem cq {z : Int} {i q : Nat} (hi : i < 511) (hz : z = (i : Int) - 256) (hq : FRes .quo .f64 (floatOfInt .f64 z) 4634204016564240384 q) : q = tW i := by
  subst hz
  have h1 := hq.1
  have e : mean .f64 4634204016564240384 = some 4634204016564240384 := by decide +kernel
  rw [e, tW_some i hi] at h1
  exact (mean_some h1).1
theorem ph_mod {k g s : Nat} (h : Ph ((k + 128) % 64) g s) : Ph (k % 64) g s := by
  have e : (k + 128) % 64 = k % 64 := by omega
  rw [e] at h; exact h
theorem ph_sum {k j g s : Nat} (h : Ph ((k + j) % 64) g s) : Ph (((k + 128) % 64 + (j + 128) % 64) % 64) g s := by
  have e : ((k + 128) % 64 + (j + 128) % 64) % 64 = (k + j) % 64 := by omega
  rw [e]; exact h
theorem g_mod {k a : Nat} (h : a = gT ((k + 128) % 64)) : a = gT (k % 64) := by
  have e : (k + 128) % 64 = k % 64 := by omega
  rw [e] at h; exact h
theorem wf_g {i a : Nat} (h : a = gT (i % 64)) : (Lit.float .f32 a).wf = true := by rw [h]; exact (ph_fin _ (mod64 i)).2.2.2.2.2
theorem turn_is {k a x y t : Nat} (h : a = gT ((k + 128) % 64)) (hx : FConv .f32 .f64 a x) (hy : FRes .mul .f64 x 4634204016564240384 y) (ht : FRes .sub .f64 y (floatOfInt .f64 ((k : Int) - 128)) t) : mean .f64 t = turnT k := by
  have h := g_mod h
  subst h
  have f := (ph_fin (k % 64) (mod64 k)).2.2.2.2.1
  have e : mean .f64 4634204016564240384 = some 4634204016564240384 := by decide +kernel
  unfold turnT
  rw [ht.1, hy.1, wide_eq (nan_of_fin f) hx, (wide_fin f).mean, e]
theorem turn_int {k t v : Nat} (hk : k < 256) (ht : mean .f64 t = turnT k) (hv : FRes .add .f64 t 4666723447345250304 v) : floatToIntVal .f64 v .i64 = some (wzI k) := by
  have h := turn_whole k hk
  have e : mean .f64 4666723447345250304 = some 4666723447345250304 := by decide +kernel
  have h1 := hv.1
  rw [ht, e] at h1
  rw [← h1] at h
  cases hm : mean .f64 v with
  | none => rw [hm] at h; cases h
  | some b =>
    obtain ⟨rfl, -⟩ := mean_some hm
    rw [hm] at h; exact h
theorem mean_milli : mean .f64 4562254508917369340 = some 4562254508917369340 := by decide +kernel
theorem turn_near {k t r : Nat} {z : Int} (hk : k < 256) (ht : mean .f64 t = turnT k) (hz : z = wzI k) (hr : mean .f64 r = gapM (mean .f64 t) (mean .f64 (floatOfInt .f64 (z - 10000)))) : FloatKind.f64.format.order r 4562254508917369340 = some .lt := by
  subst hz
  have h := turn_gap k hk
  rw [order_mean, hr, ht, mean_milli]
  exact beq_iff_eq.1 h
theorem wf_p {r g s p : Nat} (h : Ph r g s) (hp : p = narL (powT r)) : (Lit.float .f32 p).wf = true := by
  subst hp
  have h0 := allN_all pow_all r h.1
  rw [Bool.and_eq_true] at h0
  exact wf_of_lt .f32 _ (ble_true.1 h0.1)
theorem quart_zero {k g s x r : Nat} (_ : k % 16 = 0) (h : Ph ((k + 128) % 64) g s) (h0 : gapM (some (wideN (cT ((k + 128) % 64)))) (some 0) = some 0) (hx : FConv .f32 .f64 g x) (hr : mean .f64 r = gapM (mean .f64 x) (mean .f64 0)) : r = 0 := by
  have f := h.fin.1
  obtain ⟨hlt, rfl, -⟩ := h
  have e0 : mean .f64 0 = some 0 := by decide
  rw [wide_eq (nan_of_fin f) hx, (wide_fin f).mean, e0, h0] at hr
  exact (mean_some hr).1
theorem quart_one {k g s x r : Nat} (h16 : k % 16 = 0) (h : Ph ((k + 128) % 64) g s) (h0 : ¬ gapM (some (wideN (cT ((k + 128) % 64)))) (some 0) = some 0) (hx : FConv .f32 .f64 g x) (hr : mean .f64 r = gapM (mean .f64 x) (mean .f64 0)) : r = 4607182418800017408 := by
  have f := h.fin.1
  obtain ⟨hlt, rfl, -⟩ := h
  have q := quarter_all ((k + 128) % 64) hlt (by omega)
  have e0 : mean .f64 0 = some 0 := by decide
  rw [wide_eq (nan_of_fin f) hx, (wide_fin f).mean, e0] at hr
  rcases q with q | q
  · exact absurd q h0
  · rw [q] at hr; exact (mean_some hr).1
theorem tmod_no {k : Nat} (h : ¬ k % 16 = 0) : (((k : Int) - 128).tmod 16 == 0) = false := by
  refine beq_eq_false_iff_ne.2 fun c => h ?_
  have := Int.dvd_of_tmod_eq_zero c
  omega
theorem c8 {i q : Nat} (hi : i < 200) (hq : FRes .quo .f32 (floatOfInt .f32 (1 + (i : Int))) 1090519040 q) : q = w32 (i + 1) 3 := by
  have h1 := hq.1
  have e : mean .f32 1090519040 = some 1090519040 := by decide +kernel
  rw [e, quo_8 i hi] at h1
  exact (mean_some h1).1
theorem c64m {i j x y q : Nat} (hi : i < 200) (hj : j < 200) (hx : x = w32 (i + 1) 3) (hy : y = w32 (j + 1) 3) (hq : FRes .mul .f32 x y q) : q = w32 ((i + 1) * (j + 1)) 6 := by
  subst hx; subst hy
  have h1 := hq.1
  have d12 : (2 : Nat) ^ 12 = 4096 := by decide
  have d24 : (2 : Nat) ^ 24 = 16777216 := by decide
  have f1 := nan_of_fin (w32_fin (N := i + 1) (s := 3) (by omega) (by omega))
  have f2 := nan_of_fin (w32_fin (N := j + 1) (s := 3) (by omega) (by omega))
  rw [mean_of f1, mean_of f2, w32_mul (by omega) (by omega)] at h1
  exact (mean_some h1).1
theorem row_all {n : Nat} (h1 : 1 ≤ n) (h2 : n < 201) : rowP n = true := by
  by_cases a : n < 28
  · exact ten_a (by omega) a
  by_cases b : n < 60
  · exact ten_b (by omega) b
  by_cases c : n < 102
  · exact ten_c (by omega) c
  · exact ten_d (by omega) h2
theorem ten_pair {n m : Nat} (h1 : 1 ≤ n) (h2 : n ≤ m) (h3 : m < 201) : tenP n m = true := by
  have h := row_all h1 (by omega)
  have hm := allN_all h (m - n) (by show m - n < 201 - n; omega)
  have e : Nat.add n (m - n) = m := by show n + (m - n) = m; omega
  rw [e] at hm; exact hm
theorem ten_both {n m : Nat} (h1 : 1 ≤ n) (h2 : 1 ≤ m) (h3 : n < 201) (h4 : m < 201) : 1 ≤ tenN (n * m) 6 ∧ tenN (n * m) 6 ≤ 2000 ∧ tT n + tT m ≤ tenN (n * m) 6 + 1001 ∧ tenN (n * m) 6 + 1000 ≤ tT n + tT m + 1 := by
  have key : ∀ a b : Nat, tenP a b = true → 1 ≤ tenN (a * b) 6 ∧ tenN (a * b) 6 ≤ 2000 ∧ tT a + tT b ≤ tenN (a * b) 6 + 1001 ∧ tenN (a * b) 6 + 1000 ≤ tT a + tT b + 1 := by
    intro a b h
    unfold tenP at h
    rw [force_eq, force_eq, force_eq, Bool.and_eq_true, Bool.and_eq_true, Bool.and_eq_true] at h
    exact ⟨ble_true.1 h.1.1.1, ble_true.1 h.1.1.2, ble_true.1 h.1.2, ble_true.1 h.2⟩
  by_cases c : n ≤ m
  · exact key n m (ten_pair h1 c h4)
  · have := key m n (ten_pair h2 (by omega) h3)
    rw [Nat.mul_comm m n, Nat.add_comm (tT m)] at this
    exact this
theorem tT_ok {n : Nat} (h1 : 1 ≤ n) (h2 : n < 201) : tenN n 3 = tT n ∧ 1 ≤ tT n ∧ tT n ≤ 2000 := by
  have h := allN_all tT_all (n - 1) (by omega)
  have e : n - 1 + 1 = n := by omega
  rw [e, Bool.and_eq_true, Bool.and_eq_true] at h
  exact ⟨Nat.eq_of_beq_eq_true h.1.1, ble_true.1 h.1.2, ble_true.1 h.2⟩
theorem ten_sum {i j : Nat} {zu zv zp : Int} (hi : i < 200) (hj : j < 200) (hu : zu = (tT (i + 1) : Int) - 1000) (hv : zv = (tT (j + 1) : Int) - 1000) (hp : zp = (tenN ((i + 1) * (j + 1)) 6 : Int) - 1000) :
    -1000 ≤ zu ∧ zu ≤ 1000 ∧ -1000 ≤ zv ∧ zv ≤ 1000 ∧ -1000 ≤ zp ∧ zp ≤ 1000 ∧ zu + zv - zp ≤ 1 ∧ zp - zu - zv ≤ 1 := by
  obtain ⟨a1, a2, a3, a4⟩ := ten_both (n := i + 1) (m := j + 1) (by omega) (by omega) (by omega) (by omega)
  obtain ⟨-, b1, b2⟩ := tT_ok (n := i + 1) (by omega) (by omega)
  obtain ⟨-, c1, c2⟩ := tT_ok (n := j + 1) (by omega) (by omega)
  omega
theorem same_no : sameB 1048576000 0 = false := by decide +kernel
theorem ten_8 {i x : Nat} (hi : i < 200) (hx : x = w32 (i + 1) 3) (w : World) :
    Calls Try.prog 23 #[.float .f32 x] w fun e w' => ∃ z : Int, z = (tT (i + 1) : Int) - 1000 ∧ e = .returned (.tuple #[.int .i64 z, .bool true]) ∧ Laid w w' := by
  subst hx
  have d24 : (2 : Nat) ^ 24 = 16777216 := by decide
  have hw := w32_wf (N := i + 1) (s := 3) (by omega) (by omega)
  have hp := (w32_pos (N := i + 1) (s := 3) (by omega) (by omega) (by omega)).2
  obtain ⟨e1, e2, -⟩ := tT_ok (n := i + 1) (by omega) (by omega)
  have ht := tenN_ok (N := i + 1) (s := 3) (by omega) (by omega) (by omega) (by omega)
  refine (iten_any _ hw w).mono ?_
  rintro e w' ⟨rfl, hL⟩
  exact ⟨_, rfl, by rw [ht, hp, e1], hL⟩
theorem ten_64 {i j x : Nat} (hi : i < 200) (hj : j < 200) (hx : x = w32 ((i + 1) * (j + 1)) 6) (w : World) :
    Calls Try.prog 23 #[.float .f32 x] w fun e w' => ∃ z : Int, z = (tenN ((i + 1) * (j + 1)) 6 : Int) - 1000 ∧ e = .returned (.tuple #[.int .i64 z, .bool true]) ∧ Laid w w' := by
  subst hx
  have d24 : (2 : Nat) ^ 24 = 16777216 := by decide
  have hlt : (i + 1) * (j + 1) ≤ 200 * 200 := Nat.mul_le_mul (by omega) (by omega)
  have hgt : 0 < (i + 1) * (j + 1) := Nat.mul_pos (by omega) (by omega)
  obtain ⟨e2, -⟩ := ten_both (n := i + 1) (m := j + 1) (by omega) (by omega) (by omega) (by omega)
  generalize (i + 1) * (j + 1) = N at *
  have hw := w32_wf (N := N) (s := 6) (by omega) (by omega)
  have hp := (w32_pos (N := N) (s := 6) (by omega) (by omega) (by omega)).2
  have ht := tenN_ok (N := N) (s := 6) (by omega) (by omega) (by omega) (by omega)
  refine (iten_any _ hw w).mono ?_
  rintro e w' ⟨rfl, hL⟩
  exact ⟨_, rfl, by rw [ht, hp], hL⟩
theorem ten_one (w : World) : Calls Try.prog 23 #[.float .f32 1065353216] w fun e w' => e = .returned (.tuple #[.int .i64 0, .bool true]) ∧ Laid w w' := by
  have h := ten_8 (i := 7) (x := 1065353216) (by omega) one_8.1.symm w
  refine h.mono ?_
  rintro e w' ⟨z, hz, rfl, hL⟩
  have e8 : tT (7 + 1) = 1000 := one_8.2
  rw [e8] at hz
  subst hz
  exact ⟨rfl, hL⟩
set_option maxRecDepth 100000 in
set_option maxHeartbeats 4000000 in
theorem law_FnCircles (a : Option Addr) (cap : Nat) (l : List Int) (b : Option Addr) (cap2 : Nat) (m : List Int) (w : World) (ha : IRow .u8 w a l) (hl : IAll .u8 l) (hb : IRow .u8 w b m) (hm : IAll .u8 m) :
    Calls Try.prog 10 #[.slice a l.length cap, .slice b m.length cap2] w fun e w' => e = .returned (.bool true) ∧ Below w.heap.size w w' := by
  have hA := Lib_hid' ha
  have hB := Lib_hid' hb
  have hAI := Lib_hid' hl
  have hBI := Lib_hid' hm
  clear ha hb hl hm
  by_cases hlen : l.length ≤ 1048576 ∧ m.length ≤ 1048576
  · have hla := Lib_hid' hlen.1
    have hlb := Lib_hid' hlen.2
    have o1 : (FloatKind.f64.format.order 0 0 == some .eq) = true := by decide +kernel
    have o2 : (FloatKind.f64.format.order 4607182418800017408 4607182418800017408 == some .eq) = true := by decide +kernel
    clear hlen
    go_enter Try.func10, Try.ntmps10
    go_wp2_with (first | (go_at_call 26; refine (long_no _ _ _ _ _ _ hla.out hlb.out _).mono ?_; rintro e w' ⟨rfl, rfl⟩) | (go_at_call 27; (with_reducible refine (at_0_256 hla.out _ hA.out hAI.out).mono ?_); rintro e w' ⟨k, hk, rfl, nk, rfl⟩) | (go_at_call 27; (with_reducible refine (at_1_256 hla.out _ (hA.out.drewN _) hAI.out).mono ?_); rintro e w' ⟨j, hj, rfl, nj, rfl⟩) | (refine wpList_float rfl .quo _ _ _ _ rfl rfl .f64 (floatOfInt .f64 ((k : Int) - 128)) 4634204016564240384 rfl rfl ?_; intro q1 nq1 h0; have hq1 := Lib_hid' (cq (i := k + 128) (by omega) (by omega) h0); clear h0) | (go_at_call 20; (with_reducible refine (ph_at (q := q1) (i := k + 128) (by omega) hq1.out _).mono ?_); rintro e w' ⟨g1, i1, h0, rfl, np1, rfl⟩; have hp1 := Lib_hid' h0; clear h0) | (refine wpList_float rfl .quo _ _ _ _ rfl rfl .f64 (floatOfInt .f64 ((j : Int) - 128)) 4634204016564240384 rfl rfl ?_; intro q2 nq2 h0; have hq2 := Lib_hid' (cq (i := j + 128) (by omega) (by omega) h0); clear h0) | (go_at_call 20; (with_reducible refine (ph_at (q := q2) (i := j + 128) (by omega) hq2.out _).mono ?_); rintro e w' ⟨g2, i2, h0, rfl, np2, rfl⟩; have hp2 := Lib_hid' h0; clear h0) | (refine wpList_float rfl .quo _ _ _ _ rfl rfl .f64 _ 4634204016564240384 rfl rfl ?_; intro q3 nq3 h0; have hq3 := Lib_hid' (cq (i := k + j) (by omega) (by omega) h0); clear h0) | (go_at_call 20; (with_reducible refine (ph_at (q := q3) (i := k + j) (by omega) hq3.out _).mono ?_); rintro e w' ⟨g3, i3, h0, rfl, np3, rfl⟩; have hp3 := Lib_hid' h0; clear h0) | (go_at_call 29; (with_reducible refine (ang_at (g := g1) (s := i1) hp1.out _).mono ?_); rintro e w1 ⟨a1, h0, rfl, hL⟩; have ha1 := Lib_hid' h0; have b1 := Lib_hid' (bstep (Below.refl _ _) hL); clear h0 hL) | (refine wpList_fconv rfl _ _ _ rfl .f32 .f64 a1 rfl (wf_g ha1.out) (by rw [Try.underlying22]; rfl) Try.underlying25 ?_; intro x1 nx1 hx1) | (refine wpList_float rfl .mul _ _ _ _ rfl rfl .f64 x1 4634204016564240384 rfl rfl ?_; intro y1 ny1 hy1) | (refine wpList_float rfl .sub _ _ _ _ rfl rfl .f64 y1 (floatOfInt .f64 ((k : Int) - 128)) rfl rfl ?_; intro tu ntu h0; have htu := Lib_hid' (turn_is ha1.out hx1 hy1 h0); clear h0 hy1 hx1) | (refine wpList_float rfl .add _ _ _ _ rfl rfl .f64 tu 4666723447345250304 rfl rfl ?_; intro tv ntv h0; have hz := Lib_hid' (turn_int hk htu.out h0); clear h0; obtain ⟨z, hz0⟩ : ∃ z, z = wzI k := ⟨_, rfl⟩; have hzb := wz_bd hk; rw [← hz0] at hzb; obtain ⟨hz1, hz2, hz3⟩ := hzb; have hZ := Lib_hid' hz0; have hci := fun wx => run_convert_float_int (P := Try.prog) wx 25 2 .f64 .i64 tv z (by rw [Try.underlying25]; rfl) Try.underlying2 (hz.out.trans (congrArg some hz0.symm)); clear hz0))
    clear hci hz hq1 hq2 hq3
    by_cases h16 : k % 16 = 0
    · by_cases hq0 : gapM (some (wideN (cT ((k + 128) % 64)))) (some 0) = some 0
      · have hQ := Lib_hid' hq0
        have h16' := Lib_hid' h16
        clear hq0 h16
        go_wp2_with (first | (go_at_call 30; (with_reducible refine (pow_at (g := g1) (s := i1) hp1.out _).mono ?_); rintro e w' ⟨p1, h0, rfl, n, rfl⟩; have hpw := Lib_hid' h0; clear h0) | (refine wpList_fconv rfl _ _ _ rfl .f32 .f64 p1 rfl (wf_p hp1.out hpw.out) (by rw [Try.underlying22]; rfl) Try.underlying25 ?_; intro px npx hpx) | (go_at_call 28; (with_reducible refine (gap_any px 4607182418800017408 _).mono ?_); rintro e w' ⟨r1, hr1, rfl, n, rfl⟩; have t1 := pow_near (mod64 _) hpw.out hpx hr1.1) | (go_at_call 32; (with_reducible refine (mul_at hp1.out hp2.out _).mono ?_); rintro e w' ⟨xm, ym, h0, rfl, n, rfl⟩; have hm := Lib_hid' h0; clear h0) | (go_at_call 31; (with_reducible refine (near_at hm.out (ph_sum hp3.out) _).mono ?_); rintro e w' ⟨rfl, n, rfl⟩) | (go_at_call 28; (with_reducible refine (gap_any tu (floatOfInt .f64 (z - 10000)) _).mono ?_); rintro e w' ⟨r2, hr2, rfl, n, rfl⟩; have t2 := turn_near hk htu.out hZ.out hr2.1) | (refine wpList_fconv rfl _ _ _ rfl .f32 .f64 g1 rfl (hp1.out.fin.2.2.1) (by rw [Try.underlying22]; rfl) Try.underlying25 ?_; intro gx ngx hgx) | (go_at_call 28; (with_reducible refine (gap_any gx 0 _).mono ?_); rintro e w' ⟨r3, hr3, rfl, n, rfl⟩; obtain rfl := quart_zero h16'.out hp1.out hQ.out hgx hr3.1) | (go_at_call 27; (with_reducible refine (at_0_200 hlb.out _ (hB.out.below b1.out |>.drewN _) hBI.out).mono ?_); rintro e w' ⟨u, hu, rfl, nu, rfl⟩) | (go_at_call 27; (with_reducible refine (at_1_200 hlb.out _ (hB.out.below b1.out |>.drewN _) hBI.out).mono ?_); rintro e w' ⟨v, hv, rfl, nv, rfl⟩) | (refine wpList_float rfl .quo _ _ _ _ rfl rfl .f32 (floatOfInt .f32 (1 + (u : Int))) 1090519040 rfl rfl ?_; intro xu nxu h0; have hxu := Lib_hid' (c8 hu h0); clear h0) | (refine wpList_float rfl .quo _ _ _ _ rfl rfl .f32 (floatOfInt .f32 (1 + (v : Int))) 1090519040 rfl rfl ?_; intro xv nxv h0; have hxv := Lib_hid' (c8 hv h0); clear h0) | (go_at_call 23; (with_reducible refine (ten_8 hu hxu.out _).mono ?_); rintro e w2 ⟨zu, h0, rfl, hL⟩; have hzu := Lib_hid' h0; have b2 := Lib_hid' (bstep b1.out hL); clear h0 hL) | (go_at_call 23; (with_reducible refine (ten_8 hv hxv.out _).mono ?_); rintro e w3 ⟨zv, h0, rfl, hL⟩; have hzv := Lib_hid' h0; have b3 := Lib_hid' (bstep' b2.out hL); clear h0 hL) | (refine wpList_float rfl .mul _ _ _ _ rfl rfl .f32 xu xv rfl rfl ?_; intro xp nxp h0; have hxp := Lib_hid' (c64m hu hv hxu.out hxv.out h0); clear h0) | (go_at_call 23; (with_reducible refine (ten_64 hu hv hxp.out _).mono ?_); rintro e w4 ⟨zp, h0, rfl, hL⟩; have hzp := Lib_hid' h0; have b4 := Lib_hid' (bstep b3.out hL); clear h0 hL; have hsum := ten_sum hu hv hzu.out hzv.out hzp.out; obtain ⟨hs1, hs2, hs3, hs4, hs5, hs6, hs7, hs8⟩ := hsum) | (go_at_call 23; (with_reducible refine (ten_one _).mono ?_); rintro e w5 ⟨rfl, hL⟩; have b5 := Lib_hid' (bstep' b4.out hL); clear hL) | (go_at_call 29; (with_reducible refine (ang_up _).mono ?_); rintro e w6 ⟨rfl, hL⟩; have b6 := Lib_hid' (bstep' b5.out hL); clear hL) | (go_at_call 33; (with_reducible refine (ssame_any 1048576000 0 _).mono ?_); rw [same_no]; rintro e w' ⟨rfl, rfl⟩))
        all_goals go_ret
        all_goals exact ⟨rfl, b6.out⟩
      · have hQ := Lib_hid' hq0
        have h16' := Lib_hid' h16
        clear hq0 h16
        go_wp2_with (first | (go_at_call 30; (with_reducible refine (pow_at (g := g1) (s := i1) hp1.out _).mono ?_); rintro e w' ⟨p1, h0, rfl, n, rfl⟩; have hpw := Lib_hid' h0; clear h0) | (refine wpList_fconv rfl _ _ _ rfl .f32 .f64 p1 rfl (wf_p hp1.out hpw.out) (by rw [Try.underlying22]; rfl) Try.underlying25 ?_; intro px npx hpx) | (go_at_call 28; (with_reducible refine (gap_any px 4607182418800017408 _).mono ?_); rintro e w' ⟨r1, hr1, rfl, n, rfl⟩; have t1 := pow_near (mod64 _) hpw.out hpx hr1.1) | (go_at_call 32; (with_reducible refine (mul_at hp1.out hp2.out _).mono ?_); rintro e w' ⟨xm, ym, h0, rfl, n, rfl⟩; have hm := Lib_hid' h0; clear h0) | (go_at_call 31; (with_reducible refine (near_at hm.out (ph_sum hp3.out) _).mono ?_); rintro e w' ⟨rfl, n, rfl⟩) | (go_at_call 28; (with_reducible refine (gap_any tu (floatOfInt .f64 (z - 10000)) _).mono ?_); rintro e w' ⟨r2, hr2, rfl, n, rfl⟩; have t2 := turn_near hk htu.out hZ.out hr2.1) | (refine wpList_fconv rfl _ _ _ rfl .f32 .f64 g1 rfl (hp1.out.fin.2.2.1) (by rw [Try.underlying22]; rfl) Try.underlying25 ?_; intro gx ngx hgx) | (go_at_call 28; (with_reducible refine (gap_any gx 0 _).mono ?_); rintro e w' ⟨r3, hr3, rfl, n, rfl⟩; obtain rfl := quart_one h16'.out hp1.out hQ.out hgx hr3.1) | (go_at_call 27; (with_reducible refine (at_0_200 hlb.out _ (hB.out.below b1.out |>.drewN _) hBI.out).mono ?_); rintro e w' ⟨u, hu, rfl, nu, rfl⟩) | (go_at_call 27; (with_reducible refine (at_1_200 hlb.out _ (hB.out.below b1.out |>.drewN _) hBI.out).mono ?_); rintro e w' ⟨v, hv, rfl, nv, rfl⟩) | (refine wpList_float rfl .quo _ _ _ _ rfl rfl .f32 (floatOfInt .f32 (1 + (u : Int))) 1090519040 rfl rfl ?_; intro xu nxu h0; have hxu := Lib_hid' (c8 hu h0); clear h0) | (refine wpList_float rfl .quo _ _ _ _ rfl rfl .f32 (floatOfInt .f32 (1 + (v : Int))) 1090519040 rfl rfl ?_; intro xv nxv h0; have hxv := Lib_hid' (c8 hv h0); clear h0) | (go_at_call 23; (with_reducible refine (ten_8 hu hxu.out _).mono ?_); rintro e w2 ⟨zu, h0, rfl, hL⟩; have hzu := Lib_hid' h0; have b2 := Lib_hid' (bstep b1.out hL); clear h0 hL) | (go_at_call 23; (with_reducible refine (ten_8 hv hxv.out _).mono ?_); rintro e w3 ⟨zv, h0, rfl, hL⟩; have hzv := Lib_hid' h0; have b3 := Lib_hid' (bstep' b2.out hL); clear h0 hL) | (refine wpList_float rfl .mul _ _ _ _ rfl rfl .f32 xu xv rfl rfl ?_; intro xp nxp h0; have hxp := Lib_hid' (c64m hu hv hxu.out hxv.out h0); clear h0) | (go_at_call 23; (with_reducible refine (ten_64 hu hv hxp.out _).mono ?_); rintro e w4 ⟨zp, h0, rfl, hL⟩; have hzp := Lib_hid' h0; have b4 := Lib_hid' (bstep b3.out hL); clear h0 hL; have hsum := ten_sum hu hv hzu.out hzv.out hzp.out; obtain ⟨hs1, hs2, hs3, hs4, hs5, hs6, hs7, hs8⟩ := hsum) | (go_at_call 23; (with_reducible refine (ten_one _).mono ?_); rintro e w5 ⟨rfl, hL⟩; have b5 := Lib_hid' (bstep' b4.out hL); clear hL) | (go_at_call 29; (with_reducible refine (ang_up _).mono ?_); rintro e w6 ⟨rfl, hL⟩; have b6 := Lib_hid' (bstep' b5.out hL); clear hL) | (go_at_call 33; (with_reducible refine (ssame_any 1048576000 0 _).mono ?_); rw [same_no]; rintro e w' ⟨rfl, rfl⟩))
        all_goals go_ret
        all_goals exact ⟨rfl, b6.out⟩
    · have ht16 : (((k : Int) - 128).tmod 16 == 0) = false := tmod_no h16
      clear h16
      go_wp2_with (first | (go_at_call 30; (with_reducible refine (pow_at (g := g1) (s := i1) hp1.out _).mono ?_); rintro e w' ⟨p1, h0, rfl, n, rfl⟩; have hpw := Lib_hid' h0; clear h0) | (refine wpList_fconv rfl _ _ _ rfl .f32 .f64 p1 rfl (wf_p hp1.out hpw.out) (by rw [Try.underlying22]; rfl) Try.underlying25 ?_; intro px npx hpx) | (go_at_call 28; (with_reducible refine (gap_any px 4607182418800017408 _).mono ?_); rintro e w' ⟨r1, hr1, rfl, n, rfl⟩; have t1 := pow_near (mod64 _) hpw.out hpx hr1.1) | (go_at_call 32; (with_reducible refine (mul_at hp1.out hp2.out _).mono ?_); rintro e w' ⟨xm, ym, h0, rfl, n, rfl⟩; have hm := Lib_hid' h0; clear h0) | (go_at_call 31; (with_reducible refine (near_at hm.out (ph_sum hp3.out) _).mono ?_); rintro e w' ⟨rfl, n, rfl⟩) | (go_at_call 28; (with_reducible refine (gap_any tu (floatOfInt .f64 (z - 10000)) _).mono ?_); rintro e w' ⟨r2, hr2, rfl, n, rfl⟩; have t2 := turn_near hk htu.out hZ.out hr2.1) | (go_at_call 27; (with_reducible refine (at_0_200 hlb.out _ (hB.out.below b1.out |>.drewN _) hBI.out).mono ?_); rintro e w' ⟨u, hu, rfl, nu, rfl⟩) | (go_at_call 27; (with_reducible refine (at_1_200 hlb.out _ (hB.out.below b1.out |>.drewN _) hBI.out).mono ?_); rintro e w' ⟨v, hv, rfl, nv, rfl⟩) | (refine wpList_float rfl .quo _ _ _ _ rfl rfl .f32 (floatOfInt .f32 (1 + (u : Int))) 1090519040 rfl rfl ?_; intro xu nxu h0; have hxu := Lib_hid' (c8 hu h0); clear h0) | (refine wpList_float rfl .quo _ _ _ _ rfl rfl .f32 (floatOfInt .f32 (1 + (v : Int))) 1090519040 rfl rfl ?_; intro xv nxv h0; have hxv := Lib_hid' (c8 hv h0); clear h0) | (go_at_call 23; (with_reducible refine (ten_8 hu hxu.out _).mono ?_); rintro e w2 ⟨zu, h0, rfl, hL⟩; have hzu := Lib_hid' h0; have b2 := Lib_hid' (bstep b1.out hL); clear h0 hL) | (go_at_call 23; (with_reducible refine (ten_8 hv hxv.out _).mono ?_); rintro e w3 ⟨zv, h0, rfl, hL⟩; have hzv := Lib_hid' h0; have b3 := Lib_hid' (bstep' b2.out hL); clear h0 hL) | (refine wpList_float rfl .mul _ _ _ _ rfl rfl .f32 xu xv rfl rfl ?_; intro xp nxp h0; have hxp := Lib_hid' (c64m hu hv hxu.out hxv.out h0); clear h0) | (go_at_call 23; (with_reducible refine (ten_64 hu hv hxp.out _).mono ?_); rintro e w4 ⟨zp, h0, rfl, hL⟩; have hzp := Lib_hid' h0; have b4 := Lib_hid' (bstep b3.out hL); clear h0 hL; have hsum := ten_sum hu hv hzu.out hzv.out hzp.out; obtain ⟨hs1, hs2, hs3, hs4, hs5, hs6, hs7, hs8⟩ := hsum) | (go_at_call 23; (with_reducible refine (ten_one _).mono ?_); rintro e w5 ⟨rfl, hL⟩; have b5 := Lib_hid' (bstep' b4.out hL); clear hL) | (go_at_call 29; (with_reducible refine (ang_up _).mono ?_); rintro e w6 ⟨rfl, hL⟩; have b6 := Lib_hid' (bstep' b5.out hL); clear hL) | (go_at_call 33; (with_reducible refine (ssame_any 1048576000 0 _).mono ?_); rw [same_no]; rintro e w' ⟨rfl, rfl⟩))
      all_goals go_ret
      all_goals exact ⟨rfl, b6.out⟩
  · have hN := Lib_hid' hlen
    clear hlen
    go_enter Try.func10, Try.ntmps10
    go_wp2_with (go_at_call 26; refine (long_yes _ _ _ _ _ _ hN.out _).mono ?_; rintro e w' ⟨rfl, rfl⟩)
    go_ret
    exact ⟨rfl, Below.refl _ _⟩
end Go.Proofs.Ytlcekfahjakfgaa
