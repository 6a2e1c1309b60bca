/-
  The law of powers and logarithms at eighths.
-/
import Derived.Test.YtlcekfahjakfgaaPf
namespace Go.Proofs.Ytlcekfahjakfgaa
open Go.RowKit Fl

theorem below_draws (w : World) (n : Nat) : Below w.heap.size w (w.drewN n) := ⟨rfl, rfl, rfl, Nat.le_refl _, fun _ _ => rfl⟩
theorem at_0_65 (a : Option Addr) (cap : Nat) (l : List Int) (hl : l.length ≤ 1048576) (w : World) (h : IRow .u8 w a l) (hw : IAll .u8 l) :
    Calls Try.prog 27 #[.slice a l.length cap, .int .i64 0, .int .i64 65] w fun e w' => ∃ k : Nat, k < 65 ∧ e = .returned (.int .i64 k) ∧ ∃ m, w' = w.drewN m :=
  at_any a cap l hl 0 65 (by omega) (by omega) (by omega) w h hw
theorem xq {k q : Nat} (hk : k < 65) (hq : FRes .quo .f32 (floatOfInt .f32 ((k : Int) - 32)) 1090519040 q) : q = xW (k + 32) := by
  have h := xW_some (k + 32) (by omega)
  have e : (((k + 32 : Nat) : Int) - 64) = (k : Int) - 32 := by omega
  rw [e] at h
  have h1 := hq.1
  have e8 : mean .f32 1090519040 = some 1090519040 := by decide +kernel
  rw [e8, h] at h1
  exact (mean_some h1).1
theorem xsum {k j x y q : Nat} (hk : k < 65) (hj : j < 65) (hx : x = xW (k + 32)) (hy : y = xW (j + 32)) (hq : FRes .add .f32 x y q) : q = xW (k + j) := by
  subst hx; subst hy
  have h1 := hq.1
  have fx := (xW_fin (k + 32) (by omega)).1
  have fy := (xW_fin (j + 32) (by omega)).1
  rw [mean_of (nan_of_fin fx), mean_of (nan_of_fin fy), xW_sum k hk j hj] at h1
  exact (mean_some h1).1
theorem wf_e {i g : Nat} (hi : i < 129) (h : g = eW i) : (Lit.float .f32 g).wf = true := by subst h; exact wf_of_lt .f32 _ (eW_small i hi).1
theorem wf_x {i g : Nat} (hi : i < 129) (h : g = xW i) : (Lit.float .f32 g).wf = true := by subst h; exact (xW_fin i hi).2.1
theorem wf_l {k g : Nat} (hk : k < 65) (h : g = lW k) : (Lit.float .f32 g).wf = true := by subst h; exact wf_of_lt .f32 _ (lW_small k hk)
theorem exp_gt {i g : Nat} (hi : i < 129) (h : g = eW i) : (FloatKind.f32.format.order g 0 == some .gt) = true := by subst h; exact (eW_small i hi).2
theorem mean_c001 : mean .f64 4562254508917369340 = some 4562254508917369340 := by decide +kernel
/-- A finite 32-bit number, widened. -/
theorem wmean {a x : Nat} (h : finB .f32 a = true) (hx : FConv .f32 .f64 a x) : mean .f64 x = some (wideN a) := by
  rw [wide_eq (nan_of_fin h) hx]; exact (wide_fin h).mean
theorem gap_one {k lg x dl dx r : Nat} (hk : k < 65) (h1 : lg = lW k) (h2 : x = xW (k + 32)) (hl : FConv .f32 .f64 lg dl) (hx : FConv .f32 .f64 x dx) (hr : mean .f64 r = gapM (mean .f64 dl) (mean .f64 dx)) : (FloatKind.f64.format.order r 4562254508917369340 == some .lt) = true := by
  subst h1; subst h2
  have h := (lW_log hk).2.2.2
  rw [order_mean, hr, mean_c001, wmean (lW_log hk).2.2.1 hl, wmean (xW_fin (k + 32) (by omega)).1 hx]
  exact h
theorem gap_two {k j a1 a2 a3 d1 d2 d3 d4 p r s : Nat} (hk : k < 65) (hj : j < 65) (h1 : a1 = eW (k + 32)) (h2 : a2 = eW (j + 32)) (h3 : a3 = eW (k + j)) (c1 : FConv .f32 .f64 a1 d1) (c2 : FConv .f32 .f64 a2 d2) (c3 : FConv .f32 .f64 a3 d3) (c4 : FConv .f32 .f64 a3 d4)
    (hp : FRes .mul .f64 d1 d2 p) (hr : mean .f64 r = gapM (mean .f64 p) (mean .f64 d3)) (hs : FRes .mul .f64 4562254508917369340 d4 s) : (FloatKind.f64.format.order r s == some .lt) = true := by
  subst h1; subst h2; subst h3
  have h := pair_ok hk hj
  rw [order_mean, hr, hs.1, hp.1, mean_c001, wmean (eW_exp (i := k + 32) (by omega)).2.2.1 c1, wmean (eW_exp (i := j + 32) (by omega)).2.2.1 c2, wmean (eW_exp (i := k + j) (by omega)).2.2.1 c3, wmean (eW_exp (i := k + j) (by omega)).2.2.1 c4]
  exact h
theorem exp_at {q i : Nat} (hi : i < 129) (h : q = xW i) (w : World) :
    Calls Try.prog 13 #[.float .f32 q] w fun e w' => ∃ g, g = eW i ∧ e = .returned (.float .f32 g) ∧ ∃ n, w' = w.drewN n := by
  subst h
  refine (iexp_any (xW i) (xW_fin i hi).2.1 (eW_exp hi).1 w).mono ?_
  rintro e w' ⟨rfl, n, rfl⟩
  exact ⟨_, (eW_exp hi).2.1, rfl, n, rfl⟩
theorem exp_zero (w : World) : Calls Try.prog 13 #[.float .f32 0] w fun e w' => e = .returned (.float .f32 1065353216) ∧ ∃ n, w' = w.drewN n := by
  have h := iexp_any 0 (by decide) exp_nought.1 w
  rw [exp_nought.2] at h
  exact h
theorem log_at {q k : Nat} (hk : k < 65) (h : q = eW (k + 32)) (w : World) :
    Calls Try.prog 16 #[.float .f32 q] w fun e w' => ∃ g, g = lW k ∧ e = .returned (.float .f32 g) ∧ ∃ n, w' = w.drewN n := by
  subst h
  refine (ilogw_any (eW (k + 32)) (wf_e (i := k + 32) (by omega) rfl) (lW_log hk).1 w).mono ?_
  rintro e w' ⟨rfl, -, n, rfl⟩
  exact ⟨_, (lW_log hk).2.1, rfl, n, rfl⟩
theorem log_zero (w : World) : Calls Try.prog 16 #[.float .f32 1065353216] w fun e w' => e = .returned (.float .f32 0) ∧ ∃ n, w' = w.drewN n := by
  have h := ilogw_any 1065353216 (by decide) log_one.1 w
  rw [log_one.2] at h
  exact h.mono fun e w' ⟨a, _, b⟩ => ⟨a, b⟩
set_option maxHeartbeats 1000000 in
theorem law_FnPowers (a : Option Addr) (cap : Nat) (l : List Int) (b : Option Addr) (cap2 : Nat) (m : List Int) (w : World) (ha : IRow .u8 w a l) (hl : IAll .u8 l) (hb : IRow .u8 w b m) (hm : IAll .u8 m) :
    Calls Try.prog 9 #[.slice a l.length cap, .slice b m.length cap2] w fun e w' => e = .returned (.bool true) ∧ Below w.heap.size w w' := by
  have hA := Lib_hid' ha
  have hB := Lib_hid' hb
  have hAI := Lib_hid' hl
  have hBI := Lib_hid' hm
  clear ha hb hl hm
  by_cases hlen : l.length ≤ 1048576 ∧ m.length ≤ 1048576
  · have hla := Lib_hid' hlen.1
    have hlb := Lib_hid' hlen.2
    have t4 : (FloatKind.f32.format.order 1065353216 1065353216 == some .eq) = true := by decide +kernel
    have t5 : (FloatKind.f32.format.order 0 0 == some .eq) = true := by decide +kernel
    clear hlen
    go_enter Try.func9, Try.ntmps9
    go_wp2_with (first | (go_at_call 26; refine (long_no _ _ _ _ _ _ hla.out hlb.out _).mono ?_; rintro e w' ⟨rfl, rfl⟩) | (go_at_call 27; (with_reducible refine (at_0_65 a cap l hla.out _ hA.out hAI.out).mono ?_); rintro e w' ⟨k, hk, rfl, n1, rfl⟩) | (go_at_call 27; (with_reducible refine (at_0_65 b cap2 m hlb.out _ (hB.out.drewN _) hBI.out).mono ?_); rintro e w' ⟨j, hj, rfl, n2, rfl⟩) | (refine wpList_float rfl .quo _ _ _ _ rfl rfl .f32 (floatOfInt .f32 ((k : Int) - 32)) 1090519040 rfl rfl ?_; intro x nx hx0; have hx := Lib_hid' (xq hk hx0); clear hx0) | (refine wpList_float rfl .quo _ _ _ _ rfl rfl .f32 (floatOfInt .f32 ((j : Int) - 32)) 1090519040 rfl rfl ?_; intro y ny hy0; have hy := Lib_hid' (xq hj hy0); clear hy0) | (refine wpList_float rfl .add _ _ _ _ rfl rfl .f32 x y rfl rfl ?_; intro z nz hz0; have hz := Lib_hid' (xsum hk hj hx.out hy.out hz0); clear hz0) | (go_at_call 13; (with_reducible refine (exp_at (q := x) (i := (k + 32)) (by omega) hx.out _).mono ?_); rintro e w' ⟨a1, h0, rfl, na1, rfl⟩; have ha1 := Lib_hid' h0; clear h0; have t3 := exp_gt (i := k + 32) (by omega) ha1.out) | (go_at_call 13; (with_reducible refine (exp_at (q := y) (i := (j + 32)) (by omega) hy.out _).mono ?_); rintro e w' ⟨a2, h0, rfl, na2, rfl⟩; have ha2 := Lib_hid' h0; clear h0) | (go_at_call 13; (with_reducible refine (exp_at (q := z) (i := (k + j)) (by omega) hz.out _).mono ?_); rintro e w' ⟨a3, h0, rfl, na3, rfl⟩; have ha3 := Lib_hid' h0; clear h0) | (go_at_call 13; (with_reducible refine (exp_zero _).mono ?_); rintro e w' ⟨rfl, n, rfl⟩) | (go_at_call 16; (with_reducible refine (log_at (q := a1) hk ha1.out _).mono ?_); rintro e w' ⟨lg, h0, rfl, nlg, rfl⟩; have hlg := Lib_hid' h0; clear h0) | (go_at_call 16; (with_reducible refine (log_zero _).mono ?_); rintro e w' ⟨rfl, n, rfl⟩) | (refine wpList_fconv rfl _ _ _ rfl .f32 .f64 lg rfl (wf_l hk hlg.out) (by rw [Try.underlying22]; rfl) Try.underlying25 ?_; intro dl ndl hdl) | (refine wpList_fconv rfl _ _ _ rfl .f32 .f64 x rfl (wf_x (i := k + 32) (by omega) hx.out) (by rw [Try.underlying22]; rfl) Try.underlying25 ?_; intro dx ndx hdx) | (refine wpList_fconv rfl _ _ _ rfl .f32 .f64 a1 rfl (wf_e (i := k + 32) (by omega) ha1.out) (by rw [Try.underlying22]; rfl) Try.underlying25 ?_; intro d1 nd1 hd1) | (refine wpList_fconv rfl _ _ _ rfl .f32 .f64 a2 rfl (wf_e (i := j + 32) (by omega) ha2.out) (by rw [Try.underlying22]; rfl) Try.underlying25 ?_; intro d2 nd2 hd2) | (refine wpList_fconv rfl _ _ _ rfl .f32 .f64 a3 rfl (wf_e (i := k + j) (by omega) ha3.out) (by rw [Try.underlying22]; rfl) Try.underlying25 ?_; intro d3 nd3 hd3) | (go_at_call 28; (with_reducible refine (gap_any dl dx _).mono ?_); rintro e w' ⟨r, hr, rfl, n, rfl⟩; have t1 := gap_one hk hlg.out hx.out hdl hdx hr.1) | (refine wpList_float rfl .mul _ _ _ _ rfl rfl .f64 d1 d2 rfl rfl ?_; intro p np hp) | (go_at_call 28; (with_reducible refine (gap_any p d3 _).mono ?_); rintro e w' ⟨r2, hr2, rfl, n, rfl⟩) | (refine wpList_float rfl .mul _ _ _ _ rfl rfl .f64 4562254508917369340 d3 rfl rfl ?_; intro s ns hs; have t2 := gap_two hk hj ha1.out ha2.out ha3.out hd1 hd2 (by assumption) (by assumption) hp hr2.1 hs))
    go_ret
    exact ⟨rfl, below_draws _ _⟩
  · have hN := Lib_hid' hlen
    clear hlen
    go_enter Try.func9, Try.ntmps9
    go_wp2_with (go_at_call 26; refine (long_yes _ _ _ _ _ _ hN.out _).mono ?_; rintro e w' ⟨rfl, rfl⟩)
    go_ret
    exact ⟨rfl, Below.refl _ _⟩
end Go.Proofs.Ytlcekfahjakfgaa
