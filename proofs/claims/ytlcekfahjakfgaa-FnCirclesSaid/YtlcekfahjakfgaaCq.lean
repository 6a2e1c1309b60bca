/-
  Contracts of phasors at 64ths of turns: their parts, angle, power and product.
-/
import Derived.Test.YtlcekfahjakfgaaCf
import Derived.Test.YtlcekfahjakfgaaTn
namespace Go.Proofs.Ytlcekfahjakfgaa
open Go.RowKit Fl

theorem phase_tW {i : Nat} (hi : i < 511) : phaseM (tW i) = phF (i % 64) := by
  obtain ⟨h1, -, h3⟩ := tW_part i hi
  have hf : mag Ieee.double (tW i) < Ieee.double.infRung := Nat.lt_trans h1 (by decide)
  unfold phaseM phF
  rw [if_pos hf, if_pos h1, h3]
theorem mod64 (i : Nat) : i % 64 < 64 := Nat.mod_lt _ (by decide)
theorem ph_words {i g s : Nat} (hi : i < 511) (h : PhIs (tW i) g s) : g = cT (i % 64) ∧ s = sT (i % 64) := by
  have h1 := h.1.1
  have h2 := h.2.1
  rw [phase_tW hi, ph_cos _ (mod64 i)] at h1
  rw [phase_tW hi, ph_sin _ (mod64 i)] at h2
  exact ⟨(mean_some h1).1, (mean_some h2).1⟩
/-- What is known of the parts of the phasor of r / 64. -/
def Ph (r g s : Nat) : Prop := r < 64 ∧ g = cT r ∧ s = sT r
theorem Ph.fin {r g s : Nat} (h : Ph r g s) : finB .f32 g = true ∧ finB .f32 s = true ∧ (Lit.float .f32 g).wf = true ∧ (Lit.float .f32 s).wf = true := by
  obtain ⟨hr, rfl, rfl⟩ := h
  obtain ⟨a, b, c, d, -, -⟩ := ph_fin r hr
  exact ⟨a, b, c, d⟩
theorem c_mean {a x : Nat} (h : finB .f32 a = true) (hx : FConv .f32 .f64 a x) : mean .f64 x = some (widN a) := by
  rw [wide_eq (nan_of_fin h) hx, (wide_fin h).mean, widN_eq h]

theorem ph_at {q i : Nat} (hi : i < 511) (h : q = tW i) (w : World) :
    Calls Try.prog 20 #[.float .f64 q] w fun e w' => ∃ g s, Ph (i % 64) g s ∧ e = .returned (.complex .f32 g s) ∧ ∃ n, w' = w.drewN n := by
  subst h
  refine (iphase_any (tW i) (tW_part i hi).2.1 w).mono ?_
  rintro e w' ⟨g, s, hp, rfl, n, rfl⟩
  exact ⟨g, s, ⟨mod64 i, ph_words hi hp⟩, rfl, n, rfl⟩
theorem iangof_any (g s : Nat) (hg : (Lit.float .f32 g).wf = true) (hs : (Lit.float .f32 s).wf = true) (w : World) :
    Calls Try.prog 29 #[.complex .f32 g s] w fun e w' => ∃ a, AngIs s g a ∧ e = .returned (.float .f32 a) ∧ Laid w w' := by
  go_enter Try.func29, Try.ntmps29
  go_wp2_with (go_at_call 25; refine (iangle_any s g hs hg _).mono ?_; rintro e w' ⟨a, ha, rfl, hL⟩)
  go_ret
  exact ⟨a, ha, rfl, hL⟩
theorem ang_at {r g s : Nat} (h : Ph r g s) (w : World) :
    Calls Try.prog 29 #[.complex .f32 g s] w fun e w' => ∃ a, a = gT r ∧ e = .returned (.float .f32 a) ∧ Laid w w' := by
  obtain ⟨-, -, f3, f4⟩ := h.fin
  refine (iangof_any g s f3 f4 w).mono ?_
  rintro e w' ⟨a, ha, rfl, hL⟩
  obtain ⟨hr, rfl, rfl⟩ := h
  have h1 := ha.1
  rw [an_all r hr] at h1
  exact ⟨a, (mean_some h1).1, rfl, hL⟩
theorem ang_up (w : World) : Calls Try.prog 29 #[.complex .f32 0 1065353216] w fun e w' => e = .returned (.float .f32 1048576000) ∧ Laid w w' := by
  refine (iangof_any 0 1065353216 (by decide) (by decide) w).mono ?_
  rintro e w' ⟨a, ha, rfl, hL⟩
  have h1 := ha.1
  rw [an_one] at h1
  obtain ⟨rfl, -⟩ := mean_some h1
  exact ⟨rfl, hL⟩
theorem ipow_any (g s : Nat) (fg : finB .f32 g = true) (fs : finB .f32 s = true) (hg : (Lit.float .f32 g).wf = true) (hs : (Lit.float .f32 s).wf = true) (w : World) :
    Calls Try.prog 56 #[.complex .f32 g s] w fun e w' => ∃ y, (mean .f64 y = fop .add .f64 (fop .mul .f64 (some (widN g)) (some (widN g))) (fop .mul .f64 (some (widN s)) (some (widN s))) ∧ (Lit.float .f64 y).wf = true) ∧ e = .returned (.float .f64 y) ∧ ∃ n, w' = w.drewN n := by
  have hG := Lib_hid' fg
  have hS := Lib_hid' fs
  clear fg fs
  go_enter Try.func56, Try.ntmps56
  go_wp2_with (first | (refine wpList_fconv rfl _ _ _ rfl .f32 .f64 g rfl hg (by rw [Try.underlying22]; rfl) Try.underlying25 ?_; intro a na ha) | (refine wpList_fconv rfl _ _ _ rfl .f32 .f64 s rfl hs (by rw [Try.underlying22]; rfl) Try.underlying25 ?_; intro b nb hb) | (refine wpList_float rfl .mul _ _ _ _ rfl rfl .f64 a a rfl rfl ?_; intro p np hp) | (refine wpList_float rfl .mul _ _ _ _ rfl rfl .f64 b b rfl rfl ?_; intro q nq hq) | (refine wpList_float rfl .add _ _ _ _ rfl rfl .f64 p q rfl rfl ?_; intro y ny hy))
  go_ret
  exact ⟨y, ⟨by rw [hy.1, hp.1, hq.1, c_mean hG.out ha, c_mean hS.out hb], hy.2⟩, rfl, _, rfl⟩
theorem pow_rel (r : Nat) : Rel (fop .add .f64 (fop .mul .f64 (some (widN (cT r))) (some (widN (cT r)))) (fop .mul .f64 (some (widN (sT r))) (some (widN (sT r))))) (powT r) :=
  addL_rel (mulL_rel Rel.of Rel.of) (mulL_rel Rel.of Rel.of)
theorem pow_at {r g s : Nat} (h : Ph r g s) (w : World) :
    Calls Try.prog 30 #[.complex .f32 g s] w fun e w' => ∃ p, p = narL (powT r) ∧ e = .returned (.float .f32 p) ∧ ∃ n, w' = w.drewN n := by
  obtain ⟨f1, f2, f3, f4⟩ := h.fin
  have hP := Lib_hid' h
  clear h
  go_enter Try.func30, Try.ntmps30
  go_wp2_with (first | (go_at_call 56; refine (ipow_any g s f1 f2 f3 f4 _).mono ?_; rintro e w' ⟨y, hy, rfl, n, rfl⟩; have hY := Lib_hid' hy; clear hy) | (refine wpList_fconv rfl _ _ _ rfl .f64 .f32 y rfl (by exact hY.out.2) (by rw [Try.underlying25]; rfl) Try.underlying22 ?_; intro p np hp))
  go_ret
  refine ⟨p, ?_, rfl, _, rfl⟩
  obtain ⟨hr, rfl, rfl⟩ := hP.out
  have h0 := allN_all pow_all r hr
  rw [Bool.and_eq_true] at h0
  have hlt : narL (powT r) < bad := Nat.lt_trans (ble_true.1 h0.1) (by decide)
  obtain ⟨e1, e2, e3, e4, e5⟩ := nar_word (pow_rel r) hlt
  have h1 := hp.1 (e3 y hY.out.1)
  rw [hY.out.1, e2] at h1
  exact (mean_some h1).1
theorem pow_near {r p x g : Nat} (hr : r < 64) (hp : p = narL (powT r)) (hx : FConv .f32 .f64 p x) (hg : mean .f64 g = gapM (mean .f64 x) (mean .f64 4607182418800017408)) : FloatKind.f64.format.order g 4547007122018943789 = some .lt := by
  subst hp
  have h0 := allN_all pow_all r hr
  rw [Bool.and_eq_true] at h0
  have hlt : narL (powT r) < bad := Nat.lt_trans (ble_true.1 h0.1) (by decide)
  obtain ⟨-, -, -, e4, -⟩ := nar_word (pow_rel r) hlt
  have h := ltL_lt (gapL_rel (Rel.of (n := widN (narL (powT r)))) (Rel.of (n := 4607182418800017408))) (Rel.of (n := 4547007122018943789)) h0.2
  have hc : mean .f64 4547007122018943789 = some 4547007122018943789 := by decide +kernel
  rw [order_mean, hg, c_mean e4 hx, mean_one64, hc]
  exact beq_iff_eq.1 h
theorem itimes_any (a b c d : Nat) (fa : finB .f32 a = true) (fb : finB .f32 b = true) (fc : finB .f32 c = true) (fd : finB .f32 d = true) (ha : (Lit.float .f32 a).wf = true) (hb : (Lit.float .f32 b).wf = true) (hc : (Lit.float .f32 c).wf = true) (hd : (Lit.float .f32 d).wf = true) (w : World) :
    Calls Try.prog 57 #[.complex .f32 a b, .complex .f32 c d] w fun e w' => ∃ x y, ((mean .f64 x = fop .sub .f64 (fop .mul .f64 (some (widN a)) (some (widN c))) (fop .mul .f64 (some (widN b)) (some (widN d))) ∧ (Lit.float .f64 x).wf = true) ∧
      (mean .f64 y = fop .add .f64 (fop .mul .f64 (some (widN a)) (some (widN d))) (fop .mul .f64 (some (widN b)) (some (widN c))) ∧ (Lit.float .f64 y).wf = true)) ∧ e = .returned (.tuple #[.float .f64 x, .float .f64 y]) ∧ ∃ n, w' = w.drewN n := by
  have hA := Lib_hid' fa
  have hB := Lib_hid' fb
  have hC := Lib_hid' fc
  have hD := Lib_hid' fd
  clear fa fb fc fd
  go_enter Try.func57, Try.ntmps57
  go_wp2_with (first | (refine wpList_fconv rfl _ _ _ rfl .f32 .f64 a rfl ha (by rw [Try.underlying22]; rfl) Try.underlying25 ?_; intro xa na xha) | (refine wpList_fconv rfl _ _ _ rfl .f32 .f64 b rfl hb (by rw [Try.underlying22]; rfl) Try.underlying25 ?_; intro xb nb xhb) | (refine wpList_fconv rfl _ _ _ rfl .f32 .f64 c rfl hc (by rw [Try.underlying22]; rfl) Try.underlying25 ?_; intro xc nc xhc) | (refine wpList_fconv rfl _ _ _ rfl .f32 .f64 d rfl hd (by rw [Try.underlying22]; rfl) Try.underlying25 ?_; intro xd nd xhd) | (refine wpList_float rfl .mul _ _ _ _ rfl rfl .f64 xa xc rfl rfl ?_; intro p1 np1 hp1) | (refine wpList_float rfl .mul _ _ _ _ rfl rfl .f64 xb xd rfl rfl ?_; intro p2 np2 hp2) | (refine wpList_float rfl .sub _ _ _ _ rfl rfl .f64 p1 p2 rfl rfl ?_; intro x nx hx) | (refine wpList_float rfl .mul _ _ _ _ rfl rfl .f64 xa xd rfl rfl ?_; intro p3 np3 hp3) | (refine wpList_float rfl .mul _ _ _ _ rfl rfl .f64 xb xc rfl rfl ?_; intro p4 np4 hp4) | (refine wpList_float rfl .add _ _ _ _ rfl rfl .f64 p3 p4 rfl rfl ?_; intro y ny hy))
  go_ret2
  exact ⟨x, y, ⟨⟨by rw [hx.1, hp1.1, hp2.1, c_mean hA.out xha, c_mean hB.out xhb, c_mean hC.out xhc, c_mean hD.out xhd], hx.2⟩, ⟨by rw [hy.1, hp3.1, hp4.1, c_mean hA.out xha, c_mean hB.out xhb, c_mean hC.out xhc, c_mean hD.out xhd], hy.2⟩⟩, rfl, _, rfl⟩
theorem near_both {r q : Nat} (hr : r < 64) (hq : q < 64) : reT r q < 4294967296 ∧ imT r q < 4294967296 ∧ ltL (gapL (widN (reT r q)) (widN (cT ((r + q) % 64)))) 4547007122018943789 = true ∧ ltL (gapL (widN (imT r q)) (widN (sT ((r + q) % 64)))) 4547007122018943789 = true := by
  have h := allN_all (allN_all near_all r hr) q hq
  unfold nearT at h
  rw [force_eq, force_eq, force_eq, Bool.and_eq_true, Bool.and_eq_true, Bool.and_eq_true] at h
  exact ⟨ble_true.1 h.1.1.1, ble_true.1 h.1.1.2, h.1.2, h.2⟩
theorem re_word {r q : Nat} (hr : r < 64) (hq : q < 64) {y p : Nat} (hy : mean .f64 y = fop .sub .f64 (fop .mul .f64 (some (widN (cT r))) (some (widN (cT q)))) (fop .mul .f64 (some (widN (sT r))) (some (widN (sT q))))) (hp : FConv .f64 .f32 y p) : p = reT r q ∧ finB .f32 (reT r q) = true := by
  have hlt : reT r q < bad := Nat.lt_trans (near_both hr hq).1 (by decide)
  obtain ⟨e1, e2, e3, e4, e5⟩ := nar_word (subL_rel (mulL_rel Rel.of Rel.of) (mulL_rel Rel.of Rel.of)) hlt
  have h1 := hp.1 (e3 y hy)
  rw [hy, e2] at h1
  exact ⟨(mean_some h1).1, e4⟩
theorem im_word {r q : Nat} (hr : r < 64) (hq : q < 64) {y p : Nat} (hy : mean .f64 y = fop .add .f64 (fop .mul .f64 (some (widN (cT r))) (some (widN (sT q)))) (fop .mul .f64 (some (widN (sT r))) (some (widN (cT q))))) (hp : FConv .f64 .f32 y p) : p = imT r q ∧ finB .f32 (imT r q) = true := by
  have hlt : imT r q < bad := Nat.lt_trans (near_both hr hq).2.1 (by decide)
  obtain ⟨e1, e2, e3, e4, e5⟩ := nar_word (addL_rel (mulL_rel Rel.of Rel.of) (mulL_rel Rel.of Rel.of)) hlt
  have h1 := hp.1 (e3 y hy)
  rw [hy, e2] at h1
  exact ⟨(mean_some h1).1, e4⟩
/-- What is known of the product of two phasors. -/
def PhMul (r q x y : Nat) : Prop := r < 64 ∧ q < 64 ∧ (x = reT r q ∧ finB .f32 x = true ∧ (Lit.float .f32 x).wf = true) ∧ (y = imT r q ∧ finB .f32 y = true ∧ (Lit.float .f32 y).wf = true)
theorem PhMul.mk' {r q a b c d x y u v : Nat} (h1 : Ph r a b) (h2 : Ph q c d) (hx : mean .f64 x = fop .sub .f64 (fop .mul .f64 (some (widN a)) (some (widN c))) (fop .mul .f64 (some (widN b)) (some (widN d)))) (hy : mean .f64 y = fop .add .f64 (fop .mul .f64 (some (widN a)) (some (widN d))) (fop .mul .f64 (some (widN b)) (some (widN c))))
    (hu : FConv .f64 .f32 x u) (hv : FConv .f64 .f32 y v) : PhMul r q u v := by
  obtain ⟨hr, rfl, rfl⟩ := h1
  obtain ⟨hq, rfl, rfl⟩ := h2
  obtain ⟨e1, e2⟩ := re_word hr hq hx hu
  obtain ⟨e3, e4⟩ := im_word hr hq hy hv
  exact ⟨hr, hq, ⟨e1, by rw [e1]; exact e2, hu.2⟩, ⟨e3, by rw [e3]; exact e4, hv.2⟩⟩
theorem mul_at {r q a b c d : Nat} (h1 : Ph r a b) (h2 : Ph q c d) (w : World) :
    Calls Try.prog 32 #[.complex .f32 a b, .complex .f32 c d] w fun e w' => ∃ x y, PhMul r q x y ∧ e = .returned (.complex .f32 x y) ∧ ∃ n, w' = w.drewN n := by
  obtain ⟨f1, f2, f3, f4⟩ := h1.fin
  obtain ⟨g1, g2, g3, g4⟩ := h2.fin
  have hP := Lib_hid' h1
  have hQ := Lib_hid' h2
  clear h1 h2
  go_enter Try.func32, Try.ntmps32
  go_wp2_with (first | (go_at_call 57; refine (itimes_any a b c d f1 f2 g1 g2 f3 f4 g3 g4 _).mono ?_; rintro e w' ⟨x, y, hxy, rfl, n, rfl⟩; have hX := Lib_hid' hxy; clear hxy) | (refine wpList_fconv rfl _ _ _ rfl .f64 .f32 x rfl (by exact hX.out.1.2) (by rw [Try.underlying25]; rfl) Try.underlying22 ?_; intro u nu hu) | (refine wpList_fconv rfl _ _ _ rfl .f64 .f32 y rfl (by exact hX.out.2.2) (by rw [Try.underlying25]; rfl) Try.underlying22 ?_; intro v nv hv))
  go_ret
  exact ⟨u, v, PhMul.mk' hP.out hQ.out hX.out.1.1 hX.out.2.1 hu hv, rfl, _, rfl⟩
theorem near_test {a b x y g : Nat} (fa : finB .f32 a = true) (fb : finB .f32 b = true) (h : ltL (gapL (widN a) (widN b)) 4547007122018943789 = true) (hx : FConv .f32 .f64 a x) (hy : FConv .f32 .f64 b y) (hg : mean .f64 g = gapM (mean .f64 x) (mean .f64 y)) : FloatKind.f64.format.order g 4547007122018943789 = some .lt := by
  have h := ltL_lt (gapL_rel (Rel.of (n := widN a)) (Rel.of (n := widN b))) (Rel.of (n := 4547007122018943789)) h
  have hc : mean .f64 4547007122018943789 = some 4547007122018943789 := by decide +kernel
  rw [order_mean, hg, c_mean fa hx, c_mean fb hy, hc]
  exact beq_iff_eq.1 h
theorem near_at {r q x y c d : Nat} (h1 : PhMul r q x y) (h2 : Ph ((r + q) % 64) c d) (w : World) :
    Calls Try.prog 31 #[.complex .f32 x y, .complex .f32 c d, .float .f64 4547007122018943789] w fun e w' => e = .returned (.bool true) ∧ ∃ n, w' = w.drewN n := by
  obtain ⟨g1, g2, g3, g4⟩ := h2.fin
  obtain ⟨hr, hq, ⟨ex, fx, wx⟩, ⟨ey, fy, wy⟩⟩ := h1
  have n1 : Hid (ltL (gapL (widN x) (widN c)) 4547007122018943789 = true) := by
    obtain ⟨-, rfl, rfl⟩ := h2; rw [ex]; exact (near_both hr hq).2.2.1
  have n2 : Hid (ltL (gapL (widN y) (widN d)) 4547007122018943789 = true) := by
    obtain ⟨-, rfl, rfl⟩ := h2; rw [ey]; exact (near_both hr hq).2.2.2
  have F1 := Lib_hid' (And.intro fx g1)
  have F2 := Lib_hid' (And.intro fy g2)
  clear h2 ex ey hr hq fx fy g1 g2
  go_enter Try.func31, Try.ntmps31
  go_wp2_with (first | (refine wpList_fconv rfl _ _ _ rfl .f32 .f64 x rfl wx (by rw [Try.underlying22]; rfl) Try.underlying25 ?_; intro xa na xha) | (refine wpList_fconv rfl _ _ _ rfl .f32 .f64 c rfl g3 (by rw [Try.underlying22]; rfl) Try.underlying25 ?_; intro xb nb xhb) | (refine wpList_fconv rfl _ _ _ rfl .f32 .f64 y rfl wy (by rw [Try.underlying22]; rfl) Try.underlying25 ?_; intro xc nc xhc) | (refine wpList_fconv rfl _ _ _ rfl .f32 .f64 d rfl g4 (by rw [Try.underlying22]; rfl) Try.underlying25 ?_; intro xd nd xhd) | (go_at_call 28; (with_reducible refine (gap_any xa xb _).mono ?_); rintro e w' ⟨r1, hr1, rfl, n, rfl⟩; have t1 := near_test F1.out.1 F1.out.2 n1.out xha xhb hr1.1) | (go_at_call 28; (with_reducible refine (gap_any xc xd _).mono ?_); rintro e w' ⟨r2, hr2, rfl, n, rfl⟩; have t2 := near_test F2.out.1 F2.out.2 n2.out xhc xhd hr2.1))
  go_ret
  exact ⟨rfl, _, rfl⟩
end Go.Proofs.Ytlcekfahjakfgaa
