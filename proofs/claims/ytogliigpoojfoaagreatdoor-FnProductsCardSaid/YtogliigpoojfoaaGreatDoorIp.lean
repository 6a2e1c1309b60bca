/-
  Products, powers and quotients of complex numbers whose parts are small whole numbers: what the program's functions make of them.
-/
import Derived.Test.YtogliigpoojfoaaGreatDoorIz
import Derived.Test.YtogliigpoojfoaaGreatDoorK6
import Derived.Test.YtogliigpoojfoaaGreatDoorSi
import Derived.Laws.ComplexArith
namespace Go.Proofs.YtogliigpoojfoaaGreatDoor
set_option maxRecDepth 100000
open Go.RowKit Fl

def IsW (a : Nat) (n : Int) : Prop := Is a n ∧ (Lit.float .f32 a).wf = true
def IzW (a : Nat) (n : Int) : Prop := Iz a n ∧ (Lit.float .f64 a).wf = true
theorem fres_mul {x y p : Nat} {n m : Int} (hx : Iz x n) (hy : Iz y m) (hb : (n * m).natAbs < 2 ^ 53) (h : FRes .mul .f64 x y p) : IzW p (n * m) ∧ sgn Ieee.double p = (sgn Ieee.double x ^^ sgn Ieee.double y) := by
  obtain ⟨c, e, hc, hs⟩ := iz_mul hx hy hb
  have h1 := h.1
  rw [hx.mean, hy.mean, e] at h1
  obtain ⟨rfl, -⟩ := mean_some h1
  exact ⟨⟨hc, h.2⟩, hs⟩
theorem fres_add {x y p : Nat} {n m : Int} (hx : Iz x n) (hy : Iz y m) (hb : (n + m).natAbs < 2 ^ 53) (h : FRes .add .f64 x y p) : IzW p (n + m) := by
  obtain ⟨c, e, hc⟩ := iz_add hx hy hb
  have h1 := h.1
  rw [hx.mean, hy.mean, e] at h1
  obtain ⟨rfl, -⟩ := mean_some h1
  exact ⟨hc, h.2⟩
theorem fres_sub {x y p : Nat} {n m : Int} (hx : Iz x n) (hy : Iz y m) (hb : (n - m).natAbs < 2 ^ 53) (h : FRes .sub .f64 x y p) : IzW p (n - m) := by
  obtain ⟨c, e, hc⟩ := iz_sub hx hy hb
  have h1 := h.1
  rw [hx.mean, hy.mean, e] at h1
  obtain ⟨rfl, -⟩ := mean_some h1
  exact ⟨hc, h.2⟩
theorem fres_quo {x y p : Nat} {n m : Int} (hx : Iz x (n * m)) (hy : Iz y m) (hm : m ≠ 0) (hb : n.natAbs < 2 ^ 53) (h : FRes .quo .f64 x y p) : IzW p n := by
  obtain ⟨c, e, hc⟩ := iz_quo hx hy hm hb
  have h1 := h.1
  rw [hx.mean, hy.mean, e] at h1
  obtain ⟨rfl, -⟩ := mean_some h1
  exact ⟨hc, h.2⟩
theorem mul_bd {n m : Int} {A B : Nat} (hn : n.natAbs ≤ A) (hm : m.natAbs ≤ B) : (n * m).natAbs ≤ A * B := by rw [Int.natAbs_mul]; exact Nat.mul_le_mul hn hm
theorem isw_narrow {b r : Nat} {n : Int} (h : Iz b n) (hn : n.natAbs < 2 ^ 24) (hr : FConv .f64 .f32 b r) : IsW r n := ⟨(iz_narrow h hn hr).1, hr.2⟩
/-- Two 64-bit words that are worth the same and have the same sign are the same. -/
theorem iz_same {a b : Nat} {n : Int} (ha : IzW a n) (hb : IzW b n) (hs : sgn Ieee.double a = sgn Ieee.double b) : a = b := by
  have hm : mag Ieee.double a = mag Ieee.double b := V_inj (ha.1.abs.1.trans hb.1.abs.1.symm)
  rw [word_sgn_mag Ieee.double (b := a) (lt_of_wf64 ha.2), word_sgn_mag Ieee.double (b := b) (lt_of_wf64 hb.2), hs, hm]
theorem iz_zero {a : Nat} (ha : IzW a 0) (hs : sgn Ieee.double a = false) : a = 0 :=
  iz_same ha ⟨⟨by unfold Fin64; decide, by rw [Int.zero_mul]; decide⟩, by decide⟩ (by rw [hs]; decide)
theorem sq_nonneg (n : Int) : 0 ≤ n * n := by
  rcases Int.le_total 0 n with h | h
  · exact Int.mul_nonneg h h
  · exact Int.mul_nonneg_of_nonpos_of_nonpos h h
theorem neg32 (b : Nat) : mag Ieee.single (Op.negFloat .f32 b) = mag Ieee.single b ∧ sgn Ieee.single (Op.negFloat .f32 b) = !sgn Ieee.single b := by
  have hs : ∀ x, sgn Ieee.single x = x.testBit 31 := fun x => by
    rw [Nat.testBit_eq_decide_div_mod_eq]; rfl
  constructor
  · show (b ^^^ 2 ^ 31) % 2 ^ 31 = b % 2 ^ 31
    apply Nat.eq_of_testBit_eq
    intro i
    rw [Nat.testBit_mod_two_pow, Nat.testBit_mod_two_pow, Nat.testBit_xor, Nat.testBit_two_pow]
    by_cases h1 : i < 31
    · have : decide (31 = i) = false := decide_eq_false (by omega)
      rw [this]; simp
    · rw [decide_eq_false h1]; simp
  · rw [hs, hs]
    show (b ^^^ 2 ^ 31).testBit 31 = _
    rw [Nat.testBit_xor, Nat.testBit_two_pow]
    simp
theorem neg_wf {b : Nat} (h : (Lit.float .f32 b).wf = true) : (Lit.float .f32 (Op.negFloat .f32 b)).wf = true :=
  wf_of_lt _ _ (show b ^^^ 2 ^ 31 < 2 ^ 32 from Nat.xor_lt_two_pow (lt_of_wf h) (by decide))
theorem neg_twice (b : Nat) : Op.negFloat .f32 (Op.negFloat .f32 b) = b := by
  show (b ^^^ 2 ^ 31) ^^^ 2 ^ 31 = b
  rw [Nat.xor_assoc, Nat.xor_self, Nat.xor_zero]
theorem isw_neg {b : Nat} {m : Int} (h : IsW b m) : IsW (Op.negFloat .f32 b) (-m) := by
  obtain ⟨h1, h2⟩ := neg32 b
  refine ⟨⟨by rw [h1]; exact h.1.1, ?_⟩, neg_wf h.2⟩
  have h3 := h.1.2
  unfold val at h3 ⊢
  rw [h1, h2, Int.neg_mul, ← h3]
  cases sgn Ieee.single b <;> simp [sV]
theorem times_whole {a b c d : Nat} {n m s t : Int} (ha : IsW a n) (hb : IsW b m) (hc : IsW c s) (hd : IsW d t) (bn : n.natAbs ≤ 100000) (bm : m.natAbs ≤ 100000) (bs : s.natAbs ≤ 100000) (bt : t.natAbs ≤ 100000) (w : World) :
    Calls Tryz.prog 40 #[.complex .f32 a b, .complex .f32 c d] w fun e w' => ∃ x y, (IzW x (n * s - m * t) ∧ IzW y (n * t + m * s)) ∧ e = .returned (.tuple #[.float .f64 x, .float .f64 y]) ∧ ∃ n, w' = w.drewN n := by
  have hA := hidI ha.1
  have hB := hidI hb.1
  have hC := hidI hc.1
  have hD := hidI hd.1
  have wa := ha.2
  have wb := hb.2
  have wc := hc.2
  have wd := hd.2
  have b1 := hidI (mul_bd bn bs)
  have b2 := hidI (mul_bd bm bt)
  have b3 := hidI (mul_bd bn bt)
  have b4 := hidI (mul_bd bm bs)
  clear ha hb hc hd bn bm bs bt
  go_enter Tryz.func40, Tryz.ntmps40
  go_wp2_with (first | (refine wpList_fconv rfl _ _ _ rfl .f32 .f64 a rfl wa (by rw [Tryz.underlying28]; rfl) Tryz.underlying46 ?_; intro xa na xha) | (refine wpList_fconv rfl _ _ _ rfl .f32 .f64 b rfl wb (by rw [Tryz.underlying28]; rfl) Tryz.underlying46 ?_; intro xb nb xhb) | (refine wpList_fconv rfl _ _ _ rfl .f32 .f64 c rfl wc (by rw [Tryz.underlying28]; rfl) Tryz.underlying46 ?_; intro xc nc xhc) | (refine wpList_fconv rfl _ _ _ rfl .f32 .f64 d rfl wd (by rw [Tryz.underlying28]; rfl) Tryz.underlying46 ?_; intro xd nd xhd) | (refine wpList_float rfl .mul _ _ _ _ rfl rfl .f64 xa xc rfl rfl ?_; intro p1 np1 hp1) | (refine wpList_float rfl .mul _ _ _ _ rfl rfl .f64 xb xd rfl rfl ?_; intro p2 np2 hp2) | (refine wpList_float rfl .sub _ _ _ _ rfl rfl .f64 p1 p2 rfl rfl ?_; intro x nx hx) | (refine wpList_float rfl .mul _ _ _ _ rfl rfl .f64 xa xd rfl rfl ?_; intro p3 np3 hp3) | (refine wpList_float rfl .mul _ _ _ _ rfl rfl .f64 xb xc rfl rfl ?_; intro p4 np4 hp4) | (refine wpList_float rfl .add _ _ _ _ rfl rfl .f64 p3 p4 rfl rfl ?_; intro y ny hy))
  go_ret2
  have k1 := b1.out
  have k2 := b2.out
  have k3 := b3.out
  have k4 := b4.out
  have z1 := (is_wide hA.out xha).1
  have z2 := (is_wide hB.out xhb).1
  have z3 := (is_wide hC.out xhc).1
  have z4 := (is_wide hD.out xhd).1
  have q1 := (fres_mul z1 z3 (by omega) hp1).1
  have q2 := (fres_mul z2 z4 (by omega) hp2).1
  have q3 := (fres_mul z1 z4 (by omega) hp3).1
  have q4 := (fres_mul z2 z3 (by omega) hp4).1
  exact ⟨x, y, ⟨fres_sub q1.1 q2.1 (by omega) hx, fres_add q3.1 q4.1 (by omega) hy⟩, rfl, _, rfl⟩
theorem mul_whole {a b c d : Nat} {n m s t : Int} (ha : IsW a n) (hb : IsW b m) (hc : IsW c s) (hd : IsW d t) (bn : n.natAbs ≤ 200) (bm : m.natAbs ≤ 200) (bs : s.natAbs ≤ 200) (bt : t.natAbs ≤ 200) (w : World) :
    Calls Tryz.prog 7 #[.complex .f32 a b, .complex .f32 c d] w fun e w' => ∃ x y, (IsW x (n * s - m * t) ∧ IsW y (n * t + m * s)) ∧ e = .returned (.complex .f32 x y) ∧ ∃ n, w' = w.drewN n := by
  have hT := hidI (fun w => times_whole ha hb hc hd (by omega) (by omega) (by omega) (by omega) w)
  have b1 := hidI (mul_bd bn bs)
  have b2 := hidI (mul_bd bm bt)
  have b3 := hidI (mul_bd bn bt)
  have b4 := hidI (mul_bd bm bs)
  clear ha hb hc hd bn bm bs bt
  go_enter Tryz.func7, Tryz.ntmps7
  go_wp2_with (first | (go_at_call 40; refine (hT.out _).mono ?_; rintro e w' ⟨x, y, hxy, rfl, n1, rfl⟩; have hX := hidI hxy; clear hxy) | (refine wpList_fconv rfl _ _ _ rfl .f64 .f32 x rfl (by exact hX.out.1.2) (by rw [Tryz.underlying46]; rfl) Tryz.underlying28 ?_; intro u nu hu) | (refine wpList_fconv rfl _ _ _ rfl .f64 .f32 y rfl (by exact hX.out.2.2) (by rw [Tryz.underlying46]; rfl) Tryz.underlying28 ?_; intro v nv hv))
  go_ret
  have k1 := b1.out
  have k2 := b2.out
  have k3 := b3.out
  have k4 := b4.out
  exact ⟨u, v, ⟨isw_narrow hX.out.1.1 (by omega) hu, isw_narrow hX.out.2.1 (by omega) hv⟩, rfl, _, rfl⟩
theorem power_whole {a b : Nat} {n m : Int} (ha : IsW a n) (hb : IsW b m) (bn : n.natAbs ≤ 200) (bm : m.natAbs ≤ 200) (w : World) :
    Calls Tryz.prog 41 #[.complex .f32 a b] w fun e w' => ∃ x, (IzW x (n * n + m * m) ∧ sgn Ieee.double x = false) ∧ e = .returned (.float .f64 x) ∧ ∃ n, w' = w.drewN n := by
  have hA := hidI ha.1
  have hB := hidI hb.1
  have wa := ha.2
  have wb := hb.2
  have b1 := hidI (mul_bd bn bn)
  have b2 := hidI (mul_bd bm bm)
  clear ha hb bn bm
  go_enter Tryz.func41, Tryz.ntmps41
  go_wp2_with (first | (refine wpList_fconv rfl _ _ _ rfl .f32 .f64 a rfl wa (by rw [Tryz.underlying28]; rfl) Tryz.underlying46 ?_; intro xa na xha) | (refine wpList_fconv rfl _ _ _ rfl .f32 .f64 b rfl wb (by rw [Tryz.underlying28]; rfl) Tryz.underlying46 ?_; intro xb nb xhb) | (refine wpList_float rfl .mul _ _ _ _ rfl rfl .f64 xa xa rfl rfl ?_; intro p1 np1 hp1) | (refine wpList_float rfl .mul _ _ _ _ rfl rfl .f64 xb xb rfl rfl ?_; intro p2 np2 hp2) | (refine wpList_float rfl .add _ _ _ _ rfl rfl .f64 p1 p2 rfl rfl ?_; intro x nx hx))
  go_ret
  have k1 := b1.out
  have k2 := b2.out
  have z1 := (is_wide hA.out xha).1
  have z2 := (is_wide hB.out xhb).1
  obtain ⟨q1, s1⟩ := fres_mul z1 z1 (by omega) hp1
  obtain ⟨q2, s2⟩ := fres_mul z2 z2 (by omega) hp2
  have q := fres_add q1.1 q2.1 (by omega) hx
  refine ⟨x, ⟨q, ?_⟩, rfl, _, rfl⟩
  have n1 := sq_nonneg n
  have n2 := sq_nonneg m
  by_cases h0 : n * n + m * m = 0
  · have e1 : n * n = 0 := by omega
    have e2 : m * m = 0 := by omega
    rw [e1] at q1
    rw [e2] at q2
    have c1 := iz_zero q1 (by rw [s1, Bool.xor_self])
    have c2 := iz_zero q2 (by rw [s2, Bool.xor_self])
    subst c1 c2
    have h1 := hx.1
    have h2 : fop .add .f64 (mean .f64 0) (mean .f64 0) = some 0 := by decide +kernel
    rw [h2] at h1
    obtain ⟨rfl, -⟩ := mean_some h1
    decide
  · rw [q.1.abs.2 h0]
    exact decide_eq_false (by omega)
theorem pow_whole {a b : Nat} {n m : Int} (ha : IsW a n) (hb : IsW b m) (bn : n.natAbs ≤ 200) (bm : m.natAbs ≤ 200) (w : World) :
    Calls Tryz.prog 8 #[.complex .f32 a b] w fun e w' => ∃ x, IsW x (n * n + m * m) ∧ e = .returned (.float .f32 x) ∧ ∃ n, w' = w.drewN n := by
  have hT := hidI (fun w => power_whole ha hb bn bm w)
  have b1 := hidI (mul_bd bn bn)
  have b2 := hidI (mul_bd bm bm)
  clear ha hb bn bm
  go_enter Tryz.func8, Tryz.ntmps8
  go_wp2_with (first | (go_at_call 41; refine (hT.out _).mono ?_; rintro e w' ⟨x, hxy, rfl, n1, rfl⟩; have hX := hidI hxy; clear hxy) | (refine wpList_fconv rfl _ _ _ rfl .f64 .f32 x rfl (by exact hX.out.1.2) (by rw [Tryz.underlying46]; rfl) Tryz.underlying28 ?_; intro u nu hu))
  go_ret
  have k1 := b1.out
  have k2 := b2.out
  exact ⟨u, isw_narrow hX.out.1.1 (by omega) hu, rfl, _, rfl⟩
theorem long_whole {a b : Nat} {n m : Int} (ha : IsW a n) (hb : IsW b m) (bn : n.natAbs ≤ 200) (bm : m.natAbs ≤ 200) (w : World) :
    Calls Tryz.prog 11 #[.complex .f32 a b] w fun e w' => ∃ r, (∃ p q, (IzW p (n * n + m * m) ∧ sgn Ieee.double p = false) ∧ FSqrt p q ∧ FConv .f64 .f32 q r) ∧ e = .returned (.float .f32 r) ∧ ∃ n, w' = w.drewN n := by
  have hT := hidI (fun w => power_whole ha hb bn bm w)
  clear ha hb bn bm
  go_enter Tryz.func11, Tryz.ntmps11
  go_wp2_with (first | (go_at_call 41; refine (hT.out _).mono ?_; rintro e w' ⟨x, hxy, rfl, n1, rfl⟩; have hX := hidI hxy; clear hxy) | (go_at_call 43; refine (msqrt_any _ _).mono ?_; rintro e w' ⟨y, hy, rfl, n2, rfl⟩; have hY := hidI hy; clear hy) | (refine wpList_fconv rfl _ _ _ rfl .f64 .f32 y rfl (by exact hY.out.2) (by rw [Tryz.underlying46]; rfl) Tryz.underlying28 ?_; intro u nu hu))
  go_ret
  exact ⟨u, ⟨x, y, hX.out, hY.out, hu⟩, rfl, _, rfl⟩
theorem long_root {n : Int} {r g F : Nat} (h : ∃ p q, (IzW p n ∧ sgn Ieee.double p = false) ∧ FSqrt p q ∧ FConv .f64 .f32 q r) (hF : IsW F n) (hs : sgn Ieee.single F = false) (hg : RootOf F g) : mean .f32 r = mean .f32 g := by
  obtain ⟨p, q, ⟨hp, sp⟩, hq, hr⟩ := h
  obtain ⟨x, y, hx, hy, hg⟩ := hg
  obtain ⟨z, sz⟩ := is_wide hF.1 hx
  have e : p = x := iz_same hp ⟨z, hx.2⟩ (by rw [sp, sz, hs])
  subst e
  exact conv_same (hq.1.trans hy.1.symm) hr hg (root_fits hx hq) (root_fits hx hy)
theorem conj_any (a b : Nat) (w : World) :
    Calls Tryz.prog 9 #[.complex .f32 a b] w fun e w' => e = .returned (.complex .f32 a (Op.negFloat .f32 b)) ∧ w = w' := by
  go_enter Tryz.func9, Tryz.ntmps9
  go_wp2
  go_ret
  exact ⟨rfl, rfl⟩
theorem quo_whole {x y c d : Nat} {n m s t : Int} (hx : IsW x (n * s - m * t)) (hy : IsW y (n * t + m * s)) (hc : IsW c s) (hd : IsW d t) (bn : n.natAbs ≤ 200) (bm : m.natAbs ≤ 200) (bs : s.natAbs ≤ 200) (bt : t.natAbs ≤ 200) (h0 : s * s + t * t ≠ 0) (w : World) :
    Calls Tryz.prog 13 #[.complex .f32 x y, .complex .f32 c d] w fun e w' => ∃ u v, (IsW u n ∧ IsW v m) ∧ e = .returned (.complex .f32 u v) ∧ ∃ n, w' = w.drewN n := by
  have e1 : (n * s - m * t) * s - (n * t + m * s) * -t = n * (s * s + t * t) := by
    simp only [Int.sub_mul, Int.add_mul, Int.mul_add, Int.mul_neg, Int.mul_assoc]
    rw [Int.mul_comm t s]; omega
  have e2 : (n * s - m * t) * -t + (n * t + m * s) * s = m * (s * s + t * t) := by
    simp only [Int.sub_mul, Int.add_mul, Int.mul_add, Int.mul_neg, Int.mul_assoc]
    rw [Int.mul_comm t s]; omega
  have b1 := mul_bd bn bs
  have b2 := mul_bd bm bt
  have b3 := mul_bd bn bt
  have b4 := mul_bd bm bs
  have hT := hidI (fun w => times_whole hx hy hc (isw_neg hd) (by omega) (by omega) (by omega) (by omega) w)
  rw [e1, e2] at hT
  have hP := hidI (fun w => power_whole hc hd bs bt w)
  have hN := hidI bn
  have hM := hidI bm
  have hZ := hidI h0
  clear hx hy hc hd bn bm bs bt b1 b2 b3 b4 e1 e2 h0
  go_enter Tryz.func13, Tryz.ntmps13
  go_wp2_with (first | (go_at_call 9; refine (conj_any _ _ _).mono ?_; rintro e w' ⟨rfl, rfl⟩) | (go_at_call 40; refine (hT.out _).mono ?_; rintro e w' ⟨f, g, hxy, rfl, n1, rfl⟩; have hX := hidI hxy; clear hxy) | (go_at_call 41; refine (hP.out _).mono ?_; rintro e w' ⟨p, hp, rfl, n2, rfl⟩; have hQ := hidI hp; clear hp) | (refine wpList_float rfl .quo _ _ _ _ rfl rfl .f64 f p rfl rfl ?_; intro x1 nx1 hx1) | (refine wpList_float rfl .quo _ _ _ _ rfl rfl .f64 g p rfl rfl ?_; intro y1 ny1 hy1) | (refine wpList_fconv rfl _ _ _ rfl .f64 .f32 x1 rfl (by exact hx1.2) (by rw [Tryz.underlying46]; rfl) Tryz.underlying28 ?_; intro u nu hu) | (refine wpList_fconv rfl _ _ _ rfl .f64 .f32 y1 rfl (by exact hy1.2) (by rw [Tryz.underlying46]; rfl) Tryz.underlying28 ?_; intro v nv hv))
  go_ret
  have k1 := hN.out
  have k2 := hM.out
  have z1 := fres_quo hX.out.1.1 hQ.out.1.1 hZ.out (by omega) hx1
  have z2 := fres_quo hX.out.2.1 hQ.out.1.1 hZ.out (by omega) hy1
  exact ⟨u, v, ⟨isw_narrow z1.1 (by omega) hu, isw_narrow z2.1 (by omega) hv⟩, rfl, _, rfl⟩
theorem scale_any (a b c : Nat) (w : World) :
    Calls Tryz.prog 14 #[.complex .f32 a b, .float .f32 c] w fun e w' => ∃ u v, (FRes .mul .f32 a c u ∧ FRes .mul .f32 b c v) ∧ e = .returned (.complex .f32 u v) ∧ ∃ n, w' = w.drewN n := by
  go_enter Tryz.func14, Tryz.ntmps14
  go_wp2_with (first | (have _ := hu; refine wpList_float rfl .mul _ _ _ _ rfl rfl .f32 b c rfl rfl ?_; intro v nv hv) | (refine wpList_float rfl .mul _ _ _ _ rfl rfl .f32 a c rfl rfl ?_; intro u nu hu))
  go_ret
  exact ⟨u, v, ⟨hu, hv⟩, rfl, _, rfl⟩
theorem isamec_any (a b c d : Nat) (ha : (Lit.float .f32 a).wf = true) (hb : (Lit.float .f32 b).wf = true) (hc : (Lit.float .f32 c).wf = true) (hd : (Lit.float .f32 d).wf = true) (h1 : sameB a c = true) (h2 : sameB b d = true) (w : World) :
    Calls Tryz.prog 24 #[.complex .f32 a b, .complex .f32 c d] w fun e w' => e = .returned (.bool true) ∧ ∃ n, w' = w.drewN n := by
  have hA := hidI (fun w => isame_any a c ha hc w)
  have hB := hidI (fun w => isame_any b d hb hd w)
  rw [h1] at hA
  rw [h2] at hB
  clear h1 h2 ha hb hc hd
  go_enter Tryz.func24, Tryz.ntmps24
  go_wp2_with (first | (have _ := n1; go_at_call 59; refine (hB.out _).mono ?_; rintro e w' ⟨rfl, n2, rfl⟩) | (go_at_call 59; refine (hA.out _).mono ?_; rintro e w' ⟨rfl, n1, rfl⟩))
  go_ret
  exact ⟨rfl, _, rfl⟩
theorem ssamec_any (a b c d : Nat) (h1 : sameB a c = true) (h2 : sameB b d = true) (w : World) :
    Calls Tryz.prog 58 #[.complex .f32 a b, .complex .f32 c d] w fun e w' => e = .returned (.bool true) ∧ w' = w := by
  have hA := hidI (fun w => lsame_any a c w)
  have hB := hidI (fun w => lsame_any b d w)
  rw [h1] at hA
  rw [h2] at hB
  clear h1 h2
  have hC := hidI (show ∀ w, Calls Tryz.prog 81 #[.complex .f32 a b, .complex .f32 c d] w fun e w' => e = .returned (.bool true) ∧ w' = w from fun w => by
    go_enter Tryz.func81, Tryz.ntmps81
    go_wp2_with (first | (go_at_call_of 42 (Value.float .f32 a); refine (hA.out _).mono ?_; rintro e w' ⟨rfl, rfl⟩) | (go_at_call 42; refine (hB.out _).mono ?_; rintro e w' ⟨rfl, rfl⟩))
    go_ret
    exact ⟨rfl, rfl⟩)
  go_enter Tryz.func58, Tryz.ntmps58
  go_wp2_with (go_at_call 81; refine (hC.out _).mono ?_; rintro e w' ⟨rfl, rfl⟩)
  go_ret
  exact ⟨rfl, rfl⟩
end Go.Proofs.YtogliigpoojfoaaGreatDoor
