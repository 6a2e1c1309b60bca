/-
  Contracts: the sine of a number of turns.
-/
import Derived.Test.YtogliigpoojfoaaGreatDoorK6
import Derived.Test.YtogliigpoojfoaaGreatDoorKa
namespace Go.Proofs.YtogliigpoojfoaaGreatDoor
set_option maxRecDepth 100000
open Go.RowKit Fl

@[go_sem] theorem unary_neg_float (k : FloatKind) (b : Nat) : Op.unary .neg (.float k b) = pure (.float k (Op.negFloat k b)) := rfl
theorem Lib_hid' {p : Prop} (h : p) : Hid p := h

theorem trunc_run (a : Nat) (h : Fin64 a) (w : World) : (Extern.MathFloor.toIntegral "math.archTrunc" .zero #[.float .f64 a]).run Tryz.prog w = .ok (.float .f64 (truncN a)) w := by
  obtain ⟨m, p, e, -, -, -⟩ := read_fin Ieee.double h
  have e' : FloatKind.f64.decode a = .number (sgn Ieee.double a) m p := e
  show Sem.run Tryz.prog (match FloatKind.f64.decode a with
    | .nan s t => if FloatKind.f64.format.quiet t = t then (Pure.pure (Value.float .f64 a) : Sem Value) else (choose (.extern "math.Floor,Ceil,Trunc,RoundToEven.signallingNaN kept" 2)).bind fun kept => Pure.pure (Value.float .f64 (if kept == 1 then a else FloatKind.f64.encode (.nan s (FloatKind.f64.format.quiet t))))
    | d => Pure.pure (Value.float .f64 (FloatKind.f64.encode (d.integral .zero)))) w = _
  unfold truncN
  rw [e']; rfl
theorem cf_trunc (a : Nat) (h : Fin64 a) (w : World) : (callFunc 118 #[.float .f64 a]).run Tryz.prog w = .ok (.value (.float .f64 (truncN a))) w := by
  have e := run_callFunc_extern (fn := Tryz.f118) (e := Extern.MathFloor.toIntegral "math.archTrunc" .zero) Tryz.func118 (by kernel_rfl) (by kernel_rfl) (by kernel_rfl) (by kernel_rfl) #[.float .f64 a] w
  rw [e, trunc_run a h]; rfl
theorem mtrunc_any (a : Nat) (h : Fin64 a) (w : World) :
    Calls Tryz.prog 99 #[.float .f64 a] w fun e w' => e = .returned (.float .f64 (truncN a)) ∧ w' = w := by
  have hc := cf_trunc a h w
  clear h
  go_enter Tryz.func99, Tryz.ntmps99
  go_wp2
  go_ret
  exact ⟨rfl, rfl⟩
theorem whole_zero {a : Nat} (h : Fin64 a) (h0 : wholeC a = 0) : (FloatKind.f64.format.order (truncN a) 0 == some .eq) = true ∧ wholeN a = 0 := by
  rw [trunc_zero h h0]
  constructor
  · cases sgn Ieee.double a <;> decide
  · unfold wholeN wholeZ
    rw [h0]
    cases sgn Ieee.double a <;> decide
theorem whole_pos {a : Nat} (h : mag Ieee.double a < two52) (h0 : wholeC a ≠ 0) : (FloatKind.f64.format.order (truncN a) 0 == some .eq) = false ∧ truncN a = wholeN a := by
  have ha : Fin64 a := Nat.lt_trans h (by decide)
  obtain ⟨hf, hv, -⟩ := whole_val h
  refine ⟨?_, trunc_whole ha h0⟩
  rw [trunc_whole ha h0, order_fin hf fin_zero, val_zero, hv]
  have hz : wholeZ a ≠ 0 := by unfold wholeZ; cases sgn Ieee.double a <;> simp [sV] <;> omega
  have hp := V_one_pos
  generalize V Ieee.double one64 = K at hp
  have : wholeZ a * (K : Int) ≠ 0 := Int.mul_ne_zero hz (by omega)
  cases hc : compare (wholeZ a * (K : Int)) 0
  · rfl
  · exact absurd (Int.compare_eq_eq.1 hc) this
  · rfl
theorem part_sub {a f : Nat} (h : mag Ieee.double a < two52) (hf : FRes .sub .f64 a (wholeN a) f) : mean .f64 f = fop .sub .f64 (some a) (some (wholeN a)) := by
  have ha : Fin64 a := Nat.lt_trans h (by decide)
  rw [hf.1, ha.mean, (whole_val h).1.mean]
theorem part_test {a f : Nat} (h : mag Ieee.double a < two52) (hf : FRes .sub .f64 a (wholeN a) f) : ltM (fop .sub .f64 (some a) (some (wholeN a))) (some 0) = (FloatKind.f64.format.order f 0 == some .lt) := by
  rw [order_mean, part_sub h hf]; rfl
theorem part_lt {a f r : Nat} (h : mag Ieee.double a < two52) (hf : FRes .sub .f64 a (wholeN a) f) (hl : (FloatKind.f64.format.order f 0 == some .lt) = true) (hr : FRes .add .f64 f one64 r) : mean .f64 r = partM a ∧ (Lit.float .f64 r).wf = true := by
  refine ⟨?_, hr.2⟩
  unfold partM
  rw [part_test h hf, hl, hr.1, part_sub h hf, fin_one.mean]; rfl
theorem part_ge {a f : Nat} (h : mag Ieee.double a < two52) (hf : FRes .sub .f64 a (wholeN a) f) (hl : (FloatKind.f64.format.order f 0 == some .lt) = false) : mean .f64 f = partM a ∧ (Lit.float .f64 f).wf = true := by
  refine ⟨?_, hf.2⟩
  unfold partM
  rw [part_test h hf]
  rw [hl, part_sub h hf]; simp
set_option maxHeartbeats 400000 in
theorem part_any (a : Nat) (h : mag Ieee.double a < two52) (w : World) :
    Calls Tryz.prog 87 #[.float .f64 a] w fun e w' => ∃ r, (mean .f64 r = partM a ∧ (Lit.float .f64 r).wf = true) ∧ e = .returned (.float .f64 r) ∧ ∃ n, w' = w.drewN n := by
  have ha : Fin64 a := Nat.lt_trans h (by decide)
  have hH := Lib_hid' h
  clear h
  by_cases h0 : wholeC a = 0
  · obtain ⟨hz, hw⟩ := whole_zero ha h0
    have hW := Lib_hid' hw
    clear hw h0
    go_enter Tryz.func87, Tryz.ntmps87
    go_wp2_with (first | (go_at_call 99; refine (mtrunc_any _ ha _).mono ?_; rintro e w' ⟨rfl, rfl⟩) | (refine wpList_float rfl .sub _ _ _ _ rfl rfl _ _ _ rfl rfl ?_; intro f n1 hf) | (refine wpList_float rfl .add _ _ _ _ rfl rfl _ _ _ rfl rfl ?_; intro r n2 hr))
    · go_ret
      exact ⟨_, part_lt hH.out (by rw [hW.out]; exact hf) (by assumption) hr, rfl, _, rfl⟩
    · go_ret
      exact ⟨_, part_ge hH.out (by rw [hW.out]; exact hf) (by assumption), rfl, _, rfl⟩
  · obtain ⟨hz, hw⟩ := whole_pos hH.out h0
    rw [hw] at hz
    have hW := Lib_hid' hw
    clear hw h0
    go_enter Tryz.func87, Tryz.ntmps87
    go_wp2_with (first | (go_at_call 99; refine (mtrunc_any _ ha _).mono ?_; rw [hW.out]; rintro e w' ⟨rfl, rfl⟩) | (refine wpList_float rfl .sub _ _ _ _ rfl rfl _ _ _ rfl rfl ?_; intro f n1 hf) | (refine wpList_float rfl .add _ _ _ _ rfl rfl _ _ _ rfl rfl ?_; intro r n2 hr))
    · go_ret
      exact ⟨_, part_lt hH.out hf (by assumption) hr, rfl, _, rfl⟩
    · go_ret
      exact ⟨_, part_ge hH.out hf (by assumption), rfl, _, rfl⟩

/-! ### The loop of the sine -/
/-- The counter of the loop, as a float. -/
def kM : Nat → Option Nat
  | 0 => some 4620693217682128896
  | j + 1 => fop .sub .f64 (kM j) (some one64)
theorem kM_some : ∀ j, j < 9 → (kM j).isSome = true := by decide +kernel
theorem kM_test : ∀ j, j < 8 → geM (kM j) (some one64) = true := by decide +kernel
theorem kM_end : geM (kM 8) (some one64) = false := by decide +kernel
theorem kM_div : ∀ j, j < 8 → fop .mul .f64 (fop .mul .f64 (some 4611686018427387904) (kM j)) (fop .add .f64 (fop .mul .f64 (some 4611686018427387904) (kM j)) (some one64)) = some (divS j) := by decide +kernel
theorem mean_two : mean .f64 4611686018427387904 = some 4611686018427387904 := by decide +kernel
theorem mean_one64 : mean .f64 4607182418800017408 = some one64 := by decide +kernel
theorem mean_tau : mean .f64 4618760256179416344 = some tau64 := by decide +kernel
theorem mean_half : mean .f64 4602678819172646912 = some half64 := by decide +kernel
theorem mean_quarter : mean .f64 4598175219545276416 = some quarter64 := by decide +kernel
theorem ge_test {k : Nat} {x : Option Nat} {b : Bool} {c : Nat} (hk : mean .f64 k = x) (hc : mean .f64 c = some c) (h : geM x (some c) = b) : (FloatKind.f64.format.order k c == some .gt || FloatKind.f64.format.order k c == some .eq) = b := by
  rw [order_mean, hk, hc]; exact h
theorem gt_test {k : Nat} {x : Option Nat} {b : Bool} {c : Nat} (hk : mean .f64 k = x) (hc : mean .f64 c = some c) (h : gtM x (some c) = b) : (FloatKind.f64.format.order k c == some .gt) = b := by
  rw [order_mean, hk, hc]; exact h

/-- What z and u are, for a number f: 'z' is the folded number times the turn, 'u' its square. -/
def SinZ (f : Nat) (z u : Nat) : Prop := mean .f64 z = fop .mul .f64 (foldM (mean .f64 f)) (some tau64) ∧ FRes .mul .f64 z z u
/-- What p is in round j. -/
def SinR (u j : Nat) (v : Value) : Prop := ∃ p, v = .float .f64 p ∧ mean .f64 p = sinP (mean .f64 u) j
theorem SinR.step {u j p a b c d e g h : Nat} (hj : j < 8) {k : Nat} (hk : mean .f64 k = kM j) (hp : mean .f64 p = sinP (mean .f64 u) j) (ha : FRes .mul .f64 u p a) (hb : FRes .mul .f64 4611686018427387904 k b)
    (hc : FRes .mul .f64 4611686018427387904 k c) (hd : FRes .add .f64 c 4607182418800017408 d) (he : FRes .mul .f64 b d e) (hg : FRes .quo .f64 a e g) (hh : FRes .sub .f64 4607182418800017408 g h) : SinR u (j + 1) (.float .f64 h) := by
  refine ⟨h, rfl, ?_⟩
  have e1 : mean .f64 e = some (divS j) := by rw [he.1, hb.1, hd.1, hc.1, hk, mean_two, mean_one64]; exact kM_div j hj
  rw [hh.1, hg.1, ha.1, e1, hp, mean_one64]; rfl
theorem SinR.stepS {u j p a g h : Nat} (hp : mean .f64 p = sinP (mean .f64 u) j) (ha : FRes .mul .f64 u p a) (hg : FRes .quo .f64 a (divS j) g) (hh : FRes .sub .f64 4607182418800017408 g h) (hj : j < 8) : SinR u (j + 1) (.float .f64 h) := by
  refine ⟨h, rfl, ?_⟩
  have hd : mean .f64 (divS j) = some (divS j) := by
    have key : ∀ j, j < 8 → mean .f64 (divS j) = some (divS j) := by decide +kernel
    exact key j hj
  rw [hh.1, hg.1, ha.1, hd, hp, mean_one64]; rfl

theorem mean_neg (x : Nat) : mean .f64 (Op.negFloat .f64 x) = negM (mean .f64 x) := by
  have hm : (Op.negFloat .f64 x) % 2 ^ 63 = x % 2 ^ 63 := by
    show (x ^^^ 2 ^ 63) % 2 ^ 63 = x % 2 ^ 63
    apply Nat.eq_of_testBit_eq
    intro i
    rw [Nat.testBit_mod_two_pow, Nat.testBit_mod_two_pow, Nat.testBit_xor, Nat.testBit_two_pow]
    by_cases h1 : i < 63
    · have : decide (63 = i) = false := decide_eq_false (by omega)
      rw [this]; simp
    · rw [decide_eq_false h1]; simp
  have hn : (FloatKind.f64.decode (Op.negFloat .f64 x)).isNaN = (FloatKind.f64.decode x).isNaN := by
    rw [nan64, nan64]
    have e : (9223372036854775808 : Nat) = 2 ^ 63 := by decide
    rw [e, hm]
  unfold mean negM
  rw [hn]
  split <;> rfl
theorem wf_neg {x : Nat} (h : (Lit.float .f64 x).wf = true) : (Lit.float .f64 (Op.negFloat .f64 x)).wf = true := by
  have hx := lt_of_wf64 h
  refine wf_of_lt .f64 _ ?_
  show x ^^^ 2 ^ 63 < 2 ^ 64
  exact Nat.xor_lt_two_pow (by omega) (by decide)

theorem sine_end {f z u p : Nat} (hz : SinZ f z u) (hp : mean .f64 p = sinP (mean .f64 u) 8) {r : Nat} (hr : FRes .mul .f64 z p r) :
    mean .f64 r = fop .mul .f64 (fop .mul .f64 (foldM (mean .f64 f)) (some tau64)) (sinP (fop .mul .f64 (fop .mul .f64 (foldM (mean .f64 f)) (some tau64)) (fop .mul .f64 (foldM (mean .f64 f)) (some tau64))) 8) := by
  rw [hr.1, hp, hz.2.1, hz.1]
theorem sine_pos {f r : Nat} (hb : (FloatKind.f64.format.order f half64 == some .gt || FloatKind.f64.format.order f half64 == some .eq) = false)
    (hr : mean .f64 r = fop .mul .f64 (fop .mul .f64 (foldM (mean .f64 f)) (some tau64)) (sinP (fop .mul .f64 (fop .mul .f64 (foldM (mean .f64 f)) (some tau64)) (fop .mul .f64 (foldM (mean .f64 f)) (some tau64))) 8)) : mean .f64 r = sineM (mean .f64 f) := by
  have : geM (mean .f64 f) (some half64) = false := by rw [order_mean, fin_half.mean] at hb; exact hb
  unfold sineM
  rw [this, hr]; simp
theorem sine_neg {f r : Nat} (hb : (FloatKind.f64.format.order f half64 == some .gt || FloatKind.f64.format.order f half64 == some .eq) = true)
    (hr : mean .f64 r = fop .mul .f64 (fop .mul .f64 (foldM (mean .f64 f)) (some tau64)) (sinP (fop .mul .f64 (fop .mul .f64 (foldM (mean .f64 f)) (some tau64)) (fop .mul .f64 (foldM (mean .f64 f)) (some tau64))) 8)) : mean .f64 (Op.negFloat .f64 r) = sineM (mean .f64 f) := by
  have : geM (mean .f64 f) (some half64) = true := by rw [order_mean, fin_half.mean] at hb; exact hb
  unfold sineM
  rw [mean_neg, this, hr]; simp
theorem fold_a {f f1 f2 : Nat} (hb : (FloatKind.f64.format.order f half64 == some .gt || FloatKind.f64.format.order f half64 == some .eq) = true) (h1 : FRes .sub .f64 f half64 f1) (hc : (FloatKind.f64.format.order f1 quarter64 == some .gt) = true) (h2 : FRes .sub .f64 half64 f1 f2) : mean .f64 f2 = foldM (mean .f64 f) := by
  have b : geM (mean .f64 f) (some half64) = true := by rw [order_mean, fin_half.mean] at hb; exact hb
  have c : gtM (fop .sub .f64 (mean .f64 f) (some half64)) (some quarter64) = true := by rw [order_mean, fin_quarter.mean, h1.1, fin_half.mean] at hc; exact hc
  unfold foldM
  rw [h2.1, b]; simp only [if_true]; rw [c, h1.1, fin_half.mean]; simp
theorem fold_b {f f1 : Nat} (hb : (FloatKind.f64.format.order f half64 == some .gt || FloatKind.f64.format.order f half64 == some .eq) = true) (h1 : FRes .sub .f64 f half64 f1) (hc : (FloatKind.f64.format.order f1 quarter64 == some .gt) = false) : mean .f64 f1 = foldM (mean .f64 f) := by
  have b : geM (mean .f64 f) (some half64) = true := by rw [order_mean, fin_half.mean] at hb; exact hb
  have c : gtM (fop .sub .f64 (mean .f64 f) (some half64)) (some quarter64) = false := by rw [order_mean, fin_quarter.mean, h1.1, fin_half.mean] at hc; exact hc
  unfold foldM
  rw [b]; simp only [if_true]; rw [c, h1.1, fin_half.mean]; simp
theorem fold_c {f f2 : Nat} (hb : (FloatKind.f64.format.order f half64 == some .gt || FloatKind.f64.format.order f half64 == some .eq) = false) (hc : (FloatKind.f64.format.order f quarter64 == some .gt) = true) (h2 : FRes .sub .f64 half64 f f2) : mean .f64 f2 = foldM (mean .f64 f) := by
  have b : geM (mean .f64 f) (some half64) = false := by rw [order_mean, fin_half.mean] at hb; exact hb
  have c : gtM (mean .f64 f) (some quarter64) = true := by rw [order_mean, fin_quarter.mean] at hc; exact hc
  unfold foldM
  rw [h2.1, b]; simp only [Bool.false_eq_true, if_false]; rw [c, fin_half.mean]; simp
theorem fold_d {f : Nat} (hb : (FloatKind.f64.format.order f half64 == some .gt || FloatKind.f64.format.order f half64 == some .eq) = false) (hc : (FloatKind.f64.format.order f quarter64 == some .gt) = false) : mean .f64 f = foldM (mean .f64 f) := by
  have b : geM (mean .f64 f) (some half64) = false := by rw [order_mean, fin_half.mean] at hb; exact hb
  have c : gtM (mean .f64 f) (some quarter64) = false := by rw [order_mean, fin_quarter.mean] at hc; exact hc
  unfold foldM
  rw [b]; simp only [Bool.false_eq_true, if_false]; rw [c]; simp
theorem SinZ.mk {f g z u : Nat} (hg : mean .f64 g = foldM (mean .f64 f)) (hz : FRes .mul .f64 g tau64 z) (hu : FRes .mul .f64 z z u) : SinZ f z u := by
  have : mean .f64 tau64 = some tau64 := mean_tau
  exact ⟨by rw [hz.1, hg, this], hu⟩
def bitsOf : Value → Nat
  | .float _ b => b
  | _ => 0
theorem kM_step {j k q : Nat} (hk : mean .f64 k = kM j) (hq : FRes .sub .f64 k 4607182418800017408 q) : mean .f64 q = kM (j + 1) := by
  rw [hq.1, hk, mean_one64]; rfl
theorem kM_lt : ∀ j, j < 8 → (kM (j + 1)).getD 0 < (kM j).getD 0 := by decide +kernel
theorem kM_less {j k q : Nat} (hj : j < 8) (hk : mean .f64 k = kM j) (hq : FRes .sub .f64 k 4607182418800017408 q) : q < k := by
  have h1 := kM_step hk hq
  have h2 := kM_lt j hj
  rw [← hk, ← h1] at h2
  have s1 := kM_some j (by omega)
  have s2 := kM_some (j + 1) (by omega)
  rw [← hk] at s1
  rw [← h1] at s2
  obtain ⟨x, hx⟩ := Option.isSome_iff_exists.1 s1
  obtain ⟨y, hy⟩ := Option.isSome_iff_exists.1 s2
  rw [hx, hy] at h2
  obtain ⟨rfl, -⟩ := mean_some hx
  obtain ⟨rfl, -⟩ := mean_some hy
  exact h2
/-- The head of the loop. -/
def SinHead (f : Nat) (w : World) (z u : Nat) (p k : Value) (wr : World) : Prop := ∃ j, j ≤ 8 ∧ (∃ kb, k = .float .f64 kb ∧ mean .f64 kb = kM j) ∧ SinR u j p ∧ SinZ f z u ∧ ∃ n, wr = w.drewN n
set_option maxHeartbeats 1600000 in
theorem isine_any (a : Nat) (h : mag Ieee.double a < two52) (w : World) :
    Calls Tryz.prog 69 #[.float .f64 a] w fun e w' => ∃ r, (mean .f64 r = sineM (partM a) ∧ (Lit.float .f64 r).wf = true) ∧ e = .returned (.float .f64 r) ∧ ∃ n, w' = w.drewN n := by
  have hH := Lib_hid' h
  clear h
  go_enter Tryz.func69, Tryz.ntmps69
  go_wp2_with fail
  refine (part_any _ hH.out _).mono ?_
  rintro e w' ⟨f, hf, rfl, n0, rfl⟩
  have hF := Lib_hid' hf
  clear hf
  cases hb : (FloatKind.f64.format.order f 4602678819172646912 == some .gt || FloatKind.f64.format.order f 4602678819172646912 == some .eq)
  · have hBt := Lib_hid' hb
    cases hc : (FloatKind.f64.format.order f 4598175219545276416 == some .gt)
    · go_wp2_with (first | (refine wpList_float rfl .mul _ _ _ _ rfl rfl .f64 f 4618760256179416344 rfl rfl ?_; intro z nz hz) | (refine wpList_float rfl .mul _ _ _ _ rfl rfl .f64 z z rfl rfl ?_; intro u nu hu))
      have hZ := Lib_hid' (SinZ.mk (fold_d hb hc) hz hu)
      clear hz hu
      go_loopw [7, 8] (fun p k wr => SinHead f w z u p k wr) (fun _ k _ => bitsOf k)
      case atStart => exact ⟨0, by omega, ⟨_, rfl, by decide +kernel⟩, ⟨_, rfl, mean_one64⟩, hZ.out, _, rfl⟩
      case round =>
        obtain ⟨j, hj, ⟨kb, rfl, hk⟩, ⟨p, rfl, hp⟩, -, n, rfl⟩ := hrel
        have hK := Lib_hid' hk
        have hP := Lib_hid' hp
        clear hk hp
        by_cases hlt : j < 8
        · have ht := ge_test hK.out mean_one64 (kM_test j hlt)
          go_wp2_with (first | (refine wpList_float rfl .mul _ _ _ _ rfl rfl .f64 u p rfl rfl ?_; intro a na ha) | (refine wpList_float rfl .mul _ _ _ _ rfl rfl .f64 4611686018427387904 kb rfl rfl ?_; intro b nb hb) | (refine wpList_float rfl .add _ _ _ _ rfl rfl .f64 _ 4607182418800017408 rfl rfl ?_; intro d nd hd) | (refine wpList_float rfl .mul _ _ _ _ rfl rfl .f64 _ d rfl rfl ?_; intro e ne he) | (refine wpList_float rfl .quo _ _ _ _ rfl rfl .f64 a e rfl rfl ?_; intro g ng hg) | (refine wpList_float rfl .sub _ _ _ _ rfl rfl .f64 4607182418800017408 g rfl rfl ?_; intro h nh hh) | (refine wpList_float rfl .sub _ _ _ _ rfl rfl .f64 kb 4607182418800017408 rfl rfl ?_; intro k2 nk2 hk2))
          go_roundw
          case rel => exact ⟨j + 1, by omega, ⟨_, rfl, kM_step hK.out hk2⟩, SinR.step hlt hK.out hP.out ha (by assumption) (by assumption) hd he hg hh, hZ.out, _, rfl⟩
          case measure => exact kM_less hlt hK.out hk2
        · have hj8 : j = 8 := by omega
          subst hj8
          have ht := ge_test hK.out mean_one64 kM_end
          go_wp2_with (first | (refine wpList_float rfl .mul _ _ _ _ rfl rfl .f64 z p rfl rfl ?_; intro r nr hr))
          go_ret
          exact ⟨_, ⟨by rw [← hF.out.1]; exact sine_pos hBt.out (sine_end hZ.out hP.out hr), hr.2⟩, rfl, _, rfl⟩
    · go_wp2_with (first | (refine wpList_float rfl .sub _ _ _ _ rfl rfl .f64 4602678819172646912 f rfl rfl ?_; intro g ng hg) | (refine wpList_float rfl .mul _ _ _ _ rfl rfl .f64 g 4618760256179416344 rfl rfl ?_; intro z nz hz) | (refine wpList_float rfl .mul _ _ _ _ rfl rfl .f64 z z rfl rfl ?_; intro u nu hu))
      have hZ := Lib_hid' (SinZ.mk (fold_c hb hc hg) hz hu)
      clear hz hu hg
      go_loopw [7, 8] (fun p k wr => SinHead f w z u p k wr) (fun _ k _ => bitsOf k)
      case atStart => exact ⟨0, by omega, ⟨_, rfl, by decide +kernel⟩, ⟨_, rfl, mean_one64⟩, hZ.out, _, rfl⟩
      case round =>
        obtain ⟨j, hj, ⟨kb, rfl, hk⟩, ⟨p, rfl, hp⟩, -, n, rfl⟩ := hrel
        have hK := Lib_hid' hk
        have hP := Lib_hid' hp
        clear hk hp
        by_cases hlt : j < 8
        · have ht := ge_test hK.out mean_one64 (kM_test j hlt)
          go_wp2_with (first | (refine wpList_float rfl .mul _ _ _ _ rfl rfl .f64 u p rfl rfl ?_; intro a na ha) | (refine wpList_float rfl .mul _ _ _ _ rfl rfl .f64 4611686018427387904 kb rfl rfl ?_; intro b nb hb) | (refine wpList_float rfl .add _ _ _ _ rfl rfl .f64 _ 4607182418800017408 rfl rfl ?_; intro d nd hd) | (refine wpList_float rfl .mul _ _ _ _ rfl rfl .f64 _ d rfl rfl ?_; intro e ne he) | (refine wpList_float rfl .quo _ _ _ _ rfl rfl .f64 a e rfl rfl ?_; intro g ng hg) | (refine wpList_float rfl .sub _ _ _ _ rfl rfl .f64 4607182418800017408 g rfl rfl ?_; intro h nh hh) | (refine wpList_float rfl .sub _ _ _ _ rfl rfl .f64 kb 4607182418800017408 rfl rfl ?_; intro k2 nk2 hk2))
          go_roundw
          case rel => exact ⟨j + 1, by omega, ⟨_, rfl, kM_step hK.out hk2⟩, SinR.step hlt hK.out hP.out ha (by assumption) (by assumption) hd he hg hh, hZ.out, _, rfl⟩
          case measure => exact kM_less hlt hK.out hk2
        · have hj8 : j = 8 := by omega
          subst hj8
          have ht := ge_test hK.out mean_one64 kM_end
          go_wp2_with (first | (refine wpList_float rfl .mul _ _ _ _ rfl rfl .f64 z p rfl rfl ?_; intro r nr hr))
          go_ret
          exact ⟨_, ⟨by rw [← hF.out.1]; exact sine_pos hBt.out (sine_end hZ.out hP.out hr), hr.2⟩, rfl, _, rfl⟩
  · have hBt := Lib_hid' hb
    go_wp2_with (first | (refine wpList_float rfl .sub _ _ _ _ rfl rfl .f64 f 4602678819172646912 rfl rfl ?_; intro f1 nf1 hf1) | (refine wpList_float rfl .sub _ _ _ _ rfl rfl .f64 4602678819172646912 f1 rfl rfl ?_; intro g ng hg) | (refine wpList_float rfl .mul _ _ _ _ rfl rfl .f64 g 4618760256179416344 rfl rfl ?_; intro z nz hz) | (refine wpList_float rfl .mul _ _ _ _ rfl rfl .f64 f1 4618760256179416344 rfl rfl ?_; intro z nz hz) | (refine wpList_float rfl .mul _ _ _ _ rfl rfl .f64 z z rfl rfl ?_; intro u nu hu))
    · have hZ := Lib_hid' (SinZ.mk (fold_a hb hf1 (by assumption) hg) hz hu)
      clear hz hu hg hf1
      go_loopw [7, 8] (fun p k wr => SinHead f w z u p k wr) (fun _ k _ => bitsOf k)
      case atStart => exact ⟨0, by omega, ⟨_, rfl, by decide +kernel⟩, ⟨_, rfl, mean_one64⟩, hZ.out, _, rfl⟩
      case round =>
        obtain ⟨j, hj, ⟨kb, rfl, hk⟩, ⟨p, rfl, hp⟩, -, n, rfl⟩ := hrel
        have hK := Lib_hid' hk
        have hP := Lib_hid' hp
        clear hk hp
        by_cases hlt : j < 8
        · have ht := ge_test hK.out mean_one64 (kM_test j hlt)
          go_wp2_with (first | (refine wpList_float rfl .mul _ _ _ _ rfl rfl .f64 u p rfl rfl ?_; intro a na ha) | (refine wpList_float rfl .mul _ _ _ _ rfl rfl .f64 4611686018427387904 kb rfl rfl ?_; intro b nb hb) | (refine wpList_float rfl .add _ _ _ _ rfl rfl .f64 _ 4607182418800017408 rfl rfl ?_; intro d nd hd) | (refine wpList_float rfl .mul _ _ _ _ rfl rfl .f64 _ d rfl rfl ?_; intro e ne he) | (refine wpList_float rfl .quo _ _ _ _ rfl rfl .f64 a e rfl rfl ?_; intro g ng hg) | (refine wpList_float rfl .sub _ _ _ _ rfl rfl .f64 4607182418800017408 g rfl rfl ?_; intro h nh hh) | (refine wpList_float rfl .sub _ _ _ _ rfl rfl .f64 kb 4607182418800017408 rfl rfl ?_; intro k2 nk2 hk2))
          go_roundw
          case rel => exact ⟨j + 1, by omega, ⟨_, rfl, kM_step hK.out hk2⟩, SinR.step hlt hK.out hP.out ha (by assumption) (by assumption) hd he hg hh, hZ.out, _, rfl⟩
          case measure => exact kM_less hlt hK.out hk2
        · have hj8 : j = 8 := by omega
          subst hj8
          have ht := ge_test hK.out mean_one64 kM_end
          go_wp2_with (first | (refine wpList_float rfl .mul _ _ _ _ rfl rfl .f64 z p rfl rfl ?_; intro r nr hr))
          go_ret
          exact ⟨_, ⟨by rw [← hF.out.1]; exact sine_neg hBt.out (sine_end hZ.out hP.out hr), wf_neg hr.2⟩, rfl, _, rfl⟩
    · have hZ := Lib_hid' (SinZ.mk (fold_b hb hf1 (by assumption)) hz hu)
      clear hz hu hf1
      go_loopw [7, 8] (fun p k wr => SinHead f w z u p k wr) (fun _ k _ => bitsOf k)
      case atStart => exact ⟨0, by omega, ⟨_, rfl, by decide +kernel⟩, ⟨_, rfl, mean_one64⟩, hZ.out, _, rfl⟩
      case round =>
        obtain ⟨j, hj, ⟨kb, rfl, hk⟩, ⟨p, rfl, hp⟩, -, n, rfl⟩ := hrel
        have hK := Lib_hid' hk
        have hP := Lib_hid' hp
        clear hk hp
        by_cases hlt : j < 8
        · have ht := ge_test hK.out mean_one64 (kM_test j hlt)
          go_wp2_with (first | (refine wpList_float rfl .mul _ _ _ _ rfl rfl .f64 u p rfl rfl ?_; intro a na ha) | (refine wpList_float rfl .mul _ _ _ _ rfl rfl .f64 4611686018427387904 kb rfl rfl ?_; intro b nb hb) | (refine wpList_float rfl .add _ _ _ _ rfl rfl .f64 _ 4607182418800017408 rfl rfl ?_; intro d nd hd) | (refine wpList_float rfl .mul _ _ _ _ rfl rfl .f64 _ d rfl rfl ?_; intro e ne he) | (refine wpList_float rfl .quo _ _ _ _ rfl rfl .f64 a e rfl rfl ?_; intro g ng hg) | (refine wpList_float rfl .sub _ _ _ _ rfl rfl .f64 4607182418800017408 g rfl rfl ?_; intro h nh hh) | (refine wpList_float rfl .sub _ _ _ _ rfl rfl .f64 kb 4607182418800017408 rfl rfl ?_; intro k2 nk2 hk2))
          go_roundw
          case rel => exact ⟨j + 1, by omega, ⟨_, rfl, kM_step hK.out hk2⟩, SinR.step hlt hK.out hP.out ha (by assumption) (by assumption) hd he hg hh, hZ.out, _, rfl⟩
          case measure => exact kM_less hlt hK.out hk2
        · have hj8 : j = 8 := by omega
          subst hj8
          have ht := ge_test hK.out mean_one64 kM_end
          go_wp2_with (first | (refine wpList_float rfl .mul _ _ _ _ rfl rfl .f64 z p rfl rfl ?_; intro r nr hr))
          go_ret
          exact ⟨_, ⟨by rw [← hF.out.1]; exact sine_neg hBt.out (sine_end hZ.out hP.out hr), wf_neg hr.2⟩, rfl, _, rfl⟩

/-! ### The sine of the reference -/
def sinWM (a : Nat) : Option Nat := if mag Ieee.double a < Ieee.double.infRung then (if mag Ieee.double a < two52 then sineM (partM a) else some 0) else none
theorem sinWM_small {a : Nat} (h : mag Ieee.double a < two52) : sinWM a = sineM (partM a) := by
  unfold sinWM; rw [if_pos (Nat.lt_trans h (by decide)), if_pos h]
theorem sinWM_huge {a : Nat} (h1 : Fin64 a) (h : ¬ mag Ieee.double a < two52) : sinWM a = some 0 := by
  unfold sinWM; unfold Fin64 at h1; rw [if_pos h1, if_neg h]
theorem sinWM_nan {a : Nat} (h1 : ¬ Fin64 a) : sinWM a = none := by
  unfold sinWM; exact if_neg h1
theorem mean_nan64 : mean .f64 9221120237041090561 = none ∧ (Lit.float .f64 9221120237041090561).wf = true := by decide +kernel
theorem sub_self {a r : Nat} (h : FRes .sub .f64 a a r) : (FloatKind.f64.format.order r 0 != some .eq) = !decide (mag Ieee.double a < Ieee.double.infRung) := by
  rw [bne, fin_sub h]; rfl
theorem sub_fin {a r : Nat} (hf : Fin64 a) (h : FRes .sub .f64 a a r) : (FloatKind.f64.format.order r 0 != some .eq) = false := by
  have hf' : mag Ieee.double a < Ieee.double.infRung := hf
  rw [sub_self h, decide_eq_true hf']; rfl
theorem sub_nfin {a r : Nat} (hf : ¬ Fin64 a) (h : FRes .sub .f64 a a r) : (FloatKind.f64.format.order r 0 != some .eq) = true := by
  have hf' : ¬ mag Ieee.double a < Ieee.double.infRung := hf
  rw [sub_self h, decide_eq_false hf']; rfl

theorem V_two52_lt {a : Nat} : mag Ieee.double a < two52 ↔ V Ieee.double (mag Ieee.double a) < V Ieee.double two52 := V_lt_iff.symm
theorem val_two52 : val Ieee.double 4841369599423283200 = (V Ieee.double two52 : Int) := by decide +kernel
theorem val_ntwo52 : val Ieee.double 14064741636278059008 = -(V Ieee.double two52 : Int) := by decide +kernel
theorem huge_up {a : Nat} (ha : Fin64 a) : (FloatKind.f64.format.order a 4841369599423283200 == some .gt || FloatKind.f64.format.order a 4841369599423283200 == some .eq) = decide ((V Ieee.double two52 : Int) ≤ val Ieee.double a) := by
  have := geM_fin ha (b := 4841369599423283200) (by unfold Fin64; decide)
  rw [val_two52] at this; exact this
theorem huge_down {a : Nat} (ha : Fin64 a) : (FloatKind.f64.format.order a 14064741636278059008 == some .lt || FloatKind.f64.format.order a 14064741636278059008 == some .eq) = decide (val Ieee.double a ≤ -(V Ieee.double two52 : Int)) := by
  have hb : Fin64 14064741636278059008 := by unfold Fin64; decide
  rw [order_fin ha hb, val_ntwo52]
  generalize -(V Ieee.double two52 : Int) = y
  generalize val Ieee.double a = x
  by_cases h1 : x < y
  · rw [cmp_lt h1, decide_eq_true (by omega)]; rfl
  · by_cases h2 : y < x
    · rw [cmp_gt h2, decide_eq_false (by omega)]; rfl
    · have : x = y := by omega
      rw [this, decide_eq_true (by omega), Int.compare_eq_eq.2 rfl]; rfl
theorem val_cases (a : Nat) : (val Ieee.double a = (V Ieee.double (mag Ieee.double a) : Int)) ∨ (val Ieee.double a = -(V Ieee.double (mag Ieee.double a) : Int)) := by
  unfold val
  cases sgn Ieee.double a
  · exact .inl (by simp [sV])
  · exact .inr (by simp [sV])
theorem toInt_whole {a : Nat} (h : mag Ieee.double a < two52) : floatToIntVal .f64 a .i64 = some (wholeZ a) := by
  have ha : Fin64 a := Nat.lt_trans h (by decide)
  obtain ⟨-, -, hc⟩ := whole_val h
  unfold floatToIntVal
  rw [toInt_fin ha]
  have hz : -4503599627370496 < wholeZ a ∧ wholeZ a < 4503599627370496 := by
    unfold wholeZ
    have : wholeC a < 4503599627370496 := hc
    cases sgn Ieee.double a <;> simp [sV] <;> omega
  have e1 : IntKind.i64.min = -9223372036854775808 := rfl
  have e2 : IntKind.i64.max = 9223372036854775807 := rfl
  simp only [e1, e2]
  rw [if_pos (by omega)]
theorem mnan_any (w : World) :
    Calls Tryz.prog 66 #[] w fun e w' => e = .returned (.float .f64 9221120237041090561) ∧ w = w' := by
  go_enter Tryz.func66, Tryz.ntmps66
  go_wp2
  go_ret
  exact ⟨rfl, rfl⟩
end Go.Proofs.YtogliigpoojfoaaGreatDoor
