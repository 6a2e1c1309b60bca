/-
  Tenths of decibels: the whole part below a number, both functions, and the law.
-/
import Derived.Test.YtlcekfahjakfgaaLk
import Derived.Test.YtlcekfahjakfgaaAf
namespace Go.Proofs.Ytlcekfahjakfgaa
open Go.RowKit Fl

theorem grown_draws {w w' : World} (h : Grown w w') : ∀ n, Grown w (w'.drewN n) := by
  intro n
  induction n generalizing w' with
  | zero => exact h
  | succ n ih => exact ih (w' := w'.drew) h.drew
theorem grown_after {a c : World} (n : Nat) (h : Grown (a.drewN n) c) : Grown a c := by
  induction n generalizing a with
  | zero => exact h
  | succ n ih => exact ih (a := a.drew) h

/-! ### The whole number below a number -/
def floorN (a : Nat) : Nat := FloatKind.f64.encode ((FloatKind.f64.decode a).integral .down)
theorem cut_down_le (neg : Bool) (n drop : Nat) : Ieee.Toward.down.cut neg n drop ≤ n / 2 ^ (min drop (n.log2 + 2)) + 1 := by
  unfold Ieee.Toward.cut
  simp only [Nat.shiftLeft_eq, Nat.one_mul]
  have h : ∀ b : Bool, b.toNat ≤ 1 := by intro b; cases b <;> decide
  exact Nat.add_le_add_left (h _) _
theorem floor_bd {a : Nat} (h : Bd .f64 24 a) : Bd .f64 26 (floorN a) := by
  obtain ⟨s, m, p, e, l, -, -, -, -⟩ := h.read64 (by omega) (by omega)
  have e' : FloatKind.f64.decode a = .number s m p := e
  unfold floorN
  rw [e']
  refine Bd.of_nearest ?_ (by decide) (by decide)
  intro _
  have key : Ieee.Toward.down.cut s (m <<< p.toNat) (-p).toNat < 2 ^ 26 := by
    refine Nat.lt_of_le_of_lt (cut_down_le _ _ _) ?_
    have hq : m <<< p.toNat / 2 ^ (min (-p).toNat ((m <<< p.toNat).log2 + 2)) < 2 ^ 25 := by
      by_cases h0 : m = 0
      · subst h0; rw [Nat.zero_shiftLeft, Nat.zero_div]; decide
      · have l := l h0
        have hm : m < 2 ^ (m.log2 + 1) := Nat.lt_log2_self
        by_cases hp : 0 ≤ p
        · refine Nat.lt_of_le_of_lt (Nat.div_le_self _ _) ?_
          rw [Nat.shiftLeft_eq]
          refine Nat.lt_of_lt_of_le (Nat.mul_lt_mul_of_pos_right hm (Nat.two_pow_pos _)) ?_
          rw [← Nat.pow_add]
          exact Nat.pow_le_pow_right (by decide) (by omega)
        · have e0 : p.toNat = 0 := by omega
          rw [e0, Nat.shiftLeft_zero, Nat.div_lt_iff_lt_mul (Nat.two_pow_pos _), ← Nat.pow_add]
          exact Nat.lt_of_lt_of_le hm (Nat.pow_le_pow_right (by decide) (by omega))
    have e25 : (2 : Nat) ^ 26 = 2 * 2 ^ 25 := by decide
    have e1 : 1 < 2 ^ 25 := by decide
    omega
  have := log2_le_of (e := 25) key
  omega
theorem bd_fin {e : Int} {a : Nat} (h : Bd .f64 e a) (h1 : e ≤ 1000) : Fin64 a := Nat.lt_of_le_of_lt h (top_double_lt h1)
theorem toInt_bd {a : Nat} (h : Bd .f64 26 a) : floatToIntVal .f64 a .i64 = some (wholeZ a) := by
  refine toInt_whole (Nat.lt_of_le_of_lt h (by decide))
theorem floor_run (a : Nat) (h : Fin64 a) (w : World) : (Extern.MathFloor.toIntegral "math.archFloor" .down #[.float .f64 a]).run Try.prog w = .ok (.float .f64 (floorN a)) w := by
  obtain ⟨m, p, e, -, -, -⟩ := read_fin Ieee.double h
  have e' : FloatKind.f64.decode a = .number (sgn Ieee.double a) m p := e
  show Sem.run Try.prog (match FloatKind.f64.decode a with
    | .nan s t => if FloatKind.f64.format.quiet t = t then (Pure.pure (Value.float .f64 a) : Sem Value) else (choose (.extern "math.Floor,Ceil,Trunc,RoundToEven.signallingNaN kept" 2)).bind fun kept => Pure.pure (Value.float .f64 (if kept == 1 then a else FloatKind.f64.encode (.nan s (FloatKind.f64.format.quiet t))))
    | d => Pure.pure (Value.float .f64 (FloatKind.f64.encode (d.integral .down)))) w = _
  unfold floorN
  rw [e']; rfl
theorem cf_floor (a : Nat) (h : Fin64 a) (w : World) : (callFunc 68 #[.float .f64 a]).run Try.prog w = .ok (.value (.float .f64 (floorN a))) w := by
  have e := run_callFunc_extern (fn := Try.f68) (e := Extern.MathFloor.toIntegral "math.archFloor" .down) Try.func68 (by kernel_rfl) (by kernel_rfl) (by kernel_rfl) (by kernel_rfl) #[.float .f64 a] w
  rw [e, floor_run a h]; rfl
theorem mfloor_any (a : Nat) (h : Fin64 a) (w : World) :
    Calls Try.prog 51 #[.float .f64 a] w fun e w' => e = .returned (.float .f64 (floorN a)) ∧ w = w' := by
  have hc := cf_floor a h w
  clear h
  go_enter Try.func51, Try.ntmps51
  go_wp2
  go_ret
  exact ⟨rfl, rfl⟩

/-! ### The tenths -/
def decC : Nat := 4631308968768463603
def tenT (a : Nat) : Option Nat := fop .add .f64 (fop .mul .f64 (lgOf a) (some decC)) (some half64)
def tenI (t : Option Nat) : Int := t.elim 0 fun b => (floatToIntVal .f64 (floorN b) .i64).getD 0
theorem mean_dec : mean .f64 4631308968768463603 = some decC := by decide +kernel
theorem posB_pos {a : Nat} (h : posB a = true) : finB .f32 a = true ∧ sgn Ieee.single a = false ∧ mag Ieee.single a ≠ 0 := by
  unfold posB at h
  rw [Bool.and_eq_true] at h
  obtain ⟨hf, ho⟩ := h
  have hle : mag Ieee.single a ≤ Ieee.single.infRung := Nat.le_of_lt (of_decide_eq_true hf)
  refine ⟨hf, ?_⟩
  by_cases h0 : mag Ieee.single a = 0
  · rw [ord0_eq (k := .f32) h0] at ho; cases ho
  · cases hs : sgn Ieee.single a
    · exact ⟨rfl, h0⟩
    · rw [ord0_lt (k := .f32) hle hs h0] at ho; cases ho
theorem posB_lg {a : Nat} (h : posB a = true) : LgIn (wideN a) ∧ lgOf a = logN (wideN a) := by
  obtain ⟨hf, hs, h0⟩ := posB_pos h
  exact ⟨wide_lgin hf hs h0, lgOf_pos h0 hs hf⟩
theorem tenT_bd {a : Nat} (h : posB a = true) : MB 24 (tenT a) := by
  obtain ⟨hg, he⟩ := posB_lg h
  unfold tenT
  rw [he]
  have h1 := (logN_bd hg).mulk (mb_const (e := 6) (c := decC) (by decide)) (by omega) (by omega) (by omega) (by omega)
  exact (h1.addk (mb_const (e := 0) (c := half64) (by decide)) (by omega) (by omega) (by omega) (by omega)).mono (by omega)
theorem ten_mk {a y p q : Nat} (h : posB a = true) (hy : mean .f64 y = lgOf a) (hp : FRes .mul .f64 y 4631308968768463603 p) (hq : FRes .add .f64 p 4602678819172646912 q) : Bd .f64 24 q ∧ floatToIntVal .f64 (floorN q) .i64 = some (tenI (tenT a)) := by
  have e : mean .f64 q = tenT a := by
    rw [hq.1, hp.1, hy, mean_dec, mean_half]; rfl
  obtain ⟨b, hb, hB⟩ := tenT_bd h
  rw [hb] at e
  obtain ⟨rfl, -⟩ := mean_some e
  refine ⟨hB, ?_⟩
  have := toInt_bd (floor_bd hB)
  rw [hb]
  show _ = some ((floatToIntVal .f64 (floorN q) .i64).getD 0)
  rw [this]; rfl
/-- The tenths of decibels of a power. -/
def tenOf (a : Nat) : Int := if posB a then tenI (tenT a) else 0
theorem tenOf_yes {a : Nat} (h : posB a = true) : tenOf a = tenI (tenT a) := if_pos h
theorem tenOf_no {a : Nat} (h : posB a = false) : tenOf a = 0 := by unfold tenOf; rw [h]; rfl
theorem ret_ten {a b : Int} {c d : Bool} (h : a = b) (h' : c = d) : Ending.returned (.tuple #[.int .i64 a, .bool c]) = .returned (.tuple #[.int .i64 b, .bool d]) := by rw [h, h']

theorem lten_any (a : Nat) (ha : (Lit.float .f32 a).wf = true) (h : posB a = true) (w : World) :
    Calls Try.prog 49 #[.float .f32 a] w fun e w' => e = .returned (.int .i64 (tenI (tenT a))) ∧ ∃ n, w' = w.drewN n := by
  have hP := Lib_hid' h
  clear h
  go_enter Try.func49, Try.ntmps49
  go_wp2_with (first | (refine wpList_fconv rfl _ _ _ rfl .f32 .f64 _ rfl (by assumption) (by rw [Try.underlying22]; rfl) Try.underlying25 ?_; intro x n hx) | (go_at_call 61; refine (slogw_any a _ (by assumption) (by assumption) _).mono ?_; rintro e w' ⟨y, hy, rfl, m, rfl⟩; have hY := Lib_hid' hy; clear hy) | (refine wpList_float rfl .mul _ _ _ _ rfl rfl .f64 y 4631308968768463603 rfl rfl ?_; intro p np hp) | (refine wpList_float rfl .add _ _ _ _ rfl rfl .f64 p 4602678819172646912 rfl rfl ?_; intro q nq hq) | (go_at_call 51; refine (mfloor_any q (bd_fin (ten_mk hP.out hY.out.1 hp hq).1 (by omega)) _).mono ?_; rintro e w' ⟨rfl, rfl⟩; have hci := fun wx => run_convert_float_int (P := Try.prog) wx 25 2 .f64 .i64 (floorN q) (tenI (tenT a)) (by rw [Try.underlying25]; rfl) Try.underlying2 (ten_mk hP.out hY.out.1 hp hq).2))
  go_ret
  exact ⟨rfl, _, rfl⟩
theorem sten_any (a : Nat) (ha : (Lit.float .f32 a).wf = true) (w : World) :
    Calls Try.prog 22 #[.float .f32 a] w fun e w' => e = .returned (.tuple #[.int .i64 (tenOf a), .bool (posB a)]) ∧ ∃ n, w' = w.drewN n := by
  cases hf : finB .f32 a
  · have hp : posB a = false := by unfold posB; rw [hf]; rfl
    have hT := Lib_hid' (tenOf_no hp)
    have hP := Lib_hid' hp
    clear hp
    go_enter Try.func22, Try.ntmps22
    go_wp2_with (go_at_call 48; refine (fin_any _ _).mono ?_; rw [hf]; rintro e w' ⟨rfl, n, rfl⟩)
    go_ret2
    exact ⟨ret_ten hT.out.symm hP.out.symm, _, rfl⟩
  · cases ho : (FloatKind.f32.format.order a 0 == some .lt || FloatKind.f32.format.order a 0 == some .eq)
    · have hp : posB a = true := by unfold posB; rw [hf, ho]; rfl
      have hT := Lib_hid' (tenOf_yes hp)
      have hP := Lib_hid' hp
      clear hp
      go_enter Try.func22, Try.ntmps22
      go_wp2_with (first | (go_at_call 48; refine (fin_any _ _).mono ?_; rw [hf]; rintro e w' ⟨rfl, n, rfl⟩) | (go_at_call 49; refine (lten_any _ ha hP.out _).mono ?_; rintro e w' ⟨rfl, m, rfl⟩))
      go_ret2
      exact ⟨ret_ten hT.out.symm hP.out.symm, _, rfl⟩
    · have hp : posB a = false := by unfold posB; rw [hf, ho]; rfl
      have hT := Lib_hid' (tenOf_no hp)
      have hP := Lib_hid' hp
      clear hp
      go_enter Try.func22, Try.ntmps22
      go_wp2_with (first | (go_at_call 48; refine (fin_any _ _).mono ?_; rw [hf]; rintro e w' ⟨rfl, n, rfl⟩))
      go_ret2
      exact ⟨ret_ten hT.out.symm hP.out.symm, _, rfl⟩
theorem build1 (x : Nat) (w : World) : (Instr.buildSlice 55 1 #[(0, .float .f32 x)]).run Try.prog w = .ok (.slice (some ⟨w.heap.size, 0, none⟩) 1 1) (w.alloc (.cells #[.float .f32 x] 22)) := by
  have hs : (Try.prog.info? 22).map (·.size) = some 1 := by kernel_rfl
  have hz : ((Try.prog.info? 22).bind (·.zero)).isSome = true := by kernel_rfl
  cases hie : Try.prog.info? 22 with
  | none => rw [hie] at hs; cases hs
  | some ie =>
    simp only [hie, Option.map_some, Option.some.injEq, Option.bind_some] at hs hz
    obtain ⟨z, hzz⟩ := Option.isSome_iff_exists.1 hz
    refine run_buildSlice w _ _ 1 _ _ ie z Try.underlying55 hie hzz (by rw [hs]; omega) (by rw [hs]; omega) ?_
    rw [hs]
    exact Great.fill_flat [Value.float .f32 x] _ (fun v hv => by simp at hv; rcases hv with rfl | rfl <;> rfl) (by simp)
theorem row1 (x : Nat) (w : World) : FRow (w.alloc (.cells #[.float .f32 x] 22)) (some ⟨w.heap.size, 0, none⟩) [x] := by
  intro i hi
  have hs := MapKept.heap_alloc w (.cells #[.float .f32 x] 22)
  refine ⟨w.heap.size, 0, rfl, by show _ < (w.heap.push _).size; simp, ?_⟩
  have : i = 0 := by simp at hi; omega
  subst this
  unfold World.cell?; rw [hs.1]; rfl
theorem any_one (x : Nat) : ([x].any fun x => !posB x) = !posB x := by simp
theorem iten_any (a : Nat) (ha : (Lit.float .f32 a).wf = true) (w : World) :
    Calls Try.prog 23 #[.float .f32 a] w fun e w' => e = .returned (.tuple #[.int .i64 (tenOf a), .bool (posB a)]) ∧ Laid w w' := by
  have hB := build1 a
  have hA := Lib_hid' (any_one a)
  have hW := wide_wf a
  cases hp : posB a
  · have hT := Lib_hid' (tenOf_no hp)
    have hP := Lib_hid' hp
    clear hp
    go_enter Try.func23, Try.ntmps23
    go_wp2_with (go_at_call 50; refine (ap_any (some ⟨w.heap.size, 0, none⟩) 1 [a] (by simp) _ (row1 a w)).mono ?_; rw [hA.out, hP.out]; rintro e w' ⟨rfl, n, rfl⟩)
    go_ret2
    exact ⟨ret_ten hT.out.symm rfl, ⟨_, _, rfl⟩⟩
  · have hT := Lib_hid' (tenOf_yes hp)
    have hL := Lib_hid' (posB_lg hp)
    have hN := Lib_hid' (nan_of_fin (posB_pos hp).1)
    have hP := Lib_hid' hp
    clear hp
    go_enter Try.func23, Try.ntmps23
    go_wp2_with (first | (go_at_call 50; refine (ap_any (some ⟨w.heap.size, 0, none⟩) 1 [a] (by simp) _ (row1 a w)).mono ?_; rw [hA.out, hP.out]; rintro e w' ⟨rfl, n, rfl⟩) | (refine wpList_fconv rfl _ _ _ rfl .f32 .f64 _ rfl (by assumption) (by rw [Try.underlying22]; rfl) Try.underlying25 ?_; intro x n hx; obtain rfl := wide_eq hN.out hx) | (go_at_call 42; refine (ilog_any _ hL.out.1 _).mono ?_; rintro e w' ⟨y, hy, rfl, m, rfl⟩; have hY := Lib_hid' hy; clear hy) | (refine wpList_float rfl .mul _ _ _ _ rfl rfl .f64 y 4631308968768463603 rfl rfl ?_; intro p np hp) | (refine wpList_float rfl .add _ _ _ _ rfl rfl .f64 p 4602678819172646912 rfl rfl ?_; intro q nq hq) | (go_at_call 51; refine (mfloor_any q (bd_fin (ten_mk hP.out (hY.out.1.trans hL.out.2.symm) hp hq).1 (by omega)) _).mono ?_; rintro e w' ⟨rfl, rfl⟩; have hci := fun wx => run_convert_float_int (P := Try.prog) wx 25 2 .f64 .i64 (floorN q) (tenI (tenT a)) (by rw [Try.underlying25]; rfl) Try.underlying2 (ten_mk hP.out (hY.out.1.trans hL.out.2.symm) hp hq).2))
    go_ret2
    exact ⟨ret_ten hT.out.symm rfl, ⟨_, _, rfl⟩⟩
theorem law_TenthsOf (a : Nat) (ha : (Lit.float .f32 a).wf = true) (w : World) :
    Calls Try.prog 7 #[.float .f32 a] w fun e w' => e = .returned (.bool true) ∧ Grown w w' := by
  go_enter Try.func7, Try.ntmps7
  go_wp2_with (first | (go_at_call 22; refine (sten_any _ ha _).mono ?_; rintro e w' ⟨rfl, k, rfl⟩) | (go_at_call 23; refine (iten_any _ ha _).mono ?_; rintro e w1 ⟨rfl, hG⟩))
  all_goals (go_ret; exact ⟨rfl, grown_after _ hG.grown⟩)
end Go.Proofs.Ytlcekfahjakfgaa
