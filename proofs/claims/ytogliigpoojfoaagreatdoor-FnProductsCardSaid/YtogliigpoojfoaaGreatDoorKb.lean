/-
  Several texts of this claim in one.
  The sine of 32-bit numbers: both functions, and the law.
  Contracts: whether all numbers of a list are finite, or positive.
  Contracts of the laws' small helpers: long inputs, a number chosen by a byte, the gap of two numbers.
-/
import Derived.Test.YtogliigpoojfoaaGreatDoorSi
import Derived.Test.YtogliigpoojfoaaGreatDoorK6
import Derived.Great.BuildSlice
import Derived.Below
import Derived.Test.YtogliigpoojfoaaGreatDoorK1
section
namespace Go.Proofs.YtogliigpoojfoaaGreatDoor
set_option maxRecDepth 100000
open Go.RowKit Fl

def wideN (a : Nat) : Nat := FloatKind.f64.encode (FloatKind.f32.decode a)
theorem wide_eq {a x : Nat} (h : (FloatKind.f32.decode a).isNaN = false) (hx : FConv .f32 .f64 a x) : x = wideN a := by
  have h1 := hx.1 (fits_wide a)
  rw [mean_of h] at h1
  exact (mean_some (c := wideN a) h1).1
theorem wide_wf (a : Nat) : (Lit.float .f64 (wideN a)).wf = true := wf_of_lt .f64 _ (FloatKind.f64.format.write_lt _)
theorem nan_of_fin {a : Nat} (h : finB .f32 a = true) : (FloatKind.f32.decode a).isNaN = false := by
  rw [isNaN_iff]
  have := of_decide_eq_true h
  exact decide_eq_false (by omega)
theorem wide_conv {a : Nat} (h : (FloatKind.f32.decode a).isNaN = false) : FConv .f32 .f64 a (wideN a) := by
  refine ⟨fun _ => ?_, wide_wf a⟩
  rw [mean_of h]
  exact mean_of (encode_read .f64 _ h)
theorem wide_fin {a : Nat} (h : finB .f32 a = true) : Fin64 (wideN a) := by
  have hf : mag Ieee.single a < Ieee.single.infRung := of_decide_eq_true h
  have hb := wide_bd hf (wide_conv (nan_of_fin h))
  exact Nat.lt_of_le_of_lt hb (top_double_lt (by omega))
theorem wide_nfin {a x : Nat} (h : finB .f32 a = false) (hx : FConv .f32 .f64 a x) : ¬ Fin64 x := by
  have hf : ¬ mag Ieee.single a < Ieee.single.infRung := of_decide_eq_false h
  cases hn : (FloatKind.f32.decode a).isNaN
  · obtain ⟨q, rfl, hq, hi, -⟩ := widen hn hx
    have hle := le_inf hn
    have hle' : mag Ieee.single a ≤ Ieee.single.infRung := hle
    have := hi.2 (by omega)
    unfold Fin64
    rw [mag_word _ _ hq]; omega
  · intro hc
    have h1 := hx.1 (fits_wide a)
    rw [mean_nan hn] at h1
    rw [hc.mean] at h1; cases h1

def hugeB (x : Nat) : Bool := FloatKind.f64.format.order (absN x) 4841369599423283200 == some .gt || FloatKind.f64.format.order (absN x) 4841369599423283200 == some .eq
theorem hugeB_eq {x : Nat} (hw : (Lit.float .f64 x).wf = true) (h : Fin64 x) : hugeB x = !decide (mag Ieee.double x < two52) := by
  have ea : absN x = mag Ieee.double x := absN_eq hw
  have hm : mag Ieee.double (absN x) = mag Ieee.double x := by
    rw [ea]; exact Nat.mod_eq_of_lt (Nat.lt_trans h (by decide))
  have hs : sgn Ieee.double (absN x) = false := by
    rw [ea]
    show (mag Ieee.double x / 9223372036854775808 % 2 == 1) = false
    have : mag Ieee.double x < 9223372036854775808 := Nat.lt_trans h (by decide)
    rw [Nat.div_eq_of_lt this]; rfl
  have hf : Fin64 (absN x) := by unfold Fin64; rw [hm]; exact h
  have hv : val Ieee.double (absN x) = (V Ieee.double (mag Ieee.double x) : Int) := by
    unfold val; rw [hs, hm]; rfl
  unfold hugeB
  rw [huge_up hf, hv]
  by_cases c : mag Ieee.double x < two52
  · have := V_two52_lt.1 c
    rw [decide_eq_true c, decide_eq_false (by omega)]; rfl
  · have : ¬ V Ieee.double (mag Ieee.double x) < V Ieee.double two52 := fun h => c (V_two52_lt.2 h)
    rw [decide_eq_false c, decide_eq_true (by omega)]; rfl
theorem huge_any (x : Nat) (w : World) :
    Calls Tryz.prog 68 #[.float .f64 x] w fun e w' => e = .returned (.bool (hugeB x)) ∧ w' = w := by
  go_enter Tryz.func68, Tryz.ntmps68
  go_wp2_with (go_at_call 65; refine (abs_any _ _).mono ?_; rintro e w' ⟨rfl, rfl⟩)
  go_ret
  exact ⟨rfl, rfl⟩

/-- The sine of what a 32-bit number is, in 64 bits. -/
def sinOf (a : Nat) : Option Nat := if finB .f32 a then sinWM (wideN a) else none
theorem sinWM_conv {a x : Nat} (hx : FConv .f32 .f64 a x) : sinWM x = sinOf a := by
  unfold sinOf
  cases h : finB .f32 a
  · rw [sinWM_nan (wide_nfin h hx)]; simp
  · rw [wide_eq (nan_of_fin h) hx]; simp
theorem sinWM_fits {x y : Nat} (h : mean .f64 y = sinWM x) : fits .f64 .f32 y = true := by
  unfold sinWM at h
  split at h
  · split at h
    · rename_i hs
      exact MB.fits (by rw [h]; exact (sineM_part hs).mono (by omega))
    · obtain ⟨rfl, -⟩ := mean_some h
      decide
  · rcases mean_cases .f64 y with ⟨g1, g2⟩ | ⟨g1, g2⟩
    · exact fits_nan g1
    · rw [g2] at h; cases h
/-- What the sine of a 32-bit number is. -/
def SinIs (a g : Nat) : Prop := mean .f32 g = fconv .f64 .f32 (sinOf a) ∧ (Lit.float .f32 g).wf = true
theorem SinIs.mk {a x y g : Nat} (hx : FConv .f32 .f64 a x) (hy : mean .f64 y = sinWM x) (hg : FConv .f64 .f32 y g) : SinIs a g :=
  ⟨by rw [hg.1 (sinWM_fits hy), hy, sinWM_conv hx], hg.2⟩
theorem SinIs.nan {a g : Nat} (h : finB .f32 a = false) (hg : FConv .f64 .f32 9221120237041090561 g) : SinIs a g := by
  refine ⟨?_, hg.2⟩
  rw [hg.1 (by decide +kernel), mean_nan64.1]
  unfold sinOf
  rw [h]; simp
theorem SinIs.huge {a : Nat} (h : finB .f32 a = true) (hh : hugeB (wideN a) = true) : SinIs a 0 := by
  refine ⟨?_, wf_of_lt .f32 _ (by decide)⟩
  have hs : ¬ mag Ieee.double (wideN a) < two52 := by
    rw [hugeB_eq (wide_wf a) (wide_fin h)] at hh
    simpa using hh
  unfold sinOf
  rw [h, sinWM_huge (wide_fin h) hs]
  decide +kernel
theorem small_of {a : Nat} (h : finB .f32 a = true) (hh : hugeB (wideN a) = false) : mag Ieee.double (wideN a) < two52 := by
  rw [hugeB_eq (wide_wf a) (wide_fin h)] at hh
  simpa using hh
theorem SinIs.small {a y g : Nat} (h : finB .f32 a = true) (hh : mag Ieee.double (wideN a) < two52) (hy : mean .f64 y = sineM (partM (wideN a))) (hg : FConv .f64 .f32 y g) : SinIs a g :=
  SinIs.mk (wide_conv (nan_of_fin h)) (by rw [hy, sinWM_small hh]) hg
theorem isineT_any (a : Nat) (ha : (Lit.float .f32 a).wf = true) (w : World) :
    Calls Tryz.prog 37 #[.float .f32 a] w fun e w' => ∃ g, SinIs a g ∧ e = .returned (.float .f32 g) ∧ ∃ n, w' = w.drewN n := by
  cases hf : finB .f32 a
  · have hF := Lib_hid' hf
    go_enter Tryz.func37, Tryz.ntmps37
    go_wp2_with (first | (go_at_call 67; refine (ifin_any _ _).mono ?_; rintro e w' ⟨rfl, n, rfl⟩) | (go_at_call 66; refine (mnan_any _).mono ?_; rintro e w' ⟨rfl, rfl⟩) | (refine wpList_fconv rfl _ _ _ rfl .f64 .f32 _ rfl (by exact mean_nan64.2) (by rw [Tryz.underlying46]; rfl) Tryz.underlying28 ?_; intro g n hg))
    go_ret
    exact ⟨g, SinIs.nan hF.out hg, rfl, _, rfl⟩
  · have hF := Lib_hid' hf
    have hW := wide_wf a
    cases hh : hugeB (wideN a)
    · have hS := Lib_hid' (small_of hf hh)
      go_enter Tryz.func37, Tryz.ntmps37
      go_wp2_with (first | (go_at_call 67; refine (ifin_any _ _).mono ?_; rintro e w' ⟨rfl, n, rfl⟩) | (refine wpList_fconv rfl _ _ _ rfl .f32 .f64 _ rfl (by assumption) (by rw [Tryz.underlying28]; rfl) Tryz.underlying46 ?_; intro x n hx; obtain rfl := wide_eq (nan_of_fin hF.out) hx) | (go_at_call 68; refine (huge_any _ _).mono ?_; rintro e w' ⟨rfl, rfl⟩) | (go_at_call 69; refine (isine_any _ hS.out _).mono ?_; rintro e w' ⟨y, hy, rfl, m, rfl⟩; have hY := Lib_hid' hy; clear hy) | (refine wpList_fconv rfl _ _ _ rfl .f64 .f32 _ rfl (by exact hY.out.2) (by rw [Tryz.underlying46]; rfl) Tryz.underlying28 ?_; intro g n hg))
      go_ret
      exact ⟨g, SinIs.small hF.out hS.out hY.out.1 hg, rfl, _, rfl⟩
    · have hH := Lib_hid' hh
      go_enter Tryz.func37, Tryz.ntmps37
      go_wp2_with (first | (go_at_call 67; refine (ifin_any _ _).mono ?_; rintro e w' ⟨rfl, n, rfl⟩) | (refine wpList_fconv rfl _ _ _ rfl .f32 .f64 _ rfl (by assumption) (by rw [Tryz.underlying28]; rfl) Tryz.underlying46 ?_; intro x n hx; obtain rfl := wide_eq (nan_of_fin hF.out) hx) | (go_at_call 68; refine (huge_any _ _).mono ?_; rintro e w' ⟨rfl, rfl⟩))
      go_ret
      exact ⟨0, SinIs.huge hF.out hH.out, rfl, _, rfl⟩
end Go.Proofs.YtogliigpoojfoaaGreatDoor
end

section
namespace Go.Proofs.YtogliigpoojfoaaGreatDoor
set_option maxRecDepth 100000
open Go.RowKit Fl

/-- One new block of numbers, and draws. -/
def Laid (w w' : World) : Prop := ∃ (cs : Array Value) (n : Nat), w' = (w.alloc (.cells cs 28)).drewN n
theorem Laid.grown {w w' : World} (h : Laid w w') : Grown w w' := by
  obtain ⟨cs, n, rfl⟩ := h
  have key : ∀ (n : Nat) (v : World), Grown w v → Grown w (v.drewN n) := by
    intro n
    induction n with
    | zero => intro v h; exact h
    | succ n ih => intro v h; exact ih v.drew h.drew
  exact key n _ (Grown.alloc (Grown.refl _) _ _)
theorem Laid.below {w w' : World} (h : Laid w w') : Below w.heap.size w w' := by
  obtain ⟨cs, n, rfl⟩ := h
  have hb := (Below.refl w.heap.size w).alloc (Nat.le_refl _) (.cells cs 28)
  exact ⟨hb.os, hb.tape, hb.output, hb.size, hb.block⟩
theorem build2 (x y : Nat) (w : World) : (Instr.buildSlice 52 2 #[(0, .float .f32 x), (1, .float .f32 y)]).run Tryz.prog w = .ok (.slice (some ⟨w.heap.size, 0, none⟩) 2 2) (w.alloc (.cells #[.float .f32 x, .float .f32 y] 28)) := by
  have hs : (Tryz.prog.info? 28).map (·.size) = some 1 := by kernel_rfl
  have hz : ((Tryz.prog.info? 28).bind (·.zero)).isSome = true := by kernel_rfl
  cases hie : Tryz.prog.info? 28 with
  | none => rw [hie] at hs; cases hs
  | some ie =>
    simp only [hie, Option.map_some, Option.some.injEq, Option.bind_some] at hs hz
    obtain ⟨z, hzz⟩ := Option.isSome_iff_exists.1 hz
    refine run_buildSlice w _ _ 2 _ _ ie z Tryz.underlying52 hie hzz (by rw [hs]; omega) (by rw [hs]; omega) ?_
    rw [hs]
    exact Great.fill_flat [Value.float .f32 x, Value.float .f32 y] _ (fun v hv => by simp at hv; rcases hv with rfl | rfl <;> rfl) (by simp)
theorem row2 (x y : Nat) (w : World) : FRow (w.alloc (.cells #[.float .f32 x, .float .f32 y] 28)) (some ⟨w.heap.size, 0, none⟩) [x, y] := by
  intro i hi
  have hs := MapKept.heap_alloc w (.cells #[.float .f32 x, .float .f32 y] 28)
  refine ⟨w.heap.size, 0, rfl, by show _ < (w.heap.push _).size; simp, ?_⟩
  have : i = 0 ∨ i = 1 := by simp at hi; omega
  rcases this with rfl | rfl
  all_goals (unfold World.cell?; rw [hs.1]; rfl)
/-- A function value that tells a property of a number. -/
def Tells (c : FuncId) (p : Nat → Bool) : Prop := ∀ x w, (callFunc c #[.float .f32 x]).run Tryz.prog w = .ok (.enter c #[.float .f32 x]) w ∧ Calls Tryz.prog c #[.float .f32 x] w fun e w' => e = .returned (.bool (p x)) ∧ ∃ n, w' = w.drewN n
theorem any_none {l : List Nat} {p : Nat → Bool} (h : ∀ j (hj : j < l.length), p l[j] = false) : l.any p = false := by
  rw [List.any_eq_false]
  intro x hx
  obtain ⟨j, hj, rfl⟩ := List.getElem_of_mem hx
  rw [h j hj]; decide
theorem any_some {l : List Nat} {p : Nat → Bool} {k : Nat} (hk : k < l.length) (h : p l[k] = true) : l.any p = true := by
  rw [List.any_eq_true]
  exact ⟨l[k], List.getElem_mem hk, h⟩
set_option maxHeartbeats 400000 in
theorem idx_any (c : FuncId) (p : Nat → Bool) (hp : Tells c p) (a : Option Addr) (cap : Nat) (l : List Nat) (hl : l.length ≤ 1048576) (w : World) (h : FRow w a l) :
    Calls Tryz.prog 98 #[.slice a l.length cap, .func (.func c) #[] #[]] w fun e w' => ∃ r : Int, decide (0 ≤ r) = l.any p ∧ e = .returned (.int .i64 r) ∧ ∃ n, w' = w.drewN n := by
  have hA := Lib_hid' h
  have hP := Lib_hid' hp
  clear h hp
  go_enter Tryz.func98, Tryz.ntmps98
  go_wp2
  go_loopw [5, 8] (fun _ i wr => ∃ k : Nat, k ≤ l.length ∧ i = .int .i64 k ∧ Hid (∀ j (hj : j < l.length), j < k → p l[j] = false) ∧ ∃ n, wr = w.drewN n) (fun _ i _ => l.length - (intOf i).toNat)
  case atStart => exact ⟨0, Nat.zero_le _, rfl, fun j _ hj => by omega, 0, rfl⟩
  case round =>
    obtain ⟨k, hk, rfl, hno, n, rfl⟩ := hrel
    by_cases hlt : k < l.length
    · obtain ⟨b, o, rfl, _, hc⟩ := hA.out k hlt
      rw [getD_get hlt] at hc
      cases hpk : p l[k]
      · have hN := Lib_hid' hpk
        have hC := Lib_hid' fun w => (hP.out l[k] w).1
        have hF := Lib_hid' fun w => (hP.out l[k] w).2
        go_wp2_with (simp only [hC.out]; refine (hF.out _).mono ?_; rintro e w' ⟨rfl, m, rfl⟩)
        go_roundw
        case rel => exact ⟨k + 1, by omega, by go_num, fun j hj hjk => by
          by_cases e : j = k
          · subst e; exact hN.out
          · exact hno.out j hj (by omega), _, rfl⟩
        case measure => simp [intOf]; omega
      · have hN := Lib_hid' hpk
        have hC := Lib_hid' fun w => (hP.out l[k] w).1
        have hF := Lib_hid' fun w => (hP.out l[k] w).2
        go_wp2_with (simp only [hC.out]; refine (hF.out _).mono ?_; rintro e w' ⟨rfl, m, rfl⟩)
        go_ret
        exact ⟨(k : Int), by rw [any_some hlt hN.out]; exact decide_eq_true (by omega), rfl, _, rfl⟩
    · go_wp2
      go_ret
      exact ⟨-1, by rw [any_none fun j hj => hno.out j hj (by omega)]; decide, rfl, _, rfl⟩
theorem has_any (c : FuncId) (p : Nat → Bool) (hp : Tells c p) (a : Option Addr) (cap : Nat) (l : List Nat) (hl : l.length ≤ 1048576) (w : World) (h : FRow w a l) :
    Calls Tryz.prog 83 #[.slice a l.length cap, .func (.func c) #[] #[]] w fun e w' => e = .returned (.bool (l.any p)) ∧ ∃ n, w' = w.drewN n := by
  have hA := Lib_hid' h
  have hP := Lib_hid' hp
  clear h hp
  go_enter Tryz.func83, Tryz.ntmps83
  go_wp2_with (go_at_call 98; refine (idx_any _ _ hP.out _ _ _ (by assumption) _ hA.out).mono ?_; rintro e w' ⟨r, hr, rfl, n, rfl⟩; have hR := Lib_hid' hr; clear hr)
  go_ret
  exact ⟨by rw [← hR.out]; rfl, _, rfl⟩
theorem af1_any : Tells 84 (fun x => !finB .f32 x) := by
  intro a w
  refine ⟨by kernel_rfl, ?_⟩
  go_enter Tryz.func84, Tryz.ntmps84
  go_wp2_with (go_at_call 67; refine (ifin_any _ _).mono ?_; rintro e w' ⟨rfl, n, rfl⟩)
  go_ret
  exact ⟨rfl, _, rfl⟩
theorem af_any (a : Option Addr) (cap : Nat) (l : List Nat) (hl : l.length ≤ 1048576) (w : World) (h : FRow w a l) :
    Calls Tryz.prog 60 #[.slice a l.length cap] w fun e w' => e = .returned (.bool (!l.any (fun x => !finB .f32 x))) ∧ ∃ n, w' = w.drewN n := by
  have hA := Lib_hid' h
  clear h
  generalize hq : l.any (fun x => !finB .f32 x) = q
  have hQ := Lib_hid' hq
  clear hq
  go_enter Tryz.func60, Tryz.ntmps60
  go_wp2_with (go_at_call 83; refine (has_any _ _ af1_any _ _ _ (by assumption) _ hA.out).mono ?_; rw [hQ.out]; rintro e w' ⟨rfl, n, rfl⟩)
  go_ret
  exact ⟨rfl, _, rfl⟩
end Go.Proofs.YtogliigpoojfoaaGreatDoor
end

section
namespace Go.Proofs.YtogliigpoojfoaaGreatDoor
set_option maxRecDepth 100000
open Go.RowKit Fl

theorem long_any (a b : Option Addr) (c d : Nat) (m n : Nat) (w : World) :
    Calls Tryz.prog 5 #[.slice a m c, .slice b n d] w fun e w' => e = .returned (.bool (decide (1048576 < (m : Int)) || decide (1048576 < (n : Int)))) ∧ w = w' := by
  go_enter Tryz.func5, Tryz.ntmps5
  go_wp2
  all_goals go_ret
  all_goals exact ⟨rfl, rfl⟩
theorem long_no (a b : Option Addr) (c d : Nat) (m n : Nat) (hm : m ≤ 1048576) (hn : n ≤ 1048576) (w : World) :
    Calls Tryz.prog 5 #[.slice a m c, .slice b n d] w fun e w' => e = .returned (.bool false) ∧ w = w' := by
  have := long_any a b c d m n w
  rw [decide_eq_false (by omega), decide_eq_false (by omega)] at this
  exact this
theorem long_yes (a b : Option Addr) (c d : Nat) (m n : Nat) (h : ¬ (m ≤ 1048576 ∧ n ≤ 1048576)) (w : World) :
    Calls Tryz.prog 5 #[.slice a m c, .slice b n d] w fun e w' => e = .returned (.bool true) ∧ w = w' := by
  have := long_any a b c d m n w
  have e : (decide (1048576 < (m : Int)) || decide (1048576 < (n : Int))) = true := by
    rw [Bool.or_eq_true, decide_eq_true_eq, decide_eq_true_eq]; omega
  rw [e] at this
  exact this
theorem at_any (a : Option Addr) (cap : Nat) (l : List Int) (_ : l.length ≤ 1048576) (i n : Nat) (hi : i ≤ 1000) (hn : 1 < n) (hn' : n ≤ 1000) (w : World) (h : IRow .u8 w a l) (hw : IAll .u8 l) :
    Calls Tryz.prog 16 #[.slice a l.length cap, .int .i64 i, .int .i64 n] w fun e w' => ∃ k : Nat, k < n ∧ e = .returned (.int .i64 k) ∧ ∃ m, w' = w.drewN m := by
  by_cases hlt : i < l.length
  · obtain ⟨b, o, rfl, hb, hc⟩ := h i hlt
    have hb8 := hw.u8 hlt
    generalize l.getD i 0 = x at *
    obtain ⟨hx0, hx1⟩ := hb8
    clear h hw hb
    go_enter Tryz.func16, Tryz.ntmps16
    go_wp2
    go_ret
    refine ⟨(x % n).toNat, ?_, ?_, 0, rfl⟩
    · have := Int.emod_lt_of_pos x (show (0 : Int) < n by omega)
      have := Int.emod_nonneg x (show (n : Int) ≠ 0 by omega)
      omega
    · have := Int.emod_nonneg x (show (n : Int) ≠ 0 by omega)
      rw [Int.toNat_of_nonneg this]; rfl
  · have hge : l.length ≤ i := by omega
    clear h hw hlt
    go_enter Tryz.func16, Tryz.ntmps16
    go_wp2
    go_ret
    have h0 : (0 : Int) ≤ (i : Int) * 37 + 11 := by omega
    generalize (i : Int) * 37 + 11 = x at *
    refine ⟨(x % n).toNat, ?_, ?_, 0, rfl⟩
    · have := Int.emod_lt_of_pos x (show (0 : Int) < n by omega)
      have := Int.emod_nonneg x (show (n : Int) ≠ 0 by omega)
      omega
    · have := Int.emod_nonneg x (show (n : Int) ≠ 0 by omega)
      rw [Int.toNat_of_nonneg this]; rfl
/-- How far apart two numbers are. -/
def gapM (x y : Option Nat) : Option Nat := if ltM x y then fop .sub .f64 y x else fop .sub .f64 x y
end Go.Proofs.YtogliigpoojfoaaGreatDoor
end
