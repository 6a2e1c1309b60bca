/-
  Contracts of the laws' small helpers: long inputs, a number chosen by a byte, the gap of two numbers.
-/
import Derived.Test.YtlcekfahjakfgaaIr
import Derived.Test.YtlcekfahjakfgaaSi
namespace Go.Proofs.Ytlcekfahjakfgaa
open Go.RowKit Fl

theorem long_any (a b : Option Addr) (c d : Nat) (m n : Nat) (w : World) :
    Calls Try.prog 26 #[.slice a m c, .slice b n d] w fun e w' => e = .returned (.bool (decide (1048576 < (m : Int)) || decide (1048576 < (n : Int)))) ∧ w = w' := by
  go_enter Try.func26, Try.ntmps26
  go_wp2
  all_goals go_ret
  all_goals exact ⟨rfl, rfl⟩
theorem long_no (a b : Option Addr) (c d : Nat) (m n : Nat) (hm : m ≤ 1048576) (hn : n ≤ 1048576) (w : World) :
    Calls Try.prog 26 #[.slice a m c, .slice b n d] w fun e w' => e = .returned (.bool false) ∧ w = w' := by
  have := long_any a b c d m n w
  rw [decide_eq_false (by omega), decide_eq_false (by omega)] at this
  exact this
theorem long_yes (a b : Option Addr) (c d : Nat) (m n : Nat) (h : ¬ (m ≤ 1048576 ∧ n ≤ 1048576)) (w : World) :
    Calls Try.prog 26 #[.slice a m c, .slice b n d] w fun e w' => e = .returned (.bool true) ∧ w = w' := by
  have := long_any a b c d m n w
  have e : (decide (1048576 < (m : Int)) || decide (1048576 < (n : Int))) = true := by
    rw [Bool.or_eq_true, decide_eq_true_eq, decide_eq_true_eq]; omega
  rw [e] at this
  exact this
theorem at_any (a : Option Addr) (cap : Nat) (l : List Int) (_ : l.length ≤ 1048576) (i n : Nat) (hi : i ≤ 1000) (hn : 1 < n) (hn' : n ≤ 1000) (w : World) (h : IRow .u8 w a l) (hw : IAll .u8 l) :
    Calls Try.prog 27 #[.slice a l.length cap, .int .i64 i, .int .i64 n] w fun e w' => ∃ k : Nat, k < n ∧ e = .returned (.int .i64 k) ∧ ∃ m, w' = w.drewN m := by
  by_cases hlt : i < l.length
  · obtain ⟨b, o, rfl, hb, hc⟩ := h i hlt
    have hb8 := hw.u8 hlt
    generalize l.getD i 0 = x at *
    obtain ⟨hx0, hx1⟩ := hb8
    clear h hw hb
    go_enter Try.func27, Try.ntmps27
    go_wp2
    go_ret
    refine ⟨(x % n).toNat, ?_, ?_, 0, rfl⟩
    · have := Int.emod_lt_of_pos x (show (0 : Int) < n by omega)
      have := Int.emod_nonneg x (show (n : Int) ≠ 0 by omega)
      omega
    · have := Int.emod_nonneg x (show (n : Int) ≠ 0 by omega)
      rw [Int.toNat_of_nonneg this]; rfl
  · have hge : l.length ≤ i := by omega
    clear h hw hlt
    go_enter Try.func27, Try.ntmps27
    go_wp2
    go_ret
    have h0 : (0 : Int) ≤ (i : Int) * 37 + 11 := by omega
    generalize (i : Int) * 37 + 11 = x at *
    refine ⟨(x % n).toNat, ?_, ?_, 0, rfl⟩
    · have := Int.emod_lt_of_pos x (show (0 : Int) < n by omega)
      have := Int.emod_nonneg x (show (n : Int) ≠ 0 by omega)
      omega
    · have := Int.emod_nonneg x (show (n : Int) ≠ 0 by omega)
      rw [Int.toNat_of_nonneg this]; rfl
/-- How far apart two numbers are. -/
def gapM (x y : Option Nat) : Option Nat := if ltM x y then fop .sub .f64 y x else fop .sub .f64 x y
theorem gap_any (x y : Nat) (w : World) :
    Calls Try.prog 28 #[.float .f64 x, .float .f64 y] w fun e w' => ∃ r, (mean .f64 r = gapM (mean .f64 x) (mean .f64 y) ∧ (Lit.float .f64 r).wf = true) ∧ e = .returned (.float .f64 r) ∧ ∃ n, w' = w.drewN n := by
  cases h : (FloatKind.f64.format.order x y == some .lt)
  · have hg : gapM (mean .f64 x) (mean .f64 y) = fop .sub .f64 (mean .f64 x) (mean .f64 y) := by
      unfold gapM ltM
      rw [← order_mean, h]; rfl
    have hG := Lib_hid' hg
    clear hg
    go_enter Try.func28, Try.ntmps28
    go_wp2_with (first | (refine wpList_float rfl .sub _ _ _ _ rfl rfl .f64 x y rfl rfl ?_; intro r n hr))
    go_ret
    exact ⟨r, ⟨hr.1.trans hG.out.symm, hr.2⟩, rfl, _, rfl⟩
  · have hg : gapM (mean .f64 x) (mean .f64 y) = fop .sub .f64 (mean .f64 y) (mean .f64 x) := by
      unfold gapM ltM
      rw [← order_mean, h]; rfl
    have hG := Lib_hid' hg
    clear hg
    go_enter Try.func28, Try.ntmps28
    go_wp2_with (first | (refine wpList_float rfl .sub _ _ _ _ rfl rfl .f64 y x rfl rfl ?_; intro r n hr))
    go_ret
    exact ⟨r, ⟨hr.1.trans hG.out.symm, hr.2⟩, rfl, _, rfl⟩
end Go.Proofs.Ytlcekfahjakfgaa
