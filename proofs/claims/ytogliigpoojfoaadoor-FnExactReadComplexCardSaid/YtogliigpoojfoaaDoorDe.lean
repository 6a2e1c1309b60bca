/-
  Numbers in decimal: both functions, and the law.
-/
import Derived.Test.YtogliigpoojfoaaDoorDd
import Derived.Test.YtogliigpoojfoaaDoorSh2
import Derived.Lib.LaidTab
import Derived.Lib.AppendIntMem
import Derived.LaidMore
import Derived.Stop.Joined
import Derived.Stop.LaidErr
namespace Go.Proofs.YtogliigpoojfoaaDoor
open Go.RowKit

/-- The text of a number. -/
def decT (n : Int) : ByteArray := ⟨(Lib.itoa n).toArray⟩
theorem Below.draws {B : Nat} {w v : World} (h : Below B w v) (n : Nat) : Below B w (v.drewN n) := ⟨h.os, h.tape, h.output, h.size, h.block⟩
theorem sdec_any (n : Int) (h0 : -9223372036854775808 ≤ n) (h1 : n ≤ 9223372036854775807) (w : World) :
    Calls Tryd.prog 38 #[.int .i64 n] w fun e w' => e = .returned (.string (decT n)) ∧ Below w.heap.size w w' := by
  by_cases hn : n < 0
  · obtain ⟨m, rfl⟩ : ∃ m : Nat, n = -(m : Int) := ⟨n.natAbs, by omega⟩
    have h := sdec_neg m (by omega) (by omega) w
    have e : decT (-(m : Int)) = strOfNums (45 :: digL m) := by
      rw [strOf_neg]; unfold decT; rw [Lib.itoa_neg m (by omega)]
    rw [e]; exact h
  · obtain ⟨m, rfl⟩ : ∃ m : Nat, n = (m : Int) := ⟨n.toNat, by omega⟩
    have h := sdec_pos m (by omega) w
    have e : decT (m : Int) = strOfNums (digL m) := by
      rw [strOf_dig]; unfold decT; rw [Lib.itoa_nonneg m]
    rw [e]; exact h
theorem sdecimal_any (n : Int) (h0 : -9223372036854775808 ≤ n) (h1 : n ≤ 9223372036854775807) (w : World) :
    Calls Tryd.prog 11 #[.int .i64 n] w fun e w' => e = .returned (.string (decT n)) ∧ Below w.heap.size w w' := by
  go_enter Tryd.func11, Tryd.ntmps11
  go_wp2_with (go_at_call 38; refine (sdec_any n h0 h1 _).mono ?_; rintro e w' ⟨rfl, hB⟩)
  go_ret
  exact ⟨rfl, hB⟩
/-- The library's table of powers of ten lies where it should. -/
def Pow10 (w : World) : Prop := Lib.TabIs Tryd.prog w "internal/strconv.uint64pow10" .u64 Lib.pow10Tab
theorem idecimal_any (n : Int) (h0 : -9223372036854775808 ≤ n) (h1 : n ≤ 9223372036854775807) (w : World) (ht : Pow10 w) :
    Calls Tryd.prog 12 #[.int .i64 n] w fun e w' => e = .returned (.string (decT n)) ∧ Below w.heap.size w w' := by
  have hF := hidI (Tryd.strconv_FormatInt_10 n h0 h1 w ht)
  clear ht
  go_enter Tryd.func12, Tryd.ntmps12
  go_wp2_with (go_at_call 39; refine hF.out.mono ?_; rintro e w' ⟨rfl, k, os, rfl⟩)
  go_ret
  exact ⟨rfl, Lib.below_grow _ _ (Nat.le_refl _) k os⟩
theorem Pow10.stays {w w' : World} (h : Pow10 w) (hb : Below w.heap.size w w') : Pow10 w' := Lib.tabBelow_of_tabIs h w' hb
theorem gPow : ∃ g, Tryd.prog.globalNamed "internal/strconv.uint64pow10" = some g ∧ (Tryd.prog.globals[g]?).map (·.type) = some 120 := by
  have h : (Tryd.prog.globalNamed "internal/strconv.uint64pow10").bind (fun g => (Tryd.prog.globals[g]?).map (·.type)) = some 120 := by kernel_rfl
  rw [Option.bind_eq_some_iff] at h
  exact h
theorem pow_head {W : World} {rest : List (String × DataW Unit)} (h : laidMet Tryd.prog (("internal/strconv.uint64pow10", Rows.laid_internal_strconv_uint64pow10) :: rest) W) : Pow10 W := by
  obtain ⟨g, hg, ht⟩ := gPow
  exact Lib.tabIs_of_head hg ht Tryd.underlying120 Tryd.underlying85 (by kernel_rfl) (by kernel_rfl) h
theorem law_Decimal (n : Int) (hn : (Lit.int .i64 n).wf = true) (w : World) (hL : laidMetH Tryd.prog Rows.fnExactDecimalRow.laid w) :
    Calls Tryd.prog 3 #[.int .i64 n] w fun e w' => e = .returned (.bool true) ∧ Below w.heap.size w w' := by
  have hP : Pow10 w := by
    rw [MakeChecks.laidMetH_plain _ _ _ (by kernel_rfl)] at hL
    exact pow_head (laidMet.tail (laidMet.tail (show laidMet Tryd.prog (_ :: _ :: _ :: []) w from hL)))
  have hb : -9223372036854775808 ≤ n ∧ n ≤ 9223372036854775807 := by
    simp [Lit.wf, IntKind.min, IntKind.max, IntKind.signed, IntKind.bits] at hn
    omega
  have hS := hidI (sdecimal_any n hb.1 hb.2)
  have hI := hidI (idecimal_any n hb.1 hb.2)
  have hQ := hidI hP
  generalize decT n = s at hS hI
  clear hL hP hn hb
  go_enter Tryd.func3, Tryd.ntmps3
  go_wp2_with (first | (go_at_call 11; refine (hS.out _).mono ?_; rintro e w1 ⟨rfl, hB⟩; have b1 := hidI hB; clear hB) | (go_at_call 12; refine (hI.out _ (hQ.out.stays b1.out)).mono ?_; rintro e w2 ⟨rfl, hB⟩; have b2 := hidI (b1.out.trans (hB.mono b1.out.size)); clear hB))
  all_goals go_ret
  all_goals exact ⟨rfl, b2.out⟩
end Go.Proofs.YtogliigpoojfoaaDoor
