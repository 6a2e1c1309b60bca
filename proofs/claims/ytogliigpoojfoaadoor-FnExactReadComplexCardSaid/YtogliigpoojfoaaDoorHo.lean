/-
  The law on texts of lists of numbers.
-/
import Derived.Test.YtogliigpoojfoaaDoorHn
import Derived.Test.YtogliigpoojfoaaDoorOp
import Derived.Lib.TrailingZeros
namespace Go.Proofs.YtogliigpoojfoaaDoor
open Go.RowKit Fl

theorem gTab : (Tryd.prog.globals[7]?).map (·.type) = some 152 := by kernel_rfl
theorem gTabN : Tryd.prog.globalNamed "math/bits.deBruijn64tab" = some 7 := by kernel_rfl
def tabZ : List Int := Lib.deBruijn64tab.map Int.ofNat
theorem tab_head {W : World} {rest : List (String × DataW Unit)} (h : laidMet Tryd.prog (("math/bits.deBruijn64tab", Rows.laid_math_bits_deBruijn64tab) :: rest) W) : TabOk W := by
  have h1 := Lib.tabIs_of_head (k := .u8) (zs := tabZ) gTabN gTab Tryd.underlying152 Tryd.underlying5 (by kernel_rfl) (by kernel_rfl) h
  have h2 := Lib.TabIs.cell h1 gTabN 15 (by decide)
  have e : tabZ.getD 15 0 = 4 := by decide
  rw [e] at h2
  exact h2
theorem law_NumbersText_long (a : Option Addr) (cap n : Nat) (h : 1048576 < n) (w : World) :
    Calls Tryd.prog 6 #[.slice a n cap] w fun e w' => e = .returned (.bool true) ∧ Below w.heap.size w w' := by
  go_enter Tryd.func6, Tryd.ntmps6
  go_wp2
  go_ret
  exact ⟨rfl, Below.refl _ _⟩
set_option maxHeartbeats 1000000 in
theorem law_NumbersText (a : Option Addr) (cap : Nat) (l : List Nat) (w : World) (h : FRow w a l) (hw : AllWf l) (hL : laidMetH Tryd.prog Rows.fnExactNumbersTextRow.laid w) :
    Calls Tryd.prog 6 #[.slice a l.length cap] w fun e w' => e = .returned (.bool true) ∧ Below w.heap.size w w' := by
  have hP : TabOk w := by
    rw [MakeChecks.laidMetH_plain _ _ _ (by kernel_rfl)] at hL
    exact tab_head (laidMet.tail (show laidMet Tryd.prog (_ :: _ :: _ :: []) w from hL))
  by_cases hl : l.length ≤ 1048576
  · have hH := hidI h
    have hQ := hidI hP
    have hT := hidI (fun w h => toF_any a cap l hl w h)
    have hS := hidI (fun x w h => snumtext_any (some x) l.length l hl hw w h)
    have hI := hidI (fun x w h hp => inumtext_any (some x) l.length l hw w h hp)
    have hE := hidI (fun x y w h h2 => eqF_any (some x) (some y) l.length l.length l hl hw w h h2)
    generalize hsT : nText l = s at hS hI
    obtain ⟨n, hn⟩ : ∃ n, l.length = n := ⟨_, rfl⟩
    rw [hn] at hl hT hS hI hE ⊢
    generalize hqT : fewB n = q at hS hI
    clear hL hP h hw hsT hqT hn
    go_enter Tryd.func6, Tryd.ntmps6
    go_wp2_with (first
      | (go_at_call 20; refine (hT.out _ (hH.out.below b4.out)).mono ?_; rintro e w5 ⟨rfl, r5, B5⟩; have b5 := hidI (b4.out.trans (B5.mono b4.out.size)); have R5 := hidI r5; have R35 := hidI (R34.out.below B5); clear r5 B5)
      | (go_at_call 20; refine (hT.out _ (hH.out.below b2.out)).mono ?_; rintro e w3 ⟨rfl, r3, B3⟩; have b3 := hidI (b2.out.trans (B3.mono b2.out.size)); have R3 := hidI r3; clear r3 B3)
      | (go_at_call 20; refine (hT.out _ hH.out).mono ?_; rintro e w1 ⟨rfl, r1, B1⟩; have b1 := hidI B1; have R1 := hidI r1; clear r1 B1)
      | (go_at_call 19; refine (hS.out _ _ R1.out).mono ?_; rintro e w2 ⟨rfl, B2⟩; have b2 := hidI (b1.out.trans (B2.mono b1.out.size)); clear B2)
      | (go_at_call 21; refine (hI.out _ _ R3.out (hQ.out.stays b3.out)).mono ?_; rintro e w4 ⟨rfl, B4⟩; have b4 := hidI (b3.out.trans (B4.mono b3.out.size)); have R34 := hidI (R3.out.below B4); clear B4)
      | (go_at_call 22; refine (hE.out _ _ _ R35.out R5.out).mono ?_; rintro e w6 ⟨rfl, m6, rfl⟩))
    all_goals go_ret
    all_goals exact ⟨rfl, Below.draws b5.out _⟩
  · exact law_NumbersText_long a cap l.length (by omega) w
end Go.Proofs.YtogliigpoojfoaaDoor
