/-
  The law on texts of lists.
-/
import Derived.Test.YtogliigpoojfoaaDoorLx
namespace Go.Proofs.YtogliigpoojfoaaDoor
open Go.RowKit

theorem law_ListText_long (a : Option Addr) (cap n : Nat) (h : 1048576 < n) (w : World) :
    Calls Tryd.prog 5 #[.slice a n cap] w fun e w' => e = .returned (.bool true) ∧ Below w.heap.size w w' := by
  go_enter Tryd.func5, Tryd.ntmps5
  go_wp2
  go_ret
  exact ⟨rfl, Below.refl _ _⟩
set_option maxHeartbeats 1000000 in
theorem law_ListText (a : Option Addr) (cap : Nat) (l : List Int) (w : World) (h : IRow .i64 w a l) (hw : IAll .i64 l) (hL : laidMetH Tryd.prog Rows.fnExactListTextRow.laid w) :
    Calls Tryd.prog 5 #[.slice a l.length cap] w fun e w' => e = .returned (.bool true) ∧ Below w.heap.size w w' := by
  have hP : Pow10 w := by
    rw [MakeChecks.laidMetH_plain _ _ _ (by kernel_rfl)] at hL
    exact pow_head (laidMet.tail (laidMet.tail (show laidMet Tryd.prog (_ :: _ :: _ :: []) w from hL)))
  by_cases hl : l.length ≤ 1048576
  · have hH := hidI h
    have hQ := hidI hP
    have hT := hidI (fun w h => toI_any a cap l hl w h)
    have hS := hidI (fun x w h => slisttext_any (some x) l.length l hl hw w h)
    have hI := hidI (fun x w h hp => ilisttext_any (some x) l.length l hl hw w h hp)
    have hE := hidI (fun x y w h h2 => eqI_any (some x) (some y) l.length l.length l hl w h h2)
    generalize hsT : listT l = s at hS hI
    generalize hqT : listB l = q at hS hI
    obtain ⟨n, hn⟩ : ∃ n, l.length = n := ⟨_, rfl⟩
    rw [hn] at hl hT hS hI hE ⊢
    clear hL hP h hw hsT hqT hn
    go_enter Tryd.func5, Tryd.ntmps5
    go_wp2_with (first
      | (go_at_call 16; refine (hT.out _ (hH.out.below b4.out)).mono ?_; rintro e w5 ⟨rfl, r5, B5⟩; have b5 := hidI (b4.out.trans (B5.mono b4.out.size)); have R5 := hidI r5; have R35 := hidI (R34.out.below B5); clear r5 B5)
      | (go_at_call 16; refine (hT.out _ (hH.out.below b2.out)).mono ?_; rintro e w3 ⟨rfl, r3, B3⟩; have b3 := hidI (b2.out.trans (B3.mono b2.out.size)); have R3 := hidI r3; clear r3 B3)
      | (go_at_call 16; refine (hT.out _ hH.out).mono ?_; rintro e w1 ⟨rfl, r1, B1⟩; have b1 := hidI B1; have R1 := hidI r1; clear r1 B1)
      | (go_at_call 15; refine (hS.out _ _ R1.out).mono ?_; rintro e w2 ⟨rfl, B2⟩; have b2 := hidI (b1.out.trans (B2.mono b1.out.size)); clear B2)
      | (go_at_call 17; refine (hI.out _ _ R3.out (hQ.out.stays b3.out)).mono ?_; rintro e w4 ⟨rfl, B4⟩; have b4 := hidI (b3.out.trans (B4.mono b3.out.size)); have R34 := hidI (R3.out.below B4); clear B4)
      | (go_at_call 18; refine (hE.out _ _ _ R35.out R5.out).mono ?_; rintro e w6 ⟨rfl, m6, rfl⟩))
    all_goals go_ret
    all_goals exact ⟨rfl, Below.draws b5.out _⟩
  · exact law_ListText_long a cap l.length (by omega) w
end Go.Proofs.YtogliigpoojfoaaDoor
