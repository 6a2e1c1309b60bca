/-
  The law on lists of numbers read from texts.
-/
import Derived.Test.YtogliigpoojfoaaDoorHy
import Derived.Test.YtogliigpoojfoaaDoorHo
namespace Go.Proofs.YtogliigpoojfoaaDoor
open Go.RowKit Fl

def RF (f : Nat) (s : ByteArray) (n : Nat) (b : Bool) (l : List Nat) (w : World) : Prop :=
  Calls Tryd.prog f #[.string s] w fun e w' => ∃ a cap, e = .returned (.tuple #[.slice a n cap, .bool b]) ∧ w'.ownsRow w.heap.size 55 1 (.slice a n cap) n (vals l) ∧ FRow w' a l ∧ Below w.heap.size w w'
theorem rf_of {f : Nat} {s : ByteArray} {b : Bool} {l : List Nat} {n : Nat} (hn : l.length = n) {w : World} (h : Calls Tryd.prog f #[.string s] w fun e w' => ∃ v, e = .returned (.tuple #[v, .bool b]) ∧ w'.ownsRow w.heap.size 55 1 v l.length (vals l) ∧ Below w.heap.size w w') : RF f s n b l w := by
  refine h.mono ?_
  rintro e w' ⟨v, rfl, ho, hB⟩
  rw [hn] at ho
  obtain ⟨a, cap, rfl, hr⟩ := resF_row hn ho
  exact ⟨a, cap, rfl, ho, hr, hB⟩
set_option maxRecDepth 100000 in
set_option maxHeartbeats 4000000 in
theorem law_ReadNumbers (s : ByteArray) (hs : s.size ≤ 1048576) (w : World) (m : Int) (hm : w.cell? ⟨8, 0, none⟩ = some (.int .i64 m)) (hO : HexOk w) :
    Calls Tryd.prog 9 #[.string s] w fun e w' => e = .returned (.bool true) ∧ Below w.heap.size w w' := by
  obtain ⟨n, hn⟩ : ∃ n, (wordsOf s).length = n := ⟨_, rfl⟩
  have hn2 : n ≤ 256 := by have := wordsOf_len s; omega
  have hwf := wordsOf_wf s
  have hS := hidI (fun w => rf_of hn (sreadnum_any s hs w))
  have hI := hidI (fun w hm hO => rf_of hn (ireadnum_any s hs w m hm hO))
  have hE := hidI (fun a b ca cb w ha hb => eqF_any a b ca cb (wordsOf s) (by omega) hwf w ha hb)
  have hM := hidI (fun a cap b w h => markF_res a cap n b (wordsOf s) hn hn2 w h)
  have hH := hidI (fun a cap w h => heldF_any a cap n hn2 w h)
  have hUp : (upF n).length = n := upF_len n
  have hUpR := hidI (fun (w : World) (b : Nat) (v : Value) h => resF_row (w := w) (b := b) (v := v) hUp h)
  rw [hn] at hE
  have hC := hidI hm
  have hQ := hidI hO
  generalize listOkX s = q at hS hI
  generalize wordsOf s = l at hS hI hE hM
  clear hm hO hn hUp hwf
  unfold RF at hS hI
  go_enter Tryd.func9, Tryd.ntmps9
  go_wp2_with (first
    | (go_at_call 32; refine (hH.out _ _ (w5.drewN m6) M5.out).mono ?_; rintro e w8 ⟨rfl, rfl⟩)
    | (go_at_call 32; refine (hH.out _ _ _ M4.out).mono ?_; rintro e w8 ⟨rfl, rfl⟩)
    | (go_at_call 22; refine (hE.out _ _ _ _ _ R2.out R05.out).mono ?_; rintro e w6 ⟨rfl, m6, rfl⟩)
    | (go_at_call 22; refine (hE.out _ _ _ _ _ R1.out R02.out).mono ?_; rintro e w3 ⟨rfl, m3, rfl⟩)
    | (go_at_call 31; refine (hM.out _ _ _ (w2.drewN m3) O1.out).mono ?_; rintro e w4 ⟨rfl, o4, B4⟩; have b4 := hidI ((Below.draws b2.out m3).trans (B4.mono b1.out.size)); have R04 := hidI (R0.out.below ((Below.draws hB2.out m3).trans B4)); have M4 := hidI (hUpR.out _ _ _ o4); obtain ⟨a4, c4, e4, r4⟩ := M4.out; cases e4; clear M4; have M4 := hidI r4; clear o4 B4 r4)
    | (go_at_call 30; refine (hI.out _ (cmax hC.out b4.out) (hQ.out.stays b4.out)).mono ?_; rintro e w5 ⟨a2, c2, rfl, o2, r2, B5⟩; have b5 := hidI (b4.out.trans (B5.mono b4.out.size)); have R05 := hidI (R04.out.below B5); have M5 := hidI (M4.out.below B5); have R2 := hidI r2; clear o2 r2 B5)
    | (go_at_call 29; refine (hS.out _).mono ?_; rintro e w1 ⟨a0, c0, rfl, o0, r0, B1⟩; have b1 := hidI B1; have R0 := hidI r0; clear o0 r0 B1)
    | (go_at_call 30; refine (hI.out _ (cmax hC.out b1.out) (hQ.out.stays b1.out)).mono ?_; rintro e w2 ⟨a1, c1, rfl, o1, r1, B2⟩; have hB2 := hidI B2; have b2 := hidI (b1.out.trans (B2.mono b1.out.size)); have R02 := hidI (R0.out.below B2); have O1 := hidI o1; have R1 := hidI r1; clear o1 r1 B2))
  all_goals go_ret
  all_goals exact ⟨rfl, Below.draws b5.out _⟩
theorem law_ReadNumbers_long (s : ByteArray) (hs : 1048576 < s.size) (w : World) :
    Calls Tryd.prog 9 #[.string s] w fun e w' => e = .returned (.bool true) ∧ Below w.heap.size w w' := by
  go_enter Tryd.func9, Tryd.ntmps9
  go_wp2
  go_ret
  exact ⟨rfl, Below.refl _ _⟩
theorem law_ReadNumbersAll (s : ByteArray) (_ : s.size ≤ maxLen) (w : World) (hL : laidMetH Tryd.prog Rows.fnExactReadNumbersRow.laid w) (hsh : w.ShapedOpen Tryd.prog) :
    Calls Tryd.prog 9 #[.string s] w fun e w' => e = .returned (.bool true) ∧ Below w.heap.size w w' := by
  have hO : HexOk w := by
    rw [MakeChecks.laidMetH_plain _ _ _ (by kernel_rfl)] at hL
    have h0 := laidMet.tail (show laidMet Tryd.prog (_ :: _ :: _ :: _ :: _ :: _ :: _ :: []) w from hL)
    have h1 := laidMet.tail (laidMet.tail (laidMet.tail h0))
    exact ⟨tab_head h0, err_head (by kernel_rfl) (laidMet.tail h1), err_head (by kernel_rfl) h1⟩
  obtain ⟨m, hm⟩ := maxlen_cell hsh
  by_cases hs : s.size ≤ 1048576
  · exact law_ReadNumbers s hs w m hm hO
  · exact law_ReadNumbers_long s (by omega) w
end Go.Proofs.YtogliigpoojfoaaDoor
