/-
  The walks of the laws on single numbers.
-/
import Derived.Test.YtekgnheennbpnaaSd
namespace Go.Proofs.Ytekgnheennbpnaa
open Go.RowKit Fl

theorem law_IsFinite (a : Nat) (_ : (Lit.float .f32 a).wf = true) (w : World) :
    Calls Try.prog 4 #[.float .f32 a] w fun e w' => e = .returned (.bool true) ∧ Grown w w' := by
  go_enter Try.func4, Try.ntmps4
  go_wp2_with (first | (go_at_call 14; refine (sfin_any _ _).mono ?_; rintro e w' ⟨rfl, n, rfl⟩) | (go_at_call 15; refine (ifin_any _ _).mono ?_; rintro e w' ⟨rfl, n, rfl⟩))
  go_ret
  exact ⟨rfl, grown_drewN _ _⟩
theorem law_BitsOf (a : Nat) (_ : (Lit.float .f32 a).wf = true) (w : World) :
    Calls Try.prog 5 #[.float .f32 a] w fun e w' => e = .returned (.bool true) ∧ Grown w w' := by
  go_enter Try.func5, Try.ntmps5
  go_wp2_with (first | (go_at_call 16; refine (sbits_any _ _).mono ?_; rintro e w' ⟨rfl, rfl⟩) | (go_at_call 17; refine (ibits_any _ _).mono ?_; rintro e w' ⟨rfl, rfl⟩))
  go_ret
  exact ⟨rfl, Grown.refl _⟩
theorem law_IsSubnormal (a : Nat) (ha : (Lit.float .f32 a).wf = true) (w : World) :
    Calls Try.prog 6 #[.float .f32 a] w fun e w' => e = .returned (.bool true) ∧ Grown w w' := by
  go_enter Try.func6, Try.ntmps6
  go_wp2_with (first | (go_at_call 18; refine (ssub_any _ (by assumption) _).mono ?_; rintro e w' ⟨rfl, rfl⟩) | (go_at_call 19; refine (isub_any _ (by assumption) _).mono ?_; rintro e w' ⟨rfl, n, rfl⟩))
  go_ret
  exact ⟨rfl, grown_drewN _ _⟩
theorem law_SameNumber (a b : Nat) (ha : (Lit.float .f32 a).wf = true) (hb : (Lit.float .f32 b).wf = true) (w : World) :
    Calls Try.prog 7 #[.float .f32 a, .float .f32 b] w fun e w' => e = .returned (.bool true) ∧ Grown w w' := by
  go_enter Try.func7, Try.ntmps7
  go_wp2_with (first | (go_at_call 20; refine (ssame_any _ _ _).mono ?_; rintro e w' ⟨rfl, rfl⟩) | (go_at_call 21; refine (isame_any _ _ (by assumption) (by assumption) _).mono ?_; rintro e w' ⟨rfl, n, rfl⟩))
  go_ret
  exact ⟨rfl, grown_drewN _ _⟩
end Go.Proofs.Ytekgnheennbpnaa
