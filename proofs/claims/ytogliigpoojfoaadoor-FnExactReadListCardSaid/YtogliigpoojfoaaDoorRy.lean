/-
  Lists read from texts: marks are put into a result.
-/
import Derived.Test.YtogliigpoojfoaaDoorRx
namespace Go.Proofs.YtogliigpoojfoaaDoor
open Go.RowKit

theorem up_set (l : List Int) (k : Nat) (h : k < l.length) : (ivals (upFrom 1 k) ++ ivals (l.drop k)).set k (.int .i64 ((k : Int) + 1)) = ivals (upFrom 1 (k + 1)) ++ ivals (l.drop (k + 1)) := by
  have hl : (ivals (upFrom 1 k)).length = k := by simp [ivals, upFrom]
  have h1 : l.drop k = l[k] :: l.drop (k + 1) := List.drop_eq_getElem_cons h
  have h2 : upFrom 1 (k + 1) = upFrom 1 k ++ [(k : Int) + 1] := by
    unfold upFrom
    rw [List.range_succ, List.map_append]
    simp; omega
  rw [List.set_append_right _ _ (by omega), hl, Nat.sub_self, h1, h2]
  unfold ivals
  rw [List.map_cons, List.set_cons_zero, List.map_append, List.append_assoc]; rfl
set_option maxHeartbeats 400000 in
theorem mark_any (B g cap n : Nat) (l : List Int) (hn : l.length = n) (hn2 : n ≤ 1048576) (w : World) (h : w.ownsRow B 2 1 (.slice (some ⟨g, 0, none⟩) n cap) n (ivals l)) (hg : B ≤ g) :
    Calls Tryd.prog 27 #[.slice (some ⟨g, 0, none⟩) n cap, .int .i64 1] w fun e w' => e = .returned (.int .i64 ((n : Int) + 1)) ∧ w'.ownsRow B 2 1 (.slice (some ⟨g, 0, none⟩) n cap) n (ivals (upFrom 1 n)) ∧ Below B w w' := by
  have hL := hidI hn
  have h0 := hidI h
  clear h hn
  go_enter Tryd.func27, Tryd.ntmps27
  go_wp2
  go_loopw [1, 5] (fun q i wr => ∃ (W : World) (k : Nat), W = wr ∧ k ≤ n ∧ i = .int .i64 k ∧ q = .int .i64 ((k : Int) + 1) ∧ Hid (W.ownsRow B 2 1 (.slice (some ⟨g, 0, none⟩) n cap) n (ivals (upFrom 1 k) ++ ivals (l.drop k))) ∧ Hid (Below B w W)) (fun _ i _ => n - (intOf i).toNat)
  case atStart => exact ⟨_, 0, rfl, Nat.zero_le _, rfl, rfl, h0.out, Below.refl _ _⟩
  case round =>
    obtain ⟨W, k, rfl, hk, rfl, rfl, ho, hb⟩ := hrel
    by_cases hlt : k < n
    · have hlt' : k < l.length := by rw [hL.out]; exact hlt
      have hcell : ∃ v, W.cell? ⟨g, k, none⟩ = some v := by
        have h1 := ho.out.cellAt k (by omega)
        have h2 := ho.out.1
        rw [h1]
        exact ⟨_, List.getElem?_eq_getElem (by omega)⟩
      have hfro := ho.out.frozenAt k
      have hst := ho.out.stored k (.int .i64 ((k : Int) + 1))
      rw [up_set l k hlt'] at hst
      have hS := hidI hst.1
      have hB := hidI (hb.out.setCell (p := ⟨g, k, none⟩) hg (.int .i64 ((k : Int) + 1)))
      clear hst hlt'
      obtain ⟨old, hcell⟩ := hcell
      go_wp2
      go_roundw
      case rel => exact ⟨_, k + 1, rfl, by omega, by go_num, by go_num, hS.out, hB.out⟩
      case measure => simp [intOf]; omega
    · have hk' : k = n := by omega
      subst hk'
      have hE := ho.out
      rw [List.drop_of_length_le (by rw [hL.out]; exact Nat.le_refl _)] at hE
      have hE2 := hidI (show W.ownsRow B 2 1 (.slice (some ⟨g, 0, none⟩) k cap) k (ivals (upFrom 1 k)) from by simpa [ivals] using hE)
      clear hE
      go_wp2
      go_ret
      exact ⟨rfl, hE2.out, hb.out⟩
theorem mark_nil (w : World) :
    Calls Tryd.prog 27 #[.slice none 0 0, .int .i64 1] w fun e w' => e = .returned (.int .i64 1) ∧ w = w' := by
  go_enter Tryd.func27, Tryd.ntmps27
  go_wp2
  go_loop [1, 5] (fun q i => i = .int .i64 0 ∧ q = .int .i64 1) (fun _ _ => 0)
  case atStart => exact ⟨rfl, rfl⟩
  case round =>
    obtain ⟨rfl, rfl⟩ := hrel
    go_wp2
    go_ret
    exact ⟨rfl, rfl⟩
end Go.Proofs.YtogliigpoojfoaaDoor
