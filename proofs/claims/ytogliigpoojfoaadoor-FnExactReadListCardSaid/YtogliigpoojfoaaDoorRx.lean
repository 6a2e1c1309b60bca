/-
  Lists read from texts: marks in a result, and the reference's function.
-/
import Derived.Test.YtogliigpoojfoaaDoorRw
namespace Go.Proofs.YtogliigpoojfoaaDoor
open Go.RowKit

/-- The numbers from k on, as many as asked. -/
def upFrom (k n : Nat) : List Int := (List.range n).map fun i => ((k + i : Nat) : Int)
set_option maxHeartbeats 400000 in
/-- A row that holds k, k + 1, .. reads so. -/
theorem held_any (a : Option Addr) (cap n : Nat) (hn : n ≤ 1048576) (w : World) (h : IRow .i64 w a (upFrom 1 n)) :
    Calls Tryd.prog 28 #[.slice a n cap, .int .i64 1] w fun e w' => e = .returned (.int .i64 ((n : Int) + 1)) ∧ w = w' := by
  have hH := hidI (show ∀ k, k < n → ∃ b o, a = some ⟨b, o, none⟩ ∧ w.cell? ⟨b, o + k, none⟩ = some (.int .i64 ((k : Int) + 1)) from fun k hk => by
    obtain ⟨b, o, ha, -, hc⟩ := h k (by simpa [upFrom] using hk)
    refine ⟨b, o, ha, ?_⟩
    rw [hc]
    simp [upFrom, List.getD, hk]
    omega)
  clear h
  go_enter Tryd.func28, Tryd.ntmps28
  go_wp2
  go_loop [1, 5] (fun q i => ∃ k : Nat, k ≤ n ∧ i = .int .i64 k ∧ q = .int .i64 ((k : Int) + 1)) (fun _ i => n - (intOf i).toNat)
  case atStart => exact ⟨0, Nat.zero_le _, rfl, rfl⟩
  case round =>
    obtain ⟨k, hk, rfl, rfl⟩ := hrel
    by_cases hlt : k < n
    · obtain ⟨b, o, rfl, hc⟩ := hH.out k hlt
      go_wp2
      go_round
      case rel => exact ⟨k + 1, by omega, by go_num, by go_num⟩
      case measure => simp [intOf]; omega
    · have hk' : k = n := by omega
      subst hk'
      go_wp2
      go_ret
      exact ⟨rfl, rfl⟩
theorem sreadlist_any (s : ByteArray) (hs : s.size ≤ 1048576) (w : World) :
    Calls Tryd.prog 25 #[.string s] w fun e w' => ∃ v, e = .returned (.tuple #[v, .bool (listOk s)]) ∧ w'.ownsRow w.heap.size 2 1 v (listOf s).length (ivals (listOf s)) ∧ Below w.heap.size w w' := by
  have key : ∀ w, Calls Tryd.prog 51 #[.string s] w fun e w' => ∃ v, e = .returned (.tuple #[v, .bool (listOk s)]) ∧ w'.ownsRow w.heap.size 2 1 v (listOf s).length (ivals (listOf s)) ∧ Below w.heap.size w w' := fun w => by
    unfold listOk listOf
    by_cases h : s = noneT
    · rw [if_pos h, if_pos h]; exact snums_none s h w
    · rw [if_neg h, if_neg h]
      by_cases h64 : (cutT s).length ≤ 64
      · exact snums_some s h hs _ rfl h64 w
      · rw [okL_long (by omega)]
        exact snums_long s h hs _ rfl (by omega) w
  have hK := hidI key
  generalize listOk s = b at hK
  generalize listOf s = l at hK
  clear key
  go_enter Tryd.func25, Tryd.ntmps25
  go_wp2_with (go_at_call 51; refine (hK.out _).mono ?_; rintro e w' ⟨v, rfl, ho, hB⟩; have b1 := hidI hB; have o1 := hidI ho; clear ho hB)
  go_ret2
  exact ⟨v, rfl, o1.out, b1.out⟩
theorem ireadlist_any (s : ByteArray) (hs : s.size ≤ 1048576) (w : World) (m : Int) (hm : w.cell? ⟨8, 0, none⟩ = some (.int .i64 m)) (hR : ReadOk w) :
    Calls Tryd.prog 26 #[.string s] w fun e w' => ∃ v, e = .returned (.tuple #[v, .bool (listOk s)]) ∧ w'.ownsRow w.heap.size 2 1 v (listOf s).length (ivals (listOf s)) ∧ Below w.heap.size w w' := by
  unfold listOk listOf
  by_cases h : s = noneT
  · rw [if_pos h, if_pos h]; exact ilist_none s h w
  · rw [if_neg h, if_neg h]
    exact ilist_some s h hs _ rfl w m hm hR
end Go.Proofs.YtogliigpoojfoaaDoor
