/-
  Lists read from texts: results as rows (helpers of the law).
-/
import Derived.Test.YtogliigpoojfoaaDoorRy
namespace Go.Proofs.YtogliigpoojfoaaDoor
open Go.RowKit

theorem res_row {w : World} {b n : Nat} {v : Value} {l : List Int} (hn : l.length = n) (h : w.ownsRow b 2 1 v n (ivals l)) : ∃ a cap, v = .slice a n cap ∧ IRow .i64 w a l := by
  rcases h.2 with ⟨rfl, h0⟩ | ⟨g, cap, cur, rfl, hb, hg, rest⟩
  · subst h0
    have : l = [] := List.eq_nil_of_length_eq_zero hn
    subst this
    exact ⟨none, 0, rfl, irow_nil _ _ _⟩
  · refine ⟨_, cap, rfl, fun i hi => ⟨g, 0, rfl, (Array.getElem?_eq_some_iff.1 hg).1, ?_⟩⟩
    have := h.cellAt i (by omega)
    rw [Nat.zero_add, this]
    simp [ivals, List.getD, List.getElem?_eq_getElem hi]
theorem mark_res (a : Option Addr) (cap n b : Nat) (l : List Int) (hn : l.length = n) (hn2 : n ≤ 1048576) (w : World) (h : w.ownsRow b 2 1 (.slice a n cap) n (ivals l)) :
    Calls Tryd.prog 27 #[.slice a n cap, .int .i64 1] w fun e w' => e = .returned (.int .i64 ((n : Int) + 1)) ∧ w'.ownsRow b 2 1 (.slice a n cap) n (ivals (upFrom 1 n)) ∧ Below b w w' := by
  have h' := h
  rcases h'.2 with ⟨hv, h0⟩ | ⟨g, c, cur, hv, hb, -⟩
  · subst h0
    cases hv
    refine (mark_nil w).mono ?_
    rintro e w' ⟨rfl, rfl⟩
    exact ⟨rfl, World.ownsRow_nil _ _ _ _, Below.refl _ _⟩
  · cases hv
    exact mark_any b g cap n l hn hn2 w h hb
theorem listOf_len (s : ByteArray) : (listOf s).length ≤ 64 := by
  unfold listOf
  split
  · simp
  · split
    · next h =>
      unfold okL at h
      rw [Bool.and_eq_true, decide_eq_true_iff] at h
      rw [List.length_map]; exact h.2
    · simp
end Go.Proofs.YtogliigpoojfoaaDoor
