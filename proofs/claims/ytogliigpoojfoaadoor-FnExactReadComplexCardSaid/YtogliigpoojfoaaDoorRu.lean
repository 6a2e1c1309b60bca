/-
  Lists read from texts: the walks.
-/
import Derived.Test.YtogliigpoojfoaaDoorRt
namespace Go.Proofs.YtogliigpoojfoaaDoor
open Go.RowKit

/-- The numbers that are read, and whether all is well. -/
def okL (P : List ByteArray) : Bool := P.all readB && decide (P.length ≤ 64)
def listOk (s : ByteArray) : Bool := if s = noneT then true else okL (cutT s)
def listOf (s : ByteArray) : List Int := if s = noneT then [] else if okL (cutT s) then (cutT s).map readN else []
theorem owns_ne {w : World} {b1 b2 e1 e2 s1 s2 g1 g2 n1 n2 c1 c2 m1 m2 : Nat} {x1 x2 : List Value} (h1 : w.ownsRow b1 e1 s1 (.slice (some ⟨g1, 0, none⟩) n1 c1) m1 x1) (h2 : w.ownsRow b2 e2 s2 (.slice (some ⟨g2, 0, none⟩) n2 c2) m2 x2) (hne : e1 ≠ e2) : g1 ≠ g2 := by
  rintro rfl
  rcases h1.2 with ⟨h, -⟩ | ⟨a, c, cur, h, -, hg, -⟩
  · cases h
  · rcases h2.2 with ⟨h', -⟩ | ⟨a', c', cur', h', -, hg', -⟩
    · cases h'
    · cases h
      cases h'
      rw [hg] at hg'
      injection hg' with hg'
      injection hg' with _ e _
      exact hne e
theorem inone (w : World) : (w.alloc (.cells #[] 2)).ownsRow w.heap.size 2 1 (.slice (some ⟨w.heap.size, 0, none⟩) 0 0) 0 (ivals []) :=
  World.ownsRow_made w #[] 0 (Nat.le_refl _) (Nat.zero_le _) rfl
theorem ivals_push (P : List Int) (x : Int) : ivals P ++ [.int .i64 x] = ivals (P ++ [x]) := by unfold ivals; rw [List.map_append]; rfl
theorem ione_cell (W : World) (x : Int) : ∀ (j : Nat) u, ([.int .i64 x] : List Value)[j]? = some u → (W.alloc (.cells #[.int .i64 x] 2)).cell? ((⟨W.heap.size, 0, none⟩ : Addr).add j) = some u := by
  intro j u hj
  have hj0 : j = 0 := by
    rcases Nat.lt_or_ge j 1 with c | c
    · omega
    · rw [List.getElem?_eq_none (by simpa using c)] at hj; cases hj
  subst hj0
  simp at hj
  subst hj
  exact new_cell _ _ _
theorem ione_flat (x : Int) : ∀ u ∈ ([.int .i64 x] : List Value), u.oneCell' = true := by
  intro u hu
  simp at hu
  subst hu; rfl
theorem Tryd.size64 : (Tryd.prog.info? 2).map (·.size) = some 1 := by kernel_rfl
theorem Tryd.zero64 : ((Tryd.prog.info? 2).bind (·.zero)).isSome = true := by kernel_rfl
theorem Tryd.some64 : (Tryd.prog.info? 2).isSome = true := by kernel_rfl
theorem all_push {P : List ByteArray} {k : Nat} (hk : k < P.length) (h : (P.take k).all readB = true) (h2 : readB P[k] = true) : (P.take (k + 1)).all readB = true := by
  rw [List.take_succ_eq_append_getElem hk, List.all_append, h]
  simp [h2]
theorem nums_push {P : List ByteArray} {k : Nat} (hk : k < P.length) : (P.take k).map readN ++ [readN P[k]] = (P.take (k + 1)).map readN := by
  rw [List.take_succ_eq_append_getElem hk, List.map_append]; rfl
theorem okL_no {P : List ByteArray} {k : Nat} (hk : k < P.length) (h : readB P[k] = false) : okL P = false := by
  have : P.all readB = false := by
    rw [List.all_eq_false]; exact ⟨P[k], List.getElem_mem _, by rw [h]; decide⟩
  unfold okL; rw [this, Bool.false_and]
theorem okL_long {P : List ByteArray} (h : 64 < P.length) : okL P = false := by
  unfold okL; rw [decide_eq_false (by omega), Bool.and_false]
theorem okL_yes {P : List ByteArray} {k : Nat} (hk : P.length ≤ k) (h : (P.take k).all readB = true) (h2 : P.length ≤ 64) : okL P = true := by
  rw [List.take_of_length_le hk] at h
  unfold okL; rw [h, decide_eq_true h2]; rfl
theorem owns_cell {w : World} {base e g n cap m : Nat} {l : List ByteArray} (h : w.ownsRow base e 1 (.slice (some ⟨g, 0, none⟩) n cap) m (strs l)) {j : Nat} (hj : j < l.length) : w.cell? ⟨g, 0 + j, none⟩ = some (.string l[j]) := strs_cell h j l[j] (List.getElem?_eq_getElem hj)
end Go.Proofs.YtogliigpoojfoaaDoor
