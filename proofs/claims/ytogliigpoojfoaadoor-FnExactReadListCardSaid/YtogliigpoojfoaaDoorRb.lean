/-
  The law on lists read from texts, for any text, from what the row lists and from the world's shape.
-/
import Derived.Test.YtogliigpoojfoaaDoorRa
import Derived.Shelf.Vars
namespace Go.Proofs.YtogliigpoojfoaaDoor
open Go.RowKit

/-- The library's variable MaxLen holds some number. -/
theorem maxlen_cell {w : World} (h : w.ShapedOpen Tryd.prog) : ∃ m, w.cell? ⟨8, 0, none⟩ = some (.int .i64 m) :=
  cell_of_shapedOpen_int (P := Tryd.prog) (g := 8) (t := 3) (zero := #[.int .i64 0]) h (of_decide_eq_true (by kernel_rfl)) (by kernel_rfl) rfl (by kernel_rfl) (by kernel_rfl) Tryd.underlying3
theorem law_ReadList_long (s : ByteArray) (hs : 1048576 < s.size) (w : World) :
    Calls Tryd.prog 8 #[.string s] w fun e w' => e = .returned (.bool true) ∧ Below w.heap.size w w' := by
  go_enter Tryd.func8, Tryd.ntmps8
  go_wp2
  go_ret
  exact ⟨rfl, Below.refl _ _⟩
theorem law_ReadListAll (s : ByteArray) (_ : s.size ≤ maxLen) (w : World) (hL : laidMetH Tryd.prog Rows.fnExactReadListRow.laid w) (hsh : w.ShapedOpen Tryd.prog) :
    Calls Tryd.prog 8 #[.string s] w fun e w' => e = .returned (.bool true) ∧ Below w.heap.size w w' := by
  have hO : ReadOk w := by
    rw [MakeChecks.laidMetH_plain _ _ _ (by kernel_rfl)] at hL
    have h0 := laidMet.tail (laidMet.tail (show laidMet Tryd.prog (_ :: _ :: _ :: _ :: _ :: _ :: _ :: []) w from hL))
    have h1 := laidMet.tail (laidMet.tail h0)
    exact ⟨pow_head h0, err_head (by kernel_rfl) (laidMet.tail h1), err_head (by kernel_rfl) h1⟩
  obtain ⟨m, hm⟩ := maxlen_cell hsh
  by_cases hs : s.size ≤ 1048576
  · exact law_ReadList s hs w m hm hO
  · exact law_ReadList_long s (by omega) w
end Go.Proofs.YtogliigpoojfoaaDoor
