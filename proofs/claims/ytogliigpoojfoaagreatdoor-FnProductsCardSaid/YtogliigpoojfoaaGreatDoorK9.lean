/-
  Several texts of this claim in one.
  The reader of choices out of bytes, continued: picks and numbers.
-/
import Derived.Test.YtogliigpoojfoaaGreatDoorK5
import Derived.Test.YtogliigpoojfoaaGreatDoorK8
section
namespace Go.Proofs.YtogliigpoojfoaaGreatDoor
set_option maxRecDepth 100000
open Go.RowKit Fl

set_option maxHeartbeats 2000000 in
theorem pick_any {w0 : World} {g : Nat} {a : Option Addr} {l : List Int} {n cap B : Nat} (hb : Bytes w0 a l n) (hn : n ≤ 1048576) (hB : B ≤ 999990) (m : Int) (hm : 1 < m) (hm2 : m ≤ 65536) (w : World) (h : SrcAt w0 w g a n cap B) :
    Calls Tryz.prog 39 #[.pointer (some ⟨g, 0, none⟩), .int .i64 m] w fun e w' => ∃ x : Int, (0 ≤ x ∧ x < m) ∧ e = .returned (.int .i64 x) ∧ SrcAt w0 w' g a n cap (B + 2) ∧ w.grownBy w' (some g) := by
  have hN1 := hidI (fun w (h : SrcAt w0 w g a n cap B) => next_any (B := B) hb hn (by omega) w h)
  have hN2 := hidI (fun w (h : SrcAt w0 w g a n cap (B + 1)) => next_any (B := B + 1) hb hn (by omega) w h)
  have hS := hidI h
  clear h
  have hmm : ∀ y : Int, 0 ≤ y % m ∧ y % m < m := fun y => ⟨Int.emod_nonneg y (by omega), Int.emod_lt_of_pos y (by omega)⟩
  have hM := hidI hmm
  clear hmm
  by_cases hg : 200 < m
  · go_enter Tryz.func39, Tryz.ntmps39
    go_wp2_with (first | (go_at_call 70; refine (hN1.out _ hS.out).mono ?_; rintro e w1 ⟨x, ⟨hx0, hx1⟩, rfl, hs, hgr⟩; have hS1 := hidI hs; have hG1 := hidI hgr; clear hs hgr hS) | (go_at_call 70; refine (hN2.out _ hS1.out).mono ?_; rintro e w2 ⟨y, ⟨hy0, hy1⟩, rfl, hs, hgr⟩; have hS2 := hidI hs; have hG2 := hidI (grown_trans hG1.out hgr); clear hs hgr hS1))
    go_ret
    exact ⟨_, hM.out _, rfl, hS2.out, hG2.out⟩
  · go_enter Tryz.func39, Tryz.ntmps39
    go_wp2_with (first | (go_at_call 70; refine (hN1.out _ hS.out).mono ?_; rintro e w1 ⟨x, ⟨hx0, hx1⟩, rfl, hs, hgr⟩; have hS1 := hidI hs; have hG1 := hidI hgr; clear hs hgr hS))
    go_ret
    exact ⟨_, hM.out _, rfl, hS1.out.more (by omega), hG1.out⟩
theorem one_any {w0 : World} {g : Nat} {a : Option Addr} {l : List Int} {n cap B : Nat} (hb : Bytes w0 a l n) (hn : n ≤ 1048576) (hB : B ≤ 999990) (m : Int) (hm : 1 < m) (hm2 : m ≤ 65536) (w : World) (h : SrcAt w0 w g a n cap B) :
    Calls Tryz.prog 50 #[.pointer (some ⟨g, 0, none⟩), .int .i64 m] w fun e w' => ∃ b : Bool, e = .returned (.bool b) ∧ SrcAt w0 w' g a n cap (B + 2) ∧ w.grownBy w' (some g) := by
  have hP := hidI (fun w (h : SrcAt w0 w g a n cap B) => pick_any hb hn hB m hm hm2 w h)
  have hS := hidI h
  clear h
  go_enter Tryz.func50, Tryz.ntmps50
  go_wp2_with (go_at_call 39; refine (hP.out _ hS.out).mono ?_; rintro e w1 ⟨x, ⟨hx0, hx1⟩, rfl, hs, hgr⟩; have hS1 := hidI hs; have hG1 := hidI hgr; clear hs hgr hS)
  go_ret
  exact ⟨_, rfl, hS1.out, hG1.out⟩
theorem new_src {w : World} {a : Option Addr} {n cap : Nat} (T : TypeId) : SrcAt w (w.alloc (.cells #[.slice a n cap, .int .i64 0, .int .u64 0] T)) w.heap.size a n cap 0 := by
  have hs := MapKept.heap_alloc w (.cells #[.slice a n cap, .int .i64 0, .int .u64 0] T)
  have hc : ∀ i, (w.alloc (.cells #[.slice a n cap, .int .i64 0, .int .u64 0] T)).cell? ⟨w.heap.size, i, none⟩ = (#[.slice a n cap, .int .i64 0, .int .u64 0] : Array Value)[i]? := fun i => by
    unfold World.cell?; rw [hs.1]; rfl
  exact ⟨(Below.refl _ _).alloc (Nat.le_refl _) _, Nat.le_refl _, hc 0, ⟨0, Nat.le_refl _, hc 1⟩, ⟨0, by omega, by omega, hc 2⟩, fun k => World.frozen?_alloc_new _ _ _ _⟩
theorem from_any (a : Option Addr) (n cap : Nat) (w : World) :
    Calls Tryz.prog 38 #[.slice a n cap] w fun e w' => e = .returned (.pointer (some ⟨w.heap.size, 0, none⟩)) ∧ SrcAt w w' w.heap.size a n cap 0 ∧ w.heap.size < w'.heap.size := by
  go_enter Tryz.func38, Tryz.ntmps38
  go_wp2
  go_ret
  exact ⟨rfl, new_src _, new_size w _⟩
theorem from_int (z : Int) (h0 : 0 ≤ z) (h1 : z < 4294967296) (w : World) :
    Calls Tryz.prog 51 #[.int .i64 z] w fun e w' => ∃ r, (Lit.float .f32 r).wf = true ∧ e = .returned (.float .f32 r) ∧ w' = w := by
  obtain ⟨m, rfl⟩ : ∃ m : Nat, z = m := ⟨z.toNat, by omega⟩
  refine (lfrom_any m (by omega) w).mono ?_
  rintro e w' ⟨rfl, rfl⟩
  exact ⟨m, wf_of_lt _ _ (show m < 4294967296 by omega), rfl, rfl⟩
/-- A row of numbers that can be words, apart from the reader. -/
def Words (w : World) (g : Nat) (a : Option Addr) (n : Nat) : Prop := ∀ i, i < n → ∃ b o x, a = some ⟨b, o, none⟩ ∧ b ≠ g ∧ w.cell? ⟨b, o + i, none⟩ = some (.int .i64 x) ∧ 0 ≤ x ∧ x < 4294967296
theorem among_any {w0 : World} {g : Nat} {a : Option Addr} {l : List Int} {n cap B : Nat} (hb : Bytes w0 a l n) (hn : n ≤ 1048576) (hB : B ≤ 999990) (aa : Option Addr) (m c : Nat) (hm : 1 < m) (hm2 : m ≤ 100) (w : World) (h : SrcAt w0 w g a n cap B) (hw : Words w g aa m) :
    Calls Tryz.prog 80 #[.pointer (some ⟨g, 0, none⟩), .slice aa m c] w fun e w' => ∃ x : Int, (0 ≤ x ∧ x < 4294967296) ∧ e = .returned (.int .i64 x) ∧ SrcAt w0 w' g a n cap (B + 2) ∧ w.grownBy w' (some g) := by
  have hP := hidI (fun w (h : SrcAt w0 w g a n cap B) => pick_any hb hn hB (m : Int) (by omega) (by omega) w h)
  have hS := hidI h
  have hW := hidI hw
  clear h hw
  go_enter Tryz.func80, Tryz.ntmps80
  go_wp2_with (go_at_call 39; refine (hP.out _ hS.out).mono ?_; rintro e w1 ⟨x, ⟨hx0, hx1⟩, rfl, hs, hgr⟩; have hS1 := hidI hs; have hG1 := hidI hgr; clear hs hgr hS; obtain ⟨q, rfl⟩ : ∃ q : Nat, x = q := ⟨x.toNat, by omega⟩; obtain ⟨b, o, y, rfl, hbg, hc, hy0, hy1⟩ := hW.out q (by omega); have hc1 := hG1.out.cell hc (by simpa using hbg))
  go_ret
  exact ⟨_, ⟨hy0, hy1⟩, rfl, hS1.out, hG1.out⟩
end Go.Proofs.YtogliigpoojfoaaGreatDoor
end
