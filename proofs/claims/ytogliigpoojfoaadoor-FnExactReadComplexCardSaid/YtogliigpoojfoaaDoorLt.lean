/-
  Contracts: copies and comparison of lists of int64.
-/
import Derived.Test.YtogliigpoojfoaaDoorIr
import Derived.OwnWalk
import Derived.Deep.QuietTactic
import Derived.BigQuiet
import Derived.Lib.Hide
namespace Go.Proofs.YtogliigpoojfoaaDoor
open Go.RowKit
theorem hidT {p : Prop} (h : p) : Hid p := h
theorem igetD {l : List Int} {k : Nat} (h : k < l.length) : l.getD k 0 = l[k] := by simp [List.getD, List.getElem?_eq_getElem h]
theorem below_drewT (w : World) (n : Nat) : Below w.heap.size w (w.drewN n) := by
  induction n with
  | zero => exact Below.refl _ _
  | succ n ih => exact ih.drew
theorem Tryd.infoI : (Tryd.prog.info? 2).map (fun i => (i.zero, i.size, i.bytes)) = some (some (.int .i64 0), 1, 8) := by kernel_rfl

def ivals (l : List Int) : List Value := l.map (Value.int .i64)
theorem iset_step (l : List Int) (k : Nat) (h : k < l.length) : ((ivals (l.take k)) ++ List.replicate (l.length - k) (Value.int .i64 0)).set k (.int .i64 (l.getD k 0)) = ivals (l.take (k + 1)) ++ List.replicate (l.length - (k + 1)) (Value.int .i64 0) := by
  have e : l.length - k = (l.length - (k + 1)) + 1 := by omega
  have hl : (ivals (l.take k)).length = k := by simp [ivals]; omega
  have h2 : ivals (l.take (k + 1)) = ivals (l.take k) ++ [.int .i64 (l.getD k 0)] := by
    unfold ivals
    rw [List.take_succ_eq_append_getElem h, List.map_append]
    congr 1
    simp [List.getD, List.getElem?_eq_getElem h]
  rw [e, List.replicate_succ, List.set_append_right _ _ (by omega), hl, Nat.sub_self, List.set_cons_zero, h2, List.append_assoc]; rfl
theorem IRow.of_owns {w : World} {B n : Nat} {l : List Int} (hB : B < w.heap.size) (h : w.ownsRow B 2 1 (.slice (some ⟨B, 0, none⟩) n n) n (ivals l)) : IRow .i64 w (some ⟨B, 0, none⟩) l := by
  intro i hi
  have hn : l.length = n := by simpa [ivals] using h.1
  refine ⟨B, 0, rfl, hB, ?_⟩
  have := h.cellAt i (by omega)
  rw [Nat.zero_add, this]
  simp [ivals, List.getD, List.getElem?_eq_getElem hi]
theorem iowns_lt {w : World} {B b e size n cap m : Nat} {xs : List Value} (h : w.ownsRow B e size (.slice (some ⟨b, 0, none⟩) n cap) m xs) : b < w.heap.size := by
  rcases h.2 with ⟨h', _⟩ | ⟨g', cap', cur, h', _, hg, _⟩
  · simp at h'
  · injection h' with e1 _ _
    injection e1 with e1
    injection e1 with e1 _ _
    subst e1
    exact (Array.getElem?_eq_some_iff.1 hg).1
/-- What holds at the head of the k-th round of a copy. -/
def ToRelI (w : World) (l : List Int) (k : Nat) (wr : World) : Prop :=
  wr.ownsRow w.heap.size 2 1 (.slice (some ⟨w.heap.size, 0, none⟩) l.length l.length) l.length (ivals (l.take k) ++ List.replicate (l.length - k) (Value.int .i64 0)) ∧ Below w.heap.size w wr ∧ w.heap.size < wr.heap.size
theorem ToRelI.src {w wr : World} {l : List Int} {j : Nat} {a : Option Addr} (hr : ToRelI w l j wr) (h : IRow .i64 w a l) (k : Nat) (hk : k < l.length) : ∃ b o, a = some ⟨b, o, none⟩ ∧ b < w.heap.size ∧ wr.cell? ⟨b, o + k, none⟩ = some (.int .i64 (l.getD k 0)) := by
  obtain ⟨b, o, ha, hb, hc⟩ := h k hk
  exact ⟨b, o, ha, hb, by rw [hr.2.1.cell (p := ⟨b, o + k, none⟩) hb]; exact hc⟩
theorem ToRelI.dst {w wr : World} {l : List Int} {j : Nat} (hr : ToRelI w l j wr) (k : Nat) (hk : k < l.length) : ∃ v, wr.cell? ⟨w.heap.size, k, none⟩ = some v := by
  have := hr.1.cellAt k (by omega)
  have hl := hr.1.1
  rw [this]
  exact ⟨_, List.getElem?_eq_getElem (by omega)⟩
theorem ToRelI.frozen {w wr : World} {l : List Int} {j : Nat} (hr : ToRelI w l j wr) (k : Nat) : wr.frozen? ⟨w.heap.size, k, none⟩ = false := hr.1.frozenAt k
theorem ToRelI.step {w wr : World} {l : List Int} (k : Nat) (hr : ToRelI w l k wr) (hk : k < l.length) : ToRelI w l (k + 1) (wr.setCell ⟨w.heap.size, k, none⟩ (.int .i64 (l.getD k 0))) := by
  have := hr.1.stored k (.int .i64 (l.getD k 0))
  rw [iset_step l k hk] at this
  refine ⟨this.1, hr.2.1.setCell (Nat.le_refl _) _, ?_⟩
  have := this.2.size
  have := hr.2.2
  omega
theorem ToRelI.done {w wr : World} {l : List Int} {k : Nat} (hr : ToRelI w l k wr) (hk : l.length ≤ k) : IRow .i64 wr (some ⟨w.heap.size, 0, none⟩) l ∧ Below w.heap.size w wr := by
  have h := hr.1
  rw [List.take_of_length_le hk, show l.length - k = 0 by omega, List.replicate_zero, List.append_nil] at h
  exact ⟨IRow.of_owns hr.2.2 h, hr.2.1⟩
set_option maxHeartbeats 400000 in
theorem toI_any (a : Option Addr) (cap : Nat) (l : List Int) (hl : l.length ≤ 1048576) (w : World) (h : IRow .i64 w a l) :
    Calls Tryd.prog 16 #[.slice a l.length cap] w fun e w' => e = .returned (.slice (some ⟨w.heap.size, 0, none⟩) l.length l.length) ∧ IRow .i64 w' (some ⟨w.heap.size, 0, none⟩) l ∧ Below w.heap.size w w' := by
  obtain ⟨i0, hi, hz0, hz1, hz2⟩ := info_parts Tryd.infoI
  have hB : Hid (∀ i, i < l.length → ∃ b o, a = some ⟨b, o, none⟩ ∧ b < w.heap.size ∧ w.cell? ⟨b, o + i, none⟩ = some (.int .i64 (l.getD i 0))) := h
  clear h
  go_enter Tryd.func16, Tryd.ntmps16
  go_wp2_with (refine wpList_make_full _ rfl _ _ 25 rfl w.heap.size 2 i0 (.int .i64 0) 1 Tryd.underlying25 hi hz0 hz1 _ _ _ _ l.length rfl rfl rfl rfl ?c1 ?c2 ?c3 ?_)
  case c1 => rw [hz2]; omega
  case c2 => unfold maxLen; omega
  case c3 => exact Nat.le_refl _
  · intro w1 hown hgrow
    have hz : List.replicate l.length (Value.int .i64 0) = ivals (l.take 0) ++ List.replicate (l.length - 0) (Value.int .i64 0) := by simp [ivals]
    rw [toList_madeCells_one, hz] at hown
    clear hz hi hz0 hz1 hz2
    have hsz : w.heap.size < w1.heap.size := iowns_lt hown
    have hb1 : Below w.heap.size w w1 := (Below.refl _ _).grown hgrow (Nat.le_refl _) (fun _ h => by cases h)
    clear hgrow
    have hH := hidT hown
    clear hown
    go_wp2
    go_loopw [4] (fun i wr => ∃ k : Nat, k ≤ l.length ∧ i = .int .i64 k ∧ ToRelI w l k wr) (fun i _ => l.length - (intOf i).toNat)
    case atStart => exact ⟨0, Nat.zero_le _, rfl, hH.out, hb1, hsz⟩
    case round =>
      obtain ⟨k, hk, rfl, hrel⟩ := hrel
      clear hH hb1 hsz
      by_cases hlt : k < l.length
      · obtain ⟨b, o, rfl, hb, hc⟩ := hrel.src hB.out k hlt
        have hcell := hrel.dst k hlt
        have hfro := hrel.frozen k
        have hnext := hidT (ToRelI.step k hrel hlt)
        rw [igetD hlt] at hnext
        have hR := hidT hrel
        clear hrel
        obtain ⟨old, hcell⟩ := hcell
        go_wp2
        go_roundw
        case rel => exact ⟨k + 1, by omega, by go_num, hnext.out⟩
        case measure => simp [intOf]; omega
      · have hk' : k = l.length := by omega
        have hend := hidT (hrel.done (by omega))
        clear hrel
        go_wp2
        go_ret
        exact ⟨rfl, hend.out⟩
set_option maxHeartbeats 400000 in
theorem eqI_any (a b : Option Addr) (ca cb : Nat) (l : List Int) (hl : l.length ≤ 1048576) (w : World) (ha : IRow .i64 w a l) (hb : IRow .i64 w b l) :
    Calls Tryd.prog 18 #[.slice a l.length ca, .slice b l.length cb] w fun e w' => e = .returned (.bool true) ∧ ∃ n, w' = w.drewN n := by
  have hA := hidT ha
  have hB := hidT hb
  clear ha hb
  go_enter Tryd.func18, Tryd.ntmps18
  go_wp2
  go_loopw [5] (fun i wr => ∃ k : Nat, k ≤ l.length ∧ i = .int .i64 k ∧ ∃ n, wr = w.drewN n) (fun i _ => l.length - (intOf i).toNat)
  case atStart => exact ⟨0, Nat.zero_le _, rfl, 0, rfl⟩
  case round =>
    obtain ⟨k, hk, rfl, n, rfl⟩ := hrel
    by_cases hlt : k < l.length
    · obtain ⟨b1, o1, rfl, _, hc1⟩ := hA.out k hlt
      obtain ⟨b2, o2, rfl, _, hc2⟩ := hB.out k hlt
      rw [igetD hlt] at hc1 hc2
      have hlt' : (k : Int) < (l.length : Int) := by omega
      go_wp2_with fail
      go_quiet (fail)
      go_wp2
      go_roundw
      case rel => exact ⟨k + 1, by omega, by go_num, _, rfl⟩
      case measure => simp [intOf]; omega
    · have hk' : k = l.length := by omega
      go_wp2
      go_ret
      exact ⟨rfl, n, rfl⟩
end Go.Proofs.YtogliigpoojfoaaDoor
