/-
  Contracts of the functions on lists of numbers.
-/
import Derived.Test.YtogliigpoojfoaaDoorSg
import Derived.Test.YtogliigpoojfoaaDoorFrow
import Derived.Test.YtogliigpoojfoaaDoorFs
import Derived.OwnWalk
namespace Go.Proofs.YtogliigpoojfoaaDoor
open Go.RowKit Fl

theorem below_drewN' (w : World) (n : Nat) : Below w.heap.size w (w.drewN n) := by
  induction n with
  | zero => exact Below.refl _ _
  | succ n ih => exact ih.drew

theorem Tryd.infoF : (Tryd.prog.info? 55).map (fun i => (i.zero, i.size, i.bytes)) = some (some (.float .f32 0), 1, 4) := by kernel_rfl

def vals (l : List Nat) : List Value := l.map (Value.float .f32)
theorem set_step (l : List Nat) (k : Nat) (h : k < l.length) : ((vals (l.take k)) ++ List.replicate (l.length - k) (Value.float .f32 0)).set k (.float .f32 (l.getD k 0)) = vals (l.take (k + 1)) ++ List.replicate (l.length - (k + 1)) (Value.float .f32 0) := by
  have e : l.length - k = (l.length - (k + 1)) + 1 := by omega
  have hl : (vals (l.take k)).length = k := by simp [vals]; omega
  have h2 : vals (l.take (k + 1)) = vals (l.take k) ++ [.float .f32 (l.getD k 0)] := by
    unfold vals
    rw [List.take_succ_eq_append_getElem h, List.map_append]
    congr 1
    simp [List.getD, List.getElem?_eq_getElem h]
  rw [e, List.replicate_succ, List.set_append_right _ _ (by omega), hl, Nat.sub_self, List.set_cons_zero, h2, List.append_assoc]; rfl
theorem FRow.of_owns {w : World} {B n : Nat} {l : List Nat} (hB : B < w.heap.size) (h : w.ownsRow B 55 1 (.slice (some ⟨B, 0, none⟩) n n) n (vals l)) : FRow w (some ⟨B, 0, none⟩) l := by
  intro i hi
  have hn : l.length = n := by simpa [vals] using h.1
  refine ⟨B, 0, rfl, hB, ?_⟩
  have := h.cellAt i (by omega)
  rw [Nat.zero_add, this]
  simp [vals, List.getD, List.getElem?_eq_getElem hi]

theorem owns_lt {w : World} {B b e size n cap m : Nat} {xs : List Value} (h : w.ownsRow B e size (.slice (some ⟨b, 0, none⟩) n cap) m xs) : b < w.heap.size := by
  rcases h.2 with ⟨h', _⟩ | ⟨g', cap', cur, h', _, hg, _⟩
  · simp at h'
  · injection h' with e1 _ _
    injection e1 with e1
    injection e1 with e1 _ _
    subst e1
    exact (Array.getElem?_eq_some_iff.1 hg).1
theorem Lib_hid {p : Prop} (h : p) : Hid p := h
/-- What holds at the head of the k-th round of a copy. -/
def ToRel (w : World) (l : List Nat) (k : Nat) (wr : World) : Prop :=
  wr.ownsRow w.heap.size 55 1 (.slice (some ⟨w.heap.size, 0, none⟩) l.length l.length) l.length (vals (l.take k) ++ List.replicate (l.length - k) (Value.float .f32 0)) ∧ Below w.heap.size w wr ∧ w.heap.size < wr.heap.size
theorem ToRel.src {w wr : World} {l : List Nat} {j : Nat} {a : Option Addr} (hr : ToRel w l j wr) (h : FRow w a l) (k : Nat) (hk : k < l.length) : ∃ b o, a = some ⟨b, o, none⟩ ∧ b < w.heap.size ∧ wr.cell? ⟨b, o + k, none⟩ = some (.float .f32 (l.getD k 0)) := by
  obtain ⟨b, o, ha, hb, hc⟩ := h k hk
  exact ⟨b, o, ha, hb, by rw [hr.2.1.cell (p := ⟨b, o + k, none⟩) hb]; exact hc⟩
theorem ToRel.dst {w wr : World} {l : List Nat} {j : Nat} (hr : ToRel w l j wr) (k : Nat) (hk : k < l.length) : ∃ v, wr.cell? ⟨w.heap.size, k, none⟩ = some v := by
  have := hr.1.cellAt k (by omega)
  have hl := hr.1.1
  rw [this]
  exact ⟨_, List.getElem?_eq_getElem (by omega)⟩
theorem ToRel.frozen {w wr : World} {l : List Nat} {j : Nat} (hr : ToRel w l j wr) (k : Nat) : wr.frozen? ⟨w.heap.size, k, none⟩ = false := hr.1.frozenAt k
theorem ToRel.step {w wr : World} {l : List Nat} (k : Nat) (hr : ToRel w l k wr) (hk : k < l.length) : ToRel w l (k + 1) (wr.setCell ⟨w.heap.size, k, none⟩ (.float .f32 (l.getD k 0))) := by
  have := hr.1.stored k (.float .f32 (l.getD k 0))
  rw [set_step l k hk] at this
  refine ⟨this.1, hr.2.1.setCell (Nat.le_refl _) _, ?_⟩
  have := this.2.size
  have := hr.2.2
  omega
theorem ToRel.done {w wr : World} {l : List Nat} {k : Nat} (hr : ToRel w l k wr) (hk : l.length ≤ k) : FRow wr (some ⟨w.heap.size, 0, none⟩) l ∧ Below w.heap.size w wr := by
  have h := hr.1
  rw [List.take_of_length_le hk, show l.length - k = 0 by omega, List.replicate_zero, List.append_nil] at h
  exact ⟨FRow.of_owns hr.2.2 h, hr.2.1⟩
set_option maxHeartbeats 400000 in
theorem toF_any (a : Option Addr) (cap : Nat) (l : List Nat) (hl : l.length ≤ 1048576) (w : World) (h : FRow w a l) :
    Calls Tryd.prog 20 #[.slice a l.length cap] w fun e w' => e = .returned (.slice (some ⟨w.heap.size, 0, none⟩) l.length l.length) ∧ FRow w' (some ⟨w.heap.size, 0, none⟩) l ∧ Below w.heap.size w w' := by
  obtain ⟨i0, hi, hz0, hz1, hz2⟩ := info_parts Tryd.infoF
  have hB : Hid (∀ i, i < l.length → ∃ b o, a = some ⟨b, o, none⟩ ∧ b < w.heap.size ∧ w.cell? ⟨b, o + i, none⟩ = some (.float .f32 (l.getD i 0))) := h
  clear h
  go_enter Tryd.func20, Tryd.ntmps20
  go_wp2_with (refine wpList_make_full _ rfl _ _ 31 rfl w.heap.size 55 i0 (.float .f32 0) 1 Tryd.underlying31 hi hz0 hz1 _ _ _ _ l.length rfl rfl rfl rfl ?c1 ?c2 ?c3 ?_)
  case c1 => rw [hz2]; omega
  case c2 => unfold maxLen; omega
  case c3 => exact Nat.le_refl _
  · intro w1 hown hgrow
    have hz : List.replicate l.length (Value.float .f32 0) = vals (l.take 0) ++ List.replicate (l.length - 0) (Value.float .f32 0) := by simp [vals]
    rw [toList_madeCells_one, hz] at hown
    clear hz hi hz0 hz1 hz2
    have hsz : w.heap.size < w1.heap.size := owns_lt hown
    have hb1 : Below w.heap.size w w1 := (Below.refl _ _).grown hgrow (Nat.le_refl _) (fun _ h => by cases h)
    clear hgrow
    have hH := Lib_hid hown
    clear hown
    go_wp2
    go_loopw [4] (fun i wr => ∃ k : Nat, k ≤ l.length ∧ i = .int .i64 k ∧ ToRel w l k wr) (fun i _ => l.length - (intOf i).toNat)
    case atStart => exact ⟨0, Nat.zero_le _, rfl, hH.out, hb1, hsz⟩
    case round =>
      obtain ⟨k, hk, rfl, hrel⟩ := hrel
      clear hH hb1 hsz
      by_cases hlt : k < l.length
      · obtain ⟨b, o, rfl, hb, hc⟩ := hrel.src hB.out k hlt
        have hcell := hrel.dst k hlt
        have hfro := hrel.frozen k
        have hnext := Lib_hid (ToRel.step k hrel hlt)
        rw [getD_get hlt] at hnext
        have hR := Lib_hid hrel
        clear hrel
        obtain ⟨old, hcell⟩ := hcell
        go_wp2
        go_roundw
        case rel => exact ⟨k + 1, by omega, by go_num, hnext.out⟩
        case measure => simp [intOf]; omega
      · have hk' : k = l.length := by omega
        have hend := Lib_hid (hrel.done (by omega))
        clear hrel
        go_wp2
        go_ret
        exact ⟨rfl, hend.out⟩

set_option maxRecDepth 100000 in
set_option maxHeartbeats 400000 in
theorem eqF_any (a b : Option Addr) (ca cb : Nat) (l : List Nat) (hl : l.length ≤ 1048576) (hw : AllWf l) (w : World) (ha : FRow w a l) (hb : FRow w b l) :
    Calls Tryd.prog 22 #[.slice a l.length ca, .slice b l.length cb] w fun e w' => e = .returned (.bool true) ∧ ∃ n, w' = w.drewN n := by
  have hA := Lib_hid ha
  have hB := Lib_hid hb
  have hW := Lib_hid hw
  clear ha hb hw
  go_enter Tryd.func22, Tryd.ntmps22
  go_wp2
  go_loopw [5] (fun i wr => ∃ k : Nat, k ≤ l.length ∧ i = .int .i64 k ∧ ∃ n, wr = w.drewN n) (fun i _ => l.length - (intOf i).toNat)
  case atStart => exact ⟨0, Nat.zero_le _, rfl, 0, rfl⟩
  case round =>
    obtain ⟨k, hk, rfl, n, rfl⟩ := hrel
    by_cases hlt : k < l.length
    · obtain ⟨b1, o1, rfl, _, hc1⟩ := hA.out k hlt
      obtain ⟨b2, o2, rfl, _, hc2⟩ := hB.out k hlt
      have hwf := hW.out k hlt
      rw [getD_get hlt] at hwf hc1 hc2
      go_wp2_with fail
      refine wp_region_held (S := fun w' => w'.cell? ⟨b1, o1 + k, none⟩ = some (.float .f32 l[k]) ∧ w'.cell? ⟨b2, o2 + k, none⟩ = some (.float .f32 l[k])) (by kernel_rfl) ?_
      refine wpAnyH_take (i := 0) (v := .slice (some ⟨b1, o1, none⟩) l.length ca) rfl (by kernel_rfl) (by kernel_rfl) (by kernel_rfl) (fun _ _ _ h => h) (.inl ⟨rfl, fun w' hw' => ?_⟩) ⟨hc1, hc2⟩ ?_
      · rfl
      refine wpAnyH_take (i := 1) (v := .int .i64 k) rfl (by kernel_rfl) (by kernel_rfl) (by kernel_rfl) (fun _ _ _ h => h) (.inl ⟨rfl, fun w' hw' => ?_⟩) ⟨hc1, hc2⟩ ?_
      · rfl
      refine wpAnyH_take (i := 2) (v := .pointer (some ⟨b1, o1 + k, none⟩)) rfl (by kernel_rfl) (by kernel_rfl) (by kernel_rfl) (fun _ _ _ h => h) (.inl ⟨rfl, fun w' hw' => ?_⟩) ⟨hc1, hc2⟩ ?_
      · go_simp
      refine wpAnyH_take (i := 3) (v := .float .f32 l[k]) rfl (by kernel_rfl) (by kernel_rfl) (by kernel_rfl) (fun _ _ _ h => h) (.inl ⟨rfl, fun w' hw' => ?_⟩) ⟨hc1, hc2⟩ ?_
      · have g := hw'.1; go_simp
      refine wpAnyH_take (i := 5) (v := .slice (some ⟨b2, o2, none⟩) l.length cb) rfl (by kernel_rfl) (by kernel_rfl) (by kernel_rfl) (fun _ _ _ h => h) (.inl ⟨rfl, fun w' hw' => ?_⟩) ⟨hc1, hc2⟩ ?_
      · rfl
      refine wpAnyH_take (i := 6) (v := .int .i64 k) rfl (by kernel_rfl) (by kernel_rfl) (by kernel_rfl) (fun _ _ _ h => h) (.inl ⟨rfl, fun w' hw' => ?_⟩) ⟨hc1, hc2⟩ ?_
      · rfl
      refine wpAnyH_take (i := 7) (v := .pointer (some ⟨b2, o2 + k, none⟩)) rfl (by kernel_rfl) (by kernel_rfl) (by kernel_rfl) (fun _ _ _ h => h) (.inl ⟨rfl, fun w' hw' => ?_⟩) ⟨hc1, hc2⟩ ?_
      · go_simp
      refine wpAnyH_take (i := 8) (v := .float .f32 l[k]) rfl (by kernel_rfl) (by kernel_rfl) (by kernel_rfl) (fun _ _ _ h => h) (.inl ⟨rfl, fun w' hw' => ?_⟩) ⟨hc1, hc2⟩ ?_
      · have g := hw'.2; go_simp
      go_simp
      refine wpAnyH_all (rs := [4, 9]) (by kernel_rfl) (by decide) (fun i hi => ?_)
      simp only [List.mem_cons, List.not_mem_nil, or_false] at hi
      rcases hi with rfl | rfl
      · refine wpOp_of_wp rfl rfl ?_
        refine wp_fconv _ _ _ rfl .f32 .f64 _ rfl hwf (by rw [Tryd.underlying55]; rfl) Tryd.underlying58 ?_
        intro x1 n1 hx1
        refine ⟨⟨hc1, hc2⟩, ?_⟩
        go_simp
        refine wpAnyH_all (rs := [9]) (by kernel_rfl) (by decide) (fun i hi => ?_)
        simp only [List.mem_cons, List.not_mem_nil, or_false] at hi
        subst hi
        refine wpOp_of_wp rfl rfl ?_
        refine wp_fconv _ _ _ rfl .f32 .f64 _ rfl hwf (by rw [Tryd.underlying55]; rfl) Tryd.underlying58 ?_
        intro x2 n2 hx2
        refine ⟨⟨hc1, hc2⟩, ?_⟩
        go_simp
        refine wpAnyH_all (rs := [10]) (by kernel_rfl) (by decide) (fun i hi => ?_)
        simp only [List.mem_cons, List.not_mem_nil, or_false] at hi
        subst hi
        refine wpOp_of_wp rfl rfl ?_
        have hs := Lib_hid (wide_same hx1 hx2)
        refine wp_call (f := 48) (args := #[.float .f64 x1, .float .f64 x2]) (by go_simp) ?_
        refine (same_yes _ _ hs.out _).mono ?_
        rintro e w' ⟨rfl, n3, rfl⟩
        refine ⟨_, rfl, ⟨hc1, hc2⟩, ?_⟩
        go_simp
        refine wpAnyH_all (rs := [11]) (by kernel_rfl) (by decide) (fun i hi => ?_)
        simp only [List.mem_cons, List.not_mem_nil, or_false] at hi
        subst hi
        refine YieldsIf.wpOp rfl (v := .bool false) (S := fun _ => True) (.inl ⟨rfl, fun w' _ => rfl⟩) trivial ⟨⟨hc1, hc2⟩, ?_⟩
        go_simp
        refine wpAnyH_done (by kernel_rfl) ?_ _
        go_wp2
        go_roundw
        case rel => exact ⟨k + 1, by omega, by go_num, _, drawn_once w n _⟩
        case measure => simp [intOf]; omega
      · refine wpOp_of_wp rfl rfl ?_
        refine wp_fconv _ _ _ rfl .f32 .f64 _ rfl hwf (by rw [Tryd.underlying55]; rfl) Tryd.underlying58 ?_
        intro x1 n1 hx1
        refine ⟨⟨hc1, hc2⟩, ?_⟩
        go_simp
        refine wpAnyH_all (rs := [4]) (by kernel_rfl) (by decide) (fun i hi => ?_)
        simp only [List.mem_cons, List.not_mem_nil, or_false] at hi
        subst hi
        refine wpOp_of_wp rfl rfl ?_
        refine wp_fconv _ _ _ rfl .f32 .f64 _ rfl hwf (by rw [Tryd.underlying55]; rfl) Tryd.underlying58 ?_
        intro x2 n2 hx2
        refine ⟨⟨hc1, hc2⟩, ?_⟩
        go_simp
        refine wpAnyH_all (rs := [10]) (by kernel_rfl) (by decide) (fun i hi => ?_)
        simp only [List.mem_cons, List.not_mem_nil, or_false] at hi
        subst hi
        refine wpOp_of_wp rfl rfl ?_
        have hs := Lib_hid (wide_same hx2 hx1)
        refine wp_call (f := 48) (args := #[.float .f64 x2, .float .f64 x1]) (by go_simp) ?_
        refine (same_yes _ _ hs.out _).mono ?_
        rintro e w' ⟨rfl, n3, rfl⟩
        refine ⟨_, rfl, ⟨hc1, hc2⟩, ?_⟩
        go_simp
        refine wpAnyH_all (rs := [11]) (by kernel_rfl) (by decide) (fun i hi => ?_)
        simp only [List.mem_cons, List.not_mem_nil, or_false] at hi
        subst hi
        refine YieldsIf.wpOp rfl (v := .bool false) (S := fun _ => True) (.inl ⟨rfl, fun w' _ => rfl⟩) trivial ⟨⟨hc1, hc2⟩, ?_⟩
        go_simp
        refine wpAnyH_done (by kernel_rfl) ?_ _
        go_wp2
        go_roundw
        case rel => exact ⟨k + 1, by omega, by go_num, _, drawn_once w n _⟩
        case measure => simp [intOf]; omega
    · go_wp2
      go_ret
      exact ⟨rfl, _, rfl⟩
end Go.Proofs.YtogliigpoojfoaaDoor
