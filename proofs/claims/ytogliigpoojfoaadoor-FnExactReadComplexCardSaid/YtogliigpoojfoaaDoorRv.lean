/-
  Lists read from texts: the reference's walk.
-/
import Derived.Test.YtogliigpoojfoaaDoorRu
namespace Go.Proofs.YtogliigpoojfoaaDoor
open Go.RowKit

def numL (P : List ByteArray) : List Int := if okL P then P.map readN else []
theorem numL_no {P : List ByteArray} (h : okL P = false) : numL P = [] := by unfold numL; rw [h]; rfl
theorem numL_yes {P : List ByteArray} (h : okL P = true) : numL P = P.map readN := by unfold numL; rw [h]; rfl
theorem owns_base {w : World} {b b' e size n : Nat} {v : Value} {xs : List Value} (h : w.ownsRow b e size v n xs) (hb : b' ≤ b) : w.ownsRow b' e size v n xs := by
  refine ⟨h.1, ?_⟩
  rcases h.2 with hn | ⟨g, cap, cur, hv, hbg, rest⟩
  · exact .inl hn
  · exact .inr ⟨g, cap, cur, hv, Nat.le_trans hb hbg, rest⟩
theorem owns_len {w : World} {b e g n cap m : Nat} {l : List ByteArray} (h : w.ownsRow b e 1 (.slice (some ⟨g, 0, none⟩) n cap) m (strs l)) {k : Nat} (hk : k < l.length) : w.cell? ⟨g, k, none⟩ = some (.string l[k]) := by
  have := owns_cell h hk
  rwa [Nat.zero_add] at this
theorem owns_two {w w' : World} {b1 b2 e1 e2 s1 s2 g1 g2 n1 n2 c1 c2 m1 m2 : Nat} {x1 x2 : List Value} (h1 : w.ownsRow b1 e1 s1 (.slice (some ⟨g1, 0, none⟩) n1 c1) m1 x1) (h2 : w.ownsRow b2 e2 s2 (.slice (some ⟨g2, 0, none⟩) n2 c2) m2 x2) (hne : e1 ≠ e2)
    (hg : w.grownBy w' (Value.slice (some ⟨g2, 0, none⟩) n2 c2).ownBlock) : w'.ownsRow b1 e1 s1 (.slice (some ⟨g1, 0, none⟩) n1 c1) m1 x1 := by
  refine h1.kept hg (.inr ?_)
  intro c
  injection c with c
  exact owns_ne h1 h2 hne c
theorem snums_none (s : ByteArray) (h : s = noneT) (w : World) :
    Calls Tryd.prog 51 #[.string s] w fun e w' => ∃ v, e = .returned (.tuple #[v, .bool true]) ∧ w'.ownsRow w.heap.size 2 1 v 0 (ivals []) ∧ Below w.heap.size w w' := by
  have t : (s.toList == [110, 111, 110, 101]) = true := by have := same_text h; rwa [show noneT.toList = [110, 111, 110, 101] from ByteArray.toList_mk _] at this
  clear h
  have hB0 := fun w => run_build0 (P := Tryd.prog) w Tryd.underlying25 Tryd.some64
  go_enter Tryd.func51, Tryd.ntmps51
  go_wp2
  go_ret2
  exact ⟨_, rfl, inone w, (Below.refl _ _).alloc (Nat.le_refl _) _⟩
theorem scut_at (s : ByteArray) (hs : s.size ≤ 1048576) (n : Nat) (hn : (cutT s).length = n) (w : World) :
    Calls Tryd.prog 73 #[.string s, .int .u8 44] (w.alloc (.cells #[] 2)) fun e w' => ∃ g cap, e = .returned (.slice (some ⟨g, 0, none⟩) n cap) ∧ w'.ownsRow w.heap.size 9 1 (.slice (some ⟨g, 0, none⟩) n cap) n (strs (cutT s)) ∧
      w'.ownsRow w.heap.size 2 1 (.slice (some ⟨w.heap.size, 0, none⟩) 0 0) 0 (ivals []) ∧ Below w.heap.size w w' := by
  refine (scut_any s hs (w.alloc (.cells #[] 2))).mono ?_
  rintro e w' ⟨g, cap, n', hn', rfl, ho, hB⟩
  obtain rfl : n' = n := hn'.symm.trans hn
  have hsz := new_size w (.cells #[] 2)
  exact ⟨g, cap, rfl, owns_base ho (by omega), owns_below (inone w) hB, ((Below.refl _ _).alloc (Nat.le_refl _) _).trans (hB.mono (by omega))⟩
theorem snums_long (s : ByteArray) (h : s ≠ noneT) (hs : s.size ≤ 1048576) (n : Nat) (hn : (cutT s).length = n) (h64 : 64 < n) (w : World) :
    Calls Tryd.prog 51 #[.string s] w fun e w' => ∃ v, e = .returned (.tuple #[v, .bool false]) ∧ w'.ownsRow w.heap.size 2 1 v 0 (ivals []) ∧ Below w.heap.size w w' := by
  have t : (s.toList == [110, 111, 110, 101]) = false := by have := diff_text h; rwa [show noneT.toList = [110, 111, 110, 101] from ByteArray.toList_mk _] at this
  clear h
  have hB0 := fun w => run_build0 (P := Tryd.prog) w Tryd.underlying25 Tryd.some64
  have hCut := hidI (fun w => scut_at s hs n hn w)
  clear hn
  go_enter Tryd.func51, Tryd.ntmps51
  go_wp2_with (go_at_call 73; refine (hCut.out _).mono ?_; rintro e w1 ⟨g, cap, rfl, ho, hu, hB⟩; have b1 := hidI hB; clear ho hu hB)
  go_ret2
  exact ⟨_, rfl, World.ownsRow_nil _ _ _ _, b1.out⟩
set_option maxRecDepth 100000 in
set_option maxHeartbeats 4000000 in
theorem snums_some (s : ByteArray) (h : s ≠ noneT) (hs : s.size ≤ 1048576) (n : Nat) (hn : (cutT s).length = n) (h64 : n ≤ 64) (w : World) :
    Calls Tryd.prog 51 #[.string s] w fun e w' => ∃ v, e = .returned (.tuple #[v, .bool (okL (cutT s))]) ∧ w'.ownsRow w.heap.size 2 1 v (numL (cutT s)).length (ivals (numL (cutT s))) ∧ Below w.heap.size w w' := by
  have t : (s.toList == [110, 111, 110, 101]) = false := by have := diff_text h; rwa [show noneT.toList = [110, 111, 110, 101] from ByteArray.toList_mk _] at this
  clear h
  obtain ⟨i0, hi, hz0, hz1, hz2⟩ := info_parts Tryd.infoI
  have hI := hidI hi
  have hZ0 := hidI hz0
  have hZ1 := hidI hz1
  have hZ2 := hidI hz2
  clear hi hz0 hz1 hz2
  have hB0 := fun w => run_build0 (P := Tryd.prog) w Tryd.underlying25 Tryd.some64
  have hB1 := fun w c => run_build1 (P := Tryd.prog) (k := .i64) w Tryd.underlying25 Tryd.size64 Tryd.zero64 c
  have hCut := hidI (fun w => scut_at s hs n hn w)
  have hVal := hidI (fun s w => sval_any s w)
  have hN := hidI hn
  clear hn
  generalize cutT s = P at hCut hN
  go_enter Tryd.func51, Tryd.ntmps51
  go_wp2_with (go_at_call 73; refine (hCut.out _).mono ?_; rintro e w1 ⟨g, cap, rfl, ho, hu, hB⟩; have hO := hidI ho; have hU := hidI hu; have b1 := hidI hB; clear ho hu hB)
  go_loopw [4, 6] (fun v i wr => ∃ (W : World) (k g' vc : Nat), W = wr ∧ v = .slice (some ⟨g', 0, none⟩) k vc ∧ i = .int .i64 k ∧ k ≤ n ∧ Hid (W.ownsRow w.heap.size 9 1 (.slice (some ⟨g, 0, none⟩) n cap) n (strs P)) ∧ Hid (W.ownsRow w.heap.size 2 1 (.slice (some ⟨g', 0, none⟩) k vc) k (ivals ((P.take k).map readN))) ∧ Hid ((P.take k).all readB = true) ∧ Hid (Below w.heap.size w W)) (fun _ i _ => n - (intOf i).toNat)
  case atStart => exact ⟨_, 0, _, _, rfl, rfl, rfl, by omega, hO.out, hU.out, rfl, b1.out⟩
  case round =>
    obtain ⟨W, k, g', vc, rfl, rfl, rfl, hk, hpar, hout, hall, hbel⟩ := hrel
    clear hO hU b1
    by_cases hlt : k < n
    · have hlt' : k < P.length := by rw [hN.out]; exact hlt
      have hc := owns_len hpar.out hlt'
      have hNo := hidI (fun h => okL_no hlt' h)
      have hYes := hidI (fun h => all_push hlt' hall.out h)
      have hPush := hidI (nums_push hlt')
      generalize P[k] = x at hc hNo hYes hPush
      clear hlt'
      cases hv : readB x
      · have hF := hidI (hNo.out hv)
        have hV := hidI hv
        clear hv
        go_wp2_with (go_at_call 49; refine (hVal.out _ _).mono ?_; rintro e w2 ⟨rfl, hB⟩; rw [hV.out]; have b2 := hidI (hbel.out.trans (hB.mono hbel.out.size)); clear hB)
        go_ret2
        exact ⟨_, by rw [hF.out]; rfl, by rw [numL_no hF.out]; exact World.ownsRow_nil _ _ _ _, b2.out⟩
      · have hT := hidI (hYes.out hv)
        have hVx : ∀ w, Calls Tryd.prog 49 #[.string x] w fun e w' => e = .returned (.tuple #[.int .i64 (readN x), .bool true]) ∧ Below w.heap.size w w' := fun w => by
          have := hVal.out x w
          rw [hv] at this
          exact this
        generalize readN x = y at hPush hVx
        have hVy := hidI hVx
        clear hv hVx
        go_wp2_with (first | (go_at_call 49; refine (hVy.out _).mono ?_; rintro e w2 ⟨rfl, hB⟩; have b2 := hidI (hbel.out.trans (hB.mono hbel.out.size)); have op2 := hidI (owns_below hpar.out hB); have oo2 := hidI (owns_below hout.out hB); clear hB) | (refine wpList_append_own _ rfl _ _ 25 rfl w.heap.size 2 i0 (.int .i64 0) 1 8 Tryd.underlying25 hI.out hZ0.out hZ1.out hZ2.out rfl (by omega) _ k _ rfl (oo2.out.alloc _) ⟨w2.heap.size, 0, none⟩ 1 1 [.int .i64 y] rfl rfl (ione_cell _ _) (ione_flat _) ?c3 ?c4 (below_new b2.out _) ?c6))
        case c3 => unfold maxLen; omega
        case c4 => omega
        intro v' w3 h2 h3 _
        rw [ivals_push] at h2
        first | rw [hPush.out] at h2 | rw [← List.map_take, hPush.out] at h2
        have b3 := hidI ((b2.out.alloc b2.out.size (.cells #[.int .i64 y] 2)).grown h3 (below_new b2.out _) (owns_block oo2.out))
        have p3 := hidI (owns_two (op2.out.alloc _) (oo2.out.alloc _) (by decide) h3)
        obtain ⟨g2, vc', rfl, -, -, -⟩ := owns_shape h2 (Nat.succ_pos k)
        have o3 := hidI h2
        clear h2 h3
        go_wp2
        go_roundw
        case rel => exact ⟨w3, k + 1, g2, vc', rfl, rfl, by go_num, by omega, p3.out, o3.out, hT.out, b3.out⟩
        case measure => simp [intOf]; omega
    · have hk' : k = n := by omega
      subst hk'
      have hY := hidI (okL_yes (by rw [hN.out]; exact Nat.le_refl _) hall.out (by rw [hN.out]; exact h64))
      have ho := hout.out
      rw [List.take_of_length_le (by rw [hN.out]; exact Nat.le_refl _)] at ho
      have hOut := hidI ho
      clear ho hlt
      go_wp2
      go_ret2
      exact ⟨_, by rw [hY.out]; rfl, by rw [numL_yes hY.out, List.length_map, hN.out]; exact hOut.out, hbel.out⟩
end Go.Proofs.YtogliigpoojfoaaDoor
