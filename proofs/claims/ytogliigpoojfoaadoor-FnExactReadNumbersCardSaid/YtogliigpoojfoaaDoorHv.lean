/-
  Lists of numbers read from texts: the program's walk, and both functions.
-/
import Derived.Test.YtogliigpoojfoaaDoorHu
namespace Go.Proofs.YtogliigpoojfoaaDoor
open Go.RowKit Fl

theorem inread_none (s : ByteArray) (h : s = noneT) (w : World) :
    Calls Tryd.prog 30 #[.string s] w fun e w' => ∃ v, e = .returned (.tuple #[v, .bool true]) ∧ w'.ownsRow w.heap.size 55 1 v 0 (vals []) ∧ Below w.heap.size w w' := by
  have hP := hidI (fun w => iparts_none s h w)
  clear h
  have hB0 := fun w => run_build0 (P := Tryd.prog) w Tryd.underlying31 Tryd.someF
  go_enter Tryd.func30, Tryd.ntmps30
  go_wp2_with (go_at_call 52; refine (hP.out _).mono ?_; rintro e w' ⟨rfl, rfl⟩)
  go_loop [5, 15] (fun v i => v = .slice (some ⟨w.heap.size, 0, none⟩) 0 0 ∧ i = .int .i64 0) (fun _ _ => 0)
  case atStart => exact ⟨rfl, rfl⟩
  case round =>
    obtain ⟨rfl, rfl⟩ := hrel
    go_wp2
    go_ret2
    exact ⟨_, rfl, fnone w, (Below.refl _ _).alloc (Nat.le_refl _) _⟩
set_option maxRecDepth 100000 in
set_option maxHeartbeats 4000000 in
theorem inread_some (s : ByteArray) (h : s ≠ noneT) (hs : s.size ≤ 1048576) (n : Nat) (hn : (cutT s).length = n) (w : World) (m : Int) (hm : w.cell? ⟨8, 0, none⟩ = some (.int .i64 m)) (hR : HexOk w) :
    Calls Tryd.prog 30 #[.string s] w fun e w' => ∃ v, e = .returned (.tuple #[v, .bool (okX (cutT s))]) ∧ w'.ownsRow w.heap.size 55 1 v (numX (cutT s)).length (vals (numX (cutT s))) ∧ Below w.heap.size w w' := by
  obtain ⟨i0, hi, hz0, hz1, hz2⟩ := info_parts Tryd.infoF
  have hI := hidI hi
  have hZ0 := hidI hz0
  have hZ1 := hidI hz1
  have hZ2 := hidI hz2
  clear hi hz0 hz1 hz2
  have hB0 := fun w => run_build0 (P := Tryd.prog) w Tryd.underlying31 Tryd.someF
  have hB1 := fun w c => run_buildF (P := Tryd.prog) w Tryd.underlying31 Tryd.sizeF Tryd.zeroF .f32 c
  have hCut := hidI (iparts_at s h hs n hn w m hm)
  have hVal := hidI (fun x (hx : x ∈ cutT s) w hr => ireadhex_any x (by have := cutT_size hx; omega) w hr)
  have hRk := hidI hR
  have hN := hidI hn
  have hn1 : 1 ≤ n := by have := cutT_count s; omega
  have hn2 : n ≤ 1048577 := by have := cutT_len s; omega
  clear hn h hm hR
  generalize cutT s = P at hCut hN hVal
  go_enter Tryd.func30, Tryd.ntmps30
  go_wp2_with (go_at_call 52; refine hCut.out.mono ?_; rintro e w1 ⟨rfl, ho, hB⟩; have hO := hidI ho; have b1 := hidI hB; clear ho hB)
  go_loopw [5, 15] (fun v i wr => ∃ (W : World) (k g' vc : Nat), W = wr ∧ v = .slice (some ⟨g', 0, none⟩) k vc ∧ i = .int .i64 k ∧ k ≤ n ∧ Hid (W.ownsRow w.heap.size 9 1 (.slice (some ⟨w.heap.size, 0, none⟩) n n) n (strs P)) ∧ Hid (W.ownsRow w.heap.size 55 1 (.slice (some ⟨g', 0, none⟩) k vc) k (vals ((P.take k).map readX))) ∧ Hid ((P.take k).all readXB = true) ∧ Hid (k = 0 ∨ n ≤ 256) ∧ Hid (Below w.heap.size w W)) (fun _ i _ => n - (intOf i).toNat)
  case atStart => exact ⟨_, 0, _, _, rfl, rfl, rfl, by omega, hO.out.alloc _, owns_base (fnone w1) b1.out.size, rfl, .inl rfl, b1.out.alloc b1.out.size _⟩
  case round =>
    obtain ⟨W, k, g', vc, rfl, rfl, rfl, hk, hpar, hout, hall, hsm, hbel⟩ := hrel
    clear hO b1
    by_cases hlt : k < n
    · have hlt' : k < P.length := by rw [hN.out]; exact hlt
      have hc := owns_len hpar.out hlt'
      have hNo := hidI (fun h => okX_no hlt' h)
      have hYes := hidI (fun h => xall_push hlt' hall.out h)
      have hPush := hidI (xnums_push hlt')
      have hV1 := hidI (hVal.out P[k] (List.getElem_mem _))
      generalize P[k] = x at hc hNo hYes hPush hV1
      clear hlt'
      cases hv : readXB x
      · have hF := hidI (hNo.out hv)
        have hV := hidI hv
        clear hv
        go_wp2_with (go_at_call 54; refine (hV1.out _ (hRk.out.stays hbel.out)).mono ?_; rintro e w2 ⟨N, rfl, -, hB⟩; rw [hV.out]; have b2 := hidI (hbel.out.trans (hB.mono hbel.out.size)); clear hB)
        go_ret2
        exact ⟨_, by rw [hF.out]; rfl, by rw [numX_no hF.out]; exact World.ownsRow_nil _ _ _ _, b2.out⟩
      · have hVx : ∀ w, HexOk w → Calls Tryd.prog 54 #[.string x] w fun e w' => e = .returned (.tuple #[.float .f32 (readX x), .bool true]) ∧ Below w.heap.size w w' := fun w hw => by
          refine (hV1.out w hw).mono ?_
          rintro e w' ⟨N, rfl, hN', hB⟩
          rw [hv, hN' hv]
          exact ⟨rfl, hB⟩
        by_cases h256 : 256 < n
        · have hF := hidI (okX_long (P := P) (by rw [hN.out]; exact h256))
          have hVy := hidI hVx
          clear hv hVx
          go_wp2_with (go_at_call 54; refine (hVy.out _ (hRk.out.stays hbel.out)).mono ?_; rintro e w2 ⟨rfl, hB⟩; have b2 := hidI (hbel.out.trans (hB.mono hbel.out.size)); clear hB)
          go_ret2
          exact ⟨_, by rw [hF.out]; rfl, by rw [numX_no hF.out]; exact World.ownsRow_nil _ _ _ _, b2.out⟩
        · have hT := hidI (hYes.out hv)
          generalize readX x = y at hPush hVx
          have hVy := hidI hVx
          clear hv hVx
          go_wp2_with (first | (go_at_call 54; refine (hVy.out _ (hRk.out.stays hbel.out)).mono ?_; rintro e w2 ⟨rfl, hB⟩; have b2 := hidI (hbel.out.trans (hB.mono hbel.out.size)); have op2 := hidI (owns_below hpar.out hB); have oo2 := hidI (owns_below hout.out hB); clear hB) | (refine wpList_append_own _ rfl _ _ 31 rfl w.heap.size 55 i0 (.float .f32 0) 1 4 Tryd.underlying31 hI.out hZ0.out hZ1.out hZ2.out rfl (by omega) _ k _ rfl (oo2.out.alloc _) ⟨w2.heap.size, 0, none⟩ 1 1 [.float .f32 y] rfl rfl (fone_cell _ _) (fone_flat _) ?c3 ?c4 (below_newH b2.out _) ?c6))
          case c3 => unfold maxLen; omega
          case c4 => omega
          intro v' w3 h2 h3 _
          rw [vals_push] at h2
          first | rw [hPush.out] at h2 | rw [← List.map_take, hPush.out] at h2
          have b3 := hidI ((b2.out.alloc b2.out.size (.cells #[.float .f32 y] 55)).grown h3 (below_newH b2.out _) (owns_block oo2.out))
          have p3 := hidI (owns_two (op2.out.alloc _) (oo2.out.alloc _) (by decide) h3)
          obtain ⟨g2, vc', rfl, -, -, -⟩ := owns_shape h2 (Nat.succ_pos k)
          have o3 := hidI h2
          clear h2 h3
          go_wp2
          go_roundw
          case rel => exact ⟨w3, k + 1, g2, vc', rfl, rfl, by go_num, by omega, p3.out, o3.out, hT.out, .inr (by omega), b3.out⟩
          case measure => simp [intOf]; omega
    · have hk' : k = n := by omega
      subst hk'
      have h256 : k ≤ 256 := by rcases hsm.out with c | c <;> omega
      have hY := hidI (okX_yes (by rw [hN.out]; exact Nat.le_refl _) hall.out (by rw [hN.out]; exact h256))
      have ho := hout.out
      rw [List.take_of_length_le (by rw [hN.out]; exact Nat.le_refl _)] at ho
      have hOut := hidI ho
      clear ho hlt
      go_wp2
      go_ret2
      exact ⟨_, by rw [hY.out]; rfl, by rw [numX_yes hY.out, List.length_map, hN.out]; exact hOut.out, hbel.out⟩
theorem ireadnum_any (s : ByteArray) (hs : s.size ≤ 1048576) (w : World) (m : Int) (hm : w.cell? ⟨8, 0, none⟩ = some (.int .i64 m)) (hR : HexOk w) :
    Calls Tryd.prog 30 #[.string s] w fun e w' => ∃ v, e = .returned (.tuple #[v, .bool (listOkX s)]) ∧ w'.ownsRow w.heap.size 55 1 v (wordsOf s).length (vals (wordsOf s)) ∧ Below w.heap.size w w' := by
  unfold listOkX wordsOf
  by_cases h : s = noneT
  · rw [if_pos h, if_pos h]; exact inread_none s h w
  · rw [if_neg h, if_neg h]
    exact inread_some s h hs _ rfl w m hm hR
theorem sreadnum_any (s : ByteArray) (hs : s.size ≤ 1048576) (w : World) :
    Calls Tryd.prog 29 #[.string s] w fun e w' => ∃ v, e = .returned (.tuple #[v, .bool (listOkX s)]) ∧ w'.ownsRow w.heap.size 55 1 v (wordsOf s).length (vals (wordsOf s)) ∧ Below w.heap.size w w' := by
  have key : ∀ w, Calls Tryd.prog 53 #[.string s] w fun e w' => ∃ v, e = .returned (.tuple #[v, .bool (listOkX s)]) ∧ w'.ownsRow w.heap.size 55 1 v (wordsOf s).length (vals (wordsOf s)) ∧ Below w.heap.size w w' := fun w => by
    unfold listOkX wordsOf
    by_cases h : s = noneT
    · rw [if_pos h, if_pos h]; exact snread_none s h w
    · rw [if_neg h, if_neg h]
      by_cases h256 : (cutT s).length ≤ 256
      · exact snread_some s h hs _ rfl h256 w
      · have hno := okX_long (P := cutT s) (by omega)
        rw [numX_no hno, hno]
        exact snread_long s h hs _ rfl (by omega) w
  have hK := hidI key
  generalize listOkX s = b at hK
  generalize wordsOf s = l at hK
  clear key
  go_enter Tryd.func29, Tryd.ntmps29
  go_wp2_with (go_at_call 53; refine (hK.out _).mono ?_; rintro e w' ⟨v, rfl, ho, hB⟩; have b1 := hidI hB; have o1 := hidI ho; clear ho hB)
  go_ret2
  exact ⟨v, rfl, o1.out, b1.out⟩
end Go.Proofs.YtogliigpoojfoaaDoor
