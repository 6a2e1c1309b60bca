/-
  Lists of complex numbers read from texts: the walks of both functions.
-/
import Derived.Test.YtogliigpoojfoaaGreatDoorCr
import Derived.Deep.RegionWith
namespace Go.Proofs.YtogliigpoojfoaaGreatDoor
set_option maxRecDepth 100000
open Go.RowKit Fl

theorem icread_none (s : ByteArray) (h : s = noneT) (w : World) :
    Calls Tryz.prog 18 #[.string s] w fun e w' => ∃ v, e = .returned (.tuple #[v, .bool true]) ∧ w'.ownsRow w.heap.size 24 1 v 0 (cvals []) ∧ Below w.heap.size w w' := by
  have hP := hidI (fun w => iparts_none s h w)
  clear h
  have hB0 := fun w => run_build0 (P := Tryz.prog) w Tryz.underlying25 Tryz.someC
  go_enter Tryz.func18, Tryz.ntmps18
  go_wp2_with (go_at_call 48; refine (hP.out _).mono ?_; rintro e w' ⟨rfl, rfl⟩)
  go_loop [5, 17] (fun v i => v = .slice (some ⟨w.heap.size, 0, none⟩) 0 0 ∧ i = .int .i64 0) (fun _ _ => 0)
  case atStart => exact ⟨rfl, rfl⟩
  case round =>
    obtain ⟨rfl, rfl⟩ := hrel
    go_wp2
    go_ret2
    exact ⟨_, rfl, cnone w, (Below.refl _ _).alloc (Nat.le_refl _) _⟩
set_option maxRecDepth 100000 in
set_option maxHeartbeats 4000000 in
theorem icread_some (s : ByteArray) (h : s ≠ noneT) (hs : s.size ≤ 1048576) (n : Nat) (hn : (cutT s).length = n) (w : World) (m : Int) (hm : w.cell? ⟨4, 0, none⟩ = some (.int .i64 m)) (hR : HexOk w) :
    Calls Tryz.prog 18 #[.string s] w fun e w' => ∃ v, e = .returned (.tuple #[v, .bool (okC (cutT s))]) ∧ w'.ownsRow w.heap.size 24 1 v (numC (cutT s)).length (cvals (numC (cutT s))) ∧ Below w.heap.size w w' := by
  obtain ⟨i0, hi, hz0, hz1, hz2⟩ := info_parts Tryz.infoC
  have hI := hidI hi
  have hZ0 := hidI hz0
  have hZ1 := hidI hz1
  have hZ2 := hidI hz2
  clear hi hz0 hz1 hz2
  have hB0 := fun w => run_build0 (P := Tryz.prog) w Tryz.underlying25 Tryz.someC
  have hB1 := fun w c d => run_buildC (P := Tryz.prog) w Tryz.underlying25 Tryz.sizeC Tryz.zeroC .f32 c d
  have hCut := hidI (iparts_at s h hs n hn w m hm)
  have hVal := hidI (fun x (hx : x.size ≤ 1048576) w hr => ireadhex_any x hx w hr)
  have hRk := hidI hR
  have hN := hidI hn
  have hn1 : 1 ≤ n := by have := cutT_count s; omega
  have hn2 : n ≤ 1048577 := by have := cutT_len s; omega
  clear hn h hm hR
  generalize cutT s = P at hCut hN
  go_enter Tryz.func18, Tryz.ntmps18
  go_wp2_with (go_at_call 48; refine hCut.out.mono ?_; rintro e w1 ⟨rfl, ho, hB⟩; have hO := hidI ho; have b1 := hidI hB; clear ho hB)
  go_loopw [5, 17] (fun v i wr => ∃ (W : World) (k g' vc : Nat), W = wr ∧ v = .slice (some ⟨g', 0, none⟩) k vc ∧ i = .int .i64 k ∧ k ≤ n ∧ Hid (W.ownsRow w.heap.size 9 1 (.slice (some ⟨w.heap.size, 0, none⟩) n n) n (strs P)) ∧ Hid (W.ownsRow w.heap.size 24 1 (.slice (some ⟨g', 0, none⟩) k vc) k (cvals ((P.take k).map readC))) ∧ Hid ((P.take k).all readCB = true) ∧ Hid (k = 0 ∨ n ≤ 256) ∧ Hid (Below w.heap.size w W)) (fun _ i _ => n - (intOf i).toNat)
  case atStart => exact ⟨_, 0, _, _, rfl, rfl, rfl, by omega, hO.out.alloc _, owns_base (cnone w1) b1.out.size, rfl, .inl rfl, b1.out.alloc b1.out.size _⟩
  case round =>
    obtain ⟨W, k, g', vc, rfl, rfl, rfl, hk, hpar, hout, hall, hsm, hbel⟩ := hrel
    clear hO b1
    by_cases hlt : k < n
    · have hlt' : k < P.length := by rw [hN.out]; exact hlt
      have hc := owns_len hpar.out hlt'
      have hNo := hidI (fun h => okC_no hlt' h)
      have hYes := hidI (fun h => call_push hlt' hall.out h)
      have hPush := hidI (cnums_push hlt')
      generalize P[k] = x at hc hNo hYes hPush
      clear hlt'
      by_cases h16 : x.size = 16
      · by_cases h256 : 256 < n
        · have hF := hidI (okC_long (P := P) (by rw [hN.out]; exact h256))
          go_wp2
          go_ret2
          exact ⟨_, by rw [hF.out]; rfl, by rw [numC_no hF.out]; exact World.ownsRow_nil _ _ _ _, hbel.out⟩
        · have hlo : (x.extract 0 8).size ≤ 1048576 := by rw [ByteArray.size_extract]; omega
          have hhi : (x.extract 8 16).size ≤ 1048576 := by rw [ByteArray.size_extract]; omega
          have hDa := hidI (fun w h => hVal.out (x.extract 0 8) hlo w h)
          have hDb := hidI (fun w h => hVal.out (x.extract 8 16) hhi w h)
          have hB := hidI (readCB_of h16)
          have hPn := hPush.out
          rw [show readC x = (readX (x.extract 0 8), readX (x.extract 8 16)) from rfl] at hPn
          clear hlo hhi
          cases hva : readXB (x.extract 0 8)
          · have hF := hidI (hNo.out (by rw [hB.out, hva]; rfl))
            cases hvb : readXB (x.extract 8 16)
            · go_wp2_with (first | (go_at_call_of 49 (Value.string (x.extract 0 8)); refine (hDa.out _ (hRk.out.stays hbel.out)).mono ?_; rintro e w2 ⟨N, rfl, hN1, hB⟩; rw [hva]; have b2 := hidI (hbel.out.trans (hB.mono hbel.out.size)); have op2 := hidI (owns_below hpar.out hB); have oo2 := hidI (owns_below hout.out hB); clear hB) | (go_at_call_of 49 (Value.string (x.extract 8 16)); refine (hDb.out _ (hRk.out.stays b2.out)).mono ?_; rintro e w4 ⟨M, rfl, hM1, hB⟩; rw [hvb]; have b4 := hidI (b2.out.trans (hB.mono b2.out.size)); have op4 := hidI (owns_below op2.out hB); have oo4 := hidI (owns_below oo2.out hB); clear hB))
              go_ret2
              exact ⟨_, by rw [hF.out]; rfl, by rw [numC_no hF.out]; exact World.ownsRow_nil _ _ _ _, b4.out⟩
            · go_wp2_with (first | (go_at_call_of 49 (Value.string (x.extract 0 8)); refine (hDa.out _ (hRk.out.stays hbel.out)).mono ?_; rintro e w2 ⟨N, rfl, hN1, hB⟩; rw [hva]; have b2 := hidI (hbel.out.trans (hB.mono hbel.out.size)); have op2 := hidI (owns_below hpar.out hB); have oo2 := hidI (owns_below hout.out hB); clear hB) | (go_at_call_of 49 (Value.string (x.extract 8 16)); refine (hDb.out _ (hRk.out.stays b2.out)).mono ?_; rintro e w4 ⟨M, rfl, hM1, hB⟩; rw [hvb]; have b4 := hidI (b2.out.trans (hB.mono b2.out.size)); have op4 := hidI (owns_below op2.out hB); have oo4 := hidI (owns_below oo2.out hB); clear hB))
              go_ret2
              exact ⟨_, by rw [hF.out]; rfl, by rw [numC_no hF.out]; exact World.ownsRow_nil _ _ _ _, b4.out⟩
          · cases hvb : readXB (x.extract 8 16)
            · have hF := hidI (hNo.out (by rw [hB.out, hva, hvb]; rfl))
              go_wp2_with (first | (go_at_call_of 49 (Value.string (x.extract 0 8)); refine (hDa.out _ (hRk.out.stays hbel.out)).mono ?_; rintro e w2 ⟨N, rfl, hN1, hB⟩; rw [hva]; have b2 := hidI (hbel.out.trans (hB.mono hbel.out.size)); have op2 := hidI (owns_below hpar.out hB); have oo2 := hidI (owns_below hout.out hB); clear hB) | (go_at_call_of 49 (Value.string (x.extract 8 16)); refine (hDb.out _ (hRk.out.stays b2.out)).mono ?_; rintro e w4 ⟨M, rfl, hM1, hB⟩; rw [hvb]; have b4 := hidI (b2.out.trans (hB.mono b2.out.size)); have op4 := hidI (owns_below op2.out hB); have oo4 := hidI (owns_below oo2.out hB); clear hB))
              go_ret2
              exact ⟨_, by rw [hF.out]; rfl, by rw [numC_no hF.out]; exact World.ownsRow_nil _ _ _ _, b4.out⟩
            · have hT := hidI (hYes.out (by rw [hB.out, hva, hvb]; rfl))
              have hDa2 := hidI (show ∀ w, HexOk w → Calls Tryz.prog 49 #[.string (x.extract 0 8)] w fun e w' => e = .returned (.tuple #[.float .f32 (readX (x.extract 0 8)), .bool true]) ∧ Below w.heap.size w w' from fun w hw => by
                refine (hDa.out w hw).mono ?_
                rintro e w' ⟨N, rfl, hN', hB⟩
                rw [hva, hN' hva]
                exact ⟨rfl, hB⟩)
              have hDb2 := hidI (show ∀ w, HexOk w → Calls Tryz.prog 49 #[.string (x.extract 8 16)] w fun e w' => e = .returned (.tuple #[.float .f32 (readX (x.extract 8 16)), .bool true]) ∧ Below w.heap.size w w' from fun w hw => by
                refine (hDb.out w hw).mono ?_
                rintro e w' ⟨N, rfl, hN', hB⟩
                rw [hvb, hN' hvb]
                exact ⟨rfl, hB⟩)
              generalize readX (x.extract 0 8) = y at hDa2 hPn
              generalize readX (x.extract 8 16) = z at hDb2 hPn
              have hPu := hidI hPn
              clear hPn hva hvb hDa hDb
              go_wp2_with (first | (go_at_call_of 49 (Value.string (x.extract 0 8)); refine (hDa2.out _ (hRk.out.stays hbel.out)).mono ?_; rintro e w2 ⟨rfl, hB⟩; have b2 := hidI (hbel.out.trans (hB.mono hbel.out.size)); have op2 := hidI (owns_below hpar.out hB); have oo2 := hidI (owns_below hout.out hB); clear hB) | (go_at_call_of 49 (Value.string (x.extract 8 16)); refine (hDb2.out _ (hRk.out.stays b2.out)).mono ?_; rintro e w4 ⟨rfl, hB⟩; have b4 := hidI (b2.out.trans (hB.mono b2.out.size)); have op4 := hidI (owns_below op2.out hB); have oo4 := hidI (owns_below oo2.out hB); clear hB) | (refine wpList_append_own _ rfl _ _ 25 rfl w.heap.size 24 i0 (.complex .f32 0 0) 1 8 Tryz.underlying25 hI.out hZ0.out hZ1.out hZ2.out rfl (by omega) _ k _ rfl (oo4.out.alloc _) ⟨w4.heap.size, 0, none⟩ 1 1 [.complex .f32 y z] rfl rfl (cone_cell _ _ _) (cone_flat _ _) ?c3 ?c4 (below_newH b4.out _) ?c6))
              case c3 => unfold maxLen; omega
              case c4 => omega
              intro v' w3 h2 h3 _
              rw [cvals_push] at h2
              first | rw [hPu.out] at h2 | rw [← List.map_take, hPu.out] at h2
              have b3 := hidI ((b4.out.alloc b4.out.size (.cells #[.complex .f32 y z] 24)).grown h3 (below_newH b4.out _) (owns_block oo4.out))
              have p3 := hidI (owns_two (op4.out.alloc _) (oo4.out.alloc _) (by decide) h3)
              obtain ⟨g2, vc', rfl, -, -, -⟩ := owns_shape h2 (Nat.succ_pos k)
              have o3 := hidI h2
              clear h2 h3
              go_wp2
              go_roundw
              case rel => exact ⟨w3, k + 1, g2, vc', rfl, rfl, by go_num, by omega, p3.out, o3.out, hT.out, .inr (by omega), b3.out⟩
              case measure => simp [intOf]; omega
      · have hF := hidI (hNo.out (readCB_len h16))
        have h16' : ((x.size : Int) != 16) = true := by simp; omega
        go_wp2
        go_ret2
        exact ⟨_, by rw [hF.out]; rfl, by rw [numC_no hF.out]; exact World.ownsRow_nil _ _ _ _, hbel.out⟩
    · have hk' : k = n := by omega
      subst hk'
      have h256 : k ≤ 256 := by rcases hsm.out with c | c <;> omega
      have hY := hidI (okC_yes (by rw [hN.out]; exact Nat.le_refl _) hall.out (by rw [hN.out]; exact h256))
      have ho := hout.out
      rw [List.take_of_length_le (by rw [hN.out]; exact Nat.le_refl _)] at ho
      have hOut := hidI ho
      clear ho hlt
      go_wp2
      go_ret2
      exact ⟨_, by rw [hY.out]; rfl, by rw [numC_yes hY.out, List.length_map, hN.out]; exact hOut.out, hbel.out⟩
theorem ireadcx_any (s : ByteArray) (hs : s.size ≤ 1048576) (w : World) (m : Int) (hm : w.cell? ⟨4, 0, none⟩ = some (.int .i64 m)) (hR : HexOk w) :
    Calls Tryz.prog 18 #[.string s] w fun e w' => ∃ v, e = .returned (.tuple #[v, .bool (listOkC s)]) ∧ w'.ownsRow w.heap.size 24 1 v (pairsOf s).length (cvals (pairsOf s)) ∧ Below w.heap.size w w' := by
  unfold listOkC pairsOf
  by_cases h : s = noneT
  · rw [if_pos h, if_pos h]; exact icread_none s h w
  · rw [if_neg h, if_neg h]
    exact icread_some s h hs _ rfl w m hm hR
end Go.Proofs.YtogliigpoojfoaaGreatDoor
