/-
  Lists read from texts: the program's walk.
-/
import Derived.Test.YtogliigpoojfoaaDoorRv
import Derived.Shelf.Vars
namespace Go.Proofs.YtogliigpoojfoaaDoor
open Go.RowKit

theorem cutL_len : ∀ (l : List UInt8), ∀ p ∈ cutL l, p.length ≤ l.length := by
  intro l
  induction l with
  | nil => intro p hp; simp [cutL] at hp; subst hp; simp
  | cons b l ih =>
    intro p hp
    by_cases h : b = 44
    · subst h
      rw [cutL_comma] at hp
      rcases List.mem_cons.1 hp with rfl | hp
      · simp
      · have := ih p hp; rw [List.length_cons]; omega
    · rw [cutL_other h] at hp
      cases hc : cutL l with
      | nil => exact absurd hc (cutL_ne l)
      | cons x xs =>
        rw [hc] at hp ih
        rcases List.mem_cons.1 hp with rfl | hp
        · have := ih x (List.mem_cons_self ..); simp; omega
        · have := ih p (List.mem_cons_of_mem _ hp); rw [List.length_cons]; omega
theorem cutT_size {s x : ByteArray} (h : x ∈ cutT s) : x.size ≤ s.size := by
  unfold cutT at h
  obtain ⟨l, hl, rfl⟩ := List.mem_map.1 h
  have := cutL_len _ l hl
  rw [len_list] at this
  show l.toArray.size ≤ _
  simpa using this
theorem cutT_len (s : ByteArray) : (cutT s).length ≤ s.size + 1 := by
  rw [cutT_count]
  have := Lib.countB_le ⟨#[44]⟩ (by decide) s.size s (Nat.le_refl _)
  omega
theorem parts_owned (w : World) (P : List ByteArray) (n : Nat) (hn : P.length = n) (hm : n ≤ maxLen) : (w.alloc (.cells (strs P).toArray 9)).ownsRow w.heap.size 9 1 (.slice (some ⟨w.heap.size, 0, none⟩) n n) n (strs P) := by
  refine ⟨by simp [strs, hn], .inr ⟨w.heap.size, n, (strs P).toArray, rfl, Nat.le_refl _, heap_alloc_new w _, Nat.le_refl _, hm, by simp [strs, hn], ?_⟩⟩
  rw [List.take_of_length_le (by simp [strs, hn])]
/-- The library's variable MaxLen holds some number. -/
theorem maxlen_cell {w : World} (h : w.ShapedOpen Tryd.prog) : ∃ m, w.cell? ⟨8, 0, none⟩ = some (.int .i64 m) :=
  cell_of_shapedOpen_int (P := Tryd.prog) (g := 8) (t := 3) (zero := #[.int .i64 0]) h (of_decide_eq_true (by kernel_rfl)) (by kernel_rfl) rfl (by kernel_rfl) (by kernel_rfl) Tryd.underlying3
theorem cmax {w w' : World} {m : Int} (h : w.cell? ⟨8, 0, none⟩ = some (.int .i64 m)) (hb : Below w.heap.size w w') : w'.cell? ⟨8, 0, none⟩ = some (.int .i64 m) := by
  rw [hb.cell (p := ⟨8, 0, none⟩) (World.block_lt_of_cell? w _ h)]; exact h
theorem ilist_none (s : ByteArray) (h : s = noneT) (w : World) :
    Calls Tryd.prog 26 #[.string s] w fun e w' => ∃ v, e = .returned (.tuple #[v, .bool true]) ∧ w'.ownsRow w.heap.size 2 1 v 0 (ivals []) ∧ Below w.heap.size w w' := by
  have hP := hidI (fun w => iparts_none s h w)
  clear h
  have hB0 := fun w => run_build0 (P := Tryd.prog) w Tryd.underlying25 Tryd.some64
  go_enter Tryd.func26, Tryd.ntmps26
  go_wp2_with (go_at_call 52; refine (hP.out _).mono ?_; rintro e w' ⟨rfl, rfl⟩)
  go_loop [5, 15] (fun v i => v = .slice (some ⟨w.heap.size, 0, none⟩) 0 0 ∧ i = .int .i64 0) (fun _ _ => 0)
  case atStart => exact ⟨rfl, rfl⟩
  case round =>
    obtain ⟨rfl, rfl⟩ := hrel
    go_wp2
    go_ret2
    exact ⟨_, rfl, inone w, (Below.refl _ _).alloc (Nat.le_refl _) _⟩
theorem iparts_at (s : ByteArray) (h : s ≠ noneT) (hs : s.size ≤ 1048576) (n : Nat) (hn : (cutT s).length = n) (w : World) (m : Int) (hm : w.cell? ⟨8, 0, none⟩ = some (.int .i64 m)) :
    Calls Tryd.prog 52 #[.string s] w fun e w' => e = .returned (.slice (some ⟨w.heap.size, 0, none⟩) n n) ∧ w'.ownsRow w.heap.size 9 1 (.slice (some ⟨w.heap.size, 0, none⟩) n n) n (strs (cutT s)) ∧ Below w.heap.size w w' := by
  refine (iparts_some s h hs w m hm).mono ?_
  rintro e w' ⟨n', hn', rfl, rfl⟩
  obtain rfl : n' = n := hn'.symm.trans hn
  have := cutT_len s
  exact ⟨rfl, parts_owned w _ _ hn (by unfold maxLen; omega), (Below.refl _ _).alloc (Nat.le_refl _) _⟩
set_option maxRecDepth 100000 in
set_option maxHeartbeats 4000000 in
theorem ilist_some (s : ByteArray) (h : s ≠ noneT) (hs : s.size ≤ 1048576) (n : Nat) (hn : (cutT s).length = n) (w : World) (m : Int) (hm : w.cell? ⟨8, 0, none⟩ = some (.int .i64 m)) (hR : ReadOk w) :
    Calls Tryd.prog 26 #[.string s] w fun e w' => ∃ v, e = .returned (.tuple #[v, .bool (okL (cutT s))]) ∧ w'.ownsRow w.heap.size 2 1 v (numL (cutT s)).length (ivals (numL (cutT s))) ∧ Below w.heap.size w w' := by
  obtain ⟨i0, hi, hz0, hz1, hz2⟩ := info_parts Tryd.infoI
  have hI := hidI hi
  have hZ0 := hidI hz0
  have hZ1 := hidI hz1
  have hZ2 := hidI hz2
  clear hi hz0 hz1 hz2
  have hB0 := fun w => run_build0 (P := Tryd.prog) w Tryd.underlying25 Tryd.some64
  have hB1 := fun w c => run_build1 (P := Tryd.prog) (k := .i64) w Tryd.underlying25 Tryd.size64 Tryd.zero64 c
  have hCut := hidI (iparts_at s h hs n hn w m hm)
  have hVal := hidI (fun x (hx : x ∈ cutT s) w hr => iread_any x (by have := cutT_size hx; omega) w hr)
  have hRk := hidI hR
  have hN := hidI hn
  have hn1 : 1 ≤ n := by have := cutT_count s; omega
  have hn2 : n ≤ 1048577 := by have := cutT_len s; omega
  clear hn h hm hR
  generalize cutT s = P at hCut hN hVal
  go_enter Tryd.func26, Tryd.ntmps26
  go_wp2_with (go_at_call 52; refine hCut.out.mono ?_; rintro e w1 ⟨rfl, ho, hB⟩; have hO := hidI ho; have b1 := hidI hB; clear ho hB)
  go_loopw [5, 15] (fun v i wr => ∃ (W : World) (k g' vc : Nat), W = wr ∧ v = .slice (some ⟨g', 0, none⟩) k vc ∧ i = .int .i64 k ∧ k ≤ n ∧ Hid (W.ownsRow w.heap.size 9 1 (.slice (some ⟨w.heap.size, 0, none⟩) n n) n (strs P)) ∧ Hid (W.ownsRow w.heap.size 2 1 (.slice (some ⟨g', 0, none⟩) k vc) k (ivals ((P.take k).map readN))) ∧ Hid ((P.take k).all readB = true) ∧ Hid (k = 0 ∨ n ≤ 64) ∧ Hid (Below w.heap.size w W)) (fun _ i _ => n - (intOf i).toNat)
  case atStart => exact ⟨_, 0, _, _, rfl, rfl, rfl, by omega, hO.out.alloc _, owns_base (inone w1) b1.out.size, rfl, .inl rfl, b1.out.alloc b1.out.size _⟩
  case round =>
    obtain ⟨W, k, g', vc, rfl, rfl, rfl, hk, hpar, hout, hall, hsm, hbel⟩ := hrel
    clear hO b1
    by_cases hlt : k < n
    · have hlt' : k < P.length := by rw [hN.out]; exact hlt
      have hc := owns_len hpar.out hlt'
      have hNo := hidI (fun h => okL_no hlt' h)
      have hYes := hidI (fun h => all_push hlt' hall.out h)
      have hPush := hidI (nums_push hlt')
      have hV1 := hidI (hVal.out P[k] (List.getElem_mem _))
      generalize P[k] = x at hc hNo hYes hPush hV1
      clear hlt'
      cases hv : readB x
      · have hF := hidI (hNo.out hv)
        have hV := hidI hv
        clear hv
        go_wp2_with (go_at_call 24; refine (hV1.out _ (hRk.out.stays hbel.out)).mono ?_; rintro e w2 ⟨rfl, hB⟩; rw [hV.out]; have b2 := hidI (hbel.out.trans (hB.mono hbel.out.size)); clear hB)
        go_ret2
        exact ⟨_, by rw [hF.out]; rfl, by rw [numL_no hF.out]; exact World.ownsRow_nil _ _ _ _, b2.out⟩
      · have hVx : ∀ w, ReadOk w → Calls Tryd.prog 24 #[.string x] w fun e w' => e = .returned (.tuple #[.int .i64 (readN x), .bool true]) ∧ Below w.heap.size w w' := fun w hr => by
          have := hV1.out w hr
          rw [hv] at this
          exact this
        by_cases h64 : 64 < n
        · have hF := hidI (okL_long (P := P) (by rw [hN.out]; exact h64))
          have hVy := hidI hVx
          clear hv hVx
          go_wp2_with (go_at_call 24; refine (hVy.out _ (hRk.out.stays hbel.out)).mono ?_; rintro e w2 ⟨rfl, hB⟩; have b2 := hidI (hbel.out.trans (hB.mono hbel.out.size)); clear hB)
          go_ret2
          exact ⟨_, by rw [hF.out]; rfl, by rw [numL_no hF.out]; exact World.ownsRow_nil _ _ _ _, b2.out⟩
        · have hT := hidI (hYes.out hv)
          generalize readN x = y at hPush hVx
          have hVy := hidI hVx
          clear hv hVx
          go_wp2_with (first | (go_at_call 24; refine (hVy.out _ (hRk.out.stays hbel.out)).mono ?_; rintro e w2 ⟨rfl, hB⟩; have b2 := hidI (hbel.out.trans (hB.mono hbel.out.size)); have op2 := hidI (owns_below hpar.out hB); have oo2 := hidI (owns_below hout.out hB); clear hB) | (refine wpList_append_own _ rfl _ _ 25 rfl w.heap.size 2 i0 (.int .i64 0) 1 8 Tryd.underlying25 hI.out hZ0.out hZ1.out hZ2.out rfl (by omega) _ k _ rfl (oo2.out.alloc _) ⟨w2.heap.size, 0, none⟩ 1 1 [.int .i64 y] rfl rfl (ione_cell _ _) (ione_flat _) ?c3 ?c4 (below_new b2.out _) ?c6))
          case c3 => unfold maxLen; omega
          case c4 => omega
          intro v' w3 h2 h3 _
          rw [ivals_push] at h2
          first | rw [hPush.out] at h2 | rw [← List.map_take, hPush.out] at h2
          have b3 := hidI ((b2.out.alloc b2.out.size (.cells #[.int .i64 y] 2)).grown h3 (below_new b2.out _) (owns_block oo2.out))
          have p3 := hidI (owns_two (op2.out.alloc _) (oo2.out.alloc _) (by decide) h3)
          obtain ⟨g2, vc', rfl, -, -, -⟩ := owns_shape h2 (Nat.succ_pos k)
          have o3 := hidI h2
          clear h2 h3
          go_wp2
          go_roundw
          case rel => exact ⟨w3, k + 1, g2, vc', rfl, rfl, by go_num, by omega, p3.out, o3.out, hT.out, .inr (by omega), b3.out⟩
          case measure => simp [intOf]; omega
    · have hk' : k = n := by omega
      subst hk'
      have h64 : k ≤ 64 := by rcases hsm.out with c | c <;> omega
      have hY := hidI (okL_yes (by rw [hN.out]; exact Nat.le_refl _) hall.out (by rw [hN.out]; exact h64))
      have ho := hout.out
      rw [List.take_of_length_le (by rw [hN.out]; exact Nat.le_refl _)] at ho
      have hOut := hidI ho
      clear ho hlt
      go_wp2
      go_ret2
      exact ⟨_, by rw [hY.out]; rfl, by rw [numL_yes hY.out, List.length_map, hN.out]; exact hOut.out, hbel.out⟩
end Go.Proofs.YtogliigpoojfoaaDoor
