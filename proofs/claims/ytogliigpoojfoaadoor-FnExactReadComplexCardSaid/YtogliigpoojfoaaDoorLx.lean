/-
  Lists as texts: the program's function, and the law.
-/
import Derived.Test.YtogliigpoojfoaaDoorLw
namespace Go.Proofs.YtogliigpoojfoaaDoor
open Go.RowKit

theorem lor_end (g cap n base : Nat) (l : List Int) (hn : l.length = n) (hN : n ≤ 64) (hw : IAll .i64 l) (W : World) (h : W.ownsRow base 9 1 (.slice (some ⟨g, 0, none⟩) n cap) n (strs (l.map decT))) :
    Calls Tryd.prog 44 #[.slice (some ⟨g, 0, none⟩) n cap] W fun e w' => e = .returned (.string (textL l)) ∧ Below W.heap.size W w' := by
  cases l with
  | nil =>
    subst hn
    exact lor_nil _ cap W
  | cons x xs =>
    have hn1 : 0 < n := by rw [← hn]; simp
    obtain ⟨g', cap', hv, -, hg, hc⟩ := owns_shape h hn1
    cases hv
    rw [← join_text]
    refine lor_any g cap n _ (by rw [List.length_map]; exact hn) hn1 (by omega) hc W hg (strs_cell h) ?_
    rw [List.map_cons, join_acc]
    have h1 := accT_size xs (decT x) (fun m hm => hw.mem m (List.mem_cons_of_mem _ hm))
    have h2 := decT_size (hw.mem x (List.mem_cons_self ..)).1 (hw.mem x (List.mem_cons_self ..)).2
    have h3 : (accT (decT x) xs).data.toList.length = (accT (decT x) xs).size := rfl
    rw [List.length_cons] at hn
    omega
theorem listB_long {l : List Int} (h : 64 < l.length) : listB l = false := by
  unfold listB; rw [decide_eq_false (by omega), Bool.and_false]
theorem listT_no {l : List Int} (h : listB l = false) : listT l = ⟨#[]⟩ := by unfold listT; rw [h]; rfl
theorem listT_yes {l : List Int} (h : listB l = true) : listT l = textL l := by unfold listT; rw [h]; rfl
theorem owns_none (w : World) : (w.alloc (.cells #[] 9)).ownsRow w.heap.size 9 1 (.slice (some ⟨w.heap.size, 0, none⟩) 0 0) 0 (strs (([] : List Int).map decT)) :=
  World.ownsRow_made w #[] 0 (Nat.le_refl _) (Nat.zero_le _) rfl
set_option maxRecDepth 100000 in
set_option maxHeartbeats 2000000 in
theorem ilisttext_any (a : Option Addr) (cap : Nat) (l : List Int) (hl : l.length ≤ 1048576) (hw : IAll .i64 l) (w : World) (h : IRow .i64 w a l) (ht : Pow10 w) :
    Calls Tryd.prog 17 #[.slice a l.length cap] w fun e w' => e = .returned (.tuple #[.string (listT l), .bool (listB l)]) ∧ Below w.heap.size w w' := by
  obtain ⟨i0, hi, hz0, hz1, hz2⟩ := info_parts Tryd.infoS
  have hI := hidI hi
  have hZ0 := hidI hz0
  have hZ1 := hidI hz1
  have hZ2 := hidI hz2
  clear hi hz0 hz1 hz2
  have hH := hidI h
  have hP := hidI ht
  have hDec := hidI (fun (k : Nat) (hk : k < l.length) (w : World) (hp : Pow10 w) => idecimal_any l[k] (hw.mem l[k] (List.getElem_mem _)).1 (hw.mem l[k] (List.getElem_mem _)).2 w hp)
  have hEnd := hidI (fun (g cap n base : Nat) (hn : l.length = n) (hN : n ≤ 64) => lor_end g cap n base l hn hN hw)
  have hB0 := fun w => run_build0 (P := Tryd.prog) w Tryd.underlying52 Tryd.someS
  have hB1 := fun w c => run_buildS (P := Tryd.prog) w Tryd.underlying52 Tryd.sizeS Tryd.zeroS c
  have hW := hidI hw
  obtain ⟨n, hn⟩ : ∃ n, l.length = n := ⟨_, rfl⟩
  have hNL := hidI hn
  rw [hn] at hl ⊢
  clear h ht hw hn
  go_enter Tryd.func17, Tryd.ntmps17
  go_wp2
  go_loopw [4, 10] (fun v i wr => ∃ (W : World) (k g vc : Nat), W = wr ∧ k ≤ n ∧ i = .int .i64 k ∧ v = .slice (some ⟨g, 0, none⟩) k vc ∧ Hid (W.ownsRow w.heap.size 9 1 (.slice (some ⟨g, 0, none⟩) k vc) k (strs ((l.take k).map decT))) ∧ Hid ((l.take k).all inV = true) ∧ Hid (k = 0 ∨ n ≤ 64) ∧ Hid (Below w.heap.size w W)) (fun _ i _ => n - (intOf i).toNat)
  case atStart => exact ⟨_, 0, _, _, rfl, by omega, rfl, rfl, owns_none w, rfl, .inl rfl, (Below.refl _ _).alloc (Nat.le_refl _) _⟩
  case round =>
    obtain ⟨W, k, g, vc, rfl, hk, rfl, rfl, hown, hall, hsm, hbel⟩ := hrel
    by_cases hlt : k < n
    · have hlt' : k < l.length := by rw [hNL.out]; exact hlt
      obtain ⟨b, o, rfl, hc⟩ := hH.out.tail_cell hbel.out hlt'
      cases hv : inV l[k]
      · have hN := hidI (listB_no hlt' hv)
        have hV := hidI hv
        have hIs := hidI (fun w => isval_any l[k] w)
        clear hv
        generalize l[k] = x at hc hV hIs
        clear hlt'
        go_wp2_with (go_at_call 43; refine (hIs.out _).mono ?_; rintro e w' ⟨rfl, rfl⟩; rw [hV.out])
        go_ret2
        exact ⟨by rw [hN.out, listT_no hN.out]; rfl, hbel.out⟩
      · have hV := hidI hv
        have hIs := hidI (fun w => isval_any l[k] w)
        by_cases h64 : 64 < n
        · have hN := hidI (listB_long (l := l) (by rw [hNL.out]; exact h64))
          clear hv
          generalize l[k] = x at hc hV hIs
          clear hlt'
          go_wp2_with (go_at_call 43; refine (hIs.out _).mono ?_; rintro e w' ⟨rfl, rfl⟩; rw [hV.out])
          go_ret2
          exact ⟨by rw [hN.out, listT_no hN.out]; rfl, hbel.out⟩
        · have hNx := hidI (all_step hlt' hall.out hv)
          have hsn := hidI (strs_snoc l k hlt')
          have hDk := hidI (hDec.out k hlt')
          clear hv
          generalize l[k] = x at hc hV hIs hsn hDk
          clear hlt'
          generalize decT x = s at hsn hDk
          go_wp2_with (first | (go_at_call 43; refine (hIs.out _).mono ?_; rintro e w' ⟨rfl, rfl⟩; rw [hV.out]) | (go_at_call 12; refine (hDk.out _ (hP.out.stays hbel.out)).mono ?_; rintro e w2 ⟨rfl, hB⟩; have o2 := hidI (owns_below hown.out hB); have b2 := hidI (hbel.out.trans (hB.mono hbel.out.size)); clear hB) | (refine wpList_append_own _ rfl _ _ 52 rfl w.heap.size 9 i0 (.string ⟨#[]⟩) 1 16 Tryd.underlying52 hI.out hZ0.out hZ1.out hZ2.out rfl (by omega) _ k _ rfl (o2.out.alloc _) ⟨w2.heap.size, 0, none⟩ 1 1 [.string s] rfl rfl ?c1 ?c2 ?c3 ?c4 ?c5 ?c6))
          case c1 =>
            intro j u hj
            have hj0 : j = 0 := by
              rcases Nat.lt_or_ge j 1 with c | c
              · omega
              · rw [List.getElem?_eq_none (by simpa using c)] at hj; cases hj
            subst hj0
            simp at hj
            subst hj
            exact new_cell _ _ _
          case c2 =>
            intro u hu
            simp at hu
            subst hu; rfl
          case c3 => unfold maxLen; omega
          case c4 => omega
          case c5 =>
            have h1 := b2.out.size
            have h2 := new_size w2 (.cells #[.string s] 9)
            omega
          intro v' w3 h2 h3 _
          rw [← List.map_take, hsn.out] at h2
          have b3 := hidI ((b2.out.alloc b2.out.size (.cells #[.string s] 9)).grown h3 (by
            have h1 := b2.out.size
            have h2 := new_size w2 (.cells #[.string s] 9)
            omega) (owns_block o2.out))
          obtain ⟨g', vc', rfl, -, -, -⟩ := owns_shape h2 (Nat.succ_pos k)
          have o3 := hidI h2
          clear h2 h3
          go_wp2
          go_roundw
          case rel => exact ⟨w3, k + 1, g', vc', rfl, by omega, by go_num, rfl, o3.out, hNx.out, .inr (by omega), b3.out⟩
          case measure => simp [intOf]; omega
    · have hk' : k = n := by omega
      subst hk'
      have hall' : l.all inV = true := by
        have := hall.out
        rwa [List.take_of_length_le (by rw [hNL.out]; exact Nat.le_refl _)] at this
      have ho := hown.out
      rw [List.take_of_length_le (by rw [hNL.out]; exact Nat.le_refl _)] at ho
      have h64 : k ≤ 64 := by rcases hsm.out with c | c <;> omega
      have hLB : listB l = true := by
        unfold listB; rw [hall', hNL.out, decide_eq_true (by omega)]; rfl
      have hN := hidI hLB
      have hE := hidI (hEnd.out g vc k w.heap.size hNL.out h64 _ ho)
      clear hall' ho hLB hlt
      go_wp2_with (go_at_call 44; refine hE.out.mono ?_; rintro e w2 ⟨rfl, hB⟩; have b2 := hidI (hbel.out.trans (hB.mono hbel.out.size)); clear hB)
      go_ret2
      exact ⟨by rw [hN.out, listT_yes hN.out]; rfl, b2.out⟩
end Go.Proofs.YtogliigpoojfoaaDoor
