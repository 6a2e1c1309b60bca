/-
  Lists of numbers read from texts: the reference's walk.
-/
import Derived.Test.YtogliigpoojfoaaDoorHn
import Derived.Test.YtogliigpoojfoaaDoorRw
namespace Go.Proofs.YtogliigpoojfoaaDoor
open Go.RowKit Fl

def okX (P : List ByteArray) : Bool := P.all readXB && decide (P.length ≤ 256)
def numX (P : List ByteArray) : List Nat := if okX P then P.map readX else []
def listOkX (s : ByteArray) : Bool := if s = noneT then true else okX (cutT s)
def wordsOf (s : ByteArray) : List Nat := if s = noneT then [] else numX (cutT s)
theorem numX_no {P : List ByteArray} (h : okX P = false) : numX P = [] := by unfold numX; rw [h]; rfl
theorem numX_yes {P : List ByteArray} (h : okX P = true) : numX P = P.map readX := by unfold numX; rw [h]; rfl
theorem xall_push {P : List ByteArray} {k : Nat} (hk : k < P.length) (h : (P.take k).all readXB = true) (h2 : readXB P[k] = true) : (P.take (k + 1)).all readXB = true := by
  rw [List.take_succ_eq_append_getElem hk, List.all_append, h]
  simp [h2]
theorem xnums_push {P : List ByteArray} {k : Nat} (hk : k < P.length) : (P.take k).map readX ++ [readX P[k]] = (P.take (k + 1)).map readX := by
  rw [List.take_succ_eq_append_getElem hk, List.map_append]; rfl
theorem okX_no {P : List ByteArray} {k : Nat} (hk : k < P.length) (h : readXB P[k] = false) : okX P = false := by
  have : P.all readXB = false := by
    rw [List.all_eq_false]; exact ⟨P[k], List.getElem_mem _, by rw [h]; decide⟩
  unfold okX; rw [this, Bool.false_and]
theorem okX_long {P : List ByteArray} (h : 256 < P.length) : okX P = false := by
  unfold okX; rw [decide_eq_false (by omega), Bool.and_false]
theorem okX_yes {P : List ByteArray} {k : Nat} (hk : P.length ≤ k) (h : (P.take k).all readXB = true) (h2 : P.length ≤ 256) : okX P = true := by
  rw [List.take_of_length_le hk] at h
  unfold okX; rw [h, decide_eq_true h2]; rfl
theorem vals_push (P : List Nat) (x : Nat) : vals P ++ [.float .f32 x] = vals (P ++ [x]) := by unfold vals; rw [List.map_append]; rfl
theorem fone_cell (W : World) (x : Nat) : ∀ (j : Nat) u, ([.float .f32 x] : List Value)[j]? = some u → (W.alloc (.cells #[.float .f32 x] 55)).cell? ((⟨W.heap.size, 0, none⟩ : Addr).add j) = some u := by
  intro j u hj
  have hj0 : j = 0 := by
    rcases Nat.lt_or_ge j 1 with c | c
    · omega
    · rw [List.getElem?_eq_none (by simpa using c)] at hj; cases hj
  subst hj0
  simp at hj
  subst hj
  exact new_cell _ _ _
theorem fone_flat (x : Nat) : ∀ u ∈ ([.float .f32 x] : List Value), u.oneCell' = true := by
  intro u hu
  simp at hu
  subst hu; rfl
theorem fnone (w : World) : (w.alloc (.cells #[] 55)).ownsRow w.heap.size 55 1 (.slice (some ⟨w.heap.size, 0, none⟩) 0 0) 0 (vals []) :=
  World.ownsRow_made w #[] 0 (Nat.le_refl _) (Nat.zero_le _) rfl
theorem run_buildF {P : Program} (w : World) {t e : TypeId} (ht : P.underlying t = some (.slice e)) (hs : (P.info? e).map (·.size) = some 1) (hz : ((P.info? e).bind (·.zero)).isSome = true) (k : FloatKind) (c : Nat) :
    (Instr.buildSlice t 1 #[(0, .float k c)]).run P w = .ok (.slice (some ⟨w.heap.size, 0, none⟩) 1 1) (w.alloc (.cells #[.float k c] e)) := by
  cases hie : P.info? e with
  | none => rw [hie] at hs; cases hs
  | some ie =>
    simp only [hie, Option.map_some, Option.some.injEq, Option.bind_some] at hs hz
    obtain ⟨z, hzz⟩ := Option.isSome_iff_exists.1 hz
    refine run_buildSlice w _ _ 1 _ _ ie z ht hie hzz (by rw [hs]; omega) (by rw [hs]; omega) ?_
    rw [hs]
    exact Great.fill_flat [Value.float k c] _ (fun v hv => by simp at hv; rcases hv with rfl | rfl <;> rfl) (by simp)
theorem Tryd.sizeF : (Tryd.prog.info? 55).map (·.size) = some 1 := by kernel_rfl
theorem Tryd.zeroF : ((Tryd.prog.info? 55).bind (·.zero)).isSome = true := by kernel_rfl
theorem Tryd.someF : (Tryd.prog.info? 55).isSome = true := by kernel_rfl
theorem sv_bd {l : List UInt8} {j N : Nat} (h : svH (l.take j) = some N) (hj : j ≤ 8) : N < 4294967296 ∧ (j ≤ 7 → N < 268435456) := by
  obtain ⟨-, h2⟩ := svH_inv h
  have hl : (l.take j).length ≤ j := by rw [List.length_take]; omega
  have e8 := pow16_8
  have e7 : (16 : Nat) ^ 7 = 268435456 := by decide
  refine ⟨?_, fun h7 => ?_⟩
  · have := Nat.pow_le_pow_right (show 0 < 16 by decide) (show (l.take j).length ≤ 8 by omega); omega
  · have := Nat.pow_le_pow_right (show 0 < 16 by decide) (show (l.take j).length ≤ 7 by omega); omega
theorem sv_step {t : ByteArray} {k acc : Nat} (hk : k < t.size) (h : svH (t.data.toList.take k) = some acc) : svH (t.data.toList.take (k + 1)) = stepS (some acc) t[k] := by
  rw [take_snoc' t k hk, svH_snoc, h]
theorem sv_no {t : ByteArray} {k acc : Nat} {c : UInt8} (h : svH (t.data.toList.take (k + 1)) = stepS (some acc) c) (hd : dlow c = none) : readXB t = false := by
  refine readX_none (svH_none (k := k + 1) ?_)
  rw [h]; unfold stepS; rw [hd]; rfl
theorem sv_ok {t : ByteArray} {k acc d : Nat} {c : UInt8} (h : svH (t.data.toList.take (k + 1)) = stepS (some acc) c) (hd : dlow c = some d) : svH (t.data.toList.take (k + 1)) = some (16 * acc + d) := by
  rw [h]; unfold stepS; rw [hd]; rfl
theorem dlow_dig {c : UInt8} (h : 48 ≤ c.toNat ∧ c.toNat ≤ 57) : dlow c = some (c.toNat - 48) := by unfold dlow; rw [if_pos h]
theorem dlow_let {c : UInt8} (h : 97 ≤ c.toNat ∧ c.toNat ≤ 102) : dlow c = some (c.toNat - 87) := by unfold dlow; rw [if_neg (by omega), if_pos h]
theorem dlow_no {c : UInt8} (h1 : ¬ (48 ≤ c.toNat ∧ c.toNat ≤ 57)) (h2 : ¬ (97 ≤ c.toNat ∧ c.toNat ≤ 102)) : dlow c = none := by unfold dlow; rw [if_neg h1, if_neg h2]
theorem snread_none (s : ByteArray) (h : s = noneT) (w : World) :
    Calls Tryd.prog 53 #[.string s] w fun e w' => ∃ v, e = .returned (.tuple #[v, .bool true]) ∧ w'.ownsRow w.heap.size 55 1 v 0 (vals []) ∧ Below w.heap.size w w' := by
  have t : (s.toList == [110, 111, 110, 101]) = true := by have := same_text h; rwa [show noneT.toList = [110, 111, 110, 101] from ByteArray.toList_mk _] at this
  clear h
  have hB0 := fun w => run_build0 (P := Tryd.prog) w Tryd.underlying31 Tryd.someF
  go_enter Tryd.func53, Tryd.ntmps53
  go_wp2
  go_ret2
  exact ⟨_, rfl, fnone w, (Below.refl _ _).alloc (Nat.le_refl _) _⟩
theorem scutF_at (s : ByteArray) (hs : s.size ≤ 1048576) (n : Nat) (hn : (cutT s).length = n) (w : World) :
    Calls Tryd.prog 73 #[.string s, .int .u8 44] (w.alloc (.cells #[] 55)) fun e w' => ∃ g cap, e = .returned (.slice (some ⟨g, 0, none⟩) n cap) ∧ w'.ownsRow w.heap.size 9 1 (.slice (some ⟨g, 0, none⟩) n cap) n (strs (cutT s)) ∧
      w'.ownsRow w.heap.size 55 1 (.slice (some ⟨w.heap.size, 0, none⟩) 0 0) 0 (vals []) ∧ Below w.heap.size w w' := by
  refine (scut_any s hs (w.alloc (.cells #[] 55))).mono ?_
  rintro e w' ⟨g, cap, n', hn', rfl, ho, hB⟩
  obtain rfl : n' = n := hn'.symm.trans hn
  have hsz := new_size w (.cells #[] 55)
  exact ⟨g, cap, rfl, owns_base ho (by omega), owns_below (fnone w) hB, ((Below.refl _ _).alloc (Nat.le_refl _) _).trans (hB.mono (by omega))⟩
theorem snread_long (s : ByteArray) (h : s ≠ noneT) (hs : s.size ≤ 1048576) (n : Nat) (hn : (cutT s).length = n) (h256 : 256 < n) (w : World) :
    Calls Tryd.prog 53 #[.string s] w fun e w' => ∃ v, e = .returned (.tuple #[v, .bool false]) ∧ w'.ownsRow w.heap.size 55 1 v 0 (vals []) ∧ Below w.heap.size w w' := by
  have t : (s.toList == [110, 111, 110, 101]) = false := by have := diff_text h; rwa [show noneT.toList = [110, 111, 110, 101] from ByteArray.toList_mk _] at this
  clear h
  have hB0 := fun w => run_build0 (P := Tryd.prog) w Tryd.underlying31 Tryd.someF
  have hCut := hidI (fun w => scutF_at s hs n hn w)
  clear hn
  go_enter Tryd.func53, Tryd.ntmps53
  go_wp2_with (go_at_call 73; refine (hCut.out _).mono ?_; rintro e w1 ⟨g, cap, rfl, ho, hu, hB⟩; have b1 := hidI hB; clear ho hu hB)
  go_ret2
  exact ⟨_, rfl, World.ownsRow_nil _ _ _ _, b1.out⟩
set_option maxRecDepth 100000 in
set_option maxHeartbeats 4000000 in
theorem snread_some (s : ByteArray) (h : s ≠ noneT) (hs : s.size ≤ 1048576) (n : Nat) (hn : (cutT s).length = n) (h256 : n ≤ 256) (w : World) :
    Calls Tryd.prog 53 #[.string s] w fun e w' => ∃ v, e = .returned (.tuple #[v, .bool (okX (cutT s))]) ∧ w'.ownsRow w.heap.size 55 1 v (numX (cutT s)).length (vals (numX (cutT s))) ∧ Below w.heap.size w w' := by
  have t : (s.toList == [110, 111, 110, 101]) = false := by have := diff_text h; rwa [show noneT.toList = [110, 111, 110, 101] from ByteArray.toList_mk _] at this
  clear h
  obtain ⟨i0, hi, hz0, hz1, hz2⟩ := info_parts Tryd.infoF
  have hI := hidI hi
  have hZ0 := hidI hz0
  have hZ1 := hidI hz1
  have hZ2 := hidI hz2
  clear hi hz0 hz1 hz2
  have hB0 := fun w => run_build0 (P := Tryd.prog) w Tryd.underlying31 Tryd.someF
  have hB1 := fun w c => run_buildF (P := Tryd.prog) w Tryd.underlying31 Tryd.sizeF Tryd.zeroF .f32 c
  have hCut := hidI (fun w => scutF_at s hs n hn w)
  have hFrom := hidI (fun (N : Nat) (hN : N < 4294967296) w => lfrom_any N hN w)
  have hBits := hidI (fun (N : Nat) w => bits_any N w)
  have hN := hidI hn
  clear hn
  generalize cutT s = P at hCut hN
  go_enter Tryd.func53, Tryd.ntmps53
  go_wp2_with (go_at_call 73; refine (hCut.out _).mono ?_; rintro e w1 ⟨g, cap, rfl, ho, hu, hB⟩; have hO := hidI ho; have hU := hidI hu; have b1 := hidI hB; clear ho hu hB)
  go_loopw [4, 6] (fun v i wr => ∃ (W : World) (k g' vc : Nat), W = wr ∧ v = .slice (some ⟨g', 0, none⟩) k vc ∧ i = .int .i64 k ∧ k ≤ n ∧ Hid (W.ownsRow w.heap.size 9 1 (.slice (some ⟨g, 0, none⟩) n cap) n (strs P)) ∧ Hid (W.ownsRow w.heap.size 55 1 (.slice (some ⟨g', 0, none⟩) k vc) k (vals ((P.take k).map readX))) ∧ Hid ((P.take k).all readXB = true) ∧ Hid (Below w.heap.size w W)) (fun _ i _ => n - (intOf i).toNat)
  case atStart => exact ⟨_, 0, _, _, rfl, rfl, rfl, by omega, hO.out, hU.out, rfl, b1.out⟩
  case round =>
    obtain ⟨W, k, g', vc, rfl, rfl, rfl, hk, hpar, hout, hall, hbel⟩ := hrel
    clear hO hU b1
    by_cases hlt : k < n
    · have hlt' : k < P.length := by rw [hN.out]; exact hlt
      have hc := owns_len hpar.out hlt'
      have hNo := hidI (fun h => okX_no hlt' h)
      have hYes := hidI (fun h => xall_push hlt' hall.out h)
      have hPush := hidI (xnums_push hlt')
      generalize P[k] = x at hc hNo hYes hPush
      clear hlt'
      by_cases h8 : x.size = 8
      · go_wp2
        go_loop [7, 8] (fun vn vk => ∃ (j N : Nat), j ≤ 8 ∧ vk = .int .i64 j ∧ vn = .int .i64 N ∧ Hid (svH (x.data.toList.take j) = some N)) (fun _ vk => 8 - (intOf vk).toNat)
        case atStart => exact ⟨0, 0, by omega, rfl, rfl, rfl⟩
        case round =>
          obtain ⟨j, N, hj, rfl, rfl, hsv⟩ := hrel
          have hbd := sv_bd hsv.out hj
          by_cases hlj : j < 8
          · have hs := hidI (sv_step (by omega) hsv.out)
            have hN7 := hbd.2 (by omega)
            clear hbd
            have hjx : j < x.size := by omega
            generalize hcx : x[j] = c at hs
            by_cases hd1 : 48 ≤ c.toNat ∧ c.toNat ≤ 57
            · have hnx := hidI (sv_ok hs.out (dlow_dig hd1))
              obtain ⟨d0, d1⟩ := hd1
              clear hs
              go_wp2
              go_round
              case rel => exact ⟨j + 1, 16 * N + (c.toNat - 48), by omega, by go_num, by go_num, hnx.out⟩
              case measure => simp [intOf]; omega
            · by_cases hd2 : 97 ≤ c.toNat ∧ c.toNat ≤ 102
              · have hnx := hidI (sv_ok hs.out (dlow_let hd2))
                obtain ⟨d0, d1⟩ := hd2
                clear hs hd1
                go_wp2
                go_round
                case rel => exact ⟨j + 1, 16 * N + (c.toNat - 87), by omega, by go_num, by go_num, hnx.out⟩
                case measure => simp [intOf]; omega
              · have hF := hidI (hNo.out (sv_no hs.out (dlow_no hd1 hd2)))
                clear hs
                go_wp2
                all_goals go_ret2
                all_goals exact ⟨_, by rw [hF.out]; rfl, by rw [numX_no hF.out]; exact World.ownsRow_nil _ _ _ _, hbel.out⟩
          · have hj8 : j = 8 := by omega
            subst hj8
            have hN8 := hbd.1
            have hsv' := hsv.out
            rw [List.take_of_length_le (by rw [len_list]; omega)] at hsv'
            have hSv := hidI hsv'
            clear hsv hsv' hbd hlj
            by_cases hbi : bitsI N = (N : Int)
            · have hR := hidI (readX_of hSv.out (by rw [len_list]; exact h8) hbi)
              have hT := hidI (hYes.out hR.out.1)
              have hP' := hidI hR.out.2
              have hb2 := hidI (show ∀ w, Calls Tryd.prog 76 #[.float .f32 N] w fun e w' => e = .returned (.int .i64 (N : Int)) ∧ w' = w from fun w => by
                have := hBits.out N w
                rw [hbi] at this
                exact this)
              clear hbi
              have hpsh := hPush.out
              rw [hP'.out] at hpsh
              have hPu := hidI hpsh
              clear hpsh
              go_wp2_with (first | (go_at_call 75; refine (hFrom.out N hN8 _).mono ?_; rintro e w2 ⟨rfl, rfl⟩) | (go_at_call 76; refine (hb2.out _).mono ?_; rintro e w2 ⟨rfl, rfl⟩) | (refine wpList_append_own _ rfl _ _ 31 rfl w.heap.size 55 i0 (.float .f32 0) 1 4 Tryd.underlying31 hI.out hZ0.out hZ1.out hZ2.out rfl (by omega) _ k _ rfl (hout.out.alloc _) ⟨w2.heap.size, 0, none⟩ 1 1 [.float .f32 N] rfl rfl (fone_cell _ _) (fone_flat _) ?c3 ?c4 (below_newH hbel.out _) ?c6))
              case c3 => unfold maxLen; omega
              case c4 => omega
              intro v' w3 h2 h3 _
              rw [vals_push] at h2
              first | rw [hPu.out] at h2 | rw [← List.map_take, hPu.out] at h2
              have b3 := hidI ((hbel.out.alloc hbel.out.size (.cells #[.float .f32 N] 55)).grown h3 (below_newH hbel.out _) (owns_block hout.out))
              have p3 := hidI (owns_two (hpar.out.alloc _) (hout.out.alloc _) (by decide) h3)
              obtain ⟨g2, vc', rfl, -, -, -⟩ := owns_shape h2 (Nat.succ_pos k)
              have o3 := hidI h2
              clear h2 h3
              go_wp2
              go_roundw
              case rel => exact ⟨w3, k + 1, g2, vc', rfl, rfl, by go_num, by omega, p3.out, o3.out, hT.out, b3.out⟩
              case measure => simp [intOf]; omega
            · have hF := hidI (hNo.out (readX_bits hSv.out hbi))
              have tb : (bitsI N != (N : Int)) = true := bne_iff_ne.2 hbi
              have hb2 := hidI (hBits.out N)
              generalize bitsI N = B at hb2 tb
              clear hbi
              go_wp2_with (first | (go_at_call 75; refine (hFrom.out N hN8 _).mono ?_; rintro e w2 ⟨rfl, rfl⟩) | (go_at_call 76; refine (hb2.out _).mono ?_; rintro e w2 ⟨rfl, rfl⟩))
              go_ret2
              exact ⟨_, by rw [hF.out]; rfl, by rw [numX_no hF.out]; exact World.ownsRow_nil _ _ _ _, hbel.out⟩
      · have hF := hidI (hNo.out (readX_len h8))
        have h8' : ((x.size : Int) != 8) = true := by simp; omega
        go_wp2
        go_ret2
        exact ⟨_, by rw [hF.out]; rfl, by rw [numX_no hF.out]; exact World.ownsRow_nil _ _ _ _, hbel.out⟩
    · have hk' : k = n := by omega
      subst hk'
      have hY := hidI (okX_yes (by rw [hN.out]; exact Nat.le_refl _) hall.out (by rw [hN.out]; exact h256))
      have ho := hout.out
      rw [List.take_of_length_le (by rw [hN.out]; exact Nat.le_refl _)] at ho
      have hOut := hidI ho
      clear ho hlt
      go_wp2
      go_ret2
      exact ⟨_, by rw [hY.out]; rfl, by rw [numX_yes hY.out, List.length_map, hN.out]; exact hOut.out, hbel.out⟩
end Go.Proofs.YtogliigpoojfoaaDoor
