/-
  Lists of complex numbers read from texts: marks in a result; the law.
-/
import Derived.Test.YtogliigpoojfoaaDoorCs
import Derived.Test.YtogliigpoojfoaaDoorHo
namespace Go.Proofs.YtogliigpoojfoaaDoor
open Go.RowKit Fl

/-- The marks: 1 + i, 2 + i, .. -/
def markC (i : Nat) : Nat × Nat := (floatOfInt .f32 ((i : Int) + 1), 1065353216)
def upC (n : Nat) : List (Nat × Nat) := (List.range n).map markC
theorem upC_len (n : Nat) : (upC n).length = n := by simp [upC]
theorem cmark_self : ∀ i : Nat, i < 256 → (FloatKind.f32.format.order (markC i).1 (markC i).1 == some .eq) = true := by decide +kernel
theorem cmark_fits : ∀ i : Nat, i < 256 → fits .f64 .f32 (floatOfInt .f64 ((i : Int) + 1)) = true := by decide +kernel
theorem cmark_conv : ∀ i : Nat, i < 256 → fconv .f64 .f32 (mean .f64 (floatOfInt .f64 ((i : Int) + 1))) = some (markC i).1 := by decide +kernel
theorem one_fits : fits .f64 .f32 4607182418800017408 = true := by decide +kernel
theorem one_conv : fconv .f64 .f32 (mean .f64 4607182418800017408) = some 1065353216 := by decide +kernel
theorem one_self : (FloatKind.f32.format.order 1065353216 1065353216 == some .eq) = true := by decide +kernel
theorem mark_is {i x r : Nat} (hi : i < 256) (hx : x = floatOfInt .f64 ((i : Int) + 1)) (h : FConv .f64 .f32 x r) : r = (markC i).1 := by
  subst hx
  have h1 := h.1 (cmark_fits i hi)
  rw [cmark_conv i hi] at h1
  exact (mean_some h1).1
theorem one_is {r : Nat} (h : FConv .f64 .f32 4607182418800017408 r) : r = 1065353216 := by
  have h1 := h.1 one_fits
  rw [one_conv] at h1
  exact (mean_some h1).1
theorem mark_wf {i x : Nat} (hx : x = floatOfInt .f64 ((i : Int) + 1)) : (Lit.float .f64 x).wf = true := by
  subst hx; exact floatOfInt_wf _ _
theorem one_wf : (Lit.float .f64 4607182418800017408).wf = true := by decide
theorem run_mark64 {P : Program} (w : World) (src dst : TypeId) {x : Nat} {z : Int} (h : x = floatOfInt .f64 z) (hs : (P.underlying src).isSome = true) (hd : P.underlying dst = some (.float .f64)) :
    (convert src dst (.int .i64 z)).run P w = .ok (.float .f64 x) w := by
  rw [run_convert_int_float w src dst .i64 .f64 z hs hd, h]
theorem upC_set (l : List (Nat × Nat)) (k : Nat) (h : k < l.length) : (cvals (upC k) ++ cvals (l.drop k)).set k (.complex .f32 (markC k).1 1065353216) = cvals (upC (k + 1)) ++ cvals (l.drop (k + 1)) := by
  have hl : (cvals (upC k)).length = k := by simp [cvals, upC]
  have h1 : l.drop k = l[k] :: l.drop (k + 1) := List.drop_eq_getElem_cons h
  have h2 : upC (k + 1) = upC k ++ [markC k] := by
    unfold upC
    rw [List.range_succ, List.map_append]; rfl
  rw [List.set_append_right _ _ (by omega), hl, Nat.sub_self, h1, h2]
  unfold cvals
  rw [List.map_cons, List.set_cons_zero, List.map_append, List.append_assoc]; rfl
theorem upC_cell {w : World} {a : Option Addr} {n : Nat} (hn : n ≤ 256) (h : CRow w a (upC n)) : ∀ k, k < n → ∃ b o, a = some ⟨b, o, none⟩ ∧ ∃ x y, w.cell? ⟨b, o + k, none⟩ = some (.complex .f32 y 1065353216) ∧ x = floatOfInt .f64 ((k : Int) + 1) ∧ (FloatKind.f32.format.order y y == some .eq) = true ∧ ∀ r, FConv .f64 .f32 x r → r = y := by
  intro k hk
  obtain ⟨b, o, ha, -, hc⟩ := h k (by rw [upC_len]; exact hk)
  refine ⟨b, o, ha, _, (markC k).1, ?_, rfl, cmark_self k (by omega), fun r hr => mark_is (by omega) rfl hr⟩
  rw [hc, cgetD (by rw [upC_len]; exact hk)]
  unfold upC
  rw [List.getElem_map, List.getElem_range]; rfl
set_option maxHeartbeats 400000 in
theorem heldC_any (a : Option Addr) (cap n : Nat) (hn : n ≤ 256) (w : World) (h : CRow w a (upC n)) :
    Calls Tryd.prog 37 #[.slice a n cap, .int .i64 1] w fun e w' => e = .returned (.int .i64 ((n : Int) + 1)) ∧ ∃ m, w' = w.drewN m := by
  have hH := hidI (upC_cell hn h)
  have hOne := one_self
  clear h
  go_enter Tryd.func37, Tryd.ntmps37
  go_wp2
  go_loopw [1, 5] (fun q i wr => ∃ k m : Nat, wr = w.drewN m ∧ k ≤ n ∧ i = .int .i64 k ∧ q = .int .i64 ((k : Int) + 1)) (fun _ i _ => n - (intOf i).toNat)
  case atStart => exact ⟨0, 0, rfl, Nat.zero_le _, rfl, rfl⟩
  case round =>
    obtain ⟨k, m, rfl, hk, rfl, rfl⟩ := hrel
    by_cases hlt : k < n
    · obtain ⟨b, o, rfl, x, y, hc, hx, ht, hr⟩ := hH.out k hlt
      have hcv := fun wx => run_mark64 (P := Tryd.prog) wx 3 58 hx (by rw [Tryd.underlying3]; rfl) Tryd.underlying58
      have hwf := mark_wf hx
      have hR := hidI hr
      clear hx hr
      go_wp2_with (refine wpList_cconvC rfl 68 66 _ rfl .f64 .f32 x 4607182418800017408 rfl hwf one_wf Tryd.underlying68 Tryd.underlying66 ?_; intro r t n1 h1 h2; obtain rfl := hR.out r h1; obtain rfl := one_is h2)
      go_roundw
      case rel => exact ⟨k + 1, m + n1, rfl, by omega, by go_num, by go_num⟩
      case measure => simp [intOf]; omega
    · have hk' : k = n := by omega
      subst hk'
      go_wp2
      go_ret
      exact ⟨rfl, m, rfl⟩
set_option maxHeartbeats 400000 in
theorem markC_any (B g cap n : Nat) (l : List (Nat × Nat)) (hn : l.length = n) (hn2 : n ≤ 256) (w : World) (h : w.ownsRow B 66 1 (.slice (some ⟨g, 0, none⟩) n cap) n (cvals l)) (hg : B ≤ g) :
    Calls Tryd.prog 36 #[.slice (some ⟨g, 0, none⟩) n cap, .int .i64 1] w fun e w' => e = .returned (.int .i64 ((n : Int) + 1)) ∧ w'.ownsRow B 66 1 (.slice (some ⟨g, 0, none⟩) n cap) n (cvals (upC n)) ∧ Below B w w' := by
  have hL := hidI hn
  have h0 := hidI h
  clear h hn
  go_enter Tryd.func36, Tryd.ntmps36
  go_wp2
  go_loopw [1, 5] (fun q i wr => ∃ (W : World) (k : Nat), W = wr ∧ k ≤ n ∧ i = .int .i64 k ∧ q = .int .i64 ((k : Int) + 1) ∧ Hid (W.ownsRow B 66 1 (.slice (some ⟨g, 0, none⟩) n cap) n (cvals (upC k) ++ cvals (l.drop k))) ∧ Hid (Below B w W)) (fun _ i _ => n - (intOf i).toNat)
  case atStart => exact ⟨_, 0, rfl, Nat.zero_le _, rfl, rfl, h0.out, Below.refl _ _⟩
  case round =>
    obtain ⟨W, k, rfl, hk, rfl, rfl, ho, hb⟩ := hrel
    by_cases hlt : k < n
    · have hlt' : k < l.length := by rw [hL.out]; exact hlt
      have hcell : ∃ v, W.cell? ⟨g, k, none⟩ = some v := by
        have h1 := ho.out.cellAt k (by omega)
        have h2 := ho.out.1
        rw [h1]
        exact ⟨_, List.getElem?_eq_getElem (by omega)⟩
      have hfro := ho.out.frozenAt k
      obtain ⟨x, hx⟩ : ∃ x, x = floatOfInt .f64 ((k : Int) + 1) := ⟨_, rfl⟩
      have hcv := fun wx => run_mark64 (P := Tryd.prog) wx 3 58 hx (by rw [Tryd.underlying3]; rfl) Tryd.underlying58
      have hwf := mark_wf hx
      have hR := hidI (fun r (h : FConv .f64 .f32 x r) => mark_is (by omega) hx h)
      have hS := hidI (fun (m : Nat) => by
        have hst := World.ownsRow.stored (w := W.drewN m) ho.out k (.complex .f32 (markC k).1 1065353216)
        rw [upC_set l k hlt'] at hst
        exact hst.1)
      have hB := hidI (fun (m : Nat) => (Below.draws hb.out m).setCell (p := ⟨g, k, none⟩) hg (.complex .f32 (markC k).1 1065353216))
      clear hlt' hx
      generalize (markC k).1 = y at hR hS hB
      obtain ⟨old, hcell⟩ := hcell
      go_wp2_with (refine wpList_cconvC rfl 68 66 _ rfl .f64 .f32 x 4607182418800017408 rfl hwf one_wf Tryd.underlying68 Tryd.underlying66 ?_; intro r t n1 h1 h2; obtain rfl := hR.out r h1; obtain rfl := one_is h2)
      go_roundw
      case rel => exact ⟨_, k + 1, rfl, by omega, by go_num, by go_num, hS.out n1, hB.out n1⟩
      case measure => simp [intOf]; omega
    · have hk' : k = n := by omega
      subst hk'
      have hE := ho.out
      rw [List.drop_of_length_le (by rw [hL.out]; exact Nat.le_refl _)] at hE
      have hE2 := hidI (show W.ownsRow B 66 1 (.slice (some ⟨g, 0, none⟩) k cap) k (cvals (upC k)) from by simpa [cvals] using hE)
      clear hE
      go_wp2
      go_ret
      exact ⟨rfl, hE2.out, hb.out⟩
theorem markC_nil (w : World) :
    Calls Tryd.prog 36 #[.slice none 0 0, .int .i64 1] w fun e w' => e = .returned (.int .i64 1) ∧ w = w' := by
  go_enter Tryd.func36, Tryd.ntmps36
  go_wp2
  go_loop [1, 5] (fun q i => i = .int .i64 0 ∧ q = .int .i64 1) (fun _ _ => 0)
  case atStart => exact ⟨rfl, rfl⟩
  case round =>
    obtain ⟨rfl, rfl⟩ := hrel
    go_wp2
    go_ret
    exact ⟨rfl, rfl⟩
theorem resC_row {w : World} {b n : Nat} {v : Value} {l : List (Nat × Nat)} (hn : l.length = n) (h : w.ownsRow b 66 1 v n (cvals l)) : ∃ a cap, v = .slice a n cap ∧ CRow w a l := by
  rcases h.2 with ⟨rfl, h0⟩ | ⟨g, cap, cur, rfl, hb, hg, rest⟩
  · subst h0
    have : l = [] := List.eq_nil_of_length_eq_zero hn
    subst this
    exact ⟨none, 0, rfl, fun i hi => by simp at hi⟩
  · refine ⟨_, cap, rfl, fun i hi => ⟨g, 0, rfl, (Array.getElem?_eq_some_iff.1 hg).1, ?_⟩⟩
    have := h.cellAt i (by omega)
    rw [Nat.zero_add, this]
    simp [cvals, List.getD, List.getElem?_eq_getElem hi]
theorem markC_res (a : Option Addr) (cap n b : Nat) (l : List (Nat × Nat)) (hn : l.length = n) (hn2 : n ≤ 256) (w : World) (h : w.ownsRow b 66 1 (.slice a n cap) n (cvals l)) :
    Calls Tryd.prog 36 #[.slice a n cap, .int .i64 1] w fun e w' => e = .returned (.int .i64 ((n : Int) + 1)) ∧ w'.ownsRow b 66 1 (.slice a n cap) n (cvals (upC n)) ∧ Below b w w' := by
  have h' := h
  rcases h'.2 with ⟨hv, h0⟩ | ⟨g, c, cur, hv, hb, -⟩
  · subst h0
    cases hv
    refine (markC_nil w).mono ?_
    rintro e w' ⟨rfl, rfl⟩
    exact ⟨rfl, World.ownsRow_nil _ _ _ _, Below.refl _ _⟩
  · cases hv
    exact markC_any b g cap n l hn hn2 w h hb
theorem pairsOf_len (s : ByteArray) : (pairsOf s).length ≤ 256 := by
  unfold pairsOf numC
  split
  · simp
  · split
    · next h =>
      unfold okC at h
      rw [Bool.and_eq_true, decide_eq_true_iff] at h
      rw [List.length_map]; exact h.2
    · simp
theorem readX_lt (x : ByteArray) : readX x < 4294967296 := by
  unfold readX
  split
  · next h =>
    obtain ⟨n, h1, h2, -⟩ := readXB_iff.1 h
    obtain ⟨-, h4⟩ := svH_inv h1
    rw [h2, pow16_8] at h4
    rw [h1]; exact h4
  · omega
theorem pairsOf_wf (s : ByteArray) : CWf (pairsOf s) := by
  intro i hi
  have hm : (pairsOf s).getD i (0, 0) ∈ pairsOf s := by
    rw [cgetD hi]; exact List.getElem_mem _
  generalize (pairsOf s).getD i (0, 0) = x at hm
  unfold pairsOf numC at hm
  split at hm
  · cases hm
  · split at hm
    · obtain ⟨y, -, rfl⟩ := List.mem_map.1 hm
      exact ⟨wf_of_lt _ _ (readX_lt _), wf_of_lt _ _ (readX_lt _)⟩
    · cases hm
def RC (f : Nat) (s : ByteArray) (n : Nat) (b : Bool) (l : List (Nat × Nat)) (w : World) : Prop :=
  Calls Tryd.prog f #[.string s] w fun e w' => ∃ a cap, e = .returned (.tuple #[.slice a n cap, .bool b]) ∧ w'.ownsRow w.heap.size 66 1 (.slice a n cap) n (cvals l) ∧ CRow w' a l ∧ Below w.heap.size w w'
theorem rc_of {f : Nat} {s : ByteArray} {b : Bool} {l : List (Nat × Nat)} {n : Nat} (hn : l.length = n) {w : World} (h : Calls Tryd.prog f #[.string s] w fun e w' => ∃ v, e = .returned (.tuple #[v, .bool b]) ∧ w'.ownsRow w.heap.size 66 1 v l.length (cvals l) ∧ Below w.heap.size w w') : RC f s n b l w := by
  refine h.mono ?_
  rintro e w' ⟨v, rfl, ho, hB⟩
  rw [hn] at ho
  obtain ⟨a, cap, rfl, hr⟩ := resC_row hn ho
  exact ⟨a, cap, rfl, ho, hr, hB⟩
set_option maxRecDepth 100000 in
set_option maxHeartbeats 4000000 in
theorem law_ReadComplex (s : ByteArray) (hs : s.size ≤ 1048576) (w : World) (m : Int) (hm : w.cell? ⟨8, 0, none⟩ = some (.int .i64 m)) (hO : HexOk w) :
    Calls Tryd.prog 10 #[.string s] w fun e w' => e = .returned (.bool true) ∧ Below w.heap.size w w' := by
  obtain ⟨n, hn⟩ : ∃ n, (pairsOf s).length = n := ⟨_, rfl⟩
  have hn2 : n ≤ 256 := by have := pairsOf_len s; omega
  have hwf := pairsOf_wf s
  have hS := hidI (fun w => rc_of hn (sreadcx_any s hs w))
  have hI := hidI (fun w hm hO => rc_of hn (ireadcx_any s hs w m hm hO))
  have hE := hidI (fun a b ca cb w ha hb => eqC_any a b ca cb (pairsOf s) (by omega) hwf w ha hb)
  have hM := hidI (fun a cap b w h => markC_res a cap n b (pairsOf s) hn hn2 w h)
  have hH := hidI (fun a cap w h => heldC_any a cap n hn2 w h)
  have hUp : (upC n).length = n := upC_len n
  have hUpR := hidI (fun (w : World) (b : Nat) (v : Value) h => resC_row (w := w) (b := b) (v := v) hUp h)
  rw [hn] at hE
  have hC := hidI hm
  have hQ := hidI hO
  generalize listOkC s = q at hS hI
  generalize pairsOf s = l at hS hI hE hM
  clear hm hO hn hUp hwf
  unfold RC at hS hI
  go_enter Tryd.func10, Tryd.ntmps10
  go_wp2_with (first
    | (go_at_call 37; refine (hH.out _ _ (w5.drewN m6) M5.out).mono ?_; rintro e w8 ⟨rfl, d8, rfl⟩)
    | (go_at_call 37; refine (hH.out _ _ _ M4.out).mono ?_; rintro e w8 ⟨rfl, d4, rfl⟩)
    | (go_at_call 35; refine (hE.out _ _ _ _ _ R2.out R05.out).mono ?_; rintro e w6 ⟨rfl, m6, rfl⟩)
    | (go_at_call 35; refine (hE.out _ _ _ _ _ R1.out R02.out).mono ?_; rintro e w3 ⟨rfl, m3, rfl⟩)
    | (go_at_call 36; refine (hM.out _ _ _ (w2.drewN m3) O1.out).mono ?_; rintro e w4 ⟨rfl, o4, B4⟩; have b4 := hidI ((Below.draws b2.out m3).trans (B4.mono b1.out.size)); have R04 := hidI (R0.out.below ((Below.draws hB2.out m3).trans B4)); have M4 := hidI (hUpR.out _ _ _ o4); obtain ⟨a4, c4, e4, r4⟩ := M4.out; cases e4; clear M4; have M4 := hidI r4; clear o4 B4 r4)
    | (go_at_call 34; refine (hI.out _ (cmax hC.out (Below.draws b4.out d4)) (hQ.out.stays (Below.draws b4.out d4))).mono ?_; rintro e w5 ⟨a2, c2, rfl, o2, r2, B5⟩; have b5 := hidI ((Below.draws b4.out d4).trans (B5.mono b4.out.size)); have R05 := hidI (CRow.below (w := w4.drewN d4) R04.out B5); have M5 := hidI (CRow.below (w := w4.drewN d4) M4.out B5); have R2 := hidI r2; clear o2 r2 B5)
    | (go_at_call 33; refine (hS.out _).mono ?_; rintro e w1 ⟨a0, c0, rfl, o0, r0, B1⟩; have b1 := hidI B1; have R0 := hidI r0; clear o0 r0 B1)
    | (go_at_call 34; refine (hI.out _ (cmax hC.out b1.out) (hQ.out.stays b1.out)).mono ?_; rintro e w2 ⟨a1, c1, rfl, o1, r1, B2⟩; have hB2 := hidI B2; have b2 := hidI (b1.out.trans (B2.mono b1.out.size)); have R02 := hidI (R0.out.below B2); have O1 := hidI o1; have R1 := hidI r1; clear o1 r1 B2))
  all_goals go_ret
  all_goals exact ⟨rfl, Below.draws b5.out _⟩
theorem law_ReadComplex_long (s : ByteArray) (hs : 1048576 < s.size) (w : World) :
    Calls Tryd.prog 10 #[.string s] w fun e w' => e = .returned (.bool true) ∧ Below w.heap.size w w' := by
  go_enter Tryd.func10, Tryd.ntmps10
  go_wp2
  go_ret
  exact ⟨rfl, Below.refl _ _⟩
theorem law_ReadComplexAll (s : ByteArray) (_ : s.size ≤ maxLen) (w : World) (hL : laidMetH Tryd.prog Rows.fnExactReadComplexRow.laid w) (hsh : w.ShapedOpen Tryd.prog) :
    Calls Tryd.prog 10 #[.string s] w fun e w' => e = .returned (.bool true) ∧ Below w.heap.size w w' := by
  have hO : HexOk w := by
    rw [MakeChecks.laidMetH_plain _ _ _ (by kernel_rfl)] at hL
    have h0 := laidMet.tail (show laidMet Tryd.prog (_ :: _ :: _ :: _ :: _ :: _ :: _ :: []) w from hL)
    have h1 := laidMet.tail (laidMet.tail (laidMet.tail h0))
    exact ⟨tab_head h0, err_head (by kernel_rfl) (laidMet.tail h1), err_head (by kernel_rfl) h1⟩
  obtain ⟨m, hm⟩ := maxlen_cell hsh
  by_cases hs : s.size ≤ 1048576
  · exact law_ReadComplex s hs w m hm hO
  · exact law_ReadComplex_long s (by omega) w
end Go.Proofs.YtogliigpoojfoaaDoor
