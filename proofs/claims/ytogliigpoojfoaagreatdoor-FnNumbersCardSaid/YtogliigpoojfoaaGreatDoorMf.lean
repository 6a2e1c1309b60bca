/-
  The law on numbers: bits, texts, sums and angles: the walk.
-/
import Derived.Test.YtogliigpoojfoaaGreatDoorKd
import Derived.Test.YtogliigpoojfoaaGreatDoorKc
import Derived.Deep.QuietTactic
import Derived.Deep.RegionWith
import Derived.BigQuiet
namespace Go.Proofs.YtogliigpoojfoaaGreatDoor
set_option maxRecDepth 100000
open Go.RowKit Fl

theorem resF_rowC {w : World} {b n : Nat} {v : Value} {l : List Nat} (hn : l.length = n) (h : w.ownsRow b 28 1 v n (vals l)) : ∃ a cap, v = .slice a n cap ∧ FRow w a l := by
  rcases h.2 with ⟨rfl, h0⟩ | ⟨g, cap, cur, rfl, hb, hg, rest⟩
  · subst h0
    have : l = [] := List.eq_nil_of_length_eq_zero hn
    subst this
    exact ⟨none, 0, rfl, fun i hi => by simp at hi⟩
  · refine ⟨_, cap, rfl, fun i hi => ⟨g, 0, rfl, (Array.getElem?_eq_some_iff.1 hg).1, ?_⟩⟩
    have := h.cellAt i (by omega)
    rw [Nat.zero_add, this]
    simp [vals, List.getD, List.getElem?_eq_getElem hi]
theorem row_own {w : World} {b g vc n : Nat} {l : List Nat} (hn : l.length = n) (h : w.ownsRow b 28 1 (.slice (some ⟨g, 0, none⟩) n vc) n (vals l)) : FRow w (some ⟨g, 0, none⟩) l := by
  obtain ⟨a, c, e, hr⟩ := resF_rowC hn h
  cases e
  exact hr
theorem row_at {w : World} {a : Option Addr} {l : List Nat} (h : FRow w a l) {k : Nat} (hk : k < l.length) : ∃ b o, a = some ⟨b, o, none⟩ ∧ w.cell? ⟨b, o + k, none⟩ = some (.float .f32 l[k]) := by
  obtain ⟨b, o, ha, -, hc⟩ := h k hk
  rw [getD_get hk] at hc
  exact ⟨b, o, ha, hc⟩
/-- What the program reads back of a text of numbers. -/
theorem read_back (L : List Nat) (k : Nat) (hk : L.length = k) (h256 : k ≤ 256) (hw : AllWf L) (w : World) (m : Int) (hm : w.cell? ⟨4, 0, none⟩ = some (.int .i64 m)) (hR : HexOk w) :
    Calls Tryz.prog 32 #[.string (wtext L)] w fun e w' => ∃ a cap, e = .returned (.tuple #[.slice a k cap, .bool true]) ∧ FRow w' a (L.map bitsN) ∧ Below w.heap.size w w' := by
  obtain ⟨h1, h2, h3⟩ := wtext_back L (by omega) hw
  refine (ireadnum_any (wtext L) h3 w m hm hR).mono ?_
  rintro e w' ⟨v, rfl, ho, hB⟩
  rw [h2] at ho
  have hl : (L.map bitsN).length = k := by rw [List.length_map]; exact hk
  rw [hl] at ho
  obtain ⟨a, c, rfl, hr⟩ := resF_rowC hl ho
  rw [h1]
  exact ⟨a, c, rfl, hr, hB⟩
theorem text_of (L : List Nat) (k : Nat) (hk : L.length = k) (h256 : k ≤ 256) (hw : AllWf L) (a : Option Addr) (cap : Nat) (w : World) (h : FRow w a L) (hT : TabOk w) :
    Calls Tryz.prog 31 #[.slice a k cap] w fun e w' => e = .returned (.tuple #[.string (wtext L), .bool true]) ∧ Below w.heap.size w w' := inumtext_few a cap L k hk h256 hw w h hT
theorem sum_of (L : List Nat) (k : Nat) (hk : L.length = k) (h256 : k ≤ 256) (a : Option Addr) (cap : Nat) (w : World) (h : FRow w a L) :
    Calls Tryz.prog 30 #[.slice a k cap] w fun e w' => ∃ r, mean .f32 r = sumM L ∧ e = .returned (.tuple #[.float .f32 r, .bool true]) ∧ ∃ n, w' = w.drewN n := by
  have := isumn_any a cap L (by omega) w h
  have e1 : sumOf L = sumM L := if_pos (by omega)
  have e2 : fewB L = true := decide_eq_true (by omega)
  rw [hk, e1, e2] at this
  refine this.mono ?_
  rintro e w' ⟨r, ⟨hr, -⟩, rfl, n, rfl⟩
  exact ⟨r, hr, rfl, n, rfl⟩
theorem quiet_addM {P : Program} {f : FuncId} {args : Array Value} {w : World} {a n : Nat} {v : Value}
    (h : Calls P f args (w.drewN (a + n)) fun e w' => e = .returned v ∧ w' = w.drewN (a + n)) : Calls P f args (w.drewN (a + n)) fun e w'' => e = .returned v ∧ ∃ m, w'' = w.drewN (a + m) :=
  h.mono fun _ _ ⟨he, hm⟩ => ⟨he, n, hm⟩
theorem same_is {a b : Nat} {q : Bool} (h : sameB a b = q) (w : World) :
    Calls Tryz.prog 10 #[.float .f32 a, .float .f32 b] w fun e w' => e = .returned (.bool q) ∧ w = w' := by
  refine (ssame_any a b w).mono ?_
  rintro e w' ⟨rfl, rfl⟩
  rw [h]
  exact ⟨rfl, rfl⟩
theorem same_at {a b : Nat} {q : Bool} (h : sameB a b = q) (w : World) :
    Calls Tryz.prog 10 #[.float .f32 a, .float .f32 b] w fun e w' => e = .returned (.bool q) ∧ w' = w := by
  refine (ssame_any a b w).mono ?_
  rintro e w' ⟨rfl, rfl⟩
  rw [h]
  exact ⟨rfl, rfl⟩
theorem one_eq : (FloatKind.f32.format.order 1065353216 1065353216 == some .eq) = true := by decide +kernel
theorem quarter_wf : (Lit.float .f32 1048576000).wf = true := by decide
set_option maxHeartbeats 8000000 in
theorem law_FnNumbers_few (a0 a1 : Option Addr) (c0 c1 : Nat) (l0 l1 : List Int) (n0 n1 : Nat) (h0 : n0 ≤ 1048576) (h1 : n1 ≤ 1048576) (w : World) (hb0 : Bytes w a0 l0 n0) (hb1 : Bytes w a1 l1 n1) (m : Int) (hm : w.cell? ⟨4, 0, none⟩ = some (.int .i64 m)) (hO : HexOk w) :
    Calls Tryz.prog 4 #[.slice a0 n0 c0, .slice a1 n1 c1] w fun e w' => e = .returned (.bool true) ∧ Below w.heap.size w w' := by
  have hB0 := hidI hb0
  have hB1 := hidI hb1
  have hM := hidI hm
  have hX := hidI hO
  have hN0 := hidI (fun w h => bnumber_any a0 c0 l0 n0 h0 w h)
  have hN1 := hidI (fun w h => bnumber_any a1 c1 l1 n1 h1 w h)
  have hNs := hidI (fun N (hN : N ≤ 100) w h => bnumbers_any a1 c1 l1 n1 h1 N hN w h)
  have hAt := hidI (fun w (h : Bytes w a0 l0 n0) => (show Calls Tryz.prog 16 #[.slice a0 n0 c0, .int .i64 0, .int .i64 12] w fun e w' => ∃ k : Nat, k < 12 ∧ e = .returned (.int .i64 k) ∧ ∃ m, w' = w.drewN m from by
    have := at_any a0 c0 l0 (by rw [h.len]; exact h0) 0 12 (by omega) (by omega) (by omega) w h.row h.all
    rw [h.len] at this
    exact this))
  clear hb0 hb1 hm hO
  go_enter Tryz.func4, Tryz.ntmps4
  go_wp2_with (first
    | (go_at_call 5; refine (long_no _ _ _ _ _ _ h0 h1 _).mono ?_; rintro e w' ⟨rfl, rfl⟩)
    | (go_at_call 19; refine (hN1.out _ (hB1.out.below b1.out)).mono ?_; rintro e w2 ⟨y, hy, rfl, hB⟩; have hY := hidI hy; have b2 := hidI (b1.out.trans (hB.mono b1.out.size)); clear hy hB)
    | (go_at_call 19; refine (hN0.out _ hB0.out).mono ?_; rintro e w1 ⟨x, hx, rfl, hB⟩; have hX1 := hidI hx; have b1 := hidI hB; clear hx hB)
    | (go_at_call 21; refine (ibits_any _ _).mono ?_; rintro e w' ⟨rfl, rfl⟩)
    | (go_at_call 20; refine (ifrom_any _ _).mono ?_; rintro e w' ⟨rfl, rfl⟩; rw [(from_own (lt_of_wf hX1.out)).1, (from_own (lt_of_wf hX1.out)).2])
    | (go_at_call 28; refine (iflush_any _ hX1.out _).mono ?_; rintro e w' ⟨rfl, m1, rfl⟩)
    | (go_at_call 16; refine (hAt.out _ ((hB0.out.below b2.out).draws _)).mono ?_; rintro e w' ⟨k, hk, rfl, m2, rfl⟩)
    | (go_at_call 29; refine (hNs.out k (by omega) _ ((hB1.out.below b2.out).draws _)).mono ?_; rintro e w3 ⟨g, vc, L, hL1, hL2, rfl, ho, hB⟩; have hLen := hidI hL1; have hWf := hidI hL2; have hOwn := hidI ho; have b3 := hidI (Below.trans (Below.draws b2.out _) (hB.mono b2.out.size)); clear hL1 hL2 ho hB))
  have hRow := hidI (row_own hLen.out hOwn.out)
  go_loopw [11, 41] (fun s i wr => ∃ (j d s0 : Nat), wr = w3.drewN d ∧ j ≤ k ∧ i = .int .i64 j ∧ s = .float .f32 s0 ∧ Hid (mean .f32 s0 = sumM (L.take j))) (fun _ i _ => k - (intOf i).toNat)
  case atStart => exact ⟨0, 0, 0, rfl, Nat.zero_le _, rfl, rfl, by show mean .f32 0 = some 0; decide +kernel⟩
  case round =>
    obtain ⟨j, d, s0, rfl, hj, rfl, rfl, hsum⟩ := hrel
    by_cases hjk : j < k
    · have hjL : j < L.length := by rw [hLen.out]; exact hjk
      obtain ⟨b, o, hab, hc⟩ := row_at hRow.out hjL
      cases hab
      rw [Nat.zero_add] at hc
      have hst := hidI (sumM_snoc L j hjL)
      generalize L[j] = z at hc hst
      clear hjL
      go_wp2_with (refine wpList_float rfl .add _ _ _ _ rfl rfl .f32 s0 z rfl rfl ?_; intro r n hr)
      go_roundw
      case rel => exact ⟨j + 1, d + n, r, rfl, by omega, by go_num, rfl, by show _ = _; rw [hst.out, ← hsum.out]; exact hr.1⟩
      case measure => simp [intOf]; omega
    · have hjk' : j = k := by omega
      subst hjk'
      have hs1 := hsum.out
      rw [List.take_of_length_le (by rw [hLen.out]; exact Nat.le_refl _)] at hs1
      have hSm := hidI hs1
      clear hsum hs1 hjk
      have hwx := hX1.out
      have hwy := hY.out
      have hltx := lt_of_wf hwx
      have h256 : j ≤ 256 := by omega
      have hSO := hidI (fun a c w h => sum_of L j hLen.out h256 a c w h)
      have hTO := hidI (fun a c w h hT => text_of L j hLen.out h256 hWf.out a c w h hT)
      have hRO := hidI (fun w hm hR => read_back L j hLen.out h256 hWf.out w m hm hR)
      have q1 : sameB (bitsN x) x = true := sameB_own hltx
      have q2 : subB (flushN x) = false := flush_no
      have q3 : (subB x == sameB x (flushN x)) = false := flush_diff hwx
      have hzw := hidI (flushN_lt hwx)
      clear hltx
      go_wp2_with (first
        | (go_at_call 30; refine (hSO.out _ _ _ (hRow.out.drewN _)).mono ?_; rintro e w' ⟨r, hr, rfl, m3, rfl⟩; have q4 : sameB r s0 = true := sameB_mean (hr.trans hSm.out.symm); clear hr)
        | (go_at_call 31; refine (hTO.out _ _ _ (hRow.out.drewN _) (hX.out.tab.stays (Below.draws b3.out _))).mono ?_; rintro e w4 ⟨rfl, hB⟩; have b4 := hidI (Below.trans (Below.draws b3.out _) (hB.mono b3.out.size)); have hRow4 := hidI (hRow.out.below (Below.trans (Below.draws (Below.refl _ _) _) hB)); clear hB)
        | (go_at_call 32; refine (hRO.out _ (cmax hM.out b4.out) (hX.out.stays b4.out)).mono ?_; rintro e w5 ⟨a5, c5, rfl, hr5, hB⟩; have b5 := hidI (b4.out.trans (hB.mono b4.out.size)); have hRow5 := hidI (hRow4.out.below hB); have hRd := hidI hr5; clear hr5 hB)
        | (go_at_call_of 33 (Value.float .f32 (flushN x)); refine (isub_any _ hzw.out _).mono ?_; rintro e w' ⟨rfl, m5, rfl⟩; rw [q2])
        | (go_at_call 33; refine (isub_any _ hwx _).mono ?_; rintro e w' ⟨rfl, m6, rfl⟩)
        | (go_at_call_of 10 (Value.float .f32 (bitsN x)); refine (same_is q1 _).mono ?_; rintro e w' ⟨rfl, rfl⟩)
        | (go_at_call_of 10 (Value.float .f32 s0); refine (same_is q4 _).mono ?_; rintro e w' ⟨rfl, rfl⟩)
        | (go_at_call 10; refine (same_is rfl _).mono ?_; rintro e w' ⟨rfl, rfl⟩))
      go_loopw [113] (fun i wr => ∃ (q d : Nat), wr = w5.drewN d ∧ q ≤ j ∧ i = .int .i64 q) (fun i _ => j - (intOf i).toNat)
      case atStart => exact ⟨0, _, rfl, Nat.zero_le _, rfl⟩
      case round =>
        obtain ⟨q, d2, rfl, hq, rfl⟩ := hrel
        clear q1 q2 q3 q4
        by_cases hqj : q < j
        · have hqL : q < L.length := by rw [hLen.out]; exact hqj
          have hqB : q < (L.map bitsN).length := by rw [List.length_map]; exact hqL
          obtain ⟨b6, o6, rfl, hc6⟩ := row_at hRd.out hqB
          obtain ⟨b7, o7, hab, hc7⟩ := row_at hRow5.out hqL
          cases hab
          rw [Nat.zero_add] at hc7
          rw [List.getElem_map] at hc6
          have hsm := hidI (sameB_own (hWf.out.lt hqL))
          generalize L[q] = z at hc6 hc7 hsm
          clear hqL hqB
          have hqI : (q : Int) < (j : Int) := by omega
          go_wp2_with fail
          go_quiet ((go_at_call 10; exact quiet_addM (same_at hsm.out _)))
          go_wp2
          go_roundw
          case rel => exact ⟨q + 1, _, rfl, by omega, by go_num⟩
          case measure => simp [intOf]; omega
        · have hqj' : q = j := by omega
          subst hqj'
          have t1 : (FloatKind.f32.format.order 1065353216 1065353216 == some .eq) = true := one_eq
          have hSn := hidI (fun w => isineT_any 1048576000 quarter_wf w)
          go_wp2_with (first
            | (go_at_call 34; refine (iangle_any y x hwy hwx _).mono ?_; rintro e w8 ⟨g1, hg1, rfl, hL⟩; have b8 := hidI (Below.trans (Below.draws b5.out _) (hL.below.mono b5.out.size)); have hA1 := hidI hg1; clear hg1 hL)
            | (go_at_call 35; refine (iangof_anyC x y hwx hwy _).mono ?_; rintro e w9 ⟨g2, hg2, rfl, hL⟩; have b9 := hidI (b8.out.trans (hL.below.mono b8.out.size)); have q5 : sameB g1 g2 = true := sameB_mean (hA1.out.1.trans hg2.1.symm); clear hg2 hL)
            | (go_at_call_of 10 (Value.float .f32 g1); refine (same_is q5 _).mono ?_; rintro e w' ⟨rfl, rfl⟩)
            | (refine wpList_fconv rfl _ _ _ rfl .f32 .f64 _ rfl hwx (by rw [Tryz.underlying28]; rfl) Tryz.underlying46 ?_; intro xd n7 hxd; have hXd := hidI hxd; clear hxd)
            | (go_at_call 36; refine (inarrow_any _ hXd.out.2 _).mono ?_; rintro e w' ⟨r9, hr9, rfl, n9, rfl⟩; have q6 : sameB r9 x = true := sameB_mean (narrow_same hwx hXd.out hr9); clear hr9)
            | (go_at_call_of 10 (Value.float .f32 r9); refine (same_is q6 _).mono ?_; rintro e w' ⟨rfl, rfl⟩)
            | (go_at_call 37; refine (hSn.out _).mono ?_; rintro e w' ⟨g3, hg3, rfl, n10, rfl⟩; obtain rfl := sine_quarter hg3))
          all_goals go_ret
          all_goals exact ⟨rfl, Below.draws b9.out _⟩
theorem law_FnNumbers_long (a0 a1 : Option Addr) (c0 c1 n0 n1 : Nat) (h : ¬ (n0 ≤ 1048576 ∧ n1 ≤ 1048576)) (w : World) :
    Calls Tryz.prog 4 #[.slice a0 n0 c0, .slice a1 n1 c1] w fun e w' => e = .returned (.bool true) ∧ Below w.heap.size w w' := by
  have hN := hidI h
  clear h
  go_enter Tryz.func4, Tryz.ntmps4
  go_wp2_with (go_at_call 5; refine (long_yes _ _ _ _ _ _ hN.out _).mono ?_; rintro e w' ⟨rfl, rfl⟩)
  go_ret
  exact ⟨rfl, Below.refl _ _⟩
theorem law_FnNumbers (a0 : Option Addr) (c0 : Nat) (l0 : List Int) (a1 : Option Addr) (c1 : Nat) (l1 : List Int) (w : World) (r0 : IRow .u8 w a0 l0) (i0 : IAll .u8 l0) (r1 : IRow .u8 w a1 l1) (i1 : IAll .u8 l1) (hL : laidMetH Tryz.prog Rows.fnNumbersRow.laid w) (hsh : w.ShapedOpen Tryz.prog) :
    Calls Tryz.prog 4 #[.slice a0 l0.length c0, .slice a1 l1.length c1] w fun e w' => e = .returned (.bool true) ∧ Below w.heap.size w w' := by
  by_cases hs : l0.length ≤ 1048576 ∧ l1.length ≤ 1048576
  · have hO : HexOk w := by
      rw [MakeChecks.laidMetH_plain _ _ _ (by kernel_rfl)] at hL
      have h0 := laidMet.tail (show laidMet Tryz.prog (_ :: _ :: _ :: _ :: _ :: _ :: _ :: []) w from hL)
      have h1 := laidMet.tail (laidMet.tail (laidMet.tail h0))
      exact ⟨tab_head h0, err_head (by kernel_rfl) (laidMet.tail h1), err_head (by kernel_rfl) h1⟩
    obtain ⟨m, hm⟩ := maxlen_cell hsh
    exact law_FnNumbers_few a0 a1 c0 c1 l0 l1 _ _ hs.1 hs.2 w ⟨r0, i0, rfl⟩ ⟨r1, i1, rfl⟩ m hm hO
  · exact law_FnNumbers_long a0 a1 c0 c1 _ _ hs w
end Go.Proofs.YtogliigpoojfoaaGreatDoor
