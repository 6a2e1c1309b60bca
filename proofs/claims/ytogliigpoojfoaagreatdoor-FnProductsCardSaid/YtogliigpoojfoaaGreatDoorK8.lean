/-
  Several texts of this claim in one.
  Texts of lists of numbers: the reference's and the program's walks.
  Lists of numbers read from texts: the reference's walk.
  Lists of numbers read from texts: the program's walk, and both functions.
-/
import Derived.Test.YtogliigpoojfoaaGreatDoorK5
import Derived.Test.YtogliigpoojfoaaGreatDoorK6
import Derived.Test.YtogliigpoojfoaaGreatDoorK7
section
namespace Go.Proofs.YtogliigpoojfoaaGreatDoor
set_option maxRecDepth 100000
open Go.RowKit Fl

def wtext (l : List Nat) : ByteArray := textB (l.map hexT)
theorem FRow.tail_cell {w W : World} {a : Option Addr} {l : List Nat} (h : FRow w a l) (hb : Below w.heap.size w W) {k : Nat} (hk : k < l.length) : ∃ b o, a = some ⟨b, o, none⟩ ∧ W.cell? ⟨b, o + k, none⟩ = some (.float .f32 l[k]) := by
  obtain ⟨b, o, ha, hlt, hc⟩ := h.below hb k hk
  rw [getD_get hk] at hc
  exact ⟨b, o, ha, hc⟩
theorem AllWf.lt {l : List Nat} (h : AllWf l) {k : Nat} (hk : k < l.length) : l[k] < 4294967296 := by
  have := h k hk
  rw [getD_get hk] at this
  exact lt_of_wf this
theorem hexT_le {l : List Nat} : ∀ x ∈ l.map hexT, x.size ≤ 8 := by
  intro x hx
  obtain ⟨n, -, rfl⟩ := List.mem_map.1 hx
  rw [hexT_size]; exact Nat.le_refl _
theorem accB_hex (x : Nat) (xs : List Nat) (k : Nat) : (accB (hexT x) ((xs.map hexT).take k)).size ≤ 8 + 9 * xs.length := by
  have h1 := accB_size 8 ((xs.map hexT).take k) (hexT x) (fun y hy => hexT_le y (List.mem_of_mem_take hy))
  rw [hexT_size] at h1
  have h2 : ((xs.map hexT).take k).length ≤ xs.length := by rw [List.length_take, List.length_map]; omega
  omega
def few256 (n : Nat) : Bool := decide (n ≤ 256)
def nText (l : List Nat) : ByteArray := if few256 l.length then wtext l else ⟨#[]⟩
theorem sown_none (w : World) : (w.alloc (.cells #[] 9)).ownsRow w.heap.size 9 1 (.slice (some ⟨w.heap.size, 0, none⟩) 0 0) 0 (strs []) :=
  World.ownsRow_made w #[] 0 (Nat.le_refl _) (Nat.zero_le _) rfl
theorem sone_cell (W : World) (x : ByteArray) : ∀ (j : Nat) u, ([.string x] : List Value)[j]? = some u → (W.alloc (.cells #[.string x] 9)).cell? ((⟨W.heap.size, 0, none⟩ : Addr).add j) = some u := by
  intro j u hj
  have hj0 : j = 0 := by
    rcases Nat.lt_or_ge j 1 with c | c
    · omega
    · rw [List.getElem?_eq_none (by simpa using c)] at hj; cases hj
  subst hj0
  simp at hj
  subst hj
  exact new_cell _ _ _
theorem sone_flat (x : ByteArray) : ∀ u ∈ ([.string x] : List Value), u.oneCell' = true := by
  intro u hu
  simp at hu
  subst hu; rfl
theorem strs_hex (l : List Nat) (k : Nat) (h : k < l.length) : strs ((l.take k).map hexT) ++ [.string (hexT l[k])] = strs ((l.take (k + 1)).map hexT) := by
  unfold strs
  rw [List.take_succ_eq_append_getElem h, List.map_append, List.map_append]; rfl
theorem inumtext_long (a : Option Addr) (cap n : Nat) (h : 256 < n) (w : World) :
    Calls Tryz.prog 31 #[.slice a n cap] w fun e w' => e = .returned (.tuple #[.string ⟨#[]⟩, .bool false]) ∧ Below w.heap.size w w' := by
  go_enter Tryz.func31, Tryz.ntmps31
  go_wp2
  go_ret2
  exact ⟨rfl, Below.refl _ _⟩
set_option maxRecDepth 100000 in
set_option maxHeartbeats 2000000 in
theorem inumtext_few (a : Option Addr) (cap : Nat) (l : List Nat) (n : Nat) (hn : l.length = n) (h256 : n ≤ 256) (hw : AllWf l) (w : World) (h : FRow w a l) (hT : TabOk w) :
    Calls Tryz.prog 31 #[.slice a n cap] w fun e w' => e = .returned (.tuple #[.string (wtext l), .bool true]) ∧ Below w.heap.size w w' := by
  obtain ⟨i0, hi, hz0, hz1, hz2⟩ := info_parts Tryz.infoS
  have hI := hidI hi
  have hZ0 := hidI hz0
  have hZ1 := hidI hz1
  have hZ2 := hidI hz2
  clear hi hz0 hz1 hz2
  have hH := hidI h
  have hP := hidI hT
  have hHex := hidI (fun (k : Nat) (hk : k < l.length) (w : World) (hp : TabOk w) => ihex_any l[k] (hw.lt hk) w hp)
  have hEnd := hidI (fun (g cap base : Nat) W ho => lor_parts g cap n base 8 (l.map hexT) (by rw [List.length_map]; exact hn) (by omega) (by omega) hexT_le W ho)
  have hB0 := fun w => run_build0 (P := Tryz.prog) w Tryz.underlying68 Tryz.someS
  have hB1 := fun w c => run_buildS (P := Tryz.prog) w Tryz.underlying68 Tryz.sizeS Tryz.zeroS c
  have hNL := hidI hn
  clear h hT hw hn
  go_enter Tryz.func31, Tryz.ntmps31
  go_wp2
  go_loopw [4, 13] (fun v i wr => ∃ (W : World) (k g vc : Nat), W = wr ∧ k ≤ n ∧ i = .int .i64 k ∧ v = .slice (some ⟨g, 0, none⟩) k vc ∧ Hid (W.ownsRow w.heap.size 9 1 (.slice (some ⟨g, 0, none⟩) k vc) k (strs ((l.take k).map hexT))) ∧ Hid (Below w.heap.size w W)) (fun _ i _ => n - (intOf i).toNat)
  case atStart => exact ⟨_, 0, _, _, rfl, by omega, rfl, rfl, sown_none w, (Below.refl _ _).alloc (Nat.le_refl _) _⟩
  case round =>
    obtain ⟨W, k, g, vc, rfl, hk, rfl, rfl, hown, hbel⟩ := hrel
    by_cases hlt : k < n
    · have hlt' : k < l.length := by rw [hNL.out]; exact hlt
      obtain ⟨b, o, rfl, hc⟩ := hH.out.tail_cell hbel.out hlt'
      have hsn := hidI (strs_hex l k hlt')
      have hDk := hidI (hHex.out k hlt')
      generalize l[k] = x at hc hsn hDk
      clear hlt'
      generalize hexT x = s at hsn hDk
      go_wp2_with (first | (go_at_call 46; refine (hDk.out _ (hP.out.stays hbel.out)).mono ?_; rintro e w2 ⟨rfl, hB⟩; have o2 := hidI (owns_below hown.out hB); have b2 := hidI (hbel.out.trans (hB.mono hbel.out.size)); clear hB) | (refine wpList_append_own _ rfl _ _ 68 rfl w.heap.size 9 i0 (.string ⟨#[]⟩) 1 16 Tryz.underlying68 hI.out hZ0.out hZ1.out hZ2.out rfl (by omega) _ k _ rfl (o2.out.alloc _) ⟨w2.heap.size, 0, none⟩ 1 1 [.string s] rfl rfl (sone_cell _ _) (sone_flat _) ?c3 ?c4 (below_newH b2.out _) ?c6))
      case c3 => unfold maxLen; omega
      case c4 => omega
      intro v' w3 h2 h3 _
      rw [← List.map_take, hsn.out] at h2
      have b3 := hidI ((b2.out.alloc b2.out.size (.cells #[.string s] 9)).grown h3 (below_newH b2.out _) (owns_block o2.out))
      obtain ⟨g', vc', rfl, -, -, -⟩ := owns_shape h2 (Nat.succ_pos k)
      have o3 := hidI h2
      clear h2 h3
      go_wp2
      go_roundw
      case rel => exact ⟨w3, k + 1, g', vc', rfl, by omega, by go_num, rfl, o3.out, b3.out⟩
      case measure => simp [intOf]; omega
    · have hk' : k = n := by omega
      subst hk'
      have ho := hown.out
      rw [List.take_of_length_le (by rw [hNL.out]; exact Nat.le_refl _)] at ho
      have hE := hidI (hEnd.out g vc w.heap.size _ ho)
      clear ho hlt
      go_wp2_with (go_at_call 47; refine hE.out.mono ?_; rintro e w2 ⟨rfl, hB⟩; have b2 := hidI (hbel.out.trans (hB.mono hbel.out.size)); clear hB)
      go_ret2
      exact ⟨rfl, b2.out⟩
theorem inumtext_any (a : Option Addr) (cap : Nat) (l : List Nat) (hw : AllWf l) (w : World) (h : FRow w a l) (hT : TabOk w) :
    Calls Tryz.prog 31 #[.slice a l.length cap] w fun e w' => e = .returned (.tuple #[.string (nText l), .bool (few256 l.length)]) ∧ Below w.heap.size w w' := by
  unfold nText
  by_cases h256 : l.length ≤ 256
  · rw [show few256 l.length = true from decide_eq_true h256]
    exact inumtext_few a cap l _ rfl h256 hw w h hT
  · rw [show few256 l.length = false from decide_eq_false h256]
    exact inumtext_long a cap _ (by omega) w
end Go.Proofs.YtogliigpoojfoaaGreatDoor
end

section
namespace Go.Proofs.YtogliigpoojfoaaGreatDoor
set_option maxRecDepth 100000
open Go.RowKit Fl

def okX (P : List ByteArray) : Bool := P.all readXB && decide (P.length ≤ 256)
def numX (P : List ByteArray) : List Nat := if okX P then P.map readX else []
def listOkX (s : ByteArray) : Bool := if s = noneT then true else okX (cutT s)
def wordsOf (s : ByteArray) : List Nat := if s = noneT then [] else numX (cutT s)
theorem numX_no {P : List ByteArray} (h : okX P = false) : numX P = [] := by unfold numX; rw [h]; rfl
theorem numX_yes {P : List ByteArray} (h : okX P = true) : numX P = P.map readX := by unfold numX; rw [h]; rfl
theorem xall_push {P : List ByteArray} {k : Nat} (hk : k < P.length) (h : (P.take k).all readXB = true) (h2 : readXB P[k] = true) : (P.take (k + 1)).all readXB = true := by
  rw [List.take_succ_eq_append_getElem hk, List.all_append, h]
  simp [h2]
theorem xnums_push {P : List ByteArray} {k : Nat} (hk : k < P.length) : (P.take k).map readX ++ [readX P[k]] = (P.take (k + 1)).map readX := by
  rw [List.take_succ_eq_append_getElem hk, List.map_append]; rfl
theorem okX_no {P : List ByteArray} {k : Nat} (hk : k < P.length) (h : readXB P[k] = false) : okX P = false := by
  have : P.all readXB = false := by
    rw [List.all_eq_false]; exact ⟨P[k], List.getElem_mem _, by rw [h]; decide⟩
  unfold okX; rw [this, Bool.false_and]
theorem okX_long {P : List ByteArray} (h : 256 < P.length) : okX P = false := by
  unfold okX; rw [decide_eq_false (by omega), Bool.and_false]
theorem okX_yes {P : List ByteArray} {k : Nat} (hk : P.length ≤ k) (h : (P.take k).all readXB = true) (h2 : P.length ≤ 256) : okX P = true := by
  rw [List.take_of_length_le hk] at h
  unfold okX; rw [h, decide_eq_true h2]; rfl
theorem vals_push (P : List Nat) (x : Nat) : vals P ++ [.float .f32 x] = vals (P ++ [x]) := by unfold vals; rw [List.map_append]; rfl
theorem fone_cell (W : World) (x : Nat) : ∀ (j : Nat) u, ([.float .f32 x] : List Value)[j]? = some u → (W.alloc (.cells #[.float .f32 x] 28)).cell? ((⟨W.heap.size, 0, none⟩ : Addr).add j) = some u := by
  intro j u hj
  have hj0 : j = 0 := by
    rcases Nat.lt_or_ge j 1 with c | c
    · omega
    · rw [List.getElem?_eq_none (by simpa using c)] at hj; cases hj
  subst hj0
  simp at hj
  subst hj
  exact new_cell _ _ _
theorem fone_flat (x : Nat) : ∀ u ∈ ([.float .f32 x] : List Value), u.oneCell' = true := by
  intro u hu
  simp at hu
  subst hu; rfl
theorem fnone (w : World) : (w.alloc (.cells #[] 28)).ownsRow w.heap.size 28 1 (.slice (some ⟨w.heap.size, 0, none⟩) 0 0) 0 (vals []) :=
  World.ownsRow_made w #[] 0 (Nat.le_refl _) (Nat.zero_le _) rfl
theorem run_buildF {P : Program} (w : World) {t e : TypeId} (ht : P.underlying t = some (.slice e)) (hs : (P.info? e).map (·.size) = some 1) (hz : ((P.info? e).bind (·.zero)).isSome = true) (k : FloatKind) (c : Nat) :
    (Instr.buildSlice t 1 #[(0, .float k c)]).run P w = .ok (.slice (some ⟨w.heap.size, 0, none⟩) 1 1) (w.alloc (.cells #[.float k c] e)) := by
  cases hie : P.info? e with
  | none => rw [hie] at hs; cases hs
  | some ie =>
    simp only [hie, Option.map_some, Option.some.injEq, Option.bind_some] at hs hz
    obtain ⟨z, hzz⟩ := Option.isSome_iff_exists.1 hz
    refine run_buildSlice w _ _ 1 _ _ ie z ht hie hzz (by rw [hs]; omega) (by rw [hs]; omega) ?_
    rw [hs]
    exact Great.fill_flat [Value.float k c] _ (fun v hv => by simp at hv; rcases hv with rfl | rfl <;> rfl) (by simp)
theorem Tryz.sizeF : (Tryz.prog.info? 28).map (·.size) = some 1 := by kernel_rfl
theorem Tryz.zeroF : ((Tryz.prog.info? 28).bind (·.zero)).isSome = true := by kernel_rfl
theorem Tryz.someF : (Tryz.prog.info? 28).isSome = true := by kernel_rfl
theorem sv_bd {l : List UInt8} {j N : Nat} (h : svH (l.take j) = some N) (hj : j ≤ 8) : N < 4294967296 ∧ (j ≤ 7 → N < 268435456) := by
  obtain ⟨-, h2⟩ := svH_inv h
  have hl : (l.take j).length ≤ j := by rw [List.length_take]; omega
  have e8 := pow16_8
  have e7 : (16 : Nat) ^ 7 = 268435456 := by decide
  refine ⟨?_, fun h7 => ?_⟩
  · have := Nat.pow_le_pow_right (show 0 < 16 by decide) (show (l.take j).length ≤ 8 by omega); omega
  · have := Nat.pow_le_pow_right (show 0 < 16 by decide) (show (l.take j).length ≤ 7 by omega); omega
theorem sv_step {t : ByteArray} {k acc : Nat} (hk : k < t.size) (h : svH (t.data.toList.take k) = some acc) : svH (t.data.toList.take (k + 1)) = stepS (some acc) t[k] := by
  rw [take_snoc' t k hk, svH_snoc, h]
theorem sv_no {t : ByteArray} {k acc : Nat} {c : UInt8} (h : svH (t.data.toList.take (k + 1)) = stepS (some acc) c) (hd : dlow c = none) : readXB t = false := by
  refine readX_none (svH_none (k := k + 1) ?_)
  rw [h]; unfold stepS; rw [hd]; rfl
theorem sv_ok {t : ByteArray} {k acc d : Nat} {c : UInt8} (h : svH (t.data.toList.take (k + 1)) = stepS (some acc) c) (hd : dlow c = some d) : svH (t.data.toList.take (k + 1)) = some (16 * acc + d) := by
  rw [h]; unfold stepS; rw [hd]; rfl
theorem dlow_dig {c : UInt8} (h : 48 ≤ c.toNat ∧ c.toNat ≤ 57) : dlow c = some (c.toNat - 48) := by unfold dlow; rw [if_pos h]
theorem dlow_let {c : UInt8} (h : 97 ≤ c.toNat ∧ c.toNat ≤ 102) : dlow c = some (c.toNat - 87) := by unfold dlow; rw [if_neg (by omega), if_pos h]
theorem dlow_no {c : UInt8} (h1 : ¬ (48 ≤ c.toNat ∧ c.toNat ≤ 57)) (h2 : ¬ (97 ≤ c.toNat ∧ c.toNat ≤ 102)) : dlow c = none := by unfold dlow; rw [if_neg h1, if_neg h2]
end Go.Proofs.YtogliigpoojfoaaGreatDoor
end

section
namespace Go.Proofs.YtogliigpoojfoaaGreatDoor
set_option maxRecDepth 100000
open Go.RowKit Fl

theorem inread_none (s : ByteArray) (h : s = noneT) (w : World) :
    Calls Tryz.prog 32 #[.string s] w fun e w' => ∃ v, e = .returned (.tuple #[v, .bool true]) ∧ w'.ownsRow w.heap.size 28 1 v 0 (vals []) ∧ Below w.heap.size w w' := by
  have hP := hidI (fun w => iparts_none s h w)
  clear h
  have hB0 := fun w => run_build0 (P := Tryz.prog) w Tryz.underlying52 Tryz.someF
  go_enter Tryz.func32, Tryz.ntmps32
  go_wp2_with (go_at_call 48; refine (hP.out _).mono ?_; rintro e w' ⟨rfl, rfl⟩)
  go_loop [5, 15] (fun v i => v = .slice (some ⟨w.heap.size, 0, none⟩) 0 0 ∧ i = .int .i64 0) (fun _ _ => 0)
  case atStart => exact ⟨rfl, rfl⟩
  case round =>
    obtain ⟨rfl, rfl⟩ := hrel
    go_wp2
    go_ret2
    exact ⟨_, rfl, fnone w, (Below.refl _ _).alloc (Nat.le_refl _) _⟩
set_option maxRecDepth 100000 in
set_option maxHeartbeats 4000000 in
theorem inread_some (s : ByteArray) (h : s ≠ noneT) (hs : s.size ≤ 1048576) (n : Nat) (hn : (cutT s).length = n) (w : World) (m : Int) (hm : w.cell? ⟨4, 0, none⟩ = some (.int .i64 m)) (hR : HexOk w) :
    Calls Tryz.prog 32 #[.string s] w fun e w' => ∃ v, e = .returned (.tuple #[v, .bool (okX (cutT s))]) ∧ w'.ownsRow w.heap.size 28 1 v (numX (cutT s)).length (vals (numX (cutT s))) ∧ Below w.heap.size w w' := by
  obtain ⟨i0, hi, hz0, hz1, hz2⟩ := info_parts Tryz.infoF
  have hI := hidI hi
  have hZ0 := hidI hz0
  have hZ1 := hidI hz1
  have hZ2 := hidI hz2
  clear hi hz0 hz1 hz2
  have hB0 := fun w => run_build0 (P := Tryz.prog) w Tryz.underlying52 Tryz.someF
  have hB1 := fun w c => run_buildF (P := Tryz.prog) w Tryz.underlying52 Tryz.sizeF Tryz.zeroF .f32 c
  have hCut := hidI (iparts_at s h hs n hn w m hm)
  have hVal := hidI (fun x (hx : x ∈ cutT s) w hr => ireadhex_any x (by have := cutT_size hx; omega) w hr)
  have hRk := hidI hR
  have hN := hidI hn
  have hn1 : 1 ≤ n := by have := cutT_count s; omega
  have hn2 : n ≤ 1048577 := by have := cutT_len s; omega
  clear hn h hm hR
  generalize cutT s = P at hCut hN hVal
  go_enter Tryz.func32, Tryz.ntmps32
  go_wp2_with (go_at_call 48; refine hCut.out.mono ?_; rintro e w1 ⟨rfl, ho, hB⟩; have hO := hidI ho; have b1 := hidI hB; clear ho hB)
  go_loopw [5, 15] (fun v i wr => ∃ (W : World) (k g' vc : Nat), W = wr ∧ v = .slice (some ⟨g', 0, none⟩) k vc ∧ i = .int .i64 k ∧ k ≤ n ∧ Hid (W.ownsRow w.heap.size 9 1 (.slice (some ⟨w.heap.size, 0, none⟩) n n) n (strs P)) ∧ Hid (W.ownsRow w.heap.size 28 1 (.slice (some ⟨g', 0, none⟩) k vc) k (vals ((P.take k).map readX))) ∧ Hid ((P.take k).all readXB = true) ∧ Hid (k = 0 ∨ n ≤ 256) ∧ Hid (Below w.heap.size w W)) (fun _ i _ => n - (intOf i).toNat)
  case atStart => exact ⟨_, 0, _, _, rfl, rfl, rfl, by omega, hO.out.alloc _, owns_base (fnone w1) b1.out.size, rfl, .inl rfl, b1.out.alloc b1.out.size _⟩
  case round =>
    obtain ⟨W, k, g', vc, rfl, rfl, rfl, hk, hpar, hout, hall, hsm, hbel⟩ := hrel
    clear hO b1
    by_cases hlt : k < n
    · have hlt' : k < P.length := by rw [hN.out]; exact hlt
      have hc := owns_len hpar.out hlt'
      have hNo := hidI (fun h => okX_no hlt' h)
      have hYes := hidI (fun h => xall_push hlt' hall.out h)
      have hPush := hidI (xnums_push hlt')
      have hV1 := hidI (hVal.out P[k] (List.getElem_mem _))
      generalize P[k] = x at hc hNo hYes hPush hV1
      clear hlt'
      cases hv : readXB x
      · have hF := hidI (hNo.out hv)
        have hV := hidI hv
        clear hv
        go_wp2_with (go_at_call 49; refine (hV1.out _ (hRk.out.stays hbel.out)).mono ?_; rintro e w2 ⟨N, rfl, -, hB⟩; rw [hV.out]; have b2 := hidI (hbel.out.trans (hB.mono hbel.out.size)); clear hB)
        go_ret2
        exact ⟨_, by rw [hF.out]; rfl, by rw [numX_no hF.out]; exact World.ownsRow_nil _ _ _ _, b2.out⟩
      · have hVx : ∀ w, HexOk w → Calls Tryz.prog 49 #[.string x] w fun e w' => e = .returned (.tuple #[.float .f32 (readX x), .bool true]) ∧ Below w.heap.size w w' := fun w hw => by
          refine (hV1.out w hw).mono ?_
          rintro e w' ⟨N, rfl, hN', hB⟩
          rw [hv, hN' hv]
          exact ⟨rfl, hB⟩
        by_cases h256 : 256 < n
        · have hF := hidI (okX_long (P := P) (by rw [hN.out]; exact h256))
          have hVy := hidI hVx
          clear hv hVx
          go_wp2_with (go_at_call 49; refine (hVy.out _ (hRk.out.stays hbel.out)).mono ?_; rintro e w2 ⟨rfl, hB⟩; have b2 := hidI (hbel.out.trans (hB.mono hbel.out.size)); clear hB)
          go_ret2
          exact ⟨_, by rw [hF.out]; rfl, by rw [numX_no hF.out]; exact World.ownsRow_nil _ _ _ _, b2.out⟩
        · have hT := hidI (hYes.out hv)
          generalize readX x = y at hPush hVx
          have hVy := hidI hVx
          clear hv hVx
          go_wp2_with (first | (go_at_call 49; refine (hVy.out _ (hRk.out.stays hbel.out)).mono ?_; rintro e w2 ⟨rfl, hB⟩; have b2 := hidI (hbel.out.trans (hB.mono hbel.out.size)); have op2 := hidI (owns_below hpar.out hB); have oo2 := hidI (owns_below hout.out hB); clear hB) | (refine wpList_append_own _ rfl _ _ 52 rfl w.heap.size 28 i0 (.float .f32 0) 1 4 Tryz.underlying52 hI.out hZ0.out hZ1.out hZ2.out rfl (by omega) _ k _ rfl (oo2.out.alloc _) ⟨w2.heap.size, 0, none⟩ 1 1 [.float .f32 y] rfl rfl (fone_cell _ _) (fone_flat _) ?c3 ?c4 (below_newH b2.out _) ?c6))
          case c3 => unfold maxLen; omega
          case c4 => omega
          intro v' w3 h2 h3 _
          rw [vals_push] at h2
          first | rw [hPush.out] at h2 | rw [← List.map_take, hPush.out] at h2
          have b3 := hidI ((b2.out.alloc b2.out.size (.cells #[.float .f32 y] 28)).grown h3 (below_newH b2.out _) (owns_block oo2.out))
          have p3 := hidI (owns_two (op2.out.alloc _) (oo2.out.alloc _) (by decide) h3)
          obtain ⟨g2, vc', rfl, -, -, -⟩ := owns_shape h2 (Nat.succ_pos k)
          have o3 := hidI h2
          clear h2 h3
          go_wp2
          go_roundw
          case rel => exact ⟨w3, k + 1, g2, vc', rfl, rfl, by go_num, by omega, p3.out, o3.out, hT.out, .inr (by omega), b3.out⟩
          case measure => simp [intOf]; omega
    · have hk' : k = n := by omega
      subst hk'
      have h256 : k ≤ 256 := by rcases hsm.out with c | c <;> omega
      have hY := hidI (okX_yes (by rw [hN.out]; exact Nat.le_refl _) hall.out (by rw [hN.out]; exact h256))
      have ho := hout.out
      rw [List.take_of_length_le (by rw [hN.out]; exact Nat.le_refl _)] at ho
      have hOut := hidI ho
      clear ho hlt
      go_wp2
      go_ret2
      exact ⟨_, by rw [hY.out]; rfl, by rw [numX_yes hY.out, List.length_map, hN.out]; exact hOut.out, hbel.out⟩
theorem ireadnum_any (s : ByteArray) (hs : s.size ≤ 1048576) (w : World) (m : Int) (hm : w.cell? ⟨4, 0, none⟩ = some (.int .i64 m)) (hR : HexOk w) :
    Calls Tryz.prog 32 #[.string s] w fun e w' => ∃ v, e = .returned (.tuple #[v, .bool (listOkX s)]) ∧ w'.ownsRow w.heap.size 28 1 v (wordsOf s).length (vals (wordsOf s)) ∧ Below w.heap.size w w' := by
  unfold listOkX wordsOf
  by_cases h : s = noneT
  · rw [if_pos h, if_pos h]; exact inread_none s h w
  · rw [if_neg h, if_neg h]
    exact inread_some s h hs _ rfl w m hm hR
end Go.Proofs.YtogliigpoojfoaaGreatDoor
end
