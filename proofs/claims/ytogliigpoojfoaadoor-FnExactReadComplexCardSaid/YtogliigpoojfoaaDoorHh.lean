/-
  Hexadecimal texts of numbers: the program's text of one number, and the library's reading at base 16.
-/
import Derived.Test.YtogliigpoojfoaaDoorHf
import Derived.Test.YtogliigpoojfoaaDoorRf
import Derived.Test.YtogliigpoojfoaaDoorSh8
import Derived.Lib.ConvBytes
namespace Go.Proofs.YtogliigpoojfoaaDoor
open Go.RowKit Fl

/-- What the library's tables and variables must hold. -/
def HexOk (w : World) : Prop := w.cell? ⟨7, 15, none⟩ = some (.int .u8 4) ∧ ErrVar "strconv.ErrSyntax" w ∧ ErrVar "strconv.ErrRange" w
def TabOk (w : World) : Prop := w.cell? ⟨7, 15, none⟩ = some (.int .u8 4)
theorem TabOk.stays {w w' : World} (h : TabOk w) (hb : Below w.heap.size w w') : TabOk w' := by
  unfold TabOk at h ⊢
  rw [hb.cell (p := ⟨7, 15, none⟩) (World.block_lt_of_cell? w _ h)]; exact h
theorem HexOk.tab {w : World} (h : HexOk w) : TabOk w := h.1
theorem HexOk.stays {w w' : World} (h : HexOk w) (hb : Below w.heap.size w w') : HexOk w' := ⟨TabOk.stays h.1 hb, h.2.1.stays hb, h.2.2.stays hb⟩
theorem size48 : (⟨#[48]⟩ : ByteArray).size = 1 := rfl
theorem rep48 (k : Nat) : Lib.repeatL [48] k = List.replicate k 48 := by
  induction k with
  | zero => rfl
  | succ k ih => show [48] ++ Lib.repeatL [48] k = _; rw [ih, List.replicate_succ]; rfl
theorem rep_hex (n m : Nat) (h1 : n ≤ 8) (h : m < 16 ^ n) : (⟨(Lib.repeatL [48] (8 - n)).toArray⟩ : ByteArray) ++ (⟨(lowH n m).toArray⟩ : ByteArray) = ⟨(lowH 8 m).toArray⟩ := by
  have hp := pad_all n m h (8 - n)
  rw [show 8 - n + n = 8 by omega] at hp
  apply ByteArray.ext
  rw [ByteArray.data_append, rep48, hp]
  simp
set_option maxRecDepth 100000 in
theorem ihex_any (a : Nat) (ha : a < 4294967296) (w : World) (h : TabOk w) :
    Calls Tryd.prog 47 #[.float .f32 a] w fun e w' => e = .returned (.string (hexT a)) ∧ Below w.heap.size w w' := by
  obtain ⟨hbi, hbl⟩ := bitsI_val ha
  unfold hexT
  have hBits := hidI (show ∀ w, Calls Tryd.prog 69 #[.float .f32 a] w fun e w' => e = .returned (.int .i64 ((bitsN a : Nat) : Int)) ∧ w' = w from fun w => by
    have := ibits_any a w
    rw [hbi] at this
    exact this)
  generalize bitsN a = m at hBits hbl
  clear hbi ha
  have hF := hidI (fmt_any m hbl w h)
  have hRep := hidI (show ∀ n : Nat, n ≤ 8 → ∀ w, Calls Tryd.prog 70 #[.string ⟨#[48]⟩, .int .i64 (8 - (n : Int))] w fun e w' => e = .returned (.string ⟨(Lib.repeatL [48] (8 - n)).toArray⟩) ∧ Below w.heap.size w w' from fun n hn w => by
    have := Tryd.strings_Repeat ⟨#[48]⟩ (8 - n) w (by omega) (by rw [size48]; omega)
    rwa [show ((8 - n : Nat) : Int) = 8 - (n : Int) by omega] at this)
  have hCat := hidI (fun n h1 h => rep_hex n m h1 h)
  clear h hbl
  go_enter Tryd.func47, Tryd.ntmps47
  go_wp2_with (first | (go_at_call 69; refine (hBits.out _).mono ?_; rintro e w' ⟨rfl, rfl⟩) | (go_at_call 39; refine hF.out.mono ?_; rintro e w1 ⟨n, h1, h2, h3, rfl, hB⟩; have b1 := hidI hB; have hn := hidI h3; have hR := hidI (hRep.out n h2); have hl := lowH_len n m; have hrl : (Lib.repeatL [48] (8 - n)).length = 8 - n := by { rw [Lib.repeatL_length]; simp }; clear hB h3) | (go_at_call 70; refine (hR.out _).mono ?_; rintro e w2 ⟨rfl, hB⟩; have b2 := hidI (b1.out.trans (hB.mono b1.out.size)); clear hB))
  go_ret
  exact ⟨by rw [hCat.out n h2 hn.out]; rfl, b2.out⟩
theorem or_u8 (c : UInt8) : bits BinOp.or IntKind.u8 (c.toNat : Int) 32 = ((c ||| 32).toNat : Int) := by
  have h : ∀ n : Fin 256, bits BinOp.or IntKind.u8 (n.val : Int) 32 = (((UInt8.ofNat n.val) ||| 32).toNat : Int) := by decide +kernel
  have := h ⟨c.toNat, c.toNat_lt⟩
  simpa using this
/-- What the library's reading gives. -/
def PuPost (t : ByteArray) (N : Nat) (r : Value) : Prop := (hvH t.data.toList = some N ∧ N < 4294967296 ∧ r = .nilIface) ∨ (readXB t = false ∧ N < 4294967296 ∧ (r = .iface 113 (.int .i64 2) ∨ r = .iface 113 (.int .i64 1)))
theorem hv_step {t : ByteArray} {k acc : Nat} (hk : k < t.size) (h : hvH (t.data.toList.take k) = some acc) : hvH (t.data.toList.take (k + 1)) = stepI (some acc) t[k] := by
  rw [take_snoc' t k hk, hvH_snoc, h]
theorem step_no {t : ByteArray} {k acc : Nat} {c : UInt8} (h : hvH (t.data.toList.take (k + 1)) = stepI (some acc) c) (hd : dboth c = none) : hvH t.data.toList = none := by
  refine hvH_none (k := k + 1) ?_
  rw [h]; unfold stepI; rw [hd]; rfl
theorem step_over {t : ByteArray} {k acc d : Nat} {c : UInt8} (h : hvH (t.data.toList.take (k + 1)) = stepI (some acc) c) (hd : dboth c = some d) (ho : 4294967296 ≤ 16 * acc + d) : hvH t.data.toList = none := by
  refine hvH_none (k := k + 1) ?_
  rw [h]; unfold stepI; rw [hd]
  show (if 16 * acc + d < 4294967296 then some (16 * acc + d) else none) = none
  rw [if_neg (by omega)]
theorem step_ok {t : ByteArray} {k acc d : Nat} {c : UInt8} (h : hvH (t.data.toList.take (k + 1)) = stepI (some acc) c) (hd : dboth c = some d) (ho : 16 * acc + d < 4294967296) : hvH (t.data.toList.take (k + 1)) = some (16 * acc + d) := by
  rw [h]; unfold stepI; rw [hd]
  show (if 16 * acc + d < 4294967296 then some (16 * acc + d) else none) = _
  rw [if_pos ho]
set_option maxHeartbeats 8000000 in
set_option maxRecDepth 100000 in
theorem ipu_any (t : ByteArray) (hmax : t.size ≤ 1048576) (w : World) :
    Calls Tryd.prog 95 #[.string t, .int .i64 16, .int .i64 32] w fun e w' => ∃ N r, e = .returned (.tuple #[.int .u64 (N : Nat), r]) ∧ PuPost t N r ∧ Below w.heap.size w w' := by
  by_cases hne : t.size = 0
  · have ht : t = ⟨#[]⟩ := ByteArray.ext (Array.eq_empty_of_size_eq_zero hne)
    subst ht
    refine (Tryd.internal_strconv_ParseUint_empty 16 32 w).mono ?_
    rintro e w' ⟨rfl, rfl⟩
    exact ⟨0, _, rfl, .inr ⟨readX_len (by decide), by omega, .inl rfl⟩, Below.refl _ _⟩
  have hemp : t.toList.isEmpty = false := by
    rw [← decide_eq_emptyBytes]
    exact decide_eq_false (fun h => hne (by rw [h]; rfl))
  have hcv := Lib.run_convert_string_bytes (P := Tryd.prog) w 9 69 5 t (u := .string) Tryd.underlying9 Tryd.underlying69 Tryd.underlying5
  have hB : ∀ j (hj : j < t.size), (Lib.bytesWorld w 5 t).cell? ⟨w.heap.size, j, none⟩ = some (.int .u8 (t[j].toNat : Int)) := fun j hj => by
    have := Lib.bytesWorld_cell w 5 t j hj
    rw [this]
    have e : t.data.toList.getD j 0 = t[j] := by simp [List.getD, List.getElem?_eq_getElem (show j < t.data.toList.length by rw [len_list]; exact hj)]; rfl
    rw [e]
  have hbel := hidI (Lib.bytesWorld_below w 5 t)
  obtain ⟨W1, hW1⟩ : ∃ W1, W1 = Lib.bytesWorld w 5 t := ⟨_, rfl⟩
  rw [← hW1] at hcv hB hbel
  clear hW1
  have hBy := hidI hB
  clear hB
  have hmv : IntKind.u64.wrap (IntKind.u64.wrap 4294967296 - 1) = 4294967295 := by
    rw [IntKind.wrap_u64, IntKind.wrap_u64]
    decide
  go_enter Tryd.func95, Tryd.ntmps95
  go_wp2
  go_loop [12, 13, 101] (fun vu vn vi => ∃ (k acc : Nat) (a : Int), vu = .bool false ∧ vn = .int .u64 a ∧ vi = .int .i64 k ∧ k ≤ t.size ∧ Hid (a = (acc : Int) ∧ acc < 4294967296 ∧ hvH (t.data.toList.take k) = some acc)) (fun _ _ vi => t.size - (intOf vi).toNat)
  case atStart => exact ⟨0, 0, 0, rfl, rfl, rfl, by omega, rfl, by omega, rfl⟩
  case round =>
    obtain ⟨k, acc, a, rfl, rfl, rfl, hk, hh⟩ := hrel
    obtain ⟨ha, hacc, hh⟩ := hh.out
    have a0 : 0 ≤ a := by omega
    have a1 : a ≤ 4294967295 := by omega
    by_cases hkn : k < t.size
    · have hc := hBy.out k hkn
      have hs := hidI (hv_step hkn hh)
      generalize t[k] = c at hc hs
      have hc256 : c.toNat < 256 := c.toNat_lt
      clear hh
      by_cases hdig : 48 ≤ c.toNat ∧ c.toNat ≤ 57
      · have hd : dboth c = some (c.toNat - 48) := by unfold dboth; rw [if_pos hdig]
        obtain ⟨hd0, hd1⟩ := hdig
        by_cases hov : 4294967295 < a * 16 + ((c.toNat : Int) - 48)
        · have hF := hidI (step_over hs.out hd (by omega))
          clear hd hacc ha
          go_wp2
          go_ret2
          exact ⟨4294967295, _, rfl, .inr ⟨readX_prog_bad hF.out, by omega, .inr rfl⟩, hbel.out⟩
        · have hF := hidI (step_ok hs.out hd (by omega))
          have HN := hidI (show a * 16 + ((c.toNat : Int) - 48) = ((16 * acc + (c.toNat - 48) : Nat) : Int) ∧ 16 * acc + (c.toNat - 48) < 4294967296 ∧ _ from ⟨by omega, by omega, hF.out⟩)
          have iov : a * 16 + ((c.toNat : Int) - 48) ≤ 4294967295 := by omega
          clear hd hacc ha hov hF
          go_wp2
          go_round
          case rel => exact ⟨k + 1, 16 * acc + (c.toNat - 48), a * 16 + ((c.toNat : Int) - 48), rfl, by go_num, by go_num, by omega, HN.out⟩
          case measure => simp [intOf]; omega
      · have hor := or_u8 c
        have hlw := hidI (fun w => Tryd.internal_strconv_lower (c.toNat : Int) w)
        rw [hor] at hlw
        have hd : dboth c = if 97 ≤ (c ||| 32).toNat ∧ (c ||| 32).toNat ≤ 102 then some ((c ||| 32).toNat - 87) else none := by unfold dboth; rw [if_neg hdig]
        have hv256 : (c ||| 32).toNat < 256 := (c ||| 32).toNat_lt
        have h95 : c.toNat = 95 → (c ||| 32).toNat = 127 := fun h => by
          have : c = 95 := UInt8.toNat_inj.1 h
          subst this; rfl
        generalize (c ||| 32).toNat = v at hlw hd hv256 h95
        clear hor
        have hl95 := hidI (fun w => Tryd.internal_strconv_lower 95 w)
        rw [show bits BinOp.or IntKind.u8 95 32 = 127 by kernel_rfl] at hl95
        have hdig' : (c.toNat : Int) < 48 ∨ 57 < (c.toNat : Int) := by omega
        by_cases hlet : 97 ≤ v ∧ v ≤ 102
        · rw [if_pos hlet] at hd
          obtain ⟨hl0, hl1⟩ := hlet
          have t95 : ((c.toNat : Int) == 95) = false := beq_eq_false_iff_ne.2 (fun h => by have := h95 (by omega); omega)
          clear h95 hl95
          by_cases hov : 4294967295 < a * 16 + ((v : Int) - 87)
          · have hF := hidI (step_over hs.out hd (by omega))
            clear hd hacc ha
            go_wp2_with (go_at_call 114; refine (hlw.out _).mono ?_; rintro e w' ⟨rfl, rfl⟩)
            all_goals go_ret2
            all_goals exact ⟨4294967295, _, rfl, .inr ⟨readX_prog_bad hF.out, by omega, .inr rfl⟩, hbel.out⟩
          · have hF := hidI (step_ok hs.out hd (by omega))
            have HN := hidI (show a * 16 + ((v : Int) - 97 + 10) = ((16 * acc + (v - 87) : Nat) : Int) ∧ 16 * acc + (v - 87) < 4294967296 ∧ _ from ⟨by omega, by omega, hF.out⟩)
            have iov : a * 16 + ((v : Int) - 97 + 10) ≤ 4294967295 := by omega
            clear hd hacc ha hov hF
            go_wp2_with (go_at_call 114; refine (hlw.out _).mono ?_; rintro e w' ⟨rfl, rfl⟩)
            all_goals go_round
            all_goals first | exact ⟨k + 1, 16 * acc + (v - 87), a * 16 + ((v : Int) - 97 + 10), rfl, by go_num, by go_num, by omega, HN.out⟩ | (simp [intOf]; omega)
        · rw [if_neg hlet] at hd
          have hF := hidI (step_no hs.out hd)
          clear hd hacc ha
          have hnl : (v : Int) < 97 ∨ 102 < (v : Int) := by omega
          by_cases c95 : c.toNat = 95
          · rw [c95] at hc hdig'
            clear hlw hnl h95
            go_wp2_with (go_at_call 114; refine (hl95.out _).mono ?_; rintro e w' ⟨rfl, rfl⟩)
            all_goals go_ret2
            all_goals exact ⟨0, _, rfl, .inr ⟨readX_prog_bad hF.out, by omega, .inl rfl⟩, hbel.out⟩
          have t95 : ((c.toNat : Int) == 95) = false := beq_eq_false_iff_ne.2 (fun h => c95 (by omega))
          clear hl95 h95 c95
          go_wp2_with (go_at_call 114; refine (hlw.out _).mono ?_; rintro e w' ⟨rfl, rfl⟩)
          all_goals go_ret2
          all_goals exact ⟨0, _, rfl, .inr ⟨readX_prog_bad hF.out, by omega, .inl rfl⟩, hbel.out⟩
    · have hkk : k = t.size := by omega
      subst hkk
      have hF := hh
      rw [List.take_of_length_le (by rw [len_list]; exact Nat.le_refl _)] at hF
      have hA := hidI (show a = (acc : Int) ∧ acc < 4294967296 ∧ _ from ⟨ha, hacc, hF⟩)
      clear ha hh hacc hF
      go_wp2
      go_ret2
      obtain ⟨ha, hacc, hF⟩ := hA.out
      subst ha
      exact ⟨acc, _, rfl, .inl ⟨hF, hacc, rfl⟩, hbel.out⟩
theorem err_cell {n : String} {g : Nat} {w : World} (h : ErrVar n w) (hg : Tryd.prog.globalNamed n = some g) : ∃ tp p, w.cell? ⟨g, 0, none⟩ = some (.iface tp p) := by
  obtain ⟨tp, p, hv⟩ := h
  exact ⟨tp, p, by have h0 := World.var?_cell hg hv 0; simpa using h0⟩
theorem cell_below {w w' : World} {p : Addr} {v : Value} (h : w.cell? p = some v) (hb : Below w.heap.size w w') : w'.cell? p = some v := by
  rw [hb.cell (p := p) (World.block_lt_of_cell? w _ h)]; exact h
/-- What the public reading gives. -/
def PvPost (t : ByteArray) (N : Nat) (r : Value) : Prop := (hvH t.data.toList = some N ∧ N < 4294967296 ∧ r = .nilIface) ∨ (readXB t = false ∧ N < 4294967296 ∧ ∃ a, r = .iface 114 (.pointer (some ⟨a, 0, none⟩)))
set_option maxRecDepth 100000 in
theorem pub_any (t : ByteArray) (hmax : t.size ≤ 1048576) (w : World) (hO : HexOk w) :
    Calls Tryd.prog 77 #[.string t, .int .i64 16, .int .i64 32] w fun e w' => ∃ N r, e = .returned (.tuple #[.int .u64 (N : Nat), r]) ∧ PvPost t N r ∧ Below w.heap.size w w' := by
  obtain ⟨-, hS, hR⟩ := hO
  obtain ⟨tp, p, hS⟩ := err_cell (g := 2) hS (by kernel_rfl)
  obtain ⟨tq, q, hR⟩ := err_cell (g := 3) hR (by kernel_rfl)
  have hcS := hidI hS
  have hcR := hidI hR
  clear hS hR
  have hI := hidI (ipu_any t hmax w)
  have hTs := hidI (fun w h => Tryd.strconv_toError_syntax ⟨#[80, 97, 114, 115, 101, 85, 105, 110, 116]⟩ t 16 32 (.iface tp p) w (by omega) h (.inr ⟨tp, p, rfl⟩))
  have hTr := hidI (fun w h => Tryd.strconv_toError_range ⟨#[80, 97, 114, 115, 101, 85, 105, 110, 116]⟩ t 16 32 (.iface tq q) w (by omega) h (.inr ⟨tq, q, rfl⟩))
  go_enter Tryd.func77, Tryd.ntmps77
  go_wp2_with (go_at_call 95; refine hI.out.mono ?_)
  rintro e w1 ⟨N, r, rfl, hP, hB⟩
  have b1 := hidI hB
  clear hB
  rcases hP with ⟨h1, h2, rfl⟩ | ⟨h1, h2, h3⟩
  · have hF := hidI h1
    clear h1
    go_wp2
    go_ret2
    exact ⟨N, _, rfl, .inl ⟨hF.out, h2, rfl⟩, b1.out⟩
  · have hF := hidI h1
    clear h1
    rcases h3 with rfl | rfl
    · go_wp2_with (go_at_call 72; refine (hTs.out _ (cell_below hcS.out b1.out)).mono ?_; rintro e w2 ⟨a, rfl, -, -, hB⟩; have b2 := hidI (b1.out.trans (hB.mono b1.out.size)); clear hB)
      go_ret2
      exact ⟨N, _, rfl, .inr ⟨hF.out, h2, a, rfl⟩, b2.out⟩
    · go_wp2_with (go_at_call 72; refine (hTr.out _ (cell_below hcR.out b1.out)).mono ?_; rintro e w2 ⟨a, rfl, -, -, hB⟩; have b2 := hidI (b1.out.trans (hB.mono b1.out.size)); clear hB)
      go_ret2
      exact ⟨N, _, rfl, .inr ⟨hF.out, h2, a, rfl⟩, b2.out⟩
/-- The program's reading of one number: its number where it says that there is one. -/
theorem ireadhex_any (t : ByteArray) (hmax : t.size ≤ 1048576) (w : World) (hO : HexOk w) :
    Calls Tryd.prog 54 #[.string t] w fun e w' => ∃ N, e = .returned (.tuple #[.float .f32 N, .bool (readXB t)]) ∧ (readXB t = true → N = readX t) ∧ Below w.heap.size w w' := by
  have hI := hidI (pub_any t hmax w hO)
  have hX := hidI (fun N (hN : N < 4294967296) w h => ihex_any N hN w h)
  have hT := hidI hO.tab
  clear hO
  go_enter Tryd.func54, Tryd.ntmps54
  go_wp2_with (go_at_call 77; refine hI.out.mono ?_)
  rintro e w1 ⟨N, r, rfl, hP, hB⟩
  have b1 := hidI hB
  clear hB
  rcases hP with ⟨h1, h2, rfl⟩ | ⟨h1, h2, a, rfl⟩
  · have hXN := hidI (hX.out N h2)
    by_cases hs : hexT N = t
    · have hF := hidI (readX_prog h1 h2 hs)
      have tt := same_text hs
      clear h1 hs
      generalize hexT N = T at hXN tt
      go_wp2_with (go_at_call 47; refine (hXN.out _ (hT.out.stays b1.out)).mono ?_; rintro e w2 ⟨rfl, hB⟩; have b2 := hidI (b1.out.trans (hB.mono b1.out.size)); clear hB)
      go_ret2
      exact ⟨N, by rw [hF.out.1]; rfl, fun _ => hF.out.2.symm, b2.out⟩
    · have hF := hidI (readX_prog_no h1 hs)
      have tt := diff_text hs
      clear h1 hs
      generalize hexT N = T at hXN tt
      go_wp2_with (go_at_call 47; refine (hXN.out _ (hT.out.stays b1.out)).mono ?_; rintro e w2 ⟨rfl, hB⟩; have b2 := hidI (b1.out.trans (hB.mono b1.out.size)); clear hB)
      go_ret2
      exact ⟨N, by rw [hF.out]; rfl, (fun h => absurd h (by rw [hF.out]; decide)), b2.out⟩
  · have hF := hidI h1
    clear h1
    go_wp2
    go_ret2
    exact ⟨N, by rw [hF.out]; rfl, (fun h => absurd h (by rw [hF.out]; decide)), b1.out⟩
end Go.Proofs.YtogliigpoojfoaaDoor
