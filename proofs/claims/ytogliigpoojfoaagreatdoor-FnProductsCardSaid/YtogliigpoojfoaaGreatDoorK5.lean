/-
  Several texts of this claim in one.
  The reader of choices out of bytes: its contracts. What it reads is some number in its range.
  Hexadecimal texts of numbers: the program's text of one number, and the library's reading at base 16.
  Texts of parts with commas between them (plain).
-/
import Derived.Test.YtogliigpoojfoaaGreatDoorK1
import Derived.Test.YtogliigpoojfoaaGreatDoorK3
import Derived.Deep.QuietTactic
import Derived.BigQuiet
import Derived.Test.YtogliigpoojfoaaGreatDoorK4
import Derived.Test.YtogliigpoojfoaaGreatDoorSh8
import Derived.Lib.ConvBytes
section
namespace Go.Proofs.YtogliigpoojfoaaGreatDoor
set_option maxRecDepth 100000
open Go.RowKit Fl

/-- A reader in block g, over the bytes that lay in w0; at most B bytes are read. -/
structure SrcAt (w0 w : World) (g : Nat) (a : Option Addr) (n cap B : Nat) : Prop where
  below : Below w0.heap.size w0 w
  ge : w0.heap.size ≤ g
  code : w.cell? ⟨g, 0, none⟩ = some (.slice a n cap)
  pos : ∃ k : Nat, k ≤ B ∧ w.cell? ⟨g, 1, none⟩ = some (.int .i64 k)
  seed : ∃ z : Int, 0 ≤ z ∧ z < 18446744073709551616 ∧ w.cell? ⟨g, 2, none⟩ = some (.int .u64 z)
  free : ∀ k, w.frozen? ⟨g, k, none⟩ = false
theorem SrcAt.lt {w0 w : World} {g : Nat} {a : Option Addr} {n cap B : Nat} (h : SrcAt w0 w g a n cap B) : g < w.heap.size := World.block_lt_of_cell? w _ h.code
theorem SrcAt.more {w0 w : World} {g : Nat} {a : Option Addr} {n cap B C : Nat} (h : SrcAt w0 w g a n cap B) (hc : B ≤ C) : SrcAt w0 w g a n cap C := by
  obtain ⟨k, hk, hc'⟩ := h.pos
  exact ⟨h.below, h.ge, h.code, ⟨k, Nat.le_trans hk hc, hc'⟩, h.seed, h.free⟩
/-- What is done elsewhere leaves the reader. -/
theorem SrcAt.kept {w0 w w' : World} {g : Nat} {a : Option Addr} {n cap B : Nat} (h : SrcAt w0 w g a n cap B) {row : Option Nat} (hg : w.grownBy w' row) (hne : some g ≠ row) (hrow : ∀ k, row = some k → w0.heap.size ≤ k) : SrcAt w0 w' g a n cap B := by
  have hb := hg.block g h.lt hne
  have hc : ∀ i, w'.cell? ⟨g, i, none⟩ = w.cell? ⟨g, i, none⟩ := fun i => World.cell?_of_block (a := ⟨g, i, none⟩) hb
  have hf : ∀ i, w'.frozen? ⟨g, i, none⟩ = w.frozen? ⟨g, i, none⟩ := fun i => World.frozen?_of_block (a := ⟨g, i, none⟩) hb
  obtain ⟨k, hk, hk2⟩ := h.pos
  obtain ⟨z, hz0, hz1, hz2⟩ := h.seed
  exact ⟨h.below.grown hg h.below.size hrow, h.ge, (hc 0).trans h.code, ⟨k, hk, (hc 1).trans hk2⟩, ⟨z, hz0, hz1, (hc 2).trans hz2⟩, fun i => (hf i).trans (h.free i)⟩
theorem grown_set (w : World) (g i : Nat) (v : Value) : w.grownBy (w.setCell ⟨g, i, none⟩ v) (some g) :=
  ⟨rfl, rfl, rfl, by rw [World.size_setCell]; exact Nat.le_refl _, fun k hk hne => by
    exact Below.heap_setCell _ _ _ _ (fun e => hne (by rw [e]))⟩
/-- A store into the reader's own cells. -/
theorem SrcAt.setPos {w0 w : World} {g : Nat} {a : Option Addr} {n cap B : Nat} (h : SrcAt w0 w g a n cap B) (k : Nat) (hk : k ≤ B) (y : Int) (hy : y = (k : Int)) : SrcAt w0 (w.setCell ⟨g, 1, none⟩ (.int .i64 y)) g a n cap B := by
  subst hy
  obtain ⟨q, -, hq⟩ := h.pos
  obtain ⟨z, hz0, hz1, hz2⟩ := h.seed
  refine ⟨h.below.setCell (p := ⟨g, 1, none⟩) h.ge _, h.ge, ?_, ⟨k, hk, World.cell?_setCell_same _ _ _ hq⟩, ⟨z, hz0, hz1, ?_⟩, fun i => ?_⟩
  · rw [World.cell?_setCell_other _ _ _ _ (by simp)]; exact h.code
  · rw [World.cell?_setCell_other _ _ _ _ (by simp)]; exact hz2
  · rw [World.frozen?_setCell]; exact h.free i
theorem SrcAt.setSeed {w0 w : World} {g : Nat} {a : Option Addr} {n cap B : Nat} (h : SrcAt w0 w g a n cap B) (z : Int) (h0 : 0 ≤ z) (h1 : z < 18446744073709551616) : SrcAt w0 (w.setCell ⟨g, 2, none⟩ (.int .u64 z)) g a n cap B := by
  obtain ⟨q, hq0, hq⟩ := h.pos
  obtain ⟨y, -, -, hy⟩ := h.seed
  refine ⟨h.below.setCell (p := ⟨g, 2, none⟩) h.ge _, h.ge, ?_, ⟨q, hq0, ?_⟩, ⟨z, h0, h1, World.cell?_setCell_same _ _ _ hy⟩, fun i => ?_⟩
  · rw [World.cell?_setCell_other _ _ _ _ (by simp)]; exact h.code
  · rw [World.cell?_setCell_other _ _ _ _ (by simp)]; exact hq
  · rw [World.frozen?_setCell]; exact h.free i
theorem SrcAt.draws {w0 w : World} {g : Nat} {a : Option Addr} {n cap B : Nat} (h : SrcAt w0 w g a n cap B) (m : Nat) : SrcAt w0 (w.drewN m) g a n cap B := ⟨Below.draws h.below m, h.ge, h.code, h.pos, h.seed, h.free⟩
theorem grown_trans {w w1 w2 : World} {row : Option Nat} (h1 : w.grownBy w1 row) (h2 : w1.grownBy w2 row) : w.grownBy w2 row :=
  ⟨h2.os.trans h1.os, h2.tape.trans h1.tape, h2.output.trans h1.output, Nat.le_trans h1.size h2.size, fun k hk hne => (h2.block k (Nat.lt_of_lt_of_le hk h1.size) hne).trans (h1.block k hk hne)⟩
theorem grown_refl (w : World) (row : Option Nat) : w.grownBy w row := ⟨rfl, rfl, rfl, Nat.le_refl _, fun _ _ _ => rfl⟩
theorem grown_below {w w' : World} (row : Option Nat) (h : Below w.heap.size w w') : w.grownBy w' row := ⟨h.os, h.tape, h.output, h.size, fun k hk _ => h.block k hk⟩
theorem grown_draws {w w' : World} {row : Option Nat} (h : w.grownBy w' row) (n : Nat) : w.grownBy (w'.drewN n) row := ⟨h.os, h.tape, h.output, h.size, h.block⟩
theorem u64_lo (z : Int) : 0 ≤ IntKind.u64.wrap z := by rw [IntKind.wrap_u64]; omega
theorem u64_hi (z : Int) : IntKind.u64.wrap z < 18446744073709551616 := by rw [IntKind.wrap_u64]; omega
theorem and255 (z : Int) (h0 : 0 ≤ z) (h1 : z < 18446744073709551616) : 0 ≤ bits BinOp.and IntKind.u64 z 255 ∧ bits BinOp.and IntKind.u64 z 255 ≤ 255 := by
  obtain ⟨m, rfl⟩ : ∃ m : Nat, z = m := ⟨z.toNat, by omega⟩
  have h := u64_and_nat m 255 (by omega) (by decide)
  have e : m &&& 255 = m % 256 := Nat.and_two_pow_sub_one_eq_mod _ 8
  rw [e] at h
  have e2 : bits BinOp.and IntKind.u64 (m : Int) 255 = ((m % 256 : Nat) : Int) := h
  rw [e2]; omega
theorem and_wrap (y : Int) : 0 ≤ wrap64 (bits BinOp.and IntKind.u64 (IntKind.u64.wrap y / 1099511627776) 255) ∧ wrap64 (bits BinOp.and IntKind.u64 (IntKind.u64.wrap y / 1099511627776) 255) ≤ 255 := by
  have h0 := u64_lo y
  have h1 := u64_hi y
  obtain ⟨h2, h3⟩ := and255 (IntKind.u64.wrap y / 1099511627776) (by omega) (by omega)
  rw [IntWalk.wrap64_in _ (by omega)]
  exact ⟨h2, h3⟩
/-- The bytes behind a reader. -/
structure Bytes (w0 : World) (a : Option Addr) (l : List Int) (n : Nat) : Prop where
  row : IRow .u8 w0 a l
  all : IAll .u8 l
  len : l.length = n
theorem Bytes.cell {w0 w : World} {a : Option Addr} {l : List Int} {n g cap B : Nat} (h : Bytes w0 a l n) (hs : SrcAt w0 w g a n cap B) {k : Nat} (hk : k < n) : ∃ b o x, a = some ⟨b, o, none⟩ ∧ w.cell? ⟨b, o + k, none⟩ = some (.int .u8 x) ∧ 0 ≤ x ∧ x ≤ 255 ∧ b ≠ g := by
  obtain ⟨b, o, ha, hlt, hc⟩ := h.row k (by rw [h.len]; exact hk)
  have h8 := h.all.u8 (show k < l.length by rw [h.len]; exact hk)
  refine ⟨b, o, _, ha, by rw [hs.below.cell (p := ⟨b, o + k, none⟩) hlt]; exact hc, h8.1, by omega, ?_⟩
  have := hs.ge
  omega
set_option maxHeartbeats 2000000 in
theorem next_any {w0 : World} {g : Nat} {a : Option Addr} {l : List Int} {n cap B : Nat} (hb : Bytes w0 a l n) (hn : n ≤ 1048576) (hB : B ≤ 1000000) (w : World) (h : SrcAt w0 w g a n cap B) :
    Calls Tryz.prog 70 #[.pointer (some ⟨g, 0, none⟩)] w fun e w' => ∃ x : Int, (0 ≤ x ∧ x ≤ 255) ∧ e = .returned (.int .i64 x) ∧ SrcAt w0 w' g a n cap (B + 1) ∧ w.grownBy w' (some g) := by
  obtain ⟨k, hk, hp⟩ := h.pos
  obtain ⟨z, hz0, hz1, hz⟩ := h.seed
  have hcd := h.code
  have f1 := h.free 1
  have f2 := h.free 2
  have hS := hidI h
  by_cases hlt : k < n
  · obtain ⟨b, o, x, rfl, hc, hx0, hx1, hbg⟩ := hb.cell h hlt
    clear h
    go_enter Tryz.func70, Tryz.ntmps70
    go_wp2_with fail
    go_quiet (fail)
    go_wp2_with fail
    go_quiet (fail)
    go_wp2_with fail
    go_quiet (fail)
    go_wp2
    go_ret
    refine ⟨_, ⟨hx0, hx1⟩, rfl, ((((hS.out.draws _).more (Nat.le_succ B)).setPos (k + 1) (by omega) _ rfl).setSeed _ (u64_lo _) (u64_hi _)).draws _, grown_draws (grown_trans (grown_trans (grown_draws (grown_refl w _) _) (grown_set _ g 1 _)) (grown_set _ g 2 _)) _⟩
  · clear h
    have hlt' : n ≤ k := by omega
    clear hlt
    go_enter Tryz.func70, Tryz.ntmps70
    go_wp2_with fail
    go_quiet (fail)
    go_wp2_with fail
    go_quiet (fail)
    go_wp2_with fail
    go_ret
    refine ⟨_, and_wrap _, rfl, ((((hS.out.draws _).more (Nat.le_succ B)).setPos (k + 1) (by omega) _ rfl).setSeed _ (u64_lo _) (u64_hi _)).draws _, grown_draws (grown_trans (grown_trans (grown_draws (grown_refl w _) _) (grown_set _ g 1 _)) (grown_set _ g 2 _)) _⟩
end Go.Proofs.YtogliigpoojfoaaGreatDoor
end

section
namespace Go.Proofs.YtogliigpoojfoaaGreatDoor
set_option maxRecDepth 100000
open Go.RowKit Fl

/-- What the library's tables and variables must hold. -/
def HexOk (w : World) : Prop := w.cell? ⟨6, 15, none⟩ = some (.int .u8 4) ∧ ErrVar "strconv.ErrSyntax" w ∧ ErrVar "strconv.ErrRange" w
def TabOk (w : World) : Prop := w.cell? ⟨6, 15, none⟩ = some (.int .u8 4)
theorem TabOk.stays {w w' : World} (h : TabOk w) (hb : Below w.heap.size w w') : TabOk w' := by
  unfold TabOk at h ⊢
  rw [hb.cell (p := ⟨6, 15, none⟩) (World.block_lt_of_cell? w _ h)]; exact h
theorem HexOk.tab {w : World} (h : HexOk w) : TabOk w := h.1
theorem HexOk.stays {w w' : World} (h : HexOk w) (hb : Below w.heap.size w w') : HexOk w' := ⟨TabOk.stays h.1 hb, h.2.1.stays hb, h.2.2.stays hb⟩
theorem size48 : (⟨#[48]⟩ : ByteArray).size = 1 := rfl
theorem rep48 (k : Nat) : Lib.repeatL [48] k = List.replicate k 48 := by
  induction k with
  | zero => rfl
  | succ k ih => show [48] ++ Lib.repeatL [48] k = _; rw [ih, List.replicate_succ]; rfl
theorem rep_hex (n m : Nat) (h1 : n ≤ 8) (h : m < 16 ^ n) : (⟨(Lib.repeatL [48] (8 - n)).toArray⟩ : ByteArray) ++ (⟨(lowH n m).toArray⟩ : ByteArray) = ⟨(lowH 8 m).toArray⟩ := by
  have hp := pad_all n m h (8 - n)
  rw [show 8 - n + n = 8 by omega] at hp
  apply ByteArray.ext
  rw [ByteArray.data_append, rep48, hp]
  simp
set_option maxRecDepth 100000 in
theorem ihex_any (a : Nat) (ha : a < 4294967296) (w : World) (h : TabOk w) :
    Calls Tryz.prog 46 #[.float .f32 a] w fun e w' => e = .returned (.string (hexT a)) ∧ Below w.heap.size w w' := by
  obtain ⟨hbi, hbl⟩ := bitsI_val ha
  unfold hexT
  have hBits := hidI (show ∀ w, Calls Tryz.prog 21 #[.float .f32 a] w fun e w' => e = .returned (.int .i64 ((bitsN a : Nat) : Int)) ∧ w' = w from fun w => by
    have := ibits_any a w
    rw [hbi] at this
    exact this)
  generalize bitsN a = m at hBits hbl
  clear hbi ha
  have hF := hidI (fmt_any m hbl w h)
  have hRep := hidI (show ∀ n : Nat, n ≤ 8 → ∀ w, Calls Tryz.prog 75 #[.string ⟨#[48]⟩, .int .i64 (8 - (n : Int))] w fun e w' => e = .returned (.string ⟨(Lib.repeatL [48] (8 - n)).toArray⟩) ∧ Below w.heap.size w w' from fun n hn w => by
    have := Tryz.strings_Repeat ⟨#[48]⟩ (8 - n) w (by omega) (by rw [size48]; omega)
    rwa [show ((8 - n : Nat) : Int) = 8 - (n : Int) by omega] at this)
  have hCat := hidI (fun n h1 h => rep_hex n m h1 h)
  clear h hbl
  go_enter Tryz.func46, Tryz.ntmps46
  go_wp2_with (first | (go_at_call 21; refine (hBits.out _).mono ?_; rintro e w' ⟨rfl, rfl⟩) | (go_at_call 74; refine hF.out.mono ?_; rintro e w1 ⟨n, h1, h2, h3, rfl, hB⟩; have b1 := hidI hB; have hn := hidI h3; have hR := hidI (hRep.out n h2); have hl := lowH_len n m; have hrl : (Lib.repeatL [48] (8 - n)).length = 8 - n := by { rw [Lib.repeatL_length]; simp }; clear hB h3) | (go_at_call 75; refine (hR.out _).mono ?_; rintro e w2 ⟨rfl, hB⟩; have b2 := hidI (b1.out.trans (hB.mono b1.out.size)); clear hB))
  go_ret
  exact ⟨by rw [hCat.out n h2 hn.out]; rfl, b2.out⟩
theorem or_u8 (c : UInt8) : bits BinOp.or IntKind.u8 (c.toNat : Int) 32 = ((c ||| 32).toNat : Int) := by
  have h : ∀ n : Fin 256, bits BinOp.or IntKind.u8 (n.val : Int) 32 = (((UInt8.ofNat n.val) ||| 32).toNat : Int) := by decide +kernel
  have := h ⟨c.toNat, c.toNat_lt⟩
  simpa using this
/-- What the library's reading gives. -/
def PuPost (t : ByteArray) (N : Nat) (r : Value) : Prop := (hvH t.data.toList = some N ∧ N < 4294967296 ∧ r = .nilIface) ∨ (readXB t = false ∧ N < 4294967296 ∧ (r = .iface 132 (.int .i64 2) ∨ r = .iface 132 (.int .i64 1)))
theorem hv_step {t : ByteArray} {k acc : Nat} (hk : k < t.size) (h : hvH (t.data.toList.take k) = some acc) : hvH (t.data.toList.take (k + 1)) = stepI (some acc) t[k] := by
  rw [take_snoc' t k hk, hvH_snoc, h]
theorem step_no {t : ByteArray} {k acc : Nat} {c : UInt8} (h : hvH (t.data.toList.take (k + 1)) = stepI (some acc) c) (hd : dboth c = none) : hvH t.data.toList = none := by
  refine hvH_none (k := k + 1) ?_
  rw [h]; unfold stepI; rw [hd]; rfl
theorem step_over {t : ByteArray} {k acc d : Nat} {c : UInt8} (h : hvH (t.data.toList.take (k + 1)) = stepI (some acc) c) (hd : dboth c = some d) (ho : 4294967296 ≤ 16 * acc + d) : hvH t.data.toList = none := by
  refine hvH_none (k := k + 1) ?_
  rw [h]; unfold stepI; rw [hd]
  show (if 16 * acc + d < 4294967296 then some (16 * acc + d) else none) = none
  rw [if_neg (by omega)]
theorem step_ok {t : ByteArray} {k acc d : Nat} {c : UInt8} (h : hvH (t.data.toList.take (k + 1)) = stepI (some acc) c) (hd : dboth c = some d) (ho : 16 * acc + d < 4294967296) : hvH (t.data.toList.take (k + 1)) = some (16 * acc + d) := by
  rw [h]; unfold stepI; rw [hd]
  show (if 16 * acc + d < 4294967296 then some (16 * acc + d) else none) = _
  rw [if_pos ho]
set_option maxHeartbeats 8000000 in
set_option maxRecDepth 100000 in
theorem ipu_any (t : ByteArray) (hmax : t.size ≤ 1048576) (w : World) :
    Calls Tryz.prog 96 #[.string t, .int .i64 16, .int .i64 32] w fun e w' => ∃ N r, e = .returned (.tuple #[.int .u64 (N : Nat), r]) ∧ PuPost t N r ∧ Below w.heap.size w w' := by
  by_cases hne : t.size = 0
  · have ht : t = ⟨#[]⟩ := ByteArray.ext (Array.eq_empty_of_size_eq_zero hne)
    subst ht
    refine (Tryz.internal_strconv_ParseUint_empty 16 32 w).mono ?_
    rintro e w' ⟨rfl, rfl⟩
    exact ⟨0, _, rfl, .inr ⟨readX_len (by decide), by omega, .inl rfl⟩, Below.refl _ _⟩
  have hemp : t.toList.isEmpty = false := by
    rw [← decide_eq_emptyBytes]
    exact decide_eq_false (fun h => hne (by rw [h]; rfl))
  have hcv := Lib.run_convert_string_bytes (P := Tryz.prog) w 9 22 5 t (u := .string) Tryz.underlying9 Tryz.underlying22 Tryz.underlying5
  have hB : ∀ j (hj : j < t.size), (Lib.bytesWorld w 5 t).cell? ⟨w.heap.size, j, none⟩ = some (.int .u8 (t[j].toNat : Int)) := fun j hj => by
    have := Lib.bytesWorld_cell w 5 t j hj
    rw [this]
    have e : t.data.toList.getD j 0 = t[j] := by simp [List.getD, List.getElem?_eq_getElem (show j < t.data.toList.length by rw [len_list]; exact hj)]; rfl
    rw [e]
  have hbel := hidI (Lib.bytesWorld_below w 5 t)
  obtain ⟨W1, hW1⟩ : ∃ W1, W1 = Lib.bytesWorld w 5 t := ⟨_, rfl⟩
  rw [← hW1] at hcv hB hbel
  clear hW1
  have hBy := hidI hB
  clear hB
  have hmv : IntKind.u64.wrap (IntKind.u64.wrap 4294967296 - 1) = 4294967295 := by
    rw [IntKind.wrap_u64, IntKind.wrap_u64]
    decide
  go_enter Tryz.func96, Tryz.ntmps96
  go_wp2
  go_loop [12, 13, 101] (fun vu vn vi => ∃ (k acc : Nat) (a : Int), vu = .bool false ∧ vn = .int .u64 a ∧ vi = .int .i64 k ∧ k ≤ t.size ∧ Hid (a = (acc : Int) ∧ acc < 4294967296 ∧ hvH (t.data.toList.take k) = some acc)) (fun _ _ vi => t.size - (intOf vi).toNat)
  case atStart => exact ⟨0, 0, 0, rfl, rfl, rfl, by omega, rfl, by omega, rfl⟩
  case round =>
    obtain ⟨k, acc, a, rfl, rfl, rfl, hk, hh⟩ := hrel
    obtain ⟨ha, hacc, hh⟩ := hh.out
    have a0 : 0 ≤ a := by omega
    have a1 : a ≤ 4294967295 := by omega
    by_cases hkn : k < t.size
    · have hc := hBy.out k hkn
      have hs := hidI (hv_step hkn hh)
      generalize t[k] = c at hc hs
      have hc256 : c.toNat < 256 := c.toNat_lt
      clear hh
      by_cases hdig : 48 ≤ c.toNat ∧ c.toNat ≤ 57
      · have hd : dboth c = some (c.toNat - 48) := by unfold dboth; rw [if_pos hdig]
        obtain ⟨hd0, hd1⟩ := hdig
        by_cases hov : 4294967295 < a * 16 + ((c.toNat : Int) - 48)
        · have hF := hidI (step_over hs.out hd (by omega))
          clear hd hacc ha
          go_wp2
          go_ret2
          exact ⟨4294967295, _, rfl, .inr ⟨readX_prog_bad hF.out, by omega, .inr rfl⟩, hbel.out⟩
        · have hF := hidI (step_ok hs.out hd (by omega))
          have HN := hidI (show a * 16 + ((c.toNat : Int) - 48) = ((16 * acc + (c.toNat - 48) : Nat) : Int) ∧ 16 * acc + (c.toNat - 48) < 4294967296 ∧ _ from ⟨by omega, by omega, hF.out⟩)
          have iov : a * 16 + ((c.toNat : Int) - 48) ≤ 4294967295 := by omega
          clear hd hacc ha hov hF
          go_wp2
          go_round
          case rel => exact ⟨k + 1, 16 * acc + (c.toNat - 48), a * 16 + ((c.toNat : Int) - 48), rfl, by go_num, by go_num, by omega, HN.out⟩
          case measure => simp [intOf]; omega
      · have hor := or_u8 c
        have hlw := hidI (fun w => Tryz.internal_strconv_lower (c.toNat : Int) w)
        rw [hor] at hlw
        have hd : dboth c = if 97 ≤ (c ||| 32).toNat ∧ (c ||| 32).toNat ≤ 102 then some ((c ||| 32).toNat - 87) else none := by unfold dboth; rw [if_neg hdig]
        have hv256 : (c ||| 32).toNat < 256 := (c ||| 32).toNat_lt
        have h95 : c.toNat = 95 → (c ||| 32).toNat = 127 := fun h => by
          have : c = 95 := UInt8.toNat_inj.1 h
          subst this; rfl
        generalize (c ||| 32).toNat = v at hlw hd hv256 h95
        clear hor
        have hl95 := hidI (fun w => Tryz.internal_strconv_lower 95 w)
        rw [show bits BinOp.or IntKind.u8 95 32 = 127 by kernel_rfl] at hl95
        have hdig' : (c.toNat : Int) < 48 ∨ 57 < (c.toNat : Int) := by omega
        by_cases hlet : 97 ≤ v ∧ v ≤ 102
        · rw [if_pos hlet] at hd
          obtain ⟨hl0, hl1⟩ := hlet
          have t95 : ((c.toNat : Int) == 95) = false := beq_eq_false_iff_ne.2 (fun h => by have := h95 (by omega); omega)
          clear h95 hl95
          by_cases hov : 4294967295 < a * 16 + ((v : Int) - 87)
          · have hF := hidI (step_over hs.out hd (by omega))
            clear hd hacc ha
            go_wp2_with (go_at_call 112; refine (hlw.out _).mono ?_; rintro e w' ⟨rfl, rfl⟩)
            all_goals go_ret2
            all_goals exact ⟨4294967295, _, rfl, .inr ⟨readX_prog_bad hF.out, by omega, .inr rfl⟩, hbel.out⟩
          · have hF := hidI (step_ok hs.out hd (by omega))
            have HN := hidI (show a * 16 + ((v : Int) - 97 + 10) = ((16 * acc + (v - 87) : Nat) : Int) ∧ 16 * acc + (v - 87) < 4294967296 ∧ _ from ⟨by omega, by omega, hF.out⟩)
            have iov : a * 16 + ((v : Int) - 97 + 10) ≤ 4294967295 := by omega
            clear hd hacc ha hov hF
            go_wp2_with (go_at_call 112; refine (hlw.out _).mono ?_; rintro e w' ⟨rfl, rfl⟩)
            all_goals go_round
            all_goals first | exact ⟨k + 1, 16 * acc + (v - 87), a * 16 + ((v : Int) - 97 + 10), rfl, by go_num, by go_num, by omega, HN.out⟩ | (simp [intOf]; omega)
        · rw [if_neg hlet] at hd
          have hF := hidI (step_no hs.out hd)
          clear hd hacc ha
          have hnl : (v : Int) < 97 ∨ 102 < (v : Int) := by omega
          by_cases c95 : c.toNat = 95
          · rw [c95] at hc hdig'
            clear hlw hnl h95
            go_wp2_with (go_at_call 112; refine (hl95.out _).mono ?_; rintro e w' ⟨rfl, rfl⟩)
            all_goals go_ret2
            all_goals exact ⟨0, _, rfl, .inr ⟨readX_prog_bad hF.out, by omega, .inl rfl⟩, hbel.out⟩
          have t95 : ((c.toNat : Int) == 95) = false := beq_eq_false_iff_ne.2 (fun h => c95 (by omega))
          clear hl95 h95 c95
          go_wp2_with (go_at_call 112; refine (hlw.out _).mono ?_; rintro e w' ⟨rfl, rfl⟩)
          all_goals go_ret2
          all_goals exact ⟨0, _, rfl, .inr ⟨readX_prog_bad hF.out, by omega, .inl rfl⟩, hbel.out⟩
    · have hkk : k = t.size := by omega
      subst hkk
      have hF := hh
      rw [List.take_of_length_le (by rw [len_list]; exact Nat.le_refl _)] at hF
      have hA := hidI (show a = (acc : Int) ∧ acc < 4294967296 ∧ _ from ⟨ha, hacc, hF⟩)
      clear ha hh hacc hF
      go_wp2
      go_ret2
      obtain ⟨ha, hacc, hF⟩ := hA.out
      subst ha
      exact ⟨acc, _, rfl, .inl ⟨hF, hacc, rfl⟩, hbel.out⟩
theorem err_cell {n : String} {g : Nat} {w : World} (h : ErrVar n w) (hg : Tryz.prog.globalNamed n = some g) : ∃ tp p, w.cell? ⟨g, 0, none⟩ = some (.iface tp p) := by
  obtain ⟨tp, p, hv⟩ := h
  exact ⟨tp, p, by have h0 := World.var?_cell hg hv 0; simpa using h0⟩
theorem cell_below {w w' : World} {p : Addr} {v : Value} (h : w.cell? p = some v) (hb : Below w.heap.size w w') : w'.cell? p = some v := by
  rw [hb.cell (p := p) (World.block_lt_of_cell? w _ h)]; exact h
/-- What the public reading gives. -/
def PvPost (t : ByteArray) (N : Nat) (r : Value) : Prop := (hvH t.data.toList = some N ∧ N < 4294967296 ∧ r = .nilIface) ∨ (readXB t = false ∧ N < 4294967296 ∧ ∃ a, r = .iface 135 (.pointer (some ⟨a, 0, none⟩)))
set_option maxRecDepth 100000 in
theorem pub_any (t : ByteArray) (hmax : t.size ≤ 1048576) (w : World) (hO : HexOk w) :
    Calls Tryz.prog 78 #[.string t, .int .i64 16, .int .i64 32] w fun e w' => ∃ N r, e = .returned (.tuple #[.int .u64 (N : Nat), r]) ∧ PvPost t N r ∧ Below w.heap.size w w' := by
  obtain ⟨-, hS, hR⟩ := hO
  obtain ⟨tp, p, hS⟩ := err_cell (g := 2) hS (by kernel_rfl)
  obtain ⟨tq, q, hR⟩ := err_cell (g := 3) hR (by kernel_rfl)
  have hcS := hidI hS
  have hcR := hidI hR
  clear hS hR
  have hI := hidI (ipu_any t hmax w)
  have hTs := hidI (fun w h => Tryz.strconv_toError_syntax ⟨#[80, 97, 114, 115, 101, 85, 105, 110, 116]⟩ t 16 32 (.iface tp p) w (by omega) h (.inr ⟨tp, p, rfl⟩))
  have hTr := hidI (fun w h => Tryz.strconv_toError_range ⟨#[80, 97, 114, 115, 101, 85, 105, 110, 116]⟩ t 16 32 (.iface tq q) w (by omega) h (.inr ⟨tq, q, rfl⟩))
  go_enter Tryz.func78, Tryz.ntmps78
  go_wp2_with (go_at_call 96; refine hI.out.mono ?_)
  rintro e w1 ⟨N, r, rfl, hP, hB⟩
  have b1 := hidI hB
  clear hB
  rcases hP with ⟨h1, h2, rfl⟩ | ⟨h1, h2, h3⟩
  · have hF := hidI h1
    clear h1
    go_wp2
    go_ret2
    exact ⟨N, _, rfl, .inl ⟨hF.out, h2, rfl⟩, b1.out⟩
  · have hF := hidI h1
    clear h1
    rcases h3 with rfl | rfl
    · go_wp2_with (go_at_call 97; refine (hTs.out _ (cell_below hcS.out b1.out)).mono ?_; rintro e w2 ⟨a, rfl, -, -, hB⟩; have b2 := hidI (b1.out.trans (hB.mono b1.out.size)); clear hB)
      go_ret2
      exact ⟨N, _, rfl, .inr ⟨hF.out, h2, a, rfl⟩, b2.out⟩
    · go_wp2_with (go_at_call 97; refine (hTr.out _ (cell_below hcR.out b1.out)).mono ?_; rintro e w2 ⟨a, rfl, -, -, hB⟩; have b2 := hidI (b1.out.trans (hB.mono b1.out.size)); clear hB)
      go_ret2
      exact ⟨N, _, rfl, .inr ⟨hF.out, h2, a, rfl⟩, b2.out⟩
/-- The program's reading of one number: its number where it says that there is one. -/
theorem ireadhex_any (t : ByteArray) (hmax : t.size ≤ 1048576) (w : World) (hO : HexOk w) :
    Calls Tryz.prog 49 #[.string t] w fun e w' => ∃ N, e = .returned (.tuple #[.float .f32 N, .bool (readXB t)]) ∧ (readXB t = true → N = readX t) ∧ Below w.heap.size w w' := by
  have hI := hidI (pub_any t hmax w hO)
  have hX := hidI (fun N (hN : N < 4294967296) w h => ihex_any N hN w h)
  have hT := hidI hO.tab
  clear hO
  go_enter Tryz.func49, Tryz.ntmps49
  go_wp2_with (go_at_call 78; refine hI.out.mono ?_)
  rintro e w1 ⟨N, r, rfl, hP, hB⟩
  have b1 := hidI hB
  clear hB
  rcases hP with ⟨h1, h2, rfl⟩ | ⟨h1, h2, a, rfl⟩
  · have hXN := hidI (hX.out N h2)
    by_cases hs : hexT N = t
    · have hF := hidI (readX_prog h1 h2 hs)
      have tt := same_text hs
      clear h1 hs
      generalize hexT N = T at hXN tt
      go_wp2_with (go_at_call 46; refine (hXN.out _ (hT.out.stays b1.out)).mono ?_; rintro e w2 ⟨rfl, hB⟩; have b2 := hidI (b1.out.trans (hB.mono b1.out.size)); clear hB)
      go_ret2
      exact ⟨N, by rw [hF.out.1]; rfl, fun _ => hF.out.2.symm, b2.out⟩
    · have hF := hidI (readX_prog_no h1 hs)
      have tt := diff_text hs
      clear h1 hs
      generalize hexT N = T at hXN tt
      go_wp2_with (go_at_call 46; refine (hXN.out _ (hT.out.stays b1.out)).mono ?_; rintro e w2 ⟨rfl, hB⟩; have b2 := hidI (b1.out.trans (hB.mono b1.out.size)); clear hB)
      go_ret2
      exact ⟨N, by rw [hF.out]; rfl, (fun h => absurd h (by rw [hF.out]; decide)), b2.out⟩
  · have hF := hidI h1
    clear h1
    go_wp2
    go_ret2
    exact ⟨N, by rw [hF.out]; rfl, (fun h => absurd h (by rw [hF.out]; decide)), b1.out⟩
end Go.Proofs.YtogliigpoojfoaaGreatDoor
end

section
namespace Go.Proofs.YtogliigpoojfoaaGreatDoor
set_option maxRecDepth 100000
open Go.RowKit

def accB (s : ByteArray) (l : List ByteArray) : ByteArray := l.foldl (fun s x => s ++ ((⟨#[44]⟩ : ByteArray) ++ x)) s
/-- The text of parts: 'none' where there is none. -/
def textB : List ByteArray → ByteArray
  | [] => noneT
  | x :: xs => accB x xs
theorem accB_snoc (s : ByteArray) (l : List ByteArray) (x : ByteArray) : accB s (l ++ [x]) = accB s l ++ ((⟨#[44]⟩ : ByteArray) ++ x) := by
  unfold accB; rw [List.foldl_append]; rfl
theorem accB_size (c : Nat) : ∀ (l : List ByteArray) (s : ByteArray), (∀ x ∈ l, x.size ≤ c) → (accB s l).size ≤ s.size + (c + 1) * l.length := by
  intro l
  induction l with
  | nil => intro s _; exact Nat.le_refl _
  | cons x l ih =>
    intro s h
    have h1 := ih (s ++ ((⟨#[44]⟩ : ByteArray) ++ x)) (fun y hy => h y (List.mem_cons_of_mem _ hy))
    have h2 := h x (List.mem_cons_self ..)
    have h3 : (s ++ ((⟨#[44]⟩ : ByteArray) ++ x)).size = s.size + (1 + x.size) := by
      rw [ByteArray.size_append, ByteArray.size_append]; rfl
    show (accB (s ++ ((⟨#[44]⟩ : ByteArray) ++ x)) l).size ≤ _
    rw [List.length_cons, Nat.mul_succ]
    omega
theorem join_accB : ∀ (xs : List ByteArray) (x : ByteArray), (Lib.join ((x :: xs).map (·.data.toList)) [44]) = (accB x xs).data.toList := by
  intro xs
  induction xs with
  | nil => intro x; simp [Lib.join, accB, List.intercalate]
  | cons n xs ih =>
    intro x
    have h := ih (x ++ ((⟨#[44]⟩ : ByteArray) ++ n))
    have e1 : accB x (n :: xs) = accB (x ++ ((⟨#[44]⟩ : ByteArray) ++ n)) xs := rfl
    rw [e1, ← h]
    have e2 : (x ++ ((⟨#[44]⟩ : ByteArray) ++ n)).data.toList = x.data.toList ++ ([44] ++ n.data.toList) := by
      rw [ByteArray.data_append, ByteArray.data_append]; simp
    cases xs with
    | nil => simp [Lib.join, List.intercalate, List.intersperse]
    | cons m ms => simp [Lib.join, List.intercalate, List.intersperse]
theorem join_textB (x : ByteArray) (xs : List ByteArray) : joinT (x :: xs) = textB (x :: xs) := by
  unfold joinT
  rw [join_accB]; rfl
/-- The program's text of parts that lie in an own row. -/
theorem lor_parts (g cap n base c : Nat) (l : List ByteArray) (hn : l.length = n) (hN : n ≤ 1048576) (hc : c ≤ 100) (hsz : ∀ x ∈ l, x.size ≤ c) (W : World) (h : W.ownsRow base 9 1 (.slice (some ⟨g, 0, none⟩) n cap) n (strs l)) :
    Calls Tryz.prog 47 #[.slice (some ⟨g, 0, none⟩) n cap] W fun e w' => e = .returned (.string (textB l)) ∧ Below W.heap.size W w' := by
  cases l with
  | nil =>
    subst hn
    exact lor_nil _ cap W
  | cons x xs =>
    have hn1 : 0 < n := by rw [← hn]; simp
    obtain ⟨g', cap', hv, -, hg, hcap⟩ := owns_shape h hn1
    cases hv
    rw [← join_textB]
    refine lor_any g cap n _ hn hn1 hN hcap W hg (strs_cell h) ?_
    rw [join_accB]
    have h1 := accB_size c xs x (fun y hy => hsz y (List.mem_cons_of_mem _ hy))
    have h2 := hsz x (List.mem_cons_self ..)
    have h3 : (accB x xs).data.toList.length = (accB x xs).size := rfl
    rw [List.length_cons] at hn
    have h4 : (c + 1) * xs.length ≤ 101 * 1048576 := Nat.mul_le_mul (by omega) (by omega)
    omega
end Go.Proofs.YtogliigpoojfoaaGreatDoor
end
