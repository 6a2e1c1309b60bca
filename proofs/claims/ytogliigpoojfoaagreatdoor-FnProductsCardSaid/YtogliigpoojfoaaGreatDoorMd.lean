/-
  Plain facts on numbers and their texts: a number widened and narrowed is itself; texts of numbers are read back.
-/
import Derived.Test.YtogliigpoojfoaaGreatDoorK8
import Derived.Test.YtogliigpoojfoaaGreatDoorK6
import Derived.Test.YtogliigpoojfoaaGreatDoorKb
namespace Go.Proofs.YtogliigpoojfoaaGreatDoor
set_option maxRecDepth 100000
open Go.RowKit Fl

theorem rnd_back {V1 m : Nat} {p : Int} (r : Nat) (hV : V Ieee.single r = V1) (hp : (-1074 : Int) ≤ p) (h : m * 2 ^ (p + 1074).toNat = V1 * 2 ^ 925) : rnd Ieee.single m p = r := by
  have lp : Ieee.single.leastPlace = -149 := rfl
  by_cases hc : (-149 : Int) ≤ p
  · rw [rnd_at Ieee.single m (by rw [lp]; exact hc), lp]
    have e : (p + 1074).toNat = (p - (-149)).toNat + 925 := by omega
    rw [e, Nat.pow_add, ← Nat.mul_assoc] at h
    have h2 := Nat.eq_of_mul_eq_mul_right (Nat.pow_pos (by decide)) h
    rw [h2, ← hV, ← lp, rnd_V]
  · obtain ⟨s, hs⟩ : ∃ s : Nat, p = -149 - (s : Int) := ⟨(-149 - p).toNat, by omega⟩
    have e : 925 = (p + 1074).toNat + s := by omega
    have h' : m * 2 ^ (p + 1074).toNat = V1 * 2 ^ s * 2 ^ (p + 1074).toNat := by
      rw [Nat.mul_assoc, ← Nat.pow_add, Nat.add_comm s, ← e]; exact h
    have h2 := Nat.eq_of_mul_eq_mul_right (Nat.pow_pos (by decide)) h'
    rw [h2, hs, rnd_shift, ← hV, ← lp, rnd_V]
theorem narrow_back {a x : Nat} (ha : (Lit.float .f32 a).wf = true) (hx : FConv .f32 .f64 a x) : fits .f64 .f32 x = true ∧ fconv .f64 .f32 (mean .f64 x) = mean .f32 a := by
  have h1 := hx.1 (fits_wide a)
  cases hn : (FloatKind.f32.decode a).isNaN
  · obtain ⟨q, hq, hqi, hinf, hV⟩ := widen hn hx
    have hm : mag Ieee.double x = q := by rw [hq]; exact mag_word Ieee.double _ hqi
    have hs : sgn Ieee.double x = sgn Ieee.single a := by rw [hq]; exact sgn_word Ieee.double _ hqi
    have hle := le_inf hn
    have hle' : mag Ieee.single a ≤ Ieee.single.infRung := hle
    have hmx : mean .f64 x = some x := mean_some_of_fin (k := .f64) (by show mag Ieee.double x ≤ _; rw [hm]; exact hqi)
    have ea : a = Ieee.single.word (sgn Ieee.single a) (mag Ieee.single a) := word_sgn_mag Ieee.single (lt_of_wf ha)
    rw [hmx, mean_of hn]
    by_cases hi : mag Ieee.single a = Ieee.single.infRung
    · have hqe := hinf.2 hi
      refine ⟨fits_inf (s := .f64) (by show mag Ieee.double x = _; rw [hm, hqe]; rfl), ?_⟩
      have hd : FloatKind.f64.decode x = .infinity (sgn Ieee.double x) := read_inf .f64 (by show mag Ieee.double x = _; rw [hm, hqe]; rfl)
      show some (FloatKind.f32.encode (FloatKind.f64.decode x)) = some a
      rw [hd, hs]
      show some (Ieee.single.word _ Ieee.single.infRung) = _
      rw [← hi, ← ea]
    · have hlt : mag Ieee.single a < Ieee.single.infRung := by omega
      have hqlt : q < Ieee.double.infRung := by
        rcases Nat.lt_or_ge q Ieee.double.infRung with c | c
        · exact c
        · exact absurd (hinf.1 (by omega)) hi
      obtain ⟨m, p, e, lp, v, -⟩ := read_fin Ieee.double (b := x) (by rw [hm]; exact hqlt)
      have e' : FloatKind.f64.decode x = .number (sgn Ieee.double x) m p := e
      rw [hm, hV hlt] at v
      have hr : rnd Ieee.single m p = mag Ieee.single a := rnd_back _ rfl lp v
      have hw : FloatKind.f32.encode (.number (sgn Ieee.double x) m p) = a := by
        show Ieee.single.nearest _ m p = a
        rw [nearest_rnd, hr, Nat.min_eq_left (Nat.le_of_lt hlt), hs, ← ea]
      obtain ⟨m2, p2, e2, -, -, -⟩ := read_fin Ieee.single hlt
      have e2' : FloatKind.f32.decode a = .number (sgn Ieee.single a) m2 p2 := e2
      refine ⟨?_, ?_⟩
      · unfold fits
        rw [e']
        show (decide _ || !(FloatKind.f32.decode (FloatKind.f32.encode (.number (sgn Ieee.double x) m p))).isInfinity) = true
        rw [hw, e2']; rfl
      · show some (FloatKind.f32.encode (FloatKind.f64.decode x)) = some a
        rw [e', hw]
  · have hm : mean .f32 a = none := mean_nan hn
    rw [hm] at h1
    have h2 : mean .f64 x = none := h1
    have hnx : (FloatKind.f64.decode x).isNaN = true := by
      cases hc : (FloatKind.f64.decode x).isNaN
      · rw [mean_of hc] at h2; cases h2
      · rfl
    exact ⟨fits_nan hnx, by rw [h2, hm]; rfl⟩
theorem narrow_same {a x r : Nat} (ha : (Lit.float .f32 a).wf = true) (hx : FConv .f32 .f64 a x) (hr : FConv .f64 .f32 x r) : mean .f32 r = mean .f32 a := by
  obtain ⟨h1, h2⟩ := narrow_back ha hx
  rw [hr.1 h1, h2]
/-- Two words that mean the same have the same bits. -/
theorem bits_mean {a b : Nat} (h : mean .f32 a = mean .f32 b) : bitsI a = bitsI b := by
  cases ha : (FloatKind.f32.decode a).isNaN
  · cases hb : (FloatKind.f32.decode b).isNaN
    · rw [mean_of ha, mean_of hb] at h
      injection h with h
      rw [h]
    · rw [mean_of ha, mean_nan hb] at h; cases h
  · cases hb : (FloatKind.f32.decode b).isNaN
    · rw [mean_nan ha, mean_of hb] at h; cases h
    · rw [bitsI_nan ha, bitsI_nan hb]
theorem sameB_mean {a b : Nat} (h : mean .f32 a = mean .f32 b) : sameB a b = true := by
  unfold sameB; rw [bits_mean h]; exact beq_self_eq_true _
theorem sameB_refl (a : Nat) : sameB a a = true := sameB_mean rfl
theorem bits_own {a : Nat} (h : a < 4294967296) : bitsI (bitsN a) = ((bitsN a : Nat) : Int) ∧ bitsN a < 4294967296 := by
  obtain ⟨h1, h2⟩ := bitsI_val h
  cases hn : (FloatKind.f32.decode a).isNaN
  · have e : bitsN a = a := by
      have h3 := bitsI_num hn
      have h4 : wrap64 (a : Int) = a := IntWalk.wrap64_in _ (by omega)
      rw [h4, h1] at h3
      omega
    rw [e] at h1 ⊢
    exact ⟨h1, h⟩
  · have h3 := bitsI_nan hn
    rw [h1] at h3
    have e : bitsN a = 2143289344 := by omega
    rw [e]
    exact ⟨by decide +kernel, by decide⟩
theorem sameB_own {a : Nat} (h : a < 4294967296) : sameB (bitsN a) a = true := by
  unfold sameB
  rw [(bits_own h).1, (bitsI_val h).1]; exact beq_self_eq_true _
/-- The text of a number is read back. -/
theorem readX_hex {a : Nat} (h : a < 4294967296) : readXB (hexT a) = true ∧ readX (hexT a) = bitsN a := by
  obtain ⟨h1, h2⟩ := bits_own h
  exact readX_of (by rw [hexT_list]; exact svH_low 8 _ (by rw [pow16_8]; exact h2)) (by rw [hexT_list, lowH_len]) h1
theorem cut_app (p t : List UInt8) (h : ∀ b ∈ p, b ≠ 44) : cutL (p ++ 44 :: t) = p :: cutL t := by
  induction p with
  | nil => exact cutL_comma t
  | cons b p ih =>
    rw [List.cons_append, cutL_other (h b (List.mem_cons_self ..)), ih (fun c hc => h c (List.mem_cons_of_mem _ hc))]; rfl
theorem cut_free (p : List UInt8) (h : ∀ b ∈ p, b ≠ 44) : cutL p = [p] := by
  induction p with
  | nil => rfl
  | cons b p ih =>
    rw [cutL_other (h b (List.mem_cons_self ..)), ih (fun c hc => h c (List.mem_cons_of_mem _ hc))]; rfl
theorem cut_join : ∀ (P : List (List UInt8)), P ≠ [] → (∀ p ∈ P, ∀ b ∈ p, b ≠ 44) → cutL (Lib.join P [44]) = P := by
  intro P
  induction P with
  | nil => intro h; exact absurd rfl h
  | cons p P ih =>
    intro _ h
    cases P with
    | nil =>
      have e : Lib.join [p] [44] = p := by simp [Lib.join, List.intercalate]
      rw [e]
      exact cut_free p (h p (List.mem_cons_self ..))
    | cons q P =>
      have e : Lib.join (p :: q :: P) [44] = p ++ 44 :: Lib.join (q :: P) [44] := by simp [Lib.join, List.intercalate, List.intersperse]
      rw [e, cut_app p _ (h p (List.mem_cons_self ..)), ih (List.cons_ne_nil _ _) (fun x hx => h x (List.mem_cons_of_mem _ hx))]
theorem lowH_free : ∀ (n m : Nat), ∀ b ∈ lowH n m, b ≠ 44 := by
  intro n
  induction n with
  | zero => intro m b hb; cases hb
  | succ n ih =>
    intro m b hb
    rcases List.mem_cons.1 hb with rfl | hb
    · intro c
      have h1 := hexC_nat (m / 16 ^ n % 16) (Nat.mod_lt _ (by decide))
      rw [c] at h1
      have h2 : (44 : UInt8).toNat = 44 := rfl
      rw [h2] at h1
      split at h1 <;> omega
    · exact ih m b hb
/-- The parts of a text of parts without commas are these parts. -/
theorem cutT_text {P : List ByteArray} (h0 : P ≠ []) (h : ∀ p ∈ P, ∀ b ∈ p.data.toList, b ≠ 44) : cutT (textB P) = P := by
  cases P with
  | nil => exact absurd rfl h0
  | cons x xs =>
    have hj : (textB (x :: xs)).data.toList = Lib.join ((x :: xs).map (·.data.toList)) [44] := (join_accB xs x).symm
    unfold cutT
    rw [hj, cut_join _ (by simp) (fun p hp b hb => by
      obtain ⟨y, hy, rfl⟩ := List.mem_map.1 hp
      exact h y hy b hb), List.map_map]
    have e : ((fun l : List UInt8 => (⟨l.toArray⟩ : ByteArray)) ∘ fun x : ByteArray => x.data.toList) = id := by
      funext x; obtain ⟨⟨l⟩⟩ := x; rfl
    rw [e, List.map_id]
theorem accB_ge : ∀ (l : List ByteArray) (s : ByteArray), s.size ≤ (accB s l).size := by
  intro l
  induction l with
  | nil => intro s; exact Nat.le_refl _
  | cons x l ih =>
    intro s
    have h1 := ih (s ++ ((⟨#[44]⟩ : ByteArray) ++ x))
    have h3 : (s ++ ((⟨#[44]⟩ : ByteArray) ++ x)).size = s.size + (1 + x.size) := by
      rw [ByteArray.size_append, ByteArray.size_append]; rfl
    show s.size ≤ (accB (s ++ ((⟨#[44]⟩ : ByteArray) ++ x)) l).size
    omega
theorem wtext_back (l : List Nat) (hl : l.length ≤ 256) (hw : AllWf l) : listOkX (wtext l) = true ∧ wordsOf (wtext l) = l.map bitsN ∧ (wtext l).size ≤ 1048576 := by
  cases l with
  | nil =>
    have e : wtext [] = noneT := rfl
    unfold listOkX wordsOf
    rw [e, if_pos rfl, if_pos rfl]
    exact ⟨rfl, rfl, by decide⟩
  | cons x xs =>
    have hlt : ∀ y ∈ x :: xs, y < 4294967296 := fun y hy => by
      obtain ⟨i, hi, rfl⟩ := List.getElem_of_mem hy
      exact hw.lt hi
    have hsz : 8 ≤ (wtext (x :: xs)).size := by
      have := accB_ge (xs.map hexT) (hexT x)
      rw [hexT_size] at this
      exact this
    have hne : wtext (x :: xs) ≠ noneT := fun e => by
      rw [e] at hsz
      have : noneT.size = 4 := rfl
      omega
    have hcut : cutT (wtext (x :: xs)) = (x :: xs).map hexT := cutT_text (by simp) (fun p hp b hb => by
      obtain ⟨y, -, rfl⟩ := List.mem_map.1 hp
      rw [hexT_list] at hb
      exact lowH_free _ _ b hb)
    have hok : okX ((x :: xs).map hexT) = true := by
      unfold okX
      rw [Bool.and_eq_true, decide_eq_true_iff, List.length_map, List.all_eq_true]
      refine ⟨fun p hp => ?_, hl⟩
      obtain ⟨y, hy, rfl⟩ := List.mem_map.1 hp
      exact (readX_hex (hlt y hy)).1
    have hup := accB_hex x xs xs.length
    rw [List.take_of_length_le (by rw [List.length_map]; exact Nat.le_refl _)] at hup
    refine ⟨?_, ?_, ?_⟩
    · unfold listOkX; rw [if_neg hne, hcut, hok]
    · unfold wordsOf
      rw [if_neg hne, hcut, numX_yes hok, List.map_map]
      apply List.map_congr_left
      intro y hy
      exact (readX_hex (hlt y hy)).2
    · have h2 : (wtext (x :: xs)).size ≤ 8 + 9 * xs.length := hup
      rw [List.length_cons] at hl
      omega
end Go.Proofs.YtogliigpoojfoaaGreatDoor
