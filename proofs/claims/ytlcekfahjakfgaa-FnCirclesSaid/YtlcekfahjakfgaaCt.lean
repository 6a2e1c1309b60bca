/-
  Tenths of decibels of eighths and of their products: words, and the tenths by reckoning.
-/
import Derived.Test.YtlcekfahjakfgaaFy
import Derived.Test.YtlcekfahjakfgaaTn
namespace Go.Proofs.Ytlcekfahjakfgaa
open Go.RowKit Fl

/-- The 32-bit word of N / 2 ^ s. -/
def w32 (N s : Nat) : Nat := Ieee.single.nearest false N (-(s : Int))
theorem w32_V {N s : Nat} (hN : N < 2 ^ 24) (hs : s ≤ 149) : V Ieee.single (w32 N s) = N * 2 ^ (149 - s) ∧ w32 N s < Ieee.single.infRung := by
  obtain ⟨r, hr, hlt⟩ := repr Ieee.single N (149 - s) hN
  have hi : r < Ieee.single.infRung := by
    have h1 : (149 - s + 2) * Ieee.single.binade ≤ 151 * Ieee.single.binade := Nat.mul_le_mul_right _ (by omega)
    have h2 : 151 * Ieee.single.binade < Ieee.single.infRung := by decide
    omega
  have e : rnd Ieee.single N (-(s : Int)) = r := by
    have lp : Ieee.single.leastPlace = -149 := rfl
    rw [rnd_at Ieee.single N (by rw [lp]; omega), lp]
    have e1 : (-(s : Int) - -149).toNat = 149 - s := by omega
    rw [e1, ← hr]
    have := rnd_V Ieee.single r
    rw [lp] at this
    exact this
  have ew : w32 N s = r := by
    unfold w32
    rw [nearest_rnd, e, Nat.min_eq_left (Nat.le_of_lt hi)]; rfl
  rw [ew]
  exact ⟨hr, hi⟩
theorem w32_parts {N s : Nat} (hN : N < 2 ^ 24) (hs : s ≤ 149) : sgn Ieee.single (w32 N s) = false ∧ mag Ieee.single (w32 N s) = w32 N s := by
  have h := (w32_V hN hs).2
  have h' : w32 N s < 2147483648 := Nat.lt_trans h (by decide)
  refine ⟨?_, Nat.mod_eq_of_lt h'⟩
  show (w32 N s / 2147483648 % 2 == 1) = false
  rw [Nat.div_eq_of_lt h']; rfl
theorem w32_fin {N s : Nat} (hN : N < 2 ^ 24) (hs : s ≤ 149) : finB .f32 (w32 N s) = true := by
  refine decide_eq_true ?_
  show mag Ieee.single (w32 N s) < Ieee.single.infRung
  rw [(w32_parts hN hs).2]; exact (w32_V hN hs).2
theorem w32_wf {N s : Nat} (hN : N < 2 ^ 24) (hs : s ≤ 149) : (Lit.float .f32 (w32 N s)).wf = true := wf_of_lt .f32 _ (Nat.lt_trans (w32_V hN hs).2 (by decide))
theorem w32_pos {N s : Nat} (h0 : 0 < N) (hN : N < 2 ^ 24) (hs : s ≤ 149) : mag Ieee.single (w32 N s) ≠ 0 ∧ posB (w32 N s) = true := by
  obtain ⟨p1, p2⟩ := w32_parts hN hs
  have hv := (w32_V hN hs).1
  have hm : mag Ieee.single (w32 N s) ≠ 0 := by
    rw [p2]
    intro c
    rw [c, V_small (Nat.two_pow_pos _)] at hv
    have := Nat.mul_pos h0 (Nat.two_pow_pos (149 - s))
    omega
  refine ⟨hm, ?_⟩
  have hf := w32_fin hN hs
  have hle : mag Ieee.single (w32 N s) ≤ Ieee.single.infRung := Nat.le_of_lt (of_decide_eq_true hf)
  unfold posB
  rw [hf, ord0_gt (k := .f32) hle p1 hm]; rfl
/-- Products of small whole numbers are exact. -/
theorem w32_mul {n m : Nat} (hn : n < 2 ^ 12) (hm : m < 2 ^ 12) : fop .mul .f32 (some (w32 n 3)) (some (w32 m 3)) = some (w32 (n * m) 6) := by
  have hn' : n < 2 ^ 24 := Nat.lt_trans hn (by decide)
  have hm' : m < 2 ^ 24 := Nat.lt_trans hm (by decide)
  have v1 := (w32_V hn' (show 3 ≤ 149 by omega)).1
  have v2 := (w32_V hm' (show 3 ≤ 149 by omega)).1
  have f1 := w32_fin hn' (show 3 ≤ 149 by omega)
  have f2 := w32_fin hm' (show 3 ≤ 149 by omega)
  obtain ⟨a, p, e1, l1, u1, -⟩ := read_fin Ieee.single (b := w32 n 3) (of_decide_eq_true f1)
  obtain ⟨b, q, e2, l2, u2, -⟩ := read_fin Ieee.single (b := w32 m 3) (of_decide_eq_true f2)
  rw [(w32_parts hn' (by omega)).2, v1] at u1
  rw [(w32_parts hm' (by omega)).2, v2] at u2
  rw [(w32_parts hn' (by omega)).1] at e1
  rw [(w32_parts hm' (by omega)).1] at e2
  show ((Ieee.single.read (w32 n 3)).product (Ieee.single.read (w32 m 3))).map Ieee.single.write = _
  rw [e1, e2]
  show some (Ieee.single.nearest false (a * b) (p + q)) = some (Ieee.single.nearest false (n * m) (-((6 : Nat) : Int)))
  rw [nearest_rnd, nearest_rnd]
  have l1' : (-149 : Int) ≤ p := l1
  have l2' : (-149 : Int) ≤ q := l2
  have k1 : (p - Ieee.single.leastPlace).toNat = (p + 149).toNat := by show (p - (-149)).toNat = _; congr 1
  have k2 : (q - Ieee.single.leastPlace).toNat = (q + 149).toNat := by show (q - (-149)).toNat = _; congr 1
  rw [k1] at u1
  rw [k2] at u2
  obtain ⟨k, hk⟩ : ∃ k : Nat, k = 149 - 3 := ⟨_, rfl⟩
  rw [← hk] at u1 u2
  have hv : a * b * 2 ^ ((p + 149).toNat + (q + 149).toNat) = n * m * 2 ^ (k + k) := by
    rw [Nat.pow_add, Nat.pow_add, Nat.mul_mul_mul_comm, u1, u2, Nat.mul_mul_mul_comm]
  have s1 := rnd_shift Ieee.single (a * b) ((p + 149).toNat + (q + 149).toNat) (p + q)
  have s2 := rnd_shift Ieee.single (n * m) (k + k) (-((6 : Nat) : Int))
  have q1 : p + q - (((p + 149).toNat + (q + 149).toNat : Nat) : Int) = -298 := by omega
  have q2 : -((6 : Nat) : Int) - ((k + k : Nat) : Int) = -298 := by omega
  rw [q1, hv] at s1
  rw [q2] at s2
  rw [← s1, ← s2]

/-! ### Tenths -/
/-- The tenths of N / 2 ^ s, and 1000. -/
def tenN (N s : Nat) : Nat := force (addL (mulL (lgF (widN (w32 N s))) 4631308968768463603) 4602678819172646912) fun b => bif Nat.ble 18446744073709551616 b then 0 else (tenI (some b) + 1000).toNat
theorem tenN_ok {N s : Nat} (h0 : 0 < N) (hN : N < 2 ^ 24) (hs : s ≤ 149) (h : 0 < tenN N s) : tenOf (w32 N s) = (tenN N s : Int) - 1000 := by
  obtain ⟨hm, hp⟩ := w32_pos h0 hN hs
  have hr : Rel (tenT (w32 N s)) (addL (mulL (lgF (widN (w32 N s))) 4631308968768463603) 4602678819172646912) :=
    addL_rel (mulL_rel (lgF_rel (w32_fin hN hs) (w32_parts hN hs).1 hm) Rel.of) Rel.of
  rw [tenOf_yes hp]
  unfold tenN at h ⊢
  rw [force_eq] at h ⊢
  generalize addL (mulL (lgF (widN (w32 N s))) 4631308968768463603) 4602678819172646912 = b at *
  cases c : Nat.ble 18446744073709551616 b
  · rw [c, cond_false] at h
    rw [hr (ble_false.1 c), cond_false]
    omega
  · rw [c] at h; exact absurd h (Nat.lt_irrefl _)
/-- The tenths of n / 8, and 1000. -/
def tT (n : Nat) : Nat := tab.getD n 0
  where tab : List Nat := [1000, 910, 940, 957, 970, 980, 988, 994, 1000, 1005, 1010, 1014, 1018, 1021, 1024, 1027, 1030, 1033, 1035, 1038, 1040, 1042, 1044, 1046, 1048, 1049, 1051, 1053, 1054, 1056, 1057, 1059, 1060, 1062, 1063, 1064, 1065, 1067, 1068, 1069, 1070, 1071, 1072, 1073, 1074, 1075, 1076, 1077, 1078, 1079, 1080, 1080, 1081, 1082, 1083, 1084, 1085, 1085, 1086, 1087, 1088, 1088, 1089, 1090, 1090, 1091, 1092, 1092, 1093, 1094, 1094, 1095, 1095, 1096, 1097, 1097, 1098, 1098, 1099, 1099, 1100, 1101, 1101, 1102, 1102, 1103, 1103, 1104, 1104, 1105, 1105, 1106, 1106, 1107, 1107, 1107, 1108, 1108, 1109, 1109, 1110, 1110, 1111, 1111, 1111, 1112, 1112, 1113, 1113, 1113, 1114, 1114, 1115, 1115, 1115, 1116, 1116, 1117, 1117, 1117, 1118, 1118, 1118, 1119, 1119, 1119, 1120, 1120, 1120, 1121, 1121, 1121, 1122, 1122, 1122, 1123, 1123, 1123, 1124, 1124, 1124, 1125, 1125, 1125, 1126, 1126, 1126, 1126, 1127, 1127, 1127, 1128, 1128, 1128, 1128, 1129, 1129, 1129, 1130, 1130, 1130, 1130, 1131, 1131, 1131, 1131, 1132, 1132, 1132, 1132, 1133, 1133, 1133, 1133, 1134, 1134, 1134, 1134, 1135, 1135, 1135, 1135, 1136, 1136, 1136, 1136, 1137, 1137, 1137, 1137, 1138, 1138, 1138, 1138, 1138, 1139, 1139, 1139, 1139, 1140, 1140]
theorem tT_all : allN 200 (fun i => Nat.beq (tenN (i + 1) 3) (tT (i + 1)) && Nat.ble 1 (tT (i + 1)) && Nat.ble (tT (i + 1)) 2000) = true := by decide +kernel
theorem quo_8 : ∀ i : Nat, i < 200 → fop .quo .f32 (mean .f32 (floatOfInt .f32 (1 + (i : Int)))) (some 1090519040) = some (w32 (i + 1) 3) := by decide +kernel
theorem one_8 : w32 8 3 = 1065353216 ∧ tT 8 = 1000 := by decide +kernel
def tenP (n m : Nat) : Bool := force (tenN (Nat.mul n m) 6) fun o => force (tT n) fun a => force (tT m) fun b =>
  Nat.ble 1 o && Nat.ble o 2000 && Nat.ble (Nat.add a b) (Nat.add o 1001) && Nat.ble (Nat.add o 1000) (Nat.add (Nat.add a b) 1)
def rowP (n : Nat) : Bool := allN (Nat.sub 201 n) fun i => tenP n (Nat.add n i)
end Go.Proofs.Ytlcekfahjakfgaa
