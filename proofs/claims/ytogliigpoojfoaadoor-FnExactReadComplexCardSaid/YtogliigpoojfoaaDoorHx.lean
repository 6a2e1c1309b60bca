/-
  Hexadecimal texts of numbers: the reference's walk.
-/
import Derived.Test.YtogliigpoojfoaaDoorHp
import Derived.Test.YtogliigpoojfoaaDoorDd
import Derived.Test.YtogliigpoojfoaaDoorSc
namespace Go.Proofs.YtogliigpoojfoaaDoor
open Go.RowKit Fl

def uvals (l : List UInt8) : List Value := l.map fun b => .int .u8 (b.toNat : Int)
theorem uvals_push (l : List UInt8) (x : UInt8) : uvals l ++ [.int .u8 (x.toNat : Int)] = uvals (l ++ [x]) := by unfold uvals; rw [List.map_append]; rfl
theorem uone_cell (W : World) (x : Int) : ∀ (j : Nat) u, ([.int .u8 x] : List Value)[j]? = some u → (W.alloc (.cells #[.int .u8 x] 5)).cell? ((⟨W.heap.size, 0, none⟩ : Addr).add j) = some u := by
  intro j u hj
  have hj0 : j = 0 := by
    rcases Nat.lt_or_ge j 1 with c | c
    · omega
    · rw [List.getElem?_eq_none (by simpa using c)] at hj; cases hj
  subst hj0
  simp at hj
  subst hj
  exact new_cell _ _ _
theorem uone_flat (x : Int) : ∀ u ∈ ([.int .u8 x] : List Value), u.oneCell' = true := by
  intro u hu
  simp at hu
  subst hu; rfl
theorem unone (w : World) : (w.alloc (.cells #[] 5)).ownsRow w.heap.size 5 1 (.slice (some ⟨w.heap.size, 0, none⟩) 0 0) 0 (uvals []) :=
  World.ownsRow_made w #[] 0 (Nat.le_refl _) (Nat.zero_le _) rfl
theorem text_of_own {w : World} {base g n cap m : Nat} {l : List UInt8} (h : w.ownsRow base 5 1 (.slice (some ⟨g, 0, none⟩) n cap) m (uvals l)) : ∀ j (hj : j < l.length), w.cell? ((⟨g, 0, none⟩ : Addr).add j) = some (.int .u8 (l[j].toNat : Int)) := by
  intro j hj
  exact h.cells (g := g) rfl j (.int .u8 (l[j].toNat : Int)) (by simp [uvals, hj])
theorem below_newH {w W : World} (h : Below w.heap.size w W) (o : Obj) : w.heap.size ≤ (W.alloc o).heap.size := by
  have h1 := h.size
  have h2 := new_size W o
  omega
theorem owns_shapeH {w : World} {base e size n : Nat} {v : Value} {xs : List Value} (h : w.ownsRow base e size v n xs) (hn : 0 < n) : ∃ g cap, v = .slice (some ⟨g, 0, none⟩) n cap ∧ base ≤ g ∧ g < w.heap.size ∧ n ≤ cap := by
  rcases h.2 with ⟨-, h0⟩ | ⟨g, cap, cur, hv, hbg, hgg, hc, -⟩
  · omega
  · exact ⟨g, cap, hv, hbg, (Array.getElem?_eq_some_iff.1 hgg).1, hc⟩
theorem owns_blockH {w : World} {base e size n m : Nat} {a : Option Addr} {cap : Nat} {xs : List Value} (h : w.ownsRow base e size (.slice a n cap) m xs) : ∀ k, (Value.slice a n cap).ownBlock = some k → base ≤ k := fun k hk => (h.lt k hk).1
/-- The low digits one by one, from the greatest. -/
def preH (j m : Nat) : List UInt8 := (lowH 8 m).take j
theorem preH_step (j m : Nat) (h : j < 8) : preH (j + 1) m = preH j m ++ [hexC (m / 16 ^ (7 - j) % 16)] := by
  unfold preH
  have hl : j < (lowH 8 m).length := by rw [lowH_len]; exact h
  rw [List.take_succ_eq_append_getElem hl]
  congr 1
  have : j = 0 ∨ j = 1 ∨ j = 2 ∨ j = 3 ∨ j = 4 ∨ j = 5 ∨ j = 6 ∨ j = 7 := by omega
  rcases this with rfl | rfl | rfl | rfl | rfl | rfl | rfl | rfl <;> rfl
theorem preH_len (j m : Nat) (h : j ≤ 8) : (preH j m).length = j := by
  unfold preH; rw [List.length_take, lowH_len]; omega
theorem preH_done (m : Nat) : preH 8 m = lowH 8 m := by
  unfold preH; rw [List.take_of_length_le]; rw [lowH_len]; exact Nat.le_refl _
theorem digit_and (j m : Nat) (h : j < 8) (hm : m < 4294967296) : bits BinOp.and IntKind.i64 ((m : Int) / 2 ^ (28 - 4 * j)) 15 = ((m / 16 ^ (7 - j) % 16 : Nat) : Int) := by
  have e : (2 : Nat) ^ (28 - 4 * j) = 16 ^ (7 - j) := by
    rw [show (16 : Nat) = 2 ^ 4 by decide, ← Nat.pow_mul, show 4 * (7 - j) = 28 - 4 * j by omega]
  have e2 : ((m : Int) / 2 ^ (28 - 4 * j)) = ((m / 16 ^ (7 - j) : Nat) : Int) := by
    rw [← e]; push_cast; rfl
  rw [e2]
  have hlt : m / 16 ^ (7 - j) < 4294967296 := Nat.lt_of_le_of_lt (Nat.div_le_self _ _) hm
  have h1 := i64_and_nat (m / 16 ^ (7 - j)) 15 hlt (by decide)
  have h2 : m / 16 ^ (7 - j) &&& 15 = m / 16 ^ (7 - j) % 16 := Nat.and_two_pow_sub_one_eq_mod _ 4
  rw [h2] at h1
  exact h1
theorem digit_char (d : Nat) (h : d < 16) : ∀ hb : d < (⟨#[48, 49, 50, 51, 52, 53, 54, 55, 56, 57, 97, 98, 99, 100, 101, 102]⟩ : ByteArray).size, (⟨#[48, 49, 50, 51, 52, 53, 54, 55, 56, 57, 97, 98, 99, 100, 101, 102]⟩ : ByteArray)[d] = hexC d := by
  have : d = 0 ∨ d = 1 ∨ d = 2 ∨ d = 3 ∨ d = 4 ∨ d = 5 ∨ d = 6 ∨ d = 7 ∨ d = 8 ∨ d = 9 ∨ d = 10 ∨ d = 11 ∨ d = 12 ∨ d = 13 ∨ d = 14 ∨ d = 15 := by omega
  rcases this with rfl | rfl | rfl | rfl | rfl | rfl | rfl | rfl | rfl | rfl | rfl | rfl | rfl | rfl | rfl | rfl <;> intro _ <;> rfl
set_option maxRecDepth 100000 in
set_option maxHeartbeats 2000000 in
theorem shex_any (a : Nat) (ha : a < 4294967296) (w : World) :
    Calls Tryd.prog 68 #[.float .f32 a] w fun e w' => e = .returned (.string (hexT a)) ∧ Below w.heap.size w w' := by
  obtain ⟨hbi, hbl⟩ := bitsI_val ha
  unfold hexT
  have hBits := hidI (show ∀ w, Calls Tryd.prog 76 #[.float .f32 a] w fun e w' => e = .returned (.int .i64 ((bitsN a : Nat) : Int)) ∧ w' = w from fun w => by
    have := bits_any a w
    rw [hbi] at this
    exact this)
  generalize bitsN a = m at hBits hbl
  clear hbi ha
  obtain ⟨i0, hi, hz0, hz1, hz2⟩ := info_parts Tryd.info8
  have hI := hidI hi
  have hZ0 := hidI hz0
  have hZ1 := hidI hz1
  have hZ2 := hidI hz2
  clear hi hz0 hz1 hz2
  have hB0 := fun w => run_build0 (P := Tryd.prog) w Tryd.underlying69 Tryd.some8
  have hB1 := fun w c => run_build1 (P := Tryd.prog) (k := .u8) w Tryd.underlying69 Tryd.size8 Tryd.zero8 c
  go_enter Tryd.func68, Tryd.ntmps68
  go_wp2_with (go_at_call 76; refine (hBits.out _).mono ?_; rintro e w' ⟨rfl, rfl⟩)
  go_loopw [4, 5] (fun v i wr => ∃ (W : World) (j g vc : Nat), W = wr ∧ v = .slice (some ⟨g, 0, none⟩) j vc ∧ i = .int .i64 (28 - 4 * (j : Int)) ∧ j ≤ 8 ∧ Hid (W.ownsRow w'.heap.size 5 1 (.slice (some ⟨g, 0, none⟩) j vc) j (uvals (preH j m))) ∧ Hid (Below w'.heap.size w' W)) (fun _ i _ => (intOf i + 4).toNat)
  case atStart => exact ⟨_, 0, _, _, rfl, rfl, rfl, by omega, unone w', (Below.refl _ _).alloc (Nat.le_refl _) _⟩
  case round =>
    obtain ⟨W, j, g, vc, rfl, rfl, rfl, hj, hown, hbel⟩ := hrel
    by_cases hlt : j < 8
    · have hx := digit_and j m hlt hbl
      have hst := hidI (preH_step j m hlt)
      have hd : m / 16 ^ (7 - j) % 16 < 16 := Nat.mod_lt _ (by decide)
      generalize m / 16 ^ (7 - j) % 16 = d at hx hst hd
      have hch := hidI (digit_char d hd)
      go_wp2_with (first | (refine wpList_append_own _ rfl _ _ 69 rfl w'.heap.size 5 i0 (.int .u8 0) 1 1 Tryd.underlying69 hI.out hZ0.out hZ1.out hZ2.out rfl (by omega) _ j _ rfl (hown.out.alloc _) ⟨W.heap.size, 0, none⟩ 1 1 [.int .u8 _] rfl rfl (uone_cell _ _) (uone_flat _) ?c3 ?c4 (below_newH hbel.out _) ?c6))
      case c3 => unfold maxLen; omega
      case c4 => omega
      intro v' w3 h2 h3 _
      rw [hch.out, uvals_push, ← hst.out] at h2
      have b3 := hidI ((hbel.out.alloc hbel.out.size _).grown h3 (below_newH hbel.out _) (owns_blockH hown.out))
      obtain ⟨g', vc', rfl, -, -, -⟩ := owns_shapeH h2 (Nat.succ_pos j)
      have o3 := hidI h2
      clear h2 h3
      go_wp2
      go_roundw
      case rel => exact ⟨w3, j + 1, g', vc', rfl, rfl, by go_num, by omega, o3.out, b3.out⟩
      case measure => simp [intOf]; omega
    · have hj8 : j = 8 := by omega
      subst hj8
      have hcv := run_convert_bytes_back (P := Tryd.prog) W 69 9 5 ⟨g, 0, none⟩ vc (preH 8 m) Tryd.underlying69 Tryd.underlying5 Tryd.underlying9 (text_of_own hown.out)
      rw [preH_len 8 m (by omega), preH_done] at hcv
      go_wp2
      go_ret
      exact ⟨rfl, hbel.out⟩
end Go.Proofs.YtogliigpoojfoaaDoor
