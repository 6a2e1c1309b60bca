/-
  Numbers in decimal: the reference's text is the library's.
-/
import Derived.Test.YtogliigpoojfoaaDoorDa
import Derived.Test.YtogliigpoojfoaaDoorRows
import Derived.Lib.ItoaMem
import Derived.Lib.Hide
namespace Go.Proofs.YtogliigpoojfoaaDoor
open Go.RowKit

/-- The decimal digits of a number, as numbers. -/
def digL (m : Nat) : List Int := (Lib.decDigits m).map fun b => (b.toNat : Int)
theorem digL_small {m : Nat} (h : m < 10) : digL m = [(48 : Int) + m] := by
  unfold digL
  rw [Lib.decDigits_one h]
  simp only [List.map_cons, List.map_nil, List.cons.injEq, and_true]
  have : (UInt8.ofNat (48 + m)).toNat = 48 + m := by
    rw [UInt8.toNat_ofNat']; exact Nat.mod_eq_of_lt (by omega)
  rw [this]; omega
theorem digL_great {m : Nat} (h : ¬ m < 10) : digL m = digL (m / 10) ++ [(48 : Int) + (m % 10 : Nat)] := by
  unfold digL
  rw [Lib.decDigits, dif_neg h, List.map_append]
  congr 1
  simp only [List.map_cons, List.map_nil, List.cons.injEq, and_true]
  have hm : m % 10 < 10 := Nat.mod_lt _ (by decide)
  have : (UInt8.ofNat (48 + m % 10)).toNat = 48 + m % 10 := by
    rw [UInt8.toNat_ofNat']; exact Nat.mod_eq_of_lt (by omega)
  rw [this]; omega
theorem digL_step (m : Nat) : digL m = (if m / 10 = 0 then [] else digL (m / 10)) ++ [(48 : Int) + (m % 10 : Nat)] := by
  by_cases h : m < 10
  · rw [if_pos (by omega), digL_small h, Nat.mod_eq_of_lt h]; rfl
  · rw [if_neg (by omega), digL_great h]
theorem digL_length (m : Nat) (h : m < 10 ^ 20) : (digL m).length ≤ 20 := by
  have key : ∀ (k m : Nat), m < 10 ^ k → 0 < k → (digL m).length ≤ k := by
    intro k
    induction k with
    | zero => intro m _ h0; omega
    | succ k ih =>
      intro m hm _
      by_cases hs : m < 10
      · rw [digL_small hs]; simp
      · rw [digL_great hs, List.length_append]
        have hk : 0 < k := by
          rcases Nat.eq_zero_or_pos k with c | c
          · subst c; omega
          · exact c
        have : m / 10 < 10 ^ k := by
          rw [Nat.div_lt_iff_lt_mul (by decide)]
          rw [Nat.pow_succ] at hm; exact hm
        have := ih (m / 10) this hk
        simp; omega
  exact key 20 m h (by decide)
theorem strOf_bytes (l : List UInt8) : strOfNums (l.map fun b => (b.toNat : Int)) = ⟨l.toArray⟩ := by
  unfold strOfNums
  rw [List.map_map]
  have : ((fun n : Int => UInt8.ofNat n.toNat) ∘ fun b : UInt8 => (b.toNat : Int)) = id := by
    funext b
    simp [Function.comp]
  rw [this, List.map_id]
theorem strOf_dig (m : Nat) : strOfNums (digL m) = ⟨(Lib.decDigits m).toArray⟩ := strOf_bytes _
theorem strOf_neg (m : Nat) : strOfNums (45 :: digL m) = ⟨(45 :: Lib.decDigits m).toArray⟩ := strOf_bytes (45 :: Lib.decDigits m)
/-- What stands at the loop's head: r is what is left of m, L the digits that are there. -/
def DecInv (m r : Nat) (L : List Int) : Prop := (L = [] ∧ r = m) ∨ (L ≠ [] ∧ digL m = (if r = 0 then [] else digL r) ++ L)
theorem DecInv.step {m r : Nat} {L : List Int} (h : DecInv m r L) (hr : L = [] ∨ r ≠ 0) : DecInv m (r / 10) (((48 : Int) + (r % 10 : Nat)) :: L) := by
  refine .inr ⟨List.cons_ne_nil _ _, ?_⟩
  rcases h with ⟨h1, h2⟩ | ⟨h1, h2⟩
  · subst h1; subst h2; exact digL_step r
  · have hr0 : r ≠ 0 := hr.resolve_left h1
    rw [if_neg hr0, digL_step r, List.append_assoc] at h2
    exact h2
theorem DecInv.len {m r : Nat} {L : List Int} (h : DecInv m r L) (hm : m < 10 ^ 20) : L.length ≤ 20 := by
  rcases h with ⟨rfl, -⟩ | ⟨-, h2⟩
  · simp
  · have := digL_length m hm
    rw [h2, List.length_append] at this
    omega
theorem DecInv.le {m r : Nat} {L : List Int} (h : DecInv m r L) (h0 : L = []) : r = m := by
  rcases h with ⟨-, h2⟩ | ⟨h1, -⟩
  · exact h2
  · exact absurd h0 h1
theorem DecInv.done {m r : Nat} {L : List Int} (h : DecInv m r L) (h0 : L ≠ []) (hr : r = 0) : L = digL m := by
  rcases h with ⟨h1, -⟩ | ⟨-, h2⟩
  · exact absurd h1 h0
  · rw [if_pos hr] at h2; exact h2.symm
end Go.Proofs.YtogliigpoojfoaaDoor
