/-
  The parts of a text between commas (plain): strings.Split's are the reference's.
-/
import Derived.Test.YtogliigpoojfoaaDoorNa
import Derived.Test.YtogliigpoojfoaaDoorSh7
import Derived.Lib.SplitLaws
namespace Go.Proofs.YtogliigpoojfoaaDoor
open Go.RowKit

/-- A piece put ahead of the first part. -/
def glue (p : List UInt8) : List (List UInt8) → List (List UInt8)
  | [] => [p]
  | h :: t => (p ++ h) :: t
def cutL : List UInt8 → List (List UInt8)
  | [] => [[]]
  | b :: l => if b = 44 then [] :: cutL l else glue [b] (cutL l)
theorem cutL_ne (l : List UInt8) : cutL l ≠ [] := by
  cases l with
  | nil => simp [cutL]
  | cons b l =>
    unfold cutL
    split
    · simp
    · cases cutL l <;> simp [glue]
theorem glue_nil {L : List (List UInt8)} (h : L ≠ []) : glue [] L = L := by
  cases L with
  | nil => exact absurd rfl h
  | cons x xs => rfl
theorem glue_glue (p q : List UInt8) {L : List (List UInt8)} (h : L ≠ []) : glue p (glue q L) = glue (p ++ q) L := by
  cases L with
  | nil => exact absurd rfl h
  | cons x xs => simp [glue]
theorem cutL_comma (l : List UInt8) : cutL (44 :: l) = [] :: cutL l := by rw [cutL, if_pos rfl]
theorem cutL_other {b : UInt8} (h : b ≠ 44) (l : List UInt8) : cutL (b :: l) = glue [b] (cutL l) := by rw [cutL, if_neg h]
theorem split_cut (l : List UInt8) : Lib.splitK [44] 0 (Lib.count l [44]) l = cutL l := by
  induction l with
  | nil => rw [Lib.count_one]; rfl
  | cons b l ih =>
    by_cases h : b = 44
    · subst h
      have hix : Lib.index (44 :: l) [44] = ((0 : Nat) : Int) := by rw [Lib.index]; simp [List.isPrefixOf]
      rw [Lib.count_cons_eq, Nat.add_comm, Lib.splitK, hix, if_neg (by decide), cutL_comma]
      show [] :: Lib.splitK [44] 0 (Lib.count l [44]) l = _
      rw [ih]
    · rw [Lib.count_cons_ne b 44 l h, cutL_other h, ← ih]
      have hp : ([44] : List UInt8).isPrefixOf (b :: l) = false := by simp [List.isPrefixOf, Ne.symm h]
      have hix : Lib.index (b :: l) [44] = if Lib.index l [44] == -1 then -1 else Lib.index l [44] + 1 := by rw [Lib.index, hp]; simp
      cases hk : Lib.count l [44] with
      | zero => rfl
      | succ k =>
        have hge := Lib.index_ge l [44]
        rw [Lib.splitK, Lib.splitK]
        by_cases hm : Lib.index l [44] = -1
        · rw [if_pos (beq_iff_eq.2 hm), hix, if_pos (beq_iff_eq.2 hm), if_pos (by rfl)]; rfl
        · obtain ⟨j, hj⟩ : ∃ j : Nat, Lib.index l [44] = j := ⟨(Lib.index l [44]).toNat, by omega⟩
          rw [if_neg (fun e => hm (beq_iff_eq.1 e)), hix, if_neg (fun e => hm (beq_iff_eq.1 e)), hj, if_neg (by simp; omega)]
          have e1 : ((j : Int) + 1).toNat = j + 1 := by omega
          have e2 : (j : Int).toNat = j := by omega
          rw [e1, e2]
          rfl
/-- The parts, as texts. -/
def cutT (s : ByteArray) : List ByteArray := (cutL s.data.toList).map fun l => ⟨l.toArray⟩
theorem splitB_cut (s : ByteArray) : Lib.splitB ⟨#[44]⟩ 0 (Lib.countB s ⟨#[44]⟩) s = cutT s := by
  have h := Lib.splitB_data ⟨#[44]⟩ 0 (Lib.countB s ⟨#[44]⟩) s
  rw [show (⟨#[44]⟩ : ByteArray).data.toList = [44] from rfl] at h
  rw [show Lib.countB s ⟨#[44]⟩ = Lib.count s.data.toList [44] from rfl] at h ⊢
  rw [split_cut] at h
  unfold cutT
  rw [← h, List.map_map]
  have e : ((fun l : List UInt8 => (⟨l.toArray⟩ : ByteArray)) ∘ fun x : ByteArray => x.data.toList) = id := by
    funext x; obtain ⟨⟨l⟩⟩ := x; rfl
  rw [e, List.map_id]
theorem cutL_count (l : List UInt8) : (cutL l).length = Lib.count l [44] + 1 := by
  induction l with
  | nil => rw [Lib.count_one]; rfl
  | cons b l ih =>
    by_cases h : b = 44
    · subst h; rw [cutL_comma, Lib.count_cons_eq, List.length_cons, ih]; omega
    · rw [cutL_other h, Lib.count_cons_ne b 44 l h, ← ih]
      cases hc : cutL l with
      | nil => exact absurd hc (cutL_ne l)
      | cons x xs => rfl
theorem cutT_count (s : ByteArray) : (cutT s).length = Lib.countB s ⟨#[44]⟩ + 1 := by
  unfold cutT
  rw [List.length_map, cutL_count]
/-- What stands at the head of a round of the reference's cutting: P the parts that are done, from f on the open part, k the place. -/
def CutInv (s : ByteArray) (P : List ByteArray) (f k : Nat) : Prop :=
  (k ≤ s.size ∧ f ≤ k ∧ cutL s.data.toList = P.map (·.data.toList) ++ glue ((s.data.toList.take k).drop f) (cutL (s.data.toList.drop k))) ∨ (k = s.size + 1 ∧ P = cutT s)
theorem CutInv.start (s : ByteArray) : CutInv s [] 0 0 := by
  refine .inl ⟨Nat.zero_le _, Nat.le_refl _, ?_⟩
  rw [List.take_zero, List.drop_zero, List.drop_zero, glue_nil (cutL_ne _)]; rfl
theorem extract_list (s : ByteArray) (f k : Nat) : (s.extract f k).data.toList = (s.data.toList.take k).drop f := by
  rw [← ByteArray.toList_eq, Lib.extract_toList, List.drop_take]
theorem drop_cons' (s : ByteArray) (k : Nat) (h : k < s.size) : s.data.toList.drop k = s[k] :: s.data.toList.drop (k + 1) := by
  rw [List.drop_eq_getElem_cons (by rw [len_list]; exact h)]; rfl
theorem CutInv.comma {s : ByteArray} {P : List ByteArray} {f k : Nat} (h : CutInv s P f k) (hk : k < s.size) (hb : s[k] = 44) : CutInv s (P ++ [s.extract f k]) (k + 1) (k + 1) := by
  rcases h with ⟨-, hf, he⟩ | ⟨c, -⟩
  · refine .inl ⟨hk, Nat.le_refl _, ?_⟩
    have e0 : (s.data.toList.take (k + 1)).drop (k + 1) = [] := List.drop_eq_nil_of_le (by rw [List.length_take]; omega)
    rw [he, drop_cons' s k hk, hb, cutL_comma, List.map_append, List.map_cons, List.map_nil, extract_list s _ _, e0, glue_nil (cutL_ne _)]
    simp [glue]
  · omega
theorem CutInv.other {s : ByteArray} {P : List ByteArray} {f k : Nat} (h : CutInv s P f k) (hk : k < s.size) (hb : s[k] ≠ 44) : CutInv s P f (k + 1) := by
  rcases h with ⟨-, hf, he⟩ | ⟨c, -⟩
  · refine .inl ⟨hk, by omega, ?_⟩
    rw [he, drop_cons' s k hk, cutL_other hb, glue_glue _ _ (cutL_ne _), take_snoc' s k hk]
    rw [List.drop_append_of_le_length (by rw [List.length_take, len_list]; omega)]
  · omega
theorem CutInv.last {s : ByteArray} {P : List ByteArray} {f : Nat} (h : CutInv s P f s.size) : CutInv s (P ++ [s.extract f s.size]) (s.size + 1) (s.size + 1) := by
  rcases h with ⟨-, hf, he⟩ | ⟨c, -⟩
  · refine .inr ⟨rfl, ?_⟩
    unfold cutT
    rw [he, List.drop_of_length_le (l := s.data.toList) (by rw [len_list]; exact Nat.le_refl _)]
    have e : ((fun l : List UInt8 => (⟨l.toArray⟩ : ByteArray)) ∘ fun x : ByteArray => x.data.toList) = id := by
      funext x; obtain ⟨⟨l⟩⟩ := x; rfl
    rw [List.map_append, List.map_map, e, List.map_id]
    congr 1
    simp only [cutL, glue, List.append_nil, List.map_cons, List.map_nil, List.cons.injEq, and_true]
    rw [← extract_list s _ _]
  · omega
theorem CutInv.done {s : ByteArray} {P : List ByteArray} {f : Nat} (h : CutInv s P f (s.size + 1)) : P = cutT s := by
  rcases h with ⟨c, -, -⟩ | ⟨-, c⟩
  · omega
  · exact c
theorem CutInv.from {s : ByteArray} {P : List ByteArray} {f k : Nat} (h : CutInv s P f k) (hk : k ≤ s.size) : f ≤ k := by
  rcases h with ⟨-, c, -⟩ | ⟨c, -⟩
  · exact c
  · omega
end Go.Proofs.YtogliigpoojfoaaDoor
