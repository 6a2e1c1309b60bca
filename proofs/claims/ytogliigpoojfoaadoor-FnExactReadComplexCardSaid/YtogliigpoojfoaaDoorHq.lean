/-
  Texts of parts with commas between them (plain).
-/
import Derived.Test.YtogliigpoojfoaaDoorLw
import Derived.Test.YtogliigpoojfoaaDoorHp
namespace Go.Proofs.YtogliigpoojfoaaDoor
open Go.RowKit

def accB (s : ByteArray) (l : List ByteArray) : ByteArray := l.foldl (fun s x => s ++ ((⟨#[44]⟩ : ByteArray) ++ x)) s
/-- The text of parts: 'none' where there is none. -/
def textB : List ByteArray → ByteArray
  | [] => noneT
  | x :: xs => accB x xs
theorem accB_snoc (s : ByteArray) (l : List ByteArray) (x : ByteArray) : accB s (l ++ [x]) = accB s l ++ ((⟨#[44]⟩ : ByteArray) ++ x) := by
  unfold accB; rw [List.foldl_append]; rfl
theorem accB_size (c : Nat) : ∀ (l : List ByteArray) (s : ByteArray), (∀ x ∈ l, x.size ≤ c) → (accB s l).size ≤ s.size + (c + 1) * l.length := by
  intro l
  induction l with
  | nil => intro s _; exact Nat.le_refl _
  | cons x l ih =>
    intro s h
    have h1 := ih (s ++ ((⟨#[44]⟩ : ByteArray) ++ x)) (fun y hy => h y (List.mem_cons_of_mem _ hy))
    have h2 := h x (List.mem_cons_self ..)
    have h3 : (s ++ ((⟨#[44]⟩ : ByteArray) ++ x)).size = s.size + (1 + x.size) := by
      rw [ByteArray.size_append, ByteArray.size_append]; rfl
    show (accB (s ++ ((⟨#[44]⟩ : ByteArray) ++ x)) l).size ≤ _
    rw [List.length_cons, Nat.mul_succ]
    omega
theorem join_accB : ∀ (xs : List ByteArray) (x : ByteArray), (Lib.join ((x :: xs).map (·.data.toList)) [44]) = (accB x xs).data.toList := by
  intro xs
  induction xs with
  | nil => intro x; simp [Lib.join, accB, List.intercalate]
  | cons n xs ih =>
    intro x
    have h := ih (x ++ ((⟨#[44]⟩ : ByteArray) ++ n))
    have e1 : accB x (n :: xs) = accB (x ++ ((⟨#[44]⟩ : ByteArray) ++ n)) xs := rfl
    rw [e1, ← h]
    have e2 : (x ++ ((⟨#[44]⟩ : ByteArray) ++ n)).data.toList = x.data.toList ++ ([44] ++ n.data.toList) := by
      rw [ByteArray.data_append, ByteArray.data_append]; simp
    cases xs with
    | nil => simp [Lib.join, List.intercalate, List.intersperse]
    | cons m ms => simp [Lib.join, List.intercalate, List.intersperse]
theorem join_textB (x : ByteArray) (xs : List ByteArray) : joinT (x :: xs) = textB (x :: xs) := by
  unfold joinT
  rw [join_accB]; rfl
/-- The program's text of parts that lie in an own row. -/
theorem lor_parts (g cap n base c : Nat) (l : List ByteArray) (hn : l.length = n) (hN : n ≤ 1048576) (hc : c ≤ 100) (hsz : ∀ x ∈ l, x.size ≤ c) (W : World) (h : W.ownsRow base 9 1 (.slice (some ⟨g, 0, none⟩) n cap) n (strs l)) :
    Calls Tryd.prog 44 #[.slice (some ⟨g, 0, none⟩) n cap] W fun e w' => e = .returned (.string (textB l)) ∧ Below W.heap.size W w' := by
  cases l with
  | nil =>
    subst hn
    exact lor_nil _ cap W
  | cons x xs =>
    have hn1 : 0 < n := by rw [← hn]; simp
    obtain ⟨g', cap', hv, -, hg, hcap⟩ := owns_shape h hn1
    cases hv
    rw [← join_textB]
    refine lor_any g cap n _ hn hn1 hN hcap W hg (strs_cell h) ?_
    rw [join_accB]
    have h1 := accB_size c xs x (fun y hy => hsz y (List.mem_cons_of_mem _ hy))
    have h2 := hsz x (List.mem_cons_self ..)
    have h3 : (accB x xs).data.toList.length = (accB x xs).size := rfl
    rw [List.length_cons] at hn
    have h4 : (c + 1) * xs.length ≤ 101 * 1048576 := Nat.mul_le_mul (by omega) (by omega)
    omega
end Go.Proofs.YtogliigpoojfoaaDoor
