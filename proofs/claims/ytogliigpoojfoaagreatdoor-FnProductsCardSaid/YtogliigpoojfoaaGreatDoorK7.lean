/-
  Several texts of this claim in one.
  The parts of a text between commas (plain): strings.Split's are the reference's.
  Lists as texts: the program's function, and the law.
  The parts of a text between commas: the walks.
  Lists read from texts: the walks.
  Lists read from texts: the reference's walk.
  Lists read from texts: the program's walk.
-/
import Derived.Test.YtogliigpoojfoaaGreatDoorK3
import Derived.Test.YtogliigpoojfoaaGreatDoorSh7
import Derived.Lib.SplitLaws
import Derived.Test.YtogliigpoojfoaaGreatDoorK4
import Derived.Shelf.Vars
section
namespace Go.Proofs.YtogliigpoojfoaaGreatDoor
set_option maxRecDepth 100000
open Go.RowKit

/-- A piece put ahead of the first part. -/
def glue (p : List UInt8) : List (List UInt8) → List (List UInt8)
  | [] => [p]
  | h :: t => (p ++ h) :: t
def cutL : List UInt8 → List (List UInt8)
  | [] => [[]]
  | b :: l => if b = 44 then [] :: cutL l else glue [b] (cutL l)
theorem cutL_ne (l : List UInt8) : cutL l ≠ [] := by
  cases l with
  | nil => simp [cutL]
  | cons b l =>
    unfold cutL
    split
    · simp
    · cases cutL l <;> simp [glue]
theorem glue_nil {L : List (List UInt8)} (h : L ≠ []) : glue [] L = L := by
  cases L with
  | nil => exact absurd rfl h
  | cons x xs => rfl
theorem glue_glue (p q : List UInt8) {L : List (List UInt8)} (h : L ≠ []) : glue p (glue q L) = glue (p ++ q) L := by
  cases L with
  | nil => exact absurd rfl h
  | cons x xs => simp [glue]
theorem cutL_comma (l : List UInt8) : cutL (44 :: l) = [] :: cutL l := by rw [cutL, if_pos rfl]
theorem cutL_other {b : UInt8} (h : b ≠ 44) (l : List UInt8) : cutL (b :: l) = glue [b] (cutL l) := by rw [cutL, if_neg h]
theorem split_cut (l : List UInt8) : Lib.splitK [44] 0 (Lib.count l [44]) l = cutL l := by
  induction l with
  | nil => rw [Lib.count_one]; rfl
  | cons b l ih =>
    by_cases h : b = 44
    · subst h
      have hix : Lib.index (44 :: l) [44] = ((0 : Nat) : Int) := by rw [Lib.index]; simp [List.isPrefixOf]
      rw [Lib.count_cons_eq, Nat.add_comm, Lib.splitK, hix, if_neg (by decide), cutL_comma]
      show [] :: Lib.splitK [44] 0 (Lib.count l [44]) l = _
      rw [ih]
    · rw [Lib.count_cons_ne b 44 l h, cutL_other h, ← ih]
      have hp : ([44] : List UInt8).isPrefixOf (b :: l) = false := by simp [List.isPrefixOf, Ne.symm h]
      have hix : Lib.index (b :: l) [44] = if Lib.index l [44] == -1 then -1 else Lib.index l [44] + 1 := by rw [Lib.index, hp]; simp
      cases hk : Lib.count l [44] with
      | zero => rfl
      | succ k =>
        have hge := Lib.index_ge l [44]
        rw [Lib.splitK, Lib.splitK]
        by_cases hm : Lib.index l [44] = -1
        · rw [if_pos (beq_iff_eq.2 hm), hix, if_pos (beq_iff_eq.2 hm), if_pos (by rfl)]; rfl
        · obtain ⟨j, hj⟩ : ∃ j : Nat, Lib.index l [44] = j := ⟨(Lib.index l [44]).toNat, by omega⟩
          rw [if_neg (fun e => hm (beq_iff_eq.1 e)), hix, if_neg (fun e => hm (beq_iff_eq.1 e)), hj, if_neg (by simp; omega)]
          have e1 : ((j : Int) + 1).toNat = j + 1 := by omega
          have e2 : (j : Int).toNat = j := by omega
          rw [e1, e2]
          rfl
/-- The parts, as texts. -/
def cutT (s : ByteArray) : List ByteArray := (cutL s.data.toList).map fun l => ⟨l.toArray⟩
theorem splitB_cut (s : ByteArray) : Lib.splitB ⟨#[44]⟩ 0 (Lib.countB s ⟨#[44]⟩) s = cutT s := by
  have h := Lib.splitB_data ⟨#[44]⟩ 0 (Lib.countB s ⟨#[44]⟩) s
  rw [show (⟨#[44]⟩ : ByteArray).data.toList = [44] from rfl] at h
  rw [show Lib.countB s ⟨#[44]⟩ = Lib.count s.data.toList [44] from rfl] at h ⊢
  rw [split_cut] at h
  unfold cutT
  rw [← h, List.map_map]
  have e : ((fun l : List UInt8 => (⟨l.toArray⟩ : ByteArray)) ∘ fun x : ByteArray => x.data.toList) = id := by
    funext x; obtain ⟨⟨l⟩⟩ := x; rfl
  rw [e, List.map_id]
theorem cutL_count (l : List UInt8) : (cutL l).length = Lib.count l [44] + 1 := by
  induction l with
  | nil => rw [Lib.count_one]; rfl
  | cons b l ih =>
    by_cases h : b = 44
    · subst h; rw [cutL_comma, Lib.count_cons_eq, List.length_cons, ih]; omega
    · rw [cutL_other h, Lib.count_cons_ne b 44 l h, ← ih]
      cases hc : cutL l with
      | nil => exact absurd hc (cutL_ne l)
      | cons x xs => rfl
theorem cutT_count (s : ByteArray) : (cutT s).length = Lib.countB s ⟨#[44]⟩ + 1 := by
  unfold cutT
  rw [List.length_map, cutL_count]
/-- What stands at the head of a round of the reference's cutting: P the parts that are done, from f on the open part, k the place. -/
def CutInv (s : ByteArray) (P : List ByteArray) (f k : Nat) : Prop :=
  (k ≤ s.size ∧ f ≤ k ∧ cutL s.data.toList = P.map (·.data.toList) ++ glue ((s.data.toList.take k).drop f) (cutL (s.data.toList.drop k))) ∨ (k = s.size + 1 ∧ P = cutT s)
theorem CutInv.start (s : ByteArray) : CutInv s [] 0 0 := by
  refine .inl ⟨Nat.zero_le _, Nat.le_refl _, ?_⟩
  rw [List.take_zero, List.drop_zero, List.drop_zero, glue_nil (cutL_ne _)]; rfl
theorem extract_list (s : ByteArray) (f k : Nat) : (s.extract f k).data.toList = (s.data.toList.take k).drop f := by
  rw [← ByteArray.toList_eq, Lib.extract_toList, List.drop_take]
theorem drop_cons' (s : ByteArray) (k : Nat) (h : k < s.size) : s.data.toList.drop k = s[k] :: s.data.toList.drop (k + 1) := by
  rw [List.drop_eq_getElem_cons (by rw [len_list]; exact h)]; rfl
theorem CutInv.comma {s : ByteArray} {P : List ByteArray} {f k : Nat} (h : CutInv s P f k) (hk : k < s.size) (hb : s[k] = 44) : CutInv s (P ++ [s.extract f k]) (k + 1) (k + 1) := by
  rcases h with ⟨-, hf, he⟩ | ⟨c, -⟩
  · refine .inl ⟨hk, Nat.le_refl _, ?_⟩
    have e0 : (s.data.toList.take (k + 1)).drop (k + 1) = [] := List.drop_eq_nil_of_le (by rw [List.length_take]; omega)
    rw [he, drop_cons' s k hk, hb, cutL_comma, List.map_append, List.map_cons, List.map_nil, extract_list s _ _, e0, glue_nil (cutL_ne _)]
    simp [glue]
  · omega
theorem CutInv.other {s : ByteArray} {P : List ByteArray} {f k : Nat} (h : CutInv s P f k) (hk : k < s.size) (hb : s[k] ≠ 44) : CutInv s P f (k + 1) := by
  rcases h with ⟨-, hf, he⟩ | ⟨c, -⟩
  · refine .inl ⟨hk, by omega, ?_⟩
    rw [he, drop_cons' s k hk, cutL_other hb, glue_glue _ _ (cutL_ne _), take_snoc' s k hk]
    rw [List.drop_append_of_le_length (by rw [List.length_take, len_list]; omega)]
  · omega
theorem CutInv.last {s : ByteArray} {P : List ByteArray} {f : Nat} (h : CutInv s P f s.size) : CutInv s (P ++ [s.extract f s.size]) (s.size + 1) (s.size + 1) := by
  rcases h with ⟨-, hf, he⟩ | ⟨c, -⟩
  · refine .inr ⟨rfl, ?_⟩
    unfold cutT
    rw [he, List.drop_of_length_le (l := s.data.toList) (by rw [len_list]; exact Nat.le_refl _)]
    have e : ((fun l : List UInt8 => (⟨l.toArray⟩ : ByteArray)) ∘ fun x : ByteArray => x.data.toList) = id := by
      funext x; obtain ⟨⟨l⟩⟩ := x; rfl
    rw [List.map_append, List.map_map, e, List.map_id]
    congr 1
    simp only [cutL, glue, List.append_nil, List.map_cons, List.map_nil, List.cons.injEq, and_true]
    rw [← extract_list s _ _]
  · omega
theorem CutInv.done {s : ByteArray} {P : List ByteArray} {f : Nat} (h : CutInv s P f (s.size + 1)) : P = cutT s := by
  rcases h with ⟨c, -, -⟩ | ⟨-, c⟩
  · omega
  · exact c
theorem CutInv.from {s : ByteArray} {P : List ByteArray} {f k : Nat} (h : CutInv s P f k) (hk : k ≤ s.size) : f ≤ k := by
  rcases h with ⟨-, c, -⟩ | ⟨c, -⟩
  · exact c
  · omega
end Go.Proofs.YtogliigpoojfoaaGreatDoor
end

section
namespace Go.Proofs.YtogliigpoojfoaaGreatDoor
set_option maxRecDepth 100000
open Go.RowKit

end Go.Proofs.YtogliigpoojfoaaGreatDoor
end

section
namespace Go.Proofs.YtogliigpoojfoaaGreatDoor
set_option maxRecDepth 100000
open Go.RowKit

theorem strs_push (P : List ByteArray) (x : ByteArray) : strs P ++ [.string x] = strs (P ++ [x]) := by unfold strs; rw [List.map_append]; rfl
theorem eq44 {b : UInt8} (h : b = 44) : ((b.toNat : Int) == 44) = true := by rw [h]; rfl
theorem ne44 {b : UInt8} (h : b ≠ 44) : ((b.toNat : Int) == 44) = false := by
  rw [beq_eq_false_iff_ne]
  intro e
  apply h
  apply UInt8.toNat_inj.1
  have e2 : (44 : UInt8).toNat = 44 := rfl
  rw [e2]; omega
theorem one_cell (W : World) (s : ByteArray) : ∀ (j : Nat) u, ([.string s] : List Value)[j]? = some u → (W.alloc (.cells #[.string s] 9)).cell? ((⟨W.heap.size, 0, none⟩ : Addr).add j) = some u := by
  intro j u hj
  have hj0 : j = 0 := by
    rcases Nat.lt_or_ge j 1 with c | c
    · omega
    · rw [List.getElem?_eq_none (by simpa using c)] at hj; cases hj
  subst hj0
  simp at hj
  subst hj
  exact new_cell _ _ _
theorem one_flat (s : ByteArray) : ∀ u ∈ ([.string s] : List Value), u.oneCell' = true := by
  intro u hu
  simp at hu
  subst hu; rfl
theorem below_new {w W : World} (h : Below w.heap.size w W) (o : Obj) : w.heap.size ≤ (W.alloc o).heap.size := by
  have h1 := h.size
  have h2 := new_size W o
  omega
set_option maxRecDepth 100000 in
theorem iparts_none (s : ByteArray) (h : s = noneT) (w : World) :
    Calls Tryz.prog 48 #[.string s] w fun e w' => e = .returned (.slice none 0 0) ∧ w = w' := by
  have t : (s.toList == [110, 111, 110, 101]) = true := by have := same_text h; rwa [show noneT.toList = [110, 111, 110, 101] from ByteArray.toList_mk _] at this
  clear h
  go_enter Tryz.func48, Tryz.ntmps48
  go_wp2
  go_ret
  exact ⟨rfl, rfl⟩
set_option maxRecDepth 100000 in
theorem iparts_some (s : ByteArray) (h : s ≠ noneT) (hs : s.size ≤ 1048576) (w : World) (m : Int) (hm : w.cell? ⟨4, 0, none⟩ = some (.int .i64 m)) :
    Calls Tryz.prog 48 #[.string s] w fun e w' => ∃ n, (cutT s).length = n ∧ e = .returned (.slice (some ⟨w.heap.size, 0, none⟩) n n) ∧ w' = w.alloc (.cells (strs (cutT s)).toArray 9) := by
  have t : (s.toList == [110, 111, 110, 101]) = false := by have := diff_text h; rwa [show noneT.toList = [110, 111, 110, 101] from ByteArray.toList_mk _] at this
  clear h
  have hc := Tryz.strings_Split s ⟨#[44]⟩ m w (by omega) hm (by decide)
  rw [splitB_cut] at hc
  have hn := cutT_count s
  have hC := hidI hc
  clear hc
  generalize Lib.countB s ⟨#[44]⟩ + 1 = n at hn hC
  go_enter Tryz.func48, Tryz.ntmps48
  go_wp2_with (go_at_call 77; refine hC.out.mono ?_; rintro e w' ⟨rfl, hw'⟩)
  go_ret
  exact ⟨n, hn, rfl, rfl⟩
end Go.Proofs.YtogliigpoojfoaaGreatDoor
end

section
namespace Go.Proofs.YtogliigpoojfoaaGreatDoor
set_option maxRecDepth 100000
open Go.RowKit

/-- The numbers that are read, and whether all is well. -/
def okL (P : List ByteArray) : Bool := P.all readB && decide (P.length ≤ 64)
def listOk (s : ByteArray) : Bool := if s = noneT then true else okL (cutT s)
def listOf (s : ByteArray) : List Int := if s = noneT then [] else if okL (cutT s) then (cutT s).map readN else []
theorem owns_ne {w : World} {b1 b2 e1 e2 s1 s2 g1 g2 n1 n2 c1 c2 m1 m2 : Nat} {x1 x2 : List Value} (h1 : w.ownsRow b1 e1 s1 (.slice (some ⟨g1, 0, none⟩) n1 c1) m1 x1) (h2 : w.ownsRow b2 e2 s2 (.slice (some ⟨g2, 0, none⟩) n2 c2) m2 x2) (hne : e1 ≠ e2) : g1 ≠ g2 := by
  rintro rfl
  rcases h1.2 with ⟨h, -⟩ | ⟨a, c, cur, h, -, hg, -⟩
  · cases h
  · rcases h2.2 with ⟨h', -⟩ | ⟨a', c', cur', h', -, hg', -⟩
    · cases h'
    · cases h
      cases h'
      rw [hg] at hg'
      injection hg' with hg'
      injection hg' with _ e _
      exact hne e
theorem all_push {P : List ByteArray} {k : Nat} (hk : k < P.length) (h : (P.take k).all readB = true) (h2 : readB P[k] = true) : (P.take (k + 1)).all readB = true := by
  rw [List.take_succ_eq_append_getElem hk, List.all_append, h]
  simp [h2]
theorem nums_push {P : List ByteArray} {k : Nat} (hk : k < P.length) : (P.take k).map readN ++ [readN P[k]] = (P.take (k + 1)).map readN := by
  rw [List.take_succ_eq_append_getElem hk, List.map_append]; rfl
theorem okL_no {P : List ByteArray} {k : Nat} (hk : k < P.length) (h : readB P[k] = false) : okL P = false := by
  have : P.all readB = false := by
    rw [List.all_eq_false]; exact ⟨P[k], List.getElem_mem _, by rw [h]; decide⟩
  unfold okL; rw [this, Bool.false_and]
theorem okL_long {P : List ByteArray} (h : 64 < P.length) : okL P = false := by
  unfold okL; rw [decide_eq_false (by omega), Bool.and_false]
theorem okL_yes {P : List ByteArray} {k : Nat} (hk : P.length ≤ k) (h : (P.take k).all readB = true) (h2 : P.length ≤ 64) : okL P = true := by
  rw [List.take_of_length_le hk] at h
  unfold okL; rw [h, decide_eq_true h2]; rfl
theorem owns_cell {w : World} {base e g n cap m : Nat} {l : List ByteArray} (h : w.ownsRow base e 1 (.slice (some ⟨g, 0, none⟩) n cap) m (strs l)) {j : Nat} (hj : j < l.length) : w.cell? ⟨g, 0 + j, none⟩ = some (.string l[j]) := strs_cell h j l[j] (List.getElem?_eq_getElem hj)
end Go.Proofs.YtogliigpoojfoaaGreatDoor
end

section
namespace Go.Proofs.YtogliigpoojfoaaGreatDoor
set_option maxRecDepth 100000
open Go.RowKit

def numL (P : List ByteArray) : List Int := if okL P then P.map readN else []
theorem numL_no {P : List ByteArray} (h : okL P = false) : numL P = [] := by unfold numL; rw [h]; rfl
theorem numL_yes {P : List ByteArray} (h : okL P = true) : numL P = P.map readN := by unfold numL; rw [h]; rfl
theorem owns_base {w : World} {b b' e size n : Nat} {v : Value} {xs : List Value} (h : w.ownsRow b e size v n xs) (hb : b' ≤ b) : w.ownsRow b' e size v n xs := by
  refine ⟨h.1, ?_⟩
  rcases h.2 with hn | ⟨g, cap, cur, hv, hbg, rest⟩
  · exact .inl hn
  · exact .inr ⟨g, cap, cur, hv, Nat.le_trans hb hbg, rest⟩
theorem owns_len {w : World} {b e g n cap m : Nat} {l : List ByteArray} (h : w.ownsRow b e 1 (.slice (some ⟨g, 0, none⟩) n cap) m (strs l)) {k : Nat} (hk : k < l.length) : w.cell? ⟨g, k, none⟩ = some (.string l[k]) := by
  have := owns_cell h hk
  rwa [Nat.zero_add] at this
theorem owns_two {w w' : World} {b1 b2 e1 e2 s1 s2 g1 g2 n1 n2 c1 c2 m1 m2 : Nat} {x1 x2 : List Value} (h1 : w.ownsRow b1 e1 s1 (.slice (some ⟨g1, 0, none⟩) n1 c1) m1 x1) (h2 : w.ownsRow b2 e2 s2 (.slice (some ⟨g2, 0, none⟩) n2 c2) m2 x2) (hne : e1 ≠ e2)
    (hg : w.grownBy w' (Value.slice (some ⟨g2, 0, none⟩) n2 c2).ownBlock) : w'.ownsRow b1 e1 s1 (.slice (some ⟨g1, 0, none⟩) n1 c1) m1 x1 := by
  refine h1.kept hg (.inr ?_)
  intro c
  injection c with c
  exact owns_ne h1 h2 hne c
end Go.Proofs.YtogliigpoojfoaaGreatDoor
end

section
namespace Go.Proofs.YtogliigpoojfoaaGreatDoor
set_option maxRecDepth 100000
open Go.RowKit

theorem cutL_len : ∀ (l : List UInt8), ∀ p ∈ cutL l, p.length ≤ l.length := by
  intro l
  induction l with
  | nil => intro p hp; simp [cutL] at hp; subst hp; simp
  | cons b l ih =>
    intro p hp
    by_cases h : b = 44
    · subst h
      rw [cutL_comma] at hp
      rcases List.mem_cons.1 hp with rfl | hp
      · simp
      · have := ih p hp; rw [List.length_cons]; omega
    · rw [cutL_other h] at hp
      cases hc : cutL l with
      | nil => exact absurd hc (cutL_ne l)
      | cons x xs =>
        rw [hc] at hp ih
        rcases List.mem_cons.1 hp with rfl | hp
        · have := ih x (List.mem_cons_self ..); simp; omega
        · have := ih p (List.mem_cons_of_mem _ hp); rw [List.length_cons]; omega
theorem cutT_size {s x : ByteArray} (h : x ∈ cutT s) : x.size ≤ s.size := by
  unfold cutT at h
  obtain ⟨l, hl, rfl⟩ := List.mem_map.1 h
  have := cutL_len _ l hl
  rw [len_list] at this
  show l.toArray.size ≤ _
  simpa using this
theorem cutT_len (s : ByteArray) : (cutT s).length ≤ s.size + 1 := by
  rw [cutT_count]
  have := Lib.countB_le ⟨#[44]⟩ (by decide) s.size s (Nat.le_refl _)
  omega
theorem parts_owned (w : World) (P : List ByteArray) (n : Nat) (hn : P.length = n) (hm : n ≤ maxLen) : (w.alloc (.cells (strs P).toArray 9)).ownsRow w.heap.size 9 1 (.slice (some ⟨w.heap.size, 0, none⟩) n n) n (strs P) := by
  refine ⟨by simp [strs, hn], .inr ⟨w.heap.size, n, (strs P).toArray, rfl, Nat.le_refl _, heap_alloc_new w _, Nat.le_refl _, hm, by simp [strs, hn], ?_⟩⟩
  rw [List.take_of_length_le (by simp [strs, hn])]
/-- The library's variable MaxLen holds some number. -/
theorem maxlen_cell {w : World} (h : w.ShapedOpen Tryz.prog) : ∃ m, w.cell? ⟨4, 0, none⟩ = some (.int .i64 m) :=
  cell_of_shapedOpen_int (P := Tryz.prog) (g := 4) (t := 3) (zero := #[.int .i64 0]) h (of_decide_eq_true (by kernel_rfl)) (by kernel_rfl) rfl (by kernel_rfl) (by kernel_rfl) Tryz.underlying3
theorem cmax {w w' : World} {m : Int} (h : w.cell? ⟨4, 0, none⟩ = some (.int .i64 m)) (hb : Below w.heap.size w w') : w'.cell? ⟨4, 0, none⟩ = some (.int .i64 m) := by
  rw [hb.cell (p := ⟨4, 0, none⟩) (World.block_lt_of_cell? w _ h)]; exact h
theorem iparts_at (s : ByteArray) (h : s ≠ noneT) (hs : s.size ≤ 1048576) (n : Nat) (hn : (cutT s).length = n) (w : World) (m : Int) (hm : w.cell? ⟨4, 0, none⟩ = some (.int .i64 m)) :
    Calls Tryz.prog 48 #[.string s] w fun e w' => e = .returned (.slice (some ⟨w.heap.size, 0, none⟩) n n) ∧ w'.ownsRow w.heap.size 9 1 (.slice (some ⟨w.heap.size, 0, none⟩) n n) n (strs (cutT s)) ∧ Below w.heap.size w w' := by
  refine (iparts_some s h hs w m hm).mono ?_
  rintro e w' ⟨n', hn', rfl, rfl⟩
  obtain rfl : n' = n := hn'.symm.trans hn
  have := cutT_len s
  exact ⟨rfl, parts_owned w _ _ hn (by unfold maxLen; omega), (Below.refl _ _).alloc (Nat.le_refl _) _⟩
end Go.Proofs.YtogliigpoojfoaaGreatDoor
end
