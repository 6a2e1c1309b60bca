/-
  Lists as texts: the program's walks.
-/
import Derived.Test.YtogliigpoojfoaaDoorLs
import Derived.Test.YtogliigpoojfoaaDoorSh4
namespace Go.Proofs.YtogliigpoojfoaaDoor
open Go.RowKit

theorem win_any (n : Int) (w : World) :
    Calls Tryd.prog 66 #[.int .i64 n, .int .i64 (-1000000000000000), .int .i64 1000000000000000] w fun e w' => e = .returned (.bool (inV n)) ∧ w = w' := by
  unfold inV
  by_cases h1 : -1000000000000000 ≤ n
  · by_cases h2 : n ≤ 1000000000000000
    · go_enter Tryd.func66, Tryd.ntmps66
      go_wp2
      go_ret
      simp [h1, h2]
    · have h2' : decide (n ≤ 1000000000000000) = false := decide_eq_false h2
      clear h2
      go_enter Tryd.func66, Tryd.ntmps66
      go_wp2
      go_ret
      exact ⟨by rw [h2', Bool.and_false]; rfl, rfl⟩
  · have h1' : decide (-1000000000000000 ≤ n) = false := decide_eq_false h1
    have h2 : n < -1000000000000000 := by omega
    go_enter Tryd.func66, Tryd.ntmps66
    go_wp2
    go_ret
    exact ⟨rfl, rfl⟩
theorem isval_any (n : Int) (w : World) :
    Calls Tryd.prog 43 #[.int .i64 n] w fun e w' => e = .returned (.bool (inV n)) ∧ w = w' := by
  go_enter Tryd.func43, Tryd.ntmps43
  go_wp2_with (go_at_call 66; refine (win_any n _).mono ?_; rintro e w' ⟨rfl, rfl⟩)
  go_ret
  exact ⟨rfl, rfl⟩
theorem owns_below {w w' : World} {base e size n : Nat} {v : Value} {xs : List Value} (h : w.ownsRow base e size v n xs) (hb : Below w.heap.size w w') : w'.ownsRow base e size v n xs := by
  refine ⟨h.1, ?_⟩
  rcases h.2 with hn | ⟨g, cap, cur, hv, hbg, hgg, rest⟩
  · exact .inl hn
  · refine .inr ⟨g, cap, cur, hv, hbg, ?_, rest⟩
    rw [hb.block g (Array.getElem?_eq_some_iff.1 hgg).1]
    exact hgg
theorem owns_shape {w : World} {base e size n : Nat} {v : Value} {xs : List Value} (h : w.ownsRow base e size v n xs) (hn : 0 < n) : ∃ g cap, v = .slice (some ⟨g, 0, none⟩) n cap ∧ base ≤ g ∧ g < w.heap.size ∧ n ≤ cap := by
  rcases h.2 with ⟨-, h0⟩ | ⟨g, cap, cur, hv, hbg, hgg, hc, -⟩
  · omega
  · exact ⟨g, cap, hv, hbg, (Array.getElem?_eq_some_iff.1 hgg).1, hc⟩
theorem owns_block {w : World} {base e size n m : Nat} {a : Option Addr} {cap : Nat} {xs : List Value} (h : w.ownsRow base e size (.slice a n cap) m xs) : ∀ k, (Value.slice a n cap).ownBlock = some k → base ≤ k := fun k hk => (h.lt k hk).1
def strs (l : List ByteArray) : List Value := l.map Value.string
theorem strs_cell {w : World} {base e g n cap m : Nat} {l : List ByteArray} (h : w.ownsRow base e 1 (.slice (some ⟨g, 0, none⟩) n cap) m (strs l)) : ∀ (j : Nat) x, l[j]? = some x → w.cell? ⟨g, 0 + j, none⟩ = some (.string x) := by
  intro j x hx
  have := h.cells (g := g) rfl j (.string x) (by simp [strs, hx])
  have hadd : (⟨g, 0, none⟩ : Addr).add j = ⟨g, 0 + j, none⟩ := by unfold Addr.add; split <;> simp_all
  rwa [hadd] at this
def noneT : ByteArray := ⟨#[110, 111, 110, 101]⟩
def joinT (l : List ByteArray) : ByteArray := ⟨(Lib.join (l.map (·.data.toList)) [44]).toArray⟩
theorem lor_nil (a : Option Addr) (cap : Nat) (w : World) :
    Calls Tryd.prog 44 #[.slice a 0 cap] w fun e w' => e = .returned (.string noneT) ∧ Below w.heap.size w w' := by
  go_enter Tryd.func44, Tryd.ntmps44
  go_wp2
  go_ret
  exact ⟨rfl, Below.refl _ _⟩
theorem lor_any (g cap n : Nat) (l : List ByteArray) (hn : l.length = n) (h0 : 0 < n) (hN : n ≤ 1048576) (hcap : n ≤ cap) (w : World) (hg : g < w.heap.size) (hc : ∀ (j : Nat) x, l[j]? = some x → w.cell? ⟨g, 0 + j, none⟩ = some (.string x))
    (hlen : (Lib.join (l.map (·.data.toList)) [44]).length ≤ 140737488355328) :
    Calls Tryd.prog 44 #[.slice (some ⟨g, 0, none⟩) n cap] w fun e w' => e = .returned (.string (joinT l)) ∧ Below w.heap.size w w' := by
  have hcon := Tryd.strings_Join g 0 cap l ⟨#[44]⟩ w hc hg (by omega) (by omega) hlen
  rw [hn] at hcon
  have hC := hidI hcon
  have t1 : ((n : Int) == 0) = false := beq_eq_false_iff_ne.2 (by omega)
  clear hcon hc hlen hn
  go_enter Tryd.func44, Tryd.ntmps44
  go_wp2_with (go_at_call 67; refine hC.out.mono ?_; rintro e w' ⟨rfl, hB⟩; have b1 := hidI hB; clear hB)
  go_ret
  exact ⟨rfl, b1.out⟩
theorem run_buildS {P : Program} (w : World) {t e : TypeId} (ht : P.underlying t = some (.slice e)) (hs : (P.info? e).map (·.size) = some 1) (hz : ((P.info? e).bind (·.zero)).isSome = true) (c : ByteArray) :
    (Instr.buildSlice t 1 #[(0, .string c)]).run P w = .ok (.slice (some ⟨w.heap.size, 0, none⟩) 1 1) (w.alloc (.cells #[.string c] e)) := by
  cases hie : P.info? e with
  | none => rw [hie] at hs; cases hs
  | some ie =>
    simp only [hie, Option.map_some, Option.some.injEq, Option.bind_some] at hs hz
    obtain ⟨z, hzz⟩ := Option.isSome_iff_exists.1 hz
    refine run_buildSlice w _ _ 1 _ _ ie z ht hie hzz (by rw [hs]; omega) (by rw [hs]; omega) ?_
    rw [hs]
    exact Great.fill_flat [Value.string c] _ (fun v hv => by simp at hv; rcases hv with rfl | rfl <;> rfl) (by simp)
theorem Tryd.infoS : (Tryd.prog.info? 9).map (fun i => (i.zero, i.size, i.bytes)) = some (some (.string ⟨#[]⟩), 1, 16) := by kernel_rfl
theorem Tryd.sizeS : (Tryd.prog.info? 9).map (·.size) = some 1 := by kernel_rfl
theorem Tryd.zeroS : ((Tryd.prog.info? 9).bind (·.zero)).isSome = true := by kernel_rfl
theorem Tryd.someS : (Tryd.prog.info? 9).isSome = true := by kernel_rfl
theorem strs_snoc (l : List Int) (k : Nat) (h : k < l.length) : strs ((l.take k).map decT) ++ [.string (decT l[k])] = strs ((l.take (k + 1)).map decT) := by
  unfold strs
  rw [List.take_succ_eq_append_getElem h, List.map_append, List.map_append]; rfl
/-- The library's join of the texts is the reference's. -/
theorem join_acc : ∀ (xs : List Int) (x : ByteArray), (Lib.join ((x :: xs.map decT).map (·.data.toList)) [44]) = (accT x xs).data.toList := by
  intro xs
  induction xs with
  | nil => intro x; simp [Lib.join, accT, List.intercalate]
  | cons n xs ih =>
    intro x
    have h := ih (x ++ ((⟨#[44]⟩ : ByteArray) ++ decT n))
    have e1 : accT x (n :: xs) = accT (x ++ ((⟨#[44]⟩ : ByteArray) ++ decT n)) xs := rfl
    rw [e1, ← h]
    have e2 : (x ++ ((⟨#[44]⟩ : ByteArray) ++ decT n)).data.toList = x.data.toList ++ ([44] ++ (decT n).data.toList) := by
      rw [ByteArray.data_append, ByteArray.data_append]; simp
    cases xs with
    | nil => simp [Lib.join, List.intercalate, List.intersperse]
    | cons m ms => simp [Lib.join, List.intercalate, List.intersperse]
theorem join_text (x : Int) (xs : List Int) : joinT ((x :: xs).map decT) = textL (x :: xs) := by
  unfold joinT
  rw [List.map_cons, join_acc]; rfl
end Go.Proofs.YtogliigpoojfoaaDoor
