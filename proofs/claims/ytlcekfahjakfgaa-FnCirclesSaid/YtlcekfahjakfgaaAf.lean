/-
  Contracts: whether all numbers of a list are finite, or positive.
-/
import Derived.Test.YtlcekfahjakfgaaFrow
import Derived.Test.YtlcekfahjakfgaaSj
import Derived.Great.BuildSlice
import Derived.Below
namespace Go.Proofs.Ytlcekfahjakfgaa
open Go.RowKit Fl

/-- One new block of numbers, and draws. -/
def Laid (w w' : World) : Prop := ∃ (cs : Array Value) (n : Nat), w' = (w.alloc (.cells cs 22)).drewN n
theorem Laid.grown {w w' : World} (h : Laid w w') : Grown w w' := by
  obtain ⟨cs, n, rfl⟩ := h
  have key : ∀ (n : Nat) (v : World), Grown w v → Grown w (v.drewN n) := by
    intro n
    induction n with
    | zero => intro v h; exact h
    | succ n ih => intro v h; exact ih v.drew h.drew
  exact key n _ (Grown.alloc (Grown.refl _) _ _)
theorem Laid.below {w w' : World} (h : Laid w w') : Below w.heap.size w w' := by
  obtain ⟨cs, n, rfl⟩ := h
  have hb := (Below.refl w.heap.size w).alloc (Nat.le_refl _) (.cells cs 22)
  exact ⟨hb.os, hb.tape, hb.output, hb.size, hb.block⟩
theorem build2 (x y : Nat) (w : World) : (Instr.buildSlice 55 2 #[(0, .float .f32 x), (1, .float .f32 y)]).run Try.prog w = .ok (.slice (some ⟨w.heap.size, 0, none⟩) 2 2) (w.alloc (.cells #[.float .f32 x, .float .f32 y] 22)) := by
  have hs : (Try.prog.info? 22).map (·.size) = some 1 := by kernel_rfl
  have hz : ((Try.prog.info? 22).bind (·.zero)).isSome = true := by kernel_rfl
  cases hie : Try.prog.info? 22 with
  | none => rw [hie] at hs; cases hs
  | some ie =>
    simp only [hie, Option.map_some, Option.some.injEq, Option.bind_some] at hs hz
    obtain ⟨z, hzz⟩ := Option.isSome_iff_exists.1 hz
    refine run_buildSlice w _ _ 2 _ _ ie z Try.underlying55 hie hzz (by rw [hs]; omega) (by rw [hs]; omega) ?_
    rw [hs]
    exact Great.fill_flat [Value.float .f32 x, Value.float .f32 y] _ (fun v hv => by simp at hv; rcases hv with rfl | rfl <;> rfl) (by simp)
theorem row2 (x y : Nat) (w : World) : FRow (w.alloc (.cells #[.float .f32 x, .float .f32 y] 22)) (some ⟨w.heap.size, 0, none⟩) [x, y] := by
  intro i hi
  have hs := MapKept.heap_alloc w (.cells #[.float .f32 x, .float .f32 y] 22)
  refine ⟨w.heap.size, 0, rfl, by show _ < (w.heap.push _).size; simp, ?_⟩
  have : i = 0 ∨ i = 1 := by simp at hi; omega
  rcases this with rfl | rfl
  all_goals (unfold World.cell?; rw [hs.1]; rfl)
/-- A function value that tells a property of a number. -/
def Tells (c : FuncId) (p : Nat → Bool) : Prop := ∀ x w, (callFunc c #[.float .f32 x]).run Try.prog w = .ok (.enter c #[.float .f32 x]) w ∧ Calls Try.prog c #[.float .f32 x] w fun e w' => e = .returned (.bool (p x)) ∧ ∃ n, w' = w.drewN n
theorem any_none {l : List Nat} {p : Nat → Bool} (h : ∀ j (hj : j < l.length), p l[j] = false) : l.any p = false := by
  rw [List.any_eq_false]
  intro x hx
  obtain ⟨j, hj, rfl⟩ := List.getElem_of_mem hx
  rw [h j hj]; decide
theorem any_some {l : List Nat} {p : Nat → Bool} {k : Nat} (hk : k < l.length) (h : p l[k] = true) : l.any p = true := by
  rw [List.any_eq_true]
  exact ⟨l[k], List.getElem_mem hk, h⟩
set_option maxHeartbeats 400000 in
theorem idx_any (c : FuncId) (p : Nat → Bool) (hp : Tells c p) (a : Option Addr) (cap : Nat) (l : List Nat) (hl : l.length ≤ 1048576) (w : World) (h : FRow w a l) :
    Calls Try.prog 79 #[.slice a l.length cap, .func (.func c) #[] #[]] w fun e w' => ∃ r : Int, decide (0 ≤ r) = l.any p ∧ e = .returned (.int .i64 r) ∧ ∃ n, w' = w.drewN n := by
  have hA := Lib_hid' h
  have hP := Lib_hid' hp
  clear h hp
  go_enter Try.func79, Try.ntmps79
  go_wp2
  go_loopw [5, 8] (fun _ i wr => ∃ k : Nat, k ≤ l.length ∧ i = .int .i64 k ∧ Hid (∀ j (hj : j < l.length), j < k → p l[j] = false) ∧ ∃ n, wr = w.drewN n) (fun _ i _ => l.length - (intOf i).toNat)
  case atStart => exact ⟨0, Nat.zero_le _, rfl, fun j _ hj => by omega, 0, rfl⟩
  case round =>
    obtain ⟨k, hk, rfl, hno, n, rfl⟩ := hrel
    by_cases hlt : k < l.length
    · obtain ⟨b, o, rfl, _, hc⟩ := hA.out k hlt
      rw [getD_get hlt] at hc
      cases hpk : p l[k]
      · have hN := Lib_hid' hpk
        have hC := Lib_hid' fun w => (hP.out l[k] w).1
        have hF := Lib_hid' fun w => (hP.out l[k] w).2
        go_wp2_with (simp only [hC.out]; refine (hF.out _).mono ?_; rintro e w' ⟨rfl, m, rfl⟩)
        go_roundw
        case rel => exact ⟨k + 1, by omega, by go_num, fun j hj hjk => by
          by_cases e : j = k
          · subst e; exact hN.out
          · exact hno.out j hj (by omega), _, rfl⟩
        case measure => simp [intOf]; omega
      · have hN := Lib_hid' hpk
        have hC := Lib_hid' fun w => (hP.out l[k] w).1
        have hF := Lib_hid' fun w => (hP.out l[k] w).2
        go_wp2_with (simp only [hC.out]; refine (hF.out _).mono ?_; rintro e w' ⟨rfl, m, rfl⟩)
        go_ret
        exact ⟨(k : Int), by rw [any_some hlt hN.out]; exact decide_eq_true (by omega), rfl, _, rfl⟩
    · go_wp2
      go_ret
      exact ⟨-1, by rw [any_none fun j hj => hno.out j hj (by omega)]; decide, rfl, _, rfl⟩
theorem has_any (c : FuncId) (p : Nat → Bool) (hp : Tells c p) (a : Option Addr) (cap : Nat) (l : List Nat) (hl : l.length ≤ 1048576) (w : World) (h : FRow w a l) :
    Calls Try.prog 66 #[.slice a l.length cap, .func (.func c) #[] #[]] w fun e w' => e = .returned (.bool (l.any p)) ∧ ∃ n, w' = w.drewN n := by
  have hA := Lib_hid' h
  have hP := Lib_hid' hp
  clear h hp
  go_enter Try.func66, Try.ntmps66
  go_wp2_with (go_at_call 79; refine (idx_any _ _ hP.out _ _ _ (by assumption) _ hA.out).mono ?_; rintro e w' ⟨r, hr, rfl, n, rfl⟩; have hR := Lib_hid' hr; clear hr)
  go_ret
  exact ⟨by rw [← hR.out]; rfl, _, rfl⟩
theorem af1_any : Tells 71 (fun x => !finB .f32 x) := by
  intro a w
  refine ⟨by kernel_rfl, ?_⟩
  go_enter Try.func71, Try.ntmps71
  go_wp2_with (go_at_call 41; refine (ifin_any _ _).mono ?_; rintro e w' ⟨rfl, n, rfl⟩)
  go_ret
  exact ⟨rfl, _, rfl⟩
theorem af_any (a : Option Addr) (cap : Nat) (l : List Nat) (hl : l.length ≤ 1048576) (w : World) (h : FRow w a l) :
    Calls Try.prog 53 #[.slice a l.length cap] w fun e w' => e = .returned (.bool (!l.any (fun x => !finB .f32 x))) ∧ ∃ n, w' = w.drewN n := by
  have hA := Lib_hid' h
  clear h
  generalize hq : l.any (fun x => !finB .f32 x) = q
  have hQ := Lib_hid' hq
  clear hq
  go_enter Try.func53, Try.ntmps53
  go_wp2_with (go_at_call 66; refine (has_any _ _ af1_any _ _ _ (by assumption) _ hA.out).mono ?_; rw [hQ.out]; rintro e w' ⟨rfl, n, rfl⟩)
  go_ret
  exact ⟨rfl, _, rfl⟩
/-- Finite and greater than nought. -/
def posB (x : Nat) : Bool := finB .f32 x && !(FloatKind.f32.format.order x 0 == some .lt || FloatKind.f32.format.order x 0 == some .eq)
theorem ap1_any : Tells 67 (fun x => !posB x) := by
  intro a w
  refine ⟨by kernel_rfl, ?_⟩
  cases hf : finB .f32 a
  · have hp : Hid ((!posB a) = true) := by rw [Hid, posB, hf]; rfl
    go_enter Try.func67, Try.ntmps67
    go_wp2_with (go_at_call 41; refine (ifin_any _ _).mono ?_; rintro e w' ⟨rfl, n, rfl⟩)
    go_ret
    exact ⟨by rw [hp.out]; rfl, _, rfl⟩
  · have hp : Hid ((!posB a) = (FloatKind.f32.format.order a 0 == some .lt || FloatKind.f32.format.order a 0 == some .eq)) := by rw [Hid, posB, hf]; simp
    go_enter Try.func67, Try.ntmps67
    go_wp2_with (go_at_call 41; refine (ifin_any _ _).mono ?_; rintro e w' ⟨rfl, n, rfl⟩)
    go_ret
    exact ⟨by rw [hp.out]; rfl, _, rfl⟩
theorem ap_any (a : Option Addr) (cap : Nat) (l : List Nat) (hl : l.length ≤ 1048576) (w : World) (h : FRow w a l) :
    Calls Try.prog 50 #[.slice a l.length cap] w fun e w' => e = .returned (.bool (!l.any (fun x => !posB x))) ∧ ∃ n, w' = w.drewN n := by
  have hA := Lib_hid' h
  clear h
  generalize hq : l.any (fun x => !posB x) = q
  have hQ := Lib_hid' hq
  clear hq
  go_enter Try.func50, Try.ntmps50
  go_wp2_with (go_at_call 66; refine (has_any _ _ ap1_any _ _ _ (by assumption) _ hA.out).mono ?_; rw [hQ.out]; rintro e w' ⟨rfl, n, rfl⟩)
  go_ret
  exact ⟨rfl, _, rfl⟩
end Go.Proofs.Ytlcekfahjakfgaa
