/-
  Lists of complex numbers read from texts: the reference's walk.
-/
import Derived.Test.YtogliigpoojfoaaGreatDoorCx
import Derived.Test.YtogliigpoojfoaaGreatDoorK8
namespace Go.Proofs.YtogliigpoojfoaaGreatDoor
set_option maxRecDepth 100000
open Go.RowKit Fl

def cvals (l : List (Nat × Nat)) : List Value := l.map fun p => .complex .f32 p.1 p.2
def readCB (x : ByteArray) : Bool := decide (x.size = 16) && (readXB (x.extract 0 8) && readXB (x.extract 8 16))
def readC (x : ByteArray) : Nat × Nat := (readX (x.extract 0 8), readX (x.extract 8 16))
theorem readCB_len {x : ByteArray} (h : x.size ≠ 16) : readCB x = false := by unfold readCB; rw [decide_eq_false h, Bool.false_and]
theorem readCB_of {x : ByteArray} (h : x.size = 16) : readCB x = (readXB (x.extract 0 8) && readXB (x.extract 8 16)) := by unfold readCB; rw [decide_eq_true h, Bool.true_and]
def okC (P : List ByteArray) : Bool := P.all readCB && decide (P.length ≤ 256)
def numC (P : List ByteArray) : List (Nat × Nat) := if okC P then P.map readC else []
def listOkC (s : ByteArray) : Bool := if s = noneT then true else okC (cutT s)
def pairsOf (s : ByteArray) : List (Nat × Nat) := if s = noneT then [] else numC (cutT s)
theorem numC_no {P : List ByteArray} (h : okC P = false) : numC P = [] := by unfold numC; rw [h]; rfl
theorem numC_yes {P : List ByteArray} (h : okC P = true) : numC P = P.map readC := by unfold numC; rw [h]; rfl
theorem call_push {P : List ByteArray} {k : Nat} (hk : k < P.length) (h : (P.take k).all readCB = true) (h2 : readCB P[k] = true) : (P.take (k + 1)).all readCB = true := by
  rw [List.take_succ_eq_append_getElem hk, List.all_append, h]
  simp [h2]
theorem cnums_push {P : List ByteArray} {k : Nat} (hk : k < P.length) : (P.take k).map readC ++ [readC P[k]] = (P.take (k + 1)).map readC := by
  rw [List.take_succ_eq_append_getElem hk, List.map_append]; rfl
theorem okC_no {P : List ByteArray} {k : Nat} (hk : k < P.length) (h : readCB P[k] = false) : okC P = false := by
  have : P.all readCB = false := by
    rw [List.all_eq_false]; exact ⟨P[k], List.getElem_mem _, by rw [h]; decide⟩
  unfold okC; rw [this, Bool.false_and]
theorem okC_long {P : List ByteArray} (h : 256 < P.length) : okC P = false := by
  unfold okC; rw [decide_eq_false (by omega), Bool.and_false]
theorem okC_yes {P : List ByteArray} {k : Nat} (hk : P.length ≤ k) (h : (P.take k).all readCB = true) (h2 : P.length ≤ 256) : okC P = true := by
  rw [List.take_of_length_le hk] at h
  unfold okC; rw [h, decide_eq_true h2]; rfl
theorem cvals_push (P : List (Nat × Nat)) (x y : Nat) : cvals P ++ [.complex .f32 x y] = cvals (P ++ [(x, y)]) := by unfold cvals; rw [List.map_append]; rfl
theorem cone_cell (W : World) (x y : Nat) : ∀ (j : Nat) u, ([.complex .f32 x y] : List Value)[j]? = some u → (W.alloc (.cells #[.complex .f32 x y] 24)).cell? ((⟨W.heap.size, 0, none⟩ : Addr).add j) = some u := by
  intro j u hj
  have hj0 : j = 0 := by
    rcases Nat.lt_or_ge j 1 with c | c
    · omega
    · rw [List.getElem?_eq_none (by simpa using c)] at hj; cases hj
  subst hj0
  simp at hj
  subst hj
  exact new_cell _ _ _
theorem cone_flat (x y : Nat) : ∀ u ∈ ([.complex .f32 x y] : List Value), u.oneCell' = true := by
  intro u hu
  simp at hu
  subst hu; rfl
theorem cnone (w : World) : (w.alloc (.cells #[] 24)).ownsRow w.heap.size 24 1 (.slice (some ⟨w.heap.size, 0, none⟩) 0 0) 0 (cvals []) :=
  World.ownsRow_made w #[] 0 (Nat.le_refl _) (Nat.zero_le _) rfl
theorem run_buildC {P : Program} (w : World) {t e : TypeId} (ht : P.underlying t = some (.slice e)) (hs : (P.info? e).map (·.size) = some 1) (hz : ((P.info? e).bind (·.zero)).isSome = true) (k : FloatKind) (c d : Nat) :
    (Instr.buildSlice t 1 #[(0, .complex k c d)]).run P w = .ok (.slice (some ⟨w.heap.size, 0, none⟩) 1 1) (w.alloc (.cells #[.complex k c d] e)) := by
  cases hie : P.info? e with
  | none => rw [hie] at hs; cases hs
  | some ie =>
    simp only [hie, Option.map_some, Option.some.injEq, Option.bind_some] at hs hz
    obtain ⟨z, hzz⟩ := Option.isSome_iff_exists.1 hz
    refine run_buildSlice w _ _ 1 _ _ ie z ht hie hzz (by rw [hs]; omega) (by rw [hs]; omega) ?_
    rw [hs]
    exact Great.fill_flat [Value.complex k c d] _ (fun v hv => by simp at hv; rcases hv with rfl | rfl <;> rfl) (by simp)
theorem Tryz.infoC : (Tryz.prog.info? 24).map (fun i => (i.zero, i.size, i.bytes)) = some (some (.complex .f32 0 0), 1, 8) := by kernel_rfl
theorem Tryz.sizeC : (Tryz.prog.info? 24).map (·.size) = some 1 := by kernel_rfl
theorem Tryz.zeroC : ((Tryz.prog.info? 24).bind (·.zero)).isSome = true := by kernel_rfl
theorem Tryz.someC : (Tryz.prog.info? 24).isSome = true := by kernel_rfl
end Go.Proofs.YtogliigpoojfoaaGreatDoor
