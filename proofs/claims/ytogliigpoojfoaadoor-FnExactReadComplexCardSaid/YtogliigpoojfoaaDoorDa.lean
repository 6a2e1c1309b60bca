/-
  Lists of integers in memory that a call makes: new rows, a number put ahead of a list, lists as texts.
-/
import Derived.Test.YtogliigpoojfoaaDoorIr
import Derived.Deep.AppendSrc
import Derived.MapKept
import Derived.Great.BuildSlice
import Derived.OwnWalk
import Derived.Laws.BytesArg
namespace Go.Proofs.YtogliigpoojfoaaDoor
open Go.RowKit

theorem irow_new (k : IntKind) (w : World) (zs : List Int) (tail : Array Value) (e : TypeId) : IRow k (w.alloc (.cells ((zs.map (Value.int k)).toArray ++ tail) e)) (some ⟨w.heap.size, 0, none⟩) zs := by
  intro i hi
  have hs := MapKept.heap_alloc w (.cells ((zs.map (Value.int k)).toArray ++ tail) e)
  refine ⟨w.heap.size, 0, rfl, by show _ < (w.heap.push _).size; simp, ?_⟩
  unfold World.cell?
  rw [hs.1]
  simp [List.getD, Array.getElem?_append, hi]
theorem irow_nil (k : IntKind) (w : World) (a : Option Addr) : IRow k w a [] := fun i hi => by simp at hi
theorem IRow.src {k : IntKind} {P : Program} {w : World} {a : Option Addr} {l : List Int} {t e : TypeId} (hk : P.underlying t = some (.slice e)) (h : IRow k w a l) (cap : Nat) : Src P 1 t (.slice a l.length cap) l.length (l.map (Value.int k)) w := by
  cases l with
  | nil =>
    cases a with
    | none => exact Src.ofNil w hk cap
    | some ad => exact Src.ofSlice w hk ad 0 cap [] rfl (fun j u hj => by simp at hj) (fun u hu => by cases hu)
  | cons x l =>
    obtain ⟨b, o, rfl, hb, hc⟩ := h 0 (by simp)
    refine Src.ofSlice w hk ⟨b, o, none⟩ _ cap _ (by simp) (fun j u hj => ?_) (fun u hu => ?_)
    · have hj' : j < (x :: l).length := by
        rcases Nat.lt_or_ge j (x :: l).length with c | c
        · exact c
        · rw [List.getElem?_eq_none (by simpa using c)] at hj; cases hj
      obtain ⟨b', o', e', -, hc'⟩ := h j hj'
      cases e'
      have hadd : (⟨b, o, none⟩ : Addr).add j = ⟨b, o + j, none⟩ := by unfold Addr.add; split <;> simp_all
      rw [hadd, hc']
      rw [List.getElem?_map, List.getElem?_eq_getElem hj'] at hj
      simp only [Option.map_some, Option.some.injEq] at hj
      rw [← hj, iget hj']
    · obtain ⟨y, -, rfl⟩ := List.mem_map.1 hu; rfl
/-- A number is put ahead of a list: 'append([]T{x}, list...)'. -/
theorem run_prepend {k : IntKind} {P : Program} (w : World) {t e ty : TypeId} {i : TypeInfo} {z : Value} (ht : P.underlying t = some (.slice e)) (hi : P.info? e = some i) (hz : i.zero = some z) (h1 : i.size = 1) (hb : i.bytes ≤ 16)
    (g : Nat) (c : Int) (hg : w.cell? ⟨g, 0, none⟩ = some (.int k c)) (hgl : g < w.heap.size) (a : Option Addr) (l : List Int) (cap : Nat) (hl : l.length ≤ 1000000) (h : IRow k w a l) :
    ∃ a' cap' w', (Builtin.append_ #[t, t] ty #[.slice (some ⟨g, 0, none⟩) 1 1, .slice a l.length cap]).run P w = .ok (.slice a' (c :: l).length cap') w' ∧ IRow k w' a' (c :: l) ∧ Below w.heap.size w w' := by
  have hsrc : Src P i.size t (.slice a l.length cap) l.length (l.map (Value.int k)) w := by rw [h1]; exact h.src ht cap
  have hone : IRow k w (some ⟨g, 0, none⟩) [c] := by
    intro j hj
    have : j = 0 := by simp at hj; omega
    subst this
    exact ⟨g, 0, rfl, hgl, hg⟩
  cases l with
  | nil =>
    have := run_append_room_src (P := P) w t t ty e i ht hi g 0 1 1 (.slice a 0 cap) 0 [] hsrc (by omega) (fun j hj => by simp at hj) (fun j hj => by simp at hj)
    exact ⟨_, _, _, this, hone, Below.refl _ _⟩
  | cons x l =>
    have hold : (Builtin.firstCells i.size 1 (.slice (some ⟨g, 0, none⟩) 1 1)).run P w.drew = .ok [Value.int k c].toArray w.drew := by
      refine run_firstCells_some w.drew i.size 1 ⟨g, 0, none⟩ 1 1 [Value.int k c] (by rw [h1]; rfl) (fun j v hj => ?_)
      have hj0 : j = 0 := by
        rcases Nat.lt_or_ge j 1 with c | c
        · omega
        · rw [List.getElem?_eq_none (by simpa using c)] at hj; cases hj
      subst hj0
      simp at hj
      subst hj
      exact hg
    have hcap := nextslicecap_le (need := 1 + (x :: l).length) (old := 1) (by simp)
    have hfit : Builtin.nextslicecap (1 + (x :: l).length) 1 * i.bytes ≤ 281474976710656 := by
      have := Nat.mul_le_mul hcap hb
      omega
    have hrun := run_append_grow_src (P := P) w t t ty e i z ht hi hz (some ⟨g, 0, none⟩) 1 1 [Value.int k c] hold (.slice a (x :: l).length cap) (x :: l).length ((x :: l).map (Value.int k)) hsrc (by simp) (by omega) hfit
    have e1 : 1 + (x :: l).length = (c :: x :: l).length := by simp; omega
    rw [e1] at hrun
    refine ⟨_, _, _, hrun, ?_, ?_⟩
    · exact irow_new k w.drew (c :: x :: l) _ e
    · exact ((Below.refl _ _).drew).alloc (Nat.le_refl _) _
/-- THE WALK's LAW of it. -/
theorem wpList_prepend {k : IntKind} {P : Program} {w : World} {ops : Array Oper} {rest : List Oper} {o : Oper} {act : Act} {Q : Exit → Act → World → Prop} (hg : o.guard = none) (s x : Operand) {t : TypeId} (hop : o.op = Op.call { callee := Callee.builtin Builtin.append, args := #[s, x], argTypes := #[t, t] })
    {e : TypeId} {i : TypeInfo} {z : Value} (ht : P.underlying t = some (.slice e)) (hi : P.info? e = some i) (hz : i.zero = some z) (h1 : i.size = 1) (hb : i.bytes ≤ 16)
    (g : Nat) (c : Int) (a : Option Addr) (l : List Int) (cap : Nat) (hs : act.eval s = .slice (some ⟨g, 0, none⟩) 1 1) (hx : act.eval x = .slice a l.length cap) (hgc : w.cell? ⟨g, 0, none⟩ = some (.int k c)) (hgl : g < w.heap.size) (hl : l.length ≤ 1000000) (h : IRow k w a l)
    (hK : ∀ a' cap' w', IRow k w' a' (c :: l) → Below w.heap.size w w' → wpList P ops Q rest (act.put o.dst (.slice a' (c :: l).length cap')) w') : wpList P ops Q (o :: rest) act w := by
  refine wpList_plain hg fun K hK' => ?_
  obtain ⟨a', cap', w', hrun, r1, r2⟩ := run_prepend (P := P) (ty := o.type) w ht hi hz h1 hb g c hgc hgl a l cap hl h
  unfold Oper.wp
  simp [execOp, hop, resolve, invoke, builtin, hs, hx, hrun, Result.andThen]
  exact hK' _ _ (hK a' cap' w' r1 r2)
theorem run_build1 {P : Program} {k : IntKind} (w : World) {t e : TypeId} (ht : P.underlying t = some (.slice e)) (hs : (P.info? e).map (·.size) = some 1) (hz : ((P.info? e).bind (·.zero)).isSome = true) (c : Int) :
    (Instr.buildSlice t 1 #[(0, .int k c)]).run P w = .ok (.slice (some ⟨w.heap.size, 0, none⟩) 1 1) (w.alloc (.cells #[.int k c] e)) := by
  cases hie : P.info? e with
  | none => rw [hie] at hs; cases hs
  | some ie =>
    simp only [hie, Option.map_some, Option.some.injEq, Option.bind_some] at hs hz
    obtain ⟨z, hzz⟩ := Option.isSome_iff_exists.1 hz
    refine run_buildSlice w _ _ 1 _ _ ie z ht hie hzz (by rw [hs]; omega) (by rw [hs]; omega) ?_
    rw [hs]
    exact Great.fill_flat [Value.int k c] _ (fun v hv => by simp at hv; rcases hv with rfl | rfl <;> rfl) (by simp)
theorem run_build0 {P : Program} (w : World) {t e : TypeId} (ht : P.underlying t = some (.slice e)) (hs : (P.info? e).isSome = true) :
    (Instr.buildSlice t 0 #[]).run P w = .ok (.slice (some ⟨w.heap.size, 0, none⟩) 0 0) (w.alloc (.cells #[] e)) := by
  cases hie : P.info? e with
  | none => rw [hie] at hs; cases hs
  | some ie =>
    simp [Instr.buildSlice, run_underlying ht, sizeOf, typeInfo, hie, newRow, Instr.fill]
    congr 2
    exact Array.eq_empty_of_size_eq_zero (by simp)
/-- A list of bytes as a text. -/
theorem run_text {P : Program} {w : World} {t d e : TypeId} (ht : P.underlying t = some (.slice e)) (he : P.underlying e = some (.int .u8)) (hd : P.underlying d = some .string) (a : Option Addr) (l : List Int) (cap : Nat) (h0 : l ≠ []) (h : IRow .u8 w a l) :
    (convert t d (.slice a l.length cap)).run P w = .ok (.string (strOfNums l)) w := by
  cases l with
  | nil => exact absurd rfl h0
  | cons x l =>
    obtain ⟨b, o, rfl, hb, hc⟩ := h 0 (by simp)
    refine run_convert_bytes_arg w t e ht he b o _ cap (x :: l) rfl (fun i hi => ?_) d hd
    obtain ⟨b', o', e', -, hc'⟩ := h i hi
    cases e'
    exact hc'
end Go.Proofs.YtogliigpoojfoaaDoor
