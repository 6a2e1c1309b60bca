/-
  Several texts of this claim in one.
  What a slice of integers reads as, and how one that came in is opened.
  Lists of integers in memory that a call makes: new rows, a number put ahead of a list, lists as texts.
  Numbers in decimal: the reference's text is the library's.
  Contract: the reference's text of a number in decimal.
  Numbers in decimal: both functions, and the law.
-/
import Derived.Test.YtogliigpoojfoaaGreatDoorRows
import Derived.WalkKit
import Derived.Deep.Draws
import Derived.ProofKit
import Derived.Deep.Slices
import Derived.Below
import Derived.Deep.AppendSrc
import Derived.MapKept
import Derived.Great.BuildSlice
import Derived.OwnWalk
import Derived.Laws.BytesArg
import Derived.Lib.ItoaMem
import Derived.Lib.Hide
import Derived.Lib.LaidTab
import Derived.Lib.AppendIntMem
import Derived.LaidMore
import Derived.Stop.Joined
import Derived.Stop.LaidErr
section
namespace Go.Proofs.YtogliigpoojfoaaGreatDoor
set_option maxRecDepth 100000
open Go.RowKit
/-- A slice of integers reads as a list of numbers. -/
def IRow (k : IntKind) (w : World) (a : Option Addr) (l : List Int) : Prop :=
  ∀ i, i < l.length → ∃ b o, a = some ⟨b, o, none⟩ ∧ b < w.heap.size ∧ w.cell? ⟨b, o + i, none⟩ = some (.int k (l.getD i 0))
def IAll (k : IntKind) (l : List Int) : Prop := ∀ i, i < l.length → (Lit.int k (l.getD i 0)).wf = true
theorem IRow.below {k : IntKind} {w w' : World} {a : Option Addr} {l : List Int} (h : IRow k w a l) (hb : Below w.heap.size w w') : IRow k w' a l := by
  intro i hi
  obtain ⟨b, o, ha, hlt, hc⟩ := h i hi
  refine ⟨b, o, ha, Nat.lt_of_lt_of_le hlt hb.size, ?_⟩
  rw [hb.cell (p := ⟨b, o + i, none⟩) hlt]; exact hc
theorem IRow.drewN {k : IntKind} {w : World} {a : Option Addr} {l : List Int} (h : IRow k w a l) (n : Nat) : IRow k (w.drewN n) a l := h
theorem IAll.u8 {l : List Int} (h : IAll .u8 l) {i : Nat} (hi : i < l.length) : 0 ≤ l.getD i 0 ∧ l.getD i 0 < 256 := by
  have := h i hi
  generalize l.getD i 0 = x at *
  simp [Lit.wf, IntKind.min, IntKind.max, IntKind.signed, IntKind.bits] at this
  omega
theorem IAll.i64 {l : List Int} (h : IAll .i64 l) {i : Nat} (hi : i < l.length) : -9223372036854775808 ≤ l.getD i 0 ∧ l.getD i 0 ≤ 9223372036854775807 := by
  have := h i hi
  generalize l.getD i 0 = x at *
  simp [Lit.wf, IntKind.min, IntKind.max, IntKind.signed, IntKind.bits] at this
  omega
theorem iget {l : List Int} {k : Nat} (h : k < l.length) : l.getD k 0 = l[k] := by simp [List.getD, List.getElem?_eq_getElem h]
end Go.Proofs.YtogliigpoojfoaaGreatDoor
namespace Go.Proofs.YtogliigpoojfoaaGreatDoor
open Go.ChangeShapes Go.WideShapes Go.RowKit Go.Deep
section
variable {H : Type} {enc : TypeId × Value → H} {P : Program} {w : World} {base : Nat} {spare : Nat → Bool} {held : Bool} {t : TypeId} {cs : List Value} {x : DataW H × List MemPlace} {fuel : Nat}
theorem open_irow {e : TypeId} {k : IntKind} (ht : P.underlying t = some (.slice e)) (he : P.underlying e = some (.int k)) (hc : P.cellsOf e = 1) (h : DataW.trod enc P w base spare held fuel t cs = some x) :
    ∃ a cap l, cs = [.slice a l.length cap] ∧ IRow k w a l ∧ IAll k l := by
  rcases open_slice1 ht hc h with ⟨rfl, -⟩ | ⟨a, len, cap, m, n, V, D, Pl, rfl, hb, hl, hcm, hm, -, hel⟩
  · exact ⟨none, 0, [], rfl, fun i hi => by simp at hi, fun i hi => by simp at hi⟩
  · have hlm : len ≤ m := by rw [hm]; split <;> omega
    have h1 : ∀ i, i < len → ∃ b, V i = .int k b ∧ (Lit.int k b).wf = true := by
      intro i hi
      obtain ⟨b, hb, -, hw⟩ := DataW.trod_int he (hel i (by omega)).2
      exact ⟨b, by simpa using hb, hw⟩
    obtain ⟨f, hf⟩ := choose_lt h1
    have hget : ∀ i, i < len → ((List.range len).map f).getD i 0 = f i := by
      intro i hi
      simp [List.getD, hi]
    refine ⟨some a, cap, (List.range len).map f, by simp, fun i hi => ?_, fun i hi => ?_⟩
    · have hi' : i < len := by simpa using hi
      have hcell := (hel i (by omega)).1
      rw [(hf i hi').1] at hcell
      obtain ⟨ab, ao, asp⟩ := a
      have hcell0 := (hel 0 (by omega)).1
      have hsp : asp = none := by
        have e0 : (⟨ab, ao, asp⟩ : Addr).add 0 = ⟨ab, ao, asp⟩ := by simp [Addr.add]
        rw [e0] at hcell0
        unfold World.cell? at hcell0
        split at hcell0
        · cases asp with
          | none => rfl
          | some s => simp at hcell0
        · cases hcell0
      subst hsp
      have hadd : (⟨ab, ao, none⟩ : Addr).add i = ⟨ab, ao + i, none⟩ := by
        unfold Addr.add
        by_cases h0 : i = 0
        · subst h0; simp
        · simp [h0]
      rw [hadd] at hcell
      refine ⟨ab, ao, rfl, World.block_lt_of_cell? w _ hcell, ?_⟩
      rw [hget i hi']; exact hcell
    · have hi' : i < len := by simpa using hi
      rw [hget i hi']; exact (hf i hi').2
end
end Go.Proofs.YtogliigpoojfoaaGreatDoor
end

section
namespace Go.Proofs.YtogliigpoojfoaaGreatDoor
set_option maxRecDepth 100000
open Go.RowKit

theorem irow_new (k : IntKind) (w : World) (zs : List Int) (tail : Array Value) (e : TypeId) : IRow k (w.alloc (.cells ((zs.map (Value.int k)).toArray ++ tail) e)) (some ⟨w.heap.size, 0, none⟩) zs := by
  intro i hi
  have hs := MapKept.heap_alloc w (.cells ((zs.map (Value.int k)).toArray ++ tail) e)
  refine ⟨w.heap.size, 0, rfl, by show _ < (w.heap.push _).size; simp, ?_⟩
  unfold World.cell?
  rw [hs.1]
  simp [List.getD, Array.getElem?_append, hi]
theorem irow_nil (k : IntKind) (w : World) (a : Option Addr) : IRow k w a [] := fun i hi => by simp at hi
theorem IRow.src {k : IntKind} {P : Program} {w : World} {a : Option Addr} {l : List Int} {t e : TypeId} (hk : P.underlying t = some (.slice e)) (h : IRow k w a l) (cap : Nat) : Src P 1 t (.slice a l.length cap) l.length (l.map (Value.int k)) w := by
  cases l with
  | nil =>
    cases a with
    | none => exact Src.ofNil w hk cap
    | some ad => exact Src.ofSlice w hk ad 0 cap [] rfl (fun j u hj => by simp at hj) (fun u hu => by cases hu)
  | cons x l =>
    obtain ⟨b, o, rfl, hb, hc⟩ := h 0 (by simp)
    refine Src.ofSlice w hk ⟨b, o, none⟩ _ cap _ (by simp) (fun j u hj => ?_) (fun u hu => ?_)
    · have hj' : j < (x :: l).length := by
        rcases Nat.lt_or_ge j (x :: l).length with c | c
        · exact c
        · rw [List.getElem?_eq_none (by simpa using c)] at hj; cases hj
      obtain ⟨b', o', e', -, hc'⟩ := h j hj'
      cases e'
      have hadd : (⟨b, o, none⟩ : Addr).add j = ⟨b, o + j, none⟩ := by unfold Addr.add; split <;> simp_all
      rw [hadd, hc']
      rw [List.getElem?_map, List.getElem?_eq_getElem hj'] at hj
      simp only [Option.map_some, Option.some.injEq] at hj
      rw [← hj, iget hj']
    · obtain ⟨y, -, rfl⟩ := List.mem_map.1 hu; rfl
/-- A number is put ahead of a list: 'append([]T{x}, list...)'. -/
theorem run_prepend {k : IntKind} {P : Program} (w : World) {t e ty : TypeId} {i : TypeInfo} {z : Value} (ht : P.underlying t = some (.slice e)) (hi : P.info? e = some i) (hz : i.zero = some z) (h1 : i.size = 1) (hb : i.bytes ≤ 16)
    (g : Nat) (c : Int) (hg : w.cell? ⟨g, 0, none⟩ = some (.int k c)) (hgl : g < w.heap.size) (a : Option Addr) (l : List Int) (cap : Nat) (hl : l.length ≤ 1000000) (h : IRow k w a l) :
    ∃ a' cap' w', (Builtin.append_ #[t, t] ty #[.slice (some ⟨g, 0, none⟩) 1 1, .slice a l.length cap]).run P w = .ok (.slice a' (c :: l).length cap') w' ∧ IRow k w' a' (c :: l) ∧ Below w.heap.size w w' := by
  have hsrc : Src P i.size t (.slice a l.length cap) l.length (l.map (Value.int k)) w := by rw [h1]; exact h.src ht cap
  have hone : IRow k w (some ⟨g, 0, none⟩) [c] := by
    intro j hj
    have : j = 0 := by simp at hj; omega
    subst this
    exact ⟨g, 0, rfl, hgl, hg⟩
  cases l with
  | nil =>
    have := run_append_room_src (P := P) w t t ty e i ht hi g 0 1 1 (.slice a 0 cap) 0 [] hsrc (by omega) (fun j hj => by simp at hj) (fun j hj => by simp at hj)
    exact ⟨_, _, _, this, hone, Below.refl _ _⟩
  | cons x l =>
    have hold : (Builtin.firstCells i.size 1 (.slice (some ⟨g, 0, none⟩) 1 1)).run P w.drew = .ok [Value.int k c].toArray w.drew := by
      refine run_firstCells_some w.drew i.size 1 ⟨g, 0, none⟩ 1 1 [Value.int k c] (by rw [h1]; rfl) (fun j v hj => ?_)
      have hj0 : j = 0 := by
        rcases Nat.lt_or_ge j 1 with c | c
        · omega
        · rw [List.getElem?_eq_none (by simpa using c)] at hj; cases hj
      subst hj0
      simp at hj
      subst hj
      exact hg
    have hcap := nextslicecap_le (need := 1 + (x :: l).length) (old := 1) (by simp)
    have hfit : Builtin.nextslicecap (1 + (x :: l).length) 1 * i.bytes ≤ 281474976710656 := by
      have := Nat.mul_le_mul hcap hb
      omega
    have hrun := run_append_grow_src (P := P) w t t ty e i z ht hi hz (some ⟨g, 0, none⟩) 1 1 [Value.int k c] hold (.slice a (x :: l).length cap) (x :: l).length ((x :: l).map (Value.int k)) hsrc (by simp) (by omega) hfit
    have e1 : 1 + (x :: l).length = (c :: x :: l).length := by simp; omega
    rw [e1] at hrun
    refine ⟨_, _, _, hrun, ?_, ?_⟩
    · exact irow_new k w.drew (c :: x :: l) _ e
    · exact ((Below.refl _ _).drew).alloc (Nat.le_refl _) _
/-- THE WALK's LAW of it. -/
theorem wpList_prepend {k : IntKind} {P : Program} {w : World} {ops : Array Oper} {rest : List Oper} {o : Oper} {act : Act} {Q : Exit → Act → World → Prop} (hg : o.guard = none) (s x : Operand) {t : TypeId} (hop : o.op = Op.call { callee := Callee.builtin Builtin.append, args := #[s, x], argTypes := #[t, t] })
    {e : TypeId} {i : TypeInfo} {z : Value} (ht : P.underlying t = some (.slice e)) (hi : P.info? e = some i) (hz : i.zero = some z) (h1 : i.size = 1) (hb : i.bytes ≤ 16)
    (g : Nat) (c : Int) (a : Option Addr) (l : List Int) (cap : Nat) (hs : act.eval s = .slice (some ⟨g, 0, none⟩) 1 1) (hx : act.eval x = .slice a l.length cap) (hgc : w.cell? ⟨g, 0, none⟩ = some (.int k c)) (hgl : g < w.heap.size) (hl : l.length ≤ 1000000) (h : IRow k w a l)
    (hK : ∀ a' cap' w', IRow k w' a' (c :: l) → Below w.heap.size w w' → wpList P ops Q rest (act.put o.dst (.slice a' (c :: l).length cap')) w') : wpList P ops Q (o :: rest) act w := by
  refine wpList_plain hg fun K hK' => ?_
  obtain ⟨a', cap', w', hrun, r1, r2⟩ := run_prepend (P := P) (ty := o.type) w ht hi hz h1 hb g c hgc hgl a l cap hl h
  unfold Oper.wp
  simp [execOp, hop, resolve, invoke, builtin, hs, hx, hrun, Result.andThen]
  exact hK' _ _ (hK a' cap' w' r1 r2)
theorem run_build1 {P : Program} {k : IntKind} (w : World) {t e : TypeId} (ht : P.underlying t = some (.slice e)) (hs : (P.info? e).map (·.size) = some 1) (hz : ((P.info? e).bind (·.zero)).isSome = true) (c : Int) :
    (Instr.buildSlice t 1 #[(0, .int k c)]).run P w = .ok (.slice (some ⟨w.heap.size, 0, none⟩) 1 1) (w.alloc (.cells #[.int k c] e)) := by
  cases hie : P.info? e with
  | none => rw [hie] at hs; cases hs
  | some ie =>
    simp only [hie, Option.map_some, Option.some.injEq, Option.bind_some] at hs hz
    obtain ⟨z, hzz⟩ := Option.isSome_iff_exists.1 hz
    refine run_buildSlice w _ _ 1 _ _ ie z ht hie hzz (by rw [hs]; omega) (by rw [hs]; omega) ?_
    rw [hs]
    exact Great.fill_flat [Value.int k c] _ (fun v hv => by simp at hv; rcases hv with rfl | rfl <;> rfl) (by simp)
theorem run_build0 {P : Program} (w : World) {t e : TypeId} (ht : P.underlying t = some (.slice e)) (hs : (P.info? e).isSome = true) :
    (Instr.buildSlice t 0 #[]).run P w = .ok (.slice (some ⟨w.heap.size, 0, none⟩) 0 0) (w.alloc (.cells #[] e)) := by
  cases hie : P.info? e with
  | none => rw [hie] at hs; cases hs
  | some ie =>
    simp [Instr.buildSlice, run_underlying ht, sizeOf, typeInfo, hie, newRow, Instr.fill]
    congr 2
    exact Array.eq_empty_of_size_eq_zero (by simp)
/-- A list of bytes as a text. -/
theorem run_text {P : Program} {w : World} {t d e : TypeId} (ht : P.underlying t = some (.slice e)) (he : P.underlying e = some (.int .u8)) (hd : P.underlying d = some .string) (a : Option Addr) (l : List Int) (cap : Nat) (h0 : l ≠ []) (h : IRow .u8 w a l) :
    (convert t d (.slice a l.length cap)).run P w = .ok (.string (strOfNums l)) w := by
  cases l with
  | nil => exact absurd rfl h0
  | cons x l =>
    obtain ⟨b, o, rfl, hb, hc⟩ := h 0 (by simp)
    refine run_convert_bytes_arg w t e ht he b o _ cap (x :: l) rfl (fun i hi => ?_) d hd
    obtain ⟨b', o', e', -, hc'⟩ := h i hi
    cases e'
    exact hc'
end Go.Proofs.YtogliigpoojfoaaGreatDoor
end

section
namespace Go.Proofs.YtogliigpoojfoaaGreatDoor
set_option maxRecDepth 100000
open Go.RowKit

/-- The decimal digits of a number, as numbers. -/
def digL (m : Nat) : List Int := (Lib.decDigits m).map fun b => (b.toNat : Int)
theorem digL_small {m : Nat} (h : m < 10) : digL m = [(48 : Int) + m] := by
  unfold digL
  rw [Lib.decDigits_one h]
  simp only [List.map_cons, List.map_nil, List.cons.injEq, and_true]
  have : (UInt8.ofNat (48 + m)).toNat = 48 + m := by
    rw [UInt8.toNat_ofNat']; exact Nat.mod_eq_of_lt (by omega)
  rw [this]; omega
theorem digL_great {m : Nat} (h : ¬ m < 10) : digL m = digL (m / 10) ++ [(48 : Int) + (m % 10 : Nat)] := by
  unfold digL
  rw [Lib.decDigits, dif_neg h, List.map_append]
  congr 1
  simp only [List.map_cons, List.map_nil, List.cons.injEq, and_true]
  have hm : m % 10 < 10 := Nat.mod_lt _ (by decide)
  have : (UInt8.ofNat (48 + m % 10)).toNat = 48 + m % 10 := by
    rw [UInt8.toNat_ofNat']; exact Nat.mod_eq_of_lt (by omega)
  rw [this]; omega
theorem digL_step (m : Nat) : digL m = (if m / 10 = 0 then [] else digL (m / 10)) ++ [(48 : Int) + (m % 10 : Nat)] := by
  by_cases h : m < 10
  · rw [if_pos (by omega), digL_small h, Nat.mod_eq_of_lt h]; rfl
  · rw [if_neg (by omega), digL_great h]
theorem digL_length (m : Nat) (h : m < 10 ^ 20) : (digL m).length ≤ 20 := by
  have key : ∀ (k m : Nat), m < 10 ^ k → 0 < k → (digL m).length ≤ k := by
    intro k
    induction k with
    | zero => intro m _ h0; omega
    | succ k ih =>
      intro m hm _
      by_cases hs : m < 10
      · rw [digL_small hs]; simp
      · rw [digL_great hs, List.length_append]
        have hk : 0 < k := by
          rcases Nat.eq_zero_or_pos k with c | c
          · subst c; omega
          · exact c
        have : m / 10 < 10 ^ k := by
          rw [Nat.div_lt_iff_lt_mul (by decide)]
          rw [Nat.pow_succ] at hm; exact hm
        have := ih (m / 10) this hk
        simp; omega
  exact key 20 m h (by decide)
theorem strOf_bytes (l : List UInt8) : strOfNums (l.map fun b => (b.toNat : Int)) = ⟨l.toArray⟩ := by
  unfold strOfNums
  rw [List.map_map]
  have : ((fun n : Int => UInt8.ofNat n.toNat) ∘ fun b : UInt8 => (b.toNat : Int)) = id := by
    funext b
    simp [Function.comp]
  rw [this, List.map_id]
theorem strOf_dig (m : Nat) : strOfNums (digL m) = ⟨(Lib.decDigits m).toArray⟩ := strOf_bytes _
theorem strOf_neg (m : Nat) : strOfNums (45 :: digL m) = ⟨(45 :: Lib.decDigits m).toArray⟩ := strOf_bytes (45 :: Lib.decDigits m)
/-- What stands at the loop's head: r is what is left of m, L the digits that are there. -/
def DecInv (m r : Nat) (L : List Int) : Prop := (L = [] ∧ r = m) ∨ (L ≠ [] ∧ digL m = (if r = 0 then [] else digL r) ++ L)
theorem DecInv.step {m r : Nat} {L : List Int} (h : DecInv m r L) (hr : L = [] ∨ r ≠ 0) : DecInv m (r / 10) (((48 : Int) + (r % 10 : Nat)) :: L) := by
  refine .inr ⟨List.cons_ne_nil _ _, ?_⟩
  rcases h with ⟨h1, h2⟩ | ⟨h1, h2⟩
  · subst h1; subst h2; exact digL_step r
  · have hr0 : r ≠ 0 := hr.resolve_left h1
    rw [if_neg hr0, digL_step r, List.append_assoc] at h2
    exact h2
theorem DecInv.len {m r : Nat} {L : List Int} (h : DecInv m r L) (hm : m < 10 ^ 20) : L.length ≤ 20 := by
  rcases h with ⟨rfl, -⟩ | ⟨-, h2⟩
  · simp
  · have := digL_length m hm
    rw [h2, List.length_append] at this
    omega
theorem DecInv.le {m r : Nat} {L : List Int} (h : DecInv m r L) (h0 : L = []) : r = m := by
  rcases h with ⟨-, h2⟩ | ⟨h1, -⟩
  · exact h2
  · exact absurd h0 h1
theorem DecInv.done {m r : Nat} {L : List Int} (h : DecInv m r L) (h0 : L ≠ []) (hr : r = 0) : L = digL m := by
  rcases h with ⟨h1, -⟩ | ⟨-, h2⟩
  · exact absurd h1 h0
  · rw [if_pos hr] at h2; exact h2.symm
end Go.Proofs.YtogliigpoojfoaaGreatDoor
end

section
namespace Go.Proofs.YtogliigpoojfoaaGreatDoor
set_option maxRecDepth 100000
open Go.RowKit

theorem hidI {p : Prop} (h : p) : Hid p := h
theorem Tryz.info8 : (Tryz.prog.info? 5).map (fun i => (i.zero, i.size, i.bytes)) = some (some (.int .u8 0), 1, 1) := by kernel_rfl
theorem Tryz.size8 : (Tryz.prog.info? 5).map (·.size) = some 1 := by kernel_rfl
theorem Tryz.zero8 : ((Tryz.prog.info? 5).bind (·.zero)).isSome = true := by kernel_rfl
theorem Tryz.some8 : (Tryz.prog.info? 5).isSome = true := by kernel_rfl
theorem below_two {w W w2 : World} {o : Obj} (h : Below w.heap.size w W) (h2 : Below (W.alloc o).heap.size (W.alloc o) w2) : Below w.heap.size w w2 :=
  (h.alloc h.size o).trans (h2.mono (by
    have := h.size
    show w.heap.size ≤ (W.heap.push o).size
    simp; omega))
theorem new_cell (W : World) (v : Value) (t : TypeId) : (W.alloc (.cells #[v] t)).cell? ⟨W.heap.size, 0, none⟩ = some v := by
  have hs := MapKept.heap_alloc W (.cells #[v] t)
  unfold World.cell?; rw [hs.1]; rfl
theorem new_size (W : World) (o : Obj) : W.heap.size < (W.alloc o).heap.size := by
  show _ < (W.heap.push o).size
  simp
theorem new_row {k : IntKind} {W : World} {a : Option Addr} {l : List Int} (h : IRow k W a l) (o : Obj) : IRow k (W.alloc o) a l := h.below ((Below.refl _ _).alloc (Nat.le_refl _) o)
/-- How many rounds are left, and one where nothing is there yet. -/
def decLeft (o r : Value) : Nat := (match o with | .slice _ n _ => if n = 0 then 1 else 0 | _ => 0) + (intOf r).natAbs
theorem decLeft_start {a a2 : Option Addr} {c c2 k : Nat} {r r2 : Int} (n : Nat) (h : r.natAbs = k) (h2 : r2.natAbs = k / 10) : decLeft (.slice a2 (n + 1) c2) (.int .i64 r2) < decLeft (.slice a 0 c) (.int .i64 r) := by
  have e1 : (intOf (.int .i64 r2)) = r2 := rfl
  have e2 : (intOf (.int .i64 r)) = r := rfl
  unfold decLeft
  rw [e1, e2]
  show (if n + 1 = 0 then 1 else 0) + _ < (if 0 = 0 then 1 else 0) + _
  rw [if_neg (by omega), if_pos rfl]; omega
theorem decLeft_more {a a2 : Option Addr} {c c2 k n m : Nat} {r r2 : Int} (hk : k ≠ 0) (h : r.natAbs = k) (h2 : r2.natAbs = k / 10) : decLeft (.slice a2 (n + 1) c2) (.int .i64 r2) < decLeft (.slice a (m + 1) c) (.int .i64 r) := by
  have e1 : (intOf (.int .i64 r2)) = r2 := rfl
  have e2 : (intOf (.int .i64 r)) = r := rfl
  unfold decLeft
  rw [e1, e2]
  show (if n + 1 = 0 then 1 else 0) + _ < (if m + 1 = 0 then 1 else 0) + _
  rw [if_neg (by omega), if_neg (by omega)]; omega
theorem step_pos {m k : Nat} {L : List Int} (h : DecInv m k L) (hr : L = [] ∨ k ≠ 0) : DecInv m (k / 10) ((48 + (k : Int) % 10) :: L) := by
  have e : (48 + (k : Int) % 10) = (48 : Int) + ((k % 10 : Nat) : Int) := by omega
  rw [e]; exact h.step hr
end Go.Proofs.YtogliigpoojfoaaGreatDoor
end

section
namespace Go.Proofs.YtogliigpoojfoaaGreatDoor
set_option maxRecDepth 100000
open Go.RowKit

/-- The text of a number. -/
def decT (n : Int) : ByteArray := ⟨(Lib.itoa n).toArray⟩
theorem Below.draws {B : Nat} {w v : World} (h : Below B w v) (n : Nat) : Below B w (v.drewN n) := ⟨h.os, h.tape, h.output, h.size, h.block⟩
end Go.Proofs.YtogliigpoojfoaaGreatDoor
end
