/-
  Lists of complex numbers: conversions, comparison of lists.
-/
import Derived.Test.YtogliigpoojfoaaGreatDoorK6
import Derived.Deep.RegionWith
namespace Go.Proofs.YtogliigpoojfoaaGreatDoor
set_option maxRecDepth 100000
open Go.RowKit Fl

theorem run_cconvC {P : Program} (w : World) (src dst : TypeId) (s k : FloatKind) (p q : Nat) (hw1 : (Lit.float s p).wf = true) (hw2 : (Lit.float s q).wf = true) (hs : P.underlying src = some (.complex s)) (hd : P.underlying dst = some (.complex k)) :
    ∃ r t n, (convert src dst (.complex s p q)).run P w = .ok (.complex k r t) (w.drewN n) ∧ FConv s k p r ∧ FConv s k q t := by
  have key : ∀ (p : Nat) (w : World), (Lit.float s p).wf = true → ∃ r n, (Conv.floatToFloat s p k).run P w = .ok (.float k r) (w.drewN n) ∧ FConv s k p r := fun p w hw => run_ftf w s k p hw
  obtain ⟨r, n, hr, hf⟩ := key p w hw1
  obtain ⟨t, m, ht, hg⟩ := key q (w.drewN n) hw2
  exact ⟨r, t, n + m, by simp [convert, run_underlying hs, run_underlying hd, Conv.complexToComplex, hr, ht], hf, hg⟩
/-- THE WALK's LAW: a conversion between two kinds of complex numbers. -/
theorem wpList_cconvC {P : Program} {ops : Array Oper} {rest : List Oper} {o : Oper} {a : Act} {w : World} {Q : Exit → Act → World → Prop} (hgd : Region.wanted o (yielded ops a.tmps) = true) (src dst : TypeId) (x : Operand) (ho : o.op = .convert src dst x)
    (s k : FloatKind) (p q : Nat) (hx : a.eval x = .complex s p q) (hw1 : (Lit.float s p).wf = true) (hw2 : (Lit.float s q).wf = true) (hs : P.underlying src = some (.complex s)) (hd : P.underlying dst = some (.complex k))
    (h : ∀ r t n, FConv s k p r → FConv s k q t → wpList P ops Q rest (a.put o.dst (.complex k r t)) (w.drewN n)) : wpList P ops Q (o :: rest) a w :=
  wpList_want hgd fun K hK => by
    obtain ⟨r, t, n, hr, hf, hg⟩ := run_cconvC (P := P) w src dst s k p q hw1 hw2 hs hd
    have hK' := hK _ _ (h r t n hf hg)
    have hr' : (convert src dst (a.eval x)).run P w = .ok (.complex k r t) (w.drewN n) := by rw [hx]; exact hr
    unfold Oper.wp execOp
    simp only [ho, Sem.run_bind, Sem.run_pure, Result.andThen_ok, hr']
    exact hK'
theorem wp_cconv {P : Program} {o : Oper} {a : Act} {w : World} {K : Act → World → Prop} {Q : Exit → Act → World → Prop} (src dst : TypeId) (x : Operand) (ho : o.op = .convert src dst x)
    (s k : FloatKind) (p q : Nat) (hx : a.eval x = .complex s p q) (hw1 : (Lit.float s p).wf = true) (hw2 : (Lit.float s q).wf = true) (hs : P.underlying src = some (.complex s)) (hd : P.underlying dst = some (.complex k))
    (h : ∀ r t n, FConv s k p r → FConv s k q t → K (a.put o.dst (.complex k r t)) (w.drewN n)) : Oper.wp P o a w K Q := by
  obtain ⟨r, t, n, hr, hf, hg⟩ := run_cconvC (P := P) w src dst s k p q hw1 hw2 hs hd
  have hK' := h r t n hf hg
  have hr' : (convert src dst (a.eval x)).run P w = .ok (.complex k r t) (w.drewN n) := by rw [hx]; exact hr
  unfold Oper.wp execOp
  simp only [ho, Sem.run_bind, Sem.run_pure, Result.andThen_ok, hr']
  exact hK'
/-- A slice of complex numbers reads as a list of pairs of words. -/
def CRow (w : World) (a : Option Addr) (l : List (Nat × Nat)) : Prop :=
  ∀ i, i < l.length → ∃ b o, a = some ⟨b, o, none⟩ ∧ b < w.heap.size ∧ w.cell? ⟨b, o + i, none⟩ = some (.complex .f32 (l.getD i (0, 0)).1 (l.getD i (0, 0)).2)
def CWf (l : List (Nat × Nat)) : Prop := ∀ i, i < l.length → (Lit.float .f32 (l.getD i (0, 0)).1).wf = true ∧ (Lit.float .f32 (l.getD i (0, 0)).2).wf = true
theorem CRow.below {w w' : World} {a : Option Addr} {l : List (Nat × Nat)} (h : CRow w a l) (hb : Below w.heap.size w w') : CRow w' a l := by
  intro i hi
  obtain ⟨b, o, ha, hlt, hc⟩ := h i hi
  refine ⟨b, o, ha, Nat.lt_of_lt_of_le hlt hb.size, ?_⟩
  rw [hb.cell (p := ⟨b, o + i, none⟩) hlt]; exact hc
theorem cgetD {l : List (Nat × Nat)} {k : Nat} (h : k < l.length) : l.getD k (0, 0) = l[k] := by simp [List.getD, List.getElem?_eq_getElem h]
end Go.Proofs.YtogliigpoojfoaaGreatDoor
