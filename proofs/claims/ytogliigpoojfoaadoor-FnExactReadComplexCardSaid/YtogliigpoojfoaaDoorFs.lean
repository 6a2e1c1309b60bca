/-
  The laws of floating point for a region that draws its order: one operation of it.
-/
import Derived.Test.YtogliigpoojfoaaDoorFl
import Derived.Deep.RegionHeld3
namespace Go.Proofs.YtogliigpoojfoaaDoor.Fl
open Go

theorem step_fconv {P : Program} {ops : Array Oper} {o : Oper} {a : Act} {w : World} {K : Act → World → Prop} {Q : Exit → Act → World → Prop} {E : Prop} (hgd : Region.wanted o (yielded ops a.tmps) = true) (src dst : TypeId) (x : Operand) (ho : o.op = .convert src dst x)
    (s k : FloatKind) (p : Nat) (hx : a.eval x = .float s p) (hw : (Lit.float s p).wf = true) (hs : (P.underlying src).isSome = true) (hd : P.underlying dst = some (.float k))
    (h : ∀ r n, FConv s k p r → K (a.put o.dst (.float k r)) (w.drewN n)) : if Region.wanted o (yielded ops a.tmps) = true then Oper.wp P o a w K Q else E := by
  rw [if_pos hgd]
  obtain ⟨r, n, hr, hf⟩ := run_fconv (P := P) w src dst s k p hw hs hd
  have hK' := h r n hf
  have hr' : (convert src dst (a.eval x)).run P w = .ok (.float k r) (w.drewN n) := by rw [hx]; exact hr
  unfold Oper.wp execOp
  simp only [ho, Sem.run_bind, Sem.run_pure, Result.andThen_ok, hr']
  exact hK'

theorem step_float {P : Program} {ops : Array Oper} {o : Oper} {a : Act} {w : World} {K : Act → World → Prop} {Q : Exit → Act → World → Prop} {E : Prop} (hgd : Region.wanted o (yielded ops a.tmps) = true) (op : BinOp) (tx ty : TypeId) (x y : Operand) (ho : o.op = .binOp op tx x y ty)
    (har : isArith op = true) (k : FloatKind) (p q : Nat) (hx : a.eval x = .float k p) (hy : a.eval y = .float k q)
    (h : ∀ r n, FRes op k p q r → K (a.put o.dst (.float k r)) (w.drewN n)) : if Region.wanted o (yielded ops a.tmps) = true then Oper.wp P o a w K Q else E := by
  rw [if_pos hgd]
  obtain ⟨r, n, hr, hf⟩ := run_float (P := P) w op har tx k p q
  have hK' := h r n hf
  have hr' : (binOp op tx (a.eval x) (a.eval y)).run P w = .ok (.float k r) (w.drewN n) := by rw [hx, hy]; exact hr
  have heq : (eqGuard op tx x y (a.eval x) (a.eval y)).run P w = .ok () w := by
    cases op <;> simp only [isArith] at har <;> first | (cases har; done) | rfl
  unfold Oper.wp execOp
  simp only [ho, Sem.run_bind, Sem.run_pure, Result.andThen_ok, heq, hr']
  exact hK'
/-- One operation of a region that draws its order. -/
theorem wpOp_of_wp {P : Program} {ops : Array Oper} {Q : Exit → Act → World → Prop} {i : Nat} {o : Oper} {K : Act → World → Prop} {a : Act} {w : World} (hi : ops[i]? = some o) (hg : Region.wanted o (yielded ops a.tmps) = true)
    (h : o.wp P a w K Q) : wpOp P ops Q i K a w := by
  unfold Go.wpOp
  simp only [hi, hg, if_true]
  exact .inl h
theorem wp_fconv {P : Program} {o : Oper} {a : Act} {w : World} {K : Act → World → Prop} {Q : Exit → Act → World → Prop} (src dst : TypeId) (x : Operand) (ho : o.op = .convert src dst x)
    (s k : FloatKind) (p : Nat) (hx : a.eval x = .float s p) (hw : (Lit.float s p).wf = true) (hs : (P.underlying src).isSome = true) (hd : P.underlying dst = some (.float k))
    (h : ∀ r n, FConv s k p r → K (a.put o.dst (.float k r)) (w.drewN n)) : Oper.wp P o a w K Q := by
  obtain ⟨r, n, hr, hf⟩ := run_fconv (P := P) w src dst s k p hw hs hd
  have hK' := h r n hf
  have hr' : (convert src dst (a.eval x)).run P w = .ok (.float k r) (w.drewN n) := by rw [hx]; exact hr
  unfold Oper.wp execOp
  simp only [ho, Sem.run_bind, Sem.run_pure, Result.andThen_ok, hr']
  exact hK'
theorem wp_float {P : Program} {o : Oper} {a : Act} {w : World} {K : Act → World → Prop} {Q : Exit → Act → World → Prop} (op : BinOp) (tx ty : TypeId) (x y : Operand) (ho : o.op = .binOp op tx x y ty)
    (har : isArith op = true) (k : FloatKind) (p q : Nat) (hx : a.eval x = .float k p) (hy : a.eval y = .float k q)
    (h : ∀ r n, FRes op k p q r → K (a.put o.dst (.float k r)) (w.drewN n)) : Oper.wp P o a w K Q := by
  obtain ⟨r, n, hr, hf⟩ := run_float (P := P) w op har tx k p q
  have hK' := h r n hf
  have hr' : (binOp op tx (a.eval x) (a.eval y)).run P w = .ok (.float k r) (w.drewN n) := by rw [hx, hy]; exact hr
  have heq : (eqGuard op tx x y (a.eval x) (a.eval y)).run P w = .ok () w := by
    cases op <;> simp only [isArith] at har <;> first | (cases har; done) | rfl
  unfold Oper.wp execOp
  simp only [ho, Sem.run_bind, Sem.run_pure, Result.andThen_ok, heq, hr']
  exact hK'
/-- A call, by its contract. -/
theorem wp_call {P : Program} {o : Oper} {a : Act} {w : World} {K : Act → World → Prop} {Q : Exit → Act → World → Prop} {f : FuncId} {args : Array Value} (hr : (execOp a.eval o).run P w = .ok (.enter f args) w)
    (h : Calls P f args w fun e w' => ∃ v, e = .returned v ∧ K (a.put o.dst v) w') : Oper.wp P o a w K Q := by
  unfold Oper.wp
  rw [hr]
  refine Calls.mono h ?_
  rintro e w' ⟨v, rfl, hk⟩
  exact hk
theorem drawn_once (w : World) (n m : Nat) : ({ heap := w.heap, tape := w.tape, drawn := (w.drewN n).drawn + 1, os := (w.drewN n).os, output := (w.drewN n).output } : World).drewN m = w.drewN (n + 1 + m) := by
  show ({ w with drawn := w.drawn + n + 1 + m } : World) = { w with drawn := w.drawn + (n + 1 + m) }
  congr 1
  omega
end Go.Proofs.YtogliigpoojfoaaDoor.Fl
