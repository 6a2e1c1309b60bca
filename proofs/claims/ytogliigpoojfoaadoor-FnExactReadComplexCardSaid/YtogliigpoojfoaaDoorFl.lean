/-
  Laws of floating point for the walk: each operation on two numbers gives, up to which not-a-number it is, what 'fop' says of the operands; a draw may lie behind it.
-/
import Derived.WalkKit
import Derived.WalkSpells
import Derived.WalkLawsBesides
import Derived.Deep.Draws
namespace Go.Proofs.YtogliigpoojfoaaDoor.Fl
open Go

section
variable (P : Program) (w : World) (a : Addr) (m : Mode)
@[go_sem] theorem run_store_float (k : FloatKind) (b : Nat) : (store a (.float k b) m).run P w = stored P w a (.float k b) m := run_store P w a _ m rfl
@[go_sem] theorem run_store_complex (k : FloatKind) (b c : Nat) : (store a (.complex k b c) m).run P w = stored P w a (.complex k b c) m := run_store P w a _ m rfl
end

theorem word_read (f : Ieee.Format) (neg : Bool) {rung : Nat} (h : rung ≤ f.infRung) : (f.read (f.word neg rung)).isNaN = false := by
  have hlt := f.infRung_lt
  have hs : 0 < f.signWeight := by omega
  have e : f.word neg rung % f.signWeight = rung := by
    unfold Ieee.Format.word
    split
    · rw [Nat.add_mod_left]; exact Nat.mod_eq_of_lt (by omega)
    · exact Nat.mod_eq_of_lt (by omega)
  unfold Ieee.Format.read
  simp only [e]
  split
  · rfl
  · split
    · rfl
    · rw [if_pos (by omega)]; rfl

theorem nearest_read (f : Ieee.Format) (neg : Bool) (mag : Nat) (place : Int) : (f.read (f.nearest neg mag place)).isNaN = false := by
  unfold Ieee.Format.nearest
  split
  · exact word_read f neg (Nat.zero_le _)
  · dsimp only
    exact word_read f neg (Nat.min_le_right ..)

theorem write_read (f : Ieee.Format) (d : Ieee.Datum) (h : d.isNaN = false) : (f.read (f.write d)).isNaN = false := by
  cases d with
  | number neg mag place => exact nearest_read f neg mag place
  | infinity neg => exact word_read f neg (Nat.le_refl _)
  | nan neg fraction => cases h

theorem sum_nan {x y z : Ieee.Datum} (h : x.sum y = some z) : x.isNaN = false ∧ y.isNaN = false ∧ z.isNaN = false := by
  cases x <;> cases y <;> simp only [Ieee.Datum.sum] at h <;> first | (cases h; exact ⟨rfl, rfl, rfl⟩) | (cases h; done) | skip
  split at h
  · cases h; exact ⟨rfl, rfl, rfl⟩
  · cases h
theorem product_nan {x y z : Ieee.Datum} (h : x.product y = some z) : x.isNaN = false ∧ y.isNaN = false ∧ z.isNaN = false := by
  cases x <;> cases y <;> simp only [Ieee.Datum.product] at h <;> first | (cases h; exact ⟨rfl, rfl, rfl⟩) | (cases h; done) | skip
  all_goals
    split at h
    · cases h
    · cases h; exact ⟨rfl, rfl, rfl⟩
theorem quotient_nan {n : Nat} {x y z : Ieee.Datum} (h : x.quotient n y = some z) : x.isNaN = false ∧ y.isNaN = false ∧ z.isNaN = false := by
  cases x <;> cases y <;> simp only [Ieee.Datum.quotient] at h <;> first | (cases h; exact ⟨rfl, rfl, rfl⟩) | (cases h; done) | skip
  split at h
  · split at h
    · cases h
    · cases h; exact ⟨rfl, rfl, rfl⟩
  · cases h; exact ⟨rfl, rfl, rfl⟩
theorem root_nan {n : Nat} {x z : Ieee.Datum} (h : x.root n = some z) : x.isNaN = false ∧ z.isNaN = false := by
  cases x <;> simp only [Ieee.Datum.root] at h <;> first | (cases h; done) | skip
  · split at h
    · cases h; exact ⟨rfl, rfl⟩
    · split at h
      · cases h
      · cases h; exact ⟨rfl, rfl⟩
  · split at h
    · cases h
    · cases h; exact ⟨rfl, rfl⟩
theorem opposite_nan (x : Ieee.Datum) : x.opposite.isNaN = x.isNaN := by cases x <;> rfl

/-- What a word means: nothing where it is a not-a-number. -/
def mean (k : FloatKind) (b : Nat) : Option Nat := if (k.decode b).isNaN then none else some b

theorem mean_some {k : FloatKind} {b c : Nat} (h : mean k b = some c) : b = c ∧ (k.decode b).isNaN = false := by
  unfold mean at h
  split at h
  · cases h
  · rename_i hn; cases h; exact ⟨rfl, by simpa using hn⟩
theorem mean_of {k : FloatKind} {b : Nat} (h : (k.decode b).isNaN = false) : mean k b = some b := by simp [mean, h]
theorem mean_nan {k : FloatKind} {b : Nat} (h : (k.decode b).isNaN = true) : mean k b = none := by simp [mean, h]

/-- An operation on what words mean. -/
def fop (op : BinOp) (k : FloatKind) (x y : Option Nat) : Option Nat := x.bind fun a => y.bind fun b => floatBits op k a b

theorem map_write {f : Ieee.Format} {d : Option Ieee.Datum} {r : Nat} (h : d.map f.write = some r) : ∃ z, d = some z ∧ r = f.write z := by
  cases d with
  | none => cases h
  | some z => cases h; exact ⟨z, rfl, rfl⟩

theorem floatBits_nan {op : BinOp} {k : FloatKind} {a b r : Nat} (h : floatBits op k a b = some r) : (k.decode a).isNaN = false ∧ (k.decode b).isNaN = false ∧ (k.decode r).isNaN = false := by
  unfold floatBits at h
  split at h
  · obtain ⟨z, hz, rfl⟩ := map_write h; have := sum_nan hz; exact ⟨this.1, this.2.1, write_read _ _ this.2.2⟩
  · obtain ⟨z, hz, rfl⟩ := map_write h; have := sum_nan hz; exact ⟨this.1, by rw [opposite_nan] at this; exact this.2.1, write_read _ _ this.2.2⟩
  · obtain ⟨z, hz, rfl⟩ := map_write h; have := product_nan hz; exact ⟨this.1, this.2.1, write_read _ _ this.2.2⟩
  · obtain ⟨z, hz, rfl⟩ := map_write h; have := quotient_nan hz; exact ⟨this.1, this.2.1, write_read _ _ this.2.2⟩
  · cases h

/-- 'r' is what an operation gives, up to which not-a-number it is. -/
def FRes (op : BinOp) (k : FloatKind) (a b r : Nat) : Prop := mean k r = fop op k (mean k a) (mean k b) ∧ (Lit.float k r).wf = true

theorem nan_cut32 (t : Nat) : (FloatKind.f32.decode ((t % 2) * 2 ^ 31 + 0x7f800000 + 1 + (t / 2) % (2 ^ 23 - 1))).isNaN = true ∧ (t % 2) * 2 ^ 31 + 0x7f800000 + 1 + (t / 2) % (2 ^ 23 - 1) < 2 ^ 32 := by
  generalize ht : (t / 2) % (2 ^ 23 - 1) = q
  have hq : q < 8388607 := by rw [← ht]; exact Nat.mod_lt _ (by decide)
  have h2 : t % 2 = 0 ∨ t % 2 = 1 := by omega
  constructor
  · have e : ((t % 2) * 2 ^ 31 + 0x7f800000 + 1 + q) % 2147483648 = 0x7f800001 + q := by rcases h2 with h | h <;> rw [h] <;> omega
    show (Ieee.single.read _).isNaN = true
    unfold Ieee.Format.read
    have sw : Ieee.single.signWeight = 2147483648 := rfl
    have ir : Ieee.single.infRung = 0x7f800000 := rfl
    have bi : Ieee.single.binade = 8388608 := rfl
    simp only [sw, ir, bi, e]
    rw [if_neg (by omega), if_neg (by omega), if_neg (by omega)]
    rfl
  · rcases h2 with h | h <;> rw [h] <;> omega
theorem nan_cut64 (t : Nat) : (FloatKind.f64.decode ((t % 2) * 2 ^ 63 + 0x7ff0000000000000 + 1 + (t / 2) % (2 ^ 52 - 1))).isNaN = true ∧ (t % 2) * 2 ^ 63 + 0x7ff0000000000000 + 1 + (t / 2) % (2 ^ 52 - 1) < 2 ^ 64 := by
  generalize ht : (t / 2) % (2 ^ 52 - 1) = q
  have hq : q < 4503599627370495 := by rw [← ht]; exact Nat.mod_lt _ (by decide)
  have h2 : t % 2 = 0 ∨ t % 2 = 1 := by omega
  constructor
  · have e : ((t % 2) * 2 ^ 63 + 0x7ff0000000000000 + 1 + q) % 9223372036854775808 = 0x7ff0000000000001 + q := by rcases h2 with h | h <;> rw [h] <;> omega
    show (Ieee.double.read _).isNaN = true
    unfold Ieee.Format.read
    have sw : Ieee.double.signWeight = 9223372036854775808 := rfl
    have ir : Ieee.double.infRung = 0x7ff0000000000000 := rfl
    have bi : Ieee.double.binade = 4503599627370496 := rfl
    simp only [sw, ir, bi, e]
    rw [if_neg (by omega), if_neg (by omega), if_neg (by omega)]
    rfl
  · rcases h2 with h | h <;> rw [h] <;> omega

theorem nanBits_cut (k : FloatKind) (x y t : Nat) : mean k ((Question.nanBits k x y).cut t) = none ∧ (Lit.float k ((Question.nanBits k x y).cut t)).wf = true := by
  cases k
  · exact ⟨mean_nan (nan_cut32 t).1, wf_of_lt _ _ (nan_cut32 t).2⟩
  · exact ⟨mean_nan (nan_cut64 t).1, wf_of_lt _ _ (nan_cut64 t).2⟩
theorem nanConv_cut (k : FloatKind) (x t : Nat) : mean k ((Question.nanConv k x).cut t) = none ∧ (Lit.float k ((Question.nanConv k x).cut t)).wf = true := by
  cases k
  · exact ⟨mean_nan (nan_cut32 t).1, wf_of_lt _ _ (nan_cut32 t).2⟩
  · exact ⟨mean_nan (nan_cut64 t).1, wf_of_lt _ _ (nan_cut64 t).2⟩

theorem fop_none {op : BinOp} {k : FloatKind} {a b : Nat} (h : floatBits op k a b = none) : fop op k (mean k a) (mean k b) = none := by
  unfold mean fop
  split
  · rfl
  · split
    · rfl
    · exact h
theorem fop_some {op : BinOp} {k : FloatKind} {a b r : Nat} (h : floatBits op k a b = some r) : fop op k (mean k a) (mean k b) = some r ∧ mean k r = some r := by
  obtain ⟨ha, hb, hr⟩ := floatBits_nan h
  rw [mean_of ha, mean_of hb, mean_of hr]
  exact ⟨h, rfl⟩

def isArith : BinOp → Bool
  | .add | .sub | .mul | .quo => true
  | _ => false

section
variable {P : Program} (w : World)
theorem run_floatArith_none {op : BinOp} (ho : isArith op = true) {k : FloatKind} {x y : Nat} (h : floatBits op k x y = none) :
    (Op.floatArith op k x y).run P w = .ok (.float k ((Question.nanBits k x y).cut (w.tape w.drawn (.nanBits k x y)))) (w.drewN 1) := by
  unfold floatBits at h
  cases op <;> simp only [isArith] at ho <;> first | (cases ho; done) | skip
  all_goals
    simp only at h
    simp [Op.floatArith, h, Question.forced]
    rfl

theorem run_float (op : BinOp) (ho : isArith op = true) (t : TypeId) (k : FloatKind) (a b : Nat) :
    ∃ r n, (binOp op t (.float k a) (.float k b)).run P w = .ok (.float k r) (w.drewN n) ∧ FRes op k a b r := by
  cases h : floatBits op k a b with
  | some r => exact ⟨r, 0, run_float_arith w op t k a b r h, by rw [FRes, (fop_some h).1, (fop_some h).2]; exact ⟨rfl, floatBits_wf h⟩⟩
  | none =>
    refine ⟨(Question.nanBits k a b).cut (w.tape w.drawn (.nanBits k a b)), 1, ?_, ?_⟩
    · have e := run_floatArith_none (P := P) w ho h
      cases op <;> simp only [isArith] at ho <;> first | (cases ho; done) | skip
      all_goals simpa [binOp] using e
    · rw [FRes, fop_none h]; exact nanBits_cut ..
end

theorem wpList_want {P : Program} {ops : Array Oper} {rest : List Oper} {o : Oper} {a : Act} {w : World} {Q : Exit → Act → World → Prop} (hg : Region.wanted o (yielded ops a.tmps) = true)
    (h : ∀ K : Act → World → Prop, (∀ a w, wpList P ops Q rest a w → K a w) → o.wp P a w K Q) : wpList P ops Q (o :: rest) a w :=
  wpList_step fun K hK => by rw [if_pos hg]; exact h K hK

/-- THE WALK's LAW: '+', '-', '*', '/' on two floats. -/
theorem wpList_float {P : Program} {ops : Array Oper} {rest : List Oper} {o : Oper} {a : Act} {w : World} {Q : Exit → Act → World → Prop} (hgd : Region.wanted o (yielded ops a.tmps) = true) (op : BinOp) (tx ty : TypeId) (x y : Operand) (ho : o.op = .binOp op tx x y ty)
    (har : isArith op = true) (k : FloatKind) (p q : Nat) (hx : a.eval x = .float k p) (hy : a.eval y = .float k q)
    (h : ∀ r n, FRes op k p q r → wpList P ops Q rest (a.put o.dst (.float k r)) (w.drewN n)) : wpList P ops Q (o :: rest) a w :=
  wpList_want hgd fun K hK => by
    obtain ⟨r, n, hr, hf⟩ := run_float (P := P) w op har tx k p q
    have hK' := hK _ _ (h r n hf)
    have hr' : (binOp op tx (a.eval x) (a.eval y)).run P w = .ok (.float k r) (w.drewN n) := by rw [hx, hy]; exact hr
    have heq : (eqGuard op tx x y (a.eval x) (a.eval y)).run P w = .ok () w := by
      cases op <;> simp only [isArith] at har <;> first | (cases har; done) | rfl
    unfold Oper.wp execOp
    simp only [ho, Sem.run_bind, Sem.run_pure, Result.andThen_ok, heq, hr']
    exact hK'

/-- The square root of what a word means. -/
def fsqrt (x : Option Nat) : Option Nat := x.bind fun a => FloatKind.f64.format.sqrt a
def FSqrt (a r : Nat) : Prop := mean .f64 r = fsqrt (mean .f64 a) ∧ (Lit.float .f64 r).wf = true

theorem sqrt_eq (a : Nat) : Extern.MathSqrt.sqrt #[.float .f64 a] = (match FloatKind.f64.format.sqrt a with
    | some r => (Pure.pure (Value.float .f64 r) : Sem Value)
    | none => (choose (.nanBits .f64 a a)).bind fun n => Pure.pure (Value.float .f64 n)) := rfl
theorem encode_read (k : FloatKind) (d : Ieee.Datum) (h : d.isNaN = false) : (k.decode (k.encode d)).isNaN = false := write_read k.format d h

theorem run_sqrt {P : Program} (w : World) (a : Nat) : ∃ r n, (Extern.MathSqrt.sqrt #[.float .f64 a]).run P w = .ok (.float .f64 r) (w.drewN n) ∧ FSqrt a r := by
  cases h : FloatKind.f64.format.sqrt a with
  | some r =>
    refine ⟨r, 0, by rw [sqrt_eq, h]; rfl, ?_⟩
    have h' := h
    obtain ⟨z, hz, rfl⟩ := map_write h'
    have hn := root_nan hz
    rw [FSqrt, fsqrt, mean_of (k := .f64) hn.1, mean_of (k := .f64) (write_read _ _ hn.2)]
    exact ⟨h.symm, wf_of_lt _ _ (FloatKind.f64.format.sqrt_lt h)⟩
  | none =>
    refine ⟨(Question.nanBits .f64 a a).cut (w.tape w.drawn (.nanBits .f64 a a)), 1, ?_, ?_⟩
    · rw [sqrt_eq, h]; rfl
    · have hm : fsqrt (mean .f64 a) = none := by
        unfold mean fsqrt
        split
        · rfl
        · exact h
      rw [FSqrt, hm]; exact nanBits_cut ..

/-- What a conversion between two kinds of floats means, where it fits. -/
def fconv (s k : FloatKind) (x : Option Nat) : Option Nat := x.map fun a => if s = k then a else k.encode (s.decode a)
/-- A number that is too great for the kind becomes whatever number; otherwise the conversion is the nearest one. -/
def fits (s k : FloatKind) (a : Nat) : Bool := s = k || (match s.decode a with | .number sg m e => !(k.decode (k.encode (.number sg m e))).isInfinity | _ => true)
def FConv (s k : FloatKind) (a r : Nat) : Prop := (fits s k a = true → mean k r = fconv s k (mean s a)) ∧ (Lit.float k r).wf = true

theorem floatToFloat_cut (k : FloatKind) (b t : Nat) : (Lit.float k ((Question.floatToFloat b).cut t)).wf = true := by
  have h : t % 2 ^ 32 < 2 ^ 32 := Nat.mod_lt _ (by decide)
  cases k
  · exact wf_of_lt _ _ h
  · exact wf_of_lt _ _ (Nat.lt_trans h (by decide))

theorem run_fconv {P : Program} (w : World) (src dst : TypeId) (s k : FloatKind) (a : Nat) (hw : (Lit.float s a).wf = true) (hs : (P.underlying src).isSome = true) (hd : P.underlying dst = some (.float k)) :
    ∃ r n, (convert src dst (.float s a)).run P w = .ok (.float k r) (w.drewN n) ∧ FConv s k a r := by
  cases h : floatToFloatBits s a k with
  | some r =>
    refine ⟨r, 0, run_convert_float_float w src dst s k a r hs hd h, fun _ => ?_, floatToFloatBits_wf hw h⟩
    unfold floatToFloatBits at h
    split at h
    · rename_i e; subst e; cases h
      unfold fconv
      cases hm : mean s a <;> simp
    · rename_i ne
      split at h
      · cases h
      · rename_i sg he; cases h
        rw [mean_of (k := s) (by rw [he]; rfl), mean_of (k := k) (encode_read _ _ rfl)]
        simp [fconv, ne, he]
      · rename_i sg m e he
        split at h
        · cases h
        · cases h
          rw [mean_of (k := s) (by rw [he]; rfl), mean_of (k := k) (encode_read _ _ rfl)]
          simp [fconv, ne, he]
  | none =>
    obtain ⟨u, hs'⟩ := Option.isSome_iff_exists.1 hs
    unfold floatToFloatBits at h
    split at h
    · cases h
    · rename_i ne
      split at h
      · rename_i sg fr he
        refine ⟨(Question.nanConv k a).cut (w.tape w.drawn (.nanConv k a)), 1, ?_, fun _ => ?_, (nanConv_cut ..).2⟩
        · cases u <;> simp [convert, run_underlying hs', run_underlying hd, Conv.floatToFloat, ne, he, Question.forced] <;> rfl
        · rw [(nanConv_cut ..).1, mean_nan (k := s) (by rw [he]; rfl)]; rfl
      · cases h
      · rename_i sg m e he
        split at h
        · rename_i hi
          refine ⟨(Question.floatToFloat a).cut (w.tape w.drawn (.floatToFloat a)), 1, ?_, fun hf => ?_, floatToFloat_cut ..⟩
          · cases u <;> simp [convert, run_underlying hs', run_underlying hd, Conv.floatToFloat, ne, he, hi, Question.forced] <;> rfl
          · exfalso
            have : fits s k a = false := by simp [fits, ne, he, hi]
            rw [this] at hf; cases hf
        · cases h

theorem run_ftf {P : Program} (w : World) (s k : FloatKind) (a : Nat) (hw : (Lit.float s a).wf = true) :
    ∃ r n, (Conv.floatToFloat s a k).run P w = .ok (.float k r) (w.drewN n) ∧ FConv s k a r := by
  cases h : floatToFloatBits s a k with
  | some r =>
    refine ⟨r, 0, run_floatToFloat w h, fun _ => ?_, floatToFloatBits_wf hw h⟩
    unfold floatToFloatBits at h
    split at h
    · rename_i e; subst e; cases h
      unfold fconv
      cases hm : mean s a <;> simp
    · rename_i ne
      split at h
      · cases h
      · rename_i sg he; cases h
        rw [mean_of (k := s) (by rw [he]; rfl), mean_of (k := k) (encode_read _ _ rfl)]
        simp [fconv, ne, he]
      · rename_i sg m e he
        split at h
        · cases h
        · cases h
          rw [mean_of (k := s) (by rw [he]; rfl), mean_of (k := k) (encode_read _ _ rfl)]
          simp [fconv, ne, he]
  | none =>
    unfold floatToFloatBits at h
    split at h
    · cases h
    · rename_i ne
      split at h
      · rename_i sg fr he
        refine ⟨(Question.nanConv k a).cut (w.tape w.drawn (.nanConv k a)), 1, ?_, fun _ => ?_, (nanConv_cut ..).2⟩
        · simp [Conv.floatToFloat, ne, he, Question.forced]; rfl
        · rw [(nanConv_cut ..).1, mean_nan (k := s) (by rw [he]; rfl)]; rfl
      · cases h
      · rename_i sg m e he
        split at h
        · rename_i hi
          refine ⟨(Question.floatToFloat a).cut (w.tape w.drawn (.floatToFloat a)), 1, ?_, fun hf => ?_, floatToFloat_cut ..⟩
          · simp [Conv.floatToFloat, ne, he, hi, Question.forced]; rfl
          · exfalso
            have : fits s k a = false := by simp [fits, ne, he, hi]
            rw [this] at hf; cases hf
        · cases h

/-- THE WALK's LAW: a conversion between two kinds of floats. -/
theorem wpList_fconv {P : Program} {ops : Array Oper} {rest : List Oper} {o : Oper} {a : Act} {w : World} {Q : Exit → Act → World → Prop} (hgd : Region.wanted o (yielded ops a.tmps) = true) (src dst : TypeId) (x : Operand) (ho : o.op = .convert src dst x)
    (s k : FloatKind) (p : Nat) (hx : a.eval x = .float s p) (hw : (Lit.float s p).wf = true) (hs : (P.underlying src).isSome = true) (hd : P.underlying dst = some (.float k))
    (h : ∀ r n, FConv s k p r → wpList P ops Q rest (a.put o.dst (.float k r)) (w.drewN n)) : wpList P ops Q (o :: rest) a w :=
  wpList_want hgd fun K hK => by
    obtain ⟨r, n, hr, hf⟩ := run_fconv (P := P) w src dst s k p hw hs hd
    have hK' := hK _ _ (h r n hf)
    have hr' : (convert src dst (a.eval x)).run P w = .ok (.float k r) (w.drewN n) := by rw [hx]; exact hr
    unfold Oper.wp execOp
    simp only [ho, Sem.run_bind, Sem.run_pure, Result.andThen_ok, hr']
    exact hK'

/-- A float cut towards zero to an integer, where it fits. -/
def FInt (s : FloatKind) (k : IntKind) (a : Nat) (r : Int) : Prop := (∀ n, floatToIntVal s a k = some n → r = n) ∧ k.min ≤ r ∧ r ≤ k.max

end Go.Proofs.YtogliigpoojfoaaDoor.Fl
