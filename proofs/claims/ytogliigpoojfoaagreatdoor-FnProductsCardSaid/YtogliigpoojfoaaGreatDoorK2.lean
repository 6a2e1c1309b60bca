/-
  Several texts of this claim in one.
  Laws of floating point for the walk: each operation on two numbers gives, up to which not-a-number it is, what 'fop' says of the operands; a draw may lie behind it.
  Bounds of floating point: where exact results lie below a power of two, the words that stand for them do so, too.
  The values of floating point as whole numbers of the least unit: what a word is worth, that rounding goes upwards with what is rounded, and that numbers which a format has are rounded to themselves.
  More on the values of floating point: signs and magnitudes of words, comparisons, and the way from the 32-bit numbers to the 64-bit ones.
-/
import Derived.WalkKit
import Derived.WalkSpells
import Derived.WalkLawsBesides
import Derived.Deep.Draws
section
namespace Go.Proofs.YtogliigpoojfoaaGreatDoor.Fl
set_option maxRecDepth 100000
open Go

section
variable (P : Program) (w : World) (a : Addr) (m : Mode)
@[go_sem] theorem run_store_float (k : FloatKind) (b : Nat) : (store a (.float k b) m).run P w = stored P w a (.float k b) m := run_store P w a _ m rfl
@[go_sem] theorem run_store_complex (k : FloatKind) (b c : Nat) : (store a (.complex k b c) m).run P w = stored P w a (.complex k b c) m := run_store P w a _ m rfl
end

theorem word_read (f : Ieee.Format) (neg : Bool) {rung : Nat} (h : rung ≤ f.infRung) : (f.read (f.word neg rung)).isNaN = false := by
  have hlt := f.infRung_lt
  have hs : 0 < f.signWeight := by omega
  have e : f.word neg rung % f.signWeight = rung := by
    unfold Ieee.Format.word
    split
    · rw [Nat.add_mod_left]; exact Nat.mod_eq_of_lt (by omega)
    · exact Nat.mod_eq_of_lt (by omega)
  unfold Ieee.Format.read
  simp only [e]
  split
  · rfl
  · split
    · rfl
    · rw [if_pos (by omega)]; rfl

theorem nearest_read (f : Ieee.Format) (neg : Bool) (mag : Nat) (place : Int) : (f.read (f.nearest neg mag place)).isNaN = false := by
  unfold Ieee.Format.nearest
  split
  · exact word_read f neg (Nat.zero_le _)
  · dsimp only
    exact word_read f neg (Nat.min_le_right ..)

theorem write_read (f : Ieee.Format) (d : Ieee.Datum) (h : d.isNaN = false) : (f.read (f.write d)).isNaN = false := by
  cases d with
  | number neg mag place => exact nearest_read f neg mag place
  | infinity neg => exact word_read f neg (Nat.le_refl _)
  | nan neg fraction => cases h

theorem sum_nan {x y z : Ieee.Datum} (h : x.sum y = some z) : x.isNaN = false ∧ y.isNaN = false ∧ z.isNaN = false := by
  cases x <;> cases y <;> simp only [Ieee.Datum.sum] at h <;> first | (cases h; exact ⟨rfl, rfl, rfl⟩) | (cases h; done) | skip
  split at h
  · cases h; exact ⟨rfl, rfl, rfl⟩
  · cases h
theorem product_nan {x y z : Ieee.Datum} (h : x.product y = some z) : x.isNaN = false ∧ y.isNaN = false ∧ z.isNaN = false := by
  cases x <;> cases y <;> simp only [Ieee.Datum.product] at h <;> first | (cases h; exact ⟨rfl, rfl, rfl⟩) | (cases h; done) | skip
  all_goals
    split at h
    · cases h
    · cases h; exact ⟨rfl, rfl, rfl⟩
theorem quotient_nan {n : Nat} {x y z : Ieee.Datum} (h : x.quotient n y = some z) : x.isNaN = false ∧ y.isNaN = false ∧ z.isNaN = false := by
  cases x <;> cases y <;> simp only [Ieee.Datum.quotient] at h <;> first | (cases h; exact ⟨rfl, rfl, rfl⟩) | (cases h; done) | skip
  split at h
  · split at h
    · cases h
    · cases h; exact ⟨rfl, rfl, rfl⟩
  · cases h; exact ⟨rfl, rfl, rfl⟩
theorem root_nan {n : Nat} {x z : Ieee.Datum} (h : x.root n = some z) : x.isNaN = false ∧ z.isNaN = false := by
  cases x <;> simp only [Ieee.Datum.root] at h <;> first | (cases h; done) | skip
  · split at h
    · cases h; exact ⟨rfl, rfl⟩
    · split at h
      · cases h
      · cases h; exact ⟨rfl, rfl⟩
  · split at h
    · cases h
    · cases h; exact ⟨rfl, rfl⟩
theorem opposite_nan (x : Ieee.Datum) : x.opposite.isNaN = x.isNaN := by cases x <;> rfl

/-- What a word means: nothing where it is a not-a-number. -/
def mean (k : FloatKind) (b : Nat) : Option Nat := if (k.decode b).isNaN then none else some b

theorem mean_some {k : FloatKind} {b c : Nat} (h : mean k b = some c) : b = c ∧ (k.decode b).isNaN = false := by
  unfold mean at h
  split at h
  · cases h
  · rename_i hn; cases h; exact ⟨rfl, by simpa using hn⟩
theorem mean_of {k : FloatKind} {b : Nat} (h : (k.decode b).isNaN = false) : mean k b = some b := by simp [mean, h]
theorem mean_nan {k : FloatKind} {b : Nat} (h : (k.decode b).isNaN = true) : mean k b = none := by simp [mean, h]

/-- An operation on what words mean. -/
def fop (op : BinOp) (k : FloatKind) (x y : Option Nat) : Option Nat := x.bind fun a => y.bind fun b => floatBits op k a b

theorem map_write {f : Ieee.Format} {d : Option Ieee.Datum} {r : Nat} (h : d.map f.write = some r) : ∃ z, d = some z ∧ r = f.write z := by
  cases d with
  | none => cases h
  | some z => cases h; exact ⟨z, rfl, rfl⟩

theorem floatBits_nan {op : BinOp} {k : FloatKind} {a b r : Nat} (h : floatBits op k a b = some r) : (k.decode a).isNaN = false ∧ (k.decode b).isNaN = false ∧ (k.decode r).isNaN = false := by
  unfold floatBits at h
  split at h
  · obtain ⟨z, hz, rfl⟩ := map_write h; have := sum_nan hz; exact ⟨this.1, this.2.1, write_read _ _ this.2.2⟩
  · obtain ⟨z, hz, rfl⟩ := map_write h; have := sum_nan hz; exact ⟨this.1, by rw [opposite_nan] at this; exact this.2.1, write_read _ _ this.2.2⟩
  · obtain ⟨z, hz, rfl⟩ := map_write h; have := product_nan hz; exact ⟨this.1, this.2.1, write_read _ _ this.2.2⟩
  · obtain ⟨z, hz, rfl⟩ := map_write h; have := quotient_nan hz; exact ⟨this.1, this.2.1, write_read _ _ this.2.2⟩
  · cases h

/-- 'r' is what an operation gives, up to which not-a-number it is. -/
def FRes (op : BinOp) (k : FloatKind) (a b r : Nat) : Prop := mean k r = fop op k (mean k a) (mean k b) ∧ (Lit.float k r).wf = true

theorem nan_cut32 (t : Nat) : (FloatKind.f32.decode ((t % 2) * 2 ^ 31 + 0x7f800000 + 1 + (t / 2) % (2 ^ 23 - 1))).isNaN = true ∧ (t % 2) * 2 ^ 31 + 0x7f800000 + 1 + (t / 2) % (2 ^ 23 - 1) < 2 ^ 32 := by
  generalize ht : (t / 2) % (2 ^ 23 - 1) = q
  have hq : q < 8388607 := by rw [← ht]; exact Nat.mod_lt _ (by decide)
  have h2 : t % 2 = 0 ∨ t % 2 = 1 := by omega
  constructor
  · have e : ((t % 2) * 2 ^ 31 + 0x7f800000 + 1 + q) % 2147483648 = 0x7f800001 + q := by rcases h2 with h | h <;> rw [h] <;> omega
    show (Ieee.single.read _).isNaN = true
    unfold Ieee.Format.read
    have sw : Ieee.single.signWeight = 2147483648 := rfl
    have ir : Ieee.single.infRung = 0x7f800000 := rfl
    have bi : Ieee.single.binade = 8388608 := rfl
    simp only [sw, ir, bi, e]
    rw [if_neg (by omega), if_neg (by omega), if_neg (by omega)]
    rfl
  · rcases h2 with h | h <;> rw [h] <;> omega
theorem nan_cut64 (t : Nat) : (FloatKind.f64.decode ((t % 2) * 2 ^ 63 + 0x7ff0000000000000 + 1 + (t / 2) % (2 ^ 52 - 1))).isNaN = true ∧ (t % 2) * 2 ^ 63 + 0x7ff0000000000000 + 1 + (t / 2) % (2 ^ 52 - 1) < 2 ^ 64 := by
  generalize ht : (t / 2) % (2 ^ 52 - 1) = q
  have hq : q < 4503599627370495 := by rw [← ht]; exact Nat.mod_lt _ (by decide)
  have h2 : t % 2 = 0 ∨ t % 2 = 1 := by omega
  constructor
  · have e : ((t % 2) * 2 ^ 63 + 0x7ff0000000000000 + 1 + q) % 9223372036854775808 = 0x7ff0000000000001 + q := by rcases h2 with h | h <;> rw [h] <;> omega
    show (Ieee.double.read _).isNaN = true
    unfold Ieee.Format.read
    have sw : Ieee.double.signWeight = 9223372036854775808 := rfl
    have ir : Ieee.double.infRung = 0x7ff0000000000000 := rfl
    have bi : Ieee.double.binade = 4503599627370496 := rfl
    simp only [sw, ir, bi, e]
    rw [if_neg (by omega), if_neg (by omega), if_neg (by omega)]
    rfl
  · rcases h2 with h | h <;> rw [h] <;> omega

theorem nanBits_cut (k : FloatKind) (x y t : Nat) : mean k ((Question.nanBits k x y).cut t) = none ∧ (Lit.float k ((Question.nanBits k x y).cut t)).wf = true := by
  cases k
  · exact ⟨mean_nan (nan_cut32 t).1, wf_of_lt _ _ (nan_cut32 t).2⟩
  · exact ⟨mean_nan (nan_cut64 t).1, wf_of_lt _ _ (nan_cut64 t).2⟩
theorem nanConv_cut (k : FloatKind) (x t : Nat) : mean k ((Question.nanConv k x).cut t) = none ∧ (Lit.float k ((Question.nanConv k x).cut t)).wf = true := by
  cases k
  · exact ⟨mean_nan (nan_cut32 t).1, wf_of_lt _ _ (nan_cut32 t).2⟩
  · exact ⟨mean_nan (nan_cut64 t).1, wf_of_lt _ _ (nan_cut64 t).2⟩

theorem fop_none {op : BinOp} {k : FloatKind} {a b : Nat} (h : floatBits op k a b = none) : fop op k (mean k a) (mean k b) = none := by
  unfold mean fop
  split
  · rfl
  · split
    · rfl
    · exact h
theorem fop_some {op : BinOp} {k : FloatKind} {a b r : Nat} (h : floatBits op k a b = some r) : fop op k (mean k a) (mean k b) = some r ∧ mean k r = some r := by
  obtain ⟨ha, hb, hr⟩ := floatBits_nan h
  rw [mean_of ha, mean_of hb, mean_of hr]
  exact ⟨h, rfl⟩

def isArith : BinOp → Bool
  | .add | .sub | .mul | .quo => true
  | _ => false

section
variable {P : Program} (w : World)
theorem run_floatArith_none {op : BinOp} (ho : isArith op = true) {k : FloatKind} {x y : Nat} (h : floatBits op k x y = none) :
    (Op.floatArith op k x y).run P w = .ok (.float k ((Question.nanBits k x y).cut (w.tape w.drawn (.nanBits k x y)))) (w.drewN 1) := by
  unfold floatBits at h
  cases op <;> simp only [isArith] at ho <;> first | (cases ho; done) | skip
  all_goals
    simp only at h
    simp [Op.floatArith, h, Question.forced]
    rfl

theorem run_float (op : BinOp) (ho : isArith op = true) (t : TypeId) (k : FloatKind) (a b : Nat) :
    ∃ r n, (binOp op t (.float k a) (.float k b)).run P w = .ok (.float k r) (w.drewN n) ∧ FRes op k a b r := by
  cases h : floatBits op k a b with
  | some r => exact ⟨r, 0, run_float_arith w op t k a b r h, by rw [FRes, (fop_some h).1, (fop_some h).2]; exact ⟨rfl, floatBits_wf h⟩⟩
  | none =>
    refine ⟨(Question.nanBits k a b).cut (w.tape w.drawn (.nanBits k a b)), 1, ?_, ?_⟩
    · have e := run_floatArith_none (P := P) w ho h
      cases op <;> simp only [isArith] at ho <;> first | (cases ho; done) | skip
      all_goals simpa [binOp] using e
    · rw [FRes, fop_none h]; exact nanBits_cut ..
end

theorem wpList_want {P : Program} {ops : Array Oper} {rest : List Oper} {o : Oper} {a : Act} {w : World} {Q : Exit → Act → World → Prop} (hg : Region.wanted o (yielded ops a.tmps) = true)
    (h : ∀ K : Act → World → Prop, (∀ a w, wpList P ops Q rest a w → K a w) → o.wp P a w K Q) : wpList P ops Q (o :: rest) a w :=
  wpList_step fun K hK => by rw [if_pos hg]; exact h K hK

/-- THE WALK's LAW: '+', '-', '*', '/' on two floats. -/
theorem wpList_float {P : Program} {ops : Array Oper} {rest : List Oper} {o : Oper} {a : Act} {w : World} {Q : Exit → Act → World → Prop} (hgd : Region.wanted o (yielded ops a.tmps) = true) (op : BinOp) (tx ty : TypeId) (x y : Operand) (ho : o.op = .binOp op tx x y ty)
    (har : isArith op = true) (k : FloatKind) (p q : Nat) (hx : a.eval x = .float k p) (hy : a.eval y = .float k q)
    (h : ∀ r n, FRes op k p q r → wpList P ops Q rest (a.put o.dst (.float k r)) (w.drewN n)) : wpList P ops Q (o :: rest) a w :=
  wpList_want hgd fun K hK => by
    obtain ⟨r, n, hr, hf⟩ := run_float (P := P) w op har tx k p q
    have hK' := hK _ _ (h r n hf)
    have hr' : (binOp op tx (a.eval x) (a.eval y)).run P w = .ok (.float k r) (w.drewN n) := by rw [hx, hy]; exact hr
    have heq : (eqGuard op tx x y (a.eval x) (a.eval y)).run P w = .ok () w := by
      cases op <;> simp only [isArith] at har <;> first | (cases har; done) | rfl
    unfold Oper.wp execOp
    simp only [ho, Sem.run_bind, Sem.run_pure, Result.andThen_ok, heq, hr']
    exact hK'

/-- The square root of what a word means. -/
def fsqrt (x : Option Nat) : Option Nat := x.bind fun a => FloatKind.f64.format.sqrt a
def FSqrt (a r : Nat) : Prop := mean .f64 r = fsqrt (mean .f64 a) ∧ (Lit.float .f64 r).wf = true

theorem sqrt_eq (a : Nat) : Extern.MathSqrt.sqrt #[.float .f64 a] = (match FloatKind.f64.format.sqrt a with
    | some r => (Pure.pure (Value.float .f64 r) : Sem Value)
    | none => (choose (.nanBits .f64 a a)).bind fun n => Pure.pure (Value.float .f64 n)) := rfl
theorem encode_read (k : FloatKind) (d : Ieee.Datum) (h : d.isNaN = false) : (k.decode (k.encode d)).isNaN = false := write_read k.format d h

theorem run_sqrt {P : Program} (w : World) (a : Nat) : ∃ r n, (Extern.MathSqrt.sqrt #[.float .f64 a]).run P w = .ok (.float .f64 r) (w.drewN n) ∧ FSqrt a r := by
  cases h : FloatKind.f64.format.sqrt a with
  | some r =>
    refine ⟨r, 0, by rw [sqrt_eq, h]; rfl, ?_⟩
    have h' := h
    obtain ⟨z, hz, rfl⟩ := map_write h'
    have hn := root_nan hz
    rw [FSqrt, fsqrt, mean_of (k := .f64) hn.1, mean_of (k := .f64) (write_read _ _ hn.2)]
    exact ⟨h.symm, wf_of_lt _ _ (FloatKind.f64.format.sqrt_lt h)⟩
  | none =>
    refine ⟨(Question.nanBits .f64 a a).cut (w.tape w.drawn (.nanBits .f64 a a)), 1, ?_, ?_⟩
    · rw [sqrt_eq, h]; rfl
    · have hm : fsqrt (mean .f64 a) = none := by
        unfold mean fsqrt
        split
        · rfl
        · exact h
      rw [FSqrt, hm]; exact nanBits_cut ..

/-- What a conversion between two kinds of floats means, where it fits. -/
def fconv (s k : FloatKind) (x : Option Nat) : Option Nat := x.map fun a => if s = k then a else k.encode (s.decode a)
/-- A number that is too great for the kind becomes whatever number; otherwise the conversion is the nearest one. -/
def fits (s k : FloatKind) (a : Nat) : Bool := s = k || (match s.decode a with | .number sg m e => !(k.decode (k.encode (.number sg m e))).isInfinity | _ => true)
def FConv (s k : FloatKind) (a r : Nat) : Prop := (fits s k a = true → mean k r = fconv s k (mean s a)) ∧ (Lit.float k r).wf = true

theorem floatToFloat_cut (k : FloatKind) (b t : Nat) : (Lit.float k ((Question.floatToFloat b).cut t)).wf = true := by
  have h : t % 2 ^ 32 < 2 ^ 32 := Nat.mod_lt _ (by decide)
  cases k
  · exact wf_of_lt _ _ h
  · exact wf_of_lt _ _ (Nat.lt_trans h (by decide))

theorem run_fconv {P : Program} (w : World) (src dst : TypeId) (s k : FloatKind) (a : Nat) (hw : (Lit.float s a).wf = true) (hs : (P.underlying src).isSome = true) (hd : P.underlying dst = some (.float k)) :
    ∃ r n, (convert src dst (.float s a)).run P w = .ok (.float k r) (w.drewN n) ∧ FConv s k a r := by
  cases h : floatToFloatBits s a k with
  | some r =>
    refine ⟨r, 0, run_convert_float_float w src dst s k a r hs hd h, fun _ => ?_, floatToFloatBits_wf hw h⟩
    unfold floatToFloatBits at h
    split at h
    · rename_i e; subst e; cases h
      unfold fconv
      cases hm : mean s a <;> simp
    · rename_i ne
      split at h
      · cases h
      · rename_i sg he; cases h
        rw [mean_of (k := s) (by rw [he]; rfl), mean_of (k := k) (encode_read _ _ rfl)]
        simp [fconv, ne, he]
      · rename_i sg m e he
        split at h
        · cases h
        · cases h
          rw [mean_of (k := s) (by rw [he]; rfl), mean_of (k := k) (encode_read _ _ rfl)]
          simp [fconv, ne, he]
  | none =>
    obtain ⟨u, hs'⟩ := Option.isSome_iff_exists.1 hs
    unfold floatToFloatBits at h
    split at h
    · cases h
    · rename_i ne
      split at h
      · rename_i sg fr he
        refine ⟨(Question.nanConv k a).cut (w.tape w.drawn (.nanConv k a)), 1, ?_, fun _ => ?_, (nanConv_cut ..).2⟩
        · cases u <;> simp [convert, run_underlying hs', run_underlying hd, Conv.floatToFloat, ne, he, Question.forced] <;> rfl
        · rw [(nanConv_cut ..).1, mean_nan (k := s) (by rw [he]; rfl)]; rfl
      · cases h
      · rename_i sg m e he
        split at h
        · rename_i hi
          refine ⟨(Question.floatToFloat a).cut (w.tape w.drawn (.floatToFloat a)), 1, ?_, fun hf => ?_, floatToFloat_cut ..⟩
          · cases u <;> simp [convert, run_underlying hs', run_underlying hd, Conv.floatToFloat, ne, he, hi, Question.forced] <;> rfl
          · exfalso
            have : fits s k a = false := by simp [fits, ne, he, hi]
            rw [this] at hf; cases hf
        · cases h

theorem run_ftf {P : Program} (w : World) (s k : FloatKind) (a : Nat) (hw : (Lit.float s a).wf = true) :
    ∃ r n, (Conv.floatToFloat s a k).run P w = .ok (.float k r) (w.drewN n) ∧ FConv s k a r := by
  cases h : floatToFloatBits s a k with
  | some r =>
    refine ⟨r, 0, run_floatToFloat w h, fun _ => ?_, floatToFloatBits_wf hw h⟩
    unfold floatToFloatBits at h
    split at h
    · rename_i e; subst e; cases h
      unfold fconv
      cases hm : mean s a <;> simp
    · rename_i ne
      split at h
      · cases h
      · rename_i sg he; cases h
        rw [mean_of (k := s) (by rw [he]; rfl), mean_of (k := k) (encode_read _ _ rfl)]
        simp [fconv, ne, he]
      · rename_i sg m e he
        split at h
        · cases h
        · cases h
          rw [mean_of (k := s) (by rw [he]; rfl), mean_of (k := k) (encode_read _ _ rfl)]
          simp [fconv, ne, he]
  | none =>
    unfold floatToFloatBits at h
    split at h
    · cases h
    · rename_i ne
      split at h
      · rename_i sg fr he
        refine ⟨(Question.nanConv k a).cut (w.tape w.drawn (.nanConv k a)), 1, ?_, fun _ => ?_, (nanConv_cut ..).2⟩
        · simp [Conv.floatToFloat, ne, he, Question.forced]; rfl
        · rw [(nanConv_cut ..).1, mean_nan (k := s) (by rw [he]; rfl)]; rfl
      · cases h
      · rename_i sg m e he
        split at h
        · rename_i hi
          refine ⟨(Question.floatToFloat a).cut (w.tape w.drawn (.floatToFloat a)), 1, ?_, fun hf => ?_, floatToFloat_cut ..⟩
          · simp [Conv.floatToFloat, ne, he, hi, Question.forced]; rfl
          · exfalso
            have : fits s k a = false := by simp [fits, ne, he, hi]
            rw [this] at hf; cases hf
        · cases h

/-- THE WALK's LAW: a conversion between two kinds of floats. -/
theorem wpList_fconv {P : Program} {ops : Array Oper} {rest : List Oper} {o : Oper} {a : Act} {w : World} {Q : Exit → Act → World → Prop} (hgd : Region.wanted o (yielded ops a.tmps) = true) (src dst : TypeId) (x : Operand) (ho : o.op = .convert src dst x)
    (s k : FloatKind) (p : Nat) (hx : a.eval x = .float s p) (hw : (Lit.float s p).wf = true) (hs : (P.underlying src).isSome = true) (hd : P.underlying dst = some (.float k))
    (h : ∀ r n, FConv s k p r → wpList P ops Q rest (a.put o.dst (.float k r)) (w.drewN n)) : wpList P ops Q (o :: rest) a w :=
  wpList_want hgd fun K hK => by
    obtain ⟨r, n, hr, hf⟩ := run_fconv (P := P) w src dst s k p hw hs hd
    have hK' := hK _ _ (h r n hf)
    have hr' : (convert src dst (a.eval x)).run P w = .ok (.float k r) (w.drewN n) := by rw [hx]; exact hr
    unfold Oper.wp execOp
    simp only [ho, Sem.run_bind, Sem.run_pure, Result.andThen_ok, hr']
    exact hK'

/-- A float cut towards zero to an integer, where it fits. -/
def FInt (s : FloatKind) (k : IntKind) (a : Nat) (r : Int) : Prop := (∀ n, floatToIntVal s a k = some n → r = n) ∧ k.min ≤ r ∧ r ≤ k.max

end Go.Proofs.YtogliigpoojfoaaGreatDoor.Fl
end

section
namespace Go.Proofs.YtogliigpoojfoaaGreatDoor.Fl
set_option maxRecDepth 100000
open Go

theorem log2_lt {n e : Nat} (h : n.log2 < e) : n < 2 ^ e := by
  by_cases h0 : n = 0
  · subst h0; exact Nat.two_pow_pos _
  · exact (Nat.log2_lt h0).1 h
theorem log2_le_of {n e : Nat} (h : n < 2 ^ (e + 1)) : n.log2 ≤ e := by
  by_cases h0 : n = 0
  · subst h0; simp
  · have := (Nat.log2_lt h0).2 h; omega

theorem cut_even_le (neg : Bool) (n drop : Nat) : Ieee.Toward.even.cut neg n drop ≤ n / 2 ^ (min drop (n.log2 + 2)) + 1 := by
  unfold Ieee.Toward.cut
  simp only [Nat.shiftLeft_eq, Nat.one_mul]
  have h : ∀ b : Bool, b.toNat ≤ 1 := by intro b; cases b <;> decide
  exact Nat.add_le_add_left (h _) _

theorem cut_zero (neg : Bool) (n : Nat) : Ieee.Toward.even.cut neg n 0 = n := by
  unfold Ieee.Toward.cut
  simp [Nat.shiftLeft_eq, Nat.mod_one]

/-- The rung of 2 to the power of e. -/
def top (f : Ieee.Format) (e : Int) : Nat := (e + 1 - f.fractionBits - f.leastPlace).toNat * f.binade

theorem kept_le (f : Ieee.Format) (neg : Bool) (mag : Nat) (place last : Int) (h1 : place + mag.log2 - f.fractionBits ≤ last) :
    Ieee.Toward.even.cut neg (mag <<< (place - last).toNat) (last - place).toNat ≤ 2 ^ (f.fractionBits + 1) := by
  by_cases hp : last ≤ place
  · have e0 : (last - place).toNat = 0 := by omega
    rw [e0, cut_zero, Nat.shiftLeft_eq]
    have hm : mag < 2 ^ (mag.log2 + 1) := Nat.lt_log2_self
    have := Nat.mul_le_mul_right (2 ^ (place - last).toNat) (Nat.le_of_lt hm)
    refine Nat.le_trans this ?_
    rw [← Nat.pow_add]
    exact Nat.pow_le_pow_right (by decide) (by omega)
  · have e0 : (place - last).toNat = 0 := by omega
    rw [e0, Nat.shiftLeft_zero]
    refine Nat.le_trans (cut_even_le neg mag _) ?_
    have hm : mag < 2 ^ (mag.log2 + 1) := Nat.lt_log2_self
    by_cases hd : (last - place).toNat ≤ mag.log2 + 1
    · have em : min (last - place).toNat (mag.log2 + 2) = (last - place).toNat := by omega
      rw [em]
      have : mag / 2 ^ (last - place).toNat < 2 ^ (f.fractionBits + 1) := by
        rw [Nat.div_lt_iff_lt_mul (Nat.two_pow_pos _), ← Nat.pow_add]
        exact Nat.lt_of_lt_of_le hm (Nat.pow_le_pow_right (by decide) (by omega))
      omega
    · have hz : mag / 2 ^ (min (last - place).toNat (mag.log2 + 2)) = 0 := by
        apply Nat.div_eq_of_lt
        exact Nat.lt_of_lt_of_le hm (Nat.pow_le_pow_right (by decide) (by omega))
      rw [hz]
      have : 1 ≤ 2 ^ (f.fractionBits + 1) := Nat.one_le_two_pow
      omega

theorem nearest_bound (f : Ieee.Format) (neg : Bool) (mag : Nat) (place e : Int) (hm : mag ≠ 0 → place + mag.log2 < e) (he : f.leastPlace + f.fractionBits + 1 ≤ e) :
    ∃ r, f.nearest neg mag place = f.word neg r ∧ r ≤ top f e := by
  unfold Ieee.Format.nearest
  split
  · exact ⟨0, rfl, Nat.zero_le _⟩
  · rename_i h0
    dsimp only
    have hp := hm h0
    generalize hl : max (place + mag.log2 - f.fractionBits) f.leastPlace = last
    have h1 : place + mag.log2 - f.fractionBits ≤ last := by omega
    have h2 : last ≤ e - 1 - f.fractionBits := by omega
    have h3 : f.leastPlace ≤ last := by omega
    refine ⟨_, rfl, ?_⟩
    have hk := kept_le f neg mag place last h1
    refine Nat.le_trans (Nat.min_le_left ..) ?_
    unfold top
    have hb : 2 ^ (f.fractionBits + 1) = 2 * f.binade := by unfold Ieee.Format.binade; rw [Nat.pow_succ, Nat.mul_comm]
    rw [hb] at hk
    have hq : (last - f.leastPlace).toNat + 2 ≤ (e + 1 - f.fractionBits - f.leastPlace).toNat := by omega
    have := Nat.mul_le_mul_right f.binade hq
    rw [Nat.add_mul] at this
    omega

theorem word_mod (f : Ieee.Format) (neg : Bool) {r : Nat} (h : r < f.signWeight) : f.word neg r % f.signWeight = r := by
  unfold Ieee.Format.word
  split
  · rw [Nat.add_mod_left]; exact Nat.mod_eq_of_lt h
  · exact Nat.mod_eq_of_lt h

/-- The absolute value is at most 2 to the power of e. -/
def Bd (k : FloatKind) (e : Int) (b : Nat) : Prop := b % k.format.signWeight ≤ top k.format e

theorem Bd.mono {k : FloatKind} {e e' : Int} {b : Nat} (h : Bd k e b) (he : e ≤ e') : Bd k e' b := by
  refine Nat.le_trans h ?_
  unfold top
  exact Nat.mul_le_mul_right _ (by omega)

theorem top_lt (f : Ieee.Format) (e : Int) (h : e + 1 - f.fractionBits - f.leastPlace < (2 : Int) ^ f.exponentBits - 1) (h0 : 0 ≤ e + 1 - f.fractionBits - f.leastPlace) : top f e < f.infRung := by
  unfold top Ieee.Format.infRung
  have hb : 0 < f.binade := Nat.two_pow_pos _
  apply Nat.mul_lt_mul_of_pos_right _ hb
  have h1 : 1 ≤ 2 ^ f.exponentBits := Nat.one_le_two_pow
  have : (((2 ^ f.exponentBits - 1 : Nat)) : Int) = (2 : Int) ^ f.exponentBits - 1 := by
    rw [Int.natCast_sub h1]; simp
  omega

/-- What a word of at most 2 to the power of e stands for. -/
theorem Bd.read {k : FloatKind} {e : Int} {b : Nat} (h : Bd k e b) (h0 : k.format.leastPlace + k.format.fractionBits ≤ e) (h1 : top k.format e < k.format.infRung) :
    ∃ s m p, k.decode b = .number s m p ∧ (m ≠ 0 → p + m.log2 ≤ e) ∧ k.format.leastPlace ≤ p ∧ m < 2 ^ (k.format.fractionBits + 1) := by
  unfold Bd at h
  unfold FloatKind.decode Ieee.Format.read
  generalize hr : b % k.format.signWeight = r at h
  generalize hf : k.format = f at *
  dsimp only
  have hb : f.binade = 2 ^ f.fractionBits := rfl
  have hbp : 0 < f.binade := Nat.two_pow_pos _
  split
  · rename_i hlt
    refine ⟨_, _, _, rfl, fun hm => ?_, Int.le_refl _, ?_⟩
    · have : r.log2 < f.fractionBits := (Nat.log2_lt hm).2 (by omega)
      omega
    · rw [Nat.pow_succ, ← hb]; omega
  · rename_i hge
    rw [if_pos (by omega)]
    have hmod := Nat.mod_lt r hbp
    refine ⟨_, _, _, rfl, fun _ => ?_, by omega, by rw [Nat.pow_succ, ← hb]; omega⟩
    have hl : (f.binade + r % f.binade).log2 ≤ f.fractionBits := log2_le_of (by rw [Nat.pow_succ, ← hb]; omega)
    have hd : r / f.binade ≤ (e + 1 - f.fractionBits - f.leastPlace).toNat := by
      refine Nat.div_le_of_le_mul ?_
      rw [Nat.mul_comm]; exact h
    have hd1 : 1 ≤ r / f.binade := by rw [Nat.le_div_iff_mul_le hbp]; omega
    omega

theorem finite_of_rung {k : FloatKind} {neg : Bool} {r : Nat} (h : r < k.format.infRung) : (k.decode (k.format.word neg r)).isInfinity = false := by
  have hlt := k.format.infRung_lt
  unfold FloatKind.decode Ieee.Format.read
  dsimp only
  rw [word_mod _ _ (by omega)]
  split
  all_goals first | rfl | (rw [if_pos h]; rfl)

theorem Bd.of_nearest {k : FloatKind} {neg : Bool} {mag : Nat} {place e : Int} (hm : mag ≠ 0 → place + mag.log2 < e) (he : k.format.leastPlace + k.format.fractionBits + 1 ≤ e) (h1 : top k.format e < k.format.infRung) :
    Bd k e (k.encode (.number neg mag place)) := by
  obtain ⟨r, hr, hle⟩ := nearest_bound k.format neg mag place e hm he
  have hlt := k.format.infRung_lt
  show k.format.nearest neg mag place % _ ≤ _
  rw [hr, word_mod _ _ (by omega)]
  exact hle

theorem not_inf_of_nearest {k : FloatKind} {neg : Bool} {mag : Nat} {place e : Int} (hm : mag ≠ 0 → place + mag.log2 < e) (he : k.format.leastPlace + k.format.fractionBits + 1 ≤ e) (h1 : top k.format e < k.format.infRung) :
    (k.decode (k.encode (.number neg mag place))).isInfinity = false := by
  obtain ⟨r, hr, hle⟩ := nearest_bound k.format neg mag place e hm he
  show (k.decode (k.format.nearest neg mag place)).isInfinity = false
  rw [hr]
  exact finite_of_rung (by omega)

/-- A 64-bit number of at most 2 to the power of 126 fits the 32-bit ones. -/
theorem fits_of_bd {b : Nat} (h : Bd .f64 126 b) : fits .f64 .f32 b = true := by
  obtain ⟨s, m, p, he, hm, -, -⟩ := h.read (by decide) (by decide)
  have := not_inf_of_nearest (k := .f32) (neg := s) (mag := m) (place := p) (e := 127) (fun h => by have := hm h; omega) (by decide) (by decide)
  unfold fits
  rw [he]; simp [this]

theorem single_number {b : Nat} {s : Bool} {m : Nat} {p : Int} (h : FloatKind.f32.decode b = .number s m p) : (m ≠ 0 → p + m.log2 ≤ 127) := by
  unfold FloatKind.decode Ieee.Format.read at h
  dsimp only at h
  have bi : FloatKind.f32.format.binade = 8388608 := rfl
  have ir : FloatKind.f32.format.infRung = 2139095040 := rfl
  have lp : FloatKind.f32.format.leastPlace = -149 := rfl
  rw [bi, ir, lp] at h
  generalize b % FloatKind.f32.format.signWeight = r at h
  split at h
  · rename_i hlt
    cases h
    intro hm
    have : m.log2 < 23 := (Nat.log2_lt hm).2 (by omega)
    omega
  · split at h
    · cases h
      intro hm
      have : (8388608 + r % 8388608).log2 < 24 := (Nat.log2_lt hm).2 (by omega)
      omega
    · split at h <;> cases h

/-- Every 32-bit number fits the 64-bit ones. -/
theorem fits_wide (b : Nat) : fits .f32 .f64 b = true := by
  unfold fits
  cases h : FloatKind.f32.decode b with
  | number s m p =>
    have := not_inf_of_nearest (k := .f64) (neg := s) (mag := m) (place := p) (e := 128) (fun hm => by have := single_number h hm; omega) (by decide) (by decide)
    simp [this]
  | infinity s => simp
  | nan s t => simp

end Go.Proofs.YtogliigpoojfoaaGreatDoor.Fl
end

section
namespace Go.Proofs.YtogliigpoojfoaaGreatDoor.Fl
set_option maxRecDepth 100000
open Go

/-- What a rung is worth, in least units. -/
def V (f : Ieee.Format) (r : Nat) : Nat := if r < f.binade then r else (f.binade + r % f.binade) * 2 ^ (r / f.binade - 1)

theorem V_small {f : Ieee.Format} {r : Nat} (h : r < f.binade) : V f r = r := if_pos h

/-- A finite word, read. -/
theorem read_word (f : Ieee.Format) (neg : Bool) {r : Nat} (h : r < f.infRung) :
    ∃ m p, f.read (f.word neg r) = .number neg m p ∧ f.leastPlace ≤ p ∧ m * 2 ^ (p - f.leastPlace).toNat = V f r ∧ m < 2 ^ (f.fractionBits + 1) := by
  have hlt := f.infRung_lt
  have hbp : 0 < f.binade := Nat.two_pow_pos _
  have hb : f.binade = 2 ^ f.fractionBits := rfl
  have hn : (f.word neg r / f.signWeight % 2 == 1) = neg := by
    unfold Ieee.Format.word
    have hs : 0 < f.signWeight := by omega
    cases neg
    · simp only [Bool.false_eq_true, if_false]; rw [Nat.div_eq_of_lt (by omega)]; rfl
    · simp only [if_true]; rw [Nat.add_div_left _ hs, Nat.div_eq_of_lt (by omega)]; rfl
  unfold Ieee.Format.read V
  dsimp only
  rw [word_mod _ _ (by omega), hn]
  split
  · rename_i h1
    exact ⟨_, _, rfl, Int.le_refl _, by simp, by rw [Nat.pow_succ, ← hb]; omega⟩
  · first | rw [if_pos h] | skip
    have hmod := Nat.mod_lt r hbp
    refine ⟨_, _, rfl, by omega, ?_, by rw [Nat.pow_succ, ← hb]; omega⟩
    have : (f.leastPlace + ((r / f.binade - 1 : Nat) : Int) - f.leastPlace).toNat = r / f.binade - 1 := by omega
    rw [this]

theorem word_of (f : Ieee.Format) {b : Nat} (h : b < 2 * f.signWeight) : ∃ neg, b = f.word neg (b % f.signWeight) := by
  have hs : 0 < f.signWeight := Nat.two_pow_pos _
  by_cases h1 : b < f.signWeight
  · exact ⟨false, by simp [Ieee.Format.word, Nat.mod_eq_of_lt h1]⟩
  · refine ⟨true, ?_⟩
    have : b % f.signWeight = b - f.signWeight := by rw [Nat.mod_eq_sub_mod (by omega), Nat.mod_eq_of_lt (by omega)]
    simp only [Ieee.Format.word, if_true]; omega

theorem V_lt_succ (f : Ieee.Format) (r : Nat) : V f r < V f (r + 1) := by
  have hbp : 0 < f.binade := Nat.two_pow_pos _
  unfold V
  by_cases h1 : r + 1 < f.binade
  · rw [if_pos (by omega), if_pos h1]; omega
  · rw [if_neg h1]
    by_cases h2 : r < f.binade
    · have e : r + 1 = f.binade := by omega
      rw [if_pos h2, e, Nat.mod_self, Nat.div_self hbp]; simp; omega
    · rw [if_neg h2]
      have hmod := Nat.mod_lt r hbp
      have hdm := Nat.div_add_mod r f.binade
      have hd1 : 1 ≤ r / f.binade := by rw [Nat.le_div_iff_mul_le hbp]; omega
      by_cases h3 : r % f.binade + 1 < f.binade
      · have e1 : (r + 1) / f.binade = r / f.binade := by
          rw [← hdm, Nat.add_assoc, Nat.mul_add_div hbp, Nat.div_eq_of_lt h3, Nat.mul_add_div hbp, Nat.div_eq_of_lt hmod]
        have e2 : (r + 1) % f.binade = r % f.binade + 1 := by
          conv => lhs; rw [← hdm, Nat.add_assoc]
          rw [Nat.mul_add_mod, Nat.mod_eq_of_lt h3]
        rw [e1, e2]
        exact Nat.mul_lt_mul_of_pos_right (by omega) (Nat.two_pow_pos _)
      · have e3 : r % f.binade + 1 = f.binade := by omega
        have e1 : (r + 1) / f.binade = r / f.binade + 1 := by
          rw [← hdm, Nat.add_assoc, e3, Nat.mul_add_div hbp, Nat.div_self hbp, Nat.mul_add_div hbp, Nat.div_eq_of_lt hmod]
        have e2 : (r + 1) % f.binade = 0 := by
          rw [← hdm, Nat.add_assoc, e3, Nat.mul_add_mod, Nat.mod_self]
        rw [e1, e2]
        have e4 : 2 ^ (r / f.binade + 1 - 1) = 2 * 2 ^ (r / f.binade - 1) := by
          rw [← Nat.pow_succ']; congr 1; omega
        rw [e4, Nat.add_zero, ← Nat.mul_assoc]
        exact Nat.mul_lt_mul_of_pos_right (by omega) (Nat.two_pow_pos _)

theorem V_lt {f : Ieee.Format} {r q : Nat} (h : r < q) : V f r < V f q := by
  induction q with
  | zero => omega
  | succ q ih =>
    have := V_lt_succ f q
    by_cases e : r = q
    · subst e; exact this
    · exact Nat.lt_trans (ih (by omega)) this
theorem V_le {f : Ieee.Format} {r q : Nat} (h : r ≤ q) : V f r ≤ V f q := by
  by_cases e : r = q
  · subst e; exact Nat.le_refl _
  · exact Nat.le_of_lt (V_lt (by omega))
theorem V_lt_iff {f : Ieee.Format} {r q : Nat} : V f r < V f q ↔ r < q := by
  constructor
  · intro h
    by_cases e : r < q
    · exact e
    · have := V_le (f := f) (r := q) (q := r) (by omega); omega
  · exact V_lt
theorem V_inj {f : Ieee.Format} {r q : Nat} (h : V f r = V f q) : r = q := by
  by_cases h1 : r < q
  · have := V_lt (f := f) h1; omega
  · by_cases h2 : q < r
    · have := V_lt (f := f) h2; omega
    · omega

/-- The signed value of a word. -/
def sV (neg : Bool) (v : Nat) : Int := if neg then -(v : Int) else v

theorem shiftLeft_signed (neg : Bool) (m up : Nat) : Ieee.signed neg m up = sV neg (m * 2 ^ up) := by
  unfold Ieee.signed sV
  rw [Nat.shiftLeft_eq]

theorem order_number (s t : Bool) (m n : Nat) (i j lp : Int) (hi : lp ≤ i) (hj : lp ≤ j) :
    Ieee.Datum.order (.number s m i) (.number t n j) = some (compare (sV s (m * 2 ^ (i - lp).toNat)) (sV t (n * 2 ^ (j - lp).toNat))) := by
  unfold Ieee.Datum.order
  simp only [shiftLeft_signed]
  congr 1
  generalize hb : min i j = base
  have e1 : m * 2 ^ (i - lp).toNat = m * 2 ^ (i - base).toNat * 2 ^ (base - lp).toNat := by
    rw [Nat.mul_assoc, ← Nat.pow_add]; congr 2; omega
  have e2 : n * 2 ^ (j - lp).toNat = n * 2 ^ (j - base).toNat * 2 ^ (base - lp).toNat := by
    rw [Nat.mul_assoc, ← Nat.pow_add]; congr 2; omega
  rw [e1, e2]
  generalize m * 2 ^ (i - base).toNat = a
  generalize n * 2 ^ (j - base).toNat = b
  have hk : 0 < 2 ^ (base - lp).toNat := Nat.two_pow_pos _
  generalize 2 ^ (base - lp).toNat = k at hk
  have hs : ∀ (s : Bool) (a : Nat), sV s (a * k) = sV s a * (k : Int) := by
    intro s a; cases s
    · simp [sV]
    · simp [sV, Int.neg_mul]
  rw [hs, hs]
  have hk' : (0 : Int) < (k : Int) := by omega
  generalize sV s a = x
  generalize sV t b = y
  rw [Int.compare_eq_ite_lt, Int.compare_eq_ite_lt]
  by_cases h1 : x < y
  · rw [if_pos h1, if_pos (Int.mul_lt_mul_of_pos_right h1 hk')]
  · rw [if_neg h1]
    by_cases h2 : y < x
    · rw [if_pos h2, if_neg (by have := Int.mul_lt_mul_of_pos_right h2 hk'; omega), if_pos (Int.mul_lt_mul_of_pos_right h2 hk')]
    · have : x = y := by omega
      subst this; simp

/-- How two finite words stand to each other. -/
theorem order_word (f : Ieee.Format) (s t : Bool) {r q : Nat} (hr : r < f.infRung) (hq : q < f.infRung) :
    f.order (f.word s r) (f.word t q) = some (compare (sV s (V f r)) (sV t (V f q))) := by
  obtain ⟨m, p, e1, l1, v1, -⟩ := read_word f s hr
  obtain ⟨n, j, e2, l2, v2, -⟩ := read_word f t hq
  unfold Ieee.Format.order
  rw [e1, e2, order_number _ _ _ _ _ _ f.leastPlace l1 l2, v1, v2]

/-- The rung to which a magnitude is rounded. -/
def rnd (f : Ieee.Format) (mag : Nat) (place : Int) : Nat :=
  if mag = 0 then 0 else
  let last := max (place + mag.log2 - f.fractionBits) f.leastPlace
  (last - f.leastPlace).toNat * f.binade + Ieee.Toward.even.cut false (mag <<< (place - last).toNat) (last - place).toNat

theorem cut_neg (neg : Bool) (n d : Nat) : Ieee.Toward.even.cut neg n d = Ieee.Toward.even.cut false n d := rfl

theorem nearest_rnd (f : Ieee.Format) (neg : Bool) (mag : Nat) (place : Int) : f.nearest neg mag place = f.word neg (min (rnd f mag place) f.infRung) := by
  unfold Ieee.Format.nearest rnd
  split
  · simp
  · dsimp only
    rw [cut_neg]

/-- 'Half to even' of n over g. -/
def half (n g : Nat) : Nat := n / g + (decide (g < 2 * (n % g)) || (g == 2 * (n % g) && n / g % 2 == 1)).toNat

theorem cut_half (n d : Nat) (h : d ≤ n.log2 + 2) : Ieee.Toward.even.cut false n d = half n (2 ^ d) := by
  unfold Ieee.Toward.cut half
  rw [Nat.min_eq_left h, Nat.shiftLeft_eq, Nat.one_mul]

theorem half_mono {n m g : Nat} (h : n ≤ m) : half n g ≤ half m g := by
  unfold half
  have hd : n / g ≤ m / g := Nat.div_le_div_right h
  have b1 : ∀ b : Bool, b.toNat ≤ 1 := by intro b; cases b <;> decide
  by_cases e : n / g = m / g
  · have h1 := Nat.div_add_mod n g
    have h2 := Nat.div_add_mod m g
    rw [e] at h1 ⊢
    have hr : n % g ≤ m % g := by omega
    apply Nat.add_le_add_left
    generalize n % g = a at *
    generalize m % g = b at *
    by_cases c1 : g < 2 * a
    · have c2 : g < 2 * b := by omega
      simp [c1, c2]
    · by_cases c2 : g < 2 * b
      · simp only [c2, decide_true, Bool.true_or]; exact b1 _
      · by_cases c4 : g = 2 * a
        · have c5 : g = 2 * b := by omega
          rw [show decide (g < 2 * a) = false from decide_eq_false c1, show (g == 2 * a) = true from beq_iff_eq.2 c4, show (g == 2 * b) = true from beq_iff_eq.2 c5, show decide (g < 2 * b) = false from decide_eq_false c2]
          exact Nat.le_refl _
        · rw [show decide (g < 2 * a) = false from decide_eq_false c1, show (g == 2 * a) = false from beq_eq_false_iff_ne.2 c4]
          exact Nat.zero_le _
  · have := b1 (decide (g < 2 * (n % g)) || (g == 2 * (n % g) && n / g % 2 == 1))
    omega

theorem half_le {n g b : Nat} (hg : 0 < g) (h : n ≤ b * g) : half n g ≤ b := by
  have hm := half_mono (g := g) h
  have : half (b * g) g = b := by
    unfold half
    rw [Nat.mul_div_cancel _ hg, Nat.mul_mod_left]
    have : ¬ g < 0 := by omega
    have h2 : (g == 2 * 0) = false := by simp; omega
    simp [h2]
  omega
theorem le_half {n g b : Nat} (hg : 0 < g) (h : b * g ≤ n) : b ≤ half n g := by
  have : b ≤ n / g := by rwa [Nat.le_div_iff_mul_le hg]
  unfold half; omega

/-- Rounding of a whole number of least units. -/
theorem rnd_units (f : Ieee.Format) (N : Nat) : rnd f N f.leastPlace = (N.log2 - f.fractionBits) * f.binade + half N (2 ^ (N.log2 - f.fractionBits)) := by
  unfold rnd
  split
  · rename_i h; subst h; simp [half]
  · dsimp only
    generalize hl : max (f.leastPlace + N.log2 - f.fractionBits) f.leastPlace = last
    have e1 : (last - f.leastPlace).toNat = N.log2 - f.fractionBits := by omega
    have e2 : (f.leastPlace - last).toNat = 0 := by omega
    rw [e1, e2, Nat.shiftLeft_zero, cut_half _ _ (by omega)]

theorem rnd_mono (f : Ieee.Format) {N M : Nat} (h : N ≤ M) : rnd f N f.leastPlace ≤ rnd f M f.leastPlace := by
  rw [rnd_units, rnd_units]
  have hb : f.binade = 2 ^ f.fractionBits := rfl
  by_cases hN : N = 0
  · subst hN; simp [half]
  have hlog : N.log2 ≤ M.log2 := by
    have h1 := Nat.log2_self_le hN
    have h2 : M < 2 ^ (M.log2 + 1) := Nat.lt_log2_self
    by_cases c : N.log2 ≤ M.log2
    · exact c
    · have := Nat.pow_le_pow_right (n := 2) (by decide) (show M.log2 + 1 ≤ N.log2 by omega); omega
  by_cases e : N.log2 - f.fractionBits = M.log2 - f.fractionBits
  · rw [e]; exact Nat.add_le_add_left (half_mono h) _
  · have hlt : N.log2 - f.fractionBits + 1 ≤ M.log2 - f.fractionBits := by omega
    have u : half N (2 ^ (N.log2 - f.fractionBits)) ≤ 2 * f.binade := by
      apply half_le (Nat.two_pow_pos _)
      have : N < 2 ^ (N.log2 + 1) := Nat.lt_log2_self
      refine Nat.le_trans (Nat.le_of_lt this) ?_
      rw [hb, ← Nat.pow_succ', ← Nat.pow_add]
      exact Nat.pow_le_pow_right (by decide) (by omega)
    have l : f.binade ≤ half M (2 ^ (M.log2 - f.fractionBits)) := by
      apply le_half (Nat.two_pow_pos _)
      have : 2 ^ M.log2 ≤ M := Nat.log2_self_le (by omega)
      refine Nat.le_trans ?_ this
      rw [hb, ← Nat.pow_add]
      exact Nat.pow_le_pow_right (by decide) (by omega)
    have := Nat.mul_le_mul_right f.binade hlt
    rw [Nat.add_mul] at this
    omega

theorem rnd_V (f : Ieee.Format) (r : Nat) : rnd f (V f r) f.leastPlace = r := by
  rw [rnd_units]
  have hb : f.binade = 2 ^ f.fractionBits := rfl
  have hbp : 0 < f.binade := Nat.two_pow_pos _
  unfold V
  split
  · rename_i h
    have hl : r.log2 ≤ f.fractionBits := log2_le_of (by rw [Nat.pow_succ, ← hb]; omega)
    have : r.log2 - f.fractionBits = 0 := by omega
    rw [this]; simp [half, Nat.mod_one]
  · rename_i h
    have hmod := Nat.mod_lt r hbp
    have hdm := Nat.div_add_mod r f.binade
    have hd1 : 1 ≤ r / f.binade := by rw [Nat.le_div_iff_mul_le hbp]; omega
    have hl : ((f.binade + r % f.binade) * 2 ^ (r / f.binade - 1)).log2 = f.fractionBits + (r / f.binade - 1) := by
      apply Nat.le_antisymm
      · apply log2_le_of
        have : f.binade + r % f.binade < 2 ^ (f.fractionBits + 1) := by rw [Nat.pow_succ, ← hb]; omega
        have := Nat.mul_lt_mul_of_pos_right this (Nat.two_pow_pos (r / f.binade - 1))
        rw [← Nat.pow_add] at this
        have e : f.fractionBits + 1 + (r / f.binade - 1) = f.fractionBits + (r / f.binade - 1) + 1 := by omega
        rwa [e] at this
      · apply (Nat.le_log2 (Nat.mul_ne_zero (by omega) (Nat.ne_of_gt (Nat.two_pow_pos _)))).2
        rw [Nat.pow_add, ← hb]
        exact Nat.mul_le_mul_right _ (by omega)
    rw [hl]
    have e0 : f.fractionBits + (r / f.binade - 1) - f.fractionBits = r / f.binade - 1 := by omega
    rw [e0]
    have hg : 0 < 2 ^ (r / f.binade - 1) := Nat.two_pow_pos _
    have e1 : half ((f.binade + r % f.binade) * 2 ^ (r / f.binade - 1)) (2 ^ (r / f.binade - 1)) = f.binade + r % f.binade :=
      Nat.le_antisymm (half_le hg (Nat.le_refl _)) (le_half hg (Nat.le_refl _))
    rw [e1, Nat.sub_mul]
    have : 1 * f.binade ≤ r / f.binade * f.binade := Nat.mul_le_mul_right _ hd1
    rw [Nat.mul_comm] at hdm
    omega

/-- A magnitude may be written at a lower place. -/
theorem rnd_shift (f : Ieee.Format) (m s : Nat) (p : Int) : rnd f (m * 2 ^ s) (p - s) = rnd f m p := by
  unfold rnd
  by_cases h0 : m = 0
  · subst h0; simp
  have hs : 0 < 2 ^ s := Nat.two_pow_pos _
  rw [if_neg h0, if_neg (Nat.mul_ne_zero h0 (Nat.ne_of_gt hs))]
  have hlog : (m * 2 ^ s).log2 = m.log2 + s := by
    apply Nat.le_antisymm
    · apply log2_le_of
      have := Nat.mul_lt_mul_of_pos_right (Nat.lt_log2_self (n := m)) hs
      rw [← Nat.pow_add] at this
      have e : m.log2 + 1 + s = m.log2 + s + 1 := by omega
      rwa [e] at this
    · apply (Nat.le_log2 (Nat.mul_ne_zero h0 (Nat.ne_of_gt hs))).2
      rw [Nat.pow_add]
      exact Nat.mul_le_mul_right _ (Nat.log2_self_le h0)
  dsimp only
  rw [hlog]
  have e0 : p - s + ((m.log2 + s : Nat) : Int) - f.fractionBits = p + m.log2 - f.fractionBits := by omega
  rw [e0]
  generalize hl : max (p + m.log2 - f.fractionBits) f.leastPlace = last
  congr 1
  by_cases hp : last ≤ p
  · have d0 : (last - p).toNat = 0 := by omega
    rw [d0, cut_zero, Nat.shiftLeft_eq, Nat.shiftLeft_eq]
    by_cases hp2 : last ≤ p - s
    · have d1 : (last - (p - s)).toNat = 0 := by omega
      rw [d1, cut_zero, Nat.mul_assoc, ← Nat.pow_add]; congr 2; omega
    · have d1 : (p - s - last).toNat = 0 := by omega
      rw [d1, Nat.pow_zero, Nat.mul_one, cut_half _ _ (by rw [hlog]; omega)]
      have e : m * 2 ^ s = m * 2 ^ (p - last).toNat * 2 ^ (last - (p - s)).toNat := by
        rw [Nat.mul_assoc, ← Nat.pow_add]; congr 2; omega
      rw [e]
      exact Nat.le_antisymm (half_le (Nat.two_pow_pos _) (Nat.le_refl _)) (le_half (Nat.two_pow_pos _) (Nat.le_refl _))
  · have d1 : (p - last).toNat = 0 := by omega
    have d2 : (p - s - last).toNat = 0 := by omega
    rw [d1, d2, Nat.shiftLeft_zero, Nat.shiftLeft_zero]
    have d3 : (last - (p - s)).toNat = (last - p).toNat + s := by omega
    rw [d3]
    unfold Ieee.Toward.cut
    rw [hlog]
    have d4 : min ((last - p).toNat + s) (m.log2 + s + 2) = min (last - p).toNat (m.log2 + 2) + s := by omega
    rw [d4]
    simp only [Nat.shiftLeft_eq, Nat.one_mul]
    rw [Nat.pow_add]
    generalize 2 ^ min (last - p).toNat (m.log2 + 2) = g
    generalize 2 ^ s = k at hs
    rw [Nat.mul_div_mul_right _ _ hs, Nat.mul_mod_mul_right]
    have c1 : decide (g * k < 2 * (m % g * k)) = decide (g < 2 * (m % g)) := by
      rw [← Nat.mul_assoc]
      exact decide_eq_decide.2 ⟨fun h => Nat.lt_of_mul_lt_mul_right h, fun h => Nat.mul_lt_mul_of_pos_right h hs⟩
    have c2 : (g * k == 2 * (m % g * k)) = (g == 2 * (m % g)) := by
      rw [← Nat.mul_assoc, Bool.eq_iff_iff]; simp only [beq_iff_eq]
      exact ⟨fun h => Nat.eq_of_mul_eq_mul_right hs h, fun h => congrArg (· * k) h⟩
    rw [c1, c2]

theorem rnd_at (f : Ieee.Format) (m : Nat) {p : Int} (h : f.leastPlace ≤ p) : rnd f m p = rnd f (m * 2 ^ (p - f.leastPlace).toNat) f.leastPlace := by
  have := rnd_shift f m (p - f.leastPlace).toNat p
  rw [← this]; congr 1; omega

end Go.Proofs.YtogliigpoojfoaaGreatDoor.Fl
end

section
namespace Go.Proofs.YtogliigpoojfoaaGreatDoor.Fl
set_option maxRecDepth 100000
open Go

def sgn (f : Ieee.Format) (b : Nat) : Bool := b / f.signWeight % 2 == 1
def mag (f : Ieee.Format) (b : Nat) : Nat := b % f.signWeight
/-- The value of a word that is no not-a-number; an infinity is worth more than all. -/
def val (f : Ieee.Format) (b : Nat) : Int := sV (sgn f b) (V f (mag f b))

theorem read_eq (f : Ieee.Format) (b : Nat) : f.read b = if mag f b < f.binade then .number (sgn f b) (mag f b) f.leastPlace
    else if mag f b < f.infRung then .number (sgn f b) (f.binade + mag f b % f.binade) (f.leastPlace + (mag f b / f.binade - 1 : Nat))
    else if mag f b = f.infRung then .infinity (sgn f b) else .nan (sgn f b) (mag f b - f.infRung) := rfl

theorem binade_le_inf {f : Ieee.Format} (he : 1 ≤ f.exponentBits) : f.binade ≤ f.infRung := by
  unfold Ieee.Format.infRung
  have : 2 ^ 1 ≤ 2 ^ f.exponentBits := Nat.pow_le_pow_right (by decide) he
  exact Nat.le_mul_of_pos_left _ (by omega)

theorem isNaN_iff (k : FloatKind) (b : Nat) : (k.decode b).isNaN = decide (k.format.infRung < mag k.format b) := by
  have hb : k.format.binade ≤ k.format.infRung := binade_le_inf (by cases k <;> decide)
  show (k.format.read b).isNaN = _
  rw [read_eq]
  split
  · rw [decide_eq_false (by omega)]; rfl
  · split
    · rw [decide_eq_false (by omega)]; rfl
    · split
      · rw [decide_eq_false (by omega)]; rfl
      · rw [decide_eq_true (by omega)]; rfl

theorem read_fin (f : Ieee.Format) {b : Nat} (h : mag f b < f.infRung) :
    ∃ m p, f.read b = .number (sgn f b) m p ∧ f.leastPlace ≤ p ∧ m * 2 ^ (p - f.leastPlace).toNat = V f (mag f b) ∧ m < 2 ^ (f.fractionBits + 1) := by
  have hbp : 0 < f.binade := Nat.two_pow_pos _
  have hb : f.binade = 2 ^ f.fractionBits := rfl
  rw [read_eq]
  unfold V
  split
  · exact ⟨_, _, rfl, Int.le_refl _, by simp, by rw [Nat.pow_succ, ← hb]; omega⟩
  · first | rw [if_pos h] | skip
    have hmod := Nat.mod_lt (mag f b) hbp
    refine ⟨_, _, rfl, by omega, ?_, by rw [Nat.pow_succ, ← hb]; omega⟩
    have : (f.leastPlace + ((mag f b / f.binade - 1 : Nat) : Int) - f.leastPlace).toNat = mag f b / f.binade - 1 := by omega
    rw [this]

theorem read_inf (k : FloatKind) {b : Nat} (h : mag k.format b = k.format.infRung) : k.format.read b = .infinity (sgn k.format b) := by
  have hb : k.format.binade ≤ k.format.infRung := binade_le_inf (by cases k <;> decide)
  rw [read_eq, if_neg (by omega), if_neg (by omega), if_pos h]

theorem sV_lt_pos (s : Bool) {x y : Nat} (h : x < y) : sV s x < sV false y := by
  cases s <;> simp [sV] <;> omega
theorem sV_lt_neg (s : Bool) {x y : Nat} (h : x < y) : sV true y < sV s x := by
  cases s <;> simp [sV] <;> omega

theorem cmp_lt {x y : Int} (h : x < y) : compare x y = .lt := Int.compare_eq_lt.2 h
theorem cmp_gt {x y : Int} (h : y < x) : compare x y = .gt := Int.compare_eq_gt.2 h

/-- How two words that are no not-a-number stand to each other. -/
theorem order_val (k : FloatKind) {a b : Nat} (ha : mag k.format a ≤ k.format.infRung) (hb : mag k.format b ≤ k.format.infRung) :
    k.format.order a b = some (compare (val k.format a) (val k.format b)) := by
  unfold Ieee.Format.order val
  by_cases h1 : mag k.format a < k.format.infRung
  · obtain ⟨m, p, e1, l1, v1, -⟩ := read_fin k.format h1
    by_cases h2 : mag k.format b < k.format.infRung
    · obtain ⟨n, j, e2, l2, v2, -⟩ := read_fin k.format h2
      rw [e1, e2, order_number _ _ _ _ _ _ k.format.leastPlace l1 l2, v1, v2]
    · have e := read_inf k (b := b) (by omega)
      rw [e1, e]
      have hv : V k.format (mag k.format a) < V k.format (mag k.format b) := V_lt (by omega)
      cases hs : sgn k.format b
      · rw [cmp_lt (sV_lt_pos _ hv)]; rfl
      · rw [cmp_gt (sV_lt_neg _ hv)]; rfl
  · have e := read_inf k (b := a) (by omega)
    by_cases h2 : mag k.format b < k.format.infRung
    · obtain ⟨n, j, e2, l2, v2, -⟩ := read_fin k.format h2
      rw [e2, e]
      have hv : V k.format (mag k.format b) < V k.format (mag k.format a) := V_lt (by omega)
      cases hs : sgn k.format a
      · rw [cmp_gt (sV_lt_pos _ hv)]; rfl
      · rw [cmp_lt (sV_lt_neg _ hv)]; rfl
    · have e' := read_inf k (b := b) (by omega)
      rw [e, e']
      have hv : mag k.format a = mag k.format b := by omega
      have hp : 0 < V k.format (mag k.format b) := by
        have h0 : V k.format 0 = 0 := V_small (Nat.two_pow_pos _)
        have : V k.format 0 < V k.format (mag k.format b) := V_lt (by have := binade_le_inf (f := k.format) (by cases k <;> decide); have : 0 < k.format.binade := Nat.two_pow_pos _; omega)
        omega
      rw [hv]
      generalize V k.format (mag k.format b) = v at hp
      cases sgn k.format a <;> cases sgn k.format b
      · simp [Ieee.Datum.order]
      · rw [cmp_gt (by simp [sV]; omega)]; rfl
      · rw [cmp_lt (by simp [sV]; omega)]; rfl
      · simp [Ieee.Datum.order]

theorem order_nan_left {k : FloatKind} {a b : Nat} (h : (k.decode a).isNaN = true) : k.format.order a b = none := by
  show Ieee.Datum.order (k.decode a) _ = none
  generalize k.decode a = d at h
  cases d <;> first | cases h | skip
  rfl
theorem order_nan_right {k : FloatKind} {a b : Nat} (h : (k.decode b).isNaN = true) : k.format.order a b = none := by
  show Ieee.Datum.order _ (k.decode b) = none
  generalize k.decode b = d at h
  generalize k.format.read a = c
  cases d <;> first | cases h | skip
  cases c <;> rfl

theorem le_inf {k : FloatKind} {a : Nat} (h : (k.decode a).isNaN = false) : mag k.format a ≤ k.format.infRung := by
  rw [isNaN_iff] at h
  have := of_decide_eq_false h
  omega
theorem order_self {k : FloatKind} {a : Nat} (h : (k.decode a).isNaN = false) : k.format.order a a = some .eq := by
  rw [order_val k (le_inf h) (le_inf h)]
  simp

/-- A comparison, of what words mean. -/
def ford (k : FloatKind) (x y : Option Nat) : Option Ordering := x.bind fun a => y.bind fun b => k.format.order a b
theorem order_mean (k : FloatKind) (a b : Nat) : k.format.order a b = ford k (mean k a) (mean k b) := by
  unfold mean
  cases ha : (k.decode a).isNaN
  · cases hb : (k.decode b).isNaN
    · simp [ford]
    · simp [ford, order_nan_right hb]
  · simp [ford, order_nan_left ha]

/-- Whether a word is a finite number. -/
def finB (k : FloatKind) (a : Nat) : Bool := decide (mag k.format a < k.format.infRung)

theorem mag_word (f : Ieee.Format) (s : Bool) {r : Nat} (h : r ≤ f.infRung) : mag f (f.word s r) = r := word_mod f s (by have := f.infRung_lt; omega)
theorem sgn_word (f : Ieee.Format) (s : Bool) {r : Nat} (h : r ≤ f.infRung) : sgn f (f.word s r) = s := by
  have hlt := f.infRung_lt
  have hs : 0 < f.signWeight := by omega
  unfold sgn Ieee.Format.word
  cases s
  · simp only [Bool.false_eq_true, if_false]; rw [Nat.div_eq_of_lt (by omega)]; rfl
  · simp only [if_true]; rw [Nat.add_div_left _ hs, Nat.div_eq_of_lt (by omega)]; rfl
theorem word_sgn_mag (f : Ieee.Format) {b : Nat} (h : b < 2 * f.signWeight) : b = f.word (sgn f b) (mag f b) := by
  have hs : 0 < f.signWeight := Nat.two_pow_pos _
  unfold sgn mag Ieee.Format.word
  by_cases h1 : b < f.signWeight
  · rw [Nat.div_eq_of_lt h1, Nat.mod_eq_of_lt h1]; simp
  · have e : b % f.signWeight = b - f.signWeight := by rw [Nat.mod_eq_sub_mod (by omega), Nat.mod_eq_of_lt (by omega)]
    have e2 : b / f.signWeight = 1 := by
      rw [Nat.div_eq_sub_div hs (by omega), Nat.div_eq_of_lt (by omega)]
    rw [e, e2]; simp; omega

theorem mean_some_of_fin {k : FloatKind} {a : Nat} (h : mag k.format a ≤ k.format.infRung) : mean k a = some a := mean_of (by rw [isNaN_iff]; exact decide_eq_false (by omega))

/-- A number less itself is zero just where it is finite. -/
theorem fin_sub {k : FloatKind} {a r : Nat} (h : FRes .sub k a a r) : (k.format.order r 0 == some .eq) = finB k a := by
  have h := h.1
  by_cases hf : mag k.format a < k.format.infRung
  · obtain ⟨m, p, e, -, -, -⟩ := read_fin k.format hf
    rw [mean_some_of_fin (a := a) (by omega)] at h
    have hs : floatBits .sub k a a = some (k.format.word (sgn k.format a && !sgn k.format a) 0) := by
      show ((k.format.read a).sum (k.format.read a).opposite).map k.format.write = _
      rw [e]
      have : (Ieee.Datum.number (sgn k.format a) m p).sum (Ieee.Datum.number (sgn k.format a) m p).opposite = some (.number (sgn k.format a && !sgn k.format a) 0 p) := by
        simp only [Ieee.Datum.opposite, Ieee.Datum.sum, shiftLeft_signed]
        have : sV (sgn k.format a) (m * 2 ^ (p - min p p).toNat) + sV (!sgn k.format a) (m * 2 ^ (p - min p p).toNat) = 0 := by
          cases sgn k.format a <;> simp [sV] <;> omega
        rw [this]; simp
      rw [this]; rfl
    have h2 : mean k r = some (k.format.word (sgn k.format a && !sgn k.format a) 0) := by rw [h]; exact hs
    obtain ⟨rfl, hn⟩ := mean_some h2
    have e0 : mag k.format 0 = 0 := Nat.zero_mod _
    have ew := mag_word k.format (sgn k.format a && !sgn k.format a) (Nat.zero_le k.format.infRung)
    rw [order_val k (by rw [ew]; exact Nat.zero_le _) (by rw [e0]; exact Nat.zero_le _)]
    have v0 : ∀ s, sV s (V k.format 0) = 0 := by
      intro s; rw [V_small (Nat.two_pow_pos _)]; cases s <;> rfl
    unfold val
    rw [ew, e0, v0, v0, finB, decide_eq_true hf]; rfl
  · have hs : fop .sub k (mean k a) (mean k a) = none := by
      apply fop_none
      show ((k.format.read a).sum (k.format.read a).opposite).map k.format.write = _
      by_cases hi : mag k.format a = k.format.infRung
      · rw [read_inf k hi]
        cases sgn k.format a <;> rfl
      · have : (k.decode a).isNaN = true := by rw [isNaN_iff]; exact decide_eq_true (by omega)
        have e : k.format.read a = k.decode a := rfl
        rw [e]
        generalize k.decode a = d at this
        cases d <;> first | cases this | skip
        rfl
    have : (k.decode r).isNaN = true := by
      rw [hs] at h
      cases hh : (k.decode r).isNaN
      · rw [mean_of hh] at h; cases h
      · rfl
    rw [order_nan_left this, finB, decide_eq_false hf]; rfl

theorem repr (f : Ieee.Format) (m s : Nat) (h : m < 2 ^ (f.fractionBits + 1)) : ∃ r, V f r = m * 2 ^ s ∧ r < (s + 2) * f.binade := by
  have hb : f.binade = 2 ^ f.fractionBits := rfl
  have hbp : 0 < f.binade := Nat.two_pow_pos _
  rw [Nat.pow_succ, ← hb] at h
  induction s generalizing m with
  | zero =>
    refine ⟨m, ?_, by omega⟩
    unfold V
    by_cases h1 : m < f.binade
    · rw [if_pos h1]; simp
    · rw [if_neg h1]
      have e1 : m / f.binade = 1 := by rw [Nat.div_eq_sub_div hbp (by omega), Nat.div_eq_of_lt (by omega)]
      have e2 : m % f.binade = m - f.binade := by rw [Nat.mod_eq_sub_mod (by omega), Nat.mod_eq_of_lt (by omega)]
      rw [e1, e2]; simp; omega
  | succ s ih =>
    by_cases h1 : m < f.binade
    · obtain ⟨r, hv, hr⟩ := ih (m * 2) (by omega)
      refine ⟨r, by rw [hv, Nat.pow_succ', Nat.mul_assoc], Nat.lt_of_lt_of_le hr (Nat.mul_le_mul_right _ (by omega))⟩
    · refine ⟨(s + 2) * f.binade + (m - f.binade), ?_, ?_⟩
      · unfold V
        have hle : 1 * f.binade ≤ (s + 2) * f.binade := Nat.mul_le_mul_right _ (by omega)
        rw [if_neg (by omega)]
        have e1 : ((s + 2) * f.binade + (m - f.binade)) / f.binade = s + 2 := by
          rw [Nat.mul_comm, Nat.mul_add_div hbp, Nat.div_eq_of_lt (by omega)]
        have e2 : ((s + 2) * f.binade + (m - f.binade)) % f.binade = m - f.binade := by
          rw [Nat.mul_comm, Nat.mul_add_mod, Nat.mod_eq_of_lt (by omega)]
        rw [e1, e2]
        have : f.binade + (m - f.binade) = m := by omega
        rw [this]; congr 2
      · have : (s + 1 + 2) * f.binade = (s + 2) * f.binade + f.binade := by rw [show s + 1 + 2 = s + 2 + 1 from rfl, Nat.add_mul, Nat.one_mul]
        omega

/-- A 32-bit number that is no not-a-number, as a 64-bit one: of the same sign, and its magnitude is the same number. -/
theorem widen {a r : Nat} (hn : (FloatKind.f32.decode a).isNaN = false) (h : FConv .f32 .f64 a r) :
    ∃ q, r = Ieee.double.word (sgn Ieee.single a) q ∧ q ≤ Ieee.double.infRung ∧ (q = Ieee.double.infRung ↔ mag Ieee.single a = Ieee.single.infRung) ∧ (mag Ieee.single a < Ieee.single.infRung → V Ieee.double q = V Ieee.single (mag Ieee.single a) * 2 ^ 925) := by
  have h1 := h.1 (fits_wide a)
  rw [mean_of hn] at h1
  have h2 : mean .f64 r = some (FloatKind.f64.encode (FloatKind.f32.decode a)) := h1
  obtain ⟨rfl, -⟩ := mean_some h2
  have hle := le_inf hn
  have hle' : mag Ieee.single a ≤ Ieee.single.infRung := hle
  by_cases hi : mag Ieee.single a = Ieee.single.infRung
  · refine ⟨Ieee.double.infRung, ?_, Nat.le_refl _, by simp [hi], fun c => by omega⟩
    have : FloatKind.f32.decode a = .infinity (sgn Ieee.single a) := read_inf .f32 hi
    rw [this]; rfl
  · obtain ⟨m, p, e, lp, v, hm⟩ := read_fin Ieee.single (b := a) (by omega)
    have e' : FloatKind.f32.decode a = .number (sgn Ieee.single a) m p := e
    have hp := single_number e'
    have lp' : (-149 : Int) ≤ p := lp
    obtain ⟨q, hq, hqr⟩ := repr Ieee.double m (p + 1074).toNat (Nat.lt_of_lt_of_le hm (by decide))
    have hqlt : q < Ieee.double.infRung := by
      by_cases h0 : m = 0
      · subst h0
        have : V Ieee.double q = V Ieee.double 0 := by rw [hq]; rw [V_small (Nat.two_pow_pos _)]; simp
        rw [V_inj this]; decide
      · have := hp h0
        have hx : (p + 1074).toNat + 2 ≤ 1203 := by omega
        have := Nat.mul_le_mul_right Ieee.double.binade hx
        have : 1203 * Ieee.double.binade < Ieee.double.infRung := by decide
        omega
    have hrnd : rnd Ieee.double m p = q := by
      have lq : Ieee.double.leastPlace ≤ p := by show (-1074 : Int) ≤ p; omega
      rw [rnd_at Ieee.double m lq]
      have : (p - Ieee.double.leastPlace).toNat = (p + 1074).toNat := by show (p - (-1074)).toNat = _; congr 1
      rw [this, ← hq, rnd_V]
    refine ⟨q, ?_, by omega, ⟨fun c => by omega, fun c => by omega⟩, fun _ => ?_⟩
    · rw [e']
      show Ieee.double.nearest _ m p = _
      rw [nearest_rnd, hrnd, Nat.min_eq_left (by omega)]
    · have ee : (p + 1074).toNat = (p - Ieee.single.leastPlace).toNat + 925 := by
        show (p + 1074).toNat = (p - (-149)).toNat + 925
        omega
      rw [hq, ee, Nat.pow_add, ← Nat.mul_assoc, v]

/-- A finite 32-bit number is at most 2 to the power of 128 as a 64-bit one. -/
theorem wide_bd {a r : Nat} (hf : mag Ieee.single a < Ieee.single.infRung) (h : FConv .f32 .f64 a r) : Bd .f64 128 r := by
  have h1 := h.1 (fits_wide a)
  rw [mean_some_of_fin (k := .f32) (Nat.le_of_lt hf)] at h1
  have h2 : mean .f64 r = some (FloatKind.f64.encode (FloatKind.f32.decode a)) := h1
  obtain ⟨rfl, -⟩ := mean_some h2
  obtain ⟨m, p, e, -, -, -⟩ := read_fin Ieee.single hf
  have e' : FloatKind.f32.decode a = .number (sgn Ieee.single a) m p := e
  rw [e']
  exact Bd.of_nearest (fun h0 => by have := single_number e' h0; omega) (by decide) (by decide)

theorem rootFrom_lt (n : Nat) : ∀ todo root, Ieee.Datum.rootFrom n todo root < root + 2 ^ todo := by
  intro todo
  induction todo with
  | zero => intro root; simp [Ieee.Datum.rootFrom]
  | succ k ih =>
    intro root
    unfold Ieee.Datum.rootFrom
    dsimp only
    split
    · have := ih (root + 1 <<< k)
      rw [Nat.shiftLeft_eq, Nat.one_mul] at this ⊢
      rw [Nat.pow_succ]; omega
    · have := ih root
      rw [Nat.pow_succ]
      have : 0 < 2 ^ k := Nat.two_pow_pos _
      omega

/-- The root of a number of at most 2 to the power of 128 fits the 32-bit ones. -/
theorem sqrt_fits {x y : Nat} (hx : Bd .f64 128 x) (h : FSqrt x y) : fits .f64 .f32 y = true := by
  obtain ⟨s, m, p, e, hm, lp, hlt⟩ := hx.read (by decide) (by decide)
  have h1 := h.1
  have hn : (FloatKind.f64.decode x).isNaN = false := by rw [e]; rfl
  rw [mean_of hn] at h1
  have h2 : mean .f64 y = ((FloatKind.f64.decode x).root 54).map FloatKind.f64.format.write := h1
  rw [e] at h2
  simp only [Ieee.Datum.root] at h2
  by_cases h0 : m = 0
  · rw [if_pos h0] at h2
    obtain ⟨rfl, -⟩ := mean_some h2
    apply fits_of_bd
    exact Bd.of_nearest (fun c => absurd h0 c) (by decide) (by decide)
  · rw [if_neg h0] at h2
    cases s
    · have hm := hm h0
      simp only [Bool.false_eq_true, if_false] at h2
      obtain ⟨rfl, -⟩ := mean_some h2
      apply fits_of_bd
      have hl : m.log2 < 53 := (Nat.log2_lt h0).2 hlt
      generalize hmore : 2 * 54 - m.log2 + ((p - ((2 * 54 - m.log2 : Nat) : Int)) % 2).toNat = more
      generalize hn' : m <<< more = n'
      have hlog : n'.log2 ≤ 109 := by
        apply log2_le_of
        rw [← hn', Nat.shiftLeft_eq]
        have hm1 : m < 2 ^ (m.log2 + 1) := Nat.lt_log2_self
        have := Nat.mul_lt_mul_of_pos_right hm1 (Nat.two_pow_pos more)
        rw [← Nat.pow_add] at this
        exact Nat.lt_of_lt_of_le this (Nat.pow_le_pow_right (by decide) (by omega))
      have hw := rootFrom_lt n' (n'.log2 / 2 + 1) 0
      generalize Ieee.Datum.rootFrom n' (n'.log2 / 2 + 1) 0 = whole at hw ⊢
      have hw2 : whole < 2 ^ 55 := by
        have : 2 ^ (n'.log2 / 2 + 1) ≤ 2 ^ 55 := Nat.pow_le_pow_right (by decide) (by omega)
        omega
      refine Bd.of_nearest (fun _ => ?_) (by decide) (by decide)
      have hb : ∀ b : Bool, b.toNat ≤ 1 := by intro b; cases b <;> decide
      have hb1 := hb (whole * whole != n')
      have : (2 * whole + (whole * whole != n').toNat).log2 ≤ 56 := log2_le_of (by rw [show (2 : Nat) ^ (56 + 1) = 2 * 2 ^ 56 from by rw [Nat.pow_succ, Nat.mul_comm], show (2 : Nat) ^ 56 = 2 * 2 ^ 55 from by rw [Nat.pow_succ, Nat.mul_comm]]; omega)
      omega
    · have h3 : mean .f64 y = none := h2
      rcases hd : FloatKind.f64.decode y with ⟨s', m', p'⟩ | s' | ⟨s', t'⟩
      · rw [mean_of (by rw [hd]; rfl)] at h3; cases h3
      · rw [mean_of (by rw [hd]; rfl)] at h3; cases h3
      · unfold fits; rw [hd]; simp

/-- What means nothing fits. -/
theorem fits_nan {s k : FloatKind} {a : Nat} (h : (s.decode a).isNaN = true) : fits s k a = true := by
  unfold fits
  generalize s.decode a = d at h
  cases d <;> first | cases h | skip
  simp
theorem fits_inf {s k : FloatKind} {a : Nat} (h : mag s.format a = s.format.infRung) : fits s k a = true := by
  unfold fits
  have : s.decode a = .infinity (sgn s.format a) := read_inf s h
  rw [this]; simp

/-- Conversions of words that mean the same mean the same. -/
theorem conv_same {s k : FloatKind} {a b r q : Nat} (h : mean s a = mean s b) (hr : FConv s k a r) (hq : FConv s k b q) (fa : fits s k a = true) (fb : fits s k b = true) : mean k r = mean k q := by
  rw [hr.1 fa, hq.1 fb, h]

end Go.Proofs.YtogliigpoojfoaaGreatDoor.Fl
end
