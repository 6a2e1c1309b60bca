/-
  The exponential, the logarithm and their words by quick operations.
-/
import Derived.Test.YtlcekfahjakfgaaFz
import Derived.Test.YtlcekfahjakfgaaEx
import Derived.Test.YtlcekfahjakfgaaBq
namespace Go.Proofs.Ytlcekfahjakfgaa
open Go.RowKit Fl

/-- An operation on two words, not known where one of them is not. -/
def lift (f : Nat → Nat → Nat) (x y : Nat) : Nat := force x fun x => force y fun y => bif Nat.ble 18446744073709551616 x || Nat.ble 18446744073709551616 y then 18446744073709551616 else f x y
theorem lift_rel {g : Option Nat → Option Nat → Option Nat} {f : Nat → Nat → Nat} (h : ∀ x y, Rel (g (some x) (some y)) (f x y)) {a b : Option Nat} {x y : Nat} (ha : Rel a x) (hb : Rel b y) : Rel (g a b) (lift f x y) := by
  unfold lift
  rw [force_eq, force_eq]
  cases hc : (Nat.ble 18446744073709551616 x || Nat.ble 18446744073709551616 y)
  · rw [Bool.or_eq_false_iff] at hc
    rw [ha (ble_false.1 hc.1), hb (ble_false.1 hc.2)]
    exact h x y
  · intro hlt; exact absurd hlt (Nat.lt_irrefl _)
def addL : Nat → Nat → Nat := lift addN
def subL : Nat → Nat → Nat := lift subN
def mulL : Nat → Nat → Nat := lift mulN
def quoL : Nat → Nat → Nat := lift quoN
theorem addL_rel {a b : Option Nat} {x y : Nat} (ha : Rel a x) (hb : Rel b y) : Rel (fop .add .f64 a b) (addL x y) := lift_rel (fun _ _ => addN_rel rfl rfl) ha hb
theorem subL_rel {a b : Option Nat} {x y : Nat} (ha : Rel a x) (hb : Rel b y) : Rel (fop .sub .f64 a b) (subL x y) := lift_rel (fun _ _ => subN_rel rfl rfl) ha hb
theorem mulL_rel {a b : Option Nat} {x y : Nat} (ha : Rel a x) (hb : Rel b y) : Rel (fop .mul .f64 a b) (mulL x y) := lift_rel (fun _ _ => mulN_rel rfl rfl) ha hb
theorem quoL_rel {a b : Option Nat} {x y : Nat} (ha : Rel a x) (hb : Rel b y) : Rel (fop .quo .f64 a b) (quoL x y) := lift_rel (fun _ _ => quoN_rel rfl rfl) ha hb
/-- Narrowed to 32 bits. -/
def narL (x : Nat) : Nat := force x fun x => bif Nat.ble 18446744073709551616 x then 18446744073709551616 else narN x
theorem narL_ok {o : Option Nat} {x : Nat} (ho : Rel o x) (h : narL x < bad) : o = some x ∧ narL x = narN x ∧ narN x < bad := by
  unfold narL at h ⊢
  rw [force_eq] at h ⊢
  cases hc : Nat.ble 18446744073709551616 x
  · rw [hc] at h
    exact ⟨ho (ble_false.1 hc), rfl, h⟩
  · rw [hc] at h; exact absurd h (Nat.lt_irrefl _)
/-- What is narrowed quickly: the word, that it fits, and that it is finite. -/
theorem nar_word {o : Option Nat} {x : Nat} (ho : Rel o x) (h : narL x < bad) : (fconv .f64 .f32 o).bind (fun b => mean .f32 b) = some (narL x) ∧ fconv .f64 .f32 o = some (narL x) ∧ (∀ y, mean .f64 y = o → fits .f64 .f32 y = true) ∧ finB .f32 (narL x) = true ∧ o = some x := by
  obtain ⟨rfl, e, h'⟩ := narL_ok ho h
  rw [e]
  obtain ⟨fx, e1, e2, e3⟩ := narN_ok h'
  have e4 : fconv .f64 .f32 (some x) = some (narN x) := by
    show some (FloatKind.f32.encode (FloatKind.f64.decode x)) = _
    rw [e1]
  refine ⟨?_, e4, fun y hy => ?_, decide_eq_true e3, rfl⟩
  · rw [e4]
    exact mean_some_of_fin (k := .f32) (Nat.le_of_lt e3)
  · obtain ⟨rfl, -⟩ := mean_some hy
    exact e2
/-- Widened. -/
theorem widN_eq {a : Nat} (h : finB .f32 a = true) : wideN a = widN a := by
  obtain ⟨q, hx, hq, hi, hv⟩ := widen (nan_of_fin h) (wide_conv (nan_of_fin h))
  have hv := hv (of_decide_eq_true h)
  unfold widN
  rw [force_eq, force_eq, force_eq, force_eq, wordN_eq, beqN_eq, hx]
  have e2 : Nat.mod a 2147483648 = mag Ieee.single a := rfl
  rw [e2]
  obtain ⟨n, hn⟩ : ∃ n : Nat, 925 = n := ⟨925, rfl⟩
  rw [hn] at hv ⊢
  rw [V_man32, Nat.mul_assoc, ← Nat.pow_add] at hv
  generalize man32 (mag Ieee.single a) = m at *
  have eq : (bif Nat.beq m 0 then 0 else rndS 23 m (Nat.add (exp32 (mag Ieee.single a)) n)) = q := by
    cases c : Nat.beq m 0
    · have hm := Nat.ne_of_beq_eq_false c
      have es : Nat.add (exp32 (mag Ieee.single a)) n = exp32 (mag Ieee.single a) + n := rfl
      rw [cond_false, rndS_eq _ hm, es, ← hv, rnd_V]
    · have hm : m = 0 := Nat.eq_of_beq_eq_true c
      rw [hm, Nat.zero_mul] at hv
      have : V Ieee.double q = V Ieee.double 0 := by rw [hv, V_zero]
      rw [cond_true, V_inj this]
  rw [eq]
  rfl

/-! ### The exponential -/
def kEw (j : Nat) : Nat := [4622945017495814144, 4622382067542392832, 4621819117588971520, 4621256167635550208, 4620693217682128896, 4619567317775286272, 4618441417868443648, 4617315517961601024, 4616189618054758400, 4613937818241073152, 4611686018427387904, 4607182418800017408].getD j 0
theorem kEw_eq : ∀ j, j < 12 → kE j = some (kEw j) := by decide +kernel
def expPF (t : Nat) : Nat → Nat
  | 0 => 4607182418800017408
  | j + 1 => force (expPF t j) fun p => addL 4607182418800017408 (quoL (mulL t p) (kEw j))
def sqPF (p : Nat) : Nat → Nat
  | 0 => p
  | j + 1 => force (sqPF p j) fun p => mulL p p
theorem expPF_rel {o : Option Nat} {t : Nat} (ho : Rel o t) : ∀ j, j ≤ 12 → Rel (expP o j) (expPF t j) := by
  intro j
  induction j with
  | zero => intro _; exact Rel.of
  | succ j ih =>
    intro hj
    unfold expP expPF
    rw [force_eq, kEw_eq j (by omega)]
    exact addL_rel Rel.of (quoL_rel (mulL_rel ho (ih (by omega))) Rel.of)
theorem sqPF_rel {o : Option Nat} {p : Nat} (ho : Rel o p) : ∀ j, Rel (sqP o j) (sqPF p j) := by
  intro j
  induction j with
  | zero => exact ho
  | succ j ih =>
    unfold sqP sqPF
    rw [force_eq]
    exact mulL_rel ih ih
def expMF (x : Nat) : Nat := force (quoL x 4643211215818981376) fun t => sqPF (expPF t 12) 8
theorem expMF_rel (x : Nat) : Rel (expM (some x)) (expMF x) := by
  unfold expMF expM
  rw [force_eq]
  exact sqPF_rel (expPF_rel (quoL_rel Rel.of Rel.of) 12 (by omega)) 8
/-- The exponential of a 32-bit word, as a 32-bit word. -/
def expWF (a : Nat) : Nat := narL (expMF (widN a))
theorem expW_quick {a : Nat} (hf : finB .f32 a = true) (h1 : (FloatKind.f64.format.order (wideN a) 4641240890982006784 == some .gt) = false) (h2 : (FloatKind.f64.format.order (wideN a) 13864612927836782592 == some .lt) = false) (h : expWF a < bad) :
    expOk a = true ∧ expW a = expWF a ∧ finB .f32 (expWF a) = true := by
  have hr := expMF_rel (widN a)
  obtain ⟨e1, e2, e3, e4, e5⟩ := nar_word hr h
  have h5 : expM (some (wideN a)) = some (expMF (widN a)) := by rw [widN_eq hf, e5]
  refine ⟨?_, ?_, e4⟩
  · unfold expOk
    rw [hf, h1, h2, h5]
    have hx : Rel (some (expMF (widN a))) (expMF (widN a)) := Rel.of
    obtain ⟨-, f1, -⟩ := narL_ok hr h
    have f2 := narN_ok (x := expMF (widN a)) (by rw [← f1]; exact h)
    have hm : mean .f32 (FloatKind.f32.encode (FloatKind.f64.decode (expMF (widN a)))) = some (narN (expMF (widN a))) := by
      rw [f2.2.1]; exact mean_some_of_fin (k := .f32) (Nat.le_of_lt f2.2.2.2)
    show (fits .f64 .f32 (expMF (widN a)) && (mean .f32 (FloatKind.f32.encode (FloatKind.f64.decode (expMF (widN a))))).isSome) = true
    rw [f2.2.2.1, hm]; rfl
  · unfold expW
    rw [widN_eq hf, e1]; rfl

/-! ### The logarithm -/
def invW (j : Nat) : Nat := [4585925428558828667, 4586426698778222948, 4587023449039406616, 4587745830934523688, 4588638185040256542, 4589468260265693457, 4590207312512236308, 4591215111030249286, 4592670820000712476, 4594314991293244562, 4596373779694328218, 4599676419421066581, 4607182418800017408].getD j 0
theorem invW_eq : ∀ j, j < 13 → fop .quo .f64 (some one64) (some (divL j)) = some (invW j) := by decide +kernel
def logPF (u : Nat) : Nat → Nat
  | 0 => 0
  | j + 1 => force (logPF u j) fun q => addL (invW j) (mulL u q)
theorem logPF_rel {o : Option Nat} {u : Nat} (ho : Rel o u) : ∀ j, j ≤ 13 → Rel (logP o j) (logPF u j) := by
  intro j
  induction j with
  | zero => intro _; exact Rel.of
  | succ j ih =>
    intro hj
    unfold logP logPF
    rw [force_eq, invW_eq j (by omega)]
    exact addL_rel Rel.of (mulL_rel ho (ih (by omega)))
def logMF (x e : Nat) : Nat := force x fun x => force e fun e => force (quoL (subL x 4607182418800017408) (addL x 4607182418800017408)) fun s => force (mulL s s) fun u =>
  addL (mulL 4611686018427387904 (mulL s (logPF u 13))) (mulL e 4604418534313441775)
theorem logMF_rel (x e : Nat) : Rel (logM (some x) (some e)) (logMF x e) := by
  unfold logMF logM
  rw [force_eq, force_eq, force_eq, force_eq]
  have hs : Rel (logS (some x)) (quoL (subL x 4607182418800017408) (addL x 4607182418800017408)) := by
    unfold logS
    exact quoL_rel (subL_rel Rel.of Rel.of) (addL_rel Rel.of Rel.of)
  exact addL_rel (mulL_rel Rel.of (mulL_rel hs (logPF_rel (mulL_rel hs hs) 13 (by omega)))) (mulL_rel Rel.of Rel.of)
def lgF (r : Nat) : Nat := logMF (restW r) (wholeW (expE r))
theorem lgF_rel {a : Nat} (hf : finB .f32 a = true) (hs : sgn Ieee.single a = false) (h0 : mag Ieee.single a ≠ 0) : Rel (lgOf a) (lgF (widN a)) := by
  rw [lgOf_pos h0 hs hf, widN_eq hf]
  exact logMF_rel _ _
/-- The logarithm of a positive 32-bit word, as a 32-bit word. -/
def logWF (a : Nat) : Nat := narL (lgF (widN a))
theorem logW_quick {a : Nat} (hf : finB .f32 a = true) (hs : sgn Ieee.single a = false) (h0 : mag Ieee.single a ≠ 0) (h : logWF a < bad) : logOk a = true ∧ logWd a = logWF a ∧ finB .f32 (logWF a) = true := by
  obtain ⟨e1, e2, e3, e4, e5⟩ := nar_word (lgF_rel hf hs h0) h
  refine ⟨?_, ?_, e4⟩
  · unfold logOk; rw [e1]; rfl
  · unfold logWd; rw [e1]; rfl

/-! ### Comparisons and gaps -/
def okN (x : Nat) : Bool := Nat.ble (Nat.succ x) 18446744073709551616 && finN x
theorem okN_lt {x : Nat} (h : okN x = true) : x < bad ∧ Fin64 x := by
  unfold okN at h
  rw [Bool.and_eq_true] at h
  exact ⟨ble_true.1 h.1, finN_fin h.2⟩
def ltL (x y : Nat) : Bool := force x fun x => force y fun y => okN x && okN y && ltN x y
theorem ltL_lt {a b : Option Nat} {x y : Nat} (ha : Rel a x) (hb : Rel b y) (h : ltL x y = true) : ltM a b = true := by
  unfold ltL at h
  rw [force_eq, force_eq, Bool.and_eq_true, Bool.and_eq_true] at h
  obtain ⟨⟨h1, h2⟩, h3⟩ := h
  rw [ha (okN_lt h1).1, hb (okN_lt h2).1, ltN_eq (okN_lt h1).2 (okN_lt h2).2, h3]
/-- Not greater. -/
def leL (x y : Nat) : Bool := force x fun x => force y fun y => okN x && okN y && !ltN y x
def gapL (x y : Nat) : Nat := force x fun x => force y fun y => bif okN x && okN y then (bif ltN x y then subN y x else subN x y) else 18446744073709551616
theorem gapL_rel {a b : Option Nat} {x y : Nat} (ha : Rel a x) (hb : Rel b y) : Rel (gapM a b) (gapL x y) := by
  unfold gapL
  rw [force_eq, force_eq]
  cases h : okN x && okN y
  · intro c; exact absurd c (Nat.lt_irrefl _)
  · rw [Bool.and_eq_true] at h
    rw [cond_true, ha (okN_lt h.1).1, hb (okN_lt h.2).1]
    unfold gapM
    rw [ltN_eq (okN_lt h.1).2 (okN_lt h.2).2]
    cases ltN x y
    · exact subN_rel rfl rfl
    · exact subN_rel rfl rfl
/-- For all numbers below n. -/
def allN : Nat → (Nat → Bool) → Bool
  | 0, _ => true
  | n + 1, p => p n && allN n p
theorem allN_all {p : Nat → Bool} : ∀ {n : Nat}, allN n p = true → ∀ i, i < n → p i = true := by
  intro n
  induction n with
  | zero => intro _ i hi; omega
  | succ n ih =>
    intro h i hi
    unfold allN at h
    rw [Bool.and_eq_true] at h
    by_cases e : i = n
    · rw [e]; exact h.1
    · exact ih h.2 i (by omega)
end Go.Proofs.Ytlcekfahjakfgaa
