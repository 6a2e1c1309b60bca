/-
  Several texts of this claim in one.
  The law on numbers: bits, texts, sums and angles.
  The lift of a contract to a call at any world that fits: the contract is handed the world's shape and what the row lists (plain, no program).
-/
import Derived.Test.YtogliigpoojfoaaGreatDoorMc
import Derived.Test.YtogliigpoojfoaaGreatDoorMd
import Derived.Test.YtogliigpoojfoaaGreatDoorK8
import Derived.Test.YtogliigpoojfoaaGreatDoorKc
import Derived.Test.YtogliigpoojfoaaGreatDoorAo
import Derived.Test.YtogliigpoojfoaaGreatDoorKb
import Derived.Handed
import Derived.HandedShaped
section
namespace Go.Proofs.YtogliigpoojfoaaGreatDoor
set_option maxRecDepth 100000
open Go.RowKit Fl

theorem flush_no {a : Nat} : subB (flushN a) = false := by
  by_cases h : mag Ieee.single a < 8388608
  · rw [flushN_small h]
    refine subB_zero ?_
    show a / 2147483648 * 2147483648 % 2147483648 = 0
    exact Nat.mul_mod_left _ _
  · rw [flushN_great h]
    unfold subB
    exact decide_eq_false (by omega)
theorem flush_diff {a : Nat} (ha : (Lit.float .f32 a).wf = true) : (subB a == sameB a (flushN a)) = false := by
  cases h : subB a
  · rw [flushN_not_sub ha h, sameB_refl]; rfl
  · have hs : 0 < mag Ieee.single a ∧ mag Ieee.single a < 8388608 := of_decide_eq_true h
    have hz : mag Ieee.single (flushN a) = 0 := by
      rw [flushN_small hs.2]
      show a / 2147483648 * 2147483648 % 2147483648 = 0
      exact Nat.mul_mod_left _ _
    have n1 : (FloatKind.f32.decode a).isNaN = false := by
      rw [isNaN_iff]
      have : FloatKind.f32.format.infRung = 2139095040 := rfl
      exact decide_eq_false (by show ¬ FloatKind.f32.format.infRung < mag Ieee.single a; omega)
    have n2 : (FloatKind.f32.decode (flushN a)).isNaN = false := by
      rw [isNaN_iff]
      have : FloatKind.f32.format.infRung = 2139095040 := rfl
      exact decide_eq_false (by show ¬ FloatKind.f32.format.infRung < mag Ieee.single (flushN a); omega)
    unfold sameB
    rw [bitsI_inj_num ha (flushN_lt ha) n1 n2, decide_eq_false]
    · rfl
    · intro e
      rw [← e] at hz
      omega
theorem from_own {a : Nat} (h : a < 4294967296) : fromOf (bitsI a) = bitsN a ∧ fromOk (bitsI a) = true := by
  obtain ⟨h1, h2⟩ := bitsI_val h
  rw [h1]
  unfold fromOf fromOk
  rw [if_pos (by omega), decide_eq_true (by omega)]
  exact ⟨by omega, rfl⟩
theorem sine_quarter {g : Nat} (h : SinIs 1048576000 g) : g = 1065353216 := by
  have e : fconv .f64 .f32 (sinOf 1048576000) = some 1065353216 := by decide +kernel
  have h1 := h.1
  rw [e] at h1
  exact (mean_some h1).1
theorem iangof_anyC (g s : Nat) (hg : (Lit.float .f32 g).wf = true) (hs : (Lit.float .f32 s).wf = true) (w : World) :
    Calls Tryz.prog 35 #[.complex .f32 g s] w fun e w' => ∃ a, AngIs s g a ∧ e = .returned (.float .f32 a) ∧ Laid w w' := by
  go_enter Tryz.func35, Tryz.ntmps35
  go_wp2_with (go_at_call 34; refine (iangle_any s g hs hg _).mono ?_; rintro e w' ⟨a, ha, rfl, hL⟩)
  go_ret
  exact ⟨a, ha, rfl, hL⟩
theorem inarrow_any (a : Nat) (ha : (Lit.float .f64 a).wf = true) (w : World) :
    Calls Tryz.prog 36 #[.float .f64 a] w fun e w' => ∃ r, FConv .f64 .f32 a r ∧ e = .returned (.float .f32 r) ∧ ∃ n, w' = w.drewN n := by
  go_enter Tryz.func36, Tryz.ntmps36
  go_wp2_with (refine wpList_fconv rfl _ _ _ rfl .f64 .f32 _ rfl ha (by rw [Tryz.underlying46]; rfl) Tryz.underlying28 ?_; intro r n hr)
  go_ret
  exact ⟨r, hr, rfl, n, rfl⟩
theorem Bytes.below {w w' : World} {a : Option Addr} {l : List Int} {n : Nat} (h : Bytes w a l n) (hb : Below w.heap.size w w') : Bytes w' a l n := ⟨h.row.below hb, h.all, h.len⟩
theorem Bytes.draws {w : World} {a : Option Addr} {l : List Int} {n : Nat} (h : Bytes w a l n) (m : Nat) : Bytes (w.drewN m) a l n := ⟨h.row, h.all, h.len⟩
end Go.Proofs.YtogliigpoojfoaaGreatDoor
end

section
namespace Go.Proofs.YtogliigpoojfoaaGreatDoor
set_option maxRecDepth 100000
open Go
variable {H : Type} {enc : TypeId × Value → H}

theorem handed_shaped {a : Assume} {C : Checked} {os : Os} {f : FuncId} {fn : Func} {s : ChangeSpec} {conds : List PathCond} {apart fresh handsOn again : Bool} {X : World → Array Value → Prop}
    (hX : ∀ (w w' : World) (args : Array Value), w.heap = w'.heap → X w args → X w' args)
    (own : ownKnob C.prog.godebug = none) (started : os.Started) (noInit : C.prog.inits.idxOf? f = none) (hfn : C.prog.funcs[f]? = some fn)
    (witness : ∃ (w : World) (tape : Tape) (i : Input), w.os = os ∧ (w.forCall tape i).Shaped C.prog ∧ i.vars = [] ∧ Input.okWide C.prog (w.forCall tape i) .any w.heap.size f i ∧
      ((s.pre enc C.prog fn conds apart (w.forCall tape i).memory i.args ∧ X (w.forCall tape i).memory i.args) ∧ sizedMet enc C.prog fn (OpenSpec.ofChange s) apart (w.forCall tape i).memory i.args) ∧ a.holds C.prog (lone (Frame.enter C.prog f i.args .normal) [] (w.forCall tape i)))
    (contract : ∀ (W : World) (base : Nat) (args : Array Value) (ds gs : List (DataW H)) (before : List MemPlace),
      (∀ (j : Nat) t v, fn.params[j]? = some t → args[j]? = some v → Value.okWide C.prog W .any base t v) →
      DataW.Whole enc C.prog fn.params.toList s.vars apart W args.toList ds gs before →
      W.ShapedOpen C.prog → X W args →
      Calls C.prog f args W fun e W' => ∃ v, e = .returned v ∧ s.post enc C.prog fn apart fresh handsOn again W args v W') :
    ReturnsInHanded a C os f .any (fun w args => (s.pre enc C.prog fn conds apart w args ∧ X w args) ∧ sizedMet enc C.prog fn (OpenSpec.ofChange s) apart w args) (s.post enc C.prog fn apart fresh handsOn again) := by
  refine returnsInHanded_of_calls own started noInit witness ?_
  intro w tape i _ hsh _ hok hpre hholds
  obtain ⟨_, _, _, fn', hfn', _, _, _, _, hval⟩ := hok
  have e : fn' = fn := Option.some.inj (hfn'.symm.trans hfn)
  subst e
  obtain ⟨⟨⟨ds, gs, before, hw, hc⟩, hx⟩, hz⟩ := hpre
  have hw' := DataW.Whole.of_heap (w' := w.forCall tape i) (by rfl) hw
  refine (contract (w.forCall tape i) w.heap.size i.args ds gs before hval hw' hsh (hX _ _ _ (by rfl) hx)).mono fun e W' ⟨v, he, hp⟩ => ?_
  subst he
  exact ChangeSpec.post_blind hp
end Go.Proofs.YtogliigpoojfoaaGreatDoor
end
