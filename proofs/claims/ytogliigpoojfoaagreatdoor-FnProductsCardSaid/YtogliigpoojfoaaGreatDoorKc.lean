/-
  Several texts of this claim in one.
  Contracts: sums and products of lists of numbers.
  How a slice of 32-bit numbers that came in is opened.
  The law on texts of lists of numbers.
-/
import Derived.Test.YtogliigpoojfoaaGreatDoorK6
import Derived.ProofKit
import Derived.Deep.Slices
import Derived.Test.YtogliigpoojfoaaGreatDoorK8
import Derived.Lib.TrailingZeros
section
namespace Go.Proofs.YtogliigpoojfoaaGreatDoor
set_option maxRecDepth 100000
open Go.RowKit Fl

def sumM (l : List Nat) : Option Nat := l.foldl (fun s x => fop .add .f32 s (mean .f32 x)) (some 0)
theorem sumM_snoc (l : List Nat) (k : Nat) (h : k < l.length) : sumM (l.take (k + 1)) = fop .add .f32 (sumM (l.take k)) (mean .f32 l[k]) := by
  unfold sumM
  rw [List.take_succ_eq_append_getElem h, List.foldl_append]; rfl
theorem mean_zero : mean .f32 0 = some 0 := by decide
theorem wf_zero : (Lit.float .f32 0).wf = true := by decide
def SumIs (l : List Nat) (k : Nat) (v : Value) : Prop := ∃ r, v = .float .f32 r ∧ mean .f32 r = sumM (l.take k) ∧ (Lit.float .f32 r).wf = true
theorem SumIs.step {l : List Nat} {k r q : Nat} (h : k < l.length) (hr : mean .f32 r = sumM (l.take k)) (hq : FRes .add .f32 r l[k] q) : SumIs l (k + 1) (.float .f32 q) :=
  ⟨q, rfl, by rw [sumM_snoc l k h, ← hr]; exact hq.1, hq.2⟩
theorem SumIs.all {l : List Nat} {k r : Nat} (h : l.length ≤ k) (hr : mean .f32 r = sumM (l.take k)) : mean .f32 r = sumM l := by
  rw [hr, List.take_of_length_le h]

set_option maxHeartbeats 400000 in
theorem isum_any (a : Option Addr) (cap : Nat) (l : List Nat) (hl : l.length ≤ 1048576) (w : World) (h : FRow w a l) :
    Calls Tryz.prog 64 #[.slice a l.length cap] w fun e w' => ∃ r, (mean .f32 r = sumM l ∧ (Lit.float .f32 r).wf = true) ∧ e = .returned (.float .f32 r) ∧ ∃ n, w' = w.drewN n := by
  have hA := Lib_hid h
  clear h
  go_enter Tryz.func64, Tryz.ntmps64
  go_wp2
  go_loopw [3, 5, 8] (fun v _ i wr => ∃ k : Nat, k ≤ l.length ∧ i = .int .i64 k ∧ SumIs l k v ∧ ∃ n, wr = w.drewN n) (fun _ _ i _ => l.length - (intOf i).toNat)
  case atStart => exact ⟨0, Nat.zero_le _, rfl, ⟨0, rfl, mean_zero, wf_zero⟩, 0, rfl⟩
  case round =>
    obtain ⟨k, hk, rfl, ⟨r, rfl, hr, hw⟩, n, rfl⟩ := hrel
    have hR := Lib_hid hr
    clear hr
    by_cases hlt : k < l.length
    · obtain ⟨b, o, rfl, _, hc⟩ := hA.out k hlt
      rw [getD_get hlt] at hc
      go_wp2_with (refine wpList_float rfl _ _ _ _ _ rfl rfl _ _ _ rfl rfl ?_; intro q m hq)
      go_roundw
      case rel => exact ⟨k + 1, by omega, by go_num, SumIs.step hlt hR.out hq, _, rfl⟩
      case measure => simp [intOf]; omega
    · go_wp2
      go_ret
      exact ⟨r, ⟨SumIs.all (by omega) hR.out, hw⟩, rfl, _, rfl⟩
/-- The sum of few numbers, nought of too many. -/
def sumOf (l : List Nat) : Option Nat := if l.length ≤ 256 then sumM l else some 0
def fewB (l : List Nat) : Bool := decide (l.length ≤ 256)
theorem isumn_any (a : Option Addr) (cap : Nat) (l : List Nat) (hl : l.length ≤ 1048576) (w : World) (h : FRow w a l) :
    Calls Tryz.prog 30 #[.slice a l.length cap] w fun e w' => ∃ r, (mean .f32 r = sumOf l ∧ (Lit.float .f32 r).wf = true) ∧ e = .returned (.tuple #[.float .f32 r, .bool (fewB l)]) ∧ ∃ n, w' = w.drewN n := by
  have hA := Lib_hid h
  clear h
  by_cases hf : l.length ≤ 256
  · have hb : fewB l = true := decide_eq_true hf
    rw [hb]
    have hs : Hid (sumOf l = sumM l) := if_pos hf
    go_enter Tryz.func30, Tryz.ntmps30
    go_wp2_with (go_at_call 64; refine (isum_any _ _ _ (by assumption) _ hA.out).mono ?_; rintro e w' ⟨r, hr, rfl, n, rfl⟩)
    go_ret2
    exact ⟨r, by rw [hs.out]; exact hr, rfl, _, rfl⟩
  · have hb : fewB l = false := decide_eq_false hf
    rw [hb]
    have hs : Hid (sumOf l = some 0) := if_neg hf
    go_enter Tryz.func30, Tryz.ntmps30
    go_wp2
    go_ret2
    exact ⟨0, ⟨by rw [hs.out, mean_zero], wf_zero⟩, rfl, 0, rfl⟩

/-- The sum of products, from left to right. -/
def dotM (l : List (Nat × Nat)) : Option Nat := l.foldl (fun s p => fop .add .f32 s (fop .mul .f32 (mean .f32 p.1) (mean .f32 p.2))) (some 0)
theorem dotM_snoc (l m : List Nat) (k : Nat) (h : k < l.length) (hm : m.length = l.length) : dotM ((l.zip m).take (k + 1)) = fop .add .f32 (dotM ((l.zip m).take k)) (fop .mul .f32 (mean .f32 l[k]) (mean .f32 m[k])) := by
  unfold dotM
  rw [List.take_succ_eq_append_getElem (by simp; omega), List.foldl_append]
  simp
def DotIs (l m : List Nat) (k : Nat) (v : Value) : Prop := ∃ r, v = .float .f32 r ∧ mean .f32 r = dotM ((l.zip m).take k) ∧ (Lit.float .f32 r).wf = true
theorem DotIs.step {l m : List Nat} {k r p q : Nat} (h : k < l.length) (hm : m.length = l.length) (hr : mean .f32 r = dotM ((l.zip m).take k)) (hp : FRes .mul .f32 l[k] m[k] p) (hq : FRes .add .f32 r p q) : DotIs l m (k + 1) (.float .f32 q) :=
  ⟨q, rfl, by rw [dotM_snoc l m k h hm, ← hr, ← hp.1]; exact hq.1, hq.2⟩
theorem DotIs.all {l m : List Nat} {k r : Nat} (h : l.length ≤ k) (hr : mean .f32 r = dotM ((l.zip m).take k)) : mean .f32 r = dotM (l.zip m) := by
  rw [hr, List.take_of_length_le (by simp; omega)]

def dotOf (l m : List Nat) : Option Nat := if l.length ≤ 256 ∧ l.length = m.length then dotM (l.zip m) else some 0
def dotB (l m : List Nat) : Bool := decide (l.length ≤ 256 ∧ l.length = m.length)
end Go.Proofs.YtogliigpoojfoaaGreatDoor
end

section
namespace Go.Proofs.YtogliigpoojfoaaGreatDoor
set_option maxRecDepth 100000
open Go.ChangeShapes Go.WideShapes Go.RowKit Go.Deep

section
variable {H : Type} {enc : TypeId × Value → H} {P : Program} {w : World} {base : Nat} {spare : Nat → Bool} {held : Bool} {t : TypeId} {cs : List Value} {x : DataW H × List MemPlace} {fuel : Nat}
theorem trod_float {k : FloatKind} (ht : P.underlying t = some (.float k)) (h : DataW.trod enc P w base spare held fuel t cs = some x) : ∃ b, cs = [.float k b] ∧ (Lit.float k b).wf = true := by
  cases fuel with
  | zero => simp [DataW.trod] at h
  | succ n =>
    unfold DataW.trod at h
    rw [ht] at h
    split at h <;> simp_all

theorem open_floats {e : TypeId} (ht : P.underlying t = some (.slice e)) (he : P.underlying e = some (.float .f32)) (hc : P.cellsOf e = 1) (h : DataW.trod enc P w base spare held fuel t cs = some x) :
    ∃ a cap l, cs = [.slice a l.length cap] ∧ FRow w a l ∧ AllWf l := by
  rcases open_slice1 ht hc h with ⟨rfl, -⟩ | ⟨a, len, cap, m, n, V, D, Pl, rfl, hb, hl, hcm, hm, -, hel⟩
  · exact ⟨none, 0, [], rfl, fun i hi => by simp at hi, fun i hi => by simp at hi⟩
  · have hlm : len ≤ m := by rw [hm]; split <;> omega
    have h1 : ∀ i, i < len → ∃ b, V i = .float .f32 b ∧ (Lit.float .f32 b).wf = true := by
      intro i hi
      obtain ⟨b, hb, hw⟩ := trod_float he (hel i (by omega)).2
      exact ⟨b, by simpa using hb, hw⟩
    obtain ⟨f, hf⟩ := choose_lt h1
    have hget : ∀ i, i < len → ((List.range len).map f).getD i 0 = f i := by
      intro i hi
      simp [List.getD, hi]
    refine ⟨some a, cap, (List.range len).map f, by simp, fun i hi => ?_, fun i hi => ?_⟩
    · have hi' : i < len := by simpa using hi
      have hcell := (hel i (by omega)).1
      rw [(hf i hi').1] at hcell
      obtain ⟨ab, ao, asp⟩ := a
      have hcell0 := (hel 0 (by omega)).1
      have hsp : asp = none := by
        have e0 : (⟨ab, ao, asp⟩ : Addr).add 0 = ⟨ab, ao, asp⟩ := by simp [Addr.add]
        rw [e0] at hcell0
        unfold World.cell? at hcell0
        split at hcell0
        · cases asp with
          | none => rfl
          | some s => simp at hcell0
        · cases hcell0
      subst hsp
      have hadd : (⟨ab, ao, none⟩ : Addr).add i = ⟨ab, ao + i, none⟩ := by
        unfold Addr.add
        by_cases h0 : i = 0
        · subst h0; simp
        · simp [h0]
      rw [hadd] at hcell
      refine ⟨ab, ao, rfl, World.block_lt_of_cell? w _ hcell, ?_⟩
      rw [hget i hi']; exact hcell
    · have hi' : i < len := by simpa using hi
      rw [hget i hi']; exact (hf i hi').2
end
end Go.Proofs.YtogliigpoojfoaaGreatDoor
end

section
namespace Go.Proofs.YtogliigpoojfoaaGreatDoor
set_option maxRecDepth 100000
open Go.RowKit Fl

theorem gTab : (Tryz.prog.globals[6]?).map (·.type) = some 160 := by kernel_rfl
theorem gTabN : Tryz.prog.globalNamed "math/bits.deBruijn64tab" = some 6 := by kernel_rfl
def tabZ : List Int := Lib.deBruijn64tab.map Int.ofNat
theorem tab_head {W : World} {rest : List (String × DataW Unit)} (h : laidMet Tryz.prog (("math/bits.deBruijn64tab", Rows.laid_math_bits_deBruijn64tab) :: rest) W) : TabOk W := by
  have h1 := Lib.tabIs_of_head (k := .u8) (zs := tabZ) gTabN gTab Tryz.underlying160 Tryz.underlying5 (by kernel_rfl) (by kernel_rfl) h
  have h2 := Lib.TabIs.cell h1 gTabN 15 (by decide)
  have e : tabZ.getD 15 0 = 4 := by decide
  rw [e] at h2
  exact h2
end Go.Proofs.YtogliigpoojfoaaGreatDoor
end
