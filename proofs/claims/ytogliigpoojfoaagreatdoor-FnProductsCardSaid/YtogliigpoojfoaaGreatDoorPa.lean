/-
  What the law on products needs besides: small whole parts, lists compared, finite complex numbers.
-/
import Derived.Test.YtogliigpoojfoaaGreatDoorIp
import Derived.Test.YtogliigpoojfoaaGreatDoorNc
import Derived.Test.YtogliigpoojfoaaGreatDoorCb
import Derived.Test.YtogliigpoojfoaaGreatDoorKb
import Derived.Test.YtogliigpoojfoaaGreatDoorKc
import Derived.Laws.FloatArith
import Derived.Deep.QuietTactic
import Derived.Deep.RegionWith
import Derived.BigQuiet
namespace Go.Proofs.YtogliigpoojfoaaGreatDoor
set_option maxRecDepth 100000
open Go.RowKit Fl

/-- A 32-bit word that is a small whole number, with what the walks ask of it. -/
structure Part (r : Nat) (n : Int) : Prop where
  bd : n.natAbs ≤ 200
  is : IsW r n
  cut : floatToIntVal .f32 r .i64 = some n
  dbl : ∃ s, floatBits .add .f32 r r = some s ∧ ∀ u, FRes .mul .f32 r 1073741824 u → (FloatKind.f32.format.order u s == some .eq) = true
theorem part_all : ∀ i : Nat, i < 401 → floatToIntVal .f32 (floatOfInt .f32 ((i : Int) - 200)) .i64 = some ((i : Int) - 200) ∧
    fop .mul .f32 (mean .f32 (floatOfInt .f32 ((i : Int) - 200))) (mean .f32 1073741824) = floatBits .add .f32 (floatOfInt .f32 ((i : Int) - 200)) (floatOfInt .f32 ((i : Int) - 200)) ∧
    (match floatBits .add .f32 (floatOfInt .f32 ((i : Int) - 200)) (floatOfInt .f32 ((i : Int) - 200)) with | some s => FloatKind.f32.format.order s s == some .eq | none => false) = true := by decide +kernel
theorem isw_int {n : Int} (h : n.natAbs < 2 ^ 24) : IsW (floatOfInt .f32 n) n := ⟨is_int h, floatOfInt_wf _ _⟩
theorem part_of {n : Int} (h : -200 ≤ n ∧ n ≤ 200) : Part (floatOfInt .f32 n) n := by
  obtain ⟨i, hi, rfl⟩ : ∃ i : Nat, i < 401 ∧ n = (i : Int) - 200 := ⟨(n + 200).toNat, by omega, by omega⟩
  obtain ⟨h1, h2, h3⟩ := part_all i hi
  refine ⟨by omega, isw_int (by omega), h1, ?_⟩
  generalize floatOfInt .f32 ((i : Int) - 200) = r at h2 h3
  cases hs : floatBits .add .f32 r r with
  | none => rw [hs] at h3; cases h3
  | some s =>
    rw [hs] at h2 h3
    refine ⟨s, rfl, fun u hu => ?_⟩
    have h4 := hu.1
    rw [h2] at h4
    obtain ⟨rfl, -⟩ := mean_some h4
    exact h3
theorem is_eq {a b : Nat} {n : Int} (ha : IsW a n) (hb : IsW b n) : (FloatKind.f32.format.order a b == some .eq) = true := by
  rw [is_order ha.1 hb.1, Int.compare_eq_eq.2 rfl]; rfl
theorem is_nil : IsW 0 0 := ⟨⟨by decide, by rw [Int.zero_mul]; decide⟩, by decide⟩
theorem is_zero {a : Nat} {n : Int} (ha : IsW a n) : (FloatKind.f32.format.order a 0 == some .eq) = decide (n = 0) := by
  rw [is_order ha.1 is_nil.1]
  by_cases h : n = 0
  · subst h; rfl
  · rw [decide_eq_false h]
    rcases Int.lt_or_gt_of_ne h with c | c
    · rw [cmp_lt c]; rfl
    · rw [cmp_gt c]; rfl
theorem sgn_int {n : Int} (h : n.natAbs < 2 ^ 24) (h0 : 0 ≤ n) : sgn Ieee.single (floatOfInt .f32 n) = false := by
  obtain ⟨r, hr, -, hrd⟩ := whole_rung32 h
  have : floatOfInt .f32 n = Ieee.single.word (decide (n < 0)) r := by
    show Ieee.single.nearest _ n.natAbs 0 = _
    rw [nearest_rnd, hrd, Nat.min_eq_left (Nat.le_of_lt hr)]
  rw [this, sgn_word _ _ (Nat.le_of_lt hr)]
  exact decide_eq_false (by omega)
theorem run_int32 {P : Program} (w : World) (src dst : TypeId) {x : Nat} {z : Int} (h : x = floatOfInt .f32 z) (hs : (P.underlying src).isSome = true) (hd : P.underlying dst = some (.float .f32)) :
    (convert src dst (.int .i64 z)).run P w = .ok (.float .f32 x) w := by
  rw [run_convert_int_float w src dst .i64 .f32 z hs hd, h]
theorem bwhole_part (a : Option Addr) (cap : Nat) (l : List Int) (n : Nat) (hl : n ≤ 1048576) (w : World) (hb : Bytes w a l n) :
    Calls Tryz.prog 6 #[.slice a n cap, .int .i64 1, .int .i64 200] w fun e w' => ∃ (g' vc : Nat) (x y : Int) (u v : Nat), (Part u x ∧ Part v y) ∧ e = .returned (.slice (some ⟨g', 0, none⟩) 1 vc) ∧ w'.cell? ⟨g', 0, none⟩ = some (.complex .f32 u v) ∧ Below w.heap.size w w' := by
  refine (bwhole_any a cap l n hl w hb).mono ?_
  rintro e w' ⟨g', vc, x, y, ⟨hx, hy⟩, rfl, ho, hB⟩
  refine ⟨g', vc, x, y, _, _, ⟨part_of hx, part_of hy⟩, rfl, ?_, hB⟩
  have h1 := ho.cellAt 0 (by omega)
  rw [h1]; rfl
theorem narrowc_any (x y : Nat) (hx : (Lit.float .f64 x).wf = true) (hy : (Lit.float .f64 y).wf = true) (w : World) :
    Calls Tryz.prog 25 #[.complex .f64 x y] w fun e w' => ∃ r t, (FConv .f64 .f32 x r ∧ FConv .f64 .f32 y t) ∧ e = .returned (.complex .f32 r t) ∧ ∃ n, w' = w.drewN n := by
  go_enter Tryz.func25, Tryz.ntmps25
  go_wp2_with (first | (have _ := hr; refine wpList_fconv rfl _ _ _ rfl .f64 .f32 y rfl hy (by rw [Tryz.underlying46]; rfl) Tryz.underlying28 ?_; intro t n2 ht) | (refine wpList_fconv rfl _ _ _ rfl .f64 .f32 x rfl hx (by rw [Tryz.underlying46]; rfl) Tryz.underlying28 ?_; intro r n1 hr))
  go_ret
  exact ⟨r, t, ⟨hr, ht⟩, rfl, _, rfl⟩
theorem ifinc_any (x y : Nat) (p q : Bool) (hp : finB .f32 x = p) (hq : finB .f32 y = q) (w : World) :
    Calls Tryz.prog 26 #[.complex .f32 x y] w fun e w' => e = .returned (.bool (p && q)) ∧ Laid w w' := by
  have hB := build2 x y
  have hF : Hid ((!([x, y].any fun x => !finB .f32 x)) = (p && q)) := by
    show (!([x, y].any fun x => !finB .f32 x)) = (p && q)
    simp only [List.any_cons, List.any_nil, hp, hq]
    cases p <;> cases q <;> rfl
  clear hp hq
  go_enter Tryz.func26, Tryz.ntmps26
  go_wp2_with (go_at_call 60; refine (af_any (some ⟨w.heap.size, 0, none⟩) 2 [x, y] (by simp) _ (row2 x y w)).mono ?_; rw [hF.out]; rintro e w' ⟨rfl, naf, rfl⟩)
  go_ret
  exact ⟨rfl, ⟨_, _, rfl⟩⟩
theorem quiet_addP {P : Program} {f : FuncId} {args : Array Value} {w : World} {a n : Nat} {v : Value}
    (h : Calls P f args (w.drewN (a + n)) fun e w' => e = .returned v ∧ w' = w.drewN (a + n)) : Calls P f args (w.drewN (a + n)) fun e w'' => e = .returned v ∧ ∃ m, w'' = w.drewN (a + m) :=
  h.mono fun _ _ ⟨he, hm⟩ => ⟨he, n, hm⟩
theorem bsame_any (L : List (Nat × Nat)) (k : Nat) (hk : L.length = k) (hw : CWf L) (a b : Option Addr) (ca cb : Nat) (w : World) (ha : CRow w a (L.map bitsC)) (hb : CRow w b L) (h256 : k ≤ 256) :
    Calls Tryz.prog 23 #[.slice a k ca, .slice b k cb] w fun e w' => e = .returned (.bool true) ∧ ∃ n, w' = w.drewN n := by
  have hA := hidI ha
  have hB := hidI hb
  have hL := hidI hk
  have hW := hidI hw
  clear ha hb hk hw
  go_enter Tryz.func23, Tryz.ntmps23
  go_wp2
  go_loopw [13] (fun i wr => ∃ (q d : Nat), wr = w.drewN d ∧ q ≤ k ∧ i = .int .i64 q) (fun i _ => k - (intOf i).toNat)
  case atStart => exact ⟨0, 0, rfl, Nat.zero_le _, rfl⟩
  case round =>
    obtain ⟨q, d, rfl, hq, rfl⟩ := hrel
    by_cases hqk : q < k
    · have hqL : q < L.length := by rw [hL.out]; exact hqk
      have hqB : q < (L.map bitsC).length := by rw [List.length_map]; exact hqL
      obtain ⟨b6, o6, rfl, hc6⟩ := crow_at hA.out hqB
      obtain ⟨b7, o7, rfl, hc7⟩ := crow_at hB.out hqL
      rw [List.getElem_map] at hc6
      have hlt := hW.out.lt hqL
      have hs1 := sameB_own hlt.1
      have hs2 := sameB_own hlt.2
      have hS := hidI (fun w => ssamec_any (bitsN L[q].1) (bitsN L[q].2) L[q].1 L[q].2 hs1 hs2 w)
      have hc6' : w.cell? ⟨b6, o6 + q, none⟩ = some (.complex .f32 (bitsN L[q].1) (bitsN L[q].2)) := hc6
      clear hc6 hs1 hs2 hlt
      generalize bitsN L[q].1 = x1 at hc6' hS
      generalize bitsN L[q].2 = x2 at hc6' hS
      generalize L[q].1 = y1 at hc7 hS
      generalize L[q].2 = y2 at hc7 hS
      clear hqL hqB
      have hqI : (q : Int) < (k : Int) := by omega
      go_wp2_with fail
      go_quiet ((go_at_call 58; exact quiet_addP (hS.out _)))
      go_wp2
      go_roundw
      case rel => exact ⟨q + 1, _, rfl, by omega, by go_num⟩
      case measure => simp [intOf]; omega
    · have hqk' : q = k := by omega
      subst hqk'
      go_wp2
      go_ret
      exact ⟨rfl, _, rfl⟩
end Go.Proofs.YtogliigpoojfoaaGreatDoor
