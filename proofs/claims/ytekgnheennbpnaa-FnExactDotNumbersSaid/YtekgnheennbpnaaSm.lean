/-
  Contracts: sums and products of lists of numbers.
-/
import Derived.Test.YtekgnheennbpnaaSl
namespace Go.Proofs.Ytekgnheennbpnaa
open Go.RowKit Fl

def sumM (l : List Nat) : Option Nat := l.foldl (fun s x => fop .add .f32 s (mean .f32 x)) (some 0)
theorem sumM_snoc (l : List Nat) (k : Nat) (h : k < l.length) : sumM (l.take (k + 1)) = fop .add .f32 (sumM (l.take k)) (mean .f32 l[k]) := by
  unfold sumM
  rw [List.take_succ_eq_append_getElem h, List.foldl_append]; rfl
theorem mean_zero : mean .f32 0 = some 0 := by decide
theorem wf_zero : (Lit.float .f32 0).wf = true := by decide
def SumIs (l : List Nat) (k : Nat) (v : Value) : Prop := ∃ r, v = .float .f32 r ∧ mean .f32 r = sumM (l.take k) ∧ (Lit.float .f32 r).wf = true
theorem SumIs.step {l : List Nat} {k r q : Nat} (h : k < l.length) (hr : mean .f32 r = sumM (l.take k)) (hq : FRes .add .f32 r l[k] q) : SumIs l (k + 1) (.float .f32 q) :=
  ⟨q, rfl, by rw [sumM_snoc l k h, ← hr]; exact hq.1, hq.2⟩
theorem SumIs.all {l : List Nat} {k r : Nat} (h : l.length ≤ k) (hr : mean .f32 r = sumM (l.take k)) : mean .f32 r = sumM l := by
  rw [hr, List.take_of_length_le h]

set_option maxHeartbeats 400000 in
theorem lsum_any (a : Option Addr) (cap : Nat) (l : List Nat) (hl : l.length ≤ 1048576) (w : World) (h : FRow w a l) :
    Calls Try.prog 52 #[.slice a l.length cap] w fun e w' => ∃ r, (mean .f32 r = sumM l ∧ (Lit.float .f32 r).wf = true) ∧ e = .returned (.float .f32 r) ∧ ∃ n, w' = w.drewN n := by
  have hA := Lib_hid h
  clear h
  go_enter Try.func52, Try.ntmps52
  go_wp2
  go_loopw [3, 4] (fun v i wr => ∃ k : Nat, k ≤ l.length ∧ i = .int .i64 k ∧ SumIs l k v ∧ ∃ n, wr = w.drewN n) (fun _ i _ => l.length - (intOf i).toNat)
  case atStart => exact ⟨0, Nat.zero_le _, rfl, ⟨0, rfl, mean_zero, wf_zero⟩, 0, rfl⟩
  case round =>
    obtain ⟨k, hk, rfl, ⟨r, rfl, hr, hw⟩, n, rfl⟩ := hrel
    have hR := Lib_hid hr
    clear hr
    by_cases hlt : k < l.length
    · obtain ⟨b, o, rfl, _, hc⟩ := hA.out k hlt
      rw [getD_get hlt] at hc
      go_wp2_with (refine wpList_float rfl _ _ _ _ _ rfl rfl _ _ _ rfl rfl ?_; intro q m hq)
      go_roundw
      case rel => exact ⟨k + 1, by omega, by go_num, SumIs.step hlt hR.out hq, _, rfl⟩
      case measure => simp [intOf]; omega
    · go_wp2
      go_ret
      exact ⟨r, ⟨SumIs.all (by omega) hR.out, hw⟩, rfl, _, rfl⟩
set_option maxHeartbeats 400000 in
theorem isum_any (a : Option Addr) (cap : Nat) (l : List Nat) (hl : l.length ≤ 1048576) (w : World) (h : FRow w a l) :
    Calls Try.prog 53 #[.slice a l.length cap] w fun e w' => ∃ r, (mean .f32 r = sumM l ∧ (Lit.float .f32 r).wf = true) ∧ e = .returned (.float .f32 r) ∧ ∃ n, w' = w.drewN n := by
  have hA := Lib_hid h
  clear h
  go_enter Try.func53, Try.ntmps53
  go_wp2
  go_loopw [3, 5, 8] (fun v _ i wr => ∃ k : Nat, k ≤ l.length ∧ i = .int .i64 k ∧ SumIs l k v ∧ ∃ n, wr = w.drewN n) (fun _ _ i _ => l.length - (intOf i).toNat)
  case atStart => exact ⟨0, Nat.zero_le _, rfl, ⟨0, rfl, mean_zero, wf_zero⟩, 0, rfl⟩
  case round =>
    obtain ⟨k, hk, rfl, ⟨r, rfl, hr, hw⟩, n, rfl⟩ := hrel
    have hR := Lib_hid hr
    clear hr
    by_cases hlt : k < l.length
    · obtain ⟨b, o, rfl, _, hc⟩ := hA.out k hlt
      rw [getD_get hlt] at hc
      go_wp2_with (refine wpList_float rfl _ _ _ _ _ rfl rfl _ _ _ rfl rfl ?_; intro q m hq)
      go_roundw
      case rel => exact ⟨k + 1, by omega, by go_num, SumIs.step hlt hR.out hq, _, rfl⟩
      case measure => simp [intOf]; omega
    · go_wp2
      go_ret
      exact ⟨r, ⟨SumIs.all (by omega) hR.out, hw⟩, rfl, _, rfl⟩
/-- The sum of few numbers, nought of too many. -/
def sumOf (l : List Nat) : Option Nat := if l.length ≤ 256 then sumM l else some 0
def fewB (l : List Nat) : Bool := decide (l.length ≤ 256)
theorem few_any (a : Option Addr) (cap : Nat) (l : List Nat) (w : World) :
    Calls Try.prog 50 #[.slice a l.length cap] w fun e w' => e = .returned (.bool (fewB l)) ∧ w' = w := by
  have hb : Hid (fewB l = decide ((l.length : Int) ≤ 256)) := decide_eq_decide.2 (by omega)
  go_enter Try.func50, Try.ntmps50
  go_wp2
  go_ret
  exact ⟨by rw [hb.out]; rfl, rfl⟩
theorem ssum_any (a : Option Addr) (cap : Nat) (l : List Nat) (hl : l.length ≤ 1048576) (w : World) (h : FRow w a l) :
    Calls Try.prog 33 #[.slice a l.length cap] w fun e w' => ∃ r, (mean .f32 r = sumOf l ∧ (Lit.float .f32 r).wf = true) ∧ e = .returned (.tuple #[.float .f32 r, .bool (fewB l)]) ∧ ∃ n, w' = w.drewN n := by
  have hA := Lib_hid h
  clear h
  cases hf : fewB l
  · have hs : Hid (sumOf l = some 0) := if_neg (of_decide_eq_false hf)
    go_enter Try.func33, Try.ntmps33
    go_wp2_with (go_at_call 50; refine (few_any _ _ _ _).mono ?_; rintro e w' ⟨rfl, rfl⟩)
    go_ret2
    exact ⟨0, ⟨by rw [hs.out, mean_zero], wf_zero⟩, rfl, 0, rfl⟩
  · have hs : Hid (sumOf l = sumM l) := if_pos (of_decide_eq_true hf)
    go_enter Try.func33, Try.ntmps33
    go_wp2_with (first | (go_at_call 50; refine (few_any _ _ _ _).mono ?_; rintro e w' ⟨rfl, rfl⟩) | (go_at_call 52; refine (lsum_any _ _ _ (by assumption) _ hA.out).mono ?_; rintro e w' ⟨r, hr, rfl, n, rfl⟩))
    go_ret2
    exact ⟨r, by rw [hs.out]; exact hr, rfl, _, rfl⟩
theorem isumn_any (a : Option Addr) (cap : Nat) (l : List Nat) (hl : l.length ≤ 1048576) (w : World) (h : FRow w a l) :
    Calls Try.prog 34 #[.slice a l.length cap] w fun e w' => ∃ r, (mean .f32 r = sumOf l ∧ (Lit.float .f32 r).wf = true) ∧ e = .returned (.tuple #[.float .f32 r, .bool (fewB l)]) ∧ ∃ n, w' = w.drewN n := by
  have hA := Lib_hid h
  clear h
  by_cases hf : l.length ≤ 256
  · have hb : fewB l = true := decide_eq_true hf
    rw [hb]
    have hs : Hid (sumOf l = sumM l) := if_pos hf
    go_enter Try.func34, Try.ntmps34
    go_wp2_with (go_at_call 53; refine (isum_any _ _ _ (by assumption) _ hA.out).mono ?_; rintro e w' ⟨r, hr, rfl, n, rfl⟩)
    go_ret2
    exact ⟨r, by rw [hs.out]; exact hr, rfl, _, rfl⟩
  · have hb : fewB l = false := decide_eq_false hf
    rw [hb]
    have hs : Hid (sumOf l = some 0) := if_neg hf
    go_enter Try.func34, Try.ntmps34
    go_wp2
    go_ret2
    exact ⟨0, ⟨by rw [hs.out, mean_zero], wf_zero⟩, rfl, 0, rfl⟩
theorem below_drewN {B : Nat} {a w : World} (h : Below B a w) (n : Nat) : Below B a (w.drewN n) := ⟨h.os, h.tape, h.output, h.size, h.block⟩
theorem mean_wide {r q x y : Nat} (h : mean .f32 r = mean .f32 q) (hx : FConv .f32 .f64 r x) (hy : FConv .f32 .f64 q y) : mean .f64 x = mean .f64 y := conv_same h hx hy (fits_wide _) (fits_wide _)
set_option maxHeartbeats 800000 in
theorem law_SumNumbers (a : Option Addr) (cap : Nat) (l : List Nat) (w : World) (h : FRow w a l) (hw : AllWf l) :
    Calls Try.prog 12 #[.slice a l.length cap] w fun e w' => e = .returned (.bool true) ∧ Below w.heap.size w w' := by
  by_cases hl : l.length ≤ 1048576
  · have hA := Lib_hid h
    have hW := Lib_hid hw
    clear h hw
    go_enter Try.func12, Try.ntmps12
    go_wp2_with fail
    refine (toF_any _ _ _ hl _ hA.out).mono ?_
    rintro e w1 ⟨rfl, h1, b1⟩
    have H1 := Lib_hid h1
    have B1 := Lib_hid b1
    clear h1 b1
    go_wp2_with fail
    refine (ssum_any _ _ _ hl _ H1.out).mono ?_
    rintro e w1' ⟨r, hr, rfl, n1, rfl⟩
    have hR := Lib_hid hr
    clear hr
    go_wp2_with fail
    have A2 := Lib_hid (hA.out.below B1.out)
    refine (toF_any _ _ _ hl _ (A2.out.drewN n1)).mono ?_
    rintro e w2 ⟨rfl, h2, b2⟩
    have H2 := Lib_hid h2
    have B2 := Lib_hid b2
    clear h2 b2
    go_wp2_with fail
    refine (isumn_any _ _ _ hl _ H2.out).mono ?_
    rintro e w2' ⟨q, hq, rfl, n2, rfl⟩
    have hQ := Lib_hid hq
    clear hq
    have wr := hR.out.2
    have wq := hQ.out.2
    go_wp2_with (first | (refine wpList_fconv rfl _ _ _ rfl .f32 .f64 _ rfl wq (by rw [Try.underlying23]; rfl) Try.underlying33 ?_; intro x n3 hx) | (refine wpList_fconv rfl _ _ _ rfl .f32 .f64 _ rfl wr (by rw [Try.underlying23]; rfl) Try.underlying33 ?_; intro y n4 hy) | (go_at_call 26; refine (same_yes _ _ (by exact mean_wide (hQ.out.1.trans hR.out.1.symm) (by assumption) (by assumption)) _).mono ?_; rintro e w' ⟨rfl, n, rfl⟩))
    have A3 := Lib_hid ((A2.out.drewN n1).below B2.out)
    refine (toF_any _ _ _ hl _ (A3.out.drewN _)).mono ?_
    rintro e w3 ⟨rfl, h3, b3⟩
    have H3 := Lib_hid h3
    have B3 := Lib_hid b3
    clear h3 b3
    go_wp2_with fail
    have H4 := Lib_hid ((H2.out.drewN (n2 + n3 + n4 + n)).below B3.out)
    refine (eqF_any _ _ _ _ _ hl hW.out _ H4.out H3.out).mono ?_
    rintro e w' ⟨rfl, n5, rfl⟩
    go_wp2
    go_ret
    exact ⟨rfl, below_drewN ((below_drewN (below_drewN B1.out n1 |>.trans (B2.out.mono B1.out.size)) _).trans (B3.out.mono (Nat.le_trans B1.out.size B2.out.size))) n5⟩
  · clear h hw
    go_enter Try.func12, Try.ntmps12
    go_wp2
    go_ret
    exact ⟨rfl, Below.refl _ _⟩

/-- The sum of products, from left to right. -/
def dotM (l : List (Nat × Nat)) : Option Nat := l.foldl (fun s p => fop .add .f32 s (fop .mul .f32 (mean .f32 p.1) (mean .f32 p.2))) (some 0)
theorem dotM_snoc (l m : List Nat) (k : Nat) (h : k < l.length) (hm : m.length = l.length) : dotM ((l.zip m).take (k + 1)) = fop .add .f32 (dotM ((l.zip m).take k)) (fop .mul .f32 (mean .f32 l[k]) (mean .f32 m[k])) := by
  unfold dotM
  rw [List.take_succ_eq_append_getElem (by simp; omega), List.foldl_append]
  simp
def DotIs (l m : List Nat) (k : Nat) (v : Value) : Prop := ∃ r, v = .float .f32 r ∧ mean .f32 r = dotM ((l.zip m).take k) ∧ (Lit.float .f32 r).wf = true
theorem DotIs.step {l m : List Nat} {k r p q : Nat} (h : k < l.length) (hm : m.length = l.length) (hr : mean .f32 r = dotM ((l.zip m).take k)) (hp : FRes .mul .f32 l[k] m[k] p) (hq : FRes .add .f32 r p q) : DotIs l m (k + 1) (.float .f32 q) :=
  ⟨q, rfl, by rw [dotM_snoc l m k h hm, ← hr, ← hp.1]; exact hq.1, hq.2⟩
theorem DotIs.all {l m : List Nat} {k r : Nat} (h : l.length ≤ k) (hr : mean .f32 r = dotM ((l.zip m).take k)) : mean .f32 r = dotM (l.zip m) := by
  rw [hr, List.take_of_length_le (by simp; omega)]

set_option maxHeartbeats 1000000 in
theorem ldot_any (a b : Option Addr) (ca cb : Nat) (l m : List Nat) (hm : m.length = l.length) (hl : l.length ≤ 1048576) (w : World) (ha : FRow w a l) (hb : FRow w b m) :
    Calls Try.prog 51 #[.slice a l.length ca, .slice b l.length cb] w fun e w' => ∃ r, (mean .f32 r = dotM (l.zip m) ∧ (Lit.float .f32 r).wf = true) ∧ e = .returned (.float .f32 r) ∧ ∃ n, w' = w.drewN n := by
  have hA := Lib_hid ha
  have hB := Lib_hid hb
  have hM := Lib_hid hm
  clear ha hb hm
  go_enter Try.func51, Try.ntmps51
  go_wp2
  go_loopw [5, 6] (fun v i wr => ∃ k : Nat, k ≤ l.length ∧ i = .int .i64 k ∧ DotIs l m k v ∧ ∃ n, wr = w.drewN n) (fun _ i _ => l.length - (intOf i).toNat)
  case atStart => exact ⟨0, Nat.zero_le _, rfl, ⟨0, rfl, mean_zero, wf_zero⟩, 0, rfl⟩
  case round =>
    obtain ⟨k, hk, rfl, ⟨r, rfl, hr, hw⟩, n, rfl⟩ := hrel
    have hR := Lib_hid hr
    clear hr
    by_cases hlt : k < l.length
    · obtain ⟨b1, o1, rfl, _, hc1⟩ := hA.out k hlt
      obtain ⟨b2, o2, rfl, _, hc2⟩ := hB.out k (by rw [hM.out]; exact hlt)
      rw [getD_get hlt] at hc1
      rw [getD_get (by rw [hM.out]; exact hlt)] at hc2
      generalize hx : m[k]'(by rw [hM.out]; exact hlt) = x at hc2
      have hX := Lib_hid hx
      clear hx
      go_wp2_with fail
      refine wp_region_held (S := fun w' => w'.cell? ⟨b1, o1 + k, none⟩ = some (.float .f32 l[k]) ∧ w'.cell? ⟨b2, o2 + k, none⟩ = some (.float .f32 x)) (by kernel_rfl) ?_
      refine wpAnyH_take (i := 0) (v := .float .f32 r) rfl (by kernel_rfl) (by kernel_rfl) (by kernel_rfl) (fun _ _ _ h => h) (.inl ⟨rfl, fun w' hw' => ?_⟩) ⟨hc1, hc2⟩ ?_
      · rfl
      refine wpAnyH_take (i := 1) (v := .slice (some ⟨b1, o1, none⟩) l.length ca) rfl (by kernel_rfl) (by kernel_rfl) (by kernel_rfl) (fun _ _ _ h => h) (.inl ⟨rfl, fun w' hw' => ?_⟩) ⟨hc1, hc2⟩ ?_
      · rfl
      refine wpAnyH_take (i := 2) (v := .int .i64 k) rfl (by kernel_rfl) (by kernel_rfl) (by kernel_rfl) (fun _ _ _ h => h) (.inl ⟨rfl, fun w' hw' => ?_⟩) ⟨hc1, hc2⟩ ?_
      · rfl
      refine wpAnyH_take (i := 3) (v := .pointer (some ⟨b1, o1 + k, none⟩)) rfl (by kernel_rfl) (by kernel_rfl) (by kernel_rfl) (fun _ _ _ h => h) (.inl ⟨rfl, fun w' hw' => ?_⟩) ⟨hc1, hc2⟩ ?_
      · go_simp
      refine wpAnyH_take (i := 4) (v := .float .f32 l[k]) rfl (by kernel_rfl) (by kernel_rfl) (by kernel_rfl) (fun _ _ _ h => h) (.inl ⟨rfl, fun w' hw' => ?_⟩) ⟨hc1, hc2⟩ ?_
      · have g := hw'.1; go_simp
      refine wpAnyH_take (i := 5) (v := .slice (some ⟨b2, o2, none⟩) l.length cb) rfl (by kernel_rfl) (by kernel_rfl) (by kernel_rfl) (fun _ _ _ h => h) (.inl ⟨rfl, fun w' hw' => ?_⟩) ⟨hc1, hc2⟩ ?_
      · rfl
      refine wpAnyH_take (i := 6) (v := .int .i64 k) rfl (by kernel_rfl) (by kernel_rfl) (by kernel_rfl) (fun _ _ _ h => h) (.inl ⟨rfl, fun w' hw' => ?_⟩) ⟨hc1, hc2⟩ ?_
      · rfl
      refine wpAnyH_take (i := 7) (v := .pointer (some ⟨b2, o2 + k, none⟩)) rfl (by kernel_rfl) (by kernel_rfl) (by kernel_rfl) (fun _ _ _ h => h) (.inl ⟨rfl, fun w' hw' => ?_⟩) ⟨hc1, hc2⟩ ?_
      · go_simp
      refine wpAnyH_take (i := 8) (v := .float .f32 x) rfl (by kernel_rfl) (by kernel_rfl) (by kernel_rfl) (fun _ _ _ h => h) (.inl ⟨rfl, fun w' hw' => ?_⟩) ⟨hc1, hc2⟩ ?_
      · have g := hw'.2; go_simp
      go_simp
      refine wpAnyH_all (rs := [9]) (by kernel_rfl) (by decide) (fun i hi => ?_)
      simp only [List.mem_cons, List.not_mem_nil, or_false] at hi
      subst hi
      refine wpOp_of_wp rfl rfl ?_
      refine wp_float _ _ _ _ _ rfl rfl _ _ _ rfl rfl ?_
      intro p n1 hp
      refine ⟨⟨hc1, hc2⟩, ?_⟩
      go_simp
      refine wpAnyH_all (rs := [10]) (by kernel_rfl) (by decide) (fun i hi => ?_)
      simp only [List.mem_cons, List.not_mem_nil, or_false] at hi
      subst hi
      refine wpOp_of_wp rfl rfl ?_
      refine wp_float _ _ _ _ _ rfl rfl _ _ _ rfl rfl ?_
      intro q n2 hq
      refine ⟨⟨hc1, hc2⟩, ?_⟩
      go_simp
      refine wpAnyH_all (rs := [11]) (by kernel_rfl) (by decide) (fun i hi => ?_)
      simp only [List.mem_cons, List.not_mem_nil, or_false] at hi
      subst hi
      refine YieldsIf.wpOp rfl (v := .float .f32 q) (S := fun _ => True) (.inl ⟨rfl, fun w' _ => rfl⟩) trivial ⟨⟨hc1, hc2⟩, ?_⟩
      go_simp
      refine wpAnyH_done (by kernel_rfl) ?_ _
      go_wp2
      go_roundw
      case rel => exact ⟨k + 1, by omega, by go_num, DotIs.step hlt hM.out hR.out (by rw [hX.out]; exact hp) hq, _, drawn_once w n _⟩
      case measure => simp [intOf]; omega
    · go_wp2
      go_ret
      exact ⟨r, ⟨DotIs.all (by omega) hR.out, hw⟩, rfl, _, rfl⟩
def dotOf (l m : List Nat) : Option Nat := if l.length ≤ 256 ∧ l.length = m.length then dotM (l.zip m) else some 0
def dotB (l m : List Nat) : Bool := decide (l.length ≤ 256 ∧ l.length = m.length)
theorem sdot_any (a b : Option Addr) (ca cb : Nat) (l m : List Nat) (hl : l.length ≤ 1048576) (w : World) (ha : FRow w a l) (hb : FRow w b m) :
    Calls Try.prog 29 #[.slice a l.length ca, .slice b m.length cb] w fun e w' => ∃ r, (mean .f32 r = dotOf l m ∧ (Lit.float .f32 r).wf = true) ∧ e = .returned (.tuple #[.float .f32 r, .bool (dotB l m)]) ∧ ∃ n, w' = w.drewN n := by
  have hA := Lib_hid ha
  have hB := Lib_hid hb
  clear ha hb
  by_cases h1 : l.length ≤ 256
  · have hf : fewB l = true := decide_eq_true h1
    by_cases h2 : l.length = m.length
    · have e1 : dotB l m = true := decide_eq_true ⟨h1, h2⟩
      have hs : Hid (dotOf l m = dotM (l.zip m)) := if_pos ⟨h1, h2⟩
      have h3 := Lib_hid h2.symm
      rw [e1, ← h2]
      clear h2 e1
      go_enter Try.func29, Try.ntmps29
      go_wp2_with (first | (go_at_call 50; refine (few_any _ _ _ _).mono ?_; rintro e w' ⟨rfl, rfl⟩) | (go_at_call 51; refine (ldot_any _ _ _ _ _ _ h3.out (by assumption) _ hA.out hB.out).mono ?_; rintro e w' ⟨r, hr, rfl, n, rfl⟩))
      go_ret2
      exact ⟨r, by rw [hs.out]; exact hr, rfl, _, rfl⟩
    · have e1 : dotB l m = false := decide_eq_false (fun h => h2 h.2)
      have hs : Hid (dotOf l m = some 0) := if_neg (fun h => h2 h.2)
      have h4 : ((l.length : Int) != (m.length : Int)) = true := by rw [bne_iff_ne]; omega
      rw [e1]
      clear h2 e1
      go_enter Try.func29, Try.ntmps29
      go_wp2_with (go_at_call 50; refine (few_any _ _ _ _).mono ?_; rintro e w' ⟨rfl, rfl⟩)
      go_ret2
      exact ⟨0, ⟨by rw [hs.out, mean_zero], wf_zero⟩, rfl, 0, rfl⟩
  · have hf : fewB l = false := decide_eq_false h1
    have e1 : dotB l m = false := decide_eq_false (fun h => h1 h.1)
    have hs : Hid (dotOf l m = some 0) := if_neg (fun h => h1 h.1)
    rw [e1]
    clear e1
    go_enter Try.func29, Try.ntmps29
    go_wp2_with (go_at_call 50; refine (few_any _ _ _ _).mono ?_; rintro e w' ⟨rfl, rfl⟩)
    go_ret2
    exact ⟨0, ⟨by rw [hs.out, mean_zero], wf_zero⟩, rfl, 0, rfl⟩
set_option maxHeartbeats 1000000 in
theorem idot_any (a b : Option Addr) (ca cb : Nat) (l m : List Nat) (hl : l.length ≤ 1048576) (w : World) (ha : FRow w a l) (hb : FRow w b m) :
    Calls Try.prog 31 #[.slice a l.length ca, .slice b m.length cb] w fun e w' => ∃ r, (mean .f32 r = dotOf l m ∧ (Lit.float .f32 r).wf = true) ∧ e = .returned (.tuple #[.float .f32 r, .bool (dotB l m)]) ∧ ∃ n, w' = w.drewN n := by
  have hA := Lib_hid ha
  have hB := Lib_hid hb
  clear ha hb
  by_cases h1 : l.length ≤ 256
  · by_cases h2 : l.length = m.length
    · have e1 : dotB l m = true := decide_eq_true ⟨h1, h2⟩
      have hs : Hid (dotOf l m = dotM (l.zip m)) := if_pos ⟨h1, h2⟩
      have hM := Lib_hid h2.symm
      rw [e1, ← h2]
      clear h2 e1
      go_enter Try.func31, Try.ntmps31
      go_wp2
      go_loopw [6, 7, 8, 21] (fun v _ _ i wr => ∃ k : Nat, k ≤ l.length ∧ i = .int .i64 k ∧ DotIs l m k v ∧ ∃ n, wr = w.drewN n) (fun _ _ _ i _ => l.length - (intOf i).toNat)
      case atStart => exact ⟨0, Nat.zero_le _, rfl, ⟨0, rfl, mean_zero, wf_zero⟩, 0, rfl⟩
      case round =>
        obtain ⟨k, hk, rfl, ⟨r, rfl, hr, hw⟩, n, rfl⟩ := hrel
        have hR := Lib_hid hr
        clear hr
        by_cases hlt : k < l.length
        · obtain ⟨b1, o1, rfl, _, hc1⟩ := hA.out k hlt
          obtain ⟨b2, o2, rfl, _, hc2⟩ := hB.out k (by rw [hM.out]; exact hlt)
          rw [getD_get hlt] at hc1
          rw [getD_get (by rw [hM.out]; exact hlt)] at hc2
          generalize hx : m[k]'(by rw [hM.out]; exact hlt) = x at hc2
          have hX := Lib_hid hx
          clear hx
          go_wp2_with (first | (refine wpList_float rfl .mul _ _ _ _ rfl rfl _ _ _ rfl rfl ?_; intro p n1 hp) | (refine wpList_float rfl .add _ _ _ _ rfl rfl _ _ _ rfl rfl ?_; intro q n2 hq))
          go_roundw
          case rel => exact ⟨k + 1, by omega, by go_num, DotIs.step hlt hM.out hR.out (by rw [hX.out]; exact hp) hq, _, rfl⟩
          case measure => simp [intOf]; omega
        · go_wp2
          go_ret2
          exact ⟨r, by rw [hs.out]; exact ⟨DotIs.all (by omega) hR.out, hw⟩, rfl, _, rfl⟩
    · have e1 : dotB l m = false := decide_eq_false (fun h => h2 h.2)
      have hs : Hid (dotOf l m = some 0) := if_neg (fun h => h2 h.2)
      have h4 : ((l.length : Int) != (m.length : Int)) = true := by rw [bne_iff_ne]; omega
      rw [e1]
      clear h2 e1
      go_enter Try.func31, Try.ntmps31
      go_wp2
      go_ret2
      exact ⟨0, ⟨by rw [hs.out, mean_zero], wf_zero⟩, rfl, 0, rfl⟩
  · have e1 : dotB l m = false := decide_eq_false (fun h => h1 h.1)
    have hs : Hid (dotOf l m = some 0) := if_neg (fun h => h1 h.1)
    rw [e1]
    clear e1
    go_enter Try.func31, Try.ntmps31
    go_wp2
    go_ret2
    exact ⟨0, ⟨by rw [hs.out, mean_zero], wf_zero⟩, rfl, 0, rfl⟩
set_option maxHeartbeats 1600000 in
theorem law_DotNumbers (a : Option Addr) (ca : Nat) (l : List Nat) (b : Option Addr) (cb : Nat) (m : List Nat) (w : World) (ha : FRow w a l) (hwa : AllWf l) (hb : FRow w b m) (hwb : AllWf m) :
    Calls Try.prog 11 #[.slice a l.length ca, .slice b m.length cb] w fun e w' => e = .returned (.bool true) ∧ Below w.heap.size w w' := by
  by_cases hl : l.length ≤ 1048576
  · by_cases hl2 : m.length ≤ 1048576
    · have hA := Lib_hid ha
      have hB := Lib_hid hb
      have hW := Lib_hid hwa
      have hX := Lib_hid hwb
      clear ha hwa hb hwb
      go_enter Try.func11, Try.ntmps11
      go_wp2_with fail
      refine (toF_any _ _ _ hl _ hA.out).mono ?_
      rintro e w1 ⟨rfl, h, b1⟩
      have B1 := Lib_hid b1
      have P1 := Lib_hid h
      clear h b1
      go_wp2_with fail
      refine (toF_any _ _ _ hl2 _ (hB.out.below B1.out)).mono ?_
      rintro e w2 ⟨rfl, h, b1⟩
      have B2 := Lib_hid (B1.out.trans (b1.mono B1.out.size))
      have P2 := Lib_hid (P1.out.below b1)
      have Q2 := Lib_hid h
      clear h b1
      go_wp2_with fail
      refine (sdot_any _ _ _ _ _ _ hl _ P2.out Q2.out).mono ?_
      rintro e w2' ⟨r, hr, rfl, n1, rfl⟩
      have hR := Lib_hid hr
      clear hr P1 P2 Q2
      go_wp2_with fail
      refine (toF_any _ _ _ hl _ ((hA.out.below B2.out).drewN n1)).mono ?_
      rintro e w3 ⟨rfl, h, b1⟩
      have B3 := Lib_hid ((below_drewN B2.out n1).trans (b1.mono B2.out.size))
      have P3 := Lib_hid h
      clear h b1
      go_wp2_with fail
      refine (toF_any _ _ _ hl2 _ (hB.out.below B3.out)).mono ?_
      rintro e w4 ⟨rfl, h, b1⟩
      have B4 := Lib_hid (B3.out.trans (b1.mono B3.out.size))
      have P4 := Lib_hid (P3.out.below b1)
      have Q4 := Lib_hid h
      clear h b1
      go_wp2_with fail
      refine (idot_any _ _ _ _ _ _ hl _ P4.out Q4.out).mono ?_
      rintro e w4' ⟨q, hq, rfl, n2, rfl⟩
      have hQ := Lib_hid hq
      clear hq P3
      have wr := hR.out.2
      have wq := hQ.out.2
      go_wp2_with (first | (refine wpList_fconv rfl _ _ _ rfl .f32 .f64 _ rfl wq (by rw [Try.underlying23]; rfl) Try.underlying33 ?_; intro x n3 hx) | (refine wpList_fconv rfl _ _ _ rfl .f32 .f64 _ rfl wr (by rw [Try.underlying23]; rfl) Try.underlying33 ?_; intro y n4 hy) | (go_at_call 26; refine (same_yes _ _ (by exact mean_wide (hQ.out.1.trans hR.out.1.symm) (by assumption) (by assumption)) _).mono ?_; rintro e w' ⟨rfl, n, rfl⟩))
      have B5 := Lib_hid (below_drewN B4.out (n2 + n3 + n4 + n))
      refine (toF_any _ _ _ hl _ (hA.out.below B5.out)).mono ?_
      rintro e w5 ⟨rfl, h, b1⟩
      have B6 := Lib_hid (B5.out.trans (b1.mono B4.out.size))
      have P6 := Lib_hid ((P4.out.drewN (n2 + n3 + n4 + n)).below b1)
      have Q6 := Lib_hid ((Q4.out.drewN (n2 + n3 + n4 + n)).below b1)
      have R6 := Lib_hid h
      clear h b1
      go_wp2_with fail
      refine (eqF_any _ _ _ _ _ hl hW.out _ P6.out R6.out).mono ?_
      rintro e w' ⟨rfl, n5, rfl⟩
      go_wp2_with fail
      have B7 := Lib_hid (below_drewN B6.out n5)
      refine (toF_any _ _ _ hl2 _ (hB.out.below B7.out)).mono ?_
      rintro e w7 ⟨rfl, h, b1⟩
      have B8 := Lib_hid (B7.out.trans (b1.mono B6.out.size))
      have Q8 := Lib_hid ((Q6.out.drewN n5).below b1)
      have R8 := Lib_hid h
      clear h b1
      go_wp2_with fail
      refine (eqF_any _ _ _ _ _ hl2 hX.out _ Q8.out R8.out).mono ?_
      rintro e w' ⟨rfl, n6, rfl⟩
      go_wp2
      go_ret
      exact ⟨rfl, below_drewN B8.out n6⟩
    · clear ha hb hwa hwb
      go_enter Try.func11, Try.ntmps11
      go_wp2
      go_ret
      exact ⟨rfl, Below.refl _ _⟩
  · clear ha hb hwa hwb
    go_enter Try.func11, Try.ntmps11
    go_wp2
    go_ret
    exact ⟨rfl, Below.refl _ _⟩
end Go.Proofs.Ytekgnheennbpnaa
