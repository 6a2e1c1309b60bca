/-
  The exponential of small numbers, and logarithms whose words are known.
-/
import Derived.Test.YtlcekfahjakfgaaLk
namespace Go.Proofs.Ytlcekfahjakfgaa
open Go.RowKit Fl

def c256 : Nat := 4643211215818981376
def kE : Nat → Option Nat
  | 0 => some 4622945017495814144
  | j + 1 => fop .sub .f64 (kE j) (some one64)
def expP (t : Option Nat) : Nat → Option Nat
  | 0 => some one64
  | j + 1 => fop .add .f64 (some one64) (fop .quo .f64 (fop .mul .f64 t (expP t j)) (kE j))
def sqP (p : Option Nat) : Nat → Option Nat
  | 0 => p
  | j + 1 => fop .mul .f64 (sqP p j) (sqP p j)
/-- The exponential of a number that is not far from nought. -/
def expM (x : Option Nat) : Option Nat := sqP (expP (fop .quo .f64 x (some c256)) 12) 8
theorem mean_256 : mean .f64 4643211215818981376 = some c256 := by decide +kernel
theorem kE_test : ∀ j, j < 12 → geM (kE j) (some one64) = true := by decide +kernel
theorem kE_end : geM (kE 12) (some one64) = false := by decide +kernel
theorem kE_step {j k q : Nat} (hk : mean .f64 k = kE j) (hq : FRes .sub .f64 k 4607182418800017408 q) : mean .f64 q = kE (j + 1) := by
  rw [hq.1, hk, mean_one64]; rfl
def leftE (v : Value) : Nat := ((FloatKind.f64.decode (bitsOf v)).toInt .zero).elim 0 fun n => (n + 1).toNat
theorem leftE_of {j k : Nat} (hj : j < 13) (hk : mean .f64 k = kE j) : leftE (.float .f64 k) = 13 - j := by
  have h : ∀ j, j < 13 → (kE j).any (fun b => decide (leftE (.float .f64 b) = 13 - j)) = true := by decide +kernel
  have := h j hj
  rw [← hk] at this
  unfold mean at this
  split at this
  · cases this
  · exact of_decide_eq_true this
theorem kE_less {j k q : Nat} (hj : j < 12) (hk : mean .f64 k = kE j) (hq : FRes .sub .f64 k 4607182418800017408 q) : leftE (.float .f64 q) < leftE (.float .f64 k) := by
  rw [leftE_of (by omega) hk, leftE_of (by omega) (kE_step hk hq)]; omega
theorem expP_step {t j k p a b c : Nat} (hk : mean .f64 k = kE j) (hp : mean .f64 p = expP (mean .f64 t) j) (ha : FRes .mul .f64 t p a) (hb : FRes .quo .f64 a k b) (hc : FRes .add .f64 4607182418800017408 b c) : mean .f64 c = expP (mean .f64 t) (j + 1) := by
  rw [hc.1, hb.1, ha.1, hp, mean_one64, hk]; rfl
theorem sqP_step {p0 : Option Nat} {j p a : Nat} (hp : mean .f64 p = sqP p0 j) (ha : FRes .mul .f64 p p a) : mean .f64 a = sqP p0 (j + 1) := by
  rw [ha.1, hp]; rfl
theorem exp_end {x t p : Nat} (ht : FRes .quo .f64 x 4643211215818981376 t) (hp : mean .f64 p = sqP (expP (mean .f64 t) 12) 8) : mean .f64 p = expM (mean .f64 x) := by
  rw [hp, ht.1, mean_256]; rfl

set_option maxHeartbeats 1000000 in
theorem iexp_mid (x : Nat) (h1 : (FloatKind.f64.format.order x 4641240890982006784 == some .gt) = false) (h2 : (FloatKind.f64.format.order x 13864612927836782592 == some .lt) = false) (w : World) :
    Calls Try.prog 37 #[.float .f64 x] w fun e w' => ∃ r, (mean .f64 r = expM (mean .f64 x) ∧ (Lit.float .f64 r).wf = true) ∧ e = .returned (.float .f64 r) ∧ ∃ n, w' = w.drewN n := by
  go_enter Try.func37, Try.ntmps37
  go_wp2_with (refine wpList_float rfl .quo _ _ _ _ rfl rfl .f64 x 4643211215818981376 rfl rfl ?_; intro t nt ht)
  have hT := Lib_hid' ht
  clear ht h1 h2
  go_loopw [4, 5] (fun p k wr => ∃ j : Nat, j ≤ 12 ∧ (∃ kb, k = .float .f64 kb ∧ mean .f64 kb = kE j) ∧ (∃ pb, p = .float .f64 pb ∧ mean .f64 pb = expP (mean .f64 t) j ∧ (Lit.float .f64 pb).wf = true) ∧ ∃ n, wr = w.drewN n) (fun _ k _ => leftE k)
  case atStart => exact ⟨0, by omega, ⟨_, rfl, by decide +kernel⟩, ⟨_, rfl, mean_one64, by decide⟩, _, rfl⟩
  case round =>
    obtain ⟨j, hj, ⟨kb, rfl, hk⟩, ⟨pb, rfl, hp, hpw⟩, n, rfl⟩ := hrel
    have hP := Lib_hid' hp
    have hK := Lib_hid' hk
    have hPW := Lib_hid' hpw
    clear hp hk hpw
    by_cases hlt : j < 12
    · have hge := ge_test hK.out mean_one64 (kE_test j hlt)
      go_wp2_with (first | (refine wpList_float rfl .mul _ _ _ _ rfl rfl .f64 t pb rfl rfl ?_; intro ga nga hga) | (refine wpList_float rfl .quo _ _ _ _ rfl rfl .f64 ga kb rfl rfl ?_; intro gb ngb hgb) | (refine wpList_float rfl .add _ _ _ _ rfl rfl .f64 4607182418800017408 gb rfl rfl ?_; intro gc ngc hgc) | (refine wpList_float rfl .sub _ _ _ _ rfl rfl .f64 kb 4607182418800017408 rfl rfl ?_; intro gd ngd hgd))
      go_roundw
      case rel => exact ⟨j + 1, by omega, ⟨_, rfl, kE_step hK.out hgd⟩, ⟨_, rfl, expP_step hK.out hP.out hga hgb hgc, hgc.2⟩, _, rfl⟩
      case measure => exact kE_less hlt hK.out hgd
    · have hj12 : j = 12 := by omega
      subst hj12
      have hge := ge_test hK.out mean_one64 kE_end
      go_wp2
      go_loopw [4, 25] (fun p i wr => ∃ j : Nat, j ≤ 8 ∧ i = .int .i64 j ∧ (∃ pb, p = .float .f64 pb ∧ mean .f64 pb = sqP (expP (mean .f64 t) 12) j ∧ (Lit.float .f64 pb).wf = true) ∧ ∃ n, wr = w.drewN n) (fun _ i _ => 8 - (intOf i).toNat)
      case atStart => exact ⟨0, by omega, rfl, ⟨_, rfl, hP.out, hPW.out⟩, _, rfl⟩
      case round =>
        clear hge hP hK hPW
        obtain ⟨j, hj, rfl, ⟨pb, rfl, hp, hpw⟩, n, rfl⟩ := hrel
        have hP := Lib_hid' hp
        have hPW := Lib_hid' hpw
        clear hp hpw
        by_cases hlt : j < 8
        · go_wp2_with (first | (refine wpList_float rfl .mul _ _ _ _ rfl rfl .f64 pb pb rfl rfl ?_; intro ga nga hga))
          go_roundw
          case rel => exact ⟨j + 1, by omega, by go_num, ⟨_, rfl, sqP_step hP.out hga, hga.2⟩, _, rfl⟩
          case measure => simp [intOf]; omega
        · have hj8 : j = 8 := by omega
          subst hj8
          go_wp2
          go_ret
          exact ⟨_, ⟨exp_end hT.out hP.out, hPW.out⟩, rfl, _, rfl⟩
/-- The exponential of a 32-bit number, as a word. -/
def expW (a : Nat) : Nat := ((fconv .f64 .f32 (expM (some (wideN a)))).bind fun b => mean .f32 b).getD 0
/-- Whether it is one of those that can be told by its word. -/
def expOk (a : Nat) : Bool := finB .f32 a && !(FloatKind.f64.format.order (wideN a) 4641240890982006784 == some .gt) && !(FloatKind.f64.format.order (wideN a) 13864612927836782592 == some .lt) &&
  (expM (some (wideN a))).any fun y => fits .f64 .f32 y && (mean .f32 (FloatKind.f32.encode (FloatKind.f64.decode y))).isSome
theorem expW_eq {a y g : Nat} (h : expOk a = true) (hy : mean .f64 y = expM (some (wideN a))) (hg : FConv .f64 .f32 y g) : g = expW a := by
  unfold expOk at h
  rw [Bool.and_eq_true] at h
  have h2 := h.2
  rw [← hy] at h2
  cases hm : mean .f64 y with
  | none => rw [hm] at h2; cases h2
  | some b =>
    obtain ⟨rfl, -⟩ := mean_some hm
    rw [hm] at h2
    have h3 : (fits .f64 .f32 y && (mean .f32 (FloatKind.f32.encode (FloatKind.f64.decode y))).isSome) = true := h2
    rw [Bool.and_eq_true] at h3
    have h4 := hg.1 h3.1
    rw [hm] at h4
    have h5 : mean .f32 g = some (FloatKind.f32.encode (FloatKind.f64.decode y)) := h4
    have h6 := (mean_some h5).1
    unfold expW
    rw [← hy, hm]
    show g = (mean .f32 (FloatKind.f32.encode (FloatKind.f64.decode y))).getD 0
    rw [← h6, h5, ← h6]; rfl
theorem expOk_tests {a : Nat} (h : expOk a = true) : finB .f32 a = true ∧ (FloatKind.f64.format.order (wideN a) 4641240890982006784 == some .gt) = false ∧ (FloatKind.f64.format.order (wideN a) 13864612927836782592 == some .lt) = false := by
  unfold expOk at h
  simp only [Bool.and_eq_true, Bool.not_eq_true'] at h
  exact ⟨h.1.1.1, h.1.1.2, h.1.2⟩
theorem expW_wf {a : Nat} : (Lit.float .f32 (expW a)).wf = true := by
  unfold expW
  cases h : (fconv .f64 .f32 (expM (some (wideN a)))).bind fun b => mean .f32 b with
  | none => decide
  | some c =>
    rw [Option.bind_eq_some_iff] at h
    obtain ⟨b, hb, hc⟩ := h
    obtain ⟨rfl, -⟩ := mean_some hc
    unfold fconv at hb
    rw [Option.map_eq_some_iff] at hb
    obtain ⟨y, -, rfl⟩ := hb
    exact wf_of_lt .f32 _ (FloatKind.f32.format.write_lt _)
theorem iexp_any (a : Nat) (ha : (Lit.float .f32 a).wf = true) (h : expOk a = true) (w : World) :
    Calls Try.prog 13 #[.float .f32 a] w fun e w' => e = .returned (.float .f32 (expW a)) ∧ ∃ n, w' = w.drewN n := by
  obtain ⟨h1, h2, h3⟩ := expOk_tests h
  have hF := Lib_hid' h1
  have hE := Lib_hid' h
  have hM := Lib_hid' (wide_fin h1).mean
  clear h h1
  go_enter Try.func13, Try.ntmps13
  go_wp2_with (first | (refine wpList_fconv rfl _ _ _ rfl .f32 .f64 _ rfl (by assumption) (by rw [Try.underlying22]; rfl) Try.underlying25 ?_; intro x n hx; obtain rfl := wide_eq (nan_of_fin hF.out) hx) | (go_at_call 37; refine (iexp_mid _ (by assumption) (by assumption) _).mono ?_; rw [hM.out]; rintro e w' ⟨y, hy, rfl, m, rfl⟩; have hY := Lib_hid' hy; clear hy) | (refine wpList_fconv rfl _ _ _ rfl .f64 .f32 _ rfl (by exact hY.out.2) (by rw [Try.underlying25]; rfl) Try.underlying22 ?_; intro g n hg))
  go_ret
  exact ⟨by rw [← expW_eq hE.out hY.out.1 hg]; rfl, _, rfl⟩
/-- The logarithm of a 32-bit number, as a word, where it is a number. -/
def logWd (a : Nat) : Nat := ((fconv .f64 .f32 (lgOf a)).bind fun b => mean .f32 b).getD 0
def logOk (a : Nat) : Bool := ((fconv .f64 .f32 (lgOf a)).bind fun b => mean .f32 b).isSome
theorem logWd_eq {a g : Nat} (h : logOk a = true) (hg : LgIs a g) : g = logWd a := by
  unfold logOk at h
  unfold logWd
  have h1 := hg.1
  cases hc : fconv .f64 .f32 (lgOf a) with
  | none => rw [hc] at h; cases h
  | some b =>
    rw [hc] at h h1
    obtain ⟨rfl, -⟩ := mean_some h1
    show g = (mean .f32 g).getD 0
    rw [h1]; rfl
theorem ilogw_any (a : Nat) (ha : (Lit.float .f32 a).wf = true) (h : logOk a = true) (w : World) :
    Calls Try.prog 16 #[.float .f32 a] w fun e w' => e = .returned (.float .f32 (logWd a)) ∧ (Lit.float .f32 (logWd a)).wf = true ∧ ∃ n, w' = w.drewN n := by
  refine (ilogn_any a ha w).mono ?_
  rintro e w' ⟨g, hg, rfl, n, rfl⟩
  have e := logWd_eq h hg
  subst e
  exact ⟨rfl, hg.2, n, rfl⟩
end Go.Proofs.Ytlcekfahjakfgaa
