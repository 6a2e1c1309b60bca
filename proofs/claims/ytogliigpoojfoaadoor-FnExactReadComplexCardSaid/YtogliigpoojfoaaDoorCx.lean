/-
  Lists of complex numbers: conversions, comparison of lists.
-/
import Derived.Test.YtogliigpoojfoaaDoorSl
import Derived.Deep.RegionWith
namespace Go.Proofs.YtogliigpoojfoaaDoor
open Go.RowKit Fl

theorem samec_yesC (a b c d : Nat) (h1 : mean .f64 a = mean .f64 c) (h2 : mean .f64 b = mean .f64 d) (w : World) :
    Calls Tryd.prog 56 #[.complex .f64 a b, .complex .f64 c d] w fun e w' => e = .returned (.bool true) ∧ ∃ n, w' = w.drewN n := by
  have H1 := Lib_hid h1
  have H2 := Lib_hid h2
  clear h1 h2
  go_enter Tryd.func56, Tryd.ntmps56
  go_wp2_with (first | (go_at_call_of 48 (Value.float .f64 a); refine (same_yes _ _ H1.out _).mono ?_; rintro e w' ⟨rfl, n, rfl⟩) | (go_at_call_of 48 (Value.float .f64 b); refine (same_yes _ _ H2.out _).mono ?_; rintro e w' ⟨rfl, m, rfl⟩))
  go_ret
  exact ⟨rfl, _, rfl⟩
theorem run_cconvC {P : Program} (w : World) (src dst : TypeId) (s k : FloatKind) (p q : Nat) (hw1 : (Lit.float s p).wf = true) (hw2 : (Lit.float s q).wf = true) (hs : P.underlying src = some (.complex s)) (hd : P.underlying dst = some (.complex k)) :
    ∃ r t n, (convert src dst (.complex s p q)).run P w = .ok (.complex k r t) (w.drewN n) ∧ FConv s k p r ∧ FConv s k q t := by
  have key : ∀ (p : Nat) (w : World), (Lit.float s p).wf = true → ∃ r n, (Conv.floatToFloat s p k).run P w = .ok (.float k r) (w.drewN n) ∧ FConv s k p r := fun p w hw => run_ftf w s k p hw
  obtain ⟨r, n, hr, hf⟩ := key p w hw1
  obtain ⟨t, m, ht, hg⟩ := key q (w.drewN n) hw2
  exact ⟨r, t, n + m, by simp [convert, run_underlying hs, run_underlying hd, Conv.complexToComplex, hr, ht], hf, hg⟩
/-- THE WALK's LAW: a conversion between two kinds of complex numbers. -/
theorem wpList_cconvC {P : Program} {ops : Array Oper} {rest : List Oper} {o : Oper} {a : Act} {w : World} {Q : Exit → Act → World → Prop} (hgd : Region.wanted o (yielded ops a.tmps) = true) (src dst : TypeId) (x : Operand) (ho : o.op = .convert src dst x)
    (s k : FloatKind) (p q : Nat) (hx : a.eval x = .complex s p q) (hw1 : (Lit.float s p).wf = true) (hw2 : (Lit.float s q).wf = true) (hs : P.underlying src = some (.complex s)) (hd : P.underlying dst = some (.complex k))
    (h : ∀ r t n, FConv s k p r → FConv s k q t → wpList P ops Q rest (a.put o.dst (.complex k r t)) (w.drewN n)) : wpList P ops Q (o :: rest) a w :=
  wpList_want hgd fun K hK => by
    obtain ⟨r, t, n, hr, hf, hg⟩ := run_cconvC (P := P) w src dst s k p q hw1 hw2 hs hd
    have hK' := hK _ _ (h r t n hf hg)
    have hr' : (convert src dst (a.eval x)).run P w = .ok (.complex k r t) (w.drewN n) := by rw [hx]; exact hr
    unfold Oper.wp execOp
    simp only [ho, Sem.run_bind, Sem.run_pure, Result.andThen_ok, hr']
    exact hK'
theorem wp_cconv {P : Program} {o : Oper} {a : Act} {w : World} {K : Act → World → Prop} {Q : Exit → Act → World → Prop} (src dst : TypeId) (x : Operand) (ho : o.op = .convert src dst x)
    (s k : FloatKind) (p q : Nat) (hx : a.eval x = .complex s p q) (hw1 : (Lit.float s p).wf = true) (hw2 : (Lit.float s q).wf = true) (hs : P.underlying src = some (.complex s)) (hd : P.underlying dst = some (.complex k))
    (h : ∀ r t n, FConv s k p r → FConv s k q t → K (a.put o.dst (.complex k r t)) (w.drewN n)) : Oper.wp P o a w K Q := by
  obtain ⟨r, t, n, hr, hf, hg⟩ := run_cconvC (P := P) w src dst s k p q hw1 hw2 hs hd
  have hK' := h r t n hf hg
  have hr' : (convert src dst (a.eval x)).run P w = .ok (.complex k r t) (w.drewN n) := by rw [hx]; exact hr
  unfold Oper.wp execOp
  simp only [ho, Sem.run_bind, Sem.run_pure, Result.andThen_ok, hr']
  exact hK'
/-- A slice of complex numbers reads as a list of pairs of words. -/
def CRow (w : World) (a : Option Addr) (l : List (Nat × Nat)) : Prop :=
  ∀ i, i < l.length → ∃ b o, a = some ⟨b, o, none⟩ ∧ b < w.heap.size ∧ w.cell? ⟨b, o + i, none⟩ = some (.complex .f32 (l.getD i (0, 0)).1 (l.getD i (0, 0)).2)
def CWf (l : List (Nat × Nat)) : Prop := ∀ i, i < l.length → (Lit.float .f32 (l.getD i (0, 0)).1).wf = true ∧ (Lit.float .f32 (l.getD i (0, 0)).2).wf = true
theorem CRow.below {w w' : World} {a : Option Addr} {l : List (Nat × Nat)} (h : CRow w a l) (hb : Below w.heap.size w w') : CRow w' a l := by
  intro i hi
  obtain ⟨b, o, ha, hlt, hc⟩ := h i hi
  refine ⟨b, o, ha, Nat.lt_of_lt_of_le hlt hb.size, ?_⟩
  rw [hb.cell (p := ⟨b, o + i, none⟩) hlt]; exact hc
theorem cgetD {l : List (Nat × Nat)} {k : Nat} (h : k < l.length) : l.getD k (0, 0) = l[k] := by simp [List.getD, List.getElem?_eq_getElem h]
set_option maxRecDepth 100000 in
set_option maxHeartbeats 400000 in
theorem eqC_any (a b : Option Addr) (ca cb : Nat) (l : List (Nat × Nat)) (hl : l.length ≤ 1048576) (hw : CWf l) (w : World) (ha : CRow w a l) (hb : CRow w b l) :
    Calls Tryd.prog 35 #[.slice a l.length ca, .slice b l.length cb] w fun e w' => e = .returned (.bool true) ∧ ∃ n, w' = w.drewN n := by
  have hA := Lib_hid ha
  have hB := Lib_hid hb
  have hW := Lib_hid hw
  clear ha hb hw
  go_enter Tryd.func35, Tryd.ntmps35
  go_wp2
  go_loopw [5] (fun i wr => ∃ k : Nat, k ≤ l.length ∧ i = .int .i64 k ∧ ∃ n, wr = w.drewN n) (fun i _ => l.length - (intOf i).toNat)
  case atStart => exact ⟨0, Nat.zero_le _, rfl, 0, rfl⟩
  case round =>
    obtain ⟨k, hk, rfl, n, rfl⟩ := hrel
    by_cases hlt : k < l.length
    · obtain ⟨b1, o1, rfl, _, hc1⟩ := hA.out k hlt
      obtain ⟨b2, o2, rfl, _, hc2⟩ := hB.out k hlt
      have hwf := hW.out k hlt
      rw [cgetD hlt] at hwf hc1 hc2
      go_wp2_with fail
      refine wp_region_held (S := fun w' => w'.cell? ⟨b1, o1 + k, none⟩ = some (.complex .f32 l[k].1 l[k].2) ∧ w'.cell? ⟨b2, o2 + k, none⟩ = some (.complex .f32 l[k].1 l[k].2)) (by kernel_rfl) ?_
      refine wpAnyH_take (i := 0) (v := .slice (some ⟨b1, o1, none⟩) l.length ca) rfl (by kernel_rfl) (by kernel_rfl) (by kernel_rfl) (fun _ _ _ h => h) (.inl ⟨rfl, fun w' hw' => ?_⟩) ⟨hc1, hc2⟩ ?_
      · rfl
      refine wpAnyH_take (i := 1) (v := .int .i64 k) rfl (by kernel_rfl) (by kernel_rfl) (by kernel_rfl) (fun _ _ _ h => h) (.inl ⟨rfl, fun w' hw' => ?_⟩) ⟨hc1, hc2⟩ ?_
      · rfl
      refine wpAnyH_take (i := 2) (v := .pointer (some ⟨b1, o1 + k, none⟩)) rfl (by kernel_rfl) (by kernel_rfl) (by kernel_rfl) (fun _ _ _ h => h) (.inl ⟨rfl, fun w' hw' => ?_⟩) ⟨hc1, hc2⟩ ?_
      · go_simp
      refine wpAnyH_take (i := 3) (v := .complex .f32 l[k].1 l[k].2) rfl (by kernel_rfl) (by kernel_rfl) (by kernel_rfl) (fun _ _ _ h => h) (.inl ⟨rfl, fun w' hw' => ?_⟩) ⟨hc1, hc2⟩ ?_
      · have g := hw'.1; go_simp
      refine wpAnyH_take (i := 5) (v := .slice (some ⟨b2, o2, none⟩) l.length cb) rfl (by kernel_rfl) (by kernel_rfl) (by kernel_rfl) (fun _ _ _ h => h) (.inl ⟨rfl, fun w' hw' => ?_⟩) ⟨hc1, hc2⟩ ?_
      · rfl
      refine wpAnyH_take (i := 6) (v := .int .i64 k) rfl (by kernel_rfl) (by kernel_rfl) (by kernel_rfl) (fun _ _ _ h => h) (.inl ⟨rfl, fun w' hw' => ?_⟩) ⟨hc1, hc2⟩ ?_
      · rfl
      refine wpAnyH_take (i := 7) (v := .pointer (some ⟨b2, o2 + k, none⟩)) rfl (by kernel_rfl) (by kernel_rfl) (by kernel_rfl) (fun _ _ _ h => h) (.inl ⟨rfl, fun w' hw' => ?_⟩) ⟨hc1, hc2⟩ ?_
      · go_simp
      refine wpAnyH_take (i := 8) (v := .complex .f32 l[k].1 l[k].2) rfl (by kernel_rfl) (by kernel_rfl) (by kernel_rfl) (fun _ _ _ h => h) (.inl ⟨rfl, fun w' hw' => ?_⟩) ⟨hc1, hc2⟩ ?_
      · have g := hw'.2; go_simp
      go_simp
      refine wpAnyH_all (rs := [4, 9]) (by kernel_rfl) (by decide) (fun i hi => ?_)
      simp only [List.mem_cons, List.not_mem_nil, or_false] at hi
      rcases hi with rfl | rfl
      · refine wpOp_of_wp rfl rfl ?_
        refine wp_cconv _ _ _ rfl .f32 .f64 _ _ rfl hwf.1 hwf.2 Tryd.underlying66 Tryd.underlying68 ?_
        intro x1 y1 n1 hx1 hy1
        refine ⟨⟨hc1, hc2⟩, ?_⟩
        go_simp
        refine wpAnyH_all (rs := [9]) (by kernel_rfl) (by decide) (fun i hi => ?_)
        simp only [List.mem_cons, List.not_mem_nil, or_false] at hi
        subst hi
        refine wpOp_of_wp rfl rfl ?_
        refine wp_cconv _ _ _ rfl .f32 .f64 _ _ rfl hwf.1 hwf.2 Tryd.underlying66 Tryd.underlying68 ?_
        intro x2 y2 n2 hx2 hy2
        refine ⟨⟨hc1, hc2⟩, ?_⟩
        go_simp
        refine wpAnyH_all (rs := [10]) (by kernel_rfl) (by decide) (fun i hi => ?_)
        simp only [List.mem_cons, List.not_mem_nil, or_false] at hi
        subst hi
        refine wpOp_of_wp rfl rfl ?_
        have hs := Lib_hid (wide_same hx1 hx2)
        have ht := Lib_hid (wide_same hy1 hy2)
        refine wp_call (f := 56) (args := #[.complex .f64 x1 y1, .complex .f64 x2 y2]) (by go_simp) ?_
        refine (samec_yesC _ _ _ _ hs.out ht.out _).mono ?_
        rintro e w' ⟨rfl, n3, rfl⟩
        refine ⟨_, rfl, ⟨hc1, hc2⟩, ?_⟩
        go_simp
        refine wpAnyH_all (rs := [11]) (by kernel_rfl) (by decide) (fun i hi => ?_)
        simp only [List.mem_cons, List.not_mem_nil, or_false] at hi
        subst hi
        refine YieldsIf.wpOp rfl (v := .bool false) (S := fun _ => True) (.inl ⟨rfl, fun w' _ => rfl⟩) trivial ⟨⟨hc1, hc2⟩, ?_⟩
        go_simp
        refine wpAnyH_done (by kernel_rfl) ?_ _
        go_wp2
        go_roundw
        case rel => exact ⟨k + 1, by omega, by go_num, _, drawn_once w n _⟩
        case measure => simp [intOf]; omega
      · refine wpOp_of_wp rfl rfl ?_
        refine wp_cconv _ _ _ rfl .f32 .f64 _ _ rfl hwf.1 hwf.2 Tryd.underlying66 Tryd.underlying68 ?_
        intro x1 y1 n1 hx1 hy1
        refine ⟨⟨hc1, hc2⟩, ?_⟩
        go_simp
        refine wpAnyH_all (rs := [4]) (by kernel_rfl) (by decide) (fun i hi => ?_)
        simp only [List.mem_cons, List.not_mem_nil, or_false] at hi
        subst hi
        refine wpOp_of_wp rfl rfl ?_
        refine wp_cconv _ _ _ rfl .f32 .f64 _ _ rfl hwf.1 hwf.2 Tryd.underlying66 Tryd.underlying68 ?_
        intro x2 y2 n2 hx2 hy2
        refine ⟨⟨hc1, hc2⟩, ?_⟩
        go_simp
        refine wpAnyH_all (rs := [10]) (by kernel_rfl) (by decide) (fun i hi => ?_)
        simp only [List.mem_cons, List.not_mem_nil, or_false] at hi
        subst hi
        refine wpOp_of_wp rfl rfl ?_
        have hs := Lib_hid (wide_same hx2 hx1)
        have ht := Lib_hid (wide_same hy2 hy1)
        refine wp_call (f := 56) (args := #[.complex .f64 x2 y2, .complex .f64 x1 y1]) (by go_simp) ?_
        refine (samec_yesC _ _ _ _ hs.out ht.out _).mono ?_
        rintro e w' ⟨rfl, n3, rfl⟩
        refine ⟨_, rfl, ⟨hc1, hc2⟩, ?_⟩
        go_simp
        refine wpAnyH_all (rs := [11]) (by kernel_rfl) (by decide) (fun i hi => ?_)
        simp only [List.mem_cons, List.not_mem_nil, or_false] at hi
        subst hi
        refine YieldsIf.wpOp rfl (v := .bool false) (S := fun _ => True) (.inl ⟨rfl, fun w' _ => rfl⟩) trivial ⟨⟨hc1, hc2⟩, ?_⟩
        go_simp
        refine wpAnyH_done (by kernel_rfl) ?_ _
        go_wp2
        go_roundw
        case rel => exact ⟨k + 1, by omega, by go_num, _, drawn_once w n _⟩
        case measure => simp [intOf]; omega
    · go_wp2
      go_ret
      exact ⟨rfl, _, rfl⟩
end Go.Proofs.YtogliigpoojfoaaDoor
