/-
  Numbers read from texts: the program's function, and the law.
-/
import Derived.Test.YtogliigpoojfoaaDoorRd
import Derived.Test.YtogliigpoojfoaaDoorSh5
import Derived.Lib.AtoiErrMem
namespace Go.Proofs.YtogliigpoojfoaaDoor
open Go.RowKit

/-- The variable holds some error. -/
def ErrVar (n : String) (w : World) : Prop := ∃ tp p, w.var? Tryd.prog n = some #[.iface tp p]
theorem Tryd.starE : "*" ++ "errors.errorString" = "*errors.errorString" := by decide
theorem Tryd.rowE (u : TypeId) (h : Tryd.prog.typeName? 3 u = some "*errors.errorString") : u = 147 :=
  typeName_ptr_named (nm := "errors.errorString") (by rw [Tryd.starE]; kernel_rfl) (by kernel_rfl) (by decide) u (by rw [Tryd.starE]; exact h)
theorem gErr (n : String) (h : (Tryd.prog.globalNamed n).bind (fun g => (Tryd.prog.globals[g]?).map (·.type)) = some 60) : ∃ g, Tryd.prog.globalNamed n = some g ∧ (Tryd.prog.globals[g]?).map (·.type) = some 60 := by
  rw [Option.bind_eq_some_iff] at h
  exact h
theorem err_head {n : String} {text : List UInt8} {W : World} {rest : List (String × DataW Unit)} (hn : (Tryd.prog.globalNamed n).bind (fun g => (Tryd.prog.globals[g]?).map (·.type)) = some 60) (h : laidMet Tryd.prog ((n, .iface "*errors.errorString" (.ptr (.agg [.lit (.string text)]))) :: rest) W) : ErrVar n W := by
  obtain ⟨g, hg, ht⟩ := gErr n hn
  obtain ⟨a, s, hv, -, -, -⟩ := laid_sentinel h hg ht Tryd.underlying60 Tryd.rowE Tryd.underlying147 Tryd.underlying149 rfl rfl Tryd.underlying9 (by kernel_rfl) (by kernel_rfl)
  exact ⟨_, _, hv⟩
theorem ErrVar.stays {n : String} {w w' : World} (h : ErrVar n w) (hb : Below w.heap.size w w') : ErrVar n w' := by
  obtain ⟨tp, p, h⟩ := h
  refine ⟨tp, p, ?_⟩
  unfold World.var? at h ⊢
  cases hg : Tryd.prog.globalNamed n with
  | none => simp [hg] at h
  | some g =>
    simp only [hg, Option.bind_some] at h ⊢
    have hlt : g < w.heap.size := by
      rcases Nat.lt_or_ge g w.heap.size with h' | h'
      · exact h'
      · simp [Array.getElem?_eq_none h'] at h
    rw [hb.block g hlt]
    exact h
/-- The three variables that reading a number leans on. -/
def ReadOk (w : World) : Prop := Pow10 w ∧ ErrVar "strconv.ErrSyntax" w ∧ ErrVar "strconv.ErrRange" w
theorem ReadOk.stays {w w' : World} (h : ReadOk w) (hb : Below w.heap.size w w') : ReadOk w' := ⟨h.1.stays hb, h.2.1.stays hb, h.2.2.stays hb⟩
theorem iread_bad (s : ByteArray) (hB : readB s = false) (N : Int) (w : World)
    (h : Calls Tryd.prog 50 #[.string s, .int .i64 10, .int .i64 64] w fun e w' => ∃ a, e = .returned (.tuple #[.int .i64 N, .iface 114 (.pointer (some ⟨a, 0, none⟩))]) ∧ Below w.heap.size w w') :
    Calls Tryd.prog 24 #[.string s] w fun e w' => e = .returned (.tuple #[.int .i64 (readN s), .bool (readB s)]) ∧ Below w.heap.size w w' := by
  rw [readN_no hB, hB]
  have hC := hidI h
  clear h hB
  go_enter Tryd.func24, Tryd.ntmps24
  go_wp2_with (go_at_call 50; refine hC.out.mono ?_; rintro e w1 ⟨a, rfl, hB⟩; have b1 := hidI hB; clear hB)
  go_ret2
  exact ⟨rfl, b1.out⟩
theorem iread_ok (s : ByteArray) (v : Int) (hp : Lib.parseIntB 64 s.data.toList = .ok v) (hv0 : -9223372036854775808 ≤ v) (hv1 : v ≤ 9223372036854775807) (w : World) (ht : Pow10 w)
    (h : Calls Tryd.prog 50 #[.string s, .int .i64 10, .int .i64 64] w fun e w' => e = .returned (.tuple #[.int .i64 v, .nilIface]) ∧ Below w.heap.size w w') :
    Calls Tryd.prog 24 #[.string s] w fun e w' => e = .returned (.tuple #[.int .i64 (readN s), .bool (readB s)]) ∧ Below w.heap.size w w' := by
  have hC := hidI h
  have hD := hidI (fun w ht => idecimal_any v hv0 hv1 w ht)
  have hP := hidI ht
  have hIs := hidI (fun w => isval_any v w)
  clear h ht
  cases h1 : inV v
  · have hB := readB_parse hp (by rw [h1]; simp)
    rw [readN_no hB, hB]
    have hV := hidI h1
    clear hB h1 hp
    go_enter Tryd.func24, Tryd.ntmps24
    go_wp2_with (first | (go_at_call 50; refine hC.out.mono ?_; rintro e w1 ⟨rfl, hB⟩; have b1 := hidI hB; clear hB) | (go_at_call 43; refine (hIs.out _).mono ?_; rintro e w' ⟨rfl, rfl⟩; rw [hV.out]))
    go_ret2
    exact ⟨rfl, b1.out⟩
  · by_cases h2 : decT v = s
    · obtain ⟨hB, hN⟩ := readB_of h1 h2
      rw [hN, hB]
      have hV := hidI h1
      have t1 := same_text h2
      clear hB hN h1 h2 hp
      go_enter Tryd.func24, Tryd.ntmps24
      go_wp2_with (first | (go_at_call 50; refine hC.out.mono ?_; rintro e w1 ⟨rfl, hB⟩; have b1 := hidI hB; clear hB) | (go_at_call 43; refine (hIs.out _).mono ?_; rintro e w' ⟨rfl, rfl⟩; rw [hV.out]) | (go_at_call 12; refine (hD.out _ (hP.out.stays b1.out)).mono ?_; rintro e w2 ⟨rfl, hB⟩; have b2 := hidI (b1.out.trans (hB.mono b1.out.size)); clear hB))
      go_ret2
      exact ⟨rfl, b2.out⟩
    · have hB := readB_parse hp (fun c => h2 c.2)
      rw [readN_no hB, hB]
      have hV := hidI h1
      have t1 := diff_text h2
      clear hB h1 h2 hp
      go_enter Tryd.func24, Tryd.ntmps24
      go_wp2_with (first | (go_at_call 50; refine hC.out.mono ?_; rintro e w1 ⟨rfl, hB⟩; have b1 := hidI hB; clear hB) | (go_at_call 43; refine (hIs.out _).mono ?_; rintro e w' ⟨rfl, rfl⟩; rw [hV.out]) | (go_at_call 12; refine (hD.out _ (hP.out.stays b1.out)).mono ?_; rintro e w2 ⟨rfl, hB⟩; have b2 := hidI (b1.out.trans (hB.mono b1.out.size)); clear hB))
      go_ret2
      exact ⟨rfl, b2.out⟩
theorem iread_any (s : ByteArray) (hs : s.size ≤ 281474976710656) (w : World) (ht : ReadOk w) :
    Calls Tryd.prog 24 #[.string s] w fun e w' => e = .returned (.tuple #[.int .i64 (readN s), .bool (readB s)]) ∧ Below w.heap.size w w' := by
  obtain ⟨hP, ⟨tp, p, hS⟩, ⟨tq, q, hR⟩⟩ := ht
  rcases hp : Lib.parseIntB 64 s.data.toList with v | _ | _
  · skip
    have hb := Lib.parseIntB_bounds hp
    have e63 : ((2 ^ (64 - 1) : Nat) : Int) = 9223372036854775808 := by decide
    rw [e63] at hb
    refine iread_ok s v hp (by omega) (by omega) w hP ((Tryd.strconv_ParseInt_10_at64_ok s (by omega) v hp w).mono ?_)
    rintro e w' ⟨rfl, hw⟩
    refine ⟨rfl, ?_⟩
    rcases hw with rfl | ⟨t, rfl⟩
    · exact Below.refl _ _
    · exact Go.Lib.bytesWorld_below _ _ _
  · skip
    refine iread_bad s (readB_bad (fun n c => by rw [hp] at c; cases c)) 0 w ((Tryd.strconv_ParseInt_10_at64_syntax_var s hs hp tp p w hS).mono ?_)
    rintro e w' ⟨N, rfl, -, -, hB⟩
    exact ⟨N, rfl, hB⟩
  · skip
    refine iread_bad s (readB_bad (fun n c => by rw [hp] at c; cases c)) (Lib.intSat 64 s.data.toList) w ((Tryd.strconv_ParseInt_10_at64_range_var s hs hp tq q w hR).mono ?_)
    rintro e w' ⟨N, rfl, -, -, hB⟩
    exact ⟨N, rfl, hB⟩
theorem law_ReadDecimal (s : ByteArray) (_ : s.size ≤ maxLen) (w : World) (hL : laidMetH Tryd.prog Rows.fnExactReadDecimalRow.laid w) :
    Calls Tryd.prog 7 #[.string s] w fun e w' => e = .returned (.bool true) ∧ Below w.heap.size w w' := by
  have hO : ReadOk w := by
    rw [MakeChecks.laidMetH_plain _ _ _ (by kernel_rfl)] at hL
    have h0 := laidMet.tail (laidMet.tail (show laidMet Tryd.prog (_ :: _ :: _ :: _ :: _ :: []) w from hL))
    exact ⟨pow_head h0, err_head (by kernel_rfl) (laidMet.tail (laidMet.tail h0)), err_head (by kernel_rfl) (laidMet.tail h0)⟩
  by_cases hs : s.size ≤ 1048576
  · have hS := hidI (fun w => sread_any s w)
    have hI := hidI (fun w h => iread_any s (by omega) w h)
    have hQ := hidI hO
    generalize readN s = n at hS hI
    generalize readB s = b at hS hI
    clear hL hO
    go_enter Tryd.func7, Tryd.ntmps7
    go_wp2_with (first | (go_at_call 23; refine (hS.out _).mono ?_; rintro e w1 ⟨rfl, hB⟩; have b1 := hidI hB; clear hB) | (go_at_call 24; refine (hI.out _ (hQ.out.stays b1.out)).mono ?_; rintro e w2 ⟨rfl, hB⟩; have b2 := hidI (b1.out.trans (hB.mono b1.out.size)); clear hB))
    all_goals go_ret
    all_goals exact ⟨rfl, b2.out⟩
  · have hs' : 1048576 < s.size := by omega
    clear hs
    go_enter Tryd.func7, Tryd.ntmps7
    go_wp2
    go_ret
    exact ⟨rfl, Below.refl _ _⟩
end Go.Proofs.YtogliigpoojfoaaDoor
