/-
  Facts of phasors and angles at 64ths of turns, by reckoning.
-/
import Derived.Test.YtlcekfahjakfgaaFy
import Derived.Test.YtlcekfahjakfgaaPi
import Derived.Test.YtlcekfahjakfgaaAo
namespace Go.Proofs.Ytlcekfahjakfgaa
open Go.RowKit Fl

/-- (i - 256) / 64. -/
def tW (i : Nat) : Nat := (fop .quo .f64 (mean .f64 (floatOfInt .f64 ((i : Int) - 256))) (some 4634204016564240384)).getD 0
/-- The phasor of r / 64. -/
def phF (r : Nat) : Option Nat × Option Nat := turnM (quartM 5 (partM (tW (r + 256))) 0).2 (sinA (fop .sub .f64 (some quarter64) (quartM 5 (partM (tW (r + 256))) 0).1)) (sinA (quartM 5 (partM (tW (r + 256))) 0).1)
/-- Its parts, in 32 bits. -/
def cT (r : Nat) : Nat := tab.getD r 0
  where tab : List Nat := [1065353216, 1065272429, 1065030846, 1064630795, 1064076126, 1063372184, 1062525745, 1061544963, 1060439283, 1059219353, 1057896922, 1056004842, 1053028117, 1049927729, 1044891074, 1036565814, 0, 3184049462, 3192374722, 3197411377, 3200511765, 3203488490, 3205380570, 3206703001, 3207922931, 3209028611, 3210009393, 3210855832, 3211559774, 3212114443, 3212514494, 3212756077, 3212836864, 3212756077, 3212514494, 3212114443, 3211559774, 3210855832, 3210009393, 3209028611, 3207922931, 3206703001, 3205380570, 3203488490, 3200511765, 3197411377, 3192374722, 3184049462, 0, 1036565814, 1044891074, 1049927729, 1053028117, 1056004842, 1057896922, 1059219353, 1060439283, 1061544963, 1062525745, 1063372184, 1064076126, 1064630795, 1065030846, 1065272429]
def sT (r : Nat) : Nat := tab.getD r 0
  where tab : List Nat := [0, 1036565814, 1044891074, 1049927729, 1053028117, 1056004842, 1057896922, 1059219353, 1060439283, 1061544963, 1062525745, 1063372184, 1064076126, 1064630795, 1065030846, 1065272429, 1065353216, 1065272429, 1065030846, 1064630795, 1064076126, 1063372184, 1062525745, 1061544963, 1060439283, 1059219353, 1057896922, 1056004842, 1053028117, 1049927729, 1044891074, 1036565814, 0, 3184049462, 3192374722, 3197411377, 3200511765, 3203488490, 3205380570, 3206703001, 3207922931, 3209028611, 3210009393, 3210855832, 3211559774, 3212114443, 3212514494, 3212756077, 3212836864, 3212756077, 3212514494, 3212114443, 3211559774, 3210855832, 3210009393, 3209028611, 3207922931, 3206703001, 3205380570, 3203488490, 3200511765, 3197411377, 3192374722, 3184049462]
/-- Its angle. -/
def gT (r : Nat) : Nat := tab.getD r 0
  where tab : List Nat := [0, 1015021568, 1023410176, 1027604479, 1031798784, 1033895936, 1035993088, 1038090240, 1040187392, 1041235968, 1042284544, 1043333120, 1044381696, 1045430272, 1046478848, 1047527424, 1048576000, 1049100288, 1049624576, 1050148864, 1050673152, 1051197440, 1051721728, 1052246016, 1052770304, 1053294592, 1053818880, 1054343168, 1054867456, 1055391744, 1055916032, 1056440320, 1056964608, 3203923968, 3203399680, 3202875392, 3202351104, 3201826816, 3201302528, 3200778240, 3200253952, 3199729664, 3199205376, 3198681088, 3198156800, 3197632512, 3197108224, 3196583936, 3196059648, 3195011072, 3193962496, 3192913920, 3191865344, 3190816768, 3189768192, 3188719616, 3187671040, 3185573888, 3183476736, 3181379584, 3179282432, 3175088127, 3170893824, 3162505216]
theorem tW_some : ∀ i : Nat, i < 511 → fop .quo .f64 (mean .f64 (floatOfInt .f64 ((i : Int) - 256))) (some 4634204016564240384) = some (tW i) := by decide +kernel
theorem tW_part : ∀ i : Nat, i < 511 → mag Ieee.double (tW i) < two52 ∧ (Lit.float .f64 (tW i)).wf = true ∧ partM (tW i) = partM (tW (i % 64 + 256)) := by decide +kernel
theorem ph_cos : ∀ r : Nat, r < 64 → fconv .f64 .f32 (phF r).1 = some (cT r) := by decide +kernel
theorem ph_sin : ∀ r : Nat, r < 64 → fconv .f64 .f32 (phF r).2 = some (sT r) := by decide +kernel
theorem ph_fin : ∀ r : Nat, r < 64 → finB .f32 (cT r) = true ∧ finB .f32 (sT r) = true ∧ (Lit.float .f32 (cT r)).wf = true ∧ (Lit.float .f32 (sT r)).wf = true ∧ finB .f32 (gT r) = true ∧ (Lit.float .f32 (gT r)).wf = true := by decide +kernel
theorem an_all : ∀ r : Nat, r < 64 → fconv .f64 .f32 (angOf (sT r) (cT r)) = some (gT r) := by decide +kernel
theorem an_one : fconv .f64 .f32 (angOf 1065353216 0) = some 1048576000 := by decide +kernel
/-- What is left of the angle of k - 128, and which number of whole turns that is. -/
def turnT (k : Nat) : Option Nat := fop .sub .f64 (fop .mul .f64 (some (wideN (gT (k % 64)))) (some 4634204016564240384)) (mean .f64 (floatOfInt .f64 ((k : Int) - 128)))
def wzI (k : Nat) : Int := 10128 - 64 * (((k + 31) / 64 : Nat) : Int)
theorem turn_whole : ∀ k : Nat, k < 256 → ((fop .add .f64 (turnT k) (some 4666723447345250304)).bind fun b => floatToIntVal .f64 b .i64) = some (wzI k) := by decide +kernel
theorem turn_gap : ∀ k : Nat, k < 256 → ltM (gapM (turnT k) (mean .f64 (floatOfInt .f64 (wzI k - 10000)))) (some 4562254508917369340) = true := by decide +kernel
theorem wz_bd {k : Nat} (h : k < 256) : 9800 ≤ wzI k ∧ wzI k ≤ 10200 ∧ (wzI k - 10000).tmod 64 = 0 := by
  have h : ∀ k : Nat, k < 256 → 9800 ≤ wzI k ∧ wzI k ≤ 10200 ∧ (wzI k - 10000).tmod 64 = 0 := by decide +kernel
  exact h _ (by assumption)
/-- The power of a phasor, in 64 bits. -/
def powT (r : Nat) : Nat := addL (mulL (widN (cT r)) (widN (cT r))) (mulL (widN (sT r)) (widN (sT r)))
theorem pow_all : allN 64 (fun r => Nat.ble (Nat.succ (narL (powT r))) 4294967296 && ltL (gapL (widN (narL (powT r))) 4607182418800017408) 4547007122018943789) = true := by decide +kernel
/-- At whole quarters, the first part is 0, 1 or -1. -/
theorem quarter_all : ∀ r : Nat, r < 64 → r % 16 = 0 → gapM (some (wideN (cT r))) (some 0) = some 0 ∨ gapM (some (wideN (cT r))) (some 0) = some 4607182418800017408 := by decide +kernel
/-- The product of two phasors. -/
def reT (r q : Nat) : Nat := narL (subL (mulL (widN (cT r)) (widN (cT q))) (mulL (widN (sT r)) (widN (sT q))))
def imT (r q : Nat) : Nat := narL (addL (mulL (widN (cT r)) (widN (sT q))) (mulL (widN (sT r)) (widN (cT q))))
def nearT (r q : Nat) : Bool := force (reT r q) fun x => force (imT r q) fun y => force (Nat.mod (Nat.add r q) 64) fun t =>
  Nat.ble (Nat.succ x) 4294967296 && Nat.ble (Nat.succ y) 4294967296 && ltL (gapL (widN x) (widN (cT t))) 4547007122018943789 && ltL (gapL (widN y) (widN (sT t))) 4547007122018943789
theorem near_all : allN 64 (fun r => allN 64 fun q => nearT r q) = true := by decide +kernel
end Go.Proofs.Ytlcekfahjakfgaa
