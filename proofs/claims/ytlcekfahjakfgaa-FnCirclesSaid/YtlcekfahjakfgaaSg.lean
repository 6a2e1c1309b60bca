/-
  Contracts: bounds, check numbers, numbers out of bits, flushed numbers.
-/
import Derived.Test.YtlcekfahjakfgaaSf
namespace Go.Proofs.Ytlcekfahjakfgaa
open Go.RowKit Fl


theorem ret_float {k : FloatKind} {a b : Nat} (h : a = b) : Ending.returned (.float k a) = .returned (.float k b) := by rw [h]
theorem ret_float_bool {k : FloatKind} {a b : Nat} {c : Bool} (h : a = b) : Ending.returned (.tuple #[.float k a, .bool c]) = .returned (.tuple #[.float k b, .bool c]) := by rw [h]
theorem wide_same {a x y : Nat} (hx : FConv .f32 .f64 a x) (hy : FConv .f32 .f64 a y) : mean .f64 x = mean .f64 y := conv_same rfl hx hy (fits_wide _) (fits_wide _)
theorem lfrom_any (n : Nat) (hn : n < 4294967296) (w : World) :
    Calls Try.prog 64 #[.int .i64 n] w fun e w' => e = .returned (.float .f32 n) ∧ w' = w := by
  have hc : Hid (n % 4294967296 = n) := Nat.mod_eq_of_lt hn
  clear hn
  go_enter Try.func64, Try.ntmps64
  go_wp2
  go_ret
  exact ⟨ret_float hc.out, rfl⟩
end Go.Proofs.Ytlcekfahjakfgaa
