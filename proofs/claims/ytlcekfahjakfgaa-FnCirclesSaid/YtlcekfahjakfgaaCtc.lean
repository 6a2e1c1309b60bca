/-
  Tenths of decibels of products: a part of the pairs.
-/
import Derived.Test.YtlcekfahjakfgaaCt
namespace Go.Proofs.Ytlcekfahjakfgaa
theorem ten_c0 : allN 6 (fun i => rowP (Nat.add 60 i)) = true := by decide +kernel
theorem ten_c1 : allN 6 (fun i => rowP (Nat.add 66 i)) = true := by decide +kernel
theorem ten_c2 : allN 6 (fun i => rowP (Nat.add 72 i)) = true := by decide +kernel
theorem ten_c3 : allN 6 (fun i => rowP (Nat.add 78 i)) = true := by decide +kernel
theorem ten_c4 : allN 6 (fun i => rowP (Nat.add 84 i)) = true := by decide +kernel
theorem ten_c5 : allN 6 (fun i => rowP (Nat.add 90 i)) = true := by decide +kernel
theorem ten_c6 : allN 6 (fun i => rowP (Nat.add 96 i)) = true := by decide +kernel
theorem ten_c {n : Nat} (h1 : 60 ≤ n) (h2 : n < 102) : rowP n = true := by
  by_cases c0 : n < 66
  · have h := allN_all ten_c0 (n - 60) (by omega)
    have e : Nat.add 60 (n - 60) = n := by show 60 + (n - 60) = n; omega
    rw [e] at h; exact h
  by_cases c1 : n < 72
  · have h := allN_all ten_c1 (n - 66) (by omega)
    have e : Nat.add 66 (n - 66) = n := by show 66 + (n - 66) = n; omega
    rw [e] at h; exact h
  by_cases c2 : n < 78
  · have h := allN_all ten_c2 (n - 72) (by omega)
    have e : Nat.add 72 (n - 72) = n := by show 72 + (n - 72) = n; omega
    rw [e] at h; exact h
  by_cases c3 : n < 84
  · have h := allN_all ten_c3 (n - 78) (by omega)
    have e : Nat.add 78 (n - 78) = n := by show 78 + (n - 78) = n; omega
    rw [e] at h; exact h
  by_cases c4 : n < 90
  · have h := allN_all ten_c4 (n - 84) (by omega)
    have e : Nat.add 84 (n - 84) = n := by show 84 + (n - 84) = n; omega
    rw [e] at h; exact h
  by_cases c5 : n < 96
  · have h := allN_all ten_c5 (n - 90) (by omega)
    have e : Nat.add 90 (n - 90) = n := by show 90 + (n - 90) = n; omega
    rw [e] at h; exact h
  by_cases c6 : n < 102
  · have h := allN_all ten_c6 (n - 96) (by omega)
    have e : Nat.add 96 (n - 96) = n := by show 96 + (n - 96) = n; omega
    rw [e] at h; exact h
  omega
end Go.Proofs.Ytlcekfahjakfgaa
