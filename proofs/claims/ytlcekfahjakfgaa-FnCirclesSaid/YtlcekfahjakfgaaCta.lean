/-
  Tenths of decibels of products: a part of the pairs.
-/
import Derived.Test.YtlcekfahjakfgaaCt
namespace Go.Proofs.Ytlcekfahjakfgaa
theorem ten_a0 : allN 4 (fun i => rowP (Nat.add 1 i)) = true := by decide +kernel
theorem ten_a1 : allN 4 (fun i => rowP (Nat.add 5 i)) = true := by decide +kernel
theorem ten_a2 : allN 4 (fun i => rowP (Nat.add 9 i)) = true := by decide +kernel
theorem ten_a3 : allN 4 (fun i => rowP (Nat.add 13 i)) = true := by decide +kernel
theorem ten_a4 : allN 4 (fun i => rowP (Nat.add 17 i)) = true := by decide +kernel
theorem ten_a5 : allN 4 (fun i => rowP (Nat.add 21 i)) = true := by decide +kernel
theorem ten_a6 : allN 3 (fun i => rowP (Nat.add 25 i)) = true := by decide +kernel
theorem ten_a {n : Nat} (h1 : 1 ≤ n) (h2 : n < 28) : rowP n = true := by
  by_cases c0 : n < 5
  · have h := allN_all ten_a0 (n - 1) (by omega)
    have e : Nat.add 1 (n - 1) = n := by show 1 + (n - 1) = n; omega
    rw [e] at h; exact h
  by_cases c1 : n < 9
  · have h := allN_all ten_a1 (n - 5) (by omega)
    have e : Nat.add 5 (n - 5) = n := by show 5 + (n - 5) = n; omega
    rw [e] at h; exact h
  by_cases c2 : n < 13
  · have h := allN_all ten_a2 (n - 9) (by omega)
    have e : Nat.add 9 (n - 9) = n := by show 9 + (n - 9) = n; omega
    rw [e] at h; exact h
  by_cases c3 : n < 17
  · have h := allN_all ten_a3 (n - 13) (by omega)
    have e : Nat.add 13 (n - 13) = n := by show 13 + (n - 13) = n; omega
    rw [e] at h; exact h
  by_cases c4 : n < 21
  · have h := allN_all ten_a4 (n - 17) (by omega)
    have e : Nat.add 17 (n - 17) = n := by show 17 + (n - 17) = n; omega
    rw [e] at h; exact h
  by_cases c5 : n < 25
  · have h := allN_all ten_a5 (n - 21) (by omega)
    have e : Nat.add 21 (n - 21) = n := by show 21 + (n - 21) = n; omega
    rw [e] at h; exact h
  by_cases c6 : n < 28
  · have h := allN_all ten_a6 (n - 25) (by omega)
    have e : Nat.add 25 (n - 25) = n := by show 25 + (n - 25) = n; omega
    rw [e] at h; exact h
  omega
end Go.Proofs.Ytlcekfahjakfgaa
