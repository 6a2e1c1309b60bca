/-
  Tenths of decibels of products: a part of the pairs.
-/
import Derived.Test.YtlcekfahjakfgaaCt
namespace Go.Proofs.Ytlcekfahjakfgaa
theorem ten_b0 : allN 4 (fun i => rowP (Nat.add 28 i)) = true := by decide +kernel
theorem ten_b1 : allN 4 (fun i => rowP (Nat.add 32 i)) = true := by decide +kernel
theorem ten_b2 : allN 4 (fun i => rowP (Nat.add 36 i)) = true := by decide +kernel
theorem ten_b3 : allN 4 (fun i => rowP (Nat.add 40 i)) = true := by decide +kernel
theorem ten_b4 : allN 4 (fun i => rowP (Nat.add 44 i)) = true := by decide +kernel
theorem ten_b5 : allN 4 (fun i => rowP (Nat.add 48 i)) = true := by decide +kernel
theorem ten_b6 : allN 4 (fun i => rowP (Nat.add 52 i)) = true := by decide +kernel
theorem ten_b7 : allN 4 (fun i => rowP (Nat.add 56 i)) = true := by decide +kernel
theorem ten_b {n : Nat} (h1 : 28 ≤ n) (h2 : n < 60) : rowP n = true := by
  by_cases c0 : n < 32
  · have h := allN_all ten_b0 (n - 28) (by omega)
    have e : Nat.add 28 (n - 28) = n := by show 28 + (n - 28) = n; omega
    rw [e] at h; exact h
  by_cases c1 : n < 36
  · have h := allN_all ten_b1 (n - 32) (by omega)
    have e : Nat.add 32 (n - 32) = n := by show 32 + (n - 32) = n; omega
    rw [e] at h; exact h
  by_cases c2 : n < 40
  · have h := allN_all ten_b2 (n - 36) (by omega)
    have e : Nat.add 36 (n - 36) = n := by show 36 + (n - 36) = n; omega
    rw [e] at h; exact h
  by_cases c3 : n < 44
  · have h := allN_all ten_b3 (n - 40) (by omega)
    have e : Nat.add 40 (n - 40) = n := by show 40 + (n - 40) = n; omega
    rw [e] at h; exact h
  by_cases c4 : n < 48
  · have h := allN_all ten_b4 (n - 44) (by omega)
    have e : Nat.add 44 (n - 44) = n := by show 44 + (n - 44) = n; omega
    rw [e] at h; exact h
  by_cases c5 : n < 52
  · have h := allN_all ten_b5 (n - 48) (by omega)
    have e : Nat.add 48 (n - 48) = n := by show 48 + (n - 48) = n; omega
    rw [e] at h; exact h
  by_cases c6 : n < 56
  · have h := allN_all ten_b6 (n - 52) (by omega)
    have e : Nat.add 52 (n - 52) = n := by show 52 + (n - 52) = n; omega
    rw [e] at h; exact h
  by_cases c7 : n < 60
  · have h := allN_all ten_b7 (n - 56) (by omega)
    have e : Nat.add 56 (n - 56) = n := by show 56 + (n - 56) = n; omega
    rw [e] at h; exact h
  omega
end Go.Proofs.Ytlcekfahjakfgaa
