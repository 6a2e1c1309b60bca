/-
  Tenths of decibels of products: a part of the pairs.
-/
import Derived.Test.YtlcekfahjakfgaaCt
namespace Go.Proofs.Ytlcekfahjakfgaa
theorem ten_d0 : allN 13 (fun i => rowP (Nat.add 102 i)) = true := by decide +kernel
theorem ten_d1 : allN 13 (fun i => rowP (Nat.add 115 i)) = true := by decide +kernel
theorem ten_d2 : allN 13 (fun i => rowP (Nat.add 128 i)) = true := by decide +kernel
theorem ten_d3 : allN 13 (fun i => rowP (Nat.add 141 i)) = true := by decide +kernel
theorem ten_d4 : allN 13 (fun i => rowP (Nat.add 154 i)) = true := by decide +kernel
theorem ten_d5 : allN 13 (fun i => rowP (Nat.add 167 i)) = true := by decide +kernel
theorem ten_d6 : allN 13 (fun i => rowP (Nat.add 180 i)) = true := by decide +kernel
theorem ten_d7 : allN 8 (fun i => rowP (Nat.add 193 i)) = true := by decide +kernel
theorem ten_d {n : Nat} (h1 : 102 ≤ n) (h2 : n < 201) : rowP n = true := by
  by_cases c0 : n < 115
  · have h := allN_all ten_d0 (n - 102) (by omega)
    have e : Nat.add 102 (n - 102) = n := by show 102 + (n - 102) = n; omega
    rw [e] at h; exact h
  by_cases c1 : n < 128
  · have h := allN_all ten_d1 (n - 115) (by omega)
    have e : Nat.add 115 (n - 115) = n := by show 115 + (n - 115) = n; omega
    rw [e] at h; exact h
  by_cases c2 : n < 141
  · have h := allN_all ten_d2 (n - 128) (by omega)
    have e : Nat.add 128 (n - 128) = n := by show 128 + (n - 128) = n; omega
    rw [e] at h; exact h
  by_cases c3 : n < 154
  · have h := allN_all ten_d3 (n - 141) (by omega)
    have e : Nat.add 141 (n - 141) = n := by show 141 + (n - 141) = n; omega
    rw [e] at h; exact h
  by_cases c4 : n < 167
  · have h := allN_all ten_d4 (n - 154) (by omega)
    have e : Nat.add 154 (n - 154) = n := by show 154 + (n - 154) = n; omega
    rw [e] at h; exact h
  by_cases c5 : n < 180
  · have h := allN_all ten_d5 (n - 167) (by omega)
    have e : Nat.add 167 (n - 167) = n := by show 167 + (n - 167) = n; omega
    rw [e] at h; exact h
  by_cases c6 : n < 193
  · have h := allN_all ten_d6 (n - 180) (by omega)
    have e : Nat.add 180 (n - 180) = n := by show 180 + (n - 180) = n; omega
    rw [e] at h; exact h
  by_cases c7 : n < 201
  · have h := allN_all ten_d7 (n - 193) (by omega)
    have e : Nat.add 193 (n - 193) = n := by show 193 + (n - 193) = n; omega
    rw [e] at h; exact h
  omega
end Go.Proofs.Ytlcekfahjakfgaa
