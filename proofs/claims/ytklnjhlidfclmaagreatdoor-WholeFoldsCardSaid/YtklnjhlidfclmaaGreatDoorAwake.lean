/- Plain law: the examples of awake. -/
import Derived.Test.YtklnjhlidfclmaaGreatDoorList
set_option linter.unusedVariables false
set_option linter.unusedSimpArgs false
namespace Cps
open Go Go.RowKit

theorem dec_small {n : Nat} (h : n < 10) : dec n = [chr n] := by rw [dec, dif_pos h]
theorem decZ_small {a : Int} {n : Nat} (e : a = n) (h : n < 10) : decZ a = [chr n] := by
  subst e; unfold decZ; rw [if_neg (by omega), Int.natAbs_natCast, dec_small h]
theorem decZ_minus {a : Int} {n : Nat} (e : a = -n) (h0 : 0 < n) (h : n < 10) : decZ a = [45, chr n] := by
  subst e; unfold decZ; rw [if_pos (by omega), Int.natAbs_neg, Int.natAbs_natCast, dec_small h]; rfl
theorem decR_small {a : Rat} {n d : Nat} (e1 : a.num = n) (e2 : a.den = d) (h : n < 10) (h0 : 1 < d) (h1 : d < 10) : decR a = [chr n] ++ [47] ++ [chr d] := by
  unfold decR; rw [if_neg (by omega), e2, decZ_small e1 h, decZ_small rfl h1]
theorem decR_whole {a : Rat} {n : Nat} (e1 : a.num = n) (e2 : a.den = 1) (h : n < 10) : decR a = [chr n] := by
  unfold decR; rw [if_pos (by omega), decZ_small e1 h]
theorem szR_le {r : Rat} (h1 : r.num.natAbs < 16777216) (h2 : r.den < 16777216) : szR r ≤ 1 :=
  Nat.max_le.2 ⟨szn_small 1 (by simpa using h1), szn_small 1 (by simpa using h2)⟩
theorem aw1 : decZ (-7 / 2) = [45, 52] := decZ_minus (n := 4) (by decide) (by decide) (by decide)
theorem aw2 : decZ (-7 % 2) = [49] := decZ_small (n := 1) (by decide) (by decide)
theorem aw64 : parseR [54, 47, 52] = (3 / 2, 0) := by decide +kernel
theorem aw12 : parseR [49, 47, 50] = (1 / 2, 0) := by decide +kernel
theorem aw13 : parseR [49, 47, 51] = (1 / 3, 0) := by decide +kernel
theorem aw16 : parseR [49, 47, 54] = (1 / 6, 0) := by decide +kernel
theorem aw3 : decR (parseR [54, 47, 52]).1 = [51, 47, 50] := by rw [aw64]; exact decR_small (n := 3) (d := 2) (by decide +kernel) (by decide +kernel) (by decide) (by decide) (by decide)
theorem aw3e : (parseR [54, 47, 52]).2 = 0 := by rw [aw64]
theorem aw4 : decZ (Int.gcd (-12) 18 : Int) = [54] := decZ_small (n := 6) (by decide) (by decide)
theorem awS : foldR (· + ·) [(parseR [49, 47, 50]).1, (parseR [49, 47, 51]).1, (parseR [49, 47, 54]).1] = 1 := by rw [aw12, aw13, aw16]; decide +kernel
theorem aw5 : decR (foldR (· + ·) [(parseR [49, 47, 50]).1, (parseR [49, 47, 51]).1, (parseR [49, 47, 54]).1]) = [49] := by
  rw [awS]; exact decR_whole (n := 1) (by decide +kernel) (by decide +kernel) (by decide)
theorem aw_szs : szR (parseR [54, 47, 52]).1 ≤ 1 ∧ szR (foldR (· + ·) [(parseR [49, 47, 50]).1, (parseR [49, 47, 51]).1, (parseR [49, 47, 54]).1]) ≤ 1 := by
  rw [awS, aw64]; exact ⟨szR_le (by decide +kernel) (by decide +kernel), szR_le (by decide +kernel) (by decide +kernel)⟩
theorem aw_sum : ∀ i, i < [(parseR [49, 47, 50]).1, (parseR [49, 47, 51]).1, (parseR [49, 47, 54]).1].length → szR (foldR (· + ·) ([(parseR [49, 47, 50]).1, (parseR [49, 47, 51]).1, (parseR [49, 47, 54]).1].take i)) + szR ([(parseR [49, 47, 50]).1, (parseR [49, 47, 51]).1, (parseR [49, 47, 54]).1].getD i 0) ≤ 68719476736 := by
  rw [aw12, aw13, aw16]
  intro i hi
  have h : ∀ r : Rat, r.num.natAbs < 16777216 → r.den < 16777216 → szR r ≤ 1 := fun r => szR_le
  simp only [List.length_cons, List.length_nil] at hi
  have : i = 0 ∨ i = 1 ∨ i = 2 := by omega
  rcases this with rfl | rfl | rfl
  · exact Nat.le_trans (Nat.add_le_add (h _ (by decide +kernel) (by decide +kernel)) (h _ (by decide +kernel) (by decide +kernel))) (by decide)
  · exact Nat.le_trans (Nat.add_le_add (h _ (by decide +kernel) (by decide +kernel)) (h _ (by decide +kernel) (by decide +kernel))) (by decide)
  · exact Nat.le_trans (Nat.add_le_add (h _ (by decide +kernel) (by decide +kernel)) (h _ (by decide +kernel) (by decide +kernel))) (by decide)
end Cps
