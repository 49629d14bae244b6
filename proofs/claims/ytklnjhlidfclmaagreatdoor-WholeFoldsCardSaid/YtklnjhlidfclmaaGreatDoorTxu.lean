/- Plain law of the program's texts: sizes, what is read. -/
import Derived.Test.YtklnjhlidfclmaaGreatDoorTxt
import Derived.Test.YtklnjhlidfclmaaGreatDoorLib
set_option linter.unusedVariables false
set_option linter.unusedSimpArgs false
namespace Cps
open Go Go.RowKit

theorem wrap_u8 {a b : Int} (e : a = b) (h1 : 0 ≤ b) (h2 : b ≤ 255) : Value.int .u8 (IntKind.wrap .u8 a) = .int .u8 b := by
  subst e; congr 1; simp only [IntKind.wrap, IntKind.bits, IntKind.signed]; simp; omega
theorem sz_rem (a d : Int) (h : d ≠ 0) : sz (a % d) ≤ sz d := szn_mono (by have := Int.emod_nonneg a h; have := Int.emod_lt a h; omega)
theorem sz_rem2 (a d : Int) : sz (a % d) ≤ sz a + sz d := by
  by_cases h : d = 0
  · subst h; rw [Int.emod_zero]; omega
  · have := sz_rem a d h; omega
theorem sz_gcd2 (a b : Int) : sz (Int.gcd a b : Int) ≤ sz a + sz b := by
  by_cases h : b = 0
  · subst h; rw [Int.gcd_zero_right, sz_nat]; exact Nat.le_add_right _ _
  · exact Nat.le_trans (sz_gcd a b h) (Nat.le_add_left _ _)
theorem ret_str {a b : List UInt8} (h : a = b) : Ending.returned (.string (bs a)) = .returned (.string (bs b)) := by rw [h]
theorem lt_ten (x : Nat) : x < 10 ^ (8 * szn x + 1) := by
  have h4 : x < 16777216 ^ szn x := lt_pow_digs (b := 16777216) (by omega) x
  have h5 : (16777216 : Nat) ^ szn x ≤ (10 ^ 8) ^ szn x := Nat.pow_le_pow_left (by decide) _
  rw [← Nat.pow_mul] at h5
  exact Nat.lt_of_lt_of_le h4 (Nat.le_trans h5 (Nat.pow_le_pow_right (by decide) (by omega)))
theorem dec_szn (x : Nat) : (dec x).length ≤ 8 * szn x + 1 := dec_len (by omega) (lt_ten x)
theorem rounds_lt {x a m : Nat} (ha : a = x / 10000000 ^ m) (h : a ≠ 0) : m + 1 ≤ 2 * szn x := by
  have h0 : 10000000 ^ m ≤ x := by
    rcases Nat.lt_or_ge x (10000000 ^ m) with h1 | h1
    · rw [Nat.div_eq_of_lt h1] at ha; omega
    · exact h1
  have h4 : x < 16777216 ^ szn x := lt_pow_digs (b := 16777216) (by omega) x
  have h5 : (2 ^ 12) ^ m ≤ (10000000 : Nat) ^ m := Nat.pow_le_pow_left (by decide) _
  have h6 : (2 : Nat) ^ (12 * m) < 2 ^ (24 * szn x) := by
    rw [Nat.pow_mul, Nat.pow_mul]; exact Nat.lt_of_le_of_lt (Nat.le_trans h5 h0) h4
  have := (Nat.pow_lt_pow_iff_right (by decide : 1 < 2)).1 h6
  omega
theorem ten7_dg : ([10000000] : List Int) = dg 10000000 := by
  rw [dg_cons (by decide), show (10000000 : Nat) / 16777216 = 0 by decide, show dg 0 = [] from digs_zero _]; rfl
theorem u8l_row7 (r : Nat) : u8l (((((((((List.replicate 7 0).set 6 ((48 + r % 10 : Nat) : Int)).set 5 ((48 + r / 10 % 10 : Nat) : Int)).set 4 ((48 + r / 10 / 10 % 10 : Nat) : Int)).set 3 ((48 + r / 10 / 10 / 10 % 10 : Nat) : Int)).set 2 ((48 + r / 10 / 10 / 10 / 10 % 10 : Nat) : Int)).set 1 ((48 + r / 10 / 10 / 10 / 10 / 10 % 10 : Nat) : Int)).set 0 ((48 + r / 10 / 10 / 10 / 10 / 10 / 10 % 10 : Nat) : Int))) = pad 7 r := by
  have h := digit_row r (fun i => ((48 + r / 10 ^ i % 10 : Nat) : Int)) (fun _ => rfl)
  rw [← h]
  simp only [List.replicate, List.set_cons_succ, List.set_cons_zero, u8l, Nat.div_div_eq_div_mul]
  simp
theorem u8_range {L : List Int} (h : ∀ v ∈ L, 0 ≤ v ∧ v < 256) (j : Nat) {z : Int} (hz : 0 ≤ z ∧ z < 256) : ∀ v ∈ L.set j z, 0 ≤ v ∧ v < 256 := by
  intro v hv
  rcases List.mem_or_eq_of_mem_set hv with h1 | h1
  · exact h v h1
  · rw [h1]; exact hz
theorem u8_zeros (n : Nat) : ∀ v ∈ List.replicate n (0 : Int), 0 ≤ v ∧ v < 256 := by
  intro v hv; rw [(List.mem_replicate.1 hv).2]; decide

/-! ### integers, ratios, pairs -/
def decZ (a : Int) : List UInt8 := if a < 0 then [45] ++ dec a.natAbs else dec a.natAbs
def decR (a : Rat) : List UInt8 := if a.den - 1 = 0 then decZ a.num else decZ a.num ++ [47] ++ decZ (a.den : Int)
def decV (v : Rat × Rat) : List UInt8 := [40] ++ decR v.1 ++ [44, 32] ++ decR v.2 ++ [41]
theorem sign_neg_iff (a : Int) : a.sign < 0 ↔ a < 0 := by
  rcases Int.lt_trichotomy a 0 with h | h | h
  · rw [Int.sign_eq_neg_one_of_neg h]; omega
  · subst h; simp
  · rw [Int.sign_eq_one_of_pos h]; omega
theorem sign_pos_iff (a : Int) : 0 < a.sign ↔ 0 < a := by
  rcases Int.lt_trichotomy a 0 with h | h | h
  · rw [Int.sign_eq_neg_one_of_neg h]; omega
  · subst h; simp
  · rw [Int.sign_eq_one_of_pos h]; omega
theorem decZ_of {a : Int} {m : Bool} (h : m = decide (a < 0)) : (m = true → [45] ++ dec a.natAbs = decZ a) ∧ (¬ m = true → dec a.natAbs = decZ a) := by
  subst h; unfold decZ
  constructor
  · intro h; rw [if_pos (by simpa using h)]
  · intro h; rw [if_neg (by simpa using h)]
theorem decR_of (a : Rat) : (a.den - 1 = 0 → decZ a.num = decR a) ∧ (¬ a.den - 1 = 0 → decZ a.num ++ [47] ++ decZ (a.den : Int) = decR a) := by
  unfold decR
  exact ⟨fun h => by rw [if_pos h], fun h => by rw [if_neg h]⟩
theorem decZ_len (a : Int) : (decZ a).length ≤ 8 * sz a + 2 := by
  have h := dec_szn a.natAbs
  have e : sz a = szn a.natAbs := rfl
  unfold decZ; split
  · simp only [List.length_append, List.length_singleton]; omega
  · omega
theorem decR_len (a : Rat) : (decR a).length ≤ 16 * szR a + 30 := by
  have h1 := decZ_len a.num
  have h2 := decZ_len (a.den : Int)
  have h3 := szR_num a
  have h4 := szR_den a
  have h5 := sz_nat a.den
  unfold decR; split
  · omega
  · simp only [List.length_append, List.length_singleton]; omega
theorem sign_lt (a c : Int) : decide ((a - c).sign < 0) = decide (a < c) := by
  rw [Bool.eq_iff_iff, decide_eq_true_iff, decide_eq_true_iff, sign_neg_iff]; omega
theorem sign_gt (a c : Int) : decide ((a - c).sign > 0) = decide (a > c) := by
  rw [Bool.eq_iff_iff, decide_eq_true_iff, decide_eq_true_iff, gt_iff_lt, sign_pos_iff]; omega
def to64 (a : Int) : Int := if -9223372036854775808 ≤ a ∧ a ≤ 9223372036854775807 then a else 0
theorem wrap_abs_neg {a : Int} (h0 : a < 0) (h : -9223372036854775808 ≤ a) : IntKind.wrap .i64 (0 - IntKind.wrap .i64 ((a.natAbs : Nat) : Int)) = a := by
  rw [IntKind.wrap_i64, IntKind.wrap_i64]; omega
theorem wrap_abs_pos {a : Int} (h0 : ¬ a < 0) (h : a ≤ 9223372036854775807) : IntKind.wrap .i64 ((a.natAbs : Nat) : Int) = a := by
  rw [IntKind.wrap_i64]; omega

/-! ### what is read -/
def isDg' (c : UInt8) : Bool := ([48, 49, 50, 51, 52, 53, 54, 55, 56, 57] : List UInt8).contains c
/-- A number without sign, without zeros ahead. -/
def isDs (s : List UInt8) : Bool := if s = [] then false else if s.all isDg' = true then (if s.length = 1 then true else !(decide ((s.getD 0 0).toNat = 48))) else false
theorem isDs_nil {s : List UInt8} (h : s = []) : false = isDs s := by unfold isDs; rw [if_pos h]
theorem isDs_bad {s : List UInt8} (h : s ≠ []) (h1 : ¬ s.all isDg' = true) : false = isDs s := by unfold isDs; rw [if_neg h, if_neg h1]
theorem isDs_one {s : List UInt8} (h : s ≠ []) (h1 : s.all isDg' = true) (h2 : s.length = 1) : true = isDs s := by unfold isDs; rw [if_neg h, if_pos h1, if_pos h2]
theorem isDs_more {s : List UInt8} (h : s ≠ []) (h1 : s.all isDg' = true) (h2 : ¬ s.length = 1) : ((((s.getD 0 0).toNat : Nat) : Int) != (48 : Int)) = isDs s := by
  unfold isDs; rw [if_neg h, if_pos h1, if_neg h2, Bool.eq_iff_iff]; simp; omega
theorem isDs_all {s : List UInt8} (h : isDs s = true) : s.all isDg' = true := by
  unfold isDs at h
  split at h
  · cases h
  · split at h
    · assumption
    · cases h
theorem dg_range {s : List UInt8} (h : s.all isDg' = true) {i : Nat} (hi : i < s.length) : 48 ≤ (s.getD i 0).toNat ∧ (s.getD i 0).toNat ≤ 57 := by
  have h1 := List.all_eq_true.1 h _ (List.getElem_mem hi)
  rw [List.getD_eq_getElem?_getD, List.getElem?_eq_getElem hi, Option.getD_some]
  simp only [isDg', List.contains_eq_mem, decide_eq_true_eq, List.mem_cons, List.not_mem_nil, or_false] at h1
  rcases h1 with h | h | h | h | h | h | h | h | h | h <;> rw [h] <;> decide
theorem num_step (s : List UInt8) {i a : Nat} (hi : i < s.length) (ha : a = num (s.take i)) : a * 10 + ((s.getD i 0).toNat - 48) = num (s.take (i + 1)) := by
  rw [List.take_succ_eq_append_getElem hi, num_snoc, ha, List.getD_eq_getElem?_getD, List.getElem?_eq_getElem hi, Option.getD_some]
theorem num_lt {s : List UInt8} (h : s.all isDg' = true) : num s < 10 ^ s.length := by
  have : ∀ i, i ≤ s.length → num (s.take i) < 10 ^ i := by
    intro i
    induction i with
    | zero => intro _; simp [num]
    | succ i ih =>
      intro hi
      have h1 := ih (by omega)
      have h2 := dg_range h (i := i) (by omega)
      rw [← num_step s (by omega) rfl, Nat.pow_succ]; omega
  have := this s.length (Nat.le_refl _)
  rwa [List.take_length] at this
theorem szn_ten {x k : Nat} (h : x < 10 ^ k) : szn x ≤ k := szn_small k (Nat.lt_of_lt_of_le h (Nat.pow_le_pow_left (by decide) k))
theorem num_szn {s : List UInt8} (h : s.all isDg' = true) (i : Nat) : szn (num (s.take i)) ≤ s.length := by
  have h1 : (s.take i).all isDg' = true := List.all_eq_true.2 fun x hx => List.all_eq_true.1 h x (List.mem_of_mem_take hx)
  exact szn_ten (Nat.lt_of_lt_of_le (num_lt h1) (Nat.pow_le_pow_right (by decide) (by simp; omega)))
theorem num_szn_all (s : List UInt8) (h : s.all isDg' = true) : szn (num s) ≤ s.length := by
  have := num_szn h s.length; rwa [List.take_length] at this
def parseZ (s : List UInt8) : Int × Int := if 1000 < s.length then (0, 5) else if isDs (strip s) = true then (mk (decide (s.head? = some 45)) (num (strip s)), 0) else (0, 4)
def cutTop (s : List UInt8) : List UInt8 := s.takeWhile (· != 47)
def cutRest (s : List UInt8) : List UInt8 := (s.dropWhile (· != 47)).drop 1
def parseR (s : List UInt8) : Rat × Int :=
  if 1000 < s.length then (0, 5)
  else if (parseZ (cutTop s)).2 ≠ 0 then (0, 4)
  else if s.contains 47 = true then (if isDs (cutRest s) = true then (if num (cutRest s) = 0 then (0, 9) else (Rat.divInt (parseZ (cutTop s)).1 (num (cutRest s)), 0)) else (0, 4))
  else ((parseZ (cutTop s)).1, 0)
theorem sz_mk' (m : Bool) (n : Nat) : sz (mk m n) = szn n := sz_mk m n
theorem parseZ_sz (s : List UInt8) : sz (parseZ s).1 ≤ s.length := by
  unfold parseZ
  split
  · rw [sz_zero]; omega
  · split
    · rename_i h
      rw [sz_mk]
      exact Nat.le_trans (num_szn_all _ (isDs_all h)) (strip_len s)
    · rw [sz_zero]; omega
theorem cutTop_len (s : List UInt8) : (cutTop s).length ≤ s.length := (List.takeWhile_sublist _).length_le
theorem cutRest_len (s : List UInt8) : (cutRest s).length ≤ s.length := by
  have h : (cutRest s).length ≤ (s.dropWhile (· != 47)).length := by unfold cutRest; simp
  exact Nat.le_trans h (List.dropWhile_sublist _).length_le
section
variable {s : List UInt8}
theorem parseR_long (h : 1000 < s.length) : parseR s = (0, 5) := if_pos h
theorem parseR_top (h : ¬ 1000 < s.length) (h1 : (parseZ (cutTop s)).2 ≠ 0) : parseR s = (0, 4) := by unfold parseR; rw [if_neg h, if_pos h1]
theorem parseR_int (h : ¬ 1000 < s.length) (h1 : ¬ (parseZ (cutTop s)).2 ≠ 0) (hc : ¬ s.contains 47 = true) : parseR s = (((parseZ (cutTop s)).1 : Rat), 0) := by unfold parseR; rw [if_neg h, if_neg h1, if_neg hc]
theorem parseR_bad (h : ¬ 1000 < s.length) (h1 : ¬ (parseZ (cutTop s)).2 ≠ 0) (hc : s.contains 47 = true) (hd : ¬ isDs (cutRest s) = true) : parseR s = (0, 4) := by unfold parseR; rw [if_neg h, if_neg h1, if_pos hc, if_neg hd]
theorem parseR_zero (h : ¬ 1000 < s.length) (h1 : ¬ (parseZ (cutTop s)).2 ≠ 0) (hc : s.contains 47 = true) (hd : isDs (cutRest s) = true) (h0 : num (cutRest s) = 0) : parseR s = (0, 9) := by unfold parseR; rw [if_neg h, if_neg h1, if_pos hc, if_pos hd, if_pos h0]
theorem parseR_frac (h : ¬ 1000 < s.length) (h1 : ¬ (parseZ (cutTop s)).2 ≠ 0) (hc : s.contains 47 = true) (hd : isDs (cutRest s) = true) (h0 : ¬ num (cutRest s) = 0) : parseR s = (Rat.divInt (parseZ (cutTop s)).1 (num (cutRest s)), 0) := by unfold parseR; rw [if_neg h, if_neg h1, if_pos hc, if_pos hd, if_neg h0]
end
theorem index_spec (s : List UInt8) : (0 ≤ Lib.indexByte s 47 → (Lib.indexByte s 47).toNat < s.length ∧ s.take (Lib.indexByte s 47).toNat = cutTop s ∧ s.drop ((Lib.indexByte s 47).toNat + 1) = cutRest s ∧ s.contains 47 = true) ∧ (Lib.indexByte s 47 < 0 → s = cutTop s ∧ cutRest s = [] ∧ s.contains 47 = false) := by
  induction s with
  | nil => exact ⟨fun h => absurd h (by decide), fun _ => ⟨rfl, rfl, rfl⟩⟩
  | cons b l ih =>
    have hge := Lib.indexByte_ge l 47
    unfold Lib.indexByte
    by_cases hb : b = 47
    · subst hb
      rw [if_pos (by decide)]
      refine ⟨fun _ => ⟨by simp, ?_, ?_, ?_⟩, fun h => absurd h (by decide)⟩
      · simp [cutTop]
      · simp [cutRest]
      · simp
    · have h1 : (b == 47) = false := beq_eq_false_iff_ne.2 hb
      have hc : (b :: l).contains 47 = l.contains 47 := by
        have : ((47 : UInt8) == b) = false := beq_eq_false_iff_ne.2 (Ne.symm hb)
        rw [List.contains_cons, this, Bool.false_or]
      have ht : cutTop (b :: l) = b :: cutTop l := by simp [cutTop, List.takeWhile_cons, bne, h1]
      have hr : cutRest (b :: l) = cutRest l := by simp [cutRest, List.dropWhile_cons, bne, h1]
      rw [if_neg (by rw [h1]; decide), hc, ht, hr]
      by_cases hn : Lib.indexByte l 47 = -1
      · rw [if_pos (by rw [hn]; rfl)]
        obtain ⟨h2, h3, h4⟩ := ih.2 (by omega)
        exact ⟨fun h => absurd h (by decide), fun _ => ⟨congrArg _ h2, h3, h4⟩⟩
      · rw [if_neg (by simpa using hn)]
        obtain ⟨h2, h3, h4, h5⟩ := ih.1 (by omega)
        refine ⟨fun _ => ?_, fun h => absurd h (by omega)⟩
        rw [show (Lib.indexByte l 47 + 1).toNat = (Lib.indexByte l 47).toNat + 1 by omega]
        exact ⟨by simp; omega, by rw [List.take_succ_cons, h3], by rw [List.drop_succ_cons, h4], h5⟩
end Cps
