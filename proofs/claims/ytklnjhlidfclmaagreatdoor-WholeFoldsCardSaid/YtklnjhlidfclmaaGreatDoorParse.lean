/- Plain law of what the reference reads: integers and ratios of texts. -/
import Derived.Test.YtklnjhlidfclmaaGreatDoorLaws
set_option linter.unusedVariables false
set_option linter.unusedSimpArgs false
namespace Cps
open Go Go.RowKit

theorem num_fold (b : List UInt8) (x : Nat) : b.foldl (fun a c => a * 10 + (c.toNat - 48)) x = x * 10 ^ b.length + num b := by
  induction b generalizing x with
  | nil => simp [num]
  | cons c b ih =>
    have e : num (c :: b) = b.foldl (fun a c => a * 10 + (c.toNat - 48)) (0 * 10 + (c.toNat - 48)) := rfl
    rw [e, List.foldl_cons, ih, ih (0 * 10 + (c.toNat - 48)), List.length_cons, Nat.pow_succ]
    grind
theorem num_app (a b : List UInt8) : num (a ++ b) = num a * 10 ^ b.length + num b := by
  rw [← num_fold]; unfold num; rw [List.foldl_append]
theorem num_nil : num [] = 0 := rfl
theorem all_take {s : List UInt8} {p : UInt8 → Bool} (h : s.all p = true) (i : Nat) : (s.take i).all p = true := List.all_eq_true.2 fun x hx => List.all_eq_true.1 h x (List.mem_of_mem_take hx)
theorem all_drop {s : List UInt8} {p : UInt8 → Bool} (h : s.all p = true) (i : Nat) : (s.drop i).all p = true := List.all_eq_true.2 fun x hx => List.all_eq_true.1 h x (List.mem_of_mem_drop hx)
theorem num_part {s : List UInt8} (h : s.all isDg' = true) (k i : Nat) : num ((s.drop k).take i) < 10 ^ i := by
  have h1 := num_lt (all_take (all_drop h k) i)
  exact Nat.lt_of_lt_of_le h1 (Nat.pow_le_pow_right (by decide) (by simp; omega))
/-- A group of at most four digits, one digit further. -/
theorem zp_digit {r : List UInt8} (h : r.all isDg' = true) {k i x : Int} (hk : 0 ≤ k ∧ k ≤ i) (hi : i < (r.length : Int)) (hl : (r.length : Int) ≤ k + 4) (hx : x = ((num ((r.drop k.toNat).take (i - k).toNat) : Nat) : Int)) :
    (0 ≤ x ∧ x ≤ 999) ∧ 10 * x + (((r.getD i.toNat 0).toNat - 48 : Nat) : Int) = ((num ((r.drop k.toNat).take (i + 1 - k).toNat) : Nat) : Int) := by
  have h1 := num_part h k.toNat (i - k).toNat
  have h2 : (10 : Nat) ^ (i - k).toNat ≤ 10 ^ 3 := Nat.pow_le_pow_right (by decide) (by omega)
  refine ⟨by omega, ?_⟩
  have e := num_step (r.drop k.toNat) (i := (i - k).toNat) (a := num ((r.drop k.toNat).take (i - k).toNat)) (by simp; omega) rfl
  rw [show (i + 1 - k).toNat = (i - k).toNat + 1 by omega, ← e, hx]
  have e2 : (r.drop k.toNat).getD (i - k).toNat 0 = r.getD i.toNat 0 := by
    simp only [List.getD_eq_getElem?_getD, List.getElem?_drop]; congr 2; omega
  rw [e2]; omega
theorem zp_group {r : List UInt8} {k i x : Int} (hk : 0 ≤ k) (hi : i = (r.length : Int)) (hx : x = ((num ((r.drop k.toNat).take (i - k).toNat) : Nat) : Int)) : x = ((num (r.drop k.toNat) : Nat) : Int) := by
  rw [hx, List.take_of_length_le (by simp; omega)]
theorem zp_num {r : List UInt8} {k : Nat} (hk : k = r.length - 4) : num (r.take k) * 10000 + num (r.drop k) = num r := by
  have e := num_app (r.take k) (r.drop k)
  rw [List.take_append_drop] at e
  rw [e, List.length_drop]
  by_cases h : 4 ≤ r.length
  · rw [show r.length - k = 4 by omega]
  · rw [show k = 0 by omega]; simp [num]
theorem zp_step {P : List Int} {i N : Nat} {r : List UInt8} {k x : Int} (hP : P.length = i) (hk : k = ((r.length - 4 : Nat) : Int)) (hx : x = ((num (r.drop k.toNat) : Nat) : Int)) (h : val 10000 P + 10000 ^ i * ((num r : Nat) : Int) = (N : Int)) :
    val 10000 (P ++ [x]) + 10000 ^ (i + 1) * ((num (r.take k.toNat) : Nat) : Int) = (N : Int) := by
  have e := zp_num (r := r) (k := k.toNat) (by omega)
  have e' : ((num r : Nat) : Int) = ((num (r.take k.toNat) : Nat) : Int) * 10000 + ((num (r.drop k.toNat) : Nat) : Int) := by omega
  rw [val_snoc, hP, ← h, Int.pow_succ, hx, e']
  generalize ((num (r.take k.toNat) : Nat) : Int) = p
  generalize ((num (r.drop k.toNat) : Nat) : Int) = q
  grind
theorem zp_done {P : List Int} {i N : Nat} {r : List UInt8} (h0 : r.length = 0) (h : val 10000 P + 10000 ^ i * ((num r : Nat) : Int) = (N : Int)) : val 10000 P = (N : Int) := by
  have : r = [] := List.length_eq_zero_iff.1 h0
  subst this; simpa [num] using h
theorem zp_no45 {s : List UInt8} (h : s.all isDg' = true) (hl : 0 < s.length) : ¬ (((s.getD 0 0).toNat : Nat) : Int) = 45 := by
  have := dg_range h hl; omega

/-- The integer of a text. -/
def zval (s : List UInt8) : Int := mk (decide (s.head? = some 45)) (num (strip s))
theorem zval_minus {s : List UInt8} (h : (((s.getD 0 0).toNat : Nat) : Int) = 45) : zval s = -((num (s.drop 1) : Nat) : Int) := by
  have e := strip_minus h
  have hh : s.head? = some 45 := by
    cases s with
    | nil => simp at h
    | cons c r =>
      have h3 : c.toNat = 45 := Int.ofNat.inj h
      have h4 : c = UInt8.ofNat c.toNat := by simp
      rw [List.head?_cons, h4, h3]; rfl
  unfold zval; rw [decide_eq_true hh, ← e]; rfl
theorem zval_plain {s : List UInt8} (h : s = [] ∨ ¬ (((s.getD 0 0).toNat : Nat) : Int) = 45) : zval s = ((num s : Nat) : Int) := by
  have e := strip_none h
  have hh : ¬ s.head? = some 45 := by
    intro hh
    cases s with
    | nil => simp at hh
    | cons c r =>
      rcases h with h | h
      · cases h
      · apply h
        rw [List.head?_cons, Option.some.injEq] at hh
        subst hh; rfl
  unfold zval; rw [decide_eq_false hh, ← e]; rfl
theorem zval_szg (s : List UInt8) (h : (strip s).all isDg' = true) : szg (zval s) ≤ s.length := by
  have h1 := num_lt h
  have h2 := strip_len s
  unfold zval
  apply szg_le
  rw [mk_abs]
  refine Nat.lt_of_lt_of_le h1 (Nat.le_trans (Nat.pow_le_pow_left (by decide : 10 ≤ 10000) _) (Nat.pow_le_pow_right (by decide) h2))
theorem parseZ_ok' {s : List UInt8} (hl : s.length ≤ 1000) (h : isDs (strip s) = true) : parseZ s = (zval s, 0) := by
  unfold parseZ; rw [if_neg (by omega), if_pos h]; rfl
theorem parseZ_no {s : List UInt8} (hl : s.length ≤ 1000) (h : ¬ isDs (strip s) = true) : parseZ s = (0, 4) := by
  unfold parseZ; rw [if_neg (by omega), if_neg h]
theorem parseZ_long {s : List UInt8} (hl : 1000 < s.length) : parseZ s = (0, 5) := if_pos hl
/-- The ratio of a text, by the reference: 0 right, 1 the form is not, 2 the denominator is 0. -/
def nparse (s : List UInt8) : Rat × Int :=
  if s.contains 47 = true then
    (if isDs (strip (cutTop s)) = true ∧ isDs (cutRest s) = true then (if num (cutRest s) = 0 then (0, 2) else (Rat.divInt (zval (cutTop s)) (num (cutRest s)), 0)) else (0, 1))
  else (if isDs (strip s) = true then ((zval s : Int), 0) else (0, 1))
theorem nparse_form {s : List UInt8} (hc : s.contains 47 = true) (h : ¬ (isDs (strip (cutTop s)) = true ∧ isDs (cutRest s) = true)) : nparse s = (0, 1) := by unfold nparse; rw [if_pos hc, if_neg h]
theorem nparse_zero {s : List UInt8} (hc : s.contains 47 = true) (h : isDs (strip (cutTop s)) = true ∧ isDs (cutRest s) = true) (h0 : num (cutRest s) = 0) : nparse s = (0, 2) := by unfold nparse; rw [if_pos hc, if_pos h, if_pos h0]
theorem nparse_frac {s : List UInt8} (hc : s.contains 47 = true) (h : isDs (strip (cutTop s)) = true ∧ isDs (cutRest s) = true) (h0 : ¬ num (cutRest s) = 0) : nparse s = (Rat.divInt (zval (cutTop s)) (num (cutRest s)), 0) := by unfold nparse; rw [if_pos hc, if_pos h, if_neg h0]
theorem nparse_int {s : List UInt8} (hc : ¬ s.contains 47 = true) (h : isDs (strip s) = true) : nparse s = (((zval s : Int) : Rat), 0) := by unfold nparse; rw [if_neg hc, if_pos h]
theorem nparse_no {s : List UInt8} (hc : ¬ s.contains 47 = true) (h : ¬ isDs (strip s) = true) : nparse s = (0, 1) := by unfold nparse; rw [if_neg hc, if_neg h]
theorem cut_at {s : List UInt8} {i : Nat} (hi : i < s.length) (h : (47 : UInt8) ∉ s.take i) (hc : (((s.getD i 0).toNat : Nat) : Int) = 47) : s.take i = cutTop s ∧ s.drop (i + 1) = cutRest s ∧ s.contains 47 = true := by
  have e : s.getD i 0 = s[i] := by rw [List.getD_eq_getElem?_getD, List.getElem?_eq_getElem hi]; rfl
  have hs : s[i] = 47 := by
    have h3 : (s[i]).toNat = 47 := by rw [← e]; exact Int.ofNat.inj hc
    have h4 : s[i] = UInt8.ofNat (s[i]).toNat := by simp
    rw [h4, h3]; rfl
  have hd : s = s.take i ++ [47] ++ s.drop (i + 1) := by
    rw [← hs]; simp
  have h5 := cut_app (t := s.drop (i + 1)) h
  rw [← hd] at h5
  exact ⟨h5.1.symm, h5.2.1.symm, h5.2.2⟩
theorem no47_step {s : List UInt8} {i : Nat} (hi : i < s.length) (h : (47 : UInt8) ∉ s.take i) (hc : ¬ (((s.getD i 0).toNat : Nat) : Int) = 47) : (47 : UInt8) ∉ s.take (i + 1) := by
  rw [List.take_succ_eq_append_getElem hi, List.mem_append]
  rintro (h1 | h1)
  · exact h h1
  · rw [List.mem_singleton] at h1
    apply hc
    rw [List.getD_eq_getElem?_getD, List.getElem?_eq_getElem hi, Option.getD_some, ← h1]; rfl
theorem no47_end {s : List UInt8} {i : Nat} (hi : i = s.length) (h : (47 : UInt8) ∉ s.take i) : ¬ s.contains 47 = true ∧ cutTop s = s := by
  rw [hi, List.take_length] at h
  have := cut_no h
  exact ⟨by rw [this.2.2]; simp, this.1⟩
/-- The program's answer is the reference's, or its error. -/
theorem parse_both {s : List UInt8} (hl : s.length ≤ 1000) : (parseR s).1 = (nparse s).1 ∧ (parseR s).2 = ([0, 4, 9] : List Int).getD (nparse s).2.toNat 0 ∧ ((nparse s).2 > 0 → (nparse s).1 = 0) ∧ 0 ≤ (nparse s).2 ∧ (nparse s).2 ≤ 2 := by
  have ht := cutTop_len s
  have hl' : ¬ 1000 < s.length := by omega
  by_cases hc : s.contains 47 = true
  · by_cases h1 : isDs (strip (cutTop s)) = true
    · have hz := parseZ_ok' (s := cutTop s) (by omega) h1
      by_cases h2 : isDs (cutRest s) = true
      · by_cases h0 : num (cutRest s) = 0
        · rw [parseR_zero hl' (by rw [hz]; simp) hc h2 h0, nparse_zero hc ⟨h1, h2⟩ h0]; exact ⟨rfl, rfl, fun _ => rfl, by decide, by decide⟩
        · rw [parseR_frac hl' (by rw [hz]; simp) hc h2 h0, nparse_frac hc ⟨h1, h2⟩ h0, hz]; exact ⟨rfl, rfl, fun h => absurd h (by simp), by simp, by simp⟩
      · rw [parseR_bad hl' (by rw [hz]; simp) hc h2, nparse_form hc (fun h => h2 h.2)]; exact ⟨rfl, rfl, fun _ => rfl, by decide, by decide⟩
    · have hz := parseZ_no (s := cutTop s) (by omega) h1
      rw [parseR_top hl' (by rw [hz]; simp), nparse_form hc (fun h => h1 h.1)]; exact ⟨rfl, rfl, fun _ => rfl, by decide, by decide⟩
  · have hcut : cutTop s = s := (cut_no (by simpa using hc)).1
    by_cases h1 : isDs (strip s) = true
    · have hz := parseZ_ok' (s := s) (by omega) h1
      rw [parseR_int hl' (by rw [hcut, hz]; simp) hc, nparse_int hc h1, hcut, hz]; exact ⟨rfl, rfl, fun h => absurd h (by simp), by simp, by simp⟩
    · have hz := parseZ_no (s := s) (by omega) h1
      rw [parseR_top hl' (by rw [hcut, hz]; simp), nparse_no hc h1]; exact ⟨rfl, rfl, fun _ => rfl, by decide, by decide⟩
theorem parseR_sz (s : List UInt8) : szR (parseR s).1 ≤ s.length + 1 := by
  have ht := cutTop_len s
  have hr := cutRest_len s
  have h0 : szR 0 ≤ 1 := szR_le (by decide) (by decide)
  have hz := parseZ_sz (cutTop s)
  unfold parseR
  split
  · show szR 0 ≤ _; omega
  · split
    · show szR 0 ≤ _; omega
    · split
      · split
        · split
          · show szR 0 ≤ _; omega
          · rename_i hd _
            have h1 := szR_divInt2 (parseZ (cutTop s)).1 ((num (cutRest s) : Nat) : Int)
            have h2 := num_szn_all _ (isDs_all hd)
            rw [sz_nat] at h1
            show szR (Rat.divInt _ _) ≤ _; omega
        · show szR 0 ≤ _; omega
      · have h1 := szR_int (parseZ (cutTop s)).1
        show szR ((parseZ (cutTop s)).1 : Rat) ≤ _; omega
theorem num_szg (s : List UInt8) (h : s.all isDg' = true) : szg ((num s : Nat) : Int) ≤ s.length := by
  apply szg_le
  rw [Int.natAbs_natCast]
  exact Nat.lt_of_lt_of_le (num_lt h) (Nat.pow_le_pow_left (by decide : 10 ≤ 10000) _)
theorem szgR_zero : szgR 0 ≤ 1 := by
  have h1 : szg ((1 : Nat) : Int) ≤ 1 := szg_le (by decide)
  have h2 : szgR 0 = max (szg 0) (szg ((1 : Nat) : Int)) := rfl
  rw [h2, szg_zero]; omega
theorem nparse_sz (s : List UInt8) : szgR (nparse s).1 ≤ s.length + 1 := by
  have ht := cutTop_len s
  have hr := cutRest_len s
  have h0 := szgR_zero
  unfold nparse
  split
  · split
    · rename_i hd
      split
      · show szgR 0 ≤ _; omega
      · have h1 := szgR_divInt2 (zval (cutTop s)) ((num (cutRest s) : Nat) : Int)
        have h2 := zval_szg _ (isDs_all hd.1)
        have h3 := num_szg _ (isDs_all hd.2)
        show szgR (Rat.divInt _ _) ≤ _; omega
    · show szgR 0 ≤ _; omega
  · split
    · rename_i hd
      have h1 := szgR_int (zval s)
      have h2 := zval_szg _ (isDs_all hd)
      show szgR ((zval s : Int) : Rat) ≤ _; omega
    · show szgR 0 ≤ _; omega
/-! ### texts of numbers that are written out -/
theorem isDs_tail {s : List UInt8} {c : UInt8} (hs : s ≠ []) (h : isDs (s ++ [c]) = true) : isDs s = true ∧ isDg' c = true ∧ num s ≠ 0 := by
  have hall := isDs_all h
  rw [List.all_append, Bool.and_eq_true] at hall
  have hc : isDg' c = true := by simpa using hall.2
  have hlen : ¬ (s ++ [c]).length = 1 := by
    have := List.length_pos_iff.2 hs
    simp; omega
  have h0 : ¬ ((s ++ [c]).getD 0 0).toNat = 48 := by
    have h1 := h
    unfold isDs at h1
    rw [if_neg (by simp), if_pos (by rw [List.all_append, hall.1]; simpa using hc), if_neg hlen] at h1
    simpa using h1
  have e : (s ++ [c]).getD 0 0 = s.getD 0 0 := by
    cases s with
    | nil => exact absurd rfl hs
    | cons a r => rfl
  rw [e] at h0
  refine ⟨?_, hc, ?_⟩
  · unfold isDs
    rw [if_neg hs, if_pos hall.1]
    split
    · rfl
    · simpa using h0
  · cases s with
    | nil => exact absurd rfl hs
    | cons a r =>
      have h2 := dg_range hall.1 (i := 0) (by simp)
      have h3 : num (a :: r) = num ([a] ++ r) := rfl
      rw [h3, num_app]
      have h4 : num [a] = a.toNat - 48 := by simp [num]
      have h5 : (a :: r).getD 0 0 = a := rfl
      rw [h5] at h0 h2
      have : 0 < num [a] * 10 ^ r.length := Nat.mul_pos (by rw [h4]; omega) (Nat.pow_pos (by decide))
      omega
theorem chr_num {c : UInt8} (h : isDg' c = true) : c.toNat - 48 < 10 ∧ chr (c.toNat - 48) = c := by
  have h1 := dg_range (s := [c]) (by simpa using h) (i := 0) (by simp)
  have h2 : ([c] : List UInt8).getD 0 0 = c := rfl
  rw [h2] at h1
  refine ⟨by omega, ?_⟩
  unfold chr
  rw [show 48 + (c.toNat - 48) = c.toNat by omega]; simp
theorem dec_num_len : ∀ (n : Nat) (s : List UInt8), s.length = n → isDs s = true → dec (num s) = s
  | 0, s, hl, h => by
    have : s = [] := List.length_eq_zero_iff.1 hl
    subst this; cases h
  | n + 1, s, hl, h => by
    obtain ⟨t, c, rfl⟩ : ∃ t c, s = t ++ [c] := by
      have hne : s ≠ [] := by intro e; subst e; simp at hl
      exact ⟨s.dropLast, s.getLast hne, (List.dropLast_concat_getLast hne).symm⟩
    by_cases ht : t = []
    · subst ht
      have hc : isDg' c = true := by simpa using isDs_all h
      obtain ⟨h1, h2⟩ := chr_num hc
      rw [List.nil_append, show num [c] = c.toNat - 48 by simp [num], dec, dif_pos h1, h2]
    · obtain ⟨h1, h2, h3⟩ := isDs_tail ht h
      obtain ⟨h4, h5⟩ := chr_num h2
      have ih := dec_num_len n t (by simpa using hl) h1
      rw [num_snoc, dec, dif_neg (by omega), show (num t * 10 + (c.toNat - 48)) / 10 = num t by omega, show (num t * 10 + (c.toNat - 48)) % 10 = c.toNat - 48 by omega, ih, h5]
theorem dec_num {s : List UInt8} (h : isDs s = true) : dec (num s) = s := dec_num_len _ s rfl h
theorem decZ_pos {a : Int} {s : List UInt8} (h : isDs s = true) (e : a = ((num s : Nat) : Int)) : decZ a = s := by
  subst e; unfold decZ; rw [if_neg (by omega), Int.natAbs_natCast, dec_num h]
theorem decZ_neg {a : Int} {s : List UInt8} (h : isDs s = true) (e : a = -((num s : Nat) : Int)) (h0 : num s ≠ 0) : decZ a = 45 :: s := by
  subst e; unfold decZ; rw [if_pos (by omega), Int.natAbs_neg, Int.natAbs_natCast, dec_num h]; rfl
theorem decR_int {r : Rat} {s : List UInt8} (h1 : r.den = 1) (h2 : decZ r.num = s) : decR r = s := by
  unfold decR; rw [if_pos (by omega), h2]
theorem decV_int {p : Rat × Rat} {s t : List UInt8} (h1 : decR p.1 = s) (h2 : decR p.2 = t) : decV p = [40] ++ s ++ [44, 32] ++ t ++ [41] := by unfold decV; rw [h1, h2]
/-! ### the examples of errors; a product -/
def nmA : List (List UInt8) := [[], [45], [48, 48, 55], [43, 49], [49, 46, 53], [45, 45, 49], [32, 49], [49, 32], [48, 120, 49], [45, 48, 49]]
def nmB : List (List UInt8) := [[49, 47, 45, 50], [49, 47], [47, 50], [49, 47, 48, 50], [49, 47, 50, 47, 51], [49, 47, 43, 50]]
theorem nmA_z {i : Nat} (h : i < 10) : parseZ (nmA.getD i []) = (0, 4) := by
  have : ∀ i : Fin 10, parseZ (nmA.getD i.1 []) = (0, 4) := by decide +kernel
  exact this ⟨i, h⟩
theorem nmA_r {i : Nat} (h : i < 10) : parseR (nmA.getD i []) = (0, 4) := by
  have : ∀ i : Fin 10, parseR (nmA.getD i.1 []) = (0, 4) := by decide +kernel
  exact this ⟨i, h⟩
theorem nmB_r {i : Nat} (h : i < 6) : parseR (nmB.getD i []) = (0, 4) := by
  have : ∀ i : Fin 6, parseR (nmB.getD i.1 []) = (0, 4) := by decide +kernel
  exact this ⟨i, h⟩
theorem getD_len {L : List (List UInt8)} {m : Nat} (h : ∀ s ∈ L, s.length ≤ m) (i : Nat) : (L.getD i []).length ≤ m := by
  rw [List.getD_eq_getElem?_getD]
  cases hi : L[i]? with
  | none => simp
  | some s => exact h s (List.mem_of_getElem? hi)
theorem nmA_len (i : Nat) : (nmA.getD i []).length ≤ 5 := getD_len (by decide +kernel) i
theorem nmB_len (i : Nat) : (nmB.getD i []).length ≤ 5 := getD_len (by decide +kernel) i
theorem strs_getD {L : List (List UInt8)} {j : Nat} (h : j < L.length) : (strs L).getD j undef = .string (bs (L.getD j [])) := by
  simp only [strs, List.getD_eq_getElem?_getD, List.getElem?_map, List.getElem?_eq_getElem h, Option.map_some, Option.getD_some]
def fac : Nat → Int
  | 0 => 1
  | k + 1 => fac k * ((k + 1 : Nat) : Int)
theorem fac_next {k : Nat} (h : 1 ≤ k) : fac (k - 1) * (k : Int) = fac (k + 1 - 1) := by
  obtain ⟨j, rfl⟩ : ∃ j, k = j + 1 := ⟨k - 1, by omega⟩
  rfl
end Cps
