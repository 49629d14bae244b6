/- Plain law of decimal texts. No program in sight. -/
import Derived.Test.YtklnjhlidfclmaaGreatDoorNum
set_option linter.unusedVariables false
set_option linter.unusedSimpArgs false
namespace Cps

def chr (d : Nat) : UInt8 := UInt8.ofNat (48 + d)
/-- The last k decimal digits. -/
def pad : Nat → Nat → List UInt8
  | 0, _ => []
  | k + 1, n => pad k (n / 10) ++ [chr (n % 10)]
/-- The decimal text. -/
def dec (n : Nat) : List UInt8 := if h : n < 10 then [chr n] else dec (n / 10) ++ [chr (n % 10)]
termination_by n

theorem chr_val {d : Nat} (h : d < 10) : (chr d).toNat = 48 + d := by
  unfold chr; rw [UInt8.toNat_ofNat']; omega
theorem chr_inj {d e : Nat} (hd : d < 10) (he : e < 10) (h : chr d = chr e) : d = e := by
  have := congrArg UInt8.toNat h; rw [chr_val hd, chr_val he] at this; omega
theorem chr_zero {d : Nat} (hd : d < 10) : (chr d == 48) = decide (d = 0) := by
  rw [Bool.eq_iff_iff]; simp only [beq_iff_eq, decide_eq_true_eq]
  constructor
  · intro h; exact chr_inj hd (by decide) (h.trans (by decide))
  · intro h; subst h; rfl
@[simp] theorem pad_len (k n : Nat) : (pad k n).length = k := by
  induction k generalizing n with
  | zero => rfl
  | succ k ih => simp [pad, ih]
theorem pad_add (j k n : Nat) : pad (j + k) n = pad j (n / 10 ^ k) ++ pad k n := by
  induction k generalizing n with
  | zero => simp [pad]
  | succ k ih =>
    rw [← Nat.add_assoc]
    simp only [pad]
    rw [ih, List.append_assoc, Nat.div_div_eq_div_mul, Nat.pow_succ, Nat.mul_comm]
theorem pad_mod (k n : Nat) : pad k (n % 10 ^ k) = pad k n := by
  induction k generalizing n with
  | zero => rfl
  | succ k ih =>
    simp only [pad]
    have e1 : n % 10 ^ (k + 1) / 10 = n / 10 % 10 ^ k := by
      rw [Nat.pow_succ, Nat.mul_comm, Nat.mod_mul_right_div_self]
    have e2 : n % 10 ^ (k + 1) % 10 = n % 10 := Nat.mod_mod_of_dvd _ ⟨10 ^ k, by rw [Nat.pow_succ, Nat.mul_comm]⟩
    rw [e1, e2, ih]
theorem trim_pad (k n : Nat) (h : n < 10 ^ k) : (pad k n).dropWhile (· == 48) = if n = 0 then [] else dec n := by
  induction k generalizing n with
  | zero => simp at h; simp [pad, h]
  | succ k ih =>
    have h1 : n / 10 < 10 ^ k := Nat.div_lt_of_lt_mul (by rw [Nat.pow_succ, Nat.mul_comm] at h; exact h)
    simp only [pad, List.dropWhile_append, ih _ h1]
    by_cases h0 : n / 10 = 0
    · have hn : n < 10 := by omega
      rw [if_pos h0, show n % 10 = n from Nat.mod_eq_of_lt hn]
      simp only [List.isEmpty_nil, if_true, List.dropWhile_cons, chr_zero hn, List.dropWhile_nil, decide_eq_true_eq]
      by_cases hz : n = 0
      · rw [if_pos hz, if_pos hz]
      · rw [if_neg hz, if_neg hz, dec, dif_pos hn]
    · have hn : ¬ n < 10 := fun h => h0 (by omega)
      have hne : dec (n / 10) ≠ [] := by rw [dec]; split <;> simp
      rw [if_neg h0, if_neg (by simpa using hne), if_neg (by omega), dec.eq_def n, dif_neg hn]
theorem pad_dec {k n : Nat} {L : List UInt8} (hL : L = (pad k n).dropWhile (· == 48)) (h : n < 10 ^ k) : (L ≠ [] → L = dec n) ∧ (L = [] → [48] = dec n) := by
  subst hL
  rw [trim_pad k n h]
  by_cases h0 : n = 0
  · subst h0; exact ⟨fun h => absurd rfl h, fun _ => by rw [dec]; rfl⟩
  · rw [if_neg h0]
    exact ⟨fun _ => rfl, fun h => absurd h (by rw [dec]; split <;> simp)⟩
theorem dec_len {n k : Nat} (hk : 0 < k) (h : n < 10 ^ k) : (dec n).length ≤ k := by
  induction k generalizing n with
  | zero => omega
  | succ k ih =>
    rw [dec]; split
    · simp
    · rename_i hn
      rcases Nat.eq_zero_or_pos k with h0 | h0
      · subst h0; simp at h; omega
      · have := ih h0 (Nat.div_lt_of_lt_mul (by rw [Nat.pow_succ, Nat.mul_comm] at h; exact h) : n / 10 < 10 ^ k)
        simp; omega
theorem dec_ne (n : Nat) : dec n ≠ [] := by rw [dec]; split <;> simp

/-- What is behind a minus. -/
def strip (s : List UInt8) : List UInt8 := if s.head? = some 45 then s.drop 1 else s
theorem strip_len (s : List UInt8) : (strip s).length ≤ s.length := by
  unfold strip; split
  · simp
  · exact Nat.le_refl _
/-- The number of a text. -/
def num (l : List UInt8) : Nat := l.foldl (fun a c => a * 10 + (c.toNat - 48)) 0
theorem num_snoc (l : List UInt8) (c : UInt8) : num (l ++ [c]) = num l * 10 + (c.toNat - 48) := by simp [num]
theorem num_dec (n : Nat) : num (dec n) = n := by
  induction n using dec.induct with
  | case1 n h => rw [dec, dif_pos h]; simp [num, chr_val h]
  | case2 n h ih => rw [dec, dif_neg h, num_snoc, ih, chr_val (Nat.mod_lt _ (by decide))]; omega
theorem dec_inj {m n : Nat} (h : dec m = dec n) : m = n := by rw [← num_dec m, ← num_dec n, h]

theorem digit_row (r : Nat) (v : Nat → Int) (h : ∀ i, v i = ((48 + r / 10 ^ i % 10 : Nat) : Int)) : (([v 6, v 5, v 4, v 3, v 2, v 1, v 0] : List Int).map fun z => UInt8.ofNat z.toNat) = pad 7 r := by
  have e : ∀ i, UInt8.ofNat (v i).toNat = chr (r / 10 ^ i % 10) := fun i => by rw [h]; rfl
  simp only [List.map_cons, List.map_nil, e, pad, List.nil_append, List.cons_append, Nat.div_div_eq_div_mul]
  simp
theorem pad_next {P : List (List UInt8)} {x a : Nat} (hP : P.flatten = pad (7 * P.length) x) (ha : a = x / 10000000 ^ P.length) : ([pad 7 (a % 10000000)] ++ P).flatten = pad (7 * ([pad 7 (a % 10000000)] ++ P).length) x := by
  rw [List.flatten_append, hP, List.length_append, List.length_singleton, show 7 * (1 + P.length) = 7 + 7 * P.length by omega, pad_add]
  have : pad 7 (a % 10000000) = pad 7 (x / 10 ^ (7 * P.length)) := by
    rw [show (10000000 : Nat) = 10 ^ 7 by decide, pad_mod, ha, show (10000000 : Nat) = 10 ^ 7 by decide, ← Nat.pow_mul]
  rw [← this]; simp
theorem div_next {P : List (List UInt8)} {x a : Nat} (q : List UInt8) (ha : a = x / 10000000 ^ P.length) : a / 10000000 = x / 10000000 ^ ([q] ++ P).length := by
  rw [ha, List.length_append, List.length_singleton, Nat.add_comm, Nat.pow_succ, Nat.div_div_eq_div_mul]
theorem pad_done {P : List (List UInt8)} {x a : Nat} (hP : P.flatten = pad (7 * P.length) x) (ha : a = x / 10000000 ^ P.length) (h0 : a = 0) : (P.flatten.dropWhile (· == 48) ≠ [] → P.flatten.dropWhile (· == 48) = dec x) ∧ (P.flatten.dropWhile (· == 48) = [] → [48] = dec x) := by
  have hlt : x < 10 ^ (7 * P.length) := by
    rw [Nat.pow_mul, show (10 : Nat) ^ 7 = 10000000 by decide]
    rcases Nat.lt_or_ge x (10000000 ^ P.length) with h | h
    · exact h
    · have := Nat.div_pos h (Nat.pow_pos (by decide)); omega
  exact pad_dec (by rw [hP]) hlt
end Cps
