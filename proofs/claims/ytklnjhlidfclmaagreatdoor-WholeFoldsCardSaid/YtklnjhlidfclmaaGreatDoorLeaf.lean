/- What the small loops over digits compute, in plain arithmetic. -/
import Derived.Test.YtklnjhlidfclmaaGreatDoorKinds
import Derived.Test.YtklnjhlidfclmaaGreatDoorOwn
set_option linter.unusedVariables false
namespace Cps
open Go Go.RowKit

theorem none_len {w : World} {A : Option Addr} {n x : Nat} (h : DW w A n x) : ((n : Int) == 0) = decide (x = 0) := by
  have := h.len
  have h0 := digs_length_zero (b := 16777216) (by omega) x
  by_cases hx : x = 0
  · have hn : n = 0 := by rw [← this]; exact h0.2 hx
    subst hn hx; rfl
  · have hn : n ≠ 0 := fun e => hx (h0.1 (by rw [this, e]))
    rw [decide_eq_false hx]; simp; omega

theorem dg_digs (x : Nat) : Digs 16777216 (dg x) := digs_digs (b := 16777216) (by omega) x
theorem dg_val (x : Nat) : val 16777216 (dg x) = x := val_digs (b := 16777216) (by omega) x
theorem dg_get (x j : Nat) : 0 ≤ (dg x).getD j 0 ∧ (dg x).getD j 0 < 16777216 := by
  rw [List.getD_eq_getElem?_getD]
  by_cases h : j < (dg x).length
  · rw [List.getElem?_eq_getElem h]; exact (dg_digs x).get j h
  · rw [List.getElem?_eq_none (by omega)]; exact ⟨Int.le_refl _, by decide⟩

section
variable {x y : Nat}
theorem cmp_lt (h : x < y) : (-1 : Int) = cmpN x y := by unfold cmpN; rw [if_pos h]
theorem cmp_gt (h : y < x) : (1 : Int) = cmpN x y := by unfold cmpN; rw [if_neg (by omega), if_pos h]
theorem cmp_eq (h : x = y) : (0 : Int) = cmpN x y := by unfold cmpN; rw [if_neg (by omega), if_neg (by omega)]
theorem len_lt (h : (dg x).length < (dg y).length) : x < y := length_lt_val (by omega) h
theorem top_lt (hlen : (dg x).length = (dg y).length) (i : Nat) (hi : i < (dg x).length) (heq : ∀ j, i < j → (dg x).getD j 0 = (dg y).getD j 0) (hlt : (dg x).getD i 0 < (dg y).getD i 0) : x < y := by
  have : val 16777216 (dg x) < val 16777216 (dg y) := val_lt_of_top (b := 16777216) (by omega) (dg_digs x) (dg_digs y) hlen i hi heq hlt
  have h1 := dg_val x
  have h2 := dg_val y
  omega
theorem all_eq (hlen : (dg x).length = (dg y).length) (heq : ∀ j, (dg x).getD j 0 = (dg y).getD j 0) : x = y := by
  apply digs_inj (b := 16777216) (by omega)
  apply List.ext_getElem hlen
  intro j h1 h2
  have := heq j
  rw [List.getD_eq_getElem?_getD, List.getD_eq_getElem?_getD, List.getElem?_eq_getElem h1, List.getElem?_eq_getElem h2] at this
  simpa using this
end
theorem getD_out {L : List Int} {j : Nat} (h : L.length ≤ j) : L.getD j 0 = 0 := by
  rw [List.getD_eq_getElem?_getD, List.getElem?_eq_none h]; rfl
theorem DW.of_own {w : World} {g n c x : Nat} {L : List Int} (h : Own 2 w g n c (i64s L)) (e : L = dg x) : DW w (some ⟨g, 0, none⟩) n x := ⟨e ▸ h.row⟩
theorem getD_set_own {e : TypeId} {w : World} {g n c j : Nat} {L : List Int} {v : Int} (h : Own e w g n c (i64s (L.set j v))) (hj : j < n) : (L.set j v).getD j 0 = v := by
  have := h.ilen
  simp at this
  rw [List.getD_eq_getElem?_getD, List.getElem?_set_self (by omega)]; rfl
theorem getD_tail {P L : List Int} {i : Nat} (hP : P.length = i) : (P ++ L.drop i).getD i 0 = L.getD i 0 := by
  subst hP
  rw [List.getD_eq_getElem?_getD, List.getElem?_append_right (Nat.le_refl _), List.getD_eq_getElem?_getD]
  simp
theorem set_step {P L : List Int} {i : Nat} (hP : P.length = i) (hi : i < L.length) (a b : Int) : ((P ++ L.drop i).set i a).set i b = (P ++ [b]) ++ L.drop (i + 1) := by
  subst hP
  rw [List.set_set, List.set_append_right _ _ (Nat.le_refl _), Nat.sub_self, List.drop_eq_getElem_cons hi, List.set_cons_zero]
  simp
theorem drop_val {L : List Int} {i : Nat} (hi : i < L.length) (b : Int) : val b (L.drop i) = L.getD i 0 + b * val b (L.drop (i + 1)) := by
  rw [List.drop_eq_getElem_cons hi, val_cons, List.getD_eq_getElem?_getD, List.getElem?_eq_getElem hi]; rfl
theorem settle_step {P L : List Int} {i : Nat} {k x : Int} (hP : P.length = i) (hi : i < L.length) (h : val 16777216 P + 16777216 ^ i * (k + val 16777216 (L.drop i)) = x) :
    val 16777216 (P ++ [(L.getD i 0 + k) % 16777216]) + 16777216 ^ (i + 1) * ((L.getD i 0 + k) / 16777216 + val 16777216 (L.drop (i + 1))) = x := by
  rw [val_snoc, hP, ← h, drop_val hi, Int.pow_succ]
  generalize L.getD i 0 = a
  generalize val 16777216 (L.drop (i + 1)) = r
  have hd := Int.mul_ediv_add_emod (a + k) 16777216
  generalize (a + k) / 16777216 = q at *
  generalize (a + k) % 16777216 = m at *
  have : m = a + k - 16777216 * q := by omega
  subst this
  grind
theorem mem_getD {L : List Int} {lo hi : Int} (h : ∀ y, y ∈ L → lo ≤ y ∧ y ≤ hi) (h0 : lo ≤ 0) (h1 : 0 ≤ hi) (j : Nat) : lo ≤ L.getD j 0 ∧ L.getD j 0 ≤ hi := by
  rw [List.getD_eq_getElem?_getD]
  by_cases hj : j < L.length
  · rw [List.getElem?_eq_getElem hj]; exact h _ (List.getElem_mem hj)
  · rw [List.getElem?_eq_none (by omega)]; exact ⟨h0, h1⟩
theorem carry_nonneg {P : List Int} {k : Int} {x : Nat} (hP : Digs 16777216 P) (h : val 16777216 P + 16777216 ^ P.length * k = (x : Int)) : 0 ≤ k := by
  have h1 := val_lt (b := 16777216) (by omega) hP
  have hp : (0 : Int) < 16777216 ^ P.length := pow_pos' (by omega) _
  rcases Int.lt_or_le k 0 with hk | hk
  · exfalso
    have : (16777216 : Int) ^ P.length * k ≤ 16777216 ^ P.length * (-1) := Int.mul_le_mul_of_nonneg_left (by omega) (Int.le_of_lt hp)
    omega
  · exact hk
theorem carry_step {P : List Int} {k x : Int} (h : val 16777216 P + 16777216 ^ P.length * k = x) : val 16777216 (P ++ [k % 16777216]) + 16777216 ^ (P ++ [k % 16777216]).length * (k / 16777216) = x := by
  rw [val_snoc, ← h, List.length_append, List.length_singleton, Int.pow_succ]
  have hd := Int.mul_ediv_add_emod k 16777216
  generalize k / 16777216 = q at *
  generalize k % 16777216 = m at *
  subst hd
  grind
theorem snoc_digs {P : List Int} (h : Digs 16777216 P) (a : Int) : Digs 16777216 (P ++ [a % 16777216]) := h.snoc (Int.emod_nonneg _ (by omega)) (Int.emod_lt_of_pos _ (by omega))
/-- The last digit is 0: off with it. -/
theorem strip_val {P : List Int} {n : Nat} (hn : P.length = n) (hp : 0 < n) (h : P.getD (n - 1) 0 = 0) (b : Int) : val b (P.take (n - 1)) = val b P := by
  have e : P = P.take (n - 1) ++ [P.getD (n - 1) 0] := by
    have h1 : n - 1 < P.length := by omega
    conv => lhs; rw [← List.take_append_drop (n - 1) P]
    rw [List.drop_eq_getElem_cons h1, List.drop_eq_nil_of_le (by omega), List.getD_eq_getElem?_getD, List.getElem?_eq_getElem h1]; rfl
  conv => rhs; rw [e]
  rw [val_snoc, h]; simp
theorem strip_end {P : List Int} {n x : Nat} (hn : P.length = n) (hP : Digs 16777216 P) (hv : val 16777216 P = (x : Int)) (h : n = 0 ∨ P.getD (n - 1) 0 ≠ 0) : P = dg x := by
  refine digs_eq (b := 16777216) (by omega) hP ?_ hv
  rw [List.getLast?_eq_getElem?, hn]
  intro e
  rcases h with h | h
  · rw [List.getElem?_eq_none (by omega)] at e; cases e
  · rw [List.getD_eq_getElem?_getD, e] at h; exact h rfl

/-! ### sums -/
theorem val_pad (x n m : Nat) : val 16777216 (dg x ++ (List.replicate n 0).drop m) = (x : Int) := by
  rw [val_append, dg_val, List.drop_replicate, val_replicate_zero]; simp
theorem pad_get (x n m j : Nat) : 0 ≤ (dg x ++ (List.replicate n 0).drop m).getD j 0 ∧ (dg x ++ (List.replicate n 0).drop m).getD j 0 ≤ 16777215 := by
  rw [List.getD_eq_getElem?_getD]
  by_cases h : j < (dg x).length
  · rw [List.getElem?_append_left h, List.getElem?_eq_getElem h]
    have := (dg_digs x).get j h
    simp; omega
  · rw [List.getElem?_append_right (by omega), List.drop_replicate, List.getElem?_replicate]
    split <;> simp
theorem plus_val {M : List Int} {i : Nat} {x k : Int} {y : Nat} (hi : i < M.length) (hy : i < (dg y).length) (h : val 16777216 M = x + k * val 16777216 ((dg y).take i)) :
    val 16777216 (M.set i (M.getD i 0 + k * (dg y).getD i 0)) = x + k * val 16777216 ((dg y).take (i + 1)) := by
  rw [val_set _ _ _ _ hi, val_take_succ _ _ _ hy, h, List.getD_eq_getElem?_getD, List.getD_eq_getElem?_getD, List.getElem?_eq_getElem hi, List.getElem?_eq_getElem hy]
  simp only [Option.getD_some]
  grind
theorem set_get {M : List Int} {i : Nat} {v : Int} (j : Nat) (hi : i < M.length) : (M.set i v).getD j 0 = if j = i then v else M.getD j 0 := by
  by_cases h : j = i
  · subst h; rw [if_pos rfl, List.getD_eq_getElem?_getD, List.getElem?_set_self hi]; rfl
  · rw [if_neg h, List.getD_eq_getElem?_getD, List.getElem?_set_ne (fun e => h e.symm), List.getD_eq_getElem?_getD]
theorem set_bound {M : List Int} {i : Nat} {v lo hi : Int} (hl : i < M.length) (h : ∀ j, lo ≤ M.getD j 0 ∧ M.getD j 0 ≤ hi) (hv : lo ≤ v ∧ v ≤ hi) : ∀ j, lo ≤ (M.set i v).getD j 0 ∧ (M.set i v).getD j 0 ≤ hi := fun j => by
  rw [set_get j hl]; split
  · exact hv
  · exact h j
theorem set_above {M : List Int} {i : Nat} {v lo hi : Int} (hl : i < M.length) (h : ∀ j, i ≤ j → lo ≤ M.getD j 0 ∧ M.getD j 0 ≤ hi) : ∀ j, i + 1 ≤ j → lo ≤ (M.set i v).getD j 0 ∧ (M.set i v).getD j 0 ≤ hi := fun j hj => by
  rw [set_get j hl, if_neg (by omega)]; exact h j (by omega)
theorem mem_of_get {M : List Int} {lo hi lo' hi' : Int} (h : ∀ j, lo ≤ M.getD j 0 ∧ M.getD j 0 ≤ hi) (h1 : lo' ≤ lo) (h2 : hi ≤ hi') : ∀ y, y ∈ M → lo' ≤ y ∧ y ≤ hi' := fun y hy => by
  obtain ⟨j, hj, rfl⟩ := List.getElem_of_mem hy
  have := h j
  rw [List.getD_eq_getElem?_getD, List.getElem?_eq_getElem hj] at this
  simp at this; omega
theorem take_val (y n : Nat) (h : (dg y).length ≤ n) : val 16777216 ((dg y).take n) = (y : Int) := by rw [List.take_of_length_le h, dg_val]

/-! ### products -/
theorem digs_get {M : List Int} (h : Digs 16777216 M) (j : Nat) : 0 ≤ M.getD j 0 ∧ M.getD j 0 ≤ 16777215 := by
  rw [List.getD_eq_getElem?_getD]
  by_cases hj : j < M.length
  · rw [List.getElem?_eq_getElem hj]; have := h.get j hj; simp; omega
  · rw [List.getElem?_eq_none (by omega)]; exact ⟨Int.le_refl _, by decide⟩
theorem digit_prod {a b : Int} (ha : 0 ≤ a ∧ a < 16777216) (hb : 0 ≤ b ∧ b < 16777216) : 0 ≤ a * b ∧ a * b ≤ 281474943156225 := by
  refine ⟨Int.mul_nonneg ha.1 hb.1, ?_⟩
  have h1 : a * b ≤ a * 16777215 := Int.mul_le_mul_of_nonneg_left (by omega) ha.1
  omega
theorem set_val {M : List Int} {j : Nat} (h : j < M.length) (v : Int) : val 16777216 (M.set j v) = val 16777216 M + 16777216 ^ j * (v - M.getD j 0) := by
  rw [val_set _ _ _ _ h, List.getD_eq_getElem?_getD, List.getElem?_eq_getElem h]; rfl
theorem take_next {y j : Nat} (h : j < (dg y).length) : val 16777216 ((dg y).take (j + 1)) = val 16777216 ((dg y).take j) + 16777216 ^ j * (dg y).getD j 0 := by
  rw [val_take_succ _ _ _ h, List.getD_eq_getElem?_getD, List.getElem?_eq_getElem h]; rfl
theorem times_step {N : List Int} {i j y : Nat} {c V a : Int} (hl : i + j < N.length) (hy : j < (dg y).length) (h : val 16777216 N + 16777216 ^ (i + j) * c = V + a * (16777216 ^ i * val 16777216 ((dg y).take j))) :
    val 16777216 (N.set (i + j) ((c + (a * (dg y).getD j 0 + N.getD (i + j) 0)) % 16777216)) + 16777216 ^ (i + (j + 1)) * ((c + (a * (dg y).getD j 0 + N.getD (i + j) 0)) / 16777216) = V + a * (16777216 ^ i * val 16777216 ((dg y).take (j + 1))) := by
  rw [set_val hl, take_next hy]
  generalize (dg y).getD j 0 = b
  generalize N.getD (i + j) 0 = m at *
  have hd := Int.mul_ediv_add_emod (c + (a * b + m)) 16777216
  generalize (c + (a * b + m)) / 16777216 = q at *
  generalize (c + (a * b + m)) % 16777216 = r at *
  have hr : r = c + (a * b + m) - 16777216 * q := by omega
  rw [show i + (j + 1) = i + j + 1 by omega, Int.pow_succ, hr]
  have e : (16777216 : Int) ^ (i + j) = 16777216 ^ i * 16777216 ^ j := Int.pow_add ..
  rw [e] at *
  grind
theorem times_outer {N : List Int} {i x y n : Nat} {c : Int} (hl : i + n < N.length) (hn : (dg y).length = n) (hx : i < (dg x).length) (hz : N.getD (i + n) 0 = 0)
    (h : val 16777216 N + 16777216 ^ (i + n) * c = val 16777216 ((dg x).take i) * y + (dg x).getD i 0 * (16777216 ^ i * val 16777216 ((dg y).take n))) :
    val 16777216 (N.set (i + n) c) = val 16777216 ((dg x).take (i + 1)) * y := by
  rw [set_val hl, hz, take_next hx]
  rw [take_val y n (by omega)] at h
  grind
theorem set_zero {N : List Int} {i j n : Nat} {v : Int} (hl : i + j < N.length) (hj : j < n) (h : ∀ t, i + n ≤ t → N.getD t 0 = 0) : ∀ t, i + n ≤ t → (N.set (i + j) v).getD t 0 = 0 := fun t ht => by
  rw [set_get t hl, if_neg (by omega)]; exact h t ht
theorem set_zero' {N : List Int} {i n : Nat} {v : Int} (hl : i + n < N.length) (h : ∀ t, i + n ≤ t → N.getD t 0 = 0) : ∀ t, i + 1 + n ≤ t → (N.set (i + n) v).getD t 0 = 0 := fun t ht => by
  rw [set_get t hl, if_neg (by omega)]; exact h t (by omega)
theorem zeros_get (n t : Nat) : (List.replicate n (0 : Int)).getD t 0 = 0 := by
  rw [List.getD_eq_getElem?_getD, List.getElem?_replicate]; split <;> rfl

/-! ### one word -/
theorem word0 {n : Int} (h : 0 ≤ n) (h1 : ¬ n > 0) : ([] : List Int) = dg n.toNat := by rw [show n = 0 by omega]; simp [digs_zero]
theorem dg_cons {n : Nat} (h : n ≠ 0) : dg n = ((n % 16777216 : Nat) : Int) :: dg (n / 16777216) := digs_pos (by omega) h
theorem word_digs {n : Int} (h : 0 < n) : dg n.toNat = n % 16777216 :: dg (n / 16777216).toNat := by
  rw [dg_cons (by omega), show ((n.toNat % 16777216 : Nat) : Int) = n % 16777216 by omega, show n.toNat / 16777216 = (n / 16777216).toNat by omega]
theorem ZW.made {w : World} {A : Option Addr} {n x : Nat} (m : Bool) (h : DW w A n x) : ZW w A n (m && !(decide (x = 0))) (Cps.mk m x) :=
  ⟨by rw [mk_abs]; exact h, by rw [mk_neg]; simp⟩

/-! ### halves -/
theorem half_step {M : List Int} {i x : Nat} (hl : i < M.length) (hx : i < (dg x).length) (h0 : 0 < i) (hz : M.getD i 0 = 0) (h : val 16777216 ((dg x).take i) = 2 * val 16777216 M + (dg x).getD 0 0 % 2) (v : Int) (hv : v = M.getD (i - 1) 0 + (dg x).getD i 0 % 2 * 8388608) :
    val 16777216 ((dg x).take (i + 1)) = 2 * val 16777216 ((M.set i ((dg x).getD i 0 / 2)).set (i - 1) v) + (dg x).getD 0 0 % 2 := by
  obtain ⟨k, rfl⟩ : ∃ k, i = k + 1 := ⟨i - 1, by omega⟩
  rw [set_val (by simp; omega), set_get _ hl, if_neg (by omega), set_val hl, take_next hx, h, hz, hv]
  simp only [Nat.add_sub_cancel]
  generalize (dg x).getD (k + 1) 0 = a
  generalize M.getD k 0 = m
  have e : (16777216 : Int) ^ (k + 1) = 16777216 ^ k * 16777216 := Int.pow_succ ..
  have hd := Int.mul_ediv_add_emod a 2
  generalize a / 2 = q at *
  generalize a % 2 = r at *
  rw [e]
  subst hd
  grind
theorem half_first {M : List Int} {x : Nat} (hl : 0 < M.length) (hx : 0 < (dg x).length) (hz : M.getD 0 0 = 0) (h : val 16777216 M = 0) :
    val 16777216 ((dg x).take 1) = 2 * val 16777216 (M.set 0 ((dg x).getD 0 0 / 2)) + (dg x).getD 0 0 % 2 := by
  have e := take_next (y := x) hx
  simp only [List.take_zero, val_nil, Int.pow_zero, Int.one_mul, Int.zero_add] at e
  rw [set_val hl, hz, h, e]
  simp; omega
theorem low_digit (x : Nat) : (dg x).getD 0 0 = ((x % 16777216 : Nat) : Int) := by
  by_cases h : x = 0
  · subst h; rw [show dg 0 = [] from digs_zero _]; rfl
  · rw [dg_cons h]; rfl
theorem half_end {x : Nat} {v : Int} (h : (x : Int) = 2 * v + (dg x).getD 0 0 % 2) : v = ((x / 2 : Nat) : Int) := by
  rw [low_digit] at h; omega
theorem even_digit (x : Nat) : ((dg x).getD 0 0 % 2 == 0) = decide (x % 2 = 0) := by
  rw [low_digit]
  by_cases h : x % 2 = 0
  · rw [decide_eq_true h]; simp; omega
  · rw [decide_eq_false h]; simp; omega
theorem dg_pos {x : Nat} (h : x ≠ 0) : 0 < (dg x).length := by
  have := (digs_length_zero (b := 16777216) (by omega) x)
  rcases Nat.eq_zero_or_pos (dg x).length with h1 | h1
  · exact absurd (this.1 h1) h
  · exact h1

/-- What half has written before digit i. -/
structure Half (x i : Nat) (M : List Int) : Prop where
  V : val 16777216 ((dg x).take i) = 2 * val 16777216 M + (if i = 0 then 0 else (dg x).getD 0 0 % 2)
  B : ∀ j, (0 : Int) ≤ M.getD j 0 ∧ M.getD j 0 ≤ 16777215
  I : 0 < i → M.getD (i - 1) 0 ≤ 8388607
  Z : ∀ j, i ≤ j → M.getD j 0 = 0
theorem Half.start (x n : Nat) : Half x 0 (List.replicate n 0) :=
  ⟨by rw [val_replicate_zero]; simp, fun j => by rw [zeros_get]; exact ⟨Int.le_refl _, by decide⟩, fun h => absurd h (by omega), fun j _ => zeros_get _ j⟩
theorem Half.first {x : Nat} {M : List Int} (h : Half x 0 M) (hl : 0 < M.length) (hx : 0 < (dg x).length) : Half x (0 + 1) (M.set 0 ((dg x).getD 0 0 / 2)) := by
  have hd := dg_get x 0
  refine ⟨?_, set_bound hl h.B (by omega), fun _ => ?_, fun j hj => ?_⟩
  · rw [if_neg (by omega)]
    exact half_first hl hx (h.Z 0 (by omega)) (by have := h.V; simp at this; omega)
  · rw [set_get _ hl, if_pos (by omega)]; omega
  · rw [set_get _ hl, if_neg (by omega)]; exact h.Z j (by omega)
theorem Half.next {x i : Nat} {M : List Int} (h : Half x i M) (h0 : 0 < i) (hl : i < M.length) (hx : i < (dg x).length) :
    Half x (i + 1) ((M.set i ((dg x).getD i 0 / 2)).set (i - 1) (M.getD (i - 1) 0 + (dg x).getD i 0 % 2 * 8388608)) := by
  have hd := dg_get x i
  have h1 := h.I h0
  have h2 := h.B (i - 1)
  refine ⟨?_, set_bound (by simp; omega) (set_bound hl h.B (by omega)) (by omega), fun _ => ?_, fun j hj => ?_⟩
  · rw [if_neg (by omega)]
    exact half_step hl hx h0 (h.Z i (by omega)) (by have := h.V; rw [if_neg (by omega)] at this; exact this) _ rfl
  · rw [set_get _ (by simp; omega), if_neg (by omega), set_get _ hl, if_pos (by omega)]; omega
  · rw [set_get _ (by simp; omega), if_neg (by omega), set_get _ hl, if_neg (by omega)]; exact h.Z j (by omega)
theorem Half.done {x i : Nat} {M : List Int} (h : Half x i M) (hi : (dg x).length ≤ i) : val 16777216 M = ((x / 2 : Nat) : Int) := by
  have h0 := h.V
  rw [take_val x i hi] at h0
  by_cases hz : i = 0
  · have hx : x = 0 := (digs_length_zero (b := 16777216) (by omega) x).1 (by show (dg x).length = 0; omega)
    subst hx; rw [if_pos hz] at h0; omega
  · rw [if_neg hz] at h0; exact half_end h0

/-! ### shifts -/
theorem shl_bound {a : Int} (ha : 0 ≤ a ∧ a < 16777216) {n : Nat} (hn : n ≤ 23) : 0 ≤ a * 2 ^ n ∧ a * 2 ^ n ≤ 140737488355328 := by
  have h1 : (0 : Int) < 2 ^ n := Int.pow_pos (by omega)
  have h2 : (2 : Int) ^ n ≤ 2 ^ 23 := by
    have := Nat.pow_le_pow_right (show 0 < 2 by omega) hn
    exact_mod_cast this
  refine ⟨Int.mul_nonneg ha.1 (Int.le_of_lt h1), ?_⟩
  have h3 : a * 2 ^ n ≤ 16777216 * 2 ^ n := Int.mul_le_mul_of_nonneg_right (by omega) (Int.le_of_lt h1)
  have h4 : (16777216 : Int) * 2 ^ n ≤ 16777216 * 2 ^ 23 := Int.mul_le_mul_of_nonneg_left h2 (by omega)
  omega
theorem shift_pow (k i : Nat) : (16777216 : Int) ^ (k / 24 + i) * 2 ^ (k % 24) = 2 ^ k * 16777216 ^ i := by
  have e : (16777216 : Int) = 2 ^ 24 := by decide
  rw [e, ← Int.pow_mul, ← Int.pow_mul, ← Int.pow_add, ← Int.pow_add]
  congr 1; omega
theorem shift_step {N : List Int} {k i x : Nat} (hl : N.length = k / 24 + i) (hx : i < (dg x).length) (h : val 16777216 N = 2 ^ k * val 16777216 ((dg x).take i)) :
    val 16777216 (N ++ [(dg x).getD i 0 * 2 ^ (k % 24)]) = 2 ^ k * val 16777216 ((dg x).take (i + 1)) := by
  have e := shift_pow k i
  rw [val_snoc, hl, take_next hx, h]
  generalize (dg x).getD i 0 = a
  grind
theorem shift_done {N : List Int} {k i x : Nat} (hi : (dg x).length ≤ i) (h : val 16777216 N = 2 ^ k * val 16777216 ((dg x).take i)) : val 16777216 N = ((x * 2 ^ k : Nat) : Int) := by
  rw [h, take_val x i hi, Int.natCast_mul, Int.natCast_pow, Int.mul_comm]; rfl
theorem snoc_mem {N : List Int} {lo hi v : Int} (h : ∀ y, y ∈ N → lo ≤ y ∧ y ≤ hi) (hv : lo ≤ v ∧ v ≤ hi) : ∀ y, y ∈ N ++ [v] → lo ≤ y ∧ y ≤ hi := fun y hy => by
  rcases List.mem_append.1 hy with h1 | h1
  · exact h y h1
  · simp at h1; subst h1; exact hv

/-! ### common divisors -/
theorem gcd_halves {p q : Nat} (hp : p % 2 = 0) (hq : q % 2 = 0) : Nat.gcd (p / 2) (q / 2) * 2 = Nat.gcd p q := by
  obtain ⟨a, rfl⟩ : ∃ a, p = 2 * a := ⟨p / 2, by omega⟩
  obtain ⟨b, rfl⟩ : ∃ b, q = 2 * b := ⟨q / 2, by omega⟩
  rw [Nat.mul_div_cancel_left _ (by omega), Nat.mul_div_cancel_left _ (by omega), Nat.gcd_mul_left]; omega
theorem gcd_half {p q : Nat} (hp : p % 2 = 0) (hq : q % 2 = 1) : Nat.gcd (p / 2) q = Nat.gcd p q := by
  obtain ⟨a, rfl⟩ : ∃ a, p = 2 * a := ⟨p / 2, by omega⟩
  rw [Nat.mul_div_cancel_left _ (by omega)]
  have h : Nat.Coprime 2 q := by
    unfold Nat.Coprime
    rw [Nat.gcd_rec, hq]; rfl
  rw [Nat.gcd_comm, Nat.gcd_comm (2 * a), Nat.Coprime.gcd_mul_left_cancel_right a h]
theorem gcd_minus {p q : Nat} (h : p ≤ q) : Nat.gcd p (q - p) = Nat.gcd p q := Nat.gcd_sub_self_right h

theorem szn_half (p : Nat) : szn (p / 2) ≤ szn p := szn_mono (Nat.div_le_self p 2)
theorem szn_minus (p q : Nat) : szn (q - p) ≤ szn q := szn_mono (Nat.sub_le q p)
theorem twos {p q k x y : Nat} (hp : p ≠ 0) (hx : x ≠ 0) (h : Nat.gcd p q * 2 ^ k = Nat.gcd x y) : k ≤ 24 * szn x := by
  have h1 : 0 < Nat.gcd p q := Nat.gcd_pos_of_pos_left _ (by omega)
  have h2 : Nat.gcd x y ≤ x := Nat.le_of_dvd (by omega) (Nat.gcd_dvd_left x y)
  have h3 : 2 ^ k ≤ x := by
    refine Nat.le_trans ?_ h2
    rw [← h]; exact Nat.le_mul_of_pos_left _ h1
  have h4 : x < 16777216 ^ (dg x).length := lt_pow_digs (b := 16777216) (by omega) x
  rw [show (16777216 : Nat) = 2 ^ 24 by decide, ← Nat.pow_mul] at h4
  have h5 : 2 ^ k < 2 ^ (24 * (dg x).length) := Nat.lt_of_le_of_lt h3 h4
  have := (Nat.pow_lt_pow_iff_right (by omega)).1 h5
  unfold szn; omega
theorem halves_pow {p q k x y : Nat} (hp : p % 2 = 0) (hq : q % 2 = 0) (h : Nat.gcd p q * 2 ^ k = Nat.gcd x y) : Nat.gcd (p / 2) (q / 2) * 2 ^ (k + 1) = Nat.gcd x y := by
  rw [← h, ← gcd_halves hp hq, Nat.pow_succ, Nat.mul_assoc, Nat.mul_comm 2]
theorem word_lt {x : Nat} (h : szn x ≤ 2) : x < 281474976710656 := by
  have h4 : x < 16777216 ^ (dg x).length := lt_pow_digs (b := 16777216) (by omega) x
  have h5 : (16777216 : Nat) ^ (dg x).length ≤ 16777216 ^ 2 := Nat.pow_le_pow_right (by omega) h
  omega
theorem gcd_word {p q : Nat} (hp : p ≠ 0) (h : p < 281474976710656) : Nat.gcd p q < 281474976710656 := Nat.lt_of_le_of_lt (Nat.le_of_dvd (by omega) (Nat.gcd_dvd_left p q)) h
end Cps
