/- Plain arithmetic on lists of digits: the value of a list of digits, the one list of digits that a natural number has, and how the value turns when one digit is set. No program in sight. -/
namespace Cps

/-- The value of digits, the lowest first. -/
def val (b : Int) : List Int → Int
  | [] => 0
  | d :: ds => d + b * val b ds

@[simp] theorem val_nil (b : Int) : val b [] = 0 := rfl
@[simp] theorem val_cons (b d : Int) (ds : List Int) : val b (d :: ds) = d + b * val b ds := rfl

theorem val_append (b : Int) (xs ys : List Int) : val b (xs ++ ys) = val b xs + b ^ xs.length * val b ys := by
  induction xs with
  | nil => simp
  | cons x xs ih => simp only [List.cons_append, val_cons, ih, List.length_cons, Int.pow_succ]; grind

theorem val_snoc (b : Int) (xs : List Int) (x : Int) : val b (xs ++ [x]) = val b xs + b ^ xs.length * x := by
  rw [val_append]; simp

theorem val_take_succ (b : Int) (xs : List Int) (k : Nat) (h : k < xs.length) : val b (xs.take (k + 1)) = val b (xs.take k) + b ^ k * xs[k] := by
  rw [List.take_succ_eq_append_getElem h, val_snoc, List.length_take, Nat.min_eq_left (by omega)]

theorem val_take_drop (b : Int) (xs : List Int) (k : Nat) (h : k ≤ xs.length) : val b xs = val b (xs.take k) + b ^ k * val b (xs.drop k) := by
  have := val_append b (xs.take k) (xs.drop k)
  rw [List.take_append_drop, List.length_take, Nat.min_eq_left h] at this
  exact this

theorem val_replicate_zero (b : Int) (n : Nat) : val b (List.replicate n 0) = 0 := by
  induction n with
  | zero => rfl
  | succ n ih => simp [List.replicate_succ, ih]

theorem val_set (b : Int) (xs : List Int) (k : Nat) (x : Int) (h : k < xs.length) : val b (xs.set k x) = val b xs + b ^ k * (x - xs[k]) := by
  induction xs generalizing k with
  | nil => simp at h
  | cons y ys ih =>
    cases k with
    | zero => simp; grind
    | succ k =>
      simp only [List.set_cons_succ, val_cons, List.getElem_cons_succ]
      rw [ih k (by simpa using h), Int.pow_succ]
      grind

/-- All of them are digits. -/
def Digs (b : Int) (xs : List Int) : Prop := ∀ x ∈ xs, 0 ≤ x ∧ x < b

theorem Digs.nil (b : Int) : Digs b [] := fun _ h => by simp at h
theorem Digs.get {b : Int} {xs : List Int} (h : Digs b xs) (k : Nat) (hk : k < xs.length) : 0 ≤ xs[k] ∧ xs[k] < b := h _ (List.getElem_mem hk)
theorem Digs.append {b : Int} {xs ys : List Int} (h : Digs b xs) (h' : Digs b ys) : Digs b (xs ++ ys) := fun x hx => by
  rcases List.mem_append.1 hx with hx | hx
  · exact h x hx
  · exact h' x hx
theorem Digs.snoc {b : Int} {xs : List Int} (h : Digs b xs) {x : Int} (h0 : 0 ≤ x) (h1 : x < b) : Digs b (xs ++ [x]) :=
  h.append fun y hy => by simp at hy; subst hy; exact ⟨h0, h1⟩
theorem Digs.take {b : Int} {xs : List Int} (h : Digs b xs) (k : Nat) : Digs b (xs.take k) := fun x hx => h x (List.mem_of_mem_take hx)
theorem Digs.drop {b : Int} {xs : List Int} (h : Digs b xs) (k : Nat) : Digs b (xs.drop k) := fun x hx => h x (List.mem_of_mem_drop hx)
theorem Digs.set {b : Int} {xs : List Int} (h : Digs b xs) (k : Nat) {x : Int} (h0 : 0 ≤ x) (h1 : x < b) : Digs b (xs.set k x) := fun y hy => by
  rcases List.mem_or_eq_of_mem_set hy with hy | rfl
  · exact h y hy
  · exact ⟨h0, h1⟩
theorem Digs.tail {b d : Int} {xs : List Int} (h : Digs b (d :: xs)) : Digs b xs := fun x hx => h x (by simp [hx])
theorem Digs.replicate {b : Int} (hb : 0 < b) (n : Nat) : Digs b (List.replicate n 0) := fun x hx => by
  have := List.eq_of_mem_replicate hx; subst this; exact ⟨Int.le_refl _, hb⟩

theorem pow_pos' {b : Int} (hb : 0 < b) (n : Nat) : 0 < b ^ n := Int.pow_pos hb

theorem val_nonneg {b : Int} (hb : 0 < b) {xs : List Int} (h : Digs b xs) : 0 ≤ val b xs := by
  induction xs with
  | nil => exact Int.le_refl _
  | cons x xs ih =>
    have h1 := h x (by simp)
    have h2 := Int.mul_nonneg (Int.le_of_lt hb) (ih h.tail)
    simp only [val_cons]; omega

theorem val_lt {b : Int} (hb : 0 < b) {xs : List Int} (h : Digs b xs) : val b xs < b ^ xs.length := by
  induction xs with
  | nil => simp
  | cons x xs ih =>
    have h1 := h x (by simp)
    have h2 := ih h.tail
    have h3 : b * (val b xs + 1) ≤ b * b ^ xs.length := Int.mul_le_mul_of_nonneg_left (by omega) (Int.le_of_lt hb)
    simp only [val_cons, List.length_cons, Int.pow_succ]
    rw [Int.mul_add, Int.mul_one] at h3
    rw [Int.mul_comm (b ^ xs.length) b]
    omega

/-- The digits of a natural number: the lowest first, none at the end that is 0. -/
def digs (b : Nat) (n : Nat) : List Int :=
  if _h : 2 ≤ b ∧ n ≠ 0 then ((n % b : Nat) : Int) :: digs b (n / b) else []
termination_by n
decreasing_by exact Nat.div_lt_self (by omega) (by omega)

theorem digs_zero (b : Nat) : digs b 0 = [] := by rw [digs]; simp
theorem digs_pos {b n : Nat} (hb : 2 ≤ b) (hn : n ≠ 0) : digs b n = ((n % b : Nat) : Int) :: digs b (n / b) := by
  rw [digs, dif_pos ⟨hb, hn⟩]

theorem val_digs {b : Nat} (hb : 2 ≤ b) (n : Nat) : val b (digs b n) = n := by
  induction n using Nat.strongRecOn with
  | ind n ih =>
    by_cases hn : n = 0
    · subst hn; rw [digs_zero]; rfl
    · rw [digs_pos hb hn, val_cons, ih _ (Nat.div_lt_self (by omega) (by omega))]
      have := Nat.mod_add_div n b
      have h2 : ((n % b : Nat) : Int) + (b : Int) * ((n / b : Nat) : Int) = ((n % b + b * (n / b) : Nat) : Int) := by
        rw [Int.natCast_add, Int.natCast_mul]
      rw [h2, this]

theorem digs_digs {b : Nat} (hb : 2 ≤ b) (n : Nat) : Digs b (digs b n) := by
  induction n using Nat.strongRecOn with
  | ind n ih =>
    by_cases hn : n = 0
    · subst hn; rw [digs_zero]; exact Digs.nil _
    · rw [digs_pos hb hn]
      intro x hx
      rcases List.mem_cons.1 hx with rfl | hx
      · have := Nat.mod_lt n (show 0 < b by omega)
        omega
      · exact ih _ (Nat.div_lt_self (by omega) (by omega)) x hx

theorem digs_last {b : Nat} (hb : 2 ≤ b) (n : Nat) : (digs b n).getLast? ≠ some 0 := by
  induction n using Nat.strongRecOn with
  | ind n ih =>
    by_cases hn : n = 0
    · subst hn; rw [digs_zero]; simp
    · rw [digs_pos hb hn]
      by_cases hq : n / b = 0
      · rw [hq, digs_zero]
        have h1 : n < b := by
          rcases Nat.lt_or_ge n b with h | h
          · exact h
          · have := Nat.div_pos h (by omega); omega
        rw [Nat.mod_eq_of_lt h1]
        simp; omega
      · have := ih (n / b) (Nat.div_lt_self (by omega) (by omega))
        rw [digs_pos hb hq] at this ⊢
        simpa [List.getLast?_cons_cons] using this

/-- Digits without a 0 at the end are the digits of their value. -/
theorem digs_of {b : Nat} (hb : 2 ≤ b) : ∀ (xs : List Int), Digs b xs → xs.getLast? ≠ some 0 → digs b (val b xs).toNat = xs := by
  intro xs
  induction xs with
  | nil => intro _ _; simp [digs_zero]
  | cons x xs ih =>
    intro h hl
    have hx := h x (by simp)
    have ht := h.tail
    have hv := val_nonneg (show (0 : Int) < b by omega) ht
    have hmul := Int.mul_nonneg (show (0 : Int) ≤ b by omega) hv
    have hl' : xs.getLast? ≠ some 0 := by
      cases xs with
      | nil => simp
      | cons y ys => rwa [List.getLast?_cons_cons] at hl
    have hrec := ih ht hl'
    have hne : (val b (x :: xs)).toNat ≠ 0 := by
      rw [val_cons]
      cases xs with
      | nil =>
        have : x ≠ 0 := fun e => hl (by simp [e])
        simp only [val_nil, Int.mul_zero]
        omega
      | cons y ys =>
        intro h0
        have hz : val b (y :: ys) = 0 := by
          have hz' : (b : Int) * val b (y :: ys) = 0 := by omega
          rcases Int.mul_eq_zero.1 hz' with h | h
          · omega
          · exact h
        rw [hz] at hrec
        simp [digs_zero] at hrec
    rw [digs_pos hb hne]
    have hx' : ((x.toNat : Nat) : Int) = x := by omega
    have hval : (val b (x :: xs)).toNat = x.toNat + b * (val b xs).toNat := by
      rw [val_cons]
      have : (b : Int) * val b xs = ((b * (val b xs).toNat : Nat) : Int) := by rw [Int.natCast_mul]; congr 1; omega
      rw [this]; omega
    have hxlt : x.toNat < b := by omega
    rw [hval, Nat.add_mul_mod_self_left, Nat.mod_eq_of_lt hxlt, Nat.add_mul_div_left _ _ (show 0 < b by omega), Nat.div_eq_of_lt hxlt, Nat.zero_add, hx', hrec]

theorem digs_eq {b : Nat} (hb : 2 ≤ b) {xs : List Int} (h : Digs b xs) (hl : xs.getLast? ≠ some 0) {n : Nat} (hn : val b xs = n) : xs = digs b n := by
  rw [← digs_of hb xs h hl, hn]; simp

theorem digs_eq_nil {b : Nat} (hb : 2 ≤ b) (n : Nat) : digs b n = [] ↔ n = 0 := by
  constructor
  · intro h
    by_cases hn : n = 0
    · exact hn
    · rw [digs_pos hb hn] at h; simp at h
  · rintro rfl; exact digs_zero b

theorem digs_length_zero {b : Nat} (hb : 2 ≤ b) (n : Nat) : (digs b n).length = 0 ↔ n = 0 := by
  rw [List.length_eq_zero_iff, digs_eq_nil hb]

/-- n digits are enough below b ^ n. -/
theorem digs_length_le {b : Nat} (hb : 2 ≤ b) (k : Nat) : ∀ n : Nat, n < b ^ k → (digs b n).length ≤ k := by
  induction k with
  | zero => intro n hn; have : n = 0 := by simpa using hn
            subst this; simp [digs_zero]
  | succ k ih =>
    intro n hn
    by_cases h0 : n = 0
    · subst h0; simp [digs_zero]
    · rw [digs_pos hb h0, List.length_cons]
      have : n / b < b ^ k := Nat.div_lt_of_lt_mul (by rw [Nat.pow_succ, Nat.mul_comm] at hn; exact hn)
      have := ih _ this
      omega

/-- So many digits are wanted from b ^ (n - 1) on. -/
theorem digs_length_gt {b : Nat} (hb : 2 ≤ b) (k n : Nat) (h : b ^ k ≤ n) : k < (digs b n).length := by
  rcases Nat.lt_or_ge k (digs b n).length with h1 | h1
  · exact h1
  · exfalso
    have hv := val_lt (show (0 : Int) < b by omega) (digs_digs hb n)
    rw [val_digs hb] at hv
    have h2 : (b : Int) ^ (digs b n).length = ((b ^ (digs b n).length : Nat) : Int) := by rw [Int.natCast_pow]
    rw [h2] at hv
    have h3 : b ^ (digs b n).length ≤ b ^ k := Nat.pow_le_pow_right (by omega) h1
    omega

theorem lt_pow_digs {b : Nat} (hb : 2 ≤ b) (n : Nat) : n < b ^ (digs b n).length := by
  rcases Nat.lt_or_ge n (b ^ (digs b n).length) with h | h
  · exact h
  · have := digs_length_gt hb _ _ h; omega

theorem digs_length_mono {b : Nat} (hb : 2 ≤ b) {m n : Nat} (h : m ≤ n) : (digs b m).length ≤ (digs b n).length :=
  digs_length_le hb _ _ (Nat.lt_of_le_of_lt h (lt_pow_digs hb n))

theorem digs_length_mul {b : Nat} (hb : 2 ≤ b) (m n : Nat) : (digs b (m * n)).length ≤ (digs b m).length + (digs b n).length := by
  refine digs_length_le hb _ _ ?_
  rw [Nat.pow_add]
  exact Nat.mul_lt_mul'' (lt_pow_digs hb m) (lt_pow_digs hb n)

theorem digs_length_add {b : Nat} (hb : 2 ≤ b) (m n : Nat) : (digs b (m + n)).length ≤ max (digs b m).length (digs b n).length + 1 := by
  refine digs_length_le hb _ _ ?_
  have h1 := lt_pow_digs hb m
  have h2 := lt_pow_digs hb n
  have h3 : b ^ (digs b m).length ≤ b ^ max (digs b m).length (digs b n).length := Nat.pow_le_pow_right (by omega) (Nat.le_max_left _ _)
  have h4 : b ^ (digs b n).length ≤ b ^ max (digs b m).length (digs b n).length := Nat.pow_le_pow_right (by omega) (Nat.le_max_right _ _)
  rw [Nat.pow_succ]
  have h5 : b ^ max (digs b m).length (digs b n).length * 2 ≤ b ^ max (digs b m).length (digs b n).length * b := Nat.mul_le_mul_left _ hb
  omega

theorem digs_inj {b : Nat} (hb : 2 ≤ b) {m n : Nat} (h : digs b m = digs b n) : m = n := by
  have h1 := val_digs hb m
  have h2 := val_digs hb n
  rw [h] at h1; omega

/-! ### how two numbers compare: from the highest digit on -/
/-- Of as many digits: where the first digit from above on that differs is less, the value is. -/
theorem val_lt_of_top {b : Nat} (hb : 2 ≤ b) {xs ys : List Int} (hx : Digs b xs) (hy : Digs b ys) (hlen : xs.length = ys.length) (i : Nat) (hi : i < xs.length)
    (heq : ∀ j, i < j → xs.getD j 0 = ys.getD j 0) (hlt : xs.getD i 0 < ys.getD i 0) : val b xs < val b ys := by
  have e1 := val_take_drop b xs (i + 1) (by omega)
  have e2 := val_take_drop b ys (i + 1) (by omega)
  have hd : xs.drop (i + 1) = ys.drop (i + 1) := by
    apply List.ext_getElem
    · simp [hlen]
    · intro j h1 h2
      simp at h1 h2
      have := heq (i + 1 + j) (by omega)
      simp only [List.getElem_drop]
      rw [List.getD_eq_getElem?_getD, List.getD_eq_getElem?_getD, List.getElem?_eq_getElem (by omega), List.getElem?_eq_getElem (by omega)] at this
      simpa using this
  rw [val_take_succ b xs i hi] at e1
  rw [val_take_succ b ys i (by omega), ← hd] at e2
  have l1 := val_lt (show (0 : Int) < b by omega) (hx.take i)
  have l2 := val_nonneg (show (0 : Int) < b by omega) (hy.take i)
  rw [List.length_take, Nat.min_eq_left (by omega)] at l1
  have hlt' : xs[i] + 1 ≤ ys[i]'(by omega) := by
    rw [List.getD_eq_getElem?_getD, List.getD_eq_getElem?_getD, List.getElem?_eq_getElem hi, List.getElem?_eq_getElem (show i < ys.length by omega)] at hlt
    simp at hlt; omega
  have hm : (b : Int) ^ i * (xs[i] + 1) ≤ (b : Int) ^ i * ys[i]'(by omega) := Int.mul_le_mul_of_nonneg_left hlt' (Int.le_of_lt (pow_pos' (by omega) _))
  rw [Int.mul_add, Int.mul_one] at hm
  omega

theorem length_lt_val {b : Nat} (hb : 2 ≤ b) {m n : Nat} (h : (digs b m).length < (digs b n).length) : m < n := by
  rcases Nat.lt_or_ge m n with h1 | h1
  · exact h1
  · have := digs_length_mono hb h1; omega

end Cps
