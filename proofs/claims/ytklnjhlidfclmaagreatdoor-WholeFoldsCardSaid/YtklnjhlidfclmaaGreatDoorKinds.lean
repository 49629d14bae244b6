/- The kinds of values: integers, ratios and pairs of the program and of the reference, as they lie in memory; and how long they are. -/
import Derived.Test.YtklnjhlidfclmaaGreatDoorRep
set_option linter.unusedVariables false
namespace Cps
open Go Go.RowKit

/-- A ratio of the program. -/
structure RW (w : World) (A : Option Addr) (n : Nat) (m : Bool) (A' : Option Addr) (n' : Nat) (r : Rat) : Prop where
  top : ZW w A n m r.num
  rest : DW w A' n' (r.den - 1)
structure VW (w : World) (A : Option Addr) (n : Nat) (m : Bool) (A' : Option Addr) (n' : Nat) (B : Option Addr) (k : Nat) (l : Bool) (B' : Option Addr) (k' : Nat) (p : Rat × Rat) : Prop where
  x : RW w A n m A' n' p.1
  z : RW w B k l B' k' p.2
/-- A ratio of the reference: a denominator of 0 stands for 1. -/
structure NRW (w : World) (s : Int) (A : Option Addr) (n : Nat) (s' : Int) (A' : Option Addr) (n' : Nat) (r : Rat) : Prop where
  top : NW w s A n r.num
  bot : ∃ d : Int, NW w s' A' n' d ∧ (d = r.den ∨ d = 0 ∧ r.den = 1)
structure NVW (w : World) (s : Int) (A : Option Addr) (n : Nat) (s' : Int) (A' : Option Addr) (n' : Nat) (t : Int) (B : Option Addr) (k : Nat) (t' : Int) (B' : Option Addr) (k' : Nat) (p : Rat × Rat) : Prop where
  x : NRW w s A n s' A' n' p.1
  z : NRW w t B k t' B' k' p.2
theorem RW.below {w w' : World} {A : Option Addr} {n : Nat} {m : Bool} {A' : Option Addr} {n' : Nat} {r : Rat} (h : RW w A n m A' n' r) (k : Keep 2 w w') : RW w' A n m A' n' r := ⟨h.top.below k, h.rest.below k⟩
theorem VW.below {w w' : World} {A : Option Addr} {n : Nat} {m : Bool} {A' : Option Addr} {n' : Nat} {B : Option Addr} {k : Nat} {l : Bool} {B' : Option Addr} {k' : Nat} {p : Rat × Rat} (h : VW w A n m A' n' B k l B' k' p) (hk : Keep 2 w w') :
    VW w' A n m A' n' B k l B' k' p := ⟨h.x.below hk, h.z.below hk⟩
theorem NRW.below {w w' : World} {s : Int} {A : Option Addr} {n : Nat} {s' : Int} {A' : Option Addr} {n' : Nat} {r : Rat} (h : NRW w s A n s' A' n' r) (k : Keep 3 w w') : NRW w' s A n s' A' n' r :=
  ⟨h.top.below k, let ⟨d, h1, h2⟩ := h.bot; ⟨d, h1.below k, h2⟩⟩
theorem NVW.below {w w' : World} {s : Int} {A : Option Addr} {n : Nat} {s' : Int} {A' : Option Addr} {n' : Nat} {t : Int} {B : Option Addr} {k : Nat} {t' : Int} {B' : Option Addr} {k' : Nat} {p : Rat × Rat} (h : NVW w s A n s' A' n' t B k t' B' k' p) (hk : Keep 3 w w') :
    NVW w' s A n s' A' n' t B k t' B' k' p := ⟨h.x.below hk, h.z.below hk⟩

/-! ### Signs -/
/-- An integer out of its sign and its absolute value. -/
def mk (m : Bool) (n : Nat) : Int := if m then -(n : Int) else n
theorem mk_abs (m : Bool) (n : Nat) : (mk m n).natAbs = n := by cases m <;> simp [mk]
theorem mk_neg (m : Bool) (n : Nat) : decide (mk m n < 0) = (m && decide (n ≠ 0)) := by
  cases m
  · simp [mk]
  · by_cases h : n = 0
    · subst h; simp [mk]
    · have h2 : -(n : Int) < 0 := by omega
      simp only [mk, if_true, decide_eq_true h2, Bool.true_and, decide_eq_true (show n ≠ 0 from h)]
theorem mk_of {m : Bool} {z : Int} (h : m = decide (z < 0)) : mk m z.natAbs = z := by
  subst h
  unfold mk
  by_cases hz : z < 0
  · rw [if_pos (by simpa using hz)]; omega
  · rw [if_neg (by simpa using hz)]; omega
theorem mk_opp {m : Bool} {z : Int} (h : m = decide (z < 0)) : mk (!m) z.natAbs = -z := by
  subst h
  unfold mk
  by_cases hz : z < 0
  · rw [if_neg (by simpa using hz)]; omega
  · rw [if_pos (by simpa using hz)]; omega

theorem mk_mul {m k : Bool} {a b : Int} (h : m = decide (a < 0)) (h' : k = decide (b < 0)) : mk (m != k) (a.natAbs * b.natAbs) = a * b := by
  have e1 := mk_of h
  have e2 := mk_of h'
  generalize a.natAbs = p at *
  generalize b.natAbs = q at *
  subst e1 e2
  clear h h'
  cases m <;> cases k <;> simp [mk, Int.neg_mul, Int.mul_neg]

theorem mk_add_same {m k : Bool} {a b : Int} (h : m = decide (a < 0)) (h' : k = decide (b < 0)) (e : m = k) : mk m (a.natAbs + b.natAbs) = a + b := by
  subst e
  by_cases ha : a < 0 <;> by_cases hb : b < 0 <;> simp_all [mk] <;> omega
theorem mk_add_lt {m k : Bool} {a b : Int} (h : m = decide (a < 0)) (h' : k = decide (b < 0)) (e : ¬ m = k) (l : a.natAbs < b.natAbs) : mk k (b.natAbs - a.natAbs) = a + b := by
  by_cases ha : a < 0 <;> by_cases hb : b < 0 <;> simp_all [mk] <;> omega
theorem mk_add_ge {m k : Bool} {a b : Int} (h : m = decide (a < 0)) (h' : k = decide (b < 0)) (e : ¬ m = k) (l : ¬ a.natAbs < b.natAbs) : mk m (a.natAbs - b.natAbs) = a + b := by
  by_cases ha : a < 0 <;> by_cases hb : b < 0 <;> simp_all [mk] <;> omega

/-! ### Lengths -/
def szn (n : Nat) : Nat := (dg n).length
def sz (z : Int) : Nat := szn z.natAbs
theorem szn_add (m n : Nat) : szn (m + n) ≤ max (szn m) (szn n) + 1 := digs_length_add (by omega) m n
theorem szn_mul (m n : Nat) : szn (m * n) ≤ szn m + szn n := digs_length_mul (by omega) m n
theorem szn_mono {m n : Nat} (h : m ≤ n) : szn m ≤ szn n := digs_length_mono (by omega) h
theorem szn_small {n : Nat} (k : Nat) (h : n < 16777216 ^ k) : szn n ≤ k := digs_length_le (by omega) k n h
theorem sz_neg (a : Int) : sz (-a) = sz a := by simp [sz]
theorem sz_abs (a : Int) : sz (a.natAbs : Int) = sz a := by simp [sz]
theorem sz_mk (m : Bool) (n : Nat) : sz (mk m n) = szn n := by simp [sz, mk_abs]
theorem sz_mul (a b : Int) : sz (a * b) ≤ sz a + sz b := by simp only [sz, Int.natAbs_mul]; exact szn_mul _ _
theorem sz_add (a b : Int) : sz (a + b) ≤ max (sz a) (sz b) + 1 :=
  Nat.le_trans (szn_mono (Int.natAbs_add_le a b)) (szn_add _ _)
theorem sz_sub (a b : Int) : sz (a - b) ≤ max (sz a) (sz b) + 1 := by
  have := sz_add a (-b)
  rw [sz_neg] at this
  rwa [Int.sub_eq_add_neg]

/-- How two natural numbers compare. -/
def cmpN (a b : Nat) : Int := if a < b then -1 else if b < a then 1 else 0
theorem cmpN_lt (a b : Nat) : cmpN a b < 0 ↔ a < b := by unfold cmpN; split <;> (try split) <;> omega
theorem cmpN_gt (a b : Nat) : 0 < cmpN a b ↔ b < a := by unfold cmpN; split <;> (try split) <;> omega
theorem cmpN_ge (a b : Nat) : 0 ≤ cmpN a b ↔ b ≤ a := by unfold cmpN; split <;> (try split) <;> omega
/-- How two integers, and two ratios, compare. -/
theorem sign_zero_of {x : Nat} {z : Int} (h : z.natAbs = x) : x = 0 ↔ z = 0 := by omega
theorem sign_neg_of {m : Bool} {z : Int} (h : m = decide (z < 0)) (hm : m = true) : (-1 : Int) = z.sign := by
  subst h; have : z < 0 := by simpa using hm
  exact (Int.sign_eq_neg_one_of_neg this).symm
theorem sign_pos_of {m : Bool} {z : Int} (h : m = decide (z < 0)) (hm : m = false) (h0 : ¬ z.natAbs = 0) : (1 : Int) = z.sign := by
  subst h; have : ¬ z < 0 := by simpa using hm
  exact (Int.sign_eq_one_of_pos (by omega)).symm

theorem szn_zero : szn 0 = 0 := by simp [szn, digs_zero]
theorem szn_one : szn 1 ≤ 1 := szn_small 1 (by omega)
theorem sz_nat (n : Nat) : sz (n : Int) = szn n := by simp [sz]
theorem sz_zero : sz 0 = 0 := szn_zero
/-- The length of a ratio. -/
def szR (r : Rat) : Nat := max (sz r.num) (szn r.den)
theorem szR_num (r : Rat) : sz r.num ≤ szR r := Nat.le_max_left _ _
theorem szR_den (r : Rat) : szn r.den ≤ szR r := Nat.le_max_right _ _
theorem szR_pred (r : Rat) : szn (r.den - 1) ≤ szR r := Nat.le_trans (szn_mono (by omega)) (szR_den r)
theorem den_pos (r : Rat) : 0 < r.den := Nat.pos_of_ne_zero r.den_nz
theorem den_back (r : Rat) : r.den - 1 + 1 = r.den := by have := den_pos r; omega
theorem mk_false_den (r : Rat) : mk false (r.den - 1 + 1) = (r.den : Int) := by rw [den_back]; rfl

/-! ### A quotient by the parts -/
/-- The quotient of a by |d|, as the program finds it. -/
theorem quo_abs (m : Bool) (a d : Int) (hd : d ≠ 0) (hm : m = decide (a < 0)) :
    a / (d.natAbs : Int) = (if m = true ∧ a.natAbs % d.natAbs ≠ 0 then mk m (a.natAbs / d.natAbs) - 1 else mk m (a.natAbs / d.natAbs)) ∧
    a % (d.natAbs : Int) = (if m = true ∧ a.natAbs % d.natAbs ≠ 0 then (d.natAbs : Int) - mk false (a.natAbs % d.natAbs) else mk false (a.natAbs % d.natAbs)) := by
  have hdp : 0 < d.natAbs := by omega
  have key : a = (a.natAbs : Int) ∨ (a = -(a.natAbs : Int) ∧ a < 0) := by omega
  have h1 := Nat.div_add_mod a.natAbs d.natAbs
  have h2 := Nat.mod_lt a.natAbs hdp
  generalize a.natAbs / d.natAbs = q at *
  generalize a.natAbs % d.natAbs = r at *
  generalize d.natAbs = D at *
  have h1' : (D : Int) * (q : Int) + (r : Int) = (a.natAbs : Int) := by rw [← h1]; simp
  have uniq : ∀ (x y : Int), (D : Int) * x + y = a → 0 ≤ y → y < D → a / (D : Int) = x ∧ a % (D : Int) = y := by
    intro x y he h0 hlt
    have := Int.ediv_emod_unique (a := a) (b := (D : Int)) (r := y) (q := x) (by omega)
    exact this.2 ⟨by omega, h0, hlt⟩
  by_cases ha : a < 0
  · have hm' : m = true := by rw [hm]; simpa using ha
    subst hm'
    by_cases hr : r = 0
    · subst hr
      rw [if_neg (by simp), if_neg (by simp)]
      simp only [mk, if_true]
      refine uniq _ _ ?_ (by simp) (by simp; omega)
      rw [Int.mul_neg]
      simp
      omega
    · rw [if_pos ⟨rfl, hr⟩, if_pos ⟨rfl, hr⟩]
      simp only [mk, if_true]
      refine uniq _ _ ?_ (by simp; omega) (by simp; omega)
      rw [Int.mul_sub, Int.mul_neg]
      simp
      omega
  · have hm' : m = false := by rw [hm]; simpa using ha
    subst hm'
    rw [if_neg (by simp), if_neg (by simp)]
    simp only [mk]
    refine uniq _ _ ?_ (by simp) (by simp; omega)
    simp
    omega
theorem quo_sign (a d : Int) : a / d = if d < 0 then -(a / (d.natAbs : Int)) else a / (d.natAbs : Int) := by
  split
  · rename_i h
    have e : d = -(d.natAbs : Int) := by omega
    rw [e, Int.ediv_neg]; simp
  · rename_i h
    have e : d = (d.natAbs : Int) := by omega
    rw [e]; simp
theorem mod_sign (a d : Int) : a % d = a % (d.natAbs : Int) := by
  by_cases h : d < 0
  · have e : d = -(d.natAbs : Int) := by omega
    rw [e, Int.emod_neg]; simp
  · have e : d = (d.natAbs : Int) := by omega
    rw [e]; simp

/-! ### Ratios -/
/-- n/d in lowest terms. -/
theorem ratio_num (n d : Int) (hd : d ≠ 0) (g : Int) (hg : g = if d < 0 then -(Int.gcd n d : Int) else (Int.gcd n d : Int)) : n / g = (Rat.divInt n d).num := by
  rw [Rat.num_divInt, Int.gcd_comm d n]
  subst hg
  by_cases h : d < 0
  · rw [if_pos h, Int.ediv_neg, Int.sign_eq_neg_one_of_neg h, Int.neg_one_mul, Int.neg_ediv_of_dvd (Int.gcd_dvd_left ..)]
  · rw [if_neg h, Int.sign_eq_one_of_pos (by omega), Int.one_mul]
theorem ratio_den (n d : Int) (hd : d ≠ 0) (g : Int) (hg : g = if d < 0 then -(Int.gcd n d : Int) else (Int.gcd n d : Int)) : (d / g).natAbs = (Rat.divInt n d).den := by
  rw [Rat.den_divInt, if_neg hd, Int.gcd_comm d n]
  subst hg
  by_cases h : d < 0
  · rw [if_pos h, Int.ediv_neg, Int.natAbs_neg, Int.natAbs_ediv_of_dvd (Int.gcd_dvd_right ..)]; simp
  · rw [if_neg h, Int.natAbs_ediv_of_dvd (Int.gcd_dvd_right ..)]; simp

theorem quoA {m : Bool} {a d : Int} (h : m = decide (a < 0)) (hd : d ≠ 0) (hm : m = true) (hr : ¬ a.natAbs % d.natAbs = 0) :
    mk m (a.natAbs / d.natAbs) - 1 = a / (d.natAbs : Int) ∧ (d.natAbs : Int) - mk false (a.natAbs % d.natAbs) = a % d := by
  have := quo_abs m a d hd h
  rw [if_pos ⟨hm, hr⟩, if_pos ⟨hm, hr⟩] at this
  exact ⟨this.1.symm, by rw [mod_sign]; exact this.2.symm⟩
theorem quoB {m : Bool} {a d : Int} (h : m = decide (a < 0)) (hd : d ≠ 0) (hn : m = true → a.natAbs % d.natAbs = 0) :
    mk m (a.natAbs / d.natAbs) = a / (d.natAbs : Int) ∧ mk false (a.natAbs % d.natAbs) = a % d := by
  have := quo_abs m a d hd h
  rw [if_neg (fun e => e.2 (hn e.1)), if_neg (fun e => e.2 (hn e.1))] at this
  exact ⟨this.1.symm, by rw [mod_sign]; exact this.2.symm⟩
theorem quoN {k : Bool} {a d x : Int} (h : k = decide (d < 0)) (hk : k = true) (e : x = a / (d.natAbs : Int)) : -x = a / d := by
  have hd : d < 0 := by rw [h] at hk; simpa using hk
  rw [quo_sign, if_pos hd, e]
theorem quoP {k : Bool} {a d x : Int} (h : k = decide (d < 0)) (hk : ¬ k = true) (e : x = a / (d.natAbs : Int)) : x = a / d := by
  have hd : ¬ d < 0 := by rw [h] at hk; simpa using hk
  rw [quo_sign, if_neg hd, e]
theorem sz_quo (a d : Int) : sz (a / d) ≤ sz a := szn_mono (Int.natAbs_ediv_le_natAbs a d)
theorem szn_mod (a b : Nat) : szn (a % b) ≤ szn a := szn_mono (Nat.mod_le a b)
theorem szn_div (a b : Nat) : szn (a / b) ≤ szn a := szn_mono (Nat.div_le_self a b)
theorem szn_sub (a b : Nat) : szn (a - b) ≤ szn a := szn_mono (Nat.sub_le a b)
theorem sz_gcd (a b : Int) (h : b ≠ 0) : sz (Int.gcd a b : Int) ≤ sz b := by
  rw [sz_nat]; exact szn_mono (Nat.le_of_dvd (by omega) (by simpa using Int.gcd_dvd_natAbs_right a b))
theorem gcd_ne {n d : Int} (hd : d ≠ 0) : (Int.gcd n d : Int) ≠ 0 := by
  intro h
  have : Int.gcd n d = 0 := by omega
  exact hd (Int.gcd_eq_zero_iff.1 this).2

theorem DW.nil (w : World) (A : Option Addr) : DW w A 0 0 := ⟨by rw [show dg 0 = [] from digs_zero _]; exact Row.nil _ _ _⟩
theorem ZW.ofD {w : World} {A : Option Addr} {n x : Nat} (h : DW w A n x) : ZW w A n false (x : Int) := ⟨by simpa using h, by simp⟩
theorem ZW.zero (w : World) (A : Option Addr) : ZW w A 0 false 0 := ⟨DW.nil w A, by simp⟩
theorem RW.whole {w : World} {A : Option Addr} {n : Nat} {m : Bool} {A' : Option Addr} {n' : Nat} {z : Int} (h : ZW w A n m z) (h' : DW w A' n' 0) : RW w A n m A' n' (z : Rat) :=
  ⟨by rw [Rat.num_intCast]; exact h, by rw [Rat.den_intCast]; exact h'⟩
theorem RW.zero (w : World) (A A' : Option Addr) : RW w A 0 false A' 0 (0 : Rat) := RW.whole (z := 0) (ZW.zero w A) (DW.nil w A')
theorem NW.zero (w : World) (A : Option Addr) : NW w 0 A 0 0 := ⟨by rw [show gp (0 : Int).natAbs = [] from digs_zero _]; exact Row.nil _ _ _, rfl⟩
theorem RW.ratio {w : World} {A : Option Addr} {k : Nat} {m : Bool} {A' : Option Addr} {k' : Nat} {n d g : Int} (hd : d ≠ 0) (hg : g = if d < 0 then -(Int.gcd n d : Int) else (Int.gcd n d : Int))
    (h : ZW w A k m (n / g)) (h' : DW w A' k' ((d / g).natAbs - 1)) : RW w A k m A' k' (Rat.divInt n d) :=
  ⟨by rw [← ratio_num n d hd g hg]; exact h, by rw [← ratio_den n d hd g hg]; exact h'⟩
theorem ratio_one {n d g : Int} (hd : d ≠ 0) (hg : g = if d < 0 then -(Int.gcd n d : Int) else (Int.gcd n d : Int)) : 1 ≤ (d / g).natAbs := by
  rw [ratio_den n d hd g hg]; exact den_pos _
theorem gN {k : Bool} {n d : Int} (h : k = decide (d < 0)) (hk : k = true) : -(Int.gcd n d : Int) = if d < 0 then -(Int.gcd n d : Int) else (Int.gcd n d : Int) := by
  rw [if_pos (by rw [h] at hk; simpa using hk)]
theorem gP {k : Bool} {n d : Int} (h : k = decide (d < 0)) (hk : ¬ k = true) : (Int.gcd n d : Int) = if d < 0 then -(Int.gcd n d : Int) else (Int.gcd n d : Int) := by
  rw [if_neg (by rw [h] at hk; simpa using hk)]

theorem sz_i64 (i : Int) (h : -9223372036854775808 ≤ i ∧ i ≤ 9223372036854775807) : sz i ≤ 3 := szn_small 3 (by omega)

/-! ### The ratios' facts -/
theorem RatFacts.den2 (a b : Rat) : (a.den : Int) * (b.den : Int) ≠ 0 := by
  have := den_pos a
  have := den_pos b
  exact Int.ne_of_gt (Int.mul_pos (by omega) (by omega))
theorem RatFacts.add (a b : Rat) : Rat.divInt (a.num * (b.den : Int) + b.num * (a.den : Int)) ((a.den : Int) * (b.den : Int)) = a + b := by
  rw [Rat.add_def', ← Rat.divInt_ofNat, Int.natCast_mul]
theorem RatFacts.mul (a b : Rat) : Rat.divInt (a.num * b.num) ((a.den : Int) * (b.den : Int)) = a * b := by
  rw [Rat.mul_def', ← Rat.divInt_ofNat, Int.natCast_mul]
theorem RatFacts.div (a b : Rat) (hb : b ≠ 0) : Rat.divInt (a.num * (b.den : Int)) ((a.den : Int) * b.num) = a / b := by
  rw [Rat.div_def, Rat.inv_def, ← Rat.divInt_mul_divInt, Rat.num_divInt_den]
theorem RatFacts.dnum {a b : Rat} (hb : b ≠ 0) : (a.den : Int) * b.num ≠ 0 := by
  have h1 := den_pos a
  have h2 : b.num ≠ 0 := fun h => hb (Rat.num_eq_zero.1 h)
  exact Int.mul_ne_zero (by omega) h2
theorem RatFacts.dnum0 {a b : Rat} (hb : b = 0) : (a.den : Int) * b.num = 0 := by subst hb; simp
theorem RatFacts.neg_den (a : Rat) : (-a).den = a.den := Rat.neg_den a
theorem RatFacts.ceil (a : Rat) : -((-a).floor) = a.ceil := by rw [Rat.ceil_eq_neg_floor_neg]

theorem RatFacts.abs_num (a : Rat) : a.abs.num = (a.num.natAbs : Int) := by
  unfold Rat.abs
  by_cases h : 0 ≤ a
  · rw [if_pos h]; have := Rat.num_nonneg.2 h; omega
  · rw [if_neg h, Rat.neg_num]
    have : ¬ 0 ≤ a.num := fun e => h (Rat.num_nonneg.1 e)
    omega
theorem RatFacts.abs_den (a : Rat) : a.abs.den = a.den := by
  unfold Rat.abs
  split
  · rfl
  · exact Rat.neg_den a

theorem szR_divInt (n d : Int) (hd : d ≠ 0) : szR (Rat.divInt n d) ≤ max (sz n) (sz d) := by
  have h1 : sz (Rat.divInt n d).num ≤ sz n := by
    rw [← ratio_num n d hd _ rfl]; exact sz_quo _ _
  have h2 : szn (Rat.divInt n d).den ≤ sz d := by
    rw [← ratio_den n d hd _ rfl]; exact sz_quo _ _
  unfold szR
  omega
theorem szR_neg (a : Rat) : szR (-a) = szR a := by simp [szR, Rat.neg_num, Rat.neg_den, sz_neg]
theorem szR_abs (a : Rat) : szR a.abs = szR a := by simp [szR, RatFacts.abs_num, RatFacts.abs_den, sz_abs]
theorem szR_add (a b : Rat) : szR (a + b) ≤ szR a + szR b + 1 := by
  rw [← RatFacts.add]
  have h := szR_divInt (a.num * (b.den : Int) + b.num * (a.den : Int)) ((a.den : Int) * (b.den : Int)) (RatFacts.den2 a b)
  have h1 := sz_add (a.num * (b.den : Int)) (b.num * (a.den : Int))
  have h2 := sz_mul a.num (b.den : Int)
  have h3 := sz_mul b.num (a.den : Int)
  have h4 := sz_mul (a.den : Int) (b.den : Int)
  rw [sz_nat] at h2 h3 h4
  rw [sz_nat] at h4
  have := szR_num a
  have := szR_num b
  have := szR_den a
  have := szR_den b
  omega
theorem szR_sub (a b : Rat) : szR (a - b) ≤ szR a + szR b + 1 := by
  rw [Rat.sub_eq_add_neg]
  have := szR_add a (-b)
  rwa [szR_neg] at this
theorem szR_mul (a b : Rat) : szR (a * b) ≤ szR a + szR b := by
  rw [← RatFacts.mul]
  have h := szR_divInt (a.num * b.num) ((a.den : Int) * (b.den : Int)) (RatFacts.den2 a b)
  have h2 := sz_mul a.num b.num
  have h4 := sz_mul (a.den : Int) (b.den : Int)
  rw [sz_nat] at h4
  rw [sz_nat] at h4
  have := szR_num a
  have := szR_num b
  have := szR_den a
  have := szR_den b
  omega
theorem szR_div (a b : Rat) (hb : b ≠ 0) : szR (a / b) ≤ szR a + szR b := by
  rw [← RatFacts.div a b hb]
  have h := szR_divInt (a.num * (b.den : Int)) ((a.den : Int) * b.num) (RatFacts.dnum hb)
  have h2 := sz_mul a.num (b.den : Int)
  have h4 := sz_mul (a.den : Int) b.num
  rw [sz_nat] at h2 h4
  have := szR_num a
  have := szR_num b
  have := szR_den a
  have := szR_den b
  omega
theorem szR_int (z : Int) : szR (z : Rat) ≤ sz z + 1 := by
  have := szn_one
  simp only [szR, Rat.num_intCast, Rat.den_intCast]; omega

end Cps
