/- Plain law of the reference's quotient: group by group, each found by halving. -/
import Derived.Test.YtklnjhlidfclmaaGreatDoorRefT
set_option linter.unusedVariables false
set_option linter.unusedSimpArgs false
namespace Cps
open Go Go.RowKit

/-- The rest with the next group behind it. -/
theorem zq_val (r g : Nat) : val 10000 ([(g : Int)] ++ gp r) = ((r * 10000 + g : Nat) : Int) := by
  rw [List.singleton_append, val_cons, gp_val]; omega
theorem zq_bnd (r g : Nat) (hg : g < 10000) : ∀ y, y ∈ ([(g : Int)] ++ gp r) → -1152921504606846976 ≤ y ∧ y ≤ 1152921504606846976 := by
  intro y hy
  rcases List.mem_append.1 hy with h | h
  · simp only [List.mem_singleton] at h; omega
  · have := gp_digs r y h; omega
/-- What the loop knows: Q the quotient so far, r the rest. -/
theorem zq_step {a d Q r low i : Nat} (h : a / 10000 ^ (i + 1) = Q * d + r) : a / 10000 ^ i = (Q * 10000 + low) * d + (r * 10000 + gd a i - low * d) ↔ low * d ≤ r * 10000 + gd a i := by
  have e : a / 10000 ^ i = (a / 10000 ^ (i + 1)) * 10000 + gd a i := by
    unfold gd
    rw [Nat.pow_succ, ← Nat.div_div_eq_div_mul]; omega
  rw [e, h, Nat.add_mul, Nat.add_mul]
  have e2 : Q * d * 10000 = Q * 10000 * d := by rw [Nat.mul_assoc, Nat.mul_comm d, Nat.mul_assoc]
  rw [e2]
  generalize Q * 10000 * d = u
  generalize low * d = v
  generalize r * 10000 = z
  constructor
  · intro h; omega
  · intro h; omega
theorem zq_set {M : List Int} {i Q low : Nat} (hl : i < M.length) (hz : M.getD i 0 = 0) (h : val 10000 M = 10000 ^ (i + 1) * (Q : Int)) : val 10000 (M.set i (low : Int)) = 10000 ^ i * ((Q * 10000 + low : Nat) : Int) := by
  rw [set_valR hl, hz, h, Int.pow_succ, Int.natCast_add, Int.natCast_mul]
  grind
/-- Halving: the bounds stay bounds. -/
theorem zq_half {l h : Nat} (hh : ¬ h - l ≤ 1) (hl : l < h) : l < (l + h) / 2 ∧ (l + h) / 2 < h := by omega
theorem zq_top {r d g : Nat} (hr : r < d) (hg : g < 10000) : r * 10000 + g < 10000 * d := by omega
theorem zq_last {l h d R : Nat} (hh : h = l + 1) (hlo : l * d ≤ R) (hhi : R < h * d) : R - l * d < d := by
  subst hh; rw [Nat.add_mul, Nat.one_mul] at hhi; omega
theorem zq_cmp (d m R : Nat) : cmpN (((d : Nat) : Int) * ((m : Nat) : Int)).natAbs (1 * ((R : Nat) : Int)).natAbs ≤ 0 ↔ m * d ≤ R := by
  have e1 : (((d : Nat) : Int) * ((m : Nat) : Int)).natAbs = m * d := by rw [Int.natAbs_mul, Int.natAbs_natCast, Int.natAbs_natCast, Nat.mul_comm]
  have e2 : (1 * ((R : Nat) : Int)).natAbs = R := by omega
  rw [e1, e2]
  unfold cmpN
  split
  · omega
  · split <;> omega
theorem zq_rest {d l R : Nat} (h : l * d ≤ R) : 1 * ((R : Nat) : Int) - ((d : Nat) : Int) * ((l : Nat) : Int) = ((R - l * d : Nat) : Int) := by
  rw [Int.one_mul, ← Int.natCast_mul, Nat.mul_comm d l]; omega
theorem zq_start {a n : Nat} (h : (gp a).length = n) (d : Nat) : a / 10000 ^ ((n : Int) - 1 + 1).toNat = 0 * d + (0 : Int).natAbs := by
  have hlt : a < 10000 ^ n := by rw [← h]; exact lt_pow_digs (b := 10000) (by omega) a
  rw [show ((n : Int) - 1 + 1).toNat = n by omega, Nat.div_eq_of_lt hlt]; simp
theorem zq_szR {d : Int} {r g : Nat} (hr : r < d.natAbs) (hg : g < 10000) : szg (1 * ((r * 10000 + g : Nat) : Int)) ≤ szg d + 1 := by
  have h := szg_lt d
  apply szg_le
  rw [Nat.pow_succ]
  have : (r + 1) * 10000 ≤ 10000 ^ szg d * 10000 := Nat.mul_le_mul_right _ (by omega)
  omega
theorem zq_next {d : Nat} {l R : Nat} (h : l * d ≤ R) (h2 : R - l * d < d) : 0 ≤ 1 * ((R : Nat) : Int) - ((d : Nat) : Int) * ((l : Nat) : Int) ∧ (1 * ((R : Nat) : Int) - ((d : Nat) : Int) * ((l : Nat) : Int)).natAbs < d := by
  rw [zq_rest h]; omega
theorem zq_A {a d Q l : Nat} {i z : Int} (hA : a / 10000 ^ (i + 1).toNat = Q * d + z.natAbs) (hi : 0 ≤ i) (h : l * d ≤ z.natAbs * 10000 + gd a i.toNat) : a / 10000 ^ (i - 1 + 1).toNat = (Q * 10000 + l) * d + (1 * ((z.natAbs * 10000 + gd a i.toNat : Nat) : Int) - ((d : Nat) : Int) * ((l : Nat) : Int)).natAbs := by
  rw [zq_rest h, Int.natAbs_natCast, show (i - 1 + 1).toNat = i.toNat by omega]
  rw [show (i + 1).toNat = i.toNat + 1 by omega] at hA
  exact (zq_step hA).2 h
theorem zq_V {M : List Int} {i : Int} {Q l : Nat} (hl : i.toNat < M.length) (hz : M.getD i.toNat 0 = 0) (h : val 10000 M = 10000 ^ (i + 1).toNat * (Q : Int)) (hi : 0 ≤ i) : val 10000 (M.set i.toNat (l : Int)) = 10000 ^ (i - 1 + 1).toNat * ((Q * 10000 + l : Nat) : Int) := by
  rw [show (i - 1 + 1).toNat = i.toNat by omega]
  rw [show (i + 1).toNat = i.toNat + 1 by omega] at h
  exact zq_set hl hz h
theorem zq_sgn {a d z s i : Int} {Q : Nat} (hs : s = a.sign) (hA : a.natAbs / 10000 ^ (i + 1).toNat = Q * d.natAbs + z.natAbs) (hd : 0 < d.natAbs) : s = 1 ∨ s = -1 ∨ Q = 0 := by
  rcases sign_cases a with ⟨h, _⟩ | ⟨h, _⟩ | ⟨_, h⟩
  · exact .inl (hs.trans h)
  · exact .inr (.inl (hs.trans h))
  · subst h
    rw [show (0 : Int).natAbs = 0 from rfl, Nat.zero_div] at hA
    rcases Nat.eq_zero_or_pos Q with h | h
    · exact .inr (.inr h)
    · have := Nat.mul_pos h hd; omega
theorem zq_end {a d z i : Int} {Q : Nat} (hi : i = -1) (hA : a.natAbs / 10000 ^ (i + 1).toNat = Q * d.natAbs + z.natAbs) : a.natAbs = Q * d.natAbs + z.natAbs := by
  subst hi
  rw [show (-1 + 1 : Int).toNat = 0 from rfl, Nat.pow_zero, Nat.div_one] at hA; exact hA
theorem zq_szQ {a d z s : Int} {Q : Nat} (hs : s = a.sign) (hd : 0 < d.natAbs) (hA : a.natAbs = Q * d.natAbs + z.natAbs) : szg (s * (Q : Int)) ≤ szg a := by
  apply szg_mono
  have h1 : Q ≤ Q * d.natAbs := Nat.le_mul_of_pos_right _ hd
  rcases sign_cases a with ⟨h, _⟩ | ⟨h, _⟩ | ⟨h, _⟩ <;> rw [hs, h] <;> omega
theorem zq_uniq {a x y : Int} {D : Nat} (hD : 0 < D) (he : (D : Int) * x + y = a) (h0 : 0 ≤ y) (hlt : y < D) : a / (D : Int) = x ∧ a % (D : Int) = y :=
  (Int.ediv_emod_unique (a := a) (b := (D : Int)) (r := y) (q := x) (by omega)).2 ⟨by omega, h0, hlt⟩
theorem zqA {a d z s t so : Int} {Q : Nat} (hd : 0 < d.natAbs) (hs : s = a.sign) (ht : t = d.sign) (ho : so = z.sign) (hz : 0 ≤ z ∧ z.natAbs < d.natAbs) (hA : a.natAbs = Q * d.natAbs + z.natAbs) (h1 : s < 0) (h2 : so ≠ 0) :
    (d.natAbs : Int) - z = a % d ∧ (t < 0 → -(s * (Q : Int) - 1) = a / d) ∧ (¬ t < 0 → s * (Q : Int) - 1 = a / d) := by
  have ha : a < 0 := (sign_neg_iff a).1 (hs ▸ h1)
  have hs1 : s = -1 := by rw [hs, Int.sign_eq_neg_one_of_neg ha]
  have hz0 : z ≠ 0 := by intro h; apply h2; rw [ho, h]; rfl
  rw [quo_sign, mod_sign, ht, sign_neg_iff, hs1]
  have hA' : ((a.natAbs : Nat) : Int) = (Q : Int) * (d.natAbs : Int) + z := by rw [hA]; push_cast; omega
  have := zq_uniq (a := a) (x := -1 * (Q : Int) - 1) (y := (d.natAbs : Int) - z) hd (by
    have e1 : a = -((a.natAbs : Nat) : Int) := by omega
    rw [e1, hA']; grind) (by omega) (by omega)
  rw [this.1, this.2]
  exact ⟨rfl, fun h => by rw [if_pos h], fun h => by rw [if_neg h]⟩
theorem zqB {a d z s t so : Int} {Q : Nat} (hd : 0 < d.natAbs) (hs : s = a.sign) (ht : t = d.sign) (ho : so = z.sign) (hz : 0 ≤ z ∧ z.natAbs < d.natAbs) (hA : a.natAbs = Q * d.natAbs + z.natAbs) (h1 : ¬ s < 0 ∨ ¬ so ≠ 0) :
    z = a % d ∧ (t < 0 → -(s * (Q : Int)) = a / d) ∧ (¬ t < 0 → s * (Q : Int) = a / d) := by
  have hA' : ((a.natAbs : Nat) : Int) = (Q : Int) * (d.natAbs : Int) + z := by rw [hA]; push_cast; omega
  rw [quo_sign, mod_sign, ht, sign_neg_iff]
  have := zq_uniq (a := a) (x := s * (Q : Int)) (y := z) hd (by
    have e1 := Int.sign_mul_natAbs a
    rw [← hs, hA'] at e1
    rcases h1 with h1 | h1
    · rcases sign_cases a with ⟨h, _⟩ | ⟨h, _⟩ | ⟨h, h0⟩
      · rw [hs, h] at *; grind
      · omega
      · subst h0
        have : s = 0 := hs.trans h
        subst this
        have h3 : z = 0 := by
          have h4 : (0 : Int) ≤ (Q : Int) * (d.natAbs : Int) := Int.mul_nonneg (by omega) (by omega)
          have h5 : (((0 : Int).natAbs : Nat) : Int) = 0 := rfl
          omega
        rw [h3]; simp
    · have h3 : z = 0 := by
        rcases sign_cases z with ⟨h, _⟩ | ⟨h, _⟩ | ⟨_, h⟩
        · omega
        · omega
        · exact h
      subst h3; grind) (by omega) (by omega)
  rw [this.1, this.2]
  exact ⟨rfl, fun h => by rw [if_pos h], fun h => by rw [if_neg h]⟩
/-! ### decimal digits -/
theorem dgs_is {c : UInt8} (h1 : ¬ ((c.toNat : Nat) : Int) < 48) (h2 : ¬ ((c.toNat : Nat) : Int) > 57) : isDg' c = true := by
  have h : c = UInt8.ofNat c.toNat := by simp
  have h3 : c.toNat = 48 ∨ c.toNat = 49 ∨ c.toNat = 50 ∨ c.toNat = 51 ∨ c.toNat = 52 ∨ c.toNat = 53 ∨ c.toNat = 54 ∨ c.toNat = 55 ∨ c.toNat = 56 ∨ c.toNat = 57 := by omega
  rcases h3 with h3 | h3 | h3 | h3 | h3 | h3 | h3 | h3 | h3 | h3 <;> (rw [h, h3]; decide)
theorem dgs_step {s : List UInt8} {i : Nat} (hi : i < s.length) (h : (s.take i).all isDg' = true) (h1 : ¬ (((s.getD i 0).toNat : Nat) : Int) < 48) (h2 : ¬ (((s.getD i 0).toNat : Nat) : Int) > 57) : (s.take (i + 1)).all isDg' = true := by
  have e : s.getD i 0 = s[i] := by rw [List.getD_eq_getElem?_getD, List.getElem?_eq_getElem hi]; rfl
  rw [e] at h1 h2
  rw [List.take_succ_eq_append_getElem hi, List.all_append, h]; simp [dgs_is h1 h2]
theorem dgs_bad {s : List UInt8} {i : Nat} (hi : i < s.length) (h : (((s.getD i 0).toNat : Nat) : Int) < 48 ∨ (((s.getD i 0).toNat : Nat) : Int) > 57) : false = isDs s := by
  have hne : s ≠ [] := by intro h; subst h; simp at hi
  refine isDs_bad hne fun hall => ?_
  have := dg_range hall hi; omega
theorem strip_minus {s : List UInt8} (h : (((s.getD 0 0).toNat : Nat) : Int) = 45) : s.drop 1 = strip s := by
  unfold strip
  match s, h with
  | [], h => rfl
  | c :: r, h =>
    have h3 : c.toNat = 45 := Int.ofNat.inj h
    have h4 : c = UInt8.ofNat c.toNat := by simp
    rw [if_pos (by rw [List.head?_cons, h4, h3]; rfl)]
theorem strip_none {s : List UInt8} (h : s = [] ∨ ¬ (((s.getD 0 0).toNat : Nat) : Int) = 45) : s = strip s := by
  unfold strip
  match s, h with
  | [], h => rfl
  | c :: r, h =>
    rw [if_neg]
    intro e
    rcases h with h | h
    · cases h
    · apply h; rw [List.head?_cons] at e; rw [show (c :: r).getD 0 0 = c from rfl, Option.some.inj e]; rfl
theorem dgs_end {s : List UInt8} (hall : s.all isDg' = true) (h1 : ¬ s = [48]) (h2 : ¬ s = []) : ((((s.getD 0 0).toNat : Nat) : Int) != (48 : Int)) = isDs s := by
  by_cases hl : s.length = 1
  · have ht := isDs_one h2 hall hl
    rw [← ht]
    match s, hl with
    | [c], _ =>
      rw [bne_iff_ne]
      intro h
      apply h1
      have h3 : c.toNat = 48 := Int.ofNat.inj h
      have h4 : c = UInt8.ofNat c.toNat := by simp
      rw [h4, h3]; rfl
  · exact isDs_more h2 hall hl
end Cps
