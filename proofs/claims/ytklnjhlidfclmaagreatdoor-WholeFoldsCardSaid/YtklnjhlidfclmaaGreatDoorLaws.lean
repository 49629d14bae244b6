/- Plain law of the statements of chapter 1: how ratios compare; texts of numbers. -/
import Derived.Test.YtklnjhlidfclmaaGreatDoorRefR
set_option linter.unusedVariables false
set_option linter.unusedSimpArgs false
namespace Cps
open Go Go.RowKit

theorem rc_val (a b : Rat) : (a.num * (b.den : Int) - b.num * (a.den : Int)).sign = if a < b then -1 else if b < a then 1 else 0 := by
  have h1 := Rat.lt_iff a b
  have h2 := Rat.lt_iff b a
  split
  · rename_i h; exact Int.sign_eq_neg_one_of_neg (by have := h1.1 h; omega)
  · rename_i h
    split
    · rename_i h'; exact Int.sign_eq_one_of_pos (by have := h2.1 h'; omega)
    · rename_i h'
      have e1 : ¬ a.num * (b.den : Int) < b.num * (a.den : Int) := fun e => h (h1.2 e)
      have e2 : ¬ b.num * (a.den : Int) < a.num * (b.den : Int) := fun e => h' (h2.2 e)
      rw [show a.num * (b.den : Int) - b.num * (a.den : Int) = 0 by omega]; rfl
theorem rat_irr (a : Rat) : ¬ a < a := by rw [Rat.lt_iff]; omega
theorem rat_tri {a b : Rat} (h1 : ¬ a < b) (h2 : ¬ b < a) : a = b := Rat.le_antisymm (Rat.not_lt.1 h2) (Rat.not_lt.1 h1)
theorem rc_is (a b : Rat) : ((a.num * (b.den : Int) - b.num * (a.den : Int)).sign == (0 : Int)) = decide (a = b) := by
  rw [rc_val, Bool.eq_iff_iff, beq_iff_eq, decide_eq_true_iff]
  split
  · rename_i h; exact ⟨fun e => by omega, fun e => by subst e; exact absurd h (rat_irr _)⟩
  · rename_i h
    split
    · rename_i h'; exact ⟨fun e => by omega, fun e => by subst e; exact absurd h' (rat_irr _)⟩
    · rename_i h'; exact ⟨fun _ => rat_tri h h', fun _ => rfl⟩
theorem rc_eq {a b : Rat} (h : a = b) : ((a.num * (b.den : Int) - b.num * (a.den : Int)).sign == (0 : Int)) = true := by rw [rc_is]; exact decide_eq_true h
theorem rc_ne {a b : Rat} (h : a = b) : ((a.num * (b.den : Int) - b.num * (a.den : Int)).sign != (0 : Int)) = false := by unfold bne; rw [rc_eq h]; rfl
theorem rc_lt {a b : Rat} (h : a < b) : decide ((a.num * (b.den : Int) - b.num * (a.den : Int)).sign < (0 : Int)) = true := by rw [rc_val, if_pos h]; rfl
theorem rc_le {a b : Rat} (h : a ≤ b) : decide ((a.num * (b.den : Int) - b.num * (a.den : Int)).sign ≤ (0 : Int)) = true := by
  rw [rc_val]
  split
  · rfl
  · rw [if_neg (Rat.not_lt.2 h)]; rfl
theorem rc_same {a b c d : Rat} (h1 : a < b ↔ c < d) (h2 : b < a ↔ d < c) : ((a.num * (b.den : Int) - b.num * (a.den : Int)).sign != (c.num * (d.den : Int) - d.num * (c.den : Int)).sign) = false := by
  rw [rc_val, rc_val]; simp only [h1, h2, bne_self_eq_false]
theorem rc_add (a b c : Rat) : ((a.num * (b.den : Int) - b.num * (a.den : Int)).sign != ((a + c).num * ((b + c).den : Int) - (b + c).num * ((a + c).den : Int)).sign) = false := rc_same (by constructor <;> intro h <;> grind) (by constructor <;> intro h <;> grind)
theorem rc_anti (a b : Rat) : ((a.num * (b.den : Int) - b.num * (a.den : Int)).sign != -(b.num * (a.den : Int) - a.num * (b.den : Int)).sign) = false := by
  rw [← Int.sign_neg, Int.neg_sub]; exact bne_self_eq_false _
theorem rsg_ne {a : Rat} (h : a = 0) : (a.num.sign != (0 : Int)) = false := by subst h; rfl
theorem rsg_eq {a : Rat} (h : a = 0) : (a.num.sign == (0 : Int)) = true := by subst h; rfl
theorem rsg_nz {a : Rat} (h : a ≠ 0) : (a.num.sign != (0 : Int)) = true := by
  rw [bne_iff_ne]; intro e; exact h (Rat.num_eq_zero.1 (Int.sign_eq_zero_iff_zero.1 e))
theorem rsg_neq {a : Rat} (h : a ≠ 0) : (a.num.sign == (0 : Int)) = false := by
  have := rsg_nz h; unfold bne at this; simpa using this
theorem sgn_bd (x : Int) : -1 ≤ x.sign ∧ x.sign ≤ 1 := by
  rcases sign_cases x with ⟨h, _⟩ | ⟨h, _⟩ | ⟨h, _⟩ <;> omega
theorem tx_eqZ (a b : Int) : (((a - b).sign == (0 : Int)) == decide (decZ a = decZ b)) = true := by
  rw [decZ_inj, beq_iff_eq, Bool.eq_iff_iff, beq_iff_eq, decide_eq_true_iff, Int.sign_eq_zero_iff_zero]; omega
theorem tx_eqR (a b : Rat) : (((a.num * (b.den : Int) - b.num * (a.den : Int)).sign == (0 : Int)) == decide (decR a = decR b)) = true := by
  rw [decR_inj, rc_is]; exact beq_self_eq_true _
theorem gcd_low (r : Rat) : (((Int.gcd r.num (r.den : Int) : Int) - 1).sign == (0 : Int)) = true := sgn_eq (by
  have : Int.gcd r.num (r.den : Int) = 1 := r.reduced
  omega)
theorem den_sgn (r : Rat) : decide ((r.den : Int).sign > (0 : Int)) = true := decide_eq_true ((sign_pos_iff _).2 (by have := den_pos r; omega))
theorem szR_dot (a b c d : Rat) : szR (a * b + c * d) ≤ szR a + szR b + (szR c + szR d) + 1 := by
  have := szR_add (a * b) (c * d); have := szR_mul a b; have := szR_mul c d; omega
theorem szR_cross (a b c d : Rat) : szR (a * b - c * d) ≤ szR a + szR b + (szR c + szR d) + 1 := by
  have := szR_sub (a * b) (c * d); have := szR_mul a b; have := szR_mul c d; omega
theorem szgR_dot (a b c d : Rat) : szgR (a * b + c * d) ≤ szgR a + szgR b + (szgR c + szgR d) + 1 := by
  have := szgR_add (a * b) (c * d); have := szgR_mul a b; have := szgR_mul c d; omega
theorem szgR_cross (a b c d : Rat) : szgR (a * b - c * d) ≤ szgR a + szgR b + (szgR c + szgR d) + 1 := by
  have := szgR_sub (a * b) (c * d); have := szgR_mul a b; have := szgR_mul c d; omega
theorem fl_up (a : Rat) : a < (a.floor : Rat) + ((1 : Int) : Rat) := by
  have := Rat.lt_floor_add_one a
  rwa [Rat.intCast_add] at this
theorem fl_ceil (a : Rat) : a.ceil - -(-a).floor = 0 := by
  have h : a.ceil = -(-a).floor := (RatFacts.ceil a).symm
  omega
theorem sg_zero : ((0 : Int).sign == (0 : Int)) = true := rfl
end Cps
