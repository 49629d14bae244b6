/- Plain law of the reference's greatest divisor and ratios; texts of ratios told apart. -/
import Derived.Test.YtklnjhlidfclmaaGreatDoorRefQ
set_option linter.unusedVariables false
set_option linter.unusedSimpArgs false
namespace Cps
open Go Go.RowKit

/-! ### the greatest divisor -/
theorem szg_nat (n : Nat) : szg (n : Int) = (gp n).length := by simp [szg]
theorem szg_zero : szg 0 = 0 := by simp [szg, gp, digs_zero]
theorem szg_gcd (a b : Int) : szg (Int.gcd a b : Int) ≤ szg a + szg b := by
  by_cases h : b = 0
  · subst h; rw [Int.gcd_zero_right]; rw [szg_abs]; omega
  · refine Nat.le_trans (szg_mono (b := b) ?_) (Nat.le_add_left _ _)
    rw [Int.natAbs_natCast]
    exact Nat.le_of_dvd (by omega) (by simpa using Int.gcd_dvd_natAbs_right a b)
theorem szg_quo (a d : Int) : szg (a / d) ≤ szg a := szg_mono (Int.natAbs_ediv_le_natAbs a d)
theorem szg_rem (a d : Int) (h : d ≠ 0) : szg (a % d) ≤ szg d := szg_mono (by have := Int.emod_nonneg a h; have := Int.emod_lt a h; omega)
theorem szg_rem2 (a d : Int) : szg (a % d) ≤ szg a + szg d := by
  by_cases h : d = 0
  · subst h; rw [Int.emod_zero]; omega
  · have := szg_rem a d h; omega
theorem ng_nz {q s : Int} (hs : s = q.sign) (h : s ≠ 0) : q ≠ 0 := by intro e; apply h; rw [hs, e]; rfl
theorem ng_z {q s : Int} (hs : s = q.sign) (h : ¬ s ≠ 0) : q = 0 := by
  rcases sign_cases q with ⟨h1, _⟩ | ⟨h1, _⟩ | ⟨_, h1⟩
  · omega
  · omega
  · exact h1
theorem ng_lt {p q : Int} (hp : 0 ≤ p) (hq : 0 ≤ q) (h : q ≠ 0) : (p % q).natAbs < q.natAbs ∧ 0 ≤ p % q := by
  have := Int.emod_nonneg p h; have := Int.emod_lt p h; omega
theorem ng_step {p q : Int} (hp : 0 ≤ p) (hq : 0 ≤ q) : Int.gcd q (p % q) = Int.gcd p q := by
  have e : (p % q).natAbs = p.natAbs % q.natAbs := by
    obtain ⟨m, rfl⟩ := Int.eq_ofNat_of_zero_le hp
    obtain ⟨n, rfl⟩ := Int.eq_ofNat_of_zero_le hq
    rfl
  show Nat.gcd q.natAbs (p % q).natAbs = Nat.gcd p.natAbs q.natAbs
  rw [e, Nat.gcd_comm p.natAbs, Nat.gcd_rec q.natAbs p.natAbs, Nat.gcd_comm]
theorem ng_small {z : Int} (h0 : 0 ≤ z) (h : szg z ≤ 4) : z ≤ 9999999999999999 := by
  have h1 := szg_lt z
  have h2 : (10000 : Nat) ^ szg z ≤ 10000 ^ 4 := Nat.pow_le_pow_right (by decide) h
  omega
theorem ng_done {p q a b : Int} (hG : Int.gcd p q = Int.gcd a b) (hq : q = 0) (hp : 0 ≤ p) : p = (Int.gcd a b : Int) := by
  subst hq
  rw [← hG, Int.gcd_zero_right]; omega

/-! ### ratios -/
section
variable {X : Nat → Prop} {w : World} {A B : Option Addr} {n k c d : Nat} {s t : Int} {r : Rat}
theorem NRk.bot (h : NRk.R X w [.int .i64 s, .slice A n c, .int .i64 t, .slice B k d] r) (ht : ¬ t = 0) : NZk.R X w [.int .i64 t, .slice B k d] (r.den : Int) := by
  obtain ⟨_, q, h2, h3⟩ := h
  rcases h3 with h3 | ⟨h3, _⟩
  · rw [← h3]; exact h2
  · exact absurd (by rw [NZk.sgn h2, h3]; rfl) ht
theorem NRk.one (h : NRk.R X w [.int .i64 s, .slice A n c, .int .i64 t, .slice B k d] r) (ht : t = 0) : (1 : Int) = (r.den : Int) := by
  obtain ⟨_, q, h2, h3⟩ := h
  have h4 : q = 0 := ng_z (NZk.sgn h2) (by omega)
  rcases h3 with h3 | ⟨_, h3⟩
  · have := den_pos r; omega
  · rw [h3]; rfl
theorem NRk.whole {z : Int} (h : NZk.R X w [.int .i64 s, .slice A n c] z) (h' : NZk.R X w [.int .i64 t, .slice B k d] 1) : NRk.R X w [.int .i64 s, .slice A n c, .int .i64 t, .slice B k d] (z : Rat) :=
  NRk.of (by rw [Rat.num_intCast]; exact h) (by rw [Rat.den_intCast]; exact h')
theorem NRk.ofs {m e : Int} (h : NZk.R X w [.int .i64 s, .slice A n c] m) (h' : NZk.R X w [.int .i64 t, .slice B k d] e) (h1 : m = r.num) (h2 : e = (r.den : Int)) : NRk.R X w [.int .i64 s, .slice A n c, .int .i64 t, .slice B k d] r := NRk.of (h1 ▸ h) (h2 ▸ h')
end
def szgR (r : Rat) : Nat := max (szg r.num) (szg (r.den : Int))
theorem szgR_num (r : Rat) : szg r.num ≤ szgR r := Nat.le_max_left _ _
theorem szgR_den (r : Rat) : szg (r.den : Int) ≤ szgR r := Nat.le_max_right _ _
theorem szgR_divInt (n d : Int) (hd : d ≠ 0) : szgR (Rat.divInt n d) ≤ max (szg n) (szg d) := by
  have h1 : szg (Rat.divInt n d).num ≤ szg n := by
    rw [← ratio_num n d hd _ rfl]; exact szg_quo _ _
  have h2 : szg ((Rat.divInt n d).den : Int) ≤ szg d := by
    rw [← ratio_den n d hd _ rfl, szg_abs]; exact szg_quo _ _
  unfold szgR
  omega
theorem szgR_divInt2 (n d : Int) : szgR (Rat.divInt n d) ≤ max (szg n) (szg d) + 1 := by
  by_cases hd : d = 0
  · have h1 : szg ((1 : Nat) : Int) ≤ 1 := szg_le (by decide)
    have h2 : szgR (Rat.divInt n d) = max (szg 0) (szg ((1 : Nat) : Int)) := by subst hd; rw [Rat.divInt_zero]; rfl
    rw [h2, szg_zero]; omega
  · have := szgR_divInt n d hd; omega
theorem szR_divInt2 (n d : Int) : szR (Rat.divInt n d) ≤ max (sz n) (sz d) + 1 := by
  by_cases hd : d = 0
  · have h1 := szn_one
    have h2 : szR (Rat.divInt n d) = max (sz 0) (szn 1) := by subst hd; rw [Rat.divInt_zero]; rfl
    rw [h2, sz_zero]; omega
  · have := szR_divInt n d hd; omega
theorem szgR_neg (a : Rat) : szgR (-a) = szgR a := by simp [szgR, Rat.neg_num, Rat.neg_den, szg_neg]
theorem szgR_abs (a : Rat) : szgR a.abs = szgR a := by simp [szgR, RatFacts.abs_num, RatFacts.abs_den, szg_abs]
theorem szgR_add (a b : Rat) : szgR (a + b) ≤ szgR a + szgR b + 1 := by
  rw [← RatFacts.add]
  have h := szgR_divInt (a.num * (b.den : Int) + b.num * (a.den : Int)) ((a.den : Int) * (b.den : Int)) (RatFacts.den2 a b)
  have h1 := szg_add (a.num * (b.den : Int)) (b.num * (a.den : Int))
  have h2 := szg_mul a.num (b.den : Int)
  have h3 := szg_mul b.num (a.den : Int)
  have h4 := szg_mul (a.den : Int) (b.den : Int)
  have := szgR_num a
  have := szgR_num b
  have := szgR_den a
  have := szgR_den b
  omega
theorem szgR_sub (a b : Rat) : szgR (a - b) ≤ szgR a + szgR b + 1 := by
  rw [Rat.sub_eq_add_neg]
  have := szgR_add a (-b)
  rwa [szgR_neg] at this
theorem szgR_mul (a b : Rat) : szgR (a * b) ≤ szgR a + szgR b := by
  rw [← RatFacts.mul]
  have h := szgR_divInt (a.num * b.num) ((a.den : Int) * (b.den : Int)) (RatFacts.den2 a b)
  have h2 := szg_mul a.num b.num
  have h4 := szg_mul (a.den : Int) (b.den : Int)
  have := szgR_num a
  have := szgR_num b
  have := szgR_den a
  have := szgR_den b
  omega
theorem szgR_div (a b : Rat) (hb : b ≠ 0) : szgR (a / b) ≤ szgR a + szgR b := by
  rw [← RatFacts.div a b hb]
  have h := szgR_divInt (a.num * (b.den : Int)) ((a.den : Int) * b.num) (RatFacts.dnum hb)
  have h2 := szg_mul a.num (b.den : Int)
  have h4 := szg_mul (a.den : Int) b.num
  have := szgR_num a
  have := szgR_num b
  have := szgR_den a
  have := szgR_den b
  omega
theorem szgR_int (z : Int) : szgR (z : Rat) ≤ szg z + 1 := by
  have : szg ((1 : Nat) : Int) ≤ 1 := szg_le (by decide)
  simp only [szgR, Rat.num_intCast, Rat.den_intCast]; omega
theorem sz_floor (a : Rat) : sz a.floor ≤ szR a := by
  rw [Rat.floor_def]; exact Nat.le_trans (sz_quo _ _) (szR_num a)
theorem sz_ceil (a : Rat) : sz a.ceil ≤ szR a := by
  rw [← RatFacts.ceil, sz_neg, ← szR_neg]; exact sz_floor _
theorem szg_floor (a : Rat) : szg a.floor ≤ szgR a := by
  rw [Rat.floor_def]; exact Nat.le_trans (szg_quo _ _) (szgR_num a)
theorem szg_ceil (a : Rat) : szg a.ceil ≤ szgR a := by
  rw [← RatFacts.ceil, szg_neg, ← szgR_neg]; exact szg_floor _
theorem nofz_sign {n d : Int} : Rat.divInt (-n) (-d) = Rat.divInt n d := Rat.neg_divInt_neg n d
theorem nofz0 {p q : Int} (hq : 0 < q) : (Int.gcd p q : Int) ≠ 0 := gcd_ne (by omega)
theorem nofz1 {p q : Int} (hq : 0 < q) : p / (Int.gcd p q : Int) = (Rat.divInt p q).num ∧ q / (Int.gcd p q : Int) = ((Rat.divInt p q).den : Int) := by
  have hn : ¬ q < 0 := by omega
  have h1 := ratio_num p q (by omega) _ rfl
  have h2 := ratio_den p q (by omega) _ rfl
  rw [if_neg hn] at h1 h2
  refine ⟨h1, ?_⟩
  have h3 : 0 ≤ q / (Int.gcd p q : Int) := Int.ediv_nonneg (by omega) (by omega)
  omega
theorem nofz2 {p q : Int} (hq : 0 < q) (h : ¬ (Int.gcd p q : Int) > 1) : p = (Rat.divInt p q).num ∧ q = ((Rat.divInt p q).den : Int) := by
  have h0 := nofz0 (p := p) hq
  have h1 : (Int.gcd p q : Int) = 1 := by omega
  have h2 := nofz1 (p := p) hq
  rw [h1, Int.ediv_one, Int.ediv_one] at h2; exact h2
theorem decZ_one : decZ 1 = [49] := by unfold decZ; rw [if_neg (by decide)]; show dec 1 = _; rw [dec, dif_pos (by decide)]; rfl
theorem decZ_is1 (r : Rat) : decide (decZ (r.den : Int) = [49]) = decide (r.den - 1 = 0) := by
  rw [← decZ_one, decZ_inj]
  have := den_pos r
  rw [Bool.eq_iff_iff, decide_eq_true_iff, decide_eq_true_iff]; omega
theorem decR_lenN (a : Rat) : (decR a).length ≤ 8 * szgR a + 30 := by
  have h1 := decZ_lenN a.num
  have h2 := decZ_lenN (a.den : Int)
  have h3 := szgR_num a
  have h4 := szgR_den a
  unfold decR; split
  · omega
  · simp only [List.length_append, List.length_singleton]; omega

/-! ### texts are told apart -/
theorem chr_dg {d : Nat} (h : d < 10) : isDg' (chr d) = true := by
  have h3 : d = 0 ∨ d = 1 ∨ d = 2 ∨ d = 3 ∨ d = 4 ∨ d = 5 ∨ d = 6 ∨ d = 7 ∨ d = 8 ∨ d = 9 := by omega
  rcases h3 with h | h | h | h | h | h | h | h | h | h <;> (subst h; decide)
theorem dec_all (n : Nat) : (dec n).all isDg' = true := by
  induction n using dec.induct with
  | case1 n h => rw [dec, dif_pos h]; simp [chr_dg h]
  | case2 n h ih => rw [dec, dif_neg h, List.all_append, ih]; simp [chr_dg (Nat.mod_lt n (show 0 < 10 by decide))]
theorem dec_head {n : Nat} (h : ¬ n < 10) : ¬ ((dec n).getD 0 0).toNat = 48 := by
  induction n using dec.induct with
  | case1 n h1 => exact absurd h1 h
  | case2 n h1 ih =>
    have hne := dec_ne (n / 10)
    have e : (dec n).getD 0 0 = (dec (n / 10)).getD 0 0 := by
      rw [dec.eq_def n, dif_neg h1]
      cases hd : dec (n / 10) with
      | nil => exact absurd hd hne
      | cons c r => rfl
    rw [e]
    by_cases h2 : n / 10 < 10
    · rw [dec, dif_pos h2]
      show ¬ (chr (n / 10)).toNat = 48
      rw [chr_val h2]; omega
    · exact ih h2
theorem isDs_dec (n : Nat) : isDs (dec n) = true := by
  unfold isDs
  rw [if_neg (dec_ne n), if_pos (dec_all n)]
  by_cases h : n < 10
  · rw [if_pos (by rw [dec, dif_pos h]; rfl)]
  · split
    · rfl
    · simpa using dec_head h
theorem dec_no {c : UInt8} (hc : isDg' c = false) (n : Nat) : c ∉ dec n := fun h => by
  have := List.all_eq_true.1 (dec_all n) c h
  rw [hc] at this; cases this
theorem dec_no45 (n : Nat) : (dec n).head? ≠ some 45 := fun h => dec_no (c := 45) (by decide) n (List.mem_of_mem_head? h)
theorem strip_decZ (a : Int) : strip (decZ a) = dec a.natAbs ∧ ((decZ a).head? = some 45 ↔ a < 0) := by
  unfold decZ strip
  by_cases h : a < 0
  · rw [if_pos h]; simp [h]
  · rw [if_neg h, if_neg (dec_no45 _)]; exact ⟨rfl, fun e => absurd e (dec_no45 _), fun e => absurd e h⟩
theorem parseZ_dec {a : Int} (h : (decZ a).length ≤ 1000) : parseZ (decZ a) = (a, 0) := by
  have h1 := strip_decZ a
  unfold parseZ
  rw [if_neg (by omega), h1.1, if_pos (isDs_dec _), num_dec]
  have : decide ((decZ a).head? = some 45) = decide (a < 0) := by rw [Bool.eq_iff_iff, decide_eq_true_iff, decide_eq_true_iff]; exact h1.2
  rw [this, mk_of rfl]
theorem decZ_no47 (a : Int) : (47 : UInt8) ∉ decZ a := by
  have h := dec_no (c := 47) (by decide) a.natAbs
  unfold decZ
  split
  · simp [h]
  · exact h
theorem drop_nil' {p : UInt8 → Bool} (l : List UInt8) : l.dropWhile p = [] ↔ ∀ c ∈ l, p c = true := by
  induction l with
  | nil => simp
  | cons a l ih =>
    rw [List.dropWhile_cons]
    by_cases h : p a = true
    · rw [if_pos h, ih]; simp [h]
    · rw [if_neg h]; simp [h]
theorem cut_no {s : List UInt8} (h : (47 : UInt8) ∉ s) : cutTop s = s ∧ cutRest s = [] ∧ s.contains 47 = false := by
  have h1 : ∀ c ∈ s, (c != 47) = true := fun c hc => by
    rw [bne_iff_ne]; intro e; subst e; exact h hc
  refine ⟨?_, ?_, by simpa using h⟩
  · unfold cutTop; have := List.takeWhile_append_of_pos (l₂ := []) h1; simpa using this
  · unfold cutRest; rw [(drop_nil' s).2 h1]; rfl
theorem cut_app {s t : List UInt8} (h : (47 : UInt8) ∉ s) : cutTop (s ++ [47] ++ t) = s ∧ cutRest (s ++ [47] ++ t) = t ∧ (s ++ [47] ++ t).contains 47 = true := by
  have h1 : ∀ c ∈ s, (c != 47) = true := fun c hc => by
    rw [bne_iff_ne]; intro e; subst e; exact h hc
  refine ⟨?_, ?_, by simp⟩
  · unfold cutTop; rw [List.append_assoc, List.takeWhile_append_of_pos h1]; simp
  · unfold cutRest; rw [List.append_assoc, List.dropWhile_append_of_pos h1]; simp
theorem decR_cut (r : Rat) : cutTop (decR r) = decZ r.num ∧ (r.den = 1 → (decR r).contains 47 = false) ∧ (r.den ≠ 1 → (decR r).contains 47 = true ∧ cutRest (decR r) = dec r.den) := by
  have h := den_pos r
  unfold decR
  by_cases h1 : r.den = 1
  · rw [if_pos (by omega)]
    have := cut_no (decZ_no47 r.num)
    exact ⟨this.1, fun _ => this.2.2, fun e => absurd h1 e⟩
  · rw [if_neg (by omega)]
    have := cut_app (t := decZ (r.den : Int)) (decZ_no47 r.num)
    refine ⟨this.1, fun e => absurd e h1, fun _ => ⟨this.2.2, ?_⟩⟩
    rw [this.2.1]; unfold decZ; rw [if_neg (by omega)]; rfl
theorem decR_inj (a b : Rat) : decide (decR a = decR b) = decide (a = b) := by
  rw [Bool.eq_iff_iff, decide_eq_true_iff, decide_eq_true_iff]
  refine ⟨fun h => ?_, fun h => by rw [h]⟩
  obtain ⟨a1, a2, a3⟩ := decR_cut a
  obtain ⟨b1, b2, b3⟩ := decR_cut b
  rw [h] at a1 a2 a3
  have hn : a.num = b.num := by
    have e := a1.symm.trans b1
    have := decZ_inj a.num b.num
    rw [decide_eq_true e] at this
    exact of_decide_eq_true this.symm
  have hd : a.den = b.den := by
    by_cases ha : a.den = 1
    · by_cases hb : b.den = 1
      · rw [ha, hb]
      · have := a2 ha; rw [(b3 hb).1] at this; cases this
    · by_cases hb : b.den = 1
      · have := b2 hb; rw [(a3 ha).1] at this; cases this
      · exact dec_inj ((a3 ha).2.symm.trans (b3 hb).2)
  exact Rat.ext hn hd
theorem parseR_dec {a : Rat} (h : (decR a).length ≤ 1000) : parseR (decR a) = (a, 0) := by
  obtain ⟨a1, a2, a3⟩ := decR_cut a
  have hl : (decZ a.num).length ≤ 1000 := by have := cutTop_len (decR a); rw [a1] at this; omega
  have hz : (parseZ (cutTop (decR a))) = (a.num, 0) := by rw [a1]; exact parseZ_dec hl
  by_cases h1 : a.den = 1
  · rw [parseR_int (by omega) (by rw [hz]; simp) (by rw [a2 h1]; simp), hz]
    refine Prod.ext ?_ rfl
    show ((a.num : Int) : Rat) = a
    exact Rat.ext (by rw [Rat.num_intCast]) (by rw [Rat.den_intCast, h1])
  · have h2 := a3 h1
    have hd := den_pos a
    rw [parseR_frac (by omega) (by rw [hz]; simp) h2.1 (by rw [h2.2]; exact isDs_dec _) (by rw [h2.2, num_dec]; omega), hz, h2.2, num_dec]
    refine Prod.ext ?_ rfl
    show Rat.divInt a.num (a.den : Int) = a
    exact Rat.num_divInt_den a

/-! ### the law's ratios -/
def numv (n d : Int) : Rat := Rat.divInt n (if d = 0 then 1 else d)
theorem numv_of {n d e : Int} (h : d = 0 ∧ e = 1 ∨ d ≠ 0 ∧ e = d) : Rat.divInt n e = numv n d := by
  unfold numv
  rcases h with ⟨h, h1⟩ | ⟨h, h1⟩
  · rw [if_pos h, h1]
  · rw [if_neg h, h1]
theorem numv_sz (n d : Int) (hn : -9223372036854775808 ≤ n ∧ n ≤ 9223372036854775807) (hd : -9223372036854775808 ≤ d ∧ d ≤ 9223372036854775807) : szR (numv n d) ≤ 3 ∧ szgR (numv n d) ≤ 5 := by
  unfold numv
  have h0 : (if d = 0 then (1 : Int) else d) ≠ 0 := by split <;> omega
  have h1 : -9223372036854775808 ≤ (if d = 0 then (1 : Int) else d) ∧ (if d = 0 then (1 : Int) else d) ≤ 9223372036854775807 := by split <;> omega
  generalize (if d = 0 then (1 : Int) else d) = e at *
  have h2 := szR_divInt n e h0
  have h3 := szgR_divInt n e h0
  have := sz_i64 n hn
  have := sz_i64 e h1
  have := szg_i64 n hn
  have := szg_i64 e h1
  omega
end Cps
