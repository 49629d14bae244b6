/- Plain law of the reference's texts. -/
import Derived.Test.YtklnjhlidfclmaaGreatDoorRefL
import Derived.Laws.Runes
set_option linter.unusedVariables false
set_option linter.unusedSimpArgs false
namespace Cps
open Go Go.RowKit

theorem encode_ascii {n : Int} (h0 : 0 ≤ n) (h : n < 128) : Utf8.encode n = bs [UInt8.ofNat n.toNat] := by
  have hv : Utf8.valid n = true := by simp [Utf8.valid]; omega
  unfold Utf8.encode
  rw [if_pos hv, if_pos (by omega)]
theorem op_r2s {P : Program} {u : World} {a : Act} {d : Option Tmp} {ty src dt : TypeId} {pos : String} {af : Array Edge} {gd : Option (Nat × Bool)} {x : Operand} {k : IntKind} {n : Int} (hx : a.eval x = .int k n) (hs : (P.underlying src).isSome = true) (hd : P.underlying dt = some .string) (h0 : 0 ≤ n) (h : n < 128) :
    (execOp a.eval ⟨d, .convert src dt x, ty, pos, af, gd⟩).run P u = .ok (.value (.string (bs [UInt8.ofNat n.toNat]))) u := by
  have hr := run_convert_int_string (P := P) u src dt k n hs hd
  rw [encode_ascii h0 h] at hr
  simp only [execOp, hx, Sem.run_bind, Sem.run_pure, Result.andThen, hr]
theorem wrap_i32 {a b : Int} (e : a = b) (h1 : -2147483648 ≤ b) (h2 : b ≤ 2147483647) : Value.int .i32 (IntKind.wrap .i32 a) = .int .i32 b := by
  subst e; congr 1; simp only [IntKind.wrap, IntKind.bits, IntKind.signed]; simp; omega

/-- Group i. -/
def gd (x i : Nat) : Nat := x / 10000 ^ i % 10000
theorem gd_int (x i : Nat) : (gp x).getD i 0 = ((gd x i : Nat) : Int) := by
  unfold gd
  induction i generalizing x with
  | zero =>
    rcases Nat.eq_zero_or_pos x with h | h
    · subst h; rw [show gp 0 = [] from digs_zero _]; rfl
    · rw [gp_cons (by omega)]; simp
  | succ i ih =>
    rcases Nat.eq_zero_or_pos x with h | h
    · subst h; rw [show gp 0 = [] from digs_zero _]; simp
    · rw [gp_cons (by omega), List.getD_cons_succ, ih, Nat.div_div_eq_div_mul, Nat.pow_succ, Nat.mul_comm 10000]
theorem pad_front (n k : Nat) : [chr (n / 10 ^ k % 10)] ++ pad k n = pad (k + 1) n := by
  rw [Nat.add_comm k 1, pad_add]; rfl
theorem gd_pad (x i : Nat) : pad 4 (gd x i) ++ pad (4 * i) x = pad (4 * (i + 1)) x := by
  rw [show 4 * (i + 1) = 4 + 4 * i by omega, pad_add]
  have : gd x i = x / 10 ^ (4 * i) % 10 ^ 4 := by unfold gd; rw [Nat.pow_mul]
  rw [this, pad_mod]
theorem dec_pad (n m : Nat) (h : n / 10 ^ m ≠ 0) : dec n = dec (n / 10 ^ m) ++ pad m n := by
  induction m generalizing n with
  | zero => simp [pad]
  | succ m ih =>
    have h1 : n / 10 / 10 ^ m ≠ 0 := by rwa [Nat.div_div_eq_div_mul, Nat.mul_comm, ← Nat.pow_succ]
    have h2 : ¬ n < 10 := by
      intro h3; apply h
      rw [Nat.div_eq_of_lt]
      exact Nat.lt_of_lt_of_le h3 (by rw [Nat.pow_succ]; exact Nat.le_mul_of_pos_left _ (Nat.pow_pos (by decide)))
    rw [dec.eq_def n, dif_neg h2, ih _ h1, Nat.div_div_eq_div_mul, Nat.mul_comm 10, ← Nat.pow_succ, pad, List.append_assoc]
theorem dec_of_pad {k n : Nat} (h : n < 10 ^ k) (h1 : k = 0 ∨ n / 10 ^ (k - 1) ≠ 0) (hk : 0 < k) : pad k n = dec n := by
  induction k generalizing n with
  | zero => omega
  | succ k ih =>
    rcases Nat.eq_zero_or_pos k with h0 | h0
    · subst h0
      simp only [Nat.zero_add, Nat.pow_one] at h
      rw [dec, dif_pos h]; simp only [pad, List.nil_append]; rw [Nat.mod_eq_of_lt h]
    · have h2 : n / 10 ^ k ≠ 0 := by rcases h1 with h1 | h1; omega; simpa using h1
      rw [dec_pad n k h2, ← pad_front]
      congr 1
      have h3 : n / 10 ^ k < 10 := Nat.div_lt_of_lt_mul (by rw [Nat.pow_succ] at h; exact h)
      rw [dec, dif_pos h3, Nat.mod_eq_of_lt h3]
theorem ztext_last {x i n k : Nat} (hn : (gp x).length = n) (hi : i + 1 = n) (hk : gd x i / 10 ^ k = 0) (h1 : k = 0 ∨ gd x i / 10 ^ (k - 1) ≠ 0) : pad k (gd x i) ++ pad (4 * i) x = dec x := by
  have hlt : x < 10000 ^ n := by rw [← hn]; exact lt_pow_digs (b := 10000) (by omega) x
  have hg : gd x i = x / 10 ^ (4 * i) := by
    unfold gd
    rw [show (10000 : Nat) = 10 ^ 4 by decide, ← Nat.pow_mul, Nat.mod_eq_of_lt]
    rw [← hi, show (10000 : Nat) = 10 ^ 4 by decide, ← Nat.pow_mul, Nat.mul_succ, Nat.pow_add] at hlt
    exact Nat.div_lt_of_lt_mul hlt
  have h0 : gd x i ≠ 0 := by
    intro h
    rw [hg] at h
    have h2 : x < 10 ^ (4 * i) := by
      rcases Nat.lt_or_ge x (10 ^ (4 * i)) with h2 | h2
      · exact h2
      · have := Nat.div_pos h2 (Nat.pow_pos (by decide)); omega
    have h3 : (gp x).length ≤ i := digs_length_le (by omega) i x (by rw [show (10000 : Nat) = 10 ^ 4 by decide, ← Nat.pow_mul]; exact h2)
    omega
  have hk2 : gd x i < 10 ^ k := by
    rcases Nat.lt_or_ge (gd x i) (10 ^ k) with h2 | h2
    · exact h2
    · have := Nat.div_pos h2 (Nat.pow_pos (by decide)); omega
  have hk0 : 0 < k := by
    rcases Nat.eq_zero_or_pos k with h | h
    · subst h; simp at hk2; omega
    · exact h
  rw [dec_of_pad hk2 h1 hk0, dec_pad x (4 * i) (by rw [← hg]; exact h0), hg]
theorem ztext_next {x i n k : Nat} {q o : List UInt8} (hn : (gp x).length = n) (hi : i < n) (hq : q = pad k (gd x i) ++ o) (ho : o = pad (4 * i) x) (hz : i + 1 = n → k = 0 ∨ gd x i / 10 ^ (k - 1) ≠ 0) (hk : k ≤ 4) (hend : k = 4 ∨ (gd x i / 10 ^ k = 0 ∧ i + 1 = n)) : (i + 1 < n → q = pad (4 * (i + 1)) x) ∧ (i + 1 = n → q = dec x) := by
  subst hq ho
  refine ⟨fun h => ?_, fun h => ?_⟩
  · rcases hend with h1 | ⟨_, h1⟩
    · rw [h1]; exact gd_pad x i
    · omega
  · refine ztext_last hn h ?_ (hz h)
    rcases hend with h1 | ⟨h1, _⟩
    · rw [h1]; unfold gd; rw [Nat.div_eq_of_lt]; exact Nat.mod_lt _ (by decide)
    · exact h1
/-! ### a small multiple; the value of a small integer; absolute value; equal texts -/
theorem times_prod {g k : Int} (hg : 0 ≤ g ∧ g < 10000) (hk : 0 ≤ k ∧ k ≤ 10000) : 0 ≤ g * k ∧ g * k ≤ 99990000 := by
  refine ⟨Int.mul_nonneg hg.1 hk.1, ?_⟩
  have := Int.mul_le_mul (show g ≤ 9999 by omega) hk.2 hk.1 (by omega)
  omega
theorem times_stepR {M : List Int} {i x : Nat} {k : Int} (hl : i < M.length) (hx : i < (gp x).length) (hz : M.getD i 0 = 0) (h : val 10000 M = val 10000 ((gp x).take i) * k) :
    val 10000 (M.set i ((gp x).getD i 0 * k)) = val 10000 ((gp x).take (i + 1)) * k := by
  rw [set_valR hl, hz, h, take_nextR hx]
  grind
theorem times_zero {M : List Int} {i : Nat} {v : Int} (hl : i < M.length) (h : ∀ j, i ≤ j → M.getD j 0 = 0) : ∀ j, i + 1 ≤ j → (M.set i v).getD j 0 = 0 := fun j hj => by
  rw [set_get _ hl, if_neg (by omega)]; exact h j (by omega)
theorem sign_nat (a : Int) {s k : Int} (hs : s = a.sign) (hk : 0 ≤ k) : s * ((a.natAbs * k.toNat : Nat) : Int) = a * k := by
  have e : (k.toNat : Int) = k := by omega
  rw [Int.natCast_mul, e, hs, ← Int.mul_assoc, Int.sign_mul_natAbs]
theorem NZk.absv {X : Nat → Prop} {w : World} {s : Int} {A : Option Addr} {n c : Nat} {z : Int} (h : NZk.R X w [.int .i64 s, .slice A n c] z) : NZk.R X w [.int .i64 (s * s), .slice A n c] ((z.natAbs : Nat) : Int) :=
  ⟨⟨by rw [Int.natAbs_natCast]; exact h.1.row, by
    rw [h.1.sign]
    rcases sign_cases z with ⟨h1, h2⟩ | ⟨h1, h2⟩ | ⟨h1, h2⟩
    · rw [h1, Int.sign_natCast_of_ne_zero (by omega)]; rfl
    · rw [h1, Int.sign_natCast_of_ne_zero (by omega)]; rfl
    · subst h2; rfl⟩, h.2⟩
theorem decZ_inj (a b : Int) : decide (decZ a = decZ b) = decide (a = b) := by
  rw [Bool.eq_iff_iff, decide_eq_true_iff, decide_eq_true_iff]
  refine ⟨fun h => ?_, fun h => by rw [h]⟩
  have hd : ∀ n : Nat, (dec n).head? ≠ some 45 := by
    intro n
    induction n using dec.induct with
    | case1 n h =>
      rw [dec, dif_pos h]; intro e
      have := congrArg UInt8.toNat (Option.some.inj e); rw [chr_val h] at this; simp at this; omega
    | case2 n h ih =>
      rw [dec, dif_neg h, List.head?_append]
      intro e
      cases hh : (dec (n / 10)).head? with
      | none => exact dec_ne _ (List.head?_eq_none_iff.1 hh)
      | some c => rw [hh] at e; exact ih (by rw [hh]; exact e)
  unfold decZ at h
  split at h <;> split at h
  · have := dec_inj (List.append_cancel_left h); omega
  · exact absurd (by rw [← h]; rfl) (hd b.natAbs)
  · exact absurd (by rw [h]; rfl) (hd a.natAbs)
  · have := dec_inj h; omega
theorem value_step {a s n i : Int} (hs : s = a.sign) (ha : -9223372036854775808 ≤ a ∧ a ≤ 9223372036854775807) (hi : 0 ≤ i) (hn : n = s * ((a.natAbs / 10000 ^ (i + 1).toNat : Nat) : Int)) :
    (-9223372036854775808 ≤ n * 10000 ∧ n * 10000 ≤ 9223372036854775807) ∧ (-9999 ≤ s * (gp a.natAbs).getD i.toNat 0 ∧ s * (gp a.natAbs).getD i.toNat 0 ≤ 9999) ∧ n * 10000 + s * (gp a.natAbs).getD i.toNat 0 = s * ((a.natAbs / 10000 ^ (i - 1 + 1).toNat : Nat) : Int) ∧ -9223372036854775808 ≤ n * 10000 + s * (gp a.natAbs).getD i.toNat 0 ∧ n * 10000 + s * (gp a.natAbs).getD i.toNat 0 ≤ 9223372036854775807 := by
  rw [gd_int]
  unfold gd
  rw [show (i + 1).toNat = i.toNat + 1 by omega, Nat.pow_succ, ← Nat.div_div_eq_div_mul] at hn
  rw [show (i - 1 + 1).toNat = i.toNat by omega]
  have hle : a.natAbs / 10000 ^ i.toNat ≤ a.natAbs := Nat.div_le_self _ _
  generalize a.natAbs / 10000 ^ i.toNat = q at *
  subst hn
  rcases sign_cases a with ⟨h1, h2⟩ | ⟨h1, h2⟩ | ⟨h1, h2⟩ <;> rw [hs, h1] <;> omega
theorem value_start {a : Int} {n1 : Nat} (h : (gp a.natAbs).length = n1) (s : Int) : (0 : Int) = s * ((a.natAbs / 10000 ^ ((n1 : Int) - 1 + 1).toNat : Nat) : Int) := by
  have hlt : a.natAbs < 10000 ^ n1 := by rw [← h]; exact lt_pow_digs (b := 10000) (by omega) a.natAbs
  rw [show ((n1 : Int) - 1 + 1).toNat = n1 by omega, Nat.div_eq_of_lt hlt]; simp
theorem value_end {a s n i : Int} (hs : s = a.sign) (hi : i = -1) (hn : n = s * ((a.natAbs / 10000 ^ (i + 1).toNat : Nat) : Int)) : n = a := by
  subst hi
  rw [hn, show (-1 + 1 : Int).toNat = 0 from rfl, Nat.pow_zero, Nat.div_one, hs, Int.sign_mul_natAbs]
theorem decZ_lenN (a : Int) : (decZ a).length ≤ 4 * szg a + 2 := by
  have h : a.natAbs < 10 ^ (4 * szg a + 1) := by
    have h1 := szg_lt a
    rw [show (10000 : Nat) = 10 ^ 4 by decide, ← Nat.pow_mul] at h1
    exact Nat.lt_of_lt_of_le h1 (Nat.pow_le_pow_right (by decide) (by omega))
  have h2 := dec_len (by omega) h
  unfold decZ; split
  · simp only [List.length_append, List.length_singleton]; omega
  · omega
theorem decZ_sign {a s : Int} (hs : s = a.sign) : (s < 0 → [45] ++ dec a.natAbs = decZ a) ∧ (¬ s < 0 → dec a.natAbs = decZ a) ∧ (s = 0 → [48] = decZ a) := by
  have h := sign_neg_iff a
  rw [← hs] at h
  refine ⟨fun h1 => ?_, fun h1 => ?_, fun h1 => ?_⟩
  · unfold decZ; rw [if_pos (h.1 h1)]
  · unfold decZ; rw [if_neg (fun h2 => h1 (h.2 h2))]
  · have : a = 0 := by rw [hs] at h1; exact Int.sign_eq_zero_iff_zero.1 h1
    subst this; rw [decZ, if_neg (by decide), dec_small (by decide)]; rfl
end Cps
