/- Plain law of the reference's groups of four digits, and slices of int: out of XLeaf (mkref.py), then by hand. -/
import Derived.Test.YtklnjhlidfclmaaGreatDoorAwake
set_option linter.unusedVariables false
set_option linter.unusedSimpArgs false
namespace Cps
open Go Go.RowKit
theorem gp_digs (x : Nat) : Digs 10000 (gp x) := digs_digs (b := 10000) (by omega) x
theorem gp_val (x : Nat) : val 10000 (gp x) = x := val_digs (b := 10000) (by omega) x
theorem gp_get (x j : Nat) : 0 ≤ (gp x).getD j 0 ∧ (gp x).getD j 0 < 10000 := by
  rw [List.getD_eq_getElem?_getD]
  by_cases h : j < (gp x).length
  · rw [List.getElem?_eq_getElem h]; exact (gp_digs x).get j h
  · rw [List.getElem?_eq_none (by omega)]; exact ⟨Int.le_refl _, by decide⟩
section
variable {x y : Nat}
theorem len_ltR (h : (gp x).length < (gp y).length) : x < y := length_lt_val (by omega) h
theorem top_ltR (hlen : (gp x).length = (gp y).length) (i : Nat) (hi : i < (gp x).length) (heq : ∀ j, i < j → (gp x).getD j 0 = (gp y).getD j 0) (hlt : (gp x).getD i 0 < (gp y).getD i 0) : x < y := by
  have : val 10000 (gp x) < val 10000 (gp y) := val_lt_of_top (b := 10000) (by omega) (gp_digs x) (gp_digs y) hlen i hi heq hlt
  have h1 := gp_val x
  have h2 := gp_val y
  omega
theorem all_eqR (hlen : (gp x).length = (gp y).length) (heq : ∀ j, (gp x).getD j 0 = (gp y).getD j 0) : x = y := by
  apply digs_inj (b := 10000) (by omega)
  apply List.ext_getElem hlen
  intro j h1 h2
  have := heq j
  rw [List.getD_eq_getElem?_getD, List.getD_eq_getElem?_getD, List.getElem?_eq_getElem h1, List.getElem?_eq_getElem h2] at this
  simpa using this
end
theorem carry_nonnegR {P : List Int} {k : Int} {x : Nat} (hP : Digs 10000 P) (h : val 10000 P + 10000 ^ P.length * k = (x : Int)) : 0 ≤ k := by
  have h1 := val_lt (b := 10000) (by omega) hP
  have hp : (0 : Int) < 10000 ^ P.length := pow_pos' (by omega) _
  rcases Int.lt_or_le k 0 with hk | hk
  · exfalso
    have : (10000 : Int) ^ P.length * k ≤ 10000 ^ P.length * (-1) := Int.mul_le_mul_of_nonneg_left (by omega) (Int.le_of_lt hp)
    omega
  · exact hk
theorem carry_stepR {P : List Int} {k x : Int} (h : val 10000 P + 10000 ^ P.length * k = x) : val 10000 (P ++ [k % 10000]) + 10000 ^ (P ++ [k % 10000]).length * (k / 10000) = x := by
  rw [val_snoc, ← h, List.length_append, List.length_singleton, Int.pow_succ]
  have hd := Int.mul_ediv_add_emod k 10000
  generalize k / 10000 = q at *
  generalize k % 10000 = m at *
  subst hd
  grind
theorem snoc_digsR {P : List Int} (h : Digs 10000 P) (a : Int) : Digs 10000 (P ++ [a % 10000]) := h.snoc (Int.emod_nonneg _ (by omega)) (Int.emod_lt_of_pos _ (by omega))
theorem strip_endR {P : List Int} {n x : Nat} (hn : P.length = n) (hP : Digs 10000 P) (hv : val 10000 P = (x : Int)) (h : n = 0 ∨ P.getD (n - 1) 0 ≠ 0) : P = gp x := by
  refine digs_eq (b := 10000) (by omega) hP ?_ hv
  rw [List.getLast?_eq_getElem?, hn]
  intro e
  rcases h with h | h
  · rw [List.getElem?_eq_none (by omega)] at e; cases e
  · rw [List.getD_eq_getElem?_getD, e] at h; exact h rfl
theorem plus_valR {M : List Int} {i : Nat} {x k : Int} {y : Nat} (hi : i < M.length) (hy : i < (gp y).length) (h : val 10000 M = x + k * val 10000 ((gp y).take i)) :
    val 10000 (M.set i (M.getD i 0 + k * (gp y).getD i 0)) = x + k * val 10000 ((gp y).take (i + 1)) := by
  rw [val_set _ _ _ _ hi, val_take_succ _ _ _ hy, h, List.getD_eq_getElem?_getD, List.getD_eq_getElem?_getD, List.getElem?_eq_getElem hi, List.getElem?_eq_getElem hy]
  simp only [Option.getD_some]
  grind
theorem take_valR (y n : Nat) (h : (gp y).length ≤ n) : val 10000 ((gp y).take n) = (y : Int) := by rw [List.take_of_length_le h, gp_val]
theorem digs_getR {M : List Int} (h : Digs 10000 M) (j : Nat) : 0 ≤ M.getD j 0 ∧ M.getD j 0 ≤ 9999 := by
  rw [List.getD_eq_getElem?_getD]
  by_cases hj : j < M.length
  · rw [List.getElem?_eq_getElem hj]; have := h.get j hj; simp; omega
  · rw [List.getElem?_eq_none (by omega)]; exact ⟨Int.le_refl _, by decide⟩
theorem set_valR {M : List Int} {j : Nat} (h : j < M.length) (v : Int) : val 10000 (M.set j v) = val 10000 M + 10000 ^ j * (v - M.getD j 0) := by
  rw [val_set _ _ _ _ h, List.getD_eq_getElem?_getD, List.getElem?_eq_getElem h]; rfl
theorem take_nextR {y j : Nat} (h : j < (gp y).length) : val 10000 ((gp y).take (j + 1)) = val 10000 ((gp y).take j) + 10000 ^ j * (gp y).getD j 0 := by
  rw [val_take_succ _ _ _ h, List.getD_eq_getElem?_getD, List.getElem?_eq_getElem h]; rfl
theorem gp_cons {n : Nat} (h : n ≠ 0) : gp n = ((n % 10000 : Nat) : Int) :: gp (n / 10000) := digs_pos (by omega) h
theorem gp_pos {x : Nat} (h : x ≠ 0) : 0 < (gp x).length := by
  have := (digs_length_zero (b := 10000) (by omega) x)
  rcases Nat.eq_zero_or_pos (gp x).length with h1 | h1
  · exact absurd (this.1 h1) h
  · exact h1
/-- A slice of int. -/
def SIk : Kd (List Int) where
  R X w cs x := match cs with
    | [.slice A n c] => Row 3 w A n (i64s x) ∧ Avoid X A n
    | _ => False
  st {X X' w w' cs x} h hs hX := by
    split at h
    · exact ⟨h.1.stay h.2 hs, h.2.stay h.1 hX⟩
    · exact h.elim
theorem SIk.row {X : Nat → Prop} {w : World} {A : Option Addr} {n c : Nat} {x : List Int} (h : SIk.R X w [.slice A n c] x) : Row 3 w A n (i64s x) := h.1
theorem SIk.len {X : Nat → Prop} {w : World} {A : Option Addr} {n c : Nat} {x : List Int} (h : SIk.R X w [.slice A n c] x) : x.length = n := by have := h.1.1; simpa [i64s] using this
theorem SIk.le {X : Nat → Prop} {w : World} {A : Option Addr} {n c : Nat} {x : List Int} (h : SIk.R X w [.slice A n c] x) : n ≤ 9223372036854775807 := h.1.2.1
theorem SIk.nil (X : Nat → Prop) (w : World) (A : Option Addr) (c : Nat) : SIk.R X w [.slice A 0 c] [] := ⟨Row.nil _ _ _, Avoid.nil X A⟩
theorem SIk.own {X : Nat → Prop} {w : World} {g n c : Nat} {x : List Int} (h : Own 3 w g n c (i64s x)) (hx : ¬ X g) : SIk.R X w [.slice (some ⟨g, 0, none⟩) n c] x := ⟨h.row, Avoid.own hx⟩
theorem NZk.ownS {X : Nat → Prop} {w : World} {g n c x : Nat} {L : List Int} {s : Int} (h : Own 3 w g n c (i64s L)) (e : L = gp x) (hs : s = 1 ∨ s = -1 ∨ x = 0) (h0 : n ≠ 0) (hx : ¬ X g) : NZk.R X w [.int .i64 s, .slice (some ⟨g, 0, none⟩) n c] (s * (x : Int)) := by
  have hx0 : x ≠ 0 := by
    intro h1; subst h1
    have := h.len; rw [e] at this
    simp [i64s, gp, digs_zero] at this; omega
  refine NZk.own h ?_ ?_ hx
  · rw [e, Int.natAbs_mul]
    rcases hs with rfl | rfl | h
    · simp
    · simp
    · exact absurd h hx0
  · rcases hs with rfl | rfl | h
    · rw [Int.one_mul, Int.sign_natCast_of_ne_zero hx0]
    · rw [Int.neg_mul, Int.one_mul, Int.sign_neg, Int.sign_natCast_of_ne_zero hx0]
    · exact absurd h hx0
theorem op_appnil0 {P : Program} {t e : TypeId} {z : Value} {bytes : Nat} {a : Act} {d : Option Tmp} {ty : TypeId} {pos : String} {af : Array Edge} {gd : Option (Nat × Bool)} (hT : RowT P t e z bytes) {s x : Operand} {m cx : Nat} {A : Option Addr} (hs : a.eval s = .slice none 0 0) (hx : a.eval x = .slice A m cx) (h0 : m = 0) (u : World) :
    (execOp a.eval ⟨d, .call { callee := .builtin .append, args := #[s, x], argTypes := #[t, t] }, ty, pos, af, gd⟩).run P u = .ok (.value (.slice none 0 0)) u := by
  subst h0
  obtain ⟨i, hi, hz, hs', hbb⟩ := hT.info
  have hr : (Builtin.append_ #[t, t] ty #[.slice none 0 0, .slice A 0 cx]).run P u = .ok (.slice none 0 0) u := by
    cases A <;> simp [Builtin.append_, run_underlying hT.und, Go.sizeOf, typeInfo, hi, Builtin.lenOf, Builtin.firstCells, loadCells, loadCellsFrom]
  unfold execOp
  simp only [resolve, invoke, builtin, Sem.run_bind, Sem.run_pure, Result.andThen_ok, List.map_toArray, List.map_cons, List.map_nil, hs, hx, hr]
section
variable {P : Program} {ops : Array Oper} {Q : Exit → Act → World → Prop} {w V : World} {G Xs E G' : List Nat} {X : Nat → Prop} {L L' : List Cell} {F : List Fa} {a : Act} {i : Nat} {l : Tr}
/-- A store into a row that stood. -/
theorem GD.el {op : Op} {ty : TypeId} {pos : String} {af : Array Edge} {gd : Option (Nat × Bool)} {g n c : Nat} {e : TypeId} {xs' : List Value} (f : ∀ u u' cs, Mem w G X u L F → Stored u g cs e u' → Own e u' g n c xs' → Mem w G X u' L' F) (hr : ∀ u, Mem w G X u L F → ∃ u', (execOp a.eval ⟨none, op, ty, pos, af, gd⟩).run P u = .ok .skip u' ∧ (∃ cs, Stored u g cs e u') ∧ Own e u' g n c xs')
    (h : GD P ops Q V Xs E l a (g :: G') w G X L' F) (hl : Late ops E i (g :: G') Xs := by first | (refine .inr ?_; simp; done) | (refine .inl ?_; kernel_rfl)) (hE : E.contains i = false := by rfl) (ho : ops[i]? = some ⟨none, op, ty, pos, af, gd⟩ := by rfl) (hw : Region.wanted ⟨none, op, ty, pos, af, gd⟩ (yielded ops a.tmps) = true := by kernel_rfl) :
    GD P ops Q V Xs E (.step i l) a G' w G X L F := by
  unfold GD at *
  intro u hM hU
  exact seq_elem (F := fun u' => Own e u' g n c xs') hE ho rfl hw (hr u hM) fun u' cs hs hO => ⟨hl.ok (hU.stored hs), h u' (f u u' cs hM hs hO) (hU.stored hs)⟩
end
theorem tq10 (T : Int) : (0 ≤ T → T.tdiv 10000 = T / 10000 ∧ T.tmod 10000 = T % 10000) ∧ (T < 0 → T.tdiv 10000 = -((-T) / 10000) ∧ T.tmod 10000 = -((-T) % 10000)) := by
  refine ⟨fun h => ⟨Int.tdiv_eq_ediv_of_nonneg h, Int.tmod_eq_emod_of_nonneg h⟩, fun h => ?_⟩
  have e : T = -(-T) := by omega
  constructor
  · conv => lhs; rw [e, Int.neg_tdiv, Int.tdiv_eq_ediv_of_nonneg (by omega)]
  · conv => lhs; rw [e, Int.neg_tmod, Int.tmod_eq_emod_of_nonneg (by omega)]
theorem made_step {P L : List Int} {i : Nat} {k x X K : Int} (hP : P.length = i) (hi : i ≤ L.length ∨ True) (hX : X = (k + L.getD i 0) % 10000) (hK : K = (k + L.getD i 0) / 10000) (h : val 10000 P + 10000 ^ i * (k + val 10000 (L.drop i)) = x) :
    val 10000 (P ++ [X]) + 10000 ^ (i + 1) * (K + val 10000 (L.drop (i + 1))) = x := by
  have e : val 10000 (L.drop i) = L.getD i 0 + 10000 * val 10000 (L.drop (i + 1)) := by
    by_cases hi : i < L.length
    · exact drop_val hi 10000
    · rw [List.drop_eq_nil_of_le (by omega), List.drop_eq_nil_of_le (by omega), getD_out (by omega)]; simp
  rw [val_snoc, hP, ← h, e, Int.pow_succ]
  generalize L.getD i 0 = a at *
  generalize val 10000 (L.drop (i + 1)) = r
  have hd := Int.mul_ediv_add_emod (k + a) 10000
  generalize (k + a) / 10000 = q at *
  generalize (k + a) % 10000 = m at *
  have : m = k + a - 10000 * q := by omega
  subst hX hK this
  grind
theorem made_done {P L : List Int} {i : Nat} {k x : Int} (hi : L.length ≤ i) (h : val 10000 P + 10000 ^ i * (k + val 10000 (L.drop i)) = x) : val 10000 P + 10000 ^ i * k = x := by
  rw [List.drop_eq_nil_of_le hi] at h; simpa using h
theorem made_neg {P L : List Int} {i n x : Nat} {k : Int} (hD : Digs 10000 P) (hP : P.length = i) (hl : L.length = n) (h : val 10000 P + 10000 ^ i * (k + val 10000 (L.drop i)) = (x : Int)) : n ≤ i → 0 ≤ k := fun hi =>
  carry_nonnegR (x := x) hD (by have := made_done (by omega) h; rw [hP]; exact this)
theorem made_zero {P : List Int} {x n : Nat} (h : val 10000 P = (x : Int)) (hP : P.length = n) (hn : n = 0) : x = 0 := by
  have : P = [] := List.length_eq_zero_iff.1 (by omega)
  subst this; simp at h; omega
theorem made_zero0 {P : List Int} {x n : Nat} (h : val 10000 P = (x : Int)) (hP : P.length = n) (hn : n = 0) : x = 0 := made_zero h hP hn
/-! ### an int64 in groups -/
theorem zint_step {P : List Int} {i n v' : Nat} {v X : Int} (hP : P.length = i) (hX : X = ((v.natAbs % 10000 : Nat) : Int)) (hK : v' = v.natAbs / 10000) (h : val 10000 P + 10000 ^ i * ((v.natAbs : Nat) : Int) = (n : Int)) :
    val 10000 (P ++ [X]) + 10000 ^ (i + 1) * ((v' : Nat) : Int) = (n : Int) := by
  rw [val_snoc, hP, ← h, Int.pow_succ, hX, hK]
  have hd : ((v.natAbs : Nat) : Int) = 10000 * ((v.natAbs / 10000 : Nat) : Int) + ((v.natAbs % 10000 : Nat) : Int) := by omega
  rw [hd]
  generalize ((v.natAbs / 10000 : Nat) : Int) = q
  generalize ((v.natAbs % 10000 : Nat) : Int) = m
  have e : (10000 * q + m - 10000 * q : Int) = m := by omega
  grind
theorem zint_done {P : List Int} {i n : Nat} {v : Int} (h0 : v = 0) (h : val 10000 P + 10000 ^ i * ((v.natAbs : Nat) : Int) = (n : Int)) : val 10000 P = (n : Int) := by
  subst h0; simpa using h
theorem zint_sign {s n : Int} (h : s = 1 ∧ 0 ≤ n ∨ s = -1 ∧ n < 0) : s * ((n.natAbs : Nat) : Int) = n := by
  rcases h with ⟨rfl, h⟩ | ⟨rfl, h⟩ <;> omega
/-! ### sizes -/
def szg (z : Int) : Nat := (gp z.natAbs).length
theorem NZk.sgn {X : Nat → Prop} {w : World} {s : Int} {A : Option Addr} {n c : Nat} {z : Int} (h : NZk.R X w [.int .i64 s, .slice A n c] z) : s = z.sign := h.1.sign
theorem gp_none {x : Int} (h : (gp x.natAbs).length = 0) : x = 0 := by
  rcases Nat.eq_zero_or_pos x.natAbs with h1 | h1
  · omega
  · have := gp_pos (x := x.natAbs) (by omega); omega
theorem NZk.opp {X : Nat → Prop} {w : World} {s : Int} {A : Option Addr} {n c : Nat} {z : Int} (h : NZk.R X w [.int .i64 s, .slice A n c] z) : NZk.R X w [.int .i64 (-s), .slice A n c] (-z) :=
  ⟨⟨by rw [Int.natAbs_neg]; exact h.1.row, by rw [Int.sign_neg, h.1.sign]⟩, h.2⟩
theorem NZk.szg {X : Nat → Prop} {w : World} {s : Int} {A : Option Addr} {n c : Nat} {z : Int} (h : NZk.R X w [.int .i64 s, .slice A n c] z) : szg z = n := h.1.len
theorem sign_cases (z : Int) : z.sign = 1 ∧ 0 < z ∨ z.sign = -1 ∧ z < 0 ∨ z.sign = 0 ∧ z = 0 := by
  rcases Int.lt_trichotomy z 0 with h | h | h
  · exact .inr (.inl ⟨Int.sign_eq_neg_one_of_neg h, h⟩)
  · exact .inr (.inr ⟨by rw [h]; rfl, h⟩)
  · exact .inl ⟨Int.sign_eq_one_of_pos h, h⟩
theorem sign_prod (a b : Int) : a.sign * b.sign = 1 ∨ a.sign * b.sign = -1 ∨ a.natAbs * b.natAbs = 0 := by
  rcases sign_cases a with ⟨h, _⟩ | ⟨h, _⟩ | ⟨_, h⟩
  · rcases sign_cases b with ⟨h', _⟩ | ⟨h', _⟩ | ⟨_, h'⟩
    · left; rw [h, h']; rfl
    · right; left; rw [h, h']; rfl
    · right; right; rw [h']; simp
  · rcases sign_cases b with ⟨h', _⟩ | ⟨h', _⟩ | ⟨_, h'⟩
    · right; left; rw [h, h']; rfl
    · left; rw [h, h']; rfl
    · right; right; rw [h']; simp
  · right; right; rw [h]; simp
theorem sign_mul' (a b : Int) : (a.sign * b.sign) * ((a.natAbs * b.natAbs : Nat) : Int) = a * b := by
  rw [Int.natCast_mul]
  have ha := Int.sign_mul_natAbs a
  have hb := Int.sign_mul_natAbs b
  calc a.sign * b.sign * ((a.natAbs : Int) * (b.natAbs : Int)) = (a.sign * a.natAbs) * (b.sign * b.natAbs) := by grind
    _ = a * b := by rw [ha, hb]
theorem szg_lt (z : Int) : z.natAbs < 10000 ^ szg z := lt_pow_digs (b := 10000) (by omega) z.natAbs
theorem szg_le {z : Int} {k : Nat} (h : z.natAbs < 10000 ^ k) : szg z ≤ k := digs_length_le (by omega) k _ h
theorem szg_i64 (i : Int) (h : -9223372036854775808 ≤ i ∧ i ≤ 9223372036854775807) : szg i ≤ 5 := szg_le (by omega)
theorem szg_mul (a b : Int) : szg (a * b) ≤ szg a + szg b := by unfold szg; rw [Int.natAbs_mul]; exact digs_length_mul (by omega) _ _
theorem szg_mono {a b : Int} (h : a.natAbs ≤ b.natAbs) : szg a ≤ szg b := digs_length_mono (by omega) h
theorem szg_add (a b : Int) : szg (a + b) ≤ max (szg a) (szg b) + 1 := by
  have h1 := digs_length_add (b := 10000) (by omega) a.natAbs b.natAbs
  exact Nat.le_trans (digs_length_mono (by omega) (Int.natAbs_add_le a b)) h1
theorem szg_abs (a : Int) : szg ((a.natAbs : Nat) : Int) = szg a := by simp [szg]
theorem szg_neg (a : Int) : szg (-a) = szg a := by simp [szg]
theorem szg_sub (a b : Int) : szg (a - b) ≤ max (szg a) (szg b) + 1 := by
  have h := szg_add a (-b)
  rw [szg_neg, ← Int.sub_eq_add_neg] at h; exact h
/-! ### the product -/
theorem zmul_step {N : List Int} {i k y : Nat} {V a : Int} (hl : i + k < N.length) (hy : k < (gp y).length) (h : val 10000 N = V + a * (10000 ^ i * val 10000 ((gp y).take k))) :
    val 10000 (N.set (i + k) (N.getD (i + k) 0 + a * (gp y).getD k 0)) = V + a * (10000 ^ i * val 10000 ((gp y).take (k + 1))) := by
  rw [set_valR hl, h, take_nextR hy, Int.pow_add]
  generalize N.getD (i + k) 0 = p
  generalize (gp y).getD k 0 = q
  generalize val 10000 ((gp y).take k) = r
  generalize (10000 : Int) ^ i = s
  generalize (10000 : Int) ^ k = t
  grind
theorem zmul_outer {N : List Int} {i x y n : Nat} (hn : (gp y).length ≤ n) (hx : i < (gp x).length) (h : val 10000 N = val 10000 ((gp x).take i) * (y : Int) + (gp x).getD i 0 * (10000 ^ i * val 10000 ((gp y).take n))) :
    val 10000 N = val 10000 ((gp x).take (i + 1)) * (y : Int) := by
  rw [h, take_valR y n hn, take_nextR hx]
  grind
theorem zprod_bound {a b : Int} (ha : 0 ≤ a ∧ a < 10000) (hb : 0 ≤ b ∧ b < 10000) : 0 ≤ a * b ∧ a * b ≤ 99980001 := by
  refine ⟨Int.mul_nonneg ha.1 hb.1, ?_⟩
  have := Int.mul_le_mul (show a ≤ 9999 by omega) (show b ≤ 9999 by omega) hb.1 (by omega)
  omega
/-! ### comparing -/
theorem sign_bound {a b s t : Int} (h : s = a.sign) (h' : t = b.sign) : -1 ≤ s * t ∧ s * t ≤ 1 := by
  rw [h, h']
  rcases sign_cases a with ⟨h, _⟩ | ⟨h, _⟩ | ⟨h, _⟩ <;> rcases sign_cases b with ⟨h', _⟩ | ⟨h', _⟩ | ⟨h', _⟩ <;> rw [h, h'] <;> decide
section
variable {x y n1 n2 : Nat} {i d : Int}
def Larger (x y n1 n2 : Nat) (i d : Int) : Prop := n1 ≠ n2 ∧ d = (n1 : Int) - n2 ∧ i = (n1 : Int) - 1 ∨ n1 = n2 ∧ d = (gp x).getD (i + 1).toNat 0 - (gp y).getD (i + 1).toNat 0 ∧ ∀ j : Nat, i + 1 < (j : Int) → (gp x).getD j 0 = (gp y).getD j 0
theorem larger_init (h1 : (gp x).length = n1) (h2 : (gp y).length = n2) : Larger x y n1 n2 ((n1 : Int) - 1) ((n1 : Int) - n2) := by
  by_cases h : n1 = n2
  · refine .inr ⟨h, ?_, fun j hj => ?_⟩
    · rw [getD_out (by omega), getD_out (by omega)]; omega
    · rw [getD_out (by omega), getD_out (by omega)]
  · exact .inl ⟨h, rfl, rfl⟩
theorem larger_step (h : Larger x y n1 n2 i d) (h0 : d = 0) (hi : 0 ≤ i) (hn : i < (n1 : Int)) : Larger x y n1 n2 (i - 1) ((gp x).getD i.toNat 0 - (gp y).getD i.toNat 0) := by
  rcases h with ⟨h, h1, _⟩ | ⟨h, h1, h2⟩
  · omega
  · refine .inr ⟨h, by rw [show i - 1 + 1 = i by omega], fun j hj => ?_⟩
    rcases Int.lt_or_le (i + 1) j with h3 | h3
    · exact h2 j h3
    · have : j = (i + 1).toNat := by omega
      rw [this]; omega
theorem larger_len (h : Larger x y n1 n2 i d) (hd : d = 0) : n1 = n2 := by
  rcases h with ⟨h, h3, _⟩ | ⟨h, _⟩
  · omega
  · exact h
theorem larger_gt (h1 : (gp x).length = n1) (h2 : (gp y).length = n2) (h : Larger x y n1 n2 i d) (hI : -1 ≤ i ∧ i < (n1 : Int)) (hd : d > 0) : (1 : Int) = cmpN x y := by
  apply cmp_gt
  rcases h with ⟨h, h3, _⟩ | ⟨h, h3, h4⟩
  · exact len_ltR (by omega)
  · have hlt : (i + 1).toNat < n1 := by
      rcases Nat.lt_or_ge (i + 1).toNat n1 with h | h
      · exact h
      · rw [getD_out (by omega), getD_out (by omega)] at h3; omega
    exact top_ltR (by omega) (i + 1).toNat (by omega) (fun j hj => (h4 j (by omega)).symm) (by omega)
theorem larger_lt (h1 : (gp x).length = n1) (h2 : (gp y).length = n2) (h : Larger x y n1 n2 i d) (hI : -1 ≤ i ∧ i < (n1 : Int)) (hd : d < 0) : (-1 : Int) = cmpN x y := by
  apply cmp_lt
  rcases h with ⟨h, h3, _⟩ | ⟨h, h3, h4⟩
  · exact len_ltR (by omega)
  · have hlt : (i + 1).toNat < n1 := by
      rcases Nat.lt_or_ge (i + 1).toNat n1 with h | h
      · exact h
      · rw [getD_out (by omega), getD_out (by omega)] at h3; omega
    exact top_ltR (by omega) (i + 1).toNat (by omega) (fun j hj => h4 j (by omega)) (by omega)
theorem larger_eq (h1 : (gp x).length = n1) (h2 : (gp y).length = n2) (h : Larger x y n1 n2 i d) (hI : -1 ≤ i ∧ i < (n1 : Int)) (hd : d = 0) (hi : i = -1 ∨ n1 ≠ n2) : (0 : Int) = cmpN x y := by
  apply cmp_eq
  rcases h with ⟨h, h3, _⟩ | ⟨h, h3, h4⟩
  · omega
  · have hi : i = -1 := by omega
    subst hi
    refine all_eqR (by omega) fun j => ?_
    rcases Nat.eq_zero_or_pos j with h5 | h5
    · subst h5
      rw [show (-1 + 1 : Int).toNat = 0 from rfl] at h3; omega
    · exact h4 j (by omega)
end
/-! ### the sum -/
theorem zsg_prod {c y : Int} (hc : -1 ≤ c ∧ c ≤ 1) (hy : 0 ≤ y ∧ y < 10000) : -9999 ≤ c * y ∧ c * y ≤ 9999 := by
  have : c = -1 ∨ c = 0 ∨ c = 1 := by omega
  rcases this with rfl | rfl | rfl <;> omega
theorem zadd_val {p q s t : Int} (hs : s = p.sign) (ht : t = q.sign) (h : q.natAbs ≤ p.natAbs) : ((p.natAbs : Nat) : Int) + s * t * ((q.natAbs : Nat) : Int) = (((p + q).natAbs : Nat) : Int) := by
  rcases sign_cases p with ⟨h1, h2⟩ | ⟨h1, h2⟩ | ⟨h1, h2⟩ <;> rcases sign_cases q with ⟨h3, h4⟩ | ⟨h3, h4⟩ | ⟨h3, h4⟩ <;> rw [hs, ht, h1, h3] <;> omega
theorem zadd_fin {a b p q s : Int} (hs : s = p.sign) (h : q.natAbs ≤ p.natAbs) (hpq : p = a ∧ q = b ∨ p = b ∧ q = a) : s * (((p + q).natAbs : Nat) : Int) = a + b := by
  have e : p + q = a + b := by omega
  rw [← e, hs]
  rcases sign_cases p with ⟨h1, h2⟩ | ⟨h1, h2⟩ | ⟨h1, h2⟩ <;> rw [h1] <;> omega
/-! ### the numbers of the laws -/
def bigv (A B C P : Int) : Int := (A * B + C) ^ ((P % 4).toNat + 1)
theorem sz_pow (a : Int) (k : Nat) : sz (a ^ (k + 1)) ≤ (k + 1) * sz a := by
  induction k with
  | zero => rw [Int.pow_succ]; simp
  | succ k ih =>
    have h := sz_mul (a ^ (k + 1)) a
    rw [← Int.pow_succ] at h
    rw [Nat.succ_mul]; exact Nat.le_trans h (Nat.add_le_add_right ih _)
theorem szg_pow (a : Int) (k : Nat) : szg (a ^ (k + 1)) ≤ (k + 1) * szg a := by
  induction k with
  | zero => rw [Int.pow_succ]; simp
  | succ k ih =>
    have h := szg_mul (a ^ (k + 1)) a
    rw [← Int.pow_succ] at h
    rw [Nat.succ_mul]; exact Nat.le_trans h (Nat.add_le_add_right ih _)
theorem bigv_base (A B C : Int) (hA : -9223372036854775808 ≤ A ∧ A ≤ 9223372036854775807) (hB : -9223372036854775808 ≤ B ∧ B ≤ 9223372036854775807) (hC : -9223372036854775808 ≤ C ∧ C ≤ 9223372036854775807) : sz (A * B + C) ≤ 7 ∧ szg (A * B + C) ≤ 11 ∧ sz (A * B) ≤ 6 ∧ szg (A * B) ≤ 10 := by
  have h1 := sz_i64 A hA
  have h2 := sz_i64 B hB
  have h3 := sz_i64 C hC
  have h4 := sz_mul A B
  have h5 := sz_add (A * B) C
  have g1 := szg_i64 A hA
  have g2 := szg_i64 B hB
  have g3 := szg_i64 C hC
  have g4 := szg_mul A B
  have g5 := szg_add (A * B) C
  omega
theorem bigv_sz (A B C P : Int) (hA : -9223372036854775808 ≤ A ∧ A ≤ 9223372036854775807) (hB : -9223372036854775808 ≤ B ∧ B ≤ 9223372036854775807) (hC : -9223372036854775808 ≤ C ∧ C ≤ 9223372036854775807) : sz (bigv A B C P) ≤ 28 ∧ szg (bigv A B C P) ≤ 44 := by
  have hk : (P % 4).toNat ≤ 3 := by omega
  have h1 := sz_i64 A hA
  have h2 := sz_i64 B hB
  have h3 := sz_i64 C hC
  have h4 := sz_mul A B
  have h5 := sz_add (A * B) C
  have g1 := szg_i64 A hA
  have g2 := szg_i64 B hB
  have g3 := szg_i64 C hC
  have g4 := szg_mul A B
  have g5 := szg_add (A * B) C
  have h6 := sz_pow (A * B + C) (P % 4).toNat
  have g6 := szg_pow (A * B + C) (P % 4).toNat
  have h7 : ((P % 4).toNat + 1) * sz (A * B + C) ≤ 4 * 7 := Nat.mul_le_mul (by omega) (by omega)
  have g7 : ((P % 4).toNat + 1) * szg (A * B + C) ≤ 4 * 11 := Nat.mul_le_mul (by omega) (by omega)
  unfold bigv
  omega
theorem sgn_ne {x : Int} (h : x = 0) : (x.sign != (0 : Int)) = false := by subst h; rfl
theorem sgn_eq {x : Int} (h : x = 0) : (x.sign == (0 : Int)) = true := by subst h; rfl
theorem sgn_neq {x : Int} (h : ¬ x = 0) : (x.sign == (0 : Int)) = false := by
  rw [beq_eq_false_iff_ne]; intro h1; exact h (Int.sign_eq_zero_iff_zero.1 h1)
theorem sgn_lt {x : Int} (h : x < 0) : decide (x.sign < (0 : Int)) = true := decide_eq_true ((sign_neg_iff x).2 h)
theorem sgn_nlt {x : Int} (h : 0 ≤ x) : decide (x.sign < (0 : Int)) = false := decide_eq_false fun h1 => by have := (sign_neg_iff x).1 h1; omega
theorem sgn_ge {x : Int} (h : 0 ≤ x) : decide (x.sign ≥ (0 : Int)) = true := decide_eq_true (by
  by_cases h1 : x.sign < 0
  · have := (sign_neg_iff x).1 h1; omega
  · omega)
theorem dv_small {a b : Int} (h : ¬ b = 0) : a % b - ((b.natAbs : Nat) : Int) < 0 := by have := Int.emod_lt a h; omega
theorem dv_comm (a b : Int) : ((Int.gcd b a : Nat) : Int) - ((Int.gcd a b : Nat) : Int) = 0 := by rw [Int.gcd_comm]; omega
theorem dv_shift (a b c : Int) : ((Int.gcd (a + b * c) b : Nat) : Int) - ((Int.gcd a b : Nat) : Int) = 0 := by
  have h : Int.gcd (a + b * c) b = Int.gcd a b := by
    apply Nat.dvd_antisymm
    · apply Int.dvd_gcd
      · have h1 := Int.gcd_dvd_left (a + b * c) b
        have h2 := Int.gcd_dvd_right (a + b * c) b
        have h3 := Int.dvd_sub h1 (Int.dvd_mul_of_dvd_left (c := c) h2)
        rwa [Int.add_sub_cancel] at h3
      · exact Int.gcd_dvd_right _ _
    · apply Int.dvd_gcd
      · exact Int.dvd_add (Int.gcd_dvd_left _ _) (Int.dvd_mul_of_dvd_left (Int.gcd_dvd_right _ _))
      · exact Int.gcd_dvd_right _ _
  rw [h]; omega
theorem dv_back (a b : Int) : a / b * b + a % b - a = 0 := by have := Int.ediv_mul_add_emod a b; omega
theorem dv_zero {a b : Int} (h : Int.gcd a b = 0) : a = 0 ∧ b = 0 := Int.gcd_eq_zero_iff.1 h
theorem getD_past {L : List Int} {n i : Nat} (hl : L.length = n) (hi : n ≤ i) : L.getD i 0 = 0 := getD_out (by omega)
end Cps
