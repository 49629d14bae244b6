/- The digits from the highest one on: an iterator. -/
import Derived.RangeFuncNested
import Derived.RangeFuncBound
import Derived.RangeFuncCalls
import Derived.RangeFuncLeaves
import Derived.Shelf.Abstract
import Derived.Shelf.RegionOpen
import Derived.WalkKit
import Derived.OwnWalkIn
import Derived.TacticsInMore
import Derived.LoopNIn
import Derived.LoopIn
import Derived.Test.YtklnjhlidfclmaaGreatDoorProg
import Derived.Test.YtklnjhlidfclmaaGreatDoorRange
set_option linter.unusedVariables false
namespace Cps
open Go Go.RowKit Go.Proofs
attribute [local go_sem] Oper.semAt_some

theorem stay_cell {X : Nat → Prop} {w w' : World} (h : Stay X w w') {b o : Nat} {cs : Array Value} {t : TypeId} {fr : Nat × Nat} (hb : w.heap[b]? = some (.cells cs t fr)) (hx : ¬ X b) : w'.cell? ⟨b, o, none⟩ = w.cell? ⟨b, o, none⟩ := by
  have h2 := h.at_ _ _ _ _ hb hx
  simp [World.cell?, hb, h2]

set_option maxRecDepth 100000 in
set_option maxHeartbeats 1000000 in
theorem down_in (n l b g off : Nat) (len c : Nat) (L : List Int) (hl : L.length = len) (hm : len ≤ 9223372036854775807) (Kp : World → World → Prop) (J Jx : List Int → World → Prop) (T : World → Prop)
    (hT : ∀ w w', T w → Kp w w' → T w')
    (hTb : ∀ w, T w → w.cell? ⟨b, 0, none⟩ = some (.slice (some ⟨g, off, none⟩) len c))
    (hTc : ∀ w, T w → ∀ j, j < len → w.cell? ⟨g, off + j, none⟩ = some (.int .i64 (L.getD j 0)))
    (hY : ∀ pre x W, J pre W → pre ++ [x] <+: L.reverse → YieldAt Fence.wide (n - 1) Tryz.prog l #[.int .i64 x] W fun e W' =>
      (e = .returned (.bool true) ∧ J (pre ++ [x]) W' ∧ Kp W W') ∨ (e = .returned (.bool false) ∧ Jx (pre ++ [x]) W'))
    (W : World) (h0 : T W) (hJ0 : J [] W) :
    CallsIn Fence.wide n Tryz.prog 140 #[.func (.yield l) #[] #[], .pointer (some ⟨b, 0, none⟩)] W fun e W' => (∃ v, e = .returned v) ∧ (J L.reverse W' ∨ (∃ pre, pre <+: L.reverse ∧ Jx pre W')) := by
  refine callsIn_of_wp Tryz.func140 rfl trivial ?_ rfl
  simp only [Tryz.ntmps140, List.size_toArray, List.length_cons, List.length_nil, Nat.reduceAdd, Nat.reduceSub, Array.replicate_succ, Array.replicate_zero, List.push_toArray, List.append_toArray, List.nil_append, List.cons_append]
  have hb0 := hTb W h0
  gi_wp2
  gi_loopw [3] (fun i wr => T wr ∧ ((i = .int .i64 (-1) ∧ J L.reverse wr) ∨ ∃ j : Nat, j < len ∧ i = .int .i64 j ∧ J (L.reverse.take (len - 1 - j)) wr)) (fun i _ => (intOf i + 1).toNat)
  case atStart =>
    refine ⟨h0, ?_⟩
    by_cases hz : len = 0
    · refine .inl ⟨by rw [hz]; rfl, ?_⟩
      have : L = [] := List.eq_nil_of_length_eq_zero (by omega)
      rw [this]; exact hJ0
    · refine .inr ⟨len - 1, by omega, ?_, ?_⟩
      · congr 1; omega
      · rw [show len - 1 - (len - 1) = 0 by omega, List.take_zero]; exact hJ0
  case round =>
    obtain ⟨hTw, ⟨rfl, hj⟩ | ⟨j, hj, rfl, hJ⟩⟩ := hrel
    · gi_wp2
      go_end0
      exact ⟨⟨_, rfl⟩, .inl hj⟩
    · have hb1 := hTb wr hTw
      have hc1 := hTc wr hTw j hj
      have hnext : L.reverse.take (len - 1 - j) ++ [L.getD j 0] = L.reverse.take (len - j) := by
        rw [show len - j = (len - 1 - j) + 1 by omega, List.take_succ_eq_append_getElem (by rw [List.length_reverse]; omega)]
        congr 2
        rw [List.getElem_reverse, List.getD_eq_getElem?_getD, List.getElem?_eq_getElem (by omega)]
        simp only [Option.getD_some]
        congr 1; omega
      have hstep := hY (L.reverse.take (len - 1 - j)) (L.getD j 0) wr hJ (by rw [hnext]; exact List.take_prefix _ _)
      rw [hnext] at hstep
      have hpre : L.reverse.take (len - j) <+: L.reverse := List.take_prefix _ _
      clear hnext
      obtain ⟨L2, hL2⟩ : ∃ L2, L2 = L.reverse.take (len - j) := ⟨_, rfl⟩
      rw [← hL2] at hstep hpre
      obtain ⟨v, hv⟩ : ∃ v, v = L.getD j 0 := ⟨_, rfl⟩
      rw [← hv] at hc1 hstep
      have HL := Lib.hid hL2
      clear hL2 hv
      obtain ⟨fn, tmps, assign, body, hy, hR⟩ := hstep
      gi_wp2
      refine ⟨fun h => by simp [Fence.wide] at h, hR.mono ?_⟩
      rintro e W3 (⟨rfl, hJ3, hk3⟩ | ⟨rfl, hJx3⟩)
      · have hT3 := hT _ _ hTw hk3
        gi_wp2
        go_roundw
        case rel =>
          refine ⟨hT3, ?_⟩
          by_cases hz : j = 0
          · refine .inl ⟨by rw [hz]; rfl, ?_⟩
            have := HL.out
            rw [hz, Nat.sub_zero, List.take_of_length_le (by rw [List.length_reverse]; omega)] at this
            rw [← this]; exact hJ3
          · refine .inr ⟨j - 1, by omega, by congr 1; omega, ?_⟩
            rw [show len - 1 - (j - 1) = len - j by omega, ← HL.out]; exact hJ3
        case measure => simp [intOf]
      · gi_wp2
        refine bodyPost_ret (results_none rfl _ _ _) rfl ?_
        exact ⟨⟨_, rfl⟩, .inr ⟨_, hpre, hJx3⟩⟩

set_option maxRecDepth 100000 in
set_option maxHeartbeats 1000000 in
theorem down_nil (n l b c : Nat) (A : Option Addr) (J : List Int → World → Prop) (W : World) (hb0 : W.cell? ⟨b, 0, none⟩ = some (.slice A 0 c)) (h0 : J [] W) :
    CallsIn Fence.wide n Tryz.prog 140 #[.func (.yield l) #[] #[], .pointer (some ⟨b, 0, none⟩)] W fun e W' => (∃ v, e = .returned v) ∧ J [] W' := by
  refine callsIn_of_wp Tryz.func140 rfl trivial ?_ rfl
  simp only [Tryz.ntmps140, List.size_toArray, List.length_cons, List.length_nil, Nat.reduceAdd, Nat.reduceSub, Array.replicate_succ, Array.replicate_zero, List.push_toArray, List.append_toArray, List.nil_append, List.cons_append]
  gi_wp2
  gi_loopw [3] (fun i wr => i = .int .i64 (-1) ∧ J [] wr) (fun _ _ => 0)
  case atStart => exact ⟨rfl, h0⟩
  case round =>
    obtain ⟨rfl, hJs⟩ := hrel
    gi_wp2
    go_end0
    exact ⟨⟨_, rfl⟩, hJs⟩

/-- The iterator over the digits of x. -/
def Itk : Kd Nat where
  R X w cs x := ∃ b A n c, cs = [.func (.func 140) #[] #[.pointer (some ⟨b, 0, none⟩)]] ∧ w.heap[b]? = some (.cells #[.slice A n c] 26 (0, 0)) ∧ ¬ X b ∧ Dk.R X w [.slice A n c] x
  st {X X' w w' cs x} h hs hX := by
    obtain ⟨b, A, n, c, h1, h2, h3, h4⟩ := h
    exact ⟨b, A, n, c, h1, hs.at_ _ _ _ _ h2 h3, fun h => h3 (hX b (lt_of_at h2) h), Dk.st h4 hs hX⟩
abbrev Dig := { v : Int // 0 ≤ v ∧ v < 16777216 }
theorem Itk.iter {X : Nat → Prop} {w : World} {b : Nat} {x : Nat} (h : Itk.R X w [.func (.func 140) #[] #[.pointer (some ⟨b, 0, none⟩)]] x) (n : Nat) :
    SeqStopsK Fence.wide n Tryz.prog 140 #[.pointer (some ⟨b, 0, none⟩)] (fun v : Dig => #[Value.int .i64 v.1]) (Stay (fun k => X k ∨ w.heap.size ≤ k)) (fun ys => ys.map (·.1) = (dg x).reverse) (fun _ => True) (dg x).length w := by
  obtain ⟨b', A, m, c, h1, h2, h3, h4⟩ := h
  obtain rfl : b = b' := by simpa using h1
  intro l J Jx W hW hJ hJx hY h0
  have hlen := Dk.len h4
  have hrow := Dk.row h4
  have hX' : ∀ k, k < w.heap.size → ¬ X k → ¬ (X k ∨ w.heap.size ≤ k) := fun k hk hx h => by rcases h with h | h; exact hx h; omega
  have hS0 : Stay (fun k => X k ∨ w.heap.size ≤ k) w W := Stay.of_block fun k hk _ => hW.block k hk
  have hbx := hX' b (lt_of_at h2) h3
  by_cases hm : m = 0
  · subst hm
    have hn : dg x = [] := List.eq_nil_of_length_eq_zero hlen
    refine (down_nil n l b c A (fun pre W => ∃ ys : List Dig, ys.map (·.1) = pre ∧ J ys W) W ((stay_cell hS0 h2 hbx).trans (by simp [World.cell?, h2])) ⟨[], rfl, h0⟩).mono ?_
    rintro e W' ⟨hv, ys, hy, hj⟩
    exact ⟨hv, .inl ⟨ys, by show ys.map _ = _; rw [hn, hy]; rfl, hj⟩⟩
  · obtain ⟨g, off, cs, fr, rfl, hg, hc⟩ := hrow.2.2 (by omega)
    have hgx := hX' g (lt_of_at hg) (h4.2 (by omega) _ rfl)
    refine (down_in n l b g off m c (dg x) hlen (Dk.le h4) (Stay (fun k => X k ∨ w.heap.size ≤ k)) (fun pre W => ∃ ys : List Dig, ys.map (·.1) = pre ∧ J ys W) (fun pre W => ∃ ys : List Dig, ys.map (·.1) = pre ∧ Jx ys W) (fun W' => Stay (fun k => X k ∨ w.heap.size ≤ k) w W') (fun _ _ h k => h.trans k) (fun W' hT => (stay_cell hT h2 hbx).trans (by simp [World.cell?, h2]))
      (fun W' hT j hj => (stay_cell hT hg hgx).trans ?_) ?_ W hS0 ⟨[], rfl, h0⟩).mono ?_
    · have h5 := hc j hj
      rw [List.getElem?_eq_getElem (by simp; rw [show (dg x).length = m from hlen]; exact hj)] at h5
      have h6 : (i64s (dg x))[j]'(by simp; rw [show (dg x).length = m from hlen]; exact hj) = .int .i64 ((dg x).getD j 0) := by
        simp [i64s]; rw [List.getElem?_eq_getElem (by rw [show (dg x).length = m from hlen]; exact hj)]; rfl
      rw [h6] at h5
      simp [World.cell?, hg, h5]
    · rintro pre y W1 ⟨ys, rfl, hj⟩ hp
      have hy : y ∈ dg x := by
        have := hp.subset (List.mem_append_right _ (List.mem_singleton.2 rfl))
        simpa using this
      have hlt : ys.length < (dg x).length := by
        have := hp.length_le
        simp at this; omega
      obtain ⟨fn, tmps, assign, body, h1, hR⟩ := hY ys ⟨y, (dg_digs x) y hy⟩ W1 hj hlt
      refine ⟨fn, tmps, assign, body, h1, hR.mono ?_⟩
      rintro e W' (⟨he, hj', hk⟩ | ⟨he, hj'⟩)
      · exact .inl ⟨he, ⟨_, by simp, hj'⟩, hk⟩
      · exact .inr ⟨he, ⟨_, by simp, hj'⟩⟩
    · rintro e W' ⟨hv, ⟨ys, hy, hj⟩ | ⟨pre, hp, ys, hy, hj⟩⟩
      · exact ⟨hv, .inl ⟨ys, hy, hj⟩⟩
      · exact ⟨hv, .inr ⟨ys, trivial, hj⟩⟩
theorem Itk.of {X : Nat → Prop} {w : World} {b n c x : Nat} {A : Option Addr} (h : w.heap[b]? = some (.cells #[.slice A n c] 26 (0, 0))) (hx : ¬ X b) (hd : Dk.R X w [.slice A n c] x) : Itk.R X w [.func (.func 140) #[] #[.pointer (some ⟨b, 0, none⟩)]] x := ⟨b, A, n, c, rfl, h, hx, hd⟩
theorem down_enters (args : Array Value) (w : World) : (callFunc 140 args).run Tryz.prog w = .ok (.enter 140 args) w := enters_of Tryz.func140 (by kernel_rfl) rfl args w

/-! ### The number of digits that have come -/
def hor (pre : List Dig) : Nat := (val 16777216 (pre.map (·.1)).reverse).toNat
theorem hor_nil : hor [] = 0 := rfl
theorem digs_pre (pre : List Dig) : Digs 16777216 (pre.map (·.1)).reverse := fun x hx => by
  simp only [List.mem_reverse, List.mem_map] at hx
  obtain ⟨d, _, rfl⟩ := hx
  exact d.2
theorem hor_snoc (pre : List Dig) (x : Dig) : hor (pre ++ [x]) = hor pre * 16777216 + x.1.toNat := by
  have h := val_nonneg (b := 16777216) (by omega) (digs_pre pre)
  have hx := x.2
  simp only [hor, List.map_append, List.map_cons, List.map_nil, List.reverse_append, List.reverse_cons, List.reverse_nil, List.nil_append, List.singleton_append, val_cons]
  omega
theorem hor_all {xs : List Dig} {x : Nat} (h : xs.map (·.1) = (dg x).reverse) : hor xs = x := by
  simp only [hor, h, List.reverse_reverse, dg_val]; omega

/-! ### Numbers as they go round 2^64 -/
def w64 (K : Nat) : Int := if K < 9223372036854775808 then K else K - 18446744073709551616
theorem w64_small {K : Nat} (h : K < 9223372036854775808) : w64 K = K := by unfold w64; rw [if_pos h]
theorem w64_of {k : Int} (h : -9223372036854775808 ≤ k ∧ k ≤ 9223372036854775807) : k = w64 (k % 18446744073709551616).toNat := by unfold w64; split <;> omega
theorem w64_u64 {K : Nat} (h : K ≤ 18446744073709551615) : Value.int .u64 (IntKind.wrap .u64 (w64 K)) = .int .u64 (K : Int) := by
  rw [IntKind.wrap_u64]; congr 1; unfold w64; split <;> omega
theorem w64_pred {K : Nat} (h0 : 0 < K) (h : K ≤ 18446744073709551615) : Value.int .i64 (IntKind.wrap .i64 (w64 K - 1)) = .int .i64 (w64 (K - 1)) := by
  rw [IntKind.wrap_i64]; congr 1; unfold w64; split <;> split <;> omega
theorem w64_succ {K : Nat} (h : K < 16777216) : Value.int .i64 (IntKind.wrap .i64 (w64 K + 1)) = .int .i64 (w64 (K + 1)) := by
  rw [w64_small (by omega), w64_small (by omega)]; exact wrap_i64 (by omega) (by omega) (by omega)
theorem ret_i64 {a b : Int} (h : a = b) : Ending.returned (.int .i64 a) = .returned (.int .i64 b) := by rw [h]

theorem shl_u64 (n : Nat) : Value.int .u64 (IntKind.wrap .u64 (((n % 18446744073709551616 : Nat) : Int) * 2 ^ 24)) = .int .u64 ((n * 16777216 % 18446744073709551616 : Nat) : Int) := by
  have h : IntKind.wrap .u64 (((n % 18446744073709551616 : Nat) : Int) * 2 ^ 24) = ((n * 16777216 % 18446744073709551616 : Nat) : Int) := by rw [IntKind.wrap_u64]; omega
  rw [h]
theorem or_low (p x : Nat) (hx : x < 16777216) : (p * 16777216) ||| x = p * 16777216 + x := by
  have := Nat.two_pow_add_eq_or_of_lt (i := 24) (b := x) hx p
  rw [Nat.mul_comm p]; exact this.symm
theorem or_u64 {n : Nat} {z : Int} (hz : 0 ≤ z ∧ z < 16777216) : Value.int .u64 (IntKind.wrap .u64 ((BitVec.ofInt 64 ((n * 16777216 % 18446744073709551616 : Nat) : Int) ||| BitVec.ofInt 64 z).toNat : Nat)) = .int .u64 (((n * 16777216 + z.toNat) % 18446744073709551616 : Nat) : Int) := by
  have h1 : (BitVec.ofInt 64 ((n * 16777216 % 18446744073709551616 : Nat) : Int)).toNat = n % 1099511627776 * 16777216 := by
    rw [BitVec.toNat_ofInt]; omega
  have h2 : (BitVec.ofInt 64 z).toNat = z.toNat := by
    rw [BitVec.toNat_ofInt]; omega
  have h3 : IntKind.wrap .u64 ((n % 1099511627776 * 16777216 + z.toNat : Nat) : Int) = (((n * 16777216 + z.toNat) % 18446744073709551616 : Nat) : Int) := by rw [IntKind.wrap_u64]; omega
  rw [BitVec.toNat_or, h1, h2, or_low _ _ (by omega), h3]

/-! ### The quotient, digit by digit -/
theorem over_both {B h y l K x : Nat} (e : l + y * K = h % y * B + x) (hl : l < y) : (h * B + x) % y = l ∧ (h * B + x) / y = h / y * B + K := by
  have h1 := Nat.div_add_mod h y
  have h2 : h * B + x = l + y * (K + h / y * B) := by
    have h3 : h * B = (y * (h / y) + h % y) * B := by rw [h1]
    rw [h3, Nat.add_mul, Nat.add_assoc, ← e, Nat.mul_add, Nat.mul_assoc]; omega
  rw [h2, Nat.add_mul_mod_self_left, Nat.mod_eq_of_lt hl, Nat.add_mul_div_left _ _ (by omega), Nat.div_eq_of_lt hl]
  exact ⟨rfl, by omega⟩
theorem over_left {h y l K x : Nat} (e : l + y * K = h % y * 16777216 + x) (hl : l < y) : (h * 16777216 + x) % y = l := (over_both e hl).1
theorem over_l0 {h y x : Nat} (hy : y ≠ 0) (hx : x < 16777216) : h % y * 16777216 + x < y * 16777216 := by
  have := Nat.mod_lt h (Nat.pos_of_ne_zero hy)
  have h2 : (h % y + 1) * 16777216 ≤ y * 16777216 := Nat.mul_le_mul_right _ (by omega)
  omega
theorem over_k {l l0 y K : Nat} (e : l + y * K = l0) (hl : l0 < y * 16777216) : K < 16777216 := by
  rcases Nat.lt_or_ge K 16777216 with h | h
  · exact h
  · have := Nat.mul_le_mul_left y h; omega
theorem over_pow {B : Nat} {n p q K : Nat} (hp : p < n) : (B : Int) ^ (n - p) * ((q : Nat) : Int) + (B : Int) ^ (n - (p + 1)) * (K : Int) = (B : Int) ^ (n - (p + 1)) * ((q * B + K : Nat) : Int) := by
  rw [show n - p = (n - (p + 1)) + 1 by omega, Int.pow_succ, Int.natCast_add, Int.natCast_mul, Int.mul_add]
  grind
theorem over_val {M : List Int} {n p y h l K x : Nat} (hM : M.length = n) (hp : p < n) (e : l + y * K = h % y * 16777216 + x) (hl : l < y) (hz : M.getD (n - (p + 1)) 0 = 0) (hv : val 16777216 M = 16777216 ^ (n - p) * ((h / y : Nat) : Int)) (v : Int) (hk : v = K) :
    val 16777216 (M.set (n - (p + 1)) v) = 16777216 ^ (n - (p + 1)) * (((h * 16777216 + x) / y : Nat) : Int) := by
  rw [set_val (by omega), hz, hv, (over_both e hl).2, hk, Int.sub_zero]
  exact over_pow (B := 16777216) hp
theorem over_val0 {M : List Int} {n p y h x : Nat} (hp : p < n) (hl : h % y * 16777216 + x < y) (hv : val 16777216 M = 16777216 ^ (n - p) * ((h / y : Nat) : Int)) :
    val 16777216 M = 16777216 ^ (n - (p + 1)) * (((h * 16777216 + x) / y : Nat) : Int) := by
  have e : h % y * 16777216 + x + y * 0 = h % y * 16777216 + x := by rw [Nat.mul_zero, Nat.add_zero]
  rw [hv, (over_both e hl).2]
  refine Eq.trans ?_ (over_pow (B := 16777216) (q := h / y) (K := 0) hp)
  rw [Int.natCast_zero, Int.mul_zero, Int.add_zero]
  rfl
end Cps
