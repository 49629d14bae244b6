/- The kinds of values as facts that keep away from what is being written. -/
import Derived.Test.YtklnjhlidfclmaaGreatDoorStep
import Derived.Test.YtklnjhlidfclmaaGreatDoorLeaf
set_option linter.unusedVariables false
namespace Cps
open Go Go.RowKit

/-- A row's block is none of X. -/
def Avoid (X : Nat → Prop) (A : Option Addr) (n : Nat) : Prop := 0 < n → ∀ ad, A = some ad → ¬ X ad.block
theorem Row.stay {t : TypeId} {w w' : World} {X : Nat → Prop} {A : Option Addr} {n : Nat} {xs : List Value} (h : Row t w A n xs) (ha : Avoid X A n) (hs : Stay X w w') : Row t w' A n xs :=
  ⟨h.1, h.2.1, fun hn => by
    obtain ⟨g, off, c, fr, rfl, hg, hc⟩ := h.2.2 hn
    exact ⟨g, off, c, fr, rfl, hs.at_ _ _ _ _ hg (ha hn _ rfl), hc⟩⟩
theorem Avoid.stay {t : TypeId} {w : World} {X X' : Nat → Prop} {A : Option Addr} {n : Nat} {xs : List Value} (h : Row t w A n xs) (ha : Avoid X A n) (hX : ∀ k, k < w.heap.size → X' k → X k) : Avoid X' A n := fun hn ad e hx => by
  obtain ⟨g, off, c, fr, rfl, hg, hc⟩ := h.2.2 hn
  cases e
  exact ha hn _ rfl (hX _ (lt_of_at hg) hx)
theorem Avoid.nil (X : Nat → Prop) (A : Option Addr) : Avoid X A 0 := fun h => by omega
theorem Avoid.own {X : Nat → Prop} {g n : Nat} (h : ¬ X g) : Avoid X (some ⟨g, 0, none⟩) n := fun _ ad e => by cases e; exact h

/-! ### Digits, integers, ratios, pairs of the program -/
def Dk : Kd Nat where
  R X w cs x := match cs with
    | [.slice A n c] => DW w A n x ∧ Avoid X A n
    | _ => False
  st {X X' w w' cs x} h hs hX := by
    split at h
    · exact ⟨⟨h.1.row.stay h.2 hs⟩, h.2.stay h.1.row hX⟩
    · exact h.elim
def Zk : Kd Int where
  R X w cs z := match cs with
    | [.slice A n c, .bool m] => ZW w A n m z ∧ Avoid X A n
    | _ => False
  st {X X' w w' cs x} h hs hX := by
    split at h
    · exact ⟨⟨⟨h.1.dig.row.stay h.2 hs⟩, h.1.neg⟩, h.2.stay h.1.dig.row hX⟩
    · exact h.elim
def Rk : Kd Rat where
  R X w cs r := match cs with
    | [.slice A n c, .bool m, .slice B k d] => Zk.R X w [.slice A n c, .bool m] r.num ∧ Dk.R X w [.slice B k d] (r.den - 1)
    | _ => False
  st {X X' w w' cs x} h hs hX := by
    split at h
    · exact ⟨Zk.st h.1 hs hX, Dk.st h.2 hs hX⟩
    · exact h.elim
def Vk : Kd (Rat × Rat) where
  R X w cs p := match cs with
    | [.slice A n c, .bool m, .slice B k d, .slice A' n' c', .bool m', .slice B' k' d'] => Rk.R X w [.slice A n c, .bool m, .slice B k d] p.1 ∧ Rk.R X w [.slice A' n' c', .bool m', .slice B' k' d'] p.2
    | _ => False
  st {X X' w w' cs x} h hs hX := by
    split at h
    · exact ⟨Rk.st h.1 hs hX, Rk.st h.2 hs hX⟩
    · exact h.elim
/-! ### .. and of the reference -/
def NZk : Kd Int where
  R X w cs z := match cs with
    | [.int .i64 s, .slice A n c] => NW w s A n z ∧ Avoid X A n
    | _ => False
  st {X X' w w' cs x} h hs hX := by
    split at h
    · exact ⟨⟨h.1.row.stay h.2 hs, h.1.sign⟩, h.2.stay h.1.row hX⟩
    · exact h.elim
/-- A denominator of 0 stands for 1. -/
def NRk : Kd Rat where
  R X w cs r := match cs with
    | [.int .i64 s, .slice A n c, .int .i64 t, .slice B k d] => NZk.R X w [.int .i64 s, .slice A n c] r.num ∧ ∃ q : Int, NZk.R X w [.int .i64 t, .slice B k d] q ∧ (q = r.den ∨ q = 0 ∧ r.den = 1)
    | _ => False
  st {X X' w w' cs x} h hs hX := by
    split at h
    · obtain ⟨h1, q, h2, h3⟩ := h
      exact ⟨NZk.st h1 hs hX, q, NZk.st h2 hs hX, h3⟩
    · exact h.elim
def NVk : Kd (Rat × Rat) where
  R X w cs p := match cs with
    | [.int .i64 s, .slice A n c, .int .i64 t, .slice B k d, .int .i64 s', .slice A' n' c', .int .i64 t', .slice B' k' d'] => NRk.R X w [.int .i64 s, .slice A n c, .int .i64 t, .slice B k d] p.1 ∧ NRk.R X w [.int .i64 s', .slice A' n' c', .int .i64 t', .slice B' k' d'] p.2
    | _ => False
  st {X X' w w' cs x} h hs hX := by
    split at h
    · exact ⟨NRk.st h.1 hs hX, NRk.st h.2 hs hX⟩
    · exact h.elim

section
variable {X : Nat → Prop} {w : World} {A B A' B' : Option Addr} {n k c d n' k' c' d' x : Nat} {m m' : Bool} {z s t s' t' : Int} {r : Rat} {p : Rat × Rat}
theorem Dk.dw (h : Dk.R X w [.slice A n c] x) : DW w A n x := h.1
theorem Dk.row (h : Dk.R X w [.slice A n c] x) : Row 2 w A n (i64s (dg x)) := h.1.row
theorem Dk.len (h : Dk.R X w [.slice A n c] x) : szn x = n := h.1.len
theorem Dk.le (h : Dk.R X w [.slice A n c] x) : n ≤ 9223372036854775807 := h.1.le
theorem Dk.nil (X : Nat → Prop) (w : World) (A : Option Addr) (c : Nat) : Dk.R X w [.slice A 0 c] 0 := ⟨DW.nil w A, Avoid.nil X A⟩
theorem Dk.own {g : Nat} {L : List Int} (h : Own 2 w g n c (i64s L)) (e : L = dg x) (hx : ¬ X g) : Dk.R X w [.slice (some ⟨g, 0, none⟩) n c] x := ⟨DW.of_own h e, Avoid.own hx⟩
theorem Zk.zw (h : Zk.R X w [.slice A n c, .bool m] z) : ZW w A n m z := h.1
theorem Zk.neg (h : Zk.R X w [.slice A n c, .bool m] z) : m = decide (z < 0) := h.1.neg
theorem Zk.dig (h : Zk.R X w [.slice A n c, .bool m] z) : Dk.R X w [.slice A n c] z.natAbs := ⟨h.1.dig, h.2⟩
theorem Zk.nil (X : Nat → Prop) (w : World) (A : Option Addr) (c : Nat) : Zk.R X w [.slice A 0 c, .bool false] 0 := ⟨ZW.zero w A, Avoid.nil X A⟩
theorem Zk.ofD (h : Dk.R X w [.slice A n c] x) : Zk.R X w [.slice A n c, .bool false] (x : Int) := ⟨ZW.ofD h.1, h.2⟩
theorem Zk.made (m : Bool) (h : Dk.R X w [.slice A n c] x) : Zk.R X w [.slice A n c, .bool (m && !(decide (x = 0)))] (Cps.mk m x) := ⟨ZW.made m h.1, h.2⟩
theorem Rk.top (h : Rk.R X w [.slice A n c, .bool m, .slice B k d] r) : Zk.R X w [.slice A n c, .bool m] r.num := h.1
theorem Rk.rest (h : Rk.R X w [.slice A n c, .bool m, .slice B k d] r) : Dk.R X w [.slice B k d] (r.den - 1) := h.2
theorem Rk.of (h : Zk.R X w [.slice A n c, .bool m] r.num) (h' : Dk.R X w [.slice B k d] (r.den - 1)) : Rk.R X w [.slice A n c, .bool m, .slice B k d] r := ⟨h, h'⟩
theorem Rk.whole (h : Zk.R X w [.slice A n c, .bool m] z) (h' : Dk.R X w [.slice B k d] 0) : Rk.R X w [.slice A n c, .bool m, .slice B k d] (z : Rat) :=
  ⟨by rw [Rat.num_intCast]; exact h, by rw [Rat.den_intCast]; exact h'⟩
theorem Rk.nil (X : Nat → Prop) (w : World) (A B : Option Addr) (c d : Nat) : Rk.R X w [.slice A 0 c, .bool false, .slice B 0 d] (0 : Rat) := Rk.whole (z := 0) (Zk.nil X w A c) (Dk.nil X w B d)
theorem Rk.ratio {i j g : Int} (hd : j ≠ 0) (hg : g = if j < 0 then -(Int.gcd i j : Int) else (Int.gcd i j : Int)) (h : Zk.R X w [.slice A n c, .bool m] (i / g)) (h' : Dk.R X w [.slice B k d] ((j / g).natAbs - 1)) : Rk.R X w [.slice A n c, .bool m, .slice B k d] (Rat.divInt i j) :=
  ⟨by rw [← ratio_num i j hd g hg]; exact h, by rw [← ratio_den i j hd g hg]; exact h'⟩
theorem Vk.fst (h : Vk.R X w [.slice A n c, .bool m, .slice B k d, .slice A' n' c', .bool m', .slice B' k' d'] p) : Rk.R X w [.slice A n c, .bool m, .slice B k d] p.1 := h.1
theorem Vk.snd (h : Vk.R X w [.slice A n c, .bool m, .slice B k d, .slice A' n' c', .bool m', .slice B' k' d'] p) : Rk.R X w [.slice A' n' c', .bool m', .slice B' k' d'] p.2 := h.2
theorem Vk.of {q : Rat} (h : Rk.R X w [.slice A n c, .bool m, .slice B k d] r) (h' : Rk.R X w [.slice A' n' c', .bool m', .slice B' k' d'] q) : Vk.R X w [.slice A n c, .bool m, .slice B k d, .slice A' n' c', .bool m', .slice B' k' d'] (r, q) := ⟨h, h'⟩
theorem NZk.nw (h : NZk.R X w [.int .i64 s, .slice A n c] z) : NW w s A n z := h.1
theorem NZk.row (h : NZk.R X w [.int .i64 s, .slice A n c] z) : Row 3 w A n (i64s (gp z.natAbs)) := h.1.row
theorem NZk.sign (h : NZk.R X w [.int .i64 s, .slice A n c] z) : s = z.sign := h.1.sign
theorem NZk.len (h : NZk.R X w [.int .i64 s, .slice A n c] z) : (gp z.natAbs).length = n := h.1.len
theorem NZk.le (h : NZk.R X w [.int .i64 s, .slice A n c] z) : n ≤ 9223372036854775807 := h.1.le
theorem NZk.nil (X : Nat → Prop) (w : World) (A : Option Addr) (c : Nat) : NZk.R X w [.int .i64 0, .slice A 0 c] 0 := ⟨NW.zero w A, Avoid.nil X A⟩
theorem NZk.own {g : Nat} {L : List Int} (h : Own 3 w g n c (i64s L)) (e : L = gp z.natAbs) (hs : s = z.sign) (hx : ¬ X g) : NZk.R X w [.int .i64 s, .slice (some ⟨g, 0, none⟩) n c] z := ⟨⟨e ▸ h.row, hs⟩, Avoid.own hx⟩
theorem NRk.top (h : NRk.R X w [.int .i64 s, .slice A n c, .int .i64 t, .slice B k d] r) : NZk.R X w [.int .i64 s, .slice A n c] r.num := h.1
theorem NRk.of (h : NZk.R X w [.int .i64 s, .slice A n c] r.num) (h' : NZk.R X w [.int .i64 t, .slice B k d] (r.den : Int)) : NRk.R X w [.int .i64 s, .slice A n c, .int .i64 t, .slice B k d] r := ⟨h, _, h', .inl rfl⟩
theorem NRk.nil (X : Nat → Prop) (w : World) (A B : Option Addr) (c d : Nat) : NRk.R X w [.int .i64 0, .slice A 0 c, .int .i64 0, .slice B 0 d] (0 : Rat) := ⟨NZk.nil X w A c, 0, NZk.nil X w B d, .inr ⟨rfl, rfl⟩⟩
theorem NVk.fst (h : NVk.R X w [.int .i64 s, .slice A n c, .int .i64 t, .slice B k d, .int .i64 s', .slice A' n' c', .int .i64 t', .slice B' k' d'] p) : NRk.R X w [.int .i64 s, .slice A n c, .int .i64 t, .slice B k d] p.1 := h.1
theorem NVk.snd (h : NVk.R X w [.int .i64 s, .slice A n c, .int .i64 t, .slice B k d, .int .i64 s', .slice A' n' c', .int .i64 t', .slice B' k' d'] p) : NRk.R X w [.int .i64 s', .slice A' n' c', .int .i64 t', .slice B' k' d'] p.2 := h.2
theorem NVk.of {q : Rat} (h : NRk.R X w [.int .i64 s, .slice A n c, .int .i64 t, .slice B k d] r) (h' : NRk.R X w [.int .i64 s', .slice A' n' c', .int .i64 t', .slice B' k' d'] q) : NVk.R X w [.int .i64 s, .slice A n c, .int .i64 t, .slice B k d, .int .i64 s', .slice A' n' c', .int .i64 t', .slice B' k' d'] (r, q) := ⟨h, h'⟩
end

/-! ### Operations on rows of whole numbers -/
section
variable {P : Program} {t e : TypeId} {bytes : Nat} {u : World} {a : Act} {dst : Option Tmp} {ty : TypeId} {pos : String} {af : Array Edge} {gd : Option (Nat × Bool)}
theorem op_set_i64 {t' : TypeId} {x y : Operand} {g n c : Nat} {L : List Int} (j : Nat) (v : Int) (hs : ∀ u, (Go.sizeOf t').run P u = .ok 1 u) (hO : Own e u g n c (i64s L)) (hx : a.eval x = elemPtr (some ⟨g, 0, none⟩) j) (hy : a.eval y = .int .i64 v) (hj : j < n) :
    ∃ u', (execOp a.eval ⟨dst, .store t' x y, ty, pos, af, gd⟩).run P u = .ok .skip u' ∧ (∃ cs, Stored u g cs e u') ∧ Own e u' g n c (i64s (L.set j v)) := by
  rw [i64s_set]; exact op_store_elem hx hy hs rfl rfl hO hj
theorem op_append_i64 (hT : RowT P t e (.int .i64 0) bytes) {s x : Operand} {g n c m cx : Nat} {L K : List Int} {A : Option Addr} (hO : Own e u g n c (i64s L)) (hR : Row e u A m (i64s K)) (hs : a.eval s = .slice (some ⟨g, 0, none⟩) n c) (hx : a.eval x = .slice A m cx) (hb : (n + m) * bytes ≤ 140737488355328) (h63 : n + m ≤ 9223372036854775807) :
    ∃ g' c' u', (execOp a.eval ⟨dst, .call { callee := .builtin .append, args := #[s, x], argTypes := #[t, t] }, ty, pos, af, gd⟩).run P u = .ok (.value (.slice (some ⟨g', 0, none⟩) (n + m) c')) u' ∧ Grew u g g' u' ∧ Own e u' g' (n + m) c' (i64s (L ++ K)) := by
  rw [i64s_append]; exact op_append hT hs hx hO hR (i64s_one K) hb h63
theorem op_appnil_i64 (hT : RowT P t e (.int .i64 0) bytes) {s x : Operand} {m cx : Nat} {K : List Int} {A : Option Addr} (hR : Row e u A m (i64s K)) (hs : a.eval s = .slice none 0 0) (hx : a.eval x = .slice A m cx) (hm : 0 < m) (hb : m * bytes ≤ 140737488355328) (h63 : m ≤ 9223372036854775807) :
    ∃ g' c' u', (execOp a.eval ⟨dst, .call { callee := .builtin .append, args := #[s, x], argTypes := #[t, t] }, ty, pos, af, gd⟩).run P u = .ok (.value (.slice (some ⟨g', 0, none⟩) m c')) u' ∧ Grew u u.heap.size g' u' ∧ Own e u' g' m c' (i64s K) :=
  op_append_nil hT hs hx hR hm hb h63
theorem op_copy_i64 (hT : RowT P t e (.int .i64 0) bytes) {s x : Operand} {g n c m cx : Nat} {L K : List Int} {A : Option Addr} (hO : Own e u g n c (i64s L)) (hR : Row e u A m (i64s K)) (hs : a.eval s = .slice (some ⟨g, 0, none⟩) n c) (hx : a.eval x = .slice A m cx) (hmn : m ≤ n) :
    ∃ u', (execOp a.eval ⟨dst, .call { callee := .builtin .copy, args := #[s, x], argTypes := #[t, t] }, ty, pos, af, gd⟩).run P u = .ok (.value (.int .i64 m)) u' ∧ Grew u g g u' ∧ Own e u' g n c (i64s (K ++ L.drop m)) := by
  rw [i64s_append, i64s_drop]; exact op_copy hT hs hx hO hR (i64s_one K) hmn
theorem own_made_i64 {g n m : Nat} {u' : World} (hm : Made u g (.cells (madeCells #[.int .i64 0] m) e) u') (hnm : n ≤ m) (h63 : m ≤ 9223372036854775807) : Own e u' g n m (i64s (List.replicate n 0)) := by
  rw [i64s_zeros]; exact own_made hm hnm h63
theorem own_one_i64 {g : Nat} {v : Int} {u' : World} (hm : Made u g (.cells #[.int .i64 v] e) u') : Own e u' g 1 1 (i64s [v]) := own_one hm
theorem Own.cut_i64 {g n c j : Nat} {L : List Int} (hj : j ≤ n) (h : Own e u g n c (i64s L)) : Own e u g j c (i64s (L.take j)) := by rw [i64s_take]; exact h.cut hj
theorem Own.say {g n c : Nat} {L L' : List Int} (e' : L = L') (h : Own e u g n c (i64s L)) : Own e u g n c (i64s L') := e' ▸ h
end
end Cps
