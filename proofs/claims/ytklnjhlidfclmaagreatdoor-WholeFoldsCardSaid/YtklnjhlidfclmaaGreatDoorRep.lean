/- How numbers lie in memory: rows of digits that nobody writes any more; and that such rows stay while other memory is made or written. -/
import Derived.WalkKit
import Derived.Lib.Hide
import Derived.Test.YtklnjhlidfclmaaGreatDoorNum
set_option linter.unusedVariables false
namespace Cps
open Go Go.RowKit

/-- Rows of type t stay as they are. -/
structure Keep (t : TypeId) (w w' : World) : Prop where
  at_ : ∀ (g : Nat) (c : Array Value) (fr : Nat × Nat), w.heap[g]? = some (.cells c t fr) → w'.heap[g]? = some (.cells c t fr)

theorem Keep.refl (t : TypeId) (w : World) : Keep t w w := ⟨fun _ _ _ h => h⟩
theorem Keep.trans {t : TypeId} {a b c : World} (h : Keep t a b) (k : Keep t b c) : Keep t a c := ⟨fun g cs fr hg => k.at_ g cs fr (h.at_ g cs fr hg)⟩
theorem Keep.drew {t : TypeId} {a w : World} (h : Keep t a w) : Keep t a w.drew := ⟨h.at_⟩
theorem Keep.alloc {t : TypeId} {a w : World} (h : Keep t a w) (o : Obj) : Keep t a (w.alloc o) :=
  ⟨fun g c fr hg => by
    have := h.at_ g c fr hg
    rw [Below.heap_alloc _ _ _ (Array.getElem?_eq_some_iff.1 this).1]; exact this⟩
theorem Keep.below {t : TypeId} {a w w' : World} (h : Keep t a w) (hb : Below w.heap.size w w') : Keep t a w' :=
  ⟨fun g c fr hg => by
    have := h.at_ g c fr hg
    rw [hb.block g (Array.getElem?_eq_some_iff.1 this).1]; exact this⟩
/-- A store into a block of another type. -/
theorem Keep.setCell {t : TypeId} {a w : World} (h : Keep t a w) {p : Addr} (v : Value) (hp : ∀ c fr, w.heap[p.block]? ≠ some (.cells c t fr)) : Keep t a (w.setCell p v) :=
  ⟨fun g c fr hg => by
    have := h.at_ g c fr hg
    have hne : g ≠ p.block := fun e => hp c fr (e ▸ this)
    rw [Below.heap_setCell _ _ _ _ hne]; exact this⟩

/-- A row of type t whose cells from the slice's begin on are xs. -/
def Row (t : TypeId) (w : World) (A : Option Addr) (n : Nat) (xs : List Value) : Prop :=
  xs.length = n ∧ n ≤ 9223372036854775807 ∧ (0 < n → ∃ g off c fr, A = some ⟨g, off, none⟩ ∧ w.heap[g]? = some (.cells c t fr) ∧ ∀ j, j < n → c[off + j]? = xs[j]?)

theorem Row.keep {t : TypeId} {w w' : World} {A : Option Addr} {n : Nat} {xs : List Value} (h : Row t w A n xs) (k : Keep t w w') : Row t w' A n xs :=
  ⟨h.1, h.2.1, fun hn => by
    obtain ⟨g, off, c, fr, hA, hg, hc⟩ := h.2.2 hn
    exact ⟨g, off, c, fr, hA, k.at_ _ _ _ hg, hc⟩⟩

theorem Row.nil (t : TypeId) (w : World) (A : Option Addr) : Row t w A 0 [] := ⟨rfl, by omega, fun h => absurd h (by omega)⟩

theorem add_at (g off j : Nat) : (⟨g, off, none⟩ : Addr).add j = ⟨g, off + j, none⟩ := by
  unfold Addr.add
  split
  · rename_i h; subst h; rfl
  · rfl

/-- The cell of element j. -/
theorem Row.at_ {t : TypeId} {w : World} {A : Option Addr} {n : Nat} {xs : List Value} (h : Row t w A n xs) (j : Nat) (hj : j < n) :
    ∃ ad, A = some ad ∧ w.cell? (ad.add j) = some (xs[j]'(by rw [h.1]; exact hj)) := by
  obtain ⟨g, off, c, fr, rfl, hg, hc⟩ := h.2.2 (by omega)
  refine ⟨_, rfl, ?_⟩
  have h1 := hc j hj
  rw [List.getElem?_eq_getElem (by rw [h.1]; exact hj)] at h1
  rw [add_at]
  simp only [World.cell?, hg, h1]
  rfl

/-- What the call owns, read. -/
theorem Row.of_owns {w : World} {base : Nat} {t : TypeId} {v : Value} {n : Nat} {xs : List Value} (h : w.ownsRow base t 1 v n xs) : ∃ A c, v = .slice A n c ∧ Row t w A n xs := by
  have hl : xs.length = n := by have := h.1; omega
  rcases h.2 with ⟨rfl, h2⟩ | ⟨g, cap, cur, rfl, hb, hh, h1, h2, h3, h4⟩
  · have h0 : n = 0 := by omega
    subst h0
    exact ⟨none, 0, rfl, hl, by omega, fun hp => absurd hp (by omega)⟩
  · refine ⟨_, cap, rfl, hl, by simp only [maxLen] at h2; omega, fun hp => ⟨g, 0, cur, (0, 0), rfl, hh, fun j hj => ?_⟩⟩
    rw [← h4]
    rw [List.getElem?_take, if_pos (by omega)]
    simp

/-! ### Numbers in memory -/
def i64s (xs : List Int) : List Value := xs.map (Value.int .i64)
@[simp] theorem i64s_length (xs : List Int) : (i64s xs).length = xs.length := by simp [i64s]

/-- The digits of a natural number, as the program keeps them. -/
abbrev dg (n : Nat) : List Int := digs 16777216 n
/-- The groups of a natural number, as the reference keeps them. -/
abbrev gp (n : Nat) : List Int := digs 10000 n

/-- A slice holds the digits of x. -/
structure DW (w : World) (A : Option Addr) (n : Nat) (x : Nat) : Prop where
  row : Row 2 w A n (i64s (dg x))
/-- A slice and a sign are an integer of the program. -/
structure ZW (w : World) (A : Option Addr) (n : Nat) (m : Bool) (z : Int) : Prop where
  dig : DW w A n z.natAbs
  neg : m = decide (z < 0)
/-- A slice of groups and a sign are an integer of the reference. -/
structure NW (w : World) (s : Int) (A : Option Addr) (n : Nat) (z : Int) : Prop where
  row : Row 3 w A n (i64s (gp z.natAbs))
  sign : s = z.sign

theorem DW.len {w : World} {A : Option Addr} {n x : Nat} (h : DW w A n x) : (dg x).length = n := by have := h.row.1; simpa using this
theorem DW.le {w : World} {A : Option Addr} {n x : Nat} (h : DW w A n x) : n ≤ 9223372036854775807 := h.row.2.1
theorem NW.len {w : World} {s : Int} {A : Option Addr} {n : Nat} {z : Int} (h : NW w s A n z) : (gp z.natAbs).length = n := by have := h.row.1; simpa using this
theorem NW.le {w : World} {s : Int} {A : Option Addr} {n : Nat} {z : Int} (h : NW w s A n z) : n ≤ 9223372036854775807 := h.row.2.1
theorem DW.below {w w' : World} {A : Option Addr} {n x : Nat} (h : DW w A n x) (k : Keep 2 w w') : DW w' A n x := ⟨h.row.keep k⟩
theorem ZW.below {w w' : World} {A : Option Addr} {n : Nat} {m : Bool} {z : Int} (h : ZW w A n m z) (k : Keep 2 w w') : ZW w' A n m z := ⟨h.dig.below k, h.neg⟩
theorem NW.below {w w' : World} {s : Int} {A : Option Addr} {n : Nat} {z : Int} (h : NW w s A n z) (k : Keep 3 w w') : NW w' s A n z := ⟨h.row.keep k, h.sign⟩

/-! ### Blocks that a function makes at its begin -/
def allocs (w : World) (l : List Obj) : World := l.foldl World.alloc w
theorem allocs_size (w : World) (l : List Obj) : (allocs w l).heap.size = w.heap.size + l.length := by
  induction l generalizing w with
  | nil => rfl
  | cons o l ih => simp only [allocs, List.foldl_cons] at *; rw [ih]; simp; omega
theorem allocs_below (w : World) (l : List Obj) : Below w.heap.size w (allocs w l) := by
  induction l generalizing w with
  | nil => exact Below.refl _ _
  | cons o l ih =>
    simp only [allocs, List.foldl_cons] at *
    exact ((Below.refl _ w).alloc (Nat.le_refl _) o).trans ((ih (w.alloc o)).mono (by simp))
theorem allocs_keep (t : TypeId) (w : World) (l : List Obj) : Keep t w (allocs w l) := (Keep.refl t w).below (allocs_below w l)
theorem allocs_at (w : World) (l : List Obj) (j : Nat) (o : Obj) (h : l[j]? = some o) : (allocs w l).heap[w.heap.size + j]? = some o := by
  induction l generalizing w j with
  | nil => simp at h
  | cons p l ih =>
    simp only [allocs, List.foldl_cons] at *
    cases j with
    | zero =>
      simp at h; subst h
      have hb := allocs_below (w.alloc p) l
      have := hb.block w.heap.size (by simp)
      simp only [allocs] at this
      rw [Nat.add_zero, this]
      exact heap_alloc_new w p
    | succ j =>
      have := ih (w.alloc p) j (by simpa using h)
      rw [World.size_alloc] at this
      rw [show w.heap.size + (j + 1) = w.heap.size + 1 + j by omega]; exact this

theorem allocs_at0 (w : World) (l : List Obj) (o : Obj) (h : l[0]? = some o) : (allocs w l).heap[w.heap.size]? = some o := by
  have := allocs_at w l 0 o h
  rwa [Nat.add_zero] at this

/-- The blocks below B are as they were in W. -/
structure Same (B : Nat) (W w : World) : Prop where
  at_ : ∀ k, k < B → w.heap[k]? = W.heap[k]?
theorem Same.cell {B : Nat} {W w : World} (h : Same B W w) {g : Nat} {cs : Array Value} {t : TypeId} {fr : Nat × Nat} (hg : W.heap[g]? = some (.cells cs t fr)) (hb : g < B) (o : Nat) (v : Value) (hv : cs[o]? = some v) : w.cell? ⟨g, o, none⟩ = some v := by
  simp [World.cell?, h.at_ g hb, hg, hv]
theorem Same.free {B : Nat} {W w : World} (h : Same B W w) {g : Nat} {cs : Array Value} {t : TypeId} (hg : W.heap[g]? = some (.cells cs t (0, 0))) (hb : g < B) (o : Nat) : w.frozen? ⟨g, o, none⟩ = false := by
  simp [World.frozen?, h.at_ g hb, hg]
theorem Same.of_below {W w : World} (h : Below W.heap.size W w) : Same W.heap.size W w := ⟨h.block⟩

end Cps
