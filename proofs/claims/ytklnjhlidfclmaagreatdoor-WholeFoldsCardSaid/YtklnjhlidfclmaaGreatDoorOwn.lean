/- Rows that a function writes itself: made, read, written, grown, copied into, cut. Over any program. -/
import Derived.Test.YtklnjhlidfclmaaGreatDoorOps
import Derived.Laws.AppendOwn
import Derived.Laws.MakeOwn
import Derived.Laws.Bits128
import Derived.KernelRfl
set_option linter.unusedVariables false
namespace Cps
open Go Go.RowKit

/-- The address of element j of a slice. -/
def elemPtr (A : Option Addr) (j : Nat) : Value := .pointer (A.map (·.add j))

/-- A slice type whose elements are one cell. -/
structure RowT (P : Program) (t e : TypeId) (z : Value) (bytes : Nat) : Prop where
  und : P.underlying t = some (.slice e)
  inf : (P.info? e).map (fun i => (i.zero, i.size, i.bytes)) = some (some z, 1, bytes)
  one : z.cells = #[z]

/-- A row that starts its block, of n elements and room for c. -/
structure Own (e : TypeId) (w : World) (g n c : Nat) (xs : List Value) : Prop where
  at_ : ∃ cur, w.heap[g]? = some (.cells cur e (0, 0)) ∧ cur.size = c ∧ cur.toList.take n = xs
  le : n ≤ c
  cap : n ≤ 9223372036854775807

theorem Own.len {e : TypeId} {w : World} {g n c : Nat} {xs : List Value} (h : Own e w g n c xs) : xs.length = n := by
  obtain ⟨cur, _, h2, h3⟩ := h.at_
  rw [← h3, List.length_take, Array.length_toList]; have := h.le; omega
theorem Own.lt {e : TypeId} {w : World} {g n c : Nat} {xs : List Value} (h : Own e w g n c xs) : g < w.heap.size := by
  obtain ⟨cur, h1, _⟩ := h.at_
  exact lt_of_at h1
theorem Own.trans {e : TypeId} {w w' : World} {g n c : Nat} {xs : List Value} (hb : w'.heap[g]? = w.heap[g]?) (h : Own e w g n c xs) : Own e w' g n c xs := by
  obtain ⟨cur, h1, h2, h3⟩ := h.at_
  exact ⟨⟨cur, hb.trans h1, h2, h3⟩, h.le, h.cap⟩
theorem Own.row {e : TypeId} {w : World} {g n c : Nat} {xs : List Value} (h : Own e w g n c xs) : Row e w (some ⟨g, 0, none⟩) n xs := by
  refine ⟨h.len, h.cap, fun hn => ?_⟩
  obtain ⟨cur, h1, h2, h3⟩ := h.at_
  refine ⟨g, 0, cur, (0, 0), rfl, h1, fun j hj => ?_⟩
  rw [← h3, List.getElem?_take, if_pos hj]
  simp
theorem Own.other {e e' : TypeId} {w : World} {g n c : Nat} {xs : List Value} (h : Own e w g n c xs) (hne : (e == e') = false) : Other e' w g := by
  obtain ⟨cur, h1, h2, h3⟩ := h.at_
  exact other_of h1 hne
theorem Own.ne {e e' : TypeId} {w : World} {g g' n c : Nat} {xs : List Value} (h : Own e w g n c xs) {cs : Array Value} {fr : Nat × Nat} (h' : w.heap[g']? = some (.cells cs e' fr)) (hne : (e == e') = false) : g' ≠ g :=
  fun q => h.other hne cs fr (q ▸ h')

/-- Row g grew: it is g' now. -/
structure Grew (w : World) (g g' : Nat) (u : World) : Prop where
  os : u.os = w.os
  tape : u.tape = w.tape
  output : u.output = w.output
  size : w.heap.size ≤ u.heap.size
  block : ∀ k, k < w.heap.size → k ≠ g → u.heap[k]? = w.heap[k]?
  new : g' = g ∨ w.heap.size ≤ g'
theorem Upd.grew {G : List Nat} {W u u' : World} {g g' : Nat} (h : Upd G W u) (b : Grew u g g' u') : Upd (g :: G) W u' :=
  ⟨b.os.trans h.os, b.tape.trans h.tape, b.output.trans h.output, Nat.le_trans h.size b.size, fun k hk hg => (b.block k (Nat.lt_of_lt_of_le hk h.size) (fun e => hg (by simp [e]))).trans (h.block k hk (fun e => hg (by simp [e])))⟩
theorem Upd.grewNew {G : List Nat} {W u u' : World} {g g' : Nat} (h : Upd G W u) (b : Grew u g g' u') (hg : W.heap.size ≤ g) : Upd G W u' :=
  ⟨b.os.trans h.os, b.tape.trans h.tape, b.output.trans h.output, Nat.le_trans h.size b.size, fun k hk hk' => (b.block k (Nat.lt_of_lt_of_le hk h.size) (fun e => by omega)).trans (h.block k hk hk')⟩

section
variable {P : Program} {t e : TypeId} {z : Value} {bytes : Nat}

theorem RowT.info (h : RowT P t e z bytes) : ∃ i, P.info? e = some i ∧ i.zero = some z ∧ i.size = 1 ∧ i.bytes = bytes := by
  obtain ⟨i, hi, hz⟩ := Option.map_eq_some_iff.1 h.inf
  simp only [Prod.mk.injEq] at hz
  exact ⟨i, hi, hz.1, hz.2.1, hz.2.2⟩
theorem RowT.size (h : RowT P t e z bytes) (w : World) : (Go.sizeOf e).run P w = .ok 1 w := by
  obtain ⟨i, hi, _, hs, _⟩ := h.info
  simp [Go.sizeOf, typeInfo, hi, hs]

variable {w : World} {a : Act} {d : Option Tmp} {ty : TypeId} {pos : String} {af : Array Edge} {gd : Option (Nat × Bool)}

theorem op_index (h : RowT P t e z bytes) {x y : Operand} {A : Option Addr} {n c : Nat} {k : IntKind} {i : Int} (j : Nat) (hx : a.eval x = .slice A n c) (hy : a.eval y = .int k i) (hi : i = j) (hj : j < n) {xs : List Value} (hR : Row e w A n xs) (u : World) :
    (execOp a.eval ⟨d, .indexAddr t x y, ty, pos, af, gd⟩).run P u = .ok (.value (elemPtr A j)) u := by
  obtain ⟨ad, rfl, _⟩ := hR.at_ j hj
  have h1 : (Instr.indexAt t (.slice (some ad) n c) (.int k i)).run P u = .ok (.pointer (some (ad.add j))) u := by
    have hc : (0 ≤ i ∧ i < (n : Int)) := by omega
    simp only [Instr.indexAt, asIntOf, Sem.run_bind, Sem.run_pure, Result.andThen, run_underlying h.und, if_pos hc, h.size u]
    subst hi; simp
  simp only [execOp, hx, hy, Sem.run_bind, Sem.run_pure, Result.andThen, h1]
  rfl

theorem op_load_elem {x : Operand} {A : Option Addr} {n j : Nat} {xs : List Value} {t' : TypeId} (hx : a.eval x = elemPtr A j) (ha : ∀ u, (isAgg t').run P u = .ok false u) (hR : Row e w A n xs) (hj : j < n) :
    (execOp a.eval ⟨d, .load t' x, ty, pos, af, gd⟩).run P w = .ok (.value (xs.getD j undef)) w := by
  obtain ⟨ad, rfl, hc⟩ := hR.at_ j hj
  have hl := hR.1
  have h1 : (loadVar t' (ad.add j)).run P w = .ok (xs.getD j undef) w := by
    simp only [loadVar, Sem.run_bind, ha, Result.andThen, Bool.false_eq_true, if_false, run_load, hc]
    simp [hl, hj]
  simp only [execOp, hx, elemPtr, Option.map_some, Instr.loadAt, Instr.sureAddr, Sem.run_bind, Sem.run_pure, Result.andThen, h1]

theorem i64s_getD (L : List Int) (j : Nat) (hj : j < L.length) : (i64s L).getD j undef = .int .i64 (L.getD j 0) := by
  simp [i64s, hj]
theorem op_load_i64 {x : Operand} {A : Option Addr} {n j : Nat} {L : List Int} {t' : TypeId} (hx : a.eval x = elemPtr A j) (ha : ∀ u, (isAgg t').run P u = .ok false u) (hR : Row e w A n (i64s L)) (hj : j < n) :
    (execOp a.eval ⟨d, .load t' x, ty, pos, af, gd⟩).run P w = .ok (.value (.int .i64 (L.getD j 0))) w := by
  rw [op_load_elem hx ha hR hj, i64s_getD _ _ (by have := hR.1; simp at this; omega)]

/-- A store into one's own row. -/
theorem op_store_elem {x y : Operand} {g n c j : Nat} {xs : List Value} {v : Value} {t' : TypeId} (hx : a.eval x = elemPtr (some ⟨g, 0, none⟩) j) (hy : a.eval y = v) (hs : ∀ u, (Go.sizeOf t').run P u = .ok 1 u) (hv : v.cells = #[v]) (hcv : cellVal v = true)
    (hO : Own e w g n c xs) (hj : j < n) : ∃ u, (execOp a.eval ⟨d, .store t' x y, ty, pos, af, gd⟩).run P w = .ok .skip u ∧ (∃ cs, Stored w g cs e u) ∧ Own e u g n c (xs.set j v) := by
  obtain ⟨cur, h1, h2, h3⟩ := hO.at_
  have hjc : j < cur.size := by have := hO.le; omega
  have hx' : a.eval x = .pointer (some ⟨g, j, none⟩) := by rw [hx]; simp only [elemPtr, Option.map_some, add_at, Nat.zero_add]
  have hall : v.cells.toList.all cellVal = true := by rw [hv]; simp [hcv]
  obtain ⟨u, hr, hst⟩ := op_store (P := P) (d := d) (ty := ty) (pos := pos) (af := af) (gd := gd) (t := t') hx' hy (by intro u; rw [hv]; exact hs u) h1 (by rw [hv]; simp; omega) hall rfl
  refine ⟨u, hr, ⟨_, hst⟩, ⟨_, hst.at_, ?_, ?_⟩, hO.le, hO.cap⟩
  · rw [hv]; simp [putFrom, h2]
  · rw [hv]; simp only [putFrom, Array.toList_setIfInBounds]
    rw [← h3, List.take_set]

theorem madeCells_one (z : Value) (n : Nat) : (madeCells #[z] n).toList = List.replicate n z := by
  apply List.ext_getElem?
  intro j
  simp [madeCells, Nat.mod_one]
  by_cases hj : j < n
  · simp [hj]
  · simp [hj]

theorem op_make (h : RowT P t e z bytes) {x y : Operand} {kl kc : IntKind} {l c : Int} (n m : Nat) (hx : a.eval x = .int kl l) (hy : a.eval y = .int kc c) (hl : l = n) (hc : c = m) (hnm : n ≤ m) (hb : m * bytes ≤ 281474976710656) (h63 : m ≤ 9223372036854775807) :
    (execOp a.eval ⟨d, .makeSlice t x y, ty, pos, af, gd⟩).run P w = .ok (.value (.slice (some ⟨w.heap.size, 0, none⟩) n m)) (w.alloc (.cells (madeCells #[z] m) e)) := by
  obtain ⟨i, hi, hz, hs, hbb⟩ := h.info
  have h1 := run_make (P := P) w t e i z h.und hi hz kl kc l c (by omega) (by omega) (by rw [hbb, hc]; have : ((m * bytes : Nat) : Int) ≤ 281474976710656 := by omega
                                                                                         rw [Int.natCast_mul, Int.mul_comm] at this; exact this) (by omega)
  rw [h.one, hs, Nat.mul_one] at h1
  subst hl hc
  simp only [Int.toNat_natCast] at h1
  simp only [execOp, hx, hy, Sem.run_bind, Sem.run_pure, Result.andThen, h1]

theorem own_made {g n m : Nat} {u : World} (hm : Made w g (.cells (madeCells #[z] m) e) u) (hnm : n ≤ m) (h63 : m ≤ 9223372036854775807) : Own e u g n m (List.replicate n z) :=
  ⟨⟨_, hm.at_, size_madeCells _ _, by rw [madeCells_one, List.take_replicate]; congr 1; omega⟩, hnm, Nat.le_trans hnm h63⟩

/-- One element in a row of its own. -/
theorem op_build1 (h : RowT P t e z bytes) {x : Operand} {v : Value} (hx : a.eval x = v) (hv : v.cells = #[v]) :
    (execOp a.eval ⟨d, .buildSlice t 1 #[(0, x)], ty, pos, af, gd⟩).run P w = .ok (.value (.slice (some ⟨w.heap.size, 0, none⟩) 1 1)) (w.alloc (.cells #[v] e)) := by
  obtain ⟨i, hi, hz, hs, hbb⟩ := h.info
  have h1 : (Instr.buildSlice t 1 #[(0, v)]).run P w = .ok (.slice (some ⟨w.heap.size, 0, none⟩) 1 1) (w.alloc (.cells #[v] e)) := by
    have hone := h.one
    simp [Instr.buildSlice, run_underlying h.und, h.size, zeroValue, typeInfo, hi, hz, hone, Instr.fill, hv, newRow, show Array.range 1 = #[0] from by decide]
  simp only [execOp, List.map_toArray, List.map_cons, List.map_nil, hx, Sem.run_bind, Sem.run_pure, Result.andThen, h1]
theorem own_one {g : Nat} {u : World} {v : Value} (hm : Made w g (.cells #[v] e) u) : Own e u g 1 1 [v] := ⟨⟨_, hm.at_, rfl, rfl⟩, by omega, by omega⟩

theorem Row.cells {A : Option Addr} {m : Nat} {ys : List Value} {ad : Addr} (h : Row e w A m ys) (hA : A = some ad) : ∀ j u, ys[j]? = some u → w.cell? (ad.add j) = some u := fun j u hj => by
  have hjl : j < m := by rw [← h.1]; exact (List.getElem?_eq_some_iff.1 hj).1
  obtain ⟨ad', hA', hc⟩ := h.at_ j hjl
  rw [hA] at hA'; injection hA' with hA'; subst hA'
  rw [hc]
  rw [List.getElem?_eq_getElem (by rw [h.1]; exact hjl)] at hj
  exact hj

theorem run_append (hT : RowT P t e z bytes) {g n c m cx : Nat} {xs ys : List Value} {A : Option Addr} (hO : Own e w g n c xs) (hR : Row e w A m ys) (h1 : ∀ u ∈ ys, u.oneCell' = true) (hb : (n + m) * bytes ≤ 140737488355328) (h63 : n + m ≤ 9223372036854775807) :
    ∃ g' c' u, (Builtin.append_ #[t, t] ty #[.slice (some ⟨g, 0, none⟩) n c, .slice A m cx]).run P w = .ok (.slice (some ⟨g', 0, none⟩) (n + m) c') u ∧ Grew w g g' u ∧ Own e u g' (n + m) c' (xs ++ ys) := by
  obtain ⟨i, hi, hz, hs, hbb⟩ := hT.info
  obtain ⟨cur, hg, hcs, htake⟩ := hO.at_
  have hxl := hO.len
  have hyl := hR.1
  rcases A with _ | ad
  · have hm : m = 0 := by
      rcases Nat.eq_zero_or_pos m with h | h
      · exact h
      · obtain ⟨_, _, _, _, hA, _⟩ := hR.2.2 h; simp at hA
    subst hm
    have hy : ys = [] := List.eq_nil_of_length_eq_zero hyl
    subst hy
    refine ⟨g, c, w, ?_, ⟨rfl, rfl, rfl, Nat.le_refl _, fun _ _ _ => rfl, .inl rfl⟩, by simpa using hO⟩
    have hnc := hO.le
    simp [Builtin.append_, run_underlying hT.und, Go.sizeOf, typeInfo, hi, Builtin.lenOf, Builtin.firstCells, hnc, storeCells]
  · have hnews := hR.cells rfl
    by_cases hroom : n + m ≤ c
    · have hr := run_append_room (P := P) w t ty e i hT.und hi g n c cur hg ad m cx ys (by rw [hs]; omega) hnews h1 hroom (by rw [hs]; omega)
      refine ⟨g, c, _, hr, ⟨rfl, rfl, rfl, by simp, fun k _ hk => setRow_other w g k _ hk, .inl rfl⟩, ⟨_, setRow_heap w g cur _ e _ hg, ?_, ?_⟩, hroom, h63⟩
      · simp only [List.size_toArray, List.length_append, List.length_take, List.length_drop, Array.length_toList, hs]; omega
      · rw [hs, Nat.mul_one, htake, show n + m = (xs ++ ys).length by simp; omega]
        exact List.take_left
    · have holds : ∀ j u, xs[j]? = some u → w.cell? ((⟨g, 0, none⟩ : Addr).add j) = some u := hO.row.cells rfl
      have hr := run_append_grow (P := P) w t ty e i z hT.und hi hz ⟨g, 0, none⟩ n c xs (by rw [hs]; omega) holds ad m cx ys (by rw [hs]; omega) hnews (by omega) (by omega) (growslice_fits (by omega) (by rw [hbb]; exact hb))
      have hge := grownCap_ge w (n + m) c e
      have hle := grownCap_le_maxLen w (n + m) c e (by simp only [maxLen]; omega)
      simp only [maxLen] at hle
      refine ⟨_, _, _, hr, ⟨rfl, rfl, rfl, by simp, fun k hk _ => heap_alloc_old w.drew _ hk, .inr (Nat.le_refl _)⟩, ⟨_, heap_alloc_new w.drew _, ?_, ?_⟩, hge, by omega⟩
      · simp only [Array.size_append, List.size_toArray, size_zeroCells, hT.one]; simp; omega
      · simp only [Array.toList_append, List.append_assoc]
        rw [← List.append_assoc, show n + m = (xs ++ ys).length by simp; omega]
        exact List.take_left

theorem op_append (hT : RowT P t e z bytes) {s x : Operand} {g n c m cx : Nat} {xs ys : List Value} {A : Option Addr} (hs : a.eval s = .slice (some ⟨g, 0, none⟩) n c) (hx : a.eval x = .slice A m cx) (hO : Own e w g n c xs) (hR : Row e w A m ys) (h1 : ∀ u ∈ ys, u.oneCell' = true) (hb : (n + m) * bytes ≤ 140737488355328) (h63 : n + m ≤ 9223372036854775807) :
    ∃ g' c' u, (execOp a.eval ⟨d, .call { callee := .builtin .append, args := #[s, x], argTypes := #[t, t] }, ty, pos, af, gd⟩).run P w = .ok (.value (.slice (some ⟨g', 0, none⟩) (n + m) c')) u ∧ Grew w g g' u ∧ Own e u g' (n + m) c' (xs ++ ys) := by
  obtain ⟨g', c', u, hr, h2, h3⟩ := run_append (ty := ty) (cx := cx) hT hO hR h1 hb h63
  refine ⟨g', c', u, ?_, h2, h3⟩
  unfold execOp
  simp only [resolve, invoke, builtin, Sem.run_bind, Sem.run_pure, Result.andThen_ok, List.map_toArray, List.map_cons, List.map_nil, hs, hx, hr]

/-- Onto nothing. -/
theorem op_append_nil (hT : RowT P t e z bytes) {s x : Operand} {m cx : Nat} {ys : List Value} {A : Option Addr} (hs : a.eval s = .slice none 0 0) (hx : a.eval x = .slice A m cx) (hR : Row e w A m ys) (hm : 0 < m) (hb : m * bytes ≤ 140737488355328) (h63 : m ≤ 9223372036854775807) :
    ∃ g' c' u, (execOp a.eval ⟨d, .call { callee := .builtin .append, args := #[s, x], argTypes := #[t, t] }, ty, pos, af, gd⟩).run P w = .ok (.value (.slice (some ⟨g', 0, none⟩) m c')) u ∧ Grew w w.heap.size g' u ∧ Own e u g' m c' ys := by
  obtain ⟨i, hi, hz, hs', hbb⟩ := hT.info
  obtain ⟨ad, hA, _⟩ := hR.at_ 0 hm
  subst hA
  have hyl := hR.1
  have hr := run_append_nil (P := P) w t ty e i z hT.und hi hz ad m cx ys (by rw [hs']; omega) (hR.cells rfl) hm (by omega) (by rw [hbb]; exact Nat.le_trans hb (by decide))
  have hge := grownCap_ge w m 0 e
  have hle := grownCap_le_maxLen w m 0 e (by simp only [maxLen]; omega)
  simp only [maxLen] at hle
  have hr2 : ∃ v u, (Builtin.append_ #[t, t] ty #[.slice none 0 0, .slice (some ad) m cx]).run P w = .ok v u ∧ v = .slice (some ⟨w.heap.size, 0, none⟩) m (grownCap w m 0 e) ∧ u = w.drew.alloc (.cells (ys.toArray ++ Builtin.zeroCells z.cells (grownCap w m 0 e - m)) e) := ⟨_, _, hr, rfl, rfl⟩
  obtain ⟨v, u, hr2, rfl, rfl⟩ := hr2
  refine ⟨w.heap.size, grownCap w m 0 e, w.drew.alloc (.cells (ys.toArray ++ Builtin.zeroCells z.cells (grownCap w m 0 e - m)) e), ?_, ⟨rfl, rfl, rfl, by simp, fun k hk _ => heap_alloc_old w.drew _ hk, .inr (Nat.le_refl _)⟩, ⟨_, heap_alloc_new w.drew _, ?_, ?_⟩, hge, by omega⟩
  · unfold execOp
    simp only [resolve, invoke, builtin, Sem.run_bind, Sem.run_pure, Result.andThen_ok, List.map_toArray, List.map_cons, List.map_nil, hs, hx, hr2]
  · simp only [Array.size_append, List.size_toArray, size_zeroCells, hT.one]; simp; omega
  · simp only [Array.toList_append]
    rw [← hyl]
    exact List.take_left

/-- A row copied to the begin of one's own. -/
theorem op_copy (hT : RowT P t e z bytes) {s x : Operand} {g n c m cx : Nat} {xs ys : List Value} {A : Option Addr} (hs : a.eval s = .slice (some ⟨g, 0, none⟩) n c) (hx : a.eval x = .slice A m cx) (hO : Own e w g n c xs) (hR : Row e w A m ys) (h1 : ∀ u ∈ ys, u.oneCell' = true) (hmn : m ≤ n) :
    ∃ u, (execOp a.eval ⟨d, .call { callee := .builtin .copy, args := #[s, x], argTypes := #[t, t] }, ty, pos, af, gd⟩).run P w = .ok (.value (.int .i64 m)) u ∧ Grew w g g u ∧ Own e u g n c (ys ++ xs.drop m) := by
  obtain ⟨cur, hg, hcs, htake⟩ := hO.at_
  have hle := hO.le
  have hyl := hR.1
  have hfc : (Builtin.firstCells 1 m (.slice A m cx)).run P w = .ok ys.toArray w := by
    rcases A with _ | ad
    · have hm : m = 0 := by
        rcases Nat.eq_zero_or_pos m with h | h
        · exact h
        · obtain ⟨_, _, _, _, hA, _⟩ := hR.2.2 h; simp at hA
      subst hm
      have hy : ys = [] := List.eq_nil_of_length_eq_zero hyl
      subst hy
      simp [Builtin.firstCells]
    · exact run_firstCells_some (P := P) w 1 m ad m cx ys (by omega) (hR.cells rfl)
  have hst := run_storeCells_at P g 0 e ys 0 cur w hg (by omega) h1
  have hmin : Nat.min m n = m := Nat.min_eq_left hmn
  have hr : (Builtin.copy_ #[t, t] ty #[.slice (some ⟨g, 0, none⟩) n c, .slice A m cx]).run P w = .ok (.int .i64 m) (w.setRow g (cur.toList.take 0 ++ ys ++ cur.toList.drop (0 + 0 + ys.length)).toArray) := by
    simp only [Nat.add_zero, Nat.zero_add, List.take_zero, List.nil_append] at hst ⊢
    simp only [Builtin.copy_, List.getElem?_toArray, List.getElem?_cons_zero, List.getElem?_cons_succ, Sem.run_bind, Sem.run_pure, Result.andThen, run_underlying hT.und, Builtin.lenOf, hT.size, hmin, hfc, hst]
    rfl
  refine ⟨w.setRow g (cur.toList.take 0 ++ ys ++ cur.toList.drop (0 + 0 + ys.length)).toArray, ?_, ⟨rfl, rfl, rfl, by simp, fun k _ hk => setRow_other w g k _ hk, .inl rfl⟩, ⟨_, setRow_heap w g cur _ e _ hg, ?_, ?_⟩, hO.le, hO.cap⟩
  · unfold execOp
    simp only [resolve, invoke, builtin, Sem.run_bind, Sem.run_pure, Result.andThen_ok, List.map_toArray, List.map_cons, List.map_nil, hs, hx, hr]
  · simp; omega
  · rw [← htake]
    simp only [List.take_zero, List.nil_append, Nat.zero_add, Nat.add_zero]
    rw [List.take_append, List.take_of_length_le (by omega), List.drop_take, hyl]

/-- The begin of a row. -/
theorem op_cut (hT : RowT P t e z bytes) {x y : Operand} {A : Option Addr} {n c : Nat} {kd : IntKind} {i : Int} (j : Nat) (hx : a.eval x = .slice A n c) (hy : a.eval y = .int kd i) (hi : i = j) (hj : j ≤ c) (u : World) :
    (execOp a.eval ⟨d, .slice t x none (some y) none, ty, pos, af, gd⟩).run P u = .ok (.value (.slice A j c)) u := by
  have hc : 0 ≤ i ∧ i ≤ (c : Int) := by omega
  have h1 : (Instr.sliceAt t (.slice A n c) none (some (.int kd i)) none).run P u = .ok (.slice A j c) u := by
    simp only [Instr.sliceAt, Instr.slice, Sem.run_bind, Sem.run_pure, Result.andThen, run_underlying hT.und, Instr.sliceBounds, Instr.sliceBound, asIntOf, if_pos hc, hT.size u]
    subst hi
    by_cases h : c = 0
    · simp [h]
    · have h0 : A.map (fun x => x.add 0) = A := by cases A <;> simp [Addr.add]
      simp [h, h0]
  simp only [execOp, hx, Option.map_none, Option.map_some, hy, Sem.run_bind, Sem.run_pure, Result.andThen, h1]
theorem Own.cut {g n c j : Nat} {xs : List Value} (h : Own e w g n c xs) (hj : j ≤ n) : Own e w g j c (xs.take j) := by
  obtain ⟨cur, h1, h2, h3⟩ := h.at_
  exact ⟨⟨cur, h1, h2, by rw [← h3, List.take_take]; congr 1; omega⟩, by have := h.le; omega, Nat.le_trans hj h.cap⟩
end

/-! ### Sums -/
theorem op_to {P : Program} {v v' : Value} {o : Oper} {a : Act} {w u : World} (h : (execOp a.eval o).run P w = .ok (.value v) u) (e : v = v') : (execOp a.eval o).run P w = .ok (.value v') u := e ▸ h
theorem wrap_i64 {x v : Int} (h : x = v) (h1 : -9223372036854775808 ≤ v) (h2 : v ≤ 9223372036854775807) : Value.int .i64 (IntKind.i64.wrap x) = Value.int .i64 v := by rw [IntKind.wrap_i64]; congr 1; omega
theorem wrap_u64 {x v : Int} (h : x = v) (h1 : 0 ≤ v) (h2 : v ≤ 18446744073709551615) : Value.int .u64 (IntKind.u64.wrap x) = Value.int .u64 v := by rw [IntKind.wrap_u64]; congr 1; omega
theorem fdiv_pow (k : IntKind) (x : Int) (n : Nat) (m : Int) (hm : (2 : Int) ^ n = m) (h0 : 0 ≤ m) : Value.int k (x.fdiv (2 ^ n)) = Value.int k (x / m) := by
  rw [hm, Int.fdiv_eq_ediv_of_nonneg _ h0]
theorem mask_i64 (n : Nat) (hn : n ≤ 62) (x m : Int) (hm : m = 2 ^ n - 1) : IntKind.i64.wrap ((BitVec.ofInt 64 x &&& BitVec.ofInt 64 m).toNat : Nat) = x % 2 ^ n := by
  have hp : (2 : Nat) ^ n < 2 ^ 63 := Nat.pow_lt_pow_right (by omega) (by omega)
  have hmm : (BitVec.ofInt 64 m).toNat = 2 ^ n - 1 := by
    rw [BitVec.toNat_ofInt, hm]
    have h1 : (2 : Int) ^ n - 1 = ((2 ^ n - 1 : Nat) : Int) := by
      have : 0 < (2 : Nat) ^ n := Nat.pow_pos (by omega)
      rw [Int.natCast_sub (by omega)]; simp
    rw [h1]
    omega
  have key : (BitVec.ofInt 64 x &&& BitVec.ofInt 64 m).toNat = (x % ((2 ^ 64 : Nat) : Int)).toNat % 2 ^ n := by
    rw [BitVec.toNat_and, BitVec.toNat_ofInt, hmm, Nat.and_two_pow_sub_one_eq_mod]
  rw [key]
  have hd : ((2 ^ n : Nat) : Int) ∣ ((2 ^ 64 : Nat) : Int) := Int.natCast_dvd_natCast.2 (Nat.pow_dvd_pow 2 (by omega))
  have h2 : (((x % ((2 ^ 64 : Nat) : Int)).toNat % 2 ^ n : Nat) : Int) = x % 2 ^ n := by
    rw [Int.natCast_emod, Int.toNat_of_nonneg (Int.emod_nonneg _ (by decide)), Int.emod_emod_of_dvd _ hd]
    simp
  have h3 : (x % ((2 ^ 64 : Nat) : Int)).toNat % 2 ^ n < 2 ^ n := Nat.mod_lt _ (Nat.pow_pos (by omega))
  rw [IntKind.wrap_i64, ← h2]
  omega

theorem mask_to (n : Nat) (hn : n ≤ 62) (x m p : Int) (hp : (2 : Int) ^ n = p) (hm : m = p - 1) : Value.int .i64 (IntKind.i64.wrap ((BitVec.ofInt 64 x &&& BitVec.ofInt 64 m).toNat : Nat)) = Value.int .i64 (x % p) := by
  subst hp; rw [mask_i64 n hn x m hm]

theorem shl_i64 (n : Nat) (x p v : Int) (hp : (2 : Int) ^ n = p) (hv : x * p = v) (h1 : -9223372036854775808 ≤ v) (h2 : v ≤ 9223372036854775807) : Value.int .i64 (IntKind.i64.wrap (x * 2 ^ n)) = Value.int .i64 v := by
  rw [hp]; exact wrap_i64 hv h1 h2
theorem quo_i64 {x m v : Int} (h : x / m = v) (h0 : 0 ≤ x) (hm : 0 < m) (h2 : x ≤ 9223372036854775807) : Value.int .i64 (IntKind.i64.wrap (x.tdiv m)) = Value.int .i64 v := by
  rw [Int.tdiv_eq_ediv_of_nonneg h0]
  have h3 : 0 ≤ x / m := Int.ediv_nonneg h0 (by omega)
  have h4 : x / m ≤ x := Int.ediv_le_self _ h0
  exact wrap_i64 h (by omega) (by omega)
theorem quo_u64 {x m v : Int} (h : x / m = v) (h0 : 0 ≤ x) (hm : 0 < m) (h2 : x ≤ 18446744073709551615) : Value.int .u64 (IntKind.u64.wrap (x.tdiv m)) = Value.int .u64 v := by
  rw [Int.tdiv_eq_ediv_of_nonneg h0]
  have h3 : 0 ≤ x / m := Int.ediv_nonneg h0 (by omega)
  have h4 : x / m ≤ x := Int.ediv_le_self _ h0
  exact wrap_u64 h (by omega) (by omega)
theorem rem_to (k : IntKind) {x m v : Int} (h : x % m = v) (h0 : 0 ≤ x) : Value.int k (x.tmod m) = Value.int k v := by
  rw [Int.tmod_eq_emod_of_nonneg h0, h]
section
variable {P : Program} {w : World} {a : Act} {d : Option Tmp} {ty : TypeId} {pos : String} {af : Array Edge} {gd : Option (Nat × Bool)}
theorem op_rem {t t' : TypeId} {k : IntKind} {X Y : Operand} {x y : Int} (hx : a.eval X = .int k x) (hy : a.eval Y = .int k y) (h0 : y ≠ 0) (u : World) :
    (execOp a.eval ⟨d, .binOp .rem t X Y t', ty, pos, af, gd⟩).run P u = .ok (.value (.int k (x.tmod y))) u := by
  have h : eqGuard .rem t X Y (.int k x) (.int k y) = pure () := rfl
  simp [execOp, hx, hy, h, Go.binOp, Op.intDiv, h0]
end

theorem op_shl {P : Program} {a : Act} {d : Option Tmp} {ty : TypeId} {pos : String} {af : Array Edge} {gd : Option (Nat × Bool)} {t t' : TypeId} {k k' : IntKind} {X Y : Operand} {x : Int} (n : Nat) (hx : a.eval X = .int k x) (hy : a.eval Y = .int k' (n : Int)) (hn : n ≤ k.bits) (u : World) :
    (execOp a.eval ⟨d, .binOp .shl t X Y t', ty, pos, af, gd⟩).run P u = .ok (.value (.int k (k.wrap (x * 2 ^ n)))) u := by
  have h : eqGuard .shl t X Y (.int k x) (.int k' (n : Int)) = pure () := rfl
  have h2 : ¬ ((n : Int) < 0) := by omega
  simp [execOp, hx, hy, h, Go.binOp, Op.shift, h2, Nat.min_eq_left hn]
theorem mask_u64 (n : Nat) (hn : n ≤ 63) (x m p : Int) (hp : (2 : Int) ^ n = p) (hm : m = p - 1) : Value.int .u64 (IntKind.u64.wrap ((BitVec.ofInt 64 x &&& BitVec.ofInt 64 m).toNat : Nat)) = Value.int .u64 (x % p) := by
  subst hp
  have hp : (2 : Nat) ^ n < 2 ^ 64 := Nat.pow_lt_pow_right (by omega) (by omega)
  have hmm : (BitVec.ofInt 64 m).toNat = 2 ^ n - 1 := by
    rw [BitVec.toNat_ofInt, hm]
    have h1 : (2 : Int) ^ n - 1 = ((2 ^ n - 1 : Nat) : Int) := by
      have : 0 < (2 : Nat) ^ n := Nat.pow_pos (by omega)
      rw [Int.natCast_sub (by omega)]; simp
    rw [h1]
    omega
  have key : (BitVec.ofInt 64 x &&& BitVec.ofInt 64 m).toNat = (x % ((2 ^ 64 : Nat) : Int)).toNat % 2 ^ n := by
    rw [BitVec.toNat_and, BitVec.toNat_ofInt, hmm, Nat.and_two_pow_sub_one_eq_mod]
  rw [key]
  have hd : ((2 ^ n : Nat) : Int) ∣ ((2 ^ 64 : Nat) : Int) := Int.natCast_dvd_natCast.2 (Nat.pow_dvd_pow 2 (by omega))
  have h2 : (((x % ((2 ^ 64 : Nat) : Int)).toNat % 2 ^ n : Nat) : Int) = x % 2 ^ n := by
    rw [Int.natCast_emod, Int.toNat_of_nonneg (Int.emod_nonneg _ (by decide)), Int.emod_emod_of_dvd _ hd]
    simp
  have h3 : (x % ((2 ^ 64 : Nat) : Int)).toNat % 2 ^ n < 2 ^ n := Nat.mod_lt _ (Nat.pow_pos (by omega))
  congr 1
  rw [IntKind.wrap_u64, ← h2]
  omega
theorem wrap_u64_neg {x : Int} (h : -9223372036854775808 ≤ x) (h1 : x < 0) : Value.int .u64 (IntKind.u64.wrap x) = Value.int .u64 (x + 18446744073709551616) := by rw [IntKind.wrap_u64]; congr 1; omega
theorem neg_u64 {x : Int} (h : -9223372036854775808 ≤ x) (h1 : x < 0) : Value.int .u64 (IntKind.u64.wrap (0 - (x + 18446744073709551616))) = Value.int .u64 (-x) := by rw [IntKind.wrap_u64]; congr 1; omega

/-! ### Steps that make and change rows -/
section
variable {P : Program} {ops : Array Oper} {Q : Exit → Act → World → Prop} {S : World → Prop} {E : List Nat} {i : Nat} {l : Tr} {o : Oper} {a : Act} {w : World}
theorem seq_row {d : Option Tmp} {n m : Nat} {ob : Obj} (hE : E.contains i = false) (ho : ops[i]? = some o) (hd : o.dst = d) (hw : Region.wanted o (yielded ops a.tmps) = true)
    (hr : (execOp a.eval o).run P w = .ok (.value (.slice (some ⟨w.heap.size, 0, none⟩) n m)) (w.alloc ob))
    (h : ∀ g u, Made w g ob u → (waitsAll .any ops E i = false → S u) ∧ Seq P .any ops Q S E l (a.put d (.slice (some ⟨g, 0, none⟩) n m)) u) : Seq P .any ops Q S E (.step i l) a w :=
  seq_do hE ho hd hw hr (h _ _ (made_alloc w ob)).1 (h _ _ (made_alloc w ob)).2
theorem seq_elem {g : Nat} {e : TypeId} {F : World → Prop} (hE : E.contains i = false) (ho : ops[i]? = some o) (hd : o.dst = none) (hw : Region.wanted o (yielded ops a.tmps) = true)
    (hr : ∃ u, (execOp a.eval o).run P w = .ok .skip u ∧ (∃ cs, Stored w g cs e u) ∧ F u)
    (h : ∀ u cs, Stored w g cs e u → F u → (waitsAll .any ops E i = false → S u) ∧ Seq P .any ops Q S E l a u) : Seq P .any ops Q S E (.step i l) a w := by
  obtain ⟨u, hu, ⟨cs, hst⟩, hF⟩ := hr
  unfold Seq
  rw [if_neg (by rw [hE]; simp)]
  unfold wpOp
  simp only [ho, hw, if_true]
  refine .inl ?_
  unfold Oper.wp
  rw [hu]
  simp only [Oper.upon, hd, Act.put]
  exact h u cs hst hF
theorem seq_grow {d : Option Tmp} {g n : Nat} {F : Nat → Nat → World → Prop} (hE : E.contains i = false) (ho : ops[i]? = some o) (hd : o.dst = d) (hw : Region.wanted o (yielded ops a.tmps) = true)
    (hr : ∃ g' c' u, (execOp a.eval o).run P w = .ok (.value (.slice (some ⟨g', 0, none⟩) n c')) u ∧ Grew w g g' u ∧ F g' c' u)
    (h : ∀ g' c' u, Grew w g g' u → F g' c' u → (waitsAll .any ops E i = false → S u) ∧ Seq P .any ops Q S E l (a.put d (.slice (some ⟨g', 0, none⟩) n c')) u) : Seq P .any ops Q S E (.step i l) a w := by
  obtain ⟨g', c', u, hu, hg, hF⟩ := hr
  exact seq_do hE ho hd hw hu (h _ _ _ hg hF).1 (h _ _ _ hg hF).2
theorem seq_copy {d : Option Tmp} {v : Value} {g : Nat} {F : World → Prop} (hE : E.contains i = false) (ho : ops[i]? = some o) (hd : o.dst = d) (hw : Region.wanted o (yielded ops a.tmps) = true)
    (hr : ∃ u, (execOp a.eval o).run P w = .ok (.value v) u ∧ Grew w g g u ∧ F u)
    (h : ∀ u, Grew w g g u → F u → (waitsAll .any ops E i = false → S u) ∧ Seq P .any ops Q S E l (a.put d v) u) : Seq P .any ops Q S E (.step i l) a w := by
  obtain ⟨u, hu, hg, hF⟩ := hr
  exact seq_do hE ho hd hw hu (h _ hg hF).1 (h _ hg hF).2
end
/-- A loop with a measure that is a number of its own. -/
theorem wp_loop_m {P : Program} {Q : Exit → Act → World → Prop} {c : Code} {a : Act} {w : World} (I : Nat → Act → World → Prop) (h₀ : ∃ m, I m a w)
    (round : ∀ m a w, I m a w → c.wp P (Exit.then (fun a' w' => ∃ m', m' < m ∧ I m' a' w') Q) a w) : (Code.loop c).wp P Q a w := by
  intro b k cs
  have key : ∀ n a w, I n a w → ∃ e a' w', Q e a' w' ∧ Arrives P (lone (b.at a (.code c :: .inLoop c :: k)) cs w) b k cs e a' w' := by
    intro n
    induction n using Nat.strongRecOn with
    | _ n ih =>
      intro a w hI
      obtain ⟨e, a₁, w₁, hq, harr⟩ := round n a w hI b (.inLoop c :: k) cs
      cases e with
      | normal =>
        obtain ⟨m', hlt, hI₁⟩ := hq
        obtain ⟨e₂, a₂, w₂, hq₂, harr₂⟩ := ih m' hlt a₁ w₁ hI₁
        exact ⟨e₂, a₂, w₂, hq₂, .of_steps (Steps.trans harr (.one step_inLoop)) harr₂⟩
      | exit id => exact ⟨_, a₁, w₁, hq, .pass (x := .inLoop c) rfl (fun _ _ => .inl (by simp)) harr⟩
      | goto l => exact ⟨_, a₁, w₁, hq, .pass (x := .inLoop c) rfl (fun _ _ => .inl (by simp)) harr⟩
      | ret => exact ⟨_, a₁, w₁, hq, .pass (x := .inLoop c) rfl (fun _ _ => .inl (by simp)) harr⟩
      | panic ch => exact ⟨_, a₁, w₁, hq, .pass (x := .inLoop c) rfl (fun _ _ => .inl (by simp)) harr⟩
      | outgrown => exact ⟨_, a₁, w₁, hq, .pass (x := .inLoop c) rfl (fun _ _ => .inl (by simp)) harr⟩
  obtain ⟨m, h₀⟩ := h₀
  obtain ⟨e, a', w', hq, harr⟩ := key m a w h₀
  exact ⟨e, a', w', hq, .of_steps (.one step_loop) harr⟩

/-- Rounds walked one by one. -/
def wpRounds (P : Program) (c : Code) (Q : Exit → Act → World → Prop) : Nat → Act → World → Prop
  | 0, _, _ => False
  | n + 1, a, w => c.wp P (Exit.then (wpRounds P c Q n) Q) a w
theorem wpRounds_succ {P : Program} {c : Code} {Q : Exit → Act → World → Prop} {n : Nat} {a : Act} {w : World} (h : c.wp P (Exit.then (wpRounds P c Q n) Q) a w) : wpRounds P c Q (n + 1) a w := h
theorem wp_loop_steps {P : Program} {Q : Exit → Act → World → Prop} {c : Code} {a : Act} {w : World} (n : Nat) (h : wpRounds P c Q n a w) : (Code.loop c).wp P Q a w :=
  wp_loop_m (fun m a w => wpRounds P c Q m a w) ⟨n, h⟩ fun m a w h => by
    cases m with
    | zero => exact absurd h (by simp [wpRounds])
    | succ m =>
      refine wp_mono (Q := Exit.then (wpRounds P c Q m) Q) h fun e a' w' h' => ?_
      cases e with
      | normal => exact ⟨m, by omega, h'⟩
      | exit id => exact h'
      | goto l => exact h'
      | ret => exact h'
      | panic ch => exact h'
      | outgrown => exact h'

/-! ### Rows of whole numbers -/
theorem i64s_set (L : List Int) (j : Nat) (v : Int) : i64s (L.set j v) = (i64s L).set j (.int .i64 v) := by simp [i64s, List.map_set]
theorem i64s_append (L M : List Int) : i64s (L ++ M) = i64s L ++ i64s M := by simp [i64s]
theorem i64s_take (L : List Int) (j : Nat) : i64s (L.take j) = (i64s L).take j := by simp [i64s, List.map_take]
theorem i64s_drop (L : List Int) (j : Nat) : i64s (L.drop j) = (i64s L).drop j := by simp [i64s, List.map_drop]
theorem i64s_zeros (n : Nat) : i64s (List.replicate n 0) = List.replicate n (.int .i64 0) := by simp [i64s]
theorem i64s_one (L : List Int) : ∀ u ∈ i64s L, u.oneCell' = true := by
  intro u hu
  simp only [i64s, List.mem_map] at hu
  obtain ⟨x, _, rfl⟩ := hu
  rfl
theorem Own.ilen {e : TypeId} {w : World} {g n c : Nat} {L : List Int} (h : Own e w g n c (i64s L)) : L.length = n := by have := h.len; simpa using this
theorem max_int (k : IntKind) (n m : Nat) : Value.int k (if (m : Int) > (n : Int) then (m : Int) else (n : Int)) = .int k ((max n m : Nat) : Int) := by
  congr 1; split <;> omega
theorem SameBut.keep {t : TypeId} {W u : World} (h : SameBut [] W.heap.size W u) : Keep t W u := ⟨fun g c fr hg => (h.at_ g (lt_of_at hg) (by simp)).trans hg⟩

theorem Upd.self (G : List Nat) (w : World) : Upd G w w := ⟨rfl, rfl, rfl, Nat.le_refl _, fun _ _ _ => rfl⟩
theorem Upd.chain {G G' : List Nat} {w W u : World} (h : Upd G w W) (h' : Upd G' W u) (hG : ∀ k, k ∈ G' → k ∈ G ∨ w.heap.size ≤ k) : Upd G w u :=
  ⟨h'.os.trans h.os, h'.tape.trans h.tape, h'.output.trans h.output, Nat.le_trans h.size h'.size, fun k hk hg => (h'.block k (Nat.lt_of_lt_of_le hk h.size) (fun e => by
    rcases hG k e with h1 | h1
    · exact hg h1
    · omega)).trans (h.block k hk hg)⟩
theorem Upd.comp {G : List Nat} {W u u' : World} {g : Nat} (h : Upd G W u) (b : Upd [g] u u') : Upd (g :: G) W u' :=
  ⟨b.os.trans h.os, b.tape.trans h.tape, b.output.trans h.output, Nat.le_trans h.size b.size, fun k hk hg => (b.block k (Nat.lt_of_lt_of_le hk h.size) (fun e => hg (by simp at e; simp [e]))).trans (h.block k hk (fun e => hg (by simp [e])))⟩
theorem Upd.compNew {G : List Nat} {W u u' : World} {g : Nat} (h : Upd G W u) (b : Upd [g] u u') (hg : W.heap.size ≤ g) : Upd G W u' :=
  ⟨b.os.trans h.os, b.tape.trans h.tape, b.output.trans h.output, Nat.le_trans h.size b.size, fun k hk hk' => (b.block k (Nat.lt_of_lt_of_le hk h.size) (fun e => by simp at e; omega)).trans (h.block k hk hk')⟩
theorem Upd.same1 {u u' : World} {g q : Nat} (b : Upd [g] u u') (hq : q < u.heap.size) (hne : q ≠ g) : u'.heap[q]? = u.heap[q]? := b.block q hq (by simpa using hne)

/-! ### Ways out -/
section
variable {f : Act → World → Prop} {Q : Exit → Act → World → Prop} {a : Act} {w : World} {id id' : Nat}
theorem then_exit (h : Q (.exit id) a w) : Exit.then f Q (.exit id) a w := h
theorem then_ret (h : Q .ret a w) : Exit.then f Q .ret a w := h
theorem then_normal (h : f a w) : Exit.then f Q .normal a w := h
theorem block_exit (h : Q .normal a w) : Exit.inBlock id Q (.exit id) a w := by
  show (if id = id then Q .normal a w else Q (.exit id) a w)
  rw [if_pos rfl]; exact h
theorem block_pass (hne : (id' == id) = false) (h : Q (.exit id') a w) : Exit.inBlock id Q (.exit id') a w := by
  show (if id' = id then Q .normal a w else Q (.exit id') a w)
  rw [if_neg (by simpa using hne)]; exact h
theorem block_ret (h : Q .ret a w) : Exit.inBlock id Q .ret a w := h
theorem block_normal (h : Q .normal a w) : Exit.inBlock id Q .normal a w := h
end
end Cps
