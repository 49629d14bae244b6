/- Slices of elements of several cells. -/
import Derived.Test.YtklnjhlidfclmaaGreatDoorTxu
set_option linter.unusedVariables false
set_option linter.unusedSimpArgs false
namespace Cps
open Go Go.RowKit

theorem flat_at {vs : List (List Value)} {k : Nat} (h : ∀ v ∈ vs, v.length = k) : vs.flatten.length = vs.length * k ∧ ∀ j v, vs[j]? = some v → ∀ i, i < k → vs.flatten[j * k + i]? = v[i]? := by
  induction vs with
  | nil => exact ⟨by simp, fun j v h => by simp at h⟩
  | cons a r ih =>
    obtain ⟨h1, h2⟩ := ih fun v hv => h v (List.mem_cons_of_mem _ hv)
    have ha := h a (List.mem_cons_self ..)
    refine ⟨by rw [List.flatten_cons, List.length_append, h1, List.length_cons, Nat.add_mul, ha]; omega, fun j v hj i hi => ?_⟩
    rw [List.flatten_cons]
    cases j with
    | zero => simp only [List.getElem?_cons_zero, Option.some.injEq] at hj; subst hj; rw [List.getElem?_append_left (by omega)]; simp
    | succ j =>
      rw [List.getElem?_append_right (by rw [ha, Nat.add_mul]; omega), ← h2 j v (by simpa using hj) i hi]
      congr 1; rw [ha, Nat.add_mul]; omega

/-- What is told of the elements. -/
def Els {α : Type} (K : Kd α) (k : Nat) (X : Nat → Prop) (w : World) (vs : List (List Value)) (xs : List α) : Prop := ∀ (j : Nat) v x, vs[j]? = some v → xs[j]? = some x → v.length = k ∧ K.R X w v x
/-- A row, however long. -/
def RowF (t : TypeId) (w : World) (A : Option Addr) (n : Nat) (xs : List Value) : Prop :=
  xs.length = n ∧ (0 < n → ∃ g off c fr, A = some ⟨g, off, none⟩ ∧ w.heap[g]? = some (.cells c t fr) ∧ ∀ j, j < n → c[off + j]? = xs[j]?)
theorem Row.free {t : TypeId} {w : World} {A : Option Addr} {n : Nat} {xs : List Value} (h : Row t w A n xs) : RowF t w A n xs := ⟨h.1, h.2.2⟩
theorem RowF.stay {t : TypeId} {w w' : World} {X : Nat → Prop} {A : Option Addr} {n : Nat} {xs : List Value} (h : RowF t w A n xs) (ha : Avoid X A n) (hs : Stay X w w') : RowF t w' A n xs :=
  ⟨h.1, fun hn => by
    obtain ⟨g, off, c, fr, rfl, hg, hc⟩ := h.2 hn
    exact ⟨g, off, c, fr, rfl, hs.at_ _ _ _ _ hg (ha hn _ rfl), hc⟩⟩
theorem Avoid.stayF {t : TypeId} {w : World} {X X' : Nat → Prop} {A : Option Addr} {n : Nat} {xs : List Value} (h : RowF t w A n xs) (ha : Avoid X A n) (hX : ∀ k, k < w.heap.size → X' k → X k) : Avoid X' A n := fun hn ad e hx => by
  obtain ⟨g, off, c, fr, rfl, hg, hc⟩ := h.2 hn
  cases e
  exact ha hn _ rfl (hX _ (lt_of_at hg) hx)
/-- A slice of elements of k cells. -/
def LKd {α : Type} (K : Kd α) (T : TypeId) (k : Nat) : Kd (List α) where
  R X w cs xs := match cs with
    | [.slice A n c] => (xs.length = n ∧ n ≤ c ∧ n ≤ 9223372036854775807) ∧ ∃ vs : List (List Value), vs.length = n ∧ (∃ T' : TypeId, RowF T' w A (n * k) vs.flatten) ∧ Avoid X A (n * k) ∧ Els K k X w vs xs
    | _ => False
  st {X X' w w' cs x} h hs hX := by
    split at h
    · obtain ⟨h0, vs, h1, ⟨T', h2⟩, h3, h4⟩ := h
      exact ⟨h0, vs, h1, ⟨T', h2.stay h3 hs⟩, Avoid.stayF h2 h3 hX, fun j v x hv hx => ⟨(h4 j v x hv hx).1, K.st (h4 j v x hv hx).2 hs hX⟩⟩
    · exact h.elim
section
variable {α : Type} {K : Kd α} {T : TypeId} {k : Nat} {X : Nat → Prop} {w : World} {A : Option Addr} {n c : Nat} {xs : List α}
theorem LKd.len (h : (LKd K T k).R X w [.slice A n c] xs) : xs.length = n := h.1.1
theorem LKd.le (h : (LKd K T k).R X w [.slice A n c] xs) : n ≤ 9223372036854775807 := h.1.2.2
theorem LKd.nil (X : Nat → Prop) (w : World) (A : Option Addr) (c : Nat) : (LKd K T k).R X w [.slice A 0 c] [] :=
  ⟨⟨rfl, by omega, by omega⟩, [], rfl, ⟨T, by rw [Nat.zero_mul]; exact (Row.nil _ _ _).free⟩, by rw [Nat.zero_mul]; exact Avoid.nil X A, fun j v x h => by simp at h⟩
theorem LKd.elem (h : (LKd K T k).R X w [.slice A n c] xs) (j : Nat) (hj : j < n) : ∃ v x, xs[j]? = some x ∧ v.length = k ∧ K.R X w v x ∧ (0 < k → ∃ g off cs T' fr, A = some ⟨g, off, none⟩ ∧ w.heap[g]? = some (.cells cs T' fr) ∧ ∀ i, i < k → cs[off + (j * k + i)]? = v[i]?) := by
  obtain ⟨⟨h0, _, _⟩, vs, h1, ⟨T', h2⟩, h3, h4⟩ := h
  have hv : vs[j]? = some (vs[j]'(by omega)) := List.getElem?_eq_getElem (by omega)
  have hx : xs[j]? = some (xs[j]'(by omega)) := List.getElem?_eq_getElem (by omega)
  refine ⟨_, _, hx, (h4 _ _ _ hv hx).1, (h4 _ _ _ hv hx).2, fun hk => ?_⟩
  have hall : ∀ v ∈ vs, v.length = k := fun v hv => by
    obtain ⟨i, hi, rfl⟩ := List.mem_iff_getElem.1 hv
    exact (h4 i _ _ (List.getElem?_eq_getElem hi) (List.getElem?_eq_getElem (by omega))).1
  have hjk : (j + 1) * k ≤ n * k := Nat.mul_le_mul_right k hj
  rw [Nat.add_mul, Nat.one_mul] at hjk
  obtain ⟨g, off, cs, fr, hA, hg, hc⟩ := h2.2 (by omega)
  exact ⟨g, off, cs, T', fr, hA, hg, fun i hi => by rw [hc _ (by omega)]; exact (flat_at hall).2 j _ hv i hi⟩

/-- A slice type whose elements are k cells. -/
structure RowK (P : Program) (t e : TypeId) (k : Nat) (z : Array Value) : Prop where
  und : P.underlying t = some (.slice e)
  siz : ∀ u, (Go.sizeOf e).run P u = .ok k u
  agg : ∀ u, (isAgg e).run P u = .ok true u
  zer : ∀ u, (zeroValue e).run P u = .ok (.agg z) u
  len : z.size = k

variable {P : Program} {a : Act} {d : Option Tmp} {ty t e : TypeId} {pos : String} {af : Array Edge} {gd : Option (Nat × Bool)} {z : Array Value}
theorem op_index_k (hT : RowK P t e k z) (hk : 0 < k) {x y : Operand} {kd : IntKind} {i : Int} (j : Nat) (hx : a.eval x = .slice A n c) (hy : a.eval y = .int kd i) (hi : i = j) (hj : j < n) (h : (LKd K T k).R X w [.slice A n c] xs) (u : World) :
    (execOp a.eval ⟨d, .indexAddr t x y, ty, pos, af, gd⟩).run P u = .ok (.value (elemPtr A (j * k))) u := by
  obtain ⟨v, x', _, _, _, h5⟩ := LKd.elem h j hj
  obtain ⟨g, off, cs, T', fr, rfl, _⟩ := h5 hk
  have h1 : (Instr.indexAt t (.slice (some ⟨g, off, none⟩) n c) (.int kd i)).run P u = .ok (.pointer (some (Addr.add ⟨g, off, none⟩ (j * k)))) u := by
    have hc : (0 ≤ i ∧ i < (n : Int)) := by omega
    simp only [Instr.indexAt, asIntOf, Sem.run_bind, Sem.run_pure, Result.andThen, run_underlying hT.und, if_pos hc, hT.siz u]
    subst hi; simp
  simp only [execOp, hx, hy, Sem.run_bind, Sem.run_pure, Result.andThen, h1]
  rfl
theorem op_load_k (hT : RowK P t e k z) (hk : 0 < k) {x : Operand} {j : Nat} {y : α} (hx : a.eval x = elemPtr A (j * k)) (h : (LKd K T k).R X w [.slice A n c] xs) (hj : j < n) (hy : xs[j]? = some y) :
    ∃ v : List Value, (execOp a.eval ⟨d, .load e x, ty, pos, af, gd⟩).run P w = .ok (.value (.agg v.toArray)) w ∧ K.R X w v y := by
  obtain ⟨v, x', h2, h3, h4, h5⟩ := LKd.elem h j hj
  obtain ⟨g, off, cs, T', fr, rfl, h6, h7⟩ := h5 hk
  rw [hy] at h2; cases h2
  refine ⟨v, op_load_agg (b := g) (off := off + j * k) (n := k) (vs := v.toArray) ?_ hT.agg hT.siz h6 ?_ ?_, h4⟩
  · rw [hx]; simp only [elemPtr, Option.map_some, add_at]
  · have := h7 (k - 1) (by omega)
    rw [List.getElem?_eq_getElem (by omega)] at this
    have := (Array.getElem?_eq_some_iff.1 this).1
    simp; omega
  · apply Array.ext_getElem?
    intro i
    have hsz : off + j * k + k ≤ cs.size := by
      have := h7 (k - 1) (by omega)
      rw [List.getElem?_eq_getElem (by omega)] at this
      have := (Array.getElem?_eq_some_iff.1 this).1
      omega
    rw [Array.getElem?_extract]
    by_cases hi : i < k
    · rw [if_pos (by omega), Nat.add_assoc, h7 i hi]; simp
    · rw [if_neg (by omega)]; simp; omega
end

section
variable {P : Program} {M : Mode} {ops : Array Oper} {Q : Exit → Act → World → Prop} {w : World} {G : List Nat} {X : Nat → Prop} {L : List Cell} {F : List Fa} {a : Act} {i : Nat} {l : Tr}
theorem Mem.made {u u' : World} {g : Nat} {ob : Obj} (hM : Mem w G X u L F) (hm : Made u g ob u') : Mem w G X u' L F :=
  ⟨hM.upd.made hm, hM.new, fun d hd => (hM.ok d hd).move (hm.block _ (hM.ok d hd).lt), hM.nd, hM.lt, hM.ap, fun f hf => f.k.st (hM.fct f hf) (Stay.of_block fun k hk _ => hm.block k hk) fun _ _ h => h⟩
theorem Rk.cells {X : Nat → Prop} {u : World} {v : List Value} {x : Rat} (h : Rk.R X u v x) : ∃ A n c m A' n' c', v = [.slice A n c, .bool m, .slice A' n' c'] := by
  unfold Rk at h
  simp only at h
  split at h
  · exact ⟨_, _, _, _, _, _, _, rfl⟩
  · exact h.elim
/-- A ratio is read out of a slice. -/
theorem GL.exR {x : Rat} {d : Option Tmp} {op : Op} {ty : TypeId} {pos : String} {af : Array Edge} {gd : Option (Nat × Bool)} (hr : ∀ u, Mem w G X u L F → ∃ v : List Value, (execOp a.eval ⟨d, op, ty, pos, af, gd⟩).run P u = .ok (.value (.agg v.toArray)) u ∧ Rk.R (av X L) u v x)
    (h : ∀ A n c m A' n' c', GL P ops Q l (a.put d (.agg #[.slice A n c, .bool m, .slice A' n' c'])) w G X L (⟨Rk, [.slice A n c, .bool m, .slice A' n' c'], x⟩ :: F)) (ho : ops[i]? = some ⟨d, op, ty, pos, af, gd⟩ := by rfl) (hw : Region.wanted ⟨d, op, ty, pos, af, gd⟩ (yielded ops a.tmps) = true := by kernel_rfl) :
    GL P ops Q (.step i l) a w G X L F := by
  unfold GL at *
  intro u hM
  obtain ⟨v, h1, h2⟩ := hr u hM
  obtain ⟨A, n, c, m, A', n', c', rfl⟩ := Rk.cells h2
  exact seq_do rfl ho rfl hw h1 (fun _ => trivial) (h A n c m A' n' c' u (hM.add h2))
/-- A slice of new elements that nobody writes. -/
theorem GL.lst {α : Type} {K : Kd α} {T : TypeId} {k : Nat} {xs : List α} {n m : Nat} {ob : Obj} {d : Option Tmp} {op : Op} {ty : TypeId} {pos : String} {af : Array Edge} {gd : Option (Nat × Bool)} (hr : ∀ u, (execOp a.eval ⟨d, op, ty, pos, af, gd⟩).run P u = .ok (.value (.slice (some ⟨u.heap.size, 0, none⟩) n m)) (u.alloc ob))
    (hf : ∀ u g u', Mem w G X u L F → Made u g ob u' → ¬ av X L g → (LKd K T k).R (av X L) u' [.slice (some ⟨g, 0, none⟩) n m] xs)
    (h : ∀ g, GL P ops Q l (a.put d (.slice (some ⟨g, 0, none⟩) n m)) w G X L (⟨LKd K T k, [.slice (some ⟨g, 0, none⟩) n m], xs⟩ :: F)) (ho : ops[i]? = some ⟨d, op, ty, pos, af, gd⟩ := by rfl) (hw : Region.wanted ⟨d, op, ty, pos, af, gd⟩ (yielded ops a.tmps) = true := by kernel_rfl) : GL P ops Q (.step i l) a w G X L F := by
  unfold GL at *
  intro u hM
  exact seq_row rfl ho rfl hw (hr u) fun g u' hm => ⟨fun _ => trivial, h g u' ((hM.made hm).add (hf u g u' hM hm fun hg => by have := hM.avlt g hg; have := hm.ge; omega))⟩
theorem LKd.built3 {α : Type} {K : Kd α} {T : TypeId} {k : Nat} {x0 x1 x2 : α} {v0 v1 v2 : List Value} {u u' : World} {g : Nat} {Y : Nat → Prop} (hm : Made u g (.cells (v0 ++ v1 ++ v2).toArray T) u') (hg : ¬ Y g) (hk3 : 3 * k ≤ 1000) (l0 : v0.length = k) (l1 : v1.length = k) (l2 : v2.length = k) (h0 : K.R Y u v0 x0) (h1 : K.R Y u v1 x1) (h2 : K.R Y u v2 x2) :
    (LKd K T k).R Y u' [.slice (some ⟨g, 0, none⟩) 3 3] [x0, x1, x2] := by
  have hs : ∀ {v x}, K.R Y u v x → K.R Y u' v x := fun h => K.st h (Stay.of_block fun k hk _ => hm.block k hk) fun _ _ h => h
  refine ⟨⟨rfl, by omega, by omega⟩, [v0, v1, v2], rfl, ⟨T, ?_, fun _ => ⟨g, 0, _, _, rfl, hm.at_, fun j hj => ?_⟩⟩, Avoid.own hg, ?_⟩
  · simp; omega
  · simp
  · intro j v x hv hx
    rcases j with _ | _ | _ | j
    · simp at hv hx; subst hv hx; exact ⟨l0, hs h0⟩
    · simp at hv hx; subst hv hx; exact ⟨l1, hs h1⟩
    · simp at hv hx; subst hv hx; exact ⟨l2, hs h2⟩
    · simp at hv
theorem op_build3 {k : Nat} {T t : TypeId} {z : Array Value} (hT : RowK P t T k z) (hk : k = 3) {d : Option Tmp} {ty : TypeId} {pos : String} {af : Array Edge} {gd : Option (Nat × Bool)} {x0 x1 x2 : Operand} {a0 a1 a2 b0 b1 b2 c0 c1 c2 : Value} (h0 : a.eval x0 = .agg #[a0, a1, a2]) (h1 : a.eval x1 = .agg #[b0, b1, b2]) (h2 : a.eval x2 = .agg #[c0, c1, c2]) (u : World) :
    (execOp a.eval ⟨d, .buildSlice t 3 #[(0, x0), (1, x1), (2, x2)], ty, pos, af, gd⟩).run P u = .ok (.value (.slice (some ⟨u.heap.size, 0, none⟩) 3 3)) (u.alloc (.cells ([a0, a1, a2] ++ [b0, b1, b2] ++ [c0, c1, c2]).toArray T)) := by
  subst hk
  have hz := hT.len
  have h3 : (Instr.buildSlice t 3 #[(0, .agg #[a0, a1, a2]), (1, .agg #[b0, b1, b2]), (2, .agg #[c0, c1, c2])]).run P u = .ok (.slice (some ⟨u.heap.size, 0, none⟩) 3 3) (u.alloc (.cells ([a0, a1, a2] ++ [b0, b1, b2] ++ [c0, c1, c2]).toArray T)) := by
    simp [Instr.buildSlice, run_underlying hT.und, hT.siz, hT.zer, Instr.fill, Value.cells, newRow, show Array.range 9 = #[0, 1, 2, 3, 4, 5, 6, 7, 8] from by decide]
  simp only [execOp, List.map_toArray, List.map_cons, List.map_nil, h0, h1, h2, Sem.run_bind, Sem.run_pure, Result.andThen, h3]
end

/-! ### Folds of ratios -/
def foldR (f : Rat → Rat → Rat) : List Rat → Rat
  | [] => 0
  | x :: r => r.foldl f x
def pickR (w : Int) (a b : Rat) : Rat := if (b.num * (a.den : Int) - a.num * (b.den : Int)).sign = w then b else a
theorem foldR_next (f : Rat → Rat → Rat) (l : List Rat) (i : Nat) (hi : i < l.length) : foldR f (l.take (i + 1)) = if i = 0 then l[i] else f (foldR f (l.take i)) l[i] := by
  cases l with
  | nil => simp at hi
  | cons x r =>
    cases i with
    | zero => simp [foldR]
    | succ i =>
      rw [if_neg (by omega)]
      simp only [List.take_succ_cons, foldR, List.getElem_cons_succ]
      rw [List.take_succ_eq_append_getElem (by simpa using hi), List.foldl_append]; rfl
theorem getD_at {α : Type} {l : List α} {j : Nat} (d : α) (hj : j < l.length) : l[j]? = some (l.getD j d) := by
  rw [List.getElem?_eq_getElem hj, List.getD_eq_getElem?_getD, List.getElem?_eq_getElem hj]; rfl
theorem fold_first {f : Rat → Rat → Rat} {l : List Rat} {i : Nat} (hi : i < l.length) (h0 : i = 0) : l.getD i 0 = foldR f (l.take (i + 1)) := by
  rw [foldR_next f l i hi, if_pos h0, List.getD_eq_getElem?_getD, List.getElem?_eq_getElem hi]; rfl
theorem fold_more {f : Rat → Rat → Rat} {l : List Rat} {i : Nat} {o : Rat} (hi : i < l.length) (h0 : i ≠ 0) (ho : o = foldR f (l.take i)) : f o (l.getD i 0) = foldR f (l.take (i + 1)) := by
  rw [foldR_next f l i hi, if_neg h0, ← ho, List.getD_eq_getElem?_getD, List.getElem?_eq_getElem hi]; rfl
end Cps
