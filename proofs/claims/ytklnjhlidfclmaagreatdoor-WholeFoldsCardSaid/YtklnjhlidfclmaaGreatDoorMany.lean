/- Slices whose elements are several cells, made by append; slices written out. -/
import Derived.Test.YtklnjhlidfclmaaGreatDoorParse
set_option linter.unusedVariables false
set_option linter.unusedSimpArgs false
namespace Cps
open Go Go.RowKit

section
variable {P : Program} {t e ty : TypeId} {z : Value} {bytes : Nat} {w : World} {a : Act} {d : Option Tmp} {pos : String} {af : Array Edge} {gd : Option (Nat × Bool)}
theorem zero_cells (n : Nat) (z : Value) : (Array.range (n * 1)).map ((#[z] : Array Value)[· % 1]!) = Array.replicate n z := by
  apply Array.ext
  · simp
  · intro i h1 h2; simp [Nat.mod_one]
/-- A slice written out, of elements of one cell. -/
theorem op_buildN (h : RowT P t e z bytes) (n : Nat) {parts : Array (Nat × Operand)} (pv : Array (Nat × Value)) (cs : Array Value) (hp : (parts.map fun q => (q.1, a.eval q.2)) = pv) (hn : 0 < n ∧ n ≤ 16777216) (hf : Instr.fill (fun i => some (i * 1, 1)) (Array.replicate n z) pv.toList = some cs) :
    (execOp a.eval ⟨d, .buildSlice t n parts, ty, pos, af, gd⟩).run P w = .ok (.value (.slice (some ⟨w.heap.size, 0, none⟩) n n)) (w.alloc (.cells cs e)) := by
  obtain ⟨i, hi, hz, hs, hbb⟩ := h.info
  have h1 : (Instr.buildSlice t n pv).run P w = .ok (.slice (some ⟨w.heap.size, 0, none⟩) n n) (w.alloc (.cells cs e)) := by
    have hone := h.one
    have hn0 : ¬ n = 0 := by omega
    have hn1 : ¬ 16777216 < n := by omega
    have hzc := zero_cells n z
    have hs1 : ∀ u, (Go.sizeOf e).run P u = .ok 1 u := h.size
    have hze : ∀ u, (zeroValue e).run P u = .ok z u := fun u => by simp [zeroValue, typeInfo, hi, hz]
    have hn2 : ¬ n * 1 > 2 ^ 24 := by omega
    have hn3 : ¬ n * 1 = 0 := by omega
    simp only [Instr.buildSlice, Sem.run_bind, run_underlying h.und, Result.andThen, hs1, if_neg hn2, if_neg hn3, hze, Sem.run_pure, hone, List.size_toArray, List.length_cons, List.length_nil, Nat.zero_add, hzc, hf]
    rfl
  subst hp
  unfold execOp
  simp only [Sem.run_bind, Sem.run_pure, Result.andThen, h1]
theorem own_built {g n : Nat} {u : World} {cs : Array Value} {vs : List Value} (hm : Made w g (.cells cs e) u) (h1 : cs.size = n) (h2 : cs.toList = vs) (h3 : n ≤ 9223372036854775807) : Own e u g n n vs :=
  ⟨⟨_, hm.at_, h1, by rw [← h1, ← h2, ← Array.length_toList, List.take_length]⟩, Nat.le_refl _, h3⟩
end

/-- A slice type whose elements are k cells: what append wants to know. -/
structure RowA (P : Program) (t e : TypeId) (k : Nat) (z : Array Value) (bytes : Nat) : Prop where
  und : P.underlying t = some (.slice e)
  inf : (P.info? e).map (fun i => (i.zero, i.size, i.bytes)) = some (some (.agg z), k, bytes)
  len : z.size = k
section
variable {P : Program} {t e ty : TypeId} {k : Nat} {z : Array Value} {bytes : Nat} {w : World} {a : Act} {d : Option Tmp} {pos : String} {af : Array Edge} {gd : Option (Nat × Bool)}
theorem RowA.info (h : RowA P t e k z bytes) : ∃ i, P.info? e = some i ∧ i.zero = some (.agg z) ∧ i.size = k ∧ i.bytes = bytes := by
  obtain ⟨i, hi, hz⟩ := Option.map_eq_some_iff.1 h.inf
  simp only [Prod.mk.injEq] at hz
  exact ⟨i, hi, hz.1, hz.2.1, hz.2.2⟩
/-- One element of k cells. -/
theorem op_build1k (h : RowK P t e k z) (hk : 0 < k ∧ k ≤ 16777216) {x : Operand} {v : Array Value} (hx : a.eval x = .agg v) (hv : v.size = k) (hf : Instr.fill (fun i => some (i * k, k)) ((Array.range (1 * k)).map (z[· % k]!)) [(0, .agg v)] = some v) :
    (execOp a.eval ⟨d, .buildSlice t 1 #[(0, x)], ty, pos, af, gd⟩).run P w = .ok (.value (.slice (some ⟨w.heap.size, 0, none⟩) 1 1)) (w.alloc (.cells v e)) := by
  have h1 : (Instr.buildSlice t 1 #[(0, .agg v)]).run P w = .ok (.slice (some ⟨w.heap.size, 0, none⟩) 1 1) (w.alloc (.cells v e)) := by
    have hn0 : ¬ k = 0 := by omega
    have hn1 : ¬ 16777216 < k := by omega
    have hz := h.len
    have hn2 : ¬ 1 * k > 2 ^ 24 := by omega
    have hn3 : ¬ 1 * k = 0 := by omega
    simp only [Instr.buildSlice, Sem.run_bind, run_underlying h.und, Result.andThen, h.siz, if_neg hn2, if_neg hn3, h.zer, Sem.run_pure, Value.cells, hz, hf]
    rfl
  unfold execOp
  simp only [List.map_toArray, List.map_cons, List.map_nil, hx, Sem.run_bind, Sem.run_pure, Result.andThen, h1]
theorem own_one_k {g : Nat} {u : World} {v : Array Value} {vs : List Value} (hm : Made w g (.cells v e) u) (h1 : v.size = k) (h2 : v.toList = vs) (h3 : k ≤ 9223372036854775807) : Own e u g (1 * k) (1 * k) vs := by
  rw [Nat.one_mul]; exact own_built hm h1 h2 h3

theorem run_append_k (hT : RowA P t e k z bytes) {g n c m cx : Nat} {xs ys : List Value} {A : Option Addr} (hk : 0 < k) (hO : Own e w g (n * k) (c * k) xs) (hR : Row e w A (m * k) ys) (h1 : ∀ u ∈ ys, u.oneCell' = true) (hm : 0 < m) (hb : (n + m) * bytes ≤ 140737488355328) (h63 : (n + m) * k ≤ 9223372036854775807) :
    ∃ g' c' u, (Builtin.append_ #[t, t] ty #[.slice (some ⟨g, 0, none⟩) n c, .slice A m cx]).run P w = .ok (.slice (some ⟨g', 0, none⟩) (n + m) c') u ∧ Grew w g g' u ∧ Own e u g' ((n + m) * k) (c' * k) (xs ++ ys) := by
  obtain ⟨i, hi, hz, hs, hbb⟩ := hT.info
  obtain ⟨cur, hg, hcs, htake⟩ := hO.at_
  have hxl := hO.len
  have hyl := hR.1
  have hlen := hT.len
  have hnm : n + m ≤ (n + m) * k := Nat.le_mul_of_pos_right _ hk
  have hadd : (n + m) * k = n * k + m * k := Nat.add_mul _ _ _
  obtain ⟨ad, hA, _⟩ := hR.at_ 0 (Nat.mul_pos hm hk)
  subst hA
  have hnews := hR.cells rfl
  by_cases hroom : n + m ≤ c
  · have hnmk : n * k + m * k ≤ c * k := by rw [← hadd]; exact Nat.mul_le_mul_right k hroom
    have hr := run_append_room (P := P) w t ty e i hT.und hi g n c cur hg ad m cx ys (by rw [hs]; omega) hnews h1 hroom (by rw [hs, hcs]; omega)
    refine ⟨g, c, _, hr, ⟨rfl, rfl, rfl, by simp, fun k _ hk => setRow_other w g k _ hk, .inl rfl⟩, ⟨_, setRow_heap w g cur _ e _ hg, ?_, ?_⟩, by omega, h63⟩
    · simp only [List.size_toArray, List.length_append, List.length_take, List.length_drop, Array.length_toList, hs]; omega
    · rw [hs, htake, show (n + m) * k = (xs ++ ys).length by simp; omega]
      exact List.take_left
  · have holds : ∀ j u, xs[j]? = some u → w.cell? ((⟨g, 0, none⟩ : Addr).add j) = some u := hO.row.cells rfl
    have hfit : Builtin.nextslicecap (n + m) c * i.bytes ≤ 281474976710656 := growslice_fits (by omega) (by rw [hbb]; exact hb)
    have hr := run_append_grow (P := P) w t ty e i (.agg z) hT.und hi hz ⟨g, 0, none⟩ n c xs (by rw [hs]; omega) holds ad m cx ys (by rw [hs]; omega) hnews (by omega) (by omega) hfit
    have hge := grownCap_ge w (n + m) c e
    have hgk : (n + m) * k ≤ grownCap w (n + m) c e * k := Nat.mul_le_mul_right k hge
    have hsub : (grownCap w (n + m) c e - (n + m)) * k = grownCap w (n + m) c e * k - (n + m) * k := Nat.sub_mul _ _ _
    refine ⟨_, _, _, hr, ⟨rfl, rfl, rfl, by simp, fun k hk _ => heap_alloc_old w.drew _ hk, .inr (Nat.le_refl _)⟩, ⟨_, heap_alloc_new w.drew _, ?_, ?_⟩, hgk, h63⟩
    · simp only [Array.size_append, List.size_toArray, size_zeroCells, Value.cells, hlen, hsub]; omega
    · simp only [Array.toList_append, List.append_assoc]
      rw [← List.append_assoc, show (n + m) * k = (xs ++ ys).length by simp; omega]
      exact List.take_left
theorem op_append_k (hT : RowA P t e k z bytes) {s x : Operand} {g n c m cx : Nat} {xs ys : List Value} {A : Option Addr} (hk : 0 < k) (hO : Own e w g (n * k) (c * k) xs) (hR : Row e w A (m * k) ys) (h1 : ∀ u ∈ ys, u.oneCell' = true) (hs : a.eval s = .slice (some ⟨g, 0, none⟩) n c) (hx : a.eval x = .slice A m cx) (hm : 0 < m) (hb : (n + m) * bytes ≤ 140737488355328) (h63 : (n + m) * k ≤ 9223372036854775807) :
    ∃ g' c' u, (execOp a.eval ⟨d, .call { callee := .builtin .append, args := #[s, x], argTypes := #[t, t] }, ty, pos, af, gd⟩).run P w = .ok (.value (.slice (some ⟨g', 0, none⟩) (n + m) c')) u ∧ Grew w g g' u ∧ Own e u g' ((n + m) * k) (c' * k) (xs ++ ys) := by
  obtain ⟨g', c', u, hr, h2, h3⟩ := run_append_k (ty := ty) (cx := cx) hT hk hO hR h1 hm hb h63
  refine ⟨g', c', u, ?_, h2, h3⟩
  unfold execOp
  simp only [resolve, invoke, builtin, Sem.run_bind, Sem.run_pure, Result.andThen_ok, List.map_toArray, List.map_cons, List.map_nil, hs, hx, hr]
theorem op_appnil_k (hT : RowA P t e k z bytes) {s x : Operand} {m cx : Nat} {ys : List Value} {A : Option Addr} (hk : 0 < k) (hR : Row e w A (m * k) ys) (hs : a.eval s = .slice none 0 0) (hx : a.eval x = .slice A m cx) (hm : 0 < m) (hb : m * bytes ≤ 140737488355328) (h63 : m * k ≤ 9223372036854775807) :
    ∃ g' c' u, (execOp a.eval ⟨d, .call { callee := .builtin .append, args := #[s, x], argTypes := #[t, t] }, ty, pos, af, gd⟩).run P w = .ok (.value (.slice (some ⟨g', 0, none⟩) m c')) u ∧ Grew w w.heap.size g' u ∧ Own e u g' (m * k) (c' * k) ys := by
  obtain ⟨i, hi, hz, hs', hbb⟩ := hT.info
  have hlen := hT.len
  have hmk : m ≤ m * k := Nat.le_mul_of_pos_right _ hk
  obtain ⟨ad, hA, _⟩ := hR.at_ 0 (Nat.mul_pos hm hk)
  subst hA
  have hyl := hR.1
  have hr := run_append_nil (P := P) w t ty e i (.agg z) hT.und hi hz ad m cx ys (by rw [hs']; omega) (hR.cells rfl) hm (by omega) (by rw [hbb]; exact Nat.le_trans hb (by decide))
  have hge := grownCap_ge w m 0 e
  have hgk : m * k ≤ grownCap w m 0 e * k := Nat.mul_le_mul_right k hge
  have hsub : (grownCap w m 0 e - m) * k = grownCap w m 0 e * k - m * k := Nat.sub_mul _ _ _
  have hr2 : ∃ v u, (Builtin.append_ #[t, t] ty #[.slice none 0 0, .slice (some ad) m cx]).run P w = .ok v u ∧ v = .slice (some ⟨w.heap.size, 0, none⟩) m (grownCap w m 0 e) ∧ u = w.drew.alloc (.cells (ys.toArray ++ Builtin.zeroCells (Value.agg z).cells (grownCap w m 0 e - m)) e) := ⟨_, _, hr, rfl, rfl⟩
  obtain ⟨v, u, hr2, rfl, rfl⟩ := hr2
  refine ⟨w.heap.size, grownCap w m 0 e, w.drew.alloc (.cells (ys.toArray ++ Builtin.zeroCells (Value.agg z).cells (grownCap w m 0 e - m)) e), ?_, ⟨rfl, rfl, rfl, by simp, fun k hk _ => heap_alloc_old w.drew _ hk, .inr (Nat.le_refl _)⟩, ⟨_, heap_alloc_new w.drew _, ?_, ?_⟩, hgk, h63⟩
  · unfold execOp
    simp only [resolve, invoke, builtin, Sem.run_bind, Sem.run_pure, Result.andThen_ok, List.map_toArray, List.map_cons, List.map_nil, hs, hx, hr2]
  · simp only [Array.size_append, List.size_toArray, size_zeroCells, Value.cells, hlen, hsub]; omega
  · simp only [Array.toList_append]
    rw [← hyl]
    exact List.take_left
end

/-! ### What is told of the elements, while the slice is still one's own -/
/-- The cells of elements, and their values. -/
def EKd {α : Type} (K : Kd α) (k : Nat) : Kd (List α) where
  R X w cs xs := ∃ vs : List (List Value), cs = vs.flatten ∧ vs.length = xs.length ∧ Els K k X w vs xs
  st {X X' w w' cs x} h hs hX := by
    obtain ⟨vs, h1, h2, h3⟩ := h
    exact ⟨vs, h1, h2, fun j v x hv hx => ⟨(h3 j v x hv hx).1, K.st (h3 j v x hv hx).2 hs hX⟩⟩
section
variable {α : Type} {K : Kd α} {k : Nat} {X : Nat → Prop} {w : World} {cs v : List Value} {xs : List α} {x : α}
theorem EKd.nil : (EKd K k).R X w [] [] := ⟨[], rfl, rfl, fun j v x h => by simp at h⟩
theorem EKd.snoc (h : (EKd K k).R X w cs xs) (hv : K.R X w v x) (hk : v.length = k) : (EKd K k).R X w (cs ++ v) (xs ++ [x]) := by
  obtain ⟨vs, h1, h2, h3⟩ := h
  refine ⟨vs ++ [v], by rw [h1]; simp, by simp [h2], fun j v' x' hv' hx' => ?_⟩
  by_cases hj : j < vs.length
  · rw [List.getElem?_append_left hj] at hv'
    rw [List.getElem?_append_left (by omega)] at hx'
    exact h3 j v' x' hv' hx'
  · rw [List.getElem?_append_right (by omega)] at hv' hx'
    rw [← h2] at hx'
    have hj0 : j - vs.length = 0 := by
      rcases Nat.eq_zero_or_pos (j - vs.length) with h | h
      · exact h
      · rw [List.getElem?_eq_none (by simp; omega)] at hv'; cases hv'
    rw [hj0] at hv' hx'
    simp at hv' hx'
    subst hv' hx'
    exact ⟨hk, hv⟩
theorem EKd.one (hv : K.R X w v x) (hk : v.length = k) : (EKd K k).R X w v [x] := by simpa using EKd.snoc EKd.nil hv hk
/-- Nobody writes it any more. -/
theorem LKd.ofOwn {T : TypeId} {g n c : Nat} (hO : Own T w g (n * k) (c * k) cs) (hE : (EKd K k).R X w cs xs) (hl : xs.length = n) (hn : n ≤ 9223372036854775807) (hc : n ≤ c) (hx : ¬ X g) : (LKd K T k).R X w [.slice (some ⟨g, 0, none⟩) n c] xs := by
  obtain ⟨vs, h1, h2, h3⟩ := hE
  exact ⟨⟨hl, hc, hn⟩, vs, h2.trans hl, ⟨T, (h1 ▸ hO.row : Row _ _ _ _ _).free⟩, Avoid.own hx, h3⟩
theorem Own.capk {T : TypeId} {g n c : Nat} (hk : 0 < k) (hO : Own T w g (n * k) (c * k) cs) : n ≤ c := Nat.le_of_mul_le_mul_right hO.le hk
end

section
variable {M : Mode} {P : Program} {ops : Array Oper} {Q : Exit → Act → World → Prop} {w V : World} {G Xs E G' : List Nat} {X : Nat → Prop} {L : List Cell} {F : List Fa} {a : Act} {i : Nat} {l : Tr}
theorem GL.grk {d : Option Tmp} {op : Op} {ty : TypeId} {pos : String} {af : Array Edge} {gd : Option (Nat × Bool)} {g n' k : Nat} {e : TypeId} {xs' : List Value} {L' : Nat → Nat → List Cell} (f : ∀ u g' c' u', Mem w G X u L F → Grew u g g' u' → Own e u' g' (n' * k) (c' * k) xs' → Mem w G X u' (L' g' c') F)
    (hr : ∀ u, Mem w G X u L F → ∃ g' c' u', (execOp a.eval ⟨d, op, ty, pos, af, gd⟩).run P u = .ok (.value (.slice (some ⟨g', 0, none⟩) n' c')) u' ∧ Grew u g g' u' ∧ Own e u' g' (n' * k) (c' * k) xs')
    (h : ∀ g' c', GL P ops Q l (a.put d (.slice (some ⟨g', 0, none⟩) n' c')) w G X (L' g' c') F) (ho : ops[i]? = some ⟨d, op, ty, pos, af, gd⟩ := by rfl) (hw : Region.wanted ⟨d, op, ty, pos, af, gd⟩ (yielded ops a.tmps) = true := by kernel_rfl) : GL P ops Q (.step i l) a w G X L F := by
  unfold GL at *
  intro u hM
  exact seq_grow (F := fun g' c' u' => Own e u' g' (n' * k) (c' * k) xs') rfl ho rfl hw (hr u hM) fun g' c' u' hg hO => ⟨fun _ => trivial, h g' c' u' (f u g' c' u' hM hg hO)⟩
theorem GL.gnk {d : Option Tmp} {op : Op} {ty : TypeId} {pos : String} {af : Array Edge} {gd : Option (Nat × Bool)} {n' k : Nat} {e : TypeId} {xs' : List Value} (hr : ∀ u, Mem w G X u L F → ∃ g' c' u', (execOp a.eval ⟨d, op, ty, pos, af, gd⟩).run P u = .ok (.value (.slice (some ⟨g', 0, none⟩) n' c')) u' ∧ Grew u u.heap.size g' u' ∧ Own e u' g' (n' * k) (c' * k) xs')
    (h : ∀ g' c', GL P ops Q l (a.put d (.slice (some ⟨g', 0, none⟩) n' c')) w G X (.own g' e (n' * k) (c' * k) xs' :: L) F) (ho : ops[i]? = some ⟨d, op, ty, pos, af, gd⟩ := by rfl) (hw : Region.wanted ⟨d, op, ty, pos, af, gd⟩ (yielded ops a.tmps) = true := by kernel_rfl) : GL P ops Q (.step i l) a w G X L F := by
  unfold GL at *
  intro u hM
  exact seq_grow (F := fun g' c' u' => Own e u' g' (n' * k) (c' * k) xs') rfl ho rfl hw (hr u hM) fun g' c' u' hg hO => ⟨fun _ => trivial, h g' c' u' (hM.grown hg hO)⟩
end
/-! ### Rules on slices of several cells -/
section
variable {M : Mode} {P : Program} {ops : Array Oper} {Q : Exit → Act → World → Prop} {w V : World} {G Xs E G' : List Nat} {X : Nat → Prop} {L : List Cell} {F : List Fa} {a : Act} {i : Nat} {l : Tr}
theorem GL.rowk {d : Option Tmp} {op : Op} {ty : TypeId} {pos : String} {af : Array Edge} {gd : Option (Nat × Bool)} {n m k : Nat} {e : TypeId} {xs : List Value} {ob : Obj} (hr : ∀ u, (execOp a.eval ⟨d, op, ty, pos, af, gd⟩).run P u = .ok (.value (.slice (some ⟨u.heap.size, 0, none⟩) n m)) (u.alloc ob)) (hO : ∀ u g u', Made u g ob u' → Own e u' g (n * k) (m * k) xs)
    (h : ∀ g, GL P ops Q l (a.put d (.slice (some ⟨g, 0, none⟩) n m)) w G X (.own g e (n * k) (m * k) xs :: L) F) (ho : ops[i]? = some ⟨d, op, ty, pos, af, gd⟩ := by rfl) (hw : Region.wanted ⟨d, op, ty, pos, af, gd⟩ (yielded ops a.tmps) = true := by kernel_rfl) : GL P ops Q (.step i l) a w G X L F := by
  unfold GL at *
  intro u hM
  exact seq_row rfl ho rfl hw (hr u) fun g u' hm => ⟨fun _ => trivial, h g u' (hM.row hm (hO u g u' hm))⟩
theorem GD.rowk {d : Option Tmp} {op : Op} {ty : TypeId} {pos : String} {af : Array Edge} {gd : Option (Nat × Bool)} {n m k : Nat} {e : TypeId} {xs : List Value} {ob : Obj} (hr : ∀ u, (execOp a.eval ⟨d, op, ty, pos, af, gd⟩).run P u = .ok (.value (.slice (some ⟨u.heap.size, 0, none⟩) n m)) (u.alloc ob)) (hO : ∀ u g u', Made u g ob u' → Own e u' g (n * k) (m * k) xs)
    (h : ∀ g, V.heap.size ≤ g → GD P ops Q V Xs E l (a.put d (.slice (some ⟨g, 0, none⟩) n m)) G' w G X (.own g e (n * k) (m * k) xs :: L) F) (hl : Late ops E i G' Xs := by first | (refine .inr ?_; simp; done) | (refine .inl ?_; kernel_rfl)) (hE : E.contains i = false := by rfl) (ho : ops[i]? = some ⟨d, op, ty, pos, af, gd⟩ := by rfl) (hw : Region.wanted ⟨d, op, ty, pos, af, gd⟩ (yielded ops a.tmps) = true := by kernel_rfl) :
    GD P ops Q V Xs E (.step i l) a G' w G X L F := by
  unfold GD at *
  intro u hM hU
  exact seq_row hE ho rfl hw (hr u) fun g u' hm => ⟨hl.ok (hU.made hm), h g (Nat.le_trans hU.size hm.ge) u' (hM.row hm (hO u g u' hm)) (hU.made hm)⟩
/-- Onto a row that stood before the region. -/
theorem GD.grk {d : Option Tmp} {op : Op} {ty : TypeId} {pos : String} {af : Array Edge} {gd : Option (Nat × Bool)} {g n' k : Nat} {e : TypeId} {xs' : List Value} {L' : Nat → Nat → List Cell} (f : ∀ u g' c' u', Mem w G X u L F → Grew u g g' u' → Own e u' g' (n' * k) (c' * k) xs' → Mem w G X u' (L' g' c') F)
    (hr : ∀ u, Mem w G X u L F → ∃ g' c' u', (execOp a.eval ⟨d, op, ty, pos, af, gd⟩).run P u = .ok (.value (.slice (some ⟨g', 0, none⟩) n' c')) u' ∧ Grew u g g' u' ∧ Own e u' g' (n' * k) (c' * k) xs')
    (h : ∀ g' c', GD P ops Q V Xs E l (a.put d (.slice (some ⟨g', 0, none⟩) n' c')) (g :: G') w G X (L' g' c') F) (hl : Late ops E i (g :: G') Xs := by first | (refine .inr ?_; simp; done) | (refine .inl ?_; kernel_rfl)) (hE : E.contains i = false := by rfl) (ho : ops[i]? = some ⟨d, op, ty, pos, af, gd⟩ := by rfl) (hw : Region.wanted ⟨d, op, ty, pos, af, gd⟩ (yielded ops a.tmps) = true := by kernel_rfl) :
    GD P ops Q V Xs E (.step i l) a G' w G X L F := by
  unfold GD at *
  intro u hM hU
  exact seq_grow (F := fun g' c' u' => Own e u' g' (n' * k) (c' * k) xs') hE ho rfl hw (hr u hM) fun g' c' u' hg hO => ⟨hl.ok (hU.grew hg), h g' c' u' (f u g' c' u' hM hg hO) (hU.grew hg)⟩
/-- Onto nothing. -/
theorem GD.gnk {d : Option Tmp} {op : Op} {ty : TypeId} {pos : String} {af : Array Edge} {gd : Option (Nat × Bool)} {n' k : Nat} {e : TypeId} {xs' : List Value} (hr : ∀ u, Mem w G X u L F → ∃ g' c' u', (execOp a.eval ⟨d, op, ty, pos, af, gd⟩).run P u = .ok (.value (.slice (some ⟨g', 0, none⟩) n' c')) u' ∧ Grew u u.heap.size g' u' ∧ Own e u' g' (n' * k) (c' * k) xs')
    (h : ∀ g' c', GD P ops Q V Xs E l (a.put d (.slice (some ⟨g', 0, none⟩) n' c')) G' w G X (.own g' e (n' * k) (c' * k) xs' :: L) F) (hl : Late ops E i G' Xs := by first | (refine .inr ?_; simp; done) | (refine .inl ?_; kernel_rfl)) (hE : E.contains i = false := by rfl) (ho : ops[i]? = some ⟨d, op, ty, pos, af, gd⟩ := by rfl) (hw : Region.wanted ⟨d, op, ty, pos, af, gd⟩ (yielded ops a.tmps) = true := by kernel_rfl) :
    GD P ops Q V Xs E (.step i l) a G' w G X L F := by
  unfold GD at *
  intro u hM hU
  exact seq_grow (F := fun g' c' u' => Own e u' g' (n' * k) (c' * k) xs') hE ho rfl hw (hr u hM) fun g' c' u' hg hO => ⟨hl.ok (hU.grewNew hg hU.size), h g' c' u' (hM.grown hg hO) (hU.grewNew hg hU.size)⟩
theorem NRk.cells {X : Nat → Prop} {u : World} {v : List Value} {x : Rat} (h : NRk.R X u v x) : ∃ s A n c s' A' n' c', v = [.int .i64 s, .slice A n c, .int .i64 s', .slice A' n' c'] := by
  unfold NRk at h
  simp only at h
  split at h
  · exact ⟨_, _, _, _, _, _, _, _, rfl⟩
  · exact h.elim
/-- A ratio is read out of a slice. -/
theorem GL.exNR {x : Rat} {d : Option Tmp} {op : Op} {ty : TypeId} {pos : String} {af : Array Edge} {gd : Option (Nat × Bool)} (hr : ∀ u, Mem w G X u L F → ∃ v : List Value, (execOp a.eval ⟨d, op, ty, pos, af, gd⟩).run P u = .ok (.value (.agg v.toArray)) u ∧ NRk.R (av X L) u v x)
    (h : ∀ s A n c s' A' n' c', GL P ops Q l (a.put d (.agg #[.int .i64 s, .slice A n c, .int .i64 s', .slice A' n' c'])) w G X L (⟨NRk, [.int .i64 s, .slice A n c, .int .i64 s', .slice A' n' c'], x⟩ :: F)) (ho : ops[i]? = some ⟨d, op, ty, pos, af, gd⟩ := by rfl) (hw : Region.wanted ⟨d, op, ty, pos, af, gd⟩ (yielded ops a.tmps) = true := by kernel_rfl) :
    GL P ops Q (.step i l) a w G X L F := by
  unfold GL at *
  intro u hM
  obtain ⟨v, h1, h2⟩ := hr u hM
  obtain ⟨s, A, n, c, s', A', n', c', rfl⟩ := NRk.cells h2
  exact seq_do rfl ho rfl hw h1 (fun _ => trivial) (h s A n c s' A' n' c' u (hM.add h2))
theorem GD.exNR {x : Rat} {d : Option Tmp} {op : Op} {ty : TypeId} {pos : String} {af : Array Edge} {gd : Option (Nat × Bool)} (hr : ∀ u, Mem w G X u L F → ∃ v : List Value, (execOp a.eval ⟨d, op, ty, pos, af, gd⟩).run P u = .ok (.value (.agg v.toArray)) u ∧ NRk.R (av X L) u v x)
    (h : ∀ s A n c s' A' n' c', GD P ops Q V Xs E l (a.put d (.agg #[.int .i64 s, .slice A n c, .int .i64 s', .slice A' n' c'])) G' w G X L (⟨NRk, [.int .i64 s, .slice A n c, .int .i64 s', .slice A' n' c'], x⟩ :: F)) (hl : Late ops E i G' Xs := by first | (refine .inr ?_; simp; done) | (refine .inl ?_; kernel_rfl)) (hE : E.contains i = false := by rfl) (ho : ops[i]? = some ⟨d, op, ty, pos, af, gd⟩ := by rfl) (hw : Region.wanted ⟨d, op, ty, pos, af, gd⟩ (yielded ops a.tmps) = true := by kernel_rfl) :
    GD P ops Q V Xs E (.step i l) a G' w G X L F := by
  unfold GD at *
  intro u hM hU
  obtain ⟨v, h1, h2⟩ := hr u hM
  obtain ⟨s, A, n, c, s', A', n', c', rfl⟩ := NRk.cells h2
  exact seq_do hE ho rfl hw h1 (hl.ok hU) (h s A n c s' A' n' c' u (hM.add h2) hU)
theorem GD.exR {x : Rat} {d : Option Tmp} {op : Op} {ty : TypeId} {pos : String} {af : Array Edge} {gd : Option (Nat × Bool)} (hr : ∀ u, Mem w G X u L F → ∃ v : List Value, (execOp a.eval ⟨d, op, ty, pos, af, gd⟩).run P u = .ok (.value (.agg v.toArray)) u ∧ Rk.R (av X L) u v x)
    (h : ∀ A n c m A' n' c', GD P ops Q V Xs E l (a.put d (.agg #[.slice A n c, .bool m, .slice A' n' c'])) G' w G X L (⟨Rk, [.slice A n c, .bool m, .slice A' n' c'], x⟩ :: F)) (hl : Late ops E i G' Xs := by first | (refine .inr ?_; simp; done) | (refine .inl ?_; kernel_rfl)) (hE : E.contains i = false := by rfl) (ho : ops[i]? = some ⟨d, op, ty, pos, af, gd⟩ := by rfl) (hw : Region.wanted ⟨d, op, ty, pos, af, gd⟩ (yielded ops a.tmps) = true := by kernel_rfl) :
    GD P ops Q V Xs E (.step i l) a G' w G X L F := by
  unfold GD at *
  intro u hM hU
  obtain ⟨v, h1, h2⟩ := hr u hM
  obtain ⟨A, n, c, m, A', n', c', rfl⟩ := Rk.cells h2
  exact seq_do hE ho rfl hw h1 (hl.ok hU) (h A n c m A' n' c' u (hM.add h2) hU)
end

/-! ### Pairs of numbers -/
def P2k : Kd (Int × Int) where
  R X w cs x := cs = [.int .i64 x.1, .int .i64 x.2]
  st h _ _ := h
section
variable {P : Program} {w : World} {a : Act} {d : Option Tmp} {ty t e : TypeId} {pos : String} {af : Array Edge} {gd : Option (Nat × Bool)} {z : Array Value} {X : Nat → Prop} {A : Option Addr} {n c : Nat} {xs : List (Int × Int)}
theorem op_load_p2 (hT : RowK P t e 2 z) {x : Operand} {j : Nat} (hx : a.eval x = elemPtr A (j * 2)) (h : (LKd P2k e 2).R X w [.slice A n c] xs) (hj : j < n) :
    (execOp a.eval ⟨d, .load e x, ty, pos, af, gd⟩).run P w = .ok (.value (.agg #[.int .i64 (xs.getD j (0, 0)).1, .int .i64 (xs.getD j (0, 0)).2])) w := by
  obtain ⟨v, h1, h2⟩ := op_load_k (d := d) (ty := ty) (pos := pos) (af := af) (gd := gd) hT (by decide) hx h hj (getD_at (0, 0) (by rw [LKd.len h]; exact hj))
  rw [h1, h2]
end
/-! ### A closure that holds one number -/
def Wk (f : Nat) (T : TypeId) : Kd Int where
  R X w cs x := ∃ b, cs = [.func (.func f) #[] #[.pointer (some ⟨b, 0, none⟩)]] ∧ (Bk T).R X w [.pointer (some ⟨b, 0, none⟩)] #[.int .i64 x]
  st {X X' w w' cs x} h hs hX := let ⟨b, h1, h2⟩ := h; ⟨b, h1, (Bk T).st h2 hs hX⟩
theorem Wk.of {f : Nat} {T : TypeId} {X : Nat → Prop} {w : World} {b : Nat} {x : Int} (h : (Bk T).R X w [.pointer (some ⟨b, 0, none⟩)] #[.int .i64 x]) : (Wk f T).R X w [.func (.func f) #[] #[.pointer (some ⟨b, 0, none⟩)]] x := ⟨b, rfl, h⟩
theorem Wk.bk {f : Nat} {T : TypeId} {X : Nat → Prop} {w : World} {b : Nat} {x : Int} (h : (Wk f T).R X w [.func (.func f) #[] #[.pointer (some ⟨b, 0, none⟩)]] x) : (Bk T).R X w [.pointer (some ⟨b, 0, none⟩)] #[.int .i64 x] := by
  obtain ⟨b', h1, h2⟩ := h
  obtain rfl : b = b' := by simpa using h1
  exact h2

/-! ### Folds -/
theorem foldR_sz {f : Rat → Rat → Rat} {s : Rat → Nat} {k : Nat} (h0 : s 0 ≤ k) (hf : ∀ a b, s (f a b) ≤ s a + s b + 1) : ∀ l : List Rat, (∀ r ∈ l, s r ≤ k) → s (foldR f l) ≤ (k + 1) * l.length + k
  | [], _ => by simpa [foldR] using h0
  | x :: r, h => by
    have key : ∀ (r : List Rat) (a : Rat), (∀ q ∈ r, s q ≤ k) → s (r.foldl f a) ≤ s a + (k + 1) * r.length := by
      intro r
      induction r with
      | nil => intro a _; simp
      | cons b r ih =>
        intro a hr
        have h1 := ih (f a b) (fun q hq => hr q (List.mem_cons_of_mem _ hq))
        have h2 := hf a b
        have h3 := hr b (List.mem_cons_self ..)
        rw [List.foldl_cons, List.length_cons, Nat.mul_succ]; omega
    have h1 := key r x (fun q hq => h q (List.mem_cons_of_mem _ hq))
    have h2 := h x (List.mem_cons_self ..)
    show s (r.foldl f x) ≤ _
    rw [List.length_cons, Nat.mul_succ]; omega
theorem pickR_sz (s : Rat → Nat) (w : Int) (a b : Rat) : s (pickR w a b) ≤ s a + s b + 1 := by unfold pickR; split <;> omega
theorem fold_pre {f : Rat → Rat → Rat} {s : Rat → Nat} {k m : Nat} {l : List Rat} (h0 : s 0 ≤ k) (hf : ∀ a b, s (f a b) ≤ s a + s b + 1) (h : ∀ r ∈ l, s r ≤ k) (hl : l.length ≤ 30) (hm : (k + 1) * 30 + k + k ≤ m) : ∀ i, i < l.length → s (foldR f (l.take i)) + s (l.getD i 0) ≤ m := by
  intro i hi
  have h1 := foldR_sz h0 hf (l.take i) (fun r hr => h r (List.mem_of_mem_take hr))
  have h2 : s (l.getD i 0) ≤ k := by
    rw [List.getD_eq_getElem?_getD, List.getElem?_eq_getElem hi]; exact h _ (List.getElem_mem hi)
  have h3 : (k + 1) * (l.take i).length ≤ (k + 1) * 30 := Nat.mul_le_mul_left _ (by simp; omega)
  omega
theorem fold_all {f : Rat → Rat → Rat} {s : Rat → Nat} {k m : Nat} {l : List Rat} (h0 : s 0 ≤ k) (hf : ∀ a b, s (f a b) ≤ s a + s b + 1) (h : ∀ r ∈ l, s r ≤ k) (hl : l.length ≤ 30) (hm : (k + 1) * 30 + k + k ≤ m) : s (foldR f l) ≤ m := by
  have h1 := foldR_sz h0 hf l h
  have h3 : (k + 1) * l.length ≤ (k + 1) * 30 := Nat.mul_le_mul_left _ hl
  omega
theorem szR_zero3 : szR 0 ≤ 3 := Nat.le_trans (szR_le (by decide) (by decide)) (by decide)
theorem szgR_zero5 : szgR 0 ≤ 5 := Nat.le_trans szgR_zero (by decide)
theorem mem_snoc {α : Type} {l : List α} {x : α} {p : α → Prop} (h : ∀ r ∈ l, p r) (hx : p x) : ∀ r ∈ l ++ [x], p r := by
  intro r hr
  rcases List.mem_append.1 hr with h1 | h1
  · exact h r h1
  · rw [List.mem_singleton.1 h1]; exact hx
theorem fold_sum {l : List Rat} {i : Nat} {o : Rat} (hi : i < l.length) (ho : o = foldR (· + ·) (l.take i)) : o + l.getD i 0 = foldR (· + ·) (l.take (i + 1)) := by
  by_cases h0 : i = 0
  · subst h0
    rw [← fold_first (f := (· + ·)) hi rfl, ho, List.take_zero]; exact Rat.zero_add _
  · exact fold_more (f := (· + ·)) hi h0 ho
theorem fold_pick_yes {w : Int} {l : List Rat} {i : Nat} {o : Rat} (hi : i < l.length) (ho : o = foldR (pickR w) (l.take i)) (h : i = 0 ∨ ((l.getD i 0).num * (o.den : Int) - o.num * ((l.getD i 0).den : Int)).sign = w) : l.getD i 0 = foldR (pickR w) (l.take (i + 1)) := by
  by_cases h0 : i = 0
  · exact fold_first hi h0
  · rw [← fold_more (f := pickR w) hi h0 ho]
    unfold pickR; rw [if_pos (by rcases h with h | h; exact absurd h h0; exact h)]
theorem fold_pick_no {w : Int} {l : List Rat} {i : Nat} {o : Rat} (hi : i < l.length) (ho : o = foldR (pickR w) (l.take i)) (h0 : ¬ i = 0) (h : ¬ ((l.getD i 0).num * (o.den : Int) - o.num * ((l.getD i 0).den : Int)).sign = w) : o = foldR (pickR w) (l.take (i + 1)) := by
  rw [← fold_more (f := pickR w) hi h0 ho]
  unfold pickR; rw [if_neg h]
theorem sgn_lt1 (x : Int) : decide (x.sign < (0 : Int)) = decide (x.sign = -1) := by
  rcases sign_cases x with ⟨h, _⟩ | ⟨h, _⟩ | ⟨h, _⟩ <;> rw [h] <;> decide
theorem sgn_gt1 (x : Int) : decide (x.sign > (0 : Int)) = decide (x.sign = 1) := by
  rcases sign_cases x with ⟨h, _⟩ | ⟨h, _⟩ | ⟨h, _⟩ <;> rw [h] <;> decide
/-! ### The cells in another order -/
section
variable {w u : World} {G : List Nat} {X : Nat → Prop} {L L' : List Cell} {F : List Fa}
theorem Mem.perm (hM : Mem w G X u L F) (hp : L.Perm L') : Mem w G X u L' F :=
  ⟨hM.upd, fun c h => hM.new c (hp.mem_iff.2 h), fun c h => hM.ok c (hp.mem_iff.2 h), ((hp.map Cell.g).nodup_iff).1 hM.nd, hM.lt, hM.ap,
    fun f hf => f.k.less (hM.fct f hf) fun k _ hk => hk.imp id fun h => ((hp.map Cell.g).mem_iff).2 h⟩
variable {c d c0 c1 c2 c3 c4 c5 c6 c7 c8 : Cell}
theorem Mem.swap2 (hM : Mem w G X u (c0 :: c1 :: c :: d :: L) F) : Mem w G X u (c0 :: c1 :: d :: c :: L) F := hM.perm (List.Perm.cons _ (List.Perm.cons _ (List.Perm.swap _ _ _)))
theorem Mem.swap3 (hM : Mem w G X u (c0 :: c1 :: c2 :: c :: d :: L) F) : Mem w G X u (c0 :: c1 :: c2 :: d :: c :: L) F := hM.perm (List.Perm.cons _ (List.Perm.cons _ (List.Perm.cons _ (List.Perm.swap _ _ _))))
theorem Mem.swap4 (hM : Mem w G X u (c0 :: c1 :: c2 :: c3 :: c :: d :: L) F) : Mem w G X u (c0 :: c1 :: c2 :: c3 :: d :: c :: L) F := hM.perm (List.Perm.cons _ (List.Perm.cons _ (List.Perm.cons _ (List.Perm.cons _ (List.Perm.swap _ _ _)))))
theorem Mem.swap5 (hM : Mem w G X u (c0 :: c1 :: c2 :: c3 :: c4 :: c :: d :: L) F) : Mem w G X u (c0 :: c1 :: c2 :: c3 :: c4 :: d :: c :: L) F := hM.perm (List.Perm.cons _ (List.Perm.cons _ (List.Perm.cons _ (List.Perm.cons _ (List.Perm.cons _ (List.Perm.swap _ _ _))))))
theorem Mem.swap6 (hM : Mem w G X u (c0 :: c1 :: c2 :: c3 :: c4 :: c5 :: c :: d :: L) F) : Mem w G X u (c0 :: c1 :: c2 :: c3 :: c4 :: c5 :: d :: c :: L) F := hM.perm (List.Perm.cons _ (List.Perm.cons _ (List.Perm.cons _ (List.Perm.cons _ (List.Perm.cons _ (List.Perm.cons _ (List.Perm.swap _ _ _)))))))
theorem Mem.swap7 (hM : Mem w G X u (c0 :: c1 :: c2 :: c3 :: c4 :: c5 :: c6 :: c :: d :: L) F) : Mem w G X u (c0 :: c1 :: c2 :: c3 :: c4 :: c5 :: c6 :: d :: c :: L) F := hM.perm (List.Perm.cons _ (List.Perm.cons _ (List.Perm.cons _ (List.Perm.cons _ (List.Perm.cons _ (List.Perm.cons _ (List.Perm.cons _ (List.Perm.swap _ _ _))))))))
theorem Mem.swap8 (hM : Mem w G X u (c0 :: c1 :: c2 :: c3 :: c4 :: c5 :: c6 :: c7 :: c :: d :: L) F) : Mem w G X u (c0 :: c1 :: c2 :: c3 :: c4 :: c5 :: c6 :: c7 :: d :: c :: L) F := hM.perm (List.Perm.cons _ (List.Perm.cons _ (List.Perm.cons _ (List.Perm.cons _ (List.Perm.cons _ (List.Perm.cons _ (List.Perm.cons _ (List.Perm.cons _ (List.Perm.swap _ _ _)))))))))
theorem Mem.swap9 (hM : Mem w G X u (c0 :: c1 :: c2 :: c3 :: c4 :: c5 :: c6 :: c7 :: c8 :: c :: d :: L) F) : Mem w G X u (c0 :: c1 :: c2 :: c3 :: c4 :: c5 :: c6 :: c7 :: c8 :: d :: c :: L) F := hM.perm (List.Perm.cons _ (List.Perm.cons _ (List.Perm.cons _ (List.Perm.cons _ (List.Perm.cons _ (List.Perm.cons _ (List.Perm.cons _ (List.Perm.cons _ (List.Perm.cons _ (List.Perm.swap _ _ _))))))))))
end
/-! ### A slice of pairs of numbers that came in -/
def intOf : Value → Int
  | .int _ n => n
  | _ => 0
theorem pairs_get {V0 V1 : Nat → Value} {n i : Nat} (hi : i < n) : (((List.range n).map fun j => (intOf (V0 j), intOf (V1 j))).getD i (0, 0)) = (intOf (V0 i), intOf (V1 i)) := by
  rw [List.getD_eq_getElem?_getD, List.getElem?_map, List.getElem?_range hi]; rfl
theorem cell_at {w : World} {a : Addr} {v : Value} (h : w.cell? a = some v) : a.spot = none ∧ ∃ c t fr, w.heap[a.block]? = some (.cells c t fr) ∧ c[a.off]? = some v := by
  unfold World.cell? at h
  split at h
  · rename_i c t fr hh
    split at h
    · cases h
    · rename_i hs
      exact ⟨by simpa using hs, c, t, fr, hh, h⟩
  · cases h
theorem pairs_of {w : World} {T : TypeId} {a : Addr} {n c : Nat} {V0 V1 : Nat → Value} (hl : n ≤ c) (hm : c ≤ 9223372036854775807)
    (h : ∀ i, i < n → w.cell? (a.add (i * 2)) = some (V0 i) ∧ w.cell? (a.add (i * 2 + 1)) = some (V1 i) ∧ (∃ x, V0 i = .int .i64 x) ∧ ∃ y, V1 i = .int .i64 y) :
    (LKd P2k T 2).R (fun _ => False) w [.slice (some a) n c] ((List.range n).map fun j => (intOf (V0 j), intOf (V1 j))) := by
  have hvs : ∀ v ∈ (List.range n).map (fun j => [V0 j, V1 j]), v.length = 2 := fun v hv => by
    obtain ⟨j, _, rfl⟩ := List.mem_map.1 hv; rfl
  have hfl := flat_at hvs
  rw [List.length_map, List.length_range] at hfl
  have hav : Avoid (fun _ => False) (some a) (n * 2) := fun _ _ _ h => h
  have hels : Els P2k 2 (fun _ => False) w ((List.range n).map fun j => [V0 j, V1 j]) ((List.range n).map fun j => (intOf (V0 j), intOf (V1 j))) := by
    intro j v x hv hx
    rw [List.getElem?_map] at hv hx
    have hj : j < n := by
      rcases Nat.lt_or_ge j n with h' | h'
      · exact h'
      · rw [List.getElem?_eq_none (by simpa using h')] at hv; cases hv
    rw [List.getElem?_range hj] at hv hx
    simp only [Option.map_some, Option.some.injEq] at hv hx
    subst hv hx
    obtain ⟨_, _, ⟨x, hx⟩, ⟨y, hy⟩⟩ := h j hj
    refine ⟨rfl, ?_⟩
    show [V0 j, V1 j] = _
    rw [hx, hy]; rfl
  rcases Nat.eq_zero_or_pos n with h0 | h0
  · subst h0
    exact ⟨⟨rfl, hl, by omega⟩, [], rfl, ⟨T, by rw [Nat.zero_mul]; exact (Row.nil _ _ _).free⟩, hav, fun j v x hv => by simp at hv⟩
  · obtain ⟨hs, cs, T', fr, hb, _⟩ := cell_at (h 0 h0).1
    obtain ⟨g, off, spot⟩ := a
    have hs' : spot = none := hs
    subst hs'
    refine ⟨⟨by simp, hl, by omega⟩, (List.range n).map fun j => [V0 j, V1 j], by simp, ⟨T', by rw [hfl.1], fun _ => ⟨g, off, cs, fr, rfl, hb, fun j hj => ?_⟩⟩, hav, hels⟩
    have hi : j / 2 < n := by omega
    obtain ⟨c0, c1, _⟩ := h (j / 2) hi
    have hv : ((List.range n).map fun j => [V0 j, V1 j])[j / 2]? = some [V0 (j / 2), V1 (j / 2)] := by
      rw [List.getElem?_map, List.getElem?_range hi]; rfl
    have e : (j / 2) * 2 + j % 2 = j := by omega
    have key := hfl.2 (j / 2) _ hv (j % 2) (by omega)
    rw [e] at key
    rw [key]
    have hb' : w.heap[g]? = some (.cells cs T' fr) := hb
    rcases Nat.mod_two_eq_zero_or_one j with hm2 | hm2
    · rw [add_at] at c0
      rw [hm2] at e ⊢
      rw [show off + j = off + j / 2 * 2 by omega]
      simpa [World.cell?, hb'] using c0
    · have c1' := c1
      have : (⟨g, off, none⟩ : Addr).add (j / 2 * 2 + 1) = ⟨g, off + j, none⟩ := by rw [add_at]; congr 1; omega
      rw [this] at c1'
      rw [hm2]
      simpa [World.cell?, hb'] using c1'
end Cps
