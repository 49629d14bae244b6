/- Slices whose elements are several cells, made by append; slices written out. -/
import Derived.Test.YtklnjhlidfclmaaGreatDoorParse
set_option linter.unusedVariables false
set_option linter.unusedSimpArgs false
namespace Cps
open Go Go.RowKit

section
variable {P : Program} {t e ty : TypeId} {z : Value} {bytes : Nat} {w : World} {a : Act} {d : Option Tmp} {pos : String} {af : Array Edge} {gd : Option (Nat × Bool)}
theorem zero_cells (n : Nat) (z : Value) : (Array.range (n * 1)).map ((#[z] : Array Value)[· % 1]!) = Array.replicate n z := by
  apply Array.ext
  · simp
  · intro i h1 h2; simp [Nat.mod_one]
/-- A slice written out, of elements of one cell. -/
theorem op_buildN (h : RowT P t e z bytes) (n : Nat) {parts : Array (Nat × Operand)} (pv : Array (Nat × Value)) (cs : Array Value) (hp : (parts.map fun q => (q.1, a.eval q.2)) = pv) (hn : 0 < n ∧ n ≤ 16777216) (hf : Instr.fill (fun i => some (i * 1, 1)) (Array.replicate n z) pv.toList = some cs) :
    (execOp a.eval ⟨d, .buildSlice t n parts, ty, pos, af, gd⟩).run P w = .ok (.value (.slice (some ⟨w.heap.size, 0, none⟩) n n)) (w.alloc (.cells cs e)) := by
  obtain ⟨i, hi, hz, hs, hbb⟩ := h.info
  have h1 : (Instr.buildSlice t n pv).run P w = .ok (.slice (some ⟨w.heap.size, 0, none⟩) n n) (w.alloc (.cells cs e)) := by
    have hone := h.one
    have hn0 : ¬ n = 0 := by omega
    have hn1 : ¬ 16777216 < n := by omega
    have hzc := zero_cells n z
    have hs1 : ∀ u, (Go.sizeOf e).run P u = .ok 1 u := h.size
    have hze : ∀ u, (zeroValue e).run P u = .ok z u := fun u => by simp [zeroValue, typeInfo, hi, hz]
    have hn2 : ¬ n * 1 > 2 ^ 24 := by omega
    have hn3 : ¬ n * 1 = 0 := by omega
    simp only [Instr.buildSlice, Sem.run_bind, run_underlying h.und, Result.andThen, hs1, if_neg hn2, if_neg hn3, hze, Sem.run_pure, hone, List.size_toArray, List.length_cons, List.length_nil, Nat.zero_add, hzc, hf]
    rfl
  subst hp
  unfold execOp
  simp only [Sem.run_bind, Sem.run_pure, Result.andThen, h1]
theorem own_built {g n : Nat} {u : World} {cs : Array Value} {vs : List Value} (hm : Made w g (.cells cs e) u) (h1 : cs.size = n) (h2 : cs.toList = vs) (h3 : n ≤ 9223372036854775807) : Own e u g n n vs :=
  ⟨⟨_, hm.at_, h1, by rw [← h1, ← h2, ← Array.length_toList, List.take_length]⟩, Nat.le_refl _, h3⟩
end

/-- A slice type whose elements are k cells: what append wants to know. -/
structure RowA (P : Program) (t e : TypeId) (k : Nat) (z : Array Value) (bytes : Nat) : Prop where
  und : P.underlying t = some (.slice e)
  inf : (P.info? e).map (fun i => (i.zero, i.size, i.bytes)) = some (some (.agg z), k, bytes)
  len : z.size = k
section
variable {P : Program} {t e ty : TypeId} {k : Nat} {z : Array Value} {bytes : Nat} {w : World} {a : Act} {d : Option Tmp} {pos : String} {af : Array Edge} {gd : Option (Nat × Bool)}
theorem RowA.info (h : RowA P t e k z bytes) : ∃ i, P.info? e = some i ∧ i.zero = some (.agg z) ∧ i.size = k ∧ i.bytes = bytes := by
  obtain ⟨i, hi, hz⟩ := Option.map_eq_some_iff.1 h.inf
  simp only [Prod.mk.injEq] at hz
  exact ⟨i, hi, hz.1, hz.2.1, hz.2.2⟩
/-- One element of k cells. -/
theorem op_build1k (h : RowK P t e k z) (hk : 0 < k ∧ k ≤ 16777216) {x : Operand} {v : Array Value} (hx : a.eval x = .agg v) (hv : v.size = k) (hf : Instr.fill (fun i => some (i * k, k)) ((Array.range (1 * k)).map (z[· % k]!)) [(0, .agg v)] = some v) :
    (execOp a.eval ⟨d, .buildSlice t 1 #[(0, x)], ty, pos, af, gd⟩).run P w = .ok (.value (.slice (some ⟨w.heap.size, 0, none⟩) 1 1)) (w.alloc (.cells v e)) := by
  have h1 : (Instr.buildSlice t 1 #[(0, .agg v)]).run P w = .ok (.slice (some ⟨w.heap.size, 0, none⟩) 1 1) (w.alloc (.cells v e)) := by
    have hn0 : ¬ k = 0 := by omega
    have hn1 : ¬ 16777216 < k := by omega
    have hz := h.len
    have hn2 : ¬ 1 * k > 2 ^ 24 := by omega
    have hn3 : ¬ 1 * k = 0 := by omega
    simp only [Instr.buildSlice, Sem.run_bind, run_underlying h.und, Result.andThen, h.siz, if_neg hn2, if_neg hn3, h.zer, Sem.run_pure, Value.cells, hz, hf]
    rfl
  unfold execOp
  simp only [List.map_toArray, List.map_cons, List.map_nil, hx, Sem.run_bind, Sem.run_pure, Result.andThen, h1]
theorem own_one_k {g : Nat} {u : World} {v : Array Value} {vs : List Value} (hm : Made w g (.cells v e) u) (h1 : v.size = k) (h2 : v.toList = vs) (h3 : k ≤ 9223372036854775807) : Own e u g (1 * k) (1 * k) vs := by
  rw [Nat.one_mul]; exact own_built hm h1 h2 h3

theorem run_append_k (hT : RowA P t e k z bytes) {g n c m cx : Nat} {xs ys : List Value} {A : Option Addr} (hk : 0 < k) (hO : Own e w g (n * k) (c * k) xs) (hR : Row e w A (m * k) ys) (h1 : ∀ u ∈ ys, u.oneCell' = true) (hm : 0 < m) (hb : (n + m) * bytes ≤ 140737488355328) (h63 : (n + m) * k ≤ 9223372036854775807) :
    ∃ g' c' u, (Builtin.append_ #[t, t] ty #[.slice (some ⟨g, 0, none⟩) n c, .slice A m cx]).run P w = .ok (.slice (some ⟨g', 0, none⟩) (n + m) c') u ∧ Grew w g g' u ∧ Own e u g' ((n + m) * k) (c' * k) (xs ++ ys) := by
  obtain ⟨i, hi, hz, hs, hbb⟩ := hT.info
  obtain ⟨cur, hg, hcs, htake⟩ := hO.at_
  have hxl := hO.len
  have hyl := hR.1
  have hlen := hT.len
  have hnm : n + m ≤ (n + m) * k := Nat.le_mul_of_pos_right _ hk
  have hadd : (n + m) * k = n * k + m * k := Nat.add_mul _ _ _
  obtain ⟨ad, hA, _⟩ := hR.at_ 0 (Nat.mul_pos hm hk)
  subst hA
  have hnews := hR.cells rfl
  by_cases hroom : n + m ≤ c
  · have hnmk : n * k + m * k ≤ c * k := by rw [← hadd]; exact Nat.mul_le_mul_right k hroom
    have hr := run_append_room (P := P) w t ty e i hT.und hi g n c cur hg ad m cx ys (by rw [hs]; omega) hnews h1 hroom (by rw [hs, hcs]; omega)
    refine ⟨g, c, _, hr, ⟨rfl, rfl, rfl, by simp, fun k _ hk => setRow_other w g k _ hk, .inl rfl⟩, ⟨_, setRow_heap w g cur _ e _ hg, ?_, ?_⟩, by omega, h63⟩
    · simp only [List.size_toArray, List.length_append, List.length_take, List.length_drop, Array.length_toList, hs]; omega
    · rw [hs, htake, show (n + m) * k = (xs ++ ys).length by simp; omega]
      exact List.take_left
  · have holds : ∀ j u, xs[j]? = some u → w.cell? ((⟨g, 0, none⟩ : Addr).add j) = some u := hO.row.cells rfl
    have hfit : Builtin.nextslicecap (n + m) c * i.bytes ≤ 281474976710656 := growslice_fits (by omega) (by rw [hbb]; exact hb)
    have hr := run_append_grow (P := P) w t ty e i (.agg z) hT.und hi hz ⟨g, 0, none⟩ n c xs (by rw [hs]; omega) holds ad m cx ys (by rw [hs]; omega) hnews (by omega) (by omega) hfit
    have hge := grownCap_ge w (n + m) c e
    have hgk : (n + m) * k ≤ grownCap w (n + m) c e * k := Nat.mul_le_mul_right k hge
    have hsub : (grownCap w (n + m) c e - (n + m)) * k = grownCap w (n + m) c e * k - (n + m) * k := Nat.sub_mul _ _ _
    refine ⟨_, _, _, hr, ⟨rfl, rfl, rfl, by simp, fun k hk _ => heap_alloc_old w.drew _ hk, .inr (Nat.le_refl _)⟩, ⟨_, heap_alloc_new w.drew _, ?_, ?_⟩, hgk, h63⟩
    · simp only [Array.size_append, List.size_toArray, size_zeroCells, Value.cells, hlen, hsub]; omega
    · simp only [Array.toList_append, List.append_assoc]
      rw [← List.append_assoc, show (n + m) * k = (xs ++ ys).length by simp; omega]
      exact List.take_left
theorem op_append_k (hT : RowA P t e k z bytes) {s x : Operand} {g n c m cx : Nat} {xs ys : List Value} {A : Option Addr} (hk : 0 < k) (hO : Own e w g (n * k) (c * k) xs) (hR : Row e w A (m * k) ys) (h1 : ∀ u ∈ ys, u.oneCell' = true) (hs : a.eval s = .slice (some ⟨g, 0, none⟩) n c) (hx : a.eval x = .slice A m cx) (hm : 0 < m) (hb : (n + m) * bytes ≤ 140737488355328) (h63 : (n + m) * k ≤ 9223372036854775807) :
    ∃ g' c' u, (execOp a.eval ⟨d, .call { callee := .builtin .append, args := #[s, x], argTypes := #[t, t] }, ty, pos, af, gd⟩).run P w = .ok (.value (.slice (some ⟨g', 0, none⟩) (n + m) c')) u ∧ Grew w g g' u ∧ Own e u g' ((n + m) * k) (c' * k) (xs ++ ys) := by
  obtain ⟨g', c', u, hr, h2, h3⟩ := run_append_k (ty := ty) (cx := cx) hT hk hO hR h1 hm hb h63
  refine ⟨g', c', u, ?_, h2, h3⟩
  unfold execOp
  simp only [resolve, invoke, builtin, Sem.run_bind, Sem.run_pure, Result.andThen_ok, List.map_toArray, List.map_cons, List.map_nil, hs, hx, hr]
theorem op_appnil_k (hT : RowA P t e k z bytes) {s x : Operand} {m cx : Nat} {ys : List Value} {A : Option Addr} (hk : 0 < k) (hR : Row e w A (m * k) ys) (hs : a.eval s = .slice none 0 0) (hx : a.eval x = .slice A m cx) (hm : 0 < m) (hb : m * bytes ≤ 140737488355328) (h63 : m * k ≤ 9223372036854775807) :
    ∃ g' c' u, (execOp a.eval ⟨d, .call { callee := .builtin .append, args := #[s, x], argTypes := #[t, t] }, ty, pos, af, gd⟩).run P w = .ok (.value (.slice (some ⟨g', 0, none⟩) m c')) u ∧ Grew w w.heap.size g' u ∧ Own e u g' (m * k) (c' * k) ys := by
  obtain ⟨i, hi, hz, hs', hbb⟩ := hT.info
  have hlen := hT.len
  have hmk : m ≤ m * k := Nat.le_mul_of_pos_right _ hk
  obtain ⟨ad, hA, _⟩ := hR.at_ 0 (Nat.mul_pos hm hk)
  subst hA
  have hyl := hR.1
  have hr := run_append_nil (P := P) w t ty e i (.agg z) hT.und hi hz ad m cx ys (by rw [hs']; omega) (hR.cells rfl) hm (by omega) (by rw [hbb]; exact Nat.le_trans hb (by decide))
  have hge := grownCap_ge w m 0 e
  have hgk : m * k ≤ grownCap w m 0 e * k := Nat.mul_le_mul_right k hge
  have hsub : (grownCap w m 0 e - m) * k = grownCap w m 0 e * k - m * k := Nat.sub_mul _ _ _
  have hr2 : ∃ v u, (Builtin.append_ #[t, t] ty #[.slice none 0 0, .slice (some ad) m cx]).run P w = .ok v u ∧ v = .slice (some ⟨w.heap.size, 0, none⟩) m (grownCap w m 0 e) ∧ u = w.drew.alloc (.cells (ys.toArray ++ Builtin.zeroCells (Value.agg z).cells (grownCap w m 0 e - m)) e) := ⟨_, _, hr, rfl, rfl⟩
  obtain ⟨v, u, hr2, rfl, rfl⟩ := hr2
  refine ⟨w.heap.size, grownCap w m 0 e, w.drew.alloc (.cells (ys.toArray ++ Builtin.zeroCells (Value.agg z).cells (grownCap w m 0 e - m)) e), ?_, ⟨rfl, rfl, rfl, by simp, fun k hk _ => heap_alloc_old w.drew _ hk, .inr (Nat.le_refl _)⟩, ⟨_, heap_alloc_new w.drew _, ?_, ?_⟩, hgk, h63⟩
  · unfold execOp
    simp only [resolve, invoke, builtin, Sem.run_bind, Sem.run_pure, Result.andThen_ok, List.map_toArray, List.map_cons, List.map_nil, hs, hx, hr2]
  · simp only [Array.size_append, List.size_toArray, size_zeroCells, Value.cells, hlen, hsub]; omega
  · simp only [Array.toList_append]
    rw [← hyl]
    exact List.take_left
end

/-! ### What is told of the elements, while the slice is still one's own -/
/-- The cells of elements, and their values. -/
def EKd {α : Type} (K : Kd α) (k : Nat) : Kd (List α) where
  R X w cs xs := ∃ vs : List (List Value), cs = vs.flatten ∧ vs.length = xs.length ∧ Els K k X w vs xs
  st {X X' w w' cs x} h hs hX := by
    obtain ⟨vs, h1, h2, h3⟩ := h
    exact ⟨vs, h1, h2, fun j v x hv hx => ⟨(h3 j v x hv hx).1, K.st (h3 j v x hv hx).2 hs hX⟩⟩
section
variable {α : Type} {K : Kd α} {k : Nat} {X : Nat → Prop} {w : World} {cs v : List Value} {xs : List α} {x : α}
theorem EKd.nil : (EKd K k).R X w [] [] := ⟨[], rfl, rfl, fun j v x h => by simp at h⟩
theorem EKd.snoc (h : (EKd K k).R X w cs xs) (hv : K.R X w v x) (hk : v.length = k) : (EKd K k).R X w (cs ++ v) (xs ++ [x]) := by
  obtain ⟨vs, h1, h2, h3⟩ := h
  refine ⟨vs ++ [v], by rw [h1]; simp, by simp [h2], fun j v' x' hv' hx' => ?_⟩
  by_cases hj : j < vs.length
  · rw [List.getElem?_append_left hj] at hv'
    rw [List.getElem?_append_left (by omega)] at hx'
    exact h3 j v' x' hv' hx'
  · rw [List.getElem?_append_right (by omega)] at hv' hx'
    rw [← h2] at hx'
    have hj0 : j - vs.length = 0 := by
      rcases Nat.eq_zero_or_pos (j - vs.length) with h | h
      · exact h
      · rw [List.getElem?_eq_none (by simp; omega)] at hv'; cases hv'
    rw [hj0] at hv' hx'
    simp at hv' hx'
    subst hv' hx'
    exact ⟨hk, hv⟩
theorem EKd.one (hv : K.R X w v x) (hk : v.length = k) : (EKd K k).R X w v [x] := by simpa using EKd.snoc EKd.nil hv hk
/-- Nobody writes it any more. -/
theorem LKd.ofOwn {T : TypeId} {g n c : Nat} (hO : Own T w g (n * k) (c * k) cs) (hE : (EKd K k).R X w cs xs) (hl : xs.length = n) (hn : n ≤ 9223372036854775807) (hc : n ≤ c) (hx : ¬ X g) : (LKd K T k).R X w [.slice (some ⟨g, 0, none⟩) n c] xs := by
  obtain ⟨vs, h1, h2, h3⟩ := hE
  exact ⟨⟨hl, hc, hn⟩, vs, h2.trans hl, h1 ▸ hO.row, Avoid.own hx, h3⟩
theorem Own.capk {T : TypeId} {g n c : Nat} (hk : 0 < k) (hO : Own T w g (n * k) (c * k) cs) : n ≤ c := Nat.le_of_mul_le_mul_right hO.le hk
end

section
variable {M : Mode} {P : Program} {ops : Array Oper} {Q : Exit → Act → World → Prop} {w V : World} {G Xs E G' : List Nat} {X : Nat → Prop} {L : List Cell} {F : List Fa} {a : Act} {i : Nat} {l : Tr}
theorem GL.grk {d : Option Tmp} {op : Op} {ty : TypeId} {pos : String} {af : Array Edge} {gd : Option (Nat × Bool)} {g n' k : Nat} {e : TypeId} {xs' : List Value} {L' : Nat → Nat → List Cell} (f : ∀ u g' c' u', Mem w G X u L F → Grew u g g' u' → Own e u' g' (n' * k) (c' * k) xs' → Mem w G X u' (L' g' c') F)
    (hr : ∀ u, Mem w G X u L F → ∃ g' c' u', (execOp a.eval ⟨d, op, ty, pos, af, gd⟩).run P u = .ok (.value (.slice (some ⟨g', 0, none⟩) n' c')) u' ∧ Grew u g g' u' ∧ Own e u' g' (n' * k) (c' * k) xs')
    (h : ∀ g' c', GL P ops Q l (a.put d (.slice (some ⟨g', 0, none⟩) n' c')) w G X (L' g' c') F) (ho : ops[i]? = some ⟨d, op, ty, pos, af, gd⟩ := by rfl) (hw : Region.wanted ⟨d, op, ty, pos, af, gd⟩ (yielded ops a.tmps) = true := by kernel_rfl) : GL P ops Q (.step i l) a w G X L F := by
  unfold GL at *
  intro u hM
  exact seq_grow (F := fun g' c' u' => Own e u' g' (n' * k) (c' * k) xs') rfl ho rfl hw (hr u hM) fun g' c' u' hg hO => ⟨fun _ => trivial, h g' c' u' (f u g' c' u' hM hg hO)⟩
theorem GL.gnk {d : Option Tmp} {op : Op} {ty : TypeId} {pos : String} {af : Array Edge} {gd : Option (Nat × Bool)} {n' k : Nat} {e : TypeId} {xs' : List Value} (hr : ∀ u, Mem w G X u L F → ∃ g' c' u', (execOp a.eval ⟨d, op, ty, pos, af, gd⟩).run P u = .ok (.value (.slice (some ⟨g', 0, none⟩) n' c')) u' ∧ Grew u u.heap.size g' u' ∧ Own e u' g' (n' * k) (c' * k) xs')
    (h : ∀ g' c', GL P ops Q l (a.put d (.slice (some ⟨g', 0, none⟩) n' c')) w G X (.own g' e (n' * k) (c' * k) xs' :: L) F) (ho : ops[i]? = some ⟨d, op, ty, pos, af, gd⟩ := by rfl) (hw : Region.wanted ⟨d, op, ty, pos, af, gd⟩ (yielded ops a.tmps) = true := by kernel_rfl) : GL P ops Q (.step i l) a w G X L F := by
  unfold GL at *
  intro u hM
  exact seq_grow (F := fun g' c' u' => Own e u' g' (n' * k) (c' * k) xs') rfl ho rfl hw (hr u hM) fun g' c' u' hg hO => ⟨fun _ => trivial, h g' c' u' (hM.grown hg hO)⟩
end
end Cps
