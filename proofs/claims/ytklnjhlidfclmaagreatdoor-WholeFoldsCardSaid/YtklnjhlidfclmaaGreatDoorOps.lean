/- One operation after the other, by small laws: what a load, a store, a new block, a call do. Over any program. -/
import Derived.Test.YtklnjhlidfclmaaGreatDoorSeq
set_option linter.unusedVariables false
namespace Cps
open Go Go.RowKit

/-! ### Worlds by their blocks -/
/-- Of the blocks that stood in W all but those of G are as they were. -/
structure Upd (G : List Nat) (W u : World) : Prop where
  os : u.os = W.os
  tape : u.tape = W.tape
  output : u.output = W.output
  size : W.heap.size ≤ u.heap.size
  block : ∀ k, k < W.heap.size → k ∉ G → u.heap[k]? = W.heap[k]?

/-- A new block g. -/
structure Made (w : World) (g : Nat) (o : Obj) (u : World) : Prop where
  os : u.os = w.os
  tape : u.tape = w.tape
  output : u.output = w.output
  ge : w.heap.size ≤ g
  le : g ≤ w.heap.size
  lt : g < u.heap.size
  at_ : u.heap[g]? = some o
  block : ∀ k, k < w.heap.size → u.heap[k]? = w.heap[k]?

/-- Block g now holds cs. -/
structure Stored (w : World) (g : Nat) (cs : Array Value) (t : TypeId) (u : World) : Prop where
  os : u.os = w.os
  tape : u.tape = w.tape
  output : u.output = w.output
  size : u.heap.size = w.heap.size
  at_ : u.heap[g]? = some (.cells cs t (0, 0))
  block : ∀ k, k ≠ g → u.heap[k]? = w.heap[k]?

theorem Upd.refl (W : World) : Upd [] W W := ⟨rfl, rfl, rfl, Nat.le_refl _, fun _ _ _ => rfl⟩
theorem Upd.call {G : List Nat} {W u u' : World} (h : Upd G W u) (b : Below u.heap.size u u') : Upd G W u' :=
  ⟨b.os.trans h.os, b.tape.trans h.tape, b.output.trans h.output, Nat.le_trans h.size b.size, fun k hk hg => (b.block k (Nat.lt_of_lt_of_le hk h.size)).trans (h.block k hk hg)⟩
theorem Upd.made {G : List Nat} {W u u' : World} {g : Nat} {o : Obj} (h : Upd G W u) (b : Made u g o u') : Upd G W u' :=
  ⟨b.os.trans h.os, b.tape.trans h.tape, b.output.trans h.output, Nat.le_trans h.size (by have := b.ge; have := b.lt; omega), fun k hk hg => (b.block k (Nat.lt_of_lt_of_le hk h.size)).trans (h.block k hk hg)⟩
theorem Upd.stored {G : List Nat} {W u u' : World} {g : Nat} {cs : Array Value} {t : TypeId} (h : Upd G W u) (b : Stored u g cs t u') : Upd (g :: G) W u' :=
  ⟨b.os.trans h.os, b.tape.trans h.tape, b.output.trans h.output, by rw [b.size]; exact h.size, fun k hk hg => (b.block k (fun e => hg (by simp [e]))).trans (h.block k hk (fun e => hg (by simp [e])))⟩
/-- A store into a block that is newer than W. -/
theorem Upd.storedNew {G : List Nat} {W u u' : World} {g : Nat} {cs : Array Value} {t : TypeId} (h : Upd G W u) (b : Stored u g cs t u') (hg : W.heap.size ≤ g) : Upd G W u' :=
  ⟨b.os.trans h.os, b.tape.trans h.tape, b.output.trans h.output, by rw [b.size]; exact h.size, fun k hk hk' => (b.block k (fun e => by omega)).trans (h.block k hk hk')⟩
theorem Upd.below {G : List Nat} {w W u : World} (b : Below w.heap.size w W) (h : Upd G W u) (hG : ∀ g, g ∈ G → w.heap.size ≤ g) : Below w.heap.size w u :=
  ⟨h.os.trans b.os, h.tape.trans b.tape, h.output.trans b.output, Nat.le_trans b.size h.size, fun k hk => (h.block k (Nat.lt_of_lt_of_le hk b.size) (fun hm => by have := hG k hm; omega)).trans (b.block k hk)⟩
theorem Upd.keep0 {W u : World} (h : Upd [] W u) (t : TypeId) : Keep t W u :=
  ⟨fun g c fr hg => (h.block g (Array.getElem?_eq_some_iff.1 hg).1 (by simp)).trans hg⟩
/-- Block g of W is of a type other than t. -/
def Other (t : TypeId) (W : World) (g : Nat) : Prop := ∀ cs fr, W.heap[g]? ≠ some (.cells cs t fr)
theorem other_of {t t' : TypeId} {W : World} {g : Nat} {cs : Array Value} {fr : Nat × Nat} (h : W.heap[g]? = some (.cells cs t' fr)) (hne : (t' == t) = false) : Other t W g :=
  fun cs' fr' e => by
    rw [h] at e
    injection e with e
    injection e with _ e2 _
    subst e2; simp at hne
theorem Upd.keep {G : List Nat} {W u : World} (h : Upd G W u) (t : TypeId) (hG : ∀ g, g ∈ G → Other t W g) : Keep t W u :=
  ⟨fun g c fr hg => (h.block g (Array.getElem?_eq_some_iff.1 hg).1 (fun hm => hG g hm c fr hg)).trans hg⟩
theorem Upd.at_ {G : List Nat} {W u : World} (h : Upd G W u) {k : Nat} (hk : k < W.heap.size) (hg : k ∉ G) {o : Obj} (ho : W.heap[k]? = some o) : u.heap[k]? = some o := (h.block k hk hg).trans ho
/-- The blocks below B but those of X are as they were in W. -/
structure SameBut (X : List Nat) (B : Nat) (W w : World) : Prop where
  at_ : ∀ k, k < B → k ∉ X → w.heap[k]? = W.heap[k]?
theorem Upd.sameBut {G X : List Nat} {W u : World} (h : Upd G W u) (hs : ∀ g, g ∈ G → g ∈ X) : SameBut X W.heap.size W u := ⟨fun k hk hx => h.block k hk (fun hg => hx (hs k hg))⟩
theorem Upd.same {W u : World} (h : Upd [] W u) : Same W.heap.size W u := ⟨fun k hk => h.block k hk (by simp)⟩
theorem Made.newer {w u : World} {g : Nat} {o : Obj} (h : Made w g o u) {k : Nat} {p : Obj} (hk : w.heap[k]? = some p) : k < g := Nat.lt_of_lt_of_le (Array.getElem?_eq_some_iff.1 hk).1 h.ge
theorem lt_of_at {W : World} {k : Nat} {o : Obj} (h : W.heap[k]? = some o) : k < W.heap.size := (Array.getElem?_eq_some_iff.1 h).1
theorem Below.at_ {w u : World} {n k : Nat} (h : Below n w u) (hk : k < n) {o : Obj} (ho : w.heap[k]? = some o) : u.heap[k]? = some o := (h.block k hk).trans ho
theorem Keep.stored {t : TypeId} {W u : World} {g : Nat} {cs : Array Value} {t' : TypeId} (h : Stored W g cs t' u) (ho : Other t W g) : Keep t W u :=
  ⟨fun k c fr hk => (h.block k (fun e => ho c fr (e ▸ hk))).trans hk⟩
theorem Keep.made {t : TypeId} {W u : World} {g : Nat} {o : Obj} (h : Made W g o u) : Keep t W u :=
  ⟨fun k c fr hk => (h.block k (lt_of_at hk)).trans hk⟩

def Others (t : TypeId) (W : World) (G : List Nat) : Prop := ∀ g, g ∈ G → Other t W g
theorem Others.nil {t : TypeId} {W : World} : Others t W [] := fun g h => by simp at h
theorem Others.cons {t : TypeId} {W : World} {g : Nat} {G : List Nat} (h : Other t W g) (hs : Others t W G) : Others t W (g :: G) := fun k hk => by
  rcases List.mem_cons.1 hk with rfl | hk
  · exact h
  · exact hs k hk
theorem Others.new {t : TypeId} {W : World} {g : Nat} {G : List Nat} (h : W.heap.size ≤ g) (hs : Others t W G) : Others t W (g :: G) :=
  .cons (fun cs fr e => by have := (Array.getElem?_eq_some_iff.1 e).1; omega) hs

/-! ### What an operation does, run alone -/
section
variable {P : Program}

theorem loadCellsFrom_run {w : World} {b off : Nat} {cs : Array Value} {T : TypeId} {fr : Nat × Nat} (hc : w.heap[b]? = some (.cells cs T fr)) :
    ∀ (n i : Nat) (acc : Array Value), off + i + n ≤ cs.size → (loadCellsFrom ⟨b, off, none⟩ i n acc).run P w = .ok (acc ++ cs.extract (off + i) (off + i + n)) w := by
  intro n
  induction n with
  | zero =>
    intro i acc _
    simp [loadCellsFrom, pure]
    omega
  | succ n ih =>
    intro i acc hn
    have hlt : off + i < cs.size := by omega
    have hcell : w.cell? ((⟨b, off, none⟩ : Addr).add i) = some cs[off + i] := by
      rw [add_at]; simp [World.cell?, hc, hlt]
    simp only [loadCellsFrom, Sem.run_bind, run_load, hcell, Result.andThen]
    rw [ih (i + 1) _ (by omega)]
    congr 1
    rw [show off + (i + 1) = off + i + 1 by omega, show off + i + 1 + n = off + i + (n + 1) by omega]
    apply Array.ext'
    simp only [Array.toList_append, Array.toList_push, Array.toList_extract, List.append_assoc, List.extract_eq_take_drop]
    rw [show off + i + (n + 1) - (off + i + 1) = n by omega, show off + i + (n + 1) - (off + i) = n + 1 by omega]
    rw [List.drop_eq_getElem_cons (show off + i < cs.toList.length by simpa using hlt), List.take_succ_cons]
    simp

theorem loadVar_agg {w : World} {b off n : Nat} {cs vs : Array Value} {T t : TypeId} {fr : Nat × Nat} (ha : ∀ u, (isAgg t).run P u = .ok true u) (hs : ∀ u, (Go.sizeOf t).run P u = .ok n u)
    (hc : w.heap[b]? = some (.cells cs T fr)) (hn : decide (off + n ≤ cs.size) = true) (hv : cs.extract off (off + n) = vs) : (loadVar t ⟨b, off, none⟩).run P w = .ok (.agg vs) w := by
  have h := loadCellsFrom_run (P := P) (off := off) hc n 0 #[] (by simpa using hn)
  simp only [Nat.add_zero, Array.empty_append] at h
  simp only [loadVar, Sem.run_bind, ha, Result.andThen, if_true, hs, loadCells, h, hv, Sem.run_pure]

theorem loadVar_one {w : World} {b off : Nat} {cs : Array Value} {v : Value} {T t : TypeId} {fr : Nat × Nat} (ha : ∀ u, (isAgg t).run P u = .ok false u)
    (hc : w.heap[b]? = some (.cells cs T fr)) (hv : cs[off]? = some v) : (loadVar t ⟨b, off, none⟩).run P w = .ok v w := by
  have hcell : w.cell? ⟨b, off, none⟩ = some v := by simp [World.cell?, hc, hv]
  simp only [loadVar, Sem.run_bind, ha, Result.andThen, Bool.false_eq_true, if_false, run_load, hcell]

theorem op_load_agg {w : World} {a : Act} {d : Option Tmp} {t ty : TypeId} {x : Operand} {pos : String} {af : Array Edge} {gd : Option (Nat × Bool)} {b off n : Nat} {cs vs : Array Value} {T : TypeId} {fr : Nat × Nat}
    (hx : a.eval x = .pointer (some ⟨b, off, none⟩)) (ha : ∀ u, (isAgg t).run P u = .ok true u) (hs : ∀ u, (Go.sizeOf t).run P u = .ok n u)
    (hc : w.heap[b]? = some (.cells cs T fr)) (hn : decide (off + n ≤ cs.size) = true) (hv : cs.extract off (off + n) = vs) :
    (execOp a.eval ⟨d, .load t x, ty, pos, af, gd⟩).run P w = .ok (.value (.agg vs)) w := by
  simp only [execOp, hx, Instr.loadAt, Instr.sureAddr, Sem.run_bind, Sem.run_pure, Result.andThen, loadVar_agg ha hs hc hn hv]

theorem op_load_one {w : World} {a : Act} {d : Option Tmp} {t ty : TypeId} {x : Operand} {pos : String} {af : Array Edge} {gd : Option (Nat × Bool)} {b off : Nat} {cs : Array Value} {v : Value} {T : TypeId} {fr : Nat × Nat}
    (hx : a.eval x = .pointer (some ⟨b, off, none⟩)) (ha : ∀ u, (isAgg t).run P u = .ok false u) (hc : w.heap[b]? = some (.cells cs T fr)) (hv : cs[off]? = some v) :
    (execOp a.eval ⟨d, .load t x, ty, pos, af, gd⟩).run P w = .ok (.value v) w := by
  simp only [execOp, hx, Instr.loadAt, Instr.sureAddr, Sem.run_bind, Sem.run_pure, Result.andThen, loadVar_one ha hc hv]

/-- cs with vs from off on. -/
def putFrom (cs : Array Value) (off : Nat) : List Value → Array Value
  | [] => cs
  | v :: vs => putFrom (cs.setIfInBounds off v) (off + 1) vs

/-- The value of one cell. -/
def cellVal : Value → Bool
  | .agg _ | .tuple _ => false
  | _ => true

theorem op_store_cell {α : Type} {w : World} {b off : Nat} {cs : Array Value} {v : Value} {T : TypeId} (hc : w.heap[b]? = some (.cells cs T (0, 0))) (ho : off < cs.size) (hv : cellVal v = true) (K : Sem α) :
    (Sem.store .plain ⟨b, off, none⟩ v K).run P w = K.run P (w.setCell ⟨b, off, none⟩ v) := by
  have hcell : w.cell? ⟨b, off, none⟩ = some cs[off] := by simp [World.cell?, hc, ho]
  have hfr : w.frozen? ⟨b, off, none⟩ = false := by simp [World.frozen?, hc]
  cases v <;> simp_all [Sem.run, cellVal]

theorem storeCells_run {b : Nat} {T : TypeId} : ∀ (vs : List Value) (w : World) (off i : Nat) (cs : Array Value), w.heap[b]? = some (.cells cs T (0, 0)) → off + i + vs.length ≤ cs.size → vs.all cellVal = true →
    ∃ u, (storeCells ⟨b, off, none⟩ vs i).run P w = .ok () u ∧ Stored w b (putFrom cs (off + i) vs) T u := by
  intro vs
  induction vs with
  | nil =>
    intro w off i cs hc _ _
    exact ⟨w, rfl, ⟨rfl, rfl, rfl, rfl, hc, fun _ _ => rfl⟩⟩
  | cons v vs ih =>
    intro w off i cs hc hn hall
    simp only [List.all_cons, Bool.and_eq_true] at hall
    simp only [List.length_cons] at hn
    have hu1 : (w.setCell ⟨b, off + i, none⟩ v).heap[b]? = some (.cells (cs.setIfInBounds (off + i) v) T (0, 0)) := by
      simp [World.setCell, Array.getElem?_modify, hc]
    obtain ⟨u, hr, hst⟩ := ih (w.setCell ⟨b, off + i, none⟩ v) off (i + 1) _ hu1 (by simp; omega) hall.2
    refine ⟨u, ?_, ?_⟩
    · simp only [storeCells, store, bind, Sem.bind, add_at]
      rw [op_store_cell hc (show off + i < cs.size by omega) hall.1]
      exact hr
    · refine ⟨hst.os, hst.tape, hst.output, by rw [hst.size]; simp [World.setCell], ?_, fun k hk => (hst.block k hk).trans (Below.heap_setCell _ _ _ _ hk)⟩
      have := hst.at_
      rw [show off + (i + 1) = off + i + 1 by omega] at this
      exact this

theorem op_store {w : World} {a : Act} {d : Option Tmp} {t ty : TypeId} {x y : Operand} {pos : String} {af : Array Edge} {gd : Option (Nat × Bool)} {b off : Nat} {cs cs' : Array Value} {v : Value} {T : TypeId}
    (hx : a.eval x = .pointer (some ⟨b, off, none⟩)) (hy : a.eval y = v) (hs : ∀ u, (Go.sizeOf t).run P u = .ok v.cells.size u) (hc : w.heap[b]? = some (.cells cs T (0, 0)))
    (hn : decide (off + v.cells.size ≤ cs.size) = true) (hall : v.cells.toList.all cellVal = true) (hp : putFrom cs off v.cells.toList = cs') :
    ∃ u, (execOp a.eval ⟨d, .store t x y, ty, pos, af, gd⟩).run P w = .ok .skip u ∧ Stored w b cs' T u := by
  have hn' : off + v.cells.size ≤ cs.size := by simpa using hn
  obtain ⟨u, hr, hst⟩ := storeCells_run (P := P) (b := b) (T := T) v.cells.toList w off 0 cs hc (by simpa using hn') hall
  refine ⟨u, ?_, ?_⟩
  · simp only [execOp, hx, hy, Instr.storeAt, Instr.sureAddr, storeVar, Sem.run_bind, Sem.run_pure, Result.andThen, hs, ne_eq, not_true_eq_false, if_false, hr]
  · rw [Nat.add_zero, hp] at hst; exact hst

theorem op_box {w : World} {a : Act} {d : Option Tmp} {t ty : TypeId} {x : Operand} {pos : String} {af : Array Edge} {gd : Option (Nat × Bool)} {v : Value} (hx : a.eval x = v) :
    (execOp a.eval ⟨d, .box t x, ty, pos, af, gd⟩).run P w = .ok (.value (.pointer (some ⟨w.heap.size, 0, none⟩))) (w.alloc (.cells v.cells t)) := by
  subst hx; rfl

theorem op_alloc {w : World} {a : Act} {d : Option Tmp} {t ty : TypeId} {pos : String} {af : Array Edge} {gd : Option (Nat × Bool)} {z : Value} (hz : ∀ u, (zeroValue t).run P u = .ok z u) :
    (execOp a.eval ⟨d, .alloc t, ty, pos, af, gd⟩).run P w = .ok (.value (.pointer (some ⟨w.heap.size, 0, none⟩))) (w.alloc (.cells z.cells t)) := by
  simp only [execOp, Instr.alloc, Sem.run_bind, hz, Result.andThen]
  rfl

theorem op_eql_bool {w : World} {a : Act} {d : Option Tmp} {t t' ty : TypeId} {x y : Operand} {pos : String} {af : Array Edge} {gd : Option (Nat × Bool)} {p q : Bool} (hx : a.eval x = .bool p) (hy : a.eval y = .bool q) (ht : P.underlying t = some .bool) :
    (execOp a.eval ⟨d, .binOp .eql t x y t', ty, pos, af, gd⟩).run P w = .ok (.value (.bool (p == q))) w := by
  have h : eqGuard .eql t x y (.bool p) (.bool q) = pure () := rfl
  simp only [execOp, hx, hy, h, Sem.run_bind, Sem.run_pure, Result.andThen, run_eql_bool w t p q ht]
theorem op_neq_bool {w : World} {a : Act} {d : Option Tmp} {t t' ty : TypeId} {x y : Operand} {pos : String} {af : Array Edge} {gd : Option (Nat × Bool)} {p q : Bool} (hx : a.eval x = .bool p) (hy : a.eval y = .bool q) (ht : P.underlying t = some .bool) :
    (execOp a.eval ⟨d, .binOp .neq t x y t', ty, pos, af, gd⟩).run P w = .ok (.value (.bool (p != q))) w := by
  have h : eqGuard .neq t x y (.bool p) (.bool q) = pure () := rfl
  have h2 : (binOp .neq t (.bool p) (.bool q)).run P w = .ok (.bool (p != q)) w :=  run_neq_bool w t p q ht
  simp only [execOp, hx, hy, h, Sem.run_bind, Sem.run_pure, Result.andThen, h2]

theorem made_alloc (w : World) (o : Obj) : Made w w.heap.size o (w.alloc o) :=
  ⟨rfl, rfl, rfl, Nat.le_refl _, Nat.le_refl _, by simp, heap_alloc_new w o, fun k hk => Below.heap_alloc _ _ _ hk⟩
end

/-! ### Steps -/
section
variable {P : Program} {ops : Array Oper} {Q : Exit → Act → World → Prop} {S : World → Prop} {E : List Nat} {i : Nat} {l : Tr} {o : Oper} {a : Act} {w : World}

/-- An early operation that yields v whatever the world. -/
theorem seq_val {d : Option Tmp} {v : Value} (hE : E.contains i = true) (ho : ops[i]? = some o) (hd : o.dst = d) (hS : S w) (hQ : ∀ c a w, Q (.panic c) (a.put d v) w → Q (.panic c) a w)
    (hw : Region.wanted o (yielded ops a.tmps) = true) (hr : ∀ u, (execOp a.eval o).run P u = .ok (.value v) u) (h : Seq P .any ops Q S E l (a.put d v) w) : Seq P .any ops Q S E (.step i l) a w :=
  by subst hd; exact seq_take hE ho hS hQ (.inl ⟨hw, fun u _ => hr u⟩) h
/-- An early operation that reads what S says. -/
theorem seq_read {d : Option Tmp} {v : Value} (hE : E.contains i = true) (ho : ops[i]? = some o) (hd : o.dst = d) (hS : S w) (hQ : ∀ c a w, Q (.panic c) (a.put d v) w → Q (.panic c) a w)
    (hw : Region.wanted o (yielded ops a.tmps) = true) (hr : ∀ u, S u → (execOp a.eval o).run P u = .ok (.value v) u) (h : Seq P .any ops Q S E l (a.put d v) w) : Seq P .any ops Q S E (.step i l) a w :=
  by subst hd; exact seq_take hE ho hS hQ (.inl ⟨hw, hr⟩) h
/-- An early operation whose guard says no. -/
theorem seq_off {d : Option Tmp} (hE : E.contains i = true) (ho : ops[i]? = some o) (hd : o.dst = d) (hS : S w) (hQ : ∀ c a w, Q (.panic c) (a.put d undef) w → Q (.panic c) a w)
    (hw : Region.wanted o (yielded ops a.tmps) = false) (h : Seq P .any ops Q S E l (a.put d undef) w) : Seq P .any ops Q S E (.step i l) a w :=
  by subst hd; exact seq_take hE ho hS hQ (.inr ⟨hw, rfl⟩) h

theorem seq_do {d : Option Tmp} {v : Value} {u : World} (hE : E.contains i = false) (ho : ops[i]? = some o) (hd : o.dst = d) (hw : Region.wanted o (yielded ops a.tmps) = true) (hr : (execOp a.eval o).run P w = .ok (.value v) u)
    (hS : waitsAll .any ops E i = false → S u) (h : Seq P .any ops Q S E l (a.put d v) u) : Seq P .any ops Q S E (.step i l) a w := by
  subst hd
  unfold Seq
  rw [if_neg (by rw [hE]; simp)]
  unfold wpOp
  simp only [ho, hw, if_true]
  exact .inl (by unfold Oper.wp; rw [hr]; exact ⟨hS, h⟩)
theorem seq_skip {d : Option Tmp} (hE : E.contains i = false) (ho : ops[i]? = some o) (hd : o.dst = d) (hw : Region.wanted o (yielded ops a.tmps) = false)
    (hS : waitsAll .any ops E i = false → S w) (h : Seq P .any ops Q S E l (a.put d undef) w) : Seq P .any ops Q S E (.step i l) a w := by
  subst hd
  unfold Seq
  rw [if_neg (by rw [hE]; simp)]
  unfold wpOp
  simp only [ho, hw, Bool.false_eq_true, if_false]
  exact ⟨hS, h⟩
theorem seq_made {d : Option Tmp} {ob : Obj} (hE : E.contains i = false) (ho : ops[i]? = some o) (hd : o.dst = d) (hw : Region.wanted o (yielded ops a.tmps) = true)
    (hr : (execOp a.eval o).run P w = .ok (.value (.pointer (some ⟨w.heap.size, 0, none⟩))) (w.alloc ob))
    (h : ∀ g u, Made w g ob u → (waitsAll .any ops E i = false → S u) ∧ Seq P .any ops Q S E l (a.put d (.pointer (some ⟨g, 0, none⟩))) u) : Seq P .any ops Q S E (.step i l) a w :=
  seq_do hE ho hd hw hr (h _ _ (made_alloc w ob)).1 (h _ _ (made_alloc w ob)).2
theorem seq_store {g : Nat} {cs : Array Value} {T : TypeId} (hE : E.contains i = false) (ho : ops[i]? = some o) (hd : o.dst = none) (hw : Region.wanted o (yielded ops a.tmps) = true)
    (hr : ∃ u, (execOp a.eval o).run P w = .ok .skip u ∧ Stored w g cs T u)
    (h : ∀ u, Stored w g cs T u → (waitsAll .any ops E i = false → S u) ∧ Seq P .any ops Q S E l a u) : Seq P .any ops Q S E (.step i l) a w := by
  obtain ⟨u, hu, hst⟩ := hr
  unfold Seq
  rw [if_neg (by rw [hE]; simp)]
  unfold wpOp
  simp only [ho, hw, if_true]
  refine .inl ?_
  unfold Oper.wp
  rw [hu]
  simp only [Oper.upon, hd, Act.put]
  exact h u hst
theorem seq_call {d : Option Tmp} {f : FuncId} {args : Array Value} {R : Ending → World → Prop} (hE : E.contains i = false) (ho : ops[i]? = some o) (hd : o.dst = d) (hw : Region.wanted o (yielded ops a.tmps) = true)
    (hr : (execOp a.eval o).run P w = .ok (.enter f args) w) (hc : Calls P f args w R)
    (h : ∀ e u, R e u → ∃ v, e = .returned v ∧ (waitsAll .any ops E i = false → S u) ∧ Seq P .any ops Q S E l (a.put d v) u) : Seq P .any ops Q S E (.step i l) a w := by
  subst hd
  unfold Seq
  rw [if_neg (by rw [hE]; simp)]
  unfold wpOp
  simp only [ho, hw, if_true]
  refine .inl ?_
  unfold Oper.wp
  rw [hr]
  simp only [Oper.upon]
  refine hc.mono fun e u hR => ?_
  obtain ⟨v, rfl, hS, hq⟩ := h e u hR
  exact ⟨hS, hq⟩
end

theorem ret_bool {a b : Bool} (h : a = b) : Ending.returned (.bool a) = .returned (.bool b) := by rw [h]
theorem ret_int {k : IntKind} {a b : Int} (h : a = b) : Ending.returned (.int k a) = .returned (.int k b) := by rw [h]
theorem seq_end {P : Program} {ops : Array Oper} {Q : Exit → Act → World → Prop} {S : World → Prop} {E : List Nat} {a a' : Act} {w : World} (ha : a = a') (h : Q .normal a' w) : Seq P .any ops Q S E .done a w := by unfold Seq; exact ha ▸ h

/-! ### Leaving a function -/
section
variable {P : Program} {fn : Func} {R : Ending → World → Prop} {a : Act} {w : World}
theorem ret_of {v : Value} (hd : a.defers = []) (hr : (results fn a.tmps).run P w = .ok v w) (h : R (.returned v) w) : bodyPost P fn R .ret a w := ⟨hd, v, hr, h⟩

theorem res_tmp {tmps : Array Value} {t : Tmp} {v : Value} (h : tmps.getD t undef = v) : (pure (tmps.getD t undef) : Sem Value).run P w = .ok v w := by rw [h]; rfl
theorem res_cell {tmps : Array Value} {t : Tmp} {ty : TypeId} {b off : Nat} {v : Value} (h : tmps.getD t undef = .pointer (some ⟨b, off, none⟩)) (hl : (loadVar ty ⟨b, off, none⟩).run P w = .ok v w) :
    (do loadVar ty (← asAddr (tmps.getD t undef)) : Sem Value).run P w = .ok v w := by
  simp only [h, asAddr, Sem.run_bind, Sem.run_pure, Result.andThen, hl]
/-- How a result variable is read. -/
def resSem (tmps : Array Value) : ResultVar → Sem Value
  | .tmp t => pure (tmps.getD t undef)
  | .cell a t => do loadVar t (← asAddr (tmps.getD a undef))
theorem results_one {r : ResultVar} {tmps : Array Value} {v : Value} (hf : fn.results = #[r]) (h : (resSem tmps r).run P w = .ok v w) : (results fn tmps).run P w = .ok v w := by
  have e : results fn tmps = (do let vs ← fn.results.mapM (resSem tmps); pure (if h : vs.size = 1 then vs[0] else .tuple vs)) := rfl
  rw [e, hf]
  simp [Array.mapM_eq_mapM_toList, h]
theorem results_two {r s : ResultVar} {tmps : Array Value} {v u : Value} (hf : fn.results = #[r, s]) (h : (resSem tmps r).run P w = .ok v w) (h' : (resSem tmps s).run P w = .ok u w) : (results fn tmps).run P w = .ok (.tuple #[v, u]) w := by
  have e : results fn tmps = (do let vs ← fn.results.mapM (resSem tmps); pure (if h : vs.size = 1 then vs[0] else .tuple vs)) := rfl
  rw [e, hf]
  simp [Array.mapM_eq_mapM_toList, h, h']
theorem results_three {r s q : ResultVar} {tmps : Array Value} {v u x : Value} (hf : fn.results = #[r, s, q]) (h : (resSem tmps r).run P w = .ok v w) (h' : (resSem tmps s).run P w = .ok u w) (h'' : (resSem tmps q).run P w = .ok x w) :
    (results fn tmps).run P w = .ok (.tuple #[v, u, x]) w := by
  have e : results fn tmps = (do let vs ← fn.results.mapM (resSem tmps); pure (if h : vs.size = 1 then vs[0] else .tuple vs)) := rfl
  rw [e, hf]
  simp [Array.mapM_eq_mapM_toList, h, h', h'']
end
end Cps
