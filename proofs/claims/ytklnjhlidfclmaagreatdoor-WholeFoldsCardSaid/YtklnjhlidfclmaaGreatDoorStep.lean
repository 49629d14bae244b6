/- One step after the other, on what is held: each rule takes the goal, which speaks of every world that holds the same, to the goal behind the step. -/
import Derived.Test.YtklnjhlidfclmaaGreatDoorMem
import Derived.KernelRfl
set_option linter.unusedVariables false
namespace Cps
open Go Go.RowKit

def Tr.upto : Nat → Nat → Tr
  | _, 0 => .done
  | i, k + 1 => .step i (.upto (i + 1) k)
theorem upto_line : ∀ (k i : Nat), (Tr.upto i k).line = List.range' i k
  | 0, i => rfl
  | k + 1, i => by simp only [Tr.upto, Tr.line, upto_line k (i + 1), List.range'_succ]

section
variable {M : Mode} {P : Program} {ops : Array Oper} {Q : Exit → Act → World → Prop} {w : World} {G : List Nat} {X : Nat → Prop} {L L' : List Cell} {F F' : List Fa} {a a' : Act} {i : Nat} {l : Tr}

/-- Code, from every world that holds this. -/
def CG (M : Mode) (P : Program) (c : Code) (Q : Exit → Act → World → Prop) (a : Act) (w : World) (G : List Nat) (X : Nat → Prop) (L : List Cell) (F : List Fa) : Prop := ∀ u, Mem w G X u L F → W M P c Q a u
/-- Behind code. -/
def QG (Q : Exit → Act → World → Prop) (e : Exit) (a : Act) (w : World) (G : List Nat) (X : Nat → Prop) (L : List Cell) (F : List Fa) : Prop := ∀ u, Mem w G X u L F → Q e a u
/-- In a region in the text's order. -/
def GL (P : Program) (ops : Array Oper) (Q : Exit → Act → World → Prop) (l : Tr) (a : Act) (w : World) (G : List Nat) (X : Nat → Prop) (L : List Cell) (F : List Fa) : Prop := ∀ u, Mem w G X u L F → Seq P .any ops Q (fun _ => True) [] l a u
/-- In a region that draws its order, begun in V; G' of V has been written. -/
def GD (P : Program) (ops : Array Oper) (Q : Exit → Act → World → Prop) (V : World) (Xs : List Nat) (E : List Nat) (l : Tr) (a : Act) (G' : List Nat) (w : World) (G : List Nat) (X : Nat → Prop) (L : List Cell) (F : List Fa) : Prop :=
  ∀ u, Mem w G X u L F → Upd G' V u → Seq P .any ops Q (SameBut Xs V.heap.size V) E l a u

/-! ### Code -/
theorem CG.go {c : Code} {u : World} (hM : Mem w G X u L F) (h : CG M P c Q a w G X L F) : W M P c Q a u := h u hM
theorem CG.seq {x y : Code} (h : ∀ K : Act → World → Prop, (∀ a u, W M P y Q a u → K a u) → CG M P x (Exit.then K Q) a w G X L F) : CG M P (.seq x y) Q a w G X L F := fun u hM => W.seq fun K hK => h K hK u hM
theorem CG.skip (h : QG Q .normal a w G X L F) : CG M P .skip Q a w G X L F := fun u hM => W.skip (h u hM)
theorem CG.exit {id : Nat} (h : QG Q (.exit id) a w G X L F) : CG M P (.exit id) Q a w G X L F := fun u hM => W.exit (h u hM)
theorem CG.ret (h : QG Q .ret a w G X L F) : CG M P .ret Q a w G X L F := fun u hM => W.ret (h u hM)
theorem CG.block {id : Nat} {c : Code} (h : CG M P c (Exit.inBlock id Q) a w G X L F) : CG M P (.block id c) Q a w G X L F := fun u hM => W.block (h u hM)
theorem CG.yes {c : Operand} {x y : Code} {b : Bool} (h : CG M P x Q a w G X L F) (hb : b = true := by first | rfl | assumption) (hc : a.eval c = .bool b := by rfl) : CG M P (.cond c x y) Q a w G X L F := fun u hM => W.cond_true (hb ▸ hc) (h u hM)
theorem CG.no {c : Operand} {x y : Code} {b : Bool} (h : CG M P y Q a w G X L F) (hb : b = false := by first | rfl | assumption) (hc : a.eval c = .bool b := by rfl) : CG M P (.cond c x y) Q a w G X L F := fun u hM => W.cond_false (hb ▸ hc) (h u hM)
theorem CG.loop {c : Code} (I : Nat → Act → World → Prop) (h₀ : ∀ u, Mem w G X u L F → ∃ m, I m a u) (round : ∀ m a u, I m a u → W M P c (Exit.then (fun a' w' => ∃ m', m' < m ∧ I m' a' w') Q) a u) : CG M P (.loop c) Q a w G X L F := fun u hM => W.loop I (h₀ u hM) round
/-- What holds behind code, said once. -/
def cutQ (I : Act → World → Prop) (Q : Exit → Act → World → Prop) : Exit → Act → World → Prop
  | .normal, a, u => I a u
  | e, a, u => Q e a u
theorem CG.cut {c : Code} (I : Act → World → Prop) (h : CG M P c (cutQ I Q) a w G X L F) (h' : ∀ a u, I a u → Q .normal a u) : CG M P c Q a w G X L F := fun u hM => (h u hM).mono fun e a u hq => by
  cases e with
  | normal => exact h' a u hq
  | exit id => exact hq
  | goto l => exact hq
  | ret => exact hq
  | panic c => exact hq
  | outgrown => exact hq
theorem CG.lin {id : Nat} (k : Nat) (h : GL P ops Q (Tr.upto 0 k) a w G X L F) (hn : ops.size = k := by rfl) (hd : M = none ∨ noDefer ops = true ∧ NoOut Q := by first | exact .inl rfl | exact .inr ⟨by kernel_rfl, fun _ _ h => h⟩ | exact .inr ⟨by kernel_rfl, fun _ _ h => nomatch h.1⟩) : CG M P (.region id ops false) Q a w G X L F := fun u hM =>
  W.region hd (by
    have := wpOps_of_seq _ _ _ (h u hM)
    rw [upto_line, ← List.range_eq_range', ← hn] at this
    exact this)
theorem CG.draw {id : Nat} (Xs E : List Nat) (l : Tr) (h : ∀ V, Mem w G X V L F → GD P ops Q V Xs E l a [] w G X L F) (hm : P.follows .mixedOrders = true := by kernel_rfl) (hs : Region.noSelect ops = true := by kernel_rfl)
    (hl : decide (l.height ≤ ops.size) = true := by kernel_rfl) (hok : seqOk .any ops E [] (Array.replicate ops.size false) l = true := by kernel_rfl) (hd : M = none ∨ noDefer ops = true ∧ NoOut Q := by first | exact .inl rfl | exact .inr ⟨by kernel_rfl, fun _ _ h => h⟩ | exact .inr ⟨by kernel_rfl, fun _ _ h => nomatch h.1⟩) : CG M P (.region id ops true) Q a w G X L F := fun u hM => by
  have hb : Below u.heap.size u u.drew := (Below.refl u.heap.size u).drew
  have hM' := hM.call hb
  exact W.draws hd hm (wpAny_of_L _ _ _ _ (wpAnyL_of_seq hs l [] _ _ a u.drew (closed_start _) (by simpa using hl) hok (h _ hM' _ hM' (Upd.refl _)) (fun _ _ _ hm => by simp at hm)))
theorem CG.facts {c : Code} (h : CG M P c Q a w G X L F') (hf : ∀ u, Mem w G X u L F → Mem w G X u L F') : CG M P c Q a w G X L F := fun u hM => h u (hf u hM)

theorem CG.mem {c : Code} (f : ∀ u, Mem w G X u L F → Mem w G X u L' F') (h : CG M P c Q a w G X L' F') : CG M P c Q a w G X L F := fun u hM => h u (f u hM)
/-- Rounds walked one by one. -/
def wRounds (M : Mode) (P : Program) (c : Code) (Q : Exit → Act → World → Prop) : Nat → Act → World → Prop
  | 0, _, _ => False
  | n + 1, a, w => W M P c (Exit.then (wRounds M P c Q n) Q) a w
theorem CG.rounds {c : Code} (n : Nat) (h : ∀ u, Mem w G X u L F → wRounds M P c Q n a u) : CG M P (.loop c) Q a w G X L F := fun u hM =>
  W.loop (fun m a w => wRounds M P c Q m a w) ⟨n, h u hM⟩ fun m a w h => by
    cases m with
    | zero => exact absurd h (by simp [wRounds])
    | succ m =>
      refine W.mono (Q := Exit.then (wRounds M P c Q m) Q) h fun e a' w' h' => ?_
      cases e with
      | normal => exact ⟨m, by omega, h'⟩
      | exit id => exact h'
      | goto l => exact h'
      | ret => exact h'
      | panic ch => exact h'
      | outgrown => exact h'
theorem CG.round {c : Code} {n : Nat} (h : CG M P c (Exit.then (wRounds M P c Q n) Q) a w G X L F) : ∀ u, Mem w G X u L F → wRounds M P c Q (n + 1) a u := h
theorem QG.rnd {c : Code} {n : Nat} (h : ∀ u, Mem w G X u L F → wRounds M P c Q n a u) : QG (Exit.then (wRounds M P c Q n) Q) .normal a w G X L F := h
theorem QG.go {e : Exit} {u : World} (hM : Mem w G X u L F) (h : QG Q e a w G X L F) : Q e a u := h u hM
theorem op_b {o : Oper} {u u' : World} {b c : Bool} (h : (execOp a.eval o).run P u = .ok (.value (.bool b)) u') (e : b = c) : (execOp a.eval o).run P u = .ok (.value (.bool c)) u' := e ▸ h
theorem calls_of {f : FuncId} {fn : Func} {c : Code} {args tm : Array Value} {R : Ending → World → Prop} {N : Nat} (hM : Mem w G X w L F) (hf : P.funcs[f]? = some fn) (hn : fn.ntmps = N) (h : CG none P c (bodyPost P fn R) ⟨tm, []⟩ w G X L F) (hb : fn.body = some c := by rfl)
    (ht : args ++ Array.replicate (N - args.size) undef = tm := by simp only [List.size_toArray, List.length_cons, List.length_nil, Nat.reduceAdd, Nat.reduceSub, Array.replicate_succ, Array.replicate_zero, List.push_toArray, List.append_toArray, List.nil_append, List.cons_append]; rfl) : Calls P f args w R :=
  calls_of_wp hf hb (by rw [hn, ht]; exact h w hM)

/-- Code that is only left at its end. -/
def onlyQ (Q : Exit → Act → World → Prop) : Exit → Act → World → Prop
  | .normal, a, u => Q .normal a u
  | _, _, _ => False
theorem CG.only {c : Code} (h : CG M P c (onlyQ Q) a w G X L F) : CG M P c Q a w G X L F := fun u hM => (h u hM).mono fun e a u hq => by
  cases e with
  | normal => exact hq
  | exit id => exact hq.elim
  | goto l => exact hq.elim
  | ret => exact hq.elim
  | panic c => exact hq.elim
  | outgrown => exact hq.elim
theorem QG.only (h : QG Q .normal a w G X L F) : QG (onlyQ Q) .normal a w G X L F := h

/-! ### Ways out -/
theorem QG.k {K : Act → World → Prop} {y : Code} (hK : ∀ a u, W M P y Q a u → K a u) (h : CG M P y Q a w G X L F) : QG (Exit.then K Q) .normal a w G X L F := fun u hM => hK _ _ (h u hM)
theorem QG.then_exit {K : Act → World → Prop} {id : Nat} (h : QG Q (.exit id) a w G X L F) : QG (Exit.then K Q) (.exit id) a w G X L F := h
theorem QG.then_ret {K : Act → World → Prop} (h : QG Q .ret a w G X L F) : QG (Exit.then K Q) .ret a w G X L F := h
theorem QG.here {id : Nat} (h : QG Q .normal a w G X L F) : QG (Exit.inBlock id Q) (.exit id) a w G X L F := fun u hM => block_exit (h u hM)
theorem QG.pass {id id' : Nat} (h : QG Q (.exit id') a w G X L F) (hne : (id' == id) = false := by rfl) : QG (Exit.inBlock id Q) (.exit id') a w G X L F := fun u hM => block_pass hne (h u hM)
theorem QG.block_ret {id : Nat} (h : QG Q .ret a w G X L F) : QG (Exit.inBlock id Q) .ret a w G X L F := h
theorem QG.block {id : Nat} (h : QG Q .normal a w G X L F) : QG (Exit.inBlock id Q) .normal a w G X L F := h
theorem QG.cut_ret {I : Act → World → Prop} (h : QG Q .ret a w G X L F) : QG (cutQ I Q) .ret a w G X L F := h
theorem QG.cut_exit {I : Act → World → Prop} {id : Nat} (h : QG Q (.exit id) a w G X L F) : QG (cutQ I Q) (.exit id) a w G X L F := h
theorem QG.cut {I : Act → World → Prop} (h : ∀ u, Mem w G X u L F → I a u) : QG (cutQ I Q) .normal a w G X L F := h
theorem QG.again {I : Nat → Act → World → Prop} {m : Nat} (h : ∀ u, Mem w G X u L F → ∃ m', m' < m ∧ I m' a u) : QG (Exit.then (fun a' w' => ∃ m', m' < m ∧ I m' a' w') Q) .normal a w G X L F := h
theorem QG.of (h : ∀ u, Mem w G X u L F → Q .normal a u) : QG Q .normal a w G X L F := h
/-- The function returns. -/
theorem QG.ret {fn : Func} {R : Ending → World → Prop} {v : Value} (hr : ∀ u, Mem w G X u L F → (results fn a.tmps).run P u = .ok v u) (h : ∀ u, Mem w G X u L F → R (.returned v) u) (hd : a.defers = [] := by rfl) : QG (bodyPost P fn R) .ret a w G X L F := fun u hM => ret_of hd (hr u hM) (h u hM)

/-! ### A region in the text's order -/
theorem GL.k {K : Act → World → Prop} {y : Code} (hK : ∀ a u, W M P y Q a u → K a u) (h : CG M P y Q a' w G X L F) (ha : a = a' := by simp only [Act.put, List.setIfInBounds_toArray, List.set_cons_zero, List.set_cons_succ]; rfl) : GL P ops (Exit.then K Q) .done a w G X L F :=
  fun u hM => seq_end ha (hK _ _ (h u hM))
theorem GL.q (h : QG Q .normal a' w G X L F) (ha : a = a' := by simp only [Act.put, List.setIfInBounds_toArray, List.set_cons_zero, List.set_cons_succ]; rfl) : GL P ops Q .done a w G X L F :=
  fun u hM => seq_end ha (h u hM)
theorem nowait {i : Nat} : waitsAll .any ops [] i = false → True := fun _ => trivial
theorem GL.v {d : Option Tmp} {op : Op} {ty : TypeId} {pos : String} {af : Array Edge} {gd : Option (Nat × Bool)} (v : Value) (h : GL P ops Q l (a.put d v) w G X L F) (ho : ops[i]? = some ⟨d, op, ty, pos, af, gd⟩ := by rfl) (hw : Region.wanted ⟨d, op, ty, pos, af, gd⟩ (yielded ops a.tmps) = true := by kernel_rfl)
    (hr : ∀ u, (execOp a.eval ⟨d, op, ty, pos, af, gd⟩).run P u = .ok (.value v) u := by intro u; kernel_rfl) : GL P ops Q (.step i l) a w G X L F := fun u hM => seq_do rfl ho rfl hw (hr u) (fun _ => trivial) (h u hM)
theorem GL.r {d : Option Tmp} {op : Op} {ty : TypeId} {pos : String} {af : Array Edge} {gd : Option (Nat × Bool)} (v : Value) (hr : ∀ u, Mem w G X u L F → (execOp a.eval ⟨d, op, ty, pos, af, gd⟩).run P u = .ok (.value v) u) (h : GL P ops Q l (a.put d v) w G X L F) (ho : ops[i]? = some ⟨d, op, ty, pos, af, gd⟩ := by rfl) (hw : Region.wanted ⟨d, op, ty, pos, af, gd⟩ (yielded ops a.tmps) = true := by kernel_rfl) :
    GL P ops Q (.step i l) a w G X L F := fun u hM => seq_do rfl ho rfl hw (hr u hM) (fun _ => trivial) (h u hM)
theorem GL.sk {d : Option Tmp} {op : Op} {ty : TypeId} {pos : String} {af : Array Edge} {gd : Option (Nat × Bool)} (h : GL P ops Q l (a.put d undef) w G X L F) (ho : ops[i]? = some ⟨d, op, ty, pos, af, gd⟩ := by rfl) (hw : Region.wanted ⟨d, op, ty, pos, af, gd⟩ (yielded ops a.tmps) = false := by kernel_rfl) :
    GL P ops Q (.step i l) a w G X L F := fun u hM => seq_skip rfl ho rfl hw (fun _ => trivial) (h u hM)
/-- A new cell of one value, or of several. -/
theorem GL.b1 {d : Option Tmp} {t ty : TypeId} {x : Operand} {pos : String} {af : Array Edge} {gd : Option (Nat × Bool)} (v : Value) (h : ∀ g, GL P ops Q l (a.put d (.pointer (some ⟨g, 0, none⟩))) w G X (.box g #[v] t :: L) F) (ho : ops[i]? = some ⟨d, .box t x, ty, pos, af, gd⟩ := by rfl)
    (hw : Region.wanted ⟨d, .box t x, ty, pos, af, gd⟩ (yielded ops a.tmps) = true := by kernel_rfl) (hx : a.eval x = v := by kernel_rfl) (hv : v.cells = #[v] := by rfl) : GL P ops Q (.step i l) a w G X L F :=
  fun u hM => seq_made rfl ho rfl hw (op_box hx) fun g u' hm => ⟨fun _ => trivial, h g u' (hM.box (by rw [hv] at hm; exact hm))⟩
theorem GL.bA {d : Option Tmp} {t ty : TypeId} {x : Operand} {pos : String} {af : Array Edge} {gd : Option (Nat × Bool)} (cs : Array Value) (h : ∀ g, GL P ops Q l (a.put d (.pointer (some ⟨g, 0, none⟩))) w G X (.box g cs t :: L) F) (ho : ops[i]? = some ⟨d, .box t x, ty, pos, af, gd⟩ := by rfl)
    (hw : Region.wanted ⟨d, .box t x, ty, pos, af, gd⟩ (yielded ops a.tmps) = true := by kernel_rfl) (hx : a.eval x = .agg cs := by kernel_rfl) : GL P ops Q (.step i l) a w G X L F :=
  fun u hM => seq_made rfl ho rfl hw (op_box hx) fun g u' hm => ⟨fun _ => trivial, h g u' (hM.box hm)⟩
theorem GL.a1 {d : Option Tmp} {t ty : TypeId} {pos : String} {af : Array Edge} {gd : Option (Nat × Bool)} {v : Value} (hz : ∀ u, (zeroValue t).run P u = .ok v u) (h : ∀ g, GL P ops Q l (a.put d (.pointer (some ⟨g, 0, none⟩))) w G X (.box g #[v] t :: L) F) (ho : ops[i]? = some ⟨d, .alloc t, ty, pos, af, gd⟩ := by rfl)
    (hw : Region.wanted ⟨d, .alloc t, ty, pos, af, gd⟩ (yielded ops a.tmps) = true := by kernel_rfl) (hv : v.cells = #[v] := by rfl) : GL P ops Q (.step i l) a w G X L F :=
  fun u hM => seq_made rfl ho rfl hw (op_alloc hz) fun g u' hm => ⟨fun _ => trivial, h g u' (hM.box (by rw [hv] at hm; exact hm))⟩
theorem GL.aA {d : Option Tmp} {t ty : TypeId} {pos : String} {af : Array Edge} {gd : Option (Nat × Bool)} {cs : Array Value} (hz : ∀ u, (zeroValue t).run P u = .ok (.agg cs) u) (h : ∀ g, GL P ops Q l (a.put d (.pointer (some ⟨g, 0, none⟩))) w G X (.box g cs t :: L) F) (ho : ops[i]? = some ⟨d, .alloc t, ty, pos, af, gd⟩ := by rfl)
    (hw : Region.wanted ⟨d, .alloc t, ty, pos, af, gd⟩ (yielded ops a.tmps) = true := by kernel_rfl) : GL P ops Q (.step i l) a w G X L F :=
  fun u hM => seq_made rfl ho rfl hw (op_alloc hz) fun g u' hm => ⟨fun _ => trivial, h g u' (hM.box hm)⟩
/-- A store into a cell of one's own: of a whole, or of one value. -/
theorem store_all {g : Nat} {cs cs' : Array Value} {T t ty : TypeId} {x y : Operand} {d : Option Tmp} {pos : String} {af : Array Edge} {gd : Option (Nat × Bool)} {u : World} (hs : ∀ u, (Go.sizeOf t).run P u = .ok cs'.size u) (hb : u.heap[g]? = some (.cells cs T (0, 0)))
    (hx : a.eval x = .pointer (some ⟨g, 0, none⟩)) (hy : a.eval y = .agg cs') (hn : cs'.size = cs.size) (hall : cs'.toList.all cellVal = true) (hp : putFrom cs 0 cs'.toList = cs') :
    ∃ u', (execOp a.eval ⟨d, .store t x y, ty, pos, af, gd⟩).run P u = .ok .skip u' ∧ Stored u g cs' T u' :=
  op_store hx hy hs hb (by rw [decide_eq_true_eq]; show 0 + cs'.size ≤ cs.size; omega) hall hp
theorem store_one {g off : Nat} {cs cs' : Array Value} {v : Value} {T t ty : TypeId} {x y : Operand} {d : Option Tmp} {pos : String} {af : Array Edge} {gd : Option (Nat × Bool)} {u : World} (hs : ∀ u, (Go.sizeOf t).run P u = .ok 1 u) (hb : u.heap[g]? = some (.cells cs T (0, 0)))
    (hx : a.eval x = .pointer (some ⟨g, off, none⟩)) (hy : a.eval y = v) (hv : v.cells = #[v]) (hn : off < cs.size) (hall : cellVal v = true) (hp : cs.setIfInBounds off v = cs') :
    ∃ u', (execOp a.eval ⟨d, .store t x y, ty, pos, af, gd⟩).run P u = .ok .skip u' ∧ Stored u g cs' T u' :=
  op_store hx hy (by rw [hv]; exact hs) hb (by rw [hv]; simp; omega) (by rw [hv]; simp [hall]) (by rw [hv]; exact hp)
theorem GL.st {g : Nat} {cs' : Array Value} {T : TypeId} {op : Op} {ty : TypeId} {pos : String} {af : Array Edge} {gd : Option (Nat × Bool)} (f : ∀ u u', Mem w G X u L F → Stored u g cs' T u' → Mem w G X u' L' F) (hr : ∀ u, Mem w G X u L F → ∃ u', (execOp a.eval ⟨none, op, ty, pos, af, gd⟩).run P u = .ok .skip u' ∧ Stored u g cs' T u') (h : GL P ops Q l a w G X L' F)
    (ho : ops[i]? = some ⟨none, op, ty, pos, af, gd⟩ := by rfl) (hw : Region.wanted ⟨none, op, ty, pos, af, gd⟩ (yielded ops a.tmps) = true := by kernel_rfl) : GL P ops Q (.step i l) a w G X L F :=
  fun u hM => seq_store rfl ho rfl hw (hr u hM) fun u' hs => ⟨fun _ => trivial, h u' (f u u' hM hs)⟩
theorem GL.sA {g : Nat} {cs cs' : Array Value} {T t ty : TypeId} {x y : Operand} {pos : String} {af : Array Edge} {gd : Option (Nat × Bool)} (f : ∀ u u', Mem w G X u L F → Stored u g cs' T u' → Mem w G X u' L' F) (hb : ∀ u, Mem w G X u L F → u.heap[g]? = some (.cells cs T (0, 0))) (hs : ∀ u, (Go.sizeOf t).run P u = .ok cs'.size u)
    (h : GL P ops Q l a w G X L' F) (ho : ops[i]? = some ⟨none, .store t x y, ty, pos, af, gd⟩ := by rfl) (hw : Region.wanted ⟨none, .store t x y, ty, pos, af, gd⟩ (yielded ops a.tmps) = true := by kernel_rfl)
    (hx : a.eval x = .pointer (some ⟨g, 0, none⟩) := by kernel_rfl) (hy : a.eval y = .agg cs' := by kernel_rfl) (hn : cs'.size = cs.size := by rfl) (hall : cs'.toList.all cellVal = true := by rfl) (hp : putFrom cs 0 cs'.toList = cs' := by rfl) : GL P ops Q (.step i l) a w G X L F :=
  GL.st f (fun u hM => store_all hs (hb u hM) hx hy hn hall hp) h ho hw
theorem GL.s1 {g : Nat} {cs cs' : Array Value} {T t ty : TypeId} {x y : Operand} {pos : String} {af : Array Edge} {gd : Option (Nat × Bool)} (off : Nat) (v : Value) (f : ∀ u u', Mem w G X u L F → Stored u g cs' T u' → Mem w G X u' L' F) (hb : ∀ u, Mem w G X u L F → u.heap[g]? = some (.cells cs T (0, 0))) (hs : ∀ u, (Go.sizeOf t).run P u = .ok 1 u)
    (h : GL P ops Q l a w G X L' F) (ho : ops[i]? = some ⟨none, .store t x y, ty, pos, af, gd⟩ := by rfl) (hw : Region.wanted ⟨none, .store t x y, ty, pos, af, gd⟩ (yielded ops a.tmps) = true := by kernel_rfl)
    (hx : a.eval x = .pointer (some ⟨g, off, none⟩) := by kernel_rfl) (hy : a.eval y = v := by kernel_rfl) (hv : v.cells = #[v] := by rfl) (hn : decide (off < cs.size) = true := by rfl) (hall : cellVal v = true := by rfl) (hp : cs.setIfInBounds off v = cs' := by rfl) : GL P ops Q (.step i l) a w G X L F :=
  GL.st f (fun u hM => store_one hs (hb u hM) hx hy hv (by simpa using hn) hall hp) h ho hw
/-- A call, by its contract. -/
theorem GL.call {d : Option Tmp} {op : Op} {ty : TypeId} {pos : String} {af : Array Edge} {gd : Option (Nat × Bool)} {f : FuncId} {args : Array Value} {R : World → Ending → World → Prop} (hc : ∀ u, Mem w G X u L F → Calls P f args u (R u)) (h : ∀ u e u', Mem w G X u L F → R u e u' → ∃ v L' F', e = .returned v ∧ Mem w G X u' L' F' ∧ GL P ops Q l (a.put d v) w G X L' F')
    (ho : ops[i]? = some ⟨d, op, ty, pos, af, gd⟩ := by rfl) (hw : Region.wanted ⟨d, op, ty, pos, af, gd⟩ (yielded ops a.tmps) = true := by kernel_rfl) (he : ∀ u, (execOp a.eval ⟨d, op, ty, pos, af, gd⟩).run P u = .ok (.enter f args) u := by intro u; kernel_rfl) : GL P ops Q (.step i l) a w G X L F :=
  fun u hM => seq_call rfl ho rfl hw (he u) (hc u hM) fun e u' hR => by
    obtain ⟨v, L', F', rfl, hM', h⟩ := h u e u' hM hR
    exact ⟨v, rfl, fun _ => trivial, h u' hM'⟩
/-- A row of one's own: made, written, grown, copied into, cut. -/
theorem GL.row {d : Option Tmp} {op : Op} {ty : TypeId} {pos : String} {af : Array Edge} {gd : Option (Nat × Bool)} {n m : Nat} {e : TypeId} {xs : List Value} {ob : Obj} (hr : ∀ u, (execOp a.eval ⟨d, op, ty, pos, af, gd⟩).run P u = .ok (.value (.slice (some ⟨u.heap.size, 0, none⟩) n m)) (u.alloc ob)) (hO : ∀ u g u', Made u g ob u' → Own e u' g n m xs)
    (h : ∀ g, GL P ops Q l (a.put d (.slice (some ⟨g, 0, none⟩) n m)) w G X (.own g e n m xs :: L) F) (ho : ops[i]? = some ⟨d, op, ty, pos, af, gd⟩ := by rfl) (hw : Region.wanted ⟨d, op, ty, pos, af, gd⟩ (yielded ops a.tmps) = true := by kernel_rfl) : GL P ops Q (.step i l) a w G X L F :=
  fun u hM => seq_row rfl ho rfl hw (hr u) fun g u' hm => ⟨fun _ => trivial, h g u' (hM.row hm (hO u g u' hm))⟩
theorem GL.el {op : Op} {ty : TypeId} {pos : String} {af : Array Edge} {gd : Option (Nat × Bool)} {g n c : Nat} {e : TypeId} {xs' : List Value} (f : ∀ u u' cs, Mem w G X u L F → Stored u g cs e u' → Own e u' g n c xs' → Mem w G X u' L' F) (hr : ∀ u, Mem w G X u L F → ∃ u', (execOp a.eval ⟨none, op, ty, pos, af, gd⟩).run P u = .ok .skip u' ∧ (∃ cs, Stored u g cs e u') ∧ Own e u' g n c xs')
    (h : GL P ops Q l a w G X L' F) (ho : ops[i]? = some ⟨none, op, ty, pos, af, gd⟩ := by rfl) (hw : Region.wanted ⟨none, op, ty, pos, af, gd⟩ (yielded ops a.tmps) = true := by kernel_rfl) : GL P ops Q (.step i l) a w G X L F :=
  fun u hM => seq_elem (F := fun u' => Own e u' g n c xs') rfl ho rfl hw (hr u hM) fun u' cs hs hO => ⟨fun _ => trivial, h u' (f u u' cs hM hs hO)⟩
theorem GL.gr {d : Option Tmp} {op : Op} {ty : TypeId} {pos : String} {af : Array Edge} {gd : Option (Nat × Bool)} {g n' : Nat} {e : TypeId} {xs' : List Value} {L' : Nat → Nat → List Cell} (f : ∀ u g' c' u', Mem w G X u L F → Grew u g g' u' → Own e u' g' n' c' xs' → Mem w G X u' (L' g' c') F)
    (hr : ∀ u, Mem w G X u L F → ∃ g' c' u', (execOp a.eval ⟨d, op, ty, pos, af, gd⟩).run P u = .ok (.value (.slice (some ⟨g', 0, none⟩) n' c')) u' ∧ Grew u g g' u' ∧ Own e u' g' n' c' xs')
    (h : ∀ g' c', GL P ops Q l (a.put d (.slice (some ⟨g', 0, none⟩) n' c')) w G X (L' g' c') F) (ho : ops[i]? = some ⟨d, op, ty, pos, af, gd⟩ := by rfl) (hw : Region.wanted ⟨d, op, ty, pos, af, gd⟩ (yielded ops a.tmps) = true := by kernel_rfl) : GL P ops Q (.step i l) a w G X L F :=
  fun u hM => seq_grow (F := fun g' c' u' => Own e u' g' n' c' xs') rfl ho rfl hw (hr u hM) fun g' c' u' hg hO => ⟨fun _ => trivial, h g' c' u' (f u g' c' u' hM hg hO)⟩
theorem GL.gn {d : Option Tmp} {op : Op} {ty : TypeId} {pos : String} {af : Array Edge} {gd : Option (Nat × Bool)} {n' : Nat} {e : TypeId} {xs' : List Value} (hr : ∀ u, Mem w G X u L F → ∃ g' c' u', (execOp a.eval ⟨d, op, ty, pos, af, gd⟩).run P u = .ok (.value (.slice (some ⟨g', 0, none⟩) n' c')) u' ∧ Grew u u.heap.size g' u' ∧ Own e u' g' n' c' xs')
    (h : ∀ g' c', GL P ops Q l (a.put d (.slice (some ⟨g', 0, none⟩) n' c')) w G X (.own g' e n' c' xs' :: L) F) (ho : ops[i]? = some ⟨d, op, ty, pos, af, gd⟩ := by rfl) (hw : Region.wanted ⟨d, op, ty, pos, af, gd⟩ (yielded ops a.tmps) = true := by kernel_rfl) : GL P ops Q (.step i l) a w G X L F :=
  fun u hM => seq_grow (F := fun g' c' u' => Own e u' g' n' c' xs') rfl ho rfl hw (hr u hM) fun g' c' u' hg hO => ⟨fun _ => trivial, h g' c' u' (hM.grown hg hO)⟩
theorem GL.cp {d : Option Tmp} {op : Op} {ty : TypeId} {pos : String} {af : Array Edge} {gd : Option (Nat × Bool)} {v : Value} {g n c : Nat} {e : TypeId} {xs' : List Value} (f : ∀ u u', Mem w G X u L F → Grew u g g u' → Own e u' g n c xs' → Mem w G X u' L' F) (hr : ∀ u, Mem w G X u L F → ∃ u', (execOp a.eval ⟨d, op, ty, pos, af, gd⟩).run P u = .ok (.value v) u' ∧ Grew u g g u' ∧ Own e u' g n c xs')
    (h : GL P ops Q l (a.put d v) w G X L' F) (ho : ops[i]? = some ⟨d, op, ty, pos, af, gd⟩ := by rfl) (hw : Region.wanted ⟨d, op, ty, pos, af, gd⟩ (yielded ops a.tmps) = true := by kernel_rfl) : GL P ops Q (.step i l) a w G X L F :=
  fun u hM => seq_copy (F := fun u' => Own e u' g n c xs') rfl ho rfl hw (hr u hM) fun u' hg hO => ⟨fun _ => trivial, h u' (f u u' hM hg hO)⟩
/-- What is held, told otherwise. -/
theorem GL.mem (f : ∀ u, Mem w G X u L F → Mem w G X u L' F') (h : GL P ops Q l a w G X L' F') : GL P ops Q l a w G X L F := fun u hM => h u (f u hM)

/-! ### A region that draws its order -/
section
variable {V : World} {Xs E G' : List Nat}
theorem sub_of {u : World} (hU : Upd G' V u) (h : ∀ g, g ∈ G' → g ∈ Xs) : SameBut Xs V.heap.size V u := hU.sameBut h
theorem GD.k {K : Act → World → Prop} {y : Code} (hK : ∀ a u, W M P y Q a u → K a u) (h : CG M P y Q a' w G X L F) (ha : a = a' := by simp only [Act.put, List.setIfInBounds_toArray, List.set_cons_zero, List.set_cons_succ]; rfl) : GD P ops (Exit.then K Q) V Xs E .done a G' w G X L F :=
  fun u hM _ => seq_end ha (hK _ _ (h u hM))
theorem GD.q (h : QG Q .normal a' w G X L F) (ha : a = a' := by simp only [Act.put, List.setIfInBounds_toArray, List.set_cons_zero, List.set_cons_succ]; rfl) : GD P ops Q V Xs E .done a G' w G X L F :=
  fun u hM _ => seq_end ha (h u hM)
theorem GD.fork {t r : Tr} (h : GD P ops Q V Xs E (.step i t) a G' w G X L F) (h' : GD P ops Q V Xs E r a G' w G X L F) (hE : E.contains i = false := by rfl) : GD P ops Q V Xs E (.fork i t r) a G' w G X L F :=
  fun u hM hU => seq_fork hE (h u hM hU) (h' u hM hU)
/-- Early ones. -/
theorem GD.ev {d : Option Tmp} {op : Op} {ty : TypeId} {pos : String} {af : Array Edge} {gd : Option (Nat × Bool)} (v : Value) (h : GD P ops Q V Xs E l (a.put d v) G' w G X L F) (hx : ∀ g, g ∈ G' → g ∈ Xs := by simp) (ho : ops[i]? = some ⟨d, op, ty, pos, af, gd⟩ := by rfl) (hw : Region.wanted ⟨d, op, ty, pos, af, gd⟩ (yielded ops a.tmps) = true := by kernel_rfl)
    (hr : ∀ u, (execOp a.eval ⟨d, op, ty, pos, af, gd⟩).run P u = .ok (.value v) u := by intro u; kernel_rfl) (hE : E.contains i = true := by rfl) (hQ : ∀ c a w, Q (.panic c) (a.put d v) w → Q (.panic c) a w := by first | exact fun _ _ _ h => h | exact fun _ _ _ h => nomatch h.1) : GD P ops Q V Xs E (.step i l) a G' w G X L F :=
  fun u hM hU => seq_val hE ho rfl (sub_of hU hx) hQ hw hr (h u hM hU)
theorem GD.er {d : Option Tmp} {op : Op} {ty : TypeId} {pos : String} {af : Array Edge} {gd : Option (Nat × Bool)} (v : Value) (hr : ∀ u, SameBut Xs V.heap.size V u → (execOp a.eval ⟨d, op, ty, pos, af, gd⟩).run P u = .ok (.value v) u) (h : GD P ops Q V Xs E l (a.put d v) G' w G X L F) (hx : ∀ g, g ∈ G' → g ∈ Xs := by simp) (ho : ops[i]? = some ⟨d, op, ty, pos, af, gd⟩ := by rfl) (hw : Region.wanted ⟨d, op, ty, pos, af, gd⟩ (yielded ops a.tmps) = true := by kernel_rfl)
    (hE : E.contains i = true := by rfl) (hQ : ∀ c a w, Q (.panic c) (a.put d v) w → Q (.panic c) a w := by first | exact fun _ _ _ h => h | exact fun _ _ _ h => nomatch h.1) : GD P ops Q V Xs E (.step i l) a G' w G X L F :=
  fun u hM hU => seq_read hE ho rfl (sub_of hU hx) hQ hw hr (h u hM hU)
theorem GD.eo {d : Option Tmp} {op : Op} {ty : TypeId} {pos : String} {af : Array Edge} {gd : Option (Nat × Bool)} (h : GD P ops Q V Xs E l (a.put d undef) G' w G X L F) (hx : ∀ g, g ∈ G' → g ∈ Xs := by simp) (ho : ops[i]? = some ⟨d, op, ty, pos, af, gd⟩ := by rfl) (hw : Region.wanted ⟨d, op, ty, pos, af, gd⟩ (yielded ops a.tmps) = false := by kernel_rfl)
    (hE : E.contains i = true := by rfl) (hQ : ∀ c a w, Q (.panic c) (a.put d undef) w → Q (.panic c) a w := by first | exact fun _ _ _ h => h | exact fun _ _ _ h => nomatch h.1) : GD P ops Q V Xs E (.step i l) a G' w G X L F :=
  fun u hM hU => seq_off hE ho rfl (sub_of hU hx) hQ hw (h u hM hU)
/-- Does it wait, or does what was written not matter? -/
def Late (ops : Array Oper) (E : List Nat) (i : Nat) (G' Xs : List Nat) : Prop := waitsAll .any ops E i = true ∨ ∀ g, g ∈ G' → g ∈ Xs
theorem Late.ok {u : World} (h : Late ops E i G' Xs) (hU : Upd G' V u) : waitsAll .any ops E i = false → SameBut Xs V.heap.size V u := fun hf => by
  rcases h with h | h
  · rw [h] at hf; cases hf
  · exact sub_of hU h
theorem GD.v {d : Option Tmp} {op : Op} {ty : TypeId} {pos : String} {af : Array Edge} {gd : Option (Nat × Bool)} (v : Value) (h : GD P ops Q V Xs E l (a.put d v) G' w G X L F) (hl : Late ops E i G' Xs := by first | (refine .inr ?_; simp; done) | (refine .inl ?_; kernel_rfl)) (hE : E.contains i = false := by rfl) (ho : ops[i]? = some ⟨d, op, ty, pos, af, gd⟩ := by rfl) (hw : Region.wanted ⟨d, op, ty, pos, af, gd⟩ (yielded ops a.tmps) = true := by kernel_rfl)
    (hr : ∀ u, (execOp a.eval ⟨d, op, ty, pos, af, gd⟩).run P u = .ok (.value v) u := by intro u; kernel_rfl) : GD P ops Q V Xs E (.step i l) a G' w G X L F := fun u hM hU => seq_do hE ho rfl hw (hr u) (hl.ok hU) (h u hM hU)
theorem GD.r {d : Option Tmp} {op : Op} {ty : TypeId} {pos : String} {af : Array Edge} {gd : Option (Nat × Bool)} (v : Value) (hr : ∀ u, Mem w G X u L F → (execOp a.eval ⟨d, op, ty, pos, af, gd⟩).run P u = .ok (.value v) u) (h : GD P ops Q V Xs E l (a.put d v) G' w G X L F) (hl : Late ops E i G' Xs := by first | (refine .inr ?_; simp; done) | (refine .inl ?_; kernel_rfl)) (hE : E.contains i = false := by rfl) (ho : ops[i]? = some ⟨d, op, ty, pos, af, gd⟩ := by rfl) (hw : Region.wanted ⟨d, op, ty, pos, af, gd⟩ (yielded ops a.tmps) = true := by kernel_rfl) :
    GD P ops Q V Xs E (.step i l) a G' w G X L F := fun u hM hU => seq_do hE ho rfl hw (hr u hM) (hl.ok hU) (h u hM hU)
theorem GD.sk {d : Option Tmp} {op : Op} {ty : TypeId} {pos : String} {af : Array Edge} {gd : Option (Nat × Bool)} (h : GD P ops Q V Xs E l (a.put d undef) G' w G X L F) (hl : Late ops E i G' Xs := by first | (refine .inr ?_; simp; done) | (refine .inl ?_; kernel_rfl)) (hE : E.contains i = false := by rfl) (ho : ops[i]? = some ⟨d, op, ty, pos, af, gd⟩ := by rfl) (hw : Region.wanted ⟨d, op, ty, pos, af, gd⟩ (yielded ops a.tmps) = false := by kernel_rfl) :
    GD P ops Q V Xs E (.step i l) a G' w G X L F := fun u hM hU => seq_skip hE ho rfl hw (hl.ok hU) (h u hM hU)
theorem GD.bx {d : Option Tmp} {op : Op} {ty : TypeId} {pos : String} {af : Array Edge} {gd : Option (Nat × Bool)} {cs : Array Value} {T : TypeId} (hr : ∀ u, (execOp a.eval ⟨d, op, ty, pos, af, gd⟩).run P u = .ok (.value (.pointer (some ⟨u.heap.size, 0, none⟩))) (u.alloc (.cells cs T))) (h : ∀ g, V.heap.size ≤ g → GD P ops Q V Xs E l (a.put d (.pointer (some ⟨g, 0, none⟩))) G' w G X (.box g cs T :: L) F)
    (hl : Late ops E i G' Xs := by first | (refine .inr ?_; simp; done) | (refine .inl ?_; kernel_rfl)) (hE : E.contains i = false := by rfl) (ho : ops[i]? = some ⟨d, op, ty, pos, af, gd⟩ := by rfl) (hw : Region.wanted ⟨d, op, ty, pos, af, gd⟩ (yielded ops a.tmps) = true := by kernel_rfl) : GD P ops Q V Xs E (.step i l) a G' w G X L F :=
  fun u hM hU => seq_made hE ho rfl hw (hr u) fun g u' hm => ⟨hl.ok (hU.made hm), h g (Nat.le_trans hU.size hm.ge) u' (hM.box hm) (hU.made hm)⟩
theorem GD.row {d : Option Tmp} {op : Op} {ty : TypeId} {pos : String} {af : Array Edge} {gd : Option (Nat × Bool)} {n m : Nat} {e : TypeId} {xs : List Value} {ob : Obj} (hr : ∀ u, (execOp a.eval ⟨d, op, ty, pos, af, gd⟩).run P u = .ok (.value (.slice (some ⟨u.heap.size, 0, none⟩) n m)) (u.alloc ob)) (hO : ∀ u g u', Made u g ob u' → Own e u' g n m xs)
    (h : ∀ g, V.heap.size ≤ g → GD P ops Q V Xs E l (a.put d (.slice (some ⟨g, 0, none⟩) n m)) G' w G X (.own g e n m xs :: L) F) (hl : Late ops E i G' Xs := by first | (refine .inr ?_; simp; done) | (refine .inl ?_; kernel_rfl)) (hE : E.contains i = false := by rfl) (ho : ops[i]? = some ⟨d, op, ty, pos, af, gd⟩ := by rfl) (hw : Region.wanted ⟨d, op, ty, pos, af, gd⟩ (yielded ops a.tmps) = true := by kernel_rfl) :
    GD P ops Q V Xs E (.step i l) a G' w G X L F :=
  fun u hM hU => seq_row hE ho rfl hw (hr u) fun g u' hm => ⟨hl.ok (hU.made hm), h g (Nat.le_trans hU.size hm.ge) u' (hM.row hm (hO u g u' hm)) (hU.made hm)⟩
/-- A store: into a cell that stood, or into a new one. -/
theorem GD.st {op : Op} {ty : TypeId} {pos : String} {af : Array Edge} {gd : Option (Nat × Bool)} {g : Nat} {cs' : Array Value} {T : TypeId} (f : ∀ u u', Mem w G X u L F → Stored u g cs' T u' → Mem w G X u' L' F) (hr : ∀ u, Mem w G X u L F → ∃ u', (execOp a.eval ⟨none, op, ty, pos, af, gd⟩).run P u = .ok .skip u' ∧ Stored u g cs' T u') (h : GD P ops Q V Xs E l a (g :: G') w G X L' F)
    (hl : Late ops E i (g :: G') Xs := by first | (refine .inr ?_; simp; done) | (refine .inl ?_; kernel_rfl)) (hE : E.contains i = false := by rfl) (ho : ops[i]? = some ⟨none, op, ty, pos, af, gd⟩ := by rfl) (hw : Region.wanted ⟨none, op, ty, pos, af, gd⟩ (yielded ops a.tmps) = true := by kernel_rfl) : GD P ops Q V Xs E (.step i l) a G' w G X L F :=
  fun u hM hU => seq_store hE ho rfl hw (hr u hM) fun u' hs => ⟨hl.ok (hU.stored hs), h u' (f u u' hM hs) (hU.stored hs)⟩
theorem GD.sn {op : Op} {ty : TypeId} {pos : String} {af : Array Edge} {gd : Option (Nat × Bool)} {g : Nat} {cs' : Array Value} {T : TypeId} (hg : V.heap.size ≤ g) (f : ∀ u u', Mem w G X u L F → Stored u g cs' T u' → Mem w G X u' L' F) (hr : ∀ u, Mem w G X u L F → ∃ u', (execOp a.eval ⟨none, op, ty, pos, af, gd⟩).run P u = .ok .skip u' ∧ Stored u g cs' T u') (h : GD P ops Q V Xs E l a G' w G X L' F)
    (hl : Late ops E i G' Xs := by first | (refine .inr ?_; simp; done) | (refine .inl ?_; kernel_rfl)) (hE : E.contains i = false := by rfl) (ho : ops[i]? = some ⟨none, op, ty, pos, af, gd⟩ := by rfl) (hw : Region.wanted ⟨none, op, ty, pos, af, gd⟩ (yielded ops a.tmps) = true := by kernel_rfl) : GD P ops Q V Xs E (.step i l) a G' w G X L F :=
  fun u hM hU => seq_store hE ho rfl hw (hr u hM) fun u' hs => ⟨hl.ok (hU.storedNew hs hg), h u' (f u u' hM hs) (hU.storedNew hs hg)⟩
theorem GD.call {d : Option Tmp} {op : Op} {ty : TypeId} {pos : String} {af : Array Edge} {gd : Option (Nat × Bool)} {f : FuncId} {args : Array Value} {R : World → Ending → World → Prop} (hc : ∀ u, Mem w G X u L F → Calls P f args u (R u)) (h : ∀ u e u', Mem w G X u L F → R u e u' → ∃ v L' F', e = .returned v ∧ Below u.heap.size u u' ∧ Mem w G X u' L' F' ∧ GD P ops Q V Xs E l (a.put d v) G' w G X L' F')
    (hl : Late ops E i G' Xs := by first | (refine .inr ?_; simp; done) | (refine .inl ?_; kernel_rfl)) (hE : E.contains i = false := by rfl) (ho : ops[i]? = some ⟨d, op, ty, pos, af, gd⟩ := by rfl) (hw : Region.wanted ⟨d, op, ty, pos, af, gd⟩ (yielded ops a.tmps) = true := by kernel_rfl) (he : ∀ u, (execOp a.eval ⟨d, op, ty, pos, af, gd⟩).run P u = .ok (.enter f args) u := by intro u; kernel_rfl) : GD P ops Q V Xs E (.step i l) a G' w G X L F :=
  fun u hM hU => seq_call hE ho rfl hw (he u) (hc u hM) fun e u' hR => by
    obtain ⟨v, L', F', rfl, hb, hM', h⟩ := h u e u' hM hR
    exact ⟨v, rfl, hl.ok (hU.call hb), h u' hM' (hU.call hb)⟩
theorem GD.mem (f : ∀ u, Mem w G X u L F → Mem w G X u L' F') (h : GD P ops Q V Xs E l a G' w G X L' F') : GD P ops Q V Xs E l a G' w G X L F := fun u hM hU => h u (f u hM) hU
/-- A cell as it stood at the begin. -/
theorem Mem.bS {g T : Nat} {cs : Array Value} {u : World} (hM : Mem w G X V L F) (i : Nat) (h : L[i]? = some (.box g cs T)) (hS : SameBut Xs V.heap.size V u) (hx : g ∉ Xs := by simp) : u.heap[g]? = some (.cells cs T (0, 0)) :=
  (hS.at_ g (lt_of_at (hM.b i h)) hx).trans (hM.b i h)
end
theorem Mem.swap0 {c d : Cell} {u : World} (hM : Mem w G X u (c :: d :: L) F) : Mem w G X u (d :: c :: L) F := by
  have hm : ∀ e, e ∈ d :: c :: L → e ∈ c :: d :: L := by intro e; simp only [List.mem_cons]; rintro (h | h | h) <;> simp [h]
  refine ⟨hM.upd, fun e h => hM.new e (hm e h), fun e h => hM.ok e (hm e h), ?_, hM.lt, hM.ap, fun f hf => f.k.less (hM.fct f hf) fun k _ hk => hk.imp id fun h => ?_⟩
  · have := hM.nd
    simp only [List.map_cons, List.nodup_cons, List.mem_cons, not_or] at this ⊢
    exact ⟨⟨fun e => this.1.1 e.symm, this.2.1⟩, this.1.2, this.2.2⟩
  · simp only [List.map_cons, List.mem_cons] at h ⊢
    rcases h with h | h | h <;> simp [h]
end
theorem Mem.swap1 {c0 c d : Cell} {w u : World} {G : List Nat} {X : Nat → Prop} {L : List Cell} {F : List Fa} (hM : Mem w G X u (c0 :: c :: d :: L) F) : Mem w G X u (c0 :: d :: c :: L) F := by
  have hm : ∀ e, e ∈ c0 :: d :: c :: L → e ∈ c0 :: c :: d :: L := by intro e; simp only [List.mem_cons]; rintro (h | h | h | h) <;> simp [h]
  refine ⟨hM.upd, fun e h => hM.new e (hm e h), fun e h => hM.ok e (hm e h), ?_, hM.lt, hM.ap, fun f hf => f.k.less (hM.fct f hf) fun k _ hk => hk.imp id fun h => ?_⟩
  · have := hM.nd
    simp only [List.map_cons, List.nodup_cons, List.mem_cons, not_or] at this ⊢
    exact ⟨⟨this.1.2.1, this.1.1, this.1.2.2⟩, ⟨fun e => this.2.1.1 e.symm, this.2.2.1⟩, this.2.1.2, this.2.2.2⟩
  · simp only [List.map_cons, List.mem_cons] at h ⊢
    rcases h with h | h | h | h <;> simp [h]
attribute [irreducible] CG QG GL GD
end Cps
