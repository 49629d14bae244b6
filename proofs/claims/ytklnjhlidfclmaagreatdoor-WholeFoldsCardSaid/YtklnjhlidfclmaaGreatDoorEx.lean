/- Steps whose result is only known to be one of several: floats. Cells that are read for ever: boxes given up. -/
import Derived.Test.YtklnjhlidfclmaaGreatDoorRange
set_option linter.unusedVariables false
set_option linter.unusedSimpArgs false
namespace Cps
open Go Go.RowKit

section
variable {M : Mode} {P : Program} {ops : Array Oper} {Q : Exit → Act → World → Prop} {w V : World} {G Xs E G' : List Nat} {X : Nat → Prop} {L L' : List Cell} {F F' : List Fa} {a : Act} {i : Nat} {l : Tr}
theorem GL.ex {β : Type} {d : Option Tmp} {op : Op} {ty : TypeId} {pos : String} {af : Array Edge} {gd : Option (Nat × Bool)} (mkv : β → Value) (p : β → Prop) (hr : ∀ u, Mem w G X u L F → ∃ v u', p v ∧ (execOp a.eval ⟨d, op, ty, pos, af, gd⟩).run P u = .ok (.value (mkv v)) u' ∧ Below u.heap.size u u')
    (h : ∀ v, p v → GL P ops Q l (a.put d (mkv v)) w G X L F) (ho : ops[i]? = some ⟨d, op, ty, pos, af, gd⟩ := by rfl) (hw : Region.wanted ⟨d, op, ty, pos, af, gd⟩ (yielded ops a.tmps) = true := by kernel_rfl) : GL P ops Q (.step i l) a w G X L F := by
  unfold GL at *
  intro u hM
  obtain ⟨v, u', hp, hv, hb⟩ := hr u hM
  exact seq_do rfl ho rfl hw hv (fun _ => trivial) (h v hp u' (hM.call hb))
theorem GD.ex {β : Type} {d : Option Tmp} {op : Op} {ty : TypeId} {pos : String} {af : Array Edge} {gd : Option (Nat × Bool)} (mkv : β → Value) (p : β → Prop) (hr : ∀ u, Mem w G X u L F → ∃ v u', p v ∧ (execOp a.eval ⟨d, op, ty, pos, af, gd⟩).run P u = .ok (.value (mkv v)) u' ∧ Below u.heap.size u u')
    (h : ∀ v, p v → GD P ops Q V Xs E l (a.put d (mkv v)) G' w G X L F) (hl : Late ops E i G' Xs := by first | (refine .inr ?_; simp; done) | (refine .inl ?_; kernel_rfl)) (hE : E.contains i = false := by rfl) (ho : ops[i]? = some ⟨d, op, ty, pos, af, gd⟩ := by rfl) (hw : Region.wanted ⟨d, op, ty, pos, af, gd⟩ (yielded ops a.tmps) = true := by kernel_rfl) :
    GD P ops Q V Xs E (.step i l) a G' w G X L F := by
  unfold GD at *
  intro u hM hU
  obtain ⟨v, u', hp, hv, hb⟩ := hr u hM
  exact seq_do hE ho rfl hw hv (hl.ok (hU.call hb)) (h v hp u' (hM.call hb) (hU.call hb))
/-- A call that writes a row of one's own. -/
theorem GD.callU {d : Option Tmp} {op : Op} {ty : TypeId} {pos : String} {af : Array Edge} {gd : Option (Nat × Bool)} {f : FuncId} {args : Array Value} {R : World → Ending → World → Prop} (g : Nat) (hc : ∀ u, Mem w G X u L F → Calls P f args u (R u)) (h : ∀ u e u', Mem w G X u L F → R u e u' → ∃ v L' F', e = .returned v ∧ Upd [g] u u' ∧ Mem w G X u' L' F' ∧ GD P ops Q V Xs E l (a.put d v) (g :: G') w G X L' F')
    (hl : Late ops E i (g :: G') Xs := by first | (refine .inr ?_; simp; done) | (refine .inl ?_; kernel_rfl)) (hE : E.contains i = false := by rfl) (ho : ops[i]? = some ⟨d, op, ty, pos, af, gd⟩ := by rfl) (hw : Region.wanted ⟨d, op, ty, pos, af, gd⟩ (yielded ops a.tmps) = true := by kernel_rfl) (he : ∀ u, (execOp a.eval ⟨d, op, ty, pos, af, gd⟩).run P u = .ok (.enter f args) u := by intro u; kernel_rfl) : GD P ops Q V Xs E (.step i l) a G' w G X L F := by
  unfold GD at *
  intro u hM hU
  refine seq_call hE ho rfl hw (he u) (hc u hM) fun e u' hR => ?_
  obtain ⟨v, L', F', rfl, hb, hM', h⟩ := h u e u' hM hR
  exact ⟨v, rfl, hl.ok (hU.comp hb), h u' hM' (hU.comp hb)⟩
end

section
variable {P : Program} {u : World} {a : Act} {d : Option Tmp} {ty : TypeId} {pos : String} {af : Array Edge} {gd : Option (Nat × Bool)}
theorem run_any (q : Question) (f : Nat → Value) (u : World) : ∃ r u', ((do pure (f (← choose q))) : Sem Value).run P u = .ok (f r) u' ∧ Below u.heap.size u u' := by
  simp only [Sem.run_bind, run_choose_drew]
  split
  · exact ⟨0, u, rfl, Below.refl _ _⟩
  · exact ⟨_, u.drew, rfl, (Below.refl _ _).drew⟩
theorem run_arith (b : BinOp) (k : FloatKind) (x y : Nat) (hb : b = .add ∨ b = .sub ∨ b = .mul ∨ b = .quo) (u : World) : ∃ r u', (Op.floatArith b k x y).run P u = .ok (.float k r) u' ∧ Below u.heap.size u u' := by
  have key : ∀ o : Option Nat, ∃ r u', ((match o with
      | some r => pure (Value.float k r)
      | none => do pure (.float k (← choose (.nanBits k x y)))) : Sem Value).run P u = .ok (.float k r) u' ∧ Below u.heap.size u u' := by
    intro o
    cases o with
    | some r => exact ⟨r, u, rfl, Below.refl _ _⟩
    | none => exact run_any _ (fun r => .float k r) u
  rcases hb with rfl | rfl | rfl | rfl
  · exact key (k.format.add x y)
  · exact key (k.format.sub x y)
  · exact key (k.format.mul x y)
  · exact key (k.format.div x y)
theorem op_float {b : BinOp} {t t' : TypeId} {x y : Operand} {k : FloatKind} {p q : Nat} (hx : a.eval x = .float k p) (hy : a.eval y = .float k q) (hb : b = .add ∨ b = .sub ∨ b = .mul ∨ b = .quo) :
    ∃ r u', True ∧ (execOp a.eval ⟨d, .binOp b t x y t', ty, pos, af, gd⟩).run P u = .ok (.value (.float k r)) u' ∧ Below u.heap.size u u' := by
  obtain ⟨r, u', h, hbl⟩ := run_arith (P := P) b k p q hb u
  refine ⟨r, u', trivial, ?_, hbl⟩
  have hg : eqGuard b t x y (.float k p) (.float k q) = pure () := by rcases hb with rfl | rfl | rfl | rfl <;> rfl
  have h2 : (binOp b t (.float k p) (.float k q)).run P u = .ok (.float k r) u' := by
    rcases hb with rfl | rfl | rfl | rfl <;> (simp only [binOp, ne_eq, not_true_eq_false, if_false]; exact h)
  simp only [execOp, hx, hy, hg, Sem.run_bind, Sem.run_pure, Result.andThen, h2]
theorem op_i2f {s t : TypeId} {x : Operand} {k : FloatKind} {kd : IntKind} {n : Int} {ts : TypeDesc} (hx : a.eval x = .int kd n) (hs : P.underlying s = some ts) (ht : P.underlying t = some (.float k)) :
    ∃ r u', True ∧ (execOp a.eval ⟨d, .convert s t x, ty, pos, af, gd⟩).run P u = .ok (.value (.float k r)) u' ∧ Below u.heap.size u u' := by
  refine ⟨k.nearest n, u, trivial, ?_, Below.refl _ _⟩
  simp [execOp, hx, convert, run_underlying hs, run_underlying ht, Conv.intToFloat]
theorem op_f2i {s t : TypeId} {x : Operand} {k : FloatKind} {p : Nat} {ts : TypeDesc} (hx : a.eval x = .float k p) (hs : P.underlying s = some ts) (ht : P.underlying t = some (.int .i64)) :
    ∃ r u', (-9223372036854775808 ≤ r ∧ r ≤ 9223372036854775807) ∧ (execOp a.eval ⟨d, .convert s t x, ty, pos, af, gd⟩).run P u = .ok (.value (.int .i64 r)) u' ∧ Below u.heap.size u u' := by
  have key : ∃ r u', (-9223372036854775808 ≤ r ∧ r ≤ 9223372036854775807) ∧ (Conv.floatToInt k p .i64).run P u = .ok (.int .i64 r) u' ∧ Below u.heap.size u u' := by
    have any : ∃ r u', (-9223372036854775808 ≤ r ∧ r ≤ 9223372036854775807) ∧ ((do pure (.int .i64 (IntKind.i64.wrap (← choose (.floatToInt k p .i64))))) : Sem Value).run P u = .ok (.int .i64 r) u' ∧ Below u.heap.size u u' := by
      obtain ⟨r, u', h, hb⟩ := run_any (P := P) (.floatToInt k p .i64) (fun n => .int .i64 (IntKind.i64.wrap n)) u
      exact ⟨_, u', by rw [IntKind.wrap_i64]; omega, h, hb⟩
    unfold Conv.floatToInt
    simp only
    split
    · split
      · rename_i n _ h
        refine ⟨n, u, ?_, rfl, Below.refl _ _⟩
        have h1 : IntKind.i64.min = -9223372036854775808 := by decide
        have h2 : IntKind.i64.max = 9223372036854775807 := by decide
        omega
      · exact any
    · exact any
  obtain ⟨r, u', hr, h, hb⟩ := key
  refine ⟨r, u', hr, ?_, hb⟩
  simp [execOp, hx, convert, run_underlying hs, run_underlying ht, h]
end

/-- A cell that nobody writes any more. -/
def Bk (T : TypeId) : Kd (Array Value) where
  R X w cs v := match cs with
    | [.pointer (some ⟨b, 0, none⟩)] => w.heap[b]? = some (.cells v T (0, 0)) ∧ ¬ X b
    | _ => False
  st {X X' w w' cs x} h hs hX := by
    split at h
    · exact ⟨hs.at_ _ _ _ _ h.1 h.2, fun hx => h.2 (hX _ (lt_of_at h.1) hx)⟩
    · exact h.elim
theorem Bk.at_ {T : TypeId} {X : Nat → Prop} {w : World} {b : Nat} {v : Array Value} (h : (Bk T).R X w [.pointer (some ⟨b, 0, none⟩)] v) : w.heap[b]? = some (.cells v T (0, 0)) := h.1
theorem Bk.no {T : TypeId} {X : Nat → Prop} {w : World} {b : Nat} {v : Array Value} (h : (Bk T).R X w [.pointer (some ⟨b, 0, none⟩)] v) : ¬ X b := h.2
theorem Bk.of {T : TypeId} {X : Nat → Prop} {w : World} {b : Nat} {v : Array Value} (h : w.heap[b]? = some (.cells v T (0, 0))) (hx : ¬ X b) : (Bk T).R X w [.pointer (some ⟨b, 0, none⟩)] v := ⟨h, hx⟩
end Cps
