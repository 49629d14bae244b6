/- Code walked in an activation of its own or in a round of a range over a function: one word for both. -/
import Derived.Test.YtklnjhlidfclmaaGreatDoorOwn
import Derived.OrdersIn
import Derived.ControlIn
import Derived.CallsIn
import Derived.RangeFuncLeaves
set_option linter.unusedVariables false
namespace Cps
open Go Go.RowKit

/-- The widest fence, in a round or in none. -/
def Fr (ro : Option Nat) : Fence := { Fence.wide with round := ro }
/-- Q holds of no code that outgrew. -/
def NoOut (Q : Exit → Act → World → Prop) : Prop := ∀ a w, ¬ Q .outgrown a w
def noDefer (ops : Array Oper) : Bool := ops.toList.all fun o => match o.op with
  | .defer _ => false
  | _ => true

theorem callsIn_fr {ro : Option Nat} {n : Nat} {P : Program} {f : FuncId} {args : Array Value} {w : World} {R : Ending → World → Prop} (h : Calls P f args w R) : CallsIn (Fr ro) n P f args w R :=
  (callsIn_wide (n := n)).2 h
theorem rowsIn_fr {ro : Option Nat} {n : Nat} {P : Program} {row : String} {args : Array Value} {w : World} {R : Value → World → Prop} (h : Rows P row args w R) : RowsIn (Fr ro) n P row args w R :=
  fun c cs _ => let ⟨v, w', r, s⟩ := h c cs; ⟨v, w', r, stepsIn_wide.2 s⟩

theorem uponIn_of {ro : Option Nat} {n : Nat} {P : Program} {o : Oper} {a : Act} {K : Act → World → Prop} {Q : Exit → Act → World → Prop} : ∀ r : Result Next, o.upon P a K Q r → o.uponIn (Fr ro) n P a K Q r
  | .ok (.value v) w, h => h
  | .ok .skip w, h => h
  | .ok (.defer d) w, h => h
  | .ok (.enter f args) w, h => ⟨fun e => by simp [Fr, Fence.wide] at e, callsIn_fr (h.mono fun e w'' he => by cases e <;> exact he)⟩
  | .ok (.row row args) w, h => ⟨fun e => by simp [Fr, Fence.wide] at e, rowsIn_fr h⟩
  | .halt (.panic v) w, h => h

theorem wpOpIn_of {ro : Option Nat} {n : Nat} {P : Program} {ops : Array Oper} {Q : Exit → Act → World → Prop} (hd : noDefer ops = true) (hq : NoOut Q) {i : Nat} {K : Act → World → Prop} {a : Act} {w : World} (h : wpOp P ops Q i K a w) : wpOpIn (Fr ro) n P ops Q i K a w := by
  unfold wpOp at h
  unfold wpOpIn
  cases ho : ops[i]? with
  | none => simp only [ho] at h; exact h
  | some o =>
    simp only [ho] at h ⊢
    split at h
    · rename_i hw
      rw [if_pos hw]
      rcases h with h | ⟨_, a', w', h⟩
      · refine ⟨fun _ _ => trivial, ?_⟩
        rw [Oper.semAt_eq]
        · exact uponIn_of _ h
        · intro c e
          have hm : o ∈ ops.toList := by
            obtain ⟨hl, he⟩ := Array.getElem?_eq_some_iff.1 ho
            rw [← he]; exact Array.getElem_mem_toList hl
          have := List.all_eq_true.1 hd o hm
          rw [e] at this
          cases this
      · exact absurd h (hq _ _)
    · rename_i hw
      rw [if_neg hw]
      exact ⟨fun _ _ => trivial, h⟩

theorem wpOpsIn_of {ro : Option Nat} {n : Nat} {P : Program} {ops : Array Oper} {Q : Exit → Act → World → Prop} (hd : noDefer ops = true) (hq : NoOut Q) : ∀ (l : List Nat) (a : Act) (w : World), wpOps P ops Q l a w → wpOpsIn (Fr ro) n P ops Q l a w
  | [], _, _, h => h
  | i :: l, a, w, h => by
    rw [wpOps_cons] at h
    rw [wpOpsIn_cons]
    exact wpOpIn_mono (fun a w h => wpOpsIn_of hd hq l a w h) (wpOpIn_of hd hq h)

theorem wpAnyIn_of {ro : Option Nat} {n : Nat} {P : Program} {md : Region.Mode} {ops : Array Oper} {Q : Exit → Act → World → Prop} (hd : noDefer ops = true) (hq : NoOut Q) : ∀ (fuel : Nat) (listed : Array Bool) (a : Act) (w : World), wpAny P md ops Q fuel listed a w → wpAnyIn (Fr ro) n P md ops Q fuel listed a w
  | 0, _, _, _, h => h
  | fuel + 1, _, _, _, h => ⟨h.1, fun i hi => wpOpIn_mono (fun a w h => wpAnyIn_of hd hq fuel _ a w h) (wpOpIn_of hd hq (h.2 i hi))⟩

/-- Where code is walked: in an activation (none), or at a fence. -/
abbrev Mode := Option (Option Nat × Nat)
def W (M : Mode) (P : Program) (c : Code) (Q : Exit → Act → World → Prop) (a : Act) (w : World) : Prop :=
  match M with
  | none => c.wp P Q a w
  | some (ro, n) => c.wpIn (Fr ro) n P Q a w

section
variable {M : Mode} {P : Program} {Q : Exit → Act → World → Prop} {a : Act} {w : World}
theorem W.mono {c : Code} {Q' : Exit → Act → World → Prop} (h : W M P c Q a w) (hq : ∀ e a w, Q e a w → Q' e a w) : W M P c Q' a w := by
  cases M with
  | none => exact wp_mono h hq
  | some q => exact wpIn_mono h hq
theorem W.skip (h : Q .normal a w) : W M P .skip Q a w := by
  cases M with
  | none => exact wp_skip h
  | some q => exact wpIn_skip h
theorem W.exit {id : Nat} (h : Q (.exit id) a w) : W M P (.exit id) Q a w := by
  cases M with
  | none => exact wp_exit h
  | some q => exact wpIn_exit h
theorem W.ret (h : Q .ret a w) : W M P .ret Q a w := by
  cases M with
  | none => exact wp_ret h
  | some q => exact wpIn_ret h
theorem W.seq {x y : Code} (h : ∀ K : Act → World → Prop, (∀ a w, W M P y Q a w → K a w) → W M P x (Exit.then K Q) a w) : W M P (.seq x y) Q a w := by
  cases M with
  | none => exact wp_seq_k h
  | some q => exact wpIn_seq_k h
theorem W.cond_true {c : Operand} {x y : Code} (hc : a.eval c = .bool true) (h : W M P x Q a w) : W M P (.cond c x y) Q a w := by
  cases M with
  | none => exact wp_cond_true hc h
  | some q => exact wpIn_cond_true hc h
theorem W.cond_false {c : Operand} {x y : Code} (hc : a.eval c = .bool false) (h : W M P y Q a w) : W M P (.cond c x y) Q a w := by
  cases M with
  | none => exact wp_cond_false hc h
  | some q => exact wpIn_cond_false hc h
theorem W.block {id : Nat} {c : Code} (h : W M P c (Exit.inBlock id Q) a w) : W M P (.block id c) Q a w := by
  cases M with
  | none => exact wp_block h
  | some q => exact wpIn_block h
theorem W.region {id : Nat} {ops : Array Oper} (hd : M = none ∨ noDefer ops = true ∧ NoOut Q) (h : wpOps P ops Q (List.range ops.size) a w) : W M P (.region id ops false) Q a w := by
  cases M with
  | none => exact wp_region h
  | some q =>
    rcases hd with hd | hd
    · cases hd
    · exact wpIn_region (wpOpsIn_of hd.1 hd.2 _ _ _ h)
theorem W.draws {id : Nat} {ops : Array Oper} (hd : M = none ∨ noDefer ops = true ∧ NoOut Q) (hm : P.follows .mixedOrders = true) (h : wpAny P .any ops Q ops.size (Array.replicate ops.size false) a w.drew) : W M P (.region id ops true) Q a w := by
  cases M with
  | none => exact wp_region_any hm h
  | some q =>
    rcases hd with hd | hd
    · cases hd
    · exact wpIn_region_any hm (wpAnyIn_of hd.1 hd.2 _ _ _ _ h)

/-- A loop with a measure that is a number of its own. -/
theorem wpIn_loop_m {F : Fence} {n : Nat} {c : Code} (I : Nat → Act → World → Prop) (h₀ : ∃ m, I m a w)
    (round : ∀ m a w, I m a w → c.wpIn F n P (Exit.then (fun a' w' => ∃ m', m' < m ∧ I m' a' w') Q) a w) : (Code.loop c).wpIn F n P Q a w := by
  intro b k cs hro hb hr
  have key : ∀ j a w, I j a w →
      ∃ e a' w', Q e a' w' ∧ ArrivesIn (Machine.fenced P F) P (lone (b.atR a (.code c :: .inLoop c :: k)) cs w) b k cs e a' w' := by
    intro j
    induction j using Nat.strongRecOn with
    | _ j ih =>
      intro a w hI
      obtain ⟨e, a₁, w₁, hq, harr⟩ := round j a w hI b (.inLoop c :: k) cs hro hb hr
      cases e with
      | normal =>
        obtain ⟨m', hlt, hI₁⟩ := hq
        obtain ⟨e₂, a₂, w₂, hq₂, harr₂⟩ := ih m' hlt a₁ w₁ hI₁
        exact ⟨e₂, a₂, w₂, hq₂, .of_steps (StepsIn.trans harr (.one (fenced_calm hb hr rfl) stepR_inLoop)) harr₂⟩
      | exit id => exact ⟨_, a₁, w₁, hq, .pass (x := .inLoop c) rfl (fun _ _ => .inl (by simp)) harr⟩
      | goto l => exact ⟨_, a₁, w₁, hq, .pass (x := .inLoop c) rfl (fun _ _ => .inl (by simp)) harr⟩
      | ret => exact ⟨_, a₁, w₁, hq, .pass (x := .inLoop c) rfl (fun _ _ => .inl (by simp)) harr⟩
      | panic ch => exact ⟨_, a₁, w₁, hq, .pass (x := .inLoop c) rfl (fun _ _ => .inl (by simp)) harr⟩
      | outgrown => exact ⟨_, a₁, w₁, hq, .pass (x := .inLoop c) rfl (fun _ _ => .inl (by simp)) harr⟩
  obtain ⟨m, h₀⟩ := h₀
  obtain ⟨e, a', w', hq, harr⟩ := key m a w h₀
  exact ⟨e, a', w', hq, .of_steps (.one (fenced_calm hb hr rfl) stepR_loop) harr⟩
theorem W.loop {c : Code} (I : Nat → Act → World → Prop) (h₀ : ∃ m, I m a w) (round : ∀ m a w, I m a w → W M P c (Exit.then (fun a' w' => ∃ m', m' < m ∧ I m' a' w') Q) a w) : W M P (.loop c) Q a w := by
  cases M with
  | none => exact wp_loop_m I h₀ round
  | some q => exact wpIn_loop_m I h₀ round
end
end Cps
