/- A region that draws its order, walked in ONE order: operations that only read what nobody in the region writes before they are done ('early' ones) may be taken as soon as they may come up; the others must be the only ones that may come up. Over any program. -/
import Derived.WalkKit
import Derived.Deep.RegionHeld3
import Derived.Test.YtklnjhlidfclmaaGreatDoorRep
set_option linter.unusedVariables false
namespace Cps
open Go Go.RowKit

section
variable {P : Program} {ops : Array Oper} {Q : Exit → Act → World → Prop} {md : Region.Mode} {S : World → Prop} {E : List Nat}

/-- Does operation j wait for operation i, by its own edges or by those of the operations that it waits for? -/
def waitsFor (md : Region.Mode) (ops : Array Oper) : Nat → Nat → Nat → Bool
  | 0, _, _ => false
  | f + 1, j, i => match ops[j]? with
    | some o => (o.after.any fun e => Region.binds md e && e.on == i) || o.after.any fun e => Region.binds md e && waitsFor md ops f e.on i
    | none => false
/-- Does operation j wait for every early one? -/
def waitsAll (md : Region.Mode) (ops : Array Oper) (E : List Nat) (j : Nat) : Bool := E.all fun i => waitsFor md ops ops.size j i

/-- Whatever has come up, all that it waits for has come up before. -/
def Closed (md : Region.Mode) (ops : Array Oper) (listed : Array Bool) : Prop :=
  ∀ j o, listed.getD j false = true → ops[j]? = some o → ∀ e ∈ o.after, Region.binds md e = true → listed.getD e.on false = true
theorem closed_start (n : Nat) : Closed md ops (Array.replicate n false) := fun j o h => by
  simp [Array.getD_eq_getD_getElem?, Array.getElem?_replicate] at h
  split at h <;> simp at h
theorem Closed.set {listed : Array Bool} {j : Nat} (h : Closed md ops listed) (hj : j ∈ Region.ready md ops listed) : Closed md ops (listed.setIfInBounds j true) := fun k o hk ho e he hb => by
  by_cases hkj : k = j
  · subst hkj
    obtain ⟨_, o', ho', hall⟩ := mem_ready.1 hj
    rw [ho] at ho'; cases ho'
    exact getD_set_true (hall e he hb)
  · rw [getD_set_ne false (Ne.symm hkj)] at hk
    exact getD_set_true (h k o hk ho e he hb)
theorem waitsFor_listed {listed : Array Bool} (hc : Closed md ops listed) (i : Nat) : ∀ (f j : Nat), (∀ o, ops[j]? = some o → ∀ e ∈ o.after, Region.binds md e = true → listed.getD e.on false = true) → waitsFor md ops f j i = true → listed.getD i false = true := by
  intro f
  induction f with
  | zero => intro j _ h; simp [waitsFor] at h
  | succ f ih =>
    intro j hj h
    unfold waitsFor at h
    split at h
    · rename_i o ho
      rw [Bool.or_eq_true] at h
      rcases h with h | h
      · obtain ⟨e, he, hb⟩ := Array.any_eq_true'.1 h
        simp only [Bool.and_eq_true, beq_iff_eq] at hb
        rw [← hb.2]; exact hj o ho e he hb.1
      · obtain ⟨e, he, hb⟩ := Array.any_eq_true'.1 h
        simp only [Bool.and_eq_true] at hb
        exact ih e.on (fun o' ho' => hc e.on o' (hj o ho e he hb.1) ho') hb.2
    · simp at h

/-- Whatever order is picked from here on; and S holds behind every operation that does not wait for all early ones. -/
def wpAnyL (P : Program) (md : Region.Mode) (ops : Array Oper) (Q : Exit → Act → World → Prop) (S : World → Prop) (E : List Nat) : Nat → Array Bool → Act → World → Prop
  | 0, listed, a, w => Region.ready md ops listed = [] ∧ Q .normal a w
  | fuel + 1, listed, a, w =>
    (Region.ready md ops listed = [] → Q .normal a w) ∧
    ∀ i ∈ Region.ready md ops listed, wpOp P ops Q i (fun a' w' => (waitsAll md ops E i = false → S w') ∧ wpAnyL P md ops Q S E fuel (listed.setIfInBounds i true) a' w') a w

theorem wpAny_of_L : ∀ (fuel : Nat) (listed : Array Bool) (a : Act) (w : World), wpAnyL P md ops Q S E fuel listed a w → wpAny P md ops Q fuel listed a w
  | 0, _, _, _, h => h
  | fuel + 1, _, _, _, h => ⟨h.1, fun i hi => wpOp_mono (fun a' w' h' => wpAny_of_L fuel _ a' w' h'.2) (h.2 i hi)⟩

theorem wpAnyL_first {i : Nat} {oi : Oper} {v : Value} (hE : i ∈ E) (hi : ops[i]? = some oi) (hsel : ∀ (j : Nat) (o : Oper) cs b, ops[j]? = some o → o.op ≠ .select cs b)
    (hQ : ∀ c a w, Q (.panic c) (a.put oi.dst v) w → Q (.panic c) a w) :
    ∀ (fuel : Nat) (listed : Array Bool) (a : Act) (w : World), Closed md ops listed →
      (∀ j oj, ops[j]? = some oj → j ≠ i → listed.getD j true = false → (∀ e ∈ oj.after, Region.binds md e = true → e.on ≠ i) → oi.apart ops oj = true) →
      i ∈ Region.ready md ops listed → YieldsIf P ops S oi v a → S w →
      wpAnyL P md ops Q S E fuel (listed.setIfInBounds i true) (a.put oi.dst v) w → wpAnyL P md ops Q S E (fuel + 1) listed a w := by
  intro fuel
  induction fuel with
  | zero =>
    intro listed a w _ _ hr hy hS H
    refine ⟨fun h => (by rw [h] at hr; cases hr), fun j hj => ?_⟩
    by_cases hji : j = i
    · subst hji; exact hy.wpOp hi hS ⟨fun _ => hS, H⟩
    · have := ready_mono hj hji
      rw [H.1] at this
      cases this
  | succ fuel ih =>
    intro listed a w hcl hfree hr hy hS H
    refine ⟨fun h => (by rw [h] at hr; cases hr), fun j hj => ?_⟩
    by_cases hji : j = i
    · subst hji; exact hy.wpOp hi hS ⟨fun _ => hS, H⟩
    · have h1 := H.2 j (ready_mono hj hji)
      obtain ⟨hjun, oj, hoj, hall⟩ := mem_ready.1 hj
      have hnot : ∀ e ∈ oj.after, Region.binds md e = true → e.on ≠ i := fun e he hb heq => by
        have h1 := hall e he hb
        have h0 := (mem_ready.1 hr).1
        rw [heq] at h1
        rcases Nat.lt_or_ge i listed.size with h' | h'
        · simp [h'] at h0 h1; rw [h0] at h1; cases h1
        · simp [Array.getElem?_eq_none h'] at h1
      have hlate : waitsAll md ops E j = false := by
        cases hw : waitsAll md ops E j with
        | false => rfl
        | true =>
          exfalso
          simp only [waitsAll, List.all_eq_true] at hw
          have hl := waitsFor_listed hcl i _ j (fun o ho => by rw [hoj] at ho; cases ho; exact hall) (hw i hE)
          have h0 := (mem_ready.1 hr).1
          rcases Nat.lt_or_ge i listed.size with h' | h'
          · simp [h'] at h0 hl; rw [h0] at hl; cases hl
          · simp [Array.getElem?_eq_none h'] at hl
      have h2 := wpOp_putIf hoj (hfree j oj hoj hji hjun hnot) (fun cs b => hsel i oi cs b hi) (fun cs b => hsel j oj cs b hoj) hQ hy h1
      have hfree' : ∀ k ok, ops[k]? = some ok → k ≠ i → (listed.setIfInBounds j true).getD k true = false →
          (∀ e ∈ ok.after, Region.binds md e = true → e.on ≠ i) → oi.apart ops ok = true := fun k ok hk hki hun hno => by
        refine hfree k ok hk hki ?_ hno
        by_cases hjk : j = k
        · subst hjk; exact hjun
        · rw [getD_set_ne true hjk] at hun; exact hun
      refine wpOp_mono (fun a' w' h3 => ⟨h3.2.1, ih (listed.setIfInBounds j true) a' w' (hcl.set hj) hfree' (ready_mono hr (Ne.symm hji)) h3.1 (h3.2.1 hlate) ?_⟩) h2
      rw [Array.setIfInBounds_comm _ _ hji]
      exact h3.2.2

/-- The orders in which a region is walked: one operation, or this one or one of the rest. -/
inductive Tr where
  | done
  | step (i : Nat) (t : Tr)
  | fork (i : Nat) (t : Tr) (r : Tr)
def Tr.height : Tr → Nat
  | .done => 0
  | .step _ t => t.height + 1
  | .fork _ t r => max (t.height + 1) r.height
def Tr.line : Tr → List Nat
  | .done => []
  | .step i t => i :: t.line
  | .fork i t _ => i :: t.line

/-- The walk in the orders of t. -/
def Seq (P : Program) (md : Region.Mode) (ops : Array Oper) (Q : Exit → Act → World → Prop) (S : World → Prop) (E : List Nat) : Tr → Act → World → Prop
  | .done, a, w => Q .normal a w
  | .step i t, a, w =>
    if E.contains i then ∃ o v, ops[i]? = some o ∧ YieldsIf P ops S o v a ∧ S w ∧ (∀ c a w, Q (.panic c) (a.put o.dst v) w → Q (.panic c) a w) ∧ Seq P md ops Q S E t (a.put o.dst v) w
    else wpOp P ops Q i (fun a' w' => (waitsAll md ops E i = false → S w') ∧ Seq P md ops Q S E t a' w') a w
  | .fork i t r, a, w => wpOp P ops Q i (fun a' w' => (waitsAll md ops E i = false → S w') ∧ Seq P md ops Q S E t a' w') a w ∧ Seq P md ops Q S E r a w

/-- Are these all the orders? (pend: those that the fork has named already) -/
def seqOk (md : Region.Mode) (ops : Array Oper) (E : List Nat) : List Nat → Array Bool → Tr → Bool
  | pend, listed, .done => pend == [] && Region.ready md ops listed == []
  | pend, listed, .step i t =>
    if E.contains i then pend == [] && Region.free md ops listed i && (Region.ready md ops listed).contains i && seqOk md ops E [] (listed.setIfInBounds i true) t
    else ((Region.ready md ops listed).all fun j => (i :: pend).contains j) && (Region.ready md ops listed).contains i && seqOk md ops E [] (listed.setIfInBounds i true) t
  | pend, listed, .fork i t r => (Region.ready md ops listed).contains i && seqOk md ops E [] (listed.setIfInBounds i true) t && seqOk md ops E (i :: pend) listed r

theorem wpAnyL_of_seq (hs : Region.noSelect ops = true) : ∀ (t : Tr) (pend : List Nat) (fuel : Nat) (listed : Array Bool) (a : Act) (w : World), Closed md ops listed → t.height ≤ fuel → seqOk md ops E pend listed t = true → Seq P md ops Q S E t a w →
    (∀ f j, fuel = f + 1 → j ∈ pend → wpOp P ops Q j (fun a' w' => (waitsAll md ops E j = false → S w') ∧ wpAnyL P md ops Q S E f (listed.setIfInBounds j true) a' w') a w) →
    wpAnyL P md ops Q S E fuel listed a w := by
  intro t
  induction t with
  | done =>
    intro pend fuel listed a w _ _ hok h _
    have hr : Region.ready md ops listed = [] := by simp only [seqOk, Bool.and_eq_true] at hok; simpa using hok.2
    cases fuel with
    | zero => exact ⟨hr, h⟩
    | succ f => exact ⟨fun _ => h, by rw [hr]; simp⟩
  | step i t ih =>
    intro pend fuel listed a w hcl hf hok h hp
    obtain ⟨f, rfl⟩ : ∃ f, fuel = f + 1 := ⟨fuel - 1, by simp only [Tr.height] at hf; omega⟩
    have hl : t.height ≤ f := by simp only [Tr.height] at hf; omega
    unfold seqOk at hok
    unfold Seq at h
    by_cases hE : E.contains i = true
    · rw [if_pos hE] at hok h
      obtain ⟨o, v, ho, hy, hS, hQ, h⟩ := h
      simp only [Bool.and_eq_true] at hok
      have hrd : i ∈ Region.ready md ops listed := by simpa using hok.1.2
      exact wpAnyL_first (by simpa using hE) ho (Region.noSelect_spec hs) hQ f listed a w hcl (Region.free_spec ho hok.1.1.2) hrd hy hS (ih [] f _ _ _ (hcl.set hrd) hl hok.2 h (fun _ _ _ hm => by simp at hm))
    · rw [if_neg hE] at hok h
      simp only [Bool.and_eq_true] at hok
      have hrd : i ∈ Region.ready md ops listed := by simpa using hok.1.2
      refine ⟨fun h0 => (by rw [h0] at hrd; cases hrd), fun j hj => ?_⟩
      have hin := List.all_eq_true.1 hok.1.1 j hj
      simp only [List.contains_eq_mem, List.mem_cons, decide_eq_true_eq] at hin
      rcases hin with rfl | hin
      · exact wpOp_mono (fun a' w' h' => ⟨h'.1, ih [] f _ a' w' (hcl.set hrd) hl hok.2 h'.2 (fun _ _ _ hm => by simp at hm)⟩) h
      · exact hp f j rfl hin
  | fork i t r iht ihr =>
    intro pend fuel listed a w hcl hf hok h hp
    have hft : t.height + 1 ≤ fuel := by simp only [Tr.height] at hf; omega
    have hfr : r.height ≤ fuel := by simp only [Tr.height] at hf; omega
    unfold seqOk at hok
    unfold Seq at h
    simp only [Bool.and_eq_true] at hok
    have hrd : i ∈ Region.ready md ops listed := by simpa using hok.1.1
    refine ihr (i :: pend) fuel listed a w hcl hfr hok.2 h.2 fun f j hfj hj => ?_
    subst hfj
    rcases List.mem_cons.1 hj with rfl | hj
    · exact wpOp_mono (fun a' w' h' => ⟨h'.1, iht [] f _ a' w' (hcl.set hrd) (by omega) hok.1.2 h'.2 (fun _ _ _ hm => by simp at hm)⟩) h.1
    · exact hp f j rfl hj

/-- **A region that draws, in the orders of l.** -/
theorem wp_region_seq {id : Nat} {a : Act} {w : World} (S : World → Prop) (E : List Nat) (l : Tr) (hm : P.follows .mixedOrders = true) (hs : Region.noSelect ops = true)
    (hl : decide (l.height ≤ ops.size) = true) (hok : seqOk .any ops E [] (Array.replicate ops.size false) l = true) (h : Seq P .any ops Q S E l a w.drew) : (Code.region id ops true).wp P Q a w :=
  wp_region_any hm (wpAny_of_L _ _ _ _ (wpAnyL_of_seq hs l [] _ _ a w.drew (closed_start _) (by simpa using hl) hok h (fun _ _ _ hm => by simp at hm)))

/-- The world behind the draw is a letter of its own. -/
theorem wp_region_seqV {id : Nat} {a : Act} {w : World} (S : World → Prop) (E : List Nat) (l : Tr) (hm : P.follows .mixedOrders = true) (hs : Region.noSelect ops = true)
    (hl : decide (l.height ≤ ops.size) = true) (hok : seqOk .any ops E [] (Array.replicate ops.size false) l = true) (h : ∀ V : World, Below w.heap.size w V → V.heap.size = w.heap.size → Seq P .any ops Q S E l a V) : (Code.region id ops true).wp P Q a w :=
  wp_region_seq S E l hm hs hl hok (h w.drew ((Below.refl _ _).drew) rfl)

theorem wpOps_of_seq : ∀ (l : Tr) (a : Act) (w : World), Seq P md ops Q S E l a w → wpOps P ops Q l.line a w := by
  intro l
  induction l with
  | done => intro a w h; exact h
  | step i l ih =>
    intro a w h
    simp only [Tr.line]
    rw [wpOps_cons]
    unfold Seq at h
    by_cases hE : E.contains i = true
    · rw [if_pos hE] at h
      obtain ⟨o, v, ho, hy, hS, _, h⟩ := h
      exact hy.wpOp ho hS (ih _ _ h)
    · rw [if_neg hE] at h
      exact wpOp_mono (fun a' w' h' => ih _ _ h'.2) h
  | fork i l r ih _ =>
    intro a w h
    simp only [Tr.line]
    rw [wpOps_cons]
    unfold Seq at h
    exact wpOp_mono (fun a' w' h' => ih _ _ h'.2) h.1

/-- A region in the text's order, by the same steps. -/
theorem wp_region_lin {id : Nat} {a : Act} {w : World} (S : World → Prop) (E : List Nat) (l : Tr) (hl : List.range ops.size = l.line) (h : Seq P .any ops Q S E l a w) : (Code.region id ops false).wp P Q a w :=
  wp_region (by rw [hl]; exact wpOps_of_seq l a w h)

theorem seq_late {b : Bool} {p : Prop} (h : b = true) : b = false → p := fun h' => by rw [h] at h'; cases h'

/-- An early operation. -/
theorem seq_take {i : Nat} {l : Tr} {o : Oper} {v : Value} {a : Act} {w : World} (hE : E.contains i = true) (ho : ops[i]? = some o) (hS : S w)
    (hQ : ∀ c a w, Q (.panic c) (a.put o.dst v) w → Q (.panic c) a w) (hy : YieldsIf P ops S o v a) (h : Seq P md ops Q S E l (a.put o.dst v) w) : Seq P md ops Q S E (.step i l) a w := by
  unfold Seq
  rw [if_pos hE]
  exact ⟨o, v, ho, hy, hS, hQ, h⟩
/-- One of several that may come up. -/
theorem seq_fork {i : Nat} {t r : Tr} {a : Act} {w : World} (hE : E.contains i = false) (h : Seq P md ops Q S E (.step i t) a w) (h' : Seq P md ops Q S E r a w) : Seq P md ops Q S E (.fork i t r) a w := by
  unfold Seq at h
  rw [if_neg (by rw [hE]; simp)] at h
  unfold Seq
  exact ⟨h, h'⟩
end
attribute [irreducible] Seq
end Cps
