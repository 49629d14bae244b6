/- A range over an iterator, on what is held. -/
import Derived.Test.YtklnjhlidfclmaaGreatDoorKd
import Derived.RangeFuncWrites
set_option linter.unusedVariables false
namespace Cps
open Go Go.RowKit

section
variable {P : Program} {Q : Exit → Act → World → Prop} {w W₀ u : World} {G : List Nat} {X : Nat → Prop} {L L' : List Cell} {F F' : List Fa} {a : Act}

theorem Stay.trans {X : Nat → Prop} {a b c : World} (h : Stay X a b) (k : Stay X b c) : Stay X a c := ⟨fun i cs t fr hi hx => k.at_ i cs t fr (h.at_ i cs t fr hi hx) hx⟩
theorem Mem.kept (h : Mem w G X W₀ L F) (k : Mem W₀ (L.map Cell.g) X u L' F') (B : Nat) : KeepsFrom B W₀ u :=
  ⟨k.upd.size, fun j o _ hj ho => (k.upd.block j (Array.getElem?_eq_some_iff.1 hj).1 fun hm => by
    obtain ⟨c, hc, rfl⟩ := List.mem_map.1 hm
    obtain ⟨cs, t, fr, h1⟩ := (h.ok c hc).cells
    rw [hj] at h1; cases h1; cases ho).trans hj⟩
theorem Mem.stays (h : Mem w G X W₀ L F) (k : Mem W₀ (L.map Cell.g) X u L' F') : Stay (fun i => (X i ∨ i ∈ G) ∨ w.heap.size ≤ i) W₀ u :=
  ⟨fun i cs t fr hi hx => (k.upd.block i (lt_of_at hi) fun hm => by
    obtain ⟨c, hc, rfl⟩ := List.mem_map.1 hm
    rcases h.new c hc with h1 | h1
    · exact hx (.inr h1)
    · exact hx (.inl (.inr h1))).trans hi⟩

/-- **A range over an iterator.** I: what holds when so many have come. -/
theorem CG.range {α : Type} {n : Nat} {g : Operand} {ps : Array Tmp} {assign body : Code} {gf : Nat} {lb : Array Value} {encs : α → Array Value} {N : Nat} {S : List α → Prop} {Sp : List α → Prop} (a₁ : α → Act)
    (hit : ∀ u, Mem w G X u L F → a.eval g = .func (.func gf) #[] lb ∧ ∀ m, SeqStopsK Fence.wide m P gf lb encs (Stay (fun k => av X L k ∨ u.heap.size ≤ k)) S Sp N u)
    (eg : ∀ args w, (callFunc gf args).run P w = .ok (.enter gf args) w) (hps : ∀ x, (encs x).size = ps.size) (hd : a.defers = [])
    (hassign : ∀ (l : Nat) (x : α) (W : World) (K : Act → World → Prop), K (a₁ x) W → assign.wpIn (Fence.wide.inRound l) n P (Exit.then K (fun _ _ _ => False)) { tmps := (ps.zip (encs x)).foldl (fun t (p, v) => t.setIfInBounds p v) a.tmps, defers := [] } W)
    (hmain : ∀ u, Mem w G X u L F → ∃ I : List α → World → Prop,
      (∀ s W W' row, I s W → W.grownBy W' row → (∀ r, row = some r → u.heap.size ≤ r ∧ ∃ o : Obj, W.heap[r]? = some o ∧ o.isCells = false) → I s W') ∧ I [] u ∧
      (∀ (l : Nat) (pre : List α) (x : α) (W : World), I pre W → pre.length < N → body.wpIn (Fr (some l)) n P (fun e a' u' => e = .normal ∧ (KeepsFrom u.heap.size W u' ∧ Stay (fun k => (X k ∨ k ∈ L.map Cell.g) ∨ u.heap.size ≤ k) W u') ∧ I (pre ++ [x]) u') (a₁ x) W) ∧
      (∀ (D : Nat) (xs : List α) (W : World), u.heap.size ≤ D → S xs → I xs W → W.heap[D]? = some (.deferred (some [])) → Q .normal { tmps := a.tmps, defers := [{ target := .collected D, args := #[] }] } W)) :
    CG (some (none, n + 1 + 1)) P (.rangeFunc g ps assign body) Q a w G X L F := by
  unfold CG
  intro u hM
  obtain ⟨hg, hseq⟩ := hit u hM
  obtain ⟨I, hI, h0, hbody, hdone⟩ := hmain u hM
  refine wpIn_rangeFunc_ownG (F := Fr none) (n := n + 1 + 1) (w0 := u) rfl (by omega) hg trivial eg (Kp := Stay (fun k => av X L k ∨ u.heap.size ≤ k)) (hseq (n + 1 + 1 - 1)) (fun h k => h.trans k) ?_ (Below.refl _ _) hps I (fun _ _ _ => False) hI (fun _ _ _ _ _ h _ _ => h) h0 a₁ hassign ?_ ?_ ?_
  · intro W l o o' hl ho hoc _
    refine ⟨fun k cs t fr hk hx => ?_⟩
    have hne : k ≠ l := fun e => by subst e; rw [ho] at hk; cases hk; cases hoc
    exact (World.putObj_heap_other hne).trans hk
  · intro l pre x W hi hlen
    refine wpIn_mono (hbody l pre x W hi hlen) ?_
    rintro e a' u' ⟨rfl, ⟨hk, hs⟩, hi'⟩
    exact ⟨hk, hs, hi'⟩
  · intro D xs W hD hS hi hk
    rw [hd]
    exact hdone D xs W hD hS hi hk
  · intro D c pre W _ _ h _
    exact h.elim

theorem CG.goN {M : Mode} {c : Code} {u : World} (hM : Mem w G X u L F) (hN : NoOut Q) (h : NoOut Q → CG M P c Q a w G X L F) : W M P c Q a u := by
  have h := h hN
  unfold CG at h
  exact h u hM
theorem Mem.turned {D : Nat} {o' : Obj} (hM : Mem w G X u L F) (hD : w.heap.size ≤ D) (hk : ∃ o : Obj, u.heap[D]? = some o ∧ o.isCells = false) : Mem w G X (u.putObj D o') L F :=
  hM.walk (grownBy_putObj' u D o') fun r e => by cases e; exact ⟨hD, hk⟩
/-- A function that held such a loop returns. -/
theorem QG.retM {fn : Func} {R : Ending → World → Prop} {v : Value} {n D : Nat} {L₁ : List Cell} {F₁ : List Fa} (hM₁ : Mem w G X W₀ L₁ F₁) (hD : w.heap.size ≤ D) (hK : W₀.heap[D]? = some (.deferred (some [])))
    (hr : ∀ u, Mem w G X u L F → (results fn a.tmps).run P u = .ok v u) (h : ∀ u, Mem w G X u L F → R (.returned v) u) (hd : a.defers = [{ target := .collected D, args := #[] }] := by rfl) :
    QG (bodyPostM (Fr none) n P fn R) .ret a W₀ (L₁.map Cell.g) X L F := by
  unfold QG
  intro u hM
  have hkD : u.heap[D]? = some (.deferred (some [])) := (hM.upd.block D (Array.getElem?_eq_some_iff.1 hK).1 fun hm => by
    obtain ⟨c, hc, rfl⟩ := List.mem_map.1 hm
    obtain ⟨cs, t, fr, h1⟩ := (hM₁.ok c hc).cells
    rw [hK] at h1; cases h1).trans hK
  have h2 := (hM₁.rounded hM).turned (o' := .deferred none) hD ⟨_, hkD, rfl⟩
  show LeavesInM (Fr none) n P fn a.tmps R a.defers .returning u
  rw [hd]
  exact ⟨by simp, .inl ⟨D, _, rfl, run_takeDeferred hkD, v, hr _ h2, h _ h2⟩⟩
theorem calls_ofM {f : FuncId} {fn : Func} {c : Code} {args tm : Array Value} {R : Ending → World → Prop} {N : Nat} (hM : Mem w G X w L F) (hf : P.funcs[f]? = some fn) (hn : fn.ntmps = N) (hN : ∀ (a : Act) w', ¬ R .outgrown w') (h : NoOut (bodyPostM (Fr none) 4 P fn R) → CG (some (none, 4)) P c (bodyPostM (Fr none) 4 P fn R) ⟨tm, []⟩ w G X L F) (hb : fn.body = some c := by rfl)
    (ht : args ++ Array.replicate (N - args.size) undef = tm := by simp only [List.size_toArray, List.length_cons, List.length_nil, Nat.reduceAdd, Nat.reduceSub, Array.replicate_succ, Array.replicate_zero, List.push_toArray, List.append_toArray, List.nil_append, List.cons_append]; rfl) : Calls P f args w R :=
  (callsIn_wide (n := 4)).1 (callsIn_of_wp_marks (F := Fr none) hf hb trivial (by rw [hn, ht]; have h := h hN; unfold CG at h; exact h w hM) rfl)
end
end Cps
