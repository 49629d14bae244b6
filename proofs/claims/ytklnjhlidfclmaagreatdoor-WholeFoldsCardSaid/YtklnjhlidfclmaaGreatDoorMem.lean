/- What a function holds: the cells that are its own, and facts on memory that nobody writes any more. One word for all of it, and what each step does to it. -/
import Derived.Test.YtklnjhlidfclmaaGreatDoorMode
import Derived.RangeFuncOwn
set_option linter.unusedVariables false
namespace Cps
open Go Go.RowKit

/-- Cells outside of X stay. -/
structure Stay (X : Nat → Prop) (w w' : World) : Prop where
  at_ : ∀ (k : Nat) (cs : Array Value) (t : TypeId) (fr : Nat × Nat), w.heap[k]? = some (.cells cs t fr) → ¬ X k → w'.heap[k]? = some (.cells cs t fr)
theorem Stay.of_block {X : Nat → Prop} {w w' : World} (h : ∀ k, k < w.heap.size → ¬ X k → w'.heap[k]? = w.heap[k]?) : Stay X w w' := ⟨fun k cs t fr hk hx => (h k (lt_of_at hk) hx).trans hk⟩

/-- A kind of values: how a value lies in memory, outside of X; and that it stays so. -/
structure Kd (α : Type) where
  R : (Nat → Prop) → World → List Value → α → Prop
  st : ∀ {X X' : Nat → Prop} {w w' : World} {cs : List Value} {x : α}, R X w cs x → Stay X w w' → (∀ k, k < w.heap.size → X' k → X k) → R X' w' cs x

/-- A fact. -/
structure Fa where
  {α : Type}
  k : Kd α
  cs : List Value
  x : α

inductive Cell where
  | box (g : Nat) (cs : Array Value) (T : TypeId)
  | own (g : Nat) (e : TypeId) (n c : Nat) (xs : List Value)
def Cell.g : Cell → Nat
  | .box g _ _ => g
  | .own g _ _ _ _ => g
def Cell.ok (u : World) : Cell → Prop
  | .box g cs T => u.heap[g]? = some (.cells cs T (0, 0))
  | .own g e n c xs => Own e u g n c xs
theorem Cell.ok.lt {u : World} {c : Cell} (h : c.ok u) : c.g < u.heap.size := by
  cases c with
  | box g cs T => exact lt_of_at h
  | own g e n c xs => exact Own.lt h
theorem Cell.ok.move {u u' : World} {c : Cell} (h : c.ok u) (hb : u'.heap[c.g]? = u.heap[c.g]?) : c.ok u' := by
  cases c with
  | box g cs T => exact hb.trans h
  | own g e n c xs => exact Own.trans hb h
theorem Cell.ok.cells {u : World} {c : Cell} (h : c.ok u) : ∃ cs t fr, u.heap[c.g]? = some (.cells cs t fr) := by
  cases c with
  | box g cs T => exact ⟨_, _, _, h⟩
  | own g e n c xs => obtain ⟨cur, h1, _⟩ := Own.at_ h; exact ⟨_, _, _, h1⟩

/-- The blocks that facts keep away from. -/
def av (X : Nat → Prop) (L : List Cell) (k : Nat) : Prop := X k ∨ k ∈ L.map Cell.g

/-- The call began in w and may write G of it; X is somebody else's; now the world is u: L is the call's own, F are facts. -/
structure Mem (w : World) (G : List Nat) (X : Nat → Prop) (u : World) (L : List Cell) (F : List Fa) : Prop where
  upd : Upd G w u
  new : ∀ c, c ∈ L → w.heap.size ≤ c.g ∨ c.g ∈ G
  ok : ∀ c, c ∈ L → c.ok u
  nd : (L.map Cell.g).Nodup
  lt : ∀ k, X k → k < w.heap.size
  ap : ∀ k, X k → k ∉ G
  fct : ∀ f, f ∈ F → f.k.R (av X L) u f.cs f.x

theorem Kd.less {α : Type} (k : Kd α) {X X' : Nat → Prop} {w : World} {cs : List Value} {x : α} (h : k.R X w cs x) (hX : ∀ i, i < w.heap.size → X' i → X i) : k.R X' w cs x := k.st h ⟨fun _ _ _ _ h _ => h⟩ hX

section
variable {w u u' : World} {G : List Nat} {X : Nat → Prop} {L : List Cell} {F : List Fa}

/-- No one holds anything yet. -/
theorem Mem.start (hX : ∀ k, X k → k < w.heap.size) : Mem w [] X w [] [] := ⟨Upd.refl w, fun _ h => by simp at h, fun _ h => by simp at h, by simp, hX, fun _ _ => by simp, fun _ h => by simp at h⟩
/-- A row that was handed in to be written. -/
theorem Mem.startOwn {g e n c : Nat} {xs : List Value} (hX : ∀ k, X k → k < w.heap.size) (hg : ¬ X g) (hO : Own e w g n c xs) : Mem w [g] X w [.own g e n c xs] [] :=
  ⟨Upd.self _ w, fun c h => by simp at h; subst h; simp [Cell.g], fun c h => by simp at h; subst h; exact hO, by simp, hX, fun k hk e => by simp at e; subst e; exact hg hk, fun _ h => by simp at h⟩
theorem Mem.add {α : Type} {k : Kd α} {cs : List Value} {x : α} (hM : Mem w G X u L F) (h : k.R (av X L) u cs x) : Mem w G X u L (⟨k, cs, x⟩ :: F) :=
  ⟨hM.upd, hM.new, hM.ok, hM.nd, hM.lt, hM.ap, fun f hf => by
    rcases List.mem_cons.1 hf with rfl | hf
    · exact h
    · exact hM.fct f hf⟩
theorem Mem.add0 {α : Type} {k : Kd α} {cs : List Value} {x : α} (hM : Mem w G X u [] F) (h : k.R X u cs x) : Mem w G X u [] (⟨k, cs, x⟩ :: F) :=
  hM.add (k.less h fun i _ hi => by simpa [av] using hi)
theorem Mem.clr (hM : Mem w G X u L F) : Mem w G X u L [] := ⟨hM.upd, hM.new, hM.ok, hM.nd, hM.lt, hM.ap, fun _ h => by simp at h⟩
theorem Mem.avlt (hM : Mem w G X u L F) : ∀ k, av X L k → k < u.heap.size := fun k hk => by
  rcases hk with hk | hk
  · exact Nat.lt_of_lt_of_le (hM.lt k hk) hM.upd.size
  · obtain ⟨c, hc, rfl⟩ := List.mem_map.1 hk; exact (hM.ok c hc).lt
/-- Fact number i. -/
theorem Mem.f {α : Type} {k : Kd α} {cs : List Value} {x : α} (hM : Mem w G X u L F) (i : Nat) (h : F[i]? = some ⟨k, cs, x⟩) : k.R (av X L) u cs x := hM.fct ⟨k, cs, x⟩ (List.mem_of_getElem? h)
theorem Mem.out {α : Type} {k : Kd α} {cs : List Value} {x : α} (hM : Mem w G X u L F) (h : k.R (av X L) u cs x) : k.R X u cs x := k.less h fun _ _ h => .inl h
/-- Cell number i. -/
theorem Mem.b {g T : Nat} {cs : Array Value} (hM : Mem w G X u L F) (i : Nat) (h : L[i]? = some (.box g cs T)) : u.heap[g]? = some (.cells cs T (0, 0)) := hM.ok (.box g cs T) (List.mem_of_getElem? h)
theorem Mem.o {g e n c : Nat} {xs : List Value} (hM : Mem w G X u L F) (i : Nat) (h : L[i]? = some (.own g e n c xs)) : Own e u g n c xs := hM.ok (.own g e n c xs) (List.mem_of_getElem? h)
theorem Mem.below (hM : Mem w [] X u L F) : Below w.heap.size w u :=
  ⟨hM.upd.os, hM.upd.tape, hM.upd.output, hM.upd.size, fun k hk => hM.upd.block k hk (by simp)⟩

theorem Mem.dropn (i : Nat) (hM : Mem w G X u L F) : Mem w G X u (L.drop i) F :=
  ⟨hM.upd, fun c h => hM.new c (List.mem_of_mem_drop h), fun c h => hM.ok c (List.mem_of_mem_drop h), by rw [List.map_drop]; exact hM.nd.sublist (List.drop_sublist _ _), hM.lt, hM.ap,
    fun f hf => f.k.less (hM.fct f hf) fun k _ hk => hk.imp id fun hk => by rw [List.map_drop] at hk; exact List.mem_of_mem_drop hk⟩

theorem Upd.below1 {G : List Nat} (h : Upd G w u) (b : Below u.heap.size u u') : Upd G w u' := h.call b
theorem Mem.call (hM : Mem w G X u L F) (b : Below u.heap.size u u') : Mem w G X u' L F :=
  ⟨hM.upd.call b, hM.new, fun c hc => (hM.ok c hc).move (b.block _ (hM.ok c hc).lt), hM.nd, hM.lt, hM.ap,
    fun f hf => f.k.st (hM.fct f hf) (Stay.of_block fun k hk _ => b.block k hk) fun _ _ h => h⟩
theorem Mem.call1 {α : Type} {k : Kd α} {cs : List Value} {x : α} (hM : Mem w G X u L F) (b : Below u.heap.size u u') (h : k.R (av X L) u' cs x) : Mem w G X u' L (⟨k, cs, x⟩ :: F) := (hM.call b).add h
theorem Mem.call2 {α β : Type} {k : Kd α} {cs : List Value} {x : α} {k' : Kd β} {cs' : List Value} {x' : β} (hM : Mem w G X u L F) (b : Below u.heap.size u u') (h : k.R (av X L) u' cs x) (h' : k'.R (av X L) u' cs' x') : Mem w G X u' L (⟨k', cs', x'⟩ :: ⟨k, cs, x⟩ :: F) := ((hM.call b).add h).add h'

/-- A new cell. -/
theorem Mem.newCell (c : Cell) {ob : Obj} (hM : Mem w G X u L F) (hm : Made u c.g ob u') (hc : c.ok u') : Mem w G X u' (c :: L) F :=
  ⟨hM.upd.made hm, fun d hd => by
    rcases List.mem_cons.1 hd with rfl | hd
    · exact .inl (Nat.le_trans hM.upd.size hm.ge)
    · exact hM.new d hd,
   fun d hd => by
    rcases List.mem_cons.1 hd with rfl | hd
    · exact hc
    · exact (hM.ok d hd).move (hm.block _ (hM.ok d hd).lt),
   by
    rw [List.map_cons, List.nodup_cons]
    refine ⟨fun h => ?_, hM.nd⟩
    obtain ⟨d, hd, e⟩ := List.mem_map.1 h
    have h1 := (hM.ok d hd).lt
    have h2 := hm.ge
    rw [e] at h1; exact absurd h1 (Nat.not_lt.2 h2),
   hM.lt, hM.ap, fun f hf => f.k.st (hM.fct f hf) (Stay.of_block fun k hk _ => hm.block k hk) fun k hk h => by
    rcases h with h | h
    · exact .inl h
    · rcases List.mem_cons.1 h with h | h
      · have := hm.ge; omega
      · exact .inr h⟩
theorem Mem.box {g : Nat} {cs : Array Value} {T : TypeId} (hM : Mem w G X u L F) (hm : Made u g (.cells cs T) u') : Mem w G X u' (.box g cs T :: L) F := hM.newCell (.box g cs T) hm hm.at_
theorem Mem.row {g e n c : Nat} {xs : List Value} {ob : Obj} (hM : Mem w G X u L F) (hm : Made u g ob u') (hO : Own e u' g n c xs) : Mem w G X u' (.own g e n c xs :: L) F := hM.newCell (.own g e n c xs) hm hO
/-- A row that append made of nothing. -/
theorem Mem.grown {g e n c : Nat} {xs : List Value} (hM : Mem w G X u L F) (hg : Grew u u.heap.size g u') (hO : Own e u' g n c xs) : Mem w G X u' (.own g e n c xs :: L) F := by
  have hge : u.heap.size ≤ g := by have := hg.new; omega
  have hbl : ∀ k, k < u.heap.size → u'.heap[k]? = u.heap[k]? := fun k hk => hg.block k hk (by omega)
  exact ⟨hM.upd.grewNew hg hM.upd.size, fun d hd => by
    rcases List.mem_cons.1 hd with rfl | hd
    · exact .inl (Nat.le_trans hM.upd.size hge)
    · exact hM.new d hd,
   fun d hd => by
    rcases List.mem_cons.1 hd with rfl | hd
    · exact hO
    · exact (hM.ok d hd).move (hbl _ (hM.ok d hd).lt),
   by
    rw [List.map_cons, List.nodup_cons]
    refine ⟨fun h => ?_, hM.nd⟩
    obtain ⟨d, hd, e⟩ := List.mem_map.1 h
    have h1 := (hM.ok d hd).lt
    rw [show d.g = g from e] at h1; omega,
   hM.lt, hM.ap, fun f hf => f.k.st (hM.fct f hf) (Stay.of_block fun k hk _ => hbl k hk) fun k hk h => by
    rcases h with h | h
    · exact .inl h
    · rcases List.mem_cons.1 h with h | h
      · simp only [Cell.g] at h; omega
      · exact .inr h⟩

/-- A cell that is turned, or makes place for a newer one. -/
theorem Mem.turn1 {L₁ L₂ : List Cell} {c c' : Cell} (hM : Mem w G X u (L₁ ++ c :: L₂) F) (hU : ∀ {G' : List Nat}, (w.heap.size ≤ c.g ∨ c.g ∈ G') → Upd G' w u → Upd G' w u') (hb : ∀ k, k < u.heap.size → k ≠ c.g → u'.heap[k]? = u.heap[k]?) (hg : c'.g = c.g ∨ u.heap.size ≤ c'.g) (hc : c'.ok u') : Mem w G X u' (L₁ ++ c' :: L₂) F := by
  have hcm : c ∈ L₁ ++ c :: L₂ := by simp
  have hnd := hM.nd
  simp only [List.map_append, List.map_cons] at hnd
  have hnd' := List.nodup_append.1 hnd
  have hne : ∀ d, d ∈ L₁ ∨ d ∈ L₂ → d.g ≠ c.g := by
    rintro d (hd | hd) e
    · exact hnd'.2.2 d.g (List.mem_map_of_mem hd) c.g (by simp) e
    · have := (List.nodup_cons.1 hnd'.2.1).1
      exact this (e ▸ List.mem_map_of_mem hd)
  have hmem : ∀ d, d ∈ L₁ ∨ d ∈ L₂ → d ∈ L₁ ++ c :: L₂ := by
    rintro d (hd | hd) <;> simp [hd]
  have hlt : ∀ d, d ∈ L₁ ∨ d ∈ L₂ → d.g < u.heap.size := fun d hd => (hM.ok d (hmem d hd)).lt
  have hcl := (hM.ok c hcm).lt
  have split : ∀ d, d ∈ L₁ ++ c' :: L₂ → d = c' ∨ (d ∈ L₁ ∨ d ∈ L₂) := by
    intro d hd
    simp only [List.mem_append, List.mem_cons] at hd
    rcases hd with hd | rfl | hd
    · exact .inr (.inl hd)
    · exact .inl rfl
    · exact .inr (.inr hd)
  have hne' : ∀ d, d ∈ L₁ ∨ d ∈ L₂ → d.g ≠ c'.g := fun d hd e => by
    rcases hg with hg | hg
    · exact hne d hd (e.trans hg)
    · have := hlt d hd; omega
  have hupd := hU (G' := G) (hM.new c hcm) hM.upd
  refine ⟨hupd, fun d hd => ?_, fun d hd => ?_, ?_, hM.lt, hM.ap, fun f hf => ?_⟩
  · rcases split d hd with rfl | hd
    · rcases hg with hg | hg
      · rw [hg]; exact hM.new c hcm
      · exact .inl (Nat.le_trans hM.upd.size hg)
    · exact hM.new d (hmem d hd)
  · rcases split d hd with rfl | hd
    · exact hc
    · exact (hM.ok d (hmem d hd)).move (hb _ (hlt d hd) (hne d hd))
  · simp only [List.map_append, List.map_cons]
    refine List.nodup_append.2 ⟨hnd'.1, List.nodup_cons.2 ⟨fun h => ?_, (List.nodup_cons.1 hnd'.2.1).2⟩, ?_⟩
    · obtain ⟨d, hd, e⟩ := List.mem_map.1 h
      exact hne' d (.inr hd) e
    · intro x hx y hy e
      rcases List.mem_cons.1 hy with rfl | hy
      · obtain ⟨d, hd, e2⟩ := List.mem_map.1 hx
        exact hne' d (.inl hd) (e2.trans e)
      · exact hnd'.2.2 x hx y (List.mem_cons_of_mem _ hy) e
  · refine f.k.st (hM.fct f hf) (Stay.of_block fun k hk hx => hb k hk fun e => hx (.inr (by rw [e]; exact List.mem_map_of_mem hcm))) fun k hk h => ?_
    rcases h with h | h
    · exact .inl h
    · simp only [List.map_append, List.map_cons, List.mem_append, List.mem_cons] at h
      refine .inr ?_
      simp only [List.map_append, List.map_cons, List.mem_append, List.mem_cons]
      rcases h with h | h | h
      · exact .inl h
      · rcases hg with hg | hg
        · exact .inr (.inl (h.trans hg))
        · omega
      · exact .inr (.inr h)
/-- A cell that is given up. -/
theorem Mem.turn0 {L₁ L₂ : List Cell} {c : Cell} (hM : Mem w G X u (L₁ ++ c :: L₂) F) (hU : ∀ {G' : List Nat}, (w.heap.size ≤ c.g ∨ c.g ∈ G') → Upd G' w u → Upd G' w u') (hb : ∀ k, k < u.heap.size → k ≠ c.g → u'.heap[k]? = u.heap[k]?) : Mem w G X u' (L₁ ++ L₂) F := by
  have hcm : c ∈ L₁ ++ c :: L₂ := by simp
  have hnd := hM.nd
  simp only [List.map_append, List.map_cons] at hnd
  have hnd' := List.nodup_append.1 hnd
  have hne : ∀ d, d ∈ L₁ ∨ d ∈ L₂ → d.g ≠ c.g := by
    rintro d (hd | hd) e
    · exact hnd'.2.2 d.g (List.mem_map_of_mem hd) c.g (by simp) e
    · have := (List.nodup_cons.1 hnd'.2.1).1
      exact this (e ▸ List.mem_map_of_mem hd)
  have hmem : ∀ d, d ∈ L₁ ++ L₂ → (d ∈ L₁ ∨ d ∈ L₂) ∧ d ∈ L₁ ++ c :: L₂ := by
    intro d hd
    rcases List.mem_append.1 hd with hd | hd <;> simp [hd]
  refine ⟨hU (hM.new c hcm) hM.upd, fun d hd => hM.new d (hmem d hd).2, fun d hd => (hM.ok d (hmem d hd).2).move (hb _ (hM.ok d (hmem d hd).2).lt (hne d (hmem d hd).1)), ?_, hM.lt, hM.ap, fun f hf => ?_⟩
  · simp only [List.map_append]
    exact List.nodup_append.2 ⟨hnd'.1, (List.nodup_cons.1 hnd'.2.1).2, fun x hx y hy e => hnd'.2.2 x hx y (List.mem_cons_of_mem _ hy) e⟩
  · refine f.k.st (hM.fct f hf) (Stay.of_block fun k hk hx => hb k hk fun e => hx (.inr (by rw [e]; exact List.mem_map_of_mem hcm))) fun k hk h => h.imp id fun h => ?_
    simp only [List.map_append, List.map_cons, List.mem_append, List.mem_cons] at h ⊢
    rcases h with h | h
    · exact .inl h
    · exact .inr (.inr h)
theorem upd_at {G' : List Nat} {g : Nat} (hb : ∀ k, k < u.heap.size → k ≠ g → u'.heap[k]? = u.heap[k]?) (ho : u'.os = u.os) (ht : u'.tape = u.tape) (hp : u'.output = u.output) (hs : u.heap.size ≤ u'.heap.size) (hg : w.heap.size ≤ g ∨ g ∈ G') (h : Upd G' w u) : Upd G' w u' :=
  ⟨ho.trans h.os, ht.trans h.tape, hp.trans h.output, Nat.le_trans h.size hs, fun k hk hk' => (hb k (Nat.lt_of_lt_of_le hk h.size) (fun e => by
    subst e
    rcases hg with hg | hg
    · omega
    · exact hk' hg)).trans (h.block k hk hk')⟩
theorem Mem.st {L₁ L₂ : List Cell} {g : Nat} {cs cs' : Array Value} {T : TypeId} (hM : Mem w G X u (L₁ ++ .box g cs T :: L₂) F) (hs : Stored u g cs' T u') : Mem w G X u' (L₁ ++ .box g cs' T :: L₂) F :=
  hM.turn1 (c := .box g cs T) (c' := .box g cs' T) (fun hg h => upd_at (g := g) (fun k _ hk => hs.block k hk) hs.os hs.tape hs.output (by rw [hs.size]; exact Nat.le_refl _) hg h) (fun k _ hk => hs.block k hk) (.inl rfl) hs.at_
theorem Mem.el {L₁ L₂ : List Cell} {g n c : Nat} {e : TypeId} {xs xs' : List Value} {cs : Array Value} (hM : Mem w G X u (L₁ ++ .own g e n c xs :: L₂) F) (hs : Stored u g cs e u') (hO : Own e u' g n c xs') : Mem w G X u' (L₁ ++ .own g e n c xs' :: L₂) F :=
  hM.turn1 (c := .own g e n c xs) (c' := .own g e n c xs') (fun hg h => upd_at (g := g) (fun k _ hk => hs.block k hk) hs.os hs.tape hs.output (by rw [hs.size]; exact Nat.le_refl _) hg h) (fun k _ hk => hs.block k hk) (.inl rfl) hO
theorem Mem.gr {L₁ L₂ : List Cell} {g n c g' n' c' : Nat} {e : TypeId} {xs xs' : List Value} (hM : Mem w G X u (L₁ ++ .own g e n c xs :: L₂) F) (hs : Grew u g g' u') (hO : Own e u' g' n' c' xs') : Mem w G X u' (L₁ ++ .own g' e n' c' xs' :: L₂) F :=
  hM.turn1 (c := .own g e n c xs) (c' := .own g' e n' c' xs') (fun hg h => upd_at (g := g) hs.block hs.os hs.tape hs.output hs.size hg h) hs.block hs.new hO
theorem Mem.up {L₁ L₂ : List Cell} {g n c : Nat} {e : TypeId} {xs : List Value} (hM : Mem w G X u (L₁ ++ .own g e n c xs :: L₂) F) (hs : Upd [g] u u') : Mem w G X u' (L₁ ++ L₂) F :=
  hM.turn0 (c := .own g e n c xs) (fun hg h => upd_at (g := g) (fun k hk hne => hs.block k hk (by simpa using hne)) hs.os hs.tape hs.output hs.size hg h) (fun k hk hne => hs.block k hk (by simpa [Cell.g] using hne))
theorem Mem.pu {L₁ L₂ : List Cell} {g n c : Nat} {e : TypeId} {xs : List Value} {α : Type} {k : Kd α} {cs : List Value} {x : α} (hM : Mem w G X u (L₁ ++ .own g e n c xs :: L₂) F) (h : Own e u g n c xs → ∀ X', ¬ X' g → k.R X' u cs x) : Mem w G X u (L₁ ++ L₂) (⟨k, cs, x⟩ :: F) := by
  have h0 := hM.turn0 (u' := u) (c := .own g e n c xs) (fun _ h => h) (fun _ _ _ => rfl)
  refine h0.add (h (hM.ok (.own g e n c xs) (by simp)) _ ?_)
  rintro (hx | hx)
  · have := hM.lt g hx
    rcases hM.new (.own g e n c xs) (by simp) with h1 | h1
    · simp only [Cell.g] at h1; omega
    · exact hM.ap g hx h1
  · have hnd := hM.nd
    simp only [List.map_append, List.map_cons] at hnd hx
    have hnd' := List.nodup_append.1 hnd
    rcases List.mem_append.1 hx with hx | hx
    · exact hnd'.2.2 g hx g (by simp [Cell.g]) rfl
    · exact (List.nodup_cons.1 hnd'.2.1).1 hx
theorem Mem.cu {L₁ L₂ : List Cell} {g n c n' : Nat} {e : TypeId} {xs xs' : List Value} (hM : Mem w G X u (L₁ ++ .own g e n c xs :: L₂) F) (h : Own e u g n c xs → Own e u g n' c xs') : Mem w G X u (L₁ ++ .own g e n' c xs' :: L₂) F :=
  hM.turn1 (c := .own g e n c xs) (c' := .own g e n' c xs') (fun _ h => h) (fun _ _ _ => rfl) (.inl rfl) (h (hM.ok (.own g e n c xs) (by simp)))

theorem Mem.gi {L₁ L₂ : List Cell} {g n c : Nat} {e : TypeId} {xs : List Value} (hM : Mem w G X u (L₁ ++ .own g e n c xs :: L₂) F) : Mem w G X u (L₁ ++ L₂) F ∧ Own e u g n c xs ∧ ¬ av X (L₁ ++ L₂) g := by
  refine ⟨hM.turn0 (u' := u) (c := .own g e n c xs) (fun _ h => h) (fun _ _ _ => rfl), hM.ok (.own g e n c xs) (by simp), ?_⟩
  rintro (hx | hx)
  · have := hM.lt g hx
    rcases hM.new (.own g e n c xs) (by simp) with h1 | h1
    · simp only [Cell.g] at h1; omega
    · exact hM.ap g hx h1
  · have hnd := hM.nd
    simp only [List.map_append, List.map_cons] at hnd hx
    have hnd' := List.nodup_append.1 hnd
    rcases List.mem_append.1 hx with hx | hx
    · exact hnd'.2.2 g hx g (by simp [Cell.g]) rfl
    · exact (List.nodup_cons.1 hnd'.2.1).1 hx
theorem Mem.gb {L₁ L₂ : List Cell} {g T : Nat} {cs : Array Value} (hM : Mem w G X u (L₁ ++ .box g cs T :: L₂) F) : Mem w G X u (L₁ ++ L₂) F ∧ u.heap[g]? = some (.cells cs T (0, 0)) ∧ ¬ av X (L₁ ++ L₂) g := by
  refine ⟨hM.turn0 (u' := u) (c := .box g cs T) (fun _ h => h) (fun _ _ _ => rfl), hM.ok (.box g cs T) (by simp), ?_⟩
  rintro (hx | hx)
  · have := hM.lt g hx
    rcases hM.new (.box g cs T) (by simp) with h1 | h1
    · simp only [Cell.g] at h1; omega
    · exact hM.ap g hx h1
  · have hnd := hM.nd
    simp only [List.map_append, List.map_cons] at hnd hx
    have hnd' := List.nodup_append.1 hnd
    rcases List.mem_append.1 hx with hx | hx
    · exact hnd'.2.2 g hx g (by simp [Cell.g]) rfl
    · exact (List.nodup_cons.1 hnd'.2.1).1 hx
theorem Mem.pb {L₁ L₂ : List Cell} {g T : Nat} {cs : Array Value} {α : Type} {k : Kd α} {ks : List Value} {x : α} (hM : Mem w G X u (L₁ ++ .box g cs T :: L₂) F) (h : Mem w G X u (L₁ ++ L₂) F → u.heap[g]? = some (.cells cs T (0, 0)) → ¬ av X (L₁ ++ L₂) g → k.R (av X (L₁ ++ L₂)) u ks x) : Mem w G X u (L₁ ++ L₂) (⟨k, ks, x⟩ :: F) :=
  hM.gb.1.add (h hM.gb.1 hM.gb.2.1 hM.gb.2.2)
theorem Mem.ne (hM : Mem w G X u L F) (i j : Nat) {c d : Cell} (hi : L[i]? = some c) (hj : L[j]? = some d) (h : i ≠ j) : c.g ≠ d.g := by
  have hnd := hM.nd
  intro e
  obtain ⟨li, hi⟩ := List.getElem?_eq_some_iff.1 hi
  obtain ⟨lj, hj⟩ := List.getElem?_eq_some_iff.1 hj
  have key := List.pairwise_iff_getElem.1 (List.nodup_iff_pairwise_ne.1 hnd)
  rcases Nat.lt_or_gt_of_ne h with h | h
  · exact key i j (by simpa using li) (by simpa using lj) h (by simp [hi, hj, e])
  · exact key j i (by simpa using lj) (by simpa using li) h (by simp [hi, hj, e])

/-- A block that is no cells turns, or blocks are made. -/
theorem Mem.walk {row : Option Nat} (hM : Mem w G X u L F) (hg : u.grownBy u' row) (hr : ∀ r, row = some r → w.heap.size ≤ r ∧ ∃ o : Obj, u.heap[r]? = some o ∧ o.isCells = false) : Mem w G X u' L F := by
  have hcell : ∀ (k : Nat) (cs : Array Value) (t : TypeId) (fr : Nat × Nat), u.heap[k]? = some (.cells cs t fr) → u'.heap[k]? = u.heap[k]? := fun k cs t fr hk => hg.block k (lt_of_at hk) fun e => by
    obtain ⟨_, o, ho, hc⟩ := hr k e.symm
    rw [hk] at ho; cases ho; cases hc
  refine ⟨⟨hg.os.trans hM.upd.os, hg.tape.trans hM.upd.tape, hg.output.trans hM.upd.output, Nat.le_trans hM.upd.size hg.size, fun k hk hG => (hg.block k (Nat.lt_of_lt_of_le hk hM.upd.size) fun e => by have := (hr k e.symm).1; omega).trans (hM.upd.block k hk hG)⟩,
    hM.new, fun c hc => ?_, hM.nd, hM.lt, hM.ap, fun f hf => f.k.st (hM.fct f hf) ⟨fun k cs t fr hk _ => (hcell k cs t fr hk).trans hk⟩ fun _ _ h => h⟩
  obtain ⟨cs, t, fr, h⟩ := (hM.ok c hc).cells
  exact (hM.ok c hc).move (hcell _ _ _ _ h)
/-- A round begins anew: what is held may be written. -/
theorem Mem.round (hM : Mem w G X u L F) : Mem u (L.map Cell.g) X u L F :=
  ⟨Upd.self _ u, fun c hc => .inr (List.mem_map_of_mem hc), hM.ok, hM.nd, fun k hk => Nat.lt_of_lt_of_le (hM.lt k hk) hM.upd.size, fun k hk e => by
    obtain ⟨c, hc, rfl⟩ := List.mem_map.1 e
    have := hM.lt _ hk
    rcases hM.new c hc with h1 | h1
    · omega
    · exact hM.ap _ hk h1, hM.fct⟩
theorem Mem.rounded {L' : List Cell} {F' : List Fa} (hM : Mem w G X u L F) (h : Mem u (L.map Cell.g) X u' L' F') : Mem w G X u' L' F' := by
  have hU : Upd G w u' := hM.upd.chain h.upd fun k hk => by
    obtain ⟨c, hc, rfl⟩ := List.mem_map.1 hk
    rcases hM.new c hc with h1 | h1
    · exact .inr h1
    · exact .inl h1
  refine ⟨hU, fun c hc => ?_, h.ok, h.nd, hM.lt, hM.ap, h.fct⟩
  rcases h.new c hc with h1 | h1
  · exact .inl (Nat.le_trans hM.upd.size h1)
  · obtain ⟨d, hd, e⟩ := List.mem_map.1 h1
    rw [← e]; exact hM.new d hd
end

section
variable {w u u' : World} {G : List Nat} {X : Nat → Prop} {L : List Cell} {F : List Fa}
theorem Mem.st0 {g : Nat} {cs cs' : Array Value} {T : TypeId} (hM : Mem w G X u (.box g cs T :: L) F) (hs : Stored u g cs' T u') : Mem w G X u' (.box g cs' T :: L) F := Mem.st (L₁ := []) hM hs
theorem Mem.pb0 {g T : Nat} {cs : Array Value} {α : Type} {k : Kd α} {ks : List Value} {x : α} (hM : Mem w G X u (.box g cs T :: L) F) (h : Mem w G X u (L) F → u.heap[g]? = some (.cells cs T (0, 0)) → ¬ av X (L) g → k.R (av X (L)) u ks x) : Mem w G X u (L) (⟨k, ks, x⟩ :: F) := Mem.pb (L₁ := []) hM h
theorem Mem.el0 {g n c : Nat} {e : TypeId} {xs xs' : List Value} {cs : Array Value} (hM : Mem w G X u (.own g e n c xs :: L) F) (hs : Stored u g cs e u') (hO : Own e u' g n c xs') : Mem w G X u' (.own g e n c xs' :: L) F := Mem.el (L₁ := []) hM hs hO
theorem Mem.gr0 {g n c g' n' c' : Nat} {e : TypeId} {xs xs' : List Value} (hM : Mem w G X u (.own g e n c xs :: L) F) (hs : Grew u g g' u') (hO : Own e u' g' n' c' xs') : Mem w G X u' (.own g' e n' c' xs' :: L) F := Mem.gr (L₁ := []) hM hs hO
theorem Mem.up0 {g n c : Nat} {e : TypeId} {xs : List Value} (hM : Mem w G X u (.own g e n c xs :: L) F) (hs : Upd [g] u u') : Mem w G X u' (L) F := Mem.up (L₁ := []) hM hs
theorem Mem.gi0 {g n c : Nat} {e : TypeId} {xs : List Value} (hM : Mem w G X u (.own g e n c xs :: L) F) : Mem w G X u (L) F ∧ Own e u g n c xs ∧ ¬ av X (L) g := Mem.gi (L₁ := []) hM
theorem Mem.pu0 {g n c : Nat} {e : TypeId} {xs : List Value} {α : Type} {k : Kd α} {cs : List Value} {x : α} (hM : Mem w G X u (.own g e n c xs :: L) F) (h : Own e u g n c xs → ∀ X', ¬ X' g → k.R X' u cs x) : Mem w G X u (L) (⟨k, cs, x⟩ :: F) := Mem.pu (L₁ := []) hM h
theorem Mem.cu0 {g n c n' : Nat} {e : TypeId} {xs xs' : List Value} (hM : Mem w G X u (.own g e n c xs :: L) F) (h : Own e u g n c xs → Own e u g n' c xs') : Mem w G X u (.own g e n' c xs' :: L) F := Mem.cu (L₁ := []) hM h
theorem Mem.st1 {c0 : Cell} {g : Nat} {cs cs' : Array Value} {T : TypeId} (hM : Mem w G X u (c0 :: .box g cs T :: L) F) (hs : Stored u g cs' T u') : Mem w G X u' (c0 :: .box g cs' T :: L) F := Mem.st (L₁ := [c0]) hM hs
theorem Mem.pb1 {c0 : Cell} {g T : Nat} {cs : Array Value} {α : Type} {k : Kd α} {ks : List Value} {x : α} (hM : Mem w G X u (c0 :: .box g cs T :: L) F) (h : Mem w G X u (c0 :: L) F → u.heap[g]? = some (.cells cs T (0, 0)) → ¬ av X (c0 :: L) g → k.R (av X (c0 :: L)) u ks x) : Mem w G X u (c0 :: L) (⟨k, ks, x⟩ :: F) := Mem.pb (L₁ := [c0]) hM h
theorem Mem.el1 {c0 : Cell} {g n c : Nat} {e : TypeId} {xs xs' : List Value} {cs : Array Value} (hM : Mem w G X u (c0 :: .own g e n c xs :: L) F) (hs : Stored u g cs e u') (hO : Own e u' g n c xs') : Mem w G X u' (c0 :: .own g e n c xs' :: L) F := Mem.el (L₁ := [c0]) hM hs hO
theorem Mem.gr1 {c0 : Cell} {g n c g' n' c' : Nat} {e : TypeId} {xs xs' : List Value} (hM : Mem w G X u (c0 :: .own g e n c xs :: L) F) (hs : Grew u g g' u') (hO : Own e u' g' n' c' xs') : Mem w G X u' (c0 :: .own g' e n' c' xs' :: L) F := Mem.gr (L₁ := [c0]) hM hs hO
theorem Mem.up1 {c0 : Cell} {g n c : Nat} {e : TypeId} {xs : List Value} (hM : Mem w G X u (c0 :: .own g e n c xs :: L) F) (hs : Upd [g] u u') : Mem w G X u' (c0 :: L) F := Mem.up (L₁ := [c0]) hM hs
theorem Mem.gi1 {c0 : Cell} {g n c : Nat} {e : TypeId} {xs : List Value} (hM : Mem w G X u (c0 :: .own g e n c xs :: L) F) : Mem w G X u (c0 :: L) F ∧ Own e u g n c xs ∧ ¬ av X (c0 :: L) g := Mem.gi (L₁ := [c0]) hM
theorem Mem.pu1 {c0 : Cell} {g n c : Nat} {e : TypeId} {xs : List Value} {α : Type} {k : Kd α} {cs : List Value} {x : α} (hM : Mem w G X u (c0 :: .own g e n c xs :: L) F) (h : Own e u g n c xs → ∀ X', ¬ X' g → k.R X' u cs x) : Mem w G X u (c0 :: L) (⟨k, cs, x⟩ :: F) := Mem.pu (L₁ := [c0]) hM h
theorem Mem.cu1 {c0 : Cell} {g n c n' : Nat} {e : TypeId} {xs xs' : List Value} (hM : Mem w G X u (c0 :: .own g e n c xs :: L) F) (h : Own e u g n c xs → Own e u g n' c xs') : Mem w G X u (c0 :: .own g e n' c xs' :: L) F := Mem.cu (L₁ := [c0]) hM h
theorem Mem.st2 {c0 c1 : Cell} {g : Nat} {cs cs' : Array Value} {T : TypeId} (hM : Mem w G X u (c0 :: c1 :: .box g cs T :: L) F) (hs : Stored u g cs' T u') : Mem w G X u' (c0 :: c1 :: .box g cs' T :: L) F := Mem.st (L₁ := [c0, c1]) hM hs
theorem Mem.pb2 {c0 c1 : Cell} {g T : Nat} {cs : Array Value} {α : Type} {k : Kd α} {ks : List Value} {x : α} (hM : Mem w G X u (c0 :: c1 :: .box g cs T :: L) F) (h : Mem w G X u (c0 :: c1 :: L) F → u.heap[g]? = some (.cells cs T (0, 0)) → ¬ av X (c0 :: c1 :: L) g → k.R (av X (c0 :: c1 :: L)) u ks x) : Mem w G X u (c0 :: c1 :: L) (⟨k, ks, x⟩ :: F) := Mem.pb (L₁ := [c0, c1]) hM h
theorem Mem.el2 {c0 c1 : Cell} {g n c : Nat} {e : TypeId} {xs xs' : List Value} {cs : Array Value} (hM : Mem w G X u (c0 :: c1 :: .own g e n c xs :: L) F) (hs : Stored u g cs e u') (hO : Own e u' g n c xs') : Mem w G X u' (c0 :: c1 :: .own g e n c xs' :: L) F := Mem.el (L₁ := [c0, c1]) hM hs hO
theorem Mem.gr2 {c0 c1 : Cell} {g n c g' n' c' : Nat} {e : TypeId} {xs xs' : List Value} (hM : Mem w G X u (c0 :: c1 :: .own g e n c xs :: L) F) (hs : Grew u g g' u') (hO : Own e u' g' n' c' xs') : Mem w G X u' (c0 :: c1 :: .own g' e n' c' xs' :: L) F := Mem.gr (L₁ := [c0, c1]) hM hs hO
theorem Mem.up2 {c0 c1 : Cell} {g n c : Nat} {e : TypeId} {xs : List Value} (hM : Mem w G X u (c0 :: c1 :: .own g e n c xs :: L) F) (hs : Upd [g] u u') : Mem w G X u' (c0 :: c1 :: L) F := Mem.up (L₁ := [c0, c1]) hM hs
theorem Mem.gi2 {c0 c1 : Cell} {g n c : Nat} {e : TypeId} {xs : List Value} (hM : Mem w G X u (c0 :: c1 :: .own g e n c xs :: L) F) : Mem w G X u (c0 :: c1 :: L) F ∧ Own e u g n c xs ∧ ¬ av X (c0 :: c1 :: L) g := Mem.gi (L₁ := [c0, c1]) hM
theorem Mem.pu2 {c0 c1 : Cell} {g n c : Nat} {e : TypeId} {xs : List Value} {α : Type} {k : Kd α} {cs : List Value} {x : α} (hM : Mem w G X u (c0 :: c1 :: .own g e n c xs :: L) F) (h : Own e u g n c xs → ∀ X', ¬ X' g → k.R X' u cs x) : Mem w G X u (c0 :: c1 :: L) (⟨k, cs, x⟩ :: F) := Mem.pu (L₁ := [c0, c1]) hM h
theorem Mem.cu2 {c0 c1 : Cell} {g n c n' : Nat} {e : TypeId} {xs xs' : List Value} (hM : Mem w G X u (c0 :: c1 :: .own g e n c xs :: L) F) (h : Own e u g n c xs → Own e u g n' c xs') : Mem w G X u (c0 :: c1 :: .own g e n' c xs' :: L) F := Mem.cu (L₁ := [c0, c1]) hM h
theorem Mem.st3 {c0 c1 c2 : Cell} {g : Nat} {cs cs' : Array Value} {T : TypeId} (hM : Mem w G X u (c0 :: c1 :: c2 :: .box g cs T :: L) F) (hs : Stored u g cs' T u') : Mem w G X u' (c0 :: c1 :: c2 :: .box g cs' T :: L) F := Mem.st (L₁ := [c0, c1, c2]) hM hs
theorem Mem.pb3 {c0 c1 c2 : Cell} {g T : Nat} {cs : Array Value} {α : Type} {k : Kd α} {ks : List Value} {x : α} (hM : Mem w G X u (c0 :: c1 :: c2 :: .box g cs T :: L) F) (h : Mem w G X u (c0 :: c1 :: c2 :: L) F → u.heap[g]? = some (.cells cs T (0, 0)) → ¬ av X (c0 :: c1 :: c2 :: L) g → k.R (av X (c0 :: c1 :: c2 :: L)) u ks x) : Mem w G X u (c0 :: c1 :: c2 :: L) (⟨k, ks, x⟩ :: F) := Mem.pb (L₁ := [c0, c1, c2]) hM h
theorem Mem.el3 {c0 c1 c2 : Cell} {g n c : Nat} {e : TypeId} {xs xs' : List Value} {cs : Array Value} (hM : Mem w G X u (c0 :: c1 :: c2 :: .own g e n c xs :: L) F) (hs : Stored u g cs e u') (hO : Own e u' g n c xs') : Mem w G X u' (c0 :: c1 :: c2 :: .own g e n c xs' :: L) F := Mem.el (L₁ := [c0, c1, c2]) hM hs hO
theorem Mem.gr3 {c0 c1 c2 : Cell} {g n c g' n' c' : Nat} {e : TypeId} {xs xs' : List Value} (hM : Mem w G X u (c0 :: c1 :: c2 :: .own g e n c xs :: L) F) (hs : Grew u g g' u') (hO : Own e u' g' n' c' xs') : Mem w G X u' (c0 :: c1 :: c2 :: .own g' e n' c' xs' :: L) F := Mem.gr (L₁ := [c0, c1, c2]) hM hs hO
theorem Mem.up3 {c0 c1 c2 : Cell} {g n c : Nat} {e : TypeId} {xs : List Value} (hM : Mem w G X u (c0 :: c1 :: c2 :: .own g e n c xs :: L) F) (hs : Upd [g] u u') : Mem w G X u' (c0 :: c1 :: c2 :: L) F := Mem.up (L₁ := [c0, c1, c2]) hM hs
theorem Mem.gi3 {c0 c1 c2 : Cell} {g n c : Nat} {e : TypeId} {xs : List Value} (hM : Mem w G X u (c0 :: c1 :: c2 :: .own g e n c xs :: L) F) : Mem w G X u (c0 :: c1 :: c2 :: L) F ∧ Own e u g n c xs ∧ ¬ av X (c0 :: c1 :: c2 :: L) g := Mem.gi (L₁ := [c0, c1, c2]) hM
theorem Mem.pu3 {c0 c1 c2 : Cell} {g n c : Nat} {e : TypeId} {xs : List Value} {α : Type} {k : Kd α} {cs : List Value} {x : α} (hM : Mem w G X u (c0 :: c1 :: c2 :: .own g e n c xs :: L) F) (h : Own e u g n c xs → ∀ X', ¬ X' g → k.R X' u cs x) : Mem w G X u (c0 :: c1 :: c2 :: L) (⟨k, cs, x⟩ :: F) := Mem.pu (L₁ := [c0, c1, c2]) hM h
theorem Mem.cu3 {c0 c1 c2 : Cell} {g n c n' : Nat} {e : TypeId} {xs xs' : List Value} (hM : Mem w G X u (c0 :: c1 :: c2 :: .own g e n c xs :: L) F) (h : Own e u g n c xs → Own e u g n' c xs') : Mem w G X u (c0 :: c1 :: c2 :: .own g e n' c xs' :: L) F := Mem.cu (L₁ := [c0, c1, c2]) hM h
theorem Mem.st4 {c0 c1 c2 c3 : Cell} {g : Nat} {cs cs' : Array Value} {T : TypeId} (hM : Mem w G X u (c0 :: c1 :: c2 :: c3 :: .box g cs T :: L) F) (hs : Stored u g cs' T u') : Mem w G X u' (c0 :: c1 :: c2 :: c3 :: .box g cs' T :: L) F := Mem.st (L₁ := [c0, c1, c2, c3]) hM hs
theorem Mem.pb4 {c0 c1 c2 c3 : Cell} {g T : Nat} {cs : Array Value} {α : Type} {k : Kd α} {ks : List Value} {x : α} (hM : Mem w G X u (c0 :: c1 :: c2 :: c3 :: .box g cs T :: L) F) (h : Mem w G X u (c0 :: c1 :: c2 :: c3 :: L) F → u.heap[g]? = some (.cells cs T (0, 0)) → ¬ av X (c0 :: c1 :: c2 :: c3 :: L) g → k.R (av X (c0 :: c1 :: c2 :: c3 :: L)) u ks x) : Mem w G X u (c0 :: c1 :: c2 :: c3 :: L) (⟨k, ks, x⟩ :: F) := Mem.pb (L₁ := [c0, c1, c2, c3]) hM h
theorem Mem.el4 {c0 c1 c2 c3 : Cell} {g n c : Nat} {e : TypeId} {xs xs' : List Value} {cs : Array Value} (hM : Mem w G X u (c0 :: c1 :: c2 :: c3 :: .own g e n c xs :: L) F) (hs : Stored u g cs e u') (hO : Own e u' g n c xs') : Mem w G X u' (c0 :: c1 :: c2 :: c3 :: .own g e n c xs' :: L) F := Mem.el (L₁ := [c0, c1, c2, c3]) hM hs hO
theorem Mem.gr4 {c0 c1 c2 c3 : Cell} {g n c g' n' c' : Nat} {e : TypeId} {xs xs' : List Value} (hM : Mem w G X u (c0 :: c1 :: c2 :: c3 :: .own g e n c xs :: L) F) (hs : Grew u g g' u') (hO : Own e u' g' n' c' xs') : Mem w G X u' (c0 :: c1 :: c2 :: c3 :: .own g' e n' c' xs' :: L) F := Mem.gr (L₁ := [c0, c1, c2, c3]) hM hs hO
theorem Mem.up4 {c0 c1 c2 c3 : Cell} {g n c : Nat} {e : TypeId} {xs : List Value} (hM : Mem w G X u (c0 :: c1 :: c2 :: c3 :: .own g e n c xs :: L) F) (hs : Upd [g] u u') : Mem w G X u' (c0 :: c1 :: c2 :: c3 :: L) F := Mem.up (L₁ := [c0, c1, c2, c3]) hM hs
theorem Mem.gi4 {c0 c1 c2 c3 : Cell} {g n c : Nat} {e : TypeId} {xs : List Value} (hM : Mem w G X u (c0 :: c1 :: c2 :: c3 :: .own g e n c xs :: L) F) : Mem w G X u (c0 :: c1 :: c2 :: c3 :: L) F ∧ Own e u g n c xs ∧ ¬ av X (c0 :: c1 :: c2 :: c3 :: L) g := Mem.gi (L₁ := [c0, c1, c2, c3]) hM
theorem Mem.pu4 {c0 c1 c2 c3 : Cell} {g n c : Nat} {e : TypeId} {xs : List Value} {α : Type} {k : Kd α} {cs : List Value} {x : α} (hM : Mem w G X u (c0 :: c1 :: c2 :: c3 :: .own g e n c xs :: L) F) (h : Own e u g n c xs → ∀ X', ¬ X' g → k.R X' u cs x) : Mem w G X u (c0 :: c1 :: c2 :: c3 :: L) (⟨k, cs, x⟩ :: F) := Mem.pu (L₁ := [c0, c1, c2, c3]) hM h
theorem Mem.cu4 {c0 c1 c2 c3 : Cell} {g n c n' : Nat} {e : TypeId} {xs xs' : List Value} (hM : Mem w G X u (c0 :: c1 :: c2 :: c3 :: .own g e n c xs :: L) F) (h : Own e u g n c xs → Own e u g n' c xs') : Mem w G X u (c0 :: c1 :: c2 :: c3 :: .own g e n' c xs' :: L) F := Mem.cu (L₁ := [c0, c1, c2, c3]) hM h
theorem Mem.st5 {c0 c1 c2 c3 c4 : Cell} {g : Nat} {cs cs' : Array Value} {T : TypeId} (hM : Mem w G X u (c0 :: c1 :: c2 :: c3 :: c4 :: .box g cs T :: L) F) (hs : Stored u g cs' T u') : Mem w G X u' (c0 :: c1 :: c2 :: c3 :: c4 :: .box g cs' T :: L) F := Mem.st (L₁ := [c0, c1, c2, c3, c4]) hM hs
theorem Mem.pb5 {c0 c1 c2 c3 c4 : Cell} {g T : Nat} {cs : Array Value} {α : Type} {k : Kd α} {ks : List Value} {x : α} (hM : Mem w G X u (c0 :: c1 :: c2 :: c3 :: c4 :: .box g cs T :: L) F) (h : Mem w G X u (c0 :: c1 :: c2 :: c3 :: c4 :: L) F → u.heap[g]? = some (.cells cs T (0, 0)) → ¬ av X (c0 :: c1 :: c2 :: c3 :: c4 :: L) g → k.R (av X (c0 :: c1 :: c2 :: c3 :: c4 :: L)) u ks x) : Mem w G X u (c0 :: c1 :: c2 :: c3 :: c4 :: L) (⟨k, ks, x⟩ :: F) := Mem.pb (L₁ := [c0, c1, c2, c3, c4]) hM h
theorem Mem.el5 {c0 c1 c2 c3 c4 : Cell} {g n c : Nat} {e : TypeId} {xs xs' : List Value} {cs : Array Value} (hM : Mem w G X u (c0 :: c1 :: c2 :: c3 :: c4 :: .own g e n c xs :: L) F) (hs : Stored u g cs e u') (hO : Own e u' g n c xs') : Mem w G X u' (c0 :: c1 :: c2 :: c3 :: c4 :: .own g e n c xs' :: L) F := Mem.el (L₁ := [c0, c1, c2, c3, c4]) hM hs hO
theorem Mem.gr5 {c0 c1 c2 c3 c4 : Cell} {g n c g' n' c' : Nat} {e : TypeId} {xs xs' : List Value} (hM : Mem w G X u (c0 :: c1 :: c2 :: c3 :: c4 :: .own g e n c xs :: L) F) (hs : Grew u g g' u') (hO : Own e u' g' n' c' xs') : Mem w G X u' (c0 :: c1 :: c2 :: c3 :: c4 :: .own g' e n' c' xs' :: L) F := Mem.gr (L₁ := [c0, c1, c2, c3, c4]) hM hs hO
theorem Mem.up5 {c0 c1 c2 c3 c4 : Cell} {g n c : Nat} {e : TypeId} {xs : List Value} (hM : Mem w G X u (c0 :: c1 :: c2 :: c3 :: c4 :: .own g e n c xs :: L) F) (hs : Upd [g] u u') : Mem w G X u' (c0 :: c1 :: c2 :: c3 :: c4 :: L) F := Mem.up (L₁ := [c0, c1, c2, c3, c4]) hM hs
theorem Mem.gi5 {c0 c1 c2 c3 c4 : Cell} {g n c : Nat} {e : TypeId} {xs : List Value} (hM : Mem w G X u (c0 :: c1 :: c2 :: c3 :: c4 :: .own g e n c xs :: L) F) : Mem w G X u (c0 :: c1 :: c2 :: c3 :: c4 :: L) F ∧ Own e u g n c xs ∧ ¬ av X (c0 :: c1 :: c2 :: c3 :: c4 :: L) g := Mem.gi (L₁ := [c0, c1, c2, c3, c4]) hM
theorem Mem.pu5 {c0 c1 c2 c3 c4 : Cell} {g n c : Nat} {e : TypeId} {xs : List Value} {α : Type} {k : Kd α} {cs : List Value} {x : α} (hM : Mem w G X u (c0 :: c1 :: c2 :: c3 :: c4 :: .own g e n c xs :: L) F) (h : Own e u g n c xs → ∀ X', ¬ X' g → k.R X' u cs x) : Mem w G X u (c0 :: c1 :: c2 :: c3 :: c4 :: L) (⟨k, cs, x⟩ :: F) := Mem.pu (L₁ := [c0, c1, c2, c3, c4]) hM h
theorem Mem.cu5 {c0 c1 c2 c3 c4 : Cell} {g n c n' : Nat} {e : TypeId} {xs xs' : List Value} (hM : Mem w G X u (c0 :: c1 :: c2 :: c3 :: c4 :: .own g e n c xs :: L) F) (h : Own e u g n c xs → Own e u g n' c xs') : Mem w G X u (c0 :: c1 :: c2 :: c3 :: c4 :: .own g e n' c xs' :: L) F := Mem.cu (L₁ := [c0, c1, c2, c3, c4]) hM h
theorem Mem.st6 {c0 c1 c2 c3 c4 c5 : Cell} {g : Nat} {cs cs' : Array Value} {T : TypeId} (hM : Mem w G X u (c0 :: c1 :: c2 :: c3 :: c4 :: c5 :: .box g cs T :: L) F) (hs : Stored u g cs' T u') : Mem w G X u' (c0 :: c1 :: c2 :: c3 :: c4 :: c5 :: .box g cs' T :: L) F := Mem.st (L₁ := [c0, c1, c2, c3, c4, c5]) hM hs
theorem Mem.pb6 {c0 c1 c2 c3 c4 c5 : Cell} {g T : Nat} {cs : Array Value} {α : Type} {k : Kd α} {ks : List Value} {x : α} (hM : Mem w G X u (c0 :: c1 :: c2 :: c3 :: c4 :: c5 :: .box g cs T :: L) F) (h : Mem w G X u (c0 :: c1 :: c2 :: c3 :: c4 :: c5 :: L) F → u.heap[g]? = some (.cells cs T (0, 0)) → ¬ av X (c0 :: c1 :: c2 :: c3 :: c4 :: c5 :: L) g → k.R (av X (c0 :: c1 :: c2 :: c3 :: c4 :: c5 :: L)) u ks x) : Mem w G X u (c0 :: c1 :: c2 :: c3 :: c4 :: c5 :: L) (⟨k, ks, x⟩ :: F) := Mem.pb (L₁ := [c0, c1, c2, c3, c4, c5]) hM h
theorem Mem.el6 {c0 c1 c2 c3 c4 c5 : Cell} {g n c : Nat} {e : TypeId} {xs xs' : List Value} {cs : Array Value} (hM : Mem w G X u (c0 :: c1 :: c2 :: c3 :: c4 :: c5 :: .own g e n c xs :: L) F) (hs : Stored u g cs e u') (hO : Own e u' g n c xs') : Mem w G X u' (c0 :: c1 :: c2 :: c3 :: c4 :: c5 :: .own g e n c xs' :: L) F := Mem.el (L₁ := [c0, c1, c2, c3, c4, c5]) hM hs hO
theorem Mem.gr6 {c0 c1 c2 c3 c4 c5 : Cell} {g n c g' n' c' : Nat} {e : TypeId} {xs xs' : List Value} (hM : Mem w G X u (c0 :: c1 :: c2 :: c3 :: c4 :: c5 :: .own g e n c xs :: L) F) (hs : Grew u g g' u') (hO : Own e u' g' n' c' xs') : Mem w G X u' (c0 :: c1 :: c2 :: c3 :: c4 :: c5 :: .own g' e n' c' xs' :: L) F := Mem.gr (L₁ := [c0, c1, c2, c3, c4, c5]) hM hs hO
theorem Mem.up6 {c0 c1 c2 c3 c4 c5 : Cell} {g n c : Nat} {e : TypeId} {xs : List Value} (hM : Mem w G X u (c0 :: c1 :: c2 :: c3 :: c4 :: c5 :: .own g e n c xs :: L) F) (hs : Upd [g] u u') : Mem w G X u' (c0 :: c1 :: c2 :: c3 :: c4 :: c5 :: L) F := Mem.up (L₁ := [c0, c1, c2, c3, c4, c5]) hM hs
theorem Mem.gi6 {c0 c1 c2 c3 c4 c5 : Cell} {g n c : Nat} {e : TypeId} {xs : List Value} (hM : Mem w G X u (c0 :: c1 :: c2 :: c3 :: c4 :: c5 :: .own g e n c xs :: L) F) : Mem w G X u (c0 :: c1 :: c2 :: c3 :: c4 :: c5 :: L) F ∧ Own e u g n c xs ∧ ¬ av X (c0 :: c1 :: c2 :: c3 :: c4 :: c5 :: L) g := Mem.gi (L₁ := [c0, c1, c2, c3, c4, c5]) hM
theorem Mem.pu6 {c0 c1 c2 c3 c4 c5 : Cell} {g n c : Nat} {e : TypeId} {xs : List Value} {α : Type} {k : Kd α} {cs : List Value} {x : α} (hM : Mem w G X u (c0 :: c1 :: c2 :: c3 :: c4 :: c5 :: .own g e n c xs :: L) F) (h : Own e u g n c xs → ∀ X', ¬ X' g → k.R X' u cs x) : Mem w G X u (c0 :: c1 :: c2 :: c3 :: c4 :: c5 :: L) (⟨k, cs, x⟩ :: F) := Mem.pu (L₁ := [c0, c1, c2, c3, c4, c5]) hM h
theorem Mem.cu6 {c0 c1 c2 c3 c4 c5 : Cell} {g n c n' : Nat} {e : TypeId} {xs xs' : List Value} (hM : Mem w G X u (c0 :: c1 :: c2 :: c3 :: c4 :: c5 :: .own g e n c xs :: L) F) (h : Own e u g n c xs → Own e u g n' c xs') : Mem w G X u (c0 :: c1 :: c2 :: c3 :: c4 :: c5 :: .own g e n' c xs' :: L) F := Mem.cu (L₁ := [c0, c1, c2, c3, c4, c5]) hM h
theorem Mem.st7 {c0 c1 c2 c3 c4 c5 c6 : Cell} {g : Nat} {cs cs' : Array Value} {T : TypeId} (hM : Mem w G X u (c0 :: c1 :: c2 :: c3 :: c4 :: c5 :: c6 :: .box g cs T :: L) F) (hs : Stored u g cs' T u') : Mem w G X u' (c0 :: c1 :: c2 :: c3 :: c4 :: c5 :: c6 :: .box g cs' T :: L) F := Mem.st (L₁ := [c0, c1, c2, c3, c4, c5, c6]) hM hs
theorem Mem.pb7 {c0 c1 c2 c3 c4 c5 c6 : Cell} {g T : Nat} {cs : Array Value} {α : Type} {k : Kd α} {ks : List Value} {x : α} (hM : Mem w G X u (c0 :: c1 :: c2 :: c3 :: c4 :: c5 :: c6 :: .box g cs T :: L) F) (h : Mem w G X u (c0 :: c1 :: c2 :: c3 :: c4 :: c5 :: c6 :: L) F → u.heap[g]? = some (.cells cs T (0, 0)) → ¬ av X (c0 :: c1 :: c2 :: c3 :: c4 :: c5 :: c6 :: L) g → k.R (av X (c0 :: c1 :: c2 :: c3 :: c4 :: c5 :: c6 :: L)) u ks x) : Mem w G X u (c0 :: c1 :: c2 :: c3 :: c4 :: c5 :: c6 :: L) (⟨k, ks, x⟩ :: F) := Mem.pb (L₁ := [c0, c1, c2, c3, c4, c5, c6]) hM h
theorem Mem.el7 {c0 c1 c2 c3 c4 c5 c6 : Cell} {g n c : Nat} {e : TypeId} {xs xs' : List Value} {cs : Array Value} (hM : Mem w G X u (c0 :: c1 :: c2 :: c3 :: c4 :: c5 :: c6 :: .own g e n c xs :: L) F) (hs : Stored u g cs e u') (hO : Own e u' g n c xs') : Mem w G X u' (c0 :: c1 :: c2 :: c3 :: c4 :: c5 :: c6 :: .own g e n c xs' :: L) F := Mem.el (L₁ := [c0, c1, c2, c3, c4, c5, c6]) hM hs hO
theorem Mem.gr7 {c0 c1 c2 c3 c4 c5 c6 : Cell} {g n c g' n' c' : Nat} {e : TypeId} {xs xs' : List Value} (hM : Mem w G X u (c0 :: c1 :: c2 :: c3 :: c4 :: c5 :: c6 :: .own g e n c xs :: L) F) (hs : Grew u g g' u') (hO : Own e u' g' n' c' xs') : Mem w G X u' (c0 :: c1 :: c2 :: c3 :: c4 :: c5 :: c6 :: .own g' e n' c' xs' :: L) F := Mem.gr (L₁ := [c0, c1, c2, c3, c4, c5, c6]) hM hs hO
theorem Mem.up7 {c0 c1 c2 c3 c4 c5 c6 : Cell} {g n c : Nat} {e : TypeId} {xs : List Value} (hM : Mem w G X u (c0 :: c1 :: c2 :: c3 :: c4 :: c5 :: c6 :: .own g e n c xs :: L) F) (hs : Upd [g] u u') : Mem w G X u' (c0 :: c1 :: c2 :: c3 :: c4 :: c5 :: c6 :: L) F := Mem.up (L₁ := [c0, c1, c2, c3, c4, c5, c6]) hM hs
theorem Mem.gi7 {c0 c1 c2 c3 c4 c5 c6 : Cell} {g n c : Nat} {e : TypeId} {xs : List Value} (hM : Mem w G X u (c0 :: c1 :: c2 :: c3 :: c4 :: c5 :: c6 :: .own g e n c xs :: L) F) : Mem w G X u (c0 :: c1 :: c2 :: c3 :: c4 :: c5 :: c6 :: L) F ∧ Own e u g n c xs ∧ ¬ av X (c0 :: c1 :: c2 :: c3 :: c4 :: c5 :: c6 :: L) g := Mem.gi (L₁ := [c0, c1, c2, c3, c4, c5, c6]) hM
theorem Mem.pu7 {c0 c1 c2 c3 c4 c5 c6 : Cell} {g n c : Nat} {e : TypeId} {xs : List Value} {α : Type} {k : Kd α} {cs : List Value} {x : α} (hM : Mem w G X u (c0 :: c1 :: c2 :: c3 :: c4 :: c5 :: c6 :: .own g e n c xs :: L) F) (h : Own e u g n c xs → ∀ X', ¬ X' g → k.R X' u cs x) : Mem w G X u (c0 :: c1 :: c2 :: c3 :: c4 :: c5 :: c6 :: L) (⟨k, cs, x⟩ :: F) := Mem.pu (L₁ := [c0, c1, c2, c3, c4, c5, c6]) hM h
theorem Mem.cu7 {c0 c1 c2 c3 c4 c5 c6 : Cell} {g n c n' : Nat} {e : TypeId} {xs xs' : List Value} (hM : Mem w G X u (c0 :: c1 :: c2 :: c3 :: c4 :: c5 :: c6 :: .own g e n c xs :: L) F) (h : Own e u g n c xs → Own e u g n' c xs') : Mem w G X u (c0 :: c1 :: c2 :: c3 :: c4 :: c5 :: c6 :: .own g e n' c xs' :: L) F := Mem.cu (L₁ := [c0, c1, c2, c3, c4, c5, c6]) hM h
theorem Mem.st8 {c0 c1 c2 c3 c4 c5 c6 c7 : Cell} {g : Nat} {cs cs' : Array Value} {T : TypeId} (hM : Mem w G X u (c0 :: c1 :: c2 :: c3 :: c4 :: c5 :: c6 :: c7 :: .box g cs T :: L) F) (hs : Stored u g cs' T u') : Mem w G X u' (c0 :: c1 :: c2 :: c3 :: c4 :: c5 :: c6 :: c7 :: .box g cs' T :: L) F := Mem.st (L₁ := [c0, c1, c2, c3, c4, c5, c6, c7]) hM hs
theorem Mem.pb8 {c0 c1 c2 c3 c4 c5 c6 c7 : Cell} {g T : Nat} {cs : Array Value} {α : Type} {k : Kd α} {ks : List Value} {x : α} (hM : Mem w G X u (c0 :: c1 :: c2 :: c3 :: c4 :: c5 :: c6 :: c7 :: .box g cs T :: L) F) (h : Mem w G X u (c0 :: c1 :: c2 :: c3 :: c4 :: c5 :: c6 :: c7 :: L) F → u.heap[g]? = some (.cells cs T (0, 0)) → ¬ av X (c0 :: c1 :: c2 :: c3 :: c4 :: c5 :: c6 :: c7 :: L) g → k.R (av X (c0 :: c1 :: c2 :: c3 :: c4 :: c5 :: c6 :: c7 :: L)) u ks x) : Mem w G X u (c0 :: c1 :: c2 :: c3 :: c4 :: c5 :: c6 :: c7 :: L) (⟨k, ks, x⟩ :: F) := Mem.pb (L₁ := [c0, c1, c2, c3, c4, c5, c6, c7]) hM h
theorem Mem.el8 {c0 c1 c2 c3 c4 c5 c6 c7 : Cell} {g n c : Nat} {e : TypeId} {xs xs' : List Value} {cs : Array Value} (hM : Mem w G X u (c0 :: c1 :: c2 :: c3 :: c4 :: c5 :: c6 :: c7 :: .own g e n c xs :: L) F) (hs : Stored u g cs e u') (hO : Own e u' g n c xs') : Mem w G X u' (c0 :: c1 :: c2 :: c3 :: c4 :: c5 :: c6 :: c7 :: .own g e n c xs' :: L) F := Mem.el (L₁ := [c0, c1, c2, c3, c4, c5, c6, c7]) hM hs hO
theorem Mem.gr8 {c0 c1 c2 c3 c4 c5 c6 c7 : Cell} {g n c g' n' c' : Nat} {e : TypeId} {xs xs' : List Value} (hM : Mem w G X u (c0 :: c1 :: c2 :: c3 :: c4 :: c5 :: c6 :: c7 :: .own g e n c xs :: L) F) (hs : Grew u g g' u') (hO : Own e u' g' n' c' xs') : Mem w G X u' (c0 :: c1 :: c2 :: c3 :: c4 :: c5 :: c6 :: c7 :: .own g' e n' c' xs' :: L) F := Mem.gr (L₁ := [c0, c1, c2, c3, c4, c5, c6, c7]) hM hs hO
theorem Mem.up8 {c0 c1 c2 c3 c4 c5 c6 c7 : Cell} {g n c : Nat} {e : TypeId} {xs : List Value} (hM : Mem w G X u (c0 :: c1 :: c2 :: c3 :: c4 :: c5 :: c6 :: c7 :: .own g e n c xs :: L) F) (hs : Upd [g] u u') : Mem w G X u' (c0 :: c1 :: c2 :: c3 :: c4 :: c5 :: c6 :: c7 :: L) F := Mem.up (L₁ := [c0, c1, c2, c3, c4, c5, c6, c7]) hM hs
theorem Mem.gi8 {c0 c1 c2 c3 c4 c5 c6 c7 : Cell} {g n c : Nat} {e : TypeId} {xs : List Value} (hM : Mem w G X u (c0 :: c1 :: c2 :: c3 :: c4 :: c5 :: c6 :: c7 :: .own g e n c xs :: L) F) : Mem w G X u (c0 :: c1 :: c2 :: c3 :: c4 :: c5 :: c6 :: c7 :: L) F ∧ Own e u g n c xs ∧ ¬ av X (c0 :: c1 :: c2 :: c3 :: c4 :: c5 :: c6 :: c7 :: L) g := Mem.gi (L₁ := [c0, c1, c2, c3, c4, c5, c6, c7]) hM
theorem Mem.pu8 {c0 c1 c2 c3 c4 c5 c6 c7 : Cell} {g n c : Nat} {e : TypeId} {xs : List Value} {α : Type} {k : Kd α} {cs : List Value} {x : α} (hM : Mem w G X u (c0 :: c1 :: c2 :: c3 :: c4 :: c5 :: c6 :: c7 :: .own g e n c xs :: L) F) (h : Own e u g n c xs → ∀ X', ¬ X' g → k.R X' u cs x) : Mem w G X u (c0 :: c1 :: c2 :: c3 :: c4 :: c5 :: c6 :: c7 :: L) (⟨k, cs, x⟩ :: F) := Mem.pu (L₁ := [c0, c1, c2, c3, c4, c5, c6, c7]) hM h
theorem Mem.cu8 {c0 c1 c2 c3 c4 c5 c6 c7 : Cell} {g n c n' : Nat} {e : TypeId} {xs xs' : List Value} (hM : Mem w G X u (c0 :: c1 :: c2 :: c3 :: c4 :: c5 :: c6 :: c7 :: .own g e n c xs :: L) F) (h : Own e u g n c xs → Own e u g n' c xs') : Mem w G X u (c0 :: c1 :: c2 :: c3 :: c4 :: c5 :: c6 :: c7 :: .own g e n' c xs' :: L) F := Mem.cu (L₁ := [c0, c1, c2, c3, c4, c5, c6, c7]) hM h
theorem Mem.st9 {c0 c1 c2 c3 c4 c5 c6 c7 c8 : Cell} {g : Nat} {cs cs' : Array Value} {T : TypeId} (hM : Mem w G X u (c0 :: c1 :: c2 :: c3 :: c4 :: c5 :: c6 :: c7 :: c8 :: .box g cs T :: L) F) (hs : Stored u g cs' T u') : Mem w G X u' (c0 :: c1 :: c2 :: c3 :: c4 :: c5 :: c6 :: c7 :: c8 :: .box g cs' T :: L) F := Mem.st (L₁ := [c0, c1, c2, c3, c4, c5, c6, c7, c8]) hM hs
theorem Mem.pb9 {c0 c1 c2 c3 c4 c5 c6 c7 c8 : Cell} {g T : Nat} {cs : Array Value} {α : Type} {k : Kd α} {ks : List Value} {x : α} (hM : Mem w G X u (c0 :: c1 :: c2 :: c3 :: c4 :: c5 :: c6 :: c7 :: c8 :: .box g cs T :: L) F) (h : Mem w G X u (c0 :: c1 :: c2 :: c3 :: c4 :: c5 :: c6 :: c7 :: c8 :: L) F → u.heap[g]? = some (.cells cs T (0, 0)) → ¬ av X (c0 :: c1 :: c2 :: c3 :: c4 :: c5 :: c6 :: c7 :: c8 :: L) g → k.R (av X (c0 :: c1 :: c2 :: c3 :: c4 :: c5 :: c6 :: c7 :: c8 :: L)) u ks x) : Mem w G X u (c0 :: c1 :: c2 :: c3 :: c4 :: c5 :: c6 :: c7 :: c8 :: L) (⟨k, ks, x⟩ :: F) := Mem.pb (L₁ := [c0, c1, c2, c3, c4, c5, c6, c7, c8]) hM h
theorem Mem.el9 {c0 c1 c2 c3 c4 c5 c6 c7 c8 : Cell} {g n c : Nat} {e : TypeId} {xs xs' : List Value} {cs : Array Value} (hM : Mem w G X u (c0 :: c1 :: c2 :: c3 :: c4 :: c5 :: c6 :: c7 :: c8 :: .own g e n c xs :: L) F) (hs : Stored u g cs e u') (hO : Own e u' g n c xs') : Mem w G X u' (c0 :: c1 :: c2 :: c3 :: c4 :: c5 :: c6 :: c7 :: c8 :: .own g e n c xs' :: L) F := Mem.el (L₁ := [c0, c1, c2, c3, c4, c5, c6, c7, c8]) hM hs hO
theorem Mem.gr9 {c0 c1 c2 c3 c4 c5 c6 c7 c8 : Cell} {g n c g' n' c' : Nat} {e : TypeId} {xs xs' : List Value} (hM : Mem w G X u (c0 :: c1 :: c2 :: c3 :: c4 :: c5 :: c6 :: c7 :: c8 :: .own g e n c xs :: L) F) (hs : Grew u g g' u') (hO : Own e u' g' n' c' xs') : Mem w G X u' (c0 :: c1 :: c2 :: c3 :: c4 :: c5 :: c6 :: c7 :: c8 :: .own g' e n' c' xs' :: L) F := Mem.gr (L₁ := [c0, c1, c2, c3, c4, c5, c6, c7, c8]) hM hs hO
theorem Mem.up9 {c0 c1 c2 c3 c4 c5 c6 c7 c8 : Cell} {g n c : Nat} {e : TypeId} {xs : List Value} (hM : Mem w G X u (c0 :: c1 :: c2 :: c3 :: c4 :: c5 :: c6 :: c7 :: c8 :: .own g e n c xs :: L) F) (hs : Upd [g] u u') : Mem w G X u' (c0 :: c1 :: c2 :: c3 :: c4 :: c5 :: c6 :: c7 :: c8 :: L) F := Mem.up (L₁ := [c0, c1, c2, c3, c4, c5, c6, c7, c8]) hM hs
theorem Mem.gi9 {c0 c1 c2 c3 c4 c5 c6 c7 c8 : Cell} {g n c : Nat} {e : TypeId} {xs : List Value} (hM : Mem w G X u (c0 :: c1 :: c2 :: c3 :: c4 :: c5 :: c6 :: c7 :: c8 :: .own g e n c xs :: L) F) : Mem w G X u (c0 :: c1 :: c2 :: c3 :: c4 :: c5 :: c6 :: c7 :: c8 :: L) F ∧ Own e u g n c xs ∧ ¬ av X (c0 :: c1 :: c2 :: c3 :: c4 :: c5 :: c6 :: c7 :: c8 :: L) g := Mem.gi (L₁ := [c0, c1, c2, c3, c4, c5, c6, c7, c8]) hM
theorem Mem.pu9 {c0 c1 c2 c3 c4 c5 c6 c7 c8 : Cell} {g n c : Nat} {e : TypeId} {xs : List Value} {α : Type} {k : Kd α} {cs : List Value} {x : α} (hM : Mem w G X u (c0 :: c1 :: c2 :: c3 :: c4 :: c5 :: c6 :: c7 :: c8 :: .own g e n c xs :: L) F) (h : Own e u g n c xs → ∀ X', ¬ X' g → k.R X' u cs x) : Mem w G X u (c0 :: c1 :: c2 :: c3 :: c4 :: c5 :: c6 :: c7 :: c8 :: L) (⟨k, cs, x⟩ :: F) := Mem.pu (L₁ := [c0, c1, c2, c3, c4, c5, c6, c7, c8]) hM h
theorem Mem.cu9 {c0 c1 c2 c3 c4 c5 c6 c7 c8 : Cell} {g n c n' : Nat} {e : TypeId} {xs xs' : List Value} (hM : Mem w G X u (c0 :: c1 :: c2 :: c3 :: c4 :: c5 :: c6 :: c7 :: c8 :: .own g e n c xs :: L) F) (h : Own e u g n c xs → Own e u g n' c xs') : Mem w G X u (c0 :: c1 :: c2 :: c3 :: c4 :: c5 :: c6 :: c7 :: c8 :: .own g e n' c xs' :: L) F := Mem.cu (L₁ := [c0, c1, c2, c3, c4, c5, c6, c7, c8]) hM h
theorem Mem.st10 {c0 c1 c2 c3 c4 c5 c6 c7 c8 c9 : Cell} {g : Nat} {cs cs' : Array Value} {T : TypeId} (hM : Mem w G X u (c0 :: c1 :: c2 :: c3 :: c4 :: c5 :: c6 :: c7 :: c8 :: c9 :: .box g cs T :: L) F) (hs : Stored u g cs' T u') : Mem w G X u' (c0 :: c1 :: c2 :: c3 :: c4 :: c5 :: c6 :: c7 :: c8 :: c9 :: .box g cs' T :: L) F := Mem.st (L₁ := [c0, c1, c2, c3, c4, c5, c6, c7, c8, c9]) hM hs
theorem Mem.pb10 {c0 c1 c2 c3 c4 c5 c6 c7 c8 c9 : Cell} {g T : Nat} {cs : Array Value} {α : Type} {k : Kd α} {ks : List Value} {x : α} (hM : Mem w G X u (c0 :: c1 :: c2 :: c3 :: c4 :: c5 :: c6 :: c7 :: c8 :: c9 :: .box g cs T :: L) F) (h : Mem w G X u (c0 :: c1 :: c2 :: c3 :: c4 :: c5 :: c6 :: c7 :: c8 :: c9 :: L) F → u.heap[g]? = some (.cells cs T (0, 0)) → ¬ av X (c0 :: c1 :: c2 :: c3 :: c4 :: c5 :: c6 :: c7 :: c8 :: c9 :: L) g → k.R (av X (c0 :: c1 :: c2 :: c3 :: c4 :: c5 :: c6 :: c7 :: c8 :: c9 :: L)) u ks x) : Mem w G X u (c0 :: c1 :: c2 :: c3 :: c4 :: c5 :: c6 :: c7 :: c8 :: c9 :: L) (⟨k, ks, x⟩ :: F) := Mem.pb (L₁ := [c0, c1, c2, c3, c4, c5, c6, c7, c8, c9]) hM h
theorem Mem.el10 {c0 c1 c2 c3 c4 c5 c6 c7 c8 c9 : Cell} {g n c : Nat} {e : TypeId} {xs xs' : List Value} {cs : Array Value} (hM : Mem w G X u (c0 :: c1 :: c2 :: c3 :: c4 :: c5 :: c6 :: c7 :: c8 :: c9 :: .own g e n c xs :: L) F) (hs : Stored u g cs e u') (hO : Own e u' g n c xs') : Mem w G X u' (c0 :: c1 :: c2 :: c3 :: c4 :: c5 :: c6 :: c7 :: c8 :: c9 :: .own g e n c xs' :: L) F := Mem.el (L₁ := [c0, c1, c2, c3, c4, c5, c6, c7, c8, c9]) hM hs hO
theorem Mem.gr10 {c0 c1 c2 c3 c4 c5 c6 c7 c8 c9 : Cell} {g n c g' n' c' : Nat} {e : TypeId} {xs xs' : List Value} (hM : Mem w G X u (c0 :: c1 :: c2 :: c3 :: c4 :: c5 :: c6 :: c7 :: c8 :: c9 :: .own g e n c xs :: L) F) (hs : Grew u g g' u') (hO : Own e u' g' n' c' xs') : Mem w G X u' (c0 :: c1 :: c2 :: c3 :: c4 :: c5 :: c6 :: c7 :: c8 :: c9 :: .own g' e n' c' xs' :: L) F := Mem.gr (L₁ := [c0, c1, c2, c3, c4, c5, c6, c7, c8, c9]) hM hs hO
theorem Mem.up10 {c0 c1 c2 c3 c4 c5 c6 c7 c8 c9 : Cell} {g n c : Nat} {e : TypeId} {xs : List Value} (hM : Mem w G X u (c0 :: c1 :: c2 :: c3 :: c4 :: c5 :: c6 :: c7 :: c8 :: c9 :: .own g e n c xs :: L) F) (hs : Upd [g] u u') : Mem w G X u' (c0 :: c1 :: c2 :: c3 :: c4 :: c5 :: c6 :: c7 :: c8 :: c9 :: L) F := Mem.up (L₁ := [c0, c1, c2, c3, c4, c5, c6, c7, c8, c9]) hM hs
theorem Mem.gi10 {c0 c1 c2 c3 c4 c5 c6 c7 c8 c9 : Cell} {g n c : Nat} {e : TypeId} {xs : List Value} (hM : Mem w G X u (c0 :: c1 :: c2 :: c3 :: c4 :: c5 :: c6 :: c7 :: c8 :: c9 :: .own g e n c xs :: L) F) : Mem w G X u (c0 :: c1 :: c2 :: c3 :: c4 :: c5 :: c6 :: c7 :: c8 :: c9 :: L) F ∧ Own e u g n c xs ∧ ¬ av X (c0 :: c1 :: c2 :: c3 :: c4 :: c5 :: c6 :: c7 :: c8 :: c9 :: L) g := Mem.gi (L₁ := [c0, c1, c2, c3, c4, c5, c6, c7, c8, c9]) hM
theorem Mem.pu10 {c0 c1 c2 c3 c4 c5 c6 c7 c8 c9 : Cell} {g n c : Nat} {e : TypeId} {xs : List Value} {α : Type} {k : Kd α} {cs : List Value} {x : α} (hM : Mem w G X u (c0 :: c1 :: c2 :: c3 :: c4 :: c5 :: c6 :: c7 :: c8 :: c9 :: .own g e n c xs :: L) F) (h : Own e u g n c xs → ∀ X', ¬ X' g → k.R X' u cs x) : Mem w G X u (c0 :: c1 :: c2 :: c3 :: c4 :: c5 :: c6 :: c7 :: c8 :: c9 :: L) (⟨k, cs, x⟩ :: F) := Mem.pu (L₁ := [c0, c1, c2, c3, c4, c5, c6, c7, c8, c9]) hM h
theorem Mem.cu10 {c0 c1 c2 c3 c4 c5 c6 c7 c8 c9 : Cell} {g n c n' : Nat} {e : TypeId} {xs xs' : List Value} (hM : Mem w G X u (c0 :: c1 :: c2 :: c3 :: c4 :: c5 :: c6 :: c7 :: c8 :: c9 :: .own g e n c xs :: L) F) (h : Own e u g n c xs → Own e u g n' c xs') : Mem w G X u (c0 :: c1 :: c2 :: c3 :: c4 :: c5 :: c6 :: c7 :: c8 :: c9 :: .own g e n' c xs' :: L) F := Mem.cu (L₁ := [c0, c1, c2, c3, c4, c5, c6, c7, c8, c9]) hM h
theorem Mem.st11 {c0 c1 c2 c3 c4 c5 c6 c7 c8 c9 c10 : Cell} {g : Nat} {cs cs' : Array Value} {T : TypeId} (hM : Mem w G X u (c0 :: c1 :: c2 :: c3 :: c4 :: c5 :: c6 :: c7 :: c8 :: c9 :: c10 :: .box g cs T :: L) F) (hs : Stored u g cs' T u') : Mem w G X u' (c0 :: c1 :: c2 :: c3 :: c4 :: c5 :: c6 :: c7 :: c8 :: c9 :: c10 :: .box g cs' T :: L) F := Mem.st (L₁ := [c0, c1, c2, c3, c4, c5, c6, c7, c8, c9, c10]) hM hs
theorem Mem.pb11 {c0 c1 c2 c3 c4 c5 c6 c7 c8 c9 c10 : Cell} {g T : Nat} {cs : Array Value} {α : Type} {k : Kd α} {ks : List Value} {x : α} (hM : Mem w G X u (c0 :: c1 :: c2 :: c3 :: c4 :: c5 :: c6 :: c7 :: c8 :: c9 :: c10 :: .box g cs T :: L) F) (h : Mem w G X u (c0 :: c1 :: c2 :: c3 :: c4 :: c5 :: c6 :: c7 :: c8 :: c9 :: c10 :: L) F → u.heap[g]? = some (.cells cs T (0, 0)) → ¬ av X (c0 :: c1 :: c2 :: c3 :: c4 :: c5 :: c6 :: c7 :: c8 :: c9 :: c10 :: L) g → k.R (av X (c0 :: c1 :: c2 :: c3 :: c4 :: c5 :: c6 :: c7 :: c8 :: c9 :: c10 :: L)) u ks x) : Mem w G X u (c0 :: c1 :: c2 :: c3 :: c4 :: c5 :: c6 :: c7 :: c8 :: c9 :: c10 :: L) (⟨k, ks, x⟩ :: F) := Mem.pb (L₁ := [c0, c1, c2, c3, c4, c5, c6, c7, c8, c9, c10]) hM h
theorem Mem.el11 {c0 c1 c2 c3 c4 c5 c6 c7 c8 c9 c10 : Cell} {g n c : Nat} {e : TypeId} {xs xs' : List Value} {cs : Array Value} (hM : Mem w G X u (c0 :: c1 :: c2 :: c3 :: c4 :: c5 :: c6 :: c7 :: c8 :: c9 :: c10 :: .own g e n c xs :: L) F) (hs : Stored u g cs e u') (hO : Own e u' g n c xs') : Mem w G X u' (c0 :: c1 :: c2 :: c3 :: c4 :: c5 :: c6 :: c7 :: c8 :: c9 :: c10 :: .own g e n c xs' :: L) F := Mem.el (L₁ := [c0, c1, c2, c3, c4, c5, c6, c7, c8, c9, c10]) hM hs hO
theorem Mem.gr11 {c0 c1 c2 c3 c4 c5 c6 c7 c8 c9 c10 : Cell} {g n c g' n' c' : Nat} {e : TypeId} {xs xs' : List Value} (hM : Mem w G X u (c0 :: c1 :: c2 :: c3 :: c4 :: c5 :: c6 :: c7 :: c8 :: c9 :: c10 :: .own g e n c xs :: L) F) (hs : Grew u g g' u') (hO : Own e u' g' n' c' xs') : Mem w G X u' (c0 :: c1 :: c2 :: c3 :: c4 :: c5 :: c6 :: c7 :: c8 :: c9 :: c10 :: .own g' e n' c' xs' :: L) F := Mem.gr (L₁ := [c0, c1, c2, c3, c4, c5, c6, c7, c8, c9, c10]) hM hs hO
theorem Mem.up11 {c0 c1 c2 c3 c4 c5 c6 c7 c8 c9 c10 : Cell} {g n c : Nat} {e : TypeId} {xs : List Value} (hM : Mem w G X u (c0 :: c1 :: c2 :: c3 :: c4 :: c5 :: c6 :: c7 :: c8 :: c9 :: c10 :: .own g e n c xs :: L) F) (hs : Upd [g] u u') : Mem w G X u' (c0 :: c1 :: c2 :: c3 :: c4 :: c5 :: c6 :: c7 :: c8 :: c9 :: c10 :: L) F := Mem.up (L₁ := [c0, c1, c2, c3, c4, c5, c6, c7, c8, c9, c10]) hM hs
theorem Mem.gi11 {c0 c1 c2 c3 c4 c5 c6 c7 c8 c9 c10 : Cell} {g n c : Nat} {e : TypeId} {xs : List Value} (hM : Mem w G X u (c0 :: c1 :: c2 :: c3 :: c4 :: c5 :: c6 :: c7 :: c8 :: c9 :: c10 :: .own g e n c xs :: L) F) : Mem w G X u (c0 :: c1 :: c2 :: c3 :: c4 :: c5 :: c6 :: c7 :: c8 :: c9 :: c10 :: L) F ∧ Own e u g n c xs ∧ ¬ av X (c0 :: c1 :: c2 :: c3 :: c4 :: c5 :: c6 :: c7 :: c8 :: c9 :: c10 :: L) g := Mem.gi (L₁ := [c0, c1, c2, c3, c4, c5, c6, c7, c8, c9, c10]) hM
theorem Mem.pu11 {c0 c1 c2 c3 c4 c5 c6 c7 c8 c9 c10 : Cell} {g n c : Nat} {e : TypeId} {xs : List Value} {α : Type} {k : Kd α} {cs : List Value} {x : α} (hM : Mem w G X u (c0 :: c1 :: c2 :: c3 :: c4 :: c5 :: c6 :: c7 :: c8 :: c9 :: c10 :: .own g e n c xs :: L) F) (h : Own e u g n c xs → ∀ X', ¬ X' g → k.R X' u cs x) : Mem w G X u (c0 :: c1 :: c2 :: c3 :: c4 :: c5 :: c6 :: c7 :: c8 :: c9 :: c10 :: L) (⟨k, cs, x⟩ :: F) := Mem.pu (L₁ := [c0, c1, c2, c3, c4, c5, c6, c7, c8, c9, c10]) hM h
theorem Mem.cu11 {c0 c1 c2 c3 c4 c5 c6 c7 c8 c9 c10 : Cell} {g n c n' : Nat} {e : TypeId} {xs xs' : List Value} (hM : Mem w G X u (c0 :: c1 :: c2 :: c3 :: c4 :: c5 :: c6 :: c7 :: c8 :: c9 :: c10 :: .own g e n c xs :: L) F) (h : Own e u g n c xs → Own e u g n' c xs') : Mem w G X u (c0 :: c1 :: c2 :: c3 :: c4 :: c5 :: c6 :: c7 :: c8 :: c9 :: c10 :: .own g e n' c xs' :: L) F := Mem.cu (L₁ := [c0, c1, c2, c3, c4, c5, c6, c7, c8, c9, c10]) hM h
theorem Mem.st12 {c0 c1 c2 c3 c4 c5 c6 c7 c8 c9 c10 c11 : Cell} {g : Nat} {cs cs' : Array Value} {T : TypeId} (hM : Mem w G X u (c0 :: c1 :: c2 :: c3 :: c4 :: c5 :: c6 :: c7 :: c8 :: c9 :: c10 :: c11 :: .box g cs T :: L) F) (hs : Stored u g cs' T u') : Mem w G X u' (c0 :: c1 :: c2 :: c3 :: c4 :: c5 :: c6 :: c7 :: c8 :: c9 :: c10 :: c11 :: .box g cs' T :: L) F := Mem.st (L₁ := [c0, c1, c2, c3, c4, c5, c6, c7, c8, c9, c10, c11]) hM hs
theorem Mem.pb12 {c0 c1 c2 c3 c4 c5 c6 c7 c8 c9 c10 c11 : Cell} {g T : Nat} {cs : Array Value} {α : Type} {k : Kd α} {ks : List Value} {x : α} (hM : Mem w G X u (c0 :: c1 :: c2 :: c3 :: c4 :: c5 :: c6 :: c7 :: c8 :: c9 :: c10 :: c11 :: .box g cs T :: L) F) (h : Mem w G X u (c0 :: c1 :: c2 :: c3 :: c4 :: c5 :: c6 :: c7 :: c8 :: c9 :: c10 :: c11 :: L) F → u.heap[g]? = some (.cells cs T (0, 0)) → ¬ av X (c0 :: c1 :: c2 :: c3 :: c4 :: c5 :: c6 :: c7 :: c8 :: c9 :: c10 :: c11 :: L) g → k.R (av X (c0 :: c1 :: c2 :: c3 :: c4 :: c5 :: c6 :: c7 :: c8 :: c9 :: c10 :: c11 :: L)) u ks x) : Mem w G X u (c0 :: c1 :: c2 :: c3 :: c4 :: c5 :: c6 :: c7 :: c8 :: c9 :: c10 :: c11 :: L) (⟨k, ks, x⟩ :: F) := Mem.pb (L₁ := [c0, c1, c2, c3, c4, c5, c6, c7, c8, c9, c10, c11]) hM h
theorem Mem.st13 {c0 c1 c2 c3 c4 c5 c6 c7 c8 c9 c10 c11 c12 : Cell} {g : Nat} {cs cs' : Array Value} {T : TypeId} (hM : Mem w G X u (c0 :: c1 :: c2 :: c3 :: c4 :: c5 :: c6 :: c7 :: c8 :: c9 :: c10 :: c11 :: c12 :: .box g cs T :: L) F) (hs : Stored u g cs' T u') : Mem w G X u' (c0 :: c1 :: c2 :: c3 :: c4 :: c5 :: c6 :: c7 :: c8 :: c9 :: c10 :: c11 :: c12 :: .box g cs' T :: L) F := Mem.st (L₁ := [c0, c1, c2, c3, c4, c5, c6, c7, c8, c9, c10, c11, c12]) hM hs
theorem Mem.pb13 {c0 c1 c2 c3 c4 c5 c6 c7 c8 c9 c10 c11 c12 : Cell} {g T : Nat} {cs : Array Value} {α : Type} {k : Kd α} {ks : List Value} {x : α} (hM : Mem w G X u (c0 :: c1 :: c2 :: c3 :: c4 :: c5 :: c6 :: c7 :: c8 :: c9 :: c10 :: c11 :: c12 :: .box g cs T :: L) F) (h : Mem w G X u (c0 :: c1 :: c2 :: c3 :: c4 :: c5 :: c6 :: c7 :: c8 :: c9 :: c10 :: c11 :: c12 :: L) F → u.heap[g]? = some (.cells cs T (0, 0)) → ¬ av X (c0 :: c1 :: c2 :: c3 :: c4 :: c5 :: c6 :: c7 :: c8 :: c9 :: c10 :: c11 :: c12 :: L) g → k.R (av X (c0 :: c1 :: c2 :: c3 :: c4 :: c5 :: c6 :: c7 :: c8 :: c9 :: c10 :: c11 :: c12 :: L)) u ks x) : Mem w G X u (c0 :: c1 :: c2 :: c3 :: c4 :: c5 :: c6 :: c7 :: c8 :: c9 :: c10 :: c11 :: c12 :: L) (⟨k, ks, x⟩ :: F) := Mem.pb (L₁ := [c0, c1, c2, c3, c4, c5, c6, c7, c8, c9, c10, c11, c12]) hM h
theorem Mem.st14 {c0 c1 c2 c3 c4 c5 c6 c7 c8 c9 c10 c11 c12 c13 : Cell} {g : Nat} {cs cs' : Array Value} {T : TypeId} (hM : Mem w G X u (c0 :: c1 :: c2 :: c3 :: c4 :: c5 :: c6 :: c7 :: c8 :: c9 :: c10 :: c11 :: c12 :: c13 :: .box g cs T :: L) F) (hs : Stored u g cs' T u') : Mem w G X u' (c0 :: c1 :: c2 :: c3 :: c4 :: c5 :: c6 :: c7 :: c8 :: c9 :: c10 :: c11 :: c12 :: c13 :: .box g cs' T :: L) F := Mem.st (L₁ := [c0, c1, c2, c3, c4, c5, c6, c7, c8, c9, c10, c11, c12, c13]) hM hs
theorem Mem.pb14 {c0 c1 c2 c3 c4 c5 c6 c7 c8 c9 c10 c11 c12 c13 : Cell} {g T : Nat} {cs : Array Value} {α : Type} {k : Kd α} {ks : List Value} {x : α} (hM : Mem w G X u (c0 :: c1 :: c2 :: c3 :: c4 :: c5 :: c6 :: c7 :: c8 :: c9 :: c10 :: c11 :: c12 :: c13 :: .box g cs T :: L) F) (h : Mem w G X u (c0 :: c1 :: c2 :: c3 :: c4 :: c5 :: c6 :: c7 :: c8 :: c9 :: c10 :: c11 :: c12 :: c13 :: L) F → u.heap[g]? = some (.cells cs T (0, 0)) → ¬ av X (c0 :: c1 :: c2 :: c3 :: c4 :: c5 :: c6 :: c7 :: c8 :: c9 :: c10 :: c11 :: c12 :: c13 :: L) g → k.R (av X (c0 :: c1 :: c2 :: c3 :: c4 :: c5 :: c6 :: c7 :: c8 :: c9 :: c10 :: c11 :: c12 :: c13 :: L)) u ks x) : Mem w G X u (c0 :: c1 :: c2 :: c3 :: c4 :: c5 :: c6 :: c7 :: c8 :: c9 :: c10 :: c11 :: c12 :: c13 :: L) (⟨k, ks, x⟩ :: F) := Mem.pb (L₁ := [c0, c1, c2, c3, c4, c5, c6, c7, c8, c9, c10, c11, c12, c13]) hM h
theorem Mem.st15 {c0 c1 c2 c3 c4 c5 c6 c7 c8 c9 c10 c11 c12 c13 c14 : Cell} {g : Nat} {cs cs' : Array Value} {T : TypeId} (hM : Mem w G X u (c0 :: c1 :: c2 :: c3 :: c4 :: c5 :: c6 :: c7 :: c8 :: c9 :: c10 :: c11 :: c12 :: c13 :: c14 :: .box g cs T :: L) F) (hs : Stored u g cs' T u') : Mem w G X u' (c0 :: c1 :: c2 :: c3 :: c4 :: c5 :: c6 :: c7 :: c8 :: c9 :: c10 :: c11 :: c12 :: c13 :: c14 :: .box g cs' T :: L) F := Mem.st (L₁ := [c0, c1, c2, c3, c4, c5, c6, c7, c8, c9, c10, c11, c12, c13, c14]) hM hs
theorem Mem.pb15 {c0 c1 c2 c3 c4 c5 c6 c7 c8 c9 c10 c11 c12 c13 c14 : Cell} {g T : Nat} {cs : Array Value} {α : Type} {k : Kd α} {ks : List Value} {x : α} (hM : Mem w G X u (c0 :: c1 :: c2 :: c3 :: c4 :: c5 :: c6 :: c7 :: c8 :: c9 :: c10 :: c11 :: c12 :: c13 :: c14 :: .box g cs T :: L) F) (h : Mem w G X u (c0 :: c1 :: c2 :: c3 :: c4 :: c5 :: c6 :: c7 :: c8 :: c9 :: c10 :: c11 :: c12 :: c13 :: c14 :: L) F → u.heap[g]? = some (.cells cs T (0, 0)) → ¬ av X (c0 :: c1 :: c2 :: c3 :: c4 :: c5 :: c6 :: c7 :: c8 :: c9 :: c10 :: c11 :: c12 :: c13 :: c14 :: L) g → k.R (av X (c0 :: c1 :: c2 :: c3 :: c4 :: c5 :: c6 :: c7 :: c8 :: c9 :: c10 :: c11 :: c12 :: c13 :: c14 :: L)) u ks x) : Mem w G X u (c0 :: c1 :: c2 :: c3 :: c4 :: c5 :: c6 :: c7 :: c8 :: c9 :: c10 :: c11 :: c12 :: c13 :: c14 :: L) (⟨k, ks, x⟩ :: F) := Mem.pb (L₁ := [c0, c1, c2, c3, c4, c5, c6, c7, c8, c9, c10, c11, c12, c13, c14]) hM h
theorem Mem.st16 {c0 c1 c2 c3 c4 c5 c6 c7 c8 c9 c10 c11 c12 c13 c14 c15 : Cell} {g : Nat} {cs cs' : Array Value} {T : TypeId} (hM : Mem w G X u (c0 :: c1 :: c2 :: c3 :: c4 :: c5 :: c6 :: c7 :: c8 :: c9 :: c10 :: c11 :: c12 :: c13 :: c14 :: c15 :: .box g cs T :: L) F) (hs : Stored u g cs' T u') : Mem w G X u' (c0 :: c1 :: c2 :: c3 :: c4 :: c5 :: c6 :: c7 :: c8 :: c9 :: c10 :: c11 :: c12 :: c13 :: c14 :: c15 :: .box g cs' T :: L) F := Mem.st (L₁ := [c0, c1, c2, c3, c4, c5, c6, c7, c8, c9, c10, c11, c12, c13, c14, c15]) hM hs
theorem Mem.pb16 {c0 c1 c2 c3 c4 c5 c6 c7 c8 c9 c10 c11 c12 c13 c14 c15 : Cell} {g T : Nat} {cs : Array Value} {α : Type} {k : Kd α} {ks : List Value} {x : α} (hM : Mem w G X u (c0 :: c1 :: c2 :: c3 :: c4 :: c5 :: c6 :: c7 :: c8 :: c9 :: c10 :: c11 :: c12 :: c13 :: c14 :: c15 :: .box g cs T :: L) F) (h : Mem w G X u (c0 :: c1 :: c2 :: c3 :: c4 :: c5 :: c6 :: c7 :: c8 :: c9 :: c10 :: c11 :: c12 :: c13 :: c14 :: c15 :: L) F → u.heap[g]? = some (.cells cs T (0, 0)) → ¬ av X (c0 :: c1 :: c2 :: c3 :: c4 :: c5 :: c6 :: c7 :: c8 :: c9 :: c10 :: c11 :: c12 :: c13 :: c14 :: c15 :: L) g → k.R (av X (c0 :: c1 :: c2 :: c3 :: c4 :: c5 :: c6 :: c7 :: c8 :: c9 :: c10 :: c11 :: c12 :: c13 :: c14 :: c15 :: L)) u ks x) : Mem w G X u (c0 :: c1 :: c2 :: c3 :: c4 :: c5 :: c6 :: c7 :: c8 :: c9 :: c10 :: c11 :: c12 :: c13 :: c14 :: c15 :: L) (⟨k, ks, x⟩ :: F) := Mem.pb (L₁ := [c0, c1, c2, c3, c4, c5, c6, c7, c8, c9, c10, c11, c12, c13, c14, c15]) hM h
theorem Mem.st17 {c0 c1 c2 c3 c4 c5 c6 c7 c8 c9 c10 c11 c12 c13 c14 c15 c16 : Cell} {g : Nat} {cs cs' : Array Value} {T : TypeId} (hM : Mem w G X u (c0 :: c1 :: c2 :: c3 :: c4 :: c5 :: c6 :: c7 :: c8 :: c9 :: c10 :: c11 :: c12 :: c13 :: c14 :: c15 :: c16 :: .box g cs T :: L) F) (hs : Stored u g cs' T u') : Mem w G X u' (c0 :: c1 :: c2 :: c3 :: c4 :: c5 :: c6 :: c7 :: c8 :: c9 :: c10 :: c11 :: c12 :: c13 :: c14 :: c15 :: c16 :: .box g cs' T :: L) F := Mem.st (L₁ := [c0, c1, c2, c3, c4, c5, c6, c7, c8, c9, c10, c11, c12, c13, c14, c15, c16]) hM hs
theorem Mem.pb17 {c0 c1 c2 c3 c4 c5 c6 c7 c8 c9 c10 c11 c12 c13 c14 c15 c16 : Cell} {g T : Nat} {cs : Array Value} {α : Type} {k : Kd α} {ks : List Value} {x : α} (hM : Mem w G X u (c0 :: c1 :: c2 :: c3 :: c4 :: c5 :: c6 :: c7 :: c8 :: c9 :: c10 :: c11 :: c12 :: c13 :: c14 :: c15 :: c16 :: .box g cs T :: L) F) (h : Mem w G X u (c0 :: c1 :: c2 :: c3 :: c4 :: c5 :: c6 :: c7 :: c8 :: c9 :: c10 :: c11 :: c12 :: c13 :: c14 :: c15 :: c16 :: L) F → u.heap[g]? = some (.cells cs T (0, 0)) → ¬ av X (c0 :: c1 :: c2 :: c3 :: c4 :: c5 :: c6 :: c7 :: c8 :: c9 :: c10 :: c11 :: c12 :: c13 :: c14 :: c15 :: c16 :: L) g → k.R (av X (c0 :: c1 :: c2 :: c3 :: c4 :: c5 :: c6 :: c7 :: c8 :: c9 :: c10 :: c11 :: c12 :: c13 :: c14 :: c15 :: c16 :: L)) u ks x) : Mem w G X u (c0 :: c1 :: c2 :: c3 :: c4 :: c5 :: c6 :: c7 :: c8 :: c9 :: c10 :: c11 :: c12 :: c13 :: c14 :: c15 :: c16 :: L) (⟨k, ks, x⟩ :: F) := Mem.pb (L₁ := [c0, c1, c2, c3, c4, c5, c6, c7, c8, c9, c10, c11, c12, c13, c14, c15, c16]) hM h
theorem Mem.st18 {c0 c1 c2 c3 c4 c5 c6 c7 c8 c9 c10 c11 c12 c13 c14 c15 c16 c17 : Cell} {g : Nat} {cs cs' : Array Value} {T : TypeId} (hM : Mem w G X u (c0 :: c1 :: c2 :: c3 :: c4 :: c5 :: c6 :: c7 :: c8 :: c9 :: c10 :: c11 :: c12 :: c13 :: c14 :: c15 :: c16 :: c17 :: .box g cs T :: L) F) (hs : Stored u g cs' T u') : Mem w G X u' (c0 :: c1 :: c2 :: c3 :: c4 :: c5 :: c6 :: c7 :: c8 :: c9 :: c10 :: c11 :: c12 :: c13 :: c14 :: c15 :: c16 :: c17 :: .box g cs' T :: L) F := Mem.st (L₁ := [c0, c1, c2, c3, c4, c5, c6, c7, c8, c9, c10, c11, c12, c13, c14, c15, c16, c17]) hM hs
theorem Mem.pb18 {c0 c1 c2 c3 c4 c5 c6 c7 c8 c9 c10 c11 c12 c13 c14 c15 c16 c17 : Cell} {g T : Nat} {cs : Array Value} {α : Type} {k : Kd α} {ks : List Value} {x : α} (hM : Mem w G X u (c0 :: c1 :: c2 :: c3 :: c4 :: c5 :: c6 :: c7 :: c8 :: c9 :: c10 :: c11 :: c12 :: c13 :: c14 :: c15 :: c16 :: c17 :: .box g cs T :: L) F) (h : Mem w G X u (c0 :: c1 :: c2 :: c3 :: c4 :: c5 :: c6 :: c7 :: c8 :: c9 :: c10 :: c11 :: c12 :: c13 :: c14 :: c15 :: c16 :: c17 :: L) F → u.heap[g]? = some (.cells cs T (0, 0)) → ¬ av X (c0 :: c1 :: c2 :: c3 :: c4 :: c5 :: c6 :: c7 :: c8 :: c9 :: c10 :: c11 :: c12 :: c13 :: c14 :: c15 :: c16 :: c17 :: L) g → k.R (av X (c0 :: c1 :: c2 :: c3 :: c4 :: c5 :: c6 :: c7 :: c8 :: c9 :: c10 :: c11 :: c12 :: c13 :: c14 :: c15 :: c16 :: c17 :: L)) u ks x) : Mem w G X u (c0 :: c1 :: c2 :: c3 :: c4 :: c5 :: c6 :: c7 :: c8 :: c9 :: c10 :: c11 :: c12 :: c13 :: c14 :: c15 :: c16 :: c17 :: L) (⟨k, ks, x⟩ :: F) := Mem.pb (L₁ := [c0, c1, c2, c3, c4, c5, c6, c7, c8, c9, c10, c11, c12, c13, c14, c15, c16, c17]) hM h
theorem Mem.st19 {c0 c1 c2 c3 c4 c5 c6 c7 c8 c9 c10 c11 c12 c13 c14 c15 c16 c17 c18 : Cell} {g : Nat} {cs cs' : Array Value} {T : TypeId} (hM : Mem w G X u (c0 :: c1 :: c2 :: c3 :: c4 :: c5 :: c6 :: c7 :: c8 :: c9 :: c10 :: c11 :: c12 :: c13 :: c14 :: c15 :: c16 :: c17 :: c18 :: .box g cs T :: L) F) (hs : Stored u g cs' T u') : Mem w G X u' (c0 :: c1 :: c2 :: c3 :: c4 :: c5 :: c6 :: c7 :: c8 :: c9 :: c10 :: c11 :: c12 :: c13 :: c14 :: c15 :: c16 :: c17 :: c18 :: .box g cs' T :: L) F := Mem.st (L₁ := [c0, c1, c2, c3, c4, c5, c6, c7, c8, c9, c10, c11, c12, c13, c14, c15, c16, c17, c18]) hM hs
theorem Mem.pb19 {c0 c1 c2 c3 c4 c5 c6 c7 c8 c9 c10 c11 c12 c13 c14 c15 c16 c17 c18 : Cell} {g T : Nat} {cs : Array Value} {α : Type} {k : Kd α} {ks : List Value} {x : α} (hM : Mem w G X u (c0 :: c1 :: c2 :: c3 :: c4 :: c5 :: c6 :: c7 :: c8 :: c9 :: c10 :: c11 :: c12 :: c13 :: c14 :: c15 :: c16 :: c17 :: c18 :: .box g cs T :: L) F) (h : Mem w G X u (c0 :: c1 :: c2 :: c3 :: c4 :: c5 :: c6 :: c7 :: c8 :: c9 :: c10 :: c11 :: c12 :: c13 :: c14 :: c15 :: c16 :: c17 :: c18 :: L) F → u.heap[g]? = some (.cells cs T (0, 0)) → ¬ av X (c0 :: c1 :: c2 :: c3 :: c4 :: c5 :: c6 :: c7 :: c8 :: c9 :: c10 :: c11 :: c12 :: c13 :: c14 :: c15 :: c16 :: c17 :: c18 :: L) g → k.R (av X (c0 :: c1 :: c2 :: c3 :: c4 :: c5 :: c6 :: c7 :: c8 :: c9 :: c10 :: c11 :: c12 :: c13 :: c14 :: c15 :: c16 :: c17 :: c18 :: L)) u ks x) : Mem w G X u (c0 :: c1 :: c2 :: c3 :: c4 :: c5 :: c6 :: c7 :: c8 :: c9 :: c10 :: c11 :: c12 :: c13 :: c14 :: c15 :: c16 :: c17 :: c18 :: L) (⟨k, ks, x⟩ :: F) := Mem.pb (L₁ := [c0, c1, c2, c3, c4, c5, c6, c7, c8, c9, c10, c11, c12, c13, c14, c15, c16, c17, c18]) hM h
theorem Mem.st20 {c0 c1 c2 c3 c4 c5 c6 c7 c8 c9 c10 c11 c12 c13 c14 c15 c16 c17 c18 c19 : Cell} {g : Nat} {cs cs' : Array Value} {T : TypeId} (hM : Mem w G X u (c0 :: c1 :: c2 :: c3 :: c4 :: c5 :: c6 :: c7 :: c8 :: c9 :: c10 :: c11 :: c12 :: c13 :: c14 :: c15 :: c16 :: c17 :: c18 :: c19 :: .box g cs T :: L) F) (hs : Stored u g cs' T u') : Mem w G X u' (c0 :: c1 :: c2 :: c3 :: c4 :: c5 :: c6 :: c7 :: c8 :: c9 :: c10 :: c11 :: c12 :: c13 :: c14 :: c15 :: c16 :: c17 :: c18 :: c19 :: .box g cs' T :: L) F := Mem.st (L₁ := [c0, c1, c2, c3, c4, c5, c6, c7, c8, c9, c10, c11, c12, c13, c14, c15, c16, c17, c18, c19]) hM hs
theorem Mem.pb20 {c0 c1 c2 c3 c4 c5 c6 c7 c8 c9 c10 c11 c12 c13 c14 c15 c16 c17 c18 c19 : Cell} {g T : Nat} {cs : Array Value} {α : Type} {k : Kd α} {ks : List Value} {x : α} (hM : Mem w G X u (c0 :: c1 :: c2 :: c3 :: c4 :: c5 :: c6 :: c7 :: c8 :: c9 :: c10 :: c11 :: c12 :: c13 :: c14 :: c15 :: c16 :: c17 :: c18 :: c19 :: .box g cs T :: L) F) (h : Mem w G X u (c0 :: c1 :: c2 :: c3 :: c4 :: c5 :: c6 :: c7 :: c8 :: c9 :: c10 :: c11 :: c12 :: c13 :: c14 :: c15 :: c16 :: c17 :: c18 :: c19 :: L) F → u.heap[g]? = some (.cells cs T (0, 0)) → ¬ av X (c0 :: c1 :: c2 :: c3 :: c4 :: c5 :: c6 :: c7 :: c8 :: c9 :: c10 :: c11 :: c12 :: c13 :: c14 :: c15 :: c16 :: c17 :: c18 :: c19 :: L) g → k.R (av X (c0 :: c1 :: c2 :: c3 :: c4 :: c5 :: c6 :: c7 :: c8 :: c9 :: c10 :: c11 :: c12 :: c13 :: c14 :: c15 :: c16 :: c17 :: c18 :: c19 :: L)) u ks x) : Mem w G X u (c0 :: c1 :: c2 :: c3 :: c4 :: c5 :: c6 :: c7 :: c8 :: c9 :: c10 :: c11 :: c12 :: c13 :: c14 :: c15 :: c16 :: c17 :: c18 :: c19 :: L) (⟨k, ks, x⟩ :: F) := Mem.pb (L₁ := [c0, c1, c2, c3, c4, c5, c6, c7, c8, c9, c10, c11, c12, c13, c14, c15, c16, c17, c18, c19]) hM h
theorem Mem.st21 {c0 c1 c2 c3 c4 c5 c6 c7 c8 c9 c10 c11 c12 c13 c14 c15 c16 c17 c18 c19 c20 : Cell} {g : Nat} {cs cs' : Array Value} {T : TypeId} (hM : Mem w G X u (c0 :: c1 :: c2 :: c3 :: c4 :: c5 :: c6 :: c7 :: c8 :: c9 :: c10 :: c11 :: c12 :: c13 :: c14 :: c15 :: c16 :: c17 :: c18 :: c19 :: c20 :: .box g cs T :: L) F) (hs : Stored u g cs' T u') : Mem w G X u' (c0 :: c1 :: c2 :: c3 :: c4 :: c5 :: c6 :: c7 :: c8 :: c9 :: c10 :: c11 :: c12 :: c13 :: c14 :: c15 :: c16 :: c17 :: c18 :: c19 :: c20 :: .box g cs' T :: L) F := Mem.st (L₁ := [c0, c1, c2, c3, c4, c5, c6, c7, c8, c9, c10, c11, c12, c13, c14, c15, c16, c17, c18, c19, c20]) hM hs
theorem Mem.pb21 {c0 c1 c2 c3 c4 c5 c6 c7 c8 c9 c10 c11 c12 c13 c14 c15 c16 c17 c18 c19 c20 : Cell} {g T : Nat} {cs : Array Value} {α : Type} {k : Kd α} {ks : List Value} {x : α} (hM : Mem w G X u (c0 :: c1 :: c2 :: c3 :: c4 :: c5 :: c6 :: c7 :: c8 :: c9 :: c10 :: c11 :: c12 :: c13 :: c14 :: c15 :: c16 :: c17 :: c18 :: c19 :: c20 :: .box g cs T :: L) F) (h : Mem w G X u (c0 :: c1 :: c2 :: c3 :: c4 :: c5 :: c6 :: c7 :: c8 :: c9 :: c10 :: c11 :: c12 :: c13 :: c14 :: c15 :: c16 :: c17 :: c18 :: c19 :: c20 :: L) F → u.heap[g]? = some (.cells cs T (0, 0)) → ¬ av X (c0 :: c1 :: c2 :: c3 :: c4 :: c5 :: c6 :: c7 :: c8 :: c9 :: c10 :: c11 :: c12 :: c13 :: c14 :: c15 :: c16 :: c17 :: c18 :: c19 :: c20 :: L) g → k.R (av X (c0 :: c1 :: c2 :: c3 :: c4 :: c5 :: c6 :: c7 :: c8 :: c9 :: c10 :: c11 :: c12 :: c13 :: c14 :: c15 :: c16 :: c17 :: c18 :: c19 :: c20 :: L)) u ks x) : Mem w G X u (c0 :: c1 :: c2 :: c3 :: c4 :: c5 :: c6 :: c7 :: c8 :: c9 :: c10 :: c11 :: c12 :: c13 :: c14 :: c15 :: c16 :: c17 :: c18 :: c19 :: c20 :: L) (⟨k, ks, x⟩ :: F) := Mem.pb (L₁ := [c0, c1, c2, c3, c4, c5, c6, c7, c8, c9, c10, c11, c12, c13, c14, c15, c16, c17, c18, c19, c20]) hM h
theorem Mem.st22 {c0 c1 c2 c3 c4 c5 c6 c7 c8 c9 c10 c11 c12 c13 c14 c15 c16 c17 c18 c19 c20 c21 : Cell} {g : Nat} {cs cs' : Array Value} {T : TypeId} (hM : Mem w G X u (c0 :: c1 :: c2 :: c3 :: c4 :: c5 :: c6 :: c7 :: c8 :: c9 :: c10 :: c11 :: c12 :: c13 :: c14 :: c15 :: c16 :: c17 :: c18 :: c19 :: c20 :: c21 :: .box g cs T :: L) F) (hs : Stored u g cs' T u') : Mem w G X u' (c0 :: c1 :: c2 :: c3 :: c4 :: c5 :: c6 :: c7 :: c8 :: c9 :: c10 :: c11 :: c12 :: c13 :: c14 :: c15 :: c16 :: c17 :: c18 :: c19 :: c20 :: c21 :: .box g cs' T :: L) F := Mem.st (L₁ := [c0, c1, c2, c3, c4, c5, c6, c7, c8, c9, c10, c11, c12, c13, c14, c15, c16, c17, c18, c19, c20, c21]) hM hs
theorem Mem.pb22 {c0 c1 c2 c3 c4 c5 c6 c7 c8 c9 c10 c11 c12 c13 c14 c15 c16 c17 c18 c19 c20 c21 : Cell} {g T : Nat} {cs : Array Value} {α : Type} {k : Kd α} {ks : List Value} {x : α} (hM : Mem w G X u (c0 :: c1 :: c2 :: c3 :: c4 :: c5 :: c6 :: c7 :: c8 :: c9 :: c10 :: c11 :: c12 :: c13 :: c14 :: c15 :: c16 :: c17 :: c18 :: c19 :: c20 :: c21 :: .box g cs T :: L) F) (h : Mem w G X u (c0 :: c1 :: c2 :: c3 :: c4 :: c5 :: c6 :: c7 :: c8 :: c9 :: c10 :: c11 :: c12 :: c13 :: c14 :: c15 :: c16 :: c17 :: c18 :: c19 :: c20 :: c21 :: L) F → u.heap[g]? = some (.cells cs T (0, 0)) → ¬ av X (c0 :: c1 :: c2 :: c3 :: c4 :: c5 :: c6 :: c7 :: c8 :: c9 :: c10 :: c11 :: c12 :: c13 :: c14 :: c15 :: c16 :: c17 :: c18 :: c19 :: c20 :: c21 :: L) g → k.R (av X (c0 :: c1 :: c2 :: c3 :: c4 :: c5 :: c6 :: c7 :: c8 :: c9 :: c10 :: c11 :: c12 :: c13 :: c14 :: c15 :: c16 :: c17 :: c18 :: c19 :: c20 :: c21 :: L)) u ks x) : Mem w G X u (c0 :: c1 :: c2 :: c3 :: c4 :: c5 :: c6 :: c7 :: c8 :: c9 :: c10 :: c11 :: c12 :: c13 :: c14 :: c15 :: c16 :: c17 :: c18 :: c19 :: c20 :: c21 :: L) (⟨k, ks, x⟩ :: F) := Mem.pb (L₁ := [c0, c1, c2, c3, c4, c5, c6, c7, c8, c9, c10, c11, c12, c13, c14, c15, c16, c17, c18, c19, c20, c21]) hM h
theorem Mem.st23 {c0 c1 c2 c3 c4 c5 c6 c7 c8 c9 c10 c11 c12 c13 c14 c15 c16 c17 c18 c19 c20 c21 c22 : Cell} {g : Nat} {cs cs' : Array Value} {T : TypeId} (hM : Mem w G X u (c0 :: c1 :: c2 :: c3 :: c4 :: c5 :: c6 :: c7 :: c8 :: c9 :: c10 :: c11 :: c12 :: c13 :: c14 :: c15 :: c16 :: c17 :: c18 :: c19 :: c20 :: c21 :: c22 :: .box g cs T :: L) F) (hs : Stored u g cs' T u') : Mem w G X u' (c0 :: c1 :: c2 :: c3 :: c4 :: c5 :: c6 :: c7 :: c8 :: c9 :: c10 :: c11 :: c12 :: c13 :: c14 :: c15 :: c16 :: c17 :: c18 :: c19 :: c20 :: c21 :: c22 :: .box g cs' T :: L) F := Mem.st (L₁ := [c0, c1, c2, c3, c4, c5, c6, c7, c8, c9, c10, c11, c12, c13, c14, c15, c16, c17, c18, c19, c20, c21, c22]) hM hs
theorem Mem.pb23 {c0 c1 c2 c3 c4 c5 c6 c7 c8 c9 c10 c11 c12 c13 c14 c15 c16 c17 c18 c19 c20 c21 c22 : Cell} {g T : Nat} {cs : Array Value} {α : Type} {k : Kd α} {ks : List Value} {x : α} (hM : Mem w G X u (c0 :: c1 :: c2 :: c3 :: c4 :: c5 :: c6 :: c7 :: c8 :: c9 :: c10 :: c11 :: c12 :: c13 :: c14 :: c15 :: c16 :: c17 :: c18 :: c19 :: c20 :: c21 :: c22 :: .box g cs T :: L) F) (h : Mem w G X u (c0 :: c1 :: c2 :: c3 :: c4 :: c5 :: c6 :: c7 :: c8 :: c9 :: c10 :: c11 :: c12 :: c13 :: c14 :: c15 :: c16 :: c17 :: c18 :: c19 :: c20 :: c21 :: c22 :: L) F → u.heap[g]? = some (.cells cs T (0, 0)) → ¬ av X (c0 :: c1 :: c2 :: c3 :: c4 :: c5 :: c6 :: c7 :: c8 :: c9 :: c10 :: c11 :: c12 :: c13 :: c14 :: c15 :: c16 :: c17 :: c18 :: c19 :: c20 :: c21 :: c22 :: L) g → k.R (av X (c0 :: c1 :: c2 :: c3 :: c4 :: c5 :: c6 :: c7 :: c8 :: c9 :: c10 :: c11 :: c12 :: c13 :: c14 :: c15 :: c16 :: c17 :: c18 :: c19 :: c20 :: c21 :: c22 :: L)) u ks x) : Mem w G X u (c0 :: c1 :: c2 :: c3 :: c4 :: c5 :: c6 :: c7 :: c8 :: c9 :: c10 :: c11 :: c12 :: c13 :: c14 :: c15 :: c16 :: c17 :: c18 :: c19 :: c20 :: c21 :: c22 :: L) (⟨k, ks, x⟩ :: F) := Mem.pb (L₁ := [c0, c1, c2, c3, c4, c5, c6, c7, c8, c9, c10, c11, c12, c13, c14, c15, c16, c17, c18, c19, c20, c21, c22]) hM h
end
end Cps
