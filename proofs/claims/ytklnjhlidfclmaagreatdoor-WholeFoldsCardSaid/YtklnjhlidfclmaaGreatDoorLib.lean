/- The library's functions on strings, in the form of the contracts. -/
import Derived.Test.YtklnjhlidfclmaaGreatDoorRowS
import Derived.Test.YtklnjhlidfclmaaGreatDoorTxt
import Derived.Test.YtklnjhlidfclmaaGreatDoorShelf
import Derived.Shelf.Strings.SlTrimAscii
set_option linter.unusedVariables false
set_option linter.unusedSimpArgs false
namespace Go.Proofs.YtklnjhlidfclmaaGreatDoor
open Go.RowKit Cps

theorem Below.same {w : World} {e : Ending} {w' : World} {n : Nat} (h : w' = w) : Below n w w' := by subst h; exact Below.refl _ _

theorem join_ok {w : World} {X : Nat → Prop} {A1 : Option Addr} {n1 : Nat} {c1 : Nat} {P : List (List UInt8)} (hX : ∀ k, X k → k < w.heap.size) (h1 : SLk.R X w [.slice A1 n1 c1] P) (p1 : P.flatten.length ≤ 140737488355328) (p2 : P.length ≤ 140737488355328) :
    Calls Tryz.prog 138 #[.slice A1 n1 c1, .string (bs [])] w (fun e w' => e = .returned (.string (bs P.flatten)) ∧ Below w.heap.size w w') := by
  have hl := SLk.len h1
  have hc : n1 ≤ c1 := h1.2
  have hj : ∀ Q : List (List UInt8), Lib.join Q [] = Q.flatten := fun Q => by
    induction Q with
    | nil => rfl
    | cons a Q ih => rw [Lib.join_cons]; simp [Lib.joinTail]
  rcases Nat.eq_zero_or_pos n1 with h0 | h0
  · subst h0
    have : P = [] := List.length_eq_zero_iff.1 hl
    subst this
    refine (Tryz.strings_Join_none A1 c1 _ w).mono fun e w' h => ⟨h.1, ?_⟩
    rw [h.2]; exact Below.refl _ _
  · obtain ⟨g, off, cs, fr, rfl, hg, hcs⟩ := (SLk.row h1).2.2 h0
    have hlt : g < w.heap.size := by
      rcases Nat.lt_or_ge g w.heap.size with h | h
      · exact h
      · rw [Array.getElem?_eq_none h] at hg; cases hg
    have e : (P.map bs).length = n1 := by simpa using hl
    have hm : (P.map bs).map (·.data.toList) = P := by simp [bs, Function.comp_def]
    have h := Tryz.strings_Join g off c1 (P.map bs) (bs []) w (fun j x hx => by
      have hj' : j < n1 := by rw [← e]; exact (List.getElem?_eq_some_iff.1 hx).1
      obtain ⟨ad, had, hc⟩ := (SLk.row h1).at_ j hj'
      cases had
      have hx2 : P[j]?.map bs = some x := by rw [← List.getElem?_map]; exact hx
      obtain ⟨l, hl2, rfl⟩ := Option.map_eq_some_iff.1 hx2
      have hl3 := (List.getElem?_eq_some_iff.1 hl2).2
      rw [add_at] at hc
      rw [hc]; simp only [strs, List.getElem_map, hl3]) hlt (by rw [e, ← hl]; exact p2) (by rw [e]; exact hc) (by rw [hm, show (bs []).data.toList = [] from rfl, hj]; exact p1)
    rw [e, hm, show (bs []).data.toList = [] from rfl, hj] at h
    exact h

theorem trimleft_ok {w : World} {X : Nat → Prop} (hX : ∀ k, X k → k < w.heap.size) (s : List UInt8) :
    Calls Tryz.prog 137 #[.string (bs s), .string (bs [48])] w (fun e w' => e = .returned (.string (bs (s.dropWhile (· == 48)))) ∧ Below w.heap.size w w') := by
  refine (Tryz.strings_TrimLeft_one (bs s) 48 (by decide) w).mono fun e w' h => ⟨h.1, ?_⟩
  rw [h.2]; exact Below.refl _ _

/-- A decimal digit's byte. -/
def isDg (c : UInt8) : Bool := ([48, 49, 50, 51, 52, 53, 54, 55, 56, 57] : List UInt8).contains c
theorem drop_nil {p : UInt8 → Bool} (l : List UInt8) : l.dropWhile p = [] ↔ l.all p = true := by
  induction l with
  | nil => simp
  | cons a l ih =>
    rw [List.dropWhile_cons, List.all_cons, Bool.and_eq_true]
    by_cases h : p a = true
    · rw [if_pos h, ih]; exact ⟨fun x => ⟨h, x⟩, fun x => x.2⟩
    · rw [if_neg h]; exact ⟨fun x => (by cases x), fun x => absurd x.1 h⟩
theorem drop_head {p : UInt8 → Bool} (l : List UInt8) {a : UInt8} {m : List UInt8} (h : l.dropWhile p = a :: m) : p a = false := by
  induction l with
  | nil => cases h
  | cons b l ih =>
    rw [List.dropWhile_cons] at h
    by_cases hb : p b = true
    · rw [if_pos hb] at h; exact ih h
    · rw [if_neg hb] at h; cases h; simpa using hb
theorem trimS_nil (s : List UInt8) : Lib.trimS s [48, 49, 50, 51, 52, 53, 54, 55, 56, 57] = [] ↔ s.all isDg = true := by
  have e : s.all isDg = s.reverse.all isDg := by rw [List.all_reverse]
  have hu : Lib.trimS s [48, 49, 50, 51, 52, 53, 54, 55, 56, 57] = (s.reverse.dropWhile isDg).reverse.dropWhile isDg := rfl
  rw [hu, e]
  constructor
  · intro h
    cases hd : s.reverse.dropWhile isDg with
    | nil => exact (drop_nil _).1 hd
    | cons a m =>
      have h1 := drop_head _ hd
      have h2 := (drop_nil _).1 h
      rw [hd, List.all_reverse, List.all_cons, h1] at h2; cases h2
  · intro h
    rw [(drop_nil _).2 h]; rfl
theorem trim_ok {w : World} {X : Nat → Prop} (hX : ∀ k, X k → k < w.heap.size) (s : List UInt8) (p1 : s.length ≤ 9223372036854775807) :
    Calls Tryz.prog 135 #[.string (bs s), .string (bs [48, 49, 50, 51, 52, 53, 54, 55, 56, 57])] w (fun e w' => e = .returned (.string (bs (Lib.trimS s [48, 49, 50, 51, 52, 53, 54, 55, 56, 57]))) ∧ Below w.heap.size w w') :=
  Any.strings_Trim_laid Tryz.lays160 (by kernel_rfl) (bs s) (bs [48, 49, 50, 51, 52, 53, 54, 55, 56, 57]) w (by rw [bs_size]; exact p1) (by decide) (ascii_of_all (by decide))

theorem cutprefix_ok {w : World} {X : Nat → Prop} (hX : ∀ k, X k → k < w.heap.size) (s : List UInt8) :
    Calls Tryz.prog 110 #[.string (bs s), .string (bs [45])] w (fun e w' => e = .returned (.tuple #[.string (bs (strip s)), .bool (decide (s.head? = some 45))]) ∧ Below w.heap.size w w') := by
  have hp : Lib.hasPrefix s [45] = decide (s.head? = some 45) := by
    cases s with
    | nil => rfl
    | cons a s => 
      show ((45 == a) && true) = decide (some a = some 45)
      rw [Bool.and_true, Bool.eq_iff_iff, beq_iff_eq, decide_eq_true_iff, Option.some.injEq]; exact eq_comm
  have ht : Lib.trimPrefix s [45] = strip s := by
    unfold Lib.trimPrefix strip; rw [hp]; by_cases h : s.head? = some 45
    · rw [if_pos h, if_pos (decide_eq_true h)]; rfl
    · rw [if_neg h, if_neg (by rw [decide_eq_false h]; decide)]
  refine (Tryz.strings_CutPrefix (bs s) (bs [45]) w).mono fun e w' h => ⟨?_, ?_⟩
  · rw [h.1, show (bs s).data.toList = s from rfl, show (bs [45]).data.toList = [45] from rfl, ht, hp]
  · rw [h.2]; exact Below.refl _ _

theorem index1_ok {w : World} {X : Nat → Prop} (hX : ∀ k, X k → k < w.heap.size) (s : List UInt8) :
    Calls Tryz.prog 150 #[.string (bs s), .string (bs [47])] w (fun e w' => e = .returned (.int .i64 (Lib.indexByte s 47)) ∧ Below w.heap.size w w') := by
  refine (Tryz.stringslite_Index_one (bs s) 47 w).mono fun e w' h => ⟨h.1, ?_⟩
  rw [h.2]; exact Below.refl _ _
end Go.Proofs.YtklnjhlidfclmaaGreatDoor
