/-
  WholeFolds answers true, whatever its arguments: its row and its tied card, proved.
-/
import Derived.Test.YtklnjhlidfclmaaGreatDoorCards
import Derived.Test.YtklnjhlidfclmaaGreatDoorTie
import Derived.Test.YtklnjhlidfclmaaGreatDoorC4
import Derived.ProofKit
import Derived.ChangeMaps5
import Derived.Deep.SlicePairs
import Derived.OpenShut
import Derived.LaidMore
import Derived.Lay
import Derived.SevenTiedAt
import Derived.Stop.Joined
import Derived.Lib.SmallJoins
namespace Go.Proofs.YtklnjhlidfclmaaGreatDoor
open Go.ChangeShapes Go.WideShapes Go.ChangeAt Go.RowKit Go.Joins

theorem wholeFoldsOwn : ownKnob Tryz.prog.godebug = none := by kernel_rfl
theorem wholeFoldsLaidOut : laidOutB Tryz.prog = true := by kernel_rfl
set_option maxRecDepth 100000 in
theorem open_pairs0 {H : Type} {enc : TypeId × Value → H} {W : World} {b0 : Nat} {r : Reach} {v : Value} {d : DataW H} {p : List MemPlace} (hv : Value.okWide Tryz.prog W r b0 96 v) (h : DataW.Trod enc Tryz.prog W 0 (fun _ => true) true 96 v d p) :
    ∃ (A : Option Addr) (n c : Nat) (xs : List (Int × Int)), v = .slice A n c ∧ (Cps.LKd Cps.P2k 60 2).R (fun _ => False) W [.slice A n c] xs ∧ ∀ i, i < xs.length → (-9223372036854775808 ≤ (xs.getD i (0, 0)).1 ∧ (xs.getD i (0, 0)).1 ≤ 9223372036854775807) ∧ (-9223372036854775808 ≤ (xs.getD i (0, 0)).2 ∧ (xs.getD i (0, 0)).2 ≤ 9223372036854775807) := by
  obtain ⟨a0, len, cap, rfl⟩ := okWide_slice Tryz.underlying96 hv
  obtain ⟨fuel, hf⟩ := h
  rcases Go.Deep.open_slice_pairs Tryz.underlying96 Tryz.underlying60 (by kernel_rfl) rfl rfl (by kernel_rfl) (by kernel_rfl) hf with ⟨hcs, hx⟩ | ⟨a, len', cap', m, n, V0, V1, D0, D1, P0, P1, hcs, _, hl, hm, hmm, hx, hall⟩
  · simp [Value.cells] at hcs
    obtain ⟨rfl, rfl, rfl⟩ := hcs
    exact ⟨none, 0, 0, [], rfl, Cps.LKd.nil _ _ none 0, fun i hi => by simp at hi⟩
  · simp [Value.cells] at hcs
    obtain ⟨rfl, rfl, rfl⟩ := hcs
    simp only [maxLen] at hm
    have hlm : len ≤ m := by rw [hmm]; simp only [if_true]; exact hl
    refine ⟨some a, len, cap, _, rfl, Cps.pairs_of hl hm (V0 := V0) (V1 := V1) (fun i hi => ?_), ?_⟩
    · obtain ⟨h1, h2, h3, h4⟩ := hall i (by omega)
      obtain ⟨x, e1, _, _⟩ := DataW.trod_int Tryz.underlying2 h3
      obtain ⟨y, e2, _, _⟩ := DataW.trod_int Tryz.underlying2 h4
      simp only [List.cons.injEq, and_true] at e1 e2
      exact ⟨h1, h2, ⟨x, e1⟩, ⟨y, e2⟩⟩
    · intro i hi
      have hi' : i < len := by simpa using hi
      obtain ⟨h1, h2, h3, h4⟩ := hall i (by omega)
      obtain ⟨x, e1, _, w1⟩ := DataW.trod_int Tryz.underlying2 h3
      obtain ⟨y, e2, _, w2⟩ := DataW.trod_int Tryz.underlying2 h4
      simp only [List.cons.injEq, and_true] at e1 e2
      rw [Cps.pairs_get hi', e1, e2]
      exact ⟨bounds_i64 w1, bounds_i64 w2⟩
set_option maxRecDepth 100000 in
theorem wholeFolds_lifted (os : Os) (started : os.Started) (H : Type) (enc : TypeId × Value → H) :
    ReturnsInHanded {} Tryz.checked os 10 .any (fun w args => (Rows.wholeFoldsSpec.pre enc Tryz.prog Tryz.f10 Rows.wholeFoldsRow.domain false w args ∧ laidMetH Tryz.prog Rows.wholeFoldsRow.laid w) ∧ sizedMet enc Tryz.prog Tryz.f10 (OpenSpec.ofChange Rows.wholeFoldsSpec) false w args)
      (Rows.wholeFoldsSpec.post enc Tryz.prog Tryz.f10 false true false false) := by
  refine returnsInHanded_of_change_and (C := Tryz.checked) (X := fun w _ => laidMetH Tryz.prog Rows.wholeFoldsRow.laid w) (fun _ _ _ hh h => h.of_heap hh) wholeFoldsOwn started (by kernel_rfl) Tryz.func10
    (ChangeSpec.witness_shaped (enc := enc) (C := Tryz.checked) (os := os) (X := fun w _ => laidMetH Tryz.prog Rows.wholeFoldsRow.laid w) false (World.laidAll Tryz.prog os Rows.wholeFoldsRow.laid) #[.slice none 0 0] 8 (World.laidAll_os _ _ _)
      (World.shaped_of_ZipB (by kernel_rfl) (by kernel_rfl)) (by kernel_rfl) (by kernel_rfl) (by kernel_rfl)
      (by rw [MakeChecks.laidMetH_plain _ _ _ (by kernel_rfl)]; exact laidMet_laidAll _ (by kernel_rfl) (by kernel_rfl))) ?_
  intro W base args ds gs before hval0 hW _ _ _ _
  have hval : ∀ (j : Nat) t v, Tryz.f10.params[j]? = some t → args[j]? = some v → Value.okWide Tryz.prog W .any base t v := hval0
  have hW' := hW
  obtain ⟨p, q, hA0, hV, rfl, _, _⟩ := hW
  have hA : DataW.TrodAll enc Tryz.prog W 0 (fun _ => true) true Tryz.f10.params.toList args.toList ds p := hA0
  rw [Tryz.params10] at hA hval
  obtain ⟨v0, d0, rfl, rfl, h0⟩ := trodAll_one hA
  obtain ⟨rfl, rfl⟩ := trodVars_none hV
  obtain ⟨x0A, x0n, x0c, x0, rfl, x0L, x0w⟩ := open_pairs0 (hval 0 96 v0 rfl rfl) h0
  simp only [List.append_nil] at hW'
  refine (folds_ok (w := W) (X := fun _ => False) (fun _ h => h.elim) x0L x0w).mono fun e W' ⟨he, hb⟩ => ?_
  subst he
  have back_NumL : ∀ {v : Value} {d : DataW H} {q : List MemPlace}, DataW.Trod enc Tryz.prog W 0 (fun _ => true) true 96 v d q → DataW.Trod enc Tryz.prog W' 0 (fun b => decide (b < W.heap.size)) true 96 v d q :=
    fun h => Below.trod wholeFoldsLaidOut (by kernel_rfl) (of_decide_eq_true (by kernel_rfl)) h hb (let ⟨n, hn⟩ := h; DataW.trod_lt n _ _ _ hn)
  exact ⟨_, rfl, _, _, _, [], _, [], hW', trodAll_mk1 (shut_bool Tryz.underlying4 _), trodAll_mk1 (back_NumL h0), rfl, hb.frame _, fun h => by cases h⟩

theorem wholeFolds_row : Rows.WholeFoldsSaid :=
  OpenClaim.holds_of_wide 10 Tryz.f10 rfl rfl rfl rfl rfl rfl rfl ⟨rfl, rfl, rfl, rfl, rfl⟩ rfl rfl rfl rfl rfl (by kernel_rfl) Tryz.func10 (by kernel_rfl)
    (of_decide_eq_true (by kernel_rfl)) (by unfold Func.isWrapper; rw [if_neg (of_decide_eq_false (by kernel_rfl))]; exact ⟨rfl, rfl⟩)
    (fun os started H enc _ => wholeFolds_lifted os started H enc)
theorem wholeFolds_holds : Rows.WholeFoldsCardSaid :=
  Claim7.holds_tied_plain_at .later [] [.data, .pinned] true (true, "3863f6ea86578db4fa36359ee730971cae68c569cb569843fc704e6741cd1471") false wholeFolds_row (fun _ h => by cases h) (by kernel_rfl) (fun _ h => by cases h) wholeFolds_row_tie rfl ⟨rfl, rfl⟩ (by kernel_rfl) rfl
    (fun f fn hf hfn => by
      obtain rfl : f = 10 := Option.some.inj ((show Tryz.prog.funcNamed "copestone/copestonelaw01.WholeFolds" = some 10 by kernel_rfl).symm.trans hf) |>.symm
      obtain rfl : fn = Tryz.f10 := (Option.some.inj (Tryz.func10.symm.trans hfn)).symm
      exact ⟨by kernel_rfl, fun j t ht => by
        rw [Tryz.params10] at ht
        have hm : t ∈ [96] := by simpa using Array.mem_of_getElem? ht
        have hall : ([96].all fun u => !Tryz.prog.wantsStandIn u) = true := by kernel_rfl
        exact (show Tryz.prog.wantsStandIn t = false by simpa using List.all_eq_true.1 hall t hm)⟩)
    (by kernel_rfl)
#print axioms wholeFolds_holds
end Go.Proofs.YtklnjhlidfclmaaGreatDoor
