/-
  WholeReads answers true, whatever its arguments: its row and its tied card, proved.
-/
import Derived.Test.YtklnjhlidfclmaaGreatDoorCards
import Derived.Test.YtklnjhlidfclmaaGreatDoorTie
import Derived.Test.YtklnjhlidfclmaaGreatDoorC4
import Derived.ProofKit
import Derived.ChangeMaps5
import Derived.OpenShut
import Derived.LaidMore
import Derived.Lay
import Derived.SevenTiedAt
import Derived.Stop.Joined
import Derived.Lib.SmallJoins
namespace Go.Proofs.YtklnjhlidfclmaaGreatDoor
open Go.ChangeShapes Go.WideShapes Go.ChangeAt Go.RowKit Go.Joins

theorem wholeReadsOwn : ownKnob Tryz.prog.godebug = none := by kernel_rfl
theorem wholeReadsLaidOut : laidOutB Tryz.prog = true := by kernel_rfl
set_option maxRecDepth 100000 in
theorem open_text {H : Type} {enc : TypeId × Value → H} {W : World} {base b0 : Nat} {spare : Nat → Bool} {held : Bool} {r : Reach} {v : Value} {d : DataW H} {p : List MemPlace} (hv : Value.okWide Tryz.prog W r b0 9 v) (h : DataW.Trod enc Tryz.prog W base spare held 9 v d p) :
    ∃ L : List UInt8, v = .string (Cps.bs L) ∧ p = [] ∧ L.length ≤ 9223372036854775807 := by
  obtain ⟨s, rfl, _, rfl, hs⟩ := Go.ChangeMaps.open_string Tryz.underlying9 hv h
  simp only [maxLen] at hs
  exact ⟨s.data.toList, rfl, rfl, hs⟩
set_option maxRecDepth 100000 in
theorem wholeReads_lifted (os : Os) (started : os.Started) (H : Type) (enc : TypeId × Value → H) :
    ReturnsInHanded {} Tryz.checked os 4 .any (fun w args => (Rows.wholeReadsSpec.pre enc Tryz.prog Tryz.f4 Rows.wholeReadsRow.domain false w args ∧ laidMetH Tryz.prog Rows.wholeReadsRow.laid w) ∧ sizedMet enc Tryz.prog Tryz.f4 (OpenSpec.ofChange Rows.wholeReadsSpec) false w args)
      (Rows.wholeReadsSpec.post enc Tryz.prog Tryz.f4 false true false false) := by
  refine returnsInHanded_of_change_and (C := Tryz.checked) (X := fun w _ => laidMetH Tryz.prog Rows.wholeReadsRow.laid w) (fun _ _ _ hh h => h.of_heap hh) wholeReadsOwn started (by kernel_rfl) Tryz.func4
    (ChangeSpec.witness_shaped (enc := enc) (C := Tryz.checked) (os := os) (X := fun w _ => laidMetH Tryz.prog Rows.wholeReadsRow.laid w) false (World.laidAll Tryz.prog os Rows.wholeReadsRow.laid) #[.string ⟨#[]⟩] 8 (World.laidAll_os _ _ _)
      (World.shaped_of_ZipB (by kernel_rfl) (by kernel_rfl)) (by kernel_rfl) (by kernel_rfl) (by kernel_rfl)
      (by rw [MakeChecks.laidMetH_plain _ _ _ (by kernel_rfl)]; exact laidMet_laidAll _ (by kernel_rfl) (by kernel_rfl))) ?_
  intro W base args ds gs before hval0 hW _ _ _ _
  have hval : ∀ (j : Nat) t v, Tryz.f4.params[j]? = some t → args[j]? = some v → Value.okWide Tryz.prog W .any base t v := hval0
  have hW' := hW
  obtain ⟨p, q, hA0, hV, rfl, _, _⟩ := hW
  have hA : DataW.TrodAll enc Tryz.prog W 0 (fun _ => true) true Tryz.f4.params.toList args.toList ds p := hA0
  rw [Tryz.params4] at hA hval
  obtain ⟨v0, d0, rfl, rfl, h0⟩ := trodAll_one hA
  obtain ⟨rfl, rfl⟩ := trodVars_none hV
  obtain ⟨x0, rfl, rfl, x0w⟩ := open_text (hval 0 9 v0 rfl rfl) h0
  simp only [List.append_nil] at hW'
  refine (reads_ok (w := W) (X := fun _ => False) (fun _ h => h.elim) x0 x0w).mono fun e W' ⟨he, hb⟩ => ?_
  subst he
  have back_s : ∀ {v : Value} {d : DataW H}, DataW.Trod enc Tryz.prog W 0 (fun _ => true) true 9 v d [] → DataW.Trod enc Tryz.prog W' 0 (fun b => decide (b < W.heap.size)) true 9 v d [] :=
    fun h => Below.trod wholeReadsLaidOut (by kernel_rfl) (of_decide_eq_true (by kernel_rfl)) h hb (fun x hx => by cases hx)
  exact ⟨_, rfl, _, _, _, [], [], [], hW', trodAll_mk1 (shut_bool Tryz.underlying4 _), trodAll_mk1 (back_s h0), rfl, hb.frame _, fun h => by cases h⟩

theorem wholeReads_row : Rows.WholeReadsSaid :=
  OpenClaim.holds_of_wide 4 Tryz.f4 rfl rfl rfl rfl rfl rfl rfl ⟨rfl, rfl, rfl, rfl, rfl⟩ rfl rfl rfl rfl rfl (by kernel_rfl) Tryz.func4 (by kernel_rfl)
    (of_decide_eq_true (by kernel_rfl)) (by unfold Func.isWrapper; rw [if_neg (of_decide_eq_false (by kernel_rfl))]; exact ⟨rfl, rfl⟩)
    (fun os started H enc _ => wholeReads_lifted os started H enc)
theorem wholeReads_holds : Rows.WholeReadsCardSaid :=
  Claim7.holds_tied_plain_at .later [] [.data, .pinned] true (true, "3863f6ea86578db4fa36359ee730971cae68c569cb569843fc704e6741cd1471") false wholeReads_row (fun _ h => by cases h) (by kernel_rfl) (fun _ h => by cases h) wholeReads_row_tie rfl ⟨rfl, rfl⟩ (by kernel_rfl) rfl
    (fun f fn hf hfn => by
      obtain rfl : f = 4 := Option.some.inj ((show Tryz.prog.funcNamed "copestone/copestonelaw01.WholeReads" = some 4 by kernel_rfl).symm.trans hf) |>.symm
      obtain rfl : fn = Tryz.f4 := (Option.some.inj (Tryz.func4.symm.trans hfn)).symm
      exact ⟨by kernel_rfl, fun j t ht => by
        rw [Tryz.params4] at ht
        have hm : t ∈ [9] := by simpa using Array.mem_of_getElem? ht
        have hall : ([9].all fun u => !Tryz.prog.wantsStandIn u) = true := by kernel_rfl
        exact (show Tryz.prog.wantsStandIn t = false by simpa using List.all_eq_true.1 hall t hm)⟩)
    (by kernel_rfl)
#print axioms wholeReads_holds
end Go.Proofs.YtklnjhlidfclmaaGreatDoor
