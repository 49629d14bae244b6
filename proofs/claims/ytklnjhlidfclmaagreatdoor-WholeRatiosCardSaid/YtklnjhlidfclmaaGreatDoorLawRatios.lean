/-
  WholeRatios answers true, whatever its arguments: its row and its tied card, proved.
-/
import Derived.Test.YtklnjhlidfclmaaGreatDoorCards
import Derived.Test.YtklnjhlidfclmaaGreatDoorTie
import Derived.Test.YtklnjhlidfclmaaGreatDoorC4
import Derived.ProofKit
import Derived.OpenShut
import Derived.LaidMore
import Derived.Lay
import Derived.SevenTiedAt
import Derived.Stop.Joined
import Derived.Lib.SmallJoins
namespace Go.Proofs.YtklnjhlidfclmaaGreatDoor
open Go.ChangeShapes Go.WideShapes Go.ChangeAt Go.RowKit Go.Joins

theorem wholeRatiosOwn : ownKnob Tryz.prog.godebug = none := by kernel_rfl
theorem wholeRatiosLaidOut : laidOutB Tryz.prog = true := by kernel_rfl
set_option maxRecDepth 100000 in
/-- A number of the law, opened. -/
theorem open_big {H : Type} {enc : TypeId × Value → H} {W : World} {base b0 : Nat} {spare : Nat → Bool} {held : Bool} {r : Reach} {v : Value} {d : DataW H} {p : List MemPlace} (hv : Value.okWide Tryz.prog W r b0 23 v) (h : DataW.Trod enc Tryz.prog W base spare held 23 v d p) :
    ∃ A B C P : Int, v = .agg #[.int .i64 A, .int .i64 B, .int .i64 C, .int .u8 P] ∧ p = [] ∧ (-9223372036854775808 ≤ A ∧ A ≤ 9223372036854775807) ∧ (-9223372036854775808 ≤ B ∧ B ≤ 9223372036854775807) ∧ (-9223372036854775808 ≤ C ∧ C ≤ 9223372036854775807) ∧ 0 ≤ P ∧ P ≤ 255 := by
  obtain ⟨c0, c1, c2, c3, y0, y1, y2, y3, m, rfl, _, rfl, h0, h1, h2, h3⟩ := open_agg4 Tryz.underlying23 (by kernel_rfl) (by kernel_rfl) hv h
  obtain ⟨a, e0, rfl, w0⟩ := DataW.trod_int Tryz.underlying2 h0
  obtain ⟨b, e1, rfl, w1⟩ := DataW.trod_int Tryz.underlying2 h1
  obtain ⟨c, e2, rfl, w2⟩ := DataW.trod_int Tryz.underlying2 h2
  obtain ⟨q, e3, rfl, w3⟩ := DataW.trod_int Tryz.underlying5 h3
  simp only [List.cons.injEq, and_true] at e0 e1 e2 e3
  subst e0 e1 e2 e3
  exact ⟨a, b, c, q, rfl, rfl, bounds_i64 w0, bounds_i64 w1, bounds_i64 w2, bounds_u8 w3⟩
set_option maxRecDepth 100000 in
theorem wholeRatios_lifted (os : Os) (started : os.Started) (H : Type) (enc : TypeId × Value → H) :
    ReturnsInHanded {} Tryz.checked os 7 .any (fun w args => (Rows.wholeRatiosSpec.pre enc Tryz.prog Tryz.f7 Rows.wholeRatiosRow.domain false w args ∧ laidMetH Tryz.prog Rows.wholeRatiosRow.laid w) ∧ sizedMet enc Tryz.prog Tryz.f7 (OpenSpec.ofChange Rows.wholeRatiosSpec) false w args)
      (Rows.wholeRatiosSpec.post enc Tryz.prog Tryz.f7 false true false false) := by
  refine returnsInHanded_of_change_and (C := Tryz.checked) (X := fun w _ => laidMetH Tryz.prog Rows.wholeRatiosRow.laid w) (fun _ _ _ hh h => h.of_heap hh) wholeRatiosOwn started (by kernel_rfl) Tryz.func7
    (ChangeSpec.witness_shaped (enc := enc) (C := Tryz.checked) (os := os) (X := fun w _ => laidMetH Tryz.prog Rows.wholeRatiosRow.laid w) false (World.laidAll Tryz.prog os Rows.wholeRatiosRow.laid) #[.agg #[.int .i64 0, .int .i64 0, .int .i64 0, .int .u8 0], .agg #[.int .i64 0, .int .i64 0, .int .i64 0, .int .u8 0], .int .i64 0, .int .i64 0] 8 (World.laidAll_os _ _ _)
      (World.shaped_of_ZipB (by kernel_rfl) (by kernel_rfl)) (by kernel_rfl) (by kernel_rfl) (by kernel_rfl)
      (by rw [MakeChecks.laidMetH_plain _ _ _ (by kernel_rfl)]; exact laidMet_laidAll _ (by kernel_rfl) (by kernel_rfl))) ?_
  intro W base args ds gs before hval0 hW _ _ _ _
  have hval : ∀ (j : Nat) t v, Tryz.f7.params[j]? = some t → args[j]? = some v → Value.okWide Tryz.prog W .any base t v := hval0
  have hW' := hW
  obtain ⟨p, q, hA0, hV, rfl, _, _⟩ := hW
  have hA : DataW.TrodAll enc Tryz.prog W 0 (fun _ => true) true Tryz.f7.params.toList args.toList ds p := hA0
  rw [Tryz.params7] at hA hval
  obtain ⟨v0, v1, v2, v3, d0, d1, d2, d3, p0, p1, p2, p3, rfl, rfl, rfl, h0, h1, h2, h3⟩ := trodAll_four hA
  obtain ⟨rfl, rfl⟩ := trodVars_none hV
  obtain ⟨x0A, x0B, x0C, x0P, rfl, rfl, x0p0, x0p1, x0p2, x0p3⟩ := open_big (hval 0 23 v0 rfl rfl) h0
  obtain ⟨x1A, x1B, x1C, x1P, rfl, rfl, x1p0, x1p1, x1p2, x1p3⟩ := open_big (hval 1 23 v1 rfl rfl) h1
  obtain ⟨x2, rfl, rfl, rfl, x2w⟩ := open_int Tryz.underlying2 (hval 2 2 v2 rfl rfl) h2
  obtain ⟨x3, rfl, rfl, rfl, x3w⟩ := open_int Tryz.underlying2 (hval 3 2 v3 rfl rfl) h3
  simp only [List.append_nil] at hW'
  refine (ratios_ok (w := W) (X := fun _ => False) (fun _ h => h.elim) x0A x0B x0C x0P x1A x1B x1C x1P x2 x3 x0p0 x0p1 x0p2 x0p3 x1p0 x1p1 x1p2 x1p3 (bounds_i64 x2w) (bounds_i64 x3w)).mono fun e W' ⟨he, hb⟩ => ?_
  subst he
  have back_Big : ∀ {v : Value} {d : DataW H}, DataW.Trod enc Tryz.prog W 0 (fun _ => true) true 23 v d [] → DataW.Trod enc Tryz.prog W' 0 (fun b => decide (b < W.heap.size)) true 23 v d [] :=
    fun h => Below.trod wholeRatiosLaidOut (by kernel_rfl) (of_decide_eq_true (by kernel_rfl)) h hb (fun x hx => by cases hx)
  have back_i64 : ∀ {v : Value} {d : DataW H}, DataW.Trod enc Tryz.prog W 0 (fun _ => true) true 2 v d [] → DataW.Trod enc Tryz.prog W' 0 (fun b => decide (b < W.heap.size)) true 2 v d [] :=
    fun h => Below.trod wholeRatiosLaidOut (by kernel_rfl) (of_decide_eq_true (by kernel_rfl)) h hb (fun x hx => by cases hx)
  exact ⟨_, rfl, _, _, _, [], [], [], hW', trodAll_mk1 (shut_bool Tryz.underlying4 _), trodAll_mk4 (back_Big h0) (back_Big h1) (back_i64 h2) (back_i64 h3), rfl, hb.frame _, fun h => by cases h⟩

theorem wholeRatios_row : Rows.WholeRatiosSaid :=
  OpenClaim.holds_of_wide 7 Tryz.f7 rfl rfl rfl rfl rfl rfl rfl ⟨rfl, rfl, rfl, rfl, rfl⟩ rfl rfl rfl rfl rfl (by kernel_rfl) Tryz.func7 (by kernel_rfl)
    (of_decide_eq_true (by kernel_rfl)) (by unfold Func.isWrapper; rw [if_neg (of_decide_eq_false (by kernel_rfl))]; exact ⟨rfl, rfl⟩)
    (fun os started H enc _ => wholeRatios_lifted os started H enc)
theorem wholeRatios_holds : Rows.WholeRatiosCardSaid :=
  Claim7.holds_tied_plain_at .later [] [.data, .pinned] true (true, "3863f6ea86578db4fa36359ee730971cae68c569cb569843fc704e6741cd1471") false wholeRatios_row (fun _ h => by cases h) (by kernel_rfl) (fun _ h => by cases h) wholeRatios_row_tie rfl ⟨rfl, rfl⟩ (by kernel_rfl) rfl
    (fun f fn hf hfn => by
      obtain rfl : f = 7 := Option.some.inj ((show Tryz.prog.funcNamed "copestone/copestonelaw01.WholeRatios" = some 7 by kernel_rfl).symm.trans hf) |>.symm
      obtain rfl : fn = Tryz.f7 := (Option.some.inj (Tryz.func7.symm.trans hfn)).symm
      exact ⟨by kernel_rfl, fun j t ht => by
        rw [Tryz.params7] at ht
        have hm : t ∈ [23, 23, 2, 2] := by simpa using Array.mem_of_getElem? ht
        have hall : ([23, 23, 2, 2].all fun u => !Tryz.prog.wantsStandIn u) = true := by kernel_rfl
        exact (show Tryz.prog.wantsStandIn t = false by simpa using List.all_eq_true.1 hall t hm)⟩)
    (by kernel_rfl)
#print axioms wholeRatios_holds
end Go.Proofs.YtklnjhlidfclmaaGreatDoor
