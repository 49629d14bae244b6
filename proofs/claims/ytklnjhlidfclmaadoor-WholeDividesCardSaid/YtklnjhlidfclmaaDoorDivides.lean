/-
  WholeDivides answers true at every three integers: its row and its tied card, proved.
-/
import Derived.Test.YtklnjhlidfclmaaDoorCards
import Derived.Test.YtklnjhlidfclmaaDoorTie
import Derived.Test.YtklnjhlidfclmaaDoorC3
import Derived.ProofKit
import Derived.OpenShut
import Derived.LaidMore
import Derived.Lay
import Derived.SevenTiedAt
import Derived.Stop.Joined
import Derived.Lib.SmallJoins
namespace Go.Proofs.YtklnjhlidfclmaaDoor
open Go.ChangeShapes Go.WideShapes Go.ChangeAt Go.RowKit Go.Joins

theorem rOwn : ownKnob Tryd.prog.godebug = none := by kernel_rfl
theorem rLaidOut : laidOutB Tryd.prog = true := by kernel_rfl
set_option maxRecDepth 100000 in
/-- A number of the law, opened. -/
theorem open_big {H : Type} {enc : TypeId × Value → H} {W : World} {base b0 : Nat} {spare : Nat → Bool} {held : Bool} {r : Reach} {v : Value} {d : DataW H} {p : List MemPlace} (hv : Value.okWide Tryd.prog W r b0 23 v) (h : DataW.Trod enc Tryd.prog W base spare held 23 v d p) :
    ∃ A B C P : Int, v = .agg #[.int .i64 A, .int .i64 B, .int .i64 C, .int .u8 P] ∧ p = [] ∧ (-9223372036854775808 ≤ A ∧ A ≤ 9223372036854775807) ∧ (-9223372036854775808 ≤ B ∧ B ≤ 9223372036854775807) ∧ (-9223372036854775808 ≤ C ∧ C ≤ 9223372036854775807) ∧ 0 ≤ P ∧ P ≤ 255 := by
  obtain ⟨c0, c1, c2, c3, y0, y1, y2, y3, m, rfl, _, rfl, h0, h1, h2, h3⟩ := open_agg4 Tryd.underlying23 (by kernel_rfl) (by kernel_rfl) hv h
  obtain ⟨a, e0, rfl, w0⟩ := DataW.trod_int Tryd.underlying2 h0
  obtain ⟨b, e1, rfl, w1⟩ := DataW.trod_int Tryd.underlying2 h1
  obtain ⟨c, e2, rfl, w2⟩ := DataW.trod_int Tryd.underlying2 h2
  obtain ⟨q, e3, rfl, w3⟩ := DataW.trod_int Tryd.underlying5 h3
  simp only [List.cons.injEq, and_true] at e0 e1 e2 e3
  subst e0 e1 e2 e3
  exact ⟨a, b, c, q, rfl, rfl, bounds_i64 w0, bounds_i64 w1, bounds_i64 w2, bounds_u8 w3⟩

set_option maxRecDepth 100000 in
theorem divides_lifted (os : Os) (started : os.Started) (H : Type) (enc : TypeId × Value → H) :
    ReturnsInHanded {} Tryd.checked os 4 .any (fun w args => (Rows.wholeDividesSpec.pre enc Tryd.prog Tryd.f4 Rows.wholeDividesRow.domain false w args ∧ laidMetH Tryd.prog Rows.wholeDividesRow.laid w) ∧ sizedMet enc Tryd.prog Tryd.f4 (OpenSpec.ofChange Rows.wholeDividesSpec) false w args)
      (Rows.wholeDividesSpec.post enc Tryd.prog Tryd.f4 false true false false) := by
  refine returnsInHanded_of_change_and (C := Tryd.checked) (X := fun w _ => laidMetH Tryd.prog Rows.wholeDividesRow.laid w) (fun _ _ _ hh h => h.of_heap hh) rOwn started (by kernel_rfl) Tryd.func4
    (ChangeSpec.witness_shaped (enc := enc) (C := Tryd.checked) (os := os) (X := fun w _ => laidMetH Tryd.prog Rows.wholeDividesRow.laid w) false (World.laidAll Tryd.prog os Rows.wholeDividesRow.laid) #[.agg #[.int .i64 0, .int .i64 0, .int .i64 0, .int .u8 0], .agg #[.int .i64 0, .int .i64 0, .int .i64 0, .int .u8 0], .agg #[.int .i64 0, .int .i64 0, .int .i64 0, .int .u8 0]] 8 (World.laidAll_os _ _ _)
      (World.shaped_of_ZipB (by kernel_rfl) (by kernel_rfl)) (by kernel_rfl) (by kernel_rfl) (by kernel_rfl)
      (by rw [MakeChecks.laidMetH_plain _ _ _ (by kernel_rfl)]; exact laidMet_laidAll _ (by kernel_rfl) (by kernel_rfl))) ?_
  intro W base args ds gs before hval0 hW _ _ _ _
  have hval : ∀ (j : Nat) t v, Tryd.f4.params[j]? = some t → args[j]? = some v → Value.okWide Tryd.prog W .any base t v := hval0
  have hW' := hW
  obtain ⟨p, q, hA0, hV, rfl, _, _⟩ := hW
  have hA : DataW.TrodAll enc Tryd.prog W 0 (fun _ => true) true Tryd.f4.params.toList args.toList ds p := hA0
  rw [Tryd.params4] at hA hval
  obtain ⟨v0, v1, v2, d0, d1, d2, p0, p1, p2, rfl, rfl, rfl, h0, h1, h2⟩ := trodAll_three hA
  obtain ⟨rfl, rfl⟩ := trodVars_none hV
  obtain ⟨xA, xB, xC, xP, rfl, rfl, x1, x2, x3, x4⟩ := open_big (hval 0 23 v0 rfl rfl) h0
  obtain ⟨yA, yB, yC, yP, rfl, rfl, y1, y2, y3, y4⟩ := open_big (hval 1 23 v1 rfl rfl) h1
  obtain ⟨wA, wB, wC, wP, rfl, rfl, w1, w2, w3, w4⟩ := open_big (hval 2 23 v2 rfl rfl) h2
  simp only [List.append_nil] at hW'
  refine (divides_ok (w := W) (X := fun _ => False) (fun _ h => h.elim) xA xB xC xP yA yB yC yP wA wB wC wP x1 x2 x3 x4 y1 y2 y3 y4 w1 w2 w3 w4).mono fun e W' ⟨he, hb⟩ => ?_
  subst he
  have back : ∀ {v : Value} {d : DataW H}, DataW.Trod enc Tryd.prog W 0 (fun _ => true) true 23 v d [] → DataW.Trod enc Tryd.prog W' 0 (fun b => decide (b < W.heap.size)) true 23 v d [] :=
    fun h => Below.trod rLaidOut (by kernel_rfl) (of_decide_eq_true (by kernel_rfl)) h hb (fun x hx => by cases hx)
  exact ⟨_, rfl, _, _, _, [], [], [], hW', trodAll_mk1 (shut_bool Tryd.underlying4 _), trodAll_mk3 (back h0) (back h1) (back h2), rfl, hb.frame _, fun h => by cases h⟩

theorem divides_holds : Rows.WholeDividesSaid :=
  OpenClaim.holds_of_wide 4 Tryd.f4 rfl rfl rfl rfl rfl rfl rfl ⟨rfl, rfl, rfl, rfl, rfl⟩ rfl rfl rfl rfl rfl (by kernel_rfl) Tryd.func4 (by kernel_rfl)
    (of_decide_eq_true (by kernel_rfl)) (by unfold Func.isWrapper; rw [if_neg (of_decide_eq_false (by kernel_rfl))]; exact ⟨rfl, rfl⟩)
    (fun os started H enc _ => divides_lifted os started H enc)
theorem wholeDivides_holds : Rows.WholeDividesCardSaid :=
  Claim7.holds_tied_plain_at .later [] [.data, .pinned] true (true, "00fa7b2684d759ef5c3655338a2025c46c88764d03ecb8d2128a3d5a8b8b3361") false divides_holds (fun _ h => by cases h) (by kernel_rfl) (fun _ h => by cases h) wholeDivides_row_tie rfl ⟨rfl, rfl⟩ (by kernel_rfl) rfl
    (fun f fn hf hfn => by
      obtain rfl : f = 4 := Option.some.inj ((show Tryd.prog.funcNamed "copestone/copestonelaw01.WholeDivides" = some 4 by kernel_rfl).symm.trans hf) |>.symm
      obtain rfl : fn = Tryd.f4 := (Option.some.inj (Tryd.func4.symm.trans hfn)).symm
      exact ⟨by kernel_rfl, fun j t ht => by
        rw [Tryd.params4] at ht
        have hm : t ∈ [23, 23, 23] := by simpa using Array.mem_of_getElem? ht
        have hall : ([23, 23, 23].all fun u => !Tryd.prog.wantsStandIn u) = true := by kernel_rfl
        exact (show Tryd.prog.wantsStandIn t = false by simpa using List.all_eq_true.1 hall t hm)⟩)
    (by kernel_rfl)
#print axioms wholeDivides_holds
end Go.Proofs.YtklnjhlidfclmaaDoor
