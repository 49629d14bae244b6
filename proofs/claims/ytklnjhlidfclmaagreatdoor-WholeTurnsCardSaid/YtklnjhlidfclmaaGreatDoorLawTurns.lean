/-
  WholeTurns answers true, whatever its arguments: its row and its tied card, proved.
-/
import Derived.Test.YtklnjhlidfclmaaGreatDoorCards
import Derived.Test.YtklnjhlidfclmaaGreatDoorTie
import Derived.Test.YtklnjhlidfclmaaGreatDoorC3
import Derived.ProofKit
import Derived.OpenShut
import Derived.LaidMore
import Derived.Lay
import Derived.SevenTiedAt
import Derived.Stop.Joined
import Derived.Lib.SmallJoins
namespace Go.Proofs.YtklnjhlidfclmaaGreatDoor
open Go.ChangeShapes Go.WideShapes Go.ChangeAt Go.RowKit Go.Joins

theorem wholeTurnsOwn : ownKnob Tryz.prog.godebug = none := by kernel_rfl
theorem wholeTurnsLaidOut : laidOutB Tryz.prog = true := by kernel_rfl
section
variable {H : Type} {enc : TypeId × Value → H} {P : Program} {w : World} {base : Nat} {spare : Nat → Bool} {held : Bool}
theorem trodAll_five {t t' t'' t3 t4 : TypeId} {args : Array Value} {ds : List (DataW H)} {ps : List MemPlace} (h : DataW.TrodAll enc P w base spare held [t, t', t'', t3, t4] args.toList ds ps) :
    ∃ v v' v'' v3 v4 d d' d'' d3 d4 p p' p'' p3 p4, args = #[v, v', v'', v3, v4] ∧ ds = [d, d', d'', d3, d4] ∧ ps = p ++ p' ++ p'' ++ p3 ++ p4 ∧ DataW.Trod enc P w base spare held t v d p ∧ DataW.Trod enc P w base spare held t' v' d' p' ∧ DataW.Trod enc P w base spare held t'' v'' d'' p'' ∧ DataW.Trod enc P w base spare held t3 v3 d3 p3 ∧ DataW.Trod enc P w base spare held t4 v4 d4 p4 := by
  obtain ⟨v, vs, d, ds', p, q, hargs, rfl, rfl, hd, hrest⟩ := trodAll_cons h
  obtain ⟨v', vs', d', ds'', p', q', rfl, rfl, rfl, hd', hrest'⟩ := trodAll_cons hrest
  obtain ⟨v'', vs'', d'', dsq, p'', q'', rfl, rfl, rfl, hd'', hrest''⟩ := trodAll_cons hrest'
  obtain ⟨v3, vs3, d3, ds3, p3, q3, rfl, rfl, rfl, hd3, hrest3⟩ := trodAll_cons hrest''
  obtain ⟨v4, vs4, d4, ds4, p4, q4, rfl, rfl, rfl, hd4, hrest4⟩ := trodAll_cons hrest3
  obtain ⟨rfl, rfl, rfl⟩ := trodAll_nil hrest4
  exact ⟨v, v', v'', v3, v4, d, d', d'', d3, d4, p, p', p'', p3, p4, by cases args; simp_all, rfl, by simp, hd, hd', hd'', hd3, hd4⟩
theorem trodAll_mk5 {t t' t'' t3 t4 : TypeId} {v v' v'' v3 v4 : Value} {d d' d'' d3 d4 : DataW H} {p p' p'' p3 p4 : List MemPlace} (h : DataW.Trod enc P w base spare held t v d p) (h' : DataW.Trod enc P w base spare held t' v' d' p')
    (h'' : DataW.Trod enc P w base spare held t'' v'' d'' p'') (h3 : DataW.Trod enc P w base spare held t3 v3 d3 p3) (h4 : DataW.Trod enc P w base spare held t4 v4 d4 p4) : DataW.TrodAll enc P w base spare held [t, t', t'', t3, t4] [v, v', v'', v3, v4] [d, d', d'', d3, d4] (p ++ (p' ++ (p'' ++ (p3 ++ p4)))) := ⟨p, p' ++ (p'' ++ (p3 ++ p4)), h, trodAll_mk4 h' h'' h3 h4, rfl⟩
end
set_option maxRecDepth 100000 in
/-- A ratio of the law, opened. -/
theorem open_num {H : Type} {enc : TypeId × Value → H} {W : World} {base b0 : Nat} {spare : Nat → Bool} {held : Bool} {r : Reach} {v : Value} {d : DataW H} {p : List MemPlace} (hv : Value.okWide Tryz.prog W r b0 60 v) (h : DataW.Trod enc Tryz.prog W base spare held 60 v d p) :
    ∃ A B : Int, v = .agg #[.int .i64 A, .int .i64 B] ∧ p = [] ∧ (-9223372036854775808 ≤ A ∧ A ≤ 9223372036854775807) ∧ -9223372036854775808 ≤ B ∧ B ≤ 9223372036854775807 := by
  obtain ⟨c0, c1, y0, y1, m, rfl, _, rfl, h0, h1⟩ := open_agg2 Tryz.underlying60 (by kernel_rfl) (by kernel_rfl) hv h
  obtain ⟨a, e0, rfl, w0⟩ := DataW.trod_int Tryz.underlying2 h0
  obtain ⟨b, e1, rfl, w1⟩ := DataW.trod_int Tryz.underlying2 h1
  simp only [List.cons.injEq, and_true] at e0 e1
  subst e0 e1
  exact ⟨a, b, rfl, rfl, bounds_i64 w0, bounds_i64 w1⟩
set_option maxRecDepth 100000 in
theorem wholeTurns_lifted (os : Os) (started : os.Started) (H : Type) (enc : TypeId × Value → H) :
    ReturnsInHanded {} Tryz.checked os 12 .any (fun w args => (Rows.wholeTurnsSpec.pre enc Tryz.prog Tryz.f12 Rows.wholeTurnsRow.domain false w args ∧ laidMetH Tryz.prog Rows.wholeTurnsRow.laid w) ∧ sizedMet enc Tryz.prog Tryz.f12 (OpenSpec.ofChange Rows.wholeTurnsSpec) false w args)
      (Rows.wholeTurnsSpec.post enc Tryz.prog Tryz.f12 false true false false) := by
  refine returnsInHanded_of_change_and (C := Tryz.checked) (X := fun w _ => laidMetH Tryz.prog Rows.wholeTurnsRow.laid w) (fun _ _ _ hh h => h.of_heap hh) wholeTurnsOwn started (by kernel_rfl) Tryz.func12
    (ChangeSpec.witness_shaped (enc := enc) (C := Tryz.checked) (os := os) (X := fun w _ => laidMetH Tryz.prog Rows.wholeTurnsRow.laid w) false (World.laidAll Tryz.prog os Rows.wholeTurnsRow.laid) #[.agg #[.int .i64 0, .int .i64 0], .agg #[.int .i64 0, .int .i64 0], .agg #[.int .i64 0, .int .i64 0], .agg #[.int .i64 0, .int .i64 0], .agg #[.int .i64 0, .int .i64 0]] 8 (World.laidAll_os _ _ _)
      (World.shaped_of_ZipB (by kernel_rfl) (by kernel_rfl)) (by kernel_rfl) (by kernel_rfl) (by kernel_rfl)
      (by rw [MakeChecks.laidMetH_plain _ _ _ (by kernel_rfl)]; exact laidMet_laidAll _ (by kernel_rfl) (by kernel_rfl))) ?_
  intro W base args ds gs before hval0 hW _ _ _ _
  have hval : ∀ (j : Nat) t v, Tryz.f12.params[j]? = some t → args[j]? = some v → Value.okWide Tryz.prog W .any base t v := hval0
  have hW' := hW
  obtain ⟨p, q, hA0, hV, rfl, _, _⟩ := hW
  have hA : DataW.TrodAll enc Tryz.prog W 0 (fun _ => true) true Tryz.f12.params.toList args.toList ds p := hA0
  rw [Tryz.params12] at hA hval
  obtain ⟨v0, v1, v2, v3, v4, d0, d1, d2, d3, d4, p0, p1, p2, p3, p4, rfl, rfl, rfl, h0, h1, h2, h3, h4⟩ := trodAll_five hA
  obtain ⟨rfl, rfl⟩ := trodVars_none hV
  obtain ⟨x0N, x0D, rfl, rfl, x0p0, x0p1⟩ := open_num (hval 0 60 v0 rfl rfl) h0
  obtain ⟨x1N, x1D, rfl, rfl, x1p0, x1p1⟩ := open_num (hval 1 60 v1 rfl rfl) h1
  obtain ⟨x2N, x2D, rfl, rfl, x2p0, x2p1⟩ := open_num (hval 2 60 v2 rfl rfl) h2
  obtain ⟨x3N, x3D, rfl, rfl, x3p0, x3p1⟩ := open_num (hval 3 60 v3 rfl rfl) h3
  obtain ⟨x4N, x4D, rfl, rfl, x4p0, x4p1⟩ := open_num (hval 4 60 v4 rfl rfl) h4
  simp only [List.append_nil] at hW'
  refine (turns_ok (w := W) (X := fun _ => False) (fun _ h => h.elim) x0N x0D x1N x1D x2N x2D x3N x3D x4N x4D x0p0 x0p1 x1p0 x1p1 x2p0 x2p1 x3p0 x3p1 x4p0 x4p1).mono fun e W' ⟨he, hb⟩ => ?_
  subst he
  have back_Num : ∀ {v : Value} {d : DataW H}, DataW.Trod enc Tryz.prog W 0 (fun _ => true) true 60 v d [] → DataW.Trod enc Tryz.prog W' 0 (fun b => decide (b < W.heap.size)) true 60 v d [] :=
    fun h => Below.trod wholeTurnsLaidOut (by kernel_rfl) (of_decide_eq_true (by kernel_rfl)) h hb (fun x hx => by cases hx)
  exact ⟨_, rfl, _, _, _, [], [], [], hW', trodAll_mk1 (shut_bool Tryz.underlying4 _), trodAll_mk5 (back_Num h0) (back_Num h1) (back_Num h2) (back_Num h3) (back_Num h4), rfl, hb.frame _, fun h => by cases h⟩

theorem wholeTurns_row : Rows.WholeTurnsSaid :=
  OpenClaim.holds_of_wide 12 Tryz.f12 rfl rfl rfl rfl rfl rfl rfl ⟨rfl, rfl, rfl, rfl, rfl⟩ rfl rfl rfl rfl rfl (by kernel_rfl) Tryz.func12 (by kernel_rfl)
    (of_decide_eq_true (by kernel_rfl)) (by unfold Func.isWrapper; rw [if_neg (of_decide_eq_false (by kernel_rfl))]; exact ⟨rfl, rfl⟩)
    (fun os started H enc _ => wholeTurns_lifted os started H enc)
theorem wholeTurns_holds : Rows.WholeTurnsCardSaid :=
  Claim7.holds_tied_plain_at .later [] [.data, .pinned] true (true, "3863f6ea86578db4fa36359ee730971cae68c569cb569843fc704e6741cd1471") false wholeTurns_row (fun _ h => by cases h) (by kernel_rfl) (fun _ h => by cases h) wholeTurns_row_tie rfl ⟨rfl, rfl⟩ (by kernel_rfl) rfl
    (fun f fn hf hfn => by
      obtain rfl : f = 12 := Option.some.inj ((show Tryz.prog.funcNamed "copestone/copestonelaw01.WholeTurns" = some 12 by kernel_rfl).symm.trans hf) |>.symm
      obtain rfl : fn = Tryz.f12 := (Option.some.inj (Tryz.func12.symm.trans hfn)).symm
      exact ⟨by kernel_rfl, fun j t ht => by
        rw [Tryz.params12] at ht
        have hm : t ∈ [60, 60, 60, 60, 60] := by simpa using Array.mem_of_getElem? ht
        have hall : ([60, 60, 60, 60, 60].all fun u => !Tryz.prog.wantsStandIn u) = true := by kernel_rfl
        exact (show Tryz.prog.wantsStandIn t = false by simpa using List.all_eq_true.1 hall t hm)⟩)
    (by kernel_rfl)
#print axioms wholeTurns_holds
end Go.Proofs.YtklnjhlidfclmaaGreatDoor
