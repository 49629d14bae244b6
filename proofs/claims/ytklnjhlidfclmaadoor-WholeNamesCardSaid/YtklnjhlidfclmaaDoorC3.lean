/- Contracts of the program's functions. -/
import Derived.Test.YtklnjhlidfclmaaDoorC2
set_option linter.unusedVariables false
set_option linter.unusedSimpArgs false
namespace Go.Proofs.YtklnjhlidfclmaaDoor
open Go.RowKit Cps
attribute [local go_sem] Oper.semAt_some

set_option maxRecDepth 100000 in
set_option maxHeartbeats 2000000 in
theorem names_ok {w : World} {X : Nat → Prop} (hX : ∀ k, X k → k < w.heap.size) :
    Calls Tryd.prog 5 #[] w (fun e w' => e = .returned (.bool true) ∧ Below w.heap.size w w') := by
 have hM := Mem.start hX
 have hz0 : szR 0 ≤ 1 := szR_le (by decide) (by decide)
 have hz1 : sz 0 ≤ 0 := Nat.le_of_eq sz_zero
 refine calls_of hM Tryd.func5 Tryd.ntmps5 ?_
 refine CG.seq fun K_ k1 => ?_
 refine CG.lin 1 ?_
 refine GL.v (.bool false) ?_
 refine GL.k k1 ?_
 refine CG.seq fun K_ k1 => ?_
 refine CG.seq fun K_ k2 => ?_
 refine CG.lin 3 ?_
 refine GL.row (fun _ => op_buildN rowt44 10 #[(0, .string (bs [])), (1, .string (bs [45])), (2, .string (bs [48, 48, 55])), (3, .string (bs [43, 49])), (4, .string (bs [49, 46, 53])), (5, .string (bs [45, 45, 49])), (6, .string (bs [32, 49])), (7, .string (bs [49, 32])), (8, .string (bs [48, 120, 49])), (9, .string (bs [45, 48, 49]))] #[.string (bs []), .string (bs [45]), .string (bs [48, 48, 55]), .string (bs [43, 49]), .string (bs [49, 46, 53]), .string (bs [45, 45, 49]), .string (bs [32, 49]), .string (bs [49, 32]), .string (bs [48, 120, 49]), .string (bs [45, 48, 49])] (by kernel_rfl) (by decide) (by kernel_rfl)) (fun _ _ _ hm => own_built (vs := strs nmA) hm rfl rfl (by decide)) fun g21 => ?_
 refine GL.v (.int .i64 10) ?_
 refine GL.v (.int .i64 0) ?_
 refine GL.k k2 ?_
 refine CG.block ?_
 refine CG.loop (fun m_ a_ u_ => ∃ (i : Nat) (j22 : Nat → Value), a_ = ⟨#[(j22 0), undef, (j22 2), (j22 3), (j22 4), (j22 5), (j22 6), undef, undef, undef, undef, undef, undef, undef, undef, undef, undef, undef, undef, undef, undef, undef, undef, undef, undef, undef, undef, undef, undef, undef, undef, undef, undef, undef, undef, undef, undef, .slice (some ⟨g21, 0, none⟩) 10 10, .int .i64 10, .int .i64 (i : Int), (j22 40), (j22 41), (j22 42), (j22 43), (j22 44), (j22 45), (j22 46), (j22 47), (j22 48), (j22 49), (j22 50), (j22 51), (j22 52), (j22 53), (j22 54), (j22 55), (j22 56), (j22 57), (j22 58), (j22 59), (j22 60), (j22 61), (j22 62), (j22 63), (j22 64), (j22 65), (j22 66), (j22 67), (j22 68), (j22 69), undef, undef, undef, undef, undef, undef, undef, undef, undef, undef, undef, undef, undef, undef, undef, undef, undef, undef, undef, undef, undef, undef, undef, undef, undef, undef, undef, undef, undef, undef, undef, undef, undef, undef, undef, undef, undef, undef, undef, undef, undef, undef, undef, undef, undef, undef, undef, undef, undef, undef, undef, undef, undef, undef, undef, undef, undef, undef, undef, undef, undef, undef, undef, undef, undef, undef, undef, undef, undef, undef, undef, undef, undef, undef, undef, undef, undef, undef, undef, undef, undef, undef, undef, undef, undef, undef, undef, undef, undef, undef, undef, undef, undef, undef, undef, undef, undef, undef, undef, undef, undef, undef, undef, undef, undef, undef, undef, undef, undef, undef, undef, undef, undef, undef, undef, undef, undef, undef, undef, undef, undef, undef, undef, undef, undef, undef, undef, undef, undef, undef, undef, undef, undef, undef, undef, undef, undef, undef, undef, undef, undef, undef, undef, undef, undef, undef, undef, undef, undef, undef, undef, undef, undef, undef, undef, undef, undef, undef, undef, undef, undef, undef, undef, undef, undef, undef, undef, undef, undef, undef, undef, undef, undef, undef, undef, undef, undef, undef, undef, undef, undef, undef, undef, undef, undef, undef, undef, undef, undef, undef, undef, undef, undef, undef, undef, undef, undef, undef, undef, undef, undef, undef, undef, undef, undef, undef, undef, undef, undef, undef, undef, undef], []⟩ ∧ m_ = 10 - i ∧ Mem w [] X u_ [.own g21 9 10 10 (strs nmA)] [] ∧ (i ≤ 10)) (fun _ hM => ⟨_, 0, (fun t => (#[.bool false, undef, undef, undef, undef, undef, undef, undef, undef, undef, undef, undef, undef, undef, undef, undef, undef, undef, undef, undef, undef, undef, undef, undef, undef, undef, undef, undef, undef, undef, undef, undef, undef, undef, undef, undef, undef, .slice (some ⟨g21, 0, none⟩) 10 10, .int .i64 10, .int .i64 0, undef, undef, undef, undef, undef, undef, undef, undef, undef, undef, undef, undef, undef, undef, undef, undef, undef, undef, undef, undef, undef, undef, undef, undef, undef, undef, undef, undef, undef, undef, undef, undef, undef, undef, undef, undef, undef, undef, undef, undef, undef, undef, undef, undef, undef, undef, undef, undef, undef, undef, undef, undef, undef, undef, undef, undef, undef, undef, undef, undef, undef, undef, undef, undef, undef, undef, undef, undef, undef, undef, undef, undef, undef, undef, undef, undef, undef, undef, undef, undef, undef, undef, undef, undef, undef, undef, undef, undef, undef, undef, undef, undef, undef, undef, undef, undef, undef, undef, undef, undef, undef, undef, undef, undef, undef, undef, undef, undef, undef, undef, undef, undef, undef, undef, undef, undef, undef, undef, undef, undef, undef, undef, undef, undef, undef, undef, undef, undef, undef, undef, undef, undef, undef, undef, undef, undef, undef, undef, undef, undef, undef, undef, undef, undef, undef, undef, undef, undef, undef, undef, undef, undef, undef, undef, undef, undef, undef, undef, undef, undef, undef, undef, undef, undef, undef, undef, undef, undef, undef, undef, undef, undef, undef, undef, undef, undef, undef, undef, undef, undef, undef, undef, undef, undef, undef, undef, undef, undef, undef, undef, undef, undef, undef, undef, undef, undef, undef, undef, undef, undef, undef, undef, undef, undef, undef, undef, undef, undef, undef, undef, undef, undef, undef, undef, undef, undef, undef, undef, undef, undef, undef, undef, undef, undef, undef, undef, undef, undef, undef, undef, undef, undef, undef, undef, undef, undef, undef, undef, undef, undef, undef, undef] : Array Value).getD t undef), (by kernel_rfl), rfl, hM.clr, (by omega)⟩) ?_
 rintro m_ a_ u_ ⟨i, j22, rfl, hm22, hM, hi⟩
 refine CG.go hM ?_
 refine CG.seq fun K_ k2 => ?_
 refine CG.lin 1 ?_
 refine GL.v (.bool (decide ((i : Int) < (10 : Int)))) ?_
 refine GL.k k2 ?_
 refine CG.seq fun K_ k2 => ?_
 by_cases hc23 : (i : Int) < (10 : Int)
 · have hk23 : (decide ((i : Int) < (10 : Int))) = true := decide_eq_true hc23
   refine CG.yes ?_ hk23 rfl
   refine CG.skip ?_
   refine QG.k k2 ?_
   refine CG.seq fun K_ k2 => ?_
   refine CG.block ?_
   refine CG.seq fun K_ k3 => ?_
   refine CG.lin 3 ?_
   refine GL.r (elemPtr (some ⟨g21, 0, none⟩) i) (fun _ hM => op_index rowt44 (c := 10) (k := .i64) (i := (i : Int)) i (by kernel_rfl) (by kernel_rfl) (by omega) (by omega) (hM.o 0 rfl).row _) ?_
   refine GL.r (.string (bs (nmA.getD i []))) (fun _ hM => op_to (op_load_elem (n := 10) (by kernel_rfl) agg9 (hM.o 0 rfl).row (by omega)) (strs_getD (L := nmA) (by show i < 10; omega))) ?_
   refine GL.v (.string (bs (nmA.getD i []))) ?_
   refine GL.k k3 ?_
   refine CG.seq fun K_ k3 => ?_
   refine CG.lin 8 ?_
   refine GL.v (.string (bs (nmA.getD i []))) ?_
   refine GL.call (fun _ hM => ParseZ_ok hM.avlt (nmA.getD i []) (by have := nmA_len i; omega)) ?_
   rintro _ _ _ hM ⟨A24a, n24a, c24a, m24a, rfl, h24a, hb⟩
   have hz24 := parseZ_sz (nmA.getD i [])
   refine ⟨_, _, _, rfl, (hM.call hb).add h24a, ?_⟩
   refine GL.v (.tuple #[.agg #[.slice A24a n24a c24a, .bool m24a], .int .i64 ((parseZ (nmA.getD i [])).2)]) ?_
   refine GL.v (.agg #[.slice A24a n24a c24a, .bool m24a]) ?_
   refine GL.v (.int .i64 ((parseZ (nmA.getD i [])).2)) ?_
   refine GL.aA zer28 fun g25 => ?_
   refine GL.sA (cs' := #[.slice A24a n24a c24a, .bool m24a]) (fun _ _ => Mem.st0) (fun _ hM => hM.b 0 rfl) siz28 ?_
   refine GL.v (.int .i64 ((parseZ (nmA.getD i [])).2)) ?_
   refine GL.k k3 ?_
   refine CG.seq fun K_ k3 => ?_
   refine CG.lin 8 ?_
   refine GL.v (.string (bs (nmA.getD i []))) ?_
   refine GL.call (fun _ hM => Parse_ok hM.avlt (nmA.getD i []) (by have := nmA_len i; omega)) ?_
   rintro _ _ _ hM ⟨A26a, n26a, c26a, m26a, A26a_, n26a_, c26a_, rfl, h26a, hb⟩
   have hs26 := parseR_sz (nmA.getD i [])
   refine ⟨_, _, _, rfl, (hM.call hb).add h26a, ?_⟩
   refine GL.v (.tuple #[.agg #[.slice A26a n26a c26a, .bool m26a, .slice A26a_ n26a_ c26a_], .int .i64 ((parseR (nmA.getD i [])).2)]) ?_
   refine GL.v (.agg #[.slice A26a n26a c26a, .bool m26a, .slice A26a_ n26a_ c26a_]) ?_
   refine GL.v (.int .i64 ((parseR (nmA.getD i [])).2)) ?_
   refine GL.aA zer48 fun g27 => ?_
   refine GL.sA (cs' := #[.slice A26a n26a c26a, .bool m26a, .slice A26a_ n26a_ c26a_]) (fun _ _ => Mem.st0) (fun _ hM => hM.b 0 rfl) siz48 ?_
   refine GL.v (.int .i64 ((parseR (nmA.getD i [])).2)) ?_
   refine GL.k k3 ?_
   refine CG.seq fun K_ k3 => ?_
   refine CG.lin 16 ?_
   refine GL.v (.int .i64 ((parseZ (nmA.getD i [])).2)) ?_
   refine GL.v (.bool false) ?_ (hr := fun u => op_b (b := (((parseZ (nmA.getD i [])).2) != (4 : Int))) (by kernel_rfl) (by rw [nmA_z (by omega)]; rfl))
   refine GL.v (.bool false) ?_
   refine GL.v (.int .i64 ((parseR (nmA.getD i [])).2)) ?_
   refine GL.v (.bool false) ?_ (hr := fun u => op_b (b := (((parseR (nmA.getD i [])).2) != (4 : Int))) (by kernel_rfl) (by rw [nmA_r (by omega)]; rfl))
   refine GL.v (.bool false) ?_
   refine GL.v (.bool false) ?_
   refine GL.r (.agg #[.slice A24a n24a c24a, .bool m24a]) (fun _ hM => op_load_agg (off := 0) (by kernel_rfl) agg28 siz28 (hM.b 1 rfl) rfl rfl) ?_
   refine GL.call (fun _ hM => Sign_ok hM.avlt (hM.f 1 rfl)) ?_
   rintro _ _ _ hM ⟨rfl, hb⟩
   refine ⟨_, _, _, rfl, hM.call hb, ?_⟩
   refine GL.v (.bool false) ?_ (hr := fun u => op_b (b := ((((parseZ (nmA.getD i [])).1).sign) != (0 : Int))) (by kernel_rfl) (by rw [nmA_z (by omega)]; rfl))
   refine GL.v (.bool false) ?_
   refine GL.v (.bool false) ?_
   refine GL.r (.agg #[.slice A26a n26a c26a, .bool m26a, .slice A26a_ n26a_ c26a_]) (fun _ hM => op_load_agg (off := 0) (by kernel_rfl) agg48 siz48 (hM.b 0 rfl) rfl rfl) ?_
   refine GL.call (fun _ hM => RSign_ok hM.avlt (hM.f 0 rfl)) ?_
   rintro _ _ _ hM ⟨rfl, hb⟩
   refine ⟨_, _, _, rfl, hM.call hb, ?_⟩
   refine GL.v (.bool false) ?_ (hr := fun u => op_b (b := ((((parseR (nmA.getD i [])).1).num.sign) != (0 : Int))) (by kernel_rfl) (by rw [nmA_r (by omega)]; rfl))
   refine GL.v (.bool false) ?_
   refine GL.k k3 ?_
   refine CG.no ?_ rfl rfl
   refine CG.skip ?_
   refine QG.block ?_
   refine QG.k k2 ?_
   refine CG.lin 2 ?_
   refine GL.v (.int .i64 ((i + 1 : Nat) : Int)) ?_ (hr := fun u => op_to (v := .int .i64 (IntKind.wrap .i64 ((i : Int) + (1 : Int)))) (by kernel_rfl) (wrap_i64 (by omega) (by omega) (by omega)))
   refine GL.v (.int .i64 ((i + 1 : Nat) : Int)) ?_
   refine GL.q ?_
   refine QG.again fun _ hM => ?_
   exact ⟨10 - (i + 1), (by omega), (i + 1), (fun t => (#[(j22 0), undef, .string (bs (nmA.getD i [])), .pointer (some ⟨g25, 0, none⟩), .int .i64 ((parseZ (nmA.getD i [])).2), .pointer (some ⟨g27, 0, none⟩), .int .i64 ((parseR (nmA.getD i [])).2), undef, undef, undef, undef, undef, undef, undef, undef, undef, undef, undef, undef, undef, undef, undef, undef, undef, undef, undef, undef, undef, undef, undef, undef, undef, undef, undef, undef, undef, undef, .slice (some ⟨g21, 0, none⟩) 10 10, .int .i64 10, .int .i64 ((i + 1 : Nat) : Int), .bool (decide ((i : Int) < (10 : Int))), elemPtr (some ⟨g21, 0, none⟩) i, .string (bs (nmA.getD i [])), .tuple #[.agg #[.slice A24a n24a c24a, .bool m24a], .int .i64 ((parseZ (nmA.getD i [])).2)], .string (bs (nmA.getD i [])), .tuple #[.agg #[.slice A24a n24a c24a, .bool m24a], .int .i64 ((parseZ (nmA.getD i [])).2)], .agg #[.slice A24a n24a c24a, .bool m24a], .int .i64 ((parseZ (nmA.getD i [])).2), .tuple #[.agg #[.slice A26a n26a c26a, .bool m26a, .slice A26a_ n26a_ c26a_], .int .i64 ((parseR (nmA.getD i [])).2)], .string (bs (nmA.getD i [])), .tuple #[.agg #[.slice A26a n26a c26a, .bool m26a, .slice A26a_ n26a_ c26a_], .int .i64 ((parseR (nmA.getD i [])).2)], .agg #[.slice A26a n26a c26a, .bool m26a, .slice A26a_ n26a_ c26a_], .int .i64 ((parseR (nmA.getD i [])).2), .int .i64 ((parseZ (nmA.getD i [])).2), .bool false, .bool false, .int .i64 ((parseR (nmA.getD i [])).2), .bool false, .bool false, .bool false, .agg #[.slice A24a n24a c24a, .bool m24a], .int .i64 (((parseZ (nmA.getD i [])).1).sign), .bool false, .bool false, .bool false, .agg #[.slice A26a n26a c26a, .bool m26a, .slice A26a_ n26a_ c26a_], .int .i64 (((parseR (nmA.getD i [])).1).num.sign), .bool false, .bool false, .int .i64 ((i + 1 : Nat) : Int), undef, undef, undef, undef, undef, undef, undef, undef, undef, undef, undef, undef, undef, undef, undef, undef, undef, undef, undef, undef, undef, undef, undef, undef, undef, undef, undef, undef, undef, undef, undef, undef, undef, undef, undef, undef, undef, undef, undef, undef, undef, undef, undef, undef, undef, undef, undef, undef, undef, undef, undef, undef, undef, undef, undef, undef, undef, undef, undef, undef, undef, undef, undef, undef, undef, undef, undef, undef, undef, undef, undef, undef, undef, undef, undef, undef, undef, undef, undef, undef, undef, undef, undef, undef, undef, undef, undef, undef, undef, undef, undef, undef, undef, undef, undef, undef, undef, undef, undef, undef, undef, undef, undef, undef, undef, undef, undef, undef, undef, undef, undef, undef, undef, undef, undef, undef, undef, undef, undef, undef, undef, undef, undef, undef, undef, undef, undef, undef, undef, undef, undef, undef, undef, undef, undef, undef, undef, undef, undef, undef, undef, undef, undef, undef, undef, undef, undef, undef, undef, undef, undef, undef, undef, undef, undef, undef, undef, undef, undef, undef, undef, undef, undef, undef, undef, undef, undef, undef, undef, undef, undef, undef, undef, undef, undef, undef, undef, undef, undef, undef, undef, undef, undef, undef, undef, undef, undef, undef, undef, undef, undef, undef, undef, undef, undef, undef, undef, undef, undef, undef, undef, undef, undef, undef, undef, undef, undef, undef, undef, undef, undef, undef] : Array Value).getD t undef), (by kernel_rfl), rfl, (hM.dropn 2).clr, (by omega)⟩
 · have hk23 : (decide ((i : Int) < (10 : Int))) = false := decide_eq_false hc23
   refine CG.no ?_ hk23 rfl
   refine CG.exit (QG.then_exit (QG.then_exit (QG.here ?_)))
   refine QG.k k1 ?_
   refine CG.seq fun K_ k1 => ?_
   refine CG.seq fun K_ k2 => ?_
   refine CG.lin 3 ?_
   refine GL.row (fun _ => op_buildN rowt44 6 #[(0, .string (bs [49, 47, 45, 50])), (1, .string (bs [49, 47])), (2, .string (bs [47, 50])), (3, .string (bs [49, 47, 48, 50])), (4, .string (bs [49, 47, 50, 47, 51])), (5, .string (bs [49, 47, 43, 50]))] #[.string (bs [49, 47, 45, 50]), .string (bs [49, 47]), .string (bs [47, 50]), .string (bs [49, 47, 48, 50]), .string (bs [49, 47, 50, 47, 51]), .string (bs [49, 47, 43, 50])] (by kernel_rfl) (by decide) (by kernel_rfl)) (fun _ _ _ hm => own_built (vs := strs nmB) hm rfl rfl (by decide)) fun g30 => ?_
   refine GL.v (.int .i64 6) ?_
   refine GL.v (.int .i64 0) ?_
   refine GL.k k2 ?_
   refine CG.block ?_
   refine CG.loop (fun m_ a_ u_ => ∃ (i : Nat) (j31 : Nat → Value), a_ = ⟨#[(j31 0), undef, (j22 2), (j22 3), (j22 4), (j22 5), (j22 6), undef, (j31 8), (j31 9), (j31 10), undef, undef, undef, undef, undef, undef, undef, undef, undef, undef, undef, undef, undef, undef, undef, undef, undef, undef, undef, undef, undef, undef, undef, undef, undef, undef, .slice (some ⟨g21, 0, none⟩) 10 10, .int .i64 10, (j31 39), (j31 40), (j22 41), (j22 42), (j22 43), (j22 44), (j22 45), (j22 46), (j22 47), (j22 48), (j22 49), (j22 50), (j22 51), (j22 52), (j22 53), (j22 54), (j22 55), (j22 56), (j22 57), (j22 58), (j22 59), (j22 60), (j22 61), (j22 62), (j22 63), (j22 64), (j22 65), (j22 66), (j22 67), (j22 68), (j22 69), .slice (some ⟨g30, 0, none⟩) 6 6, .int .i64 6, .int .i64 (i : Int), (j31 73), (j31 74), (j31 75), (j31 76), (j31 77), (j31 78), (j31 79), (j31 80), (j31 81), (j31 82), (j31 83), undef, undef, undef, undef, undef, undef, undef, undef, undef, undef, undef, undef, undef, undef, undef, undef, undef, undef, undef, undef, undef, undef, undef, undef, undef, undef, undef, undef, undef, undef, undef, undef, undef, undef, undef, undef, undef, undef, undef, undef, undef, undef, undef, undef, undef, undef, undef, undef, undef, undef, undef, undef, undef, undef, undef, undef, undef, undef, undef, undef, undef, undef, undef, undef, undef, undef, undef, undef, undef, undef, undef, undef, undef, undef, undef, undef, undef, undef, undef, undef, undef, undef, undef, undef, undef, undef, undef, undef, undef, undef, undef, undef, undef, undef, undef, undef, undef, undef, undef, undef, undef, undef, undef, undef, undef, undef, undef, undef, undef, undef, undef, undef, undef, undef, undef, undef, undef, undef, undef, undef, undef, undef, undef, undef, undef, undef, undef, undef, undef, undef, undef, undef, undef, undef, undef, undef, undef, undef, undef, undef, undef, undef, undef, undef, undef, undef, undef, undef, undef, undef, undef, undef, undef, undef, undef, undef, undef, undef, undef, undef, undef, undef, undef, undef, undef, undef, undef, undef, undef, undef, undef, undef, undef, undef, undef, undef, undef, undef, undef, undef, undef, undef, undef, undef, undef, undef, undef, undef, undef, undef, undef, undef, undef, undef, undef, undef, undef, undef], []⟩ ∧ m_ = 6 - i ∧ Mem w [] X u_ [.own g30 9 6 6 (strs nmB), .own g21 9 10 10 (strs nmA)] [] ∧ (i ≤ 6)) (fun _ hM => ⟨_, 0, (fun t => (#[(j22 0), undef, (j22 2), (j22 3), (j22 4), (j22 5), (j22 6), undef, undef, undef, undef, undef, undef, undef, undef, undef, undef, undef, undef, undef, undef, undef, undef, undef, undef, undef, undef, undef, undef, undef, undef, undef, undef, undef, undef, undef, undef, .slice (some ⟨g21, 0, none⟩) 10 10, .int .i64 10, .int .i64 (i : Int), .bool (decide ((i : Int) < (10 : Int))), (j22 41), (j22 42), (j22 43), (j22 44), (j22 45), (j22 46), (j22 47), (j22 48), (j22 49), (j22 50), (j22 51), (j22 52), (j22 53), (j22 54), (j22 55), (j22 56), (j22 57), (j22 58), (j22 59), (j22 60), (j22 61), (j22 62), (j22 63), (j22 64), (j22 65), (j22 66), (j22 67), (j22 68), (j22 69), .slice (some ⟨g30, 0, none⟩) 6 6, .int .i64 6, .int .i64 0, undef, undef, undef, undef, undef, undef, undef, undef, undef, undef, undef, undef, undef, undef, undef, undef, undef, undef, undef, undef, undef, undef, undef, undef, undef, undef, undef, undef, undef, undef, undef, undef, undef, undef, undef, undef, undef, undef, undef, undef, undef, undef, undef, undef, undef, undef, undef, undef, undef, undef, undef, undef, undef, undef, undef, undef, undef, undef, undef, undef, undef, undef, undef, undef, undef, undef, undef, undef, undef, undef, undef, undef, undef, undef, undef, undef, undef, undef, undef, undef, undef, undef, undef, undef, undef, undef, undef, undef, undef, undef, undef, undef, undef, undef, undef, undef, undef, undef, undef, undef, undef, undef, undef, undef, undef, undef, undef, undef, undef, undef, undef, undef, undef, undef, undef, undef, undef, undef, undef, undef, undef, undef, undef, undef, undef, undef, undef, undef, undef, undef, undef, undef, undef, undef, undef, undef, undef, undef, undef, undef, undef, undef, undef, undef, undef, undef, undef, undef, undef, undef, undef, undef, undef, undef, undef, undef, undef, undef, undef, undef, undef, undef, undef, undef, undef, undef, undef, undef, undef, undef, undef, undef, undef, undef, undef, undef, undef, undef, undef, undef, undef, undef, undef, undef, undef, undef, undef, undef, undef, undef, undef, undef, undef, undef, undef, undef, undef, undef, undef, undef, undef, undef, undef, undef, undef, undef, undef, undef, undef] : Array Value).getD t undef), (by kernel_rfl), rfl, hM.clr, (by omega)⟩) ?_
   rintro m_ a_ u_ ⟨i, j31, rfl, hm31, hM, hi⟩
   refine CG.go hM ?_
   refine CG.seq fun K_ k2 => ?_
   refine CG.lin 1 ?_
   refine GL.v (.bool (decide ((i : Int) < (6 : Int)))) ?_
   refine GL.k k2 ?_
   refine CG.seq fun K_ k2 => ?_
   by_cases hc32 : (i : Int) < (6 : Int)
   · have hk32 : (decide ((i : Int) < (6 : Int))) = true := decide_eq_true hc32
     refine CG.yes ?_ hk32 rfl
     refine CG.skip ?_
     refine QG.k k2 ?_
     refine CG.seq fun K_ k2 => ?_
     refine CG.block ?_
     refine CG.seq fun K_ k3 => ?_
     refine CG.lin 3 ?_
     refine GL.r (elemPtr (some ⟨g30, 0, none⟩) i) (fun _ hM => op_index rowt44 (c := 6) (k := .i64) (i := (i : Int)) i (by kernel_rfl) (by kernel_rfl) (by omega) (by omega) (hM.o 0 rfl).row _) ?_
     refine GL.r (.string (bs (nmB.getD i []))) (fun _ hM => op_to (op_load_elem (n := 6) (by kernel_rfl) agg9 (hM.o 0 rfl).row (by omega)) (strs_getD (L := nmB) (by show i < 6; omega))) ?_
     refine GL.v (.string (bs (nmB.getD i []))) ?_
     refine GL.k k3 ?_
     refine CG.seq fun K_ k3 => ?_
     refine CG.lin 8 ?_
     refine GL.v (.string (bs (nmB.getD i []))) ?_
     refine GL.call (fun _ hM => Parse_ok hM.avlt (nmB.getD i []) (by have := nmB_len i; omega)) ?_
     rintro _ _ _ hM ⟨A33a, n33a, c33a, m33a, A33a_, n33a_, c33a_, rfl, h33a, hb⟩
     have hs33 := parseR_sz (nmB.getD i [])
     refine ⟨_, _, _, rfl, (hM.call hb).add h33a, ?_⟩
     refine GL.v (.tuple #[.agg #[.slice A33a n33a c33a, .bool m33a, .slice A33a_ n33a_ c33a_], .int .i64 ((parseR (nmB.getD i [])).2)]) ?_
     refine GL.v (.agg #[.slice A33a n33a c33a, .bool m33a, .slice A33a_ n33a_ c33a_]) ?_
     refine GL.v (.int .i64 ((parseR (nmB.getD i [])).2)) ?_
     refine GL.aA zer48 fun g34 => ?_
     refine GL.sA (cs' := #[.slice A33a n33a c33a, .bool m33a, .slice A33a_ n33a_ c33a_]) (fun _ _ => Mem.st0) (fun _ hM => hM.b 0 rfl) siz48 ?_
     refine GL.v (.int .i64 ((parseR (nmB.getD i [])).2)) ?_
     refine GL.k k3 ?_
     refine CG.seq fun K_ k3 => ?_
     refine CG.lin 2 ?_
     refine GL.v (.int .i64 ((parseR (nmB.getD i [])).2)) ?_
     refine GL.v (.bool false) ?_ (hr := fun u => op_b (b := (((parseR (nmB.getD i [])).2) != (4 : Int))) (by kernel_rfl) (by rw [nmB_r (by omega)]; rfl))
     refine GL.k k3 ?_
     refine CG.no ?_ rfl rfl
     refine CG.skip ?_
     refine QG.block ?_
     refine QG.k k2 ?_
     refine CG.lin 2 ?_
     refine GL.v (.int .i64 ((i + 1 : Nat) : Int)) ?_ (hr := fun u => op_to (v := .int .i64 (IntKind.wrap .i64 ((i : Int) + (1 : Int)))) (by kernel_rfl) (wrap_i64 (by omega) (by omega) (by omega)))
     refine GL.v (.int .i64 ((i + 1 : Nat) : Int)) ?_
     refine GL.q ?_
     refine QG.again fun _ hM => ?_
     exact ⟨6 - (i + 1), (by omega), (i + 1), (fun t => (#[(j31 0), undef, (j22 2), (j22 3), (j22 4), (j22 5), (j22 6), undef, .string (bs (nmB.getD i [])), .pointer (some ⟨g34, 0, none⟩), .int .i64 ((parseR (nmB.getD i [])).2), undef, undef, undef, undef, undef, undef, undef, undef, undef, undef, undef, undef, undef, undef, undef, undef, undef, undef, undef, undef, undef, undef, undef, undef, undef, undef, .slice (some ⟨g21, 0, none⟩) 10 10, .int .i64 10, (j31 39), (j31 40), (j22 41), (j22 42), (j22 43), (j22 44), (j22 45), (j22 46), (j22 47), (j22 48), (j22 49), (j22 50), (j22 51), (j22 52), (j22 53), (j22 54), (j22 55), (j22 56), (j22 57), (j22 58), (j22 59), (j22 60), (j22 61), (j22 62), (j22 63), (j22 64), (j22 65), (j22 66), (j22 67), (j22 68), (j22 69), .slice (some ⟨g30, 0, none⟩) 6 6, .int .i64 6, .int .i64 ((i + 1 : Nat) : Int), .bool (decide ((i : Int) < (6 : Int))), elemPtr (some ⟨g30, 0, none⟩) i, .string (bs (nmB.getD i [])), .tuple #[.agg #[.slice A33a n33a c33a, .bool m33a, .slice A33a_ n33a_ c33a_], .int .i64 ((parseR (nmB.getD i [])).2)], .string (bs (nmB.getD i [])), .tuple #[.agg #[.slice A33a n33a c33a, .bool m33a, .slice A33a_ n33a_ c33a_], .int .i64 ((parseR (nmB.getD i [])).2)], .agg #[.slice A33a n33a c33a, .bool m33a, .slice A33a_ n33a_ c33a_], .int .i64 ((parseR (nmB.getD i [])).2), .int .i64 ((parseR (nmB.getD i [])).2), .bool false, .int .i64 ((i + 1 : Nat) : Int), undef, undef, undef, undef, undef, undef, undef, undef, undef, undef, undef, undef, undef, undef, undef, undef, undef, undef, undef, undef, undef, undef, undef, undef, undef, undef, undef, undef, undef, undef, undef, undef, undef, undef, undef, undef, undef, undef, undef, undef, undef, undef, undef, undef, undef, undef, undef, undef, undef, undef, undef, undef, undef, undef, undef, undef, undef, undef, undef, undef, undef, undef, undef, undef, undef, undef, undef, undef, undef, undef, undef, undef, undef, undef, undef, undef, undef, undef, undef, undef, undef, undef, undef, undef, undef, undef, undef, undef, undef, undef, undef, undef, undef, undef, undef, undef, undef, undef, undef, undef, undef, undef, undef, undef, undef, undef, undef, undef, undef, undef, undef, undef, undef, undef, undef, undef, undef, undef, undef, undef, undef, undef, undef, undef, undef, undef, undef, undef, undef, undef, undef, undef, undef, undef, undef, undef, undef, undef, undef, undef, undef, undef, undef, undef, undef, undef, undef, undef, undef, undef, undef, undef, undef, undef, undef, undef, undef, undef, undef, undef, undef, undef, undef, undef, undef, undef, undef, undef, undef, undef, undef, undef, undef, undef, undef, undef, undef, undef, undef, undef, undef, undef, undef, undef, undef, undef, undef, undef, undef, undef, undef, undef, undef, undef, undef, undef, undef, undef] : Array Value).getD t undef), (by kernel_rfl), rfl, (hM.dropn 1).clr, (by omega)⟩
   · have hk32 : (decide ((i : Int) < (6 : Int))) = false := decide_eq_false hc32
     refine CG.no ?_ hk32 rfl
     refine CG.exit (QG.then_exit (QG.then_exit (QG.here ?_)))
     refine QG.k k1 ?_
     refine CG.seq fun K_ k1 => ?_
     refine CG.lin 7 ?_
     refine GL.call (fun _ hM => Parse_ok hM.avlt [49, 47, 48] (by simp)) ?_
     rintro _ _ _ hM ⟨A35a, n35a, c35a, m35a, A35a_, n35a_, c35a_, rfl, h35a, hb⟩
     have hs35 := parseR_sz ([49, 47, 48])
     simp only [List.length_cons, List.length_nil] at hs35
     refine ⟨_, _, _, rfl, (hM.call hb).add h35a, ?_⟩
     refine GL.v (.tuple #[.agg #[.slice A35a n35a c35a, .bool m35a, .slice A35a_ n35a_ c35a_], .int .i64 ((parseR [49, 47, 48]).2)]) ?_
     refine GL.v (.agg #[.slice A35a n35a c35a, .bool m35a, .slice A35a_ n35a_ c35a_]) ?_
     refine GL.v (.int .i64 ((parseR [49, 47, 48]).2)) ?_
     refine GL.aA zer48 fun g36 => ?_
     refine GL.sA (cs' := #[.slice A35a n35a c35a, .bool m35a, .slice A35a_ n35a_ c35a_]) (fun _ _ => Mem.st0) (fun _ hM => hM.b 0 rfl) siz48 ?_
     refine GL.v (.int .i64 ((parseR [49, 47, 48]).2)) ?_
     refine GL.k k1 ?_
     refine CG.seq fun K_ k1 => ?_
     refine CG.lin 7 ?_
     refine GL.call (fun _ hM => Ratio_zero hM.avlt (1) (0) (by decide +kernel) (by first | assumption | (dsimp only; omega) | omega) (by first | assumption | (dsimp only; omega) | omega)) ?_
     rintro _ _ _ hM ⟨A37a, n37a, c37a, m37a, A37a_, n37a_, c37a_, rfl, h37a, hb⟩
     refine ⟨_, _, _, rfl, (hM.call hb).add h37a, ?_⟩
     refine GL.v (.tuple #[.agg #[.slice A37a n37a c37a, .bool m37a, .slice A37a_ n37a_ c37a_], .int .i64 9]) ?_
     refine GL.v (.agg #[.slice A37a n37a c37a, .bool m37a, .slice A37a_ n37a_ c37a_]) ?_
     refine GL.v (.int .i64 9) ?_
     refine GL.aA zer48 fun g38 => ?_
     refine GL.sA (cs' := #[.slice A37a n37a c37a, .bool m37a, .slice A37a_ n37a_ c37a_]) (fun _ _ => Mem.st0) (fun _ hM => hM.b 0 rfl) siz48 ?_
     refine GL.v (.int .i64 9) ?_
     refine GL.k k1 ?_
     refine CG.seq fun K_ k1 => ?_
     refine CG.lin 9 ?_
     refine GL.call (fun _ hM => Of_ok hM.avlt (1) (by first | assumption | (dsimp only; omega) | omega)) ?_
     rintro _ _ _ hM ⟨A39, n39, c39, m39, A39_, n39_, c39_, rfl, h39, hb⟩
     have hs39 := szR_int (1)
     have ht39 := sz_i64 (1) (by omega)
     refine ⟨_, _, _, rfl, (hM.call hb).add h39, ?_⟩
     refine GL.v (.agg #[.slice none 0 0, .bool false, .slice none 0 0]) ?_
     refine GL.call (fun _ hM => RDiv_zero hM.avlt (hM.f 0 rfl) (Rk.nil _ _ none none 0 0) (by decide +kernel) (by first | assumption | (dsimp only; omega) | omega)) ?_
     rintro _ _ _ hM ⟨A40a, n40a, c40a, m40a, A40a_, n40a_, c40a_, rfl, h40a, hb⟩
     refine ⟨_, _, _, rfl, (hM.call hb).add h40a, ?_⟩
     refine GL.v (.tuple #[.agg #[.slice A40a n40a c40a, .bool m40a, .slice A40a_ n40a_ c40a_], .int .i64 9]) ?_
     refine GL.v (.agg #[.slice A40a n40a c40a, .bool m40a, .slice A40a_ n40a_ c40a_]) ?_
     refine GL.v (.int .i64 9) ?_
     refine GL.aA zer48 fun g41 => ?_
     refine GL.sA (cs' := #[.slice A40a n40a c40a, .bool m40a, .slice A40a_ n40a_ c40a_]) (fun _ _ => Mem.st0) (fun _ hM => hM.b 0 rfl) siz48 ?_
     refine GL.v (.int .i64 9) ?_
     refine GL.k k1 ?_
     refine CG.seq fun K_ k1 => ?_
     refine CG.lin 12 ?_
     refine GL.call (fun _ hM => Int_ok hM.avlt (1) (by first | assumption | (dsimp only; omega) | omega)) ?_
     rintro _ _ _ hM ⟨A42, n42, c42, m42, rfl, h42, hb⟩
     have hs42 := sz_i64 (1) (by omega)
     refine ⟨_, _, _, rfl, (hM.call hb).add h42, ?_⟩
     refine GL.v (.agg #[.slice none 0 0, .bool false]) ?_
     refine GL.call (fun _ hM => Quotient_zero hM.avlt (hM.f 0 rfl) (Zk.nil _ _ none 0) (by decide +kernel)) ?_
     rintro _ _ _ hM ⟨A43a, n43a, c43a, m43a, A43b, n43b, c43b, m43b, rfl, h43a, h43b, hb⟩
     refine ⟨_, _, _, rfl, ((hM.call hb).add h43a).add h43b, ?_⟩
     refine GL.v (.tuple #[.agg #[.slice A43a n43a c43a, .bool m43a], .agg #[.slice A43b n43b c43b, .bool m43b], .int .i64 9]) ?_
     refine GL.v (.agg #[.slice A43a n43a c43a, .bool m43a]) ?_
     refine GL.v (.agg #[.slice A43b n43b c43b, .bool m43b]) ?_
     refine GL.v (.int .i64 9) ?_
     refine GL.aA zer28 fun g44 => ?_
     refine GL.aA zer28 fun g45 => ?_
     refine GL.sA (cs' := #[.slice A43a n43a c43a, .bool m43a]) (fun _ _ => Mem.st1) (fun _ hM => hM.b 1 rfl) siz28 ?_
     refine GL.sA (cs' := #[.slice A43b n43b c43b, .bool m43b]) (fun _ _ => Mem.st0) (fun _ hM => hM.b 0 rfl) siz28 ?_
     refine GL.v (.int .i64 9) ?_
     refine GL.k k1 ?_
     refine CG.seq fun K_ k1 => ?_
     refine CG.seq fun K_ k2 => ?_
     refine CG.lin 28 ?_
     refine GL.call (fun _ hM => awake_ok hM.avlt) ?_
     rintro _ _ _ hM ⟨rfl, hb⟩
     refine ⟨_, _, _, rfl, hM.call hb, ?_⟩
     refine GL.v (.bool false) ?_
     refine GL.v (.bool false) ?_
     refine GL.v (.int .i64 ((parseR [49, 47, 48]).2)) ?_
     refine GL.v (.bool false) ?_ (hr := fun u => op_b (b := (((parseR [49, 47, 48]).2) != (9 : Int))) (by kernel_rfl) (by decide +kernel))
     refine GL.v (.bool false) ?_
     refine GL.v (.bool false) ?_
     refine GL.v (.int .i64 9) ?_
     refine GL.v (.bool false) ?_
     refine GL.v (.bool false) ?_
     refine GL.v (.bool false) ?_
     refine GL.v (.int .i64 9) ?_
     refine GL.v (.bool false) ?_
     refine GL.v (.bool false) ?_
     refine GL.v (.bool false) ?_
     refine GL.v (.int .i64 9) ?_
     refine GL.v (.bool false) ?_
     refine GL.v (.bool false) ?_
     refine GL.v (.bool false) ?_
     refine GL.call (fun _ hM => z_ok hM.avlt [45, 48] (by simp)) ?_
     rintro _ _ _ hM ⟨A47, n47, c47, m47, rfl, h47, hb⟩
     have hz47 := parseZ_sz ([45, 48])
     simp only [List.length_cons, List.length_nil] at hz47
     refine ⟨_, _, _, rfl, (hM.call hb).add h47, ?_⟩
     refine GL.call (fun _ hM => ZText_ok hM.avlt (hM.f 0 rfl) (by first | assumption | omega | (dsimp only; omega))) ?_
     rintro _ _ _ hM ⟨rfl, hb⟩
     have hl48 := decZ_len (((parseZ [45, 48]).1))
     refine ⟨_, _, _, rfl, hM.call hb, ?_⟩
     refine GL.v (.bool false) ?_ (hr := fun u => op_b (b := (!(decide ((decZ ((parseZ [45, 48]).1)) = [48])))) ((fun u => op_sne (L := decZ ((parseZ [45, 48]).1)) (K := [48]) (by kernel_rfl) (by kernel_rfl)) u) (by rw [decide_eq_true ((decZ_pos (s := [48]) (by decide +kernel) (by decide +kernel)))]; rfl))
     refine GL.v (.bool false) ?_
     refine GL.v (.bool false) ?_
     refine GL.call (fun _ hM => r_ok hM.avlt [45, 48, 47, 55] (by simp)) ?_
     rintro _ _ _ hM ⟨A49, n49, c49, m49, A49_, n49_, c49_, rfl, h49, hb⟩
     have hs49 := parseR_sz ([45, 48, 47, 55])
     simp only [List.length_cons, List.length_nil] at hs49
     refine ⟨_, _, _, rfl, (hM.call hb).add h49, ?_⟩
     refine GL.call (fun _ hM => RText_ok hM.avlt (hM.f 0 rfl) (by first | assumption | omega | (dsimp only; omega))) ?_
     rintro _ _ _ hM ⟨rfl, hb⟩
     have hl50 := decR_len (((parseR [45, 48, 47, 55]).1))
     refine ⟨_, _, _, rfl, hM.call hb, ?_⟩
     refine GL.v (.bool false) ?_ (hr := fun u => op_b (b := (!(decide ((decR ((parseR [45, 48, 47, 55]).1)) = [48])))) ((fun u => op_sne (L := decR ((parseR [45, 48, 47, 55]).1)) (K := [48]) (by kernel_rfl) (by kernel_rfl)) u) (by rw [decide_eq_true ((decR_int (by decide +kernel) (decZ_pos (s := [48]) (by decide +kernel) (by decide +kernel))))]; rfl))
     refine GL.v (.bool false) ?_
     refine GL.k k2 ?_
     refine CG.no ?_ rfl rfl
     refine CG.skip ?_
     refine QG.k k1 ?_
     refine CG.seq fun K_ k1 => ?_
     refine CG.lin 12 ?_
     refine GL.call (fun _ hM => Int_ok hM.avlt (7) (by first | assumption | (dsimp only; omega) | omega)) ?_
     rintro _ _ _ hM ⟨A51, n51, c51, m51, rfl, h51, hb⟩
     have hs51 := sz_i64 (7) (by omega)
     refine ⟨_, _, _, rfl, (hM.call hb).add h51, ?_⟩
     refine GL.call (fun _ hM => Int_ok hM.avlt (-2) (by first | assumption | (dsimp only; omega) | omega)) ?_
     rintro _ _ _ hM ⟨A52, n52, c52, m52, rfl, h52, hb⟩
     have hs52 := sz_i64 (-2) (by omega)
     refine ⟨_, _, _, rfl, (hM.call hb).add h52, ?_⟩
     refine GL.call (fun _ hM => Quotient_ok hM.avlt (hM.f 1 rfl) (hM.f 0 rfl) (by decide +kernel) (by first | assumption | (dsimp only; omega) | omega)) ?_
     rintro _ _ _ hM ⟨A53a, n53a, c53a, m53a, A53b, n53b, c53b, m53b, rfl, h53a, h53b, hb⟩
     have hs53 := sz_quo (7) (-2)
     have ht53 := sz_rem2 (7) (-2)
     refine ⟨_, _, _, rfl, ((hM.call hb).add h53a).add h53b, ?_⟩
     refine GL.v (.tuple #[.agg #[.slice A53a n53a c53a, .bool m53a], .agg #[.slice A53b n53b c53b, .bool m53b], .int .i64 0]) ?_
     refine GL.v (.agg #[.slice A53a n53a c53a, .bool m53a]) ?_
     refine GL.v (.agg #[.slice A53b n53b c53b, .bool m53b]) ?_
     refine GL.v (.int .i64 0) ?_
     refine GL.aA zer28 fun g54 => ?_
     refine GL.aA zer28 fun g55 => ?_
     refine GL.sA (cs' := #[.slice A53a n53a c53a, .bool m53a]) (fun _ _ => Mem.st1) (fun _ hM => hM.b 1 rfl) siz28 ?_
     refine GL.sA (cs' := #[.slice A53b n53b c53b, .bool m53b]) (fun _ _ => Mem.st0) (fun _ hM => hM.b 0 rfl) siz28 ?_
     refine GL.v (.int .i64 0) ?_
     refine GL.k k1 ?_
     refine CG.seq fun K_ k1 => ?_
     refine CG.lin 12 ?_
     refine GL.call (fun _ hM => Int_ok hM.avlt (-7) (by first | assumption | (dsimp only; omega) | omega)) ?_
     rintro _ _ _ hM ⟨A56, n56, c56, m56, rfl, h56, hb⟩
     have hs56 := sz_i64 (-7) (by omega)
     refine ⟨_, _, _, rfl, (hM.call hb).add h56, ?_⟩
     refine GL.call (fun _ hM => Int_ok hM.avlt (-2) (by first | assumption | (dsimp only; omega) | omega)) ?_
     rintro _ _ _ hM ⟨A57, n57, c57, m57, rfl, h57, hb⟩
     have hs57 := sz_i64 (-2) (by omega)
     refine ⟨_, _, _, rfl, (hM.call hb).add h57, ?_⟩
     refine GL.call (fun _ hM => Quotient_ok hM.avlt (hM.f 1 rfl) (hM.f 0 rfl) (by decide +kernel) (by first | assumption | (dsimp only; omega) | omega)) ?_
     rintro _ _ _ hM ⟨A58a, n58a, c58a, m58a, A58b, n58b, c58b, m58b, rfl, h58a, h58b, hb⟩
     have hs58 := sz_quo (-7) (-2)
     have ht58 := sz_rem2 (-7) (-2)
     refine ⟨_, _, _, rfl, ((hM.call hb).add h58a).add h58b, ?_⟩
     refine GL.v (.tuple #[.agg #[.slice A58a n58a c58a, .bool m58a], .agg #[.slice A58b n58b c58b, .bool m58b], .int .i64 0]) ?_
     refine GL.v (.agg #[.slice A58a n58a c58a, .bool m58a]) ?_
     refine GL.v (.agg #[.slice A58b n58b c58b, .bool m58b]) ?_
     refine GL.v (.int .i64 0) ?_
     refine GL.aA zer28 fun g59 => ?_
     refine GL.aA zer28 fun g60 => ?_
     refine GL.sA (cs' := #[.slice A58a n58a c58a, .bool m58a]) (fun _ _ => Mem.st1) (fun _ hM => hM.b 1 rfl) siz28 ?_
     refine GL.sA (cs' := #[.slice A58b n58b c58b, .bool m58b]) (fun _ _ => Mem.st0) (fun _ hM => hM.b 0 rfl) siz28 ?_
     refine GL.v (.int .i64 0) ?_
     refine GL.k k1 ?_
     refine CG.seq fun K_ k1 => ?_
     refine CG.seq fun K_ k2 => ?_
     refine CG.lin 45 ?_
     refine GL.v (.int .i64 0) ?_
     refine GL.v (.bool false) ?_
     refine GL.v (.bool false) ?_
     refine GL.v (.int .i64 0) ?_
     refine GL.v (.bool false) ?_
     refine GL.v (.bool false) ?_
     refine GL.v (.bool false) ?_
     refine GL.r (.agg #[.slice A53a n53a c53a, .bool m53a]) (fun _ hM => op_load_agg (off := 0) (by kernel_rfl) agg28 siz28 (hM.b 3 rfl) rfl rfl) ?_
     refine GL.call (fun _ hM => ZText_ok hM.avlt (hM.f 5 rfl) (by first | assumption | (dsimp only; omega) | omega)) ?_
     rintro _ _ _ hM ⟨rfl, hb⟩
     have hl61 := decZ_len ((7 / (-2)))
     refine ⟨_, _, _, rfl, hM.call hb, ?_⟩
     refine GL.v (.bool false) ?_ (hr := fun u => op_b (b := (!(decide ((decZ (7 / (-2))) = [45, 51])))) ((fun u => op_sne (L := decZ (7 / (-2))) (K := [45, 51]) (by kernel_rfl) (by kernel_rfl)) u) (by rw [decide_eq_true ((decZ_neg (s := [51]) (by decide +kernel) (by decide +kernel) (by decide +kernel)))]; rfl))
     refine GL.v (.bool false) ?_
     refine GL.v (.bool false) ?_
     refine GL.r (.agg #[.slice A53b n53b c53b, .bool m53b]) (fun _ hM => op_load_agg (off := 0) (by kernel_rfl) agg28 siz28 (hM.b 2 rfl) rfl rfl) ?_
     refine GL.call (fun _ hM => ZText_ok hM.avlt (hM.f 4 rfl) (by first | assumption | (dsimp only; omega) | omega)) ?_
     rintro _ _ _ hM ⟨rfl, hb⟩
     have hl62 := decZ_len ((7 % (-2)))
     refine ⟨_, _, _, rfl, hM.call hb, ?_⟩
     refine GL.v (.bool false) ?_ (hr := fun u => op_b (b := (!(decide ((decZ (7 % (-2))) = [49])))) ((fun u => op_sne (L := decZ (7 % (-2))) (K := [49]) (by kernel_rfl) (by kernel_rfl)) u) (by rw [decide_eq_true ((decZ_pos (s := [49]) (by decide +kernel) (by decide +kernel)))]; rfl))
     refine GL.v (.bool false) ?_
     refine GL.v (.bool false) ?_
     refine GL.r (.agg #[.slice A58a n58a c58a, .bool m58a]) (fun _ hM => op_load_agg (off := 0) (by kernel_rfl) agg28 siz28 (hM.b 1 rfl) rfl rfl) ?_
     refine GL.call (fun _ hM => ZText_ok hM.avlt (hM.f 1 rfl) (by first | assumption | (dsimp only; omega) | omega)) ?_
     rintro _ _ _ hM ⟨rfl, hb⟩
     have hl63 := decZ_len (((-7) / (-2)))
     refine ⟨_, _, _, rfl, hM.call hb, ?_⟩
     refine GL.v (.bool false) ?_ (hr := fun u => op_b (b := (!(decide ((decZ ((-7) / (-2))) = [52])))) ((fun u => op_sne (L := decZ ((-7) / (-2))) (K := [52]) (by kernel_rfl) (by kernel_rfl)) u) (by rw [decide_eq_true ((decZ_pos (s := [52]) (by decide +kernel) (by decide +kernel)))]; rfl))
     refine GL.v (.bool false) ?_
     refine GL.v (.bool false) ?_
     refine GL.r (.agg #[.slice A58b n58b c58b, .bool m58b]) (fun _ hM => op_load_agg (off := 0) (by kernel_rfl) agg28 siz28 (hM.b 0 rfl) rfl rfl) ?_
     refine GL.call (fun _ hM => ZText_ok hM.avlt (hM.f 0 rfl) (by first | assumption | (dsimp only; omega) | omega)) ?_
     rintro _ _ _ hM ⟨rfl, hb⟩
     have hl64 := decZ_len (((-7) % (-2)))
     refine ⟨_, _, _, rfl, hM.call hb, ?_⟩
     refine GL.v (.bool false) ?_ (hr := fun u => op_b (b := (!(decide ((decZ ((-7) % (-2))) = [49])))) ((fun u => op_sne (L := decZ ((-7) % (-2))) (K := [49]) (by kernel_rfl) (by kernel_rfl)) u) (by rw [decide_eq_true ((decZ_pos (s := [49]) (by decide +kernel) (by decide +kernel)))]; rfl))
     refine GL.v (.bool false) ?_
     refine GL.v (.bool false) ?_
     refine GL.v (.agg #[.slice none 0 0, .bool false]) ?_
     refine GL.call (fun _ hM => Int_ok hM.avlt (-5) (by first | assumption | (dsimp only; omega) | omega)) ?_
     rintro _ _ _ hM ⟨A65, n65, c65, m65, rfl, h65, hb⟩
     have hs65 := sz_i64 (-5) (by omega)
     refine ⟨_, _, _, rfl, (hM.call hb).add h65, ?_⟩
     refine GL.call (fun _ hM => Gcd_ok hM.avlt (Zk.nil _ _ none 0) (hM.f 0 rfl) (by first | assumption | (dsimp only; omega) | omega)) ?_
     rintro _ _ _ hM ⟨A66, n66, c66, m66, rfl, h66, hb⟩
     have hs66 := sz_gcd2 (0) (-5)
     refine ⟨_, _, _, rfl, (hM.call hb).add h66, ?_⟩
     refine GL.call (fun _ hM => ZText_ok hM.avlt (hM.f 0 rfl) (by first | assumption | (dsimp only; omega) | omega)) ?_
     rintro _ _ _ hM ⟨rfl, hb⟩
     have hl67 := decZ_len ((Int.gcd 0 (-5) : Int))
     refine ⟨_, _, _, rfl, hM.call hb, ?_⟩
     refine GL.v (.bool false) ?_ (hr := fun u => op_b (b := (!(decide ((decZ (Int.gcd 0 (-5) : Int)) = [53])))) ((fun u => op_sne (L := decZ (Int.gcd 0 (-5) : Int)) (K := [53]) (by kernel_rfl) (by kernel_rfl)) u) (by rw [decide_eq_true ((decZ_pos (s := [53]) (by decide +kernel) (by decide +kernel)))]; rfl))
     refine GL.v (.bool false) ?_
     refine GL.v (.bool false) ?_
     refine GL.call (fun _ hM => r_ok hM.avlt [45, 55, 47, 50] (by simp)) ?_
     rintro _ _ _ hM ⟨A68, n68, c68, m68, A68_, n68_, c68_, rfl, h68, hb⟩
     have hs68 := parseR_sz ([45, 55, 47, 50])
     simp only [List.length_cons, List.length_nil] at hs68
     refine ⟨_, _, _, rfl, (hM.call hb).add h68, ?_⟩
     refine GL.call (fun _ hM => Floor_ok hM.avlt (hM.f 0 rfl) (by first | assumption | omega | (dsimp only; omega))) ?_
     rintro _ _ _ hM ⟨A69, n69, c69, m69, rfl, h69, hb⟩
     have hs69 := sz_floor (((parseR [45, 55, 47, 50]).1))
     refine ⟨_, _, _, rfl, (hM.call hb).add h69, ?_⟩
     refine GL.call (fun _ hM => ZText_ok hM.avlt (hM.f 0 rfl) (by first | assumption | omega | (dsimp only; omega))) ?_
     rintro _ _ _ hM ⟨rfl, hb⟩
     have hl70 := decZ_len ((((parseR [45, 55, 47, 50]).1).floor))
     refine ⟨_, _, _, rfl, hM.call hb, ?_⟩
     refine GL.v (.bool false) ?_ (hr := fun u => op_b (b := (!(decide ((decZ (((parseR [45, 55, 47, 50]).1).floor)) = [45, 52])))) ((fun u => op_sne (L := decZ (((parseR [45, 55, 47, 50]).1).floor)) (K := [45, 52]) (by kernel_rfl) (by kernel_rfl)) u) (by rw [decide_eq_true ((decZ_neg (s := [52]) (by decide +kernel) (by decide +kernel) (by decide +kernel)))]; rfl))
     refine GL.v (.bool false) ?_
     refine GL.v (.bool false) ?_
     refine GL.call (fun _ hM => r_ok hM.avlt [45, 55, 47, 50] (by simp)) ?_
     rintro _ _ _ hM ⟨A71, n71, c71, m71, A71_, n71_, c71_, rfl, h71, hb⟩
     have hs71 := parseR_sz ([45, 55, 47, 50])
     simp only [List.length_cons, List.length_nil] at hs71
     refine ⟨_, _, _, rfl, (hM.call hb).add h71, ?_⟩
     refine GL.call (fun _ hM => Ceil_ok hM.avlt (hM.f 0 rfl) (by first | assumption | omega | (dsimp only; omega))) ?_
     rintro _ _ _ hM ⟨A72, n72, c72, m72, rfl, h72, hb⟩
     have hs72 := sz_ceil (((parseR [45, 55, 47, 50]).1))
     refine ⟨_, _, _, rfl, (hM.call hb).add h72, ?_⟩
     refine GL.call (fun _ hM => ZText_ok hM.avlt (hM.f 0 rfl) (by first | assumption | omega | (dsimp only; omega))) ?_
     rintro _ _ _ hM ⟨rfl, hb⟩
     have hl73 := decZ_len ((((parseR [45, 55, 47, 50]).1).ceil))
     refine ⟨_, _, _, rfl, hM.call hb, ?_⟩
     refine GL.v (.bool false) ?_ (hr := fun u => op_b (b := (!(decide ((decZ (((parseR [45, 55, 47, 50]).1).ceil)) = [45, 51])))) ((fun u => op_sne (L := decZ (((parseR [45, 55, 47, 50]).1).ceil)) (K := [45, 51]) (by kernel_rfl) (by kernel_rfl)) u) (by rw [decide_eq_true ((decZ_neg (s := [51]) (by decide +kernel) (by decide +kernel) (by decide +kernel)))]; rfl))
     refine GL.v (.bool false) ?_
     refine GL.k k2 ?_
     refine CG.no ?_ rfl rfl
     refine CG.skip ?_
     refine QG.k k1 ?_
     refine CG.seq fun K_ k1 => ?_
     refine CG.lin 3 ?_
     refine GL.call (fun _ hM => Int_ok hM.avlt (1) (by first | assumption | (dsimp only; omega) | omega)) ?_
     rintro _ _ _ hM ⟨A74, n74, c74, m74, rfl, h74, hb⟩
     have hs74 := sz_i64 (1) (by omega)
     refine ⟨_, _, _, rfl, (hM.call hb).add h74, ?_⟩
     refine GL.aA zer28 fun g75 => ?_
     refine GL.sA (cs' := #[.slice A74 n74 c74, .bool m74]) (fun _ _ => Mem.st0) (fun _ hM => hM.b 0 rfl) siz28 ?_
     refine GL.k k1 ?_
     refine CG.seq fun K_ k1 => ?_
     refine CG.seq fun K_ k2 => ?_
     refine CG.lin 1 ?_
     refine GL.v (.int .i64 1) ?_
     refine GL.k k2 ?_
     refine CG.block ?_
     refine CG.loop (fun m_ a_ u_ => ∃ (Ap : Option Addr) (np : Nat) (cp : Nat) (mp : Bool) (p : Int) (k : Nat) (j76 : Nat → Value), a_ = ⟨#[(j31 0), undef, (j22 2), (j22 3), (j22 4), (j22 5), (j22 6), undef, (j31 8), (j31 9), (j31 10), .pointer (some ⟨g36, 0, none⟩), .int .i64 ((parseR [49, 47, 48]).2), .pointer (some ⟨g38, 0, none⟩), .int .i64 9, .pointer (some ⟨g41, 0, none⟩), .int .i64 9, .pointer (some ⟨g44, 0, none⟩), .pointer (some ⟨g45, 0, none⟩), .int .i64 9, .pointer (some ⟨g54, 0, none⟩), .pointer (some ⟨g55, 0, none⟩), .int .i64 0, .pointer (some ⟨g59, 0, none⟩), .pointer (some ⟨g60, 0, none⟩), .int .i64 0, .pointer (some ⟨g75, 0, none⟩), .int .i64 (k : Int), undef, undef, undef, undef, undef, undef, undef, undef, undef, .slice (some ⟨g21, 0, none⟩) 10 10, .int .i64 10, (j31 39), (j31 40), (j22 41), (j22 42), (j22 43), (j22 44), (j22 45), (j22 46), (j22 47), (j22 48), (j22 49), (j22 50), (j22 51), (j22 52), (j22 53), (j22 54), (j22 55), (j22 56), (j22 57), (j22 58), (j22 59), (j22 60), (j22 61), (j22 62), (j22 63), (j22 64), (j22 65), (j22 66), (j22 67), (j22 68), (j22 69), .slice (some ⟨g30, 0, none⟩) 6 6, .int .i64 6, .int .i64 (i : Int), .bool (decide ((i : Int) < (6 : Int))), (j31 74), (j31 75), (j31 76), (j31 77), (j31 78), (j31 79), (j31 80), (j31 81), (j31 82), (j31 83), .tuple #[.agg #[.slice A35a n35a c35a, .bool m35a, .slice A35a_ n35a_ c35a_], .int .i64 ((parseR [49, 47, 48]).2)], .tuple #[.agg #[.slice A35a n35a c35a, .bool m35a, .slice A35a_ n35a_ c35a_], .int .i64 ((parseR [49, 47, 48]).2)], .agg #[.slice A35a n35a c35a, .bool m35a, .slice A35a_ n35a_ c35a_], .int .i64 ((parseR [49, 47, 48]).2), .tuple #[.agg #[.slice A37a n37a c37a, .bool m37a, .slice A37a_ n37a_ c37a_], .int .i64 9], .tuple #[.agg #[.slice A37a n37a c37a, .bool m37a, .slice A37a_ n37a_ c37a_], .int .i64 9], .agg #[.slice A37a n37a c37a, .bool m37a, .slice A37a_ n37a_ c37a_], .int .i64 9, .tuple #[.agg #[.slice A40a n40a c40a, .bool m40a, .slice A40a_ n40a_ c40a_], .int .i64 9], .agg #[.slice A39 n39 c39, .bool m39, .slice A39_ n39_ c39_], .agg #[.slice none 0 0, .bool false, .slice none 0 0], .tuple #[.agg #[.slice A40a n40a c40a, .bool m40a, .slice A40a_ n40a_ c40a_], .int .i64 9], .agg #[.slice A40a n40a c40a, .bool m40a, .slice A40a_ n40a_ c40a_], .int .i64 9, .tuple #[.agg #[.slice A43a n43a c43a, .bool m43a], .agg #[.slice A43b n43b c43b, .bool m43b], .int .i64 9], .agg #[.slice A42 n42 c42, .bool m42], .agg #[.slice none 0 0, .bool false], .tuple #[.agg #[.slice A43a n43a c43a, .bool m43a], .agg #[.slice A43b n43b c43b, .bool m43b], .int .i64 9], .agg #[.slice A43a n43a c43a, .bool m43a], .agg #[.slice A43b n43b c43b, .bool m43b], .int .i64 9, .bool true, .bool false, .bool false, .int .i64 ((parseR [49, 47, 48]).2), .bool false, .bool false, .bool false, .int .i64 9, .bool false, .bool false, .bool false, .int .i64 9, .bool false, .bool false, .bool false, .int .i64 9, .bool false, .bool false, .bool false, .agg #[.slice A47 n47 c47, .bool m47], .string (bs (decZ ((parseZ [45, 48]).1))), .bool false, .bool false, .bool false, .agg #[.slice A49 n49 c49, .bool m49, .slice A49_ n49_ c49_], .string (bs (decR ((parseR [45, 48, 47, 55]).1))), .bool false, .bool false, .tuple #[.agg #[.slice A53a n53a c53a, .bool m53a], .agg #[.slice A53b n53b c53b, .bool m53b], .int .i64 0], .agg #[.slice A51 n51 c51, .bool m51], .agg #[.slice A52 n52 c52, .bool m52], .tuple #[.agg #[.slice A53a n53a c53a, .bool m53a], .agg #[.slice A53b n53b c53b, .bool m53b], .int .i64 0], .agg #[.slice A53a n53a c53a, .bool m53a], .agg #[.slice A53b n53b c53b, .bool m53b], .int .i64 0, .tuple #[.agg #[.slice A58a n58a c58a, .bool m58a], .agg #[.slice A58b n58b c58b, .bool m58b], .int .i64 0], .agg #[.slice A56 n56 c56, .bool m56], .agg #[.slice A57 n57 c57, .bool m57], .tuple #[.agg #[.slice A58a n58a c58a, .bool m58a], .agg #[.slice A58b n58b c58b, .bool m58b], .int .i64 0], .agg #[.slice A58a n58a c58a, .bool m58a], .agg #[.slice A58b n58b c58b, .bool m58b], .int .i64 0, .int .i64 0, .bool false, .bool false, .int .i64 0, .bool false, .bool false, .bool false, .agg #[.slice A53a n53a c53a, .bool m53a], .string (bs (decZ (7 / (-2)))), .bool false, .bool false, .bool false, .agg #[.slice A53b n53b c53b, .bool m53b], .string (bs (decZ (7 % (-2)))), .bool false, .bool false, .bool false, .agg #[.slice A58a n58a c58a, .bool m58a], .string (bs (decZ ((-7) / (-2)))), .bool false, .bool false, .bool false, .agg #[.slice A58b n58b c58b, .bool m58b], .string (bs (decZ ((-7) % (-2)))), .bool false, .bool false, .bool false, .agg #[.slice none 0 0, .bool false], .agg #[.slice A65 n65 c65, .bool m65], .agg #[.slice A66 n66 c66, .bool m66], .string (bs (decZ (Int.gcd 0 (-5) : Int))), .bool false, .bool false, .bool false, .agg #[.slice A68 n68 c68, .bool m68, .slice A68_ n68_ c68_], .agg #[.slice A69 n69 c69, .bool m69], .string (bs (decZ (((parseR [45, 55, 47, 50]).1).floor))), .bool false, .bool false, .bool false, .agg #[.slice A71 n71 c71, .bool m71, .slice A71_ n71_ c71_], .agg #[.slice A72 n72 c72, .bool m72], .string (bs (decZ (((parseR [45, 55, 47, 50]).1).ceil))), .bool false, .bool false, .agg #[.slice A74 n74 c74, .bool m74], (j76 193), (j76 194), (j76 195), (j76 196), (j76 197), (j76 198), (j76 199), (j76 200), undef, undef, undef, undef, undef, undef, undef, undef, undef, undef, undef, undef, undef, undef, undef, undef, undef, undef, undef, undef, undef, undef, undef, undef, undef, undef, undef, undef, undef, undef, undef, undef, undef, undef, undef, undef, undef, undef, undef, undef, undef, undef, undef, undef, undef, undef, undef, undef, undef, undef, undef, undef, undef, undef, undef, undef, undef, undef, undef, undef, undef, undef, undef, undef, undef, undef, undef, undef, undef, undef, undef, undef, undef, undef, undef, undef, undef, undef, undef, undef, undef], []⟩ ∧ m_ = 26 - k ∧ Mem w [] X u_ [.box g75 #[.slice Ap np cp, .bool mp] 28, .box g60 #[.slice A58b n58b c58b, .bool m58b] 28, .box g59 #[.slice A58a n58a c58a, .bool m58a] 28, .box g55 #[.slice A53b n53b c53b, .bool m53b] 28, .box g54 #[.slice A53a n53a c53a, .bool m53a] 28, .box g45 #[.slice A43b n43b c43b, .bool m43b] 28, .box g44 #[.slice A43a n43a c43a, .bool m43a] 28, .box g41 #[.slice A40a n40a c40a, .bool m40a, .slice A40a_ n40a_ c40a_] 48, .box g38 #[.slice A37a n37a c37a, .bool m37a, .slice A37a_ n37a_ c37a_] 48, .box g36 #[.slice A35a n35a c35a, .bool m35a, .slice A35a_ n35a_ c35a_] 48, .own g30 9 6 6 (strs nmB), .own g21 9 10 10 (strs nmA)] [⟨Zk, [.slice Ap np cp, .bool mp], p⟩, ⟨Zk, [.slice A74 n74 c74, .bool m74], 1⟩, ⟨Zk, [.slice A72 n72 c72, .bool m72], ((parseR [45, 55, 47, 50]).1).ceil⟩, ⟨Rk, [.slice A71 n71 c71, .bool m71, .slice A71_ n71_ c71_], (parseR [45, 55, 47, 50]).1⟩, ⟨Zk, [.slice A69 n69 c69, .bool m69], ((parseR [45, 55, 47, 50]).1).floor⟩, ⟨Rk, [.slice A68 n68 c68, .bool m68, .slice A68_ n68_ c68_], (parseR [45, 55, 47, 50]).1⟩, ⟨Zk, [.slice A66 n66 c66, .bool m66], (Int.gcd 0 (-5) : Int)⟩, ⟨Zk, [.slice A65 n65 c65, .bool m65], (-5)⟩, ⟨Zk, [.slice A58b n58b c58b, .bool m58b], (-7) % (-2)⟩, ⟨Zk, [.slice A58a n58a c58a, .bool m58a], (-7) / (-2)⟩, ⟨Zk, [.slice A57 n57 c57, .bool m57], (-2)⟩, ⟨Zk, [.slice A56 n56 c56, .bool m56], (-7)⟩, ⟨Zk, [.slice A53b n53b c53b, .bool m53b], 7 % (-2)⟩, ⟨Zk, [.slice A53a n53a c53a, .bool m53a], 7 / (-2)⟩, ⟨Zk, [.slice A52 n52 c52, .bool m52], (-2)⟩, ⟨Zk, [.slice A51 n51 c51, .bool m51], 7⟩, ⟨Rk, [.slice A49 n49 c49, .bool m49, .slice A49_ n49_ c49_], (parseR [45, 48, 47, 55]).1⟩, ⟨Zk, [.slice A47 n47 c47, .bool m47], (parseZ [45, 48]).1⟩, ⟨Zk, [.slice A43b n43b c43b, .bool m43b], 0⟩, ⟨Zk, [.slice A43a n43a c43a, .bool m43a], 0⟩, ⟨Zk, [.slice A42 n42 c42, .bool m42], 1⟩, ⟨Rk, [.slice A40a n40a c40a, .bool m40a, .slice A40a_ n40a_ c40a_], 0⟩, ⟨Rk, [.slice A39 n39 c39, .bool m39, .slice A39_ n39_ c39_], ((1 : Int) : Rat)⟩, ⟨Rk, [.slice A37a n37a c37a, .bool m37a, .slice A37a_ n37a_ c37a_], 0⟩, ⟨Rk, [.slice A35a n35a c35a, .bool m35a, .slice A35a_ n35a_ c35a_], (parseR [49, 47, 48]).1⟩] ∧ (1 ≤ k ∧ k ≤ 26) ∧ (p = fac (k - 1)) ∧ (sz p ≤ 3 * k)) (fun _ hM => ⟨_, A74, n74, c74, m74, 1, 1, (fun t => (#[(j31 0), undef, (j22 2), (j22 3), (j22 4), (j22 5), (j22 6), undef, (j31 8), (j31 9), (j31 10), .pointer (some ⟨g36, 0, none⟩), .int .i64 ((parseR [49, 47, 48]).2), .pointer (some ⟨g38, 0, none⟩), .int .i64 9, .pointer (some ⟨g41, 0, none⟩), .int .i64 9, .pointer (some ⟨g44, 0, none⟩), .pointer (some ⟨g45, 0, none⟩), .int .i64 9, .pointer (some ⟨g54, 0, none⟩), .pointer (some ⟨g55, 0, none⟩), .int .i64 0, .pointer (some ⟨g59, 0, none⟩), .pointer (some ⟨g60, 0, none⟩), .int .i64 0, .pointer (some ⟨g75, 0, none⟩), .int .i64 1, undef, undef, undef, undef, undef, undef, undef, undef, undef, .slice (some ⟨g21, 0, none⟩) 10 10, .int .i64 10, (j31 39), (j31 40), (j22 41), (j22 42), (j22 43), (j22 44), (j22 45), (j22 46), (j22 47), (j22 48), (j22 49), (j22 50), (j22 51), (j22 52), (j22 53), (j22 54), (j22 55), (j22 56), (j22 57), (j22 58), (j22 59), (j22 60), (j22 61), (j22 62), (j22 63), (j22 64), (j22 65), (j22 66), (j22 67), (j22 68), (j22 69), .slice (some ⟨g30, 0, none⟩) 6 6, .int .i64 6, .int .i64 (i : Int), .bool (decide ((i : Int) < (6 : Int))), (j31 74), (j31 75), (j31 76), (j31 77), (j31 78), (j31 79), (j31 80), (j31 81), (j31 82), (j31 83), .tuple #[.agg #[.slice A35a n35a c35a, .bool m35a, .slice A35a_ n35a_ c35a_], .int .i64 ((parseR [49, 47, 48]).2)], .tuple #[.agg #[.slice A35a n35a c35a, .bool m35a, .slice A35a_ n35a_ c35a_], .int .i64 ((parseR [49, 47, 48]).2)], .agg #[.slice A35a n35a c35a, .bool m35a, .slice A35a_ n35a_ c35a_], .int .i64 ((parseR [49, 47, 48]).2), .tuple #[.agg #[.slice A37a n37a c37a, .bool m37a, .slice A37a_ n37a_ c37a_], .int .i64 9], .tuple #[.agg #[.slice A37a n37a c37a, .bool m37a, .slice A37a_ n37a_ c37a_], .int .i64 9], .agg #[.slice A37a n37a c37a, .bool m37a, .slice A37a_ n37a_ c37a_], .int .i64 9, .tuple #[.agg #[.slice A40a n40a c40a, .bool m40a, .slice A40a_ n40a_ c40a_], .int .i64 9], .agg #[.slice A39 n39 c39, .bool m39, .slice A39_ n39_ c39_], .agg #[.slice none 0 0, .bool false, .slice none 0 0], .tuple #[.agg #[.slice A40a n40a c40a, .bool m40a, .slice A40a_ n40a_ c40a_], .int .i64 9], .agg #[.slice A40a n40a c40a, .bool m40a, .slice A40a_ n40a_ c40a_], .int .i64 9, .tuple #[.agg #[.slice A43a n43a c43a, .bool m43a], .agg #[.slice A43b n43b c43b, .bool m43b], .int .i64 9], .agg #[.slice A42 n42 c42, .bool m42], .agg #[.slice none 0 0, .bool false], .tuple #[.agg #[.slice A43a n43a c43a, .bool m43a], .agg #[.slice A43b n43b c43b, .bool m43b], .int .i64 9], .agg #[.slice A43a n43a c43a, .bool m43a], .agg #[.slice A43b n43b c43b, .bool m43b], .int .i64 9, .bool true, .bool false, .bool false, .int .i64 ((parseR [49, 47, 48]).2), .bool false, .bool false, .bool false, .int .i64 9, .bool false, .bool false, .bool false, .int .i64 9, .bool false, .bool false, .bool false, .int .i64 9, .bool false, .bool false, .bool false, .agg #[.slice A47 n47 c47, .bool m47], .string (bs (decZ ((parseZ [45, 48]).1))), .bool false, .bool false, .bool false, .agg #[.slice A49 n49 c49, .bool m49, .slice A49_ n49_ c49_], .string (bs (decR ((parseR [45, 48, 47, 55]).1))), .bool false, .bool false, .tuple #[.agg #[.slice A53a n53a c53a, .bool m53a], .agg #[.slice A53b n53b c53b, .bool m53b], .int .i64 0], .agg #[.slice A51 n51 c51, .bool m51], .agg #[.slice A52 n52 c52, .bool m52], .tuple #[.agg #[.slice A53a n53a c53a, .bool m53a], .agg #[.slice A53b n53b c53b, .bool m53b], .int .i64 0], .agg #[.slice A53a n53a c53a, .bool m53a], .agg #[.slice A53b n53b c53b, .bool m53b], .int .i64 0, .tuple #[.agg #[.slice A58a n58a c58a, .bool m58a], .agg #[.slice A58b n58b c58b, .bool m58b], .int .i64 0], .agg #[.slice A56 n56 c56, .bool m56], .agg #[.slice A57 n57 c57, .bool m57], .tuple #[.agg #[.slice A58a n58a c58a, .bool m58a], .agg #[.slice A58b n58b c58b, .bool m58b], .int .i64 0], .agg #[.slice A58a n58a c58a, .bool m58a], .agg #[.slice A58b n58b c58b, .bool m58b], .int .i64 0, .int .i64 0, .bool false, .bool false, .int .i64 0, .bool false, .bool false, .bool false, .agg #[.slice A53a n53a c53a, .bool m53a], .string (bs (decZ (7 / (-2)))), .bool false, .bool false, .bool false, .agg #[.slice A53b n53b c53b, .bool m53b], .string (bs (decZ (7 % (-2)))), .bool false, .bool false, .bool false, .agg #[.slice A58a n58a c58a, .bool m58a], .string (bs (decZ ((-7) / (-2)))), .bool false, .bool false, .bool false, .agg #[.slice A58b n58b c58b, .bool m58b], .string (bs (decZ ((-7) % (-2)))), .bool false, .bool false, .bool false, .agg #[.slice none 0 0, .bool false], .agg #[.slice A65 n65 c65, .bool m65], .agg #[.slice A66 n66 c66, .bool m66], .string (bs (decZ (Int.gcd 0 (-5) : Int))), .bool false, .bool false, .bool false, .agg #[.slice A68 n68 c68, .bool m68, .slice A68_ n68_ c68_], .agg #[.slice A69 n69 c69, .bool m69], .string (bs (decZ (((parseR [45, 55, 47, 50]).1).floor))), .bool false, .bool false, .bool false, .agg #[.slice A71 n71 c71, .bool m71, .slice A71_ n71_ c71_], .agg #[.slice A72 n72 c72, .bool m72], .string (bs (decZ (((parseR [45, 55, 47, 50]).1).ceil))), .bool false, .bool false, .agg #[.slice A74 n74 c74, .bool m74], undef, undef, undef, undef, undef, undef, undef, undef, undef, undef, undef, undef, undef, undef, undef, undef, undef, undef, undef, undef, undef, undef, undef, undef, undef, undef, undef, undef, undef, undef, undef, undef, undef, undef, undef, undef, undef, undef, undef, undef, undef, undef, undef, undef, undef, undef, undef, undef, undef, undef, undef, undef, undef, undef, undef, undef, undef, undef, undef, undef, undef, undef, undef, undef, undef, undef, undef, undef, undef, undef, undef, undef, undef, undef, undef, undef, undef, undef, undef, undef, undef, undef, undef, undef, undef, undef, undef, undef, undef] : Array Value).getD t undef), (by kernel_rfl), rfl, (((((((((((((((((((((((((hM.clr).add (hM.f 23 rfl)).add (hM.f 22 rfl)).add (hM.f 21 rfl)).add (hM.f 20 rfl)).add (hM.f 19 rfl)).add (hM.f 18 rfl)).add (hM.f 17 rfl)).add (hM.f 16 rfl)).add (hM.f 15 rfl)).add (hM.f 14 rfl)).add (hM.f 13 rfl)).add (hM.f 12 rfl)).add (hM.f 11 rfl)).add (hM.f 10 rfl)).add (hM.f 9 rfl)).add (hM.f 8 rfl)).add (hM.f 7 rfl)).add (hM.f 6 rfl)).add (hM.f 5 rfl)).add (hM.f 4 rfl)).add (hM.f 3 rfl)).add (hM.f 2 rfl)).add (hM.f 1 rfl)).add (hM.f 0 rfl)).add (hM.f 0 rfl), (by omega), rfl, (by omega)⟩) ?_
     rintro m_ a_ u_ ⟨Ap, np, cp, mp, p, k, j76, rfl, hm76, hM, hk, hp, hsp⟩
     refine CG.go hM ?_
     refine CG.seq fun K_ k2 => ?_
     refine CG.seq fun K_ k3 => ?_
     refine CG.lin 2 ?_
     refine GL.v (.int .i64 (k : Int)) ?_
     refine GL.v (.bool (decide ((k : Int) ≤ (25 : Int)))) ?_
     refine GL.k k3 ?_
     by_cases hc77 : (k : Int) ≤ (25 : Int)
     · have hk77 : (decide ((k : Int) ≤ (25 : Int))) = true := decide_eq_true hc77
       refine CG.yes ?_ hk77 rfl
       refine CG.skip ?_
       refine QG.k k2 ?_
       refine CG.seq fun K_ k2 => ?_
       refine CG.block ?_
       refine CG.draw [] [0, 1] (.step 0 (.step 1 (.step 2 (.step 3 (.step 4 .done))))) (fun V hV78 => ?_)
       refine GD.er (.agg #[.slice Ap np cp, .bool mp]) (fun _ hS => op_load_agg (off := 0) (by kernel_rfl) agg28 siz28 (hV78.bS 0 rfl hS) rfl rfl) ?_
       refine GD.ev (.int .i64 (k : Int)) ?_
       refine GD.call (fun _ hM => Int_ok hM.avlt (k : Int) (by first | assumption | (dsimp only; omega) | omega)) ?_
       rintro _ _ _ hM ⟨A79, n79, c79, m79, rfl, h79, hb⟩
       have hs79 := sz_i64 (k : Int) (by omega)
       refine ⟨_, _, _, rfl, hb, (hM.call hb).add h79, ?_⟩
       refine GD.call (fun _ hM => Mul_ok hM.avlt (hM.f 1 rfl) (hM.f 0 rfl) (by first | assumption | (dsimp only; omega) | omega)) ?_
       rintro _ _ _ hM ⟨A80, n80, c80, m80, rfl, h80, hb⟩
       have hs80 := sz_mul p (k : Int)
       refine ⟨_, _, _, rfl, hb, (hM.call hb).add h80, ?_⟩
       refine GD.st (fun _ _ => Mem.st0) (fun _ hM => store_all (cs' := #[.slice A80 n80 c80, .bool m80]) siz28 (hM.b 0 rfl) (by kernel_rfl) (by kernel_rfl) rfl rfl rfl) ?_
       refine GD.q ?_
       refine QG.block ?_
       refine QG.k k2 ?_
       refine CG.lin 3 ?_
       refine GL.v (.int .i64 (k : Int)) ?_
       refine GL.v (.int .i64 ((k + 1 : Nat) : Int)) ?_ (hr := fun u => op_to (v := .int .i64 (IntKind.wrap .i64 ((k : Int) + (1 : Int)))) (by kernel_rfl) (wrap_i64 (by omega) (by omega) (by omega)))
       refine GL.v (.int .i64 ((k + 1 : Nat) : Int)) ?_
       refine GL.q ?_
       refine QG.again fun _ hM => ?_
       exact ⟨26 - (k + 1), (by omega), A80, n80, c80, m80, (p * (k : Int)), (k + 1), (fun t => (#[(j31 0), undef, (j22 2), (j22 3), (j22 4), (j22 5), (j22 6), undef, (j31 8), (j31 9), (j31 10), .pointer (some ⟨g36, 0, none⟩), .int .i64 ((parseR [49, 47, 48]).2), .pointer (some ⟨g38, 0, none⟩), .int .i64 9, .pointer (some ⟨g41, 0, none⟩), .int .i64 9, .pointer (some ⟨g44, 0, none⟩), .pointer (some ⟨g45, 0, none⟩), .int .i64 9, .pointer (some ⟨g54, 0, none⟩), .pointer (some ⟨g55, 0, none⟩), .int .i64 0, .pointer (some ⟨g59, 0, none⟩), .pointer (some ⟨g60, 0, none⟩), .int .i64 0, .pointer (some ⟨g75, 0, none⟩), .int .i64 ((k + 1 : Nat) : Int), undef, undef, undef, undef, undef, undef, undef, undef, undef, .slice (some ⟨g21, 0, none⟩) 10 10, .int .i64 10, (j31 39), (j31 40), (j22 41), (j22 42), (j22 43), (j22 44), (j22 45), (j22 46), (j22 47), (j22 48), (j22 49), (j22 50), (j22 51), (j22 52), (j22 53), (j22 54), (j22 55), (j22 56), (j22 57), (j22 58), (j22 59), (j22 60), (j22 61), (j22 62), (j22 63), (j22 64), (j22 65), (j22 66), (j22 67), (j22 68), (j22 69), .slice (some ⟨g30, 0, none⟩) 6 6, .int .i64 6, .int .i64 (i : Int), .bool (decide ((i : Int) < (6 : Int))), (j31 74), (j31 75), (j31 76), (j31 77), (j31 78), (j31 79), (j31 80), (j31 81), (j31 82), (j31 83), .tuple #[.agg #[.slice A35a n35a c35a, .bool m35a, .slice A35a_ n35a_ c35a_], .int .i64 ((parseR [49, 47, 48]).2)], .tuple #[.agg #[.slice A35a n35a c35a, .bool m35a, .slice A35a_ n35a_ c35a_], .int .i64 ((parseR [49, 47, 48]).2)], .agg #[.slice A35a n35a c35a, .bool m35a, .slice A35a_ n35a_ c35a_], .int .i64 ((parseR [49, 47, 48]).2), .tuple #[.agg #[.slice A37a n37a c37a, .bool m37a, .slice A37a_ n37a_ c37a_], .int .i64 9], .tuple #[.agg #[.slice A37a n37a c37a, .bool m37a, .slice A37a_ n37a_ c37a_], .int .i64 9], .agg #[.slice A37a n37a c37a, .bool m37a, .slice A37a_ n37a_ c37a_], .int .i64 9, .tuple #[.agg #[.slice A40a n40a c40a, .bool m40a, .slice A40a_ n40a_ c40a_], .int .i64 9], .agg #[.slice A39 n39 c39, .bool m39, .slice A39_ n39_ c39_], .agg #[.slice none 0 0, .bool false, .slice none 0 0], .tuple #[.agg #[.slice A40a n40a c40a, .bool m40a, .slice A40a_ n40a_ c40a_], .int .i64 9], .agg #[.slice A40a n40a c40a, .bool m40a, .slice A40a_ n40a_ c40a_], .int .i64 9, .tuple #[.agg #[.slice A43a n43a c43a, .bool m43a], .agg #[.slice A43b n43b c43b, .bool m43b], .int .i64 9], .agg #[.slice A42 n42 c42, .bool m42], .agg #[.slice none 0 0, .bool false], .tuple #[.agg #[.slice A43a n43a c43a, .bool m43a], .agg #[.slice A43b n43b c43b, .bool m43b], .int .i64 9], .agg #[.slice A43a n43a c43a, .bool m43a], .agg #[.slice A43b n43b c43b, .bool m43b], .int .i64 9, .bool true, .bool false, .bool false, .int .i64 ((parseR [49, 47, 48]).2), .bool false, .bool false, .bool false, .int .i64 9, .bool false, .bool false, .bool false, .int .i64 9, .bool false, .bool false, .bool false, .int .i64 9, .bool false, .bool false, .bool false, .agg #[.slice A47 n47 c47, .bool m47], .string (bs (decZ ((parseZ [45, 48]).1))), .bool false, .bool false, .bool false, .agg #[.slice A49 n49 c49, .bool m49, .slice A49_ n49_ c49_], .string (bs (decR ((parseR [45, 48, 47, 55]).1))), .bool false, .bool false, .tuple #[.agg #[.slice A53a n53a c53a, .bool m53a], .agg #[.slice A53b n53b c53b, .bool m53b], .int .i64 0], .agg #[.slice A51 n51 c51, .bool m51], .agg #[.slice A52 n52 c52, .bool m52], .tuple #[.agg #[.slice A53a n53a c53a, .bool m53a], .agg #[.slice A53b n53b c53b, .bool m53b], .int .i64 0], .agg #[.slice A53a n53a c53a, .bool m53a], .agg #[.slice A53b n53b c53b, .bool m53b], .int .i64 0, .tuple #[.agg #[.slice A58a n58a c58a, .bool m58a], .agg #[.slice A58b n58b c58b, .bool m58b], .int .i64 0], .agg #[.slice A56 n56 c56, .bool m56], .agg #[.slice A57 n57 c57, .bool m57], .tuple #[.agg #[.slice A58a n58a c58a, .bool m58a], .agg #[.slice A58b n58b c58b, .bool m58b], .int .i64 0], .agg #[.slice A58a n58a c58a, .bool m58a], .agg #[.slice A58b n58b c58b, .bool m58b], .int .i64 0, .int .i64 0, .bool false, .bool false, .int .i64 0, .bool false, .bool false, .bool false, .agg #[.slice A53a n53a c53a, .bool m53a], .string (bs (decZ (7 / (-2)))), .bool false, .bool false, .bool false, .agg #[.slice A53b n53b c53b, .bool m53b], .string (bs (decZ (7 % (-2)))), .bool false, .bool false, .bool false, .agg #[.slice A58a n58a c58a, .bool m58a], .string (bs (decZ ((-7) / (-2)))), .bool false, .bool false, .bool false, .agg #[.slice A58b n58b c58b, .bool m58b], .string (bs (decZ ((-7) % (-2)))), .bool false, .bool false, .bool false, .agg #[.slice none 0 0, .bool false], .agg #[.slice A65 n65 c65, .bool m65], .agg #[.slice A66 n66 c66, .bool m66], .string (bs (decZ (Int.gcd 0 (-5) : Int))), .bool false, .bool false, .bool false, .agg #[.slice A68 n68 c68, .bool m68, .slice A68_ n68_ c68_], .agg #[.slice A69 n69 c69, .bool m69], .string (bs (decZ (((parseR [45, 55, 47, 50]).1).floor))), .bool false, .bool false, .bool false, .agg #[.slice A71 n71 c71, .bool m71, .slice A71_ n71_ c71_], .agg #[.slice A72 n72 c72, .bool m72], .string (bs (decZ (((parseR [45, 55, 47, 50]).1).ceil))), .bool false, .bool false, .agg #[.slice A74 n74 c74, .bool m74], .int .i64 (k : Int), .bool (decide ((k : Int) ≤ (25 : Int))), .int .i64 (k : Int), .int .i64 ((k + 1 : Nat) : Int), .agg #[.slice Ap np cp, .bool mp], .int .i64 (k : Int), .agg #[.slice A79 n79 c79, .bool m79], .agg #[.slice A80 n80 c80, .bool m80], undef, undef, undef, undef, undef, undef, undef, undef, undef, undef, undef, undef, undef, undef, undef, undef, undef, undef, undef, undef, undef, undef, undef, undef, undef, undef, undef, undef, undef, undef, undef, undef, undef, undef, undef, undef, undef, undef, undef, undef, undef, undef, undef, undef, undef, undef, undef, undef, undef, undef, undef, undef, undef, undef, undef, undef, undef, undef, undef, undef, undef, undef, undef, undef, undef, undef, undef, undef, undef, undef, undef, undef, undef, undef, undef, undef, undef, undef, undef, undef, undef] : Array Value).getD t undef), (by kernel_rfl), rfl, (((((((((((((((((((((((((hM.clr).add (hM.f 26 rfl)).add (hM.f 25 rfl)).add (hM.f 24 rfl)).add (hM.f 23 rfl)).add (hM.f 22 rfl)).add (hM.f 21 rfl)).add (hM.f 20 rfl)).add (hM.f 19 rfl)).add (hM.f 18 rfl)).add (hM.f 17 rfl)).add (hM.f 16 rfl)).add (hM.f 15 rfl)).add (hM.f 14 rfl)).add (hM.f 13 rfl)).add (hM.f 12 rfl)).add (hM.f 11 rfl)).add (hM.f 10 rfl)).add (hM.f 9 rfl)).add (hM.f 8 rfl)).add (hM.f 7 rfl)).add (hM.f 6 rfl)).add (hM.f 5 rfl)).add (hM.f 4 rfl)).add (hM.f 3 rfl)).add (hM.f 0 rfl), (by omega), (by rw [hp]; exact fac_next hk.1), (by omega)⟩
     · have hk77 : (decide ((k : Int) ≤ (25 : Int))) = false := decide_eq_false hc77
       refine CG.no ?_ hk77 rfl
       refine CG.exit (QG.then_exit (QG.then_exit (QG.here ?_)))
       refine QG.k k1 ?_
       refine CG.seq fun K_ k1 => ?_
       refine CG.cut (fun a_ u_ => ∃ (A82 : Option Addr) (n82 : Nat) (c82 : Nat) (m82 : Bool) (A83a : Option Addr) (n83a : Nat) (c83a : Nat) (m83a : Bool) (A83b : Option Addr) (n83b : Nat) (c83b : Nat) (m83b : Bool) (g84 : Nat) (g85 : Nat), a_ = ⟨#[(j31 0), undef, (j22 2), (j22 3), (j22 4), (j22 5), (j22 6), undef, (j31 8), (j31 9), (j31 10), .pointer (some ⟨g36, 0, none⟩), .int .i64 ((parseR [49, 47, 48]).2), .pointer (some ⟨g38, 0, none⟩), .int .i64 9, .pointer (some ⟨g41, 0, none⟩), .int .i64 9, .pointer (some ⟨g44, 0, none⟩), .pointer (some ⟨g45, 0, none⟩), .int .i64 9, .pointer (some ⟨g54, 0, none⟩), .pointer (some ⟨g55, 0, none⟩), .int .i64 0, .pointer (some ⟨g59, 0, none⟩), .pointer (some ⟨g60, 0, none⟩), .int .i64 0, .pointer (some ⟨g75, 0, none⟩), .int .i64 (k : Int), .pointer (some ⟨g84, 0, none⟩), .pointer (some ⟨g85, 0, none⟩), .int .i64 0, undef, undef, undef, undef, undef, undef, .slice (some ⟨g21, 0, none⟩) 10 10, .int .i64 10, (j31 39), (j31 40), (j22 41), (j22 42), (j22 43), (j22 44), (j22 45), (j22 46), (j22 47), (j22 48), (j22 49), (j22 50), (j22 51), (j22 52), (j22 53), (j22 54), (j22 55), (j22 56), (j22 57), (j22 58), (j22 59), (j22 60), (j22 61), (j22 62), (j22 63), (j22 64), (j22 65), (j22 66), (j22 67), (j22 68), (j22 69), .slice (some ⟨g30, 0, none⟩) 6 6, .int .i64 6, .int .i64 (i : Int), .bool (decide ((i : Int) < (6 : Int))), (j31 74), (j31 75), (j31 76), (j31 77), (j31 78), (j31 79), (j31 80), (j31 81), (j31 82), (j31 83), .tuple #[.agg #[.slice A35a n35a c35a, .bool m35a, .slice A35a_ n35a_ c35a_], .int .i64 ((parseR [49, 47, 48]).2)], .tuple #[.agg #[.slice A35a n35a c35a, .bool m35a, .slice A35a_ n35a_ c35a_], .int .i64 ((parseR [49, 47, 48]).2)], .agg #[.slice A35a n35a c35a, .bool m35a, .slice A35a_ n35a_ c35a_], .int .i64 ((parseR [49, 47, 48]).2), .tuple #[.agg #[.slice A37a n37a c37a, .bool m37a, .slice A37a_ n37a_ c37a_], .int .i64 9], .tuple #[.agg #[.slice A37a n37a c37a, .bool m37a, .slice A37a_ n37a_ c37a_], .int .i64 9], .agg #[.slice A37a n37a c37a, .bool m37a, .slice A37a_ n37a_ c37a_], .int .i64 9, .tuple #[.agg #[.slice A40a n40a c40a, .bool m40a, .slice A40a_ n40a_ c40a_], .int .i64 9], .agg #[.slice A39 n39 c39, .bool m39, .slice A39_ n39_ c39_], .agg #[.slice none 0 0, .bool false, .slice none 0 0], .tuple #[.agg #[.slice A40a n40a c40a, .bool m40a, .slice A40a_ n40a_ c40a_], .int .i64 9], .agg #[.slice A40a n40a c40a, .bool m40a, .slice A40a_ n40a_ c40a_], .int .i64 9, .tuple #[.agg #[.slice A43a n43a c43a, .bool m43a], .agg #[.slice A43b n43b c43b, .bool m43b], .int .i64 9], .agg #[.slice A42 n42 c42, .bool m42], .agg #[.slice none 0 0, .bool false], .tuple #[.agg #[.slice A43a n43a c43a, .bool m43a], .agg #[.slice A43b n43b c43b, .bool m43b], .int .i64 9], .agg #[.slice A43a n43a c43a, .bool m43a], .agg #[.slice A43b n43b c43b, .bool m43b], .int .i64 9, .bool true, .bool false, .bool false, .int .i64 ((parseR [49, 47, 48]).2), .bool false, .bool false, .bool false, .int .i64 9, .bool false, .bool false, .bool false, .int .i64 9, .bool false, .bool false, .bool false, .int .i64 9, .bool false, .bool false, .bool false, .agg #[.slice A47 n47 c47, .bool m47], .string (bs (decZ ((parseZ [45, 48]).1))), .bool false, .bool false, .bool false, .agg #[.slice A49 n49 c49, .bool m49, .slice A49_ n49_ c49_], .string (bs (decR ((parseR [45, 48, 47, 55]).1))), .bool false, .bool false, .tuple #[.agg #[.slice A53a n53a c53a, .bool m53a], .agg #[.slice A53b n53b c53b, .bool m53b], .int .i64 0], .agg #[.slice A51 n51 c51, .bool m51], .agg #[.slice A52 n52 c52, .bool m52], .tuple #[.agg #[.slice A53a n53a c53a, .bool m53a], .agg #[.slice A53b n53b c53b, .bool m53b], .int .i64 0], .agg #[.slice A53a n53a c53a, .bool m53a], .agg #[.slice A53b n53b c53b, .bool m53b], .int .i64 0, .tuple #[.agg #[.slice A58a n58a c58a, .bool m58a], .agg #[.slice A58b n58b c58b, .bool m58b], .int .i64 0], .agg #[.slice A56 n56 c56, .bool m56], .agg #[.slice A57 n57 c57, .bool m57], .tuple #[.agg #[.slice A58a n58a c58a, .bool m58a], .agg #[.slice A58b n58b c58b, .bool m58b], .int .i64 0], .agg #[.slice A58a n58a c58a, .bool m58a], .agg #[.slice A58b n58b c58b, .bool m58b], .int .i64 0, .int .i64 0, .bool false, .bool false, .int .i64 0, .bool false, .bool false, .bool false, .agg #[.slice A53a n53a c53a, .bool m53a], .string (bs (decZ (7 / (-2)))), .bool false, .bool false, .bool false, .agg #[.slice A53b n53b c53b, .bool m53b], .string (bs (decZ (7 % (-2)))), .bool false, .bool false, .bool false, .agg #[.slice A58a n58a c58a, .bool m58a], .string (bs (decZ ((-7) / (-2)))), .bool false, .bool false, .bool false, .agg #[.slice A58b n58b c58b, .bool m58b], .string (bs (decZ ((-7) % (-2)))), .bool false, .bool false, .bool false, .agg #[.slice none 0 0, .bool false], .agg #[.slice A65 n65 c65, .bool m65], .agg #[.slice A66 n66 c66, .bool m66], .string (bs (decZ (Int.gcd 0 (-5) : Int))), .bool false, .bool false, .bool false, .agg #[.slice A68 n68 c68, .bool m68, .slice A68_ n68_ c68_], .agg #[.slice A69 n69 c69, .bool m69], .string (bs (decZ (((parseR [45, 55, 47, 50]).1).floor))), .bool false, .bool false, .bool false, .agg #[.slice A71 n71 c71, .bool m71, .slice A71_ n71_ c71_], .agg #[.slice A72 n72 c72, .bool m72], .string (bs (decZ (((parseR [45, 55, 47, 50]).1).ceil))), .bool false, .bool false, .agg #[.slice A74 n74 c74, .bool m74], .int .i64 (k : Int), .bool (decide ((k : Int) ≤ (25 : Int))), (j76 195), (j76 196), (j76 197), (j76 198), (j76 199), (j76 200), .tuple #[.agg #[.slice A83a n83a c83a, .bool m83a], .agg #[.slice A83b n83b c83b, .bool m83b], .int .i64 0], .agg #[.slice Ap np cp, .bool mp], .agg #[.slice A82 n82 c82, .bool m82], .tuple #[.agg #[.slice A83a n83a c83a, .bool m83a], .agg #[.slice A83b n83b c83b, .bool m83b], .int .i64 0], .agg #[.slice A83a n83a c83a, .bool m83a], .agg #[.slice A83b n83b c83b, .bool m83b], .int .i64 0, undef, undef, undef, undef, undef, undef, undef, undef, undef, undef, undef, undef, undef, undef, undef, undef, undef, undef, undef, undef, undef, undef, undef, undef, undef, undef, undef, undef, undef, undef, undef, undef, undef, undef, undef, undef, undef, undef, undef, undef, undef, undef, undef, undef, undef, undef, undef, undef, undef, undef, undef, undef, undef, undef, undef, undef, undef, undef, undef, undef, undef, undef, undef, undef, undef, undef, undef, undef, undef, undef, undef, undef, undef, undef], []⟩ ∧ Mem w [] X u_ [.box g85 #[.slice A83b n83b c83b, .bool m83b] 28, .box g84 #[.slice A83a n83a c83a, .bool m83a] 28, .box g75 #[.slice Ap np cp, .bool mp] 28, .box g60 #[.slice A58b n58b c58b, .bool m58b] 28, .box g59 #[.slice A58a n58a c58a, .bool m58a] 28, .box g55 #[.slice A53b n53b c53b, .bool m53b] 28, .box g54 #[.slice A53a n53a c53a, .bool m53a] 28, .box g45 #[.slice A43b n43b c43b, .bool m43b] 28, .box g44 #[.slice A43a n43a c43a, .bool m43a] 28, .box g41 #[.slice A40a n40a c40a, .bool m40a, .slice A40a_ n40a_ c40a_] 48, .box g38 #[.slice A37a n37a c37a, .bool m37a, .slice A37a_ n37a_ c37a_] 48, .box g36 #[.slice A35a n35a c35a, .bool m35a, .slice A35a_ n35a_ c35a_] 48, .own g30 9 6 6 (strs nmB), .own g21 9 10 10 (strs nmA)] [⟨Zk, [.slice A83b n83b c83b, .bool m83b], p % ((parseZ [57, 57, 57, 57, 57, 57, 57, 57, 54, 55]).1)⟩, ⟨Zk, [.slice A83a n83a c83a, .bool m83a], p / ((parseZ [57, 57, 57, 57, 57, 57, 57, 57, 54, 55]).1)⟩, ⟨Zk, [.slice A82 n82 c82, .bool m82], (parseZ [57, 57, 57, 57, 57, 57, 57, 57, 54, 55]).1⟩, ⟨Zk, [.slice Ap np cp, .bool mp], p⟩, ⟨Zk, [.slice A74 n74 c74, .bool m74], 1⟩, ⟨Zk, [.slice A72 n72 c72, .bool m72], ((parseR [45, 55, 47, 50]).1).ceil⟩, ⟨Rk, [.slice A71 n71 c71, .bool m71, .slice A71_ n71_ c71_], (parseR [45, 55, 47, 50]).1⟩, ⟨Zk, [.slice A69 n69 c69, .bool m69], ((parseR [45, 55, 47, 50]).1).floor⟩, ⟨Rk, [.slice A68 n68 c68, .bool m68, .slice A68_ n68_ c68_], (parseR [45, 55, 47, 50]).1⟩, ⟨Zk, [.slice A66 n66 c66, .bool m66], (Int.gcd 0 (-5) : Int)⟩, ⟨Zk, [.slice A65 n65 c65, .bool m65], (-5)⟩, ⟨Zk, [.slice A58b n58b c58b, .bool m58b], (-7) % (-2)⟩, ⟨Zk, [.slice A58a n58a c58a, .bool m58a], (-7) / (-2)⟩, ⟨Zk, [.slice A57 n57 c57, .bool m57], (-2)⟩, ⟨Zk, [.slice A56 n56 c56, .bool m56], (-7)⟩, ⟨Zk, [.slice A53b n53b c53b, .bool m53b], 7 % (-2)⟩, ⟨Zk, [.slice A53a n53a c53a, .bool m53a], 7 / (-2)⟩, ⟨Zk, [.slice A52 n52 c52, .bool m52], (-2)⟩, ⟨Zk, [.slice A51 n51 c51, .bool m51], 7⟩, ⟨Rk, [.slice A49 n49 c49, .bool m49, .slice A49_ n49_ c49_], (parseR [45, 48, 47, 55]).1⟩, ⟨Zk, [.slice A47 n47 c47, .bool m47], (parseZ [45, 48]).1⟩, ⟨Zk, [.slice A43b n43b c43b, .bool m43b], 0⟩, ⟨Zk, [.slice A43a n43a c43a, .bool m43a], 0⟩, ⟨Zk, [.slice A42 n42 c42, .bool m42], 1⟩, ⟨Rk, [.slice A40a n40a c40a, .bool m40a, .slice A40a_ n40a_ c40a_], 0⟩, ⟨Rk, [.slice A39 n39 c39, .bool m39, .slice A39_ n39_ c39_], ((1 : Int) : Rat)⟩, ⟨Rk, [.slice A37a n37a c37a, .bool m37a, .slice A37a_ n37a_ c37a_], 0⟩, ⟨Rk, [.slice A35a n35a c35a, .bool m35a, .slice A35a_ n35a_ c35a_], (parseR [49, 47, 48]).1⟩]) ?_ ?_
       · skip
         refine CG.draw [] [0, 3, 4, 5, 6] (.step 0 (.fork 1 (.fork 2 (.step 3 (.step 4 (.step 5 (.step 6 (.fork 7 (.step 8 (.step 9 (.step 10 (.step 11 .done)))) (.step 8 (.step 7 (.step 9 (.step 10 (.step 11 .done)))))))))) (.fork 7 (.fork 2 (.step 3 (.step 4 (.step 5 (.step 6 (.step 8 (.step 9 (.step 10 (.step 11 .done)))))))) (.step 8 (.step 2 (.step 3 (.step 4 (.step 5 (.step 6 (.step 9 (.step 10 (.step 11 .done)))))))))) (.step 8 (.fork 2 (.step 3 (.step 4 (.step 5 (.step 6 (.step 7 (.step 9 (.step 10 (.step 11 .done)))))))) (.step 7 (.step 2 (.step 3 (.step 4 (.step 5 (.step 6 (.step 9 (.step 10 (.step 11 .done))))))))))))) (.fork 7 (.fork 1 (.fork 2 (.step 3 (.step 4 (.step 5 (.step 6 (.step 8 (.step 9 (.step 10 (.step 11 .done)))))))) (.step 8 (.step 2 (.step 3 (.step 4 (.step 5 (.step 6 (.step 9 (.step 10 (.step 11 .done)))))))))) (.step 8 (.step 1 (.step 2 (.step 3 (.step 4 (.step 5 (.step 6 (.step 9 (.step 10 (.step 11 .done))))))))))) (.step 8 (.fork 1 (.fork 2 (.step 3 (.step 4 (.step 5 (.step 6 (.step 7 (.step 9 (.step 10 (.step 11 .done)))))))) (.step 7 (.step 2 (.step 3 (.step 4 (.step 5 (.step 6 (.step 9 (.step 10 (.step 11 .done)))))))))) (.step 7 (.step 1 (.step 2 (.step 3 (.step 4 (.step 5 (.step 6 (.step 9 (.step 10 (.step 11 .done))))))))))))))) (fun V hV81 => ?_)
         have hpf : p = 15511210043330985984000000 := by rw [hp, show k = 26 by omega]; decide +kernel
         refine GD.er (.agg #[.slice Ap np cp, .bool mp]) (fun _ hS => op_load_agg (off := 0) (by kernel_rfl) agg28 siz28 (hV81.bS 0 rfl hS) rfl rfl) ?_
         refine GD.fork ?_ ?_
         · skip
           refine GD.call (fun _ hM => z_ok hM.avlt [57, 57, 57, 57, 57, 57, 57, 57, 54, 55] (by simp)) ?_
           rintro _ _ _ hM ⟨A82, n82, c82, m82, rfl, h82, hb⟩
           have hz82 := parseZ_sz ([57, 57, 57, 57, 57, 57, 57, 57, 54, 55])
           simp only [List.length_cons, List.length_nil] at hz82
           refine ⟨_, _, _, rfl, hb, (hM.call hb).add h82, ?_⟩
           refine GD.fork ?_ ?_
           · skip
             refine GD.call (fun _ hM => Quotient_ok hM.avlt (hM.f 1 rfl) (hM.f 0 rfl) (by decide +kernel) (by first | assumption | omega | (dsimp only; omega))) ?_
             rintro _ _ _ hM ⟨A83a, n83a, c83a, m83a, A83b, n83b, c83b, m83b, rfl, h83a, h83b, hb⟩
             have hs83 := sz_quo p (((parseZ [57, 57, 57, 57, 57, 57, 57, 57, 54, 55]).1))
             have ht83 := sz_rem2 p (((parseZ [57, 57, 57, 57, 57, 57, 57, 57, 54, 55]).1))
             refine ⟨_, _, _, rfl, hb, ((hM.call hb).add h83a).add h83b, ?_⟩
             refine GD.ev (.tuple #[.agg #[.slice A83a n83a c83a, .bool m83a], .agg #[.slice A83b n83b c83b, .bool m83b], .int .i64 0]) ?_
             refine GD.ev (.agg #[.slice A83a n83a c83a, .bool m83a]) ?_
             refine GD.ev (.agg #[.slice A83b n83b c83b, .bool m83b]) ?_
             refine GD.ev (.int .i64 0) ?_
             refine GD.fork ?_ ?_
             · skip
               refine GD.bx (fun _ => op_alloc zer28) fun g84 hg84 => ?_
               refine GD.bx (fun _ => op_alloc zer28) fun g85 hg85 => ?_
               refine GD.sn hg84 (fun _ _ => Mem.st1) (fun _ hM => store_all (cs' := #[.slice A83a n83a c83a, .bool m83a]) siz28 (hM.b 1 rfl) (by kernel_rfl) (by kernel_rfl) rfl rfl rfl) ?_
               refine GD.sn hg85 (fun _ _ => Mem.st0) (fun _ hM => store_all (cs' := #[.slice A83b n83b c83b, .bool m83b]) siz28 (hM.b 0 rfl) (by kernel_rfl) (by kernel_rfl) rfl rfl rfl) ?_
               refine GD.v (.int .i64 0) ?_
               refine GD.q (QG.cut fun _ hM => ?_)
               exact ⟨A82, n82, c82, m82, A83a, n83a, c83a, m83a, A83b, n83b, c83b, m83b, g84, g85, rfl, ((((((((((((((((((((((((((((hM.clr).add (hM.f 27 rfl)).add (hM.f 26 rfl)).add (hM.f 25 rfl)).add (hM.f 24 rfl)).add (hM.f 23 rfl)).add (hM.f 22 rfl)).add (hM.f 21 rfl)).add (hM.f 20 rfl)).add (hM.f 19 rfl)).add (hM.f 18 rfl)).add (hM.f 17 rfl)).add (hM.f 16 rfl)).add (hM.f 15 rfl)).add (hM.f 14 rfl)).add (hM.f 13 rfl)).add (hM.f 12 rfl)).add (hM.f 11 rfl)).add (hM.f 10 rfl)).add (hM.f 9 rfl)).add (hM.f 8 rfl)).add (hM.f 7 rfl)).add (hM.f 6 rfl)).add (hM.f 5 rfl)).add (hM.f 4 rfl)).add (hM.f 3 rfl)).add (hM.f 2 rfl)).add (hM.f 1 rfl)).add (hM.f 0 rfl)⟩
             refine GD.bx (fun _ => op_alloc zer28) fun g86 hg86 => ?_
             refine GD.bx (fun _ => op_alloc zer28) fun g87 hg87 => ?_
             refine GD.sn hg87 (fun _ _ => Mem.st0) (fun _ hM => store_all (cs' := #[.slice A83a n83a c83a, .bool m83a]) siz28 (hM.b 0 rfl) (by kernel_rfl) (by kernel_rfl) rfl rfl rfl) ?_
             refine GD.sn hg86 (fun _ _ => Mem.st1) (fun _ hM => store_all (cs' := #[.slice A83b n83b c83b, .bool m83b]) siz28 (hM.b 1 rfl) (by kernel_rfl) (by kernel_rfl) rfl rfl rfl) ?_
             refine GD.v (.int .i64 0) ?_
             refine GD.q (QG.cut fun _ hM => ?_)
             replace hM := hM.swap0
             exact ⟨A82, n82, c82, m82, A83a, n83a, c83a, m83a, A83b, n83b, c83b, m83b, g87, g86, rfl, ((((((((((((((((((((((((((((hM.clr).add (hM.f 27 rfl)).add (hM.f 26 rfl)).add (hM.f 25 rfl)).add (hM.f 24 rfl)).add (hM.f 23 rfl)).add (hM.f 22 rfl)).add (hM.f 21 rfl)).add (hM.f 20 rfl)).add (hM.f 19 rfl)).add (hM.f 18 rfl)).add (hM.f 17 rfl)).add (hM.f 16 rfl)).add (hM.f 15 rfl)).add (hM.f 14 rfl)).add (hM.f 13 rfl)).add (hM.f 12 rfl)).add (hM.f 11 rfl)).add (hM.f 10 rfl)).add (hM.f 9 rfl)).add (hM.f 8 rfl)).add (hM.f 7 rfl)).add (hM.f 6 rfl)).add (hM.f 5 rfl)).add (hM.f 4 rfl)).add (hM.f 3 rfl)).add (hM.f 2 rfl)).add (hM.f 1 rfl)).add (hM.f 0 rfl)⟩
           refine GD.fork ?_ ?_
           · skip
             refine GD.bx (fun _ => op_alloc zer28) fun g88 hg88 => ?_
             refine GD.fork ?_ ?_
             · skip
               refine GD.call (fun _ hM => Quotient_ok hM.avlt (hM.f 1 rfl) (hM.f 0 rfl) (by decide +kernel) (by first | assumption | omega | (dsimp only; omega))) ?_
               rintro _ _ _ hM ⟨A89a, n89a, c89a, m89a, A89b, n89b, c89b, m89b, rfl, h89a, h89b, hb⟩
               have hs89 := sz_quo p (((parseZ [57, 57, 57, 57, 57, 57, 57, 57, 54, 55]).1))
               have ht89 := sz_rem2 p (((parseZ [57, 57, 57, 57, 57, 57, 57, 57, 54, 55]).1))
               refine ⟨_, _, _, rfl, hb, ((hM.call hb).add h89a).add h89b, ?_⟩
               refine GD.ev (.tuple #[.agg #[.slice A89a n89a c89a, .bool m89a], .agg #[.slice A89b n89b c89b, .bool m89b], .int .i64 0]) ?_
               refine GD.ev (.agg #[.slice A89a n89a c89a, .bool m89a]) ?_
               refine GD.ev (.agg #[.slice A89b n89b c89b, .bool m89b]) ?_
               refine GD.ev (.int .i64 0) ?_
               refine GD.bx (fun _ => op_alloc zer28) fun g90 hg90 => ?_
               refine GD.sn hg88 (fun _ _ => Mem.st1) (fun _ hM => store_all (cs' := #[.slice A89a n89a c89a, .bool m89a]) siz28 (hM.b 1 rfl) (by kernel_rfl) (by kernel_rfl) rfl rfl rfl) ?_
               refine GD.sn hg90 (fun _ _ => Mem.st0) (fun _ hM => store_all (cs' := #[.slice A89b n89b c89b, .bool m89b]) siz28 (hM.b 0 rfl) (by kernel_rfl) (by kernel_rfl) rfl rfl rfl) ?_
               refine GD.v (.int .i64 0) ?_
               refine GD.q (QG.cut fun _ hM => ?_)
               exact ⟨A82, n82, c82, m82, A89a, n89a, c89a, m89a, A89b, n89b, c89b, m89b, g88, g90, rfl, ((((((((((((((((((((((((((((hM.clr).add (hM.f 27 rfl)).add (hM.f 26 rfl)).add (hM.f 25 rfl)).add (hM.f 24 rfl)).add (hM.f 23 rfl)).add (hM.f 22 rfl)).add (hM.f 21 rfl)).add (hM.f 20 rfl)).add (hM.f 19 rfl)).add (hM.f 18 rfl)).add (hM.f 17 rfl)).add (hM.f 16 rfl)).add (hM.f 15 rfl)).add (hM.f 14 rfl)).add (hM.f 13 rfl)).add (hM.f 12 rfl)).add (hM.f 11 rfl)).add (hM.f 10 rfl)).add (hM.f 9 rfl)).add (hM.f 8 rfl)).add (hM.f 7 rfl)).add (hM.f 6 rfl)).add (hM.f 5 rfl)).add (hM.f 4 rfl)).add (hM.f 3 rfl)).add (hM.f 2 rfl)).add (hM.f 1 rfl)).add (hM.f 0 rfl)⟩
             refine GD.bx (fun _ => op_alloc zer28) fun g91 hg91 => ?_
             refine GD.call (fun _ hM => Quotient_ok hM.avlt (hM.f 1 rfl) (hM.f 0 rfl) (by decide +kernel) (by first | assumption | omega | (dsimp only; omega))) ?_
             rintro _ _ _ hM ⟨A92a, n92a, c92a, m92a, A92b, n92b, c92b, m92b, rfl, h92a, h92b, hb⟩
             have hs92 := sz_quo p (((parseZ [57, 57, 57, 57, 57, 57, 57, 57, 54, 55]).1))
             have ht92 := sz_rem2 p (((parseZ [57, 57, 57, 57, 57, 57, 57, 57, 54, 55]).1))
             refine ⟨_, _, _, rfl, hb, ((hM.call hb).add h92a).add h92b, ?_⟩
             refine GD.ev (.tuple #[.agg #[.slice A92a n92a c92a, .bool m92a], .agg #[.slice A92b n92b c92b, .bool m92b], .int .i64 0]) ?_
             refine GD.ev (.agg #[.slice A92a n92a c92a, .bool m92a]) ?_
             refine GD.ev (.agg #[.slice A92b n92b c92b, .bool m92b]) ?_
             refine GD.ev (.int .i64 0) ?_
             refine GD.sn hg88 (fun _ _ => Mem.st1) (fun _ hM => store_all (cs' := #[.slice A92a n92a c92a, .bool m92a]) siz28 (hM.b 1 rfl) (by kernel_rfl) (by kernel_rfl) rfl rfl rfl) ?_
             refine GD.sn hg91 (fun _ _ => Mem.st0) (fun _ hM => store_all (cs' := #[.slice A92b n92b c92b, .bool m92b]) siz28 (hM.b 0 rfl) (by kernel_rfl) (by kernel_rfl) rfl rfl rfl) ?_
             refine GD.v (.int .i64 0) ?_
             refine GD.q (QG.cut fun _ hM => ?_)
             exact ⟨A82, n82, c82, m82, A92a, n92a, c92a, m92a, A92b, n92b, c92b, m92b, g88, g91, rfl, ((((((((((((((((((((((((((((hM.clr).add (hM.f 27 rfl)).add (hM.f 26 rfl)).add (hM.f 25 rfl)).add (hM.f 24 rfl)).add (hM.f 23 rfl)).add (hM.f 22 rfl)).add (hM.f 21 rfl)).add (hM.f 20 rfl)).add (hM.f 19 rfl)).add (hM.f 18 rfl)).add (hM.f 17 rfl)).add (hM.f 16 rfl)).add (hM.f 15 rfl)).add (hM.f 14 rfl)).add (hM.f 13 rfl)).add (hM.f 12 rfl)).add (hM.f 11 rfl)).add (hM.f 10 rfl)).add (hM.f 9 rfl)).add (hM.f 8 rfl)).add (hM.f 7 rfl)).add (hM.f 6 rfl)).add (hM.f 5 rfl)).add (hM.f 4 rfl)).add (hM.f 3 rfl)).add (hM.f 2 rfl)).add (hM.f 1 rfl)).add (hM.f 0 rfl)⟩
           refine GD.bx (fun _ => op_alloc zer28) fun g93 hg93 => ?_
           refine GD.fork ?_ ?_
           · skip
             refine GD.call (fun _ hM => Quotient_ok hM.avlt (hM.f 1 rfl) (hM.f 0 rfl) (by decide +kernel) (by first | assumption | omega | (dsimp only; omega))) ?_
             rintro _ _ _ hM ⟨A94a, n94a, c94a, m94a, A94b, n94b, c94b, m94b, rfl, h94a, h94b, hb⟩
             have hs94 := sz_quo p (((parseZ [57, 57, 57, 57, 57, 57, 57, 57, 54, 55]).1))
             have ht94 := sz_rem2 p (((parseZ [57, 57, 57, 57, 57, 57, 57, 57, 54, 55]).1))
             refine ⟨_, _, _, rfl, hb, ((hM.call hb).add h94a).add h94b, ?_⟩
             refine GD.ev (.tuple #[.agg #[.slice A94a n94a c94a, .bool m94a], .agg #[.slice A94b n94b c94b, .bool m94b], .int .i64 0]) ?_
             refine GD.ev (.agg #[.slice A94a n94a c94a, .bool m94a]) ?_
             refine GD.ev (.agg #[.slice A94b n94b c94b, .bool m94b]) ?_
             refine GD.ev (.int .i64 0) ?_
             refine GD.bx (fun _ => op_alloc zer28) fun g95 hg95 => ?_
             refine GD.sn hg95 (fun _ _ => Mem.st0) (fun _ hM => store_all (cs' := #[.slice A94a n94a c94a, .bool m94a]) siz28 (hM.b 0 rfl) (by kernel_rfl) (by kernel_rfl) rfl rfl rfl) ?_
             refine GD.sn hg93 (fun _ _ => Mem.st1) (fun _ hM => store_all (cs' := #[.slice A94b n94b c94b, .bool m94b]) siz28 (hM.b 1 rfl) (by kernel_rfl) (by kernel_rfl) rfl rfl rfl) ?_
             refine GD.v (.int .i64 0) ?_
             refine GD.q (QG.cut fun _ hM => ?_)
             replace hM := hM.swap0
             exact ⟨A82, n82, c82, m82, A94a, n94a, c94a, m94a, A94b, n94b, c94b, m94b, g95, g93, rfl, ((((((((((((((((((((((((((((hM.clr).add (hM.f 27 rfl)).add (hM.f 26 rfl)).add (hM.f 25 rfl)).add (hM.f 24 rfl)).add (hM.f 23 rfl)).add (hM.f 22 rfl)).add (hM.f 21 rfl)).add (hM.f 20 rfl)).add (hM.f 19 rfl)).add (hM.f 18 rfl)).add (hM.f 17 rfl)).add (hM.f 16 rfl)).add (hM.f 15 rfl)).add (hM.f 14 rfl)).add (hM.f 13 rfl)).add (hM.f 12 rfl)).add (hM.f 11 rfl)).add (hM.f 10 rfl)).add (hM.f 9 rfl)).add (hM.f 8 rfl)).add (hM.f 7 rfl)).add (hM.f 6 rfl)).add (hM.f 5 rfl)).add (hM.f 4 rfl)).add (hM.f 3 rfl)).add (hM.f 2 rfl)).add (hM.f 1 rfl)).add (hM.f 0 rfl)⟩
           refine GD.bx (fun _ => op_alloc zer28) fun g96 hg96 => ?_
           refine GD.call (fun _ hM => Quotient_ok hM.avlt (hM.f 1 rfl) (hM.f 0 rfl) (by decide +kernel) (by first | assumption | omega | (dsimp only; omega))) ?_
           rintro _ _ _ hM ⟨A97a, n97a, c97a, m97a, A97b, n97b, c97b, m97b, rfl, h97a, h97b, hb⟩
           have hs97 := sz_quo p (((parseZ [57, 57, 57, 57, 57, 57, 57, 57, 54, 55]).1))
           have ht97 := sz_rem2 p (((parseZ [57, 57, 57, 57, 57, 57, 57, 57, 54, 55]).1))
           refine ⟨_, _, _, rfl, hb, ((hM.call hb).add h97a).add h97b, ?_⟩
           refine GD.ev (.tuple #[.agg #[.slice A97a n97a c97a, .bool m97a], .agg #[.slice A97b n97b c97b, .bool m97b], .int .i64 0]) ?_
           refine GD.ev (.agg #[.slice A97a n97a c97a, .bool m97a]) ?_
           refine GD.ev (.agg #[.slice A97b n97b c97b, .bool m97b]) ?_
           refine GD.ev (.int .i64 0) ?_
           refine GD.sn hg96 (fun _ _ => Mem.st0) (fun _ hM => store_all (cs' := #[.slice A97a n97a c97a, .bool m97a]) siz28 (hM.b 0 rfl) (by kernel_rfl) (by kernel_rfl) rfl rfl rfl) ?_
           refine GD.sn hg93 (fun _ _ => Mem.st1) (fun _ hM => store_all (cs' := #[.slice A97b n97b c97b, .bool m97b]) siz28 (hM.b 1 rfl) (by kernel_rfl) (by kernel_rfl) rfl rfl rfl) ?_
           refine GD.v (.int .i64 0) ?_
           refine GD.q (QG.cut fun _ hM => ?_)
           replace hM := hM.swap0
           exact ⟨A82, n82, c82, m82, A97a, n97a, c97a, m97a, A97b, n97b, c97b, m97b, g96, g93, rfl, ((((((((((((((((((((((((((((hM.clr).add (hM.f 27 rfl)).add (hM.f 26 rfl)).add (hM.f 25 rfl)).add (hM.f 24 rfl)).add (hM.f 23 rfl)).add (hM.f 22 rfl)).add (hM.f 21 rfl)).add (hM.f 20 rfl)).add (hM.f 19 rfl)).add (hM.f 18 rfl)).add (hM.f 17 rfl)).add (hM.f 16 rfl)).add (hM.f 15 rfl)).add (hM.f 14 rfl)).add (hM.f 13 rfl)).add (hM.f 12 rfl)).add (hM.f 11 rfl)).add (hM.f 10 rfl)).add (hM.f 9 rfl)).add (hM.f 8 rfl)).add (hM.f 7 rfl)).add (hM.f 6 rfl)).add (hM.f 5 rfl)).add (hM.f 4 rfl)).add (hM.f 3 rfl)).add (hM.f 2 rfl)).add (hM.f 1 rfl)).add (hM.f 0 rfl)⟩
         refine GD.fork ?_ ?_
         · skip
           refine GD.bx (fun _ => op_alloc zer28) fun g98 hg98 => ?_
           refine GD.fork ?_ ?_
           · skip
             refine GD.call (fun _ hM => z_ok hM.avlt [57, 57, 57, 57, 57, 57, 57, 57, 54, 55] (by simp)) ?_
             rintro _ _ _ hM ⟨A99, n99, c99, m99, rfl, h99, hb⟩
             have hz99 := parseZ_sz ([57, 57, 57, 57, 57, 57, 57, 57, 54, 55])
             simp only [List.length_cons, List.length_nil] at hz99
             refine ⟨_, _, _, rfl, hb, (hM.call hb).add h99, ?_⟩
             refine GD.fork ?_ ?_
             · skip
               refine GD.call (fun _ hM => Quotient_ok hM.avlt (hM.f 1 rfl) (hM.f 0 rfl) (by decide +kernel) (by first | assumption | omega | (dsimp only; omega))) ?_
               rintro _ _ _ hM ⟨A100a, n100a, c100a, m100a, A100b, n100b, c100b, m100b, rfl, h100a, h100b, hb⟩
               have hs100 := sz_quo p (((parseZ [57, 57, 57, 57, 57, 57, 57, 57, 54, 55]).1))
               have ht100 := sz_rem2 p (((parseZ [57, 57, 57, 57, 57, 57, 57, 57, 54, 55]).1))
               refine ⟨_, _, _, rfl, hb, ((hM.call hb).add h100a).add h100b, ?_⟩
               refine GD.ev (.tuple #[.agg #[.slice A100a n100a c100a, .bool m100a], .agg #[.slice A100b n100b c100b, .bool m100b], .int .i64 0]) ?_
               refine GD.ev (.agg #[.slice A100a n100a c100a, .bool m100a]) ?_
               refine GD.ev (.agg #[.slice A100b n100b c100b, .bool m100b]) ?_
               refine GD.ev (.int .i64 0) ?_
               refine GD.bx (fun _ => op_alloc zer28) fun g101 hg101 => ?_
               refine GD.sn hg98 (fun _ _ => Mem.st1) (fun _ hM => store_all (cs' := #[.slice A100a n100a c100a, .bool m100a]) siz28 (hM.b 1 rfl) (by kernel_rfl) (by kernel_rfl) rfl rfl rfl) ?_
               refine GD.sn hg101 (fun _ _ => Mem.st0) (fun _ hM => store_all (cs' := #[.slice A100b n100b c100b, .bool m100b]) siz28 (hM.b 0 rfl) (by kernel_rfl) (by kernel_rfl) rfl rfl rfl) ?_
               refine GD.v (.int .i64 0) ?_
               refine GD.q (QG.cut fun _ hM => ?_)
               exact ⟨A99, n99, c99, m99, A100a, n100a, c100a, m100a, A100b, n100b, c100b, m100b, g98, g101, rfl, ((((((((((((((((((((((((((((hM.clr).add (hM.f 27 rfl)).add (hM.f 26 rfl)).add (hM.f 25 rfl)).add (hM.f 24 rfl)).add (hM.f 23 rfl)).add (hM.f 22 rfl)).add (hM.f 21 rfl)).add (hM.f 20 rfl)).add (hM.f 19 rfl)).add (hM.f 18 rfl)).add (hM.f 17 rfl)).add (hM.f 16 rfl)).add (hM.f 15 rfl)).add (hM.f 14 rfl)).add (hM.f 13 rfl)).add (hM.f 12 rfl)).add (hM.f 11 rfl)).add (hM.f 10 rfl)).add (hM.f 9 rfl)).add (hM.f 8 rfl)).add (hM.f 7 rfl)).add (hM.f 6 rfl)).add (hM.f 5 rfl)).add (hM.f 4 rfl)).add (hM.f 3 rfl)).add (hM.f 2 rfl)).add (hM.f 1 rfl)).add (hM.f 0 rfl)⟩
             refine GD.bx (fun _ => op_alloc zer28) fun g102 hg102 => ?_
             refine GD.call (fun _ hM => Quotient_ok hM.avlt (hM.f 1 rfl) (hM.f 0 rfl) (by decide +kernel) (by first | assumption | omega | (dsimp only; omega))) ?_
             rintro _ _ _ hM ⟨A103a, n103a, c103a, m103a, A103b, n103b, c103b, m103b, rfl, h103a, h103b, hb⟩
             have hs103 := sz_quo p (((parseZ [57, 57, 57, 57, 57, 57, 57, 57, 54, 55]).1))
             have ht103 := sz_rem2 p (((parseZ [57, 57, 57, 57, 57, 57, 57, 57, 54, 55]).1))
             refine ⟨_, _, _, rfl, hb, ((hM.call hb).add h103a).add h103b, ?_⟩
             refine GD.ev (.tuple #[.agg #[.slice A103a n103a c103a, .bool m103a], .agg #[.slice A103b n103b c103b, .bool m103b], .int .i64 0]) ?_
             refine GD.ev (.agg #[.slice A103a n103a c103a, .bool m103a]) ?_
             refine GD.ev (.agg #[.slice A103b n103b c103b, .bool m103b]) ?_
             refine GD.ev (.int .i64 0) ?_
             refine GD.sn hg98 (fun _ _ => Mem.st1) (fun _ hM => store_all (cs' := #[.slice A103a n103a c103a, .bool m103a]) siz28 (hM.b 1 rfl) (by kernel_rfl) (by kernel_rfl) rfl rfl rfl) ?_
             refine GD.sn hg102 (fun _ _ => Mem.st0) (fun _ hM => store_all (cs' := #[.slice A103b n103b c103b, .bool m103b]) siz28 (hM.b 0 rfl) (by kernel_rfl) (by kernel_rfl) rfl rfl rfl) ?_
             refine GD.v (.int .i64 0) ?_
             refine GD.q (QG.cut fun _ hM => ?_)
             exact ⟨A99, n99, c99, m99, A103a, n103a, c103a, m103a, A103b, n103b, c103b, m103b, g98, g102, rfl, ((((((((((((((((((((((((((((hM.clr).add (hM.f 27 rfl)).add (hM.f 26 rfl)).add (hM.f 25 rfl)).add (hM.f 24 rfl)).add (hM.f 23 rfl)).add (hM.f 22 rfl)).add (hM.f 21 rfl)).add (hM.f 20 rfl)).add (hM.f 19 rfl)).add (hM.f 18 rfl)).add (hM.f 17 rfl)).add (hM.f 16 rfl)).add (hM.f 15 rfl)).add (hM.f 14 rfl)).add (hM.f 13 rfl)).add (hM.f 12 rfl)).add (hM.f 11 rfl)).add (hM.f 10 rfl)).add (hM.f 9 rfl)).add (hM.f 8 rfl)).add (hM.f 7 rfl)).add (hM.f 6 rfl)).add (hM.f 5 rfl)).add (hM.f 4 rfl)).add (hM.f 3 rfl)).add (hM.f 2 rfl)).add (hM.f 1 rfl)).add (hM.f 0 rfl)⟩
           refine GD.bx (fun _ => op_alloc zer28) fun g104 hg104 => ?_
           refine GD.call (fun _ hM => z_ok hM.avlt [57, 57, 57, 57, 57, 57, 57, 57, 54, 55] (by simp)) ?_
           rintro _ _ _ hM ⟨A105, n105, c105, m105, rfl, h105, hb⟩
           have hz105 := parseZ_sz ([57, 57, 57, 57, 57, 57, 57, 57, 54, 55])
           simp only [List.length_cons, List.length_nil] at hz105
           refine ⟨_, _, _, rfl, hb, (hM.call hb).add h105, ?_⟩
           refine GD.call (fun _ hM => Quotient_ok hM.avlt (hM.f 1 rfl) (hM.f 0 rfl) (by decide +kernel) (by first | assumption | omega | (dsimp only; omega))) ?_
           rintro _ _ _ hM ⟨A106a, n106a, c106a, m106a, A106b, n106b, c106b, m106b, rfl, h106a, h106b, hb⟩
           have hs106 := sz_quo p (((parseZ [57, 57, 57, 57, 57, 57, 57, 57, 54, 55]).1))
           have ht106 := sz_rem2 p (((parseZ [57, 57, 57, 57, 57, 57, 57, 57, 54, 55]).1))
           refine ⟨_, _, _, rfl, hb, ((hM.call hb).add h106a).add h106b, ?_⟩
           refine GD.ev (.tuple #[.agg #[.slice A106a n106a c106a, .bool m106a], .agg #[.slice A106b n106b c106b, .bool m106b], .int .i64 0]) ?_
           refine GD.ev (.agg #[.slice A106a n106a c106a, .bool m106a]) ?_
           refine GD.ev (.agg #[.slice A106b n106b c106b, .bool m106b]) ?_
           refine GD.ev (.int .i64 0) ?_
           refine GD.sn hg98 (fun _ _ => Mem.st1) (fun _ hM => store_all (cs' := #[.slice A106a n106a c106a, .bool m106a]) siz28 (hM.b 1 rfl) (by kernel_rfl) (by kernel_rfl) rfl rfl rfl) ?_
           refine GD.sn hg104 (fun _ _ => Mem.st0) (fun _ hM => store_all (cs' := #[.slice A106b n106b c106b, .bool m106b]) siz28 (hM.b 0 rfl) (by kernel_rfl) (by kernel_rfl) rfl rfl rfl) ?_
           refine GD.v (.int .i64 0) ?_
           refine GD.q (QG.cut fun _ hM => ?_)
           exact ⟨A105, n105, c105, m105, A106a, n106a, c106a, m106a, A106b, n106b, c106b, m106b, g98, g104, rfl, ((((((((((((((((((((((((((((hM.clr).add (hM.f 27 rfl)).add (hM.f 26 rfl)).add (hM.f 25 rfl)).add (hM.f 24 rfl)).add (hM.f 23 rfl)).add (hM.f 22 rfl)).add (hM.f 21 rfl)).add (hM.f 20 rfl)).add (hM.f 19 rfl)).add (hM.f 18 rfl)).add (hM.f 17 rfl)).add (hM.f 16 rfl)).add (hM.f 15 rfl)).add (hM.f 14 rfl)).add (hM.f 13 rfl)).add (hM.f 12 rfl)).add (hM.f 11 rfl)).add (hM.f 10 rfl)).add (hM.f 9 rfl)).add (hM.f 8 rfl)).add (hM.f 7 rfl)).add (hM.f 6 rfl)).add (hM.f 5 rfl)).add (hM.f 4 rfl)).add (hM.f 3 rfl)).add (hM.f 2 rfl)).add (hM.f 1 rfl)).add (hM.f 0 rfl)⟩
         refine GD.bx (fun _ => op_alloc zer28) fun g107 hg107 => ?_
         refine GD.fork ?_ ?_
         · skip
           refine GD.call (fun _ hM => z_ok hM.avlt [57, 57, 57, 57, 57, 57, 57, 57, 54, 55] (by simp)) ?_
           rintro _ _ _ hM ⟨A108, n108, c108, m108, rfl, h108, hb⟩
           have hz108 := parseZ_sz ([57, 57, 57, 57, 57, 57, 57, 57, 54, 55])
           simp only [List.length_cons, List.length_nil] at hz108
           refine ⟨_, _, _, rfl, hb, (hM.call hb).add h108, ?_⟩
           refine GD.fork ?_ ?_
           · skip
             refine GD.call (fun _ hM => Quotient_ok hM.avlt (hM.f 1 rfl) (hM.f 0 rfl) (by decide +kernel) (by first | assumption | omega | (dsimp only; omega))) ?_
             rintro _ _ _ hM ⟨A109a, n109a, c109a, m109a, A109b, n109b, c109b, m109b, rfl, h109a, h109b, hb⟩
             have hs109 := sz_quo p (((parseZ [57, 57, 57, 57, 57, 57, 57, 57, 54, 55]).1))
             have ht109 := sz_rem2 p (((parseZ [57, 57, 57, 57, 57, 57, 57, 57, 54, 55]).1))
             refine ⟨_, _, _, rfl, hb, ((hM.call hb).add h109a).add h109b, ?_⟩
             refine GD.ev (.tuple #[.agg #[.slice A109a n109a c109a, .bool m109a], .agg #[.slice A109b n109b c109b, .bool m109b], .int .i64 0]) ?_
             refine GD.ev (.agg #[.slice A109a n109a c109a, .bool m109a]) ?_
             refine GD.ev (.agg #[.slice A109b n109b c109b, .bool m109b]) ?_
             refine GD.ev (.int .i64 0) ?_
             refine GD.bx (fun _ => op_alloc zer28) fun g110 hg110 => ?_
             refine GD.sn hg110 (fun _ _ => Mem.st0) (fun _ hM => store_all (cs' := #[.slice A109a n109a c109a, .bool m109a]) siz28 (hM.b 0 rfl) (by kernel_rfl) (by kernel_rfl) rfl rfl rfl) ?_
             refine GD.sn hg107 (fun _ _ => Mem.st1) (fun _ hM => store_all (cs' := #[.slice A109b n109b c109b, .bool m109b]) siz28 (hM.b 1 rfl) (by kernel_rfl) (by kernel_rfl) rfl rfl rfl) ?_
             refine GD.v (.int .i64 0) ?_
             refine GD.q (QG.cut fun _ hM => ?_)
             replace hM := hM.swap0
             exact ⟨A108, n108, c108, m108, A109a, n109a, c109a, m109a, A109b, n109b, c109b, m109b, g110, g107, rfl, ((((((((((((((((((((((((((((hM.clr).add (hM.f 27 rfl)).add (hM.f 26 rfl)).add (hM.f 25 rfl)).add (hM.f 24 rfl)).add (hM.f 23 rfl)).add (hM.f 22 rfl)).add (hM.f 21 rfl)).add (hM.f 20 rfl)).add (hM.f 19 rfl)).add (hM.f 18 rfl)).add (hM.f 17 rfl)).add (hM.f 16 rfl)).add (hM.f 15 rfl)).add (hM.f 14 rfl)).add (hM.f 13 rfl)).add (hM.f 12 rfl)).add (hM.f 11 rfl)).add (hM.f 10 rfl)).add (hM.f 9 rfl)).add (hM.f 8 rfl)).add (hM.f 7 rfl)).add (hM.f 6 rfl)).add (hM.f 5 rfl)).add (hM.f 4 rfl)).add (hM.f 3 rfl)).add (hM.f 2 rfl)).add (hM.f 1 rfl)).add (hM.f 0 rfl)⟩
           refine GD.bx (fun _ => op_alloc zer28) fun g111 hg111 => ?_
           refine GD.call (fun _ hM => Quotient_ok hM.avlt (hM.f 1 rfl) (hM.f 0 rfl) (by decide +kernel) (by first | assumption | omega | (dsimp only; omega))) ?_
           rintro _ _ _ hM ⟨A112a, n112a, c112a, m112a, A112b, n112b, c112b, m112b, rfl, h112a, h112b, hb⟩
           have hs112 := sz_quo p (((parseZ [57, 57, 57, 57, 57, 57, 57, 57, 54, 55]).1))
           have ht112 := sz_rem2 p (((parseZ [57, 57, 57, 57, 57, 57, 57, 57, 54, 55]).1))
           refine ⟨_, _, _, rfl, hb, ((hM.call hb).add h112a).add h112b, ?_⟩
           refine GD.ev (.tuple #[.agg #[.slice A112a n112a c112a, .bool m112a], .agg #[.slice A112b n112b c112b, .bool m112b], .int .i64 0]) ?_
           refine GD.ev (.agg #[.slice A112a n112a c112a, .bool m112a]) ?_
           refine GD.ev (.agg #[.slice A112b n112b c112b, .bool m112b]) ?_
           refine GD.ev (.int .i64 0) ?_
           refine GD.sn hg111 (fun _ _ => Mem.st0) (fun _ hM => store_all (cs' := #[.slice A112a n112a c112a, .bool m112a]) siz28 (hM.b 0 rfl) (by kernel_rfl) (by kernel_rfl) rfl rfl rfl) ?_
           refine GD.sn hg107 (fun _ _ => Mem.st1) (fun _ hM => store_all (cs' := #[.slice A112b n112b c112b, .bool m112b]) siz28 (hM.b 1 rfl) (by kernel_rfl) (by kernel_rfl) rfl rfl rfl) ?_
           refine GD.v (.int .i64 0) ?_
           refine GD.q (QG.cut fun _ hM => ?_)
           replace hM := hM.swap0
           exact ⟨A108, n108, c108, m108, A112a, n112a, c112a, m112a, A112b, n112b, c112b, m112b, g111, g107, rfl, ((((((((((((((((((((((((((((hM.clr).add (hM.f 27 rfl)).add (hM.f 26 rfl)).add (hM.f 25 rfl)).add (hM.f 24 rfl)).add (hM.f 23 rfl)).add (hM.f 22 rfl)).add (hM.f 21 rfl)).add (hM.f 20 rfl)).add (hM.f 19 rfl)).add (hM.f 18 rfl)).add (hM.f 17 rfl)).add (hM.f 16 rfl)).add (hM.f 15 rfl)).add (hM.f 14 rfl)).add (hM.f 13 rfl)).add (hM.f 12 rfl)).add (hM.f 11 rfl)).add (hM.f 10 rfl)).add (hM.f 9 rfl)).add (hM.f 8 rfl)).add (hM.f 7 rfl)).add (hM.f 6 rfl)).add (hM.f 5 rfl)).add (hM.f 4 rfl)).add (hM.f 3 rfl)).add (hM.f 2 rfl)).add (hM.f 1 rfl)).add (hM.f 0 rfl)⟩
         refine GD.bx (fun _ => op_alloc zer28) fun g113 hg113 => ?_
         refine GD.call (fun _ hM => z_ok hM.avlt [57, 57, 57, 57, 57, 57, 57, 57, 54, 55] (by simp)) ?_
         rintro _ _ _ hM ⟨A114, n114, c114, m114, rfl, h114, hb⟩
         have hz114 := parseZ_sz ([57, 57, 57, 57, 57, 57, 57, 57, 54, 55])
         simp only [List.length_cons, List.length_nil] at hz114
         refine ⟨_, _, _, rfl, hb, (hM.call hb).add h114, ?_⟩
         refine GD.call (fun _ hM => Quotient_ok hM.avlt (hM.f 1 rfl) (hM.f 0 rfl) (by decide +kernel) (by first | assumption | omega | (dsimp only; omega))) ?_
         rintro _ _ _ hM ⟨A115a, n115a, c115a, m115a, A115b, n115b, c115b, m115b, rfl, h115a, h115b, hb⟩
         have hs115 := sz_quo p (((parseZ [57, 57, 57, 57, 57, 57, 57, 57, 54, 55]).1))
         have ht115 := sz_rem2 p (((parseZ [57, 57, 57, 57, 57, 57, 57, 57, 54, 55]).1))
         refine ⟨_, _, _, rfl, hb, ((hM.call hb).add h115a).add h115b, ?_⟩
         refine GD.ev (.tuple #[.agg #[.slice A115a n115a c115a, .bool m115a], .agg #[.slice A115b n115b c115b, .bool m115b], .int .i64 0]) ?_
         refine GD.ev (.agg #[.slice A115a n115a c115a, .bool m115a]) ?_
         refine GD.ev (.agg #[.slice A115b n115b c115b, .bool m115b]) ?_
         refine GD.ev (.int .i64 0) ?_
         refine GD.sn hg113 (fun _ _ => Mem.st0) (fun _ hM => store_all (cs' := #[.slice A115a n115a c115a, .bool m115a]) siz28 (hM.b 0 rfl) (by kernel_rfl) (by kernel_rfl) rfl rfl rfl) ?_
         refine GD.sn hg107 (fun _ _ => Mem.st1) (fun _ hM => store_all (cs' := #[.slice A115b n115b c115b, .bool m115b]) siz28 (hM.b 1 rfl) (by kernel_rfl) (by kernel_rfl) rfl rfl rfl) ?_
         refine GD.v (.int .i64 0) ?_
         refine GD.q (QG.cut fun _ hM => ?_)
         replace hM := hM.swap0
         exact ⟨A114, n114, c114, m114, A115a, n115a, c115a, m115a, A115b, n115b, c115b, m115b, g113, g107, rfl, ((((((((((((((((((((((((((((hM.clr).add (hM.f 27 rfl)).add (hM.f 26 rfl)).add (hM.f 25 rfl)).add (hM.f 24 rfl)).add (hM.f 23 rfl)).add (hM.f 22 rfl)).add (hM.f 21 rfl)).add (hM.f 20 rfl)).add (hM.f 19 rfl)).add (hM.f 18 rfl)).add (hM.f 17 rfl)).add (hM.f 16 rfl)).add (hM.f 15 rfl)).add (hM.f 14 rfl)).add (hM.f 13 rfl)).add (hM.f 12 rfl)).add (hM.f 11 rfl)).add (hM.f 10 rfl)).add (hM.f 9 rfl)).add (hM.f 8 rfl)).add (hM.f 7 rfl)).add (hM.f 6 rfl)).add (hM.f 5 rfl)).add (hM.f 4 rfl)).add (hM.f 3 rfl)).add (hM.f 2 rfl)).add (hM.f 1 rfl)).add (hM.f 0 rfl)⟩
       · skip
         rintro a_ u_ ⟨A82, n82, c82, m82, A83a, n83a, c83a, m83a, A83b, n83b, c83b, m83b, g84, g85, rfl, hM⟩
         refine QG.go hM ?_
         refine QG.k k1 ?_
         refine CG.seq fun K_ k1 => ?_
         refine CG.seq fun K_ k2 => ?_
         refine CG.draw [] [0, 1, 2, 3, 5, 6, 7, 8, 11, 13, 15, 16, 17, 18, 20, 21, 22, 23, 26, 27] (.step 0 (.step 1 (.step 2 (.step 3 (.step 4 (.step 5 (.step 6 (.step 7 (.step 8 (.step 11 (.step 13 (.step 9 (.step 10 (.step 12 (.step 14 (.step 15 (.step 16 (.step 17 (.step 18 (.step 19 (.step 20 (.step 21 (.step 22 (.step 23 (.step 24 (.step 25 (.step 26 (.step 27 .done)))))))))))))))))))))))))))) (fun V hV116 => ?_)
         have hpf : p = 15511210043330985984000000 := by rw [hp, show k = 26 by omega]; decide +kernel
         have hqa : sz (p / (parseZ [57, 57, 57, 57, 57, 57, 57, 57, 54, 55]).1) ≤ 5 := szn_small 5 (by rw [hpf]; decide +kernel)
         have hqb : sz (p % (parseZ [57, 57, 57, 57, 57, 57, 57, 57, 54, 55]).1) ≤ 5 := szn_small 5 (by rw [hpf]; decide +kernel)
         refine GD.ev (.int .i64 0) ?_
         refine GD.ev (.bool false) ?_
         refine GD.ev (.bool false) ?_
         refine GD.er (.agg #[.slice Ap np cp, .bool mp]) (fun _ hS => op_load_agg (off := 0) (by kernel_rfl) agg28 siz28 (hV116.bS 2 rfl hS) rfl rfl) ?_
         refine GD.call (fun _ hM => ZText_ok hM.avlt (hM.f 3 rfl) (by first | assumption | (dsimp only; omega) | omega)) ?_
         rintro _ _ _ hM ⟨rfl, hb⟩
         have hl117 := decZ_len p
         refine ⟨_, _, _, rfl, hb, hM.call hb, ?_⟩
         refine GD.ev (.bool false) ?_ (hr := fun u => op_b (b := (!(decide ((decZ p) = [49, 53, 53, 49, 49, 50, 49, 48, 48, 52, 51, 51, 51, 48, 57, 56, 53, 57, 56, 52, 48, 48, 48, 48, 48, 48])))) ((fun u => op_sne (L := decZ p) (K := [49, 53, 53, 49, 49, 50, 49, 48, 48, 52, 51, 51, 51, 48, 57, 56, 53, 57, 56, 52, 48, 48, 48, 48, 48, 48]) (by kernel_rfl) (by kernel_rfl)) u) (by rw [decide_eq_true (by rw [hpf]; exact (decZ_pos (s := [49, 53, 53, 49, 49, 50, 49, 48, 48, 52, 51, 51, 51, 48, 57, 56, 53, 57, 56, 52, 48, 48, 48, 48, 48, 48]) (by decide +kernel) (by decide +kernel)))]; rfl))
         refine GD.ev (.bool false) ?_
         refine GD.ev (.bool false) ?_
         refine GD.er (.agg #[.slice A83a n83a c83a, .bool m83a]) (fun _ hS => op_load_agg (off := 0) (by kernel_rfl) agg28 siz28 (hV116.bS 1 rfl hS) rfl rfl) ?_
         refine GD.er (.agg #[.slice A83b n83b c83b, .bool m83b]) (fun _ hS => op_load_agg (off := 0) (by kernel_rfl) agg28 siz28 (hV116.bS 0 rfl hS) rfl rfl) ?_
         refine GD.er (.agg #[.slice Ap np cp, .bool mp]) (fun _ hS => op_load_agg (off := 0) (by kernel_rfl) agg28 siz28 (hV116.bS 2 rfl hS) rfl rfl) ?_
         refine GD.call (fun _ hM => z_ok hM.avlt [57, 57, 57, 57, 57, 57, 57, 57, 54, 55] (by simp)) ?_
         rintro _ _ _ hM ⟨A118, n118, c118, m118, rfl, h118, hb⟩
         have hz118 := parseZ_sz ([57, 57, 57, 57, 57, 57, 57, 57, 54, 55])
         simp only [List.length_cons, List.length_nil] at hz118
         refine ⟨_, _, _, rfl, hb, (hM.call hb).add h118, ?_⟩
         refine GD.call (fun _ hM => Mul_ok hM.avlt (hM.f 2 rfl) (hM.f 0 rfl) (by first | assumption | omega | (dsimp only; omega))) ?_
         rintro _ _ _ hM ⟨A119, n119, c119, m119, rfl, h119, hb⟩
         have hs119 := sz_mul ((p / ((parseZ [57, 57, 57, 57, 57, 57, 57, 57, 54, 55]).1))) (((parseZ [57, 57, 57, 57, 57, 57, 57, 57, 54, 55]).1))
         refine ⟨_, _, _, rfl, hb, (hM.call hb).add h119, ?_⟩
         refine GD.call (fun _ hM => Add_ok hM.avlt (hM.f 0 rfl) (hM.f 2 rfl) (by first | assumption | omega | (dsimp only; omega))) ?_
         rintro _ _ _ hM ⟨A120, n120, c120, m120, rfl, h120, hb⟩
         have hs120 := sz_add (((p / ((parseZ [57, 57, 57, 57, 57, 57, 57, 57, 54, 55]).1)) * ((parseZ [57, 57, 57, 57, 57, 57, 57, 57, 54, 55]).1))) ((p % ((parseZ [57, 57, 57, 57, 57, 57, 57, 57, 54, 55]).1)))
         refine ⟨_, _, _, rfl, hb, (hM.call hb).add h120, ?_⟩
         refine GD.call (fun _ hM => Cmp_ok hM.avlt (hM.f 0 rfl) (hM.f 6 rfl) (by first | assumption | omega | (dsimp only; omega))) ?_
         rintro _ _ _ hM ⟨rfl, hb⟩
         refine ⟨_, _, _, rfl, hb, hM.call hb, ?_⟩
         refine GD.ev (.bool false) ?_ (hr := fun u => op_b (b := ((((((p / ((parseZ [57, 57, 57, 57, 57, 57, 57, 57, 54, 55]).1)) * ((parseZ [57, 57, 57, 57, 57, 57, 57, 57, 54, 55]).1)) + (p % ((parseZ [57, 57, 57, 57, 57, 57, 57, 57, 54, 55]).1))) - p).sign) != (0 : Int))) (by kernel_rfl) (by rw [hpf]; decide +kernel))
         refine GD.ev (.bool false) ?_
         refine GD.ev (.bool false) ?_
         refine GD.er (.agg #[.slice A83b n83b c83b, .bool m83b]) (fun _ hS => op_load_agg (off := 0) (by kernel_rfl) agg28 siz28 (hV116.bS 0 rfl hS) rfl rfl) ?_
         refine GD.call (fun _ hM => Sign_ok hM.avlt (hM.f 3 rfl)) ?_
         rintro _ _ _ hM ⟨rfl, hb⟩
         refine ⟨_, _, _, rfl, hb, hM.call hb, ?_⟩
         refine GD.ev (.bool false) ?_ (hr := fun u => op_b (b := (decide (((p % ((parseZ [57, 57, 57, 57, 57, 57, 57, 57, 54, 55]).1)).sign) < (0 : Int)))) (by kernel_rfl) (by rw [hpf]; decide +kernel))
         refine GD.ev (.bool false) ?_
         refine GD.ev (.bool false) ?_
         refine GD.er (.agg #[.slice A83b n83b c83b, .bool m83b]) (fun _ hS => op_load_agg (off := 0) (by kernel_rfl) agg28 siz28 (hV116.bS 0 rfl hS) rfl rfl) ?_
         refine GD.call (fun _ hM => z_ok hM.avlt [57, 57, 57, 57, 57, 57, 57, 57, 54, 55] (by simp)) ?_
         rintro _ _ _ hM ⟨A123, n123, c123, m123, rfl, h123, hb⟩
         have hz123 := parseZ_sz ([57, 57, 57, 57, 57, 57, 57, 57, 54, 55])
         simp only [List.length_cons, List.length_nil] at hz123
         refine ⟨_, _, _, rfl, hb, (hM.call hb).add h123, ?_⟩
         refine GD.call (fun _ hM => Cmp_ok hM.avlt (hM.f 4 rfl) (hM.f 0 rfl) (by first | assumption | omega | (dsimp only; omega))) ?_
         rintro _ _ _ hM ⟨rfl, hb⟩
         refine ⟨_, _, _, rfl, hb, hM.call hb, ?_⟩
         refine GD.ev (.bool false) ?_ (hr := fun u => op_b (b := (decide ((((p % ((parseZ [57, 57, 57, 57, 57, 57, 57, 57, 54, 55]).1)) - ((parseZ [57, 57, 57, 57, 57, 57, 57, 57, 54, 55]).1)).sign) ≥ (0 : Int)))) (by kernel_rfl) (by rw [hpf]; decide +kernel))
         refine GD.ev (.bool false) ?_
         refine GD.k k2 ?_
         refine CG.no ?_ rfl rfl
         refine CG.skip ?_
         refine QG.k k1 ?_
         refine CG.seq fun K_ k1 => ?_
         refine CG.lin 7 ?_
         refine GL.call (fun _ hM => Int_ok hM.avlt (-9223372036854775808) (by first | assumption | (dsimp only; omega) | omega)) ?_
         rintro _ _ _ hM ⟨A125, n125, c125, m125, rfl, h125, hb⟩
         have hs125 := sz_i64 (-9223372036854775808) (by omega)
         refine ⟨_, _, _, rfl, (hM.call hb).add h125, ?_⟩
         refine GL.call (fun _ hM => Int64_ok hM.avlt (hM.f 0 rfl) (by first | assumption | (dsimp only; omega) | omega)) ?_
         rintro _ _ _ hM ⟨rfl, hb⟩
         refine ⟨_, _, _, rfl, hM.call hb, ?_⟩
         refine GL.v (.tuple #[.int .i64 (to64 (-9223372036854775808)), .bool (decide (-9223372036854775808 ≤ (-9223372036854775808) ∧ (-9223372036854775808) ≤ 9223372036854775807))]) ?_
         refine GL.v (.int .i64 (to64 (-9223372036854775808))) ?_
         refine GL.v (.bool (decide (-9223372036854775808 ≤ (-9223372036854775808) ∧ (-9223372036854775808) ≤ 9223372036854775807))) ?_
         refine GL.v (.int .i64 (to64 (-9223372036854775808))) ?_
         refine GL.v (.bool true) ?_ (hr := fun u => op_b (b := (decide (-9223372036854775808 ≤ (-9223372036854775808) ∧ (-9223372036854775808) ≤ 9223372036854775807))) (by kernel_rfl) (by decide +kernel))
         refine GL.k k1 ?_
         refine CG.seq fun K_ k1 => ?_
         refine CG.lin 9 ?_
         refine GL.call (fun _ hM => Int_ok hM.avlt (9223372036854775807) (by first | assumption | (dsimp only; omega) | omega)) ?_
         rintro _ _ _ hM ⟨A127, n127, c127, m127, rfl, h127, hb⟩
         have hs127 := sz_i64 (9223372036854775807) (by omega)
         refine ⟨_, _, _, rfl, (hM.call hb).add h127, ?_⟩
         refine GL.call (fun _ hM => Int_ok hM.avlt (1) (by first | assumption | (dsimp only; omega) | omega)) ?_
         rintro _ _ _ hM ⟨A128, n128, c128, m128, rfl, h128, hb⟩
         have hs128 := sz_i64 (1) (by omega)
         refine ⟨_, _, _, rfl, (hM.call hb).add h128, ?_⟩
         refine GL.call (fun _ hM => Add_ok hM.avlt (hM.f 1 rfl) (hM.f 0 rfl) (by first | assumption | (dsimp only; omega) | omega)) ?_
         rintro _ _ _ hM ⟨A129, n129, c129, m129, rfl, h129, hb⟩
         have hs129 := sz_add (9223372036854775807) (1)
         refine ⟨_, _, _, rfl, (hM.call hb).add h129, ?_⟩
         refine GL.call (fun _ hM => Int64_ok hM.avlt (hM.f 0 rfl) (by first | assumption | (dsimp only; omega) | omega)) ?_
         rintro _ _ _ hM ⟨rfl, hb⟩
         refine ⟨_, _, _, rfl, hM.call hb, ?_⟩
         refine GL.v (.tuple #[.int .i64 (to64 (9223372036854775807 + 1)), .bool (decide (-9223372036854775808 ≤ (9223372036854775807 + 1) ∧ (9223372036854775807 + 1) ≤ 9223372036854775807))]) ?_
         refine GL.v (.int .i64 (to64 (9223372036854775807 + 1))) ?_
         refine GL.v (.bool (decide (-9223372036854775808 ≤ (9223372036854775807 + 1) ∧ (9223372036854775807 + 1) ≤ 9223372036854775807))) ?_
         refine GL.v (.int .i64 (to64 (9223372036854775807 + 1))) ?_
         refine GL.v (.bool false) ?_ (hr := fun u => op_b (b := (decide (-9223372036854775808 ≤ (9223372036854775807 + 1) ∧ (9223372036854775807 + 1) ≤ 9223372036854775807))) (by kernel_rfl) (by decide +kernel))
         refine GL.k k1 ?_
         refine CG.seq fun K_ k1 => ?_
         refine CG.lin 10 ?_
         refine GL.call (fun _ hM => Of_ok hM.avlt (1) (by first | assumption | (dsimp only; omega) | omega)) ?_
         rintro _ _ _ hM ⟨A131, n131, c131, m131, A131_, n131_, c131_, rfl, h131, hb⟩
         have hs131 := szR_int (1)
         have ht131 := sz_i64 (1) (by omega)
         refine ⟨_, _, _, rfl, (hM.call hb).add h131, ?_⟩
         refine GL.call (fun _ hM => Of_ok hM.avlt (2) (by first | assumption | (dsimp only; omega) | omega)) ?_
         rintro _ _ _ hM ⟨A132, n132, c132, m132, A132_, n132_, c132_, rfl, h132, hb⟩
         have hs132 := szR_int (2)
         have ht132 := sz_i64 (2) (by omega)
         refine ⟨_, _, _, rfl, (hM.call hb).add h132, ?_⟩
         refine GL.v (.agg #[.slice A131 n131 c131, .bool m131, .slice A131_ n131_ c131_, .slice A132 n132 c132, .bool m132, .slice A132_ n132_ c132_]) ?_
         refine GL.call (fun _ hM => Of_ok hM.avlt (3) (by first | assumption | (dsimp only; omega) | omega)) ?_
         rintro _ _ _ hM ⟨A133, n133, c133, m133, A133_, n133_, c133_, rfl, h133, hb⟩
         have hs133 := szR_int (3)
         have ht133 := sz_i64 (3) (by omega)
         refine ⟨_, _, _, rfl, (hM.call hb).add h133, ?_⟩
         refine GL.call (fun _ hM => Of_ok hM.avlt (4) (by first | assumption | (dsimp only; omega) | omega)) ?_
         rintro _ _ _ hM ⟨A134, n134, c134, m134, A134_, n134_, c134_, rfl, h134, hb⟩
         have hs134 := szR_int (4)
         have ht134 := sz_i64 (4) (by omega)
         refine ⟨_, _, _, rfl, (hM.call hb).add h134, ?_⟩
         refine GL.v (.agg #[.slice A133 n133 c133, .bool m133, .slice A133_ n133_ c133_, .slice A134 n134 c134, .bool m134, .slice A134_ n134_ c134_]) ?_
         refine GL.aA zer61 fun g135 => ?_
         refine GL.aA zer61 fun g136 => ?_
         refine GL.sA (cs' := #[.slice A131 n131 c131, .bool m131, .slice A131_ n131_ c131_, .slice A132 n132 c132, .bool m132, .slice A132_ n132_ c132_]) (fun _ _ => Mem.st1) (fun _ hM => hM.b 1 rfl) siz61 ?_ (hall := by kernel_rfl) (hp := by kernel_rfl)
         refine GL.sA (cs' := #[.slice A133 n133 c133, .bool m133, .slice A133_ n133_ c133_, .slice A134 n134 c134, .bool m134, .slice A134_ n134_ c134_]) (fun _ _ => Mem.st0) (fun _ hM => hM.b 0 rfl) siz61 ?_ (hall := by kernel_rfl) (hp := by kernel_rfl)
         refine GL.k k1 ?_
         refine CG.seq fun K_ k1 => ?_
         refine CG.lin 29 ?_
         refine GL.v (.int .i64 (to64 (-9223372036854775808))) ?_
         refine GL.v (.bool true) ?_ (hr := fun u => op_b (b := ((to64 (-9223372036854775808)) == ((-9223372036854775808) : Int))) (by kernel_rfl) (by decide +kernel))
         refine GL.v (.bool true) ?_
         refine GL.v (.bool true) ?_
         refine GL.v (.bool true) ?_
         refine GL.v (.bool true) ?_
         refine GL.v (.bool false) ?_
         refine GL.v (.bool true) ?_
         refine GL.v (.bool true) ?_
         refine GL.v (.bool true) ?_
         refine GL.r (.agg #[.slice A131 n131 c131, .bool m131, .slice A131_ n131_ c131_, .slice A132 n132 c132, .bool m132, .slice A132_ n132_ c132_]) (fun _ hM => op_load_agg (off := 0) (by kernel_rfl) agg61 siz61 (hM.b 1 rfl) rfl rfl) ?_
         refine GL.r (.agg #[.slice A133 n133 c133, .bool m133, .slice A133_ n133_ c133_, .slice A134 n134 c134, .bool m134, .slice A134_ n134_ c134_]) (fun _ hM => op_load_agg (off := 0) (by kernel_rfl) agg61 siz61 (hM.b 0 rfl) rfl rfl) ?_
         refine GL.call (fun _ hM => Cross_ok hM.avlt (Vk.of (hM.f 3 rfl) (hM.f 2 rfl)) (Vk.of (hM.f 1 rfl) (hM.f 0 rfl)) (by first | assumption | (dsimp only; omega) | omega)) ?_
         rintro _ _ _ hM ⟨A137, n137, c137, m137, A137_, n137_, c137_, rfl, h137, hb⟩
         have hs137 := szR_cross (((1 : Int) : Rat)) (((4 : Int) : Rat)) (((2 : Int) : Rat)) (((3 : Int) : Rat))
         refine ⟨_, _, _, rfl, (hM.call hb).add h137, ?_⟩
         refine GL.call (fun _ hM => RText_ok hM.avlt (hM.f 0 rfl) (by first | assumption | (dsimp only; omega) | omega)) ?_
         rintro _ _ _ hM ⟨rfl, hb⟩
         have hl138 := decR_len ((((1 : Int) : Rat) * ((4 : Int) : Rat) - ((2 : Int) : Rat) * ((3 : Int) : Rat)))
         refine ⟨_, _, _, rfl, hM.call hb, ?_⟩
         refine GL.v (.bool true) ?_ (hr := fun u => op_b (b := (decide ((decR (((1 : Int) : Rat) * ((4 : Int) : Rat) - ((2 : Int) : Rat) * ((3 : Int) : Rat))) = [45, 50]))) ((fun u => op_seq (L := decR (((1 : Int) : Rat) * ((4 : Int) : Rat) - ((2 : Int) : Rat) * ((3 : Int) : Rat))) (K := [45, 50]) (by kernel_rfl) (by kernel_rfl)) u) (decide_eq_true ((decR_int (by decide +kernel) (decZ_neg (s := [50]) (by decide +kernel) (by decide +kernel) (by decide +kernel))))))
         refine GL.v (.bool true) ?_
         refine GL.v (.bool true) ?_
         refine GL.r (.agg #[.slice A131 n131 c131, .bool m131, .slice A131_ n131_ c131_, .slice A132 n132 c132, .bool m132, .slice A132_ n132_ c132_]) (fun _ hM => op_load_agg (off := 0) (by kernel_rfl) agg61 siz61 (hM.b 1 rfl) rfl rfl) ?_
         refine GL.r (.agg #[.slice A133 n133 c133, .bool m133, .slice A133_ n133_ c133_, .slice A134 n134 c134, .bool m134, .slice A134_ n134_ c134_]) (fun _ hM => op_load_agg (off := 0) (by kernel_rfl) agg61 siz61 (hM.b 0 rfl) rfl rfl) ?_
         refine GL.call (fun _ hM => Dot_ok hM.avlt (Vk.of (hM.f 4 rfl) (hM.f 3 rfl)) (Vk.of (hM.f 2 rfl) (hM.f 1 rfl)) (by first | assumption | (dsimp only; omega) | omega)) ?_
         rintro _ _ _ hM ⟨A139, n139, c139, m139, A139_, n139_, c139_, rfl, h139, hb⟩
         have hs139 := szR_dot (((1 : Int) : Rat)) (((3 : Int) : Rat)) (((2 : Int) : Rat)) (((4 : Int) : Rat))
         refine ⟨_, _, _, rfl, (hM.call hb).add h139, ?_⟩
         refine GL.call (fun _ hM => RText_ok hM.avlt (hM.f 0 rfl) (by first | assumption | (dsimp only; omega) | omega)) ?_
         rintro _ _ _ hM ⟨rfl, hb⟩
         have hl140 := decR_len ((((1 : Int) : Rat) * ((3 : Int) : Rat) + ((2 : Int) : Rat) * ((4 : Int) : Rat)))
         refine ⟨_, _, _, rfl, hM.call hb, ?_⟩
         refine GL.v (.bool true) ?_ (hr := fun u => op_b (b := (decide ((decR (((1 : Int) : Rat) * ((3 : Int) : Rat) + ((2 : Int) : Rat) * ((4 : Int) : Rat))) = [49, 49]))) ((fun u => op_seq (L := decR (((1 : Int) : Rat) * ((3 : Int) : Rat) + ((2 : Int) : Rat) * ((4 : Int) : Rat))) (K := [49, 49]) (by kernel_rfl) (by kernel_rfl)) u) (decide_eq_true ((decR_int (by decide +kernel) (decZ_pos (s := [49, 49]) (by decide +kernel) (by decide +kernel))))))
         refine GL.v (.bool true) ?_
         refine GL.v (.bool true) ?_
         refine GL.r (.agg #[.slice A131 n131 c131, .bool m131, .slice A131_ n131_ c131_, .slice A132 n132 c132, .bool m132, .slice A132_ n132_ c132_]) (fun _ hM => op_load_agg (off := 0) (by kernel_rfl) agg61 siz61 (hM.b 1 rfl) rfl rfl) ?_
         refine GL.call (fun _ hM => VText_ok hM.avlt (Vk.of (hM.f 5 rfl) (hM.f 4 rfl)) (by first | assumption | (dsimp only; omega) | omega) (by first | assumption | (dsimp only; omega) | omega)) ?_
         rintro _ _ _ hM ⟨rfl, hb⟩
         refine ⟨_, _, _, rfl, hM.call hb, ?_⟩
         refine GL.v (.bool true) ?_ (hr := fun u => op_b (b := (decide ((decV (((1 : Int) : Rat), ((2 : Int) : Rat))) = [40, 49, 44, 32, 50, 41]))) ((fun u => op_seq (L := decV (((1 : Int) : Rat), ((2 : Int) : Rat))) (K := [40, 49, 44, 32, 50, 41]) (by kernel_rfl) (by kernel_rfl)) u) (decide_eq_true ((decV_int (decR_int (by decide +kernel) (decZ_pos (s := [49]) (by decide +kernel) (by decide +kernel))) (decR_int (by decide +kernel) (decZ_pos (s := [50]) (by decide +kernel) (by decide +kernel)))))))
         refine GL.v (.bool true) ?_
         refine GL.v (.bool true) ?_
         refine GL.k k1 ?_
         refine CG.ret (QG.ret (fun _ hM => results_one rfl (res_tmp rfl)) ?_)
         intro _ hM
         exact ⟨rfl, hM.below⟩

end Go.Proofs.YtklnjhlidfclmaaDoor
