/- Contracts of the program's functions. -/
import Derived.Test.YtklnjhlidfclmaaGreatDoorC3
set_option linter.unusedVariables false
set_option linter.unusedSimpArgs false
namespace Go.Proofs.YtklnjhlidfclmaaGreatDoor
open Go.RowKit Cps
attribute [local go_sem] Oper.semAt_some

set_option maxRecDepth 100000 in
set_option maxHeartbeats 400000 in
theorem sums_ok {w : World} {X : Nat → Prop} (hX : ∀ k, X k → k < w.heap.size) (xN : Int) (xD : Int) (yN : Int) (yD : Int) (p1 : -9223372036854775808 ≤ xN ∧ xN ≤ 9223372036854775807) (p2 : -9223372036854775808 ≤ xD ∧ xD ≤ 9223372036854775807) (p3 : -9223372036854775808 ≤ yN ∧ yN ≤ 9223372036854775807) (p4 : -9223372036854775808 ≤ yD ∧ yD ≤ 9223372036854775807) :
    Calls Tryz.prog 8 #[.agg #[.int .i64 xN, .int .i64 xD], .agg #[.int .i64 yN, .int .i64 yD]] w (fun e w' => e = .returned (.bool true) ∧ Below w.heap.size w w') := by
 have hM := Mem.start hX
 refine calls_of hM Tryz.func8 Tryz.ntmps8 ?_
 refine CG.seq fun K_ k1 => ?_
 refine CG.lin 3 ?_
 refine GL.bA #[.int .i64 xN, .int .i64 xD] fun g21 => ?_
 refine GL.bA #[.int .i64 yN, .int .i64 yD] fun g22 => ?_
 refine GL.v (.bool false) ?_
 refine GL.k k1 ?_
 refine CG.seq fun K_ k1 => ?_
 refine CG.lin 9 ?_
 refine GL.r (.agg #[.int .i64 xN, .int .i64 xD]) (fun _ hM => op_load_agg (off := 0) (by kernel_rfl) agg60 siz60 (hM.b 1 rfl) rfl rfl) ?_
 refine GL.call (fun _ hM => Both_ok hM.avlt xN xD (by first | assumption | omega) (by first | assumption | omega)) ?_
 rintro _ _ _ hM ⟨A23a, n23a, c23a, m23a, A23a_, n23a_, c23a_, s23b, A23b, n23b, c23b, s23b_, A23b_, n23b_, c23b_, rfl, h23a, h23b, hb⟩
 have hz23 := numv_sz xN xD (by assumption) (by assumption)
 refine ⟨_, _, _, rfl, ((hM.call hb).add h23a).add h23b, ?_⟩
 refine GL.v (.tuple #[.agg #[.slice A23a n23a c23a, .bool m23a, .slice A23a_ n23a_ c23a_], .agg #[.int .i64 s23b, .slice A23b n23b c23b, .int .i64 s23b_, .slice A23b_ n23b_ c23b_]]) ?_
 refine GL.v (.agg #[.slice A23a n23a c23a, .bool m23a, .slice A23a_ n23a_ c23a_]) ?_
 refine GL.v (.agg #[.int .i64 s23b, .slice A23b n23b c23b, .int .i64 s23b_, .slice A23b_ n23b_ c23b_]) ?_
 refine GL.aA zer48 fun g24 => ?_
 refine GL.aA zer54 fun g25 => ?_
 refine GL.sA (cs' := #[.slice A23a n23a c23a, .bool m23a, .slice A23a_ n23a_ c23a_]) (fun _ _ => Mem.st1) (fun _ hM => hM.b 1 rfl) siz48 ?_
 refine GL.sA (cs' := #[.int .i64 s23b, .slice A23b n23b c23b, .int .i64 s23b_, .slice A23b_ n23b_ c23b_]) (fun _ _ => Mem.st0) (fun _ hM => hM.b 0 rfl) siz54 ?_
 refine GL.k k1 ?_
 refine CG.seq fun K_ k1 => ?_
 refine CG.lin 9 ?_
 refine GL.r (.agg #[.int .i64 yN, .int .i64 yD]) (fun _ hM => op_load_agg (off := 0) (by kernel_rfl) agg60 siz60 (hM.b 2 rfl) rfl rfl) ?_
 refine GL.call (fun _ hM => Both_ok hM.avlt yN yD (by first | assumption | omega) (by first | assumption | omega)) ?_
 rintro _ _ _ hM ⟨A26a, n26a, c26a, m26a, A26a_, n26a_, c26a_, s26b, A26b, n26b, c26b, s26b_, A26b_, n26b_, c26b_, rfl, h26a, h26b, hb⟩
 have hz26 := numv_sz yN yD (by assumption) (by assumption)
 refine ⟨_, _, _, rfl, ((hM.call hb).add h26a).add h26b, ?_⟩
 refine GL.v (.tuple #[.agg #[.slice A26a n26a c26a, .bool m26a, .slice A26a_ n26a_ c26a_], .agg #[.int .i64 s26b, .slice A26b n26b c26b, .int .i64 s26b_, .slice A26b_ n26b_ c26b_]]) ?_
 refine GL.v (.agg #[.slice A26a n26a c26a, .bool m26a, .slice A26a_ n26a_ c26a_]) ?_
 refine GL.v (.agg #[.int .i64 s26b, .slice A26b n26b c26b, .int .i64 s26b_, .slice A26b_ n26b_ c26b_]) ?_
 refine GL.aA zer48 fun g27 => ?_
 refine GL.aA zer54 fun g28 => ?_
 refine GL.sA (cs' := #[.slice A26a n26a c26a, .bool m26a, .slice A26a_ n26a_ c26a_]) (fun _ _ => Mem.st1) (fun _ hM => hM.b 1 rfl) siz48 ?_
 refine GL.sA (cs' := #[.int .i64 s26b, .slice A26b n26b c26b, .int .i64 s26b_, .slice A26b_ n26b_ c26b_]) (fun _ _ => Mem.st0) (fun _ hM => hM.b 0 rfl) siz54 ?_
 refine GL.k k1 ?_
 refine CG.seq fun K_ k1 => ?_
 by_cases hc29 : numv yN yD = 0
 · have hk29 : (decide (numv yN yD = 0)) = true := decide_eq_true hc29
   refine CG.lin 9 ?_
   refine GL.r (.agg #[.slice A23a n23a c23a, .bool m23a, .slice A23a_ n23a_ c23a_]) (fun _ hM => op_load_agg (off := 0) (by kernel_rfl) agg48 siz48 (hM.b 3 rfl) rfl rfl) ?_
   refine GL.r (.agg #[.slice A26a n26a c26a, .bool m26a, .slice A26a_ n26a_ c26a_]) (fun _ hM => op_load_agg (off := 0) (by kernel_rfl) agg48 siz48 (hM.b 1 rfl) rfl rfl) ?_
   refine GL.call (fun _ hM => RDiv_zero hM.avlt (hM.f 3 rfl) (hM.f 1 rfl) (of_decide_eq_true hk29) (by first | assumption | omega)) ?_
   rintro _ _ _ hM ⟨A30a, n30a, c30a, m30a, A30a_, n30a_, c30a_, rfl, h30a, hb⟩
   refine ⟨_, _, _, rfl, (hM.call hb).add h30a, ?_⟩
   refine GL.v (.tuple #[.agg #[.slice A30a n30a c30a, .bool m30a, .slice A30a_ n30a_ c30a_], .int .i64 9]) ?_
   refine GL.v (.agg #[.slice A30a n30a c30a, .bool m30a, .slice A30a_ n30a_ c30a_]) ?_
   refine GL.v (.int .i64 9) ?_
   refine GL.aA zer48 fun g31 => ?_
   refine GL.sA (cs' := #[.slice A30a n30a c30a, .bool m30a, .slice A30a_ n30a_ c30a_]) (fun _ _ => Mem.st0) (fun _ hM => hM.b 0 rfl) siz48 ?_
   refine GL.v (.int .i64 9) ?_
   refine GL.k k1 ?_
   refine CG.seq fun K_ k1 => ?_
   refine CG.seq fun K_ k2 => ?_
   refine CG.lin 3 ?_
   refine GL.r (.agg #[.int .i64 s26b, .slice A26b n26b c26b, .int .i64 s26b_, .slice A26b_ n26b_ c26b_]) (fun _ hM => op_load_agg (off := 0) (by kernel_rfl) agg54 siz54 (hM.b 1 rfl) rfl rfl) ?_
   refine GL.call (fun _ hM => NSign_ok hM.avlt (hM.f 1 rfl)) ?_
   rintro _ _ _ hM ⟨rfl, hb⟩
   refine ⟨_, _, _, rfl, hM.call hb, ?_⟩
   refine GL.v (.bool true) ?_ (hr := fun u => op_b (b := (((numv yN yD).num.sign) == (0 : Int))) (by kernel_rfl) (rsg_eq (of_decide_eq_true hk29)))
   refine GL.k k2 ?_
   refine CG.yes ?_ rfl rfl
   refine CG.seq fun K_ k2 => ?_
   refine CG.lin 7 ?_
   refine GL.v (.int .i64 9) ?_
   refine GL.v (.bool false) ?_
   refine GL.v (.bool false) ?_
   refine GL.r (.agg #[.slice A30a n30a c30a, .bool m30a, .slice A30a_ n30a_ c30a_]) (fun _ hM => op_load_agg (off := 0) (by kernel_rfl) agg48 siz48 (hM.b 0 rfl) rfl rfl) ?_
   refine GL.call (fun _ hM => RSign_ok hM.avlt (hM.f 0 rfl)) ?_
   rintro _ _ _ hM ⟨rfl, hb⟩
   refine ⟨_, _, _, rfl, hM.call hb, ?_⟩
   refine GL.v (.bool false) ?_ (hr := fun u => op_b (b := (((0 : Rat).num.sign) != (0 : Int))) (by kernel_rfl) rfl)
   refine GL.v (.bool false) ?_
   refine GL.k k2 ?_
   refine CG.no ?_ rfl rfl
   refine CG.skip ?_
   refine QG.k k1 ?_
   refine CG.seq fun K_ k1 => ?_
   refine CG.draw [] [0, 1, 3, 4, 7, 8, 9, 11, 12, 15, 16, 17, 18, 20, 21, 24, 25, 26, 28, 31, 32, 33, 35, 38, 39, 40, 42, 44, 45, 46, 47, 48, 50, 51, 53, 54, 55, 57] (.step 0 (.step 1 (.step 3 (.step 4 (.step 2 (.step 5 (.step 6 (.step 7 (.step 8 (.step 9 (.step 11 (.step 12 (.step 10 (.step 13 (.step 14 (.step 15 (.step 16 (.step 17 (.step 18 (.step 20 (.step 21 (.step 19 (.step 22 (.step 23 (.step 24 (.step 25 (.step 26 (.step 28 (.step 27 (.step 29 (.step 30 (.step 31 (.step 32 (.step 33 (.step 35 (.step 34 (.step 36 (.step 37 (.step 38 (.step 39 (.step 40 (.step 42 (.step 41 (.step 43 (.step 44 (.step 45 (.step 46 (.step 47 (.step 48 (.step 50 (.step 51 (.step 49 (.step 52 (.step 53 (.step 54 (.step 55 (.step 56 (.step 57 (.step 58 .done))))))))))))))))))))))))))))))))))))))))))))))))))))))))))) (fun V hV34 => ?_)
   refine GD.er (.agg #[.slice A23a n23a c23a, .bool m23a, .slice A23a_ n23a_ c23a_]) (fun _ hS => op_load_agg (off := 0) (by kernel_rfl) agg48 siz48 (hV34.bS 4 rfl hS) rfl rfl) ?_
   refine GD.er (.agg #[.slice A26a n26a c26a, .bool m26a, .slice A26a_ n26a_ c26a_]) (fun _ hS => op_load_agg (off := 0) (by kernel_rfl) agg48 siz48 (hV34.bS 2 rfl hS) rfl rfl) ?_
   refine GD.er (.agg #[.int .i64 s23b, .slice A23b n23b c23b, .int .i64 s23b_, .slice A23b_ n23b_ c23b_]) (fun _ hS => op_load_agg (off := 0) (by kernel_rfl) agg54 siz54 (hV34.bS 3 rfl hS) rfl rfl) ?_
   refine GD.er (.agg #[.int .i64 s26b, .slice A26b n26b c26b, .int .i64 s26b_, .slice A26b_ n26b_ c26b_]) (fun _ hS => op_load_agg (off := 0) (by kernel_rfl) agg54 siz54 (hV34.bS 1 rfl hS) rfl rfl) ?_
   refine GD.call (fun _ hM => RAdd_ok hM.avlt (hM.f 4 rfl) (hM.f 2 rfl) (by first | assumption | omega)) ?_
   rintro _ _ _ hM ⟨A35, n35, c35, m35, A35_, n35_, c35_, rfl, h35, hb⟩
   have hs35 := szR_add (numv xN xD) (numv yN yD)
   refine ⟨_, _, _, rfl, hb, (hM.call hb).add h35, ?_⟩
   refine GD.call (fun _ hM => NAdd_ok hM.avlt (hM.f 4 rfl) (hM.f 2 rfl) (by first | assumption | omega)) ?_
   rintro _ _ _ hM ⟨s36, A36, n36, c36, s36_, A36_, n36_, c36_, rfl, h36, hb⟩
   have hs36 := szgR_add (numv xN xD) (numv yN yD)
   refine ⟨_, _, _, rfl, hb, (hM.call hb).add h36, ?_⟩
   refine GD.call (fun _ hM => Same_ok hM.avlt (hM.f 1 rfl) (hM.f 0 rfl) (by first | assumption | omega) (by first | assumption | omega)) ?_
   rintro _ _ _ hM ⟨rfl, hb⟩
   refine ⟨.bool true, _, _, (ret_bool (decide_eq_true rfl)), hb, hM.call hb, ?_⟩
   refine GD.ev (.bool true) ?_
   refine GD.er (.agg #[.slice A23a n23a c23a, .bool m23a, .slice A23a_ n23a_ c23a_]) (fun _ hS => op_load_agg (off := 0) (by kernel_rfl) agg48 siz48 (hV34.bS 4 rfl hS) rfl rfl) ?_
   refine GD.er (.agg #[.slice A26a n26a c26a, .bool m26a, .slice A26a_ n26a_ c26a_]) (fun _ hS => op_load_agg (off := 0) (by kernel_rfl) agg48 siz48 (hV34.bS 2 rfl hS) rfl rfl) ?_
   refine GD.er (.agg #[.int .i64 s23b, .slice A23b n23b c23b, .int .i64 s23b_, .slice A23b_ n23b_ c23b_]) (fun _ hS => op_load_agg (off := 0) (by kernel_rfl) agg54 siz54 (hV34.bS 3 rfl hS) rfl rfl) ?_
   refine GD.er (.agg #[.int .i64 s26b, .slice A26b n26b c26b, .int .i64 s26b_, .slice A26b_ n26b_ c26b_]) (fun _ hS => op_load_agg (off := 0) (by kernel_rfl) agg54 siz54 (hV34.bS 1 rfl hS) rfl rfl) ?_
   refine GD.call (fun _ hM => RSub_ok hM.avlt (hM.f 6 rfl) (hM.f 4 rfl) (by first | assumption | omega)) ?_
   rintro _ _ _ hM ⟨A38, n38, c38, m38, A38_, n38_, c38_, rfl, h38, hb⟩
   have hs38 := szR_sub (numv xN xD) (numv yN yD)
   refine ⟨_, _, _, rfl, hb, (hM.call hb).add h38, ?_⟩
   refine GD.call (fun _ hM => NSub_ok hM.avlt (hM.f 6 rfl) (hM.f 4 rfl) (by first | assumption | omega)) ?_
   rintro _ _ _ hM ⟨s39, A39, n39, c39, s39_, A39_, n39_, c39_, rfl, h39, hb⟩
   have hs39 := szgR_sub (numv xN xD) (numv yN yD)
   refine ⟨_, _, _, rfl, hb, (hM.call hb).add h39, ?_⟩
   refine GD.call (fun _ hM => Same_ok hM.avlt (hM.f 1 rfl) (hM.f 0 rfl) (by first | assumption | omega) (by first | assumption | omega)) ?_
   rintro _ _ _ hM ⟨rfl, hb⟩
   refine ⟨.bool true, _, _, (ret_bool (decide_eq_true rfl)), hb, hM.call hb, ?_⟩
   refine GD.ev (.bool true) ?_
   refine GD.ev (.bool true) ?_
   refine GD.er (.agg #[.slice A23a n23a c23a, .bool m23a, .slice A23a_ n23a_ c23a_]) (fun _ hS => op_load_agg (off := 0) (by kernel_rfl) agg48 siz48 (hV34.bS 4 rfl hS) rfl rfl) ?_
   refine GD.er (.agg #[.slice A26a n26a c26a, .bool m26a, .slice A26a_ n26a_ c26a_]) (fun _ hS => op_load_agg (off := 0) (by kernel_rfl) agg48 siz48 (hV34.bS 2 rfl hS) rfl rfl) ?_
   refine GD.er (.agg #[.int .i64 s23b, .slice A23b n23b c23b, .int .i64 s23b_, .slice A23b_ n23b_ c23b_]) (fun _ hS => op_load_agg (off := 0) (by kernel_rfl) agg54 siz54 (hV34.bS 3 rfl hS) rfl rfl) ?_
   refine GD.er (.agg #[.int .i64 s26b, .slice A26b n26b c26b, .int .i64 s26b_, .slice A26b_ n26b_ c26b_]) (fun _ hS => op_load_agg (off := 0) (by kernel_rfl) agg54 siz54 (hV34.bS 1 rfl hS) rfl rfl) ?_
   refine GD.call (fun _ hM => RMul_ok hM.avlt (hM.f 8 rfl) (hM.f 6 rfl) (by first | assumption | omega)) ?_
   rintro _ _ _ hM ⟨A41, n41, c41, m41, A41_, n41_, c41_, rfl, h41, hb⟩
   have hs41 := szR_mul (numv xN xD) (numv yN yD)
   refine ⟨_, _, _, rfl, hb, (hM.call hb).add h41, ?_⟩
   refine GD.call (fun _ hM => NMul_ok hM.avlt (hM.f 8 rfl) (hM.f 6 rfl) (by first | assumption | omega)) ?_
   rintro _ _ _ hM ⟨s42, A42, n42, c42, s42_, A42_, n42_, c42_, rfl, h42, hb⟩
   have hs42 := szgR_mul (numv xN xD) (numv yN yD)
   refine ⟨_, _, _, rfl, hb, (hM.call hb).add h42, ?_⟩
   refine GD.call (fun _ hM => Same_ok hM.avlt (hM.f 1 rfl) (hM.f 0 rfl) (by first | assumption | omega) (by first | assumption | omega)) ?_
   rintro _ _ _ hM ⟨rfl, hb⟩
   refine ⟨.bool true, _, _, (ret_bool (decide_eq_true rfl)), hb, hM.call hb, ?_⟩
   refine GD.ev (.bool true) ?_
   refine GD.ev (.bool true) ?_
   refine GD.er (.agg #[.slice A23a n23a c23a, .bool m23a, .slice A23a_ n23a_ c23a_]) (fun _ hS => op_load_agg (off := 0) (by kernel_rfl) agg48 siz48 (hV34.bS 4 rfl hS) rfl rfl) ?_
   refine GD.er (.agg #[.int .i64 s23b, .slice A23b n23b c23b, .int .i64 s23b_, .slice A23b_ n23b_ c23b_]) (fun _ hS => op_load_agg (off := 0) (by kernel_rfl) agg54 siz54 (hV34.bS 3 rfl hS) rfl rfl) ?_
   refine GD.call (fun _ hM => RNeg_ok hM.avlt (hM.f 10 rfl)) ?_
   rintro _ _ _ hM ⟨A44, n44, c44, m44, A44_, n44_, c44_, rfl, h44, hb⟩
   have hs44 := szR_neg (numv xN xD)
   refine ⟨_, _, _, rfl, hb, (hM.call hb).add h44, ?_⟩
   refine GD.call (fun _ hM => NNeg_ok hM.avlt (hM.f 10 rfl)) ?_
   rintro _ _ _ hM ⟨s45, A45, n45, c45, s45_, A45_, n45_, c45_, rfl, h45, hb⟩
   have hs45 := szgR_neg (numv xN xD)
   refine ⟨_, _, _, rfl, hb, (hM.call hb).add h45, ?_⟩
   refine GD.call (fun _ hM => Same_ok hM.avlt (hM.f 1 rfl) (hM.f 0 rfl) (by first | assumption | omega) (by first | assumption | omega)) ?_
   rintro _ _ _ hM ⟨rfl, hb⟩
   refine ⟨.bool true, _, _, (ret_bool (decide_eq_true rfl)), hb, hM.call hb, ?_⟩
   refine GD.ev (.bool true) ?_
   refine GD.ev (.bool true) ?_
   refine GD.er (.agg #[.slice A23a n23a c23a, .bool m23a, .slice A23a_ n23a_ c23a_]) (fun _ hS => op_load_agg (off := 0) (by kernel_rfl) agg48 siz48 (hV34.bS 4 rfl hS) rfl rfl) ?_
   refine GD.er (.agg #[.int .i64 s23b, .slice A23b n23b c23b, .int .i64 s23b_, .slice A23b_ n23b_ c23b_]) (fun _ hS => op_load_agg (off := 0) (by kernel_rfl) agg54 siz54 (hV34.bS 3 rfl hS) rfl rfl) ?_
   refine GD.call (fun _ hM => RAbs_ok hM.avlt (hM.f 12 rfl)) ?_
   rintro _ _ _ hM ⟨A47, n47, c47, m47, A47_, n47_, c47_, rfl, h47, hb⟩
   have hs47 := szR_abs (numv xN xD)
   refine ⟨_, _, _, rfl, hb, (hM.call hb).add h47, ?_⟩
   refine GD.call (fun _ hM => NAbs_ok hM.avlt (hM.f 12 rfl)) ?_
   rintro _ _ _ hM ⟨s48, A48, n48, c48, s48_, A48_, n48_, c48_, rfl, h48, hb⟩
   have hs48 := szgR_abs (numv xN xD)
   refine ⟨_, _, _, rfl, hb, (hM.call hb).add h48, ?_⟩
   refine GD.call (fun _ hM => Same_ok hM.avlt (hM.f 1 rfl) (hM.f 0 rfl) (by first | assumption | omega) (by first | assumption | omega)) ?_
   rintro _ _ _ hM ⟨rfl, hb⟩
   refine ⟨.bool true, _, _, (ret_bool (decide_eq_true rfl)), hb, hM.call hb, ?_⟩
   refine GD.ev (.bool true) ?_
   refine GD.ev (.bool true) ?_
   refine GD.er (.agg #[.slice A23a n23a c23a, .bool m23a, .slice A23a_ n23a_ c23a_]) (fun _ hS => op_load_agg (off := 0) (by kernel_rfl) agg48 siz48 (hV34.bS 4 rfl hS) rfl rfl) ?_
   refine GD.er (.agg #[.int .i64 s23b, .slice A23b n23b c23b, .int .i64 s23b_, .slice A23b_ n23b_ c23b_]) (fun _ hS => op_load_agg (off := 0) (by kernel_rfl) agg54 siz54 (hV34.bS 3 rfl hS) rfl rfl) ?_
   refine GD.call (fun _ hM => RSign_ok hM.avlt (hM.f 14 rfl)) ?_
   rintro _ _ _ hM ⟨rfl, hb⟩
   refine ⟨_, _, _, rfl, hb, hM.call hb, ?_⟩
   refine GD.call (fun _ hM => NSign_ok hM.avlt (hM.f 13 rfl)) ?_
   rintro _ _ _ hM ⟨rfl, hb⟩
   refine ⟨_, _, _, rfl, hb, hM.call hb, ?_⟩
   refine GD.ev (.bool true) ?_ (hr := fun u => op_b (b := (((numv xN xD).num.sign) == ((numv xN xD).num.sign))) (by kernel_rfl) (beq_self_eq_true _))
   refine GD.ev (.bool true) ?_
   refine GD.ev (.bool true) ?_
   refine GD.er (.agg #[.slice A23a n23a c23a, .bool m23a, .slice A23a_ n23a_ c23a_]) (fun _ hS => op_load_agg (off := 0) (by kernel_rfl) agg48 siz48 (hV34.bS 4 rfl hS) rfl rfl) ?_
   refine GD.er (.agg #[.slice A26a n26a c26a, .bool m26a, .slice A26a_ n26a_ c26a_]) (fun _ hS => op_load_agg (off := 0) (by kernel_rfl) agg48 siz48 (hV34.bS 2 rfl hS) rfl rfl) ?_
   refine GD.er (.agg #[.int .i64 s23b, .slice A23b n23b c23b, .int .i64 s23b_, .slice A23b_ n23b_ c23b_]) (fun _ hS => op_load_agg (off := 0) (by kernel_rfl) agg54 siz54 (hV34.bS 3 rfl hS) rfl rfl) ?_
   refine GD.er (.agg #[.int .i64 s26b, .slice A26b n26b c26b, .int .i64 s26b_, .slice A26b_ n26b_ c26b_]) (fun _ hS => op_load_agg (off := 0) (by kernel_rfl) agg54 siz54 (hV34.bS 1 rfl hS) rfl rfl) ?_
   refine GD.call (fun _ hM => RCmp_ok hM.avlt (hM.f 14 rfl) (hM.f 12 rfl) (by first | assumption | omega)) ?_
   rintro _ _ _ hM ⟨rfl, hb⟩
   refine ⟨_, _, _, rfl, hb, hM.call hb, ?_⟩
   refine GD.call (fun _ hM => NCmp_ok hM.avlt (hM.f 13 rfl) (hM.f 11 rfl) (by first | assumption | omega)) ?_
   rintro _ _ _ hM ⟨rfl, hb⟩
   refine ⟨_, _, _, rfl, hb, hM.call hb, ?_⟩
   refine GD.ev (.bool true) ?_ (hr := fun u => op_b (b := ((((numv xN xD).num * ((numv yN yD).den : Int) - (numv yN yD).num * ((numv xN xD).den : Int)).sign) == (((numv xN xD).num * ((numv yN yD).den : Int) - (numv yN yD).num * ((numv xN xD).den : Int)).sign))) (by kernel_rfl) (beq_self_eq_true _))
   refine GD.ev (.bool true) ?_
   refine GD.ev (.bool true) ?_
   refine GD.call (fun _ hM => awake_ok hM.avlt) ?_
   rintro _ _ _ hM ⟨rfl, hb⟩
   refine ⟨_, _, _, rfl, hb, hM.call hb, ?_⟩
   refine GD.ev (.bool true) ?_
   refine GD.v (.bool true) ?_
   refine GD.k k1 ?_
   refine CG.ret (QG.ret (fun _ hM => results_one rfl (res_tmp rfl)) ?_)
   intro _ hM
   exact ⟨rfl, hM.below⟩
 · have hk29 : (decide (numv yN yD = 0)) = false := decide_eq_false hc29
   refine CG.lin 9 ?_
   refine GL.r (.agg #[.slice A23a n23a c23a, .bool m23a, .slice A23a_ n23a_ c23a_]) (fun _ hM => op_load_agg (off := 0) (by kernel_rfl) agg48 siz48 (hM.b 3 rfl) rfl rfl) ?_
   refine GL.r (.agg #[.slice A26a n26a c26a, .bool m26a, .slice A26a_ n26a_ c26a_]) (fun _ hM => op_load_agg (off := 0) (by kernel_rfl) agg48 siz48 (hM.b 1 rfl) rfl rfl) ?_
   refine GL.call (fun _ hM => RDiv_ok hM.avlt (hM.f 3 rfl) (hM.f 1 rfl) (of_decide_eq_false hk29) (by first | assumption | omega)) ?_
   rintro _ _ _ hM ⟨A55a, n55a, c55a, m55a, A55a_, n55a_, c55a_, rfl, h55a, hb⟩
   have hs55 := szR_div (numv xN xD) (numv yN yD) (by assumption)
   refine ⟨_, _, _, rfl, (hM.call hb).add h55a, ?_⟩
   refine GL.v (.tuple #[.agg #[.slice A55a n55a c55a, .bool m55a, .slice A55a_ n55a_ c55a_], .int .i64 0]) ?_
   refine GL.v (.agg #[.slice A55a n55a c55a, .bool m55a, .slice A55a_ n55a_ c55a_]) ?_
   refine GL.v (.int .i64 0) ?_
   refine GL.aA zer48 fun g56 => ?_
   refine GL.sA (cs' := #[.slice A55a n55a c55a, .bool m55a, .slice A55a_ n55a_ c55a_]) (fun _ _ => Mem.st0) (fun _ hM => hM.b 0 rfl) siz48 ?_
   refine GL.v (.int .i64 0) ?_
   refine GL.k k1 ?_
   refine CG.seq fun K_ k1 => ?_
   refine CG.seq fun K_ k2 => ?_
   refine CG.lin 3 ?_
   refine GL.r (.agg #[.int .i64 s26b, .slice A26b n26b c26b, .int .i64 s26b_, .slice A26b_ n26b_ c26b_]) (fun _ hM => op_load_agg (off := 0) (by kernel_rfl) agg54 siz54 (hM.b 1 rfl) rfl rfl) ?_
   refine GL.call (fun _ hM => NSign_ok hM.avlt (hM.f 1 rfl)) ?_
   rintro _ _ _ hM ⟨rfl, hb⟩
   refine ⟨_, _, _, rfl, hM.call hb, ?_⟩
   refine GL.v (.bool false) ?_ (hr := fun u => op_b (b := (((numv yN yD).num.sign) == (0 : Int))) (by kernel_rfl) (rsg_neq (of_decide_eq_false hk29)))
   refine GL.k k2 ?_
   refine CG.no ?_ rfl rfl
   refine CG.seq fun K_ k2 => ?_
   refine CG.draw [] [0, 1, 2, 3, 4, 5, 8, 9] (.step 0 (.step 1 (.step 2 (.step 3 (.step 4 (.step 5 (.step 6 (.step 7 (.step 8 (.step 9 .done)))))))))) (fun V hV58 => ?_)
   refine GD.ev (.int .i64 0) ?_
   refine GD.ev (.bool false) ?_
   refine GD.ev (.bool false) ?_
   refine GD.er (.agg #[.slice A55a n55a c55a, .bool m55a, .slice A55a_ n55a_ c55a_]) (fun _ hS => op_load_agg (off := 0) (by kernel_rfl) agg48 siz48 (hV58.bS 0 rfl hS) rfl rfl) ?_
   refine GD.er (.agg #[.int .i64 s23b, .slice A23b n23b c23b, .int .i64 s23b_, .slice A23b_ n23b_ c23b_]) (fun _ hS => op_load_agg (off := 0) (by kernel_rfl) agg54 siz54 (hV58.bS 3 rfl hS) rfl rfl) ?_
   refine GD.er (.agg #[.int .i64 s26b, .slice A26b n26b c26b, .int .i64 s26b_, .slice A26b_ n26b_ c26b_]) (fun _ hS => op_load_agg (off := 0) (by kernel_rfl) agg54 siz54 (hV58.bS 1 rfl hS) rfl rfl) ?_
   refine GD.call (fun _ hM => NDiv_ok hM.avlt (hM.f 3 rfl) (hM.f 1 rfl) (of_decide_eq_false hk29) (by first | assumption | omega)) ?_
   rintro _ _ _ hM ⟨s59, A59, n59, c59, s59_, A59_, n59_, c59_, rfl, h59, hb⟩
   have hs59 := szgR_div (numv xN xD) (numv yN yD) (by assumption)
   refine ⟨_, _, _, rfl, hb, (hM.call hb).add h59, ?_⟩
   refine GD.call (fun _ hM => Same_ok hM.avlt (hM.f 1 rfl) (hM.f 0 rfl) (by first | assumption | omega) (by first | assumption | omega)) ?_
   rintro _ _ _ hM ⟨rfl, hb⟩
   refine ⟨.bool true, _, _, (ret_bool (decide_eq_true rfl)), hb, hM.call hb, ?_⟩
   refine GD.ev (.bool false) ?_
   refine GD.ev (.bool false) ?_
   refine GD.k k2 ?_
   refine CG.no ?_ rfl rfl
   refine CG.skip ?_
   refine QG.k k1 ?_
   refine CG.seq fun K_ k1 => ?_
   refine CG.draw [] [0, 1, 3, 4, 7, 8, 9, 11, 12, 15, 16, 17, 18, 20, 21, 24, 25, 26, 28, 31, 32, 33, 35, 38, 39, 40, 42, 44, 45, 46, 47, 48, 50, 51, 53, 54, 55, 57] (.step 0 (.step 1 (.step 3 (.step 4 (.step 2 (.step 5 (.step 6 (.step 7 (.step 8 (.step 9 (.step 11 (.step 12 (.step 10 (.step 13 (.step 14 (.step 15 (.step 16 (.step 17 (.step 18 (.step 20 (.step 21 (.step 19 (.step 22 (.step 23 (.step 24 (.step 25 (.step 26 (.step 28 (.step 27 (.step 29 (.step 30 (.step 31 (.step 32 (.step 33 (.step 35 (.step 34 (.step 36 (.step 37 (.step 38 (.step 39 (.step 40 (.step 42 (.step 41 (.step 43 (.step 44 (.step 45 (.step 46 (.step 47 (.step 48 (.step 50 (.step 51 (.step 49 (.step 52 (.step 53 (.step 54 (.step 55 (.step 56 (.step 57 (.step 58 .done))))))))))))))))))))))))))))))))))))))))))))))))))))))))))) (fun V hV61 => ?_)
   refine GD.er (.agg #[.slice A23a n23a c23a, .bool m23a, .slice A23a_ n23a_ c23a_]) (fun _ hS => op_load_agg (off := 0) (by kernel_rfl) agg48 siz48 (hV61.bS 4 rfl hS) rfl rfl) ?_
   refine GD.er (.agg #[.slice A26a n26a c26a, .bool m26a, .slice A26a_ n26a_ c26a_]) (fun _ hS => op_load_agg (off := 0) (by kernel_rfl) agg48 siz48 (hV61.bS 2 rfl hS) rfl rfl) ?_
   refine GD.er (.agg #[.int .i64 s23b, .slice A23b n23b c23b, .int .i64 s23b_, .slice A23b_ n23b_ c23b_]) (fun _ hS => op_load_agg (off := 0) (by kernel_rfl) agg54 siz54 (hV61.bS 3 rfl hS) rfl rfl) ?_
   refine GD.er (.agg #[.int .i64 s26b, .slice A26b n26b c26b, .int .i64 s26b_, .slice A26b_ n26b_ c26b_]) (fun _ hS => op_load_agg (off := 0) (by kernel_rfl) agg54 siz54 (hV61.bS 1 rfl hS) rfl rfl) ?_
   refine GD.call (fun _ hM => RAdd_ok hM.avlt (hM.f 5 rfl) (hM.f 3 rfl) (by first | assumption | omega)) ?_
   rintro _ _ _ hM ⟨A62, n62, c62, m62, A62_, n62_, c62_, rfl, h62, hb⟩
   have hs62 := szR_add (numv xN xD) (numv yN yD)
   refine ⟨_, _, _, rfl, hb, (hM.call hb).add h62, ?_⟩
   refine GD.call (fun _ hM => NAdd_ok hM.avlt (hM.f 5 rfl) (hM.f 3 rfl) (by first | assumption | omega)) ?_
   rintro _ _ _ hM ⟨s63, A63, n63, c63, s63_, A63_, n63_, c63_, rfl, h63, hb⟩
   have hs63 := szgR_add (numv xN xD) (numv yN yD)
   refine ⟨_, _, _, rfl, hb, (hM.call hb).add h63, ?_⟩
   refine GD.call (fun _ hM => Same_ok hM.avlt (hM.f 1 rfl) (hM.f 0 rfl) (by first | assumption | omega) (by first | assumption | omega)) ?_
   rintro _ _ _ hM ⟨rfl, hb⟩
   refine ⟨.bool true, _, _, (ret_bool (decide_eq_true rfl)), hb, hM.call hb, ?_⟩
   refine GD.ev (.bool true) ?_
   refine GD.er (.agg #[.slice A23a n23a c23a, .bool m23a, .slice A23a_ n23a_ c23a_]) (fun _ hS => op_load_agg (off := 0) (by kernel_rfl) agg48 siz48 (hV61.bS 4 rfl hS) rfl rfl) ?_
   refine GD.er (.agg #[.slice A26a n26a c26a, .bool m26a, .slice A26a_ n26a_ c26a_]) (fun _ hS => op_load_agg (off := 0) (by kernel_rfl) agg48 siz48 (hV61.bS 2 rfl hS) rfl rfl) ?_
   refine GD.er (.agg #[.int .i64 s23b, .slice A23b n23b c23b, .int .i64 s23b_, .slice A23b_ n23b_ c23b_]) (fun _ hS => op_load_agg (off := 0) (by kernel_rfl) agg54 siz54 (hV61.bS 3 rfl hS) rfl rfl) ?_
   refine GD.er (.agg #[.int .i64 s26b, .slice A26b n26b c26b, .int .i64 s26b_, .slice A26b_ n26b_ c26b_]) (fun _ hS => op_load_agg (off := 0) (by kernel_rfl) agg54 siz54 (hV61.bS 1 rfl hS) rfl rfl) ?_
   refine GD.call (fun _ hM => RSub_ok hM.avlt (hM.f 7 rfl) (hM.f 5 rfl) (by first | assumption | omega)) ?_
   rintro _ _ _ hM ⟨A65, n65, c65, m65, A65_, n65_, c65_, rfl, h65, hb⟩
   have hs65 := szR_sub (numv xN xD) (numv yN yD)
   refine ⟨_, _, _, rfl, hb, (hM.call hb).add h65, ?_⟩
   refine GD.call (fun _ hM => NSub_ok hM.avlt (hM.f 7 rfl) (hM.f 5 rfl) (by first | assumption | omega)) ?_
   rintro _ _ _ hM ⟨s66, A66, n66, c66, s66_, A66_, n66_, c66_, rfl, h66, hb⟩
   have hs66 := szgR_sub (numv xN xD) (numv yN yD)
   refine ⟨_, _, _, rfl, hb, (hM.call hb).add h66, ?_⟩
   refine GD.call (fun _ hM => Same_ok hM.avlt (hM.f 1 rfl) (hM.f 0 rfl) (by first | assumption | omega) (by first | assumption | omega)) ?_
   rintro _ _ _ hM ⟨rfl, hb⟩
   refine ⟨.bool true, _, _, (ret_bool (decide_eq_true rfl)), hb, hM.call hb, ?_⟩
   refine GD.ev (.bool true) ?_
   refine GD.ev (.bool true) ?_
   refine GD.er (.agg #[.slice A23a n23a c23a, .bool m23a, .slice A23a_ n23a_ c23a_]) (fun _ hS => op_load_agg (off := 0) (by kernel_rfl) agg48 siz48 (hV61.bS 4 rfl hS) rfl rfl) ?_
   refine GD.er (.agg #[.slice A26a n26a c26a, .bool m26a, .slice A26a_ n26a_ c26a_]) (fun _ hS => op_load_agg (off := 0) (by kernel_rfl) agg48 siz48 (hV61.bS 2 rfl hS) rfl rfl) ?_
   refine GD.er (.agg #[.int .i64 s23b, .slice A23b n23b c23b, .int .i64 s23b_, .slice A23b_ n23b_ c23b_]) (fun _ hS => op_load_agg (off := 0) (by kernel_rfl) agg54 siz54 (hV61.bS 3 rfl hS) rfl rfl) ?_
   refine GD.er (.agg #[.int .i64 s26b, .slice A26b n26b c26b, .int .i64 s26b_, .slice A26b_ n26b_ c26b_]) (fun _ hS => op_load_agg (off := 0) (by kernel_rfl) agg54 siz54 (hV61.bS 1 rfl hS) rfl rfl) ?_
   refine GD.call (fun _ hM => RMul_ok hM.avlt (hM.f 9 rfl) (hM.f 7 rfl) (by first | assumption | omega)) ?_
   rintro _ _ _ hM ⟨A68, n68, c68, m68, A68_, n68_, c68_, rfl, h68, hb⟩
   have hs68 := szR_mul (numv xN xD) (numv yN yD)
   refine ⟨_, _, _, rfl, hb, (hM.call hb).add h68, ?_⟩
   refine GD.call (fun _ hM => NMul_ok hM.avlt (hM.f 9 rfl) (hM.f 7 rfl) (by first | assumption | omega)) ?_
   rintro _ _ _ hM ⟨s69, A69, n69, c69, s69_, A69_, n69_, c69_, rfl, h69, hb⟩
   have hs69 := szgR_mul (numv xN xD) (numv yN yD)
   refine ⟨_, _, _, rfl, hb, (hM.call hb).add h69, ?_⟩
   refine GD.call (fun _ hM => Same_ok hM.avlt (hM.f 1 rfl) (hM.f 0 rfl) (by first | assumption | omega) (by first | assumption | omega)) ?_
   rintro _ _ _ hM ⟨rfl, hb⟩
   refine ⟨.bool true, _, _, (ret_bool (decide_eq_true rfl)), hb, hM.call hb, ?_⟩
   refine GD.ev (.bool true) ?_
   refine GD.ev (.bool true) ?_
   refine GD.er (.agg #[.slice A23a n23a c23a, .bool m23a, .slice A23a_ n23a_ c23a_]) (fun _ hS => op_load_agg (off := 0) (by kernel_rfl) agg48 siz48 (hV61.bS 4 rfl hS) rfl rfl) ?_
   refine GD.er (.agg #[.int .i64 s23b, .slice A23b n23b c23b, .int .i64 s23b_, .slice A23b_ n23b_ c23b_]) (fun _ hS => op_load_agg (off := 0) (by kernel_rfl) agg54 siz54 (hV61.bS 3 rfl hS) rfl rfl) ?_
   refine GD.call (fun _ hM => RNeg_ok hM.avlt (hM.f 11 rfl)) ?_
   rintro _ _ _ hM ⟨A71, n71, c71, m71, A71_, n71_, c71_, rfl, h71, hb⟩
   have hs71 := szR_neg (numv xN xD)
   refine ⟨_, _, _, rfl, hb, (hM.call hb).add h71, ?_⟩
   refine GD.call (fun _ hM => NNeg_ok hM.avlt (hM.f 11 rfl)) ?_
   rintro _ _ _ hM ⟨s72, A72, n72, c72, s72_, A72_, n72_, c72_, rfl, h72, hb⟩
   have hs72 := szgR_neg (numv xN xD)
   refine ⟨_, _, _, rfl, hb, (hM.call hb).add h72, ?_⟩
   refine GD.call (fun _ hM => Same_ok hM.avlt (hM.f 1 rfl) (hM.f 0 rfl) (by first | assumption | omega) (by first | assumption | omega)) ?_
   rintro _ _ _ hM ⟨rfl, hb⟩
   refine ⟨.bool true, _, _, (ret_bool (decide_eq_true rfl)), hb, hM.call hb, ?_⟩
   refine GD.ev (.bool true) ?_
   refine GD.ev (.bool true) ?_
   refine GD.er (.agg #[.slice A23a n23a c23a, .bool m23a, .slice A23a_ n23a_ c23a_]) (fun _ hS => op_load_agg (off := 0) (by kernel_rfl) agg48 siz48 (hV61.bS 4 rfl hS) rfl rfl) ?_
   refine GD.er (.agg #[.int .i64 s23b, .slice A23b n23b c23b, .int .i64 s23b_, .slice A23b_ n23b_ c23b_]) (fun _ hS => op_load_agg (off := 0) (by kernel_rfl) agg54 siz54 (hV61.bS 3 rfl hS) rfl rfl) ?_
   refine GD.call (fun _ hM => RAbs_ok hM.avlt (hM.f 13 rfl)) ?_
   rintro _ _ _ hM ⟨A74, n74, c74, m74, A74_, n74_, c74_, rfl, h74, hb⟩
   have hs74 := szR_abs (numv xN xD)
   refine ⟨_, _, _, rfl, hb, (hM.call hb).add h74, ?_⟩
   refine GD.call (fun _ hM => NAbs_ok hM.avlt (hM.f 13 rfl)) ?_
   rintro _ _ _ hM ⟨s75, A75, n75, c75, s75_, A75_, n75_, c75_, rfl, h75, hb⟩
   have hs75 := szgR_abs (numv xN xD)
   refine ⟨_, _, _, rfl, hb, (hM.call hb).add h75, ?_⟩
   refine GD.call (fun _ hM => Same_ok hM.avlt (hM.f 1 rfl) (hM.f 0 rfl) (by first | assumption | omega) (by first | assumption | omega)) ?_
   rintro _ _ _ hM ⟨rfl, hb⟩
   refine ⟨.bool true, _, _, (ret_bool (decide_eq_true rfl)), hb, hM.call hb, ?_⟩
   refine GD.ev (.bool true) ?_
   refine GD.ev (.bool true) ?_
   refine GD.er (.agg #[.slice A23a n23a c23a, .bool m23a, .slice A23a_ n23a_ c23a_]) (fun _ hS => op_load_agg (off := 0) (by kernel_rfl) agg48 siz48 (hV61.bS 4 rfl hS) rfl rfl) ?_
   refine GD.er (.agg #[.int .i64 s23b, .slice A23b n23b c23b, .int .i64 s23b_, .slice A23b_ n23b_ c23b_]) (fun _ hS => op_load_agg (off := 0) (by kernel_rfl) agg54 siz54 (hV61.bS 3 rfl hS) rfl rfl) ?_
   refine GD.call (fun _ hM => RSign_ok hM.avlt (hM.f 15 rfl)) ?_
   rintro _ _ _ hM ⟨rfl, hb⟩
   refine ⟨_, _, _, rfl, hb, hM.call hb, ?_⟩
   refine GD.call (fun _ hM => NSign_ok hM.avlt (hM.f 14 rfl)) ?_
   rintro _ _ _ hM ⟨rfl, hb⟩
   refine ⟨_, _, _, rfl, hb, hM.call hb, ?_⟩
   refine GD.ev (.bool true) ?_ (hr := fun u => op_b (b := (((numv xN xD).num.sign) == ((numv xN xD).num.sign))) (by kernel_rfl) (beq_self_eq_true _))
   refine GD.ev (.bool true) ?_
   refine GD.ev (.bool true) ?_
   refine GD.er (.agg #[.slice A23a n23a c23a, .bool m23a, .slice A23a_ n23a_ c23a_]) (fun _ hS => op_load_agg (off := 0) (by kernel_rfl) agg48 siz48 (hV61.bS 4 rfl hS) rfl rfl) ?_
   refine GD.er (.agg #[.slice A26a n26a c26a, .bool m26a, .slice A26a_ n26a_ c26a_]) (fun _ hS => op_load_agg (off := 0) (by kernel_rfl) agg48 siz48 (hV61.bS 2 rfl hS) rfl rfl) ?_
   refine GD.er (.agg #[.int .i64 s23b, .slice A23b n23b c23b, .int .i64 s23b_, .slice A23b_ n23b_ c23b_]) (fun _ hS => op_load_agg (off := 0) (by kernel_rfl) agg54 siz54 (hV61.bS 3 rfl hS) rfl rfl) ?_
   refine GD.er (.agg #[.int .i64 s26b, .slice A26b n26b c26b, .int .i64 s26b_, .slice A26b_ n26b_ c26b_]) (fun _ hS => op_load_agg (off := 0) (by kernel_rfl) agg54 siz54 (hV61.bS 1 rfl hS) rfl rfl) ?_
   refine GD.call (fun _ hM => RCmp_ok hM.avlt (hM.f 15 rfl) (hM.f 13 rfl) (by first | assumption | omega)) ?_
   rintro _ _ _ hM ⟨rfl, hb⟩
   refine ⟨_, _, _, rfl, hb, hM.call hb, ?_⟩
   refine GD.call (fun _ hM => NCmp_ok hM.avlt (hM.f 14 rfl) (hM.f 12 rfl) (by first | assumption | omega)) ?_
   rintro _ _ _ hM ⟨rfl, hb⟩
   refine ⟨_, _, _, rfl, hb, hM.call hb, ?_⟩
   refine GD.ev (.bool true) ?_ (hr := fun u => op_b (b := ((((numv xN xD).num * ((numv yN yD).den : Int) - (numv yN yD).num * ((numv xN xD).den : Int)).sign) == (((numv xN xD).num * ((numv yN yD).den : Int) - (numv yN yD).num * ((numv xN xD).den : Int)).sign))) (by kernel_rfl) (beq_self_eq_true _))
   refine GD.ev (.bool true) ?_
   refine GD.ev (.bool true) ?_
   refine GD.call (fun _ hM => awake_ok hM.avlt) ?_
   rintro _ _ _ hM ⟨rfl, hb⟩
   refine ⟨_, _, _, rfl, hb, hM.call hb, ?_⟩
   refine GD.ev (.bool true) ?_
   refine GD.v (.bool true) ?_
   refine GD.k k1 ?_
   refine CG.ret (QG.ret (fun _ hM => results_one rfl (res_tmp rfl)) ?_)
   intro _ hM
   exact ⟨rfl, hM.below⟩

end Go.Proofs.YtklnjhlidfclmaaGreatDoor
