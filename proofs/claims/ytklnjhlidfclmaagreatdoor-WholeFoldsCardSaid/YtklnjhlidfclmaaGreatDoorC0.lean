/- Contracts of the program's functions. -/
import Derived.Test.YtklnjhlidfclmaaGreatDoorCTy
set_option linter.unusedVariables false
set_option linter.unusedSimpArgs false
namespace Go.Proofs.YtklnjhlidfclmaaGreatDoor
open Go.RowKit Cps
attribute [local go_sem] Oper.semAt_some

set_option maxRecDepth 100000 in
set_option maxHeartbeats 400000 in
theorem none_ok {w : World} {X : Nat → Prop} {A1 : Option Addr} {n1 : Nat} {c1 : Nat} {x : Nat} (hX : ∀ k, X k → k < w.heap.size) (h1 : Dk.R X w [.slice A1 n1 c1] x) :
    Calls Tryz.prog 104 #[.agg #[.slice A1 n1 c1]] w (fun e w' => e = .returned (.bool (decide (x = 0))) ∧ Below w.heap.size w w') := by
 have hM := (Mem.start hX).add0 h1
 refine calls_of hM Tryz.func104 Tryz.ntmps104 ?_
 refine CG.seq fun K_ k1 => ?_
 refine CG.lin 2 ?_
 refine GL.bA #[.slice A1 n1 c1] fun g21 => ?_
 refine GL.v (.bool false) ?_
 refine GL.k k1 ?_
 refine CG.seq fun K_ k1 => ?_
 refine CG.lin 5 ?_
 refine GL.v (.pointer (some ⟨g21, 0, none⟩)) ?_
 refine GL.r (.slice A1 n1 c1) (fun _ hM => op_load_one (off := 0) (by kernel_rfl) agg24 (hM.b 0 rfl) rfl) ?_
 refine GL.v (.int .i64 (n1 : Int)) ?_
 refine GL.v (.bool ((n1 : Int) == (0 : Int))) ?_
 refine GL.v (.bool ((n1 : Int) == (0 : Int))) ?_
 refine GL.k k1 ?_
 refine CG.ret (QG.ret (fun _ hM => results_one rfl (res_tmp rfl)) ?_)
 intro _ hM
 exact ⟨ret_bool (none_len (Dk.dw h1)), hM.below⟩

set_option maxRecDepth 100000 in
set_option maxHeartbeats 400000 in
theorem size_ok {w : World} {X : Nat → Prop} {A1 : Option Addr} {n1 : Nat} {c1 : Nat} {x : Nat} {A2 : Option Addr} {n2 : Nat} {c2 : Nat} {y : Nat} (hX : ∀ k, X k → k < w.heap.size) (h1 : Dk.R X w [.slice A1 n1 c1] x) (h2 : Dk.R X w [.slice A2 n2 c2] y) :
    Calls Tryz.prog 121 #[.agg #[.slice A1 n1 c1], .agg #[.slice A2 n2 c2]] w (fun e w' => e = .returned (.int .i64 (cmpN x y)) ∧ Below w.heap.size w w') := by
 have hM := ((Mem.start hX).add0 h1).add0 h2
 have l1 := Dk.le h1
 have m1 := Dk.len h1
 have l2 := Dk.le h2
 have m2 := Dk.len h2
 have hsx : (dg x).length = n1 := m1
 have hsy : (dg y).length = n2 := m2
 refine calls_of hM Tryz.func121 Tryz.ntmps121 ?_
 refine CG.seq fun K_ k1 => ?_
 refine CG.lin 3 ?_
 refine GL.bA #[.slice A1 n1 c1] fun g21 => ?_
 refine GL.bA #[.slice A2 n2 c2] fun g22 => ?_
 refine GL.v (.int .i64 0) ?_
 refine GL.k k1 ?_
 refine CG.seq fun K_ k1 => ?_
 refine CG.block ?_
 refine CG.seq fun K_ k2 => ?_
 refine CG.lin 8 ?_
 refine GL.v (.pointer (some ⟨g21, 0, none⟩)) ?_
 refine GL.r (.slice A1 n1 c1) (fun _ hM => op_load_one (off := 0) (by kernel_rfl) agg24 (hM.b 1 rfl) rfl) ?_
 refine GL.v (.int .i64 (n1 : Int)) ?_
 refine GL.v (.pointer (some ⟨g22, 0, none⟩)) ?_
 refine GL.r (.slice A2 n2 c2) (fun _ hM => op_load_one (off := 0) (by kernel_rfl) agg24 (hM.b 0 rfl) rfl) ?_
 refine GL.v (.int .i64 (n2 : Int)) ?_
 refine GL.v (.bool (decide ((n1 : Int) < (n2 : Int)))) ?_
 refine GL.v (.bool (decide ((n1 : Int) < (n2 : Int)))) ?_
 refine GL.k k2 ?_
 by_cases hc23 : (n1 : Int) < (n2 : Int)
 · have hk23 : (decide ((n1 : Int) < (n2 : Int))) = true := decide_eq_true hc23
   refine CG.yes ?_ hk23 rfl
   refine CG.seq fun K_ k2 => ?_
   refine CG.lin 1 ?_
   refine GL.v (.int .i64 (-1)) ?_
   refine GL.k k2 ?_
   refine CG.ret (QG.block_ret (QG.then_ret (QG.ret (fun _ hM => results_one rfl (res_tmp rfl)) ?_)))
   intro _ hM
   exact ⟨ret_int (cmp_lt (len_lt (by omega))), hM.below⟩
 · have hk23 : (decide ((n1 : Int) < (n2 : Int))) = false := decide_eq_false hc23
   refine CG.no ?_ hk23 rfl
   refine CG.seq fun K_ k2 => ?_
   refine CG.lin 8 ?_
   refine GL.v (.pointer (some ⟨g21, 0, none⟩)) ?_
   refine GL.r (.slice A1 n1 c1) (fun _ hM => op_load_one (off := 0) (by kernel_rfl) agg24 (hM.b 1 rfl) rfl) ?_
   refine GL.v (.int .i64 (n1 : Int)) ?_
   refine GL.v (.pointer (some ⟨g22, 0, none⟩)) ?_
   refine GL.r (.slice A2 n2 c2) (fun _ hM => op_load_one (off := 0) (by kernel_rfl) agg24 (hM.b 0 rfl) rfl) ?_
   refine GL.v (.int .i64 (n2 : Int)) ?_
   refine GL.v (.bool (decide ((n1 : Int) > (n2 : Int)))) ?_
   refine GL.v (.bool (decide ((n1 : Int) > (n2 : Int)))) ?_
   refine GL.k k2 ?_
   by_cases hc24 : (n1 : Int) > (n2 : Int)
   · have hk24 : (decide ((n1 : Int) > (n2 : Int))) = true := decide_eq_true hc24
     refine CG.yes ?_ hk24 rfl
     refine CG.seq fun K_ k2 => ?_
     refine CG.lin 1 ?_
     refine GL.v (.int .i64 1) ?_
     refine GL.k k2 ?_
     refine CG.ret (QG.block_ret (QG.then_ret (QG.ret (fun _ hM => results_one rfl (res_tmp rfl)) ?_)))
     intro _ hM
     exact ⟨ret_int (cmp_gt (len_lt (by omega))), hM.below⟩
   · have hk24 : (decide ((n1 : Int) > (n2 : Int))) = false := decide_eq_false hc24
     refine CG.no ?_ hk24 rfl
     refine CG.skip ?_
     refine QG.block ?_
     refine QG.k k1 ?_
     refine CG.seq fun K_ k1 => ?_
     refine CG.seq fun K_ k2 => ?_
     refine CG.lin 5 ?_
     refine GL.v (.pointer (some ⟨g21, 0, none⟩)) ?_
     refine GL.r (.slice A1 n1 c1) (fun _ hM => op_load_one (off := 0) (by kernel_rfl) agg24 (hM.b 1 rfl) rfl) ?_
     refine GL.v (.int .i64 (n1 : Int)) ?_
     refine GL.v (.int .i64 ((n1 : Int) - (1 : Int))) ?_ (hr := fun u => op_to (v := .int .i64 (IntKind.wrap .i64 ((n1 : Int) - (1 : Int)))) (by kernel_rfl) (wrap_i64 rfl (by omega) (by omega)))
     refine GL.v (.int .i64 ((n1 : Int) - (1 : Int))) ?_
     refine GL.k k2 ?_
     refine CG.block ?_
     refine CG.loop (fun m_ a_ u_ => ∃ (i : Int) (j25 : Nat → Value), a_ = ⟨#[.agg #[.slice A1 n1 c1], .agg #[.slice A2 n2 c2], .pointer (some ⟨g21, 0, none⟩), .pointer (some ⟨g22, 0, none⟩), (j25 4), .int .i64 i, .bool (decide ((n1 : Int) < (n2 : Int))), .pointer (some ⟨g21, 0, none⟩), .slice A1 n1 c1, .int .i64 (n1 : Int), .pointer (some ⟨g22, 0, none⟩), .slice A2 n2 c2, .int .i64 (n2 : Int), .bool (decide ((n1 : Int) < (n2 : Int))), .bool (decide ((n1 : Int) > (n2 : Int))), .pointer (some ⟨g21, 0, none⟩), .slice A1 n1 c1, .int .i64 (n1 : Int), .pointer (some ⟨g22, 0, none⟩), .slice A2 n2 c2, .int .i64 (n2 : Int), .bool (decide ((n1 : Int) > (n2 : Int))), .pointer (some ⟨g21, 0, none⟩), .slice A1 n1 c1, .int .i64 (n1 : Int), .int .i64 ((n1 : Int) - (1 : Int)), (j25 26), (j25 27), (j25 28), (j25 29), (j25 30), (j25 31), (j25 32), (j25 33), (j25 34), (j25 35), (j25 36), (j25 37), (j25 38), (j25 39), (j25 40), (j25 41), (j25 42), (j25 43), (j25 44), (j25 45), (j25 46), (j25 47), (j25 48), (j25 49), (j25 50), (j25 51), (j25 52), (j25 53)], []⟩ ∧ m_ = (i + 1).toNat ∧ Mem w [] X u_ [.box g22 #[.slice A2 n2 c2] 26, .box g21 #[.slice A1 n1 c1] 26] [⟨Dk, [.slice A2 n2 c2], y⟩, ⟨Dk, [.slice A1 n1 c1], x⟩] ∧ (i < (n1 : Int) ∧ -1 ≤ i) ∧ (∀ j : Nat, i < (j : Int) → (dg x).getD j 0 = (dg y).getD j 0)) (fun _ hM => ⟨_, ((n1 : Int) - 1), (fun t => (#[.agg #[.slice A1 n1 c1], .agg #[.slice A2 n2 c2], .pointer (some ⟨g21, 0, none⟩), .pointer (some ⟨g22, 0, none⟩), .int .i64 0, .int .i64 ((n1 : Int) - (1 : Int)), .bool (decide ((n1 : Int) < (n2 : Int))), .pointer (some ⟨g21, 0, none⟩), .slice A1 n1 c1, .int .i64 (n1 : Int), .pointer (some ⟨g22, 0, none⟩), .slice A2 n2 c2, .int .i64 (n2 : Int), .bool (decide ((n1 : Int) < (n2 : Int))), .bool (decide ((n1 : Int) > (n2 : Int))), .pointer (some ⟨g21, 0, none⟩), .slice A1 n1 c1, .int .i64 (n1 : Int), .pointer (some ⟨g22, 0, none⟩), .slice A2 n2 c2, .int .i64 (n2 : Int), .bool (decide ((n1 : Int) > (n2 : Int))), .pointer (some ⟨g21, 0, none⟩), .slice A1 n1 c1, .int .i64 (n1 : Int), .int .i64 ((n1 : Int) - (1 : Int)), undef, undef, undef, undef, undef, undef, undef, undef, undef, undef, undef, undef, undef, undef, undef, undef, undef, undef, undef, undef, undef, undef, undef, undef, undef, undef, undef, undef] : Array Value).getD t undef), (by kernel_rfl), rfl, ((hM.clr).add (hM.f 1 rfl)).add (hM.f 0 rfl), ⟨by omega, by omega⟩, (fun j hj => by rw [getD_out (by omega), getD_out (by omega)])⟩) ?_
     rintro m_ a_ u_ ⟨i, j25, rfl, hm25, hM, hi, hd⟩
     refine CG.go hM ?_
     refine CG.seq fun K_ k2 => ?_
     refine CG.seq fun K_ k3 => ?_
     refine CG.lin 2 ?_
     refine GL.v (.int .i64 i) ?_
     refine GL.v (.bool (decide (i ≥ (0 : Int)))) ?_
     refine GL.k k3 ?_
     by_cases hc26 : i ≥ (0 : Int)
     · have hk26 : (decide (i ≥ (0 : Int))) = true := decide_eq_true hc26
       refine CG.yes ?_ hk26 rfl
       refine CG.skip ?_
       refine QG.k k2 ?_
       refine CG.seq fun K_ k2 => ?_
       refine CG.block ?_
       refine CG.block ?_
       refine CG.seq fun K_ k3 => ?_
       refine CG.draw [] [0, 1, 2, 3, 4, 5, 6, 7, 8, 9, 10] (.step 0 (.step 1 (.step 2 (.step 3 (.step 4 (.step 5 (.step 6 (.step 7 (.step 8 (.step 9 (.step 10 (.step 11 .done)))))))))))) (fun V hV27 => ?_)
       refine GD.ev (.pointer (some ⟨g21, 0, none⟩)) ?_
       refine GD.er (.slice A1 n1 c1) (fun _ hS => op_load_one (off := 0) (by kernel_rfl) agg24 (hV27.bS 1 rfl hS) rfl) ?_
       refine GD.ev (.int .i64 i) ?_
       refine GD.er (elemPtr A1 ((i).toNat)) (fun _ hS => op_index rowt24 (c := c1) (k := .i64) (i := i) ((i).toNat) (by kernel_rfl) (by kernel_rfl) (by omega) (by omega) (Row.keep (Dk.row (hV27.f 1 rfl)) hS.keep) _) ?_
       refine GD.er (.int .i64 ((dg x).getD ((i).toNat) 0)) (fun _ hS => op_load_i64 (n := n1) (by kernel_rfl) agg2 (Row.keep (Dk.row (hV27.f 1 rfl)) hS.keep) (by omega)) ?_
       refine GD.ev (.pointer (some ⟨g22, 0, none⟩)) ?_
       refine GD.er (.slice A2 n2 c2) (fun _ hS => op_load_one (off := 0) (by kernel_rfl) agg24 (hV27.bS 0 rfl hS) rfl) ?_
       refine GD.ev (.int .i64 i) ?_
       refine GD.er (elemPtr A2 ((i).toNat)) (fun _ hS => op_index rowt24 (c := c2) (k := .i64) (i := i) ((i).toNat) (by kernel_rfl) (by kernel_rfl) (by omega) (by omega) (Row.keep (Dk.row (hV27.f 0 rfl)) hS.keep) _) ?_
       refine GD.er (.int .i64 ((dg y).getD ((i).toNat) 0)) (fun _ hS => op_load_i64 (n := n2) (by kernel_rfl) agg2 (Row.keep (Dk.row (hV27.f 0 rfl)) hS.keep) (by omega)) ?_
       refine GD.ev (.bool (decide (((dg x).getD ((i).toNat) 0) < ((dg y).getD ((i).toNat) 0)))) ?_
       refine GD.v (.bool (decide (((dg x).getD ((i).toNat) 0) < ((dg y).getD ((i).toNat) 0)))) ?_
       refine GD.k k3 ?_
       by_cases hc28 : ((dg x).getD ((i).toNat) 0) < ((dg y).getD ((i).toNat) 0)
       · have hk28 : (decide (((dg x).getD ((i).toNat) 0) < ((dg y).getD ((i).toNat) 0))) = true := decide_eq_true hc28
         refine CG.yes ?_ hk28 rfl
         refine CG.seq fun K_ k3 => ?_
         refine CG.lin 1 ?_
         refine GL.v (.int .i64 (-1)) ?_
         refine GL.k k3 ?_
         refine CG.ret (QG.block_ret (QG.block_ret (QG.then_ret (QG.then_ret (QG.block_ret (QG.then_ret (QG.ret (fun _ hM => results_one rfl (res_tmp rfl)) ?_)))))))
         intro _ hM
         exact ⟨ret_int (cmp_lt (top_lt (by omega) _ (by omega) (fun j hj => hd j (by omega)) hc28)), hM.below⟩
       · have hk28 : (decide (((dg x).getD ((i).toNat) 0) < ((dg y).getD ((i).toNat) 0))) = false := decide_eq_false hc28
         refine CG.no ?_ hk28 rfl
         refine CG.seq fun K_ k3 => ?_
         refine CG.draw [] [0, 1, 2, 3, 4, 5, 6, 7, 8, 9, 10] (.step 0 (.step 1 (.step 2 (.step 3 (.step 4 (.step 5 (.step 6 (.step 7 (.step 8 (.step 9 (.step 10 (.step 11 .done)))))))))))) (fun V hV29 => ?_)
         refine GD.ev (.pointer (some ⟨g21, 0, none⟩)) ?_
         refine GD.er (.slice A1 n1 c1) (fun _ hS => op_load_one (off := 0) (by kernel_rfl) agg24 (hV29.bS 1 rfl hS) rfl) ?_
         refine GD.ev (.int .i64 i) ?_
         refine GD.er (elemPtr A1 ((i).toNat)) (fun _ hS => op_index rowt24 (c := c1) (k := .i64) (i := i) ((i).toNat) (by kernel_rfl) (by kernel_rfl) (by omega) (by omega) (Row.keep (Dk.row (hV29.f 1 rfl)) hS.keep) _) ?_
         refine GD.er (.int .i64 ((dg x).getD ((i).toNat) 0)) (fun _ hS => op_load_i64 (n := n1) (by kernel_rfl) agg2 (Row.keep (Dk.row (hV29.f 1 rfl)) hS.keep) (by omega)) ?_
         refine GD.ev (.pointer (some ⟨g22, 0, none⟩)) ?_
         refine GD.er (.slice A2 n2 c2) (fun _ hS => op_load_one (off := 0) (by kernel_rfl) agg24 (hV29.bS 0 rfl hS) rfl) ?_
         refine GD.ev (.int .i64 i) ?_
         refine GD.er (elemPtr A2 ((i).toNat)) (fun _ hS => op_index rowt24 (c := c2) (k := .i64) (i := i) ((i).toNat) (by kernel_rfl) (by kernel_rfl) (by omega) (by omega) (Row.keep (Dk.row (hV29.f 0 rfl)) hS.keep) _) ?_
         refine GD.er (.int .i64 ((dg y).getD ((i).toNat) 0)) (fun _ hS => op_load_i64 (n := n2) (by kernel_rfl) agg2 (Row.keep (Dk.row (hV29.f 0 rfl)) hS.keep) (by omega)) ?_
         refine GD.ev (.bool (decide (((dg x).getD ((i).toNat) 0) > ((dg y).getD ((i).toNat) 0)))) ?_
         refine GD.v (.bool (decide (((dg x).getD ((i).toNat) 0) > ((dg y).getD ((i).toNat) 0)))) ?_
         refine GD.k k3 ?_
         by_cases hc30 : ((dg x).getD ((i).toNat) 0) > ((dg y).getD ((i).toNat) 0)
         · have hk30 : (decide (((dg x).getD ((i).toNat) 0) > ((dg y).getD ((i).toNat) 0))) = true := decide_eq_true hc30
           refine CG.yes ?_ hk30 rfl
           refine CG.seq fun K_ k3 => ?_
           refine CG.lin 1 ?_
           refine GL.v (.int .i64 1) ?_
           refine GL.k k3 ?_
           refine CG.ret (QG.block_ret (QG.block_ret (QG.then_ret (QG.then_ret (QG.block_ret (QG.then_ret (QG.ret (fun _ hM => results_one rfl (res_tmp rfl)) ?_)))))))
           intro _ hM
           exact ⟨ret_int (cmp_gt (top_lt (by omega) _ (by omega) (fun j hj => (hd j (by omega)).symm) hc30)), hM.below⟩
         · have hk30 : (decide (((dg x).getD ((i).toNat) 0) > ((dg y).getD ((i).toNat) 0))) = false := decide_eq_false hc30
           refine CG.no ?_ hk30 rfl
           refine CG.skip ?_
           refine QG.block ?_
           refine QG.block ?_
           refine QG.k k2 ?_
           refine CG.lin 3 ?_
           refine GL.v (.int .i64 i) ?_
           refine GL.v (.int .i64 (i - (1 : Int))) ?_ (hr := fun u => op_to (v := .int .i64 (IntKind.wrap .i64 (i - (1 : Int)))) (by kernel_rfl) (wrap_i64 rfl (by omega) (by omega)))
           refine GL.v (.int .i64 (i - (1 : Int))) ?_
           refine GL.q ?_
           refine QG.again fun _ hM => ?_
           exact ⟨((i - 1) + 1).toNat, (by omega), (i - 1), (fun t => (#[.agg #[.slice A1 n1 c1], .agg #[.slice A2 n2 c2], .pointer (some ⟨g21, 0, none⟩), .pointer (some ⟨g22, 0, none⟩), (j25 4), .int .i64 (i - (1 : Int)), .bool (decide ((n1 : Int) < (n2 : Int))), .pointer (some ⟨g21, 0, none⟩), .slice A1 n1 c1, .int .i64 (n1 : Int), .pointer (some ⟨g22, 0, none⟩), .slice A2 n2 c2, .int .i64 (n2 : Int), .bool (decide ((n1 : Int) < (n2 : Int))), .bool (decide ((n1 : Int) > (n2 : Int))), .pointer (some ⟨g21, 0, none⟩), .slice A1 n1 c1, .int .i64 (n1 : Int), .pointer (some ⟨g22, 0, none⟩), .slice A2 n2 c2, .int .i64 (n2 : Int), .bool (decide ((n1 : Int) > (n2 : Int))), .pointer (some ⟨g21, 0, none⟩), .slice A1 n1 c1, .int .i64 (n1 : Int), .int .i64 ((n1 : Int) - (1 : Int)), .int .i64 i, .bool (decide (i ≥ (0 : Int))), .int .i64 i, .int .i64 (i - (1 : Int)), .bool (decide (((dg x).getD ((i).toNat) 0) < ((dg y).getD ((i).toNat) 0))), .pointer (some ⟨g21, 0, none⟩), .slice A1 n1 c1, .int .i64 i, elemPtr A1 ((i).toNat), .int .i64 ((dg x).getD ((i).toNat) 0), .pointer (some ⟨g22, 0, none⟩), .slice A2 n2 c2, .int .i64 i, elemPtr A2 ((i).toNat), .int .i64 ((dg y).getD ((i).toNat) 0), .bool (decide (((dg x).getD ((i).toNat) 0) < ((dg y).getD ((i).toNat) 0))), .bool (decide (((dg x).getD ((i).toNat) 0) > ((dg y).getD ((i).toNat) 0))), .pointer (some ⟨g21, 0, none⟩), .slice A1 n1 c1, .int .i64 i, elemPtr A1 ((i).toNat), .int .i64 ((dg x).getD ((i).toNat) 0), .pointer (some ⟨g22, 0, none⟩), .slice A2 n2 c2, .int .i64 i, elemPtr A2 ((i).toNat), .int .i64 ((dg y).getD ((i).toNat) 0), .bool (decide (((dg x).getD ((i).toNat) 0) > ((dg y).getD ((i).toNat) 0)))] : Array Value).getD t undef), (by kernel_rfl), rfl, ((hM.clr).add (hM.f 1 rfl)).add (hM.f 0 rfl), ⟨by omega, by omega⟩, (fun j hj => if h : i < (j : Int) then hd j h else (show j = i.toNat by omega) ▸ (by omega))⟩
     · have hk26 : (decide (i ≥ (0 : Int))) = false := decide_eq_false hc26
       refine CG.no ?_ hk26 rfl
       refine CG.exit (QG.then_exit (QG.then_exit (QG.here ?_)))
       refine QG.k k1 ?_
       refine CG.seq fun K_ k1 => ?_
       refine CG.lin 1 ?_
       refine GL.v (.int .i64 0) ?_
       refine GL.k k1 ?_
       refine CG.ret (QG.ret (fun _ hM => results_one rfl (res_tmp rfl)) ?_)
       intro _ hM
       exact ⟨ret_int (cmp_eq (all_eq (by omega) (fun j => hd j (by omega)))), hM.below⟩

set_option maxRecDepth 100000 in
set_option maxHeartbeats 400000 in
theorem settled_ok {w : World} {X : Nat → Prop} {gL nL cL : Nat} {L : List Int} {x : Nat} (hX : ∀ k, X k → k < w.heap.size) (h1 : Cps.Own 2 w gL nL cL (i64s L)) (hg : ¬ X gL) (p1 : val 16777216 L = (x : Int)) (p2 : ∀ y, y ∈ L → -1152921504606846976 ≤ y ∧ y ≤ 1152921504606846976) (p3 : nL ≤ 4398046511104) :
    Calls Tryz.prog 132 #[.slice (some ⟨gL, 0, none⟩) nL cL] w (fun e w' => ∃ Ar nr cr, e = .returned (.agg #[.slice Ar nr cr]) ∧ Dk.R X w' [.slice Ar nr cr] x ∧ Upd [gL] w w') := by
 have hM := Mem.startOwn hX hg h1
 have hLn := h1.ilen
 have hlt := h1.lt
 refine calls_of hM Tryz.func132 Tryz.ntmps132 ?_
 refine CG.seq fun K_ k1 => ?_
 refine CG.lin 1 ?_
 refine GL.aA zer26 fun g21 => ?_
 refine GL.k k1 ?_
 refine CG.seq fun K_ k1 => ?_
 refine CG.lin 1 ?_
 refine GL.v (.int .i64 0) ?_
 refine GL.k k1 ?_
 refine CG.seq fun K_ k1 => ?_
 refine CG.seq fun K_ k2 => ?_
 refine CG.lin 3 ?_
 refine GL.v (.slice (some ⟨gL, 0, none⟩) nL cL) ?_
 refine GL.v (.int .i64 (nL : Int)) ?_
 refine GL.v (.int .i64 0) ?_
 refine GL.k k2 ?_
 refine CG.block ?_
 refine CG.loop (fun m_ a_ u_ => ∃ (i : Nat) (k : Int) (P : List Int) (j22 : Nat → Value), a_ = ⟨#[.slice (some ⟨gL, 0, none⟩) nL cL, undef, .pointer (some ⟨g21, 0, none⟩), .int .i64 k, (j22 4), .slice (some ⟨gL, 0, none⟩) nL cL, .int .i64 (nL : Int), .int .i64 (i : Int), (j22 8), (j22 9), (j22 10), (j22 11), (j22 12), (j22 13), (j22 14), (j22 15), (j22 16), (j22 17), (j22 18), (j22 19), (j22 20), (j22 21), (j22 22), (j22 23), (j22 24), (j22 25), (j22 26), (j22 27), (j22 28), undef, undef, undef, undef, undef, undef, undef, undef, undef, undef, undef, undef, undef, undef, undef, undef, undef, undef, undef, undef, undef, undef, undef, undef, undef, undef, undef, undef], []⟩ ∧ m_ = nL - i ∧ Mem w [gL] X u_ [.box g21 #[.slice none 0 0] 26, .own gL 2 nL cL (i64s (P ++ L.drop i))] [] ∧ (P.length = i) ∧ (i ≤ nL) ∧ (-137438953472 ≤ k ∧ k ≤ 137438953472) ∧ (Digs 16777216 P) ∧ (val 16777216 P + 16777216 ^ i * (k + val 16777216 (L.drop i)) = (x : Int))) (fun _ hM => ⟨_, 0, 0, [], (fun t => (#[.slice (some ⟨gL, 0, none⟩) nL cL, undef, .pointer (some ⟨g21, 0, none⟩), .int .i64 0, undef, .slice (some ⟨gL, 0, none⟩) nL cL, .int .i64 (nL : Int), .int .i64 0, undef, undef, undef, undef, undef, undef, undef, undef, undef, undef, undef, undef, undef, undef, undef, undef, undef, undef, undef, undef, undef, undef, undef, undef, undef, undef, undef, undef, undef, undef, undef, undef, undef, undef, undef, undef, undef, undef, undef, undef, undef, undef, undef, undef, undef, undef, undef, undef, undef] : Array Value).getD t undef), (by kernel_rfl), rfl, hM.clr, rfl, (by omega), ⟨by decide, by decide⟩, (Digs.nil _), (by simpa using p1)⟩) ?_
 rintro m_ a_ u_ ⟨i, k, P, j22, rfl, hm22, hM, hP, hi, hk, hD, hV⟩
 refine CG.go hM ?_
 refine CG.seq fun K_ k2 => ?_
 refine CG.lin 1 ?_
 refine GL.v (.bool (decide ((i : Int) < (nL : Int)))) ?_
 refine GL.k k2 ?_
 refine CG.seq fun K_ k2 => ?_
 by_cases hc23 : (i : Int) < (nL : Int)
 · have hk23 : (decide ((i : Int) < (nL : Int))) = true := decide_eq_true hc23
   refine CG.yes ?_ hk23 rfl
   refine CG.skip ?_
   refine QG.k k2 ?_
   refine CG.seq fun K_ k2 => ?_
   refine CG.block ?_
   refine CG.seq fun K_ k3 => ?_
   refine CG.lin 2 ?_
   refine GL.v (.int .i64 (i : Int)) ?_
   refine GL.v (.int .i64 (i : Int)) ?_
   refine GL.k k3 ?_
   refine CG.seq fun K_ k3 => ?_
   refine CG.lin 8 ?_
   refine GL.v (.slice (some ⟨gL, 0, none⟩) nL cL) ?_
   refine GL.v (.int .i64 (i : Int)) ?_
   refine GL.r (elemPtr (some ⟨gL, 0, none⟩) i) (fun _ hM => op_index rowt24 (c := cL) (k := .i64) (i := (i : Int)) i (by kernel_rfl) (by kernel_rfl) (by omega) (by omega) (hM.o 1 rfl).row _) ?_
   refine GL.r (.int .i64 (L.getD i 0)) (fun _ hM => op_to (v := .int .i64 ((P ++ L.drop i).getD i 0)) (op_load_i64 (n := nL) (by kernel_rfl) agg2 (hM.o 1 rfl).row (by omega)) (congrArg (Value.int .i64) (getD_tail hP))) ?_
   refine GL.v (.int .i64 k) ?_
   have hy := mem_getD p2 (by decide) (by decide) i
   refine GL.v (.int .i64 ((L.getD i 0) + k)) ?_ (hr := fun u => op_to (v := .int .i64 (IntKind.wrap .i64 ((L.getD i 0) + k))) (by kernel_rfl) (wrap_i64 rfl (by omega) (by omega)))
   refine GL.r (elemPtr (some ⟨gL, 0, none⟩) i) (fun _ hM => op_index rowt24 (c := cL) (k := .i64) (i := (i : Int)) i (by kernel_rfl) (by kernel_rfl) (by omega) (by omega) (hM.o 1 rfl).row _) ?_
   refine GL.el (fun _ _ _ => Mem.el1) (fun _ hM => op_set_i64 i ((L.getD i 0) + k) siz2 (hM.o 1 rfl) (by kernel_rfl) (by kernel_rfl) (by omega)) ?_
   refine GL.k k3 ?_
   refine CG.seq fun K_ k3 => ?_
   refine CG.lin 6 ?_
   refine GL.v (.slice (some ⟨gL, 0, none⟩) nL cL) ?_
   refine GL.v (.int .i64 (i : Int)) ?_
   refine GL.r (elemPtr (some ⟨gL, 0, none⟩) i) (fun _ hM => op_index rowt24 (c := cL) (k := .i64) (i := (i : Int)) i (by kernel_rfl) (by kernel_rfl) (by omega) (by omega) (hM.o 1 rfl).row _) ?_
   refine GL.r (.int .i64 ((L.getD i 0) + k)) (fun _ hM => op_to (v := .int .i64 (((P ++ L.drop i).set i ((L.getD i 0) + k)).getD i 0)) (op_load_i64 (n := nL) (by kernel_rfl) agg2 (hM.o 1 rfl).row (by omega)) (congrArg (Value.int .i64) (getD_set_own (hM.o 1 rfl) (by omega)))) ?_
   refine GL.v (.int .i64 (((L.getD i 0) + k) / 16777216)) ?_ (hr := fun u => op_to (v := .int .i64 ((((L.getD i 0) + k)).fdiv (2 ^ 24))) (by kernel_rfl) (fdiv_pow .i64 _ 24 16777216 (by decide) (by decide)))
   refine GL.v (.int .i64 (((L.getD i 0) + k) / 16777216)) ?_
   refine GL.k k3 ?_
   refine CG.lin 7 ?_
   refine GL.v (.slice (some ⟨gL, 0, none⟩) nL cL) ?_
   refine GL.v (.int .i64 (i : Int)) ?_
   refine GL.r (elemPtr (some ⟨gL, 0, none⟩) i) (fun _ hM => op_index rowt24 (c := cL) (k := .i64) (i := (i : Int)) i (by kernel_rfl) (by kernel_rfl) (by omega) (by omega) (hM.o 1 rfl).row _) ?_
   refine GL.r (.int .i64 ((L.getD i 0) + k)) (fun _ hM => op_to (v := .int .i64 (((P ++ L.drop i).set i ((L.getD i 0) + k)).getD i 0)) (op_load_i64 (n := nL) (by kernel_rfl) agg2 (hM.o 1 rfl).row (by omega)) (congrArg (Value.int .i64) (getD_set_own (hM.o 1 rfl) (by omega)))) ?_
   refine GL.v (.int .i64 (((L.getD i 0) + k) % 16777216)) ?_ (hr := fun u => op_to (v := .int .i64 (IntKind.wrap .i64 ((BitVec.ofInt 64 ((L.getD i 0) + k) &&& BitVec.ofInt 64 16777215).toNat : Nat))) (by kernel_rfl) (mask_to 24 (by decide) _ _ 16777216 (by decide) (by decide)))
   refine GL.r (elemPtr (some ⟨gL, 0, none⟩) i) (fun _ hM => op_index rowt24 (c := cL) (k := .i64) (i := (i : Int)) i (by kernel_rfl) (by kernel_rfl) (by omega) (by omega) (hM.o 1 rfl).row _) ?_
   refine GL.el (fun _ _ _ => Mem.el1) (fun _ hM => op_set_i64 i (((L.getD i 0) + k) % 16777216) siz2 (hM.o 1 rfl) (by kernel_rfl) (by kernel_rfl) (by omega)) ?_
   refine GL.q ?_
   refine QG.block ?_
   refine QG.k k2 ?_
   refine CG.lin 2 ?_
   refine GL.v (.int .i64 ((i + 1 : Nat) : Int)) ?_ (hr := fun u => op_to (v := .int .i64 (IntKind.wrap .i64 ((i : Int) + (1 : Int)))) (by kernel_rfl) (wrap_i64 (by omega) (by omega) (by omega)))
   refine GL.v (.int .i64 ((i + 1 : Nat) : Int)) ?_
   refine GL.q ?_
   refine QG.again fun _ hM => ?_
   replace hM := hM.cu1 (Own.say (set_step hP (by omega) _ _))
   exact ⟨nL - (i + 1), (by omega), (i + 1), (((L.getD i 0) + k) / 16777216), (P ++ [((L.getD i 0) + k) % 16777216]), (fun t => (#[.slice (some ⟨gL, 0, none⟩) nL cL, undef, .pointer (some ⟨g21, 0, none⟩), .int .i64 (((L.getD i 0) + k) / 16777216), .int .i64 (i : Int), .slice (some ⟨gL, 0, none⟩) nL cL, .int .i64 (nL : Int), .int .i64 ((i + 1 : Nat) : Int), .bool (decide ((i : Int) < (nL : Int))), .int .i64 (i : Int), .slice (some ⟨gL, 0, none⟩) nL cL, .int .i64 (i : Int), elemPtr (some ⟨gL, 0, none⟩) i, .int .i64 (L.getD i 0), .int .i64 k, .int .i64 ((L.getD i 0) + k), elemPtr (some ⟨gL, 0, none⟩) i, .slice (some ⟨gL, 0, none⟩) nL cL, .int .i64 (i : Int), elemPtr (some ⟨gL, 0, none⟩) i, .int .i64 ((L.getD i 0) + k), .int .i64 (((L.getD i 0) + k) / 16777216), .slice (some ⟨gL, 0, none⟩) nL cL, .int .i64 (i : Int), elemPtr (some ⟨gL, 0, none⟩) i, .int .i64 ((L.getD i 0) + k), .int .i64 (((L.getD i 0) + k) % 16777216), elemPtr (some ⟨gL, 0, none⟩) i, .int .i64 ((i + 1 : Nat) : Int), undef, undef, undef, undef, undef, undef, undef, undef, undef, undef, undef, undef, undef, undef, undef, undef, undef, undef, undef, undef, undef, undef, undef, undef, undef, undef, undef, undef] : Array Value).getD t undef), (by kernel_rfl), rfl, hM.clr, (by simp [hP]), (by omega), (by omega), (snoc_digs hD _), (settle_step hP (by omega) hV)⟩
 · have hk23 : (decide ((i : Int) < (nL : Int))) = false := decide_eq_false hc23
   refine CG.no ?_ hk23 rfl
   refine CG.exit (QG.then_exit (QG.then_exit (QG.here ?_)))
   refine QG.k k1 ?_
   refine CG.seq fun K_ k1 => ?_
   refine CG.block ?_
   have hin : i = nL := by omega
   have hk0 : 0 ≤ k := carry_nonneg hD (x := x) (by rw [hP]; rw [hin, List.drop_eq_nil_of_le (by omega)] at hV; rw [hin]; simpa using hV)
   refine CG.mem (fun _ hM => hM.cu1 (Own.say (by rw [hin, List.drop_eq_nil_of_le (by omega), List.append_nil]))) ?_
   refine CG.loop (fun m_ a_ u_ => ∃ (g1 : Nat) (n1 : Nat) (c1 : Nat) (k : Int) (P : List Int) (j24 : Nat → Value), a_ = ⟨#[.slice (some ⟨g1, 0, none⟩) n1 c1, undef, .pointer (some ⟨g21, 0, none⟩), .int .i64 k, (j22 4), .slice (some ⟨gL, 0, none⟩) nL cL, .int .i64 (nL : Int), .int .i64 (i : Int), .bool (decide ((i : Int) < (nL : Int))), (j22 9), (j22 10), (j22 11), (j22 12), (j22 13), (j22 14), (j22 15), (j22 16), (j22 17), (j22 18), (j22 19), (j22 20), (j22 21), (j22 22), (j22 23), (j22 24), (j22 25), (j22 26), (j22 27), (j22 28), (j24 29), (j24 30), (j24 31), (j24 32), (j24 33), (j24 34), (j24 35), (j24 36), (j24 37), undef, undef, undef, undef, undef, undef, undef, undef, undef, undef, undef, undef, undef, undef, undef, undef, undef, undef, undef], []⟩ ∧ m_ = k.toNat ∧ Mem w [gL] X u_ [.box g21 #[.slice none 0 0] 26, .own g1 2 n1 c1 (i64s P)] [] ∧ (P.length = n1) ∧ (0 ≤ k ∧ (n1 = nL ∧ k ≤ 137438953472 ∨ n1 = nL + 1 ∧ k ≤ 8192 ∨ n1 = nL + 2 ∧ k = 0)) ∧ (Digs 16777216 P) ∧ (val 16777216 P + 16777216 ^ P.length * k = (x : Int))) (fun _ hM => ⟨_, gL, nL, cL, k, P, (fun t => (#[.slice (some ⟨gL, 0, none⟩) nL cL, undef, .pointer (some ⟨g21, 0, none⟩), .int .i64 k, (j22 4), .slice (some ⟨gL, 0, none⟩) nL cL, .int .i64 (nL : Int), .int .i64 (i : Int), .bool (decide ((i : Int) < (nL : Int))), (j22 9), (j22 10), (j22 11), (j22 12), (j22 13), (j22 14), (j22 15), (j22 16), (j22 17), (j22 18), (j22 19), (j22 20), (j22 21), (j22 22), (j22 23), (j22 24), (j22 25), (j22 26), (j22 27), (j22 28), undef, undef, undef, undef, undef, undef, undef, undef, undef, undef, undef, undef, undef, undef, undef, undef, undef, undef, undef, undef, undef, undef, undef, undef, undef, undef, undef, undef] : Array Value).getD t undef), (by kernel_rfl), rfl, hM.clr, (by omega), (by omega), hD, (by rw [hin, List.drop_eq_nil_of_le (by omega)] at hV; rw [hP, hin]; simpa using hV)⟩) ?_
   rintro m_ a_ u_ ⟨g1, n1, c1, k, P, j24, rfl, hm24, hM, hP, hk, hD, hV⟩
   refine CG.go hM ?_
   refine CG.seq fun K_ k2 => ?_
   refine CG.seq fun K_ k3 => ?_
   refine CG.lin 2 ?_
   refine GL.v (.int .i64 k) ?_
   refine GL.v (.bool (k != (0 : Int))) ?_
   refine GL.k k3 ?_
   by_cases hc25 : k ≠ (0 : Int)
   · have hk25 : (k != (0 : Int)) = true := bne_iff_ne.2 hc25
     refine CG.yes ?_ hk25 rfl
     refine CG.skip ?_
     refine QG.k k2 ?_
     refine CG.seq fun K_ k2 => ?_
     refine CG.block ?_
     refine CG.lin 6 ?_
     refine GL.v (.slice (some ⟨g1, 0, none⟩) n1 c1) ?_
     refine GL.v (.int .i64 k) ?_
     refine GL.v (.int .i64 (k % 16777216)) ?_ (hr := fun u => op_to (v := .int .i64 (IntKind.wrap .i64 ((BitVec.ofInt 64 k &&& BitVec.ofInt 64 16777215).toNat : Nat))) (by kernel_rfl) (mask_to 24 (by decide) _ _ 16777216 (by decide) (by decide)))
     refine GL.row (fun _ => op_build1 rowt24 (v := .int .i64 (k % 16777216)) (by kernel_rfl) rfl) (fun _ _ _ hm => own_one_i64 hm) fun g26 => ?_
     refine GL.gr (fun _ _ _ _ => Mem.gr2) (fun _ hM => op_append_i64 (cx := 1) rowt24 (hM.o 2 rfl) (hM.o 0 rfl).row (by kernel_rfl) (by kernel_rfl) (by omega) (by omega)) fun g27 c27 => ?_
     refine GL.v (.slice (some ⟨g27, 0, none⟩) (n1 + 1) c27) ?_
     refine GL.q ?_
     refine QG.block ?_
     refine QG.k k2 ?_
     refine CG.lin 3 ?_
     refine GL.v (.int .i64 k) ?_
     refine GL.v (.int .i64 (k / 16777216)) ?_ (hr := fun u => op_to (v := .int .i64 ((k).fdiv (2 ^ 24))) (by kernel_rfl) (fdiv_pow .i64 _ 24 16777216 (by decide) (by decide)))
     refine GL.v (.int .i64 (k / 16777216)) ?_
     refine GL.q ?_
     refine QG.again fun _ hM => ?_
     exact ⟨(k / 16777216).toNat, (by omega), g27, (n1 + 1), c27, (k / 16777216), (P ++ [k % 16777216]), (fun t => (#[.slice (some ⟨g27, 0, none⟩) (n1 + 1) c27, undef, .pointer (some ⟨g21, 0, none⟩), .int .i64 (k / 16777216), (j22 4), .slice (some ⟨gL, 0, none⟩) nL cL, .int .i64 (nL : Int), .int .i64 (i : Int), .bool (decide ((i : Int) < (nL : Int))), (j22 9), (j22 10), (j22 11), (j22 12), (j22 13), (j22 14), (j22 15), (j22 16), (j22 17), (j22 18), (j22 19), (j22 20), (j22 21), (j22 22), (j22 23), (j22 24), (j22 25), (j22 26), (j22 27), (j22 28), .int .i64 k, .bool (k != (0 : Int)), .int .i64 k, .int .i64 (k / 16777216), .slice (some ⟨g1, 0, none⟩) n1 c1, .int .i64 k, .int .i64 (k % 16777216), .slice (some ⟨g26, 0, none⟩) 1 1, .slice (some ⟨g27, 0, none⟩) (n1 + 1) c27, undef, undef, undef, undef, undef, undef, undef, undef, undef, undef, undef, undef, undef, undef, undef, undef, undef, undef, undef] : Array Value).getD t undef), (by kernel_rfl), rfl, (hM.dropn 1).clr, (by simp [hP]), (by omega), (snoc_digs hD _), (carry_step hV)⟩
   · have hk25 : (k != (0 : Int)) = false := by simpa using hc25
     refine CG.no ?_ hk25 rfl
     refine CG.exit (QG.then_exit (QG.then_exit (QG.here ?_)))
     refine QG.k k1 ?_
     refine CG.seq fun K_ k1 => ?_
     refine CG.block ?_
     refine CG.loop (fun m_ a_ u_ => ∃ (n2 : Nat) (P : List Int) (j28 : Nat → Value), a_ = ⟨#[.slice (some ⟨g1, 0, none⟩) n2 c1, undef, .pointer (some ⟨g21, 0, none⟩), .int .i64 k, (j22 4), .slice (some ⟨gL, 0, none⟩) nL cL, .int .i64 (nL : Int), .int .i64 (i : Int), .bool (decide ((i : Int) < (nL : Int))), (j22 9), (j22 10), (j22 11), (j22 12), (j22 13), (j22 14), (j22 15), (j22 16), (j22 17), (j22 18), (j22 19), (j22 20), (j22 21), (j22 22), (j22 23), (j22 24), (j22 25), (j22 26), (j22 27), (j22 28), .int .i64 k, .bool (k != (0 : Int)), (j24 31), (j24 32), (j24 33), (j24 34), (j24 35), (j24 36), (j24 37), (j28 38), (j28 39), (j28 40), (j28 41), (j28 42), (j28 43), (j28 44), (j28 45), (j28 46), (j28 47), (j28 48), (j28 49), (j28 50), (j28 51), (j28 52), (j28 53), (j28 54), undef, undef], []⟩ ∧ m_ = n2 ∧ Mem w [gL] X u_ [.box g21 #[.slice none 0 0] 26, .own g1 2 n2 c1 (i64s P)] [] ∧ (P.length = n2) ∧ (n2 ≤ 4398046511106) ∧ (Digs 16777216 P) ∧ (val 16777216 P = (x : Int))) (fun _ hM => ⟨_, n1, P, (fun t => (#[.slice (some ⟨g1, 0, none⟩) n1 c1, undef, .pointer (some ⟨g21, 0, none⟩), .int .i64 k, (j22 4), .slice (some ⟨gL, 0, none⟩) nL cL, .int .i64 (nL : Int), .int .i64 (i : Int), .bool (decide ((i : Int) < (nL : Int))), (j22 9), (j22 10), (j22 11), (j22 12), (j22 13), (j22 14), (j22 15), (j22 16), (j22 17), (j22 18), (j22 19), (j22 20), (j22 21), (j22 22), (j22 23), (j22 24), (j22 25), (j22 26), (j22 27), (j22 28), .int .i64 k, .bool (k != (0 : Int)), (j24 31), (j24 32), (j24 33), (j24 34), (j24 35), (j24 36), (j24 37), undef, undef, undef, undef, undef, undef, undef, undef, undef, undef, undef, undef, undef, undef, undef, undef, undef, undef, undef] : Array Value).getD t undef), (by kernel_rfl), rfl, hM.clr, hP, (by omega), hD, (by rw [show k = 0 by omega] at hV; simpa using hV)⟩) ?_
     rintro m_ a_ u_ ⟨n2, P, j28, rfl, hm28, hM, hP, hn2, hD, hV⟩
     refine CG.go hM ?_
     refine CG.seq fun K_ k2 => ?_
     refine CG.seq fun K_ k3 => ?_
     by_cases hc29 : (n2 : Int) > (0 : Int)
     · have hk29 : (decide ((n2 : Int) > (0 : Int))) = true := decide_eq_true hc29
       refine CG.lin 12 ?_
       refine GL.v (.slice (some ⟨g1, 0, none⟩) n2 c1) ?_
       refine GL.v (.int .i64 (n2 : Int)) ?_
       refine GL.v (.bool true) ?_ (hr := fun u => op_b (b := (decide ((n2 : Int) > (0 : Int)))) (by kernel_rfl) hk29)
       refine GL.v (.bool true) ?_
       refine GL.v (.slice (some ⟨g1, 0, none⟩) n2 c1) ?_
       refine GL.v (.slice (some ⟨g1, 0, none⟩) n2 c1) ?_
       refine GL.v (.int .i64 (n2 : Int)) ?_
       refine GL.v (.int .i64 ((n2 : Int) - (1 : Int))) ?_ (hr := fun u => op_to (v := .int .i64 (IntKind.wrap .i64 ((n2 : Int) - (1 : Int)))) (by kernel_rfl) (wrap_i64 rfl (by omega) (by omega)))
       refine GL.r (elemPtr (some ⟨g1, 0, none⟩) (n2 - 1)) (fun _ hM => op_index rowt24 (c := c1) (k := .i64) (i := ((n2 : Int) - (1 : Int))) (n2 - 1) (by kernel_rfl) (by kernel_rfl) (by omega) (by omega) (hM.o 1 rfl).row _) ?_
       refine GL.r (.int .i64 (P.getD (n2 - 1) 0)) (fun _ hM => op_load_i64 (n := n2) (by kernel_rfl) agg2 (hM.o 1 rfl).row (by omega)) ?_
       refine GL.v (.bool ((P.getD (n2 - 1) 0) == (0 : Int))) ?_
       refine GL.v (.bool ((P.getD (n2 - 1) 0) == (0 : Int))) ?_
       refine GL.k k3 ?_
       by_cases hc30 : (P.getD (n2 - 1) 0) = (0 : Int)
       · have hk30 : ((P.getD (n2 - 1) 0) == (0 : Int)) = true := beq_iff_eq.2 hc30
         refine CG.yes ?_ hk30 rfl
         refine CG.skip ?_
         refine QG.k k2 ?_
         refine CG.block ?_
         refine CG.lin 6 ?_
         refine GL.v (.slice (some ⟨g1, 0, none⟩) n2 c1) ?_
         refine GL.v (.slice (some ⟨g1, 0, none⟩) n2 c1) ?_
         refine GL.v (.int .i64 (n2 : Int)) ?_
         refine GL.v (.int .i64 ((n2 : Int) - (1 : Int))) ?_ (hr := fun u => op_to (v := .int .i64 (IntKind.wrap .i64 ((n2 : Int) - (1 : Int)))) (by kernel_rfl) (wrap_i64 rfl (by omega) (by omega)))
         refine GL.r (.slice (some ⟨g1, 0, none⟩) (n2 - 1) c1) (fun _ hM => op_cut rowt24 (n := n2) (kd := .i64) (i := ((n2 : Int) - (1 : Int))) (n2 - 1) (by kernel_rfl) (by kernel_rfl) (by omega) (by have := (hM.o 1 rfl).le; omega) _) ?_
         refine GL.mem (fun _ hM => hM.cu1 (Own.cut_i64 (j := n2 - 1) (by omega))) ?_
         refine GL.v (.slice (some ⟨g1, 0, none⟩) (n2 - 1) c1) ?_
         refine GL.q ?_
         refine QG.block ?_
         refine QG.again fun _ hM => ?_
         have hz : P.getD (n2 - 1) 0 = 0 := hc30
         exact ⟨(n2 - 1), (by omega), (n2 - 1), (P.take (n2 - 1)), (fun t => (#[.slice (some ⟨g1, 0, none⟩) (n2 - 1) c1, undef, .pointer (some ⟨g21, 0, none⟩), .int .i64 k, (j22 4), .slice (some ⟨gL, 0, none⟩) nL cL, .int .i64 (nL : Int), .int .i64 (i : Int), .bool (decide ((i : Int) < (nL : Int))), (j22 9), (j22 10), (j22 11), (j22 12), (j22 13), (j22 14), (j22 15), (j22 16), (j22 17), (j22 18), (j22 19), (j22 20), (j22 21), (j22 22), (j22 23), (j22 24), (j22 25), (j22 26), (j22 27), (j22 28), .int .i64 k, .bool (k != (0 : Int)), (j24 31), (j24 32), (j24 33), (j24 34), (j24 35), (j24 36), (j24 37), .slice (some ⟨g1, 0, none⟩) n2 c1, .int .i64 (n2 : Int), .bool true, .bool true, .slice (some ⟨g1, 0, none⟩) n2 c1, .slice (some ⟨g1, 0, none⟩) n2 c1, .int .i64 (n2 : Int), .int .i64 ((n2 : Int) - (1 : Int)), elemPtr (some ⟨g1, 0, none⟩) (n2 - 1), .int .i64 (P.getD (n2 - 1) 0), .bool ((P.getD (n2 - 1) 0) == (0 : Int)), .bool ((P.getD (n2 - 1) 0) == (0 : Int)), .slice (some ⟨g1, 0, none⟩) n2 c1, .slice (some ⟨g1, 0, none⟩) n2 c1, .int .i64 (n2 : Int), .int .i64 ((n2 : Int) - (1 : Int)), .slice (some ⟨g1, 0, none⟩) (n2 - 1) c1, undef, undef] : Array Value).getD t undef), (by kernel_rfl), rfl, hM.clr, (by simp; omega), (by omega), (hD.take _), (by rw [strip_val hP (by omega) hz]; exact hV)⟩
       · have hk30 : ((P.getD (n2 - 1) 0) == (0 : Int)) = false := beq_eq_false_iff_ne.2 hc30
         refine CG.no ?_ hk30 rfl
         have hlast : n2 = 0 ∨ P.getD (n2 - 1) 0 ≠ 0 := by first | (left; omega) | (right; simpa using hc30)
         refine CG.exit (QG.then_exit (QG.then_exit (QG.here ?_)))
         refine QG.k k1 ?_
         refine CG.seq fun K_ k1 => ?_
         refine CG.lin 3 ?_
         refine GL.v (.slice (some ⟨g1, 0, none⟩) n2 c1) ?_
         refine GL.v (.agg #[.slice (some ⟨g1, 0, none⟩) n2 c1]) ?_
         refine GL.sA (cs' := #[.slice (some ⟨g1, 0, none⟩) n2 c1]) (fun _ _ => Mem.st0) (fun _ hM => hM.b 0 rfl) siz26 ?_
         refine GL.k k1 ?_
         refine CG.mem (fun _ hM => hM.pu1 fun hO _ hX => Dk.own (x := x) hO (strip_end (by have := hO.ilen; omega) hD hV hlast) hX) ?_
         refine CG.ret (QG.ret (fun _ hM => results_one rfl (res_cell rfl (loadVar_agg agg26 siz26 (hM.b 0 rfl) rfl rfl))) ?_)
         intro _ hM
         exact ⟨_, _, _, rfl, (hM.out (hM.f 0 rfl)), hM.upd⟩
     · have hk29 : (decide ((n2 : Int) > (0 : Int))) = false := decide_eq_false hc29
       refine CG.lin 12 ?_
       refine GL.v (.slice (some ⟨g1, 0, none⟩) n2 c1) ?_
       refine GL.v (.int .i64 (n2 : Int)) ?_
       refine GL.v (.bool false) ?_ (hr := fun u => op_b (b := (decide ((n2 : Int) > (0 : Int)))) (by kernel_rfl) hk29)
       refine GL.v (.bool false) ?_
       refine GL.sk ?_
       refine GL.sk ?_
       refine GL.sk ?_
       refine GL.sk ?_
       refine GL.sk ?_
       refine GL.sk ?_
       refine GL.sk ?_
       refine GL.v (.bool false) ?_
       refine GL.k k3 ?_
       refine CG.no ?_ rfl rfl
       have hlast : n2 = 0 ∨ P.getD (n2 - 1) 0 ≠ 0 := by first | (left; omega) | (right; simpa using hc29)
       refine CG.exit (QG.then_exit (QG.then_exit (QG.here ?_)))
       refine QG.k k1 ?_
       refine CG.seq fun K_ k1 => ?_
       refine CG.lin 3 ?_
       refine GL.v (.slice (some ⟨g1, 0, none⟩) n2 c1) ?_
       refine GL.v (.agg #[.slice (some ⟨g1, 0, none⟩) n2 c1]) ?_
       refine GL.sA (cs' := #[.slice (some ⟨g1, 0, none⟩) n2 c1]) (fun _ _ => Mem.st0) (fun _ hM => hM.b 0 rfl) siz26 ?_
       refine GL.k k1 ?_
       refine CG.mem (fun _ hM => hM.pu1 fun hO _ hX => Dk.own (x := x) hO (strip_end (by have := hO.ilen; omega) hD hV hlast) hX) ?_
       refine CG.ret (QG.ret (fun _ hM => results_one rfl (res_cell rfl (loadVar_agg agg26 siz26 (hM.b 0 rfl) rfl rfl))) ?_)
       intro _ hM
       exact ⟨_, _, _, rfl, (hM.out (hM.f 0 rfl)), hM.upd⟩

set_option maxRecDepth 100000 in
set_option maxHeartbeats 400000 in
theorem plus_sub_ok {w : World} {X : Nat → Prop} {A1 : Option Addr} {n1 : Nat} {c1 : Nat} {x : Nat} {A2 : Option Addr} {n2 : Nat} {c2 : Nat} {y : Nat} (hX : ∀ k, X k → k < w.heap.size) (h1 : Dk.R X w [.slice A1 n1 c1] x) (h2 : Dk.R X w [.slice A2 n2 c2] y) (p1 : y ≤ x) (p2 : szn x ≤ 4398046511104) (p3 : szn y ≤ 4398046511104) :
    Calls Tryz.prog 120 #[.agg #[.slice A1 n1 c1], .agg #[.slice A2 n2 c2], .int .i64 (-1)] w (fun e w' => ∃ Ar nr cr, e = .returned (.agg #[.slice Ar nr cr]) ∧ Dk.R X w' [.slice Ar nr cr] (x - y) ∧ Below w.heap.size w w') := by
 have hM := ((Mem.start hX).add0 h1).add0 h2
 have l1 := Dk.le h1
 have m1 := Dk.len h1
 have l2 := Dk.le h2
 have m2 := Dk.len h2
 have hsx : szn x = n1 := m1
 have hsy : szn y = n2 := m2
 have hsx : (dg x).length = n1 := m1
 have hsy : (dg y).length = n2 := m2
 refine calls_of hM Tryz.func120 Tryz.ntmps120 ?_
 refine CG.seq fun K_ k1 => ?_
 refine CG.lin 3 ?_
 refine GL.bA #[.slice A1 n1 c1] fun g21 => ?_
 refine GL.bA #[.slice A2 n2 c2] fun g22 => ?_
 refine GL.aA zer26 fun g23 => ?_
 refine GL.k k1 ?_
 refine CG.seq fun K_ k1 => ?_
 refine CG.lin 9 ?_
 refine GL.v (.pointer (some ⟨g21, 0, none⟩)) ?_
 refine GL.r (.slice A1 n1 c1) (fun _ hM => op_load_one (off := 0) (by kernel_rfl) agg24 (hM.b 2 rfl) rfl) ?_
 refine GL.v (.int .i64 (n1 : Int)) ?_
 refine GL.v (.pointer (some ⟨g22, 0, none⟩)) ?_
 refine GL.r (.slice A2 n2 c2) (fun _ hM => op_load_one (off := 0) (by kernel_rfl) agg24 (hM.b 1 rfl) rfl) ?_
 refine GL.v (.int .i64 (n2 : Int)) ?_
 refine GL.v (.int .i64 ((max n1 n2 : Nat) : Int)) ?_ (hr := fun u => op_to (v := .int .i64 (if (n2 : Int) > (n1 : Int) then (n2 : Int) else (n1 : Int))) (by kernel_rfl) (max_int _ _ _))
 refine GL.row (fun _ => op_make rowt24 (kl := .i64) (kc := .i64) (l := ((max n1 n2 : Nat) : Int)) (c := ((max n1 n2 : Nat) : Int)) (max n1 n2) (max n1 n2) (by kernel_rfl) (by kernel_rfl) (by omega) (by omega) (by omega) (by omega) (by omega)) (fun _ _ _ hm => own_made_i64 hm (by omega) (by omega)) fun g24 => ?_
 refine GL.v (.slice (some ⟨g24, 0, none⟩) (max n1 n2) (max n1 n2)) ?_
 refine GL.k k1 ?_
 refine CG.seq fun K_ k1 => ?_
 refine CG.lin 4 ?_
 refine GL.v (.slice (some ⟨g24, 0, none⟩) (max n1 n2) (max n1 n2)) ?_
 refine GL.v (.pointer (some ⟨g21, 0, none⟩)) ?_
 refine GL.r (.slice A1 n1 c1) (fun _ hM => op_load_one (off := 0) (by kernel_rfl) agg24 (hM.b 3 rfl) rfl) ?_
 refine GL.cp (v := .int .i64 (n1 : Int)) (fun _ _ => Mem.gr0) (fun _ hM => op_copy_i64 (cx := c1) rowt24 (hM.o 0 rfl) (Dk.row (hM.f 1 rfl)) (by kernel_rfl) (by kernel_rfl) (by omega)) ?_
 refine GL.k k1 ?_
 refine CG.seq fun K_ k1 => ?_
 refine CG.seq fun K_ k2 => ?_
 refine CG.lin 4 ?_
 refine GL.v (.pointer (some ⟨g22, 0, none⟩)) ?_
 refine GL.r (.slice A2 n2 c2) (fun _ hM => op_load_one (off := 0) (by kernel_rfl) agg24 (hM.b 2 rfl) rfl) ?_
 refine GL.v (.int .i64 (n2 : Int)) ?_
 refine GL.v (.int .i64 0) ?_
 refine GL.k k2 ?_
 refine CG.block ?_
 refine CG.loop (fun m_ a_ u_ => ∃ (i : Nat) (M : List Int) (j26 : Nat → Value), a_ = ⟨#[.agg #[.slice A1 n1 c1], .agg #[.slice A2 n2 c2], .int .i64 (-1), .pointer (some ⟨g21, 0, none⟩), .pointer (some ⟨g22, 0, none⟩), undef, .pointer (some ⟨g23, 0, none⟩), .slice (some ⟨g24, 0, none⟩) (max n1 n2) (max n1 n2), (j26 8), (j26 9), .pointer (some ⟨g21, 0, none⟩), .slice A1 n1 c1, .int .i64 (n1 : Int), .pointer (some ⟨g22, 0, none⟩), .slice A2 n2 c2, .int .i64 (n2 : Int), .int .i64 ((max n1 n2 : Nat) : Int), .slice (some ⟨g24, 0, none⟩) (max n1 n2) (max n1 n2), .slice (some ⟨g24, 0, none⟩) (max n1 n2) (max n1 n2), .pointer (some ⟨g21, 0, none⟩), .slice A1 n1 c1, .int .i64 (n1 : Int), .pointer (some ⟨g22, 0, none⟩), .slice A2 n2 c2, .int .i64 (n2 : Int), .int .i64 (i : Int), (j26 26), (j26 27), (j26 28), (j26 29), (j26 30), (j26 31), (j26 32), (j26 33), (j26 34), (j26 35), (j26 36), (j26 37), (j26 38), (j26 39), undef, undef], []⟩ ∧ m_ = n2 - i ∧ Mem w [] X u_ [.own g24 2 (max n1 n2) (max n1 n2) (i64s M), .box g23 #[.slice none 0 0] 26, .box g22 #[.slice A2 n2 c2] 26, .box g21 #[.slice A1 n1 c1] 26] [⟨Dk, [.slice A2 n2 c2], y⟩, ⟨Dk, [.slice A1 n1 c1], x⟩] ∧ (i ≤ n2) ∧ (val 16777216 M = (x : Int) + ((-1) : Int) * val 16777216 ((dg y).take i)) ∧ (∀ j, (-16777216 : Int) ≤ M.getD j 0 ∧ M.getD j 0 ≤ 33554432) ∧ (∀ j, i ≤ j → (0 : Int) ≤ M.getD j 0 ∧ M.getD j 0 ≤ 16777215)) (fun _ hM => ⟨_, 0, (dg x ++ (List.replicate (max n1 n2) 0).drop n1), (fun t => (#[.agg #[.slice A1 n1 c1], .agg #[.slice A2 n2 c2], .int .i64 (-1), .pointer (some ⟨g21, 0, none⟩), .pointer (some ⟨g22, 0, none⟩), undef, .pointer (some ⟨g23, 0, none⟩), .slice (some ⟨g24, 0, none⟩) (max n1 n2) (max n1 n2), undef, undef, .pointer (some ⟨g21, 0, none⟩), .slice A1 n1 c1, .int .i64 (n1 : Int), .pointer (some ⟨g22, 0, none⟩), .slice A2 n2 c2, .int .i64 (n2 : Int), .int .i64 ((max n1 n2 : Nat) : Int), .slice (some ⟨g24, 0, none⟩) (max n1 n2) (max n1 n2), .slice (some ⟨g24, 0, none⟩) (max n1 n2) (max n1 n2), .pointer (some ⟨g21, 0, none⟩), .slice A1 n1 c1, .int .i64 (n1 : Int), .pointer (some ⟨g22, 0, none⟩), .slice A2 n2 c2, .int .i64 (n2 : Int), .int .i64 0, undef, undef, undef, undef, undef, undef, undef, undef, undef, undef, undef, undef, undef, undef, undef, undef] : Array Value).getD t undef), (by kernel_rfl), rfl, ((hM.clr).add (hM.f 1 rfl)).add (hM.f 0 rfl), (by omega), (by rw [val_pad]; simp), (fun j => by have := pad_get x (max n1 n2) n1 j; omega), (fun j _ => pad_get x (max n1 n2) n1 j)⟩) ?_
 rintro m_ a_ u_ ⟨i, M, j26, rfl, hm26, hM, hi, hV, hB, hT⟩
 have hMl := (hM.o 0 rfl).ilen
 refine CG.go hM ?_
 refine CG.seq fun K_ k2 => ?_
 refine CG.lin 1 ?_
 refine GL.v (.bool (decide ((i : Int) < (n2 : Int)))) ?_
 refine GL.k k2 ?_
 refine CG.seq fun K_ k2 => ?_
 by_cases hc27 : (i : Int) < (n2 : Int)
 · have hk27 : (decide ((i : Int) < (n2 : Int))) = true := decide_eq_true hc27
   refine CG.yes ?_ hk27 rfl
   refine CG.skip ?_
   refine QG.k k2 ?_
   refine CG.seq fun K_ k2 => ?_
   refine CG.block ?_
   refine CG.seq fun K_ k3 => ?_
   refine CG.lin 5 ?_
   refine GL.v (.int .i64 (i : Int)) ?_
   refine GL.r (elemPtr A2 i) (fun _ hM => op_index rowt24 (c := c2) (k := .i64) (i := (i : Int)) i (by kernel_rfl) (by kernel_rfl) (by omega) (by omega) (Dk.row (hM.f 0 rfl)) _) ?_
   refine GL.r (.int .i64 ((dg y).getD i 0)) (fun _ hM => op_load_i64 (n := n2) (by kernel_rfl) agg2 (Dk.row (hM.f 0 rfl)) (by omega)) ?_
   refine GL.v (.int .i64 (i : Int)) ?_
   refine GL.v (.int .i64 ((dg y).getD i 0)) ?_
   refine GL.k k3 ?_
   refine CG.lin 10 ?_
   refine GL.v (.slice (some ⟨g24, 0, none⟩) (max n1 n2) (max n1 n2)) ?_
   refine GL.v (.int .i64 (i : Int)) ?_
   refine GL.r (elemPtr (some ⟨g24, 0, none⟩) i) (fun _ hM => op_index rowt24 (c := (max n1 n2)) (k := .i64) (i := (i : Int)) i (by kernel_rfl) (by kernel_rfl) (by omega) (by omega) (hM.o 0 rfl).row _) ?_
   refine GL.r (.int .i64 (M.getD i 0)) (fun _ hM => op_load_i64 (n := (max n1 n2)) (by kernel_rfl) agg2 (hM.o 0 rfl).row (by omega)) ?_
   refine GL.v (.int .i64 (-1)) ?_
   refine GL.v (.int .i64 ((dg y).getD i 0)) ?_
   have hy := dg_get y i
   refine GL.v (.int .i64 (((-1) : Int) * ((dg y).getD i 0))) ?_ (hr := fun u => op_to (v := .int .i64 (IntKind.wrap .i64 (((-1) : Int) * ((dg y).getD i 0)))) (by kernel_rfl) (wrap_i64 rfl (by omega) (by omega)))
   have hm := hB i
   have hm2 := hT i (by omega)
   refine GL.v (.int .i64 ((M.getD i 0) + (((-1) : Int) * ((dg y).getD i 0)))) ?_ (hr := fun u => op_to (v := .int .i64 (IntKind.wrap .i64 ((M.getD i 0) + (((-1) : Int) * ((dg y).getD i 0))))) (by kernel_rfl) (wrap_i64 rfl (by omega) (by omega)))
   refine GL.r (elemPtr (some ⟨g24, 0, none⟩) i) (fun _ hM => op_index rowt24 (c := (max n1 n2)) (k := .i64) (i := (i : Int)) i (by kernel_rfl) (by kernel_rfl) (by omega) (by omega) (hM.o 0 rfl).row _) ?_
   refine GL.el (fun _ _ _ => Mem.el0) (fun _ hM => op_set_i64 i ((M.getD i 0) + (((-1) : Int) * ((dg y).getD i 0))) siz2 (hM.o 0 rfl) (by kernel_rfl) (by kernel_rfl) (by omega)) ?_
   refine GL.q ?_
   refine QG.block ?_
   refine QG.k k2 ?_
   refine CG.lin 2 ?_
   refine GL.v (.int .i64 ((i + 1 : Nat) : Int)) ?_ (hr := fun u => op_to (v := .int .i64 (IntKind.wrap .i64 ((i : Int) + (1 : Int)))) (by kernel_rfl) (wrap_i64 (by omega) (by omega) (by omega)))
   refine GL.v (.int .i64 ((i + 1 : Nat) : Int)) ?_
   refine GL.q ?_
   refine QG.again fun _ hM => ?_
   exact ⟨n2 - (i + 1), (by omega), (i + 1), (M.set i ((M.getD i 0) + (((-1) : Int) * ((dg y).getD i 0)))), (fun t => (#[.agg #[.slice A1 n1 c1], .agg #[.slice A2 n2 c2], .int .i64 (-1), .pointer (some ⟨g21, 0, none⟩), .pointer (some ⟨g22, 0, none⟩), undef, .pointer (some ⟨g23, 0, none⟩), .slice (some ⟨g24, 0, none⟩) (max n1 n2) (max n1 n2), .int .i64 (i : Int), .int .i64 ((dg y).getD i 0), .pointer (some ⟨g21, 0, none⟩), .slice A1 n1 c1, .int .i64 (n1 : Int), .pointer (some ⟨g22, 0, none⟩), .slice A2 n2 c2, .int .i64 (n2 : Int), .int .i64 ((max n1 n2 : Nat) : Int), .slice (some ⟨g24, 0, none⟩) (max n1 n2) (max n1 n2), .slice (some ⟨g24, 0, none⟩) (max n1 n2) (max n1 n2), .pointer (some ⟨g21, 0, none⟩), .slice A1 n1 c1, .int .i64 (n1 : Int), .pointer (some ⟨g22, 0, none⟩), .slice A2 n2 c2, .int .i64 (n2 : Int), .int .i64 ((i + 1 : Nat) : Int), .bool (decide ((i : Int) < (n2 : Int))), .int .i64 (i : Int), elemPtr A2 i, .int .i64 ((dg y).getD i 0), .slice (some ⟨g24, 0, none⟩) (max n1 n2) (max n1 n2), .int .i64 (i : Int), elemPtr (some ⟨g24, 0, none⟩) i, .int .i64 (M.getD i 0), .int .i64 (-1), .int .i64 ((dg y).getD i 0), .int .i64 (((-1) : Int) * ((dg y).getD i 0)), .int .i64 ((M.getD i 0) + (((-1) : Int) * ((dg y).getD i 0))), elemPtr (some ⟨g24, 0, none⟩) i, .int .i64 ((i + 1 : Nat) : Int), undef, undef] : Array Value).getD t undef), (by kernel_rfl), rfl, ((hM.clr).add (hM.f 1 rfl)).add (hM.f 0 rfl), (by omega), (plus_val (by omega) (by omega) hV), (set_bound (by omega) hB (by omega)), (set_above (by omega) hT)⟩
 · have hk27 : (decide ((i : Int) < (n2 : Int))) = false := decide_eq_false hc27
   refine CG.no ?_ hk27 rfl
   refine CG.exit (QG.then_exit (QG.then_exit (QG.here ?_)))
   refine QG.k k1 ?_
   refine CG.seq fun K_ k1 => ?_
   refine CG.lin 3 ?_
   refine GL.v (.slice (some ⟨g24, 0, none⟩) (max n1 n2) (max n1 n2)) ?_
   refine GL.call (fun _ hM => settled_ok hM.gi0.1.avlt (x := x - y) hM.gi0.2.1 hM.gi0.2.2 (by rw [hV, take_val y i (by omega)]; omega) (mem_of_get hB (by decide) (by decide)) (by first | assumption | omega)) ?_
   rintro _ _ _ hM ⟨A28, n28, c28, rfl, h28, hb⟩
   refine ⟨_, _, _, rfl, (hM.up0 hb).add h28, ?_⟩
   refine GL.sA (cs' := #[.slice A28 n28 c28]) (fun _ _ => Mem.st0) (fun _ hM => hM.b 0 rfl) siz26 ?_
   refine GL.k k1 ?_
   refine CG.ret (QG.ret (fun _ hM => results_one rfl (res_cell rfl (loadVar_agg agg26 siz26 (hM.b 0 rfl) rfl rfl))) ?_)
   intro _ hM
   exact ⟨_, _, _, rfl, (hM.out (hM.f 0 rfl)), hM.below⟩

set_option maxRecDepth 100000 in
set_option maxHeartbeats 400000 in
theorem plus_add_ok {w : World} {X : Nat → Prop} {A1 : Option Addr} {n1 : Nat} {c1 : Nat} {x : Nat} {A2 : Option Addr} {n2 : Nat} {c2 : Nat} {y : Nat} (hX : ∀ k, X k → k < w.heap.size) (h1 : Dk.R X w [.slice A1 n1 c1] x) (h2 : Dk.R X w [.slice A2 n2 c2] y) (p1 : szn x + szn y ≤ 1099511627776) :
    Calls Tryz.prog 120 #[.agg #[.slice A1 n1 c1], .agg #[.slice A2 n2 c2], .int .i64 1] w (fun e w' => ∃ Ar nr cr, e = .returned (.agg #[.slice Ar nr cr]) ∧ Dk.R X w' [.slice Ar nr cr] (x + y) ∧ Below w.heap.size w w') := by
 have hM := ((Mem.start hX).add0 h1).add0 h2
 have l1 := Dk.le h1
 have m1 := Dk.len h1
 have l2 := Dk.le h2
 have m2 := Dk.len h2
 have hsx : szn x = n1 := m1
 have hsy : szn y = n2 := m2
 have hsx : (dg x).length = n1 := m1
 have hsy : (dg y).length = n2 := m2
 refine calls_of hM Tryz.func120 Tryz.ntmps120 ?_
 refine CG.seq fun K_ k1 => ?_
 refine CG.lin 3 ?_
 refine GL.bA #[.slice A1 n1 c1] fun g21 => ?_
 refine GL.bA #[.slice A2 n2 c2] fun g22 => ?_
 refine GL.aA zer26 fun g23 => ?_
 refine GL.k k1 ?_
 refine CG.seq fun K_ k1 => ?_
 refine CG.lin 9 ?_
 refine GL.v (.pointer (some ⟨g21, 0, none⟩)) ?_
 refine GL.r (.slice A1 n1 c1) (fun _ hM => op_load_one (off := 0) (by kernel_rfl) agg24 (hM.b 2 rfl) rfl) ?_
 refine GL.v (.int .i64 (n1 : Int)) ?_
 refine GL.v (.pointer (some ⟨g22, 0, none⟩)) ?_
 refine GL.r (.slice A2 n2 c2) (fun _ hM => op_load_one (off := 0) (by kernel_rfl) agg24 (hM.b 1 rfl) rfl) ?_
 refine GL.v (.int .i64 (n2 : Int)) ?_
 refine GL.v (.int .i64 ((max n1 n2 : Nat) : Int)) ?_ (hr := fun u => op_to (v := .int .i64 (if (n2 : Int) > (n1 : Int) then (n2 : Int) else (n1 : Int))) (by kernel_rfl) (max_int _ _ _))
 refine GL.row (fun _ => op_make rowt24 (kl := .i64) (kc := .i64) (l := ((max n1 n2 : Nat) : Int)) (c := ((max n1 n2 : Nat) : Int)) (max n1 n2) (max n1 n2) (by kernel_rfl) (by kernel_rfl) (by omega) (by omega) (by omega) (by omega) (by omega)) (fun _ _ _ hm => own_made_i64 hm (by omega) (by omega)) fun g24 => ?_
 refine GL.v (.slice (some ⟨g24, 0, none⟩) (max n1 n2) (max n1 n2)) ?_
 refine GL.k k1 ?_
 refine CG.seq fun K_ k1 => ?_
 refine CG.lin 4 ?_
 refine GL.v (.slice (some ⟨g24, 0, none⟩) (max n1 n2) (max n1 n2)) ?_
 refine GL.v (.pointer (some ⟨g21, 0, none⟩)) ?_
 refine GL.r (.slice A1 n1 c1) (fun _ hM => op_load_one (off := 0) (by kernel_rfl) agg24 (hM.b 3 rfl) rfl) ?_
 refine GL.cp (v := .int .i64 (n1 : Int)) (fun _ _ => Mem.gr0) (fun _ hM => op_copy_i64 (cx := c1) rowt24 (hM.o 0 rfl) (Dk.row (hM.f 1 rfl)) (by kernel_rfl) (by kernel_rfl) (by omega)) ?_
 refine GL.k k1 ?_
 refine CG.seq fun K_ k1 => ?_
 refine CG.seq fun K_ k2 => ?_
 refine CG.lin 4 ?_
 refine GL.v (.pointer (some ⟨g22, 0, none⟩)) ?_
 refine GL.r (.slice A2 n2 c2) (fun _ hM => op_load_one (off := 0) (by kernel_rfl) agg24 (hM.b 2 rfl) rfl) ?_
 refine GL.v (.int .i64 (n2 : Int)) ?_
 refine GL.v (.int .i64 0) ?_
 refine GL.k k2 ?_
 refine CG.block ?_
 refine CG.loop (fun m_ a_ u_ => ∃ (i : Nat) (M : List Int) (j26 : Nat → Value), a_ = ⟨#[.agg #[.slice A1 n1 c1], .agg #[.slice A2 n2 c2], .int .i64 1, .pointer (some ⟨g21, 0, none⟩), .pointer (some ⟨g22, 0, none⟩), undef, .pointer (some ⟨g23, 0, none⟩), .slice (some ⟨g24, 0, none⟩) (max n1 n2) (max n1 n2), (j26 8), (j26 9), .pointer (some ⟨g21, 0, none⟩), .slice A1 n1 c1, .int .i64 (n1 : Int), .pointer (some ⟨g22, 0, none⟩), .slice A2 n2 c2, .int .i64 (n2 : Int), .int .i64 ((max n1 n2 : Nat) : Int), .slice (some ⟨g24, 0, none⟩) (max n1 n2) (max n1 n2), .slice (some ⟨g24, 0, none⟩) (max n1 n2) (max n1 n2), .pointer (some ⟨g21, 0, none⟩), .slice A1 n1 c1, .int .i64 (n1 : Int), .pointer (some ⟨g22, 0, none⟩), .slice A2 n2 c2, .int .i64 (n2 : Int), .int .i64 (i : Int), (j26 26), (j26 27), (j26 28), (j26 29), (j26 30), (j26 31), (j26 32), (j26 33), (j26 34), (j26 35), (j26 36), (j26 37), (j26 38), (j26 39), undef, undef], []⟩ ∧ m_ = n2 - i ∧ Mem w [] X u_ [.own g24 2 (max n1 n2) (max n1 n2) (i64s M), .box g23 #[.slice none 0 0] 26, .box g22 #[.slice A2 n2 c2] 26, .box g21 #[.slice A1 n1 c1] 26] [⟨Dk, [.slice A2 n2 c2], y⟩, ⟨Dk, [.slice A1 n1 c1], x⟩] ∧ (i ≤ n2) ∧ (val 16777216 M = (x : Int) + (1 : Int) * val 16777216 ((dg y).take i)) ∧ (∀ j, (-16777216 : Int) ≤ M.getD j 0 ∧ M.getD j 0 ≤ 33554432) ∧ (∀ j, i ≤ j → (0 : Int) ≤ M.getD j 0 ∧ M.getD j 0 ≤ 16777215)) (fun _ hM => ⟨_, 0, (dg x ++ (List.replicate (max n1 n2) 0).drop n1), (fun t => (#[.agg #[.slice A1 n1 c1], .agg #[.slice A2 n2 c2], .int .i64 1, .pointer (some ⟨g21, 0, none⟩), .pointer (some ⟨g22, 0, none⟩), undef, .pointer (some ⟨g23, 0, none⟩), .slice (some ⟨g24, 0, none⟩) (max n1 n2) (max n1 n2), undef, undef, .pointer (some ⟨g21, 0, none⟩), .slice A1 n1 c1, .int .i64 (n1 : Int), .pointer (some ⟨g22, 0, none⟩), .slice A2 n2 c2, .int .i64 (n2 : Int), .int .i64 ((max n1 n2 : Nat) : Int), .slice (some ⟨g24, 0, none⟩) (max n1 n2) (max n1 n2), .slice (some ⟨g24, 0, none⟩) (max n1 n2) (max n1 n2), .pointer (some ⟨g21, 0, none⟩), .slice A1 n1 c1, .int .i64 (n1 : Int), .pointer (some ⟨g22, 0, none⟩), .slice A2 n2 c2, .int .i64 (n2 : Int), .int .i64 0, undef, undef, undef, undef, undef, undef, undef, undef, undef, undef, undef, undef, undef, undef, undef, undef] : Array Value).getD t undef), (by kernel_rfl), rfl, ((hM.clr).add (hM.f 1 rfl)).add (hM.f 0 rfl), (by omega), (by rw [val_pad]; simp), (fun j => by have := pad_get x (max n1 n2) n1 j; omega), (fun j _ => pad_get x (max n1 n2) n1 j)⟩) ?_
 rintro m_ a_ u_ ⟨i, M, j26, rfl, hm26, hM, hi, hV, hB, hT⟩
 have hMl := (hM.o 0 rfl).ilen
 refine CG.go hM ?_
 refine CG.seq fun K_ k2 => ?_
 refine CG.lin 1 ?_
 refine GL.v (.bool (decide ((i : Int) < (n2 : Int)))) ?_
 refine GL.k k2 ?_
 refine CG.seq fun K_ k2 => ?_
 by_cases hc27 : (i : Int) < (n2 : Int)
 · have hk27 : (decide ((i : Int) < (n2 : Int))) = true := decide_eq_true hc27
   refine CG.yes ?_ hk27 rfl
   refine CG.skip ?_
   refine QG.k k2 ?_
   refine CG.seq fun K_ k2 => ?_
   refine CG.block ?_
   refine CG.seq fun K_ k3 => ?_
   refine CG.lin 5 ?_
   refine GL.v (.int .i64 (i : Int)) ?_
   refine GL.r (elemPtr A2 i) (fun _ hM => op_index rowt24 (c := c2) (k := .i64) (i := (i : Int)) i (by kernel_rfl) (by kernel_rfl) (by omega) (by omega) (Dk.row (hM.f 0 rfl)) _) ?_
   refine GL.r (.int .i64 ((dg y).getD i 0)) (fun _ hM => op_load_i64 (n := n2) (by kernel_rfl) agg2 (Dk.row (hM.f 0 rfl)) (by omega)) ?_
   refine GL.v (.int .i64 (i : Int)) ?_
   refine GL.v (.int .i64 ((dg y).getD i 0)) ?_
   refine GL.k k3 ?_
   refine CG.lin 10 ?_
   refine GL.v (.slice (some ⟨g24, 0, none⟩) (max n1 n2) (max n1 n2)) ?_
   refine GL.v (.int .i64 (i : Int)) ?_
   refine GL.r (elemPtr (some ⟨g24, 0, none⟩) i) (fun _ hM => op_index rowt24 (c := (max n1 n2)) (k := .i64) (i := (i : Int)) i (by kernel_rfl) (by kernel_rfl) (by omega) (by omega) (hM.o 0 rfl).row _) ?_
   refine GL.r (.int .i64 (M.getD i 0)) (fun _ hM => op_load_i64 (n := (max n1 n2)) (by kernel_rfl) agg2 (hM.o 0 rfl).row (by omega)) ?_
   refine GL.v (.int .i64 1) ?_
   refine GL.v (.int .i64 ((dg y).getD i 0)) ?_
   have hy := dg_get y i
   refine GL.v (.int .i64 ((1 : Int) * ((dg y).getD i 0))) ?_ (hr := fun u => op_to (v := .int .i64 (IntKind.wrap .i64 ((1 : Int) * ((dg y).getD i 0)))) (by kernel_rfl) (wrap_i64 rfl (by omega) (by omega)))
   have hm := hB i
   have hm2 := hT i (by omega)
   refine GL.v (.int .i64 ((M.getD i 0) + ((1 : Int) * ((dg y).getD i 0)))) ?_ (hr := fun u => op_to (v := .int .i64 (IntKind.wrap .i64 ((M.getD i 0) + ((1 : Int) * ((dg y).getD i 0))))) (by kernel_rfl) (wrap_i64 rfl (by omega) (by omega)))
   refine GL.r (elemPtr (some ⟨g24, 0, none⟩) i) (fun _ hM => op_index rowt24 (c := (max n1 n2)) (k := .i64) (i := (i : Int)) i (by kernel_rfl) (by kernel_rfl) (by omega) (by omega) (hM.o 0 rfl).row _) ?_
   refine GL.el (fun _ _ _ => Mem.el0) (fun _ hM => op_set_i64 i ((M.getD i 0) + ((1 : Int) * ((dg y).getD i 0))) siz2 (hM.o 0 rfl) (by kernel_rfl) (by kernel_rfl) (by omega)) ?_
   refine GL.q ?_
   refine QG.block ?_
   refine QG.k k2 ?_
   refine CG.lin 2 ?_
   refine GL.v (.int .i64 ((i + 1 : Nat) : Int)) ?_ (hr := fun u => op_to (v := .int .i64 (IntKind.wrap .i64 ((i : Int) + (1 : Int)))) (by kernel_rfl) (wrap_i64 (by omega) (by omega) (by omega)))
   refine GL.v (.int .i64 ((i + 1 : Nat) : Int)) ?_
   refine GL.q ?_
   refine QG.again fun _ hM => ?_
   exact ⟨n2 - (i + 1), (by omega), (i + 1), (M.set i ((M.getD i 0) + ((1 : Int) * ((dg y).getD i 0)))), (fun t => (#[.agg #[.slice A1 n1 c1], .agg #[.slice A2 n2 c2], .int .i64 1, .pointer (some ⟨g21, 0, none⟩), .pointer (some ⟨g22, 0, none⟩), undef, .pointer (some ⟨g23, 0, none⟩), .slice (some ⟨g24, 0, none⟩) (max n1 n2) (max n1 n2), .int .i64 (i : Int), .int .i64 ((dg y).getD i 0), .pointer (some ⟨g21, 0, none⟩), .slice A1 n1 c1, .int .i64 (n1 : Int), .pointer (some ⟨g22, 0, none⟩), .slice A2 n2 c2, .int .i64 (n2 : Int), .int .i64 ((max n1 n2 : Nat) : Int), .slice (some ⟨g24, 0, none⟩) (max n1 n2) (max n1 n2), .slice (some ⟨g24, 0, none⟩) (max n1 n2) (max n1 n2), .pointer (some ⟨g21, 0, none⟩), .slice A1 n1 c1, .int .i64 (n1 : Int), .pointer (some ⟨g22, 0, none⟩), .slice A2 n2 c2, .int .i64 (n2 : Int), .int .i64 ((i + 1 : Nat) : Int), .bool (decide ((i : Int) < (n2 : Int))), .int .i64 (i : Int), elemPtr A2 i, .int .i64 ((dg y).getD i 0), .slice (some ⟨g24, 0, none⟩) (max n1 n2) (max n1 n2), .int .i64 (i : Int), elemPtr (some ⟨g24, 0, none⟩) i, .int .i64 (M.getD i 0), .int .i64 1, .int .i64 ((dg y).getD i 0), .int .i64 ((1 : Int) * ((dg y).getD i 0)), .int .i64 ((M.getD i 0) + ((1 : Int) * ((dg y).getD i 0))), elemPtr (some ⟨g24, 0, none⟩) i, .int .i64 ((i + 1 : Nat) : Int), undef, undef] : Array Value).getD t undef), (by kernel_rfl), rfl, ((hM.clr).add (hM.f 1 rfl)).add (hM.f 0 rfl), (by omega), (plus_val (by omega) (by omega) hV), (set_bound (by omega) hB (by omega)), (set_above (by omega) hT)⟩
 · have hk27 : (decide ((i : Int) < (n2 : Int))) = false := decide_eq_false hc27
   refine CG.no ?_ hk27 rfl
   refine CG.exit (QG.then_exit (QG.then_exit (QG.here ?_)))
   refine QG.k k1 ?_
   refine CG.seq fun K_ k1 => ?_
   refine CG.lin 3 ?_
   refine GL.v (.slice (some ⟨g24, 0, none⟩) (max n1 n2) (max n1 n2)) ?_
   refine GL.call (fun _ hM => settled_ok hM.gi0.1.avlt (x := x + y) hM.gi0.2.1 hM.gi0.2.2 (by rw [hV, take_val y i (by omega)]; omega) (mem_of_get hB (by decide) (by decide)) (by first | assumption | omega)) ?_
   rintro _ _ _ hM ⟨A28, n28, c28, rfl, h28, hb⟩
   refine ⟨_, _, _, rfl, (hM.up0 hb).add h28, ?_⟩
   refine GL.sA (cs' := #[.slice A28 n28 c28]) (fun _ _ => Mem.st0) (fun _ hM => hM.b 0 rfl) siz26 ?_
   refine GL.k k1 ?_
   refine CG.ret (QG.ret (fun _ hM => results_one rfl (res_cell rfl (loadVar_agg agg26 siz26 (hM.b 0 rfl) rfl rfl))) ?_)
   intro _ hM
   exact ⟨_, _, _, rfl, (hM.out (hM.f 0 rfl)), hM.below⟩

set_option maxRecDepth 100000 in
set_option maxHeartbeats 400000 in
theorem times_ok {w : World} {X : Nat → Prop} {A1 : Option Addr} {n1 : Nat} {c1 : Nat} {x : Nat} {A2 : Option Addr} {n2 : Nat} {c2 : Nat} {y : Nat} (hX : ∀ k, X k → k < w.heap.size) (h1 : Dk.R X w [.slice A1 n1 c1] x) (h2 : Dk.R X w [.slice A2 n2 c2] y) (p1 : szn x + szn y ≤ 1099511627776) :
    Calls Tryz.prog 122 #[.agg #[.slice A1 n1 c1], .agg #[.slice A2 n2 c2]] w (fun e w' => ∃ Ar nr cr, e = .returned (.agg #[.slice Ar nr cr]) ∧ Dk.R X w' [.slice Ar nr cr] (x * y) ∧ Below w.heap.size w w') := by
 have hM := ((Mem.start hX).add0 h1).add0 h2
 have l1 := Dk.le h1
 have m1 := Dk.len h1
 have l2 := Dk.le h2
 have m2 := Dk.len h2
 have hsx : szn x = n1 := m1
 have hsy : szn y = n2 := m2
 have hsx : (dg x).length = n1 := m1
 have hsy : (dg y).length = n2 := m2
 refine calls_of hM Tryz.func122 Tryz.ntmps122 ?_
 refine CG.seq fun K_ k1 => ?_
 refine CG.lin 3 ?_
 refine GL.bA #[.slice A1 n1 c1] fun g21 => ?_
 refine GL.bA #[.slice A2 n2 c2] fun g22 => ?_
 refine GL.aA zer26 fun g23 => ?_
 refine GL.k k1 ?_
 refine CG.seq fun K_ k1 => ?_
 refine CG.lin 9 ?_
 refine GL.v (.pointer (some ⟨g21, 0, none⟩)) ?_
 refine GL.r (.slice A1 n1 c1) (fun _ hM => op_load_one (off := 0) (by kernel_rfl) agg24 (hM.b 2 rfl) rfl) ?_
 refine GL.v (.int .i64 (n1 : Int)) ?_
 refine GL.v (.pointer (some ⟨g22, 0, none⟩)) ?_
 refine GL.r (.slice A2 n2 c2) (fun _ hM => op_load_one (off := 0) (by kernel_rfl) agg24 (hM.b 1 rfl) rfl) ?_
 refine GL.v (.int .i64 (n2 : Int)) ?_
 refine GL.v (.int .i64 ((n1 + n2 : Nat) : Int)) ?_ (hr := fun u => op_to (v := .int .i64 (IntKind.wrap .i64 ((n1 : Int) + (n2 : Int)))) (by kernel_rfl) (wrap_i64 (by omega) (by omega) (by omega)))
 refine GL.row (fun _ => op_make rowt24 (kl := .i64) (kc := .i64) (l := ((n1 + n2 : Nat) : Int)) (c := ((n1 + n2 : Nat) : Int)) (n1 + n2) (n1 + n2) (by kernel_rfl) (by kernel_rfl) (by omega) (by omega) (by omega) (by omega) (by omega)) (fun _ _ _ hm => own_made_i64 hm (by omega) (by omega)) fun g24 => ?_
 refine GL.v (.slice (some ⟨g24, 0, none⟩) (n1 + n2) (n1 + n2)) ?_
 refine GL.k k1 ?_
 refine CG.seq fun K_ k1 => ?_
 refine CG.seq fun K_ k2 => ?_
 refine CG.lin 4 ?_
 refine GL.v (.pointer (some ⟨g21, 0, none⟩)) ?_
 refine GL.r (.slice A1 n1 c1) (fun _ hM => op_load_one (off := 0) (by kernel_rfl) agg24 (hM.b 3 rfl) rfl) ?_
 refine GL.v (.int .i64 (n1 : Int)) ?_
 refine GL.v (.int .i64 0) ?_
 refine GL.k k2 ?_
 refine CG.block ?_
 refine CG.loop (fun m_ a_ u_ => ∃ (i : Nat) (M : List Int) (j25 : Nat → Value), a_ = ⟨#[.agg #[.slice A1 n1 c1], .agg #[.slice A2 n2 c2], .pointer (some ⟨g21, 0, none⟩), .pointer (some ⟨g22, 0, none⟩), .pointer (some ⟨g23, 0, none⟩), .slice (some ⟨g24, 0, none⟩) (n1 + n2) (n1 + n2), (j25 6), (j25 7), (j25 8), (j25 9), (j25 10), .pointer (some ⟨g21, 0, none⟩), .slice A1 n1 c1, .int .i64 (n1 : Int), .pointer (some ⟨g22, 0, none⟩), .slice A2 n2 c2, .int .i64 (n2 : Int), .int .i64 ((n1 + n2 : Nat) : Int), .slice (some ⟨g24, 0, none⟩) (n1 + n2) (n1 + n2), .pointer (some ⟨g21, 0, none⟩), .slice A1 n1 c1, .int .i64 (n1 : Int), .int .i64 (i : Int), (j25 23), (j25 24), (j25 25), (j25 26), (j25 27), (j25 28), (j25 29), (j25 30), (j25 31), (j25 32), (j25 33), (j25 34), (j25 35), (j25 36), (j25 37), (j25 38), (j25 39), (j25 40), (j25 41), (j25 42), (j25 43), (j25 44), (j25 45), (j25 46), (j25 47), (j25 48), (j25 49), (j25 50), (j25 51), (j25 52), (j25 53), (j25 54), (j25 55), (j25 56), (j25 57), (j25 58), (j25 59), (j25 60), (j25 61), (j25 62), (j25 63), (j25 64), (j25 65), undef, undef], []⟩ ∧ m_ = n1 - i ∧ Mem w [] X u_ [.own g24 2 (n1 + n2) (n1 + n2) (i64s M), .box g23 #[.slice none 0 0] 26, .box g22 #[.slice A2 n2 c2] 26, .box g21 #[.slice A1 n1 c1] 26] [⟨Dk, [.slice A2 n2 c2], y⟩, ⟨Dk, [.slice A1 n1 c1], x⟩] ∧ (i ≤ n1) ∧ (Digs 16777216 M) ∧ (val 16777216 M = val 16777216 ((dg x).take i) * (y : Int)) ∧ (∀ t, i + n2 ≤ t → M.getD t 0 = 0)) (fun _ hM => ⟨_, 0, (List.replicate (n1 + n2) 0), (fun t => (#[.agg #[.slice A1 n1 c1], .agg #[.slice A2 n2 c2], .pointer (some ⟨g21, 0, none⟩), .pointer (some ⟨g22, 0, none⟩), .pointer (some ⟨g23, 0, none⟩), .slice (some ⟨g24, 0, none⟩) (n1 + n2) (n1 + n2), undef, undef, undef, undef, undef, .pointer (some ⟨g21, 0, none⟩), .slice A1 n1 c1, .int .i64 (n1 : Int), .pointer (some ⟨g22, 0, none⟩), .slice A2 n2 c2, .int .i64 (n2 : Int), .int .i64 ((n1 + n2 : Nat) : Int), .slice (some ⟨g24, 0, none⟩) (n1 + n2) (n1 + n2), .pointer (some ⟨g21, 0, none⟩), .slice A1 n1 c1, .int .i64 (n1 : Int), .int .i64 0, undef, undef, undef, undef, undef, undef, undef, undef, undef, undef, undef, undef, undef, undef, undef, undef, undef, undef, undef, undef, undef, undef, undef, undef, undef, undef, undef, undef, undef, undef, undef, undef, undef, undef, undef, undef, undef, undef, undef, undef, undef, undef, undef, undef, undef] : Array Value).getD t undef), (by kernel_rfl), rfl, ((hM.clr).add (hM.f 1 rfl)).add (hM.f 0 rfl), (by omega), (Digs.replicate (by decide) _), (by rw [val_replicate_zero]; simp), (fun t _ => zeros_get _ t)⟩) ?_
 rintro m_ a_ u_ ⟨i, M, j25, rfl, hm25, hM, hi, hD, hV, hZ⟩
 have hMl := (hM.o 0 rfl).ilen
 refine CG.go hM ?_
 refine CG.seq fun K_ k2 => ?_
 refine CG.lin 1 ?_
 refine GL.v (.bool (decide ((i : Int) < (n1 : Int)))) ?_
 refine GL.k k2 ?_
 refine CG.seq fun K_ k2 => ?_
 by_cases hc26 : (i : Int) < (n1 : Int)
 · have hk26 : (decide ((i : Int) < (n1 : Int))) = true := decide_eq_true hc26
   refine CG.yes ?_ hk26 rfl
   refine CG.skip ?_
   refine QG.k k2 ?_
   refine CG.seq fun K_ k2 => ?_
   refine CG.block ?_
   refine CG.seq fun K_ k3 => ?_
   refine CG.lin 5 ?_
   refine GL.v (.int .i64 (i : Int)) ?_
   refine GL.r (elemPtr A1 i) (fun _ hM => op_index rowt24 (c := c1) (k := .i64) (i := (i : Int)) i (by kernel_rfl) (by kernel_rfl) (by omega) (by omega) (Dk.row (hM.f 1 rfl)) _) ?_
   refine GL.r (.int .i64 ((dg x).getD i 0)) (fun _ hM => op_load_i64 (n := n1) (by kernel_rfl) agg2 (Dk.row (hM.f 1 rfl)) (by omega)) ?_
   refine GL.v (.int .i64 (i : Int)) ?_
   refine GL.v (.int .i64 ((dg x).getD i 0)) ?_
   refine GL.k k3 ?_
   refine CG.seq fun K_ k3 => ?_
   refine CG.lin 1 ?_
   refine GL.v (.int .i64 0) ?_
   refine GL.k k3 ?_
   refine CG.seq fun K_ k3 => ?_
   refine CG.seq fun K_ k4 => ?_
   refine CG.lin 4 ?_
   refine GL.v (.pointer (some ⟨g22, 0, none⟩)) ?_
   refine GL.r (.slice A2 n2 c2) (fun _ hM => op_load_one (off := 0) (by kernel_rfl) agg24 (hM.b 2 rfl) rfl) ?_
   refine GL.v (.int .i64 (n2 : Int)) ?_
   refine GL.v (.int .i64 0) ?_
   refine GL.k k4 ?_
   refine CG.block ?_
   refine CG.loop (fun m_ a_ u_ => ∃ (j : Nat) (c : Int) (N : List Int) (j27 : Nat → Value), a_ = ⟨#[.agg #[.slice A1 n1 c1], .agg #[.slice A2 n2 c2], .pointer (some ⟨g21, 0, none⟩), .pointer (some ⟨g22, 0, none⟩), .pointer (some ⟨g23, 0, none⟩), .slice (some ⟨g24, 0, none⟩) (n1 + n2) (n1 + n2), .int .i64 (i : Int), .int .i64 ((dg x).getD i 0), .int .i64 c, (j27 9), (j27 10), .pointer (some ⟨g21, 0, none⟩), .slice A1 n1 c1, .int .i64 (n1 : Int), .pointer (some ⟨g22, 0, none⟩), .slice A2 n2 c2, .int .i64 (n2 : Int), .int .i64 ((n1 + n2 : Nat) : Int), .slice (some ⟨g24, 0, none⟩) (n1 + n2) (n1 + n2), .pointer (some ⟨g21, 0, none⟩), .slice A1 n1 c1, .int .i64 (n1 : Int), .int .i64 (i : Int), .bool (decide ((i : Int) < (n1 : Int))), .int .i64 (i : Int), elemPtr A1 i, .int .i64 ((dg x).getD i 0), .pointer (some ⟨g22, 0, none⟩), .slice A2 n2 c2, .int .i64 (n2 : Int), .int .i64 (j : Int), (j27 31), (j27 32), (j27 33), (j27 34), (j27 35), (j27 36), (j27 37), (j27 38), (j27 39), (j27 40), (j27 41), (j27 42), (j27 43), (j27 44), (j27 45), (j27 46), (j27 47), (j27 48), (j27 49), (j27 50), (j27 51), (j27 52), (j27 53), (j27 54), (j27 55), (j27 56), (j25 57), (j25 58), (j25 59), (j25 60), (j25 61), (j25 62), (j25 63), (j25 64), (j25 65), undef, undef], []⟩ ∧ m_ = n2 - j ∧ Mem w [] X u_ [.own g24 2 (n1 + n2) (n1 + n2) (i64s N), .box g23 #[.slice none 0 0] 26, .box g22 #[.slice A2 n2 c2] 26, .box g21 #[.slice A1 n1 c1] 26] [⟨Dk, [.slice A2 n2 c2], y⟩, ⟨Dk, [.slice A1 n1 c1], x⟩] ∧ (j ≤ n2) ∧ (0 ≤ c ∧ c ≤ 16777215) ∧ (Digs 16777216 N) ∧ (val 16777216 N + 16777216 ^ (i + j) * c = val 16777216 ((dg x).take i) * (y : Int) + (dg x).getD i 0 * (16777216 ^ i * val 16777216 ((dg y).take j))) ∧ (∀ t, i + n2 ≤ t → N.getD t 0 = 0)) (fun _ hM => ⟨_, 0, 0, M, (fun t => (#[.agg #[.slice A1 n1 c1], .agg #[.slice A2 n2 c2], .pointer (some ⟨g21, 0, none⟩), .pointer (some ⟨g22, 0, none⟩), .pointer (some ⟨g23, 0, none⟩), .slice (some ⟨g24, 0, none⟩) (n1 + n2) (n1 + n2), .int .i64 (i : Int), .int .i64 ((dg x).getD i 0), .int .i64 0, (j25 9), (j25 10), .pointer (some ⟨g21, 0, none⟩), .slice A1 n1 c1, .int .i64 (n1 : Int), .pointer (some ⟨g22, 0, none⟩), .slice A2 n2 c2, .int .i64 (n2 : Int), .int .i64 ((n1 + n2 : Nat) : Int), .slice (some ⟨g24, 0, none⟩) (n1 + n2) (n1 + n2), .pointer (some ⟨g21, 0, none⟩), .slice A1 n1 c1, .int .i64 (n1 : Int), .int .i64 (i : Int), .bool (decide ((i : Int) < (n1 : Int))), .int .i64 (i : Int), elemPtr A1 i, .int .i64 ((dg x).getD i 0), .pointer (some ⟨g22, 0, none⟩), .slice A2 n2 c2, .int .i64 (n2 : Int), .int .i64 0, (j25 31), (j25 32), (j25 33), (j25 34), (j25 35), (j25 36), (j25 37), (j25 38), (j25 39), (j25 40), (j25 41), (j25 42), (j25 43), (j25 44), (j25 45), (j25 46), (j25 47), (j25 48), (j25 49), (j25 50), (j25 51), (j25 52), (j25 53), (j25 54), (j25 55), (j25 56), (j25 57), (j25 58), (j25 59), (j25 60), (j25 61), (j25 62), (j25 63), (j25 64), (j25 65), undef, undef] : Array Value).getD t undef), (by kernel_rfl), rfl, ((hM.clr).add (hM.f 1 rfl)).add (hM.f 0 rfl), (by omega), (by omega), hD, (by rw [hV]; simp), hZ⟩) ?_
   rintro m_ a_ u_ ⟨j, c, N, j27, rfl, hm27, hM, hj, hc, hD2, hV2, hZ2⟩
   have hNl := (hM.o 0 rfl).ilen
   refine CG.go hM ?_
   refine CG.seq fun K_ k4 => ?_
   refine CG.lin 1 ?_
   refine GL.v (.bool (decide ((j : Int) < (n2 : Int)))) ?_
   refine GL.k k4 ?_
   refine CG.seq fun K_ k4 => ?_
   by_cases hc28 : (j : Int) < (n2 : Int)
   · have hk28 : (decide ((j : Int) < (n2 : Int))) = true := decide_eq_true hc28
     refine CG.yes ?_ hk28 rfl
     refine CG.skip ?_
     refine QG.k k4 ?_
     refine CG.seq fun K_ k4 => ?_
     refine CG.block ?_
     refine CG.seq fun K_ k5 => ?_
     refine CG.lin 5 ?_
     refine GL.v (.int .i64 (j : Int)) ?_
     refine GL.r (elemPtr A2 j) (fun _ hM => op_index rowt24 (c := c2) (k := .i64) (i := (j : Int)) j (by kernel_rfl) (by kernel_rfl) (by omega) (by omega) (Dk.row (hM.f 0 rfl)) _) ?_
     refine GL.r (.int .i64 ((dg y).getD j 0)) (fun _ hM => op_load_i64 (n := n2) (by kernel_rfl) agg2 (Dk.row (hM.f 0 rfl)) (by omega)) ?_
     refine GL.v (.int .i64 (j : Int)) ?_
     refine GL.v (.int .i64 ((dg y).getD j 0)) ?_
     refine GL.k k5 ?_
     refine CG.seq fun K_ k5 => ?_
     refine CG.lin 13 ?_
     refine GL.v (.int .i64 c) ?_
     refine GL.v (.int .i64 ((dg x).getD i 0)) ?_
     refine GL.v (.int .i64 ((dg y).getD j 0)) ?_
     have hp := digit_prod (dg_get x i) (dg_get y j)
     refine GL.v (.int .i64 (((dg x).getD i 0) * ((dg y).getD j 0))) ?_ (hr := fun u => op_to (v := .int .i64 (IntKind.wrap .i64 (((dg x).getD i 0) * ((dg y).getD j 0)))) (by kernel_rfl) (wrap_i64 rfl (by omega) (by omega)))
     refine GL.v (.slice (some ⟨g24, 0, none⟩) (n1 + n2) (n1 + n2)) ?_
     refine GL.v (.int .i64 (i : Int)) ?_
     refine GL.v (.int .i64 (j : Int)) ?_
     refine GL.v (.int .i64 ((i + j : Nat) : Int)) ?_ (hr := fun u => op_to (v := .int .i64 (IntKind.wrap .i64 ((i : Int) + (j : Int)))) (by kernel_rfl) (wrap_i64 (by omega) (by omega) (by omega)))
     refine GL.r (elemPtr (some ⟨g24, 0, none⟩) (i + j)) (fun _ hM => op_index rowt24 (c := (n1 + n2)) (k := .i64) (i := ((i + j : Nat) : Int)) (i + j) (by kernel_rfl) (by kernel_rfl) (by omega) (by omega) (hM.o 0 rfl).row _) ?_
     refine GL.r (.int .i64 (N.getD (i + j) 0)) (fun _ hM => op_load_i64 (n := (n1 + n2)) (by kernel_rfl) agg2 (hM.o 0 rfl).row (by omega)) ?_
     have hm := digs_get hD2 (i + j)
     refine GL.v (.int .i64 ((((dg x).getD i 0) * ((dg y).getD j 0)) + (N.getD (i + j) 0))) ?_ (hr := fun u => op_to (v := .int .i64 (IntKind.wrap .i64 ((((dg x).getD i 0) * ((dg y).getD j 0)) + (N.getD (i + j) 0)))) (by kernel_rfl) (wrap_i64 rfl (by omega) (by omega)))
     refine GL.v (.int .i64 (c + ((((dg x).getD i 0) * ((dg y).getD j 0)) + (N.getD (i + j) 0)))) ?_ (hr := fun u => op_to (v := .int .i64 (IntKind.wrap .i64 (c + ((((dg x).getD i 0) * ((dg y).getD j 0)) + (N.getD (i + j) 0))))) (by kernel_rfl) (wrap_i64 rfl (by omega) (by omega)))
     refine GL.v (.int .i64 (c + ((((dg x).getD i 0) * ((dg y).getD j 0)) + (N.getD (i + j) 0)))) ?_
     refine GL.k k5 ?_
     refine CG.lin 11 ?_
     refine GL.v (.slice (some ⟨g24, 0, none⟩) (n1 + n2) (n1 + n2)) ?_
     refine GL.v (.int .i64 (i : Int)) ?_
     refine GL.v (.int .i64 (j : Int)) ?_
     refine GL.v (.int .i64 ((i + j : Nat) : Int)) ?_ (hr := fun u => op_to (v := .int .i64 (IntKind.wrap .i64 ((i : Int) + (j : Int)))) (by kernel_rfl) (wrap_i64 (by omega) (by omega) (by omega)))
     refine GL.v (.int .i64 (c + ((((dg x).getD i 0) * ((dg y).getD j 0)) + (N.getD (i + j) 0)))) ?_
     refine GL.v (.int .i64 ((c + ((((dg x).getD i 0) * ((dg y).getD j 0)) + (N.getD (i + j) 0))) % 16777216)) ?_ (hr := fun u => op_to (v := .int .i64 (IntKind.wrap .i64 ((BitVec.ofInt 64 (c + ((((dg x).getD i 0) * ((dg y).getD j 0)) + (N.getD (i + j) 0))) &&& BitVec.ofInt 64 16777215).toNat : Nat))) (by kernel_rfl) (mask_to 24 (by decide) _ _ 16777216 (by decide) (by decide)))
     refine GL.v (.int .i64 (c + ((((dg x).getD i 0) * ((dg y).getD j 0)) + (N.getD (i + j) 0)))) ?_
     refine GL.v (.int .i64 ((c + ((((dg x).getD i 0) * ((dg y).getD j 0)) + (N.getD (i + j) 0))) / 16777216)) ?_ (hr := fun u => op_to (v := .int .i64 (((c + ((((dg x).getD i 0) * ((dg y).getD j 0)) + (N.getD (i + j) 0)))).fdiv (2 ^ 24))) (by kernel_rfl) (fdiv_pow .i64 _ 24 16777216 (by decide) (by decide)))
     refine GL.r (elemPtr (some ⟨g24, 0, none⟩) (i + j)) (fun _ hM => op_index rowt24 (c := (n1 + n2)) (k := .i64) (i := ((i + j : Nat) : Int)) (i + j) (by kernel_rfl) (by kernel_rfl) (by omega) (by omega) (hM.o 0 rfl).row _) ?_
     refine GL.el (fun _ _ _ => Mem.el0) (fun _ hM => op_set_i64 (i + j) ((c + ((((dg x).getD i 0) * ((dg y).getD j 0)) + (N.getD (i + j) 0))) % 16777216) siz2 (hM.o 0 rfl) (by kernel_rfl) (by kernel_rfl) (by omega)) ?_
     refine GL.v (.int .i64 ((c + ((((dg x).getD i 0) * ((dg y).getD j 0)) + (N.getD (i + j) 0))) / 16777216)) ?_
     refine GL.q ?_
     refine QG.block ?_
     refine QG.k k4 ?_
     refine CG.lin 2 ?_
     refine GL.v (.int .i64 ((j + 1 : Nat) : Int)) ?_ (hr := fun u => op_to (v := .int .i64 (IntKind.wrap .i64 ((j : Int) + (1 : Int)))) (by kernel_rfl) (wrap_i64 (by omega) (by omega) (by omega)))
     refine GL.v (.int .i64 ((j + 1 : Nat) : Int)) ?_
     refine GL.q ?_
     refine QG.again fun _ hM => ?_
     exact ⟨n2 - (j + 1), (by omega), (j + 1), ((c + ((((dg x).getD i 0) * ((dg y).getD j 0)) + (N.getD (i + j) 0))) / 16777216), (N.set (i + j) ((c + ((((dg x).getD i 0) * ((dg y).getD j 0)) + (N.getD (i + j) 0))) % 16777216)), (fun t => (#[.agg #[.slice A1 n1 c1], .agg #[.slice A2 n2 c2], .pointer (some ⟨g21, 0, none⟩), .pointer (some ⟨g22, 0, none⟩), .pointer (some ⟨g23, 0, none⟩), .slice (some ⟨g24, 0, none⟩) (n1 + n2) (n1 + n2), .int .i64 (i : Int), .int .i64 ((dg x).getD i 0), .int .i64 ((c + ((((dg x).getD i 0) * ((dg y).getD j 0)) + (N.getD (i + j) 0))) / 16777216), .int .i64 (j : Int), .int .i64 ((dg y).getD j 0), .pointer (some ⟨g21, 0, none⟩), .slice A1 n1 c1, .int .i64 (n1 : Int), .pointer (some ⟨g22, 0, none⟩), .slice A2 n2 c2, .int .i64 (n2 : Int), .int .i64 ((n1 + n2 : Nat) : Int), .slice (some ⟨g24, 0, none⟩) (n1 + n2) (n1 + n2), .pointer (some ⟨g21, 0, none⟩), .slice A1 n1 c1, .int .i64 (n1 : Int), .int .i64 (i : Int), .bool (decide ((i : Int) < (n1 : Int))), .int .i64 (i : Int), elemPtr A1 i, .int .i64 ((dg x).getD i 0), .pointer (some ⟨g22, 0, none⟩), .slice A2 n2 c2, .int .i64 (n2 : Int), .int .i64 ((j + 1 : Nat) : Int), .bool (decide ((j : Int) < (n2 : Int))), .int .i64 (j : Int), elemPtr A2 j, .int .i64 ((dg y).getD j 0), .int .i64 c, .int .i64 ((dg x).getD i 0), .int .i64 ((dg y).getD j 0), .int .i64 (((dg x).getD i 0) * ((dg y).getD j 0)), .slice (some ⟨g24, 0, none⟩) (n1 + n2) (n1 + n2), .int .i64 (i : Int), .int .i64 (j : Int), .int .i64 ((i + j : Nat) : Int), elemPtr (some ⟨g24, 0, none⟩) (i + j), .int .i64 (N.getD (i + j) 0), .int .i64 ((((dg x).getD i 0) * ((dg y).getD j 0)) + (N.getD (i + j) 0)), .int .i64 (c + ((((dg x).getD i 0) * ((dg y).getD j 0)) + (N.getD (i + j) 0))), .slice (some ⟨g24, 0, none⟩) (n1 + n2) (n1 + n2), .int .i64 (i : Int), .int .i64 (j : Int), .int .i64 ((i + j : Nat) : Int), .int .i64 (c + ((((dg x).getD i 0) * ((dg y).getD j 0)) + (N.getD (i + j) 0))), .int .i64 ((c + ((((dg x).getD i 0) * ((dg y).getD j 0)) + (N.getD (i + j) 0))) % 16777216), .int .i64 (c + ((((dg x).getD i 0) * ((dg y).getD j 0)) + (N.getD (i + j) 0))), .int .i64 ((c + ((((dg x).getD i 0) * ((dg y).getD j 0)) + (N.getD (i + j) 0))) / 16777216), elemPtr (some ⟨g24, 0, none⟩) (i + j), .int .i64 ((j + 1 : Nat) : Int), (j25 57), (j25 58), (j25 59), (j25 60), (j25 61), (j25 62), (j25 63), (j25 64), (j25 65), undef, undef] : Array Value).getD t undef), (by kernel_rfl), rfl, ((hM.clr).add (hM.f 1 rfl)).add (hM.f 0 rfl), (by omega), (by omega), (hD2.set _ (by omega) (by omega)), (times_step (by omega) (by omega) hV2), (set_zero (by omega) (by omega) hZ2)⟩
   · have hk28 : (decide ((j : Int) < (n2 : Int))) = false := decide_eq_false hc28
     refine CG.no ?_ hk28 rfl
     refine CG.exit (QG.then_exit (QG.then_exit (QG.here ?_)))
     refine QG.k k3 ?_
     refine CG.lin 9 ?_
     refine GL.v (.slice (some ⟨g24, 0, none⟩) (n1 + n2) (n1 + n2)) ?_
     refine GL.v (.int .i64 (i : Int)) ?_
     refine GL.v (.pointer (some ⟨g22, 0, none⟩)) ?_
     refine GL.r (.slice A2 n2 c2) (fun _ hM => op_load_one (off := 0) (by kernel_rfl) agg24 (hM.b 2 rfl) rfl) ?_
     refine GL.v (.int .i64 (n2 : Int)) ?_
     refine GL.v (.int .i64 ((i + n2 : Nat) : Int)) ?_ (hr := fun u => op_to (v := .int .i64 (IntKind.wrap .i64 ((i : Int) + (n2 : Int)))) (by kernel_rfl) (wrap_i64 (by omega) (by omega) (by omega)))
     refine GL.v (.int .i64 c) ?_
     refine GL.r (elemPtr (some ⟨g24, 0, none⟩) (i + n2)) (fun _ hM => op_index rowt24 (c := (n1 + n2)) (k := .i64) (i := ((i + n2 : Nat) : Int)) (i + n2) (by kernel_rfl) (by kernel_rfl) (by omega) (by omega) (hM.o 0 rfl).row _) ?_
     refine GL.el (fun _ _ _ => Mem.el0) (fun _ hM => op_set_i64 (i + n2) c siz2 (hM.o 0 rfl) (by kernel_rfl) (by kernel_rfl) (by omega)) ?_
     refine GL.q ?_
     refine QG.block ?_
     refine QG.k k2 ?_
     refine CG.lin 2 ?_
     refine GL.v (.int .i64 ((i + 1 : Nat) : Int)) ?_ (hr := fun u => op_to (v := .int .i64 (IntKind.wrap .i64 ((i : Int) + (1 : Int)))) (by kernel_rfl) (wrap_i64 (by omega) (by omega) (by omega)))
     refine GL.v (.int .i64 ((i + 1 : Nat) : Int)) ?_
     refine GL.q ?_
     refine QG.again fun _ hM => ?_
     have hj2 : j = n2 := by omega
     rw [hj2] at hV2
     exact ⟨n1 - (i + 1), (by omega), (i + 1), (N.set (i + n2) c), (fun t => (#[.agg #[.slice A1 n1 c1], .agg #[.slice A2 n2 c2], .pointer (some ⟨g21, 0, none⟩), .pointer (some ⟨g22, 0, none⟩), .pointer (some ⟨g23, 0, none⟩), .slice (some ⟨g24, 0, none⟩) (n1 + n2) (n1 + n2), .int .i64 (i : Int), .int .i64 ((dg x).getD i 0), .int .i64 c, (j27 9), (j27 10), .pointer (some ⟨g21, 0, none⟩), .slice A1 n1 c1, .int .i64 (n1 : Int), .pointer (some ⟨g22, 0, none⟩), .slice A2 n2 c2, .int .i64 (n2 : Int), .int .i64 ((n1 + n2 : Nat) : Int), .slice (some ⟨g24, 0, none⟩) (n1 + n2) (n1 + n2), .pointer (some ⟨g21, 0, none⟩), .slice A1 n1 c1, .int .i64 (n1 : Int), .int .i64 ((i + 1 : Nat) : Int), .bool (decide ((i : Int) < (n1 : Int))), .int .i64 (i : Int), elemPtr A1 i, .int .i64 ((dg x).getD i 0), .pointer (some ⟨g22, 0, none⟩), .slice A2 n2 c2, .int .i64 (n2 : Int), .int .i64 (j : Int), .bool (decide ((j : Int) < (n2 : Int))), (j27 32), (j27 33), (j27 34), (j27 35), (j27 36), (j27 37), (j27 38), (j27 39), (j27 40), (j27 41), (j27 42), (j27 43), (j27 44), (j27 45), (j27 46), (j27 47), (j27 48), (j27 49), (j27 50), (j27 51), (j27 52), (j27 53), (j27 54), (j27 55), (j27 56), .slice (some ⟨g24, 0, none⟩) (n1 + n2) (n1 + n2), .int .i64 (i : Int), .pointer (some ⟨g22, 0, none⟩), .slice A2 n2 c2, .int .i64 (n2 : Int), .int .i64 ((i + n2 : Nat) : Int), .int .i64 c, elemPtr (some ⟨g24, 0, none⟩) (i + n2), .int .i64 ((i + 1 : Nat) : Int), undef, undef] : Array Value).getD t undef), (by kernel_rfl), rfl, ((hM.clr).add (hM.f 1 rfl)).add (hM.f 0 rfl), (by omega), (hD2.set _ (by omega) (by omega)), (times_outer (by omega) (by omega) (by omega) (hZ2 _ (by omega)) hV2), (set_zero' (by omega) hZ2)⟩
 · have hk26 : (decide ((i : Int) < (n1 : Int))) = false := decide_eq_false hc26
   refine CG.no ?_ hk26 rfl
   refine CG.exit (QG.then_exit (QG.then_exit (QG.here ?_)))
   refine QG.k k1 ?_
   refine CG.seq fun K_ k1 => ?_
   refine CG.lin 3 ?_
   refine GL.v (.slice (some ⟨g24, 0, none⟩) (n1 + n2) (n1 + n2)) ?_
   refine GL.call (fun _ hM => settled_ok hM.gi0.1.avlt (x := x * y) hM.gi0.2.1 hM.gi0.2.2 (by rw [hV, take_val x i (by omega)]; simp) (fun z hz => by have := hD z hz; omega) (by first | assumption | omega)) ?_
   rintro _ _ _ hM ⟨A29, n29, c29, rfl, h29, hb⟩
   refine ⟨_, _, _, rfl, (hM.up0 hb).add h29, ?_⟩
   refine GL.sA (cs' := #[.slice A29 n29 c29]) (fun _ _ => Mem.st0) (fun _ hM => hM.b 0 rfl) siz26 ?_
   refine GL.k k1 ?_
   refine CG.ret (QG.ret (fun _ hM => results_one rfl (res_cell rfl (loadVar_agg agg26 siz26 (hM.b 0 rfl) rfl rfl))) ?_)
   intro _ hM
   exact ⟨_, _, _, rfl, (hM.out (hM.f 0 rfl)), hM.below⟩

set_option maxRecDepth 100000 in
set_option maxHeartbeats 400000 in
theorem word_ok {w : World} {X : Nat → Prop} (hX : ∀ k, X k → k < w.heap.size) (n : Int) (p1 : 0 ≤ n ∧ n ≤ 18446744073709551615) :
    Calls Tryz.prog 119 #[.int .u64 n] w (fun e w' => ∃ Ar nr cr, e = .returned (.agg #[.slice Ar nr cr]) ∧ Dk.R X w' [.slice Ar nr cr] n.toNat ∧ Below w.heap.size w w') := by
 have hM := Mem.start hX
 refine calls_of hM Tryz.func119 Tryz.ntmps119 ?_
 refine CG.seq fun K_ k1 => ?_
 refine CG.lin 1 ?_
 refine GL.aA zer26 fun g21 => ?_
 refine GL.k k1 ?_
 refine CG.seq fun K_ k1 => ?_
 refine CG.lin 1 ?_
 refine GL.v (.slice none 0 0) ?_
 refine GL.k k1 ?_
 refine CG.seq fun K_ k1 => ?_
 refine CG.block ?_
 refine CG.rounds 4 ?_
 refine CG.round ?_
 refine CG.seq fun K_ k2 => ?_
 refine CG.seq fun K_ k3 => ?_
 refine CG.lin 2 ?_
 refine GL.v (.int .u64 n) ?_
 refine GL.v (.bool (decide (n > (0 : Int)))) ?_
 refine GL.k k3 ?_
 by_cases hc22 : n > (0 : Int)
 · have hk22 : (decide (n > (0 : Int))) = true := decide_eq_true hc22
   refine CG.yes ?_ hk22 rfl
   refine CG.skip ?_
   refine QG.k k2 ?_
   refine CG.seq fun K_ k2 => ?_
   refine CG.block ?_
   refine CG.lin 7 ?_
   refine GL.v (.slice none 0 0) ?_
   refine GL.v (.int .u64 n) ?_
   refine GL.v (.int .u64 (n % 16777216)) ?_ (hr := fun u => op_to (v := .int .u64 (IntKind.wrap .u64 ((BitVec.ofInt 64 n &&& BitVec.ofInt 64 16777215).toNat : Nat))) (by kernel_rfl) (mask_u64 24 (by decide) _ _ 16777216 (by decide) (by decide)))
   refine GL.v (.int .i64 (n % 16777216)) ?_ (hr := fun u => op_to (v := .int .i64 (IntKind.wrap .i64 (n % 16777216))) (by kernel_rfl) (wrap_i64 rfl (by omega) (by omega)))
   refine GL.row (fun _ => op_build1 rowt24 (v := .int .i64 (n % 16777216)) (by kernel_rfl) rfl) (fun _ _ _ hm => own_one_i64 hm) fun g23 => ?_
   refine GL.gn (fun _ hM => op_appnil_i64 (cx := 1) rowt24 (hM.o 0 rfl).row (by kernel_rfl) (by kernel_rfl) (by omega) (by omega) (by omega)) fun g24 c24 => ?_
   refine GL.v (.slice (some ⟨g24, 0, none⟩) 1 c24) ?_
   refine GL.q ?_
   refine QG.block ?_
   refine QG.k k2 ?_
   refine CG.lin 3 ?_
   refine GL.v (.int .u64 n) ?_
   refine GL.v (.int .u64 (n / 16777216)) ?_ (hr := fun u => op_to (v := .int .u64 ((n).fdiv (2 ^ 24))) (by kernel_rfl) (fdiv_pow .u64 _ 24 16777216 (by decide) (by decide)))
   refine GL.v (.int .u64 (n / 16777216)) ?_
   refine GL.q ?_
   refine QG.rnd ?_
   refine CG.round ?_
   refine CG.seq fun K_ k2 => ?_
   refine CG.seq fun K_ k3 => ?_
   refine CG.lin 2 ?_
   refine GL.v (.int .u64 (n / 16777216)) ?_
   refine GL.v (.bool (decide ((n / 16777216) > (0 : Int)))) ?_
   refine GL.k k3 ?_
   by_cases hc25 : (n / 16777216) > (0 : Int)
   · have hk25 : (decide ((n / 16777216) > (0 : Int))) = true := decide_eq_true hc25
     refine CG.yes ?_ hk25 rfl
     refine CG.skip ?_
     refine QG.k k2 ?_
     refine CG.seq fun K_ k2 => ?_
     refine CG.block ?_
     refine CG.lin 7 ?_
     refine GL.v (.slice (some ⟨g24, 0, none⟩) 1 c24) ?_
     refine GL.v (.int .u64 (n / 16777216)) ?_
     refine GL.v (.int .u64 ((n / 16777216) % 16777216)) ?_ (hr := fun u => op_to (v := .int .u64 (IntKind.wrap .u64 ((BitVec.ofInt 64 (n / 16777216) &&& BitVec.ofInt 64 16777215).toNat : Nat))) (by kernel_rfl) (mask_u64 24 (by decide) _ _ 16777216 (by decide) (by decide)))
     refine GL.v (.int .i64 ((n / 16777216) % 16777216)) ?_ (hr := fun u => op_to (v := .int .i64 (IntKind.wrap .i64 ((n / 16777216) % 16777216))) (by kernel_rfl) (wrap_i64 rfl (by omega) (by omega)))
     refine GL.row (fun _ => op_build1 rowt24 (v := .int .i64 ((n / 16777216) % 16777216)) (by kernel_rfl) rfl) (fun _ _ _ hm => own_one_i64 hm) fun g26 => ?_
     refine GL.gr (fun _ _ _ _ => Mem.gr1) (fun _ hM => op_append_i64 (cx := 1) rowt24 (hM.o 1 rfl) (hM.o 0 rfl).row (by kernel_rfl) (by kernel_rfl) (by omega) (by omega)) fun g27 c27 => ?_
     refine GL.v (.slice (some ⟨g27, 0, none⟩) (1 + 1) c27) ?_
     refine GL.q ?_
     refine QG.block ?_
     refine QG.k k2 ?_
     refine CG.lin 3 ?_
     refine GL.v (.int .u64 (n / 16777216)) ?_
     refine GL.v (.int .u64 ((n / 16777216) / 16777216)) ?_ (hr := fun u => op_to (v := .int .u64 (((n / 16777216)).fdiv (2 ^ 24))) (by kernel_rfl) (fdiv_pow .u64 _ 24 16777216 (by decide) (by decide)))
     refine GL.v (.int .u64 ((n / 16777216) / 16777216)) ?_
     refine GL.q ?_
     refine QG.rnd ?_
     refine CG.round ?_
     refine CG.seq fun K_ k2 => ?_
     refine CG.seq fun K_ k3 => ?_
     refine CG.lin 2 ?_
     refine GL.v (.int .u64 ((n / 16777216) / 16777216)) ?_
     refine GL.v (.bool (decide (((n / 16777216) / 16777216) > (0 : Int)))) ?_
     refine GL.k k3 ?_
     by_cases hc28 : ((n / 16777216) / 16777216) > (0 : Int)
     · have hk28 : (decide (((n / 16777216) / 16777216) > (0 : Int))) = true := decide_eq_true hc28
       refine CG.yes ?_ hk28 rfl
       refine CG.skip ?_
       refine QG.k k2 ?_
       refine CG.seq fun K_ k2 => ?_
       refine CG.block ?_
       refine CG.lin 7 ?_
       refine GL.v (.slice (some ⟨g27, 0, none⟩) (1 + 1) c27) ?_
       refine GL.v (.int .u64 ((n / 16777216) / 16777216)) ?_
       refine GL.v (.int .u64 (((n / 16777216) / 16777216) % 16777216)) ?_ (hr := fun u => op_to (v := .int .u64 (IntKind.wrap .u64 ((BitVec.ofInt 64 ((n / 16777216) / 16777216) &&& BitVec.ofInt 64 16777215).toNat : Nat))) (by kernel_rfl) (mask_u64 24 (by decide) _ _ 16777216 (by decide) (by decide)))
       refine GL.v (.int .i64 (((n / 16777216) / 16777216) % 16777216)) ?_ (hr := fun u => op_to (v := .int .i64 (IntKind.wrap .i64 (((n / 16777216) / 16777216) % 16777216))) (by kernel_rfl) (wrap_i64 rfl (by omega) (by omega)))
       refine GL.row (fun _ => op_build1 rowt24 (v := .int .i64 (((n / 16777216) / 16777216) % 16777216)) (by kernel_rfl) rfl) (fun _ _ _ hm => own_one_i64 hm) fun g29 => ?_
       refine GL.gr (fun _ _ _ _ => Mem.gr2) (fun _ hM => op_append_i64 (cx := 1) rowt24 (hM.o 2 rfl) (hM.o 0 rfl).row (by kernel_rfl) (by kernel_rfl) (by omega) (by omega)) fun g30 c30 => ?_
       refine GL.v (.slice (some ⟨g30, 0, none⟩) ((1 + 1) + 1) c30) ?_
       refine GL.q ?_
       refine QG.block ?_
       refine QG.k k2 ?_
       refine CG.lin 3 ?_
       refine GL.v (.int .u64 ((n / 16777216) / 16777216)) ?_
       refine GL.v (.int .u64 (((n / 16777216) / 16777216) / 16777216)) ?_ (hr := fun u => op_to (v := .int .u64 ((((n / 16777216) / 16777216)).fdiv (2 ^ 24))) (by kernel_rfl) (fdiv_pow .u64 _ 24 16777216 (by decide) (by decide)))
       refine GL.v (.int .u64 (((n / 16777216) / 16777216) / 16777216)) ?_
       refine GL.q ?_
       refine QG.rnd ?_
       refine CG.round ?_
       refine CG.seq fun K_ k2 => ?_
       refine CG.seq fun K_ k3 => ?_
       refine CG.lin 2 ?_
       refine GL.v (.int .u64 (((n / 16777216) / 16777216) / 16777216)) ?_
       refine GL.v (.bool false) ?_ (hr := fun u => op_b (b := (decide ((((n / 16777216) / 16777216) / 16777216) > (0 : Int)))) (by kernel_rfl) (decide_eq_false (by omega)))
       refine GL.k k3 ?_
       refine CG.no ?_ rfl rfl
       refine CG.exit (QG.then_exit (QG.then_exit (QG.here ?_)))
       refine QG.k k1 ?_
       refine CG.seq fun K_ k1 => ?_
       refine CG.lin 3 ?_
       refine GL.v (.slice (some ⟨g30, 0, none⟩) ((1 + 1) + 1) c30) ?_
       refine GL.v (.agg #[.slice (some ⟨g30, 0, none⟩) ((1 + 1) + 1) c30]) ?_
       refine GL.sA (cs' := #[.slice (some ⟨g30, 0, none⟩) ((1 + 1) + 1) c30]) (fun _ _ => Mem.st4) (fun _ hM => hM.b 4 rfl) siz26 ?_
       refine GL.k k1 ?_
       refine CG.mem (fun _ hM => hM.pu2 fun hO _ hX => Dk.own (x := n.toNat) hO (by (try simp only [List.cons_append, List.nil_append]); rw [word_digs (by omega), word_digs (by omega), word_digs (by omega), ← word0 (by omega) (by omega)]) hX) ?_
       refine CG.ret (QG.ret (fun _ hM => results_one rfl (res_cell rfl (loadVar_agg agg26 siz26 (hM.b 3 rfl) rfl rfl))) ?_)
       intro _ hM
       exact ⟨_, _, _, rfl, (hM.out (hM.f 0 rfl)), hM.below⟩
     · have hk28 : (decide (((n / 16777216) / 16777216) > (0 : Int))) = false := decide_eq_false hc28
       refine CG.no ?_ hk28 rfl
       refine CG.exit (QG.then_exit (QG.then_exit (QG.here ?_)))
       refine QG.k k1 ?_
       refine CG.seq fun K_ k1 => ?_
       refine CG.lin 3 ?_
       refine GL.v (.slice (some ⟨g27, 0, none⟩) (1 + 1) c27) ?_
       refine GL.v (.agg #[.slice (some ⟨g27, 0, none⟩) (1 + 1) c27]) ?_
       refine GL.sA (cs' := #[.slice (some ⟨g27, 0, none⟩) (1 + 1) c27]) (fun _ _ => Mem.st3) (fun _ hM => hM.b 3 rfl) siz26 ?_
       refine GL.k k1 ?_
       refine CG.mem (fun _ hM => hM.pu1 fun hO _ hX => Dk.own (x := n.toNat) hO (by (try simp only [List.cons_append, List.nil_append]); rw [word_digs (by omega), word_digs (by omega), ← word0 (by omega) (by omega)]) hX) ?_
       refine CG.ret (QG.ret (fun _ hM => results_one rfl (res_cell rfl (loadVar_agg agg26 siz26 (hM.b 2 rfl) rfl rfl))) ?_)
       intro _ hM
       exact ⟨_, _, _, rfl, (hM.out (hM.f 0 rfl)), hM.below⟩
   · have hk25 : (decide ((n / 16777216) > (0 : Int))) = false := decide_eq_false hc25
     refine CG.no ?_ hk25 rfl
     refine CG.exit (QG.then_exit (QG.then_exit (QG.here ?_)))
     refine QG.k k1 ?_
     refine CG.seq fun K_ k1 => ?_
     refine CG.lin 3 ?_
     refine GL.v (.slice (some ⟨g24, 0, none⟩) 1 c24) ?_
     refine GL.v (.agg #[.slice (some ⟨g24, 0, none⟩) 1 c24]) ?_
     refine GL.sA (cs' := #[.slice (some ⟨g24, 0, none⟩) 1 c24]) (fun _ _ => Mem.st2) (fun _ hM => hM.b 2 rfl) siz26 ?_
     refine GL.k k1 ?_
     refine CG.mem (fun _ hM => hM.pu0 fun hO _ hX => Dk.own (x := n.toNat) hO (by (try simp only [List.cons_append, List.nil_append]); rw [word_digs (by omega), ← word0 (by omega) (by omega)]) hX) ?_
     refine CG.ret (QG.ret (fun _ hM => results_one rfl (res_cell rfl (loadVar_agg agg26 siz26 (hM.b 1 rfl) rfl rfl))) ?_)
     intro _ hM
     exact ⟨_, _, _, rfl, (hM.out (hM.f 0 rfl)), hM.below⟩
 · have hk22 : (decide (n > (0 : Int))) = false := decide_eq_false hc22
   refine CG.no ?_ hk22 rfl
   refine CG.exit (QG.then_exit (QG.then_exit (QG.here ?_)))
   refine QG.k k1 ?_
   refine CG.seq fun K_ k1 => ?_
   refine CG.lin 3 ?_
   refine GL.v (.slice none 0 0) ?_
   refine GL.v (.agg #[.slice none 0 0]) ?_
   refine GL.sA (cs' := #[.slice none 0 0]) (fun _ _ => Mem.st0) (fun _ hM => hM.b 0 rfl) siz26 ?_
   refine GL.k k1 ?_
   refine CG.ret (QG.ret (fun _ hM => results_one rfl (res_cell rfl (loadVar_agg agg26 siz26 (hM.b 0 rfl) rfl rfl))) ?_)
   intro _ hM
   exact ⟨_, _, _, rfl, ((by rw [show n.toNat = 0 by omega]; exact (hM.out (Dk.nil _ _ none 0)))), hM.below⟩

set_option maxRecDepth 100000 in
set_option maxHeartbeats 400000 in
theorem word1_ok {w : World} {X : Nat → Prop} (hX : ∀ k, X k → k < w.heap.size) :
    Calls Tryz.prog 119 #[.int .u64 1] w (fun e w' => ∃ Ar nr cr, e = .returned (.agg #[.slice Ar nr cr]) ∧ Dk.R X w' [.slice Ar nr cr] 1 ∧ Below w.heap.size w w') := by
 exact word_ok hX 1 (by omega)

set_option maxRecDepth 100000 in
set_option maxHeartbeats 400000 in
theorem made_ok {w : World} {X : Nat → Prop} {A2 : Option Addr} {n2 : Nat} {c2 : Nat} {x : Nat} (hX : ∀ k, X k → k < w.heap.size) (m : Bool) (h2 : Dk.R X w [.slice A2 n2 c2] x) :
    Calls Tryz.prog 101 #[.bool m, .agg #[.slice A2 n2 c2]] w (fun e w' => ∃ Ar nr cr mr, e = .returned (.agg #[.slice Ar nr cr, .bool mr]) ∧ Zk.R X w' [.slice Ar nr cr, .bool mr] (mk m x) ∧ Below w.heap.size w w') := by
 have hM := (Mem.start hX).add0 h2
 refine calls_of hM Tryz.func101 Tryz.ntmps101 ?_
 refine CG.seq fun K_ k1 => ?_
 refine CG.lin 2 ?_
 refine GL.bA #[.slice A2 n2 c2] fun g21 => ?_
 refine GL.aA zer28 fun g22 => ?_
 refine GL.k k1 ?_
 refine CG.seq fun K_ k1 => ?_
 by_cases hc23 : m = true
 · have hk23 : (m) = true := hc23
   refine CG.draw [] [0, 1, 2, 3, 5, 6, 7] (.step 0 (.step 1 (.step 2 (.step 3 (.step 4 (.step 5 (.step 6 (.step 7 (.step 8 .done))))))))) (fun V hV24 => ?_)
   refine GD.er (.agg #[.slice A2 n2 c2]) (fun _ hS => op_load_agg (off := 0) (by kernel_rfl) agg26 siz26 (hV24.bS 1 rfl hS) rfl rfl) ?_
   refine GD.ev (.bool true) ?_ (hr := fun u => op_b (b := m) (by kernel_rfl) hk23)
   refine GD.ev (.bool true) ?_
   refine GD.er (.agg #[.slice A2 n2 c2]) (fun _ hS => op_load_agg (off := 0) (by kernel_rfl) agg26 siz26 (hV24.bS 1 rfl hS) rfl rfl) ?_
   refine GD.call (fun _ hM => none_ok hM.avlt (hM.f 0 rfl)) ?_
   rintro _ _ _ hM ⟨rfl, hb⟩
   refine ⟨_, _, _, rfl, hb, hM.call hb, ?_⟩
   refine GD.ev (.bool (!(decide (x = 0)))) ?_
   refine GD.ev (.bool (!(decide (x = 0)))) ?_
   refine GD.ev (.agg #[.slice A2 n2 c2, .bool (!(decide (x = 0)))]) ?_
   refine GD.st (fun _ _ => Mem.st0) (fun _ hM => store_all (cs' := #[.slice A2 n2 c2, .bool (!(decide (x = 0)))]) siz28 (hM.b 0 rfl) (by kernel_rfl) (by kernel_rfl) rfl rfl rfl) ?_
   refine GD.k k1 ?_
   refine CG.ret (QG.ret (fun _ hM => results_one rfl (res_cell rfl (loadVar_agg agg28 siz28 (hM.b 0 rfl) rfl rfl))) ?_)
   intro _ hM
   exact ⟨_, _, _, _, rfl, ((show mk true x = mk m x by rw [hk23]) ▸ Zk.made true (hM.out (hM.f 0 rfl))), hM.below⟩
 · have hk23 : (m) = false := by simpa using hc23
   refine CG.draw [] [0, 1, 2, 3, 5, 6, 7] (.step 0 (.step 1 (.step 2 (.step 3 (.step 4 (.step 5 (.step 6 (.step 7 (.step 8 .done))))))))) (fun V hV26 => ?_)
   refine GD.er (.agg #[.slice A2 n2 c2]) (fun _ hS => op_load_agg (off := 0) (by kernel_rfl) agg26 siz26 (hV26.bS 1 rfl hS) rfl rfl) ?_
   refine GD.ev (.bool false) ?_ (hr := fun u => op_b (b := m) (by kernel_rfl) hk23)
   refine GD.ev (.bool false) ?_
   refine GD.eo ?_
   refine GD.sk ?_
   refine GD.eo ?_
   refine GD.ev (.bool false) ?_
   refine GD.ev (.agg #[.slice A2 n2 c2, .bool false]) ?_
   refine GD.st (fun _ _ => Mem.st0) (fun _ hM => store_all (cs' := #[.slice A2 n2 c2, .bool false]) siz28 (hM.b 0 rfl) (by kernel_rfl) (by kernel_rfl) rfl rfl rfl) ?_
   refine GD.k k1 ?_
   refine CG.ret (QG.ret (fun _ hM => results_one rfl (res_cell rfl (loadVar_agg agg28 siz28 (hM.b 0 rfl) rfl rfl))) ?_)
   intro _ hM
   exact ⟨_, _, _, _, rfl, ((show (x : Int) = mk m x by rw [hk23]; rfl) ▸ (hM.out (Zk.ofD (hM.f 0 rfl)))), hM.below⟩

set_option maxRecDepth 100000 in
set_option maxHeartbeats 400000 in
theorem Int_ok {w : World} {X : Nat → Prop} (hX : ∀ k, X k → k < w.heap.size) (i : Int) (p1 : -9223372036854775808 ≤ i ∧ i ≤ 9223372036854775807) :
    Calls Tryz.prog 35 #[.int .i64 i] w (fun e w' => ∃ Ar nr cr mr, e = .returned (.agg #[.slice Ar nr cr, .bool mr]) ∧ Zk.R X w' [.slice Ar nr cr, .bool mr] i ∧ Below w.heap.size w w') := by
 have hM := Mem.start hX
 refine calls_of hM Tryz.func35 Tryz.ntmps35 ?_
 refine CG.seq fun K_ k1 => ?_
 refine CG.lin 1 ?_
 refine GL.aA zer28 fun g21 => ?_
 refine GL.k k1 ?_
 refine CG.seq fun K_ k1 => ?_
 refine CG.seq fun K_ k2 => ?_
 refine CG.lin 2 ?_
 refine GL.v (.int .i64 i) ?_
 refine GL.v (.bool (decide (i < (0 : Int)))) ?_
 refine GL.k k2 ?_
 by_cases hc22 : i < (0 : Int)
 · have hk22 : (decide (i < (0 : Int))) = true := decide_eq_true hc22
   refine CG.yes ?_ hk22 rfl
   refine CG.seq fun K_ k2 => ?_
   refine CG.lin 6 ?_
   refine GL.v (.int .i64 i) ?_
   refine GL.v (.int .u64 (i + 18446744073709551616)) ?_ (hr := fun u => op_to (v := .int .u64 (IntKind.wrap .u64 i)) (by kernel_rfl) (wrap_u64_neg (by omega) (by omega)))
   refine GL.v (.int .u64 (-i)) ?_ (hr := fun u => op_to (v := .int .u64 (IntKind.wrap .u64 (0 - (i + 18446744073709551616)))) (by kernel_rfl) (neg_u64 (by omega) (by omega)))
   refine GL.call (fun _ hM => word_ok hM.avlt (-i) (by first | assumption | omega)) ?_
   rintro _ _ _ hM ⟨A23, n23, c23, rfl, h23, hb⟩
   refine ⟨_, _, _, rfl, (hM.call hb).add h23, ?_⟩
   refine GL.call (fun _ hM => made_ok hM.avlt true (hM.f 0 rfl)) ?_
   rintro _ _ _ hM ⟨A24, n24, c24, m24, rfl, h24, hb⟩
   refine ⟨_, _, _, rfl, (hM.call hb).add h24, ?_⟩
   refine GL.sA (cs' := #[.slice A24 n24 c24, .bool m24]) (fun _ _ => Mem.st0) (fun _ hM => hM.b 0 rfl) siz28 ?_
   refine GL.k k2 ?_
   refine CG.ret (QG.then_ret (QG.ret (fun _ hM => results_one rfl (res_cell rfl (loadVar_agg agg28 siz28 (hM.b 0 rfl) rfl rfl))) ?_))
   intro _ hM
   exact ⟨_, _, _, _, rfl, ((show mk true (-i).toNat = i by unfold mk; rw [if_pos rfl]; omega) ▸ (hM.out (hM.f 0 rfl))), hM.below⟩
 · have hk22 : (decide (i < (0 : Int))) = false := decide_eq_false hc22
   refine CG.no ?_ hk22 rfl
   refine CG.skip ?_
   refine QG.k k1 ?_
   refine CG.seq fun K_ k1 => ?_
   refine CG.lin 5 ?_
   refine GL.v (.int .i64 i) ?_
   refine GL.v (.int .u64 i) ?_ (hr := fun u => op_to (v := .int .u64 (IntKind.wrap .u64 i)) (by kernel_rfl) (wrap_u64 rfl (by omega) (by omega)))
   refine GL.call (fun _ hM => word_ok hM.avlt i (by first | assumption | omega)) ?_
   rintro _ _ _ hM ⟨A25, n25, c25, rfl, h25, hb⟩
   refine ⟨_, _, _, rfl, (hM.call hb).add h25, ?_⟩
   refine GL.call (fun _ hM => made_ok hM.avlt false (hM.f 0 rfl)) ?_
   rintro _ _ _ hM ⟨A26, n26, c26, m26, rfl, h26, hb⟩
   refine ⟨_, _, _, rfl, (hM.call hb).add h26, ?_⟩
   refine GL.sA (cs' := #[.slice A26 n26 c26, .bool m26]) (fun _ _ => Mem.st0) (fun _ hM => hM.b 0 rfl) siz28 ?_
   refine GL.k k1 ?_
   refine CG.ret (QG.ret (fun _ hM => results_one rfl (res_cell rfl (loadVar_agg agg28 siz28 (hM.b 0 rfl) rfl rfl))) ?_)
   intro _ hM
   exact ⟨_, _, _, _, rfl, ((show mk false i.toNat = i by unfold mk; rw [if_neg (by decide)]; omega) ▸ (hM.out (hM.f 0 rfl))), hM.below⟩

set_option maxRecDepth 100000 in
set_option maxHeartbeats 400000 in
theorem half_ok {w : World} {X : Nat → Prop} {A1 : Option Addr} {n1 : Nat} {c1 : Nat} {x : Nat} (hX : ∀ k, X k → k < w.heap.size) (h1 : Dk.R X w [.slice A1 n1 c1] x) (p1 : szn x ≤ 4398046511104) :
    Calls Tryz.prog 128 #[.agg #[.slice A1 n1 c1]] w (fun e w' => ∃ Ar nr cr, e = .returned (.agg #[.slice Ar nr cr]) ∧ Dk.R X w' [.slice Ar nr cr] (x / 2) ∧ Below w.heap.size w w') := by
 have hM := (Mem.start hX).add0 h1
 have l1 := Dk.le h1
 have m1 := Dk.len h1
 have hsx : szn x = n1 := m1
 have hsx : (dg x).length = n1 := m1
 refine calls_of hM Tryz.func128 Tryz.ntmps128 ?_
 refine CG.seq fun K_ k1 => ?_
 refine CG.lin 2 ?_
 refine GL.bA #[.slice A1 n1 c1] fun g21 => ?_
 refine GL.aA zer26 fun g22 => ?_
 refine GL.k k1 ?_
 refine CG.seq fun K_ k1 => ?_
 refine CG.lin 5 ?_
 refine GL.v (.pointer (some ⟨g21, 0, none⟩)) ?_
 refine GL.r (.slice A1 n1 c1) (fun _ hM => op_load_one (off := 0) (by kernel_rfl) agg24 (hM.b 1 rfl) rfl) ?_
 refine GL.v (.int .i64 (n1 : Int)) ?_
 refine GL.row (fun _ => op_make rowt24 (kl := .i64) (kc := .i64) (l := (n1 : Int)) (c := (n1 : Int)) n1 n1 (by kernel_rfl) (by kernel_rfl) (by omega) (by omega) (by omega) (by omega) (by omega)) (fun _ _ _ hm => own_made_i64 hm (by omega) (by omega)) fun g23 => ?_
 refine GL.v (.slice (some ⟨g23, 0, none⟩) n1 n1) ?_
 refine GL.k k1 ?_
 refine CG.seq fun K_ k1 => ?_
 refine CG.seq fun K_ k2 => ?_
 refine CG.lin 4 ?_
 refine GL.v (.pointer (some ⟨g21, 0, none⟩)) ?_
 refine GL.r (.slice A1 n1 c1) (fun _ hM => op_load_one (off := 0) (by kernel_rfl) agg24 (hM.b 2 rfl) rfl) ?_
 refine GL.v (.int .i64 (n1 : Int)) ?_
 refine GL.v (.int .i64 0) ?_
 refine GL.k k2 ?_
 refine CG.block ?_
 refine CG.loop (fun m_ a_ u_ => ∃ (i : Nat) (M : List Int) (j24 : Nat → Value), a_ = ⟨#[.agg #[.slice A1 n1 c1], .pointer (some ⟨g21, 0, none⟩), .pointer (some ⟨g22, 0, none⟩), .slice (some ⟨g23, 0, none⟩) n1 n1, (j24 4), (j24 5), .pointer (some ⟨g21, 0, none⟩), .slice A1 n1 c1, .int .i64 (n1 : Int), .slice (some ⟨g23, 0, none⟩) n1 n1, .pointer (some ⟨g21, 0, none⟩), .slice A1 n1 c1, .int .i64 (n1 : Int), .int .i64 (i : Int), (j24 14), (j24 15), (j24 16), (j24 17), (j24 18), (j24 19), (j24 20), (j24 21), (j24 22), (j24 23), (j24 24), (j24 25), (j24 26), (j24 27), (j24 28), (j24 29), (j24 30), (j24 31), (j24 32), (j24 33), (j24 34), (j24 35), undef, undef], []⟩ ∧ m_ = n1 - i ∧ Mem w [] X u_ [.own g23 2 n1 n1 (i64s M), .box g22 #[.slice none 0 0] 26, .box g21 #[.slice A1 n1 c1] 26] [⟨Dk, [.slice A1 n1 c1], x⟩] ∧ (i ≤ n1) ∧ (Half x i M)) (fun _ hM => ⟨_, 0, (List.replicate n1 0), (fun t => (#[.agg #[.slice A1 n1 c1], .pointer (some ⟨g21, 0, none⟩), .pointer (some ⟨g22, 0, none⟩), .slice (some ⟨g23, 0, none⟩) n1 n1, undef, undef, .pointer (some ⟨g21, 0, none⟩), .slice A1 n1 c1, .int .i64 (n1 : Int), .slice (some ⟨g23, 0, none⟩) n1 n1, .pointer (some ⟨g21, 0, none⟩), .slice A1 n1 c1, .int .i64 (n1 : Int), .int .i64 0, undef, undef, undef, undef, undef, undef, undef, undef, undef, undef, undef, undef, undef, undef, undef, undef, undef, undef, undef, undef, undef, undef, undef, undef] : Array Value).getD t undef), (by kernel_rfl), rfl, (hM.clr).add (hM.f 0 rfl), (by omega), (Half.start x n1)⟩) ?_
 rintro m_ a_ u_ ⟨i, M, j24, rfl, hm24, hM, hi, hH⟩
 have hMl := (hM.o 0 rfl).ilen
 refine CG.go hM ?_
 refine CG.seq fun K_ k2 => ?_
 refine CG.lin 1 ?_
 refine GL.v (.bool (decide ((i : Int) < (n1 : Int)))) ?_
 refine GL.k k2 ?_
 refine CG.seq fun K_ k2 => ?_
 by_cases hc25 : (i : Int) < (n1 : Int)
 · have hk25 : (decide ((i : Int) < (n1 : Int))) = true := decide_eq_true hc25
   refine CG.yes ?_ hk25 rfl
   refine CG.skip ?_
   refine QG.k k2 ?_
   refine CG.seq fun K_ k2 => ?_
   refine CG.block ?_
   refine CG.seq fun K_ k3 => ?_
   refine CG.lin 5 ?_
   refine GL.v (.int .i64 (i : Int)) ?_
   refine GL.r (elemPtr A1 i) (fun _ hM => op_index rowt24 (c := c1) (k := .i64) (i := (i : Int)) i (by kernel_rfl) (by kernel_rfl) (by omega) (by omega) (Dk.row (hM.f 0 rfl)) _) ?_
   refine GL.r (.int .i64 ((dg x).getD i 0)) (fun _ hM => op_load_i64 (n := n1) (by kernel_rfl) agg2 (Dk.row (hM.f 0 rfl)) (by omega)) ?_
   refine GL.v (.int .i64 (i : Int)) ?_
   refine GL.v (.int .i64 ((dg x).getD i 0)) ?_
   refine GL.k k3 ?_
   refine CG.seq fun K_ k3 => ?_
   refine CG.lin 6 ?_
   refine GL.v (.slice (some ⟨g23, 0, none⟩) n1 n1) ?_
   refine GL.v (.int .i64 (i : Int)) ?_
   refine GL.v (.int .i64 ((dg x).getD i 0)) ?_
   have hy := dg_get x i
   refine GL.v (.int .i64 (((dg x).getD i 0) / 2)) ?_ (hr := fun u => op_to (v := .int .i64 ((((dg x).getD i 0)).fdiv (2 ^ 1))) (by kernel_rfl) (fdiv_pow .i64 _ 1 2 (by decide) (by decide)))
   refine GL.r (elemPtr (some ⟨g23, 0, none⟩) i) (fun _ hM => op_index rowt24 (c := n1) (k := .i64) (i := (i : Int)) i (by kernel_rfl) (by kernel_rfl) (by omega) (by omega) (hM.o 0 rfl).row _) ?_
   refine GL.el (fun _ _ _ => Mem.el0) (fun _ hM => op_set_i64 i (((dg x).getD i 0) / 2) siz2 (hM.o 0 rfl) (by kernel_rfl) (by kernel_rfl) (by omega)) ?_
   refine GL.k k3 ?_
   refine CG.seq fun K_ k3 => ?_
   refine CG.lin 2 ?_
   refine GL.v (.int .i64 (i : Int)) ?_
   refine GL.v (.bool (decide ((i : Int) > (0 : Int)))) ?_
   refine GL.k k3 ?_
   by_cases hc26 : (i : Int) > (0 : Int)
   · have hk26 : (decide ((i : Int) > (0 : Int))) = true := decide_eq_true hc26
     refine CG.yes ?_ hk26 rfl
     refine CG.lin 11 ?_
     refine GL.v (.slice (some ⟨g23, 0, none⟩) n1 n1) ?_
     refine GL.v (.int .i64 (i : Int)) ?_
     refine GL.v (.int .i64 ((i : Int) - (1 : Int))) ?_ (hr := fun u => op_to (v := .int .i64 (IntKind.wrap .i64 ((i : Int) - (1 : Int)))) (by kernel_rfl) (wrap_i64 rfl (by omega) (by omega)))
     refine GL.r (elemPtr (some ⟨g23, 0, none⟩) (i - 1)) (fun _ hM => op_index rowt24 (c := n1) (k := .i64) (i := ((i : Int) - (1 : Int))) (i - 1) (by kernel_rfl) (by kernel_rfl) (by omega) (by omega) (hM.o 0 rfl).row _) ?_
     have hm := hH.I (by omega)
     have hm2 := hH.B (i - 1)
     refine GL.r (.int .i64 (M.getD (i - 1) 0)) (fun _ hM => op_to (v := .int .i64 ((M.set i (((dg x).getD i 0) / 2)).getD (i - 1) 0)) (op_load_i64 (n := n1) (by kernel_rfl) agg2 (hM.o 0 rfl).row (by omega)) (congrArg (Value.int .i64) (by rw [set_get _ (by omega), if_neg (by omega)]))) ?_
     refine GL.v (.int .i64 ((dg x).getD i 0)) ?_
     refine GL.v (.int .i64 (((dg x).getD i 0) % 2)) ?_ (hr := fun u => op_to (v := .int .i64 (IntKind.wrap .i64 ((BitVec.ofInt 64 ((dg x).getD i 0) &&& BitVec.ofInt 64 1).toNat : Nat))) (by kernel_rfl) (mask_to 1 (by decide) _ _ 2 (by decide) (by decide)))
     refine GL.v (.int .i64 ((((dg x).getD i 0) % 2) * 8388608)) ?_ (hr := fun u => op_to (v := .int .i64 (IntKind.wrap .i64 ((((dg x).getD i 0) % 2) * 2 ^ 23))) (by kernel_rfl) (shl_i64 23 _ 8388608 _ (by decide) rfl (by omega) (by omega)))
     refine GL.v (.int .i64 ((M.getD (i - 1) 0) + ((((dg x).getD i 0) % 2) * 8388608))) ?_ (hr := fun u => op_to (v := .int .i64 (IntKind.wrap .i64 ((M.getD (i - 1) 0) + ((((dg x).getD i 0) % 2) * 8388608)))) (by kernel_rfl) (wrap_i64 rfl (by omega) (by omega)))
     refine GL.r (elemPtr (some ⟨g23, 0, none⟩) (i - 1)) (fun _ hM => op_index rowt24 (c := n1) (k := .i64) (i := ((i : Int) - (1 : Int))) (i - 1) (by kernel_rfl) (by kernel_rfl) (by omega) (by omega) (hM.o 0 rfl).row _) ?_
     refine GL.el (fun _ _ _ => Mem.el0) (fun _ hM => op_set_i64 (i - 1) ((M.getD (i - 1) 0) + ((((dg x).getD i 0) % 2) * 8388608)) siz2 (hM.o 0 rfl) (by kernel_rfl) (by kernel_rfl) (by omega)) ?_
     refine GL.q ?_
     refine QG.block ?_
     refine QG.k k2 ?_
     refine CG.lin 2 ?_
     refine GL.v (.int .i64 ((i + 1 : Nat) : Int)) ?_ (hr := fun u => op_to (v := .int .i64 (IntKind.wrap .i64 ((i : Int) + (1 : Int)))) (by kernel_rfl) (wrap_i64 (by omega) (by omega) (by omega)))
     refine GL.v (.int .i64 ((i + 1 : Nat) : Int)) ?_
     refine GL.q ?_
     refine QG.again fun _ hM => ?_
     exact ⟨n1 - (i + 1), (by omega), (i + 1), ((M.set i (((dg x).getD i 0) / 2)).set (i - 1) ((M.getD (i - 1) 0) + ((((dg x).getD i 0) % 2) * 8388608))), (fun t => (#[.agg #[.slice A1 n1 c1], .pointer (some ⟨g21, 0, none⟩), .pointer (some ⟨g22, 0, none⟩), .slice (some ⟨g23, 0, none⟩) n1 n1, .int .i64 (i : Int), .int .i64 ((dg x).getD i 0), .pointer (some ⟨g21, 0, none⟩), .slice A1 n1 c1, .int .i64 (n1 : Int), .slice (some ⟨g23, 0, none⟩) n1 n1, .pointer (some ⟨g21, 0, none⟩), .slice A1 n1 c1, .int .i64 (n1 : Int), .int .i64 ((i + 1 : Nat) : Int), .bool (decide ((i : Int) < (n1 : Int))), .int .i64 (i : Int), elemPtr A1 i, .int .i64 ((dg x).getD i 0), .slice (some ⟨g23, 0, none⟩) n1 n1, .int .i64 (i : Int), .int .i64 ((dg x).getD i 0), .int .i64 (((dg x).getD i 0) / 2), elemPtr (some ⟨g23, 0, none⟩) i, .int .i64 (i : Int), .bool (decide ((i : Int) > (0 : Int))), .slice (some ⟨g23, 0, none⟩) n1 n1, .int .i64 (i : Int), .int .i64 ((i : Int) - (1 : Int)), elemPtr (some ⟨g23, 0, none⟩) (i - 1), .int .i64 (M.getD (i - 1) 0), .int .i64 ((dg x).getD i 0), .int .i64 (((dg x).getD i 0) % 2), .int .i64 ((((dg x).getD i 0) % 2) * 8388608), .int .i64 ((M.getD (i - 1) 0) + ((((dg x).getD i 0) % 2) * 8388608)), elemPtr (some ⟨g23, 0, none⟩) (i - 1), .int .i64 ((i + 1 : Nat) : Int), undef, undef] : Array Value).getD t undef), (by kernel_rfl), rfl, (hM.clr).add (hM.f 0 rfl), (by omega), (hH.next (by omega) (by omega) (by omega))⟩
   · have hk26 : (decide ((i : Int) > (0 : Int))) = false := decide_eq_false hc26
     refine CG.no ?_ hk26 rfl
     refine CG.skip ?_
     refine QG.block ?_
     refine QG.k k2 ?_
     refine CG.lin 2 ?_
     refine GL.v (.int .i64 ((i + 1 : Nat) : Int)) ?_ (hr := fun u => op_to (v := .int .i64 (IntKind.wrap .i64 ((i : Int) + (1 : Int)))) (by kernel_rfl) (wrap_i64 (by omega) (by omega) (by omega)))
     refine GL.v (.int .i64 ((i + 1 : Nat) : Int)) ?_
     refine GL.q ?_
     refine QG.again fun _ hM => ?_
     exact ⟨n1 - (i + 1), (by omega), (i + 1), (M.set i (((dg x).getD i 0) / 2)), (fun t => (#[.agg #[.slice A1 n1 c1], .pointer (some ⟨g21, 0, none⟩), .pointer (some ⟨g22, 0, none⟩), .slice (some ⟨g23, 0, none⟩) n1 n1, .int .i64 (i : Int), .int .i64 ((dg x).getD i 0), .pointer (some ⟨g21, 0, none⟩), .slice A1 n1 c1, .int .i64 (n1 : Int), .slice (some ⟨g23, 0, none⟩) n1 n1, .pointer (some ⟨g21, 0, none⟩), .slice A1 n1 c1, .int .i64 (n1 : Int), .int .i64 ((i + 1 : Nat) : Int), .bool (decide ((i : Int) < (n1 : Int))), .int .i64 (i : Int), elemPtr A1 i, .int .i64 ((dg x).getD i 0), .slice (some ⟨g23, 0, none⟩) n1 n1, .int .i64 (i : Int), .int .i64 ((dg x).getD i 0), .int .i64 (((dg x).getD i 0) / 2), elemPtr (some ⟨g23, 0, none⟩) i, .int .i64 (i : Int), .bool (decide ((i : Int) > (0 : Int))), (j24 25), (j24 26), (j24 27), (j24 28), (j24 29), (j24 30), (j24 31), (j24 32), (j24 33), (j24 34), .int .i64 ((i + 1 : Nat) : Int), undef, undef] : Array Value).getD t undef), (by kernel_rfl), rfl, (hM.clr).add (hM.f 0 rfl), (by omega), (by have h0 : i = 0 := (by omega); rw [h0] at hH ⊢; exact hH.first (by omega) (by omega))⟩
 · have hk25 : (decide ((i : Int) < (n1 : Int))) = false := decide_eq_false hc25
   refine CG.no ?_ hk25 rfl
   refine CG.exit (QG.then_exit (QG.then_exit (QG.here ?_)))
   refine QG.k k1 ?_
   refine CG.seq fun K_ k1 => ?_
   refine CG.lin 3 ?_
   refine GL.v (.slice (some ⟨g23, 0, none⟩) n1 n1) ?_
   refine GL.call (fun _ hM => settled_ok hM.gi0.1.avlt (x := x / 2) hM.gi0.2.1 hM.gi0.2.2 (hH.done (by omega)) (mem_of_get hH.B (by decide) (by decide)) (by first | assumption | omega)) ?_
   rintro _ _ _ hM ⟨A27, n27, c27, rfl, h27, hb⟩
   refine ⟨_, _, _, rfl, (hM.up0 hb).add h27, ?_⟩
   refine GL.sA (cs' := #[.slice A27 n27 c27]) (fun _ _ => Mem.st0) (fun _ hM => hM.b 0 rfl) siz26 ?_
   refine GL.k k1 ?_
   refine CG.ret (QG.ret (fun _ hM => results_one rfl (res_cell rfl (loadVar_agg agg26 siz26 (hM.b 0 rfl) rfl rfl))) ?_)
   intro _ hM
   exact ⟨_, _, _, rfl, (hM.out (hM.f 0 rfl)), hM.below⟩

set_option maxRecDepth 100000 in
set_option maxHeartbeats 400000 in
theorem even_ok {w : World} {X : Nat → Prop} {A1 : Option Addr} {n1 : Nat} {c1 : Nat} {x : Nat} (hX : ∀ k, X k → k < w.heap.size) (h1 : Dk.R X w [.slice A1 n1 c1] x) (p1 : x ≠ 0) :
    Calls Tryz.prog 127 #[.agg #[.slice A1 n1 c1]] w (fun e w' => e = .returned (.bool (decide (x % 2 = 0))) ∧ Below w.heap.size w w') := by
 have hM := (Mem.start hX).add0 h1
 have l1 := Dk.le h1
 have m1 := Dk.len h1
 have hsx : (dg x).length = n1 := m1
 have hn0 : 0 < n1 := by have := dg_pos p1; omega
 have hg := dg_get x 0
 refine calls_of hM Tryz.func127 Tryz.ntmps127 ?_
 refine CG.seq fun K_ k1 => ?_
 refine CG.lin 2 ?_
 refine GL.bA #[.slice A1 n1 c1] fun g21 => ?_
 refine GL.v (.bool false) ?_
 refine GL.k k1 ?_
 refine CG.seq fun K_ k1 => ?_
 refine CG.lin 7 ?_
 refine GL.v (.pointer (some ⟨g21, 0, none⟩)) ?_
 refine GL.r (.slice A1 n1 c1) (fun _ hM => op_load_one (off := 0) (by kernel_rfl) agg24 (hM.b 0 rfl) rfl) ?_
 refine GL.r (elemPtr A1 0) (fun _ hM => op_index rowt24 (c := c1) (k := .i64) (i := (0 : Int)) 0 (by kernel_rfl) (by kernel_rfl) (by omega) (by omega) (Dk.row (hM.f 0 rfl)) _) ?_
 refine GL.r (.int .i64 ((dg x).getD 0 0)) (fun _ hM => op_load_i64 (n := n1) (by kernel_rfl) agg2 (Dk.row (hM.f 0 rfl)) (by omega)) ?_
 refine GL.v (.int .i64 (((dg x).getD 0 0) % 2)) ?_ (hr := fun u => op_to (v := .int .i64 (IntKind.wrap .i64 ((BitVec.ofInt 64 ((dg x).getD 0 0) &&& BitVec.ofInt 64 1).toNat : Nat))) (by kernel_rfl) (mask_to 1 (by decide) _ _ 2 (by decide) (by decide)))
 refine GL.v (.bool ((((dg x).getD 0 0) % 2) == (0 : Int))) ?_
 refine GL.v (.bool ((((dg x).getD 0 0) % 2) == (0 : Int))) ?_
 refine GL.k k1 ?_
 refine CG.ret (QG.ret (fun _ hM => results_one rfl (res_tmp rfl)) ?_)
 intro _ hM
 exact ⟨ret_bool (even_digit x), hM.below⟩

set_option maxRecDepth 100000 in
set_option maxHeartbeats 400000 in
theorem shifted_ok {w : World} {X : Nat → Prop} {A1 : Option Addr} {n1 : Nat} {c1 : Nat} {x : Nat} {k : Nat} (hX : ∀ k, X k → k < w.heap.size) (h1 : Dk.R X w [.slice A1 n1 c1] x) (p1 : szn x ≤ 1099511627776) (p2 : k ≤ 26388279066624) :
    Calls Tryz.prog 130 #[.agg #[.slice A1 n1 c1], .int .i64 (k : Int)] w (fun e w' => ∃ Ar nr cr, e = .returned (.agg #[.slice Ar nr cr]) ∧ Dk.R X w' [.slice Ar nr cr] (x * 2 ^ k) ∧ Below w.heap.size w w') := by
 have hM := (Mem.start hX).add0 h1
 have l1 := Dk.le h1
 have m1 := Dk.len h1
 have hsx : szn x = n1 := m1
 have hsx : (dg x).length = n1 := m1
 refine calls_of hM Tryz.func130 Tryz.ntmps130 ?_
 refine CG.seq fun K_ k1 => ?_
 refine CG.lin 2 ?_
 refine GL.bA #[.slice A1 n1 c1] fun g21 => ?_
 refine GL.aA zer26 fun g22 => ?_
 refine GL.k k1 ?_
 refine CG.seq fun K_ k1 => ?_
 refine CG.lin 11 ?_
 refine GL.v (.int .i64 (k : Int)) ?_
 refine GL.v (.int .i64 ((k / 24 : Nat) : Int)) ?_ (hr := fun u => op_to (v := .int .i64 (IntKind.wrap .i64 (((k : Int)).tdiv 24))) (by kernel_rfl) (quo_i64 (by omega) (by omega) (by omega) (by omega)))
 refine GL.v (.int .i64 (k : Int)) ?_
 refine GL.v (.int .i64 ((k / 24 : Nat) : Int)) ?_ (hr := fun u => op_to (v := .int .i64 (IntKind.wrap .i64 (((k : Int)).tdiv 24))) (by kernel_rfl) (quo_i64 (by omega) (by omega) (by omega) (by omega)))
 refine GL.v (.pointer (some ⟨g21, 0, none⟩)) ?_
 refine GL.r (.slice A1 n1 c1) (fun _ hM => op_load_one (off := 0) (by kernel_rfl) agg24 (hM.b 1 rfl) rfl) ?_
 refine GL.v (.int .i64 (n1 : Int)) ?_
 refine GL.v (.int .i64 (((k / 24) + n1 : Nat) : Int)) ?_ (hr := fun u => op_to (v := .int .i64 (IntKind.wrap .i64 (((k / 24 : Nat) : Int) + (n1 : Int)))) (by kernel_rfl) (wrap_i64 (by omega) (by omega) (by omega)))
 refine GL.v (.int .i64 ((((k / 24) + n1) + 1 : Nat) : Int)) ?_ (hr := fun u => op_to (v := .int .i64 (IntKind.wrap .i64 ((((k / 24) + n1 : Nat) : Int) + (1 : Int)))) (by kernel_rfl) (wrap_i64 (by omega) (by omega) (by omega)))
 refine GL.row (fun _ => op_make rowt24 (kl := .i64) (kc := .i64) (l := ((k / 24 : Nat) : Int)) (c := ((((k / 24) + n1) + 1 : Nat) : Int)) (k / 24) (((k / 24) + n1) + 1) (by kernel_rfl) (by kernel_rfl) (by omega) (by omega) (by omega) (by omega) (by omega)) (fun _ _ _ hm => own_made_i64 hm (by omega) (by omega)) fun g23 => ?_
 refine GL.v (.slice (some ⟨g23, 0, none⟩) (k / 24) (((k / 24) + n1) + 1)) ?_
 refine GL.k k1 ?_
 refine CG.seq fun K_ k1 => ?_
 refine CG.seq fun K_ k2 => ?_
 refine CG.lin 4 ?_
 refine GL.v (.pointer (some ⟨g21, 0, none⟩)) ?_
 refine GL.r (.slice A1 n1 c1) (fun _ hM => op_load_one (off := 0) (by kernel_rfl) agg24 (hM.b 2 rfl) rfl) ?_
 refine GL.v (.int .i64 (n1 : Int)) ?_
 refine GL.v (.int .i64 0) ?_
 refine GL.k k2 ?_
 refine CG.block ?_
 refine CG.loop (fun m_ a_ u_ => ∃ (i : Nat) (g5 : Nat) (n5 : Nat) (c5 : Nat) (N : List Int) (j24 : Nat → Value), a_ = ⟨#[.agg #[.slice A1 n1 c1], .int .i64 (k : Int), .pointer (some ⟨g21, 0, none⟩), undef, .pointer (some ⟨g22, 0, none⟩), .slice (some ⟨g5, 0, none⟩) n5 c5, undef, (j24 7), .int .i64 (k : Int), .int .i64 ((k / 24 : Nat) : Int), .int .i64 (k : Int), .int .i64 ((k / 24 : Nat) : Int), .pointer (some ⟨g21, 0, none⟩), .slice A1 n1 c1, .int .i64 (n1 : Int), .int .i64 (((k / 24) + n1 : Nat) : Int), .int .i64 ((((k / 24) + n1) + 1 : Nat) : Int), .slice (some ⟨g23, 0, none⟩) (k / 24) (((k / 24) + n1) + 1), .pointer (some ⟨g21, 0, none⟩), .slice A1 n1 c1, .int .i64 (n1 : Int), .int .i64 (i : Int), (j24 22), (j24 23), (j24 24), (j24 25), (j24 26), (j24 27), (j24 28), (j24 29), (j24 30), (j24 31), (j24 32), undef, undef], []⟩ ∧ m_ = n1 - i ∧ Mem w [] X u_ [.own g5 2 n5 c5 (i64s N), .box g22 #[.slice none 0 0] 26, .box g21 #[.slice A1 n1 c1] 26] [⟨Dk, [.slice A1 n1 c1], x⟩] ∧ (i ≤ n1 ∧ n5 = k / 24 + i) ∧ (val 16777216 N = 2 ^ k * val 16777216 ((dg x).take i)) ∧ (∀ y, y ∈ N → (0 : Int) ≤ y ∧ y ≤ 140737488355328)) (fun _ hM => ⟨_, 0, g23, (k / 24), (((k / 24) + n1) + 1), (List.replicate (k / 24) 0), (fun t => (#[.agg #[.slice A1 n1 c1], .int .i64 (k : Int), .pointer (some ⟨g21, 0, none⟩), undef, .pointer (some ⟨g22, 0, none⟩), .slice (some ⟨g23, 0, none⟩) (k / 24) (((k / 24) + n1) + 1), undef, undef, .int .i64 (k : Int), .int .i64 ((k / 24 : Nat) : Int), .int .i64 (k : Int), .int .i64 ((k / 24 : Nat) : Int), .pointer (some ⟨g21, 0, none⟩), .slice A1 n1 c1, .int .i64 (n1 : Int), .int .i64 (((k / 24) + n1 : Nat) : Int), .int .i64 ((((k / 24) + n1) + 1 : Nat) : Int), .slice (some ⟨g23, 0, none⟩) (k / 24) (((k / 24) + n1) + 1), .pointer (some ⟨g21, 0, none⟩), .slice A1 n1 c1, .int .i64 (n1 : Int), .int .i64 0, undef, undef, undef, undef, undef, undef, undef, undef, undef, undef, undef, undef, undef] : Array Value).getD t undef), (by kernel_rfl), rfl, (hM.clr).add (hM.f 0 rfl), (by omega), (by rw [val_replicate_zero]; simp), (fun y hy => by have := (List.mem_replicate.1 hy).2; omega)⟩) ?_
 rintro m_ a_ u_ ⟨i, g5, n5, c5, N, j24, rfl, hm24, hM, hi, hV, hB⟩
 have hNl := (hM.o 0 rfl).ilen
 refine CG.go hM ?_
 refine CG.seq fun K_ k2 => ?_
 refine CG.lin 1 ?_
 refine GL.v (.bool (decide ((i : Int) < (n1 : Int)))) ?_
 refine GL.k k2 ?_
 refine CG.seq fun K_ k2 => ?_
 by_cases hc25 : (i : Int) < (n1 : Int)
 · have hk25 : (decide ((i : Int) < (n1 : Int))) = true := decide_eq_true hc25
   refine CG.yes ?_ hk25 rfl
   refine CG.skip ?_
   refine QG.k k2 ?_
   refine CG.seq fun K_ k2 => ?_
   refine CG.block ?_
   refine CG.seq fun K_ k3 => ?_
   refine CG.lin 3 ?_
   refine GL.r (elemPtr A1 i) (fun _ hM => op_index rowt24 (c := c1) (k := .i64) (i := (i : Int)) i (by kernel_rfl) (by kernel_rfl) (by omega) (by omega) (Dk.row (hM.f 0 rfl)) _) ?_
   refine GL.r (.int .i64 ((dg x).getD i 0)) (fun _ hM => op_load_i64 (n := n1) (by kernel_rfl) agg2 (Dk.row (hM.f 0 rfl)) (by omega)) ?_
   refine GL.v (.int .i64 ((dg x).getD i 0)) ?_
   refine GL.k k3 ?_
   refine CG.lin 8 ?_
   refine GL.v (.slice (some ⟨g5, 0, none⟩) n5 c5) ?_
   refine GL.v (.int .i64 ((dg x).getD i 0)) ?_
   refine GL.v (.int .i64 (k : Int)) ?_
   refine GL.v (.int .i64 ((k % 24 : Nat) : Int)) ?_ (hr := fun u => op_to (v := .int .i64 (((k : Int)).tmod 24)) (by kernel_rfl) (rem_to .i64 (by omega) (by omega)))
   have hs := shl_bound (dg_get x i) (n := k % 24) (by omega)
   refine GL.v (.int .i64 (((dg x).getD i 0) * 2 ^ (k % 24))) ?_ (hr := fun u => op_to (op_shl (k := .i64) (k' := .i64) (x := ((dg x).getD i 0)) (k % 24) (by kernel_rfl) (by kernel_rfl) (by show _ ≤ 64; omega) u) (wrap_i64 rfl (by omega) (by omega)))
   refine GL.row (fun _ => op_build1 rowt24 (v := .int .i64 (((dg x).getD i 0) * 2 ^ (k % 24))) (by kernel_rfl) rfl) (fun _ _ _ hm => own_one_i64 hm) fun g26 => ?_
   refine GL.gr (fun _ _ _ _ => Mem.gr1) (fun _ hM => op_append_i64 (cx := 1) rowt24 (hM.o 1 rfl) (hM.o 0 rfl).row (by kernel_rfl) (by kernel_rfl) (by omega) (by omega)) fun g27 c27 => ?_
   refine GL.v (.slice (some ⟨g27, 0, none⟩) (n5 + 1) c27) ?_
   refine GL.q ?_
   refine QG.block ?_
   refine QG.k k2 ?_
   refine CG.lin 2 ?_
   refine GL.v (.int .i64 ((i + 1 : Nat) : Int)) ?_ (hr := fun u => op_to (v := .int .i64 (IntKind.wrap .i64 ((i : Int) + (1 : Int)))) (by kernel_rfl) (wrap_i64 (by omega) (by omega) (by omega)))
   refine GL.v (.int .i64 ((i + 1 : Nat) : Int)) ?_
   refine GL.q ?_
   refine QG.again fun _ hM => ?_
   exact ⟨n1 - (i + 1), (by omega), (i + 1), g27, (n5 + 1), c27, (N ++ [(((dg x).getD i 0) * 2 ^ (k % 24))]), (fun t => (#[.agg #[.slice A1 n1 c1], .int .i64 (k : Int), .pointer (some ⟨g21, 0, none⟩), undef, .pointer (some ⟨g22, 0, none⟩), .slice (some ⟨g27, 0, none⟩) (n5 + 1) c27, undef, .int .i64 ((dg x).getD i 0), .int .i64 (k : Int), .int .i64 ((k / 24 : Nat) : Int), .int .i64 (k : Int), .int .i64 ((k / 24 : Nat) : Int), .pointer (some ⟨g21, 0, none⟩), .slice A1 n1 c1, .int .i64 (n1 : Int), .int .i64 (((k / 24) + n1 : Nat) : Int), .int .i64 ((((k / 24) + n1) + 1 : Nat) : Int), .slice (some ⟨g23, 0, none⟩) (k / 24) (((k / 24) + n1) + 1), .pointer (some ⟨g21, 0, none⟩), .slice A1 n1 c1, .int .i64 (n1 : Int), .int .i64 ((i + 1 : Nat) : Int), .bool (decide ((i : Int) < (n1 : Int))), elemPtr A1 i, .int .i64 ((dg x).getD i 0), .slice (some ⟨g5, 0, none⟩) n5 c5, .int .i64 ((dg x).getD i 0), .int .i64 (k : Int), .int .i64 ((k % 24 : Nat) : Int), .int .i64 (((dg x).getD i 0) * 2 ^ (k % 24)), .slice (some ⟨g26, 0, none⟩) 1 1, .slice (some ⟨g27, 0, none⟩) (n5 + 1) c27, .int .i64 ((i + 1 : Nat) : Int), undef, undef] : Array Value).getD t undef), (by kernel_rfl), rfl, ((hM.dropn 1).clr).add ((hM.dropn 1).f 0 rfl), (by omega), (shift_step (by omega) (by omega) hV), (snoc_mem hB hs)⟩
 · have hk25 : (decide ((i : Int) < (n1 : Int))) = false := decide_eq_false hc25
   refine CG.no ?_ hk25 rfl
   refine CG.exit (QG.then_exit (QG.then_exit (QG.here ?_)))
   refine QG.k k1 ?_
   refine CG.seq fun K_ k1 => ?_
   refine CG.lin 3 ?_
   refine GL.v (.slice (some ⟨g5, 0, none⟩) n5 c5) ?_
   refine GL.call (fun _ hM => settled_ok hM.gi0.1.avlt (x := x * 2 ^ k) hM.gi0.2.1 hM.gi0.2.2 (shift_done (by omega) hV) (fun y hy => by have := hB y hy; omega) (by first | assumption | omega)) ?_
   rintro _ _ _ hM ⟨A28, n28, c28, rfl, h28, hb⟩
   refine ⟨_, _, _, rfl, (hM.up0 hb).add h28, ?_⟩
   refine GL.sA (cs' := #[.slice A28 n28 c28]) (fun _ _ => Mem.st0) (fun _ hM => hM.b 0 rfl) siz26 ?_
   refine GL.k k1 ?_
   refine CG.ret (QG.ret (fun _ hM => results_one rfl (res_cell rfl (loadVar_agg agg26 siz26 (hM.b 0 rfl) rfl rfl))) ?_)
   intro _ hM
   exact ⟨_, _, _, rfl, (hM.out (hM.f 0 rfl)), hM.below⟩

set_option maxRecDepth 100000 in
set_option maxHeartbeats 400000 in
theorem divisor_ok {w : World} {X : Nat → Prop} {a b : Nat} (hX : ∀ k, X k → k < w.heap.size) (p1 : a ≤ 18446744073709551615) (p2 : b ≤ 18446744073709551615) :
    Calls Tryz.prog 129 #[.int .u64 (a : Int), .int .u64 (b : Int)] w (fun e w' => e = .returned (.int .u64 ((Nat.gcd a b : Nat) : Int)) ∧ Below w.heap.size w w') := by
 have hM := Mem.start hX
 refine calls_of hM Tryz.func129 Tryz.ntmps129 ?_
 refine CG.seq fun K_ k1 => ?_
 refine CG.lin 1 ?_
 refine GL.v (.int .u64 0) ?_
 refine GL.k k1 ?_
 refine CG.seq fun K_ k1 => ?_
 refine CG.block ?_
 refine CG.loop (fun m_ a_ u_ => ∃ (p : Nat) (q : Nat) (j21 : Nat → Value), a_ = ⟨#[.int .u64 (p : Int), .int .u64 (q : Int), undef, undef, .int .u64 0, (j21 5), (j21 6), (j21 7), (j21 8), (j21 9), (j21 10), undef], []⟩ ∧ m_ = q ∧ Mem w [] X u_ [] [] ∧ (Nat.gcd p q = Nat.gcd a b) ∧ (p ≤ 18446744073709551615 ∧ q ≤ 18446744073709551615)) (fun _ hM => ⟨_, a, b, (fun t => (#[.int .u64 (a : Int), .int .u64 (b : Int), undef, undef, .int .u64 0, undef, undef, undef, undef, undef, undef, undef] : Array Value).getD t undef), (by kernel_rfl), rfl, hM.clr, rfl, (by omega)⟩) ?_
 rintro m_ a_ u_ ⟨p, q, j21, rfl, hm21, hM, hG, hb⟩
 refine CG.go hM ?_
 refine CG.seq fun K_ k2 => ?_
 refine CG.seq fun K_ k3 => ?_
 refine CG.lin 2 ?_
 refine GL.v (.int .u64 (q : Int)) ?_
 refine GL.v (.bool ((q : Int) != (0 : Int))) ?_
 refine GL.k k3 ?_
 by_cases hc22 : (q : Int) ≠ (0 : Int)
 · have hk22 : ((q : Int) != (0 : Int)) = true := bne_iff_ne.2 hc22
   refine CG.yes ?_ hk22 rfl
   refine CG.skip ?_
   refine QG.k k2 ?_
   refine CG.block ?_
   refine CG.draw [] [0, 1, 2, 3] (.step 0 (.step 1 (.step 2 (.step 3 (.step 4 (.step 5 .done)))))) (fun V hV23 => ?_)
   refine GD.ev (.int .u64 (q : Int)) ?_
   refine GD.ev (.int .u64 (p : Int)) ?_
   refine GD.ev (.int .u64 (q : Int)) ?_
   refine GD.ev (.int .u64 ((p % q : Nat) : Int)) ?_ (hr := fun u => op_to (op_rem (k := .u64) (x := (p : Int)) (y := (q : Int)) (by kernel_rfl) (by kernel_rfl) (by omega) u) (rem_to .u64 (Int.natCast_emod _ _).symm (by omega)))
   refine GD.v (.int .u64 (q : Int)) ?_
   refine GD.v (.int .u64 ((p % q : Nat) : Int)) ?_
   refine GD.q ?_
   refine QG.block ?_
   refine QG.again fun _ hM => ?_
   have hml := Nat.mod_lt p (show 0 < q by omega)
   exact ⟨(p % q), (by omega), q, (p % q), (fun t => (#[.int .u64 (q : Int), .int .u64 ((p % q : Nat) : Int), undef, undef, .int .u64 0, .int .u64 (q : Int), .bool ((q : Int) != (0 : Int)), .int .u64 (q : Int), .int .u64 (p : Int), .int .u64 (q : Int), .int .u64 ((p % q : Nat) : Int), undef] : Array Value).getD t undef), (by kernel_rfl), rfl, hM.clr, (by rw [← hG, Nat.gcd_comm p q, Nat.gcd_rec q p, Nat.gcd_comm]), (by omega)⟩
 · have hk22 : ((q : Int) != (0 : Int)) = false := by simpa using hc22
   refine CG.no ?_ hk22 rfl
   refine CG.exit (QG.then_exit (QG.then_exit (QG.here ?_)))
   refine QG.k k1 ?_
   refine CG.seq fun K_ k1 => ?_
   refine CG.lin 2 ?_
   refine GL.v (.int .u64 (p : Int)) ?_
   refine GL.v (.int .u64 (p : Int)) ?_
   refine GL.k k1 ?_
   refine CG.ret (QG.ret (fun _ hM => results_one rfl (res_tmp rfl)) ?_)
   intro _ hM
   exact ⟨ret_int (by have hq0 : q = 0 := (by omega); rw [← hG, hq0, Nat.gcd_zero_right]), hM.below⟩

set_option maxRecDepth 100000 in
set_option maxHeartbeats 400000 in
theorem down_ok {w : World} {X : Nat → Prop} {A1 : Option Addr} {n1 : Nat} {c1 : Nat} {x : Nat} (hX : ∀ k, X k → k < w.heap.size) (h1 : Dk.R X w [.slice A1 n1 c1] x) :
    Calls Tryz.prog 131 #[.agg #[.slice A1 n1 c1]] w (fun e w' => ∃ br, e = .returned (.func (.func 140) #[] #[.pointer (some ⟨br, 0, none⟩)]) ∧ Itk.R X w' [.func (.func 140) #[] #[.pointer (some ⟨br, 0, none⟩)]] x ∧ Below w.heap.size w w') := by
 have hM := (Mem.start hX).add0 h1
 refine calls_of hM Tryz.func131 Tryz.ntmps131 ?_
 refine CG.seq fun K_ k1 => ?_
 refine CG.lin 2 ?_
 refine GL.bA #[.slice A1 n1 c1] fun g21 => ?_
 refine GL.v .nilFunc ?_
 refine GL.k k1 ?_
 refine CG.seq fun K_ k1 => ?_
 refine CG.lin 2 ?_
 refine GL.v (.func (.func 140) #[] #[.pointer (some ⟨g21, 0, none⟩)]) ?_
 refine GL.v (.func (.func 140) #[] #[.pointer (some ⟨g21, 0, none⟩)]) ?_
 refine GL.k k1 ?_
 refine CG.mem (fun _ hM => hM.pb0 fun hM hb hx => Itk.of hb hx (hM.f 0 rfl)) ?_
 refine CG.ret (QG.ret (fun _ hM => results_one rfl (res_tmp rfl)) ?_)
 intro _ hM
 exact ⟨_, rfl, (hM.out (hM.f 0 rfl)), hM.below⟩

set_option maxRecDepth 100000 in
set_option maxHeartbeats 400000 in
theorem lead1_ok {w : World} {X : Nat → Prop} {A1 : Option Addr} {n1 : Nat} {c1 : Nat} {x : Nat} {b2 : Nat} (hX : ∀ k, X k → k < w.heap.size) (i : Int) (h2 : (Bk 26).R X w [.pointer (some ⟨b2, 0, none⟩)] #[.slice A1 n1 c1]) (h1 : Dk.R X w [.slice A1 n1 c1] x) (p1 : -9223372036854775808 ≤ i ∧ i ≤ 9223372036854775807) :
    Calls Tryz.prog 154 #[.int .i64 i, .pointer (some ⟨b2, 0, none⟩)] w (fun e w' => ∃ r, e = .returned (.float .f64 r) ∧ Below w.heap.size w w') := by
 have hM := ((Mem.start hX).add0 h2).add0 h1
 have l1 := Dk.le h1
 refine calls_of hM Tryz.func154 Tryz.ntmps154 ?_
 refine CG.seq fun K_ k1 => ?_
 refine CG.lin 1 ?_
 refine GL.v (.float .f64 0) ?_
 refine GL.k k1 ?_
 refine CG.seq fun K_ k1 => ?_
 refine CG.seq fun K_ k2 => ?_
 by_cases hc21 : i ≥ (0 : Int)
 · have hk21 : (decide (i ≥ (0 : Int))) = true := decide_eq_true hc21
   by_cases hc22 : i < (n1 : Int)
   · have hk22 : (decide (i < (n1 : Int))) = true := decide_eq_true hc22
     refine CG.lin 9 ?_
     refine GL.v (.int .i64 i) ?_
     refine GL.v (.bool true) ?_ (hr := fun u => op_b (b := (decide (i ≥ (0 : Int)))) (by kernel_rfl) hk21)
     refine GL.v (.bool true) ?_
     refine GL.v (.int .i64 i) ?_
     refine GL.v (.pointer (some ⟨b2, 0, none⟩)) ?_
     refine GL.r (.slice A1 n1 c1) (fun _ hM => op_load_one (off := 0) (by kernel_rfl) agg24 (Bk.at_ (hM.f 1 rfl)) rfl) ?_
     refine GL.v (.int .i64 (n1 : Int)) ?_
     refine GL.v (.bool true) ?_ (hr := fun u => op_b (b := (decide (i < (n1 : Int)))) (by kernel_rfl) hk22)
     refine GL.v (.bool true) ?_
     refine GL.k k2 ?_
     refine CG.yes ?_ rfl rfl
     refine CG.seq fun K_ k2 => ?_
     refine CG.lin 7 ?_
     refine GL.v (.pointer (some ⟨b2, 0, none⟩)) ?_
     refine GL.r (.slice A1 n1 c1) (fun _ hM => op_load_one (off := 0) (by kernel_rfl) agg24 (Bk.at_ (hM.f 1 rfl)) rfl) ?_
     refine GL.v (.int .i64 i) ?_
     refine GL.r (elemPtr A1 ((i).toNat)) (fun _ hM => op_index rowt24 (c := c1) (k := .i64) (i := i) ((i).toNat) (by kernel_rfl) (by kernel_rfl) (by omega) (by omega) (Dk.row (hM.f 0 rfl)) _) ?_
     refine GL.r (.int .i64 ((dg x).getD ((i).toNat) 0)) (fun _ hM => op_load_i64 (n := n1) (by kernel_rfl) agg2 (Dk.row (hM.f 0 rfl)) (by omega)) ?_
     refine GL.ex (fun r : Nat => .float .f64 r) (fun r : Nat => True) (fun _ hM => op_i2f (kd := .i64) (n := ((dg x).getD ((i).toNat) 0)) (by kernel_rfl) (by kernel_rfl : _ = some (.int .i64)) (by kernel_rfl)) fun r23 hr23 => ?_
     refine GL.v (.float .f64 r23) ?_
     refine GL.k k2 ?_
     refine CG.ret (QG.then_ret (QG.ret (fun _ hM => results_one rfl (res_tmp rfl)) ?_))
     intro _ hM
     exact ⟨_, rfl, hM.below⟩
   · have hk22 : (decide (i < (n1 : Int))) = false := decide_eq_false hc22
     refine CG.lin 9 ?_
     refine GL.v (.int .i64 i) ?_
     refine GL.v (.bool true) ?_ (hr := fun u => op_b (b := (decide (i ≥ (0 : Int)))) (by kernel_rfl) hk21)
     refine GL.v (.bool true) ?_
     refine GL.v (.int .i64 i) ?_
     refine GL.v (.pointer (some ⟨b2, 0, none⟩)) ?_
     refine GL.r (.slice A1 n1 c1) (fun _ hM => op_load_one (off := 0) (by kernel_rfl) agg24 (Bk.at_ (hM.f 1 rfl)) rfl) ?_
     refine GL.v (.int .i64 (n1 : Int)) ?_
     refine GL.v (.bool false) ?_ (hr := fun u => op_b (b := (decide (i < (n1 : Int)))) (by kernel_rfl) hk22)
     refine GL.v (.bool false) ?_
     refine GL.k k2 ?_
     refine CG.no ?_ rfl rfl
     refine CG.skip ?_
     refine QG.k k1 ?_
     refine CG.seq fun K_ k1 => ?_
     refine CG.lin 1 ?_
     refine GL.v (.float .f64 0) ?_
     refine GL.k k1 ?_
     refine CG.ret (QG.ret (fun _ hM => results_one rfl (res_tmp rfl)) ?_)
     intro _ hM
     exact ⟨_, rfl, hM.below⟩
 · have hk21 : (decide (i ≥ (0 : Int))) = false := decide_eq_false hc21
   by_cases hc24 : i < (n1 : Int)
   · have hk24 : (decide (i < (n1 : Int))) = true := decide_eq_true hc24
     refine CG.lin 9 ?_
     refine GL.v (.int .i64 i) ?_
     refine GL.v (.bool false) ?_ (hr := fun u => op_b (b := (decide (i ≥ (0 : Int)))) (by kernel_rfl) hk21)
     refine GL.v (.bool false) ?_
     refine GL.sk ?_
     refine GL.sk ?_
     refine GL.sk ?_
     refine GL.sk ?_
     refine GL.sk ?_
     refine GL.v (.bool false) ?_
     refine GL.k k2 ?_
     refine CG.no ?_ rfl rfl
     refine CG.skip ?_
     refine QG.k k1 ?_
     refine CG.seq fun K_ k1 => ?_
     refine CG.lin 1 ?_
     refine GL.v (.float .f64 0) ?_
     refine GL.k k1 ?_
     refine CG.ret (QG.ret (fun _ hM => results_one rfl (res_tmp rfl)) ?_)
     intro _ hM
     exact ⟨_, rfl, hM.below⟩
   · have hk24 : (decide (i < (n1 : Int))) = false := decide_eq_false hc24
     refine CG.lin 9 ?_
     refine GL.v (.int .i64 i) ?_
     refine GL.v (.bool false) ?_ (hr := fun u => op_b (b := (decide (i ≥ (0 : Int)))) (by kernel_rfl) hk21)
     refine GL.v (.bool false) ?_
     refine GL.sk ?_
     refine GL.sk ?_
     refine GL.sk ?_
     refine GL.sk ?_
     refine GL.sk ?_
     refine GL.v (.bool false) ?_
     refine GL.k k2 ?_
     refine CG.no ?_ rfl rfl
     refine CG.skip ?_
     refine QG.k k1 ?_
     refine CG.seq fun K_ k1 => ?_
     refine CG.lin 1 ?_
     refine GL.v (.float .f64 0) ?_
     refine GL.k k1 ?_
     refine CG.ret (QG.ret (fun _ hM => results_one rfl (res_tmp rfl)) ?_)
     intro _ hM
     exact ⟨_, rfl, hM.below⟩

set_option maxRecDepth 100000 in
set_option maxHeartbeats 400000 in
theorem leading_ok {w : World} {X : Nat → Prop} {A1 : Option Addr} {n1 : Nat} {c1 : Nat} {x : Nat} (hX : ∀ k, X k → k < w.heap.size) (p : Int) (h1 : Dk.R X w [.slice A1 n1 c1] x) (p1 : -9223372036854775800 ≤ p ∧ p ≤ 9223372036854775807) :
    Calls Tryz.prog 141 #[.agg #[.slice A1 n1 c1], .int .i64 p] w (fun e w' => ∃ r, e = .returned (.float .f64 r) ∧ Below w.heap.size w w') := by
 have hM := (Mem.start hX).add0 h1
 refine calls_of hM Tryz.func141 Tryz.ntmps141 ?_
 refine CG.seq fun K_ k1 => ?_
 refine CG.lin 2 ?_
 refine GL.bA #[.slice A1 n1 c1] fun g21 => ?_
 refine GL.v (.float .f64 0) ?_
 refine GL.k k1 ?_
 refine CG.seq fun K_ k1 => ?_
 refine CG.lin 2 ?_
 refine GL.v (.func (.func 154) #[] #[.pointer (some ⟨g21, 0, none⟩)]) ?_
 refine GL.v (.func (.func 154) #[] #[.pointer (some ⟨g21, 0, none⟩)]) ?_
 refine GL.k k1 ?_
 refine CG.seq fun K_ k1 => ?_
 refine CG.lin 18 ?_
 refine GL.v (.func (.func 154) #[] #[.pointer (some ⟨g21, 0, none⟩)]) ?_
 refine GL.v (.int .i64 p) ?_
 refine GL.v (.int .i64 (p - (1 : Int))) ?_ (hr := fun u => op_to (v := .int .i64 (IntKind.wrap .i64 (p - (1 : Int)))) (by kernel_rfl) (wrap_i64 rfl (by omega) (by omega)))
 refine GL.mem (fun _ hM => hM.pb0 fun _ hb hx => Bk.of hb hx) ?_
 refine GL.call (fun _ hM => lead1_ok hM.avlt (p - (1 : Int)) (hM.f 0 rfl) (hM.f 1 rfl) (by first | assumption | omega)) ?_
 rintro _ _ _ hM ⟨r22, rfl, hb⟩
 refine ⟨_, _, _, rfl, hM.call hb, ?_⟩
 refine GL.v (.func (.func 154) #[] #[.pointer (some ⟨g21, 0, none⟩)]) ?_
 refine GL.v (.int .i64 p) ?_
 refine GL.v (.int .i64 (p - (2 : Int))) ?_ (hr := fun u => op_to (v := .int .i64 (IntKind.wrap .i64 (p - (2 : Int)))) (by kernel_rfl) (wrap_i64 rfl (by omega) (by omega)))
 refine GL.call (fun _ hM => lead1_ok hM.avlt (p - (2 : Int)) (hM.f 0 rfl) (hM.f 1 rfl) (by first | assumption | omega)) ?_
 rintro _ _ _ hM ⟨r23, rfl, hb⟩
 refine ⟨_, _, _, rfl, hM.call hb, ?_⟩
 refine GL.ex (fun r : Nat => .float .f64 r) (fun r : Nat => True) (fun _ hM => op_float (b := .quo) (k := .f64) (p := r23) (q := 4715268809856909312) (by kernel_rfl) (by kernel_rfl) (by simp)) fun r24 hr24 => ?_
 refine GL.ex (fun r : Nat => .float .f64 r) (fun r : Nat => True) (fun _ hM => op_float (b := .add) (k := .f64) (p := r22) (q := r24) (by kernel_rfl) (by kernel_rfl) (by simp)) fun r25 hr25 => ?_
 refine GL.v (.func (.func 154) #[] #[.pointer (some ⟨g21, 0, none⟩)]) ?_
 refine GL.v (.int .i64 p) ?_
 refine GL.v (.int .i64 (p - (3 : Int))) ?_ (hr := fun u => op_to (v := .int .i64 (IntKind.wrap .i64 (p - (3 : Int)))) (by kernel_rfl) (wrap_i64 rfl (by omega) (by omega)))
 refine GL.call (fun _ hM => lead1_ok hM.avlt (p - (3 : Int)) (hM.f 0 rfl) (hM.f 1 rfl) (by first | assumption | omega)) ?_
 rintro _ _ _ hM ⟨r26, rfl, hb⟩
 refine ⟨_, _, _, rfl, hM.call hb, ?_⟩
 refine GL.ex (fun r : Nat => .float .f64 r) (fun r : Nat => True) (fun _ hM => op_float (b := .quo) (k := .f64) (p := r26) (q := 4715268809856909312) (by kernel_rfl) (by kernel_rfl) (by simp)) fun r27 hr27 => ?_
 refine GL.ex (fun r : Nat => .float .f64 r) (fun r : Nat => True) (fun _ hM => op_float (b := .quo) (k := .f64) (p := r27) (q := 4715268809856909312) (by kernel_rfl) (by kernel_rfl) (by simp)) fun r28 hr28 => ?_
 refine GL.ex (fun r : Nat => .float .f64 r) (fun r : Nat => True) (fun _ hM => op_float (b := .add) (k := .f64) (p := r25) (q := r28) (by kernel_rfl) (by kernel_rfl) (by simp)) fun r29 hr29 => ?_
 refine GL.v (.float .f64 r29) ?_
 refine GL.k k1 ?_
 refine CG.ret (QG.ret (fun _ hM => results_one rfl (res_tmp rfl)) ?_)
 intro _ hM
 exact ⟨_, rfl, hM.below⟩

set_option maxRecDepth 100000 in
set_option maxHeartbeats 400000 in
theorem share_ok {w : World} {X : Nat → Prop} {A1 : Option Addr} {n1 : Nat} {c1 : Nat} {x : Nat} {A2 : Option Addr} {n2 : Nat} {c2 : Nat} {y : Nat} (hX : ∀ k, X k → k < w.heap.size) (h1 : Dk.R X w [.slice A1 n1 c1] x) (h2 : Dk.R X w [.slice A2 n2 c2] y) (p1 : szn y ≤ 4611686018427387904) :
    Calls Tryz.prog 133 #[.agg #[.slice A1 n1 c1], .agg #[.slice A2 n2 c2]] w (fun e w' => ∃ k, e = .returned (.int .i64 k) ∧ (-9223372036854775808 ≤ k ∧ k ≤ 9223372036854775807) ∧ Below w.heap.size w w') := by
 have hM := ((Mem.start hX).add0 h1).add0 h2
 have l2 := Dk.len h2
 refine calls_of hM Tryz.func133 Tryz.ntmps133 ?_
 refine CG.seq fun K_ k1 => ?_
 refine CG.lin 3 ?_
 refine GL.bA #[.slice A1 n1 c1] fun g21 => ?_
 refine GL.bA #[.slice A2 n2 c2] fun g22 => ?_
 refine GL.v (.int .i64 0) ?_
 refine GL.k k1 ?_
 refine CG.seq fun K_ k1 => ?_
 refine CG.lin 4 ?_
 refine GL.v (.pointer (some ⟨g22, 0, none⟩)) ?_
 refine GL.r (.slice A2 n2 c2) (fun _ hM => op_load_one (off := 0) (by kernel_rfl) agg24 (hM.b 0 rfl) rfl) ?_
 refine GL.v (.int .i64 (n2 : Int)) ?_
 refine GL.v (.int .i64 (n2 : Int)) ?_
 refine GL.k k1 ?_
 refine CG.seq fun K_ k1 => ?_
 refine CG.cut (fun a_ u_ => ∃ (r24 : Nat) (r25 : Nat) (r26 : Nat) (r27 : Nat) (r28 : Int), a_ = ⟨#[.agg #[.slice A1 n1 c1], .agg #[.slice A2 n2 c2], .pointer (some ⟨g21, 0, none⟩), .pointer (some ⟨g22, 0, none⟩), .int .i64 r28, .int .i64 (n2 : Int), .pointer (some ⟨g22, 0, none⟩), .slice A2 n2 c2, .int .i64 (n2 : Int), .agg #[.slice A1 n1 c1], .int .i64 (n2 : Int), .int .i64 ((n2 + 1 : Nat) : Int), .float .f64 r24, .float .f64 r25, .agg #[.slice A2 n2 c2], .int .i64 (n2 : Int), .float .f64 r26, .float .f64 r27, .int .i64 r28], []⟩ ∧ Mem w [] X u_ [.box g22 #[.slice A2 n2 c2] 26, .box g21 #[.slice A1 n1 c1] 26] [⟨Dk, [.slice A2 n2 c2], y⟩, ⟨Dk, [.slice A1 n1 c1], x⟩] ∧ (-9223372036854775808 ≤ r28 ∧ r28 ≤ 9223372036854775807)) ?_ ?_
 · skip
   refine CG.draw [] [0, 1, 2, 5, 6] (.step 0 (.step 1 (.step 2 (.step 5 (.step 6 (.step 3 (.fork 4 (.step 7 (.step 8 (.step 9 (.step 10 .done)))) (.step 7 (.step 4 (.step 8 (.step 9 (.step 10 .done)))))))))))) (fun V hV23 => ?_)
   refine GD.er (.agg #[.slice A1 n1 c1]) (fun _ hS => op_load_agg (off := 0) (by kernel_rfl) agg26 siz26 (hV23.bS 1 rfl hS) rfl rfl) ?_
   refine GD.ev (.int .i64 (n2 : Int)) ?_
   refine GD.ev (.int .i64 ((n2 + 1 : Nat) : Int)) ?_ (hr := fun u => op_to (v := .int .i64 (IntKind.wrap .i64 ((n2 : Int) + (1 : Int)))) (by kernel_rfl) (wrap_i64 (by omega) (by omega) (by omega)))
   refine GD.er (.agg #[.slice A2 n2 c2]) (fun _ hS => op_load_agg (off := 0) (by kernel_rfl) agg26 siz26 (hV23.bS 0 rfl hS) rfl rfl) ?_
   refine GD.ev (.int .i64 (n2 : Int)) ?_
   refine GD.call (fun _ hM => leading_ok hM.avlt ((n2 + 1 : Nat) : Int) (hM.f 1 rfl) (by first | assumption | omega)) ?_
   rintro _ _ _ hM ⟨r24, rfl, hb⟩
   refine ⟨_, _, _, rfl, hb, hM.call hb, ?_⟩
   refine GD.fork ?_ ?_
   · skip
     refine GD.ex (fun r : Nat => .float .f64 r) (fun r : Nat => True) (fun _ hM => op_float (b := .mul) (k := .f64) (p := r24) (q := 4715268809856909312) (by kernel_rfl) (by kernel_rfl) (by simp)) fun r25 hr25 => ?_
     refine GD.call (fun _ hM => leading_ok hM.avlt (n2 : Int) (hM.f 0 rfl) (by first | assumption | omega)) ?_
     rintro _ _ _ hM ⟨r26, rfl, hb⟩
     refine ⟨_, _, _, rfl, hb, hM.call hb, ?_⟩
     refine GD.ex (fun r : Nat => .float .f64 r) (fun r : Nat => True) (fun _ hM => op_float (b := .quo) (k := .f64) (p := r25) (q := r26) (by kernel_rfl) (by kernel_rfl) (by simp)) fun r27 hr27 => ?_
     refine GD.ex (fun r : Int => .int .i64 r) (fun r : Int => -9223372036854775808 ≤ r ∧ r ≤ 9223372036854775807) (fun _ hM => op_f2i (k := .f64) (p := r27) (by kernel_rfl) (by kernel_rfl : _ = some (.float .f64)) (by kernel_rfl)) fun r28 hr28 => ?_
     refine GD.v (.int .i64 r28) ?_
     refine GD.q (QG.cut fun _ hM => ?_)
     exact ⟨r24, r25, r26, r27, r28, rfl, ((hM.clr).add (hM.f 1 rfl)).add (hM.f 0 rfl), hr28⟩
   refine GD.call (fun _ hM => leading_ok hM.avlt (n2 : Int) (hM.f 0 rfl) (by first | assumption | omega)) ?_
   rintro _ _ _ hM ⟨r29, rfl, hb⟩
   refine ⟨_, _, _, rfl, hb, hM.call hb, ?_⟩
   refine GD.ex (fun r : Nat => .float .f64 r) (fun r : Nat => True) (fun _ hM => op_float (b := .mul) (k := .f64) (p := r24) (q := 4715268809856909312) (by kernel_rfl) (by kernel_rfl) (by simp)) fun r30 hr30 => ?_
   refine GD.ex (fun r : Nat => .float .f64 r) (fun r : Nat => True) (fun _ hM => op_float (b := .quo) (k := .f64) (p := r30) (q := r29) (by kernel_rfl) (by kernel_rfl) (by simp)) fun r31 hr31 => ?_
   refine GD.ex (fun r : Int => .int .i64 r) (fun r : Int => -9223372036854775808 ≤ r ∧ r ≤ 9223372036854775807) (fun _ hM => op_f2i (k := .f64) (p := r31) (by kernel_rfl) (by kernel_rfl : _ = some (.float .f64)) (by kernel_rfl)) fun r32 hr32 => ?_
   refine GD.v (.int .i64 r32) ?_
   refine GD.q (QG.cut fun _ hM => ?_)
   exact ⟨r24, r30, r29, r31, r32, rfl, ((hM.clr).add (hM.f 1 rfl)).add (hM.f 0 rfl), hr32⟩
 · skip
   rintro a_ u_ ⟨r24, r25, r26, r27, r28, rfl, hM, hr28⟩
   refine QG.go hM ?_
   refine QG.k k1 ?_
   refine CG.ret (QG.ret (fun _ hM => results_one rfl (res_tmp rfl)) ?_)
   intro _ hM
   exact ⟨_, rfl, (by assumption), hM.below⟩

set_option maxRecDepth 100000 in
set_option maxHeartbeats 400000 in
theorem wordof_ok {w : World} {X : Nat → Prop} {A1 : Option Addr} {n1 : Nat} {c1 : Nat} {x : Nat} (hX : ∀ k, X k → k < w.heap.size) (h1 : Dk.R X w [.slice A1 n1 c1] x) (p1 : x ≤ 18446744073709551615) :
    Calls Tryz.prog 118 #[.agg #[.slice A1 n1 c1]] w (fun e w' => e = .returned (.int .u64 ((x : Nat) : Int)) ∧ Below w.heap.size w w') := by
 have hM := (Mem.start hX).add0 h1
 refine calls_ofM hM Tryz.func118 Tryz.ntmps118 (by rintro _ _ ⟨h, _⟩; cases h) fun hN => ?_
 refine CG.seq fun K_ k1 => ?_
 refine CG.lin 2 ?_ (hd := .inr ⟨by kernel_rfl, fun a_ w_ h => hN a_ w_ h⟩)
 refine GL.bA #[.slice A1 n1 c1] fun g21 => ?_
 refine GL.v (.int .u64 0) ?_
 refine GL.k k1 ?_
 refine CG.seq fun K_ k1 => ?_
 refine CG.lin 2 ?_ (hd := .inr ⟨by kernel_rfl, fun a_ w_ h => hN a_ w_ h⟩)
 refine GL.a1 zer134 fun g22 => ?_
 refine GL.s1 (cs' := #[.int .u64 0]) 0 (.int .u64 0) (fun _ _ => Mem.st0) (fun _ hM => hM.b 0 rfl) siz134 ?_
 refine GL.k k1 ?_
 refine CG.seq fun K_ k1 => ?_
 refine CG.seq fun K_ k2 => ?_
 refine CG.lin 2 ?_ (hd := .inr ⟨by kernel_rfl, fun a_ w_ h => hN a_ w_ h⟩)
 refine GL.r (.agg #[.slice A1 n1 c1]) (fun _ hM => op_load_agg (off := 0) (by kernel_rfl) agg26 siz26 (hM.b 1 rfl) rfl rfl) ?_
 refine GL.call (fun _ hM => down_ok hM.avlt (hM.f 0 rfl)) ?_
 rintro _ _ _ hM ⟨b23, rfl, h23, hb⟩
 refine ⟨_, _, _, rfl, (hM.call hb).add h23, ?_⟩
 refine GL.k k2 ?_
 refine CG.block ?_
 refine CG.range (n := 2) (fun z : Dig => ⟨#[.agg #[.slice A1 n1 c1], .pointer (some ⟨g21, 0, none⟩), .int .u64 0, .pointer (some ⟨g22, 0, none⟩), .int .i64 z.1, .agg #[.slice A1 n1 c1], .func (.func 140) #[] #[.pointer (some ⟨b23, 0, none⟩)], .int .i64 z.1, undef, undef, undef, undef, undef, undef], []⟩) (fun _ hM => ⟨rfl, fun m => Itk.iter (hM.f 0 rfl) m⟩) down_enters (fun _ => rfl) rfl (by intro l z W K hK; gi_wp2; exact hK) fun u24 hM24 => ?_
 refine ⟨fun pre u_ => Mem u24 [g22, g21] X u_ [.box g22 #[.int .u64 ((hor pre % 18446744073709551616 : Nat) : Int)] 134, .box g21 #[.slice A1 n1 c1] 26] [⟨Itk, [.func (.func 140) #[] #[.pointer (some ⟨b23, 0, none⟩)]], x⟩, ⟨Dk, [.slice A1 n1 c1], x⟩], ?_, ?_, ?_, ?_⟩
 · rintro pre A_ B_ row hM hg hr; exact hM.walk hg hr
 · exact ((hM24.round.clr).add (hM24.round.f 1 rfl)).add (hM24.round.f 0 rfl)
 · skip
   rintro l pre z W24 hR24 hlen
   have hz := z.2
   refine CG.goN (M := some (some l, 2)) hR24.round (by rintro _ _ ⟨h, _⟩; cases h) fun hN => ?_
   refine CG.block ?_
   refine CG.lin 6 ?_ (hd := .inr ⟨by kernel_rfl, fun a_ w_ h => hN a_ w_ h⟩)
   refine GL.r (.int .u64 ((hor pre % 18446744073709551616 : Nat) : Int)) (fun _ hM => op_load_one (off := 0) (by kernel_rfl) agg134 (hM.b 0 rfl) rfl) ?_
   refine GL.v (.int .u64 ((hor pre * 16777216 % 18446744073709551616 : Nat) : Int)) ?_ (hr := fun u => op_to (v := .int .u64 (IntKind.wrap .u64 (((hor pre % 18446744073709551616 : Nat) : Int) * 2 ^ 24))) (by kernel_rfl) (shl_u64 _))
   refine GL.v (.int .i64 z.1) ?_
   refine GL.v (.int .u64 z.1) ?_ (hr := fun u => op_to (v := .int .u64 (IntKind.wrap .u64 z.1)) (by kernel_rfl) (wrap_u64 rfl (by omega) (by omega)))
   refine GL.v (.int .u64 (((hor pre * 16777216 + z.1.toNat) % 18446744073709551616 : Nat) : Int)) ?_ (hr := fun u => op_to (v := .int .u64 (IntKind.wrap .u64 ((BitVec.ofInt 64 ((hor pre * 16777216 % 18446744073709551616 : Nat) : Int) ||| BitVec.ofInt 64 z.1).toNat : Nat))) (by kernel_rfl) (or_u64 (by omega)))
   refine GL.s1 (cs' := #[.int .u64 (((hor pre * 16777216 + z.1.toNat) % 18446744073709551616 : Nat) : Int)]) 0 (.int .u64 (((hor pre * 16777216 + z.1.toNat) % 18446744073709551616 : Nat) : Int)) (fun _ _ => Mem.st0) (fun _ hM => hM.b 0 rfl) siz134 ?_
   refine GL.q ?_
   refine QG.block ?_
   refine QG.of fun _ hM => ?_
   refine ⟨rfl, ⟨hR24.kept hM _, hR24.stays hM⟩, ?_⟩
   simp only [hor_snoc]
   exact hR24.rounded (((hM.clr).add (hM.f 1 rfl)).add (hM.f 0 rfl))
 · skip
   rintro D24 pre u24d hD24 hS24 hM hK24
   rw [hor_all hS24] at hM
   have hM24e := hM24.rounded hM
   refine QG.go hM24e.round ?_
   refine QG.block ?_
   refine QG.k k1 ?_
   refine CG.seq fun K_ k1 => ?_
   refine CG.lin 2 ?_ (hd := .inr ⟨by kernel_rfl, fun a_ w_ h => hN a_ w_ h⟩)
   refine GL.r (.int .u64 ((x % 18446744073709551616 : Nat) : Int)) (fun _ hM => op_load_one (off := 0) (by kernel_rfl) agg134 (hM.b 0 rfl) rfl) ?_
   refine GL.v (.int .u64 ((x % 18446744073709551616 : Nat) : Int)) ?_
   refine GL.k k1 ?_
   refine CG.ret (QG.retM hM24e (Nat.le_trans hM24.upd.size hD24) hK24 (fun _ hM => results_one rfl (res_tmp rfl)) ?_)
   intro _ hM
   exact ⟨ret_int (by omega), hM.below⟩

set_option maxRecDepth 100000 in
set_option maxHeartbeats 400000 in
theorem wordn_ok {w : World} {X : Nat → Prop} {n : Nat} (hX : ∀ k, X k → k < w.heap.size) (p1 : n ≤ 18446744073709551615) :
    Calls Tryz.prog 119 #[.int .u64 (n : Int)] w (fun e w' => ∃ Ar nr cr, e = .returned (.agg #[.slice Ar nr cr]) ∧ Dk.R X w' [.slice Ar nr cr] n ∧ Below w.heap.size w w') := by
 have h := word_ok hX (n : Int) (by omega)
 rw [Int.toNat_natCast] at h; exact h

set_option maxRecDepth 100000 in
set_option maxHeartbeats 400000 in
theorem over_ok {w : World} {X : Nat → Prop} {A1 : Option Addr} {n1 : Nat} {c1 : Nat} {x : Nat} {A2 : Option Addr} {n2 : Nat} {c2 : Nat} {y : Nat} (hX : ∀ k, X k → k < w.heap.size) (h1 : Dk.R X w [.slice A1 n1 c1] x) (h2 : Dk.R X w [.slice A2 n2 c2] y) (p1 : y ≠ 0) (p2 : szn x + szn y ≤ 1099511627770) :
    Calls Tryz.prog 105 #[.agg #[.slice A1 n1 c1], .agg #[.slice A2 n2 c2]] w (fun e w' => ∃ Ar1 nr1 cr1 Ar2 nr2 cr2, e = .returned (.tuple #[.agg #[.slice Ar1 nr1 cr1], .agg #[.slice Ar2 nr2 cr2]]) ∧ Dk.R X w' [.slice Ar1 nr1 cr1] (x / y) ∧ Dk.R X w' [.slice Ar2 nr2 cr2] (x % y) ∧ Below w.heap.size w w') := by
 have hM := ((Mem.start hX).add0 h1).add0 h2
 have l1 := Dk.le h1
 have m1 := Dk.len h1
 have l2 := Dk.le h2
 have m2 := Dk.len h2
 have l1 := Dk.le h1
 have m1 := Dk.len h1
 have m2 := Dk.len h2
 have hsx : (dg x).length = n1 := m1
 refine calls_ofM hM Tryz.func105 Tryz.ntmps105 (by rintro _ _ ⟨_, _, _, _, _, _, h, _⟩; cases h) fun hN => ?_
 refine CG.seq fun K_ k1 => ?_
 refine CG.lin 4 ?_ (hd := .inr ⟨by kernel_rfl, fun a_ w_ h => hN a_ w_ h⟩)
 refine GL.bA #[.slice A1 n1 c1] fun g21 => ?_
 refine GL.bA #[.slice A2 n2 c2] fun g22 => ?_
 refine GL.aA zer26 fun g23 => ?_
 refine GL.aA zer26 fun g24 => ?_
 refine GL.k k1 ?_
 refine CG.seq fun K_ k1 => ?_
 refine CG.lin 6 ?_ (hd := .inr ⟨by kernel_rfl, fun a_ w_ h => hN a_ w_ h⟩)
 refine GL.v (.pointer (some ⟨g21, 0, none⟩)) ?_
 refine GL.r (.slice A1 n1 c1) (fun _ hM => op_load_one (off := 0) (by kernel_rfl) agg24 (hM.b 3 rfl) rfl) ?_
 refine GL.v (.int .i64 (n1 : Int)) ?_
 refine GL.row (fun _ => op_make rowt24 (kl := .i64) (kc := .i64) (l := (n1 : Int)) (c := (n1 : Int)) n1 n1 (by kernel_rfl) (by kernel_rfl) (by omega) (by omega) (by omega) (by omega) (by omega)) (fun _ _ _ hm => own_made_i64 hm (by omega) (by omega)) fun g25 => ?_
 refine GL.a1 zer24 fun g26 => ?_
 refine GL.s1 (cs' := #[.slice (some ⟨g25, 0, none⟩) n1 n1]) 0 (.slice (some ⟨g25, 0, none⟩) n1 n1) (fun _ _ => Mem.st0) (fun _ hM => hM.b 0 rfl) siz24 ?_
 refine GL.k k1 ?_
 refine CG.seq fun K_ k1 => ?_
 refine CG.lin 5 ?_ (hd := .inr ⟨by kernel_rfl, fun a_ w_ h => hN a_ w_ h⟩)
 refine GL.v (.pointer (some ⟨g21, 0, none⟩)) ?_
 refine GL.r (.slice A1 n1 c1) (fun _ hM => op_load_one (off := 0) (by kernel_rfl) agg24 (hM.b 5 rfl) rfl) ?_
 refine GL.v (.int .i64 (n1 : Int)) ?_
 refine GL.a1 zer3 fun g27 => ?_
 refine GL.s1 (cs' := #[.int .i64 (n1 : Int)]) 0 (.int .i64 (n1 : Int)) (fun _ _ => Mem.st0) (fun _ hM => hM.b 0 rfl) siz3 ?_
 refine GL.k k1 ?_
 refine CG.seq fun K_ k1 => ?_
 refine CG.seq fun K_ k2 => ?_
 refine CG.lin 2 ?_ (hd := .inr ⟨by kernel_rfl, fun a_ w_ h => hN a_ w_ h⟩)
 refine GL.r (.agg #[.slice A1 n1 c1]) (fun _ hM => op_load_agg (off := 0) (by kernel_rfl) agg26 siz26 (hM.b 6 rfl) rfl rfl) ?_
 refine GL.call (fun _ hM => down_ok hM.avlt (hM.f 1 rfl)) ?_
 rintro _ _ _ hM ⟨b28, rfl, h28, hb⟩
 refine ⟨_, _, _, rfl, (hM.call hb).add h28, ?_⟩
 refine GL.k k2 ?_
 refine CG.block ?_
 refine CG.range (n := 2) (fun z : Dig => ⟨#[.agg #[.slice A1 n1 c1], .agg #[.slice A2 n2 c2], .pointer (some ⟨g21, 0, none⟩), .pointer (some ⟨g22, 0, none⟩), .pointer (some ⟨g23, 0, none⟩), .pointer (some ⟨g24, 0, none⟩), .pointer (some ⟨g26, 0, none⟩), .pointer (some ⟨g27, 0, none⟩), .int .i64 z.1, undef, .pointer (some ⟨g21, 0, none⟩), .slice A1 n1 c1, .int .i64 (n1 : Int), .slice (some ⟨g25, 0, none⟩) n1 n1, .pointer (some ⟨g21, 0, none⟩), .slice A1 n1 c1, .int .i64 (n1 : Int), .agg #[.slice A1 n1 c1], .func (.func 140) #[] #[.pointer (some ⟨b28, 0, none⟩)], .int .i64 z.1, undef, undef, undef, undef, undef, undef, undef, undef, undef, undef, undef, undef, undef, undef, undef, undef, undef, undef, undef, undef, undef, undef, undef, undef, undef, undef, undef, undef, undef, undef, undef, undef, undef, undef, undef, undef, undef, undef, undef, undef, undef, undef, undef, undef, undef, undef, undef, undef], []⟩) (fun _ hM => ⟨rfl, fun m => Itk.iter (hM.f 0 rfl) m⟩) down_enters (fun _ => rfl) rfl (by intro l z W K hK; gi_wp2; exact hK) fun u29 hM29 => ?_
 refine ⟨fun pre u_ => ∃ (A5 : Option Addr) (n5 : Nat) (c5 : Nat) (M : List Int), Mem u29 [g27, g26, g25, g24, g23, g22, g21] X u_ [.box g27 #[.int .i64 ((n1 - pre.length : Nat) : Int)] 3, .box g26 #[.slice (some ⟨g25, 0, none⟩) n1 n1] 24, .own g25 2 n1 n1 (i64s M), .box g24 #[.slice A5 n5 c5] 26, .box g23 #[.slice none 0 0] 26, .box g22 #[.slice A2 n2 c2] 26, .box g21 #[.slice A1 n1 c1] 26] [⟨Dk, [.slice A5 n5 c5], hor pre % y⟩, ⟨Itk, [.func (.func 140) #[] #[.pointer (some ⟨b28, 0, none⟩)]], x⟩, ⟨Dk, [.slice A2 n2 c2], y⟩, ⟨Dk, [.slice A1 n1 c1], x⟩] ∧ (M.length = n1) ∧ (Digs 16777216 M) ∧ (val 16777216 M = 16777216 ^ (n1 - pre.length) * ((hor pre / y : Nat) : Int)) ∧ (∀ t, t < n1 - pre.length → M.getD t 0 = 0) ∧ (pre.length ≤ n1), ?_, ?_, ?_, ?_⟩
 · rintro pre A_ B_ row ⟨A5, n5, c5, M, hM, hMl, hMd, hMv, hMz, hpl⟩ hg hr; exact ⟨A5, n5, c5, M, hM.walk hg hr, hMl, hMd, hMv, hMz, hpl⟩
 · exact ⟨none, 0, 0, (List.replicate n1 0), ((((hM29.round.clr).add (hM29.round.f 2 rfl)).add (hM29.round.f 1 rfl)).add (hM29.round.f 0 rfl)).add (by rw [hor_nil, Nat.zero_mod]; exact Dk.nil _ _ _ _), (by simp), (Digs.replicate (by decide) _), (by rw [val_replicate_zero, hor_nil, Nat.zero_div]; simp), (fun t _ => zeros_get _ t), (by simp)⟩
 · skip
   rintro l pre z W29 ⟨A5, n5, c5, M, hR29, hMl, hMd, hMv, hMz, hpl⟩ hlen
   have hz := z.2
   have hl5 := Dk.len (hR29.f 0 rfl)
   have hs5 := szn_mono (Nat.le_of_lt (Nat.mod_lt (hor pre) (Nat.pos_of_ne_zero p1)))
   have hs6 := Nat.le_trans (szn_mono (Nat.le_of_lt (over_l0 (h := hor pre) (x := z.1.toNat) p1 (by omega)))) (szn_mul y 16777216)
   have hs7 := szn_small (n := 16777216) 2 (by decide)
   refine CG.goN (M := some (some l, 2)) hR29.round (by rintro _ _ ⟨h, _⟩; cases h) fun hN => ?_
   refine CG.block ?_
   refine CG.seq fun K_ k1 => ?_
   refine CG.lin 3 ?_ (hd := .inr ⟨by kernel_rfl, fun a_ w_ h => hN a_ w_ h⟩)
   refine GL.r (.int .i64 ((n1 - pre.length : Nat) : Int)) (fun _ hM => op_load_one (off := 0) (by kernel_rfl) agg3 (hM.b 0 rfl) rfl) ?_
   refine GL.v (.int .i64 ((n1 - (pre.length + 1) : Nat) : Int)) ?_ (hr := fun u => op_to (v := .int .i64 (IntKind.wrap .i64 (((n1 - pre.length : Nat) : Int) - 1))) (by kernel_rfl) (wrap_i64 (by omega) (by omega) (by omega)))
   refine GL.s1 (cs' := #[.int .i64 ((n1 - (pre.length + 1) : Nat) : Int)]) 0 (.int .i64 ((n1 - (pre.length + 1) : Nat) : Int)) (fun _ _ => Mem.st0) (fun _ hM => hM.b 0 rfl) siz3 ?_
   refine GL.k k1 ?_
   refine CG.seq fun K_ k1 => ?_
   refine CG.lin 7 ?_ (hd := .inr ⟨by kernel_rfl, fun a_ w_ h => hN a_ w_ h⟩)
   refine GL.v (.int .i64 z.1) ?_
   refine GL.row (fun _ => op_build1 rowt24 (v := .int .i64 z.1) (by kernel_rfl) rfl) (fun _ _ _ hm => own_one_i64 hm) fun g31 => ?_
   refine GL.v (.pointer (some ⟨g24, 0, none⟩)) ?_
   refine GL.r (.slice A5 n5 c5) (fun _ hM => op_load_one (off := 0) (by kernel_rfl) agg24 (hM.b 4 rfl) rfl) ?_
   refine GL.gr (fun _ _ _ _ => Mem.gr0) (fun _ hM => op_append_i64 (cx := c5) rowt24 (hM.o 0 rfl) (Dk.row (hM.f 0 rfl)) (by kernel_rfl) (by kernel_rfl) (by omega) (by omega)) fun g32 c32 => ?_
   refine GL.call (fun _ hM => settled_ok hM.gi0.1.avlt (x := (hor pre % y * 16777216 + z.1.toNat)) hM.gi0.2.1 hM.gi0.2.2 (by rw [List.singleton_append, val_cons, dg_val]; omega) (fun v hv => by rcases List.mem_append.1 hv with h | h; (simp only [List.mem_singleton] at h; omega); (have := dg_digs _ v h; omega)) (by first | assumption | omega)) ?_
   rintro _ _ _ hM ⟨A33, n33, c33, rfl, h33, hb⟩
   refine ⟨_, _, _, rfl, (hM.up0 hb).add h33, ?_⟩
   refine GL.sA (cs' := #[.slice A33 n33 c33]) (fun _ _ => Mem.st3) (fun _ hM => hM.b 3 rfl) siz26 ?_
   refine GL.k k1 ?_
   refine CG.seq fun K_ k1 => ?_
   refine CG.seq fun K_ k2 => ?_
   refine CG.lin 4 ?_ (hd := .inr ⟨by kernel_rfl, fun a_ w_ h => hN a_ w_ h⟩)
   refine GL.r (.agg #[.slice A33 n33 c33]) (fun _ hM => op_load_agg (off := 0) (by kernel_rfl) agg26 siz26 (hM.b 3 rfl) rfl rfl) ?_
   refine GL.r (.agg #[.slice A2 n2 c2]) (fun _ hM => op_load_agg (off := 0) (by kernel_rfl) agg26 siz26 (hM.b 5 rfl) rfl rfl) ?_
   refine GL.call (fun _ hM => size_ok hM.avlt (hM.f 0 rfl) (hM.f 3 rfl)) ?_
   rintro _ _ _ hM ⟨rfl, hb⟩
   refine ⟨_, _, _, rfl, hM.call hb, ?_⟩
   refine GL.v (.bool (decide ((cmpN (hor pre % y * 16777216 + z.1.toNat) y) < (0 : Int)))) ?_
   refine GL.k k2 ?_
   by_cases hc35 : hor pre % y * 16777216 + z.1.toNat < y
   · have hk35 : (decide ((cmpN (hor pre % y * 16777216 + z.1.toNat) y) < (0 : Int))) = true := decide_eq_true ((cmpN_lt _ _).2 hc35)
     refine CG.yes ?_ hk35 rfl
     refine CG.exit (QG.then_exit (QG.here ?_))
     refine QG.of fun _ hM => ?_
     refine ⟨rfl, ⟨hR29.kept hM _, hR29.stays hM⟩, ?_⟩
     simp only [List.length_append, List.length_cons, List.length_nil, Nat.zero_add, hor_snoc]
     exact ⟨A33, n33, c33, M, hR29.rounded (((((hM.clr).add (hM.f 4 rfl)).add (hM.f 3 rfl)).add (hM.f 2 rfl)).add (by rw [over_left (K := 0) (l := (hor pre % y * 16777216 + z.1.toNat)) (by omega) (by omega)]; exact (hM.f 0 rfl))), hMl, hMd, (over_val0 (by omega) (by omega) hMv), (fun t ht => hMz t (by omega)), (by omega)⟩
   · have hk35 : (decide ((cmpN (hor pre % y * 16777216 + z.1.toNat) y) < (0 : Int))) = false := decide_eq_false (fun h => hc35 ((cmpN_lt _ _).1 h))
     refine CG.no ?_ hk35 rfl
     refine CG.skip ?_
     refine QG.k k1 ?_
     refine CG.seq fun K_ k1 => ?_
     refine CG.lin 4 ?_ (hd := .inr ⟨by kernel_rfl, fun a_ w_ h => hN a_ w_ h⟩)
     refine GL.r (.agg #[.slice A33 n33 c33]) (fun _ hM => op_load_agg (off := 0) (by kernel_rfl) agg26 siz26 (hM.b 3 rfl) rfl rfl) ?_
     refine GL.r (.agg #[.slice A2 n2 c2]) (fun _ hM => op_load_agg (off := 0) (by kernel_rfl) agg26 siz26 (hM.b 5 rfl) rfl rfl) ?_
     refine GL.call (fun _ hM => share_ok hM.avlt (hM.f 0 rfl) (hM.f 3 rfl) (by first | assumption | omega)) ?_
     rintro _ _ _ hM ⟨k36, rfl, hq36_0, hb⟩
     refine ⟨.int .i64 (w64 (k36 % 18446744073709551616).toNat), _, _, (ret_int (w64_of hq36_0)), hM.call hb, ?_⟩
     refine GL.v (.int .i64 (w64 (k36 % 18446744073709551616).toNat)) ?_
     refine GL.k k1 ?_
     refine CG.seq fun K_ k1 => ?_
     refine CG.block ?_
     refine CG.loop (fun m_ a_ u_ => ∃ (K : Nat) (j37 : Nat → Value), a_ = ⟨#[.agg #[.slice A1 n1 c1], .agg #[.slice A2 n2 c2], .pointer (some ⟨g21, 0, none⟩), .pointer (some ⟨g22, 0, none⟩), .pointer (some ⟨g23, 0, none⟩), .pointer (some ⟨g24, 0, none⟩), .pointer (some ⟨g26, 0, none⟩), .pointer (some ⟨g27, 0, none⟩), .int .i64 z.1, .int .i64 (w64 K), .pointer (some ⟨g21, 0, none⟩), .slice A1 n1 c1, .int .i64 (n1 : Int), .slice (some ⟨g25, 0, none⟩) n1 n1, .pointer (some ⟨g21, 0, none⟩), .slice A1 n1 c1, .int .i64 (n1 : Int), .agg #[.slice A1 n1 c1], .func (.func 140) #[] #[.pointer (some ⟨b28, 0, none⟩)], .int .i64 z.1, .int .i64 ((n1 - pre.length : Nat) : Int), .int .i64 ((n1 - (pre.length + 1) : Nat) : Int), .int .i64 z.1, .slice (some ⟨g31, 0, none⟩) 1 1, .pointer (some ⟨g24, 0, none⟩), .slice A5 n5 c5, .slice (some ⟨g32, 0, none⟩) (1 + n5) c32, .agg #[.slice A33 n33 c33], .agg #[.slice A33 n33 c33], .agg #[.slice A2 n2 c2], .int .i64 (cmpN (hor pre % y * 16777216 + z.1.toNat) y), .bool (decide ((cmpN (hor pre % y * 16777216 + z.1.toNat) y) < (0 : Int))), .agg #[.slice A33 n33 c33], .agg #[.slice A2 n2 c2], .int .i64 (w64 (k36 % 18446744073709551616).toNat), (j37 35), (j37 36), (j37 37), (j37 38), (j37 39), (j37 40), (j37 41), (j37 42), (j37 43), (j37 44), undef, undef, undef, undef, undef, undef, undef, undef, undef, undef, undef, undef, undef, undef, undef, undef, undef, undef, undef, undef, undef, undef, undef], []⟩ ∧ m_ = K ∧ Mem W29 [g27, g26, g25, g24, g23, g22, g21] X u_ [.box g27 #[.int .i64 ((n1 - (pre.length + 1) : Nat) : Int)] 3, .box g26 #[.slice (some ⟨g25, 0, none⟩) n1 n1] 24, .own g25 2 n1 n1 (i64s M), .box g24 #[.slice A33 n33 c33] 26, .box g23 #[.slice none 0 0] 26, .box g22 #[.slice A2 n2 c2] 26, .box g21 #[.slice A1 n1 c1] 26] [⟨Dk, [.slice A33 n33 c33], (hor pre % y * 16777216 + z.1.toNat)⟩, ⟨Dk, [.slice A5 n5 c5], hor pre % y⟩, ⟨Itk, [.func (.func 140) #[] #[.pointer (some ⟨b28, 0, none⟩)]], x⟩, ⟨Dk, [.slice A2 n2 c2], y⟩, ⟨Dk, [.slice A1 n1 c1], x⟩] ∧ (K ≤ 18446744073709551615)) (fun _ hM => ⟨_, ((k36 % 18446744073709551616).toNat), (fun t => (#[.agg #[.slice A1 n1 c1], .agg #[.slice A2 n2 c2], .pointer (some ⟨g21, 0, none⟩), .pointer (some ⟨g22, 0, none⟩), .pointer (some ⟨g23, 0, none⟩), .pointer (some ⟨g24, 0, none⟩), .pointer (some ⟨g26, 0, none⟩), .pointer (some ⟨g27, 0, none⟩), .int .i64 z.1, .int .i64 (w64 (k36 % 18446744073709551616).toNat), .pointer (some ⟨g21, 0, none⟩), .slice A1 n1 c1, .int .i64 (n1 : Int), .slice (some ⟨g25, 0, none⟩) n1 n1, .pointer (some ⟨g21, 0, none⟩), .slice A1 n1 c1, .int .i64 (n1 : Int), .agg #[.slice A1 n1 c1], .func (.func 140) #[] #[.pointer (some ⟨b28, 0, none⟩)], .int .i64 z.1, .int .i64 ((n1 - pre.length : Nat) : Int), .int .i64 ((n1 - (pre.length + 1) : Nat) : Int), .int .i64 z.1, .slice (some ⟨g31, 0, none⟩) 1 1, .pointer (some ⟨g24, 0, none⟩), .slice A5 n5 c5, .slice (some ⟨g32, 0, none⟩) (1 + n5) c32, .agg #[.slice A33 n33 c33], .agg #[.slice A33 n33 c33], .agg #[.slice A2 n2 c2], .int .i64 (cmpN (hor pre % y * 16777216 + z.1.toNat) y), .bool (decide ((cmpN (hor pre % y * 16777216 + z.1.toNat) y) < (0 : Int))), .agg #[.slice A33 n33 c33], .agg #[.slice A2 n2 c2], .int .i64 (w64 (k36 % 18446744073709551616).toNat), undef, undef, undef, undef, undef, undef, undef, undef, undef, undef, undef, undef, undef, undef, undef, undef, undef, undef, undef, undef, undef, undef, undef, undef, undef, undef, undef, undef, undef, undef, undef, undef, undef] : Array Value).getD t undef), (by kernel_rfl), rfl, (((((hM.clr).add (hM.f 4 rfl)).add (hM.f 3 rfl)).add (hM.f 2 rfl)).add (hM.f 1 rfl)).add (hM.f 0 rfl), (by omega)⟩) ?_
     rintro m_ a_ u_ ⟨K, j37, rfl, hm37, hM, hKm⟩
     refine CG.go hM ?_
     refine CG.seq fun K_ k2 => ?_
     refine CG.seq fun K_ k3 => ?_
     refine CG.only ?_
     refine CG.draw [] [0, 1, 2, 3, 7] (.step 0 (.step 1 (.step 2 (.step 3 (.step 4 (.step 5 (.step 6 (.step 7 .done)))))))) (fun V hV38 => ?_) (hd := .inr ⟨by kernel_rfl, fun a_ w_ h => h⟩)
     refine GD.er (.agg #[.slice A33 n33 c33]) (fun _ hS => op_load_agg (off := 0) (by kernel_rfl) agg26 siz26 (hV38.bS 3 rfl hS) rfl rfl) ?_
     refine GD.er (.agg #[.slice A2 n2 c2]) (fun _ hS => op_load_agg (off := 0) (by kernel_rfl) agg26 siz26 (hV38.bS 5 rfl hS) rfl rfl) ?_
     refine GD.ev (.int .i64 (w64 K)) ?_
     refine GD.ev (.int .u64 (K : Int)) ?_ (hr := fun u => op_to (v := .int .u64 (IntKind.wrap .u64 (w64 K))) (by kernel_rfl) (w64_u64 (by omega)))
     refine GD.call (fun _ hM => wordn_ok hM.avlt (n := K) (by first | assumption | omega)) ?_
     rintro _ _ _ hM ⟨A39, n39, c39, rfl, h39, hb⟩
     have hw39 : szn K ≤ 3 := szn_small 3 (by omega)
     refine ⟨_, _, _, rfl, hb, (hM.call hb).add h39, ?_⟩
     refine GD.call (fun _ hM => times_ok hM.avlt (hM.f 4 rfl) (hM.f 0 rfl) (by first | assumption | omega)) ?_
     rintro _ _ _ hM ⟨A40, n40, c40, rfl, h40, hb⟩
     have hs40 := szn_mul y K
     refine ⟨_, _, _, rfl, hb, (hM.call hb).add h40, ?_⟩
     refine GD.call (fun _ hM => size_ok hM.avlt (hM.f 2 rfl) (hM.f 0 rfl)) ?_
     rintro _ _ _ hM ⟨rfl, hb⟩
     refine ⟨_, _, _, rfl, hb, hM.call hb, ?_⟩
     refine GD.ev (.bool (decide ((cmpN (hor pre % y * 16777216 + z.1.toNat) (y * K)) < (0 : Int)))) ?_
     refine GD.q ?_
     refine QG.only ?_
     refine QG.k k3 ?_
     by_cases hc42 : hor pre % y * 16777216 + z.1.toNat < y * K
     · have hk42 : (decide ((cmpN (hor pre % y * 16777216 + z.1.toNat) (y * K)) < (0 : Int))) = true := decide_eq_true ((cmpN_lt _ _).2 hc42)
       refine CG.yes ?_ hk42 rfl
       refine CG.skip ?_
       refine QG.k k2 ?_
       refine CG.block ?_
       refine CG.lin 3 ?_ (hd := .inr ⟨by kernel_rfl, fun a_ w_ h => hN a_ w_ h⟩)
       have hK0 : 0 < K := by rcases Nat.eq_zero_or_pos K with e | e; (rw [e, Nat.mul_zero] at hc42; omega); exact e
       refine GL.v (.int .i64 (w64 K)) ?_
       refine GL.v (.int .i64 (w64 (K - 1))) ?_ (hr := fun u => op_to (v := .int .i64 (IntKind.wrap .i64 (w64 K - 1))) (by kernel_rfl) (w64_pred hK0 (by omega)))
       refine GL.v (.int .i64 (w64 (K - 1))) ?_
       refine GL.q ?_
       refine QG.block ?_
       refine QG.again fun _ hM => ?_
       exact ⟨(K - 1), (by omega), (K - 1), (fun t => (#[.agg #[.slice A1 n1 c1], .agg #[.slice A2 n2 c2], .pointer (some ⟨g21, 0, none⟩), .pointer (some ⟨g22, 0, none⟩), .pointer (some ⟨g23, 0, none⟩), .pointer (some ⟨g24, 0, none⟩), .pointer (some ⟨g26, 0, none⟩), .pointer (some ⟨g27, 0, none⟩), .int .i64 z.1, .int .i64 (w64 (K - 1)), .pointer (some ⟨g21, 0, none⟩), .slice A1 n1 c1, .int .i64 (n1 : Int), .slice (some ⟨g25, 0, none⟩) n1 n1, .pointer (some ⟨g21, 0, none⟩), .slice A1 n1 c1, .int .i64 (n1 : Int), .agg #[.slice A1 n1 c1], .func (.func 140) #[] #[.pointer (some ⟨b28, 0, none⟩)], .int .i64 z.1, .int .i64 ((n1 - pre.length : Nat) : Int), .int .i64 ((n1 - (pre.length + 1) : Nat) : Int), .int .i64 z.1, .slice (some ⟨g31, 0, none⟩) 1 1, .pointer (some ⟨g24, 0, none⟩), .slice A5 n5 c5, .slice (some ⟨g32, 0, none⟩) (1 + n5) c32, .agg #[.slice A33 n33 c33], .agg #[.slice A33 n33 c33], .agg #[.slice A2 n2 c2], .int .i64 (cmpN (hor pre % y * 16777216 + z.1.toNat) y), .bool (decide ((cmpN (hor pre % y * 16777216 + z.1.toNat) y) < (0 : Int))), .agg #[.slice A33 n33 c33], .agg #[.slice A2 n2 c2], .int .i64 (w64 (k36 % 18446744073709551616).toNat), .agg #[.slice A33 n33 c33], .agg #[.slice A2 n2 c2], .int .i64 (w64 K), .int .u64 (K : Int), .agg #[.slice A39 n39 c39], .agg #[.slice A40 n40 c40], .int .i64 (cmpN (hor pre % y * 16777216 + z.1.toNat) (y * K)), .bool (decide ((cmpN (hor pre % y * 16777216 + z.1.toNat) (y * K)) < (0 : Int))), .int .i64 (w64 K), .int .i64 (w64 (K - 1)), undef, undef, undef, undef, undef, undef, undef, undef, undef, undef, undef, undef, undef, undef, undef, undef, undef, undef, undef, undef, undef, undef, undef] : Array Value).getD t undef), (by kernel_rfl), rfl, (((((hM.clr).add (hM.f 6 rfl)).add (hM.f 5 rfl)).add (hM.f 4 rfl)).add (hM.f 3 rfl)).add (hM.f 2 rfl), (by omega)⟩
     · have hk42 : (decide ((cmpN (hor pre % y * 16777216 + z.1.toNat) (y * K)) < (0 : Int))) = false := decide_eq_false (fun h => hc42 ((cmpN_lt _ _).1 h))
       refine CG.no ?_ hk42 rfl
       refine CG.exit (QG.then_exit (QG.then_exit (QG.here ?_)))
       refine QG.k k1 ?_
       refine CG.seq fun K_ k1 => ?_
       refine CG.only ?_
       refine CG.draw [] [0, 1, 2, 3] (.step 0 (.step 1 (.step 2 (.step 3 (.step 4 (.step 5 (.step 6 (.step 7 .done)))))))) (fun V hV43 => ?_) (hd := .inr ⟨by kernel_rfl, fun a_ w_ h => h⟩)
       refine GD.er (.agg #[.slice A33 n33 c33]) (fun _ hS => op_load_agg (off := 0) (by kernel_rfl) agg26 siz26 (hV43.bS 3 rfl hS) rfl rfl) ?_
       refine GD.er (.agg #[.slice A2 n2 c2]) (fun _ hS => op_load_agg (off := 0) (by kernel_rfl) agg26 siz26 (hV43.bS 5 rfl hS) rfl rfl) ?_
       refine GD.ev (.int .i64 (w64 K)) ?_
       refine GD.ev (.int .u64 (K : Int)) ?_ (hr := fun u => op_to (v := .int .u64 (IntKind.wrap .u64 (w64 K))) (by kernel_rfl) (w64_u64 (by omega)))
       refine GD.call (fun _ hM => wordn_ok hM.avlt (n := K) (by first | assumption | omega)) ?_
       rintro _ _ _ hM ⟨A44, n44, c44, rfl, h44, hb⟩
       have hw44 : szn K ≤ 3 := szn_small 3 (by omega)
       refine ⟨_, _, _, rfl, hb, (hM.call hb).add h44, ?_⟩
       refine GD.call (fun _ hM => times_ok hM.avlt (hM.f 6 rfl) (hM.f 0 rfl) (by first | assumption | omega)) ?_
       rintro _ _ _ hM ⟨A45, n45, c45, rfl, h45, hb⟩
       have hs45 := szn_mul y K
       refine ⟨_, _, _, rfl, hb, (hM.call hb).add h45, ?_⟩
       refine GD.call (fun _ hM => plus_sub_ok hM.avlt (hM.f 4 rfl) (hM.f 0 rfl) (by first | assumption | omega | (dsimp only; omega)) (by first | assumption | omega | (dsimp only; omega)) (by first | assumption | omega)) ?_
       rintro _ _ _ hM ⟨A46, n46, c46, rfl, h46, hb⟩
       have hs46 := szn_sub (hor pre % y * 16777216 + z.1.toNat) (y * K)
       refine ⟨_, _, _, rfl, hb, (hM.call hb).add h46, ?_⟩
       refine GD.st (fun _ _ => Mem.st3) (fun _ hM => store_all (cs' := #[.slice A46 n46 c46]) siz26 (hM.b 3 rfl) (by kernel_rfl) (by kernel_rfl) rfl rfl rfl) ?_
       refine GD.q ?_
       refine QG.only ?_
       refine QG.k k1 ?_
       refine CG.seq fun K_ k1 => ?_
       refine CG.block ?_
       refine CG.loop (fun m_ a_ u_ => ∃ (Al : Option Addr) (nl : Nat) (cl : Nat) (l : Nat) (J : Nat) (j47 : Nat → Value), a_ = ⟨#[.agg #[.slice A1 n1 c1], .agg #[.slice A2 n2 c2], .pointer (some ⟨g21, 0, none⟩), .pointer (some ⟨g22, 0, none⟩), .pointer (some ⟨g23, 0, none⟩), .pointer (some ⟨g24, 0, none⟩), .pointer (some ⟨g26, 0, none⟩), .pointer (some ⟨g27, 0, none⟩), .int .i64 z.1, .int .i64 (w64 J), .pointer (some ⟨g21, 0, none⟩), .slice A1 n1 c1, .int .i64 (n1 : Int), .slice (some ⟨g25, 0, none⟩) n1 n1, .pointer (some ⟨g21, 0, none⟩), .slice A1 n1 c1, .int .i64 (n1 : Int), .agg #[.slice A1 n1 c1], .func (.func 140) #[] #[.pointer (some ⟨b28, 0, none⟩)], .int .i64 z.1, .int .i64 ((n1 - pre.length : Nat) : Int), .int .i64 ((n1 - (pre.length + 1) : Nat) : Int), .int .i64 z.1, .slice (some ⟨g31, 0, none⟩) 1 1, .pointer (some ⟨g24, 0, none⟩), .slice A5 n5 c5, .slice (some ⟨g32, 0, none⟩) (1 + n5) c32, .agg #[.slice A33 n33 c33], .agg #[.slice A33 n33 c33], .agg #[.slice A2 n2 c2], .int .i64 (cmpN (hor pre % y * 16777216 + z.1.toNat) y), .bool (decide ((cmpN (hor pre % y * 16777216 + z.1.toNat) y) < (0 : Int))), .agg #[.slice A33 n33 c33], .agg #[.slice A2 n2 c2], .int .i64 (w64 (k36 % 18446744073709551616).toNat), .agg #[.slice A33 n33 c33], .agg #[.slice A2 n2 c2], .int .i64 (w64 K), .int .u64 (K : Int), .agg #[.slice A39 n39 c39], .agg #[.slice A40 n40 c40], .int .i64 (cmpN (hor pre % y * 16777216 + z.1.toNat) (y * K)), .bool (decide ((cmpN (hor pre % y * 16777216 + z.1.toNat) (y * K)) < (0 : Int))), (j37 43), (j37 44), .agg #[.slice A33 n33 c33], .agg #[.slice A2 n2 c2], .int .i64 (w64 K), .int .u64 (K : Int), .agg #[.slice A44 n44 c44], .agg #[.slice A45 n45 c45], .agg #[.slice A46 n46 c46], (j47 52), (j47 53), (j47 54), (j47 55), (j47 56), (j47 57), (j47 58), (j47 59), (j47 60), undef, undef, undef, undef, undef, undef, undef], []⟩ ∧ m_ = l ∧ Mem W29 [g27, g26, g25, g24, g23, g22, g21] X u_ [.box g27 #[.int .i64 ((n1 - (pre.length + 1) : Nat) : Int)] 3, .box g26 #[.slice (some ⟨g25, 0, none⟩) n1 n1] 24, .own g25 2 n1 n1 (i64s M), .box g24 #[.slice Al nl cl] 26, .box g23 #[.slice none 0 0] 26, .box g22 #[.slice A2 n2 c2] 26, .box g21 #[.slice A1 n1 c1] 26] [⟨Dk, [.slice Al nl cl], l⟩, ⟨Dk, [.slice A46 n46 c46], (hor pre % y * 16777216 + z.1.toNat) - (y * K)⟩, ⟨Dk, [.slice A45 n45 c45], y * K⟩, ⟨Dk, [.slice A44 n44 c44], K⟩, ⟨Dk, [.slice A40 n40 c40], y * K⟩, ⟨Dk, [.slice A39 n39 c39], K⟩, ⟨Dk, [.slice A33 n33 c33], (hor pre % y * 16777216 + z.1.toNat)⟩, ⟨Dk, [.slice A5 n5 c5], hor pre % y⟩, ⟨Itk, [.func (.func 140) #[] #[.pointer (some ⟨b28, 0, none⟩)]], x⟩, ⟨Dk, [.slice A2 n2 c2], y⟩, ⟨Dk, [.slice A1 n1 c1], x⟩] ∧ (l + y * J = hor pre % y * 16777216 + z.1.toNat) ∧ (szn l ≤ 4398046511104)) (fun _ hM => ⟨_, A46, n46, c46, ((hor pre % y * 16777216 + z.1.toNat) - (y * K)), K, (fun t => (#[.agg #[.slice A1 n1 c1], .agg #[.slice A2 n2 c2], .pointer (some ⟨g21, 0, none⟩), .pointer (some ⟨g22, 0, none⟩), .pointer (some ⟨g23, 0, none⟩), .pointer (some ⟨g24, 0, none⟩), .pointer (some ⟨g26, 0, none⟩), .pointer (some ⟨g27, 0, none⟩), .int .i64 z.1, .int .i64 (w64 K), .pointer (some ⟨g21, 0, none⟩), .slice A1 n1 c1, .int .i64 (n1 : Int), .slice (some ⟨g25, 0, none⟩) n1 n1, .pointer (some ⟨g21, 0, none⟩), .slice A1 n1 c1, .int .i64 (n1 : Int), .agg #[.slice A1 n1 c1], .func (.func 140) #[] #[.pointer (some ⟨b28, 0, none⟩)], .int .i64 z.1, .int .i64 ((n1 - pre.length : Nat) : Int), .int .i64 ((n1 - (pre.length + 1) : Nat) : Int), .int .i64 z.1, .slice (some ⟨g31, 0, none⟩) 1 1, .pointer (some ⟨g24, 0, none⟩), .slice A5 n5 c5, .slice (some ⟨g32, 0, none⟩) (1 + n5) c32, .agg #[.slice A33 n33 c33], .agg #[.slice A33 n33 c33], .agg #[.slice A2 n2 c2], .int .i64 (cmpN (hor pre % y * 16777216 + z.1.toNat) y), .bool (decide ((cmpN (hor pre % y * 16777216 + z.1.toNat) y) < (0 : Int))), .agg #[.slice A33 n33 c33], .agg #[.slice A2 n2 c2], .int .i64 (w64 (k36 % 18446744073709551616).toNat), .agg #[.slice A33 n33 c33], .agg #[.slice A2 n2 c2], .int .i64 (w64 K), .int .u64 (K : Int), .agg #[.slice A39 n39 c39], .agg #[.slice A40 n40 c40], .int .i64 (cmpN (hor pre % y * 16777216 + z.1.toNat) (y * K)), .bool (decide ((cmpN (hor pre % y * 16777216 + z.1.toNat) (y * K)) < (0 : Int))), (j37 43), (j37 44), .agg #[.slice A33 n33 c33], .agg #[.slice A2 n2 c2], .int .i64 (w64 K), .int .u64 (K : Int), .agg #[.slice A44 n44 c44], .agg #[.slice A45 n45 c45], .agg #[.slice A46 n46 c46], undef, undef, undef, undef, undef, undef, undef, undef, undef, undef, undef, undef, undef, undef, undef, undef] : Array Value).getD t undef), (by kernel_rfl), rfl, (((((((((((hM.clr).add (hM.f 9 rfl)).add (hM.f 8 rfl)).add (hM.f 7 rfl)).add (hM.f 6 rfl)).add (hM.f 5 rfl)).add (hM.f 4 rfl)).add (hM.f 3 rfl)).add (hM.f 2 rfl)).add (hM.f 1 rfl)).add (hM.f 0 rfl)).add (hM.f 0 rfl), (by omega), (by have := szn_sub (hor pre % y * 16777216 + z.1.toNat) (y * K); omega)⟩) ?_
       rintro m_ a_ u_ ⟨Al, nl, cl, l, J, j47, rfl, hm47, hM, hKl, hsl⟩
       refine CG.go hM ?_
       refine CG.seq fun K_ k2 => ?_
       refine CG.seq fun K_ k3 => ?_
       refine CG.lin 4 ?_ (hd := .inr ⟨by kernel_rfl, fun a_ w_ h => hN a_ w_ h⟩)
       refine GL.r (.agg #[.slice Al nl cl]) (fun _ hM => op_load_agg (off := 0) (by kernel_rfl) agg26 siz26 (hM.b 3 rfl) rfl rfl) ?_
       refine GL.r (.agg #[.slice A2 n2 c2]) (fun _ hM => op_load_agg (off := 0) (by kernel_rfl) agg26 siz26 (hM.b 5 rfl) rfl rfl) ?_
       refine GL.call (fun _ hM => size_ok hM.avlt (hM.f 0 rfl) (hM.f 9 rfl)) ?_
       rintro _ _ _ hM ⟨rfl, hb⟩
       refine ⟨_, _, _, rfl, hM.call hb, ?_⟩
       refine GL.v (.bool (decide ((cmpN l y) ≥ (0 : Int)))) ?_
       refine GL.k k3 ?_
       by_cases hc49 : y ≤ l
       · have hk49 : (decide ((cmpN l y) ≥ (0 : Int))) = true := decide_eq_true ((cmpN_ge _ _).2 hc49)
         refine CG.yes ?_ hk49 rfl
         refine CG.skip ?_
         refine QG.k k2 ?_
         refine CG.seq fun K_ k2 => ?_
         refine CG.block ?_
         refine CG.lin 4 ?_ (hd := .inr ⟨by kernel_rfl, fun a_ w_ h => hN a_ w_ h⟩)
         refine GL.r (.agg #[.slice Al nl cl]) (fun _ hM => op_load_agg (off := 0) (by kernel_rfl) agg26 siz26 (hM.b 3 rfl) rfl rfl) ?_
         refine GL.r (.agg #[.slice A2 n2 c2]) (fun _ hM => op_load_agg (off := 0) (by kernel_rfl) agg26 siz26 (hM.b 5 rfl) rfl rfl) ?_
         refine GL.call (fun _ hM => plus_sub_ok hM.avlt (hM.f 0 rfl) (hM.f 9 rfl) (by first | assumption | omega) (by first | assumption | omega) (by first | assumption | omega)) ?_
         rintro _ _ _ hM ⟨A50, n50, c50, rfl, h50, hb⟩
         have hs50 := szn_sub l y
         refine ⟨_, _, _, rfl, (hM.call hb).add h50, ?_⟩
         refine GL.sA (cs' := #[.slice A50 n50 c50]) (fun _ _ => Mem.st3) (fun _ hM => hM.b 3 rfl) siz26 ?_
         refine GL.q ?_
         refine QG.block ?_
         refine QG.k k2 ?_
         refine CG.lin 3 ?_ (hd := .inr ⟨by kernel_rfl, fun a_ w_ h => hN a_ w_ h⟩)
         refine GL.v (.int .i64 (w64 J)) ?_
         refine GL.v (.int .i64 (w64 (J + 1))) ?_ (hr := fun u => op_to (v := .int .i64 (IntKind.wrap .i64 (w64 J + 1))) (by kernel_rfl) (w64_succ (over_k hKl (over_l0 p1 (by omega)))))
         refine GL.v (.int .i64 (w64 (J + 1))) ?_
         refine GL.q ?_
         refine QG.again fun _ hM => ?_
         exact ⟨(l - y), (by omega), A50, n50, c50, (l - y), (J + 1), (fun t => (#[.agg #[.slice A1 n1 c1], .agg #[.slice A2 n2 c2], .pointer (some ⟨g21, 0, none⟩), .pointer (some ⟨g22, 0, none⟩), .pointer (some ⟨g23, 0, none⟩), .pointer (some ⟨g24, 0, none⟩), .pointer (some ⟨g26, 0, none⟩), .pointer (some ⟨g27, 0, none⟩), .int .i64 z.1, .int .i64 (w64 (J + 1)), .pointer (some ⟨g21, 0, none⟩), .slice A1 n1 c1, .int .i64 (n1 : Int), .slice (some ⟨g25, 0, none⟩) n1 n1, .pointer (some ⟨g21, 0, none⟩), .slice A1 n1 c1, .int .i64 (n1 : Int), .agg #[.slice A1 n1 c1], .func (.func 140) #[] #[.pointer (some ⟨b28, 0, none⟩)], .int .i64 z.1, .int .i64 ((n1 - pre.length : Nat) : Int), .int .i64 ((n1 - (pre.length + 1) : Nat) : Int), .int .i64 z.1, .slice (some ⟨g31, 0, none⟩) 1 1, .pointer (some ⟨g24, 0, none⟩), .slice A5 n5 c5, .slice (some ⟨g32, 0, none⟩) (1 + n5) c32, .agg #[.slice A33 n33 c33], .agg #[.slice A33 n33 c33], .agg #[.slice A2 n2 c2], .int .i64 (cmpN (hor pre % y * 16777216 + z.1.toNat) y), .bool (decide ((cmpN (hor pre % y * 16777216 + z.1.toNat) y) < (0 : Int))), .agg #[.slice A33 n33 c33], .agg #[.slice A2 n2 c2], .int .i64 (w64 (k36 % 18446744073709551616).toNat), .agg #[.slice A33 n33 c33], .agg #[.slice A2 n2 c2], .int .i64 (w64 K), .int .u64 (K : Int), .agg #[.slice A39 n39 c39], .agg #[.slice A40 n40 c40], .int .i64 (cmpN (hor pre % y * 16777216 + z.1.toNat) (y * K)), .bool (decide ((cmpN (hor pre % y * 16777216 + z.1.toNat) (y * K)) < (0 : Int))), (j37 43), (j37 44), .agg #[.slice A33 n33 c33], .agg #[.slice A2 n2 c2], .int .i64 (w64 K), .int .u64 (K : Int), .agg #[.slice A44 n44 c44], .agg #[.slice A45 n45 c45], .agg #[.slice A46 n46 c46], .agg #[.slice Al nl cl], .agg #[.slice A2 n2 c2], .int .i64 (cmpN l y), .bool (decide ((cmpN l y) ≥ (0 : Int))), .int .i64 (w64 J), .int .i64 (w64 (J + 1)), .agg #[.slice Al nl cl], .agg #[.slice A2 n2 c2], .agg #[.slice A50 n50 c50], undef, undef, undef, undef, undef, undef, undef] : Array Value).getD t undef), (by kernel_rfl), rfl, (((((((((((hM.clr).add (hM.f 11 rfl)).add (hM.f 10 rfl)).add (hM.f 9 rfl)).add (hM.f 8 rfl)).add (hM.f 7 rfl)).add (hM.f 6 rfl)).add (hM.f 5 rfl)).add (hM.f 4 rfl)).add (hM.f 3 rfl)).add (hM.f 2 rfl)).add (hM.f 0 rfl), (by rw [Nat.mul_succ]; omega), (by have := szn_sub l y; omega)⟩
       · have hk49 : (decide ((cmpN l y) ≥ (0 : Int))) = false := decide_eq_false (fun h => hc49 ((cmpN_ge _ _).1 h))
         refine CG.no ?_ hk49 rfl
         refine CG.exit (QG.then_exit (QG.then_exit (QG.here ?_)))
         refine QG.k k1 ?_
         refine CG.lin 5 ?_ (hd := .inr ⟨by kernel_rfl, fun a_ w_ h => hN a_ w_ h⟩)
         refine GL.r (.slice (some ⟨g25, 0, none⟩) n1 n1) (fun _ hM => op_load_one (off := 0) (by kernel_rfl) agg24 (hM.b 1 rfl) rfl) ?_
         refine GL.r (.int .i64 ((n1 - (pre.length + 1) : Nat) : Int)) (fun _ hM => op_load_one (off := 0) (by kernel_rfl) agg3 (hM.b 0 rfl) rfl) ?_
         refine GL.v (.int .i64 (w64 J)) ?_
         refine GL.r (elemPtr (some ⟨g25, 0, none⟩) (n1 - (pre.length + 1))) (fun _ hM => op_index rowt24 (c := n1) (k := .i64) (i := ((n1 - (pre.length + 1) : Nat) : Int)) (n1 - (pre.length + 1)) (by kernel_rfl) (by kernel_rfl) (by omega) (by omega) (hM.o 2 rfl).row _) ?_
         have hJ := over_k hKl (over_l0 p1 (by omega))
         have hJ2 := w64_small (K := J) (by omega)
         refine GL.el (fun _ _ _ => Mem.el2) (fun _ hM => op_set_i64 (n1 - (pre.length + 1)) (w64 J) siz2 (hM.o 2 rfl) (by kernel_rfl) (by kernel_rfl) (by omega)) ?_
         refine GL.q ?_
         refine QG.block ?_
         refine QG.of fun _ hM => ?_
         refine ⟨rfl, ⟨hR29.kept hM _, hR29.stays hM⟩, ?_⟩
         simp only [List.length_append, List.length_cons, List.length_nil, Nat.zero_add, hor_snoc]
         exact ⟨Al, nl, cl, (M.set (n1 - (pre.length + 1)) (w64 J)), hR29.rounded (((((hM.clr).add (hM.f 10 rfl)).add (hM.f 9 rfl)).add (hM.f 8 rfl)).add (by rw [over_left hKl (by omega)]; exact (hM.f 0 rfl))), (by simp; omega), (hMd.set _ (by omega) (by omega)), (over_val hMl (by omega) hKl (by omega) (hMz _ (by omega)) hMv _ (w64_small (by have := over_k hKl (over_l0 p1 (by omega)); omega))), (fun t ht => by rw [set_get _ (by omega), if_neg (by omega)]; exact hMz t (by omega)), (by omega)⟩
 · skip
   rintro D29 pre u29d hD29 hS29 ⟨A5, n5, c5, M, hM, hMl, hMd, hMv, hMz, hpl⟩ hK29
   have hS' : pre.map (·.1) = (dg x).reverse := hS29
   have hl : pre.length = n1 := by have := congrArg List.length hS'; simp at this; omega
   simp only [hor_all hS', hl] at hM hMv
   have hM29e := hM29.rounded hM
   refine QG.go hM29e.round ?_
   refine QG.block ?_
   refine QG.k k1 ?_
   refine CG.seq fun K_ k1 => ?_
   refine CG.only ?_
   refine CG.draw [g23, g25] [0, 2] (.step 0 (.step 2 (.step 1 (.step 3 (.step 4 .done))))) (fun V hV51 => ?_) (hd := .inr ⟨by kernel_rfl, fun a_ w_ h => h⟩)
   refine GD.er (.slice (some ⟨g25, 0, none⟩) n1 n1) (fun _ hS => op_load_one (off := 0) (by kernel_rfl) agg24 (hV51.bS 1 rfl hS (by simp only [List.mem_cons, List.not_mem_nil, or_false, not_or]; exact ⟨hV51.ne 1 4 rfl rfl (by decide), hV51.ne 1 2 rfl rfl (by decide)⟩)) rfl) ?_
   refine GD.er (.agg #[.slice A5 n5 c5]) (fun _ hS => op_load_agg (off := 0) (by kernel_rfl) agg26 siz26 (hV51.bS 3 rfl hS (by simp only [List.mem_cons, List.not_mem_nil, or_false, not_or]; exact ⟨hV51.ne 3 4 rfl rfl (by decide), hV51.ne 3 2 rfl rfl (by decide)⟩)) rfl rfl) ?_
   refine GD.callU g25 (fun _ hM => settled_ok hM.gi2.1.avlt (x := x / y) hM.gi2.2.1 hM.gi2.2.2 (by rw [hMv]; simp) (fun v hv => by have := hMd v hv; omega) (by first | assumption | omega)) ?_
   rintro _ _ _ hM ⟨A52, n52, c52, rfl, h52, hb⟩
   refine ⟨_, _, _, rfl, hb, (hM.up2 hb).add h52, ?_⟩
   refine GD.st (fun _ _ => Mem.st3) (fun _ hM => store_all (cs' := #[.slice A52 n52 c52]) siz26 (hM.b 3 rfl) (by kernel_rfl) (by kernel_rfl) rfl rfl rfl) ?_
   refine GD.st (fun _ _ => Mem.st2) (fun _ hM => store_all (cs' := #[.slice A5 n5 c5]) siz26 (hM.b 2 rfl) (by kernel_rfl) (by kernel_rfl) rfl rfl rfl) ?_
   refine GD.q ?_
   refine QG.only ?_
   refine QG.k k1 ?_
   refine CG.ret (QG.retM hM29e (Nat.le_trans hM29.upd.size hD29) hK29 (fun _ hM => results_two rfl (res_cell rfl (loadVar_agg agg26 siz26 (hM.b 3 rfl) rfl rfl)) (res_cell rfl (loadVar_agg agg26 siz26 (hM.b 2 rfl) rfl rfl))) ?_)
   intro _ hM
   exact ⟨_, _, _, _, _, _, rfl, (hM.out (hM.f 0 rfl)), (hM.out (hM.f 1 rfl)), hM.below⟩

end Go.Proofs.YtklnjhlidfclmaaGreatDoor
