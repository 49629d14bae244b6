/- Contracts of the program's functions. -/
import Derived.Test.YtklnjhlidfclmaaGreatDoorC0
set_option linter.unusedVariables false
set_option linter.unusedSimpArgs false
namespace Go.Proofs.YtklnjhlidfclmaaGreatDoor
open Go.RowKit Cps
attribute [local go_sem] Oper.semAt_some

set_option maxRecDepth 100000 in
set_option maxHeartbeats 400000 in
theorem common_ok {w : World} {X : Nat → Prop} {A1 : Option Addr} {n1 : Nat} {c1 : Nat} {x : Nat} {A2 : Option Addr} {n2 : Nat} {c2 : Nat} {y : Nat} (hX : ∀ k, X k → k < w.heap.size) (h1 : Dk.R X w [.slice A1 n1 c1] x) (h2 : Dk.R X w [.slice A2 n2 c2] y) (p1 : szn x + szn y ≤ 1099511627776) :
    Calls Tryz.prog 102 #[.agg #[.slice A1 n1 c1], .agg #[.slice A2 n2 c2]] w (fun e w' => ∃ Ar nr cr, e = .returned (.agg #[.slice Ar nr cr]) ∧ Dk.R X w' [.slice Ar nr cr] (Nat.gcd x y) ∧ Below w.heap.size w w') := by
 have hM := ((Mem.start hX).add0 h1).add0 h2
 have l1 := Dk.le h1
 have m1 := Dk.len h1
 have l2 := Dk.le h2
 have m2 := Dk.len h2
 refine calls_of hM Tryz.func102 Tryz.ntmps102 ?_
 refine CG.seq fun K_ k1 => ?_
 refine CG.lin 3 ?_
 refine GL.bA #[.slice A1 n1 c1] fun g21 => ?_
 refine GL.bA #[.slice A2 n2 c2] fun g22 => ?_
 refine GL.aA zer26 fun g23 => ?_
 refine GL.k k1 ?_
 refine CG.seq fun K_ k1 => ?_
 refine CG.block ?_
 refine CG.seq fun K_ k2 => ?_
 refine CG.lin 3 ?_
 refine GL.r (.agg #[.slice A1 n1 c1]) (fun _ hM => op_load_agg (off := 0) (by kernel_rfl) agg26 siz26 (hM.b 2 rfl) rfl rfl) ?_
 refine GL.call (fun _ hM => none_ok hM.avlt (hM.f 1 rfl)) ?_
 rintro _ _ _ hM ⟨rfl, hb⟩
 refine ⟨_, _, _, rfl, hM.call hb, ?_⟩
 refine GL.v (.bool (decide (x = 0))) ?_
 refine GL.k k2 ?_
 by_cases hc25 : x = 0
 · have hk25 : (decide (x = 0)) = true := decide_eq_true hc25
   refine CG.yes ?_ hk25 rfl
   refine CG.seq fun K_ k2 => ?_
   refine CG.lin 2 ?_
   refine GL.r (.agg #[.slice A2 n2 c2]) (fun _ hM => op_load_agg (off := 0) (by kernel_rfl) agg26 siz26 (hM.b 1 rfl) rfl rfl) ?_
   refine GL.sA (cs' := #[.slice A2 n2 c2]) (fun _ _ => Mem.st0) (fun _ hM => hM.b 0 rfl) siz26 ?_
   refine GL.k k2 ?_
   refine CG.ret (QG.block_ret (QG.then_ret (QG.ret (fun _ hM => results_one rfl (res_cell rfl (loadVar_agg agg26 siz26 (hM.b 0 rfl) rfl rfl))) ?_)))
   intro _ hM
   exact ⟨_, _, _, rfl, ((by rw [show x = 0 by assumption, Nat.gcd_zero_left]; exact (hM.out (hM.f 0 rfl)))), hM.below⟩
 · have hk25 : (decide (x = 0)) = false := decide_eq_false hc25
   refine CG.no ?_ hk25 rfl
   refine CG.seq fun K_ k2 => ?_
   refine CG.lin 3 ?_
   refine GL.r (.agg #[.slice A2 n2 c2]) (fun _ hM => op_load_agg (off := 0) (by kernel_rfl) agg26 siz26 (hM.b 1 rfl) rfl rfl) ?_
   refine GL.call (fun _ hM => none_ok hM.avlt (hM.f 0 rfl)) ?_
   rintro _ _ _ hM ⟨rfl, hb⟩
   refine ⟨_, _, _, rfl, hM.call hb, ?_⟩
   refine GL.v (.bool (decide (y = 0))) ?_
   refine GL.k k2 ?_
   by_cases hc27 : y = 0
   · have hk27 : (decide (y = 0)) = true := decide_eq_true hc27
     refine CG.yes ?_ hk27 rfl
     refine CG.seq fun K_ k2 => ?_
     refine CG.lin 2 ?_
     refine GL.r (.agg #[.slice A1 n1 c1]) (fun _ hM => op_load_agg (off := 0) (by kernel_rfl) agg26 siz26 (hM.b 2 rfl) rfl rfl) ?_
     refine GL.sA (cs' := #[.slice A1 n1 c1]) (fun _ _ => Mem.st0) (fun _ hM => hM.b 0 rfl) siz26 ?_
     refine GL.k k2 ?_
     refine CG.ret (QG.block_ret (QG.then_ret (QG.ret (fun _ hM => results_one rfl (res_cell rfl (loadVar_agg agg26 siz26 (hM.b 0 rfl) rfl rfl))) ?_)))
     intro _ hM
     exact ⟨_, _, _, rfl, ((by rw [show y = 0 by assumption, Nat.gcd_zero_right]; exact (hM.out (hM.f 1 rfl)))), hM.below⟩
   · have hk27 : (decide (y = 0)) = false := decide_eq_false hc27
     refine CG.no ?_ hk27 rfl
     refine CG.skip ?_
     refine QG.block ?_
     refine QG.k k1 ?_
     refine CG.seq fun K_ k1 => ?_
     refine CG.lin 1 ?_
     refine GL.v (.int .i64 0) ?_
     refine GL.k k1 ?_
     refine CG.seq fun K_ k1 => ?_
     refine CG.cut (fun a_ u_ => ∃ (Ap : Option Addr) (np : Nat) (cp : Nat) (p : Nat) (Aq : Option Addr) (nq : Nat) (cq : Nat) (q : Nat) (k : Nat) (j28 : Nat → Value), a_ = ⟨#[.agg #[.slice A1 n1 c1], .agg #[.slice A2 n2 c2], .pointer (some ⟨g21, 0, none⟩), .pointer (some ⟨g22, 0, none⟩), .pointer (some ⟨g23, 0, none⟩), .int .i64 (k : Int), .bool (decide (x = 0)), .agg #[.slice A1 n1 c1], .bool (decide (x = 0)), undef, .bool (decide (y = 0)), .agg #[.slice A2 n2 c2], .bool (decide (y = 0)), undef, (j28 14), (j28 15), (j28 16), (j28 17), (j28 18), (j28 19), (j28 20), (j28 21), (j28 22), (j28 23), (j28 24), (j28 25), undef, undef, undef, undef, undef, undef, undef, undef, undef, undef, undef, undef, undef, undef, undef, undef, undef, undef, undef, undef, undef, undef, undef, undef, undef, undef, undef, undef, undef, undef, undef, undef, undef, undef, undef, undef, undef, undef, undef, undef, undef], []⟩ ∧ Mem w [] X u_ [.box g23 #[.slice none 0 0] 26, .box g22 #[.slice Aq nq cq] 26, .box g21 #[.slice Ap np cp] 26] [⟨Dk, [.slice Ap np cp], p⟩, ⟨Dk, [.slice Aq nq cq], q⟩, ⟨Dk, [.slice A2 n2 c2], y⟩, ⟨Dk, [.slice A1 n1 c1], x⟩] ∧ (x ≠ 0) ∧ (p ≠ 0) ∧ (q ≠ 0) ∧ (p % 2 = 1 ∨ q % 2 = 1) ∧ (Nat.gcd p q * 2 ^ k = Nat.gcd x y) ∧ (szn p ≤ 1099511627776 ∧ szn q ≤ 1099511627776)) ?_ ?_
     · skip
       refine CG.block ?_
       have hx0 : x ≠ 0 := by first | assumption | omega
       refine CG.loop (fun m_ a_ u_ => ∃ (Ap : Option Addr) (np : Nat) (cp : Nat) (p : Nat) (Aq : Option Addr) (nq : Nat) (cq : Nat) (q : Nat) (k : Nat) (j54 : Nat → Value), a_ = ⟨#[.agg #[.slice A1 n1 c1], .agg #[.slice A2 n2 c2], .pointer (some ⟨g21, 0, none⟩), .pointer (some ⟨g22, 0, none⟩), .pointer (some ⟨g23, 0, none⟩), .int .i64 (k : Int), .bool (decide (x = 0)), .agg #[.slice A1 n1 c1], .bool (decide (x = 0)), undef, .bool (decide (y = 0)), .agg #[.slice A2 n2 c2], .bool (decide (y = 0)), undef, (j54 14), (j54 15), (j54 16), (j54 17), (j54 18), (j54 19), (j54 20), (j54 21), (j54 22), (j54 23), (j54 24), (j54 25), undef, undef, undef, undef, undef, undef, undef, undef, undef, undef, undef, undef, undef, undef, undef, undef, undef, undef, undef, undef, undef, undef, undef, undef, undef, undef, undef, undef, undef, undef, undef, undef, undef, undef, undef, undef, undef, undef, undef, undef, undef], []⟩ ∧ m_ = p ∧ Mem w [] X u_ [.box g23 #[.slice none 0 0] 26, .box g22 #[.slice Aq nq cq] 26, .box g21 #[.slice Ap np cp] 26] [⟨Dk, [.slice Ap np cp], p⟩, ⟨Dk, [.slice Aq nq cq], q⟩, ⟨Dk, [.slice A2 n2 c2], y⟩, ⟨Dk, [.slice A1 n1 c1], x⟩] ∧ (p ≠ 0) ∧ (q ≠ 0) ∧ (Nat.gcd p q * 2 ^ k = Nat.gcd x y) ∧ (szn p ≤ 1099511627776 ∧ szn q ≤ 1099511627776)) (fun _ hM => ⟨_, A1, n1, c1, x, A2, n2, c2, y, 0, (fun t => (#[.agg #[.slice A1 n1 c1], .agg #[.slice A2 n2 c2], .pointer (some ⟨g21, 0, none⟩), .pointer (some ⟨g22, 0, none⟩), .pointer (some ⟨g23, 0, none⟩), .int .i64 0, .bool (decide (x = 0)), .agg #[.slice A1 n1 c1], .bool (decide (x = 0)), undef, .bool (decide (y = 0)), .agg #[.slice A2 n2 c2], .bool (decide (y = 0)), undef, undef, undef, undef, undef, undef, undef, undef, undef, undef, undef, undef, undef, undef, undef, undef, undef, undef, undef, undef, undef, undef, undef, undef, undef, undef, undef, undef, undef, undef, undef, undef, undef, undef, undef, undef, undef, undef, undef, undef, undef, undef, undef, undef, undef, undef, undef, undef, undef, undef, undef, undef, undef, undef] : Array Value).getD t undef), (by kernel_rfl), rfl, ((((hM.clr).add (hM.f 1 rfl)).add (hM.f 0 rfl)).add (hM.f 0 rfl)).add (hM.f 1 rfl), hx0, (by omega), (by simp), (by omega)⟩) ?_
       rintro m_ a_ u_ ⟨Ap, np, cp, p, Aq, nq, cq, q, k, j54, rfl, hm54, hM, hp0, hq0, hG, hz⟩
       have hk := twos hp0 hx0 hG
       refine CG.go hM ?_
       refine CG.seq fun K_ k2 => ?_
       refine CG.seq fun K_ k3 => ?_
       by_cases hc55 : p % 2 = 0
       · have hk55 : (decide (p % 2 = 0)) = true := decide_eq_true hc55
         by_cases hc56 : q % 2 = 0
         · have hk56 : (decide (q % 2 = 0)) = true := decide_eq_true hc56
           refine CG.lin 6 ?_
           refine GL.r (.agg #[.slice Ap np cp]) (fun _ hM => op_load_agg (off := 0) (by kernel_rfl) agg26 siz26 (hM.b 2 rfl) rfl rfl) ?_
           refine GL.call (fun _ hM => even_ok hM.avlt (hM.f 0 rfl) (by first | assumption | omega)) ?_
           rintro _ _ _ hM ⟨rfl, hb⟩
           refine ⟨.bool true, _, _, (ret_bool hk55), hM.call hb, ?_⟩
           refine GL.v (.bool true) ?_
           refine GL.r (.agg #[.slice Aq nq cq]) (fun _ hM => op_load_agg (off := 0) (by kernel_rfl) agg26 siz26 (hM.b 1 rfl) rfl rfl) ?_
           refine GL.call (fun _ hM => even_ok hM.avlt (hM.f 1 rfl) (by first | assumption | omega)) ?_
           rintro _ _ _ hM ⟨rfl, hb⟩
           refine ⟨.bool true, _, _, (ret_bool hk56), hM.call hb, ?_⟩
           refine GL.v (.bool true) ?_
           refine GL.k k3 ?_
           refine CG.yes ?_ rfl rfl
           refine CG.skip ?_
           refine QG.k k2 ?_
           refine CG.block ?_
           refine CG.cut (fun a_ u_ => ∃ (A60 : Option Addr) (n60 : Nat) (c60 : Nat) (A61 : Option Addr) (n61 : Nat) (c61 : Nat), a_ = ⟨#[.agg #[.slice A1 n1 c1], .agg #[.slice A2 n2 c2], .pointer (some ⟨g21, 0, none⟩), .pointer (some ⟨g22, 0, none⟩), .pointer (some ⟨g23, 0, none⟩), .int .i64 ((k + 1 : Nat) : Int), .bool (decide (x = 0)), .agg #[.slice A1 n1 c1], .bool (decide (x = 0)), undef, .bool (decide (y = 0)), .agg #[.slice A2 n2 c2], .bool (decide (y = 0)), undef, .agg #[.slice Ap np cp], .bool true, .bool true, .agg #[.slice Aq nq cq], .bool true, .bool true, .agg #[.slice Ap np cp], .agg #[.slice A60 n60 c60], .agg #[.slice Aq nq cq], .agg #[.slice A61 n61 c61], .int .i64 (k : Int), .int .i64 ((k + 1 : Nat) : Int), undef, undef, undef, undef, undef, undef, undef, undef, undef, undef, undef, undef, undef, undef, undef, undef, undef, undef, undef, undef, undef, undef, undef, undef, undef, undef, undef, undef, undef, undef, undef, undef, undef, undef, undef, undef, undef, undef, undef, undef, undef], []⟩ ∧ Mem w [] X u_ [.box g23 #[.slice none 0 0] 26, .box g22 #[.slice A61 n61 c61] 26, .box g21 #[.slice A60 n60 c60] 26] [⟨Dk, [.slice A61 n61 c61], q / 2⟩, ⟨Dk, [.slice A60 n60 c60], p / 2⟩, ⟨Dk, [.slice Ap np cp], p⟩, ⟨Dk, [.slice Aq nq cq], q⟩, ⟨Dk, [.slice A2 n2 c2], y⟩, ⟨Dk, [.slice A1 n1 c1], x⟩]) ?_ ?_
           · skip
             refine CG.draw [g21, g22] [4, 5] (.step 4 (.step 5 (.fork 0 (.fork 1 (.step 2 (.step 3 (.step 6 (.step 7 (.step 8 .done))))) (.step 2 (.step 1 (.step 3 (.step 6 (.step 7 (.step 8 .done))))))) (.step 2 (.step 0 (.step 1 (.step 3 (.step 6 (.step 7 (.step 8 .done)))))))))) (fun V hV59 => ?_)
             refine GD.ev (.int .i64 (k : Int)) ?_
             refine GD.ev (.int .i64 ((k + 1 : Nat) : Int)) ?_ (hr := fun u => op_to (v := .int .i64 (IntKind.wrap .i64 ((k : Int) + (1 : Int)))) (by kernel_rfl) (wrap_i64 (by omega) (by omega) (by omega)))
             refine GD.fork ?_ ?_
             · skip
               refine GD.r (.agg #[.slice Ap np cp]) (fun _ hM => op_load_agg (off := 0) (by kernel_rfl) agg26 siz26 (hM.b 2 rfl) rfl rfl) ?_
               refine GD.fork ?_ ?_
               · skip
                 refine GD.call (fun _ hM => half_ok hM.avlt (hM.f 0 rfl) (by first | assumption | omega)) ?_
                 rintro _ _ _ hM ⟨A60, n60, c60, rfl, h60, hb⟩
                 refine ⟨_, _, _, rfl, hb, (hM.call hb).add h60, ?_⟩
                 refine GD.r (.agg #[.slice Aq nq cq]) (fun _ hM => op_load_agg (off := 0) (by kernel_rfl) agg26 siz26 (hM.b 1 rfl) rfl rfl) ?_
                 refine GD.call (fun _ hM => half_ok hM.avlt (hM.f 2 rfl) (by first | assumption | omega)) ?_
                 rintro _ _ _ hM ⟨A61, n61, c61, rfl, h61, hb⟩
                 refine ⟨_, _, _, rfl, hb, (hM.call hb).add h61, ?_⟩
                 refine GD.st (fun _ _ => Mem.st2) (fun _ hM => store_all (cs' := #[.slice A60 n60 c60]) siz26 (hM.b 2 rfl) (by kernel_rfl) (by kernel_rfl) rfl rfl rfl) ?_
                 refine GD.st (fun _ _ => Mem.st1) (fun _ hM => store_all (cs' := #[.slice A61 n61 c61]) siz26 (hM.b 1 rfl) (by kernel_rfl) (by kernel_rfl) rfl rfl rfl) ?_
                 refine GD.v (.int .i64 ((k + 1 : Nat) : Int)) ?_
                 refine GD.q (QG.cut fun _ hM => ?_)
                 exact ⟨A60, n60, c60, A61, n61, c61, rfl, ((((((hM.clr).add (hM.f 5 rfl)).add (hM.f 4 rfl)).add (hM.f 3 rfl)).add (hM.f 2 rfl)).add (hM.f 1 rfl)).add (hM.f 0 rfl)⟩
               refine GD.r (.agg #[.slice Aq nq cq]) (fun _ hM => op_load_agg (off := 0) (by kernel_rfl) agg26 siz26 (hM.b 1 rfl) rfl rfl) ?_
               refine GD.call (fun _ hM => half_ok hM.avlt (hM.f 0 rfl) (by first | assumption | omega)) ?_
               rintro _ _ _ hM ⟨A62, n62, c62, rfl, h62, hb⟩
               refine ⟨_, _, _, rfl, hb, (hM.call hb).add h62, ?_⟩
               refine GD.call (fun _ hM => half_ok hM.avlt (hM.f 2 rfl) (by first | assumption | omega)) ?_
               rintro _ _ _ hM ⟨A63, n63, c63, rfl, h63, hb⟩
               refine ⟨_, _, _, rfl, hb, (hM.call hb).add h63, ?_⟩
               refine GD.st (fun _ _ => Mem.st2) (fun _ hM => store_all (cs' := #[.slice A62 n62 c62]) siz26 (hM.b 2 rfl) (by kernel_rfl) (by kernel_rfl) rfl rfl rfl) ?_
               refine GD.st (fun _ _ => Mem.st1) (fun _ hM => store_all (cs' := #[.slice A63 n63 c63]) siz26 (hM.b 1 rfl) (by kernel_rfl) (by kernel_rfl) rfl rfl rfl) ?_
               refine GD.v (.int .i64 ((k + 1 : Nat) : Int)) ?_
               refine GD.q (QG.cut fun _ hM => ?_)
               exact ⟨A62, n62, c62, A63, n63, c63, rfl, ((((((hM.clr).add (hM.f 5 rfl)).add (hM.f 4 rfl)).add (hM.f 3 rfl)).add (hM.f 2 rfl)).add (hM.f 1 rfl)).add (hM.f 0 rfl)⟩
             refine GD.r (.agg #[.slice Aq nq cq]) (fun _ hM => op_load_agg (off := 0) (by kernel_rfl) agg26 siz26 (hM.b 1 rfl) rfl rfl) ?_
             refine GD.r (.agg #[.slice Ap np cp]) (fun _ hM => op_load_agg (off := 0) (by kernel_rfl) agg26 siz26 (hM.b 2 rfl) rfl rfl) ?_
             refine GD.call (fun _ hM => half_ok hM.avlt (hM.f 0 rfl) (by first | assumption | omega)) ?_
             rintro _ _ _ hM ⟨A64, n64, c64, rfl, h64, hb⟩
             refine ⟨_, _, _, rfl, hb, (hM.call hb).add h64, ?_⟩
             refine GD.call (fun _ hM => half_ok hM.avlt (hM.f 2 rfl) (by first | assumption | omega)) ?_
             rintro _ _ _ hM ⟨A65, n65, c65, rfl, h65, hb⟩
             refine ⟨_, _, _, rfl, hb, (hM.call hb).add h65, ?_⟩
             refine GD.st (fun _ _ => Mem.st2) (fun _ hM => store_all (cs' := #[.slice A64 n64 c64]) siz26 (hM.b 2 rfl) (by kernel_rfl) (by kernel_rfl) rfl rfl rfl) ?_
             refine GD.st (fun _ _ => Mem.st1) (fun _ hM => store_all (cs' := #[.slice A65 n65 c65]) siz26 (hM.b 1 rfl) (by kernel_rfl) (by kernel_rfl) rfl rfl rfl) ?_
             refine GD.v (.int .i64 ((k + 1 : Nat) : Int)) ?_
             refine GD.q (QG.cut fun _ hM => ?_)
             exact ⟨A64, n64, c64, A65, n65, c65, rfl, ((((((hM.clr).add (hM.f 5 rfl)).add (hM.f 4 rfl)).add (hM.f 3 rfl)).add (hM.f 2 rfl)).add (hM.f 1 rfl)).add (hM.f 0 rfl)⟩
           · skip
             rintro a_ u_ ⟨A60, n60, c60, A61, n61, c61, rfl, hM⟩
             refine QG.go hM ?_
             refine QG.block ?_
             refine QG.again fun _ hM => ?_
             exact ⟨(p / 2), (by omega), A60, n60, c60, (p / 2), A61, n61, c61, (q / 2), (k + 1), (fun t => (#[.agg #[.slice A1 n1 c1], .agg #[.slice A2 n2 c2], .pointer (some ⟨g21, 0, none⟩), .pointer (some ⟨g22, 0, none⟩), .pointer (some ⟨g23, 0, none⟩), .int .i64 ((k + 1 : Nat) : Int), .bool (decide (x = 0)), .agg #[.slice A1 n1 c1], .bool (decide (x = 0)), undef, .bool (decide (y = 0)), .agg #[.slice A2 n2 c2], .bool (decide (y = 0)), undef, .agg #[.slice Ap np cp], .bool true, .bool true, .agg #[.slice Aq nq cq], .bool true, .bool true, .agg #[.slice Ap np cp], .agg #[.slice A60 n60 c60], .agg #[.slice Aq nq cq], .agg #[.slice A61 n61 c61], .int .i64 (k : Int), .int .i64 ((k + 1 : Nat) : Int), undef, undef, undef, undef, undef, undef, undef, undef, undef, undef, undef, undef, undef, undef, undef, undef, undef, undef, undef, undef, undef, undef, undef, undef, undef, undef, undef, undef, undef, undef, undef, undef, undef, undef, undef, undef, undef, undef, undef, undef, undef] : Array Value).getD t undef), (by kernel_rfl), rfl, ((((hM.clr).add (hM.f 5 rfl)).add (hM.f 4 rfl)).add (hM.f 0 rfl)).add (hM.f 1 rfl), (by omega), (by omega), (halves_pow (by omega) (by omega) hG), (by have := szn_half p; have := szn_half q; omega)⟩
         · have hk56 : (decide (q % 2 = 0)) = false := decide_eq_false hc56
           refine CG.lin 6 ?_
           refine GL.r (.agg #[.slice Ap np cp]) (fun _ hM => op_load_agg (off := 0) (by kernel_rfl) agg26 siz26 (hM.b 2 rfl) rfl rfl) ?_
           refine GL.call (fun _ hM => even_ok hM.avlt (hM.f 0 rfl) (by first | assumption | omega)) ?_
           rintro _ _ _ hM ⟨rfl, hb⟩
           refine ⟨.bool true, _, _, (ret_bool hk55), hM.call hb, ?_⟩
           refine GL.v (.bool true) ?_
           refine GL.r (.agg #[.slice Aq nq cq]) (fun _ hM => op_load_agg (off := 0) (by kernel_rfl) agg26 siz26 (hM.b 1 rfl) rfl rfl) ?_
           refine GL.call (fun _ hM => even_ok hM.avlt (hM.f 1 rfl) (by first | assumption | omega)) ?_
           rintro _ _ _ hM ⟨rfl, hb⟩
           refine ⟨.bool false, _, _, (ret_bool hk56), hM.call hb, ?_⟩
           refine GL.v (.bool false) ?_
           refine GL.k k3 ?_
           refine CG.no ?_ rfl rfl
           refine CG.exit (QG.then_exit (QG.then_exit (QG.here ?_)))
           refine QG.cut fun _ hM => ?_
           exact ⟨Ap, np, cp, p, Aq, nq, cq, q, k, (fun t => (#[.agg #[.slice A1 n1 c1], .agg #[.slice A2 n2 c2], .pointer (some ⟨g21, 0, none⟩), .pointer (some ⟨g22, 0, none⟩), .pointer (some ⟨g23, 0, none⟩), .int .i64 (k : Int), .bool (decide (x = 0)), .agg #[.slice A1 n1 c1], .bool (decide (x = 0)), undef, .bool (decide (y = 0)), .agg #[.slice A2 n2 c2], .bool (decide (y = 0)), undef, .agg #[.slice Ap np cp], .bool true, .bool true, .agg #[.slice Aq nq cq], .bool false, .bool false, (j54 20), (j54 21), (j54 22), (j54 23), (j54 24), (j54 25), undef, undef, undef, undef, undef, undef, undef, undef, undef, undef, undef, undef, undef, undef, undef, undef, undef, undef, undef, undef, undef, undef, undef, undef, undef, undef, undef, undef, undef, undef, undef, undef, undef, undef, undef, undef, undef, undef, undef, undef, undef] : Array Value).getD t undef), (by kernel_rfl), ((((hM.clr).add (hM.f 3 rfl)).add (hM.f 2 rfl)).add (hM.f 1 rfl)).add (hM.f 0 rfl), hx0, hp0, hq0, (by omega), hG, hz⟩
       · have hk55 : (decide (p % 2 = 0)) = false := decide_eq_false hc55
         by_cases hc68 : q % 2 = 0
         · have hk68 : (decide (q % 2 = 0)) = true := decide_eq_true hc68
           refine CG.lin 6 ?_
           refine GL.r (.agg #[.slice Ap np cp]) (fun _ hM => op_load_agg (off := 0) (by kernel_rfl) agg26 siz26 (hM.b 2 rfl) rfl rfl) ?_
           refine GL.call (fun _ hM => even_ok hM.avlt (hM.f 0 rfl) (by first | assumption | omega)) ?_
           rintro _ _ _ hM ⟨rfl, hb⟩
           refine ⟨.bool false, _, _, (ret_bool hk55), hM.call hb, ?_⟩
           refine GL.v (.bool false) ?_
           refine GL.sk ?_
           refine GL.sk ?_
           refine GL.v (.bool false) ?_
           refine GL.k k3 ?_
           refine CG.no ?_ rfl rfl
           refine CG.exit (QG.then_exit (QG.then_exit (QG.here ?_)))
           refine QG.cut fun _ hM => ?_
           exact ⟨Ap, np, cp, p, Aq, nq, cq, q, k, (fun t => (#[.agg #[.slice A1 n1 c1], .agg #[.slice A2 n2 c2], .pointer (some ⟨g21, 0, none⟩), .pointer (some ⟨g22, 0, none⟩), .pointer (some ⟨g23, 0, none⟩), .int .i64 (k : Int), .bool (decide (x = 0)), .agg #[.slice A1 n1 c1], .bool (decide (x = 0)), undef, .bool (decide (y = 0)), .agg #[.slice A2 n2 c2], .bool (decide (y = 0)), undef, .agg #[.slice Ap np cp], .bool false, .bool false, undef, undef, .bool false, (j54 20), (j54 21), (j54 22), (j54 23), (j54 24), (j54 25), undef, undef, undef, undef, undef, undef, undef, undef, undef, undef, undef, undef, undef, undef, undef, undef, undef, undef, undef, undef, undef, undef, undef, undef, undef, undef, undef, undef, undef, undef, undef, undef, undef, undef, undef, undef, undef, undef, undef, undef, undef] : Array Value).getD t undef), (by kernel_rfl), ((((hM.clr).add (hM.f 3 rfl)).add (hM.f 2 rfl)).add (hM.f 1 rfl)).add (hM.f 0 rfl), hx0, hp0, hq0, (by omega), hG, hz⟩
         · have hk68 : (decide (q % 2 = 0)) = false := decide_eq_false hc68
           refine CG.lin 6 ?_
           refine GL.r (.agg #[.slice Ap np cp]) (fun _ hM => op_load_agg (off := 0) (by kernel_rfl) agg26 siz26 (hM.b 2 rfl) rfl rfl) ?_
           refine GL.call (fun _ hM => even_ok hM.avlt (hM.f 0 rfl) (by first | assumption | omega)) ?_
           rintro _ _ _ hM ⟨rfl, hb⟩
           refine ⟨.bool false, _, _, (ret_bool hk55), hM.call hb, ?_⟩
           refine GL.v (.bool false) ?_
           refine GL.sk ?_
           refine GL.sk ?_
           refine GL.v (.bool false) ?_
           refine GL.k k3 ?_
           refine CG.no ?_ rfl rfl
           refine CG.exit (QG.then_exit (QG.then_exit (QG.here ?_)))
           refine QG.cut fun _ hM => ?_
           exact ⟨Ap, np, cp, p, Aq, nq, cq, q, k, (fun t => (#[.agg #[.slice A1 n1 c1], .agg #[.slice A2 n2 c2], .pointer (some ⟨g21, 0, none⟩), .pointer (some ⟨g22, 0, none⟩), .pointer (some ⟨g23, 0, none⟩), .int .i64 (k : Int), .bool (decide (x = 0)), .agg #[.slice A1 n1 c1], .bool (decide (x = 0)), undef, .bool (decide (y = 0)), .agg #[.slice A2 n2 c2], .bool (decide (y = 0)), undef, .agg #[.slice Ap np cp], .bool false, .bool false, undef, undef, .bool false, (j54 20), (j54 21), (j54 22), (j54 23), (j54 24), (j54 25), undef, undef, undef, undef, undef, undef, undef, undef, undef, undef, undef, undef, undef, undef, undef, undef, undef, undef, undef, undef, undef, undef, undef, undef, undef, undef, undef, undef, undef, undef, undef, undef, undef, undef, undef, undef, undef, undef, undef, undef, undef] : Array Value).getD t undef), (by kernel_rfl), ((((hM.clr).add (hM.f 3 rfl)).add (hM.f 2 rfl)).add (hM.f 1 rfl)).add (hM.f 0 rfl), hx0, hp0, hq0, (by omega), hG, hz⟩
     · skip
       rintro a_ u_ ⟨Ap, np, cp, p, Aq, nq, cq, q, k, j28, rfl, hM, hx0, hp0, hq0, ho, hG, hz⟩
       refine QG.go hM ?_
       refine QG.k k1 ?_
       refine CG.seq fun K_ k1 => ?_
       refine CG.block ?_
       refine CG.loop (fun m_ a_ u_ => ∃ (Ap : Option Addr) (np : Nat) (cp : Nat) (p : Nat) (j29 : Nat → Value), a_ = ⟨#[.agg #[.slice A1 n1 c1], .agg #[.slice A2 n2 c2], .pointer (some ⟨g21, 0, none⟩), .pointer (some ⟨g22, 0, none⟩), .pointer (some ⟨g23, 0, none⟩), .int .i64 (k : Int), .bool (decide (x = 0)), .agg #[.slice A1 n1 c1], .bool (decide (x = 0)), undef, .bool (decide (y = 0)), .agg #[.slice A2 n2 c2], .bool (decide (y = 0)), undef, (j28 14), (j28 15), (j28 16), (j28 17), (j28 18), (j28 19), (j28 20), (j28 21), (j28 22), (j28 23), (j28 24), (j28 25), (j29 26), (j29 27), (j29 28), (j29 29), undef, undef, undef, undef, undef, undef, undef, undef, undef, undef, undef, undef, undef, undef, undef, undef, undef, undef, undef, undef, undef, undef, undef, undef, undef, undef, undef, undef, undef, undef, undef, undef, undef, undef, undef, undef, undef], []⟩ ∧ m_ = p ∧ Mem w [] X u_ [.box g23 #[.slice none 0 0] 26, .box g22 #[.slice Aq nq cq] 26, .box g21 #[.slice Ap np cp] 26] [⟨Dk, [.slice Ap np cp], p⟩, ⟨Dk, [.slice Aq nq cq], q⟩, ⟨Dk, [.slice A2 n2 c2], y⟩, ⟨Dk, [.slice A1 n1 c1], x⟩] ∧ (p ≠ 0) ∧ (p % 2 = 1 ∨ q % 2 = 1) ∧ (Nat.gcd p q * 2 ^ k = Nat.gcd x y) ∧ (szn p ≤ 1099511627776 ∧ szn q ≤ 1099511627776)) (fun _ hM => ⟨_, Ap, np, cp, p, (fun t => (#[.agg #[.slice A1 n1 c1], .agg #[.slice A2 n2 c2], .pointer (some ⟨g21, 0, none⟩), .pointer (some ⟨g22, 0, none⟩), .pointer (some ⟨g23, 0, none⟩), .int .i64 (k : Int), .bool (decide (x = 0)), .agg #[.slice A1 n1 c1], .bool (decide (x = 0)), undef, .bool (decide (y = 0)), .agg #[.slice A2 n2 c2], .bool (decide (y = 0)), undef, (j28 14), (j28 15), (j28 16), (j28 17), (j28 18), (j28 19), (j28 20), (j28 21), (j28 22), (j28 23), (j28 24), (j28 25), undef, undef, undef, undef, undef, undef, undef, undef, undef, undef, undef, undef, undef, undef, undef, undef, undef, undef, undef, undef, undef, undef, undef, undef, undef, undef, undef, undef, undef, undef, undef, undef, undef, undef, undef, undef, undef, undef, undef, undef, undef] : Array Value).getD t undef), (by kernel_rfl), rfl, ((((hM.clr).add (hM.f 3 rfl)).add (hM.f 2 rfl)).add (hM.f 1 rfl)).add (hM.f 0 rfl), hp0, (by omega), hG, hz⟩) ?_
       rintro m_ a_ u_ ⟨Ap, np, cp, p, j29, rfl, hm29, hM, hp0, ho, hG, hz⟩
       refine CG.go hM ?_
       refine CG.seq fun K_ k2 => ?_
       refine CG.seq fun K_ k3 => ?_
       refine CG.lin 2 ?_
       refine GL.r (.agg #[.slice Ap np cp]) (fun _ hM => op_load_agg (off := 0) (by kernel_rfl) agg26 siz26 (hM.b 2 rfl) rfl rfl) ?_
       refine GL.call (fun _ hM => even_ok hM.avlt (hM.f 0 rfl) (by first | assumption | omega)) ?_
       rintro _ _ _ hM ⟨rfl, hb⟩
       refine ⟨_, _, _, rfl, hM.call hb, ?_⟩
       refine GL.k k3 ?_
       by_cases hc31 : p % 2 = 0
       · have hk31 : (decide (p % 2 = 0)) = true := decide_eq_true hc31
         refine CG.yes ?_ hk31 rfl
         refine CG.skip ?_
         refine QG.k k2 ?_
         refine CG.block ?_
         refine CG.lin 3 ?_
         refine GL.r (.agg #[.slice Ap np cp]) (fun _ hM => op_load_agg (off := 0) (by kernel_rfl) agg26 siz26 (hM.b 2 rfl) rfl rfl) ?_
         refine GL.call (fun _ hM => half_ok hM.avlt (hM.f 0 rfl) (by first | assumption | omega)) ?_
         rintro _ _ _ hM ⟨A32, n32, c32, rfl, h32, hb⟩
         refine ⟨_, _, _, rfl, (hM.call hb).add h32, ?_⟩
         refine GL.sA (cs' := #[.slice A32 n32 c32]) (fun _ _ => Mem.st2) (fun _ hM => hM.b 2 rfl) siz26 ?_
         refine GL.q ?_
         refine QG.block ?_
         refine QG.again fun _ hM => ?_
         exact ⟨(p / 2), (by omega), A32, n32, c32, (p / 2), (fun t => (#[.agg #[.slice A1 n1 c1], .agg #[.slice A2 n2 c2], .pointer (some ⟨g21, 0, none⟩), .pointer (some ⟨g22, 0, none⟩), .pointer (some ⟨g23, 0, none⟩), .int .i64 (k : Int), .bool (decide (x = 0)), .agg #[.slice A1 n1 c1], .bool (decide (x = 0)), undef, .bool (decide (y = 0)), .agg #[.slice A2 n2 c2], .bool (decide (y = 0)), undef, (j28 14), (j28 15), (j28 16), (j28 17), (j28 18), (j28 19), (j28 20), (j28 21), (j28 22), (j28 23), (j28 24), (j28 25), .agg #[.slice Ap np cp], .bool (decide (p % 2 = 0)), .agg #[.slice Ap np cp], .agg #[.slice A32 n32 c32], undef, undef, undef, undef, undef, undef, undef, undef, undef, undef, undef, undef, undef, undef, undef, undef, undef, undef, undef, undef, undef, undef, undef, undef, undef, undef, undef, undef, undef, undef, undef, undef, undef, undef, undef, undef, undef] : Array Value).getD t undef), (by kernel_rfl), rfl, ((((hM.clr).add (hM.f 4 rfl)).add (hM.f 3 rfl)).add (hM.f 2 rfl)).add (hM.f 0 rfl), (by omega), (by omega), (by rw [gcd_half (by omega) (by omega)]; exact hG), (by have := szn_half p; have := szn_half q; omega)⟩
       · have hk31 : (decide (p % 2 = 0)) = false := decide_eq_false hc31
         refine CG.no ?_ hk31 rfl
         refine CG.exit (QG.then_exit (QG.then_exit (QG.here ?_)))
         refine QG.k k1 ?_
         refine CG.seq fun K_ k1 => ?_
         refine CG.block ?_
         refine CG.loop (fun m_ a_ u_ => ∃ (Ap : Option Addr) (np : Nat) (cp : Nat) (p : Nat) (Aq : Option Addr) (nq : Nat) (cq : Nat) (q : Nat) (j33 : Nat → Value), a_ = ⟨#[.agg #[.slice A1 n1 c1], .agg #[.slice A2 n2 c2], .pointer (some ⟨g21, 0, none⟩), .pointer (some ⟨g22, 0, none⟩), .pointer (some ⟨g23, 0, none⟩), .int .i64 (k : Int), .bool (decide (x = 0)), .agg #[.slice A1 n1 c1], .bool (decide (x = 0)), undef, .bool (decide (y = 0)), .agg #[.slice A2 n2 c2], .bool (decide (y = 0)), undef, (j28 14), (j28 15), (j28 16), (j28 17), (j28 18), (j28 19), (j28 20), (j28 21), (j28 22), (j28 23), (j28 24), (j28 25), (j33 26), (j33 27), (j29 28), (j29 29), (j33 30), (j33 31), (j33 32), (j33 33), (j33 34), (j33 35), (j33 36), (j33 37), (j33 38), (j33 39), (j33 40), (j33 41), (j33 42), (j33 43), (j33 44), (j33 45), (j33 46), (j33 47), (j33 48), (j33 49), (j33 50), (j33 51), (j33 52), (j33 53), (j33 54), (j33 55), (j33 56), (j33 57), (j33 58), (j33 59), (j33 60), (j33 61), (j33 62), (j33 63), undef, undef, undef], []⟩ ∧ m_ = p + q ∧ Mem w [] X u_ [.box g23 #[.slice none 0 0] 26, .box g22 #[.slice Aq nq cq] 26, .box g21 #[.slice Ap np cp] 26] [⟨Dk, [.slice Ap np cp], p⟩, ⟨Dk, [.slice Aq nq cq], q⟩, ⟨Dk, [.slice A2 n2 c2], y⟩, ⟨Dk, [.slice A1 n1 c1], x⟩] ∧ (p ≠ 0) ∧ (p % 2 = 1) ∧ (Nat.gcd p q * 2 ^ k = Nat.gcd x y) ∧ (szn p ≤ 1099511627776 ∧ szn q ≤ 1099511627776)) (fun _ hM => ⟨_, Ap, np, cp, p, Aq, nq, cq, q, (fun t => (#[.agg #[.slice A1 n1 c1], .agg #[.slice A2 n2 c2], .pointer (some ⟨g21, 0, none⟩), .pointer (some ⟨g22, 0, none⟩), .pointer (some ⟨g23, 0, none⟩), .int .i64 (k : Int), .bool (decide (x = 0)), .agg #[.slice A1 n1 c1], .bool (decide (x = 0)), undef, .bool (decide (y = 0)), .agg #[.slice A2 n2 c2], .bool (decide (y = 0)), undef, (j28 14), (j28 15), (j28 16), (j28 17), (j28 18), (j28 19), (j28 20), (j28 21), (j28 22), (j28 23), (j28 24), (j28 25), .agg #[.slice Ap np cp], .bool (decide (p % 2 = 0)), (j29 28), (j29 29), undef, undef, undef, undef, undef, undef, undef, undef, undef, undef, undef, undef, undef, undef, undef, undef, undef, undef, undef, undef, undef, undef, undef, undef, undef, undef, undef, undef, undef, undef, undef, undef, undef, undef, undef, undef, undef] : Array Value).getD t undef), (by kernel_rfl), rfl, ((((hM.clr).add (hM.f 3 rfl)).add (hM.f 2 rfl)).add (hM.f 1 rfl)).add (hM.f 0 rfl), hp0, (by omega), hG, hz⟩) ?_
         rintro m_ a_ u_ ⟨Ap, np, cp, p, Aq, nq, cq, q, j33, rfl, hm33, hM, hp0, ho, hG, hz⟩
         refine CG.go hM ?_
         refine CG.seq fun K_ k2 => ?_
         refine CG.seq fun K_ k3 => ?_
         refine CG.lin 3 ?_
         refine GL.r (.agg #[.slice Aq nq cq]) (fun _ hM => op_load_agg (off := 0) (by kernel_rfl) agg26 siz26 (hM.b 1 rfl) rfl rfl) ?_
         refine GL.call (fun _ hM => none_ok hM.avlt (hM.f 1 rfl)) ?_
         rintro _ _ _ hM ⟨rfl, hb⟩
         refine ⟨_, _, _, rfl, hM.call hb, ?_⟩
         refine GL.v (.bool (!(decide (q = 0)))) ?_
         refine GL.k k3 ?_
         by_cases hc35 : ¬ q = 0
         · have hk35 : (!(decide (q = 0))) = true := by simpa using hc35
           refine CG.yes ?_ hk35 rfl
           refine CG.skip ?_
           refine QG.k k2 ?_
           refine CG.block ?_
           refine CG.seq fun K_ k2 => ?_
           refine CG.block ?_
           refine CG.loop (fun m_ a_ u_ => ∃ (Ar : Option Addr) (nr : Nat) (cr : Nat) (r : Nat) (j36 : Nat → Value), a_ = ⟨#[.agg #[.slice A1 n1 c1], .agg #[.slice A2 n2 c2], .pointer (some ⟨g21, 0, none⟩), .pointer (some ⟨g22, 0, none⟩), .pointer (some ⟨g23, 0, none⟩), .int .i64 (k : Int), .bool (decide (x = 0)), .agg #[.slice A1 n1 c1], .bool (decide (x = 0)), undef, .bool (decide (y = 0)), .agg #[.slice A2 n2 c2], .bool (decide (y = 0)), undef, (j28 14), (j28 15), (j28 16), (j28 17), (j28 18), (j28 19), (j28 20), (j28 21), (j28 22), (j28 23), (j28 24), (j28 25), (j33 26), (j33 27), (j29 28), (j29 29), .agg #[.slice Aq nq cq], .bool (decide (q = 0)), .bool (!(decide (q = 0))), (j36 33), (j36 34), (j36 35), (j36 36), (j33 37), (j33 38), (j33 39), (j33 40), (j33 41), (j33 42), (j33 43), (j33 44), (j33 45), (j33 46), (j33 47), (j33 48), (j33 49), (j33 50), (j33 51), (j33 52), (j33 53), (j33 54), (j33 55), (j33 56), (j33 57), (j33 58), (j33 59), (j33 60), (j33 61), (j33 62), (j33 63), undef, undef, undef], []⟩ ∧ m_ = r ∧ Mem w [] X u_ [.box g23 #[.slice none 0 0] 26, .box g22 #[.slice Ar nr cr] 26, .box g21 #[.slice Ap np cp] 26] [⟨Dk, [.slice Ar nr cr], r⟩, ⟨Dk, [.slice Ap np cp], p⟩, ⟨Dk, [.slice Aq nq cq], q⟩, ⟨Dk, [.slice A2 n2 c2], y⟩, ⟨Dk, [.slice A1 n1 c1], x⟩] ∧ (r ≠ 0) ∧ (Nat.gcd p r = Nat.gcd p q) ∧ (r ≤ q) ∧ (szn r ≤ 1099511627776)) (fun _ hM => ⟨_, Aq, nq, cq, q, (fun t => (#[.agg #[.slice A1 n1 c1], .agg #[.slice A2 n2 c2], .pointer (some ⟨g21, 0, none⟩), .pointer (some ⟨g22, 0, none⟩), .pointer (some ⟨g23, 0, none⟩), .int .i64 (k : Int), .bool (decide (x = 0)), .agg #[.slice A1 n1 c1], .bool (decide (x = 0)), undef, .bool (decide (y = 0)), .agg #[.slice A2 n2 c2], .bool (decide (y = 0)), undef, (j28 14), (j28 15), (j28 16), (j28 17), (j28 18), (j28 19), (j28 20), (j28 21), (j28 22), (j28 23), (j28 24), (j28 25), (j33 26), (j33 27), (j29 28), (j29 29), .agg #[.slice Aq nq cq], .bool (decide (q = 0)), .bool (!(decide (q = 0))), (j33 33), (j33 34), (j33 35), (j33 36), (j33 37), (j33 38), (j33 39), (j33 40), (j33 41), (j33 42), (j33 43), (j33 44), (j33 45), (j33 46), (j33 47), (j33 48), (j33 49), (j33 50), (j33 51), (j33 52), (j33 53), (j33 54), (j33 55), (j33 56), (j33 57), (j33 58), (j33 59), (j33 60), (j33 61), (j33 62), (j33 63), undef, undef, undef] : Array Value).getD t undef), (by kernel_rfl), rfl, (((((hM.clr).add (hM.f 3 rfl)).add (hM.f 2 rfl)).add (hM.f 1 rfl)).add (hM.f 0 rfl)).add (hM.f 1 rfl), (by omega), rfl, (by omega), (by omega)⟩) ?_
           rintro m_ a_ u_ ⟨Ar, nr, cr, r, j36, rfl, hm36, hM, hr0, hrG, hrz, hrs⟩
           refine CG.go hM ?_
           refine CG.seq fun K_ k3 => ?_
           refine CG.seq fun K_ k4 => ?_
           refine CG.lin 2 ?_
           refine GL.r (.agg #[.slice Ar nr cr]) (fun _ hM => op_load_agg (off := 0) (by kernel_rfl) agg26 siz26 (hM.b 1 rfl) rfl rfl) ?_
           refine GL.call (fun _ hM => even_ok hM.avlt (hM.f 0 rfl) (by first | assumption | omega)) ?_
           rintro _ _ _ hM ⟨rfl, hb⟩
           refine ⟨_, _, _, rfl, hM.call hb, ?_⟩
           refine GL.k k4 ?_
           by_cases hc38 : r % 2 = 0
           · have hk38 : (decide (r % 2 = 0)) = true := decide_eq_true hc38
             refine CG.yes ?_ hk38 rfl
             refine CG.skip ?_
             refine QG.k k3 ?_
             refine CG.block ?_
             refine CG.lin 3 ?_
             refine GL.r (.agg #[.slice Ar nr cr]) (fun _ hM => op_load_agg (off := 0) (by kernel_rfl) agg26 siz26 (hM.b 1 rfl) rfl rfl) ?_
             refine GL.call (fun _ hM => half_ok hM.avlt (hM.f 0 rfl) (by first | assumption | omega)) ?_
             rintro _ _ _ hM ⟨A39, n39, c39, rfl, h39, hb⟩
             refine ⟨_, _, _, rfl, (hM.call hb).add h39, ?_⟩
             refine GL.sA (cs' := #[.slice A39 n39 c39]) (fun _ _ => Mem.st1) (fun _ hM => hM.b 1 rfl) siz26 ?_
             refine GL.q ?_
             refine QG.block ?_
             refine QG.again fun _ hM => ?_
             exact ⟨(r / 2), (by omega), A39, n39, c39, (r / 2), (fun t => (#[.agg #[.slice A1 n1 c1], .agg #[.slice A2 n2 c2], .pointer (some ⟨g21, 0, none⟩), .pointer (some ⟨g22, 0, none⟩), .pointer (some ⟨g23, 0, none⟩), .int .i64 (k : Int), .bool (decide (x = 0)), .agg #[.slice A1 n1 c1], .bool (decide (x = 0)), undef, .bool (decide (y = 0)), .agg #[.slice A2 n2 c2], .bool (decide (y = 0)), undef, (j28 14), (j28 15), (j28 16), (j28 17), (j28 18), (j28 19), (j28 20), (j28 21), (j28 22), (j28 23), (j28 24), (j28 25), (j33 26), (j33 27), (j29 28), (j29 29), .agg #[.slice Aq nq cq], .bool (decide (q = 0)), .bool (!(decide (q = 0))), .agg #[.slice Ar nr cr], .bool (decide (r % 2 = 0)), .agg #[.slice Ar nr cr], .agg #[.slice A39 n39 c39], (j33 37), (j33 38), (j33 39), (j33 40), (j33 41), (j33 42), (j33 43), (j33 44), (j33 45), (j33 46), (j33 47), (j33 48), (j33 49), (j33 50), (j33 51), (j33 52), (j33 53), (j33 54), (j33 55), (j33 56), (j33 57), (j33 58), (j33 59), (j33 60), (j33 61), (j33 62), (j33 63), undef, undef, undef] : Array Value).getD t undef), (by kernel_rfl), rfl, (((((hM.clr).add (hM.f 5 rfl)).add (hM.f 4 rfl)).add (hM.f 3 rfl)).add (hM.f 2 rfl)).add (hM.f 0 rfl), (by omega), (by rw [← hrG, Nat.gcd_comm, gcd_half (by omega) (by omega), Nat.gcd_comm]), (by omega), (by have := szn_half r; omega)⟩
           · have hk38 : (decide (r % 2 = 0)) = false := decide_eq_false hc38
             refine CG.no ?_ hk38 rfl
             refine CG.exit (QG.then_exit (QG.then_exit (QG.here ?_)))
             refine QG.k k2 ?_
             refine CG.seq fun K_ k2 => ?_
             refine CG.seq fun K_ k3 => ?_
             refine CG.lin 4 ?_
             refine GL.r (.agg #[.slice Ap np cp]) (fun _ hM => op_load_agg (off := 0) (by kernel_rfl) agg26 siz26 (hM.b 2 rfl) rfl rfl) ?_
             refine GL.r (.agg #[.slice Ar nr cr]) (fun _ hM => op_load_agg (off := 0) (by kernel_rfl) agg26 siz26 (hM.b 1 rfl) rfl rfl) ?_
             refine GL.call (fun _ hM => size_ok hM.avlt (hM.f 1 rfl) (hM.f 0 rfl)) ?_
             rintro _ _ _ hM ⟨rfl, hb⟩
             refine ⟨_, _, _, rfl, hM.call hb, ?_⟩
             refine GL.v (.bool (decide ((cmpN p r) > (0 : Int)))) ?_
             refine GL.k k3 ?_
             refine CG.cut (fun a_ u_ => ∃ (As : Option Addr) (ns : Nat) (cs : Nat) (s : Nat) (At : Option Addr) (nt : Nat) (ct : Nat) (t : Nat) (j41 : Nat → Value), a_ = ⟨#[.agg #[.slice A1 n1 c1], .agg #[.slice A2 n2 c2], .pointer (some ⟨g21, 0, none⟩), .pointer (some ⟨g22, 0, none⟩), .pointer (some ⟨g23, 0, none⟩), .int .i64 (k : Int), .bool (decide (x = 0)), .agg #[.slice A1 n1 c1], .bool (decide (x = 0)), undef, .bool (decide (y = 0)), .agg #[.slice A2 n2 c2], .bool (decide (y = 0)), undef, (j28 14), (j28 15), (j28 16), (j28 17), (j28 18), (j28 19), (j28 20), (j28 21), (j28 22), (j28 23), (j28 24), (j28 25), (j33 26), (j33 27), (j29 28), (j29 29), .agg #[.slice Aq nq cq], .bool (decide (q = 0)), .bool (!(decide (q = 0))), .agg #[.slice Ar nr cr], .bool (decide (r % 2 = 0)), (j36 35), (j36 36), .agg #[.slice Ap np cp], .agg #[.slice Ar nr cr], .int .i64 (cmpN p r), .bool (decide ((cmpN p r) > (0 : Int))), (j41 41), (j41 42), (j33 43), (j33 44), (j33 45), (j33 46), (j33 47), (j33 48), (j33 49), (j33 50), (j33 51), (j33 52), (j33 53), (j33 54), (j33 55), (j33 56), (j33 57), (j33 58), (j33 59), (j33 60), (j33 61), (j33 62), (j33 63), undef, undef, undef], []⟩ ∧ Mem w [] X u_ [.box g23 #[.slice none 0 0] 26, .box g22 #[.slice At nt ct] 26, .box g21 #[.slice As ns cs] 26] [⟨Dk, [.slice As ns cs], s⟩, ⟨Dk, [.slice At nt ct], t⟩, ⟨Dk, [.slice Ar nr cr], r⟩, ⟨Dk, [.slice Ap np cp], p⟩, ⟨Dk, [.slice Aq nq cq], q⟩, ⟨Dk, [.slice A2 n2 c2], y⟩, ⟨Dk, [.slice A1 n1 c1], x⟩] ∧ (s ≤ t) ∧ (s % 2 = 1) ∧ (Nat.gcd s t = Nat.gcd p q) ∧ (szn s ≤ 1099511627776 ∧ szn t ≤ 1099511627776) ∧ (t < p + q)) ?_ ?_
             · skip
               by_cases hc52 : r < p
               · have hk52 : (decide ((cmpN p r) > (0 : Int))) = true := decide_eq_true ((cmpN_gt _ _).2 hc52)
                 refine CG.yes ?_ hk52 rfl
                 refine CG.lin 4 ?_
                 refine GL.r (.agg #[.slice Ar nr cr]) (fun _ hM => op_load_agg (off := 0) (by kernel_rfl) agg26 siz26 (hM.b 1 rfl) rfl rfl) ?_
                 refine GL.r (.agg #[.slice Ap np cp]) (fun _ hM => op_load_agg (off := 0) (by kernel_rfl) agg26 siz26 (hM.b 2 rfl) rfl rfl) ?_
                 refine GL.sA (cs' := #[.slice Ar nr cr]) (fun _ _ => Mem.st2) (fun _ hM => hM.b 2 rfl) siz26 ?_
                 refine GL.sA (cs' := #[.slice Ap np cp]) (fun _ _ => Mem.st1) (fun _ hM => hM.b 1 rfl) siz26 ?_
                 refine GL.q ?_
                 refine QG.cut fun _ hM => ?_
                 exact ⟨Ar, nr, cr, r, Ap, np, cp, p, (fun t => (#[.agg #[.slice A1 n1 c1], .agg #[.slice A2 n2 c2], .pointer (some ⟨g21, 0, none⟩), .pointer (some ⟨g22, 0, none⟩), .pointer (some ⟨g23, 0, none⟩), .int .i64 (k : Int), .bool (decide (x = 0)), .agg #[.slice A1 n1 c1], .bool (decide (x = 0)), undef, .bool (decide (y = 0)), .agg #[.slice A2 n2 c2], .bool (decide (y = 0)), undef, (j28 14), (j28 15), (j28 16), (j28 17), (j28 18), (j28 19), (j28 20), (j28 21), (j28 22), (j28 23), (j28 24), (j28 25), (j33 26), (j33 27), (j29 28), (j29 29), .agg #[.slice Aq nq cq], .bool (decide (q = 0)), .bool (!(decide (q = 0))), .agg #[.slice Ar nr cr], .bool (decide (r % 2 = 0)), (j36 35), (j36 36), .agg #[.slice Ap np cp], .agg #[.slice Ar nr cr], .int .i64 (cmpN p r), .bool (decide ((cmpN p r) > (0 : Int))), .agg #[.slice Ar nr cr], .agg #[.slice Ap np cp], (j33 43), (j33 44), (j33 45), (j33 46), (j33 47), (j33 48), (j33 49), (j33 50), (j33 51), (j33 52), (j33 53), (j33 54), (j33 55), (j33 56), (j33 57), (j33 58), (j33 59), (j33 60), (j33 61), (j33 62), (j33 63), undef, undef, undef] : Array Value).getD t undef), (by kernel_rfl), (((((((hM.clr).add (hM.f 4 rfl)).add (hM.f 3 rfl)).add (hM.f 2 rfl)).add (hM.f 1 rfl)).add (hM.f 0 rfl)).add (hM.f 1 rfl)).add (hM.f 0 rfl), (by omega), (by omega), (by first | exact hrG | (rw [Nat.gcd_comm]; exact hrG)), (by omega), (by omega)⟩
               · have hk52 : (decide ((cmpN p r) > (0 : Int))) = false := decide_eq_false (fun h => hc52 ((cmpN_gt _ _).1 h))
                 refine CG.no ?_ hk52 rfl
                 refine CG.skip ?_
                 refine QG.cut fun _ hM => ?_
                 exact ⟨Ap, np, cp, p, Ar, nr, cr, r, (fun t => (#[.agg #[.slice A1 n1 c1], .agg #[.slice A2 n2 c2], .pointer (some ⟨g21, 0, none⟩), .pointer (some ⟨g22, 0, none⟩), .pointer (some ⟨g23, 0, none⟩), .int .i64 (k : Int), .bool (decide (x = 0)), .agg #[.slice A1 n1 c1], .bool (decide (x = 0)), undef, .bool (decide (y = 0)), .agg #[.slice A2 n2 c2], .bool (decide (y = 0)), undef, (j28 14), (j28 15), (j28 16), (j28 17), (j28 18), (j28 19), (j28 20), (j28 21), (j28 22), (j28 23), (j28 24), (j28 25), (j33 26), (j33 27), (j29 28), (j29 29), .agg #[.slice Aq nq cq], .bool (decide (q = 0)), .bool (!(decide (q = 0))), .agg #[.slice Ar nr cr], .bool (decide (r % 2 = 0)), (j36 35), (j36 36), .agg #[.slice Ap np cp], .agg #[.slice Ar nr cr], .int .i64 (cmpN p r), .bool (decide ((cmpN p r) > (0 : Int))), (j33 41), (j33 42), (j33 43), (j33 44), (j33 45), (j33 46), (j33 47), (j33 48), (j33 49), (j33 50), (j33 51), (j33 52), (j33 53), (j33 54), (j33 55), (j33 56), (j33 57), (j33 58), (j33 59), (j33 60), (j33 61), (j33 62), (j33 63), undef, undef, undef] : Array Value).getD t undef), (by kernel_rfl), (((((((hM.clr).add (hM.f 4 rfl)).add (hM.f 3 rfl)).add (hM.f 2 rfl)).add (hM.f 1 rfl)).add (hM.f 0 rfl)).add (hM.f 0 rfl)).add (hM.f 1 rfl), (by omega), (by omega), (by first | exact hrG | (rw [Nat.gcd_comm]; exact hrG)), (by omega), (by omega)⟩
             · skip
               rintro a_ u_ ⟨As, ns, cs, s, At, nt, ct, t, j41, rfl, hM, hst, hs2, hsg, hsz, hsm⟩
               refine QG.go hM ?_
               refine QG.k k2 ?_
               refine CG.seq fun K_ k2 => ?_
               refine CG.lin 4 ?_
               refine GL.r (.agg #[.slice At nt ct]) (fun _ hM => op_load_agg (off := 0) (by kernel_rfl) agg26 siz26 (hM.b 1 rfl) rfl rfl) ?_
               refine GL.r (.agg #[.slice As ns cs]) (fun _ hM => op_load_agg (off := 0) (by kernel_rfl) agg26 siz26 (hM.b 2 rfl) rfl rfl) ?_
               refine GL.call (fun _ hM => plus_sub_ok hM.avlt (hM.f 1 rfl) (hM.f 0 rfl) (by first | assumption | omega) (by first | assumption | omega) (by first | assumption | omega)) ?_
               rintro _ _ _ hM ⟨A42, n42, c42, rfl, h42, hb⟩
               have hs42 := szn_sub t s
               refine ⟨_, _, _, rfl, (hM.call hb).add h42, ?_⟩
               refine GL.sA (cs' := #[.slice A42 n42 c42]) (fun _ _ => Mem.st1) (fun _ hM => hM.b 1 rfl) siz26 ?_
               refine GL.k k2 ?_
               refine CG.seq fun K_ k2 => ?_
               by_cases hc43 : (ns : Int) ≤ (2 : Int)
               · have hk43 : (decide ((ns : Int) ≤ (2 : Int))) = true := decide_eq_true hc43
                 by_cases hc44 : (n42 : Int) ≤ (2 : Int)
                 · have hk44 : (decide ((n42 : Int) ≤ (2 : Int))) = true := decide_eq_true hc44
                   refine CG.lin 10 ?_
                   refine GL.v (.pointer (some ⟨g21, 0, none⟩)) ?_
                   refine GL.r (.slice As ns cs) (fun _ hM => op_load_one (off := 0) (by kernel_rfl) agg24 (hM.b 2 rfl) rfl) ?_
                   refine GL.v (.int .i64 (ns : Int)) ?_
                   refine GL.v (.bool true) ?_ (hr := fun u => op_b (b := (decide ((ns : Int) ≤ (2 : Int)))) (by kernel_rfl) hk43)
                   refine GL.v (.bool true) ?_
                   refine GL.v (.pointer (some ⟨g22, 0, none⟩)) ?_
                   refine GL.r (.slice A42 n42 c42) (fun _ hM => op_load_one (off := 0) (by kernel_rfl) agg24 (hM.b 1 rfl) rfl) ?_
                   refine GL.v (.int .i64 (n42 : Int)) ?_
                   refine GL.v (.bool true) ?_ (hr := fun u => op_b (b := (decide ((n42 : Int) ≤ (2 : Int)))) (by kernel_rfl) hk44)
                   refine GL.v (.bool true) ?_
                   refine GL.k k2 ?_
                   refine CG.yes ?_ rfl rfl
                   refine CG.seq fun K_ k2 => ?_
                   refine CG.draw [] [0, 2, 6] (.step 0 (.step 2 (.step 6 (.step 1 (.step 3 (.step 4 (.step 5 (.step 7 (.step 8 .done))))))))) (fun V hV45 => ?_)
                   refine GD.er (.agg #[.slice As ns cs]) (fun _ hS => op_load_agg (off := 0) (by kernel_rfl) agg26 siz26 (hV45.bS 2 rfl hS) rfl rfl) ?_
                   refine GD.er (.agg #[.slice A42 n42 c42]) (fun _ hS => op_load_agg (off := 0) (by kernel_rfl) agg26 siz26 (hV45.bS 1 rfl hS) rfl rfl) ?_
                   refine GD.ev (.int .i64 (k : Int)) ?_
                   refine GD.call (fun _ hM => wordof_ok hM.avlt (hM.f 1 rfl) (by have := word_lt (x := s) (by have := Dk.len (hM.f 1 rfl); omega); omega)) ?_
                   rintro _ _ _ hM ⟨rfl, hb⟩
                   refine ⟨_, _, _, rfl, hb, hM.call hb, ?_⟩
                   refine GD.call (fun _ hM => wordof_ok hM.avlt (hM.f 0 rfl) (by have := word_lt (x := t - s) (by have := Dk.len (hM.f 0 rfl); omega); omega)) ?_
                   rintro _ _ _ hM ⟨rfl, hb⟩
                   refine ⟨_, _, _, rfl, hb, hM.call hb, ?_⟩
                   refine GD.call (fun _ hM => divisor_ok hM.avlt (a := s) (b := t - s) (by have := word_lt (x := s) (by have := Dk.len (hM.f 1 rfl); omega); omega) (by have := word_lt (x := t - s) (by have := Dk.len (hM.f 0 rfl); omega); omega)) ?_
                   rintro _ _ _ hM ⟨rfl, hb⟩
                   refine ⟨_, _, _, rfl, hb, hM.call hb, ?_⟩
                   refine GD.call (fun _ hM => word_ok hM.avlt ((Nat.gcd s (t - s) : Nat) : Int) (by have := gcd_word (q := t - s) (show s ≠ 0 by omega) (word_lt (by have := Dk.len (hM.f 1 rfl); omega)); omega)) ?_
                   rintro _ _ _ hM ⟨A49, n49, c49, rfl, h49, hb⟩
                   refine ⟨_, _, _, rfl, hb, (hM.call hb).add h49, ?_⟩
                   refine GD.call (fun _ hM => shifted_ok hM.avlt (k := k) (hM.f 0 rfl) (Nat.le_trans (szn_small 2 (by have := gcd_word (q := t - s) (show s ≠ 0 by omega) (word_lt (by have := Dk.len (hM.f 2 rfl); omega)); rw [Int.toNat_natCast]; omega)) (by decide)) (by have := twos hp0 hx0 hG; omega)) ?_
                   rintro _ _ _ hM ⟨A50, n50, c50, rfl, h50, hb⟩
                   refine ⟨_, _, _, rfl, hb, (hM.call hb).add h50, ?_⟩
                   refine GD.st (fun _ _ => Mem.st0) (fun _ hM => store_all (cs' := #[.slice A50 n50 c50]) siz26 (hM.b 0 rfl) (by kernel_rfl) (by kernel_rfl) rfl rfl rfl) ?_
                   refine GD.k k2 ?_
                   refine CG.ret (QG.block_ret (QG.then_ret (QG.block_ret (QG.then_ret (QG.ret (fun _ hM => results_one rfl (res_cell rfl (loadVar_agg agg26 siz26 (hM.b 0 rfl) rfl rfl))) ?_)))))
                   intro _ hM
                   exact ⟨_, _, _, rfl, ((show (((Nat.gcd s (t - s) : Nat) : Int).toNat) * 2 ^ k = Nat.gcd x y by rw [Int.toNat_natCast, gcd_minus hst, hsg]; exact hG) ▸ (hM.out (hM.f 0 rfl))), hM.below⟩
                 · have hk44 : (decide ((n42 : Int) ≤ (2 : Int))) = false := decide_eq_false hc44
                   refine CG.lin 10 ?_
                   refine GL.v (.pointer (some ⟨g21, 0, none⟩)) ?_
                   refine GL.r (.slice As ns cs) (fun _ hM => op_load_one (off := 0) (by kernel_rfl) agg24 (hM.b 2 rfl) rfl) ?_
                   refine GL.v (.int .i64 (ns : Int)) ?_
                   refine GL.v (.bool true) ?_ (hr := fun u => op_b (b := (decide ((ns : Int) ≤ (2 : Int)))) (by kernel_rfl) hk43)
                   refine GL.v (.bool true) ?_
                   refine GL.v (.pointer (some ⟨g22, 0, none⟩)) ?_
                   refine GL.r (.slice A42 n42 c42) (fun _ hM => op_load_one (off := 0) (by kernel_rfl) agg24 (hM.b 1 rfl) rfl) ?_
                   refine GL.v (.int .i64 (n42 : Int)) ?_
                   refine GL.v (.bool false) ?_ (hr := fun u => op_b (b := (decide ((n42 : Int) ≤ (2 : Int)))) (by kernel_rfl) hk44)
                   refine GL.v (.bool false) ?_
                   refine GL.k k2 ?_
                   refine CG.no ?_ rfl rfl
                   refine CG.skip ?_
                   refine QG.block ?_
                   refine QG.again fun _ hM => ?_
                   exact ⟨s + (t - s), (by omega), As, ns, cs, s, A42, n42, c42, (t - s), (fun t => (#[.agg #[.slice A1 n1 c1], .agg #[.slice A2 n2 c2], .pointer (some ⟨g21, 0, none⟩), .pointer (some ⟨g22, 0, none⟩), .pointer (some ⟨g23, 0, none⟩), .int .i64 (k : Int), .bool (decide (x = 0)), .agg #[.slice A1 n1 c1], .bool (decide (x = 0)), undef, .bool (decide (y = 0)), .agg #[.slice A2 n2 c2], .bool (decide (y = 0)), undef, (j28 14), (j28 15), (j28 16), (j28 17), (j28 18), (j28 19), (j28 20), (j28 21), (j28 22), (j28 23), (j28 24), (j28 25), (j33 26), (j33 27), (j29 28), (j29 29), .agg #[.slice Aq nq cq], .bool (decide (q = 0)), .bool (!(decide (q = 0))), .agg #[.slice Ar nr cr], .bool (decide (r % 2 = 0)), (j36 35), (j36 36), .agg #[.slice Ap np cp], .agg #[.slice Ar nr cr], .int .i64 (cmpN p r), .bool (decide ((cmpN p r) > (0 : Int))), (j41 41), (j41 42), .agg #[.slice At nt ct], .agg #[.slice As ns cs], .agg #[.slice A42 n42 c42], .pointer (some ⟨g21, 0, none⟩), .slice As ns cs, .int .i64 (ns : Int), .bool true, .bool true, .pointer (some ⟨g22, 0, none⟩), .slice A42 n42 c42, .int .i64 (n42 : Int), .bool false, .bool false, (j33 56), (j33 57), (j33 58), (j33 59), (j33 60), (j33 61), (j33 62), (j33 63), undef, undef, undef] : Array Value).getD t undef), (by kernel_rfl), rfl, ((((hM.clr).add (hM.f 7 rfl)).add (hM.f 6 rfl)).add (hM.f 0 rfl)).add (hM.f 1 rfl), (by omega), (by omega), (by rw [gcd_minus hst, hsg]; exact hG), (by have := szn_minus s t; omega)⟩
               · have hk43 : (decide ((ns : Int) ≤ (2 : Int))) = false := decide_eq_false hc43
                 by_cases hc51 : (n42 : Int) ≤ (2 : Int)
                 · have hk51 : (decide ((n42 : Int) ≤ (2 : Int))) = true := decide_eq_true hc51
                   refine CG.lin 10 ?_
                   refine GL.v (.pointer (some ⟨g21, 0, none⟩)) ?_
                   refine GL.r (.slice As ns cs) (fun _ hM => op_load_one (off := 0) (by kernel_rfl) agg24 (hM.b 2 rfl) rfl) ?_
                   refine GL.v (.int .i64 (ns : Int)) ?_
                   refine GL.v (.bool false) ?_ (hr := fun u => op_b (b := (decide ((ns : Int) ≤ (2 : Int)))) (by kernel_rfl) hk43)
                   refine GL.v (.bool false) ?_
                   refine GL.sk ?_
                   refine GL.sk ?_
                   refine GL.sk ?_
                   refine GL.sk ?_
                   refine GL.v (.bool false) ?_
                   refine GL.k k2 ?_
                   refine CG.no ?_ rfl rfl
                   refine CG.skip ?_
                   refine QG.block ?_
                   refine QG.again fun _ hM => ?_
                   exact ⟨s + (t - s), (by omega), As, ns, cs, s, A42, n42, c42, (t - s), (fun t => (#[.agg #[.slice A1 n1 c1], .agg #[.slice A2 n2 c2], .pointer (some ⟨g21, 0, none⟩), .pointer (some ⟨g22, 0, none⟩), .pointer (some ⟨g23, 0, none⟩), .int .i64 (k : Int), .bool (decide (x = 0)), .agg #[.slice A1 n1 c1], .bool (decide (x = 0)), undef, .bool (decide (y = 0)), .agg #[.slice A2 n2 c2], .bool (decide (y = 0)), undef, (j28 14), (j28 15), (j28 16), (j28 17), (j28 18), (j28 19), (j28 20), (j28 21), (j28 22), (j28 23), (j28 24), (j28 25), (j33 26), (j33 27), (j29 28), (j29 29), .agg #[.slice Aq nq cq], .bool (decide (q = 0)), .bool (!(decide (q = 0))), .agg #[.slice Ar nr cr], .bool (decide (r % 2 = 0)), (j36 35), (j36 36), .agg #[.slice Ap np cp], .agg #[.slice Ar nr cr], .int .i64 (cmpN p r), .bool (decide ((cmpN p r) > (0 : Int))), (j41 41), (j41 42), .agg #[.slice At nt ct], .agg #[.slice As ns cs], .agg #[.slice A42 n42 c42], .pointer (some ⟨g21, 0, none⟩), .slice As ns cs, .int .i64 (ns : Int), .bool false, .bool false, undef, undef, undef, undef, .bool false, (j33 56), (j33 57), (j33 58), (j33 59), (j33 60), (j33 61), (j33 62), (j33 63), undef, undef, undef] : Array Value).getD t undef), (by kernel_rfl), rfl, ((((hM.clr).add (hM.f 7 rfl)).add (hM.f 6 rfl)).add (hM.f 0 rfl)).add (hM.f 1 rfl), (by omega), (by omega), (by rw [gcd_minus hst, hsg]; exact hG), (by have := szn_minus s t; omega)⟩
                 · have hk51 : (decide ((n42 : Int) ≤ (2 : Int))) = false := decide_eq_false hc51
                   refine CG.lin 10 ?_
                   refine GL.v (.pointer (some ⟨g21, 0, none⟩)) ?_
                   refine GL.r (.slice As ns cs) (fun _ hM => op_load_one (off := 0) (by kernel_rfl) agg24 (hM.b 2 rfl) rfl) ?_
                   refine GL.v (.int .i64 (ns : Int)) ?_
                   refine GL.v (.bool false) ?_ (hr := fun u => op_b (b := (decide ((ns : Int) ≤ (2 : Int)))) (by kernel_rfl) hk43)
                   refine GL.v (.bool false) ?_
                   refine GL.sk ?_
                   refine GL.sk ?_
                   refine GL.sk ?_
                   refine GL.sk ?_
                   refine GL.v (.bool false) ?_
                   refine GL.k k2 ?_
                   refine CG.no ?_ rfl rfl
                   refine CG.skip ?_
                   refine QG.block ?_
                   refine QG.again fun _ hM => ?_
                   exact ⟨s + (t - s), (by omega), As, ns, cs, s, A42, n42, c42, (t - s), (fun t => (#[.agg #[.slice A1 n1 c1], .agg #[.slice A2 n2 c2], .pointer (some ⟨g21, 0, none⟩), .pointer (some ⟨g22, 0, none⟩), .pointer (some ⟨g23, 0, none⟩), .int .i64 (k : Int), .bool (decide (x = 0)), .agg #[.slice A1 n1 c1], .bool (decide (x = 0)), undef, .bool (decide (y = 0)), .agg #[.slice A2 n2 c2], .bool (decide (y = 0)), undef, (j28 14), (j28 15), (j28 16), (j28 17), (j28 18), (j28 19), (j28 20), (j28 21), (j28 22), (j28 23), (j28 24), (j28 25), (j33 26), (j33 27), (j29 28), (j29 29), .agg #[.slice Aq nq cq], .bool (decide (q = 0)), .bool (!(decide (q = 0))), .agg #[.slice Ar nr cr], .bool (decide (r % 2 = 0)), (j36 35), (j36 36), .agg #[.slice Ap np cp], .agg #[.slice Ar nr cr], .int .i64 (cmpN p r), .bool (decide ((cmpN p r) > (0 : Int))), (j41 41), (j41 42), .agg #[.slice At nt ct], .agg #[.slice As ns cs], .agg #[.slice A42 n42 c42], .pointer (some ⟨g21, 0, none⟩), .slice As ns cs, .int .i64 (ns : Int), .bool false, .bool false, undef, undef, undef, undef, .bool false, (j33 56), (j33 57), (j33 58), (j33 59), (j33 60), (j33 61), (j33 62), (j33 63), undef, undef, undef] : Array Value).getD t undef), (by kernel_rfl), rfl, ((((hM.clr).add (hM.f 7 rfl)).add (hM.f 6 rfl)).add (hM.f 0 rfl)).add (hM.f 1 rfl), (by omega), (by omega), (by rw [gcd_minus hst, hsg]; exact hG), (by have := szn_minus s t; omega)⟩
         · have hk35 : (!(decide (q = 0))) = false := by simpa using hc35
           refine CG.no ?_ hk35 rfl
           refine CG.exit (QG.then_exit (QG.then_exit (QG.here ?_)))
           refine QG.k k1 ?_
           refine CG.seq fun K_ k1 => ?_
           refine CG.lin 4 ?_
           refine GL.r (.agg #[.slice Ap np cp]) (fun _ hM => op_load_agg (off := 0) (by kernel_rfl) agg26 siz26 (hM.b 2 rfl) rfl rfl) ?_
           refine GL.v (.int .i64 (k : Int)) ?_
           refine GL.call (fun _ hM => shifted_ok hM.avlt (k := k) (hM.f 0 rfl) (by first | assumption | omega) (by have := twos hp0 hx0 hG; omega)) ?_
           rintro _ _ _ hM ⟨A53, n53, c53, rfl, h53, hb⟩
           refine ⟨_, _, _, rfl, (hM.call hb).add h53, ?_⟩
           refine GL.sA (cs' := #[.slice A53 n53 c53]) (fun _ _ => Mem.st0) (fun _ hM => hM.b 0 rfl) siz26 ?_
           refine GL.k k1 ?_
           refine CG.ret (QG.ret (fun _ hM => results_one rfl (res_cell rfl (loadVar_agg agg26 siz26 (hM.b 0 rfl) rfl rfl))) ?_)
           intro _ hM
           exact ⟨_, _, _, rfl, ((show p * 2 ^ k = Nat.gcd x y by rw [← hG, show q = 0 by omega, Nat.gcd_zero_right]) ▸ (hM.out (hM.f 0 rfl))), hM.below⟩

set_option maxRecDepth 100000 in
set_option maxHeartbeats 400000 in
theorem Neg_ok {w : World} {X : Nat → Prop} {A1 : Option Addr} {n1 : Nat} {c1 : Nat} {m1 : Bool} {a : Int} (hX : ∀ k, X k → k < w.heap.size) (h1 : Zk.R X w [.slice A1 n1 c1, .bool m1] a) :
    Calls Tryz.prog 43 #[.agg #[.slice A1 n1 c1, .bool m1]] w (fun e w' => ∃ Ar nr cr mr, e = .returned (.agg #[.slice Ar nr cr, .bool mr]) ∧ Zk.R X w' [.slice Ar nr cr, .bool mr] (-a) ∧ Below w.heap.size w w') := by
 have hM := (Mem.start hX).add0 h1
 have e1 : sz a = szn (a).natAbs := rfl
 refine calls_of hM Tryz.func43 Tryz.ntmps43 ?_
 refine CG.seq fun K_ k1 => ?_
 refine CG.lin 2 ?_
 refine GL.bA #[.slice A1 n1 c1, .bool m1] fun g21 => ?_
 refine GL.aA zer28 fun g22 => ?_
 refine GL.k k1 ?_
 refine CG.seq fun K_ k1 => ?_
 refine CG.lin 7 ?_
 refine GL.v (.pointer (some ⟨g21, 1, none⟩)) ?_
 refine GL.r (.bool m1) (fun _ hM => op_load_one (off := 1) (by kernel_rfl) agg4 (hM.b 1 rfl) rfl) ?_
 refine GL.v (.bool (!m1)) ?_
 refine GL.v (.pointer (some ⟨g21, 0, none⟩)) ?_
 refine GL.r (.agg #[.slice A1 n1 c1]) (fun _ hM => op_load_agg (off := 0) (by kernel_rfl) agg26 siz26 (hM.b 1 rfl) rfl rfl) ?_
 refine GL.call (fun _ hM => made_ok hM.avlt (!m1) (Zk.dig (hM.f 0 rfl))) ?_
 rintro _ _ _ hM ⟨A23, n23, c23, m23, rfl, h23, hb⟩
 refine ⟨_, _, _, rfl, (hM.call hb).add h23, ?_⟩
 refine GL.sA (cs' := #[.slice A23 n23 c23, .bool m23]) (fun _ _ => Mem.st0) (fun _ hM => hM.b 0 rfl) siz28 ?_
 refine GL.k k1 ?_
 refine CG.ret (QG.ret (fun _ hM => results_one rfl (res_cell rfl (loadVar_agg agg28 siz28 (hM.b 0 rfl) rfl rfl))) ?_)
 intro _ hM
 exact ⟨_, _, _, _, rfl, (mk_opp (Zk.neg h1) ▸ (hM.out (hM.f 0 rfl))), hM.below⟩

set_option maxRecDepth 100000 in
set_option maxHeartbeats 400000 in
theorem Abs_ok {w : World} {X : Nat → Prop} {A1 : Option Addr} {n1 : Nat} {c1 : Nat} {m1 : Bool} {a : Int} (hX : ∀ k, X k → k < w.heap.size) (h1 : Zk.R X w [.slice A1 n1 c1, .bool m1] a) :
    Calls Tryz.prog 45 #[.agg #[.slice A1 n1 c1, .bool m1]] w (fun e w' => ∃ Ar nr cr mr, e = .returned (.agg #[.slice Ar nr cr, .bool mr]) ∧ Zk.R X w' [.slice Ar nr cr, .bool mr] (a.natAbs : Int) ∧ Below w.heap.size w w') := by
 have hM := (Mem.start hX).add0 h1
 have e1 : sz a = szn (a).natAbs := rfl
 refine calls_of hM Tryz.func45 Tryz.ntmps45 ?_
 refine CG.seq fun K_ k1 => ?_
 refine CG.lin 2 ?_
 refine GL.bA #[.slice A1 n1 c1, .bool m1] fun g21 => ?_
 refine GL.aA zer28 fun g22 => ?_
 refine GL.k k1 ?_
 refine CG.seq fun K_ k1 => ?_
 refine CG.lin 4 ?_
 refine GL.v (.pointer (some ⟨g21, 0, none⟩)) ?_
 refine GL.r (.agg #[.slice A1 n1 c1]) (fun _ hM => op_load_agg (off := 0) (by kernel_rfl) agg26 siz26 (hM.b 1 rfl) rfl rfl) ?_
 refine GL.call (fun _ hM => made_ok hM.avlt false (Zk.dig (hM.f 0 rfl))) ?_
 rintro _ _ _ hM ⟨A23, n23, c23, m23, rfl, h23, hb⟩
 refine ⟨_, _, _, rfl, (hM.call hb).add h23, ?_⟩
 refine GL.sA (cs' := #[.slice A23 n23 c23, .bool m23]) (fun _ _ => Mem.st0) (fun _ hM => hM.b 0 rfl) siz28 ?_
 refine GL.k k1 ?_
 refine CG.ret (QG.ret (fun _ hM => results_one rfl (res_cell rfl (loadVar_agg agg28 siz28 (hM.b 0 rfl) rfl rfl))) ?_)
 intro _ hM
 exact ⟨_, _, _, _, rfl, ((show mk false a.natAbs = (a.natAbs : Int) from rfl) ▸ (hM.out (hM.f 0 rfl))), hM.below⟩

set_option maxRecDepth 100000 in
set_option maxHeartbeats 400000 in
theorem Mul_ok {w : World} {X : Nat → Prop} {A1 : Option Addr} {n1 : Nat} {c1 : Nat} {m1 : Bool} {a : Int} {A2 : Option Addr} {n2 : Nat} {c2 : Nat} {m2 : Bool} {b : Int} (hX : ∀ k, X k → k < w.heap.size) (h1 : Zk.R X w [.slice A1 n1 c1, .bool m1] a) (h2 : Zk.R X w [.slice A2 n2 c2, .bool m2] b) (p1 : sz a + sz b ≤ 1099511627776) :
    Calls Tryz.prog 41 #[.agg #[.slice A1 n1 c1, .bool m1], .agg #[.slice A2 n2 c2, .bool m2]] w (fun e w' => ∃ Ar nr cr mr, e = .returned (.agg #[.slice Ar nr cr, .bool mr]) ∧ Zk.R X w' [.slice Ar nr cr, .bool mr] (a * b) ∧ Below w.heap.size w w') := by
 have hM := ((Mem.start hX).add0 h1).add0 h2
 have e1 : sz a = szn (a).natAbs := rfl
 have e2 : sz b = szn (b).natAbs := rfl
 refine calls_of hM Tryz.func41 Tryz.ntmps41 ?_
 refine CG.seq fun K_ k1 => ?_
 refine CG.lin 3 ?_
 refine GL.bA #[.slice A1 n1 c1, .bool m1] fun g21 => ?_
 refine GL.bA #[.slice A2 n2 c2, .bool m2] fun g22 => ?_
 refine GL.aA zer28 fun g23 => ?_
 refine GL.k k1 ?_
 refine CG.seq fun K_ k1 => ?_
 refine CG.draw [] [0, 1, 2, 3, 4, 5, 6, 7, 8] (.step 0 (.step 1 (.step 2 (.step 3 (.step 4 (.step 5 (.step 6 (.step 7 (.step 8 (.step 9 (.step 10 (.step 11 .done)))))))))))) (fun V hV24 => ?_)
 refine GD.ev (.pointer (some ⟨g21, 1, none⟩)) ?_
 refine GD.er (.bool m1) (fun _ hS => op_load_one (off := 1) (by kernel_rfl) agg4 (hV24.bS 2 rfl hS) rfl) ?_
 refine GD.ev (.pointer (some ⟨g22, 1, none⟩)) ?_
 refine GD.er (.bool m2) (fun _ hS => op_load_one (off := 1) (by kernel_rfl) agg4 (hV24.bS 1 rfl hS) rfl) ?_
 refine GD.ev (.bool (m1 != m2)) ?_ (hr := fun _ => op_neq_bool (p := m1) (q := m2) (by kernel_rfl) (by kernel_rfl) (by kernel_rfl))
 refine GD.ev (.pointer (some ⟨g21, 0, none⟩)) ?_
 refine GD.er (.agg #[.slice A1 n1 c1]) (fun _ hS => op_load_agg (off := 0) (by kernel_rfl) agg26 siz26 (hV24.bS 2 rfl hS) rfl rfl) ?_
 refine GD.ev (.pointer (some ⟨g22, 0, none⟩)) ?_
 refine GD.er (.agg #[.slice A2 n2 c2]) (fun _ hS => op_load_agg (off := 0) (by kernel_rfl) agg26 siz26 (hV24.bS 1 rfl hS) rfl rfl) ?_
 refine GD.call (fun _ hM => times_ok hM.avlt (Zk.dig (hM.f 1 rfl)) (Zk.dig (hM.f 0 rfl)) (by first | assumption | omega)) ?_
 rintro _ _ _ hM ⟨A25, n25, c25, rfl, h25, hb⟩
 have hs25 := szn_mul a.natAbs b.natAbs
 refine ⟨_, _, _, rfl, hb, (hM.call hb).add h25, ?_⟩
 refine GD.call (fun _ hM => made_ok hM.avlt (m1 != m2) (hM.f 0 rfl)) ?_
 rintro _ _ _ hM ⟨A26, n26, c26, m26, rfl, h26, hb⟩
 refine ⟨_, _, _, rfl, hb, (hM.call hb).add h26, ?_⟩
 refine GD.st (fun _ _ => Mem.st0) (fun _ hM => store_all (cs' := #[.slice A26 n26 c26, .bool m26]) siz28 (hM.b 0 rfl) (by kernel_rfl) (by kernel_rfl) rfl rfl rfl) ?_
 refine GD.k k1 ?_
 refine CG.ret (QG.ret (fun _ hM => results_one rfl (res_cell rfl (loadVar_agg agg28 siz28 (hM.b 0 rfl) rfl rfl))) ?_)
 intro _ hM
 exact ⟨_, _, _, _, rfl, (mk_mul (Zk.neg h1) (Zk.neg h2) ▸ (hM.out (hM.f 0 rfl))), hM.below⟩

set_option maxRecDepth 100000 in
set_option maxHeartbeats 400000 in
theorem Add_ok {w : World} {X : Nat → Prop} {A1 : Option Addr} {n1 : Nat} {c1 : Nat} {m1 : Bool} {a : Int} {A2 : Option Addr} {n2 : Nat} {c2 : Nat} {m2 : Bool} {b : Int} (hX : ∀ k, X k → k < w.heap.size) (h1 : Zk.R X w [.slice A1 n1 c1, .bool m1] a) (h2 : Zk.R X w [.slice A2 n2 c2, .bool m2] b) (p1 : sz a + sz b ≤ 1099511627776) :
    Calls Tryz.prog 37 #[.agg #[.slice A1 n1 c1, .bool m1], .agg #[.slice A2 n2 c2, .bool m2]] w (fun e w' => ∃ Ar nr cr mr, e = .returned (.agg #[.slice Ar nr cr, .bool mr]) ∧ Zk.R X w' [.slice Ar nr cr, .bool mr] (a + b) ∧ Below w.heap.size w w') := by
 have hM := ((Mem.start hX).add0 h1).add0 h2
 have e1 : sz a = szn (a).natAbs := rfl
 have e2 : sz b = szn (b).natAbs := rfl
 refine calls_of hM Tryz.func37 Tryz.ntmps37 ?_
 refine CG.seq fun K_ k1 => ?_
 refine CG.lin 3 ?_
 refine GL.bA #[.slice A1 n1 c1, .bool m1] fun g21 => ?_
 refine GL.bA #[.slice A2 n2 c2, .bool m2] fun g22 => ?_
 refine GL.aA zer28 fun g23 => ?_
 refine GL.k k1 ?_
 refine CG.seq fun K_ k1 => ?_
 refine CG.block ?_
 refine CG.seq fun K_ k2 => ?_
 refine CG.lin 6 ?_
 refine GL.v (.pointer (some ⟨g21, 1, none⟩)) ?_
 refine GL.r (.bool m1) (fun _ hM => op_load_one (off := 1) (by kernel_rfl) agg4 (hM.b 2 rfl) rfl) ?_
 refine GL.v (.pointer (some ⟨g22, 1, none⟩)) ?_
 refine GL.r (.bool m2) (fun _ hM => op_load_one (off := 1) (by kernel_rfl) agg4 (hM.b 1 rfl) rfl) ?_
 refine GL.v (.bool (m1 == m2)) ?_ (hr := fun _ => op_eql_bool (p := m1) (q := m2) (by kernel_rfl) (by kernel_rfl) (by kernel_rfl))
 refine GL.v (.bool (m1 == m2)) ?_
 refine GL.k k2 ?_
 by_cases hc24 : m1 = m2
 · have hk24 : (m1 == m2) = true := by simp [hc24]
   refine CG.yes ?_ hk24 rfl
   refine CG.seq fun K_ k2 => ?_
   refine CG.draw [] [0, 1, 2, 3, 4, 5] (.step 0 (.step 1 (.step 2 (.step 3 (.step 4 (.step 5 (.step 6 (.step 7 (.step 8 .done))))))))) (fun V hV25 => ?_)
   refine GD.ev (.pointer (some ⟨g21, 1, none⟩)) ?_
   refine GD.er (.bool m1) (fun _ hS => op_load_one (off := 1) (by kernel_rfl) agg4 (hV25.bS 2 rfl hS) rfl) ?_
   refine GD.ev (.pointer (some ⟨g21, 0, none⟩)) ?_
   refine GD.er (.agg #[.slice A1 n1 c1]) (fun _ hS => op_load_agg (off := 0) (by kernel_rfl) agg26 siz26 (hV25.bS 2 rfl hS) rfl rfl) ?_
   refine GD.ev (.pointer (some ⟨g22, 0, none⟩)) ?_
   refine GD.er (.agg #[.slice A2 n2 c2]) (fun _ hS => op_load_agg (off := 0) (by kernel_rfl) agg26 siz26 (hV25.bS 1 rfl hS) rfl rfl) ?_
   refine GD.call (fun _ hM => plus_add_ok hM.avlt (Zk.dig (hM.f 1 rfl)) (Zk.dig (hM.f 0 rfl)) (by first | assumption | omega)) ?_
   rintro _ _ _ hM ⟨A26, n26, c26, rfl, h26, hb⟩
   have hs26 := szn_add a.natAbs b.natAbs
   refine ⟨_, _, _, rfl, hb, (hM.call hb).add h26, ?_⟩
   refine GD.call (fun _ hM => made_ok hM.avlt m1 (hM.f 0 rfl)) ?_
   rintro _ _ _ hM ⟨A27, n27, c27, m27, rfl, h27, hb⟩
   refine ⟨_, _, _, rfl, hb, (hM.call hb).add h27, ?_⟩
   refine GD.st (fun _ _ => Mem.st0) (fun _ hM => store_all (cs' := #[.slice A27 n27 c27, .bool m27]) siz28 (hM.b 0 rfl) (by kernel_rfl) (by kernel_rfl) rfl rfl rfl) ?_
   refine GD.k k2 ?_
   refine CG.ret (QG.block_ret (QG.then_ret (QG.ret (fun _ hM => results_one rfl (res_cell rfl (loadVar_agg agg28 siz28 (hM.b 0 rfl) rfl rfl))) ?_)))
   intro _ hM
   exact ⟨_, _, _, _, rfl, (mk_add_same (Zk.neg h1) (Zk.neg h2) (by assumption) ▸ (hM.out (hM.f 0 rfl))), hM.below⟩
 · have hk24 : (m1 == m2) = false := by simp [hc24]
   refine CG.no ?_ hk24 rfl
   refine CG.seq fun K_ k2 => ?_
   refine CG.lin 7 ?_
   refine GL.v (.pointer (some ⟨g21, 0, none⟩)) ?_
   refine GL.r (.agg #[.slice A1 n1 c1]) (fun _ hM => op_load_agg (off := 0) (by kernel_rfl) agg26 siz26 (hM.b 2 rfl) rfl rfl) ?_
   refine GL.v (.pointer (some ⟨g22, 0, none⟩)) ?_
   refine GL.r (.agg #[.slice A2 n2 c2]) (fun _ hM => op_load_agg (off := 0) (by kernel_rfl) agg26 siz26 (hM.b 1 rfl) rfl rfl) ?_
   refine GL.call (fun _ hM => size_ok hM.avlt (Zk.dig (hM.f 1 rfl)) (Zk.dig (hM.f 0 rfl))) ?_
   rintro _ _ _ hM ⟨rfl, hb⟩
   refine ⟨_, _, _, rfl, hM.call hb, ?_⟩
   refine GL.v (.bool (decide ((cmpN a.natAbs b.natAbs) < (0 : Int)))) ?_
   refine GL.v (.bool (decide ((cmpN a.natAbs b.natAbs) < (0 : Int)))) ?_
   refine GL.k k2 ?_
   by_cases hc29 : a.natAbs < b.natAbs
   · have hk29 : (decide ((cmpN a.natAbs b.natAbs) < (0 : Int))) = true := decide_eq_true ((cmpN_lt _ _).2 hc29)
     refine CG.yes ?_ hk29 rfl
     refine CG.seq fun K_ k2 => ?_
     refine CG.draw [] [0, 1, 2, 3, 4, 5] (.step 0 (.step 1 (.step 2 (.step 3 (.step 4 (.step 5 (.step 6 (.step 7 (.step 8 .done))))))))) (fun V hV30 => ?_)
     refine GD.ev (.pointer (some ⟨g22, 1, none⟩)) ?_
     refine GD.er (.bool m2) (fun _ hS => op_load_one (off := 1) (by kernel_rfl) agg4 (hV30.bS 1 rfl hS) rfl) ?_
     refine GD.ev (.pointer (some ⟨g22, 0, none⟩)) ?_
     refine GD.er (.agg #[.slice A2 n2 c2]) (fun _ hS => op_load_agg (off := 0) (by kernel_rfl) agg26 siz26 (hV30.bS 1 rfl hS) rfl rfl) ?_
     refine GD.ev (.pointer (some ⟨g21, 0, none⟩)) ?_
     refine GD.er (.agg #[.slice A1 n1 c1]) (fun _ hS => op_load_agg (off := 0) (by kernel_rfl) agg26 siz26 (hV30.bS 2 rfl hS) rfl rfl) ?_
     refine GD.call (fun _ hM => plus_sub_ok hM.avlt (Zk.dig (hM.f 0 rfl)) (Zk.dig (hM.f 1 rfl)) (by first | assumption | omega) (by first | assumption | omega) (by first | assumption | omega)) ?_
     rintro _ _ _ hM ⟨A31, n31, c31, rfl, h31, hb⟩
     have hs31 := szn_sub b.natAbs a.natAbs
     refine ⟨_, _, _, rfl, hb, (hM.call hb).add h31, ?_⟩
     refine GD.call (fun _ hM => made_ok hM.avlt m2 (hM.f 0 rfl)) ?_
     rintro _ _ _ hM ⟨A32, n32, c32, m32, rfl, h32, hb⟩
     refine ⟨_, _, _, rfl, hb, (hM.call hb).add h32, ?_⟩
     refine GD.st (fun _ _ => Mem.st0) (fun _ hM => store_all (cs' := #[.slice A32 n32 c32, .bool m32]) siz28 (hM.b 0 rfl) (by kernel_rfl) (by kernel_rfl) rfl rfl rfl) ?_
     refine GD.k k2 ?_
     refine CG.ret (QG.block_ret (QG.then_ret (QG.ret (fun _ hM => results_one rfl (res_cell rfl (loadVar_agg agg28 siz28 (hM.b 0 rfl) rfl rfl))) ?_)))
     intro _ hM
     exact ⟨_, _, _, _, rfl, (mk_add_lt (Zk.neg h1) (Zk.neg h2) (by assumption) (by assumption) ▸ (hM.out (hM.f 0 rfl))), hM.below⟩
   · have hk29 : (decide ((cmpN a.natAbs b.natAbs) < (0 : Int))) = false := decide_eq_false (fun h => hc29 ((cmpN_lt _ _).1 h))
     refine CG.no ?_ hk29 rfl
     refine CG.skip ?_
     refine QG.block ?_
     refine QG.k k1 ?_
     refine CG.seq fun K_ k1 => ?_
     refine CG.draw [] [0, 1, 2, 3, 4, 5] (.step 0 (.step 1 (.step 2 (.step 3 (.step 4 (.step 5 (.step 6 (.step 7 (.step 8 .done))))))))) (fun V hV33 => ?_)
     refine GD.ev (.pointer (some ⟨g21, 1, none⟩)) ?_
     refine GD.er (.bool m1) (fun _ hS => op_load_one (off := 1) (by kernel_rfl) agg4 (hV33.bS 2 rfl hS) rfl) ?_
     refine GD.ev (.pointer (some ⟨g21, 0, none⟩)) ?_
     refine GD.er (.agg #[.slice A1 n1 c1]) (fun _ hS => op_load_agg (off := 0) (by kernel_rfl) agg26 siz26 (hV33.bS 2 rfl hS) rfl rfl) ?_
     refine GD.ev (.pointer (some ⟨g22, 0, none⟩)) ?_
     refine GD.er (.agg #[.slice A2 n2 c2]) (fun _ hS => op_load_agg (off := 0) (by kernel_rfl) agg26 siz26 (hV33.bS 1 rfl hS) rfl rfl) ?_
     refine GD.call (fun _ hM => plus_sub_ok hM.avlt (Zk.dig (hM.f 1 rfl)) (Zk.dig (hM.f 0 rfl)) (by first | assumption | omega) (by first | assumption | omega) (by first | assumption | omega)) ?_
     rintro _ _ _ hM ⟨A34, n34, c34, rfl, h34, hb⟩
     have hs34 := szn_sub a.natAbs b.natAbs
     refine ⟨_, _, _, rfl, hb, (hM.call hb).add h34, ?_⟩
     refine GD.call (fun _ hM => made_ok hM.avlt m1 (hM.f 0 rfl)) ?_
     rintro _ _ _ hM ⟨A35, n35, c35, m35, rfl, h35, hb⟩
     refine ⟨_, _, _, rfl, hb, (hM.call hb).add h35, ?_⟩
     refine GD.st (fun _ _ => Mem.st0) (fun _ hM => store_all (cs' := #[.slice A35 n35 c35, .bool m35]) siz28 (hM.b 0 rfl) (by kernel_rfl) (by kernel_rfl) rfl rfl rfl) ?_
     refine GD.k k1 ?_
     refine CG.ret (QG.ret (fun _ hM => results_one rfl (res_cell rfl (loadVar_agg agg28 siz28 (hM.b 0 rfl) rfl rfl))) ?_)
     intro _ hM
     exact ⟨_, _, _, _, rfl, (mk_add_ge (Zk.neg h1) (Zk.neg h2) (by assumption) (by assumption) ▸ (hM.out (hM.f 0 rfl))), hM.below⟩

set_option maxRecDepth 100000 in
set_option maxHeartbeats 400000 in
theorem Sub_ok {w : World} {X : Nat → Prop} {A1 : Option Addr} {n1 : Nat} {c1 : Nat} {m1 : Bool} {a : Int} {A2 : Option Addr} {n2 : Nat} {c2 : Nat} {m2 : Bool} {b : Int} (hX : ∀ k, X k → k < w.heap.size) (h1 : Zk.R X w [.slice A1 n1 c1, .bool m1] a) (h2 : Zk.R X w [.slice A2 n2 c2, .bool m2] b) (p1 : sz a + sz b ≤ 1099511627776) :
    Calls Tryz.prog 39 #[.agg #[.slice A1 n1 c1, .bool m1], .agg #[.slice A2 n2 c2, .bool m2]] w (fun e w' => ∃ Ar nr cr mr, e = .returned (.agg #[.slice Ar nr cr, .bool mr]) ∧ Zk.R X w' [.slice Ar nr cr, .bool mr] (a - b) ∧ Below w.heap.size w w') := by
 have hM := ((Mem.start hX).add0 h1).add0 h2
 have e1 : sz a = szn (a).natAbs := rfl
 have e2 : sz b = szn (b).natAbs := rfl
 refine calls_of hM Tryz.func39 Tryz.ntmps39 ?_
 refine CG.seq fun K_ k1 => ?_
 refine CG.lin 3 ?_
 refine GL.bA #[.slice A1 n1 c1, .bool m1] fun g21 => ?_
 refine GL.bA #[.slice A2 n2 c2, .bool m2] fun g22 => ?_
 refine GL.aA zer28 fun g23 => ?_
 refine GL.k k1 ?_
 refine CG.seq fun K_ k1 => ?_
 refine CG.draw [] [0, 1] (.step 0 (.step 1 (.step 2 (.step 3 (.step 4 .done))))) (fun V hV24 => ?_)
 refine GD.er (.agg #[.slice A1 n1 c1, .bool m1]) (fun _ hS => op_load_agg (off := 0) (by kernel_rfl) agg28 siz28 (hV24.bS 2 rfl hS) rfl rfl) ?_
 refine GD.er (.agg #[.slice A2 n2 c2, .bool m2]) (fun _ hS => op_load_agg (off := 0) (by kernel_rfl) agg28 siz28 (hV24.bS 1 rfl hS) rfl rfl) ?_
 refine GD.call (fun _ hM => Neg_ok hM.avlt (hM.f 0 rfl)) ?_
 rintro _ _ _ hM ⟨A25, n25, c25, m25, rfl, h25, hb⟩
 have hs25 := sz_neg b
 refine ⟨_, _, _, rfl, hb, (hM.call hb).add h25, ?_⟩
 refine GD.call (fun _ hM => Add_ok hM.avlt (hM.f 2 rfl) (hM.f 0 rfl) (by rw [sz_neg]; assumption)) ?_
 rintro _ _ _ hM ⟨A26, n26, c26, m26, rfl, h26, hb⟩
 have hs26 := sz_add a (-b)
 refine ⟨_, _, _, rfl, hb, (hM.call hb).add h26, ?_⟩
 refine GD.st (fun _ _ => Mem.st0) (fun _ hM => store_all (cs' := #[.slice A26 n26 c26, .bool m26]) siz28 (hM.b 0 rfl) (by kernel_rfl) (by kernel_rfl) rfl rfl rfl) ?_
 refine GD.k k1 ?_
 refine CG.ret (QG.ret (fun _ hM => results_one rfl (res_cell rfl (loadVar_agg agg28 siz28 (hM.b 0 rfl) rfl rfl))) ?_)
 intro _ hM
 exact ⟨_, _, _, _, rfl, (Int.sub_eq_add_neg ▸ (hM.out (hM.f 0 rfl))), hM.below⟩

set_option maxRecDepth 100000 in
set_option maxHeartbeats 400000 in
theorem Sign_ok {w : World} {X : Nat → Prop} {A1 : Option Addr} {n1 : Nat} {c1 : Nat} {m1 : Bool} {a : Int} (hX : ∀ k, X k → k < w.heap.size) (h1 : Zk.R X w [.slice A1 n1 c1, .bool m1] a) :
    Calls Tryz.prog 18 #[.agg #[.slice A1 n1 c1, .bool m1]] w (fun e w' => e = .returned (.int .i64 a.sign) ∧ Below w.heap.size w w') := by
 have hM := (Mem.start hX).add0 h1
 have e1 : sz a = szn (a).natAbs := rfl
 refine calls_of hM Tryz.func18 Tryz.ntmps18 ?_
 refine CG.seq fun K_ k1 => ?_
 refine CG.lin 2 ?_
 refine GL.bA #[.slice A1 n1 c1, .bool m1] fun g21 => ?_
 refine GL.v (.int .i64 0) ?_
 refine GL.k k1 ?_
 refine CG.seq fun K_ k1 => ?_
 refine CG.block ?_
 refine CG.seq fun K_ k2 => ?_
 refine CG.lin 4 ?_
 refine GL.v (.pointer (some ⟨g21, 0, none⟩)) ?_
 refine GL.r (.agg #[.slice A1 n1 c1]) (fun _ hM => op_load_agg (off := 0) (by kernel_rfl) agg26 siz26 (hM.b 0 rfl) rfl rfl) ?_
 refine GL.call (fun _ hM => none_ok hM.avlt (Zk.dig (hM.f 0 rfl))) ?_
 rintro _ _ _ hM ⟨rfl, hb⟩
 refine ⟨_, _, _, rfl, hM.call hb, ?_⟩
 refine GL.v (.bool (decide (a.natAbs = 0))) ?_
 refine GL.k k2 ?_
 by_cases hc23 : a.natAbs = 0
 · have hk23 : (decide (a.natAbs = 0)) = true := decide_eq_true hc23
   refine CG.yes ?_ hk23 rfl
   refine CG.seq fun K_ k2 => ?_
   refine CG.lin 1 ?_
   refine GL.v (.int .i64 0) ?_
   refine GL.k k2 ?_
   refine CG.ret (QG.block_ret (QG.then_ret (QG.ret (fun _ hM => results_one rfl (res_tmp rfl)) ?_)))
   intro _ hM
   exact ⟨(by rw [show a = 0 by omega]; rfl), hM.below⟩
 · have hk23 : (decide (a.natAbs = 0)) = false := decide_eq_false hc23
   refine CG.no ?_ hk23 rfl
   refine CG.seq fun K_ k2 => ?_
   refine CG.lin 3 ?_
   refine GL.v (.pointer (some ⟨g21, 1, none⟩)) ?_
   refine GL.r (.bool m1) (fun _ hM => op_load_one (off := 1) (by kernel_rfl) agg4 (hM.b 0 rfl) rfl) ?_
   refine GL.v (.bool m1) ?_
   refine GL.k k2 ?_
   by_cases hc24 : m1 = true
   · have hk24 : (m1) = true := hc24
     refine CG.yes ?_ hk24 rfl
     refine CG.seq fun K_ k2 => ?_
     refine CG.lin 1 ?_
     refine GL.v (.int .i64 (-1)) ?_
     refine GL.k k2 ?_
     refine CG.ret (QG.block_ret (QG.then_ret (QG.ret (fun _ hM => results_one rfl (res_tmp rfl)) ?_)))
     intro _ hM
     exact ⟨(ret_int (sign_neg_of (Zk.neg h1) (by assumption))), hM.below⟩
   · have hk24 : (m1) = false := by simpa using hc24
     refine CG.no ?_ hk24 rfl
     refine CG.skip ?_
     refine QG.block ?_
     refine QG.k k1 ?_
     refine CG.seq fun K_ k1 => ?_
     refine CG.lin 1 ?_
     refine GL.v (.int .i64 1) ?_
     refine GL.k k1 ?_
     refine CG.ret (QG.ret (fun _ hM => results_one rfl (res_tmp rfl)) ?_)
     intro _ hM
     exact ⟨(ret_int (sign_pos_of (Zk.neg h1) (by simpa using (show ¬ m1 = true from by assumption)) (by assumption))), hM.below⟩

set_option maxRecDepth 100000 in
set_option maxHeartbeats 400000 in
theorem Cmp_ok {w : World} {X : Nat → Prop} {A1 : Option Addr} {n1 : Nat} {c1 : Nat} {m1 : Bool} {a : Int} {A2 : Option Addr} {n2 : Nat} {c2 : Nat} {m2 : Bool} {b : Int} (hX : ∀ k, X k → k < w.heap.size) (h1 : Zk.R X w [.slice A1 n1 c1, .bool m1] a) (h2 : Zk.R X w [.slice A2 n2 c2, .bool m2] b) (p1 : sz a + sz b ≤ 1099511627776) :
    Calls Tryz.prog 31 #[.agg #[.slice A1 n1 c1, .bool m1], .agg #[.slice A2 n2 c2, .bool m2]] w (fun e w' => e = .returned (.int .i64 ((a - b).sign)) ∧ Below w.heap.size w w') := by
 have hM := ((Mem.start hX).add0 h1).add0 h2
 have e1 : sz a = szn (a).natAbs := rfl
 have e2 : sz b = szn (b).natAbs := rfl
 refine calls_of hM Tryz.func31 Tryz.ntmps31 ?_
 refine CG.seq fun K_ k1 => ?_
 refine CG.lin 3 ?_
 refine GL.bA #[.slice A1 n1 c1, .bool m1] fun g21 => ?_
 refine GL.bA #[.slice A2 n2 c2, .bool m2] fun g22 => ?_
 refine GL.v (.int .i64 0) ?_
 refine GL.k k1 ?_
 refine CG.seq fun K_ k1 => ?_
 refine CG.lin 5 ?_
 refine GL.r (.agg #[.slice A1 n1 c1, .bool m1]) (fun _ hM => op_load_agg (off := 0) (by kernel_rfl) agg28 siz28 (hM.b 1 rfl) rfl rfl) ?_
 refine GL.r (.agg #[.slice A2 n2 c2, .bool m2]) (fun _ hM => op_load_agg (off := 0) (by kernel_rfl) agg28 siz28 (hM.b 0 rfl) rfl rfl) ?_
 refine GL.call (fun _ hM => Sub_ok hM.avlt (hM.f 1 rfl) (hM.f 0 rfl) (by first | assumption | omega)) ?_
 rintro _ _ _ hM ⟨A23, n23, c23, m23, rfl, h23, hb⟩
 have hs23 := sz_sub a b
 refine ⟨_, _, _, rfl, (hM.call hb).add h23, ?_⟩
 refine GL.call (fun _ hM => Sign_ok hM.avlt (hM.f 0 rfl)) ?_
 rintro _ _ _ hM ⟨rfl, hb⟩
 refine ⟨_, _, _, rfl, hM.call hb, ?_⟩
 refine GL.v (.int .i64 ((a - b).sign)) ?_
 refine GL.k k1 ?_
 refine CG.ret (QG.ret (fun _ hM => results_one rfl (res_tmp rfl)) ?_)
 intro _ hM
 exact ⟨rfl, hM.below⟩

set_option maxRecDepth 100000 in
set_option maxHeartbeats 400000 in
theorem Quotient_ok {w : World} {X : Nat → Prop} {A1 : Option Addr} {n1 : Nat} {c1 : Nat} {m1 : Bool} {a : Int} {A2 : Option Addr} {n2 : Nat} {c2 : Nat} {m2 : Bool} {d : Int} (hX : ∀ k, X k → k < w.heap.size) (h1 : Zk.R X w [.slice A1 n1 c1, .bool m1] a) (h2 : Zk.R X w [.slice A2 n2 c2, .bool m2] d) (p1 : d ≠ 0) (p2 : sz a + sz d ≤ 549755813888) :
    Calls Tryz.prog 17 #[.agg #[.slice A1 n1 c1, .bool m1], .agg #[.slice A2 n2 c2, .bool m2]] w (fun e w' => ∃ Ar1 nr1 cr1 mr1 Ar2 nr2 cr2 mr2, e = .returned (.tuple #[.agg #[.slice Ar1 nr1 cr1, .bool mr1], .agg #[.slice Ar2 nr2 cr2, .bool mr2], .int .i64 0]) ∧ Zk.R X w' [.slice Ar1 nr1 cr1, .bool mr1] (a / d) ∧ Zk.R X w' [.slice Ar2 nr2 cr2, .bool mr2] (a % d) ∧ Below w.heap.size w w') := by
 have q1 : szn a.natAbs + szn d.natAbs ≤ 549755813888 := p2
 have q2 := szn_div a.natAbs d.natAbs
 have q3 := szn_mod a.natAbs d.natAbs
 have q4 : sz 1 ≤ 1 := szn_one
 have q5 := sz_mk m1 (a.natAbs / d.natAbs)
 have q6 := sz_mk false (a.natAbs % d.natAbs)
 have q7 := sz_abs d
 have q8 : sz d = szn d.natAbs := rfl
 have q9 : sz a = szn a.natAbs := rfl
 have hM := ((Mem.start hX).add0 h1).add0 h2
 have e1 : sz a = szn (a).natAbs := rfl
 have e2 : sz d = szn (d).natAbs := rfl
 refine calls_of hM Tryz.func17 Tryz.ntmps17 ?_
 refine CG.seq fun K_ k1 => ?_
 refine CG.lin 5 ?_
 refine GL.bA #[.slice A1 n1 c1, .bool m1] fun g21 => ?_
 refine GL.bA #[.slice A2 n2 c2, .bool m2] fun g22 => ?_
 refine GL.aA zer28 fun g23 => ?_
 refine GL.aA zer28 fun g24 => ?_
 refine GL.v (.int .i64 0) ?_
 refine GL.k k1 ?_
 refine CG.seq fun K_ k1 => ?_
 refine CG.seq fun K_ k2 => ?_
 refine CG.lin 3 ?_
 refine GL.v (.pointer (some ⟨g22, 0, none⟩)) ?_
 refine GL.r (.agg #[.slice A2 n2 c2]) (fun _ hM => op_load_agg (off := 0) (by kernel_rfl) agg26 siz26 (hM.b 2 rfl) rfl rfl) ?_
 refine GL.call (fun _ hM => none_ok hM.avlt (Zk.dig (hM.f 0 rfl))) ?_
 rintro _ _ _ hM ⟨rfl, hb⟩
 refine ⟨.bool false, _, _, (ret_bool (decide_eq_false (by omega))), hM.call hb, ?_⟩
 refine GL.k k2 ?_
 refine CG.no ?_ rfl rfl
 refine CG.skip ?_
 refine QG.k k1 ?_
 refine CG.seq fun K_ k1 => ?_
 refine CG.lin 12 ?_
 refine GL.v (.pointer (some ⟨g21, 0, none⟩)) ?_
 refine GL.r (.agg #[.slice A1 n1 c1]) (fun _ hM => op_load_agg (off := 0) (by kernel_rfl) agg26 siz26 (hM.b 3 rfl) rfl rfl) ?_
 refine GL.v (.pointer (some ⟨g22, 0, none⟩)) ?_
 refine GL.r (.agg #[.slice A2 n2 c2]) (fun _ hM => op_load_agg (off := 0) (by kernel_rfl) agg26 siz26 (hM.b 2 rfl) rfl rfl) ?_
 refine GL.call (fun _ hM => over_ok hM.avlt (Zk.dig (hM.f 1 rfl)) (Zk.dig (hM.f 0 rfl)) (by first | assumption | omega) (by first | assumption | omega)) ?_
 rintro _ _ _ hM ⟨A26a, n26a, c26a, A26b, n26b, c26b, rfl, h26a, h26b, hb⟩
 have hs26 := szn_div a.natAbs d.natAbs
 have ht26 := szn_mod a.natAbs d.natAbs
 refine ⟨_, _, _, rfl, ((hM.call hb).add h26a).add h26b, ?_⟩
 refine GL.v (.tuple #[.agg #[.slice A26a n26a c26a], .agg #[.slice A26b n26b c26b]]) ?_
 refine GL.v (.agg #[.slice A26a n26a c26a]) ?_
 refine GL.v (.agg #[.slice A26b n26b c26b]) ?_
 refine GL.aA zer26 fun g27 => ?_
 refine GL.aA zer26 fun g28 => ?_
 refine GL.sA (cs' := #[.slice A26a n26a c26a]) (fun _ _ => Mem.st1) (fun _ hM => hM.b 1 rfl) siz26 ?_
 refine GL.sA (cs' := #[.slice A26b n26b c26b]) (fun _ _ => Mem.st0) (fun _ hM => hM.b 0 rfl) siz26 ?_
 refine GL.k k1 ?_
 refine CG.seq fun K_ k1 => ?_
 refine CG.draw [] [0, 1, 2, 4] (.step 0 (.step 1 (.step 2 (.step 4 (.step 3 (.step 5 (.step 6 (.step 7 .done)))))))) (fun V hV29 => ?_)
 refine GD.ev (.pointer (some ⟨g21, 1, none⟩)) ?_
 refine GD.er (.bool m1) (fun _ hS => op_load_one (off := 1) (by kernel_rfl) agg4 (hV29.bS 5 rfl hS) rfl) ?_
 refine GD.er (.agg #[.slice A26a n26a c26a]) (fun _ hS => op_load_agg (off := 0) (by kernel_rfl) agg26 siz26 (hV29.bS 1 rfl hS) rfl rfl) ?_
 refine GD.er (.agg #[.slice A26b n26b c26b]) (fun _ hS => op_load_agg (off := 0) (by kernel_rfl) agg26 siz26 (hV29.bS 0 rfl hS) rfl rfl) ?_
 refine GD.call (fun _ hM => made_ok hM.avlt m1 (hM.f 1 rfl)) ?_
 rintro _ _ _ hM ⟨A30, n30, c30, m30, rfl, h30, hb⟩
 refine ⟨_, _, _, rfl, hb, (hM.call hb).add h30, ?_⟩
 refine GD.call (fun _ hM => made_ok hM.avlt false (hM.f 1 rfl)) ?_
 rintro _ _ _ hM ⟨A31, n31, c31, m31, rfl, h31, hb⟩
 refine ⟨_, _, _, rfl, hb, (hM.call hb).add h31, ?_⟩
 refine GD.st (fun _ _ => Mem.st3) (fun _ hM => store_all (cs' := #[.slice A30 n30 c30, .bool m30]) siz28 (hM.b 3 rfl) (by kernel_rfl) (by kernel_rfl) rfl rfl rfl) ?_
 refine GD.st (fun _ _ => Mem.st2) (fun _ hM => store_all (cs' := #[.slice A31 n31 c31, .bool m31]) siz28 (hM.b 2 rfl) (by kernel_rfl) (by kernel_rfl) rfl rfl rfl) ?_
 refine GD.k k1 ?_
 refine CG.seq fun K_ k1 => ?_
 refine CG.seq fun K_ k2 => ?_
 by_cases hc32 : m1 = true
 · have hk32 : (m1) = true := hc32
   refine CG.lin 7 ?_
   refine GL.v (.pointer (some ⟨g21, 1, none⟩)) ?_
   refine GL.r (.bool true) (fun _ hM => op_load_one (off := 1) (by kernel_rfl) agg4 (hM.b 5 rfl) (by rw [hk32]; rfl)) ?_
   refine GL.v (.bool true) ?_
   refine GL.r (.agg #[.slice A26b n26b c26b]) (fun _ hM => op_load_agg (off := 0) (by kernel_rfl) agg26 siz26 (hM.b 0 rfl) rfl rfl) ?_
   refine GL.call (fun _ hM => none_ok hM.avlt (hM.f 2 rfl)) ?_
   rintro _ _ _ hM ⟨rfl, hb⟩
   refine ⟨_, _, _, rfl, hM.call hb, ?_⟩
   refine GL.v (.bool (!(decide ((a.natAbs % d.natAbs) = 0)))) ?_
   refine GL.v (.bool (!(decide ((a.natAbs % d.natAbs) = 0)))) ?_
   refine GL.k k2 ?_
   by_cases hc34 : ¬ (a.natAbs % d.natAbs) = 0
   · have hk34 : (!(decide ((a.natAbs % d.natAbs) = 0))) = true := by simpa using hc34
     refine CG.yes ?_ hk34 rfl
     refine CG.draw [] [0, 3, 5] (.step 0 (.step 3 (.step 5 (.step 1 (.step 2 (.step 4 (.step 6 (.step 7 (.step 8 .done))))))))) (fun V hV35 => ?_)
     refine GD.er (.agg #[.slice A30 n30 c30, .bool m30]) (fun _ hS => op_load_agg (off := 0) (by kernel_rfl) agg28 siz28 (hV35.bS 3 rfl hS) rfl rfl) ?_
     refine GD.er (.agg #[.slice A2 n2 c2, .bool m2]) (fun _ hS => op_load_agg (off := 0) (by kernel_rfl) agg28 siz28 (hV35.bS 4 rfl hS) rfl rfl) ?_
     refine GD.er (.agg #[.slice A31 n31 c31, .bool m31]) (fun _ hS => op_load_agg (off := 0) (by kernel_rfl) agg28 siz28 (hV35.bS 2 rfl hS) rfl rfl) ?_
     refine GD.call (fun _ hM => Int_ok hM.avlt (1) (by first | assumption | omega)) ?_
     rintro _ _ _ hM ⟨A36, n36, c36, m36, rfl, h36, hb⟩
     have hs36 := sz_i64 (1) (by omega)
     refine ⟨_, _, _, rfl, hb, (hM.call hb).add h36, ?_⟩
     refine GD.call (fun _ hM => Sub_ok hM.avlt (hM.f 2 rfl) (hM.f 0 rfl) (by first | assumption | omega)) ?_
     rintro _ _ _ hM ⟨A37, n37, c37, m37, rfl, h37, hb⟩
     have hs37 := sz_sub ((mk m1 (a.natAbs / d.natAbs))) (1)
     refine ⟨_, _, _, rfl, hb, (hM.call hb).add h37, ?_⟩
     refine GD.call (fun _ hM => Abs_ok hM.avlt (hM.f 6 rfl)) ?_
     rintro _ _ _ hM ⟨A38, n38, c38, m38, rfl, h38, hb⟩
     have hs38 := sz_abs d
     refine ⟨_, _, _, rfl, hb, (hM.call hb).add h38, ?_⟩
     refine GD.call (fun _ hM => Sub_ok hM.avlt (hM.f 0 rfl) (hM.f 3 rfl) (by first | assumption | omega)) ?_
     rintro _ _ _ hM ⟨A39, n39, c39, m39, rfl, h39, hb⟩
     have hs39 := sz_sub (d.natAbs : Int) ((mk false (a.natAbs % d.natAbs)))
     refine ⟨_, _, _, rfl, hb, (hM.call hb).add h39, ?_⟩
     refine GD.st (fun _ _ => Mem.st3) (fun _ hM => store_all (cs' := #[.slice A37 n37 c37, .bool m37]) siz28 (hM.b 3 rfl) (by kernel_rfl) (by kernel_rfl) rfl rfl rfl) ?_
     refine GD.st (fun _ _ => Mem.st2) (fun _ hM => store_all (cs' := #[.slice A39 n39 c39, .bool m39]) siz28 (hM.b 2 rfl) (by kernel_rfl) (by kernel_rfl) rfl rfl rfl) ?_
     refine GD.k k1 ?_
     refine CG.seq fun K_ k1 => ?_
     refine CG.seq fun K_ k2 => ?_
     by_cases hc40 : m2 = true
     · have hk40 : (m2) = true := hc40
       refine CG.lin 2 ?_
       refine GL.v (.pointer (some ⟨g22, 1, none⟩)) ?_
       refine GL.r (.bool true) (fun _ hM => op_load_one (off := 1) (by kernel_rfl) agg4 (hM.b 4 rfl) (by rw [hk40]; rfl)) ?_
       refine GL.k k2 ?_
       refine CG.yes ?_ rfl rfl
       refine CG.lin 3 ?_
       refine GL.r (.agg #[.slice A37 n37 c37, .bool m37]) (fun _ hM => op_load_agg (off := 0) (by kernel_rfl) agg28 siz28 (hM.b 3 rfl) rfl rfl) ?_
       refine GL.call (fun _ hM => Neg_ok hM.avlt (hM.f 2 rfl)) ?_
       rintro _ _ _ hM ⟨A41, n41, c41, m41, rfl, h41, hb⟩
       have hs41 := sz_neg (((mk m1 (a.natAbs / d.natAbs)) - 1))
       refine ⟨_, _, _, rfl, (hM.call hb).add h41, ?_⟩
       refine GL.sA (cs' := #[.slice A41 n41 c41, .bool m41]) (fun _ _ => Mem.st3) (fun _ hM => hM.b 3 rfl) siz28 ?_
       refine GL.k k1 ?_
       refine CG.seq fun K_ k1 => ?_
       refine CG.draw [g23] [1] (.step 1 (.step 0 (.step 2 (.step 3 (.step 4 .done))))) (fun V hV42 => ?_)
       refine GD.er (.agg #[.slice A39 n39 c39, .bool m39]) (fun _ hS => op_load_agg (off := 0) (by kernel_rfl) agg28 siz28 (hV42.bS 2 rfl hS (by simp only [List.mem_cons, List.not_mem_nil, or_false, not_or]; exact hV42.ne 2 3 rfl rfl (by decide))) rfl rfl) ?_
       refine GD.r (.agg #[.slice A41 n41 c41, .bool m41]) (fun _ hM => op_load_agg (off := 0) (by kernel_rfl) agg28 siz28 (hM.b 3 rfl) rfl rfl) ?_
       refine GD.st (fun _ _ => Mem.st3) (fun _ hM => store_all (cs' := #[.slice A41 n41 c41, .bool m41]) siz28 (hM.b 3 rfl) (by kernel_rfl) (by kernel_rfl) rfl rfl rfl) ?_
       refine GD.st (fun _ _ => Mem.st2) (fun _ hM => store_all (cs' := #[.slice A39 n39 c39, .bool m39]) siz28 (hM.b 2 rfl) (by kernel_rfl) (by kernel_rfl) rfl rfl rfl) ?_
       refine GD.v (.int .i64 0) ?_
       refine GD.k k1 ?_
       refine CG.ret (QG.ret (fun _ hM => results_three rfl (res_cell rfl (loadVar_agg agg28 siz28 (hM.b 3 rfl) rfl rfl)) (res_cell rfl (loadVar_agg agg28 siz28 (hM.b 2 rfl) rfl rfl)) (res_tmp rfl)) ?_)
       intro _ hM
       exact ⟨_, _, _, _, _, _, _, _, rfl, ((quoN (Zk.neg h2) hc40 (quoA (Zk.neg h1) p1 hc32 hc34).1) ▸ (hM.out (hM.f 0 rfl))), ((quoA (Zk.neg h1) p1 hc32 hc34).2 ▸ (hM.out (hM.f 1 rfl))), hM.below⟩
     · have hk40 : (m2) = false := by simpa using hc40
       refine CG.lin 2 ?_
       refine GL.v (.pointer (some ⟨g22, 1, none⟩)) ?_
       refine GL.r (.bool false) (fun _ hM => op_load_one (off := 1) (by kernel_rfl) agg4 (hM.b 4 rfl) (by rw [hk40]; rfl)) ?_
       refine GL.k k2 ?_
       refine CG.no ?_ rfl rfl
       refine CG.skip ?_
       refine QG.k k1 ?_
       refine CG.seq fun K_ k1 => ?_
       refine CG.draw [g23] [1] (.step 1 (.step 0 (.step 2 (.step 3 (.step 4 .done))))) (fun V hV43 => ?_)
       refine GD.er (.agg #[.slice A39 n39 c39, .bool m39]) (fun _ hS => op_load_agg (off := 0) (by kernel_rfl) agg28 siz28 (hV43.bS 2 rfl hS (by simp only [List.mem_cons, List.not_mem_nil, or_false, not_or]; exact hV43.ne 2 3 rfl rfl (by decide))) rfl rfl) ?_
       refine GD.r (.agg #[.slice A37 n37 c37, .bool m37]) (fun _ hM => op_load_agg (off := 0) (by kernel_rfl) agg28 siz28 (hM.b 3 rfl) rfl rfl) ?_
       refine GD.st (fun _ _ => Mem.st3) (fun _ hM => store_all (cs' := #[.slice A37 n37 c37, .bool m37]) siz28 (hM.b 3 rfl) (by kernel_rfl) (by kernel_rfl) rfl rfl rfl) ?_
       refine GD.st (fun _ _ => Mem.st2) (fun _ hM => store_all (cs' := #[.slice A39 n39 c39, .bool m39]) siz28 (hM.b 2 rfl) (by kernel_rfl) (by kernel_rfl) rfl rfl rfl) ?_
       refine GD.v (.int .i64 0) ?_
       refine GD.k k1 ?_
       refine CG.ret (QG.ret (fun _ hM => results_three rfl (res_cell rfl (loadVar_agg agg28 siz28 (hM.b 3 rfl) rfl rfl)) (res_cell rfl (loadVar_agg agg28 siz28 (hM.b 2 rfl) rfl rfl)) (res_tmp rfl)) ?_)
       intro _ hM
       exact ⟨_, _, _, _, _, _, _, _, rfl, ((quoP (Zk.neg h2) hc40 (quoA (Zk.neg h1) p1 hc32 hc34).1) ▸ (hM.out (hM.f 2 rfl))), ((quoA (Zk.neg h1) p1 hc32 hc34).2 ▸ (hM.out (hM.f 0 rfl))), hM.below⟩
   · have hk34 : (!(decide ((a.natAbs % d.natAbs) = 0))) = false := by simpa using hc34
     refine CG.no ?_ hk34 rfl
     refine CG.skip ?_
     refine QG.k k1 ?_
     refine CG.seq fun K_ k1 => ?_
     refine CG.seq fun K_ k2 => ?_
     by_cases hc44 : m2 = true
     · have hk44 : (m2) = true := hc44
       refine CG.lin 2 ?_
       refine GL.v (.pointer (some ⟨g22, 1, none⟩)) ?_
       refine GL.r (.bool true) (fun _ hM => op_load_one (off := 1) (by kernel_rfl) agg4 (hM.b 4 rfl) (by rw [hk44]; rfl)) ?_
       refine GL.k k2 ?_
       refine CG.yes ?_ rfl rfl
       refine CG.lin 3 ?_
       refine GL.r (.agg #[.slice A30 n30 c30, .bool m30]) (fun _ hM => op_load_agg (off := 0) (by kernel_rfl) agg28 siz28 (hM.b 3 rfl) rfl rfl) ?_
       refine GL.call (fun _ hM => Neg_ok hM.avlt (hM.f 1 rfl)) ?_
       rintro _ _ _ hM ⟨A45, n45, c45, m45, rfl, h45, hb⟩
       have hs45 := sz_neg ((mk m1 (a.natAbs / d.natAbs)))
       refine ⟨_, _, _, rfl, (hM.call hb).add h45, ?_⟩
       refine GL.sA (cs' := #[.slice A45 n45 c45, .bool m45]) (fun _ _ => Mem.st3) (fun _ hM => hM.b 3 rfl) siz28 ?_
       refine GL.k k1 ?_
       refine CG.seq fun K_ k1 => ?_
       refine CG.draw [g23] [1] (.step 1 (.step 0 (.step 2 (.step 3 (.step 4 .done))))) (fun V hV46 => ?_)
       refine GD.er (.agg #[.slice A31 n31 c31, .bool m31]) (fun _ hS => op_load_agg (off := 0) (by kernel_rfl) agg28 siz28 (hV46.bS 2 rfl hS (by simp only [List.mem_cons, List.not_mem_nil, or_false, not_or]; exact hV46.ne 2 3 rfl rfl (by decide))) rfl rfl) ?_
       refine GD.r (.agg #[.slice A45 n45 c45, .bool m45]) (fun _ hM => op_load_agg (off := 0) (by kernel_rfl) agg28 siz28 (hM.b 3 rfl) rfl rfl) ?_
       refine GD.st (fun _ _ => Mem.st3) (fun _ hM => store_all (cs' := #[.slice A45 n45 c45, .bool m45]) siz28 (hM.b 3 rfl) (by kernel_rfl) (by kernel_rfl) rfl rfl rfl) ?_
       refine GD.st (fun _ _ => Mem.st2) (fun _ hM => store_all (cs' := #[.slice A31 n31 c31, .bool m31]) siz28 (hM.b 2 rfl) (by kernel_rfl) (by kernel_rfl) rfl rfl rfl) ?_
       refine GD.v (.int .i64 0) ?_
       refine GD.k k1 ?_
       refine CG.ret (QG.ret (fun _ hM => results_three rfl (res_cell rfl (loadVar_agg agg28 siz28 (hM.b 3 rfl) rfl rfl)) (res_cell rfl (loadVar_agg agg28 siz28 (hM.b 2 rfl) rfl rfl)) (res_tmp rfl)) ?_)
       intro _ hM
       exact ⟨_, _, _, _, _, _, _, _, rfl, ((quoN (Zk.neg h2) hc44 (quoB (Zk.neg h1) p1 (fun _ => by have := hc34; omega)).1) ▸ (hM.out (hM.f 0 rfl))), ((quoB (Zk.neg h1) p1 (fun _ => by have := hc34; omega)).2 ▸ (hM.out (hM.f 1 rfl))), hM.below⟩
     · have hk44 : (m2) = false := by simpa using hc44
       refine CG.lin 2 ?_
       refine GL.v (.pointer (some ⟨g22, 1, none⟩)) ?_
       refine GL.r (.bool false) (fun _ hM => op_load_one (off := 1) (by kernel_rfl) agg4 (hM.b 4 rfl) (by rw [hk44]; rfl)) ?_
       refine GL.k k2 ?_
       refine CG.no ?_ rfl rfl
       refine CG.skip ?_
       refine QG.k k1 ?_
       refine CG.seq fun K_ k1 => ?_
       refine CG.draw [g23] [1] (.step 1 (.step 0 (.step 2 (.step 3 (.step 4 .done))))) (fun V hV47 => ?_)
       refine GD.er (.agg #[.slice A31 n31 c31, .bool m31]) (fun _ hS => op_load_agg (off := 0) (by kernel_rfl) agg28 siz28 (hV47.bS 2 rfl hS (by simp only [List.mem_cons, List.not_mem_nil, or_false, not_or]; exact hV47.ne 2 3 rfl rfl (by decide))) rfl rfl) ?_
       refine GD.r (.agg #[.slice A30 n30 c30, .bool m30]) (fun _ hM => op_load_agg (off := 0) (by kernel_rfl) agg28 siz28 (hM.b 3 rfl) rfl rfl) ?_
       refine GD.st (fun _ _ => Mem.st3) (fun _ hM => store_all (cs' := #[.slice A30 n30 c30, .bool m30]) siz28 (hM.b 3 rfl) (by kernel_rfl) (by kernel_rfl) rfl rfl rfl) ?_
       refine GD.st (fun _ _ => Mem.st2) (fun _ hM => store_all (cs' := #[.slice A31 n31 c31, .bool m31]) siz28 (hM.b 2 rfl) (by kernel_rfl) (by kernel_rfl) rfl rfl rfl) ?_
       refine GD.v (.int .i64 0) ?_
       refine GD.k k1 ?_
       refine CG.ret (QG.ret (fun _ hM => results_three rfl (res_cell rfl (loadVar_agg agg28 siz28 (hM.b 3 rfl) rfl rfl)) (res_cell rfl (loadVar_agg agg28 siz28 (hM.b 2 rfl) rfl rfl)) (res_tmp rfl)) ?_)
       intro _ hM
       exact ⟨_, _, _, _, _, _, _, _, rfl, ((quoP (Zk.neg h2) hc44 (quoB (Zk.neg h1) p1 (fun _ => by have := hc34; omega)).1) ▸ (hM.out (hM.f 1 rfl))), ((quoB (Zk.neg h1) p1 (fun _ => by have := hc34; omega)).2 ▸ (hM.out (hM.f 0 rfl))), hM.below⟩
 · have hk32 : (m1) = false := by simpa using hc32
   refine CG.lin 7 ?_
   refine GL.v (.pointer (some ⟨g21, 1, none⟩)) ?_
   refine GL.r (.bool false) (fun _ hM => op_load_one (off := 1) (by kernel_rfl) agg4 (hM.b 5 rfl) (by rw [hk32]; rfl)) ?_
   refine GL.v (.bool false) ?_
   refine GL.sk ?_
   refine GL.sk ?_
   refine GL.sk ?_
   refine GL.v (.bool false) ?_
   refine GL.k k2 ?_
   refine CG.no ?_ rfl rfl
   refine CG.skip ?_
   refine QG.k k1 ?_
   refine CG.seq fun K_ k1 => ?_
   refine CG.seq fun K_ k2 => ?_
   by_cases hc48 : m2 = true
   · have hk48 : (m2) = true := hc48
     refine CG.lin 2 ?_
     refine GL.v (.pointer (some ⟨g22, 1, none⟩)) ?_
     refine GL.r (.bool true) (fun _ hM => op_load_one (off := 1) (by kernel_rfl) agg4 (hM.b 4 rfl) (by rw [hk48]; rfl)) ?_
     refine GL.k k2 ?_
     refine CG.yes ?_ rfl rfl
     refine CG.lin 3 ?_
     refine GL.r (.agg #[.slice A30 n30 c30, .bool m30]) (fun _ hM => op_load_agg (off := 0) (by kernel_rfl) agg28 siz28 (hM.b 3 rfl) rfl rfl) ?_
     refine GL.call (fun _ hM => Neg_ok hM.avlt (hM.f 1 rfl)) ?_
     rintro _ _ _ hM ⟨A49, n49, c49, m49, rfl, h49, hb⟩
     have hs49 := sz_neg ((mk m1 (a.natAbs / d.natAbs)))
     refine ⟨_, _, _, rfl, (hM.call hb).add h49, ?_⟩
     refine GL.sA (cs' := #[.slice A49 n49 c49, .bool m49]) (fun _ _ => Mem.st3) (fun _ hM => hM.b 3 rfl) siz28 ?_
     refine GL.k k1 ?_
     refine CG.seq fun K_ k1 => ?_
     refine CG.draw [g23] [1] (.step 1 (.step 0 (.step 2 (.step 3 (.step 4 .done))))) (fun V hV50 => ?_)
     refine GD.er (.agg #[.slice A31 n31 c31, .bool m31]) (fun _ hS => op_load_agg (off := 0) (by kernel_rfl) agg28 siz28 (hV50.bS 2 rfl hS (by simp only [List.mem_cons, List.not_mem_nil, or_false, not_or]; exact hV50.ne 2 3 rfl rfl (by decide))) rfl rfl) ?_
     refine GD.r (.agg #[.slice A49 n49 c49, .bool m49]) (fun _ hM => op_load_agg (off := 0) (by kernel_rfl) agg28 siz28 (hM.b 3 rfl) rfl rfl) ?_
     refine GD.st (fun _ _ => Mem.st3) (fun _ hM => store_all (cs' := #[.slice A49 n49 c49, .bool m49]) siz28 (hM.b 3 rfl) (by kernel_rfl) (by kernel_rfl) rfl rfl rfl) ?_
     refine GD.st (fun _ _ => Mem.st2) (fun _ hM => store_all (cs' := #[.slice A31 n31 c31, .bool m31]) siz28 (hM.b 2 rfl) (by kernel_rfl) (by kernel_rfl) rfl rfl rfl) ?_
     refine GD.v (.int .i64 0) ?_
     refine GD.k k1 ?_
     refine CG.ret (QG.ret (fun _ hM => results_three rfl (res_cell rfl (loadVar_agg agg28 siz28 (hM.b 3 rfl) rfl rfl)) (res_cell rfl (loadVar_agg agg28 siz28 (hM.b 2 rfl) rfl rfl)) (res_tmp rfl)) ?_)
     intro _ hM
     exact ⟨_, _, _, _, _, _, _, _, rfl, ((quoN (Zk.neg h2) hc48 (quoB (Zk.neg h1) p1 (fun h => absurd h hc32)).1) ▸ (hM.out (hM.f 0 rfl))), ((quoB (Zk.neg h1) p1 (fun h => absurd h hc32)).2 ▸ (hM.out (hM.f 1 rfl))), hM.below⟩
   · have hk48 : (m2) = false := by simpa using hc48
     refine CG.lin 2 ?_
     refine GL.v (.pointer (some ⟨g22, 1, none⟩)) ?_
     refine GL.r (.bool false) (fun _ hM => op_load_one (off := 1) (by kernel_rfl) agg4 (hM.b 4 rfl) (by rw [hk48]; rfl)) ?_
     refine GL.k k2 ?_
     refine CG.no ?_ rfl rfl
     refine CG.skip ?_
     refine QG.k k1 ?_
     refine CG.seq fun K_ k1 => ?_
     refine CG.draw [g23] [1] (.step 1 (.step 0 (.step 2 (.step 3 (.step 4 .done))))) (fun V hV51 => ?_)
     refine GD.er (.agg #[.slice A31 n31 c31, .bool m31]) (fun _ hS => op_load_agg (off := 0) (by kernel_rfl) agg28 siz28 (hV51.bS 2 rfl hS (by simp only [List.mem_cons, List.not_mem_nil, or_false, not_or]; exact hV51.ne 2 3 rfl rfl (by decide))) rfl rfl) ?_
     refine GD.r (.agg #[.slice A30 n30 c30, .bool m30]) (fun _ hM => op_load_agg (off := 0) (by kernel_rfl) agg28 siz28 (hM.b 3 rfl) rfl rfl) ?_
     refine GD.st (fun _ _ => Mem.st3) (fun _ hM => store_all (cs' := #[.slice A30 n30 c30, .bool m30]) siz28 (hM.b 3 rfl) (by kernel_rfl) (by kernel_rfl) rfl rfl rfl) ?_
     refine GD.st (fun _ _ => Mem.st2) (fun _ hM => store_all (cs' := #[.slice A31 n31 c31, .bool m31]) siz28 (hM.b 2 rfl) (by kernel_rfl) (by kernel_rfl) rfl rfl rfl) ?_
     refine GD.v (.int .i64 0) ?_
     refine GD.k k1 ?_
     refine CG.ret (QG.ret (fun _ hM => results_three rfl (res_cell rfl (loadVar_agg agg28 siz28 (hM.b 3 rfl) rfl rfl)) (res_cell rfl (loadVar_agg agg28 siz28 (hM.b 2 rfl) rfl rfl)) (res_tmp rfl)) ?_)
     intro _ hM
     exact ⟨_, _, _, _, _, _, _, _, rfl, ((quoP (Zk.neg h2) hc48 (quoB (Zk.neg h1) p1 (fun h => absurd h hc32)).1) ▸ (hM.out (hM.f 1 rfl))), ((quoB (Zk.neg h1) p1 (fun h => absurd h hc32)).2 ▸ (hM.out (hM.f 0 rfl))), hM.below⟩

set_option maxRecDepth 100000 in
set_option maxHeartbeats 400000 in
theorem Gcd_ok {w : World} {X : Nat → Prop} {A1 : Option Addr} {n1 : Nat} {c1 : Nat} {m1 : Bool} {a : Int} {A2 : Option Addr} {n2 : Nat} {c2 : Nat} {m2 : Bool} {b : Int} (hX : ∀ k, X k → k < w.heap.size) (h1 : Zk.R X w [.slice A1 n1 c1, .bool m1] a) (h2 : Zk.R X w [.slice A2 n2 c2, .bool m2] b) (p1 : sz a + sz b ≤ 549755813888) :
    Calls Tryz.prog 15 #[.agg #[.slice A1 n1 c1, .bool m1], .agg #[.slice A2 n2 c2, .bool m2]] w (fun e w' => ∃ Ar nr cr mr, e = .returned (.agg #[.slice Ar nr cr, .bool mr]) ∧ Zk.R X w' [.slice Ar nr cr, .bool mr] (Int.gcd a b : Int) ∧ Below w.heap.size w w') := by
 have q8 : sz b = szn b.natAbs := rfl
 have q9 : sz a = szn a.natAbs := rfl
 have hM := ((Mem.start hX).add0 h1).add0 h2
 have e1 : sz a = szn (a).natAbs := rfl
 have e2 : sz b = szn (b).natAbs := rfl
 refine calls_of hM Tryz.func15 Tryz.ntmps15 ?_
 refine CG.seq fun K_ k1 => ?_
 refine CG.lin 3 ?_
 refine GL.bA #[.slice A1 n1 c1, .bool m1] fun g21 => ?_
 refine GL.bA #[.slice A2 n2 c2, .bool m2] fun g22 => ?_
 refine GL.aA zer28 fun g23 => ?_
 refine GL.k k1 ?_
 refine CG.seq fun K_ k1 => ?_
 refine CG.lin 7 ?_
 refine GL.v (.pointer (some ⟨g21, 0, none⟩)) ?_
 refine GL.r (.agg #[.slice A1 n1 c1]) (fun _ hM => op_load_agg (off := 0) (by kernel_rfl) agg26 siz26 (hM.b 2 rfl) rfl rfl) ?_
 refine GL.v (.pointer (some ⟨g22, 0, none⟩)) ?_
 refine GL.r (.agg #[.slice A2 n2 c2]) (fun _ hM => op_load_agg (off := 0) (by kernel_rfl) agg26 siz26 (hM.b 1 rfl) rfl rfl) ?_
 refine GL.call (fun _ hM => common_ok hM.avlt (Zk.dig (hM.f 1 rfl)) (Zk.dig (hM.f 0 rfl)) (by first | assumption | omega)) ?_
 rintro _ _ _ hM ⟨A24, n24, c24, rfl, h24, hb⟩
 refine ⟨_, _, _, rfl, (hM.call hb).add h24, ?_⟩
 refine GL.call (fun _ hM => made_ok hM.avlt false (hM.f 0 rfl)) ?_
 rintro _ _ _ hM ⟨A25, n25, c25, m25, rfl, h25, hb⟩
 refine ⟨_, _, _, rfl, (hM.call hb).add h25, ?_⟩
 refine GL.sA (cs' := #[.slice A25 n25 c25, .bool m25]) (fun _ _ => Mem.st0) (fun _ hM => hM.b 0 rfl) siz28 ?_
 refine GL.k k1 ?_
 refine CG.ret (QG.ret (fun _ hM => results_one rfl (res_cell rfl (loadVar_agg agg28 siz28 (hM.b 0 rfl) rfl rfl))) ?_)
 intro _ hM
 exact ⟨_, _, _, _, rfl, ((show mk false (Nat.gcd a.natAbs b.natAbs) = (Int.gcd a b : Int) from rfl) ▸ (hM.out (hM.f 0 rfl))), hM.below⟩

set_option maxRecDepth 100000 in
set_option maxHeartbeats 400000 in
theorem bottom_ok {w : World} {X : Nat → Prop} {A1 : Option Addr} {n1 : Nat} {c1 : Nat} {m1 : Bool} {A1_ : Option Addr} {n1_ : Nat} {c1_ : Nat} {a : Rat} (hX : ∀ k, X k → k < w.heap.size) (h1 : Rk.R X w [.slice A1 n1 c1, .bool m1, .slice A1_ n1_ c1_] a) (p1 : szR a ≤ 68719476736) :
    Calls Tryz.prog 117 #[.agg #[.slice A1 n1 c1, .bool m1, .slice A1_ n1_ c1_]] w (fun e w' => ∃ Ar nr cr mr, e = .returned (.agg #[.slice Ar nr cr, .bool mr]) ∧ Zk.R X w' [.slice Ar nr cr, .bool mr] (a.den : Int) ∧ Below w.heap.size w w') := by
 have q1 := szR_pred a
 have q2 := szn_one
 have hM := (Mem.start hX).add0 h1
 refine calls_of hM Tryz.func117 Tryz.ntmps117 ?_
 refine CG.seq fun K_ k1 => ?_
 refine CG.lin 2 ?_
 refine GL.bA #[.slice A1 n1 c1, .bool m1, .slice A1_ n1_ c1_] fun g21 => ?_
 refine GL.aA zer28 fun g22 => ?_
 refine GL.k k1 ?_
 refine CG.seq fun K_ k1 => ?_
 refine CG.draw [] [0, 1, 4] (.step 0 (.step 1 (.step 2 (.step 3 (.step 4 (.step 5 .done)))))) (fun V hV23 => ?_)
 refine GD.ev (.pointer (some ⟨g21, 2, none⟩)) ?_
 refine GD.er (.agg #[.slice A1_ n1_ c1_]) (fun _ hS => op_load_agg (off := 2) (by kernel_rfl) agg26 siz26 (hV23.bS 1 rfl hS) rfl rfl) ?_
 refine GD.call (fun _ hM => word1_ok hM.avlt) ?_
 rintro _ _ _ hM ⟨A24, n24, c24, rfl, h24, hb⟩
 refine ⟨_, _, _, rfl, hb, (hM.call hb).add h24, ?_⟩
 refine GD.call (fun _ hM => plus_add_ok hM.avlt (Rk.rest (hM.f 1 rfl)) (hM.f 0 rfl) (by first | assumption | omega)) ?_
 rintro _ _ _ hM ⟨A25, n25, c25, rfl, h25, hb⟩
 have hs25 := szn_add (a.den - 1) (1)
 refine ⟨_, _, _, rfl, hb, (hM.call hb).add h25, ?_⟩
 refine GD.ev (.agg #[.slice A25 n25 c25, .bool false]) ?_
 refine GD.st (fun _ _ => Mem.st0) (fun _ hM => store_all (cs' := #[.slice A25 n25 c25, .bool false]) siz28 (hM.b 0 rfl) (by kernel_rfl) (by kernel_rfl) rfl rfl rfl) ?_
 refine GD.k k1 ?_
 refine CG.ret (QG.ret (fun _ hM => results_one rfl (res_cell rfl (loadVar_agg agg28 siz28 (hM.b 0 rfl) rfl rfl))) ?_)
 intro _ hM
 exact ⟨_, _, _, _, rfl, ((show ((a.den - 1 + 1 : Nat) : Int) = (a.den : Int) from by rw [den_back]) ▸ (hM.out (Zk.ofD (hM.f 0 rfl)))), hM.below⟩

set_option maxRecDepth 100000 in
set_option maxHeartbeats 400000 in
theorem ratio_ok {w : World} {X : Nat → Prop} {A1 : Option Addr} {n1 : Nat} {c1 : Nat} {m1 : Bool} {n : Int} {A2 : Option Addr} {n2 : Nat} {c2 : Nat} {m2 : Bool} {d : Int} (hX : ∀ k, X k → k < w.heap.size) (h1 : Zk.R X w [.slice A1 n1 c1, .bool m1] n) (h2 : Zk.R X w [.slice A2 n2 c2, .bool m2] d) (p1 : d ≠ 0) (p2 : sz n + sz d ≤ 274877906944) :
    Calls Tryz.prog 123 #[.agg #[.slice A1 n1 c1, .bool m1], .agg #[.slice A2 n2 c2, .bool m2]] w (fun e w' => ∃ Ar nr cr mr Ar_ nr_ cr_, e = .returned (.agg #[.slice Ar nr cr, .bool mr, .slice Ar_ nr_ cr_]) ∧ Rk.R X w' [.slice Ar nr cr, .bool mr, .slice Ar_ nr_ cr_] (Rat.divInt n d) ∧ Below w.heap.size w w') := by
 have q1 := sz_gcd n d p1
 have hM := ((Mem.start hX).add0 h1).add0 h2
 have e1 : sz n = szn (n).natAbs := rfl
 have e2 : sz d = szn (d).natAbs := rfl
 refine calls_of hM Tryz.func123 Tryz.ntmps123 ?_
 refine CG.seq fun K_ k1 => ?_
 refine CG.lin 3 ?_
 refine GL.bA #[.slice A1 n1 c1, .bool m1] fun g21 => ?_
 refine GL.bA #[.slice A2 n2 c2, .bool m2] fun g22 => ?_
 refine GL.aA zer48 fun g23 => ?_
 refine GL.k k1 ?_
 refine CG.seq fun K_ k1 => ?_
 refine CG.lin 5 ?_
 refine GL.r (.agg #[.slice A1 n1 c1, .bool m1]) (fun _ hM => op_load_agg (off := 0) (by kernel_rfl) agg28 siz28 (hM.b 2 rfl) rfl rfl) ?_
 refine GL.r (.agg #[.slice A2 n2 c2, .bool m2]) (fun _ hM => op_load_agg (off := 0) (by kernel_rfl) agg28 siz28 (hM.b 1 rfl) rfl rfl) ?_
 refine GL.call (fun _ hM => Gcd_ok hM.avlt (hM.f 1 rfl) (hM.f 0 rfl) (by first | assumption | omega)) ?_
 rintro _ _ _ hM ⟨A24, n24, c24, m24, rfl, h24, hb⟩
 have hs24 := sz_gcd2 n d
 refine ⟨_, _, _, rfl, (hM.call hb).add h24, ?_⟩
 refine GL.aA zer28 fun g25 => ?_
 refine GL.sA (cs' := #[.slice A24 n24 c24, .bool m24]) (fun _ _ => Mem.st0) (fun _ hM => hM.b 0 rfl) siz28 ?_
 refine GL.k k1 ?_
 refine CG.seq fun K_ k1 => ?_
 refine CG.seq fun K_ k2 => ?_
 refine CG.lin 2 ?_
 refine GL.v (.pointer (some ⟨g22, 1, none⟩)) ?_
 refine GL.r (.bool m2) (fun _ hM => op_load_one (off := 1) (by kernel_rfl) agg4 (hM.b 2 rfl) rfl) ?_
 refine GL.k k2 ?_
 by_cases hc26 : m2 = true
 · have hk26 : (m2) = true := hc26
   refine CG.yes ?_ hk26 rfl
   refine CG.lin 3 ?_
   refine GL.r (.agg #[.slice A24 n24 c24, .bool m24]) (fun _ hM => op_load_agg (off := 0) (by kernel_rfl) agg28 siz28 (hM.b 0 rfl) rfl rfl) ?_
   refine GL.call (fun _ hM => Neg_ok hM.avlt (hM.f 0 rfl)) ?_
   rintro _ _ _ hM ⟨A27, n27, c27, m27, rfl, h27, hb⟩
   have hs27 := sz_neg (Int.gcd n d : Int)
   refine ⟨_, _, _, rfl, (hM.call hb).add h27, ?_⟩
   refine GL.sA (cs' := #[.slice A27 n27 c27, .bool m27]) (fun _ _ => Mem.st0) (fun _ hM => hM.b 0 rfl) siz28 ?_
   refine GL.k k1 ?_
   refine CG.seq fun K_ k1 => ?_
   refine CG.lin 8 ?_
   refine GL.r (.agg #[.slice A1 n1 c1, .bool m1]) (fun _ hM => op_load_agg (off := 0) (by kernel_rfl) agg28 siz28 (hM.b 3 rfl) rfl rfl) ?_
   refine GL.r (.agg #[.slice A27 n27 c27, .bool m27]) (fun _ hM => op_load_agg (off := 0) (by kernel_rfl) agg28 siz28 (hM.b 0 rfl) rfl rfl) ?_
   refine GL.call (fun _ hM => Quotient_ok hM.avlt (hM.f 3 rfl) (hM.f 0 rfl) (by have := gcd_ne (n := n) p1; omega) (by first | assumption | omega | (rw [sz_neg]; omega))) ?_
   rintro _ _ _ hM ⟨A28a, n28a, c28a, m28a, A28b, n28b, c28b, m28b, rfl, h28a, h28b, hb⟩
   have hs28 := sz_quo n ((-(Int.gcd n d : Int)))
   have ht28 := sz_rem2 n ((-(Int.gcd n d : Int)))
   refine ⟨_, _, _, rfl, ((hM.call hb).add h28a).add h28b, ?_⟩
   refine GL.v (.tuple #[.agg #[.slice A28a n28a c28a, .bool m28a], .agg #[.slice A28b n28b c28b, .bool m28b], .int .i64 0]) ?_
   refine GL.v (.agg #[.slice A28a n28a c28a, .bool m28a]) ?_
   refine GL.v (.agg #[.slice A28b n28b c28b, .bool m28b]) ?_
   refine GL.v (.int .i64 0) ?_
   refine GL.sA (cs' := #[.slice A28a n28a c28a, .bool m28a]) (fun _ _ => Mem.st3) (fun _ hM => hM.b 3 rfl) siz28 ?_
   refine GL.k k1 ?_
   refine CG.seq fun K_ k1 => ?_
   refine CG.lin 8 ?_
   refine GL.r (.agg #[.slice A2 n2 c2, .bool m2]) (fun _ hM => op_load_agg (off := 0) (by kernel_rfl) agg28 siz28 (hM.b 2 rfl) rfl rfl) ?_
   refine GL.r (.agg #[.slice A27 n27 c27, .bool m27]) (fun _ hM => op_load_agg (off := 0) (by kernel_rfl) agg28 siz28 (hM.b 0 rfl) rfl rfl) ?_
   refine GL.call (fun _ hM => Quotient_ok hM.avlt (hM.f 4 rfl) (hM.f 2 rfl) (by have := gcd_ne (n := n) p1; omega) (by first | assumption | omega | (rw [sz_neg]; omega))) ?_
   rintro _ _ _ hM ⟨A29a, n29a, c29a, m29a, A29b, n29b, c29b, m29b, rfl, h29a, h29b, hb⟩
   have hs29 := sz_quo d ((-(Int.gcd n d : Int)))
   have ht29 := sz_rem2 d ((-(Int.gcd n d : Int)))
   refine ⟨_, _, _, rfl, ((hM.call hb).add h29a).add h29b, ?_⟩
   refine GL.v (.tuple #[.agg #[.slice A29a n29a c29a, .bool m29a], .agg #[.slice A29b n29b c29b, .bool m29b], .int .i64 0]) ?_
   refine GL.v (.agg #[.slice A29a n29a c29a, .bool m29a]) ?_
   refine GL.v (.agg #[.slice A29b n29b c29b, .bool m29b]) ?_
   refine GL.v (.int .i64 0) ?_
   refine GL.sA (cs' := #[.slice A29a n29a c29a, .bool m29a]) (fun _ _ => Mem.st2) (fun _ hM => hM.b 2 rfl) siz28 ?_
   refine GL.k k1 ?_
   refine CG.seq fun K_ k1 => ?_
   refine CG.draw [] [0, 1, 2, 5] (.step 0 (.step 1 (.step 2 (.step 3 (.step 4 (.step 5 (.step 6 .done))))))) (fun V hV30 => ?_)
   refine GD.er (.agg #[.slice A28a n28a c28a, .bool m28a]) (fun _ hS => op_load_agg (off := 0) (by kernel_rfl) agg28 siz28 (hV30.bS 3 rfl hS) rfl rfl) ?_
   refine GD.ev (.pointer (some ⟨g22, 0, none⟩)) ?_
   refine GD.er (.agg #[.slice A29a n29a c29a]) (fun _ hS => op_load_agg (off := 0) (by kernel_rfl) agg26 siz26 (hV30.bS 2 rfl hS) rfl rfl) ?_
   refine GD.call (fun _ hM => word1_ok hM.avlt) ?_
   rintro _ _ _ hM ⟨A31, n31, c31, rfl, h31, hb⟩
   refine ⟨_, _, _, rfl, hb, (hM.call hb).add h31, ?_⟩
   refine GD.call (fun _ hM => plus_sub_ok hM.avlt (Zk.dig (hM.f 2 rfl)) (hM.f 0 rfl) (ratio_one p1 (gN (Zk.neg h2) hc26)) (by have := szn_div n.natAbs (Int.gcd n d); have := szn_div d.natAbs (Int.gcd n d); have := szn_small (n := 1) 1 (by decide); simp only [sz, Int.natAbs_neg, Int.natAbs_natCast] at *; omega) (by have := szn_div n.natAbs (Int.gcd n d); have := szn_div d.natAbs (Int.gcd n d); have := szn_small (n := 1) 1 (by decide); simp only [sz, Int.natAbs_neg, Int.natAbs_natCast] at *; omega)) ?_
   rintro _ _ _ hM ⟨A32, n32, c32, rfl, h32, hb⟩
   have hs32 := szn_sub (((d / (-(Int.gcd n d : Int))).natAbs)) (1)
   refine ⟨_, _, _, rfl, hb, (hM.call hb).add h32, ?_⟩
   refine GD.ev (.agg #[.slice A28a n28a c28a, .bool m28a, .slice A32 n32 c32]) ?_
   refine GD.st (fun _ _ => Mem.st1) (fun _ hM => store_all (cs' := #[.slice A28a n28a c28a, .bool m28a, .slice A32 n32 c32]) siz48 (hM.b 1 rfl) (by kernel_rfl) (by kernel_rfl) rfl rfl rfl) ?_
   refine GD.k k1 ?_
   refine CG.ret (QG.ret (fun _ hM => results_one rfl (res_cell rfl (loadVar_agg agg48 siz48 (hM.b 1 rfl) rfl rfl))) ?_)
   intro _ hM
   exact ⟨_, _, _, _, _, _, _, rfl, (Rk.ratio p1 (gN (Zk.neg h2) hc26) (hM.out (hM.f 5 rfl)) (hM.out (hM.f 0 rfl))), hM.below⟩
 · have hk26 : (m2) = false := by simpa using hc26
   refine CG.no ?_ hk26 rfl
   refine CG.skip ?_
   refine QG.k k1 ?_
   refine CG.seq fun K_ k1 => ?_
   refine CG.lin 8 ?_
   refine GL.r (.agg #[.slice A1 n1 c1, .bool m1]) (fun _ hM => op_load_agg (off := 0) (by kernel_rfl) agg28 siz28 (hM.b 3 rfl) rfl rfl) ?_
   refine GL.r (.agg #[.slice A24 n24 c24, .bool m24]) (fun _ hM => op_load_agg (off := 0) (by kernel_rfl) agg28 siz28 (hM.b 0 rfl) rfl rfl) ?_
   refine GL.call (fun _ hM => Quotient_ok hM.avlt (hM.f 2 rfl) (hM.f 0 rfl) (by have := gcd_ne (n := n) p1; omega) (by first | assumption | omega | (rw [sz_neg]; omega))) ?_
   rintro _ _ _ hM ⟨A33a, n33a, c33a, m33a, A33b, n33b, c33b, m33b, rfl, h33a, h33b, hb⟩
   have hs33 := sz_quo n (Int.gcd n d : Int)
   have ht33 := sz_rem2 n (Int.gcd n d : Int)
   refine ⟨_, _, _, rfl, ((hM.call hb).add h33a).add h33b, ?_⟩
   refine GL.v (.tuple #[.agg #[.slice A33a n33a c33a, .bool m33a], .agg #[.slice A33b n33b c33b, .bool m33b], .int .i64 0]) ?_
   refine GL.v (.agg #[.slice A33a n33a c33a, .bool m33a]) ?_
   refine GL.v (.agg #[.slice A33b n33b c33b, .bool m33b]) ?_
   refine GL.v (.int .i64 0) ?_
   refine GL.sA (cs' := #[.slice A33a n33a c33a, .bool m33a]) (fun _ _ => Mem.st3) (fun _ hM => hM.b 3 rfl) siz28 ?_
   refine GL.k k1 ?_
   refine CG.seq fun K_ k1 => ?_
   refine CG.lin 8 ?_
   refine GL.r (.agg #[.slice A2 n2 c2, .bool m2]) (fun _ hM => op_load_agg (off := 0) (by kernel_rfl) agg28 siz28 (hM.b 2 rfl) rfl rfl) ?_
   refine GL.r (.agg #[.slice A24 n24 c24, .bool m24]) (fun _ hM => op_load_agg (off := 0) (by kernel_rfl) agg28 siz28 (hM.b 0 rfl) rfl rfl) ?_
   refine GL.call (fun _ hM => Quotient_ok hM.avlt (hM.f 3 rfl) (hM.f 2 rfl) (by have := gcd_ne (n := n) p1; omega) (by first | assumption | omega | (rw [sz_neg]; omega))) ?_
   rintro _ _ _ hM ⟨A34a, n34a, c34a, m34a, A34b, n34b, c34b, m34b, rfl, h34a, h34b, hb⟩
   have hs34 := sz_quo d (Int.gcd n d : Int)
   have ht34 := sz_rem2 d (Int.gcd n d : Int)
   refine ⟨_, _, _, rfl, ((hM.call hb).add h34a).add h34b, ?_⟩
   refine GL.v (.tuple #[.agg #[.slice A34a n34a c34a, .bool m34a], .agg #[.slice A34b n34b c34b, .bool m34b], .int .i64 0]) ?_
   refine GL.v (.agg #[.slice A34a n34a c34a, .bool m34a]) ?_
   refine GL.v (.agg #[.slice A34b n34b c34b, .bool m34b]) ?_
   refine GL.v (.int .i64 0) ?_
   refine GL.sA (cs' := #[.slice A34a n34a c34a, .bool m34a]) (fun _ _ => Mem.st2) (fun _ hM => hM.b 2 rfl) siz28 ?_
   refine GL.k k1 ?_
   refine CG.seq fun K_ k1 => ?_
   refine CG.draw [] [0, 1, 2, 5] (.step 0 (.step 1 (.step 2 (.step 3 (.step 4 (.step 5 (.step 6 .done))))))) (fun V hV35 => ?_)
   refine GD.er (.agg #[.slice A33a n33a c33a, .bool m33a]) (fun _ hS => op_load_agg (off := 0) (by kernel_rfl) agg28 siz28 (hV35.bS 3 rfl hS) rfl rfl) ?_
   refine GD.ev (.pointer (some ⟨g22, 0, none⟩)) ?_
   refine GD.er (.agg #[.slice A34a n34a c34a]) (fun _ hS => op_load_agg (off := 0) (by kernel_rfl) agg26 siz26 (hV35.bS 2 rfl hS) rfl rfl) ?_
   refine GD.call (fun _ hM => word1_ok hM.avlt) ?_
   rintro _ _ _ hM ⟨A36, n36, c36, rfl, h36, hb⟩
   refine ⟨_, _, _, rfl, hb, (hM.call hb).add h36, ?_⟩
   refine GD.call (fun _ hM => plus_sub_ok hM.avlt (Zk.dig (hM.f 2 rfl)) (hM.f 0 rfl) (ratio_one p1 (gP (Zk.neg h2) hc26)) (by have := szn_div n.natAbs (Int.gcd n d); have := szn_div d.natAbs (Int.gcd n d); have := szn_small (n := 1) 1 (by decide); simp only [sz, Int.natAbs_neg, Int.natAbs_natCast] at *; omega) (by have := szn_div n.natAbs (Int.gcd n d); have := szn_div d.natAbs (Int.gcd n d); have := szn_small (n := 1) 1 (by decide); simp only [sz, Int.natAbs_neg, Int.natAbs_natCast] at *; omega)) ?_
   rintro _ _ _ hM ⟨A37, n37, c37, rfl, h37, hb⟩
   have hs37 := szn_sub (((d / (Int.gcd n d : Int)).natAbs)) (1)
   refine ⟨_, _, _, rfl, hb, (hM.call hb).add h37, ?_⟩
   refine GD.ev (.agg #[.slice A33a n33a c33a, .bool m33a, .slice A37 n37 c37]) ?_
   refine GD.st (fun _ _ => Mem.st1) (fun _ hM => store_all (cs' := #[.slice A33a n33a c33a, .bool m33a, .slice A37 n37 c37]) siz48 (hM.b 1 rfl) (by kernel_rfl) (by kernel_rfl) rfl rfl rfl) ?_
   refine GD.k k1 ?_
   refine CG.ret (QG.ret (fun _ hM => results_one rfl (res_cell rfl (loadVar_agg agg48 siz48 (hM.b 1 rfl) rfl rfl))) ?_)
   intro _ hM
   exact ⟨_, _, _, _, _, _, _, rfl, (Rk.ratio p1 (gP (Zk.neg h2) hc26) (hM.out (hM.f 5 rfl)) (hM.out (hM.f 0 rfl))), hM.below⟩

set_option maxRecDepth 100000 in
set_option maxHeartbeats 400000 in
theorem Whole_ok {w : World} {X : Nat → Prop} {A1 : Option Addr} {n1 : Nat} {c1 : Nat} {m1 : Bool} {z : Int} (hX : ∀ k, X k → k < w.heap.size) (h1 : Zk.R X w [.slice A1 n1 c1, .bool m1] z) :
    Calls Tryz.prog 50 #[.agg #[.slice A1 n1 c1, .bool m1]] w (fun e w' => ∃ Ar nr cr mr Ar_ nr_ cr_, e = .returned (.agg #[.slice Ar nr cr, .bool mr, .slice Ar_ nr_ cr_]) ∧ Rk.R X w' [.slice Ar nr cr, .bool mr, .slice Ar_ nr_ cr_] (z : Rat) ∧ Below w.heap.size w w') := by
 have hM := (Mem.start hX).add0 h1
 have e1 : sz z = szn (z).natAbs := rfl
 refine calls_of hM Tryz.func50 Tryz.ntmps50 ?_
 refine CG.seq fun K_ k1 => ?_
 refine CG.lin 2 ?_
 refine GL.bA #[.slice A1 n1 c1, .bool m1] fun g21 => ?_
 refine GL.aA zer48 fun g22 => ?_
 refine GL.k k1 ?_
 refine CG.seq fun K_ k1 => ?_
 refine CG.lin 3 ?_
 refine GL.r (.agg #[.slice A1 n1 c1, .bool m1]) (fun _ hM => op_load_agg (off := 0) (by kernel_rfl) agg28 siz28 (hM.b 1 rfl) rfl rfl) ?_
 refine GL.v (.agg #[.slice A1 n1 c1, .bool m1, .slice none 0 0]) ?_
 refine GL.sA (cs' := #[.slice A1 n1 c1, .bool m1, .slice none 0 0]) (fun _ _ => Mem.st0) (fun _ hM => hM.b 0 rfl) siz48 ?_
 refine GL.k k1 ?_
 refine CG.ret (QG.ret (fun _ hM => results_one rfl (res_cell rfl (loadVar_agg agg48 siz48 (hM.b 0 rfl) rfl rfl))) ?_)
 intro _ hM
 exact ⟨_, _, _, _, _, _, _, rfl, (Rk.whole (hM.out (hM.f 0 rfl)) (hM.out (Dk.nil _ _ none 0))), hM.below⟩

set_option maxRecDepth 100000 in
set_option maxHeartbeats 400000 in
theorem OfZ_ok {w : World} {X : Nat → Prop} {A1 : Option Addr} {n1 : Nat} {c1 : Nat} {m1 : Bool} {n : Int} {A2 : Option Addr} {n2 : Nat} {c2 : Nat} {m2 : Bool} {d : Int} (hX : ∀ k, X k → k < w.heap.size) (h1 : Zk.R X w [.slice A1 n1 c1, .bool m1] n) (h2 : Zk.R X w [.slice A2 n2 c2, .bool m2] d) (p1 : d ≠ 0) (p2 : sz n + sz d ≤ 274877906944) :
    Calls Tryz.prog 54 #[.agg #[.slice A1 n1 c1, .bool m1], .agg #[.slice A2 n2 c2, .bool m2]] w (fun e w' => ∃ Ar1 nr1 cr1 mr1 Ar1_ nr1_ cr1_, e = .returned (.tuple #[.agg #[.slice Ar1 nr1 cr1, .bool mr1, .slice Ar1_ nr1_ cr1_], .int .i64 0]) ∧ Rk.R X w' [.slice Ar1 nr1 cr1, .bool mr1, .slice Ar1_ nr1_ cr1_] (Rat.divInt n d) ∧ Below w.heap.size w w') := by
 have hM := ((Mem.start hX).add0 h1).add0 h2
 have e1 : sz n = szn (n).natAbs := rfl
 have e2 : sz d = szn (d).natAbs := rfl
 refine calls_of hM Tryz.func54 Tryz.ntmps54 ?_
 refine CG.seq fun K_ k1 => ?_
 refine CG.lin 4 ?_
 refine GL.bA #[.slice A1 n1 c1, .bool m1] fun g21 => ?_
 refine GL.bA #[.slice A2 n2 c2, .bool m2] fun g22 => ?_
 refine GL.aA zer48 fun g23 => ?_
 refine GL.v (.int .i64 0) ?_
 refine GL.k k1 ?_
 refine CG.seq fun K_ k1 => ?_
 refine CG.seq fun K_ k2 => ?_
 refine CG.lin 3 ?_
 refine GL.v (.pointer (some ⟨g22, 0, none⟩)) ?_
 refine GL.r (.agg #[.slice A2 n2 c2]) (fun _ hM => op_load_agg (off := 0) (by kernel_rfl) agg26 siz26 (hM.b 1 rfl) rfl rfl) ?_
 refine GL.call (fun _ hM => none_ok hM.avlt (Zk.dig (hM.f 0 rfl))) ?_
 rintro _ _ _ hM ⟨rfl, hb⟩
 refine ⟨.bool false, _, _, (ret_bool (decide_eq_false (by omega))), hM.call hb, ?_⟩
 refine GL.k k2 ?_
 refine CG.no ?_ rfl rfl
 refine CG.skip ?_
 refine QG.k k1 ?_
 refine CG.seq fun K_ k1 => ?_
 refine CG.lin 5 ?_
 refine GL.r (.agg #[.slice A1 n1 c1, .bool m1]) (fun _ hM => op_load_agg (off := 0) (by kernel_rfl) agg28 siz28 (hM.b 2 rfl) rfl rfl) ?_
 refine GL.r (.agg #[.slice A2 n2 c2, .bool m2]) (fun _ hM => op_load_agg (off := 0) (by kernel_rfl) agg28 siz28 (hM.b 1 rfl) rfl rfl) ?_
 refine GL.call (fun _ hM => ratio_ok hM.avlt (hM.f 1 rfl) (hM.f 0 rfl) (by first | assumption | omega) (by first | assumption | omega)) ?_
 rintro _ _ _ hM ⟨A25, n25, c25, m25, A25_, n25_, c25_, rfl, h25, hb⟩
 refine ⟨_, _, _, rfl, (hM.call hb).add h25, ?_⟩
 refine GL.sA (cs' := #[.slice A25 n25 c25, .bool m25, .slice A25_ n25_ c25_]) (fun _ _ => Mem.st0) (fun _ hM => hM.b 0 rfl) siz48 ?_
 refine GL.v (.int .i64 0) ?_
 refine GL.k k1 ?_
 refine CG.ret (QG.ret (fun _ hM => results_two rfl (res_cell rfl (loadVar_agg agg48 siz48 (hM.b 0 rfl) rfl rfl)) (res_tmp rfl)) ?_)
 intro _ hM
 exact ⟨_, _, _, _, _, _, _, rfl, (hM.out (hM.f 0 rfl)), hM.below⟩

set_option maxRecDepth 100000 in
set_option maxHeartbeats 400000 in
theorem OfZ_zero {w : World} {X : Nat → Prop} {A1 : Option Addr} {n1 : Nat} {c1 : Nat} {m1 : Bool} {n : Int} {A2 : Option Addr} {n2 : Nat} {c2 : Nat} {m2 : Bool} {d : Int} (hX : ∀ k, X k → k < w.heap.size) (h1 : Zk.R X w [.slice A1 n1 c1, .bool m1] n) (h2 : Zk.R X w [.slice A2 n2 c2, .bool m2] d) (p1 : d = 0) :
    Calls Tryz.prog 54 #[.agg #[.slice A1 n1 c1, .bool m1], .agg #[.slice A2 n2 c2, .bool m2]] w (fun e w' => ∃ Ar1 nr1 cr1 mr1 Ar1_ nr1_ cr1_, e = .returned (.tuple #[.agg #[.slice Ar1 nr1 cr1, .bool mr1, .slice Ar1_ nr1_ cr1_], .int .i64 9]) ∧ Rk.R X w' [.slice Ar1 nr1 cr1, .bool mr1, .slice Ar1_ nr1_ cr1_] 0 ∧ Below w.heap.size w w') := by
 have hM := ((Mem.start hX).add0 h1).add0 h2
 have e1 : sz n = szn (n).natAbs := rfl
 have e2 : sz d = szn (d).natAbs := rfl
 refine calls_of hM Tryz.func54 Tryz.ntmps54 ?_
 refine CG.seq fun K_ k1 => ?_
 refine CG.lin 4 ?_
 refine GL.bA #[.slice A1 n1 c1, .bool m1] fun g21 => ?_
 refine GL.bA #[.slice A2 n2 c2, .bool m2] fun g22 => ?_
 refine GL.aA zer48 fun g23 => ?_
 refine GL.v (.int .i64 0) ?_
 refine GL.k k1 ?_
 refine CG.seq fun K_ k1 => ?_
 refine CG.seq fun K_ k2 => ?_
 refine CG.lin 3 ?_
 refine GL.v (.pointer (some ⟨g22, 0, none⟩)) ?_
 refine GL.r (.agg #[.slice A2 n2 c2]) (fun _ hM => op_load_agg (off := 0) (by kernel_rfl) agg26 siz26 (hM.b 1 rfl) rfl rfl) ?_
 refine GL.call (fun _ hM => none_ok hM.avlt (Zk.dig (hM.f 0 rfl))) ?_
 rintro _ _ _ hM ⟨rfl, hb⟩
 refine ⟨.bool true, _, _, (ret_bool (decide_eq_true (by omega))), hM.call hb, ?_⟩
 refine GL.k k2 ?_
 refine CG.yes ?_ rfl rfl
 refine CG.seq fun K_ k2 => ?_
 refine CG.lin 3 ?_
 refine GL.v (.agg #[.slice none 0 0, .bool false, .slice none 0 0]) ?_
 refine GL.sA (cs' := #[.slice none 0 0, .bool false, .slice none 0 0]) (fun _ _ => Mem.st0) (fun _ hM => hM.b 0 rfl) siz48 ?_
 refine GL.v (.int .i64 9) ?_
 refine GL.k k2 ?_
 refine CG.ret (QG.then_ret (QG.ret (fun _ hM => results_two rfl (res_cell rfl (loadVar_agg agg48 siz48 (hM.b 0 rfl) rfl rfl)) (res_tmp rfl)) ?_))
 intro _ hM
 exact ⟨_, _, _, _, _, _, _, rfl, (hM.out (Rk.nil _ _ none none 0 0)), hM.below⟩

set_option maxRecDepth 100000 in
set_option maxHeartbeats 400000 in
theorem RCmp_ok {w : World} {X : Nat → Prop} {A1 : Option Addr} {n1 : Nat} {c1 : Nat} {m1 : Bool} {A1_ : Option Addr} {n1_ : Nat} {c1_ : Nat} {a : Rat} {A2 : Option Addr} {n2 : Nat} {c2 : Nat} {m2 : Bool} {A2_ : Option Addr} {n2_ : Nat} {c2_ : Nat} {b : Rat} (hX : ∀ k, X k → k < w.heap.size) (h1 : Rk.R X w [.slice A1 n1 c1, .bool m1, .slice A1_ n1_ c1_] a) (h2 : Rk.R X w [.slice A2 n2 c2, .bool m2, .slice A2_ n2_ c2_] b) (p1 : szR a + szR b ≤ 68719476736) :
    Calls Tryz.prog 32 #[.agg #[.slice A1 n1 c1, .bool m1, .slice A1_ n1_ c1_], .agg #[.slice A2 n2 c2, .bool m2, .slice A2_ n2_ c2_]] w (fun e w' => e = .returned (.int .i64 ((a.num * (b.den : Int) - b.num * (a.den : Int)).sign)) ∧ Below w.heap.size w w') := by
 have hna := szR_num a; have hda := szR_den a; have hea := sz_nat a.den
 have hnb := szR_num b; have hdb := szR_den b; have heb := sz_nat b.den
 have hM := ((Mem.start hX).add0 h1).add0 h2
 refine calls_of hM Tryz.func32 Tryz.ntmps32 ?_
 refine CG.seq fun K_ k1 => ?_
 refine CG.lin 3 ?_
 refine GL.bA #[.slice A1 n1 c1, .bool m1, .slice A1_ n1_ c1_] fun g21 => ?_
 refine GL.bA #[.slice A2 n2 c2, .bool m2, .slice A2_ n2_ c2_] fun g22 => ?_
 refine GL.v (.int .i64 0) ?_
 refine GL.k k1 ?_
 refine CG.seq fun K_ k1 => ?_
 refine CG.draw [] [0, 1, 2, 5, 6, 7] (.step 0 (.step 1 (.step 2 (.step 5 (.step 6 (.step 7 (.step 3 (.step 4 (.step 8 (.step 9 (.step 10 (.step 11 .done)))))))))))) (fun V hV23 => ?_)
 refine GD.ev (.pointer (some ⟨g21, 0, none⟩)) ?_
 refine GD.er (.agg #[.slice A1 n1 c1, .bool m1]) (fun _ hS => op_load_agg (off := 0) (by kernel_rfl) agg28 siz28 (hV23.bS 1 rfl hS) rfl rfl) ?_
 refine GD.er (.agg #[.slice A2 n2 c2, .bool m2, .slice A2_ n2_ c2_]) (fun _ hS => op_load_agg (off := 0) (by kernel_rfl) agg48 siz48 (hV23.bS 0 rfl hS) rfl rfl) ?_
 refine GD.ev (.pointer (some ⟨g22, 0, none⟩)) ?_
 refine GD.er (.agg #[.slice A2 n2 c2, .bool m2]) (fun _ hS => op_load_agg (off := 0) (by kernel_rfl) agg28 siz28 (hV23.bS 0 rfl hS) rfl rfl) ?_
 refine GD.er (.agg #[.slice A1 n1 c1, .bool m1, .slice A1_ n1_ c1_]) (fun _ hS => op_load_agg (off := 0) (by kernel_rfl) agg48 siz48 (hV23.bS 1 rfl hS) rfl rfl) ?_
 refine GD.call (fun _ hM => bottom_ok hM.avlt (hM.f 0 rfl) (by first | assumption | omega)) ?_
 rintro _ _ _ hM ⟨A24, n24, c24, m24, rfl, h24, hb⟩
 have hs24 := sz_nat b.den
 have ht24 := szR_den b
 refine ⟨_, _, _, rfl, hb, (hM.call hb).add h24, ?_⟩
 refine GD.call (fun _ hM => Mul_ok hM.avlt (Rk.top (hM.f 2 rfl)) (hM.f 0 rfl) (by first | assumption | omega)) ?_
 rintro _ _ _ hM ⟨A25, n25, c25, m25, rfl, h25, hb⟩
 have hs25 := sz_mul a.num (b.den : Int)
 refine ⟨_, _, _, rfl, hb, (hM.call hb).add h25, ?_⟩
 refine GD.call (fun _ hM => bottom_ok hM.avlt (hM.f 3 rfl) (by first | assumption | omega)) ?_
 rintro _ _ _ hM ⟨A26, n26, c26, m26, rfl, h26, hb⟩
 have hs26 := sz_nat a.den
 have ht26 := szR_den a
 refine ⟨_, _, _, rfl, hb, (hM.call hb).add h26, ?_⟩
 refine GD.call (fun _ hM => Mul_ok hM.avlt (Rk.top (hM.f 3 rfl)) (hM.f 0 rfl) (by first | assumption | omega)) ?_
 rintro _ _ _ hM ⟨A27, n27, c27, m27, rfl, h27, hb⟩
 have hs27 := sz_mul b.num (a.den : Int)
 refine ⟨_, _, _, rfl, hb, (hM.call hb).add h27, ?_⟩
 refine GD.call (fun _ hM => Cmp_ok hM.avlt (hM.f 2 rfl) (hM.f 0 rfl) (by first | assumption | omega)) ?_
 rintro _ _ _ hM ⟨rfl, hb⟩
 refine ⟨_, _, _, rfl, hb, hM.call hb, ?_⟩
 refine GD.v (.int .i64 (((a.num * (b.den : Int)) - (b.num * (a.den : Int))).sign)) ?_
 refine GD.k k1 ?_
 refine CG.ret (QG.ret (fun _ hM => results_one rfl (res_tmp rfl)) ?_)
 intro _ hM
 exact ⟨rfl, hM.below⟩

set_option maxRecDepth 100000 in
set_option maxHeartbeats 400000 in
theorem RAdd_ok {w : World} {X : Nat → Prop} {A1 : Option Addr} {n1 : Nat} {c1 : Nat} {m1 : Bool} {A1_ : Option Addr} {n1_ : Nat} {c1_ : Nat} {a : Rat} {A2 : Option Addr} {n2 : Nat} {c2 : Nat} {m2 : Bool} {A2_ : Option Addr} {n2_ : Nat} {c2_ : Nat} {b : Rat} (hX : ∀ k, X k → k < w.heap.size) (h1 : Rk.R X w [.slice A1 n1 c1, .bool m1, .slice A1_ n1_ c1_] a) (h2 : Rk.R X w [.slice A2 n2 c2, .bool m2, .slice A2_ n2_ c2_] b) (p1 : szR a + szR b ≤ 68719476736) :
    Calls Tryz.prog 67 #[.agg #[.slice A1 n1 c1, .bool m1, .slice A1_ n1_ c1_], .agg #[.slice A2 n2 c2, .bool m2, .slice A2_ n2_ c2_]] w (fun e w' => ∃ Ar nr cr mr Ar_ nr_ cr_, e = .returned (.agg #[.slice Ar nr cr, .bool mr, .slice Ar_ nr_ cr_]) ∧ Rk.R X w' [.slice Ar nr cr, .bool mr, .slice Ar_ nr_ cr_] (a + b) ∧ Below w.heap.size w w') := by
 have hna := szR_num a; have hda := szR_den a; have hea := sz_nat a.den
 have hnb := szR_num b; have hdb := szR_den b; have heb := sz_nat b.den
 have hM := ((Mem.start hX).add0 h1).add0 h2
 refine calls_of hM Tryz.func67 Tryz.ntmps67 ?_
 refine CG.seq fun K_ k1 => ?_
 refine CG.lin 3 ?_
 refine GL.bA #[.slice A1 n1 c1, .bool m1, .slice A1_ n1_ c1_] fun g21 => ?_
 refine GL.bA #[.slice A2 n2 c2, .bool m2, .slice A2_ n2_ c2_] fun g22 => ?_
 refine GL.aA zer48 fun g23 => ?_
 refine GL.k k1 ?_
 refine CG.seq fun K_ k1 => ?_
 refine CG.cut (fun a_ u_ => ∃ (A25 : Option Addr) (n25 : Nat) (c25 : Nat) (m25 : Bool) (A26 : Option Addr) (n26 : Nat) (c26 : Nat) (m26 : Bool) (g27 : Nat) (g28 : Nat), a_ = ⟨#[.agg #[.slice A1 n1 c1, .bool m1, .slice A1_ n1_ c1_], .agg #[.slice A2 n2 c2, .bool m2, .slice A2_ n2_ c2_], .pointer (some ⟨g21, 0, none⟩), .pointer (some ⟨g22, 0, none⟩), .pointer (some ⟨g23, 0, none⟩), .pointer (some ⟨g27, 0, none⟩), .pointer (some ⟨g28, 0, none⟩), .agg #[.slice A1 n1 c1, .bool m1, .slice A1_ n1_ c1_], .agg #[.slice A25 n25 c25, .bool m25], .agg #[.slice A2 n2 c2, .bool m2, .slice A2_ n2_ c2_], .agg #[.slice A26 n26 c26, .bool m26], undef, undef, undef, undef, undef, undef, undef, undef, undef, undef, undef, undef, undef], []⟩ ∧ Mem w [] X u_ [.box g28 #[.slice A26 n26 c26, .bool m26] 28, .box g27 #[.slice A25 n25 c25, .bool m25] 28, .box g23 #[.slice none 0 0, .bool false, .slice none 0 0] 48, .box g22 #[.slice A2 n2 c2, .bool m2, .slice A2_ n2_ c2_] 48, .box g21 #[.slice A1 n1 c1, .bool m1, .slice A1_ n1_ c1_] 48] [⟨Zk, [.slice A26 n26 c26, .bool m26], (b.den : Int)⟩, ⟨Zk, [.slice A25 n25 c25, .bool m25], (a.den : Int)⟩, ⟨Rk, [.slice A2 n2 c2, .bool m2, .slice A2_ n2_ c2_], b⟩, ⟨Rk, [.slice A1 n1 c1, .bool m1, .slice A1_ n1_ c1_], a⟩]) ?_ ?_
 · skip
   refine CG.draw [] [0, 2] (.step 0 (.step 2 (.fork 1 (.fork 3 (.fork 4 (.step 5 (.step 6 (.step 7 .done))) (.step 5 (.step 4 (.step 6 (.step 7 .done))))) (.fork 4 (.fork 3 (.step 5 (.step 6 (.step 7 .done))) (.step 5 (.step 3 (.step 6 (.step 7 .done))))) (.step 5 (.fork 3 (.step 4 (.step 6 (.step 7 .done))) (.step 4 (.step 3 (.step 6 (.step 7 .done)))))))) (.fork 4 (.fork 1 (.fork 3 (.step 5 (.step 6 (.step 7 .done))) (.step 5 (.step 3 (.step 6 (.step 7 .done))))) (.step 5 (.step 1 (.step 3 (.step 6 (.step 7 .done)))))) (.step 5 (.fork 1 (.fork 3 (.step 4 (.step 6 (.step 7 .done))) (.step 4 (.step 3 (.step 6 (.step 7 .done))))) (.step 4 (.step 1 (.step 3 (.step 6 (.step 7 .done))))))))))) (fun V hV24 => ?_)
   refine GD.er (.agg #[.slice A1 n1 c1, .bool m1, .slice A1_ n1_ c1_]) (fun _ hS => op_load_agg (off := 0) (by kernel_rfl) agg48 siz48 (hV24.bS 2 rfl hS) rfl rfl) ?_
   refine GD.er (.agg #[.slice A2 n2 c2, .bool m2, .slice A2_ n2_ c2_]) (fun _ hS => op_load_agg (off := 0) (by kernel_rfl) agg48 siz48 (hV24.bS 1 rfl hS) rfl rfl) ?_
   refine GD.fork ?_ ?_
   · skip
     refine GD.call (fun _ hM => bottom_ok hM.avlt (hM.f 1 rfl) (by first | assumption | omega)) ?_
     rintro _ _ _ hM ⟨A25, n25, c25, m25, rfl, h25, hb⟩
     have hs25 := sz_nat a.den
     have ht25 := szR_den a
     refine ⟨_, _, _, rfl, hb, (hM.call hb).add h25, ?_⟩
     refine GD.fork ?_ ?_
     · skip
       refine GD.call (fun _ hM => bottom_ok hM.avlt (hM.f 1 rfl) (by first | assumption | omega)) ?_
       rintro _ _ _ hM ⟨A26, n26, c26, m26, rfl, h26, hb⟩
       have hs26 := sz_nat b.den
       have ht26 := szR_den b
       refine ⟨_, _, _, rfl, hb, (hM.call hb).add h26, ?_⟩
       refine GD.fork ?_ ?_
       · skip
         refine GD.bx (fun _ => op_alloc zer28) fun g27 hg27 => ?_
         refine GD.bx (fun _ => op_alloc zer28) fun g28 hg28 => ?_
         refine GD.sn hg27 (fun _ _ => Mem.st1) (fun _ hM => store_all (cs' := #[.slice A25 n25 c25, .bool m25]) siz28 (hM.b 1 rfl) (by kernel_rfl) (by kernel_rfl) rfl rfl rfl) ?_
         refine GD.sn hg28 (fun _ _ => Mem.st0) (fun _ hM => store_all (cs' := #[.slice A26 n26 c26, .bool m26]) siz28 (hM.b 0 rfl) (by kernel_rfl) (by kernel_rfl) rfl rfl rfl) ?_
         refine GD.q (QG.cut fun _ hM => ?_)
         exact ⟨A25, n25, c25, m25, A26, n26, c26, m26, g27, g28, rfl, ((((hM.clr).add (hM.f 3 rfl)).add (hM.f 2 rfl)).add (hM.f 1 rfl)).add (hM.f 0 rfl)⟩
       refine GD.bx (fun _ => op_alloc zer28) fun g29 hg29 => ?_
       refine GD.bx (fun _ => op_alloc zer28) fun g30 hg30 => ?_
       refine GD.sn hg30 (fun _ _ => Mem.st0) (fun _ hM => store_all (cs' := #[.slice A25 n25 c25, .bool m25]) siz28 (hM.b 0 rfl) (by kernel_rfl) (by kernel_rfl) rfl rfl rfl) ?_
       refine GD.sn hg29 (fun _ _ => Mem.st1) (fun _ hM => store_all (cs' := #[.slice A26 n26 c26, .bool m26]) siz28 (hM.b 1 rfl) (by kernel_rfl) (by kernel_rfl) rfl rfl rfl) ?_
       refine GD.q (QG.cut fun _ hM => ?_)
       replace hM := hM.swap0
       exact ⟨A25, n25, c25, m25, A26, n26, c26, m26, g30, g29, rfl, ((((hM.clr).add (hM.f 3 rfl)).add (hM.f 2 rfl)).add (hM.f 1 rfl)).add (hM.f 0 rfl)⟩
     refine GD.fork ?_ ?_
     · skip
       refine GD.bx (fun _ => op_alloc zer28) fun g31 hg31 => ?_
       refine GD.fork ?_ ?_
       · skip
         refine GD.call (fun _ hM => bottom_ok hM.avlt (hM.f 1 rfl) (by first | assumption | omega)) ?_
         rintro _ _ _ hM ⟨A32, n32, c32, m32, rfl, h32, hb⟩
         have hs32 := sz_nat b.den
         have ht32 := szR_den b
         refine ⟨_, _, _, rfl, hb, (hM.call hb).add h32, ?_⟩
         refine GD.bx (fun _ => op_alloc zer28) fun g33 hg33 => ?_
         refine GD.sn hg31 (fun _ _ => Mem.st1) (fun _ hM => store_all (cs' := #[.slice A25 n25 c25, .bool m25]) siz28 (hM.b 1 rfl) (by kernel_rfl) (by kernel_rfl) rfl rfl rfl) ?_
         refine GD.sn hg33 (fun _ _ => Mem.st0) (fun _ hM => store_all (cs' := #[.slice A32 n32 c32, .bool m32]) siz28 (hM.b 0 rfl) (by kernel_rfl) (by kernel_rfl) rfl rfl rfl) ?_
         refine GD.q (QG.cut fun _ hM => ?_)
         exact ⟨A25, n25, c25, m25, A32, n32, c32, m32, g31, g33, rfl, ((((hM.clr).add (hM.f 3 rfl)).add (hM.f 2 rfl)).add (hM.f 1 rfl)).add (hM.f 0 rfl)⟩
       refine GD.bx (fun _ => op_alloc zer28) fun g34 hg34 => ?_
       refine GD.call (fun _ hM => bottom_ok hM.avlt (hM.f 1 rfl) (by first | assumption | omega)) ?_
       rintro _ _ _ hM ⟨A35, n35, c35, m35, rfl, h35, hb⟩
       have hs35 := sz_nat b.den
       have ht35 := szR_den b
       refine ⟨_, _, _, rfl, hb, (hM.call hb).add h35, ?_⟩
       refine GD.sn hg31 (fun _ _ => Mem.st1) (fun _ hM => store_all (cs' := #[.slice A25 n25 c25, .bool m25]) siz28 (hM.b 1 rfl) (by kernel_rfl) (by kernel_rfl) rfl rfl rfl) ?_
       refine GD.sn hg34 (fun _ _ => Mem.st0) (fun _ hM => store_all (cs' := #[.slice A35 n35 c35, .bool m35]) siz28 (hM.b 0 rfl) (by kernel_rfl) (by kernel_rfl) rfl rfl rfl) ?_
       refine GD.q (QG.cut fun _ hM => ?_)
       exact ⟨A25, n25, c25, m25, A35, n35, c35, m35, g31, g34, rfl, ((((hM.clr).add (hM.f 3 rfl)).add (hM.f 2 rfl)).add (hM.f 1 rfl)).add (hM.f 0 rfl)⟩
     refine GD.bx (fun _ => op_alloc zer28) fun g36 hg36 => ?_
     refine GD.fork ?_ ?_
     · skip
       refine GD.call (fun _ hM => bottom_ok hM.avlt (hM.f 1 rfl) (by first | assumption | omega)) ?_
       rintro _ _ _ hM ⟨A37, n37, c37, m37, rfl, h37, hb⟩
       have hs37 := sz_nat b.den
       have ht37 := szR_den b
       refine ⟨_, _, _, rfl, hb, (hM.call hb).add h37, ?_⟩
       refine GD.bx (fun _ => op_alloc zer28) fun g38 hg38 => ?_
       refine GD.sn hg38 (fun _ _ => Mem.st0) (fun _ hM => store_all (cs' := #[.slice A25 n25 c25, .bool m25]) siz28 (hM.b 0 rfl) (by kernel_rfl) (by kernel_rfl) rfl rfl rfl) ?_
       refine GD.sn hg36 (fun _ _ => Mem.st1) (fun _ hM => store_all (cs' := #[.slice A37 n37 c37, .bool m37]) siz28 (hM.b 1 rfl) (by kernel_rfl) (by kernel_rfl) rfl rfl rfl) ?_
       refine GD.q (QG.cut fun _ hM => ?_)
       replace hM := hM.swap0
       exact ⟨A25, n25, c25, m25, A37, n37, c37, m37, g38, g36, rfl, ((((hM.clr).add (hM.f 3 rfl)).add (hM.f 2 rfl)).add (hM.f 1 rfl)).add (hM.f 0 rfl)⟩
     refine GD.bx (fun _ => op_alloc zer28) fun g39 hg39 => ?_
     refine GD.call (fun _ hM => bottom_ok hM.avlt (hM.f 1 rfl) (by first | assumption | omega)) ?_
     rintro _ _ _ hM ⟨A40, n40, c40, m40, rfl, h40, hb⟩
     have hs40 := sz_nat b.den
     have ht40 := szR_den b
     refine ⟨_, _, _, rfl, hb, (hM.call hb).add h40, ?_⟩
     refine GD.sn hg39 (fun _ _ => Mem.st0) (fun _ hM => store_all (cs' := #[.slice A25 n25 c25, .bool m25]) siz28 (hM.b 0 rfl) (by kernel_rfl) (by kernel_rfl) rfl rfl rfl) ?_
     refine GD.sn hg36 (fun _ _ => Mem.st1) (fun _ hM => store_all (cs' := #[.slice A40 n40 c40, .bool m40]) siz28 (hM.b 1 rfl) (by kernel_rfl) (by kernel_rfl) rfl rfl rfl) ?_
     refine GD.q (QG.cut fun _ hM => ?_)
     replace hM := hM.swap0
     exact ⟨A25, n25, c25, m25, A40, n40, c40, m40, g39, g36, rfl, ((((hM.clr).add (hM.f 3 rfl)).add (hM.f 2 rfl)).add (hM.f 1 rfl)).add (hM.f 0 rfl)⟩
   refine GD.fork ?_ ?_
   · skip
     refine GD.bx (fun _ => op_alloc zer28) fun g41 hg41 => ?_
     refine GD.fork ?_ ?_
     · skip
       refine GD.call (fun _ hM => bottom_ok hM.avlt (hM.f 1 rfl) (by first | assumption | omega)) ?_
       rintro _ _ _ hM ⟨A42, n42, c42, m42, rfl, h42, hb⟩
       have hs42 := sz_nat a.den
       have ht42 := szR_den a
       refine ⟨_, _, _, rfl, hb, (hM.call hb).add h42, ?_⟩
       refine GD.fork ?_ ?_
       · skip
         refine GD.call (fun _ hM => bottom_ok hM.avlt (hM.f 1 rfl) (by first | assumption | omega)) ?_
         rintro _ _ _ hM ⟨A43, n43, c43, m43, rfl, h43, hb⟩
         have hs43 := sz_nat b.den
         have ht43 := szR_den b
         refine ⟨_, _, _, rfl, hb, (hM.call hb).add h43, ?_⟩
         refine GD.bx (fun _ => op_alloc zer28) fun g44 hg44 => ?_
         refine GD.sn hg41 (fun _ _ => Mem.st1) (fun _ hM => store_all (cs' := #[.slice A42 n42 c42, .bool m42]) siz28 (hM.b 1 rfl) (by kernel_rfl) (by kernel_rfl) rfl rfl rfl) ?_
         refine GD.sn hg44 (fun _ _ => Mem.st0) (fun _ hM => store_all (cs' := #[.slice A43 n43 c43, .bool m43]) siz28 (hM.b 0 rfl) (by kernel_rfl) (by kernel_rfl) rfl rfl rfl) ?_
         refine GD.q (QG.cut fun _ hM => ?_)
         exact ⟨A42, n42, c42, m42, A43, n43, c43, m43, g41, g44, rfl, ((((hM.clr).add (hM.f 3 rfl)).add (hM.f 2 rfl)).add (hM.f 1 rfl)).add (hM.f 0 rfl)⟩
       refine GD.bx (fun _ => op_alloc zer28) fun g45 hg45 => ?_
       refine GD.call (fun _ hM => bottom_ok hM.avlt (hM.f 1 rfl) (by first | assumption | omega)) ?_
       rintro _ _ _ hM ⟨A46, n46, c46, m46, rfl, h46, hb⟩
       have hs46 := sz_nat b.den
       have ht46 := szR_den b
       refine ⟨_, _, _, rfl, hb, (hM.call hb).add h46, ?_⟩
       refine GD.sn hg41 (fun _ _ => Mem.st1) (fun _ hM => store_all (cs' := #[.slice A42 n42 c42, .bool m42]) siz28 (hM.b 1 rfl) (by kernel_rfl) (by kernel_rfl) rfl rfl rfl) ?_
       refine GD.sn hg45 (fun _ _ => Mem.st0) (fun _ hM => store_all (cs' := #[.slice A46 n46 c46, .bool m46]) siz28 (hM.b 0 rfl) (by kernel_rfl) (by kernel_rfl) rfl rfl rfl) ?_
       refine GD.q (QG.cut fun _ hM => ?_)
       exact ⟨A42, n42, c42, m42, A46, n46, c46, m46, g41, g45, rfl, ((((hM.clr).add (hM.f 3 rfl)).add (hM.f 2 rfl)).add (hM.f 1 rfl)).add (hM.f 0 rfl)⟩
     refine GD.bx (fun _ => op_alloc zer28) fun g47 hg47 => ?_
     refine GD.call (fun _ hM => bottom_ok hM.avlt (hM.f 1 rfl) (by first | assumption | omega)) ?_
     rintro _ _ _ hM ⟨A48, n48, c48, m48, rfl, h48, hb⟩
     have hs48 := sz_nat a.den
     have ht48 := szR_den a
     refine ⟨_, _, _, rfl, hb, (hM.call hb).add h48, ?_⟩
     refine GD.call (fun _ hM => bottom_ok hM.avlt (hM.f 1 rfl) (by first | assumption | omega)) ?_
     rintro _ _ _ hM ⟨A49, n49, c49, m49, rfl, h49, hb⟩
     have hs49 := sz_nat b.den
     have ht49 := szR_den b
     refine ⟨_, _, _, rfl, hb, (hM.call hb).add h49, ?_⟩
     refine GD.sn hg41 (fun _ _ => Mem.st1) (fun _ hM => store_all (cs' := #[.slice A48 n48 c48, .bool m48]) siz28 (hM.b 1 rfl) (by kernel_rfl) (by kernel_rfl) rfl rfl rfl) ?_
     refine GD.sn hg47 (fun _ _ => Mem.st0) (fun _ hM => store_all (cs' := #[.slice A49 n49 c49, .bool m49]) siz28 (hM.b 0 rfl) (by kernel_rfl) (by kernel_rfl) rfl rfl rfl) ?_
     refine GD.q (QG.cut fun _ hM => ?_)
     exact ⟨A48, n48, c48, m48, A49, n49, c49, m49, g41, g47, rfl, ((((hM.clr).add (hM.f 3 rfl)).add (hM.f 2 rfl)).add (hM.f 1 rfl)).add (hM.f 0 rfl)⟩
   refine GD.bx (fun _ => op_alloc zer28) fun g50 hg50 => ?_
   refine GD.fork ?_ ?_
   · skip
     refine GD.call (fun _ hM => bottom_ok hM.avlt (hM.f 1 rfl) (by first | assumption | omega)) ?_
     rintro _ _ _ hM ⟨A51, n51, c51, m51, rfl, h51, hb⟩
     have hs51 := sz_nat a.den
     have ht51 := szR_den a
     refine ⟨_, _, _, rfl, hb, (hM.call hb).add h51, ?_⟩
     refine GD.fork ?_ ?_
     · skip
       refine GD.call (fun _ hM => bottom_ok hM.avlt (hM.f 1 rfl) (by first | assumption | omega)) ?_
       rintro _ _ _ hM ⟨A52, n52, c52, m52, rfl, h52, hb⟩
       have hs52 := sz_nat b.den
       have ht52 := szR_den b
       refine ⟨_, _, _, rfl, hb, (hM.call hb).add h52, ?_⟩
       refine GD.bx (fun _ => op_alloc zer28) fun g53 hg53 => ?_
       refine GD.sn hg53 (fun _ _ => Mem.st0) (fun _ hM => store_all (cs' := #[.slice A51 n51 c51, .bool m51]) siz28 (hM.b 0 rfl) (by kernel_rfl) (by kernel_rfl) rfl rfl rfl) ?_
       refine GD.sn hg50 (fun _ _ => Mem.st1) (fun _ hM => store_all (cs' := #[.slice A52 n52 c52, .bool m52]) siz28 (hM.b 1 rfl) (by kernel_rfl) (by kernel_rfl) rfl rfl rfl) ?_
       refine GD.q (QG.cut fun _ hM => ?_)
       replace hM := hM.swap0
       exact ⟨A51, n51, c51, m51, A52, n52, c52, m52, g53, g50, rfl, ((((hM.clr).add (hM.f 3 rfl)).add (hM.f 2 rfl)).add (hM.f 1 rfl)).add (hM.f 0 rfl)⟩
     refine GD.bx (fun _ => op_alloc zer28) fun g54 hg54 => ?_
     refine GD.call (fun _ hM => bottom_ok hM.avlt (hM.f 1 rfl) (by first | assumption | omega)) ?_
     rintro _ _ _ hM ⟨A55, n55, c55, m55, rfl, h55, hb⟩
     have hs55 := sz_nat b.den
     have ht55 := szR_den b
     refine ⟨_, _, _, rfl, hb, (hM.call hb).add h55, ?_⟩
     refine GD.sn hg54 (fun _ _ => Mem.st0) (fun _ hM => store_all (cs' := #[.slice A51 n51 c51, .bool m51]) siz28 (hM.b 0 rfl) (by kernel_rfl) (by kernel_rfl) rfl rfl rfl) ?_
     refine GD.sn hg50 (fun _ _ => Mem.st1) (fun _ hM => store_all (cs' := #[.slice A55 n55 c55, .bool m55]) siz28 (hM.b 1 rfl) (by kernel_rfl) (by kernel_rfl) rfl rfl rfl) ?_
     refine GD.q (QG.cut fun _ hM => ?_)
     replace hM := hM.swap0
     exact ⟨A51, n51, c51, m51, A55, n55, c55, m55, g54, g50, rfl, ((((hM.clr).add (hM.f 3 rfl)).add (hM.f 2 rfl)).add (hM.f 1 rfl)).add (hM.f 0 rfl)⟩
   refine GD.bx (fun _ => op_alloc zer28) fun g56 hg56 => ?_
   refine GD.call (fun _ hM => bottom_ok hM.avlt (hM.f 1 rfl) (by first | assumption | omega)) ?_
   rintro _ _ _ hM ⟨A57, n57, c57, m57, rfl, h57, hb⟩
   have hs57 := sz_nat a.den
   have ht57 := szR_den a
   refine ⟨_, _, _, rfl, hb, (hM.call hb).add h57, ?_⟩
   refine GD.call (fun _ hM => bottom_ok hM.avlt (hM.f 1 rfl) (by first | assumption | omega)) ?_
   rintro _ _ _ hM ⟨A58, n58, c58, m58, rfl, h58, hb⟩
   have hs58 := sz_nat b.den
   have ht58 := szR_den b
   refine ⟨_, _, _, rfl, hb, (hM.call hb).add h58, ?_⟩
   refine GD.sn hg56 (fun _ _ => Mem.st0) (fun _ hM => store_all (cs' := #[.slice A57 n57 c57, .bool m57]) siz28 (hM.b 0 rfl) (by kernel_rfl) (by kernel_rfl) rfl rfl rfl) ?_
   refine GD.sn hg50 (fun _ _ => Mem.st1) (fun _ hM => store_all (cs' := #[.slice A58 n58 c58, .bool m58]) siz28 (hM.b 1 rfl) (by kernel_rfl) (by kernel_rfl) rfl rfl rfl) ?_
   refine GD.q (QG.cut fun _ hM => ?_)
   replace hM := hM.swap0
   exact ⟨A57, n57, c57, m57, A58, n58, c58, m58, g56, g50, rfl, ((((hM.clr).add (hM.f 3 rfl)).add (hM.f 2 rfl)).add (hM.f 1 rfl)).add (hM.f 0 rfl)⟩
 · skip
   rintro a_ u_ ⟨A25, n25, c25, m25, A26, n26, c26, m26, g27, g28, rfl, hM⟩
   refine QG.go hM ?_
   refine QG.k k1 ?_
   refine CG.seq fun K_ k1 => ?_
   refine CG.draw [] [0, 1, 2, 4, 5, 6, 9, 10] (.step 0 (.step 1 (.step 2 (.step 4 (.step 5 (.step 6 (.step 9 (.step 10 (.step 3 (.step 7 (.step 8 (.step 11 (.step 12 (.step 13 .done)))))))))))))) (fun V hV59 => ?_)
   refine GD.ev (.pointer (some ⟨g21, 0, none⟩)) ?_
   refine GD.er (.agg #[.slice A1 n1 c1, .bool m1]) (fun _ hS => op_load_agg (off := 0) (by kernel_rfl) agg28 siz28 (hV59.bS 4 rfl hS) rfl rfl) ?_
   refine GD.er (.agg #[.slice A26 n26 c26, .bool m26]) (fun _ hS => op_load_agg (off := 0) (by kernel_rfl) agg28 siz28 (hV59.bS 0 rfl hS) rfl rfl) ?_
   refine GD.ev (.pointer (some ⟨g22, 0, none⟩)) ?_
   refine GD.er (.agg #[.slice A2 n2 c2, .bool m2]) (fun _ hS => op_load_agg (off := 0) (by kernel_rfl) agg28 siz28 (hV59.bS 3 rfl hS) rfl rfl) ?_
   refine GD.er (.agg #[.slice A25 n25 c25, .bool m25]) (fun _ hS => op_load_agg (off := 0) (by kernel_rfl) agg28 siz28 (hV59.bS 1 rfl hS) rfl rfl) ?_
   refine GD.er (.agg #[.slice A25 n25 c25, .bool m25]) (fun _ hS => op_load_agg (off := 0) (by kernel_rfl) agg28 siz28 (hV59.bS 1 rfl hS) rfl rfl) ?_
   refine GD.er (.agg #[.slice A26 n26 c26, .bool m26]) (fun _ hS => op_load_agg (off := 0) (by kernel_rfl) agg28 siz28 (hV59.bS 0 rfl hS) rfl rfl) ?_
   refine GD.call (fun _ hM => Mul_ok hM.avlt (Rk.top (hM.f 3 rfl)) (hM.f 0 rfl) (by first | assumption | omega)) ?_
   rintro _ _ _ hM ⟨A60, n60, c60, m60, rfl, h60, hb⟩
   have hs60 := sz_mul a.num (b.den : Int)
   refine ⟨_, _, _, rfl, hb, (hM.call hb).add h60, ?_⟩
   refine GD.call (fun _ hM => Mul_ok hM.avlt (Rk.top (hM.f 3 rfl)) (hM.f 2 rfl) (by first | assumption | omega)) ?_
   rintro _ _ _ hM ⟨A61, n61, c61, m61, rfl, h61, hb⟩
   have hs61 := sz_mul b.num (a.den : Int)
   refine ⟨_, _, _, rfl, hb, (hM.call hb).add h61, ?_⟩
   refine GD.call (fun _ hM => Add_ok hM.avlt (hM.f 1 rfl) (hM.f 0 rfl) (by first | assumption | omega)) ?_
   rintro _ _ _ hM ⟨A62, n62, c62, m62, rfl, h62, hb⟩
   have hs62 := sz_add ((a.num * (b.den : Int))) ((b.num * (a.den : Int)))
   refine ⟨_, _, _, rfl, hb, (hM.call hb).add h62, ?_⟩
   refine GD.call (fun _ hM => Mul_ok hM.avlt (hM.f 4 rfl) (hM.f 3 rfl) (by first | assumption | omega)) ?_
   rintro _ _ _ hM ⟨A63, n63, c63, m63, rfl, h63, hb⟩
   have hs63 := sz_mul (a.den : Int) (b.den : Int)
   refine ⟨_, _, _, rfl, hb, (hM.call hb).add h63, ?_⟩
   refine GD.call (fun _ hM => ratio_ok hM.avlt (hM.f 1 rfl) (hM.f 0 rfl) (RatFacts.den2 a b) (by first | assumption | omega)) ?_
   rintro _ _ _ hM ⟨A64, n64, c64, m64, A64_, n64_, c64_, rfl, h64, hb⟩
   refine ⟨_, _, _, rfl, hb, (hM.call hb).add h64, ?_⟩
   refine GD.st (fun _ _ => Mem.st2) (fun _ hM => store_all (cs' := #[.slice A64 n64 c64, .bool m64, .slice A64_ n64_ c64_]) siz48 (hM.b 2 rfl) (by kernel_rfl) (by kernel_rfl) rfl rfl rfl) ?_
   refine GD.k k1 ?_
   refine CG.ret (QG.ret (fun _ hM => results_one rfl (res_cell rfl (loadVar_agg agg48 siz48 (hM.b 2 rfl) rfl rfl))) ?_)
   intro _ hM
   exact ⟨_, _, _, _, _, _, _, rfl, (RatFacts.add a b ▸ (hM.out (hM.f 0 rfl))), hM.below⟩

set_option maxRecDepth 100000 in
set_option maxHeartbeats 400000 in
theorem text_ok {w : World} {X : Nat → Prop} {A1 : Option Addr} {n1 : Nat} {c1 : Nat} {x : Nat} (hX : ∀ k, X k → k < w.heap.size) (h1 : Dk.R X w [.slice A1 n1 c1] x) (p1 : szn x ≤ 1099511627000) :
    Calls Tryz.prog 116 #[.agg #[.slice A1 n1 c1]] w (fun e w' => e = .returned (.string (bs (dec x))) ∧ Below w.heap.size w w') := by
 have hM := (Mem.start hX).add0 h1
 have l1 := Dk.le h1
 have m1 := Dk.len h1
 refine calls_of hM Tryz.func116 Tryz.ntmps116 ?_
 refine CG.seq fun K_ k1 => ?_
 refine CG.lin 2 ?_
 refine GL.bA #[.slice A1 n1 c1] fun g21 => ?_
 refine GL.v (.string (bs [])) ?_
 refine GL.k k1 ?_
 refine CG.seq fun K_ k1 => ?_
 refine CG.lin 1 ?_
 refine GL.v (.slice none 0 0) ?_
 refine GL.k k1 ?_
 refine CG.seq fun K_ k1 => ?_
 refine CG.block ?_
 refine CG.loop (fun m_ a_ u_ => ∃ (Aa : Option Addr) (na : Nat) (ca : Nat) (a : Nat) (A3 : Option Addr) (n3 : Nat) (c3 : Nat) (P : List (List UInt8)) (j22 : Nat → Value), a_ = ⟨#[.agg #[.slice A1 n1 c1], .pointer (some ⟨g21, 0, none⟩), .string (bs []), .slice A3 n3 c3, (j22 4), (j22 5), (j22 6), (j22 7), (j22 8), undef, (j22 10), (j22 11), (j22 12), (j22 13), (j22 14), (j22 15), (j22 16), (j22 17), (j22 18), (j22 19), (j22 20), (j22 21), (j22 22), (j22 23), (j22 24), (j22 25), (j22 26), (j22 27), (j22 28), (j22 29), (j22 30), (j22 31), (j22 32), (j22 33), (j22 34), (j22 35), (j22 36), (j22 37), (j22 38), (j22 39), (j22 40), (j22 41), (j22 42), (j22 43), (j22 44), undef, undef, undef, undef, undef, undef], []⟩ ∧ m_ = a ∧ Mem w [] X u_ [.box g21 #[.slice Aa na ca] 26] [⟨Dk, [.slice Aa na ca], a⟩, ⟨SLk, [.slice A3 n3 c3], P⟩, ⟨Dk, [.slice A1 n1 c1], x⟩] ∧ (a = x / 10000000 ^ P.length) ∧ (P.flatten = pad (7 * P.length) x) ∧ (P.length ≤ 2 * szn x)) (fun _ hM => ⟨_, A1, n1, c1, x, none, 0, 0, [], (fun t => (#[.agg #[.slice A1 n1 c1], .pointer (some ⟨g21, 0, none⟩), .string (bs []), .slice none 0 0, undef, undef, undef, undef, undef, undef, undef, undef, undef, undef, undef, undef, undef, undef, undef, undef, undef, undef, undef, undef, undef, undef, undef, undef, undef, undef, undef, undef, undef, undef, undef, undef, undef, undef, undef, undef, undef, undef, undef, undef, undef, undef, undef, undef, undef, undef, undef] : Array Value).getD t undef), (by kernel_rfl), rfl, (((hM.clr).add (hM.f 0 rfl)).add (SLk.nil _ _ _ _)).add (hM.f 0 rfl), (by simp), rfl, (by simp)⟩) ?_
 rintro m_ a_ u_ ⟨Aa, na, ca, a, A3, n3, c3, P, j22, rfl, hm22, hM, ha, hP, hn⟩
 have hlP := SLk.len (hM.f 1 rfl)
 have hsa : szn a ≤ szn x := by rw [ha]; exact szn_mono (Nat.div_le_self _ _)
 have hs10 : szn 10000000 ≤ 1 := szn_small 1 (by decide)
 refine CG.go hM ?_
 refine CG.seq fun K_ k2 => ?_
 refine CG.seq fun K_ k3 => ?_
 refine CG.lin 3 ?_
 refine GL.r (.agg #[.slice Aa na ca]) (fun _ hM => op_load_agg (off := 0) (by kernel_rfl) agg26 siz26 (hM.b 0 rfl) rfl rfl) ?_
 refine GL.call (fun _ hM => none_ok hM.avlt (hM.f 0 rfl)) ?_
 rintro _ _ _ hM ⟨rfl, hb⟩
 refine ⟨_, _, _, rfl, hM.call hb, ?_⟩
 refine GL.v (.bool (!(decide (a = 0)))) ?_
 refine GL.k k3 ?_
 by_cases hc24 : ¬ a = 0
 · have hk24 : (!(decide (a = 0))) = true := by simpa using hc24
   refine CG.yes ?_ hk24 rfl
   refine CG.skip ?_
   refine QG.k k2 ?_
   refine CG.block ?_
   refine CG.seq fun K_ k2 => ?_
   refine CG.lin 11 ?_
   refine GL.r (.agg #[.slice Aa na ca]) (fun _ hM => op_load_agg (off := 0) (by kernel_rfl) agg26 siz26 (hM.b 0 rfl) rfl rfl) ?_
   refine GL.row (fun _ => op_build1 rowt24 (v := .int .i64 10000000) (by kernel_rfl) rfl) (fun _ _ _ hm => own_one_i64 hm) fun g25 => ?_
   refine GL.v (.agg #[.slice (some ⟨g25, 0, none⟩) 1 1]) ?_
   refine GL.mem (fun _ hM => hM.pu0 fun hO _ hX => Dk.own (x := 10000000) hO ten7_dg hX) ?_
   refine GL.call (fun _ hM => over_ok hM.avlt (hM.f 1 rfl) (hM.f 0 rfl) (by first | assumption | omega) (by first | assumption | omega)) ?_
   rintro _ _ _ hM ⟨A26a, n26a, c26a, A26b, n26b, c26b, rfl, h26a, h26b, hb⟩
   have hs26 := szn_div a (10000000)
   have ht26 := szn_mod a (10000000)
   refine ⟨_, _, _, rfl, ((hM.call hb).add h26a).add h26b, ?_⟩
   refine GL.v (.tuple #[.agg #[.slice A26a n26a c26a], .agg #[.slice A26b n26b c26b]]) ?_
   refine GL.v (.agg #[.slice A26a n26a c26a]) ?_
   refine GL.v (.agg #[.slice A26b n26b c26b]) ?_
   refine GL.aA zer26 fun g27 => ?_
   refine GL.aA zer26 fun g28 => ?_
   refine GL.sA (cs' := #[.slice A26a n26a c26a]) (fun _ _ => Mem.st1) (fun _ hM => hM.b 1 rfl) siz26 ?_
   refine GL.sA (cs' := #[.slice A26b n26b c26b]) (fun _ _ => Mem.st0) (fun _ hM => hM.b 0 rfl) siz26 ?_
   refine GL.k k2 ?_
   refine CG.seq fun K_ k2 => ?_
   refine CG.lin 3 ?_
   refine GL.r (.agg #[.slice A26b n26b c26b]) (fun _ hM => op_load_agg (off := 0) (by kernel_rfl) agg26 siz26 (hM.b 0 rfl) rfl rfl) ?_
   refine GL.call (fun _ hM => wordof_ok hM.avlt (hM.f 0 rfl) (by first | assumption | omega)) ?_
   rintro _ _ _ hM ⟨rfl, hb⟩
   refine ⟨_, _, _, rfl, hM.call hb, ?_⟩
   refine GL.v (.int .u64 (((a % 10000000) : Nat) : Int)) ?_
   refine GL.k k2 ?_
   refine CG.seq fun K_ k2 => ?_
   refine CG.lin 2 ?_
   refine GL.row (fun _ => op_make rowt154 (kl := .i64) (kc := .i64) (l := (7 : Int)) (c := (7 : Int)) 7 7 (by kernel_rfl) (by kernel_rfl) (by omega) (by omega) (by omega) (by omega) (by omega)) (fun _ _ _ hm => own_made_u8 hm (by omega) (by omega)) fun g30 => ?_
   refine GL.v (.slice (some ⟨g30, 0, none⟩) 7 7) ?_
   refine GL.k k2 ?_
   refine CG.seq fun K_ k2 => ?_
   refine CG.seq fun K_ k3 => ?_
   refine CG.lin 3 ?_
   refine GL.v (.slice (some ⟨g30, 0, none⟩) 7 7) ?_
   refine GL.v (.int .i64 7) ?_
   refine GL.v (.int .i64 0) ?_
   refine GL.k k3 ?_
   refine CG.block ?_
   refine CG.rounds 8 ?_
   refine CG.round ?_
   refine CG.seq fun K_ k3 => ?_
   refine CG.lin 1 ?_
   refine GL.v (.bool true) ?_
   refine GL.k k3 ?_
   refine CG.seq fun K_ k3 => ?_
   refine CG.yes ?_ rfl rfl
   refine CG.skip ?_
   refine QG.k k3 ?_
   refine CG.seq fun K_ k3 => ?_
   refine CG.block ?_
   refine CG.seq fun K_ k4 => ?_
   refine CG.lin 2 ?_
   refine GL.v (.int .i64 0) ?_
   refine GL.v (.int .i64 0) ?_
   refine GL.k k4 ?_
   refine CG.seq fun K_ k4 => ?_
   refine CG.lin 9 ?_
   refine GL.v (.slice (some ⟨g30, 0, none⟩) 7 7) ?_
   refine GL.v (.int .i64 0) ?_
   refine GL.v (.int .i64 6) ?_ (hr := fun u => op_to (v := .int .i64 (IntKind.wrap .i64 ((6 : Int) - (0 : Int)))) (by kernel_rfl) (wrap_i64 (by omega) (by omega) (by omega)))
   refine GL.v (.int .u64 (((a % 10000000) : Nat) : Int)) ?_
   refine GL.v (.int .u64 (((a % 10000000) % 10 : Nat) : Int)) ?_ (hr := fun u => op_to (v := .int .u64 (((((a % 10000000) : Nat) : Int)).tmod 10)) (by kernel_rfl) (rem_to .u64 (by omega) (by omega)))
   refine GL.v (.int .u64 ((48 + ((a % 10000000) % 10) : Nat) : Int)) ?_ (hr := fun u => op_to (v := .int .u64 (IntKind.wrap .u64 ((48 : Int) + (((a % 10000000) % 10 : Nat) : Int)))) (by kernel_rfl) (wrap_u64 (by omega) (by omega) (by omega)))
   refine GL.v (.int .u8 ((48 + ((a % 10000000) % 10) : Nat) : Int)) ?_ (hr := fun u => op_to (v := .int .u8 (IntKind.wrap .u8 ((48 + ((a % 10000000) % 10) : Nat) : Int))) (by kernel_rfl) (wrap_u8 rfl (by omega) (by omega)))
   refine GL.r (elemPtr (some ⟨g30, 0, none⟩) 6) (fun _ hM => op_index rowt154 (c := 7) (k := .i64) (i := (6 : Int)) 6 (by kernel_rfl) (by kernel_rfl) (by omega) (by omega) (hM.o 0 rfl).row _) ?_
   refine GL.el (fun _ _ _ => Mem.el0) (fun _ hM => op_set_u8 6 ((48 + ((a % 10000000) % 10) : Nat) : Int) siz5 (hM.o 0 rfl) (by kernel_rfl) (by kernel_rfl) (by omega)) ?_
   refine GL.k k4 ?_
   refine CG.lin 3 ?_
   refine GL.v (.int .u64 (((a % 10000000) : Nat) : Int)) ?_
   refine GL.v (.int .u64 (((a % 10000000) / 10 : Nat) : Int)) ?_ (hr := fun u => op_to (v := .int .u64 (IntKind.wrap .u64 (((((a % 10000000) : Nat) : Int)).tdiv 10))) (by kernel_rfl) (quo_u64 (by omega) (by omega) (by omega) (by omega)))
   refine GL.v (.int .u64 (((a % 10000000) / 10 : Nat) : Int)) ?_
   refine GL.q ?_
   refine QG.block ?_
   refine QG.k k3 ?_
   refine CG.lin 2 ?_
   refine GL.v (.int .i64 1) ?_ (hr := fun u => op_to (v := .int .i64 (IntKind.wrap .i64 ((0 : Int) + (1 : Int)))) (by kernel_rfl) (wrap_i64 (by omega) (by omega) (by omega)))
   refine GL.v (.int .i64 1) ?_
   refine GL.q ?_
   refine QG.rnd ?_
   refine CG.round ?_
   refine CG.seq fun K_ k3 => ?_
   refine CG.lin 1 ?_
   refine GL.v (.bool true) ?_
   refine GL.k k3 ?_
   refine CG.seq fun K_ k3 => ?_
   refine CG.yes ?_ rfl rfl
   refine CG.skip ?_
   refine QG.k k3 ?_
   refine CG.seq fun K_ k3 => ?_
   refine CG.block ?_
   refine CG.seq fun K_ k4 => ?_
   refine CG.lin 2 ?_
   refine GL.v (.int .i64 1) ?_
   refine GL.v (.int .i64 1) ?_
   refine GL.k k4 ?_
   refine CG.seq fun K_ k4 => ?_
   refine CG.lin 9 ?_
   refine GL.v (.slice (some ⟨g30, 0, none⟩) 7 7) ?_
   refine GL.v (.int .i64 1) ?_
   refine GL.v (.int .i64 5) ?_ (hr := fun u => op_to (v := .int .i64 (IntKind.wrap .i64 ((6 : Int) - (1 : Int)))) (by kernel_rfl) (wrap_i64 (by omega) (by omega) (by omega)))
   refine GL.v (.int .u64 (((a % 10000000) / 10 : Nat) : Int)) ?_
   refine GL.v (.int .u64 ((((a % 10000000) / 10) % 10 : Nat) : Int)) ?_ (hr := fun u => op_to (v := .int .u64 (((((a % 10000000) / 10 : Nat) : Int)).tmod 10)) (by kernel_rfl) (rem_to .u64 (by omega) (by omega)))
   refine GL.v (.int .u64 ((48 + (((a % 10000000) / 10) % 10) : Nat) : Int)) ?_ (hr := fun u => op_to (v := .int .u64 (IntKind.wrap .u64 ((48 : Int) + ((((a % 10000000) / 10) % 10 : Nat) : Int)))) (by kernel_rfl) (wrap_u64 (by omega) (by omega) (by omega)))
   refine GL.v (.int .u8 ((48 + (((a % 10000000) / 10) % 10) : Nat) : Int)) ?_ (hr := fun u => op_to (v := .int .u8 (IntKind.wrap .u8 ((48 + (((a % 10000000) / 10) % 10) : Nat) : Int))) (by kernel_rfl) (wrap_u8 rfl (by omega) (by omega)))
   refine GL.r (elemPtr (some ⟨g30, 0, none⟩) 5) (fun _ hM => op_index rowt154 (c := 7) (k := .i64) (i := (5 : Int)) 5 (by kernel_rfl) (by kernel_rfl) (by omega) (by omega) (hM.o 0 rfl).row _) ?_
   refine GL.el (fun _ _ _ => Mem.el0) (fun _ hM => op_set_u8 5 ((48 + (((a % 10000000) / 10) % 10) : Nat) : Int) siz5 (hM.o 0 rfl) (by kernel_rfl) (by kernel_rfl) (by omega)) ?_
   refine GL.k k4 ?_
   refine CG.lin 3 ?_
   refine GL.v (.int .u64 (((a % 10000000) / 10 : Nat) : Int)) ?_
   refine GL.v (.int .u64 ((((a % 10000000) / 10) / 10 : Nat) : Int)) ?_ (hr := fun u => op_to (v := .int .u64 (IntKind.wrap .u64 (((((a % 10000000) / 10 : Nat) : Int)).tdiv 10))) (by kernel_rfl) (quo_u64 (by omega) (by omega) (by omega) (by omega)))
   refine GL.v (.int .u64 ((((a % 10000000) / 10) / 10 : Nat) : Int)) ?_
   refine GL.q ?_
   refine QG.block ?_
   refine QG.k k3 ?_
   refine CG.lin 2 ?_
   refine GL.v (.int .i64 2) ?_ (hr := fun u => op_to (v := .int .i64 (IntKind.wrap .i64 ((1 : Int) + (1 : Int)))) (by kernel_rfl) (wrap_i64 (by omega) (by omega) (by omega)))
   refine GL.v (.int .i64 2) ?_
   refine GL.q ?_
   refine QG.rnd ?_
   refine CG.round ?_
   refine CG.seq fun K_ k3 => ?_
   refine CG.lin 1 ?_
   refine GL.v (.bool true) ?_
   refine GL.k k3 ?_
   refine CG.seq fun K_ k3 => ?_
   refine CG.yes ?_ rfl rfl
   refine CG.skip ?_
   refine QG.k k3 ?_
   refine CG.seq fun K_ k3 => ?_
   refine CG.block ?_
   refine CG.seq fun K_ k4 => ?_
   refine CG.lin 2 ?_
   refine GL.v (.int .i64 2) ?_
   refine GL.v (.int .i64 2) ?_
   refine GL.k k4 ?_
   refine CG.seq fun K_ k4 => ?_
   refine CG.lin 9 ?_
   refine GL.v (.slice (some ⟨g30, 0, none⟩) 7 7) ?_
   refine GL.v (.int .i64 2) ?_
   refine GL.v (.int .i64 4) ?_ (hr := fun u => op_to (v := .int .i64 (IntKind.wrap .i64 ((6 : Int) - (2 : Int)))) (by kernel_rfl) (wrap_i64 (by omega) (by omega) (by omega)))
   refine GL.v (.int .u64 ((((a % 10000000) / 10) / 10 : Nat) : Int)) ?_
   refine GL.v (.int .u64 (((((a % 10000000) / 10) / 10) % 10 : Nat) : Int)) ?_ (hr := fun u => op_to (v := .int .u64 ((((((a % 10000000) / 10) / 10 : Nat) : Int)).tmod 10)) (by kernel_rfl) (rem_to .u64 (by omega) (by omega)))
   refine GL.v (.int .u64 ((48 + ((((a % 10000000) / 10) / 10) % 10) : Nat) : Int)) ?_ (hr := fun u => op_to (v := .int .u64 (IntKind.wrap .u64 ((48 : Int) + (((((a % 10000000) / 10) / 10) % 10 : Nat) : Int)))) (by kernel_rfl) (wrap_u64 (by omega) (by omega) (by omega)))
   refine GL.v (.int .u8 ((48 + ((((a % 10000000) / 10) / 10) % 10) : Nat) : Int)) ?_ (hr := fun u => op_to (v := .int .u8 (IntKind.wrap .u8 ((48 + ((((a % 10000000) / 10) / 10) % 10) : Nat) : Int))) (by kernel_rfl) (wrap_u8 rfl (by omega) (by omega)))
   refine GL.r (elemPtr (some ⟨g30, 0, none⟩) 4) (fun _ hM => op_index rowt154 (c := 7) (k := .i64) (i := (4 : Int)) 4 (by kernel_rfl) (by kernel_rfl) (by omega) (by omega) (hM.o 0 rfl).row _) ?_
   refine GL.el (fun _ _ _ => Mem.el0) (fun _ hM => op_set_u8 4 ((48 + ((((a % 10000000) / 10) / 10) % 10) : Nat) : Int) siz5 (hM.o 0 rfl) (by kernel_rfl) (by kernel_rfl) (by omega)) ?_
   refine GL.k k4 ?_
   refine CG.lin 3 ?_
   refine GL.v (.int .u64 ((((a % 10000000) / 10) / 10 : Nat) : Int)) ?_
   refine GL.v (.int .u64 (((((a % 10000000) / 10) / 10) / 10 : Nat) : Int)) ?_ (hr := fun u => op_to (v := .int .u64 (IntKind.wrap .u64 ((((((a % 10000000) / 10) / 10 : Nat) : Int)).tdiv 10))) (by kernel_rfl) (quo_u64 (by omega) (by omega) (by omega) (by omega)))
   refine GL.v (.int .u64 (((((a % 10000000) / 10) / 10) / 10 : Nat) : Int)) ?_
   refine GL.q ?_
   refine QG.block ?_
   refine QG.k k3 ?_
   refine CG.lin 2 ?_
   refine GL.v (.int .i64 3) ?_ (hr := fun u => op_to (v := .int .i64 (IntKind.wrap .i64 ((2 : Int) + (1 : Int)))) (by kernel_rfl) (wrap_i64 (by omega) (by omega) (by omega)))
   refine GL.v (.int .i64 3) ?_
   refine GL.q ?_
   refine QG.rnd ?_
   refine CG.round ?_
   refine CG.seq fun K_ k3 => ?_
   refine CG.lin 1 ?_
   refine GL.v (.bool true) ?_
   refine GL.k k3 ?_
   refine CG.seq fun K_ k3 => ?_
   refine CG.yes ?_ rfl rfl
   refine CG.skip ?_
   refine QG.k k3 ?_
   refine CG.seq fun K_ k3 => ?_
   refine CG.block ?_
   refine CG.seq fun K_ k4 => ?_
   refine CG.lin 2 ?_
   refine GL.v (.int .i64 3) ?_
   refine GL.v (.int .i64 3) ?_
   refine GL.k k4 ?_
   refine CG.seq fun K_ k4 => ?_
   refine CG.lin 9 ?_
   refine GL.v (.slice (some ⟨g30, 0, none⟩) 7 7) ?_
   refine GL.v (.int .i64 3) ?_
   refine GL.v (.int .i64 3) ?_ (hr := fun u => op_to (v := .int .i64 (IntKind.wrap .i64 ((6 : Int) - (3 : Int)))) (by kernel_rfl) (wrap_i64 (by omega) (by omega) (by omega)))
   refine GL.v (.int .u64 (((((a % 10000000) / 10) / 10) / 10 : Nat) : Int)) ?_
   refine GL.v (.int .u64 ((((((a % 10000000) / 10) / 10) / 10) % 10 : Nat) : Int)) ?_ (hr := fun u => op_to (v := .int .u64 (((((((a % 10000000) / 10) / 10) / 10 : Nat) : Int)).tmod 10)) (by kernel_rfl) (rem_to .u64 (by omega) (by omega)))
   refine GL.v (.int .u64 ((48 + (((((a % 10000000) / 10) / 10) / 10) % 10) : Nat) : Int)) ?_ (hr := fun u => op_to (v := .int .u64 (IntKind.wrap .u64 ((48 : Int) + ((((((a % 10000000) / 10) / 10) / 10) % 10 : Nat) : Int)))) (by kernel_rfl) (wrap_u64 (by omega) (by omega) (by omega)))
   refine GL.v (.int .u8 ((48 + (((((a % 10000000) / 10) / 10) / 10) % 10) : Nat) : Int)) ?_ (hr := fun u => op_to (v := .int .u8 (IntKind.wrap .u8 ((48 + (((((a % 10000000) / 10) / 10) / 10) % 10) : Nat) : Int))) (by kernel_rfl) (wrap_u8 rfl (by omega) (by omega)))
   refine GL.r (elemPtr (some ⟨g30, 0, none⟩) 3) (fun _ hM => op_index rowt154 (c := 7) (k := .i64) (i := (3 : Int)) 3 (by kernel_rfl) (by kernel_rfl) (by omega) (by omega) (hM.o 0 rfl).row _) ?_
   refine GL.el (fun _ _ _ => Mem.el0) (fun _ hM => op_set_u8 3 ((48 + (((((a % 10000000) / 10) / 10) / 10) % 10) : Nat) : Int) siz5 (hM.o 0 rfl) (by kernel_rfl) (by kernel_rfl) (by omega)) ?_
   refine GL.k k4 ?_
   refine CG.lin 3 ?_
   refine GL.v (.int .u64 (((((a % 10000000) / 10) / 10) / 10 : Nat) : Int)) ?_
   refine GL.v (.int .u64 ((((((a % 10000000) / 10) / 10) / 10) / 10 : Nat) : Int)) ?_ (hr := fun u => op_to (v := .int .u64 (IntKind.wrap .u64 (((((((a % 10000000) / 10) / 10) / 10 : Nat) : Int)).tdiv 10))) (by kernel_rfl) (quo_u64 (by omega) (by omega) (by omega) (by omega)))
   refine GL.v (.int .u64 ((((((a % 10000000) / 10) / 10) / 10) / 10 : Nat) : Int)) ?_
   refine GL.q ?_
   refine QG.block ?_
   refine QG.k k3 ?_
   refine CG.lin 2 ?_
   refine GL.v (.int .i64 4) ?_ (hr := fun u => op_to (v := .int .i64 (IntKind.wrap .i64 ((3 : Int) + (1 : Int)))) (by kernel_rfl) (wrap_i64 (by omega) (by omega) (by omega)))
   refine GL.v (.int .i64 4) ?_
   refine GL.q ?_
   refine QG.rnd ?_
   refine CG.round ?_
   refine CG.seq fun K_ k3 => ?_
   refine CG.lin 1 ?_
   refine GL.v (.bool true) ?_
   refine GL.k k3 ?_
   refine CG.seq fun K_ k3 => ?_
   refine CG.yes ?_ rfl rfl
   refine CG.skip ?_
   refine QG.k k3 ?_
   refine CG.seq fun K_ k3 => ?_
   refine CG.block ?_
   refine CG.seq fun K_ k4 => ?_
   refine CG.lin 2 ?_
   refine GL.v (.int .i64 4) ?_
   refine GL.v (.int .i64 4) ?_
   refine GL.k k4 ?_
   refine CG.seq fun K_ k4 => ?_
   refine CG.lin 9 ?_
   refine GL.v (.slice (some ⟨g30, 0, none⟩) 7 7) ?_
   refine GL.v (.int .i64 4) ?_
   refine GL.v (.int .i64 2) ?_ (hr := fun u => op_to (v := .int .i64 (IntKind.wrap .i64 ((6 : Int) - (4 : Int)))) (by kernel_rfl) (wrap_i64 (by omega) (by omega) (by omega)))
   refine GL.v (.int .u64 ((((((a % 10000000) / 10) / 10) / 10) / 10 : Nat) : Int)) ?_
   refine GL.v (.int .u64 (((((((a % 10000000) / 10) / 10) / 10) / 10) % 10 : Nat) : Int)) ?_ (hr := fun u => op_to (v := .int .u64 ((((((((a % 10000000) / 10) / 10) / 10) / 10 : Nat) : Int)).tmod 10)) (by kernel_rfl) (rem_to .u64 (by omega) (by omega)))
   refine GL.v (.int .u64 ((48 + ((((((a % 10000000) / 10) / 10) / 10) / 10) % 10) : Nat) : Int)) ?_ (hr := fun u => op_to (v := .int .u64 (IntKind.wrap .u64 ((48 : Int) + (((((((a % 10000000) / 10) / 10) / 10) / 10) % 10 : Nat) : Int)))) (by kernel_rfl) (wrap_u64 (by omega) (by omega) (by omega)))
   refine GL.v (.int .u8 ((48 + ((((((a % 10000000) / 10) / 10) / 10) / 10) % 10) : Nat) : Int)) ?_ (hr := fun u => op_to (v := .int .u8 (IntKind.wrap .u8 ((48 + ((((((a % 10000000) / 10) / 10) / 10) / 10) % 10) : Nat) : Int))) (by kernel_rfl) (wrap_u8 rfl (by omega) (by omega)))
   refine GL.r (elemPtr (some ⟨g30, 0, none⟩) 2) (fun _ hM => op_index rowt154 (c := 7) (k := .i64) (i := (2 : Int)) 2 (by kernel_rfl) (by kernel_rfl) (by omega) (by omega) (hM.o 0 rfl).row _) ?_
   refine GL.el (fun _ _ _ => Mem.el0) (fun _ hM => op_set_u8 2 ((48 + ((((((a % 10000000) / 10) / 10) / 10) / 10) % 10) : Nat) : Int) siz5 (hM.o 0 rfl) (by kernel_rfl) (by kernel_rfl) (by omega)) ?_
   refine GL.k k4 ?_
   refine CG.lin 3 ?_
   refine GL.v (.int .u64 ((((((a % 10000000) / 10) / 10) / 10) / 10 : Nat) : Int)) ?_
   refine GL.v (.int .u64 (((((((a % 10000000) / 10) / 10) / 10) / 10) / 10 : Nat) : Int)) ?_ (hr := fun u => op_to (v := .int .u64 (IntKind.wrap .u64 ((((((((a % 10000000) / 10) / 10) / 10) / 10 : Nat) : Int)).tdiv 10))) (by kernel_rfl) (quo_u64 (by omega) (by omega) (by omega) (by omega)))
   refine GL.v (.int .u64 (((((((a % 10000000) / 10) / 10) / 10) / 10) / 10 : Nat) : Int)) ?_
   refine GL.q ?_
   refine QG.block ?_
   refine QG.k k3 ?_
   refine CG.lin 2 ?_
   refine GL.v (.int .i64 5) ?_ (hr := fun u => op_to (v := .int .i64 (IntKind.wrap .i64 ((4 : Int) + (1 : Int)))) (by kernel_rfl) (wrap_i64 (by omega) (by omega) (by omega)))
   refine GL.v (.int .i64 5) ?_
   refine GL.q ?_
   refine QG.rnd ?_
   refine CG.round ?_
   refine CG.seq fun K_ k3 => ?_
   refine CG.lin 1 ?_
   refine GL.v (.bool true) ?_
   refine GL.k k3 ?_
   refine CG.seq fun K_ k3 => ?_
   refine CG.yes ?_ rfl rfl
   refine CG.skip ?_
   refine QG.k k3 ?_
   refine CG.seq fun K_ k3 => ?_
   refine CG.block ?_
   refine CG.seq fun K_ k4 => ?_
   refine CG.lin 2 ?_
   refine GL.v (.int .i64 5) ?_
   refine GL.v (.int .i64 5) ?_
   refine GL.k k4 ?_
   refine CG.seq fun K_ k4 => ?_
   refine CG.lin 9 ?_
   refine GL.v (.slice (some ⟨g30, 0, none⟩) 7 7) ?_
   refine GL.v (.int .i64 5) ?_
   refine GL.v (.int .i64 1) ?_ (hr := fun u => op_to (v := .int .i64 (IntKind.wrap .i64 ((6 : Int) - (5 : Int)))) (by kernel_rfl) (wrap_i64 (by omega) (by omega) (by omega)))
   refine GL.v (.int .u64 (((((((a % 10000000) / 10) / 10) / 10) / 10) / 10 : Nat) : Int)) ?_
   refine GL.v (.int .u64 ((((((((a % 10000000) / 10) / 10) / 10) / 10) / 10) % 10 : Nat) : Int)) ?_ (hr := fun u => op_to (v := .int .u64 (((((((((a % 10000000) / 10) / 10) / 10) / 10) / 10 : Nat) : Int)).tmod 10)) (by kernel_rfl) (rem_to .u64 (by omega) (by omega)))
   refine GL.v (.int .u64 ((48 + (((((((a % 10000000) / 10) / 10) / 10) / 10) / 10) % 10) : Nat) : Int)) ?_ (hr := fun u => op_to (v := .int .u64 (IntKind.wrap .u64 ((48 : Int) + ((((((((a % 10000000) / 10) / 10) / 10) / 10) / 10) % 10 : Nat) : Int)))) (by kernel_rfl) (wrap_u64 (by omega) (by omega) (by omega)))
   refine GL.v (.int .u8 ((48 + (((((((a % 10000000) / 10) / 10) / 10) / 10) / 10) % 10) : Nat) : Int)) ?_ (hr := fun u => op_to (v := .int .u8 (IntKind.wrap .u8 ((48 + (((((((a % 10000000) / 10) / 10) / 10) / 10) / 10) % 10) : Nat) : Int))) (by kernel_rfl) (wrap_u8 rfl (by omega) (by omega)))
   refine GL.r (elemPtr (some ⟨g30, 0, none⟩) 1) (fun _ hM => op_index rowt154 (c := 7) (k := .i64) (i := (1 : Int)) 1 (by kernel_rfl) (by kernel_rfl) (by omega) (by omega) (hM.o 0 rfl).row _) ?_
   refine GL.el (fun _ _ _ => Mem.el0) (fun _ hM => op_set_u8 1 ((48 + (((((((a % 10000000) / 10) / 10) / 10) / 10) / 10) % 10) : Nat) : Int) siz5 (hM.o 0 rfl) (by kernel_rfl) (by kernel_rfl) (by omega)) ?_
   refine GL.k k4 ?_
   refine CG.lin 3 ?_
   refine GL.v (.int .u64 (((((((a % 10000000) / 10) / 10) / 10) / 10) / 10 : Nat) : Int)) ?_
   refine GL.v (.int .u64 ((((((((a % 10000000) / 10) / 10) / 10) / 10) / 10) / 10 : Nat) : Int)) ?_ (hr := fun u => op_to (v := .int .u64 (IntKind.wrap .u64 (((((((((a % 10000000) / 10) / 10) / 10) / 10) / 10 : Nat) : Int)).tdiv 10))) (by kernel_rfl) (quo_u64 (by omega) (by omega) (by omega) (by omega)))
   refine GL.v (.int .u64 ((((((((a % 10000000) / 10) / 10) / 10) / 10) / 10) / 10 : Nat) : Int)) ?_
   refine GL.q ?_
   refine QG.block ?_
   refine QG.k k3 ?_
   refine CG.lin 2 ?_
   refine GL.v (.int .i64 6) ?_ (hr := fun u => op_to (v := .int .i64 (IntKind.wrap .i64 ((5 : Int) + (1 : Int)))) (by kernel_rfl) (wrap_i64 (by omega) (by omega) (by omega)))
   refine GL.v (.int .i64 6) ?_
   refine GL.q ?_
   refine QG.rnd ?_
   refine CG.round ?_
   refine CG.seq fun K_ k3 => ?_
   refine CG.lin 1 ?_
   refine GL.v (.bool true) ?_
   refine GL.k k3 ?_
   refine CG.seq fun K_ k3 => ?_
   refine CG.yes ?_ rfl rfl
   refine CG.skip ?_
   refine QG.k k3 ?_
   refine CG.seq fun K_ k3 => ?_
   refine CG.block ?_
   refine CG.seq fun K_ k4 => ?_
   refine CG.lin 2 ?_
   refine GL.v (.int .i64 6) ?_
   refine GL.v (.int .i64 6) ?_
   refine GL.k k4 ?_
   refine CG.seq fun K_ k4 => ?_
   refine CG.lin 9 ?_
   refine GL.v (.slice (some ⟨g30, 0, none⟩) 7 7) ?_
   refine GL.v (.int .i64 6) ?_
   refine GL.v (.int .i64 0) ?_ (hr := fun u => op_to (v := .int .i64 (IntKind.wrap .i64 ((6 : Int) - (6 : Int)))) (by kernel_rfl) (wrap_i64 (by omega) (by omega) (by omega)))
   refine GL.v (.int .u64 ((((((((a % 10000000) / 10) / 10) / 10) / 10) / 10) / 10 : Nat) : Int)) ?_
   refine GL.v (.int .u64 (((((((((a % 10000000) / 10) / 10) / 10) / 10) / 10) / 10) % 10 : Nat) : Int)) ?_ (hr := fun u => op_to (v := .int .u64 ((((((((((a % 10000000) / 10) / 10) / 10) / 10) / 10) / 10 : Nat) : Int)).tmod 10)) (by kernel_rfl) (rem_to .u64 (by omega) (by omega)))
   refine GL.v (.int .u64 ((48 + ((((((((a % 10000000) / 10) / 10) / 10) / 10) / 10) / 10) % 10) : Nat) : Int)) ?_ (hr := fun u => op_to (v := .int .u64 (IntKind.wrap .u64 ((48 : Int) + (((((((((a % 10000000) / 10) / 10) / 10) / 10) / 10) / 10) % 10 : Nat) : Int)))) (by kernel_rfl) (wrap_u64 (by omega) (by omega) (by omega)))
   refine GL.v (.int .u8 ((48 + ((((((((a % 10000000) / 10) / 10) / 10) / 10) / 10) / 10) % 10) : Nat) : Int)) ?_ (hr := fun u => op_to (v := .int .u8 (IntKind.wrap .u8 ((48 + ((((((((a % 10000000) / 10) / 10) / 10) / 10) / 10) / 10) % 10) : Nat) : Int))) (by kernel_rfl) (wrap_u8 rfl (by omega) (by omega)))
   refine GL.r (elemPtr (some ⟨g30, 0, none⟩) 0) (fun _ hM => op_index rowt154 (c := 7) (k := .i64) (i := (0 : Int)) 0 (by kernel_rfl) (by kernel_rfl) (by omega) (by omega) (hM.o 0 rfl).row _) ?_
   refine GL.el (fun _ _ _ => Mem.el0) (fun _ hM => op_set_u8 0 ((48 + ((((((((a % 10000000) / 10) / 10) / 10) / 10) / 10) / 10) % 10) : Nat) : Int) siz5 (hM.o 0 rfl) (by kernel_rfl) (by kernel_rfl) (by omega)) ?_
   refine GL.k k4 ?_
   refine CG.lin 3 ?_
   refine GL.v (.int .u64 ((((((((a % 10000000) / 10) / 10) / 10) / 10) / 10) / 10 : Nat) : Int)) ?_
   refine GL.v (.int .u64 (((((((((a % 10000000) / 10) / 10) / 10) / 10) / 10) / 10) / 10 : Nat) : Int)) ?_ (hr := fun u => op_to (v := .int .u64 (IntKind.wrap .u64 ((((((((((a % 10000000) / 10) / 10) / 10) / 10) / 10) / 10 : Nat) : Int)).tdiv 10))) (by kernel_rfl) (quo_u64 (by omega) (by omega) (by omega) (by omega)))
   refine GL.v (.int .u64 (((((((((a % 10000000) / 10) / 10) / 10) / 10) / 10) / 10) / 10 : Nat) : Int)) ?_
   refine GL.q ?_
   refine QG.block ?_
   refine QG.k k3 ?_
   refine CG.lin 2 ?_
   refine GL.v (.int .i64 7) ?_ (hr := fun u => op_to (v := .int .i64 (IntKind.wrap .i64 ((6 : Int) + (1 : Int)))) (by kernel_rfl) (wrap_i64 (by omega) (by omega) (by omega)))
   refine GL.v (.int .i64 7) ?_
   refine GL.q ?_
   refine QG.rnd ?_
   refine CG.round ?_
   refine CG.seq fun K_ k3 => ?_
   refine CG.lin 1 ?_
   refine GL.v (.bool false) ?_
   refine GL.k k3 ?_
   refine CG.seq fun K_ k3 => ?_
   refine CG.no ?_ rfl rfl
   refine CG.exit (QG.then_exit (QG.then_exit (QG.here ?_)))
   refine QG.k k2 ?_
   refine CG.draw [] [0, 1, 3, 5] (.step 0 (.step 1 (.step 3 (.step 5 (.step 2 (.step 4 (.step 6 (.step 7 .done)))))))) (fun V hV31 => ?_)
   refine GD.ev (.slice (some ⟨g30, 0, none⟩) 7 7) ?_
   refine GD.er (.string (bs (pad 7 (a % 10000000)))) (fun _ hS => op_to (v := .string (bs (u8l ((((((((List.replicate 7 0).set 6 ((48 + ((a % 10000000) % 10) : Nat) : Int)).set 5 ((48 + (((a % 10000000) / 10) % 10) : Nat) : Int)).set 4 ((48 + ((((a % 10000000) / 10) / 10) % 10) : Nat) : Int)).set 3 ((48 + (((((a % 10000000) / 10) / 10) / 10) % 10) : Nat) : Int)).set 2 ((48 + ((((((a % 10000000) / 10) / 10) / 10) / 10) % 10) : Nat) : Int)).set 1 ((48 + (((((((a % 10000000) / 10) / 10) / 10) / 10) / 10) % 10) : Nat) : Int)).set 0 ((48 + ((((((((a % 10000000) / 10) / 10) / 10) / 10) / 10) / 10) % 10) : Nat) : Int))))) (op_b2s (c := 7) (Row.keep ((hV31.o 0 rfl).row) hS.keep) (by kernel_rfl) (by kernel_rfl) (by kernel_rfl) (by kernel_rfl) (u8_range (u8_range (u8_range (u8_range (u8_range (u8_range (u8_range (u8_zeros 7) 6 (by omega)) 5 (by omega)) 4 (by omega)) 3 (by omega)) 2 (by omega)) 1 (by omega)) 0 (by omega))) (congrArg (fun l => Value.string (bs l)) (u8l_row7 _))) ?_
   refine GD.ev (.slice A3 n3 c3) ?_
   refine GD.er (.agg #[.slice A26a n26a c26a]) (fun _ hS => op_load_agg (off := 0) (by kernel_rfl) agg26 siz26 (hV31.bS 2 rfl hS) rfl rfl) ?_
   refine GD.row (fun _ => op_build1 rowt153 (v := .string (bs (pad 7 (a % 10000000)))) (by kernel_rfl) rfl) (fun _ _ _ hm => own_one_str hm) fun g32 hg32 => ?_
   refine GD.gn hg32 (fun _ _ _ _ => Mem.gr0) (fun _ hM => op_append_str (cx := c3) rowt153 (hM.o 0 rfl) (SLk.row (hM.f 4 rfl)) (by kernel_rfl) (by kernel_rfl) (by omega) (by omega)) fun g33 c33 hg33 => ?_
   refine GD.mem (fun _ hM => hM.pu0 fun hO _ hX => SLk.own hO hX) ?_
   refine GD.v (.slice (some ⟨g33, 0, none⟩) (1 + n3) c33) ?_
   refine GD.st (fun _ _ => Mem.st3) (fun _ hM => store_all (cs' := #[.slice A26a n26a c26a]) siz26 (hM.b 3 rfl) (by kernel_rfl) (by kernel_rfl) rfl rfl rfl) ?_
   refine GD.q ?_
   refine QG.block ?_
   refine QG.again fun _ hM => ?_
   exact ⟨(a / 10000000), (by omega), A26a, n26a, c26a, (a / 10000000), (some ⟨g33, 0, none⟩), (1 + n3), c33, ([pad 7 (a % 10000000)] ++ P), (fun t => (#[.agg #[.slice A1 n1 c1], .pointer (some ⟨g21, 0, none⟩), .string (bs []), .slice (some ⟨g33, 0, none⟩) (1 + n3) c33, .pointer (some ⟨g27, 0, none⟩), .pointer (some ⟨g28, 0, none⟩), .int .u64 (((((((((a % 10000000) / 10) / 10) / 10) / 10) / 10) / 10) / 10 : Nat) : Int), .slice (some ⟨g30, 0, none⟩) 7 7, .int .i64 6, undef, .agg #[.slice Aa na ca], .bool (decide (a = 0)), .bool (!(decide (a = 0))), .tuple #[.agg #[.slice A26a n26a c26a], .agg #[.slice A26b n26b c26b]], .agg #[.slice Aa na ca], .slice (some ⟨g25, 0, none⟩) 1 1, .agg #[.slice (some ⟨g25, 0, none⟩) 1 1], .tuple #[.agg #[.slice A26a n26a c26a], .agg #[.slice A26b n26b c26b]], .agg #[.slice A26a n26a c26a], .agg #[.slice A26b n26b c26b], .agg #[.slice A26b n26b c26b], .int .u64 (((a % 10000000) : Nat) : Int), .slice (some ⟨g30, 0, none⟩) 7 7, .slice (some ⟨g30, 0, none⟩) 7 7, .int .i64 7, .int .i64 7, .bool false, .int .i64 6, .slice (some ⟨g30, 0, none⟩) 7 7, .int .i64 6, .int .i64 0, .int .u64 ((((((((a % 10000000) / 10) / 10) / 10) / 10) / 10) / 10 : Nat) : Int), .int .u64 (((((((((a % 10000000) / 10) / 10) / 10) / 10) / 10) / 10) % 10 : Nat) : Int), .int .u64 ((48 + ((((((((a % 10000000) / 10) / 10) / 10) / 10) / 10) / 10) % 10) : Nat) : Int), .int .u8 ((48 + ((((((((a % 10000000) / 10) / 10) / 10) / 10) / 10) / 10) % 10) : Nat) : Int), elemPtr (some ⟨g30, 0, none⟩) 0, .int .u64 ((((((((a % 10000000) / 10) / 10) / 10) / 10) / 10) / 10 : Nat) : Int), .int .u64 (((((((((a % 10000000) / 10) / 10) / 10) / 10) / 10) / 10) / 10 : Nat) : Int), .int .i64 7, .slice (some ⟨g30, 0, none⟩) 7 7, .string (bs (pad 7 (a % 10000000))), .slice (some ⟨g32, 0, none⟩) 1 1, .slice A3 n3 c3, .slice (some ⟨g33, 0, none⟩) (1 + n3) c33, .agg #[.slice A26a n26a c26a], undef, undef, undef, undef, undef, undef] : Array Value).getD t undef), (by kernel_rfl), rfl, ((((hM.dropn 3).clr).add ((hM.dropn 3).f 6 rfl)).add ((hM.dropn 3).f 0 rfl)).add ((hM.dropn 3).f 2 rfl), (div_next _ ha), (pad_next hP ha), (by have := rounds_lt ha (by omega); simp only [List.length_append, List.length_singleton]; omega)⟩
 · have hk24 : (!(decide (a = 0))) = false := by simpa using hc24
   refine CG.no ?_ hk24 rfl
   refine CG.exit (QG.then_exit (QG.then_exit (QG.here ?_)))
   refine QG.k k1 ?_
   refine CG.seq fun K_ k1 => ?_
   refine CG.seq fun K_ k2 => ?_
   refine CG.lin 4 ?_
   refine GL.v (.slice A3 n3 c3) ?_
   refine GL.call (fun _ hM => join_ok hM.avlt (hM.f 1 rfl) (by rw [hP, pad_len]; omega) (by first | assumption | omega)) ?_
   rintro _ _ _ hM ⟨rfl, hb⟩
   refine ⟨_, _, _, rfl, hM.call hb, ?_⟩
   refine GL.call (fun _ hM => trimleft_ok hM.avlt P.flatten) ?_
   rintro _ _ _ hM ⟨rfl, hb⟩
   refine ⟨_, _, _, rfl, hM.call hb, ?_⟩
   refine GL.v (.string (bs (P.flatten.dropWhile (· == 48)))) ?_
   refine GL.k k2 ?_
   refine CG.seq fun K_ k2 => ?_
   refine CG.lin 2 ?_
   refine GL.v (.string (bs (P.flatten.dropWhile (· == 48)))) ?_
   refine GL.v (.bool (!(decide ((P.flatten.dropWhile (· == 48)) = [])))) ?_ (hr := fun u => op_sne (L := P.flatten.dropWhile (· == 48)) (K := []) (by kernel_rfl) (by kernel_rfl))
   refine GL.k k2 ?_
   by_cases hc36 : ¬ (P.flatten.dropWhile (· == 48)) = []
   · have hk36 : (!(decide ((P.flatten.dropWhile (· == 48)) = []))) = true := by simpa using hc36
     refine CG.yes ?_ hk36 rfl
     refine CG.seq fun K_ k2 => ?_
     refine CG.lin 2 ?_
     refine GL.v (.string (bs (P.flatten.dropWhile (· == 48)))) ?_
     refine GL.v (.string (bs (P.flatten.dropWhile (· == 48)))) ?_
     refine GL.k k2 ?_
     refine CG.ret (QG.then_ret (QG.ret (fun _ hM => results_one rfl (res_tmp rfl)) ?_))
     intro _ hM
     exact ⟨ret_str ((pad_done hP ha (by omega)).1 hc36), hM.below⟩
   · have hk36 : (!(decide ((P.flatten.dropWhile (· == 48)) = []))) = false := by simpa using hc36
     refine CG.no ?_ hk36 rfl
     refine CG.skip ?_
     refine QG.k k1 ?_
     refine CG.seq fun K_ k1 => ?_
     refine CG.lin 1 ?_
     refine GL.v (.string (bs [48])) ?_
     refine GL.k k1 ?_
     refine CG.ret (QG.ret (fun _ hM => results_one rfl (res_tmp rfl)) ?_)
     intro _ hM
     exact ⟨ret_str ((pad_done hP ha (by omega)).2 (Classical.not_not.1 hc36)), hM.below⟩

set_option maxRecDepth 100000 in
set_option maxHeartbeats 400000 in
theorem ZText_ok {w : World} {X : Nat → Prop} {A1 : Option Addr} {n1 : Nat} {c1 : Nat} {m1 : Bool} {a : Int} (hX : ∀ k, X k → k < w.heap.size) (h1 : Zk.R X w [.slice A1 n1 c1, .bool m1] a) (p1 : sz a ≤ 1099511627000) :
    Calls Tryz.prog 29 #[.agg #[.slice A1 n1 c1, .bool m1]] w (fun e w' => e = .returned (.string (bs (decZ a))) ∧ Below w.heap.size w w') := by
 have q9 : sz a = szn a.natAbs := rfl
 have hM := (Mem.start hX).add0 h1
 have e1 : sz a = szn (a).natAbs := rfl
 refine calls_of hM Tryz.func29 Tryz.ntmps29 ?_
 refine CG.seq fun K_ k1 => ?_
 refine CG.lin 2 ?_
 refine GL.bA #[.slice A1 n1 c1, .bool m1] fun g21 => ?_
 refine GL.v (.string (bs [])) ?_
 refine GL.k k1 ?_
 refine CG.seq fun K_ k1 => ?_
 refine CG.seq fun K_ k2 => ?_
 refine CG.lin 2 ?_
 refine GL.v (.pointer (some ⟨g21, 1, none⟩)) ?_
 refine GL.r (.bool m1) (fun _ hM => op_load_one (off := 1) (by kernel_rfl) agg4 (hM.b 0 rfl) rfl) ?_
 refine GL.k k2 ?_
 by_cases hc22 : m1 = true
 · have hk22 : (m1) = true := hc22
   refine CG.yes ?_ hk22 rfl
   refine CG.seq fun K_ k2 => ?_
   refine CG.lin 5 ?_
   refine GL.v (.pointer (some ⟨g21, 0, none⟩)) ?_
   refine GL.r (.agg #[.slice A1 n1 c1]) (fun _ hM => op_load_agg (off := 0) (by kernel_rfl) agg26 siz26 (hM.b 0 rfl) rfl rfl) ?_
   refine GL.call (fun _ hM => text_ok hM.avlt (Zk.dig (hM.f 0 rfl)) (by first | assumption | omega)) ?_
   rintro _ _ _ hM ⟨rfl, hb⟩
   have hl23 := dec_szn a.natAbs
   refine ⟨_, _, _, rfl, hM.call hb, ?_⟩
   refine GL.v (.string (bs ([45] ++ (dec a.natAbs)))) ?_ (hr := fun u => op_cat (L := [45]) (K := dec a.natAbs) (by kernel_rfl) (by kernel_rfl) (by (try simp only [List.length_append, List.length_cons, List.length_nil]); omega))
   refine GL.v (.string (bs ([45] ++ (dec a.natAbs)))) ?_
   refine GL.k k2 ?_
   refine CG.ret (QG.then_ret (QG.ret (fun _ hM => results_one rfl (res_tmp rfl)) ?_))
   intro _ hM
   exact ⟨ret_str ((decZ_of (Zk.neg h1)).1 hc22), hM.below⟩
 · have hk22 : (m1) = false := by simpa using hc22
   refine CG.no ?_ hk22 rfl
   refine CG.skip ?_
   refine QG.k k1 ?_
   refine CG.seq fun K_ k1 => ?_
   refine CG.lin 4 ?_
   refine GL.v (.pointer (some ⟨g21, 0, none⟩)) ?_
   refine GL.r (.agg #[.slice A1 n1 c1]) (fun _ hM => op_load_agg (off := 0) (by kernel_rfl) agg26 siz26 (hM.b 0 rfl) rfl rfl) ?_
   refine GL.call (fun _ hM => text_ok hM.avlt (Zk.dig (hM.f 0 rfl)) (by first | assumption | omega)) ?_
   rintro _ _ _ hM ⟨rfl, hb⟩
   have hl24 := dec_szn a.natAbs
   refine ⟨_, _, _, rfl, hM.call hb, ?_⟩
   refine GL.v (.string (bs (dec a.natAbs))) ?_
   refine GL.k k1 ?_
   refine CG.ret (QG.ret (fun _ hM => results_one rfl (res_tmp rfl)) ?_)
   intro _ hM
   exact ⟨ret_str ((decZ_of (Zk.neg h1)).2 hc22), hM.below⟩

set_option maxRecDepth 100000 in
set_option maxHeartbeats 400000 in
theorem RText_ok {w : World} {X : Nat → Prop} {A1 : Option Addr} {n1 : Nat} {c1 : Nat} {m1 : Bool} {A1_ : Option Addr} {n1_ : Nat} {c1_ : Nat} {a : Rat} (hX : ∀ k, X k → k < w.heap.size) (h1 : Rk.R X w [.slice A1 n1 c1, .bool m1, .slice A1_ n1_ c1_] a) (p1 : szR a ≤ 68719476736) :
    Calls Tryz.prog 30 #[.agg #[.slice A1 n1 c1, .bool m1, .slice A1_ n1_ c1_]] w (fun e w' => e = .returned (.string (bs (decR a))) ∧ Below w.heap.size w w') := by
 have hna := szR_num a; have hda := szR_den a; have hea := sz_nat a.den
 have hM := (Mem.start hX).add0 h1
 refine calls_of hM Tryz.func30 Tryz.ntmps30 ?_
 refine CG.seq fun K_ k1 => ?_
 refine CG.lin 2 ?_
 refine GL.bA #[.slice A1 n1 c1, .bool m1, .slice A1_ n1_ c1_] fun g21 => ?_
 refine GL.v (.string (bs [])) ?_
 refine GL.k k1 ?_
 refine CG.seq fun K_ k1 => ?_
 refine CG.seq fun K_ k2 => ?_
 refine CG.lin 3 ?_
 refine GL.v (.pointer (some ⟨g21, 2, none⟩)) ?_
 refine GL.r (.agg #[.slice A1_ n1_ c1_]) (fun _ hM => op_load_agg (off := 2) (by kernel_rfl) agg26 siz26 (hM.b 0 rfl) rfl rfl) ?_
 refine GL.call (fun _ hM => none_ok hM.avlt (Rk.rest (hM.f 0 rfl))) ?_
 rintro _ _ _ hM ⟨rfl, hb⟩
 refine ⟨_, _, _, rfl, hM.call hb, ?_⟩
 refine GL.k k2 ?_
 by_cases hc23 : (a.den - 1) = 0
 · have hk23 : (decide ((a.den - 1) = 0)) = true := decide_eq_true hc23
   refine CG.yes ?_ hk23 rfl
   refine CG.seq fun K_ k2 => ?_
   refine CG.lin 4 ?_
   refine GL.v (.pointer (some ⟨g21, 0, none⟩)) ?_
   refine GL.r (.agg #[.slice A1 n1 c1, .bool m1]) (fun _ hM => op_load_agg (off := 0) (by kernel_rfl) agg28 siz28 (hM.b 0 rfl) rfl rfl) ?_
   refine GL.call (fun _ hM => ZText_ok hM.avlt (Rk.top (hM.f 0 rfl)) (by first | assumption | omega)) ?_
   rintro _ _ _ hM ⟨rfl, hb⟩
   have hl24 := decZ_len a.num
   refine ⟨_, _, _, rfl, hM.call hb, ?_⟩
   refine GL.v (.string (bs (decZ a.num))) ?_
   refine GL.k k2 ?_
   refine CG.ret (QG.then_ret (QG.ret (fun _ hM => results_one rfl (res_tmp rfl)) ?_))
   intro _ hM
   exact ⟨ret_str ((decR_of a).1 hc23), hM.below⟩
 · have hk23 : (decide ((a.den - 1) = 0)) = false := decide_eq_false hc23
   refine CG.no ?_ hk23 rfl
   refine CG.skip ?_
   refine QG.k k1 ?_
   refine CG.seq fun K_ k1 => ?_
   refine CG.draw [] [0, 1, 4, 3, 7] (.step 0 (.step 1 (.step 4 (.step 2 (.step 3 (.step 5 (.step 6 (.step 7 (.step 8 .done))))))))) (fun V hV25 => ?_)
   refine GD.ev (.pointer (some ⟨g21, 0, none⟩)) ?_
   refine GD.er (.agg #[.slice A1 n1 c1, .bool m1]) (fun _ hS => op_load_agg (off := 0) (by kernel_rfl) agg28 siz28 (hV25.bS 0 rfl hS) rfl rfl) ?_
   refine GD.er (.agg #[.slice A1 n1 c1, .bool m1, .slice A1_ n1_ c1_]) (fun _ hS => op_load_agg (off := 0) (by kernel_rfl) agg48 siz48 (hV25.bS 0 rfl hS) rfl rfl) ?_
   refine GD.call (fun _ hM => ZText_ok hM.avlt (Rk.top (hM.f 0 rfl)) (by first | assumption | omega)) ?_
   rintro _ _ _ hM ⟨rfl, hb⟩
   have hl26 := decZ_len a.num
   refine ⟨_, _, _, rfl, hb, hM.call hb, ?_⟩
   refine GD.ev (.string (bs ((decZ a.num) ++ [47]))) ?_ (hr := fun u => op_cat (L := decZ a.num) (K := [47]) (by kernel_rfl) (by kernel_rfl) (by (try simp only [List.length_append, List.length_cons, List.length_nil]); omega))
   refine GD.call (fun _ hM => bottom_ok hM.avlt (hM.f 0 rfl) (by first | assumption | omega)) ?_
   rintro _ _ _ hM ⟨A27, n27, c27, m27, rfl, h27, hb⟩
   have hs27 := sz_nat a.den
   have ht27 := szR_den a
   refine ⟨_, _, _, rfl, hb, (hM.call hb).add h27, ?_⟩
   refine GD.call (fun _ hM => ZText_ok hM.avlt (hM.f 0 rfl) (by first | assumption | omega)) ?_
   rintro _ _ _ hM ⟨rfl, hb⟩
   have hl28 := decZ_len (a.den : Int)
   refine ⟨_, _, _, rfl, hb, hM.call hb, ?_⟩
   refine GD.ev (.string (bs (((decZ a.num) ++ [47]) ++ (decZ (a.den : Int))))) ?_ (hr := fun u => op_cat (L := (decZ a.num) ++ [47]) (K := decZ (a.den : Int)) (by kernel_rfl) (by kernel_rfl) (by (try simp only [List.length_append, List.length_cons, List.length_nil]); omega))
   refine GD.v (.string (bs (((decZ a.num) ++ [47]) ++ (decZ (a.den : Int))))) ?_
   refine GD.k k1 ?_
   refine CG.ret (QG.ret (fun _ hM => results_one rfl (res_tmp rfl)) ?_)
   intro _ hM
   exact ⟨ret_str ((decR_of a).2 hc23), hM.below⟩

set_option maxRecDepth 100000 in
set_option maxHeartbeats 400000 in
theorem isDigits_ok {w : World} {X : Nat → Prop} (hX : ∀ k, X k → k < w.heap.size) (s : List UInt8) (p1 : s.length ≤ 4611686018427387904) :
    Calls Tryz.prog 111 #[.string (bs s)] w (fun e w' => e = .returned (.bool (isDs s)) ∧ Below w.heap.size w w') := by
 have hM := Mem.start hX
 refine calls_of hM Tryz.func111 Tryz.ntmps111 ?_
 refine CG.seq fun K_ k1 => ?_
 refine CG.lin 1 ?_
 refine GL.v (.bool false) ?_
 refine GL.k k1 ?_
 refine CG.seq fun K_ k1 => ?_
 by_cases hc21 : ¬ s = []
 · have hk21 : (!(decide (s = []))) = true := by simpa using hc21
   by_cases hc22 : (Lib.trimS s [48, 49, 50, 51, 52, 53, 54, 55, 56, 57]) = []
   · have hk22 : (decide ((Lib.trimS s [48, 49, 50, 51, 52, 53, 54, 55, 56, 57]) = [])) = true := decide_eq_true hc22
     by_cases hc23 : (s.length : Int) = (1 : Int)
     · have hk23 : ((s.length : Int) == (1 : Int)) = true := beq_iff_eq.2 hc23
       refine CG.lin 18 ?_
       refine GL.v (.string (bs s)) ?_
       refine GL.v (.bool true) ?_ (hr := fun u => op_b (b := (!(decide (s = [])))) ((fun u => op_sne (L := s) (K := []) (by kernel_rfl) (by kernel_rfl)) u) hk21)
       refine GL.v (.bool true) ?_
       refine GL.v (.string (bs s)) ?_
       refine GL.call (fun _ hM => trim_ok hM.avlt s (by first | assumption | omega)) ?_
       rintro _ _ _ hM ⟨rfl, hb⟩
       refine ⟨_, _, _, rfl, hM.call hb, ?_⟩
       refine GL.v (.bool true) ?_ (hr := fun u => op_b (b := (decide ((Lib.trimS s [48, 49, 50, 51, 52, 53, 54, 55, 56, 57]) = []))) ((fun u => op_seq (L := Lib.trimS s [48, 49, 50, 51, 52, 53, 54, 55, 56, 57]) (K := []) (by kernel_rfl) (by kernel_rfl)) u) hk22)
       refine GL.v (.bool true) ?_
       refine GL.v (.bool true) ?_
       refine GL.v (.string (bs s)) ?_
       refine GL.v (.int .i64 (s.length : Int)) ?_ (hr := fun u => op_slen (L := s) (by kernel_rfl) (by kernel_rfl) (by (try simp only [List.length_append, List.length_cons, List.length_nil]); omega))
       refine GL.v (.bool true) ?_ (hr := fun u => op_b (b := ((s.length : Int) == (1 : Int))) (by kernel_rfl) hk23)
       refine GL.v (.bool true) ?_
       refine GL.sk ?_
       have hl0 : 0 < s.length := List.length_pos_iff.2 (by assumption)
       refine GL.sk ?_
       refine GL.sk ?_
       refine GL.v (.bool true) ?_
       refine GL.v (.bool true) ?_
       refine GL.v (.bool true) ?_
       refine GL.k k1 ?_
       refine CG.ret (QG.ret (fun _ hM => results_one rfl (res_tmp rfl)) ?_)
       intro _ hM
       exact ⟨ret_bool (isDs_one hc21 ((trimS_nil s).1 hc22) (by omega)), hM.below⟩
     · have hk23 : ((s.length : Int) == (1 : Int)) = false := beq_eq_false_iff_ne.2 hc23
       refine CG.lin 18 ?_
       refine GL.v (.string (bs s)) ?_
       refine GL.v (.bool true) ?_ (hr := fun u => op_b (b := (!(decide (s = [])))) ((fun u => op_sne (L := s) (K := []) (by kernel_rfl) (by kernel_rfl)) u) hk21)
       refine GL.v (.bool true) ?_
       refine GL.v (.string (bs s)) ?_
       refine GL.call (fun _ hM => trim_ok hM.avlt s (by first | assumption | omega)) ?_
       rintro _ _ _ hM ⟨rfl, hb⟩
       refine ⟨_, _, _, rfl, hM.call hb, ?_⟩
       refine GL.v (.bool true) ?_ (hr := fun u => op_b (b := (decide ((Lib.trimS s [48, 49, 50, 51, 52, 53, 54, 55, 56, 57]) = []))) ((fun u => op_seq (L := Lib.trimS s [48, 49, 50, 51, 52, 53, 54, 55, 56, 57]) (K := []) (by kernel_rfl) (by kernel_rfl)) u) hk22)
       refine GL.v (.bool true) ?_
       refine GL.v (.bool true) ?_
       refine GL.v (.string (bs s)) ?_
       refine GL.v (.int .i64 (s.length : Int)) ?_ (hr := fun u => op_slen (L := s) (by kernel_rfl) (by kernel_rfl) (by (try simp only [List.length_append, List.length_cons, List.length_nil]); omega))
       refine GL.v (.bool false) ?_ (hr := fun u => op_b (b := ((s.length : Int) == (1 : Int))) (by kernel_rfl) hk23)
       refine GL.v (.bool false) ?_
       refine GL.v (.string (bs s)) ?_
       have hl0 : 0 < s.length := List.length_pos_iff.2 (by assumption)
       refine GL.v (.int .u8 (((s.getD 0 0).toNat : Nat) : Int)) ?_ (hr := fun u => op_sidx (L := s) (k := .i64) (i := (0 : Int)) 0 (by kernel_rfl) (by kernel_rfl) (by omega) (by (try simp only [List.length_append, List.length_cons, List.length_nil]); omega) (by kernel_rfl))
       refine GL.v (.bool ((((s.getD 0 0).toNat : Nat) : Int) != (48 : Int))) ?_
       refine GL.v (.bool ((((s.getD 0 0).toNat : Nat) : Int) != (48 : Int))) ?_
       refine GL.v (.bool ((((s.getD 0 0).toNat : Nat) : Int) != (48 : Int))) ?_
       refine GL.v (.bool ((((s.getD 0 0).toNat : Nat) : Int) != (48 : Int))) ?_
       refine GL.k k1 ?_
       refine CG.ret (QG.ret (fun _ hM => results_one rfl (res_tmp rfl)) ?_)
       intro _ hM
       exact ⟨ret_bool (isDs_more hc21 ((trimS_nil s).1 hc22) (by omega)), hM.below⟩
   · have hk22 : (decide ((Lib.trimS s [48, 49, 50, 51, 52, 53, 54, 55, 56, 57]) = [])) = false := decide_eq_false hc22
     refine CG.lin 18 ?_
     refine GL.v (.string (bs s)) ?_
     refine GL.v (.bool true) ?_ (hr := fun u => op_b (b := (!(decide (s = [])))) ((fun u => op_sne (L := s) (K := []) (by kernel_rfl) (by kernel_rfl)) u) hk21)
     refine GL.v (.bool true) ?_
     refine GL.v (.string (bs s)) ?_
     refine GL.call (fun _ hM => trim_ok hM.avlt s (by first | assumption | omega)) ?_
     rintro _ _ _ hM ⟨rfl, hb⟩
     refine ⟨_, _, _, rfl, hM.call hb, ?_⟩
     refine GL.v (.bool false) ?_ (hr := fun u => op_b (b := (decide ((Lib.trimS s [48, 49, 50, 51, 52, 53, 54, 55, 56, 57]) = []))) ((fun u => op_seq (L := Lib.trimS s [48, 49, 50, 51, 52, 53, 54, 55, 56, 57]) (K := []) (by kernel_rfl) (by kernel_rfl)) u) hk22)
     refine GL.v (.bool false) ?_
     refine GL.v (.bool false) ?_
     refine GL.sk ?_
     refine GL.sk ?_
     refine GL.sk ?_
     refine GL.sk ?_
     refine GL.sk ?_
     have hl0 : 0 < s.length := List.length_pos_iff.2 (by assumption)
     refine GL.sk ?_
     refine GL.sk ?_
     refine GL.sk ?_
     refine GL.v (.bool false) ?_
     refine GL.v (.bool false) ?_
     refine GL.k k1 ?_
     refine CG.ret (QG.ret (fun _ hM => results_one rfl (res_tmp rfl)) ?_)
     intro _ hM
     exact ⟨ret_bool (isDs_bad hc21 (fun h => hc22 ((trimS_nil s).2 h))), hM.below⟩
 · have hk21 : (!(decide (s = []))) = false := by simpa using hc21
   refine CG.lin 18 ?_
   refine GL.v (.string (bs s)) ?_
   refine GL.v (.bool false) ?_ (hr := fun u => op_b (b := (!(decide (s = [])))) ((fun u => op_sne (L := s) (K := []) (by kernel_rfl) (by kernel_rfl)) u) hk21)
   refine GL.v (.bool false) ?_
   refine GL.sk ?_
   refine GL.sk ?_
   refine GL.sk ?_
   refine GL.v (.bool false) ?_
   refine GL.v (.bool false) ?_
   refine GL.sk ?_
   refine GL.sk ?_
   refine GL.sk ?_
   refine GL.sk ?_
   refine GL.sk ?_
   refine GL.sk ?_
   refine GL.sk ?_
   refine GL.sk ?_
   refine GL.v (.bool false) ?_
   refine GL.v (.bool false) ?_
   refine GL.k k1 ?_
   refine CG.ret (QG.ret (fun _ hM => results_one rfl (res_tmp rfl)) ?_)
   intro _ hM
   exact ⟨ret_bool (isDs_nil (Classical.not_not.1 hc21)), hM.below⟩

set_option maxRecDepth 100000 in
set_option maxHeartbeats 400000 in
theorem read_ok {w : World} {X : Nat → Prop} (hX : ∀ k, X k → k < w.heap.size) (s : List UInt8) (p1 : s.all isDg' = true) (p2 : s.length ≤ 274877906944) :
    Calls Tryz.prog 112 #[.string (bs s)] w (fun e w' => ∃ Ar nr cr, e = .returned (.agg #[.slice Ar nr cr]) ∧ Dk.R X w' [.slice Ar nr cr] (num s) ∧ Below w.heap.size w w') := by
 have hM := Mem.start hX
 refine calls_of hM Tryz.func112 Tryz.ntmps112 ?_
 refine CG.seq fun K_ k1 => ?_
 refine CG.lin 1 ?_
 refine GL.aA zer26 fun g21 => ?_
 refine GL.k k1 ?_
 refine CG.seq fun K_ k1 => ?_
 refine CG.lin 1 ?_
 refine GL.aA zer26 fun g22 => ?_
 refine GL.k k1 ?_
 refine CG.seq fun K_ k1 => ?_
 refine CG.seq fun K_ k2 => ?_
 refine CG.lin 3 ?_
 refine GL.v (.string (bs s)) ?_
 refine GL.v (.int .i64 (s.length : Int)) ?_ (hr := fun u => op_slen (L := s) (by kernel_rfl) (by kernel_rfl) (by (try simp only [List.length_append, List.length_cons, List.length_nil]); omega))
 refine GL.v (.int .i64 0) ?_
 refine GL.k k2 ?_
 refine CG.block ?_
 refine CG.loop (fun m_ a_ u_ => ∃ (Aa : Option Addr) (na : Nat) (ca : Nat) (a : Nat) (i : Nat) (j23 : Nat → Value), a_ = ⟨#[.string (bs s), undef, .pointer (some ⟨g21, 0, none⟩), .pointer (some ⟨g22, 0, none⟩), (j23 4), .string (bs s), .int .i64 (s.length : Int), .int .i64 (i : Int), (j23 8), (j23 9), (j23 10), (j23 11), (j23 12), (j23 13), (j23 14), (j23 15), (j23 16), (j23 17), (j23 18), (j23 19), (j23 20), undef], []⟩ ∧ m_ = s.length - i ∧ Mem w [] X u_ [.box g22 #[.slice Aa na ca] 26, .box g21 #[.slice none 0 0] 26] [⟨Dk, [.slice Aa na ca], a⟩] ∧ (i ≤ s.length) ∧ (a = num (s.take i))) (fun _ hM => ⟨_, none, 0, 0, 0, 0, (fun t => (#[.string (bs s), undef, .pointer (some ⟨g21, 0, none⟩), .pointer (some ⟨g22, 0, none⟩), undef, .string (bs s), .int .i64 (s.length : Int), .int .i64 0, undef, undef, undef, undef, undef, undef, undef, undef, undef, undef, undef, undef, undef, undef] : Array Value).getD t undef), (by kernel_rfl), rfl, (hM.clr).add (Dk.nil _ _ none 0), (by omega), rfl⟩) ?_
 rintro m_ a_ u_ ⟨Aa, na, ca, a, i, j23, rfl, hm23, hM, hi, ha⟩
 refine CG.go hM ?_
 refine CG.seq fun K_ k2 => ?_
 refine CG.lin 1 ?_
 refine GL.v (.bool (decide ((i : Int) < (s.length : Int)))) ?_
 refine GL.k k2 ?_
 refine CG.seq fun K_ k2 => ?_
 by_cases hc24 : (i : Int) < (s.length : Int)
 · have hk24 : (decide ((i : Int) < (s.length : Int))) = true := decide_eq_true hc24
   refine CG.yes ?_ hk24 rfl
   refine CG.skip ?_
   refine QG.k k2 ?_
   refine CG.seq fun K_ k2 => ?_
   refine CG.block ?_
   refine CG.seq fun K_ k3 => ?_
   refine CG.lin 2 ?_
   refine GL.v (.int .i64 (i : Int)) ?_
   refine GL.v (.int .i64 (i : Int)) ?_
   refine GL.k k3 ?_
   refine CG.draw [] [0, 3, 4, 5, 6, 7] (.step 0 (.step 3 (.step 4 (.step 5 (.step 6 (.step 7 (.step 1 (.step 2 (.step 8 (.step 9 (.step 10 .done))))))))))) (fun V hV25 => ?_)
   refine GD.er (.agg #[.slice Aa na ca]) (fun _ hS => op_load_agg (off := 0) (by kernel_rfl) agg26 siz26 (hV25.bS 0 rfl hS) rfl rfl) ?_
   refine GD.ev (.string (bs s)) ?_
   refine GD.ev (.int .i64 (i : Int)) ?_
   refine GD.ev (.int .u8 (((s.getD i 0).toNat : Nat) : Int)) ?_ (hr := fun u => op_sidx (L := s) (k := .i64) (i := (i : Int)) i (by kernel_rfl) (by kernel_rfl) (by omega) (by (try simp only [List.length_append, List.length_cons, List.length_nil]); omega) (by kernel_rfl))
   have hc := dg_range p1 (i := i) (by omega)
   refine GD.ev (.int .u8 ((((s.getD i 0).toNat) - 48 : Nat) : Int)) ?_ (hr := fun u => op_to (v := .int .u8 (IntKind.wrap .u8 ((((s.getD i 0).toNat : Nat) : Int) - (48 : Int)))) (by kernel_rfl) (wrap_u8 (by omega) (by omega) (by omega)))
   refine GD.ev (.int .u64 ((((s.getD i 0).toNat) - 48 : Nat) : Int)) ?_ (hr := fun u => op_to (v := .int .u64 (IntKind.wrap .u64 ((((s.getD i 0).toNat) - 48 : Nat) : Int))) (by kernel_rfl) (wrap_u64 rfl (by omega) (by omega)))
   refine GD.call (fun _ hM => wordn_ok hM.avlt (n := 10) (by first | assumption | omega)) ?_
   rintro _ _ _ hM ⟨A26, n26, c26, rfl, h26, hb⟩
   have hw26 : szn (10) ≤ 3 := szn_small 3 (by omega)
   refine ⟨_, _, _, rfl, hb, (hM.call hb).add h26, ?_⟩
   refine GD.call (fun _ hM => times_ok hM.avlt (hM.f 1 rfl) (hM.f 0 rfl) (by first | omega | (have := num_szn p1 i; rw [← ha] at this; have := szn_small (n := 10) 1 (by decide); have := szn_small (n := (s.getD i 0).toNat - 48) 1 (by omega); have := szn_mul a 10; omega))) ?_
   rintro _ _ _ hM ⟨A27, n27, c27, rfl, h27, hb⟩
   have hs27 := szn_mul a (10)
   refine ⟨_, _, _, rfl, hb, (hM.call hb).add h27, ?_⟩
   refine GD.call (fun _ hM => wordn_ok hM.avlt (n := ((s.getD i 0).toNat) - 48) (by first | assumption | omega)) ?_
   rintro _ _ _ hM ⟨A28, n28, c28, rfl, h28, hb⟩
   have hw28 : szn ((((s.getD i 0).toNat) - 48)) ≤ 3 := szn_small 3 (by omega)
   refine ⟨_, _, _, rfl, hb, (hM.call hb).add h28, ?_⟩
   refine GD.call (fun _ hM => plus_add_ok hM.avlt (hM.f 1 rfl) (hM.f 0 rfl) (by first | omega | (have := num_szn p1 i; rw [← ha] at this; have := szn_small (n := 10) 1 (by decide); have := szn_small (n := (s.getD i 0).toNat - 48) 1 (by omega); have := szn_mul a 10; omega))) ?_
   rintro _ _ _ hM ⟨A29, n29, c29, rfl, h29, hb⟩
   have hs29 := szn_add (a * 10) ((((s.getD i 0).toNat) - 48))
   refine ⟨_, _, _, rfl, hb, (hM.call hb).add h29, ?_⟩
   refine GD.st (fun _ _ => Mem.st0) (fun _ hM => store_all (cs' := #[.slice A29 n29 c29]) siz26 (hM.b 0 rfl) (by kernel_rfl) (by kernel_rfl) rfl rfl rfl) ?_
   refine GD.q ?_
   refine QG.block ?_
   refine QG.k k2 ?_
   refine CG.lin 2 ?_
   refine GL.v (.int .i64 ((i + 1 : Nat) : Int)) ?_ (hr := fun u => op_to (v := .int .i64 (IntKind.wrap .i64 ((i : Int) + (1 : Int)))) (by kernel_rfl) (wrap_i64 (by omega) (by omega) (by omega)))
   refine GL.v (.int .i64 ((i + 1 : Nat) : Int)) ?_
   refine GL.q ?_
   refine QG.again fun _ hM => ?_
   exact ⟨s.length - (i + 1), (by omega), A29, n29, c29, ((a * 10) + (((s.getD i 0).toNat) - 48)), (i + 1), (fun t => (#[.string (bs s), undef, .pointer (some ⟨g21, 0, none⟩), .pointer (some ⟨g22, 0, none⟩), .int .i64 (i : Int), .string (bs s), .int .i64 (s.length : Int), .int .i64 ((i + 1 : Nat) : Int), .bool (decide ((i : Int) < (s.length : Int))), .int .i64 (i : Int), .agg #[.slice Aa na ca], .agg #[.slice A26 n26 c26], .agg #[.slice A27 n27 c27], .string (bs s), .int .i64 (i : Int), .int .u8 (((s.getD i 0).toNat : Nat) : Int), .int .u8 ((((s.getD i 0).toNat) - 48 : Nat) : Int), .int .u64 ((((s.getD i 0).toNat) - 48 : Nat) : Int), .agg #[.slice A28 n28 c28], .agg #[.slice A29 n29 c29], .int .i64 ((i + 1 : Nat) : Int), undef] : Array Value).getD t undef), (by kernel_rfl), rfl, (hM.clr).add (hM.f 0 rfl), (by omega), (num_step s (by omega) ha)⟩
 · have hk24 : (decide ((i : Int) < (s.length : Int))) = false := decide_eq_false hc24
   refine CG.no ?_ hk24 rfl
   refine CG.exit (QG.then_exit (QG.then_exit (QG.here ?_)))
   refine QG.k k1 ?_
   refine CG.seq fun K_ k1 => ?_
   refine CG.lin 2 ?_
   refine GL.r (.agg #[.slice Aa na ca]) (fun _ hM => op_load_agg (off := 0) (by kernel_rfl) agg26 siz26 (hM.b 0 rfl) rfl rfl) ?_
   refine GL.sA (cs' := #[.slice Aa na ca]) (fun _ _ => Mem.st1) (fun _ hM => hM.b 1 rfl) siz26 ?_
   refine GL.k k1 ?_
   refine CG.ret (QG.ret (fun _ hM => results_one rfl (res_cell rfl (loadVar_agg agg26 siz26 (hM.b 1 rfl) rfl rfl))) ?_)
   intro _ hM
   exact ⟨_, _, _, rfl, ((show a = num s by rw [ha, show i = s.length by omega, List.take_length]) ▸ (hM.out (hM.f 0 rfl))), hM.below⟩

end Go.Proofs.YtklnjhlidfclmaaGreatDoor
