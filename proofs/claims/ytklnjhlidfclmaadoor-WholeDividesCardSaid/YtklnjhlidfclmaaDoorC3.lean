/- Contracts of the program's functions. -/
import Derived.Test.YtklnjhlidfclmaaDoorC2
set_option linter.unusedVariables false
set_option linter.unusedSimpArgs false
namespace Go.Proofs.YtklnjhlidfclmaaDoor
open Go.RowKit Cps
attribute [local go_sem] Oper.semAt_some

set_option maxRecDepth 100000 in
set_option maxHeartbeats 400000 in
theorem BothZ_ok {w : World} {X : Nat → Prop} (hX : ∀ k, X k → k < w.heap.size) (xA : Int) (xB : Int) (xC : Int) (xP : Int) (p1 : -9223372036854775808 ≤ xA ∧ xA ≤ 9223372036854775807) (p2 : -9223372036854775808 ≤ xB ∧ xB ≤ 9223372036854775807) (p3 : -9223372036854775808 ≤ xC ∧ xC ≤ 9223372036854775807) (p4 : 0 ≤ xP ∧ xP ≤ 255) :
    Calls Tryd.prog 6 #[.agg #[.int .i64 xA, .int .i64 xB, .int .i64 xC, .int .u8 xP]] w (fun e w' => ∃ Ar1 nr1 cr1 mr1 sr2 Ar2 nr2 cr2, e = .returned (.tuple #[.agg #[.slice Ar1 nr1 cr1, .bool mr1], .agg #[.int .i64 sr2, .slice Ar2 nr2 cr2]]) ∧ Zk.R X w' [.slice Ar1 nr1 cr1, .bool mr1] (bigv xA xB xC xP) ∧ NZk.R X w' [.int .i64 sr2, .slice Ar2 nr2 cr2] (bigv xA xB xC xP) ∧ Below w.heap.size w w') := by
 have hM := Mem.start hX
 have hz0 := bigv_base xA xB xC p1 p2 p3
 refine calls_of hM Tryd.func6 Tryd.ntmps6 ?_
 refine CG.seq fun K_ k1 => ?_
 refine CG.lin 3 ?_
 refine GL.bA #[.int .i64 xA, .int .i64 xB, .int .i64 xC, .int .u8 xP] fun g21 => ?_
 refine GL.aA zer28 fun g22 => ?_
 refine GL.aA zer31 fun g23 => ?_
 refine GL.k k1 ?_
 refine CG.seq fun K_ k1 => ?_
 refine CG.cut (fun a_ u_ => ∃ (A25 : Option Addr) (n25 : Nat) (c25 : Nat) (m25 : Bool) (A26 : Option Addr) (n26 : Nat) (c26 : Nat) (m26 : Bool) (A27 : Option Addr) (n27 : Nat) (c27 : Nat) (m27 : Bool) (A28 : Option Addr) (n28 : Nat) (c28 : Nat) (m28 : Bool) (A29 : Option Addr) (n29 : Nat) (c29 : Nat) (m29 : Bool) (g30 : Nat), a_ = ⟨#[.agg #[.int .i64 xA, .int .i64 xB, .int .i64 xC, .int .u8 xP], .pointer (some ⟨g21, 0, none⟩), .pointer (some ⟨g22, 0, none⟩), .pointer (some ⟨g23, 0, none⟩), .pointer (some ⟨g30, 0, none⟩), undef, undef, undef, undef, .pointer (some ⟨g21, 0, none⟩), .int .i64 xA, .agg #[.slice A25 n25 c25, .bool m25], .pointer (some ⟨g21, 1, none⟩), .int .i64 xB, .agg #[.slice A26 n26 c26, .bool m26], .agg #[.slice A27 n27 c27, .bool m27], .pointer (some ⟨g21, 2, none⟩), .int .i64 xC, .agg #[.slice A28 n28 c28, .bool m28], .agg #[.slice A29 n29 c29, .bool m29], undef, undef, undef, undef, undef, undef, undef, undef, undef, undef, undef, undef, undef, undef, undef, undef, undef, undef, undef, undef, undef, undef, undef, undef, undef, undef, undef, undef], []⟩ ∧ Mem w [] X u_ [.box g30 #[.slice A29 n29 c29, .bool m29] 28, .box g23 #[.int .i64 0, .slice none 0 0] 31, .box g22 #[.slice none 0 0, .bool false] 28, .box g21 #[.int .i64 xA, .int .i64 xB, .int .i64 xC, .int .u8 xP] 23] [⟨Zk, [.slice A29 n29 c29, .bool m29], (xA * xB) + xC⟩, ⟨Zk, [.slice A28 n28 c28, .bool m28], xC⟩, ⟨Zk, [.slice A27 n27 c27, .bool m27], xA * xB⟩, ⟨Zk, [.slice A26 n26 c26, .bool m26], xB⟩, ⟨Zk, [.slice A25 n25 c25, .bool m25], xA⟩]) ?_ ?_
 · skip
   refine CG.draw [] [0, 1, 3, 4, 7, 8] (.step 0 (.step 1 (.step 3 (.step 4 (.step 7 (.step 8 (.fork 2 (.fork 5 (.fork 6 (.fork 9 (.fork 10 (.step 11 (.step 12 .done)) (.step 11 (.step 10 (.step 12 .done)))) (.step 11 (.step 9 (.step 10 (.step 12 .done))))) (.step 11 (.step 6 (.step 9 (.step 10 (.step 12 .done)))))) (.step 11 (.step 5 (.step 6 (.step 9 (.step 10 (.step 12 .done))))))) (.step 11 (.step 2 (.step 5 (.step 6 (.step 9 (.step 10 (.step 12 .done)))))))))))))) (fun V hV24 => ?_)
   refine GD.ev (.pointer (some ⟨g21, 0, none⟩)) ?_
   refine GD.er (.int .i64 xA) (fun _ hS => op_load_one (off := 0) (by kernel_rfl) agg2 (hV24.bS 2 rfl hS) rfl) ?_
   refine GD.ev (.pointer (some ⟨g21, 1, none⟩)) ?_
   refine GD.er (.int .i64 xB) (fun _ hS => op_load_one (off := 1) (by kernel_rfl) agg2 (hV24.bS 2 rfl hS) rfl) ?_
   refine GD.ev (.pointer (some ⟨g21, 2, none⟩)) ?_
   refine GD.er (.int .i64 xC) (fun _ hS => op_load_one (off := 2) (by kernel_rfl) agg2 (hV24.bS 2 rfl hS) rfl) ?_
   refine GD.fork ?_ ?_
   · skip
     refine GD.call (fun _ hM => Int_ok hM.avlt xA (by first | assumption | omega)) ?_
     rintro _ _ _ hM ⟨A25, n25, c25, m25, rfl, h25, hb⟩
     have hs25 := sz_i64 xA (by omega)
     refine ⟨_, _, _, rfl, hb, (hM.call hb).add h25, ?_⟩
     refine GD.fork ?_ ?_
     · skip
       refine GD.call (fun _ hM => Int_ok hM.avlt xB (by first | assumption | omega)) ?_
       rintro _ _ _ hM ⟨A26, n26, c26, m26, rfl, h26, hb⟩
       have hs26 := sz_i64 xB (by omega)
       refine ⟨_, _, _, rfl, hb, (hM.call hb).add h26, ?_⟩
       refine GD.fork ?_ ?_
       · skip
         refine GD.call (fun _ hM => Mul_ok hM.avlt (hM.f 1 rfl) (hM.f 0 rfl) (by first | assumption | omega)) ?_
         rintro _ _ _ hM ⟨A27, n27, c27, m27, rfl, h27, hb⟩
         have hs27 := sz_mul xA xB
         refine ⟨_, _, _, rfl, hb, (hM.call hb).add h27, ?_⟩
         refine GD.fork ?_ ?_
         · skip
           refine GD.call (fun _ hM => Int_ok hM.avlt xC (by first | assumption | omega)) ?_
           rintro _ _ _ hM ⟨A28, n28, c28, m28, rfl, h28, hb⟩
           have hs28 := sz_i64 xC (by omega)
           refine ⟨_, _, _, rfl, hb, (hM.call hb).add h28, ?_⟩
           refine GD.fork ?_ ?_
           · skip
             refine GD.call (fun _ hM => Add_ok hM.avlt (hM.f 1 rfl) (hM.f 0 rfl) (by first | assumption | omega)) ?_
             rintro _ _ _ hM ⟨A29, n29, c29, m29, rfl, h29, hb⟩
             have hs29 := sz_add (xA * xB) xC
             refine ⟨_, _, _, rfl, hb, (hM.call hb).add h29, ?_⟩
             refine GD.bx (fun _ => op_alloc zer28) fun g30 hg30 => ?_
             refine GD.sn hg30 (fun _ _ => Mem.st0) (fun _ hM => store_all (cs' := #[.slice A29 n29 c29, .bool m29]) siz28 (hM.b 0 rfl) (by kernel_rfl) (by kernel_rfl) rfl rfl rfl) ?_
             refine GD.q (QG.cut fun _ hM => ?_)
             exact ⟨A25, n25, c25, m25, A26, n26, c26, m26, A27, n27, c27, m27, A28, n28, c28, m28, A29, n29, c29, m29, g30, rfl, (((((hM.clr).add (hM.f 4 rfl)).add (hM.f 3 rfl)).add (hM.f 2 rfl)).add (hM.f 1 rfl)).add (hM.f 0 rfl)⟩
           refine GD.bx (fun _ => op_alloc zer28) fun g31 hg31 => ?_
           refine GD.call (fun _ hM => Add_ok hM.avlt (hM.f 1 rfl) (hM.f 0 rfl) (by first | assumption | omega)) ?_
           rintro _ _ _ hM ⟨A32, n32, c32, m32, rfl, h32, hb⟩
           have hs32 := sz_add (xA * xB) xC
           refine ⟨_, _, _, rfl, hb, (hM.call hb).add h32, ?_⟩
           refine GD.sn hg31 (fun _ _ => Mem.st0) (fun _ hM => store_all (cs' := #[.slice A32 n32 c32, .bool m32]) siz28 (hM.b 0 rfl) (by kernel_rfl) (by kernel_rfl) rfl rfl rfl) ?_
           refine GD.q (QG.cut fun _ hM => ?_)
           exact ⟨A25, n25, c25, m25, A26, n26, c26, m26, A27, n27, c27, m27, A28, n28, c28, m28, A32, n32, c32, m32, g31, rfl, (((((hM.clr).add (hM.f 4 rfl)).add (hM.f 3 rfl)).add (hM.f 2 rfl)).add (hM.f 1 rfl)).add (hM.f 0 rfl)⟩
         refine GD.bx (fun _ => op_alloc zer28) fun g33 hg33 => ?_
         refine GD.call (fun _ hM => Int_ok hM.avlt xC (by first | assumption | omega)) ?_
         rintro _ _ _ hM ⟨A34, n34, c34, m34, rfl, h34, hb⟩
         have hs34 := sz_i64 xC (by omega)
         refine ⟨_, _, _, rfl, hb, (hM.call hb).add h34, ?_⟩
         refine GD.call (fun _ hM => Add_ok hM.avlt (hM.f 1 rfl) (hM.f 0 rfl) (by first | assumption | omega)) ?_
         rintro _ _ _ hM ⟨A35, n35, c35, m35, rfl, h35, hb⟩
         have hs35 := sz_add (xA * xB) xC
         refine ⟨_, _, _, rfl, hb, (hM.call hb).add h35, ?_⟩
         refine GD.sn hg33 (fun _ _ => Mem.st0) (fun _ hM => store_all (cs' := #[.slice A35 n35 c35, .bool m35]) siz28 (hM.b 0 rfl) (by kernel_rfl) (by kernel_rfl) rfl rfl rfl) ?_
         refine GD.q (QG.cut fun _ hM => ?_)
         exact ⟨A25, n25, c25, m25, A26, n26, c26, m26, A27, n27, c27, m27, A34, n34, c34, m34, A35, n35, c35, m35, g33, rfl, (((((hM.clr).add (hM.f 4 rfl)).add (hM.f 3 rfl)).add (hM.f 2 rfl)).add (hM.f 1 rfl)).add (hM.f 0 rfl)⟩
       refine GD.bx (fun _ => op_alloc zer28) fun g36 hg36 => ?_
       refine GD.call (fun _ hM => Mul_ok hM.avlt (hM.f 1 rfl) (hM.f 0 rfl) (by first | assumption | omega)) ?_
       rintro _ _ _ hM ⟨A37, n37, c37, m37, rfl, h37, hb⟩
       have hs37 := sz_mul xA xB
       refine ⟨_, _, _, rfl, hb, (hM.call hb).add h37, ?_⟩
       refine GD.call (fun _ hM => Int_ok hM.avlt xC (by first | assumption | omega)) ?_
       rintro _ _ _ hM ⟨A38, n38, c38, m38, rfl, h38, hb⟩
       have hs38 := sz_i64 xC (by omega)
       refine ⟨_, _, _, rfl, hb, (hM.call hb).add h38, ?_⟩
       refine GD.call (fun _ hM => Add_ok hM.avlt (hM.f 1 rfl) (hM.f 0 rfl) (by first | assumption | omega)) ?_
       rintro _ _ _ hM ⟨A39, n39, c39, m39, rfl, h39, hb⟩
       have hs39 := sz_add (xA * xB) xC
       refine ⟨_, _, _, rfl, hb, (hM.call hb).add h39, ?_⟩
       refine GD.sn hg36 (fun _ _ => Mem.st0) (fun _ hM => store_all (cs' := #[.slice A39 n39 c39, .bool m39]) siz28 (hM.b 0 rfl) (by kernel_rfl) (by kernel_rfl) rfl rfl rfl) ?_
       refine GD.q (QG.cut fun _ hM => ?_)
       exact ⟨A25, n25, c25, m25, A26, n26, c26, m26, A37, n37, c37, m37, A38, n38, c38, m38, A39, n39, c39, m39, g36, rfl, (((((hM.clr).add (hM.f 4 rfl)).add (hM.f 3 rfl)).add (hM.f 2 rfl)).add (hM.f 1 rfl)).add (hM.f 0 rfl)⟩
     refine GD.bx (fun _ => op_alloc zer28) fun g40 hg40 => ?_
     refine GD.call (fun _ hM => Int_ok hM.avlt xB (by first | assumption | omega)) ?_
     rintro _ _ _ hM ⟨A41, n41, c41, m41, rfl, h41, hb⟩
     have hs41 := sz_i64 xB (by omega)
     refine ⟨_, _, _, rfl, hb, (hM.call hb).add h41, ?_⟩
     refine GD.call (fun _ hM => Mul_ok hM.avlt (hM.f 1 rfl) (hM.f 0 rfl) (by first | assumption | omega)) ?_
     rintro _ _ _ hM ⟨A42, n42, c42, m42, rfl, h42, hb⟩
     have hs42 := sz_mul xA xB
     refine ⟨_, _, _, rfl, hb, (hM.call hb).add h42, ?_⟩
     refine GD.call (fun _ hM => Int_ok hM.avlt xC (by first | assumption | omega)) ?_
     rintro _ _ _ hM ⟨A43, n43, c43, m43, rfl, h43, hb⟩
     have hs43 := sz_i64 xC (by omega)
     refine ⟨_, _, _, rfl, hb, (hM.call hb).add h43, ?_⟩
     refine GD.call (fun _ hM => Add_ok hM.avlt (hM.f 1 rfl) (hM.f 0 rfl) (by first | assumption | omega)) ?_
     rintro _ _ _ hM ⟨A44, n44, c44, m44, rfl, h44, hb⟩
     have hs44 := sz_add (xA * xB) xC
     refine ⟨_, _, _, rfl, hb, (hM.call hb).add h44, ?_⟩
     refine GD.sn hg40 (fun _ _ => Mem.st0) (fun _ hM => store_all (cs' := #[.slice A44 n44 c44, .bool m44]) siz28 (hM.b 0 rfl) (by kernel_rfl) (by kernel_rfl) rfl rfl rfl) ?_
     refine GD.q (QG.cut fun _ hM => ?_)
     exact ⟨A25, n25, c25, m25, A41, n41, c41, m41, A42, n42, c42, m42, A43, n43, c43, m43, A44, n44, c44, m44, g40, rfl, (((((hM.clr).add (hM.f 4 rfl)).add (hM.f 3 rfl)).add (hM.f 2 rfl)).add (hM.f 1 rfl)).add (hM.f 0 rfl)⟩
   refine GD.bx (fun _ => op_alloc zer28) fun g45 hg45 => ?_
   refine GD.call (fun _ hM => Int_ok hM.avlt xA (by first | assumption | omega)) ?_
   rintro _ _ _ hM ⟨A46, n46, c46, m46, rfl, h46, hb⟩
   have hs46 := sz_i64 xA (by omega)
   refine ⟨_, _, _, rfl, hb, (hM.call hb).add h46, ?_⟩
   refine GD.call (fun _ hM => Int_ok hM.avlt xB (by first | assumption | omega)) ?_
   rintro _ _ _ hM ⟨A47, n47, c47, m47, rfl, h47, hb⟩
   have hs47 := sz_i64 xB (by omega)
   refine ⟨_, _, _, rfl, hb, (hM.call hb).add h47, ?_⟩
   refine GD.call (fun _ hM => Mul_ok hM.avlt (hM.f 1 rfl) (hM.f 0 rfl) (by first | assumption | omega)) ?_
   rintro _ _ _ hM ⟨A48, n48, c48, m48, rfl, h48, hb⟩
   have hs48 := sz_mul xA xB
   refine ⟨_, _, _, rfl, hb, (hM.call hb).add h48, ?_⟩
   refine GD.call (fun _ hM => Int_ok hM.avlt xC (by first | assumption | omega)) ?_
   rintro _ _ _ hM ⟨A49, n49, c49, m49, rfl, h49, hb⟩
   have hs49 := sz_i64 xC (by omega)
   refine ⟨_, _, _, rfl, hb, (hM.call hb).add h49, ?_⟩
   refine GD.call (fun _ hM => Add_ok hM.avlt (hM.f 1 rfl) (hM.f 0 rfl) (by first | assumption | omega)) ?_
   rintro _ _ _ hM ⟨A50, n50, c50, m50, rfl, h50, hb⟩
   have hs50 := sz_add (xA * xB) xC
   refine ⟨_, _, _, rfl, hb, (hM.call hb).add h50, ?_⟩
   refine GD.sn hg45 (fun _ _ => Mem.st0) (fun _ hM => store_all (cs' := #[.slice A50 n50 c50, .bool m50]) siz28 (hM.b 0 rfl) (by kernel_rfl) (by kernel_rfl) rfl rfl rfl) ?_
   refine GD.q (QG.cut fun _ hM => ?_)
   exact ⟨A46, n46, c46, m46, A47, n47, c47, m47, A48, n48, c48, m48, A49, n49, c49, m49, A50, n50, c50, m50, g45, rfl, (((((hM.clr).add (hM.f 4 rfl)).add (hM.f 3 rfl)).add (hM.f 2 rfl)).add (hM.f 1 rfl)).add (hM.f 0 rfl)⟩
 · skip
   rintro a_ u_ ⟨A25, n25, c25, m25, A26, n26, c26, m26, A27, n27, c27, m27, A28, n28, c28, m28, A29, n29, c29, m29, g30, rfl, hM⟩
   refine QG.go hM ?_
   refine QG.k k1 ?_
   refine CG.seq fun K_ k1 => ?_
   refine CG.cut (fun a_ u_ => ∃ (s52 : Int) (A52 : Option Addr) (n52 : Nat) (c52 : Nat) (s53 : Int) (A53 : Option Addr) (n53 : Nat) (c53 : Nat) (s54 : Int) (A54 : Option Addr) (n54 : Nat) (c54 : Nat) (s55 : Int) (A55 : Option Addr) (n55 : Nat) (c55 : Nat) (s56 : Int) (A56 : Option Addr) (n56 : Nat) (c56 : Nat) (g57 : Nat), a_ = ⟨#[.agg #[.int .i64 xA, .int .i64 xB, .int .i64 xC, .int .u8 xP], .pointer (some ⟨g21, 0, none⟩), .pointer (some ⟨g22, 0, none⟩), .pointer (some ⟨g23, 0, none⟩), .pointer (some ⟨g30, 0, none⟩), .pointer (some ⟨g57, 0, none⟩), undef, undef, undef, .pointer (some ⟨g21, 0, none⟩), .int .i64 xA, .agg #[.slice A25 n25 c25, .bool m25], .pointer (some ⟨g21, 1, none⟩), .int .i64 xB, .agg #[.slice A26 n26 c26, .bool m26], .agg #[.slice A27 n27 c27, .bool m27], .pointer (some ⟨g21, 2, none⟩), .int .i64 xC, .agg #[.slice A28 n28 c28, .bool m28], .agg #[.slice A29 n29 c29, .bool m29], .pointer (some ⟨g21, 0, none⟩), .int .i64 xA, .agg #[.int .i64 s52, .slice A52 n52 c52], .pointer (some ⟨g21, 1, none⟩), .int .i64 xB, .agg #[.int .i64 s53, .slice A53 n53 c53], .agg #[.int .i64 s54, .slice A54 n54 c54], .pointer (some ⟨g21, 2, none⟩), .int .i64 xC, .agg #[.int .i64 s55, .slice A55 n55 c55], .agg #[.int .i64 s56, .slice A56 n56 c56], undef, undef, undef, undef, undef, undef, undef, undef, undef, undef, undef, undef, undef, undef, undef, undef, undef], []⟩ ∧ Mem w [] X u_ [.box g57 #[.int .i64 s56, .slice A56 n56 c56] 31, .box g30 #[.slice A29 n29 c29, .bool m29] 28, .box g23 #[.int .i64 0, .slice none 0 0] 31, .box g22 #[.slice none 0 0, .bool false] 28, .box g21 #[.int .i64 xA, .int .i64 xB, .int .i64 xC, .int .u8 xP] 23] [⟨NZk, [.int .i64 s56, .slice A56 n56 c56], (xA * xB) + xC⟩, ⟨NZk, [.int .i64 s55, .slice A55 n55 c55], xC⟩, ⟨NZk, [.int .i64 s54, .slice A54 n54 c54], xA * xB⟩, ⟨NZk, [.int .i64 s53, .slice A53 n53 c53], xB⟩, ⟨NZk, [.int .i64 s52, .slice A52 n52 c52], xA⟩, ⟨Zk, [.slice A29 n29 c29, .bool m29], (xA * xB) + xC⟩, ⟨Zk, [.slice A28 n28 c28, .bool m28], xC⟩, ⟨Zk, [.slice A27 n27 c27, .bool m27], xA * xB⟩, ⟨Zk, [.slice A26 n26 c26, .bool m26], xB⟩, ⟨Zk, [.slice A25 n25 c25, .bool m25], xA⟩]) ?_ ?_
   · skip
     refine CG.draw [] [0, 1, 3, 4, 7, 8] (.step 0 (.step 1 (.step 3 (.step 4 (.step 7 (.step 8 (.fork 2 (.fork 5 (.fork 6 (.fork 9 (.fork 10 (.step 11 (.step 12 .done)) (.step 11 (.step 10 (.step 12 .done)))) (.step 11 (.step 9 (.step 10 (.step 12 .done))))) (.step 11 (.step 6 (.step 9 (.step 10 (.step 12 .done)))))) (.step 11 (.step 5 (.step 6 (.step 9 (.step 10 (.step 12 .done))))))) (.step 11 (.step 2 (.step 5 (.step 6 (.step 9 (.step 10 (.step 12 .done)))))))))))))) (fun V hV51 => ?_)
     refine GD.ev (.pointer (some ⟨g21, 0, none⟩)) ?_
     refine GD.er (.int .i64 xA) (fun _ hS => op_load_one (off := 0) (by kernel_rfl) agg2 (hV51.bS 3 rfl hS) rfl) ?_
     refine GD.ev (.pointer (some ⟨g21, 1, none⟩)) ?_
     refine GD.er (.int .i64 xB) (fun _ hS => op_load_one (off := 1) (by kernel_rfl) agg2 (hV51.bS 3 rfl hS) rfl) ?_
     refine GD.ev (.pointer (some ⟨g21, 2, none⟩)) ?_
     refine GD.er (.int .i64 xC) (fun _ hS => op_load_one (off := 2) (by kernel_rfl) agg2 (hV51.bS 3 rfl hS) rfl) ?_
     refine GD.fork ?_ ?_
     · skip
       refine GD.call (fun _ hM => ZInt_ok hM.avlt xA (by first | assumption | omega)) ?_
       rintro _ _ _ hM ⟨s52, A52, n52, c52, rfl, h52, hb⟩
       have hs52 := szg_i64 xA (by omega)
       refine ⟨_, _, _, rfl, hb, (hM.call hb).add h52, ?_⟩
       refine GD.fork ?_ ?_
       · skip
         refine GD.call (fun _ hM => ZInt_ok hM.avlt xB (by first | assumption | omega)) ?_
         rintro _ _ _ hM ⟨s53, A53, n53, c53, rfl, h53, hb⟩
         have hs53 := szg_i64 xB (by omega)
         refine ⟨_, _, _, rfl, hb, (hM.call hb).add h53, ?_⟩
         refine GD.fork ?_ ?_
         · skip
           refine GD.call (fun _ hM => ZMul_ok hM.avlt (hM.f 1 rfl) (hM.f 0 rfl) (by first | assumption | omega)) ?_
           rintro _ _ _ hM ⟨s54, A54, n54, c54, rfl, h54, hb⟩
           have hs54 := szg_mul xA xB
           refine ⟨_, _, _, rfl, hb, (hM.call hb).add h54, ?_⟩
           refine GD.fork ?_ ?_
           · skip
             refine GD.call (fun _ hM => ZInt_ok hM.avlt xC (by first | assumption | omega)) ?_
             rintro _ _ _ hM ⟨s55, A55, n55, c55, rfl, h55, hb⟩
             have hs55 := szg_i64 xC (by omega)
             refine ⟨_, _, _, rfl, hb, (hM.call hb).add h55, ?_⟩
             refine GD.fork ?_ ?_
             · skip
               refine GD.call (fun _ hM => ZAdd_ok hM.avlt (hM.f 1 rfl) (hM.f 0 rfl) (by first | assumption | omega)) ?_
               rintro _ _ _ hM ⟨s56, A56, n56, c56, rfl, h56, hb⟩
               have hs56 := szg_add (xA * xB) xC
               refine ⟨_, _, _, rfl, hb, (hM.call hb).add h56, ?_⟩
               refine GD.bx (fun _ => op_alloc zer31) fun g57 hg57 => ?_
               refine GD.sn hg57 (fun _ _ => Mem.st0) (fun _ hM => store_all (cs' := #[.int .i64 s56, .slice A56 n56 c56]) siz31 (hM.b 0 rfl) (by kernel_rfl) (by kernel_rfl) rfl rfl rfl) ?_
               refine GD.q (QG.cut fun _ hM => ?_)
               exact ⟨s52, A52, n52, c52, s53, A53, n53, c53, s54, A54, n54, c54, s55, A55, n55, c55, s56, A56, n56, c56, g57, rfl, ((((((((((hM.clr).add (hM.f 9 rfl)).add (hM.f 8 rfl)).add (hM.f 7 rfl)).add (hM.f 6 rfl)).add (hM.f 5 rfl)).add (hM.f 4 rfl)).add (hM.f 3 rfl)).add (hM.f 2 rfl)).add (hM.f 1 rfl)).add (hM.f 0 rfl)⟩
             refine GD.bx (fun _ => op_alloc zer31) fun g58 hg58 => ?_
             refine GD.call (fun _ hM => ZAdd_ok hM.avlt (hM.f 1 rfl) (hM.f 0 rfl) (by first | assumption | omega)) ?_
             rintro _ _ _ hM ⟨s59, A59, n59, c59, rfl, h59, hb⟩
             have hs59 := szg_add (xA * xB) xC
             refine ⟨_, _, _, rfl, hb, (hM.call hb).add h59, ?_⟩
             refine GD.sn hg58 (fun _ _ => Mem.st0) (fun _ hM => store_all (cs' := #[.int .i64 s59, .slice A59 n59 c59]) siz31 (hM.b 0 rfl) (by kernel_rfl) (by kernel_rfl) rfl rfl rfl) ?_
             refine GD.q (QG.cut fun _ hM => ?_)
             exact ⟨s52, A52, n52, c52, s53, A53, n53, c53, s54, A54, n54, c54, s55, A55, n55, c55, s59, A59, n59, c59, g58, rfl, ((((((((((hM.clr).add (hM.f 9 rfl)).add (hM.f 8 rfl)).add (hM.f 7 rfl)).add (hM.f 6 rfl)).add (hM.f 5 rfl)).add (hM.f 4 rfl)).add (hM.f 3 rfl)).add (hM.f 2 rfl)).add (hM.f 1 rfl)).add (hM.f 0 rfl)⟩
           refine GD.bx (fun _ => op_alloc zer31) fun g60 hg60 => ?_
           refine GD.call (fun _ hM => ZInt_ok hM.avlt xC (by first | assumption | omega)) ?_
           rintro _ _ _ hM ⟨s61, A61, n61, c61, rfl, h61, hb⟩
           have hs61 := szg_i64 xC (by omega)
           refine ⟨_, _, _, rfl, hb, (hM.call hb).add h61, ?_⟩
           refine GD.call (fun _ hM => ZAdd_ok hM.avlt (hM.f 1 rfl) (hM.f 0 rfl) (by first | assumption | omega)) ?_
           rintro _ _ _ hM ⟨s62, A62, n62, c62, rfl, h62, hb⟩
           have hs62 := szg_add (xA * xB) xC
           refine ⟨_, _, _, rfl, hb, (hM.call hb).add h62, ?_⟩
           refine GD.sn hg60 (fun _ _ => Mem.st0) (fun _ hM => store_all (cs' := #[.int .i64 s62, .slice A62 n62 c62]) siz31 (hM.b 0 rfl) (by kernel_rfl) (by kernel_rfl) rfl rfl rfl) ?_
           refine GD.q (QG.cut fun _ hM => ?_)
           exact ⟨s52, A52, n52, c52, s53, A53, n53, c53, s54, A54, n54, c54, s61, A61, n61, c61, s62, A62, n62, c62, g60, rfl, ((((((((((hM.clr).add (hM.f 9 rfl)).add (hM.f 8 rfl)).add (hM.f 7 rfl)).add (hM.f 6 rfl)).add (hM.f 5 rfl)).add (hM.f 4 rfl)).add (hM.f 3 rfl)).add (hM.f 2 rfl)).add (hM.f 1 rfl)).add (hM.f 0 rfl)⟩
         refine GD.bx (fun _ => op_alloc zer31) fun g63 hg63 => ?_
         refine GD.call (fun _ hM => ZMul_ok hM.avlt (hM.f 1 rfl) (hM.f 0 rfl) (by first | assumption | omega)) ?_
         rintro _ _ _ hM ⟨s64, A64, n64, c64, rfl, h64, hb⟩
         have hs64 := szg_mul xA xB
         refine ⟨_, _, _, rfl, hb, (hM.call hb).add h64, ?_⟩
         refine GD.call (fun _ hM => ZInt_ok hM.avlt xC (by first | assumption | omega)) ?_
         rintro _ _ _ hM ⟨s65, A65, n65, c65, rfl, h65, hb⟩
         have hs65 := szg_i64 xC (by omega)
         refine ⟨_, _, _, rfl, hb, (hM.call hb).add h65, ?_⟩
         refine GD.call (fun _ hM => ZAdd_ok hM.avlt (hM.f 1 rfl) (hM.f 0 rfl) (by first | assumption | omega)) ?_
         rintro _ _ _ hM ⟨s66, A66, n66, c66, rfl, h66, hb⟩
         have hs66 := szg_add (xA * xB) xC
         refine ⟨_, _, _, rfl, hb, (hM.call hb).add h66, ?_⟩
         refine GD.sn hg63 (fun _ _ => Mem.st0) (fun _ hM => store_all (cs' := #[.int .i64 s66, .slice A66 n66 c66]) siz31 (hM.b 0 rfl) (by kernel_rfl) (by kernel_rfl) rfl rfl rfl) ?_
         refine GD.q (QG.cut fun _ hM => ?_)
         exact ⟨s52, A52, n52, c52, s53, A53, n53, c53, s64, A64, n64, c64, s65, A65, n65, c65, s66, A66, n66, c66, g63, rfl, ((((((((((hM.clr).add (hM.f 9 rfl)).add (hM.f 8 rfl)).add (hM.f 7 rfl)).add (hM.f 6 rfl)).add (hM.f 5 rfl)).add (hM.f 4 rfl)).add (hM.f 3 rfl)).add (hM.f 2 rfl)).add (hM.f 1 rfl)).add (hM.f 0 rfl)⟩
       refine GD.bx (fun _ => op_alloc zer31) fun g67 hg67 => ?_
       refine GD.call (fun _ hM => ZInt_ok hM.avlt xB (by first | assumption | omega)) ?_
       rintro _ _ _ hM ⟨s68, A68, n68, c68, rfl, h68, hb⟩
       have hs68 := szg_i64 xB (by omega)
       refine ⟨_, _, _, rfl, hb, (hM.call hb).add h68, ?_⟩
       refine GD.call (fun _ hM => ZMul_ok hM.avlt (hM.f 1 rfl) (hM.f 0 rfl) (by first | assumption | omega)) ?_
       rintro _ _ _ hM ⟨s69, A69, n69, c69, rfl, h69, hb⟩
       have hs69 := szg_mul xA xB
       refine ⟨_, _, _, rfl, hb, (hM.call hb).add h69, ?_⟩
       refine GD.call (fun _ hM => ZInt_ok hM.avlt xC (by first | assumption | omega)) ?_
       rintro _ _ _ hM ⟨s70, A70, n70, c70, rfl, h70, hb⟩
       have hs70 := szg_i64 xC (by omega)
       refine ⟨_, _, _, rfl, hb, (hM.call hb).add h70, ?_⟩
       refine GD.call (fun _ hM => ZAdd_ok hM.avlt (hM.f 1 rfl) (hM.f 0 rfl) (by first | assumption | omega)) ?_
       rintro _ _ _ hM ⟨s71, A71, n71, c71, rfl, h71, hb⟩
       have hs71 := szg_add (xA * xB) xC
       refine ⟨_, _, _, rfl, hb, (hM.call hb).add h71, ?_⟩
       refine GD.sn hg67 (fun _ _ => Mem.st0) (fun _ hM => store_all (cs' := #[.int .i64 s71, .slice A71 n71 c71]) siz31 (hM.b 0 rfl) (by kernel_rfl) (by kernel_rfl) rfl rfl rfl) ?_
       refine GD.q (QG.cut fun _ hM => ?_)
       exact ⟨s52, A52, n52, c52, s68, A68, n68, c68, s69, A69, n69, c69, s70, A70, n70, c70, s71, A71, n71, c71, g67, rfl, ((((((((((hM.clr).add (hM.f 9 rfl)).add (hM.f 8 rfl)).add (hM.f 7 rfl)).add (hM.f 6 rfl)).add (hM.f 5 rfl)).add (hM.f 4 rfl)).add (hM.f 3 rfl)).add (hM.f 2 rfl)).add (hM.f 1 rfl)).add (hM.f 0 rfl)⟩
     refine GD.bx (fun _ => op_alloc zer31) fun g72 hg72 => ?_
     refine GD.call (fun _ hM => ZInt_ok hM.avlt xA (by first | assumption | omega)) ?_
     rintro _ _ _ hM ⟨s73, A73, n73, c73, rfl, h73, hb⟩
     have hs73 := szg_i64 xA (by omega)
     refine ⟨_, _, _, rfl, hb, (hM.call hb).add h73, ?_⟩
     refine GD.call (fun _ hM => ZInt_ok hM.avlt xB (by first | assumption | omega)) ?_
     rintro _ _ _ hM ⟨s74, A74, n74, c74, rfl, h74, hb⟩
     have hs74 := szg_i64 xB (by omega)
     refine ⟨_, _, _, rfl, hb, (hM.call hb).add h74, ?_⟩
     refine GD.call (fun _ hM => ZMul_ok hM.avlt (hM.f 1 rfl) (hM.f 0 rfl) (by first | assumption | omega)) ?_
     rintro _ _ _ hM ⟨s75, A75, n75, c75, rfl, h75, hb⟩
     have hs75 := szg_mul xA xB
     refine ⟨_, _, _, rfl, hb, (hM.call hb).add h75, ?_⟩
     refine GD.call (fun _ hM => ZInt_ok hM.avlt xC (by first | assumption | omega)) ?_
     rintro _ _ _ hM ⟨s76, A76, n76, c76, rfl, h76, hb⟩
     have hs76 := szg_i64 xC (by omega)
     refine ⟨_, _, _, rfl, hb, (hM.call hb).add h76, ?_⟩
     refine GD.call (fun _ hM => ZAdd_ok hM.avlt (hM.f 1 rfl) (hM.f 0 rfl) (by first | assumption | omega)) ?_
     rintro _ _ _ hM ⟨s77, A77, n77, c77, rfl, h77, hb⟩
     have hs77 := szg_add (xA * xB) xC
     refine ⟨_, _, _, rfl, hb, (hM.call hb).add h77, ?_⟩
     refine GD.sn hg72 (fun _ _ => Mem.st0) (fun _ hM => store_all (cs' := #[.int .i64 s77, .slice A77 n77 c77]) siz31 (hM.b 0 rfl) (by kernel_rfl) (by kernel_rfl) rfl rfl rfl) ?_
     refine GD.q (QG.cut fun _ hM => ?_)
     exact ⟨s73, A73, n73, c73, s74, A74, n74, c74, s75, A75, n75, c75, s76, A76, n76, c76, s77, A77, n77, c77, g72, rfl, ((((((((((hM.clr).add (hM.f 9 rfl)).add (hM.f 8 rfl)).add (hM.f 7 rfl)).add (hM.f 6 rfl)).add (hM.f 5 rfl)).add (hM.f 4 rfl)).add (hM.f 3 rfl)).add (hM.f 2 rfl)).add (hM.f 1 rfl)).add (hM.f 0 rfl)⟩
   · skip
     rintro a_ u_ ⟨s52, A52, n52, c52, s53, A53, n53, c53, s54, A54, n54, c54, s55, A55, n55, c55, s56, A56, n56, c56, g57, rfl, hM⟩
     refine QG.go hM ?_
     refine QG.k k1 ?_
     refine CG.seq fun K_ k1 => ?_
     refine CG.cut (fun a_ u_ => ∃ (g79 : Nat) (g80 : Nat), a_ = ⟨#[.agg #[.int .i64 xA, .int .i64 xB, .int .i64 xC, .int .u8 xP], .pointer (some ⟨g21, 0, none⟩), .pointer (some ⟨g22, 0, none⟩), .pointer (some ⟨g23, 0, none⟩), .pointer (some ⟨g30, 0, none⟩), .pointer (some ⟨g57, 0, none⟩), .pointer (some ⟨g79, 0, none⟩), .pointer (some ⟨g80, 0, none⟩), undef, .pointer (some ⟨g21, 0, none⟩), .int .i64 xA, .agg #[.slice A25 n25 c25, .bool m25], .pointer (some ⟨g21, 1, none⟩), .int .i64 xB, .agg #[.slice A26 n26 c26, .bool m26], .agg #[.slice A27 n27 c27, .bool m27], .pointer (some ⟨g21, 2, none⟩), .int .i64 xC, .agg #[.slice A28 n28 c28, .bool m28], .agg #[.slice A29 n29 c29, .bool m29], .pointer (some ⟨g21, 0, none⟩), .int .i64 xA, .agg #[.int .i64 s52, .slice A52 n52 c52], .pointer (some ⟨g21, 1, none⟩), .int .i64 xB, .agg #[.int .i64 s53, .slice A53 n53 c53], .agg #[.int .i64 s54, .slice A54 n54 c54], .pointer (some ⟨g21, 2, none⟩), .int .i64 xC, .agg #[.int .i64 s55, .slice A55 n55 c55], .agg #[.int .i64 s56, .slice A56 n56 c56], .agg #[.slice A29 n29 c29, .bool m29], .agg #[.int .i64 s56, .slice A56 n56 c56], undef, undef, undef, undef, undef, undef, undef, undef, undef, undef, undef, undef, undef, undef, undef], []⟩ ∧ Mem w [] X u_ [.box g80 #[.int .i64 s56, .slice A56 n56 c56] 31, .box g79 #[.slice A29 n29 c29, .bool m29] 28, .box g57 #[.int .i64 s56, .slice A56 n56 c56] 31, .box g30 #[.slice A29 n29 c29, .bool m29] 28, .box g23 #[.int .i64 0, .slice none 0 0] 31, .box g22 #[.slice none 0 0, .bool false] 28, .box g21 #[.int .i64 xA, .int .i64 xB, .int .i64 xC, .int .u8 xP] 23] [⟨NZk, [.int .i64 s56, .slice A56 n56 c56], (xA * xB) + xC⟩, ⟨NZk, [.int .i64 s55, .slice A55 n55 c55], xC⟩, ⟨NZk, [.int .i64 s54, .slice A54 n54 c54], xA * xB⟩, ⟨NZk, [.int .i64 s53, .slice A53 n53 c53], xB⟩, ⟨NZk, [.int .i64 s52, .slice A52 n52 c52], xA⟩, ⟨Zk, [.slice A29 n29 c29, .bool m29], (xA * xB) + xC⟩, ⟨Zk, [.slice A28 n28 c28, .bool m28], xC⟩, ⟨Zk, [.slice A27 n27 c27, .bool m27], xA * xB⟩, ⟨Zk, [.slice A26 n26 c26, .bool m26], xB⟩, ⟨Zk, [.slice A25 n25 c25, .bool m25], xA⟩]) ?_ ?_
     · skip
       refine CG.draw [] [0, 1] (.step 0 (.step 1 (.fork 2 (.step 3 (.step 4 (.step 5 .done))) (.step 3 (.step 2 (.step 4 (.step 5 .done))))))) (fun V hV78 => ?_)
       refine GD.er (.agg #[.slice A29 n29 c29, .bool m29]) (fun _ hS => op_load_agg (off := 0) (by kernel_rfl) agg28 siz28 (hV78.bS 1 rfl hS) rfl rfl) ?_
       refine GD.er (.agg #[.int .i64 s56, .slice A56 n56 c56]) (fun _ hS => op_load_agg (off := 0) (by kernel_rfl) agg31 siz31 (hV78.bS 0 rfl hS) rfl rfl) ?_
       refine GD.fork ?_ ?_
       · skip
         refine GD.bx (fun _ => op_alloc zer28) fun g79 hg79 => ?_
         refine GD.bx (fun _ => op_alloc zer31) fun g80 hg80 => ?_
         refine GD.sn hg79 (fun _ _ => Mem.st1) (fun _ hM => store_all (cs' := #[.slice A29 n29 c29, .bool m29]) siz28 (hM.b 1 rfl) (by kernel_rfl) (by kernel_rfl) rfl rfl rfl) ?_
         refine GD.sn hg80 (fun _ _ => Mem.st0) (fun _ hM => store_all (cs' := #[.int .i64 s56, .slice A56 n56 c56]) siz31 (hM.b 0 rfl) (by kernel_rfl) (by kernel_rfl) rfl rfl rfl) ?_
         refine GD.q (QG.cut fun _ hM => ?_)
         exact ⟨g79, g80, rfl, ((((((((((hM.clr).add (hM.f 9 rfl)).add (hM.f 8 rfl)).add (hM.f 7 rfl)).add (hM.f 6 rfl)).add (hM.f 5 rfl)).add (hM.f 4 rfl)).add (hM.f 3 rfl)).add (hM.f 2 rfl)).add (hM.f 1 rfl)).add (hM.f 0 rfl)⟩
       refine GD.bx (fun _ => op_alloc zer31) fun g81 hg81 => ?_
       refine GD.bx (fun _ => op_alloc zer28) fun g82 hg82 => ?_
       refine GD.sn hg82 (fun _ _ => Mem.st0) (fun _ hM => store_all (cs' := #[.slice A29 n29 c29, .bool m29]) siz28 (hM.b 0 rfl) (by kernel_rfl) (by kernel_rfl) rfl rfl rfl) ?_
       refine GD.sn hg81 (fun _ _ => Mem.st1) (fun _ hM => store_all (cs' := #[.int .i64 s56, .slice A56 n56 c56]) siz31 (hM.b 1 rfl) (by kernel_rfl) (by kernel_rfl) rfl rfl rfl) ?_
       refine GD.q (QG.cut fun _ hM => ?_)
       replace hM := hM.swap0
       exact ⟨g82, g81, rfl, ((((((((((hM.clr).add (hM.f 9 rfl)).add (hM.f 8 rfl)).add (hM.f 7 rfl)).add (hM.f 6 rfl)).add (hM.f 5 rfl)).add (hM.f 4 rfl)).add (hM.f 3 rfl)).add (hM.f 2 rfl)).add (hM.f 1 rfl)).add (hM.f 0 rfl)⟩
     · skip
       rintro a_ u_ ⟨g79, g80, rfl, hM⟩
       refine QG.go hM ?_
       refine QG.k k1 ?_
       refine CG.seq fun K_ k1 => ?_
       refine CG.seq fun K_ k2 => ?_
       refine CG.lin 1 ?_
       refine GL.v (.int .u8 0) ?_
       refine GL.k k2 ?_
       refine CG.block ?_
       refine CG.loop (fun m_ a_ u_ => ∃ (Ap : Option Addr) (np : Nat) (cp : Nat) (mp : Bool) (p : Int) (sq : Int) (Aq : Option Addr) (nq : Nat) (cq : Nat) (q : Int) (i : Nat) (j83 : Nat → Value), a_ = ⟨#[.agg #[.int .i64 xA, .int .i64 xB, .int .i64 xC, .int .u8 xP], .pointer (some ⟨g21, 0, none⟩), .pointer (some ⟨g22, 0, none⟩), .pointer (some ⟨g23, 0, none⟩), .pointer (some ⟨g30, 0, none⟩), .pointer (some ⟨g57, 0, none⟩), .pointer (some ⟨g79, 0, none⟩), .pointer (some ⟨g80, 0, none⟩), .int .u8 (i : Int), .pointer (some ⟨g21, 0, none⟩), .int .i64 xA, .agg #[.slice A25 n25 c25, .bool m25], .pointer (some ⟨g21, 1, none⟩), .int .i64 xB, .agg #[.slice A26 n26 c26, .bool m26], .agg #[.slice A27 n27 c27, .bool m27], .pointer (some ⟨g21, 2, none⟩), .int .i64 xC, .agg #[.slice A28 n28 c28, .bool m28], .agg #[.slice A29 n29 c29, .bool m29], .pointer (some ⟨g21, 0, none⟩), .int .i64 xA, .agg #[.int .i64 s52, .slice A52 n52 c52], .pointer (some ⟨g21, 1, none⟩), .int .i64 xB, .agg #[.int .i64 s53, .slice A53 n53 c53], .agg #[.int .i64 s54, .slice A54 n54 c54], .pointer (some ⟨g21, 2, none⟩), .int .i64 xC, .agg #[.int .i64 s55, .slice A55 n55 c55], .agg #[.int .i64 s56, .slice A56 n56 c56], .agg #[.slice A29 n29 c29, .bool m29], .agg #[.int .i64 s56, .slice A56 n56 c56], (j83 33), (j83 34), (j83 35), (j83 36), (j83 37), (j83 38), (j83 39), (j83 40), (j83 41), (j83 42), (j83 43), (j83 44), (j83 45), undef, undef], []⟩ ∧ m_ = 4 - i ∧ Mem w [] X u_ [.box g80 #[.int .i64 sq, .slice Aq nq cq] 31, .box g79 #[.slice Ap np cp, .bool mp] 28, .box g57 #[.int .i64 s56, .slice A56 n56 c56] 31, .box g30 #[.slice A29 n29 c29, .bool m29] 28, .box g23 #[.int .i64 0, .slice none 0 0] 31, .box g22 #[.slice none 0 0, .bool false] 28, .box g21 #[.int .i64 xA, .int .i64 xB, .int .i64 xC, .int .u8 xP] 23] [⟨Zk, [.slice Ap np cp, .bool mp], p⟩, ⟨NZk, [.int .i64 sq, .slice Aq nq cq], q⟩, ⟨NZk, [.int .i64 s56, .slice A56 n56 c56], (xA * xB) + xC⟩, ⟨NZk, [.int .i64 s55, .slice A55 n55 c55], xC⟩, ⟨NZk, [.int .i64 s54, .slice A54 n54 c54], xA * xB⟩, ⟨NZk, [.int .i64 s53, .slice A53 n53 c53], xB⟩, ⟨NZk, [.int .i64 s52, .slice A52 n52 c52], xA⟩, ⟨Zk, [.slice A29 n29 c29, .bool m29], (xA * xB) + xC⟩, ⟨Zk, [.slice A28 n28 c28, .bool m28], xC⟩, ⟨Zk, [.slice A27 n27 c27, .bool m27], xA * xB⟩, ⟨Zk, [.slice A26 n26 c26, .bool m26], xB⟩, ⟨Zk, [.slice A25 n25 c25, .bool m25], xA⟩] ∧ ((i : Int) ≤ xP % 4) ∧ (p = (xA * xB + xC) ^ (i + 1)) ∧ (q = p) ∧ (sz p ≤ 7 * (i + 1)) ∧ (szg q ≤ 11 * (i + 1))) (fun _ hM => ⟨_, A29, n29, c29, m29, ((xA * xB) + xC), s56, A56, n56, c56, ((xA * xB) + xC), 0, (fun t => (#[.agg #[.int .i64 xA, .int .i64 xB, .int .i64 xC, .int .u8 xP], .pointer (some ⟨g21, 0, none⟩), .pointer (some ⟨g22, 0, none⟩), .pointer (some ⟨g23, 0, none⟩), .pointer (some ⟨g30, 0, none⟩), .pointer (some ⟨g57, 0, none⟩), .pointer (some ⟨g79, 0, none⟩), .pointer (some ⟨g80, 0, none⟩), .int .u8 0, .pointer (some ⟨g21, 0, none⟩), .int .i64 xA, .agg #[.slice A25 n25 c25, .bool m25], .pointer (some ⟨g21, 1, none⟩), .int .i64 xB, .agg #[.slice A26 n26 c26, .bool m26], .agg #[.slice A27 n27 c27, .bool m27], .pointer (some ⟨g21, 2, none⟩), .int .i64 xC, .agg #[.slice A28 n28 c28, .bool m28], .agg #[.slice A29 n29 c29, .bool m29], .pointer (some ⟨g21, 0, none⟩), .int .i64 xA, .agg #[.int .i64 s52, .slice A52 n52 c52], .pointer (some ⟨g21, 1, none⟩), .int .i64 xB, .agg #[.int .i64 s53, .slice A53 n53 c53], .agg #[.int .i64 s54, .slice A54 n54 c54], .pointer (some ⟨g21, 2, none⟩), .int .i64 xC, .agg #[.int .i64 s55, .slice A55 n55 c55], .agg #[.int .i64 s56, .slice A56 n56 c56], .agg #[.slice A29 n29 c29, .bool m29], .agg #[.int .i64 s56, .slice A56 n56 c56], undef, undef, undef, undef, undef, undef, undef, undef, undef, undef, undef, undef, undef, undef, undef] : Array Value).getD t undef), (by kernel_rfl), rfl, ((((((((((((hM.clr).add (hM.f 9 rfl)).add (hM.f 8 rfl)).add (hM.f 7 rfl)).add (hM.f 6 rfl)).add (hM.f 5 rfl)).add (hM.f 4 rfl)).add (hM.f 3 rfl)).add (hM.f 2 rfl)).add (hM.f 1 rfl)).add (hM.f 0 rfl)).add (hM.f 0 rfl)).add (hM.f 5 rfl), (by omega), (by rw [Int.pow_succ]; simp), rfl, (by omega), (by omega)⟩) ?_
       rintro m_ a_ u_ ⟨Ap, np, cp, mp, p, sq, Aq, nq, cq, q, i, j83, rfl, hm83, hM, hi, hp, hq, hzp, hzq⟩
       refine CG.go hM ?_
       refine CG.seq fun K_ k2 => ?_
       refine CG.seq fun K_ k3 => ?_
       refine CG.lin 5 ?_
       refine GL.v (.int .u8 (i : Int)) ?_
       refine GL.v (.pointer (some ⟨g21, 3, none⟩)) ?_
       refine GL.r (.int .u8 xP) (fun _ hM => op_load_one (off := 3) (by kernel_rfl) agg5 (hM.b 6 rfl) rfl) ?_
       refine GL.v (.int .u8 (xP % 4)) ?_ (hr := fun u => op_to (v := .int .u8 ((xP).tmod 4)) (by kernel_rfl) (rem_to .u8 rfl (by omega)))
       refine GL.v (.bool (decide ((i : Int) < (xP % 4)))) ?_
       refine GL.k k3 ?_
       by_cases hc84 : (i : Int) < (xP % 4)
       · have hk84 : (decide ((i : Int) < (xP % 4))) = true := decide_eq_true hc84
         refine CG.yes ?_ hk84 rfl
         refine CG.skip ?_
         refine QG.k k2 ?_
         refine CG.seq fun K_ k2 => ?_
         refine CG.block ?_
         refine CG.draw [] [0, 1, 3, 4] (.step 0 (.step 1 (.step 3 (.step 4 (.step 2 (.step 5 (.step 6 (.step 7 .done)))))))) (fun V hV85 => ?_)
         refine GD.er (.agg #[.slice Ap np cp, .bool mp]) (fun _ hS => op_load_agg (off := 0) (by kernel_rfl) agg28 siz28 (hV85.bS 1 rfl hS) rfl rfl) ?_
         refine GD.er (.agg #[.slice A29 n29 c29, .bool m29]) (fun _ hS => op_load_agg (off := 0) (by kernel_rfl) agg28 siz28 (hV85.bS 3 rfl hS) rfl rfl) ?_
         refine GD.er (.agg #[.int .i64 sq, .slice Aq nq cq]) (fun _ hS => op_load_agg (off := 0) (by kernel_rfl) agg31 siz31 (hV85.bS 0 rfl hS) rfl rfl) ?_
         refine GD.er (.agg #[.int .i64 s56, .slice A56 n56 c56]) (fun _ hS => op_load_agg (off := 0) (by kernel_rfl) agg31 siz31 (hV85.bS 2 rfl hS) rfl rfl) ?_
         refine GD.call (fun _ hM => Mul_ok hM.avlt (hM.f 0 rfl) (hM.f 7 rfl) (by first | assumption | omega)) ?_
         rintro _ _ _ hM ⟨A86, n86, c86, m86, rfl, h86, hb⟩
         have hs86 := sz_mul p (((xA * xB) + xC))
         refine ⟨_, _, _, rfl, hb, (hM.call hb).add h86, ?_⟩
         refine GD.call (fun _ hM => ZMul_ok hM.avlt (hM.f 2 rfl) (hM.f 3 rfl) (by first | assumption | omega)) ?_
         rintro _ _ _ hM ⟨s87, A87, n87, c87, rfl, h87, hb⟩
         have hs87 := szg_mul q (((xA * xB) + xC))
         refine ⟨_, _, _, rfl, hb, (hM.call hb).add h87, ?_⟩
         refine GD.st (fun _ _ => Mem.st1) (fun _ hM => store_all (cs' := #[.slice A86 n86 c86, .bool m86]) siz28 (hM.b 1 rfl) (by kernel_rfl) (by kernel_rfl) rfl rfl rfl) ?_
         refine GD.st (fun _ _ => Mem.st0) (fun _ hM => store_all (cs' := #[.int .i64 s87, .slice A87 n87 c87]) siz31 (hM.b 0 rfl) (by kernel_rfl) (by kernel_rfl) rfl rfl rfl) ?_
         refine GD.q ?_
         refine QG.block ?_
         refine QG.k k2 ?_
         refine CG.lin 3 ?_
         refine GL.v (.int .u8 (i : Int)) ?_
         refine GL.v (.int .u8 ((i + 1 : Nat) : Int)) ?_ (hr := fun u => op_to (v := .int .u8 (IntKind.wrap .u8 ((i : Int) + (1 : Int)))) (by kernel_rfl) (wrap_u8 (by omega) (by omega) (by omega)))
         refine GL.v (.int .u8 ((i + 1 : Nat) : Int)) ?_
         refine GL.q ?_
         refine QG.again fun _ hM => ?_
         exact ⟨4 - (i + 1), (by omega), A86, n86, c86, m86, (p * ((xA * xB) + xC)), s87, A87, n87, c87, (q * ((xA * xB) + xC)), (i + 1), (fun t => (#[.agg #[.int .i64 xA, .int .i64 xB, .int .i64 xC, .int .u8 xP], .pointer (some ⟨g21, 0, none⟩), .pointer (some ⟨g22, 0, none⟩), .pointer (some ⟨g23, 0, none⟩), .pointer (some ⟨g30, 0, none⟩), .pointer (some ⟨g57, 0, none⟩), .pointer (some ⟨g79, 0, none⟩), .pointer (some ⟨g80, 0, none⟩), .int .u8 ((i + 1 : Nat) : Int), .pointer (some ⟨g21, 0, none⟩), .int .i64 xA, .agg #[.slice A25 n25 c25, .bool m25], .pointer (some ⟨g21, 1, none⟩), .int .i64 xB, .agg #[.slice A26 n26 c26, .bool m26], .agg #[.slice A27 n27 c27, .bool m27], .pointer (some ⟨g21, 2, none⟩), .int .i64 xC, .agg #[.slice A28 n28 c28, .bool m28], .agg #[.slice A29 n29 c29, .bool m29], .pointer (some ⟨g21, 0, none⟩), .int .i64 xA, .agg #[.int .i64 s52, .slice A52 n52 c52], .pointer (some ⟨g21, 1, none⟩), .int .i64 xB, .agg #[.int .i64 s53, .slice A53 n53 c53], .agg #[.int .i64 s54, .slice A54 n54 c54], .pointer (some ⟨g21, 2, none⟩), .int .i64 xC, .agg #[.int .i64 s55, .slice A55 n55 c55], .agg #[.int .i64 s56, .slice A56 n56 c56], .agg #[.slice A29 n29 c29, .bool m29], .agg #[.int .i64 s56, .slice A56 n56 c56], .int .u8 (i : Int), .pointer (some ⟨g21, 3, none⟩), .int .u8 xP, .int .u8 (xP % 4), .bool (decide ((i : Int) < (xP % 4))), .int .u8 (i : Int), .int .u8 ((i + 1 : Nat) : Int), .agg #[.slice Ap np cp, .bool mp], .agg #[.slice A29 n29 c29, .bool m29], .agg #[.slice A86 n86 c86, .bool m86], .agg #[.int .i64 sq, .slice Aq nq cq], .agg #[.int .i64 s56, .slice A56 n56 c56], .agg #[.int .i64 s87, .slice A87 n87 c87], undef, undef] : Array Value).getD t undef), (by kernel_rfl), rfl, ((((((((((((hM.clr).add (hM.f 13 rfl)).add (hM.f 12 rfl)).add (hM.f 11 rfl)).add (hM.f 10 rfl)).add (hM.f 9 rfl)).add (hM.f 8 rfl)).add (hM.f 7 rfl)).add (hM.f 6 rfl)).add (hM.f 5 rfl)).add (hM.f 4 rfl)).add (hM.f 0 rfl)).add (hM.f 1 rfl), (by omega), (by rw [Int.pow_succ, ← hp]), (by rw [hq]), (by omega), (by omega)⟩
       · have hk84 : (decide ((i : Int) < (xP % 4))) = false := decide_eq_false hc84
         refine CG.no ?_ hk84 rfl
         refine CG.exit (QG.then_exit (QG.then_exit (QG.here ?_)))
         refine QG.k k1 ?_
         refine CG.seq fun K_ k1 => ?_
         refine CG.draw [g22] [0, 1] (.step 0 (.step 1 (.step 2 (.step 3 .done)))) (fun V hV88 => ?_)
         refine GD.er (.agg #[.slice Ap np cp, .bool mp]) (fun _ hS => op_load_agg (off := 0) (by kernel_rfl) agg28 siz28 (hV88.bS 1 rfl hS (by simp only [List.mem_cons, List.not_mem_nil, or_false, not_or]; exact hV88.ne 1 5 rfl rfl (by decide))) rfl rfl) ?_
         refine GD.er (.agg #[.int .i64 sq, .slice Aq nq cq]) (fun _ hS => op_load_agg (off := 0) (by kernel_rfl) agg31 siz31 (hV88.bS 0 rfl hS (by simp only [List.mem_cons, List.not_mem_nil, or_false, not_or]; exact hV88.ne 0 5 rfl rfl (by decide))) rfl rfl) ?_
         refine GD.st (fun _ _ => Mem.st5) (fun _ hM => store_all (cs' := #[.slice Ap np cp, .bool mp]) siz28 (hM.b 5 rfl) (by kernel_rfl) (by kernel_rfl) rfl rfl rfl) ?_
         refine GD.st (fun _ _ => Mem.st4) (fun _ hM => store_all (cs' := #[.int .i64 sq, .slice Aq nq cq]) siz31 (hM.b 4 rfl) (by kernel_rfl) (by kernel_rfl) rfl rfl rfl) ?_
         refine GD.k k1 ?_
         refine CG.ret (QG.ret (fun _ hM => results_two rfl (res_cell rfl (loadVar_agg agg28 siz28 (hM.b 5 rfl) rfl rfl)) (res_cell rfl (loadVar_agg agg31 siz31 (hM.b 4 rfl) rfl rfl))) ?_)
         intro _ hM
         exact ⟨_, _, _, _, _, _, _, _, rfl, ((show p = bigv xA xB xC xP by rw [hp, show i = (xP % 4).toNat by omega]; rfl) ▸ (hM.out (hM.f 0 rfl))), ((show q = bigv xA xB xC xP by rw [hq, hp, show i = (xP % 4).toNat by omega]; rfl) ▸ (hM.out (hM.f 1 rfl))), hM.below⟩

set_option maxRecDepth 100000 in
set_option maxHeartbeats 400000 in
theorem divides_ok {w : World} {X : Nat → Prop} (hX : ∀ k, X k → k < w.heap.size) (xA : Int) (xB : Int) (xC : Int) (xP : Int) (yA : Int) (yB : Int) (yC : Int) (yP : Int) (wA : Int) (wB : Int) (wC : Int) (wP : Int) (p1 : -9223372036854775808 ≤ xA ∧ xA ≤ 9223372036854775807) (p2 : -9223372036854775808 ≤ xB ∧ xB ≤ 9223372036854775807) (p3 : -9223372036854775808 ≤ xC ∧ xC ≤ 9223372036854775807) (p4 : 0 ≤ xP ∧ xP ≤ 255) (p5 : -9223372036854775808 ≤ yA ∧ yA ≤ 9223372036854775807) (p6 : -9223372036854775808 ≤ yB ∧ yB ≤ 9223372036854775807) (p7 : -9223372036854775808 ≤ yC ∧ yC ≤ 9223372036854775807) (p8 : 0 ≤ yP ∧ yP ≤ 255) (p9 : -9223372036854775808 ≤ wA ∧ wA ≤ 9223372036854775807) (p10 : -9223372036854775808 ≤ wB ∧ wB ≤ 9223372036854775807) (p11 : -9223372036854775808 ≤ wC ∧ wC ≤ 9223372036854775807) (p12 : 0 ≤ wP ∧ wP ≤ 255) :
    Calls Tryd.prog 4 #[.agg #[.int .i64 xA, .int .i64 xB, .int .i64 xC, .int .u8 xP], .agg #[.int .i64 yA, .int .i64 yB, .int .i64 yC, .int .u8 yP], .agg #[.int .i64 wA, .int .i64 wB, .int .i64 wC, .int .u8 wP]] w (fun e w' => e = .returned (.bool true) ∧ Below w.heap.size w w') := by
 have hM := Mem.start hX
 refine calls_of hM Tryd.func4 Tryd.ntmps4 ?_
 refine CG.seq fun K_ k1 => ?_
 refine CG.lin 4 ?_
 refine GL.bA #[.int .i64 xA, .int .i64 xB, .int .i64 xC, .int .u8 xP] fun g21 => ?_
 refine GL.bA #[.int .i64 yA, .int .i64 yB, .int .i64 yC, .int .u8 yP] fun g22 => ?_
 refine GL.bA #[.int .i64 wA, .int .i64 wB, .int .i64 wC, .int .u8 wP] fun g23 => ?_
 refine GL.v (.bool false) ?_
 refine GL.k k1 ?_
 refine CG.seq fun K_ k1 => ?_
 refine CG.lin 9 ?_
 refine GL.r (.agg #[.int .i64 xA, .int .i64 xB, .int .i64 xC, .int .u8 xP]) (fun _ hM => op_load_agg (off := 0) (by kernel_rfl) agg23 siz23 (hM.b 2 rfl) rfl rfl) ?_
 refine GL.call (fun _ hM => BothZ_ok hM.avlt xA xB xC xP (by first | assumption | omega) (by first | assumption | omega) (by first | assumption | omega) (by first | assumption | omega)) ?_
 rintro _ _ _ hM ⟨A24a, n24a, c24a, m24a, s24b, A24b, n24b, c24b, rfl, h24a, h24b, hb⟩
 have hz24 := bigv_sz xA xB xC xP (by assumption) (by assumption) (by assumption)
 refine ⟨_, _, _, rfl, ((hM.call hb).add h24a).add h24b, ?_⟩
 refine GL.v (.tuple #[.agg #[.slice A24a n24a c24a, .bool m24a], .agg #[.int .i64 s24b, .slice A24b n24b c24b]]) ?_
 refine GL.v (.agg #[.slice A24a n24a c24a, .bool m24a]) ?_
 refine GL.v (.agg #[.int .i64 s24b, .slice A24b n24b c24b]) ?_
 refine GL.aA zer28 fun g25 => ?_
 refine GL.aA zer31 fun g26 => ?_
 refine GL.sA (cs' := #[.slice A24a n24a c24a, .bool m24a]) (fun _ _ => Mem.st1) (fun _ hM => hM.b 1 rfl) siz28 ?_
 refine GL.sA (cs' := #[.int .i64 s24b, .slice A24b n24b c24b]) (fun _ _ => Mem.st0) (fun _ hM => hM.b 0 rfl) siz31 ?_
 refine GL.k k1 ?_
 refine CG.seq fun K_ k1 => ?_
 refine CG.lin 9 ?_
 refine GL.r (.agg #[.int .i64 yA, .int .i64 yB, .int .i64 yC, .int .u8 yP]) (fun _ hM => op_load_agg (off := 0) (by kernel_rfl) agg23 siz23 (hM.b 3 rfl) rfl rfl) ?_
 refine GL.call (fun _ hM => BothZ_ok hM.avlt yA yB yC yP (by first | assumption | omega) (by first | assumption | omega) (by first | assumption | omega) (by first | assumption | omega)) ?_
 rintro _ _ _ hM ⟨A27a, n27a, c27a, m27a, s27b, A27b, n27b, c27b, rfl, h27a, h27b, hb⟩
 have hz27 := bigv_sz yA yB yC yP (by assumption) (by assumption) (by assumption)
 refine ⟨_, _, _, rfl, ((hM.call hb).add h27a).add h27b, ?_⟩
 refine GL.v (.tuple #[.agg #[.slice A27a n27a c27a, .bool m27a], .agg #[.int .i64 s27b, .slice A27b n27b c27b]]) ?_
 refine GL.v (.agg #[.slice A27a n27a c27a, .bool m27a]) ?_
 refine GL.v (.agg #[.int .i64 s27b, .slice A27b n27b c27b]) ?_
 refine GL.aA zer28 fun g28 => ?_
 refine GL.aA zer31 fun g29 => ?_
 refine GL.sA (cs' := #[.slice A27a n27a c27a, .bool m27a]) (fun _ _ => Mem.st1) (fun _ hM => hM.b 1 rfl) siz28 ?_
 refine GL.sA (cs' := #[.int .i64 s27b, .slice A27b n27b c27b]) (fun _ _ => Mem.st0) (fun _ hM => hM.b 0 rfl) siz31 ?_
 refine GL.k k1 ?_
 refine CG.seq fun K_ k1 => ?_
 refine CG.lin 9 ?_
 refine GL.r (.agg #[.int .i64 wA, .int .i64 wB, .int .i64 wC, .int .u8 wP]) (fun _ hM => op_load_agg (off := 0) (by kernel_rfl) agg23 siz23 (hM.b 4 rfl) rfl rfl) ?_
 refine GL.call (fun _ hM => BothZ_ok hM.avlt wA wB wC wP (by first | assumption | omega) (by first | assumption | omega) (by first | assumption | omega) (by first | assumption | omega)) ?_
 rintro _ _ _ hM ⟨A30a, n30a, c30a, m30a, s30b, A30b, n30b, c30b, rfl, h30a, h30b, hb⟩
 have hz30 := bigv_sz wA wB wC wP (by assumption) (by assumption) (by assumption)
 refine ⟨_, _, _, rfl, ((hM.call hb).add h30a).add h30b, ?_⟩
 refine GL.v (.tuple #[.agg #[.slice A30a n30a c30a, .bool m30a], .agg #[.int .i64 s30b, .slice A30b n30b c30b]]) ?_
 refine GL.v (.agg #[.slice A30a n30a c30a, .bool m30a]) ?_
 refine GL.v (.agg #[.int .i64 s30b, .slice A30b n30b c30b]) ?_
 refine GL.aA zer28 fun g31 => ?_
 refine GL.aA zer31 fun g32 => ?_
 refine GL.sA (cs' := #[.slice A30a n30a c30a, .bool m30a]) (fun _ _ => Mem.st1) (fun _ hM => hM.b 1 rfl) siz28 ?_
 refine GL.sA (cs' := #[.int .i64 s30b, .slice A30b n30b c30b]) (fun _ _ => Mem.st0) (fun _ hM => hM.b 0 rfl) siz31 ?_
 refine GL.k k1 ?_
 refine CG.seq fun K_ k1 => ?_
 refine CG.lin 5 ?_
 refine GL.r (.agg #[.slice A24a n24a c24a, .bool m24a]) (fun _ hM => op_load_agg (off := 0) (by kernel_rfl) agg28 siz28 (hM.b 5 rfl) rfl rfl) ?_
 refine GL.r (.agg #[.slice A27a n27a c27a, .bool m27a]) (fun _ hM => op_load_agg (off := 0) (by kernel_rfl) agg28 siz28 (hM.b 3 rfl) rfl rfl) ?_
 refine GL.call (fun _ hM => Gcd_ok hM.avlt (hM.f 5 rfl) (hM.f 3 rfl) (by first | assumption | omega)) ?_
 rintro _ _ _ hM ⟨A33, n33, c33, m33, rfl, h33, hb⟩
 have hs33 := sz_gcd2 (bigv xA xB xC xP) (bigv yA yB yC yP)
 refine ⟨_, _, _, rfl, (hM.call hb).add h33, ?_⟩
 refine GL.aA zer28 fun g34 => ?_
 refine GL.sA (cs' := #[.slice A33 n33 c33, .bool m33]) (fun _ _ => Mem.st0) (fun _ hM => hM.b 0 rfl) siz28 ?_
 refine GL.k k1 ?_
 refine CG.seq fun K_ k1 => ?_
 refine CG.seq fun K_ k2 => ?_
 refine CG.draw [] [0, 2, 3, 4, 5, 6, 9, 11, 13, 14, 15, 16, 17, 19, 21, 22] (.step 0 (.step 1 (.step 2 (.step 3 (.step 4 (.step 5 (.step 6 (.step 9 (.step 11 (.step 7 (.step 8 (.step 10 (.step 12 (.step 13 (.step 14 (.step 15 (.step 16 (.step 17 (.step 19 (.step 18 (.step 20 (.step 21 (.step 22 .done))))))))))))))))))))))) (fun V hV35 => ?_)
 refine GD.er (.agg #[.slice A33 n33 c33, .bool m33]) (fun _ hS => op_load_agg (off := 0) (by kernel_rfl) agg28 siz28 (hV35.bS 0 rfl hS) rfl rfl) ?_
 refine GD.call (fun _ hM => Sign_ok hM.avlt (hM.f 0 rfl)) ?_
 rintro _ _ _ hM ⟨rfl, hb⟩
 refine ⟨_, _, _, rfl, hb, hM.call hb, ?_⟩
 refine GD.ev (.bool false) ?_ (hr := fun u => op_b (b := (decide (((Int.gcd (bigv xA xB xC xP) (bigv yA yB yC yP) : Int).sign) < (0 : Int)))) (by kernel_rfl) (sgn_nlt (by omega)))
 refine GD.ev (.bool false) ?_
 refine GD.er (.agg #[.slice A24a n24a c24a, .bool m24a]) (fun _ hS => op_load_agg (off := 0) (by kernel_rfl) agg28 siz28 (hV35.bS 6 rfl hS) rfl rfl) ?_
 refine GD.er (.agg #[.slice A27a n27a c27a, .bool m27a]) (fun _ hS => op_load_agg (off := 0) (by kernel_rfl) agg28 siz28 (hV35.bS 4 rfl hS) rfl rfl) ?_
 refine GD.er (.agg #[.slice A30a n30a c30a, .bool m30a]) (fun _ hS => op_load_agg (off := 0) (by kernel_rfl) agg28 siz28 (hV35.bS 2 rfl hS) rfl rfl) ?_
 refine GD.er (.agg #[.slice A27a n27a c27a, .bool m27a]) (fun _ hS => op_load_agg (off := 0) (by kernel_rfl) agg28 siz28 (hV35.bS 4 rfl hS) rfl rfl) ?_
 refine GD.er (.agg #[.slice A33 n33 c33, .bool m33]) (fun _ hS => op_load_agg (off := 0) (by kernel_rfl) agg28 siz28 (hV35.bS 0 rfl hS) rfl rfl) ?_
 refine GD.call (fun _ hM => Mul_ok hM.avlt (hM.f 4 rfl) (hM.f 2 rfl) (by first | assumption | omega)) ?_
 rintro _ _ _ hM ⟨A37, n37, c37, m37, rfl, h37, hb⟩
 have hs37 := sz_mul (bigv yA yB yC yP) (bigv wA wB wC wP)
 refine ⟨_, _, _, rfl, hb, (hM.call hb).add h37, ?_⟩
 refine GD.call (fun _ hM => Add_ok hM.avlt (hM.f 7 rfl) (hM.f 0 rfl) (by first | assumption | omega)) ?_
 rintro _ _ _ hM ⟨A38, n38, c38, m38, rfl, h38, hb⟩
 have hs38 := sz_add (bigv xA xB xC xP) (((bigv yA yB yC yP) * (bigv wA wB wC wP)))
 refine ⟨_, _, _, rfl, hb, (hM.call hb).add h38, ?_⟩
 refine GD.call (fun _ hM => Gcd_ok hM.avlt (hM.f 0 rfl) (hM.f 6 rfl) (by first | assumption | omega)) ?_
 rintro _ _ _ hM ⟨A39, n39, c39, m39, rfl, h39, hb⟩
 have hs39 := sz_gcd2 (((bigv xA xB xC xP) + ((bigv yA yB yC yP) * (bigv wA wB wC wP)))) (bigv yA yB yC yP)
 refine ⟨_, _, _, rfl, hb, (hM.call hb).add h39, ?_⟩
 refine GD.call (fun _ hM => Cmp_ok hM.avlt (hM.f 0 rfl) (hM.f 3 rfl) (by first | assumption | omega)) ?_
 rintro _ _ _ hM ⟨rfl, hb⟩
 refine ⟨_, _, _, rfl, hb, hM.call hb, ?_⟩
 refine GD.ev (.bool false) ?_ (hr := fun u => op_b (b := ((((Int.gcd ((bigv xA xB xC xP) + ((bigv yA yB yC yP) * (bigv wA wB wC wP))) (bigv yA yB yC yP) : Int) - (Int.gcd (bigv xA xB xC xP) (bigv yA yB yC yP) : Int)).sign) != (0 : Int))) (by kernel_rfl) (sgn_ne (by first | exact dv_comm _ _ | exact dv_shift _ _ _)))
 refine GD.ev (.bool false) ?_
 refine GD.ev (.bool false) ?_
 refine GD.er (.agg #[.slice A27a n27a c27a, .bool m27a]) (fun _ hS => op_load_agg (off := 0) (by kernel_rfl) agg28 siz28 (hV35.bS 4 rfl hS) rfl rfl) ?_
 refine GD.er (.agg #[.slice A24a n24a c24a, .bool m24a]) (fun _ hS => op_load_agg (off := 0) (by kernel_rfl) agg28 siz28 (hV35.bS 6 rfl hS) rfl rfl) ?_
 refine GD.er (.agg #[.slice A33 n33 c33, .bool m33]) (fun _ hS => op_load_agg (off := 0) (by kernel_rfl) agg28 siz28 (hV35.bS 0 rfl hS) rfl rfl) ?_
 refine GD.call (fun _ hM => Gcd_ok hM.avlt (hM.f 7 rfl) (hM.f 9 rfl) (by first | assumption | omega)) ?_
 rintro _ _ _ hM ⟨A41, n41, c41, m41, rfl, h41, hb⟩
 have hs41 := sz_gcd2 (bigv yA yB yC yP) (bigv xA xB xC xP)
 refine ⟨_, _, _, rfl, hb, (hM.call hb).add h41, ?_⟩
 refine GD.call (fun _ hM => Cmp_ok hM.avlt (hM.f 0 rfl) (hM.f 4 rfl) (by first | assumption | omega)) ?_
 rintro _ _ _ hM ⟨rfl, hb⟩
 refine ⟨_, _, _, rfl, hb, hM.call hb, ?_⟩
 refine GD.ev (.bool false) ?_ (hr := fun u => op_b (b := ((((Int.gcd (bigv yA yB yC yP) (bigv xA xB xC xP) : Int) - (Int.gcd (bigv xA xB xC xP) (bigv yA yB yC yP) : Int)).sign) != (0 : Int))) (by kernel_rfl) (sgn_ne (by first | exact dv_comm _ _ | exact dv_shift _ _ _)))
 refine GD.ev (.bool false) ?_
 refine GD.k k2 ?_
 refine CG.no ?_ rfl rfl
 refine CG.skip ?_
 refine QG.k k1 ?_
 refine CG.seq fun K_ k1 => ?_
 refine CG.seq fun K_ k2 => ?_
 by_cases hc43 : Int.gcd (bigv xA xB xC xP) (bigv yA yB yC yP) = 0
 · have hk43 : (decide (Int.gcd (bigv xA xB xC xP) (bigv yA yB yC yP) = 0)) = true := decide_eq_true hc43
   refine CG.lin 3 ?_
   refine GL.r (.agg #[.slice A33 n33 c33, .bool m33]) (fun _ hM => op_load_agg (off := 0) (by kernel_rfl) agg28 siz28 (hM.b 0 rfl) rfl rfl) ?_
   refine GL.call (fun _ hM => Sign_ok hM.avlt (hM.f 4 rfl)) ?_
   rintro _ _ _ hM ⟨rfl, hb⟩
   refine ⟨_, _, _, rfl, hM.call hb, ?_⟩
   refine GL.v (.bool true) ?_ (hr := fun u => op_b (b := (((Int.gcd (bigv xA xB xC xP) (bigv yA yB yC yP) : Int).sign) == (0 : Int))) (by kernel_rfl) (sgn_eq (by have := of_decide_eq_true hk43; omega)))
   refine GL.k k2 ?_
   refine CG.yes ?_ rfl rfl
   refine CG.seq fun K_ k2 => ?_
   refine CG.lin 12 ?_
   refine GL.r (.agg #[.slice A24a n24a c24a, .bool m24a]) (fun _ hM => op_load_agg (off := 0) (by kernel_rfl) agg28 siz28 (hM.b 6 rfl) rfl rfl) ?_
   refine GL.call (fun _ hM => Sign_ok hM.avlt (hM.f 10 rfl)) ?_
   rintro _ _ _ hM ⟨rfl, hb⟩
   refine ⟨_, _, _, rfl, hM.call hb, ?_⟩
   refine GL.v (.bool true) ?_ (hr := fun u => op_b (b := (((bigv xA xB xC xP).sign) == (0 : Int))) (by kernel_rfl) (sgn_eq (dv_zero (of_decide_eq_true hk43)).1))
   refine GL.v (.bool true) ?_
   refine GL.r (.agg #[.slice A27a n27a c27a, .bool m27a]) (fun _ hM => op_load_agg (off := 0) (by kernel_rfl) agg28 siz28 (hM.b 4 rfl) rfl rfl) ?_
   refine GL.call (fun _ hM => Sign_ok hM.avlt (hM.f 8 rfl)) ?_
   rintro _ _ _ hM ⟨rfl, hb⟩
   refine ⟨_, _, _, rfl, hM.call hb, ?_⟩
   refine GL.v (.bool true) ?_ (hr := fun u => op_b (b := (((bigv yA yB yC yP).sign) == (0 : Int))) (by kernel_rfl) (sgn_eq (dv_zero (of_decide_eq_true hk43)).2))
   refine GL.v (.bool true) ?_
   refine GL.v (.bool true) ?_
   refine GL.call (fun _ hM => awake_ok hM.avlt) ?_
   rintro _ _ _ hM ⟨rfl, hb⟩
   refine ⟨_, _, _, rfl, hM.call hb, ?_⟩
   refine GL.v (.bool true) ?_
   refine GL.v (.bool true) ?_
   refine GL.k k2 ?_
   refine CG.ret (QG.then_ret (QG.ret (fun _ hM => results_one rfl (res_tmp rfl)) ?_))
   intro _ hM
   exact ⟨rfl, hM.below⟩
 · have hk43 : (decide (Int.gcd (bigv xA xB xC xP) (bigv yA yB yC yP) = 0)) = false := decide_eq_false hc43
   refine CG.lin 3 ?_
   refine GL.r (.agg #[.slice A33 n33 c33, .bool m33]) (fun _ hM => op_load_agg (off := 0) (by kernel_rfl) agg28 siz28 (hM.b 0 rfl) rfl rfl) ?_
   refine GL.call (fun _ hM => Sign_ok hM.avlt (hM.f 4 rfl)) ?_
   rintro _ _ _ hM ⟨rfl, hb⟩
   refine ⟨_, _, _, rfl, hM.call hb, ?_⟩
   refine GL.v (.bool false) ?_ (hr := fun u => op_b (b := (((Int.gcd (bigv xA xB xC xP) (bigv yA yB yC yP) : Int).sign) == (0 : Int))) (by kernel_rfl) (sgn_neq (by have := of_decide_eq_false hk43; omega)))
   refine GL.k k2 ?_
   refine CG.no ?_ rfl rfl
   refine CG.skip ?_
   refine QG.k k1 ?_
   refine CG.seq fun K_ k1 => ?_
   refine CG.lin 12 ?_
   refine GL.r (.agg #[.slice A24a n24a c24a, .bool m24a]) (fun _ hM => op_load_agg (off := 0) (by kernel_rfl) agg28 siz28 (hM.b 6 rfl) rfl rfl) ?_
   refine GL.r (.agg #[.slice A33 n33 c33, .bool m33]) (fun _ hM => op_load_agg (off := 0) (by kernel_rfl) agg28 siz28 (hM.b 0 rfl) rfl rfl) ?_
   refine GL.call (fun _ hM => Quotient_ok hM.avlt (hM.f 10 rfl) (hM.f 4 rfl) (by first | assumption | (have := hc43; omega)) (by first | assumption | omega)) ?_
   rintro _ _ _ hM ⟨A49a, n49a, c49a, m49a, A49b, n49b, c49b, m49b, rfl, h49a, h49b, hb⟩
   have hs49 := sz_quo (bigv xA xB xC xP) ((Int.gcd (bigv xA xB xC xP) (bigv yA yB yC yP) : Int))
   have ht49 := sz_rem2 (bigv xA xB xC xP) ((Int.gcd (bigv xA xB xC xP) (bigv yA yB yC yP) : Int))
   refine ⟨_, _, _, rfl, ((hM.call hb).add h49a).add h49b, ?_⟩
   refine GL.v (.tuple #[.agg #[.slice A49a n49a c49a, .bool m49a], .agg #[.slice A49b n49b c49b, .bool m49b], .int .i64 0]) ?_
   refine GL.v (.agg #[.slice A49a n49a c49a, .bool m49a]) ?_
   refine GL.v (.agg #[.slice A49b n49b c49b, .bool m49b]) ?_
   refine GL.v (.int .i64 0) ?_
   refine GL.aA zer28 fun g50 => ?_
   refine GL.aA zer28 fun g51 => ?_
   refine GL.sA (cs' := #[.slice A49a n49a c49a, .bool m49a]) (fun _ _ => Mem.st1) (fun _ hM => hM.b 1 rfl) siz28 ?_
   refine GL.sA (cs' := #[.slice A49b n49b c49b, .bool m49b]) (fun _ _ => Mem.st0) (fun _ hM => hM.b 0 rfl) siz28 ?_
   refine GL.v (.int .i64 0) ?_
   refine GL.k k1 ?_
   refine CG.seq fun K_ k1 => ?_
   refine CG.lin 12 ?_
   refine GL.r (.agg #[.slice A27a n27a c27a, .bool m27a]) (fun _ hM => op_load_agg (off := 0) (by kernel_rfl) agg28 siz28 (hM.b 6 rfl) rfl rfl) ?_
   refine GL.r (.agg #[.slice A33 n33 c33, .bool m33]) (fun _ hM => op_load_agg (off := 0) (by kernel_rfl) agg28 siz28 (hM.b 2 rfl) rfl rfl) ?_
   refine GL.call (fun _ hM => Quotient_ok hM.avlt (hM.f 10 rfl) (hM.f 6 rfl) (by first | assumption | (have := hc43; omega)) (by first | assumption | omega)) ?_
   rintro _ _ _ hM ⟨A52a, n52a, c52a, m52a, A52b, n52b, c52b, m52b, rfl, h52a, h52b, hb⟩
   have hs52 := sz_quo (bigv yA yB yC yP) ((Int.gcd (bigv xA xB xC xP) (bigv yA yB yC yP) : Int))
   have ht52 := sz_rem2 (bigv yA yB yC yP) ((Int.gcd (bigv xA xB xC xP) (bigv yA yB yC yP) : Int))
   refine ⟨_, _, _, rfl, ((hM.call hb).add h52a).add h52b, ?_⟩
   refine GL.v (.tuple #[.agg #[.slice A52a n52a c52a, .bool m52a], .agg #[.slice A52b n52b c52b, .bool m52b], .int .i64 0]) ?_
   refine GL.v (.agg #[.slice A52a n52a c52a, .bool m52a]) ?_
   refine GL.v (.agg #[.slice A52b n52b c52b, .bool m52b]) ?_
   refine GL.v (.int .i64 0) ?_
   refine GL.aA zer28 fun g53 => ?_
   refine GL.aA zer28 fun g54 => ?_
   refine GL.sA (cs' := #[.slice A52a n52a c52a, .bool m52a]) (fun _ _ => Mem.st1) (fun _ hM => hM.b 1 rfl) siz28 ?_
   refine GL.sA (cs' := #[.slice A52b n52b c52b, .bool m52b]) (fun _ _ => Mem.st0) (fun _ hM => hM.b 0 rfl) siz28 ?_
   refine GL.v (.int .i64 0) ?_
   refine GL.k k1 ?_
   refine CG.seq fun K_ k1 => ?_
   refine CG.seq fun K_ k2 => ?_
   refine CG.lin 16 ?_
   refine GL.v (.int .i64 0) ?_
   refine GL.v (.bool false) ?_
   refine GL.v (.bool false) ?_
   refine GL.v (.int .i64 0) ?_
   refine GL.v (.bool false) ?_
   refine GL.v (.bool false) ?_
   refine GL.v (.bool false) ?_
   refine GL.r (.agg #[.slice A49b n49b c49b, .bool m49b]) (fun _ hM => op_load_agg (off := 0) (by kernel_rfl) agg28 siz28 (hM.b 2 rfl) rfl rfl) ?_
   refine GL.call (fun _ hM => Sign_ok hM.avlt (hM.f 2 rfl)) ?_
   rintro _ _ _ hM ⟨rfl, hb⟩
   refine ⟨_, _, _, rfl, hM.call hb, ?_⟩
   refine GL.v (.bool false) ?_ (hr := fun u => op_b (b := ((((bigv xA xB xC xP) % (Int.gcd (bigv xA xB xC xP) (bigv yA yB yC yP) : Int)).sign) != (0 : Int))) (by kernel_rfl) (sgn_ne (by first | exact Int.emod_eq_zero_of_dvd (Int.gcd_dvd_left _ _) | exact Int.emod_eq_zero_of_dvd (Int.gcd_dvd_right _ _))))
   refine GL.v (.bool false) ?_
   refine GL.v (.bool false) ?_
   refine GL.r (.agg #[.slice A52b n52b c52b, .bool m52b]) (fun _ hM => op_load_agg (off := 0) (by kernel_rfl) agg28 siz28 (hM.b 0 rfl) rfl rfl) ?_
   refine GL.call (fun _ hM => Sign_ok hM.avlt (hM.f 0 rfl)) ?_
   rintro _ _ _ hM ⟨rfl, hb⟩
   refine ⟨_, _, _, rfl, hM.call hb, ?_⟩
   refine GL.v (.bool false) ?_ (hr := fun u => op_b (b := ((((bigv yA yB yC yP) % (Int.gcd (bigv xA xB xC xP) (bigv yA yB yC yP) : Int)).sign) != (0 : Int))) (by kernel_rfl) (sgn_ne (by first | exact Int.emod_eq_zero_of_dvd (Int.gcd_dvd_left _ _) | exact Int.emod_eq_zero_of_dvd (Int.gcd_dvd_right _ _))))
   refine GL.v (.bool false) ?_
   refine GL.k k2 ?_
   refine CG.no ?_ rfl rfl
   refine CG.skip ?_
   refine QG.k k1 ?_
   refine CG.seq fun K_ k1 => ?_
   refine CG.seq fun K_ k2 => ?_
   by_cases hc57 : bigv yA yB yC yP = 0
   · have hk57 : (decide (bigv yA yB yC yP = 0)) = true := decide_eq_true hc57
     refine CG.lin 3 ?_
     refine GL.r (.agg #[.slice A27a n27a c27a, .bool m27a]) (fun _ hM => op_load_agg (off := 0) (by kernel_rfl) agg28 siz28 (hM.b 8 rfl) rfl rfl) ?_
     refine GL.call (fun _ hM => Sign_ok hM.avlt (hM.f 12 rfl)) ?_
     rintro _ _ _ hM ⟨rfl, hb⟩
     refine ⟨_, _, _, rfl, hM.call hb, ?_⟩
     refine GL.v (.bool true) ?_ (hr := fun u => op_b (b := (((bigv yA yB yC yP).sign) == (0 : Int))) (by kernel_rfl) (sgn_eq (of_decide_eq_true hk57)))
     refine GL.k k2 ?_
     refine CG.yes ?_ rfl rfl
     refine CG.seq fun K_ k2 => ?_
     refine CG.lin 2 ?_
     refine GL.call (fun _ hM => awake_ok hM.avlt) ?_
     rintro _ _ _ hM ⟨rfl, hb⟩
     refine ⟨_, _, _, rfl, hM.call hb, ?_⟩
     refine GL.v (.bool true) ?_
     refine GL.k k2 ?_
     refine CG.ret (QG.then_ret (QG.ret (fun _ hM => results_one rfl (res_tmp rfl)) ?_))
     intro _ hM
     exact ⟨rfl, hM.below⟩
   · have hk57 : (decide (bigv yA yB yC yP = 0)) = false := decide_eq_false hc57
     refine CG.lin 3 ?_
     refine GL.r (.agg #[.slice A27a n27a c27a, .bool m27a]) (fun _ hM => op_load_agg (off := 0) (by kernel_rfl) agg28 siz28 (hM.b 8 rfl) rfl rfl) ?_
     refine GL.call (fun _ hM => Sign_ok hM.avlt (hM.f 12 rfl)) ?_
     rintro _ _ _ hM ⟨rfl, hb⟩
     refine ⟨_, _, _, rfl, hM.call hb, ?_⟩
     refine GL.v (.bool false) ?_ (hr := fun u => op_b (b := (((bigv yA yB yC yP).sign) == (0 : Int))) (by kernel_rfl) (sgn_neq (of_decide_eq_false hk57)))
     refine GL.k k2 ?_
     refine CG.no ?_ rfl rfl
     refine CG.skip ?_
     refine QG.k k1 ?_
     refine CG.seq fun K_ k1 => ?_
     refine CG.lin 12 ?_
     refine GL.r (.agg #[.slice A24a n24a c24a, .bool m24a]) (fun _ hM => op_load_agg (off := 0) (by kernel_rfl) agg28 siz28 (hM.b 10 rfl) rfl rfl) ?_
     refine GL.r (.agg #[.slice A27a n27a c27a, .bool m27a]) (fun _ hM => op_load_agg (off := 0) (by kernel_rfl) agg28 siz28 (hM.b 8 rfl) rfl rfl) ?_
     refine GL.call (fun _ hM => Quotient_ok hM.avlt (hM.f 14 rfl) (hM.f 12 rfl) (by first | assumption | (have := hc43; omega)) (by first | assumption | omega)) ?_
     rintro _ _ _ hM ⟨A61a, n61a, c61a, m61a, A61b, n61b, c61b, m61b, rfl, h61a, h61b, hb⟩
     have hs61 := sz_quo (bigv xA xB xC xP) (bigv yA yB yC yP)
     have ht61 := sz_rem2 (bigv xA xB xC xP) (bigv yA yB yC yP)
     refine ⟨_, _, _, rfl, ((hM.call hb).add h61a).add h61b, ?_⟩
     refine GL.v (.tuple #[.agg #[.slice A61a n61a c61a, .bool m61a], .agg #[.slice A61b n61b c61b, .bool m61b], .int .i64 0]) ?_
     refine GL.v (.agg #[.slice A61a n61a c61a, .bool m61a]) ?_
     refine GL.v (.agg #[.slice A61b n61b c61b, .bool m61b]) ?_
     refine GL.v (.int .i64 0) ?_
     refine GL.aA zer28 fun g62 => ?_
     refine GL.aA zer28 fun g63 => ?_
     refine GL.sA (cs' := #[.slice A61a n61a c61a, .bool m61a]) (fun _ _ => Mem.st1) (fun _ hM => hM.b 1 rfl) siz28 ?_
     refine GL.sA (cs' := #[.slice A61b n61b c61b, .bool m61b]) (fun _ _ => Mem.st0) (fun _ hM => hM.b 0 rfl) siz28 ?_
     refine GL.v (.int .i64 0) ?_
     refine GL.k k1 ?_
     refine CG.seq fun K_ k1 => ?_
     refine CG.draw [] [0, 1, 2, 3, 4, 6, 8, 10, 11, 12, 13, 15, 16, 17, 18, 19, 22, 23, 24, 26] (.step 0 (.step 1 (.step 2 (.step 3 (.step 4 (.step 6 (.step 8 (.step 5 (.step 7 (.step 9 (.step 10 (.step 11 (.step 12 (.step 13 (.step 14 (.step 15 (.step 16 (.step 17 (.step 18 (.step 19 (.step 20 (.step 21 (.step 22 (.step 23 (.step 24 (.step 25 (.step 26 (.step 27 .done)))))))))))))))))))))))))))) (fun V hV64 => ?_)
     refine GD.ev (.int .i64 0) ?_
     refine GD.ev (.bool true) ?_
     refine GD.ev (.bool true) ?_
     refine GD.er (.agg #[.slice A61a n61a c61a, .bool m61a]) (fun _ hS => op_load_agg (off := 0) (by kernel_rfl) agg28 siz28 (hV64.bS 1 rfl hS) rfl rfl) ?_
     refine GD.er (.agg #[.slice A27a n27a c27a, .bool m27a]) (fun _ hS => op_load_agg (off := 0) (by kernel_rfl) agg28 siz28 (hV64.bS 10 rfl hS) rfl rfl) ?_
     refine GD.er (.agg #[.slice A61b n61b c61b, .bool m61b]) (fun _ hS => op_load_agg (off := 0) (by kernel_rfl) agg28 siz28 (hV64.bS 0 rfl hS) rfl rfl) ?_
     refine GD.er (.agg #[.slice A24a n24a c24a, .bool m24a]) (fun _ hS => op_load_agg (off := 0) (by kernel_rfl) agg28 siz28 (hV64.bS 12 rfl hS) rfl rfl) ?_
     refine GD.call (fun _ hM => Mul_ok hM.avlt (hM.f 1 rfl) (hM.f 14 rfl) (by first | assumption | omega)) ?_
     rintro _ _ _ hM ⟨A65, n65, c65, m65, rfl, h65, hb⟩
     have hs65 := sz_mul (((bigv xA xB xC xP) / (bigv yA yB yC yP))) (bigv yA yB yC yP)
     refine ⟨_, _, _, rfl, hb, (hM.call hb).add h65, ?_⟩
     refine GD.call (fun _ hM => Add_ok hM.avlt (hM.f 0 rfl) (hM.f 1 rfl) (by first | assumption | omega)) ?_
     rintro _ _ _ hM ⟨A66, n66, c66, m66, rfl, h66, hb⟩
     have hs66 := sz_add ((((bigv xA xB xC xP) / (bigv yA yB yC yP)) * (bigv yA yB yC yP))) (((bigv xA xB xC xP) % (bigv yA yB yC yP)))
     refine ⟨_, _, _, rfl, hb, (hM.call hb).add h66, ?_⟩
     refine GD.call (fun _ hM => Cmp_ok hM.avlt (hM.f 0 rfl) (hM.f 18 rfl) (by first | assumption | omega)) ?_
     rintro _ _ _ hM ⟨rfl, hb⟩
     refine ⟨_, _, _, rfl, hb, hM.call hb, ?_⟩
     refine GD.ev (.bool true) ?_ (hr := fun u => op_b (b := (((((((bigv xA xB xC xP) / (bigv yA yB yC yP)) * (bigv yA yB yC yP)) + ((bigv xA xB xC xP) % (bigv yA yB yC yP))) - (bigv xA xB xC xP)).sign) == (0 : Int))) (by kernel_rfl) (sgn_eq (dv_back _ _)))
     refine GD.ev (.bool true) ?_
     refine GD.ev (.bool true) ?_
     refine GD.er (.agg #[.slice A61b n61b c61b, .bool m61b]) (fun _ hS => op_load_agg (off := 0) (by kernel_rfl) agg28 siz28 (hV64.bS 0 rfl hS) rfl rfl) ?_
     refine GD.call (fun _ hM => Sign_ok hM.avlt (hM.f 2 rfl)) ?_
     rintro _ _ _ hM ⟨rfl, hb⟩
     refine ⟨_, _, _, rfl, hb, hM.call hb, ?_⟩
     refine GD.ev (.bool true) ?_ (hr := fun u => op_b (b := (decide ((((bigv xA xB xC xP) % (bigv yA yB yC yP)).sign) ≥ (0 : Int)))) (by kernel_rfl) (sgn_ge (Int.emod_nonneg _ (by assumption))))
     refine GD.ev (.bool true) ?_
     refine GD.ev (.bool true) ?_
     refine GD.er (.agg #[.slice A61b n61b c61b, .bool m61b]) (fun _ hS => op_load_agg (off := 0) (by kernel_rfl) agg28 siz28 (hV64.bS 0 rfl hS) rfl rfl) ?_
     refine GD.er (.agg #[.slice A27a n27a c27a, .bool m27a]) (fun _ hS => op_load_agg (off := 0) (by kernel_rfl) agg28 siz28 (hV64.bS 10 rfl hS) rfl rfl) ?_
     refine GD.call (fun _ hM => Abs_ok hM.avlt (hM.f 16 rfl)) ?_
     rintro _ _ _ hM ⟨A69, n69, c69, m69, rfl, h69, hb⟩
     have hs69 := sz_abs (bigv yA yB yC yP)
     refine ⟨_, _, _, rfl, hb, (hM.call hb).add h69, ?_⟩
     refine GD.call (fun _ hM => Cmp_ok hM.avlt (hM.f 3 rfl) (hM.f 0 rfl) (by first | assumption | omega)) ?_
     rintro _ _ _ hM ⟨rfl, hb⟩
     refine ⟨_, _, _, rfl, hb, hM.call hb, ?_⟩
     refine GD.ev (.bool true) ?_ (hr := fun u => op_b (b := (decide (((((bigv xA xB xC xP) % (bigv yA yB yC yP)) - ((bigv yA yB yC yP).natAbs : Int)).sign) < (0 : Int)))) (by kernel_rfl) (sgn_lt (dv_small (by assumption))))
     refine GD.ev (.bool true) ?_
     refine GD.ev (.bool true) ?_
     refine GD.call (fun _ hM => awake_ok hM.avlt) ?_
     rintro _ _ _ hM ⟨rfl, hb⟩
     refine ⟨_, _, _, rfl, hb, hM.call hb, ?_⟩
     refine GD.ev (.bool true) ?_
     refine GD.v (.bool true) ?_
     refine GD.k k1 ?_
     refine CG.ret (QG.ret (fun _ hM => results_one rfl (res_tmp rfl)) ?_)
     intro _ hM
     exact ⟨rfl, hM.below⟩

end Go.Proofs.YtklnjhlidfclmaaDoor
