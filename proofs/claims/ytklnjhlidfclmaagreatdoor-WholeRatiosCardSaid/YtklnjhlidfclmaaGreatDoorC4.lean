/- Contracts of the program's functions. -/
import Derived.Test.YtklnjhlidfclmaaGreatDoorC3
set_option linter.unusedVariables false
set_option linter.unusedSimpArgs false
namespace Go.Proofs.YtklnjhlidfclmaaGreatDoor
open Go.RowKit Cps
attribute [local go_sem] Oper.semAt_some

set_option maxRecDepth 100000 in
set_option maxHeartbeats 400000 in
theorem Same_ok {w : World} {X : Nat → Prop} {A1 : Option Addr} {n1 : Nat} {c1 : Nat} {m1 : Bool} {A1_ : Option Addr} {n1_ : Nat} {c1_ : Nat} {a : Rat} {s2 : Int} {A2 : Option Addr} {n2 : Nat} {c2 : Nat} {s2_ : Int} {A2_ : Option Addr} {n2_ : Nat} {c2_ : Nat} {b : Rat} (hX : ∀ k, X k → k < w.heap.size) (h1 : Rk.R X w [.slice A1 n1 c1, .bool m1, .slice A1_ n1_ c1_] a) (h2 : NRk.R X w [.int .i64 s2, .slice A2 n2 c2, .int .i64 s2_, .slice A2_ n2_ c2_] b) (p1 : szR a ≤ 68719476736) (p2 : szgR b ≤ 268435456) :
    Calls Tryz.prog 27 #[.agg #[.slice A1 n1 c1, .bool m1, .slice A1_ n1_ c1_], .agg #[.int .i64 s2, .slice A2 n2 c2, .int .i64 s2_, .slice A2_ n2_ c2_]] w (fun e w' => e = .returned (.bool (decide (a = b))) ∧ Below w.heap.size w w') := by
 have hM := ((Mem.start hX).add0 h1).add0 h2
 refine calls_of hM Tryz.func27 Tryz.ntmps27 ?_
 refine CG.seq fun K_ k1 => ?_
 refine CG.lin 3 ?_
 refine GL.bA #[.slice A1 n1 c1, .bool m1, .slice A1_ n1_ c1_] fun g21 => ?_
 refine GL.bA #[.int .i64 s2, .slice A2 n2 c2, .int .i64 s2_, .slice A2_ n2_ c2_] fun g22 => ?_
 refine GL.v (.bool false) ?_
 refine GL.k k1 ?_
 refine CG.seq fun K_ k1 => ?_
 refine CG.draw [] [0, 2, 4] (.step 0 (.step 2 (.step 1 (.step 3 (.step 4 (.step 5 .done)))))) (fun V hV23 => ?_)
 refine GD.er (.agg #[.slice A1 n1 c1, .bool m1, .slice A1_ n1_ c1_]) (fun _ hS => op_load_agg (off := 0) (by kernel_rfl) agg48 siz48 (hV23.bS 1 rfl hS) rfl rfl) ?_
 refine GD.er (.agg #[.int .i64 s2, .slice A2 n2 c2, .int .i64 s2_, .slice A2_ n2_ c2_]) (fun _ hS => op_load_agg (off := 0) (by kernel_rfl) agg54 siz54 (hV23.bS 0 rfl hS) rfl rfl) ?_
 refine GD.call (fun _ hM => RText_ok hM.avlt (hM.f 1 rfl) (by first | assumption | omega)) ?_
 rintro _ _ _ hM ⟨rfl, hb⟩
 have hl24 := decR_len a
 refine ⟨_, _, _, rfl, hb, hM.call hb, ?_⟩
 refine GD.call (fun _ hM => NText_ok hM.avlt (hM.f 0 rfl) (by first | assumption | omega)) ?_
 rintro _ _ _ hM ⟨rfl, hb⟩
 have hl25 := decR_lenN b
 refine ⟨_, _, _, rfl, hb, hM.call hb, ?_⟩
 refine GD.ev (.bool (decide ((decR a) = (decR b)))) ?_ (hr := fun u => op_seq (L := decR a) (K := decR b) (by kernel_rfl) (by kernel_rfl))
 refine GD.v (.bool (decide ((decR a) = (decR b)))) ?_
 refine GD.k k1 ?_
 refine CG.ret (QG.ret (fun _ hM => results_one rfl (res_tmp rfl)) ?_)
 intro _ hM
 exact ⟨ret_bool (decR_inj a b), hM.below⟩

set_option maxRecDepth 100000 in
set_option maxHeartbeats 400000 in
theorem r_ok {w : World} {X : Nat → Prop} (hX : ∀ k, X k → k < w.heap.size) (s : List UInt8) (p1 : s.length ≤ 4611686018427387904) :
    Calls Tryz.prog 106 #[.string (bs s)] w (fun e w' => ∃ Ar nr cr mr Ar_ nr_ cr_, e = .returned (.agg #[.slice Ar nr cr, .bool mr, .slice Ar_ nr_ cr_]) ∧ Rk.R X w' [.slice Ar nr cr, .bool mr, .slice Ar_ nr_ cr_] ((parseR s).1) ∧ Below w.heap.size w w') := by
 have hM := Mem.start hX
 refine calls_of hM Tryz.func106 Tryz.ntmps106 ?_
 refine CG.seq fun K_ k1 => ?_
 refine CG.lin 1 ?_
 refine GL.aA zer48 fun g21 => ?_
 refine GL.k k1 ?_
 refine CG.seq fun K_ k1 => ?_
 refine CG.lin 8 ?_
 refine GL.v (.string (bs s)) ?_
 refine GL.call (fun _ hM => Parse_ok hM.avlt s (by first | assumption | omega)) ?_
 rintro _ _ _ hM ⟨A22a, n22a, c22a, m22a, A22a_, n22a_, c22a_, rfl, h22a, hb⟩
 refine ⟨_, _, _, rfl, (hM.call hb).add h22a, ?_⟩
 refine GL.v (.tuple #[.agg #[.slice A22a n22a c22a, .bool m22a, .slice A22a_ n22a_ c22a_], .int .i64 ((parseR s).2)]) ?_
 refine GL.v (.agg #[.slice A22a n22a c22a, .bool m22a, .slice A22a_ n22a_ c22a_]) ?_
 refine GL.v (.int .i64 ((parseR s).2)) ?_
 refine GL.aA zer48 fun g23 => ?_
 refine GL.sA (cs' := #[.slice A22a n22a c22a, .bool m22a, .slice A22a_ n22a_ c22a_]) (fun _ _ => Mem.st0) (fun _ hM => hM.b 0 rfl) siz48 ?_
 refine GL.v (.int .i64 ((parseR s).2)) ?_
 refine GL.k k1 ?_
 refine CG.seq fun K_ k1 => ?_
 refine CG.lin 2 ?_
 refine GL.r (.agg #[.slice A22a n22a c22a, .bool m22a, .slice A22a_ n22a_ c22a_]) (fun _ hM => op_load_agg (off := 0) (by kernel_rfl) agg48 siz48 (hM.b 0 rfl) rfl rfl) ?_
 refine GL.sA (cs' := #[.slice A22a n22a c22a, .bool m22a, .slice A22a_ n22a_ c22a_]) (fun _ _ => Mem.st1) (fun _ hM => hM.b 1 rfl) siz48 ?_
 refine GL.k k1 ?_
 refine CG.ret (QG.ret (fun _ hM => results_one rfl (res_cell rfl (loadVar_agg agg48 siz48 (hM.b 1 rfl) rfl rfl))) ?_)
 intro _ hM
 exact ⟨_, _, _, _, _, _, _, rfl, (hM.out (hM.f 0 rfl)), hM.below⟩

set_option maxRecDepth 100000 in
set_option maxHeartbeats 400000 in
theorem awake_ok {w : World} {X : Nat → Prop} (hX : ∀ k, X k → k < w.heap.size) :
    Calls Tryz.prog 19 #[] w (fun e w' => e = .returned (.bool true) ∧ Below w.heap.size w w') := by
 have hM := Mem.start hX
 obtain ⟨hz1, hz2⟩ := aw_szs
 refine calls_of hM Tryz.func19 Tryz.ntmps19 ?_
 refine CG.seq fun K_ k1 => ?_
 refine CG.lin 1 ?_
 refine GL.v (.bool false) ?_
 refine GL.k k1 ?_
 refine CG.seq fun K_ k1 => ?_
 refine CG.lin 12 ?_
 refine GL.call (fun _ hM => Int_ok hM.avlt (-7) (by first | assumption | omega)) ?_
 rintro _ _ _ hM ⟨A21, n21, c21, m21, rfl, h21, hb⟩
 have hs21 := sz_i64 (-7) (by omega)
 refine ⟨_, _, _, rfl, (hM.call hb).add h21, ?_⟩
 refine GL.call (fun _ hM => Int_ok hM.avlt (2) (by first | assumption | omega)) ?_
 rintro _ _ _ hM ⟨A22, n22, c22, m22, rfl, h22, hb⟩
 have hs22 := sz_i64 (2) (by omega)
 refine ⟨_, _, _, rfl, (hM.call hb).add h22, ?_⟩
 refine GL.call (fun _ hM => Quotient_ok hM.avlt (hM.f 1 rfl) (hM.f 0 rfl) (by first | assumption | omega) (by first | assumption | omega)) ?_
 rintro _ _ _ hM ⟨A23a, n23a, c23a, m23a, A23b, n23b, c23b, m23b, rfl, h23a, h23b, hb⟩
 have hs23 := sz_quo (-7) (2)
 have ht23 := sz_rem2 (-7) (2)
 refine ⟨_, _, _, rfl, ((hM.call hb).add h23a).add h23b, ?_⟩
 refine GL.v (.tuple #[.agg #[.slice A23a n23a c23a, .bool m23a], .agg #[.slice A23b n23b c23b, .bool m23b], .int .i64 0]) ?_
 refine GL.v (.agg #[.slice A23a n23a c23a, .bool m23a]) ?_
 refine GL.v (.agg #[.slice A23b n23b c23b, .bool m23b]) ?_
 refine GL.v (.int .i64 0) ?_
 refine GL.aA zer28 fun g24 => ?_
 refine GL.aA zer28 fun g25 => ?_
 refine GL.sA (cs' := #[.slice A23a n23a c23a, .bool m23a]) (fun _ _ => Mem.st1) (fun _ hM => hM.b 1 rfl) siz28 ?_
 refine GL.sA (cs' := #[.slice A23b n23b c23b, .bool m23b]) (fun _ _ => Mem.st0) (fun _ hM => hM.b 0 rfl) siz28 ?_
 refine GL.v (.int .i64 0) ?_
 refine GL.k k1 ?_
 refine CG.seq fun K_ k1 => ?_
 refine CG.lin 7 ?_
 refine GL.call (fun _ hM => Parse_ok hM.avlt [54, 47, 52] (by simp)) ?_
 rintro _ _ _ hM ⟨A26a, n26a, c26a, m26a, A26a_, n26a_, c26a_, rfl, h26a, hb⟩
 refine ⟨_, _, _, rfl, (hM.call hb).add h26a, ?_⟩
 refine GL.v (.tuple #[.agg #[.slice A26a n26a c26a, .bool m26a, .slice A26a_ n26a_ c26a_], .int .i64 ((parseR [54, 47, 52]).2)]) ?_
 refine GL.v (.agg #[.slice A26a n26a c26a, .bool m26a, .slice A26a_ n26a_ c26a_]) ?_
 refine GL.v (.int .i64 ((parseR [54, 47, 52]).2)) ?_
 refine GL.aA zer48 fun g27 => ?_
 refine GL.sA (cs' := #[.slice A26a n26a c26a, .bool m26a, .slice A26a_ n26a_ c26a_]) (fun _ _ => Mem.st0) (fun _ hM => hM.b 0 rfl) siz48 ?_
 refine GL.v (.int .i64 ((parseR [54, 47, 52]).2)) ?_
 refine GL.k k1 ?_
 refine CG.seq fun K_ k1 => ?_
 refine CG.lin 38 ?_
 refine GL.v (.int .i64 0) ?_
 refine GL.v (.bool true) ?_
 refine GL.v (.bool true) ?_
 refine GL.v (.int .i64 ((parseR [54, 47, 52]).2)) ?_
 refine GL.v (.bool true) ?_ (hr := fun u => op_b (b := (((parseR [54, 47, 52]).2) == (0 : Int))) (by kernel_rfl) (beq_iff_eq.2 aw3e))
 refine GL.v (.bool true) ?_
 refine GL.v (.bool true) ?_
 refine GL.r (.agg #[.slice A23a n23a c23a, .bool m23a]) (fun _ hM => op_load_agg (off := 0) (by kernel_rfl) agg28 siz28 (hM.b 2 rfl) rfl rfl) ?_
 refine GL.call (fun _ hM => ZText_ok hM.avlt (hM.f 2 rfl) (by first | assumption | omega)) ?_
 rintro _ _ _ hM ⟨rfl, hb⟩
 have hl28 := decZ_len (((-7) / 2))
 refine ⟨_, _, _, rfl, hM.call hb, ?_⟩
 refine GL.v (.bool true) ?_ (hr := fun u => op_b (b := (decide ((decZ ((-7) / 2)) = [45, 52]))) ((fun u => op_seq (L := decZ ((-7) / 2)) (K := [45, 52]) (by kernel_rfl) (by kernel_rfl)) u) (decide_eq_true (by first | exact aw1 | exact aw2 | exact aw3 | exact aw4 | exact aw5)))
 refine GL.v (.bool true) ?_
 refine GL.v (.bool true) ?_
 refine GL.r (.agg #[.slice A23b n23b c23b, .bool m23b]) (fun _ hM => op_load_agg (off := 0) (by kernel_rfl) agg28 siz28 (hM.b 1 rfl) rfl rfl) ?_
 refine GL.call (fun _ hM => ZText_ok hM.avlt (hM.f 1 rfl) (by first | assumption | omega)) ?_
 rintro _ _ _ hM ⟨rfl, hb⟩
 have hl29 := decZ_len (((-7) % 2))
 refine ⟨_, _, _, rfl, hM.call hb, ?_⟩
 refine GL.v (.bool true) ?_ (hr := fun u => op_b (b := (decide ((decZ ((-7) % 2)) = [49]))) ((fun u => op_seq (L := decZ ((-7) % 2)) (K := [49]) (by kernel_rfl) (by kernel_rfl)) u) (decide_eq_true (by first | exact aw1 | exact aw2 | exact aw3 | exact aw4 | exact aw5)))
 refine GL.v (.bool true) ?_
 refine GL.v (.bool true) ?_
 refine GL.r (.agg #[.slice A26a n26a c26a, .bool m26a, .slice A26a_ n26a_ c26a_]) (fun _ hM => op_load_agg (off := 0) (by kernel_rfl) agg48 siz48 (hM.b 0 rfl) rfl rfl) ?_
 refine GL.call (fun _ hM => RText_ok hM.avlt (hM.f 0 rfl) (by first | assumption | omega | (dsimp only; omega))) ?_
 rintro _ _ _ hM ⟨rfl, hb⟩
 have hl30 := decR_len (((parseR [54, 47, 52]).1))
 refine ⟨_, _, _, rfl, hM.call hb, ?_⟩
 refine GL.v (.bool true) ?_ (hr := fun u => op_b (b := (decide ((decR ((parseR [54, 47, 52]).1)) = [51, 47, 50]))) ((fun u => op_seq (L := decR ((parseR [54, 47, 52]).1)) (K := [51, 47, 50]) (by kernel_rfl) (by kernel_rfl)) u) (decide_eq_true (by first | exact aw1 | exact aw2 | exact aw3 | exact aw4 | exact aw5)))
 refine GL.v (.bool true) ?_
 refine GL.v (.bool true) ?_
 refine GL.call (fun _ hM => Int_ok hM.avlt (-12) (by first | assumption | omega)) ?_
 rintro _ _ _ hM ⟨A31, n31, c31, m31, rfl, h31, hb⟩
 have hs31 := sz_i64 (-12) (by omega)
 refine ⟨_, _, _, rfl, (hM.call hb).add h31, ?_⟩
 refine GL.call (fun _ hM => Int_ok hM.avlt (18) (by first | assumption | omega)) ?_
 rintro _ _ _ hM ⟨A32, n32, c32, m32, rfl, h32, hb⟩
 have hs32 := sz_i64 (18) (by omega)
 refine ⟨_, _, _, rfl, (hM.call hb).add h32, ?_⟩
 refine GL.call (fun _ hM => Gcd_ok hM.avlt (hM.f 1 rfl) (hM.f 0 rfl) (by first | assumption | omega)) ?_
 rintro _ _ _ hM ⟨A33, n33, c33, m33, rfl, h33, hb⟩
 have hs33 := sz_gcd2 (-12) (18)
 refine ⟨_, _, _, rfl, (hM.call hb).add h33, ?_⟩
 refine GL.call (fun _ hM => ZText_ok hM.avlt (hM.f 0 rfl) (by first | assumption | omega)) ?_
 rintro _ _ _ hM ⟨rfl, hb⟩
 have hl34 := decZ_len ((Int.gcd (-12) 18 : Int))
 refine ⟨_, _, _, rfl, hM.call hb, ?_⟩
 refine GL.v (.bool true) ?_ (hr := fun u => op_b (b := (decide ((decZ (Int.gcd (-12) 18 : Int)) = [54]))) ((fun u => op_seq (L := decZ (Int.gcd (-12) 18 : Int)) (K := [54]) (by kernel_rfl) (by kernel_rfl)) u) (decide_eq_true (by first | exact aw1 | exact aw2 | exact aw3 | exact aw4 | exact aw5)))
 refine GL.v (.bool true) ?_
 refine GL.v (.bool true) ?_
 refine GL.call (fun _ hM => r_ok hM.avlt [49, 47, 50] (by simp)) ?_
 rintro _ _ _ hM ⟨A35, n35, c35, m35, A35_, n35_, c35_, rfl, h35, hb⟩
 refine ⟨_, _, _, rfl, (hM.call hb).add h35, ?_⟩
 refine GL.call (fun _ hM => r_ok hM.avlt [49, 47, 51] (by simp)) ?_
 rintro _ _ _ hM ⟨A36, n36, c36, m36, A36_, n36_, c36_, rfl, h36, hb⟩
 refine ⟨_, _, _, rfl, (hM.call hb).add h36, ?_⟩
 refine GL.call (fun _ hM => r_ok hM.avlt [49, 47, 54] (by simp)) ?_
 rintro _ _ _ hM ⟨A37, n37, c37, m37, A37_, n37_, c37_, rfl, h37, hb⟩
 refine ⟨_, _, _, rfl, (hM.call hb).add h37, ?_⟩
 refine GL.lst (K := Rk) (T := 48) (k := 3) (xs := [(parseR [49, 47, 50]).1, (parseR [49, 47, 51]).1, (parseR [49, 47, 54]).1]) (fun u => op_build3 rowk97 rfl (by kernel_rfl) (by kernel_rfl) (by kernel_rfl) u) (fun _ _ _ hM hm hg => LKd.built3 hm hg (by decide) rfl rfl rfl (hM.f 2 rfl) (hM.f 1 rfl) (hM.f 0 rfl)) fun g38 => ?_
 refine GL.call (fun _ hM => Sum_ok hM.avlt (hM.f 0 rfl) aw_sum) ?_
 rintro _ _ _ hM ⟨A39, n39, c39, m39, A39_, n39_, c39_, rfl, h39, hb⟩
 refine ⟨_, _, _, rfl, (hM.call hb).add h39, ?_⟩
 refine GL.call (fun _ hM => RText_ok hM.avlt (hM.f 0 rfl) (by first | assumption | omega | (dsimp only; omega))) ?_
 rintro _ _ _ hM ⟨rfl, hb⟩
 have hl40 := decR_len ((foldR (· + ·) ([(parseR [49, 47, 50]).1, (parseR [49, 47, 51]).1, (parseR [49, 47, 54]).1])))
 refine ⟨_, _, _, rfl, hM.call hb, ?_⟩
 refine GL.v (.bool true) ?_ (hr := fun u => op_b (b := (decide ((decR (foldR (· + ·) ([(parseR [49, 47, 50]).1, (parseR [49, 47, 51]).1, (parseR [49, 47, 54]).1]))) = [49]))) ((fun u => op_seq (L := decR (foldR (· + ·) ([(parseR [49, 47, 50]).1, (parseR [49, 47, 51]).1, (parseR [49, 47, 54]).1]))) (K := [49]) (by kernel_rfl) (by kernel_rfl)) u) (decide_eq_true (by first | exact aw1 | exact aw2 | exact aw3 | exact aw4 | exact aw5)))
 refine GL.v (.bool true) ?_
 refine GL.v (.bool true) ?_
 refine GL.k k1 ?_
 refine CG.ret (QG.ret (fun _ hM => results_one rfl (res_tmp rfl)) ?_)
 intro _ hM
 exact ⟨rfl, hM.below⟩

set_option maxRecDepth 100000 in
set_option maxHeartbeats 400000 in
theorem BothZ_ok {w : World} {X : Nat → Prop} (hX : ∀ k, X k → k < w.heap.size) (xA : Int) (xB : Int) (xC : Int) (xP : Int) (p1 : -9223372036854775808 ≤ xA ∧ xA ≤ 9223372036854775807) (p2 : -9223372036854775808 ≤ xB ∧ xB ≤ 9223372036854775807) (p3 : -9223372036854775808 ≤ xC ∧ xC ≤ 9223372036854775807) (p4 : 0 ≤ xP ∧ xP ≤ 255) :
    Calls Tryz.prog 13 #[.agg #[.int .i64 xA, .int .i64 xB, .int .i64 xC, .int .u8 xP]] w (fun e w' => ∃ Ar1 nr1 cr1 mr1 sr2 Ar2 nr2 cr2, e = .returned (.tuple #[.agg #[.slice Ar1 nr1 cr1, .bool mr1], .agg #[.int .i64 sr2, .slice Ar2 nr2 cr2]]) ∧ Zk.R X w' [.slice Ar1 nr1 cr1, .bool mr1] (bigv xA xB xC xP) ∧ NZk.R X w' [.int .i64 sr2, .slice Ar2 nr2 cr2] (bigv xA xB xC xP) ∧ Below w.heap.size w w') := by
 have hM := Mem.start hX
 have hz0 := bigv_base xA xB xC p1 p2 p3
 refine calls_of hM Tryz.func13 Tryz.ntmps13 ?_
 refine CG.seq fun K_ k1 => ?_
 refine CG.lin 3 ?_
 refine GL.bA #[.int .i64 xA, .int .i64 xB, .int .i64 xC, .int .u8 xP] fun g21 => ?_
 refine GL.aA zer28 fun g22 => ?_
 refine GL.aA zer31 fun g23 => ?_
 refine GL.k k1 ?_
 refine CG.seq fun K_ k1 => ?_
 refine CG.cut (fun a_ u_ => ∃ (A25 : Option Addr) (n25 : Nat) (c25 : Nat) (m25 : Bool) (A26 : Option Addr) (n26 : Nat) (c26 : Nat) (m26 : Bool) (A27 : Option Addr) (n27 : Nat) (c27 : Nat) (m27 : Bool) (A28 : Option Addr) (n28 : Nat) (c28 : Nat) (m28 : Bool) (A29 : Option Addr) (n29 : Nat) (c29 : Nat) (m29 : Bool) (g30 : Nat), a_ = ⟨#[.agg #[.int .i64 xA, .int .i64 xB, .int .i64 xC, .int .u8 xP], .pointer (some ⟨g21, 0, none⟩), .pointer (some ⟨g22, 0, none⟩), .pointer (some ⟨g23, 0, none⟩), .pointer (some ⟨g30, 0, none⟩), undef, undef, undef, undef, .pointer (some ⟨g21, 0, none⟩), .int .i64 xA, .agg #[.slice A25 n25 c25, .bool m25], .pointer (some ⟨g21, 1, none⟩), .int .i64 xB, .agg #[.slice A26 n26 c26, .bool m26], .agg #[.slice A27 n27 c27, .bool m27], .pointer (some ⟨g21, 2, none⟩), .int .i64 xC, .agg #[.slice A28 n28 c28, .bool m28], .agg #[.slice A29 n29 c29, .bool m29], undef, undef, undef, undef, undef, undef, undef, undef, undef, undef, undef, undef, undef, undef, undef, undef, undef, undef, undef, undef, undef, undef, undef, undef, undef, undef, undef, undef], []⟩ ∧ Mem w [] X u_ [.box g30 #[.slice A29 n29 c29, .bool m29] 28, .box g23 #[.int .i64 0, .slice none 0 0] 31, .box g22 #[.slice none 0 0, .bool false] 28, .box g21 #[.int .i64 xA, .int .i64 xB, .int .i64 xC, .int .u8 xP] 23] [⟨Zk, [.slice A29 n29 c29, .bool m29], (xA * xB) + xC⟩, ⟨Zk, [.slice A28 n28 c28, .bool m28], xC⟩, ⟨Zk, [.slice A27 n27 c27, .bool m27], xA * xB⟩, ⟨Zk, [.slice A26 n26 c26, .bool m26], xB⟩, ⟨Zk, [.slice A25 n25 c25, .bool m25], xA⟩]) ?_ ?_
 · skip
   refine CG.draw [] [0, 1, 3, 4, 7, 8] (.step 0 (.step 1 (.step 3 (.step 4 (.step 7 (.step 8 (.fork 2 (.fork 5 (.fork 6 (.fork 9 (.fork 10 (.step 11 (.step 12 .done)) (.step 11 (.step 10 (.step 12 .done)))) (.step 11 (.step 9 (.step 10 (.step 12 .done))))) (.step 11 (.step 6 (.step 9 (.step 10 (.step 12 .done)))))) (.step 11 (.step 5 (.step 6 (.step 9 (.step 10 (.step 12 .done))))))) (.step 11 (.step 2 (.step 5 (.step 6 (.step 9 (.step 10 (.step 12 .done)))))))))))))) (fun V hV24 => ?_)
   refine GD.ev (.pointer (some ⟨g21, 0, none⟩)) ?_
   refine GD.er (.int .i64 xA) (fun _ hS => op_load_one (off := 0) (by kernel_rfl) agg2 (hV24.bS 2 rfl hS) rfl) ?_
   refine GD.ev (.pointer (some ⟨g21, 1, none⟩)) ?_
   refine GD.er (.int .i64 xB) (fun _ hS => op_load_one (off := 1) (by kernel_rfl) agg2 (hV24.bS 2 rfl hS) rfl) ?_
   refine GD.ev (.pointer (some ⟨g21, 2, none⟩)) ?_
   refine GD.er (.int .i64 xC) (fun _ hS => op_load_one (off := 2) (by kernel_rfl) agg2 (hV24.bS 2 rfl hS) rfl) ?_
   refine GD.fork ?_ ?_
   · skip
     refine GD.call (fun _ hM => Int_ok hM.avlt xA (by first | assumption | omega)) ?_
     rintro _ _ _ hM ⟨A25, n25, c25, m25, rfl, h25, hb⟩
     have hs25 := sz_i64 xA (by omega)
     refine ⟨_, _, _, rfl, hb, (hM.call hb).add h25, ?_⟩
     refine GD.fork ?_ ?_
     · skip
       refine GD.call (fun _ hM => Int_ok hM.avlt xB (by first | assumption | omega)) ?_
       rintro _ _ _ hM ⟨A26, n26, c26, m26, rfl, h26, hb⟩
       have hs26 := sz_i64 xB (by omega)
       refine ⟨_, _, _, rfl, hb, (hM.call hb).add h26, ?_⟩
       refine GD.fork ?_ ?_
       · skip
         refine GD.call (fun _ hM => Mul_ok hM.avlt (hM.f 1 rfl) (hM.f 0 rfl) (by first | assumption | omega)) ?_
         rintro _ _ _ hM ⟨A27, n27, c27, m27, rfl, h27, hb⟩
         have hs27 := sz_mul xA xB
         refine ⟨_, _, _, rfl, hb, (hM.call hb).add h27, ?_⟩
         refine GD.fork ?_ ?_
         · skip
           refine GD.call (fun _ hM => Int_ok hM.avlt xC (by first | assumption | omega)) ?_
           rintro _ _ _ hM ⟨A28, n28, c28, m28, rfl, h28, hb⟩
           have hs28 := sz_i64 xC (by omega)
           refine ⟨_, _, _, rfl, hb, (hM.call hb).add h28, ?_⟩
           refine GD.fork ?_ ?_
           · skip
             refine GD.call (fun _ hM => Add_ok hM.avlt (hM.f 1 rfl) (hM.f 0 rfl) (by first | assumption | omega)) ?_
             rintro _ _ _ hM ⟨A29, n29, c29, m29, rfl, h29, hb⟩
             have hs29 := sz_add (xA * xB) xC
             refine ⟨_, _, _, rfl, hb, (hM.call hb).add h29, ?_⟩
             refine GD.bx (fun _ => op_alloc zer28) fun g30 hg30 => ?_
             refine GD.sn hg30 (fun _ _ => Mem.st0) (fun _ hM => store_all (cs' := #[.slice A29 n29 c29, .bool m29]) siz28 (hM.b 0 rfl) (by kernel_rfl) (by kernel_rfl) rfl rfl rfl) ?_
             refine GD.q (QG.cut fun _ hM => ?_)
             exact ⟨A25, n25, c25, m25, A26, n26, c26, m26, A27, n27, c27, m27, A28, n28, c28, m28, A29, n29, c29, m29, g30, rfl, (((((hM.clr).add (hM.f 4 rfl)).add (hM.f 3 rfl)).add (hM.f 2 rfl)).add (hM.f 1 rfl)).add (hM.f 0 rfl)⟩
           refine GD.bx (fun _ => op_alloc zer28) fun g31 hg31 => ?_
           refine GD.call (fun _ hM => Add_ok hM.avlt (hM.f 1 rfl) (hM.f 0 rfl) (by first | assumption | omega)) ?_
           rintro _ _ _ hM ⟨A32, n32, c32, m32, rfl, h32, hb⟩
           have hs32 := sz_add (xA * xB) xC
           refine ⟨_, _, _, rfl, hb, (hM.call hb).add h32, ?_⟩
           refine GD.sn hg31 (fun _ _ => Mem.st0) (fun _ hM => store_all (cs' := #[.slice A32 n32 c32, .bool m32]) siz28 (hM.b 0 rfl) (by kernel_rfl) (by kernel_rfl) rfl rfl rfl) ?_
           refine GD.q (QG.cut fun _ hM => ?_)
           exact ⟨A25, n25, c25, m25, A26, n26, c26, m26, A27, n27, c27, m27, A28, n28, c28, m28, A32, n32, c32, m32, g31, rfl, (((((hM.clr).add (hM.f 4 rfl)).add (hM.f 3 rfl)).add (hM.f 2 rfl)).add (hM.f 1 rfl)).add (hM.f 0 rfl)⟩
         refine GD.bx (fun _ => op_alloc zer28) fun g33 hg33 => ?_
         refine GD.call (fun _ hM => Int_ok hM.avlt xC (by first | assumption | omega)) ?_
         rintro _ _ _ hM ⟨A34, n34, c34, m34, rfl, h34, hb⟩
         have hs34 := sz_i64 xC (by omega)
         refine ⟨_, _, _, rfl, hb, (hM.call hb).add h34, ?_⟩
         refine GD.call (fun _ hM => Add_ok hM.avlt (hM.f 1 rfl) (hM.f 0 rfl) (by first | assumption | omega)) ?_
         rintro _ _ _ hM ⟨A35, n35, c35, m35, rfl, h35, hb⟩
         have hs35 := sz_add (xA * xB) xC
         refine ⟨_, _, _, rfl, hb, (hM.call hb).add h35, ?_⟩
         refine GD.sn hg33 (fun _ _ => Mem.st0) (fun _ hM => store_all (cs' := #[.slice A35 n35 c35, .bool m35]) siz28 (hM.b 0 rfl) (by kernel_rfl) (by kernel_rfl) rfl rfl rfl) ?_
         refine GD.q (QG.cut fun _ hM => ?_)
         exact ⟨A25, n25, c25, m25, A26, n26, c26, m26, A27, n27, c27, m27, A34, n34, c34, m34, A35, n35, c35, m35, g33, rfl, (((((hM.clr).add (hM.f 4 rfl)).add (hM.f 3 rfl)).add (hM.f 2 rfl)).add (hM.f 1 rfl)).add (hM.f 0 rfl)⟩
       refine GD.bx (fun _ => op_alloc zer28) fun g36 hg36 => ?_
       refine GD.call (fun _ hM => Mul_ok hM.avlt (hM.f 1 rfl) (hM.f 0 rfl) (by first | assumption | omega)) ?_
       rintro _ _ _ hM ⟨A37, n37, c37, m37, rfl, h37, hb⟩
       have hs37 := sz_mul xA xB
       refine ⟨_, _, _, rfl, hb, (hM.call hb).add h37, ?_⟩
       refine GD.call (fun _ hM => Int_ok hM.avlt xC (by first | assumption | omega)) ?_
       rintro _ _ _ hM ⟨A38, n38, c38, m38, rfl, h38, hb⟩
       have hs38 := sz_i64 xC (by omega)
       refine ⟨_, _, _, rfl, hb, (hM.call hb).add h38, ?_⟩
       refine GD.call (fun _ hM => Add_ok hM.avlt (hM.f 1 rfl) (hM.f 0 rfl) (by first | assumption | omega)) ?_
       rintro _ _ _ hM ⟨A39, n39, c39, m39, rfl, h39, hb⟩
       have hs39 := sz_add (xA * xB) xC
       refine ⟨_, _, _, rfl, hb, (hM.call hb).add h39, ?_⟩
       refine GD.sn hg36 (fun _ _ => Mem.st0) (fun _ hM => store_all (cs' := #[.slice A39 n39 c39, .bool m39]) siz28 (hM.b 0 rfl) (by kernel_rfl) (by kernel_rfl) rfl rfl rfl) ?_
       refine GD.q (QG.cut fun _ hM => ?_)
       exact ⟨A25, n25, c25, m25, A26, n26, c26, m26, A37, n37, c37, m37, A38, n38, c38, m38, A39, n39, c39, m39, g36, rfl, (((((hM.clr).add (hM.f 4 rfl)).add (hM.f 3 rfl)).add (hM.f 2 rfl)).add (hM.f 1 rfl)).add (hM.f 0 rfl)⟩
     refine GD.bx (fun _ => op_alloc zer28) fun g40 hg40 => ?_
     refine GD.call (fun _ hM => Int_ok hM.avlt xB (by first | assumption | omega)) ?_
     rintro _ _ _ hM ⟨A41, n41, c41, m41, rfl, h41, hb⟩
     have hs41 := sz_i64 xB (by omega)
     refine ⟨_, _, _, rfl, hb, (hM.call hb).add h41, ?_⟩
     refine GD.call (fun _ hM => Mul_ok hM.avlt (hM.f 1 rfl) (hM.f 0 rfl) (by first | assumption | omega)) ?_
     rintro _ _ _ hM ⟨A42, n42, c42, m42, rfl, h42, hb⟩
     have hs42 := sz_mul xA xB
     refine ⟨_, _, _, rfl, hb, (hM.call hb).add h42, ?_⟩
     refine GD.call (fun _ hM => Int_ok hM.avlt xC (by first | assumption | omega)) ?_
     rintro _ _ _ hM ⟨A43, n43, c43, m43, rfl, h43, hb⟩
     have hs43 := sz_i64 xC (by omega)
     refine ⟨_, _, _, rfl, hb, (hM.call hb).add h43, ?_⟩
     refine GD.call (fun _ hM => Add_ok hM.avlt (hM.f 1 rfl) (hM.f 0 rfl) (by first | assumption | omega)) ?_
     rintro _ _ _ hM ⟨A44, n44, c44, m44, rfl, h44, hb⟩
     have hs44 := sz_add (xA * xB) xC
     refine ⟨_, _, _, rfl, hb, (hM.call hb).add h44, ?_⟩
     refine GD.sn hg40 (fun _ _ => Mem.st0) (fun _ hM => store_all (cs' := #[.slice A44 n44 c44, .bool m44]) siz28 (hM.b 0 rfl) (by kernel_rfl) (by kernel_rfl) rfl rfl rfl) ?_
     refine GD.q (QG.cut fun _ hM => ?_)
     exact ⟨A25, n25, c25, m25, A41, n41, c41, m41, A42, n42, c42, m42, A43, n43, c43, m43, A44, n44, c44, m44, g40, rfl, (((((hM.clr).add (hM.f 4 rfl)).add (hM.f 3 rfl)).add (hM.f 2 rfl)).add (hM.f 1 rfl)).add (hM.f 0 rfl)⟩
   refine GD.bx (fun _ => op_alloc zer28) fun g45 hg45 => ?_
   refine GD.call (fun _ hM => Int_ok hM.avlt xA (by first | assumption | omega)) ?_
   rintro _ _ _ hM ⟨A46, n46, c46, m46, rfl, h46, hb⟩
   have hs46 := sz_i64 xA (by omega)
   refine ⟨_, _, _, rfl, hb, (hM.call hb).add h46, ?_⟩
   refine GD.call (fun _ hM => Int_ok hM.avlt xB (by first | assumption | omega)) ?_
   rintro _ _ _ hM ⟨A47, n47, c47, m47, rfl, h47, hb⟩
   have hs47 := sz_i64 xB (by omega)
   refine ⟨_, _, _, rfl, hb, (hM.call hb).add h47, ?_⟩
   refine GD.call (fun _ hM => Mul_ok hM.avlt (hM.f 1 rfl) (hM.f 0 rfl) (by first | assumption | omega)) ?_
   rintro _ _ _ hM ⟨A48, n48, c48, m48, rfl, h48, hb⟩
   have hs48 := sz_mul xA xB
   refine ⟨_, _, _, rfl, hb, (hM.call hb).add h48, ?_⟩
   refine GD.call (fun _ hM => Int_ok hM.avlt xC (by first | assumption | omega)) ?_
   rintro _ _ _ hM ⟨A49, n49, c49, m49, rfl, h49, hb⟩
   have hs49 := sz_i64 xC (by omega)
   refine ⟨_, _, _, rfl, hb, (hM.call hb).add h49, ?_⟩
   refine GD.call (fun _ hM => Add_ok hM.avlt (hM.f 1 rfl) (hM.f 0 rfl) (by first | assumption | omega)) ?_
   rintro _ _ _ hM ⟨A50, n50, c50, m50, rfl, h50, hb⟩
   have hs50 := sz_add (xA * xB) xC
   refine ⟨_, _, _, rfl, hb, (hM.call hb).add h50, ?_⟩
   refine GD.sn hg45 (fun _ _ => Mem.st0) (fun _ hM => store_all (cs' := #[.slice A50 n50 c50, .bool m50]) siz28 (hM.b 0 rfl) (by kernel_rfl) (by kernel_rfl) rfl rfl rfl) ?_
   refine GD.q (QG.cut fun _ hM => ?_)
   exact ⟨A46, n46, c46, m46, A47, n47, c47, m47, A48, n48, c48, m48, A49, n49, c49, m49, A50, n50, c50, m50, g45, rfl, (((((hM.clr).add (hM.f 4 rfl)).add (hM.f 3 rfl)).add (hM.f 2 rfl)).add (hM.f 1 rfl)).add (hM.f 0 rfl)⟩
 · skip
   rintro a_ u_ ⟨A25, n25, c25, m25, A26, n26, c26, m26, A27, n27, c27, m27, A28, n28, c28, m28, A29, n29, c29, m29, g30, rfl, hM⟩
   refine QG.go hM ?_
   refine QG.k k1 ?_
   refine CG.seq fun K_ k1 => ?_
   refine CG.cut (fun a_ u_ => ∃ (s52 : Int) (A52 : Option Addr) (n52 : Nat) (c52 : Nat) (s53 : Int) (A53 : Option Addr) (n53 : Nat) (c53 : Nat) (s54 : Int) (A54 : Option Addr) (n54 : Nat) (c54 : Nat) (s55 : Int) (A55 : Option Addr) (n55 : Nat) (c55 : Nat) (s56 : Int) (A56 : Option Addr) (n56 : Nat) (c56 : Nat) (g57 : Nat), a_ = ⟨#[.agg #[.int .i64 xA, .int .i64 xB, .int .i64 xC, .int .u8 xP], .pointer (some ⟨g21, 0, none⟩), .pointer (some ⟨g22, 0, none⟩), .pointer (some ⟨g23, 0, none⟩), .pointer (some ⟨g30, 0, none⟩), .pointer (some ⟨g57, 0, none⟩), undef, undef, undef, .pointer (some ⟨g21, 0, none⟩), .int .i64 xA, .agg #[.slice A25 n25 c25, .bool m25], .pointer (some ⟨g21, 1, none⟩), .int .i64 xB, .agg #[.slice A26 n26 c26, .bool m26], .agg #[.slice A27 n27 c27, .bool m27], .pointer (some ⟨g21, 2, none⟩), .int .i64 xC, .agg #[.slice A28 n28 c28, .bool m28], .agg #[.slice A29 n29 c29, .bool m29], .pointer (some ⟨g21, 0, none⟩), .int .i64 xA, .agg #[.int .i64 s52, .slice A52 n52 c52], .pointer (some ⟨g21, 1, none⟩), .int .i64 xB, .agg #[.int .i64 s53, .slice A53 n53 c53], .agg #[.int .i64 s54, .slice A54 n54 c54], .pointer (some ⟨g21, 2, none⟩), .int .i64 xC, .agg #[.int .i64 s55, .slice A55 n55 c55], .agg #[.int .i64 s56, .slice A56 n56 c56], undef, undef, undef, undef, undef, undef, undef, undef, undef, undef, undef, undef, undef, undef, undef, undef, undef], []⟩ ∧ Mem w [] X u_ [.box g57 #[.int .i64 s56, .slice A56 n56 c56] 31, .box g30 #[.slice A29 n29 c29, .bool m29] 28, .box g23 #[.int .i64 0, .slice none 0 0] 31, .box g22 #[.slice none 0 0, .bool false] 28, .box g21 #[.int .i64 xA, .int .i64 xB, .int .i64 xC, .int .u8 xP] 23] [⟨NZk, [.int .i64 s56, .slice A56 n56 c56], (xA * xB) + xC⟩, ⟨NZk, [.int .i64 s55, .slice A55 n55 c55], xC⟩, ⟨NZk, [.int .i64 s54, .slice A54 n54 c54], xA * xB⟩, ⟨NZk, [.int .i64 s53, .slice A53 n53 c53], xB⟩, ⟨NZk, [.int .i64 s52, .slice A52 n52 c52], xA⟩, ⟨Zk, [.slice A29 n29 c29, .bool m29], (xA * xB) + xC⟩, ⟨Zk, [.slice A28 n28 c28, .bool m28], xC⟩, ⟨Zk, [.slice A27 n27 c27, .bool m27], xA * xB⟩, ⟨Zk, [.slice A26 n26 c26, .bool m26], xB⟩, ⟨Zk, [.slice A25 n25 c25, .bool m25], xA⟩]) ?_ ?_
   · skip
     refine CG.draw [] [0, 1, 3, 4, 7, 8] (.step 0 (.step 1 (.step 3 (.step 4 (.step 7 (.step 8 (.fork 2 (.fork 5 (.fork 6 (.fork 9 (.fork 10 (.step 11 (.step 12 .done)) (.step 11 (.step 10 (.step 12 .done)))) (.step 11 (.step 9 (.step 10 (.step 12 .done))))) (.step 11 (.step 6 (.step 9 (.step 10 (.step 12 .done)))))) (.step 11 (.step 5 (.step 6 (.step 9 (.step 10 (.step 12 .done))))))) (.step 11 (.step 2 (.step 5 (.step 6 (.step 9 (.step 10 (.step 12 .done)))))))))))))) (fun V hV51 => ?_)
     refine GD.ev (.pointer (some ⟨g21, 0, none⟩)) ?_
     refine GD.er (.int .i64 xA) (fun _ hS => op_load_one (off := 0) (by kernel_rfl) agg2 (hV51.bS 3 rfl hS) rfl) ?_
     refine GD.ev (.pointer (some ⟨g21, 1, none⟩)) ?_
     refine GD.er (.int .i64 xB) (fun _ hS => op_load_one (off := 1) (by kernel_rfl) agg2 (hV51.bS 3 rfl hS) rfl) ?_
     refine GD.ev (.pointer (some ⟨g21, 2, none⟩)) ?_
     refine GD.er (.int .i64 xC) (fun _ hS => op_load_one (off := 2) (by kernel_rfl) agg2 (hV51.bS 3 rfl hS) rfl) ?_
     refine GD.fork ?_ ?_
     · skip
       refine GD.call (fun _ hM => ZInt_ok hM.avlt xA (by first | assumption | omega)) ?_
       rintro _ _ _ hM ⟨s52, A52, n52, c52, rfl, h52, hb⟩
       have hs52 := szg_i64 xA (by omega)
       refine ⟨_, _, _, rfl, hb, (hM.call hb).add h52, ?_⟩
       refine GD.fork ?_ ?_
       · skip
         refine GD.call (fun _ hM => ZInt_ok hM.avlt xB (by first | assumption | omega)) ?_
         rintro _ _ _ hM ⟨s53, A53, n53, c53, rfl, h53, hb⟩
         have hs53 := szg_i64 xB (by omega)
         refine ⟨_, _, _, rfl, hb, (hM.call hb).add h53, ?_⟩
         refine GD.fork ?_ ?_
         · skip
           refine GD.call (fun _ hM => ZMul_ok hM.avlt (hM.f 1 rfl) (hM.f 0 rfl) (by first | assumption | omega)) ?_
           rintro _ _ _ hM ⟨s54, A54, n54, c54, rfl, h54, hb⟩
           have hs54 := szg_mul xA xB
           refine ⟨_, _, _, rfl, hb, (hM.call hb).add h54, ?_⟩
           refine GD.fork ?_ ?_
           · skip
             refine GD.call (fun _ hM => ZInt_ok hM.avlt xC (by first | assumption | omega)) ?_
             rintro _ _ _ hM ⟨s55, A55, n55, c55, rfl, h55, hb⟩
             have hs55 := szg_i64 xC (by omega)
             refine ⟨_, _, _, rfl, hb, (hM.call hb).add h55, ?_⟩
             refine GD.fork ?_ ?_
             · skip
               refine GD.call (fun _ hM => ZAdd_ok hM.avlt (hM.f 1 rfl) (hM.f 0 rfl) (by first | assumption | omega)) ?_
               rintro _ _ _ hM ⟨s56, A56, n56, c56, rfl, h56, hb⟩
               have hs56 := szg_add (xA * xB) xC
               refine ⟨_, _, _, rfl, hb, (hM.call hb).add h56, ?_⟩
               refine GD.bx (fun _ => op_alloc zer31) fun g57 hg57 => ?_
               refine GD.sn hg57 (fun _ _ => Mem.st0) (fun _ hM => store_all (cs' := #[.int .i64 s56, .slice A56 n56 c56]) siz31 (hM.b 0 rfl) (by kernel_rfl) (by kernel_rfl) rfl rfl rfl) ?_
               refine GD.q (QG.cut fun _ hM => ?_)
               exact ⟨s52, A52, n52, c52, s53, A53, n53, c53, s54, A54, n54, c54, s55, A55, n55, c55, s56, A56, n56, c56, g57, rfl, ((((((((((hM.clr).add (hM.f 9 rfl)).add (hM.f 8 rfl)).add (hM.f 7 rfl)).add (hM.f 6 rfl)).add (hM.f 5 rfl)).add (hM.f 4 rfl)).add (hM.f 3 rfl)).add (hM.f 2 rfl)).add (hM.f 1 rfl)).add (hM.f 0 rfl)⟩
             refine GD.bx (fun _ => op_alloc zer31) fun g58 hg58 => ?_
             refine GD.call (fun _ hM => ZAdd_ok hM.avlt (hM.f 1 rfl) (hM.f 0 rfl) (by first | assumption | omega)) ?_
             rintro _ _ _ hM ⟨s59, A59, n59, c59, rfl, h59, hb⟩
             have hs59 := szg_add (xA * xB) xC
             refine ⟨_, _, _, rfl, hb, (hM.call hb).add h59, ?_⟩
             refine GD.sn hg58 (fun _ _ => Mem.st0) (fun _ hM => store_all (cs' := #[.int .i64 s59, .slice A59 n59 c59]) siz31 (hM.b 0 rfl) (by kernel_rfl) (by kernel_rfl) rfl rfl rfl) ?_
             refine GD.q (QG.cut fun _ hM => ?_)
             exact ⟨s52, A52, n52, c52, s53, A53, n53, c53, s54, A54, n54, c54, s55, A55, n55, c55, s59, A59, n59, c59, g58, rfl, ((((((((((hM.clr).add (hM.f 9 rfl)).add (hM.f 8 rfl)).add (hM.f 7 rfl)).add (hM.f 6 rfl)).add (hM.f 5 rfl)).add (hM.f 4 rfl)).add (hM.f 3 rfl)).add (hM.f 2 rfl)).add (hM.f 1 rfl)).add (hM.f 0 rfl)⟩
           refine GD.bx (fun _ => op_alloc zer31) fun g60 hg60 => ?_
           refine GD.call (fun _ hM => ZInt_ok hM.avlt xC (by first | assumption | omega)) ?_
           rintro _ _ _ hM ⟨s61, A61, n61, c61, rfl, h61, hb⟩
           have hs61 := szg_i64 xC (by omega)
           refine ⟨_, _, _, rfl, hb, (hM.call hb).add h61, ?_⟩
           refine GD.call (fun _ hM => ZAdd_ok hM.avlt (hM.f 1 rfl) (hM.f 0 rfl) (by first | assumption | omega)) ?_
           rintro _ _ _ hM ⟨s62, A62, n62, c62, rfl, h62, hb⟩
           have hs62 := szg_add (xA * xB) xC
           refine ⟨_, _, _, rfl, hb, (hM.call hb).add h62, ?_⟩
           refine GD.sn hg60 (fun _ _ => Mem.st0) (fun _ hM => store_all (cs' := #[.int .i64 s62, .slice A62 n62 c62]) siz31 (hM.b 0 rfl) (by kernel_rfl) (by kernel_rfl) rfl rfl rfl) ?_
           refine GD.q (QG.cut fun _ hM => ?_)
           exact ⟨s52, A52, n52, c52, s53, A53, n53, c53, s54, A54, n54, c54, s61, A61, n61, c61, s62, A62, n62, c62, g60, rfl, ((((((((((hM.clr).add (hM.f 9 rfl)).add (hM.f 8 rfl)).add (hM.f 7 rfl)).add (hM.f 6 rfl)).add (hM.f 5 rfl)).add (hM.f 4 rfl)).add (hM.f 3 rfl)).add (hM.f 2 rfl)).add (hM.f 1 rfl)).add (hM.f 0 rfl)⟩
         refine GD.bx (fun _ => op_alloc zer31) fun g63 hg63 => ?_
         refine GD.call (fun _ hM => ZMul_ok hM.avlt (hM.f 1 rfl) (hM.f 0 rfl) (by first | assumption | omega)) ?_
         rintro _ _ _ hM ⟨s64, A64, n64, c64, rfl, h64, hb⟩
         have hs64 := szg_mul xA xB
         refine ⟨_, _, _, rfl, hb, (hM.call hb).add h64, ?_⟩
         refine GD.call (fun _ hM => ZInt_ok hM.avlt xC (by first | assumption | omega)) ?_
         rintro _ _ _ hM ⟨s65, A65, n65, c65, rfl, h65, hb⟩
         have hs65 := szg_i64 xC (by omega)
         refine ⟨_, _, _, rfl, hb, (hM.call hb).add h65, ?_⟩
         refine GD.call (fun _ hM => ZAdd_ok hM.avlt (hM.f 1 rfl) (hM.f 0 rfl) (by first | assumption | omega)) ?_
         rintro _ _ _ hM ⟨s66, A66, n66, c66, rfl, h66, hb⟩
         have hs66 := szg_add (xA * xB) xC
         refine ⟨_, _, _, rfl, hb, (hM.call hb).add h66, ?_⟩
         refine GD.sn hg63 (fun _ _ => Mem.st0) (fun _ hM => store_all (cs' := #[.int .i64 s66, .slice A66 n66 c66]) siz31 (hM.b 0 rfl) (by kernel_rfl) (by kernel_rfl) rfl rfl rfl) ?_
         refine GD.q (QG.cut fun _ hM => ?_)
         exact ⟨s52, A52, n52, c52, s53, A53, n53, c53, s64, A64, n64, c64, s65, A65, n65, c65, s66, A66, n66, c66, g63, rfl, ((((((((((hM.clr).add (hM.f 9 rfl)).add (hM.f 8 rfl)).add (hM.f 7 rfl)).add (hM.f 6 rfl)).add (hM.f 5 rfl)).add (hM.f 4 rfl)).add (hM.f 3 rfl)).add (hM.f 2 rfl)).add (hM.f 1 rfl)).add (hM.f 0 rfl)⟩
       refine GD.bx (fun _ => op_alloc zer31) fun g67 hg67 => ?_
       refine GD.call (fun _ hM => ZInt_ok hM.avlt xB (by first | assumption | omega)) ?_
       rintro _ _ _ hM ⟨s68, A68, n68, c68, rfl, h68, hb⟩
       have hs68 := szg_i64 xB (by omega)
       refine ⟨_, _, _, rfl, hb, (hM.call hb).add h68, ?_⟩
       refine GD.call (fun _ hM => ZMul_ok hM.avlt (hM.f 1 rfl) (hM.f 0 rfl) (by first | assumption | omega)) ?_
       rintro _ _ _ hM ⟨s69, A69, n69, c69, rfl, h69, hb⟩
       have hs69 := szg_mul xA xB
       refine ⟨_, _, _, rfl, hb, (hM.call hb).add h69, ?_⟩
       refine GD.call (fun _ hM => ZInt_ok hM.avlt xC (by first | assumption | omega)) ?_
       rintro _ _ _ hM ⟨s70, A70, n70, c70, rfl, h70, hb⟩
       have hs70 := szg_i64 xC (by omega)
       refine ⟨_, _, _, rfl, hb, (hM.call hb).add h70, ?_⟩
       refine GD.call (fun _ hM => ZAdd_ok hM.avlt (hM.f 1 rfl) (hM.f 0 rfl) (by first | assumption | omega)) ?_
       rintro _ _ _ hM ⟨s71, A71, n71, c71, rfl, h71, hb⟩
       have hs71 := szg_add (xA * xB) xC
       refine ⟨_, _, _, rfl, hb, (hM.call hb).add h71, ?_⟩
       refine GD.sn hg67 (fun _ _ => Mem.st0) (fun _ hM => store_all (cs' := #[.int .i64 s71, .slice A71 n71 c71]) siz31 (hM.b 0 rfl) (by kernel_rfl) (by kernel_rfl) rfl rfl rfl) ?_
       refine GD.q (QG.cut fun _ hM => ?_)
       exact ⟨s52, A52, n52, c52, s68, A68, n68, c68, s69, A69, n69, c69, s70, A70, n70, c70, s71, A71, n71, c71, g67, rfl, ((((((((((hM.clr).add (hM.f 9 rfl)).add (hM.f 8 rfl)).add (hM.f 7 rfl)).add (hM.f 6 rfl)).add (hM.f 5 rfl)).add (hM.f 4 rfl)).add (hM.f 3 rfl)).add (hM.f 2 rfl)).add (hM.f 1 rfl)).add (hM.f 0 rfl)⟩
     refine GD.bx (fun _ => op_alloc zer31) fun g72 hg72 => ?_
     refine GD.call (fun _ hM => ZInt_ok hM.avlt xA (by first | assumption | omega)) ?_
     rintro _ _ _ hM ⟨s73, A73, n73, c73, rfl, h73, hb⟩
     have hs73 := szg_i64 xA (by omega)
     refine ⟨_, _, _, rfl, hb, (hM.call hb).add h73, ?_⟩
     refine GD.call (fun _ hM => ZInt_ok hM.avlt xB (by first | assumption | omega)) ?_
     rintro _ _ _ hM ⟨s74, A74, n74, c74, rfl, h74, hb⟩
     have hs74 := szg_i64 xB (by omega)
     refine ⟨_, _, _, rfl, hb, (hM.call hb).add h74, ?_⟩
     refine GD.call (fun _ hM => ZMul_ok hM.avlt (hM.f 1 rfl) (hM.f 0 rfl) (by first | assumption | omega)) ?_
     rintro _ _ _ hM ⟨s75, A75, n75, c75, rfl, h75, hb⟩
     have hs75 := szg_mul xA xB
     refine ⟨_, _, _, rfl, hb, (hM.call hb).add h75, ?_⟩
     refine GD.call (fun _ hM => ZInt_ok hM.avlt xC (by first | assumption | omega)) ?_
     rintro _ _ _ hM ⟨s76, A76, n76, c76, rfl, h76, hb⟩
     have hs76 := szg_i64 xC (by omega)
     refine ⟨_, _, _, rfl, hb, (hM.call hb).add h76, ?_⟩
     refine GD.call (fun _ hM => ZAdd_ok hM.avlt (hM.f 1 rfl) (hM.f 0 rfl) (by first | assumption | omega)) ?_
     rintro _ _ _ hM ⟨s77, A77, n77, c77, rfl, h77, hb⟩
     have hs77 := szg_add (xA * xB) xC
     refine ⟨_, _, _, rfl, hb, (hM.call hb).add h77, ?_⟩
     refine GD.sn hg72 (fun _ _ => Mem.st0) (fun _ hM => store_all (cs' := #[.int .i64 s77, .slice A77 n77 c77]) siz31 (hM.b 0 rfl) (by kernel_rfl) (by kernel_rfl) rfl rfl rfl) ?_
     refine GD.q (QG.cut fun _ hM => ?_)
     exact ⟨s73, A73, n73, c73, s74, A74, n74, c74, s75, A75, n75, c75, s76, A76, n76, c76, s77, A77, n77, c77, g72, rfl, ((((((((((hM.clr).add (hM.f 9 rfl)).add (hM.f 8 rfl)).add (hM.f 7 rfl)).add (hM.f 6 rfl)).add (hM.f 5 rfl)).add (hM.f 4 rfl)).add (hM.f 3 rfl)).add (hM.f 2 rfl)).add (hM.f 1 rfl)).add (hM.f 0 rfl)⟩
   · skip
     rintro a_ u_ ⟨s52, A52, n52, c52, s53, A53, n53, c53, s54, A54, n54, c54, s55, A55, n55, c55, s56, A56, n56, c56, g57, rfl, hM⟩
     refine QG.go hM ?_
     refine QG.k k1 ?_
     refine CG.seq fun K_ k1 => ?_
     refine CG.cut (fun a_ u_ => ∃ (g79 : Nat) (g80 : Nat), a_ = ⟨#[.agg #[.int .i64 xA, .int .i64 xB, .int .i64 xC, .int .u8 xP], .pointer (some ⟨g21, 0, none⟩), .pointer (some ⟨g22, 0, none⟩), .pointer (some ⟨g23, 0, none⟩), .pointer (some ⟨g30, 0, none⟩), .pointer (some ⟨g57, 0, none⟩), .pointer (some ⟨g79, 0, none⟩), .pointer (some ⟨g80, 0, none⟩), undef, .pointer (some ⟨g21, 0, none⟩), .int .i64 xA, .agg #[.slice A25 n25 c25, .bool m25], .pointer (some ⟨g21, 1, none⟩), .int .i64 xB, .agg #[.slice A26 n26 c26, .bool m26], .agg #[.slice A27 n27 c27, .bool m27], .pointer (some ⟨g21, 2, none⟩), .int .i64 xC, .agg #[.slice A28 n28 c28, .bool m28], .agg #[.slice A29 n29 c29, .bool m29], .pointer (some ⟨g21, 0, none⟩), .int .i64 xA, .agg #[.int .i64 s52, .slice A52 n52 c52], .pointer (some ⟨g21, 1, none⟩), .int .i64 xB, .agg #[.int .i64 s53, .slice A53 n53 c53], .agg #[.int .i64 s54, .slice A54 n54 c54], .pointer (some ⟨g21, 2, none⟩), .int .i64 xC, .agg #[.int .i64 s55, .slice A55 n55 c55], .agg #[.int .i64 s56, .slice A56 n56 c56], .agg #[.slice A29 n29 c29, .bool m29], .agg #[.int .i64 s56, .slice A56 n56 c56], undef, undef, undef, undef, undef, undef, undef, undef, undef, undef, undef, undef, undef, undef, undef], []⟩ ∧ Mem w [] X u_ [.box g80 #[.int .i64 s56, .slice A56 n56 c56] 31, .box g79 #[.slice A29 n29 c29, .bool m29] 28, .box g57 #[.int .i64 s56, .slice A56 n56 c56] 31, .box g30 #[.slice A29 n29 c29, .bool m29] 28, .box g23 #[.int .i64 0, .slice none 0 0] 31, .box g22 #[.slice none 0 0, .bool false] 28, .box g21 #[.int .i64 xA, .int .i64 xB, .int .i64 xC, .int .u8 xP] 23] [⟨NZk, [.int .i64 s56, .slice A56 n56 c56], (xA * xB) + xC⟩, ⟨NZk, [.int .i64 s55, .slice A55 n55 c55], xC⟩, ⟨NZk, [.int .i64 s54, .slice A54 n54 c54], xA * xB⟩, ⟨NZk, [.int .i64 s53, .slice A53 n53 c53], xB⟩, ⟨NZk, [.int .i64 s52, .slice A52 n52 c52], xA⟩, ⟨Zk, [.slice A29 n29 c29, .bool m29], (xA * xB) + xC⟩, ⟨Zk, [.slice A28 n28 c28, .bool m28], xC⟩, ⟨Zk, [.slice A27 n27 c27, .bool m27], xA * xB⟩, ⟨Zk, [.slice A26 n26 c26, .bool m26], xB⟩, ⟨Zk, [.slice A25 n25 c25, .bool m25], xA⟩]) ?_ ?_
     · skip
       refine CG.draw [] [0, 1] (.step 0 (.step 1 (.fork 2 (.step 3 (.step 4 (.step 5 .done))) (.step 3 (.step 2 (.step 4 (.step 5 .done))))))) (fun V hV78 => ?_)
       refine GD.er (.agg #[.slice A29 n29 c29, .bool m29]) (fun _ hS => op_load_agg (off := 0) (by kernel_rfl) agg28 siz28 (hV78.bS 1 rfl hS) rfl rfl) ?_
       refine GD.er (.agg #[.int .i64 s56, .slice A56 n56 c56]) (fun _ hS => op_load_agg (off := 0) (by kernel_rfl) agg31 siz31 (hV78.bS 0 rfl hS) rfl rfl) ?_
       refine GD.fork ?_ ?_
       · skip
         refine GD.bx (fun _ => op_alloc zer28) fun g79 hg79 => ?_
         refine GD.bx (fun _ => op_alloc zer31) fun g80 hg80 => ?_
         refine GD.sn hg79 (fun _ _ => Mem.st1) (fun _ hM => store_all (cs' := #[.slice A29 n29 c29, .bool m29]) siz28 (hM.b 1 rfl) (by kernel_rfl) (by kernel_rfl) rfl rfl rfl) ?_
         refine GD.sn hg80 (fun _ _ => Mem.st0) (fun _ hM => store_all (cs' := #[.int .i64 s56, .slice A56 n56 c56]) siz31 (hM.b 0 rfl) (by kernel_rfl) (by kernel_rfl) rfl rfl rfl) ?_
         refine GD.q (QG.cut fun _ hM => ?_)
         exact ⟨g79, g80, rfl, ((((((((((hM.clr).add (hM.f 9 rfl)).add (hM.f 8 rfl)).add (hM.f 7 rfl)).add (hM.f 6 rfl)).add (hM.f 5 rfl)).add (hM.f 4 rfl)).add (hM.f 3 rfl)).add (hM.f 2 rfl)).add (hM.f 1 rfl)).add (hM.f 0 rfl)⟩
       refine GD.bx (fun _ => op_alloc zer31) fun g81 hg81 => ?_
       refine GD.bx (fun _ => op_alloc zer28) fun g82 hg82 => ?_
       refine GD.sn hg82 (fun _ _ => Mem.st0) (fun _ hM => store_all (cs' := #[.slice A29 n29 c29, .bool m29]) siz28 (hM.b 0 rfl) (by kernel_rfl) (by kernel_rfl) rfl rfl rfl) ?_
       refine GD.sn hg81 (fun _ _ => Mem.st1) (fun _ hM => store_all (cs' := #[.int .i64 s56, .slice A56 n56 c56]) siz31 (hM.b 1 rfl) (by kernel_rfl) (by kernel_rfl) rfl rfl rfl) ?_
       refine GD.q (QG.cut fun _ hM => ?_)
       replace hM := hM.swap0
       exact ⟨g82, g81, rfl, ((((((((((hM.clr).add (hM.f 9 rfl)).add (hM.f 8 rfl)).add (hM.f 7 rfl)).add (hM.f 6 rfl)).add (hM.f 5 rfl)).add (hM.f 4 rfl)).add (hM.f 3 rfl)).add (hM.f 2 rfl)).add (hM.f 1 rfl)).add (hM.f 0 rfl)⟩
     · skip
       rintro a_ u_ ⟨g79, g80, rfl, hM⟩
       refine QG.go hM ?_
       refine QG.k k1 ?_
       refine CG.seq fun K_ k1 => ?_
       refine CG.seq fun K_ k2 => ?_
       refine CG.lin 1 ?_
       refine GL.v (.int .u8 0) ?_
       refine GL.k k2 ?_
       refine CG.block ?_
       refine CG.loop (fun m_ a_ u_ => ∃ (Ap : Option Addr) (np : Nat) (cp : Nat) (mp : Bool) (p : Int) (sq : Int) (Aq : Option Addr) (nq : Nat) (cq : Nat) (q : Int) (i : Nat) (j83 : Nat → Value), a_ = ⟨#[.agg #[.int .i64 xA, .int .i64 xB, .int .i64 xC, .int .u8 xP], .pointer (some ⟨g21, 0, none⟩), .pointer (some ⟨g22, 0, none⟩), .pointer (some ⟨g23, 0, none⟩), .pointer (some ⟨g30, 0, none⟩), .pointer (some ⟨g57, 0, none⟩), .pointer (some ⟨g79, 0, none⟩), .pointer (some ⟨g80, 0, none⟩), .int .u8 (i : Int), .pointer (some ⟨g21, 0, none⟩), .int .i64 xA, .agg #[.slice A25 n25 c25, .bool m25], .pointer (some ⟨g21, 1, none⟩), .int .i64 xB, .agg #[.slice A26 n26 c26, .bool m26], .agg #[.slice A27 n27 c27, .bool m27], .pointer (some ⟨g21, 2, none⟩), .int .i64 xC, .agg #[.slice A28 n28 c28, .bool m28], .agg #[.slice A29 n29 c29, .bool m29], .pointer (some ⟨g21, 0, none⟩), .int .i64 xA, .agg #[.int .i64 s52, .slice A52 n52 c52], .pointer (some ⟨g21, 1, none⟩), .int .i64 xB, .agg #[.int .i64 s53, .slice A53 n53 c53], .agg #[.int .i64 s54, .slice A54 n54 c54], .pointer (some ⟨g21, 2, none⟩), .int .i64 xC, .agg #[.int .i64 s55, .slice A55 n55 c55], .agg #[.int .i64 s56, .slice A56 n56 c56], .agg #[.slice A29 n29 c29, .bool m29], .agg #[.int .i64 s56, .slice A56 n56 c56], (j83 33), (j83 34), (j83 35), (j83 36), (j83 37), (j83 38), (j83 39), (j83 40), (j83 41), (j83 42), (j83 43), (j83 44), (j83 45), undef, undef], []⟩ ∧ m_ = 4 - i ∧ Mem w [] X u_ [.box g80 #[.int .i64 sq, .slice Aq nq cq] 31, .box g79 #[.slice Ap np cp, .bool mp] 28, .box g57 #[.int .i64 s56, .slice A56 n56 c56] 31, .box g30 #[.slice A29 n29 c29, .bool m29] 28, .box g23 #[.int .i64 0, .slice none 0 0] 31, .box g22 #[.slice none 0 0, .bool false] 28, .box g21 #[.int .i64 xA, .int .i64 xB, .int .i64 xC, .int .u8 xP] 23] [⟨Zk, [.slice Ap np cp, .bool mp], p⟩, ⟨NZk, [.int .i64 sq, .slice Aq nq cq], q⟩, ⟨NZk, [.int .i64 s56, .slice A56 n56 c56], (xA * xB) + xC⟩, ⟨NZk, [.int .i64 s55, .slice A55 n55 c55], xC⟩, ⟨NZk, [.int .i64 s54, .slice A54 n54 c54], xA * xB⟩, ⟨NZk, [.int .i64 s53, .slice A53 n53 c53], xB⟩, ⟨NZk, [.int .i64 s52, .slice A52 n52 c52], xA⟩, ⟨Zk, [.slice A29 n29 c29, .bool m29], (xA * xB) + xC⟩, ⟨Zk, [.slice A28 n28 c28, .bool m28], xC⟩, ⟨Zk, [.slice A27 n27 c27, .bool m27], xA * xB⟩, ⟨Zk, [.slice A26 n26 c26, .bool m26], xB⟩, ⟨Zk, [.slice A25 n25 c25, .bool m25], xA⟩] ∧ ((i : Int) ≤ xP % 4) ∧ (p = (xA * xB + xC) ^ (i + 1)) ∧ (q = p) ∧ (sz p ≤ 7 * (i + 1)) ∧ (szg q ≤ 11 * (i + 1))) (fun _ hM => ⟨_, A29, n29, c29, m29, ((xA * xB) + xC), s56, A56, n56, c56, ((xA * xB) + xC), 0, (fun t => (#[.agg #[.int .i64 xA, .int .i64 xB, .int .i64 xC, .int .u8 xP], .pointer (some ⟨g21, 0, none⟩), .pointer (some ⟨g22, 0, none⟩), .pointer (some ⟨g23, 0, none⟩), .pointer (some ⟨g30, 0, none⟩), .pointer (some ⟨g57, 0, none⟩), .pointer (some ⟨g79, 0, none⟩), .pointer (some ⟨g80, 0, none⟩), .int .u8 0, .pointer (some ⟨g21, 0, none⟩), .int .i64 xA, .agg #[.slice A25 n25 c25, .bool m25], .pointer (some ⟨g21, 1, none⟩), .int .i64 xB, .agg #[.slice A26 n26 c26, .bool m26], .agg #[.slice A27 n27 c27, .bool m27], .pointer (some ⟨g21, 2, none⟩), .int .i64 xC, .agg #[.slice A28 n28 c28, .bool m28], .agg #[.slice A29 n29 c29, .bool m29], .pointer (some ⟨g21, 0, none⟩), .int .i64 xA, .agg #[.int .i64 s52, .slice A52 n52 c52], .pointer (some ⟨g21, 1, none⟩), .int .i64 xB, .agg #[.int .i64 s53, .slice A53 n53 c53], .agg #[.int .i64 s54, .slice A54 n54 c54], .pointer (some ⟨g21, 2, none⟩), .int .i64 xC, .agg #[.int .i64 s55, .slice A55 n55 c55], .agg #[.int .i64 s56, .slice A56 n56 c56], .agg #[.slice A29 n29 c29, .bool m29], .agg #[.int .i64 s56, .slice A56 n56 c56], undef, undef, undef, undef, undef, undef, undef, undef, undef, undef, undef, undef, undef, undef, undef] : Array Value).getD t undef), (by kernel_rfl), rfl, ((((((((((((hM.clr).add (hM.f 9 rfl)).add (hM.f 8 rfl)).add (hM.f 7 rfl)).add (hM.f 6 rfl)).add (hM.f 5 rfl)).add (hM.f 4 rfl)).add (hM.f 3 rfl)).add (hM.f 2 rfl)).add (hM.f 1 rfl)).add (hM.f 0 rfl)).add (hM.f 0 rfl)).add (hM.f 5 rfl), (by omega), (by rw [Int.pow_succ]; simp), rfl, (by omega), (by omega)⟩) ?_
       rintro m_ a_ u_ ⟨Ap, np, cp, mp, p, sq, Aq, nq, cq, q, i, j83, rfl, hm83, hM, hi, hp, hq, hzp, hzq⟩
       refine CG.go hM ?_
       refine CG.seq fun K_ k2 => ?_
       refine CG.seq fun K_ k3 => ?_
       refine CG.lin 5 ?_
       refine GL.v (.int .u8 (i : Int)) ?_
       refine GL.v (.pointer (some ⟨g21, 3, none⟩)) ?_
       refine GL.r (.int .u8 xP) (fun _ hM => op_load_one (off := 3) (by kernel_rfl) agg5 (hM.b 6 rfl) rfl) ?_
       refine GL.v (.int .u8 (xP % 4)) ?_ (hr := fun u => op_to (v := .int .u8 ((xP).tmod 4)) (by kernel_rfl) (rem_to .u8 rfl (by omega)))
       refine GL.v (.bool (decide ((i : Int) < (xP % 4)))) ?_
       refine GL.k k3 ?_
       by_cases hc84 : (i : Int) < (xP % 4)
       · have hk84 : (decide ((i : Int) < (xP % 4))) = true := decide_eq_true hc84
         refine CG.yes ?_ hk84 rfl
         refine CG.skip ?_
         refine QG.k k2 ?_
         refine CG.seq fun K_ k2 => ?_
         refine CG.block ?_
         refine CG.draw [] [0, 1, 3, 4] (.step 0 (.step 1 (.step 3 (.step 4 (.step 2 (.step 5 (.step 6 (.step 7 .done)))))))) (fun V hV85 => ?_)
         refine GD.er (.agg #[.slice Ap np cp, .bool mp]) (fun _ hS => op_load_agg (off := 0) (by kernel_rfl) agg28 siz28 (hV85.bS 1 rfl hS) rfl rfl) ?_
         refine GD.er (.agg #[.slice A29 n29 c29, .bool m29]) (fun _ hS => op_load_agg (off := 0) (by kernel_rfl) agg28 siz28 (hV85.bS 3 rfl hS) rfl rfl) ?_
         refine GD.er (.agg #[.int .i64 sq, .slice Aq nq cq]) (fun _ hS => op_load_agg (off := 0) (by kernel_rfl) agg31 siz31 (hV85.bS 0 rfl hS) rfl rfl) ?_
         refine GD.er (.agg #[.int .i64 s56, .slice A56 n56 c56]) (fun _ hS => op_load_agg (off := 0) (by kernel_rfl) agg31 siz31 (hV85.bS 2 rfl hS) rfl rfl) ?_
         refine GD.call (fun _ hM => Mul_ok hM.avlt (hM.f 0 rfl) (hM.f 7 rfl) (by first | assumption | omega)) ?_
         rintro _ _ _ hM ⟨A86, n86, c86, m86, rfl, h86, hb⟩
         have hs86 := sz_mul p (((xA * xB) + xC))
         refine ⟨_, _, _, rfl, hb, (hM.call hb).add h86, ?_⟩
         refine GD.call (fun _ hM => ZMul_ok hM.avlt (hM.f 2 rfl) (hM.f 3 rfl) (by first | assumption | omega)) ?_
         rintro _ _ _ hM ⟨s87, A87, n87, c87, rfl, h87, hb⟩
         have hs87 := szg_mul q (((xA * xB) + xC))
         refine ⟨_, _, _, rfl, hb, (hM.call hb).add h87, ?_⟩
         refine GD.st (fun _ _ => Mem.st1) (fun _ hM => store_all (cs' := #[.slice A86 n86 c86, .bool m86]) siz28 (hM.b 1 rfl) (by kernel_rfl) (by kernel_rfl) rfl rfl rfl) ?_
         refine GD.st (fun _ _ => Mem.st0) (fun _ hM => store_all (cs' := #[.int .i64 s87, .slice A87 n87 c87]) siz31 (hM.b 0 rfl) (by kernel_rfl) (by kernel_rfl) rfl rfl rfl) ?_
         refine GD.q ?_
         refine QG.block ?_
         refine QG.k k2 ?_
         refine CG.lin 3 ?_
         refine GL.v (.int .u8 (i : Int)) ?_
         refine GL.v (.int .u8 ((i + 1 : Nat) : Int)) ?_ (hr := fun u => op_to (v := .int .u8 (IntKind.wrap .u8 ((i : Int) + (1 : Int)))) (by kernel_rfl) (wrap_u8 (by omega) (by omega) (by omega)))
         refine GL.v (.int .u8 ((i + 1 : Nat) : Int)) ?_
         refine GL.q ?_
         refine QG.again fun _ hM => ?_
         exact ⟨4 - (i + 1), (by omega), A86, n86, c86, m86, (p * ((xA * xB) + xC)), s87, A87, n87, c87, (q * ((xA * xB) + xC)), (i + 1), (fun t => (#[.agg #[.int .i64 xA, .int .i64 xB, .int .i64 xC, .int .u8 xP], .pointer (some ⟨g21, 0, none⟩), .pointer (some ⟨g22, 0, none⟩), .pointer (some ⟨g23, 0, none⟩), .pointer (some ⟨g30, 0, none⟩), .pointer (some ⟨g57, 0, none⟩), .pointer (some ⟨g79, 0, none⟩), .pointer (some ⟨g80, 0, none⟩), .int .u8 ((i + 1 : Nat) : Int), .pointer (some ⟨g21, 0, none⟩), .int .i64 xA, .agg #[.slice A25 n25 c25, .bool m25], .pointer (some ⟨g21, 1, none⟩), .int .i64 xB, .agg #[.slice A26 n26 c26, .bool m26], .agg #[.slice A27 n27 c27, .bool m27], .pointer (some ⟨g21, 2, none⟩), .int .i64 xC, .agg #[.slice A28 n28 c28, .bool m28], .agg #[.slice A29 n29 c29, .bool m29], .pointer (some ⟨g21, 0, none⟩), .int .i64 xA, .agg #[.int .i64 s52, .slice A52 n52 c52], .pointer (some ⟨g21, 1, none⟩), .int .i64 xB, .agg #[.int .i64 s53, .slice A53 n53 c53], .agg #[.int .i64 s54, .slice A54 n54 c54], .pointer (some ⟨g21, 2, none⟩), .int .i64 xC, .agg #[.int .i64 s55, .slice A55 n55 c55], .agg #[.int .i64 s56, .slice A56 n56 c56], .agg #[.slice A29 n29 c29, .bool m29], .agg #[.int .i64 s56, .slice A56 n56 c56], .int .u8 (i : Int), .pointer (some ⟨g21, 3, none⟩), .int .u8 xP, .int .u8 (xP % 4), .bool (decide ((i : Int) < (xP % 4))), .int .u8 (i : Int), .int .u8 ((i + 1 : Nat) : Int), .agg #[.slice Ap np cp, .bool mp], .agg #[.slice A29 n29 c29, .bool m29], .agg #[.slice A86 n86 c86, .bool m86], .agg #[.int .i64 sq, .slice Aq nq cq], .agg #[.int .i64 s56, .slice A56 n56 c56], .agg #[.int .i64 s87, .slice A87 n87 c87], undef, undef] : Array Value).getD t undef), (by kernel_rfl), rfl, ((((((((((((hM.clr).add (hM.f 13 rfl)).add (hM.f 12 rfl)).add (hM.f 11 rfl)).add (hM.f 10 rfl)).add (hM.f 9 rfl)).add (hM.f 8 rfl)).add (hM.f 7 rfl)).add (hM.f 6 rfl)).add (hM.f 5 rfl)).add (hM.f 4 rfl)).add (hM.f 0 rfl)).add (hM.f 1 rfl), (by omega), (by rw [Int.pow_succ, ← hp]), (by rw [hq]), (by omega), (by omega)⟩
       · have hk84 : (decide ((i : Int) < (xP % 4))) = false := decide_eq_false hc84
         refine CG.no ?_ hk84 rfl
         refine CG.exit (QG.then_exit (QG.then_exit (QG.here ?_)))
         refine QG.k k1 ?_
         refine CG.seq fun K_ k1 => ?_
         refine CG.draw [g22] [0, 1] (.step 0 (.step 1 (.step 2 (.step 3 .done)))) (fun V hV88 => ?_)
         refine GD.er (.agg #[.slice Ap np cp, .bool mp]) (fun _ hS => op_load_agg (off := 0) (by kernel_rfl) agg28 siz28 (hV88.bS 1 rfl hS (by simp only [List.mem_cons, List.not_mem_nil, or_false, not_or]; exact hV88.ne 1 5 rfl rfl (by decide))) rfl rfl) ?_
         refine GD.er (.agg #[.int .i64 sq, .slice Aq nq cq]) (fun _ hS => op_load_agg (off := 0) (by kernel_rfl) agg31 siz31 (hV88.bS 0 rfl hS (by simp only [List.mem_cons, List.not_mem_nil, or_false, not_or]; exact hV88.ne 0 5 rfl rfl (by decide))) rfl rfl) ?_
         refine GD.st (fun _ _ => Mem.st5) (fun _ hM => store_all (cs' := #[.slice Ap np cp, .bool mp]) siz28 (hM.b 5 rfl) (by kernel_rfl) (by kernel_rfl) rfl rfl rfl) ?_
         refine GD.st (fun _ _ => Mem.st4) (fun _ hM => store_all (cs' := #[.int .i64 sq, .slice Aq nq cq]) siz31 (hM.b 4 rfl) (by kernel_rfl) (by kernel_rfl) rfl rfl rfl) ?_
         refine GD.k k1 ?_
         refine CG.ret (QG.ret (fun _ hM => results_two rfl (res_cell rfl (loadVar_agg agg28 siz28 (hM.b 5 rfl) rfl rfl)) (res_cell rfl (loadVar_agg agg31 siz31 (hM.b 4 rfl) rfl rfl))) ?_)
         intro _ hM
         exact ⟨_, _, _, _, _, _, _, _, rfl, ((show p = bigv xA xB xC xP by rw [hp, show i = (xP % 4).toNat by omega]; rfl) ▸ (hM.out (hM.f 0 rfl))), ((show q = bigv xA xB xC xP by rw [hq, hp, show i = (xP % 4).toNat by omega]; rfl) ▸ (hM.out (hM.f 1 rfl))), hM.below⟩

set_option maxRecDepth 100000 in
set_option maxHeartbeats 400000 in
theorem SameZ_ok {w : World} {X : Nat → Prop} {A1 : Option Addr} {n1 : Nat} {c1 : Nat} {m1 : Bool} {a : Int} {s2 : Int} {A2 : Option Addr} {n2 : Nat} {c2 : Nat} {b : Int} (hX : ∀ k, X k → k < w.heap.size) (h1 : Zk.R X w [.slice A1 n1 c1, .bool m1] a) (h2 : NZk.R X w [.int .i64 s2, .slice A2 n2 c2] b) (p1 : sz a ≤ 1099511627000) (p2 : szg b ≤ 4294967296) :
    Calls Tryz.prog 14 #[.agg #[.slice A1 n1 c1, .bool m1], .agg #[.int .i64 s2, .slice A2 n2 c2]] w (fun e w' => e = .returned (.bool (decide (a = b))) ∧ Below w.heap.size w w') := by
 have hM := ((Mem.start hX).add0 h1).add0 h2
 have e1 : sz a = szn (a).natAbs := rfl
 refine calls_of hM Tryz.func14 Tryz.ntmps14 ?_
 refine CG.seq fun K_ k1 => ?_
 refine CG.lin 3 ?_
 refine GL.bA #[.slice A1 n1 c1, .bool m1] fun g21 => ?_
 refine GL.bA #[.int .i64 s2, .slice A2 n2 c2] fun g22 => ?_
 refine GL.v (.bool false) ?_
 refine GL.k k1 ?_
 refine CG.seq fun K_ k1 => ?_
 refine CG.draw [] [0, 2, 4] (.step 0 (.step 2 (.step 1 (.step 3 (.step 4 (.step 5 .done)))))) (fun V hV23 => ?_)
 refine GD.er (.agg #[.slice A1 n1 c1, .bool m1]) (fun _ hS => op_load_agg (off := 0) (by kernel_rfl) agg28 siz28 (hV23.bS 1 rfl hS) rfl rfl) ?_
 refine GD.er (.agg #[.int .i64 s2, .slice A2 n2 c2]) (fun _ hS => op_load_agg (off := 0) (by kernel_rfl) agg31 siz31 (hV23.bS 0 rfl hS) rfl rfl) ?_
 refine GD.call (fun _ hM => ZText_ok hM.avlt (hM.f 1 rfl) (by first | assumption | omega)) ?_
 rintro _ _ _ hM ⟨rfl, hb⟩
 have hl24 := decZ_len a
 refine ⟨_, _, _, rfl, hb, hM.call hb, ?_⟩
 refine GD.call (fun _ hM => NZText_ok hM.avlt (hM.f 0 rfl) (by first | assumption | omega)) ?_
 rintro _ _ _ hM ⟨rfl, hb⟩
 have hl25 := decZ_lenN b
 refine ⟨_, _, _, rfl, hb, hM.call hb, ?_⟩
 refine GD.ev (.bool (decide ((decZ a) = (decZ b)))) ?_ (hr := fun u => op_seq (L := decZ a) (K := decZ b) (by kernel_rfl) (by kernel_rfl))
 refine GD.v (.bool (decide ((decZ a) = (decZ b)))) ?_
 refine GD.k k1 ?_
 refine CG.ret (QG.ret (fun _ hM => results_one rfl (res_tmp rfl)) ?_)
 intro _ hM
 exact ⟨ret_bool (decZ_inj a b), hM.below⟩

set_option maxRecDepth 100000 in
set_option maxHeartbeats 400000 in
theorem ratios_ok {w : World} {X : Nat → Prop} (hX : ∀ k, X k → k < w.heap.size) (xA : Int) (xB : Int) (xC : Int) (xP : Int) (yA : Int) (yB : Int) (yC : Int) (yP : Int) (n : Int) (d : Int) (p1 : -9223372036854775808 ≤ xA ∧ xA ≤ 9223372036854775807) (p2 : -9223372036854775808 ≤ xB ∧ xB ≤ 9223372036854775807) (p3 : -9223372036854775808 ≤ xC ∧ xC ≤ 9223372036854775807) (p4 : 0 ≤ xP ∧ xP ≤ 255) (p5 : -9223372036854775808 ≤ yA ∧ yA ≤ 9223372036854775807) (p6 : -9223372036854775808 ≤ yB ∧ yB ≤ 9223372036854775807) (p7 : -9223372036854775808 ≤ yC ∧ yC ≤ 9223372036854775807) (p8 : 0 ≤ yP ∧ yP ≤ 255) (p9 : -9223372036854775808 ≤ n ∧ n ≤ 9223372036854775807) (p10 : -9223372036854775808 ≤ d ∧ d ≤ 9223372036854775807) :
    Calls Tryz.prog 7 #[.agg #[.int .i64 xA, .int .i64 xB, .int .i64 xC, .int .u8 xP], .agg #[.int .i64 yA, .int .i64 yB, .int .i64 yC, .int .u8 yP], .int .i64 n, .int .i64 d] w (fun e w' => e = .returned (.bool true) ∧ Below w.heap.size w w') := by
 have hM := Mem.start hX
 refine calls_of hM Tryz.func7 Tryz.ntmps7 ?_
 refine CG.seq fun K_ k1 => ?_
 refine CG.lin 3 ?_
 refine GL.bA #[.int .i64 xA, .int .i64 xB, .int .i64 xC, .int .u8 xP] fun g21 => ?_
 refine GL.bA #[.int .i64 yA, .int .i64 yB, .int .i64 yC, .int .u8 yP] fun g22 => ?_
 refine GL.v (.bool false) ?_
 refine GL.k k1 ?_
 refine CG.seq fun K_ k1 => ?_
 refine CG.lin 9 ?_
 refine GL.r (.agg #[.int .i64 xA, .int .i64 xB, .int .i64 xC, .int .u8 xP]) (fun _ hM => op_load_agg (off := 0) (by kernel_rfl) agg23 siz23 (hM.b 1 rfl) rfl rfl) ?_
 refine GL.call (fun _ hM => BothZ_ok hM.avlt xA xB xC xP (by first | assumption | omega) (by first | assumption | omega) (by first | assumption | omega) (by first | assumption | omega)) ?_
 rintro _ _ _ hM ⟨A23a, n23a, c23a, m23a, s23b, A23b, n23b, c23b, rfl, h23a, h23b, hb⟩
 have hz23 := bigv_sz xA xB xC xP (by assumption) (by assumption) (by assumption)
 have hsg23 := NZk.sgn h23b
 refine ⟨_, _, _, rfl, ((hM.call hb).add h23a).add h23b, ?_⟩
 refine GL.v (.tuple #[.agg #[.slice A23a n23a c23a, .bool m23a], .agg #[.int .i64 s23b, .slice A23b n23b c23b]]) ?_
 refine GL.v (.agg #[.slice A23a n23a c23a, .bool m23a]) ?_
 refine GL.v (.agg #[.int .i64 s23b, .slice A23b n23b c23b]) ?_
 refine GL.aA zer28 fun g24 => ?_
 refine GL.aA zer31 fun g25 => ?_
 refine GL.sA (cs' := #[.slice A23a n23a c23a, .bool m23a]) (fun _ _ => Mem.st1) (fun _ hM => hM.b 1 rfl) siz28 ?_
 refine GL.sA (cs' := #[.int .i64 s23b, .slice A23b n23b c23b]) (fun _ _ => Mem.st0) (fun _ hM => hM.b 0 rfl) siz31 ?_
 refine GL.k k1 ?_
 refine CG.seq fun K_ k1 => ?_
 refine CG.lin 9 ?_
 refine GL.r (.agg #[.int .i64 yA, .int .i64 yB, .int .i64 yC, .int .u8 yP]) (fun _ hM => op_load_agg (off := 0) (by kernel_rfl) agg23 siz23 (hM.b 2 rfl) rfl rfl) ?_
 refine GL.call (fun _ hM => BothZ_ok hM.avlt yA yB yC yP (by first | assumption | omega) (by first | assumption | omega) (by first | assumption | omega) (by first | assumption | omega)) ?_
 rintro _ _ _ hM ⟨A26a, n26a, c26a, m26a, s26b, A26b, n26b, c26b, rfl, h26a, h26b, hb⟩
 have hz26 := bigv_sz yA yB yC yP (by assumption) (by assumption) (by assumption)
 have hsg26 := NZk.sgn h26b
 refine ⟨_, _, _, rfl, ((hM.call hb).add h26a).add h26b, ?_⟩
 refine GL.v (.tuple #[.agg #[.slice A26a n26a c26a, .bool m26a], .agg #[.int .i64 s26b, .slice A26b n26b c26b]]) ?_
 refine GL.v (.agg #[.slice A26a n26a c26a, .bool m26a]) ?_
 refine GL.v (.agg #[.int .i64 s26b, .slice A26b n26b c26b]) ?_
 refine GL.aA zer28 fun g27 => ?_
 refine GL.aA zer31 fun g28 => ?_
 refine GL.sA (cs' := #[.slice A26a n26a c26a, .bool m26a]) (fun _ _ => Mem.st1) (fun _ hM => hM.b 1 rfl) siz28 ?_
 refine GL.sA (cs' := #[.int .i64 s26b, .slice A26b n26b c26b]) (fun _ _ => Mem.st0) (fun _ hM => hM.b 0 rfl) siz31 ?_
 refine GL.k k1 ?_
 refine CG.seq fun K_ k1 => ?_
 refine CG.seq fun K_ k2 => ?_
 refine CG.draw [] [0, 2, 5, 6, 7, 9, 12, 13] (.step 0 (.step 2 (.step 1 (.step 3 (.step 4 (.step 5 (.step 6 (.step 7 (.step 9 (.step 8 (.step 10 (.step 11 (.step 12 (.step 13 .done)))))))))))))) (fun V hV29 => ?_)
 refine GD.ev (.int .i64 n) ?_
 refine GD.ev (.int .i64 n) ?_
 refine GD.call (fun _ hM => Of_ok hM.avlt n (by first | assumption | omega)) ?_
 rintro _ _ _ hM ⟨A30, n30, c30, m30, A30_, n30_, c30_, rfl, h30, hb⟩
 have hs30 := szR_int n
 have ht30 := sz_i64 n (by omega)
 refine ⟨_, _, _, rfl, hb, (hM.call hb).add h30, ?_⟩
 refine GD.call (fun _ hM => NOf_ok hM.avlt n (by first | assumption | omega)) ?_
 rintro _ _ _ hM ⟨s31, A31, n31, c31, s31_, A31_, n31_, c31_, rfl, h31, hb⟩
 have hs31 := szgR_int n
 have ht31 := szg_i64 n (by omega)
 refine ⟨_, _, _, rfl, hb, (hM.call hb).add h31, ?_⟩
 refine GD.call (fun _ hM => Same_ok hM.avlt (hM.f 1 rfl) (hM.f 0 rfl) (by first | assumption | omega) (by first | assumption | omega)) ?_
 rintro _ _ _ hM ⟨rfl, hb⟩
 refine ⟨.bool true, _, _, (ret_bool (decide_eq_true rfl)), hb, hM.call hb, ?_⟩
 refine GD.ev (.bool false) ?_
 refine GD.ev (.bool false) ?_
 refine GD.er (.agg #[.slice A23a n23a c23a, .bool m23a]) (fun _ hS => op_load_agg (off := 0) (by kernel_rfl) agg28 siz28 (hV29.bS 3 rfl hS) rfl rfl) ?_
 refine GD.er (.agg #[.int .i64 s23b, .slice A23b n23b c23b]) (fun _ hS => op_load_agg (off := 0) (by kernel_rfl) agg31 siz31 (hV29.bS 2 rfl hS) rfl rfl) ?_
 refine GD.call (fun _ hM => Whole_ok hM.avlt (hM.f 5 rfl)) ?_
 rintro _ _ _ hM ⟨A33, n33, c33, m33, A33_, n33_, c33_, rfl, h33, hb⟩
 have hs33 := szR_int (bigv xA xB xC xP)
 refine ⟨_, _, _, rfl, hb, (hM.call hb).add h33, ?_⟩
 refine GD.call (fun _ hM => NWhole_ok hM.avlt (hM.f 5 rfl)) ?_
 rintro _ _ _ hM ⟨s34, A34, n34, c34, s34_, A34_, n34_, c34_, rfl, h34, hb⟩
 have hs34 := szgR_int (bigv xA xB xC xP)
 refine ⟨_, _, _, rfl, hb, (hM.call hb).add h34, ?_⟩
 refine GD.call (fun _ hM => Same_ok hM.avlt (hM.f 1 rfl) (hM.f 0 rfl) (by first | assumption | omega) (by first | assumption | omega)) ?_
 rintro _ _ _ hM ⟨rfl, hb⟩
 refine ⟨.bool true, _, _, (ret_bool (decide_eq_true rfl)), hb, hM.call hb, ?_⟩
 refine GD.ev (.bool false) ?_
 refine GD.ev (.bool false) ?_
 refine GD.k k2 ?_
 refine CG.no ?_ rfl rfl
 refine CG.skip ?_
 refine QG.k k1 ?_
 refine CG.seq fun K_ k1 => ?_
 by_cases hc36 : d = (0 : Int)
 · have hk36 : (d == (0 : Int)) = true := beq_iff_eq.2 hc36
   refine CG.lin 9 ?_
   refine GL.v (.int .i64 n) ?_
   refine GL.v (.int .i64 d) ?_
   refine GL.call (fun _ hM => Ratio_zero hM.avlt n d (by simpa using hk36) (by first | assumption | omega) (by first | assumption | omega)) ?_
   rintro _ _ _ hM ⟨A37a, n37a, c37a, m37a, A37a_, n37a_, c37a_, rfl, h37a, hb⟩
   refine ⟨_, _, _, rfl, (hM.call hb).add h37a, ?_⟩
   refine GL.v (.tuple #[.agg #[.slice A37a n37a c37a, .bool m37a, .slice A37a_ n37a_ c37a_], .int .i64 9]) ?_
   refine GL.v (.agg #[.slice A37a n37a c37a, .bool m37a, .slice A37a_ n37a_ c37a_]) ?_
   refine GL.v (.int .i64 9) ?_
   refine GL.aA zer48 fun g38 => ?_
   refine GL.sA (cs' := #[.slice A37a n37a c37a, .bool m37a, .slice A37a_ n37a_ c37a_]) (fun _ _ => Mem.st0) (fun _ hM => hM.b 0 rfl) siz48 ?_
   refine GL.v (.int .i64 9) ?_
   refine GL.k k1 ?_
   refine CG.seq fun K_ k1 => ?_
   refine CG.seq fun K_ k2 => ?_
   refine CG.draw [] [0, 1, 2, 3, 4, 5, 6, 8, 9, 10, 11, 12, 13, 14, 15, 16, 17, 18, 19, 20, 23, 24, 25, 26] (.step 0 (.step 1 (.step 2 (.step 3 (.step 4 (.step 5 (.step 6 (.step 7 (.step 8 (.step 9 (.step 10 (.step 11 (.step 12 (.step 13 (.step 14 (.step 15 (.step 16 (.step 17 (.step 18 (.step 19 (.step 20 (.step 21 (.step 22 (.step 23 (.step 24 (.step 25 (.step 26 .done))))))))))))))))))))))))))) (fun V hV39 => ?_)
   refine GD.ev (.int .i64 d) ?_
   refine GD.ev (.bool true) ?_ (hr := fun u => op_b (b := (d == (0 : Int))) (by kernel_rfl) hk36)
   refine GD.ev (.bool true) ?_
   refine GD.ev (.int .i64 9) ?_
   refine GD.ev (.bool false) ?_
   refine GD.ev (.bool false) ?_
   refine GD.er (.agg #[.slice A37a n37a c37a, .bool m37a, .slice A37a_ n37a_ c37a_]) (fun _ hS => op_load_agg (off := 0) (by kernel_rfl) agg48 siz48 (hV39.bS 0 rfl hS) rfl rfl) ?_
   refine GD.call (fun _ hM => RSign_ok hM.avlt (hM.f 0 rfl)) ?_
   rintro _ _ _ hM ⟨rfl, hb⟩
   refine ⟨_, _, _, rfl, hb, hM.call hb, ?_⟩
   refine GD.ev (.bool false) ?_ (hr := fun u => op_b (b := (((0 : Rat).num.sign) != (0 : Int))) (by kernel_rfl) rfl)
   refine GD.ev (.bool false) ?_
   refine GD.ev (.bool false) ?_
   refine GD.ev (.bool false) ?_
   refine GD.ev (.int .i64 d) ?_
   refine GD.ev (.bool false) ?_ (hr := fun u => op_b (b := (d != (0 : Int))) (by kernel_rfl) (by unfold bne; rw [hk36]; rfl))
   refine GD.ev (.bool false) ?_
   refine GD.eo ?_
   refine GD.eo ?_
   refine GD.eo ?_
   refine GD.eo ?_
   refine GD.eo ?_
   refine GD.eo ?_
   refine GD.sk ?_
   refine GD.sk ?_
   refine GD.eo ?_
   refine GD.eo ?_
   refine GD.ev (.bool false) ?_
   refine GD.ev (.bool false) ?_
   refine GD.k k2 ?_
   refine CG.no ?_ rfl rfl
   refine CG.skip ?_
   refine QG.k k1 ?_
   refine CG.seq fun K_ k1 => ?_
   by_cases hc41 : bigv yA yB yC yP = 0
   · have hk41 : (decide (bigv yA yB yC yP = 0)) = true := decide_eq_true hc41
     refine CG.lin 9 ?_
     refine GL.r (.agg #[.slice A23a n23a c23a, .bool m23a]) (fun _ hM => op_load_agg (off := 0) (by kernel_rfl) agg28 siz28 (hM.b 4 rfl) rfl rfl) ?_
     refine GL.r (.agg #[.slice A26a n26a c26a, .bool m26a]) (fun _ hM => op_load_agg (off := 0) (by kernel_rfl) agg28 siz28 (hM.b 2 rfl) rfl rfl) ?_
     refine GL.call (fun _ hM => OfZ_zero hM.avlt (hM.f 8 rfl) (hM.f 6 rfl) (of_decide_eq_true hk41)) ?_
     rintro _ _ _ hM ⟨A42a, n42a, c42a, m42a, A42a_, n42a_, c42a_, rfl, h42a, hb⟩
     refine ⟨_, _, _, rfl, (hM.call hb).add h42a, ?_⟩
     refine GL.v (.tuple #[.agg #[.slice A42a n42a c42a, .bool m42a, .slice A42a_ n42a_ c42a_], .int .i64 9]) ?_
     refine GL.v (.agg #[.slice A42a n42a c42a, .bool m42a, .slice A42a_ n42a_ c42a_]) ?_
     refine GL.v (.int .i64 9) ?_
     refine GL.aA zer48 fun g43 => ?_
     refine GL.sA (cs' := #[.slice A42a n42a c42a, .bool m42a, .slice A42a_ n42a_ c42a_]) (fun _ _ => Mem.st0) (fun _ hM => hM.b 0 rfl) siz48 ?_
     refine GL.v (.int .i64 9) ?_
     refine GL.k k1 ?_
     refine CG.seq fun K_ k1 => ?_
     refine CG.seq fun K_ k2 => ?_
     refine CG.lin 3 ?_
     refine GL.v (.pointer (some ⟨g28, 0, none⟩)) ?_
     refine GL.r (.int .i64 s26b) (fun _ hM => op_load_one (off := 0) (by kernel_rfl) agg3 (hM.b 2 rfl) rfl) ?_
     refine GL.v (.bool true) ?_ (hr := fun u => op_b (b := (s26b == (0 : Int))) (by kernel_rfl) (by rw [hsg26, of_decide_eq_true hk41]; rfl))
     refine GL.k k2 ?_
     refine CG.yes ?_ rfl rfl
     refine CG.seq fun K_ k2 => ?_
     refine CG.lin 11 ?_
     refine GL.v (.int .i64 9) ?_
     refine GL.v (.bool true) ?_
     refine GL.v (.bool true) ?_
     refine GL.r (.agg #[.slice A42a n42a c42a, .bool m42a, .slice A42a_ n42a_ c42a_]) (fun _ hM => op_load_agg (off := 0) (by kernel_rfl) agg48 siz48 (hM.b 0 rfl) rfl rfl) ?_
     refine GL.call (fun _ hM => RSign_ok hM.avlt (hM.f 0 rfl)) ?_
     rintro _ _ _ hM ⟨rfl, hb⟩
     refine ⟨_, _, _, rfl, hM.call hb, ?_⟩
     refine GL.v (.bool true) ?_ (hr := fun u => op_b (b := (((0 : Rat).num.sign) == (0 : Int))) (by kernel_rfl) rfl)
     refine GL.v (.bool true) ?_
     refine GL.v (.bool true) ?_
     refine GL.call (fun _ hM => awake_ok hM.avlt) ?_
     rintro _ _ _ hM ⟨rfl, hb⟩
     refine ⟨_, _, _, rfl, hM.call hb, ?_⟩
     refine GL.v (.bool true) ?_
     refine GL.v (.bool true) ?_
     refine GL.k k2 ?_
     refine CG.ret (QG.then_ret (QG.ret (fun _ hM => results_one rfl (res_tmp rfl)) ?_))
     intro _ hM
     exact ⟨rfl, hM.below⟩
   · have hk41 : (decide (bigv yA yB yC yP = 0)) = false := decide_eq_false hc41
     refine CG.lin 9 ?_
     refine GL.r (.agg #[.slice A23a n23a c23a, .bool m23a]) (fun _ hM => op_load_agg (off := 0) (by kernel_rfl) agg28 siz28 (hM.b 4 rfl) rfl rfl) ?_
     refine GL.r (.agg #[.slice A26a n26a c26a, .bool m26a]) (fun _ hM => op_load_agg (off := 0) (by kernel_rfl) agg28 siz28 (hM.b 2 rfl) rfl rfl) ?_
     refine GL.call (fun _ hM => OfZ_ok hM.avlt (hM.f 8 rfl) (hM.f 6 rfl) (of_decide_eq_false hk41) (by first | assumption | omega)) ?_
     rintro _ _ _ hM ⟨A46a, n46a, c46a, m46a, A46a_, n46a_, c46a_, rfl, h46a, hb⟩
     have hs46 := szR_divInt2 (bigv xA xB xC xP) (bigv yA yB yC yP)
     refine ⟨_, _, _, rfl, (hM.call hb).add h46a, ?_⟩
     refine GL.v (.tuple #[.agg #[.slice A46a n46a c46a, .bool m46a, .slice A46a_ n46a_ c46a_], .int .i64 0]) ?_
     refine GL.v (.agg #[.slice A46a n46a c46a, .bool m46a, .slice A46a_ n46a_ c46a_]) ?_
     refine GL.v (.int .i64 0) ?_
     refine GL.aA zer48 fun g47 => ?_
     refine GL.sA (cs' := #[.slice A46a n46a c46a, .bool m46a, .slice A46a_ n46a_ c46a_]) (fun _ _ => Mem.st0) (fun _ hM => hM.b 0 rfl) siz48 ?_
     refine GL.v (.int .i64 0) ?_
     refine GL.k k1 ?_
     refine CG.seq fun K_ k1 => ?_
     refine CG.seq fun K_ k2 => ?_
     refine CG.lin 3 ?_
     refine GL.v (.pointer (some ⟨g28, 0, none⟩)) ?_
     refine GL.r (.int .i64 s26b) (fun _ hM => op_load_one (off := 0) (by kernel_rfl) agg3 (hM.b 2 rfl) rfl) ?_
     refine GL.v (.bool false) ?_ (hr := fun u => op_b (b := (s26b == (0 : Int))) (by kernel_rfl) (by rw [hsg26]; exact sgn_neq (of_decide_eq_false hk41)))
     refine GL.k k2 ?_
     refine CG.no ?_ rfl rfl
     refine CG.skip ?_
     refine QG.k k1 ?_
     refine CG.seq fun K_ k1 => ?_
     refine CG.lin 5 ?_
     refine GL.r (.agg #[.int .i64 s23b, .slice A23b n23b c23b]) (fun _ hM => op_load_agg (off := 0) (by kernel_rfl) agg31 siz31 (hM.b 4 rfl) rfl rfl) ?_
     refine GL.r (.agg #[.int .i64 s26b, .slice A26b n26b c26b]) (fun _ hM => op_load_agg (off := 0) (by kernel_rfl) agg31 siz31 (hM.b 2 rfl) rfl rfl) ?_
     refine GL.call (fun _ hM => NOfZ_ok hM.avlt (hM.f 8 rfl) (hM.f 6 rfl) (of_decide_eq_false hk41) (by first | assumption | omega)) ?_
     rintro _ _ _ hM ⟨s48, A48, n48, c48, s48_, A48_, n48_, c48_, rfl, h48, hb⟩
     have hs48 := szgR_divInt2 (bigv xA xB xC xP) (bigv yA yB yC yP)
     refine ⟨_, _, _, rfl, (hM.call hb).add h48, ?_⟩
     refine GL.aA zer54 fun g49 => ?_
     refine GL.sA (cs' := #[.int .i64 s48, .slice A48 n48 c48, .int .i64 s48_, .slice A48_ n48_ c48_]) (fun _ _ => Mem.st0) (fun _ hM => hM.b 0 rfl) siz54 ?_
     refine GL.k k1 ?_
     refine CG.seq fun K_ k1 => ?_
     refine CG.draw [] [0, 1, 2, 3, 4, 6, 7, 8, 10, 13, 14, 15, 17, 20, 21, 22, 24, 27, 28, 29, 31, 34, 35, 37] (.step 0 (.step 1 (.step 2 (.step 3 (.step 4 (.step 5 (.step 6 (.step 7 (.step 8 (.step 10 (.step 9 (.step 11 (.step 12 (.step 13 (.step 14 (.step 15 (.step 17 (.step 16 (.step 18 (.step 19 (.step 20 (.step 21 (.step 22 (.step 24 (.step 23 (.step 25 (.step 26 (.step 27 (.step 28 (.step 29 (.step 31 (.step 30 (.step 32 (.step 33 (.step 34 (.step 35 (.step 36 (.step 37 (.step 38 .done))))))))))))))))))))))))))))))))))))))) (fun V hV50 => ?_)
     refine GD.ev (.int .i64 0) ?_
     refine GD.ev (.bool true) ?_
     refine GD.ev (.bool true) ?_
     refine GD.er (.agg #[.slice A46a n46a c46a, .bool m46a, .slice A46a_ n46a_ c46a_]) (fun _ hS => op_load_agg (off := 0) (by kernel_rfl) agg48 siz48 (hV50.bS 1 rfl hS) rfl rfl) ?_
     refine GD.er (.agg #[.int .i64 s48, .slice A48 n48 c48, .int .i64 s48_, .slice A48_ n48_ c48_]) (fun _ hS => op_load_agg (off := 0) (by kernel_rfl) agg54 siz54 (hV50.bS 0 rfl hS) rfl rfl) ?_
     refine GD.call (fun _ hM => Same_ok hM.avlt (hM.f 1 rfl) (hM.f 0 rfl) (by first | assumption | omega) (by first | assumption | omega)) ?_
     rintro _ _ _ hM ⟨rfl, hb⟩
     refine ⟨.bool true, _, _, (ret_bool (decide_eq_true rfl)), hb, hM.call hb, ?_⟩
     refine GD.ev (.bool true) ?_
     refine GD.ev (.bool true) ?_
     refine GD.er (.agg #[.slice A46a n46a c46a, .bool m46a, .slice A46a_ n46a_ c46a_]) (fun _ hS => op_load_agg (off := 0) (by kernel_rfl) agg48 siz48 (hV50.bS 1 rfl hS) rfl rfl) ?_
     refine GD.er (.agg #[.int .i64 s48, .slice A48 n48 c48, .int .i64 s48_, .slice A48_ n48_ c48_]) (fun _ hS => op_load_agg (off := 0) (by kernel_rfl) agg54 siz54 (hV50.bS 0 rfl hS) rfl rfl) ?_
     refine GD.call (fun _ hM => Num_ok hM.avlt (hM.f 1 rfl)) ?_
     rintro _ _ _ hM ⟨A52, n52, c52, m52, rfl, h52, hb⟩
     have hs52 := szR_num ((Rat.divInt (bigv xA xB xC xP) (bigv yA yB yC yP)))
     refine ⟨_, _, _, rfl, hb, (hM.call hb).add h52, ?_⟩
     refine GD.call (fun _ hM => NNum_ok hM.avlt (hM.f 1 rfl)) ?_
     rintro _ _ _ hM ⟨s53, A53, n53, c53, rfl, h53, hb⟩
     have hs53 := szgR_num ((Rat.divInt (bigv xA xB xC xP) (bigv yA yB yC yP)))
     refine ⟨_, _, _, rfl, hb, (hM.call hb).add h53, ?_⟩
     refine GD.call (fun _ hM => SameZ_ok hM.avlt (hM.f 1 rfl) (hM.f 0 rfl) (by first | assumption | omega) (by first | assumption | omega)) ?_
     rintro _ _ _ hM ⟨rfl, hb⟩
     refine ⟨.bool true, _, _, (ret_bool (decide_eq_true rfl)), hb, hM.call hb, ?_⟩
     refine GD.ev (.bool true) ?_
     refine GD.ev (.bool true) ?_
     refine GD.er (.agg #[.slice A46a n46a c46a, .bool m46a, .slice A46a_ n46a_ c46a_]) (fun _ hS => op_load_agg (off := 0) (by kernel_rfl) agg48 siz48 (hV50.bS 1 rfl hS) rfl rfl) ?_
     refine GD.er (.agg #[.int .i64 s48, .slice A48 n48 c48, .int .i64 s48_, .slice A48_ n48_ c48_]) (fun _ hS => op_load_agg (off := 0) (by kernel_rfl) agg54 siz54 (hV50.bS 0 rfl hS) rfl rfl) ?_
     refine GD.call (fun _ hM => Den_ok hM.avlt (hM.f 3 rfl) (by first | assumption | omega)) ?_
     rintro _ _ _ hM ⟨A55, n55, c55, m55, rfl, h55, hb⟩
     have hs55 := sz_nat ((Rat.divInt (bigv xA xB xC xP) (bigv yA yB yC yP))).den
     have ht55 := szR_den ((Rat.divInt (bigv xA xB xC xP) (bigv yA yB yC yP)))
     refine ⟨_, _, _, rfl, hb, (hM.call hb).add h55, ?_⟩
     refine GD.call (fun _ hM => NDen_ok hM.avlt (hM.f 3 rfl)) ?_
     rintro _ _ _ hM ⟨s56, A56, n56, c56, rfl, h56, hb⟩
     have hs56 := szgR_den ((Rat.divInt (bigv xA xB xC xP) (bigv yA yB yC yP)))
     refine ⟨_, _, _, rfl, hb, (hM.call hb).add h56, ?_⟩
     refine GD.call (fun _ hM => SameZ_ok hM.avlt (hM.f 1 rfl) (hM.f 0 rfl) (by first | assumption | omega) (by first | assumption | omega)) ?_
     rintro _ _ _ hM ⟨rfl, hb⟩
     refine ⟨.bool true, _, _, (ret_bool (decide_eq_true rfl)), hb, hM.call hb, ?_⟩
     refine GD.ev (.bool true) ?_
     refine GD.ev (.bool true) ?_
     refine GD.er (.agg #[.slice A46a n46a c46a, .bool m46a, .slice A46a_ n46a_ c46a_]) (fun _ hS => op_load_agg (off := 0) (by kernel_rfl) agg48 siz48 (hV50.bS 1 rfl hS) rfl rfl) ?_
     refine GD.er (.agg #[.int .i64 s48, .slice A48 n48 c48, .int .i64 s48_, .slice A48_ n48_ c48_]) (fun _ hS => op_load_agg (off := 0) (by kernel_rfl) agg54 siz54 (hV50.bS 0 rfl hS) rfl rfl) ?_
     refine GD.call (fun _ hM => Floor_ok hM.avlt (hM.f 5 rfl) (by first | assumption | omega)) ?_
     rintro _ _ _ hM ⟨A58, n58, c58, m58, rfl, h58, hb⟩
     have hs58 := sz_floor ((Rat.divInt (bigv xA xB xC xP) (bigv yA yB yC yP)))
     refine ⟨_, _, _, rfl, hb, (hM.call hb).add h58, ?_⟩
     refine GD.call (fun _ hM => NFloor_ok hM.avlt (hM.f 5 rfl) (by first | assumption | omega)) ?_
     rintro _ _ _ hM ⟨s59, A59, n59, c59, rfl, h59, hb⟩
     have hs59 := szg_floor ((Rat.divInt (bigv xA xB xC xP) (bigv yA yB yC yP)))
     refine ⟨_, _, _, rfl, hb, (hM.call hb).add h59, ?_⟩
     refine GD.call (fun _ hM => SameZ_ok hM.avlt (hM.f 1 rfl) (hM.f 0 rfl) (by first | assumption | omega) (by first | assumption | omega)) ?_
     rintro _ _ _ hM ⟨rfl, hb⟩
     refine ⟨.bool true, _, _, (ret_bool (decide_eq_true rfl)), hb, hM.call hb, ?_⟩
     refine GD.ev (.bool true) ?_
     refine GD.ev (.bool true) ?_
     refine GD.er (.agg #[.slice A46a n46a c46a, .bool m46a, .slice A46a_ n46a_ c46a_]) (fun _ hS => op_load_agg (off := 0) (by kernel_rfl) agg48 siz48 (hV50.bS 1 rfl hS) rfl rfl) ?_
     refine GD.er (.agg #[.int .i64 s48, .slice A48 n48 c48, .int .i64 s48_, .slice A48_ n48_ c48_]) (fun _ hS => op_load_agg (off := 0) (by kernel_rfl) agg54 siz54 (hV50.bS 0 rfl hS) rfl rfl) ?_
     refine GD.call (fun _ hM => Ceil_ok hM.avlt (hM.f 7 rfl) (by first | assumption | omega)) ?_
     rintro _ _ _ hM ⟨A61, n61, c61, m61, rfl, h61, hb⟩
     have hs61 := sz_ceil ((Rat.divInt (bigv xA xB xC xP) (bigv yA yB yC yP)))
     refine ⟨_, _, _, rfl, hb, (hM.call hb).add h61, ?_⟩
     refine GD.call (fun _ hM => NCeil_ok hM.avlt (hM.f 7 rfl) (by first | assumption | omega)) ?_
     rintro _ _ _ hM ⟨s62, A62, n62, c62, rfl, h62, hb⟩
     have hs62 := szg_ceil ((Rat.divInt (bigv xA xB xC xP) (bigv yA yB yC yP)))
     refine ⟨_, _, _, rfl, hb, (hM.call hb).add h62, ?_⟩
     refine GD.call (fun _ hM => SameZ_ok hM.avlt (hM.f 1 rfl) (hM.f 0 rfl) (by first | assumption | omega) (by first | assumption | omega)) ?_
     rintro _ _ _ hM ⟨rfl, hb⟩
     refine ⟨.bool true, _, _, (ret_bool (decide_eq_true rfl)), hb, hM.call hb, ?_⟩
     refine GD.ev (.bool true) ?_
     refine GD.ev (.bool true) ?_
     refine GD.call (fun _ hM => awake_ok hM.avlt) ?_
     rintro _ _ _ hM ⟨rfl, hb⟩
     refine ⟨_, _, _, rfl, hb, hM.call hb, ?_⟩
     refine GD.ev (.bool true) ?_
     refine GD.v (.bool true) ?_
     refine GD.k k1 ?_
     refine CG.ret (QG.ret (fun _ hM => results_one rfl (res_tmp rfl)) ?_)
     intro _ hM
     exact ⟨rfl, hM.below⟩
 · have hk36 : (d == (0 : Int)) = false := beq_eq_false_iff_ne.2 hc36
   refine CG.lin 9 ?_
   refine GL.v (.int .i64 n) ?_
   refine GL.v (.int .i64 d) ?_
   refine GL.call (fun _ hM => Ratio_ok hM.avlt n d (by simpa using hk36) (by first | assumption | omega) (by first | assumption | omega)) ?_
   rintro _ _ _ hM ⟨A65a, n65a, c65a, m65a, A65a_, n65a_, c65a_, rfl, h65a, hb⟩
   have hs65 := szR_divInt2 n d
   have ht65 := sz_i64 n (by omega)
   have hu65 := sz_i64 d (by omega)
   refine ⟨_, _, _, rfl, (hM.call hb).add h65a, ?_⟩
   refine GL.v (.tuple #[.agg #[.slice A65a n65a c65a, .bool m65a, .slice A65a_ n65a_ c65a_], .int .i64 0]) ?_
   refine GL.v (.agg #[.slice A65a n65a c65a, .bool m65a, .slice A65a_ n65a_ c65a_]) ?_
   refine GL.v (.int .i64 0) ?_
   refine GL.aA zer48 fun g66 => ?_
   refine GL.sA (cs' := #[.slice A65a n65a c65a, .bool m65a, .slice A65a_ n65a_ c65a_]) (fun _ _ => Mem.st0) (fun _ hM => hM.b 0 rfl) siz48 ?_
   refine GL.v (.int .i64 0) ?_
   refine GL.k k1 ?_
   refine CG.seq fun K_ k1 => ?_
   refine CG.seq fun K_ k2 => ?_
   refine CG.draw [] [0, 1, 2, 3, 4, 5, 6, 8, 9, 10, 11, 12, 13, 14, 15, 16, 17, 18, 19, 20, 23, 24, 25, 26] (.step 0 (.step 1 (.step 2 (.step 3 (.step 4 (.step 5 (.step 6 (.step 7 (.step 8 (.step 9 (.step 10 (.step 11 (.step 12 (.step 13 (.step 14 (.step 15 (.step 16 (.step 17 (.step 18 (.step 19 (.step 20 (.step 21 (.step 22 (.step 23 (.step 24 (.step 25 (.step 26 .done))))))))))))))))))))))))))) (fun V hV67 => ?_)
   refine GD.ev (.int .i64 d) ?_
   refine GD.ev (.bool false) ?_ (hr := fun u => op_b (b := (d == (0 : Int))) (by kernel_rfl) hk36)
   refine GD.ev (.bool false) ?_
   refine GD.eo ?_
   refine GD.eo ?_
   refine GD.eo ?_
   refine GD.eo ?_
   refine GD.sk ?_
   refine GD.eo ?_
   refine GD.eo ?_
   refine GD.ev (.bool false) ?_
   refine GD.ev (.bool false) ?_
   refine GD.ev (.int .i64 d) ?_
   refine GD.ev (.bool true) ?_ (hr := fun u => op_b (b := (d != (0 : Int))) (by kernel_rfl) (by unfold bne; rw [hk36]; rfl))
   refine GD.ev (.bool true) ?_
   refine GD.ev (.int .i64 0) ?_
   refine GD.ev (.bool false) ?_
   refine GD.ev (.bool false) ?_
   refine GD.er (.agg #[.slice A65a n65a c65a, .bool m65a, .slice A65a_ n65a_ c65a_]) (fun _ hS => op_load_agg (off := 0) (by kernel_rfl) agg48 siz48 (hV67.bS 0 rfl hS) rfl rfl) ?_
   refine GD.ev (.int .i64 n) ?_
   refine GD.ev (.int .i64 d) ?_
   refine GD.call (fun _ hM => NRatio_ok hM.avlt n d (by simpa using hk36) (by first | assumption | omega) (by first | assumption | omega)) ?_
   rintro _ _ _ hM ⟨s68, A68, n68, c68, s68_, A68_, n68_, c68_, rfl, h68, hb⟩
   have hs68 := szgR_divInt2 n d
   have ht68 := szg_i64 n (by omega)
   have hu68 := szg_i64 d (by omega)
   refine ⟨_, _, _, rfl, hb, (hM.call hb).add h68, ?_⟩
   refine GD.call (fun _ hM => Same_ok hM.avlt (hM.f 1 rfl) (hM.f 0 rfl) (by first | assumption | omega) (by first | assumption | omega)) ?_
   rintro _ _ _ hM ⟨rfl, hb⟩
   refine ⟨.bool true, _, _, (ret_bool (decide_eq_true rfl)), hb, hM.call hb, ?_⟩
   refine GD.ev (.bool false) ?_
   refine GD.ev (.bool false) ?_
   refine GD.ev (.bool false) ?_
   refine GD.ev (.bool false) ?_
   refine GD.k k2 ?_
   refine CG.no ?_ rfl rfl
   refine CG.skip ?_
   refine QG.k k1 ?_
   refine CG.seq fun K_ k1 => ?_
   by_cases hc70 : bigv yA yB yC yP = 0
   · have hk70 : (decide (bigv yA yB yC yP = 0)) = true := decide_eq_true hc70
     refine CG.lin 9 ?_
     refine GL.r (.agg #[.slice A23a n23a c23a, .bool m23a]) (fun _ hM => op_load_agg (off := 0) (by kernel_rfl) agg28 siz28 (hM.b 4 rfl) rfl rfl) ?_
     refine GL.r (.agg #[.slice A26a n26a c26a, .bool m26a]) (fun _ hM => op_load_agg (off := 0) (by kernel_rfl) agg28 siz28 (hM.b 2 rfl) rfl rfl) ?_
     refine GL.call (fun _ hM => OfZ_zero hM.avlt (hM.f 9 rfl) (hM.f 7 rfl) (of_decide_eq_true hk70)) ?_
     rintro _ _ _ hM ⟨A71a, n71a, c71a, m71a, A71a_, n71a_, c71a_, rfl, h71a, hb⟩
     refine ⟨_, _, _, rfl, (hM.call hb).add h71a, ?_⟩
     refine GL.v (.tuple #[.agg #[.slice A71a n71a c71a, .bool m71a, .slice A71a_ n71a_ c71a_], .int .i64 9]) ?_
     refine GL.v (.agg #[.slice A71a n71a c71a, .bool m71a, .slice A71a_ n71a_ c71a_]) ?_
     refine GL.v (.int .i64 9) ?_
     refine GL.aA zer48 fun g72 => ?_
     refine GL.sA (cs' := #[.slice A71a n71a c71a, .bool m71a, .slice A71a_ n71a_ c71a_]) (fun _ _ => Mem.st0) (fun _ hM => hM.b 0 rfl) siz48 ?_
     refine GL.v (.int .i64 9) ?_
     refine GL.k k1 ?_
     refine CG.seq fun K_ k1 => ?_
     refine CG.seq fun K_ k2 => ?_
     refine CG.lin 3 ?_
     refine GL.v (.pointer (some ⟨g28, 0, none⟩)) ?_
     refine GL.r (.int .i64 s26b) (fun _ hM => op_load_one (off := 0) (by kernel_rfl) agg3 (hM.b 2 rfl) rfl) ?_
     refine GL.v (.bool true) ?_ (hr := fun u => op_b (b := (s26b == (0 : Int))) (by kernel_rfl) (by rw [hsg26, of_decide_eq_true hk70]; rfl))
     refine GL.k k2 ?_
     refine CG.yes ?_ rfl rfl
     refine CG.seq fun K_ k2 => ?_
     refine CG.lin 11 ?_
     refine GL.v (.int .i64 9) ?_
     refine GL.v (.bool true) ?_
     refine GL.v (.bool true) ?_
     refine GL.r (.agg #[.slice A71a n71a c71a, .bool m71a, .slice A71a_ n71a_ c71a_]) (fun _ hM => op_load_agg (off := 0) (by kernel_rfl) agg48 siz48 (hM.b 0 rfl) rfl rfl) ?_
     refine GL.call (fun _ hM => RSign_ok hM.avlt (hM.f 0 rfl)) ?_
     rintro _ _ _ hM ⟨rfl, hb⟩
     refine ⟨_, _, _, rfl, hM.call hb, ?_⟩
     refine GL.v (.bool true) ?_ (hr := fun u => op_b (b := (((0 : Rat).num.sign) == (0 : Int))) (by kernel_rfl) rfl)
     refine GL.v (.bool true) ?_
     refine GL.v (.bool true) ?_
     refine GL.call (fun _ hM => awake_ok hM.avlt) ?_
     rintro _ _ _ hM ⟨rfl, hb⟩
     refine ⟨_, _, _, rfl, hM.call hb, ?_⟩
     refine GL.v (.bool true) ?_
     refine GL.v (.bool true) ?_
     refine GL.k k2 ?_
     refine CG.ret (QG.then_ret (QG.ret (fun _ hM => results_one rfl (res_tmp rfl)) ?_))
     intro _ hM
     exact ⟨rfl, hM.below⟩
   · have hk70 : (decide (bigv yA yB yC yP = 0)) = false := decide_eq_false hc70
     refine CG.lin 9 ?_
     refine GL.r (.agg #[.slice A23a n23a c23a, .bool m23a]) (fun _ hM => op_load_agg (off := 0) (by kernel_rfl) agg28 siz28 (hM.b 4 rfl) rfl rfl) ?_
     refine GL.r (.agg #[.slice A26a n26a c26a, .bool m26a]) (fun _ hM => op_load_agg (off := 0) (by kernel_rfl) agg28 siz28 (hM.b 2 rfl) rfl rfl) ?_
     refine GL.call (fun _ hM => OfZ_ok hM.avlt (hM.f 9 rfl) (hM.f 7 rfl) (of_decide_eq_false hk70) (by first | assumption | omega)) ?_
     rintro _ _ _ hM ⟨A75a, n75a, c75a, m75a, A75a_, n75a_, c75a_, rfl, h75a, hb⟩
     have hs75 := szR_divInt2 (bigv xA xB xC xP) (bigv yA yB yC yP)
     refine ⟨_, _, _, rfl, (hM.call hb).add h75a, ?_⟩
     refine GL.v (.tuple #[.agg #[.slice A75a n75a c75a, .bool m75a, .slice A75a_ n75a_ c75a_], .int .i64 0]) ?_
     refine GL.v (.agg #[.slice A75a n75a c75a, .bool m75a, .slice A75a_ n75a_ c75a_]) ?_
     refine GL.v (.int .i64 0) ?_
     refine GL.aA zer48 fun g76 => ?_
     refine GL.sA (cs' := #[.slice A75a n75a c75a, .bool m75a, .slice A75a_ n75a_ c75a_]) (fun _ _ => Mem.st0) (fun _ hM => hM.b 0 rfl) siz48 ?_
     refine GL.v (.int .i64 0) ?_
     refine GL.k k1 ?_
     refine CG.seq fun K_ k1 => ?_
     refine CG.seq fun K_ k2 => ?_
     refine CG.lin 3 ?_
     refine GL.v (.pointer (some ⟨g28, 0, none⟩)) ?_
     refine GL.r (.int .i64 s26b) (fun _ hM => op_load_one (off := 0) (by kernel_rfl) agg3 (hM.b 2 rfl) rfl) ?_
     refine GL.v (.bool false) ?_ (hr := fun u => op_b (b := (s26b == (0 : Int))) (by kernel_rfl) (by rw [hsg26]; exact sgn_neq (of_decide_eq_false hk70)))
     refine GL.k k2 ?_
     refine CG.no ?_ rfl rfl
     refine CG.skip ?_
     refine QG.k k1 ?_
     refine CG.seq fun K_ k1 => ?_
     refine CG.lin 5 ?_
     refine GL.r (.agg #[.int .i64 s23b, .slice A23b n23b c23b]) (fun _ hM => op_load_agg (off := 0) (by kernel_rfl) agg31 siz31 (hM.b 4 rfl) rfl rfl) ?_
     refine GL.r (.agg #[.int .i64 s26b, .slice A26b n26b c26b]) (fun _ hM => op_load_agg (off := 0) (by kernel_rfl) agg31 siz31 (hM.b 2 rfl) rfl rfl) ?_
     refine GL.call (fun _ hM => NOfZ_ok hM.avlt (hM.f 9 rfl) (hM.f 7 rfl) (of_decide_eq_false hk70) (by first | assumption | omega)) ?_
     rintro _ _ _ hM ⟨s77, A77, n77, c77, s77_, A77_, n77_, c77_, rfl, h77, hb⟩
     have hs77 := szgR_divInt2 (bigv xA xB xC xP) (bigv yA yB yC yP)
     refine ⟨_, _, _, rfl, (hM.call hb).add h77, ?_⟩
     refine GL.aA zer54 fun g78 => ?_
     refine GL.sA (cs' := #[.int .i64 s77, .slice A77 n77 c77, .int .i64 s77_, .slice A77_ n77_ c77_]) (fun _ _ => Mem.st0) (fun _ hM => hM.b 0 rfl) siz54 ?_
     refine GL.k k1 ?_
     refine CG.seq fun K_ k1 => ?_
     refine CG.draw [] [0, 1, 2, 3, 4, 6, 7, 8, 10, 13, 14, 15, 17, 20, 21, 22, 24, 27, 28, 29, 31, 34, 35, 37] (.step 0 (.step 1 (.step 2 (.step 3 (.step 4 (.step 5 (.step 6 (.step 7 (.step 8 (.step 10 (.step 9 (.step 11 (.step 12 (.step 13 (.step 14 (.step 15 (.step 17 (.step 16 (.step 18 (.step 19 (.step 20 (.step 21 (.step 22 (.step 24 (.step 23 (.step 25 (.step 26 (.step 27 (.step 28 (.step 29 (.step 31 (.step 30 (.step 32 (.step 33 (.step 34 (.step 35 (.step 36 (.step 37 (.step 38 .done))))))))))))))))))))))))))))))))))))))) (fun V hV79 => ?_)
     refine GD.ev (.int .i64 0) ?_
     refine GD.ev (.bool true) ?_
     refine GD.ev (.bool true) ?_
     refine GD.er (.agg #[.slice A75a n75a c75a, .bool m75a, .slice A75a_ n75a_ c75a_]) (fun _ hS => op_load_agg (off := 0) (by kernel_rfl) agg48 siz48 (hV79.bS 1 rfl hS) rfl rfl) ?_
     refine GD.er (.agg #[.int .i64 s77, .slice A77 n77 c77, .int .i64 s77_, .slice A77_ n77_ c77_]) (fun _ hS => op_load_agg (off := 0) (by kernel_rfl) agg54 siz54 (hV79.bS 0 rfl hS) rfl rfl) ?_
     refine GD.call (fun _ hM => Same_ok hM.avlt (hM.f 1 rfl) (hM.f 0 rfl) (by first | assumption | omega) (by first | assumption | omega)) ?_
     rintro _ _ _ hM ⟨rfl, hb⟩
     refine ⟨.bool true, _, _, (ret_bool (decide_eq_true rfl)), hb, hM.call hb, ?_⟩
     refine GD.ev (.bool true) ?_
     refine GD.ev (.bool true) ?_
     refine GD.er (.agg #[.slice A75a n75a c75a, .bool m75a, .slice A75a_ n75a_ c75a_]) (fun _ hS => op_load_agg (off := 0) (by kernel_rfl) agg48 siz48 (hV79.bS 1 rfl hS) rfl rfl) ?_
     refine GD.er (.agg #[.int .i64 s77, .slice A77 n77 c77, .int .i64 s77_, .slice A77_ n77_ c77_]) (fun _ hS => op_load_agg (off := 0) (by kernel_rfl) agg54 siz54 (hV79.bS 0 rfl hS) rfl rfl) ?_
     refine GD.call (fun _ hM => Num_ok hM.avlt (hM.f 1 rfl)) ?_
     rintro _ _ _ hM ⟨A81, n81, c81, m81, rfl, h81, hb⟩
     have hs81 := szR_num ((Rat.divInt (bigv xA xB xC xP) (bigv yA yB yC yP)))
     refine ⟨_, _, _, rfl, hb, (hM.call hb).add h81, ?_⟩
     refine GD.call (fun _ hM => NNum_ok hM.avlt (hM.f 1 rfl)) ?_
     rintro _ _ _ hM ⟨s82, A82, n82, c82, rfl, h82, hb⟩
     have hs82 := szgR_num ((Rat.divInt (bigv xA xB xC xP) (bigv yA yB yC yP)))
     refine ⟨_, _, _, rfl, hb, (hM.call hb).add h82, ?_⟩
     refine GD.call (fun _ hM => SameZ_ok hM.avlt (hM.f 1 rfl) (hM.f 0 rfl) (by first | assumption | omega) (by first | assumption | omega)) ?_
     rintro _ _ _ hM ⟨rfl, hb⟩
     refine ⟨.bool true, _, _, (ret_bool (decide_eq_true rfl)), hb, hM.call hb, ?_⟩
     refine GD.ev (.bool true) ?_
     refine GD.ev (.bool true) ?_
     refine GD.er (.agg #[.slice A75a n75a c75a, .bool m75a, .slice A75a_ n75a_ c75a_]) (fun _ hS => op_load_agg (off := 0) (by kernel_rfl) agg48 siz48 (hV79.bS 1 rfl hS) rfl rfl) ?_
     refine GD.er (.agg #[.int .i64 s77, .slice A77 n77 c77, .int .i64 s77_, .slice A77_ n77_ c77_]) (fun _ hS => op_load_agg (off := 0) (by kernel_rfl) agg54 siz54 (hV79.bS 0 rfl hS) rfl rfl) ?_
     refine GD.call (fun _ hM => Den_ok hM.avlt (hM.f 3 rfl) (by first | assumption | omega)) ?_
     rintro _ _ _ hM ⟨A84, n84, c84, m84, rfl, h84, hb⟩
     have hs84 := sz_nat ((Rat.divInt (bigv xA xB xC xP) (bigv yA yB yC yP))).den
     have ht84 := szR_den ((Rat.divInt (bigv xA xB xC xP) (bigv yA yB yC yP)))
     refine ⟨_, _, _, rfl, hb, (hM.call hb).add h84, ?_⟩
     refine GD.call (fun _ hM => NDen_ok hM.avlt (hM.f 3 rfl)) ?_
     rintro _ _ _ hM ⟨s85, A85, n85, c85, rfl, h85, hb⟩
     have hs85 := szgR_den ((Rat.divInt (bigv xA xB xC xP) (bigv yA yB yC yP)))
     refine ⟨_, _, _, rfl, hb, (hM.call hb).add h85, ?_⟩
     refine GD.call (fun _ hM => SameZ_ok hM.avlt (hM.f 1 rfl) (hM.f 0 rfl) (by first | assumption | omega) (by first | assumption | omega)) ?_
     rintro _ _ _ hM ⟨rfl, hb⟩
     refine ⟨.bool true, _, _, (ret_bool (decide_eq_true rfl)), hb, hM.call hb, ?_⟩
     refine GD.ev (.bool true) ?_
     refine GD.ev (.bool true) ?_
     refine GD.er (.agg #[.slice A75a n75a c75a, .bool m75a, .slice A75a_ n75a_ c75a_]) (fun _ hS => op_load_agg (off := 0) (by kernel_rfl) agg48 siz48 (hV79.bS 1 rfl hS) rfl rfl) ?_
     refine GD.er (.agg #[.int .i64 s77, .slice A77 n77 c77, .int .i64 s77_, .slice A77_ n77_ c77_]) (fun _ hS => op_load_agg (off := 0) (by kernel_rfl) agg54 siz54 (hV79.bS 0 rfl hS) rfl rfl) ?_
     refine GD.call (fun _ hM => Floor_ok hM.avlt (hM.f 5 rfl) (by first | assumption | omega)) ?_
     rintro _ _ _ hM ⟨A87, n87, c87, m87, rfl, h87, hb⟩
     have hs87 := sz_floor ((Rat.divInt (bigv xA xB xC xP) (bigv yA yB yC yP)))
     refine ⟨_, _, _, rfl, hb, (hM.call hb).add h87, ?_⟩
     refine GD.call (fun _ hM => NFloor_ok hM.avlt (hM.f 5 rfl) (by first | assumption | omega)) ?_
     rintro _ _ _ hM ⟨s88, A88, n88, c88, rfl, h88, hb⟩
     have hs88 := szg_floor ((Rat.divInt (bigv xA xB xC xP) (bigv yA yB yC yP)))
     refine ⟨_, _, _, rfl, hb, (hM.call hb).add h88, ?_⟩
     refine GD.call (fun _ hM => SameZ_ok hM.avlt (hM.f 1 rfl) (hM.f 0 rfl) (by first | assumption | omega) (by first | assumption | omega)) ?_
     rintro _ _ _ hM ⟨rfl, hb⟩
     refine ⟨.bool true, _, _, (ret_bool (decide_eq_true rfl)), hb, hM.call hb, ?_⟩
     refine GD.ev (.bool true) ?_
     refine GD.ev (.bool true) ?_
     refine GD.er (.agg #[.slice A75a n75a c75a, .bool m75a, .slice A75a_ n75a_ c75a_]) (fun _ hS => op_load_agg (off := 0) (by kernel_rfl) agg48 siz48 (hV79.bS 1 rfl hS) rfl rfl) ?_
     refine GD.er (.agg #[.int .i64 s77, .slice A77 n77 c77, .int .i64 s77_, .slice A77_ n77_ c77_]) (fun _ hS => op_load_agg (off := 0) (by kernel_rfl) agg54 siz54 (hV79.bS 0 rfl hS) rfl rfl) ?_
     refine GD.call (fun _ hM => Ceil_ok hM.avlt (hM.f 7 rfl) (by first | assumption | omega)) ?_
     rintro _ _ _ hM ⟨A90, n90, c90, m90, rfl, h90, hb⟩
     have hs90 := sz_ceil ((Rat.divInt (bigv xA xB xC xP) (bigv yA yB yC yP)))
     refine ⟨_, _, _, rfl, hb, (hM.call hb).add h90, ?_⟩
     refine GD.call (fun _ hM => NCeil_ok hM.avlt (hM.f 7 rfl) (by first | assumption | omega)) ?_
     rintro _ _ _ hM ⟨s91, A91, n91, c91, rfl, h91, hb⟩
     have hs91 := szg_ceil ((Rat.divInt (bigv xA xB xC xP) (bigv yA yB yC yP)))
     refine ⟨_, _, _, rfl, hb, (hM.call hb).add h91, ?_⟩
     refine GD.call (fun _ hM => SameZ_ok hM.avlt (hM.f 1 rfl) (hM.f 0 rfl) (by first | assumption | omega) (by first | assumption | omega)) ?_
     rintro _ _ _ hM ⟨rfl, hb⟩
     refine ⟨.bool true, _, _, (ret_bool (decide_eq_true rfl)), hb, hM.call hb, ?_⟩
     refine GD.ev (.bool true) ?_
     refine GD.ev (.bool true) ?_
     refine GD.call (fun _ hM => awake_ok hM.avlt) ?_
     rintro _ _ _ hM ⟨rfl, hb⟩
     refine ⟨_, _, _, rfl, hb, hM.call hb, ?_⟩
     refine GD.ev (.bool true) ?_
     refine GD.v (.bool true) ?_
     refine GD.k k1 ?_
     refine CG.ret (QG.ret (fun _ hM => results_one rfl (res_tmp rfl)) ?_)
     intro _ hM
     exact ⟨rfl, hM.below⟩

end Go.Proofs.YtklnjhlidfclmaaGreatDoor
