/- Contracts of the program's functions. -/
import Derived.Test.YtklnjhlidfclmaaGreatDoorC3
set_option linter.unusedVariables false
set_option linter.unusedSimpArgs false
namespace Go.Proofs.YtklnjhlidfclmaaGreatDoor
open Go.RowKit Cps
attribute [local go_sem] Oper.semAt_some

set_option maxRecDepth 100000 in
set_option maxHeartbeats 400000 in
theorem folds_ok {w : World} {X : Nat → Prop} {A1 : Option Addr} {n1 : Nat} {c1 : Nat} {l : List (Int × Int)} (hX : ∀ k, X k → k < w.heap.size) (h1 : (LKd P2k 60 2).R X w [.slice A1 n1 c1] l) (p1 : ∀ i, i < l.length → (-9223372036854775808 ≤ (l.getD i (0, 0)).1 ∧ (l.getD i (0, 0)).1 ≤ 9223372036854775807) ∧ (-9223372036854775808 ≤ (l.getD i (0, 0)).2 ∧ (l.getD i (0, 0)).2 ≤ 9223372036854775807)) :
    Calls Tryz.prog 10 #[.slice A1 n1 c1] w (fun e w' => e = .returned (.bool true) ∧ Below w.heap.size w w') := by
 have hM := (Mem.start hX).add0 h1
 have hl := LKd.len h1
 refine calls_of hM Tryz.func10 Tryz.ntmps10 ?_
 refine CG.seq fun K_ k1 => ?_
 refine CG.lin 1 ?_
 refine GL.v (.bool false) ?_
 refine GL.k k1 ?_
 refine CG.seq fun K_ k1 => ?_
 refine CG.seq fun K_ k2 => ?_
 refine CG.lin 3 ?_
 refine GL.v (.slice A1 n1 c1) ?_
 refine GL.v (.int .i64 (n1 : Int)) ?_
 refine GL.v (.bool (decide ((n1 : Int) > (30 : Int)))) ?_
 refine GL.k k2 ?_
 by_cases hc21 : (n1 : Int) > (30 : Int)
 · have hk21 : (decide ((n1 : Int) > (30 : Int))) = true := decide_eq_true hc21
   refine CG.yes ?_ hk21 rfl
   refine CG.seq fun K_ k2 => ?_
   refine CG.lin 2 ?_
   refine GL.call (fun _ hM => awake_ok hM.avlt) ?_
   rintro _ _ _ hM ⟨rfl, hb⟩
   refine ⟨_, _, _, rfl, hM.call hb, ?_⟩
   refine GL.v (.bool true) ?_
   refine GL.k k2 ?_
   refine CG.ret (QG.then_ret (QG.ret (fun _ hM => results_one rfl (res_tmp rfl)) ?_))
   intro _ hM
   exact ⟨rfl, hM.below⟩
 · have hk21 : (decide ((n1 : Int) > (30 : Int))) = false := decide_eq_false hc21
   refine CG.no ?_ hk21 rfl
   refine CG.skip ?_
   refine QG.k k1 ?_
   refine CG.seq fun K_ k1 => ?_
   refine CG.lin 1 ?_
   refine GL.v (.slice none 0 0) ?_
   refine GL.k k1 ?_
   refine CG.seq fun K_ k1 => ?_
   refine CG.lin 1 ?_
   refine GL.v (.slice none 0 0) ?_
   refine GL.k k1 ?_
   refine CG.seq fun K_ k1 => ?_
   refine CG.seq fun K_ k2 => ?_
   refine CG.lin 1 ?_
   refine GL.v (.int .i64 0) ?_
   refine GL.k k2 ?_
   refine CG.block ?_
   refine CG.loop (fun m_ a_ u_ => (∃ (i : Nat) (g3 : Nat) (n3 : Nat) (c3 : Nat) (xs3 : List Value) (g4 : Nat) (n4 : Nat) (c4 : Nat) (xs4 : List Value) (vs : List Rat) (j23 : Nat → Value), a_ = ⟨#[.slice A1 n1 c1, undef, .bool false, .slice (some ⟨g3, 0, none⟩) n3 c3, .slice (some ⟨g4, 0, none⟩) n4 c4, .int .i64 (i : Int), (j23 6), (j23 7), .slice A1 n1 c1, .int .i64 (n1 : Int), .bool (decide ((n1 : Int) > (30 : Int))), undef, (j23 12), (j23 13), (j23 14), (j23 15), (j23 16), (j23 17), (j23 18), (j23 19), (j23 20), (j23 21), (j23 22), (j23 23), (j23 24), (j23 25), (j23 26), (j23 27), (j23 28), (j23 29), (j23 30), (j23 31), (j23 32), (j23 33), undef, undef, undef, undef, undef, undef, undef, undef, undef, undef, undef, undef, undef, undef, undef, undef, undef, undef, undef, undef, undef, undef], []⟩ ∧ m_ = l.length - i ∧ Mem w [] X u_ [.own g4 54 (n4 * 4) (c4 * 4) xs4, .own g3 48 (n3 * 3) (c3 * 3) xs3] [⟨(EKd Rk 3), xs3, vs⟩, ⟨(EKd NRk 4), xs4, vs⟩, ⟨(LKd P2k 60 2), [.slice A1 n1 c1], l⟩] ∧ (1 ≤ i ∧ i ≤ l.length ∧ l.length ≤ 30 ∧ n3 = i ∧ n4 = i) ∧ (vs.length = i) ∧ (∀ r ∈ vs, szR r ≤ 3 ∧ szgR r ≤ 5)) ∨ (m_ = l.length + 1 ∧ a_ = ⟨#[.slice A1 n1 c1, undef, .bool false, .slice none 0 0, .slice none 0 0, .int .i64 0, undef, undef, .slice A1 n1 c1, .int .i64 (n1 : Int), .bool (decide ((n1 : Int) > (30 : Int))), undef, undef, undef, undef, undef, undef, undef, undef, undef, undef, undef, undef, undef, undef, undef, undef, undef, undef, undef, undef, undef, undef, undef, undef, undef, undef, undef, undef, undef, undef, undef, undef, undef, undef, undef, undef, undef, undef, undef, undef, undef, undef, undef, undef, undef], []⟩ ∧ Mem w [] X u_ [] [⟨(LKd P2k 60 2), [.slice A1 n1 c1], l⟩])) (fun _ hM => ⟨_, .inr ⟨rfl, (by kernel_rfl), hM⟩⟩) ?_
   rintro m_ a_ u_ (⟨i, g3, n3, c3, xs3, g4, n4, c4, xs4, vs, j23, rfl, hm23, hM, hi, hlv, hvs⟩ | ⟨hm23, rfl, hM⟩)
   · skip
     refine CG.go hM ?_
     refine CG.seq fun K_ k2 => ?_
     refine CG.seq fun K_ k3 => ?_
     refine CG.lin 4 ?_
     refine GL.v (.int .i64 (i : Int)) ?_
     refine GL.v (.slice A1 n1 c1) ?_
     refine GL.v (.int .i64 (n1 : Int)) ?_
     refine GL.v (.bool (decide ((i : Int) < (n1 : Int)))) ?_
     refine GL.k k3 ?_
     by_cases hc24 : (i : Int) < (n1 : Int)
     · have hk24 : (decide ((i : Int) < (n1 : Int))) = true := decide_eq_true hc24
       refine CG.yes ?_ hk24 rfl
       refine CG.skip ?_
       refine QG.k k2 ?_
       refine CG.seq fun K_ k2 => ?_
       refine CG.block ?_
       refine CG.seq fun K_ k3 => ?_
       refine CG.lin 12 ?_
       refine GL.v (.slice A1 n1 c1) ?_
       refine GL.v (.int .i64 (i : Int)) ?_
       refine GL.r (elemPtr A1 (i * 2)) (fun _ hM => op_index_k rowk96 (by decide) (kd := .i64) (i := (i : Int)) i (by kernel_rfl) (by kernel_rfl) (by omega) (by omega) (hM.f 2 rfl) _) ?_
       refine GL.r (.agg #[.int .i64 (l.getD i (0, 0)).1, .int .i64 (l.getD i (0, 0)).2]) (fun _ hM => op_load_p2 rowk96 (by kernel_rfl) (hM.f 2 rfl) (by omega)) ?_
       have hr := p1 i (by omega)
       refine GL.call (fun _ hM => Both_ok hM.avlt ((l.getD i (0, 0)).1) ((l.getD i (0, 0)).2) (by first | assumption | omega | (dsimp only; omega)) (by first | assumption | omega | (dsimp only; omega))) ?_
       rintro _ _ _ hM ⟨A26a, n26a, c26a, m26a, A26a_, n26a_, c26a_, s26b, A26b, n26b, c26b, s26b_, A26b_, n26b_, c26b_, rfl, h26a, h26b, hb⟩
       have hz26 := numv_sz ((l.getD i (0, 0)).1) ((l.getD i (0, 0)).2) (by first | assumption | omega) (by first | assumption | omega)
       refine ⟨_, _, _, rfl, ((hM.call hb).add h26a).add h26b, ?_⟩
       refine GL.v (.tuple #[.agg #[.slice A26a n26a c26a, .bool m26a, .slice A26a_ n26a_ c26a_], .agg #[.int .i64 s26b, .slice A26b n26b c26b, .int .i64 s26b_, .slice A26b_ n26b_ c26b_]]) ?_
       refine GL.v (.agg #[.slice A26a n26a c26a, .bool m26a, .slice A26a_ n26a_ c26a_]) ?_
       refine GL.v (.agg #[.int .i64 s26b, .slice A26b n26b c26b, .int .i64 s26b_, .slice A26b_ n26b_ c26b_]) ?_
       refine GL.aA zer48 fun g27 => ?_
       refine GL.aA zer54 fun g28 => ?_
       refine GL.sA (cs' := #[.slice A26a n26a c26a, .bool m26a, .slice A26a_ n26a_ c26a_]) (fun _ _ => Mem.st1) (fun _ hM => hM.b 1 rfl) siz48 ?_
       refine GL.sA (cs' := #[.int .i64 s26b, .slice A26b n26b c26b, .int .i64 s26b_, .slice A26b_ n26b_ c26b_]) (fun _ _ => Mem.st0) (fun _ hM => hM.b 0 rfl) siz54 ?_
       refine GL.k k3 ?_
       refine CG.cut (fun a_ u_ => ∃ (g30 : Nat) (g31 : Nat) (c31 : Nat) (g32 : Nat) (g33 : Nat) (c33 : Nat), a_ = ⟨#[.slice A1 n1 c1, undef, .bool false, .slice (some ⟨g31, 0, none⟩) (n3 + 1) c31, .slice (some ⟨g33, 0, none⟩) (n4 + 1) c33, .int .i64 (i : Int), .pointer (some ⟨g27, 0, none⟩), .pointer (some ⟨g28, 0, none⟩), .slice A1 n1 c1, .int .i64 (n1 : Int), .bool (decide ((n1 : Int) > (30 : Int))), undef, .int .i64 (i : Int), .slice A1 n1 c1, .int .i64 (n1 : Int), .bool (decide ((i : Int) < (n1 : Int))), (j23 16), (j23 17), .tuple #[.agg #[.slice A26a n26a c26a, .bool m26a, .slice A26a_ n26a_ c26a_], .agg #[.int .i64 s26b, .slice A26b n26b c26b, .int .i64 s26b_, .slice A26b_ n26b_ c26b_]], .slice A1 n1 c1, .int .i64 (i : Int), elemPtr A1 (i * 2), .agg #[.int .i64 (l.getD i (0, 0)).1, .int .i64 (l.getD i (0, 0)).2], .tuple #[.agg #[.slice A26a n26a c26a, .bool m26a, .slice A26a_ n26a_ c26a_], .agg #[.int .i64 s26b, .slice A26b n26b c26b, .int .i64 s26b_, .slice A26b_ n26b_ c26b_]], .agg #[.slice A26a n26a c26a, .bool m26a, .slice A26a_ n26a_ c26a_], .agg #[.int .i64 s26b, .slice A26b n26b c26b, .int .i64 s26b_, .slice A26b_ n26b_ c26b_], .slice (some ⟨g3, 0, none⟩) n3 c3, .agg #[.slice A26a n26a c26a, .bool m26a, .slice A26a_ n26a_ c26a_], .slice (some ⟨g30, 0, none⟩) 1 1, .slice (some ⟨g31, 0, none⟩) (n3 + 1) c31, .slice (some ⟨g4, 0, none⟩) n4 c4, .agg #[.int .i64 s26b, .slice A26b n26b c26b, .int .i64 s26b_, .slice A26b_ n26b_ c26b_], .slice (some ⟨g32, 0, none⟩) 1 1, .slice (some ⟨g33, 0, none⟩) (n4 + 1) c33, undef, undef, undef, undef, undef, undef, undef, undef, undef, undef, undef, undef, undef, undef, undef, undef, undef, undef, undef, undef, undef, undef], []⟩ ∧ Mem w [] X u_ [.own g33 54 ((n4 + 1) * 4) (c33 * 4) (xs4 ++ ([.int .i64 s26b, .slice A26b n26b c26b, .int .i64 s26b_, .slice A26b_ n26b_ c26b_] : List Value)), .own g32 54 (1 * 4) (1 * 4) ([.int .i64 s26b, .slice A26b n26b c26b, .int .i64 s26b_, .slice A26b_ n26b_ c26b_] : List Value), .own g31 48 ((n3 + 1) * 3) (c31 * 3) (xs3 ++ ([.slice A26a n26a c26a, .bool m26a, .slice A26a_ n26a_ c26a_] : List Value)), .own g30 48 (1 * 3) (1 * 3) ([.slice A26a n26a c26a, .bool m26a, .slice A26a_ n26a_ c26a_] : List Value), .box g28 #[.int .i64 s26b, .slice A26b n26b c26b, .int .i64 s26b_, .slice A26b_ n26b_ c26b_] 54, .box g27 #[.slice A26a n26a c26a, .bool m26a, .slice A26a_ n26a_ c26a_] 48] [⟨NRk, [.int .i64 s26b, .slice A26b n26b c26b, .int .i64 s26b_, .slice A26b_ n26b_ c26b_], numv ((l.getD i (0, 0)).1) ((l.getD i (0, 0)).2)⟩, ⟨Rk, [.slice A26a n26a c26a, .bool m26a, .slice A26a_ n26a_ c26a_], numv ((l.getD i (0, 0)).1) ((l.getD i (0, 0)).2)⟩, ⟨(EKd Rk 3), xs3, vs⟩, ⟨(EKd NRk 4), xs4, vs⟩, ⟨(LKd P2k 60 2), [.slice A1 n1 c1], l⟩]) ?_ ?_
       · skip
         refine CG.draw [g3, g4] [0, 1, 4, 5] (.step 0 (.step 1 (.step 4 (.step 5 (.fork 2 (.fork 3 (.step 6 (.step 7 (.step 8 (.step 9 .done)))) (.step 6 (.step 3 (.step 7 (.step 8 (.step 9 .done)))))) (.step 6 (.step 2 (.step 3 (.step 7 (.step 8 (.step 9 .done))))))))))) (fun V hV29 => ?_)
         refine GD.ev (.slice (some ⟨g3, 0, none⟩) n3 c3) ?_
         refine GD.er (.agg #[.slice A26a n26a c26a, .bool m26a, .slice A26a_ n26a_ c26a_]) (fun _ hS => op_load_agg (off := 0) (by kernel_rfl) agg48 siz48 (hV29.bS 1 rfl hS (by simp only [List.mem_cons, List.not_mem_nil, or_false, not_or]; exact ⟨hV29.ne 1 3 rfl rfl (by decide), hV29.ne 1 2 rfl rfl (by decide)⟩)) rfl rfl) ?_
         refine GD.ev (.slice (some ⟨g4, 0, none⟩) n4 c4) ?_
         refine GD.er (.agg #[.int .i64 s26b, .slice A26b n26b c26b, .int .i64 s26b_, .slice A26b_ n26b_ c26b_]) (fun _ hS => op_load_agg (off := 0) (by kernel_rfl) agg54 siz54 (hV29.bS 0 rfl hS (by simp only [List.mem_cons, List.not_mem_nil, or_false, not_or]; exact ⟨hV29.ne 0 3 rfl rfl (by decide), hV29.ne 0 2 rfl rfl (by decide)⟩)) rfl rfl) ?_
         refine GD.fork ?_ ?_
         · skip
           refine GD.rowk (k := 3) (xs := ([.slice A26a n26a c26a, .bool m26a, .slice A26a_ n26a_ c26a_] : List Value)) (fun _ => op_build1k rowk97 (by decide) (v := #[.slice A26a n26a c26a, .bool m26a, .slice A26a_ n26a_ c26a_]) (by kernel_rfl) rfl (by kernel_rfl)) (fun _ _ _ hm => own_one_k (vs := ([.slice A26a n26a c26a, .bool m26a, .slice A26a_ n26a_ c26a_] : List Value)) hm rfl rfl (by decide)) fun g30 hg30 => ?_
           refine GD.fork ?_ ?_
           · skip
             refine GD.grk (k := 3) (fun _ _ _ _ => Mem.gr4) (fun _ hM => op_append_k (cx := 1) (n := n3) (m := 1) rowa97 (by decide) (hM.o 4 rfl) (hM.o 0 rfl).row (by simp [Value.oneCell']) (by kernel_rfl) (by kernel_rfl) (by omega) (by omega) (by omega)) fun g31 c31 => ?_
             refine GD.rowk (k := 4) (xs := ([.int .i64 s26b, .slice A26b n26b c26b, .int .i64 s26b_, .slice A26b_ n26b_ c26b_] : List Value)) (fun _ => op_build1k rowk98 (by decide) (v := #[.int .i64 s26b, .slice A26b n26b c26b, .int .i64 s26b_, .slice A26b_ n26b_ c26b_]) (by kernel_rfl) rfl (by kernel_rfl)) (fun _ _ _ hm => own_one_k (vs := ([.int .i64 s26b, .slice A26b n26b c26b, .int .i64 s26b_, .slice A26b_ n26b_ c26b_] : List Value)) hm rfl rfl (by decide)) fun g32 hg32 => ?_
             refine GD.grk (k := 4) (fun _ _ _ _ => Mem.gr4) (fun _ hM => op_append_k (cx := 1) (n := n4) (m := 1) rowa98 (by decide) (hM.o 4 rfl) (hM.o 0 rfl).row (by simp [Value.oneCell']) (by kernel_rfl) (by kernel_rfl) (by omega) (by omega) (by omega)) fun g33 c33 => ?_
             refine GD.v (.slice (some ⟨g31, 0, none⟩) (n3 + 1) c31) ?_
             refine GD.v (.slice (some ⟨g33, 0, none⟩) (n4 + 1) c33) ?_
             refine GD.q (QG.cut fun _ hM => ?_)
             replace hM := hM.swap3
             replace hM := hM.swap2
             replace hM := hM.swap1
             replace hM := hM.swap0
             replace hM := hM.swap4
             replace hM := hM.swap3
             replace hM := hM.swap2
             exact ⟨g30, g31, c31, g32, g33, c33, rfl, (((((hM.clr).add (hM.f 4 rfl)).add (hM.f 3 rfl)).add (hM.f 2 rfl)).add (hM.f 1 rfl)).add (hM.f 0 rfl)⟩
           refine GD.rowk (k := 4) (xs := ([.int .i64 s26b, .slice A26b n26b c26b, .int .i64 s26b_, .slice A26b_ n26b_ c26b_] : List Value)) (fun _ => op_build1k rowk98 (by decide) (v := #[.int .i64 s26b, .slice A26b n26b c26b, .int .i64 s26b_, .slice A26b_ n26b_ c26b_]) (by kernel_rfl) rfl (by kernel_rfl)) (fun _ _ _ hm => own_one_k (vs := ([.int .i64 s26b, .slice A26b n26b c26b, .int .i64 s26b_, .slice A26b_ n26b_ c26b_] : List Value)) hm rfl rfl (by decide)) fun g34 hg34 => ?_
           refine GD.grk (k := 3) (fun _ _ _ _ => Mem.gr5) (fun _ hM => op_append_k (cx := 1) (n := n3) (m := 1) rowa97 (by decide) (hM.o 5 rfl) (hM.o 1 rfl).row (by simp [Value.oneCell']) (by kernel_rfl) (by kernel_rfl) (by omega) (by omega) (by omega)) fun g35 c35 => ?_
           refine GD.grk (k := 4) (fun _ _ _ _ => Mem.gr4) (fun _ hM => op_append_k (cx := 1) (n := n4) (m := 1) rowa98 (by decide) (hM.o 4 rfl) (hM.o 0 rfl).row (by simp [Value.oneCell']) (by kernel_rfl) (by kernel_rfl) (by omega) (by omega) (by omega)) fun g36 c36 => ?_
           refine GD.v (.slice (some ⟨g35, 0, none⟩) (n3 + 1) c35) ?_
           refine GD.v (.slice (some ⟨g36, 0, none⟩) (n4 + 1) c36) ?_
           refine GD.q (QG.cut fun _ hM => ?_)
           replace hM := hM.swap3
           replace hM := hM.swap2
           replace hM := hM.swap1
           replace hM := hM.swap0
           replace hM := hM.swap4
           replace hM := hM.swap3
           replace hM := hM.swap2
           exact ⟨g30, g35, c35, g34, g36, c36, rfl, (((((hM.clr).add (hM.f 4 rfl)).add (hM.f 3 rfl)).add (hM.f 2 rfl)).add (hM.f 1 rfl)).add (hM.f 0 rfl)⟩
         refine GD.rowk (k := 4) (xs := ([.int .i64 s26b, .slice A26b n26b c26b, .int .i64 s26b_, .slice A26b_ n26b_ c26b_] : List Value)) (fun _ => op_build1k rowk98 (by decide) (v := #[.int .i64 s26b, .slice A26b n26b c26b, .int .i64 s26b_, .slice A26b_ n26b_ c26b_]) (by kernel_rfl) rfl (by kernel_rfl)) (fun _ _ _ hm => own_one_k (vs := ([.int .i64 s26b, .slice A26b n26b c26b, .int .i64 s26b_, .slice A26b_ n26b_ c26b_] : List Value)) hm rfl rfl (by decide)) fun g37 hg37 => ?_
         refine GD.rowk (k := 3) (xs := ([.slice A26a n26a c26a, .bool m26a, .slice A26a_ n26a_ c26a_] : List Value)) (fun _ => op_build1k rowk97 (by decide) (v := #[.slice A26a n26a c26a, .bool m26a, .slice A26a_ n26a_ c26a_]) (by kernel_rfl) rfl (by kernel_rfl)) (fun _ _ _ hm => own_one_k (vs := ([.slice A26a n26a c26a, .bool m26a, .slice A26a_ n26a_ c26a_] : List Value)) hm rfl rfl (by decide)) fun g38 hg38 => ?_
         refine GD.grk (k := 3) (fun _ _ _ _ => Mem.gr5) (fun _ hM => op_append_k (cx := 1) (n := n3) (m := 1) rowa97 (by decide) (hM.o 5 rfl) (hM.o 0 rfl).row (by simp [Value.oneCell']) (by kernel_rfl) (by kernel_rfl) (by omega) (by omega) (by omega)) fun g39 c39 => ?_
         refine GD.grk (k := 4) (fun _ _ _ _ => Mem.gr4) (fun _ hM => op_append_k (cx := 1) (n := n4) (m := 1) rowa98 (by decide) (hM.o 4 rfl) (hM.o 1 rfl).row (by simp [Value.oneCell']) (by kernel_rfl) (by kernel_rfl) (by omega) (by omega) (by omega)) fun g40 c40 => ?_
         refine GD.v (.slice (some ⟨g39, 0, none⟩) (n3 + 1) c39) ?_
         refine GD.v (.slice (some ⟨g40, 0, none⟩) (n4 + 1) c40) ?_
         refine GD.q (QG.cut fun _ hM => ?_)
         replace hM := hM.swap3
         replace hM := hM.swap2
         replace hM := hM.swap1
         replace hM := hM.swap0
         replace hM := hM.swap1
         replace hM := hM.swap4
         replace hM := hM.swap3
         replace hM := hM.swap2
         exact ⟨g38, g39, c39, g37, g40, c40, rfl, (((((hM.clr).add (hM.f 4 rfl)).add (hM.f 3 rfl)).add (hM.f 2 rfl)).add (hM.f 1 rfl)).add (hM.f 0 rfl)⟩
       · skip
         rintro a_ u_ ⟨g30, g31, c31, g32, g33, c33, rfl, hM⟩
         refine QG.go hM ?_
         refine QG.block ?_
         refine QG.k k2 ?_
         refine CG.lin 3 ?_
         refine GL.v (.int .i64 (i : Int)) ?_
         refine GL.v (.int .i64 ((i + 1 : Nat) : Int)) ?_ (hr := fun u => op_to (v := .int .i64 (IntKind.wrap .i64 ((i : Int) + (1 : Int)))) (by kernel_rfl) (wrap_i64 (by omega) (by omega) (by omega)))
         refine GL.v (.int .i64 ((i + 1 : Nat) : Int)) ?_
         refine GL.q ?_
         refine QG.again fun _ hM => ?_
         replace hM := hM.swap2
         replace hM := hM.swap3
         replace hM := hM.swap4
         replace hM := hM.swap0
         replace hM := hM.swap1
         replace hM := hM.swap2
         replace hM := hM.swap3
         exact ⟨l.length - (i + 1), (by omega), .inl ⟨(i + 1), g31, (n3 + 1), c31, (xs3 ++ ([.slice A26a n26a c26a, .bool m26a, .slice A26a_ n26a_ c26a_] : List Value)), g33, (n4 + 1), c33, (xs4 ++ ([.int .i64 s26b, .slice A26b n26b c26b, .int .i64 s26b_, .slice A26b_ n26b_ c26b_] : List Value)), (vs ++ [numv ((l.getD i (0, 0)).1) ((l.getD i (0, 0)).2)]), (fun t => (#[.slice A1 n1 c1, undef, .bool false, .slice (some ⟨g31, 0, none⟩) (n3 + 1) c31, .slice (some ⟨g33, 0, none⟩) (n4 + 1) c33, .int .i64 ((i + 1 : Nat) : Int), .pointer (some ⟨g27, 0, none⟩), .pointer (some ⟨g28, 0, none⟩), .slice A1 n1 c1, .int .i64 (n1 : Int), .bool (decide ((n1 : Int) > (30 : Int))), undef, .int .i64 (i : Int), .slice A1 n1 c1, .int .i64 (n1 : Int), .bool (decide ((i : Int) < (n1 : Int))), .int .i64 (i : Int), .int .i64 ((i + 1 : Nat) : Int), .tuple #[.agg #[.slice A26a n26a c26a, .bool m26a, .slice A26a_ n26a_ c26a_], .agg #[.int .i64 s26b, .slice A26b n26b c26b, .int .i64 s26b_, .slice A26b_ n26b_ c26b_]], .slice A1 n1 c1, .int .i64 (i : Int), elemPtr A1 (i * 2), .agg #[.int .i64 (l.getD i (0, 0)).1, .int .i64 (l.getD i (0, 0)).2], .tuple #[.agg #[.slice A26a n26a c26a, .bool m26a, .slice A26a_ n26a_ c26a_], .agg #[.int .i64 s26b, .slice A26b n26b c26b, .int .i64 s26b_, .slice A26b_ n26b_ c26b_]], .agg #[.slice A26a n26a c26a, .bool m26a, .slice A26a_ n26a_ c26a_], .agg #[.int .i64 s26b, .slice A26b n26b c26b, .int .i64 s26b_, .slice A26b_ n26b_ c26b_], .slice (some ⟨g3, 0, none⟩) n3 c3, .agg #[.slice A26a n26a c26a, .bool m26a, .slice A26a_ n26a_ c26a_], .slice (some ⟨g30, 0, none⟩) 1 1, .slice (some ⟨g31, 0, none⟩) (n3 + 1) c31, .slice (some ⟨g4, 0, none⟩) n4 c4, .agg #[.int .i64 s26b, .slice A26b n26b c26b, .int .i64 s26b_, .slice A26b_ n26b_ c26b_], .slice (some ⟨g32, 0, none⟩) 1 1, .slice (some ⟨g33, 0, none⟩) (n4 + 1) c33, undef, undef, undef, undef, undef, undef, undef, undef, undef, undef, undef, undef, undef, undef, undef, undef, undef, undef, undef, undef, undef, undef] : Array Value).getD t undef), (by kernel_rfl), rfl, ((((hM.dropn 4).clr).add ((hM.dropn 4).f 4 rfl)).add (EKd.snoc ((hM.dropn 4).f 3 rfl) ((hM.dropn 4).f 0 rfl) rfl)).add (EKd.snoc ((hM.dropn 4).f 2 rfl) ((hM.dropn 4).f 1 rfl) rfl), (by omega), (by simp [hlv]), (mem_snoc hvs (numv_sz _ _ (by omega) (by omega)))⟩⟩
     · have hk24 : (decide ((i : Int) < (n1 : Int))) = false := decide_eq_false hc24
       refine CG.no ?_ hk24 rfl
       refine CG.exit (QG.then_exit (QG.then_exit (QG.here ?_)))
       refine QG.k k1 ?_
       refine CG.seq fun K_ k1 => ?_
       refine CG.lin 23 ?_
       refine GL.v (.slice (some ⟨g3, 0, none⟩) n3 c3) ?_
       refine GL.mem (fun _ hM => hM.gi1.1.add (LKd.ofOwn (k := 3) (n := n3) (c := c3) hM.gi1.2.1 (hM.gi1.1.f 0 rfl) (by first | omega | (simp; done) | (simp; omega)) (by omega) (Own.capk (by decide) hM.gi1.2.1) hM.gi1.2.2)) ?_
       refine GL.call (fun _ hM => Sum_ok hM.avlt (hM.f 0 rfl) (fold_pre (k := 3) szR_zero3 (szR_add) (fun r hr => (hvs r hr).1) (by omega) (by decide))) ?_
       rintro _ _ _ hM ⟨A41, n41, c41, m41, A41_, n41_, c41_, rfl, h41, hb⟩
       refine ⟨_, _, _, rfl, (hM.call hb).add h41, ?_⟩
       refine GL.v (.slice (some ⟨g4, 0, none⟩) n4 c4) ?_
       refine GL.mem (fun _ hM => hM.gi0.1.add (LKd.ofOwn (k := 4) (n := n4) (c := c4) hM.gi0.2.1 (hM.gi0.1.f 3 rfl) (by first | omega | (simp; done) | (simp; omega)) (by omega) (Own.capk (by decide) hM.gi0.2.1) hM.gi0.2.2)) ?_
       refine GL.call (fun _ hM => NSum_ok hM.avlt (hM.f 0 rfl) (fold_pre (k := 5) szgR_zero5 (szgR_add) (fun r hr => (hvs r hr).2) (by omega) (by decide))) ?_
       rintro _ _ _ hM ⟨s42, A42, n42, c42, s42_, A42_, n42_, c42_, rfl, h42, hb⟩
       refine ⟨_, _, _, rfl, (hM.call hb).add h42, ?_⟩
       refine GL.call (fun _ hM => Same_ok hM.avlt (hM.f 2 rfl) (hM.f 0 rfl) (fold_all (k := 3) szR_zero3 (szR_add) (fun r hr => (hvs r hr).1) (by omega) (by decide)) (fold_all (k := 5) szgR_zero5 (szgR_add) (fun r hr => (hvs r hr).2) (by omega) (by decide))) ?_
       rintro _ _ _ hM ⟨rfl, hb⟩
       refine ⟨.bool true, _, _, (ret_bool (decide_eq_true rfl)), hM.call hb, ?_⟩
       refine GL.v (.bool true) ?_
       refine GL.v (.slice (some ⟨g3, 0, none⟩) n3 c3) ?_
       refine GL.call (fun _ hM => Min_ok hM.avlt (hM.f 3 rfl) (fold_pre (k := 3) szR_zero3 (pickR_sz szR _) (fun r hr => (hvs r hr).1) (by omega) (by decide))) ?_
       rintro _ _ _ hM ⟨A44, n44, c44, m44, A44_, n44_, c44_, rfl, h44, hb⟩
       refine ⟨_, _, _, rfl, (hM.call hb).add h44, ?_⟩
       refine GL.v (.slice (some ⟨g4, 0, none⟩) n4 c4) ?_
       refine GL.call (fun _ hM => NMin_ok hM.avlt (hM.f 2 rfl) (fold_pre (k := 5) szgR_zero5 (pickR_sz szgR _) (fun r hr => (hvs r hr).2) (by omega) (by decide))) ?_
       rintro _ _ _ hM ⟨s45, A45, n45, c45, s45_, A45_, n45_, c45_, rfl, h45, hb⟩
       refine ⟨_, _, _, rfl, (hM.call hb).add h45, ?_⟩
       refine GL.call (fun _ hM => Same_ok hM.avlt (hM.f 1 rfl) (hM.f 0 rfl) (fold_all (k := 3) szR_zero3 (pickR_sz szR _) (fun r hr => (hvs r hr).1) (by omega) (by decide)) (fold_all (k := 5) szgR_zero5 (pickR_sz szgR _) (fun r hr => (hvs r hr).2) (by omega) (by decide))) ?_
       rintro _ _ _ hM ⟨rfl, hb⟩
       refine ⟨.bool true, _, _, (ret_bool (decide_eq_true rfl)), hM.call hb, ?_⟩
       refine GL.v (.bool true) ?_
       refine GL.v (.bool true) ?_
       refine GL.v (.slice (some ⟨g3, 0, none⟩) n3 c3) ?_
       refine GL.call (fun _ hM => Max_ok hM.avlt (hM.f 5 rfl) (fold_pre (k := 3) szR_zero3 (pickR_sz szR _) (fun r hr => (hvs r hr).1) (by omega) (by decide))) ?_
       rintro _ _ _ hM ⟨A47, n47, c47, m47, A47_, n47_, c47_, rfl, h47, hb⟩
       refine ⟨_, _, _, rfl, (hM.call hb).add h47, ?_⟩
       refine GL.v (.slice (some ⟨g4, 0, none⟩) n4 c4) ?_
       refine GL.call (fun _ hM => NMax_ok hM.avlt (hM.f 4 rfl) (fold_pre (k := 5) szgR_zero5 (pickR_sz szgR _) (fun r hr => (hvs r hr).2) (by omega) (by decide))) ?_
       rintro _ _ _ hM ⟨s48, A48, n48, c48, s48_, A48_, n48_, c48_, rfl, h48, hb⟩
       refine ⟨_, _, _, rfl, (hM.call hb).add h48, ?_⟩
       refine GL.call (fun _ hM => Same_ok hM.avlt (hM.f 1 rfl) (hM.f 0 rfl) (fold_all (k := 3) szR_zero3 (pickR_sz szR _) (fun r hr => (hvs r hr).1) (by omega) (by decide)) (fold_all (k := 5) szgR_zero5 (pickR_sz szgR _) (fun r hr => (hvs r hr).2) (by omega) (by decide))) ?_
       rintro _ _ _ hM ⟨rfl, hb⟩
       refine ⟨.bool true, _, _, (ret_bool (decide_eq_true rfl)), hM.call hb, ?_⟩
       refine GL.v (.bool true) ?_
       refine GL.v (.bool true) ?_
       refine GL.call (fun _ hM => awake_ok hM.avlt) ?_
       rintro _ _ _ hM ⟨rfl, hb⟩
       refine ⟨_, _, _, rfl, hM.call hb, ?_⟩
       refine GL.v (.bool true) ?_
       refine GL.v (.bool true) ?_
       refine GL.k k1 ?_
       refine CG.ret (QG.ret (fun _ hM => results_one rfl (res_tmp rfl)) ?_)
       intro _ hM
       exact ⟨rfl, hM.below⟩
   · skip
     refine CG.go hM ?_
     refine CG.seq fun K_ k2 => ?_
     refine CG.seq fun K_ k3 => ?_
     refine CG.lin 4 ?_
     refine GL.v (.int .i64 0) ?_
     refine GL.v (.slice A1 n1 c1) ?_
     refine GL.v (.int .i64 (n1 : Int)) ?_
     refine GL.v (.bool (decide ((0 : Int) < (n1 : Int)))) ?_
     refine GL.k k3 ?_
     by_cases hc51 : (0 : Int) < (n1 : Int)
     · have hk51 : (decide ((0 : Int) < (n1 : Int))) = true := decide_eq_true hc51
       refine CG.yes ?_ hk51 rfl
       refine CG.skip ?_
       refine QG.k k2 ?_
       refine CG.seq fun K_ k2 => ?_
       refine CG.block ?_
       refine CG.seq fun K_ k3 => ?_
       refine CG.lin 12 ?_
       refine GL.v (.slice A1 n1 c1) ?_
       refine GL.v (.int .i64 0) ?_
       refine GL.r (elemPtr A1 (0 * 2)) (fun _ hM => op_index_k rowk96 (by decide) (kd := .i64) (i := (0 : Int)) 0 (by kernel_rfl) (by kernel_rfl) (by omega) (by omega) (hM.f 0 rfl) _) ?_
       refine GL.r (.agg #[.int .i64 (l.getD 0 (0, 0)).1, .int .i64 (l.getD 0 (0, 0)).2]) (fun _ hM => op_load_p2 rowk96 (by kernel_rfl) (hM.f 0 rfl) (by omega)) ?_
       have hr := p1 0 (by omega)
       refine GL.call (fun _ hM => Both_ok hM.avlt ((l.getD 0 (0, 0)).1) ((l.getD 0 (0, 0)).2) (by first | assumption | omega | (dsimp only; omega)) (by first | assumption | omega | (dsimp only; omega))) ?_
       rintro _ _ _ hM ⟨A53a, n53a, c53a, m53a, A53a_, n53a_, c53a_, s53b, A53b, n53b, c53b, s53b_, A53b_, n53b_, c53b_, rfl, h53a, h53b, hb⟩
       have hz53 := numv_sz ((l.getD 0 (0, 0)).1) ((l.getD 0 (0, 0)).2) (by first | assumption | omega) (by first | assumption | omega)
       refine ⟨_, _, _, rfl, ((hM.call hb).add h53a).add h53b, ?_⟩
       refine GL.v (.tuple #[.agg #[.slice A53a n53a c53a, .bool m53a, .slice A53a_ n53a_ c53a_], .agg #[.int .i64 s53b, .slice A53b n53b c53b, .int .i64 s53b_, .slice A53b_ n53b_ c53b_]]) ?_
       refine GL.v (.agg #[.slice A53a n53a c53a, .bool m53a, .slice A53a_ n53a_ c53a_]) ?_
       refine GL.v (.agg #[.int .i64 s53b, .slice A53b n53b c53b, .int .i64 s53b_, .slice A53b_ n53b_ c53b_]) ?_
       refine GL.aA zer48 fun g54 => ?_
       refine GL.aA zer54 fun g55 => ?_
       refine GL.sA (cs' := #[.slice A53a n53a c53a, .bool m53a, .slice A53a_ n53a_ c53a_]) (fun _ _ => Mem.st1) (fun _ hM => hM.b 1 rfl) siz48 ?_
       refine GL.sA (cs' := #[.int .i64 s53b, .slice A53b n53b c53b, .int .i64 s53b_, .slice A53b_ n53b_ c53b_]) (fun _ _ => Mem.st0) (fun _ hM => hM.b 0 rfl) siz54 ?_
       refine GL.k k3 ?_
       refine CG.cut (fun a_ u_ => ∃ (g57 : Nat) (g58 : Nat) (c58 : Nat) (g59 : Nat) (g60 : Nat) (c60 : Nat), a_ = ⟨#[.slice A1 n1 c1, undef, .bool false, .slice (some ⟨g58, 0, none⟩) 1 c58, .slice (some ⟨g60, 0, none⟩) 1 c60, .int .i64 0, .pointer (some ⟨g54, 0, none⟩), .pointer (some ⟨g55, 0, none⟩), .slice A1 n1 c1, .int .i64 (n1 : Int), .bool (decide ((n1 : Int) > (30 : Int))), undef, .int .i64 0, .slice A1 n1 c1, .int .i64 (n1 : Int), .bool (decide ((0 : Int) < (n1 : Int))), undef, undef, .tuple #[.agg #[.slice A53a n53a c53a, .bool m53a, .slice A53a_ n53a_ c53a_], .agg #[.int .i64 s53b, .slice A53b n53b c53b, .int .i64 s53b_, .slice A53b_ n53b_ c53b_]], .slice A1 n1 c1, .int .i64 0, elemPtr A1 (0 * 2), .agg #[.int .i64 (l.getD 0 (0, 0)).1, .int .i64 (l.getD 0 (0, 0)).2], .tuple #[.agg #[.slice A53a n53a c53a, .bool m53a, .slice A53a_ n53a_ c53a_], .agg #[.int .i64 s53b, .slice A53b n53b c53b, .int .i64 s53b_, .slice A53b_ n53b_ c53b_]], .agg #[.slice A53a n53a c53a, .bool m53a, .slice A53a_ n53a_ c53a_], .agg #[.int .i64 s53b, .slice A53b n53b c53b, .int .i64 s53b_, .slice A53b_ n53b_ c53b_], .slice none 0 0, .agg #[.slice A53a n53a c53a, .bool m53a, .slice A53a_ n53a_ c53a_], .slice (some ⟨g57, 0, none⟩) 1 1, .slice (some ⟨g58, 0, none⟩) 1 c58, .slice none 0 0, .agg #[.int .i64 s53b, .slice A53b n53b c53b, .int .i64 s53b_, .slice A53b_ n53b_ c53b_], .slice (some ⟨g59, 0, none⟩) 1 1, .slice (some ⟨g60, 0, none⟩) 1 c60, undef, undef, undef, undef, undef, undef, undef, undef, undef, undef, undef, undef, undef, undef, undef, undef, undef, undef, undef, undef, undef, undef], []⟩ ∧ Mem w [] X u_ [.own g60 54 (1 * 4) (c60 * 4) ([.int .i64 s53b, .slice A53b n53b c53b, .int .i64 s53b_, .slice A53b_ n53b_ c53b_] : List Value), .own g59 54 (1 * 4) (1 * 4) ([.int .i64 s53b, .slice A53b n53b c53b, .int .i64 s53b_, .slice A53b_ n53b_ c53b_] : List Value), .own g58 48 (1 * 3) (c58 * 3) ([.slice A53a n53a c53a, .bool m53a, .slice A53a_ n53a_ c53a_] : List Value), .own g57 48 (1 * 3) (1 * 3) ([.slice A53a n53a c53a, .bool m53a, .slice A53a_ n53a_ c53a_] : List Value), .box g55 #[.int .i64 s53b, .slice A53b n53b c53b, .int .i64 s53b_, .slice A53b_ n53b_ c53b_] 54, .box g54 #[.slice A53a n53a c53a, .bool m53a, .slice A53a_ n53a_ c53a_] 48] [⟨NRk, [.int .i64 s53b, .slice A53b n53b c53b, .int .i64 s53b_, .slice A53b_ n53b_ c53b_], numv ((l.getD 0 (0, 0)).1) ((l.getD 0 (0, 0)).2)⟩, ⟨Rk, [.slice A53a n53a c53a, .bool m53a, .slice A53a_ n53a_ c53a_], numv ((l.getD 0 (0, 0)).1) ((l.getD 0 (0, 0)).2)⟩, ⟨(LKd P2k 60 2), [.slice A1 n1 c1], l⟩]) ?_ ?_
       · skip
         refine CG.draw [] [0, 1, 4, 5] (.step 0 (.step 1 (.step 4 (.step 5 (.fork 2 (.fork 3 (.step 6 (.step 7 (.step 8 (.step 9 .done)))) (.step 6 (.step 3 (.step 7 (.step 8 (.step 9 .done)))))) (.step 6 (.step 2 (.step 3 (.step 7 (.step 8 (.step 9 .done))))))))))) (fun V hV56 => ?_)
         refine GD.ev (.slice none 0 0) ?_
         refine GD.er (.agg #[.slice A53a n53a c53a, .bool m53a, .slice A53a_ n53a_ c53a_]) (fun _ hS => op_load_agg (off := 0) (by kernel_rfl) agg48 siz48 (hV56.bS 1 rfl hS) rfl rfl) ?_
         refine GD.ev (.slice none 0 0) ?_
         refine GD.er (.agg #[.int .i64 s53b, .slice A53b n53b c53b, .int .i64 s53b_, .slice A53b_ n53b_ c53b_]) (fun _ hS => op_load_agg (off := 0) (by kernel_rfl) agg54 siz54 (hV56.bS 0 rfl hS) rfl rfl) ?_
         refine GD.fork ?_ ?_
         · skip
           refine GD.rowk (k := 3) (xs := ([.slice A53a n53a c53a, .bool m53a, .slice A53a_ n53a_ c53a_] : List Value)) (fun _ => op_build1k rowk97 (by decide) (v := #[.slice A53a n53a c53a, .bool m53a, .slice A53a_ n53a_ c53a_]) (by kernel_rfl) rfl (by kernel_rfl)) (fun _ _ _ hm => own_one_k (vs := ([.slice A53a n53a c53a, .bool m53a, .slice A53a_ n53a_ c53a_] : List Value)) hm rfl rfl (by decide)) fun g57 hg57 => ?_
           refine GD.fork ?_ ?_
           · skip
             refine GD.gnk (k := 3) (fun _ hM => op_appnil_k (cx := 1) (m := 1) rowa97 (by decide) (hM.o 0 rfl).row (by kernel_rfl) (by kernel_rfl) (by omega) (by omega) (by omega)) fun g58 c58 => ?_
             refine GD.rowk (k := 4) (xs := ([.int .i64 s53b, .slice A53b n53b c53b, .int .i64 s53b_, .slice A53b_ n53b_ c53b_] : List Value)) (fun _ => op_build1k rowk98 (by decide) (v := #[.int .i64 s53b, .slice A53b n53b c53b, .int .i64 s53b_, .slice A53b_ n53b_ c53b_]) (by kernel_rfl) rfl (by kernel_rfl)) (fun _ _ _ hm => own_one_k (vs := ([.int .i64 s53b, .slice A53b n53b c53b, .int .i64 s53b_, .slice A53b_ n53b_ c53b_] : List Value)) hm rfl rfl (by decide)) fun g59 hg59 => ?_
             refine GD.gnk (k := 4) (fun _ hM => op_appnil_k (cx := 1) (m := 1) rowa98 (by decide) (hM.o 0 rfl).row (by kernel_rfl) (by kernel_rfl) (by omega) (by omega) (by omega)) fun g60 c60 => ?_
             refine GD.v (.slice (some ⟨g58, 0, none⟩) 1 c58) ?_
             refine GD.v (.slice (some ⟨g60, 0, none⟩) 1 c60) ?_
             refine GD.q (QG.cut fun _ hM => ?_)
             exact ⟨g57, g58, c58, g59, g60, c60, rfl, (((hM.clr).add (hM.f 2 rfl)).add (hM.f 1 rfl)).add (hM.f 0 rfl)⟩
           refine GD.rowk (k := 4) (xs := ([.int .i64 s53b, .slice A53b n53b c53b, .int .i64 s53b_, .slice A53b_ n53b_ c53b_] : List Value)) (fun _ => op_build1k rowk98 (by decide) (v := #[.int .i64 s53b, .slice A53b n53b c53b, .int .i64 s53b_, .slice A53b_ n53b_ c53b_]) (by kernel_rfl) rfl (by kernel_rfl)) (fun _ _ _ hm => own_one_k (vs := ([.int .i64 s53b, .slice A53b n53b c53b, .int .i64 s53b_, .slice A53b_ n53b_ c53b_] : List Value)) hm rfl rfl (by decide)) fun g61 hg61 => ?_
           refine GD.gnk (k := 3) (fun _ hM => op_appnil_k (cx := 1) (m := 1) rowa97 (by decide) (hM.o 1 rfl).row (by kernel_rfl) (by kernel_rfl) (by omega) (by omega) (by omega)) fun g62 c62 => ?_
           refine GD.gnk (k := 4) (fun _ hM => op_appnil_k (cx := 1) (m := 1) rowa98 (by decide) (hM.o 1 rfl).row (by kernel_rfl) (by kernel_rfl) (by omega) (by omega) (by omega)) fun g63 c63 => ?_
           refine GD.v (.slice (some ⟨g62, 0, none⟩) 1 c62) ?_
           refine GD.v (.slice (some ⟨g63, 0, none⟩) 1 c63) ?_
           refine GD.q (QG.cut fun _ hM => ?_)
           replace hM := hM.swap1
           exact ⟨g57, g62, c62, g61, g63, c63, rfl, (((hM.clr).add (hM.f 2 rfl)).add (hM.f 1 rfl)).add (hM.f 0 rfl)⟩
         refine GD.rowk (k := 4) (xs := ([.int .i64 s53b, .slice A53b n53b c53b, .int .i64 s53b_, .slice A53b_ n53b_ c53b_] : List Value)) (fun _ => op_build1k rowk98 (by decide) (v := #[.int .i64 s53b, .slice A53b n53b c53b, .int .i64 s53b_, .slice A53b_ n53b_ c53b_]) (by kernel_rfl) rfl (by kernel_rfl)) (fun _ _ _ hm => own_one_k (vs := ([.int .i64 s53b, .slice A53b n53b c53b, .int .i64 s53b_, .slice A53b_ n53b_ c53b_] : List Value)) hm rfl rfl (by decide)) fun g64 hg64 => ?_
         refine GD.rowk (k := 3) (xs := ([.slice A53a n53a c53a, .bool m53a, .slice A53a_ n53a_ c53a_] : List Value)) (fun _ => op_build1k rowk97 (by decide) (v := #[.slice A53a n53a c53a, .bool m53a, .slice A53a_ n53a_ c53a_]) (by kernel_rfl) rfl (by kernel_rfl)) (fun _ _ _ hm => own_one_k (vs := ([.slice A53a n53a c53a, .bool m53a, .slice A53a_ n53a_ c53a_] : List Value)) hm rfl rfl (by decide)) fun g65 hg65 => ?_
         refine GD.gnk (k := 3) (fun _ hM => op_appnil_k (cx := 1) (m := 1) rowa97 (by decide) (hM.o 0 rfl).row (by kernel_rfl) (by kernel_rfl) (by omega) (by omega) (by omega)) fun g66 c66 => ?_
         refine GD.gnk (k := 4) (fun _ hM => op_appnil_k (cx := 1) (m := 1) rowa98 (by decide) (hM.o 2 rfl).row (by kernel_rfl) (by kernel_rfl) (by omega) (by omega) (by omega)) fun g67 c67 => ?_
         refine GD.v (.slice (some ⟨g66, 0, none⟩) 1 c66) ?_
         refine GD.v (.slice (some ⟨g67, 0, none⟩) 1 c67) ?_
         refine GD.q (QG.cut fun _ hM => ?_)
         replace hM := hM.swap2
         replace hM := hM.swap1
         exact ⟨g65, g66, c66, g64, g67, c67, rfl, (((hM.clr).add (hM.f 2 rfl)).add (hM.f 1 rfl)).add (hM.f 0 rfl)⟩
       · skip
         rintro a_ u_ ⟨g57, g58, c58, g59, g60, c60, rfl, hM⟩
         refine QG.go hM ?_
         refine QG.block ?_
         refine QG.k k2 ?_
         refine CG.lin 3 ?_
         refine GL.v (.int .i64 0) ?_
         refine GL.v (.int .i64 1) ?_ (hr := fun u => op_to (v := .int .i64 (IntKind.wrap .i64 ((0 : Int) + (1 : Int)))) (by kernel_rfl) (wrap_i64 (by omega) (by omega) (by omega)))
         refine GL.v (.int .i64 1) ?_
         refine GL.q ?_
         refine QG.again fun _ hM => ?_
         replace hM := hM.swap2
         replace hM := hM.swap3
         replace hM := hM.swap4
         replace hM := hM.swap0
         replace hM := hM.swap1
         replace hM := hM.swap2
         replace hM := hM.swap3
         exact ⟨l.length - 1, (by omega), .inl ⟨1, g58, 1, c58, ([.slice A53a n53a c53a, .bool m53a, .slice A53a_ n53a_ c53a_] : List Value), g60, 1, c60, ([.int .i64 s53b, .slice A53b n53b c53b, .int .i64 s53b_, .slice A53b_ n53b_ c53b_] : List Value), [numv ((l.getD 0 (0, 0)).1) ((l.getD 0 (0, 0)).2)], (fun t => (#[.slice A1 n1 c1, undef, .bool false, .slice (some ⟨g58, 0, none⟩) 1 c58, .slice (some ⟨g60, 0, none⟩) 1 c60, .int .i64 1, .pointer (some ⟨g54, 0, none⟩), .pointer (some ⟨g55, 0, none⟩), .slice A1 n1 c1, .int .i64 (n1 : Int), .bool (decide ((n1 : Int) > (30 : Int))), undef, .int .i64 0, .slice A1 n1 c1, .int .i64 (n1 : Int), .bool (decide ((0 : Int) < (n1 : Int))), .int .i64 0, .int .i64 1, .tuple #[.agg #[.slice A53a n53a c53a, .bool m53a, .slice A53a_ n53a_ c53a_], .agg #[.int .i64 s53b, .slice A53b n53b c53b, .int .i64 s53b_, .slice A53b_ n53b_ c53b_]], .slice A1 n1 c1, .int .i64 0, elemPtr A1 (0 * 2), .agg #[.int .i64 (l.getD 0 (0, 0)).1, .int .i64 (l.getD 0 (0, 0)).2], .tuple #[.agg #[.slice A53a n53a c53a, .bool m53a, .slice A53a_ n53a_ c53a_], .agg #[.int .i64 s53b, .slice A53b n53b c53b, .int .i64 s53b_, .slice A53b_ n53b_ c53b_]], .agg #[.slice A53a n53a c53a, .bool m53a, .slice A53a_ n53a_ c53a_], .agg #[.int .i64 s53b, .slice A53b n53b c53b, .int .i64 s53b_, .slice A53b_ n53b_ c53b_], .slice none 0 0, .agg #[.slice A53a n53a c53a, .bool m53a, .slice A53a_ n53a_ c53a_], .slice (some ⟨g57, 0, none⟩) 1 1, .slice (some ⟨g58, 0, none⟩) 1 c58, .slice none 0 0, .agg #[.int .i64 s53b, .slice A53b n53b c53b, .int .i64 s53b_, .slice A53b_ n53b_ c53b_], .slice (some ⟨g59, 0, none⟩) 1 1, .slice (some ⟨g60, 0, none⟩) 1 c60, undef, undef, undef, undef, undef, undef, undef, undef, undef, undef, undef, undef, undef, undef, undef, undef, undef, undef, undef, undef, undef, undef] : Array Value).getD t undef), (by kernel_rfl), rfl, ((((hM.dropn 4).clr).add ((hM.dropn 4).f 2 rfl)).add (EKd.one ((hM.dropn 4).f 0 rfl) rfl)).add (EKd.one ((hM.dropn 4).f 1 rfl) rfl), (by omega), rfl, (mem_snoc (l := []) (by simp) (numv_sz _ _ (by omega) (by omega)))⟩⟩
     · have hk51 : (decide ((0 : Int) < (n1 : Int))) = false := decide_eq_false hc51
       refine CG.no ?_ hk51 rfl
       refine CG.exit (QG.then_exit (QG.then_exit (QG.here ?_)))
       refine QG.k k1 ?_
       refine CG.seq fun K_ k1 => ?_
       refine CG.lin 23 ?_
       refine GL.v (.slice none 0 0) ?_
       refine GL.call (fun _ hM => Sum_ok hM.avlt (LKd.nil _ _ none 0) (fun i hi => by simp at hi)) ?_
       rintro _ _ _ hM ⟨A68, n68, c68, m68, A68_, n68_, c68_, rfl, h68, hb⟩
       refine ⟨_, _, _, rfl, (hM.call hb).add h68, ?_⟩
       refine GL.v (.slice none 0 0) ?_
       refine GL.call (fun _ hM => NSum_ok hM.avlt (LKd.nil _ _ none 0) (fun i hi => by simp at hi)) ?_
       rintro _ _ _ hM ⟨s69, A69, n69, c69, s69_, A69_, n69_, c69_, rfl, h69, hb⟩
       refine ⟨_, _, _, rfl, (hM.call hb).add h69, ?_⟩
       refine GL.call (fun _ hM => Same_ok hM.avlt (hM.f 1 rfl) (hM.f 0 rfl) (Nat.le_trans szR_zero3 (by decide)) (Nat.le_trans szgR_zero5 (by decide))) ?_
       rintro _ _ _ hM ⟨rfl, hb⟩
       refine ⟨.bool true, _, _, (ret_bool (decide_eq_true rfl)), hM.call hb, ?_⟩
       refine GL.v (.bool true) ?_
       refine GL.v (.slice none 0 0) ?_
       refine GL.call (fun _ hM => Min_ok hM.avlt (LKd.nil _ _ none 0) (fun i hi => by simp at hi)) ?_
       rintro _ _ _ hM ⟨A71, n71, c71, m71, A71_, n71_, c71_, rfl, h71, hb⟩
       refine ⟨_, _, _, rfl, (hM.call hb).add h71, ?_⟩
       refine GL.v (.slice none 0 0) ?_
       refine GL.call (fun _ hM => NMin_ok hM.avlt (LKd.nil _ _ none 0) (fun i hi => by simp at hi)) ?_
       rintro _ _ _ hM ⟨s72, A72, n72, c72, s72_, A72_, n72_, c72_, rfl, h72, hb⟩
       refine ⟨_, _, _, rfl, (hM.call hb).add h72, ?_⟩
       refine GL.call (fun _ hM => Same_ok hM.avlt (hM.f 1 rfl) (hM.f 0 rfl) (Nat.le_trans szR_zero3 (by decide)) (Nat.le_trans szgR_zero5 (by decide))) ?_
       rintro _ _ _ hM ⟨rfl, hb⟩
       refine ⟨.bool true, _, _, (ret_bool (decide_eq_true rfl)), hM.call hb, ?_⟩
       refine GL.v (.bool true) ?_
       refine GL.v (.bool true) ?_
       refine GL.v (.slice none 0 0) ?_
       refine GL.call (fun _ hM => Max_ok hM.avlt (LKd.nil _ _ none 0) (fun i hi => by simp at hi)) ?_
       rintro _ _ _ hM ⟨A74, n74, c74, m74, A74_, n74_, c74_, rfl, h74, hb⟩
       refine ⟨_, _, _, rfl, (hM.call hb).add h74, ?_⟩
       refine GL.v (.slice none 0 0) ?_
       refine GL.call (fun _ hM => NMax_ok hM.avlt (LKd.nil _ _ none 0) (fun i hi => by simp at hi)) ?_
       rintro _ _ _ hM ⟨s75, A75, n75, c75, s75_, A75_, n75_, c75_, rfl, h75, hb⟩
       refine ⟨_, _, _, rfl, (hM.call hb).add h75, ?_⟩
       refine GL.call (fun _ hM => Same_ok hM.avlt (hM.f 1 rfl) (hM.f 0 rfl) (Nat.le_trans szR_zero3 (by decide)) (Nat.le_trans szgR_zero5 (by decide))) ?_
       rintro _ _ _ hM ⟨rfl, hb⟩
       refine ⟨.bool true, _, _, (ret_bool (decide_eq_true rfl)), hM.call hb, ?_⟩
       refine GL.v (.bool true) ?_
       refine GL.v (.bool true) ?_
       refine GL.call (fun _ hM => awake_ok hM.avlt) ?_
       rintro _ _ _ hM ⟨rfl, hb⟩
       refine ⟨_, _, _, rfl, hM.call hb, ?_⟩
       refine GL.v (.bool true) ?_
       refine GL.v (.bool true) ?_
       refine GL.k k1 ?_
       refine CG.ret (QG.ret (fun _ hM => results_one rfl (res_tmp rfl)) ?_)
       intro _ hM
       exact ⟨rfl, hM.below⟩

end Go.Proofs.YtklnjhlidfclmaaGreatDoor
