/- Contracts of the program's functions. -/
import Derived.Test.YtklnjhlidfclmaaGreatDoorC1
set_option linter.unusedVariables false
set_option linter.unusedSimpArgs false
namespace Go.Proofs.YtklnjhlidfclmaaGreatDoor
open Go.RowKit Cps
attribute [local go_sem] Oper.semAt_some

set_option maxRecDepth 100000 in
set_option maxHeartbeats 400000 in
theorem lcut_ok {w : World} {X : Nat → Prop} (hX : ∀ k, X k → k < w.heap.size) (s : List UInt8) (p1 : s.length ≤ 4611686018427387904) :
    Calls Tryz.prog 136 #[.string (bs s), .string (bs [47])] w (fun e w' => e = .returned (.tuple #[.string (bs (cutTop s)), .string (bs (cutRest s)), .bool (s.contains 47)]) ∧ Below w.heap.size w w') := by
 have hM := Mem.start hX
 refine calls_of hM Tryz.func136 Tryz.ntmps136 ?_
 refine CG.seq fun K_ k1 => ?_
 refine CG.lin 3 ?_
 refine GL.v (.string (bs [])) ?_
 refine GL.v (.string (bs [])) ?_
 refine GL.v (.bool false) ?_
 refine GL.k k1 ?_
 refine CG.seq fun K_ k1 => ?_
 refine CG.seq fun K_ k2 => ?_
 refine CG.lin 4 ?_
 refine GL.v (.string (bs s)) ?_
 refine GL.v (.string (bs [47])) ?_
 refine GL.call (fun _ hM => index1_ok hM.avlt s) ?_
 rintro _ _ _ hM ⟨rfl, hb⟩
 refine ⟨_, _, _, rfl, hM.call hb, ?_⟩
 refine GL.v (.int .i64 (Lib.indexByte s 47)) ?_
 refine GL.k k2 ?_
 refine CG.seq fun K_ k2 => ?_
 refine CG.lin 2 ?_
 refine GL.v (.int .i64 (Lib.indexByte s 47)) ?_
 refine GL.v (.bool (decide ((Lib.indexByte s 47) ≥ (0 : Int)))) ?_
 refine GL.k k2 ?_
 by_cases hc22 : (Lib.indexByte s 47) ≥ (0 : Int)
 · have hk22 : (decide ((Lib.indexByte s 47) ≥ (0 : Int))) = true := decide_eq_true hc22
   refine CG.yes ?_ hk22 rfl
   refine CG.seq fun K_ k2 => ?_
   refine CG.draw [] [0, 1, 2, 3, 4, 5, 6, 7, 8] (.step 0 (.step 1 (.step 2 (.step 3 (.step 4 (.step 5 (.step 6 (.step 7 (.step 8 (.step 9 (.step 10 (.step 11 .done)))))))))))) (fun V hV23 => ?_)
   refine GD.ev (.string (bs s)) ?_
   refine GD.ev (.int .i64 (Lib.indexByte s 47)) ?_
   have hi := (index_spec s).1 (by omega)
   have hj := hi.1
   refine GD.ev (.string (bs (s.take (((Lib.indexByte s 47)).toNat)))) ?_ (hr := fun u => op_sto (L := s) (k := .i64) (i := (Lib.indexByte s 47)) (((Lib.indexByte s 47)).toNat) (by kernel_rfl) (by kernel_rfl) (by omega) (by (try simp only [List.length_append, List.length_cons, List.length_nil]); omega) (by kernel_rfl))
   refine GD.ev (.string (bs s)) ?_
   refine GD.ev (.int .i64 (Lib.indexByte s 47)) ?_
   refine GD.ev (.string (bs [47])) ?_
   refine GD.ev (.int .i64 1) ?_ (hr := fun u => op_slen (L := [47]) (by kernel_rfl) (by kernel_rfl) (by (try simp only [List.length_append, List.length_cons, List.length_nil]); omega))
   refine GD.ev (.int .i64 (((Lib.indexByte s 47).toNat + 1 : Nat) : Int)) ?_ (hr := fun u => op_to (v := .int .i64 (IntKind.wrap .i64 (Lib.indexByte s 47 + 1))) (by kernel_rfl) (wrap_i64 (by omega) (by omega) (by omega)))
   refine GD.ev (.string (bs (s.drop ((Lib.indexByte s 47).toNat + 1)))) ?_ (hr := fun u => op_sfrom (L := s) (k := .i64) (i := (((Lib.indexByte s 47).toNat + 1 : Nat) : Int)) ((Lib.indexByte s 47).toNat + 1) (by kernel_rfl) (by kernel_rfl) (by omega) (by (try simp only [List.length_append, List.length_cons, List.length_nil]); omega) (by kernel_rfl))
   refine GD.v (.string (bs (s.take (((Lib.indexByte s 47)).toNat)))) ?_
   refine GD.v (.string (bs (s.drop ((Lib.indexByte s 47).toNat + 1)))) ?_
   refine GD.v (.bool true) ?_
   refine GD.k k2 ?_
   refine CG.ret (QG.then_ret (QG.ret (fun _ hM => results_three rfl (res_tmp rfl) (res_tmp rfl) (res_tmp rfl)) ?_))
   intro _ hM
   exact ⟨(by rw [(show cutTop s = s.take (((Lib.indexByte s 47)).toNat) from ((index_spec s).1 (by omega)).2.1.symm), (show cutRest s = s.drop ((Lib.indexByte s 47).toNat + 1) from ((index_spec s).1 (by omega)).2.2.1.symm), (show s.contains 47 = true from ((index_spec s).1 (by omega)).2.2.2)] <;> rfl), hM.below⟩
 · have hk22 : (decide ((Lib.indexByte s 47) ≥ (0 : Int))) = false := decide_eq_false hc22
   refine CG.no ?_ hk22 rfl
   refine CG.skip ?_
   refine QG.k k1 ?_
   refine CG.seq fun K_ k1 => ?_
   refine CG.lin 4 ?_
   refine GL.v (.string (bs s)) ?_
   refine GL.v (.string (bs s)) ?_
   refine GL.v (.string (bs [])) ?_
   refine GL.v (.bool false) ?_
   refine GL.k k1 ?_
   refine CG.ret (QG.ret (fun _ hM => results_three rfl (res_tmp rfl) (res_tmp rfl) (res_tmp rfl)) ?_)
   intro _ hM
   exact ⟨(by rw [(show cutTop s = s from ((index_spec s).2 (by omega)).1.symm), (show cutRest s = [] from ((index_spec s).2 (by omega)).2.1), (show s.contains 47 = false from ((index_spec s).2 (by omega)).2.2)] <;> rfl), hM.below⟩

set_option maxRecDepth 100000 in
set_option maxHeartbeats 400000 in
theorem cut_ok {w : World} {X : Nat → Prop} (hX : ∀ k, X k → k < w.heap.size) (s : List UInt8) (p1 : s.length ≤ 4611686018427387904) :
    Calls Tryz.prog 113 #[.string (bs s), .string (bs [47])] w (fun e w' => e = .returned (.tuple #[.string (bs (cutTop s)), .string (bs (cutRest s)), .bool (s.contains 47)]) ∧ Below w.heap.size w w') := by
 have hM := Mem.start hX
 refine calls_of hM Tryz.func113 Tryz.ntmps113 ?_
 refine CG.seq fun K_ k1 => ?_
 refine CG.lin 3 ?_
 refine GL.v (.string (bs [])) ?_
 refine GL.v (.string (bs [])) ?_
 refine GL.v (.bool false) ?_
 refine GL.k k1 ?_
 refine CG.seq fun K_ k1 => ?_
 refine CG.lin 9 ?_
 refine GL.v (.string (bs s)) ?_
 refine GL.v (.string (bs [47])) ?_
 refine GL.call (fun _ hM => lcut_ok hM.avlt s (by first | assumption | omega)) ?_
 rintro _ _ _ hM ⟨rfl, hb⟩
 refine ⟨_, _, _, rfl, hM.call hb, ?_⟩
 refine GL.v (.string (bs (cutTop s))) ?_
 refine GL.v (.string (bs (cutRest s))) ?_
 refine GL.v (.bool (s.contains 47)) ?_
 refine GL.v (.string (bs (cutTop s))) ?_
 refine GL.v (.string (bs (cutRest s))) ?_
 refine GL.v (.bool (s.contains 47)) ?_
 refine GL.k k1 ?_
 refine CG.ret (QG.ret (fun _ hM => results_three rfl (res_tmp rfl) (res_tmp rfl) (res_tmp rfl)) ?_)
 intro _ hM
 exact ⟨rfl, hM.below⟩

set_option maxRecDepth 100000 in
set_option maxHeartbeats 400000 in
theorem ParseZ_ok {w : World} {X : Nat → Prop} (hX : ∀ k, X k → k < w.heap.size) (s : List UInt8) (p1 : s.length ≤ 4611686018427387904) :
    Calls Tryz.prog 21 #[.string (bs s)] w (fun e w' => ∃ Ar1 nr1 cr1 mr1, e = .returned (.tuple #[.agg #[.slice Ar1 nr1 cr1, .bool mr1], .int .i64 ((parseZ s).2)]) ∧ Zk.R X w' [.slice Ar1 nr1 cr1, .bool mr1] ((parseZ s).1) ∧ Below w.heap.size w w') := by
 have hM := Mem.start hX
 refine calls_of hM Tryz.func21 Tryz.ntmps21 ?_
 refine CG.seq fun K_ k1 => ?_
 refine CG.lin 2 ?_
 refine GL.aA zer28 fun g21 => ?_
 refine GL.v (.int .i64 0) ?_
 refine GL.k k1 ?_
 refine CG.seq fun K_ k1 => ?_
 refine CG.seq fun K_ k2 => ?_
 refine CG.lin 3 ?_
 refine GL.v (.string (bs s)) ?_
 refine GL.v (.int .i64 (s.length : Int)) ?_ (hr := fun u => op_slen (L := s) (by kernel_rfl) (by kernel_rfl) (by (try simp only [List.length_append, List.length_cons, List.length_nil]); omega))
 refine GL.v (.bool (decide ((s.length : Int) > (1000 : Int)))) ?_
 refine GL.k k2 ?_
 by_cases hc22 : (s.length : Int) > (1000 : Int)
 · have hk22 : (decide ((s.length : Int) > (1000 : Int))) = true := decide_eq_true hc22
   refine CG.yes ?_ hk22 rfl
   refine CG.seq fun K_ k2 => ?_
   refine CG.lin 3 ?_
   refine GL.v (.agg #[.slice none 0 0, .bool false]) ?_
   refine GL.sA (cs' := #[.slice none 0 0, .bool false]) (fun _ _ => Mem.st0) (fun _ hM => hM.b 0 rfl) siz28 ?_
   refine GL.v (.int .i64 5) ?_
   refine GL.k k2 ?_
   refine CG.ret (QG.then_ret (QG.ret (fun _ hM => results_two rfl (res_cell rfl (loadVar_agg agg28 siz28 (hM.b 0 rfl) rfl rfl)) (res_tmp rfl)) ?_))
   intro _ hM
   exact ⟨_, _, _, _, (by rw [(congrArg Prod.snd (show parseZ s = ((0, 5) : Int × Int) from if_pos (by omega)))] <;> rfl), ((show (0 : Int) = (parseZ s).1 from (congrArg Prod.fst (show parseZ s = ((0, 5) : Int × Int) from if_pos (by omega))).symm) ▸ (hM.out (Zk.nil _ _ none 0))), hM.below⟩
 · have hk22 : (decide ((s.length : Int) > (1000 : Int))) = false := decide_eq_false hc22
   refine CG.no ?_ hk22 rfl
   refine CG.skip ?_
   refine QG.k k1 ?_
   refine CG.seq fun K_ k1 => ?_
   refine CG.lin 7 ?_
   refine GL.v (.string (bs s)) ?_
   refine GL.call (fun _ hM => cutprefix_ok hM.avlt s) ?_
   rintro _ _ _ hM ⟨rfl, hb⟩
   have hl23 := strip_len s
   refine ⟨_, _, _, rfl, hM.call hb, ?_⟩
   refine GL.v (.tuple #[.string (bs (strip s)), .bool (decide (s.head? = some 45))]) ?_
   refine GL.v (.string (bs (strip s))) ?_
   refine GL.v (.bool (decide (s.head? = some 45))) ?_
   refine GL.v (.string (bs (strip s))) ?_
   refine GL.v (.bool (decide (s.head? = some 45))) ?_
   refine GL.k k1 ?_
   refine CG.seq fun K_ k1 => ?_
   refine CG.seq fun K_ k2 => ?_
   refine CG.lin 3 ?_
   refine GL.v (.string (bs (strip s))) ?_
   refine GL.call (fun _ hM => isDigits_ok hM.avlt (strip s) (by first | assumption | omega)) ?_
   rintro _ _ _ hM ⟨rfl, hb⟩
   refine ⟨_, _, _, rfl, hM.call hb, ?_⟩
   refine GL.v (.bool (!(isDs (strip s)))) ?_
   refine GL.k k2 ?_
   by_cases hc25 : ¬ isDs (strip s) = true
   · have hk25 : (!(isDs (strip s))) = true := by simpa using hc25
     refine CG.yes ?_ hk25 rfl
     refine CG.seq fun K_ k2 => ?_
     refine CG.lin 3 ?_
     refine GL.v (.agg #[.slice none 0 0, .bool false]) ?_
     refine GL.sA (cs' := #[.slice none 0 0, .bool false]) (fun _ _ => Mem.st0) (fun _ hM => hM.b 0 rfl) siz28 ?_
     refine GL.v (.int .i64 4) ?_
     refine GL.k k2 ?_
     refine CG.ret (QG.then_ret (QG.ret (fun _ hM => results_two rfl (res_cell rfl (loadVar_agg agg28 siz28 (hM.b 0 rfl) rfl rfl)) (res_tmp rfl)) ?_))
     intro _ hM
     exact ⟨_, _, _, _, (by rw [(congrArg Prod.snd (show parseZ s = ((0, 4) : Int × Int) from (if_neg (by omega)).trans (if_neg (by simpa using hc25))))] <;> rfl), ((show (0 : Int) = (parseZ s).1 from (congrArg Prod.fst (show parseZ s = ((0, 4) : Int × Int) from (if_neg (by omega)).trans (if_neg (by simpa using hc25)))).symm) ▸ (hM.out (Zk.nil _ _ none 0))), hM.below⟩
   · have hk25 : (!(isDs (strip s))) = false := by simpa using hc25
     have hd25 := isDs_all (s := (strip s)) (by simpa using hc25)
     refine CG.no ?_ hk25 rfl
     refine CG.skip ?_
     refine QG.k k1 ?_
     refine CG.seq fun K_ k1 => ?_
     refine CG.lin 6 ?_
     refine GL.v (.bool (decide (s.head? = some 45))) ?_
     refine GL.v (.string (bs (strip s))) ?_
     refine GL.call (fun _ hM => read_ok hM.avlt (strip s) (by first | assumption | omega) (by first | assumption | omega)) ?_
     rintro _ _ _ hM ⟨A26, n26, c26, rfl, h26, hb⟩
     have hs26 := num_szn_all (strip s) (by assumption)
     refine ⟨_, _, _, rfl, (hM.call hb).add h26, ?_⟩
     refine GL.call (fun _ hM => made_ok hM.avlt (decide (s.head? = some 45)) (hM.f 0 rfl)) ?_
     rintro _ _ _ hM ⟨A27, n27, c27, m27, rfl, h27, hb⟩
     refine ⟨_, _, _, rfl, (hM.call hb).add h27, ?_⟩
     refine GL.sA (cs' := #[.slice A27 n27 c27, .bool m27]) (fun _ _ => Mem.st0) (fun _ hM => hM.b 0 rfl) siz28 ?_
     refine GL.v (.int .i64 0) ?_
     refine GL.k k1 ?_
     refine CG.ret (QG.ret (fun _ hM => results_two rfl (res_cell rfl (loadVar_agg agg28 siz28 (hM.b 0 rfl) rfl rfl)) (res_tmp rfl)) ?_)
     intro _ hM
     exact ⟨_, _, _, _, (by rw [(congrArg Prod.snd (show parseZ s = ((mk (decide (s.head? = some 45)) (num (strip s)), 0) : Int × Int) from (if_neg (by omega)).trans (if_pos (by simpa using hc25))))] <;> rfl), ((show (mk (decide (s.head? = some 45)) (num (strip s)) : Int) = (parseZ s).1 from (congrArg Prod.fst (show parseZ s = ((mk (decide (s.head? = some 45)) (num (strip s)), 0) : Int × Int) from (if_neg (by omega)).trans (if_pos (by simpa using hc25)))).symm) ▸ (hM.out (hM.f 0 rfl))), hM.below⟩

set_option maxRecDepth 100000 in
set_option maxHeartbeats 400000 in
theorem Parse_ok {w : World} {X : Nat → Prop} (hX : ∀ k, X k → k < w.heap.size) (s : List UInt8) (p1 : s.length ≤ 4611686018427387904) :
    Calls Tryz.prog 22 #[.string (bs s)] w (fun e w' => ∃ Ar1 nr1 cr1 mr1 Ar1_ nr1_ cr1_, e = .returned (.tuple #[.agg #[.slice Ar1 nr1 cr1, .bool mr1, .slice Ar1_ nr1_ cr1_], .int .i64 ((parseR s).2)]) ∧ Rk.R X w' [.slice Ar1 nr1 cr1, .bool mr1, .slice Ar1_ nr1_ cr1_] ((parseR s).1) ∧ Below w.heap.size w w') := by
 have hM := Mem.start hX
 refine calls_of hM Tryz.func22 Tryz.ntmps22 ?_
 refine CG.seq fun K_ k1 => ?_
 refine CG.lin 2 ?_
 refine GL.aA zer48 fun g21 => ?_
 refine GL.v (.int .i64 0) ?_
 refine GL.k k1 ?_
 refine CG.seq fun K_ k1 => ?_
 refine CG.seq fun K_ k2 => ?_
 refine CG.lin 3 ?_
 refine GL.v (.string (bs s)) ?_
 refine GL.v (.int .i64 (s.length : Int)) ?_ (hr := fun u => op_slen (L := s) (by kernel_rfl) (by kernel_rfl) (by (try simp only [List.length_append, List.length_cons, List.length_nil]); omega))
 refine GL.v (.bool (decide ((s.length : Int) > (1000 : Int)))) ?_
 refine GL.k k2 ?_
 by_cases hc22 : (s.length : Int) > (1000 : Int)
 · have hk22 : (decide ((s.length : Int) > (1000 : Int))) = true := decide_eq_true hc22
   refine CG.yes ?_ hk22 rfl
   refine CG.seq fun K_ k2 => ?_
   refine CG.lin 3 ?_
   refine GL.v (.agg #[.slice none 0 0, .bool false, .slice none 0 0]) ?_
   refine GL.sA (cs' := #[.slice none 0 0, .bool false, .slice none 0 0]) (fun _ _ => Mem.st0) (fun _ hM => hM.b 0 rfl) siz48 ?_
   refine GL.v (.int .i64 5) ?_
   refine GL.k k2 ?_
   refine CG.ret (QG.then_ret (QG.ret (fun _ hM => results_two rfl (res_cell rfl (loadVar_agg agg48 siz48 (hM.b 0 rfl) rfl rfl)) (res_tmp rfl)) ?_))
   intro _ hM
   exact ⟨_, _, _, _, _, _, _, (by rw [(congrArg Prod.snd (parseR_long (s := s) (by omega)))] <;> rfl), ((show (0 : Rat) = (parseR s).1 from (congrArg Prod.fst (parseR_long (s := s) (by omega))).symm) ▸ (hM.out (Rk.nil _ _ none none 0 0))), hM.below⟩
 · have hk22 : (decide ((s.length : Int) > (1000 : Int))) = false := decide_eq_false hc22
   refine CG.no ?_ hk22 rfl
   refine CG.skip ?_
   refine QG.k k1 ?_
   refine CG.seq fun K_ k1 => ?_
   refine CG.lin 9 ?_
   refine GL.v (.string (bs s)) ?_
   refine GL.call (fun _ hM => cut_ok hM.avlt s (by first | assumption | omega)) ?_
   rintro _ _ _ hM ⟨rfl, hb⟩
   have hl23 := cutTop_len s
   have hm23 := cutRest_len s
   refine ⟨_, _, _, rfl, hM.call hb, ?_⟩
   refine GL.v (.tuple #[.string (bs (cutTop s)), .string (bs (cutRest s)), .bool (s.contains 47)]) ?_
   refine GL.v (.string (bs (cutTop s))) ?_
   refine GL.v (.string (bs (cutRest s))) ?_
   refine GL.v (.bool (s.contains 47)) ?_
   refine GL.v (.string (bs (cutTop s))) ?_
   refine GL.v (.string (bs (cutRest s))) ?_
   refine GL.v (.bool (s.contains 47)) ?_
   refine GL.k k1 ?_
   refine CG.seq fun K_ k1 => ?_
   refine CG.lin 8 ?_
   refine GL.v (.string (bs (cutTop s))) ?_
   refine GL.call (fun _ hM => ParseZ_ok hM.avlt (cutTop s) (by first | assumption | omega)) ?_
   rintro _ _ _ hM ⟨A24a, n24a, c24a, m24a, rfl, h24a, hb⟩
   have hz24 := parseZ_sz (cutTop s)
   refine ⟨_, _, _, rfl, (hM.call hb).add h24a, ?_⟩
   refine GL.v (.tuple #[.agg #[.slice A24a n24a c24a, .bool m24a], .int .i64 ((parseZ (cutTop s)).2)]) ?_
   refine GL.v (.agg #[.slice A24a n24a c24a, .bool m24a]) ?_
   refine GL.v (.int .i64 ((parseZ (cutTop s)).2)) ?_
   refine GL.aA zer28 fun g25 => ?_
   refine GL.sA (cs' := #[.slice A24a n24a c24a, .bool m24a]) (fun _ _ => Mem.st0) (fun _ hM => hM.b 0 rfl) siz28 ?_
   refine GL.v (.int .i64 ((parseZ (cutTop s)).2)) ?_
   refine GL.k k1 ?_
   refine CG.seq fun K_ k1 => ?_
   refine CG.seq fun K_ k2 => ?_
   by_cases hc26 : ((parseZ (cutTop s)).2) ≠ (0 : Int)
   · have hk26 : (((parseZ (cutTop s)).2) != (0 : Int)) = true := bne_iff_ne.2 hc26
     refine CG.lin 10 ?_
     refine GL.v (.int .i64 ((parseZ (cutTop s)).2)) ?_
     refine GL.v (.bool true) ?_ (hr := fun u => op_b (b := (((parseZ (cutTop s)).2) != (0 : Int))) (by kernel_rfl) hk26)
     refine GL.v (.bool true) ?_
     refine GL.sk ?_
     refine GL.sk ?_
     refine GL.sk ?_
     refine GL.sk ?_
     refine GL.sk ?_
     refine GL.sk ?_
     refine GL.v (.bool true) ?_
     refine GL.k k2 ?_
     refine CG.yes ?_ rfl rfl
     refine CG.seq fun K_ k2 => ?_
     refine CG.lin 3 ?_
     refine GL.v (.agg #[.slice none 0 0, .bool false, .slice none 0 0]) ?_
     refine GL.sA (cs' := #[.slice none 0 0, .bool false, .slice none 0 0]) (fun _ _ => Mem.st1) (fun _ hM => hM.b 1 rfl) siz48 ?_
     refine GL.v (.int .i64 4) ?_
     refine GL.k k2 ?_
     refine CG.ret (QG.then_ret (QG.ret (fun _ hM => results_two rfl (res_cell rfl (loadVar_agg agg48 siz48 (hM.b 1 rfl) rfl rfl)) (res_tmp rfl)) ?_))
     intro _ hM
     exact ⟨_, _, _, _, _, _, _, (by rw [(congrArg Prod.snd (parseR_top (s := s) (by omega) hc26))] <;> rfl), ((show (0 : Rat) = (parseR s).1 from (congrArg Prod.fst (parseR_top (s := s) (by omega) hc26)).symm) ▸ (hM.out (Rk.nil _ _ none none 0 0))), hM.below⟩
   · have hk26 : (((parseZ (cutTop s)).2) != (0 : Int)) = false := by simpa using hc26
     by_cases hc27 : s.contains 47 = true
     · have hk27 : (s.contains 47) = true := hc27
       by_cases hc28 : isDs (cutRest s) = true
       · have hk28 : (isDs (cutRest s)) = true := hc28
         have hd28 := isDs_all (s := (cutRest s)) (by simpa using hc28)
         refine CG.lin 10 ?_
         refine GL.v (.int .i64 ((parseZ (cutTop s)).2)) ?_
         refine GL.v (.bool false) ?_ (hr := fun u => op_b (b := (((parseZ (cutTop s)).2) != (0 : Int))) (by kernel_rfl) hk26)
         refine GL.v (.bool false) ?_
         refine GL.v (.bool true) ?_ (hr := fun u => op_b (b := (s.contains 47)) (by kernel_rfl) hk27)
         refine GL.v (.bool true) ?_
         refine GL.v (.string (bs (cutRest s))) ?_
         refine GL.call (fun _ hM => isDigits_ok hM.avlt (cutRest s) (by first | assumption | omega)) ?_
         rintro _ _ _ hM ⟨rfl, hb⟩
         refine ⟨.bool true, _, _, (ret_bool hk28), hM.call hb, ?_⟩
         refine GL.v (.bool false) ?_
         refine GL.v (.bool false) ?_
         refine GL.v (.bool false) ?_
         refine GL.k k2 ?_
         refine CG.no ?_ rfl rfl
         refine CG.skip ?_
         refine QG.k k1 ?_
         refine CG.seq fun K_ k1 => ?_
         refine CG.seq fun K_ k2 => ?_
         refine CG.lin 2 ?_
         refine GL.v (.bool true) ?_ (hr := fun u => op_b (b := (s.contains 47)) (by kernel_rfl) hk27)
         refine GL.v (.bool false) ?_
         refine GL.k k2 ?_
         refine CG.no ?_ rfl rfl
         refine CG.skip ?_
         refine QG.k k1 ?_
         refine CG.seq fun K_ k1 => ?_
         by_cases hc30 : num (cutRest s) = 0
         · have hk30 : (decide (num (cutRest s) = 0)) = true := decide_eq_true hc30
           refine CG.draw [] [0, 1, 3, 5, 6] (.step 0 (.step 1 (.step 2 (.step 3 (.step 4 (.step 5 (.step 6 (.step 7 (.step 8 .done))))))))) (fun V hV31 => ?_)
           refine GD.er (.agg #[.slice A24a n24a c24a, .bool m24a]) (fun _ hS => op_load_agg (off := 0) (by kernel_rfl) agg28 siz28 (hV31.bS 0 rfl hS) rfl rfl) ?_
           refine GD.ev (.string (bs (cutRest s))) ?_
           refine GD.call (fun _ hM => read_ok hM.avlt (cutRest s) (by first | assumption | omega) (by first | assumption | omega)) ?_
           rintro _ _ _ hM ⟨A32, n32, c32, rfl, h32, hb⟩
           have hs32 := num_szn_all (cutRest s) (by assumption)
           refine ⟨_, _, _, rfl, hb, (hM.call hb).add h32, ?_⟩
           refine GD.ev (.agg #[.slice A32 n32 c32, .bool false]) ?_
           refine GD.call (fun _ hM => OfZ_zero hM.avlt (hM.f 1 rfl) (Zk.ofD (hM.f 0 rfl)) (by first | assumption | omega)) ?_
           rintro _ _ _ hM ⟨A33a, n33a, c33a, m33a, A33a_, n33a_, c33a_, rfl, h33a, hb⟩
           refine ⟨_, _, _, rfl, hb, (hM.call hb).add h33a, ?_⟩
           refine GD.ev (.agg #[.slice A33a n33a c33a, .bool m33a, .slice A33a_ n33a_ c33a_]) ?_
           refine GD.ev (.int .i64 9) ?_
           refine GD.st (fun _ _ => Mem.st1) (fun _ hM => store_all (cs' := #[.slice A33a n33a c33a, .bool m33a, .slice A33a_ n33a_ c33a_]) siz48 (hM.b 1 rfl) (by kernel_rfl) (by kernel_rfl) rfl rfl rfl) ?_
           refine GD.v (.int .i64 9) ?_
           refine GD.k k1 ?_
           refine CG.ret (QG.ret (fun _ hM => results_two rfl (res_cell rfl (loadVar_agg agg48 siz48 (hM.b 1 rfl) rfl rfl)) (res_tmp rfl)) ?_)
           intro _ hM
           exact ⟨_, _, _, _, _, _, _, (by rw [(congrArg Prod.snd (parseR_zero (s := s) (by omega) hc26 hc27 hc28 hc30))] <;> rfl), ((show (0 : Rat) = (parseR s).1 from (congrArg Prod.fst (parseR_zero (s := s) (by omega) hc26 hc27 hc28 hc30)).symm) ▸ (hM.out (hM.f 0 rfl))), hM.below⟩
         · have hk30 : (decide (num (cutRest s) = 0)) = false := decide_eq_false hc30
           refine CG.draw [] [0, 1, 3, 5, 6] (.step 0 (.step 1 (.step 2 (.step 3 (.step 4 (.step 5 (.step 6 (.step 7 (.step 8 .done))))))))) (fun V hV34 => ?_)
           refine GD.er (.agg #[.slice A24a n24a c24a, .bool m24a]) (fun _ hS => op_load_agg (off := 0) (by kernel_rfl) agg28 siz28 (hV34.bS 0 rfl hS) rfl rfl) ?_
           refine GD.ev (.string (bs (cutRest s))) ?_
           refine GD.call (fun _ hM => read_ok hM.avlt (cutRest s) (by first | assumption | omega) (by first | assumption | omega)) ?_
           rintro _ _ _ hM ⟨A35, n35, c35, rfl, h35, hb⟩
           have hs35 := num_szn_all (cutRest s) (by assumption)
           refine ⟨_, _, _, rfl, hb, (hM.call hb).add h35, ?_⟩
           refine GD.ev (.agg #[.slice A35 n35 c35, .bool false]) ?_
           refine GD.call (fun _ hM => OfZ_ok hM.avlt (hM.f 1 rfl) (Zk.ofD (hM.f 0 rfl)) (by first | assumption | omega) (by rw [sz_nat]; omega)) ?_
           rintro _ _ _ hM ⟨A36a, n36a, c36a, m36a, A36a_, n36a_, c36a_, rfl, h36a, hb⟩
           have hs36 := szR_divInt2 (((parseZ (cutTop s)).1)) ((num (cutRest s) : Int))
           refine ⟨_, _, _, rfl, hb, (hM.call hb).add h36a, ?_⟩
           refine GD.ev (.agg #[.slice A36a n36a c36a, .bool m36a, .slice A36a_ n36a_ c36a_]) ?_
           refine GD.ev (.int .i64 0) ?_
           refine GD.st (fun _ _ => Mem.st1) (fun _ hM => store_all (cs' := #[.slice A36a n36a c36a, .bool m36a, .slice A36a_ n36a_ c36a_]) siz48 (hM.b 1 rfl) (by kernel_rfl) (by kernel_rfl) rfl rfl rfl) ?_
           refine GD.v (.int .i64 0) ?_
           refine GD.k k1 ?_
           refine CG.ret (QG.ret (fun _ hM => results_two rfl (res_cell rfl (loadVar_agg agg48 siz48 (hM.b 1 rfl) rfl rfl)) (res_tmp rfl)) ?_)
           intro _ hM
           exact ⟨_, _, _, _, _, _, _, (by rw [(congrArg Prod.snd (parseR_frac (s := s) (by omega) hc26 hc27 hc28 hc30))] <;> rfl), ((show (Rat.divInt ((parseZ (cutTop s)).1) (num (cutRest s) : Int) : Rat) = (parseR s).1 from (congrArg Prod.fst (parseR_frac (s := s) (by omega) hc26 hc27 hc28 hc30)).symm) ▸ (hM.out (hM.f 0 rfl))), hM.below⟩
       · have hk28 : (isDs (cutRest s)) = false := by simpa using hc28
         refine CG.lin 10 ?_
         refine GL.v (.int .i64 ((parseZ (cutTop s)).2)) ?_
         refine GL.v (.bool false) ?_ (hr := fun u => op_b (b := (((parseZ (cutTop s)).2) != (0 : Int))) (by kernel_rfl) hk26)
         refine GL.v (.bool false) ?_
         refine GL.v (.bool true) ?_ (hr := fun u => op_b (b := (s.contains 47)) (by kernel_rfl) hk27)
         refine GL.v (.bool true) ?_
         refine GL.v (.string (bs (cutRest s))) ?_
         refine GL.call (fun _ hM => isDigits_ok hM.avlt (cutRest s) (by first | assumption | omega)) ?_
         rintro _ _ _ hM ⟨rfl, hb⟩
         refine ⟨.bool false, _, _, (ret_bool hk28), hM.call hb, ?_⟩
         refine GL.v (.bool true) ?_
         refine GL.v (.bool true) ?_
         refine GL.v (.bool true) ?_
         refine GL.k k2 ?_
         refine CG.yes ?_ rfl rfl
         refine CG.seq fun K_ k2 => ?_
         refine CG.lin 3 ?_
         refine GL.v (.agg #[.slice none 0 0, .bool false, .slice none 0 0]) ?_
         refine GL.sA (cs' := #[.slice none 0 0, .bool false, .slice none 0 0]) (fun _ _ => Mem.st1) (fun _ hM => hM.b 1 rfl) siz48 ?_
         refine GL.v (.int .i64 4) ?_
         refine GL.k k2 ?_
         refine CG.ret (QG.then_ret (QG.ret (fun _ hM => results_two rfl (res_cell rfl (loadVar_agg agg48 siz48 (hM.b 1 rfl) rfl rfl)) (res_tmp rfl)) ?_))
         intro _ hM
         exact ⟨_, _, _, _, _, _, _, (by rw [(congrArg Prod.snd (parseR_bad (s := s) (by omega) hc26 hc27 hc28))] <;> rfl), ((show (0 : Rat) = (parseR s).1 from (congrArg Prod.fst (parseR_bad (s := s) (by omega) hc26 hc27 hc28)).symm) ▸ (hM.out (Rk.nil _ _ none none 0 0))), hM.below⟩
     · have hk27 : (s.contains 47) = false := by simpa using hc27
       refine CG.lin 10 ?_
       refine GL.v (.int .i64 ((parseZ (cutTop s)).2)) ?_
       refine GL.v (.bool false) ?_ (hr := fun u => op_b (b := (((parseZ (cutTop s)).2) != (0 : Int))) (by kernel_rfl) hk26)
       refine GL.v (.bool false) ?_
       refine GL.v (.bool false) ?_ (hr := fun u => op_b (b := (s.contains 47)) (by kernel_rfl) hk27)
       refine GL.v (.bool false) ?_
       refine GL.sk ?_
       refine GL.sk ?_
       refine GL.sk ?_
       refine GL.v (.bool false) ?_
       refine GL.v (.bool false) ?_
       refine GL.k k2 ?_
       refine CG.no ?_ rfl rfl
       refine CG.skip ?_
       refine QG.k k1 ?_
       refine CG.seq fun K_ k1 => ?_
       refine CG.seq fun K_ k2 => ?_
       refine CG.lin 2 ?_
       refine GL.v (.bool false) ?_ (hr := fun u => op_b (b := (s.contains 47)) (by kernel_rfl) hk27)
       refine GL.v (.bool true) ?_
       refine GL.k k2 ?_
       refine CG.yes ?_ rfl rfl
       refine CG.seq fun K_ k2 => ?_
       refine CG.lin 4 ?_
       refine GL.r (.agg #[.slice A24a n24a c24a, .bool m24a]) (fun _ hM => op_load_agg (off := 0) (by kernel_rfl) agg28 siz28 (hM.b 0 rfl) rfl rfl) ?_
       refine GL.call (fun _ hM => Whole_ok hM.avlt (hM.f 0 rfl)) ?_
       rintro _ _ _ hM ⟨A38, n38, c38, m38, A38_, n38_, c38_, rfl, h38, hb⟩
       have hs38 := szR_int (((parseZ (cutTop s)).1))
       refine ⟨_, _, _, rfl, (hM.call hb).add h38, ?_⟩
       refine GL.sA (cs' := #[.slice A38 n38 c38, .bool m38, .slice A38_ n38_ c38_]) (fun _ _ => Mem.st1) (fun _ hM => hM.b 1 rfl) siz48 ?_
       refine GL.v (.int .i64 0) ?_
       refine GL.k k2 ?_
       refine CG.ret (QG.then_ret (QG.ret (fun _ hM => results_two rfl (res_cell rfl (loadVar_agg agg48 siz48 (hM.b 1 rfl) rfl rfl)) (res_tmp rfl)) ?_))
       intro _ hM
       exact ⟨_, _, _, _, _, _, _, (by rw [(congrArg Prod.snd (parseR_int (s := s) (by omega) hc26 hc27))] <;> rfl), ((show ((((parseZ (cutTop s)).1) : Rat) : Rat) = (parseR s).1 from (congrArg Prod.fst (parseR_int (s := s) (by omega) hc26 hc27)).symm) ▸ (hM.out (hM.f 0 rfl))), hM.below⟩

set_option maxRecDepth 100000 in
set_option maxHeartbeats 400000 in
theorem foldadd_ok {w : World} {X : Nat → Prop} {A1 : Option Addr} {n1 : Nat} {c1 : Nat} {l : List Rat} (hX : ∀ k, X k → k < w.heap.size) (h1 : (LKd Rk 48 3).R X w [.slice A1 n1 c1] l) (p1 : ∀ i, i < l.length → szR (foldR (· + ·) (l.take i)) + szR (l.getD i 0) ≤ 68719476736) :
    Calls Tryz.prog 124 #[.slice A1 n1 c1, .func (.func 67) #[] #[]] w (fun e w' => ∃ Ar nr cr mr Ar_ nr_ cr_, e = .returned (.agg #[.slice Ar nr cr, .bool mr, .slice Ar_ nr_ cr_]) ∧ Rk.R X w' [.slice Ar nr cr, .bool mr, .slice Ar_ nr_ cr_] (foldR (· + ·) l) ∧ Below w.heap.size w w') := by
 have hM := (Mem.start hX).add0 h1
 have hl := LKd.len h1
 have hl2 := LKd.le h1
 refine calls_of hM Tryz.func124 Tryz.ntmps124 ?_
 refine CG.seq fun K_ k1 => ?_
 refine CG.lin 1 ?_
 refine GL.aA zer48 fun g21 => ?_
 refine GL.k k1 ?_
 refine CG.seq fun K_ k1 => ?_
 refine CG.lin 1 ?_
 refine GL.aA zer48 fun g22 => ?_
 refine GL.k k1 ?_
 refine CG.seq fun K_ k1 => ?_
 refine CG.seq fun K_ k2 => ?_
 refine CG.lin 3 ?_
 refine GL.v (.slice A1 n1 c1) ?_
 refine GL.v (.int .i64 (n1 : Int)) ?_
 refine GL.v (.int .i64 0) ?_
 refine GL.k k2 ?_
 refine CG.block ?_
 refine CG.loop (fun m_ a_ u_ => ∃ (Ao : Option Addr) (no : Nat) (co : Nat) (mo : Bool) (Ao_ : Option Addr) (no_ : Nat) (co_ : Nat) (o : Rat) (i : Nat) (j23 : Nat → Value), a_ = ⟨#[.slice A1 n1 c1, .func (.func 67) #[] #[], undef, undef, .pointer (some ⟨g21, 0, none⟩), .pointer (some ⟨g22, 0, none⟩), (j23 6), (j23 7), .slice A1 n1 c1, .int .i64 (n1 : Int), .int .i64 (i : Int), (j23 11), (j23 12), (j23 13), (j23 14), (j23 15), (j23 16), (j23 17), (j23 18), (j23 19), (j23 20), (j23 21), (j23 22), undef], []⟩ ∧ m_ = l.length - i ∧ Mem w [] X u_ [.box g22 #[.slice Ao no co, .bool mo, .slice Ao_ no_ co_] 48, .box g21 #[.slice none 0 0, .bool false, .slice none 0 0] 48] [⟨Rk, [.slice Ao no co, .bool mo, .slice Ao_ no_ co_], o⟩, ⟨(LKd Rk 48 3), [.slice A1 n1 c1], l⟩] ∧ (i ≤ l.length) ∧ (o = foldR (· + ·) (l.take i))) (fun _ hM => ⟨_, none, 0, 0, false, none, 0, 0, 0, 0, (fun t => (#[.slice A1 n1 c1, .func (.func 67) #[] #[], undef, undef, .pointer (some ⟨g21, 0, none⟩), .pointer (some ⟨g22, 0, none⟩), undef, undef, .slice A1 n1 c1, .int .i64 (n1 : Int), .int .i64 0, undef, undef, undef, undef, undef, undef, undef, undef, undef, undef, undef, undef, undef] : Array Value).getD t undef), (by kernel_rfl), rfl, ((hM.clr).add (hM.f 0 rfl)).add (Rk.nil _ _ none none 0 0), (by omega), rfl⟩) ?_
 rintro m_ a_ u_ ⟨Ao, no, co, mo, Ao_, no_, co_, o, i, j23, rfl, hm23, hM, hi, ho⟩
 refine CG.go hM ?_
 refine CG.seq fun K_ k2 => ?_
 refine CG.lin 1 ?_
 refine GL.v (.bool (decide ((i : Int) < (n1 : Int)))) ?_
 refine GL.k k2 ?_
 refine CG.seq fun K_ k2 => ?_
 by_cases hc24 : (i : Int) < (n1 : Int)
 · have hk24 : (decide ((i : Int) < (n1 : Int))) = true := decide_eq_true hc24
   refine CG.yes ?_ hk24 rfl
   refine CG.skip ?_
   refine QG.k k2 ?_
   refine CG.seq fun K_ k2 => ?_
   refine CG.block ?_
   refine CG.seq fun K_ k3 => ?_
   refine CG.lin 6 ?_
   refine GL.v (.int .i64 (i : Int)) ?_
   refine GL.r (elemPtr A1 (i * 3)) (fun _ hM => op_index_k rowk97 (by decide) (kd := .i64) (i := (i : Int)) i (by kernel_rfl) (by kernel_rfl) (by omega) (by omega) (hM.f 1 rfl) _) ?_
   refine GL.exR (x := l.getD i 0) (fun _ hM => op_load_k rowk97 (by decide) (by kernel_rfl) (hM.f 1 rfl) (by omega) (getD_at _ (by have := LKd.len (hM.f 1 rfl); omega))) fun A25 n25 c25 m25 A25_ n25_ c25_ => ?_
   refine GL.aA zer48 fun g26 => ?_
   refine GL.v (.int .i64 (i : Int)) ?_
   refine GL.sA (cs' := #[.slice A25 n25 c25, .bool m25, .slice A25_ n25_ c25_]) (fun _ _ => Mem.st0) (fun _ hM => hM.b 0 rfl) siz48 ?_
   refine GL.k k3 ?_
   refine CG.seq fun K_ k3 => ?_
   refine CG.lin 2 ?_
   refine GL.v (.int .i64 (i : Int)) ?_
   refine GL.v (.bool ((i : Int) == (0 : Int))) ?_
   refine GL.k k3 ?_
   by_cases hc27 : (i : Int) = (0 : Int)
   · have hk27 : ((i : Int) == (0 : Int)) = true := beq_iff_eq.2 hc27
     refine CG.yes ?_ hk27 rfl
     refine CG.lin 2 ?_
     refine GL.r (.agg #[.slice A25 n25 c25, .bool m25, .slice A25_ n25_ c25_]) (fun _ hM => op_load_agg (off := 0) (by kernel_rfl) agg48 siz48 (hM.b 0 rfl) rfl rfl) ?_
     refine GL.sA (cs' := #[.slice A25 n25 c25, .bool m25, .slice A25_ n25_ c25_]) (fun _ _ => Mem.st1) (fun _ hM => hM.b 1 rfl) siz48 ?_
     refine GL.q ?_
     refine QG.block ?_
     refine QG.k k2 ?_
     refine CG.lin 2 ?_
     refine GL.v (.int .i64 ((i + 1 : Nat) : Int)) ?_ (hr := fun u => op_to (v := .int .i64 (IntKind.wrap .i64 ((i : Int) + (1 : Int)))) (by kernel_rfl) (wrap_i64 (by omega) (by omega) (by omega)))
     refine GL.v (.int .i64 ((i + 1 : Nat) : Int)) ?_
     refine GL.q ?_
     refine QG.again fun _ hM => ?_
     exact ⟨l.length - (i + 1), (by omega), A25, n25, c25, m25, A25_, n25_, c25_, (l.getD i 0), (i + 1), (fun t => (#[.slice A1 n1 c1, .func (.func 67) #[] #[], undef, undef, .pointer (some ⟨g21, 0, none⟩), .pointer (some ⟨g22, 0, none⟩), .int .i64 (i : Int), .pointer (some ⟨g26, 0, none⟩), .slice A1 n1 c1, .int .i64 (n1 : Int), .int .i64 ((i + 1 : Nat) : Int), .bool (decide ((i : Int) < (n1 : Int))), .int .i64 (i : Int), elemPtr A1 (i * 3), .agg #[.slice A25 n25 c25, .bool m25, .slice A25_ n25_ c25_], .int .i64 (i : Int), .bool ((i : Int) == (0 : Int)), .agg #[.slice A25 n25 c25, .bool m25, .slice A25_ n25_ c25_], (j23 18), (j23 19), (j23 20), (j23 21), .int .i64 ((i + 1 : Nat) : Int), undef] : Array Value).getD t undef), (by kernel_rfl), rfl, (((hM.dropn 1).clr).add ((hM.dropn 1).f 2 rfl)).add ((hM.dropn 1).f 0 rfl), (by omega), (fold_first (by omega) (by omega))⟩
   · have hk27 : ((i : Int) == (0 : Int)) = false := beq_eq_false_iff_ne.2 hc27
     refine CG.no ?_ hk27 rfl
     refine CG.lin 5 ?_
     refine GL.v (.func (.func 67) #[] #[]) ?_
     refine GL.r (.agg #[.slice Ao no co, .bool mo, .slice Ao_ no_ co_]) (fun _ hM => op_load_agg (off := 0) (by kernel_rfl) agg48 siz48 (hM.b 1 rfl) rfl rfl) ?_
     refine GL.r (.agg #[.slice A25 n25 c25, .bool m25, .slice A25_ n25_ c25_]) (fun _ hM => op_load_agg (off := 0) (by kernel_rfl) agg48 siz48 (hM.b 0 rfl) rfl rfl) ?_
     refine GL.call (fun _ hM => RAdd_ok hM.avlt (hM.f 1 rfl) (hM.f 0 rfl) (by rw [ho]; exact p1 i (by omega))) ?_
     rintro _ _ _ hM ⟨A28, n28, c28, m28, A28_, n28_, c28_, rfl, h28, hb⟩
     have hs28 := szR_add o (l.getD i 0)
     refine ⟨_, _, _, rfl, (hM.call hb).add h28, ?_⟩
     refine GL.sA (cs' := #[.slice A28 n28 c28, .bool m28, .slice A28_ n28_ c28_]) (fun _ _ => Mem.st1) (fun _ hM => hM.b 1 rfl) siz48 ?_
     refine GL.q ?_
     refine QG.block ?_
     refine QG.k k2 ?_
     refine CG.lin 2 ?_
     refine GL.v (.int .i64 ((i + 1 : Nat) : Int)) ?_ (hr := fun u => op_to (v := .int .i64 (IntKind.wrap .i64 ((i : Int) + (1 : Int)))) (by kernel_rfl) (wrap_i64 (by omega) (by omega) (by omega)))
     refine GL.v (.int .i64 ((i + 1 : Nat) : Int)) ?_
     refine GL.q ?_
     refine QG.again fun _ hM => ?_
     exact ⟨l.length - (i + 1), (by omega), A28, n28, c28, m28, A28_, n28_, c28_, (o + (l.getD i 0)), (i + 1), (fun t => (#[.slice A1 n1 c1, .func (.func 67) #[] #[], undef, undef, .pointer (some ⟨g21, 0, none⟩), .pointer (some ⟨g22, 0, none⟩), .int .i64 (i : Int), .pointer (some ⟨g26, 0, none⟩), .slice A1 n1 c1, .int .i64 (n1 : Int), .int .i64 ((i + 1 : Nat) : Int), .bool (decide ((i : Int) < (n1 : Int))), .int .i64 (i : Int), elemPtr A1 (i * 3), .agg #[.slice A25 n25 c25, .bool m25, .slice A25_ n25_ c25_], .int .i64 (i : Int), .bool ((i : Int) == (0 : Int)), (j23 17), .func (.func 67) #[] #[], .agg #[.slice Ao no co, .bool mo, .slice Ao_ no_ co_], .agg #[.slice A25 n25 c25, .bool m25, .slice A25_ n25_ c25_], .agg #[.slice A28 n28 c28, .bool m28, .slice A28_ n28_ c28_], .int .i64 ((i + 1 : Nat) : Int), undef] : Array Value).getD t undef), (by kernel_rfl), rfl, (((hM.dropn 1).clr).add ((hM.dropn 1).f 3 rfl)).add ((hM.dropn 1).f 0 rfl), (by omega), (fold_more (f := (· + ·)) (by omega) (by omega) ho)⟩
 · have hk24 : (decide ((i : Int) < (n1 : Int))) = false := decide_eq_false hc24
   refine CG.no ?_ hk24 rfl
   refine CG.exit (QG.then_exit (QG.then_exit (QG.here ?_)))
   refine QG.k k1 ?_
   refine CG.seq fun K_ k1 => ?_
   refine CG.lin 2 ?_
   refine GL.r (.agg #[.slice Ao no co, .bool mo, .slice Ao_ no_ co_]) (fun _ hM => op_load_agg (off := 0) (by kernel_rfl) agg48 siz48 (hM.b 0 rfl) rfl rfl) ?_
   refine GL.sA (cs' := #[.slice Ao no co, .bool mo, .slice Ao_ no_ co_]) (fun _ _ => Mem.st1) (fun _ hM => hM.b 1 rfl) siz48 ?_
   refine GL.k k1 ?_
   refine CG.ret (QG.ret (fun _ hM => results_one rfl (res_cell rfl (loadVar_agg agg48 siz48 (hM.b 1 rfl) rfl rfl))) ?_)
   intro _ hM
   exact ⟨_, _, _, _, _, _, _, rfl, ((show o = foldR (· + ·) l by rw [ho, show i = l.length by omega, List.take_length]) ▸ (hM.out (hM.f 0 rfl))), hM.below⟩

set_option maxRecDepth 100000 in
set_option maxHeartbeats 400000 in
theorem Sum_ok {w : World} {X : Nat → Prop} {A1 : Option Addr} {n1 : Nat} {c1 : Nat} {l : List Rat} (hX : ∀ k, X k → k < w.heap.size) (h1 : (LKd Rk 48 3).R X w [.slice A1 n1 c1] l) (p1 : ∀ i, i < l.length → szR (foldR (· + ·) (l.take i)) + szR (l.getD i 0) ≤ 68719476736) :
    Calls Tryz.prog 78 #[.slice A1 n1 c1] w (fun e w' => ∃ Ar nr cr mr Ar_ nr_ cr_, e = .returned (.agg #[.slice Ar nr cr, .bool mr, .slice Ar_ nr_ cr_]) ∧ Rk.R X w' [.slice Ar nr cr, .bool mr, .slice Ar_ nr_ cr_] (foldR (· + ·) l) ∧ Below w.heap.size w w') := by
 have hM := (Mem.start hX).add0 h1
 refine calls_of hM Tryz.func78 Tryz.ntmps78 ?_
 refine CG.seq fun K_ k1 => ?_
 refine CG.lin 1 ?_
 refine GL.aA zer48 fun g21 => ?_
 refine GL.k k1 ?_
 refine CG.seq fun K_ k1 => ?_
 refine CG.lin 3 ?_
 refine GL.v (.slice A1 n1 c1) ?_
 refine GL.call (fun _ hM => foldadd_ok hM.avlt (hM.f 0 rfl) (by first | assumption | omega)) ?_
 rintro _ _ _ hM ⟨A22, n22, c22, m22, A22_, n22_, c22_, rfl, h22, hb⟩
 refine ⟨_, _, _, rfl, (hM.call hb).add h22, ?_⟩
 refine GL.sA (cs' := #[.slice A22 n22 c22, .bool m22, .slice A22_ n22_ c22_]) (fun _ _ => Mem.st0) (fun _ hM => hM.b 0 rfl) siz48 ?_
 refine GL.k k1 ?_
 refine CG.ret (QG.ret (fun _ hM => results_one rfl (res_cell rfl (loadVar_agg agg48 siz48 (hM.b 0 rfl) rfl rfl))) ?_)
 intro _ hM
 exact ⟨_, _, _, _, _, _, _, rfl, (hM.out (hM.f 0 rfl)), hM.below⟩

set_option maxRecDepth 100000 in
set_option maxHeartbeats 400000 in
theorem nmade_ok {w : World} {X : Nat → Prop} {A2 : Option Addr} {n2 : Nat} {c2 : Nat} {L : List Int} {x : Nat} (hX : ∀ k, X k → k < w.heap.size) (s : Int) (h2 : SIk.R X w [.slice A2 n2 c2] L) (p1 : val 10000 L = (x : Int)) (p2 : ∀ y, y ∈ L → -1152921504606846976 ≤ y ∧ y ≤ 1152921504606846976) (p3 : s = 1 ∨ s = -1 ∨ x = 0) (p4 : n2 ≤ 4398046511104) :
    Calls Tryz.prog 107 #[.int .i64 s, .slice A2 n2 c2] w (fun e w' => ∃ sr Ar nr cr, e = .returned (.agg #[.int .i64 sr, .slice Ar nr cr]) ∧ NZk.R X w' [.int .i64 sr, .slice Ar nr cr] (s * (x : Int)) ∧ Below w.heap.size w w') := by
 have hM := (Mem.start hX).add0 h2
 have hLn := SIk.len h2
 have hV0 := p1
 refine calls_of hM Tryz.func107 Tryz.ntmps107 ?_
 refine CG.seq fun K_ k1 => ?_
 refine CG.lin 1 ?_
 refine GL.aA zer31 fun g21 => ?_
 refine GL.k k1 ?_
 refine CG.seq fun K_ k1 => ?_
 refine CG.lin 1 ?_
 refine GL.v (.slice none 0 0) ?_
 refine GL.k k1 ?_
 refine CG.seq fun K_ k1 => ?_
 refine CG.lin 1 ?_
 refine GL.v (.int .i64 0) ?_
 refine GL.k k1 ?_
 refine CG.seq fun K_ k1 => ?_
 refine CG.seq fun K_ k2 => ?_
 refine CG.lin 1 ?_
 refine GL.v (.int .i64 0) ?_
 refine GL.k k2 ?_
 refine CG.block ?_
 refine CG.loop (fun m_ a_ u_ => (∃ (i : Nat) (k : Int) (g5 : Nat) (n5 : Nat) (c5 : Nat) (P : List Int) (j22 : Nat → Value), a_ = ⟨#[.int .i64 s, .slice A2 n2 c2, undef, undef, .pointer (some ⟨g21, 0, none⟩), .slice (some ⟨g5, 0, none⟩) n5 c5, .int .i64 k, .int .i64 (i : Int), (j22 8), (j22 9), (j22 10), (j22 11), (j22 12), (j22 13), (j22 14), (j22 15), (j22 16), (j22 17), (j22 18), (j22 19), (j22 20), (j22 21), (j22 22), (j22 23), (j22 24), (j22 25), (j22 26), (j22 27), (j22 28), (j22 29), (j22 30), (j22 31), (j22 32), (j22 33), (j22 34), (j22 35), (j22 36), (j22 37), (j22 38), (j22 39), (j22 40), (j22 41), (j22 42), (j22 43), undef, undef, undef, undef, undef, undef, undef, undef, undef, undef, undef, undef, undef, undef, undef, undef, undef, undef, undef, undef, undef, undef, undef, undef], []⟩ ∧ m_ = (n2 - i) * 1125899906842624 + k.toNat ∧ Mem w [] X u_ [.own g5 3 n5 c5 (i64s P), .box g21 #[.int .i64 0, .slice none 0 0] 31] [⟨SIk, [.slice A2 n2 c2], L⟩] ∧ (1 ≤ i ∧ n5 = i) ∧ (P.length = i) ∧ (i ≤ n2 ∧ -140737488355328 ≤ k ∧ k ≤ 140737488355328 ∨ i = n2 + 1 ∧ k ≤ 14073748836 ∨ i = n2 + 2 ∧ k ≤ 1407375 ∨ i = n2 + 3 ∧ k ≤ 141 ∨ i = n2 + 4 ∧ k ≤ 0) ∧ (Digs 10000 P) ∧ (val 10000 P + 10000 ^ i * (k + val 10000 (L.drop i)) = (x : Int))) ∨ (m_ = n2 * 1125899906842624 + 1 ∧ a_ = ⟨#[.int .i64 s, .slice A2 n2 c2, undef, undef, .pointer (some ⟨g21, 0, none⟩), .slice none 0 0, .int .i64 0, .int .i64 0, undef, undef, undef, undef, undef, undef, undef, undef, undef, undef, undef, undef, undef, undef, undef, undef, undef, undef, undef, undef, undef, undef, undef, undef, undef, undef, undef, undef, undef, undef, undef, undef, undef, undef, undef, undef, undef, undef, undef, undef, undef, undef, undef, undef, undef, undef, undef, undef, undef, undef, undef, undef, undef, undef, undef, undef, undef, undef, undef, undef], []⟩ ∧ Mem w [] X u_ [.box g21 #[.int .i64 0, .slice none 0 0] 31] [⟨SIk, [.slice A2 n2 c2], L⟩])) (fun _ hM => ⟨_, .inr ⟨rfl, (by kernel_rfl), hM⟩⟩) ?_
 rintro m_ a_ u_ (⟨i, k, g5, n5, c5, P, j22, rfl, hm22, hM, hi, hP, hk, hD, hV⟩ | ⟨hm22, rfl, hM⟩)
 · skip
   have hkn := made_neg hD hP hLn hV
   refine CG.go hM ?_
   refine CG.seq fun K_ k2 => ?_
   refine CG.seq fun K_ k3 => ?_
   by_cases hc23 : (i : Int) < (n2 : Int)
   · have hk23 : (decide ((i : Int) < (n2 : Int))) = true := decide_eq_true hc23
     refine CG.lin 8 ?_
     refine GL.v (.int .i64 (i : Int)) ?_
     refine GL.v (.slice A2 n2 c2) ?_
     refine GL.v (.int .i64 (n2 : Int)) ?_
     refine GL.v (.bool true) ?_ (hr := fun u => op_b (b := (decide ((i : Int) < (n2 : Int)))) (by kernel_rfl) hk23)
     refine GL.v (.bool true) ?_
     refine GL.sk ?_
     refine GL.sk ?_
     refine GL.v (.bool true) ?_
     refine GL.k k3 ?_
     refine CG.yes ?_ rfl rfl
     refine CG.skip ?_
     refine QG.k k2 ?_
     refine CG.seq fun K_ k2 => ?_
     refine CG.block ?_
     refine CG.seq fun K_ k3 => ?_
     refine CG.lin 2 ?_
     refine GL.v (.int .i64 k) ?_
     refine GL.v (.int .i64 k) ?_
     refine GL.k k3 ?_
     refine CG.seq fun K_ k3 => ?_
     refine CG.seq fun K_ k4 => ?_
     refine CG.lin 4 ?_
     refine GL.v (.int .i64 (i : Int)) ?_
     refine GL.v (.slice A2 n2 c2) ?_
     refine GL.v (.int .i64 (n2 : Int)) ?_
     refine GL.v (.bool true) ?_ (hr := fun u => op_b (b := (decide ((i : Int) < (n2 : Int)))) (by kernel_rfl) hk23)
     refine GL.k k4 ?_
     refine CG.yes ?_ rfl rfl
     refine CG.lin 7 ?_
     refine GL.v (.int .i64 k) ?_
     refine GL.v (.slice A2 n2 c2) ?_
     refine GL.v (.int .i64 (i : Int)) ?_
     refine GL.r (elemPtr A2 i) (fun _ hM => op_index rowt29 (c := c2) (k := .i64) (i := (i : Int)) i (by kernel_rfl) (by kernel_rfl) (by omega) (by omega) (SIk.row (hM.f 0 rfl)) _) ?_
     refine GL.r (.int .i64 (L.getD i 0)) (fun _ hM => op_load_i64 (n := n2) (by kernel_rfl) agg3 (SIk.row (hM.f 0 rfl)) (by omega)) ?_
     have hy := mem_getD p2 (by decide) (by decide) i
     refine GL.v (.int .i64 (k + (L.getD i 0))) ?_ (hr := fun u => op_to (v := .int .i64 (IntKind.wrap .i64 (k + (L.getD i 0)))) (by kernel_rfl) (wrap_i64 rfl (by omega) (by omega)))
     refine GL.v (.int .i64 (k + (L.getD i 0))) ?_
     refine GL.k k3 ?_
     refine CG.seq fun K_ k3 => ?_
     refine CG.lin 3 ?_
     have hpast := fun h => getD_past (i := i) hLn h
     refine GL.v (.int .i64 (k + (L.getD i 0))) ?_
     have hq := tq10 (k + (L.getD i 0))
     refine GL.v (.int .i64 ((k + (L.getD i 0)).tdiv 10000)) ?_ (hr := fun u => op_to (v := .int .i64 (IntKind.wrap .i64 ((k + (L.getD i 0)).tdiv 10000))) (by kernel_rfl) (wrap_i64 rfl (by omega) (by omega)))
     refine GL.v (.int .i64 ((k + (L.getD i 0)).tdiv 10000)) ?_
     refine GL.k k3 ?_
     refine CG.seq fun K_ k3 => ?_
     refine CG.lin 3 ?_
     refine GL.v (.int .i64 (k + (L.getD i 0))) ?_
     refine GL.v (.int .i64 ((k + (L.getD i 0)).tmod 10000)) ?_
     refine GL.v (.int .i64 ((k + (L.getD i 0)).tmod 10000)) ?_
     refine GL.k k3 ?_
     refine CG.seq fun K_ k3 => ?_
     refine CG.seq fun K_ k4 => ?_
     refine CG.lin 2 ?_
     refine GL.v (.int .i64 ((k + (L.getD i 0)).tmod 10000)) ?_
     refine GL.v (.bool (decide (((k + (L.getD i 0)).tmod 10000) < (0 : Int)))) ?_
     refine GL.k k4 ?_
     by_cases hc24 : ((k + (L.getD i 0)).tmod 10000) < (0 : Int)
     · have hk24 : (decide (((k + (L.getD i 0)).tmod 10000) < (0 : Int))) = true := decide_eq_true hc24
       refine CG.yes ?_ hk24 rfl
       refine CG.seq fun K_ k4 => ?_
       refine CG.lin 3 ?_
       refine GL.v (.int .i64 ((k + (L.getD i 0)).tmod 10000)) ?_
       refine GL.v (.int .i64 (((k + (L.getD i 0)).tmod 10000) + (10000 : Int))) ?_ (hr := fun u => op_to (v := .int .i64 (IntKind.wrap .i64 (((k + (L.getD i 0)).tmod 10000) + (10000 : Int)))) (by kernel_rfl) (wrap_i64 rfl (by omega) (by omega)))
       refine GL.v (.int .i64 (((k + (L.getD i 0)).tmod 10000) + (10000 : Int))) ?_
       refine GL.k k4 ?_
       refine CG.lin 3 ?_
       refine GL.v (.int .i64 ((k + (L.getD i 0)).tdiv 10000)) ?_
       refine GL.v (.int .i64 (((k + (L.getD i 0)).tdiv 10000) - (1 : Int))) ?_ (hr := fun u => op_to (v := .int .i64 (IntKind.wrap .i64 (((k + (L.getD i 0)).tdiv 10000) - (1 : Int)))) (by kernel_rfl) (wrap_i64 rfl (by omega) (by omega)))
       refine GL.v (.int .i64 (((k + (L.getD i 0)).tdiv 10000) - (1 : Int))) ?_
       refine GL.k k3 ?_
       refine CG.lin 5 ?_
       refine GL.v (.slice (some ⟨g5, 0, none⟩) n5 c5) ?_
       refine GL.v (.int .i64 (((k + (L.getD i 0)).tmod 10000) + (10000 : Int))) ?_
       refine GL.row (fun _ => op_build1 rowt29 (v := .int .i64 (((k + (L.getD i 0)).tmod 10000) + (10000 : Int))) (by kernel_rfl) rfl) (fun _ _ _ hm => own_one_i64 hm) fun g25 => ?_
       refine GL.gr (fun _ _ _ _ => Mem.gr1) (fun _ hM => op_append_i64 (cx := 1) rowt29 (hM.o 1 rfl) (hM.o 0 rfl).row (by kernel_rfl) (by kernel_rfl) (by omega) (by omega)) fun g26 c26 => ?_
       refine GL.v (.slice (some ⟨g26, 0, none⟩) (n5 + 1) c26) ?_
       refine GL.q ?_
       refine QG.block ?_
       refine QG.k k2 ?_
       refine CG.lin 3 ?_
       refine GL.v (.int .i64 (i : Int)) ?_
       refine GL.v (.int .i64 ((i + 1 : Nat) : Int)) ?_ (hr := fun u => op_to (v := .int .i64 (IntKind.wrap .i64 ((i : Int) + (1 : Int)))) (by kernel_rfl) (wrap_i64 (by omega) (by omega) (by omega)))
       refine GL.v (.int .i64 ((i + 1 : Nat) : Int)) ?_
       refine GL.q ?_
       refine QG.again fun _ hM => ?_
       exact ⟨(n2 - (i + 1)) * 1125899906842624 + (((k + (L.getD i 0)).tdiv 10000) - (1 : Int)).toNat, (by omega), .inl ⟨(i + 1), (((k + (L.getD i 0)).tdiv 10000) - (1 : Int)), g26, (n5 + 1), c26, (P ++ [(((k + (L.getD i 0)).tmod 10000) + (10000 : Int))]), (fun t => (#[.int .i64 s, .slice A2 n2 c2, undef, undef, .pointer (some ⟨g21, 0, none⟩), .slice (some ⟨g26, 0, none⟩) (n5 + 1) c26, .int .i64 (((k + (L.getD i 0)).tdiv 10000) - (1 : Int)), .int .i64 ((i + 1 : Nat) : Int), .int .i64 (((k + (L.getD i 0)).tmod 10000) + (10000 : Int)), .int .i64 (i : Int), .slice A2 n2 c2, .int .i64 (n2 : Int), .bool true, .bool true, undef, undef, .bool true, .int .i64 (i : Int), .int .i64 ((i + 1 : Nat) : Int), .int .i64 k, .int .i64 (i : Int), .slice A2 n2 c2, .int .i64 (n2 : Int), .bool true, .int .i64 k, .slice A2 n2 c2, .int .i64 (i : Int), elemPtr A2 i, .int .i64 (L.getD i 0), .int .i64 (k + (L.getD i 0)), .int .i64 (k + (L.getD i 0)), .int .i64 ((k + (L.getD i 0)).tdiv 10000), .int .i64 (k + (L.getD i 0)), .int .i64 ((k + (L.getD i 0)).tmod 10000), .int .i64 ((k + (L.getD i 0)).tmod 10000), .bool (decide (((k + (L.getD i 0)).tmod 10000) < (0 : Int))), .int .i64 ((k + (L.getD i 0)).tmod 10000), .int .i64 (((k + (L.getD i 0)).tmod 10000) + (10000 : Int)), .int .i64 ((k + (L.getD i 0)).tdiv 10000), .int .i64 (((k + (L.getD i 0)).tdiv 10000) - (1 : Int)), .slice (some ⟨g5, 0, none⟩) n5 c5, .int .i64 (((k + (L.getD i 0)).tmod 10000) + (10000 : Int)), .slice (some ⟨g25, 0, none⟩) 1 1, .slice (some ⟨g26, 0, none⟩) (n5 + 1) c26, undef, undef, undef, undef, undef, undef, undef, undef, undef, undef, undef, undef, undef, undef, undef, undef, undef, undef, undef, undef, undef, undef, undef, undef] : Array Value).getD t undef), (by kernel_rfl), rfl, ((hM.dropn 1).clr).add ((hM.dropn 1).f 0 rfl), (by omega), (by simp [hP]), (by omega), (hD.snoc (by omega) (by omega)), (made_step hP (.inr trivial) (by omega) (by omega) hV)⟩⟩
     · have hk24 : (decide (((k + (L.getD i 0)).tmod 10000) < (0 : Int))) = false := decide_eq_false hc24
       refine CG.no ?_ hk24 rfl
       refine CG.skip ?_
       refine QG.k k3 ?_
       refine CG.lin 5 ?_
       refine GL.v (.slice (some ⟨g5, 0, none⟩) n5 c5) ?_
       refine GL.v (.int .i64 ((k + (L.getD i 0)).tmod 10000)) ?_
       refine GL.row (fun _ => op_build1 rowt29 (v := .int .i64 ((k + (L.getD i 0)).tmod 10000)) (by kernel_rfl) rfl) (fun _ _ _ hm => own_one_i64 hm) fun g27 => ?_
       refine GL.gr (fun _ _ _ _ => Mem.gr1) (fun _ hM => op_append_i64 (cx := 1) rowt29 (hM.o 1 rfl) (hM.o 0 rfl).row (by kernel_rfl) (by kernel_rfl) (by omega) (by omega)) fun g28 c28 => ?_
       refine GL.v (.slice (some ⟨g28, 0, none⟩) (n5 + 1) c28) ?_
       refine GL.q ?_
       refine QG.block ?_
       refine QG.k k2 ?_
       refine CG.lin 3 ?_
       refine GL.v (.int .i64 (i : Int)) ?_
       refine GL.v (.int .i64 ((i + 1 : Nat) : Int)) ?_ (hr := fun u => op_to (v := .int .i64 (IntKind.wrap .i64 ((i : Int) + (1 : Int)))) (by kernel_rfl) (wrap_i64 (by omega) (by omega) (by omega)))
       refine GL.v (.int .i64 ((i + 1 : Nat) : Int)) ?_
       refine GL.q ?_
       refine QG.again fun _ hM => ?_
       exact ⟨(n2 - (i + 1)) * 1125899906842624 + ((k + (L.getD i 0)).tdiv 10000).toNat, (by omega), .inl ⟨(i + 1), ((k + (L.getD i 0)).tdiv 10000), g28, (n5 + 1), c28, (P ++ [((k + (L.getD i 0)).tmod 10000)]), (fun t => (#[.int .i64 s, .slice A2 n2 c2, undef, undef, .pointer (some ⟨g21, 0, none⟩), .slice (some ⟨g28, 0, none⟩) (n5 + 1) c28, .int .i64 ((k + (L.getD i 0)).tdiv 10000), .int .i64 ((i + 1 : Nat) : Int), .int .i64 ((k + (L.getD i 0)).tmod 10000), .int .i64 (i : Int), .slice A2 n2 c2, .int .i64 (n2 : Int), .bool true, .bool true, undef, undef, .bool true, .int .i64 (i : Int), .int .i64 ((i + 1 : Nat) : Int), .int .i64 k, .int .i64 (i : Int), .slice A2 n2 c2, .int .i64 (n2 : Int), .bool true, .int .i64 k, .slice A2 n2 c2, .int .i64 (i : Int), elemPtr A2 i, .int .i64 (L.getD i 0), .int .i64 (k + (L.getD i 0)), .int .i64 (k + (L.getD i 0)), .int .i64 ((k + (L.getD i 0)).tdiv 10000), .int .i64 (k + (L.getD i 0)), .int .i64 ((k + (L.getD i 0)).tmod 10000), .int .i64 ((k + (L.getD i 0)).tmod 10000), .bool (decide (((k + (L.getD i 0)).tmod 10000) < (0 : Int))), (j22 36), (j22 37), (j22 38), (j22 39), .slice (some ⟨g5, 0, none⟩) n5 c5, .int .i64 ((k + (L.getD i 0)).tmod 10000), .slice (some ⟨g27, 0, none⟩) 1 1, .slice (some ⟨g28, 0, none⟩) (n5 + 1) c28, undef, undef, undef, undef, undef, undef, undef, undef, undef, undef, undef, undef, undef, undef, undef, undef, undef, undef, undef, undef, undef, undef, undef, undef] : Array Value).getD t undef), (by kernel_rfl), rfl, ((hM.dropn 1).clr).add ((hM.dropn 1).f 0 rfl), (by omega), (by simp [hP]), (by omega), (hD.snoc (by omega) (by omega)), (made_step hP (.inr trivial) (by omega) (by omega) hV)⟩⟩
   · have hk23 : (decide ((i : Int) < (n2 : Int))) = false := decide_eq_false hc23
     by_cases hc29 : k ≠ (0 : Int)
     · have hk29 : (k != (0 : Int)) = true := bne_iff_ne.2 hc29
       refine CG.lin 8 ?_
       refine GL.v (.int .i64 (i : Int)) ?_
       refine GL.v (.slice A2 n2 c2) ?_
       refine GL.v (.int .i64 (n2 : Int)) ?_
       refine GL.v (.bool false) ?_ (hr := fun u => op_b (b := (decide ((i : Int) < (n2 : Int)))) (by kernel_rfl) hk23)
       refine GL.v (.bool false) ?_
       refine GL.v (.int .i64 k) ?_
       refine GL.v (.bool true) ?_ (hr := fun u => op_b (b := (k != (0 : Int))) (by kernel_rfl) hk29)
       refine GL.v (.bool true) ?_
       refine GL.k k3 ?_
       refine CG.yes ?_ rfl rfl
       refine CG.skip ?_
       refine QG.k k2 ?_
       refine CG.seq fun K_ k2 => ?_
       refine CG.block ?_
       refine CG.seq fun K_ k3 => ?_
       refine CG.lin 2 ?_
       refine GL.v (.int .i64 k) ?_
       refine GL.v (.int .i64 k) ?_
       refine GL.k k3 ?_
       refine CG.seq fun K_ k3 => ?_
       refine CG.seq fun K_ k4 => ?_
       refine CG.lin 4 ?_
       refine GL.v (.int .i64 (i : Int)) ?_
       refine GL.v (.slice A2 n2 c2) ?_
       refine GL.v (.int .i64 (n2 : Int)) ?_
       refine GL.v (.bool false) ?_ (hr := fun u => op_b (b := (decide ((i : Int) < (n2 : Int)))) (by kernel_rfl) hk23)
       refine GL.k k4 ?_
       refine CG.no ?_ rfl rfl
       refine CG.skip ?_
       refine QG.k k3 ?_
       refine CG.seq fun K_ k3 => ?_
       refine CG.lin 3 ?_
       have hpast := fun h => getD_past (i := i) hLn h
       refine GL.v (.int .i64 k) ?_
       have hq := tq10 k
       refine GL.v (.int .i64 (k.tdiv 10000)) ?_ (hr := fun u => op_to (v := .int .i64 (IntKind.wrap .i64 (k.tdiv 10000))) (by kernel_rfl) (wrap_i64 rfl (by omega) (by omega)))
       refine GL.v (.int .i64 (k.tdiv 10000)) ?_
       refine GL.k k3 ?_
       refine CG.seq fun K_ k3 => ?_
       refine CG.lin 3 ?_
       refine GL.v (.int .i64 k) ?_
       refine GL.v (.int .i64 (k.tmod 10000)) ?_
       refine GL.v (.int .i64 (k.tmod 10000)) ?_
       refine GL.k k3 ?_
       refine CG.seq fun K_ k3 => ?_
       refine CG.seq fun K_ k4 => ?_
       refine CG.lin 2 ?_
       refine GL.v (.int .i64 (k.tmod 10000)) ?_
       refine GL.v (.bool (decide ((k.tmod 10000) < (0 : Int)))) ?_
       refine GL.k k4 ?_
       by_cases hc30 : (k.tmod 10000) < (0 : Int)
       · have hk30 : (decide ((k.tmod 10000) < (0 : Int))) = true := decide_eq_true hc30
         refine CG.yes ?_ hk30 rfl
         refine CG.seq fun K_ k4 => ?_
         refine CG.lin 3 ?_
         refine GL.v (.int .i64 (k.tmod 10000)) ?_
         refine GL.v (.int .i64 ((k.tmod 10000) + (10000 : Int))) ?_ (hr := fun u => op_to (v := .int .i64 (IntKind.wrap .i64 ((k.tmod 10000) + (10000 : Int)))) (by kernel_rfl) (wrap_i64 rfl (by omega) (by omega)))
         refine GL.v (.int .i64 ((k.tmod 10000) + (10000 : Int))) ?_
         refine GL.k k4 ?_
         refine CG.lin 3 ?_
         refine GL.v (.int .i64 (k.tdiv 10000)) ?_
         refine GL.v (.int .i64 ((k.tdiv 10000) - (1 : Int))) ?_ (hr := fun u => op_to (v := .int .i64 (IntKind.wrap .i64 ((k.tdiv 10000) - (1 : Int)))) (by kernel_rfl) (wrap_i64 rfl (by omega) (by omega)))
         refine GL.v (.int .i64 ((k.tdiv 10000) - (1 : Int))) ?_
         refine GL.k k3 ?_
         refine CG.lin 5 ?_
         refine GL.v (.slice (some ⟨g5, 0, none⟩) n5 c5) ?_
         refine GL.v (.int .i64 ((k.tmod 10000) + (10000 : Int))) ?_
         refine GL.row (fun _ => op_build1 rowt29 (v := .int .i64 ((k.tmod 10000) + (10000 : Int))) (by kernel_rfl) rfl) (fun _ _ _ hm => own_one_i64 hm) fun g31 => ?_
         refine GL.gr (fun _ _ _ _ => Mem.gr1) (fun _ hM => op_append_i64 (cx := 1) rowt29 (hM.o 1 rfl) (hM.o 0 rfl).row (by kernel_rfl) (by kernel_rfl) (by omega) (by omega)) fun g32 c32 => ?_
         refine GL.v (.slice (some ⟨g32, 0, none⟩) (n5 + 1) c32) ?_
         refine GL.q ?_
         refine QG.block ?_
         refine QG.k k2 ?_
         refine CG.lin 3 ?_
         refine GL.v (.int .i64 (i : Int)) ?_
         refine GL.v (.int .i64 ((i + 1 : Nat) : Int)) ?_ (hr := fun u => op_to (v := .int .i64 (IntKind.wrap .i64 ((i : Int) + (1 : Int)))) (by kernel_rfl) (wrap_i64 (by omega) (by omega) (by omega)))
         refine GL.v (.int .i64 ((i + 1 : Nat) : Int)) ?_
         refine GL.q ?_
         refine QG.again fun _ hM => ?_
         exact ⟨(n2 - (i + 1)) * 1125899906842624 + ((k.tdiv 10000) - (1 : Int)).toNat, (by omega), .inl ⟨(i + 1), ((k.tdiv 10000) - (1 : Int)), g32, (n5 + 1), c32, (P ++ [((k.tmod 10000) + (10000 : Int))]), (fun t => (#[.int .i64 s, .slice A2 n2 c2, undef, undef, .pointer (some ⟨g21, 0, none⟩), .slice (some ⟨g32, 0, none⟩) (n5 + 1) c32, .int .i64 ((k.tdiv 10000) - (1 : Int)), .int .i64 ((i + 1 : Nat) : Int), .int .i64 ((k.tmod 10000) + (10000 : Int)), .int .i64 (i : Int), .slice A2 n2 c2, .int .i64 (n2 : Int), .bool false, .bool false, .int .i64 k, .bool true, .bool true, .int .i64 (i : Int), .int .i64 ((i + 1 : Nat) : Int), .int .i64 k, .int .i64 (i : Int), .slice A2 n2 c2, .int .i64 (n2 : Int), .bool false, (j22 24), (j22 25), (j22 26), (j22 27), (j22 28), (j22 29), .int .i64 k, .int .i64 (k.tdiv 10000), .int .i64 k, .int .i64 (k.tmod 10000), .int .i64 (k.tmod 10000), .bool (decide ((k.tmod 10000) < (0 : Int))), .int .i64 (k.tmod 10000), .int .i64 ((k.tmod 10000) + (10000 : Int)), .int .i64 (k.tdiv 10000), .int .i64 ((k.tdiv 10000) - (1 : Int)), .slice (some ⟨g5, 0, none⟩) n5 c5, .int .i64 ((k.tmod 10000) + (10000 : Int)), .slice (some ⟨g31, 0, none⟩) 1 1, .slice (some ⟨g32, 0, none⟩) (n5 + 1) c32, undef, undef, undef, undef, undef, undef, undef, undef, undef, undef, undef, undef, undef, undef, undef, undef, undef, undef, undef, undef, undef, undef, undef, undef] : Array Value).getD t undef), (by kernel_rfl), rfl, ((hM.dropn 1).clr).add ((hM.dropn 1).f 0 rfl), (by omega), (by simp [hP]), (by omega), (hD.snoc (by omega) (by omega)), (made_step hP (.inr trivial) (by omega) (by omega) hV)⟩⟩
       · have hk30 : (decide ((k.tmod 10000) < (0 : Int))) = false := decide_eq_false hc30
         refine CG.no ?_ hk30 rfl
         refine CG.skip ?_
         refine QG.k k3 ?_
         refine CG.lin 5 ?_
         refine GL.v (.slice (some ⟨g5, 0, none⟩) n5 c5) ?_
         refine GL.v (.int .i64 (k.tmod 10000)) ?_
         refine GL.row (fun _ => op_build1 rowt29 (v := .int .i64 (k.tmod 10000)) (by kernel_rfl) rfl) (fun _ _ _ hm => own_one_i64 hm) fun g33 => ?_
         refine GL.gr (fun _ _ _ _ => Mem.gr1) (fun _ hM => op_append_i64 (cx := 1) rowt29 (hM.o 1 rfl) (hM.o 0 rfl).row (by kernel_rfl) (by kernel_rfl) (by omega) (by omega)) fun g34 c34 => ?_
         refine GL.v (.slice (some ⟨g34, 0, none⟩) (n5 + 1) c34) ?_
         refine GL.q ?_
         refine QG.block ?_
         refine QG.k k2 ?_
         refine CG.lin 3 ?_
         refine GL.v (.int .i64 (i : Int)) ?_
         refine GL.v (.int .i64 ((i + 1 : Nat) : Int)) ?_ (hr := fun u => op_to (v := .int .i64 (IntKind.wrap .i64 ((i : Int) + (1 : Int)))) (by kernel_rfl) (wrap_i64 (by omega) (by omega) (by omega)))
         refine GL.v (.int .i64 ((i + 1 : Nat) : Int)) ?_
         refine GL.q ?_
         refine QG.again fun _ hM => ?_
         exact ⟨(n2 - (i + 1)) * 1125899906842624 + (k.tdiv 10000).toNat, (by omega), .inl ⟨(i + 1), (k.tdiv 10000), g34, (n5 + 1), c34, (P ++ [(k.tmod 10000)]), (fun t => (#[.int .i64 s, .slice A2 n2 c2, undef, undef, .pointer (some ⟨g21, 0, none⟩), .slice (some ⟨g34, 0, none⟩) (n5 + 1) c34, .int .i64 (k.tdiv 10000), .int .i64 ((i + 1 : Nat) : Int), .int .i64 (k.tmod 10000), .int .i64 (i : Int), .slice A2 n2 c2, .int .i64 (n2 : Int), .bool false, .bool false, .int .i64 k, .bool true, .bool true, .int .i64 (i : Int), .int .i64 ((i + 1 : Nat) : Int), .int .i64 k, .int .i64 (i : Int), .slice A2 n2 c2, .int .i64 (n2 : Int), .bool false, (j22 24), (j22 25), (j22 26), (j22 27), (j22 28), (j22 29), .int .i64 k, .int .i64 (k.tdiv 10000), .int .i64 k, .int .i64 (k.tmod 10000), .int .i64 (k.tmod 10000), .bool (decide ((k.tmod 10000) < (0 : Int))), (j22 36), (j22 37), (j22 38), (j22 39), .slice (some ⟨g5, 0, none⟩) n5 c5, .int .i64 (k.tmod 10000), .slice (some ⟨g33, 0, none⟩) 1 1, .slice (some ⟨g34, 0, none⟩) (n5 + 1) c34, undef, undef, undef, undef, undef, undef, undef, undef, undef, undef, undef, undef, undef, undef, undef, undef, undef, undef, undef, undef, undef, undef, undef, undef] : Array Value).getD t undef), (by kernel_rfl), rfl, ((hM.dropn 1).clr).add ((hM.dropn 1).f 0 rfl), (by omega), (by simp [hP]), (by omega), (hD.snoc (by omega) (by omega)), (made_step hP (.inr trivial) (by omega) (by omega) hV)⟩⟩
     · have hk29 : (k != (0 : Int)) = false := by simpa using hc29
       refine CG.lin 8 ?_
       refine GL.v (.int .i64 (i : Int)) ?_
       refine GL.v (.slice A2 n2 c2) ?_
       refine GL.v (.int .i64 (n2 : Int)) ?_
       refine GL.v (.bool false) ?_ (hr := fun u => op_b (b := (decide ((i : Int) < (n2 : Int)))) (by kernel_rfl) hk23)
       refine GL.v (.bool false) ?_
       refine GL.v (.int .i64 k) ?_
       refine GL.v (.bool false) ?_ (hr := fun u => op_b (b := (k != (0 : Int))) (by kernel_rfl) hk29)
       refine GL.v (.bool false) ?_
       refine GL.k k3 ?_
       refine CG.no ?_ rfl rfl
       refine CG.exit (QG.then_exit (QG.then_exit (QG.here ?_)))
       refine QG.k k1 ?_
       refine CG.seq fun K_ k1 => ?_
       refine CG.block ?_
       have hk0 : k = 0 := by omega
       have hV1 := made_done (by omega) hV
       refine CG.loop (fun m_ a_ u_ => ∃ (n5 : Nat) (P : List Int) (j35 : Nat → Value), a_ = ⟨#[.int .i64 s, .slice A2 n2 c2, undef, undef, .pointer (some ⟨g21, 0, none⟩), .slice (some ⟨g5, 0, none⟩) n5 c5, .int .i64 k, .int .i64 (i : Int), (j22 8), .int .i64 (i : Int), .slice A2 n2 c2, .int .i64 (n2 : Int), .bool false, .bool false, .int .i64 k, .bool false, .bool false, (j22 17), (j22 18), (j22 19), (j22 20), (j22 21), (j22 22), (j22 23), (j22 24), (j22 25), (j22 26), (j22 27), (j22 28), (j22 29), (j22 30), (j22 31), (j22 32), (j22 33), (j22 34), (j22 35), (j22 36), (j22 37), (j22 38), (j22 39), (j22 40), (j22 41), (j22 42), (j22 43), (j35 44), (j35 45), (j35 46), (j35 47), (j35 48), (j35 49), (j35 50), (j35 51), (j35 52), (j35 53), (j35 54), (j35 55), (j35 56), (j35 57), (j35 58), (j35 59), (j35 60), undef, undef, undef, undef, undef, undef, undef], []⟩ ∧ m_ = n5 ∧ Mem w [] X u_ [.own g5 3 n5 c5 (i64s P), .box g21 #[.int .i64 0, .slice none 0 0] 31] [⟨SIk, [.slice A2 n2 c2], L⟩] ∧ (P.length = n5) ∧ (n5 ≤ 4398046511120) ∧ (Digs 10000 P) ∧ (val 10000 P = (x : Int))) (fun _ hM => ⟨_, n5, P, (fun t => (#[.int .i64 s, .slice A2 n2 c2, undef, undef, .pointer (some ⟨g21, 0, none⟩), .slice (some ⟨g5, 0, none⟩) n5 c5, .int .i64 k, .int .i64 (i : Int), (j22 8), .int .i64 (i : Int), .slice A2 n2 c2, .int .i64 (n2 : Int), .bool false, .bool false, .int .i64 k, .bool false, .bool false, (j22 17), (j22 18), (j22 19), (j22 20), (j22 21), (j22 22), (j22 23), (j22 24), (j22 25), (j22 26), (j22 27), (j22 28), (j22 29), (j22 30), (j22 31), (j22 32), (j22 33), (j22 34), (j22 35), (j22 36), (j22 37), (j22 38), (j22 39), (j22 40), (j22 41), (j22 42), (j22 43), undef, undef, undef, undef, undef, undef, undef, undef, undef, undef, undef, undef, undef, undef, undef, undef, undef, undef, undef, undef, undef, undef, undef, undef] : Array Value).getD t undef), (by kernel_rfl), rfl, (hM.clr).add (hM.f 0 rfl), (by omega), (by omega), hD, (by rw [hk0] at hV1; simpa using hV1)⟩) ?_
       rintro m_ a_ u_ ⟨n5, P, j35, rfl, hm35, hM, hP, hn5, hD, hV2⟩
       refine CG.go hM ?_
       refine CG.seq fun K_ k2 => ?_
       refine CG.seq fun K_ k3 => ?_
       by_cases hc36 : (n5 : Int) > (0 : Int)
       · have hk36 : (decide ((n5 : Int) > (0 : Int))) = true := decide_eq_true hc36
         refine CG.lin 12 ?_
         refine GL.v (.slice (some ⟨g5, 0, none⟩) n5 c5) ?_
         refine GL.v (.int .i64 (n5 : Int)) ?_
         refine GL.v (.bool true) ?_ (hr := fun u => op_b (b := (decide ((n5 : Int) > (0 : Int)))) (by kernel_rfl) hk36)
         refine GL.v (.bool true) ?_
         refine GL.v (.slice (some ⟨g5, 0, none⟩) n5 c5) ?_
         refine GL.v (.slice (some ⟨g5, 0, none⟩) n5 c5) ?_
         refine GL.v (.int .i64 (n5 : Int)) ?_
         refine GL.v (.int .i64 ((n5 : Int) - (1 : Int))) ?_ (hr := fun u => op_to (v := .int .i64 (IntKind.wrap .i64 ((n5 : Int) - (1 : Int)))) (by kernel_rfl) (wrap_i64 rfl (by omega) (by omega)))
         refine GL.r (elemPtr (some ⟨g5, 0, none⟩) (n5 - 1)) (fun _ hM => op_index rowt29 (c := c5) (k := .i64) (i := ((n5 : Int) - (1 : Int))) (n5 - 1) (by kernel_rfl) (by kernel_rfl) (by omega) (by omega) (hM.o 0 rfl).row _) ?_
         refine GL.r (.int .i64 (P.getD (n5 - 1) 0)) (fun _ hM => op_load_i64 (n := n5) (by kernel_rfl) agg3 (hM.o 0 rfl).row (by omega)) ?_
         refine GL.v (.bool ((P.getD (n5 - 1) 0) == (0 : Int))) ?_
         refine GL.v (.bool ((P.getD (n5 - 1) 0) == (0 : Int))) ?_
         refine GL.k k3 ?_
         by_cases hc37 : (P.getD (n5 - 1) 0) = (0 : Int)
         · have hk37 : ((P.getD (n5 - 1) 0) == (0 : Int)) = true := beq_iff_eq.2 hc37
           refine CG.yes ?_ hk37 rfl
           refine CG.skip ?_
           refine QG.k k2 ?_
           refine CG.block ?_
           refine CG.lin 6 ?_
           refine GL.v (.slice (some ⟨g5, 0, none⟩) n5 c5) ?_
           refine GL.v (.slice (some ⟨g5, 0, none⟩) n5 c5) ?_
           refine GL.v (.int .i64 (n5 : Int)) ?_
           refine GL.v (.int .i64 ((n5 : Int) - (1 : Int))) ?_ (hr := fun u => op_to (v := .int .i64 (IntKind.wrap .i64 ((n5 : Int) - (1 : Int)))) (by kernel_rfl) (wrap_i64 rfl (by omega) (by omega)))
           refine GL.r (.slice (some ⟨g5, 0, none⟩) (n5 - 1) c5) (fun _ hM => op_cut rowt29 (n := n5) (kd := .i64) (i := ((n5 : Int) - (1 : Int))) (n5 - 1) (by kernel_rfl) (by kernel_rfl) (by omega) (by have := (hM.o 0 rfl).le; omega) _) ?_
           refine GL.mem (fun _ hM => hM.cu0 (Own.cut_i64 (j := n5 - 1) (by omega))) ?_
           refine GL.v (.slice (some ⟨g5, 0, none⟩) (n5 - 1) c5) ?_
           refine GL.q ?_
           refine QG.block ?_
           refine QG.again fun _ hM => ?_
           have hz : P.getD (n5 - 1) 0 = 0 := hc37
           exact ⟨(n5 - 1), (by omega), (n5 - 1), (P.take (n5 - 1)), (fun t => (#[.int .i64 s, .slice A2 n2 c2, undef, undef, .pointer (some ⟨g21, 0, none⟩), .slice (some ⟨g5, 0, none⟩) (n5 - 1) c5, .int .i64 k, .int .i64 (i : Int), (j22 8), .int .i64 (i : Int), .slice A2 n2 c2, .int .i64 (n2 : Int), .bool false, .bool false, .int .i64 k, .bool false, .bool false, (j22 17), (j22 18), (j22 19), (j22 20), (j22 21), (j22 22), (j22 23), (j22 24), (j22 25), (j22 26), (j22 27), (j22 28), (j22 29), (j22 30), (j22 31), (j22 32), (j22 33), (j22 34), (j22 35), (j22 36), (j22 37), (j22 38), (j22 39), (j22 40), (j22 41), (j22 42), (j22 43), .slice (some ⟨g5, 0, none⟩) n5 c5, .int .i64 (n5 : Int), .bool true, .bool true, .slice (some ⟨g5, 0, none⟩) n5 c5, .slice (some ⟨g5, 0, none⟩) n5 c5, .int .i64 (n5 : Int), .int .i64 ((n5 : Int) - (1 : Int)), elemPtr (some ⟨g5, 0, none⟩) (n5 - 1), .int .i64 (P.getD (n5 - 1) 0), .bool ((P.getD (n5 - 1) 0) == (0 : Int)), .bool ((P.getD (n5 - 1) 0) == (0 : Int)), .slice (some ⟨g5, 0, none⟩) n5 c5, .slice (some ⟨g5, 0, none⟩) n5 c5, .int .i64 (n5 : Int), .int .i64 ((n5 : Int) - (1 : Int)), .slice (some ⟨g5, 0, none⟩) (n5 - 1) c5, undef, undef, undef, undef, undef, undef, undef] : Array Value).getD t undef), (by kernel_rfl), rfl, (hM.clr).add (hM.f 0 rfl), (by simp; omega), (by omega), (hD.take _), (by rw [strip_val hP (by omega) hz]; exact hV2)⟩
         · have hk37 : ((P.getD (n5 - 1) 0) == (0 : Int)) = false := beq_eq_false_iff_ne.2 hc37
           refine CG.no ?_ hk37 rfl
           have hlast : n5 = 0 ∨ P.getD (n5 - 1) 0 ≠ 0 := by first | (left; omega) | (right; simpa using hc37)
           refine CG.exit (QG.then_exit (QG.then_exit (QG.here ?_)))
           refine QG.k k1 ?_
           refine CG.seq fun K_ k1 => ?_
           refine CG.seq fun K_ k2 => ?_
           refine CG.lin 3 ?_
           refine GL.v (.slice (some ⟨g5, 0, none⟩) n5 c5) ?_
           refine GL.v (.int .i64 (n5 : Int)) ?_
           refine GL.v (.bool ((n5 : Int) == (0 : Int))) ?_
           refine GL.k k2 ?_
           by_cases hc38 : (n5 : Int) = (0 : Int)
           · have hk38 : ((n5 : Int) == (0 : Int)) = true := beq_iff_eq.2 hc38
             refine CG.yes ?_ hk38 rfl
             refine CG.seq fun K_ k2 => ?_
             refine CG.lin 2 ?_
             refine GL.v (.agg #[.int .i64 0, .slice none 0 0]) ?_
             refine GL.sA (cs' := #[.int .i64 0, .slice none 0 0]) (fun _ _ => Mem.st1) (fun _ hM => hM.b 1 rfl) siz31 ?_
             refine GL.k k2 ?_
             refine CG.ret (QG.then_ret (QG.ret (fun _ hM => results_one rfl (res_cell rfl (loadVar_agg agg31 siz31 (hM.b 1 rfl) rfl rfl))) ?_))
             intro _ hM
             exact ⟨_, _, _, _, rfl, ((show (0 : Int) = s * (x : Int) by rw [show x = 0 from made_zero hV2 (by omega) (by omega), Int.natCast_zero, Int.mul_zero]) ▸ (hM.out (NZk.nil _ _ none 0))), hM.below⟩
           · have hk38 : ((n5 : Int) == (0 : Int)) = false := beq_eq_false_iff_ne.2 hc38
             refine CG.no ?_ hk38 rfl
             refine CG.skip ?_
             refine QG.k k1 ?_
             refine CG.seq fun K_ k1 => ?_
             refine CG.lin 4 ?_
             refine GL.v (.int .i64 s) ?_
             refine GL.v (.slice (some ⟨g5, 0, none⟩) n5 c5) ?_
             refine GL.v (.agg #[.int .i64 s, .slice (some ⟨g5, 0, none⟩) n5 c5]) ?_
             refine GL.sA (cs' := #[.int .i64 s, .slice (some ⟨g5, 0, none⟩) n5 c5]) (fun _ _ => Mem.st1) (fun _ hM => hM.b 1 rfl) siz31 ?_
             refine GL.k k1 ?_
             refine CG.mem (fun _ hM => hM.pu0 fun hO _ hX => NZk.ownS hO (strip_endR (by have := hO.ilen; omega) hD hV2 hlast) p3 (by omega) hX) ?_
             refine CG.ret (QG.ret (fun _ hM => results_one rfl (res_cell rfl (loadVar_agg agg31 siz31 (hM.b 0 rfl) rfl rfl))) ?_)
             intro _ hM
             exact ⟨_, _, _, _, rfl, (hM.out (hM.f 0 rfl)), hM.below⟩
       · have hk36 : (decide ((n5 : Int) > (0 : Int))) = false := decide_eq_false hc36
         refine CG.lin 12 ?_
         refine GL.v (.slice (some ⟨g5, 0, none⟩) n5 c5) ?_
         refine GL.v (.int .i64 (n5 : Int)) ?_
         refine GL.v (.bool false) ?_ (hr := fun u => op_b (b := (decide ((n5 : Int) > (0 : Int)))) (by kernel_rfl) hk36)
         refine GL.v (.bool false) ?_
         refine GL.sk ?_
         refine GL.sk ?_
         refine GL.sk ?_
         refine GL.sk ?_
         refine GL.sk ?_
         refine GL.sk ?_
         refine GL.sk ?_
         refine GL.v (.bool false) ?_
         refine GL.k k3 ?_
         refine CG.no ?_ rfl rfl
         have hlast : n5 = 0 ∨ P.getD (n5 - 1) 0 ≠ 0 := by first | (left; omega) | (right; simpa using hc36)
         refine CG.exit (QG.then_exit (QG.then_exit (QG.here ?_)))
         refine QG.k k1 ?_
         refine CG.seq fun K_ k1 => ?_
         refine CG.seq fun K_ k2 => ?_
         refine CG.lin 3 ?_
         refine GL.v (.slice (some ⟨g5, 0, none⟩) n5 c5) ?_
         refine GL.v (.int .i64 (n5 : Int)) ?_
         refine GL.v (.bool ((n5 : Int) == (0 : Int))) ?_
         refine GL.k k2 ?_
         by_cases hc39 : (n5 : Int) = (0 : Int)
         · have hk39 : ((n5 : Int) == (0 : Int)) = true := beq_iff_eq.2 hc39
           refine CG.yes ?_ hk39 rfl
           refine CG.seq fun K_ k2 => ?_
           refine CG.lin 2 ?_
           refine GL.v (.agg #[.int .i64 0, .slice none 0 0]) ?_
           refine GL.sA (cs' := #[.int .i64 0, .slice none 0 0]) (fun _ _ => Mem.st1) (fun _ hM => hM.b 1 rfl) siz31 ?_
           refine GL.k k2 ?_
           refine CG.ret (QG.then_ret (QG.ret (fun _ hM => results_one rfl (res_cell rfl (loadVar_agg agg31 siz31 (hM.b 1 rfl) rfl rfl))) ?_))
           intro _ hM
           exact ⟨_, _, _, _, rfl, ((show (0 : Int) = s * (x : Int) by rw [show x = 0 from made_zero hV2 (by omega) (by omega), Int.natCast_zero, Int.mul_zero]) ▸ (hM.out (NZk.nil _ _ none 0))), hM.below⟩
         · have hk39 : ((n5 : Int) == (0 : Int)) = false := beq_eq_false_iff_ne.2 hc39
           refine CG.no ?_ hk39 rfl
           refine CG.skip ?_
           refine QG.k k1 ?_
           refine CG.seq fun K_ k1 => ?_
           refine CG.lin 4 ?_
           refine GL.v (.int .i64 s) ?_
           refine GL.v (.slice (some ⟨g5, 0, none⟩) n5 c5) ?_
           refine GL.v (.agg #[.int .i64 s, .slice (some ⟨g5, 0, none⟩) n5 c5]) ?_
           refine GL.sA (cs' := #[.int .i64 s, .slice (some ⟨g5, 0, none⟩) n5 c5]) (fun _ _ => Mem.st1) (fun _ hM => hM.b 1 rfl) siz31 ?_
           refine GL.k k1 ?_
           refine CG.mem (fun _ hM => hM.pu0 fun hO _ hX => NZk.ownS hO (strip_endR (by have := hO.ilen; omega) hD hV2 hlast) p3 (by omega) hX) ?_
           refine CG.ret (QG.ret (fun _ hM => results_one rfl (res_cell rfl (loadVar_agg agg31 siz31 (hM.b 0 rfl) rfl rfl))) ?_)
           intro _ hM
           exact ⟨_, _, _, _, rfl, (hM.out (hM.f 0 rfl)), hM.below⟩
 · skip
   refine CG.go hM ?_
   refine CG.seq fun K_ k2 => ?_
   refine CG.seq fun K_ k3 => ?_
   by_cases hc40 : (0 : Int) < (n2 : Int)
   · have hk40 : (decide ((0 : Int) < (n2 : Int))) = true := decide_eq_true hc40
     refine CG.lin 8 ?_
     refine GL.v (.int .i64 0) ?_
     refine GL.v (.slice A2 n2 c2) ?_
     refine GL.v (.int .i64 (n2 : Int)) ?_
     refine GL.v (.bool true) ?_ (hr := fun u => op_b (b := (decide ((0 : Int) < (n2 : Int)))) (by kernel_rfl) hk40)
     refine GL.v (.bool true) ?_
     refine GL.sk ?_
     refine GL.sk ?_
     refine GL.v (.bool true) ?_
     refine GL.k k3 ?_
     refine CG.yes ?_ rfl rfl
     refine CG.skip ?_
     refine QG.k k2 ?_
     refine CG.seq fun K_ k2 => ?_
     refine CG.block ?_
     refine CG.seq fun K_ k3 => ?_
     refine CG.lin 2 ?_
     refine GL.v (.int .i64 0) ?_
     refine GL.v (.int .i64 0) ?_
     refine GL.k k3 ?_
     refine CG.seq fun K_ k3 => ?_
     refine CG.seq fun K_ k4 => ?_
     refine CG.lin 4 ?_
     refine GL.v (.int .i64 0) ?_
     refine GL.v (.slice A2 n2 c2) ?_
     refine GL.v (.int .i64 (n2 : Int)) ?_
     refine GL.v (.bool true) ?_ (hr := fun u => op_b (b := (decide ((0 : Int) < (n2 : Int)))) (by kernel_rfl) hk40)
     refine GL.k k4 ?_
     refine CG.yes ?_ rfl rfl
     refine CG.lin 7 ?_
     refine GL.v (.int .i64 0) ?_
     refine GL.v (.slice A2 n2 c2) ?_
     refine GL.v (.int .i64 0) ?_
     refine GL.r (elemPtr A2 0) (fun _ hM => op_index rowt29 (c := c2) (k := .i64) (i := (0 : Int)) 0 (by kernel_rfl) (by kernel_rfl) (by omega) (by omega) (SIk.row (hM.f 0 rfl)) _) ?_
     refine GL.r (.int .i64 (L.getD 0 0)) (fun _ hM => op_load_i64 (n := n2) (by kernel_rfl) agg3 (SIk.row (hM.f 0 rfl)) (by omega)) ?_
     have hy := mem_getD p2 (by decide) (by decide) 0
     refine GL.v (.int .i64 ((0 : Int) + (L.getD 0 0))) ?_ (hr := fun u => op_to (v := .int .i64 (IntKind.wrap .i64 ((0 : Int) + (L.getD 0 0)))) (by kernel_rfl) (wrap_i64 rfl (by omega) (by omega)))
     refine GL.v (.int .i64 ((0 : Int) + (L.getD 0 0))) ?_
     refine GL.k k3 ?_
     refine CG.seq fun K_ k3 => ?_
     refine CG.lin 3 ?_
     have hpast := fun h => getD_past (i := 0) hLn h
     refine GL.v (.int .i64 ((0 : Int) + (L.getD 0 0))) ?_
     have hq := tq10 ((0 : Int) + (L.getD 0 0))
     refine GL.v (.int .i64 (((0 : Int) + (L.getD 0 0)).tdiv 10000)) ?_ (hr := fun u => op_to (v := .int .i64 (IntKind.wrap .i64 (((0 : Int) + (L.getD 0 0)).tdiv 10000))) (by kernel_rfl) (wrap_i64 rfl (by omega) (by omega)))
     refine GL.v (.int .i64 (((0 : Int) + (L.getD 0 0)).tdiv 10000)) ?_
     refine GL.k k3 ?_
     refine CG.seq fun K_ k3 => ?_
     refine CG.lin 3 ?_
     refine GL.v (.int .i64 ((0 : Int) + (L.getD 0 0))) ?_
     refine GL.v (.int .i64 (((0 : Int) + (L.getD 0 0)).tmod 10000)) ?_
     refine GL.v (.int .i64 (((0 : Int) + (L.getD 0 0)).tmod 10000)) ?_
     refine GL.k k3 ?_
     refine CG.seq fun K_ k3 => ?_
     refine CG.seq fun K_ k4 => ?_
     refine CG.lin 2 ?_
     refine GL.v (.int .i64 (((0 : Int) + (L.getD 0 0)).tmod 10000)) ?_
     refine GL.v (.bool (decide ((((0 : Int) + (L.getD 0 0)).tmod 10000) < (0 : Int)))) ?_
     refine GL.k k4 ?_
     by_cases hc41 : (((0 : Int) + (L.getD 0 0)).tmod 10000) < (0 : Int)
     · have hk41 : (decide ((((0 : Int) + (L.getD 0 0)).tmod 10000) < (0 : Int))) = true := decide_eq_true hc41
       refine CG.yes ?_ hk41 rfl
       refine CG.seq fun K_ k4 => ?_
       refine CG.lin 3 ?_
       refine GL.v (.int .i64 (((0 : Int) + (L.getD 0 0)).tmod 10000)) ?_
       refine GL.v (.int .i64 ((((0 : Int) + (L.getD 0 0)).tmod 10000) + (10000 : Int))) ?_ (hr := fun u => op_to (v := .int .i64 (IntKind.wrap .i64 ((((0 : Int) + (L.getD 0 0)).tmod 10000) + (10000 : Int)))) (by kernel_rfl) (wrap_i64 rfl (by omega) (by omega)))
       refine GL.v (.int .i64 ((((0 : Int) + (L.getD 0 0)).tmod 10000) + (10000 : Int))) ?_
       refine GL.k k4 ?_
       refine CG.lin 3 ?_
       refine GL.v (.int .i64 (((0 : Int) + (L.getD 0 0)).tdiv 10000)) ?_
       refine GL.v (.int .i64 ((((0 : Int) + (L.getD 0 0)).tdiv 10000) - (1 : Int))) ?_ (hr := fun u => op_to (v := .int .i64 (IntKind.wrap .i64 ((((0 : Int) + (L.getD 0 0)).tdiv 10000) - (1 : Int)))) (by kernel_rfl) (wrap_i64 rfl (by omega) (by omega)))
       refine GL.v (.int .i64 ((((0 : Int) + (L.getD 0 0)).tdiv 10000) - (1 : Int))) ?_
       refine GL.k k3 ?_
       refine CG.lin 5 ?_
       refine GL.v (.slice none 0 0) ?_
       refine GL.v (.int .i64 ((((0 : Int) + (L.getD 0 0)).tmod 10000) + (10000 : Int))) ?_
       refine GL.row (fun _ => op_build1 rowt29 (v := .int .i64 ((((0 : Int) + (L.getD 0 0)).tmod 10000) + (10000 : Int))) (by kernel_rfl) rfl) (fun _ _ _ hm => own_one_i64 hm) fun g42 => ?_
       refine GL.gn (fun _ hM => op_appnil_i64 (cx := 1) rowt29 (hM.o 0 rfl).row (by kernel_rfl) (by kernel_rfl) (by omega) (by omega) (by omega)) fun g43 c43 => ?_
       refine GL.v (.slice (some ⟨g43, 0, none⟩) 1 c43) ?_
       refine GL.q ?_
       refine QG.block ?_
       refine QG.k k2 ?_
       refine CG.lin 3 ?_
       refine GL.v (.int .i64 0) ?_
       refine GL.v (.int .i64 1) ?_ (hr := fun u => op_to (v := .int .i64 (IntKind.wrap .i64 ((0 : Int) + (1 : Int)))) (by kernel_rfl) (wrap_i64 (by omega) (by omega) (by omega)))
       refine GL.v (.int .i64 1) ?_
       refine GL.q ?_
       refine QG.again fun _ hM => ?_
       replace hM := hM.swap0
       exact ⟨(n2 - 1) * 1125899906842624 + ((((0 : Int) + (L.getD 0 0)).tdiv 10000) - (1 : Int)).toNat, (by omega), .inl ⟨1, ((((0 : Int) + (L.getD 0 0)).tdiv 10000) - (1 : Int)), g43, 1, c43, [((((0 : Int) + (L.getD 0 0)).tmod 10000) + (10000 : Int))], (fun t => (#[.int .i64 s, .slice A2 n2 c2, undef, undef, .pointer (some ⟨g21, 0, none⟩), .slice (some ⟨g43, 0, none⟩) 1 c43, .int .i64 ((((0 : Int) + (L.getD 0 0)).tdiv 10000) - (1 : Int)), .int .i64 1, .int .i64 ((((0 : Int) + (L.getD 0 0)).tmod 10000) + (10000 : Int)), .int .i64 0, .slice A2 n2 c2, .int .i64 (n2 : Int), .bool true, .bool true, undef, undef, .bool true, .int .i64 0, .int .i64 1, .int .i64 0, .int .i64 0, .slice A2 n2 c2, .int .i64 (n2 : Int), .bool true, .int .i64 0, .slice A2 n2 c2, .int .i64 0, elemPtr A2 0, .int .i64 (L.getD 0 0), .int .i64 ((0 : Int) + (L.getD 0 0)), .int .i64 ((0 : Int) + (L.getD 0 0)), .int .i64 (((0 : Int) + (L.getD 0 0)).tdiv 10000), .int .i64 ((0 : Int) + (L.getD 0 0)), .int .i64 (((0 : Int) + (L.getD 0 0)).tmod 10000), .int .i64 (((0 : Int) + (L.getD 0 0)).tmod 10000), .bool (decide ((((0 : Int) + (L.getD 0 0)).tmod 10000) < (0 : Int))), .int .i64 (((0 : Int) + (L.getD 0 0)).tmod 10000), .int .i64 ((((0 : Int) + (L.getD 0 0)).tmod 10000) + (10000 : Int)), .int .i64 (((0 : Int) + (L.getD 0 0)).tdiv 10000), .int .i64 ((((0 : Int) + (L.getD 0 0)).tdiv 10000) - (1 : Int)), .slice none 0 0, .int .i64 ((((0 : Int) + (L.getD 0 0)).tmod 10000) + (10000 : Int)), .slice (some ⟨g42, 0, none⟩) 1 1, .slice (some ⟨g43, 0, none⟩) 1 c43, undef, undef, undef, undef, undef, undef, undef, undef, undef, undef, undef, undef, undef, undef, undef, undef, undef, undef, undef, undef, undef, undef, undef, undef] : Array Value).getD t undef), (by kernel_rfl), rfl, ((hM.dropn 1).clr).add ((hM.dropn 1).f 0 rfl), (by omega), rfl, (by omega), ((Digs.nil _).snoc (by omega) (by omega)), (made_step (P := []) (i := 0) (k := 0) rfl (.inr trivial) (by omega) (by omega) (by simpa using hV0))⟩⟩
     · have hk41 : (decide ((((0 : Int) + (L.getD 0 0)).tmod 10000) < (0 : Int))) = false := decide_eq_false hc41
       refine CG.no ?_ hk41 rfl
       refine CG.skip ?_
       refine QG.k k3 ?_
       refine CG.lin 5 ?_
       refine GL.v (.slice none 0 0) ?_
       refine GL.v (.int .i64 (((0 : Int) + (L.getD 0 0)).tmod 10000)) ?_
       refine GL.row (fun _ => op_build1 rowt29 (v := .int .i64 (((0 : Int) + (L.getD 0 0)).tmod 10000)) (by kernel_rfl) rfl) (fun _ _ _ hm => own_one_i64 hm) fun g44 => ?_
       refine GL.gn (fun _ hM => op_appnil_i64 (cx := 1) rowt29 (hM.o 0 rfl).row (by kernel_rfl) (by kernel_rfl) (by omega) (by omega) (by omega)) fun g45 c45 => ?_
       refine GL.v (.slice (some ⟨g45, 0, none⟩) 1 c45) ?_
       refine GL.q ?_
       refine QG.block ?_
       refine QG.k k2 ?_
       refine CG.lin 3 ?_
       refine GL.v (.int .i64 0) ?_
       refine GL.v (.int .i64 1) ?_ (hr := fun u => op_to (v := .int .i64 (IntKind.wrap .i64 ((0 : Int) + (1 : Int)))) (by kernel_rfl) (wrap_i64 (by omega) (by omega) (by omega)))
       refine GL.v (.int .i64 1) ?_
       refine GL.q ?_
       refine QG.again fun _ hM => ?_
       replace hM := hM.swap0
       exact ⟨(n2 - 1) * 1125899906842624 + (((0 : Int) + (L.getD 0 0)).tdiv 10000).toNat, (by omega), .inl ⟨1, (((0 : Int) + (L.getD 0 0)).tdiv 10000), g45, 1, c45, [(((0 : Int) + (L.getD 0 0)).tmod 10000)], (fun t => (#[.int .i64 s, .slice A2 n2 c2, undef, undef, .pointer (some ⟨g21, 0, none⟩), .slice (some ⟨g45, 0, none⟩) 1 c45, .int .i64 (((0 : Int) + (L.getD 0 0)).tdiv 10000), .int .i64 1, .int .i64 (((0 : Int) + (L.getD 0 0)).tmod 10000), .int .i64 0, .slice A2 n2 c2, .int .i64 (n2 : Int), .bool true, .bool true, undef, undef, .bool true, .int .i64 0, .int .i64 1, .int .i64 0, .int .i64 0, .slice A2 n2 c2, .int .i64 (n2 : Int), .bool true, .int .i64 0, .slice A2 n2 c2, .int .i64 0, elemPtr A2 0, .int .i64 (L.getD 0 0), .int .i64 ((0 : Int) + (L.getD 0 0)), .int .i64 ((0 : Int) + (L.getD 0 0)), .int .i64 (((0 : Int) + (L.getD 0 0)).tdiv 10000), .int .i64 ((0 : Int) + (L.getD 0 0)), .int .i64 (((0 : Int) + (L.getD 0 0)).tmod 10000), .int .i64 (((0 : Int) + (L.getD 0 0)).tmod 10000), .bool (decide ((((0 : Int) + (L.getD 0 0)).tmod 10000) < (0 : Int))), undef, undef, undef, undef, .slice none 0 0, .int .i64 (((0 : Int) + (L.getD 0 0)).tmod 10000), .slice (some ⟨g44, 0, none⟩) 1 1, .slice (some ⟨g45, 0, none⟩) 1 c45, undef, undef, undef, undef, undef, undef, undef, undef, undef, undef, undef, undef, undef, undef, undef, undef, undef, undef, undef, undef, undef, undef, undef, undef] : Array Value).getD t undef), (by kernel_rfl), rfl, ((hM.dropn 1).clr).add ((hM.dropn 1).f 0 rfl), (by omega), rfl, (by omega), ((Digs.nil _).snoc (by omega) (by omega)), (made_step (P := []) (i := 0) (k := 0) rfl (.inr trivial) (by omega) (by omega) (by simpa using hV0))⟩⟩
   · have hk40 : (decide ((0 : Int) < (n2 : Int))) = false := decide_eq_false hc40
     refine CG.lin 8 ?_
     refine GL.v (.int .i64 0) ?_
     refine GL.v (.slice A2 n2 c2) ?_
     refine GL.v (.int .i64 (n2 : Int)) ?_
     refine GL.v (.bool false) ?_ (hr := fun u => op_b (b := (decide ((0 : Int) < (n2 : Int)))) (by kernel_rfl) hk40)
     refine GL.v (.bool false) ?_
     refine GL.v (.int .i64 0) ?_
     refine GL.v (.bool false) ?_
     refine GL.v (.bool false) ?_
     refine GL.k k3 ?_
     refine CG.no ?_ rfl rfl
     refine CG.exit (QG.then_exit (QG.then_exit (QG.here ?_)))
     refine QG.k k1 ?_
     refine CG.seq fun K_ k1 => ?_
     refine CG.block ?_
     refine CG.rounds 1 ?_
     refine CG.round ?_
     refine CG.seq fun K_ k2 => ?_
     refine CG.seq fun K_ k3 => ?_
     refine CG.lin 12 ?_
     refine GL.v (.slice none 0 0) ?_
     refine GL.v (.int .i64 0) ?_
     refine GL.v (.bool false) ?_
     refine GL.v (.bool false) ?_
     refine GL.sk ?_
     refine GL.sk ?_
     refine GL.sk ?_
     refine GL.sk ?_
     refine GL.sk ?_
     refine GL.sk ?_
     refine GL.sk ?_
     refine GL.v (.bool false) ?_
     refine GL.k k3 ?_
     refine CG.no ?_ rfl rfl
     refine CG.exit (QG.then_exit (QG.then_exit (QG.here ?_)))
     refine QG.k k1 ?_
     refine CG.seq fun K_ k1 => ?_
     refine CG.seq fun K_ k2 => ?_
     refine CG.lin 3 ?_
     refine GL.v (.slice none 0 0) ?_
     refine GL.v (.int .i64 0) ?_
     refine GL.v (.bool true) ?_
     refine GL.k k2 ?_
     refine CG.yes ?_ rfl rfl
     refine CG.seq fun K_ k2 => ?_
     refine CG.lin 2 ?_
     refine GL.v (.agg #[.int .i64 0, .slice none 0 0]) ?_
     refine GL.sA (cs' := #[.int .i64 0, .slice none 0 0]) (fun _ _ => Mem.st0) (fun _ hM => hM.b 0 rfl) siz31 ?_
     refine GL.k k2 ?_
     refine CG.ret (QG.then_ret (QG.ret (fun _ hM => results_one rfl (res_cell rfl (loadVar_agg agg31 siz31 (hM.b 0 rfl) rfl rfl))) ?_))
     intro _ hM
     exact ⟨_, _, _, _, rfl, ((show (0 : Int) = s * (x : Int) by rw [show x = 0 from made_zero0 p1 (by omega) (by omega), Int.natCast_zero, Int.mul_zero]) ▸ (hM.out (NZk.nil _ _ none 0))), hM.below⟩

set_option maxRecDepth 100000 in
set_option maxHeartbeats 400000 in
theorem ZInt_ok {w : World} {X : Nat → Prop} (hX : ∀ k, X k → k < w.heap.size) (n : Int) (p1 : -9223372036854775808 ≤ n ∧ n ≤ 9223372036854775807) :
    Calls Tryz.prog 36 #[.int .i64 n] w (fun e w' => ∃ sr Ar nr cr, e = .returned (.agg #[.int .i64 sr, .slice Ar nr cr]) ∧ NZk.R X w' [.int .i64 sr, .slice Ar nr cr] n ∧ Below w.heap.size w w') := by
 have hM := Mem.start hX
 refine calls_of hM Tryz.func36 Tryz.ntmps36 ?_
 refine CG.seq fun K_ k1 => ?_
 refine CG.lin 1 ?_
 refine GL.aA zer31 fun g21 => ?_
 refine GL.k k1 ?_
 refine CG.seq fun K_ k1 => ?_
 refine CG.lin 1 ?_
 refine GL.v (.int .i64 1) ?_
 refine GL.k k1 ?_
 refine CG.seq fun K_ k1 => ?_
 refine CG.seq fun K_ k2 => ?_
 refine CG.lin 2 ?_
 refine GL.v (.int .i64 n) ?_
 refine GL.v (.bool (decide (n < (0 : Int)))) ?_
 refine GL.k k2 ?_
 refine CG.cut (fun a_ u_ => ∃ (s : Int), a_ = ⟨#[.int .i64 n, undef, .pointer (some ⟨g21, 0, none⟩), .int .i64 s, undef, undef, .int .i64 n, .bool (decide (n < (0 : Int))), undef, undef, undef, undef, undef, undef, undef, undef, undef, undef, undef, undef, undef, undef, undef, undef, undef], []⟩ ∧ Mem w [] X u_ [.box g21 #[.int .i64 0, .slice none 0 0] 31] [] ∧ (s = 1 ∧ 0 ≤ n ∨ s = -1 ∧ n < 0)) ?_ ?_
 · skip
   by_cases hc38 : n < (0 : Int)
   · have hk38 : (decide (n < (0 : Int))) = true := decide_eq_true hc38
     refine CG.yes ?_ hk38 rfl
     refine CG.lin 1 ?_
     refine GL.v (.int .i64 (-1)) ?_
     refine GL.q ?_
     refine QG.cut fun _ hM => ?_
     exact ⟨(-1), (by kernel_rfl), hM.clr, (by omega)⟩
   · have hk38 : (decide (n < (0 : Int))) = false := decide_eq_false hc38
     refine CG.no ?_ hk38 rfl
     refine CG.skip ?_
     refine QG.cut fun _ hM => ?_
     exact ⟨1, (by kernel_rfl), hM.clr, (by omega)⟩
 · skip
   rintro a_ u_ ⟨s, rfl, hM, hs⟩
   refine QG.go hM ?_
   refine QG.k k1 ?_
   refine CG.seq fun K_ k1 => ?_
   refine CG.lin 1 ?_
   refine GL.v (.slice none 0 0) ?_
   refine GL.k k1 ?_
   refine CG.seq fun K_ k1 => ?_
   refine CG.block ?_
   refine CG.loop (fun m_ a_ u_ => (∃ (i : Nat) (v : Int) (g4 : Nat) (n4 : Nat) (c4 : Nat) (P : List Int) (j23 : Nat → Value), a_ = ⟨#[.int .i64 v, undef, .pointer (some ⟨g21, 0, none⟩), .int .i64 s, .slice (some ⟨g4, 0, none⟩) n4 c4, (j23 5), .int .i64 n, .bool (decide (n < (0 : Int))), (j23 8), (j23 9), (j23 10), (j23 11), (j23 12), (j23 13), (j23 14), (j23 15), (j23 16), (j23 17), (j23 18), (j23 19), (j23 20), (j23 21), undef, undef, undef], []⟩ ∧ m_ = v.natAbs ∧ Mem w [] X u_ [.own g4 3 n4 c4 (i64s P), .box g21 #[.int .i64 0, .slice none 0 0] 31] [] ∧ (n4 = i) ∧ (i = 1 ∧ v.natAbs ≤ 922337203685478 ∨ i = 2 ∧ v.natAbs ≤ 92233720369 ∨ i = 3 ∧ v.natAbs ≤ 9223373 ∨ i = 4 ∧ v.natAbs ≤ 923 ∨ i = 5 ∧ v.natAbs = 0) ∧ ((0 ≤ n → 0 ≤ v) ∧ (n < 0 → v ≤ 0)) ∧ (P.length = i) ∧ (Digs 10000 P) ∧ (val 10000 P + 10000 ^ i * ((v.natAbs : Nat) : Int) = ((n.natAbs : Nat) : Int))) ∨ (m_ = n.natAbs + 1 ∧ a_ = ⟨#[.int .i64 n, undef, .pointer (some ⟨g21, 0, none⟩), .int .i64 s, .slice none 0 0, undef, .int .i64 n, .bool (decide (n < (0 : Int))), undef, undef, undef, undef, undef, undef, undef, undef, undef, undef, undef, undef, undef, undef, undef, undef, undef], []⟩ ∧ Mem w [] X u_ [.box g21 #[.int .i64 0, .slice none 0 0] 31] [])) (fun _ hM => ⟨_, .inr ⟨rfl, (by kernel_rfl), hM⟩⟩) ?_
   rintro m_ a_ u_ (⟨i, v, g4, n4, c4, P, j23, rfl, hm23, hM, hi, hv, hvs, hP, hD, hV⟩ | ⟨hm23, rfl, hM⟩)
   · skip
     refine CG.go hM ?_
     refine CG.seq fun K_ k2 => ?_
     refine CG.seq fun K_ k3 => ?_
     refine CG.lin 2 ?_
     refine GL.v (.int .i64 v) ?_
     refine GL.v (.bool (v != (0 : Int))) ?_
     refine GL.k k3 ?_
     by_cases hc24 : v ≠ (0 : Int)
     · have hk24 : (v != (0 : Int)) = true := bne_iff_ne.2 hc24
       refine CG.yes ?_ hk24 rfl
       refine CG.skip ?_
       refine QG.k k2 ?_
       refine CG.block ?_
       refine CG.seq fun K_ k2 => ?_
       refine CG.lin 3 ?_
       refine GL.v (.int .i64 v) ?_
       have hq := tq10 v
       refine GL.v (.int .i64 (v.tmod 10000)) ?_
       refine GL.v (.int .i64 (v.tmod 10000)) ?_
       refine GL.k k2 ?_
       refine CG.seq fun K_ k2 => ?_
       refine CG.seq fun K_ k3 => ?_
       refine CG.lin 2 ?_
       refine GL.v (.int .i64 (v.tmod 10000)) ?_
       refine GL.v (.bool (decide ((v.tmod 10000) < (0 : Int)))) ?_
       refine GL.k k3 ?_
       by_cases hc25 : (v.tmod 10000) < (0 : Int)
       · have hk25 : (decide ((v.tmod 10000) < (0 : Int))) = true := decide_eq_true hc25
         refine CG.yes ?_ hk25 rfl
         refine CG.lin 3 ?_
         refine GL.v (.int .i64 (v.tmod 10000)) ?_
         refine GL.v (.int .i64 (-(v.tmod 10000))) ?_ (hr := fun u => op_to (v := .int .i64 (IntKind.wrap .i64 (0 - (v.tmod 10000)))) (by kernel_rfl) (wrap_i64 (by omega) (by omega) (by omega)))
         refine GL.v (.int .i64 (-(v.tmod 10000))) ?_
         refine GL.k k2 ?_
         refine CG.seq fun K_ k2 => ?_
         refine CG.lin 5 ?_
         refine GL.v (.slice (some ⟨g4, 0, none⟩) n4 c4) ?_
         refine GL.v (.int .i64 (-(v.tmod 10000))) ?_
         refine GL.row (fun _ => op_build1 rowt29 (v := .int .i64 (-(v.tmod 10000))) (by kernel_rfl) rfl) (fun _ _ _ hm => own_one_i64 hm) fun g26 => ?_
         refine GL.gr (fun _ _ _ _ => Mem.gr1) (fun _ hM => op_append_i64 (cx := 1) rowt29 (hM.o 1 rfl) (hM.o 0 rfl).row (by kernel_rfl) (by kernel_rfl) (by omega) (by omega)) fun g27 c27 => ?_
         refine GL.v (.slice (some ⟨g27, 0, none⟩) (n4 + 1) c27) ?_
         refine GL.k k2 ?_
         refine CG.lin 3 ?_
         refine GL.v (.int .i64 v) ?_
         refine GL.v (.int .i64 (v.tdiv 10000)) ?_ (hr := fun u => op_to (v := .int .i64 (IntKind.wrap .i64 (v.tdiv 10000))) (by kernel_rfl) (wrap_i64 rfl (by omega) (by omega)))
         refine GL.v (.int .i64 (v.tdiv 10000)) ?_
         refine GL.q ?_
         refine QG.block ?_
         refine QG.again fun _ hM => ?_
         exact ⟨(v.tdiv 10000).natAbs, (by omega), .inl ⟨(i + 1), (v.tdiv 10000), g27, (n4 + 1), c27, (P ++ [(-(v.tmod 10000))]), (fun t => (#[.int .i64 (v.tdiv 10000), undef, .pointer (some ⟨g21, 0, none⟩), .int .i64 s, .slice (some ⟨g27, 0, none⟩) (n4 + 1) c27, .int .i64 (-(v.tmod 10000)), .int .i64 n, .bool (decide (n < (0 : Int))), .int .i64 v, .bool (v != (0 : Int)), .int .i64 v, .int .i64 (v.tmod 10000), .int .i64 (v.tmod 10000), .bool (decide ((v.tmod 10000) < (0 : Int))), .int .i64 (v.tmod 10000), .int .i64 (-(v.tmod 10000)), .slice (some ⟨g4, 0, none⟩) n4 c4, .int .i64 (-(v.tmod 10000)), .slice (some ⟨g26, 0, none⟩) 1 1, .slice (some ⟨g27, 0, none⟩) (n4 + 1) c27, .int .i64 v, .int .i64 (v.tdiv 10000), undef, undef, undef] : Array Value).getD t undef), (by kernel_rfl), rfl, (hM.dropn 1).clr, (by omega), (by omega), (by omega), (by simp [hP]), (hD.snoc (by omega) (by omega)), (zint_step hP (by omega) (by omega) hV)⟩⟩
       · have hk25 : (decide ((v.tmod 10000) < (0 : Int))) = false := decide_eq_false hc25
         refine CG.no ?_ hk25 rfl
         refine CG.skip ?_
         refine QG.k k2 ?_
         refine CG.seq fun K_ k2 => ?_
         refine CG.lin 5 ?_
         refine GL.v (.slice (some ⟨g4, 0, none⟩) n4 c4) ?_
         refine GL.v (.int .i64 (v.tmod 10000)) ?_
         refine GL.row (fun _ => op_build1 rowt29 (v := .int .i64 (v.tmod 10000)) (by kernel_rfl) rfl) (fun _ _ _ hm => own_one_i64 hm) fun g28 => ?_
         refine GL.gr (fun _ _ _ _ => Mem.gr1) (fun _ hM => op_append_i64 (cx := 1) rowt29 (hM.o 1 rfl) (hM.o 0 rfl).row (by kernel_rfl) (by kernel_rfl) (by omega) (by omega)) fun g29 c29 => ?_
         refine GL.v (.slice (some ⟨g29, 0, none⟩) (n4 + 1) c29) ?_
         refine GL.k k2 ?_
         refine CG.lin 3 ?_
         refine GL.v (.int .i64 v) ?_
         refine GL.v (.int .i64 (v.tdiv 10000)) ?_ (hr := fun u => op_to (v := .int .i64 (IntKind.wrap .i64 (v.tdiv 10000))) (by kernel_rfl) (wrap_i64 rfl (by omega) (by omega)))
         refine GL.v (.int .i64 (v.tdiv 10000)) ?_
         refine GL.q ?_
         refine QG.block ?_
         refine QG.again fun _ hM => ?_
         exact ⟨(v.tdiv 10000).natAbs, (by omega), .inl ⟨(i + 1), (v.tdiv 10000), g29, (n4 + 1), c29, (P ++ [(v.tmod 10000)]), (fun t => (#[.int .i64 (v.tdiv 10000), undef, .pointer (some ⟨g21, 0, none⟩), .int .i64 s, .slice (some ⟨g29, 0, none⟩) (n4 + 1) c29, .int .i64 (v.tmod 10000), .int .i64 n, .bool (decide (n < (0 : Int))), .int .i64 v, .bool (v != (0 : Int)), .int .i64 v, .int .i64 (v.tmod 10000), .int .i64 (v.tmod 10000), .bool (decide ((v.tmod 10000) < (0 : Int))), (j23 14), (j23 15), .slice (some ⟨g4, 0, none⟩) n4 c4, .int .i64 (v.tmod 10000), .slice (some ⟨g28, 0, none⟩) 1 1, .slice (some ⟨g29, 0, none⟩) (n4 + 1) c29, .int .i64 v, .int .i64 (v.tdiv 10000), undef, undef, undef] : Array Value).getD t undef), (by kernel_rfl), rfl, (hM.dropn 1).clr, (by omega), (by omega), (by omega), (by simp [hP]), (hD.snoc (by omega) (by omega)), (zint_step hP (by omega) (by omega) hV)⟩⟩
     · have hk24 : (v != (0 : Int)) = false := by simpa using hc24
       refine CG.no ?_ hk24 rfl
       refine CG.exit (QG.then_exit (QG.then_exit (QG.here ?_)))
       refine QG.k k1 ?_
       refine CG.seq fun K_ k1 => ?_
       refine CG.lin 4 ?_
       refine GL.v (.int .i64 s) ?_
       refine GL.v (.slice (some ⟨g4, 0, none⟩) n4 c4) ?_
       refine GL.mem (fun _ hM => hM.pu0 fun hO _ hX => SIk.own hO hX) ?_
       refine GL.call (fun _ hM => nmade_ok hM.avlt s (x := n.natAbs) (hM.f 0 rfl) (zint_done (by omega) hV) (fun y hy => by have := hD y hy; omega) (by first | assumption | omega) (by first | assumption | omega)) ?_
       rintro _ _ _ hM ⟨s30, A30, n30, c30, rfl, h30, hb⟩
       refine ⟨_, _, _, rfl, (hM.call hb).add h30, ?_⟩
       refine GL.sA (cs' := #[.int .i64 s30, .slice A30 n30 c30]) (fun _ _ => Mem.st0) (fun _ hM => hM.b 0 rfl) siz31 ?_
       refine GL.k k1 ?_
       refine CG.ret (QG.ret (fun _ hM => results_one rfl (res_cell rfl (loadVar_agg agg31 siz31 (hM.b 0 rfl) rfl rfl))) ?_)
       intro _ hM
       exact ⟨_, _, _, _, rfl, ((zint_sign hs) ▸ (hM.out (hM.f 0 rfl))), hM.below⟩
   · skip
     refine CG.go hM ?_
     refine CG.seq fun K_ k2 => ?_
     refine CG.seq fun K_ k3 => ?_
     refine CG.lin 2 ?_
     refine GL.v (.int .i64 n) ?_
     refine GL.v (.bool (n != (0 : Int))) ?_
     refine GL.k k3 ?_
     by_cases hc31 : n ≠ (0 : Int)
     · have hk31 : (n != (0 : Int)) = true := bne_iff_ne.2 hc31
       refine CG.yes ?_ hk31 rfl
       refine CG.skip ?_
       refine QG.k k2 ?_
       refine CG.block ?_
       refine CG.seq fun K_ k2 => ?_
       refine CG.lin 3 ?_
       refine GL.v (.int .i64 n) ?_
       have hq := tq10 n
       refine GL.v (.int .i64 (n.tmod 10000)) ?_
       refine GL.v (.int .i64 (n.tmod 10000)) ?_
       refine GL.k k2 ?_
       refine CG.seq fun K_ k2 => ?_
       refine CG.seq fun K_ k3 => ?_
       refine CG.lin 2 ?_
       refine GL.v (.int .i64 (n.tmod 10000)) ?_
       refine GL.v (.bool (decide ((n.tmod 10000) < (0 : Int)))) ?_
       refine GL.k k3 ?_
       by_cases hc32 : (n.tmod 10000) < (0 : Int)
       · have hk32 : (decide ((n.tmod 10000) < (0 : Int))) = true := decide_eq_true hc32
         refine CG.yes ?_ hk32 rfl
         refine CG.lin 3 ?_
         refine GL.v (.int .i64 (n.tmod 10000)) ?_
         refine GL.v (.int .i64 (-(n.tmod 10000))) ?_ (hr := fun u => op_to (v := .int .i64 (IntKind.wrap .i64 (0 - (n.tmod 10000)))) (by kernel_rfl) (wrap_i64 (by omega) (by omega) (by omega)))
         refine GL.v (.int .i64 (-(n.tmod 10000))) ?_
         refine GL.k k2 ?_
         refine CG.seq fun K_ k2 => ?_
         refine CG.lin 5 ?_
         refine GL.v (.slice none 0 0) ?_
         refine GL.v (.int .i64 (-(n.tmod 10000))) ?_
         refine GL.row (fun _ => op_build1 rowt29 (v := .int .i64 (-(n.tmod 10000))) (by kernel_rfl) rfl) (fun _ _ _ hm => own_one_i64 hm) fun g33 => ?_
         refine GL.gn (fun _ hM => op_appnil_i64 (cx := 1) rowt29 (hM.o 0 rfl).row (by kernel_rfl) (by kernel_rfl) (by omega) (by omega) (by omega)) fun g34 c34 => ?_
         refine GL.v (.slice (some ⟨g34, 0, none⟩) 1 c34) ?_
         refine GL.k k2 ?_
         refine CG.lin 3 ?_
         refine GL.v (.int .i64 n) ?_
         refine GL.v (.int .i64 (n.tdiv 10000)) ?_ (hr := fun u => op_to (v := .int .i64 (IntKind.wrap .i64 (n.tdiv 10000))) (by kernel_rfl) (wrap_i64 rfl (by omega) (by omega)))
         refine GL.v (.int .i64 (n.tdiv 10000)) ?_
         refine GL.q ?_
         refine QG.block ?_
         refine QG.again fun _ hM => ?_
         replace hM := hM.swap0
         exact ⟨(n.tdiv 10000).natAbs, (by omega), .inl ⟨1, (n.tdiv 10000), g34, 1, c34, [(-(n.tmod 10000))], (fun t => (#[.int .i64 (n.tdiv 10000), undef, .pointer (some ⟨g21, 0, none⟩), .int .i64 s, .slice (some ⟨g34, 0, none⟩) 1 c34, .int .i64 (-(n.tmod 10000)), .int .i64 n, .bool (decide (n < (0 : Int))), .int .i64 n, .bool (n != (0 : Int)), .int .i64 n, .int .i64 (n.tmod 10000), .int .i64 (n.tmod 10000), .bool (decide ((n.tmod 10000) < (0 : Int))), .int .i64 (n.tmod 10000), .int .i64 (-(n.tmod 10000)), .slice none 0 0, .int .i64 (-(n.tmod 10000)), .slice (some ⟨g33, 0, none⟩) 1 1, .slice (some ⟨g34, 0, none⟩) 1 c34, .int .i64 n, .int .i64 (n.tdiv 10000), undef, undef, undef] : Array Value).getD t undef), (by kernel_rfl), rfl, (hM.dropn 1).clr, (by omega), (by omega), (by omega), rfl, ((Digs.nil _).snoc (by omega) (by omega)), (zint_step (P := []) (i := 0) (v := n) rfl (by omega) (by omega) (by simp))⟩⟩
       · have hk32 : (decide ((n.tmod 10000) < (0 : Int))) = false := decide_eq_false hc32
         refine CG.no ?_ hk32 rfl
         refine CG.skip ?_
         refine QG.k k2 ?_
         refine CG.seq fun K_ k2 => ?_
         refine CG.lin 5 ?_
         refine GL.v (.slice none 0 0) ?_
         refine GL.v (.int .i64 (n.tmod 10000)) ?_
         refine GL.row (fun _ => op_build1 rowt29 (v := .int .i64 (n.tmod 10000)) (by kernel_rfl) rfl) (fun _ _ _ hm => own_one_i64 hm) fun g35 => ?_
         refine GL.gn (fun _ hM => op_appnil_i64 (cx := 1) rowt29 (hM.o 0 rfl).row (by kernel_rfl) (by kernel_rfl) (by omega) (by omega) (by omega)) fun g36 c36 => ?_
         refine GL.v (.slice (some ⟨g36, 0, none⟩) 1 c36) ?_
         refine GL.k k2 ?_
         refine CG.lin 3 ?_
         refine GL.v (.int .i64 n) ?_
         refine GL.v (.int .i64 (n.tdiv 10000)) ?_ (hr := fun u => op_to (v := .int .i64 (IntKind.wrap .i64 (n.tdiv 10000))) (by kernel_rfl) (wrap_i64 rfl (by omega) (by omega)))
         refine GL.v (.int .i64 (n.tdiv 10000)) ?_
         refine GL.q ?_
         refine QG.block ?_
         refine QG.again fun _ hM => ?_
         replace hM := hM.swap0
         exact ⟨(n.tdiv 10000).natAbs, (by omega), .inl ⟨1, (n.tdiv 10000), g36, 1, c36, [(n.tmod 10000)], (fun t => (#[.int .i64 (n.tdiv 10000), undef, .pointer (some ⟨g21, 0, none⟩), .int .i64 s, .slice (some ⟨g36, 0, none⟩) 1 c36, .int .i64 (n.tmod 10000), .int .i64 n, .bool (decide (n < (0 : Int))), .int .i64 n, .bool (n != (0 : Int)), .int .i64 n, .int .i64 (n.tmod 10000), .int .i64 (n.tmod 10000), .bool (decide ((n.tmod 10000) < (0 : Int))), undef, undef, .slice none 0 0, .int .i64 (n.tmod 10000), .slice (some ⟨g35, 0, none⟩) 1 1, .slice (some ⟨g36, 0, none⟩) 1 c36, .int .i64 n, .int .i64 (n.tdiv 10000), undef, undef, undef] : Array Value).getD t undef), (by kernel_rfl), rfl, (hM.dropn 1).clr, (by omega), (by omega), (by omega), rfl, ((Digs.nil _).snoc (by omega) (by omega)), (zint_step (P := []) (i := 0) (v := n) rfl (by omega) (by omega) (by simp))⟩⟩
     · have hk31 : (n != (0 : Int)) = false := by simpa using hc31
       refine CG.no ?_ hk31 rfl
       refine CG.exit (QG.then_exit (QG.then_exit (QG.here ?_)))
       refine QG.k k1 ?_
       refine CG.seq fun K_ k1 => ?_
       refine CG.lin 4 ?_
       refine GL.v (.int .i64 s) ?_
       refine GL.v (.slice none 0 0) ?_
       refine GL.call (fun _ hM => nmade_ok hM.avlt s (x := n.natAbs) (SIk.nil _ _ none 0) (by rw [show n.natAbs = 0 by omega]; rfl) (fun y hy => by simp at hy) (by first | assumption | omega) (by first | assumption | omega)) ?_
       rintro _ _ _ hM ⟨s37, A37, n37, c37, rfl, h37, hb⟩
       refine ⟨_, _, _, rfl, (hM.call hb).add h37, ?_⟩
       refine GL.sA (cs' := #[.int .i64 s37, .slice A37 n37 c37]) (fun _ _ => Mem.st0) (fun _ hM => hM.b 0 rfl) siz31 ?_
       refine GL.k k1 ?_
       refine CG.ret (QG.ret (fun _ hM => results_one rfl (res_cell rfl (loadVar_agg agg31 siz31 (hM.b 0 rfl) rfl rfl))) ?_)
       intro _ hM
       exact ⟨_, _, _, _, rfl, ((zint_sign hs) ▸ (hM.out (hM.f 0 rfl))), hM.below⟩

set_option maxRecDepth 100000 in
set_option maxHeartbeats 400000 in
theorem larger_ok {w : World} {X : Nat → Prop} {s1 : Int} {A1 : Option Addr} {n1 : Nat} {c1 : Nat} {a : Int} {s2 : Int} {A2 : Option Addr} {n2 : Nat} {c2 : Nat} {b : Int} (hX : ∀ k, X k → k < w.heap.size) (h1 : NZk.R X w [.int .i64 s1, .slice A1 n1 c1] a) (h2 : NZk.R X w [.int .i64 s2, .slice A2 n2 c2] b) :
    Calls Tryz.prog 108 #[.agg #[.int .i64 s1, .slice A1 n1 c1], .agg #[.int .i64 s2, .slice A2 n2 c2]] w (fun e w' => e = .returned (.int .i64 (cmpN a.natAbs b.natAbs)) ∧ Below w.heap.size w w') := by
 have hM := ((Mem.start hX).add0 h1).add0 h2
 have hl1 := NZk.le h1
 have hl2 := NZk.le h2
 have hg1 : (gp a.natAbs).length = n1 := NZk.szg h1
 have hg2 : (gp b.natAbs).length = n2 := NZk.szg h2
 refine calls_of hM Tryz.func108 Tryz.ntmps108 ?_
 refine CG.seq fun K_ k1 => ?_
 refine CG.lin 3 ?_
 refine GL.bA #[.int .i64 s1, .slice A1 n1 c1] fun g21 => ?_
 refine GL.bA #[.int .i64 s2, .slice A2 n2 c2] fun g22 => ?_
 refine GL.v (.int .i64 0) ?_
 refine GL.k k1 ?_
 refine CG.seq fun K_ k1 => ?_
 refine CG.lin 8 ?_
 refine GL.v (.pointer (some ⟨g21, 1, none⟩)) ?_
 refine GL.r (.slice A1 n1 c1) (fun _ hM => op_load_one (off := 1) (by kernel_rfl) agg29 (hM.b 1 rfl) rfl) ?_
 refine GL.v (.int .i64 (n1 : Int)) ?_
 refine GL.v (.pointer (some ⟨g22, 1, none⟩)) ?_
 refine GL.r (.slice A2 n2 c2) (fun _ hM => op_load_one (off := 1) (by kernel_rfl) agg29 (hM.b 0 rfl) rfl) ?_
 refine GL.v (.int .i64 (n2 : Int)) ?_
 refine GL.v (.int .i64 ((n1 : Int) - (n2 : Int))) ?_ (hr := fun u => op_to (v := .int .i64 (IntKind.wrap .i64 ((n1 : Int) - (n2 : Int)))) (by kernel_rfl) (wrap_i64 rfl (by omega) (by omega)))
 refine GL.v (.int .i64 ((n1 : Int) - (n2 : Int))) ?_
 refine GL.k k1 ?_
 refine CG.seq fun K_ k1 => ?_
 refine CG.seq fun K_ k2 => ?_
 refine CG.lin 5 ?_
 refine GL.v (.pointer (some ⟨g21, 1, none⟩)) ?_
 refine GL.r (.slice A1 n1 c1) (fun _ hM => op_load_one (off := 1) (by kernel_rfl) agg29 (hM.b 1 rfl) rfl) ?_
 refine GL.v (.int .i64 (n1 : Int)) ?_
 refine GL.v (.int .i64 ((n1 : Int) - (1 : Int))) ?_ (hr := fun u => op_to (v := .int .i64 (IntKind.wrap .i64 ((n1 : Int) - (1 : Int)))) (by kernel_rfl) (wrap_i64 rfl (by omega) (by omega)))
 refine GL.v (.int .i64 ((n1 : Int) - (1 : Int))) ?_
 refine GL.k k2 ?_
 refine CG.block ?_
 refine CG.loop (fun m_ a_ u_ => ∃ (i : Int) (d : Int) (j23 : Nat → Value), a_ = ⟨#[.agg #[.int .i64 s1, .slice A1 n1 c1], .agg #[.int .i64 s2, .slice A2 n2 c2], .pointer (some ⟨g21, 0, none⟩), .pointer (some ⟨g22, 0, none⟩), .int .i64 0, .int .i64 d, .int .i64 i, .pointer (some ⟨g21, 1, none⟩), .slice A1 n1 c1, .int .i64 (n1 : Int), .pointer (some ⟨g22, 1, none⟩), .slice A2 n2 c2, .int .i64 (n2 : Int), .int .i64 ((n1 : Int) - (n2 : Int)), .pointer (some ⟨g21, 1, none⟩), .slice A1 n1 c1, .int .i64 (n1 : Int), .int .i64 ((n1 : Int) - (1 : Int)), (j23 18), (j23 19), (j23 20), (j23 21), (j23 22), (j23 23), (j23 24), (j23 25), (j23 26), (j23 27), (j23 28), (j23 29), (j23 30), (j23 31), (j23 32), (j23 33), (j23 34), (j23 35), (j23 36), undef, undef, undef, undef], []⟩ ∧ m_ = (i + 1).toNat ∧ Mem w [] X u_ [.box g22 #[.int .i64 s2, .slice A2 n2 c2] 31, .box g21 #[.int .i64 s1, .slice A1 n1 c1] 31] [⟨NZk, [.int .i64 s2, .slice A2 n2 c2], b⟩, ⟨NZk, [.int .i64 s1, .slice A1 n1 c1], a⟩] ∧ (-1 ≤ i ∧ i < (n1 : Int)) ∧ (Larger a.natAbs b.natAbs n1 n2 i d)) (fun _ hM => ⟨_, ((n1 : Int) - (1 : Int)), ((n1 : Int) - (n2 : Int)), (fun t => (#[.agg #[.int .i64 s1, .slice A1 n1 c1], .agg #[.int .i64 s2, .slice A2 n2 c2], .pointer (some ⟨g21, 0, none⟩), .pointer (some ⟨g22, 0, none⟩), .int .i64 0, .int .i64 ((n1 : Int) - (n2 : Int)), .int .i64 ((n1 : Int) - (1 : Int)), .pointer (some ⟨g21, 1, none⟩), .slice A1 n1 c1, .int .i64 (n1 : Int), .pointer (some ⟨g22, 1, none⟩), .slice A2 n2 c2, .int .i64 (n2 : Int), .int .i64 ((n1 : Int) - (n2 : Int)), .pointer (some ⟨g21, 1, none⟩), .slice A1 n1 c1, .int .i64 (n1 : Int), .int .i64 ((n1 : Int) - (1 : Int)), undef, undef, undef, undef, undef, undef, undef, undef, undef, undef, undef, undef, undef, undef, undef, undef, undef, undef, undef, undef, undef, undef, undef] : Array Value).getD t undef), (by kernel_rfl), rfl, ((hM.clr).add (hM.f 1 rfl)).add (hM.f 0 rfl), (by omega), (larger_init hg1 hg2)⟩) ?_
 rintro m_ a_ u_ ⟨i, d, j23, rfl, hm23, hM, hI, hd⟩
 refine CG.go hM ?_
 refine CG.seq fun K_ k2 => ?_
 refine CG.seq fun K_ k3 => ?_
 by_cases hc24 : i ≥ (0 : Int)
 · have hk24 : (decide (i ≥ (0 : Int))) = true := decide_eq_true hc24
   by_cases hc25 : d = (0 : Int)
   · have hk25 : (d == (0 : Int)) = true := beq_iff_eq.2 hc25
     refine CG.lin 6 ?_
     refine GL.v (.int .i64 i) ?_
     refine GL.v (.bool true) ?_ (hr := fun u => op_b (b := (decide (i ≥ (0 : Int)))) (by kernel_rfl) hk24)
     refine GL.v (.bool true) ?_
     refine GL.v (.int .i64 d) ?_
     refine GL.v (.bool true) ?_ (hr := fun u => op_b (b := (d == (0 : Int))) (by kernel_rfl) hk25)
     refine GL.v (.bool true) ?_
     refine GL.k k3 ?_
     refine CG.yes ?_ rfl rfl
     refine CG.skip ?_
     refine QG.k k2 ?_
     refine CG.seq fun K_ k2 => ?_
     refine CG.block ?_
     refine CG.draw [] [0, 1, 2, 3, 4, 5, 6, 7, 8, 9, 10] (.step 0 (.step 1 (.step 2 (.step 3 (.step 4 (.step 5 (.step 6 (.step 7 (.step 8 (.step 9 (.step 10 (.step 11 .done)))))))))))) (fun V hV26 => ?_)
     have hnn := larger_len hd (by omega)
     refine GD.ev (.pointer (some ⟨g21, 1, none⟩)) ?_
     refine GD.er (.slice A1 n1 c1) (fun _ hS => op_load_one (off := 1) (by kernel_rfl) agg29 (hV26.bS 1 rfl hS) rfl) ?_
     refine GD.ev (.int .i64 i) ?_
     refine GD.er (elemPtr A1 ((i).toNat)) (fun _ hS => op_index rowt29 (c := c1) (k := .i64) (i := i) ((i).toNat) (by kernel_rfl) (by kernel_rfl) (by omega) (by omega) (Row.keep (NZk.row (hV26.f 1 rfl)) hS.keep) _) ?_
     refine GD.er (.int .i64 ((gp (a).natAbs).getD ((i).toNat) 0)) (fun _ hS => op_load_i64 (n := n1) (by kernel_rfl) agg3 (Row.keep (NZk.row (hV26.f 1 rfl)) hS.keep) (by omega)) ?_
     refine GD.ev (.pointer (some ⟨g22, 1, none⟩)) ?_
     refine GD.er (.slice A2 n2 c2) (fun _ hS => op_load_one (off := 1) (by kernel_rfl) agg29 (hV26.bS 0 rfl hS) rfl) ?_
     refine GD.ev (.int .i64 i) ?_
     refine GD.er (elemPtr A2 ((i).toNat)) (fun _ hS => op_index rowt29 (c := c2) (k := .i64) (i := i) ((i).toNat) (by kernel_rfl) (by kernel_rfl) (by omega) (by omega) (Row.keep (NZk.row (hV26.f 0 rfl)) hS.keep) _) ?_
     refine GD.er (.int .i64 ((gp (b).natAbs).getD ((i).toNat) 0)) (fun _ hS => op_load_i64 (n := n2) (by kernel_rfl) agg3 (Row.keep (NZk.row (hV26.f 0 rfl)) hS.keep) (by omega)) ?_
     have hga := gp_get a.natAbs i.toNat
     have hgb := gp_get b.natAbs i.toNat
     refine GD.ev (.int .i64 (((gp (a).natAbs).getD ((i).toNat) 0) - ((gp (b).natAbs).getD ((i).toNat) 0))) ?_ (hr := fun u => op_to (v := .int .i64 (IntKind.wrap .i64 (((gp (a).natAbs).getD ((i).toNat) 0) - ((gp (b).natAbs).getD ((i).toNat) 0)))) (by kernel_rfl) (wrap_i64 rfl (by omega) (by omega)))
     refine GD.v (.int .i64 (((gp (a).natAbs).getD ((i).toNat) 0) - ((gp (b).natAbs).getD ((i).toNat) 0))) ?_
     refine GD.q ?_
     refine QG.block ?_
     refine QG.k k2 ?_
     refine CG.lin 3 ?_
     refine GL.v (.int .i64 i) ?_
     refine GL.v (.int .i64 (i - (1 : Int))) ?_ (hr := fun u => op_to (v := .int .i64 (IntKind.wrap .i64 (i - (1 : Int)))) (by kernel_rfl) (wrap_i64 rfl (by omega) (by omega)))
     refine GL.v (.int .i64 (i - (1 : Int))) ?_
     refine GL.q ?_
     refine QG.again fun _ hM => ?_
     exact ⟨((i - (1 : Int)) + 1).toNat, (by omega), (i - (1 : Int)), (((gp (a).natAbs).getD ((i).toNat) 0) - ((gp (b).natAbs).getD ((i).toNat) 0)), (fun t => (#[.agg #[.int .i64 s1, .slice A1 n1 c1], .agg #[.int .i64 s2, .slice A2 n2 c2], .pointer (some ⟨g21, 0, none⟩), .pointer (some ⟨g22, 0, none⟩), .int .i64 0, .int .i64 (((gp (a).natAbs).getD ((i).toNat) 0) - ((gp (b).natAbs).getD ((i).toNat) 0)), .int .i64 (i - (1 : Int)), .pointer (some ⟨g21, 1, none⟩), .slice A1 n1 c1, .int .i64 (n1 : Int), .pointer (some ⟨g22, 1, none⟩), .slice A2 n2 c2, .int .i64 (n2 : Int), .int .i64 ((n1 : Int) - (n2 : Int)), .pointer (some ⟨g21, 1, none⟩), .slice A1 n1 c1, .int .i64 (n1 : Int), .int .i64 ((n1 : Int) - (1 : Int)), .int .i64 i, .bool true, .bool true, .int .i64 d, .bool true, .bool true, .int .i64 i, .int .i64 (i - (1 : Int)), .pointer (some ⟨g21, 1, none⟩), .slice A1 n1 c1, .int .i64 i, elemPtr A1 ((i).toNat), .int .i64 ((gp (a).natAbs).getD ((i).toNat) 0), .pointer (some ⟨g22, 1, none⟩), .slice A2 n2 c2, .int .i64 i, elemPtr A2 ((i).toNat), .int .i64 ((gp (b).natAbs).getD ((i).toNat) 0), .int .i64 (((gp (a).natAbs).getD ((i).toNat) 0) - ((gp (b).natAbs).getD ((i).toNat) 0)), undef, undef, undef, undef] : Array Value).getD t undef), (by kernel_rfl), rfl, ((hM.clr).add (hM.f 1 rfl)).add (hM.f 0 rfl), (by omega), (larger_step hd (by omega) (by omega) hI.2)⟩
   · have hk25 : (d == (0 : Int)) = false := beq_eq_false_iff_ne.2 hc25
     refine CG.lin 6 ?_
     refine GL.v (.int .i64 i) ?_
     refine GL.v (.bool true) ?_ (hr := fun u => op_b (b := (decide (i ≥ (0 : Int)))) (by kernel_rfl) hk24)
     refine GL.v (.bool true) ?_
     refine GL.v (.int .i64 d) ?_
     refine GL.v (.bool false) ?_ (hr := fun u => op_b (b := (d == (0 : Int))) (by kernel_rfl) hk25)
     refine GL.v (.bool false) ?_
     refine GL.k k3 ?_
     refine CG.no ?_ rfl rfl
     refine CG.exit (QG.then_exit (QG.then_exit (QG.here ?_)))
     refine QG.k k1 ?_
     refine CG.seq fun K_ k1 => ?_
     refine CG.seq fun K_ k2 => ?_
     refine CG.lin 2 ?_
     refine GL.v (.int .i64 d) ?_
     refine GL.v (.bool (decide (d > (0 : Int)))) ?_
     refine GL.k k2 ?_
     by_cases hc27 : d > (0 : Int)
     · have hk27 : (decide (d > (0 : Int))) = true := decide_eq_true hc27
       refine CG.yes ?_ hk27 rfl
       refine CG.seq fun K_ k2 => ?_
       refine CG.lin 1 ?_
       refine GL.v (.int .i64 1) ?_
       refine GL.k k2 ?_
       refine CG.ret (QG.then_ret (QG.ret (fun _ hM => results_one rfl (res_tmp rfl)) ?_))
       intro _ hM
       exact ⟨ret_int (larger_gt hg1 hg2 hd hI hc27), hM.below⟩
     · have hk27 : (decide (d > (0 : Int))) = false := decide_eq_false hc27
       refine CG.no ?_ hk27 rfl
       refine CG.skip ?_
       refine QG.k k1 ?_
       refine CG.seq fun K_ k1 => ?_
       refine CG.seq fun K_ k2 => ?_
       refine CG.lin 2 ?_
       refine GL.v (.int .i64 d) ?_
       refine GL.v (.bool (decide (d < (0 : Int)))) ?_
       refine GL.k k2 ?_
       by_cases hc28 : d < (0 : Int)
       · have hk28 : (decide (d < (0 : Int))) = true := decide_eq_true hc28
         refine CG.yes ?_ hk28 rfl
         refine CG.seq fun K_ k2 => ?_
         refine CG.lin 1 ?_
         refine GL.v (.int .i64 (-1)) ?_
         refine GL.k k2 ?_
         refine CG.ret (QG.then_ret (QG.ret (fun _ hM => results_one rfl (res_tmp rfl)) ?_))
         intro _ hM
         exact ⟨ret_int (larger_lt hg1 hg2 hd hI hc28), hM.below⟩
       · have hk28 : (decide (d < (0 : Int))) = false := decide_eq_false hc28
         refine CG.no ?_ hk28 rfl
         refine CG.skip ?_
         refine QG.k k1 ?_
         refine CG.seq fun K_ k1 => ?_
         refine CG.lin 1 ?_
         refine GL.v (.int .i64 0) ?_
         refine GL.k k1 ?_
         refine CG.ret (QG.ret (fun _ hM => results_one rfl (res_tmp rfl)) ?_)
         intro _ hM
         exact ⟨ret_int (larger_eq hg1 hg2 hd hI (by omega) (by omega)), hM.below⟩
 · have hk24 : (decide (i ≥ (0 : Int))) = false := decide_eq_false hc24
   refine CG.lin 6 ?_
   refine GL.v (.int .i64 i) ?_
   refine GL.v (.bool false) ?_ (hr := fun u => op_b (b := (decide (i ≥ (0 : Int)))) (by kernel_rfl) hk24)
   refine GL.v (.bool false) ?_
   refine GL.sk ?_
   refine GL.sk ?_
   refine GL.v (.bool false) ?_
   refine GL.k k3 ?_
   refine CG.no ?_ rfl rfl
   refine CG.exit (QG.then_exit (QG.then_exit (QG.here ?_)))
   refine QG.k k1 ?_
   refine CG.seq fun K_ k1 => ?_
   refine CG.seq fun K_ k2 => ?_
   refine CG.lin 2 ?_
   refine GL.v (.int .i64 d) ?_
   refine GL.v (.bool (decide (d > (0 : Int)))) ?_
   refine GL.k k2 ?_
   by_cases hc29 : d > (0 : Int)
   · have hk29 : (decide (d > (0 : Int))) = true := decide_eq_true hc29
     refine CG.yes ?_ hk29 rfl
     refine CG.seq fun K_ k2 => ?_
     refine CG.lin 1 ?_
     refine GL.v (.int .i64 1) ?_
     refine GL.k k2 ?_
     refine CG.ret (QG.then_ret (QG.ret (fun _ hM => results_one rfl (res_tmp rfl)) ?_))
     intro _ hM
     exact ⟨ret_int (larger_gt hg1 hg2 hd hI hc29), hM.below⟩
   · have hk29 : (decide (d > (0 : Int))) = false := decide_eq_false hc29
     refine CG.no ?_ hk29 rfl
     refine CG.skip ?_
     refine QG.k k1 ?_
     refine CG.seq fun K_ k1 => ?_
     refine CG.seq fun K_ k2 => ?_
     refine CG.lin 2 ?_
     refine GL.v (.int .i64 d) ?_
     refine GL.v (.bool (decide (d < (0 : Int)))) ?_
     refine GL.k k2 ?_
     by_cases hc30 : d < (0 : Int)
     · have hk30 : (decide (d < (0 : Int))) = true := decide_eq_true hc30
       refine CG.yes ?_ hk30 rfl
       refine CG.seq fun K_ k2 => ?_
       refine CG.lin 1 ?_
       refine GL.v (.int .i64 (-1)) ?_
       refine GL.k k2 ?_
       refine CG.ret (QG.then_ret (QG.ret (fun _ hM => results_one rfl (res_tmp rfl)) ?_))
       intro _ hM
       exact ⟨ret_int (larger_lt hg1 hg2 hd hI hc30), hM.below⟩
     · have hk30 : (decide (d < (0 : Int))) = false := decide_eq_false hc30
       refine CG.no ?_ hk30 rfl
       refine CG.skip ?_
       refine QG.k k1 ?_
       refine CG.seq fun K_ k1 => ?_
       refine CG.lin 1 ?_
       refine GL.v (.int .i64 0) ?_
       refine GL.k k1 ?_
       refine CG.ret (QG.ret (fun _ hM => results_one rfl (res_tmp rfl)) ?_)
       intro _ hM
       exact ⟨ret_int (larger_eq hg1 hg2 hd hI (by omega) (by omega)), hM.below⟩

set_option maxRecDepth 100000 in
set_option maxHeartbeats 400000 in
theorem ZMul_ok {w : World} {X : Nat → Prop} {s1 : Int} {A1 : Option Addr} {n1 : Nat} {c1 : Nat} {a : Int} {s2 : Int} {A2 : Option Addr} {n2 : Nat} {c2 : Nat} {b : Int} (hX : ∀ k, X k → k < w.heap.size) (h1 : NZk.R X w [.int .i64 s1, .slice A1 n1 c1] a) (h2 : NZk.R X w [.int .i64 s2, .slice A2 n2 c2] b) (p1 : szg a + szg b ≤ 4294967296) :
    Calls Tryz.prog 42 #[.agg #[.int .i64 s1, .slice A1 n1 c1], .agg #[.int .i64 s2, .slice A2 n2 c2]] w (fun e w' => ∃ sr Ar nr cr, e = .returned (.agg #[.int .i64 sr, .slice Ar nr cr]) ∧ NZk.R X w' [.int .i64 sr, .slice Ar nr cr] (a * b) ∧ Below w.heap.size w w') := by
 have hM := ((Mem.start hX).add0 h1).add0 h2
 have hg1 : (gp a.natAbs).length = n1 := NZk.szg h1
 have hg2 : (gp b.natAbs).length = n2 := NZk.szg h2
 have hz1 := NZk.szg h1
 have hz2 := NZk.szg h2
 have hc1 := sign_cases a
 have hc2 := sign_cases b
 have hs1 := NZk.sgn h1
 have hs2 := NZk.sgn h2
 have hsp := sign_prod a b
 rw [← hs1, ← hs2] at hsp
 refine calls_of hM Tryz.func42 Tryz.ntmps42 ?_
 refine CG.seq fun K_ k1 => ?_
 refine CG.lin 3 ?_
 refine GL.bA #[.int .i64 s1, .slice A1 n1 c1] fun g21 => ?_
 refine GL.bA #[.int .i64 s2, .slice A2 n2 c2] fun g22 => ?_
 refine GL.aA zer31 fun g23 => ?_
 refine GL.k k1 ?_
 refine CG.seq fun K_ k1 => ?_
 refine CG.lin 9 ?_
 refine GL.v (.pointer (some ⟨g21, 1, none⟩)) ?_
 refine GL.r (.slice A1 n1 c1) (fun _ hM => op_load_one (off := 1) (by kernel_rfl) agg29 (hM.b 2 rfl) rfl) ?_
 refine GL.v (.int .i64 (n1 : Int)) ?_
 refine GL.v (.pointer (some ⟨g22, 1, none⟩)) ?_
 refine GL.r (.slice A2 n2 c2) (fun _ hM => op_load_one (off := 1) (by kernel_rfl) agg29 (hM.b 1 rfl) rfl) ?_
 refine GL.v (.int .i64 (n2 : Int)) ?_
 refine GL.v (.int .i64 ((n1 + n2 : Nat) : Int)) ?_ (hr := fun u => op_to (v := .int .i64 (IntKind.wrap .i64 ((n1 : Int) + (n2 : Int)))) (by kernel_rfl) (wrap_i64 (by omega) (by omega) (by omega)))
 refine GL.row (fun _ => op_make rowt29 (kl := .i64) (kc := .i64) (l := ((n1 + n2 : Nat) : Int)) (c := ((n1 + n2 : Nat) : Int)) (n1 + n2) (n1 + n2) (by kernel_rfl) (by kernel_rfl) (by omega) (by omega) (by omega) (by omega) (by omega)) (fun _ _ _ hm => own_made_i64 hm (by omega) (by omega)) fun g24 => ?_
 refine GL.v (.slice (some ⟨g24, 0, none⟩) (n1 + n2) (n1 + n2)) ?_
 refine GL.k k1 ?_
 refine CG.seq fun K_ k1 => ?_
 refine CG.seq fun K_ k2 => ?_
 refine CG.lin 1 ?_
 refine GL.v (.int .i64 0) ?_
 refine GL.k k2 ?_
 refine CG.block ?_
 refine CG.loop (fun m_ a_ u_ => ∃ (i : Nat) (M : List Int) (j25 : Nat → Value), a_ = ⟨#[.agg #[.int .i64 s1, .slice A1 n1 c1], .agg #[.int .i64 s2, .slice A2 n2 c2], .pointer (some ⟨g21, 0, none⟩), .pointer (some ⟨g22, 0, none⟩), .pointer (some ⟨g23, 0, none⟩), .slice (some ⟨g24, 0, none⟩) (n1 + n2) (n1 + n2), .int .i64 (i : Int), (j25 7), .pointer (some ⟨g21, 1, none⟩), .slice A1 n1 c1, .int .i64 (n1 : Int), .pointer (some ⟨g22, 1, none⟩), .slice A2 n2 c2, .int .i64 (n2 : Int), .int .i64 ((n1 + n2 : Nat) : Int), .slice (some ⟨g24, 0, none⟩) (n1 + n2) (n1 + n2), (j25 16), (j25 17), (j25 18), (j25 19), (j25 20), (j25 21), (j25 22), (j25 23), (j25 24), (j25 25), (j25 26), (j25 27), (j25 28), (j25 29), (j25 30), (j25 31), (j25 32), (j25 33), (j25 34), (j25 35), (j25 36), (j25 37), (j25 38), (j25 39), (j25 40), (j25 41), (j25 42), (j25 43), (j25 44), (j25 45), (j25 46), (j25 47), (j25 48), (j25 49), (j25 50), (j25 51), (j25 52), undef, undef, undef, undef, undef, undef, undef], []⟩ ∧ m_ = n1 - i ∧ Mem w [] X u_ [.own g24 3 (n1 + n2) (n1 + n2) (i64s M), .box g23 #[.int .i64 0, .slice none 0 0] 31, .box g22 #[.int .i64 s2, .slice A2 n2 c2] 31, .box g21 #[.int .i64 s1, .slice A1 n1 c1] 31] [⟨NZk, [.int .i64 s2, .slice A2 n2 c2], b⟩, ⟨NZk, [.int .i64 s1, .slice A1 n1 c1], a⟩] ∧ (i ≤ n1) ∧ (val 10000 M = val 10000 ((gp a.natAbs).take i) * ((b.natAbs : Nat) : Int)) ∧ (∀ j, (0 : Int) ≤ M.getD j 0 ∧ M.getD j 0 ≤ (i : Int) * 99980001)) (fun _ hM => ⟨_, 0, (List.replicate (n1 + n2) 0), (fun t => (#[.agg #[.int .i64 s1, .slice A1 n1 c1], .agg #[.int .i64 s2, .slice A2 n2 c2], .pointer (some ⟨g21, 0, none⟩), .pointer (some ⟨g22, 0, none⟩), .pointer (some ⟨g23, 0, none⟩), .slice (some ⟨g24, 0, none⟩) (n1 + n2) (n1 + n2), .int .i64 0, undef, .pointer (some ⟨g21, 1, none⟩), .slice A1 n1 c1, .int .i64 (n1 : Int), .pointer (some ⟨g22, 1, none⟩), .slice A2 n2 c2, .int .i64 (n2 : Int), .int .i64 ((n1 + n2 : Nat) : Int), .slice (some ⟨g24, 0, none⟩) (n1 + n2) (n1 + n2), undef, undef, undef, undef, undef, undef, undef, undef, undef, undef, undef, undef, undef, undef, undef, undef, undef, undef, undef, undef, undef, undef, undef, undef, undef, undef, undef, undef, undef, undef, undef, undef, undef, undef, undef, undef, undef, undef, undef, undef, undef, undef, undef, undef] : Array Value).getD t undef), (by kernel_rfl), rfl, ((hM.clr).add (hM.f 1 rfl)).add (hM.f 0 rfl), (by omega), (by rw [val_replicate_zero]; simp), (fun j => by rw [zeros_get]; omega)⟩) ?_
 rintro m_ a_ u_ ⟨i, M, j25, rfl, hm25, hM, hi, hV, hB⟩
 have hMl := (hM.o 0 rfl).ilen
 refine CG.go hM ?_
 refine CG.seq fun K_ k2 => ?_
 refine CG.seq fun K_ k3 => ?_
 refine CG.lin 5 ?_
 refine GL.v (.int .i64 (i : Int)) ?_
 refine GL.v (.pointer (some ⟨g21, 1, none⟩)) ?_
 refine GL.r (.slice A1 n1 c1) (fun _ hM => op_load_one (off := 1) (by kernel_rfl) agg29 (hM.b 3 rfl) rfl) ?_
 refine GL.v (.int .i64 (n1 : Int)) ?_
 refine GL.v (.bool (decide ((i : Int) < (n1 : Int)))) ?_
 refine GL.k k3 ?_
 by_cases hc26 : (i : Int) < (n1 : Int)
 · have hk26 : (decide ((i : Int) < (n1 : Int))) = true := decide_eq_true hc26
   refine CG.yes ?_ hk26 rfl
   refine CG.skip ?_
   refine QG.k k2 ?_
   refine CG.seq fun K_ k2 => ?_
   refine CG.block ?_
   refine CG.seq fun K_ k3 => ?_
   refine CG.lin 1 ?_
   refine GL.v (.int .i64 0) ?_
   refine GL.k k3 ?_
   refine CG.block ?_
   refine CG.loop (fun m_ a_ u_ => ∃ (k : Nat) (N : List Int) (j27 : Nat → Value), a_ = ⟨#[.agg #[.int .i64 s1, .slice A1 n1 c1], .agg #[.int .i64 s2, .slice A2 n2 c2], .pointer (some ⟨g21, 0, none⟩), .pointer (some ⟨g22, 0, none⟩), .pointer (some ⟨g23, 0, none⟩), .slice (some ⟨g24, 0, none⟩) (n1 + n2) (n1 + n2), .int .i64 (i : Int), .int .i64 (k : Int), .pointer (some ⟨g21, 1, none⟩), .slice A1 n1 c1, .int .i64 (n1 : Int), .pointer (some ⟨g22, 1, none⟩), .slice A2 n2 c2, .int .i64 (n2 : Int), .int .i64 ((n1 + n2 : Nat) : Int), .slice (some ⟨g24, 0, none⟩) (n1 + n2) (n1 + n2), .int .i64 (i : Int), .pointer (some ⟨g21, 1, none⟩), .slice A1 n1 c1, .int .i64 (n1 : Int), .bool (decide ((i : Int) < (n1 : Int))), (j25 21), (j25 22), (j27 23), (j27 24), (j27 25), (j27 26), (j27 27), (j27 28), (j27 29), (j27 30), (j27 31), (j27 32), (j27 33), (j27 34), (j27 35), (j27 36), (j27 37), (j27 38), (j27 39), (j27 40), (j27 41), (j27 42), (j27 43), (j27 44), (j27 45), (j27 46), (j27 47), (j27 48), (j27 49), (j27 50), (j27 51), (j27 52), undef, undef, undef, undef, undef, undef, undef], []⟩ ∧ m_ = n2 - k ∧ Mem w [] X u_ [.own g24 3 (n1 + n2) (n1 + n2) (i64s N), .box g23 #[.int .i64 0, .slice none 0 0] 31, .box g22 #[.int .i64 s2, .slice A2 n2 c2] 31, .box g21 #[.int .i64 s1, .slice A1 n1 c1] 31] [⟨NZk, [.int .i64 s2, .slice A2 n2 c2], b⟩, ⟨NZk, [.int .i64 s1, .slice A1 n1 c1], a⟩] ∧ (k ≤ n2) ∧ (val 10000 N = val 10000 ((gp a.natAbs).take i) * ((b.natAbs : Nat) : Int) + (gp a.natAbs).getD i 0 * (10000 ^ i * val 10000 ((gp b.natAbs).take k))) ∧ (∀ j, (0 : Int) ≤ N.getD j 0 ∧ N.getD j 0 ≤ ((i : Int) + 1) * 99980001) ∧ (∀ j, i + k ≤ j → (0 : Int) ≤ N.getD j 0 ∧ N.getD j 0 ≤ (i : Int) * 99980001)) (fun _ hM => ⟨_, 0, M, (fun t => (#[.agg #[.int .i64 s1, .slice A1 n1 c1], .agg #[.int .i64 s2, .slice A2 n2 c2], .pointer (some ⟨g21, 0, none⟩), .pointer (some ⟨g22, 0, none⟩), .pointer (some ⟨g23, 0, none⟩), .slice (some ⟨g24, 0, none⟩) (n1 + n2) (n1 + n2), .int .i64 (i : Int), .int .i64 0, .pointer (some ⟨g21, 1, none⟩), .slice A1 n1 c1, .int .i64 (n1 : Int), .pointer (some ⟨g22, 1, none⟩), .slice A2 n2 c2, .int .i64 (n2 : Int), .int .i64 ((n1 + n2 : Nat) : Int), .slice (some ⟨g24, 0, none⟩) (n1 + n2) (n1 + n2), .int .i64 (i : Int), .pointer (some ⟨g21, 1, none⟩), .slice A1 n1 c1, .int .i64 (n1 : Int), .bool (decide ((i : Int) < (n1 : Int))), (j25 21), (j25 22), (j25 23), (j25 24), (j25 25), (j25 26), (j25 27), (j25 28), (j25 29), (j25 30), (j25 31), (j25 32), (j25 33), (j25 34), (j25 35), (j25 36), (j25 37), (j25 38), (j25 39), (j25 40), (j25 41), (j25 42), (j25 43), (j25 44), (j25 45), (j25 46), (j25 47), (j25 48), (j25 49), (j25 50), (j25 51), (j25 52), undef, undef, undef, undef, undef, undef, undef] : Array Value).getD t undef), (by kernel_rfl), rfl, ((hM.clr).add (hM.f 1 rfl)).add (hM.f 0 rfl), (by omega), (by rw [hV]; simp), (fun j => by have := hB j; omega), (fun j _ => hB j)⟩) ?_
   rintro m_ a_ u_ ⟨k, N, j27, rfl, hm27, hM, hk, hV2, hB2, hB3⟩
   have hNl := (hM.o 0 rfl).ilen
   refine CG.go hM ?_
   refine CG.seq fun K_ k3 => ?_
   refine CG.seq fun K_ k4 => ?_
   refine CG.lin 5 ?_
   refine GL.v (.int .i64 (k : Int)) ?_
   refine GL.v (.pointer (some ⟨g22, 1, none⟩)) ?_
   refine GL.r (.slice A2 n2 c2) (fun _ hM => op_load_one (off := 1) (by kernel_rfl) agg29 (hM.b 2 rfl) rfl) ?_
   refine GL.v (.int .i64 (n2 : Int)) ?_
   refine GL.v (.bool (decide ((k : Int) < (n2 : Int)))) ?_
   refine GL.k k4 ?_
   by_cases hc28 : (k : Int) < (n2 : Int)
   · have hk28 : (decide ((k : Int) < (n2 : Int))) = true := decide_eq_true hc28
     refine CG.yes ?_ hk28 rfl
     refine CG.skip ?_
     refine QG.k k3 ?_
     refine CG.seq fun K_ k3 => ?_
     refine CG.block ?_
     refine CG.draw [] [0, 1, 2, 3, 4, 5, 6, 7, 8, 9, 10, 11, 12, 13, 14, 15, 16, 17, 18, 19, 20, 21, 22] (.step 0 (.step 1 (.step 2 (.step 3 (.step 4 (.step 5 (.step 6 (.step 7 (.step 8 (.step 9 (.step 10 (.step 11 (.step 12 (.step 13 (.step 14 (.step 15 (.step 16 (.step 17 (.step 18 (.step 19 (.step 20 (.step 21 (.step 22 (.step 23 .done)))))))))))))))))))))))) (fun V hV29 => ?_)
     refine GD.ev (.slice (some ⟨g24, 0, none⟩) (n1 + n2) (n1 + n2)) ?_
     refine GD.ev (.int .i64 (i : Int)) ?_
     refine GD.ev (.int .i64 (k : Int)) ?_
     refine GD.ev (.int .i64 ((i + k : Nat) : Int)) ?_ (hr := fun u => op_to (v := .int .i64 (IntKind.wrap .i64 ((i : Int) + (k : Int)))) (by kernel_rfl) (wrap_i64 (by omega) (by omega) (by omega)))
     refine GD.ev (.slice (some ⟨g24, 0, none⟩) (n1 + n2) (n1 + n2)) ?_
     refine GD.ev (.int .i64 (i : Int)) ?_
     refine GD.ev (.int .i64 (k : Int)) ?_
     refine GD.ev (.int .i64 ((i + k : Nat) : Int)) ?_ (hr := fun u => op_to (v := .int .i64 (IntKind.wrap .i64 ((i : Int) + (k : Int)))) (by kernel_rfl) (wrap_i64 (by omega) (by omega) (by omega)))
     refine GD.er (elemPtr (some ⟨g24, 0, none⟩) (i + k)) (fun _ hS => op_index rowt29 (c := (n1 + n2)) (k := .i64) (i := ((i + k : Nat) : Int)) (i + k) (by kernel_rfl) (by kernel_rfl) (by omega) (by omega) (Row.keep ((hV29.o 0 rfl).row) hS.keep) _) ?_
     refine GD.er (.int .i64 (N.getD (i + k) 0)) (fun _ hS => op_load_i64 (n := (n1 + n2)) (by kernel_rfl) agg3 (Row.keep ((hV29.o 0 rfl).row) hS.keep) (by omega)) ?_
     refine GD.ev (.pointer (some ⟨g21, 1, none⟩)) ?_
     refine GD.er (.slice A1 n1 c1) (fun _ hS => op_load_one (off := 1) (by kernel_rfl) agg29 (hV29.bS 3 rfl hS) rfl) ?_
     refine GD.ev (.int .i64 (i : Int)) ?_
     refine GD.er (elemPtr A1 i) (fun _ hS => op_index rowt29 (c := c1) (k := .i64) (i := (i : Int)) i (by kernel_rfl) (by kernel_rfl) (by omega) (by omega) (Row.keep (NZk.row (hV29.f 1 rfl)) hS.keep) _) ?_
     refine GD.er (.int .i64 ((gp (a).natAbs).getD i 0)) (fun _ hS => op_load_i64 (n := n1) (by kernel_rfl) agg3 (Row.keep (NZk.row (hV29.f 1 rfl)) hS.keep) (by omega)) ?_
     refine GD.ev (.pointer (some ⟨g22, 1, none⟩)) ?_
     refine GD.er (.slice A2 n2 c2) (fun _ hS => op_load_one (off := 1) (by kernel_rfl) agg29 (hV29.bS 2 rfl hS) rfl) ?_
     refine GD.ev (.int .i64 (k : Int)) ?_
     refine GD.er (elemPtr A2 k) (fun _ hS => op_index rowt29 (c := c2) (k := .i64) (i := (k : Int)) k (by kernel_rfl) (by kernel_rfl) (by omega) (by omega) (Row.keep (NZk.row (hV29.f 0 rfl)) hS.keep) _) ?_
     refine GD.er (.int .i64 ((gp (b).natAbs).getD k 0)) (fun _ hS => op_load_i64 (n := n2) (by kernel_rfl) agg3 (Row.keep (NZk.row (hV29.f 0 rfl)) hS.keep) (by omega)) ?_
     have hpr := zprod_bound (gp_get a.natAbs i) (gp_get b.natAbs k)
     have hNb := hB2 (i + k)
     have hNc := hB3 (i + k) (by omega)
     refine GD.ev (.int .i64 (((gp (a).natAbs).getD i 0) * ((gp (b).natAbs).getD k 0))) ?_ (hr := fun u => op_to (v := .int .i64 (IntKind.wrap .i64 (((gp (a).natAbs).getD i 0) * ((gp (b).natAbs).getD k 0)))) (by kernel_rfl) (wrap_i64 rfl (by omega) (by omega)))
     refine GD.ev (.int .i64 ((N.getD (i + k) 0) + (((gp (a).natAbs).getD i 0) * ((gp (b).natAbs).getD k 0)))) ?_ (hr := fun u => op_to (v := .int .i64 (IntKind.wrap .i64 ((N.getD (i + k) 0) + (((gp (a).natAbs).getD i 0) * ((gp (b).natAbs).getD k 0))))) (by kernel_rfl) (wrap_i64 rfl (by omega) (by omega)))
     refine GD.er (elemPtr (some ⟨g24, 0, none⟩) (i + k)) (fun _ hS => op_index rowt29 (c := (n1 + n2)) (k := .i64) (i := ((i + k : Nat) : Int)) (i + k) (by kernel_rfl) (by kernel_rfl) (by omega) (by omega) (Row.keep ((hV29.o 0 rfl).row) hS.keep) _) ?_
     refine GD.el (fun _ _ _ => Mem.el0) (fun _ hM => op_set_i64 (i + k) ((N.getD (i + k) 0) + (((gp (a).natAbs).getD i 0) * ((gp (b).natAbs).getD k 0))) siz3 (hM.o 0 rfl) (by kernel_rfl) (by kernel_rfl) (by omega)) ?_
     refine GD.q ?_
     refine QG.block ?_
     refine QG.k k3 ?_
     refine CG.lin 3 ?_
     refine GL.v (.int .i64 (k : Int)) ?_
     refine GL.v (.int .i64 ((k + 1 : Nat) : Int)) ?_ (hr := fun u => op_to (v := .int .i64 (IntKind.wrap .i64 ((k : Int) + (1 : Int)))) (by kernel_rfl) (wrap_i64 (by omega) (by omega) (by omega)))
     refine GL.v (.int .i64 ((k + 1 : Nat) : Int)) ?_
     refine GL.q ?_
     refine QG.again fun _ hM => ?_
     exact ⟨n2 - (k + 1), (by omega), (k + 1), (N.set (i + k) ((N.getD (i + k) 0) + (((gp (a).natAbs).getD i 0) * ((gp (b).natAbs).getD k 0)))), (fun t => (#[.agg #[.int .i64 s1, .slice A1 n1 c1], .agg #[.int .i64 s2, .slice A2 n2 c2], .pointer (some ⟨g21, 0, none⟩), .pointer (some ⟨g22, 0, none⟩), .pointer (some ⟨g23, 0, none⟩), .slice (some ⟨g24, 0, none⟩) (n1 + n2) (n1 + n2), .int .i64 (i : Int), .int .i64 ((k + 1 : Nat) : Int), .pointer (some ⟨g21, 1, none⟩), .slice A1 n1 c1, .int .i64 (n1 : Int), .pointer (some ⟨g22, 1, none⟩), .slice A2 n2 c2, .int .i64 (n2 : Int), .int .i64 ((n1 + n2 : Nat) : Int), .slice (some ⟨g24, 0, none⟩) (n1 + n2) (n1 + n2), .int .i64 (i : Int), .pointer (some ⟨g21, 1, none⟩), .slice A1 n1 c1, .int .i64 (n1 : Int), .bool (decide ((i : Int) < (n1 : Int))), (j25 21), (j25 22), .int .i64 (k : Int), .pointer (some ⟨g22, 1, none⟩), .slice A2 n2 c2, .int .i64 (n2 : Int), .bool (decide ((k : Int) < (n2 : Int))), .int .i64 (k : Int), .int .i64 ((k + 1 : Nat) : Int), .slice (some ⟨g24, 0, none⟩) (n1 + n2) (n1 + n2), .int .i64 (i : Int), .int .i64 (k : Int), .int .i64 ((i + k : Nat) : Int), .slice (some ⟨g24, 0, none⟩) (n1 + n2) (n1 + n2), .int .i64 (i : Int), .int .i64 (k : Int), .int .i64 ((i + k : Nat) : Int), elemPtr (some ⟨g24, 0, none⟩) (i + k), .int .i64 (N.getD (i + k) 0), .pointer (some ⟨g21, 1, none⟩), .slice A1 n1 c1, .int .i64 (i : Int), elemPtr A1 i, .int .i64 ((gp (a).natAbs).getD i 0), .pointer (some ⟨g22, 1, none⟩), .slice A2 n2 c2, .int .i64 (k : Int), elemPtr A2 k, .int .i64 ((gp (b).natAbs).getD k 0), .int .i64 (((gp (a).natAbs).getD i 0) * ((gp (b).natAbs).getD k 0)), .int .i64 ((N.getD (i + k) 0) + (((gp (a).natAbs).getD i 0) * ((gp (b).natAbs).getD k 0))), elemPtr (some ⟨g24, 0, none⟩) (i + k), undef, undef, undef, undef, undef, undef, undef] : Array Value).getD t undef), (by kernel_rfl), rfl, ((hM.clr).add (hM.f 1 rfl)).add (hM.f 0 rfl), (by omega), (zmul_step (by omega) (by omega) hV2), (set_bound (by omega) hB2 (by omega)), (fun j hj => set_above (by omega) hB3 j (by omega))⟩
   · have hk28 : (decide ((k : Int) < (n2 : Int))) = false := decide_eq_false hc28
     refine CG.no ?_ hk28 rfl
     refine CG.exit (QG.then_exit (QG.then_exit (QG.here ?_)))
     refine QG.block ?_
     refine QG.k k2 ?_
     refine CG.lin 3 ?_
     refine GL.v (.int .i64 (i : Int)) ?_
     refine GL.v (.int .i64 ((i + 1 : Nat) : Int)) ?_ (hr := fun u => op_to (v := .int .i64 (IntKind.wrap .i64 ((i : Int) + (1 : Int)))) (by kernel_rfl) (wrap_i64 (by omega) (by omega) (by omega)))
     refine GL.v (.int .i64 ((i + 1 : Nat) : Int)) ?_
     refine GL.q ?_
     refine QG.again fun _ hM => ?_
     exact ⟨n1 - (i + 1), (by omega), (i + 1), N, (fun t => (#[.agg #[.int .i64 s1, .slice A1 n1 c1], .agg #[.int .i64 s2, .slice A2 n2 c2], .pointer (some ⟨g21, 0, none⟩), .pointer (some ⟨g22, 0, none⟩), .pointer (some ⟨g23, 0, none⟩), .slice (some ⟨g24, 0, none⟩) (n1 + n2) (n1 + n2), .int .i64 ((i + 1 : Nat) : Int), .int .i64 (k : Int), .pointer (some ⟨g21, 1, none⟩), .slice A1 n1 c1, .int .i64 (n1 : Int), .pointer (some ⟨g22, 1, none⟩), .slice A2 n2 c2, .int .i64 (n2 : Int), .int .i64 ((n1 + n2 : Nat) : Int), .slice (some ⟨g24, 0, none⟩) (n1 + n2) (n1 + n2), .int .i64 (i : Int), .pointer (some ⟨g21, 1, none⟩), .slice A1 n1 c1, .int .i64 (n1 : Int), .bool (decide ((i : Int) < (n1 : Int))), .int .i64 (i : Int), .int .i64 ((i + 1 : Nat) : Int), .int .i64 (k : Int), .pointer (some ⟨g22, 1, none⟩), .slice A2 n2 c2, .int .i64 (n2 : Int), .bool (decide ((k : Int) < (n2 : Int))), (j27 28), (j27 29), (j27 30), (j27 31), (j27 32), (j27 33), (j27 34), (j27 35), (j27 36), (j27 37), (j27 38), (j27 39), (j27 40), (j27 41), (j27 42), (j27 43), (j27 44), (j27 45), (j27 46), (j27 47), (j27 48), (j27 49), (j27 50), (j27 51), (j27 52), undef, undef, undef, undef, undef, undef, undef] : Array Value).getD t undef), (by kernel_rfl), rfl, ((hM.clr).add (hM.f 1 rfl)).add (hM.f 0 rfl), (by omega), (zmul_outer (n := k) (by omega) (by omega) hV2), (fun j => by have := hB2 j; omega)⟩
 · have hk26 : (decide ((i : Int) < (n1 : Int))) = false := decide_eq_false hc26
   refine CG.no ?_ hk26 rfl
   refine CG.exit (QG.then_exit (QG.then_exit (QG.here ?_)))
   refine QG.k k1 ?_
   refine CG.seq fun K_ k1 => ?_
   refine CG.lin 8 ?_
   refine GL.v (.pointer (some ⟨g21, 0, none⟩)) ?_
   refine GL.r (.int .i64 s1) (fun _ hM => op_load_one (off := 0) (by kernel_rfl) agg3 (hM.b 3 rfl) rfl) ?_
   refine GL.v (.pointer (some ⟨g22, 0, none⟩)) ?_
   refine GL.r (.int .i64 s2) (fun _ hM => op_load_one (off := 0) (by kernel_rfl) agg3 (hM.b 2 rfl) rfl) ?_
   have hss : -1 ≤ s1 * s2 ∧ s1 * s2 ≤ 1 := sign_bound hs1 hs2
   refine GL.v (.int .i64 (s1 * s2)) ?_ (hr := fun u => op_to (v := .int .i64 (IntKind.wrap .i64 (s1 * s2))) (by kernel_rfl) (wrap_i64 rfl (by omega) (by omega)))
   refine GL.v (.slice (some ⟨g24, 0, none⟩) (n1 + n2) (n1 + n2)) ?_
   refine GL.mem (fun _ hM => hM.pu0 fun hO _ hX => SIk.own hO hX) ?_
   refine GL.call (fun _ hM => nmade_ok hM.avlt (s1 * s2) (x := a.natAbs * b.natAbs) (hM.f 0 rfl) (by rw [hV, take_valR _ _ (by omega), Int.natCast_mul]) (mem_of_get hB (by omega) (by omega)) (by first | assumption | omega) (by first | assumption | omega)) ?_
   rintro _ _ _ hM ⟨s30, A30, n30, c30, rfl, h30, hb⟩
   refine ⟨_, _, _, rfl, (hM.call hb).add h30, ?_⟩
   refine GL.sA (cs' := #[.int .i64 s30, .slice A30 n30 c30]) (fun _ _ => Mem.st0) (fun _ hM => hM.b 0 rfl) siz31 ?_
   refine GL.k k1 ?_
   refine CG.ret (QG.ret (fun _ hM => results_one rfl (res_cell rfl (loadVar_agg agg31 siz31 (hM.b 0 rfl) rfl rfl))) ?_)
   intro _ hM
   exact ⟨_, _, _, _, rfl, ((show s1 * s2 * ((a.natAbs * b.natAbs : Nat) : Int) = a * b by rw [hs1, hs2]; exact sign_mul' a b) ▸ (hM.out (hM.f 0 rfl))), hM.below⟩

set_option maxRecDepth 100000 in
set_option maxHeartbeats 400000 in
theorem ZAdd_ok {w : World} {X : Nat → Prop} {s1 : Int} {A1 : Option Addr} {n1 : Nat} {c1 : Nat} {a : Int} {s2 : Int} {A2 : Option Addr} {n2 : Nat} {c2 : Nat} {b : Int} (hX : ∀ k, X k → k < w.heap.size) (h1 : NZk.R X w [.int .i64 s1, .slice A1 n1 c1] a) (h2 : NZk.R X w [.int .i64 s2, .slice A2 n2 c2] b) (p1 : szg a + szg b ≤ 4294967296) :
    Calls Tryz.prog 38 #[.agg #[.int .i64 s1, .slice A1 n1 c1], .agg #[.int .i64 s2, .slice A2 n2 c2]] w (fun e w' => ∃ sr Ar nr cr, e = .returned (.agg #[.int .i64 sr, .slice Ar nr cr]) ∧ NZk.R X w' [.int .i64 sr, .slice Ar nr cr] (a + b) ∧ Below w.heap.size w w') := by
 have hM := ((Mem.start hX).add0 h1).add0 h2
 refine calls_of hM Tryz.func38 Tryz.ntmps38 ?_
 refine CG.seq fun K_ k1 => ?_
 refine CG.lin 3 ?_
 refine GL.bA #[.int .i64 s1, .slice A1 n1 c1] fun g21 => ?_
 refine GL.bA #[.int .i64 s2, .slice A2 n2 c2] fun g22 => ?_
 refine GL.aA zer31 fun g23 => ?_
 refine GL.k k1 ?_
 refine CG.seq fun K_ k1 => ?_
 refine CG.seq fun K_ k2 => ?_
 refine CG.lin 4 ?_
 refine GL.r (.agg #[.int .i64 s1, .slice A1 n1 c1]) (fun _ hM => op_load_agg (off := 0) (by kernel_rfl) agg31 siz31 (hM.b 2 rfl) rfl rfl) ?_
 refine GL.r (.agg #[.int .i64 s2, .slice A2 n2 c2]) (fun _ hM => op_load_agg (off := 0) (by kernel_rfl) agg31 siz31 (hM.b 1 rfl) rfl rfl) ?_
 refine GL.call (fun _ hM => larger_ok hM.avlt (hM.f 1 rfl) (hM.f 0 rfl)) ?_
 rintro _ _ _ hM ⟨rfl, hb⟩
 refine ⟨_, _, _, rfl, hM.call hb, ?_⟩
 refine GL.v (.bool (decide ((cmpN a.natAbs b.natAbs) < (0 : Int)))) ?_
 refine GL.k k2 ?_
 refine CG.cut (fun a_ u_ => ∃ (sp : Int) (Ap : Option Addr) (np : Nat) (cp : Nat) (p : Int) (sq : Int) (Aq : Option Addr) (nq : Nat) (cq : Nat) (q : Int) (j25 : Nat → Value), a_ = ⟨#[.agg #[.int .i64 s1, .slice A1 n1 c1], .agg #[.int .i64 s2, .slice A2 n2 c2], .pointer (some ⟨g21, 0, none⟩), .pointer (some ⟨g22, 0, none⟩), .pointer (some ⟨g23, 0, none⟩), undef, undef, .agg #[.int .i64 s1, .slice A1 n1 c1], .agg #[.int .i64 s2, .slice A2 n2 c2], .int .i64 (cmpN a.natAbs b.natAbs), .bool (decide ((cmpN a.natAbs b.natAbs) < (0 : Int))), (j25 11), (j25 12), undef, undef, undef, undef, undef, undef, undef, undef, undef, undef, undef, undef, undef, undef, undef, undef, undef, undef, undef, undef, undef, undef, undef, undef, undef, undef, undef, undef, undef, undef, undef, undef, undef], []⟩ ∧ Mem w [] X u_ [.box g23 #[.int .i64 0, .slice none 0 0] 31, .box g22 #[.int .i64 sq, .slice Aq nq cq] 31, .box g21 #[.int .i64 sp, .slice Ap np cp] 31] [⟨NZk, [.int .i64 sp, .slice Ap np cp], p⟩, ⟨NZk, [.int .i64 sq, .slice Aq nq cq], q⟩, ⟨NZk, [.int .i64 s2, .slice A2 n2 c2], b⟩, ⟨NZk, [.int .i64 s1, .slice A1 n1 c1], a⟩] ∧ (p = a ∧ q = b ∨ p = b ∧ q = a) ∧ (q.natAbs ≤ p.natAbs)) ?_ ?_
 · skip
   by_cases hc34 : a.natAbs < b.natAbs
   · have hk34 : (decide ((cmpN a.natAbs b.natAbs) < (0 : Int))) = true := decide_eq_true ((cmpN_lt _ _).2 hc34)
     refine CG.yes ?_ hk34 rfl
     refine CG.lin 4 ?_
     refine GL.r (.agg #[.int .i64 s2, .slice A2 n2 c2]) (fun _ hM => op_load_agg (off := 0) (by kernel_rfl) agg31 siz31 (hM.b 1 rfl) rfl rfl) ?_
     refine GL.r (.agg #[.int .i64 s1, .slice A1 n1 c1]) (fun _ hM => op_load_agg (off := 0) (by kernel_rfl) agg31 siz31 (hM.b 2 rfl) rfl rfl) ?_
     refine GL.sA (cs' := #[.int .i64 s2, .slice A2 n2 c2]) (fun _ _ => Mem.st2) (fun _ hM => hM.b 2 rfl) siz31 ?_
     refine GL.sA (cs' := #[.int .i64 s1, .slice A1 n1 c1]) (fun _ _ => Mem.st1) (fun _ hM => hM.b 1 rfl) siz31 ?_
     refine GL.q ?_
     refine QG.cut fun _ hM => ?_
     exact ⟨s2, A2, n2, c2, b, s1, A1, n1, c1, a, (fun t => (#[.agg #[.int .i64 s1, .slice A1 n1 c1], .agg #[.int .i64 s2, .slice A2 n2 c2], .pointer (some ⟨g21, 0, none⟩), .pointer (some ⟨g22, 0, none⟩), .pointer (some ⟨g23, 0, none⟩), undef, undef, .agg #[.int .i64 s1, .slice A1 n1 c1], .agg #[.int .i64 s2, .slice A2 n2 c2], .int .i64 (cmpN a.natAbs b.natAbs), .bool (decide ((cmpN a.natAbs b.natAbs) < (0 : Int))), .agg #[.int .i64 s2, .slice A2 n2 c2], .agg #[.int .i64 s1, .slice A1 n1 c1], undef, undef, undef, undef, undef, undef, undef, undef, undef, undef, undef, undef, undef, undef, undef, undef, undef, undef, undef, undef, undef, undef, undef, undef, undef, undef, undef, undef, undef, undef, undef, undef, undef] : Array Value).getD t undef), (by kernel_rfl), ((((hM.clr).add (hM.f 1 rfl)).add (hM.f 0 rfl)).add (hM.f 1 rfl)).add (hM.f 0 rfl), (by first | exact .inl ⟨rfl, rfl⟩ | exact .inr ⟨rfl, rfl⟩), (by omega)⟩
   · have hk34 : (decide ((cmpN a.natAbs b.natAbs) < (0 : Int))) = false := decide_eq_false (fun h => hc34 ((cmpN_lt _ _).1 h))
     refine CG.no ?_ hk34 rfl
     refine CG.skip ?_
     refine QG.cut fun _ hM => ?_
     exact ⟨s1, A1, n1, c1, a, s2, A2, n2, c2, b, (fun t => (#[.agg #[.int .i64 s1, .slice A1 n1 c1], .agg #[.int .i64 s2, .slice A2 n2 c2], .pointer (some ⟨g21, 0, none⟩), .pointer (some ⟨g22, 0, none⟩), .pointer (some ⟨g23, 0, none⟩), undef, undef, .agg #[.int .i64 s1, .slice A1 n1 c1], .agg #[.int .i64 s2, .slice A2 n2 c2], .int .i64 (cmpN a.natAbs b.natAbs), .bool (decide ((cmpN a.natAbs b.natAbs) < (0 : Int))), undef, undef, undef, undef, undef, undef, undef, undef, undef, undef, undef, undef, undef, undef, undef, undef, undef, undef, undef, undef, undef, undef, undef, undef, undef, undef, undef, undef, undef, undef, undef, undef, undef, undef, undef] : Array Value).getD t undef), (by kernel_rfl), ((((hM.clr).add (hM.f 1 rfl)).add (hM.f 0 rfl)).add (hM.f 0 rfl)).add (hM.f 1 rfl), (by first | exact .inl ⟨rfl, rfl⟩ | exact .inr ⟨rfl, rfl⟩), (by omega)⟩
 · skip
   rintro a_ u_ ⟨sp, Ap, np, cp, p, sq, Aq, nq, cq, q, j25, rfl, hM, hpq, hle⟩
   have hgp : (gp p.natAbs).length = np := NZk.szg (hM.f 0 rfl)
   have hgq : (gp q.natAbs).length = nq := NZk.szg (hM.f 1 rfl)
   have hsp := NZk.sgn (hM.f 0 rfl)
   have hsq := NZk.sgn (hM.f 1 rfl)
   have hss := sign_bound hsp hsq
   have hlp := NZk.le (hM.f 0 rfl)
   have hcp := sign_cases p
   have hnq : nq ≤ np := by rw [← hgp, ← hgq]; exact digs_length_mono (by omega) hle
   have hnp : np ≤ 4294967296 := by have h3 : szg p = np := hgp; rcases hpq with ⟨h, _⟩ | ⟨h, _⟩ <;> (rw [h] at h3; omega)
   have hp0 : np = 0 → p = 0 := fun h => by rw [h] at hgp; exact gp_none hgp
   refine QG.go hM ?_
   refine QG.k k1 ?_
   refine CG.seq fun K_ k1 => ?_
   by_cases hc26 : np = 0
   · have hk26 : (decide (np = 0)) = true := decide_eq_true hc26
     refine CG.lin 4 ?_
     refine GL.v (.pointer (some ⟨g21, 1, none⟩)) ?_
     refine GL.r (.slice Ap np cp) (fun _ hM => op_load_one (off := 1) (by kernel_rfl) agg29 (hM.b 2 rfl) rfl) ?_
     refine GL.r (.slice none 0 0) (fun _ _ => op_appnil0 (m := np) (A := Ap) (cx := cp) rowt29 (by kernel_rfl) (by kernel_rfl) (by omega) _) ?_
     refine GL.v (.slice none 0 0) ?_
     refine GL.k k1 ?_
     refine CG.seq fun K_ k1 => ?_
     refine CG.seq fun K_ k2 => ?_
     refine CG.lin 1 ?_
     refine GL.v (.int .i64 0) ?_
     refine GL.k k2 ?_
     refine CG.block ?_
     refine CG.rounds 1 ?_
     refine CG.round ?_
     refine CG.seq fun K_ k2 => ?_
     refine CG.seq fun K_ k3 => ?_
     refine CG.lin 5 ?_
     refine GL.v (.int .i64 0) ?_
     refine GL.v (.pointer (some ⟨g22, 1, none⟩)) ?_
     refine GL.r (.slice Aq nq cq) (fun _ hM => op_load_one (off := 1) (by kernel_rfl) agg29 (hM.b 1 rfl) rfl) ?_
     refine GL.v (.int .i64 (nq : Int)) ?_
     refine GL.v (.bool false) ?_ (hr := fun u => op_b (b := (decide ((0 : Int) < (nq : Int)))) (by kernel_rfl) (decide_eq_false (by omega)))
     refine GL.k k3 ?_
     refine CG.no ?_ rfl rfl
     refine CG.exit (QG.then_exit (QG.then_exit (QG.here ?_)))
     refine QG.k k1 ?_
     refine CG.seq fun K_ k1 => ?_
     refine CG.lin 5 ?_
     refine GL.v (.pointer (some ⟨g21, 0, none⟩)) ?_
     refine GL.r (.int .i64 sp) (fun _ hM => op_load_one (off := 0) (by kernel_rfl) agg3 (hM.b 2 rfl) rfl) ?_
     refine GL.v (.slice none 0 0) ?_
     refine GL.call (fun _ hM => nmade_ok hM.avlt sp (x := (p + q).natAbs) (SIk.nil _ _ none 0) (by rw [show (p + q).natAbs = 0 by omega]; rfl) (fun y hy => by simp at hy) (by first | assumption | omega) (by first | assumption | omega)) ?_
     rintro _ _ _ hM ⟨s28, A28, n28, c28, rfl, h28, hb⟩
     refine ⟨_, _, _, rfl, (hM.call hb).add h28, ?_⟩
     refine GL.sA (cs' := #[.int .i64 s28, .slice A28 n28 c28]) (fun _ _ => Mem.st0) (fun _ hM => hM.b 0 rfl) siz31 ?_
     refine GL.k k1 ?_
     refine CG.ret (QG.ret (fun _ hM => results_one rfl (res_cell rfl (loadVar_agg agg31 siz31 (hM.b 0 rfl) rfl rfl))) ?_)
     intro _ hM
     exact ⟨_, _, _, _, rfl, ((zadd_fin hsp hle hpq) ▸ (hM.out (hM.f 0 rfl))), hM.below⟩
   · have hk26 : (decide (np = 0)) = false := decide_eq_false hc26
     refine CG.lin 4 ?_
     refine GL.v (.pointer (some ⟨g21, 1, none⟩)) ?_
     refine GL.r (.slice Ap np cp) (fun _ hM => op_load_one (off := 1) (by kernel_rfl) agg29 (hM.b 2 rfl) rfl) ?_
     refine GL.gn (fun _ hM => op_appnil_i64 (cx := cp) rowt29 (NZk.row (hM.f 0 rfl)) (by kernel_rfl) (by kernel_rfl) (by omega) (by omega) (by omega)) fun g29 c29 => ?_
     refine GL.v (.slice (some ⟨g29, 0, none⟩) np c29) ?_
     refine GL.k k1 ?_
     refine CG.seq fun K_ k1 => ?_
     refine CG.seq fun K_ k2 => ?_
     refine CG.lin 1 ?_
     refine GL.v (.int .i64 0) ?_
     refine GL.k k2 ?_
     refine CG.block ?_
     refine CG.loop (fun m_ a_ u_ => ∃ (i : Nat) (M : List Int) (j30 : Nat → Value), a_ = ⟨#[.agg #[.int .i64 s1, .slice A1 n1 c1], .agg #[.int .i64 s2, .slice A2 n2 c2], .pointer (some ⟨g21, 0, none⟩), .pointer (some ⟨g22, 0, none⟩), .pointer (some ⟨g23, 0, none⟩), .slice (some ⟨g29, 0, none⟩) np c29, .int .i64 (i : Int), .agg #[.int .i64 s1, .slice A1 n1 c1], .agg #[.int .i64 s2, .slice A2 n2 c2], .int .i64 (cmpN a.natAbs b.natAbs), .bool (decide ((cmpN a.natAbs b.natAbs) < (0 : Int))), (j25 11), (j25 12), .pointer (some ⟨g21, 1, none⟩), .slice Ap np cp, .slice (some ⟨g29, 0, none⟩) np c29, (j30 16), (j30 17), (j30 18), (j30 19), (j30 20), (j30 21), (j30 22), (j30 23), (j30 24), (j30 25), (j30 26), (j30 27), (j30 28), (j30 29), (j30 30), (j30 31), (j30 32), (j30 33), (j30 34), (j30 35), (j30 36), (j30 37), (j30 38), (j30 39), (j30 40), (j30 41), undef, undef, undef, undef], []⟩ ∧ m_ = nq - i ∧ Mem w [] X u_ [.own g29 3 np c29 (i64s M), .box g23 #[.int .i64 0, .slice none 0 0] 31, .box g22 #[.int .i64 sq, .slice Aq nq cq] 31, .box g21 #[.int .i64 sp, .slice Ap np cp] 31] [⟨NZk, [.int .i64 sp, .slice Ap np cp], p⟩, ⟨NZk, [.int .i64 sq, .slice Aq nq cq], q⟩, ⟨NZk, [.int .i64 s2, .slice A2 n2 c2], b⟩, ⟨NZk, [.int .i64 s1, .slice A1 n1 c1], a⟩] ∧ (i ≤ nq) ∧ (val 10000 M = ((p.natAbs : Nat) : Int) + (sp * sq) * val 10000 ((gp q.natAbs).take i)) ∧ (∀ j, (-10000 : Int) ≤ M.getD j 0 ∧ M.getD j 0 ≤ 20000) ∧ (∀ j, i ≤ j → (0 : Int) ≤ M.getD j 0 ∧ M.getD j 0 ≤ 9999)) (fun _ hM => ⟨_, 0, (gp p.natAbs), (fun t => (#[.agg #[.int .i64 s1, .slice A1 n1 c1], .agg #[.int .i64 s2, .slice A2 n2 c2], .pointer (some ⟨g21, 0, none⟩), .pointer (some ⟨g22, 0, none⟩), .pointer (some ⟨g23, 0, none⟩), .slice (some ⟨g29, 0, none⟩) np c29, .int .i64 0, .agg #[.int .i64 s1, .slice A1 n1 c1], .agg #[.int .i64 s2, .slice A2 n2 c2], .int .i64 (cmpN a.natAbs b.natAbs), .bool (decide ((cmpN a.natAbs b.natAbs) < (0 : Int))), (j25 11), (j25 12), .pointer (some ⟨g21, 1, none⟩), .slice Ap np cp, .slice (some ⟨g29, 0, none⟩) np c29, undef, undef, undef, undef, undef, undef, undef, undef, undef, undef, undef, undef, undef, undef, undef, undef, undef, undef, undef, undef, undef, undef, undef, undef, undef, undef, undef, undef, undef, undef] : Array Value).getD t undef), (by kernel_rfl), rfl, ((((hM.clr).add (hM.f 3 rfl)).add (hM.f 2 rfl)).add (hM.f 1 rfl)).add (hM.f 0 rfl), (by omega), (by rw [gp_val]; simp), (fun j => by have := gp_get p.natAbs j; omega), (fun j _ => by have := gp_get p.natAbs j; omega)⟩) ?_
     rintro m_ a_ u_ ⟨i, M, j30, rfl, hm30, hM, hi, hV, hB, hT⟩
     have hMl := (hM.o 0 rfl).ilen
     refine CG.go hM ?_
     refine CG.seq fun K_ k2 => ?_
     refine CG.seq fun K_ k3 => ?_
     refine CG.lin 5 ?_
     refine GL.v (.int .i64 (i : Int)) ?_
     refine GL.v (.pointer (some ⟨g22, 1, none⟩)) ?_
     refine GL.r (.slice Aq nq cq) (fun _ hM => op_load_one (off := 1) (by kernel_rfl) agg29 (hM.b 2 rfl) rfl) ?_
     refine GL.v (.int .i64 (nq : Int)) ?_
     refine GL.v (.bool (decide ((i : Int) < (nq : Int)))) ?_
     refine GL.k k3 ?_
     by_cases hc31 : (i : Int) < (nq : Int)
     · have hk31 : (decide ((i : Int) < (nq : Int))) = true := decide_eq_true hc31
       refine CG.yes ?_ hk31 rfl
       refine CG.skip ?_
       refine QG.k k2 ?_
       refine CG.seq fun K_ k2 => ?_
       refine CG.block ?_
       refine CG.draw [] [0, 1, 2, 3, 4, 5, 6, 7, 8, 9, 10, 11, 12, 13, 14, 15, 16, 17, 18] (.step 0 (.step 1 (.step 2 (.step 3 (.step 4 (.step 5 (.step 6 (.step 7 (.step 8 (.step 9 (.step 10 (.step 11 (.step 12 (.step 13 (.step 14 (.step 15 (.step 16 (.step 17 (.step 18 (.step 19 .done)))))))))))))))))))) (fun V hV32 => ?_)
       refine GD.ev (.slice (some ⟨g29, 0, none⟩) np c29) ?_
       refine GD.ev (.int .i64 (i : Int)) ?_
       refine GD.ev (.slice (some ⟨g29, 0, none⟩) np c29) ?_
       refine GD.ev (.int .i64 (i : Int)) ?_
       refine GD.er (elemPtr (some ⟨g29, 0, none⟩) i) (fun _ hS => op_index rowt29 (c := c29) (k := .i64) (i := (i : Int)) i (by kernel_rfl) (by kernel_rfl) (by omega) (by omega) (Row.keep ((hV32.o 0 rfl).row) hS.keep) _) ?_
       refine GD.er (.int .i64 (M.getD i 0)) (fun _ hS => op_load_i64 (n := np) (by kernel_rfl) agg3 (Row.keep ((hV32.o 0 rfl).row) hS.keep) (by omega)) ?_
       refine GD.ev (.pointer (some ⟨g21, 0, none⟩)) ?_
       refine GD.er (.int .i64 sp) (fun _ hS => op_load_one (off := 0) (by kernel_rfl) agg3 (hV32.bS 3 rfl hS) rfl) ?_
       refine GD.ev (.pointer (some ⟨g22, 0, none⟩)) ?_
       refine GD.er (.int .i64 sq) (fun _ hS => op_load_one (off := 0) (by kernel_rfl) agg3 (hV32.bS 2 rfl hS) rfl) ?_
       refine GD.ev (.int .i64 (sp * sq)) ?_ (hr := fun u => op_to (v := .int .i64 (IntKind.wrap .i64 (sp * sq))) (by kernel_rfl) (wrap_i64 rfl (by omega) (by omega)))
       refine GD.ev (.pointer (some ⟨g22, 1, none⟩)) ?_
       refine GD.er (.slice Aq nq cq) (fun _ hS => op_load_one (off := 1) (by kernel_rfl) agg29 (hV32.bS 2 rfl hS) rfl) ?_
       refine GD.ev (.int .i64 (i : Int)) ?_
       refine GD.er (elemPtr Aq i) (fun _ hS => op_index rowt29 (c := cq) (k := .i64) (i := (i : Int)) i (by kernel_rfl) (by kernel_rfl) (by omega) (by omega) (Row.keep (NZk.row (hV32.f 1 rfl)) hS.keep) _) ?_
       refine GD.er (.int .i64 ((gp (q).natAbs).getD i 0)) (fun _ hS => op_load_i64 (n := nq) (by kernel_rfl) agg3 (Row.keep (NZk.row (hV32.f 1 rfl)) hS.keep) (by omega)) ?_
       have hpr := zsg_prod hss (gp_get q.natAbs i)
       refine GD.ev (.int .i64 ((sp * sq) * ((gp (q).natAbs).getD i 0))) ?_ (hr := fun u => op_to (v := .int .i64 (IntKind.wrap .i64 ((sp * sq) * ((gp (q).natAbs).getD i 0)))) (by kernel_rfl) (wrap_i64 rfl (by omega) (by omega)))
       have hm := hT i (by omega)
       refine GD.ev (.int .i64 ((M.getD i 0) + ((sp * sq) * ((gp (q).natAbs).getD i 0)))) ?_ (hr := fun u => op_to (v := .int .i64 (IntKind.wrap .i64 ((M.getD i 0) + ((sp * sq) * ((gp (q).natAbs).getD i 0))))) (by kernel_rfl) (wrap_i64 rfl (by omega) (by omega)))
       refine GD.er (elemPtr (some ⟨g29, 0, none⟩) i) (fun _ hS => op_index rowt29 (c := c29) (k := .i64) (i := (i : Int)) i (by kernel_rfl) (by kernel_rfl) (by omega) (by omega) (Row.keep ((hV32.o 0 rfl).row) hS.keep) _) ?_
       refine GD.el (fun _ _ _ => Mem.el0) (fun _ hM => op_set_i64 i ((M.getD i 0) + ((sp * sq) * ((gp (q).natAbs).getD i 0))) siz3 (hM.o 0 rfl) (by kernel_rfl) (by kernel_rfl) (by omega)) ?_
       refine GD.q ?_
       refine QG.block ?_
       refine QG.k k2 ?_
       refine CG.lin 3 ?_
       refine GL.v (.int .i64 (i : Int)) ?_
       refine GL.v (.int .i64 ((i + 1 : Nat) : Int)) ?_ (hr := fun u => op_to (v := .int .i64 (IntKind.wrap .i64 ((i : Int) + (1 : Int)))) (by kernel_rfl) (wrap_i64 (by omega) (by omega) (by omega)))
       refine GL.v (.int .i64 ((i + 1 : Nat) : Int)) ?_
       refine GL.q ?_
       refine QG.again fun _ hM => ?_
       exact ⟨nq - (i + 1), (by omega), (i + 1), (M.set i ((M.getD i 0) + ((sp * sq) * ((gp (q).natAbs).getD i 0)))), (fun t => (#[.agg #[.int .i64 s1, .slice A1 n1 c1], .agg #[.int .i64 s2, .slice A2 n2 c2], .pointer (some ⟨g21, 0, none⟩), .pointer (some ⟨g22, 0, none⟩), .pointer (some ⟨g23, 0, none⟩), .slice (some ⟨g29, 0, none⟩) np c29, .int .i64 ((i + 1 : Nat) : Int), .agg #[.int .i64 s1, .slice A1 n1 c1], .agg #[.int .i64 s2, .slice A2 n2 c2], .int .i64 (cmpN a.natAbs b.natAbs), .bool (decide ((cmpN a.natAbs b.natAbs) < (0 : Int))), (j25 11), (j25 12), .pointer (some ⟨g21, 1, none⟩), .slice Ap np cp, .slice (some ⟨g29, 0, none⟩) np c29, .int .i64 (i : Int), .pointer (some ⟨g22, 1, none⟩), .slice Aq nq cq, .int .i64 (nq : Int), .bool (decide ((i : Int) < (nq : Int))), .int .i64 (i : Int), .int .i64 ((i + 1 : Nat) : Int), .slice (some ⟨g29, 0, none⟩) np c29, .int .i64 (i : Int), .slice (some ⟨g29, 0, none⟩) np c29, .int .i64 (i : Int), elemPtr (some ⟨g29, 0, none⟩) i, .int .i64 (M.getD i 0), .pointer (some ⟨g21, 0, none⟩), .int .i64 sp, .pointer (some ⟨g22, 0, none⟩), .int .i64 sq, .int .i64 (sp * sq), .pointer (some ⟨g22, 1, none⟩), .slice Aq nq cq, .int .i64 (i : Int), elemPtr Aq i, .int .i64 ((gp (q).natAbs).getD i 0), .int .i64 ((sp * sq) * ((gp (q).natAbs).getD i 0)), .int .i64 ((M.getD i 0) + ((sp * sq) * ((gp (q).natAbs).getD i 0))), elemPtr (some ⟨g29, 0, none⟩) i, undef, undef, undef, undef] : Array Value).getD t undef), (by kernel_rfl), rfl, ((((hM.clr).add (hM.f 3 rfl)).add (hM.f 2 rfl)).add (hM.f 1 rfl)).add (hM.f 0 rfl), (by omega), (plus_valR (by omega) (by omega) hV), (set_bound (by omega) hB (by omega)), (fun j hj => set_above (by omega) hT j (by omega))⟩
     · have hk31 : (decide ((i : Int) < (nq : Int))) = false := decide_eq_false hc31
       refine CG.no ?_ hk31 rfl
       refine CG.exit (QG.then_exit (QG.then_exit (QG.here ?_)))
       refine QG.k k1 ?_
       refine CG.seq fun K_ k1 => ?_
       refine CG.lin 5 ?_
       refine GL.v (.pointer (some ⟨g21, 0, none⟩)) ?_
       refine GL.r (.int .i64 sp) (fun _ hM => op_load_one (off := 0) (by kernel_rfl) agg3 (hM.b 3 rfl) rfl) ?_
       refine GL.v (.slice (some ⟨g29, 0, none⟩) np c29) ?_
       refine GL.mem (fun _ hM => hM.pu0 fun hO _ hX => SIk.own hO hX) ?_
       refine GL.call (fun _ hM => nmade_ok hM.avlt sp (x := (p + q).natAbs) (hM.f 0 rfl) (by rw [hV, take_valR _ _ (by omega)]; exact zadd_val hsp hsq hle) (mem_of_get hB (by decide) (by decide)) (by first | assumption | omega) (by first | assumption | omega)) ?_
       rintro _ _ _ hM ⟨s33, A33, n33, c33, rfl, h33, hb⟩
       refine ⟨_, _, _, rfl, (hM.call hb).add h33, ?_⟩
       refine GL.sA (cs' := #[.int .i64 s33, .slice A33 n33 c33]) (fun _ _ => Mem.st0) (fun _ hM => hM.b 0 rfl) siz31 ?_
       refine GL.k k1 ?_
       refine CG.ret (QG.ret (fun _ hM => results_one rfl (res_cell rfl (loadVar_agg agg31 siz31 (hM.b 0 rfl) rfl rfl))) ?_)
       intro _ hM
       exact ⟨_, _, _, _, rfl, ((zadd_fin hsp hle hpq) ▸ (hM.out (hM.f 0 rfl))), hM.below⟩

set_option maxRecDepth 100000 in
set_option maxHeartbeats 400000 in
theorem ZNeg_ok {w : World} {X : Nat → Prop} {s1 : Int} {A1 : Option Addr} {n1 : Nat} {c1 : Nat} {a : Int} (hX : ∀ k, X k → k < w.heap.size) (h1 : NZk.R X w [.int .i64 s1, .slice A1 n1 c1] a) :
    Calls Tryz.prog 44 #[.agg #[.int .i64 s1, .slice A1 n1 c1]] w (fun e w' => ∃ sr Ar nr cr, e = .returned (.agg #[.int .i64 sr, .slice Ar nr cr]) ∧ NZk.R X w' [.int .i64 sr, .slice Ar nr cr] (-a) ∧ Below w.heap.size w w') := by
 have hM := (Mem.start hX).add0 h1
 have hsg := NZk.sgn h1
 have hc := sign_cases a
 refine calls_of hM Tryz.func44 Tryz.ntmps44 ?_
 refine CG.seq fun K_ k1 => ?_
 refine CG.lin 2 ?_
 refine GL.bA #[.int .i64 s1, .slice A1 n1 c1] fun g21 => ?_
 refine GL.aA zer31 fun g22 => ?_
 refine GL.k k1 ?_
 refine CG.seq fun K_ k1 => ?_
 refine CG.lin 7 ?_
 refine GL.v (.pointer (some ⟨g21, 0, none⟩)) ?_
 refine GL.r (.int .i64 s1) (fun _ hM => op_load_one (off := 0) (by kernel_rfl) agg3 (hM.b 1 rfl) rfl) ?_
 refine GL.v (.int .i64 (-s1)) ?_ (hr := fun u => op_to (v := .int .i64 (IntKind.wrap .i64 (0 - s1))) (by kernel_rfl) (wrap_i64 (by omega) (by omega) (by omega)))
 refine GL.v (.pointer (some ⟨g21, 1, none⟩)) ?_
 refine GL.r (.slice A1 n1 c1) (fun _ hM => op_load_one (off := 1) (by kernel_rfl) agg29 (hM.b 1 rfl) rfl) ?_
 refine GL.v (.agg #[.int .i64 (-s1), .slice A1 n1 c1]) ?_
 refine GL.sA (cs' := #[.int .i64 (-s1), .slice A1 n1 c1]) (fun _ _ => Mem.st0) (fun _ hM => hM.b 0 rfl) siz31 ?_
 refine GL.k k1 ?_
 refine CG.ret (QG.ret (fun _ hM => results_one rfl (res_cell rfl (loadVar_agg agg31 siz31 (hM.b 0 rfl) rfl rfl))) ?_)
 intro _ hM
 exact ⟨_, _, _, _, rfl, (hM.out (NZk.opp (hM.f 0 rfl))), hM.below⟩

set_option maxRecDepth 100000 in
set_option maxHeartbeats 400000 in
theorem ZSub_ok {w : World} {X : Nat → Prop} {s1 : Int} {A1 : Option Addr} {n1 : Nat} {c1 : Nat} {a : Int} {s2 : Int} {A2 : Option Addr} {n2 : Nat} {c2 : Nat} {b : Int} (hX : ∀ k, X k → k < w.heap.size) (h1 : NZk.R X w [.int .i64 s1, .slice A1 n1 c1] a) (h2 : NZk.R X w [.int .i64 s2, .slice A2 n2 c2] b) (p1 : szg a + szg b ≤ 4294967296) :
    Calls Tryz.prog 40 #[.agg #[.int .i64 s1, .slice A1 n1 c1], .agg #[.int .i64 s2, .slice A2 n2 c2]] w (fun e w' => ∃ sr Ar nr cr, e = .returned (.agg #[.int .i64 sr, .slice Ar nr cr]) ∧ NZk.R X w' [.int .i64 sr, .slice Ar nr cr] (a - b) ∧ Below w.heap.size w w') := by
 have hM := ((Mem.start hX).add0 h1).add0 h2
 refine calls_of hM Tryz.func40 Tryz.ntmps40 ?_
 refine CG.seq fun K_ k1 => ?_
 refine CG.lin 3 ?_
 refine GL.bA #[.int .i64 s1, .slice A1 n1 c1] fun g21 => ?_
 refine GL.bA #[.int .i64 s2, .slice A2 n2 c2] fun g22 => ?_
 refine GL.aA zer31 fun g23 => ?_
 refine GL.k k1 ?_
 refine CG.seq fun K_ k1 => ?_
 refine CG.draw [] [0, 1] (.step 0 (.step 1 (.step 2 (.step 3 (.step 4 .done))))) (fun V hV24 => ?_)
 refine GD.er (.agg #[.int .i64 s1, .slice A1 n1 c1]) (fun _ hS => op_load_agg (off := 0) (by kernel_rfl) agg31 siz31 (hV24.bS 2 rfl hS) rfl rfl) ?_
 refine GD.er (.agg #[.int .i64 s2, .slice A2 n2 c2]) (fun _ hS => op_load_agg (off := 0) (by kernel_rfl) agg31 siz31 (hV24.bS 1 rfl hS) rfl rfl) ?_
 refine GD.call (fun _ hM => ZNeg_ok hM.avlt (hM.f 0 rfl)) ?_
 rintro _ _ _ hM ⟨s25, A25, n25, c25, rfl, h25, hb⟩
 have hs25 := szg_neg b
 refine ⟨_, _, _, rfl, hb, (hM.call hb).add h25, ?_⟩
 refine GD.call (fun _ hM => ZAdd_ok hM.avlt (hM.f 2 rfl) (hM.f 0 rfl) (by rw [szg_neg]; assumption)) ?_
 rintro _ _ _ hM ⟨s26, A26, n26, c26, rfl, h26, hb⟩
 have hs26 := szg_add a (-b)
 refine ⟨_, _, _, rfl, hb, (hM.call hb).add h26, ?_⟩
 refine GD.st (fun _ _ => Mem.st0) (fun _ hM => store_all (cs' := #[.int .i64 s26, .slice A26 n26 c26]) siz31 (hM.b 0 rfl) (by kernel_rfl) (by kernel_rfl) rfl rfl rfl) ?_
 refine GD.k k1 ?_
 refine CG.ret (QG.ret (fun _ hM => results_one rfl (res_cell rfl (loadVar_agg agg31 siz31 (hM.b 0 rfl) rfl rfl))) ?_)
 intro _ hM
 exact ⟨_, _, _, _, rfl, (Int.sub_eq_add_neg ▸ (hM.out (hM.f 0 rfl))), hM.below⟩

set_option maxRecDepth 100000 in
set_option maxHeartbeats 400000 in
theorem ZCmp_ok {w : World} {X : Nat → Prop} {s1 : Int} {A1 : Option Addr} {n1 : Nat} {c1 : Nat} {a : Int} {s2 : Int} {A2 : Option Addr} {n2 : Nat} {c2 : Nat} {b : Int} (hX : ∀ k, X k → k < w.heap.size) (h1 : NZk.R X w [.int .i64 s1, .slice A1 n1 c1] a) (h2 : NZk.R X w [.int .i64 s2, .slice A2 n2 c2] b) (p1 : szg a + szg b ≤ 4294967296) :
    Calls Tryz.prog 47 #[.agg #[.int .i64 s1, .slice A1 n1 c1], .agg #[.int .i64 s2, .slice A2 n2 c2]] w (fun e w' => e = .returned (.int .i64 ((a - b).sign)) ∧ Below w.heap.size w w') := by
 have hM := ((Mem.start hX).add0 h1).add0 h2
 refine calls_of hM Tryz.func47 Tryz.ntmps47 ?_
 refine CG.seq fun K_ k1 => ?_
 refine CG.lin 3 ?_
 refine GL.bA #[.int .i64 s1, .slice A1 n1 c1] fun g21 => ?_
 refine GL.bA #[.int .i64 s2, .slice A2 n2 c2] fun g22 => ?_
 refine GL.v (.int .i64 0) ?_
 refine GL.k k1 ?_
 refine CG.seq fun K_ k1 => ?_
 refine CG.lin 5 ?_
 refine GL.r (.agg #[.int .i64 s1, .slice A1 n1 c1]) (fun _ hM => op_load_agg (off := 0) (by kernel_rfl) agg31 siz31 (hM.b 1 rfl) rfl rfl) ?_
 refine GL.r (.agg #[.int .i64 s2, .slice A2 n2 c2]) (fun _ hM => op_load_agg (off := 0) (by kernel_rfl) agg31 siz31 (hM.b 0 rfl) rfl rfl) ?_
 refine GL.call (fun _ hM => ZSub_ok hM.avlt (hM.f 1 rfl) (hM.f 0 rfl) (by first | assumption | omega)) ?_
 rintro _ _ _ hM ⟨s23, A23, n23, c23, rfl, h23, hb⟩
 have hs23 := szg_sub a b
 refine ⟨_, _, _, rfl, (hM.call hb).add h23, ?_⟩
 refine GL.v (.int .i64 s23) ?_
 refine GL.v (.int .i64 s23) ?_
 refine GL.k k1 ?_
 refine CG.ret (QG.ret (fun _ hM => results_one rfl (res_tmp rfl)) ?_)
 intro _ hM
 exact ⟨ret_int (NZk.sgn (hM.f 0 rfl)), hM.below⟩

set_option maxRecDepth 100000 in
set_option maxHeartbeats 400000 in
theorem NZText_ok {w : World} {X : Nat → Prop} {s1 : Int} {A1 : Option Addr} {n1 : Nat} {c1 : Nat} {a : Int} (hX : ∀ k, X k → k < w.heap.size) (h1 : NZk.R X w [.int .i64 s1, .slice A1 n1 c1] a) (p1 : szg a ≤ 4294967296) :
    Calls Tryz.prog 100 #[.agg #[.int .i64 s1, .slice A1 n1 c1]] w (fun e w' => e = .returned (.string (bs (decZ a))) ∧ Below w.heap.size w w') := by
 have hM := (Mem.start hX).add0 h1
 have hg1 : (gp a.natAbs).length = n1 := NZk.szg h1
 have hz1 := NZk.szg h1
 have hs1 := NZk.sgn h1
 have hc := sign_cases a
 have hn0 : a ≠ 0 → 0 < n1 := fun h => by rw [← hg1]; exact gp_pos (by omega)
 refine calls_of hM Tryz.func100 Tryz.ntmps100 ?_
 refine CG.seq fun K_ k1 => ?_
 refine CG.lin 2 ?_
 refine GL.bA #[.int .i64 s1, .slice A1 n1 c1] fun g21 => ?_
 refine GL.v (.string (bs [])) ?_
 refine GL.k k1 ?_
 refine CG.seq fun K_ k1 => ?_
 refine CG.seq fun K_ k2 => ?_
 refine CG.lin 3 ?_
 refine GL.v (.pointer (some ⟨g21, 0, none⟩)) ?_
 refine GL.r (.int .i64 s1) (fun _ hM => op_load_one (off := 0) (by kernel_rfl) agg3 (hM.b 0 rfl) rfl) ?_
 refine GL.v (.bool (s1 == (0 : Int))) ?_
 refine GL.k k2 ?_
 by_cases hc22 : s1 = (0 : Int)
 · have hk22 : (s1 == (0 : Int)) = true := beq_iff_eq.2 hc22
   refine CG.yes ?_ hk22 rfl
   refine CG.seq fun K_ k2 => ?_
   refine CG.lin 1 ?_
   refine GL.v (.string (bs [48])) ?_
   refine GL.k k2 ?_
   refine CG.ret (QG.then_ret (QG.ret (fun _ hM => results_one rfl (res_tmp rfl)) ?_))
   intro _ hM
   exact ⟨ret_str ((decZ_sign hs1).2.2 (by omega)), hM.below⟩
 · have hk22 : (s1 == (0 : Int)) = false := beq_eq_false_iff_ne.2 hc22
   refine CG.no ?_ hk22 rfl
   refine CG.skip ?_
   refine QG.k k1 ?_
   refine CG.seq fun K_ k1 => ?_
   refine CG.lin 1 ?_
   refine GL.v (.string (bs [])) ?_
   refine GL.k k1 ?_
   refine CG.seq fun K_ k1 => ?_
   refine CG.seq fun K_ k2 => ?_
   refine CG.lin 1 ?_
   refine GL.v (.int .i64 0) ?_
   refine GL.k k2 ?_
   refine CG.block ?_
   refine CG.loop (fun m_ a_ u_ => ∃ (i : Nat) (o : List UInt8) (j23 : Nat → Value), a_ = ⟨#[.agg #[.int .i64 s1, .slice A1 n1 c1], .pointer (some ⟨g21, 0, none⟩), .string (bs []), .string (bs o), .int .i64 (i : Int), (j23 5), (j23 6), .pointer (some ⟨g21, 0, none⟩), .int .i64 s1, .bool (s1 == (0 : Int)), (j23 10), (j23 11), (j23 12), (j23 13), (j23 14), (j23 15), (j23 16), (j23 17), (j23 18), (j23 19), (j23 20), (j23 21), (j23 22), (j23 23), (j23 24), (j23 25), (j23 26), (j23 27), (j23 28), (j23 29), (j23 30), (j23 31), (j23 32), (j23 33), (j23 34), (j23 35), (j23 36), (j23 37), (j23 38), (j23 39), (j23 40), (j23 41), (j23 42), (j23 43), (j23 44), (j23 45), (j23 46), undef, undef, undef, undef, undef, undef], []⟩ ∧ m_ = n1 - i ∧ Mem w [] X u_ [.box g21 #[.int .i64 s1, .slice A1 n1 c1] 31] [⟨NZk, [.int .i64 s1, .slice A1 n1 c1], a⟩] ∧ (i ≤ n1) ∧ ((i < n1 → o = pad (4 * i) a.natAbs) ∧ (i = n1 → o = dec a.natAbs)) ∧ (o.length ≤ 4 * i)) (fun _ hM => ⟨_, 0, [], (fun t => (#[.agg #[.int .i64 s1, .slice A1 n1 c1], .pointer (some ⟨g21, 0, none⟩), .string (bs []), .string (bs []), .int .i64 0, undef, undef, .pointer (some ⟨g21, 0, none⟩), .int .i64 s1, .bool (s1 == (0 : Int)), undef, undef, undef, undef, undef, undef, undef, undef, undef, undef, undef, undef, undef, undef, undef, undef, undef, undef, undef, undef, undef, undef, undef, undef, undef, undef, undef, undef, undef, undef, undef, undef, undef, undef, undef, undef, undef, undef, undef, undef, undef, undef, undef] : Array Value).getD t undef), (by kernel_rfl), rfl, (hM.clr).add (hM.f 0 rfl), (by omega), ⟨fun _ => rfl, fun h => absurd (hn0 (by omega)) (by omega)⟩, (by simp)⟩) ?_
   rintro m_ a_ u_ ⟨i, o, j23, rfl, hm23, hM, hi, ho, hl⟩
   refine CG.go hM ?_
   refine CG.seq fun K_ k2 => ?_
   refine CG.seq fun K_ k3 => ?_
   refine CG.lin 5 ?_
   refine GL.v (.int .i64 (i : Int)) ?_
   refine GL.v (.pointer (some ⟨g21, 1, none⟩)) ?_
   refine GL.r (.slice A1 n1 c1) (fun _ hM => op_load_one (off := 1) (by kernel_rfl) agg29 (hM.b 0 rfl) rfl) ?_
   refine GL.v (.int .i64 (n1 : Int)) ?_
   refine GL.v (.bool (decide ((i : Int) < (n1 : Int)))) ?_
   refine GL.k k3 ?_
   by_cases hc24 : (i : Int) < (n1 : Int)
   · have hk24 : (decide ((i : Int) < (n1 : Int))) = true := decide_eq_true hc24
     refine CG.yes ?_ hk24 rfl
     refine CG.skip ?_
     refine QG.k k2 ?_
     refine CG.seq fun K_ k2 => ?_
     refine CG.block ?_
     refine CG.seq fun K_ k3 => ?_
     refine CG.lin 6 ?_
     refine GL.v (.pointer (some ⟨g21, 1, none⟩)) ?_
     refine GL.r (.slice A1 n1 c1) (fun _ hM => op_load_one (off := 1) (by kernel_rfl) agg29 (hM.b 0 rfl) rfl) ?_
     refine GL.v (.int .i64 (i : Int)) ?_
     refine GL.r (elemPtr A1 i) (fun _ hM => op_index rowt29 (c := c1) (k := .i64) (i := (i : Int)) i (by kernel_rfl) (by kernel_rfl) (by omega) (by omega) (NZk.row (hM.f 0 rfl)) _) ?_
     refine GL.r (.int .i64 ((gd a.natAbs i : Nat) : Int)) (fun _ hM => op_to (v := .int .i64 ((gp (a).natAbs).getD i 0)) (op_load_i64 (n := n1) (by kernel_rfl) agg3 (NZk.row (hM.f 0 rfl)) (by omega)) (congrArg (Value.int .i64) (gd_int _ _))) ?_
     refine GL.v (.int .i64 ((gd a.natAbs i : Nat) : Int)) ?_
     refine GL.k k3 ?_
     refine CG.seq fun K_ k3 => ?_
     refine CG.lin 1 ?_
     refine GL.v (.int .i64 0) ?_
     refine GL.k k3 ?_
     refine CG.block ?_
     refine CG.loop (fun m_ a_ u_ => ∃ (k : Nat) (v : Nat) (q : List UInt8) (j25 : Nat → Value), a_ = ⟨#[.agg #[.int .i64 s1, .slice A1 n1 c1], .pointer (some ⟨g21, 0, none⟩), .string (bs []), .string (bs q), .int .i64 (i : Int), .int .i64 (v : Int), .int .i64 (k : Int), .pointer (some ⟨g21, 0, none⟩), .int .i64 s1, .bool (s1 == (0 : Int)), .int .i64 (i : Int), .pointer (some ⟨g21, 1, none⟩), .slice A1 n1 c1, .int .i64 (n1 : Int), .bool (decide ((i : Int) < (n1 : Int))), (j23 15), (j23 16), .pointer (some ⟨g21, 1, none⟩), .slice A1 n1 c1, .int .i64 (i : Int), elemPtr A1 i, .int .i64 ((gd a.natAbs i : Nat) : Int), (j25 22), (j25 23), (j25 24), (j25 25), (j25 26), (j25 27), (j25 28), (j25 29), (j25 30), (j25 31), (j25 32), (j25 33), (j25 34), (j25 35), (j25 36), (j25 37), (j25 38), (j25 39), (j25 40), (j25 41), (j25 42), (j25 43), (j25 44), (j25 45), (j25 46), undef, undef, undef, undef, undef, undef], []⟩ ∧ m_ = 4 - k ∧ Mem w [] X u_ [.box g21 #[.int .i64 s1, .slice A1 n1 c1] 31] [⟨NZk, [.int .i64 s1, .slice A1 n1 c1], a⟩] ∧ (k ≤ 4) ∧ (v = gd a.natAbs i / 10 ^ k) ∧ (q = pad k (gd a.natAbs i) ++ o) ∧ (i + 1 = n1 → k = 0 ∨ gd a.natAbs i / 10 ^ (k - 1) ≠ 0) ∧ (q.length ≤ 4 * i + k) ∧ (gd a.natAbs i < 10000)) (fun _ hM => ⟨_, 0, (gd a.natAbs i), o, (fun t => (#[.agg #[.int .i64 s1, .slice A1 n1 c1], .pointer (some ⟨g21, 0, none⟩), .string (bs []), .string (bs o), .int .i64 (i : Int), .int .i64 ((gd a.natAbs i : Nat) : Int), .int .i64 0, .pointer (some ⟨g21, 0, none⟩), .int .i64 s1, .bool (s1 == (0 : Int)), .int .i64 (i : Int), .pointer (some ⟨g21, 1, none⟩), .slice A1 n1 c1, .int .i64 (n1 : Int), .bool (decide ((i : Int) < (n1 : Int))), (j23 15), (j23 16), .pointer (some ⟨g21, 1, none⟩), .slice A1 n1 c1, .int .i64 (i : Int), elemPtr A1 i, .int .i64 ((gd a.natAbs i : Nat) : Int), (j23 22), (j23 23), (j23 24), (j23 25), (j23 26), (j23 27), (j23 28), (j23 29), (j23 30), (j23 31), (j23 32), (j23 33), (j23 34), (j23 35), (j23 36), (j23 37), (j23 38), (j23 39), (j23 40), (j23 41), (j23 42), (j23 43), (j23 44), (j23 45), (j23 46), undef, undef, undef, undef, undef, undef] : Array Value).getD t undef), (by kernel_rfl), rfl, (hM.clr).add (hM.f 0 rfl), (by omega), (by simp), rfl, (fun _ => .inl rfl), (by omega), (Nat.mod_lt _ (by decide))⟩) ?_
     rintro m_ a_ u_ ⟨k, v, q, j25, rfl, hm25, hM, hk, hv, hq, hz, hlq, hgl⟩
     have hvl : v < 10000 := by rw [hv]; exact Nat.lt_of_le_of_lt (Nat.div_le_self _ _) hgl
     refine CG.go hM ?_
     refine CG.seq fun K_ k3 => ?_
     refine CG.seq fun K_ k4 => ?_
     by_cases hc26 : (k : Int) < (4 : Int)
     · have hk26 : (decide ((k : Int) < (4 : Int))) = true := decide_eq_true hc26
       by_cases hc27 : (v : Int) > (0 : Int)
       · have hk27 : (decide ((v : Int) > (0 : Int))) = true := decide_eq_true hc27
         refine CG.lin 14 ?_
         refine GL.v (.int .i64 (k : Int)) ?_
         refine GL.v (.bool true) ?_ (hr := fun u => op_b (b := (decide ((k : Int) < (4 : Int)))) (by kernel_rfl) hk26)
         refine GL.v (.bool true) ?_
         refine GL.v (.int .i64 (v : Int)) ?_
         refine GL.v (.bool true) ?_ (hr := fun u => op_b (b := (decide ((v : Int) > (0 : Int)))) (by kernel_rfl) hk27)
         refine GL.v (.bool true) ?_
         refine GL.sk ?_
         refine GL.sk ?_
         refine GL.sk ?_
         refine GL.sk ?_
         refine GL.sk ?_
         refine GL.sk ?_
         refine GL.v (.bool true) ?_
         refine GL.v (.bool true) ?_
         refine GL.k k4 ?_
         refine CG.yes ?_ rfl rfl
         refine CG.skip ?_
         refine QG.k k3 ?_
         refine CG.seq fun K_ k3 => ?_
         refine CG.block ?_
         refine CG.seq fun K_ k4 => ?_
         refine CG.lin 8 ?_
         refine GL.v (.int .i64 (v : Int)) ?_
         refine GL.v (.int .i64 ((v % 10 : Nat) : Int)) ?_ (hr := fun u => op_to (v := .int .i64 (((v : Int)).tmod 10)) (by kernel_rfl) (rem_to .i64 (by omega) (by omega)))
         refine GL.v (.int .i64 ((48 + (v % 10) : Nat) : Int)) ?_ (hr := fun u => op_to (v := .int .i64 (IntKind.wrap .i64 ((48 : Int) + ((v % 10 : Nat) : Int)))) (by kernel_rfl) (wrap_i64 (by omega) (by omega) (by omega)))
         refine GL.v (.int .i32 ((48 + (v % 10) : Nat) : Int)) ?_ (hr := fun u => op_to (v := .int .i32 (IntKind.wrap .i32 ((48 + (v % 10) : Nat) : Int))) (by kernel_rfl) (wrap_i32 rfl (by omega) (by omega)))
         refine GL.v (.string (bs [chr (v % 10)])) ?_ (hr := fun u => op_r2s (k := .i32) (n := ((48 + (v % 10) : Nat) : Int)) (by kernel_rfl) (by kernel_rfl) (by kernel_rfl) (by omega) (by omega))
         refine GL.v (.string (bs q)) ?_
         refine GL.v (.string (bs ([chr (v % 10)] ++ q))) ?_ (hr := fun u => op_cat (L := [chr (v % 10)]) (K := q) (by kernel_rfl) (by kernel_rfl) (by (try simp only [List.length_append, List.length_cons, List.length_nil]); omega))
         refine GL.v (.string (bs ([chr (v % 10)] ++ q))) ?_
         refine GL.k k4 ?_
         refine CG.lin 3 ?_
         refine GL.v (.int .i64 (v : Int)) ?_
         refine GL.v (.int .i64 ((v / 10 : Nat) : Int)) ?_ (hr := fun u => op_to (v := .int .i64 (IntKind.wrap .i64 (((v : Int)).tdiv 10))) (by kernel_rfl) (quo_i64 (by omega) (by omega) (by omega) (by omega)))
         refine GL.v (.int .i64 ((v / 10 : Nat) : Int)) ?_
         refine GL.q ?_
         refine QG.block ?_
         refine QG.k k3 ?_
         refine CG.lin 3 ?_
         refine GL.v (.int .i64 (k : Int)) ?_
         refine GL.v (.int .i64 ((k + 1 : Nat) : Int)) ?_ (hr := fun u => op_to (v := .int .i64 (IntKind.wrap .i64 ((k : Int) + (1 : Int)))) (by kernel_rfl) (wrap_i64 (by omega) (by omega) (by omega)))
         refine GL.v (.int .i64 ((k + 1 : Nat) : Int)) ?_
         refine GL.q ?_
         refine QG.again fun _ hM => ?_
         exact ⟨4 - (k + 1), (by omega), (k + 1), (v / 10), ([chr (v % 10)] ++ q), (fun t => (#[.agg #[.int .i64 s1, .slice A1 n1 c1], .pointer (some ⟨g21, 0, none⟩), .string (bs []), .string (bs ([chr (v % 10)] ++ q)), .int .i64 (i : Int), .int .i64 ((v / 10 : Nat) : Int), .int .i64 ((k + 1 : Nat) : Int), .pointer (some ⟨g21, 0, none⟩), .int .i64 s1, .bool (s1 == (0 : Int)), .int .i64 (i : Int), .pointer (some ⟨g21, 1, none⟩), .slice A1 n1 c1, .int .i64 (n1 : Int), .bool (decide ((i : Int) < (n1 : Int))), (j23 15), (j23 16), .pointer (some ⟨g21, 1, none⟩), .slice A1 n1 c1, .int .i64 (i : Int), elemPtr A1 i, .int .i64 ((gd a.natAbs i : Nat) : Int), .int .i64 (k : Int), .bool true, .bool true, .int .i64 (v : Int), .bool true, .bool true, undef, undef, undef, undef, undef, undef, .bool true, .bool true, .int .i64 (k : Int), .int .i64 ((k + 1 : Nat) : Int), .int .i64 (v : Int), .int .i64 ((v % 10 : Nat) : Int), .int .i64 ((48 + (v % 10) : Nat) : Int), .int .i32 ((48 + (v % 10) : Nat) : Int), .string (bs [chr (v % 10)]), .string (bs q), .string (bs ([chr (v % 10)] ++ q)), .int .i64 (v : Int), .int .i64 ((v / 10 : Nat) : Int), undef, undef, undef, undef, undef, undef] : Array Value).getD t undef), (by kernel_rfl), rfl, (hM.clr).add (hM.f 0 rfl), (by omega), (by rw [hv, Nat.div_div_eq_div_mul, Nat.pow_succ]), (by rw [hv, hq, ← List.append_assoc, pad_front]), (fun h => .inr (by rw [Nat.add_sub_cancel, ← hv]; omega)), (by simp only [List.length_append, List.length_singleton]; omega), hgl⟩
       · have hk27 : (decide ((v : Int) > (0 : Int))) = false := decide_eq_false hc27
         by_cases hc28 : (i : Int) < ((n1 : Int) - (1 : Int))
         · have hk28 : (decide ((i : Int) < ((n1 : Int) - (1 : Int)))) = true := decide_eq_true hc28
           refine CG.lin 14 ?_
           refine GL.v (.int .i64 (k : Int)) ?_
           refine GL.v (.bool true) ?_ (hr := fun u => op_b (b := (decide ((k : Int) < (4 : Int)))) (by kernel_rfl) hk26)
           refine GL.v (.bool true) ?_
           refine GL.v (.int .i64 (v : Int)) ?_
           refine GL.v (.bool false) ?_ (hr := fun u => op_b (b := (decide ((v : Int) > (0 : Int)))) (by kernel_rfl) hk27)
           refine GL.v (.bool false) ?_
           refine GL.v (.int .i64 (i : Int)) ?_
           refine GL.v (.pointer (some ⟨g21, 1, none⟩)) ?_
           refine GL.r (.slice A1 n1 c1) (fun _ hM => op_load_one (off := 1) (by kernel_rfl) agg29 (hM.b 0 rfl) rfl) ?_
           refine GL.v (.int .i64 (n1 : Int)) ?_
           refine GL.v (.int .i64 ((n1 : Int) - (1 : Int))) ?_ (hr := fun u => op_to (v := .int .i64 (IntKind.wrap .i64 ((n1 : Int) - (1 : Int)))) (by kernel_rfl) (wrap_i64 rfl (by omega) (by omega)))
           refine GL.v (.bool true) ?_ (hr := fun u => op_b (b := (decide ((i : Int) < ((n1 : Int) - (1 : Int))))) (by kernel_rfl) hk28)
           refine GL.v (.bool true) ?_
           refine GL.v (.bool true) ?_
           refine GL.k k4 ?_
           refine CG.yes ?_ rfl rfl
           refine CG.skip ?_
           refine QG.k k3 ?_
           refine CG.seq fun K_ k3 => ?_
           refine CG.block ?_
           refine CG.seq fun K_ k4 => ?_
           refine CG.lin 8 ?_
           refine GL.v (.int .i64 (v : Int)) ?_
           refine GL.v (.int .i64 ((v % 10 : Nat) : Int)) ?_ (hr := fun u => op_to (v := .int .i64 (((v : Int)).tmod 10)) (by kernel_rfl) (rem_to .i64 (by omega) (by omega)))
           refine GL.v (.int .i64 ((48 + (v % 10) : Nat) : Int)) ?_ (hr := fun u => op_to (v := .int .i64 (IntKind.wrap .i64 ((48 : Int) + ((v % 10 : Nat) : Int)))) (by kernel_rfl) (wrap_i64 (by omega) (by omega) (by omega)))
           refine GL.v (.int .i32 ((48 + (v % 10) : Nat) : Int)) ?_ (hr := fun u => op_to (v := .int .i32 (IntKind.wrap .i32 ((48 + (v % 10) : Nat) : Int))) (by kernel_rfl) (wrap_i32 rfl (by omega) (by omega)))
           refine GL.v (.string (bs [chr (v % 10)])) ?_ (hr := fun u => op_r2s (k := .i32) (n := ((48 + (v % 10) : Nat) : Int)) (by kernel_rfl) (by kernel_rfl) (by kernel_rfl) (by omega) (by omega))
           refine GL.v (.string (bs q)) ?_
           refine GL.v (.string (bs ([chr (v % 10)] ++ q))) ?_ (hr := fun u => op_cat (L := [chr (v % 10)]) (K := q) (by kernel_rfl) (by kernel_rfl) (by (try simp only [List.length_append, List.length_cons, List.length_nil]); omega))
           refine GL.v (.string (bs ([chr (v % 10)] ++ q))) ?_
           refine GL.k k4 ?_
           refine CG.lin 3 ?_
           refine GL.v (.int .i64 (v : Int)) ?_
           refine GL.v (.int .i64 ((v / 10 : Nat) : Int)) ?_ (hr := fun u => op_to (v := .int .i64 (IntKind.wrap .i64 (((v : Int)).tdiv 10))) (by kernel_rfl) (quo_i64 (by omega) (by omega) (by omega) (by omega)))
           refine GL.v (.int .i64 ((v / 10 : Nat) : Int)) ?_
           refine GL.q ?_
           refine QG.block ?_
           refine QG.k k3 ?_
           refine CG.lin 3 ?_
           refine GL.v (.int .i64 (k : Int)) ?_
           refine GL.v (.int .i64 ((k + 1 : Nat) : Int)) ?_ (hr := fun u => op_to (v := .int .i64 (IntKind.wrap .i64 ((k : Int) + (1 : Int)))) (by kernel_rfl) (wrap_i64 (by omega) (by omega) (by omega)))
           refine GL.v (.int .i64 ((k + 1 : Nat) : Int)) ?_
           refine GL.q ?_
           refine QG.again fun _ hM => ?_
           exact ⟨4 - (k + 1), (by omega), (k + 1), (v / 10), ([chr (v % 10)] ++ q), (fun t => (#[.agg #[.int .i64 s1, .slice A1 n1 c1], .pointer (some ⟨g21, 0, none⟩), .string (bs []), .string (bs ([chr (v % 10)] ++ q)), .int .i64 (i : Int), .int .i64 ((v / 10 : Nat) : Int), .int .i64 ((k + 1 : Nat) : Int), .pointer (some ⟨g21, 0, none⟩), .int .i64 s1, .bool (s1 == (0 : Int)), .int .i64 (i : Int), .pointer (some ⟨g21, 1, none⟩), .slice A1 n1 c1, .int .i64 (n1 : Int), .bool (decide ((i : Int) < (n1 : Int))), (j23 15), (j23 16), .pointer (some ⟨g21, 1, none⟩), .slice A1 n1 c1, .int .i64 (i : Int), elemPtr A1 i, .int .i64 ((gd a.natAbs i : Nat) : Int), .int .i64 (k : Int), .bool true, .bool true, .int .i64 (v : Int), .bool false, .bool false, .int .i64 (i : Int), .pointer (some ⟨g21, 1, none⟩), .slice A1 n1 c1, .int .i64 (n1 : Int), .int .i64 ((n1 : Int) - (1 : Int)), .bool true, .bool true, .bool true, .int .i64 (k : Int), .int .i64 ((k + 1 : Nat) : Int), .int .i64 (v : Int), .int .i64 ((v % 10 : Nat) : Int), .int .i64 ((48 + (v % 10) : Nat) : Int), .int .i32 ((48 + (v % 10) : Nat) : Int), .string (bs [chr (v % 10)]), .string (bs q), .string (bs ([chr (v % 10)] ++ q)), .int .i64 (v : Int), .int .i64 ((v / 10 : Nat) : Int), undef, undef, undef, undef, undef, undef] : Array Value).getD t undef), (by kernel_rfl), rfl, (hM.clr).add (hM.f 0 rfl), (by omega), (by rw [hv, Nat.div_div_eq_div_mul, Nat.pow_succ]), (by rw [hv, hq, ← List.append_assoc, pad_front]), (fun h => .inr (by rw [Nat.add_sub_cancel, ← hv]; omega)), (by simp only [List.length_append, List.length_singleton]; omega), hgl⟩
         · have hk28 : (decide ((i : Int) < ((n1 : Int) - (1 : Int)))) = false := decide_eq_false hc28
           refine CG.lin 14 ?_
           refine GL.v (.int .i64 (k : Int)) ?_
           refine GL.v (.bool true) ?_ (hr := fun u => op_b (b := (decide ((k : Int) < (4 : Int)))) (by kernel_rfl) hk26)
           refine GL.v (.bool true) ?_
           refine GL.v (.int .i64 (v : Int)) ?_
           refine GL.v (.bool false) ?_ (hr := fun u => op_b (b := (decide ((v : Int) > (0 : Int)))) (by kernel_rfl) hk27)
           refine GL.v (.bool false) ?_
           refine GL.v (.int .i64 (i : Int)) ?_
           refine GL.v (.pointer (some ⟨g21, 1, none⟩)) ?_
           refine GL.r (.slice A1 n1 c1) (fun _ hM => op_load_one (off := 1) (by kernel_rfl) agg29 (hM.b 0 rfl) rfl) ?_
           refine GL.v (.int .i64 (n1 : Int)) ?_
           refine GL.v (.int .i64 ((n1 : Int) - (1 : Int))) ?_ (hr := fun u => op_to (v := .int .i64 (IntKind.wrap .i64 ((n1 : Int) - (1 : Int)))) (by kernel_rfl) (wrap_i64 rfl (by omega) (by omega)))
           refine GL.v (.bool false) ?_ (hr := fun u => op_b (b := (decide ((i : Int) < ((n1 : Int) - (1 : Int))))) (by kernel_rfl) hk28)
           refine GL.v (.bool false) ?_
           refine GL.v (.bool false) ?_
           refine GL.k k4 ?_
           refine CG.no ?_ rfl rfl
           refine CG.exit (QG.then_exit (QG.then_exit (QG.here ?_)))
           refine QG.block ?_
           refine QG.k k2 ?_
           refine CG.lin 3 ?_
           refine GL.v (.int .i64 (i : Int)) ?_
           refine GL.v (.int .i64 ((i + 1 : Nat) : Int)) ?_ (hr := fun u => op_to (v := .int .i64 (IntKind.wrap .i64 ((i : Int) + (1 : Int)))) (by kernel_rfl) (wrap_i64 (by omega) (by omega) (by omega)))
           refine GL.v (.int .i64 ((i + 1 : Nat) : Int)) ?_
           refine GL.q ?_
           refine QG.again fun _ hM => ?_
           exact ⟨n1 - (i + 1), (by omega), (i + 1), q, (fun t => (#[.agg #[.int .i64 s1, .slice A1 n1 c1], .pointer (some ⟨g21, 0, none⟩), .string (bs []), .string (bs q), .int .i64 ((i + 1 : Nat) : Int), .int .i64 (v : Int), .int .i64 (k : Int), .pointer (some ⟨g21, 0, none⟩), .int .i64 s1, .bool (s1 == (0 : Int)), .int .i64 (i : Int), .pointer (some ⟨g21, 1, none⟩), .slice A1 n1 c1, .int .i64 (n1 : Int), .bool (decide ((i : Int) < (n1 : Int))), .int .i64 (i : Int), .int .i64 ((i + 1 : Nat) : Int), .pointer (some ⟨g21, 1, none⟩), .slice A1 n1 c1, .int .i64 (i : Int), elemPtr A1 i, .int .i64 ((gd a.natAbs i : Nat) : Int), .int .i64 (k : Int), .bool true, .bool true, .int .i64 (v : Int), .bool false, .bool false, .int .i64 (i : Int), .pointer (some ⟨g21, 1, none⟩), .slice A1 n1 c1, .int .i64 (n1 : Int), .int .i64 ((n1 : Int) - (1 : Int)), .bool false, .bool false, .bool false, (j25 36), (j25 37), (j25 38), (j25 39), (j25 40), (j25 41), (j25 42), (j25 43), (j25 44), (j25 45), (j25 46), undef, undef, undef, undef, undef, undef] : Array Value).getD t undef), (by kernel_rfl), rfl, (hM.clr).add (hM.f 0 rfl), (by omega), (ztext_next hg1 (by omega) hq (ho.1 (by omega)) hz (by omega) (by omega)), (by omega)⟩
     · have hk26 : (decide ((k : Int) < (4 : Int))) = false := decide_eq_false hc26
       refine CG.lin 14 ?_
       refine GL.v (.int .i64 (k : Int)) ?_
       refine GL.v (.bool false) ?_ (hr := fun u => op_b (b := (decide ((k : Int) < (4 : Int)))) (by kernel_rfl) hk26)
       refine GL.v (.bool false) ?_
       refine GL.sk ?_
       refine GL.sk ?_
       refine GL.sk ?_
       refine GL.sk ?_
       refine GL.sk ?_
       refine GL.sk ?_
       refine GL.sk ?_
       refine GL.sk ?_
       refine GL.sk ?_
       refine GL.sk ?_
       refine GL.v (.bool false) ?_
       refine GL.k k4 ?_
       refine CG.no ?_ rfl rfl
       refine CG.exit (QG.then_exit (QG.then_exit (QG.here ?_)))
       refine QG.block ?_
       refine QG.k k2 ?_
       refine CG.lin 3 ?_
       refine GL.v (.int .i64 (i : Int)) ?_
       refine GL.v (.int .i64 ((i + 1 : Nat) : Int)) ?_ (hr := fun u => op_to (v := .int .i64 (IntKind.wrap .i64 ((i : Int) + (1 : Int)))) (by kernel_rfl) (wrap_i64 (by omega) (by omega) (by omega)))
       refine GL.v (.int .i64 ((i + 1 : Nat) : Int)) ?_
       refine GL.q ?_
       refine QG.again fun _ hM => ?_
       exact ⟨n1 - (i + 1), (by omega), (i + 1), q, (fun t => (#[.agg #[.int .i64 s1, .slice A1 n1 c1], .pointer (some ⟨g21, 0, none⟩), .string (bs []), .string (bs q), .int .i64 ((i + 1 : Nat) : Int), .int .i64 (v : Int), .int .i64 (k : Int), .pointer (some ⟨g21, 0, none⟩), .int .i64 s1, .bool (s1 == (0 : Int)), .int .i64 (i : Int), .pointer (some ⟨g21, 1, none⟩), .slice A1 n1 c1, .int .i64 (n1 : Int), .bool (decide ((i : Int) < (n1 : Int))), .int .i64 (i : Int), .int .i64 ((i + 1 : Nat) : Int), .pointer (some ⟨g21, 1, none⟩), .slice A1 n1 c1, .int .i64 (i : Int), elemPtr A1 i, .int .i64 ((gd a.natAbs i : Nat) : Int), .int .i64 (k : Int), .bool false, .bool false, undef, undef, undef, undef, undef, undef, undef, undef, undef, undef, .bool false, (j25 36), (j25 37), (j25 38), (j25 39), (j25 40), (j25 41), (j25 42), (j25 43), (j25 44), (j25 45), (j25 46), undef, undef, undef, undef, undef, undef] : Array Value).getD t undef), (by kernel_rfl), rfl, (hM.clr).add (hM.f 0 rfl), (by omega), (ztext_next hg1 (by omega) hq (ho.1 (by omega)) hz (by omega) (by omega)), (by omega)⟩
   · have hk24 : (decide ((i : Int) < (n1 : Int))) = false := decide_eq_false hc24
     refine CG.no ?_ hk24 rfl
     refine CG.exit (QG.then_exit (QG.then_exit (QG.here ?_)))
     refine QG.k k1 ?_
     refine CG.seq fun K_ k1 => ?_
     refine CG.seq fun K_ k2 => ?_
     refine CG.lin 3 ?_
     refine GL.v (.pointer (some ⟨g21, 0, none⟩)) ?_
     refine GL.r (.int .i64 s1) (fun _ hM => op_load_one (off := 0) (by kernel_rfl) agg3 (hM.b 0 rfl) rfl) ?_
     refine GL.v (.bool (decide (s1 < (0 : Int)))) ?_
     refine GL.k k2 ?_
     by_cases hc29 : s1 < (0 : Int)
     · have hk29 : (decide (s1 < (0 : Int))) = true := decide_eq_true hc29
       refine CG.yes ?_ hk29 rfl
       refine CG.seq fun K_ k2 => ?_
       refine CG.lin 3 ?_
       refine GL.v (.string (bs o)) ?_
       refine GL.v (.string (bs ([45] ++ o))) ?_ (hr := fun u => op_cat (L := [45]) (K := o) (by kernel_rfl) (by kernel_rfl) (by (try simp only [List.length_append, List.length_cons, List.length_nil]); omega))
       refine GL.v (.string (bs ([45] ++ o))) ?_
       refine GL.k k2 ?_
       refine CG.ret (QG.then_ret (QG.ret (fun _ hM => results_one rfl (res_tmp rfl)) ?_))
       intro _ hM
       exact ⟨ret_str (by rw [(show o = dec a.natAbs from ho.2 (by omega))]; exact (decZ_sign hs1).1 (by omega)), hM.below⟩
     · have hk29 : (decide (s1 < (0 : Int))) = false := decide_eq_false hc29
       refine CG.no ?_ hk29 rfl
       refine CG.skip ?_
       refine QG.k k1 ?_
       refine CG.seq fun K_ k1 => ?_
       refine CG.lin 2 ?_
       refine GL.v (.string (bs o)) ?_
       refine GL.v (.string (bs o)) ?_
       refine GL.k k1 ?_
       refine CG.ret (QG.ret (fun _ hM => results_one rfl (res_tmp rfl)) ?_)
       intro _ hM
       exact ⟨ret_str (by rw [(show o = dec a.natAbs from ho.2 (by omega))]; exact (decZ_sign hs1).2.1 (by omega)), hM.below⟩

set_option maxRecDepth 100000 in
set_option maxHeartbeats 400000 in
theorem NZAbs_ok {w : World} {X : Nat → Prop} {s1 : Int} {A1 : Option Addr} {n1 : Nat} {c1 : Nat} {a : Int} (hX : ∀ k, X k → k < w.heap.size) (h1 : NZk.R X w [.int .i64 s1, .slice A1 n1 c1] a) :
    Calls Tryz.prog 46 #[.agg #[.int .i64 s1, .slice A1 n1 c1]] w (fun e w' => ∃ sr Ar nr cr, e = .returned (.agg #[.int .i64 sr, .slice Ar nr cr]) ∧ NZk.R X w' [.int .i64 sr, .slice Ar nr cr] (a.natAbs : Int) ∧ Below w.heap.size w w') := by
 have hM := (Mem.start hX).add0 h1
 have hsg := NZk.sgn h1
 have hss := sign_bound hsg hsg
 refine calls_of hM Tryz.func46 Tryz.ntmps46 ?_
 refine CG.seq fun K_ k1 => ?_
 refine CG.lin 2 ?_
 refine GL.bA #[.int .i64 s1, .slice A1 n1 c1] fun g21 => ?_
 refine GL.aA zer31 fun g22 => ?_
 refine GL.k k1 ?_
 refine CG.seq fun K_ k1 => ?_
 refine CG.lin 9 ?_
 refine GL.v (.pointer (some ⟨g21, 0, none⟩)) ?_
 refine GL.r (.int .i64 s1) (fun _ hM => op_load_one (off := 0) (by kernel_rfl) agg3 (hM.b 1 rfl) rfl) ?_
 refine GL.v (.pointer (some ⟨g21, 0, none⟩)) ?_
 refine GL.r (.int .i64 s1) (fun _ hM => op_load_one (off := 0) (by kernel_rfl) agg3 (hM.b 1 rfl) rfl) ?_
 refine GL.v (.int .i64 (s1 * s1)) ?_ (hr := fun u => op_to (v := .int .i64 (IntKind.wrap .i64 (s1 * s1))) (by kernel_rfl) (wrap_i64 rfl (by omega) (by omega)))
 refine GL.v (.pointer (some ⟨g21, 1, none⟩)) ?_
 refine GL.r (.slice A1 n1 c1) (fun _ hM => op_load_one (off := 1) (by kernel_rfl) agg29 (hM.b 1 rfl) rfl) ?_
 refine GL.v (.agg #[.int .i64 (s1 * s1), .slice A1 n1 c1]) ?_
 refine GL.sA (cs' := #[.int .i64 (s1 * s1), .slice A1 n1 c1]) (fun _ _ => Mem.st0) (fun _ hM => hM.b 0 rfl) siz31 ?_
 refine GL.k k1 ?_
 refine CG.ret (QG.ret (fun _ hM => results_one rfl (res_cell rfl (loadVar_agg agg31 siz31 (hM.b 0 rfl) rfl rfl))) ?_)
 intro _ hM
 exact ⟨_, _, _, _, rfl, (hM.out (NZk.absv (hM.f 0 rfl))), hM.below⟩

set_option maxRecDepth 100000 in
set_option maxHeartbeats 400000 in
theorem ntimes_ok {w : World} {X : Nat → Prop} {s1 : Int} {A1 : Option Addr} {n1 : Nat} {c1 : Nat} {a : Int} (hX : ∀ k, X k → k < w.heap.size) (k : Int) (h1 : NZk.R X w [.int .i64 s1, .slice A1 n1 c1] a) (p1 : 0 ≤ k ∧ k ≤ 10000) (p2 : szg a ≤ 4294967296) :
    Calls Tryz.prog 109 #[.agg #[.int .i64 s1, .slice A1 n1 c1], .int .i64 k] w (fun e w' => ∃ sr Ar nr cr, e = .returned (.agg #[.int .i64 sr, .slice Ar nr cr]) ∧ NZk.R X w' [.int .i64 sr, .slice Ar nr cr] (a * k) ∧ Below w.heap.size w w') := by
 have hM := (Mem.start hX).add0 h1
 have hg1 : (gp a.natAbs).length = n1 := NZk.szg h1
 have hz1 := NZk.szg h1
 have hs1 := NZk.sgn h1
 have hc := sign_cases a
 have hx0 : a = 0 → a.natAbs * k.toNat = 0 := fun h => by rw [h]; simp
 refine calls_of hM Tryz.func109 Tryz.ntmps109 ?_
 refine CG.seq fun K_ k1 => ?_
 refine CG.lin 2 ?_
 refine GL.bA #[.int .i64 s1, .slice A1 n1 c1] fun g21 => ?_
 refine GL.aA zer31 fun g22 => ?_
 refine GL.k k1 ?_
 refine CG.seq fun K_ k1 => ?_
 refine CG.lin 5 ?_
 refine GL.v (.pointer (some ⟨g21, 1, none⟩)) ?_
 refine GL.r (.slice A1 n1 c1) (fun _ hM => op_load_one (off := 1) (by kernel_rfl) agg29 (hM.b 1 rfl) rfl) ?_
 refine GL.v (.int .i64 (n1 : Int)) ?_
 refine GL.row (fun _ => op_make rowt29 (kl := .i64) (kc := .i64) (l := (n1 : Int)) (c := (n1 : Int)) n1 n1 (by kernel_rfl) (by kernel_rfl) (by omega) (by omega) (by omega) (by omega) (by omega)) (fun _ _ _ hm => own_made_i64 hm (by omega) (by omega)) fun g23 => ?_
 refine GL.v (.slice (some ⟨g23, 0, none⟩) n1 n1) ?_
 refine GL.k k1 ?_
 refine CG.seq fun K_ k1 => ?_
 refine CG.seq fun K_ k2 => ?_
 refine CG.lin 1 ?_
 refine GL.v (.int .i64 0) ?_
 refine GL.k k2 ?_
 refine CG.block ?_
 refine CG.loop (fun m_ a_ u_ => ∃ (i : Nat) (M : List Int) (j24 : Nat → Value), a_ = ⟨#[.agg #[.int .i64 s1, .slice A1 n1 c1], .int .i64 k, .pointer (some ⟨g21, 0, none⟩), undef, .pointer (some ⟨g22, 0, none⟩), .slice (some ⟨g23, 0, none⟩) n1 n1, .int .i64 (i : Int), .pointer (some ⟨g21, 1, none⟩), .slice A1 n1 c1, .int .i64 (n1 : Int), .slice (some ⟨g23, 0, none⟩) n1 n1, (j24 11), (j24 12), (j24 13), (j24 14), (j24 15), (j24 16), (j24 17), (j24 18), (j24 19), (j24 20), (j24 21), (j24 22), (j24 23), (j24 24), (j24 25), (j24 26), undef, undef, undef, undef], []⟩ ∧ m_ = n1 - i ∧ Mem w [] X u_ [.own g23 3 n1 n1 (i64s M), .box g22 #[.int .i64 0, .slice none 0 0] 31, .box g21 #[.int .i64 s1, .slice A1 n1 c1] 31] [⟨NZk, [.int .i64 s1, .slice A1 n1 c1], a⟩] ∧ (i ≤ n1) ∧ (val 10000 M = val 10000 ((gp a.natAbs).take i) * k) ∧ (∀ j, (0 : Int) ≤ M.getD j 0 ∧ M.getD j 0 ≤ 99990000) ∧ (∀ j, i ≤ j → M.getD j 0 = 0)) (fun _ hM => ⟨_, 0, (List.replicate n1 0), (fun t => (#[.agg #[.int .i64 s1, .slice A1 n1 c1], .int .i64 k, .pointer (some ⟨g21, 0, none⟩), undef, .pointer (some ⟨g22, 0, none⟩), .slice (some ⟨g23, 0, none⟩) n1 n1, .int .i64 0, .pointer (some ⟨g21, 1, none⟩), .slice A1 n1 c1, .int .i64 (n1 : Int), .slice (some ⟨g23, 0, none⟩) n1 n1, undef, undef, undef, undef, undef, undef, undef, undef, undef, undef, undef, undef, undef, undef, undef, undef, undef, undef, undef, undef] : Array Value).getD t undef), (by kernel_rfl), rfl, (hM.clr).add (hM.f 0 rfl), (by omega), (by rw [val_replicate_zero]; simp), (fun j => by rw [zeros_get]; omega), (fun j _ => zeros_get _ j)⟩) ?_
 rintro m_ a_ u_ ⟨i, M, j24, rfl, hm24, hM, hi, hV, hB, hZ⟩
 have hMl := (hM.o 0 rfl).ilen
 refine CG.go hM ?_
 refine CG.seq fun K_ k2 => ?_
 refine CG.seq fun K_ k3 => ?_
 refine CG.lin 4 ?_
 refine GL.v (.int .i64 (i : Int)) ?_
 refine GL.v (.slice (some ⟨g23, 0, none⟩) n1 n1) ?_
 refine GL.v (.int .i64 (n1 : Int)) ?_
 refine GL.v (.bool (decide ((i : Int) < (n1 : Int)))) ?_
 refine GL.k k3 ?_
 by_cases hc25 : (i : Int) < (n1 : Int)
 · have hk25 : (decide ((i : Int) < (n1 : Int))) = true := decide_eq_true hc25
   refine CG.yes ?_ hk25 rfl
   refine CG.skip ?_
   refine QG.k k2 ?_
   refine CG.seq fun K_ k2 => ?_
   refine CG.block ?_
   refine CG.lin 11 ?_
   refine GL.v (.slice (some ⟨g23, 0, none⟩) n1 n1) ?_
   refine GL.v (.int .i64 (i : Int)) ?_
   refine GL.v (.pointer (some ⟨g21, 1, none⟩)) ?_
   refine GL.r (.slice A1 n1 c1) (fun _ hM => op_load_one (off := 1) (by kernel_rfl) agg29 (hM.b 2 rfl) rfl) ?_
   refine GL.v (.int .i64 (i : Int)) ?_
   refine GL.r (elemPtr A1 i) (fun _ hM => op_index rowt29 (c := c1) (k := .i64) (i := (i : Int)) i (by kernel_rfl) (by kernel_rfl) (by omega) (by omega) (NZk.row (hM.f 0 rfl)) _) ?_
   refine GL.r (.int .i64 ((gp (a).natAbs).getD i 0)) (fun _ hM => op_load_i64 (n := n1) (by kernel_rfl) agg3 (NZk.row (hM.f 0 rfl)) (by omega)) ?_
   refine GL.v (.int .i64 k) ?_
   have hpr := times_prod (gp_get a.natAbs i) p1
   refine GL.v (.int .i64 (((gp (a).natAbs).getD i 0) * k)) ?_ (hr := fun u => op_to (v := .int .i64 (IntKind.wrap .i64 (((gp (a).natAbs).getD i 0) * k))) (by kernel_rfl) (wrap_i64 rfl (by omega) (by omega)))
   refine GL.r (elemPtr (some ⟨g23, 0, none⟩) i) (fun _ hM => op_index rowt29 (c := n1) (k := .i64) (i := (i : Int)) i (by kernel_rfl) (by kernel_rfl) (by omega) (by omega) (hM.o 0 rfl).row _) ?_
   refine GL.el (fun _ _ _ => Mem.el0) (fun _ hM => op_set_i64 i (((gp (a).natAbs).getD i 0) * k) siz3 (hM.o 0 rfl) (by kernel_rfl) (by kernel_rfl) (by omega)) ?_
   refine GL.q ?_
   refine QG.block ?_
   refine QG.k k2 ?_
   refine CG.lin 3 ?_
   refine GL.v (.int .i64 (i : Int)) ?_
   refine GL.v (.int .i64 ((i + 1 : Nat) : Int)) ?_ (hr := fun u => op_to (v := .int .i64 (IntKind.wrap .i64 ((i : Int) + (1 : Int)))) (by kernel_rfl) (wrap_i64 (by omega) (by omega) (by omega)))
   refine GL.v (.int .i64 ((i + 1 : Nat) : Int)) ?_
   refine GL.q ?_
   refine QG.again fun _ hM => ?_
   exact ⟨n1 - (i + 1), (by omega), (i + 1), (M.set i (((gp (a).natAbs).getD i 0) * k)), (fun t => (#[.agg #[.int .i64 s1, .slice A1 n1 c1], .int .i64 k, .pointer (some ⟨g21, 0, none⟩), undef, .pointer (some ⟨g22, 0, none⟩), .slice (some ⟨g23, 0, none⟩) n1 n1, .int .i64 ((i + 1 : Nat) : Int), .pointer (some ⟨g21, 1, none⟩), .slice A1 n1 c1, .int .i64 (n1 : Int), .slice (some ⟨g23, 0, none⟩) n1 n1, .int .i64 (i : Int), .slice (some ⟨g23, 0, none⟩) n1 n1, .int .i64 (n1 : Int), .bool (decide ((i : Int) < (n1 : Int))), .int .i64 (i : Int), .int .i64 ((i + 1 : Nat) : Int), .slice (some ⟨g23, 0, none⟩) n1 n1, .int .i64 (i : Int), .pointer (some ⟨g21, 1, none⟩), .slice A1 n1 c1, .int .i64 (i : Int), elemPtr A1 i, .int .i64 ((gp (a).natAbs).getD i 0), .int .i64 k, .int .i64 (((gp (a).natAbs).getD i 0) * k), elemPtr (some ⟨g23, 0, none⟩) i, undef, undef, undef, undef] : Array Value).getD t undef), (by kernel_rfl), rfl, (hM.clr).add (hM.f 0 rfl), (by omega), (times_stepR (by omega) (by omega) (hZ i (by omega)) hV), (set_bound (by omega) hB (by omega)), (times_zero (by omega) hZ)⟩
 · have hk25 : (decide ((i : Int) < (n1 : Int))) = false := decide_eq_false hc25
   refine CG.no ?_ hk25 rfl
   refine CG.exit (QG.then_exit (QG.then_exit (QG.here ?_)))
   refine QG.k k1 ?_
   refine CG.seq fun K_ k1 => ?_
   refine CG.lin 5 ?_
   refine GL.v (.pointer (some ⟨g21, 0, none⟩)) ?_
   refine GL.r (.int .i64 s1) (fun _ hM => op_load_one (off := 0) (by kernel_rfl) agg3 (hM.b 2 rfl) rfl) ?_
   refine GL.v (.slice (some ⟨g23, 0, none⟩) n1 n1) ?_
   refine GL.mem (fun _ hM => hM.pu0 fun hO _ hX => SIk.own hO hX) ?_
   refine GL.call (fun _ hM => nmade_ok hM.avlt s1 (x := a.natAbs * k.toNat) (hM.f 0 rfl) (by rw [hV, take_valR _ _ (by omega), Int.natCast_mul]; congr 1; omega) (mem_of_get hB (by decide) (by decide)) (by first | assumption | omega) (by first | assumption | omega)) ?_
   rintro _ _ _ hM ⟨s26, A26, n26, c26, rfl, h26, hb⟩
   refine ⟨_, _, _, rfl, (hM.call hb).add h26, ?_⟩
   refine GL.sA (cs' := #[.int .i64 s26, .slice A26 n26 c26]) (fun _ _ => Mem.st0) (fun _ hM => hM.b 0 rfl) siz31 ?_
   refine GL.k k1 ?_
   refine CG.ret (QG.ret (fun _ hM => results_one rfl (res_cell rfl (loadVar_agg agg31 siz31 (hM.b 0 rfl) rfl rfl))) ?_)
   intro _ hM
   exact ⟨_, _, _, _, rfl, ((sign_nat a hs1 p1.1) ▸ (hM.out (hM.f 0 rfl))), hM.below⟩

end Go.Proofs.YtklnjhlidfclmaaGreatDoor
