/- Contracts of the program's functions. -/
import Derived.Test.YtklnjhlidfclmaaGreatDoorC3
set_option linter.unusedVariables false
set_option linter.unusedSimpArgs false
namespace Go.Proofs.YtklnjhlidfclmaaGreatDoor
open Go.RowKit Cps
attribute [local go_sem] Oper.semAt_some

set_option maxRecDepth 100000 in
set_option maxHeartbeats 400000 in
theorem NParse_ok {w : World} {X : Nat → Prop} (hX : ∀ k, X k → k < w.heap.size) (s : List UInt8) (p1 : s.length ≤ 100000000) :
    Calls Tryz.prog 26 #[.string (bs s)] w (fun e w' => ∃ sr1 Ar1 nr1 cr1 sr1_ Ar1_ nr1_ cr1_, e = .returned (.tuple #[.agg #[.int .i64 sr1, .slice Ar1 nr1 cr1, .int .i64 sr1_, .slice Ar1_ nr1_ cr1_], .int .i64 ((nparse s).2)]) ∧ NRk.R X w' [.int .i64 sr1, .slice Ar1 nr1 cr1, .int .i64 sr1_, .slice Ar1_ nr1_ cr1_] ((nparse s).1) ∧ Below w.heap.size w w') := by
 have hM := Mem.start hX
 refine calls_of hM Tryz.func26 Tryz.ntmps26 ?_
 refine CG.seq fun K_ k1 => ?_
 refine CG.lin 2 ?_
 refine GL.aA zer54 fun g21 => ?_
 refine GL.v (.int .i64 0) ?_
 refine GL.k k1 ?_
 refine CG.seq fun K_ k1 => ?_
 refine CG.seq fun K_ k2 => ?_
 refine CG.lin 1 ?_
 refine GL.v (.int .i64 0) ?_
 refine GL.k k2 ?_
 refine CG.block ?_
 refine CG.loop (fun m_ a_ u_ => ∃ (i : Nat) (j22 : Nat → Value), a_ = ⟨#[.string (bs s), undef, .pointer (some ⟨g21, 0, none⟩), (j22 3), .int .i64 (i : Int), (j22 5), (j22 6), (j22 7), (j22 8), (j22 9), (j22 10), (j22 11), (j22 12), (j22 13), (j22 14), (j22 15), (j22 16), (j22 17), (j22 18), (j22 19), (j22 20), (j22 21), (j22 22), (j22 23), (j22 24), (j22 25), (j22 26), (j22 27), (j22 28), (j22 29), (j22 30), (j22 31), (j22 32), (j22 33), (j22 34), (j22 35), (j22 36), (j22 37), (j22 38), (j22 39), (j22 40), (j22 41), (j22 42), (j22 43), (j22 44), undef, undef, undef, undef, undef, undef, undef], []⟩ ∧ m_ = s.length - i ∧ Mem w [] X u_ [.box g21 #[.int .i64 0, .slice none 0 0, .int .i64 0, .slice none 0 0] 54] [] ∧ (i ≤ s.length) ∧ ((47 : UInt8) ∉ s.take i)) (fun _ hM => ⟨_, 0, (fun t => (#[.string (bs s), undef, .pointer (some ⟨g21, 0, none⟩), .int .i64 0, .int .i64 0, undef, undef, undef, undef, undef, undef, undef, undef, undef, undef, undef, undef, undef, undef, undef, undef, undef, undef, undef, undef, undef, undef, undef, undef, undef, undef, undef, undef, undef, undef, undef, undef, undef, undef, undef, undef, undef, undef, undef, undef, undef, undef, undef, undef, undef, undef, undef] : Array Value).getD t undef), (by kernel_rfl), rfl, hM.clr, (by omega), (by simp)⟩) ?_
 rintro m_ a_ u_ ⟨i, j22, rfl, hm22, hM, hi, h47⟩
 refine CG.go hM ?_
 refine CG.seq fun K_ k2 => ?_
 refine CG.seq fun K_ k3 => ?_
 refine CG.lin 4 ?_
 refine GL.v (.int .i64 (i : Int)) ?_
 refine GL.v (.string (bs s)) ?_
 refine GL.v (.int .i64 (s.length : Int)) ?_ (hr := fun u => op_slen (L := s) (by kernel_rfl) (by kernel_rfl) (by (try simp only [List.length_append, List.length_cons, List.length_nil]); omega))
 refine GL.v (.bool (decide ((i : Int) < (s.length : Int)))) ?_
 refine GL.k k3 ?_
 by_cases hc23 : (i : Int) < (s.length : Int)
 · have hk23 : (decide ((i : Int) < (s.length : Int))) = true := decide_eq_true hc23
   refine CG.yes ?_ hk23 rfl
   refine CG.skip ?_
   refine QG.k k2 ?_
   refine CG.seq fun K_ k2 => ?_
   refine CG.block ?_
   refine CG.seq fun K_ k3 => ?_
   refine CG.lin 4 ?_
   refine GL.v (.string (bs s)) ?_
   refine GL.v (.int .i64 (i : Int)) ?_
   refine GL.v (.int .u8 (((s.getD i 0).toNat : Nat) : Int)) ?_ (hr := fun u => op_sidx (L := s) (k := .i64) (i := (i : Int)) i (by kernel_rfl) (by kernel_rfl) (by omega) (by (try simp only [List.length_append, List.length_cons, List.length_nil]); omega) (by kernel_rfl))
   refine GL.v (.bool ((((s.getD i 0).toNat : Nat) : Int) == (47 : Int))) ?_
   refine GL.k k3 ?_
   by_cases hc24 : (((s.getD i 0).toNat : Nat) : Int) = (47 : Int)
   · have hk24 : ((((s.getD i 0).toNat : Nat) : Int) == (47 : Int)) = true := beq_iff_eq.2 hc24
     refine CG.yes ?_ hk24 rfl
     refine CG.seq fun K_ k3 => ?_
     refine CG.seq fun K_ k4 => ?_
     by_cases hc25 : isDs (strip (s.take i)) = true
     · have hk25 : (isDs (strip (s.take i))) = true := hc25
       have hd25 := isDs_all (s := (strip (s.take i))) (by simpa using hc25)
       by_cases hc26 : isDs (s.drop (i + 1)) = true
       · have hk26 : (isDs (s.drop (i + 1))) = true := hc26
         have hd26 := isDs_all (s := (s.drop (i + 1))) (by simpa using hc26)
         refine CG.lin 13 ?_
         have hcut := cut_at (by omega) h47 hc24
         refine GL.v (.string (bs s)) ?_
         refine GL.v (.int .i64 (i : Int)) ?_
         refine GL.v (.string (bs (s.take i))) ?_ (hr := fun u => op_sto (L := s) (k := .i64) (i := (i : Int)) i (by kernel_rfl) (by kernel_rfl) (by omega) (by (try simp only [List.length_append, List.length_cons, List.length_nil]); omega) (by kernel_rfl))
         refine GL.call (fun _ hM => IsInt_ok hM.avlt (s.take i) (by simp only [List.length_drop, List.length_take]; omega)) ?_
         rintro _ _ _ hM ⟨rfl, hb⟩
         refine ⟨.bool true, _, _, (ret_bool hk25), hM.call hb, ?_⟩
         refine GL.v (.bool false) ?_
         refine GL.v (.bool false) ?_
         refine GL.v (.string (bs s)) ?_
         refine GL.v (.int .i64 (i : Int)) ?_
         refine GL.v (.int .i64 ((i + 1 : Nat) : Int)) ?_ (hr := fun u => op_to (v := .int .i64 (IntKind.wrap .i64 ((i : Int) + (1 : Int)))) (by kernel_rfl) (wrap_i64 (by omega) (by omega) (by omega)))
         refine GL.v (.string (bs (s.drop (i + 1)))) ?_ (hr := fun u => op_sfrom (L := s) (k := .i64) (i := ((i + 1 : Nat) : Int)) (i + 1) (by kernel_rfl) (by kernel_rfl) (by omega) (by (try simp only [List.length_append, List.length_cons, List.length_nil]); omega) (by kernel_rfl))
         refine GL.call (fun _ hM => ndigits_ok hM.avlt (s.drop (i + 1)) (by simp only [List.length_drop, List.length_take]; omega)) ?_
         rintro _ _ _ hM ⟨rfl, hb⟩
         refine ⟨.bool true, _, _, (ret_bool hk26), hM.call hb, ?_⟩
         refine GL.v (.bool false) ?_
         refine GL.v (.bool false) ?_
         refine GL.k k4 ?_
         refine CG.no ?_ rfl rfl
         refine CG.skip ?_
         refine QG.k k3 ?_
         refine CG.seq fun K_ k3 => ?_
         refine CG.lin 7 ?_
         refine GL.v (.string (bs s)) ?_
         refine GL.v (.int .i64 (i : Int)) ?_
         refine GL.v (.int .i64 ((i + 1 : Nat) : Int)) ?_ (hr := fun u => op_to (v := .int .i64 (IntKind.wrap .i64 ((i : Int) + (1 : Int)))) (by kernel_rfl) (wrap_i64 (by omega) (by omega) (by omega)))
         refine GL.v (.string (bs (s.drop (i + 1)))) ?_ (hr := fun u => op_sfrom (L := s) (k := .i64) (i := ((i + 1 : Nat) : Int)) (i + 1) (by kernel_rfl) (by kernel_rfl) (by omega) (by (try simp only [List.length_append, List.length_cons, List.length_nil]); omega) (by kernel_rfl))
         refine GL.call (fun _ hM => ZParse_pos hM.avlt (s.drop (i + 1)) (by first | assumption | omega) (by simp only [List.length_drop, List.length_take]; omega)) ?_
         rintro _ _ _ hM ⟨s29, A29, n29, c29, rfl, h29, hb⟩
         have hs29 := num_szg ((s.drop (i + 1))) (by assumption)
         have hsg29 := NZk.sgn h29
         refine ⟨_, _, _, rfl, (hM.call hb).add h29, ?_⟩
         refine GL.aA zer31 fun g30 => ?_
         refine GL.sA (cs' := #[.int .i64 s29, .slice A29 n29 c29]) (fun _ _ => Mem.st0) (fun _ hM => hM.b 0 rfl) siz31 ?_
         refine GL.k k3 ?_
         refine CG.seq fun K_ k3 => ?_
         refine CG.seq fun K_ k4 => ?_
         by_cases hc31 : num (s.drop (i + 1)) = 0
         · have hk31 : (decide (num (s.drop (i + 1)) = 0)) = true := decide_eq_true hc31
           refine CG.lin 3 ?_
           refine GL.v (.pointer (some ⟨g30, 0, none⟩)) ?_
           refine GL.r (.int .i64 s29) (fun _ hM => op_load_one (off := 0) (by kernel_rfl) agg3 (hM.b 0 rfl) rfl) ?_
           refine GL.v (.bool true) ?_ (hr := fun u => op_b (b := (s29 == (0 : Int))) (by kernel_rfl) (by rw [hsg29, of_decide_eq_true hk31]; rfl))
           refine GL.k k4 ?_
           refine CG.yes ?_ rfl rfl
           refine CG.seq fun K_ k4 => ?_
           refine CG.lin 3 ?_
           refine GL.v (.agg #[.int .i64 0, .slice none 0 0, .int .i64 0, .slice none 0 0]) ?_
           refine GL.sA (cs' := #[.int .i64 0, .slice none 0 0, .int .i64 0, .slice none 0 0]) (fun _ _ => Mem.st1) (fun _ hM => hM.b 1 rfl) siz54 ?_
           refine GL.v (.int .i64 2) ?_
           refine GL.k k4 ?_
           refine CG.ret (QG.then_ret (QG.block_ret (QG.then_ret (QG.then_ret (QG.block_ret (QG.then_ret (QG.ret (fun _ hM => results_two rfl (res_cell rfl (loadVar_agg agg54 siz54 (hM.b 1 rfl) rfl rfl)) (res_tmp rfl)) ?_)))))))
           intro _ hM
           exact ⟨_, _, _, _, _, _, _, _, (by rw [(show (2 : Int) = (nparse s).2 from (congrArg Prod.snd (nparse_zero hcut.2.2 ⟨by rw [← hcut.1]; exact hc25, by rw [← hcut.2.1]; exact hc26⟩ (by rw [← hcut.2.1]; exact hc31))).symm)] <;> rfl), ((show (0 : Rat) = (nparse s).1 from (congrArg Prod.fst (nparse_zero hcut.2.2 ⟨by rw [← hcut.1]; exact hc25, by rw [← hcut.2.1]; exact hc26⟩ (by rw [← hcut.2.1]; exact hc31))).symm) ▸ (hM.out (NRk.nil _ _ none none 0 0))), hM.below⟩
         · have hk31 : (decide (num (s.drop (i + 1)) = 0)) = false := decide_eq_false hc31
           refine CG.lin 3 ?_
           refine GL.v (.pointer (some ⟨g30, 0, none⟩)) ?_
           refine GL.r (.int .i64 s29) (fun _ hM => op_load_one (off := 0) (by kernel_rfl) agg3 (hM.b 0 rfl) rfl) ?_
           refine GL.v (.bool false) ?_ (hr := fun u => op_b (b := (s29 == (0 : Int))) (by kernel_rfl) (by rw [hsg29]; exact sgn_neq (by have := of_decide_eq_false hk31; omega)))
           refine GL.k k4 ?_
           refine CG.no ?_ rfl rfl
           refine CG.skip ?_
           refine QG.k k3 ?_
           refine CG.seq fun K_ k3 => ?_
           refine CG.draw [] [0, 1, 2, 4] (.step 0 (.step 1 (.step 2 (.step 4 (.step 3 (.step 5 (.step 6 (.step 7 .done)))))))) (fun V hV32 => ?_)
           refine GD.ev (.string (bs s)) ?_
           refine GD.ev (.int .i64 (i : Int)) ?_
           refine GD.ev (.string (bs (s.take i))) ?_ (hr := fun u => op_sto (L := s) (k := .i64) (i := (i : Int)) i (by kernel_rfl) (by kernel_rfl) (by omega) (by (try simp only [List.length_append, List.length_cons, List.length_nil]); omega) (by kernel_rfl))
           refine GD.er (.agg #[.int .i64 s29, .slice A29 n29 c29]) (fun _ hS => op_load_agg (off := 0) (by kernel_rfl) agg31 siz31 (hV32.bS 0 rfl hS) rfl rfl) ?_
           refine GD.call (fun _ hM => ZParse_ok hM.avlt (s.take i) (by first | assumption | omega) (by simp only [List.length_drop, List.length_take]; omega)) ?_
           rintro _ _ _ hM ⟨s33, A33, n33, c33, rfl, h33, hb⟩
           have hs33 := zval_szg (s.take i) (by assumption)
           refine ⟨_, _, _, rfl, hb, (hM.call hb).add h33, ?_⟩
           refine GD.call (fun _ hM => NOfZ_ok hM.avlt (hM.f 0 rfl) (hM.f 1 rfl) (by have := of_decide_eq_false hk31; omega) (by simp only [List.length_drop, List.length_take] at *; omega)) ?_
           rintro _ _ _ hM ⟨s34, A34, n34, c34, s34_, A34_, n34_, c34_, rfl, h34, hb⟩
           have hs34 := szgR_divInt2 ((zval (s.take i))) (((num (s.drop (i + 1)) : Nat) : Int))
           refine ⟨_, _, _, rfl, hb, (hM.call hb).add h34, ?_⟩
           refine GD.st (fun _ _ => Mem.st1) (fun _ hM => store_all (cs' := #[.int .i64 s34, .slice A34 n34 c34, .int .i64 s34_, .slice A34_ n34_ c34_]) siz54 (hM.b 1 rfl) (by kernel_rfl) (by kernel_rfl) rfl rfl rfl) ?_
           refine GD.v (.int .i64 0) ?_
           refine GD.k k3 ?_
           refine CG.ret (QG.block_ret (QG.then_ret (QG.then_ret (QG.block_ret (QG.then_ret (QG.ret (fun _ hM => results_two rfl (res_cell rfl (loadVar_agg agg54 siz54 (hM.b 1 rfl) rfl rfl)) (res_tmp rfl)) ?_))))))
           intro _ hM
           exact ⟨_, _, _, _, _, _, _, _, (by rw [(show (0 : Int) = (nparse s).2 from (congrArg Prod.snd (nparse_frac hcut.2.2 ⟨by rw [← hcut.1]; exact hc25, by rw [← hcut.2.1]; exact hc26⟩ (by rw [← hcut.2.1]; exact hc31))).symm)] <;> rfl), ((show (Rat.divInt (zval (s.take i)) ((num (s.drop (i + 1)) : Nat) : Int) : Rat) = (nparse s).1 from by rw [(nparse_frac hcut.2.2 ⟨by rw [← hcut.1]; exact hc25, by rw [← hcut.2.1]; exact hc26⟩ (by rw [← hcut.2.1]; exact hc31)), ← hcut.1, ← hcut.2.1]) ▸ (hM.out (hM.f 0 rfl))), hM.below⟩
       · have hk26 : (isDs (s.drop (i + 1))) = false := by simpa using hc26
         refine CG.lin 13 ?_
         have hcut := cut_at (by omega) h47 hc24
         refine GL.v (.string (bs s)) ?_
         refine GL.v (.int .i64 (i : Int)) ?_
         refine GL.v (.string (bs (s.take i))) ?_ (hr := fun u => op_sto (L := s) (k := .i64) (i := (i : Int)) i (by kernel_rfl) (by kernel_rfl) (by omega) (by (try simp only [List.length_append, List.length_cons, List.length_nil]); omega) (by kernel_rfl))
         refine GL.call (fun _ hM => IsInt_ok hM.avlt (s.take i) (by simp only [List.length_drop, List.length_take]; omega)) ?_
         rintro _ _ _ hM ⟨rfl, hb⟩
         refine ⟨.bool true, _, _, (ret_bool hk25), hM.call hb, ?_⟩
         refine GL.v (.bool false) ?_
         refine GL.v (.bool false) ?_
         refine GL.v (.string (bs s)) ?_
         refine GL.v (.int .i64 (i : Int)) ?_
         refine GL.v (.int .i64 ((i + 1 : Nat) : Int)) ?_ (hr := fun u => op_to (v := .int .i64 (IntKind.wrap .i64 ((i : Int) + (1 : Int)))) (by kernel_rfl) (wrap_i64 (by omega) (by omega) (by omega)))
         refine GL.v (.string (bs (s.drop (i + 1)))) ?_ (hr := fun u => op_sfrom (L := s) (k := .i64) (i := ((i + 1 : Nat) : Int)) (i + 1) (by kernel_rfl) (by kernel_rfl) (by omega) (by (try simp only [List.length_append, List.length_cons, List.length_nil]); omega) (by kernel_rfl))
         refine GL.call (fun _ hM => ndigits_ok hM.avlt (s.drop (i + 1)) (by simp only [List.length_drop, List.length_take]; omega)) ?_
         rintro _ _ _ hM ⟨rfl, hb⟩
         refine ⟨.bool false, _, _, (ret_bool hk26), hM.call hb, ?_⟩
         refine GL.v (.bool true) ?_
         refine GL.v (.bool true) ?_
         refine GL.k k4 ?_
         refine CG.yes ?_ rfl rfl
         refine CG.seq fun K_ k4 => ?_
         refine CG.lin 3 ?_
         refine GL.v (.agg #[.int .i64 0, .slice none 0 0, .int .i64 0, .slice none 0 0]) ?_
         refine GL.sA (cs' := #[.int .i64 0, .slice none 0 0, .int .i64 0, .slice none 0 0]) (fun _ _ => Mem.st0) (fun _ hM => hM.b 0 rfl) siz54 ?_
         refine GL.v (.int .i64 1) ?_
         refine GL.k k4 ?_
         refine CG.ret (QG.then_ret (QG.block_ret (QG.then_ret (QG.then_ret (QG.block_ret (QG.then_ret (QG.ret (fun _ hM => results_two rfl (res_cell rfl (loadVar_agg agg54 siz54 (hM.b 0 rfl) rfl rfl)) (res_tmp rfl)) ?_)))))))
         intro _ hM
         exact ⟨_, _, _, _, _, _, _, _, (by rw [(show (1 : Int) = (nparse s).2 from (congrArg Prod.snd (nparse_form hcut.2.2 (fun e => hc26 (by rw [hcut.2.1]; exact e.2)))).symm)] <;> rfl), ((show (0 : Rat) = (nparse s).1 from (congrArg Prod.fst (nparse_form hcut.2.2 (fun e => hc26 (by rw [hcut.2.1]; exact e.2)))).symm) ▸ (hM.out (NRk.nil _ _ none none 0 0))), hM.below⟩
     · have hk25 : (isDs (strip (s.take i))) = false := by simpa using hc25
       refine CG.lin 13 ?_
       have hcut := cut_at (by omega) h47 hc24
       refine GL.v (.string (bs s)) ?_
       refine GL.v (.int .i64 (i : Int)) ?_
       refine GL.v (.string (bs (s.take i))) ?_ (hr := fun u => op_sto (L := s) (k := .i64) (i := (i : Int)) i (by kernel_rfl) (by kernel_rfl) (by omega) (by (try simp only [List.length_append, List.length_cons, List.length_nil]); omega) (by kernel_rfl))
       refine GL.call (fun _ hM => IsInt_ok hM.avlt (s.take i) (by simp only [List.length_drop, List.length_take]; omega)) ?_
       rintro _ _ _ hM ⟨rfl, hb⟩
       refine ⟨.bool false, _, _, (ret_bool hk25), hM.call hb, ?_⟩
       refine GL.v (.bool true) ?_
       refine GL.v (.bool true) ?_
       refine GL.sk ?_
       refine GL.sk ?_
       refine GL.sk ?_
       refine GL.sk ?_
       refine GL.sk ?_
       refine GL.sk ?_
       refine GL.v (.bool true) ?_
       refine GL.k k4 ?_
       refine CG.yes ?_ rfl rfl
       refine CG.seq fun K_ k4 => ?_
       refine CG.lin 3 ?_
       refine GL.v (.agg #[.int .i64 0, .slice none 0 0, .int .i64 0, .slice none 0 0]) ?_
       refine GL.sA (cs' := #[.int .i64 0, .slice none 0 0, .int .i64 0, .slice none 0 0]) (fun _ _ => Mem.st0) (fun _ hM => hM.b 0 rfl) siz54 ?_
       refine GL.v (.int .i64 1) ?_
       refine GL.k k4 ?_
       refine CG.ret (QG.then_ret (QG.block_ret (QG.then_ret (QG.then_ret (QG.block_ret (QG.then_ret (QG.ret (fun _ hM => results_two rfl (res_cell rfl (loadVar_agg agg54 siz54 (hM.b 0 rfl) rfl rfl)) (res_tmp rfl)) ?_)))))))
       intro _ hM
       exact ⟨_, _, _, _, _, _, _, _, (by rw [(show (1 : Int) = (nparse s).2 from (congrArg Prod.snd (nparse_form hcut.2.2 (fun e => hc25 (by rw [hcut.1]; exact e.1)))).symm)] <;> rfl), ((show (0 : Rat) = (nparse s).1 from (congrArg Prod.fst (nparse_form hcut.2.2 (fun e => hc25 (by rw [hcut.1]; exact e.1)))).symm) ▸ (hM.out (NRk.nil _ _ none none 0 0))), hM.below⟩
   · have hk24 : ((((s.getD i 0).toNat : Nat) : Int) == (47 : Int)) = false := beq_eq_false_iff_ne.2 hc24
     refine CG.no ?_ hk24 rfl
     refine CG.skip ?_
     refine QG.block ?_
     refine QG.k k2 ?_
     refine CG.lin 3 ?_
     refine GL.v (.int .i64 (i : Int)) ?_
     refine GL.v (.int .i64 ((i + 1 : Nat) : Int)) ?_ (hr := fun u => op_to (v := .int .i64 (IntKind.wrap .i64 ((i : Int) + (1 : Int)))) (by kernel_rfl) (wrap_i64 (by omega) (by omega) (by omega)))
     refine GL.v (.int .i64 ((i + 1 : Nat) : Int)) ?_
     refine GL.q ?_
     refine QG.again fun _ hM => ?_
     exact ⟨s.length - (i + 1), (by omega), (i + 1), (fun t => (#[.string (bs s), undef, .pointer (some ⟨g21, 0, none⟩), (j22 3), .int .i64 ((i + 1 : Nat) : Int), (j22 5), .int .i64 (i : Int), .string (bs s), .int .i64 (s.length : Int), .bool (decide ((i : Int) < (s.length : Int))), .int .i64 (i : Int), .int .i64 ((i + 1 : Nat) : Int), .string (bs s), .int .i64 (i : Int), .int .u8 (((s.getD i 0).toNat : Nat) : Int), .bool ((((s.getD i 0).toNat : Nat) : Int) == (47 : Int)), (j22 16), (j22 17), (j22 18), (j22 19), (j22 20), (j22 21), (j22 22), (j22 23), (j22 24), (j22 25), (j22 26), (j22 27), (j22 28), (j22 29), (j22 30), (j22 31), (j22 32), (j22 33), (j22 34), (j22 35), (j22 36), (j22 37), (j22 38), (j22 39), (j22 40), (j22 41), (j22 42), (j22 43), (j22 44), undef, undef, undef, undef, undef, undef, undef] : Array Value).getD t undef), (by kernel_rfl), rfl, hM.clr, (by omega), (no47_step (by omega) h47 hc24)⟩
 · have hk23 : (decide ((i : Int) < (s.length : Int))) = false := decide_eq_false hc23
   refine CG.no ?_ hk23 rfl
   refine CG.exit (QG.then_exit (QG.then_exit (QG.here ?_)))
   refine QG.k k1 ?_
   refine CG.seq fun K_ k1 => ?_
   refine CG.seq fun K_ k2 => ?_
   refine CG.lin 3 ?_
   refine GL.v (.string (bs s)) ?_
   refine GL.call (fun _ hM => IsInt_ok hM.avlt s (by first | assumption | omega)) ?_
   rintro _ _ _ hM ⟨rfl, hb⟩
   refine ⟨_, _, _, rfl, hM.call hb, ?_⟩
   refine GL.v (.bool (!(isDs (strip s)))) ?_
   refine GL.k k2 ?_
   by_cases hc39 : ¬ isDs (strip s) = true
   · have hk39 : (!(isDs (strip s))) = true := by simpa using hc39
     refine CG.yes ?_ hk39 rfl
     refine CG.seq fun K_ k2 => ?_
     refine CG.lin 3 ?_
     refine GL.v (.agg #[.int .i64 0, .slice none 0 0, .int .i64 0, .slice none 0 0]) ?_
     refine GL.sA (cs' := #[.int .i64 0, .slice none 0 0, .int .i64 0, .slice none 0 0]) (fun _ _ => Mem.st0) (fun _ hM => hM.b 0 rfl) siz54 ?_
     refine GL.v (.int .i64 1) ?_
     refine GL.k k2 ?_
     refine CG.ret (QG.then_ret (QG.ret (fun _ hM => results_two rfl (res_cell rfl (loadVar_agg agg54 siz54 (hM.b 0 rfl) rfl rfl)) (res_tmp rfl)) ?_))
     intro _ hM
     exact ⟨_, _, _, _, _, _, _, _, (by rw [(show (1 : Int) = (nparse s).2 from (congrArg Prod.snd (nparse_no (no47_end (by omega) h47).1 (by simpa using hc39))).symm)] <;> rfl), ((show (0 : Rat) = (nparse s).1 from (congrArg Prod.fst (nparse_no (no47_end (by omega) h47).1 (by simpa using hc39))).symm) ▸ (hM.out (NRk.nil _ _ none none 0 0))), hM.below⟩
   · have hk39 : (!(isDs (strip s))) = false := by simpa using hc39
     have hd39 := isDs_all (s := (strip s)) (by simpa using hc39)
     refine CG.no ?_ hk39 rfl
     refine CG.skip ?_
     refine QG.k k1 ?_
     refine CG.seq fun K_ k1 => ?_
     refine CG.lin 5 ?_
     refine GL.v (.string (bs s)) ?_
     refine GL.call (fun _ hM => ZParse_ok hM.avlt s (by first | assumption | omega) (by first | assumption | omega)) ?_
     rintro _ _ _ hM ⟨s40, A40, n40, c40, rfl, h40, hb⟩
     have hs40 := zval_szg s (by assumption)
     refine ⟨_, _, _, rfl, (hM.call hb).add h40, ?_⟩
     refine GL.call (fun _ hM => NWhole_ok hM.avlt (hM.f 0 rfl)) ?_
     rintro _ _ _ hM ⟨s41, A41, n41, c41, s41_, A41_, n41_, c41_, rfl, h41, hb⟩
     have hs41 := szgR_int (zval s)
     refine ⟨_, _, _, rfl, (hM.call hb).add h41, ?_⟩
     refine GL.sA (cs' := #[.int .i64 s41, .slice A41 n41 c41, .int .i64 s41_, .slice A41_ n41_ c41_]) (fun _ _ => Mem.st0) (fun _ hM => hM.b 0 rfl) siz54 ?_
     refine GL.v (.int .i64 0) ?_
     refine GL.k k1 ?_
     refine CG.ret (QG.ret (fun _ hM => results_two rfl (res_cell rfl (loadVar_agg agg54 siz54 (hM.b 0 rfl) rfl rfl)) (res_tmp rfl)) ?_)
     intro _ hM
     exact ⟨_, _, _, _, _, _, _, _, (by rw [(show (0 : Int) = (nparse s).2 from (congrArg Prod.snd (nparse_int (no47_end (by omega) h47).1 (by simpa using hc39))).symm)] <;> rfl), ((show (((zval s) : Rat) : Rat) = (nparse s).1 from (congrArg Prod.fst (nparse_int (no47_end (by omega) h47).1 (by simpa using hc39))).symm) ▸ (hM.out (hM.f 0 rfl))), hM.below⟩

set_option maxRecDepth 100000 in
set_option maxHeartbeats 400000 in
theorem r_ok {w : World} {X : Nat → Prop} (hX : ∀ k, X k → k < w.heap.size) (s : List UInt8) (p1 : s.length ≤ 4611686018427387904) :
    Calls Tryz.prog 106 #[.string (bs s)] w (fun e w' => ∃ Ar nr cr mr Ar_ nr_ cr_, e = .returned (.agg #[.slice Ar nr cr, .bool mr, .slice Ar_ nr_ cr_]) ∧ Rk.R X w' [.slice Ar nr cr, .bool mr, .slice Ar_ nr_ cr_] ((parseR s).1) ∧ Below w.heap.size w w') := by
 have hM := Mem.start hX
 refine calls_of hM Tryz.func106 Tryz.ntmps106 ?_
 refine CG.seq fun K_ k1 => ?_
 refine CG.lin 1 ?_
 refine GL.aA zer48 fun g21 => ?_
 refine GL.k k1 ?_
 refine CG.seq fun K_ k1 => ?_
 refine CG.lin 8 ?_
 refine GL.v (.string (bs s)) ?_
 refine GL.call (fun _ hM => Parse_ok hM.avlt s (by first | assumption | omega)) ?_
 rintro _ _ _ hM ⟨A22a, n22a, c22a, m22a, A22a_, n22a_, c22a_, rfl, h22a, hb⟩
 have hs22 := parseR_sz s
 refine ⟨_, _, _, rfl, (hM.call hb).add h22a, ?_⟩
 refine GL.v (.tuple #[.agg #[.slice A22a n22a c22a, .bool m22a, .slice A22a_ n22a_ c22a_], .int .i64 ((parseR s).2)]) ?_
 refine GL.v (.agg #[.slice A22a n22a c22a, .bool m22a, .slice A22a_ n22a_ c22a_]) ?_
 refine GL.v (.int .i64 ((parseR s).2)) ?_
 refine GL.aA zer48 fun g23 => ?_
 refine GL.sA (cs' := #[.slice A22a n22a c22a, .bool m22a, .slice A22a_ n22a_ c22a_]) (fun _ _ => Mem.st0) (fun _ hM => hM.b 0 rfl) siz48 ?_
 refine GL.v (.int .i64 ((parseR s).2)) ?_
 refine GL.k k1 ?_
 refine CG.seq fun K_ k1 => ?_
 refine CG.lin 2 ?_
 refine GL.r (.agg #[.slice A22a n22a c22a, .bool m22a, .slice A22a_ n22a_ c22a_]) (fun _ hM => op_load_agg (off := 0) (by kernel_rfl) agg48 siz48 (hM.b 0 rfl) rfl rfl) ?_
 refine GL.sA (cs' := #[.slice A22a n22a c22a, .bool m22a, .slice A22a_ n22a_ c22a_]) (fun _ _ => Mem.st1) (fun _ hM => hM.b 1 rfl) siz48 ?_
 refine GL.k k1 ?_
 refine CG.ret (QG.ret (fun _ hM => results_one rfl (res_cell rfl (loadVar_agg agg48 siz48 (hM.b 1 rfl) rfl rfl))) ?_)
 intro _ hM
 exact ⟨_, _, _, _, _, _, _, rfl, (hM.out (hM.f 0 rfl)), hM.below⟩

set_option maxRecDepth 100000 in
set_option maxHeartbeats 400000 in
theorem awake_ok {w : World} {X : Nat → Prop} (hX : ∀ k, X k → k < w.heap.size) :
    Calls Tryz.prog 19 #[] w (fun e w' => e = .returned (.bool true) ∧ Below w.heap.size w w') := by
 have hM := Mem.start hX
 obtain ⟨hz1, hz2⟩ := aw_szs
 refine calls_of hM Tryz.func19 Tryz.ntmps19 ?_
 refine CG.seq fun K_ k1 => ?_
 refine CG.lin 1 ?_
 refine GL.v (.bool false) ?_
 refine GL.k k1 ?_
 refine CG.seq fun K_ k1 => ?_
 refine CG.lin 12 ?_
 refine GL.call (fun _ hM => Int_ok hM.avlt (-7) (by first | assumption | omega)) ?_
 rintro _ _ _ hM ⟨A21, n21, c21, m21, rfl, h21, hb⟩
 have hs21 := sz_i64 (-7) (by omega)
 refine ⟨_, _, _, rfl, (hM.call hb).add h21, ?_⟩
 refine GL.call (fun _ hM => Int_ok hM.avlt (2) (by first | assumption | omega)) ?_
 rintro _ _ _ hM ⟨A22, n22, c22, m22, rfl, h22, hb⟩
 have hs22 := sz_i64 (2) (by omega)
 refine ⟨_, _, _, rfl, (hM.call hb).add h22, ?_⟩
 refine GL.call (fun _ hM => Quotient_ok hM.avlt (hM.f 1 rfl) (hM.f 0 rfl) (by first | assumption | omega) (by first | assumption | omega)) ?_
 rintro _ _ _ hM ⟨A23a, n23a, c23a, m23a, A23b, n23b, c23b, m23b, rfl, h23a, h23b, hb⟩
 have hs23 := sz_quo (-7) (2)
 have ht23 := sz_rem2 (-7) (2)
 refine ⟨_, _, _, rfl, ((hM.call hb).add h23a).add h23b, ?_⟩
 refine GL.v (.tuple #[.agg #[.slice A23a n23a c23a, .bool m23a], .agg #[.slice A23b n23b c23b, .bool m23b], .int .i64 0]) ?_
 refine GL.v (.agg #[.slice A23a n23a c23a, .bool m23a]) ?_
 refine GL.v (.agg #[.slice A23b n23b c23b, .bool m23b]) ?_
 refine GL.v (.int .i64 0) ?_
 refine GL.aA zer28 fun g24 => ?_
 refine GL.aA zer28 fun g25 => ?_
 refine GL.sA (cs' := #[.slice A23a n23a c23a, .bool m23a]) (fun _ _ => Mem.st1) (fun _ hM => hM.b 1 rfl) siz28 ?_
 refine GL.sA (cs' := #[.slice A23b n23b c23b, .bool m23b]) (fun _ _ => Mem.st0) (fun _ hM => hM.b 0 rfl) siz28 ?_
 refine GL.v (.int .i64 0) ?_
 refine GL.k k1 ?_
 refine CG.seq fun K_ k1 => ?_
 refine CG.lin 7 ?_
 refine GL.call (fun _ hM => Parse_ok hM.avlt [54, 47, 52] (by simp)) ?_
 rintro _ _ _ hM ⟨A26a, n26a, c26a, m26a, A26a_, n26a_, c26a_, rfl, h26a, hb⟩
 have hs26 := parseR_sz ([54, 47, 52])
 refine ⟨_, _, _, rfl, (hM.call hb).add h26a, ?_⟩
 refine GL.v (.tuple #[.agg #[.slice A26a n26a c26a, .bool m26a, .slice A26a_ n26a_ c26a_], .int .i64 ((parseR [54, 47, 52]).2)]) ?_
 refine GL.v (.agg #[.slice A26a n26a c26a, .bool m26a, .slice A26a_ n26a_ c26a_]) ?_
 refine GL.v (.int .i64 ((parseR [54, 47, 52]).2)) ?_
 refine GL.aA zer48 fun g27 => ?_
 refine GL.sA (cs' := #[.slice A26a n26a c26a, .bool m26a, .slice A26a_ n26a_ c26a_]) (fun _ _ => Mem.st0) (fun _ hM => hM.b 0 rfl) siz48 ?_
 refine GL.v (.int .i64 ((parseR [54, 47, 52]).2)) ?_
 refine GL.k k1 ?_
 refine CG.seq fun K_ k1 => ?_
 refine CG.lin 38 ?_
 refine GL.v (.int .i64 0) ?_
 refine GL.v (.bool true) ?_
 refine GL.v (.bool true) ?_
 refine GL.v (.int .i64 ((parseR [54, 47, 52]).2)) ?_
 refine GL.v (.bool true) ?_ (hr := fun u => op_b (b := (((parseR [54, 47, 52]).2) == (0 : Int))) (by kernel_rfl) (beq_iff_eq.2 aw3e))
 refine GL.v (.bool true) ?_
 refine GL.v (.bool true) ?_
 refine GL.r (.agg #[.slice A23a n23a c23a, .bool m23a]) (fun _ hM => op_load_agg (off := 0) (by kernel_rfl) agg28 siz28 (hM.b 2 rfl) rfl rfl) ?_
 refine GL.call (fun _ hM => ZText_ok hM.avlt (hM.f 2 rfl) (by first | assumption | omega)) ?_
 rintro _ _ _ hM ⟨rfl, hb⟩
 have hl28 := decZ_len (((-7) / 2))
 refine ⟨_, _, _, rfl, hM.call hb, ?_⟩
 refine GL.v (.bool true) ?_ (hr := fun u => op_b (b := (decide ((decZ ((-7) / 2)) = [45, 52]))) ((fun u => op_seq (L := decZ ((-7) / 2)) (K := [45, 52]) (by kernel_rfl) (by kernel_rfl)) u) (decide_eq_true (by first | exact aw1 | exact aw2 | exact aw3 | exact aw4 | exact aw5)))
 refine GL.v (.bool true) ?_
 refine GL.v (.bool true) ?_
 refine GL.r (.agg #[.slice A23b n23b c23b, .bool m23b]) (fun _ hM => op_load_agg (off := 0) (by kernel_rfl) agg28 siz28 (hM.b 1 rfl) rfl rfl) ?_
 refine GL.call (fun _ hM => ZText_ok hM.avlt (hM.f 1 rfl) (by first | assumption | omega)) ?_
 rintro _ _ _ hM ⟨rfl, hb⟩
 have hl29 := decZ_len (((-7) % 2))
 refine ⟨_, _, _, rfl, hM.call hb, ?_⟩
 refine GL.v (.bool true) ?_ (hr := fun u => op_b (b := (decide ((decZ ((-7) % 2)) = [49]))) ((fun u => op_seq (L := decZ ((-7) % 2)) (K := [49]) (by kernel_rfl) (by kernel_rfl)) u) (decide_eq_true (by first | exact aw1 | exact aw2 | exact aw3 | exact aw4 | exact aw5)))
 refine GL.v (.bool true) ?_
 refine GL.v (.bool true) ?_
 refine GL.r (.agg #[.slice A26a n26a c26a, .bool m26a, .slice A26a_ n26a_ c26a_]) (fun _ hM => op_load_agg (off := 0) (by kernel_rfl) agg48 siz48 (hM.b 0 rfl) rfl rfl) ?_
 refine GL.call (fun _ hM => RText_ok hM.avlt (hM.f 0 rfl) (by first | assumption | omega | (dsimp only; omega))) ?_
 rintro _ _ _ hM ⟨rfl, hb⟩
 have hl30 := decR_len (((parseR [54, 47, 52]).1))
 refine ⟨_, _, _, rfl, hM.call hb, ?_⟩
 refine GL.v (.bool true) ?_ (hr := fun u => op_b (b := (decide ((decR ((parseR [54, 47, 52]).1)) = [51, 47, 50]))) ((fun u => op_seq (L := decR ((parseR [54, 47, 52]).1)) (K := [51, 47, 50]) (by kernel_rfl) (by kernel_rfl)) u) (decide_eq_true (by first | exact aw1 | exact aw2 | exact aw3 | exact aw4 | exact aw5)))
 refine GL.v (.bool true) ?_
 refine GL.v (.bool true) ?_
 refine GL.call (fun _ hM => Int_ok hM.avlt (-12) (by first | assumption | omega)) ?_
 rintro _ _ _ hM ⟨A31, n31, c31, m31, rfl, h31, hb⟩
 have hs31 := sz_i64 (-12) (by omega)
 refine ⟨_, _, _, rfl, (hM.call hb).add h31, ?_⟩
 refine GL.call (fun _ hM => Int_ok hM.avlt (18) (by first | assumption | omega)) ?_
 rintro _ _ _ hM ⟨A32, n32, c32, m32, rfl, h32, hb⟩
 have hs32 := sz_i64 (18) (by omega)
 refine ⟨_, _, _, rfl, (hM.call hb).add h32, ?_⟩
 refine GL.call (fun _ hM => Gcd_ok hM.avlt (hM.f 1 rfl) (hM.f 0 rfl) (by first | assumption | omega)) ?_
 rintro _ _ _ hM ⟨A33, n33, c33, m33, rfl, h33, hb⟩
 have hs33 := sz_gcd2 (-12) (18)
 refine ⟨_, _, _, rfl, (hM.call hb).add h33, ?_⟩
 refine GL.call (fun _ hM => ZText_ok hM.avlt (hM.f 0 rfl) (by first | assumption | omega)) ?_
 rintro _ _ _ hM ⟨rfl, hb⟩
 have hl34 := decZ_len ((Int.gcd (-12) 18 : Int))
 refine ⟨_, _, _, rfl, hM.call hb, ?_⟩
 refine GL.v (.bool true) ?_ (hr := fun u => op_b (b := (decide ((decZ (Int.gcd (-12) 18 : Int)) = [54]))) ((fun u => op_seq (L := decZ (Int.gcd (-12) 18 : Int)) (K := [54]) (by kernel_rfl) (by kernel_rfl)) u) (decide_eq_true (by first | exact aw1 | exact aw2 | exact aw3 | exact aw4 | exact aw5)))
 refine GL.v (.bool true) ?_
 refine GL.v (.bool true) ?_
 refine GL.call (fun _ hM => r_ok hM.avlt [49, 47, 50] (by simp)) ?_
 rintro _ _ _ hM ⟨A35, n35, c35, m35, A35_, n35_, c35_, rfl, h35, hb⟩
 have hs35 := parseR_sz ([49, 47, 50])
 refine ⟨_, _, _, rfl, (hM.call hb).add h35, ?_⟩
 refine GL.call (fun _ hM => r_ok hM.avlt [49, 47, 51] (by simp)) ?_
 rintro _ _ _ hM ⟨A36, n36, c36, m36, A36_, n36_, c36_, rfl, h36, hb⟩
 have hs36 := parseR_sz ([49, 47, 51])
 refine ⟨_, _, _, rfl, (hM.call hb).add h36, ?_⟩
 refine GL.call (fun _ hM => r_ok hM.avlt [49, 47, 54] (by simp)) ?_
 rintro _ _ _ hM ⟨A37, n37, c37, m37, A37_, n37_, c37_, rfl, h37, hb⟩
 have hs37 := parseR_sz ([49, 47, 54])
 refine ⟨_, _, _, rfl, (hM.call hb).add h37, ?_⟩
 refine GL.lst (K := Rk) (T := 48) (k := 3) (xs := [(parseR [49, 47, 50]).1, (parseR [49, 47, 51]).1, (parseR [49, 47, 54]).1]) (fun u => op_build3 rowk97 rfl (by kernel_rfl) (by kernel_rfl) (by kernel_rfl) u) (fun _ _ _ hM hm hg => LKd.built3 hm hg (by decide) rfl rfl rfl (hM.f 2 rfl) (hM.f 1 rfl) (hM.f 0 rfl)) fun g38 => ?_
 refine GL.call (fun _ hM => Sum_ok hM.avlt (hM.f 0 rfl) aw_sum) ?_
 rintro _ _ _ hM ⟨A39, n39, c39, m39, A39_, n39_, c39_, rfl, h39, hb⟩
 refine ⟨_, _, _, rfl, (hM.call hb).add h39, ?_⟩
 refine GL.call (fun _ hM => RText_ok hM.avlt (hM.f 0 rfl) (by first | assumption | omega | (dsimp only; omega))) ?_
 rintro _ _ _ hM ⟨rfl, hb⟩
 have hl40 := decR_len ((foldR (· + ·) ([(parseR [49, 47, 50]).1, (parseR [49, 47, 51]).1, (parseR [49, 47, 54]).1])))
 refine ⟨_, _, _, rfl, hM.call hb, ?_⟩
 refine GL.v (.bool true) ?_ (hr := fun u => op_b (b := (decide ((decR (foldR (· + ·) ([(parseR [49, 47, 50]).1, (parseR [49, 47, 51]).1, (parseR [49, 47, 54]).1]))) = [49]))) ((fun u => op_seq (L := decR (foldR (· + ·) ([(parseR [49, 47, 50]).1, (parseR [49, 47, 51]).1, (parseR [49, 47, 54]).1]))) (K := [49]) (by kernel_rfl) (by kernel_rfl)) u) (decide_eq_true (by first | exact aw1 | exact aw2 | exact aw3 | exact aw4 | exact aw5)))
 refine GL.v (.bool true) ?_
 refine GL.v (.bool true) ?_
 refine GL.k k1 ?_
 refine CG.ret (QG.ret (fun _ hM => results_one rfl (res_tmp rfl)) ?_)
 intro _ hM
 exact ⟨rfl, hM.below⟩

set_option maxRecDepth 100000 in
set_option maxHeartbeats 400000 in
theorem SameZ_ok {w : World} {X : Nat → Prop} {A1 : Option Addr} {n1 : Nat} {c1 : Nat} {m1 : Bool} {a : Int} {s2 : Int} {A2 : Option Addr} {n2 : Nat} {c2 : Nat} {b : Int} (hX : ∀ k, X k → k < w.heap.size) (h1 : Zk.R X w [.slice A1 n1 c1, .bool m1] a) (h2 : NZk.R X w [.int .i64 s2, .slice A2 n2 c2] b) (p1 : sz a ≤ 1099511627000) (p2 : szg b ≤ 4294967296) :
    Calls Tryz.prog 14 #[.agg #[.slice A1 n1 c1, .bool m1], .agg #[.int .i64 s2, .slice A2 n2 c2]] w (fun e w' => e = .returned (.bool (decide (a = b))) ∧ Below w.heap.size w w') := by
 have hM := ((Mem.start hX).add0 h1).add0 h2
 have e1 : sz a = szn (a).natAbs := rfl
 refine calls_of hM Tryz.func14 Tryz.ntmps14 ?_
 refine CG.seq fun K_ k1 => ?_
 refine CG.lin 3 ?_
 refine GL.bA #[.slice A1 n1 c1, .bool m1] fun g21 => ?_
 refine GL.bA #[.int .i64 s2, .slice A2 n2 c2] fun g22 => ?_
 refine GL.v (.bool false) ?_
 refine GL.k k1 ?_
 refine CG.seq fun K_ k1 => ?_
 refine CG.draw [] [0, 2, 4] (.step 0 (.step 2 (.step 1 (.step 3 (.step 4 (.step 5 .done)))))) (fun V hV23 => ?_)
 refine GD.er (.agg #[.slice A1 n1 c1, .bool m1]) (fun _ hS => op_load_agg (off := 0) (by kernel_rfl) agg28 siz28 (hV23.bS 1 rfl hS) rfl rfl) ?_
 refine GD.er (.agg #[.int .i64 s2, .slice A2 n2 c2]) (fun _ hS => op_load_agg (off := 0) (by kernel_rfl) agg31 siz31 (hV23.bS 0 rfl hS) rfl rfl) ?_
 refine GD.call (fun _ hM => ZText_ok hM.avlt (hM.f 1 rfl) (by first | assumption | omega)) ?_
 rintro _ _ _ hM ⟨rfl, hb⟩
 have hl24 := decZ_len a
 refine ⟨_, _, _, rfl, hb, hM.call hb, ?_⟩
 refine GD.call (fun _ hM => NZText_ok hM.avlt (hM.f 0 rfl) (by first | assumption | omega)) ?_
 rintro _ _ _ hM ⟨rfl, hb⟩
 have hl25 := decZ_lenN b
 refine ⟨_, _, _, rfl, hb, hM.call hb, ?_⟩
 refine GD.ev (.bool (decide ((decZ a) = (decZ b)))) ?_ (hr := fun u => op_seq (L := decZ a) (K := decZ b) (by kernel_rfl) (by kernel_rfl))
 refine GD.v (.bool (decide ((decZ a) = (decZ b)))) ?_
 refine GD.k k1 ?_
 refine CG.ret (QG.ret (fun _ hM => results_one rfl (res_tmp rfl)) ?_)
 intro _ hM
 exact ⟨ret_bool (decZ_inj a b), hM.below⟩

set_option maxRecDepth 100000 in
set_option maxHeartbeats 400000 in
theorem reads_ok {w : World} {X : Nat → Prop} (hX : ∀ k, X k → k < w.heap.size) (s : List UInt8) (p1 : s.length ≤ 9223372036854775807) :
    Calls Tryz.prog 4 #[.string (bs s)] w (fun e w' => e = .returned (.bool true) ∧ Below w.heap.size w w') := by
 have hM := Mem.start hX
 refine calls_of hM Tryz.func4 Tryz.ntmps4 ?_
 refine CG.seq fun K_ k1 => ?_
 refine CG.lin 1 ?_
 refine GL.v (.bool false) ?_
 refine GL.k k1 ?_
 refine CG.seq fun K_ k1 => ?_
 refine CG.seq fun K_ k2 => ?_
 refine CG.lin 3 ?_
 refine GL.v (.string (bs s)) ?_
 refine GL.v (.int .i64 (s.length : Int)) ?_ (hr := fun u => op_slen (L := s) (by kernel_rfl) (by kernel_rfl) (by (try simp only [List.length_append, List.length_cons, List.length_nil]); omega))
 refine GL.v (.bool (decide ((s.length : Int) > (2000 : Int)))) ?_
 refine GL.k k2 ?_
 by_cases hc21 : (s.length : Int) > (2000 : Int)
 · have hk21 : (decide ((s.length : Int) > (2000 : Int))) = true := decide_eq_true hc21
   refine CG.yes ?_ hk21 rfl
   refine CG.seq fun K_ k2 => ?_
   refine CG.lin 2 ?_
   refine GL.call (fun _ hM => awake_ok hM.avlt) ?_
   rintro _ _ _ hM ⟨rfl, hb⟩
   refine ⟨_, _, _, rfl, hM.call hb, ?_⟩
   refine GL.v (.bool true) ?_
   refine GL.k k2 ?_
   refine CG.ret (QG.then_ret (QG.ret (fun _ hM => results_one rfl (res_tmp rfl)) ?_))
   intro _ hM
   exact ⟨rfl, hM.below⟩
 · have hk21 : (decide ((s.length : Int) > (2000 : Int))) = false := decide_eq_false hc21
   refine CG.no ?_ hk21 rfl
   refine CG.skip ?_
   refine QG.k k1 ?_
   refine CG.seq fun K_ k1 => ?_
   refine CG.lin 8 ?_
   refine GL.v (.string (bs s)) ?_
   refine GL.call (fun _ hM => ParseZ_ok hM.avlt s (by first | assumption | omega)) ?_
   rintro _ _ _ hM ⟨A23a, n23a, c23a, m23a, rfl, h23a, hb⟩
   have hz23 := parseZ_sz s
   refine ⟨_, _, _, rfl, (hM.call hb).add h23a, ?_⟩
   refine GL.v (.tuple #[.agg #[.slice A23a n23a c23a, .bool m23a], .int .i64 ((parseZ s).2)]) ?_
   refine GL.v (.agg #[.slice A23a n23a c23a, .bool m23a]) ?_
   refine GL.v (.int .i64 ((parseZ s).2)) ?_
   refine GL.aA zer28 fun g24 => ?_
   refine GL.sA (cs' := #[.slice A23a n23a c23a, .bool m23a]) (fun _ _ => Mem.st0) (fun _ hM => hM.b 0 rfl) siz28 ?_
   refine GL.v (.int .i64 ((parseZ s).2)) ?_
   refine GL.k k1 ?_
   refine CG.seq fun K_ k1 => ?_
   refine CG.lin 8 ?_
   refine GL.v (.string (bs s)) ?_
   refine GL.call (fun _ hM => Parse_ok hM.avlt s (by first | assumption | omega)) ?_
   rintro _ _ _ hM ⟨A25a, n25a, c25a, m25a, A25a_, n25a_, c25a_, rfl, h25a, hb⟩
   have hs25 := parseR_sz s
   refine ⟨_, _, _, rfl, (hM.call hb).add h25a, ?_⟩
   refine GL.v (.tuple #[.agg #[.slice A25a n25a c25a, .bool m25a, .slice A25a_ n25a_ c25a_], .int .i64 ((parseR s).2)]) ?_
   refine GL.v (.agg #[.slice A25a n25a c25a, .bool m25a, .slice A25a_ n25a_ c25a_]) ?_
   refine GL.v (.int .i64 ((parseR s).2)) ?_
   refine GL.aA zer48 fun g26 => ?_
   refine GL.sA (cs' := #[.slice A25a n25a c25a, .bool m25a, .slice A25a_ n25a_ c25a_]) (fun _ _ => Mem.st0) (fun _ hM => hM.b 0 rfl) siz48 ?_
   refine GL.v (.int .i64 ((parseR s).2)) ?_
   refine GL.k k1 ?_
   refine CG.seq fun K_ k1 => ?_
   refine CG.seq fun K_ k2 => ?_
   refine CG.lin 3 ?_
   refine GL.v (.string (bs s)) ?_
   refine GL.v (.int .i64 (s.length : Int)) ?_ (hr := fun u => op_slen (L := s) (by kernel_rfl) (by kernel_rfl) (by (try simp only [List.length_append, List.length_cons, List.length_nil]); omega))
   refine GL.v (.bool (decide ((s.length : Int) > (1000 : Int)))) ?_
   refine GL.k k2 ?_
   by_cases hc27 : (s.length : Int) > (1000 : Int)
   · have hk27 : (decide ((s.length : Int) > (1000 : Int))) = true := decide_eq_true hc27
     refine CG.yes ?_ hk27 rfl
     refine CG.seq fun K_ k2 => ?_
     refine CG.lin 20 ?_
     refine GL.v (.int .i64 ((parseZ s).2)) ?_
     refine GL.v (.bool true) ?_ (hr := fun u => op_b (b := (((parseZ s).2) == (5 : Int))) (by kernel_rfl) (by rw [parseZ_long (by omega)]; rfl))
     refine GL.v (.bool true) ?_
     refine GL.v (.int .i64 ((parseR s).2)) ?_
     refine GL.v (.bool true) ?_ (hr := fun u => op_b (b := (((parseR s).2) == (5 : Int))) (by kernel_rfl) (by rw [parseR_long (by omega)]; rfl))
     refine GL.v (.bool true) ?_
     refine GL.v (.bool true) ?_
     refine GL.r (.agg #[.slice A23a n23a c23a, .bool m23a]) (fun _ hM => op_load_agg (off := 0) (by kernel_rfl) agg28 siz28 (hM.b 1 rfl) rfl rfl) ?_
     refine GL.call (fun _ hM => Sign_ok hM.avlt (hM.f 1 rfl)) ?_
     rintro _ _ _ hM ⟨rfl, hb⟩
     refine ⟨_, _, _, rfl, hM.call hb, ?_⟩
     refine GL.v (.bool true) ?_ (hr := fun u => op_b (b := ((((parseZ s).1).sign) == (0 : Int))) (by kernel_rfl) (by rw [parseZ_long (by omega)]; rfl))
     refine GL.v (.bool true) ?_
     refine GL.v (.bool true) ?_
     refine GL.r (.agg #[.slice A25a n25a c25a, .bool m25a, .slice A25a_ n25a_ c25a_]) (fun _ hM => op_load_agg (off := 0) (by kernel_rfl) agg48 siz48 (hM.b 0 rfl) rfl rfl) ?_
     refine GL.call (fun _ hM => RSign_ok hM.avlt (hM.f 0 rfl)) ?_
     rintro _ _ _ hM ⟨rfl, hb⟩
     refine ⟨_, _, _, rfl, hM.call hb, ?_⟩
     refine GL.v (.bool true) ?_ (hr := fun u => op_b (b := ((((parseR s).1).num.sign) == (0 : Int))) (by kernel_rfl) (by rw [parseR_long (by omega)]; rfl))
     refine GL.v (.bool true) ?_
     refine GL.v (.bool true) ?_
     refine GL.call (fun _ hM => awake_ok hM.avlt) ?_
     rintro _ _ _ hM ⟨rfl, hb⟩
     refine ⟨_, _, _, rfl, hM.call hb, ?_⟩
     refine GL.v (.bool true) ?_
     refine GL.v (.bool true) ?_
     refine GL.k k2 ?_
     refine CG.ret (QG.then_ret (QG.ret (fun _ hM => results_one rfl (res_tmp rfl)) ?_))
     intro _ hM
     exact ⟨rfl, hM.below⟩
   · have hk27 : (decide ((s.length : Int) > (1000 : Int))) = false := decide_eq_false hc27
     refine CG.no ?_ hk27 rfl
     refine CG.skip ?_
     refine QG.k k1 ?_
     refine CG.seq fun K_ k1 => ?_
     refine CG.seq fun K_ k2 => ?_
     by_cases hc31 : isDs (strip s) = true
     · have hk31 : (isDs (strip s)) = true := hc31
       have hda := isDs_all hc31
       refine CG.draw [] [0, 2, 3, 4, 5, 6, 7, 8, 9, 10, 11, 12, 14, 15, 16, 17, 18, 19, 20, 21, 22, 23, 26, 27, 28] (.step 0 (.step 2 (.step 3 (.step 1 (.step 4 (.step 5 (.step 6 (.step 7 (.step 8 (.step 9 (.step 10 (.step 11 (.step 12 (.step 13 (.step 14 (.step 15 (.step 16 (.step 17 (.step 18 (.step 19 (.step 20 (.step 21 (.step 22 (.step 23 (.step 24 (.step 25 (.step 26 (.step 27 (.step 28 .done))))))))))))))))))))))))))))) (fun V hV32 => ?_)
       refine GD.ev (.string (bs s)) ?_
       refine GD.ev (.int .i64 ((parseZ s).2)) ?_
       refine GD.ev (.bool true) ?_ (hr := fun u => op_b (b := (((parseZ s).2) == (0 : Int))) (by kernel_rfl) (by rw [parseZ_ok' (by omega) hk31]; rfl))
       refine GD.call (fun _ hM => IsInt_ok hM.avlt s (by first | assumption | omega)) ?_
       rintro _ _ _ hM ⟨rfl, hb⟩
       refine ⟨.bool true, _, _, (ret_bool hk31), hb, hM.call hb, ?_⟩
       refine GD.ev (.bool false) ?_ (hr := fun u => op_b (b := (true != true)) ((fun _ => op_neq_bool (p := true) (q := true) (by kernel_rfl) (by kernel_rfl) (by kernel_rfl)) u) rfl)
       refine GD.ev (.bool false) ?_
       refine GD.ev (.int .i64 ((parseZ s).2)) ?_
       refine GD.ev (.bool false) ?_ (hr := fun u => op_b (b := (((parseZ s).2) != (0 : Int))) (by kernel_rfl) (by rw [parseZ_ok' (by omega) hk31]; rfl))
       refine GD.ev (.bool false) ?_
       refine GD.eo ?_
       refine GD.eo ?_
       refine GD.eo ?_
       refine GD.eo ?_
       refine GD.sk ?_
       refine GD.eo ?_
       refine GD.eo ?_
       refine GD.ev (.bool false) ?_
       refine GD.ev (.bool false) ?_
       refine GD.ev (.bool false) ?_
       refine GD.ev (.int .i64 ((parseZ s).2)) ?_
       refine GD.ev (.bool true) ?_ (hr := fun u => op_b (b := (((parseZ s).2) == (0 : Int))) (by kernel_rfl) (by rw [parseZ_ok' (by omega) hk31]; rfl))
       refine GD.ev (.bool true) ?_
       refine GD.er (.agg #[.slice A23a n23a c23a, .bool m23a]) (fun _ hS => op_load_agg (off := 0) (by kernel_rfl) agg28 siz28 (hV32.bS 1 rfl hS) rfl rfl) ?_
       refine GD.ev (.string (bs s)) ?_
       refine GD.call (fun _ hM => ZParse_ok hM.avlt s (isDs_all hk31) (by first | assumption | omega)) ?_
       rintro _ _ _ hM ⟨s34, A34, n34, c34, rfl, h34, hb⟩
       have hs34 := zval_szg s (by assumption)
       refine ⟨_, _, _, rfl, hb, (hM.call hb).add h34, ?_⟩
       refine GD.call (fun _ hM => SameZ_ok hM.avlt (hM.f 2 rfl) (hM.f 0 rfl) (by first | assumption | omega | (dsimp only; omega)) (by first | assumption | omega)) ?_
       rintro _ _ _ hM ⟨rfl, hb⟩
       refine ⟨.bool true, _, _, (ret_bool (decide_eq_true (by rw [parseZ_ok' (by omega) hk31]))), hb, hM.call hb, ?_⟩
       refine GD.ev (.bool false) ?_
       refine GD.ev (.bool false) ?_
       refine GD.ev (.bool false) ?_
       refine GD.k k2 ?_
       refine CG.no ?_ rfl rfl
       refine CG.skip ?_
       refine QG.k k1 ?_
       refine CG.seq fun K_ k1 => ?_
       refine CG.lin 8 ?_
       refine GL.v (.string (bs s)) ?_
       refine GL.call (fun _ hM => NParse_ok hM.avlt s (by first | assumption | omega)) ?_
       rintro _ _ _ hM ⟨s36a, A36a, n36a, c36a, s36a_, A36a_, n36a_, c36a_, rfl, h36a, hb⟩
       have hs36 := nparse_sz s
       refine ⟨_, _, _, rfl, (hM.call hb).add h36a, ?_⟩
       refine GL.v (.tuple #[.agg #[.int .i64 s36a, .slice A36a n36a c36a, .int .i64 s36a_, .slice A36a_ n36a_ c36a_], .int .i64 ((nparse s).2)]) ?_
       refine GL.v (.agg #[.int .i64 s36a, .slice A36a n36a c36a, .int .i64 s36a_, .slice A36a_ n36a_ c36a_]) ?_
       refine GL.v (.int .i64 ((nparse s).2)) ?_
       refine GL.aA zer54 fun g37 => ?_
       refine GL.sA (cs' := #[.int .i64 s36a, .slice A36a n36a c36a, .int .i64 s36a_, .slice A36a_ n36a_ c36a_]) (fun _ _ => Mem.st0) (fun _ hM => hM.b 0 rfl) siz54 ?_
       refine GL.v (.int .i64 ((nparse s).2)) ?_
       refine GL.k k1 ?_
       refine CG.seq fun K_ k1 => ?_
       refine CG.seq fun K_ k2 => ?_
       refine CG.lin 2 ?_
       refine GL.v (.int .i64 ((nparse s).2)) ?_
       refine GL.v (.bool (decide (((nparse s).2) > (0 : Int)))) ?_
       refine GL.k k2 ?_
       by_cases hc38 : ((nparse s).2) > (0 : Int)
       · have hk38 : (decide (((nparse s).2) > (0 : Int))) = true := decide_eq_true hc38
         refine CG.yes ?_ hk38 rfl
         refine CG.seq fun K_ k2 => ?_
         refine CG.lin 15 ?_
         refine GL.v (.int .i64 ((parseR s).2)) ?_
         refine GL.row (fun _ => op_buildN rowt57 3 #[(0, .int .i64 0), (1, .int .i64 4), (2, .int .i64 9)] #[.int .i64 0, .int .i64 4, .int .i64 9] (by kernel_rfl) (by decide) (by kernel_rfl)) (fun _ _ _ hm => own_built (vs := i64s ([0, 4, 9] : List Int)) hm rfl rfl (by decide)) fun g39 => ?_
         refine GL.v (.int .i64 ((nparse s).2)) ?_
         have hp2 := (parse_both (s := s) (by omega)).2.2.2
         refine GL.r (elemPtr (some ⟨g39, 0, none⟩) ((((nparse s).2)).toNat)) (fun _ hM => op_index rowt57 (c := 3) (k := .i64) (i := ((nparse s).2)) ((((nparse s).2)).toNat) (by kernel_rfl) (by kernel_rfl) (by omega) (by omega) (hM.o 0 rfl).row _) ?_
         refine GL.r (.int .i64 (([0, 4, 9] : List Int).getD ((((nparse s).2)).toNat) 0)) (fun _ hM => op_load_i64 (n := 3) (by kernel_rfl) agg37 (hM.o 0 rfl).row (by omega)) ?_
         refine GL.v (.bool true) ?_ (hr := fun u => op_b (b := (((parseR s).2) == (([0, 4, 9] : List Int).getD ((((nparse s).2)).toNat) 0))) (by kernel_rfl) (beq_iff_eq.2 (parse_both (s := s) (by omega)).2.1))
         refine GL.v (.bool true) ?_
         refine GL.r (.agg #[.slice A25a n25a c25a, .bool m25a, .slice A25a_ n25a_ c25a_]) (fun _ hM => op_load_agg (off := 0) (by kernel_rfl) agg48 siz48 (hM.b 2 rfl) rfl rfl) ?_
         refine GL.call (fun _ hM => RSign_ok hM.avlt (hM.f 2 rfl)) ?_
         rintro _ _ _ hM ⟨rfl, hb⟩
         refine ⟨_, _, _, rfl, hM.call hb, ?_⟩
         refine GL.v (.bool true) ?_ (hr := fun u => op_b (b := ((((parseR s).1).num.sign) == (0 : Int))) (by kernel_rfl) (by rw [(parse_both (s := s) (by omega)).1, (parse_both (s := s) (by omega)).2.2.1 hc38]; rfl))
         refine GL.v (.bool true) ?_
         refine GL.v (.bool true) ?_
         refine GL.call (fun _ hM => awake_ok hM.avlt) ?_
         rintro _ _ _ hM ⟨rfl, hb⟩
         refine ⟨_, _, _, rfl, hM.call hb, ?_⟩
         refine GL.v (.bool true) ?_
         refine GL.v (.bool true) ?_
         refine GL.k k2 ?_
         refine CG.ret (QG.then_ret (QG.ret (fun _ hM => results_one rfl (res_tmp rfl)) ?_))
         intro _ hM
         exact ⟨rfl, hM.below⟩
       · have hk38 : (decide (((nparse s).2) > (0 : Int))) = false := decide_eq_false hc38
         refine CG.no ?_ hk38 rfl
         refine CG.skip ?_
         refine QG.k k1 ?_
         refine CG.seq fun K_ k1 => ?_
         refine CG.lin 11 ?_
         refine GL.v (.int .i64 ((parseR s).2)) ?_
         refine GL.v (.bool true) ?_ (hr := fun u => op_b (b := (((parseR s).2) == (0 : Int))) (by kernel_rfl) (by rw [(parse_both (s := s) (by omega)).2.1, show (nparse s).2 = 0 by have := (parse_both (s := s) (by omega)).2.2.2; omega]; rfl))
         refine GL.v (.bool true) ?_
         refine GL.r (.agg #[.slice A25a n25a c25a, .bool m25a, .slice A25a_ n25a_ c25a_]) (fun _ hM => op_load_agg (off := 0) (by kernel_rfl) agg48 siz48 (hM.b 1 rfl) rfl rfl) ?_
         refine GL.r (.agg #[.int .i64 s36a, .slice A36a n36a c36a, .int .i64 s36a_, .slice A36a_ n36a_ c36a_]) (fun _ hM => op_load_agg (off := 0) (by kernel_rfl) agg54 siz54 (hM.b 0 rfl) rfl rfl) ?_
         refine GL.call (fun _ hM => Same_ok hM.avlt (hM.f 2 rfl) (hM.f 0 rfl) (by first | assumption | omega | (dsimp only; omega)) (by first | assumption | omega | (dsimp only; omega))) ?_
         rintro _ _ _ hM ⟨rfl, hb⟩
         refine ⟨.bool true, _, _, (ret_bool (decide_eq_true (parse_both (s := s) (by omega)).1)), hM.call hb, ?_⟩
         refine GL.v (.bool true) ?_
         refine GL.v (.bool true) ?_
         refine GL.call (fun _ hM => awake_ok hM.avlt) ?_
         rintro _ _ _ hM ⟨rfl, hb⟩
         refine ⟨_, _, _, rfl, hM.call hb, ?_⟩
         refine GL.v (.bool true) ?_
         refine GL.v (.bool true) ?_
         refine GL.k k1 ?_
         refine CG.ret (QG.ret (fun _ hM => results_one rfl (res_tmp rfl)) ?_)
         intro _ hM
         exact ⟨rfl, hM.below⟩
     · have hk31 : (isDs (strip s)) = false := by simpa using hc31
       refine CG.draw [] [0, 2, 3, 4, 5, 6, 7, 8, 9, 10, 11, 12, 14, 15, 16, 17, 18, 19, 20, 21, 22, 23, 26, 27, 28] (.step 0 (.step 2 (.step 3 (.step 1 (.step 4 (.step 5 (.step 6 (.step 7 (.step 8 (.step 9 (.step 10 (.step 11 (.step 12 (.step 13 (.step 14 (.step 15 (.step 16 (.step 17 (.step 18 (.step 19 (.step 20 (.step 21 (.step 22 (.step 23 (.step 24 (.step 25 (.step 26 (.step 27 (.step 28 .done))))))))))))))))))))))))))))) (fun V hV44 => ?_)
       refine GD.ev (.string (bs s)) ?_
       refine GD.ev (.int .i64 ((parseZ s).2)) ?_
       refine GD.ev (.bool false) ?_ (hr := fun u => op_b (b := (((parseZ s).2) == (0 : Int))) (by kernel_rfl) (by rw [parseZ_no (by omega) (by rw [hk31]; decide)]; rfl))
       refine GD.call (fun _ hM => IsInt_ok hM.avlt s (by first | assumption | omega)) ?_
       rintro _ _ _ hM ⟨rfl, hb⟩
       refine ⟨.bool false, _, _, (ret_bool hk31), hb, hM.call hb, ?_⟩
       refine GD.ev (.bool false) ?_ (hr := fun u => op_b (b := (false != false)) ((fun _ => op_neq_bool (p := false) (q := false) (by kernel_rfl) (by kernel_rfl) (by kernel_rfl)) u) rfl)
       refine GD.ev (.bool false) ?_
       refine GD.ev (.int .i64 ((parseZ s).2)) ?_
       refine GD.ev (.bool true) ?_ (hr := fun u => op_b (b := (((parseZ s).2) != (0 : Int))) (by kernel_rfl) (by rw [parseZ_no (by omega) (by rw [hk31]; decide)]; rfl))
       refine GD.ev (.bool true) ?_
       refine GD.ev (.int .i64 ((parseZ s).2)) ?_
       refine GD.ev (.bool false) ?_ (hr := fun u => op_b (b := (((parseZ s).2) != (4 : Int))) (by kernel_rfl) (by rw [parseZ_no (by omega) (by rw [hk31]; decide)]; rfl))
       refine GD.ev (.bool false) ?_
       refine GD.er (.agg #[.slice A23a n23a c23a, .bool m23a]) (fun _ hS => op_load_agg (off := 0) (by kernel_rfl) agg28 siz28 (hV44.bS 1 rfl hS) rfl rfl) ?_
       refine GD.call (fun _ hM => Sign_ok hM.avlt (hM.f 1 rfl)) ?_
       rintro _ _ _ hM ⟨rfl, hb⟩
       refine ⟨_, _, _, rfl, hb, hM.call hb, ?_⟩
       refine GD.ev (.bool false) ?_ (hr := fun u => op_b (b := ((((parseZ s).1).sign) != (0 : Int))) (by kernel_rfl) (by rw [parseZ_no (by omega) (by rw [hk31]; decide)]; rfl))
       refine GD.ev (.bool false) ?_
       refine GD.ev (.bool false) ?_
       refine GD.ev (.bool false) ?_
       refine GD.ev (.bool false) ?_
       refine GD.ev (.int .i64 ((parseZ s).2)) ?_
       refine GD.ev (.bool false) ?_ (hr := fun u => op_b (b := (((parseZ s).2) == (0 : Int))) (by kernel_rfl) (by rw [parseZ_no (by omega) (by rw [hk31]; decide)]; rfl))
       refine GD.ev (.bool false) ?_
       refine GD.eo ?_
       refine GD.eo ?_
       refine GD.sk ?_
       refine GD.sk ?_
       refine GD.eo ?_
       refine GD.ev (.bool false) ?_
       refine GD.ev (.bool false) ?_
       refine GD.k k2 ?_
       refine CG.no ?_ rfl rfl
       refine CG.skip ?_
       refine QG.k k1 ?_
       refine CG.seq fun K_ k1 => ?_
       refine CG.lin 8 ?_
       refine GL.v (.string (bs s)) ?_
       refine GL.call (fun _ hM => NParse_ok hM.avlt s (by first | assumption | omega)) ?_
       rintro _ _ _ hM ⟨s47a, A47a, n47a, c47a, s47a_, A47a_, n47a_, c47a_, rfl, h47a, hb⟩
       have hs47 := nparse_sz s
       refine ⟨_, _, _, rfl, (hM.call hb).add h47a, ?_⟩
       refine GL.v (.tuple #[.agg #[.int .i64 s47a, .slice A47a n47a c47a, .int .i64 s47a_, .slice A47a_ n47a_ c47a_], .int .i64 ((nparse s).2)]) ?_
       refine GL.v (.agg #[.int .i64 s47a, .slice A47a n47a c47a, .int .i64 s47a_, .slice A47a_ n47a_ c47a_]) ?_
       refine GL.v (.int .i64 ((nparse s).2)) ?_
       refine GL.aA zer54 fun g48 => ?_
       refine GL.sA (cs' := #[.int .i64 s47a, .slice A47a n47a c47a, .int .i64 s47a_, .slice A47a_ n47a_ c47a_]) (fun _ _ => Mem.st0) (fun _ hM => hM.b 0 rfl) siz54 ?_
       refine GL.v (.int .i64 ((nparse s).2)) ?_
       refine GL.k k1 ?_
       refine CG.seq fun K_ k1 => ?_
       refine CG.seq fun K_ k2 => ?_
       refine CG.lin 2 ?_
       refine GL.v (.int .i64 ((nparse s).2)) ?_
       refine GL.v (.bool (decide (((nparse s).2) > (0 : Int)))) ?_
       refine GL.k k2 ?_
       by_cases hc49 : ((nparse s).2) > (0 : Int)
       · have hk49 : (decide (((nparse s).2) > (0 : Int))) = true := decide_eq_true hc49
         refine CG.yes ?_ hk49 rfl
         refine CG.seq fun K_ k2 => ?_
         refine CG.lin 15 ?_
         refine GL.v (.int .i64 ((parseR s).2)) ?_
         refine GL.row (fun _ => op_buildN rowt57 3 #[(0, .int .i64 0), (1, .int .i64 4), (2, .int .i64 9)] #[.int .i64 0, .int .i64 4, .int .i64 9] (by kernel_rfl) (by decide) (by kernel_rfl)) (fun _ _ _ hm => own_built (vs := i64s ([0, 4, 9] : List Int)) hm rfl rfl (by decide)) fun g50 => ?_
         refine GL.v (.int .i64 ((nparse s).2)) ?_
         have hp2 := (parse_both (s := s) (by omega)).2.2.2
         refine GL.r (elemPtr (some ⟨g50, 0, none⟩) ((((nparse s).2)).toNat)) (fun _ hM => op_index rowt57 (c := 3) (k := .i64) (i := ((nparse s).2)) ((((nparse s).2)).toNat) (by kernel_rfl) (by kernel_rfl) (by omega) (by omega) (hM.o 0 rfl).row _) ?_
         refine GL.r (.int .i64 (([0, 4, 9] : List Int).getD ((((nparse s).2)).toNat) 0)) (fun _ hM => op_load_i64 (n := 3) (by kernel_rfl) agg37 (hM.o 0 rfl).row (by omega)) ?_
         refine GL.v (.bool true) ?_ (hr := fun u => op_b (b := (((parseR s).2) == (([0, 4, 9] : List Int).getD ((((nparse s).2)).toNat) 0))) (by kernel_rfl) (beq_iff_eq.2 (parse_both (s := s) (by omega)).2.1))
         refine GL.v (.bool true) ?_
         refine GL.r (.agg #[.slice A25a n25a c25a, .bool m25a, .slice A25a_ n25a_ c25a_]) (fun _ hM => op_load_agg (off := 0) (by kernel_rfl) agg48 siz48 (hM.b 2 rfl) rfl rfl) ?_
         refine GL.call (fun _ hM => RSign_ok hM.avlt (hM.f 1 rfl)) ?_
         rintro _ _ _ hM ⟨rfl, hb⟩
         refine ⟨_, _, _, rfl, hM.call hb, ?_⟩
         refine GL.v (.bool true) ?_ (hr := fun u => op_b (b := ((((parseR s).1).num.sign) == (0 : Int))) (by kernel_rfl) (by rw [(parse_both (s := s) (by omega)).1, (parse_both (s := s) (by omega)).2.2.1 hc49]; rfl))
         refine GL.v (.bool true) ?_
         refine GL.v (.bool true) ?_
         refine GL.call (fun _ hM => awake_ok hM.avlt) ?_
         rintro _ _ _ hM ⟨rfl, hb⟩
         refine ⟨_, _, _, rfl, hM.call hb, ?_⟩
         refine GL.v (.bool true) ?_
         refine GL.v (.bool true) ?_
         refine GL.k k2 ?_
         refine CG.ret (QG.then_ret (QG.ret (fun _ hM => results_one rfl (res_tmp rfl)) ?_))
         intro _ hM
         exact ⟨rfl, hM.below⟩
       · have hk49 : (decide (((nparse s).2) > (0 : Int))) = false := decide_eq_false hc49
         refine CG.no ?_ hk49 rfl
         refine CG.skip ?_
         refine QG.k k1 ?_
         refine CG.seq fun K_ k1 => ?_
         refine CG.lin 11 ?_
         refine GL.v (.int .i64 ((parseR s).2)) ?_
         refine GL.v (.bool true) ?_ (hr := fun u => op_b (b := (((parseR s).2) == (0 : Int))) (by kernel_rfl) (by rw [(parse_both (s := s) (by omega)).2.1, show (nparse s).2 = 0 by have := (parse_both (s := s) (by omega)).2.2.2; omega]; rfl))
         refine GL.v (.bool true) ?_
         refine GL.r (.agg #[.slice A25a n25a c25a, .bool m25a, .slice A25a_ n25a_ c25a_]) (fun _ hM => op_load_agg (off := 0) (by kernel_rfl) agg48 siz48 (hM.b 1 rfl) rfl rfl) ?_
         refine GL.r (.agg #[.int .i64 s47a, .slice A47a n47a c47a, .int .i64 s47a_, .slice A47a_ n47a_ c47a_]) (fun _ hM => op_load_agg (off := 0) (by kernel_rfl) agg54 siz54 (hM.b 0 rfl) rfl rfl) ?_
         refine GL.call (fun _ hM => Same_ok hM.avlt (hM.f 1 rfl) (hM.f 0 rfl) (by first | assumption | omega | (dsimp only; omega)) (by first | assumption | omega | (dsimp only; omega))) ?_
         rintro _ _ _ hM ⟨rfl, hb⟩
         refine ⟨.bool true, _, _, (ret_bool (decide_eq_true (parse_both (s := s) (by omega)).1)), hM.call hb, ?_⟩
         refine GL.v (.bool true) ?_
         refine GL.v (.bool true) ?_
         refine GL.call (fun _ hM => awake_ok hM.avlt) ?_
         rintro _ _ _ hM ⟨rfl, hb⟩
         refine ⟨_, _, _, rfl, hM.call hb, ?_⟩
         refine GL.v (.bool true) ?_
         refine GL.v (.bool true) ?_
         refine GL.k k1 ?_
         refine CG.ret (QG.ret (fun _ hM => results_one rfl (res_tmp rfl)) ?_)
         intro _ hM
         exact ⟨rfl, hM.below⟩

end Go.Proofs.YtklnjhlidfclmaaGreatDoor
