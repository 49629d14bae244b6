/- Contracts of the program's functions. -/
import Derived.Test.YtklnjhlidfclmaaGreatDoorC2
set_option linter.unusedVariables false
set_option linter.unusedSimpArgs false
namespace Go.Proofs.YtklnjhlidfclmaaGreatDoor
open Go.RowKit Cps
attribute [local go_sem] Oper.semAt_some

set_option maxRecDepth 100000 in
set_option maxHeartbeats 400000 in
theorem value_ok {w : World} {X : Nat → Prop} {s1 : Int} {A1 : Option Addr} {n1 : Nat} {c1 : Nat} {a : Int} (hX : ∀ k, X k → k < w.heap.size) (h1 : NZk.R X w [.int .i64 s1, .slice A1 n1 c1] a) (p1 : -9223372036854775808 ≤ a ∧ a ≤ 9223372036854775807) :
    Calls Tryz.prog 103 #[.agg #[.int .i64 s1, .slice A1 n1 c1]] w (fun e w' => e = .returned (.int .i64 a) ∧ Below w.heap.size w w') := by
 have hM := (Mem.start hX).add0 h1
 have hg1 : (gp a.natAbs).length = n1 := NZk.szg h1
 have hs1 := NZk.sgn h1
 have hl1 := NZk.le h1
 refine calls_of hM Tryz.func103 Tryz.ntmps103 ?_
 refine CG.seq fun K_ k1 => ?_
 refine CG.lin 2 ?_
 refine GL.bA #[.int .i64 s1, .slice A1 n1 c1] fun g21 => ?_
 refine GL.v (.int .i64 0) ?_
 refine GL.k k1 ?_
 refine CG.seq fun K_ k1 => ?_
 refine CG.lin 1 ?_
 refine GL.v (.int .i64 0) ?_
 refine GL.k k1 ?_
 refine CG.seq fun K_ k1 => ?_
 refine CG.seq fun K_ k2 => ?_
 refine CG.lin 5 ?_
 refine GL.v (.pointer (some ⟨g21, 1, none⟩)) ?_
 refine GL.r (.slice A1 n1 c1) (fun _ hM => op_load_one (off := 1) (by kernel_rfl) agg29 (hM.b 0 rfl) rfl) ?_
 refine GL.v (.int .i64 (n1 : Int)) ?_
 refine GL.v (.int .i64 ((n1 : Int) - (1 : Int))) ?_ (hr := fun u => op_to (v := .int .i64 (IntKind.wrap .i64 ((n1 : Int) - (1 : Int)))) (by kernel_rfl) (wrap_i64 rfl (by omega) (by omega)))
 refine GL.v (.int .i64 ((n1 : Int) - (1 : Int))) ?_
 refine GL.k k2 ?_
 refine CG.block ?_
 refine CG.loop (fun m_ a_ u_ => ∃ (i : Int) (n : Int) (j22 : Nat → Value), a_ = ⟨#[.agg #[.int .i64 s1, .slice A1 n1 c1], .pointer (some ⟨g21, 0, none⟩), .int .i64 0, .int .i64 n, .int .i64 i, .pointer (some ⟨g21, 1, none⟩), .slice A1 n1 c1, .int .i64 (n1 : Int), .int .i64 ((n1 : Int) - (1 : Int)), (j22 9), (j22 10), (j22 11), (j22 12), (j22 13), (j22 14), (j22 15), (j22 16), (j22 17), (j22 18), (j22 19), (j22 20), (j22 21), (j22 22), (j22 23), undef], []⟩ ∧ m_ = (i + 1).toNat ∧ Mem w [] X u_ [.box g21 #[.int .i64 s1, .slice A1 n1 c1] 31] [⟨NZk, [.int .i64 s1, .slice A1 n1 c1], a⟩] ∧ (-1 ≤ i ∧ i < (n1 : Int)) ∧ (n = s1 * ((a.natAbs / 10000 ^ (i + 1).toNat : Nat) : Int))) (fun _ hM => ⟨_, ((n1 : Int) - (1 : Int)), 0, (fun t => (#[.agg #[.int .i64 s1, .slice A1 n1 c1], .pointer (some ⟨g21, 0, none⟩), .int .i64 0, .int .i64 0, .int .i64 ((n1 : Int) - (1 : Int)), .pointer (some ⟨g21, 1, none⟩), .slice A1 n1 c1, .int .i64 (n1 : Int), .int .i64 ((n1 : Int) - (1 : Int)), undef, undef, undef, undef, undef, undef, undef, undef, undef, undef, undef, undef, undef, undef, undef, undef] : Array Value).getD t undef), (by kernel_rfl), rfl, (hM.clr).add (hM.f 0 rfl), (by omega), (value_start hg1 s1)⟩) ?_
 rintro m_ a_ u_ ⟨i, n, j22, rfl, hm22, hM, hI, hn⟩
 refine CG.go hM ?_
 refine CG.seq fun K_ k2 => ?_
 refine CG.seq fun K_ k3 => ?_
 refine CG.lin 2 ?_
 refine GL.v (.int .i64 i) ?_
 refine GL.v (.bool (decide (i ≥ (0 : Int)))) ?_
 refine GL.k k3 ?_
 by_cases hc23 : i ≥ (0 : Int)
 · have hk23 : (decide (i ≥ (0 : Int))) = true := decide_eq_true hc23
   refine CG.yes ?_ hk23 rfl
   refine CG.skip ?_
   refine QG.k k2 ?_
   refine CG.seq fun K_ k2 => ?_
   refine CG.block ?_
   refine CG.draw [] [0, 1, 2, 3, 4, 5, 6, 7, 8, 9, 10] (.step 0 (.step 1 (.step 2 (.step 3 (.step 4 (.step 5 (.step 6 (.step 7 (.step 8 (.step 9 (.step 10 (.step 11 .done)))))))))))) (fun V hV24 => ?_)
   refine GD.ev (.int .i64 n) ?_
   have hst := value_step hs1 p1 (by omega) hn
   refine GD.ev (.int .i64 (n * (10000 : Int))) ?_ (hr := fun u => op_to (v := .int .i64 (IntKind.wrap .i64 (n * (10000 : Int)))) (by kernel_rfl) (wrap_i64 rfl (by omega) (by omega)))
   refine GD.ev (.pointer (some ⟨g21, 0, none⟩)) ?_
   refine GD.er (.int .i64 s1) (fun _ hS => op_load_one (off := 0) (by kernel_rfl) agg3 (hV24.bS 0 rfl hS) rfl) ?_
   refine GD.ev (.pointer (some ⟨g21, 1, none⟩)) ?_
   refine GD.er (.slice A1 n1 c1) (fun _ hS => op_load_one (off := 1) (by kernel_rfl) agg29 (hV24.bS 0 rfl hS) rfl) ?_
   refine GD.ev (.int .i64 i) ?_
   refine GD.er (elemPtr A1 ((i).toNat)) (fun _ hS => op_index rowt29 (c := c1) (k := .i64) (i := i) ((i).toNat) (by kernel_rfl) (by kernel_rfl) (by omega) (by omega) (Row.keep (NZk.row (hV24.f 0 rfl)) hS.keep) _) ?_
   refine GD.er (.int .i64 ((gp (a).natAbs).getD ((i).toNat) 0)) (fun _ hS => op_load_i64 (n := n1) (by kernel_rfl) agg3 (Row.keep (NZk.row (hV24.f 0 rfl)) hS.keep) (by omega)) ?_
   refine GD.ev (.int .i64 (s1 * ((gp (a).natAbs).getD ((i).toNat) 0))) ?_ (hr := fun u => op_to (v := .int .i64 (IntKind.wrap .i64 (s1 * ((gp (a).natAbs).getD ((i).toNat) 0)))) (by kernel_rfl) (wrap_i64 rfl (by omega) (by omega)))
   refine GD.ev (.int .i64 ((n * (10000 : Int)) + (s1 * ((gp (a).natAbs).getD ((i).toNat) 0)))) ?_ (hr := fun u => op_to (v := .int .i64 (IntKind.wrap .i64 ((n * (10000 : Int)) + (s1 * ((gp (a).natAbs).getD ((i).toNat) 0))))) (by kernel_rfl) (wrap_i64 rfl (by omega) (by omega)))
   refine GD.v (.int .i64 ((n * (10000 : Int)) + (s1 * ((gp (a).natAbs).getD ((i).toNat) 0)))) ?_
   refine GD.q ?_
   refine QG.block ?_
   refine QG.k k2 ?_
   refine CG.lin 3 ?_
   refine GL.v (.int .i64 i) ?_
   refine GL.v (.int .i64 (i - (1 : Int))) ?_ (hr := fun u => op_to (v := .int .i64 (IntKind.wrap .i64 (i - (1 : Int)))) (by kernel_rfl) (wrap_i64 rfl (by omega) (by omega)))
   refine GL.v (.int .i64 (i - (1 : Int))) ?_
   refine GL.q ?_
   refine QG.again fun _ hM => ?_
   exact ⟨((i - (1 : Int)) + 1).toNat, (by omega), (i - (1 : Int)), ((n * (10000 : Int)) + (s1 * ((gp (a).natAbs).getD ((i).toNat) 0))), (fun t => (#[.agg #[.int .i64 s1, .slice A1 n1 c1], .pointer (some ⟨g21, 0, none⟩), .int .i64 0, .int .i64 ((n * (10000 : Int)) + (s1 * ((gp (a).natAbs).getD ((i).toNat) 0))), .int .i64 (i - (1 : Int)), .pointer (some ⟨g21, 1, none⟩), .slice A1 n1 c1, .int .i64 (n1 : Int), .int .i64 ((n1 : Int) - (1 : Int)), .int .i64 i, .bool (decide (i ≥ (0 : Int))), .int .i64 i, .int .i64 (i - (1 : Int)), .int .i64 n, .int .i64 (n * (10000 : Int)), .pointer (some ⟨g21, 0, none⟩), .int .i64 s1, .pointer (some ⟨g21, 1, none⟩), .slice A1 n1 c1, .int .i64 i, elemPtr A1 ((i).toNat), .int .i64 ((gp (a).natAbs).getD ((i).toNat) 0), .int .i64 (s1 * ((gp (a).natAbs).getD ((i).toNat) 0)), .int .i64 ((n * (10000 : Int)) + (s1 * ((gp (a).natAbs).getD ((i).toNat) 0))), undef] : Array Value).getD t undef), (by kernel_rfl), rfl, (hM.clr).add (hM.f 0 rfl), (by omega), hst.2.2.1⟩
 · have hk23 : (decide (i ≥ (0 : Int))) = false := decide_eq_false hc23
   refine CG.no ?_ hk23 rfl
   refine CG.exit (QG.then_exit (QG.then_exit (QG.here ?_)))
   refine QG.k k1 ?_
   refine CG.seq fun K_ k1 => ?_
   refine CG.lin 2 ?_
   refine GL.v (.int .i64 n) ?_
   refine GL.v (.int .i64 n) ?_
   refine GL.k k1 ?_
   refine CG.ret (QG.ret (fun _ hM => results_one rfl (res_tmp rfl)) ?_)
   intro _ hM
   exact ⟨ret_int (value_end hs1 (by omega) hn), hM.below⟩

set_option maxRecDepth 100000 in
set_option maxHeartbeats 400000 in
theorem NQuotient_ok {w : World} {X : Nat → Prop} {s1 : Int} {A1 : Option Addr} {n1 : Nat} {c1 : Nat} {a : Int} {s2 : Int} {A2 : Option Addr} {n2 : Nat} {c2 : Nat} {d : Int} (hX : ∀ k, X k → k < w.heap.size) (h1 : NZk.R X w [.int .i64 s1, .slice A1 n1 c1] a) (h2 : NZk.R X w [.int .i64 s2, .slice A2 n2 c2] d) (p1 : d ≠ 0) (p2 : szg a + szg d ≤ 2147480000) :
    Calls Tryz.prog 20 #[.agg #[.int .i64 s1, .slice A1 n1 c1], .agg #[.int .i64 s2, .slice A2 n2 c2]] w (fun e w' => ∃ sr1 Ar1 nr1 cr1 sr2 Ar2 nr2 cr2, e = .returned (.tuple #[.agg #[.int .i64 sr1, .slice Ar1 nr1 cr1], .agg #[.int .i64 sr2, .slice Ar2 nr2 cr2]]) ∧ NZk.R X w' [.int .i64 sr1, .slice Ar1 nr1 cr1] (a / d) ∧ NZk.R X w' [.int .i64 sr2, .slice Ar2 nr2 cr2] (a % d) ∧ Below w.heap.size w w') := by
 have hM := ((Mem.start hX).add0 h1).add0 h2
 have hg1 : (gp a.natAbs).length = n1 := NZk.szg h1
 have hz1 := NZk.szg h1
 have hz2 := NZk.szg h2
 have hs1 := NZk.sgn h1
 have hs2 := NZk.sgn h2
 have hc1 := sign_cases a
 have hl1 := NZk.le h1
 have hd0 : 0 < d.natAbs := by omega
 refine calls_of hM Tryz.func20 Tryz.ntmps20 ?_
 refine CG.seq fun K_ k1 => ?_
 refine CG.lin 4 ?_
 refine GL.bA #[.int .i64 s1, .slice A1 n1 c1] fun g21 => ?_
 refine GL.bA #[.int .i64 s2, .slice A2 n2 c2] fun g22 => ?_
 refine GL.aA zer31 fun g23 => ?_
 refine GL.aA zer31 fun g24 => ?_
 refine GL.k k1 ?_
 refine CG.seq fun K_ k1 => ?_
 refine CG.lin 5 ?_
 refine GL.v (.pointer (some ⟨g21, 1, none⟩)) ?_
 refine GL.r (.slice A1 n1 c1) (fun _ hM => op_load_one (off := 1) (by kernel_rfl) agg29 (hM.b 3 rfl) rfl) ?_
 refine GL.v (.int .i64 (n1 : Int)) ?_
 refine GL.row (fun _ => op_make rowt29 (kl := .i64) (kc := .i64) (l := (n1 : Int)) (c := (n1 : Int)) n1 n1 (by kernel_rfl) (by kernel_rfl) (by omega) (by omega) (by omega) (by omega) (by omega)) (fun _ _ _ hm => own_made_i64 hm (by omega) (by omega)) fun g25 => ?_
 refine GL.v (.slice (some ⟨g25, 0, none⟩) n1 n1) ?_
 refine GL.k k1 ?_
 refine CG.seq fun K_ k1 => ?_
 refine CG.lin 7 ?_
 refine GL.v (.agg #[.int .i64 0, .slice none 0 0]) ?_
 refine GL.r (.agg #[.int .i64 s2, .slice A2 n2 c2]) (fun _ hM => op_load_agg (off := 0) (by kernel_rfl) agg31 siz31 (hM.b 3 rfl) rfl rfl) ?_
 refine GL.call (fun _ hM => NZAbs_ok hM.avlt (hM.f 0 rfl)) ?_
 rintro _ _ _ hM ⟨s26, A26, n26, c26, rfl, h26, hb⟩
 have hs26 := szg_abs d
 refine ⟨_, _, _, rfl, (hM.call hb).add h26, ?_⟩
 refine GL.aA zer31 fun g27 => ?_
 refine GL.aA zer31 fun g28 => ?_
 refine GL.sA (cs' := #[.int .i64 0, .slice none 0 0]) (fun _ _ => Mem.st1) (fun _ hM => hM.b 1 rfl) siz31 ?_
 refine GL.sA (cs' := #[.int .i64 s26, .slice A26 n26 c26]) (fun _ _ => Mem.st0) (fun _ hM => hM.b 0 rfl) siz31 ?_
 refine GL.k k1 ?_
 refine CG.seq fun K_ k1 => ?_
 refine CG.seq fun K_ k2 => ?_
 refine CG.lin 5 ?_
 refine GL.v (.pointer (some ⟨g21, 1, none⟩)) ?_
 refine GL.r (.slice A1 n1 c1) (fun _ hM => op_load_one (off := 1) (by kernel_rfl) agg29 (hM.b 6 rfl) rfl) ?_
 refine GL.v (.int .i64 (n1 : Int)) ?_
 refine GL.v (.int .i64 ((n1 : Int) - (1 : Int))) ?_ (hr := fun u => op_to (v := .int .i64 (IntKind.wrap .i64 ((n1 : Int) - (1 : Int)))) (by kernel_rfl) (wrap_i64 rfl (by omega) (by omega)))
 refine GL.v (.int .i64 ((n1 : Int) - (1 : Int))) ?_
 refine GL.k k2 ?_
 refine CG.block ?_
 refine CG.loop (fun m_ a_ u_ => ∃ (so : Int) (Ao : Option Addr) (no : Nat) (co : Nat) (z : Int) (i : Int) (Q : Nat) (M : List Int) (j29 : Nat → Value), a_ = ⟨#[.agg #[.int .i64 s1, .slice A1 n1 c1], .agg #[.int .i64 s2, .slice A2 n2 c2], .pointer (some ⟨g21, 0, none⟩), .pointer (some ⟨g22, 0, none⟩), .pointer (some ⟨g23, 0, none⟩), .pointer (some ⟨g24, 0, none⟩), .slice (some ⟨g25, 0, none⟩) n1 n1, .pointer (some ⟨g27, 0, none⟩), .pointer (some ⟨g28, 0, none⟩), .int .i64 i, (j29 10), (j29 11), (j29 12), undef, .pointer (some ⟨g21, 1, none⟩), .slice A1 n1 c1, .int .i64 (n1 : Int), .slice (some ⟨g25, 0, none⟩) n1 n1, .agg #[.int .i64 0, .slice none 0 0], .agg #[.int .i64 s2, .slice A2 n2 c2], .agg #[.int .i64 s26, .slice A26 n26 c26], .pointer (some ⟨g21, 1, none⟩), .slice A1 n1 c1, .int .i64 (n1 : Int), .int .i64 ((n1 : Int) - (1 : Int)), (j29 25), (j29 26), (j29 27), (j29 28), (j29 29), (j29 30), (j29 31), (j29 32), (j29 33), (j29 34), (j29 35), (j29 36), (j29 37), (j29 38), (j29 39), (j29 40), (j29 41), (j29 42), (j29 43), (j29 44), (j29 45), (j29 46), (j29 47), (j29 48), (j29 49), (j29 50), (j29 51), (j29 52), (j29 53), (j29 54), (j29 55), (j29 56), (j29 57), (j29 58), (j29 59), (j29 60), (j29 61), (j29 62), (j29 63), undef, undef, undef, undef, undef, undef, undef, undef, undef, undef, undef, undef, undef, undef, undef, undef, undef, undef, undef, undef, undef, undef, undef, undef, undef], []⟩ ∧ m_ = (i + 1).toNat ∧ Mem w [] X u_ [.box g28 #[.int .i64 s26, .slice A26 n26 c26] 31, .box g27 #[.int .i64 so, .slice Ao no co] 31, .own g25 3 n1 n1 (i64s M), .box g24 #[.int .i64 0, .slice none 0 0] 31, .box g23 #[.int .i64 0, .slice none 0 0] 31, .box g22 #[.int .i64 s2, .slice A2 n2 c2] 31, .box g21 #[.int .i64 s1, .slice A1 n1 c1] 31] [⟨NZk, [.int .i64 so, .slice Ao no co], z⟩, ⟨NZk, [.int .i64 s26, .slice A26 n26 c26], (d.natAbs : Int)⟩, ⟨NZk, [.int .i64 s2, .slice A2 n2 c2], d⟩, ⟨NZk, [.int .i64 s1, .slice A1 n1 c1], a⟩] ∧ (-1 ≤ i ∧ i < (n1 : Int)) ∧ (0 ≤ z ∧ z.natAbs < d.natAbs) ∧ (a.natAbs / 10000 ^ (i + 1).toNat = Q * d.natAbs + z.natAbs) ∧ (val 10000 M = 10000 ^ (i + 1).toNat * (Q : Int)) ∧ (∀ j : Nat, (j : Int) ≤ i → M.getD j 0 = 0) ∧ (∀ j, (0 : Int) ≤ M.getD j 0 ∧ M.getD j 0 ≤ 9999) ∧ (szg z ≤ szg d)) (fun _ hM => ⟨_, 0, none, 0, 0, 0, ((n1 : Int) - (1 : Int)), 0, (List.replicate n1 0), (fun t => (#[.agg #[.int .i64 s1, .slice A1 n1 c1], .agg #[.int .i64 s2, .slice A2 n2 c2], .pointer (some ⟨g21, 0, none⟩), .pointer (some ⟨g22, 0, none⟩), .pointer (some ⟨g23, 0, none⟩), .pointer (some ⟨g24, 0, none⟩), .slice (some ⟨g25, 0, none⟩) n1 n1, .pointer (some ⟨g27, 0, none⟩), .pointer (some ⟨g28, 0, none⟩), .int .i64 ((n1 : Int) - (1 : Int)), undef, undef, undef, undef, .pointer (some ⟨g21, 1, none⟩), .slice A1 n1 c1, .int .i64 (n1 : Int), .slice (some ⟨g25, 0, none⟩) n1 n1, .agg #[.int .i64 0, .slice none 0 0], .agg #[.int .i64 s2, .slice A2 n2 c2], .agg #[.int .i64 s26, .slice A26 n26 c26], .pointer (some ⟨g21, 1, none⟩), .slice A1 n1 c1, .int .i64 (n1 : Int), .int .i64 ((n1 : Int) - (1 : Int)), undef, undef, undef, undef, undef, undef, undef, undef, undef, undef, undef, undef, undef, undef, undef, undef, undef, undef, undef, undef, undef, undef, undef, undef, undef, undef, undef, undef, undef, undef, undef, undef, undef, undef, undef, undef, undef, undef, undef, undef, undef, undef, undef, undef, undef, undef, undef, undef, undef, undef, undef, undef, undef, undef, undef, undef, undef, undef, undef, undef, undef, undef, undef, undef] : Array Value).getD t undef), (by kernel_rfl), rfl, ((((hM.clr).add (hM.f 2 rfl)).add (hM.f 1 rfl)).add (hM.f 0 rfl)).add (NZk.nil _ _ none 0), (by omega), (by omega), (zq_start hg1 _), (by rw [val_replicate_zero]; simp), (fun j _ => zeros_get _ j), (fun j => by rw [zeros_get]; omega), (szg_mono (by omega))⟩) ?_
 rintro m_ a_ u_ ⟨so, Ao, no, co, z, i, Q, M, j29, rfl, hm29, hM, hI, hz, hA, hV, hMZ, hMB, hzs⟩
 have hMl := (hM.o 2 rfl).ilen
 have hzz := NZk.szg (hM.f 0 rfl)
 have hso := NZk.sgn (hM.f 0 rfl)
 refine CG.go hM ?_
 refine CG.seq fun K_ k2 => ?_
 refine CG.seq fun K_ k3 => ?_
 refine CG.lin 2 ?_
 refine GL.v (.int .i64 i) ?_
 refine GL.v (.bool (decide (i ≥ (0 : Int)))) ?_
 refine GL.k k3 ?_
 by_cases hc30 : i ≥ (0 : Int)
 · have hk30 : (decide (i ≥ (0 : Int))) = true := decide_eq_true hc30
   refine CG.yes ?_ hk30 rfl
   refine CG.skip ?_
   refine QG.k k2 ?_
   refine CG.seq fun K_ k2 => ?_
   refine CG.block ?_
   refine CG.seq fun K_ k3 => ?_
   refine CG.draw [] [0, 1, 2, 3, 4, 6, 7] (.step 0 (.step 1 (.step 2 (.step 3 (.step 4 (.step 6 (.step 7 (.step 5 (.step 8 (.step 9 (.step 10 .done))))))))))) (fun V hV31 => ?_)
   refine GD.ev (.pointer (some ⟨g21, 1, none⟩)) ?_
   refine GD.er (.slice A1 n1 c1) (fun _ hS => op_load_one (off := 1) (by kernel_rfl) agg29 (hV31.bS 6 rfl hS) rfl) ?_
   refine GD.ev (.int .i64 i) ?_
   refine GD.er (elemPtr A1 ((i).toNat)) (fun _ hS => op_index rowt29 (c := c1) (k := .i64) (i := i) ((i).toNat) (by kernel_rfl) (by kernel_rfl) (by omega) (by omega) (Row.keep (NZk.row (hV31.f 3 rfl)) hS.keep) _) ?_
   refine GD.er (.int .i64 ((gd a.natAbs i.toNat : Nat) : Int)) (fun _ hS => op_to (v := .int .i64 ((gp (a).natAbs).getD ((i).toNat) 0)) (op_load_i64 (n := n1) (by kernel_rfl) agg3 (Row.keep (NZk.row (hV31.f 3 rfl)) hS.keep) (by omega)) (congrArg (Value.int .i64) (gd_int _ _))) ?_
   refine GD.ev (.pointer (some ⟨g27, 1, none⟩)) ?_
   refine GD.er (.slice Ao no co) (fun _ hS => op_load_one (off := 1) (by kernel_rfl) agg29 (hV31.bS 1 rfl hS) rfl) ?_
   refine GD.row (fun _ => op_build1 rowt29 (v := .int .i64 ((gd a.natAbs i.toNat : Nat) : Int)) (by kernel_rfl) rfl) (fun _ _ _ hm => own_one_i64 hm) fun g32 hg32 => ?_
   refine GD.gn hg32 (fun _ _ _ _ => Mem.gr0) (fun _ hM => op_append_i64 (cx := co) rowt29 (hM.o 0 rfl) (NZk.row (hM.f 0 rfl)) (by kernel_rfl) (by kernel_rfl) (by omega) (by omega)) fun g33 c33 hg33 => ?_
   refine GD.mem (fun _ hM => hM.pu0 fun hO _ hX => SIk.own hO hX) ?_
   refine GD.call (fun _ hM => nmade_ok hM.avlt (1) (x := (z.natAbs * 10000 + gd a.natAbs i.toNat : Nat)) (hM.f 0 rfl) (zq_val _ _) (zq_bnd _ _ (Nat.mod_lt _ (by decide))) (.inl rfl) (by first | assumption | omega)) ?_
   rintro _ _ _ hM ⟨s34, A34, n34, c34, rfl, h34, hb⟩
   refine ⟨_, _, _, rfl, hb, (hM.call hb).add h34, ?_⟩
   refine GD.st (fun _ _ => Mem.st1) (fun _ hM => store_all (cs' := #[.int .i64 s34, .slice A34 n34 c34]) siz31 (hM.b 1 rfl) (by kernel_rfl) (by kernel_rfl) rfl rfl rfl) ?_
   refine GD.k k3 ?_
   refine CG.seq fun K_ k3 => ?_
   refine CG.lin 2 ?_
   refine GL.v (.int .i64 0) ?_
   refine GL.v (.int .i64 10000) ?_
   refine GL.k k3 ?_
   refine CG.seq fun K_ k3 => ?_
   refine CG.block ?_
   refine CG.loop (fun m_ a_ u_ => ∃ (l : Nat) (h : Nat) (j35 : Nat → Value), a_ = ⟨#[.agg #[.int .i64 s1, .slice A1 n1 c1], .agg #[.int .i64 s2, .slice A2 n2 c2], .pointer (some ⟨g21, 0, none⟩), .pointer (some ⟨g22, 0, none⟩), .pointer (some ⟨g23, 0, none⟩), .pointer (some ⟨g24, 0, none⟩), .slice (some ⟨g25, 0, none⟩) n1 n1, .pointer (some ⟨g27, 0, none⟩), .pointer (some ⟨g28, 0, none⟩), .int .i64 i, .int .i64 (l : Int), .int .i64 (h : Int), (j35 12), undef, .pointer (some ⟨g21, 1, none⟩), .slice A1 n1 c1, .int .i64 (n1 : Int), .slice (some ⟨g25, 0, none⟩) n1 n1, .agg #[.int .i64 0, .slice none 0 0], .agg #[.int .i64 s2, .slice A2 n2 c2], .agg #[.int .i64 s26, .slice A26 n26 c26], .pointer (some ⟨g21, 1, none⟩), .slice A1 n1 c1, .int .i64 (n1 : Int), .int .i64 ((n1 : Int) - (1 : Int)), .int .i64 i, .bool (decide (i ≥ (0 : Int))), (j29 27), (j29 28), .pointer (some ⟨g21, 1, none⟩), .slice A1 n1 c1, .int .i64 i, elemPtr A1 ((i).toNat), .int .i64 ((gd a.natAbs i.toNat : Nat) : Int), .slice (some ⟨g32, 0, none⟩) 1 1, .pointer (some ⟨g27, 1, none⟩), .slice Ao no co, .slice (some ⟨g33, 0, none⟩) (1 + no) c33, .agg #[.int .i64 s34, .slice A34 n34 c34], (j35 39), (j35 40), (j35 41), (j35 42), (j35 43), (j35 44), (j35 45), (j35 46), (j35 47), (j35 48), (j35 49), (j35 50), (j35 51), (j35 52), (j35 53), (j35 54), (j29 55), (j29 56), (j29 57), (j29 58), (j29 59), (j29 60), (j29 61), (j29 62), (j29 63), undef, undef, undef, undef, undef, undef, undef, undef, undef, undef, undef, undef, undef, undef, undef, undef, undef, undef, undef, undef, undef, undef, undef, undef, undef], []⟩ ∧ m_ = h - l ∧ Mem w [] X u_ [.box g28 #[.int .i64 s26, .slice A26 n26 c26] 31, .box g27 #[.int .i64 s34, .slice A34 n34 c34] 31, .own g25 3 n1 n1 (i64s M), .box g24 #[.int .i64 0, .slice none 0 0] 31, .box g23 #[.int .i64 0, .slice none 0 0] 31, .box g22 #[.int .i64 s2, .slice A2 n2 c2] 31, .box g21 #[.int .i64 s1, .slice A1 n1 c1] 31] [⟨NZk, [.int .i64 s34, .slice A34 n34 c34], 1 * ((z.natAbs * 10000 + gd a.natAbs i.toNat : Nat) : Int)⟩, ⟨SIk, [.slice (some ⟨g33, 0, none⟩) (1 + no) c33], [((gd a.natAbs i.toNat : Nat) : Int)] ++ (gp (z).natAbs)⟩, ⟨NZk, [.int .i64 so, .slice Ao no co], z⟩, ⟨NZk, [.int .i64 s26, .slice A26 n26 c26], (d.natAbs : Int)⟩, ⟨NZk, [.int .i64 s2, .slice A2 n2 c2], d⟩, ⟨NZk, [.int .i64 s1, .slice A1 n1 c1], a⟩] ∧ (l < h ∧ h ≤ 10000) ∧ (l * d.natAbs ≤ (z.natAbs * 10000 + gd a.natAbs i.toNat)) ∧ ((z.natAbs * 10000 + gd a.natAbs i.toNat) < h * d.natAbs)) (fun _ hM => ⟨_, 0, 10000, (fun t => (#[.agg #[.int .i64 s1, .slice A1 n1 c1], .agg #[.int .i64 s2, .slice A2 n2 c2], .pointer (some ⟨g21, 0, none⟩), .pointer (some ⟨g22, 0, none⟩), .pointer (some ⟨g23, 0, none⟩), .pointer (some ⟨g24, 0, none⟩), .slice (some ⟨g25, 0, none⟩) n1 n1, .pointer (some ⟨g27, 0, none⟩), .pointer (some ⟨g28, 0, none⟩), .int .i64 i, .int .i64 0, .int .i64 10000, (j29 12), undef, .pointer (some ⟨g21, 1, none⟩), .slice A1 n1 c1, .int .i64 (n1 : Int), .slice (some ⟨g25, 0, none⟩) n1 n1, .agg #[.int .i64 0, .slice none 0 0], .agg #[.int .i64 s2, .slice A2 n2 c2], .agg #[.int .i64 s26, .slice A26 n26 c26], .pointer (some ⟨g21, 1, none⟩), .slice A1 n1 c1, .int .i64 (n1 : Int), .int .i64 ((n1 : Int) - (1 : Int)), .int .i64 i, .bool (decide (i ≥ (0 : Int))), (j29 27), (j29 28), .pointer (some ⟨g21, 1, none⟩), .slice A1 n1 c1, .int .i64 i, elemPtr A1 ((i).toNat), .int .i64 ((gd a.natAbs i.toNat : Nat) : Int), .slice (some ⟨g32, 0, none⟩) 1 1, .pointer (some ⟨g27, 1, none⟩), .slice Ao no co, .slice (some ⟨g33, 0, none⟩) (1 + no) c33, .agg #[.int .i64 s34, .slice A34 n34 c34], (j29 39), (j29 40), (j29 41), (j29 42), (j29 43), (j29 44), (j29 45), (j29 46), (j29 47), (j29 48), (j29 49), (j29 50), (j29 51), (j29 52), (j29 53), (j29 54), (j29 55), (j29 56), (j29 57), (j29 58), (j29 59), (j29 60), (j29 61), (j29 62), (j29 63), undef, undef, undef, undef, undef, undef, undef, undef, undef, undef, undef, undef, undef, undef, undef, undef, undef, undef, undef, undef, undef, undef, undef, undef, undef] : Array Value).getD t undef), (by kernel_rfl), rfl, ((((((hM.clr).add (hM.f 5 rfl)).add (hM.f 4 rfl)).add (hM.f 3 rfl)).add (hM.f 2 rfl)).add (hM.f 1 rfl)).add (hM.f 0 rfl), (by omega), (by simp), (zq_top hz.2 (Nat.mod_lt _ (by decide)))⟩) ?_
   rintro m_ a_ u_ ⟨l, h, j35, rfl, hm35, hM, hlh, hlo, hhi⟩
   refine CG.go hM ?_
   refine CG.seq fun K_ k4 => ?_
   refine CG.seq fun K_ k5 => ?_
   refine CG.lin 4 ?_
   refine GL.v (.int .i64 (h : Int)) ?_
   refine GL.v (.int .i64 (l : Int)) ?_
   refine GL.v (.int .i64 ((h : Int) - (l : Int))) ?_ (hr := fun u => op_to (v := .int .i64 (IntKind.wrap .i64 ((h : Int) - (l : Int)))) (by kernel_rfl) (wrap_i64 rfl (by omega) (by omega)))
   refine GL.v (.bool (decide (((h : Int) - (l : Int)) > (1 : Int)))) ?_
   refine GL.k k5 ?_
   by_cases hc36 : ((h : Int) - (l : Int)) > (1 : Int)
   · have hk36 : (decide (((h : Int) - (l : Int)) > (1 : Int))) = true := decide_eq_true hc36
     refine CG.yes ?_ hk36 rfl
     refine CG.skip ?_
     refine QG.k k4 ?_
     refine CG.block ?_
     refine CG.seq fun K_ k4 => ?_
     refine CG.lin 5 ?_
     refine GL.v (.int .i64 (l : Int)) ?_
     refine GL.v (.int .i64 (h : Int)) ?_
     refine GL.v (.int .i64 ((l + h : Nat) : Int)) ?_ (hr := fun u => op_to (v := .int .i64 (IntKind.wrap .i64 ((l : Int) + (h : Int)))) (by kernel_rfl) (wrap_i64 (by omega) (by omega) (by omega)))
     refine GL.v (.int .i64 (((l + h) / 2 : Nat) : Int)) ?_ (hr := fun u => op_to (v := .int .i64 (IntKind.wrap .i64 ((((l + h : Nat) : Int)).tdiv 2))) (by kernel_rfl) (quo_i64 (by omega) (by omega) (by omega) (by omega)))
     refine GL.v (.int .i64 (((l + h) / 2 : Nat) : Int)) ?_
     refine GL.k k4 ?_
     refine CG.seq fun K_ k4 => ?_
     refine CG.draw [] [0, 1, 3, 5] (.step 0 (.step 1 (.step 3 (.step 2 (.step 4 (.step 5 .done)))))) (fun V hV37 => ?_)
     refine GD.er (.agg #[.int .i64 s26, .slice A26 n26 c26]) (fun _ hS => op_load_agg (off := 0) (by kernel_rfl) agg31 siz31 (hV37.bS 0 rfl hS) rfl rfl) ?_
     refine GD.ev (.int .i64 (((l + h) / 2 : Nat) : Int)) ?_
     refine GD.er (.agg #[.int .i64 s34, .slice A34 n34 c34]) (fun _ hS => op_load_agg (off := 0) (by kernel_rfl) agg31 siz31 (hV37.bS 1 rfl hS) rfl rfl) ?_
     refine GD.call (fun _ hM => ntimes_ok hM.avlt (((l + h) / 2 : Nat) : Int) (hM.f 3 rfl) (by first | assumption | omega) (by first | assumption | omega)) ?_
     rintro _ _ _ hM ⟨s38, A38, n38, c38, rfl, h38, hb⟩
     have hs38 := szg_mul (d.natAbs : Int) ((((l + h) / 2 : Nat) : Int))
     refine ⟨_, _, _, rfl, hb, (hM.call hb).add h38, ?_⟩
     refine GD.call (fun _ hM => larger_ok hM.avlt (hM.f 0 rfl) (hM.f 1 rfl)) ?_
     rintro _ _ _ hM ⟨rfl, hb⟩
     refine ⟨_, _, _, rfl, hb, hM.call hb, ?_⟩
     refine GD.ev (.bool (decide ((cmpN ((d.natAbs : Int) * (((l + h) / 2 : Nat) : Int)).natAbs (1 * ((z.natAbs * 10000 + gd a.natAbs i.toNat : Nat) : Int)).natAbs) ≤ (0 : Int)))) ?_
     refine GD.k k4 ?_
     by_cases hc40 : ((l + h) / 2) * d.natAbs ≤ (z.natAbs * 10000 + gd a.natAbs i.toNat)
     · have hk40 : (decide ((cmpN ((d.natAbs : Int) * (((l + h) / 2 : Nat) : Int)).natAbs (1 * ((z.natAbs * 10000 + gd a.natAbs i.toNat : Nat) : Int)).natAbs) ≤ (0 : Int))) = true := decide_eq_true ((zq_cmp _ _ _).2 hc40)
       refine CG.yes ?_ hk40 rfl
       refine CG.lin 2 ?_
       refine GL.v (.int .i64 (((l + h) / 2 : Nat) : Int)) ?_
       refine GL.v (.int .i64 (((l + h) / 2 : Nat) : Int)) ?_
       refine GL.q ?_
       refine QG.block ?_
       refine QG.again fun _ hM => ?_
       exact ⟨h - ((l + h) / 2), (by omega), ((l + h) / 2), h, (fun t => (#[.agg #[.int .i64 s1, .slice A1 n1 c1], .agg #[.int .i64 s2, .slice A2 n2 c2], .pointer (some ⟨g21, 0, none⟩), .pointer (some ⟨g22, 0, none⟩), .pointer (some ⟨g23, 0, none⟩), .pointer (some ⟨g24, 0, none⟩), .slice (some ⟨g25, 0, none⟩) n1 n1, .pointer (some ⟨g27, 0, none⟩), .pointer (some ⟨g28, 0, none⟩), .int .i64 i, .int .i64 (((l + h) / 2 : Nat) : Int), .int .i64 (h : Int), .int .i64 (((l + h) / 2 : Nat) : Int), undef, .pointer (some ⟨g21, 1, none⟩), .slice A1 n1 c1, .int .i64 (n1 : Int), .slice (some ⟨g25, 0, none⟩) n1 n1, .agg #[.int .i64 0, .slice none 0 0], .agg #[.int .i64 s2, .slice A2 n2 c2], .agg #[.int .i64 s26, .slice A26 n26 c26], .pointer (some ⟨g21, 1, none⟩), .slice A1 n1 c1, .int .i64 (n1 : Int), .int .i64 ((n1 : Int) - (1 : Int)), .int .i64 i, .bool (decide (i ≥ (0 : Int))), (j29 27), (j29 28), .pointer (some ⟨g21, 1, none⟩), .slice A1 n1 c1, .int .i64 i, elemPtr A1 ((i).toNat), .int .i64 ((gd a.natAbs i.toNat : Nat) : Int), .slice (some ⟨g32, 0, none⟩) 1 1, .pointer (some ⟨g27, 1, none⟩), .slice Ao no co, .slice (some ⟨g33, 0, none⟩) (1 + no) c33, .agg #[.int .i64 s34, .slice A34 n34 c34], .int .i64 (h : Int), .int .i64 (l : Int), .int .i64 ((h : Int) - (l : Int)), .bool (decide (((h : Int) - (l : Int)) > (1 : Int))), .int .i64 (l : Int), .int .i64 (h : Int), .int .i64 ((l + h : Nat) : Int), .int .i64 (((l + h) / 2 : Nat) : Int), .agg #[.int .i64 s26, .slice A26 n26 c26], .int .i64 (((l + h) / 2 : Nat) : Int), .agg #[.int .i64 s38, .slice A38 n38 c38], .agg #[.int .i64 s34, .slice A34 n34 c34], .int .i64 (cmpN ((d.natAbs : Int) * (((l + h) / 2 : Nat) : Int)).natAbs (1 * ((z.natAbs * 10000 + gd a.natAbs i.toNat : Nat) : Int)).natAbs), .bool (decide ((cmpN ((d.natAbs : Int) * (((l + h) / 2 : Nat) : Int)).natAbs (1 * ((z.natAbs * 10000 + gd a.natAbs i.toNat : Nat) : Int)).natAbs) ≤ (0 : Int))), .int .i64 (((l + h) / 2 : Nat) : Int), (j35 54), (j29 55), (j29 56), (j29 57), (j29 58), (j29 59), (j29 60), (j29 61), (j29 62), (j29 63), undef, undef, undef, undef, undef, undef, undef, undef, undef, undef, undef, undef, undef, undef, undef, undef, undef, undef, undef, undef, undef, undef, undef, undef, undef] : Array Value).getD t undef), (by kernel_rfl), rfl, ((((((hM.clr).add (hM.f 6 rfl)).add (hM.f 5 rfl)).add (hM.f 4 rfl)).add (hM.f 3 rfl)).add (hM.f 2 rfl)).add (hM.f 1 rfl), (by omega), (by first | assumption | omega), (by first | assumption | omega)⟩
     · have hk40 : (decide ((cmpN ((d.natAbs : Int) * (((l + h) / 2 : Nat) : Int)).natAbs (1 * ((z.natAbs * 10000 + gd a.natAbs i.toNat : Nat) : Int)).natAbs) ≤ (0 : Int))) = false := decide_eq_false (fun h => hc40 ((zq_cmp _ _ _).1 h))
       refine CG.no ?_ hk40 rfl
       refine CG.lin 2 ?_
       refine GL.v (.int .i64 (((l + h) / 2 : Nat) : Int)) ?_
       refine GL.v (.int .i64 (((l + h) / 2 : Nat) : Int)) ?_
       refine GL.q ?_
       refine QG.block ?_
       refine QG.again fun _ hM => ?_
       exact ⟨((l + h) / 2) - l, (by omega), l, ((l + h) / 2), (fun t => (#[.agg #[.int .i64 s1, .slice A1 n1 c1], .agg #[.int .i64 s2, .slice A2 n2 c2], .pointer (some ⟨g21, 0, none⟩), .pointer (some ⟨g22, 0, none⟩), .pointer (some ⟨g23, 0, none⟩), .pointer (some ⟨g24, 0, none⟩), .slice (some ⟨g25, 0, none⟩) n1 n1, .pointer (some ⟨g27, 0, none⟩), .pointer (some ⟨g28, 0, none⟩), .int .i64 i, .int .i64 (l : Int), .int .i64 (((l + h) / 2 : Nat) : Int), .int .i64 (((l + h) / 2 : Nat) : Int), undef, .pointer (some ⟨g21, 1, none⟩), .slice A1 n1 c1, .int .i64 (n1 : Int), .slice (some ⟨g25, 0, none⟩) n1 n1, .agg #[.int .i64 0, .slice none 0 0], .agg #[.int .i64 s2, .slice A2 n2 c2], .agg #[.int .i64 s26, .slice A26 n26 c26], .pointer (some ⟨g21, 1, none⟩), .slice A1 n1 c1, .int .i64 (n1 : Int), .int .i64 ((n1 : Int) - (1 : Int)), .int .i64 i, .bool (decide (i ≥ (0 : Int))), (j29 27), (j29 28), .pointer (some ⟨g21, 1, none⟩), .slice A1 n1 c1, .int .i64 i, elemPtr A1 ((i).toNat), .int .i64 ((gd a.natAbs i.toNat : Nat) : Int), .slice (some ⟨g32, 0, none⟩) 1 1, .pointer (some ⟨g27, 1, none⟩), .slice Ao no co, .slice (some ⟨g33, 0, none⟩) (1 + no) c33, .agg #[.int .i64 s34, .slice A34 n34 c34], .int .i64 (h : Int), .int .i64 (l : Int), .int .i64 ((h : Int) - (l : Int)), .bool (decide (((h : Int) - (l : Int)) > (1 : Int))), .int .i64 (l : Int), .int .i64 (h : Int), .int .i64 ((l + h : Nat) : Int), .int .i64 (((l + h) / 2 : Nat) : Int), .agg #[.int .i64 s26, .slice A26 n26 c26], .int .i64 (((l + h) / 2 : Nat) : Int), .agg #[.int .i64 s38, .slice A38 n38 c38], .agg #[.int .i64 s34, .slice A34 n34 c34], .int .i64 (cmpN ((d.natAbs : Int) * (((l + h) / 2 : Nat) : Int)).natAbs (1 * ((z.natAbs * 10000 + gd a.natAbs i.toNat : Nat) : Int)).natAbs), .bool (decide ((cmpN ((d.natAbs : Int) * (((l + h) / 2 : Nat) : Int)).natAbs (1 * ((z.natAbs * 10000 + gd a.natAbs i.toNat : Nat) : Int)).natAbs) ≤ (0 : Int))), (j35 53), .int .i64 (((l + h) / 2 : Nat) : Int), (j29 55), (j29 56), (j29 57), (j29 58), (j29 59), (j29 60), (j29 61), (j29 62), (j29 63), undef, undef, undef, undef, undef, undef, undef, undef, undef, undef, undef, undef, undef, undef, undef, undef, undef, undef, undef, undef, undef, undef, undef, undef, undef] : Array Value).getD t undef), (by kernel_rfl), rfl, ((((((hM.clr).add (hM.f 6 rfl)).add (hM.f 5 rfl)).add (hM.f 4 rfl)).add (hM.f 3 rfl)).add (hM.f 2 rfl)).add (hM.f 1 rfl), (by omega), (by first | assumption | omega), (by first | assumption | omega)⟩
   · have hk36 : (decide (((h : Int) - (l : Int)) > (1 : Int))) = false := decide_eq_false hc36
     refine CG.no ?_ hk36 rfl
     refine CG.exit (QG.then_exit (QG.then_exit (QG.here ?_)))
     refine QG.k k3 ?_
     refine CG.seq fun K_ k3 => ?_
     refine CG.lin 5 ?_
     refine GL.v (.slice (some ⟨g25, 0, none⟩) n1 n1) ?_
     refine GL.v (.int .i64 i) ?_
     refine GL.v (.int .i64 (l : Int)) ?_
     refine GL.r (elemPtr (some ⟨g25, 0, none⟩) ((i).toNat)) (fun _ hM => op_index rowt29 (c := n1) (k := .i64) (i := i) ((i).toNat) (by kernel_rfl) (by kernel_rfl) (by omega) (by omega) (hM.o 2 rfl).row _) ?_
     refine GL.el (fun _ _ _ => Mem.el2) (fun _ hM => op_set_i64 ((i).toNat) (l : Int) siz3 (hM.o 2 rfl) (by kernel_rfl) (by kernel_rfl) (by omega)) ?_
     refine GL.k k3 ?_
     refine CG.draw [] [0, 1, 2] (.step 0 (.step 1 (.step 2 (.step 3 (.step 4 (.step 5 .done)))))) (fun V hV41 => ?_)
     refine GD.er (.agg #[.int .i64 s34, .slice A34 n34 c34]) (fun _ hS => op_load_agg (off := 0) (by kernel_rfl) agg31 siz31 (hV41.bS 1 rfl hS) rfl rfl) ?_
     refine GD.er (.agg #[.int .i64 s26, .slice A26 n26 c26]) (fun _ hS => op_load_agg (off := 0) (by kernel_rfl) agg31 siz31 (hV41.bS 0 rfl hS) rfl rfl) ?_
     refine GD.ev (.int .i64 (l : Int)) ?_
     have hsl : szg (l : Int) ≤ 2 := szg_le (by omega)
     have hzr := zq_szR (g := gd a.natAbs i.toNat) hz.2 (Nat.mod_lt _ (by decide))
     have hsa := szg_abs d
     refine GD.call (fun _ hM => ntimes_ok hM.avlt (l : Int) (hM.f 3 rfl) (by first | assumption | omega) (by first | assumption | omega)) ?_
     rintro _ _ _ hM ⟨s42, A42, n42, c42, rfl, h42, hb⟩
     have hs42 := szg_mul (d.natAbs : Int) (l : Int)
     refine ⟨_, _, _, rfl, hb, (hM.call hb).add h42, ?_⟩
     refine GD.call (fun _ hM => ZSub_ok hM.avlt (hM.f 1 rfl) (hM.f 0 rfl) (by first | assumption | omega)) ?_
     rintro _ _ _ hM ⟨s43, A43, n43, c43, rfl, h43, hb⟩
     have hs43 := szg_sub ((1 * ((z.natAbs * 10000 + gd a.natAbs i.toNat : Nat) : Int))) (((d.natAbs : Int) * (l : Int)))
     refine ⟨_, _, _, rfl, hb, (hM.call hb).add h43, ?_⟩
     refine GD.st (fun _ _ => Mem.st1) (fun _ hM => store_all (cs' := #[.int .i64 s43, .slice A43 n43 c43]) siz31 (hM.b 1 rfl) (by kernel_rfl) (by kernel_rfl) rfl rfl rfl) ?_
     refine GD.q ?_
     refine QG.block ?_
     refine QG.k k2 ?_
     refine CG.lin 3 ?_
     refine GL.v (.int .i64 i) ?_
     refine GL.v (.int .i64 (i - (1 : Int))) ?_ (hr := fun u => op_to (v := .int .i64 (IntKind.wrap .i64 (i - (1 : Int)))) (by kernel_rfl) (wrap_i64 rfl (by omega) (by omega)))
     refine GL.v (.int .i64 (i - (1 : Int))) ?_
     refine GL.q ?_
     refine QG.again fun _ hM => ?_
     have hI2 : 0 ≤ i := by omega
     exact ⟨((i - (1 : Int)) + 1).toNat, (by omega), s43, A43, n43, c43, ((1 * ((z.natAbs * 10000 + gd a.natAbs i.toNat : Nat) : Int)) - ((d.natAbs : Int) * (l : Int))), (i - (1 : Int)), (Q * 10000 + l), (M.set ((i).toNat) (l : Int)), (fun t => (#[.agg #[.int .i64 s1, .slice A1 n1 c1], .agg #[.int .i64 s2, .slice A2 n2 c2], .pointer (some ⟨g21, 0, none⟩), .pointer (some ⟨g22, 0, none⟩), .pointer (some ⟨g23, 0, none⟩), .pointer (some ⟨g24, 0, none⟩), .slice (some ⟨g25, 0, none⟩) n1 n1, .pointer (some ⟨g27, 0, none⟩), .pointer (some ⟨g28, 0, none⟩), .int .i64 (i - (1 : Int)), .int .i64 (l : Int), .int .i64 (h : Int), (j35 12), undef, .pointer (some ⟨g21, 1, none⟩), .slice A1 n1 c1, .int .i64 (n1 : Int), .slice (some ⟨g25, 0, none⟩) n1 n1, .agg #[.int .i64 0, .slice none 0 0], .agg #[.int .i64 s2, .slice A2 n2 c2], .agg #[.int .i64 s26, .slice A26 n26 c26], .pointer (some ⟨g21, 1, none⟩), .slice A1 n1 c1, .int .i64 (n1 : Int), .int .i64 ((n1 : Int) - (1 : Int)), .int .i64 i, .bool (decide (i ≥ (0 : Int))), .int .i64 i, .int .i64 (i - (1 : Int)), .pointer (some ⟨g21, 1, none⟩), .slice A1 n1 c1, .int .i64 i, elemPtr A1 ((i).toNat), .int .i64 ((gd a.natAbs i.toNat : Nat) : Int), .slice (some ⟨g32, 0, none⟩) 1 1, .pointer (some ⟨g27, 1, none⟩), .slice Ao no co, .slice (some ⟨g33, 0, none⟩) (1 + no) c33, .agg #[.int .i64 s34, .slice A34 n34 c34], .int .i64 (h : Int), .int .i64 (l : Int), .int .i64 ((h : Int) - (l : Int)), .bool (decide (((h : Int) - (l : Int)) > (1 : Int))), (j35 43), (j35 44), (j35 45), (j35 46), (j35 47), (j35 48), (j35 49), (j35 50), (j35 51), (j35 52), (j35 53), (j35 54), .slice (some ⟨g25, 0, none⟩) n1 n1, .int .i64 i, .int .i64 (l : Int), elemPtr (some ⟨g25, 0, none⟩) ((i).toNat), .agg #[.int .i64 s34, .slice A34 n34 c34], .agg #[.int .i64 s26, .slice A26 n26 c26], .int .i64 (l : Int), .agg #[.int .i64 s42, .slice A42 n42 c42], .agg #[.int .i64 s43, .slice A43 n43 c43], undef, undef, undef, undef, undef, undef, undef, undef, undef, undef, undef, undef, undef, undef, undef, undef, undef, undef, undef, undef, undef, undef, undef, undef, undef] : Array Value).getD t undef), (by kernel_rfl), rfl, ((((hM.clr).add (hM.f 7 rfl)).add (hM.f 6 rfl)).add (hM.f 5 rfl)).add (hM.f 0 rfl), (by omega), (zq_next hlo (zq_last (by omega) hlo hhi)), (zq_A hA hI2 hlo), (zq_V (by omega) (hMZ _ (by omega)) hV hI2), (fun j hj => by rw [set_get _ (by omega), if_neg (by omega)]; exact hMZ j (by omega)), (set_bound (by omega) hMB (by omega)), (szg_mono (Nat.le_of_lt (zq_next hlo (zq_last (by omega) hlo hhi)).2))⟩
 · have hk30 : (decide (i ≥ (0 : Int))) = false := decide_eq_false hc30
   refine CG.no ?_ hk30 rfl
   refine CG.exit (QG.then_exit (QG.then_exit (QG.here ?_)))
   refine QG.k k1 ?_
   refine CG.seq fun K_ k1 => ?_
   refine CG.lin 6 ?_
   refine GL.v (.pointer (some ⟨g21, 0, none⟩)) ?_
   refine GL.r (.int .i64 s1) (fun _ hM => op_load_one (off := 0) (by kernel_rfl) agg3 (hM.b 6 rfl) rfl) ?_
   refine GL.v (.slice (some ⟨g25, 0, none⟩) n1 n1) ?_
   have hB := zq_end (by omega) hA
   have hsQ := zq_szQ hs1 hd0 hB
   refine GL.mem (fun _ hM => hM.pu2 fun hO _ hX => SIk.own hO hX) ?_
   refine GL.call (fun _ hM => nmade_ok hM.avlt s1 (x := Q) (hM.f 0 rfl) (by rw [hV, show (i + 1).toNat = 0 by omega]; simp) (mem_of_get hMB (by decide) (by decide)) (zq_sgn hs1 hA (by omega)) (by first | assumption | omega)) ?_
   rintro _ _ _ hM ⟨s44, A44, n44, c44, rfl, h44, hb⟩
   refine ⟨_, _, _, rfl, (hM.call hb).add h44, ?_⟩
   refine GL.aA zer31 fun g45 => ?_
   refine GL.sA (cs' := #[.int .i64 s44, .slice A44 n44 c44]) (fun _ _ => Mem.st0) (fun _ hM => hM.b 0 rfl) siz31 ?_
   refine GL.k k1 ?_
   refine CG.seq fun K_ k1 => ?_
   refine CG.seq fun K_ k2 => ?_
   by_cases hc46 : s1 < (0 : Int)
   · have hk46 : (decide (s1 < (0 : Int))) = true := decide_eq_true hc46
     by_cases hc47 : so ≠ (0 : Int)
     · have hk47 : (so != (0 : Int)) = true := bne_iff_ne.2 hc47
       refine CG.lin 8 ?_
       refine GL.v (.pointer (some ⟨g21, 0, none⟩)) ?_
       refine GL.r (.int .i64 s1) (fun _ hM => op_load_one (off := 0) (by kernel_rfl) agg3 (hM.b 6 rfl) rfl) ?_
       refine GL.v (.bool true) ?_ (hr := fun u => op_b (b := (decide (s1 < (0 : Int)))) (by kernel_rfl) hk46)
       refine GL.v (.bool true) ?_
       refine GL.v (.pointer (some ⟨g27, 0, none⟩)) ?_
       refine GL.r (.int .i64 so) (fun _ hM => op_load_one (off := 0) (by kernel_rfl) agg3 (hM.b 2 rfl) rfl) ?_
       refine GL.v (.bool true) ?_ (hr := fun u => op_b (b := (so != (0 : Int))) (by kernel_rfl) hk47)
       refine GL.v (.bool true) ?_
       refine GL.k k2 ?_
       refine CG.yes ?_ rfl rfl
       refine CG.seq fun K_ k2 => ?_
       refine CG.draw [] [0] (.step 0 (.step 1 (.step 2 (.step 3 .done)))) (fun V hV48 => ?_)
       refine GD.er (.agg #[.int .i64 s44, .slice A44 n44 c44]) (fun _ hS => op_load_agg (off := 0) (by kernel_rfl) agg31 siz31 (hV48.bS 0 rfl hS) rfl rfl) ?_
       refine GD.call (fun _ hM => ZInt_ok hM.avlt (1) (by first | assumption | omega)) ?_
       rintro _ _ _ hM ⟨s49, A49, n49, c49, rfl, h49, hb⟩
       have hs49 := szg_i64 (1) (by omega)
       refine ⟨_, _, _, rfl, hb, (hM.call hb).add h49, ?_⟩
       refine GD.call (fun _ hM => ZSub_ok hM.avlt (hM.f 1 rfl) (hM.f 0 rfl) (by first | assumption | omega)) ?_
       rintro _ _ _ hM ⟨s50, A50, n50, c50, rfl, h50, hb⟩
       have hs50 := szg_sub ((s1 * (Q : Int))) (1)
       refine ⟨_, _, _, rfl, hb, (hM.call hb).add h50, ?_⟩
       refine GD.st (fun _ _ => Mem.st0) (fun _ hM => store_all (cs' := #[.int .i64 s50, .slice A50 n50 c50]) siz31 (hM.b 0 rfl) (by kernel_rfl) (by kernel_rfl) rfl rfl rfl) ?_
       refine GD.k k2 ?_
       refine CG.lin 4 ?_
       refine GL.r (.agg #[.int .i64 s26, .slice A26 n26 c26]) (fun _ hM => op_load_agg (off := 0) (by kernel_rfl) agg31 siz31 (hM.b 1 rfl) rfl rfl) ?_
       refine GL.r (.agg #[.int .i64 so, .slice Ao no co]) (fun _ hM => op_load_agg (off := 0) (by kernel_rfl) agg31 siz31 (hM.b 2 rfl) rfl rfl) ?_
       refine GL.call (fun _ hM => ZSub_ok hM.avlt (hM.f 5 rfl) (hM.f 4 rfl) (by first | assumption | omega)) ?_
       rintro _ _ _ hM ⟨s51, A51, n51, c51, rfl, h51, hb⟩
       have hs51 := szg_sub (d.natAbs : Int) z
       refine ⟨_, _, _, rfl, (hM.call hb).add h51, ?_⟩
       refine GL.sA (cs' := #[.int .i64 s51, .slice A51 n51 c51]) (fun _ _ => Mem.st2) (fun _ hM => hM.b 2 rfl) siz31 ?_
       refine GL.k k1 ?_
       refine CG.seq fun K_ k1 => ?_
       refine CG.seq fun K_ k2 => ?_
       refine CG.lin 3 ?_
       refine GL.v (.pointer (some ⟨g22, 0, none⟩)) ?_
       refine GL.r (.int .i64 s2) (fun _ hM => op_load_one (off := 0) (by kernel_rfl) agg3 (hM.b 5 rfl) rfl) ?_
       refine GL.v (.bool (decide (s2 < (0 : Int)))) ?_
       refine GL.k k2 ?_
       by_cases hc52 : s2 < (0 : Int)
       · have hk52 : (decide (s2 < (0 : Int))) = true := decide_eq_true hc52
         refine CG.yes ?_ hk52 rfl
         refine CG.lin 3 ?_
         refine GL.r (.agg #[.int .i64 s50, .slice A50 n50 c50]) (fun _ hM => op_load_agg (off := 0) (by kernel_rfl) agg31 siz31 (hM.b 0 rfl) rfl rfl) ?_
         refine GL.call (fun _ hM => ZNeg_ok hM.avlt (hM.f 1 rfl)) ?_
         rintro _ _ _ hM ⟨s53, A53, n53, c53, rfl, h53, hb⟩
         have hs53 := szg_neg (((s1 * (Q : Int)) - 1))
         refine ⟨_, _, _, rfl, (hM.call hb).add h53, ?_⟩
         refine GL.sA (cs' := #[.int .i64 s53, .slice A53 n53 c53]) (fun _ _ => Mem.st0) (fun _ hM => hM.b 0 rfl) siz31 ?_
         refine GL.k k1 ?_
         refine CG.seq fun K_ k1 => ?_
         refine CG.draw [g23] [0, 1] (.step 0 (.step 1 (.step 2 (.step 3 .done)))) (fun V hV54 => ?_)
         refine GD.er (.agg #[.int .i64 s53, .slice A53 n53 c53]) (fun _ hS => op_load_agg (off := 0) (by kernel_rfl) agg31 siz31 (hV54.bS 0 rfl hS (by simp only [List.mem_cons, List.not_mem_nil, or_false, not_or]; exact hV54.ne 0 4 rfl rfl (by decide))) rfl rfl) ?_
         refine GD.er (.agg #[.int .i64 s51, .slice A51 n51 c51]) (fun _ hS => op_load_agg (off := 0) (by kernel_rfl) agg31 siz31 (hV54.bS 2 rfl hS (by simp only [List.mem_cons, List.not_mem_nil, or_false, not_or]; exact hV54.ne 2 4 rfl rfl (by decide))) rfl rfl) ?_
         refine GD.st (fun _ _ => Mem.st4) (fun _ hM => store_all (cs' := #[.int .i64 s53, .slice A53 n53 c53]) siz31 (hM.b 4 rfl) (by kernel_rfl) (by kernel_rfl) rfl rfl rfl) ?_
         refine GD.st (fun _ _ => Mem.st3) (fun _ hM => store_all (cs' := #[.int .i64 s51, .slice A51 n51 c51]) siz31 (hM.b 3 rfl) (by kernel_rfl) (by kernel_rfl) rfl rfl rfl) ?_
         refine GD.k k1 ?_
         refine CG.ret (QG.ret (fun _ hM => results_two rfl (res_cell rfl (loadVar_agg agg31 siz31 (hM.b 4 rfl) rfl rfl)) (res_cell rfl (loadVar_agg agg31 siz31 (hM.b 3 rfl) rfl rfl))) ?_)
         intro _ hM
         exact ⟨_, _, _, _, _, _, _, _, rfl, (((zqA hd0 hs1 hs2 hso hz hB hc46 hc47).2.1 hc52) ▸ (hM.out (hM.f 0 rfl))), ((zqA hd0 hs1 hs2 hso hz hB hc46 hc47).1 ▸ (hM.out (hM.f 1 rfl))), hM.below⟩
       · have hk52 : (decide (s2 < (0 : Int))) = false := decide_eq_false hc52
         refine CG.no ?_ hk52 rfl
         refine CG.skip ?_
         refine QG.k k1 ?_
         refine CG.seq fun K_ k1 => ?_
         refine CG.draw [g23] [0, 1] (.step 0 (.step 1 (.step 2 (.step 3 .done)))) (fun V hV55 => ?_)
         refine GD.er (.agg #[.int .i64 s50, .slice A50 n50 c50]) (fun _ hS => op_load_agg (off := 0) (by kernel_rfl) agg31 siz31 (hV55.bS 0 rfl hS (by simp only [List.mem_cons, List.not_mem_nil, or_false, not_or]; exact hV55.ne 0 4 rfl rfl (by decide))) rfl rfl) ?_
         refine GD.er (.agg #[.int .i64 s51, .slice A51 n51 c51]) (fun _ hS => op_load_agg (off := 0) (by kernel_rfl) agg31 siz31 (hV55.bS 2 rfl hS (by simp only [List.mem_cons, List.not_mem_nil, or_false, not_or]; exact hV55.ne 2 4 rfl rfl (by decide))) rfl rfl) ?_
         refine GD.st (fun _ _ => Mem.st4) (fun _ hM => store_all (cs' := #[.int .i64 s50, .slice A50 n50 c50]) siz31 (hM.b 4 rfl) (by kernel_rfl) (by kernel_rfl) rfl rfl rfl) ?_
         refine GD.st (fun _ _ => Mem.st3) (fun _ hM => store_all (cs' := #[.int .i64 s51, .slice A51 n51 c51]) siz31 (hM.b 3 rfl) (by kernel_rfl) (by kernel_rfl) rfl rfl rfl) ?_
         refine GD.k k1 ?_
         refine CG.ret (QG.ret (fun _ hM => results_two rfl (res_cell rfl (loadVar_agg agg31 siz31 (hM.b 4 rfl) rfl rfl)) (res_cell rfl (loadVar_agg agg31 siz31 (hM.b 3 rfl) rfl rfl))) ?_)
         intro _ hM
         exact ⟨_, _, _, _, _, _, _, _, rfl, (((zqA hd0 hs1 hs2 hso hz hB hc46 hc47).2.2 hc52) ▸ (hM.out (hM.f 1 rfl))), ((zqA hd0 hs1 hs2 hso hz hB hc46 hc47).1 ▸ (hM.out (hM.f 0 rfl))), hM.below⟩
     · have hk47 : (so != (0 : Int)) = false := by simpa using hc47
       refine CG.lin 8 ?_
       refine GL.v (.pointer (some ⟨g21, 0, none⟩)) ?_
       refine GL.r (.int .i64 s1) (fun _ hM => op_load_one (off := 0) (by kernel_rfl) agg3 (hM.b 6 rfl) rfl) ?_
       refine GL.v (.bool true) ?_ (hr := fun u => op_b (b := (decide (s1 < (0 : Int)))) (by kernel_rfl) hk46)
       refine GL.v (.bool true) ?_
       refine GL.v (.pointer (some ⟨g27, 0, none⟩)) ?_
       refine GL.r (.int .i64 so) (fun _ hM => op_load_one (off := 0) (by kernel_rfl) agg3 (hM.b 2 rfl) rfl) ?_
       refine GL.v (.bool false) ?_ (hr := fun u => op_b (b := (so != (0 : Int))) (by kernel_rfl) hk47)
       refine GL.v (.bool false) ?_
       refine GL.k k2 ?_
       refine CG.no ?_ rfl rfl
       refine CG.skip ?_
       refine QG.k k1 ?_
       refine CG.seq fun K_ k1 => ?_
       refine CG.seq fun K_ k2 => ?_
       refine CG.lin 3 ?_
       refine GL.v (.pointer (some ⟨g22, 0, none⟩)) ?_
       refine GL.r (.int .i64 s2) (fun _ hM => op_load_one (off := 0) (by kernel_rfl) agg3 (hM.b 5 rfl) rfl) ?_
       refine GL.v (.bool (decide (s2 < (0 : Int)))) ?_
       refine GL.k k2 ?_
       by_cases hc56 : s2 < (0 : Int)
       · have hk56 : (decide (s2 < (0 : Int))) = true := decide_eq_true hc56
         refine CG.yes ?_ hk56 rfl
         refine CG.lin 3 ?_
         refine GL.r (.agg #[.int .i64 s44, .slice A44 n44 c44]) (fun _ hM => op_load_agg (off := 0) (by kernel_rfl) agg31 siz31 (hM.b 0 rfl) rfl rfl) ?_
         refine GL.call (fun _ hM => ZNeg_ok hM.avlt (hM.f 0 rfl)) ?_
         rintro _ _ _ hM ⟨s57, A57, n57, c57, rfl, h57, hb⟩
         have hs57 := szg_neg ((s1 * (Q : Int)))
         refine ⟨_, _, _, rfl, (hM.call hb).add h57, ?_⟩
         refine GL.sA (cs' := #[.int .i64 s57, .slice A57 n57 c57]) (fun _ _ => Mem.st0) (fun _ hM => hM.b 0 rfl) siz31 ?_
         refine GL.k k1 ?_
         refine CG.seq fun K_ k1 => ?_
         refine CG.draw [g23] [0, 1] (.step 0 (.step 1 (.step 2 (.step 3 .done)))) (fun V hV58 => ?_)
         refine GD.er (.agg #[.int .i64 s57, .slice A57 n57 c57]) (fun _ hS => op_load_agg (off := 0) (by kernel_rfl) agg31 siz31 (hV58.bS 0 rfl hS (by simp only [List.mem_cons, List.not_mem_nil, or_false, not_or]; exact hV58.ne 0 4 rfl rfl (by decide))) rfl rfl) ?_
         refine GD.er (.agg #[.int .i64 so, .slice Ao no co]) (fun _ hS => op_load_agg (off := 0) (by kernel_rfl) agg31 siz31 (hV58.bS 2 rfl hS (by simp only [List.mem_cons, List.not_mem_nil, or_false, not_or]; exact hV58.ne 2 4 rfl rfl (by decide))) rfl rfl) ?_
         refine GD.st (fun _ _ => Mem.st4) (fun _ hM => store_all (cs' := #[.int .i64 s57, .slice A57 n57 c57]) siz31 (hM.b 4 rfl) (by kernel_rfl) (by kernel_rfl) rfl rfl rfl) ?_
         refine GD.st (fun _ _ => Mem.st3) (fun _ hM => store_all (cs' := #[.int .i64 so, .slice Ao no co]) siz31 (hM.b 3 rfl) (by kernel_rfl) (by kernel_rfl) rfl rfl rfl) ?_
         refine GD.k k1 ?_
         refine CG.ret (QG.ret (fun _ hM => results_two rfl (res_cell rfl (loadVar_agg agg31 siz31 (hM.b 4 rfl) rfl rfl)) (res_cell rfl (loadVar_agg agg31 siz31 (hM.b 3 rfl) rfl rfl))) ?_)
         intro _ hM
         exact ⟨_, _, _, _, _, _, _, _, rfl, (((zqB hd0 hs1 hs2 hso hz hB (.inr hc47)).2.1 hc56) ▸ (hM.out (hM.f 0 rfl))), ((zqB hd0 hs1 hs2 hso hz hB (.inr hc47)).1 ▸ (hM.out (hM.f 3 rfl))), hM.below⟩
       · have hk56 : (decide (s2 < (0 : Int))) = false := decide_eq_false hc56
         refine CG.no ?_ hk56 rfl
         refine CG.skip ?_
         refine QG.k k1 ?_
         refine CG.seq fun K_ k1 => ?_
         refine CG.draw [g23] [0, 1] (.step 0 (.step 1 (.step 2 (.step 3 .done)))) (fun V hV59 => ?_)
         refine GD.er (.agg #[.int .i64 s44, .slice A44 n44 c44]) (fun _ hS => op_load_agg (off := 0) (by kernel_rfl) agg31 siz31 (hV59.bS 0 rfl hS (by simp only [List.mem_cons, List.not_mem_nil, or_false, not_or]; exact hV59.ne 0 4 rfl rfl (by decide))) rfl rfl) ?_
         refine GD.er (.agg #[.int .i64 so, .slice Ao no co]) (fun _ hS => op_load_agg (off := 0) (by kernel_rfl) agg31 siz31 (hV59.bS 2 rfl hS (by simp only [List.mem_cons, List.not_mem_nil, or_false, not_or]; exact hV59.ne 2 4 rfl rfl (by decide))) rfl rfl) ?_
         refine GD.st (fun _ _ => Mem.st4) (fun _ hM => store_all (cs' := #[.int .i64 s44, .slice A44 n44 c44]) siz31 (hM.b 4 rfl) (by kernel_rfl) (by kernel_rfl) rfl rfl rfl) ?_
         refine GD.st (fun _ _ => Mem.st3) (fun _ hM => store_all (cs' := #[.int .i64 so, .slice Ao no co]) siz31 (hM.b 3 rfl) (by kernel_rfl) (by kernel_rfl) rfl rfl rfl) ?_
         refine GD.k k1 ?_
         refine CG.ret (QG.ret (fun _ hM => results_two rfl (res_cell rfl (loadVar_agg agg31 siz31 (hM.b 4 rfl) rfl rfl)) (res_cell rfl (loadVar_agg agg31 siz31 (hM.b 3 rfl) rfl rfl))) ?_)
         intro _ hM
         exact ⟨_, _, _, _, _, _, _, _, rfl, (((zqB hd0 hs1 hs2 hso hz hB (.inr hc47)).2.2 hc56) ▸ (hM.out (hM.f 0 rfl))), ((zqB hd0 hs1 hs2 hso hz hB (.inr hc47)).1 ▸ (hM.out (hM.f 2 rfl))), hM.below⟩
   · have hk46 : (decide (s1 < (0 : Int))) = false := decide_eq_false hc46
     refine CG.lin 8 ?_
     refine GL.v (.pointer (some ⟨g21, 0, none⟩)) ?_
     refine GL.r (.int .i64 s1) (fun _ hM => op_load_one (off := 0) (by kernel_rfl) agg3 (hM.b 6 rfl) rfl) ?_
     refine GL.v (.bool false) ?_ (hr := fun u => op_b (b := (decide (s1 < (0 : Int)))) (by kernel_rfl) hk46)
     refine GL.v (.bool false) ?_
     refine GL.sk ?_
     refine GL.sk ?_
     refine GL.sk ?_
     refine GL.v (.bool false) ?_
     refine GL.k k2 ?_
     refine CG.no ?_ rfl rfl
     refine CG.skip ?_
     refine QG.k k1 ?_
     refine CG.seq fun K_ k1 => ?_
     refine CG.seq fun K_ k2 => ?_
     refine CG.lin 3 ?_
     refine GL.v (.pointer (some ⟨g22, 0, none⟩)) ?_
     refine GL.r (.int .i64 s2) (fun _ hM => op_load_one (off := 0) (by kernel_rfl) agg3 (hM.b 5 rfl) rfl) ?_
     refine GL.v (.bool (decide (s2 < (0 : Int)))) ?_
     refine GL.k k2 ?_
     by_cases hc60 : s2 < (0 : Int)
     · have hk60 : (decide (s2 < (0 : Int))) = true := decide_eq_true hc60
       refine CG.yes ?_ hk60 rfl
       refine CG.lin 3 ?_
       refine GL.r (.agg #[.int .i64 s44, .slice A44 n44 c44]) (fun _ hM => op_load_agg (off := 0) (by kernel_rfl) agg31 siz31 (hM.b 0 rfl) rfl rfl) ?_
       refine GL.call (fun _ hM => ZNeg_ok hM.avlt (hM.f 0 rfl)) ?_
       rintro _ _ _ hM ⟨s61, A61, n61, c61, rfl, h61, hb⟩
       have hs61 := szg_neg ((s1 * (Q : Int)))
       refine ⟨_, _, _, rfl, (hM.call hb).add h61, ?_⟩
       refine GL.sA (cs' := #[.int .i64 s61, .slice A61 n61 c61]) (fun _ _ => Mem.st0) (fun _ hM => hM.b 0 rfl) siz31 ?_
       refine GL.k k1 ?_
       refine CG.seq fun K_ k1 => ?_
       refine CG.draw [g23] [0, 1] (.step 0 (.step 1 (.step 2 (.step 3 .done)))) (fun V hV62 => ?_)
       refine GD.er (.agg #[.int .i64 s61, .slice A61 n61 c61]) (fun _ hS => op_load_agg (off := 0) (by kernel_rfl) agg31 siz31 (hV62.bS 0 rfl hS (by simp only [List.mem_cons, List.not_mem_nil, or_false, not_or]; exact hV62.ne 0 4 rfl rfl (by decide))) rfl rfl) ?_
       refine GD.er (.agg #[.int .i64 so, .slice Ao no co]) (fun _ hS => op_load_agg (off := 0) (by kernel_rfl) agg31 siz31 (hV62.bS 2 rfl hS (by simp only [List.mem_cons, List.not_mem_nil, or_false, not_or]; exact hV62.ne 2 4 rfl rfl (by decide))) rfl rfl) ?_
       refine GD.st (fun _ _ => Mem.st4) (fun _ hM => store_all (cs' := #[.int .i64 s61, .slice A61 n61 c61]) siz31 (hM.b 4 rfl) (by kernel_rfl) (by kernel_rfl) rfl rfl rfl) ?_
       refine GD.st (fun _ _ => Mem.st3) (fun _ hM => store_all (cs' := #[.int .i64 so, .slice Ao no co]) siz31 (hM.b 3 rfl) (by kernel_rfl) (by kernel_rfl) rfl rfl rfl) ?_
       refine GD.k k1 ?_
       refine CG.ret (QG.ret (fun _ hM => results_two rfl (res_cell rfl (loadVar_agg agg31 siz31 (hM.b 4 rfl) rfl rfl)) (res_cell rfl (loadVar_agg agg31 siz31 (hM.b 3 rfl) rfl rfl))) ?_)
       intro _ hM
       exact ⟨_, _, _, _, _, _, _, _, rfl, (((zqB hd0 hs1 hs2 hso hz hB (.inl hc46)).2.1 hc60) ▸ (hM.out (hM.f 0 rfl))), ((zqB hd0 hs1 hs2 hso hz hB (.inl hc46)).1 ▸ (hM.out (hM.f 3 rfl))), hM.below⟩
     · have hk60 : (decide (s2 < (0 : Int))) = false := decide_eq_false hc60
       refine CG.no ?_ hk60 rfl
       refine CG.skip ?_
       refine QG.k k1 ?_
       refine CG.seq fun K_ k1 => ?_
       refine CG.draw [g23] [0, 1] (.step 0 (.step 1 (.step 2 (.step 3 .done)))) (fun V hV63 => ?_)
       refine GD.er (.agg #[.int .i64 s44, .slice A44 n44 c44]) (fun _ hS => op_load_agg (off := 0) (by kernel_rfl) agg31 siz31 (hV63.bS 0 rfl hS (by simp only [List.mem_cons, List.not_mem_nil, or_false, not_or]; exact hV63.ne 0 4 rfl rfl (by decide))) rfl rfl) ?_
       refine GD.er (.agg #[.int .i64 so, .slice Ao no co]) (fun _ hS => op_load_agg (off := 0) (by kernel_rfl) agg31 siz31 (hV63.bS 2 rfl hS (by simp only [List.mem_cons, List.not_mem_nil, or_false, not_or]; exact hV63.ne 2 4 rfl rfl (by decide))) rfl rfl) ?_
       refine GD.st (fun _ _ => Mem.st4) (fun _ hM => store_all (cs' := #[.int .i64 s44, .slice A44 n44 c44]) siz31 (hM.b 4 rfl) (by kernel_rfl) (by kernel_rfl) rfl rfl rfl) ?_
       refine GD.st (fun _ _ => Mem.st3) (fun _ hM => store_all (cs' := #[.int .i64 so, .slice Ao no co]) siz31 (hM.b 3 rfl) (by kernel_rfl) (by kernel_rfl) rfl rfl rfl) ?_
       refine GD.k k1 ?_
       refine CG.ret (QG.ret (fun _ hM => results_two rfl (res_cell rfl (loadVar_agg agg31 siz31 (hM.b 4 rfl) rfl rfl)) (res_cell rfl (loadVar_agg agg31 siz31 (hM.b 3 rfl) rfl rfl))) ?_)
       intro _ hM
       exact ⟨_, _, _, _, _, _, _, _, rfl, (((zqB hd0 hs1 hs2 hso hz hB (.inl hc46)).2.2 hc60) ▸ (hM.out (hM.f 0 rfl))), ((zqB hd0 hs1 hs2 hso hz hB (.inl hc46)).1 ▸ (hM.out (hM.f 2 rfl))), hM.below⟩

set_option maxRecDepth 100000 in
set_option maxHeartbeats 400000 in
theorem NGcd_ok {w : World} {X : Nat → Prop} {s1 : Int} {A1 : Option Addr} {n1 : Nat} {c1 : Nat} {a : Int} {s2 : Int} {A2 : Option Addr} {n2 : Nat} {c2 : Nat} {b : Int} (hX : ∀ k, X k → k < w.heap.size) (h1 : NZk.R X w [.int .i64 s1, .slice A1 n1 c1] a) (h2 : NZk.R X w [.int .i64 s2, .slice A2 n2 c2] b) (p1 : szg a + szg b ≤ 1073740000) :
    Calls Tryz.prog 16 #[.agg #[.int .i64 s1, .slice A1 n1 c1], .agg #[.int .i64 s2, .slice A2 n2 c2]] w (fun e w' => ∃ sr Ar nr cr, e = .returned (.agg #[.int .i64 sr, .slice Ar nr cr]) ∧ NZk.R X w' [.int .i64 sr, .slice Ar nr cr] (Int.gcd a b : Int) ∧ Below w.heap.size w w') := by
 have hM := ((Mem.start hX).add0 h1).add0 h2
 have hga := szg_abs a
 have hgb := szg_abs b
 refine calls_of hM Tryz.func16 Tryz.ntmps16 ?_
 refine CG.seq fun K_ k1 => ?_
 refine CG.lin 3 ?_
 refine GL.bA #[.int .i64 s1, .slice A1 n1 c1] fun g21 => ?_
 refine GL.bA #[.int .i64 s2, .slice A2 n2 c2] fun g22 => ?_
 refine GL.aA zer31 fun g23 => ?_
 refine GL.k k1 ?_
 refine CG.seq fun K_ k1 => ?_
 refine CG.draw [] [0, 2] (.step 0 (.step 2 (.step 1 (.step 3 (.step 4 (.step 5 .done)))))) (fun V hV24 => ?_)
 refine GD.er (.agg #[.int .i64 s1, .slice A1 n1 c1]) (fun _ hS => op_load_agg (off := 0) (by kernel_rfl) agg31 siz31 (hV24.bS 2 rfl hS) rfl rfl) ?_
 refine GD.er (.agg #[.int .i64 s2, .slice A2 n2 c2]) (fun _ hS => op_load_agg (off := 0) (by kernel_rfl) agg31 siz31 (hV24.bS 1 rfl hS) rfl rfl) ?_
 refine GD.call (fun _ hM => NZAbs_ok hM.avlt (hM.f 1 rfl)) ?_
 rintro _ _ _ hM ⟨s25, A25, n25, c25, rfl, h25, hb⟩
 have hs25 := szg_abs a
 refine ⟨_, _, _, rfl, hb, (hM.call hb).add h25, ?_⟩
 refine GD.call (fun _ hM => NZAbs_ok hM.avlt (hM.f 1 rfl)) ?_
 rintro _ _ _ hM ⟨s26, A26, n26, c26, rfl, h26, hb⟩
 have hs26 := szg_abs b
 refine ⟨_, _, _, rfl, hb, (hM.call hb).add h26, ?_⟩
 refine GD.st (fun _ _ => Mem.st2) (fun _ hM => store_all (cs' := #[.int .i64 s25, .slice A25 n25 c25]) siz31 (hM.b 2 rfl) (by kernel_rfl) (by kernel_rfl) rfl rfl rfl) ?_
 refine GD.st (fun _ _ => Mem.st1) (fun _ hM => store_all (cs' := #[.int .i64 s26, .slice A26 n26 c26]) siz31 (hM.b 1 rfl) (by kernel_rfl) (by kernel_rfl) rfl rfl rfl) ?_
 refine GD.k k1 ?_
 refine CG.seq fun K_ k1 => ?_
 refine CG.block ?_
 refine CG.loop (fun m_ a_ u_ => ∃ (sp : Int) (Ap : Option Addr) (np : Nat) (cp : Nat) (p : Int) (sq : Int) (Aq : Option Addr) (nq : Nat) (cq : Nat) (q : Int) (j27 : Nat → Value), a_ = ⟨#[.agg #[.int .i64 s1, .slice A1 n1 c1], .agg #[.int .i64 s2, .slice A2 n2 c2], .pointer (some ⟨g21, 0, none⟩), .pointer (some ⟨g22, 0, none⟩), .pointer (some ⟨g23, 0, none⟩), (j27 5), (j27 6), (j27 7), (j27 8), .agg #[.int .i64 s1, .slice A1 n1 c1], .agg #[.int .i64 s25, .slice A25 n25 c25], .agg #[.int .i64 s2, .slice A2 n2 c2], .agg #[.int .i64 s26, .slice A26 n26 c26], (j27 13), (j27 14), (j27 15), (j27 16), (j27 17), (j27 18), (j27 19), (j27 20), (j27 21), (j27 22), (j27 23), (j27 24), (j27 25), (j27 26), (j27 27), (j27 28), (j27 29), (j27 30), (j27 31), (j27 32), (j27 33), (j27 34), (j27 35), (j27 36), (j27 37), (j27 38), (j27 39), (j27 40), (j27 41), (j27 42), (j27 43), (j27 44), (j27 45), undef], []⟩ ∧ m_ = q.natAbs ∧ Mem w [] X u_ [.box g23 #[.int .i64 0, .slice none 0 0] 31, .box g22 #[.int .i64 sq, .slice Aq nq cq] 31, .box g21 #[.int .i64 sp, .slice Ap np cp] 31] [⟨NZk, [.int .i64 sp, .slice Ap np cp], p⟩, ⟨NZk, [.int .i64 sq, .slice Aq nq cq], q⟩, ⟨NZk, [.int .i64 s26, .slice A26 n26 c26], (b.natAbs : Int)⟩, ⟨NZk, [.int .i64 s25, .slice A25 n25 c25], (a.natAbs : Int)⟩, ⟨NZk, [.int .i64 s2, .slice A2 n2 c2], b⟩, ⟨NZk, [.int .i64 s1, .slice A1 n1 c1], a⟩] ∧ (Int.gcd p q = Int.gcd a b) ∧ (0 ≤ p ∧ 0 ≤ q) ∧ (szg p ≤ szg a + szg b ∧ szg q ≤ szg a + szg b)) (fun _ hM => ⟨_, s25, A25, n25, c25, (a.natAbs : Int), s26, A26, n26, c26, (b.natAbs : Int), (fun t => (#[.agg #[.int .i64 s1, .slice A1 n1 c1], .agg #[.int .i64 s2, .slice A2 n2 c2], .pointer (some ⟨g21, 0, none⟩), .pointer (some ⟨g22, 0, none⟩), .pointer (some ⟨g23, 0, none⟩), undef, undef, undef, undef, .agg #[.int .i64 s1, .slice A1 n1 c1], .agg #[.int .i64 s25, .slice A25 n25 c25], .agg #[.int .i64 s2, .slice A2 n2 c2], .agg #[.int .i64 s26, .slice A26 n26 c26], undef, undef, undef, undef, undef, undef, undef, undef, undef, undef, undef, undef, undef, undef, undef, undef, undef, undef, undef, undef, undef, undef, undef, undef, undef, undef, undef, undef, undef, undef, undef, undef, undef, undef] : Array Value).getD t undef), (by kernel_rfl), rfl, ((((((hM.clr).add (hM.f 3 rfl)).add (hM.f 2 rfl)).add (hM.f 1 rfl)).add (hM.f 0 rfl)).add (hM.f 0 rfl)).add (hM.f 1 rfl), rfl, (by omega), (by omega)⟩) ?_
 rintro m_ a_ u_ ⟨sp, Ap, np, cp, p, sq, Aq, nq, cq, q, j27, rfl, hm27, hM, hG, h0, hsz⟩
 have hsp := NZk.sgn (hM.f 0 rfl)
 have hsq := NZk.sgn (hM.f 1 rfl)
 have hzp := NZk.szg (hM.f 0 rfl)
 have hzq := NZk.szg (hM.f 1 rfl)
 refine CG.go hM ?_
 refine CG.seq fun K_ k2 => ?_
 refine CG.seq fun K_ k3 => ?_
 refine CG.lin 3 ?_
 refine GL.v (.pointer (some ⟨g22, 0, none⟩)) ?_
 refine GL.r (.int .i64 sq) (fun _ hM => op_load_one (off := 0) (by kernel_rfl) agg3 (hM.b 1 rfl) rfl) ?_
 refine GL.v (.bool (sq != (0 : Int))) ?_
 refine GL.k k3 ?_
 by_cases hc28 : sq ≠ (0 : Int)
 · have hk28 : (sq != (0 : Int)) = true := bne_iff_ne.2 hc28
   refine CG.yes ?_ hk28 rfl
   refine CG.skip ?_
   refine QG.k k2 ?_
   refine CG.block ?_
   refine CG.seq fun K_ k2 => ?_
   refine CG.seq fun K_ k3 => ?_
   by_cases hc29 : (np : Int) ≤ (4 : Int)
   · have hk29 : (decide ((np : Int) ≤ (4 : Int))) = true := decide_eq_true hc29
     by_cases hc30 : (nq : Int) ≤ (4 : Int)
     · have hk30 : (decide ((nq : Int) ≤ (4 : Int))) = true := decide_eq_true hc30
       refine CG.lin 10 ?_
       refine GL.v (.pointer (some ⟨g21, 1, none⟩)) ?_
       refine GL.r (.slice Ap np cp) (fun _ hM => op_load_one (off := 1) (by kernel_rfl) agg29 (hM.b 2 rfl) rfl) ?_
       refine GL.v (.int .i64 (np : Int)) ?_
       refine GL.v (.bool true) ?_ (hr := fun u => op_b (b := (decide ((np : Int) ≤ (4 : Int)))) (by kernel_rfl) hk29)
       refine GL.v (.bool true) ?_
       refine GL.v (.pointer (some ⟨g22, 1, none⟩)) ?_
       refine GL.r (.slice Aq nq cq) (fun _ hM => op_load_one (off := 1) (by kernel_rfl) agg29 (hM.b 1 rfl) rfl) ?_
       refine GL.v (.int .i64 (nq : Int)) ?_
       refine GL.v (.bool true) ?_ (hr := fun u => op_b (b := (decide ((nq : Int) ≤ (4 : Int)))) (by kernel_rfl) hk30)
       refine GL.v (.bool true) ?_
       refine GL.k k3 ?_
       refine CG.yes ?_ rfl rfl
       refine CG.seq fun K_ k3 => ?_
       refine CG.draw [] [0, 2] (.step 0 (.step 2 (.step 1 (.step 3 (.step 4 (.step 5 .done)))))) (fun V hV31 => ?_)
       refine GD.er (.agg #[.int .i64 sp, .slice Ap np cp]) (fun _ hS => op_load_agg (off := 0) (by kernel_rfl) agg31 siz31 (hV31.bS 2 rfl hS) rfl rfl) ?_
       refine GD.er (.agg #[.int .i64 sq, .slice Aq nq cq]) (fun _ hS => op_load_agg (off := 0) (by kernel_rfl) agg31 siz31 (hV31.bS 1 rfl hS) rfl rfl) ?_
       have hps := ng_small (z := p) h0.1 (by omega)
       have hqs := ng_small (z := q) h0.2 (by omega)
       refine GD.call (fun _ hM => value_ok hM.avlt (hM.f 0 rfl) (by first | assumption | omega)) ?_
       rintro _ _ _ hM ⟨rfl, hb⟩
       refine ⟨_, _, _, rfl, hb, hM.call hb, ?_⟩
       refine GD.call (fun _ hM => value_ok hM.avlt (hM.f 1 rfl) (by first | assumption | omega)) ?_
       rintro _ _ _ hM ⟨rfl, hb⟩
       refine ⟨_, _, _, rfl, hb, hM.call hb, ?_⟩
       refine GD.v (.int .i64 p) ?_
       refine GD.v (.int .i64 q) ?_
       refine GD.k k3 ?_
       refine CG.seq fun K_ k3 => ?_
       refine CG.block ?_
       refine CG.loop (fun m_ a_ u_ => ∃ (x : Int) (y : Int) (j34 : Nat → Value), a_ = ⟨#[.agg #[.int .i64 s1, .slice A1 n1 c1], .agg #[.int .i64 s2, .slice A2 n2 c2], .pointer (some ⟨g21, 0, none⟩), .pointer (some ⟨g22, 0, none⟩), .pointer (some ⟨g23, 0, none⟩), .int .i64 x, .int .i64 y, (j27 7), (j27 8), .agg #[.int .i64 s1, .slice A1 n1 c1], .agg #[.int .i64 s25, .slice A25 n25 c25], .agg #[.int .i64 s2, .slice A2 n2 c2], .agg #[.int .i64 s26, .slice A26 n26 c26], .pointer (some ⟨g22, 0, none⟩), .int .i64 sq, .bool (sq != (0 : Int)), .pointer (some ⟨g21, 1, none⟩), .slice Ap np cp, .int .i64 (np : Int), .bool true, .bool true, .pointer (some ⟨g22, 1, none⟩), .slice Aq nq cq, .int .i64 (nq : Int), .bool true, .bool true, .agg #[.int .i64 sp, .slice Ap np cp], .int .i64 p, .agg #[.int .i64 sq, .slice Aq nq cq], .int .i64 q, (j34 30), (j34 31), (j34 32), (j34 33), (j34 34), (j34 35), (j27 36), (j27 37), (j27 38), (j27 39), (j27 40), (j27 41), (j27 42), (j27 43), (j27 44), (j27 45), undef], []⟩ ∧ m_ = y.toNat ∧ Mem w [] X u_ [.box g23 #[.int .i64 0, .slice none 0 0] 31, .box g22 #[.int .i64 sq, .slice Aq nq cq] 31, .box g21 #[.int .i64 sp, .slice Ap np cp] 31] [⟨NZk, [.int .i64 sp, .slice Ap np cp], p⟩, ⟨NZk, [.int .i64 sq, .slice Aq nq cq], q⟩, ⟨NZk, [.int .i64 s26, .slice A26 n26 c26], (b.natAbs : Int)⟩, ⟨NZk, [.int .i64 s25, .slice A25 n25 c25], (a.natAbs : Int)⟩, ⟨NZk, [.int .i64 s2, .slice A2 n2 c2], b⟩, ⟨NZk, [.int .i64 s1, .slice A1 n1 c1], a⟩] ∧ (0 ≤ x ∧ 0 ≤ y ∧ x ≤ 9999999999999999 ∧ y ≤ 9999999999999999) ∧ (Int.gcd x y = Int.gcd a b)) (fun _ hM => ⟨_, p, q, (fun t => (#[.agg #[.int .i64 s1, .slice A1 n1 c1], .agg #[.int .i64 s2, .slice A2 n2 c2], .pointer (some ⟨g21, 0, none⟩), .pointer (some ⟨g22, 0, none⟩), .pointer (some ⟨g23, 0, none⟩), .int .i64 p, .int .i64 q, (j27 7), (j27 8), .agg #[.int .i64 s1, .slice A1 n1 c1], .agg #[.int .i64 s25, .slice A25 n25 c25], .agg #[.int .i64 s2, .slice A2 n2 c2], .agg #[.int .i64 s26, .slice A26 n26 c26], .pointer (some ⟨g22, 0, none⟩), .int .i64 sq, .bool (sq != (0 : Int)), .pointer (some ⟨g21, 1, none⟩), .slice Ap np cp, .int .i64 (np : Int), .bool true, .bool true, .pointer (some ⟨g22, 1, none⟩), .slice Aq nq cq, .int .i64 (nq : Int), .bool true, .bool true, .agg #[.int .i64 sp, .slice Ap np cp], .int .i64 p, .agg #[.int .i64 sq, .slice Aq nq cq], .int .i64 q, (j27 30), (j27 31), (j27 32), (j27 33), (j27 34), (j27 35), (j27 36), (j27 37), (j27 38), (j27 39), (j27 40), (j27 41), (j27 42), (j27 43), (j27 44), (j27 45), undef] : Array Value).getD t undef), (by kernel_rfl), rfl, ((((((hM.clr).add (hM.f 5 rfl)).add (hM.f 4 rfl)).add (hM.f 3 rfl)).add (hM.f 2 rfl)).add (hM.f 1 rfl)).add (hM.f 0 rfl), (by omega), hG⟩) ?_
       rintro m_ a_ u_ ⟨x, y, j34, rfl, hm34, hM, hxy, hG2⟩
       refine CG.go hM ?_
       refine CG.seq fun K_ k4 => ?_
       refine CG.seq fun K_ k5 => ?_
       refine CG.lin 2 ?_
       refine GL.v (.int .i64 y) ?_
       refine GL.v (.bool (y != (0 : Int))) ?_
       refine GL.k k5 ?_
       by_cases hc35 : y ≠ (0 : Int)
       · have hk35 : (y != (0 : Int)) = true := bne_iff_ne.2 hc35
         refine CG.yes ?_ hk35 rfl
         refine CG.skip ?_
         refine QG.k k4 ?_
         refine CG.block ?_
         refine CG.draw [] [0, 1, 2, 3] (.step 0 (.step 1 (.step 2 (.step 3 (.step 4 (.step 5 .done)))))) (fun V hV36 => ?_)
         refine GD.ev (.int .i64 y) ?_
         refine GD.ev (.int .i64 x) ?_
         refine GD.ev (.int .i64 y) ?_
         refine GD.ev (.int .i64 (x % y)) ?_ (hr := fun u => op_to (op_rem (k := .i64) (x := x) (y := y) (by kernel_rfl) (by kernel_rfl) (by omega) u) (rem_to .i64 rfl (by omega)))
         refine GD.v (.int .i64 y) ?_
         refine GD.v (.int .i64 (x % y)) ?_
         refine GD.q ?_
         refine QG.block ?_
         refine QG.again fun _ hM => ?_
         have hml := Int.emod_lt_of_pos x (show 0 < y by omega)
         have hmn := Int.emod_nonneg x (show y ≠ 0 by omega)
         exact ⟨(x % y).toNat, (by omega), y, (x % y), (fun t => (#[.agg #[.int .i64 s1, .slice A1 n1 c1], .agg #[.int .i64 s2, .slice A2 n2 c2], .pointer (some ⟨g21, 0, none⟩), .pointer (some ⟨g22, 0, none⟩), .pointer (some ⟨g23, 0, none⟩), .int .i64 y, .int .i64 (x % y), (j27 7), (j27 8), .agg #[.int .i64 s1, .slice A1 n1 c1], .agg #[.int .i64 s25, .slice A25 n25 c25], .agg #[.int .i64 s2, .slice A2 n2 c2], .agg #[.int .i64 s26, .slice A26 n26 c26], .pointer (some ⟨g22, 0, none⟩), .int .i64 sq, .bool (sq != (0 : Int)), .pointer (some ⟨g21, 1, none⟩), .slice Ap np cp, .int .i64 (np : Int), .bool true, .bool true, .pointer (some ⟨g22, 1, none⟩), .slice Aq nq cq, .int .i64 (nq : Int), .bool true, .bool true, .agg #[.int .i64 sp, .slice Ap np cp], .int .i64 p, .agg #[.int .i64 sq, .slice Aq nq cq], .int .i64 q, .int .i64 y, .bool (y != (0 : Int)), .int .i64 y, .int .i64 x, .int .i64 y, .int .i64 (x % y), (j27 36), (j27 37), (j27 38), (j27 39), (j27 40), (j27 41), (j27 42), (j27 43), (j27 44), (j27 45), undef] : Array Value).getD t undef), (by kernel_rfl), rfl, ((((((hM.clr).add (hM.f 5 rfl)).add (hM.f 4 rfl)).add (hM.f 3 rfl)).add (hM.f 2 rfl)).add (hM.f 1 rfl)).add (hM.f 0 rfl), (by omega), (by rw [← hG2]; exact ng_step hxy.1 hxy.2.1)⟩
       · have hk35 : (y != (0 : Int)) = false := by simpa using hc35
         refine CG.no ?_ hk35 rfl
         refine CG.exit (QG.then_exit (QG.then_exit (QG.here ?_)))
         refine QG.k k3 ?_
         refine CG.seq fun K_ k3 => ?_
         refine CG.lin 3 ?_
         refine GL.v (.int .i64 x) ?_
         refine GL.call (fun _ hM => ZInt_ok hM.avlt x (by first | assumption | omega)) ?_
         rintro _ _ _ hM ⟨s37, A37, n37, c37, rfl, h37, hb⟩
         have hs37 := szg_i64 x (by omega)
         refine ⟨_, _, _, rfl, (hM.call hb).add h37, ?_⟩
         refine GL.sA (cs' := #[.int .i64 s37, .slice A37 n37 c37]) (fun _ _ => Mem.st0) (fun _ hM => hM.b 0 rfl) siz31 ?_
         refine GL.k k3 ?_
         refine CG.ret (QG.then_ret (QG.block_ret (QG.then_ret (QG.block_ret (QG.then_ret (QG.ret (fun _ hM => results_one rfl (res_cell rfl (loadVar_agg agg31 siz31 (hM.b 0 rfl) rfl rfl))) ?_))))))
         intro _ hM
         exact ⟨_, _, _, _, rfl, ((ng_done hG2 (by omega) (by omega)) ▸ (hM.out (hM.f 0 rfl))), hM.below⟩
     · have hk30 : (decide ((nq : Int) ≤ (4 : Int))) = false := decide_eq_false hc30
       refine CG.lin 10 ?_
       refine GL.v (.pointer (some ⟨g21, 1, none⟩)) ?_
       refine GL.r (.slice Ap np cp) (fun _ hM => op_load_one (off := 1) (by kernel_rfl) agg29 (hM.b 2 rfl) rfl) ?_
       refine GL.v (.int .i64 (np : Int)) ?_
       refine GL.v (.bool true) ?_ (hr := fun u => op_b (b := (decide ((np : Int) ≤ (4 : Int)))) (by kernel_rfl) hk29)
       refine GL.v (.bool true) ?_
       refine GL.v (.pointer (some ⟨g22, 1, none⟩)) ?_
       refine GL.r (.slice Aq nq cq) (fun _ hM => op_load_one (off := 1) (by kernel_rfl) agg29 (hM.b 1 rfl) rfl) ?_
       refine GL.v (.int .i64 (nq : Int)) ?_
       refine GL.v (.bool false) ?_ (hr := fun u => op_b (b := (decide ((nq : Int) ≤ (4 : Int)))) (by kernel_rfl) hk30)
       refine GL.v (.bool false) ?_
       refine GL.k k3 ?_
       refine CG.no ?_ rfl rfl
       refine CG.skip ?_
       refine QG.k k2 ?_
       refine CG.seq fun K_ k2 => ?_
       refine CG.lin 10 ?_
       refine GL.r (.agg #[.int .i64 sp, .slice Ap np cp]) (fun _ hM => op_load_agg (off := 0) (by kernel_rfl) agg31 siz31 (hM.b 2 rfl) rfl rfl) ?_
       refine GL.r (.agg #[.int .i64 sq, .slice Aq nq cq]) (fun _ hM => op_load_agg (off := 0) (by kernel_rfl) agg31 siz31 (hM.b 1 rfl) rfl rfl) ?_
       have hq0 := ng_nz hsq (by assumption)
       have hlt := ng_lt h0.1 h0.2 hq0
       have hsr := szg_rem p q hq0
       refine GL.call (fun _ hM => NQuotient_ok hM.avlt (hM.f 0 rfl) (hM.f 1 rfl) (by first | assumption | omega) (by first | assumption | omega)) ?_
       rintro _ _ _ hM ⟨s38a, A38a, n38a, c38a, s38b, A38b, n38b, c38b, rfl, h38a, h38b, hb⟩
       have hs38 := szg_quo p q
       have ht38 := szg_rem2 p q
       refine ⟨_, _, _, rfl, ((hM.call hb).add h38a).add h38b, ?_⟩
       refine GL.v (.tuple #[.agg #[.int .i64 s38a, .slice A38a n38a c38a], .agg #[.int .i64 s38b, .slice A38b n38b c38b]]) ?_
       refine GL.v (.agg #[.int .i64 s38a, .slice A38a n38a c38a]) ?_
       refine GL.v (.agg #[.int .i64 s38b, .slice A38b n38b c38b]) ?_
       refine GL.aA zer31 fun g39 => ?_
       refine GL.aA zer31 fun g40 => ?_
       refine GL.sA (cs' := #[.int .i64 s38a, .slice A38a n38a c38a]) (fun _ _ => Mem.st1) (fun _ hM => hM.b 1 rfl) siz31 ?_
       refine GL.sA (cs' := #[.int .i64 s38b, .slice A38b n38b c38b]) (fun _ _ => Mem.st0) (fun _ hM => hM.b 0 rfl) siz31 ?_
       refine GL.k k2 ?_
       refine CG.draw [g21] [0, 1] (.step 0 (.step 1 (.step 2 (.step 3 .done)))) (fun V hV41 => ?_)
       refine GD.er (.agg #[.int .i64 sq, .slice Aq nq cq]) (fun _ hS => op_load_agg (off := 0) (by kernel_rfl) agg31 siz31 (hV41.bS 3 rfl hS (by simp only [List.mem_cons, List.not_mem_nil, or_false, not_or]; exact hV41.ne 3 4 rfl rfl (by decide))) rfl rfl) ?_
       refine GD.er (.agg #[.int .i64 s38b, .slice A38b n38b c38b]) (fun _ hS => op_load_agg (off := 0) (by kernel_rfl) agg31 siz31 (hV41.bS 0 rfl hS (by simp only [List.mem_cons, List.not_mem_nil, or_false, not_or]; exact hV41.ne 0 4 rfl rfl (by decide))) rfl rfl) ?_
       refine GD.st (fun _ _ => Mem.st4) (fun _ hM => store_all (cs' := #[.int .i64 sq, .slice Aq nq cq]) siz31 (hM.b 4 rfl) (by kernel_rfl) (by kernel_rfl) rfl rfl rfl) ?_
       refine GD.st (fun _ _ => Mem.st3) (fun _ hM => store_all (cs' := #[.int .i64 s38b, .slice A38b n38b c38b]) siz31 (hM.b 3 rfl) (by kernel_rfl) (by kernel_rfl) rfl rfl rfl) ?_
       refine GD.q ?_
       refine QG.block ?_
       refine QG.again fun _ hM => ?_
       exact ⟨(p % q).natAbs, (by omega), sq, Aq, nq, cq, q, s38b, A38b, n38b, c38b, (p % q), (fun t => (#[.agg #[.int .i64 s1, .slice A1 n1 c1], .agg #[.int .i64 s2, .slice A2 n2 c2], .pointer (some ⟨g21, 0, none⟩), .pointer (some ⟨g22, 0, none⟩), .pointer (some ⟨g23, 0, none⟩), (j27 5), (j27 6), .pointer (some ⟨g39, 0, none⟩), .pointer (some ⟨g40, 0, none⟩), .agg #[.int .i64 s1, .slice A1 n1 c1], .agg #[.int .i64 s25, .slice A25 n25 c25], .agg #[.int .i64 s2, .slice A2 n2 c2], .agg #[.int .i64 s26, .slice A26 n26 c26], .pointer (some ⟨g22, 0, none⟩), .int .i64 sq, .bool (sq != (0 : Int)), .pointer (some ⟨g21, 1, none⟩), .slice Ap np cp, .int .i64 (np : Int), .bool true, .bool true, .pointer (some ⟨g22, 1, none⟩), .slice Aq nq cq, .int .i64 (nq : Int), .bool false, .bool false, (j27 26), (j27 27), (j27 28), (j27 29), (j27 30), (j27 31), (j27 32), (j27 33), (j27 34), (j27 35), (j27 36), (j27 37), .tuple #[.agg #[.int .i64 s38a, .slice A38a n38a c38a], .agg #[.int .i64 s38b, .slice A38b n38b c38b]], .agg #[.int .i64 sp, .slice Ap np cp], .agg #[.int .i64 sq, .slice Aq nq cq], .tuple #[.agg #[.int .i64 s38a, .slice A38a n38a c38a], .agg #[.int .i64 s38b, .slice A38b n38b c38b]], .agg #[.int .i64 s38a, .slice A38a n38a c38a], .agg #[.int .i64 s38b, .slice A38b n38b c38b], .agg #[.int .i64 sq, .slice Aq nq cq], .agg #[.int .i64 s38b, .slice A38b n38b c38b], undef] : Array Value).getD t undef), (by kernel_rfl), rfl, (((((((hM.dropn 2).clr).add ((hM.dropn 2).f 7 rfl)).add ((hM.dropn 2).f 6 rfl)).add ((hM.dropn 2).f 5 rfl)).add ((hM.dropn 2).f 4 rfl)).add ((hM.dropn 2).f 0 rfl)).add ((hM.dropn 2).f 3 rfl), (by rw [← hG]; exact ng_step h0.1 h0.2), ⟨h0.2, hlt.2⟩, (by omega)⟩
   · have hk29 : (decide ((np : Int) ≤ (4 : Int))) = false := decide_eq_false hc29
     refine CG.lin 10 ?_
     refine GL.v (.pointer (some ⟨g21, 1, none⟩)) ?_
     refine GL.r (.slice Ap np cp) (fun _ hM => op_load_one (off := 1) (by kernel_rfl) agg29 (hM.b 2 rfl) rfl) ?_
     refine GL.v (.int .i64 (np : Int)) ?_
     refine GL.v (.bool false) ?_ (hr := fun u => op_b (b := (decide ((np : Int) ≤ (4 : Int)))) (by kernel_rfl) hk29)
     refine GL.v (.bool false) ?_
     refine GL.sk ?_
     refine GL.sk ?_
     refine GL.sk ?_
     refine GL.sk ?_
     refine GL.v (.bool false) ?_
     refine GL.k k3 ?_
     refine CG.no ?_ rfl rfl
     refine CG.skip ?_
     refine QG.k k2 ?_
     refine CG.seq fun K_ k2 => ?_
     refine CG.lin 10 ?_
     refine GL.r (.agg #[.int .i64 sp, .slice Ap np cp]) (fun _ hM => op_load_agg (off := 0) (by kernel_rfl) agg31 siz31 (hM.b 2 rfl) rfl rfl) ?_
     refine GL.r (.agg #[.int .i64 sq, .slice Aq nq cq]) (fun _ hM => op_load_agg (off := 0) (by kernel_rfl) agg31 siz31 (hM.b 1 rfl) rfl rfl) ?_
     have hq0 := ng_nz hsq (by assumption)
     have hlt := ng_lt h0.1 h0.2 hq0
     have hsr := szg_rem p q hq0
     refine GL.call (fun _ hM => NQuotient_ok hM.avlt (hM.f 0 rfl) (hM.f 1 rfl) (by first | assumption | omega) (by first | assumption | omega)) ?_
     rintro _ _ _ hM ⟨s42a, A42a, n42a, c42a, s42b, A42b, n42b, c42b, rfl, h42a, h42b, hb⟩
     have hs42 := szg_quo p q
     have ht42 := szg_rem2 p q
     refine ⟨_, _, _, rfl, ((hM.call hb).add h42a).add h42b, ?_⟩
     refine GL.v (.tuple #[.agg #[.int .i64 s42a, .slice A42a n42a c42a], .agg #[.int .i64 s42b, .slice A42b n42b c42b]]) ?_
     refine GL.v (.agg #[.int .i64 s42a, .slice A42a n42a c42a]) ?_
     refine GL.v (.agg #[.int .i64 s42b, .slice A42b n42b c42b]) ?_
     refine GL.aA zer31 fun g43 => ?_
     refine GL.aA zer31 fun g44 => ?_
     refine GL.sA (cs' := #[.int .i64 s42a, .slice A42a n42a c42a]) (fun _ _ => Mem.st1) (fun _ hM => hM.b 1 rfl) siz31 ?_
     refine GL.sA (cs' := #[.int .i64 s42b, .slice A42b n42b c42b]) (fun _ _ => Mem.st0) (fun _ hM => hM.b 0 rfl) siz31 ?_
     refine GL.k k2 ?_
     refine CG.draw [g21] [0, 1] (.step 0 (.step 1 (.step 2 (.step 3 .done)))) (fun V hV45 => ?_)
     refine GD.er (.agg #[.int .i64 sq, .slice Aq nq cq]) (fun _ hS => op_load_agg (off := 0) (by kernel_rfl) agg31 siz31 (hV45.bS 3 rfl hS (by simp only [List.mem_cons, List.not_mem_nil, or_false, not_or]; exact hV45.ne 3 4 rfl rfl (by decide))) rfl rfl) ?_
     refine GD.er (.agg #[.int .i64 s42b, .slice A42b n42b c42b]) (fun _ hS => op_load_agg (off := 0) (by kernel_rfl) agg31 siz31 (hV45.bS 0 rfl hS (by simp only [List.mem_cons, List.not_mem_nil, or_false, not_or]; exact hV45.ne 0 4 rfl rfl (by decide))) rfl rfl) ?_
     refine GD.st (fun _ _ => Mem.st4) (fun _ hM => store_all (cs' := #[.int .i64 sq, .slice Aq nq cq]) siz31 (hM.b 4 rfl) (by kernel_rfl) (by kernel_rfl) rfl rfl rfl) ?_
     refine GD.st (fun _ _ => Mem.st3) (fun _ hM => store_all (cs' := #[.int .i64 s42b, .slice A42b n42b c42b]) siz31 (hM.b 3 rfl) (by kernel_rfl) (by kernel_rfl) rfl rfl rfl) ?_
     refine GD.q ?_
     refine QG.block ?_
     refine QG.again fun _ hM => ?_
     exact ⟨(p % q).natAbs, (by omega), sq, Aq, nq, cq, q, s42b, A42b, n42b, c42b, (p % q), (fun t => (#[.agg #[.int .i64 s1, .slice A1 n1 c1], .agg #[.int .i64 s2, .slice A2 n2 c2], .pointer (some ⟨g21, 0, none⟩), .pointer (some ⟨g22, 0, none⟩), .pointer (some ⟨g23, 0, none⟩), (j27 5), (j27 6), .pointer (some ⟨g43, 0, none⟩), .pointer (some ⟨g44, 0, none⟩), .agg #[.int .i64 s1, .slice A1 n1 c1], .agg #[.int .i64 s25, .slice A25 n25 c25], .agg #[.int .i64 s2, .slice A2 n2 c2], .agg #[.int .i64 s26, .slice A26 n26 c26], .pointer (some ⟨g22, 0, none⟩), .int .i64 sq, .bool (sq != (0 : Int)), .pointer (some ⟨g21, 1, none⟩), .slice Ap np cp, .int .i64 (np : Int), .bool false, .bool false, undef, undef, undef, undef, .bool false, (j27 26), (j27 27), (j27 28), (j27 29), (j27 30), (j27 31), (j27 32), (j27 33), (j27 34), (j27 35), (j27 36), (j27 37), .tuple #[.agg #[.int .i64 s42a, .slice A42a n42a c42a], .agg #[.int .i64 s42b, .slice A42b n42b c42b]], .agg #[.int .i64 sp, .slice Ap np cp], .agg #[.int .i64 sq, .slice Aq nq cq], .tuple #[.agg #[.int .i64 s42a, .slice A42a n42a c42a], .agg #[.int .i64 s42b, .slice A42b n42b c42b]], .agg #[.int .i64 s42a, .slice A42a n42a c42a], .agg #[.int .i64 s42b, .slice A42b n42b c42b], .agg #[.int .i64 sq, .slice Aq nq cq], .agg #[.int .i64 s42b, .slice A42b n42b c42b], undef] : Array Value).getD t undef), (by kernel_rfl), rfl, (((((((hM.dropn 2).clr).add ((hM.dropn 2).f 7 rfl)).add ((hM.dropn 2).f 6 rfl)).add ((hM.dropn 2).f 5 rfl)).add ((hM.dropn 2).f 4 rfl)).add ((hM.dropn 2).f 0 rfl)).add ((hM.dropn 2).f 3 rfl), (by rw [← hG]; exact ng_step h0.1 h0.2), ⟨h0.2, hlt.2⟩, (by omega)⟩
 · have hk28 : (sq != (0 : Int)) = false := by simpa using hc28
   refine CG.no ?_ hk28 rfl
   refine CG.exit (QG.then_exit (QG.then_exit (QG.here ?_)))
   refine QG.k k1 ?_
   refine CG.seq fun K_ k1 => ?_
   refine CG.lin 2 ?_
   refine GL.r (.agg #[.int .i64 sp, .slice Ap np cp]) (fun _ hM => op_load_agg (off := 0) (by kernel_rfl) agg31 siz31 (hM.b 2 rfl) rfl rfl) ?_
   refine GL.sA (cs' := #[.int .i64 sp, .slice Ap np cp]) (fun _ _ => Mem.st0) (fun _ hM => hM.b 0 rfl) siz31 ?_
   refine GL.k k1 ?_
   refine CG.ret (QG.ret (fun _ hM => results_one rfl (res_cell rfl (loadVar_agg agg31 siz31 (hM.b 0 rfl) rfl rfl))) ?_)
   intro _ hM
   exact ⟨_, _, _, _, rfl, ((ng_done hG (ng_z hsq (by assumption)) h0.1) ▸ (hM.out (hM.f 0 rfl))), hM.below⟩

set_option maxRecDepth 100000 in
set_option maxHeartbeats 400000 in
theorem NDen_ok {w : World} {X : Nat → Prop} {s1 : Int} {A1 : Option Addr} {n1 : Nat} {c1 : Nat} {s1_ : Int} {A1_ : Option Addr} {n1_ : Nat} {c1_ : Nat} {a : Rat} (hX : ∀ k, X k → k < w.heap.size) (h1 : NRk.R X w [.int .i64 s1, .slice A1 n1 c1, .int .i64 s1_, .slice A1_ n1_ c1_] a) :
    Calls Tryz.prog 59 #[.agg #[.int .i64 s1, .slice A1 n1 c1, .int .i64 s1_, .slice A1_ n1_ c1_]] w (fun e w' => ∃ sr Ar nr cr, e = .returned (.agg #[.int .i64 sr, .slice Ar nr cr]) ∧ NZk.R X w' [.int .i64 sr, .slice Ar nr cr] (a.den : Int) ∧ Below w.heap.size w w') := by
 have hM := (Mem.start hX).add0 h1
 have hone := NRk.one h1
 refine calls_of hM Tryz.func59 Tryz.ntmps59 ?_
 refine CG.seq fun K_ k1 => ?_
 refine CG.lin 2 ?_
 refine GL.bA #[.int .i64 s1, .slice A1 n1 c1, .int .i64 s1_, .slice A1_ n1_ c1_] fun g21 => ?_
 refine GL.aA zer31 fun g22 => ?_
 refine GL.k k1 ?_
 refine CG.seq fun K_ k1 => ?_
 refine CG.seq fun K_ k2 => ?_
 refine CG.lin 4 ?_
 refine GL.v (.pointer (some ⟨g21, 2, none⟩)) ?_
 refine GL.v (.pointer (some ⟨g21, 2, none⟩)) ?_
 refine GL.r (.int .i64 s1_) (fun _ hM => op_load_one (off := 2) (by kernel_rfl) agg3 (hM.b 1 rfl) rfl) ?_
 refine GL.v (.bool (s1_ == (0 : Int))) ?_
 refine GL.k k2 ?_
 by_cases hc23 : s1_ = (0 : Int)
 · have hk23 : (s1_ == (0 : Int)) = true := beq_iff_eq.2 hc23
   refine CG.yes ?_ hk23 rfl
   refine CG.seq fun K_ k2 => ?_
   refine CG.lin 2 ?_
   refine GL.call (fun _ hM => ZInt_ok hM.avlt (1) (by first | assumption | omega)) ?_
   rintro _ _ _ hM ⟨s24, A24, n24, c24, rfl, h24, hb⟩
   have hs24 := szg_i64 (1) (by omega)
   refine ⟨_, _, _, rfl, (hM.call hb).add h24, ?_⟩
   refine GL.sA (cs' := #[.int .i64 s24, .slice A24 n24 c24]) (fun _ _ => Mem.st0) (fun _ hM => hM.b 0 rfl) siz31 ?_
   refine GL.k k2 ?_
   refine CG.ret (QG.then_ret (QG.ret (fun _ hM => results_one rfl (res_cell rfl (loadVar_agg agg31 siz31 (hM.b 0 rfl) rfl rfl))) ?_))
   intro _ hM
   exact ⟨_, _, _, _, rfl, ((hone hc23) ▸ (hM.out (hM.f 0 rfl))), hM.below⟩
 · have hk23 : (s1_ == (0 : Int)) = false := beq_eq_false_iff_ne.2 hc23
   refine CG.no ?_ hk23 rfl
   refine CG.skip ?_
   refine QG.k k1 ?_
   refine CG.seq fun K_ k1 => ?_
   refine CG.lin 3 ?_
   refine GL.v (.pointer (some ⟨g21, 2, none⟩)) ?_
   refine GL.r (.agg #[.int .i64 s1_, .slice A1_ n1_ c1_]) (fun _ hM => op_load_agg (off := 2) (by kernel_rfl) agg31 siz31 (hM.b 1 rfl) rfl rfl) ?_
   refine GL.sA (cs' := #[.int .i64 s1_, .slice A1_ n1_ c1_]) (fun _ _ => Mem.st0) (fun _ hM => hM.b 0 rfl) siz31 ?_
   refine GL.k k1 ?_
   refine CG.ret (QG.ret (fun _ hM => results_one rfl (res_cell rfl (loadVar_agg agg31 siz31 (hM.b 0 rfl) rfl rfl))) ?_)
   intro _ hM
   exact ⟨_, _, _, _, rfl, (hM.out (NRk.bot (hM.f 0 rfl) hc23)), hM.below⟩

set_option maxRecDepth 100000 in
set_option maxHeartbeats 400000 in
theorem NOfZ_ok {w : World} {X : Nat → Prop} {s1 : Int} {A1 : Option Addr} {n1 : Nat} {c1 : Nat} {n : Int} {s2 : Int} {A2 : Option Addr} {n2 : Nat} {c2 : Nat} {d : Int} (hX : ∀ k, X k → k < w.heap.size) (h1 : NZk.R X w [.int .i64 s1, .slice A1 n1 c1] n) (h2 : NZk.R X w [.int .i64 s2, .slice A2 n2 c2] d) (p1 : d ≠ 0) (p2 : szg n + szg d ≤ 1073740000) :
    Calls Tryz.prog 55 #[.agg #[.int .i64 s1, .slice A1 n1 c1], .agg #[.int .i64 s2, .slice A2 n2 c2]] w (fun e w' => ∃ sr Ar nr cr sr_ Ar_ nr_ cr_, e = .returned (.agg #[.int .i64 sr, .slice Ar nr cr, .int .i64 sr_, .slice Ar_ nr_ cr_]) ∧ NRk.R X w' [.int .i64 sr, .slice Ar nr cr, .int .i64 sr_, .slice Ar_ nr_ cr_] (Rat.divInt n d) ∧ Below w.heap.size w w') := by
 have hM := ((Mem.start hX).add0 h1).add0 h2
 have hsd := NZk.sgn h2
 have hcd := sign_cases d
 have hgn := szg_neg n
 have hgd := szg_neg d
 refine calls_of hM Tryz.func55 Tryz.ntmps55 ?_
 refine CG.seq fun K_ k1 => ?_
 refine CG.lin 3 ?_
 refine GL.bA #[.int .i64 s1, .slice A1 n1 c1] fun g21 => ?_
 refine GL.bA #[.int .i64 s2, .slice A2 n2 c2] fun g22 => ?_
 refine GL.aA zer54 fun g23 => ?_
 refine GL.k k1 ?_
 refine CG.seq fun K_ k1 => ?_
 refine CG.seq fun K_ k2 => ?_
 refine CG.lin 3 ?_
 refine GL.v (.pointer (some ⟨g22, 0, none⟩)) ?_
 refine GL.r (.int .i64 s2) (fun _ hM => op_load_one (off := 0) (by kernel_rfl) agg3 (hM.b 1 rfl) rfl) ?_
 refine GL.v (.bool (decide (s2 < (0 : Int)))) ?_
 refine GL.k k2 ?_
 refine CG.cut (fun a_ u_ => ∃ (sp : Int) (Ap : Option Addr) (np : Nat) (cp : Nat) (p : Int) (sq : Int) (Aq : Option Addr) (nq : Nat) (cq : Nat) (q : Int) (j24 : Nat → Value), a_ = ⟨#[.agg #[.int .i64 s1, .slice A1 n1 c1], .agg #[.int .i64 s2, .slice A2 n2 c2], .pointer (some ⟨g21, 0, none⟩), .pointer (some ⟨g22, 0, none⟩), .pointer (some ⟨g23, 0, none⟩), undef, .pointer (some ⟨g22, 0, none⟩), .int .i64 s2, .bool (decide (s2 < (0 : Int))), (j24 9), (j24 10), (j24 11), (j24 12), undef, undef, undef, undef, undef, undef, undef, undef, undef, undef, undef, undef, undef, undef, undef, undef, undef, undef, undef, undef, undef, undef], []⟩ ∧ Mem w [] X u_ [.box g23 #[.int .i64 0, .slice none 0 0, .int .i64 0, .slice none 0 0] 54, .box g22 #[.int .i64 sq, .slice Aq nq cq] 31, .box g21 #[.int .i64 sp, .slice Ap np cp] 31] [⟨NZk, [.int .i64 sp, .slice Ap np cp], p⟩, ⟨NZk, [.int .i64 sq, .slice Aq nq cq], q⟩, ⟨NZk, [.int .i64 s2, .slice A2 n2 c2], d⟩, ⟨NZk, [.int .i64 s1, .slice A1 n1 c1], n⟩] ∧ (Rat.divInt p q = Rat.divInt n d ∧ 0 < q) ∧ (szg p = szg n ∧ szg q = szg d)) ?_ ?_
 · skip
   by_cases hc33 : s2 < (0 : Int)
   · have hk33 : (decide (s2 < (0 : Int))) = true := decide_eq_true hc33
     refine CG.yes ?_ hk33 rfl
     refine CG.draw [] [0, 2] (.step 0 (.step 2 (.step 1 (.step 3 (.step 4 (.step 5 .done)))))) (fun V hV34 => ?_)
     refine GD.er (.agg #[.int .i64 s1, .slice A1 n1 c1]) (fun _ hS => op_load_agg (off := 0) (by kernel_rfl) agg31 siz31 (hV34.bS 2 rfl hS) rfl rfl) ?_
     refine GD.er (.agg #[.int .i64 s2, .slice A2 n2 c2]) (fun _ hS => op_load_agg (off := 0) (by kernel_rfl) agg31 siz31 (hV34.bS 1 rfl hS) rfl rfl) ?_
     refine GD.call (fun _ hM => ZNeg_ok hM.avlt (hM.f 1 rfl)) ?_
     rintro _ _ _ hM ⟨s35, A35, n35, c35, rfl, h35, hb⟩
     have hs35 := szg_neg n
     refine ⟨_, _, _, rfl, hb, (hM.call hb).add h35, ?_⟩
     refine GD.call (fun _ hM => ZNeg_ok hM.avlt (hM.f 1 rfl)) ?_
     rintro _ _ _ hM ⟨s36, A36, n36, c36, rfl, h36, hb⟩
     have hs36 := szg_neg d
     refine ⟨_, _, _, rfl, hb, (hM.call hb).add h36, ?_⟩
     refine GD.st (fun _ _ => Mem.st2) (fun _ hM => store_all (cs' := #[.int .i64 s35, .slice A35 n35 c35]) siz31 (hM.b 2 rfl) (by kernel_rfl) (by kernel_rfl) rfl rfl rfl) ?_
     refine GD.st (fun _ _ => Mem.st1) (fun _ hM => store_all (cs' := #[.int .i64 s36, .slice A36 n36 c36]) siz31 (hM.b 1 rfl) (by kernel_rfl) (by kernel_rfl) rfl rfl rfl) ?_
     refine GD.q ?_
     refine QG.cut fun _ hM => ?_
     exact ⟨s35, A35, n35, c35, (-n), s36, A36, n36, c36, (-d), (fun t => (#[.agg #[.int .i64 s1, .slice A1 n1 c1], .agg #[.int .i64 s2, .slice A2 n2 c2], .pointer (some ⟨g21, 0, none⟩), .pointer (some ⟨g22, 0, none⟩), .pointer (some ⟨g23, 0, none⟩), undef, .pointer (some ⟨g22, 0, none⟩), .int .i64 s2, .bool (decide (s2 < (0 : Int))), .agg #[.int .i64 s1, .slice A1 n1 c1], .agg #[.int .i64 s35, .slice A35 n35 c35], .agg #[.int .i64 s2, .slice A2 n2 c2], .agg #[.int .i64 s36, .slice A36 n36 c36], undef, undef, undef, undef, undef, undef, undef, undef, undef, undef, undef, undef, undef, undef, undef, undef, undef, undef, undef, undef, undef, undef] : Array Value).getD t undef), (by kernel_rfl), ((((hM.clr).add (hM.f 3 rfl)).add (hM.f 2 rfl)).add (hM.f 0 rfl)).add (hM.f 1 rfl), (by first | exact ⟨rfl, by omega⟩ | exact ⟨nofz_sign, by omega⟩), (by omega)⟩
   · have hk33 : (decide (s2 < (0 : Int))) = false := decide_eq_false hc33
     refine CG.no ?_ hk33 rfl
     refine CG.skip ?_
     refine QG.cut fun _ hM => ?_
     exact ⟨s1, A1, n1, c1, n, s2, A2, n2, c2, d, (fun t => (#[.agg #[.int .i64 s1, .slice A1 n1 c1], .agg #[.int .i64 s2, .slice A2 n2 c2], .pointer (some ⟨g21, 0, none⟩), .pointer (some ⟨g22, 0, none⟩), .pointer (some ⟨g23, 0, none⟩), undef, .pointer (some ⟨g22, 0, none⟩), .int .i64 s2, .bool (decide (s2 < (0 : Int))), undef, undef, undef, undef, undef, undef, undef, undef, undef, undef, undef, undef, undef, undef, undef, undef, undef, undef, undef, undef, undef, undef, undef, undef, undef, undef] : Array Value).getD t undef), (by kernel_rfl), ((((hM.clr).add (hM.f 1 rfl)).add (hM.f 0 rfl)).add (hM.f 0 rfl)).add (hM.f 1 rfl), (by first | exact ⟨rfl, by omega⟩ | exact ⟨nofz_sign, by omega⟩), (by omega)⟩
 · skip
   rintro a_ u_ ⟨sp, Ap, np, cp, p, sq, Aq, nq, cq, q, j24, rfl, hM, hpq, hsz⟩
   have hsg := szg_gcd p q
   have hs1z : szg 1 ≤ 1 := szg_le (by decide)
   refine QG.go hM ?_
   refine QG.k k1 ?_
   refine CG.seq fun K_ k1 => ?_
   refine CG.lin 5 ?_
   refine GL.r (.agg #[.int .i64 sp, .slice Ap np cp]) (fun _ hM => op_load_agg (off := 0) (by kernel_rfl) agg31 siz31 (hM.b 2 rfl) rfl rfl) ?_
   refine GL.r (.agg #[.int .i64 sq, .slice Aq nq cq]) (fun _ hM => op_load_agg (off := 0) (by kernel_rfl) agg31 siz31 (hM.b 1 rfl) rfl rfl) ?_
   refine GL.call (fun _ hM => NGcd_ok hM.avlt (hM.f 0 rfl) (hM.f 1 rfl) (by first | assumption | omega)) ?_
   rintro _ _ _ hM ⟨s25, A25, n25, c25, rfl, h25, hb⟩
   have hs25 := szg_gcd p q
   refine ⟨_, _, _, rfl, (hM.call hb).add h25, ?_⟩
   refine GL.aA zer31 fun g26 => ?_
   refine GL.sA (cs' := #[.int .i64 s25, .slice A25 n25 c25]) (fun _ _ => Mem.st0) (fun _ hM => hM.b 0 rfl) siz31 ?_
   refine GL.k k1 ?_
   refine CG.seq fun K_ k1 => ?_
   refine CG.seq fun K_ k2 => ?_
   refine CG.draw [] [0, 3] (.step 0 (.step 1 (.step 2 (.step 3 .done)))) (fun V hV27 => ?_)
   refine GD.er (.agg #[.int .i64 s25, .slice A25 n25 c25]) (fun _ hS => op_load_agg (off := 0) (by kernel_rfl) agg31 siz31 (hV27.bS 0 rfl hS) rfl rfl) ?_
   refine GD.call (fun _ hM => ZInt_ok hM.avlt (1) (by first | assumption | omega)) ?_
   rintro _ _ _ hM ⟨s28, A28, n28, c28, rfl, h28, hb⟩
   have hs28 := szg_i64 (1) (by omega)
   refine ⟨_, _, _, rfl, hb, (hM.call hb).add h28, ?_⟩
   refine GD.call (fun _ hM => ZCmp_ok hM.avlt (hM.f 1 rfl) (hM.f 0 rfl) (by first | assumption | omega)) ?_
   rintro _ _ _ hM ⟨rfl, hb⟩
   refine ⟨_, _, _, rfl, hb, hM.call hb, ?_⟩
   refine GD.ev (.bool (decide ((((Int.gcd p q : Int) - 1).sign) > (0 : Int)))) ?_
   refine GD.k k2 ?_
   by_cases hc30 : (Int.gcd p q : Int) > 1
   · have hk30 : (decide ((((Int.gcd p q : Int) - 1).sign) > (0 : Int))) = true := (sign_gt _ _).trans (decide_eq_true hc30)
     refine CG.yes ?_ hk30 rfl
     refine CG.seq fun K_ k2 => ?_
     refine CG.lin 7 ?_
     refine GL.r (.agg #[.int .i64 sp, .slice Ap np cp]) (fun _ hM => op_load_agg (off := 0) (by kernel_rfl) agg31 siz31 (hM.b 3 rfl) rfl rfl) ?_
     refine GL.r (.agg #[.int .i64 s25, .slice A25 n25 c25]) (fun _ hM => op_load_agg (off := 0) (by kernel_rfl) agg31 siz31 (hM.b 0 rfl) rfl rfl) ?_
     refine GL.call (fun _ hM => NQuotient_ok hM.avlt (hM.f 2 rfl) (hM.f 1 rfl) (nofz0 hpq.2) (by first | assumption | omega)) ?_
     rintro _ _ _ hM ⟨s31a, A31a, n31a, c31a, s31b, A31b, n31b, c31b, rfl, h31a, h31b, hb⟩
     have hs31 := szg_quo p (Int.gcd p q : Int)
     have ht31 := szg_rem2 p (Int.gcd p q : Int)
     refine ⟨_, _, _, rfl, ((hM.call hb).add h31a).add h31b, ?_⟩
     refine GL.v (.tuple #[.agg #[.int .i64 s31a, .slice A31a n31a c31a], .agg #[.int .i64 s31b, .slice A31b n31b c31b]]) ?_
     refine GL.v (.agg #[.int .i64 s31a, .slice A31a n31a c31a]) ?_
     refine GL.v (.agg #[.int .i64 s31b, .slice A31b n31b c31b]) ?_
     refine GL.sA (cs' := #[.int .i64 s31a, .slice A31a n31a c31a]) (fun _ _ => Mem.st3) (fun _ hM => hM.b 3 rfl) siz31 ?_
     refine GL.k k2 ?_
     refine CG.lin 7 ?_
     refine GL.r (.agg #[.int .i64 sq, .slice Aq nq cq]) (fun _ hM => op_load_agg (off := 0) (by kernel_rfl) agg31 siz31 (hM.b 2 rfl) rfl rfl) ?_
     refine GL.r (.agg #[.int .i64 s25, .slice A25 n25 c25]) (fun _ hM => op_load_agg (off := 0) (by kernel_rfl) agg31 siz31 (hM.b 0 rfl) rfl rfl) ?_
     refine GL.call (fun _ hM => NQuotient_ok hM.avlt (hM.f 5 rfl) (hM.f 3 rfl) (nofz0 hpq.2) (by first | assumption | omega)) ?_
     rintro _ _ _ hM ⟨s32a, A32a, n32a, c32a, s32b, A32b, n32b, c32b, rfl, h32a, h32b, hb⟩
     have hs32 := szg_quo q (Int.gcd p q : Int)
     have ht32 := szg_rem2 q (Int.gcd p q : Int)
     refine ⟨_, _, _, rfl, ((hM.call hb).add h32a).add h32b, ?_⟩
     refine GL.v (.tuple #[.agg #[.int .i64 s32a, .slice A32a n32a c32a], .agg #[.int .i64 s32b, .slice A32b n32b c32b]]) ?_
     refine GL.v (.agg #[.int .i64 s32a, .slice A32a n32a c32a]) ?_
     refine GL.v (.agg #[.int .i64 s32b, .slice A32b n32b c32b]) ?_
     refine GL.sA (cs' := #[.int .i64 s32a, .slice A32a n32a c32a]) (fun _ _ => Mem.st2) (fun _ hM => hM.b 2 rfl) siz31 ?_
     refine GL.k k1 ?_
     refine CG.seq fun K_ k1 => ?_
     refine CG.lin 4 ?_
     refine GL.r (.agg #[.int .i64 s31a, .slice A31a n31a c31a]) (fun _ hM => op_load_agg (off := 0) (by kernel_rfl) agg31 siz31 (hM.b 3 rfl) rfl rfl) ?_
     refine GL.r (.agg #[.int .i64 s32a, .slice A32a n32a c32a]) (fun _ hM => op_load_agg (off := 0) (by kernel_rfl) agg31 siz31 (hM.b 2 rfl) rfl rfl) ?_
     refine GL.v (.agg #[.int .i64 s31a, .slice A31a n31a c31a, .int .i64 s32a, .slice A32a n32a c32a]) ?_
     refine GL.sA (cs' := #[.int .i64 s31a, .slice A31a n31a c31a, .int .i64 s32a, .slice A32a n32a c32a]) (fun _ _ => Mem.st1) (fun _ hM => hM.b 1 rfl) siz54 ?_
     refine GL.k k1 ?_
     refine CG.ret (QG.ret (fun _ hM => results_one rfl (res_cell rfl (loadVar_agg agg54 siz54 (hM.b 1 rfl) rfl rfl))) ?_)
     intro _ hM
     exact ⟨_, _, _, _, _, _, _, _, rfl, (hpq.1 ▸ NRk.ofs (hM.out (hM.f 3 rfl)) (hM.out (hM.f 1 rfl)) (nofz1 (p := p) hpq.2).1 (nofz1 (p := p) hpq.2).2), hM.below⟩
   · have hk30 : (decide ((((Int.gcd p q : Int) - 1).sign) > (0 : Int))) = false := (sign_gt _ _).trans (decide_eq_false hc30)
     refine CG.no ?_ hk30 rfl
     refine CG.skip ?_
     refine QG.k k1 ?_
     refine CG.seq fun K_ k1 => ?_
     refine CG.lin 4 ?_
     refine GL.r (.agg #[.int .i64 sp, .slice Ap np cp]) (fun _ hM => op_load_agg (off := 0) (by kernel_rfl) agg31 siz31 (hM.b 3 rfl) rfl rfl) ?_
     refine GL.r (.agg #[.int .i64 sq, .slice Aq nq cq]) (fun _ hM => op_load_agg (off := 0) (by kernel_rfl) agg31 siz31 (hM.b 2 rfl) rfl rfl) ?_
     refine GL.v (.agg #[.int .i64 sp, .slice Ap np cp, .int .i64 sq, .slice Aq nq cq]) ?_
     refine GL.sA (cs' := #[.int .i64 sp, .slice Ap np cp, .int .i64 sq, .slice Aq nq cq]) (fun _ _ => Mem.st1) (fun _ hM => hM.b 1 rfl) siz54 ?_
     refine GL.k k1 ?_
     refine CG.ret (QG.ret (fun _ hM => results_one rfl (res_cell rfl (loadVar_agg agg54 siz54 (hM.b 1 rfl) rfl rfl))) ?_)
     intro _ hM
     exact ⟨_, _, _, _, _, _, _, _, rfl, (hpq.1 ▸ NRk.ofs (hM.out (hM.f 2 rfl)) (hM.out (hM.f 3 rfl)) (nofz2 hpq.2 hc30).1 (nofz2 hpq.2 hc30).2), hM.below⟩

set_option maxRecDepth 100000 in
set_option maxHeartbeats 400000 in
theorem NRatio_ok {w : World} {X : Nat → Prop} (hX : ∀ k, X k → k < w.heap.size) (n : Int) (d : Int) (p1 : d ≠ 0) (p2 : -9223372036854775808 ≤ n ∧ n ≤ 9223372036854775807) (p3 : -9223372036854775808 ≤ d ∧ d ≤ 9223372036854775807) :
    Calls Tryz.prog 53 #[.int .i64 n, .int .i64 d] w (fun e w' => ∃ sr Ar nr cr sr_ Ar_ nr_ cr_, e = .returned (.agg #[.int .i64 sr, .slice Ar nr cr, .int .i64 sr_, .slice Ar_ nr_ cr_]) ∧ NRk.R X w' [.int .i64 sr, .slice Ar nr cr, .int .i64 sr_, .slice Ar_ nr_ cr_] (Rat.divInt n d) ∧ Below w.heap.size w w') := by
 have hM := Mem.start hX
 refine calls_of hM Tryz.func53 Tryz.ntmps53 ?_
 refine CG.seq fun K_ k1 => ?_
 refine CG.lin 1 ?_
 refine GL.aA zer54 fun g21 => ?_
 refine GL.k k1 ?_
 refine CG.seq fun K_ k1 => ?_
 refine CG.lin 6 ?_
 refine GL.v (.int .i64 n) ?_
 refine GL.call (fun _ hM => ZInt_ok hM.avlt n (by first | assumption | omega)) ?_
 rintro _ _ _ hM ⟨s22, A22, n22, c22, rfl, h22, hb⟩
 have hs22 := szg_i64 n (by omega)
 refine ⟨_, _, _, rfl, (hM.call hb).add h22, ?_⟩
 refine GL.v (.int .i64 d) ?_
 refine GL.call (fun _ hM => ZInt_ok hM.avlt d (by first | assumption | omega)) ?_
 rintro _ _ _ hM ⟨s23, A23, n23, c23, rfl, h23, hb⟩
 have hs23 := szg_i64 d (by omega)
 refine ⟨_, _, _, rfl, (hM.call hb).add h23, ?_⟩
 refine GL.call (fun _ hM => NOfZ_ok hM.avlt (hM.f 1 rfl) (hM.f 0 rfl) (by first | assumption | omega) (by first | assumption | omega)) ?_
 rintro _ _ _ hM ⟨s24, A24, n24, c24, s24_, A24_, n24_, c24_, rfl, h24, hb⟩
 have hs24 := szgR_divInt2 n d
 refine ⟨_, _, _, rfl, (hM.call hb).add h24, ?_⟩
 refine GL.sA (cs' := #[.int .i64 s24, .slice A24 n24 c24, .int .i64 s24_, .slice A24_ n24_ c24_]) (fun _ _ => Mem.st0) (fun _ hM => hM.b 0 rfl) siz54 ?_
 refine GL.k k1 ?_
 refine CG.ret (QG.ret (fun _ hM => results_one rfl (res_cell rfl (loadVar_agg agg54 siz54 (hM.b 0 rfl) rfl rfl))) ?_)
 intro _ hM
 exact ⟨_, _, _, _, _, _, _, _, rfl, (hM.out (hM.f 0 rfl)), hM.below⟩

set_option maxRecDepth 100000 in
set_option maxHeartbeats 400000 in
theorem NAdd_ok {w : World} {X : Nat → Prop} {s1 : Int} {A1 : Option Addr} {n1 : Nat} {c1 : Nat} {s1_ : Int} {A1_ : Option Addr} {n1_ : Nat} {c1_ : Nat} {a : Rat} {s2 : Int} {A2 : Option Addr} {n2 : Nat} {c2 : Nat} {s2_ : Int} {A2_ : Option Addr} {n2_ : Nat} {c2_ : Nat} {b : Rat} (hX : ∀ k, X k → k < w.heap.size) (h1 : NRk.R X w [.int .i64 s1, .slice A1 n1 c1, .int .i64 s1_, .slice A1_ n1_ c1_] a) (h2 : NRk.R X w [.int .i64 s2, .slice A2 n2 c2, .int .i64 s2_, .slice A2_ n2_ c2_] b) (p1 : szgR a + szgR b ≤ 268435456) :
    Calls Tryz.prog 68 #[.agg #[.int .i64 s1, .slice A1 n1 c1, .int .i64 s1_, .slice A1_ n1_ c1_], .agg #[.int .i64 s2, .slice A2 n2 c2, .int .i64 s2_, .slice A2_ n2_ c2_]] w (fun e w' => ∃ sr Ar nr cr sr_ Ar_ nr_ cr_, e = .returned (.agg #[.int .i64 sr, .slice Ar nr cr, .int .i64 sr_, .slice Ar_ nr_ cr_]) ∧ NRk.R X w' [.int .i64 sr, .slice Ar nr cr, .int .i64 sr_, .slice Ar_ nr_ cr_] (a + b) ∧ Below w.heap.size w w') := by
 have gna := szgR_num a; have gda := szgR_den a
 have gnb := szgR_num b; have gdb := szgR_den b
 have hM := ((Mem.start hX).add0 h1).add0 h2
 refine calls_of hM Tryz.func68 Tryz.ntmps68 ?_
 refine CG.seq fun K_ k1 => ?_
 refine CG.lin 3 ?_
 refine GL.bA #[.int .i64 s1, .slice A1 n1 c1, .int .i64 s1_, .slice A1_ n1_ c1_] fun g21 => ?_
 refine GL.bA #[.int .i64 s2, .slice A2 n2 c2, .int .i64 s2_, .slice A2_ n2_ c2_] fun g22 => ?_
 refine GL.aA zer54 fun g23 => ?_
 refine GL.k k1 ?_
 refine CG.seq fun K_ k1 => ?_
 refine CG.draw [] [0, 1, 2, 5, 6, 7, 11, 13] (.step 0 (.step 1 (.step 2 (.step 5 (.step 6 (.step 7 (.step 11 (.step 13 (.step 3 (.step 4 (.step 8 (.step 9 (.step 10 (.step 12 (.step 14 (.step 15 (.step 16 (.step 17 .done)))))))))))))))))) (fun V hV24 => ?_)
 refine GD.ev (.pointer (some ⟨g21, 0, none⟩)) ?_
 refine GD.er (.agg #[.int .i64 s1, .slice A1 n1 c1]) (fun _ hS => op_load_agg (off := 0) (by kernel_rfl) agg31 siz31 (hV24.bS 2 rfl hS) rfl rfl) ?_
 refine GD.er (.agg #[.int .i64 s2, .slice A2 n2 c2, .int .i64 s2_, .slice A2_ n2_ c2_]) (fun _ hS => op_load_agg (off := 0) (by kernel_rfl) agg54 siz54 (hV24.bS 1 rfl hS) rfl rfl) ?_
 refine GD.ev (.pointer (some ⟨g22, 0, none⟩)) ?_
 refine GD.er (.agg #[.int .i64 s2, .slice A2 n2 c2]) (fun _ hS => op_load_agg (off := 0) (by kernel_rfl) agg31 siz31 (hV24.bS 1 rfl hS) rfl rfl) ?_
 refine GD.er (.agg #[.int .i64 s1, .slice A1 n1 c1, .int .i64 s1_, .slice A1_ n1_ c1_]) (fun _ hS => op_load_agg (off := 0) (by kernel_rfl) agg54 siz54 (hV24.bS 2 rfl hS) rfl rfl) ?_
 refine GD.er (.agg #[.int .i64 s1, .slice A1 n1 c1, .int .i64 s1_, .slice A1_ n1_ c1_]) (fun _ hS => op_load_agg (off := 0) (by kernel_rfl) agg54 siz54 (hV24.bS 2 rfl hS) rfl rfl) ?_
 refine GD.er (.agg #[.int .i64 s2, .slice A2 n2 c2, .int .i64 s2_, .slice A2_ n2_ c2_]) (fun _ hS => op_load_agg (off := 0) (by kernel_rfl) agg54 siz54 (hV24.bS 1 rfl hS) rfl rfl) ?_
 refine GD.call (fun _ hM => NDen_ok hM.avlt (hM.f 0 rfl)) ?_
 rintro _ _ _ hM ⟨s25, A25, n25, c25, rfl, h25, hb⟩
 have hs25 := szgR_den b
 refine ⟨_, _, _, rfl, hb, (hM.call hb).add h25, ?_⟩
 refine GD.call (fun _ hM => ZMul_ok hM.avlt (NRk.top (hM.f 2 rfl)) (hM.f 0 rfl) (by first | assumption | omega)) ?_
 rintro _ _ _ hM ⟨s26, A26, n26, c26, rfl, h26, hb⟩
 have hs26 := szg_mul a.num (b.den : Int)
 refine ⟨_, _, _, rfl, hb, (hM.call hb).add h26, ?_⟩
 refine GD.call (fun _ hM => NDen_ok hM.avlt (hM.f 3 rfl)) ?_
 rintro _ _ _ hM ⟨s27, A27, n27, c27, rfl, h27, hb⟩
 have hs27 := szgR_den a
 refine ⟨_, _, _, rfl, hb, (hM.call hb).add h27, ?_⟩
 refine GD.call (fun _ hM => ZMul_ok hM.avlt (NRk.top (hM.f 3 rfl)) (hM.f 0 rfl) (by first | assumption | omega)) ?_
 rintro _ _ _ hM ⟨s28, A28, n28, c28, rfl, h28, hb⟩
 have hs28 := szg_mul b.num (a.den : Int)
 refine ⟨_, _, _, rfl, hb, (hM.call hb).add h28, ?_⟩
 refine GD.call (fun _ hM => ZAdd_ok hM.avlt (hM.f 2 rfl) (hM.f 0 rfl) (by first | assumption | omega)) ?_
 rintro _ _ _ hM ⟨s29, A29, n29, c29, rfl, h29, hb⟩
 have hs29 := szg_add ((a.num * (b.den : Int))) ((b.num * (a.den : Int)))
 refine ⟨_, _, _, rfl, hb, (hM.call hb).add h29, ?_⟩
 refine GD.call (fun _ hM => NDen_ok hM.avlt (hM.f 6 rfl)) ?_
 rintro _ _ _ hM ⟨s30, A30, n30, c30, rfl, h30, hb⟩
 have hs30 := szgR_den a
 refine ⟨_, _, _, rfl, hb, (hM.call hb).add h30, ?_⟩
 refine GD.call (fun _ hM => NDen_ok hM.avlt (hM.f 6 rfl)) ?_
 rintro _ _ _ hM ⟨s31, A31, n31, c31, rfl, h31, hb⟩
 have hs31 := szgR_den b
 refine ⟨_, _, _, rfl, hb, (hM.call hb).add h31, ?_⟩
 refine GD.call (fun _ hM => ZMul_ok hM.avlt (hM.f 1 rfl) (hM.f 0 rfl) (by first | assumption | omega)) ?_
 rintro _ _ _ hM ⟨s32, A32, n32, c32, rfl, h32, hb⟩
 have hs32 := szg_mul (a.den : Int) (b.den : Int)
 refine ⟨_, _, _, rfl, hb, (hM.call hb).add h32, ?_⟩
 refine GD.call (fun _ hM => NOfZ_ok hM.avlt (hM.f 3 rfl) (hM.f 0 rfl) (RatFacts.den2 a b) (by first | assumption | omega)) ?_
 rintro _ _ _ hM ⟨s33, A33, n33, c33, s33_, A33_, n33_, c33_, rfl, h33, hb⟩
 have hs33 := szgR_divInt2 (((a.num * (b.den : Int)) + (b.num * (a.den : Int)))) (((a.den : Int) * (b.den : Int)))
 refine ⟨_, _, _, rfl, hb, (hM.call hb).add h33, ?_⟩
 refine GD.st (fun _ _ => Mem.st0) (fun _ hM => store_all (cs' := #[.int .i64 s33, .slice A33 n33 c33, .int .i64 s33_, .slice A33_ n33_ c33_]) siz54 (hM.b 0 rfl) (by kernel_rfl) (by kernel_rfl) rfl rfl rfl) ?_
 refine GD.k k1 ?_
 refine CG.ret (QG.ret (fun _ hM => results_one rfl (res_cell rfl (loadVar_agg agg54 siz54 (hM.b 0 rfl) rfl rfl))) ?_)
 intro _ hM
 exact ⟨_, _, _, _, _, _, _, _, rfl, (RatFacts.add a b ▸ (hM.out (hM.f 0 rfl))), hM.below⟩

set_option maxRecDepth 100000 in
set_option maxHeartbeats 400000 in
theorem NCmp_ok {w : World} {X : Nat → Prop} {s1 : Int} {A1 : Option Addr} {n1 : Nat} {c1 : Nat} {s1_ : Int} {A1_ : Option Addr} {n1_ : Nat} {c1_ : Nat} {a : Rat} {s2 : Int} {A2 : Option Addr} {n2 : Nat} {c2 : Nat} {s2_ : Int} {A2_ : Option Addr} {n2_ : Nat} {c2_ : Nat} {b : Rat} (hX : ∀ k, X k → k < w.heap.size) (h1 : NRk.R X w [.int .i64 s1, .slice A1 n1 c1, .int .i64 s1_, .slice A1_ n1_ c1_] a) (h2 : NRk.R X w [.int .i64 s2, .slice A2 n2 c2, .int .i64 s2_, .slice A2_ n2_ c2_] b) (p1 : szgR a + szgR b ≤ 268435456) :
    Calls Tryz.prog 77 #[.agg #[.int .i64 s1, .slice A1 n1 c1, .int .i64 s1_, .slice A1_ n1_ c1_], .agg #[.int .i64 s2, .slice A2 n2 c2, .int .i64 s2_, .slice A2_ n2_ c2_]] w (fun e w' => e = .returned (.int .i64 ((a.num * (b.den : Int) - b.num * (a.den : Int)).sign)) ∧ Below w.heap.size w w') := by
 have gna := szgR_num a; have gda := szgR_den a
 have gnb := szgR_num b; have gdb := szgR_den b
 have hM := ((Mem.start hX).add0 h1).add0 h2
 refine calls_of hM Tryz.func77 Tryz.ntmps77 ?_
 refine CG.seq fun K_ k1 => ?_
 refine CG.lin 3 ?_
 refine GL.bA #[.int .i64 s1, .slice A1 n1 c1, .int .i64 s1_, .slice A1_ n1_ c1_] fun g21 => ?_
 refine GL.bA #[.int .i64 s2, .slice A2 n2 c2, .int .i64 s2_, .slice A2_ n2_ c2_] fun g22 => ?_
 refine GL.v (.int .i64 0) ?_
 refine GL.k k1 ?_
 refine CG.seq fun K_ k1 => ?_
 refine CG.draw [] [0, 1, 2, 5, 6, 7] (.step 0 (.step 1 (.step 2 (.step 5 (.step 6 (.step 7 (.step 3 (.step 4 (.step 8 (.step 9 (.step 10 (.step 11 .done)))))))))))) (fun V hV23 => ?_)
 refine GD.ev (.pointer (some ⟨g21, 0, none⟩)) ?_
 refine GD.er (.agg #[.int .i64 s1, .slice A1 n1 c1]) (fun _ hS => op_load_agg (off := 0) (by kernel_rfl) agg31 siz31 (hV23.bS 1 rfl hS) rfl rfl) ?_
 refine GD.er (.agg #[.int .i64 s2, .slice A2 n2 c2, .int .i64 s2_, .slice A2_ n2_ c2_]) (fun _ hS => op_load_agg (off := 0) (by kernel_rfl) agg54 siz54 (hV23.bS 0 rfl hS) rfl rfl) ?_
 refine GD.ev (.pointer (some ⟨g22, 0, none⟩)) ?_
 refine GD.er (.agg #[.int .i64 s2, .slice A2 n2 c2]) (fun _ hS => op_load_agg (off := 0) (by kernel_rfl) agg31 siz31 (hV23.bS 0 rfl hS) rfl rfl) ?_
 refine GD.er (.agg #[.int .i64 s1, .slice A1 n1 c1, .int .i64 s1_, .slice A1_ n1_ c1_]) (fun _ hS => op_load_agg (off := 0) (by kernel_rfl) agg54 siz54 (hV23.bS 1 rfl hS) rfl rfl) ?_
 refine GD.call (fun _ hM => NDen_ok hM.avlt (hM.f 0 rfl)) ?_
 rintro _ _ _ hM ⟨s24, A24, n24, c24, rfl, h24, hb⟩
 have hs24 := szgR_den b
 refine ⟨_, _, _, rfl, hb, (hM.call hb).add h24, ?_⟩
 refine GD.call (fun _ hM => ZMul_ok hM.avlt (NRk.top (hM.f 2 rfl)) (hM.f 0 rfl) (by first | assumption | omega)) ?_
 rintro _ _ _ hM ⟨s25, A25, n25, c25, rfl, h25, hb⟩
 have hs25 := szg_mul a.num (b.den : Int)
 refine ⟨_, _, _, rfl, hb, (hM.call hb).add h25, ?_⟩
 refine GD.call (fun _ hM => NDen_ok hM.avlt (hM.f 3 rfl)) ?_
 rintro _ _ _ hM ⟨s26, A26, n26, c26, rfl, h26, hb⟩
 have hs26 := szgR_den a
 refine ⟨_, _, _, rfl, hb, (hM.call hb).add h26, ?_⟩
 refine GD.call (fun _ hM => ZMul_ok hM.avlt (NRk.top (hM.f 3 rfl)) (hM.f 0 rfl) (by first | assumption | omega)) ?_
 rintro _ _ _ hM ⟨s27, A27, n27, c27, rfl, h27, hb⟩
 have hs27 := szg_mul b.num (a.den : Int)
 refine ⟨_, _, _, rfl, hb, (hM.call hb).add h27, ?_⟩
 refine GD.call (fun _ hM => ZCmp_ok hM.avlt (hM.f 2 rfl) (hM.f 0 rfl) (by first | assumption | omega)) ?_
 rintro _ _ _ hM ⟨rfl, hb⟩
 refine ⟨_, _, _, rfl, hb, hM.call hb, ?_⟩
 refine GD.v (.int .i64 (((a.num * (b.den : Int)) - (b.num * (a.den : Int))).sign)) ?_
 refine GD.k k1 ?_
 refine CG.ret (QG.ret (fun _ hM => results_one rfl (res_tmp rfl)) ?_)
 intro _ hM
 exact ⟨rfl, hM.below⟩

set_option maxRecDepth 100000 in
set_option maxHeartbeats 400000 in
theorem NText_ok {w : World} {X : Nat → Prop} {s1 : Int} {A1 : Option Addr} {n1 : Nat} {c1 : Nat} {s1_ : Int} {A1_ : Option Addr} {n1_ : Nat} {c1_ : Nat} {a : Rat} (hX : ∀ k, X k → k < w.heap.size) (h1 : NRk.R X w [.int .i64 s1, .slice A1 n1 c1, .int .i64 s1_, .slice A1_ n1_ c1_] a) (p1 : szgR a ≤ 268435456) :
    Calls Tryz.prog 115 #[.agg #[.int .i64 s1, .slice A1 n1 c1, .int .i64 s1_, .slice A1_ n1_ c1_]] w (fun e w' => e = .returned (.string (bs (decR a))) ∧ Below w.heap.size w w') := by
 have gna := szgR_num a; have gda := szgR_den a
 have hM := (Mem.start hX).add0 h1
 refine calls_of hM Tryz.func115 Tryz.ntmps115 ?_
 refine CG.seq fun K_ k1 => ?_
 refine CG.lin 2 ?_
 refine GL.bA #[.int .i64 s1, .slice A1 n1 c1, .int .i64 s1_, .slice A1_ n1_ c1_] fun g21 => ?_
 refine GL.v (.string (bs [])) ?_
 refine GL.k k1 ?_
 refine CG.seq fun K_ k1 => ?_
 refine CG.seq fun K_ k2 => ?_
 refine CG.lin 4 ?_
 refine GL.r (.agg #[.int .i64 s1, .slice A1 n1 c1, .int .i64 s1_, .slice A1_ n1_ c1_]) (fun _ hM => op_load_agg (off := 0) (by kernel_rfl) agg54 siz54 (hM.b 0 rfl) rfl rfl) ?_
 refine GL.call (fun _ hM => NDen_ok hM.avlt (hM.f 0 rfl)) ?_
 rintro _ _ _ hM ⟨s22, A22, n22, c22, rfl, h22, hb⟩
 have hs22 := szgR_den a
 refine ⟨_, _, _, rfl, (hM.call hb).add h22, ?_⟩
 refine GL.call (fun _ hM => NZText_ok hM.avlt (hM.f 0 rfl) (by first | assumption | omega)) ?_
 rintro _ _ _ hM ⟨rfl, hb⟩
 have hl23 := decZ_lenN (a.den : Int)
 refine ⟨_, _, _, rfl, hM.call hb, ?_⟩
 refine GL.v (.bool (decide ((decZ (a.den : Int)) = [49]))) ?_ (hr := fun u => op_seq (L := decZ (a.den : Int)) (K := [49]) (by kernel_rfl) (by kernel_rfl))
 refine GL.k k2 ?_
 by_cases hc24 : a.den - 1 = 0
 · have hk24 : (decide ((decZ (a.den : Int)) = [49])) = true := (decZ_is1 a).trans (decide_eq_true hc24)
   refine CG.yes ?_ hk24 rfl
   refine CG.seq fun K_ k2 => ?_
   refine CG.lin 4 ?_
   refine GL.v (.pointer (some ⟨g21, 0, none⟩)) ?_
   refine GL.r (.agg #[.int .i64 s1, .slice A1 n1 c1]) (fun _ hM => op_load_agg (off := 0) (by kernel_rfl) agg31 siz31 (hM.b 0 rfl) rfl rfl) ?_
   refine GL.call (fun _ hM => NZText_ok hM.avlt (NRk.top (hM.f 1 rfl)) (by first | assumption | omega)) ?_
   rintro _ _ _ hM ⟨rfl, hb⟩
   have hl25 := decZ_lenN a.num
   refine ⟨_, _, _, rfl, hM.call hb, ?_⟩
   refine GL.v (.string (bs (decZ a.num))) ?_
   refine GL.k k2 ?_
   refine CG.ret (QG.then_ret (QG.ret (fun _ hM => results_one rfl (res_tmp rfl)) ?_))
   intro _ hM
   exact ⟨ret_str ((decR_of a).1 hc24), hM.below⟩
 · have hk24 : (decide ((decZ (a.den : Int)) = [49])) = false := (decZ_is1 a).trans (decide_eq_false hc24)
   refine CG.no ?_ hk24 rfl
   refine CG.skip ?_
   refine QG.k k1 ?_
   refine CG.seq fun K_ k1 => ?_
   refine CG.draw [] [0, 1, 4, 3, 7] (.step 0 (.step 1 (.step 4 (.step 2 (.step 3 (.step 5 (.step 6 (.step 7 (.step 8 .done))))))))) (fun V hV26 => ?_)
   refine GD.ev (.pointer (some ⟨g21, 0, none⟩)) ?_
   refine GD.er (.agg #[.int .i64 s1, .slice A1 n1 c1]) (fun _ hS => op_load_agg (off := 0) (by kernel_rfl) agg31 siz31 (hV26.bS 0 rfl hS) rfl rfl) ?_
   refine GD.er (.agg #[.int .i64 s1, .slice A1 n1 c1, .int .i64 s1_, .slice A1_ n1_ c1_]) (fun _ hS => op_load_agg (off := 0) (by kernel_rfl) agg54 siz54 (hV26.bS 0 rfl hS) rfl rfl) ?_
   refine GD.call (fun _ hM => NZText_ok hM.avlt (NRk.top (hM.f 1 rfl)) (by first | assumption | omega)) ?_
   rintro _ _ _ hM ⟨rfl, hb⟩
   have hl27 := decZ_lenN a.num
   refine ⟨_, _, _, rfl, hb, hM.call hb, ?_⟩
   refine GD.ev (.string (bs ((decZ a.num) ++ [47]))) ?_ (hr := fun u => op_cat (L := decZ a.num) (K := [47]) (by kernel_rfl) (by kernel_rfl) (by (try simp only [List.length_append, List.length_cons, List.length_nil]); omega))
   refine GD.call (fun _ hM => NDen_ok hM.avlt (hM.f 1 rfl)) ?_
   rintro _ _ _ hM ⟨s28, A28, n28, c28, rfl, h28, hb⟩
   have hs28 := szgR_den a
   refine ⟨_, _, _, rfl, hb, (hM.call hb).add h28, ?_⟩
   refine GD.call (fun _ hM => NZText_ok hM.avlt (hM.f 0 rfl) (by first | assumption | omega)) ?_
   rintro _ _ _ hM ⟨rfl, hb⟩
   have hl29 := decZ_lenN (a.den : Int)
   refine ⟨_, _, _, rfl, hb, hM.call hb, ?_⟩
   refine GD.ev (.string (bs (((decZ a.num) ++ [47]) ++ (decZ (a.den : Int))))) ?_ (hr := fun u => op_cat (L := (decZ a.num) ++ [47]) (K := decZ (a.den : Int)) (by kernel_rfl) (by kernel_rfl) (by (try simp only [List.length_append, List.length_cons, List.length_nil]); omega))
   refine GD.v (.string (bs (((decZ a.num) ++ [47]) ++ (decZ (a.den : Int))))) ?_
   refine GD.k k1 ?_
   refine CG.ret (QG.ret (fun _ hM => results_one rfl (res_tmp rfl)) ?_)
   intro _ hM
   exact ⟨ret_str ((decR_of a).2 hc24), hM.below⟩

set_option maxRecDepth 100000 in
set_option maxHeartbeats 400000 in
theorem Ratio_ok {w : World} {X : Nat → Prop} (hX : ∀ k, X k → k < w.heap.size) (n : Int) (d : Int) (p1 : d ≠ 0) (p2 : -9223372036854775808 ≤ n ∧ n ≤ 9223372036854775807) (p3 : -9223372036854775808 ≤ d ∧ d ≤ 9223372036854775807) :
    Calls Tryz.prog 52 #[.int .i64 n, .int .i64 d] w (fun e w' => ∃ Ar1 nr1 cr1 mr1 Ar1_ nr1_ cr1_, e = .returned (.tuple #[.agg #[.slice Ar1 nr1 cr1, .bool mr1, .slice Ar1_ nr1_ cr1_], .int .i64 0]) ∧ Rk.R X w' [.slice Ar1 nr1 cr1, .bool mr1, .slice Ar1_ nr1_ cr1_] (Rat.divInt n d) ∧ Below w.heap.size w w') := by
 have hM := Mem.start hX
 refine calls_of hM Tryz.func52 Tryz.ntmps52 ?_
 refine CG.seq fun K_ k1 => ?_
 refine CG.lin 2 ?_
 refine GL.aA zer48 fun g21 => ?_
 refine GL.v (.int .i64 0) ?_
 refine GL.k k1 ?_
 refine CG.seq fun K_ k1 => ?_
 refine CG.lin 9 ?_
 refine GL.v (.int .i64 n) ?_
 refine GL.call (fun _ hM => Int_ok hM.avlt n (by first | assumption | omega)) ?_
 rintro _ _ _ hM ⟨A22, n22, c22, m22, rfl, h22, hb⟩
 have hs22 := sz_i64 n (by omega)
 refine ⟨_, _, _, rfl, (hM.call hb).add h22, ?_⟩
 refine GL.v (.int .i64 d) ?_
 refine GL.call (fun _ hM => Int_ok hM.avlt d (by first | assumption | omega)) ?_
 rintro _ _ _ hM ⟨A23, n23, c23, m23, rfl, h23, hb⟩
 have hs23 := sz_i64 d (by omega)
 refine ⟨_, _, _, rfl, (hM.call hb).add h23, ?_⟩
 refine GL.call (fun _ hM => OfZ_ok hM.avlt (hM.f 1 rfl) (hM.f 0 rfl) (by first | assumption | omega) (by first | assumption | omega)) ?_
 rintro _ _ _ hM ⟨A24a, n24a, c24a, m24a, A24a_, n24a_, c24a_, rfl, h24a, hb⟩
 have hs24 := szR_divInt2 n d
 refine ⟨_, _, _, rfl, (hM.call hb).add h24a, ?_⟩
 refine GL.v (.agg #[.slice A24a n24a c24a, .bool m24a, .slice A24a_ n24a_ c24a_]) ?_
 refine GL.v (.int .i64 0) ?_
 refine GL.sA (cs' := #[.slice A24a n24a c24a, .bool m24a, .slice A24a_ n24a_ c24a_]) (fun _ _ => Mem.st0) (fun _ hM => hM.b 0 rfl) siz48 ?_
 refine GL.v (.int .i64 0) ?_
 refine GL.k k1 ?_
 refine CG.ret (QG.ret (fun _ hM => results_two rfl (res_cell rfl (loadVar_agg agg48 siz48 (hM.b 0 rfl) rfl rfl)) (res_tmp rfl)) ?_)
 intro _ hM
 exact ⟨_, _, _, _, _, _, _, rfl, (hM.out (hM.f 0 rfl)), hM.below⟩

set_option maxRecDepth 100000 in
set_option maxHeartbeats 400000 in
theorem Both_ok {w : World} {X : Nat → Prop} (hX : ∀ k, X k → k < w.heap.size) (xN : Int) (xD : Int) (p1 : -9223372036854775808 ≤ xN ∧ xN ≤ 9223372036854775807) (p2 : -9223372036854775808 ≤ xD ∧ xD ≤ 9223372036854775807) :
    Calls Tryz.prog 28 #[.agg #[.int .i64 xN, .int .i64 xD]] w (fun e w' => ∃ Ar1 nr1 cr1 mr1 Ar1_ nr1_ cr1_ sr2 Ar2 nr2 cr2 sr2_ Ar2_ nr2_ cr2_, e = .returned (.tuple #[.agg #[.slice Ar1 nr1 cr1, .bool mr1, .slice Ar1_ nr1_ cr1_], .agg #[.int .i64 sr2, .slice Ar2 nr2 cr2, .int .i64 sr2_, .slice Ar2_ nr2_ cr2_]]) ∧ Rk.R X w' [.slice Ar1 nr1 cr1, .bool mr1, .slice Ar1_ nr1_ cr1_] (numv xN xD) ∧ NRk.R X w' [.int .i64 sr2, .slice Ar2 nr2 cr2, .int .i64 sr2_, .slice Ar2_ nr2_ cr2_] (numv xN xD) ∧ Below w.heap.size w w') := by
 have hM := Mem.start hX
 refine calls_of hM Tryz.func28 Tryz.ntmps28 ?_
 refine CG.seq fun K_ k1 => ?_
 refine CG.lin 3 ?_
 refine GL.bA #[.int .i64 xN, .int .i64 xD] fun g21 => ?_
 refine GL.aA zer48 fun g22 => ?_
 refine GL.aA zer54 fun g23 => ?_
 refine GL.k k1 ?_
 refine CG.seq fun K_ k1 => ?_
 refine CG.seq fun K_ k2 => ?_
 refine CG.lin 3 ?_
 refine GL.v (.pointer (some ⟨g21, 1, none⟩)) ?_
 refine GL.r (.int .i64 xD) (fun _ hM => op_load_one (off := 1) (by kernel_rfl) agg2 (hM.b 2 rfl) rfl) ?_
 refine GL.v (.bool (xD == (0 : Int))) ?_
 refine GL.k k2 ?_
 by_cases hc24 : xD = (0 : Int)
 · have hk24 : (xD == (0 : Int)) = true := beq_iff_eq.2 hc24
   refine CG.yes ?_ hk24 rfl
   refine CG.lin 2 ?_
   refine GL.v (.pointer (some ⟨g21, 1, none⟩)) ?_
   refine GL.s1 (cs' := #[.int .i64 xN, .int .i64 1]) 1 (.int .i64 1) (fun _ _ => Mem.st2) (fun _ hM => hM.b 2 rfl) siz2 ?_
   refine GL.k k1 ?_
   refine CG.seq fun K_ k1 => ?_
   refine CG.lin 11 ?_
   refine GL.v (.pointer (some ⟨g21, 0, none⟩)) ?_
   refine GL.r (.int .i64 xN) (fun _ hM => op_load_one (off := 0) (by kernel_rfl) agg2 (hM.b 2 rfl) rfl) ?_
   refine GL.v (.pointer (some ⟨g21, 1, none⟩)) ?_
   refine GL.r (.int .i64 1) (fun _ hM => op_load_one (off := 1) (by kernel_rfl) agg2 (hM.b 2 rfl) rfl) ?_
   refine GL.call (fun _ hM => Ratio_ok hM.avlt xN (1) (by first | assumption | omega) (by first | assumption | omega) (by first | assumption | omega)) ?_
   rintro _ _ _ hM ⟨A25a, n25a, c25a, m25a, A25a_, n25a_, c25a_, rfl, h25a, hb⟩
   have hs25 := szR_divInt2 xN (1)
   have ht25 := sz_i64 xN (by omega)
   have hu25 := sz_i64 (1) (by omega)
   refine ⟨_, _, _, rfl, (hM.call hb).add h25a, ?_⟩
   refine GL.v (.tuple #[.agg #[.slice A25a n25a c25a, .bool m25a, .slice A25a_ n25a_ c25a_], .int .i64 0]) ?_
   refine GL.v (.agg #[.slice A25a n25a c25a, .bool m25a, .slice A25a_ n25a_ c25a_]) ?_
   refine GL.v (.int .i64 0) ?_
   refine GL.aA zer48 fun g26 => ?_
   refine GL.sA (cs' := #[.slice A25a n25a c25a, .bool m25a, .slice A25a_ n25a_ c25a_]) (fun _ _ => Mem.st0) (fun _ hM => hM.b 0 rfl) siz48 ?_
   refine GL.v (.int .i64 0) ?_
   refine GL.k k1 ?_
   refine CG.seq fun K_ k1 => ?_
   refine CG.draw [] [0, 1, 2, 3, 4] (.step 0 (.step 1 (.step 2 (.step 3 (.step 4 (.step 5 (.step 6 (.step 7 .done)))))))) (fun V hV27 => ?_)
   refine GD.er (.agg #[.slice A25a n25a c25a, .bool m25a, .slice A25a_ n25a_ c25a_]) (fun _ hS => op_load_agg (off := 0) (by kernel_rfl) agg48 siz48 (hV27.bS 0 rfl hS) rfl rfl) ?_
   refine GD.ev (.pointer (some ⟨g21, 0, none⟩)) ?_
   refine GD.er (.int .i64 xN) (fun _ hS => op_load_one (off := 0) (by kernel_rfl) agg2 (hV27.bS 3 rfl hS) rfl) ?_
   refine GD.ev (.pointer (some ⟨g21, 1, none⟩)) ?_
   refine GD.er (.int .i64 1) (fun _ hS => op_load_one (off := 1) (by kernel_rfl) agg2 (hV27.bS 3 rfl hS) rfl) ?_
   refine GD.call (fun _ hM => NRatio_ok hM.avlt xN (1) (by first | assumption | omega) (by first | assumption | omega) (by first | assumption | omega)) ?_
   rintro _ _ _ hM ⟨s28, A28, n28, c28, s28_, A28_, n28_, c28_, rfl, h28, hb⟩
   have hs28 := szgR_divInt2 xN (1)
   have ht28 := szg_i64 xN (by omega)
   have hu28 := szg_i64 (1) (by omega)
   refine ⟨_, _, _, rfl, hb, (hM.call hb).add h28, ?_⟩
   refine GD.st (fun _ _ => Mem.st2) (fun _ hM => store_all (cs' := #[.slice A25a n25a c25a, .bool m25a, .slice A25a_ n25a_ c25a_]) siz48 (hM.b 2 rfl) (by kernel_rfl) (by kernel_rfl) rfl rfl rfl) ?_
   refine GD.st (fun _ _ => Mem.st1) (fun _ hM => store_all (cs' := #[.int .i64 s28, .slice A28 n28 c28, .int .i64 s28_, .slice A28_ n28_ c28_]) siz54 (hM.b 1 rfl) (by kernel_rfl) (by kernel_rfl) rfl rfl rfl) ?_
   refine GD.k k1 ?_
   refine CG.ret (QG.ret (fun _ hM => results_two rfl (res_cell rfl (loadVar_agg agg48 siz48 (hM.b 2 rfl) rfl rfl)) (res_cell rfl (loadVar_agg agg54 siz54 (hM.b 1 rfl) rfl rfl))) ?_)
   intro _ hM
   exact ⟨_, _, _, _, _, _, _, _, _, _, _, _, _, _, _, rfl, ((show Rat.divInt xN 1 = numv xN xD from numv_of (by omega)) ▸ (hM.out (hM.f 1 rfl))), ((show Rat.divInt xN 1 = numv xN xD from numv_of (by omega)) ▸ (hM.out (hM.f 0 rfl))), hM.below⟩
 · have hk24 : (xD == (0 : Int)) = false := beq_eq_false_iff_ne.2 hc24
   refine CG.no ?_ hk24 rfl
   refine CG.skip ?_
   refine QG.k k1 ?_
   refine CG.seq fun K_ k1 => ?_
   refine CG.lin 11 ?_
   refine GL.v (.pointer (some ⟨g21, 0, none⟩)) ?_
   refine GL.r (.int .i64 xN) (fun _ hM => op_load_one (off := 0) (by kernel_rfl) agg2 (hM.b 2 rfl) rfl) ?_
   refine GL.v (.pointer (some ⟨g21, 1, none⟩)) ?_
   refine GL.r (.int .i64 xD) (fun _ hM => op_load_one (off := 1) (by kernel_rfl) agg2 (hM.b 2 rfl) rfl) ?_
   refine GL.call (fun _ hM => Ratio_ok hM.avlt xN xD (by first | assumption | omega) (by first | assumption | omega) (by first | assumption | omega)) ?_
   rintro _ _ _ hM ⟨A29a, n29a, c29a, m29a, A29a_, n29a_, c29a_, rfl, h29a, hb⟩
   have hs29 := szR_divInt2 xN xD
   have ht29 := sz_i64 xN (by omega)
   have hu29 := sz_i64 xD (by omega)
   refine ⟨_, _, _, rfl, (hM.call hb).add h29a, ?_⟩
   refine GL.v (.tuple #[.agg #[.slice A29a n29a c29a, .bool m29a, .slice A29a_ n29a_ c29a_], .int .i64 0]) ?_
   refine GL.v (.agg #[.slice A29a n29a c29a, .bool m29a, .slice A29a_ n29a_ c29a_]) ?_
   refine GL.v (.int .i64 0) ?_
   refine GL.aA zer48 fun g30 => ?_
   refine GL.sA (cs' := #[.slice A29a n29a c29a, .bool m29a, .slice A29a_ n29a_ c29a_]) (fun _ _ => Mem.st0) (fun _ hM => hM.b 0 rfl) siz48 ?_
   refine GL.v (.int .i64 0) ?_
   refine GL.k k1 ?_
   refine CG.seq fun K_ k1 => ?_
   refine CG.draw [] [0, 1, 2, 3, 4] (.step 0 (.step 1 (.step 2 (.step 3 (.step 4 (.step 5 (.step 6 (.step 7 .done)))))))) (fun V hV31 => ?_)
   refine GD.er (.agg #[.slice A29a n29a c29a, .bool m29a, .slice A29a_ n29a_ c29a_]) (fun _ hS => op_load_agg (off := 0) (by kernel_rfl) agg48 siz48 (hV31.bS 0 rfl hS) rfl rfl) ?_
   refine GD.ev (.pointer (some ⟨g21, 0, none⟩)) ?_
   refine GD.er (.int .i64 xN) (fun _ hS => op_load_one (off := 0) (by kernel_rfl) agg2 (hV31.bS 3 rfl hS) rfl) ?_
   refine GD.ev (.pointer (some ⟨g21, 1, none⟩)) ?_
   refine GD.er (.int .i64 xD) (fun _ hS => op_load_one (off := 1) (by kernel_rfl) agg2 (hV31.bS 3 rfl hS) rfl) ?_
   refine GD.call (fun _ hM => NRatio_ok hM.avlt xN xD (by first | assumption | omega) (by first | assumption | omega) (by first | assumption | omega)) ?_
   rintro _ _ _ hM ⟨s32, A32, n32, c32, s32_, A32_, n32_, c32_, rfl, h32, hb⟩
   have hs32 := szgR_divInt2 xN xD
   have ht32 := szg_i64 xN (by omega)
   have hu32 := szg_i64 xD (by omega)
   refine ⟨_, _, _, rfl, hb, (hM.call hb).add h32, ?_⟩
   refine GD.st (fun _ _ => Mem.st2) (fun _ hM => store_all (cs' := #[.slice A29a n29a c29a, .bool m29a, .slice A29a_ n29a_ c29a_]) siz48 (hM.b 2 rfl) (by kernel_rfl) (by kernel_rfl) rfl rfl rfl) ?_
   refine GD.st (fun _ _ => Mem.st1) (fun _ hM => store_all (cs' := #[.int .i64 s32, .slice A32 n32 c32, .int .i64 s32_, .slice A32_ n32_ c32_]) siz54 (hM.b 1 rfl) (by kernel_rfl) (by kernel_rfl) rfl rfl rfl) ?_
   refine GD.k k1 ?_
   refine CG.ret (QG.ret (fun _ hM => results_two rfl (res_cell rfl (loadVar_agg agg48 siz48 (hM.b 2 rfl) rfl rfl)) (res_cell rfl (loadVar_agg agg54 siz54 (hM.b 1 rfl) rfl rfl))) ?_)
   intro _ hM
   exact ⟨_, _, _, _, _, _, _, _, _, _, _, _, _, _, _, rfl, ((show Rat.divInt xN xD = numv xN xD from numv_of (by omega)) ▸ (hM.out (hM.f 1 rfl))), ((show Rat.divInt xN xD = numv xN xD from numv_of (by omega)) ▸ (hM.out (hM.f 0 rfl))), hM.below⟩

set_option maxRecDepth 100000 in
set_option maxHeartbeats 400000 in
theorem Same_ok {w : World} {X : Nat → Prop} {A1 : Option Addr} {n1 : Nat} {c1 : Nat} {m1 : Bool} {A1_ : Option Addr} {n1_ : Nat} {c1_ : Nat} {a : Rat} {s2 : Int} {A2 : Option Addr} {n2 : Nat} {c2 : Nat} {s2_ : Int} {A2_ : Option Addr} {n2_ : Nat} {c2_ : Nat} {b : Rat} (hX : ∀ k, X k → k < w.heap.size) (h1 : Rk.R X w [.slice A1 n1 c1, .bool m1, .slice A1_ n1_ c1_] a) (h2 : NRk.R X w [.int .i64 s2, .slice A2 n2 c2, .int .i64 s2_, .slice A2_ n2_ c2_] b) (p1 : szR a ≤ 68719476736) (p2 : szgR b ≤ 268435456) :
    Calls Tryz.prog 27 #[.agg #[.slice A1 n1 c1, .bool m1, .slice A1_ n1_ c1_], .agg #[.int .i64 s2, .slice A2 n2 c2, .int .i64 s2_, .slice A2_ n2_ c2_]] w (fun e w' => e = .returned (.bool (decide (a = b))) ∧ Below w.heap.size w w') := by
 have hM := ((Mem.start hX).add0 h1).add0 h2
 refine calls_of hM Tryz.func27 Tryz.ntmps27 ?_
 refine CG.seq fun K_ k1 => ?_
 refine CG.lin 3 ?_
 refine GL.bA #[.slice A1 n1 c1, .bool m1, .slice A1_ n1_ c1_] fun g21 => ?_
 refine GL.bA #[.int .i64 s2, .slice A2 n2 c2, .int .i64 s2_, .slice A2_ n2_ c2_] fun g22 => ?_
 refine GL.v (.bool false) ?_
 refine GL.k k1 ?_
 refine CG.seq fun K_ k1 => ?_
 refine CG.draw [] [0, 2, 4] (.step 0 (.step 2 (.step 1 (.step 3 (.step 4 (.step 5 .done)))))) (fun V hV23 => ?_)
 refine GD.er (.agg #[.slice A1 n1 c1, .bool m1, .slice A1_ n1_ c1_]) (fun _ hS => op_load_agg (off := 0) (by kernel_rfl) agg48 siz48 (hV23.bS 1 rfl hS) rfl rfl) ?_
 refine GD.er (.agg #[.int .i64 s2, .slice A2 n2 c2, .int .i64 s2_, .slice A2_ n2_ c2_]) (fun _ hS => op_load_agg (off := 0) (by kernel_rfl) agg54 siz54 (hV23.bS 0 rfl hS) rfl rfl) ?_
 refine GD.call (fun _ hM => RText_ok hM.avlt (hM.f 1 rfl) (by first | assumption | omega)) ?_
 rintro _ _ _ hM ⟨rfl, hb⟩
 have hl24 := decR_len a
 refine ⟨_, _, _, rfl, hb, hM.call hb, ?_⟩
 refine GD.call (fun _ hM => NText_ok hM.avlt (hM.f 0 rfl) (by first | assumption | omega)) ?_
 rintro _ _ _ hM ⟨rfl, hb⟩
 have hl25 := decR_lenN b
 refine ⟨_, _, _, rfl, hb, hM.call hb, ?_⟩
 refine GD.ev (.bool (decide ((decR a) = (decR b)))) ?_ (hr := fun u => op_seq (L := decR a) (K := decR b) (by kernel_rfl) (by kernel_rfl))
 refine GD.v (.bool (decide ((decR a) = (decR b)))) ?_
 refine GD.k k1 ?_
 refine CG.ret (QG.ret (fun _ hM => results_one rfl (res_tmp rfl)) ?_)
 intro _ hM
 exact ⟨ret_bool (decR_inj a b), hM.below⟩

set_option maxRecDepth 100000 in
set_option maxHeartbeats 400000 in
theorem r_ok {w : World} {X : Nat → Prop} (hX : ∀ k, X k → k < w.heap.size) (s : List UInt8) (p1 : s.length ≤ 4611686018427387904) :
    Calls Tryz.prog 106 #[.string (bs s)] w (fun e w' => ∃ Ar nr cr mr Ar_ nr_ cr_, e = .returned (.agg #[.slice Ar nr cr, .bool mr, .slice Ar_ nr_ cr_]) ∧ Rk.R X w' [.slice Ar nr cr, .bool mr, .slice Ar_ nr_ cr_] ((parseR s).1) ∧ Below w.heap.size w w') := by
 have hM := Mem.start hX
 refine calls_of hM Tryz.func106 Tryz.ntmps106 ?_
 refine CG.seq fun K_ k1 => ?_
 refine CG.lin 1 ?_
 refine GL.aA zer48 fun g21 => ?_
 refine GL.k k1 ?_
 refine CG.seq fun K_ k1 => ?_
 refine CG.lin 8 ?_
 refine GL.v (.string (bs s)) ?_
 refine GL.call (fun _ hM => Parse_ok hM.avlt s (by first | assumption | omega)) ?_
 rintro _ _ _ hM ⟨A22a, n22a, c22a, m22a, A22a_, n22a_, c22a_, rfl, h22a, hb⟩
 have hs22 := parseR_sz s
 refine ⟨_, _, _, rfl, (hM.call hb).add h22a, ?_⟩
 refine GL.v (.tuple #[.agg #[.slice A22a n22a c22a, .bool m22a, .slice A22a_ n22a_ c22a_], .int .i64 ((parseR s).2)]) ?_
 refine GL.v (.agg #[.slice A22a n22a c22a, .bool m22a, .slice A22a_ n22a_ c22a_]) ?_
 refine GL.v (.int .i64 ((parseR s).2)) ?_
 refine GL.aA zer48 fun g23 => ?_
 refine GL.sA (cs' := #[.slice A22a n22a c22a, .bool m22a, .slice A22a_ n22a_ c22a_]) (fun _ _ => Mem.st0) (fun _ hM => hM.b 0 rfl) siz48 ?_
 refine GL.v (.int .i64 ((parseR s).2)) ?_
 refine GL.k k1 ?_
 refine CG.seq fun K_ k1 => ?_
 refine CG.lin 2 ?_
 refine GL.r (.agg #[.slice A22a n22a c22a, .bool m22a, .slice A22a_ n22a_ c22a_]) (fun _ hM => op_load_agg (off := 0) (by kernel_rfl) agg48 siz48 (hM.b 0 rfl) rfl rfl) ?_
 refine GL.sA (cs' := #[.slice A22a n22a c22a, .bool m22a, .slice A22a_ n22a_ c22a_]) (fun _ _ => Mem.st1) (fun _ hM => hM.b 1 rfl) siz48 ?_
 refine GL.k k1 ?_
 refine CG.ret (QG.ret (fun _ hM => results_one rfl (res_cell rfl (loadVar_agg agg48 siz48 (hM.b 1 rfl) rfl rfl))) ?_)
 intro _ hM
 exact ⟨_, _, _, _, _, _, _, rfl, (hM.out (hM.f 0 rfl)), hM.below⟩

set_option maxRecDepth 100000 in
set_option maxHeartbeats 400000 in
theorem awake_ok {w : World} {X : Nat → Prop} (hX : ∀ k, X k → k < w.heap.size) :
    Calls Tryz.prog 19 #[] w (fun e w' => e = .returned (.bool true) ∧ Below w.heap.size w w') := by
 have hM := Mem.start hX
 obtain ⟨hz1, hz2⟩ := aw_szs
 refine calls_of hM Tryz.func19 Tryz.ntmps19 ?_
 refine CG.seq fun K_ k1 => ?_
 refine CG.lin 1 ?_
 refine GL.v (.bool false) ?_
 refine GL.k k1 ?_
 refine CG.seq fun K_ k1 => ?_
 refine CG.lin 12 ?_
 refine GL.call (fun _ hM => Int_ok hM.avlt (-7) (by first | assumption | omega)) ?_
 rintro _ _ _ hM ⟨A21, n21, c21, m21, rfl, h21, hb⟩
 have hs21 := sz_i64 (-7) (by omega)
 refine ⟨_, _, _, rfl, (hM.call hb).add h21, ?_⟩
 refine GL.call (fun _ hM => Int_ok hM.avlt (2) (by first | assumption | omega)) ?_
 rintro _ _ _ hM ⟨A22, n22, c22, m22, rfl, h22, hb⟩
 have hs22 := sz_i64 (2) (by omega)
 refine ⟨_, _, _, rfl, (hM.call hb).add h22, ?_⟩
 refine GL.call (fun _ hM => Quotient_ok hM.avlt (hM.f 1 rfl) (hM.f 0 rfl) (by first | assumption | omega) (by first | assumption | omega)) ?_
 rintro _ _ _ hM ⟨A23a, n23a, c23a, m23a, A23b, n23b, c23b, m23b, rfl, h23a, h23b, hb⟩
 have hs23 := sz_quo (-7) (2)
 have ht23 := sz_rem2 (-7) (2)
 refine ⟨_, _, _, rfl, ((hM.call hb).add h23a).add h23b, ?_⟩
 refine GL.v (.tuple #[.agg #[.slice A23a n23a c23a, .bool m23a], .agg #[.slice A23b n23b c23b, .bool m23b], .int .i64 0]) ?_
 refine GL.v (.agg #[.slice A23a n23a c23a, .bool m23a]) ?_
 refine GL.v (.agg #[.slice A23b n23b c23b, .bool m23b]) ?_
 refine GL.v (.int .i64 0) ?_
 refine GL.aA zer28 fun g24 => ?_
 refine GL.aA zer28 fun g25 => ?_
 refine GL.sA (cs' := #[.slice A23a n23a c23a, .bool m23a]) (fun _ _ => Mem.st1) (fun _ hM => hM.b 1 rfl) siz28 ?_
 refine GL.sA (cs' := #[.slice A23b n23b c23b, .bool m23b]) (fun _ _ => Mem.st0) (fun _ hM => hM.b 0 rfl) siz28 ?_
 refine GL.v (.int .i64 0) ?_
 refine GL.k k1 ?_
 refine CG.seq fun K_ k1 => ?_
 refine CG.lin 7 ?_
 refine GL.call (fun _ hM => Parse_ok hM.avlt [54, 47, 52] (by simp)) ?_
 rintro _ _ _ hM ⟨A26a, n26a, c26a, m26a, A26a_, n26a_, c26a_, rfl, h26a, hb⟩
 have hs26 := parseR_sz ([54, 47, 52])
 refine ⟨_, _, _, rfl, (hM.call hb).add h26a, ?_⟩
 refine GL.v (.tuple #[.agg #[.slice A26a n26a c26a, .bool m26a, .slice A26a_ n26a_ c26a_], .int .i64 ((parseR [54, 47, 52]).2)]) ?_
 refine GL.v (.agg #[.slice A26a n26a c26a, .bool m26a, .slice A26a_ n26a_ c26a_]) ?_
 refine GL.v (.int .i64 ((parseR [54, 47, 52]).2)) ?_
 refine GL.aA zer48 fun g27 => ?_
 refine GL.sA (cs' := #[.slice A26a n26a c26a, .bool m26a, .slice A26a_ n26a_ c26a_]) (fun _ _ => Mem.st0) (fun _ hM => hM.b 0 rfl) siz48 ?_
 refine GL.v (.int .i64 ((parseR [54, 47, 52]).2)) ?_
 refine GL.k k1 ?_
 refine CG.seq fun K_ k1 => ?_
 refine CG.lin 38 ?_
 refine GL.v (.int .i64 0) ?_
 refine GL.v (.bool true) ?_
 refine GL.v (.bool true) ?_
 refine GL.v (.int .i64 ((parseR [54, 47, 52]).2)) ?_
 refine GL.v (.bool true) ?_ (hr := fun u => op_b (b := (((parseR [54, 47, 52]).2) == (0 : Int))) (by kernel_rfl) (beq_iff_eq.2 aw3e))
 refine GL.v (.bool true) ?_
 refine GL.v (.bool true) ?_
 refine GL.r (.agg #[.slice A23a n23a c23a, .bool m23a]) (fun _ hM => op_load_agg (off := 0) (by kernel_rfl) agg28 siz28 (hM.b 2 rfl) rfl rfl) ?_
 refine GL.call (fun _ hM => ZText_ok hM.avlt (hM.f 2 rfl) (by first | assumption | omega)) ?_
 rintro _ _ _ hM ⟨rfl, hb⟩
 have hl28 := decZ_len (((-7) / 2))
 refine ⟨_, _, _, rfl, hM.call hb, ?_⟩
 refine GL.v (.bool true) ?_ (hr := fun u => op_b (b := (decide ((decZ ((-7) / 2)) = [45, 52]))) ((fun u => op_seq (L := decZ ((-7) / 2)) (K := [45, 52]) (by kernel_rfl) (by kernel_rfl)) u) (decide_eq_true (by first | exact aw1 | exact aw2 | exact aw3 | exact aw4 | exact aw5)))
 refine GL.v (.bool true) ?_
 refine GL.v (.bool true) ?_
 refine GL.r (.agg #[.slice A23b n23b c23b, .bool m23b]) (fun _ hM => op_load_agg (off := 0) (by kernel_rfl) agg28 siz28 (hM.b 1 rfl) rfl rfl) ?_
 refine GL.call (fun _ hM => ZText_ok hM.avlt (hM.f 1 rfl) (by first | assumption | omega)) ?_
 rintro _ _ _ hM ⟨rfl, hb⟩
 have hl29 := decZ_len (((-7) % 2))
 refine ⟨_, _, _, rfl, hM.call hb, ?_⟩
 refine GL.v (.bool true) ?_ (hr := fun u => op_b (b := (decide ((decZ ((-7) % 2)) = [49]))) ((fun u => op_seq (L := decZ ((-7) % 2)) (K := [49]) (by kernel_rfl) (by kernel_rfl)) u) (decide_eq_true (by first | exact aw1 | exact aw2 | exact aw3 | exact aw4 | exact aw5)))
 refine GL.v (.bool true) ?_
 refine GL.v (.bool true) ?_
 refine GL.r (.agg #[.slice A26a n26a c26a, .bool m26a, .slice A26a_ n26a_ c26a_]) (fun _ hM => op_load_agg (off := 0) (by kernel_rfl) agg48 siz48 (hM.b 0 rfl) rfl rfl) ?_
 refine GL.call (fun _ hM => RText_ok hM.avlt (hM.f 0 rfl) (by first | assumption | omega | (dsimp only; omega))) ?_
 rintro _ _ _ hM ⟨rfl, hb⟩
 have hl30 := decR_len (((parseR [54, 47, 52]).1))
 refine ⟨_, _, _, rfl, hM.call hb, ?_⟩
 refine GL.v (.bool true) ?_ (hr := fun u => op_b (b := (decide ((decR ((parseR [54, 47, 52]).1)) = [51, 47, 50]))) ((fun u => op_seq (L := decR ((parseR [54, 47, 52]).1)) (K := [51, 47, 50]) (by kernel_rfl) (by kernel_rfl)) u) (decide_eq_true (by first | exact aw1 | exact aw2 | exact aw3 | exact aw4 | exact aw5)))
 refine GL.v (.bool true) ?_
 refine GL.v (.bool true) ?_
 refine GL.call (fun _ hM => Int_ok hM.avlt (-12) (by first | assumption | omega)) ?_
 rintro _ _ _ hM ⟨A31, n31, c31, m31, rfl, h31, hb⟩
 have hs31 := sz_i64 (-12) (by omega)
 refine ⟨_, _, _, rfl, (hM.call hb).add h31, ?_⟩
 refine GL.call (fun _ hM => Int_ok hM.avlt (18) (by first | assumption | omega)) ?_
 rintro _ _ _ hM ⟨A32, n32, c32, m32, rfl, h32, hb⟩
 have hs32 := sz_i64 (18) (by omega)
 refine ⟨_, _, _, rfl, (hM.call hb).add h32, ?_⟩
 refine GL.call (fun _ hM => Gcd_ok hM.avlt (hM.f 1 rfl) (hM.f 0 rfl) (by first | assumption | omega)) ?_
 rintro _ _ _ hM ⟨A33, n33, c33, m33, rfl, h33, hb⟩
 have hs33 := sz_gcd2 (-12) (18)
 refine ⟨_, _, _, rfl, (hM.call hb).add h33, ?_⟩
 refine GL.call (fun _ hM => ZText_ok hM.avlt (hM.f 0 rfl) (by first | assumption | omega)) ?_
 rintro _ _ _ hM ⟨rfl, hb⟩
 have hl34 := decZ_len ((Int.gcd (-12) 18 : Int))
 refine ⟨_, _, _, rfl, hM.call hb, ?_⟩
 refine GL.v (.bool true) ?_ (hr := fun u => op_b (b := (decide ((decZ (Int.gcd (-12) 18 : Int)) = [54]))) ((fun u => op_seq (L := decZ (Int.gcd (-12) 18 : Int)) (K := [54]) (by kernel_rfl) (by kernel_rfl)) u) (decide_eq_true (by first | exact aw1 | exact aw2 | exact aw3 | exact aw4 | exact aw5)))
 refine GL.v (.bool true) ?_
 refine GL.v (.bool true) ?_
 refine GL.call (fun _ hM => r_ok hM.avlt [49, 47, 50] (by simp)) ?_
 rintro _ _ _ hM ⟨A35, n35, c35, m35, A35_, n35_, c35_, rfl, h35, hb⟩
 have hs35 := parseR_sz ([49, 47, 50])
 refine ⟨_, _, _, rfl, (hM.call hb).add h35, ?_⟩
 refine GL.call (fun _ hM => r_ok hM.avlt [49, 47, 51] (by simp)) ?_
 rintro _ _ _ hM ⟨A36, n36, c36, m36, A36_, n36_, c36_, rfl, h36, hb⟩
 have hs36 := parseR_sz ([49, 47, 51])
 refine ⟨_, _, _, rfl, (hM.call hb).add h36, ?_⟩
 refine GL.call (fun _ hM => r_ok hM.avlt [49, 47, 54] (by simp)) ?_
 rintro _ _ _ hM ⟨A37, n37, c37, m37, A37_, n37_, c37_, rfl, h37, hb⟩
 have hs37 := parseR_sz ([49, 47, 54])
 refine ⟨_, _, _, rfl, (hM.call hb).add h37, ?_⟩
 refine GL.lst (K := Rk) (T := 48) (k := 3) (xs := [(parseR [49, 47, 50]).1, (parseR [49, 47, 51]).1, (parseR [49, 47, 54]).1]) (fun u => op_build3 rowk97 rfl (by kernel_rfl) (by kernel_rfl) (by kernel_rfl) u) (fun _ _ _ hM hm hg => LKd.built3 hm hg (by decide) rfl rfl rfl (hM.f 2 rfl) (hM.f 1 rfl) (hM.f 0 rfl)) fun g38 => ?_
 refine GL.call (fun _ hM => Sum_ok hM.avlt (hM.f 0 rfl) aw_sum) ?_
 rintro _ _ _ hM ⟨A39, n39, c39, m39, A39_, n39_, c39_, rfl, h39, hb⟩
 refine ⟨_, _, _, rfl, (hM.call hb).add h39, ?_⟩
 refine GL.call (fun _ hM => RText_ok hM.avlt (hM.f 0 rfl) (by first | assumption | omega | (dsimp only; omega))) ?_
 rintro _ _ _ hM ⟨rfl, hb⟩
 have hl40 := decR_len ((foldR (· + ·) ([(parseR [49, 47, 50]).1, (parseR [49, 47, 51]).1, (parseR [49, 47, 54]).1])))
 refine ⟨_, _, _, rfl, hM.call hb, ?_⟩
 refine GL.v (.bool true) ?_ (hr := fun u => op_b (b := (decide ((decR (foldR (· + ·) ([(parseR [49, 47, 50]).1, (parseR [49, 47, 51]).1, (parseR [49, 47, 54]).1]))) = [49]))) ((fun u => op_seq (L := decR (foldR (· + ·) ([(parseR [49, 47, 50]).1, (parseR [49, 47, 51]).1, (parseR [49, 47, 54]).1]))) (K := [49]) (by kernel_rfl) (by kernel_rfl)) u) (decide_eq_true (by first | exact aw1 | exact aw2 | exact aw3 | exact aw4 | exact aw5)))
 refine GL.v (.bool true) ?_
 refine GL.v (.bool true) ?_
 refine GL.k k1 ?_
 refine CG.ret (QG.ret (fun _ hM => results_one rfl (res_tmp rfl)) ?_)
 intro _ hM
 exact ⟨rfl, hM.below⟩

set_option maxRecDepth 100000 in
set_option maxHeartbeats 400000 in
theorem chosen1_ok {w : World} {X : Nat → Prop} {A1 : Option Addr} {n1 : Nat} {c1 : Nat} {m1 : Bool} {A1_ : Option Addr} {n1_ : Nat} {c1_ : Nat} {a : Rat} {A2 : Option Addr} {n2 : Nat} {c2 : Nat} {m2 : Bool} {A2_ : Option Addr} {n2_ : Nat} {c2_ : Nat} {b : Rat} {b3 : Nat} {way : Int} (hX : ∀ k, X k → k < w.heap.size) (h1 : Rk.R X w [.slice A1 n1 c1, .bool m1, .slice A1_ n1_ c1_] a) (h2 : Rk.R X w [.slice A2 n2 c2, .bool m2, .slice A2_ n2_ c2_] b) (h3 : (Bk 3).R X w [.pointer (some ⟨b3, 0, none⟩)] #[.int .i64 way]) (p1 : szR a + szR b ≤ 68719476736) :
    Calls Tryz.prog 139 #[.agg #[.slice A1 n1 c1, .bool m1, .slice A1_ n1_ c1_], .agg #[.slice A2 n2 c2, .bool m2, .slice A2_ n2_ c2_], .pointer (some ⟨b3, 0, none⟩)] w (fun e w' => ∃ Ar nr cr mr Ar_ nr_ cr_, e = .returned (.agg #[.slice Ar nr cr, .bool mr, .slice Ar_ nr_ cr_]) ∧ Rk.R X w' [.slice Ar nr cr, .bool mr, .slice Ar_ nr_ cr_] (pickR way a b) ∧ Below w.heap.size w w') := by
 have hM := (((Mem.start hX).add0 h1).add0 h2).add0 h3
 refine calls_of hM Tryz.func139 Tryz.ntmps139 ?_
 refine CG.seq fun K_ k1 => ?_
 refine CG.lin 3 ?_
 refine GL.bA #[.slice A1 n1 c1, .bool m1, .slice A1_ n1_ c1_] fun g21 => ?_
 refine GL.bA #[.slice A2 n2 c2, .bool m2, .slice A2_ n2_ c2_] fun g22 => ?_
 refine GL.aA zer48 fun g23 => ?_
 refine GL.k k1 ?_
 refine CG.seq fun K_ k1 => ?_
 refine CG.seq fun K_ k2 => ?_
 refine CG.draw [] [0, 1, 3, 4] (.step 0 (.step 1 (.step 3 (.step 2 (.step 4 .done))))) (fun V hV24 => ?_)
 refine GD.er (.agg #[.slice A2 n2 c2, .bool m2, .slice A2_ n2_ c2_]) (fun _ hS => op_load_agg (off := 0) (by kernel_rfl) agg48 siz48 (hV24.bS 1 rfl hS) rfl rfl) ?_
 refine GD.er (.agg #[.slice A1 n1 c1, .bool m1, .slice A1_ n1_ c1_]) (fun _ hS => op_load_agg (off := 0) (by kernel_rfl) agg48 siz48 (hV24.bS 2 rfl hS) rfl rfl) ?_
 refine GD.er (.int .i64 way) (fun _ hS => op_load_one (off := 0) (by kernel_rfl) agg3 ((hS.at_ _ (lt_of_at (Bk.at_ (hV24.f 0 rfl))) (by simp)).trans (Bk.at_ (hV24.f 0 rfl))) rfl) ?_
 refine GD.call (fun _ hM => RCmp_ok hM.avlt (hM.f 1 rfl) (hM.f 2 rfl) (by first | assumption | omega)) ?_
 rintro _ _ _ hM ⟨rfl, hb⟩
 refine ⟨_, _, _, rfl, hb, hM.call hb, ?_⟩
 refine GD.ev (.bool (((b.num * (a.den : Int) - a.num * (b.den : Int)).sign) == way)) ?_
 refine GD.k k2 ?_
 by_cases hc26 : ((b.num * (a.den : Int) - a.num * (b.den : Int)).sign) = way
 · have hk26 : (((b.num * (a.den : Int) - a.num * (b.den : Int)).sign) == way) = true := beq_iff_eq.2 hc26
   refine CG.yes ?_ hk26 rfl
   refine CG.seq fun K_ k2 => ?_
   refine CG.lin 2 ?_
   refine GL.r (.agg #[.slice A2 n2 c2, .bool m2, .slice A2_ n2_ c2_]) (fun _ hM => op_load_agg (off := 0) (by kernel_rfl) agg48 siz48 (hM.b 1 rfl) rfl rfl) ?_
   refine GL.sA (cs' := #[.slice A2 n2 c2, .bool m2, .slice A2_ n2_ c2_]) (fun _ _ => Mem.st0) (fun _ hM => hM.b 0 rfl) siz48 ?_
   refine GL.k k2 ?_
   refine CG.ret (QG.then_ret (QG.ret (fun _ hM => results_one rfl (res_cell rfl (loadVar_agg agg48 siz48 (hM.b 0 rfl) rfl rfl))) ?_))
   intro _ hM
   exact ⟨_, _, _, _, _, _, _, rfl, ((show b = pickR way a b from (if_pos hc26).symm) ▸ (hM.out (hM.f 1 rfl))), hM.below⟩
 · have hk26 : (((b.num * (a.den : Int) - a.num * (b.den : Int)).sign) == way) = false := beq_eq_false_iff_ne.2 hc26
   refine CG.no ?_ hk26 rfl
   refine CG.skip ?_
   refine QG.k k1 ?_
   refine CG.seq fun K_ k1 => ?_
   refine CG.lin 2 ?_
   refine GL.r (.agg #[.slice A1 n1 c1, .bool m1, .slice A1_ n1_ c1_]) (fun _ hM => op_load_agg (off := 0) (by kernel_rfl) agg48 siz48 (hM.b 2 rfl) rfl rfl) ?_
   refine GL.sA (cs' := #[.slice A1 n1 c1, .bool m1, .slice A1_ n1_ c1_]) (fun _ _ => Mem.st0) (fun _ hM => hM.b 0 rfl) siz48 ?_
   refine GL.k k1 ?_
   refine CG.ret (QG.ret (fun _ hM => results_one rfl (res_cell rfl (loadVar_agg agg48 siz48 (hM.b 0 rfl) rfl rfl))) ?_)
   intro _ hM
   exact ⟨_, _, _, _, _, _, _, rfl, ((show a = pickR way a b from (if_neg hc26).symm) ▸ (hM.out (hM.f 2 rfl))), hM.below⟩

set_option maxRecDepth 100000 in
set_option maxHeartbeats 400000 in
theorem foldpick_ok {w : World} {X : Nat → Prop} {A1 : Option Addr} {n1 : Nat} {c1 : Nat} {l : List Rat} {b2 : Nat} {way : Int} (hX : ∀ k, X k → k < w.heap.size) (h1 : (LKd Rk 48 3).R X w [.slice A1 n1 c1] l) (h2 : (Wk 139 3).R X w [.func (.func 139) #[] #[.pointer (some ⟨b2, 0, none⟩)]] way) (p1 : ∀ i, i < l.length → szR (foldR (pickR way) (l.take i)) + szR (l.getD i 0) ≤ 68719476736) :
    Calls Tryz.prog 124 #[.slice A1 n1 c1, .func (.func 139) #[] #[.pointer (some ⟨b2, 0, none⟩)]] w (fun e w' => ∃ Ar nr cr mr Ar_ nr_ cr_, e = .returned (.agg #[.slice Ar nr cr, .bool mr, .slice Ar_ nr_ cr_]) ∧ Rk.R X w' [.slice Ar nr cr, .bool mr, .slice Ar_ nr_ cr_] (foldR (pickR way) l) ∧ Below w.heap.size w w') := by
 have hM := ((Mem.start hX).add0 h1).add0 h2
 have hl := LKd.len h1
 have hl2 := LKd.le h1
 refine calls_of hM Tryz.func124 Tryz.ntmps124 ?_
 refine CG.seq fun K_ k1 => ?_
 refine CG.lin 1 ?_
 refine GL.aA zer48 fun g21 => ?_
 refine GL.k k1 ?_
 refine CG.seq fun K_ k1 => ?_
 refine CG.lin 1 ?_
 refine GL.aA zer48 fun g22 => ?_
 refine GL.k k1 ?_
 refine CG.seq fun K_ k1 => ?_
 refine CG.seq fun K_ k2 => ?_
 refine CG.lin 3 ?_
 refine GL.v (.slice A1 n1 c1) ?_
 refine GL.v (.int .i64 (n1 : Int)) ?_
 refine GL.v (.int .i64 0) ?_
 refine GL.k k2 ?_
 refine CG.block ?_
 refine CG.loop (fun m_ a_ u_ => ∃ (Ao : Option Addr) (no : Nat) (co : Nat) (mo : Bool) (Ao_ : Option Addr) (no_ : Nat) (co_ : Nat) (o : Rat) (i : Nat) (j23 : Nat → Value), a_ = ⟨#[.slice A1 n1 c1, .func (.func 139) #[] #[.pointer (some ⟨b2, 0, none⟩)], undef, undef, .pointer (some ⟨g21, 0, none⟩), .pointer (some ⟨g22, 0, none⟩), (j23 6), (j23 7), .slice A1 n1 c1, .int .i64 (n1 : Int), .int .i64 (i : Int), (j23 11), (j23 12), (j23 13), (j23 14), (j23 15), (j23 16), (j23 17), (j23 18), (j23 19), (j23 20), (j23 21), (j23 22), undef], []⟩ ∧ m_ = l.length - i ∧ Mem w [] X u_ [.box g22 #[.slice Ao no co, .bool mo, .slice Ao_ no_ co_] 48, .box g21 #[.slice none 0 0, .bool false, .slice none 0 0] 48] [⟨Rk, [.slice Ao no co, .bool mo, .slice Ao_ no_ co_], o⟩, ⟨(Wk 139 3), [.func (.func 139) #[] #[.pointer (some ⟨b2, 0, none⟩)]], way⟩, ⟨(LKd Rk 48 3), [.slice A1 n1 c1], l⟩] ∧ (i ≤ l.length) ∧ (o = foldR (pickR way) (l.take i))) (fun _ hM => ⟨_, none, 0, 0, false, none, 0, 0, 0, 0, (fun t => (#[.slice A1 n1 c1, .func (.func 139) #[] #[.pointer (some ⟨b2, 0, none⟩)], undef, undef, .pointer (some ⟨g21, 0, none⟩), .pointer (some ⟨g22, 0, none⟩), undef, undef, .slice A1 n1 c1, .int .i64 (n1 : Int), .int .i64 0, undef, undef, undef, undef, undef, undef, undef, undef, undef, undef, undef, undef, undef] : Array Value).getD t undef), (by kernel_rfl), rfl, (((hM.clr).add (hM.f 1 rfl)).add (hM.f 0 rfl)).add (Rk.nil _ _ none none 0 0), (by omega), rfl⟩) ?_
 rintro m_ a_ u_ ⟨Ao, no, co, mo, Ao_, no_, co_, o, i, j23, rfl, hm23, hM, hi, ho⟩
 refine CG.go hM ?_
 refine CG.seq fun K_ k2 => ?_
 refine CG.lin 1 ?_
 refine GL.v (.bool (decide ((i : Int) < (n1 : Int)))) ?_
 refine GL.k k2 ?_
 refine CG.seq fun K_ k2 => ?_
 by_cases hc24 : (i : Int) < (n1 : Int)
 · have hk24 : (decide ((i : Int) < (n1 : Int))) = true := decide_eq_true hc24
   refine CG.yes ?_ hk24 rfl
   refine CG.skip ?_
   refine QG.k k2 ?_
   refine CG.seq fun K_ k2 => ?_
   refine CG.block ?_
   refine CG.seq fun K_ k3 => ?_
   refine CG.lin 6 ?_
   refine GL.v (.int .i64 (i : Int)) ?_
   refine GL.r (elemPtr A1 (i * 3)) (fun _ hM => op_index_k rowk97 (by decide) (kd := .i64) (i := (i : Int)) i (by kernel_rfl) (by kernel_rfl) (by omega) (by omega) (hM.f 2 rfl) _) ?_
   refine GL.exR (x := l.getD i 0) (fun _ hM => op_load_k rowk97 (by decide) (by kernel_rfl) (hM.f 2 rfl) (by omega) (getD_at _ (by have := LKd.len (hM.f 2 rfl); omega))) fun A25 n25 c25 m25 A25_ n25_ c25_ => ?_
   refine GL.aA zer48 fun g26 => ?_
   refine GL.v (.int .i64 (i : Int)) ?_
   refine GL.sA (cs' := #[.slice A25 n25 c25, .bool m25, .slice A25_ n25_ c25_]) (fun _ _ => Mem.st0) (fun _ hM => hM.b 0 rfl) siz48 ?_
   refine GL.k k3 ?_
   refine CG.seq fun K_ k3 => ?_
   refine CG.lin 2 ?_
   refine GL.v (.int .i64 (i : Int)) ?_
   refine GL.v (.bool ((i : Int) == (0 : Int))) ?_
   refine GL.k k3 ?_
   by_cases hc27 : (i : Int) = (0 : Int)
   · have hk27 : ((i : Int) == (0 : Int)) = true := beq_iff_eq.2 hc27
     refine CG.yes ?_ hk27 rfl
     refine CG.lin 2 ?_
     refine GL.r (.agg #[.slice A25 n25 c25, .bool m25, .slice A25_ n25_ c25_]) (fun _ hM => op_load_agg (off := 0) (by kernel_rfl) agg48 siz48 (hM.b 0 rfl) rfl rfl) ?_
     refine GL.sA (cs' := #[.slice A25 n25 c25, .bool m25, .slice A25_ n25_ c25_]) (fun _ _ => Mem.st1) (fun _ hM => hM.b 1 rfl) siz48 ?_
     refine GL.q ?_
     refine QG.block ?_
     refine QG.k k2 ?_
     refine CG.lin 2 ?_
     refine GL.v (.int .i64 ((i + 1 : Nat) : Int)) ?_ (hr := fun u => op_to (v := .int .i64 (IntKind.wrap .i64 ((i : Int) + (1 : Int)))) (by kernel_rfl) (wrap_i64 (by omega) (by omega) (by omega)))
     refine GL.v (.int .i64 ((i + 1 : Nat) : Int)) ?_
     refine GL.q ?_
     refine QG.again fun _ hM => ?_
     exact ⟨l.length - (i + 1), (by omega), A25, n25, c25, m25, A25_, n25_, c25_, (l.getD i 0), (i + 1), (fun t => (#[.slice A1 n1 c1, .func (.func 139) #[] #[.pointer (some ⟨b2, 0, none⟩)], undef, undef, .pointer (some ⟨g21, 0, none⟩), .pointer (some ⟨g22, 0, none⟩), .int .i64 (i : Int), .pointer (some ⟨g26, 0, none⟩), .slice A1 n1 c1, .int .i64 (n1 : Int), .int .i64 ((i + 1 : Nat) : Int), .bool (decide ((i : Int) < (n1 : Int))), .int .i64 (i : Int), elemPtr A1 (i * 3), .agg #[.slice A25 n25 c25, .bool m25, .slice A25_ n25_ c25_], .int .i64 (i : Int), .bool ((i : Int) == (0 : Int)), .agg #[.slice A25 n25 c25, .bool m25, .slice A25_ n25_ c25_], (j23 18), (j23 19), (j23 20), (j23 21), .int .i64 ((i + 1 : Nat) : Int), undef] : Array Value).getD t undef), (by kernel_rfl), rfl, ((((hM.dropn 1).clr).add ((hM.dropn 1).f 3 rfl)).add ((hM.dropn 1).f 2 rfl)).add ((hM.dropn 1).f 0 rfl), (by omega), (fold_first (by omega) (by omega))⟩
   · have hk27 : ((i : Int) == (0 : Int)) = false := beq_eq_false_iff_ne.2 hc27
     refine CG.no ?_ hk27 rfl
     refine CG.lin 5 ?_
     refine GL.v (.func (.func 139) #[] #[.pointer (some ⟨b2, 0, none⟩)]) ?_
     refine GL.r (.agg #[.slice Ao no co, .bool mo, .slice Ao_ no_ co_]) (fun _ hM => op_load_agg (off := 0) (by kernel_rfl) agg48 siz48 (hM.b 1 rfl) rfl rfl) ?_
     refine GL.r (.agg #[.slice A25 n25 c25, .bool m25, .slice A25_ n25_ c25_]) (fun _ hM => op_load_agg (off := 0) (by kernel_rfl) agg48 siz48 (hM.b 0 rfl) rfl rfl) ?_
     refine GL.call (fun _ hM => chosen1_ok hM.avlt (hM.f 1 rfl) (hM.f 0 rfl) (Wk.bk (hM.f 2 rfl)) (by rw [ho]; exact p1 i (by omega))) ?_
     rintro _ _ _ hM ⟨A28, n28, c28, m28, A28_, n28_, c28_, rfl, h28, hb⟩
     refine ⟨_, _, _, rfl, (hM.call hb).add h28, ?_⟩
     refine GL.sA (cs' := #[.slice A28 n28 c28, .bool m28, .slice A28_ n28_ c28_]) (fun _ _ => Mem.st1) (fun _ hM => hM.b 1 rfl) siz48 ?_
     refine GL.q ?_
     refine QG.block ?_
     refine QG.k k2 ?_
     refine CG.lin 2 ?_
     refine GL.v (.int .i64 ((i + 1 : Nat) : Int)) ?_ (hr := fun u => op_to (v := .int .i64 (IntKind.wrap .i64 ((i : Int) + (1 : Int)))) (by kernel_rfl) (wrap_i64 (by omega) (by omega) (by omega)))
     refine GL.v (.int .i64 ((i + 1 : Nat) : Int)) ?_
     refine GL.q ?_
     refine QG.again fun _ hM => ?_
     exact ⟨l.length - (i + 1), (by omega), A28, n28, c28, m28, A28_, n28_, c28_, (pickR way o (l.getD i 0)), (i + 1), (fun t => (#[.slice A1 n1 c1, .func (.func 139) #[] #[.pointer (some ⟨b2, 0, none⟩)], undef, undef, .pointer (some ⟨g21, 0, none⟩), .pointer (some ⟨g22, 0, none⟩), .int .i64 (i : Int), .pointer (some ⟨g26, 0, none⟩), .slice A1 n1 c1, .int .i64 (n1 : Int), .int .i64 ((i + 1 : Nat) : Int), .bool (decide ((i : Int) < (n1 : Int))), .int .i64 (i : Int), elemPtr A1 (i * 3), .agg #[.slice A25 n25 c25, .bool m25, .slice A25_ n25_ c25_], .int .i64 (i : Int), .bool ((i : Int) == (0 : Int)), (j23 17), .func (.func 139) #[] #[.pointer (some ⟨b2, 0, none⟩)], .agg #[.slice Ao no co, .bool mo, .slice Ao_ no_ co_], .agg #[.slice A25 n25 c25, .bool m25, .slice A25_ n25_ c25_], .agg #[.slice A28 n28 c28, .bool m28, .slice A28_ n28_ c28_], .int .i64 ((i + 1 : Nat) : Int), undef] : Array Value).getD t undef), (by kernel_rfl), rfl, ((((hM.dropn 1).clr).add ((hM.dropn 1).f 4 rfl)).add ((hM.dropn 1).f 3 rfl)).add ((hM.dropn 1).f 0 rfl), (by omega), (fold_more (f := pickR way) (by omega) (by omega) ho)⟩
 · have hk24 : (decide ((i : Int) < (n1 : Int))) = false := decide_eq_false hc24
   refine CG.no ?_ hk24 rfl
   refine CG.exit (QG.then_exit (QG.then_exit (QG.here ?_)))
   refine QG.k k1 ?_
   refine CG.seq fun K_ k1 => ?_
   refine CG.lin 2 ?_
   refine GL.r (.agg #[.slice Ao no co, .bool mo, .slice Ao_ no_ co_]) (fun _ hM => op_load_agg (off := 0) (by kernel_rfl) agg48 siz48 (hM.b 0 rfl) rfl rfl) ?_
   refine GL.sA (cs' := #[.slice Ao no co, .bool mo, .slice Ao_ no_ co_]) (fun _ _ => Mem.st1) (fun _ hM => hM.b 1 rfl) siz48 ?_
   refine GL.k k1 ?_
   refine CG.ret (QG.ret (fun _ hM => results_one rfl (res_cell rfl (loadVar_agg agg48 siz48 (hM.b 1 rfl) rfl rfl))) ?_)
   intro _ hM
   exact ⟨_, _, _, _, _, _, _, rfl, ((show o = foldR (pickR way) l by rw [ho, show i = l.length by omega, List.take_length]) ▸ (hM.out (hM.f 0 rfl))), hM.below⟩

set_option maxRecDepth 100000 in
set_option maxHeartbeats 400000 in
theorem chosen_ok {w : World} {X : Nat → Prop} {A1 : Option Addr} {n1 : Nat} {c1 : Nat} {l : List Rat} (hX : ∀ k, X k → k < w.heap.size) (way : Int) (h1 : (LKd Rk 48 3).R X w [.slice A1 n1 c1] l) (p1 : ∀ i, i < l.length → szR (foldR (pickR way) (l.take i)) + szR (l.getD i 0) ≤ 68719476736) :
    Calls Tryz.prog 125 #[.slice A1 n1 c1, .int .i64 way] w (fun e w' => ∃ Ar nr cr mr Ar_ nr_ cr_, e = .returned (.agg #[.slice Ar nr cr, .bool mr, .slice Ar_ nr_ cr_]) ∧ Rk.R X w' [.slice Ar nr cr, .bool mr, .slice Ar_ nr_ cr_] (foldR (pickR way) l) ∧ Below w.heap.size w w') := by
 have hM := (Mem.start hX).add0 h1
 refine calls_of hM Tryz.func125 Tryz.ntmps125 ?_
 refine CG.seq fun K_ k1 => ?_
 refine CG.lin 2 ?_
 refine GL.b1 (.int .i64 way) fun g21 => ?_
 refine GL.aA zer48 fun g22 => ?_
 refine GL.k k1 ?_
 refine CG.seq fun K_ k1 => ?_
 refine CG.lin 4 ?_
 refine GL.v (.slice A1 n1 c1) ?_
 refine GL.v (.func (.func 139) #[] #[.pointer (some ⟨g21, 0, none⟩)]) ?_
 refine GL.mem (fun _ hM => hM.pb1 fun _ hb hx => Bk.of hb hx) ?_
 refine GL.call (fun _ hM => foldpick_ok hM.avlt (hM.f 1 rfl) (Wk.of (hM.f 0 rfl)) (by first | assumption | omega)) ?_
 rintro _ _ _ hM ⟨A23, n23, c23, m23, A23_, n23_, c23_, rfl, h23, hb⟩
 refine ⟨_, _, _, rfl, (hM.call hb).add h23, ?_⟩
 refine GL.sA (cs' := #[.slice A23 n23 c23, .bool m23, .slice A23_ n23_ c23_]) (fun _ _ => Mem.st0) (fun _ hM => hM.b 0 rfl) siz48 ?_
 refine GL.k k1 ?_
 refine CG.ret (QG.ret (fun _ hM => results_one rfl (res_cell rfl (loadVar_agg agg48 siz48 (hM.b 0 rfl) rfl rfl))) ?_)
 intro _ hM
 exact ⟨_, _, _, _, _, _, _, rfl, (hM.out (hM.f 0 rfl)), hM.below⟩

set_option maxRecDepth 100000 in
set_option maxHeartbeats 400000 in
theorem Min_ok {w : World} {X : Nat → Prop} {A1 : Option Addr} {n1 : Nat} {c1 : Nat} {l : List Rat} (hX : ∀ k, X k → k < w.heap.size) (h1 : (LKd Rk 48 3).R X w [.slice A1 n1 c1] l) (p1 : ∀ i, i < l.length → szR (foldR (pickR (-1)) (l.take i)) + szR (l.getD i 0) ≤ 68719476736) :
    Calls Tryz.prog 80 #[.slice A1 n1 c1] w (fun e w' => ∃ Ar nr cr mr Ar_ nr_ cr_, e = .returned (.agg #[.slice Ar nr cr, .bool mr, .slice Ar_ nr_ cr_]) ∧ Rk.R X w' [.slice Ar nr cr, .bool mr, .slice Ar_ nr_ cr_] (foldR (pickR (-1)) l) ∧ Below w.heap.size w w') := by
 have hM := (Mem.start hX).add0 h1
 refine calls_of hM Tryz.func80 Tryz.ntmps80 ?_
 refine CG.seq fun K_ k1 => ?_
 refine CG.lin 1 ?_
 refine GL.aA zer48 fun g21 => ?_
 refine GL.k k1 ?_
 refine CG.seq fun K_ k1 => ?_
 refine CG.lin 3 ?_
 refine GL.v (.slice A1 n1 c1) ?_
 refine GL.call (fun _ hM => chosen_ok hM.avlt (-1) (hM.f 0 rfl) (by first | assumption | omega)) ?_
 rintro _ _ _ hM ⟨A22, n22, c22, m22, A22_, n22_, c22_, rfl, h22, hb⟩
 refine ⟨_, _, _, rfl, (hM.call hb).add h22, ?_⟩
 refine GL.sA (cs' := #[.slice A22 n22 c22, .bool m22, .slice A22_ n22_ c22_]) (fun _ _ => Mem.st0) (fun _ hM => hM.b 0 rfl) siz48 ?_
 refine GL.k k1 ?_
 refine CG.ret (QG.ret (fun _ hM => results_one rfl (res_cell rfl (loadVar_agg agg48 siz48 (hM.b 0 rfl) rfl rfl))) ?_)
 intro _ hM
 exact ⟨_, _, _, _, _, _, _, rfl, (hM.out (hM.f 0 rfl)), hM.below⟩

set_option maxRecDepth 100000 in
set_option maxHeartbeats 400000 in
theorem Max_ok {w : World} {X : Nat → Prop} {A1 : Option Addr} {n1 : Nat} {c1 : Nat} {l : List Rat} (hX : ∀ k, X k → k < w.heap.size) (h1 : (LKd Rk 48 3).R X w [.slice A1 n1 c1] l) (p1 : ∀ i, i < l.length → szR (foldR (pickR 1) (l.take i)) + szR (l.getD i 0) ≤ 68719476736) :
    Calls Tryz.prog 82 #[.slice A1 n1 c1] w (fun e w' => ∃ Ar nr cr mr Ar_ nr_ cr_, e = .returned (.agg #[.slice Ar nr cr, .bool mr, .slice Ar_ nr_ cr_]) ∧ Rk.R X w' [.slice Ar nr cr, .bool mr, .slice Ar_ nr_ cr_] (foldR (pickR 1) l) ∧ Below w.heap.size w w') := by
 have hM := (Mem.start hX).add0 h1
 refine calls_of hM Tryz.func82 Tryz.ntmps82 ?_
 refine CG.seq fun K_ k1 => ?_
 refine CG.lin 1 ?_
 refine GL.aA zer48 fun g21 => ?_
 refine GL.k k1 ?_
 refine CG.seq fun K_ k1 => ?_
 refine CG.lin 3 ?_
 refine GL.v (.slice A1 n1 c1) ?_
 refine GL.call (fun _ hM => chosen_ok hM.avlt (1) (hM.f 0 rfl) (by first | assumption | omega)) ?_
 rintro _ _ _ hM ⟨A22, n22, c22, m22, A22_, n22_, c22_, rfl, h22, hb⟩
 refine ⟨_, _, _, rfl, (hM.call hb).add h22, ?_⟩
 refine GL.sA (cs' := #[.slice A22 n22 c22, .bool m22, .slice A22_ n22_ c22_]) (fun _ _ => Mem.st0) (fun _ hM => hM.b 0 rfl) siz48 ?_
 refine GL.k k1 ?_
 refine CG.ret (QG.ret (fun _ hM => results_one rfl (res_cell rfl (loadVar_agg agg48 siz48 (hM.b 0 rfl) rfl rfl))) ?_)
 intro _ hM
 exact ⟨_, _, _, _, _, _, _, rfl, (hM.out (hM.f 0 rfl)), hM.below⟩

set_option maxRecDepth 100000 in
set_option maxHeartbeats 400000 in
theorem NSum_ok {w : World} {X : Nat → Prop} {A1 : Option Addr} {n1 : Nat} {c1 : Nat} {l : List Rat} (hX : ∀ k, X k → k < w.heap.size) (h1 : (LKd NRk 54 4).R X w [.slice A1 n1 c1] l) (p1 : ∀ i, i < l.length → szgR (foldR (· + ·) (l.take i)) + szgR (l.getD i 0) ≤ 268435456) :
    Calls Tryz.prog 79 #[.slice A1 n1 c1] w (fun e w' => ∃ sr Ar nr cr sr_ Ar_ nr_ cr_, e = .returned (.agg #[.int .i64 sr, .slice Ar nr cr, .int .i64 sr_, .slice Ar_ nr_ cr_]) ∧ NRk.R X w' [.int .i64 sr, .slice Ar nr cr, .int .i64 sr_, .slice Ar_ nr_ cr_] (foldR (· + ·) l) ∧ Below w.heap.size w w') := by
 have hM := (Mem.start hX).add0 h1
 have hl := LKd.len h1
 have hl2 := LKd.le h1
 refine calls_of hM Tryz.func79 Tryz.ntmps79 ?_
 refine CG.seq fun K_ k1 => ?_
 refine CG.lin 1 ?_
 refine GL.aA zer54 fun g21 => ?_
 refine GL.k k1 ?_
 refine CG.seq fun K_ k1 => ?_
 refine CG.lin 1 ?_
 refine GL.aA zer54 fun g22 => ?_
 refine GL.k k1 ?_
 refine CG.seq fun K_ k1 => ?_
 refine CG.seq fun K_ k2 => ?_
 refine CG.lin 1 ?_
 refine GL.v (.int .i64 0) ?_
 refine GL.k k2 ?_
 refine CG.block ?_
 refine CG.loop (fun m_ a_ u_ => ∃ (so : Int) (Ao : Option Addr) (no : Nat) (co : Nat) (so_ : Int) (Ao_ : Option Addr) (no_ : Nat) (co_ : Nat) (o : Rat) (i : Nat) (j23 : Nat → Value), a_ = ⟨#[.slice A1 n1 c1, undef, .pointer (some ⟨g21, 0, none⟩), .pointer (some ⟨g22, 0, none⟩), .int .i64 (i : Int), (j23 5), (j23 6), (j23 7), (j23 8), (j23 9), (j23 10), (j23 11), (j23 12), (j23 13), (j23 14), (j23 15), (j23 16), undef], []⟩ ∧ m_ = l.length - i ∧ Mem w [] X u_ [.box g22 #[.int .i64 so, .slice Ao no co, .int .i64 so_, .slice Ao_ no_ co_] 54, .box g21 #[.int .i64 0, .slice none 0 0, .int .i64 0, .slice none 0 0] 54] [⟨NRk, [.int .i64 so, .slice Ao no co, .int .i64 so_, .slice Ao_ no_ co_], o⟩, ⟨(LKd NRk 54 4), [.slice A1 n1 c1], l⟩] ∧ (i ≤ l.length) ∧ (o = foldR (· + ·) (l.take i))) (fun _ hM => ⟨_, 0, none, 0, 0, 0, none, 0, 0, 0, 0, (fun t => (#[.slice A1 n1 c1, undef, .pointer (some ⟨g21, 0, none⟩), .pointer (some ⟨g22, 0, none⟩), .int .i64 0, undef, undef, undef, undef, undef, undef, undef, undef, undef, undef, undef, undef, undef] : Array Value).getD t undef), (by kernel_rfl), rfl, ((hM.clr).add (hM.f 0 rfl)).add (NRk.nil _ _ none none 0 0), (by omega), rfl⟩) ?_
 rintro m_ a_ u_ ⟨so, Ao, no, co, so_, Ao_, no_, co_, o, i, j23, rfl, hm23, hM, hi, ho⟩
 refine CG.go hM ?_
 refine CG.seq fun K_ k2 => ?_
 refine CG.seq fun K_ k3 => ?_
 refine CG.lin 4 ?_
 refine GL.v (.int .i64 (i : Int)) ?_
 refine GL.v (.slice A1 n1 c1) ?_
 refine GL.v (.int .i64 (n1 : Int)) ?_
 refine GL.v (.bool (decide ((i : Int) < (n1 : Int)))) ?_
 refine GL.k k3 ?_
 by_cases hc24 : (i : Int) < (n1 : Int)
 · have hk24 : (decide ((i : Int) < (n1 : Int))) = true := decide_eq_true hc24
   refine CG.yes ?_ hk24 rfl
   refine CG.skip ?_
   refine QG.k k2 ?_
   refine CG.seq fun K_ k2 => ?_
   refine CG.block ?_
   refine CG.draw [] [0, 1, 2] (.step 0 (.step 1 (.step 2 (.step 3 (.step 4 (.step 5 (.step 6 .done))))))) (fun V hV25 => ?_)
   refine GD.er (.agg #[.int .i64 so, .slice Ao no co, .int .i64 so_, .slice Ao_ no_ co_]) (fun _ hS => op_load_agg (off := 0) (by kernel_rfl) agg54 siz54 (hV25.bS 0 rfl hS) rfl rfl) ?_
   refine GD.ev (.slice A1 n1 c1) ?_
   refine GD.ev (.int .i64 (i : Int)) ?_
   refine GD.r (elemPtr A1 (i * 4)) (fun _ hM => op_index_k rowk98 (by decide) (kd := .i64) (i := (i : Int)) i (by kernel_rfl) (by kernel_rfl) (by omega) (by omega) (hM.f 1 rfl) _) ?_
   refine GD.exNR (x := l.getD i 0) (fun _ hM => op_load_k rowk98 (by decide) (by kernel_rfl) (hM.f 1 rfl) (by omega) (getD_at _ (by have := LKd.len (hM.f 1 rfl); omega))) fun s26 A26 n26 c26 s26_ A26_ n26_ c26_ => ?_
   refine GD.call (fun _ hM => NAdd_ok hM.avlt (hM.f 1 rfl) (hM.f 0 rfl) (by rw [ho]; exact p1 i (by omega))) ?_
   rintro _ _ _ hM ⟨s27, A27, n27, c27, s27_, A27_, n27_, c27_, rfl, h27, hb⟩
   have hs27 := szgR_add o (l.getD i 0)
   refine ⟨_, _, _, rfl, hb, (hM.call hb).add h27, ?_⟩
   refine GD.st (fun _ _ => Mem.st0) (fun _ hM => store_all (cs' := #[.int .i64 s27, .slice A27 n27 c27, .int .i64 s27_, .slice A27_ n27_ c27_]) siz54 (hM.b 0 rfl) (by kernel_rfl) (by kernel_rfl) rfl rfl rfl) ?_
   refine GD.q ?_
   refine QG.block ?_
   refine QG.k k2 ?_
   refine CG.lin 3 ?_
   refine GL.v (.int .i64 (i : Int)) ?_
   refine GL.v (.int .i64 ((i + 1 : Nat) : Int)) ?_ (hr := fun u => op_to (v := .int .i64 (IntKind.wrap .i64 ((i : Int) + (1 : Int)))) (by kernel_rfl) (wrap_i64 (by omega) (by omega) (by omega)))
   refine GL.v (.int .i64 ((i + 1 : Nat) : Int)) ?_
   refine GL.q ?_
   refine QG.again fun _ hM => ?_
   exact ⟨l.length - (i + 1), (by omega), s27, A27, n27, c27, s27_, A27_, n27_, c27_, (o + (l.getD i 0)), (i + 1), (fun t => (#[.slice A1 n1 c1, undef, .pointer (some ⟨g21, 0, none⟩), .pointer (some ⟨g22, 0, none⟩), .int .i64 ((i + 1 : Nat) : Int), .int .i64 (i : Int), .slice A1 n1 c1, .int .i64 (n1 : Int), .bool (decide ((i : Int) < (n1 : Int))), .int .i64 (i : Int), .int .i64 ((i + 1 : Nat) : Int), .agg #[.int .i64 so, .slice Ao no co, .int .i64 so_, .slice Ao_ no_ co_], .slice A1 n1 c1, .int .i64 (i : Int), elemPtr A1 (i * 4), .agg #[.int .i64 s26, .slice A26 n26 c26, .int .i64 s26_, .slice A26_ n26_ c26_], .agg #[.int .i64 s27, .slice A27 n27 c27, .int .i64 s27_, .slice A27_ n27_ c27_], undef] : Array Value).getD t undef), (by kernel_rfl), rfl, ((hM.clr).add (hM.f 3 rfl)).add (hM.f 0 rfl), (by omega), (fold_sum (by omega) ho)⟩
 · have hk24 : (decide ((i : Int) < (n1 : Int))) = false := decide_eq_false hc24
   refine CG.no ?_ hk24 rfl
   refine CG.exit (QG.then_exit (QG.then_exit (QG.here ?_)))
   refine QG.k k1 ?_
   refine CG.seq fun K_ k1 => ?_
   refine CG.lin 2 ?_
   refine GL.r (.agg #[.int .i64 so, .slice Ao no co, .int .i64 so_, .slice Ao_ no_ co_]) (fun _ hM => op_load_agg (off := 0) (by kernel_rfl) agg54 siz54 (hM.b 0 rfl) rfl rfl) ?_
   refine GL.sA (cs' := #[.int .i64 so, .slice Ao no co, .int .i64 so_, .slice Ao_ no_ co_]) (fun _ _ => Mem.st1) (fun _ hM => hM.b 1 rfl) siz54 ?_
   refine GL.k k1 ?_
   refine CG.ret (QG.ret (fun _ hM => results_one rfl (res_cell rfl (loadVar_agg agg54 siz54 (hM.b 1 rfl) rfl rfl))) ?_)
   intro _ hM
   exact ⟨_, _, _, _, _, _, _, _, rfl, ((show o = foldR (· + ·) l by rw [ho, show i = l.length by omega, List.take_length]) ▸ (hM.out (hM.f 0 rfl))), hM.below⟩

set_option maxRecDepth 100000 in
set_option maxHeartbeats 400000 in
theorem NMin_ok {w : World} {X : Nat → Prop} {A1 : Option Addr} {n1 : Nat} {c1 : Nat} {l : List Rat} (hX : ∀ k, X k → k < w.heap.size) (h1 : (LKd NRk 54 4).R X w [.slice A1 n1 c1] l) (p1 : ∀ i, i < l.length → szgR (foldR (pickR (-1)) (l.take i)) + szgR (l.getD i 0) ≤ 268435456) :
    Calls Tryz.prog 81 #[.slice A1 n1 c1] w (fun e w' => ∃ sr Ar nr cr sr_ Ar_ nr_ cr_, e = .returned (.agg #[.int .i64 sr, .slice Ar nr cr, .int .i64 sr_, .slice Ar_ nr_ cr_]) ∧ NRk.R X w' [.int .i64 sr, .slice Ar nr cr, .int .i64 sr_, .slice Ar_ nr_ cr_] (foldR (pickR (-1)) l) ∧ Below w.heap.size w w') := by
 have hM := (Mem.start hX).add0 h1
 have hl := LKd.len h1
 have hl2 := LKd.le h1
 refine calls_of hM Tryz.func81 Tryz.ntmps81 ?_
 refine CG.seq fun K_ k1 => ?_
 refine CG.lin 1 ?_
 refine GL.aA zer54 fun g21 => ?_
 refine GL.k k1 ?_
 refine CG.seq fun K_ k1 => ?_
 refine CG.lin 1 ?_
 refine GL.aA zer54 fun g22 => ?_
 refine GL.k k1 ?_
 refine CG.seq fun K_ k1 => ?_
 refine CG.seq fun K_ k2 => ?_
 refine CG.lin 1 ?_
 refine GL.v (.int .i64 0) ?_
 refine GL.k k2 ?_
 refine CG.block ?_
 refine CG.loop (fun m_ a_ u_ => ∃ (so : Int) (Ao : Option Addr) (no : Nat) (co : Nat) (so_ : Int) (Ao_ : Option Addr) (no_ : Nat) (co_ : Nat) (o : Rat) (i : Nat) (j23 : Nat → Value), a_ = ⟨#[.slice A1 n1 c1, undef, .pointer (some ⟨g21, 0, none⟩), .pointer (some ⟨g22, 0, none⟩), .int .i64 (i : Int), (j23 5), (j23 6), (j23 7), (j23 8), (j23 9), (j23 10), (j23 11), (j23 12), (j23 13), (j23 14), (j23 15), (j23 16), (j23 17), (j23 18), (j23 19), (j23 20), (j23 21), (j23 22), (j23 23), (j23 24), (j23 25), undef], []⟩ ∧ m_ = l.length - i ∧ Mem w [] X u_ [.box g22 #[.int .i64 so, .slice Ao no co, .int .i64 so_, .slice Ao_ no_ co_] 54, .box g21 #[.int .i64 0, .slice none 0 0, .int .i64 0, .slice none 0 0] 54] [⟨NRk, [.int .i64 so, .slice Ao no co, .int .i64 so_, .slice Ao_ no_ co_], o⟩, ⟨(LKd NRk 54 4), [.slice A1 n1 c1], l⟩] ∧ (i ≤ l.length) ∧ (o = foldR (pickR (-1)) (l.take i))) (fun _ hM => ⟨_, 0, none, 0, 0, 0, none, 0, 0, 0, 0, (fun t => (#[.slice A1 n1 c1, undef, .pointer (some ⟨g21, 0, none⟩), .pointer (some ⟨g22, 0, none⟩), .int .i64 0, undef, undef, undef, undef, undef, undef, undef, undef, undef, undef, undef, undef, undef, undef, undef, undef, undef, undef, undef, undef, undef, undef] : Array Value).getD t undef), (by kernel_rfl), rfl, ((hM.clr).add (hM.f 0 rfl)).add (NRk.nil _ _ none none 0 0), (by omega), rfl⟩) ?_
 rintro m_ a_ u_ ⟨so, Ao, no, co, so_, Ao_, no_, co_, o, i, j23, rfl, hm23, hM, hi, ho⟩
 refine CG.go hM ?_
 refine CG.seq fun K_ k2 => ?_
 refine CG.seq fun K_ k3 => ?_
 refine CG.lin 4 ?_
 refine GL.v (.int .i64 (i : Int)) ?_
 refine GL.v (.slice A1 n1 c1) ?_
 refine GL.v (.int .i64 (n1 : Int)) ?_
 refine GL.v (.bool (decide ((i : Int) < (n1 : Int)))) ?_
 refine GL.k k3 ?_
 by_cases hc24 : (i : Int) < (n1 : Int)
 · have hk24 : (decide ((i : Int) < (n1 : Int))) = true := decide_eq_true hc24
   refine CG.yes ?_ hk24 rfl
   refine CG.skip ?_
   refine QG.k k2 ?_
   refine CG.seq fun K_ k2 => ?_
   refine CG.block ?_
   refine CG.seq fun K_ k3 => ?_
   by_cases hc25 : (i : Int) = (0 : Int)
   · have hk25 : ((i : Int) == (0 : Int)) = true := beq_iff_eq.2 hc25
     refine CG.draw [] [0, 1, 2, 3, 4, 7, 9, 10] (.step 0 (.step 1 (.step 2 (.step 3 (.step 4 (.step 7 (.step 5 (.step 6 (.step 8 (.step 9 (.step 10 .done))))))))))) (fun V hV26 => ?_)
     refine GD.ev (.int .i64 (i : Int)) ?_
     refine GD.ev (.bool true) ?_ (hr := fun u => op_b (b := ((i : Int) == (0 : Int))) (by kernel_rfl) hk25)
     refine GD.ev (.bool true) ?_
     refine GD.eo ?_
     refine GD.eo ?_
     refine GD.eo ?_
     refine GD.sk ?_
     refine GD.sk ?_
     refine GD.sk ?_
     refine GD.eo ?_
     refine GD.ev (.bool true) ?_
     refine GD.k k3 ?_
     refine CG.yes ?_ rfl rfl
     refine CG.lin 5 ?_
     refine GL.v (.slice A1 n1 c1) ?_
     refine GL.v (.int .i64 (i : Int)) ?_
     refine GL.r (elemPtr A1 (i * 4)) (fun _ hM => op_index_k rowk98 (by decide) (kd := .i64) (i := (i : Int)) i (by kernel_rfl) (by kernel_rfl) (by omega) (by omega) (hM.f 1 rfl) _) ?_
     refine GL.exNR (x := l.getD i 0) (fun _ hM => op_load_k rowk98 (by decide) (by kernel_rfl) (hM.f 1 rfl) (by omega) (getD_at _ (by have := LKd.len (hM.f 1 rfl); omega))) fun s27 A27 n27 c27 s27_ A27_ n27_ c27_ => ?_
     refine GL.sA (cs' := #[.int .i64 s27, .slice A27 n27 c27, .int .i64 s27_, .slice A27_ n27_ c27_]) (fun _ _ => Mem.st0) (fun _ hM => hM.b 0 rfl) siz54 ?_
     refine GL.q ?_
     refine QG.block ?_
     refine QG.k k2 ?_
     refine CG.lin 3 ?_
     refine GL.v (.int .i64 (i : Int)) ?_
     refine GL.v (.int .i64 ((i + 1 : Nat) : Int)) ?_ (hr := fun u => op_to (v := .int .i64 (IntKind.wrap .i64 ((i : Int) + (1 : Int)))) (by kernel_rfl) (wrap_i64 (by omega) (by omega) (by omega)))
     refine GL.v (.int .i64 ((i + 1 : Nat) : Int)) ?_
     refine GL.q ?_
     refine QG.again fun _ hM => ?_
     exact ⟨l.length - (i + 1), (by omega), s27, A27, n27, c27, s27_, A27_, n27_, c27_, (l.getD i 0), (i + 1), (fun t => (#[.slice A1 n1 c1, undef, .pointer (some ⟨g21, 0, none⟩), .pointer (some ⟨g22, 0, none⟩), .int .i64 ((i + 1 : Nat) : Int), .int .i64 (i : Int), .slice A1 n1 c1, .int .i64 (n1 : Int), .bool (decide ((i : Int) < (n1 : Int))), .int .i64 (i : Int), .int .i64 ((i + 1 : Nat) : Int), .int .i64 (i : Int), .bool true, .bool true, undef, undef, undef, undef, undef, undef, undef, .bool true, .slice A1 n1 c1, .int .i64 (i : Int), elemPtr A1 (i * 4), .agg #[.int .i64 s27, .slice A27 n27 c27, .int .i64 s27_, .slice A27_ n27_ c27_], undef] : Array Value).getD t undef), (by kernel_rfl), rfl, ((hM.clr).add (hM.f 2 rfl)).add (hM.f 0 rfl), (by omega), (fold_pick_yes (by omega) ho (.inl (by omega)))⟩
   · have hk25 : ((i : Int) == (0 : Int)) = false := beq_eq_false_iff_ne.2 hc25
     refine CG.draw [] [0, 1, 2, 3, 4, 7, 9, 10] (.step 0 (.step 1 (.step 2 (.step 3 (.step 4 (.step 7 (.step 5 (.step 6 (.step 8 (.step 9 (.step 10 .done))))))))))) (fun V hV28 => ?_)
     refine GD.ev (.int .i64 (i : Int)) ?_
     refine GD.ev (.bool false) ?_ (hr := fun u => op_b (b := ((i : Int) == (0 : Int))) (by kernel_rfl) hk25)
     refine GD.ev (.bool false) ?_
     refine GD.ev (.slice A1 n1 c1) ?_
     refine GD.ev (.int .i64 (i : Int)) ?_
     refine GD.er (.agg #[.int .i64 so, .slice Ao no co, .int .i64 so_, .slice Ao_ no_ co_]) (fun _ hS => op_load_agg (off := 0) (by kernel_rfl) agg54 siz54 (hV28.bS 0 rfl hS) rfl rfl) ?_
     refine GD.r (elemPtr A1 (i * 4)) (fun _ hM => op_index_k rowk98 (by decide) (kd := .i64) (i := (i : Int)) i (by kernel_rfl) (by kernel_rfl) (by omega) (by omega) (hM.f 1 rfl) _) ?_
     refine GD.exNR (x := l.getD i 0) (fun _ hM => op_load_k rowk98 (by decide) (by kernel_rfl) (hM.f 1 rfl) (by omega) (getD_at _ (by have := LKd.len (hM.f 1 rfl); omega))) fun s29 A29 n29 c29 s29_ A29_ n29_ c29_ => ?_
     refine GD.call (fun _ hM => NCmp_ok hM.avlt (hM.f 0 rfl) (hM.f 1 rfl) (by have := p1 i (by omega); rw [← ho] at this; omega)) ?_
     rintro _ _ _ hM ⟨rfl, hb⟩
     refine ⟨_, _, _, rfl, hb, hM.call hb, ?_⟩
     refine GD.ev (.bool (decide ((((l.getD i 0).num * (o.den : Int) - o.num * ((l.getD i 0).den : Int)).sign) < (0 : Int)))) ?_
     refine GD.ev (.bool (decide ((((l.getD i 0).num * (o.den : Int) - o.num * ((l.getD i 0).den : Int)).sign) < (0 : Int)))) ?_
     refine GD.k k3 ?_
     by_cases hc31 : ((l.getD i 0).num * (o.den : Int) - o.num * ((l.getD i 0).den : Int)).sign = -1
     · have hk31 : (decide ((((l.getD i 0).num * (o.den : Int) - o.num * ((l.getD i 0).den : Int)).sign) < (0 : Int))) = true := (sgn_lt1 _).trans (decide_eq_true hc31)
       refine CG.yes ?_ hk31 rfl
       refine CG.lin 5 ?_
       refine GL.v (.slice A1 n1 c1) ?_
       refine GL.v (.int .i64 (i : Int)) ?_
       refine GL.r (elemPtr A1 (i * 4)) (fun _ hM => op_index_k rowk98 (by decide) (kd := .i64) (i := (i : Int)) i (by kernel_rfl) (by kernel_rfl) (by omega) (by omega) (hM.f 2 rfl) _) ?_
       refine GL.exNR (x := l.getD i 0) (fun _ hM => op_load_k rowk98 (by decide) (by kernel_rfl) (hM.f 2 rfl) (by omega) (getD_at _ (by have := LKd.len (hM.f 2 rfl); omega))) fun s32 A32 n32 c32 s32_ A32_ n32_ c32_ => ?_
       refine GL.sA (cs' := #[.int .i64 s32, .slice A32 n32 c32, .int .i64 s32_, .slice A32_ n32_ c32_]) (fun _ _ => Mem.st0) (fun _ hM => hM.b 0 rfl) siz54 ?_
       refine GL.q ?_
       refine QG.block ?_
       refine QG.k k2 ?_
       refine CG.lin 3 ?_
       refine GL.v (.int .i64 (i : Int)) ?_
       refine GL.v (.int .i64 ((i + 1 : Nat) : Int)) ?_ (hr := fun u => op_to (v := .int .i64 (IntKind.wrap .i64 ((i : Int) + (1 : Int)))) (by kernel_rfl) (wrap_i64 (by omega) (by omega) (by omega)))
       refine GL.v (.int .i64 ((i + 1 : Nat) : Int)) ?_
       refine GL.q ?_
       refine QG.again fun _ hM => ?_
       exact ⟨l.length - (i + 1), (by omega), s32, A32, n32, c32, s32_, A32_, n32_, c32_, (l.getD i 0), (i + 1), (fun t => (#[.slice A1 n1 c1, undef, .pointer (some ⟨g21, 0, none⟩), .pointer (some ⟨g22, 0, none⟩), .int .i64 ((i + 1 : Nat) : Int), .int .i64 (i : Int), .slice A1 n1 c1, .int .i64 (n1 : Int), .bool (decide ((i : Int) < (n1 : Int))), .int .i64 (i : Int), .int .i64 ((i + 1 : Nat) : Int), .int .i64 (i : Int), .bool false, .bool false, .slice A1 n1 c1, .int .i64 (i : Int), elemPtr A1 (i * 4), .agg #[.int .i64 s29, .slice A29 n29 c29, .int .i64 s29_, .slice A29_ n29_ c29_], .agg #[.int .i64 so, .slice Ao no co, .int .i64 so_, .slice Ao_ no_ co_], .int .i64 (((l.getD i 0).num * (o.den : Int) - o.num * ((l.getD i 0).den : Int)).sign), .bool (decide ((((l.getD i 0).num * (o.den : Int) - o.num * ((l.getD i 0).den : Int)).sign) < (0 : Int))), .bool (decide ((((l.getD i 0).num * (o.den : Int) - o.num * ((l.getD i 0).den : Int)).sign) < (0 : Int))), .slice A1 n1 c1, .int .i64 (i : Int), elemPtr A1 (i * 4), .agg #[.int .i64 s32, .slice A32 n32 c32, .int .i64 s32_, .slice A32_ n32_ c32_], undef] : Array Value).getD t undef), (by kernel_rfl), rfl, ((hM.clr).add (hM.f 3 rfl)).add (hM.f 0 rfl), (by omega), (fold_pick_yes (by omega) ho (.inr hc31))⟩
     · have hk31 : (decide ((((l.getD i 0).num * (o.den : Int) - o.num * ((l.getD i 0).den : Int)).sign) < (0 : Int))) = false := (sgn_lt1 _).trans (decide_eq_false hc31)
       refine CG.no ?_ hk31 rfl
       refine CG.skip ?_
       refine QG.block ?_
       refine QG.k k2 ?_
       refine CG.lin 3 ?_
       refine GL.v (.int .i64 (i : Int)) ?_
       refine GL.v (.int .i64 ((i + 1 : Nat) : Int)) ?_ (hr := fun u => op_to (v := .int .i64 (IntKind.wrap .i64 ((i : Int) + (1 : Int)))) (by kernel_rfl) (wrap_i64 (by omega) (by omega) (by omega)))
       refine GL.v (.int .i64 ((i + 1 : Nat) : Int)) ?_
       refine GL.q ?_
       refine QG.again fun _ hM => ?_
       exact ⟨l.length - (i + 1), (by omega), so, Ao, no, co, so_, Ao_, no_, co_, o, (i + 1), (fun t => (#[.slice A1 n1 c1, undef, .pointer (some ⟨g21, 0, none⟩), .pointer (some ⟨g22, 0, none⟩), .int .i64 ((i + 1 : Nat) : Int), .int .i64 (i : Int), .slice A1 n1 c1, .int .i64 (n1 : Int), .bool (decide ((i : Int) < (n1 : Int))), .int .i64 (i : Int), .int .i64 ((i + 1 : Nat) : Int), .int .i64 (i : Int), .bool false, .bool false, .slice A1 n1 c1, .int .i64 (i : Int), elemPtr A1 (i * 4), .agg #[.int .i64 s29, .slice A29 n29 c29, .int .i64 s29_, .slice A29_ n29_ c29_], .agg #[.int .i64 so, .slice Ao no co, .int .i64 so_, .slice Ao_ no_ co_], .int .i64 (((l.getD i 0).num * (o.den : Int) - o.num * ((l.getD i 0).den : Int)).sign), .bool (decide ((((l.getD i 0).num * (o.den : Int) - o.num * ((l.getD i 0).den : Int)).sign) < (0 : Int))), .bool (decide ((((l.getD i 0).num * (o.den : Int) - o.num * ((l.getD i 0).den : Int)).sign) < (0 : Int))), (j23 22), (j23 23), (j23 24), (j23 25), undef] : Array Value).getD t undef), (by kernel_rfl), rfl, ((hM.clr).add (hM.f 2 rfl)).add (hM.f 1 rfl), (by omega), (fold_pick_no (by omega) ho (by omega) hc31)⟩
 · have hk24 : (decide ((i : Int) < (n1 : Int))) = false := decide_eq_false hc24
   refine CG.no ?_ hk24 rfl
   refine CG.exit (QG.then_exit (QG.then_exit (QG.here ?_)))
   refine QG.k k1 ?_
   refine CG.seq fun K_ k1 => ?_
   refine CG.lin 2 ?_
   refine GL.r (.agg #[.int .i64 so, .slice Ao no co, .int .i64 so_, .slice Ao_ no_ co_]) (fun _ hM => op_load_agg (off := 0) (by kernel_rfl) agg54 siz54 (hM.b 0 rfl) rfl rfl) ?_
   refine GL.sA (cs' := #[.int .i64 so, .slice Ao no co, .int .i64 so_, .slice Ao_ no_ co_]) (fun _ _ => Mem.st1) (fun _ hM => hM.b 1 rfl) siz54 ?_
   refine GL.k k1 ?_
   refine CG.ret (QG.ret (fun _ hM => results_one rfl (res_cell rfl (loadVar_agg agg54 siz54 (hM.b 1 rfl) rfl rfl))) ?_)
   intro _ hM
   exact ⟨_, _, _, _, _, _, _, _, rfl, ((show o = foldR (pickR (-1)) l by rw [ho, show i = l.length by omega, List.take_length]) ▸ (hM.out (hM.f 0 rfl))), hM.below⟩

set_option maxRecDepth 100000 in
set_option maxHeartbeats 400000 in
theorem NMax_ok {w : World} {X : Nat → Prop} {A1 : Option Addr} {n1 : Nat} {c1 : Nat} {l : List Rat} (hX : ∀ k, X k → k < w.heap.size) (h1 : (LKd NRk 54 4).R X w [.slice A1 n1 c1] l) (p1 : ∀ i, i < l.length → szgR (foldR (pickR 1) (l.take i)) + szgR (l.getD i 0) ≤ 268435456) :
    Calls Tryz.prog 83 #[.slice A1 n1 c1] w (fun e w' => ∃ sr Ar nr cr sr_ Ar_ nr_ cr_, e = .returned (.agg #[.int .i64 sr, .slice Ar nr cr, .int .i64 sr_, .slice Ar_ nr_ cr_]) ∧ NRk.R X w' [.int .i64 sr, .slice Ar nr cr, .int .i64 sr_, .slice Ar_ nr_ cr_] (foldR (pickR 1) l) ∧ Below w.heap.size w w') := by
 have hM := (Mem.start hX).add0 h1
 have hl := LKd.len h1
 have hl2 := LKd.le h1
 refine calls_of hM Tryz.func83 Tryz.ntmps83 ?_
 refine CG.seq fun K_ k1 => ?_
 refine CG.lin 1 ?_
 refine GL.aA zer54 fun g21 => ?_
 refine GL.k k1 ?_
 refine CG.seq fun K_ k1 => ?_
 refine CG.lin 1 ?_
 refine GL.aA zer54 fun g22 => ?_
 refine GL.k k1 ?_
 refine CG.seq fun K_ k1 => ?_
 refine CG.seq fun K_ k2 => ?_
 refine CG.lin 1 ?_
 refine GL.v (.int .i64 0) ?_
 refine GL.k k2 ?_
 refine CG.block ?_
 refine CG.loop (fun m_ a_ u_ => ∃ (so : Int) (Ao : Option Addr) (no : Nat) (co : Nat) (so_ : Int) (Ao_ : Option Addr) (no_ : Nat) (co_ : Nat) (o : Rat) (i : Nat) (j23 : Nat → Value), a_ = ⟨#[.slice A1 n1 c1, undef, .pointer (some ⟨g21, 0, none⟩), .pointer (some ⟨g22, 0, none⟩), .int .i64 (i : Int), (j23 5), (j23 6), (j23 7), (j23 8), (j23 9), (j23 10), (j23 11), (j23 12), (j23 13), (j23 14), (j23 15), (j23 16), (j23 17), (j23 18), (j23 19), (j23 20), (j23 21), (j23 22), (j23 23), (j23 24), (j23 25), undef], []⟩ ∧ m_ = l.length - i ∧ Mem w [] X u_ [.box g22 #[.int .i64 so, .slice Ao no co, .int .i64 so_, .slice Ao_ no_ co_] 54, .box g21 #[.int .i64 0, .slice none 0 0, .int .i64 0, .slice none 0 0] 54] [⟨NRk, [.int .i64 so, .slice Ao no co, .int .i64 so_, .slice Ao_ no_ co_], o⟩, ⟨(LKd NRk 54 4), [.slice A1 n1 c1], l⟩] ∧ (i ≤ l.length) ∧ (o = foldR (pickR 1) (l.take i))) (fun _ hM => ⟨_, 0, none, 0, 0, 0, none, 0, 0, 0, 0, (fun t => (#[.slice A1 n1 c1, undef, .pointer (some ⟨g21, 0, none⟩), .pointer (some ⟨g22, 0, none⟩), .int .i64 0, undef, undef, undef, undef, undef, undef, undef, undef, undef, undef, undef, undef, undef, undef, undef, undef, undef, undef, undef, undef, undef, undef] : Array Value).getD t undef), (by kernel_rfl), rfl, ((hM.clr).add (hM.f 0 rfl)).add (NRk.nil _ _ none none 0 0), (by omega), rfl⟩) ?_
 rintro m_ a_ u_ ⟨so, Ao, no, co, so_, Ao_, no_, co_, o, i, j23, rfl, hm23, hM, hi, ho⟩
 refine CG.go hM ?_
 refine CG.seq fun K_ k2 => ?_
 refine CG.seq fun K_ k3 => ?_
 refine CG.lin 4 ?_
 refine GL.v (.int .i64 (i : Int)) ?_
 refine GL.v (.slice A1 n1 c1) ?_
 refine GL.v (.int .i64 (n1 : Int)) ?_
 refine GL.v (.bool (decide ((i : Int) < (n1 : Int)))) ?_
 refine GL.k k3 ?_
 by_cases hc24 : (i : Int) < (n1 : Int)
 · have hk24 : (decide ((i : Int) < (n1 : Int))) = true := decide_eq_true hc24
   refine CG.yes ?_ hk24 rfl
   refine CG.skip ?_
   refine QG.k k2 ?_
   refine CG.seq fun K_ k2 => ?_
   refine CG.block ?_
   refine CG.seq fun K_ k3 => ?_
   by_cases hc25 : (i : Int) = (0 : Int)
   · have hk25 : ((i : Int) == (0 : Int)) = true := beq_iff_eq.2 hc25
     refine CG.draw [] [0, 1, 2, 3, 4, 7, 9, 10] (.step 0 (.step 1 (.step 2 (.step 3 (.step 4 (.step 7 (.step 5 (.step 6 (.step 8 (.step 9 (.step 10 .done))))))))))) (fun V hV26 => ?_)
     refine GD.ev (.int .i64 (i : Int)) ?_
     refine GD.ev (.bool true) ?_ (hr := fun u => op_b (b := ((i : Int) == (0 : Int))) (by kernel_rfl) hk25)
     refine GD.ev (.bool true) ?_
     refine GD.eo ?_
     refine GD.eo ?_
     refine GD.eo ?_
     refine GD.sk ?_
     refine GD.sk ?_
     refine GD.sk ?_
     refine GD.eo ?_
     refine GD.ev (.bool true) ?_
     refine GD.k k3 ?_
     refine CG.yes ?_ rfl rfl
     refine CG.lin 5 ?_
     refine GL.v (.slice A1 n1 c1) ?_
     refine GL.v (.int .i64 (i : Int)) ?_
     refine GL.r (elemPtr A1 (i * 4)) (fun _ hM => op_index_k rowk98 (by decide) (kd := .i64) (i := (i : Int)) i (by kernel_rfl) (by kernel_rfl) (by omega) (by omega) (hM.f 1 rfl) _) ?_
     refine GL.exNR (x := l.getD i 0) (fun _ hM => op_load_k rowk98 (by decide) (by kernel_rfl) (hM.f 1 rfl) (by omega) (getD_at _ (by have := LKd.len (hM.f 1 rfl); omega))) fun s27 A27 n27 c27 s27_ A27_ n27_ c27_ => ?_
     refine GL.sA (cs' := #[.int .i64 s27, .slice A27 n27 c27, .int .i64 s27_, .slice A27_ n27_ c27_]) (fun _ _ => Mem.st0) (fun _ hM => hM.b 0 rfl) siz54 ?_
     refine GL.q ?_
     refine QG.block ?_
     refine QG.k k2 ?_
     refine CG.lin 3 ?_
     refine GL.v (.int .i64 (i : Int)) ?_
     refine GL.v (.int .i64 ((i + 1 : Nat) : Int)) ?_ (hr := fun u => op_to (v := .int .i64 (IntKind.wrap .i64 ((i : Int) + (1 : Int)))) (by kernel_rfl) (wrap_i64 (by omega) (by omega) (by omega)))
     refine GL.v (.int .i64 ((i + 1 : Nat) : Int)) ?_
     refine GL.q ?_
     refine QG.again fun _ hM => ?_
     exact ⟨l.length - (i + 1), (by omega), s27, A27, n27, c27, s27_, A27_, n27_, c27_, (l.getD i 0), (i + 1), (fun t => (#[.slice A1 n1 c1, undef, .pointer (some ⟨g21, 0, none⟩), .pointer (some ⟨g22, 0, none⟩), .int .i64 ((i + 1 : Nat) : Int), .int .i64 (i : Int), .slice A1 n1 c1, .int .i64 (n1 : Int), .bool (decide ((i : Int) < (n1 : Int))), .int .i64 (i : Int), .int .i64 ((i + 1 : Nat) : Int), .int .i64 (i : Int), .bool true, .bool true, undef, undef, undef, undef, undef, undef, undef, .bool true, .slice A1 n1 c1, .int .i64 (i : Int), elemPtr A1 (i * 4), .agg #[.int .i64 s27, .slice A27 n27 c27, .int .i64 s27_, .slice A27_ n27_ c27_], undef] : Array Value).getD t undef), (by kernel_rfl), rfl, ((hM.clr).add (hM.f 2 rfl)).add (hM.f 0 rfl), (by omega), (fold_pick_yes (by omega) ho (.inl (by omega)))⟩
   · have hk25 : ((i : Int) == (0 : Int)) = false := beq_eq_false_iff_ne.2 hc25
     refine CG.draw [] [0, 1, 2, 3, 4, 7, 9, 10] (.step 0 (.step 1 (.step 2 (.step 3 (.step 4 (.step 7 (.step 5 (.step 6 (.step 8 (.step 9 (.step 10 .done))))))))))) (fun V hV28 => ?_)
     refine GD.ev (.int .i64 (i : Int)) ?_
     refine GD.ev (.bool false) ?_ (hr := fun u => op_b (b := ((i : Int) == (0 : Int))) (by kernel_rfl) hk25)
     refine GD.ev (.bool false) ?_
     refine GD.ev (.slice A1 n1 c1) ?_
     refine GD.ev (.int .i64 (i : Int)) ?_
     refine GD.er (.agg #[.int .i64 so, .slice Ao no co, .int .i64 so_, .slice Ao_ no_ co_]) (fun _ hS => op_load_agg (off := 0) (by kernel_rfl) agg54 siz54 (hV28.bS 0 rfl hS) rfl rfl) ?_
     refine GD.r (elemPtr A1 (i * 4)) (fun _ hM => op_index_k rowk98 (by decide) (kd := .i64) (i := (i : Int)) i (by kernel_rfl) (by kernel_rfl) (by omega) (by omega) (hM.f 1 rfl) _) ?_
     refine GD.exNR (x := l.getD i 0) (fun _ hM => op_load_k rowk98 (by decide) (by kernel_rfl) (hM.f 1 rfl) (by omega) (getD_at _ (by have := LKd.len (hM.f 1 rfl); omega))) fun s29 A29 n29 c29 s29_ A29_ n29_ c29_ => ?_
     refine GD.call (fun _ hM => NCmp_ok hM.avlt (hM.f 0 rfl) (hM.f 1 rfl) (by have := p1 i (by omega); rw [← ho] at this; omega)) ?_
     rintro _ _ _ hM ⟨rfl, hb⟩
     refine ⟨_, _, _, rfl, hb, hM.call hb, ?_⟩
     refine GD.ev (.bool (decide ((((l.getD i 0).num * (o.den : Int) - o.num * ((l.getD i 0).den : Int)).sign) > (0 : Int)))) ?_
     refine GD.ev (.bool (decide ((((l.getD i 0).num * (o.den : Int) - o.num * ((l.getD i 0).den : Int)).sign) > (0 : Int)))) ?_
     refine GD.k k3 ?_
     by_cases hc31 : ((l.getD i 0).num * (o.den : Int) - o.num * ((l.getD i 0).den : Int)).sign = 1
     · have hk31 : (decide ((((l.getD i 0).num * (o.den : Int) - o.num * ((l.getD i 0).den : Int)).sign) > (0 : Int))) = true := (sgn_gt1 _).trans (decide_eq_true hc31)
       refine CG.yes ?_ hk31 rfl
       refine CG.lin 5 ?_
       refine GL.v (.slice A1 n1 c1) ?_
       refine GL.v (.int .i64 (i : Int)) ?_
       refine GL.r (elemPtr A1 (i * 4)) (fun _ hM => op_index_k rowk98 (by decide) (kd := .i64) (i := (i : Int)) i (by kernel_rfl) (by kernel_rfl) (by omega) (by omega) (hM.f 2 rfl) _) ?_
       refine GL.exNR (x := l.getD i 0) (fun _ hM => op_load_k rowk98 (by decide) (by kernel_rfl) (hM.f 2 rfl) (by omega) (getD_at _ (by have := LKd.len (hM.f 2 rfl); omega))) fun s32 A32 n32 c32 s32_ A32_ n32_ c32_ => ?_
       refine GL.sA (cs' := #[.int .i64 s32, .slice A32 n32 c32, .int .i64 s32_, .slice A32_ n32_ c32_]) (fun _ _ => Mem.st0) (fun _ hM => hM.b 0 rfl) siz54 ?_
       refine GL.q ?_
       refine QG.block ?_
       refine QG.k k2 ?_
       refine CG.lin 3 ?_
       refine GL.v (.int .i64 (i : Int)) ?_
       refine GL.v (.int .i64 ((i + 1 : Nat) : Int)) ?_ (hr := fun u => op_to (v := .int .i64 (IntKind.wrap .i64 ((i : Int) + (1 : Int)))) (by kernel_rfl) (wrap_i64 (by omega) (by omega) (by omega)))
       refine GL.v (.int .i64 ((i + 1 : Nat) : Int)) ?_
       refine GL.q ?_
       refine QG.again fun _ hM => ?_
       exact ⟨l.length - (i + 1), (by omega), s32, A32, n32, c32, s32_, A32_, n32_, c32_, (l.getD i 0), (i + 1), (fun t => (#[.slice A1 n1 c1, undef, .pointer (some ⟨g21, 0, none⟩), .pointer (some ⟨g22, 0, none⟩), .int .i64 ((i + 1 : Nat) : Int), .int .i64 (i : Int), .slice A1 n1 c1, .int .i64 (n1 : Int), .bool (decide ((i : Int) < (n1 : Int))), .int .i64 (i : Int), .int .i64 ((i + 1 : Nat) : Int), .int .i64 (i : Int), .bool false, .bool false, .slice A1 n1 c1, .int .i64 (i : Int), elemPtr A1 (i * 4), .agg #[.int .i64 s29, .slice A29 n29 c29, .int .i64 s29_, .slice A29_ n29_ c29_], .agg #[.int .i64 so, .slice Ao no co, .int .i64 so_, .slice Ao_ no_ co_], .int .i64 (((l.getD i 0).num * (o.den : Int) - o.num * ((l.getD i 0).den : Int)).sign), .bool (decide ((((l.getD i 0).num * (o.den : Int) - o.num * ((l.getD i 0).den : Int)).sign) > (0 : Int))), .bool (decide ((((l.getD i 0).num * (o.den : Int) - o.num * ((l.getD i 0).den : Int)).sign) > (0 : Int))), .slice A1 n1 c1, .int .i64 (i : Int), elemPtr A1 (i * 4), .agg #[.int .i64 s32, .slice A32 n32 c32, .int .i64 s32_, .slice A32_ n32_ c32_], undef] : Array Value).getD t undef), (by kernel_rfl), rfl, ((hM.clr).add (hM.f 3 rfl)).add (hM.f 0 rfl), (by omega), (fold_pick_yes (by omega) ho (.inr hc31))⟩
     · have hk31 : (decide ((((l.getD i 0).num * (o.den : Int) - o.num * ((l.getD i 0).den : Int)).sign) > (0 : Int))) = false := (sgn_gt1 _).trans (decide_eq_false hc31)
       refine CG.no ?_ hk31 rfl
       refine CG.skip ?_
       refine QG.block ?_
       refine QG.k k2 ?_
       refine CG.lin 3 ?_
       refine GL.v (.int .i64 (i : Int)) ?_
       refine GL.v (.int .i64 ((i + 1 : Nat) : Int)) ?_ (hr := fun u => op_to (v := .int .i64 (IntKind.wrap .i64 ((i : Int) + (1 : Int)))) (by kernel_rfl) (wrap_i64 (by omega) (by omega) (by omega)))
       refine GL.v (.int .i64 ((i + 1 : Nat) : Int)) ?_
       refine GL.q ?_
       refine QG.again fun _ hM => ?_
       exact ⟨l.length - (i + 1), (by omega), so, Ao, no, co, so_, Ao_, no_, co_, o, (i + 1), (fun t => (#[.slice A1 n1 c1, undef, .pointer (some ⟨g21, 0, none⟩), .pointer (some ⟨g22, 0, none⟩), .int .i64 ((i + 1 : Nat) : Int), .int .i64 (i : Int), .slice A1 n1 c1, .int .i64 (n1 : Int), .bool (decide ((i : Int) < (n1 : Int))), .int .i64 (i : Int), .int .i64 ((i + 1 : Nat) : Int), .int .i64 (i : Int), .bool false, .bool false, .slice A1 n1 c1, .int .i64 (i : Int), elemPtr A1 (i * 4), .agg #[.int .i64 s29, .slice A29 n29 c29, .int .i64 s29_, .slice A29_ n29_ c29_], .agg #[.int .i64 so, .slice Ao no co, .int .i64 so_, .slice Ao_ no_ co_], .int .i64 (((l.getD i 0).num * (o.den : Int) - o.num * ((l.getD i 0).den : Int)).sign), .bool (decide ((((l.getD i 0).num * (o.den : Int) - o.num * ((l.getD i 0).den : Int)).sign) > (0 : Int))), .bool (decide ((((l.getD i 0).num * (o.den : Int) - o.num * ((l.getD i 0).den : Int)).sign) > (0 : Int))), (j23 22), (j23 23), (j23 24), (j23 25), undef] : Array Value).getD t undef), (by kernel_rfl), rfl, ((hM.clr).add (hM.f 2 rfl)).add (hM.f 1 rfl), (by omega), (fold_pick_no (by omega) ho (by omega) hc31)⟩
 · have hk24 : (decide ((i : Int) < (n1 : Int))) = false := decide_eq_false hc24
   refine CG.no ?_ hk24 rfl
   refine CG.exit (QG.then_exit (QG.then_exit (QG.here ?_)))
   refine QG.k k1 ?_
   refine CG.seq fun K_ k1 => ?_
   refine CG.lin 2 ?_
   refine GL.r (.agg #[.int .i64 so, .slice Ao no co, .int .i64 so_, .slice Ao_ no_ co_]) (fun _ hM => op_load_agg (off := 0) (by kernel_rfl) agg54 siz54 (hM.b 0 rfl) rfl rfl) ?_
   refine GL.sA (cs' := #[.int .i64 so, .slice Ao no co, .int .i64 so_, .slice Ao_ no_ co_]) (fun _ _ => Mem.st1) (fun _ hM => hM.b 1 rfl) siz54 ?_
   refine GL.k k1 ?_
   refine CG.ret (QG.ret (fun _ hM => results_one rfl (res_cell rfl (loadVar_agg agg54 siz54 (hM.b 1 rfl) rfl rfl))) ?_)
   intro _ hM
   exact ⟨_, _, _, _, _, _, _, _, rfl, ((show o = foldR (pickR 1) l by rw [ho, show i = l.length by omega, List.take_length]) ▸ (hM.out (hM.f 0 rfl))), hM.below⟩

end Go.Proofs.YtklnjhlidfclmaaGreatDoor
