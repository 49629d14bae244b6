/- Contracts of the program's functions. -/
import Derived.Test.YtklnjhlidfclmaaGreatDoorC2
set_option linter.unusedVariables false
set_option linter.unusedSimpArgs false
namespace Go.Proofs.YtklnjhlidfclmaaGreatDoor
open Go.RowKit Cps
attribute [local go_sem] Oper.semAt_some

set_option maxRecDepth 100000 in
set_option maxHeartbeats 400000 in
theorem ntimes_ok {w : World} {X : Nat → Prop} {s1 : Int} {A1 : Option Addr} {n1 : Nat} {c1 : Nat} {a : Int} (hX : ∀ k, X k → k < w.heap.size) (k : Int) (h1 : NZk.R X w [.int .i64 s1, .slice A1 n1 c1] a) (p1 : 0 ≤ k ∧ k ≤ 10000) (p2 : szg a ≤ 4294967296) :
    Calls Tryz.prog 109 #[.agg #[.int .i64 s1, .slice A1 n1 c1], .int .i64 k] w (fun e w' => ∃ sr Ar nr cr, e = .returned (.agg #[.int .i64 sr, .slice Ar nr cr]) ∧ NZk.R X w' [.int .i64 sr, .slice Ar nr cr] (a * k) ∧ Below w.heap.size w w') := by
 have hM := (Mem.start hX).add0 h1
 have hg1 : (gp a.natAbs).length = n1 := NZk.szg h1
 have hz1 := NZk.szg h1
 have hs1 := NZk.sgn h1
 have hc := sign_cases a
 have hx0 : a = 0 → a.natAbs * k.toNat = 0 := fun h => by rw [h]; simp
 refine calls_of hM Tryz.func109 Tryz.ntmps109 ?_
 refine CG.seq fun K_ k1 => ?_
 refine CG.lin 2 ?_
 refine GL.bA #[.int .i64 s1, .slice A1 n1 c1] fun g21 => ?_
 refine GL.aA zer31 fun g22 => ?_
 refine GL.k k1 ?_
 refine CG.seq fun K_ k1 => ?_
 refine CG.lin 5 ?_
 refine GL.v (.pointer (some ⟨g21, 1, none⟩)) ?_
 refine GL.r (.slice A1 n1 c1) (fun _ hM => op_load_one (off := 1) (by kernel_rfl) agg29 (hM.b 1 rfl) rfl) ?_
 refine GL.v (.int .i64 (n1 : Int)) ?_
 refine GL.row (fun _ => op_make rowt29 (kl := .i64) (kc := .i64) (l := (n1 : Int)) (c := (n1 : Int)) n1 n1 (by kernel_rfl) (by kernel_rfl) (by omega) (by omega) (by omega) (by omega) (by omega)) (fun _ _ _ hm => own_made_i64 hm (by omega) (by omega)) fun g23 => ?_
 refine GL.v (.slice (some ⟨g23, 0, none⟩) n1 n1) ?_
 refine GL.k k1 ?_
 refine CG.seq fun K_ k1 => ?_
 refine CG.seq fun K_ k2 => ?_
 refine CG.lin 1 ?_
 refine GL.v (.int .i64 0) ?_
 refine GL.k k2 ?_
 refine CG.block ?_
 refine CG.loop (fun m_ a_ u_ => ∃ (i : Nat) (M : List Int) (j24 : Nat → Value), a_ = ⟨#[.agg #[.int .i64 s1, .slice A1 n1 c1], .int .i64 k, .pointer (some ⟨g21, 0, none⟩), undef, .pointer (some ⟨g22, 0, none⟩), .slice (some ⟨g23, 0, none⟩) n1 n1, .int .i64 (i : Int), .pointer (some ⟨g21, 1, none⟩), .slice A1 n1 c1, .int .i64 (n1 : Int), .slice (some ⟨g23, 0, none⟩) n1 n1, (j24 11), (j24 12), (j24 13), (j24 14), (j24 15), (j24 16), (j24 17), (j24 18), (j24 19), (j24 20), (j24 21), (j24 22), (j24 23), (j24 24), (j24 25), (j24 26), undef, undef, undef, undef], []⟩ ∧ m_ = n1 - i ∧ Mem w [] X u_ [.own g23 3 n1 n1 (i64s M), .box g22 #[.int .i64 0, .slice none 0 0] 31, .box g21 #[.int .i64 s1, .slice A1 n1 c1] 31] [⟨NZk, [.int .i64 s1, .slice A1 n1 c1], a⟩] ∧ (i ≤ n1) ∧ (val 10000 M = val 10000 ((gp a.natAbs).take i) * k) ∧ (∀ j, (0 : Int) ≤ M.getD j 0 ∧ M.getD j 0 ≤ 99990000) ∧ (∀ j, i ≤ j → M.getD j 0 = 0)) (fun _ hM => ⟨_, 0, (List.replicate n1 0), (fun t => (#[.agg #[.int .i64 s1, .slice A1 n1 c1], .int .i64 k, .pointer (some ⟨g21, 0, none⟩), undef, .pointer (some ⟨g22, 0, none⟩), .slice (some ⟨g23, 0, none⟩) n1 n1, .int .i64 0, .pointer (some ⟨g21, 1, none⟩), .slice A1 n1 c1, .int .i64 (n1 : Int), .slice (some ⟨g23, 0, none⟩) n1 n1, undef, undef, undef, undef, undef, undef, undef, undef, undef, undef, undef, undef, undef, undef, undef, undef, undef, undef, undef, undef] : Array Value).getD t undef), (by kernel_rfl), rfl, (hM.clr).add (hM.f 0 rfl), (by omega), (by rw [val_replicate_zero]; simp), (fun j => by rw [zeros_get]; omega), (fun j _ => zeros_get _ j)⟩) ?_
 rintro m_ a_ u_ ⟨i, M, j24, rfl, hm24, hM, hi, hV, hB, hZ⟩
 have hMl := (hM.o 0 rfl).ilen
 refine CG.go hM ?_
 refine CG.seq fun K_ k2 => ?_
 refine CG.seq fun K_ k3 => ?_
 refine CG.lin 4 ?_
 refine GL.v (.int .i64 (i : Int)) ?_
 refine GL.v (.slice (some ⟨g23, 0, none⟩) n1 n1) ?_
 refine GL.v (.int .i64 (n1 : Int)) ?_
 refine GL.v (.bool (decide ((i : Int) < (n1 : Int)))) ?_
 refine GL.k k3 ?_
 by_cases hc25 : (i : Int) < (n1 : Int)
 · have hk25 : (decide ((i : Int) < (n1 : Int))) = true := decide_eq_true hc25
   refine CG.yes ?_ hk25 rfl
   refine CG.skip ?_
   refine QG.k k2 ?_
   refine CG.seq fun K_ k2 => ?_
   refine CG.block ?_
   refine CG.lin 11 ?_
   refine GL.v (.slice (some ⟨g23, 0, none⟩) n1 n1) ?_
   refine GL.v (.int .i64 (i : Int)) ?_
   refine GL.v (.pointer (some ⟨g21, 1, none⟩)) ?_
   refine GL.r (.slice A1 n1 c1) (fun _ hM => op_load_one (off := 1) (by kernel_rfl) agg29 (hM.b 2 rfl) rfl) ?_
   refine GL.v (.int .i64 (i : Int)) ?_
   refine GL.r (elemPtr A1 i) (fun _ hM => op_index rowt29 (c := c1) (k := .i64) (i := (i : Int)) i (by kernel_rfl) (by kernel_rfl) (by omega) (by omega) (NZk.row (hM.f 0 rfl)) _) ?_
   refine GL.r (.int .i64 ((gp (a).natAbs).getD i 0)) (fun _ hM => op_load_i64 (n := n1) (by kernel_rfl) agg3 (NZk.row (hM.f 0 rfl)) (by omega)) ?_
   refine GL.v (.int .i64 k) ?_
   have hpr := times_prod (gp_get a.natAbs i) p1
   refine GL.v (.int .i64 (((gp (a).natAbs).getD i 0) * k)) ?_ (hr := fun u => op_to (v := .int .i64 (IntKind.wrap .i64 (((gp (a).natAbs).getD i 0) * k))) (by kernel_rfl) (wrap_i64 rfl (by omega) (by omega)))
   refine GL.r (elemPtr (some ⟨g23, 0, none⟩) i) (fun _ hM => op_index rowt29 (c := n1) (k := .i64) (i := (i : Int)) i (by kernel_rfl) (by kernel_rfl) (by omega) (by omega) (hM.o 0 rfl).row _) ?_
   refine GL.el (fun _ _ _ => Mem.el0) (fun _ hM => op_set_i64 i (((gp (a).natAbs).getD i 0) * k) siz3 (hM.o 0 rfl) (by kernel_rfl) (by kernel_rfl) (by omega)) ?_
   refine GL.q ?_
   refine QG.block ?_
   refine QG.k k2 ?_
   refine CG.lin 3 ?_
   refine GL.v (.int .i64 (i : Int)) ?_
   refine GL.v (.int .i64 ((i + 1 : Nat) : Int)) ?_ (hr := fun u => op_to (v := .int .i64 (IntKind.wrap .i64 ((i : Int) + (1 : Int)))) (by kernel_rfl) (wrap_i64 (by omega) (by omega) (by omega)))
   refine GL.v (.int .i64 ((i + 1 : Nat) : Int)) ?_
   refine GL.q ?_
   refine QG.again fun _ hM => ?_
   exact ⟨n1 - (i + 1), (by omega), (i + 1), (M.set i (((gp (a).natAbs).getD i 0) * k)), (fun t => (#[.agg #[.int .i64 s1, .slice A1 n1 c1], .int .i64 k, .pointer (some ⟨g21, 0, none⟩), undef, .pointer (some ⟨g22, 0, none⟩), .slice (some ⟨g23, 0, none⟩) n1 n1, .int .i64 ((i + 1 : Nat) : Int), .pointer (some ⟨g21, 1, none⟩), .slice A1 n1 c1, .int .i64 (n1 : Int), .slice (some ⟨g23, 0, none⟩) n1 n1, .int .i64 (i : Int), .slice (some ⟨g23, 0, none⟩) n1 n1, .int .i64 (n1 : Int), .bool (decide ((i : Int) < (n1 : Int))), .int .i64 (i : Int), .int .i64 ((i + 1 : Nat) : Int), .slice (some ⟨g23, 0, none⟩) n1 n1, .int .i64 (i : Int), .pointer (some ⟨g21, 1, none⟩), .slice A1 n1 c1, .int .i64 (i : Int), elemPtr A1 i, .int .i64 ((gp (a).natAbs).getD i 0), .int .i64 k, .int .i64 (((gp (a).natAbs).getD i 0) * k), elemPtr (some ⟨g23, 0, none⟩) i, undef, undef, undef, undef] : Array Value).getD t undef), (by kernel_rfl), rfl, (hM.clr).add (hM.f 0 rfl), (by omega), (times_stepR (by omega) (by omega) (hZ i (by omega)) hV), (set_bound (by omega) hB (by omega)), (times_zero (by omega) hZ)⟩
 · have hk25 : (decide ((i : Int) < (n1 : Int))) = false := decide_eq_false hc25
   refine CG.no ?_ hk25 rfl
   refine CG.exit (QG.then_exit (QG.then_exit (QG.here ?_)))
   refine QG.k k1 ?_
   refine CG.seq fun K_ k1 => ?_
   refine CG.lin 5 ?_
   refine GL.v (.pointer (some ⟨g21, 0, none⟩)) ?_
   refine GL.r (.int .i64 s1) (fun _ hM => op_load_one (off := 0) (by kernel_rfl) agg3 (hM.b 2 rfl) rfl) ?_
   refine GL.v (.slice (some ⟨g23, 0, none⟩) n1 n1) ?_
   refine GL.mem (fun _ hM => hM.pu0 fun hO _ hX => SIk.own hO hX) ?_
   refine GL.call (fun _ hM => nmade_ok hM.avlt s1 (x := a.natAbs * k.toNat) (hM.f 0 rfl) (by rw [hV, take_valR _ _ (by omega), Int.natCast_mul]; congr 1; omega) (mem_of_get hB (by decide) (by decide)) (by first | assumption | omega) (by first | assumption | omega)) ?_
   rintro _ _ _ hM ⟨s26, A26, n26, c26, rfl, h26, hb⟩
   refine ⟨_, _, _, rfl, (hM.call hb).add h26, ?_⟩
   refine GL.sA (cs' := #[.int .i64 s26, .slice A26 n26 c26]) (fun _ _ => Mem.st0) (fun _ hM => hM.b 0 rfl) siz31 ?_
   refine GL.k k1 ?_
   refine CG.ret (QG.ret (fun _ hM => results_one rfl (res_cell rfl (loadVar_agg agg31 siz31 (hM.b 0 rfl) rfl rfl))) ?_)
   intro _ hM
   exact ⟨_, _, _, _, rfl, ((sign_nat a hs1 p1.1) ▸ (hM.out (hM.f 0 rfl))), hM.below⟩

set_option maxRecDepth 100000 in
set_option maxHeartbeats 400000 in
theorem value_ok {w : World} {X : Nat → Prop} {s1 : Int} {A1 : Option Addr} {n1 : Nat} {c1 : Nat} {a : Int} (hX : ∀ k, X k → k < w.heap.size) (h1 : NZk.R X w [.int .i64 s1, .slice A1 n1 c1] a) (p1 : -9223372036854775808 ≤ a ∧ a ≤ 9223372036854775807) :
    Calls Tryz.prog 103 #[.agg #[.int .i64 s1, .slice A1 n1 c1]] w (fun e w' => e = .returned (.int .i64 a) ∧ Below w.heap.size w w') := by
 have hM := (Mem.start hX).add0 h1
 have hg1 : (gp a.natAbs).length = n1 := NZk.szg h1
 have hs1 := NZk.sgn h1
 have hl1 := NZk.le h1
 refine calls_of hM Tryz.func103 Tryz.ntmps103 ?_
 refine CG.seq fun K_ k1 => ?_
 refine CG.lin 2 ?_
 refine GL.bA #[.int .i64 s1, .slice A1 n1 c1] fun g21 => ?_
 refine GL.v (.int .i64 0) ?_
 refine GL.k k1 ?_
 refine CG.seq fun K_ k1 => ?_
 refine CG.lin 1 ?_
 refine GL.v (.int .i64 0) ?_
 refine GL.k k1 ?_
 refine CG.seq fun K_ k1 => ?_
 refine CG.seq fun K_ k2 => ?_
 refine CG.lin 5 ?_
 refine GL.v (.pointer (some ⟨g21, 1, none⟩)) ?_
 refine GL.r (.slice A1 n1 c1) (fun _ hM => op_load_one (off := 1) (by kernel_rfl) agg29 (hM.b 0 rfl) rfl) ?_
 refine GL.v (.int .i64 (n1 : Int)) ?_
 refine GL.v (.int .i64 ((n1 : Int) - (1 : Int))) ?_ (hr := fun u => op_to (v := .int .i64 (IntKind.wrap .i64 ((n1 : Int) - (1 : Int)))) (by kernel_rfl) (wrap_i64 rfl (by omega) (by omega)))
 refine GL.v (.int .i64 ((n1 : Int) - (1 : Int))) ?_
 refine GL.k k2 ?_
 refine CG.block ?_
 refine CG.loop (fun m_ a_ u_ => ∃ (i : Int) (n : Int) (j22 : Nat → Value), a_ = ⟨#[.agg #[.int .i64 s1, .slice A1 n1 c1], .pointer (some ⟨g21, 0, none⟩), .int .i64 0, .int .i64 n, .int .i64 i, .pointer (some ⟨g21, 1, none⟩), .slice A1 n1 c1, .int .i64 (n1 : Int), .int .i64 ((n1 : Int) - (1 : Int)), (j22 9), (j22 10), (j22 11), (j22 12), (j22 13), (j22 14), (j22 15), (j22 16), (j22 17), (j22 18), (j22 19), (j22 20), (j22 21), (j22 22), (j22 23), undef], []⟩ ∧ m_ = (i + 1).toNat ∧ Mem w [] X u_ [.box g21 #[.int .i64 s1, .slice A1 n1 c1] 31] [⟨NZk, [.int .i64 s1, .slice A1 n1 c1], a⟩] ∧ (-1 ≤ i ∧ i < (n1 : Int)) ∧ (n = s1 * ((a.natAbs / 10000 ^ (i + 1).toNat : Nat) : Int))) (fun _ hM => ⟨_, ((n1 : Int) - (1 : Int)), 0, (fun t => (#[.agg #[.int .i64 s1, .slice A1 n1 c1], .pointer (some ⟨g21, 0, none⟩), .int .i64 0, .int .i64 0, .int .i64 ((n1 : Int) - (1 : Int)), .pointer (some ⟨g21, 1, none⟩), .slice A1 n1 c1, .int .i64 (n1 : Int), .int .i64 ((n1 : Int) - (1 : Int)), undef, undef, undef, undef, undef, undef, undef, undef, undef, undef, undef, undef, undef, undef, undef, undef] : Array Value).getD t undef), (by kernel_rfl), rfl, (hM.clr).add (hM.f 0 rfl), (by omega), (value_start hg1 s1)⟩) ?_
 rintro m_ a_ u_ ⟨i, n, j22, rfl, hm22, hM, hI, hn⟩
 refine CG.go hM ?_
 refine CG.seq fun K_ k2 => ?_
 refine CG.seq fun K_ k3 => ?_
 refine CG.lin 2 ?_
 refine GL.v (.int .i64 i) ?_
 refine GL.v (.bool (decide (i ≥ (0 : Int)))) ?_
 refine GL.k k3 ?_
 by_cases hc23 : i ≥ (0 : Int)
 · have hk23 : (decide (i ≥ (0 : Int))) = true := decide_eq_true hc23
   refine CG.yes ?_ hk23 rfl
   refine CG.skip ?_
   refine QG.k k2 ?_
   refine CG.seq fun K_ k2 => ?_
   refine CG.block ?_
   refine CG.draw [] [0, 1, 2, 3, 4, 5, 6, 7, 8, 9, 10] (.step 0 (.step 1 (.step 2 (.step 3 (.step 4 (.step 5 (.step 6 (.step 7 (.step 8 (.step 9 (.step 10 (.step 11 .done)))))))))))) (fun V hV24 => ?_)
   refine GD.ev (.int .i64 n) ?_
   have hst := value_step hs1 p1 (by omega) hn
   refine GD.ev (.int .i64 (n * (10000 : Int))) ?_ (hr := fun u => op_to (v := .int .i64 (IntKind.wrap .i64 (n * (10000 : Int)))) (by kernel_rfl) (wrap_i64 rfl (by omega) (by omega)))
   refine GD.ev (.pointer (some ⟨g21, 0, none⟩)) ?_
   refine GD.er (.int .i64 s1) (fun _ hS => op_load_one (off := 0) (by kernel_rfl) agg3 (hV24.bS 0 rfl hS) rfl) ?_
   refine GD.ev (.pointer (some ⟨g21, 1, none⟩)) ?_
   refine GD.er (.slice A1 n1 c1) (fun _ hS => op_load_one (off := 1) (by kernel_rfl) agg29 (hV24.bS 0 rfl hS) rfl) ?_
   refine GD.ev (.int .i64 i) ?_
   refine GD.er (elemPtr A1 ((i).toNat)) (fun _ hS => op_index rowt29 (c := c1) (k := .i64) (i := i) ((i).toNat) (by kernel_rfl) (by kernel_rfl) (by omega) (by omega) (Row.keep (NZk.row (hV24.f 0 rfl)) hS.keep) _) ?_
   refine GD.er (.int .i64 ((gp (a).natAbs).getD ((i).toNat) 0)) (fun _ hS => op_load_i64 (n := n1) (by kernel_rfl) agg3 (Row.keep (NZk.row (hV24.f 0 rfl)) hS.keep) (by omega)) ?_
   refine GD.ev (.int .i64 (s1 * ((gp (a).natAbs).getD ((i).toNat) 0))) ?_ (hr := fun u => op_to (v := .int .i64 (IntKind.wrap .i64 (s1 * ((gp (a).natAbs).getD ((i).toNat) 0)))) (by kernel_rfl) (wrap_i64 rfl (by omega) (by omega)))
   refine GD.ev (.int .i64 ((n * (10000 : Int)) + (s1 * ((gp (a).natAbs).getD ((i).toNat) 0)))) ?_ (hr := fun u => op_to (v := .int .i64 (IntKind.wrap .i64 ((n * (10000 : Int)) + (s1 * ((gp (a).natAbs).getD ((i).toNat) 0))))) (by kernel_rfl) (wrap_i64 rfl (by omega) (by omega)))
   refine GD.v (.int .i64 ((n * (10000 : Int)) + (s1 * ((gp (a).natAbs).getD ((i).toNat) 0)))) ?_
   refine GD.q ?_
   refine QG.block ?_
   refine QG.k k2 ?_
   refine CG.lin 3 ?_
   refine GL.v (.int .i64 i) ?_
   refine GL.v (.int .i64 (i - (1 : Int))) ?_ (hr := fun u => op_to (v := .int .i64 (IntKind.wrap .i64 (i - (1 : Int)))) (by kernel_rfl) (wrap_i64 rfl (by omega) (by omega)))
   refine GL.v (.int .i64 (i - (1 : Int))) ?_
   refine GL.q ?_
   refine QG.again fun _ hM => ?_
   exact ⟨((i - (1 : Int)) + 1).toNat, (by omega), (i - (1 : Int)), ((n * (10000 : Int)) + (s1 * ((gp (a).natAbs).getD ((i).toNat) 0))), (fun t => (#[.agg #[.int .i64 s1, .slice A1 n1 c1], .pointer (some ⟨g21, 0, none⟩), .int .i64 0, .int .i64 ((n * (10000 : Int)) + (s1 * ((gp (a).natAbs).getD ((i).toNat) 0))), .int .i64 (i - (1 : Int)), .pointer (some ⟨g21, 1, none⟩), .slice A1 n1 c1, .int .i64 (n1 : Int), .int .i64 ((n1 : Int) - (1 : Int)), .int .i64 i, .bool (decide (i ≥ (0 : Int))), .int .i64 i, .int .i64 (i - (1 : Int)), .int .i64 n, .int .i64 (n * (10000 : Int)), .pointer (some ⟨g21, 0, none⟩), .int .i64 s1, .pointer (some ⟨g21, 1, none⟩), .slice A1 n1 c1, .int .i64 i, elemPtr A1 ((i).toNat), .int .i64 ((gp (a).natAbs).getD ((i).toNat) 0), .int .i64 (s1 * ((gp (a).natAbs).getD ((i).toNat) 0)), .int .i64 ((n * (10000 : Int)) + (s1 * ((gp (a).natAbs).getD ((i).toNat) 0))), undef] : Array Value).getD t undef), (by kernel_rfl), rfl, (hM.clr).add (hM.f 0 rfl), (by omega), hst.2.2.1⟩
 · have hk23 : (decide (i ≥ (0 : Int))) = false := decide_eq_false hc23
   refine CG.no ?_ hk23 rfl
   refine CG.exit (QG.then_exit (QG.then_exit (QG.here ?_)))
   refine QG.k k1 ?_
   refine CG.seq fun K_ k1 => ?_
   refine CG.lin 2 ?_
   refine GL.v (.int .i64 n) ?_
   refine GL.v (.int .i64 n) ?_
   refine GL.k k1 ?_
   refine CG.ret (QG.ret (fun _ hM => results_one rfl (res_tmp rfl)) ?_)
   intro _ hM
   exact ⟨ret_int (value_end hs1 (by omega) hn), hM.below⟩

set_option maxRecDepth 100000 in
set_option maxHeartbeats 400000 in
theorem NQuotient_ok {w : World} {X : Nat → Prop} {s1 : Int} {A1 : Option Addr} {n1 : Nat} {c1 : Nat} {a : Int} {s2 : Int} {A2 : Option Addr} {n2 : Nat} {c2 : Nat} {d : Int} (hX : ∀ k, X k → k < w.heap.size) (h1 : NZk.R X w [.int .i64 s1, .slice A1 n1 c1] a) (h2 : NZk.R X w [.int .i64 s2, .slice A2 n2 c2] d) (p1 : d ≠ 0) (p2 : szg a + szg d ≤ 2147480000) :
    Calls Tryz.prog 20 #[.agg #[.int .i64 s1, .slice A1 n1 c1], .agg #[.int .i64 s2, .slice A2 n2 c2]] w (fun e w' => ∃ sr1 Ar1 nr1 cr1 sr2 Ar2 nr2 cr2, e = .returned (.tuple #[.agg #[.int .i64 sr1, .slice Ar1 nr1 cr1], .agg #[.int .i64 sr2, .slice Ar2 nr2 cr2]]) ∧ NZk.R X w' [.int .i64 sr1, .slice Ar1 nr1 cr1] (a / d) ∧ NZk.R X w' [.int .i64 sr2, .slice Ar2 nr2 cr2] (a % d) ∧ Below w.heap.size w w') := by
 have hM := ((Mem.start hX).add0 h1).add0 h2
 have hg1 : (gp a.natAbs).length = n1 := NZk.szg h1
 have hz1 := NZk.szg h1
 have hz2 := NZk.szg h2
 have hs1 := NZk.sgn h1
 have hs2 := NZk.sgn h2
 have hc1 := sign_cases a
 have hl1 := NZk.le h1
 have hd0 : 0 < d.natAbs := by omega
 refine calls_of hM Tryz.func20 Tryz.ntmps20 ?_
 refine CG.seq fun K_ k1 => ?_
 refine CG.lin 4 ?_
 refine GL.bA #[.int .i64 s1, .slice A1 n1 c1] fun g21 => ?_
 refine GL.bA #[.int .i64 s2, .slice A2 n2 c2] fun g22 => ?_
 refine GL.aA zer31 fun g23 => ?_
 refine GL.aA zer31 fun g24 => ?_
 refine GL.k k1 ?_
 refine CG.seq fun K_ k1 => ?_
 refine CG.lin 5 ?_
 refine GL.v (.pointer (some ⟨g21, 1, none⟩)) ?_
 refine GL.r (.slice A1 n1 c1) (fun _ hM => op_load_one (off := 1) (by kernel_rfl) agg29 (hM.b 3 rfl) rfl) ?_
 refine GL.v (.int .i64 (n1 : Int)) ?_
 refine GL.row (fun _ => op_make rowt29 (kl := .i64) (kc := .i64) (l := (n1 : Int)) (c := (n1 : Int)) n1 n1 (by kernel_rfl) (by kernel_rfl) (by omega) (by omega) (by omega) (by omega) (by omega)) (fun _ _ _ hm => own_made_i64 hm (by omega) (by omega)) fun g25 => ?_
 refine GL.v (.slice (some ⟨g25, 0, none⟩) n1 n1) ?_
 refine GL.k k1 ?_
 refine CG.seq fun K_ k1 => ?_
 refine CG.lin 7 ?_
 refine GL.v (.agg #[.int .i64 0, .slice none 0 0]) ?_
 refine GL.r (.agg #[.int .i64 s2, .slice A2 n2 c2]) (fun _ hM => op_load_agg (off := 0) (by kernel_rfl) agg31 siz31 (hM.b 3 rfl) rfl rfl) ?_
 refine GL.call (fun _ hM => NZAbs_ok hM.avlt (hM.f 0 rfl)) ?_
 rintro _ _ _ hM ⟨s26, A26, n26, c26, rfl, h26, hb⟩
 have hs26 := szg_abs d
 refine ⟨_, _, _, rfl, (hM.call hb).add h26, ?_⟩
 refine GL.aA zer31 fun g27 => ?_
 refine GL.aA zer31 fun g28 => ?_
 refine GL.sA (cs' := #[.int .i64 0, .slice none 0 0]) (fun _ _ => Mem.st1) (fun _ hM => hM.b 1 rfl) siz31 ?_
 refine GL.sA (cs' := #[.int .i64 s26, .slice A26 n26 c26]) (fun _ _ => Mem.st0) (fun _ hM => hM.b 0 rfl) siz31 ?_
 refine GL.k k1 ?_
 refine CG.seq fun K_ k1 => ?_
 refine CG.seq fun K_ k2 => ?_
 refine CG.lin 5 ?_
 refine GL.v (.pointer (some ⟨g21, 1, none⟩)) ?_
 refine GL.r (.slice A1 n1 c1) (fun _ hM => op_load_one (off := 1) (by kernel_rfl) agg29 (hM.b 6 rfl) rfl) ?_
 refine GL.v (.int .i64 (n1 : Int)) ?_
 refine GL.v (.int .i64 ((n1 : Int) - (1 : Int))) ?_ (hr := fun u => op_to (v := .int .i64 (IntKind.wrap .i64 ((n1 : Int) - (1 : Int)))) (by kernel_rfl) (wrap_i64 rfl (by omega) (by omega)))
 refine GL.v (.int .i64 ((n1 : Int) - (1 : Int))) ?_
 refine GL.k k2 ?_
 refine CG.block ?_
 refine CG.loop (fun m_ a_ u_ => ∃ (so : Int) (Ao : Option Addr) (no : Nat) (co : Nat) (z : Int) (i : Int) (Q : Nat) (M : List Int) (j29 : Nat → Value), a_ = ⟨#[.agg #[.int .i64 s1, .slice A1 n1 c1], .agg #[.int .i64 s2, .slice A2 n2 c2], .pointer (some ⟨g21, 0, none⟩), .pointer (some ⟨g22, 0, none⟩), .pointer (some ⟨g23, 0, none⟩), .pointer (some ⟨g24, 0, none⟩), .slice (some ⟨g25, 0, none⟩) n1 n1, .pointer (some ⟨g27, 0, none⟩), .pointer (some ⟨g28, 0, none⟩), .int .i64 i, (j29 10), (j29 11), (j29 12), undef, .pointer (some ⟨g21, 1, none⟩), .slice A1 n1 c1, .int .i64 (n1 : Int), .slice (some ⟨g25, 0, none⟩) n1 n1, .agg #[.int .i64 0, .slice none 0 0], .agg #[.int .i64 s2, .slice A2 n2 c2], .agg #[.int .i64 s26, .slice A26 n26 c26], .pointer (some ⟨g21, 1, none⟩), .slice A1 n1 c1, .int .i64 (n1 : Int), .int .i64 ((n1 : Int) - (1 : Int)), (j29 25), (j29 26), (j29 27), (j29 28), (j29 29), (j29 30), (j29 31), (j29 32), (j29 33), (j29 34), (j29 35), (j29 36), (j29 37), (j29 38), (j29 39), (j29 40), (j29 41), (j29 42), (j29 43), (j29 44), (j29 45), (j29 46), (j29 47), (j29 48), (j29 49), (j29 50), (j29 51), (j29 52), (j29 53), (j29 54), (j29 55), (j29 56), (j29 57), (j29 58), (j29 59), (j29 60), (j29 61), (j29 62), (j29 63), undef, undef, undef, undef, undef, undef, undef, undef, undef, undef, undef, undef, undef, undef, undef, undef, undef, undef, undef, undef, undef, undef, undef, undef, undef], []⟩ ∧ m_ = (i + 1).toNat ∧ Mem w [] X u_ [.box g28 #[.int .i64 s26, .slice A26 n26 c26] 31, .box g27 #[.int .i64 so, .slice Ao no co] 31, .own g25 3 n1 n1 (i64s M), .box g24 #[.int .i64 0, .slice none 0 0] 31, .box g23 #[.int .i64 0, .slice none 0 0] 31, .box g22 #[.int .i64 s2, .slice A2 n2 c2] 31, .box g21 #[.int .i64 s1, .slice A1 n1 c1] 31] [⟨NZk, [.int .i64 so, .slice Ao no co], z⟩, ⟨NZk, [.int .i64 s26, .slice A26 n26 c26], (d.natAbs : Int)⟩, ⟨NZk, [.int .i64 s2, .slice A2 n2 c2], d⟩, ⟨NZk, [.int .i64 s1, .slice A1 n1 c1], a⟩] ∧ (-1 ≤ i ∧ i < (n1 : Int)) ∧ (0 ≤ z ∧ z.natAbs < d.natAbs) ∧ (a.natAbs / 10000 ^ (i + 1).toNat = Q * d.natAbs + z.natAbs) ∧ (val 10000 M = 10000 ^ (i + 1).toNat * (Q : Int)) ∧ (∀ j : Nat, (j : Int) ≤ i → M.getD j 0 = 0) ∧ (∀ j, (0 : Int) ≤ M.getD j 0 ∧ M.getD j 0 ≤ 9999) ∧ (szg z ≤ szg d)) (fun _ hM => ⟨_, 0, none, 0, 0, 0, ((n1 : Int) - (1 : Int)), 0, (List.replicate n1 0), (fun t => (#[.agg #[.int .i64 s1, .slice A1 n1 c1], .agg #[.int .i64 s2, .slice A2 n2 c2], .pointer (some ⟨g21, 0, none⟩), .pointer (some ⟨g22, 0, none⟩), .pointer (some ⟨g23, 0, none⟩), .pointer (some ⟨g24, 0, none⟩), .slice (some ⟨g25, 0, none⟩) n1 n1, .pointer (some ⟨g27, 0, none⟩), .pointer (some ⟨g28, 0, none⟩), .int .i64 ((n1 : Int) - (1 : Int)), undef, undef, undef, undef, .pointer (some ⟨g21, 1, none⟩), .slice A1 n1 c1, .int .i64 (n1 : Int), .slice (some ⟨g25, 0, none⟩) n1 n1, .agg #[.int .i64 0, .slice none 0 0], .agg #[.int .i64 s2, .slice A2 n2 c2], .agg #[.int .i64 s26, .slice A26 n26 c26], .pointer (some ⟨g21, 1, none⟩), .slice A1 n1 c1, .int .i64 (n1 : Int), .int .i64 ((n1 : Int) - (1 : Int)), undef, undef, undef, undef, undef, undef, undef, undef, undef, undef, undef, undef, undef, undef, undef, undef, undef, undef, undef, undef, undef, undef, undef, undef, undef, undef, undef, undef, undef, undef, undef, undef, undef, undef, undef, undef, undef, undef, undef, undef, undef, undef, undef, undef, undef, undef, undef, undef, undef, undef, undef, undef, undef, undef, undef, undef, undef, undef, undef, undef, undef, undef, undef, undef] : Array Value).getD t undef), (by kernel_rfl), rfl, ((((hM.clr).add (hM.f 2 rfl)).add (hM.f 1 rfl)).add (hM.f 0 rfl)).add (NZk.nil _ _ _ _), (by omega), (by omega), (zq_start hg1 _), (by rw [val_replicate_zero]; simp), (fun j _ => zeros_get _ j), (fun j => by rw [zeros_get]; omega), (szg_mono (by omega))⟩) ?_
 rintro m_ a_ u_ ⟨so, Ao, no, co, z, i, Q, M, j29, rfl, hm29, hM, hI, hz, hA, hV, hMZ, hMB, hzs⟩
 have hMl := (hM.o 2 rfl).ilen
 have hzz := NZk.szg (hM.f 0 rfl)
 have hso := NZk.sgn (hM.f 0 rfl)
 refine CG.go hM ?_
 refine CG.seq fun K_ k2 => ?_
 refine CG.seq fun K_ k3 => ?_
 refine CG.lin 2 ?_
 refine GL.v (.int .i64 i) ?_
 refine GL.v (.bool (decide (i ≥ (0 : Int)))) ?_
 refine GL.k k3 ?_
 by_cases hc30 : i ≥ (0 : Int)
 · have hk30 : (decide (i ≥ (0 : Int))) = true := decide_eq_true hc30
   refine CG.yes ?_ hk30 rfl
   refine CG.skip ?_
   refine QG.k k2 ?_
   refine CG.seq fun K_ k2 => ?_
   refine CG.block ?_
   refine CG.seq fun K_ k3 => ?_
   refine CG.draw [] [0, 1, 2, 3, 4, 6, 7] (.step 0 (.step 1 (.step 2 (.step 3 (.step 4 (.step 6 (.step 7 (.step 5 (.step 8 (.step 9 (.step 10 .done))))))))))) (fun V hV31 => ?_)
   refine GD.ev (.pointer (some ⟨g21, 1, none⟩)) ?_
   refine GD.er (.slice A1 n1 c1) (fun _ hS => op_load_one (off := 1) (by kernel_rfl) agg29 (hV31.bS 6 rfl hS) rfl) ?_
   refine GD.ev (.int .i64 i) ?_
   refine GD.er (elemPtr A1 ((i).toNat)) (fun _ hS => op_index rowt29 (c := c1) (k := .i64) (i := i) ((i).toNat) (by kernel_rfl) (by kernel_rfl) (by omega) (by omega) (Row.keep (NZk.row (hV31.f 3 rfl)) hS.keep) _) ?_
   refine GD.er (.int .i64 ((gd a.natAbs i.toNat : Nat) : Int)) (fun _ hS => op_to (v := .int .i64 ((gp (a).natAbs).getD ((i).toNat) 0)) (op_load_i64 (n := n1) (by kernel_rfl) agg3 (Row.keep (NZk.row (hV31.f 3 rfl)) hS.keep) (by omega)) (congrArg (Value.int .i64) (gd_int _ _))) ?_
   refine GD.ev (.pointer (some ⟨g27, 1, none⟩)) ?_
   refine GD.er (.slice Ao no co) (fun _ hS => op_load_one (off := 1) (by kernel_rfl) agg29 (hV31.bS 1 rfl hS) rfl) ?_
   refine GD.row (fun _ => op_build1 rowt29 (v := .int .i64 ((gd a.natAbs i.toNat : Nat) : Int)) (by kernel_rfl) rfl) (fun _ _ _ hm => own_one_i64 hm) fun g32 hg32 => ?_
   refine GD.gn hg32 (fun _ _ _ _ => Mem.gr0) (fun _ hM => op_append_i64 (cx := co) rowt29 (hM.o 0 rfl) (NZk.row (hM.f 0 rfl)) (by kernel_rfl) (by kernel_rfl) (by omega) (by omega)) fun g33 c33 hg33 => ?_
   refine GD.mem (fun _ hM => hM.pu0 fun hO _ hX => SIk.own hO hX) ?_
   refine GD.call (fun _ hM => nmade_ok hM.avlt (1) (x := (z.natAbs * 10000 + gd a.natAbs i.toNat : Nat)) (hM.f 0 rfl) (zq_val _ _) (zq_bnd _ _ (Nat.mod_lt _ (by decide))) (.inl rfl) (by first | assumption | omega)) ?_
   rintro _ _ _ hM ⟨s34, A34, n34, c34, rfl, h34, hb⟩
   refine ⟨_, _, _, rfl, hb, (hM.call hb).add h34, ?_⟩
   refine GD.st (fun _ _ => Mem.st1) (fun _ hM => store_all (cs' := #[.int .i64 s34, .slice A34 n34 c34]) siz31 (hM.b 1 rfl) (by kernel_rfl) (by kernel_rfl) rfl rfl rfl) ?_
   refine GD.k k3 ?_
   refine CG.seq fun K_ k3 => ?_
   refine CG.lin 2 ?_
   refine GL.v (.int .i64 0) ?_
   refine GL.v (.int .i64 10000) ?_
   refine GL.k k3 ?_
   refine CG.seq fun K_ k3 => ?_
   refine CG.block ?_
   refine CG.loop (fun m_ a_ u_ => ∃ (l : Nat) (h : Nat) (j35 : Nat → Value), a_ = ⟨#[.agg #[.int .i64 s1, .slice A1 n1 c1], .agg #[.int .i64 s2, .slice A2 n2 c2], .pointer (some ⟨g21, 0, none⟩), .pointer (some ⟨g22, 0, none⟩), .pointer (some ⟨g23, 0, none⟩), .pointer (some ⟨g24, 0, none⟩), .slice (some ⟨g25, 0, none⟩) n1 n1, .pointer (some ⟨g27, 0, none⟩), .pointer (some ⟨g28, 0, none⟩), .int .i64 i, .int .i64 (l : Int), .int .i64 (h : Int), (j35 12), undef, .pointer (some ⟨g21, 1, none⟩), .slice A1 n1 c1, .int .i64 (n1 : Int), .slice (some ⟨g25, 0, none⟩) n1 n1, .agg #[.int .i64 0, .slice none 0 0], .agg #[.int .i64 s2, .slice A2 n2 c2], .agg #[.int .i64 s26, .slice A26 n26 c26], .pointer (some ⟨g21, 1, none⟩), .slice A1 n1 c1, .int .i64 (n1 : Int), .int .i64 ((n1 : Int) - (1 : Int)), .int .i64 i, .bool (decide (i ≥ (0 : Int))), (j29 27), (j29 28), .pointer (some ⟨g21, 1, none⟩), .slice A1 n1 c1, .int .i64 i, elemPtr A1 ((i).toNat), .int .i64 ((gd a.natAbs i.toNat : Nat) : Int), .slice (some ⟨g32, 0, none⟩) 1 1, .pointer (some ⟨g27, 1, none⟩), .slice Ao no co, .slice (some ⟨g33, 0, none⟩) (1 + no) c33, .agg #[.int .i64 s34, .slice A34 n34 c34], (j35 39), (j35 40), (j35 41), (j35 42), (j35 43), (j35 44), (j35 45), (j35 46), (j35 47), (j35 48), (j35 49), (j35 50), (j35 51), (j35 52), (j35 53), (j35 54), (j29 55), (j29 56), (j29 57), (j29 58), (j29 59), (j29 60), (j29 61), (j29 62), (j29 63), undef, undef, undef, undef, undef, undef, undef, undef, undef, undef, undef, undef, undef, undef, undef, undef, undef, undef, undef, undef, undef, undef, undef, undef, undef], []⟩ ∧ m_ = h - l ∧ Mem w [] X u_ [.box g28 #[.int .i64 s26, .slice A26 n26 c26] 31, .box g27 #[.int .i64 s34, .slice A34 n34 c34] 31, .own g25 3 n1 n1 (i64s M), .box g24 #[.int .i64 0, .slice none 0 0] 31, .box g23 #[.int .i64 0, .slice none 0 0] 31, .box g22 #[.int .i64 s2, .slice A2 n2 c2] 31, .box g21 #[.int .i64 s1, .slice A1 n1 c1] 31] [⟨NZk, [.int .i64 s34, .slice A34 n34 c34], 1 * ((z.natAbs * 10000 + gd a.natAbs i.toNat : Nat) : Int)⟩, ⟨SIk, [.slice (some ⟨g33, 0, none⟩) (1 + no) c33], [((gd a.natAbs i.toNat : Nat) : Int)] ++ (gp (z).natAbs)⟩, ⟨NZk, [.int .i64 so, .slice Ao no co], z⟩, ⟨NZk, [.int .i64 s26, .slice A26 n26 c26], (d.natAbs : Int)⟩, ⟨NZk, [.int .i64 s2, .slice A2 n2 c2], d⟩, ⟨NZk, [.int .i64 s1, .slice A1 n1 c1], a⟩] ∧ (l < h ∧ h ≤ 10000) ∧ (l * d.natAbs ≤ (z.natAbs * 10000 + gd a.natAbs i.toNat)) ∧ ((z.natAbs * 10000 + gd a.natAbs i.toNat) < h * d.natAbs)) (fun _ hM => ⟨_, 0, 10000, (fun t => (#[.agg #[.int .i64 s1, .slice A1 n1 c1], .agg #[.int .i64 s2, .slice A2 n2 c2], .pointer (some ⟨g21, 0, none⟩), .pointer (some ⟨g22, 0, none⟩), .pointer (some ⟨g23, 0, none⟩), .pointer (some ⟨g24, 0, none⟩), .slice (some ⟨g25, 0, none⟩) n1 n1, .pointer (some ⟨g27, 0, none⟩), .pointer (some ⟨g28, 0, none⟩), .int .i64 i, .int .i64 0, .int .i64 10000, (j29 12), undef, .pointer (some ⟨g21, 1, none⟩), .slice A1 n1 c1, .int .i64 (n1 : Int), .slice (some ⟨g25, 0, none⟩) n1 n1, .agg #[.int .i64 0, .slice none 0 0], .agg #[.int .i64 s2, .slice A2 n2 c2], .agg #[.int .i64 s26, .slice A26 n26 c26], .pointer (some ⟨g21, 1, none⟩), .slice A1 n1 c1, .int .i64 (n1 : Int), .int .i64 ((n1 : Int) - (1 : Int)), .int .i64 i, .bool (decide (i ≥ (0 : Int))), (j29 27), (j29 28), .pointer (some ⟨g21, 1, none⟩), .slice A1 n1 c1, .int .i64 i, elemPtr A1 ((i).toNat), .int .i64 ((gd a.natAbs i.toNat : Nat) : Int), .slice (some ⟨g32, 0, none⟩) 1 1, .pointer (some ⟨g27, 1, none⟩), .slice Ao no co, .slice (some ⟨g33, 0, none⟩) (1 + no) c33, .agg #[.int .i64 s34, .slice A34 n34 c34], (j29 39), (j29 40), (j29 41), (j29 42), (j29 43), (j29 44), (j29 45), (j29 46), (j29 47), (j29 48), (j29 49), (j29 50), (j29 51), (j29 52), (j29 53), (j29 54), (j29 55), (j29 56), (j29 57), (j29 58), (j29 59), (j29 60), (j29 61), (j29 62), (j29 63), undef, undef, undef, undef, undef, undef, undef, undef, undef, undef, undef, undef, undef, undef, undef, undef, undef, undef, undef, undef, undef, undef, undef, undef, undef] : Array Value).getD t undef), (by kernel_rfl), rfl, ((((((hM.clr).add (hM.f 5 rfl)).add (hM.f 4 rfl)).add (hM.f 3 rfl)).add (hM.f 2 rfl)).add (hM.f 1 rfl)).add (hM.f 0 rfl), (by omega), (by simp), (zq_top hz.2 (Nat.mod_lt _ (by decide)))⟩) ?_
   rintro m_ a_ u_ ⟨l, h, j35, rfl, hm35, hM, hlh, hlo, hhi⟩
   refine CG.go hM ?_
   refine CG.seq fun K_ k4 => ?_
   refine CG.seq fun K_ k5 => ?_
   refine CG.lin 4 ?_
   refine GL.v (.int .i64 (h : Int)) ?_
   refine GL.v (.int .i64 (l : Int)) ?_
   refine GL.v (.int .i64 ((h : Int) - (l : Int))) ?_ (hr := fun u => op_to (v := .int .i64 (IntKind.wrap .i64 ((h : Int) - (l : Int)))) (by kernel_rfl) (wrap_i64 rfl (by omega) (by omega)))
   refine GL.v (.bool (decide (((h : Int) - (l : Int)) > (1 : Int)))) ?_
   refine GL.k k5 ?_
   by_cases hc36 : ((h : Int) - (l : Int)) > (1 : Int)
   · have hk36 : (decide (((h : Int) - (l : Int)) > (1 : Int))) = true := decide_eq_true hc36
     refine CG.yes ?_ hk36 rfl
     refine CG.skip ?_
     refine QG.k k4 ?_
     refine CG.block ?_
     refine CG.seq fun K_ k4 => ?_
     refine CG.lin 5 ?_
     refine GL.v (.int .i64 (l : Int)) ?_
     refine GL.v (.int .i64 (h : Int)) ?_
     refine GL.v (.int .i64 ((l + h : Nat) : Int)) ?_ (hr := fun u => op_to (v := .int .i64 (IntKind.wrap .i64 ((l : Int) + (h : Int)))) (by kernel_rfl) (wrap_i64 (by omega) (by omega) (by omega)))
     refine GL.v (.int .i64 (((l + h) / 2 : Nat) : Int)) ?_ (hr := fun u => op_to (v := .int .i64 (IntKind.wrap .i64 ((((l + h : Nat) : Int)).tdiv 2))) (by kernel_rfl) (quo_i64 (by omega) (by omega) (by omega) (by omega)))
     refine GL.v (.int .i64 (((l + h) / 2 : Nat) : Int)) ?_
     refine GL.k k4 ?_
     refine CG.seq fun K_ k4 => ?_
     refine CG.draw [] [0, 1, 3, 5] (.step 0 (.step 1 (.step 3 (.step 2 (.step 4 (.step 5 .done)))))) (fun V hV37 => ?_)
     refine GD.er (.agg #[.int .i64 s26, .slice A26 n26 c26]) (fun _ hS => op_load_agg (off := 0) (by kernel_rfl) agg31 siz31 (hV37.bS 0 rfl hS) rfl rfl) ?_
     refine GD.ev (.int .i64 (((l + h) / 2 : Nat) : Int)) ?_
     refine GD.er (.agg #[.int .i64 s34, .slice A34 n34 c34]) (fun _ hS => op_load_agg (off := 0) (by kernel_rfl) agg31 siz31 (hV37.bS 1 rfl hS) rfl rfl) ?_
     refine GD.call (fun _ hM => ntimes_ok hM.avlt (((l + h) / 2 : Nat) : Int) (hM.f 3 rfl) (by first | assumption | omega) (by first | assumption | omega)) ?_
     rintro _ _ _ hM ⟨s38, A38, n38, c38, rfl, h38, hb⟩
     have hs38 := szg_mul (d.natAbs : Int) ((((l + h) / 2 : Nat) : Int))
     refine ⟨_, _, _, rfl, hb, (hM.call hb).add h38, ?_⟩
     refine GD.call (fun _ hM => larger_ok hM.avlt (hM.f 0 rfl) (hM.f 1 rfl)) ?_
     rintro _ _ _ hM ⟨rfl, hb⟩
     refine ⟨_, _, _, rfl, hb, hM.call hb, ?_⟩
     refine GD.ev (.bool (decide ((cmpN ((d.natAbs : Int) * (((l + h) / 2 : Nat) : Int)).natAbs (1 * ((z.natAbs * 10000 + gd a.natAbs i.toNat : Nat) : Int)).natAbs) ≤ (0 : Int)))) ?_
     refine GD.k k4 ?_
     by_cases hc40 : ((l + h) / 2) * d.natAbs ≤ (z.natAbs * 10000 + gd a.natAbs i.toNat)
     · have hk40 : (decide ((cmpN ((d.natAbs : Int) * (((l + h) / 2 : Nat) : Int)).natAbs (1 * ((z.natAbs * 10000 + gd a.natAbs i.toNat : Nat) : Int)).natAbs) ≤ (0 : Int))) = true := decide_eq_true ((zq_cmp _ _ _).2 hc40)
       refine CG.yes ?_ hk40 rfl
       refine CG.lin 2 ?_
       refine GL.v (.int .i64 (((l + h) / 2 : Nat) : Int)) ?_
       refine GL.v (.int .i64 (((l + h) / 2 : Nat) : Int)) ?_
       refine GL.q ?_
       refine QG.block ?_
       refine QG.again fun _ hM => ?_
       exact ⟨h - ((l + h) / 2), (by omega), ((l + h) / 2), h, (fun t => (#[.agg #[.int .i64 s1, .slice A1 n1 c1], .agg #[.int .i64 s2, .slice A2 n2 c2], .pointer (some ⟨g21, 0, none⟩), .pointer (some ⟨g22, 0, none⟩), .pointer (some ⟨g23, 0, none⟩), .pointer (some ⟨g24, 0, none⟩), .slice (some ⟨g25, 0, none⟩) n1 n1, .pointer (some ⟨g27, 0, none⟩), .pointer (some ⟨g28, 0, none⟩), .int .i64 i, .int .i64 (((l + h) / 2 : Nat) : Int), .int .i64 (h : Int), .int .i64 (((l + h) / 2 : Nat) : Int), undef, .pointer (some ⟨g21, 1, none⟩), .slice A1 n1 c1, .int .i64 (n1 : Int), .slice (some ⟨g25, 0, none⟩) n1 n1, .agg #[.int .i64 0, .slice none 0 0], .agg #[.int .i64 s2, .slice A2 n2 c2], .agg #[.int .i64 s26, .slice A26 n26 c26], .pointer (some ⟨g21, 1, none⟩), .slice A1 n1 c1, .int .i64 (n1 : Int), .int .i64 ((n1 : Int) - (1 : Int)), .int .i64 i, .bool (decide (i ≥ (0 : Int))), (j29 27), (j29 28), .pointer (some ⟨g21, 1, none⟩), .slice A1 n1 c1, .int .i64 i, elemPtr A1 ((i).toNat), .int .i64 ((gd a.natAbs i.toNat : Nat) : Int), .slice (some ⟨g32, 0, none⟩) 1 1, .pointer (some ⟨g27, 1, none⟩), .slice Ao no co, .slice (some ⟨g33, 0, none⟩) (1 + no) c33, .agg #[.int .i64 s34, .slice A34 n34 c34], .int .i64 (h : Int), .int .i64 (l : Int), .int .i64 ((h : Int) - (l : Int)), .bool (decide (((h : Int) - (l : Int)) > (1 : Int))), .int .i64 (l : Int), .int .i64 (h : Int), .int .i64 ((l + h : Nat) : Int), .int .i64 (((l + h) / 2 : Nat) : Int), .agg #[.int .i64 s26, .slice A26 n26 c26], .int .i64 (((l + h) / 2 : Nat) : Int), .agg #[.int .i64 s38, .slice A38 n38 c38], .agg #[.int .i64 s34, .slice A34 n34 c34], .int .i64 (cmpN ((d.natAbs : Int) * (((l + h) / 2 : Nat) : Int)).natAbs (1 * ((z.natAbs * 10000 + gd a.natAbs i.toNat : Nat) : Int)).natAbs), .bool (decide ((cmpN ((d.natAbs : Int) * (((l + h) / 2 : Nat) : Int)).natAbs (1 * ((z.natAbs * 10000 + gd a.natAbs i.toNat : Nat) : Int)).natAbs) ≤ (0 : Int))), .int .i64 (((l + h) / 2 : Nat) : Int), (j35 54), (j29 55), (j29 56), (j29 57), (j29 58), (j29 59), (j29 60), (j29 61), (j29 62), (j29 63), undef, undef, undef, undef, undef, undef, undef, undef, undef, undef, undef, undef, undef, undef, undef, undef, undef, undef, undef, undef, undef, undef, undef, undef, undef] : Array Value).getD t undef), (by kernel_rfl), rfl, ((((((hM.clr).add (hM.f 6 rfl)).add (hM.f 5 rfl)).add (hM.f 4 rfl)).add (hM.f 3 rfl)).add (hM.f 2 rfl)).add (hM.f 1 rfl), (by omega), (by first | assumption | omega), (by first | assumption | omega)⟩
     · have hk40 : (decide ((cmpN ((d.natAbs : Int) * (((l + h) / 2 : Nat) : Int)).natAbs (1 * ((z.natAbs * 10000 + gd a.natAbs i.toNat : Nat) : Int)).natAbs) ≤ (0 : Int))) = false := decide_eq_false (fun h => hc40 ((zq_cmp _ _ _).1 h))
       refine CG.no ?_ hk40 rfl
       refine CG.lin 2 ?_
       refine GL.v (.int .i64 (((l + h) / 2 : Nat) : Int)) ?_
       refine GL.v (.int .i64 (((l + h) / 2 : Nat) : Int)) ?_
       refine GL.q ?_
       refine QG.block ?_
       refine QG.again fun _ hM => ?_
       exact ⟨((l + h) / 2) - l, (by omega), l, ((l + h) / 2), (fun t => (#[.agg #[.int .i64 s1, .slice A1 n1 c1], .agg #[.int .i64 s2, .slice A2 n2 c2], .pointer (some ⟨g21, 0, none⟩), .pointer (some ⟨g22, 0, none⟩), .pointer (some ⟨g23, 0, none⟩), .pointer (some ⟨g24, 0, none⟩), .slice (some ⟨g25, 0, none⟩) n1 n1, .pointer (some ⟨g27, 0, none⟩), .pointer (some ⟨g28, 0, none⟩), .int .i64 i, .int .i64 (l : Int), .int .i64 (((l + h) / 2 : Nat) : Int), .int .i64 (((l + h) / 2 : Nat) : Int), undef, .pointer (some ⟨g21, 1, none⟩), .slice A1 n1 c1, .int .i64 (n1 : Int), .slice (some ⟨g25, 0, none⟩) n1 n1, .agg #[.int .i64 0, .slice none 0 0], .agg #[.int .i64 s2, .slice A2 n2 c2], .agg #[.int .i64 s26, .slice A26 n26 c26], .pointer (some ⟨g21, 1, none⟩), .slice A1 n1 c1, .int .i64 (n1 : Int), .int .i64 ((n1 : Int) - (1 : Int)), .int .i64 i, .bool (decide (i ≥ (0 : Int))), (j29 27), (j29 28), .pointer (some ⟨g21, 1, none⟩), .slice A1 n1 c1, .int .i64 i, elemPtr A1 ((i).toNat), .int .i64 ((gd a.natAbs i.toNat : Nat) : Int), .slice (some ⟨g32, 0, none⟩) 1 1, .pointer (some ⟨g27, 1, none⟩), .slice Ao no co, .slice (some ⟨g33, 0, none⟩) (1 + no) c33, .agg #[.int .i64 s34, .slice A34 n34 c34], .int .i64 (h : Int), .int .i64 (l : Int), .int .i64 ((h : Int) - (l : Int)), .bool (decide (((h : Int) - (l : Int)) > (1 : Int))), .int .i64 (l : Int), .int .i64 (h : Int), .int .i64 ((l + h : Nat) : Int), .int .i64 (((l + h) / 2 : Nat) : Int), .agg #[.int .i64 s26, .slice A26 n26 c26], .int .i64 (((l + h) / 2 : Nat) : Int), .agg #[.int .i64 s38, .slice A38 n38 c38], .agg #[.int .i64 s34, .slice A34 n34 c34], .int .i64 (cmpN ((d.natAbs : Int) * (((l + h) / 2 : Nat) : Int)).natAbs (1 * ((z.natAbs * 10000 + gd a.natAbs i.toNat : Nat) : Int)).natAbs), .bool (decide ((cmpN ((d.natAbs : Int) * (((l + h) / 2 : Nat) : Int)).natAbs (1 * ((z.natAbs * 10000 + gd a.natAbs i.toNat : Nat) : Int)).natAbs) ≤ (0 : Int))), (j35 53), .int .i64 (((l + h) / 2 : Nat) : Int), (j29 55), (j29 56), (j29 57), (j29 58), (j29 59), (j29 60), (j29 61), (j29 62), (j29 63), undef, undef, undef, undef, undef, undef, undef, undef, undef, undef, undef, undef, undef, undef, undef, undef, undef, undef, undef, undef, undef, undef, undef, undef, undef] : Array Value).getD t undef), (by kernel_rfl), rfl, ((((((hM.clr).add (hM.f 6 rfl)).add (hM.f 5 rfl)).add (hM.f 4 rfl)).add (hM.f 3 rfl)).add (hM.f 2 rfl)).add (hM.f 1 rfl), (by omega), (by first | assumption | omega), (by first | assumption | omega)⟩
   · have hk36 : (decide (((h : Int) - (l : Int)) > (1 : Int))) = false := decide_eq_false hc36
     refine CG.no ?_ hk36 rfl
     refine CG.exit (QG.then_exit (QG.then_exit (QG.here ?_)))
     refine QG.k k3 ?_
     refine CG.seq fun K_ k3 => ?_
     refine CG.lin 5 ?_
     refine GL.v (.slice (some ⟨g25, 0, none⟩) n1 n1) ?_
     refine GL.v (.int .i64 i) ?_
     refine GL.v (.int .i64 (l : Int)) ?_
     refine GL.r (elemPtr (some ⟨g25, 0, none⟩) ((i).toNat)) (fun _ hM => op_index rowt29 (c := n1) (k := .i64) (i := i) ((i).toNat) (by kernel_rfl) (by kernel_rfl) (by omega) (by omega) (hM.o 2 rfl).row _) ?_
     refine GL.el (fun _ _ _ => Mem.el2) (fun _ hM => op_set_i64 ((i).toNat) (l : Int) siz3 (hM.o 2 rfl) (by kernel_rfl) (by kernel_rfl) (by omega)) ?_
     refine GL.k k3 ?_
     refine CG.draw [] [0, 1, 2] (.step 0 (.step 1 (.step 2 (.step 3 (.step 4 (.step 5 .done)))))) (fun V hV41 => ?_)
     refine GD.er (.agg #[.int .i64 s34, .slice A34 n34 c34]) (fun _ hS => op_load_agg (off := 0) (by kernel_rfl) agg31 siz31 (hV41.bS 1 rfl hS) rfl rfl) ?_
     refine GD.er (.agg #[.int .i64 s26, .slice A26 n26 c26]) (fun _ hS => op_load_agg (off := 0) (by kernel_rfl) agg31 siz31 (hV41.bS 0 rfl hS) rfl rfl) ?_
     refine GD.ev (.int .i64 (l : Int)) ?_
     have hsl : szg (l : Int) ≤ 2 := szg_le (by omega)
     have hzr := zq_szR (g := gd a.natAbs i.toNat) hz.2 (Nat.mod_lt _ (by decide))
     have hsa := szg_abs d
     refine GD.call (fun _ hM => ntimes_ok hM.avlt (l : Int) (hM.f 3 rfl) (by first | assumption | omega) (by first | assumption | omega)) ?_
     rintro _ _ _ hM ⟨s42, A42, n42, c42, rfl, h42, hb⟩
     have hs42 := szg_mul (d.natAbs : Int) (l : Int)
     refine ⟨_, _, _, rfl, hb, (hM.call hb).add h42, ?_⟩
     refine GD.call (fun _ hM => ZSub_ok hM.avlt (hM.f 1 rfl) (hM.f 0 rfl) (by first | assumption | omega)) ?_
     rintro _ _ _ hM ⟨s43, A43, n43, c43, rfl, h43, hb⟩
     have hs43 := szg_sub ((1 * ((z.natAbs * 10000 + gd a.natAbs i.toNat : Nat) : Int))) (((d.natAbs : Int) * (l : Int)))
     refine ⟨_, _, _, rfl, hb, (hM.call hb).add h43, ?_⟩
     refine GD.st (fun _ _ => Mem.st1) (fun _ hM => store_all (cs' := #[.int .i64 s43, .slice A43 n43 c43]) siz31 (hM.b 1 rfl) (by kernel_rfl) (by kernel_rfl) rfl rfl rfl) ?_
     refine GD.q ?_
     refine QG.block ?_
     refine QG.k k2 ?_
     refine CG.lin 3 ?_
     refine GL.v (.int .i64 i) ?_
     refine GL.v (.int .i64 (i - (1 : Int))) ?_ (hr := fun u => op_to (v := .int .i64 (IntKind.wrap .i64 (i - (1 : Int)))) (by kernel_rfl) (wrap_i64 rfl (by omega) (by omega)))
     refine GL.v (.int .i64 (i - (1 : Int))) ?_
     refine GL.q ?_
     refine QG.again fun _ hM => ?_
     have hI2 : 0 ≤ i := by omega
     exact ⟨((i - (1 : Int)) + 1).toNat, (by omega), s43, A43, n43, c43, ((1 * ((z.natAbs * 10000 + gd a.natAbs i.toNat : Nat) : Int)) - ((d.natAbs : Int) * (l : Int))), (i - (1 : Int)), (Q * 10000 + l), (M.set ((i).toNat) (l : Int)), (fun t => (#[.agg #[.int .i64 s1, .slice A1 n1 c1], .agg #[.int .i64 s2, .slice A2 n2 c2], .pointer (some ⟨g21, 0, none⟩), .pointer (some ⟨g22, 0, none⟩), .pointer (some ⟨g23, 0, none⟩), .pointer (some ⟨g24, 0, none⟩), .slice (some ⟨g25, 0, none⟩) n1 n1, .pointer (some ⟨g27, 0, none⟩), .pointer (some ⟨g28, 0, none⟩), .int .i64 (i - (1 : Int)), .int .i64 (l : Int), .int .i64 (h : Int), (j35 12), undef, .pointer (some ⟨g21, 1, none⟩), .slice A1 n1 c1, .int .i64 (n1 : Int), .slice (some ⟨g25, 0, none⟩) n1 n1, .agg #[.int .i64 0, .slice none 0 0], .agg #[.int .i64 s2, .slice A2 n2 c2], .agg #[.int .i64 s26, .slice A26 n26 c26], .pointer (some ⟨g21, 1, none⟩), .slice A1 n1 c1, .int .i64 (n1 : Int), .int .i64 ((n1 : Int) - (1 : Int)), .int .i64 i, .bool (decide (i ≥ (0 : Int))), .int .i64 i, .int .i64 (i - (1 : Int)), .pointer (some ⟨g21, 1, none⟩), .slice A1 n1 c1, .int .i64 i, elemPtr A1 ((i).toNat), .int .i64 ((gd a.natAbs i.toNat : Nat) : Int), .slice (some ⟨g32, 0, none⟩) 1 1, .pointer (some ⟨g27, 1, none⟩), .slice Ao no co, .slice (some ⟨g33, 0, none⟩) (1 + no) c33, .agg #[.int .i64 s34, .slice A34 n34 c34], .int .i64 (h : Int), .int .i64 (l : Int), .int .i64 ((h : Int) - (l : Int)), .bool (decide (((h : Int) - (l : Int)) > (1 : Int))), (j35 43), (j35 44), (j35 45), (j35 46), (j35 47), (j35 48), (j35 49), (j35 50), (j35 51), (j35 52), (j35 53), (j35 54), .slice (some ⟨g25, 0, none⟩) n1 n1, .int .i64 i, .int .i64 (l : Int), elemPtr (some ⟨g25, 0, none⟩) ((i).toNat), .agg #[.int .i64 s34, .slice A34 n34 c34], .agg #[.int .i64 s26, .slice A26 n26 c26], .int .i64 (l : Int), .agg #[.int .i64 s42, .slice A42 n42 c42], .agg #[.int .i64 s43, .slice A43 n43 c43], undef, undef, undef, undef, undef, undef, undef, undef, undef, undef, undef, undef, undef, undef, undef, undef, undef, undef, undef, undef, undef, undef, undef, undef, undef] : Array Value).getD t undef), (by kernel_rfl), rfl, ((((hM.clr).add (hM.f 7 rfl)).add (hM.f 6 rfl)).add (hM.f 5 rfl)).add (hM.f 0 rfl), (by omega), (zq_next hlo (zq_last (by omega) hlo hhi)), (zq_A hA hI2 hlo), (zq_V (by omega) (hMZ _ (by omega)) hV hI2), (fun j hj => by rw [set_get _ (by omega), if_neg (by omega)]; exact hMZ j (by omega)), (set_bound (by omega) hMB (by omega)), (szg_mono (Nat.le_of_lt (zq_next hlo (zq_last (by omega) hlo hhi)).2))⟩
 · have hk30 : (decide (i ≥ (0 : Int))) = false := decide_eq_false hc30
   refine CG.no ?_ hk30 rfl
   refine CG.exit (QG.then_exit (QG.then_exit (QG.here ?_)))
   refine QG.k k1 ?_
   refine CG.seq fun K_ k1 => ?_
   refine CG.lin 6 ?_
   refine GL.v (.pointer (some ⟨g21, 0, none⟩)) ?_
   refine GL.r (.int .i64 s1) (fun _ hM => op_load_one (off := 0) (by kernel_rfl) agg3 (hM.b 6 rfl) rfl) ?_
   refine GL.v (.slice (some ⟨g25, 0, none⟩) n1 n1) ?_
   have hB := zq_end (by omega) hA
   have hsQ := zq_szQ hs1 hd0 hB
   refine GL.mem (fun _ hM => hM.pu2 fun hO _ hX => SIk.own hO hX) ?_
   refine GL.call (fun _ hM => nmade_ok hM.avlt s1 (x := Q) (hM.f 0 rfl) (by rw [hV, show (i + 1).toNat = 0 by omega]; simp) (mem_of_get hMB (by decide) (by decide)) (zq_sgn hs1 hA (by omega)) (by first | assumption | omega)) ?_
   rintro _ _ _ hM ⟨s44, A44, n44, c44, rfl, h44, hb⟩
   refine ⟨_, _, _, rfl, (hM.call hb).add h44, ?_⟩
   refine GL.aA zer31 fun g45 => ?_
   refine GL.sA (cs' := #[.int .i64 s44, .slice A44 n44 c44]) (fun _ _ => Mem.st0) (fun _ hM => hM.b 0 rfl) siz31 ?_
   refine GL.k k1 ?_
   refine CG.seq fun K_ k1 => ?_
   refine CG.seq fun K_ k2 => ?_
   by_cases hc46 : s1 < (0 : Int)
   · have hk46 : (decide (s1 < (0 : Int))) = true := decide_eq_true hc46
     by_cases hc47 : so ≠ (0 : Int)
     · have hk47 : (so != (0 : Int)) = true := bne_iff_ne.2 hc47
       refine CG.lin 8 ?_
       refine GL.v (.pointer (some ⟨g21, 0, none⟩)) ?_
       refine GL.r (.int .i64 s1) (fun _ hM => op_load_one (off := 0) (by kernel_rfl) agg3 (hM.b 6 rfl) rfl) ?_
       refine GL.v (.bool true) ?_ (hr := fun u => op_b (b := (decide (s1 < (0 : Int)))) (by kernel_rfl) hk46)
       refine GL.v (.bool true) ?_
       refine GL.v (.pointer (some ⟨g27, 0, none⟩)) ?_
       refine GL.r (.int .i64 so) (fun _ hM => op_load_one (off := 0) (by kernel_rfl) agg3 (hM.b 2 rfl) rfl) ?_
       refine GL.v (.bool true) ?_ (hr := fun u => op_b (b := (so != (0 : Int))) (by kernel_rfl) hk47)
       refine GL.v (.bool true) ?_
       refine GL.k k2 ?_
       refine CG.yes ?_ rfl rfl
       refine CG.seq fun K_ k2 => ?_
       refine CG.draw [] [0] (.step 0 (.step 1 (.step 2 (.step 3 .done)))) (fun V hV48 => ?_)
       refine GD.er (.agg #[.int .i64 s44, .slice A44 n44 c44]) (fun _ hS => op_load_agg (off := 0) (by kernel_rfl) agg31 siz31 (hV48.bS 0 rfl hS) rfl rfl) ?_
       refine GD.call (fun _ hM => ZInt_ok hM.avlt (1) (by first | assumption | omega)) ?_
       rintro _ _ _ hM ⟨s49, A49, n49, c49, rfl, h49, hb⟩
       have hs49 := szg_i64 (1) (by omega)
       refine ⟨_, _, _, rfl, hb, (hM.call hb).add h49, ?_⟩
       refine GD.call (fun _ hM => ZSub_ok hM.avlt (hM.f 1 rfl) (hM.f 0 rfl) (by first | assumption | omega)) ?_
       rintro _ _ _ hM ⟨s50, A50, n50, c50, rfl, h50, hb⟩
       have hs50 := szg_sub ((s1 * (Q : Int))) (1)
       refine ⟨_, _, _, rfl, hb, (hM.call hb).add h50, ?_⟩
       refine GD.st (fun _ _ => Mem.st0) (fun _ hM => store_all (cs' := #[.int .i64 s50, .slice A50 n50 c50]) siz31 (hM.b 0 rfl) (by kernel_rfl) (by kernel_rfl) rfl rfl rfl) ?_
       refine GD.k k2 ?_
       refine CG.lin 4 ?_
       refine GL.r (.agg #[.int .i64 s26, .slice A26 n26 c26]) (fun _ hM => op_load_agg (off := 0) (by kernel_rfl) agg31 siz31 (hM.b 1 rfl) rfl rfl) ?_
       refine GL.r (.agg #[.int .i64 so, .slice Ao no co]) (fun _ hM => op_load_agg (off := 0) (by kernel_rfl) agg31 siz31 (hM.b 2 rfl) rfl rfl) ?_
       refine GL.call (fun _ hM => ZSub_ok hM.avlt (hM.f 5 rfl) (hM.f 4 rfl) (by first | assumption | omega)) ?_
       rintro _ _ _ hM ⟨s51, A51, n51, c51, rfl, h51, hb⟩
       have hs51 := szg_sub (d.natAbs : Int) z
       refine ⟨_, _, _, rfl, (hM.call hb).add h51, ?_⟩
       refine GL.sA (cs' := #[.int .i64 s51, .slice A51 n51 c51]) (fun _ _ => Mem.st2) (fun _ hM => hM.b 2 rfl) siz31 ?_
       refine GL.k k1 ?_
       refine CG.seq fun K_ k1 => ?_
       refine CG.seq fun K_ k2 => ?_
       refine CG.lin 3 ?_
       refine GL.v (.pointer (some ⟨g22, 0, none⟩)) ?_
       refine GL.r (.int .i64 s2) (fun _ hM => op_load_one (off := 0) (by kernel_rfl) agg3 (hM.b 5 rfl) rfl) ?_
       refine GL.v (.bool (decide (s2 < (0 : Int)))) ?_
       refine GL.k k2 ?_
       by_cases hc52 : s2 < (0 : Int)
       · have hk52 : (decide (s2 < (0 : Int))) = true := decide_eq_true hc52
         refine CG.yes ?_ hk52 rfl
         refine CG.lin 3 ?_
         refine GL.r (.agg #[.int .i64 s50, .slice A50 n50 c50]) (fun _ hM => op_load_agg (off := 0) (by kernel_rfl) agg31 siz31 (hM.b 0 rfl) rfl rfl) ?_
         refine GL.call (fun _ hM => ZNeg_ok hM.avlt (hM.f 1 rfl)) ?_
         rintro _ _ _ hM ⟨s53, A53, n53, c53, rfl, h53, hb⟩
         have hs53 := szg_neg (((s1 * (Q : Int)) - 1))
         refine ⟨_, _, _, rfl, (hM.call hb).add h53, ?_⟩
         refine GL.sA (cs' := #[.int .i64 s53, .slice A53 n53 c53]) (fun _ _ => Mem.st0) (fun _ hM => hM.b 0 rfl) siz31 ?_
         refine GL.k k1 ?_
         refine CG.seq fun K_ k1 => ?_
         refine CG.draw [g23] [0, 1] (.step 0 (.step 1 (.step 2 (.step 3 .done)))) (fun V hV54 => ?_)
         refine GD.er (.agg #[.int .i64 s53, .slice A53 n53 c53]) (fun _ hS => op_load_agg (off := 0) (by kernel_rfl) agg31 siz31 (hV54.bS 0 rfl hS (by simp only [List.mem_cons, List.not_mem_nil, or_false, not_or]; exact hV54.ne 0 4 rfl rfl (by decide))) rfl rfl) ?_
         refine GD.er (.agg #[.int .i64 s51, .slice A51 n51 c51]) (fun _ hS => op_load_agg (off := 0) (by kernel_rfl) agg31 siz31 (hV54.bS 2 rfl hS (by simp only [List.mem_cons, List.not_mem_nil, or_false, not_or]; exact hV54.ne 2 4 rfl rfl (by decide))) rfl rfl) ?_
         refine GD.st (fun _ _ => Mem.st4) (fun _ hM => store_all (cs' := #[.int .i64 s53, .slice A53 n53 c53]) siz31 (hM.b 4 rfl) (by kernel_rfl) (by kernel_rfl) rfl rfl rfl) ?_
         refine GD.st (fun _ _ => Mem.st3) (fun _ hM => store_all (cs' := #[.int .i64 s51, .slice A51 n51 c51]) siz31 (hM.b 3 rfl) (by kernel_rfl) (by kernel_rfl) rfl rfl rfl) ?_
         refine GD.k k1 ?_
         refine CG.ret (QG.ret (fun _ hM => results_two rfl (res_cell rfl (loadVar_agg agg31 siz31 (hM.b 4 rfl) rfl rfl)) (res_cell rfl (loadVar_agg agg31 siz31 (hM.b 3 rfl) rfl rfl))) ?_)
         intro _ hM
         exact ⟨_, _, _, _, _, _, _, _, rfl, (((zqA hd0 hs1 hs2 hso hz hB hc46 hc47).2.1 hc52) ▸ (hM.out (hM.f 0 rfl))), ((zqA hd0 hs1 hs2 hso hz hB hc46 hc47).1 ▸ (hM.out (hM.f 1 rfl))), hM.below⟩
       · have hk52 : (decide (s2 < (0 : Int))) = false := decide_eq_false hc52
         refine CG.no ?_ hk52 rfl
         refine CG.skip ?_
         refine QG.k k1 ?_
         refine CG.seq fun K_ k1 => ?_
         refine CG.draw [g23] [0, 1] (.step 0 (.step 1 (.step 2 (.step 3 .done)))) (fun V hV55 => ?_)
         refine GD.er (.agg #[.int .i64 s50, .slice A50 n50 c50]) (fun _ hS => op_load_agg (off := 0) (by kernel_rfl) agg31 siz31 (hV55.bS 0 rfl hS (by simp only [List.mem_cons, List.not_mem_nil, or_false, not_or]; exact hV55.ne 0 4 rfl rfl (by decide))) rfl rfl) ?_
         refine GD.er (.agg #[.int .i64 s51, .slice A51 n51 c51]) (fun _ hS => op_load_agg (off := 0) (by kernel_rfl) agg31 siz31 (hV55.bS 2 rfl hS (by simp only [List.mem_cons, List.not_mem_nil, or_false, not_or]; exact hV55.ne 2 4 rfl rfl (by decide))) rfl rfl) ?_
         refine GD.st (fun _ _ => Mem.st4) (fun _ hM => store_all (cs' := #[.int .i64 s50, .slice A50 n50 c50]) siz31 (hM.b 4 rfl) (by kernel_rfl) (by kernel_rfl) rfl rfl rfl) ?_
         refine GD.st (fun _ _ => Mem.st3) (fun _ hM => store_all (cs' := #[.int .i64 s51, .slice A51 n51 c51]) siz31 (hM.b 3 rfl) (by kernel_rfl) (by kernel_rfl) rfl rfl rfl) ?_
         refine GD.k k1 ?_
         refine CG.ret (QG.ret (fun _ hM => results_two rfl (res_cell rfl (loadVar_agg agg31 siz31 (hM.b 4 rfl) rfl rfl)) (res_cell rfl (loadVar_agg agg31 siz31 (hM.b 3 rfl) rfl rfl))) ?_)
         intro _ hM
         exact ⟨_, _, _, _, _, _, _, _, rfl, (((zqA hd0 hs1 hs2 hso hz hB hc46 hc47).2.2 hc52) ▸ (hM.out (hM.f 1 rfl))), ((zqA hd0 hs1 hs2 hso hz hB hc46 hc47).1 ▸ (hM.out (hM.f 0 rfl))), hM.below⟩
     · have hk47 : (so != (0 : Int)) = false := by simpa using hc47
       refine CG.lin 8 ?_
       refine GL.v (.pointer (some ⟨g21, 0, none⟩)) ?_
       refine GL.r (.int .i64 s1) (fun _ hM => op_load_one (off := 0) (by kernel_rfl) agg3 (hM.b 6 rfl) rfl) ?_
       refine GL.v (.bool true) ?_ (hr := fun u => op_b (b := (decide (s1 < (0 : Int)))) (by kernel_rfl) hk46)
       refine GL.v (.bool true) ?_
       refine GL.v (.pointer (some ⟨g27, 0, none⟩)) ?_
       refine GL.r (.int .i64 so) (fun _ hM => op_load_one (off := 0) (by kernel_rfl) agg3 (hM.b 2 rfl) rfl) ?_
       refine GL.v (.bool false) ?_ (hr := fun u => op_b (b := (so != (0 : Int))) (by kernel_rfl) hk47)
       refine GL.v (.bool false) ?_
       refine GL.k k2 ?_
       refine CG.no ?_ rfl rfl
       refine CG.skip ?_
       refine QG.k k1 ?_
       refine CG.seq fun K_ k1 => ?_
       refine CG.seq fun K_ k2 => ?_
       refine CG.lin 3 ?_
       refine GL.v (.pointer (some ⟨g22, 0, none⟩)) ?_
       refine GL.r (.int .i64 s2) (fun _ hM => op_load_one (off := 0) (by kernel_rfl) agg3 (hM.b 5 rfl) rfl) ?_
       refine GL.v (.bool (decide (s2 < (0 : Int)))) ?_
       refine GL.k k2 ?_
       by_cases hc56 : s2 < (0 : Int)
       · have hk56 : (decide (s2 < (0 : Int))) = true := decide_eq_true hc56
         refine CG.yes ?_ hk56 rfl
         refine CG.lin 3 ?_
         refine GL.r (.agg #[.int .i64 s44, .slice A44 n44 c44]) (fun _ hM => op_load_agg (off := 0) (by kernel_rfl) agg31 siz31 (hM.b 0 rfl) rfl rfl) ?_
         refine GL.call (fun _ hM => ZNeg_ok hM.avlt (hM.f 0 rfl)) ?_
         rintro _ _ _ hM ⟨s57, A57, n57, c57, rfl, h57, hb⟩
         have hs57 := szg_neg ((s1 * (Q : Int)))
         refine ⟨_, _, _, rfl, (hM.call hb).add h57, ?_⟩
         refine GL.sA (cs' := #[.int .i64 s57, .slice A57 n57 c57]) (fun _ _ => Mem.st0) (fun _ hM => hM.b 0 rfl) siz31 ?_
         refine GL.k k1 ?_
         refine CG.seq fun K_ k1 => ?_
         refine CG.draw [g23] [0, 1] (.step 0 (.step 1 (.step 2 (.step 3 .done)))) (fun V hV58 => ?_)
         refine GD.er (.agg #[.int .i64 s57, .slice A57 n57 c57]) (fun _ hS => op_load_agg (off := 0) (by kernel_rfl) agg31 siz31 (hV58.bS 0 rfl hS (by simp only [List.mem_cons, List.not_mem_nil, or_false, not_or]; exact hV58.ne 0 4 rfl rfl (by decide))) rfl rfl) ?_
         refine GD.er (.agg #[.int .i64 so, .slice Ao no co]) (fun _ hS => op_load_agg (off := 0) (by kernel_rfl) agg31 siz31 (hV58.bS 2 rfl hS (by simp only [List.mem_cons, List.not_mem_nil, or_false, not_or]; exact hV58.ne 2 4 rfl rfl (by decide))) rfl rfl) ?_
         refine GD.st (fun _ _ => Mem.st4) (fun _ hM => store_all (cs' := #[.int .i64 s57, .slice A57 n57 c57]) siz31 (hM.b 4 rfl) (by kernel_rfl) (by kernel_rfl) rfl rfl rfl) ?_
         refine GD.st (fun _ _ => Mem.st3) (fun _ hM => store_all (cs' := #[.int .i64 so, .slice Ao no co]) siz31 (hM.b 3 rfl) (by kernel_rfl) (by kernel_rfl) rfl rfl rfl) ?_
         refine GD.k k1 ?_
         refine CG.ret (QG.ret (fun _ hM => results_two rfl (res_cell rfl (loadVar_agg agg31 siz31 (hM.b 4 rfl) rfl rfl)) (res_cell rfl (loadVar_agg agg31 siz31 (hM.b 3 rfl) rfl rfl))) ?_)
         intro _ hM
         exact ⟨_, _, _, _, _, _, _, _, rfl, (((zqB hd0 hs1 hs2 hso hz hB (.inr hc47)).2.1 hc56) ▸ (hM.out (hM.f 0 rfl))), ((zqB hd0 hs1 hs2 hso hz hB (.inr hc47)).1 ▸ (hM.out (hM.f 3 rfl))), hM.below⟩
       · have hk56 : (decide (s2 < (0 : Int))) = false := decide_eq_false hc56
         refine CG.no ?_ hk56 rfl
         refine CG.skip ?_
         refine QG.k k1 ?_
         refine CG.seq fun K_ k1 => ?_
         refine CG.draw [g23] [0, 1] (.step 0 (.step 1 (.step 2 (.step 3 .done)))) (fun V hV59 => ?_)
         refine GD.er (.agg #[.int .i64 s44, .slice A44 n44 c44]) (fun _ hS => op_load_agg (off := 0) (by kernel_rfl) agg31 siz31 (hV59.bS 0 rfl hS (by simp only [List.mem_cons, List.not_mem_nil, or_false, not_or]; exact hV59.ne 0 4 rfl rfl (by decide))) rfl rfl) ?_
         refine GD.er (.agg #[.int .i64 so, .slice Ao no co]) (fun _ hS => op_load_agg (off := 0) (by kernel_rfl) agg31 siz31 (hV59.bS 2 rfl hS (by simp only [List.mem_cons, List.not_mem_nil, or_false, not_or]; exact hV59.ne 2 4 rfl rfl (by decide))) rfl rfl) ?_
         refine GD.st (fun _ _ => Mem.st4) (fun _ hM => store_all (cs' := #[.int .i64 s44, .slice A44 n44 c44]) siz31 (hM.b 4 rfl) (by kernel_rfl) (by kernel_rfl) rfl rfl rfl) ?_
         refine GD.st (fun _ _ => Mem.st3) (fun _ hM => store_all (cs' := #[.int .i64 so, .slice Ao no co]) siz31 (hM.b 3 rfl) (by kernel_rfl) (by kernel_rfl) rfl rfl rfl) ?_
         refine GD.k k1 ?_
         refine CG.ret (QG.ret (fun _ hM => results_two rfl (res_cell rfl (loadVar_agg agg31 siz31 (hM.b 4 rfl) rfl rfl)) (res_cell rfl (loadVar_agg agg31 siz31 (hM.b 3 rfl) rfl rfl))) ?_)
         intro _ hM
         exact ⟨_, _, _, _, _, _, _, _, rfl, (((zqB hd0 hs1 hs2 hso hz hB (.inr hc47)).2.2 hc56) ▸ (hM.out (hM.f 0 rfl))), ((zqB hd0 hs1 hs2 hso hz hB (.inr hc47)).1 ▸ (hM.out (hM.f 2 rfl))), hM.below⟩
   · have hk46 : (decide (s1 < (0 : Int))) = false := decide_eq_false hc46
     refine CG.lin 8 ?_
     refine GL.v (.pointer (some ⟨g21, 0, none⟩)) ?_
     refine GL.r (.int .i64 s1) (fun _ hM => op_load_one (off := 0) (by kernel_rfl) agg3 (hM.b 6 rfl) rfl) ?_
     refine GL.v (.bool false) ?_ (hr := fun u => op_b (b := (decide (s1 < (0 : Int)))) (by kernel_rfl) hk46)
     refine GL.v (.bool false) ?_
     refine GL.sk ?_
     refine GL.sk ?_
     refine GL.sk ?_
     refine GL.v (.bool false) ?_
     refine GL.k k2 ?_
     refine CG.no ?_ rfl rfl
     refine CG.skip ?_
     refine QG.k k1 ?_
     refine CG.seq fun K_ k1 => ?_
     refine CG.seq fun K_ k2 => ?_
     refine CG.lin 3 ?_
     refine GL.v (.pointer (some ⟨g22, 0, none⟩)) ?_
     refine GL.r (.int .i64 s2) (fun _ hM => op_load_one (off := 0) (by kernel_rfl) agg3 (hM.b 5 rfl) rfl) ?_
     refine GL.v (.bool (decide (s2 < (0 : Int)))) ?_
     refine GL.k k2 ?_
     by_cases hc60 : s2 < (0 : Int)
     · have hk60 : (decide (s2 < (0 : Int))) = true := decide_eq_true hc60
       refine CG.yes ?_ hk60 rfl
       refine CG.lin 3 ?_
       refine GL.r (.agg #[.int .i64 s44, .slice A44 n44 c44]) (fun _ hM => op_load_agg (off := 0) (by kernel_rfl) agg31 siz31 (hM.b 0 rfl) rfl rfl) ?_
       refine GL.call (fun _ hM => ZNeg_ok hM.avlt (hM.f 0 rfl)) ?_
       rintro _ _ _ hM ⟨s61, A61, n61, c61, rfl, h61, hb⟩
       have hs61 := szg_neg ((s1 * (Q : Int)))
       refine ⟨_, _, _, rfl, (hM.call hb).add h61, ?_⟩
       refine GL.sA (cs' := #[.int .i64 s61, .slice A61 n61 c61]) (fun _ _ => Mem.st0) (fun _ hM => hM.b 0 rfl) siz31 ?_
       refine GL.k k1 ?_
       refine CG.seq fun K_ k1 => ?_
       refine CG.draw [g23] [0, 1] (.step 0 (.step 1 (.step 2 (.step 3 .done)))) (fun V hV62 => ?_)
       refine GD.er (.agg #[.int .i64 s61, .slice A61 n61 c61]) (fun _ hS => op_load_agg (off := 0) (by kernel_rfl) agg31 siz31 (hV62.bS 0 rfl hS (by simp only [List.mem_cons, List.not_mem_nil, or_false, not_or]; exact hV62.ne 0 4 rfl rfl (by decide))) rfl rfl) ?_
       refine GD.er (.agg #[.int .i64 so, .slice Ao no co]) (fun _ hS => op_load_agg (off := 0) (by kernel_rfl) agg31 siz31 (hV62.bS 2 rfl hS (by simp only [List.mem_cons, List.not_mem_nil, or_false, not_or]; exact hV62.ne 2 4 rfl rfl (by decide))) rfl rfl) ?_
       refine GD.st (fun _ _ => Mem.st4) (fun _ hM => store_all (cs' := #[.int .i64 s61, .slice A61 n61 c61]) siz31 (hM.b 4 rfl) (by kernel_rfl) (by kernel_rfl) rfl rfl rfl) ?_
       refine GD.st (fun _ _ => Mem.st3) (fun _ hM => store_all (cs' := #[.int .i64 so, .slice Ao no co]) siz31 (hM.b 3 rfl) (by kernel_rfl) (by kernel_rfl) rfl rfl rfl) ?_
       refine GD.k k1 ?_
       refine CG.ret (QG.ret (fun _ hM => results_two rfl (res_cell rfl (loadVar_agg agg31 siz31 (hM.b 4 rfl) rfl rfl)) (res_cell rfl (loadVar_agg agg31 siz31 (hM.b 3 rfl) rfl rfl))) ?_)
       intro _ hM
       exact ⟨_, _, _, _, _, _, _, _, rfl, (((zqB hd0 hs1 hs2 hso hz hB (.inl hc46)).2.1 hc60) ▸ (hM.out (hM.f 0 rfl))), ((zqB hd0 hs1 hs2 hso hz hB (.inl hc46)).1 ▸ (hM.out (hM.f 3 rfl))), hM.below⟩
     · have hk60 : (decide (s2 < (0 : Int))) = false := decide_eq_false hc60
       refine CG.no ?_ hk60 rfl
       refine CG.skip ?_
       refine QG.k k1 ?_
       refine CG.seq fun K_ k1 => ?_
       refine CG.draw [g23] [0, 1] (.step 0 (.step 1 (.step 2 (.step 3 .done)))) (fun V hV63 => ?_)
       refine GD.er (.agg #[.int .i64 s44, .slice A44 n44 c44]) (fun _ hS => op_load_agg (off := 0) (by kernel_rfl) agg31 siz31 (hV63.bS 0 rfl hS (by simp only [List.mem_cons, List.not_mem_nil, or_false, not_or]; exact hV63.ne 0 4 rfl rfl (by decide))) rfl rfl) ?_
       refine GD.er (.agg #[.int .i64 so, .slice Ao no co]) (fun _ hS => op_load_agg (off := 0) (by kernel_rfl) agg31 siz31 (hV63.bS 2 rfl hS (by simp only [List.mem_cons, List.not_mem_nil, or_false, not_or]; exact hV63.ne 2 4 rfl rfl (by decide))) rfl rfl) ?_
       refine GD.st (fun _ _ => Mem.st4) (fun _ hM => store_all (cs' := #[.int .i64 s44, .slice A44 n44 c44]) siz31 (hM.b 4 rfl) (by kernel_rfl) (by kernel_rfl) rfl rfl rfl) ?_
       refine GD.st (fun _ _ => Mem.st3) (fun _ hM => store_all (cs' := #[.int .i64 so, .slice Ao no co]) siz31 (hM.b 3 rfl) (by kernel_rfl) (by kernel_rfl) rfl rfl rfl) ?_
       refine GD.k k1 ?_
       refine CG.ret (QG.ret (fun _ hM => results_two rfl (res_cell rfl (loadVar_agg agg31 siz31 (hM.b 4 rfl) rfl rfl)) (res_cell rfl (loadVar_agg agg31 siz31 (hM.b 3 rfl) rfl rfl))) ?_)
       intro _ hM
       exact ⟨_, _, _, _, _, _, _, _, rfl, (((zqB hd0 hs1 hs2 hso hz hB (.inl hc46)).2.2 hc60) ▸ (hM.out (hM.f 0 rfl))), ((zqB hd0 hs1 hs2 hso hz hB (.inl hc46)).1 ▸ (hM.out (hM.f 2 rfl))), hM.below⟩

set_option maxRecDepth 100000 in
set_option maxHeartbeats 400000 in
theorem NGcd_ok {w : World} {X : Nat → Prop} {s1 : Int} {A1 : Option Addr} {n1 : Nat} {c1 : Nat} {a : Int} {s2 : Int} {A2 : Option Addr} {n2 : Nat} {c2 : Nat} {b : Int} (hX : ∀ k, X k → k < w.heap.size) (h1 : NZk.R X w [.int .i64 s1, .slice A1 n1 c1] a) (h2 : NZk.R X w [.int .i64 s2, .slice A2 n2 c2] b) (p1 : szg a + szg b ≤ 1073740000) :
    Calls Tryz.prog 16 #[.agg #[.int .i64 s1, .slice A1 n1 c1], .agg #[.int .i64 s2, .slice A2 n2 c2]] w (fun e w' => ∃ sr Ar nr cr, e = .returned (.agg #[.int .i64 sr, .slice Ar nr cr]) ∧ NZk.R X w' [.int .i64 sr, .slice Ar nr cr] (Int.gcd a b : Int) ∧ Below w.heap.size w w') := by
 have hM := ((Mem.start hX).add0 h1).add0 h2
 have hga := szg_abs a
 have hgb := szg_abs b
 refine calls_of hM Tryz.func16 Tryz.ntmps16 ?_
 refine CG.seq fun K_ k1 => ?_
 refine CG.lin 3 ?_
 refine GL.bA #[.int .i64 s1, .slice A1 n1 c1] fun g21 => ?_
 refine GL.bA #[.int .i64 s2, .slice A2 n2 c2] fun g22 => ?_
 refine GL.aA zer31 fun g23 => ?_
 refine GL.k k1 ?_
 refine CG.seq fun K_ k1 => ?_
 refine CG.draw [] [0, 2] (.step 0 (.step 2 (.step 1 (.step 3 (.step 4 (.step 5 .done)))))) (fun V hV24 => ?_)
 refine GD.er (.agg #[.int .i64 s1, .slice A1 n1 c1]) (fun _ hS => op_load_agg (off := 0) (by kernel_rfl) agg31 siz31 (hV24.bS 2 rfl hS) rfl rfl) ?_
 refine GD.er (.agg #[.int .i64 s2, .slice A2 n2 c2]) (fun _ hS => op_load_agg (off := 0) (by kernel_rfl) agg31 siz31 (hV24.bS 1 rfl hS) rfl rfl) ?_
 refine GD.call (fun _ hM => NZAbs_ok hM.avlt (hM.f 1 rfl)) ?_
 rintro _ _ _ hM ⟨s25, A25, n25, c25, rfl, h25, hb⟩
 have hs25 := szg_abs a
 refine ⟨_, _, _, rfl, hb, (hM.call hb).add h25, ?_⟩
 refine GD.call (fun _ hM => NZAbs_ok hM.avlt (hM.f 1 rfl)) ?_
 rintro _ _ _ hM ⟨s26, A26, n26, c26, rfl, h26, hb⟩
 have hs26 := szg_abs b
 refine ⟨_, _, _, rfl, hb, (hM.call hb).add h26, ?_⟩
 refine GD.st (fun _ _ => Mem.st2) (fun _ hM => store_all (cs' := #[.int .i64 s25, .slice A25 n25 c25]) siz31 (hM.b 2 rfl) (by kernel_rfl) (by kernel_rfl) rfl rfl rfl) ?_
 refine GD.st (fun _ _ => Mem.st1) (fun _ hM => store_all (cs' := #[.int .i64 s26, .slice A26 n26 c26]) siz31 (hM.b 1 rfl) (by kernel_rfl) (by kernel_rfl) rfl rfl rfl) ?_
 refine GD.k k1 ?_
 refine CG.seq fun K_ k1 => ?_
 refine CG.block ?_
 refine CG.loop (fun m_ a_ u_ => ∃ (sp : Int) (Ap : Option Addr) (np : Nat) (cp : Nat) (p : Int) (sq : Int) (Aq : Option Addr) (nq : Nat) (cq : Nat) (q : Int) (j27 : Nat → Value), a_ = ⟨#[.agg #[.int .i64 s1, .slice A1 n1 c1], .agg #[.int .i64 s2, .slice A2 n2 c2], .pointer (some ⟨g21, 0, none⟩), .pointer (some ⟨g22, 0, none⟩), .pointer (some ⟨g23, 0, none⟩), (j27 5), (j27 6), (j27 7), (j27 8), .agg #[.int .i64 s1, .slice A1 n1 c1], .agg #[.int .i64 s25, .slice A25 n25 c25], .agg #[.int .i64 s2, .slice A2 n2 c2], .agg #[.int .i64 s26, .slice A26 n26 c26], (j27 13), (j27 14), (j27 15), (j27 16), (j27 17), (j27 18), (j27 19), (j27 20), (j27 21), (j27 22), (j27 23), (j27 24), (j27 25), (j27 26), (j27 27), (j27 28), (j27 29), (j27 30), (j27 31), (j27 32), (j27 33), (j27 34), (j27 35), (j27 36), (j27 37), (j27 38), (j27 39), (j27 40), (j27 41), (j27 42), (j27 43), (j27 44), (j27 45), undef], []⟩ ∧ m_ = q.natAbs ∧ Mem w [] X u_ [.box g23 #[.int .i64 0, .slice none 0 0] 31, .box g22 #[.int .i64 sq, .slice Aq nq cq] 31, .box g21 #[.int .i64 sp, .slice Ap np cp] 31] [⟨NZk, [.int .i64 sp, .slice Ap np cp], p⟩, ⟨NZk, [.int .i64 sq, .slice Aq nq cq], q⟩, ⟨NZk, [.int .i64 s26, .slice A26 n26 c26], (b.natAbs : Int)⟩, ⟨NZk, [.int .i64 s25, .slice A25 n25 c25], (a.natAbs : Int)⟩, ⟨NZk, [.int .i64 s2, .slice A2 n2 c2], b⟩, ⟨NZk, [.int .i64 s1, .slice A1 n1 c1], a⟩] ∧ (Int.gcd p q = Int.gcd a b) ∧ (0 ≤ p ∧ 0 ≤ q) ∧ (szg p ≤ szg a + szg b ∧ szg q ≤ szg a + szg b)) (fun _ hM => ⟨_, s25, A25, n25, c25, (a.natAbs : Int), s26, A26, n26, c26, (b.natAbs : Int), (fun t => (#[.agg #[.int .i64 s1, .slice A1 n1 c1], .agg #[.int .i64 s2, .slice A2 n2 c2], .pointer (some ⟨g21, 0, none⟩), .pointer (some ⟨g22, 0, none⟩), .pointer (some ⟨g23, 0, none⟩), undef, undef, undef, undef, .agg #[.int .i64 s1, .slice A1 n1 c1], .agg #[.int .i64 s25, .slice A25 n25 c25], .agg #[.int .i64 s2, .slice A2 n2 c2], .agg #[.int .i64 s26, .slice A26 n26 c26], undef, undef, undef, undef, undef, undef, undef, undef, undef, undef, undef, undef, undef, undef, undef, undef, undef, undef, undef, undef, undef, undef, undef, undef, undef, undef, undef, undef, undef, undef, undef, undef, undef, undef] : Array Value).getD t undef), (by kernel_rfl), rfl, ((((((hM.clr).add (hM.f 3 rfl)).add (hM.f 2 rfl)).add (hM.f 1 rfl)).add (hM.f 0 rfl)).add (hM.f 0 rfl)).add (hM.f 1 rfl), rfl, (by omega), (by omega)⟩) ?_
 rintro m_ a_ u_ ⟨sp, Ap, np, cp, p, sq, Aq, nq, cq, q, j27, rfl, hm27, hM, hG, h0, hsz⟩
 have hsp := NZk.sgn (hM.f 0 rfl)
 have hsq := NZk.sgn (hM.f 1 rfl)
 have hzp := NZk.szg (hM.f 0 rfl)
 have hzq := NZk.szg (hM.f 1 rfl)
 refine CG.go hM ?_
 refine CG.seq fun K_ k2 => ?_
 refine CG.seq fun K_ k3 => ?_
 refine CG.lin 3 ?_
 refine GL.v (.pointer (some ⟨g22, 0, none⟩)) ?_
 refine GL.r (.int .i64 sq) (fun _ hM => op_load_one (off := 0) (by kernel_rfl) agg3 (hM.b 1 rfl) rfl) ?_
 refine GL.v (.bool (sq != (0 : Int))) ?_
 refine GL.k k3 ?_
 by_cases hc28 : sq ≠ (0 : Int)
 · have hk28 : (sq != (0 : Int)) = true := bne_iff_ne.2 hc28
   refine CG.yes ?_ hk28 rfl
   refine CG.skip ?_
   refine QG.k k2 ?_
   refine CG.block ?_
   refine CG.seq fun K_ k2 => ?_
   refine CG.seq fun K_ k3 => ?_
   by_cases hc29 : (np : Int) ≤ (4 : Int)
   · have hk29 : (decide ((np : Int) ≤ (4 : Int))) = true := decide_eq_true hc29
     by_cases hc30 : (nq : Int) ≤ (4 : Int)
     · have hk30 : (decide ((nq : Int) ≤ (4 : Int))) = true := decide_eq_true hc30
       refine CG.lin 10 ?_
       refine GL.v (.pointer (some ⟨g21, 1, none⟩)) ?_
       refine GL.r (.slice Ap np cp) (fun _ hM => op_load_one (off := 1) (by kernel_rfl) agg29 (hM.b 2 rfl) rfl) ?_
       refine GL.v (.int .i64 (np : Int)) ?_
       refine GL.v (.bool true) ?_ (hr := fun u => op_b (b := (decide ((np : Int) ≤ (4 : Int)))) (by kernel_rfl) hk29)
       refine GL.v (.bool true) ?_
       refine GL.v (.pointer (some ⟨g22, 1, none⟩)) ?_
       refine GL.r (.slice Aq nq cq) (fun _ hM => op_load_one (off := 1) (by kernel_rfl) agg29 (hM.b 1 rfl) rfl) ?_
       refine GL.v (.int .i64 (nq : Int)) ?_
       refine GL.v (.bool true) ?_ (hr := fun u => op_b (b := (decide ((nq : Int) ≤ (4 : Int)))) (by kernel_rfl) hk30)
       refine GL.v (.bool true) ?_
       refine GL.k k3 ?_
       refine CG.yes ?_ rfl rfl
       refine CG.seq fun K_ k3 => ?_
       refine CG.draw [] [0, 2] (.step 0 (.step 2 (.step 1 (.step 3 (.step 4 (.step 5 .done)))))) (fun V hV31 => ?_)
       refine GD.er (.agg #[.int .i64 sp, .slice Ap np cp]) (fun _ hS => op_load_agg (off := 0) (by kernel_rfl) agg31 siz31 (hV31.bS 2 rfl hS) rfl rfl) ?_
       refine GD.er (.agg #[.int .i64 sq, .slice Aq nq cq]) (fun _ hS => op_load_agg (off := 0) (by kernel_rfl) agg31 siz31 (hV31.bS 1 rfl hS) rfl rfl) ?_
       have hps := ng_small (z := p) h0.1 (by omega)
       have hqs := ng_small (z := q) h0.2 (by omega)
       refine GD.call (fun _ hM => value_ok hM.avlt (hM.f 0 rfl) (by first | assumption | omega)) ?_
       rintro _ _ _ hM ⟨rfl, hb⟩
       refine ⟨_, _, _, rfl, hb, hM.call hb, ?_⟩
       refine GD.call (fun _ hM => value_ok hM.avlt (hM.f 1 rfl) (by first | assumption | omega)) ?_
       rintro _ _ _ hM ⟨rfl, hb⟩
       refine ⟨_, _, _, rfl, hb, hM.call hb, ?_⟩
       refine GD.v (.int .i64 p) ?_
       refine GD.v (.int .i64 q) ?_
       refine GD.k k3 ?_
       refine CG.seq fun K_ k3 => ?_
       refine CG.block ?_
       refine CG.loop (fun m_ a_ u_ => ∃ (x : Int) (y : Int) (j34 : Nat → Value), a_ = ⟨#[.agg #[.int .i64 s1, .slice A1 n1 c1], .agg #[.int .i64 s2, .slice A2 n2 c2], .pointer (some ⟨g21, 0, none⟩), .pointer (some ⟨g22, 0, none⟩), .pointer (some ⟨g23, 0, none⟩), .int .i64 x, .int .i64 y, (j27 7), (j27 8), .agg #[.int .i64 s1, .slice A1 n1 c1], .agg #[.int .i64 s25, .slice A25 n25 c25], .agg #[.int .i64 s2, .slice A2 n2 c2], .agg #[.int .i64 s26, .slice A26 n26 c26], .pointer (some ⟨g22, 0, none⟩), .int .i64 sq, .bool (sq != (0 : Int)), .pointer (some ⟨g21, 1, none⟩), .slice Ap np cp, .int .i64 (np : Int), .bool true, .bool true, .pointer (some ⟨g22, 1, none⟩), .slice Aq nq cq, .int .i64 (nq : Int), .bool true, .bool true, .agg #[.int .i64 sp, .slice Ap np cp], .int .i64 p, .agg #[.int .i64 sq, .slice Aq nq cq], .int .i64 q, (j34 30), (j34 31), (j34 32), (j34 33), (j34 34), (j34 35), (j27 36), (j27 37), (j27 38), (j27 39), (j27 40), (j27 41), (j27 42), (j27 43), (j27 44), (j27 45), undef], []⟩ ∧ m_ = y.toNat ∧ Mem w [] X u_ [.box g23 #[.int .i64 0, .slice none 0 0] 31, .box g22 #[.int .i64 sq, .slice Aq nq cq] 31, .box g21 #[.int .i64 sp, .slice Ap np cp] 31] [⟨NZk, [.int .i64 sp, .slice Ap np cp], p⟩, ⟨NZk, [.int .i64 sq, .slice Aq nq cq], q⟩, ⟨NZk, [.int .i64 s26, .slice A26 n26 c26], (b.natAbs : Int)⟩, ⟨NZk, [.int .i64 s25, .slice A25 n25 c25], (a.natAbs : Int)⟩, ⟨NZk, [.int .i64 s2, .slice A2 n2 c2], b⟩, ⟨NZk, [.int .i64 s1, .slice A1 n1 c1], a⟩] ∧ (0 ≤ x ∧ 0 ≤ y ∧ x ≤ 9999999999999999 ∧ y ≤ 9999999999999999) ∧ (Int.gcd x y = Int.gcd a b)) (fun _ hM => ⟨_, p, q, (fun t => (#[.agg #[.int .i64 s1, .slice A1 n1 c1], .agg #[.int .i64 s2, .slice A2 n2 c2], .pointer (some ⟨g21, 0, none⟩), .pointer (some ⟨g22, 0, none⟩), .pointer (some ⟨g23, 0, none⟩), .int .i64 p, .int .i64 q, (j27 7), (j27 8), .agg #[.int .i64 s1, .slice A1 n1 c1], .agg #[.int .i64 s25, .slice A25 n25 c25], .agg #[.int .i64 s2, .slice A2 n2 c2], .agg #[.int .i64 s26, .slice A26 n26 c26], .pointer (some ⟨g22, 0, none⟩), .int .i64 sq, .bool (sq != (0 : Int)), .pointer (some ⟨g21, 1, none⟩), .slice Ap np cp, .int .i64 (np : Int), .bool true, .bool true, .pointer (some ⟨g22, 1, none⟩), .slice Aq nq cq, .int .i64 (nq : Int), .bool true, .bool true, .agg #[.int .i64 sp, .slice Ap np cp], .int .i64 p, .agg #[.int .i64 sq, .slice Aq nq cq], .int .i64 q, (j27 30), (j27 31), (j27 32), (j27 33), (j27 34), (j27 35), (j27 36), (j27 37), (j27 38), (j27 39), (j27 40), (j27 41), (j27 42), (j27 43), (j27 44), (j27 45), undef] : Array Value).getD t undef), (by kernel_rfl), rfl, ((((((hM.clr).add (hM.f 5 rfl)).add (hM.f 4 rfl)).add (hM.f 3 rfl)).add (hM.f 2 rfl)).add (hM.f 1 rfl)).add (hM.f 0 rfl), (by omega), hG⟩) ?_
       rintro m_ a_ u_ ⟨x, y, j34, rfl, hm34, hM, hxy, hG2⟩
       refine CG.go hM ?_
       refine CG.seq fun K_ k4 => ?_
       refine CG.seq fun K_ k5 => ?_
       refine CG.lin 2 ?_
       refine GL.v (.int .i64 y) ?_
       refine GL.v (.bool (y != (0 : Int))) ?_
       refine GL.k k5 ?_
       by_cases hc35 : y ≠ (0 : Int)
       · have hk35 : (y != (0 : Int)) = true := bne_iff_ne.2 hc35
         refine CG.yes ?_ hk35 rfl
         refine CG.skip ?_
         refine QG.k k4 ?_
         refine CG.block ?_
         refine CG.draw [] [0, 1, 2, 3] (.step 0 (.step 1 (.step 2 (.step 3 (.step 4 (.step 5 .done)))))) (fun V hV36 => ?_)
         refine GD.ev (.int .i64 y) ?_
         refine GD.ev (.int .i64 x) ?_
         refine GD.ev (.int .i64 y) ?_
         refine GD.ev (.int .i64 (x % y)) ?_ (hr := fun u => op_to (op_rem (k := .i64) (x := x) (y := y) (by kernel_rfl) (by kernel_rfl) (by omega) u) (rem_to .i64 rfl (by omega)))
         refine GD.v (.int .i64 y) ?_
         refine GD.v (.int .i64 (x % y)) ?_
         refine GD.q ?_
         refine QG.block ?_
         refine QG.again fun _ hM => ?_
         have hml := Int.emod_lt_of_pos x (show 0 < y by omega)
         have hmn := Int.emod_nonneg x (show y ≠ 0 by omega)
         exact ⟨(x % y).toNat, (by omega), y, (x % y), (fun t => (#[.agg #[.int .i64 s1, .slice A1 n1 c1], .agg #[.int .i64 s2, .slice A2 n2 c2], .pointer (some ⟨g21, 0, none⟩), .pointer (some ⟨g22, 0, none⟩), .pointer (some ⟨g23, 0, none⟩), .int .i64 y, .int .i64 (x % y), (j27 7), (j27 8), .agg #[.int .i64 s1, .slice A1 n1 c1], .agg #[.int .i64 s25, .slice A25 n25 c25], .agg #[.int .i64 s2, .slice A2 n2 c2], .agg #[.int .i64 s26, .slice A26 n26 c26], .pointer (some ⟨g22, 0, none⟩), .int .i64 sq, .bool (sq != (0 : Int)), .pointer (some ⟨g21, 1, none⟩), .slice Ap np cp, .int .i64 (np : Int), .bool true, .bool true, .pointer (some ⟨g22, 1, none⟩), .slice Aq nq cq, .int .i64 (nq : Int), .bool true, .bool true, .agg #[.int .i64 sp, .slice Ap np cp], .int .i64 p, .agg #[.int .i64 sq, .slice Aq nq cq], .int .i64 q, .int .i64 y, .bool (y != (0 : Int)), .int .i64 y, .int .i64 x, .int .i64 y, .int .i64 (x % y), (j27 36), (j27 37), (j27 38), (j27 39), (j27 40), (j27 41), (j27 42), (j27 43), (j27 44), (j27 45), undef] : Array Value).getD t undef), (by kernel_rfl), rfl, ((((((hM.clr).add (hM.f 5 rfl)).add (hM.f 4 rfl)).add (hM.f 3 rfl)).add (hM.f 2 rfl)).add (hM.f 1 rfl)).add (hM.f 0 rfl), (by omega), (by rw [← hG2]; exact ng_step hxy.1 hxy.2.1)⟩
       · have hk35 : (y != (0 : Int)) = false := by simpa using hc35
         refine CG.no ?_ hk35 rfl
         refine CG.exit (QG.then_exit (QG.then_exit (QG.here ?_)))
         refine QG.k k3 ?_
         refine CG.seq fun K_ k3 => ?_
         refine CG.lin 3 ?_
         refine GL.v (.int .i64 x) ?_
         refine GL.call (fun _ hM => ZInt_ok hM.avlt x (by first | assumption | omega)) ?_
         rintro _ _ _ hM ⟨s37, A37, n37, c37, rfl, h37, hb⟩
         have hs37 := szg_i64 x (by omega)
         refine ⟨_, _, _, rfl, (hM.call hb).add h37, ?_⟩
         refine GL.sA (cs' := #[.int .i64 s37, .slice A37 n37 c37]) (fun _ _ => Mem.st0) (fun _ hM => hM.b 0 rfl) siz31 ?_
         refine GL.k k3 ?_
         refine CG.ret (QG.then_ret (QG.block_ret (QG.then_ret (QG.block_ret (QG.then_ret (QG.ret (fun _ hM => results_one rfl (res_cell rfl (loadVar_agg agg31 siz31 (hM.b 0 rfl) rfl rfl))) ?_))))))
         intro _ hM
         exact ⟨_, _, _, _, rfl, ((ng_done hG2 (by omega) (by omega)) ▸ (hM.out (hM.f 0 rfl))), hM.below⟩
     · have hk30 : (decide ((nq : Int) ≤ (4 : Int))) = false := decide_eq_false hc30
       refine CG.lin 10 ?_
       refine GL.v (.pointer (some ⟨g21, 1, none⟩)) ?_
       refine GL.r (.slice Ap np cp) (fun _ hM => op_load_one (off := 1) (by kernel_rfl) agg29 (hM.b 2 rfl) rfl) ?_
       refine GL.v (.int .i64 (np : Int)) ?_
       refine GL.v (.bool true) ?_ (hr := fun u => op_b (b := (decide ((np : Int) ≤ (4 : Int)))) (by kernel_rfl) hk29)
       refine GL.v (.bool true) ?_
       refine GL.v (.pointer (some ⟨g22, 1, none⟩)) ?_
       refine GL.r (.slice Aq nq cq) (fun _ hM => op_load_one (off := 1) (by kernel_rfl) agg29 (hM.b 1 rfl) rfl) ?_
       refine GL.v (.int .i64 (nq : Int)) ?_
       refine GL.v (.bool false) ?_ (hr := fun u => op_b (b := (decide ((nq : Int) ≤ (4 : Int)))) (by kernel_rfl) hk30)
       refine GL.v (.bool false) ?_
       refine GL.k k3 ?_
       refine CG.no ?_ rfl rfl
       refine CG.skip ?_
       refine QG.k k2 ?_
       refine CG.seq fun K_ k2 => ?_
       refine CG.lin 10 ?_
       refine GL.r (.agg #[.int .i64 sp, .slice Ap np cp]) (fun _ hM => op_load_agg (off := 0) (by kernel_rfl) agg31 siz31 (hM.b 2 rfl) rfl rfl) ?_
       refine GL.r (.agg #[.int .i64 sq, .slice Aq nq cq]) (fun _ hM => op_load_agg (off := 0) (by kernel_rfl) agg31 siz31 (hM.b 1 rfl) rfl rfl) ?_
       have hq0 := ng_nz hsq (by assumption)
       have hlt := ng_lt h0.1 h0.2 hq0
       have hsr := szg_rem p q hq0
       refine GL.call (fun _ hM => NQuotient_ok hM.avlt (hM.f 0 rfl) (hM.f 1 rfl) (by first | assumption | omega) (by first | assumption | omega)) ?_
       rintro _ _ _ hM ⟨s38a, A38a, n38a, c38a, s38b, A38b, n38b, c38b, rfl, h38a, h38b, hb⟩
       have hs38 := szg_quo p q
       have ht38 := szg_rem2 p q
       refine ⟨_, _, _, rfl, ((hM.call hb).add h38a).add h38b, ?_⟩
       refine GL.v (.tuple #[.agg #[.int .i64 s38a, .slice A38a n38a c38a], .agg #[.int .i64 s38b, .slice A38b n38b c38b]]) ?_
       refine GL.v (.agg #[.int .i64 s38a, .slice A38a n38a c38a]) ?_
       refine GL.v (.agg #[.int .i64 s38b, .slice A38b n38b c38b]) ?_
       refine GL.aA zer31 fun g39 => ?_
       refine GL.aA zer31 fun g40 => ?_
       refine GL.sA (cs' := #[.int .i64 s38a, .slice A38a n38a c38a]) (fun _ _ => Mem.st1) (fun _ hM => hM.b 1 rfl) siz31 ?_
       refine GL.sA (cs' := #[.int .i64 s38b, .slice A38b n38b c38b]) (fun _ _ => Mem.st0) (fun _ hM => hM.b 0 rfl) siz31 ?_
       refine GL.k k2 ?_
       refine CG.draw [g21] [0, 1] (.step 0 (.step 1 (.step 2 (.step 3 .done)))) (fun V hV41 => ?_)
       refine GD.er (.agg #[.int .i64 sq, .slice Aq nq cq]) (fun _ hS => op_load_agg (off := 0) (by kernel_rfl) agg31 siz31 (hV41.bS 3 rfl hS (by simp only [List.mem_cons, List.not_mem_nil, or_false, not_or]; exact hV41.ne 3 4 rfl rfl (by decide))) rfl rfl) ?_
       refine GD.er (.agg #[.int .i64 s38b, .slice A38b n38b c38b]) (fun _ hS => op_load_agg (off := 0) (by kernel_rfl) agg31 siz31 (hV41.bS 0 rfl hS (by simp only [List.mem_cons, List.not_mem_nil, or_false, not_or]; exact hV41.ne 0 4 rfl rfl (by decide))) rfl rfl) ?_
       refine GD.st (fun _ _ => Mem.st4) (fun _ hM => store_all (cs' := #[.int .i64 sq, .slice Aq nq cq]) siz31 (hM.b 4 rfl) (by kernel_rfl) (by kernel_rfl) rfl rfl rfl) ?_
       refine GD.st (fun _ _ => Mem.st3) (fun _ hM => store_all (cs' := #[.int .i64 s38b, .slice A38b n38b c38b]) siz31 (hM.b 3 rfl) (by kernel_rfl) (by kernel_rfl) rfl rfl rfl) ?_
       refine GD.q ?_
       refine QG.block ?_
       refine QG.again fun _ hM => ?_
       exact ⟨(p % q).natAbs, (by omega), sq, Aq, nq, cq, q, s38b, A38b, n38b, c38b, (p % q), (fun t => (#[.agg #[.int .i64 s1, .slice A1 n1 c1], .agg #[.int .i64 s2, .slice A2 n2 c2], .pointer (some ⟨g21, 0, none⟩), .pointer (some ⟨g22, 0, none⟩), .pointer (some ⟨g23, 0, none⟩), (j27 5), (j27 6), .pointer (some ⟨g39, 0, none⟩), .pointer (some ⟨g40, 0, none⟩), .agg #[.int .i64 s1, .slice A1 n1 c1], .agg #[.int .i64 s25, .slice A25 n25 c25], .agg #[.int .i64 s2, .slice A2 n2 c2], .agg #[.int .i64 s26, .slice A26 n26 c26], .pointer (some ⟨g22, 0, none⟩), .int .i64 sq, .bool (sq != (0 : Int)), .pointer (some ⟨g21, 1, none⟩), .slice Ap np cp, .int .i64 (np : Int), .bool true, .bool true, .pointer (some ⟨g22, 1, none⟩), .slice Aq nq cq, .int .i64 (nq : Int), .bool false, .bool false, (j27 26), (j27 27), (j27 28), (j27 29), (j27 30), (j27 31), (j27 32), (j27 33), (j27 34), (j27 35), (j27 36), (j27 37), .tuple #[.agg #[.int .i64 s38a, .slice A38a n38a c38a], .agg #[.int .i64 s38b, .slice A38b n38b c38b]], .agg #[.int .i64 sp, .slice Ap np cp], .agg #[.int .i64 sq, .slice Aq nq cq], .tuple #[.agg #[.int .i64 s38a, .slice A38a n38a c38a], .agg #[.int .i64 s38b, .slice A38b n38b c38b]], .agg #[.int .i64 s38a, .slice A38a n38a c38a], .agg #[.int .i64 s38b, .slice A38b n38b c38b], .agg #[.int .i64 sq, .slice Aq nq cq], .agg #[.int .i64 s38b, .slice A38b n38b c38b], undef] : Array Value).getD t undef), (by kernel_rfl), rfl, (((((((hM.dropn 2).clr).add ((hM.dropn 2).f 7 rfl)).add ((hM.dropn 2).f 6 rfl)).add ((hM.dropn 2).f 5 rfl)).add ((hM.dropn 2).f 4 rfl)).add ((hM.dropn 2).f 0 rfl)).add ((hM.dropn 2).f 3 rfl), (by rw [← hG]; exact ng_step h0.1 h0.2), ⟨h0.2, hlt.2⟩, (by omega)⟩
   · have hk29 : (decide ((np : Int) ≤ (4 : Int))) = false := decide_eq_false hc29
     refine CG.lin 10 ?_
     refine GL.v (.pointer (some ⟨g21, 1, none⟩)) ?_
     refine GL.r (.slice Ap np cp) (fun _ hM => op_load_one (off := 1) (by kernel_rfl) agg29 (hM.b 2 rfl) rfl) ?_
     refine GL.v (.int .i64 (np : Int)) ?_
     refine GL.v (.bool false) ?_ (hr := fun u => op_b (b := (decide ((np : Int) ≤ (4 : Int)))) (by kernel_rfl) hk29)
     refine GL.v (.bool false) ?_
     refine GL.sk ?_
     refine GL.sk ?_
     refine GL.sk ?_
     refine GL.sk ?_
     refine GL.v (.bool false) ?_
     refine GL.k k3 ?_
     refine CG.no ?_ rfl rfl
     refine CG.skip ?_
     refine QG.k k2 ?_
     refine CG.seq fun K_ k2 => ?_
     refine CG.lin 10 ?_
     refine GL.r (.agg #[.int .i64 sp, .slice Ap np cp]) (fun _ hM => op_load_agg (off := 0) (by kernel_rfl) agg31 siz31 (hM.b 2 rfl) rfl rfl) ?_
     refine GL.r (.agg #[.int .i64 sq, .slice Aq nq cq]) (fun _ hM => op_load_agg (off := 0) (by kernel_rfl) agg31 siz31 (hM.b 1 rfl) rfl rfl) ?_
     have hq0 := ng_nz hsq (by assumption)
     have hlt := ng_lt h0.1 h0.2 hq0
     have hsr := szg_rem p q hq0
     refine GL.call (fun _ hM => NQuotient_ok hM.avlt (hM.f 0 rfl) (hM.f 1 rfl) (by first | assumption | omega) (by first | assumption | omega)) ?_
     rintro _ _ _ hM ⟨s42a, A42a, n42a, c42a, s42b, A42b, n42b, c42b, rfl, h42a, h42b, hb⟩
     have hs42 := szg_quo p q
     have ht42 := szg_rem2 p q
     refine ⟨_, _, _, rfl, ((hM.call hb).add h42a).add h42b, ?_⟩
     refine GL.v (.tuple #[.agg #[.int .i64 s42a, .slice A42a n42a c42a], .agg #[.int .i64 s42b, .slice A42b n42b c42b]]) ?_
     refine GL.v (.agg #[.int .i64 s42a, .slice A42a n42a c42a]) ?_
     refine GL.v (.agg #[.int .i64 s42b, .slice A42b n42b c42b]) ?_
     refine GL.aA zer31 fun g43 => ?_
     refine GL.aA zer31 fun g44 => ?_
     refine GL.sA (cs' := #[.int .i64 s42a, .slice A42a n42a c42a]) (fun _ _ => Mem.st1) (fun _ hM => hM.b 1 rfl) siz31 ?_
     refine GL.sA (cs' := #[.int .i64 s42b, .slice A42b n42b c42b]) (fun _ _ => Mem.st0) (fun _ hM => hM.b 0 rfl) siz31 ?_
     refine GL.k k2 ?_
     refine CG.draw [g21] [0, 1] (.step 0 (.step 1 (.step 2 (.step 3 .done)))) (fun V hV45 => ?_)
     refine GD.er (.agg #[.int .i64 sq, .slice Aq nq cq]) (fun _ hS => op_load_agg (off := 0) (by kernel_rfl) agg31 siz31 (hV45.bS 3 rfl hS (by simp only [List.mem_cons, List.not_mem_nil, or_false, not_or]; exact hV45.ne 3 4 rfl rfl (by decide))) rfl rfl) ?_
     refine GD.er (.agg #[.int .i64 s42b, .slice A42b n42b c42b]) (fun _ hS => op_load_agg (off := 0) (by kernel_rfl) agg31 siz31 (hV45.bS 0 rfl hS (by simp only [List.mem_cons, List.not_mem_nil, or_false, not_or]; exact hV45.ne 0 4 rfl rfl (by decide))) rfl rfl) ?_
     refine GD.st (fun _ _ => Mem.st4) (fun _ hM => store_all (cs' := #[.int .i64 sq, .slice Aq nq cq]) siz31 (hM.b 4 rfl) (by kernel_rfl) (by kernel_rfl) rfl rfl rfl) ?_
     refine GD.st (fun _ _ => Mem.st3) (fun _ hM => store_all (cs' := #[.int .i64 s42b, .slice A42b n42b c42b]) siz31 (hM.b 3 rfl) (by kernel_rfl) (by kernel_rfl) rfl rfl rfl) ?_
     refine GD.q ?_
     refine QG.block ?_
     refine QG.again fun _ hM => ?_
     exact ⟨(p % q).natAbs, (by omega), sq, Aq, nq, cq, q, s42b, A42b, n42b, c42b, (p % q), (fun t => (#[.agg #[.int .i64 s1, .slice A1 n1 c1], .agg #[.int .i64 s2, .slice A2 n2 c2], .pointer (some ⟨g21, 0, none⟩), .pointer (some ⟨g22, 0, none⟩), .pointer (some ⟨g23, 0, none⟩), (j27 5), (j27 6), .pointer (some ⟨g43, 0, none⟩), .pointer (some ⟨g44, 0, none⟩), .agg #[.int .i64 s1, .slice A1 n1 c1], .agg #[.int .i64 s25, .slice A25 n25 c25], .agg #[.int .i64 s2, .slice A2 n2 c2], .agg #[.int .i64 s26, .slice A26 n26 c26], .pointer (some ⟨g22, 0, none⟩), .int .i64 sq, .bool (sq != (0 : Int)), .pointer (some ⟨g21, 1, none⟩), .slice Ap np cp, .int .i64 (np : Int), .bool false, .bool false, undef, undef, undef, undef, .bool false, (j27 26), (j27 27), (j27 28), (j27 29), (j27 30), (j27 31), (j27 32), (j27 33), (j27 34), (j27 35), (j27 36), (j27 37), .tuple #[.agg #[.int .i64 s42a, .slice A42a n42a c42a], .agg #[.int .i64 s42b, .slice A42b n42b c42b]], .agg #[.int .i64 sp, .slice Ap np cp], .agg #[.int .i64 sq, .slice Aq nq cq], .tuple #[.agg #[.int .i64 s42a, .slice A42a n42a c42a], .agg #[.int .i64 s42b, .slice A42b n42b c42b]], .agg #[.int .i64 s42a, .slice A42a n42a c42a], .agg #[.int .i64 s42b, .slice A42b n42b c42b], .agg #[.int .i64 sq, .slice Aq nq cq], .agg #[.int .i64 s42b, .slice A42b n42b c42b], undef] : Array Value).getD t undef), (by kernel_rfl), rfl, (((((((hM.dropn 2).clr).add ((hM.dropn 2).f 7 rfl)).add ((hM.dropn 2).f 6 rfl)).add ((hM.dropn 2).f 5 rfl)).add ((hM.dropn 2).f 4 rfl)).add ((hM.dropn 2).f 0 rfl)).add ((hM.dropn 2).f 3 rfl), (by rw [← hG]; exact ng_step h0.1 h0.2), ⟨h0.2, hlt.2⟩, (by omega)⟩
 · have hk28 : (sq != (0 : Int)) = false := by simpa using hc28
   refine CG.no ?_ hk28 rfl
   refine CG.exit (QG.then_exit (QG.then_exit (QG.here ?_)))
   refine QG.k k1 ?_
   refine CG.seq fun K_ k1 => ?_
   refine CG.lin 2 ?_
   refine GL.r (.agg #[.int .i64 sp, .slice Ap np cp]) (fun _ hM => op_load_agg (off := 0) (by kernel_rfl) agg31 siz31 (hM.b 2 rfl) rfl rfl) ?_
   refine GL.sA (cs' := #[.int .i64 sp, .slice Ap np cp]) (fun _ _ => Mem.st0) (fun _ hM => hM.b 0 rfl) siz31 ?_
   refine GL.k k1 ?_
   refine CG.ret (QG.ret (fun _ hM => results_one rfl (res_cell rfl (loadVar_agg agg31 siz31 (hM.b 0 rfl) rfl rfl))) ?_)
   intro _ hM
   exact ⟨_, _, _, _, rfl, ((ng_done hG (ng_z hsq (by assumption)) h0.1) ▸ (hM.out (hM.f 0 rfl))), hM.below⟩

set_option maxRecDepth 100000 in
set_option maxHeartbeats 400000 in
theorem NOfZ_ok {w : World} {X : Nat → Prop} {s1 : Int} {A1 : Option Addr} {n1 : Nat} {c1 : Nat} {n : Int} {s2 : Int} {A2 : Option Addr} {n2 : Nat} {c2 : Nat} {d : Int} (hX : ∀ k, X k → k < w.heap.size) (h1 : NZk.R X w [.int .i64 s1, .slice A1 n1 c1] n) (h2 : NZk.R X w [.int .i64 s2, .slice A2 n2 c2] d) (p1 : d ≠ 0) (p2 : szg n + szg d ≤ 1073740000) :
    Calls Tryz.prog 55 #[.agg #[.int .i64 s1, .slice A1 n1 c1], .agg #[.int .i64 s2, .slice A2 n2 c2]] w (fun e w' => ∃ sr Ar nr cr sr_ Ar_ nr_ cr_, e = .returned (.agg #[.int .i64 sr, .slice Ar nr cr, .int .i64 sr_, .slice Ar_ nr_ cr_]) ∧ NRk.R X w' [.int .i64 sr, .slice Ar nr cr, .int .i64 sr_, .slice Ar_ nr_ cr_] (Rat.divInt n d) ∧ Below w.heap.size w w') := by
 have hM := ((Mem.start hX).add0 h1).add0 h2
 have hsd := NZk.sgn h2
 have hcd := sign_cases d
 have hgn := szg_neg n
 have hgd := szg_neg d
 refine calls_of hM Tryz.func55 Tryz.ntmps55 ?_
 refine CG.seq fun K_ k1 => ?_
 refine CG.lin 3 ?_
 refine GL.bA #[.int .i64 s1, .slice A1 n1 c1] fun g21 => ?_
 refine GL.bA #[.int .i64 s2, .slice A2 n2 c2] fun g22 => ?_
 refine GL.aA zer54 fun g23 => ?_
 refine GL.k k1 ?_
 refine CG.seq fun K_ k1 => ?_
 refine CG.seq fun K_ k2 => ?_
 refine CG.lin 3 ?_
 refine GL.v (.pointer (some ⟨g22, 0, none⟩)) ?_
 refine GL.r (.int .i64 s2) (fun _ hM => op_load_one (off := 0) (by kernel_rfl) agg3 (hM.b 1 rfl) rfl) ?_
 refine GL.v (.bool (decide (s2 < (0 : Int)))) ?_
 refine GL.k k2 ?_
 refine CG.cut (fun a_ u_ => ∃ (sp : Int) (Ap : Option Addr) (np : Nat) (cp : Nat) (p : Int) (sq : Int) (Aq : Option Addr) (nq : Nat) (cq : Nat) (q : Int) (j24 : Nat → Value), a_ = ⟨#[.agg #[.int .i64 s1, .slice A1 n1 c1], .agg #[.int .i64 s2, .slice A2 n2 c2], .pointer (some ⟨g21, 0, none⟩), .pointer (some ⟨g22, 0, none⟩), .pointer (some ⟨g23, 0, none⟩), undef, .pointer (some ⟨g22, 0, none⟩), .int .i64 s2, .bool (decide (s2 < (0 : Int))), (j24 9), (j24 10), (j24 11), (j24 12), undef, undef, undef, undef, undef, undef, undef, undef, undef, undef, undef, undef, undef, undef, undef, undef, undef, undef, undef, undef, undef, undef], []⟩ ∧ Mem w [] X u_ [.box g23 #[.int .i64 0, .slice none 0 0, .int .i64 0, .slice none 0 0] 54, .box g22 #[.int .i64 sq, .slice Aq nq cq] 31, .box g21 #[.int .i64 sp, .slice Ap np cp] 31] [⟨NZk, [.int .i64 sp, .slice Ap np cp], p⟩, ⟨NZk, [.int .i64 sq, .slice Aq nq cq], q⟩, ⟨NZk, [.int .i64 s2, .slice A2 n2 c2], d⟩, ⟨NZk, [.int .i64 s1, .slice A1 n1 c1], n⟩] ∧ (Rat.divInt p q = Rat.divInt n d ∧ 0 < q) ∧ (szg p = szg n ∧ szg q = szg d)) ?_ ?_
 · skip
   by_cases hc33 : s2 < (0 : Int)
   · have hk33 : (decide (s2 < (0 : Int))) = true := decide_eq_true hc33
     refine CG.yes ?_ hk33 rfl
     refine CG.draw [] [0, 2] (.step 0 (.step 2 (.step 1 (.step 3 (.step 4 (.step 5 .done)))))) (fun V hV34 => ?_)
     refine GD.er (.agg #[.int .i64 s1, .slice A1 n1 c1]) (fun _ hS => op_load_agg (off := 0) (by kernel_rfl) agg31 siz31 (hV34.bS 2 rfl hS) rfl rfl) ?_
     refine GD.er (.agg #[.int .i64 s2, .slice A2 n2 c2]) (fun _ hS => op_load_agg (off := 0) (by kernel_rfl) agg31 siz31 (hV34.bS 1 rfl hS) rfl rfl) ?_
     refine GD.call (fun _ hM => ZNeg_ok hM.avlt (hM.f 1 rfl)) ?_
     rintro _ _ _ hM ⟨s35, A35, n35, c35, rfl, h35, hb⟩
     have hs35 := szg_neg n
     refine ⟨_, _, _, rfl, hb, (hM.call hb).add h35, ?_⟩
     refine GD.call (fun _ hM => ZNeg_ok hM.avlt (hM.f 1 rfl)) ?_
     rintro _ _ _ hM ⟨s36, A36, n36, c36, rfl, h36, hb⟩
     have hs36 := szg_neg d
     refine ⟨_, _, _, rfl, hb, (hM.call hb).add h36, ?_⟩
     refine GD.st (fun _ _ => Mem.st2) (fun _ hM => store_all (cs' := #[.int .i64 s35, .slice A35 n35 c35]) siz31 (hM.b 2 rfl) (by kernel_rfl) (by kernel_rfl) rfl rfl rfl) ?_
     refine GD.st (fun _ _ => Mem.st1) (fun _ hM => store_all (cs' := #[.int .i64 s36, .slice A36 n36 c36]) siz31 (hM.b 1 rfl) (by kernel_rfl) (by kernel_rfl) rfl rfl rfl) ?_
     refine GD.q ?_
     refine QG.cut fun _ hM => ?_
     exact ⟨s35, A35, n35, c35, (-n), s36, A36, n36, c36, (-d), (fun t => (#[.agg #[.int .i64 s1, .slice A1 n1 c1], .agg #[.int .i64 s2, .slice A2 n2 c2], .pointer (some ⟨g21, 0, none⟩), .pointer (some ⟨g22, 0, none⟩), .pointer (some ⟨g23, 0, none⟩), undef, .pointer (some ⟨g22, 0, none⟩), .int .i64 s2, .bool (decide (s2 < (0 : Int))), .agg #[.int .i64 s1, .slice A1 n1 c1], .agg #[.int .i64 s35, .slice A35 n35 c35], .agg #[.int .i64 s2, .slice A2 n2 c2], .agg #[.int .i64 s36, .slice A36 n36 c36], undef, undef, undef, undef, undef, undef, undef, undef, undef, undef, undef, undef, undef, undef, undef, undef, undef, undef, undef, undef, undef, undef] : Array Value).getD t undef), (by kernel_rfl), ((((hM.clr).add (hM.f 3 rfl)).add (hM.f 2 rfl)).add (hM.f 0 rfl)).add (hM.f 1 rfl), (by first | exact ⟨rfl, by omega⟩ | exact ⟨nofz_sign, by omega⟩), (by omega)⟩
   · have hk33 : (decide (s2 < (0 : Int))) = false := decide_eq_false hc33
     refine CG.no ?_ hk33 rfl
     refine CG.skip ?_
     refine QG.cut fun _ hM => ?_
     exact ⟨s1, A1, n1, c1, n, s2, A2, n2, c2, d, (fun t => (#[.agg #[.int .i64 s1, .slice A1 n1 c1], .agg #[.int .i64 s2, .slice A2 n2 c2], .pointer (some ⟨g21, 0, none⟩), .pointer (some ⟨g22, 0, none⟩), .pointer (some ⟨g23, 0, none⟩), undef, .pointer (some ⟨g22, 0, none⟩), .int .i64 s2, .bool (decide (s2 < (0 : Int))), undef, undef, undef, undef, undef, undef, undef, undef, undef, undef, undef, undef, undef, undef, undef, undef, undef, undef, undef, undef, undef, undef, undef, undef, undef, undef] : Array Value).getD t undef), (by kernel_rfl), ((((hM.clr).add (hM.f 1 rfl)).add (hM.f 0 rfl)).add (hM.f 0 rfl)).add (hM.f 1 rfl), (by first | exact ⟨rfl, by omega⟩ | exact ⟨nofz_sign, by omega⟩), (by omega)⟩
 · skip
   rintro a_ u_ ⟨sp, Ap, np, cp, p, sq, Aq, nq, cq, q, j24, rfl, hM, hpq, hsz⟩
   have hsg := szg_gcd p q
   have hs1z : szg 1 ≤ 1 := szg_le (by decide)
   refine QG.go hM ?_
   refine QG.k k1 ?_
   refine CG.seq fun K_ k1 => ?_
   refine CG.lin 5 ?_
   refine GL.r (.agg #[.int .i64 sp, .slice Ap np cp]) (fun _ hM => op_load_agg (off := 0) (by kernel_rfl) agg31 siz31 (hM.b 2 rfl) rfl rfl) ?_
   refine GL.r (.agg #[.int .i64 sq, .slice Aq nq cq]) (fun _ hM => op_load_agg (off := 0) (by kernel_rfl) agg31 siz31 (hM.b 1 rfl) rfl rfl) ?_
   refine GL.call (fun _ hM => NGcd_ok hM.avlt (hM.f 0 rfl) (hM.f 1 rfl) (by first | assumption | omega)) ?_
   rintro _ _ _ hM ⟨s25, A25, n25, c25, rfl, h25, hb⟩
   have hs25 := szg_gcd p q
   refine ⟨_, _, _, rfl, (hM.call hb).add h25, ?_⟩
   refine GL.aA zer31 fun g26 => ?_
   refine GL.sA (cs' := #[.int .i64 s25, .slice A25 n25 c25]) (fun _ _ => Mem.st0) (fun _ hM => hM.b 0 rfl) siz31 ?_
   refine GL.k k1 ?_
   refine CG.seq fun K_ k1 => ?_
   refine CG.seq fun K_ k2 => ?_
   refine CG.draw [] [0, 3] (.step 0 (.step 1 (.step 2 (.step 3 .done)))) (fun V hV27 => ?_)
   refine GD.er (.agg #[.int .i64 s25, .slice A25 n25 c25]) (fun _ hS => op_load_agg (off := 0) (by kernel_rfl) agg31 siz31 (hV27.bS 0 rfl hS) rfl rfl) ?_
   refine GD.call (fun _ hM => ZInt_ok hM.avlt (1) (by first | assumption | omega)) ?_
   rintro _ _ _ hM ⟨s28, A28, n28, c28, rfl, h28, hb⟩
   have hs28 := szg_i64 (1) (by omega)
   refine ⟨_, _, _, rfl, hb, (hM.call hb).add h28, ?_⟩
   refine GD.call (fun _ hM => ZCmp_ok hM.avlt (hM.f 1 rfl) (hM.f 0 rfl) (by first | assumption | omega)) ?_
   rintro _ _ _ hM ⟨rfl, hb⟩
   refine ⟨_, _, _, rfl, hb, hM.call hb, ?_⟩
   refine GD.ev (.bool (decide ((((Int.gcd p q : Int) - 1).sign) > (0 : Int)))) ?_
   refine GD.k k2 ?_
   by_cases hc30 : (Int.gcd p q : Int) > 1
   · have hk30 : (decide ((((Int.gcd p q : Int) - 1).sign) > (0 : Int))) = true := (sign_gt _ _).trans (decide_eq_true hc30)
     refine CG.yes ?_ hk30 rfl
     refine CG.seq fun K_ k2 => ?_
     refine CG.lin 7 ?_
     refine GL.r (.agg #[.int .i64 sp, .slice Ap np cp]) (fun _ hM => op_load_agg (off := 0) (by kernel_rfl) agg31 siz31 (hM.b 3 rfl) rfl rfl) ?_
     refine GL.r (.agg #[.int .i64 s25, .slice A25 n25 c25]) (fun _ hM => op_load_agg (off := 0) (by kernel_rfl) agg31 siz31 (hM.b 0 rfl) rfl rfl) ?_
     refine GL.call (fun _ hM => NQuotient_ok hM.avlt (hM.f 2 rfl) (hM.f 1 rfl) (nofz0 hpq.2) (by first | assumption | omega)) ?_
     rintro _ _ _ hM ⟨s31a, A31a, n31a, c31a, s31b, A31b, n31b, c31b, rfl, h31a, h31b, hb⟩
     have hs31 := szg_quo p (Int.gcd p q : Int)
     have ht31 := szg_rem2 p (Int.gcd p q : Int)
     refine ⟨_, _, _, rfl, ((hM.call hb).add h31a).add h31b, ?_⟩
     refine GL.v (.tuple #[.agg #[.int .i64 s31a, .slice A31a n31a c31a], .agg #[.int .i64 s31b, .slice A31b n31b c31b]]) ?_
     refine GL.v (.agg #[.int .i64 s31a, .slice A31a n31a c31a]) ?_
     refine GL.v (.agg #[.int .i64 s31b, .slice A31b n31b c31b]) ?_
     refine GL.sA (cs' := #[.int .i64 s31a, .slice A31a n31a c31a]) (fun _ _ => Mem.st3) (fun _ hM => hM.b 3 rfl) siz31 ?_
     refine GL.k k2 ?_
     refine CG.lin 7 ?_
     refine GL.r (.agg #[.int .i64 sq, .slice Aq nq cq]) (fun _ hM => op_load_agg (off := 0) (by kernel_rfl) agg31 siz31 (hM.b 2 rfl) rfl rfl) ?_
     refine GL.r (.agg #[.int .i64 s25, .slice A25 n25 c25]) (fun _ hM => op_load_agg (off := 0) (by kernel_rfl) agg31 siz31 (hM.b 0 rfl) rfl rfl) ?_
     refine GL.call (fun _ hM => NQuotient_ok hM.avlt (hM.f 5 rfl) (hM.f 3 rfl) (nofz0 hpq.2) (by first | assumption | omega)) ?_
     rintro _ _ _ hM ⟨s32a, A32a, n32a, c32a, s32b, A32b, n32b, c32b, rfl, h32a, h32b, hb⟩
     have hs32 := szg_quo q (Int.gcd p q : Int)
     have ht32 := szg_rem2 q (Int.gcd p q : Int)
     refine ⟨_, _, _, rfl, ((hM.call hb).add h32a).add h32b, ?_⟩
     refine GL.v (.tuple #[.agg #[.int .i64 s32a, .slice A32a n32a c32a], .agg #[.int .i64 s32b, .slice A32b n32b c32b]]) ?_
     refine GL.v (.agg #[.int .i64 s32a, .slice A32a n32a c32a]) ?_
     refine GL.v (.agg #[.int .i64 s32b, .slice A32b n32b c32b]) ?_
     refine GL.sA (cs' := #[.int .i64 s32a, .slice A32a n32a c32a]) (fun _ _ => Mem.st2) (fun _ hM => hM.b 2 rfl) siz31 ?_
     refine GL.k k1 ?_
     refine CG.seq fun K_ k1 => ?_
     refine CG.lin 4 ?_
     refine GL.r (.agg #[.int .i64 s31a, .slice A31a n31a c31a]) (fun _ hM => op_load_agg (off := 0) (by kernel_rfl) agg31 siz31 (hM.b 3 rfl) rfl rfl) ?_
     refine GL.r (.agg #[.int .i64 s32a, .slice A32a n32a c32a]) (fun _ hM => op_load_agg (off := 0) (by kernel_rfl) agg31 siz31 (hM.b 2 rfl) rfl rfl) ?_
     refine GL.v (.agg #[.int .i64 s31a, .slice A31a n31a c31a, .int .i64 s32a, .slice A32a n32a c32a]) ?_
     refine GL.sA (cs' := #[.int .i64 s31a, .slice A31a n31a c31a, .int .i64 s32a, .slice A32a n32a c32a]) (fun _ _ => Mem.st1) (fun _ hM => hM.b 1 rfl) siz54 ?_
     refine GL.k k1 ?_
     refine CG.ret (QG.ret (fun _ hM => results_one rfl (res_cell rfl (loadVar_agg agg54 siz54 (hM.b 1 rfl) rfl rfl))) ?_)
     intro _ hM
     exact ⟨_, _, _, _, _, _, _, _, rfl, (hpq.1 ▸ NRk.ofs (hM.out (hM.f 3 rfl)) (hM.out (hM.f 1 rfl)) (nofz1 (p := p) hpq.2).1 (nofz1 (p := p) hpq.2).2), hM.below⟩
   · have hk30 : (decide ((((Int.gcd p q : Int) - 1).sign) > (0 : Int))) = false := (sign_gt _ _).trans (decide_eq_false hc30)
     refine CG.no ?_ hk30 rfl
     refine CG.skip ?_
     refine QG.k k1 ?_
     refine CG.seq fun K_ k1 => ?_
     refine CG.lin 4 ?_
     refine GL.r (.agg #[.int .i64 sp, .slice Ap np cp]) (fun _ hM => op_load_agg (off := 0) (by kernel_rfl) agg31 siz31 (hM.b 3 rfl) rfl rfl) ?_
     refine GL.r (.agg #[.int .i64 sq, .slice Aq nq cq]) (fun _ hM => op_load_agg (off := 0) (by kernel_rfl) agg31 siz31 (hM.b 2 rfl) rfl rfl) ?_
     refine GL.v (.agg #[.int .i64 sp, .slice Ap np cp, .int .i64 sq, .slice Aq nq cq]) ?_
     refine GL.sA (cs' := #[.int .i64 sp, .slice Ap np cp, .int .i64 sq, .slice Aq nq cq]) (fun _ _ => Mem.st1) (fun _ hM => hM.b 1 rfl) siz54 ?_
     refine GL.k k1 ?_
     refine CG.ret (QG.ret (fun _ hM => results_one rfl (res_cell rfl (loadVar_agg agg54 siz54 (hM.b 1 rfl) rfl rfl))) ?_)
     intro _ hM
     exact ⟨_, _, _, _, _, _, _, _, rfl, (hpq.1 ▸ NRk.ofs (hM.out (hM.f 2 rfl)) (hM.out (hM.f 3 rfl)) (nofz2 hpq.2 hc30).1 (nofz2 hpq.2 hc30).2), hM.below⟩

set_option maxRecDepth 100000 in
set_option maxHeartbeats 400000 in
theorem NRatio_ok {w : World} {X : Nat → Prop} (hX : ∀ k, X k → k < w.heap.size) (n : Int) (d : Int) (p1 : d ≠ 0) (p2 : -9223372036854775808 ≤ n ∧ n ≤ 9223372036854775807) (p3 : -9223372036854775808 ≤ d ∧ d ≤ 9223372036854775807) :
    Calls Tryz.prog 53 #[.int .i64 n, .int .i64 d] w (fun e w' => ∃ sr Ar nr cr sr_ Ar_ nr_ cr_, e = .returned (.agg #[.int .i64 sr, .slice Ar nr cr, .int .i64 sr_, .slice Ar_ nr_ cr_]) ∧ NRk.R X w' [.int .i64 sr, .slice Ar nr cr, .int .i64 sr_, .slice Ar_ nr_ cr_] (Rat.divInt n d) ∧ Below w.heap.size w w') := by
 have hM := Mem.start hX
 refine calls_of hM Tryz.func53 Tryz.ntmps53 ?_
 refine CG.seq fun K_ k1 => ?_
 refine CG.lin 1 ?_
 refine GL.aA zer54 fun g21 => ?_
 refine GL.k k1 ?_
 refine CG.seq fun K_ k1 => ?_
 refine CG.lin 6 ?_
 refine GL.v (.int .i64 n) ?_
 refine GL.call (fun _ hM => ZInt_ok hM.avlt n (by first | assumption | omega)) ?_
 rintro _ _ _ hM ⟨s22, A22, n22, c22, rfl, h22, hb⟩
 have hs22 := szg_i64 n (by omega)
 refine ⟨_, _, _, rfl, (hM.call hb).add h22, ?_⟩
 refine GL.v (.int .i64 d) ?_
 refine GL.call (fun _ hM => ZInt_ok hM.avlt d (by first | assumption | omega)) ?_
 rintro _ _ _ hM ⟨s23, A23, n23, c23, rfl, h23, hb⟩
 have hs23 := szg_i64 d (by omega)
 refine ⟨_, _, _, rfl, (hM.call hb).add h23, ?_⟩
 refine GL.call (fun _ hM => NOfZ_ok hM.avlt (hM.f 1 rfl) (hM.f 0 rfl) (by first | assumption | omega) (by first | assumption | omega)) ?_
 rintro _ _ _ hM ⟨s24, A24, n24, c24, s24_, A24_, n24_, c24_, rfl, h24, hb⟩
 have hs24 := szgR_divInt2 n d
 refine ⟨_, _, _, rfl, (hM.call hb).add h24, ?_⟩
 refine GL.sA (cs' := #[.int .i64 s24, .slice A24 n24 c24, .int .i64 s24_, .slice A24_ n24_ c24_]) (fun _ _ => Mem.st0) (fun _ hM => hM.b 0 rfl) siz54 ?_
 refine GL.k k1 ?_
 refine CG.ret (QG.ret (fun _ hM => results_one rfl (res_cell rfl (loadVar_agg agg54 siz54 (hM.b 0 rfl) rfl rfl))) ?_)
 intro _ hM
 exact ⟨_, _, _, _, _, _, _, _, rfl, (hM.out (hM.f 0 rfl)), hM.below⟩

set_option maxRecDepth 100000 in
set_option maxHeartbeats 400000 in
theorem Ratio_ok {w : World} {X : Nat → Prop} (hX : ∀ k, X k → k < w.heap.size) (n : Int) (d : Int) (p1 : d ≠ 0) (p2 : -9223372036854775808 ≤ n ∧ n ≤ 9223372036854775807) (p3 : -9223372036854775808 ≤ d ∧ d ≤ 9223372036854775807) :
    Calls Tryz.prog 52 #[.int .i64 n, .int .i64 d] w (fun e w' => ∃ Ar1 nr1 cr1 mr1 Ar1_ nr1_ cr1_, e = .returned (.tuple #[.agg #[.slice Ar1 nr1 cr1, .bool mr1, .slice Ar1_ nr1_ cr1_], .int .i64 0]) ∧ Rk.R X w' [.slice Ar1 nr1 cr1, .bool mr1, .slice Ar1_ nr1_ cr1_] (Rat.divInt n d) ∧ Below w.heap.size w w') := by
 have hM := Mem.start hX
 refine calls_of hM Tryz.func52 Tryz.ntmps52 ?_
 refine CG.seq fun K_ k1 => ?_
 refine CG.lin 2 ?_
 refine GL.aA zer48 fun g21 => ?_
 refine GL.v (.int .i64 0) ?_
 refine GL.k k1 ?_
 refine CG.seq fun K_ k1 => ?_
 refine CG.lin 9 ?_
 refine GL.v (.int .i64 n) ?_
 refine GL.call (fun _ hM => Int_ok hM.avlt n (by first | assumption | omega)) ?_
 rintro _ _ _ hM ⟨A22, n22, c22, m22, rfl, h22, hb⟩
 have hs22 := sz_i64 n (by omega)
 refine ⟨_, _, _, rfl, (hM.call hb).add h22, ?_⟩
 refine GL.v (.int .i64 d) ?_
 refine GL.call (fun _ hM => Int_ok hM.avlt d (by first | assumption | omega)) ?_
 rintro _ _ _ hM ⟨A23, n23, c23, m23, rfl, h23, hb⟩
 have hs23 := sz_i64 d (by omega)
 refine ⟨_, _, _, rfl, (hM.call hb).add h23, ?_⟩
 refine GL.call (fun _ hM => OfZ_ok hM.avlt (hM.f 1 rfl) (hM.f 0 rfl) (by first | assumption | omega) (by first | assumption | omega)) ?_
 rintro _ _ _ hM ⟨A24a, n24a, c24a, m24a, A24a_, n24a_, c24a_, rfl, h24a, hb⟩
 have hs24 := szR_divInt2 n d
 refine ⟨_, _, _, rfl, (hM.call hb).add h24a, ?_⟩
 refine GL.v (.agg #[.slice A24a n24a c24a, .bool m24a, .slice A24a_ n24a_ c24a_]) ?_
 refine GL.v (.int .i64 0) ?_
 refine GL.sA (cs' := #[.slice A24a n24a c24a, .bool m24a, .slice A24a_ n24a_ c24a_]) (fun _ _ => Mem.st0) (fun _ hM => hM.b 0 rfl) siz48 ?_
 refine GL.v (.int .i64 0) ?_
 refine GL.k k1 ?_
 refine CG.ret (QG.ret (fun _ hM => results_two rfl (res_cell rfl (loadVar_agg agg48 siz48 (hM.b 0 rfl) rfl rfl)) (res_tmp rfl)) ?_)
 intro _ hM
 exact ⟨_, _, _, _, _, _, _, rfl, (hM.out (hM.f 0 rfl)), hM.below⟩

set_option maxRecDepth 100000 in
set_option maxHeartbeats 400000 in
theorem Both_ok {w : World} {X : Nat → Prop} (hX : ∀ k, X k → k < w.heap.size) (xN : Int) (xD : Int) (p1 : -9223372036854775808 ≤ xN ∧ xN ≤ 9223372036854775807) (p2 : -9223372036854775808 ≤ xD ∧ xD ≤ 9223372036854775807) :
    Calls Tryz.prog 28 #[.agg #[.int .i64 xN, .int .i64 xD]] w (fun e w' => ∃ Ar1 nr1 cr1 mr1 Ar1_ nr1_ cr1_ sr2 Ar2 nr2 cr2 sr2_ Ar2_ nr2_ cr2_, e = .returned (.tuple #[.agg #[.slice Ar1 nr1 cr1, .bool mr1, .slice Ar1_ nr1_ cr1_], .agg #[.int .i64 sr2, .slice Ar2 nr2 cr2, .int .i64 sr2_, .slice Ar2_ nr2_ cr2_]]) ∧ Rk.R X w' [.slice Ar1 nr1 cr1, .bool mr1, .slice Ar1_ nr1_ cr1_] (numv xN xD) ∧ NRk.R X w' [.int .i64 sr2, .slice Ar2 nr2 cr2, .int .i64 sr2_, .slice Ar2_ nr2_ cr2_] (numv xN xD) ∧ Below w.heap.size w w') := by
 have hM := Mem.start hX
 refine calls_of hM Tryz.func28 Tryz.ntmps28 ?_
 refine CG.seq fun K_ k1 => ?_
 refine CG.lin 3 ?_
 refine GL.bA #[.int .i64 xN, .int .i64 xD] fun g21 => ?_
 refine GL.aA zer48 fun g22 => ?_
 refine GL.aA zer54 fun g23 => ?_
 refine GL.k k1 ?_
 refine CG.seq fun K_ k1 => ?_
 refine CG.seq fun K_ k2 => ?_
 refine CG.lin 3 ?_
 refine GL.v (.pointer (some ⟨g21, 1, none⟩)) ?_
 refine GL.r (.int .i64 xD) (fun _ hM => op_load_one (off := 1) (by kernel_rfl) agg2 (hM.b 2 rfl) rfl) ?_
 refine GL.v (.bool (xD == (0 : Int))) ?_
 refine GL.k k2 ?_
 by_cases hc24 : xD = (0 : Int)
 · have hk24 : (xD == (0 : Int)) = true := beq_iff_eq.2 hc24
   refine CG.yes ?_ hk24 rfl
   refine CG.lin 2 ?_
   refine GL.v (.pointer (some ⟨g21, 1, none⟩)) ?_
   refine GL.s1 (cs' := #[.int .i64 xN, .int .i64 1]) 1 (.int .i64 1) (fun _ _ => Mem.st2) (fun _ hM => hM.b 2 rfl) siz2 ?_
   refine GL.k k1 ?_
   refine CG.seq fun K_ k1 => ?_
   refine CG.lin 11 ?_
   refine GL.v (.pointer (some ⟨g21, 0, none⟩)) ?_
   refine GL.r (.int .i64 xN) (fun _ hM => op_load_one (off := 0) (by kernel_rfl) agg2 (hM.b 2 rfl) rfl) ?_
   refine GL.v (.pointer (some ⟨g21, 1, none⟩)) ?_
   refine GL.r (.int .i64 1) (fun _ hM => op_load_one (off := 1) (by kernel_rfl) agg2 (hM.b 2 rfl) rfl) ?_
   refine GL.call (fun _ hM => Ratio_ok hM.avlt xN (1) (by first | assumption | omega) (by first | assumption | omega) (by first | assumption | omega)) ?_
   rintro _ _ _ hM ⟨A25a, n25a, c25a, m25a, A25a_, n25a_, c25a_, rfl, h25a, hb⟩
   have hs25 := szR_divInt2 xN (1)
   have ht25 := sz_i64 xN (by omega)
   have hu25 := sz_i64 (1) (by omega)
   refine ⟨_, _, _, rfl, (hM.call hb).add h25a, ?_⟩
   refine GL.v (.tuple #[.agg #[.slice A25a n25a c25a, .bool m25a, .slice A25a_ n25a_ c25a_], .int .i64 0]) ?_
   refine GL.v (.agg #[.slice A25a n25a c25a, .bool m25a, .slice A25a_ n25a_ c25a_]) ?_
   refine GL.v (.int .i64 0) ?_
   refine GL.aA zer48 fun g26 => ?_
   refine GL.sA (cs' := #[.slice A25a n25a c25a, .bool m25a, .slice A25a_ n25a_ c25a_]) (fun _ _ => Mem.st0) (fun _ hM => hM.b 0 rfl) siz48 ?_
   refine GL.v (.int .i64 0) ?_
   refine GL.k k1 ?_
   refine CG.seq fun K_ k1 => ?_
   refine CG.draw [] [0, 1, 2, 3, 4] (.step 0 (.step 1 (.step 2 (.step 3 (.step 4 (.step 5 (.step 6 (.step 7 .done)))))))) (fun V hV27 => ?_)
   refine GD.er (.agg #[.slice A25a n25a c25a, .bool m25a, .slice A25a_ n25a_ c25a_]) (fun _ hS => op_load_agg (off := 0) (by kernel_rfl) agg48 siz48 (hV27.bS 0 rfl hS) rfl rfl) ?_
   refine GD.ev (.pointer (some ⟨g21, 0, none⟩)) ?_
   refine GD.er (.int .i64 xN) (fun _ hS => op_load_one (off := 0) (by kernel_rfl) agg2 (hV27.bS 3 rfl hS) rfl) ?_
   refine GD.ev (.pointer (some ⟨g21, 1, none⟩)) ?_
   refine GD.er (.int .i64 1) (fun _ hS => op_load_one (off := 1) (by kernel_rfl) agg2 (hV27.bS 3 rfl hS) rfl) ?_
   refine GD.call (fun _ hM => NRatio_ok hM.avlt xN (1) (by first | assumption | omega) (by first | assumption | omega) (by first | assumption | omega)) ?_
   rintro _ _ _ hM ⟨s28, A28, n28, c28, s28_, A28_, n28_, c28_, rfl, h28, hb⟩
   have hs28 := szgR_divInt2 xN (1)
   have ht28 := szg_i64 xN (by omega)
   have hu28 := szg_i64 (1) (by omega)
   refine ⟨_, _, _, rfl, hb, (hM.call hb).add h28, ?_⟩
   refine GD.st (fun _ _ => Mem.st2) (fun _ hM => store_all (cs' := #[.slice A25a n25a c25a, .bool m25a, .slice A25a_ n25a_ c25a_]) siz48 (hM.b 2 rfl) (by kernel_rfl) (by kernel_rfl) rfl rfl rfl) ?_
   refine GD.st (fun _ _ => Mem.st1) (fun _ hM => store_all (cs' := #[.int .i64 s28, .slice A28 n28 c28, .int .i64 s28_, .slice A28_ n28_ c28_]) siz54 (hM.b 1 rfl) (by kernel_rfl) (by kernel_rfl) rfl rfl rfl) ?_
   refine GD.k k1 ?_
   refine CG.ret (QG.ret (fun _ hM => results_two rfl (res_cell rfl (loadVar_agg agg48 siz48 (hM.b 2 rfl) rfl rfl)) (res_cell rfl (loadVar_agg agg54 siz54 (hM.b 1 rfl) rfl rfl))) ?_)
   intro _ hM
   exact ⟨_, _, _, _, _, _, _, _, _, _, _, _, _, _, _, rfl, ((show Rat.divInt xN 1 = numv xN xD from numv_of (by omega)) ▸ (hM.out (hM.f 1 rfl))), ((show Rat.divInt xN 1 = numv xN xD from numv_of (by omega)) ▸ (hM.out (hM.f 0 rfl))), hM.below⟩
 · have hk24 : (xD == (0 : Int)) = false := beq_eq_false_iff_ne.2 hc24
   refine CG.no ?_ hk24 rfl
   refine CG.skip ?_
   refine QG.k k1 ?_
   refine CG.seq fun K_ k1 => ?_
   refine CG.lin 11 ?_
   refine GL.v (.pointer (some ⟨g21, 0, none⟩)) ?_
   refine GL.r (.int .i64 xN) (fun _ hM => op_load_one (off := 0) (by kernel_rfl) agg2 (hM.b 2 rfl) rfl) ?_
   refine GL.v (.pointer (some ⟨g21, 1, none⟩)) ?_
   refine GL.r (.int .i64 xD) (fun _ hM => op_load_one (off := 1) (by kernel_rfl) agg2 (hM.b 2 rfl) rfl) ?_
   refine GL.call (fun _ hM => Ratio_ok hM.avlt xN xD (by first | assumption | omega) (by first | assumption | omega) (by first | assumption | omega)) ?_
   rintro _ _ _ hM ⟨A29a, n29a, c29a, m29a, A29a_, n29a_, c29a_, rfl, h29a, hb⟩
   have hs29 := szR_divInt2 xN xD
   have ht29 := sz_i64 xN (by omega)
   have hu29 := sz_i64 xD (by omega)
   refine ⟨_, _, _, rfl, (hM.call hb).add h29a, ?_⟩
   refine GL.v (.tuple #[.agg #[.slice A29a n29a c29a, .bool m29a, .slice A29a_ n29a_ c29a_], .int .i64 0]) ?_
   refine GL.v (.agg #[.slice A29a n29a c29a, .bool m29a, .slice A29a_ n29a_ c29a_]) ?_
   refine GL.v (.int .i64 0) ?_
   refine GL.aA zer48 fun g30 => ?_
   refine GL.sA (cs' := #[.slice A29a n29a c29a, .bool m29a, .slice A29a_ n29a_ c29a_]) (fun _ _ => Mem.st0) (fun _ hM => hM.b 0 rfl) siz48 ?_
   refine GL.v (.int .i64 0) ?_
   refine GL.k k1 ?_
   refine CG.seq fun K_ k1 => ?_
   refine CG.draw [] [0, 1, 2, 3, 4] (.step 0 (.step 1 (.step 2 (.step 3 (.step 4 (.step 5 (.step 6 (.step 7 .done)))))))) (fun V hV31 => ?_)
   refine GD.er (.agg #[.slice A29a n29a c29a, .bool m29a, .slice A29a_ n29a_ c29a_]) (fun _ hS => op_load_agg (off := 0) (by kernel_rfl) agg48 siz48 (hV31.bS 0 rfl hS) rfl rfl) ?_
   refine GD.ev (.pointer (some ⟨g21, 0, none⟩)) ?_
   refine GD.er (.int .i64 xN) (fun _ hS => op_load_one (off := 0) (by kernel_rfl) agg2 (hV31.bS 3 rfl hS) rfl) ?_
   refine GD.ev (.pointer (some ⟨g21, 1, none⟩)) ?_
   refine GD.er (.int .i64 xD) (fun _ hS => op_load_one (off := 1) (by kernel_rfl) agg2 (hV31.bS 3 rfl hS) rfl) ?_
   refine GD.call (fun _ hM => NRatio_ok hM.avlt xN xD (by first | assumption | omega) (by first | assumption | omega) (by first | assumption | omega)) ?_
   rintro _ _ _ hM ⟨s32, A32, n32, c32, s32_, A32_, n32_, c32_, rfl, h32, hb⟩
   have hs32 := szgR_divInt2 xN xD
   have ht32 := szg_i64 xN (by omega)
   have hu32 := szg_i64 xD (by omega)
   refine ⟨_, _, _, rfl, hb, (hM.call hb).add h32, ?_⟩
   refine GD.st (fun _ _ => Mem.st2) (fun _ hM => store_all (cs' := #[.slice A29a n29a c29a, .bool m29a, .slice A29a_ n29a_ c29a_]) siz48 (hM.b 2 rfl) (by kernel_rfl) (by kernel_rfl) rfl rfl rfl) ?_
   refine GD.st (fun _ _ => Mem.st1) (fun _ hM => store_all (cs' := #[.int .i64 s32, .slice A32 n32 c32, .int .i64 s32_, .slice A32_ n32_ c32_]) siz54 (hM.b 1 rfl) (by kernel_rfl) (by kernel_rfl) rfl rfl rfl) ?_
   refine GD.k k1 ?_
   refine CG.ret (QG.ret (fun _ hM => results_two rfl (res_cell rfl (loadVar_agg agg48 siz48 (hM.b 2 rfl) rfl rfl)) (res_cell rfl (loadVar_agg agg54 siz54 (hM.b 1 rfl) rfl rfl))) ?_)
   intro _ hM
   exact ⟨_, _, _, _, _, _, _, _, _, _, _, _, _, _, _, rfl, ((show Rat.divInt xN xD = numv xN xD from numv_of (by omega)) ▸ (hM.out (hM.f 1 rfl))), ((show Rat.divInt xN xD = numv xN xD from numv_of (by omega)) ▸ (hM.out (hM.f 0 rfl))), hM.below⟩

set_option maxRecDepth 100000 in
set_option maxHeartbeats 400000 in
theorem pair_ok {w : World} {X : Nat → Prop} (hX : ∀ k, X k → k < w.heap.size) (xN : Int) (xD : Int) (zN : Int) (zD : Int) (p1 : -9223372036854775808 ≤ xN ∧ xN ≤ 9223372036854775807) (p2 : -9223372036854775808 ≤ xD ∧ xD ≤ 9223372036854775807) (p3 : -9223372036854775808 ≤ zN ∧ zN ≤ 9223372036854775807) (p4 : -9223372036854775808 ≤ zD ∧ zD ≤ 9223372036854775807) :
    Calls Tryz.prog 84 #[.agg #[.int .i64 xN, .int .i64 xD], .agg #[.int .i64 zN, .int .i64 zD]] w (fun e w' => ∃ Ar1 nr1 cr1 mr1 Ar1_ nr1_ cr1_ Ar1z nr1z cr1z mr1z Ar1z_ nr1z_ cr1z_ sr2 Ar2 nr2 cr2 sr2_ Ar2_ nr2_ cr2_ sr2z Ar2z nr2z cr2z sr2z_ Ar2z_ nr2z_ cr2z_, e = .returned (.tuple #[.agg #[.slice Ar1 nr1 cr1, .bool mr1, .slice Ar1_ nr1_ cr1_, .slice Ar1z nr1z cr1z, .bool mr1z, .slice Ar1z_ nr1z_ cr1z_], .agg #[.int .i64 sr2, .slice Ar2 nr2 cr2, .int .i64 sr2_, .slice Ar2_ nr2_ cr2_, .int .i64 sr2z, .slice Ar2z nr2z cr2z, .int .i64 sr2z_, .slice Ar2z_ nr2z_ cr2z_]]) ∧ Vk.R X w' [.slice Ar1 nr1 cr1, .bool mr1, .slice Ar1_ nr1_ cr1_, .slice Ar1z nr1z cr1z, .bool mr1z, .slice Ar1z_ nr1z_ cr1z_] (numv xN xD, numv zN zD) ∧ NVk.R X w' [.int .i64 sr2, .slice Ar2 nr2 cr2, .int .i64 sr2_, .slice Ar2_ nr2_ cr2_, .int .i64 sr2z, .slice Ar2z nr2z cr2z, .int .i64 sr2z_, .slice Ar2z_ nr2z_ cr2z_] (numv xN xD, numv zN zD) ∧ Below w.heap.size w w') := by
 have hM := Mem.start hX
 refine calls_of hM Tryz.func84 Tryz.ntmps84 ?_
 refine CG.seq fun K_ k1 => ?_
 refine CG.lin 4 ?_
 refine GL.bA #[.int .i64 xN, .int .i64 xD] fun g21 => ?_
 refine GL.bA #[.int .i64 zN, .int .i64 zD] fun g22 => ?_
 refine GL.aA zer103 fun g23 => ?_
 refine GL.aA zer105 fun g24 => ?_
 refine GL.k k1 ?_
 refine CG.seq fun K_ k1 => ?_
 refine CG.lin 9 ?_
 refine GL.r (.agg #[.int .i64 xN, .int .i64 xD]) (fun _ hM => op_load_agg (off := 0) (by kernel_rfl) agg60 siz60 (hM.b 3 rfl) rfl rfl) ?_
 refine GL.call (fun _ hM => Both_ok hM.avlt xN xD (by first | assumption | omega) (by first | assumption | omega)) ?_
 rintro _ _ _ hM ⟨A25a, n25a, c25a, m25a, A25a_, n25a_, c25a_, s25b, A25b, n25b, c25b, s25b_, A25b_, n25b_, c25b_, rfl, h25a, h25b, hb⟩
 have hz25 := numv_sz xN xD (by assumption) (by assumption)
 refine ⟨_, _, _, rfl, ((hM.call hb).add h25a).add h25b, ?_⟩
 refine GL.v (.tuple #[.agg #[.slice A25a n25a c25a, .bool m25a, .slice A25a_ n25a_ c25a_], .agg #[.int .i64 s25b, .slice A25b n25b c25b, .int .i64 s25b_, .slice A25b_ n25b_ c25b_]]) ?_
 refine GL.v (.agg #[.slice A25a n25a c25a, .bool m25a, .slice A25a_ n25a_ c25a_]) ?_
 refine GL.v (.agg #[.int .i64 s25b, .slice A25b n25b c25b, .int .i64 s25b_, .slice A25b_ n25b_ c25b_]) ?_
 refine GL.aA zer48 fun g26 => ?_
 refine GL.aA zer54 fun g27 => ?_
 refine GL.sA (cs' := #[.slice A25a n25a c25a, .bool m25a, .slice A25a_ n25a_ c25a_]) (fun _ _ => Mem.st1) (fun _ hM => hM.b 1 rfl) siz48 ?_
 refine GL.sA (cs' := #[.int .i64 s25b, .slice A25b n25b c25b, .int .i64 s25b_, .slice A25b_ n25b_ c25b_]) (fun _ _ => Mem.st0) (fun _ hM => hM.b 0 rfl) siz54 ?_
 refine GL.k k1 ?_
 refine CG.seq fun K_ k1 => ?_
 refine CG.lin 9 ?_
 refine GL.r (.agg #[.int .i64 zN, .int .i64 zD]) (fun _ hM => op_load_agg (off := 0) (by kernel_rfl) agg60 siz60 (hM.b 4 rfl) rfl rfl) ?_
 refine GL.call (fun _ hM => Both_ok hM.avlt zN zD (by first | assumption | omega) (by first | assumption | omega)) ?_
 rintro _ _ _ hM ⟨A28a, n28a, c28a, m28a, A28a_, n28a_, c28a_, s28b, A28b, n28b, c28b, s28b_, A28b_, n28b_, c28b_, rfl, h28a, h28b, hb⟩
 have hz28 := numv_sz zN zD (by assumption) (by assumption)
 refine ⟨_, _, _, rfl, ((hM.call hb).add h28a).add h28b, ?_⟩
 refine GL.v (.tuple #[.agg #[.slice A28a n28a c28a, .bool m28a, .slice A28a_ n28a_ c28a_], .agg #[.int .i64 s28b, .slice A28b n28b c28b, .int .i64 s28b_, .slice A28b_ n28b_ c28b_]]) ?_
 refine GL.v (.agg #[.slice A28a n28a c28a, .bool m28a, .slice A28a_ n28a_ c28a_]) ?_
 refine GL.v (.agg #[.int .i64 s28b, .slice A28b n28b c28b, .int .i64 s28b_, .slice A28b_ n28b_ c28b_]) ?_
 refine GL.aA zer48 fun g29 => ?_
 refine GL.aA zer54 fun g30 => ?_
 refine GL.sA (cs' := #[.slice A28a n28a c28a, .bool m28a, .slice A28a_ n28a_ c28a_]) (fun _ _ => Mem.st1) (fun _ hM => hM.b 1 rfl) siz48 ?_
 refine GL.sA (cs' := #[.int .i64 s28b, .slice A28b n28b c28b, .int .i64 s28b_, .slice A28b_ n28b_ c28b_]) (fun _ _ => Mem.st0) (fun _ hM => hM.b 0 rfl) siz54 ?_
 refine GL.k k1 ?_
 refine CG.seq fun K_ k1 => ?_
 refine CG.draw [g23] [0, 1, 2, 3, 4, 5] (.step 0 (.step 1 (.step 2 (.step 3 (.step 4 (.step 5 (.step 6 (.step 7 .done)))))))) (fun V hV31 => ?_)
 refine GD.er (.agg #[.slice A25a n25a c25a, .bool m25a, .slice A25a_ n25a_ c25a_]) (fun _ hS => op_load_agg (off := 0) (by kernel_rfl) agg48 siz48 (hV31.bS 3 rfl hS (by simp only [List.mem_cons, List.not_mem_nil, or_false, not_or]; exact hV31.ne 3 5 rfl rfl (by decide))) rfl rfl) ?_
 refine GD.er (.agg #[.slice A28a n28a c28a, .bool m28a, .slice A28a_ n28a_ c28a_]) (fun _ hS => op_load_agg (off := 0) (by kernel_rfl) agg48 siz48 (hV31.bS 1 rfl hS (by simp only [List.mem_cons, List.not_mem_nil, or_false, not_or]; exact hV31.ne 1 5 rfl rfl (by decide))) rfl rfl) ?_
 refine GD.ev (.agg #[.slice A25a n25a c25a, .bool m25a, .slice A25a_ n25a_ c25a_, .slice A28a n28a c28a, .bool m28a, .slice A28a_ n28a_ c28a_]) ?_
 refine GD.er (.agg #[.int .i64 s25b, .slice A25b n25b c25b, .int .i64 s25b_, .slice A25b_ n25b_ c25b_]) (fun _ hS => op_load_agg (off := 0) (by kernel_rfl) agg54 siz54 (hV31.bS 2 rfl hS (by simp only [List.mem_cons, List.not_mem_nil, or_false, not_or]; exact hV31.ne 2 5 rfl rfl (by decide))) rfl rfl) ?_
 refine GD.er (.agg #[.int .i64 s28b, .slice A28b n28b c28b, .int .i64 s28b_, .slice A28b_ n28b_ c28b_]) (fun _ hS => op_load_agg (off := 0) (by kernel_rfl) agg54 siz54 (hV31.bS 0 rfl hS (by simp only [List.mem_cons, List.not_mem_nil, or_false, not_or]; exact hV31.ne 0 5 rfl rfl (by decide))) rfl rfl) ?_
 refine GD.ev (.agg #[.int .i64 s25b, .slice A25b n25b c25b, .int .i64 s25b_, .slice A25b_ n25b_ c25b_, .int .i64 s28b, .slice A28b n28b c28b, .int .i64 s28b_, .slice A28b_ n28b_ c28b_]) ?_
 refine GD.st (fun _ _ => Mem.st5) (fun _ hM => store_all (cs' := #[.slice A25a n25a c25a, .bool m25a, .slice A25a_ n25a_ c25a_, .slice A28a n28a c28a, .bool m28a, .slice A28a_ n28a_ c28a_]) siz103 (hM.b 5 rfl) (by kernel_rfl) (by kernel_rfl) rfl rfl rfl) ?_
 refine GD.st (fun _ _ => Mem.st4) (fun _ hM => store_all (cs' := #[.int .i64 s25b, .slice A25b n25b c25b, .int .i64 s25b_, .slice A25b_ n25b_ c25b_, .int .i64 s28b, .slice A28b n28b c28b, .int .i64 s28b_, .slice A28b_ n28b_ c28b_]) siz105 (hM.b 4 rfl) (by kernel_rfl) (by kernel_rfl) rfl (by kernel_rfl) (by kernel_rfl)) ?_
 refine GD.k k1 ?_
 refine CG.ret (QG.ret (fun _ hM => results_two rfl (res_cell rfl (loadVar_agg agg103 siz103 (hM.b 5 rfl) rfl rfl)) (res_cell rfl (loadVar_agg agg105 siz105 (hM.b 4 rfl) rfl rfl))) ?_)
 intro _ hM
 exact ⟨_, _, _, _, _, _, _, _, _, _, _, _, _, _, _, _, _, _, _, _, _, _, _, _, _, _, _, _, _, _, rfl, (hM.out (Vk.of (hM.f 3 rfl) (hM.f 1 rfl))), (hM.out (NVk.of (hM.f 2 rfl) (hM.f 0 rfl))), hM.below⟩

set_option maxRecDepth 100000 in
set_option maxHeartbeats 400000 in
theorem both_mul {w : World} {X : Nat → Prop} {A2 : Option Addr} {n2 : Nat} {c2 : Nat} {m2 : Bool} {A2_ : Option Addr} {n2_ : Nat} {c2_ : Nat} {A2z : Option Addr} {n2z : Nat} {c2z : Nat} {m2z : Bool} {A2z_ : Option Addr} {n2z_ : Nat} {c2z_ : Nat} {a : Rat × Rat} {A3 : Option Addr} {n3 : Nat} {c3 : Nat} {m3 : Bool} {A3_ : Option Addr} {n3_ : Nat} {c3_ : Nat} {A3z : Option Addr} {n3z : Nat} {c3z : Nat} {m3z : Bool} {A3z_ : Option Addr} {n3z_ : Nat} {c3z_ : Nat} {b : Rat × Rat} (hX : ∀ k, X k → k < w.heap.size) (h2 : Vk.R X w [.slice A2 n2 c2, .bool m2, .slice A2_ n2_ c2_, .slice A2z n2z c2z, .bool m2z, .slice A2z_ n2z_ c2z_] a) (h3 : Vk.R X w [.slice A3 n3 c3, .bool m3, .slice A3_ n3_ c3_, .slice A3z n3z c3z, .bool m3z, .slice A3z_ n3z_ c3z_] b) (p1 : szR a.1 + szR b.1 ≤ 68719476736) (p2 : szR a.2 + szR b.2 ≤ 68719476736) :
    Calls Tryz.prog 126 #[.func (.func 71) #[] #[], .agg #[.slice A2 n2 c2, .bool m2, .slice A2_ n2_ c2_, .slice A2z n2z c2z, .bool m2z, .slice A2z_ n2z_ c2z_], .agg #[.slice A3 n3 c3, .bool m3, .slice A3_ n3_ c3_, .slice A3z n3z c3z, .bool m3z, .slice A3z_ n3z_ c3z_]] w (fun e w' => ∃ Ar nr cr mr Ar_ nr_ cr_ Arz nrz crz mrz Arz_ nrz_ crz_, e = .returned (.agg #[.slice Ar nr cr, .bool mr, .slice Ar_ nr_ cr_, .slice Arz nrz crz, .bool mrz, .slice Arz_ nrz_ crz_]) ∧ Vk.R X w' [.slice Ar nr cr, .bool mr, .slice Ar_ nr_ cr_, .slice Arz nrz crz, .bool mrz, .slice Arz_ nrz_ crz_] (a.1 * b.1, a.2 * b.2) ∧ Below w.heap.size w w') := by
 have hM := ((Mem.start hX).add0 h2).add0 h3
 refine calls_of hM Tryz.func126 Tryz.ntmps126 ?_
 refine CG.seq fun K_ k1 => ?_
 refine CG.lin 3 ?_
 refine GL.bA #[.slice A2 n2 c2, .bool m2, .slice A2_ n2_ c2_, .slice A2z n2z c2z, .bool m2z, .slice A2z_ n2z_ c2z_] fun g21 => ?_
 refine GL.bA #[.slice A3 n3 c3, .bool m3, .slice A3_ n3_ c3_, .slice A3z n3z c3z, .bool m3z, .slice A3z_ n3z_ c3z_] fun g22 => ?_
 refine GL.aA zer103 fun g23 => ?_
 refine GL.k k1 ?_
 refine CG.seq fun K_ k1 => ?_
 refine CG.draw [] [0, 1, 2, 3, 4, 6, 7, 8, 9, 10, 12] (.step 0 (.step 1 (.step 2 (.step 3 (.step 4 (.step 6 (.step 7 (.step 8 (.step 9 (.step 10 (.step 5 (.step 11 (.step 12 (.step 13 .done)))))))))))))) (fun V hV24 => ?_)
 refine GD.ev (.func (.func 71) #[] #[]) ?_
 refine GD.ev (.pointer (some ⟨g21, 0, none⟩)) ?_
 refine GD.er (.agg #[.slice A2 n2 c2, .bool m2, .slice A2_ n2_ c2_]) (fun _ hS => op_load_agg (off := 0) (by kernel_rfl) agg48 siz48 (hV24.bS 2 rfl hS) rfl rfl) ?_
 refine GD.ev (.pointer (some ⟨g22, 0, none⟩)) ?_
 refine GD.er (.agg #[.slice A3 n3 c3, .bool m3, .slice A3_ n3_ c3_]) (fun _ hS => op_load_agg (off := 0) (by kernel_rfl) agg48 siz48 (hV24.bS 1 rfl hS) rfl rfl) ?_
 refine GD.ev (.func (.func 71) #[] #[]) ?_
 refine GD.ev (.pointer (some ⟨g21, 3, none⟩)) ?_
 refine GD.er (.agg #[.slice A2z n2z c2z, .bool m2z, .slice A2z_ n2z_ c2z_]) (fun _ hS => op_load_agg (off := 3) (by kernel_rfl) agg48 siz48 (hV24.bS 2 rfl hS) rfl rfl) ?_
 refine GD.ev (.pointer (some ⟨g22, 3, none⟩)) ?_
 refine GD.er (.agg #[.slice A3z n3z c3z, .bool m3z, .slice A3z_ n3z_ c3z_]) (fun _ hS => op_load_agg (off := 3) (by kernel_rfl) agg48 siz48 (hV24.bS 1 rfl hS) rfl rfl) ?_
 refine GD.call (fun _ hM => RMul_ok hM.avlt (Vk.fst (hM.f 1 rfl)) (Vk.fst (hM.f 0 rfl)) (by first | assumption | omega | (dsimp only; omega))) ?_
 rintro _ _ _ hM ⟨A25, n25, c25, m25, A25_, n25_, c25_, rfl, h25, hb⟩
 have hs25 := szR_mul a.1 b.1
 refine ⟨_, _, _, rfl, hb, (hM.call hb).add h25, ?_⟩
 refine GD.call (fun _ hM => RMul_ok hM.avlt (Vk.snd (hM.f 2 rfl)) (Vk.snd (hM.f 1 rfl)) (by first | assumption | omega | (dsimp only; omega))) ?_
 rintro _ _ _ hM ⟨A26, n26, c26, m26, A26_, n26_, c26_, rfl, h26, hb⟩
 have hs26 := szR_mul a.2 b.2
 refine ⟨_, _, _, rfl, hb, (hM.call hb).add h26, ?_⟩
 refine GD.ev (.agg #[.slice A25 n25 c25, .bool m25, .slice A25_ n25_ c25_, .slice A26 n26 c26, .bool m26, .slice A26_ n26_ c26_]) ?_
 refine GD.st (fun _ _ => Mem.st0) (fun _ hM => store_all (cs' := #[.slice A25 n25 c25, .bool m25, .slice A25_ n25_ c25_, .slice A26 n26 c26, .bool m26, .slice A26_ n26_ c26_]) siz103 (hM.b 0 rfl) (by kernel_rfl) (by kernel_rfl) rfl rfl rfl) ?_
 refine GD.k k1 ?_
 refine CG.ret (QG.ret (fun _ hM => results_one rfl (res_cell rfl (loadVar_agg agg103 siz103 (hM.b 0 rfl) rfl rfl))) ?_)
 intro _ hM
 exact ⟨_, _, _, _, _, _, _, _, _, _, _, _, _, _, rfl, (hM.out (Vk.of (hM.f 1 rfl) (hM.f 0 rfl))), hM.below⟩

set_option maxRecDepth 100000 in
set_option maxHeartbeats 400000 in
theorem VScale_ok {w : World} {X : Nat → Prop} {A1 : Option Addr} {n1 : Nat} {c1 : Nat} {m1 : Bool} {A1_ : Option Addr} {n1_ : Nat} {c1_ : Nat} {A1z : Option Addr} {n1z : Nat} {c1z : Nat} {m1z : Bool} {A1z_ : Option Addr} {n1z_ : Nat} {c1z_ : Nat} {a : Rat × Rat} {A2 : Option Addr} {n2 : Nat} {c2 : Nat} {m2 : Bool} {A2_ : Option Addr} {n2_ : Nat} {c2_ : Nat} {k : Rat} (hX : ∀ k, X k → k < w.heap.size) (h1 : Vk.R X w [.slice A1 n1 c1, .bool m1, .slice A1_ n1_ c1_, .slice A1z n1z c1z, .bool m1z, .slice A1z_ n1z_ c1z_] a) (h2 : Rk.R X w [.slice A2 n2 c2, .bool m2, .slice A2_ n2_ c2_] k) (p1 : szR a.1 + szR k ≤ 68719476736) (p2 : szR a.2 + szR k ≤ 68719476736) :
    Calls Tryz.prog 90 #[.agg #[.slice A1 n1 c1, .bool m1, .slice A1_ n1_ c1_, .slice A1z n1z c1z, .bool m1z, .slice A1z_ n1z_ c1z_], .agg #[.slice A2 n2 c2, .bool m2, .slice A2_ n2_ c2_]] w (fun e w' => ∃ Ar nr cr mr Ar_ nr_ cr_ Arz nrz crz mrz Arz_ nrz_ crz_, e = .returned (.agg #[.slice Ar nr cr, .bool mr, .slice Ar_ nr_ cr_, .slice Arz nrz crz, .bool mrz, .slice Arz_ nrz_ crz_]) ∧ Vk.R X w' [.slice Ar nr cr, .bool mr, .slice Ar_ nr_ cr_, .slice Arz nrz crz, .bool mrz, .slice Arz_ nrz_ crz_] (a.1 * k, a.2 * k) ∧ Below w.heap.size w w') := by
 have hM := ((Mem.start hX).add0 h1).add0 h2
 refine calls_of hM Tryz.func90 Tryz.ntmps90 ?_
 refine CG.seq fun K_ k1 => ?_
 refine CG.lin 3 ?_
 refine GL.bA #[.slice A1 n1 c1, .bool m1, .slice A1_ n1_ c1_, .slice A1z n1z c1z, .bool m1z, .slice A1z_ n1z_ c1z_] fun g21 => ?_
 refine GL.bA #[.slice A2 n2 c2, .bool m2, .slice A2_ n2_ c2_] fun g22 => ?_
 refine GL.aA zer103 fun g23 => ?_
 refine GL.k k1 ?_
 refine CG.seq fun K_ k1 => ?_
 refine CG.lin 6 ?_
 refine GL.r (.agg #[.slice A1 n1 c1, .bool m1, .slice A1_ n1_ c1_, .slice A1z n1z c1z, .bool m1z, .slice A1z_ n1z_ c1z_]) (fun _ hM => op_load_agg (off := 0) (by kernel_rfl) agg103 siz103 (hM.b 2 rfl) rfl rfl) ?_
 refine GL.r (.agg #[.slice A2 n2 c2, .bool m2, .slice A2_ n2_ c2_]) (fun _ hM => op_load_agg (off := 0) (by kernel_rfl) agg48 siz48 (hM.b 1 rfl) rfl rfl) ?_
 refine GL.r (.agg #[.slice A2 n2 c2, .bool m2, .slice A2_ n2_ c2_]) (fun _ hM => op_load_agg (off := 0) (by kernel_rfl) agg48 siz48 (hM.b 1 rfl) rfl rfl) ?_
 refine GL.v (.agg #[.slice A2 n2 c2, .bool m2, .slice A2_ n2_ c2_, .slice A2 n2 c2, .bool m2, .slice A2_ n2_ c2_]) ?_
 refine GL.call (fun _ hM => both_mul hM.avlt (hM.f 1 rfl) (Vk.of (hM.f 0 rfl) (hM.f 0 rfl)) (by first | assumption | omega | (dsimp only; omega)) (by first | assumption | omega | (dsimp only; omega))) ?_
 rintro _ _ _ hM ⟨A24, n24, c24, m24, A24_, n24_, c24_, A24z, n24z, c24z, m24z, A24z_, n24z_, c24z_, rfl, h24, hb⟩
 refine ⟨_, _, _, rfl, (hM.call hb).add h24, ?_⟩
 refine GL.sA (cs' := #[.slice A24 n24 c24, .bool m24, .slice A24_ n24_ c24_, .slice A24z n24z c24z, .bool m24z, .slice A24z_ n24z_ c24z_]) (fun _ _ => Mem.st0) (fun _ hM => hM.b 0 rfl) siz103 ?_
 refine GL.k k1 ?_
 refine CG.ret (QG.ret (fun _ hM => results_one rfl (res_cell rfl (loadVar_agg agg103 siz103 (hM.b 0 rfl) rfl rfl))) ?_)
 intro _ hM
 exact ⟨_, _, _, _, _, _, _, _, _, _, _, _, _, _, rfl, (hM.out (hM.f 0 rfl)), hM.below⟩

set_option maxRecDepth 100000 in
set_option maxHeartbeats 400000 in
theorem Dot_ok {w : World} {X : Nat → Prop} {A1 : Option Addr} {n1 : Nat} {c1 : Nat} {m1 : Bool} {A1_ : Option Addr} {n1_ : Nat} {c1_ : Nat} {A1z : Option Addr} {n1z : Nat} {c1z : Nat} {m1z : Bool} {A1z_ : Option Addr} {n1z_ : Nat} {c1z_ : Nat} {a : Rat × Rat} {A2 : Option Addr} {n2 : Nat} {c2 : Nat} {m2 : Bool} {A2_ : Option Addr} {n2_ : Nat} {c2_ : Nat} {A2z : Option Addr} {n2z : Nat} {c2z : Nat} {m2z : Bool} {A2z_ : Option Addr} {n2z_ : Nat} {c2z_ : Nat} {b : Rat × Rat} (hX : ∀ k, X k → k < w.heap.size) (h1 : Vk.R X w [.slice A1 n1 c1, .bool m1, .slice A1_ n1_ c1_, .slice A1z n1z c1z, .bool m1z, .slice A1z_ n1z_ c1z_] a) (h2 : Vk.R X w [.slice A2 n2 c2, .bool m2, .slice A2_ n2_ c2_, .slice A2z n2z c2z, .bool m2z, .slice A2z_ n2z_ c2z_] b) (p1 : szR a.1 + szR b.1 + (szR a.2 + szR b.2) ≤ 68719476736) :
    Calls Tryz.prog 92 #[.agg #[.slice A1 n1 c1, .bool m1, .slice A1_ n1_ c1_, .slice A1z n1z c1z, .bool m1z, .slice A1z_ n1z_ c1z_], .agg #[.slice A2 n2 c2, .bool m2, .slice A2_ n2_ c2_, .slice A2z n2z c2z, .bool m2z, .slice A2z_ n2z_ c2z_]] w (fun e w' => ∃ Ar nr cr mr Ar_ nr_ cr_, e = .returned (.agg #[.slice Ar nr cr, .bool mr, .slice Ar_ nr_ cr_]) ∧ Rk.R X w' [.slice Ar nr cr, .bool mr, .slice Ar_ nr_ cr_] (a.1 * b.1 + a.2 * b.2) ∧ Below w.heap.size w w') := by
 have hM := ((Mem.start hX).add0 h1).add0 h2
 refine calls_of hM Tryz.func92 Tryz.ntmps92 ?_
 refine CG.seq fun K_ k1 => ?_
 refine CG.lin 3 ?_
 refine GL.bA #[.slice A1 n1 c1, .bool m1, .slice A1_ n1_ c1_, .slice A1z n1z c1z, .bool m1z, .slice A1z_ n1z_ c1z_] fun g21 => ?_
 refine GL.bA #[.slice A2 n2 c2, .bool m2, .slice A2_ n2_ c2_, .slice A2z n2z c2z, .bool m2z, .slice A2z_ n2z_ c2z_] fun g22 => ?_
 refine GL.aA zer48 fun g23 => ?_
 refine GL.k k1 ?_
 refine CG.seq fun K_ k1 => ?_
 refine CG.draw [] [0, 1, 2, 3, 5, 6, 7, 8] (.step 0 (.step 1 (.step 2 (.step 3 (.step 5 (.step 6 (.step 7 (.step 8 (.step 4 (.step 9 (.step 10 (.step 11 .done)))))))))))) (fun V hV24 => ?_)
 refine GD.ev (.pointer (some ⟨g21, 0, none⟩)) ?_
 refine GD.er (.agg #[.slice A1 n1 c1, .bool m1, .slice A1_ n1_ c1_]) (fun _ hS => op_load_agg (off := 0) (by kernel_rfl) agg48 siz48 (hV24.bS 2 rfl hS) rfl rfl) ?_
 refine GD.ev (.pointer (some ⟨g22, 0, none⟩)) ?_
 refine GD.er (.agg #[.slice A2 n2 c2, .bool m2, .slice A2_ n2_ c2_]) (fun _ hS => op_load_agg (off := 0) (by kernel_rfl) agg48 siz48 (hV24.bS 1 rfl hS) rfl rfl) ?_
 refine GD.ev (.pointer (some ⟨g21, 3, none⟩)) ?_
 refine GD.er (.agg #[.slice A1z n1z c1z, .bool m1z, .slice A1z_ n1z_ c1z_]) (fun _ hS => op_load_agg (off := 3) (by kernel_rfl) agg48 siz48 (hV24.bS 2 rfl hS) rfl rfl) ?_
 refine GD.ev (.pointer (some ⟨g22, 3, none⟩)) ?_
 refine GD.er (.agg #[.slice A2z n2z c2z, .bool m2z, .slice A2z_ n2z_ c2z_]) (fun _ hS => op_load_agg (off := 3) (by kernel_rfl) agg48 siz48 (hV24.bS 1 rfl hS) rfl rfl) ?_
 refine GD.call (fun _ hM => RMul_ok hM.avlt (Vk.fst (hM.f 1 rfl)) (Vk.fst (hM.f 0 rfl)) (by first | assumption | omega | (dsimp only; omega))) ?_
 rintro _ _ _ hM ⟨A25, n25, c25, m25, A25_, n25_, c25_, rfl, h25, hb⟩
 have hs25 := szR_mul a.1 b.1
 refine ⟨_, _, _, rfl, hb, (hM.call hb).add h25, ?_⟩
 refine GD.call (fun _ hM => RMul_ok hM.avlt (Vk.snd (hM.f 2 rfl)) (Vk.snd (hM.f 1 rfl)) (by first | assumption | omega | (dsimp only; omega))) ?_
 rintro _ _ _ hM ⟨A26, n26, c26, m26, A26_, n26_, c26_, rfl, h26, hb⟩
 have hs26 := szR_mul a.2 b.2
 refine ⟨_, _, _, rfl, hb, (hM.call hb).add h26, ?_⟩
 refine GD.call (fun _ hM => RAdd_ok hM.avlt (hM.f 1 rfl) (hM.f 0 rfl) (by first | assumption | omega | (dsimp only; omega))) ?_
 rintro _ _ _ hM ⟨A27, n27, c27, m27, A27_, n27_, c27_, rfl, h27, hb⟩
 have hs27 := szR_add (a.1 * b.1) (a.2 * b.2)
 refine ⟨_, _, _, rfl, hb, (hM.call hb).add h27, ?_⟩
 refine GD.st (fun _ _ => Mem.st0) (fun _ hM => store_all (cs' := #[.slice A27 n27 c27, .bool m27, .slice A27_ n27_ c27_]) siz48 (hM.b 0 rfl) (by kernel_rfl) (by kernel_rfl) rfl rfl rfl) ?_
 refine GD.k k1 ?_
 refine CG.ret (QG.ret (fun _ hM => results_one rfl (res_cell rfl (loadVar_agg agg48 siz48 (hM.b 0 rfl) rfl rfl))) ?_)
 intro _ hM
 exact ⟨_, _, _, _, _, _, _, rfl, (hM.out (hM.f 0 rfl)), hM.below⟩

set_option maxRecDepth 100000 in
set_option maxHeartbeats 400000 in
theorem Cross_ok {w : World} {X : Nat → Prop} {A1 : Option Addr} {n1 : Nat} {c1 : Nat} {m1 : Bool} {A1_ : Option Addr} {n1_ : Nat} {c1_ : Nat} {A1z : Option Addr} {n1z : Nat} {c1z : Nat} {m1z : Bool} {A1z_ : Option Addr} {n1z_ : Nat} {c1z_ : Nat} {a : Rat × Rat} {A2 : Option Addr} {n2 : Nat} {c2 : Nat} {m2 : Bool} {A2_ : Option Addr} {n2_ : Nat} {c2_ : Nat} {A2z : Option Addr} {n2z : Nat} {c2z : Nat} {m2z : Bool} {A2z_ : Option Addr} {n2z_ : Nat} {c2z_ : Nat} {b : Rat × Rat} (hX : ∀ k, X k → k < w.heap.size) (h1 : Vk.R X w [.slice A1 n1 c1, .bool m1, .slice A1_ n1_ c1_, .slice A1z n1z c1z, .bool m1z, .slice A1z_ n1z_ c1z_] a) (h2 : Vk.R X w [.slice A2 n2 c2, .bool m2, .slice A2_ n2_ c2_, .slice A2z n2z c2z, .bool m2z, .slice A2z_ n2z_ c2z_] b) (p1 : szR a.1 + szR b.1 + (szR a.2 + szR b.2) ≤ 68719476736) :
    Calls Tryz.prog 94 #[.agg #[.slice A1 n1 c1, .bool m1, .slice A1_ n1_ c1_, .slice A1z n1z c1z, .bool m1z, .slice A1z_ n1z_ c1z_], .agg #[.slice A2 n2 c2, .bool m2, .slice A2_ n2_ c2_, .slice A2z n2z c2z, .bool m2z, .slice A2z_ n2z_ c2z_]] w (fun e w' => ∃ Ar nr cr mr Ar_ nr_ cr_, e = .returned (.agg #[.slice Ar nr cr, .bool mr, .slice Ar_ nr_ cr_]) ∧ Rk.R X w' [.slice Ar nr cr, .bool mr, .slice Ar_ nr_ cr_] (a.1 * b.2 - a.2 * b.1) ∧ Below w.heap.size w w') := by
 have hM := ((Mem.start hX).add0 h1).add0 h2
 refine calls_of hM Tryz.func94 Tryz.ntmps94 ?_
 refine CG.seq fun K_ k1 => ?_
 refine CG.lin 3 ?_
 refine GL.bA #[.slice A1 n1 c1, .bool m1, .slice A1_ n1_ c1_, .slice A1z n1z c1z, .bool m1z, .slice A1z_ n1z_ c1z_] fun g21 => ?_
 refine GL.bA #[.slice A2 n2 c2, .bool m2, .slice A2_ n2_ c2_, .slice A2z n2z c2z, .bool m2z, .slice A2z_ n2z_ c2z_] fun g22 => ?_
 refine GL.aA zer48 fun g23 => ?_
 refine GL.k k1 ?_
 refine CG.seq fun K_ k1 => ?_
 refine CG.draw [] [0, 1, 2, 3, 5, 6, 7, 8] (.step 0 (.step 1 (.step 2 (.step 3 (.step 5 (.step 6 (.step 7 (.step 8 (.step 4 (.step 9 (.step 10 (.step 11 .done)))))))))))) (fun V hV24 => ?_)
 refine GD.ev (.pointer (some ⟨g21, 0, none⟩)) ?_
 refine GD.er (.agg #[.slice A1 n1 c1, .bool m1, .slice A1_ n1_ c1_]) (fun _ hS => op_load_agg (off := 0) (by kernel_rfl) agg48 siz48 (hV24.bS 2 rfl hS) rfl rfl) ?_
 refine GD.ev (.pointer (some ⟨g22, 3, none⟩)) ?_
 refine GD.er (.agg #[.slice A2z n2z c2z, .bool m2z, .slice A2z_ n2z_ c2z_]) (fun _ hS => op_load_agg (off := 3) (by kernel_rfl) agg48 siz48 (hV24.bS 1 rfl hS) rfl rfl) ?_
 refine GD.ev (.pointer (some ⟨g21, 3, none⟩)) ?_
 refine GD.er (.agg #[.slice A1z n1z c1z, .bool m1z, .slice A1z_ n1z_ c1z_]) (fun _ hS => op_load_agg (off := 3) (by kernel_rfl) agg48 siz48 (hV24.bS 2 rfl hS) rfl rfl) ?_
 refine GD.ev (.pointer (some ⟨g22, 0, none⟩)) ?_
 refine GD.er (.agg #[.slice A2 n2 c2, .bool m2, .slice A2_ n2_ c2_]) (fun _ hS => op_load_agg (off := 0) (by kernel_rfl) agg48 siz48 (hV24.bS 1 rfl hS) rfl rfl) ?_
 refine GD.call (fun _ hM => RMul_ok hM.avlt (Vk.fst (hM.f 1 rfl)) (Vk.snd (hM.f 0 rfl)) (by first | assumption | omega | (dsimp only; omega))) ?_
 rintro _ _ _ hM ⟨A25, n25, c25, m25, A25_, n25_, c25_, rfl, h25, hb⟩
 have hs25 := szR_mul a.1 b.2
 refine ⟨_, _, _, rfl, hb, (hM.call hb).add h25, ?_⟩
 refine GD.call (fun _ hM => RMul_ok hM.avlt (Vk.snd (hM.f 2 rfl)) (Vk.fst (hM.f 1 rfl)) (by first | assumption | omega | (dsimp only; omega))) ?_
 rintro _ _ _ hM ⟨A26, n26, c26, m26, A26_, n26_, c26_, rfl, h26, hb⟩
 have hs26 := szR_mul a.2 b.1
 refine ⟨_, _, _, rfl, hb, (hM.call hb).add h26, ?_⟩
 refine GD.call (fun _ hM => RSub_ok hM.avlt (hM.f 1 rfl) (hM.f 0 rfl) (by first | assumption | omega | (dsimp only; omega))) ?_
 rintro _ _ _ hM ⟨A27, n27, c27, m27, A27_, n27_, c27_, rfl, h27, hb⟩
 have hs27 := szR_sub (a.1 * b.2) (a.2 * b.1)
 refine ⟨_, _, _, rfl, hb, (hM.call hb).add h27, ?_⟩
 refine GD.st (fun _ _ => Mem.st0) (fun _ hM => store_all (cs' := #[.slice A27 n27 c27, .bool m27, .slice A27_ n27_ c27_]) siz48 (hM.b 0 rfl) (by kernel_rfl) (by kernel_rfl) rfl rfl rfl) ?_
 refine GD.k k1 ?_
 refine CG.ret (QG.ret (fun _ hM => results_one rfl (res_cell rfl (loadVar_agg agg48 siz48 (hM.b 0 rfl) rfl rfl))) ?_)
 intro _ hM
 exact ⟨_, _, _, _, _, _, _, rfl, (hM.out (hM.f 0 rfl)), hM.below⟩

set_option maxRecDepth 100000 in
set_option maxHeartbeats 400000 in
theorem r_ok {w : World} {X : Nat → Prop} (hX : ∀ k, X k → k < w.heap.size) (s : List UInt8) (p1 : s.length ≤ 4611686018427387904) :
    Calls Tryz.prog 106 #[.string (bs s)] w (fun e w' => ∃ Ar nr cr mr Ar_ nr_ cr_, e = .returned (.agg #[.slice Ar nr cr, .bool mr, .slice Ar_ nr_ cr_]) ∧ Rk.R X w' [.slice Ar nr cr, .bool mr, .slice Ar_ nr_ cr_] ((parseR s).1) ∧ Below w.heap.size w w') := by
 have hM := Mem.start hX
 refine calls_of hM Tryz.func106 Tryz.ntmps106 ?_
 refine CG.seq fun K_ k1 => ?_
 refine CG.lin 1 ?_
 refine GL.aA zer48 fun g21 => ?_
 refine GL.k k1 ?_
 refine CG.seq fun K_ k1 => ?_
 refine CG.lin 8 ?_
 refine GL.v (.string (bs s)) ?_
 refine GL.call (fun _ hM => Parse_ok hM.avlt s (by first | assumption | omega)) ?_
 rintro _ _ _ hM ⟨A22a, n22a, c22a, m22a, A22a_, n22a_, c22a_, rfl, h22a, hb⟩
 refine ⟨_, _, _, rfl, (hM.call hb).add h22a, ?_⟩
 refine GL.v (.tuple #[.agg #[.slice A22a n22a c22a, .bool m22a, .slice A22a_ n22a_ c22a_], .int .i64 ((parseR s).2)]) ?_
 refine GL.v (.agg #[.slice A22a n22a c22a, .bool m22a, .slice A22a_ n22a_ c22a_]) ?_
 refine GL.v (.int .i64 ((parseR s).2)) ?_
 refine GL.aA zer48 fun g23 => ?_
 refine GL.sA (cs' := #[.slice A22a n22a c22a, .bool m22a, .slice A22a_ n22a_ c22a_]) (fun _ _ => Mem.st0) (fun _ hM => hM.b 0 rfl) siz48 ?_
 refine GL.v (.int .i64 ((parseR s).2)) ?_
 refine GL.k k1 ?_
 refine CG.seq fun K_ k1 => ?_
 refine CG.lin 2 ?_
 refine GL.r (.agg #[.slice A22a n22a c22a, .bool m22a, .slice A22a_ n22a_ c22a_]) (fun _ hM => op_load_agg (off := 0) (by kernel_rfl) agg48 siz48 (hM.b 0 rfl) rfl rfl) ?_
 refine GL.sA (cs' := #[.slice A22a n22a c22a, .bool m22a, .slice A22a_ n22a_ c22a_]) (fun _ _ => Mem.st1) (fun _ hM => hM.b 1 rfl) siz48 ?_
 refine GL.k k1 ?_
 refine CG.ret (QG.ret (fun _ hM => results_one rfl (res_cell rfl (loadVar_agg agg48 siz48 (hM.b 1 rfl) rfl rfl))) ?_)
 intro _ hM
 exact ⟨_, _, _, _, _, _, _, rfl, (hM.out (hM.f 0 rfl)), hM.below⟩

set_option maxRecDepth 100000 in
set_option maxHeartbeats 400000 in
theorem awake_ok {w : World} {X : Nat → Prop} (hX : ∀ k, X k → k < w.heap.size) :
    Calls Tryz.prog 19 #[] w (fun e w' => e = .returned (.bool true) ∧ Below w.heap.size w w') := by
 have hM := Mem.start hX
 obtain ⟨hz1, hz2⟩ := aw_szs
 refine calls_of hM Tryz.func19 Tryz.ntmps19 ?_
 refine CG.seq fun K_ k1 => ?_
 refine CG.lin 1 ?_
 refine GL.v (.bool false) ?_
 refine GL.k k1 ?_
 refine CG.seq fun K_ k1 => ?_
 refine CG.lin 12 ?_
 refine GL.call (fun _ hM => Int_ok hM.avlt (-7) (by first | assumption | omega)) ?_
 rintro _ _ _ hM ⟨A21, n21, c21, m21, rfl, h21, hb⟩
 have hs21 := sz_i64 (-7) (by omega)
 refine ⟨_, _, _, rfl, (hM.call hb).add h21, ?_⟩
 refine GL.call (fun _ hM => Int_ok hM.avlt (2) (by first | assumption | omega)) ?_
 rintro _ _ _ hM ⟨A22, n22, c22, m22, rfl, h22, hb⟩
 have hs22 := sz_i64 (2) (by omega)
 refine ⟨_, _, _, rfl, (hM.call hb).add h22, ?_⟩
 refine GL.call (fun _ hM => Quotient_ok hM.avlt (hM.f 1 rfl) (hM.f 0 rfl) (by first | assumption | omega) (by first | assumption | omega)) ?_
 rintro _ _ _ hM ⟨A23a, n23a, c23a, m23a, A23b, n23b, c23b, m23b, rfl, h23a, h23b, hb⟩
 have hs23 := sz_quo (-7) (2)
 have ht23 := sz_rem2 (-7) (2)
 refine ⟨_, _, _, rfl, ((hM.call hb).add h23a).add h23b, ?_⟩
 refine GL.v (.tuple #[.agg #[.slice A23a n23a c23a, .bool m23a], .agg #[.slice A23b n23b c23b, .bool m23b], .int .i64 0]) ?_
 refine GL.v (.agg #[.slice A23a n23a c23a, .bool m23a]) ?_
 refine GL.v (.agg #[.slice A23b n23b c23b, .bool m23b]) ?_
 refine GL.v (.int .i64 0) ?_
 refine GL.aA zer28 fun g24 => ?_
 refine GL.aA zer28 fun g25 => ?_
 refine GL.sA (cs' := #[.slice A23a n23a c23a, .bool m23a]) (fun _ _ => Mem.st1) (fun _ hM => hM.b 1 rfl) siz28 ?_
 refine GL.sA (cs' := #[.slice A23b n23b c23b, .bool m23b]) (fun _ _ => Mem.st0) (fun _ hM => hM.b 0 rfl) siz28 ?_
 refine GL.v (.int .i64 0) ?_
 refine GL.k k1 ?_
 refine CG.seq fun K_ k1 => ?_
 refine CG.lin 7 ?_
 refine GL.call (fun _ hM => Parse_ok hM.avlt [54, 47, 52] (by simp)) ?_
 rintro _ _ _ hM ⟨A26a, n26a, c26a, m26a, A26a_, n26a_, c26a_, rfl, h26a, hb⟩
 refine ⟨_, _, _, rfl, (hM.call hb).add h26a, ?_⟩
 refine GL.v (.tuple #[.agg #[.slice A26a n26a c26a, .bool m26a, .slice A26a_ n26a_ c26a_], .int .i64 ((parseR [54, 47, 52]).2)]) ?_
 refine GL.v (.agg #[.slice A26a n26a c26a, .bool m26a, .slice A26a_ n26a_ c26a_]) ?_
 refine GL.v (.int .i64 ((parseR [54, 47, 52]).2)) ?_
 refine GL.aA zer48 fun g27 => ?_
 refine GL.sA (cs' := #[.slice A26a n26a c26a, .bool m26a, .slice A26a_ n26a_ c26a_]) (fun _ _ => Mem.st0) (fun _ hM => hM.b 0 rfl) siz48 ?_
 refine GL.v (.int .i64 ((parseR [54, 47, 52]).2)) ?_
 refine GL.k k1 ?_
 refine CG.seq fun K_ k1 => ?_
 refine CG.lin 38 ?_
 refine GL.v (.int .i64 0) ?_
 refine GL.v (.bool true) ?_
 refine GL.v (.bool true) ?_
 refine GL.v (.int .i64 ((parseR [54, 47, 52]).2)) ?_
 refine GL.v (.bool true) ?_ (hr := fun u => op_b (b := (((parseR [54, 47, 52]).2) == (0 : Int))) (by kernel_rfl) (beq_iff_eq.2 aw3e))
 refine GL.v (.bool true) ?_
 refine GL.v (.bool true) ?_
 refine GL.r (.agg #[.slice A23a n23a c23a, .bool m23a]) (fun _ hM => op_load_agg (off := 0) (by kernel_rfl) agg28 siz28 (hM.b 2 rfl) rfl rfl) ?_
 refine GL.call (fun _ hM => ZText_ok hM.avlt (hM.f 2 rfl) (by first | assumption | omega)) ?_
 rintro _ _ _ hM ⟨rfl, hb⟩
 have hl28 := decZ_len (((-7) / 2))
 refine ⟨_, _, _, rfl, hM.call hb, ?_⟩
 refine GL.v (.bool true) ?_ (hr := fun u => op_b (b := (decide ((decZ ((-7) / 2)) = [45, 52]))) ((fun u => op_seq (L := decZ ((-7) / 2)) (K := [45, 52]) (by kernel_rfl) (by kernel_rfl)) u) (decide_eq_true (by first | exact aw1 | exact aw2 | exact aw3 | exact aw4 | exact aw5)))
 refine GL.v (.bool true) ?_
 refine GL.v (.bool true) ?_
 refine GL.r (.agg #[.slice A23b n23b c23b, .bool m23b]) (fun _ hM => op_load_agg (off := 0) (by kernel_rfl) agg28 siz28 (hM.b 1 rfl) rfl rfl) ?_
 refine GL.call (fun _ hM => ZText_ok hM.avlt (hM.f 1 rfl) (by first | assumption | omega)) ?_
 rintro _ _ _ hM ⟨rfl, hb⟩
 have hl29 := decZ_len (((-7) % 2))
 refine ⟨_, _, _, rfl, hM.call hb, ?_⟩
 refine GL.v (.bool true) ?_ (hr := fun u => op_b (b := (decide ((decZ ((-7) % 2)) = [49]))) ((fun u => op_seq (L := decZ ((-7) % 2)) (K := [49]) (by kernel_rfl) (by kernel_rfl)) u) (decide_eq_true (by first | exact aw1 | exact aw2 | exact aw3 | exact aw4 | exact aw5)))
 refine GL.v (.bool true) ?_
 refine GL.v (.bool true) ?_
 refine GL.r (.agg #[.slice A26a n26a c26a, .bool m26a, .slice A26a_ n26a_ c26a_]) (fun _ hM => op_load_agg (off := 0) (by kernel_rfl) agg48 siz48 (hM.b 0 rfl) rfl rfl) ?_
 refine GL.call (fun _ hM => RText_ok hM.avlt (hM.f 0 rfl) (by first | assumption | omega | (dsimp only; omega))) ?_
 rintro _ _ _ hM ⟨rfl, hb⟩
 have hl30 := decR_len (((parseR [54, 47, 52]).1))
 refine ⟨_, _, _, rfl, hM.call hb, ?_⟩
 refine GL.v (.bool true) ?_ (hr := fun u => op_b (b := (decide ((decR ((parseR [54, 47, 52]).1)) = [51, 47, 50]))) ((fun u => op_seq (L := decR ((parseR [54, 47, 52]).1)) (K := [51, 47, 50]) (by kernel_rfl) (by kernel_rfl)) u) (decide_eq_true (by first | exact aw1 | exact aw2 | exact aw3 | exact aw4 | exact aw5)))
 refine GL.v (.bool true) ?_
 refine GL.v (.bool true) ?_
 refine GL.call (fun _ hM => Int_ok hM.avlt (-12) (by first | assumption | omega)) ?_
 rintro _ _ _ hM ⟨A31, n31, c31, m31, rfl, h31, hb⟩
 have hs31 := sz_i64 (-12) (by omega)
 refine ⟨_, _, _, rfl, (hM.call hb).add h31, ?_⟩
 refine GL.call (fun _ hM => Int_ok hM.avlt (18) (by first | assumption | omega)) ?_
 rintro _ _ _ hM ⟨A32, n32, c32, m32, rfl, h32, hb⟩
 have hs32 := sz_i64 (18) (by omega)
 refine ⟨_, _, _, rfl, (hM.call hb).add h32, ?_⟩
 refine GL.call (fun _ hM => Gcd_ok hM.avlt (hM.f 1 rfl) (hM.f 0 rfl) (by first | assumption | omega)) ?_
 rintro _ _ _ hM ⟨A33, n33, c33, m33, rfl, h33, hb⟩
 have hs33 := sz_gcd2 (-12) (18)
 refine ⟨_, _, _, rfl, (hM.call hb).add h33, ?_⟩
 refine GL.call (fun _ hM => ZText_ok hM.avlt (hM.f 0 rfl) (by first | assumption | omega)) ?_
 rintro _ _ _ hM ⟨rfl, hb⟩
 have hl34 := decZ_len ((Int.gcd (-12) 18 : Int))
 refine ⟨_, _, _, rfl, hM.call hb, ?_⟩
 refine GL.v (.bool true) ?_ (hr := fun u => op_b (b := (decide ((decZ (Int.gcd (-12) 18 : Int)) = [54]))) ((fun u => op_seq (L := decZ (Int.gcd (-12) 18 : Int)) (K := [54]) (by kernel_rfl) (by kernel_rfl)) u) (decide_eq_true (by first | exact aw1 | exact aw2 | exact aw3 | exact aw4 | exact aw5)))
 refine GL.v (.bool true) ?_
 refine GL.v (.bool true) ?_
 refine GL.call (fun _ hM => r_ok hM.avlt [49, 47, 50] (by simp)) ?_
 rintro _ _ _ hM ⟨A35, n35, c35, m35, A35_, n35_, c35_, rfl, h35, hb⟩
 refine ⟨_, _, _, rfl, (hM.call hb).add h35, ?_⟩
 refine GL.call (fun _ hM => r_ok hM.avlt [49, 47, 51] (by simp)) ?_
 rintro _ _ _ hM ⟨A36, n36, c36, m36, A36_, n36_, c36_, rfl, h36, hb⟩
 refine ⟨_, _, _, rfl, (hM.call hb).add h36, ?_⟩
 refine GL.call (fun _ hM => r_ok hM.avlt [49, 47, 54] (by simp)) ?_
 rintro _ _ _ hM ⟨A37, n37, c37, m37, A37_, n37_, c37_, rfl, h37, hb⟩
 refine ⟨_, _, _, rfl, (hM.call hb).add h37, ?_⟩
 refine GL.lst (K := Rk) (T := 48) (k := 3) (xs := [(parseR [49, 47, 50]).1, (parseR [49, 47, 51]).1, (parseR [49, 47, 54]).1]) (fun u => op_build3 rowk97 rfl (by kernel_rfl) (by kernel_rfl) (by kernel_rfl) u) (fun _ _ _ hM hm hg => LKd.built3 hm hg (by decide) rfl rfl rfl (hM.f 2 rfl) (hM.f 1 rfl) (hM.f 0 rfl)) fun g38 => ?_
 refine GL.call (fun _ hM => Sum_ok hM.avlt (hM.f 0 rfl) aw_sum) ?_
 rintro _ _ _ hM ⟨A39, n39, c39, m39, A39_, n39_, c39_, rfl, h39, hb⟩
 refine ⟨_, _, _, rfl, (hM.call hb).add h39, ?_⟩
 refine GL.call (fun _ hM => RText_ok hM.avlt (hM.f 0 rfl) (by first | assumption | omega | (dsimp only; omega))) ?_
 rintro _ _ _ hM ⟨rfl, hb⟩
 have hl40 := decR_len ((foldR (· + ·) ([(parseR [49, 47, 50]).1, (parseR [49, 47, 51]).1, (parseR [49, 47, 54]).1])))
 refine ⟨_, _, _, rfl, hM.call hb, ?_⟩
 refine GL.v (.bool true) ?_ (hr := fun u => op_b (b := (decide ((decR (foldR (· + ·) ([(parseR [49, 47, 50]).1, (parseR [49, 47, 51]).1, (parseR [49, 47, 54]).1]))) = [49]))) ((fun u => op_seq (L := decR (foldR (· + ·) ([(parseR [49, 47, 50]).1, (parseR [49, 47, 51]).1, (parseR [49, 47, 54]).1]))) (K := [49]) (by kernel_rfl) (by kernel_rfl)) u) (decide_eq_true (by first | exact aw1 | exact aw2 | exact aw3 | exact aw4 | exact aw5)))
 refine GL.v (.bool true) ?_
 refine GL.v (.bool true) ?_
 refine GL.k k1 ?_
 refine CG.ret (QG.ret (fun _ hM => results_one rfl (res_tmp rfl)) ?_)
 intro _ hM
 exact ⟨rfl, hM.below⟩

set_option maxRecDepth 100000 in
set_option maxHeartbeats 400000 in
theorem turns_ok {w : World} {X : Nat → Prop} (hX : ∀ k, X k → k < w.heap.size) (xN : Int) (xD : Int) (wN : Int) (wD : Int) (uN : Int) (uD : Int) (vN : Int) (vD : Int) (kN : Int) (kD : Int) (p1 : -9223372036854775808 ≤ xN ∧ xN ≤ 9223372036854775807) (p2 : -9223372036854775808 ≤ xD ∧ xD ≤ 9223372036854775807) (p3 : -9223372036854775808 ≤ wN ∧ wN ≤ 9223372036854775807) (p4 : -9223372036854775808 ≤ wD ∧ wD ≤ 9223372036854775807) (p5 : -9223372036854775808 ≤ uN ∧ uN ≤ 9223372036854775807) (p6 : -9223372036854775808 ≤ uD ∧ uD ≤ 9223372036854775807) (p7 : -9223372036854775808 ≤ vN ∧ vN ≤ 9223372036854775807) (p8 : -9223372036854775808 ≤ vD ∧ vD ≤ 9223372036854775807) (p9 : -9223372036854775808 ≤ kN ∧ kN ≤ 9223372036854775807) (p10 : -9223372036854775808 ≤ kD ∧ kD ≤ 9223372036854775807) :
    Calls Tryz.prog 12 #[.agg #[.int .i64 xN, .int .i64 xD], .agg #[.int .i64 wN, .int .i64 wD], .agg #[.int .i64 uN, .int .i64 uD], .agg #[.int .i64 vN, .int .i64 vD], .agg #[.int .i64 kN, .int .i64 kD]] w (fun e w' => e = .returned (.bool true) ∧ Below w.heap.size w w') := by
 have hM := Mem.start hX
 refine calls_of hM Tryz.func12 Tryz.ntmps12 ?_
 refine CG.seq fun K_ k1 => ?_
 refine CG.lin 6 ?_
 refine GL.bA #[.int .i64 xN, .int .i64 xD] fun g21 => ?_
 refine GL.bA #[.int .i64 wN, .int .i64 wD] fun g22 => ?_
 refine GL.bA #[.int .i64 uN, .int .i64 uD] fun g23 => ?_
 refine GL.bA #[.int .i64 vN, .int .i64 vD] fun g24 => ?_
 refine GL.bA #[.int .i64 kN, .int .i64 kD] fun g25 => ?_
 refine GL.v (.bool false) ?_
 refine GL.k k1 ?_
 refine CG.seq fun K_ k1 => ?_
 refine CG.lin 10 ?_
 refine GL.r (.agg #[.int .i64 xN, .int .i64 xD]) (fun _ hM => op_load_agg (off := 0) (by kernel_rfl) agg60 siz60 (hM.b 4 rfl) rfl rfl) ?_
 refine GL.r (.agg #[.int .i64 wN, .int .i64 wD]) (fun _ hM => op_load_agg (off := 0) (by kernel_rfl) agg60 siz60 (hM.b 3 rfl) rfl rfl) ?_
 refine GL.call (fun _ hM => pair_ok hM.avlt xN xD wN wD (by first | assumption | (dsimp only; omega) | omega) (by first | assumption | (dsimp only; omega) | omega) (by first | assumption | (dsimp only; omega) | omega) (by first | assumption | (dsimp only; omega) | omega)) ?_
 rintro _ _ _ hM ⟨A26a, n26a, c26a, m26a, A26a_, n26a_, c26a_, A26az, n26az, c26az, m26az, A26az_, n26az_, c26az_, s26b, A26b, n26b, c26b, s26b_, A26b_, n26b_, c26b_, s26bz, A26bz, n26bz, c26bz, s26bz_, A26bz_, n26bz_, c26bz_, rfl, h26a, h26b, hb⟩
 have hz26 := numv_sz xN xD (by assumption) (by assumption)
 have hy26 := numv_sz wN wD (by assumption) (by assumption)
 refine ⟨_, _, _, rfl, ((hM.call hb).add h26a).add h26b, ?_⟩
 refine GL.v (.tuple #[.agg #[.slice A26a n26a c26a, .bool m26a, .slice A26a_ n26a_ c26a_, .slice A26az n26az c26az, .bool m26az, .slice A26az_ n26az_ c26az_], .agg #[.int .i64 s26b, .slice A26b n26b c26b, .int .i64 s26b_, .slice A26b_ n26b_ c26b_, .int .i64 s26bz, .slice A26bz n26bz c26bz, .int .i64 s26bz_, .slice A26bz_ n26bz_ c26bz_]]) ?_
 refine GL.v (.agg #[.slice A26a n26a c26a, .bool m26a, .slice A26a_ n26a_ c26a_, .slice A26az n26az c26az, .bool m26az, .slice A26az_ n26az_ c26az_]) ?_
 refine GL.v (.agg #[.int .i64 s26b, .slice A26b n26b c26b, .int .i64 s26b_, .slice A26b_ n26b_ c26b_, .int .i64 s26bz, .slice A26bz n26bz c26bz, .int .i64 s26bz_, .slice A26bz_ n26bz_ c26bz_]) ?_
 refine GL.aA zer103 fun g27 => ?_
 refine GL.aA zer105 fun g28 => ?_
 refine GL.sA (cs' := #[.slice A26a n26a c26a, .bool m26a, .slice A26a_ n26a_ c26a_, .slice A26az n26az c26az, .bool m26az, .slice A26az_ n26az_ c26az_]) (fun _ _ => Mem.st1) (fun _ hM => hM.b 1 rfl) siz103 ?_
 refine GL.sA (cs' := #[.int .i64 s26b, .slice A26b n26b c26b, .int .i64 s26b_, .slice A26b_ n26b_ c26b_, .int .i64 s26bz, .slice A26bz n26bz c26bz, .int .i64 s26bz_, .slice A26bz_ n26bz_ c26bz_]) (fun _ _ => Mem.st0) (fun _ hM => hM.b 0 rfl) siz105 ?_ (hall := by kernel_rfl) (hp := by kernel_rfl)
 refine GL.k k1 ?_
 refine CG.seq fun K_ k1 => ?_
 refine CG.lin 10 ?_
 refine GL.r (.agg #[.int .i64 uN, .int .i64 uD]) (fun _ hM => op_load_agg (off := 0) (by kernel_rfl) agg60 siz60 (hM.b 4 rfl) rfl rfl) ?_
 refine GL.r (.agg #[.int .i64 vN, .int .i64 vD]) (fun _ hM => op_load_agg (off := 0) (by kernel_rfl) agg60 siz60 (hM.b 3 rfl) rfl rfl) ?_
 refine GL.call (fun _ hM => pair_ok hM.avlt uN uD vN vD (by first | assumption | (dsimp only; omega) | omega) (by first | assumption | (dsimp only; omega) | omega) (by first | assumption | (dsimp only; omega) | omega) (by first | assumption | (dsimp only; omega) | omega)) ?_
 rintro _ _ _ hM ⟨A29a, n29a, c29a, m29a, A29a_, n29a_, c29a_, A29az, n29az, c29az, m29az, A29az_, n29az_, c29az_, s29b, A29b, n29b, c29b, s29b_, A29b_, n29b_, c29b_, s29bz, A29bz, n29bz, c29bz, s29bz_, A29bz_, n29bz_, c29bz_, rfl, h29a, h29b, hb⟩
 have hz29 := numv_sz uN uD (by assumption) (by assumption)
 have hy29 := numv_sz vN vD (by assumption) (by assumption)
 refine ⟨_, _, _, rfl, ((hM.call hb).add h29a).add h29b, ?_⟩
 refine GL.v (.tuple #[.agg #[.slice A29a n29a c29a, .bool m29a, .slice A29a_ n29a_ c29a_, .slice A29az n29az c29az, .bool m29az, .slice A29az_ n29az_ c29az_], .agg #[.int .i64 s29b, .slice A29b n29b c29b, .int .i64 s29b_, .slice A29b_ n29b_ c29b_, .int .i64 s29bz, .slice A29bz n29bz c29bz, .int .i64 s29bz_, .slice A29bz_ n29bz_ c29bz_]]) ?_
 refine GL.v (.agg #[.slice A29a n29a c29a, .bool m29a, .slice A29a_ n29a_ c29a_, .slice A29az n29az c29az, .bool m29az, .slice A29az_ n29az_ c29az_]) ?_
 refine GL.v (.agg #[.int .i64 s29b, .slice A29b n29b c29b, .int .i64 s29b_, .slice A29b_ n29b_ c29b_, .int .i64 s29bz, .slice A29bz n29bz c29bz, .int .i64 s29bz_, .slice A29bz_ n29bz_ c29bz_]) ?_
 refine GL.aA zer103 fun g30 => ?_
 refine GL.aA zer105 fun g31 => ?_
 refine GL.sA (cs' := #[.slice A29a n29a c29a, .bool m29a, .slice A29a_ n29a_ c29a_, .slice A29az n29az c29az, .bool m29az, .slice A29az_ n29az_ c29az_]) (fun _ _ => Mem.st1) (fun _ hM => hM.b 1 rfl) siz103 ?_
 refine GL.sA (cs' := #[.int .i64 s29b, .slice A29b n29b c29b, .int .i64 s29b_, .slice A29b_ n29b_ c29b_, .int .i64 s29bz, .slice A29bz n29bz c29bz, .int .i64 s29bz_, .slice A29bz_ n29bz_ c29bz_]) (fun _ _ => Mem.st0) (fun _ hM => hM.b 0 rfl) siz105 ?_ (hall := by kernel_rfl) (hp := by kernel_rfl)
 refine GL.k k1 ?_
 refine CG.seq fun K_ k1 => ?_
 refine CG.lin 9 ?_
 refine GL.r (.agg #[.int .i64 kN, .int .i64 kD]) (fun _ hM => op_load_agg (off := 0) (by kernel_rfl) agg60 siz60 (hM.b 4 rfl) rfl rfl) ?_
 refine GL.call (fun _ hM => Both_ok hM.avlt kN kD (by first | assumption | (dsimp only; omega) | omega) (by first | assumption | (dsimp only; omega) | omega)) ?_
 rintro _ _ _ hM ⟨A32a, n32a, c32a, m32a, A32a_, n32a_, c32a_, s32b, A32b, n32b, c32b, s32b_, A32b_, n32b_, c32b_, rfl, h32a, h32b, hb⟩
 have hz32 := numv_sz kN kD (by assumption) (by assumption)
 refine ⟨_, _, _, rfl, ((hM.call hb).add h32a).add h32b, ?_⟩
 refine GL.v (.tuple #[.agg #[.slice A32a n32a c32a, .bool m32a, .slice A32a_ n32a_ c32a_], .agg #[.int .i64 s32b, .slice A32b n32b c32b, .int .i64 s32b_, .slice A32b_ n32b_ c32b_]]) ?_
 refine GL.v (.agg #[.slice A32a n32a c32a, .bool m32a, .slice A32a_ n32a_ c32a_]) ?_
 refine GL.v (.agg #[.int .i64 s32b, .slice A32b n32b c32b, .int .i64 s32b_, .slice A32b_ n32b_ c32b_]) ?_
 refine GL.aA zer48 fun g33 => ?_
 refine GL.aA zer54 fun g34 => ?_
 refine GL.sA (cs' := #[.slice A32a n32a c32a, .bool m32a, .slice A32a_ n32a_ c32a_]) (fun _ _ => Mem.st1) (fun _ hM => hM.b 1 rfl) siz48 ?_
 refine GL.sA (cs' := #[.int .i64 s32b, .slice A32b n32b c32b, .int .i64 s32b_, .slice A32b_ n32b_ c32b_]) (fun _ _ => Mem.st0) (fun _ hM => hM.b 0 rfl) siz54 ?_
 refine GL.k k1 ?_
 refine CG.seq fun K_ k1 => ?_
 refine CG.cut (fun a_ u_ => ∃ (A36 : Option Addr) (n36 : Nat) (c36 : Nat) (m36 : Bool) (A36_ : Option Addr) (n36_ : Nat) (c36_ : Nat) (A37 : Option Addr) (n37 : Nat) (c37 : Nat) (m37 : Bool) (A37_ : Option Addr) (n37_ : Nat) (c37_ : Nat) (g38 : Nat) (g39 : Nat), a_ = ⟨#[.agg #[.int .i64 xN, .int .i64 xD], .agg #[.int .i64 wN, .int .i64 wD], .agg #[.int .i64 uN, .int .i64 uD], .agg #[.int .i64 vN, .int .i64 vD], .agg #[.int .i64 kN, .int .i64 kD], .pointer (some ⟨g21, 0, none⟩), .pointer (some ⟨g22, 0, none⟩), .pointer (some ⟨g23, 0, none⟩), .pointer (some ⟨g24, 0, none⟩), .pointer (some ⟨g25, 0, none⟩), .bool false, .pointer (some ⟨g27, 0, none⟩), .pointer (some ⟨g28, 0, none⟩), .pointer (some ⟨g30, 0, none⟩), .pointer (some ⟨g31, 0, none⟩), .pointer (some ⟨g33, 0, none⟩), .pointer (some ⟨g34, 0, none⟩), .pointer (some ⟨g38, 0, none⟩), .pointer (some ⟨g39, 0, none⟩), undef, .tuple #[.agg #[.slice A26a n26a c26a, .bool m26a, .slice A26a_ n26a_ c26a_, .slice A26az n26az c26az, .bool m26az, .slice A26az_ n26az_ c26az_], .agg #[.int .i64 s26b, .slice A26b n26b c26b, .int .i64 s26b_, .slice A26b_ n26b_ c26b_, .int .i64 s26bz, .slice A26bz n26bz c26bz, .int .i64 s26bz_, .slice A26bz_ n26bz_ c26bz_]], .agg #[.int .i64 xN, .int .i64 xD], .agg #[.int .i64 wN, .int .i64 wD], .tuple #[.agg #[.slice A26a n26a c26a, .bool m26a, .slice A26a_ n26a_ c26a_, .slice A26az n26az c26az, .bool m26az, .slice A26az_ n26az_ c26az_], .agg #[.int .i64 s26b, .slice A26b n26b c26b, .int .i64 s26b_, .slice A26b_ n26b_ c26b_, .int .i64 s26bz, .slice A26bz n26bz c26bz, .int .i64 s26bz_, .slice A26bz_ n26bz_ c26bz_]], .agg #[.slice A26a n26a c26a, .bool m26a, .slice A26a_ n26a_ c26a_, .slice A26az n26az c26az, .bool m26az, .slice A26az_ n26az_ c26az_], .agg #[.int .i64 s26b, .slice A26b n26b c26b, .int .i64 s26b_, .slice A26b_ n26b_ c26b_, .int .i64 s26bz, .slice A26bz n26bz c26bz, .int .i64 s26bz_, .slice A26bz_ n26bz_ c26bz_], .tuple #[.agg #[.slice A29a n29a c29a, .bool m29a, .slice A29a_ n29a_ c29a_, .slice A29az n29az c29az, .bool m29az, .slice A29az_ n29az_ c29az_], .agg #[.int .i64 s29b, .slice A29b n29b c29b, .int .i64 s29b_, .slice A29b_ n29b_ c29b_, .int .i64 s29bz, .slice A29bz n29bz c29bz, .int .i64 s29bz_, .slice A29bz_ n29bz_ c29bz_]], .agg #[.int .i64 uN, .int .i64 uD], .agg #[.int .i64 vN, .int .i64 vD], .tuple #[.agg #[.slice A29a n29a c29a, .bool m29a, .slice A29a_ n29a_ c29a_, .slice A29az n29az c29az, .bool m29az, .slice A29az_ n29az_ c29az_], .agg #[.int .i64 s29b, .slice A29b n29b c29b, .int .i64 s29b_, .slice A29b_ n29b_ c29b_, .int .i64 s29bz, .slice A29bz n29bz c29bz, .int .i64 s29bz_, .slice A29bz_ n29bz_ c29bz_]], .agg #[.slice A29a n29a c29a, .bool m29a, .slice A29a_ n29a_ c29a_, .slice A29az n29az c29az, .bool m29az, .slice A29az_ n29az_ c29az_], .agg #[.int .i64 s29b, .slice A29b n29b c29b, .int .i64 s29b_, .slice A29b_ n29b_ c29b_, .int .i64 s29bz, .slice A29bz n29bz c29bz, .int .i64 s29bz_, .slice A29bz_ n29bz_ c29bz_], .tuple #[.agg #[.slice A32a n32a c32a, .bool m32a, .slice A32a_ n32a_ c32a_], .agg #[.int .i64 s32b, .slice A32b n32b c32b, .int .i64 s32b_, .slice A32b_ n32b_ c32b_]], .agg #[.int .i64 kN, .int .i64 kD], .tuple #[.agg #[.slice A32a n32a c32a, .bool m32a, .slice A32a_ n32a_ c32a_], .agg #[.int .i64 s32b, .slice A32b n32b c32b, .int .i64 s32b_, .slice A32b_ n32b_ c32b_]], .agg #[.slice A32a n32a c32a, .bool m32a, .slice A32a_ n32a_ c32a_], .agg #[.int .i64 s32b, .slice A32b n32b c32b, .int .i64 s32b_, .slice A32b_ n32b_ c32b_], .agg #[.slice A26a n26a c26a, .bool m26a, .slice A26a_ n26a_ c26a_, .slice A26az n26az c26az, .bool m26az, .slice A26az_ n26az_ c26az_], .agg #[.slice A29a n29a c29a, .bool m29a, .slice A29a_ n29a_ c29a_, .slice A29az n29az c29az, .bool m29az, .slice A29az_ n29az_ c29az_], .agg #[.slice A36 n36 c36, .bool m36, .slice A36_ n36_ c36_], .agg #[.slice A26a n26a c26a, .bool m26a, .slice A26a_ n26a_ c26a_, .slice A26az n26az c26az, .bool m26az, .slice A26az_ n26az_ c26az_], .agg #[.slice A29a n29a c29a, .bool m29a, .slice A29a_ n29a_ c29a_, .slice A29az n29az c29az, .bool m29az, .slice A29az_ n29az_ c29az_], .agg #[.slice A37 n37 c37, .bool m37, .slice A37_ n37_ c37_], undef, undef, undef, undef, undef, undef, undef, undef, undef, undef, undef, undef, undef, undef, undef, undef, undef, undef, undef, undef, undef, undef, undef, undef, undef, undef, undef, undef, undef, undef, undef, undef, undef, undef, undef, undef, undef, undef, undef, undef, undef, undef, undef, undef, undef, undef, undef, undef, undef, undef, undef, undef, undef, undef, undef, undef, undef, undef, undef, undef, undef, undef], []⟩ ∧ Mem w [] X u_ [.box g39 #[.slice A37 n37 c37, .bool m37, .slice A37_ n37_ c37_] 48, .box g38 #[.slice A36 n36 c36, .bool m36, .slice A36_ n36_ c36_] 48, .box g34 #[.int .i64 s32b, .slice A32b n32b c32b, .int .i64 s32b_, .slice A32b_ n32b_ c32b_] 54, .box g33 #[.slice A32a n32a c32a, .bool m32a, .slice A32a_ n32a_ c32a_] 48, .box g31 #[.int .i64 s29b, .slice A29b n29b c29b, .int .i64 s29b_, .slice A29b_ n29b_ c29b_, .int .i64 s29bz, .slice A29bz n29bz c29bz, .int .i64 s29bz_, .slice A29bz_ n29bz_ c29bz_] 105, .box g30 #[.slice A29a n29a c29a, .bool m29a, .slice A29a_ n29a_ c29a_, .slice A29az n29az c29az, .bool m29az, .slice A29az_ n29az_ c29az_] 103, .box g28 #[.int .i64 s26b, .slice A26b n26b c26b, .int .i64 s26b_, .slice A26b_ n26b_ c26b_, .int .i64 s26bz, .slice A26bz n26bz c26bz, .int .i64 s26bz_, .slice A26bz_ n26bz_ c26bz_] 105, .box g27 #[.slice A26a n26a c26a, .bool m26a, .slice A26a_ n26a_ c26a_, .slice A26az n26az c26az, .bool m26az, .slice A26az_ n26az_ c26az_] 103, .box g25 #[.int .i64 kN, .int .i64 kD] 60, .box g24 #[.int .i64 vN, .int .i64 vD] 60, .box g23 #[.int .i64 uN, .int .i64 uD] 60, .box g22 #[.int .i64 wN, .int .i64 wD] 60, .box g21 #[.int .i64 xN, .int .i64 xD] 60] [⟨Rk, [.slice A37 n37 c37, .bool m37, .slice A37_ n37_ c37_], (numv xN xD) * (numv vN vD) - (numv wN wD) * (numv uN uD)⟩, ⟨Rk, [.slice A36 n36 c36, .bool m36, .slice A36_ n36_ c36_], (numv xN xD) * (numv uN uD) + (numv wN wD) * (numv vN vD)⟩, ⟨NRk, [.int .i64 s32b, .slice A32b n32b c32b, .int .i64 s32b_, .slice A32b_ n32b_ c32b_], numv kN kD⟩, ⟨Rk, [.slice A32a n32a c32a, .bool m32a, .slice A32a_ n32a_ c32a_], numv kN kD⟩, ⟨NVk, [.int .i64 s29b, .slice A29b n29b c29b, .int .i64 s29b_, .slice A29b_ n29b_ c29b_, .int .i64 s29bz, .slice A29bz n29bz c29bz, .int .i64 s29bz_, .slice A29bz_ n29bz_ c29bz_], (numv uN uD, numv vN vD)⟩, ⟨Vk, [.slice A29a n29a c29a, .bool m29a, .slice A29a_ n29a_ c29a_, .slice A29az n29az c29az, .bool m29az, .slice A29az_ n29az_ c29az_], (numv uN uD, numv vN vD)⟩, ⟨NVk, [.int .i64 s26b, .slice A26b n26b c26b, .int .i64 s26b_, .slice A26b_ n26b_ c26b_, .int .i64 s26bz, .slice A26bz n26bz c26bz, .int .i64 s26bz_, .slice A26bz_ n26bz_ c26bz_], (numv xN xD, numv wN wD)⟩, ⟨Vk, [.slice A26a n26a c26a, .bool m26a, .slice A26a_ n26a_ c26a_, .slice A26az n26az c26az, .bool m26az, .slice A26az_ n26az_ c26az_], (numv xN xD, numv wN wD)⟩]) ?_ ?_
 · skip
   refine CG.draw [] [0, 1, 3, 4] (.step 0 (.step 1 (.step 3 (.step 4 (.fork 2 (.fork 5 (.fork 6 (.step 7 (.step 8 (.step 9 .done))) (.step 7 (.step 6 (.step 8 (.step 9 .done))))) (.fork 6 (.fork 5 (.step 7 (.step 8 (.step 9 .done))) (.step 7 (.step 5 (.step 8 (.step 9 .done))))) (.step 7 (.fork 5 (.step 6 (.step 8 (.step 9 .done))) (.step 6 (.step 5 (.step 8 (.step 9 .done)))))))) (.fork 6 (.fork 2 (.fork 5 (.step 7 (.step 8 (.step 9 .done))) (.step 7 (.step 5 (.step 8 (.step 9 .done))))) (.step 7 (.step 2 (.step 5 (.step 8 (.step 9 .done)))))) (.step 7 (.fork 2 (.fork 5 (.step 6 (.step 8 (.step 9 .done))) (.step 6 (.step 5 (.step 8 (.step 9 .done))))) (.step 6 (.step 2 (.step 5 (.step 8 (.step 9 .done))))))))))))) (fun V hV35 => ?_)
   refine GD.er (.agg #[.slice A26a n26a c26a, .bool m26a, .slice A26a_ n26a_ c26a_, .slice A26az n26az c26az, .bool m26az, .slice A26az_ n26az_ c26az_]) (fun _ hS => op_load_agg (off := 0) (by kernel_rfl) agg103 siz103 (hV35.bS 5 rfl hS) rfl rfl) ?_
   refine GD.er (.agg #[.slice A29a n29a c29a, .bool m29a, .slice A29a_ n29a_ c29a_, .slice A29az n29az c29az, .bool m29az, .slice A29az_ n29az_ c29az_]) (fun _ hS => op_load_agg (off := 0) (by kernel_rfl) agg103 siz103 (hV35.bS 3 rfl hS) rfl rfl) ?_
   refine GD.er (.agg #[.slice A26a n26a c26a, .bool m26a, .slice A26a_ n26a_ c26a_, .slice A26az n26az c26az, .bool m26az, .slice A26az_ n26az_ c26az_]) (fun _ hS => op_load_agg (off := 0) (by kernel_rfl) agg103 siz103 (hV35.bS 5 rfl hS) rfl rfl) ?_
   refine GD.er (.agg #[.slice A29a n29a c29a, .bool m29a, .slice A29a_ n29a_ c29a_, .slice A29az n29az c29az, .bool m29az, .slice A29az_ n29az_ c29az_]) (fun _ hS => op_load_agg (off := 0) (by kernel_rfl) agg103 siz103 (hV35.bS 3 rfl hS) rfl rfl) ?_
   refine GD.fork ?_ ?_
   · skip
     refine GD.call (fun _ hM => Dot_ok hM.avlt (hM.f 5 rfl) (hM.f 3 rfl) (by first | assumption | (dsimp only; omega) | omega)) ?_
     rintro _ _ _ hM ⟨A36, n36, c36, m36, A36_, n36_, c36_, rfl, h36, hb⟩
     have hs36 := szR_dot (numv xN xD) (numv uN uD) (numv wN wD) (numv vN vD)
     refine ⟨_, _, _, rfl, hb, (hM.call hb).add h36, ?_⟩
     refine GD.fork ?_ ?_
     · skip
       refine GD.call (fun _ hM => Cross_ok hM.avlt (hM.f 6 rfl) (hM.f 4 rfl) (by first | assumption | (dsimp only; omega) | omega)) ?_
       rintro _ _ _ hM ⟨A37, n37, c37, m37, A37_, n37_, c37_, rfl, h37, hb⟩
       have hs37 := szR_cross (numv xN xD) (numv vN vD) (numv wN wD) (numv uN uD)
       refine ⟨_, _, _, rfl, hb, (hM.call hb).add h37, ?_⟩
       refine GD.fork ?_ ?_
       · skip
         refine GD.bx (fun _ => op_alloc zer48) fun g38 hg38 => ?_
         refine GD.bx (fun _ => op_alloc zer48) fun g39 hg39 => ?_
         refine GD.sn hg38 (fun _ _ => Mem.st1) (fun _ hM => store_all (cs' := #[.slice A36 n36 c36, .bool m36, .slice A36_ n36_ c36_]) siz48 (hM.b 1 rfl) (by kernel_rfl) (by kernel_rfl) rfl rfl rfl) ?_
         refine GD.sn hg39 (fun _ _ => Mem.st0) (fun _ hM => store_all (cs' := #[.slice A37 n37 c37, .bool m37, .slice A37_ n37_ c37_]) siz48 (hM.b 0 rfl) (by kernel_rfl) (by kernel_rfl) rfl rfl rfl) ?_
         refine GD.q (QG.cut fun _ hM => ?_)
         exact ⟨A36, n36, c36, m36, A36_, n36_, c36_, A37, n37, c37, m37, A37_, n37_, c37_, g38, g39, rfl, ((((((((hM.clr).add (hM.f 7 rfl)).add (hM.f 6 rfl)).add (hM.f 5 rfl)).add (hM.f 4 rfl)).add (hM.f 3 rfl)).add (hM.f 2 rfl)).add (hM.f 1 rfl)).add (hM.f 0 rfl)⟩
       refine GD.bx (fun _ => op_alloc zer48) fun g40 hg40 => ?_
       refine GD.bx (fun _ => op_alloc zer48) fun g41 hg41 => ?_
       refine GD.sn hg41 (fun _ _ => Mem.st0) (fun _ hM => store_all (cs' := #[.slice A36 n36 c36, .bool m36, .slice A36_ n36_ c36_]) siz48 (hM.b 0 rfl) (by kernel_rfl) (by kernel_rfl) rfl rfl rfl) ?_
       refine GD.sn hg40 (fun _ _ => Mem.st1) (fun _ hM => store_all (cs' := #[.slice A37 n37 c37, .bool m37, .slice A37_ n37_ c37_]) siz48 (hM.b 1 rfl) (by kernel_rfl) (by kernel_rfl) rfl rfl rfl) ?_
       refine GD.q (QG.cut fun _ hM => ?_)
       replace hM := hM.swap0
       exact ⟨A36, n36, c36, m36, A36_, n36_, c36_, A37, n37, c37, m37, A37_, n37_, c37_, g41, g40, rfl, ((((((((hM.clr).add (hM.f 7 rfl)).add (hM.f 6 rfl)).add (hM.f 5 rfl)).add (hM.f 4 rfl)).add (hM.f 3 rfl)).add (hM.f 2 rfl)).add (hM.f 1 rfl)).add (hM.f 0 rfl)⟩
     refine GD.fork ?_ ?_
     · skip
       refine GD.bx (fun _ => op_alloc zer48) fun g42 hg42 => ?_
       refine GD.fork ?_ ?_
       · skip
         refine GD.call (fun _ hM => Cross_ok hM.avlt (hM.f 6 rfl) (hM.f 4 rfl) (by first | assumption | (dsimp only; omega) | omega)) ?_
         rintro _ _ _ hM ⟨A43, n43, c43, m43, A43_, n43_, c43_, rfl, h43, hb⟩
         have hs43 := szR_cross (numv xN xD) (numv vN vD) (numv wN wD) (numv uN uD)
         refine ⟨_, _, _, rfl, hb, (hM.call hb).add h43, ?_⟩
         refine GD.bx (fun _ => op_alloc zer48) fun g44 hg44 => ?_
         refine GD.sn hg42 (fun _ _ => Mem.st1) (fun _ hM => store_all (cs' := #[.slice A36 n36 c36, .bool m36, .slice A36_ n36_ c36_]) siz48 (hM.b 1 rfl) (by kernel_rfl) (by kernel_rfl) rfl rfl rfl) ?_
         refine GD.sn hg44 (fun _ _ => Mem.st0) (fun _ hM => store_all (cs' := #[.slice A43 n43 c43, .bool m43, .slice A43_ n43_ c43_]) siz48 (hM.b 0 rfl) (by kernel_rfl) (by kernel_rfl) rfl rfl rfl) ?_
         refine GD.q (QG.cut fun _ hM => ?_)
         exact ⟨A36, n36, c36, m36, A36_, n36_, c36_, A43, n43, c43, m43, A43_, n43_, c43_, g42, g44, rfl, ((((((((hM.clr).add (hM.f 7 rfl)).add (hM.f 6 rfl)).add (hM.f 5 rfl)).add (hM.f 4 rfl)).add (hM.f 3 rfl)).add (hM.f 2 rfl)).add (hM.f 1 rfl)).add (hM.f 0 rfl)⟩
       refine GD.bx (fun _ => op_alloc zer48) fun g45 hg45 => ?_
       refine GD.call (fun _ hM => Cross_ok hM.avlt (hM.f 6 rfl) (hM.f 4 rfl) (by first | assumption | (dsimp only; omega) | omega)) ?_
       rintro _ _ _ hM ⟨A46, n46, c46, m46, A46_, n46_, c46_, rfl, h46, hb⟩
       have hs46 := szR_cross (numv xN xD) (numv vN vD) (numv wN wD) (numv uN uD)
       refine ⟨_, _, _, rfl, hb, (hM.call hb).add h46, ?_⟩
       refine GD.sn hg42 (fun _ _ => Mem.st1) (fun _ hM => store_all (cs' := #[.slice A36 n36 c36, .bool m36, .slice A36_ n36_ c36_]) siz48 (hM.b 1 rfl) (by kernel_rfl) (by kernel_rfl) rfl rfl rfl) ?_
       refine GD.sn hg45 (fun _ _ => Mem.st0) (fun _ hM => store_all (cs' := #[.slice A46 n46 c46, .bool m46, .slice A46_ n46_ c46_]) siz48 (hM.b 0 rfl) (by kernel_rfl) (by kernel_rfl) rfl rfl rfl) ?_
       refine GD.q (QG.cut fun _ hM => ?_)
       exact ⟨A36, n36, c36, m36, A36_, n36_, c36_, A46, n46, c46, m46, A46_, n46_, c46_, g42, g45, rfl, ((((((((hM.clr).add (hM.f 7 rfl)).add (hM.f 6 rfl)).add (hM.f 5 rfl)).add (hM.f 4 rfl)).add (hM.f 3 rfl)).add (hM.f 2 rfl)).add (hM.f 1 rfl)).add (hM.f 0 rfl)⟩
     refine GD.bx (fun _ => op_alloc zer48) fun g47 hg47 => ?_
     refine GD.fork ?_ ?_
     · skip
       refine GD.call (fun _ hM => Cross_ok hM.avlt (hM.f 6 rfl) (hM.f 4 rfl) (by first | assumption | (dsimp only; omega) | omega)) ?_
       rintro _ _ _ hM ⟨A48, n48, c48, m48, A48_, n48_, c48_, rfl, h48, hb⟩
       have hs48 := szR_cross (numv xN xD) (numv vN vD) (numv wN wD) (numv uN uD)
       refine ⟨_, _, _, rfl, hb, (hM.call hb).add h48, ?_⟩
       refine GD.bx (fun _ => op_alloc zer48) fun g49 hg49 => ?_
       refine GD.sn hg49 (fun _ _ => Mem.st0) (fun _ hM => store_all (cs' := #[.slice A36 n36 c36, .bool m36, .slice A36_ n36_ c36_]) siz48 (hM.b 0 rfl) (by kernel_rfl) (by kernel_rfl) rfl rfl rfl) ?_
       refine GD.sn hg47 (fun _ _ => Mem.st1) (fun _ hM => store_all (cs' := #[.slice A48 n48 c48, .bool m48, .slice A48_ n48_ c48_]) siz48 (hM.b 1 rfl) (by kernel_rfl) (by kernel_rfl) rfl rfl rfl) ?_
       refine GD.q (QG.cut fun _ hM => ?_)
       replace hM := hM.swap0
       exact ⟨A36, n36, c36, m36, A36_, n36_, c36_, A48, n48, c48, m48, A48_, n48_, c48_, g49, g47, rfl, ((((((((hM.clr).add (hM.f 7 rfl)).add (hM.f 6 rfl)).add (hM.f 5 rfl)).add (hM.f 4 rfl)).add (hM.f 3 rfl)).add (hM.f 2 rfl)).add (hM.f 1 rfl)).add (hM.f 0 rfl)⟩
     refine GD.bx (fun _ => op_alloc zer48) fun g50 hg50 => ?_
     refine GD.call (fun _ hM => Cross_ok hM.avlt (hM.f 6 rfl) (hM.f 4 rfl) (by first | assumption | (dsimp only; omega) | omega)) ?_
     rintro _ _ _ hM ⟨A51, n51, c51, m51, A51_, n51_, c51_, rfl, h51, hb⟩
     have hs51 := szR_cross (numv xN xD) (numv vN vD) (numv wN wD) (numv uN uD)
     refine ⟨_, _, _, rfl, hb, (hM.call hb).add h51, ?_⟩
     refine GD.sn hg50 (fun _ _ => Mem.st0) (fun _ hM => store_all (cs' := #[.slice A36 n36 c36, .bool m36, .slice A36_ n36_ c36_]) siz48 (hM.b 0 rfl) (by kernel_rfl) (by kernel_rfl) rfl rfl rfl) ?_
     refine GD.sn hg47 (fun _ _ => Mem.st1) (fun _ hM => store_all (cs' := #[.slice A51 n51 c51, .bool m51, .slice A51_ n51_ c51_]) siz48 (hM.b 1 rfl) (by kernel_rfl) (by kernel_rfl) rfl rfl rfl) ?_
     refine GD.q (QG.cut fun _ hM => ?_)
     replace hM := hM.swap0
     exact ⟨A36, n36, c36, m36, A36_, n36_, c36_, A51, n51, c51, m51, A51_, n51_, c51_, g50, g47, rfl, ((((((((hM.clr).add (hM.f 7 rfl)).add (hM.f 6 rfl)).add (hM.f 5 rfl)).add (hM.f 4 rfl)).add (hM.f 3 rfl)).add (hM.f 2 rfl)).add (hM.f 1 rfl)).add (hM.f 0 rfl)⟩
   refine GD.fork ?_ ?_
   · skip
     refine GD.bx (fun _ => op_alloc zer48) fun g52 hg52 => ?_
     refine GD.fork ?_ ?_
     · skip
       refine GD.call (fun _ hM => Dot_ok hM.avlt (hM.f 5 rfl) (hM.f 3 rfl) (by first | assumption | (dsimp only; omega) | omega)) ?_
       rintro _ _ _ hM ⟨A53, n53, c53, m53, A53_, n53_, c53_, rfl, h53, hb⟩
       have hs53 := szR_dot (numv xN xD) (numv uN uD) (numv wN wD) (numv vN vD)
       refine ⟨_, _, _, rfl, hb, (hM.call hb).add h53, ?_⟩
       refine GD.fork ?_ ?_
       · skip
         refine GD.call (fun _ hM => Cross_ok hM.avlt (hM.f 6 rfl) (hM.f 4 rfl) (by first | assumption | (dsimp only; omega) | omega)) ?_
         rintro _ _ _ hM ⟨A54, n54, c54, m54, A54_, n54_, c54_, rfl, h54, hb⟩
         have hs54 := szR_cross (numv xN xD) (numv vN vD) (numv wN wD) (numv uN uD)
         refine ⟨_, _, _, rfl, hb, (hM.call hb).add h54, ?_⟩
         refine GD.bx (fun _ => op_alloc zer48) fun g55 hg55 => ?_
         refine GD.sn hg52 (fun _ _ => Mem.st1) (fun _ hM => store_all (cs' := #[.slice A53 n53 c53, .bool m53, .slice A53_ n53_ c53_]) siz48 (hM.b 1 rfl) (by kernel_rfl) (by kernel_rfl) rfl rfl rfl) ?_
         refine GD.sn hg55 (fun _ _ => Mem.st0) (fun _ hM => store_all (cs' := #[.slice A54 n54 c54, .bool m54, .slice A54_ n54_ c54_]) siz48 (hM.b 0 rfl) (by kernel_rfl) (by kernel_rfl) rfl rfl rfl) ?_
         refine GD.q (QG.cut fun _ hM => ?_)
         exact ⟨A53, n53, c53, m53, A53_, n53_, c53_, A54, n54, c54, m54, A54_, n54_, c54_, g52, g55, rfl, ((((((((hM.clr).add (hM.f 7 rfl)).add (hM.f 6 rfl)).add (hM.f 5 rfl)).add (hM.f 4 rfl)).add (hM.f 3 rfl)).add (hM.f 2 rfl)).add (hM.f 1 rfl)).add (hM.f 0 rfl)⟩
       refine GD.bx (fun _ => op_alloc zer48) fun g56 hg56 => ?_
       refine GD.call (fun _ hM => Cross_ok hM.avlt (hM.f 6 rfl) (hM.f 4 rfl) (by first | assumption | (dsimp only; omega) | omega)) ?_
       rintro _ _ _ hM ⟨A57, n57, c57, m57, A57_, n57_, c57_, rfl, h57, hb⟩
       have hs57 := szR_cross (numv xN xD) (numv vN vD) (numv wN wD) (numv uN uD)
       refine ⟨_, _, _, rfl, hb, (hM.call hb).add h57, ?_⟩
       refine GD.sn hg52 (fun _ _ => Mem.st1) (fun _ hM => store_all (cs' := #[.slice A53 n53 c53, .bool m53, .slice A53_ n53_ c53_]) siz48 (hM.b 1 rfl) (by kernel_rfl) (by kernel_rfl) rfl rfl rfl) ?_
       refine GD.sn hg56 (fun _ _ => Mem.st0) (fun _ hM => store_all (cs' := #[.slice A57 n57 c57, .bool m57, .slice A57_ n57_ c57_]) siz48 (hM.b 0 rfl) (by kernel_rfl) (by kernel_rfl) rfl rfl rfl) ?_
       refine GD.q (QG.cut fun _ hM => ?_)
       exact ⟨A53, n53, c53, m53, A53_, n53_, c53_, A57, n57, c57, m57, A57_, n57_, c57_, g52, g56, rfl, ((((((((hM.clr).add (hM.f 7 rfl)).add (hM.f 6 rfl)).add (hM.f 5 rfl)).add (hM.f 4 rfl)).add (hM.f 3 rfl)).add (hM.f 2 rfl)).add (hM.f 1 rfl)).add (hM.f 0 rfl)⟩
     refine GD.bx (fun _ => op_alloc zer48) fun g58 hg58 => ?_
     refine GD.call (fun _ hM => Dot_ok hM.avlt (hM.f 5 rfl) (hM.f 3 rfl) (by first | assumption | (dsimp only; omega) | omega)) ?_
     rintro _ _ _ hM ⟨A59, n59, c59, m59, A59_, n59_, c59_, rfl, h59, hb⟩
     have hs59 := szR_dot (numv xN xD) (numv uN uD) (numv wN wD) (numv vN vD)
     refine ⟨_, _, _, rfl, hb, (hM.call hb).add h59, ?_⟩
     refine GD.call (fun _ hM => Cross_ok hM.avlt (hM.f 6 rfl) (hM.f 4 rfl) (by first | assumption | (dsimp only; omega) | omega)) ?_
     rintro _ _ _ hM ⟨A60, n60, c60, m60, A60_, n60_, c60_, rfl, h60, hb⟩
     have hs60 := szR_cross (numv xN xD) (numv vN vD) (numv wN wD) (numv uN uD)
     refine ⟨_, _, _, rfl, hb, (hM.call hb).add h60, ?_⟩
     refine GD.sn hg52 (fun _ _ => Mem.st1) (fun _ hM => store_all (cs' := #[.slice A59 n59 c59, .bool m59, .slice A59_ n59_ c59_]) siz48 (hM.b 1 rfl) (by kernel_rfl) (by kernel_rfl) rfl rfl rfl) ?_
     refine GD.sn hg58 (fun _ _ => Mem.st0) (fun _ hM => store_all (cs' := #[.slice A60 n60 c60, .bool m60, .slice A60_ n60_ c60_]) siz48 (hM.b 0 rfl) (by kernel_rfl) (by kernel_rfl) rfl rfl rfl) ?_
     refine GD.q (QG.cut fun _ hM => ?_)
     exact ⟨A59, n59, c59, m59, A59_, n59_, c59_, A60, n60, c60, m60, A60_, n60_, c60_, g52, g58, rfl, ((((((((hM.clr).add (hM.f 7 rfl)).add (hM.f 6 rfl)).add (hM.f 5 rfl)).add (hM.f 4 rfl)).add (hM.f 3 rfl)).add (hM.f 2 rfl)).add (hM.f 1 rfl)).add (hM.f 0 rfl)⟩
   refine GD.bx (fun _ => op_alloc zer48) fun g61 hg61 => ?_
   refine GD.fork ?_ ?_
   · skip
     refine GD.call (fun _ hM => Dot_ok hM.avlt (hM.f 5 rfl) (hM.f 3 rfl) (by first | assumption | (dsimp only; omega) | omega)) ?_
     rintro _ _ _ hM ⟨A62, n62, c62, m62, A62_, n62_, c62_, rfl, h62, hb⟩
     have hs62 := szR_dot (numv xN xD) (numv uN uD) (numv wN wD) (numv vN vD)
     refine ⟨_, _, _, rfl, hb, (hM.call hb).add h62, ?_⟩
     refine GD.fork ?_ ?_
     · skip
       refine GD.call (fun _ hM => Cross_ok hM.avlt (hM.f 6 rfl) (hM.f 4 rfl) (by first | assumption | (dsimp only; omega) | omega)) ?_
       rintro _ _ _ hM ⟨A63, n63, c63, m63, A63_, n63_, c63_, rfl, h63, hb⟩
       have hs63 := szR_cross (numv xN xD) (numv vN vD) (numv wN wD) (numv uN uD)
       refine ⟨_, _, _, rfl, hb, (hM.call hb).add h63, ?_⟩
       refine GD.bx (fun _ => op_alloc zer48) fun g64 hg64 => ?_
       refine GD.sn hg64 (fun _ _ => Mem.st0) (fun _ hM => store_all (cs' := #[.slice A62 n62 c62, .bool m62, .slice A62_ n62_ c62_]) siz48 (hM.b 0 rfl) (by kernel_rfl) (by kernel_rfl) rfl rfl rfl) ?_
       refine GD.sn hg61 (fun _ _ => Mem.st1) (fun _ hM => store_all (cs' := #[.slice A63 n63 c63, .bool m63, .slice A63_ n63_ c63_]) siz48 (hM.b 1 rfl) (by kernel_rfl) (by kernel_rfl) rfl rfl rfl) ?_
       refine GD.q (QG.cut fun _ hM => ?_)
       replace hM := hM.swap0
       exact ⟨A62, n62, c62, m62, A62_, n62_, c62_, A63, n63, c63, m63, A63_, n63_, c63_, g64, g61, rfl, ((((((((hM.clr).add (hM.f 7 rfl)).add (hM.f 6 rfl)).add (hM.f 5 rfl)).add (hM.f 4 rfl)).add (hM.f 3 rfl)).add (hM.f 2 rfl)).add (hM.f 1 rfl)).add (hM.f 0 rfl)⟩
     refine GD.bx (fun _ => op_alloc zer48) fun g65 hg65 => ?_
     refine GD.call (fun _ hM => Cross_ok hM.avlt (hM.f 6 rfl) (hM.f 4 rfl) (by first | assumption | (dsimp only; omega) | omega)) ?_
     rintro _ _ _ hM ⟨A66, n66, c66, m66, A66_, n66_, c66_, rfl, h66, hb⟩
     have hs66 := szR_cross (numv xN xD) (numv vN vD) (numv wN wD) (numv uN uD)
     refine ⟨_, _, _, rfl, hb, (hM.call hb).add h66, ?_⟩
     refine GD.sn hg65 (fun _ _ => Mem.st0) (fun _ hM => store_all (cs' := #[.slice A62 n62 c62, .bool m62, .slice A62_ n62_ c62_]) siz48 (hM.b 0 rfl) (by kernel_rfl) (by kernel_rfl) rfl rfl rfl) ?_
     refine GD.sn hg61 (fun _ _ => Mem.st1) (fun _ hM => store_all (cs' := #[.slice A66 n66 c66, .bool m66, .slice A66_ n66_ c66_]) siz48 (hM.b 1 rfl) (by kernel_rfl) (by kernel_rfl) rfl rfl rfl) ?_
     refine GD.q (QG.cut fun _ hM => ?_)
     replace hM := hM.swap0
     exact ⟨A62, n62, c62, m62, A62_, n62_, c62_, A66, n66, c66, m66, A66_, n66_, c66_, g65, g61, rfl, ((((((((hM.clr).add (hM.f 7 rfl)).add (hM.f 6 rfl)).add (hM.f 5 rfl)).add (hM.f 4 rfl)).add (hM.f 3 rfl)).add (hM.f 2 rfl)).add (hM.f 1 rfl)).add (hM.f 0 rfl)⟩
   refine GD.bx (fun _ => op_alloc zer48) fun g67 hg67 => ?_
   refine GD.call (fun _ hM => Dot_ok hM.avlt (hM.f 5 rfl) (hM.f 3 rfl) (by first | assumption | (dsimp only; omega) | omega)) ?_
   rintro _ _ _ hM ⟨A68, n68, c68, m68, A68_, n68_, c68_, rfl, h68, hb⟩
   have hs68 := szR_dot (numv xN xD) (numv uN uD) (numv wN wD) (numv vN vD)
   refine ⟨_, _, _, rfl, hb, (hM.call hb).add h68, ?_⟩
   refine GD.call (fun _ hM => Cross_ok hM.avlt (hM.f 6 rfl) (hM.f 4 rfl) (by first | assumption | (dsimp only; omega) | omega)) ?_
   rintro _ _ _ hM ⟨A69, n69, c69, m69, A69_, n69_, c69_, rfl, h69, hb⟩
   have hs69 := szR_cross (numv xN xD) (numv vN vD) (numv wN wD) (numv uN uD)
   refine ⟨_, _, _, rfl, hb, (hM.call hb).add h69, ?_⟩
   refine GD.sn hg67 (fun _ _ => Mem.st0) (fun _ hM => store_all (cs' := #[.slice A68 n68 c68, .bool m68, .slice A68_ n68_ c68_]) siz48 (hM.b 0 rfl) (by kernel_rfl) (by kernel_rfl) rfl rfl rfl) ?_
   refine GD.sn hg61 (fun _ _ => Mem.st1) (fun _ hM => store_all (cs' := #[.slice A69 n69 c69, .bool m69, .slice A69_ n69_ c69_]) siz48 (hM.b 1 rfl) (by kernel_rfl) (by kernel_rfl) rfl rfl rfl) ?_
   refine GD.q (QG.cut fun _ hM => ?_)
   replace hM := hM.swap0
   exact ⟨A68, n68, c68, m68, A68_, n68_, c68_, A69, n69, c69, m69, A69_, n69_, c69_, g67, g61, rfl, ((((((((hM.clr).add (hM.f 7 rfl)).add (hM.f 6 rfl)).add (hM.f 5 rfl)).add (hM.f 4 rfl)).add (hM.f 3 rfl)).add (hM.f 2 rfl)).add (hM.f 1 rfl)).add (hM.f 0 rfl)⟩
 · skip
   rintro a_ u_ ⟨A36, n36, c36, m36, A36_, n36_, c36_, A37, n37, c37, m37, A37_, n37_, c37_, g38, g39, rfl, hM⟩
   refine QG.go hM ?_
   refine QG.k k1 ?_
   refine CG.seq fun K_ k1 => ?_
   refine CG.seq fun K_ k2 => ?_
   refine CG.draw [] [0, 1, 3, 4, 7, 8, 10, 11, 15, 16, 17, 18, 19, 23, 24, 25, 26, 27, 28, 32, 33] (.step 0 (.step 1 (.step 3 (.step 4 (.step 7 (.step 8 (.step 10 (.step 11 (.step 2 (.step 5 (.step 6 (.step 9 (.step 12 (.step 13 (.step 14 (.step 15 (.step 16 (.step 17 (.step 18 (.step 19 (.step 20 (.step 21 (.step 22 (.step 23 (.step 24 (.step 25 (.step 26 (.step 27 (.step 28 (.step 29 (.step 30 (.step 31 (.step 32 (.step 33 .done)))))))))))))))))))))))))))))))))) (fun V hV70 => ?_)
   have hq1 := szR_dot (numv xN xD) (numv uN uD) (numv wN wD) (numv vN vD)
   have hq2 := szR_cross (numv xN xD) (numv vN vD) (numv wN wD) (numv uN uD)
   refine GD.er (.agg #[.slice A36 n36 c36, .bool m36, .slice A36_ n36_ c36_]) (fun _ hS => op_load_agg (off := 0) (by kernel_rfl) agg48 siz48 (hV70.bS 1 rfl hS) rfl rfl) ?_
   refine GD.er (.agg #[.slice A36 n36 c36, .bool m36, .slice A36_ n36_ c36_]) (fun _ hS => op_load_agg (off := 0) (by kernel_rfl) agg48 siz48 (hV70.bS 1 rfl hS) rfl rfl) ?_
   refine GD.er (.agg #[.slice A37 n37 c37, .bool m37, .slice A37_ n37_ c37_]) (fun _ hS => op_load_agg (off := 0) (by kernel_rfl) agg48 siz48 (hV70.bS 0 rfl hS) rfl rfl) ?_
   refine GD.er (.agg #[.slice A37 n37 c37, .bool m37, .slice A37_ n37_ c37_]) (fun _ hS => op_load_agg (off := 0) (by kernel_rfl) agg48 siz48 (hV70.bS 0 rfl hS) rfl rfl) ?_
   refine GD.er (.agg #[.slice A26a n26a c26a, .bool m26a, .slice A26a_ n26a_ c26a_, .slice A26az n26az c26az, .bool m26az, .slice A26az_ n26az_ c26az_]) (fun _ hS => op_load_agg (off := 0) (by kernel_rfl) agg103 siz103 (hV70.bS 7 rfl hS) rfl rfl) ?_
   refine GD.er (.agg #[.slice A26a n26a c26a, .bool m26a, .slice A26a_ n26a_ c26a_, .slice A26az n26az c26az, .bool m26az, .slice A26az_ n26az_ c26az_]) (fun _ hS => op_load_agg (off := 0) (by kernel_rfl) agg103 siz103 (hV70.bS 7 rfl hS) rfl rfl) ?_
   refine GD.er (.agg #[.slice A29a n29a c29a, .bool m29a, .slice A29a_ n29a_ c29a_, .slice A29az n29az c29az, .bool m29az, .slice A29az_ n29az_ c29az_]) (fun _ hS => op_load_agg (off := 0) (by kernel_rfl) agg103 siz103 (hV70.bS 5 rfl hS) rfl rfl) ?_
   refine GD.er (.agg #[.slice A29a n29a c29a, .bool m29a, .slice A29a_ n29a_ c29a_, .slice A29az n29az c29az, .bool m29az, .slice A29az_ n29az_ c29az_]) (fun _ hS => op_load_agg (off := 0) (by kernel_rfl) agg103 siz103 (hV70.bS 5 rfl hS) rfl rfl) ?_
   refine GD.call (fun _ hM => RMul_ok hM.avlt (hM.f 1 rfl) (hM.f 1 rfl) (by first | assumption | (dsimp only; omega) | omega)) ?_
   rintro _ _ _ hM ⟨A71, n71, c71, m71, A71_, n71_, c71_, rfl, h71, hb⟩
   have hs71 := szR_mul (((numv xN xD) * (numv uN uD) + (numv wN wD) * (numv vN vD))) (((numv xN xD) * (numv uN uD) + (numv wN wD) * (numv vN vD)))
   refine ⟨_, _, _, rfl, hb, (hM.call hb).add h71, ?_⟩
   refine GD.call (fun _ hM => RMul_ok hM.avlt (hM.f 1 rfl) (hM.f 1 rfl) (by first | assumption | (dsimp only; omega) | omega)) ?_
   rintro _ _ _ hM ⟨A72, n72, c72, m72, A72_, n72_, c72_, rfl, h72, hb⟩
   have hs72 := szR_mul (((numv xN xD) * (numv vN vD) - (numv wN wD) * (numv uN uD))) (((numv xN xD) * (numv vN vD) - (numv wN wD) * (numv uN uD)))
   refine ⟨_, _, _, rfl, hb, (hM.call hb).add h72, ?_⟩
   refine GD.call (fun _ hM => RAdd_ok hM.avlt (hM.f 1 rfl) (hM.f 0 rfl) (by first | assumption | (dsimp only; omega) | omega)) ?_
   rintro _ _ _ hM ⟨A73, n73, c73, m73, A73_, n73_, c73_, rfl, h73, hb⟩
   have hs73 := szR_add ((((numv xN xD) * (numv uN uD) + (numv wN wD) * (numv vN vD)) * ((numv xN xD) * (numv uN uD) + (numv wN wD) * (numv vN vD)))) ((((numv xN xD) * (numv vN vD) - (numv wN wD) * (numv uN uD)) * ((numv xN xD) * (numv vN vD) - (numv wN wD) * (numv uN uD))))
   refine ⟨_, _, _, rfl, hb, (hM.call hb).add h73, ?_⟩
   refine GD.call (fun _ hM => Dot_ok hM.avlt (hM.f 10 rfl) (hM.f 10 rfl) (by first | assumption | (dsimp only; omega) | omega)) ?_
   rintro _ _ _ hM ⟨A74, n74, c74, m74, A74_, n74_, c74_, rfl, h74, hb⟩
   have hs74 := szR_dot (numv xN xD) (numv xN xD) (numv wN wD) (numv wN wD)
   refine ⟨_, _, _, rfl, hb, (hM.call hb).add h74, ?_⟩
   refine GD.call (fun _ hM => Dot_ok hM.avlt (hM.f 9 rfl) (hM.f 9 rfl) (by first | assumption | (dsimp only; omega) | omega)) ?_
   rintro _ _ _ hM ⟨A75, n75, c75, m75, A75_, n75_, c75_, rfl, h75, hb⟩
   have hs75 := szR_dot (numv uN uD) (numv uN uD) (numv vN vD) (numv vN vD)
   refine ⟨_, _, _, rfl, hb, (hM.call hb).add h75, ?_⟩
   refine GD.call (fun _ hM => RMul_ok hM.avlt (hM.f 1 rfl) (hM.f 0 rfl) (by first | assumption | (dsimp only; omega) | omega)) ?_
   rintro _ _ _ hM ⟨A76, n76, c76, m76, A76_, n76_, c76_, rfl, h76, hb⟩
   have hs76 := szR_mul (((numv xN xD) * (numv xN xD) + (numv wN wD) * (numv wN wD))) (((numv uN uD) * (numv uN uD) + (numv vN vD) * (numv vN vD)))
   refine ⟨_, _, _, rfl, hb, (hM.call hb).add h76, ?_⟩
   refine GD.call (fun _ hM => RCmp_ok hM.avlt (hM.f 3 rfl) (hM.f 0 rfl) (by first | assumption | (dsimp only; omega) | omega)) ?_
   rintro _ _ _ hM ⟨rfl, hb⟩
   refine ⟨_, _, _, rfl, hb, hM.call hb, ?_⟩
   refine GD.ev (.bool false) ?_ (hr := fun u => op_b (b := (((((((numv xN xD) * (numv uN uD) + (numv wN wD) * (numv vN vD)) * ((numv xN xD) * (numv uN uD) + (numv wN wD) * (numv vN vD))) + (((numv xN xD) * (numv vN vD) - (numv wN wD) * (numv uN uD)) * ((numv xN xD) * (numv vN vD) - (numv wN wD) * (numv uN uD)))).num * ((((numv xN xD) * (numv xN xD) + (numv wN wD) * (numv wN wD)) * ((numv uN uD) * (numv uN uD) + (numv vN vD) * (numv vN vD))).den : Int) - (((numv xN xD) * (numv xN xD) + (numv wN wD) * (numv wN wD)) * ((numv uN uD) * (numv uN uD) + (numv vN vD) * (numv vN vD))).num * (((((numv xN xD) * (numv uN uD) + (numv wN wD) * (numv vN vD)) * ((numv xN xD) * (numv uN uD) + (numv wN wD) * (numv vN vD))) + (((numv xN xD) * (numv vN vD) - (numv wN wD) * (numv uN uD)) * ((numv xN xD) * (numv vN vD) - (numv wN wD) * (numv uN uD)))).den : Int)).sign) != (0 : Int))) (by kernel_rfl) (rc_ne (by grind)))
   refine GD.ev (.bool false) ?_
   refine GD.er (.agg #[.slice A26a n26a c26a, .bool m26a, .slice A26a_ n26a_ c26a_, .slice A26az n26az c26az, .bool m26az, .slice A26az_ n26az_ c26az_]) (fun _ hS => op_load_agg (off := 0) (by kernel_rfl) agg103 siz103 (hV70.bS 7 rfl hS) rfl rfl) ?_
   refine GD.er (.agg #[.slice A26a n26a c26a, .bool m26a, .slice A26a_ n26a_ c26a_, .slice A26az n26az c26az, .bool m26az, .slice A26az_ n26az_ c26az_]) (fun _ hS => op_load_agg (off := 0) (by kernel_rfl) agg103 siz103 (hV70.bS 7 rfl hS) rfl rfl) ?_
   refine GD.er (.agg #[.slice A32a n32a c32a, .bool m32a, .slice A32a_ n32a_ c32a_]) (fun _ hS => op_load_agg (off := 0) (by kernel_rfl) agg48 siz48 (hV70.bS 3 rfl hS) rfl rfl) ?_
   refine GD.call (fun _ hM => VScale_ok hM.avlt (hM.f 13 rfl) (hM.f 9 rfl) (by first | assumption | (dsimp only; omega) | omega) (by first | assumption | (dsimp only; omega) | omega)) ?_
   rintro _ _ _ hM ⟨A78, n78, c78, m78, A78_, n78_, c78_, A78z, n78z, c78z, m78z, A78z_, n78z_, c78z_, rfl, h78, hb⟩
   have hs78 := szR_mul (numv xN xD) (numv kN kD)
   have ht78 := szR_mul (numv wN wD) (numv kN kD)
   refine ⟨_, _, _, rfl, hb, (hM.call hb).add h78, ?_⟩
   refine GD.call (fun _ hM => Cross_ok hM.avlt (hM.f 14 rfl) (hM.f 0 rfl) (by first | assumption | (dsimp only; omega) | omega)) ?_
   rintro _ _ _ hM ⟨A79, n79, c79, m79, A79_, n79_, c79_, rfl, h79, hb⟩
   have hs79 := szR_cross (numv xN xD) (((numv wN wD) * (numv kN kD))) (numv wN wD) (((numv xN xD) * (numv kN kD)))
   refine ⟨_, _, _, rfl, hb, (hM.call hb).add h79, ?_⟩
   refine GD.call (fun _ hM => RSign_ok hM.avlt (hM.f 0 rfl)) ?_
   rintro _ _ _ hM ⟨rfl, hb⟩
   refine ⟨_, _, _, rfl, hb, hM.call hb, ?_⟩
   refine GD.ev (.bool false) ?_ (hr := fun u => op_b (b := ((((numv xN xD) * ((numv wN wD) * (numv kN kD)) - (numv wN wD) * ((numv xN xD) * (numv kN kD))).num.sign) != (0 : Int))) (by kernel_rfl) (rsg_ne (by grind)))
   refine GD.ev (.bool false) ?_
   refine GD.ev (.bool false) ?_
   refine GD.er (.agg #[.slice A37 n37 c37, .bool m37, .slice A37_ n37_ c37_]) (fun _ hS => op_load_agg (off := 0) (by kernel_rfl) agg48 siz48 (hV70.bS 0 rfl hS) rfl rfl) ?_
   refine GD.er (.agg #[.slice A29a n29a c29a, .bool m29a, .slice A29a_ n29a_ c29a_, .slice A29az n29az c29az, .bool m29az, .slice A29az_ n29az_ c29az_]) (fun _ hS => op_load_agg (off := 0) (by kernel_rfl) agg103 siz103 (hV70.bS 5 rfl hS) rfl rfl) ?_
   refine GD.er (.agg #[.slice A26a n26a c26a, .bool m26a, .slice A26a_ n26a_ c26a_, .slice A26az n26az c26az, .bool m26az, .slice A26az_ n26az_ c26az_]) (fun _ hS => op_load_agg (off := 0) (by kernel_rfl) agg103 siz103 (hV70.bS 7 rfl hS) rfl rfl) ?_
   refine GD.call (fun _ hM => Cross_ok hM.avlt (hM.f 13 rfl) (hM.f 15 rfl) (by first | assumption | (dsimp only; omega) | omega)) ?_
   rintro _ _ _ hM ⟨A81, n81, c81, m81, A81_, n81_, c81_, rfl, h81, hb⟩
   have hs81 := szR_cross (numv uN uD) (numv wN wD) (numv vN vD) (numv xN xD)
   refine ⟨_, _, _, rfl, hb, (hM.call hb).add h81, ?_⟩
   refine GD.call (fun _ hM => RNeg_ok hM.avlt (hM.f 0 rfl)) ?_
   rintro _ _ _ hM ⟨A82, n82, c82, m82, A82_, n82_, c82_, rfl, h82, hb⟩
   have hs82 := szR_neg (((numv uN uD) * (numv wN wD) - (numv vN vD) * (numv xN xD)))
   refine ⟨_, _, _, rfl, hb, (hM.call hb).add h82, ?_⟩
   refine GD.call (fun _ hM => RCmp_ok hM.avlt (hM.f 10 rfl) (hM.f 0 rfl) (by first | assumption | (dsimp only; omega) | omega)) ?_
   rintro _ _ _ hM ⟨rfl, hb⟩
   refine ⟨_, _, _, rfl, hb, hM.call hb, ?_⟩
   refine GD.ev (.bool false) ?_ (hr := fun u => op_b (b := (((((numv xN xD) * (numv vN vD) - (numv wN wD) * (numv uN uD)).num * ((-((numv uN uD) * (numv wN wD) - (numv vN vD) * (numv xN xD))).den : Int) - (-((numv uN uD) * (numv wN wD) - (numv vN vD) * (numv xN xD))).num * (((numv xN xD) * (numv vN vD) - (numv wN wD) * (numv uN uD)).den : Int)).sign) != (0 : Int))) (by kernel_rfl) (rc_ne (by grind)))
   refine GD.ev (.bool false) ?_
   refine GD.k k2 ?_
   refine CG.no ?_ rfl rfl
   refine CG.skip ?_
   refine QG.k k1 ?_
   refine CG.seq fun K_ k1 => ?_
   refine CG.lin 5 ?_
   refine GL.r (.agg #[.slice A32a n32a c32a, .bool m32a, .slice A32a_ n32a_ c32a_]) (fun _ hM => op_load_agg (off := 0) (by kernel_rfl) agg48 siz48 (hM.b 3 rfl) rfl rfl) ?_
   refine GL.call (fun _ hM => Floor_ok hM.avlt (hM.f 13 rfl) (by first | assumption | (dsimp only; omega) | omega)) ?_
   rintro _ _ _ hM ⟨A84, n84, c84, m84, rfl, h84, hb⟩
   have hs84 := sz_floor (numv kN kD)
   refine ⟨_, _, _, rfl, (hM.call hb).add h84, ?_⟩
   refine GL.call (fun _ hM => Whole_ok hM.avlt (hM.f 0 rfl)) ?_
   rintro _ _ _ hM ⟨A85, n85, c85, m85, A85_, n85_, c85_, rfl, h85, hb⟩
   have hs85 := szR_int (((numv kN kD).floor))
   refine ⟨_, _, _, rfl, (hM.call hb).add h85, ?_⟩
   refine GL.aA zer48 fun g86 => ?_
   refine GL.sA (cs' := #[.slice A85 n85 c85, .bool m85, .slice A85_ n85_ c85_]) (fun _ _ => Mem.st0) (fun _ hM => hM.b 0 rfl) siz48 ?_
   refine GL.k k1 ?_
   refine CG.seq fun K_ k1 => ?_
   refine CG.draw [] [0, 1, 3, 4, 5, 6, 10, 11, 12, 13, 15, 20, 21, 22, 24] (.step 0 (.step 1 (.step 2 (.step 3 (.step 4 (.step 5 (.step 6 (.step 7 (.step 8 (.step 9 (.step 10 (.step 11 (.step 12 (.step 13 (.step 15 (.step 14 (.step 16 (.step 17 (.step 18 (.step 19 (.step 20 (.step 21 (.step 22 (.step 23 (.step 24 (.step 25 .done)))))))))))))))))))))))))) (fun V hV87 => ?_)
   refine GD.er (.agg #[.slice A85 n85 c85, .bool m85, .slice A85_ n85_ c85_]) (fun _ hS => op_load_agg (off := 0) (by kernel_rfl) agg48 siz48 (hV87.bS 0 rfl hS) rfl rfl) ?_
   refine GD.er (.agg #[.slice A32a n32a c32a, .bool m32a, .slice A32a_ n32a_ c32a_]) (fun _ hS => op_load_agg (off := 0) (by kernel_rfl) agg48 siz48 (hV87.bS 4 rfl hS) rfl rfl) ?_
   refine GD.call (fun _ hM => RCmp_ok hM.avlt (hM.f 0 rfl) (hM.f 15 rfl) (by first | assumption | (dsimp only; omega) | omega)) ?_
   rintro _ _ _ hM ⟨rfl, hb⟩
   refine ⟨_, _, _, rfl, hb, hM.call hb, ?_⟩
   refine GD.ev (.bool true) ?_ (hr := fun u => op_b (b := (decide ((((((numv kN kD).floor) : Rat).num * ((numv kN kD).den : Int) - (numv kN kD).num * ((((numv kN kD).floor) : Rat).den : Int)).sign) ≤ (0 : Int)))) (by kernel_rfl) (rc_le (Rat.floor_le _)))
   refine GD.ev (.bool true) ?_
   refine GD.er (.agg #[.slice A32a n32a c32a, .bool m32a, .slice A32a_ n32a_ c32a_]) (fun _ hS => op_load_agg (off := 0) (by kernel_rfl) agg48 siz48 (hV87.bS 4 rfl hS) rfl rfl) ?_
   refine GD.er (.agg #[.slice A85 n85 c85, .bool m85, .slice A85_ n85_ c85_]) (fun _ hS => op_load_agg (off := 0) (by kernel_rfl) agg48 siz48 (hV87.bS 0 rfl hS) rfl rfl) ?_
   refine GD.call (fun _ hM => Of_ok hM.avlt (1) (by first | assumption | (dsimp only; omega) | omega)) ?_
   rintro _ _ _ hM ⟨A89, n89, c89, m89, A89_, n89_, c89_, rfl, h89, hb⟩
   have hs89 := szR_int (1)
   have ht89 := sz_i64 (1) (by omega)
   refine ⟨_, _, _, rfl, hb, (hM.call hb).add h89, ?_⟩
   refine GD.call (fun _ hM => RAdd_ok hM.avlt (hM.f 1 rfl) (hM.f 0 rfl) (by first | assumption | (dsimp only; omega) | omega)) ?_
   rintro _ _ _ hM ⟨A90, n90, c90, m90, A90_, n90_, c90_, rfl, h90, hb⟩
   have hs90 := szR_add ((((numv kN kD).floor) : Rat)) (((1 : Int) : Rat))
   refine ⟨_, _, _, rfl, hb, (hM.call hb).add h90, ?_⟩
   refine GD.call (fun _ hM => RCmp_ok hM.avlt (hM.f 17 rfl) (hM.f 0 rfl) (by first | assumption | (dsimp only; omega) | omega)) ?_
   rintro _ _ _ hM ⟨rfl, hb⟩
   refine ⟨_, _, _, rfl, hb, hM.call hb, ?_⟩
   refine GD.ev (.bool true) ?_ (hr := fun u => op_b (b := (decide ((((numv kN kD).num * (((((numv kN kD).floor) : Rat) + ((1 : Int) : Rat)).den : Int) - ((((numv kN kD).floor) : Rat) + ((1 : Int) : Rat)).num * ((numv kN kD).den : Int)).sign) < (0 : Int)))) (by kernel_rfl) (rc_lt (fl_up _)))
   refine GD.ev (.bool true) ?_
   refine GD.ev (.bool true) ?_
   refine GD.er (.agg #[.slice A32a n32a c32a, .bool m32a, .slice A32a_ n32a_ c32a_]) (fun _ hS => op_load_agg (off := 0) (by kernel_rfl) agg48 siz48 (hV87.bS 4 rfl hS) rfl rfl) ?_
   refine GD.er (.agg #[.slice A32a n32a c32a, .bool m32a, .slice A32a_ n32a_ c32a_]) (fun _ hS => op_load_agg (off := 0) (by kernel_rfl) agg48 siz48 (hV87.bS 4 rfl hS) rfl rfl) ?_
   refine GD.call (fun _ hM => Ceil_ok hM.avlt (hM.f 17 rfl) (by first | assumption | (dsimp only; omega) | omega)) ?_
   rintro _ _ _ hM ⟨A92, n92, c92, m92, rfl, h92, hb⟩
   have hs92 := sz_ceil (numv kN kD)
   refine ⟨_, _, _, rfl, hb, (hM.call hb).add h92, ?_⟩
   refine GD.call (fun _ hM => RNeg_ok hM.avlt (hM.f 18 rfl)) ?_
   rintro _ _ _ hM ⟨A93, n93, c93, m93, A93_, n93_, c93_, rfl, h93, hb⟩
   have hs93 := szR_neg (numv kN kD)
   refine ⟨_, _, _, rfl, hb, (hM.call hb).add h93, ?_⟩
   refine GD.call (fun _ hM => Floor_ok hM.avlt (hM.f 0 rfl) (by first | assumption | (dsimp only; omega) | omega)) ?_
   rintro _ _ _ hM ⟨A94, n94, c94, m94, rfl, h94, hb⟩
   have hs94 := sz_floor ((-(numv kN kD)))
   refine ⟨_, _, _, rfl, hb, (hM.call hb).add h94, ?_⟩
   refine GD.call (fun _ hM => Neg_ok hM.avlt (hM.f 0 rfl)) ?_
   rintro _ _ _ hM ⟨A95, n95, c95, m95, rfl, h95, hb⟩
   have hs95 := sz_neg (((-(numv kN kD)).floor))
   refine ⟨_, _, _, rfl, hb, (hM.call hb).add h95, ?_⟩
   refine GD.call (fun _ hM => Cmp_ok hM.avlt (hM.f 3 rfl) (hM.f 0 rfl) (by first | assumption | (dsimp only; omega) | omega)) ?_
   rintro _ _ _ hM ⟨rfl, hb⟩
   refine ⟨_, _, _, rfl, hb, hM.call hb, ?_⟩
   refine GD.ev (.bool true) ?_ (hr := fun u => op_b (b := (((((numv kN kD).ceil) - (-((-(numv kN kD)).floor))).sign) == (0 : Int))) (by kernel_rfl) (sgn_eq (fl_ceil _)))
   refine GD.ev (.bool true) ?_
   refine GD.ev (.bool true) ?_
   refine GD.call (fun _ hM => awake_ok hM.avlt) ?_
   rintro _ _ _ hM ⟨rfl, hb⟩
   refine ⟨_, _, _, rfl, hb, hM.call hb, ?_⟩
   refine GD.ev (.bool true) ?_
   refine GD.v (.bool true) ?_
   refine GD.k k1 ?_
   refine CG.ret (QG.ret (fun _ hM => results_one rfl (res_tmp rfl)) ?_)
   intro _ hM
   exact ⟨rfl, hM.below⟩

end Go.Proofs.YtklnjhlidfclmaaGreatDoor
