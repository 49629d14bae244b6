/- Contracts of the program's functions. -/
import Derived.Test.YtklnjhlidfclmaaGreatDoorC2
set_option linter.unusedVariables false
set_option linter.unusedSimpArgs false
namespace Go.Proofs.YtklnjhlidfclmaaGreatDoor
open Go.RowKit Cps
attribute [local go_sem] Oper.semAt_some

set_option maxRecDepth 100000 in
set_option maxHeartbeats 400000 in
theorem NQuotient_ok {w : World} {X : Nat → Prop} {s1 : Int} {A1 : Option Addr} {n1 : Nat} {c1 : Nat} {a : Int} {s2 : Int} {A2 : Option Addr} {n2 : Nat} {c2 : Nat} {d : Int} (hX : ∀ k, X k → k < w.heap.size) (h1 : NZk.R X w [.int .i64 s1, .slice A1 n1 c1] a) (h2 : NZk.R X w [.int .i64 s2, .slice A2 n2 c2] d) (p1 : d ≠ 0) (p2 : szg a + szg d ≤ 2147480000) :
    Calls Tryz.prog 20 #[.agg #[.int .i64 s1, .slice A1 n1 c1], .agg #[.int .i64 s2, .slice A2 n2 c2]] w (fun e w' => ∃ sr1 Ar1 nr1 cr1 sr2 Ar2 nr2 cr2, e = .returned (.tuple #[.agg #[.int .i64 sr1, .slice Ar1 nr1 cr1], .agg #[.int .i64 sr2, .slice Ar2 nr2 cr2]]) ∧ NZk.R X w' [.int .i64 sr1, .slice Ar1 nr1 cr1] (a / d) ∧ NZk.R X w' [.int .i64 sr2, .slice Ar2 nr2 cr2] (a % d) ∧ Below w.heap.size w w') := by
 have hM := ((Mem.start hX).add0 h1).add0 h2
 have hg1 : (gp a.natAbs).length = n1 := NZk.szg h1
 have hz1 := NZk.szg h1
 have hz2 := NZk.szg h2
 have hs1 := NZk.sgn h1
 have hs2 := NZk.sgn h2
 have hc1 := sign_cases a
 have hl1 := NZk.le h1
 have hd0 : 0 < d.natAbs := by omega
 refine calls_of hM Tryz.func20 Tryz.ntmps20 ?_
 refine CG.seq fun K_ k1 => ?_
 refine CG.lin 4 ?_
 refine GL.bA #[.int .i64 s1, .slice A1 n1 c1] fun g21 => ?_
 refine GL.bA #[.int .i64 s2, .slice A2 n2 c2] fun g22 => ?_
 refine GL.aA zer31 fun g23 => ?_
 refine GL.aA zer31 fun g24 => ?_
 refine GL.k k1 ?_
 refine CG.seq fun K_ k1 => ?_
 refine CG.lin 5 ?_
 refine GL.v (.pointer (some ⟨g21, 1, none⟩)) ?_
 refine GL.r (.slice A1 n1 c1) (fun _ hM => op_load_one (off := 1) (by kernel_rfl) agg29 (hM.b 3 rfl) rfl) ?_
 refine GL.v (.int .i64 (n1 : Int)) ?_
 refine GL.row (fun _ => op_make rowt29 (kl := .i64) (kc := .i64) (l := (n1 : Int)) (c := (n1 : Int)) n1 n1 (by kernel_rfl) (by kernel_rfl) (by omega) (by omega) (by omega) (by omega) (by omega)) (fun _ _ _ hm => own_made_i64 hm (by omega) (by omega)) fun g25 => ?_
 refine GL.v (.slice (some ⟨g25, 0, none⟩) n1 n1) ?_
 refine GL.k k1 ?_
 refine CG.seq fun K_ k1 => ?_
 refine CG.lin 7 ?_
 refine GL.v (.agg #[.int .i64 0, .slice none 0 0]) ?_
 refine GL.r (.agg #[.int .i64 s2, .slice A2 n2 c2]) (fun _ hM => op_load_agg (off := 0) (by kernel_rfl) agg31 siz31 (hM.b 3 rfl) rfl rfl) ?_
 refine GL.call (fun _ hM => NZAbs_ok hM.avlt (hM.f 0 rfl)) ?_
 rintro _ _ _ hM ⟨s26, A26, n26, c26, rfl, h26, hb⟩
 have hs26 := szg_abs d
 refine ⟨_, _, _, rfl, (hM.call hb).add h26, ?_⟩
 refine GL.aA zer31 fun g27 => ?_
 refine GL.aA zer31 fun g28 => ?_
 refine GL.sA (cs' := #[.int .i64 0, .slice none 0 0]) (fun _ _ => Mem.st1) (fun _ hM => hM.b 1 rfl) siz31 ?_
 refine GL.sA (cs' := #[.int .i64 s26, .slice A26 n26 c26]) (fun _ _ => Mem.st0) (fun _ hM => hM.b 0 rfl) siz31 ?_
 refine GL.k k1 ?_
 refine CG.seq fun K_ k1 => ?_
 refine CG.seq fun K_ k2 => ?_
 refine CG.lin 5 ?_
 refine GL.v (.pointer (some ⟨g21, 1, none⟩)) ?_
 refine GL.r (.slice A1 n1 c1) (fun _ hM => op_load_one (off := 1) (by kernel_rfl) agg29 (hM.b 6 rfl) rfl) ?_
 refine GL.v (.int .i64 (n1 : Int)) ?_
 refine GL.v (.int .i64 ((n1 : Int) - (1 : Int))) ?_ (hr := fun u => op_to (v := .int .i64 (IntKind.wrap .i64 ((n1 : Int) - (1 : Int)))) (by kernel_rfl) (wrap_i64 rfl (by omega) (by omega)))
 refine GL.v (.int .i64 ((n1 : Int) - (1 : Int))) ?_
 refine GL.k k2 ?_
 refine CG.block ?_
 refine CG.loop (fun m_ a_ u_ => ∃ (so : Int) (Ao : Option Addr) (no : Nat) (co : Nat) (z : Int) (i : Int) (Q : Nat) (M : List Int) (j29 : Nat → Value), a_ = ⟨#[.agg #[.int .i64 s1, .slice A1 n1 c1], .agg #[.int .i64 s2, .slice A2 n2 c2], .pointer (some ⟨g21, 0, none⟩), .pointer (some ⟨g22, 0, none⟩), .pointer (some ⟨g23, 0, none⟩), .pointer (some ⟨g24, 0, none⟩), .slice (some ⟨g25, 0, none⟩) n1 n1, .pointer (some ⟨g27, 0, none⟩), .pointer (some ⟨g28, 0, none⟩), .int .i64 i, (j29 10), (j29 11), (j29 12), undef, .pointer (some ⟨g21, 1, none⟩), .slice A1 n1 c1, .int .i64 (n1 : Int), .slice (some ⟨g25, 0, none⟩) n1 n1, .agg #[.int .i64 0, .slice none 0 0], .agg #[.int .i64 s2, .slice A2 n2 c2], .agg #[.int .i64 s26, .slice A26 n26 c26], .pointer (some ⟨g21, 1, none⟩), .slice A1 n1 c1, .int .i64 (n1 : Int), .int .i64 ((n1 : Int) - (1 : Int)), (j29 25), (j29 26), (j29 27), (j29 28), (j29 29), (j29 30), (j29 31), (j29 32), (j29 33), (j29 34), (j29 35), (j29 36), (j29 37), (j29 38), (j29 39), (j29 40), (j29 41), (j29 42), (j29 43), (j29 44), (j29 45), (j29 46), (j29 47), (j29 48), (j29 49), (j29 50), (j29 51), (j29 52), (j29 53), (j29 54), (j29 55), (j29 56), (j29 57), (j29 58), (j29 59), (j29 60), (j29 61), (j29 62), (j29 63), undef, undef, undef, undef, undef, undef, undef, undef, undef, undef, undef, undef, undef, undef, undef, undef, undef, undef, undef, undef, undef, undef, undef, undef, undef], []⟩ ∧ m_ = (i + 1).toNat ∧ Mem w [] X u_ [.box g28 #[.int .i64 s26, .slice A26 n26 c26] 31, .box g27 #[.int .i64 so, .slice Ao no co] 31, .own g25 3 n1 n1 (i64s M), .box g24 #[.int .i64 0, .slice none 0 0] 31, .box g23 #[.int .i64 0, .slice none 0 0] 31, .box g22 #[.int .i64 s2, .slice A2 n2 c2] 31, .box g21 #[.int .i64 s1, .slice A1 n1 c1] 31] [⟨NZk, [.int .i64 so, .slice Ao no co], z⟩, ⟨NZk, [.int .i64 s26, .slice A26 n26 c26], (d.natAbs : Int)⟩, ⟨NZk, [.int .i64 s2, .slice A2 n2 c2], d⟩, ⟨NZk, [.int .i64 s1, .slice A1 n1 c1], a⟩] ∧ (-1 ≤ i ∧ i < (n1 : Int)) ∧ (0 ≤ z ∧ z.natAbs < d.natAbs) ∧ (a.natAbs / 10000 ^ (i + 1).toNat = Q * d.natAbs + z.natAbs) ∧ (val 10000 M = 10000 ^ (i + 1).toNat * (Q : Int)) ∧ (∀ j : Nat, (j : Int) ≤ i → M.getD j 0 = 0) ∧ (∀ j, (0 : Int) ≤ M.getD j 0 ∧ M.getD j 0 ≤ 9999) ∧ (szg z ≤ szg d)) (fun _ hM => ⟨_, 0, none, 0, 0, 0, ((n1 : Int) - (1 : Int)), 0, (List.replicate n1 0), (fun t => (#[.agg #[.int .i64 s1, .slice A1 n1 c1], .agg #[.int .i64 s2, .slice A2 n2 c2], .pointer (some ⟨g21, 0, none⟩), .pointer (some ⟨g22, 0, none⟩), .pointer (some ⟨g23, 0, none⟩), .pointer (some ⟨g24, 0, none⟩), .slice (some ⟨g25, 0, none⟩) n1 n1, .pointer (some ⟨g27, 0, none⟩), .pointer (some ⟨g28, 0, none⟩), .int .i64 ((n1 : Int) - (1 : Int)), undef, undef, undef, undef, .pointer (some ⟨g21, 1, none⟩), .slice A1 n1 c1, .int .i64 (n1 : Int), .slice (some ⟨g25, 0, none⟩) n1 n1, .agg #[.int .i64 0, .slice none 0 0], .agg #[.int .i64 s2, .slice A2 n2 c2], .agg #[.int .i64 s26, .slice A26 n26 c26], .pointer (some ⟨g21, 1, none⟩), .slice A1 n1 c1, .int .i64 (n1 : Int), .int .i64 ((n1 : Int) - (1 : Int)), undef, undef, undef, undef, undef, undef, undef, undef, undef, undef, undef, undef, undef, undef, undef, undef, undef, undef, undef, undef, undef, undef, undef, undef, undef, undef, undef, undef, undef, undef, undef, undef, undef, undef, undef, undef, undef, undef, undef, undef, undef, undef, undef, undef, undef, undef, undef, undef, undef, undef, undef, undef, undef, undef, undef, undef, undef, undef, undef, undef, undef, undef, undef, undef] : Array Value).getD t undef), (by kernel_rfl), rfl, ((((hM.clr).add (hM.f 2 rfl)).add (hM.f 1 rfl)).add (hM.f 0 rfl)).add (NZk.nil _ _ none 0), (by omega), (by omega), (zq_start hg1 _), (by rw [val_replicate_zero]; simp), (fun j _ => zeros_get _ j), (fun j => by rw [zeros_get]; omega), (szg_mono (by omega))⟩) ?_
 rintro m_ a_ u_ ⟨so, Ao, no, co, z, i, Q, M, j29, rfl, hm29, hM, hI, hz, hA, hV, hMZ, hMB, hzs⟩
 have hMl := (hM.o 2 rfl).ilen
 have hzz := NZk.szg (hM.f 0 rfl)
 have hso := NZk.sgn (hM.f 0 rfl)
 refine CG.go hM ?_
 refine CG.seq fun K_ k2 => ?_
 refine CG.seq fun K_ k3 => ?_
 refine CG.lin 2 ?_
 refine GL.v (.int .i64 i) ?_
 refine GL.v (.bool (decide (i ≥ (0 : Int)))) ?_
 refine GL.k k3 ?_
 by_cases hc30 : i ≥ (0 : Int)
 · have hk30 : (decide (i ≥ (0 : Int))) = true := decide_eq_true hc30
   refine CG.yes ?_ hk30 rfl
   refine CG.skip ?_
   refine QG.k k2 ?_
   refine CG.seq fun K_ k2 => ?_
   refine CG.block ?_
   refine CG.seq fun K_ k3 => ?_
   refine CG.draw [] [0, 1, 2, 3, 4, 6, 7] (.step 0 (.step 1 (.step 2 (.step 3 (.step 4 (.step 6 (.step 7 (.step 5 (.step 8 (.step 9 (.step 10 .done))))))))))) (fun V hV31 => ?_)
   refine GD.ev (.pointer (some ⟨g21, 1, none⟩)) ?_
   refine GD.er (.slice A1 n1 c1) (fun _ hS => op_load_one (off := 1) (by kernel_rfl) agg29 (hV31.bS 6 rfl hS) rfl) ?_
   refine GD.ev (.int .i64 i) ?_
   refine GD.er (elemPtr A1 ((i).toNat)) (fun _ hS => op_index rowt29 (c := c1) (k := .i64) (i := i) ((i).toNat) (by kernel_rfl) (by kernel_rfl) (by omega) (by omega) (Row.keep (NZk.row (hV31.f 3 rfl)) hS.keep) _) ?_
   refine GD.er (.int .i64 ((gd a.natAbs i.toNat : Nat) : Int)) (fun _ hS => op_to (v := .int .i64 ((gp (a).natAbs).getD ((i).toNat) 0)) (op_load_i64 (n := n1) (by kernel_rfl) agg3 (Row.keep (NZk.row (hV31.f 3 rfl)) hS.keep) (by omega)) (congrArg (Value.int .i64) (gd_int _ _))) ?_
   refine GD.ev (.pointer (some ⟨g27, 1, none⟩)) ?_
   refine GD.er (.slice Ao no co) (fun _ hS => op_load_one (off := 1) (by kernel_rfl) agg29 (hV31.bS 1 rfl hS) rfl) ?_
   refine GD.row (fun _ => op_build1 rowt29 (v := .int .i64 ((gd a.natAbs i.toNat : Nat) : Int)) (by kernel_rfl) rfl) (fun _ _ _ hm => own_one_i64 hm) fun g32 hg32 => ?_
   refine GD.gn hg32 (fun _ _ _ _ => Mem.gr0) (fun _ hM => op_append_i64 (cx := co) rowt29 (hM.o 0 rfl) (NZk.row (hM.f 0 rfl)) (by kernel_rfl) (by kernel_rfl) (by omega) (by omega)) fun g33 c33 hg33 => ?_
   refine GD.mem (fun _ hM => hM.pu0 fun hO _ hX => SIk.own hO hX) ?_
   refine GD.call (fun _ hM => nmade_ok hM.avlt (1) (x := (z.natAbs * 10000 + gd a.natAbs i.toNat : Nat)) (hM.f 0 rfl) (zq_val _ _) (zq_bnd _ _ (Nat.mod_lt _ (by decide))) (.inl rfl) (by first | assumption | omega)) ?_
   rintro _ _ _ hM ⟨s34, A34, n34, c34, rfl, h34, hb⟩
   refine ⟨_, _, _, rfl, hb, (hM.call hb).add h34, ?_⟩
   refine GD.st (fun _ _ => Mem.st1) (fun _ hM => store_all (cs' := #[.int .i64 s34, .slice A34 n34 c34]) siz31 (hM.b 1 rfl) (by kernel_rfl) (by kernel_rfl) rfl rfl rfl) ?_
   refine GD.k k3 ?_
   refine CG.seq fun K_ k3 => ?_
   refine CG.lin 2 ?_
   refine GL.v (.int .i64 0) ?_
   refine GL.v (.int .i64 10000) ?_
   refine GL.k k3 ?_
   refine CG.seq fun K_ k3 => ?_
   refine CG.block ?_
   refine CG.loop (fun m_ a_ u_ => ∃ (l : Nat) (h : Nat) (j35 : Nat → Value), a_ = ⟨#[.agg #[.int .i64 s1, .slice A1 n1 c1], .agg #[.int .i64 s2, .slice A2 n2 c2], .pointer (some ⟨g21, 0, none⟩), .pointer (some ⟨g22, 0, none⟩), .pointer (some ⟨g23, 0, none⟩), .pointer (some ⟨g24, 0, none⟩), .slice (some ⟨g25, 0, none⟩) n1 n1, .pointer (some ⟨g27, 0, none⟩), .pointer (some ⟨g28, 0, none⟩), .int .i64 i, .int .i64 (l : Int), .int .i64 (h : Int), (j35 12), undef, .pointer (some ⟨g21, 1, none⟩), .slice A1 n1 c1, .int .i64 (n1 : Int), .slice (some ⟨g25, 0, none⟩) n1 n1, .agg #[.int .i64 0, .slice none 0 0], .agg #[.int .i64 s2, .slice A2 n2 c2], .agg #[.int .i64 s26, .slice A26 n26 c26], .pointer (some ⟨g21, 1, none⟩), .slice A1 n1 c1, .int .i64 (n1 : Int), .int .i64 ((n1 : Int) - (1 : Int)), .int .i64 i, .bool (decide (i ≥ (0 : Int))), (j29 27), (j29 28), .pointer (some ⟨g21, 1, none⟩), .slice A1 n1 c1, .int .i64 i, elemPtr A1 ((i).toNat), .int .i64 ((gd a.natAbs i.toNat : Nat) : Int), .slice (some ⟨g32, 0, none⟩) 1 1, .pointer (some ⟨g27, 1, none⟩), .slice Ao no co, .slice (some ⟨g33, 0, none⟩) (1 + no) c33, .agg #[.int .i64 s34, .slice A34 n34 c34], (j35 39), (j35 40), (j35 41), (j35 42), (j35 43), (j35 44), (j35 45), (j35 46), (j35 47), (j35 48), (j35 49), (j35 50), (j35 51), (j35 52), (j35 53), (j35 54), (j29 55), (j29 56), (j29 57), (j29 58), (j29 59), (j29 60), (j29 61), (j29 62), (j29 63), undef, undef, undef, undef, undef, undef, undef, undef, undef, undef, undef, undef, undef, undef, undef, undef, undef, undef, undef, undef, undef, undef, undef, undef, undef], []⟩ ∧ m_ = h - l ∧ Mem w [] X u_ [.box g28 #[.int .i64 s26, .slice A26 n26 c26] 31, .box g27 #[.int .i64 s34, .slice A34 n34 c34] 31, .own g25 3 n1 n1 (i64s M), .box g24 #[.int .i64 0, .slice none 0 0] 31, .box g23 #[.int .i64 0, .slice none 0 0] 31, .box g22 #[.int .i64 s2, .slice A2 n2 c2] 31, .box g21 #[.int .i64 s1, .slice A1 n1 c1] 31] [⟨NZk, [.int .i64 s34, .slice A34 n34 c34], 1 * ((z.natAbs * 10000 + gd a.natAbs i.toNat : Nat) : Int)⟩, ⟨SIk, [.slice (some ⟨g33, 0, none⟩) (1 + no) c33], [((gd a.natAbs i.toNat : Nat) : Int)] ++ (gp (z).natAbs)⟩, ⟨NZk, [.int .i64 so, .slice Ao no co], z⟩, ⟨NZk, [.int .i64 s26, .slice A26 n26 c26], (d.natAbs : Int)⟩, ⟨NZk, [.int .i64 s2, .slice A2 n2 c2], d⟩, ⟨NZk, [.int .i64 s1, .slice A1 n1 c1], a⟩] ∧ (l < h ∧ h ≤ 10000) ∧ (l * d.natAbs ≤ (z.natAbs * 10000 + gd a.natAbs i.toNat)) ∧ ((z.natAbs * 10000 + gd a.natAbs i.toNat) < h * d.natAbs)) (fun _ hM => ⟨_, 0, 10000, (fun t => (#[.agg #[.int .i64 s1, .slice A1 n1 c1], .agg #[.int .i64 s2, .slice A2 n2 c2], .pointer (some ⟨g21, 0, none⟩), .pointer (some ⟨g22, 0, none⟩), .pointer (some ⟨g23, 0, none⟩), .pointer (some ⟨g24, 0, none⟩), .slice (some ⟨g25, 0, none⟩) n1 n1, .pointer (some ⟨g27, 0, none⟩), .pointer (some ⟨g28, 0, none⟩), .int .i64 i, .int .i64 0, .int .i64 10000, (j29 12), undef, .pointer (some ⟨g21, 1, none⟩), .slice A1 n1 c1, .int .i64 (n1 : Int), .slice (some ⟨g25, 0, none⟩) n1 n1, .agg #[.int .i64 0, .slice none 0 0], .agg #[.int .i64 s2, .slice A2 n2 c2], .agg #[.int .i64 s26, .slice A26 n26 c26], .pointer (some ⟨g21, 1, none⟩), .slice A1 n1 c1, .int .i64 (n1 : Int), .int .i64 ((n1 : Int) - (1 : Int)), .int .i64 i, .bool (decide (i ≥ (0 : Int))), (j29 27), (j29 28), .pointer (some ⟨g21, 1, none⟩), .slice A1 n1 c1, .int .i64 i, elemPtr A1 ((i).toNat), .int .i64 ((gd a.natAbs i.toNat : Nat) : Int), .slice (some ⟨g32, 0, none⟩) 1 1, .pointer (some ⟨g27, 1, none⟩), .slice Ao no co, .slice (some ⟨g33, 0, none⟩) (1 + no) c33, .agg #[.int .i64 s34, .slice A34 n34 c34], (j29 39), (j29 40), (j29 41), (j29 42), (j29 43), (j29 44), (j29 45), (j29 46), (j29 47), (j29 48), (j29 49), (j29 50), (j29 51), (j29 52), (j29 53), (j29 54), (j29 55), (j29 56), (j29 57), (j29 58), (j29 59), (j29 60), (j29 61), (j29 62), (j29 63), undef, undef, undef, undef, undef, undef, undef, undef, undef, undef, undef, undef, undef, undef, undef, undef, undef, undef, undef, undef, undef, undef, undef, undef, undef] : Array Value).getD t undef), (by kernel_rfl), rfl, ((((((hM.clr).add (hM.f 5 rfl)).add (hM.f 4 rfl)).add (hM.f 3 rfl)).add (hM.f 2 rfl)).add (hM.f 1 rfl)).add (hM.f 0 rfl), (by omega), (by simp), (zq_top hz.2 (Nat.mod_lt _ (by decide)))⟩) ?_
   rintro m_ a_ u_ ⟨l, h, j35, rfl, hm35, hM, hlh, hlo, hhi⟩
   refine CG.go hM ?_
   refine CG.seq fun K_ k4 => ?_
   refine CG.seq fun K_ k5 => ?_
   refine CG.lin 4 ?_
   refine GL.v (.int .i64 (h : Int)) ?_
   refine GL.v (.int .i64 (l : Int)) ?_
   refine GL.v (.int .i64 ((h : Int) - (l : Int))) ?_ (hr := fun u => op_to (v := .int .i64 (IntKind.wrap .i64 ((h : Int) - (l : Int)))) (by kernel_rfl) (wrap_i64 rfl (by omega) (by omega)))
   refine GL.v (.bool (decide (((h : Int) - (l : Int)) > (1 : Int)))) ?_
   refine GL.k k5 ?_
   by_cases hc36 : ((h : Int) - (l : Int)) > (1 : Int)
   · have hk36 : (decide (((h : Int) - (l : Int)) > (1 : Int))) = true := decide_eq_true hc36
     refine CG.yes ?_ hk36 rfl
     refine CG.skip ?_
     refine QG.k k4 ?_
     refine CG.block ?_
     refine CG.seq fun K_ k4 => ?_
     refine CG.lin 5 ?_
     refine GL.v (.int .i64 (l : Int)) ?_
     refine GL.v (.int .i64 (h : Int)) ?_
     refine GL.v (.int .i64 ((l + h : Nat) : Int)) ?_ (hr := fun u => op_to (v := .int .i64 (IntKind.wrap .i64 ((l : Int) + (h : Int)))) (by kernel_rfl) (wrap_i64 (by omega) (by omega) (by omega)))
     refine GL.v (.int .i64 (((l + h) / 2 : Nat) : Int)) ?_ (hr := fun u => op_to (v := .int .i64 (IntKind.wrap .i64 ((((l + h : Nat) : Int)).tdiv 2))) (by kernel_rfl) (quo_i64 (by omega) (by omega) (by omega) (by omega)))
     refine GL.v (.int .i64 (((l + h) / 2 : Nat) : Int)) ?_
     refine GL.k k4 ?_
     refine CG.seq fun K_ k4 => ?_
     refine CG.draw [] [0, 1, 3, 5] (.step 0 (.step 1 (.step 3 (.step 2 (.step 4 (.step 5 .done)))))) (fun V hV37 => ?_)
     refine GD.er (.agg #[.int .i64 s26, .slice A26 n26 c26]) (fun _ hS => op_load_agg (off := 0) (by kernel_rfl) agg31 siz31 (hV37.bS 0 rfl hS) rfl rfl) ?_
     refine GD.ev (.int .i64 (((l + h) / 2 : Nat) : Int)) ?_
     refine GD.er (.agg #[.int .i64 s34, .slice A34 n34 c34]) (fun _ hS => op_load_agg (off := 0) (by kernel_rfl) agg31 siz31 (hV37.bS 1 rfl hS) rfl rfl) ?_
     refine GD.call (fun _ hM => ntimes_ok hM.avlt (((l + h) / 2 : Nat) : Int) (hM.f 3 rfl) (by first | assumption | omega) (by first | assumption | omega)) ?_
     rintro _ _ _ hM ⟨s38, A38, n38, c38, rfl, h38, hb⟩
     have hs38 := szg_mul (d.natAbs : Int) ((((l + h) / 2 : Nat) : Int))
     refine ⟨_, _, _, rfl, hb, (hM.call hb).add h38, ?_⟩
     refine GD.call (fun _ hM => larger_ok hM.avlt (hM.f 0 rfl) (hM.f 1 rfl)) ?_
     rintro _ _ _ hM ⟨rfl, hb⟩
     refine ⟨_, _, _, rfl, hb, hM.call hb, ?_⟩
     refine GD.ev (.bool (decide ((cmpN ((d.natAbs : Int) * (((l + h) / 2 : Nat) : Int)).natAbs (1 * ((z.natAbs * 10000 + gd a.natAbs i.toNat : Nat) : Int)).natAbs) ≤ (0 : Int)))) ?_
     refine GD.k k4 ?_
     by_cases hc40 : ((l + h) / 2) * d.natAbs ≤ (z.natAbs * 10000 + gd a.natAbs i.toNat)
     · have hk40 : (decide ((cmpN ((d.natAbs : Int) * (((l + h) / 2 : Nat) : Int)).natAbs (1 * ((z.natAbs * 10000 + gd a.natAbs i.toNat : Nat) : Int)).natAbs) ≤ (0 : Int))) = true := decide_eq_true ((zq_cmp _ _ _).2 hc40)
       refine CG.yes ?_ hk40 rfl
       refine CG.lin 2 ?_
       refine GL.v (.int .i64 (((l + h) / 2 : Nat) : Int)) ?_
       refine GL.v (.int .i64 (((l + h) / 2 : Nat) : Int)) ?_
       refine GL.q ?_
       refine QG.block ?_
       refine QG.again fun _ hM => ?_
       exact ⟨h - ((l + h) / 2), (by omega), ((l + h) / 2), h, (fun t => (#[.agg #[.int .i64 s1, .slice A1 n1 c1], .agg #[.int .i64 s2, .slice A2 n2 c2], .pointer (some ⟨g21, 0, none⟩), .pointer (some ⟨g22, 0, none⟩), .pointer (some ⟨g23, 0, none⟩), .pointer (some ⟨g24, 0, none⟩), .slice (some ⟨g25, 0, none⟩) n1 n1, .pointer (some ⟨g27, 0, none⟩), .pointer (some ⟨g28, 0, none⟩), .int .i64 i, .int .i64 (((l + h) / 2 : Nat) : Int), .int .i64 (h : Int), .int .i64 (((l + h) / 2 : Nat) : Int), undef, .pointer (some ⟨g21, 1, none⟩), .slice A1 n1 c1, .int .i64 (n1 : Int), .slice (some ⟨g25, 0, none⟩) n1 n1, .agg #[.int .i64 0, .slice none 0 0], .agg #[.int .i64 s2, .slice A2 n2 c2], .agg #[.int .i64 s26, .slice A26 n26 c26], .pointer (some ⟨g21, 1, none⟩), .slice A1 n1 c1, .int .i64 (n1 : Int), .int .i64 ((n1 : Int) - (1 : Int)), .int .i64 i, .bool (decide (i ≥ (0 : Int))), (j29 27), (j29 28), .pointer (some ⟨g21, 1, none⟩), .slice A1 n1 c1, .int .i64 i, elemPtr A1 ((i).toNat), .int .i64 ((gd a.natAbs i.toNat : Nat) : Int), .slice (some ⟨g32, 0, none⟩) 1 1, .pointer (some ⟨g27, 1, none⟩), .slice Ao no co, .slice (some ⟨g33, 0, none⟩) (1 + no) c33, .agg #[.int .i64 s34, .slice A34 n34 c34], .int .i64 (h : Int), .int .i64 (l : Int), .int .i64 ((h : Int) - (l : Int)), .bool (decide (((h : Int) - (l : Int)) > (1 : Int))), .int .i64 (l : Int), .int .i64 (h : Int), .int .i64 ((l + h : Nat) : Int), .int .i64 (((l + h) / 2 : Nat) : Int), .agg #[.int .i64 s26, .slice A26 n26 c26], .int .i64 (((l + h) / 2 : Nat) : Int), .agg #[.int .i64 s38, .slice A38 n38 c38], .agg #[.int .i64 s34, .slice A34 n34 c34], .int .i64 (cmpN ((d.natAbs : Int) * (((l + h) / 2 : Nat) : Int)).natAbs (1 * ((z.natAbs * 10000 + gd a.natAbs i.toNat : Nat) : Int)).natAbs), .bool (decide ((cmpN ((d.natAbs : Int) * (((l + h) / 2 : Nat) : Int)).natAbs (1 * ((z.natAbs * 10000 + gd a.natAbs i.toNat : Nat) : Int)).natAbs) ≤ (0 : Int))), .int .i64 (((l + h) / 2 : Nat) : Int), (j35 54), (j29 55), (j29 56), (j29 57), (j29 58), (j29 59), (j29 60), (j29 61), (j29 62), (j29 63), undef, undef, undef, undef, undef, undef, undef, undef, undef, undef, undef, undef, undef, undef, undef, undef, undef, undef, undef, undef, undef, undef, undef, undef, undef] : Array Value).getD t undef), (by kernel_rfl), rfl, ((((((hM.clr).add (hM.f 6 rfl)).add (hM.f 5 rfl)).add (hM.f 4 rfl)).add (hM.f 3 rfl)).add (hM.f 2 rfl)).add (hM.f 1 rfl), (by omega), (by first | assumption | omega), (by first | assumption | omega)⟩
     · have hk40 : (decide ((cmpN ((d.natAbs : Int) * (((l + h) / 2 : Nat) : Int)).natAbs (1 * ((z.natAbs * 10000 + gd a.natAbs i.toNat : Nat) : Int)).natAbs) ≤ (0 : Int))) = false := decide_eq_false (fun h => hc40 ((zq_cmp _ _ _).1 h))
       refine CG.no ?_ hk40 rfl
       refine CG.lin 2 ?_
       refine GL.v (.int .i64 (((l + h) / 2 : Nat) : Int)) ?_
       refine GL.v (.int .i64 (((l + h) / 2 : Nat) : Int)) ?_
       refine GL.q ?_
       refine QG.block ?_
       refine QG.again fun _ hM => ?_
       exact ⟨((l + h) / 2) - l, (by omega), l, ((l + h) / 2), (fun t => (#[.agg #[.int .i64 s1, .slice A1 n1 c1], .agg #[.int .i64 s2, .slice A2 n2 c2], .pointer (some ⟨g21, 0, none⟩), .pointer (some ⟨g22, 0, none⟩), .pointer (some ⟨g23, 0, none⟩), .pointer (some ⟨g24, 0, none⟩), .slice (some ⟨g25, 0, none⟩) n1 n1, .pointer (some ⟨g27, 0, none⟩), .pointer (some ⟨g28, 0, none⟩), .int .i64 i, .int .i64 (l : Int), .int .i64 (((l + h) / 2 : Nat) : Int), .int .i64 (((l + h) / 2 : Nat) : Int), undef, .pointer (some ⟨g21, 1, none⟩), .slice A1 n1 c1, .int .i64 (n1 : Int), .slice (some ⟨g25, 0, none⟩) n1 n1, .agg #[.int .i64 0, .slice none 0 0], .agg #[.int .i64 s2, .slice A2 n2 c2], .agg #[.int .i64 s26, .slice A26 n26 c26], .pointer (some ⟨g21, 1, none⟩), .slice A1 n1 c1, .int .i64 (n1 : Int), .int .i64 ((n1 : Int) - (1 : Int)), .int .i64 i, .bool (decide (i ≥ (0 : Int))), (j29 27), (j29 28), .pointer (some ⟨g21, 1, none⟩), .slice A1 n1 c1, .int .i64 i, elemPtr A1 ((i).toNat), .int .i64 ((gd a.natAbs i.toNat : Nat) : Int), .slice (some ⟨g32, 0, none⟩) 1 1, .pointer (some ⟨g27, 1, none⟩), .slice Ao no co, .slice (some ⟨g33, 0, none⟩) (1 + no) c33, .agg #[.int .i64 s34, .slice A34 n34 c34], .int .i64 (h : Int), .int .i64 (l : Int), .int .i64 ((h : Int) - (l : Int)), .bool (decide (((h : Int) - (l : Int)) > (1 : Int))), .int .i64 (l : Int), .int .i64 (h : Int), .int .i64 ((l + h : Nat) : Int), .int .i64 (((l + h) / 2 : Nat) : Int), .agg #[.int .i64 s26, .slice A26 n26 c26], .int .i64 (((l + h) / 2 : Nat) : Int), .agg #[.int .i64 s38, .slice A38 n38 c38], .agg #[.int .i64 s34, .slice A34 n34 c34], .int .i64 (cmpN ((d.natAbs : Int) * (((l + h) / 2 : Nat) : Int)).natAbs (1 * ((z.natAbs * 10000 + gd a.natAbs i.toNat : Nat) : Int)).natAbs), .bool (decide ((cmpN ((d.natAbs : Int) * (((l + h) / 2 : Nat) : Int)).natAbs (1 * ((z.natAbs * 10000 + gd a.natAbs i.toNat : Nat) : Int)).natAbs) ≤ (0 : Int))), (j35 53), .int .i64 (((l + h) / 2 : Nat) : Int), (j29 55), (j29 56), (j29 57), (j29 58), (j29 59), (j29 60), (j29 61), (j29 62), (j29 63), undef, undef, undef, undef, undef, undef, undef, undef, undef, undef, undef, undef, undef, undef, undef, undef, undef, undef, undef, undef, undef, undef, undef, undef, undef] : Array Value).getD t undef), (by kernel_rfl), rfl, ((((((hM.clr).add (hM.f 6 rfl)).add (hM.f 5 rfl)).add (hM.f 4 rfl)).add (hM.f 3 rfl)).add (hM.f 2 rfl)).add (hM.f 1 rfl), (by omega), (by first | assumption | omega), (by first | assumption | omega)⟩
   · have hk36 : (decide (((h : Int) - (l : Int)) > (1 : Int))) = false := decide_eq_false hc36
     refine CG.no ?_ hk36 rfl
     refine CG.exit (QG.then_exit (QG.then_exit (QG.here ?_)))
     refine QG.k k3 ?_
     refine CG.seq fun K_ k3 => ?_
     refine CG.lin 5 ?_
     refine GL.v (.slice (some ⟨g25, 0, none⟩) n1 n1) ?_
     refine GL.v (.int .i64 i) ?_
     refine GL.v (.int .i64 (l : Int)) ?_
     refine GL.r (elemPtr (some ⟨g25, 0, none⟩) ((i).toNat)) (fun _ hM => op_index rowt29 (c := n1) (k := .i64) (i := i) ((i).toNat) (by kernel_rfl) (by kernel_rfl) (by omega) (by omega) (hM.o 2 rfl).row _) ?_
     refine GL.el (fun _ _ _ => Mem.el2) (fun _ hM => op_set_i64 ((i).toNat) (l : Int) siz3 (hM.o 2 rfl) (by kernel_rfl) (by kernel_rfl) (by omega)) ?_
     refine GL.k k3 ?_
     refine CG.draw [] [0, 1, 2] (.step 0 (.step 1 (.step 2 (.step 3 (.step 4 (.step 5 .done)))))) (fun V hV41 => ?_)
     refine GD.er (.agg #[.int .i64 s34, .slice A34 n34 c34]) (fun _ hS => op_load_agg (off := 0) (by kernel_rfl) agg31 siz31 (hV41.bS 1 rfl hS) rfl rfl) ?_
     refine GD.er (.agg #[.int .i64 s26, .slice A26 n26 c26]) (fun _ hS => op_load_agg (off := 0) (by kernel_rfl) agg31 siz31 (hV41.bS 0 rfl hS) rfl rfl) ?_
     refine GD.ev (.int .i64 (l : Int)) ?_
     have hsl : szg (l : Int) ≤ 2 := szg_le (by omega)
     have hzr := zq_szR (g := gd a.natAbs i.toNat) hz.2 (Nat.mod_lt _ (by decide))
     have hsa := szg_abs d
     refine GD.call (fun _ hM => ntimes_ok hM.avlt (l : Int) (hM.f 3 rfl) (by first | assumption | omega) (by first | assumption | omega)) ?_
     rintro _ _ _ hM ⟨s42, A42, n42, c42, rfl, h42, hb⟩
     have hs42 := szg_mul (d.natAbs : Int) (l : Int)
     refine ⟨_, _, _, rfl, hb, (hM.call hb).add h42, ?_⟩
     refine GD.call (fun _ hM => ZSub_ok hM.avlt (hM.f 1 rfl) (hM.f 0 rfl) (by first | assumption | omega)) ?_
     rintro _ _ _ hM ⟨s43, A43, n43, c43, rfl, h43, hb⟩
     have hs43 := szg_sub ((1 * ((z.natAbs * 10000 + gd a.natAbs i.toNat : Nat) : Int))) (((d.natAbs : Int) * (l : Int)))
     refine ⟨_, _, _, rfl, hb, (hM.call hb).add h43, ?_⟩
     refine GD.st (fun _ _ => Mem.st1) (fun _ hM => store_all (cs' := #[.int .i64 s43, .slice A43 n43 c43]) siz31 (hM.b 1 rfl) (by kernel_rfl) (by kernel_rfl) rfl rfl rfl) ?_
     refine GD.q ?_
     refine QG.block ?_
     refine QG.k k2 ?_
     refine CG.lin 3 ?_
     refine GL.v (.int .i64 i) ?_
     refine GL.v (.int .i64 (i - (1 : Int))) ?_ (hr := fun u => op_to (v := .int .i64 (IntKind.wrap .i64 (i - (1 : Int)))) (by kernel_rfl) (wrap_i64 rfl (by omega) (by omega)))
     refine GL.v (.int .i64 (i - (1 : Int))) ?_
     refine GL.q ?_
     refine QG.again fun _ hM => ?_
     have hI2 : 0 ≤ i := by omega
     exact ⟨((i - (1 : Int)) + 1).toNat, (by omega), s43, A43, n43, c43, ((1 * ((z.natAbs * 10000 + gd a.natAbs i.toNat : Nat) : Int)) - ((d.natAbs : Int) * (l : Int))), (i - (1 : Int)), (Q * 10000 + l), (M.set ((i).toNat) (l : Int)), (fun t => (#[.agg #[.int .i64 s1, .slice A1 n1 c1], .agg #[.int .i64 s2, .slice A2 n2 c2], .pointer (some ⟨g21, 0, none⟩), .pointer (some ⟨g22, 0, none⟩), .pointer (some ⟨g23, 0, none⟩), .pointer (some ⟨g24, 0, none⟩), .slice (some ⟨g25, 0, none⟩) n1 n1, .pointer (some ⟨g27, 0, none⟩), .pointer (some ⟨g28, 0, none⟩), .int .i64 (i - (1 : Int)), .int .i64 (l : Int), .int .i64 (h : Int), (j35 12), undef, .pointer (some ⟨g21, 1, none⟩), .slice A1 n1 c1, .int .i64 (n1 : Int), .slice (some ⟨g25, 0, none⟩) n1 n1, .agg #[.int .i64 0, .slice none 0 0], .agg #[.int .i64 s2, .slice A2 n2 c2], .agg #[.int .i64 s26, .slice A26 n26 c26], .pointer (some ⟨g21, 1, none⟩), .slice A1 n1 c1, .int .i64 (n1 : Int), .int .i64 ((n1 : Int) - (1 : Int)), .int .i64 i, .bool (decide (i ≥ (0 : Int))), .int .i64 i, .int .i64 (i - (1 : Int)), .pointer (some ⟨g21, 1, none⟩), .slice A1 n1 c1, .int .i64 i, elemPtr A1 ((i).toNat), .int .i64 ((gd a.natAbs i.toNat : Nat) : Int), .slice (some ⟨g32, 0, none⟩) 1 1, .pointer (some ⟨g27, 1, none⟩), .slice Ao no co, .slice (some ⟨g33, 0, none⟩) (1 + no) c33, .agg #[.int .i64 s34, .slice A34 n34 c34], .int .i64 (h : Int), .int .i64 (l : Int), .int .i64 ((h : Int) - (l : Int)), .bool (decide (((h : Int) - (l : Int)) > (1 : Int))), (j35 43), (j35 44), (j35 45), (j35 46), (j35 47), (j35 48), (j35 49), (j35 50), (j35 51), (j35 52), (j35 53), (j35 54), .slice (some ⟨g25, 0, none⟩) n1 n1, .int .i64 i, .int .i64 (l : Int), elemPtr (some ⟨g25, 0, none⟩) ((i).toNat), .agg #[.int .i64 s34, .slice A34 n34 c34], .agg #[.int .i64 s26, .slice A26 n26 c26], .int .i64 (l : Int), .agg #[.int .i64 s42, .slice A42 n42 c42], .agg #[.int .i64 s43, .slice A43 n43 c43], undef, undef, undef, undef, undef, undef, undef, undef, undef, undef, undef, undef, undef, undef, undef, undef, undef, undef, undef, undef, undef, undef, undef, undef, undef] : Array Value).getD t undef), (by kernel_rfl), rfl, ((((hM.clr).add (hM.f 7 rfl)).add (hM.f 6 rfl)).add (hM.f 5 rfl)).add (hM.f 0 rfl), (by omega), (zq_next hlo (zq_last (by omega) hlo hhi)), (zq_A hA hI2 hlo), (zq_V (by omega) (hMZ _ (by omega)) hV hI2), (fun j hj => by rw [set_get _ (by omega), if_neg (by omega)]; exact hMZ j (by omega)), (set_bound (by omega) hMB (by omega)), (szg_mono (Nat.le_of_lt (zq_next hlo (zq_last (by omega) hlo hhi)).2))⟩
 · have hk30 : (decide (i ≥ (0 : Int))) = false := decide_eq_false hc30
   refine CG.no ?_ hk30 rfl
   refine CG.exit (QG.then_exit (QG.then_exit (QG.here ?_)))
   refine QG.k k1 ?_
   refine CG.seq fun K_ k1 => ?_
   refine CG.lin 6 ?_
   refine GL.v (.pointer (some ⟨g21, 0, none⟩)) ?_
   refine GL.r (.int .i64 s1) (fun _ hM => op_load_one (off := 0) (by kernel_rfl) agg3 (hM.b 6 rfl) rfl) ?_
   refine GL.v (.slice (some ⟨g25, 0, none⟩) n1 n1) ?_
   have hB := zq_end (by omega) hA
   have hsQ := zq_szQ hs1 hd0 hB
   refine GL.mem (fun _ hM => hM.pu2 fun hO _ hX => SIk.own hO hX) ?_
   refine GL.call (fun _ hM => nmade_ok hM.avlt s1 (x := Q) (hM.f 0 rfl) (by rw [hV, show (i + 1).toNat = 0 by omega]; simp) (mem_of_get hMB (by decide) (by decide)) (zq_sgn hs1 hA (by omega)) (by first | assumption | omega)) ?_
   rintro _ _ _ hM ⟨s44, A44, n44, c44, rfl, h44, hb⟩
   refine ⟨_, _, _, rfl, (hM.call hb).add h44, ?_⟩
   refine GL.aA zer31 fun g45 => ?_
   refine GL.sA (cs' := #[.int .i64 s44, .slice A44 n44 c44]) (fun _ _ => Mem.st0) (fun _ hM => hM.b 0 rfl) siz31 ?_
   refine GL.k k1 ?_
   refine CG.seq fun K_ k1 => ?_
   refine CG.seq fun K_ k2 => ?_
   by_cases hc46 : s1 < (0 : Int)
   · have hk46 : (decide (s1 < (0 : Int))) = true := decide_eq_true hc46
     by_cases hc47 : so ≠ (0 : Int)
     · have hk47 : (so != (0 : Int)) = true := bne_iff_ne.2 hc47
       refine CG.lin 8 ?_
       refine GL.v (.pointer (some ⟨g21, 0, none⟩)) ?_
       refine GL.r (.int .i64 s1) (fun _ hM => op_load_one (off := 0) (by kernel_rfl) agg3 (hM.b 6 rfl) rfl) ?_
       refine GL.v (.bool true) ?_ (hr := fun u => op_b (b := (decide (s1 < (0 : Int)))) (by kernel_rfl) hk46)
       refine GL.v (.bool true) ?_
       refine GL.v (.pointer (some ⟨g27, 0, none⟩)) ?_
       refine GL.r (.int .i64 so) (fun _ hM => op_load_one (off := 0) (by kernel_rfl) agg3 (hM.b 2 rfl) rfl) ?_
       refine GL.v (.bool true) ?_ (hr := fun u => op_b (b := (so != (0 : Int))) (by kernel_rfl) hk47)
       refine GL.v (.bool true) ?_
       refine GL.k k2 ?_
       refine CG.yes ?_ rfl rfl
       refine CG.seq fun K_ k2 => ?_
       refine CG.draw [] [0] (.step 0 (.step 1 (.step 2 (.step 3 .done)))) (fun V hV48 => ?_)
       refine GD.er (.agg #[.int .i64 s44, .slice A44 n44 c44]) (fun _ hS => op_load_agg (off := 0) (by kernel_rfl) agg31 siz31 (hV48.bS 0 rfl hS) rfl rfl) ?_
       refine GD.call (fun _ hM => ZInt_ok hM.avlt (1) (by first | assumption | omega)) ?_
       rintro _ _ _ hM ⟨s49, A49, n49, c49, rfl, h49, hb⟩
       have hs49 := szg_i64 (1) (by omega)
       refine ⟨_, _, _, rfl, hb, (hM.call hb).add h49, ?_⟩
       refine GD.call (fun _ hM => ZSub_ok hM.avlt (hM.f 1 rfl) (hM.f 0 rfl) (by first | assumption | omega)) ?_
       rintro _ _ _ hM ⟨s50, A50, n50, c50, rfl, h50, hb⟩
       have hs50 := szg_sub ((s1 * (Q : Int))) (1)
       refine ⟨_, _, _, rfl, hb, (hM.call hb).add h50, ?_⟩
       refine GD.st (fun _ _ => Mem.st0) (fun _ hM => store_all (cs' := #[.int .i64 s50, .slice A50 n50 c50]) siz31 (hM.b 0 rfl) (by kernel_rfl) (by kernel_rfl) rfl rfl rfl) ?_
       refine GD.k k2 ?_
       refine CG.lin 4 ?_
       refine GL.r (.agg #[.int .i64 s26, .slice A26 n26 c26]) (fun _ hM => op_load_agg (off := 0) (by kernel_rfl) agg31 siz31 (hM.b 1 rfl) rfl rfl) ?_
       refine GL.r (.agg #[.int .i64 so, .slice Ao no co]) (fun _ hM => op_load_agg (off := 0) (by kernel_rfl) agg31 siz31 (hM.b 2 rfl) rfl rfl) ?_
       refine GL.call (fun _ hM => ZSub_ok hM.avlt (hM.f 5 rfl) (hM.f 4 rfl) (by first | assumption | omega)) ?_
       rintro _ _ _ hM ⟨s51, A51, n51, c51, rfl, h51, hb⟩
       have hs51 := szg_sub (d.natAbs : Int) z
       refine ⟨_, _, _, rfl, (hM.call hb).add h51, ?_⟩
       refine GL.sA (cs' := #[.int .i64 s51, .slice A51 n51 c51]) (fun _ _ => Mem.st2) (fun _ hM => hM.b 2 rfl) siz31 ?_
       refine GL.k k1 ?_
       refine CG.seq fun K_ k1 => ?_
       refine CG.seq fun K_ k2 => ?_
       refine CG.lin 3 ?_
       refine GL.v (.pointer (some ⟨g22, 0, none⟩)) ?_
       refine GL.r (.int .i64 s2) (fun _ hM => op_load_one (off := 0) (by kernel_rfl) agg3 (hM.b 5 rfl) rfl) ?_
       refine GL.v (.bool (decide (s2 < (0 : Int)))) ?_
       refine GL.k k2 ?_
       by_cases hc52 : s2 < (0 : Int)
       · have hk52 : (decide (s2 < (0 : Int))) = true := decide_eq_true hc52
         refine CG.yes ?_ hk52 rfl
         refine CG.lin 3 ?_
         refine GL.r (.agg #[.int .i64 s50, .slice A50 n50 c50]) (fun _ hM => op_load_agg (off := 0) (by kernel_rfl) agg31 siz31 (hM.b 0 rfl) rfl rfl) ?_
         refine GL.call (fun _ hM => ZNeg_ok hM.avlt (hM.f 1 rfl)) ?_
         rintro _ _ _ hM ⟨s53, A53, n53, c53, rfl, h53, hb⟩
         have hs53 := szg_neg (((s1 * (Q : Int)) - 1))
         refine ⟨_, _, _, rfl, (hM.call hb).add h53, ?_⟩
         refine GL.sA (cs' := #[.int .i64 s53, .slice A53 n53 c53]) (fun _ _ => Mem.st0) (fun _ hM => hM.b 0 rfl) siz31 ?_
         refine GL.k k1 ?_
         refine CG.seq fun K_ k1 => ?_
         refine CG.draw [g23] [0, 1] (.step 0 (.step 1 (.step 2 (.step 3 .done)))) (fun V hV54 => ?_)
         refine GD.er (.agg #[.int .i64 s53, .slice A53 n53 c53]) (fun _ hS => op_load_agg (off := 0) (by kernel_rfl) agg31 siz31 (hV54.bS 0 rfl hS (by simp only [List.mem_cons, List.not_mem_nil, or_false, not_or]; exact hV54.ne 0 4 rfl rfl (by decide))) rfl rfl) ?_
         refine GD.er (.agg #[.int .i64 s51, .slice A51 n51 c51]) (fun _ hS => op_load_agg (off := 0) (by kernel_rfl) agg31 siz31 (hV54.bS 2 rfl hS (by simp only [List.mem_cons, List.not_mem_nil, or_false, not_or]; exact hV54.ne 2 4 rfl rfl (by decide))) rfl rfl) ?_
         refine GD.st (fun _ _ => Mem.st4) (fun _ hM => store_all (cs' := #[.int .i64 s53, .slice A53 n53 c53]) siz31 (hM.b 4 rfl) (by kernel_rfl) (by kernel_rfl) rfl rfl rfl) ?_
         refine GD.st (fun _ _ => Mem.st3) (fun _ hM => store_all (cs' := #[.int .i64 s51, .slice A51 n51 c51]) siz31 (hM.b 3 rfl) (by kernel_rfl) (by kernel_rfl) rfl rfl rfl) ?_
         refine GD.k k1 ?_
         refine CG.ret (QG.ret (fun _ hM => results_two rfl (res_cell rfl (loadVar_agg agg31 siz31 (hM.b 4 rfl) rfl rfl)) (res_cell rfl (loadVar_agg agg31 siz31 (hM.b 3 rfl) rfl rfl))) ?_)
         intro _ hM
         exact ⟨_, _, _, _, _, _, _, _, rfl, (((zqA hd0 hs1 hs2 hso hz hB hc46 hc47).2.1 hc52) ▸ (hM.out (hM.f 0 rfl))), ((zqA hd0 hs1 hs2 hso hz hB hc46 hc47).1 ▸ (hM.out (hM.f 1 rfl))), hM.below⟩
       · have hk52 : (decide (s2 < (0 : Int))) = false := decide_eq_false hc52
         refine CG.no ?_ hk52 rfl
         refine CG.skip ?_
         refine QG.k k1 ?_
         refine CG.seq fun K_ k1 => ?_
         refine CG.draw [g23] [0, 1] (.step 0 (.step 1 (.step 2 (.step 3 .done)))) (fun V hV55 => ?_)
         refine GD.er (.agg #[.int .i64 s50, .slice A50 n50 c50]) (fun _ hS => op_load_agg (off := 0) (by kernel_rfl) agg31 siz31 (hV55.bS 0 rfl hS (by simp only [List.mem_cons, List.not_mem_nil, or_false, not_or]; exact hV55.ne 0 4 rfl rfl (by decide))) rfl rfl) ?_
         refine GD.er (.agg #[.int .i64 s51, .slice A51 n51 c51]) (fun _ hS => op_load_agg (off := 0) (by kernel_rfl) agg31 siz31 (hV55.bS 2 rfl hS (by simp only [List.mem_cons, List.not_mem_nil, or_false, not_or]; exact hV55.ne 2 4 rfl rfl (by decide))) rfl rfl) ?_
         refine GD.st (fun _ _ => Mem.st4) (fun _ hM => store_all (cs' := #[.int .i64 s50, .slice A50 n50 c50]) siz31 (hM.b 4 rfl) (by kernel_rfl) (by kernel_rfl) rfl rfl rfl) ?_
         refine GD.st (fun _ _ => Mem.st3) (fun _ hM => store_all (cs' := #[.int .i64 s51, .slice A51 n51 c51]) siz31 (hM.b 3 rfl) (by kernel_rfl) (by kernel_rfl) rfl rfl rfl) ?_
         refine GD.k k1 ?_
         refine CG.ret (QG.ret (fun _ hM => results_two rfl (res_cell rfl (loadVar_agg agg31 siz31 (hM.b 4 rfl) rfl rfl)) (res_cell rfl (loadVar_agg agg31 siz31 (hM.b 3 rfl) rfl rfl))) ?_)
         intro _ hM
         exact ⟨_, _, _, _, _, _, _, _, rfl, (((zqA hd0 hs1 hs2 hso hz hB hc46 hc47).2.2 hc52) ▸ (hM.out (hM.f 1 rfl))), ((zqA hd0 hs1 hs2 hso hz hB hc46 hc47).1 ▸ (hM.out (hM.f 0 rfl))), hM.below⟩
     · have hk47 : (so != (0 : Int)) = false := by simpa using hc47
       refine CG.lin 8 ?_
       refine GL.v (.pointer (some ⟨g21, 0, none⟩)) ?_
       refine GL.r (.int .i64 s1) (fun _ hM => op_load_one (off := 0) (by kernel_rfl) agg3 (hM.b 6 rfl) rfl) ?_
       refine GL.v (.bool true) ?_ (hr := fun u => op_b (b := (decide (s1 < (0 : Int)))) (by kernel_rfl) hk46)
       refine GL.v (.bool true) ?_
       refine GL.v (.pointer (some ⟨g27, 0, none⟩)) ?_
       refine GL.r (.int .i64 so) (fun _ hM => op_load_one (off := 0) (by kernel_rfl) agg3 (hM.b 2 rfl) rfl) ?_
       refine GL.v (.bool false) ?_ (hr := fun u => op_b (b := (so != (0 : Int))) (by kernel_rfl) hk47)
       refine GL.v (.bool false) ?_
       refine GL.k k2 ?_
       refine CG.no ?_ rfl rfl
       refine CG.skip ?_
       refine QG.k k1 ?_
       refine CG.seq fun K_ k1 => ?_
       refine CG.seq fun K_ k2 => ?_
       refine CG.lin 3 ?_
       refine GL.v (.pointer (some ⟨g22, 0, none⟩)) ?_
       refine GL.r (.int .i64 s2) (fun _ hM => op_load_one (off := 0) (by kernel_rfl) agg3 (hM.b 5 rfl) rfl) ?_
       refine GL.v (.bool (decide (s2 < (0 : Int)))) ?_
       refine GL.k k2 ?_
       by_cases hc56 : s2 < (0 : Int)
       · have hk56 : (decide (s2 < (0 : Int))) = true := decide_eq_true hc56
         refine CG.yes ?_ hk56 rfl
         refine CG.lin 3 ?_
         refine GL.r (.agg #[.int .i64 s44, .slice A44 n44 c44]) (fun _ hM => op_load_agg (off := 0) (by kernel_rfl) agg31 siz31 (hM.b 0 rfl) rfl rfl) ?_
         refine GL.call (fun _ hM => ZNeg_ok hM.avlt (hM.f 0 rfl)) ?_
         rintro _ _ _ hM ⟨s57, A57, n57, c57, rfl, h57, hb⟩
         have hs57 := szg_neg ((s1 * (Q : Int)))
         refine ⟨_, _, _, rfl, (hM.call hb).add h57, ?_⟩
         refine GL.sA (cs' := #[.int .i64 s57, .slice A57 n57 c57]) (fun _ _ => Mem.st0) (fun _ hM => hM.b 0 rfl) siz31 ?_
         refine GL.k k1 ?_
         refine CG.seq fun K_ k1 => ?_
         refine CG.draw [g23] [0, 1] (.step 0 (.step 1 (.step 2 (.step 3 .done)))) (fun V hV58 => ?_)
         refine GD.er (.agg #[.int .i64 s57, .slice A57 n57 c57]) (fun _ hS => op_load_agg (off := 0) (by kernel_rfl) agg31 siz31 (hV58.bS 0 rfl hS (by simp only [List.mem_cons, List.not_mem_nil, or_false, not_or]; exact hV58.ne 0 4 rfl rfl (by decide))) rfl rfl) ?_
         refine GD.er (.agg #[.int .i64 so, .slice Ao no co]) (fun _ hS => op_load_agg (off := 0) (by kernel_rfl) agg31 siz31 (hV58.bS 2 rfl hS (by simp only [List.mem_cons, List.not_mem_nil, or_false, not_or]; exact hV58.ne 2 4 rfl rfl (by decide))) rfl rfl) ?_
         refine GD.st (fun _ _ => Mem.st4) (fun _ hM => store_all (cs' := #[.int .i64 s57, .slice A57 n57 c57]) siz31 (hM.b 4 rfl) (by kernel_rfl) (by kernel_rfl) rfl rfl rfl) ?_
         refine GD.st (fun _ _ => Mem.st3) (fun _ hM => store_all (cs' := #[.int .i64 so, .slice Ao no co]) siz31 (hM.b 3 rfl) (by kernel_rfl) (by kernel_rfl) rfl rfl rfl) ?_
         refine GD.k k1 ?_
         refine CG.ret (QG.ret (fun _ hM => results_two rfl (res_cell rfl (loadVar_agg agg31 siz31 (hM.b 4 rfl) rfl rfl)) (res_cell rfl (loadVar_agg agg31 siz31 (hM.b 3 rfl) rfl rfl))) ?_)
         intro _ hM
         exact ⟨_, _, _, _, _, _, _, _, rfl, (((zqB hd0 hs1 hs2 hso hz hB (.inr hc47)).2.1 hc56) ▸ (hM.out (hM.f 0 rfl))), ((zqB hd0 hs1 hs2 hso hz hB (.inr hc47)).1 ▸ (hM.out (hM.f 3 rfl))), hM.below⟩
       · have hk56 : (decide (s2 < (0 : Int))) = false := decide_eq_false hc56
         refine CG.no ?_ hk56 rfl
         refine CG.skip ?_
         refine QG.k k1 ?_
         refine CG.seq fun K_ k1 => ?_
         refine CG.draw [g23] [0, 1] (.step 0 (.step 1 (.step 2 (.step 3 .done)))) (fun V hV59 => ?_)
         refine GD.er (.agg #[.int .i64 s44, .slice A44 n44 c44]) (fun _ hS => op_load_agg (off := 0) (by kernel_rfl) agg31 siz31 (hV59.bS 0 rfl hS (by simp only [List.mem_cons, List.not_mem_nil, or_false, not_or]; exact hV59.ne 0 4 rfl rfl (by decide))) rfl rfl) ?_
         refine GD.er (.agg #[.int .i64 so, .slice Ao no co]) (fun _ hS => op_load_agg (off := 0) (by kernel_rfl) agg31 siz31 (hV59.bS 2 rfl hS (by simp only [List.mem_cons, List.not_mem_nil, or_false, not_or]; exact hV59.ne 2 4 rfl rfl (by decide))) rfl rfl) ?_
         refine GD.st (fun _ _ => Mem.st4) (fun _ hM => store_all (cs' := #[.int .i64 s44, .slice A44 n44 c44]) siz31 (hM.b 4 rfl) (by kernel_rfl) (by kernel_rfl) rfl rfl rfl) ?_
         refine GD.st (fun _ _ => Mem.st3) (fun _ hM => store_all (cs' := #[.int .i64 so, .slice Ao no co]) siz31 (hM.b 3 rfl) (by kernel_rfl) (by kernel_rfl) rfl rfl rfl) ?_
         refine GD.k k1 ?_
         refine CG.ret (QG.ret (fun _ hM => results_two rfl (res_cell rfl (loadVar_agg agg31 siz31 (hM.b 4 rfl) rfl rfl)) (res_cell rfl (loadVar_agg agg31 siz31 (hM.b 3 rfl) rfl rfl))) ?_)
         intro _ hM
         exact ⟨_, _, _, _, _, _, _, _, rfl, (((zqB hd0 hs1 hs2 hso hz hB (.inr hc47)).2.2 hc56) ▸ (hM.out (hM.f 0 rfl))), ((zqB hd0 hs1 hs2 hso hz hB (.inr hc47)).1 ▸ (hM.out (hM.f 2 rfl))), hM.below⟩
   · have hk46 : (decide (s1 < (0 : Int))) = false := decide_eq_false hc46
     refine CG.lin 8 ?_
     refine GL.v (.pointer (some ⟨g21, 0, none⟩)) ?_
     refine GL.r (.int .i64 s1) (fun _ hM => op_load_one (off := 0) (by kernel_rfl) agg3 (hM.b 6 rfl) rfl) ?_
     refine GL.v (.bool false) ?_ (hr := fun u => op_b (b := (decide (s1 < (0 : Int)))) (by kernel_rfl) hk46)
     refine GL.v (.bool false) ?_
     refine GL.sk ?_
     refine GL.sk ?_
     refine GL.sk ?_
     refine GL.v (.bool false) ?_
     refine GL.k k2 ?_
     refine CG.no ?_ rfl rfl
     refine CG.skip ?_
     refine QG.k k1 ?_
     refine CG.seq fun K_ k1 => ?_
     refine CG.seq fun K_ k2 => ?_
     refine CG.lin 3 ?_
     refine GL.v (.pointer (some ⟨g22, 0, none⟩)) ?_
     refine GL.r (.int .i64 s2) (fun _ hM => op_load_one (off := 0) (by kernel_rfl) agg3 (hM.b 5 rfl) rfl) ?_
     refine GL.v (.bool (decide (s2 < (0 : Int)))) ?_
     refine GL.k k2 ?_
     by_cases hc60 : s2 < (0 : Int)
     · have hk60 : (decide (s2 < (0 : Int))) = true := decide_eq_true hc60
       refine CG.yes ?_ hk60 rfl
       refine CG.lin 3 ?_
       refine GL.r (.agg #[.int .i64 s44, .slice A44 n44 c44]) (fun _ hM => op_load_agg (off := 0) (by kernel_rfl) agg31 siz31 (hM.b 0 rfl) rfl rfl) ?_
       refine GL.call (fun _ hM => ZNeg_ok hM.avlt (hM.f 0 rfl)) ?_
       rintro _ _ _ hM ⟨s61, A61, n61, c61, rfl, h61, hb⟩
       have hs61 := szg_neg ((s1 * (Q : Int)))
       refine ⟨_, _, _, rfl, (hM.call hb).add h61, ?_⟩
       refine GL.sA (cs' := #[.int .i64 s61, .slice A61 n61 c61]) (fun _ _ => Mem.st0) (fun _ hM => hM.b 0 rfl) siz31 ?_
       refine GL.k k1 ?_
       refine CG.seq fun K_ k1 => ?_
       refine CG.draw [g23] [0, 1] (.step 0 (.step 1 (.step 2 (.step 3 .done)))) (fun V hV62 => ?_)
       refine GD.er (.agg #[.int .i64 s61, .slice A61 n61 c61]) (fun _ hS => op_load_agg (off := 0) (by kernel_rfl) agg31 siz31 (hV62.bS 0 rfl hS (by simp only [List.mem_cons, List.not_mem_nil, or_false, not_or]; exact hV62.ne 0 4 rfl rfl (by decide))) rfl rfl) ?_
       refine GD.er (.agg #[.int .i64 so, .slice Ao no co]) (fun _ hS => op_load_agg (off := 0) (by kernel_rfl) agg31 siz31 (hV62.bS 2 rfl hS (by simp only [List.mem_cons, List.not_mem_nil, or_false, not_or]; exact hV62.ne 2 4 rfl rfl (by decide))) rfl rfl) ?_
       refine GD.st (fun _ _ => Mem.st4) (fun _ hM => store_all (cs' := #[.int .i64 s61, .slice A61 n61 c61]) siz31 (hM.b 4 rfl) (by kernel_rfl) (by kernel_rfl) rfl rfl rfl) ?_
       refine GD.st (fun _ _ => Mem.st3) (fun _ hM => store_all (cs' := #[.int .i64 so, .slice Ao no co]) siz31 (hM.b 3 rfl) (by kernel_rfl) (by kernel_rfl) rfl rfl rfl) ?_
       refine GD.k k1 ?_
       refine CG.ret (QG.ret (fun _ hM => results_two rfl (res_cell rfl (loadVar_agg agg31 siz31 (hM.b 4 rfl) rfl rfl)) (res_cell rfl (loadVar_agg agg31 siz31 (hM.b 3 rfl) rfl rfl))) ?_)
       intro _ hM
       exact ⟨_, _, _, _, _, _, _, _, rfl, (((zqB hd0 hs1 hs2 hso hz hB (.inl hc46)).2.1 hc60) ▸ (hM.out (hM.f 0 rfl))), ((zqB hd0 hs1 hs2 hso hz hB (.inl hc46)).1 ▸ (hM.out (hM.f 3 rfl))), hM.below⟩
     · have hk60 : (decide (s2 < (0 : Int))) = false := decide_eq_false hc60
       refine CG.no ?_ hk60 rfl
       refine CG.skip ?_
       refine QG.k k1 ?_
       refine CG.seq fun K_ k1 => ?_
       refine CG.draw [g23] [0, 1] (.step 0 (.step 1 (.step 2 (.step 3 .done)))) (fun V hV63 => ?_)
       refine GD.er (.agg #[.int .i64 s44, .slice A44 n44 c44]) (fun _ hS => op_load_agg (off := 0) (by kernel_rfl) agg31 siz31 (hV63.bS 0 rfl hS (by simp only [List.mem_cons, List.not_mem_nil, or_false, not_or]; exact hV63.ne 0 4 rfl rfl (by decide))) rfl rfl) ?_
       refine GD.er (.agg #[.int .i64 so, .slice Ao no co]) (fun _ hS => op_load_agg (off := 0) (by kernel_rfl) agg31 siz31 (hV63.bS 2 rfl hS (by simp only [List.mem_cons, List.not_mem_nil, or_false, not_or]; exact hV63.ne 2 4 rfl rfl (by decide))) rfl rfl) ?_
       refine GD.st (fun _ _ => Mem.st4) (fun _ hM => store_all (cs' := #[.int .i64 s44, .slice A44 n44 c44]) siz31 (hM.b 4 rfl) (by kernel_rfl) (by kernel_rfl) rfl rfl rfl) ?_
       refine GD.st (fun _ _ => Mem.st3) (fun _ hM => store_all (cs' := #[.int .i64 so, .slice Ao no co]) siz31 (hM.b 3 rfl) (by kernel_rfl) (by kernel_rfl) rfl rfl rfl) ?_
       refine GD.k k1 ?_
       refine CG.ret (QG.ret (fun _ hM => results_two rfl (res_cell rfl (loadVar_agg agg31 siz31 (hM.b 4 rfl) rfl rfl)) (res_cell rfl (loadVar_agg agg31 siz31 (hM.b 3 rfl) rfl rfl))) ?_)
       intro _ hM
       exact ⟨_, _, _, _, _, _, _, _, rfl, (((zqB hd0 hs1 hs2 hso hz hB (.inl hc46)).2.2 hc60) ▸ (hM.out (hM.f 0 rfl))), ((zqB hd0 hs1 hs2 hso hz hB (.inl hc46)).1 ▸ (hM.out (hM.f 2 rfl))), hM.below⟩

set_option maxRecDepth 100000 in
set_option maxHeartbeats 400000 in
theorem ndigits_ok {w : World} {X : Nat → Prop} (hX : ∀ k, X k → k < w.heap.size) (s : List UInt8) (p1 : s.length ≤ 4611686018427387904) :
    Calls Tryz.prog 114 #[.string (bs s)] w (fun e w' => e = .returned (.bool (isDs s)) ∧ Below w.heap.size w w') := by
 have hM := Mem.start hX
 refine calls_of hM Tryz.func114 Tryz.ntmps114 ?_
 refine CG.seq fun K_ k1 => ?_
 refine CG.lin 1 ?_
 refine GL.v (.bool false) ?_
 refine GL.k k1 ?_
 refine CG.seq fun K_ k1 => ?_
 refine CG.seq fun K_ k2 => ?_
 refine CG.lin 1 ?_
 refine GL.v (.int .i64 0) ?_
 refine GL.k k2 ?_
 refine CG.block ?_
 refine CG.loop (fun m_ a_ u_ => ∃ (i : Nat) (j21 : Nat → Value), a_ = ⟨#[.string (bs s), undef, (j21 2), .int .i64 (i : Int), (j21 4), (j21 5), (j21 6), (j21 7), (j21 8), (j21 9), (j21 10), (j21 11), (j21 12), (j21 13), (j21 14), (j21 15), (j21 16), (j21 17), (j21 18), (j21 19), undef, undef, undef, undef, undef, undef, undef, undef, undef, undef, undef], []⟩ ∧ m_ = s.length - i ∧ Mem w [] X u_ [] [] ∧ (i ≤ s.length) ∧ ((s.take i).all isDg' = true)) (fun _ hM => ⟨_, 0, (fun t => (#[.string (bs s), undef, .bool false, .int .i64 0, undef, undef, undef, undef, undef, undef, undef, undef, undef, undef, undef, undef, undef, undef, undef, undef, undef, undef, undef, undef, undef, undef, undef, undef, undef, undef, undef] : Array Value).getD t undef), (by kernel_rfl), rfl, hM.clr, (by omega), rfl⟩) ?_
 rintro m_ a_ u_ ⟨i, j21, rfl, hm21, hM, hi, hd⟩
 refine CG.go hM ?_
 refine CG.seq fun K_ k2 => ?_
 refine CG.seq fun K_ k3 => ?_
 refine CG.lin 4 ?_
 refine GL.v (.int .i64 (i : Int)) ?_
 refine GL.v (.string (bs s)) ?_
 refine GL.v (.int .i64 (s.length : Int)) ?_ (hr := fun u => op_slen (L := s) (by kernel_rfl) (by kernel_rfl) (by (try simp only [List.length_append, List.length_cons, List.length_nil]); omega))
 refine GL.v (.bool (decide ((i : Int) < (s.length : Int)))) ?_
 refine GL.k k3 ?_
 by_cases hc22 : (i : Int) < (s.length : Int)
 · have hk22 : (decide ((i : Int) < (s.length : Int))) = true := decide_eq_true hc22
   refine CG.yes ?_ hk22 rfl
   refine CG.skip ?_
   refine QG.k k2 ?_
   refine CG.seq fun K_ k2 => ?_
   refine CG.block ?_
   refine CG.seq fun K_ k3 => ?_
   by_cases hc23 : (((s.getD i 0).toNat : Nat) : Int) < (48 : Int)
   · have hk23 : (decide ((((s.getD i 0).toNat : Nat) : Int) < (48 : Int))) = true := decide_eq_true hc23
     refine CG.lin 10 ?_
     refine GL.v (.string (bs s)) ?_
     refine GL.v (.int .i64 (i : Int)) ?_
     refine GL.v (.int .u8 (((s.getD i 0).toNat : Nat) : Int)) ?_ (hr := fun u => op_sidx (L := s) (k := .i64) (i := (i : Int)) i (by kernel_rfl) (by kernel_rfl) (by omega) (by (try simp only [List.length_append, List.length_cons, List.length_nil]); omega) (by kernel_rfl))
     refine GL.v (.bool true) ?_ (hr := fun u => op_b (b := (decide ((((s.getD i 0).toNat : Nat) : Int) < (48 : Int)))) (by kernel_rfl) hk23)
     refine GL.v (.bool true) ?_
     refine GL.sk ?_
     refine GL.sk ?_
     refine GL.sk ?_
     refine GL.sk ?_
     refine GL.v (.bool true) ?_
     refine GL.k k3 ?_
     refine CG.yes ?_ rfl rfl
     refine CG.seq fun K_ k3 => ?_
     refine CG.lin 1 ?_
     refine GL.v (.bool false) ?_
     refine GL.k k3 ?_
     refine CG.ret (QG.block_ret (QG.then_ret (QG.then_ret (QG.block_ret (QG.then_ret (QG.ret (fun _ hM => results_one rfl (res_tmp rfl)) ?_))))))
     intro _ hM
     exact ⟨ret_bool (dgs_bad (i := i) (by omega) (by omega)), hM.below⟩
   · have hk23 : (decide ((((s.getD i 0).toNat : Nat) : Int) < (48 : Int))) = false := decide_eq_false hc23
     by_cases hc24 : (((s.getD i 0).toNat : Nat) : Int) > (57 : Int)
     · have hk24 : (decide ((((s.getD i 0).toNat : Nat) : Int) > (57 : Int))) = true := decide_eq_true hc24
       refine CG.lin 10 ?_
       refine GL.v (.string (bs s)) ?_
       refine GL.v (.int .i64 (i : Int)) ?_
       refine GL.v (.int .u8 (((s.getD i 0).toNat : Nat) : Int)) ?_ (hr := fun u => op_sidx (L := s) (k := .i64) (i := (i : Int)) i (by kernel_rfl) (by kernel_rfl) (by omega) (by (try simp only [List.length_append, List.length_cons, List.length_nil]); omega) (by kernel_rfl))
       refine GL.v (.bool false) ?_ (hr := fun u => op_b (b := (decide ((((s.getD i 0).toNat : Nat) : Int) < (48 : Int)))) (by kernel_rfl) hk23)
       refine GL.v (.bool false) ?_
       refine GL.v (.string (bs s)) ?_
       refine GL.v (.int .i64 (i : Int)) ?_
       refine GL.v (.int .u8 (((s.getD i 0).toNat : Nat) : Int)) ?_ (hr := fun u => op_sidx (L := s) (k := .i64) (i := (i : Int)) i (by kernel_rfl) (by kernel_rfl) (by omega) (by (try simp only [List.length_append, List.length_cons, List.length_nil]); omega) (by kernel_rfl))
       refine GL.v (.bool true) ?_ (hr := fun u => op_b (b := (decide ((((s.getD i 0).toNat : Nat) : Int) > (57 : Int)))) (by kernel_rfl) hk24)
       refine GL.v (.bool true) ?_
       refine GL.k k3 ?_
       refine CG.yes ?_ rfl rfl
       refine CG.seq fun K_ k3 => ?_
       refine CG.lin 1 ?_
       refine GL.v (.bool false) ?_
       refine GL.k k3 ?_
       refine CG.ret (QG.block_ret (QG.then_ret (QG.then_ret (QG.block_ret (QG.then_ret (QG.ret (fun _ hM => results_one rfl (res_tmp rfl)) ?_))))))
       intro _ hM
       exact ⟨ret_bool (dgs_bad (i := i) (by omega) (by omega)), hM.below⟩
     · have hk24 : (decide ((((s.getD i 0).toNat : Nat) : Int) > (57 : Int))) = false := decide_eq_false hc24
       refine CG.lin 10 ?_
       refine GL.v (.string (bs s)) ?_
       refine GL.v (.int .i64 (i : Int)) ?_
       refine GL.v (.int .u8 (((s.getD i 0).toNat : Nat) : Int)) ?_ (hr := fun u => op_sidx (L := s) (k := .i64) (i := (i : Int)) i (by kernel_rfl) (by kernel_rfl) (by omega) (by (try simp only [List.length_append, List.length_cons, List.length_nil]); omega) (by kernel_rfl))
       refine GL.v (.bool false) ?_ (hr := fun u => op_b (b := (decide ((((s.getD i 0).toNat : Nat) : Int) < (48 : Int)))) (by kernel_rfl) hk23)
       refine GL.v (.bool false) ?_
       refine GL.v (.string (bs s)) ?_
       refine GL.v (.int .i64 (i : Int)) ?_
       refine GL.v (.int .u8 (((s.getD i 0).toNat : Nat) : Int)) ?_ (hr := fun u => op_sidx (L := s) (k := .i64) (i := (i : Int)) i (by kernel_rfl) (by kernel_rfl) (by omega) (by (try simp only [List.length_append, List.length_cons, List.length_nil]); omega) (by kernel_rfl))
       refine GL.v (.bool false) ?_ (hr := fun u => op_b (b := (decide ((((s.getD i 0).toNat : Nat) : Int) > (57 : Int)))) (by kernel_rfl) hk24)
       refine GL.v (.bool false) ?_
       refine GL.k k3 ?_
       refine CG.no ?_ rfl rfl
       refine CG.skip ?_
       refine QG.block ?_
       refine QG.k k2 ?_
       refine CG.lin 3 ?_
       refine GL.v (.int .i64 (i : Int)) ?_
       refine GL.v (.int .i64 ((i + 1 : Nat) : Int)) ?_ (hr := fun u => op_to (v := .int .i64 (IntKind.wrap .i64 ((i : Int) + (1 : Int)))) (by kernel_rfl) (wrap_i64 (by omega) (by omega) (by omega)))
       refine GL.v (.int .i64 ((i + 1 : Nat) : Int)) ?_
       refine GL.q ?_
       refine QG.again fun _ hM => ?_
       exact ⟨s.length - (i + 1), (by omega), (i + 1), (fun t => (#[.string (bs s), undef, (j21 2), .int .i64 ((i + 1 : Nat) : Int), .int .i64 (i : Int), .string (bs s), .int .i64 (s.length : Int), .bool (decide ((i : Int) < (s.length : Int))), .int .i64 (i : Int), .int .i64 ((i + 1 : Nat) : Int), .string (bs s), .int .i64 (i : Int), .int .u8 (((s.getD i 0).toNat : Nat) : Int), .bool false, .bool false, .string (bs s), .int .i64 (i : Int), .int .u8 (((s.getD i 0).toNat : Nat) : Int), .bool false, .bool false, undef, undef, undef, undef, undef, undef, undef, undef, undef, undef, undef] : Array Value).getD t undef), (by kernel_rfl), rfl, hM.clr, (by omega), (dgs_step (by omega) hd (by omega) (by omega))⟩
 · have hk22 : (decide ((i : Int) < (s.length : Int))) = false := decide_eq_false hc22
   refine CG.no ?_ hk22 rfl
   refine CG.exit (QG.then_exit (QG.then_exit (QG.here ?_)))
   refine QG.k k1 ?_
   refine CG.seq fun K_ k1 => ?_
   by_cases hc25 : s = [48]
   · have hk25 : (decide (s = [48])) = true := decide_eq_true hc25
     refine CG.lin 12 ?_
     refine GL.v (.string (bs s)) ?_
     refine GL.v (.bool true) ?_ (hr := fun u => op_b (b := (decide (s = [48]))) ((fun u => op_seq (L := s) (K := [48]) (by kernel_rfl) (by kernel_rfl)) u) hk25)
     refine GL.v (.bool true) ?_
     refine GL.sk ?_
     refine GL.sk ?_
     refine GL.sk ?_
     refine GL.sk ?_
     refine GL.sk ?_
     refine GL.sk ?_
     refine GL.sk ?_
     refine GL.v (.bool true) ?_
     refine GL.v (.bool true) ?_
     refine GL.k k1 ?_
     refine CG.ret (QG.ret (fun _ hM => results_one rfl (res_tmp rfl)) ?_)
     intro _ hM
     exact ⟨ret_bool (by rw [show s = [48] from hc25] <;> rfl), hM.below⟩
   · have hk25 : (decide (s = [48])) = false := decide_eq_false hc25
     by_cases hc26 : ¬ s = []
     · have hk26 : (!(decide (s = []))) = true := by simpa using hc26
       refine CG.lin 12 ?_
       refine GL.v (.string (bs s)) ?_
       refine GL.v (.bool false) ?_ (hr := fun u => op_b (b := (decide (s = [48]))) ((fun u => op_seq (L := s) (K := [48]) (by kernel_rfl) (by kernel_rfl)) u) hk25)
       refine GL.v (.bool false) ?_
       refine GL.v (.string (bs s)) ?_
       refine GL.v (.bool true) ?_ (hr := fun u => op_b (b := (!(decide (s = [])))) ((fun u => op_sne (L := s) (K := []) (by kernel_rfl) (by kernel_rfl)) u) hk26)
       refine GL.v (.bool true) ?_
       refine GL.v (.string (bs s)) ?_
       have hl0 : 0 < s.length := List.length_pos_iff.2 (by assumption)
       refine GL.v (.int .u8 (((s.getD 0 0).toNat : Nat) : Int)) ?_ (hr := fun u => op_sidx (L := s) (k := .i64) (i := (0 : Int)) 0 (by kernel_rfl) (by kernel_rfl) (by omega) (by (try simp only [List.length_append, List.length_cons, List.length_nil]); omega) (by kernel_rfl))
       refine GL.v (.bool ((((s.getD 0 0).toNat : Nat) : Int) != (48 : Int))) ?_
       refine GL.v (.bool ((((s.getD 0 0).toNat : Nat) : Int) != (48 : Int))) ?_
       refine GL.v (.bool ((((s.getD 0 0).toNat : Nat) : Int) != (48 : Int))) ?_
       refine GL.v (.bool ((((s.getD 0 0).toNat : Nat) : Int) != (48 : Int))) ?_
       refine GL.k k1 ?_
       refine CG.ret (QG.ret (fun _ hM => results_one rfl (res_tmp rfl)) ?_)
       intro _ hM
       exact ⟨ret_bool (by have hall : s.all isDg' = true := (by rw [show i = s.length by omega, List.take_length] at hd; exact hd); exact dgs_end hall hc25 hc26), hM.below⟩
     · have hk26 : (!(decide (s = []))) = false := by simpa using hc26
       refine CG.lin 12 ?_
       refine GL.v (.string (bs s)) ?_
       refine GL.v (.bool false) ?_ (hr := fun u => op_b (b := (decide (s = [48]))) ((fun u => op_seq (L := s) (K := [48]) (by kernel_rfl) (by kernel_rfl)) u) hk25)
       refine GL.v (.bool false) ?_
       refine GL.v (.string (bs s)) ?_
       refine GL.v (.bool false) ?_ (hr := fun u => op_b (b := (!(decide (s = [])))) ((fun u => op_sne (L := s) (K := []) (by kernel_rfl) (by kernel_rfl)) u) hk26)
       refine GL.v (.bool false) ?_
       refine GL.sk ?_
       refine GL.sk ?_
       refine GL.sk ?_
       refine GL.v (.bool false) ?_
       refine GL.v (.bool false) ?_
       refine GL.v (.bool false) ?_
       refine GL.k k1 ?_
       refine CG.ret (QG.ret (fun _ hM => results_one rfl (res_tmp rfl)) ?_)
       intro _ hM
       exact ⟨ret_bool (isDs_nil (Classical.not_not.1 hc26)), hM.below⟩

set_option maxRecDepth 100000 in
set_option maxHeartbeats 400000 in
theorem IsInt_ok {w : World} {X : Nat → Prop} (hX : ∀ k, X k → k < w.heap.size) (s : List UInt8) (p1 : s.length ≤ 4611686018427387904) :
    Calls Tryz.prog 24 #[.string (bs s)] w (fun e w' => e = .returned (.bool (isDs (strip s))) ∧ Below w.heap.size w w') := by
 have hM := Mem.start hX
 refine calls_of hM Tryz.func24 Tryz.ntmps24 ?_
 refine CG.seq fun K_ k1 => ?_
 refine CG.lin 1 ?_
 refine GL.v (.bool false) ?_
 refine GL.k k1 ?_
 refine CG.seq fun K_ k1 => ?_
 refine CG.seq fun K_ k2 => ?_
 by_cases hc21 : ¬ s = []
 · have hk21 : (!(decide (s = []))) = true := by simpa using hc21
   by_cases hc22 : (((s.getD 0 0).toNat : Nat) : Int) = (45 : Int)
   · have hk22 : ((((s.getD 0 0).toNat : Nat) : Int) == (45 : Int)) = true := beq_iff_eq.2 hc22
     refine CG.lin 7 ?_
     refine GL.v (.string (bs s)) ?_
     refine GL.v (.bool true) ?_ (hr := fun u => op_b (b := (!(decide (s = [])))) ((fun u => op_sne (L := s) (K := []) (by kernel_rfl) (by kernel_rfl)) u) hk21)
     refine GL.v (.bool true) ?_
     refine GL.v (.string (bs s)) ?_
     have hl0 : 0 < s.length := List.length_pos_iff.2 (by assumption)
     refine GL.v (.int .u8 (((s.getD 0 0).toNat : Nat) : Int)) ?_ (hr := fun u => op_sidx (L := s) (k := .i64) (i := (0 : Int)) 0 (by kernel_rfl) (by kernel_rfl) (by omega) (by (try simp only [List.length_append, List.length_cons, List.length_nil]); omega) (by kernel_rfl))
     refine GL.v (.bool true) ?_ (hr := fun u => op_b (b := ((((s.getD 0 0).toNat : Nat) : Int) == (45 : Int))) (by kernel_rfl) hk22)
     refine GL.v (.bool true) ?_
     refine GL.k k2 ?_
     refine CG.yes ?_ rfl rfl
     refine CG.seq fun K_ k2 => ?_
     refine CG.lin 4 ?_
     refine GL.v (.string (bs s)) ?_
     have hl0 : 0 < s.length := List.length_pos_iff.2 (by assumption)
     refine GL.v (.string (bs (s.drop 1))) ?_ (hr := fun u => op_sfrom (L := s) (k := .i64) (i := (1 : Int)) 1 (by kernel_rfl) (by kernel_rfl) (by omega) (by (try simp only [List.length_append, List.length_cons, List.length_nil]); omega) (by kernel_rfl))
     refine GL.call (fun _ hM => ndigits_ok hM.avlt (s.drop 1) (by simp only [List.length_drop]; omega)) ?_
     rintro _ _ _ hM ⟨rfl, hb⟩
     refine ⟨_, _, _, rfl, hM.call hb, ?_⟩
     refine GL.v (.bool (isDs (s.drop 1))) ?_
     refine GL.k k2 ?_
     refine CG.ret (QG.then_ret (QG.ret (fun _ hM => results_one rfl (res_tmp rfl)) ?_))
     intro _ hM
     exact ⟨ret_bool (by rw [strip_minus hc22]), hM.below⟩
   · have hk22 : ((((s.getD 0 0).toNat : Nat) : Int) == (45 : Int)) = false := beq_eq_false_iff_ne.2 hc22
     refine CG.lin 7 ?_
     refine GL.v (.string (bs s)) ?_
     refine GL.v (.bool true) ?_ (hr := fun u => op_b (b := (!(decide (s = [])))) ((fun u => op_sne (L := s) (K := []) (by kernel_rfl) (by kernel_rfl)) u) hk21)
     refine GL.v (.bool true) ?_
     refine GL.v (.string (bs s)) ?_
     have hl0 : 0 < s.length := List.length_pos_iff.2 (by assumption)
     refine GL.v (.int .u8 (((s.getD 0 0).toNat : Nat) : Int)) ?_ (hr := fun u => op_sidx (L := s) (k := .i64) (i := (0 : Int)) 0 (by kernel_rfl) (by kernel_rfl) (by omega) (by (try simp only [List.length_append, List.length_cons, List.length_nil]); omega) (by kernel_rfl))
     refine GL.v (.bool false) ?_ (hr := fun u => op_b (b := ((((s.getD 0 0).toNat : Nat) : Int) == (45 : Int))) (by kernel_rfl) hk22)
     refine GL.v (.bool false) ?_
     refine GL.k k2 ?_
     refine CG.no ?_ rfl rfl
     refine CG.skip ?_
     refine QG.k k1 ?_
     refine CG.seq fun K_ k1 => ?_
     refine CG.lin 3 ?_
     refine GL.v (.string (bs s)) ?_
     refine GL.call (fun _ hM => ndigits_ok hM.avlt s (by first | assumption | omega)) ?_
     rintro _ _ _ hM ⟨rfl, hb⟩
     refine ⟨_, _, _, rfl, hM.call hb, ?_⟩
     refine GL.v (.bool (isDs s)) ?_
     refine GL.k k1 ?_
     refine CG.ret (QG.ret (fun _ hM => results_one rfl (res_tmp rfl)) ?_)
     intro _ hM
     exact ⟨ret_bool (by rw [← strip_none (.inr hc22)]), hM.below⟩
 · have hk21 : (!(decide (s = []))) = false := by simpa using hc21
   refine CG.lin 7 ?_
   refine GL.v (.string (bs s)) ?_
   refine GL.v (.bool false) ?_ (hr := fun u => op_b (b := (!(decide (s = [])))) ((fun u => op_sne (L := s) (K := []) (by kernel_rfl) (by kernel_rfl)) u) hk21)
   refine GL.v (.bool false) ?_
   refine GL.sk ?_
   refine GL.sk ?_
   refine GL.sk ?_
   refine GL.v (.bool false) ?_
   refine GL.k k2 ?_
   refine CG.no ?_ rfl rfl
   refine CG.skip ?_
   refine QG.k k1 ?_
   refine CG.seq fun K_ k1 => ?_
   refine CG.lin 3 ?_
   refine GL.v (.string (bs s)) ?_
   refine GL.call (fun _ hM => ndigits_ok hM.avlt s (by first | assumption | omega)) ?_
   rintro _ _ _ hM ⟨rfl, hb⟩
   refine ⟨_, _, _, rfl, hM.call hb, ?_⟩
   refine GL.v (.bool (isDs s)) ?_
   refine GL.k k1 ?_
   refine CG.ret (QG.ret (fun _ hM => results_one rfl (res_tmp rfl)) ?_)
   intro _ hM
   exact ⟨ret_bool (by rw [← strip_none (.inl (Classical.not_not.1 hc21))]), hM.below⟩

set_option maxRecDepth 100000 in
set_option maxHeartbeats 400000 in
theorem NGcd_ok {w : World} {X : Nat → Prop} {s1 : Int} {A1 : Option Addr} {n1 : Nat} {c1 : Nat} {a : Int} {s2 : Int} {A2 : Option Addr} {n2 : Nat} {c2 : Nat} {b : Int} (hX : ∀ k, X k → k < w.heap.size) (h1 : NZk.R X w [.int .i64 s1, .slice A1 n1 c1] a) (h2 : NZk.R X w [.int .i64 s2, .slice A2 n2 c2] b) (p1 : szg a + szg b ≤ 1073740000) :
    Calls Tryz.prog 16 #[.agg #[.int .i64 s1, .slice A1 n1 c1], .agg #[.int .i64 s2, .slice A2 n2 c2]] w (fun e w' => ∃ sr Ar nr cr, e = .returned (.agg #[.int .i64 sr, .slice Ar nr cr]) ∧ NZk.R X w' [.int .i64 sr, .slice Ar nr cr] (Int.gcd a b : Int) ∧ Below w.heap.size w w') := by
 have hM := ((Mem.start hX).add0 h1).add0 h2
 have hga := szg_abs a
 have hgb := szg_abs b
 refine calls_of hM Tryz.func16 Tryz.ntmps16 ?_
 refine CG.seq fun K_ k1 => ?_
 refine CG.lin 3 ?_
 refine GL.bA #[.int .i64 s1, .slice A1 n1 c1] fun g21 => ?_
 refine GL.bA #[.int .i64 s2, .slice A2 n2 c2] fun g22 => ?_
 refine GL.aA zer31 fun g23 => ?_
 refine GL.k k1 ?_
 refine CG.seq fun K_ k1 => ?_
 refine CG.draw [] [0, 2] (.step 0 (.step 2 (.step 1 (.step 3 (.step 4 (.step 5 .done)))))) (fun V hV24 => ?_)
 refine GD.er (.agg #[.int .i64 s1, .slice A1 n1 c1]) (fun _ hS => op_load_agg (off := 0) (by kernel_rfl) agg31 siz31 (hV24.bS 2 rfl hS) rfl rfl) ?_
 refine GD.er (.agg #[.int .i64 s2, .slice A2 n2 c2]) (fun _ hS => op_load_agg (off := 0) (by kernel_rfl) agg31 siz31 (hV24.bS 1 rfl hS) rfl rfl) ?_
 refine GD.call (fun _ hM => NZAbs_ok hM.avlt (hM.f 1 rfl)) ?_
 rintro _ _ _ hM ⟨s25, A25, n25, c25, rfl, h25, hb⟩
 have hs25 := szg_abs a
 refine ⟨_, _, _, rfl, hb, (hM.call hb).add h25, ?_⟩
 refine GD.call (fun _ hM => NZAbs_ok hM.avlt (hM.f 1 rfl)) ?_
 rintro _ _ _ hM ⟨s26, A26, n26, c26, rfl, h26, hb⟩
 have hs26 := szg_abs b
 refine ⟨_, _, _, rfl, hb, (hM.call hb).add h26, ?_⟩
 refine GD.st (fun _ _ => Mem.st2) (fun _ hM => store_all (cs' := #[.int .i64 s25, .slice A25 n25 c25]) siz31 (hM.b 2 rfl) (by kernel_rfl) (by kernel_rfl) rfl rfl rfl) ?_
 refine GD.st (fun _ _ => Mem.st1) (fun _ hM => store_all (cs' := #[.int .i64 s26, .slice A26 n26 c26]) siz31 (hM.b 1 rfl) (by kernel_rfl) (by kernel_rfl) rfl rfl rfl) ?_
 refine GD.k k1 ?_
 refine CG.seq fun K_ k1 => ?_
 refine CG.block ?_
 refine CG.loop (fun m_ a_ u_ => ∃ (sp : Int) (Ap : Option Addr) (np : Nat) (cp : Nat) (p : Int) (sq : Int) (Aq : Option Addr) (nq : Nat) (cq : Nat) (q : Int) (j27 : Nat → Value), a_ = ⟨#[.agg #[.int .i64 s1, .slice A1 n1 c1], .agg #[.int .i64 s2, .slice A2 n2 c2], .pointer (some ⟨g21, 0, none⟩), .pointer (some ⟨g22, 0, none⟩), .pointer (some ⟨g23, 0, none⟩), (j27 5), (j27 6), (j27 7), (j27 8), .agg #[.int .i64 s1, .slice A1 n1 c1], .agg #[.int .i64 s25, .slice A25 n25 c25], .agg #[.int .i64 s2, .slice A2 n2 c2], .agg #[.int .i64 s26, .slice A26 n26 c26], (j27 13), (j27 14), (j27 15), (j27 16), (j27 17), (j27 18), (j27 19), (j27 20), (j27 21), (j27 22), (j27 23), (j27 24), (j27 25), (j27 26), (j27 27), (j27 28), (j27 29), (j27 30), (j27 31), (j27 32), (j27 33), (j27 34), (j27 35), (j27 36), (j27 37), (j27 38), (j27 39), (j27 40), (j27 41), (j27 42), (j27 43), (j27 44), (j27 45), undef], []⟩ ∧ m_ = q.natAbs ∧ Mem w [] X u_ [.box g23 #[.int .i64 0, .slice none 0 0] 31, .box g22 #[.int .i64 sq, .slice Aq nq cq] 31, .box g21 #[.int .i64 sp, .slice Ap np cp] 31] [⟨NZk, [.int .i64 sp, .slice Ap np cp], p⟩, ⟨NZk, [.int .i64 sq, .slice Aq nq cq], q⟩, ⟨NZk, [.int .i64 s26, .slice A26 n26 c26], (b.natAbs : Int)⟩, ⟨NZk, [.int .i64 s25, .slice A25 n25 c25], (a.natAbs : Int)⟩, ⟨NZk, [.int .i64 s2, .slice A2 n2 c2], b⟩, ⟨NZk, [.int .i64 s1, .slice A1 n1 c1], a⟩] ∧ (Int.gcd p q = Int.gcd a b) ∧ (0 ≤ p ∧ 0 ≤ q) ∧ (szg p ≤ szg a + szg b ∧ szg q ≤ szg a + szg b)) (fun _ hM => ⟨_, s25, A25, n25, c25, (a.natAbs : Int), s26, A26, n26, c26, (b.natAbs : Int), (fun t => (#[.agg #[.int .i64 s1, .slice A1 n1 c1], .agg #[.int .i64 s2, .slice A2 n2 c2], .pointer (some ⟨g21, 0, none⟩), .pointer (some ⟨g22, 0, none⟩), .pointer (some ⟨g23, 0, none⟩), undef, undef, undef, undef, .agg #[.int .i64 s1, .slice A1 n1 c1], .agg #[.int .i64 s25, .slice A25 n25 c25], .agg #[.int .i64 s2, .slice A2 n2 c2], .agg #[.int .i64 s26, .slice A26 n26 c26], undef, undef, undef, undef, undef, undef, undef, undef, undef, undef, undef, undef, undef, undef, undef, undef, undef, undef, undef, undef, undef, undef, undef, undef, undef, undef, undef, undef, undef, undef, undef, undef, undef, undef] : Array Value).getD t undef), (by kernel_rfl), rfl, ((((((hM.clr).add (hM.f 3 rfl)).add (hM.f 2 rfl)).add (hM.f 1 rfl)).add (hM.f 0 rfl)).add (hM.f 0 rfl)).add (hM.f 1 rfl), rfl, (by omega), (by omega)⟩) ?_
 rintro m_ a_ u_ ⟨sp, Ap, np, cp, p, sq, Aq, nq, cq, q, j27, rfl, hm27, hM, hG, h0, hsz⟩
 have hsp := NZk.sgn (hM.f 0 rfl)
 have hsq := NZk.sgn (hM.f 1 rfl)
 have hzp := NZk.szg (hM.f 0 rfl)
 have hzq := NZk.szg (hM.f 1 rfl)
 refine CG.go hM ?_
 refine CG.seq fun K_ k2 => ?_
 refine CG.seq fun K_ k3 => ?_
 refine CG.lin 3 ?_
 refine GL.v (.pointer (some ⟨g22, 0, none⟩)) ?_
 refine GL.r (.int .i64 sq) (fun _ hM => op_load_one (off := 0) (by kernel_rfl) agg3 (hM.b 1 rfl) rfl) ?_
 refine GL.v (.bool (sq != (0 : Int))) ?_
 refine GL.k k3 ?_
 by_cases hc28 : sq ≠ (0 : Int)
 · have hk28 : (sq != (0 : Int)) = true := bne_iff_ne.2 hc28
   refine CG.yes ?_ hk28 rfl
   refine CG.skip ?_
   refine QG.k k2 ?_
   refine CG.block ?_
   refine CG.seq fun K_ k2 => ?_
   refine CG.seq fun K_ k3 => ?_
   by_cases hc29 : (np : Int) ≤ (4 : Int)
   · have hk29 : (decide ((np : Int) ≤ (4 : Int))) = true := decide_eq_true hc29
     by_cases hc30 : (nq : Int) ≤ (4 : Int)
     · have hk30 : (decide ((nq : Int) ≤ (4 : Int))) = true := decide_eq_true hc30
       refine CG.lin 10 ?_
       refine GL.v (.pointer (some ⟨g21, 1, none⟩)) ?_
       refine GL.r (.slice Ap np cp) (fun _ hM => op_load_one (off := 1) (by kernel_rfl) agg29 (hM.b 2 rfl) rfl) ?_
       refine GL.v (.int .i64 (np : Int)) ?_
       refine GL.v (.bool true) ?_ (hr := fun u => op_b (b := (decide ((np : Int) ≤ (4 : Int)))) (by kernel_rfl) hk29)
       refine GL.v (.bool true) ?_
       refine GL.v (.pointer (some ⟨g22, 1, none⟩)) ?_
       refine GL.r (.slice Aq nq cq) (fun _ hM => op_load_one (off := 1) (by kernel_rfl) agg29 (hM.b 1 rfl) rfl) ?_
       refine GL.v (.int .i64 (nq : Int)) ?_
       refine GL.v (.bool true) ?_ (hr := fun u => op_b (b := (decide ((nq : Int) ≤ (4 : Int)))) (by kernel_rfl) hk30)
       refine GL.v (.bool true) ?_
       refine GL.k k3 ?_
       refine CG.yes ?_ rfl rfl
       refine CG.seq fun K_ k3 => ?_
       refine CG.draw [] [0, 2] (.step 0 (.step 2 (.step 1 (.step 3 (.step 4 (.step 5 .done)))))) (fun V hV31 => ?_)
       refine GD.er (.agg #[.int .i64 sp, .slice Ap np cp]) (fun _ hS => op_load_agg (off := 0) (by kernel_rfl) agg31 siz31 (hV31.bS 2 rfl hS) rfl rfl) ?_
       refine GD.er (.agg #[.int .i64 sq, .slice Aq nq cq]) (fun _ hS => op_load_agg (off := 0) (by kernel_rfl) agg31 siz31 (hV31.bS 1 rfl hS) rfl rfl) ?_
       have hps := ng_small (z := p) h0.1 (by omega)
       have hqs := ng_small (z := q) h0.2 (by omega)
       refine GD.call (fun _ hM => value_ok hM.avlt (hM.f 0 rfl) (by first | assumption | omega)) ?_
       rintro _ _ _ hM ⟨rfl, hb⟩
       refine ⟨_, _, _, rfl, hb, hM.call hb, ?_⟩
       refine GD.call (fun _ hM => value_ok hM.avlt (hM.f 1 rfl) (by first | assumption | omega)) ?_
       rintro _ _ _ hM ⟨rfl, hb⟩
       refine ⟨_, _, _, rfl, hb, hM.call hb, ?_⟩
       refine GD.v (.int .i64 p) ?_
       refine GD.v (.int .i64 q) ?_
       refine GD.k k3 ?_
       refine CG.seq fun K_ k3 => ?_
       refine CG.block ?_
       refine CG.loop (fun m_ a_ u_ => ∃ (x : Int) (y : Int) (j34 : Nat → Value), a_ = ⟨#[.agg #[.int .i64 s1, .slice A1 n1 c1], .agg #[.int .i64 s2, .slice A2 n2 c2], .pointer (some ⟨g21, 0, none⟩), .pointer (some ⟨g22, 0, none⟩), .pointer (some ⟨g23, 0, none⟩), .int .i64 x, .int .i64 y, (j27 7), (j27 8), .agg #[.int .i64 s1, .slice A1 n1 c1], .agg #[.int .i64 s25, .slice A25 n25 c25], .agg #[.int .i64 s2, .slice A2 n2 c2], .agg #[.int .i64 s26, .slice A26 n26 c26], .pointer (some ⟨g22, 0, none⟩), .int .i64 sq, .bool (sq != (0 : Int)), .pointer (some ⟨g21, 1, none⟩), .slice Ap np cp, .int .i64 (np : Int), .bool true, .bool true, .pointer (some ⟨g22, 1, none⟩), .slice Aq nq cq, .int .i64 (nq : Int), .bool true, .bool true, .agg #[.int .i64 sp, .slice Ap np cp], .int .i64 p, .agg #[.int .i64 sq, .slice Aq nq cq], .int .i64 q, (j34 30), (j34 31), (j34 32), (j34 33), (j34 34), (j34 35), (j27 36), (j27 37), (j27 38), (j27 39), (j27 40), (j27 41), (j27 42), (j27 43), (j27 44), (j27 45), undef], []⟩ ∧ m_ = y.toNat ∧ Mem w [] X u_ [.box g23 #[.int .i64 0, .slice none 0 0] 31, .box g22 #[.int .i64 sq, .slice Aq nq cq] 31, .box g21 #[.int .i64 sp, .slice Ap np cp] 31] [⟨NZk, [.int .i64 sp, .slice Ap np cp], p⟩, ⟨NZk, [.int .i64 sq, .slice Aq nq cq], q⟩, ⟨NZk, [.int .i64 s26, .slice A26 n26 c26], (b.natAbs : Int)⟩, ⟨NZk, [.int .i64 s25, .slice A25 n25 c25], (a.natAbs : Int)⟩, ⟨NZk, [.int .i64 s2, .slice A2 n2 c2], b⟩, ⟨NZk, [.int .i64 s1, .slice A1 n1 c1], a⟩] ∧ (0 ≤ x ∧ 0 ≤ y ∧ x ≤ 9999999999999999 ∧ y ≤ 9999999999999999) ∧ (Int.gcd x y = Int.gcd a b)) (fun _ hM => ⟨_, p, q, (fun t => (#[.agg #[.int .i64 s1, .slice A1 n1 c1], .agg #[.int .i64 s2, .slice A2 n2 c2], .pointer (some ⟨g21, 0, none⟩), .pointer (some ⟨g22, 0, none⟩), .pointer (some ⟨g23, 0, none⟩), .int .i64 p, .int .i64 q, (j27 7), (j27 8), .agg #[.int .i64 s1, .slice A1 n1 c1], .agg #[.int .i64 s25, .slice A25 n25 c25], .agg #[.int .i64 s2, .slice A2 n2 c2], .agg #[.int .i64 s26, .slice A26 n26 c26], .pointer (some ⟨g22, 0, none⟩), .int .i64 sq, .bool (sq != (0 : Int)), .pointer (some ⟨g21, 1, none⟩), .slice Ap np cp, .int .i64 (np : Int), .bool true, .bool true, .pointer (some ⟨g22, 1, none⟩), .slice Aq nq cq, .int .i64 (nq : Int), .bool true, .bool true, .agg #[.int .i64 sp, .slice Ap np cp], .int .i64 p, .agg #[.int .i64 sq, .slice Aq nq cq], .int .i64 q, (j27 30), (j27 31), (j27 32), (j27 33), (j27 34), (j27 35), (j27 36), (j27 37), (j27 38), (j27 39), (j27 40), (j27 41), (j27 42), (j27 43), (j27 44), (j27 45), undef] : Array Value).getD t undef), (by kernel_rfl), rfl, ((((((hM.clr).add (hM.f 5 rfl)).add (hM.f 4 rfl)).add (hM.f 3 rfl)).add (hM.f 2 rfl)).add (hM.f 1 rfl)).add (hM.f 0 rfl), (by omega), hG⟩) ?_
       rintro m_ a_ u_ ⟨x, y, j34, rfl, hm34, hM, hxy, hG2⟩
       refine CG.go hM ?_
       refine CG.seq fun K_ k4 => ?_
       refine CG.seq fun K_ k5 => ?_
       refine CG.lin 2 ?_
       refine GL.v (.int .i64 y) ?_
       refine GL.v (.bool (y != (0 : Int))) ?_
       refine GL.k k5 ?_
       by_cases hc35 : y ≠ (0 : Int)
       · have hk35 : (y != (0 : Int)) = true := bne_iff_ne.2 hc35
         refine CG.yes ?_ hk35 rfl
         refine CG.skip ?_
         refine QG.k k4 ?_
         refine CG.block ?_
         refine CG.draw [] [0, 1, 2, 3] (.step 0 (.step 1 (.step 2 (.step 3 (.step 4 (.step 5 .done)))))) (fun V hV36 => ?_)
         refine GD.ev (.int .i64 y) ?_
         refine GD.ev (.int .i64 x) ?_
         refine GD.ev (.int .i64 y) ?_
         refine GD.ev (.int .i64 (x % y)) ?_ (hr := fun u => op_to (op_rem (k := .i64) (x := x) (y := y) (by kernel_rfl) (by kernel_rfl) (by omega) u) (rem_to .i64 rfl (by omega)))
         refine GD.v (.int .i64 y) ?_
         refine GD.v (.int .i64 (x % y)) ?_
         refine GD.q ?_
         refine QG.block ?_
         refine QG.again fun _ hM => ?_
         have hml := Int.emod_lt_of_pos x (show 0 < y by omega)
         have hmn := Int.emod_nonneg x (show y ≠ 0 by omega)
         exact ⟨(x % y).toNat, (by omega), y, (x % y), (fun t => (#[.agg #[.int .i64 s1, .slice A1 n1 c1], .agg #[.int .i64 s2, .slice A2 n2 c2], .pointer (some ⟨g21, 0, none⟩), .pointer (some ⟨g22, 0, none⟩), .pointer (some ⟨g23, 0, none⟩), .int .i64 y, .int .i64 (x % y), (j27 7), (j27 8), .agg #[.int .i64 s1, .slice A1 n1 c1], .agg #[.int .i64 s25, .slice A25 n25 c25], .agg #[.int .i64 s2, .slice A2 n2 c2], .agg #[.int .i64 s26, .slice A26 n26 c26], .pointer (some ⟨g22, 0, none⟩), .int .i64 sq, .bool (sq != (0 : Int)), .pointer (some ⟨g21, 1, none⟩), .slice Ap np cp, .int .i64 (np : Int), .bool true, .bool true, .pointer (some ⟨g22, 1, none⟩), .slice Aq nq cq, .int .i64 (nq : Int), .bool true, .bool true, .agg #[.int .i64 sp, .slice Ap np cp], .int .i64 p, .agg #[.int .i64 sq, .slice Aq nq cq], .int .i64 q, .int .i64 y, .bool (y != (0 : Int)), .int .i64 y, .int .i64 x, .int .i64 y, .int .i64 (x % y), (j27 36), (j27 37), (j27 38), (j27 39), (j27 40), (j27 41), (j27 42), (j27 43), (j27 44), (j27 45), undef] : Array Value).getD t undef), (by kernel_rfl), rfl, ((((((hM.clr).add (hM.f 5 rfl)).add (hM.f 4 rfl)).add (hM.f 3 rfl)).add (hM.f 2 rfl)).add (hM.f 1 rfl)).add (hM.f 0 rfl), (by omega), (by rw [← hG2]; exact ng_step hxy.1 hxy.2.1)⟩
       · have hk35 : (y != (0 : Int)) = false := by simpa using hc35
         refine CG.no ?_ hk35 rfl
         refine CG.exit (QG.then_exit (QG.then_exit (QG.here ?_)))
         refine QG.k k3 ?_
         refine CG.seq fun K_ k3 => ?_
         refine CG.lin 3 ?_
         refine GL.v (.int .i64 x) ?_
         refine GL.call (fun _ hM => ZInt_ok hM.avlt x (by first | assumption | omega)) ?_
         rintro _ _ _ hM ⟨s37, A37, n37, c37, rfl, h37, hb⟩
         have hs37 := szg_i64 x (by omega)
         refine ⟨_, _, _, rfl, (hM.call hb).add h37, ?_⟩
         refine GL.sA (cs' := #[.int .i64 s37, .slice A37 n37 c37]) (fun _ _ => Mem.st0) (fun _ hM => hM.b 0 rfl) siz31 ?_
         refine GL.k k3 ?_
         refine CG.ret (QG.then_ret (QG.block_ret (QG.then_ret (QG.block_ret (QG.then_ret (QG.ret (fun _ hM => results_one rfl (res_cell rfl (loadVar_agg agg31 siz31 (hM.b 0 rfl) rfl rfl))) ?_))))))
         intro _ hM
         exact ⟨_, _, _, _, rfl, ((ng_done hG2 (by omega) (by omega)) ▸ (hM.out (hM.f 0 rfl))), hM.below⟩
     · have hk30 : (decide ((nq : Int) ≤ (4 : Int))) = false := decide_eq_false hc30
       refine CG.lin 10 ?_
       refine GL.v (.pointer (some ⟨g21, 1, none⟩)) ?_
       refine GL.r (.slice Ap np cp) (fun _ hM => op_load_one (off := 1) (by kernel_rfl) agg29 (hM.b 2 rfl) rfl) ?_
       refine GL.v (.int .i64 (np : Int)) ?_
       refine GL.v (.bool true) ?_ (hr := fun u => op_b (b := (decide ((np : Int) ≤ (4 : Int)))) (by kernel_rfl) hk29)
       refine GL.v (.bool true) ?_
       refine GL.v (.pointer (some ⟨g22, 1, none⟩)) ?_
       refine GL.r (.slice Aq nq cq) (fun _ hM => op_load_one (off := 1) (by kernel_rfl) agg29 (hM.b 1 rfl) rfl) ?_
       refine GL.v (.int .i64 (nq : Int)) ?_
       refine GL.v (.bool false) ?_ (hr := fun u => op_b (b := (decide ((nq : Int) ≤ (4 : Int)))) (by kernel_rfl) hk30)
       refine GL.v (.bool false) ?_
       refine GL.k k3 ?_
       refine CG.no ?_ rfl rfl
       refine CG.skip ?_
       refine QG.k k2 ?_
       refine CG.seq fun K_ k2 => ?_
       refine CG.lin 10 ?_
       refine GL.r (.agg #[.int .i64 sp, .slice Ap np cp]) (fun _ hM => op_load_agg (off := 0) (by kernel_rfl) agg31 siz31 (hM.b 2 rfl) rfl rfl) ?_
       refine GL.r (.agg #[.int .i64 sq, .slice Aq nq cq]) (fun _ hM => op_load_agg (off := 0) (by kernel_rfl) agg31 siz31 (hM.b 1 rfl) rfl rfl) ?_
       have hq0 := ng_nz hsq (by assumption)
       have hlt := ng_lt h0.1 h0.2 hq0
       have hsr := szg_rem p q hq0
       refine GL.call (fun _ hM => NQuotient_ok hM.avlt (hM.f 0 rfl) (hM.f 1 rfl) (by first | assumption | omega) (by first | assumption | omega)) ?_
       rintro _ _ _ hM ⟨s38a, A38a, n38a, c38a, s38b, A38b, n38b, c38b, rfl, h38a, h38b, hb⟩
       have hs38 := szg_quo p q
       have ht38 := szg_rem2 p q
       refine ⟨_, _, _, rfl, ((hM.call hb).add h38a).add h38b, ?_⟩
       refine GL.v (.tuple #[.agg #[.int .i64 s38a, .slice A38a n38a c38a], .agg #[.int .i64 s38b, .slice A38b n38b c38b]]) ?_
       refine GL.v (.agg #[.int .i64 s38a, .slice A38a n38a c38a]) ?_
       refine GL.v (.agg #[.int .i64 s38b, .slice A38b n38b c38b]) ?_
       refine GL.aA zer31 fun g39 => ?_
       refine GL.aA zer31 fun g40 => ?_
       refine GL.sA (cs' := #[.int .i64 s38a, .slice A38a n38a c38a]) (fun _ _ => Mem.st1) (fun _ hM => hM.b 1 rfl) siz31 ?_
       refine GL.sA (cs' := #[.int .i64 s38b, .slice A38b n38b c38b]) (fun _ _ => Mem.st0) (fun _ hM => hM.b 0 rfl) siz31 ?_
       refine GL.k k2 ?_
       refine CG.draw [g21] [0, 1] (.step 0 (.step 1 (.step 2 (.step 3 .done)))) (fun V hV41 => ?_)
       refine GD.er (.agg #[.int .i64 sq, .slice Aq nq cq]) (fun _ hS => op_load_agg (off := 0) (by kernel_rfl) agg31 siz31 (hV41.bS 3 rfl hS (by simp only [List.mem_cons, List.not_mem_nil, or_false, not_or]; exact hV41.ne 3 4 rfl rfl (by decide))) rfl rfl) ?_
       refine GD.er (.agg #[.int .i64 s38b, .slice A38b n38b c38b]) (fun _ hS => op_load_agg (off := 0) (by kernel_rfl) agg31 siz31 (hV41.bS 0 rfl hS (by simp only [List.mem_cons, List.not_mem_nil, or_false, not_or]; exact hV41.ne 0 4 rfl rfl (by decide))) rfl rfl) ?_
       refine GD.st (fun _ _ => Mem.st4) (fun _ hM => store_all (cs' := #[.int .i64 sq, .slice Aq nq cq]) siz31 (hM.b 4 rfl) (by kernel_rfl) (by kernel_rfl) rfl rfl rfl) ?_
       refine GD.st (fun _ _ => Mem.st3) (fun _ hM => store_all (cs' := #[.int .i64 s38b, .slice A38b n38b c38b]) siz31 (hM.b 3 rfl) (by kernel_rfl) (by kernel_rfl) rfl rfl rfl) ?_
       refine GD.q ?_
       refine QG.block ?_
       refine QG.again fun _ hM => ?_
       exact ⟨(p % q).natAbs, (by omega), sq, Aq, nq, cq, q, s38b, A38b, n38b, c38b, (p % q), (fun t => (#[.agg #[.int .i64 s1, .slice A1 n1 c1], .agg #[.int .i64 s2, .slice A2 n2 c2], .pointer (some ⟨g21, 0, none⟩), .pointer (some ⟨g22, 0, none⟩), .pointer (some ⟨g23, 0, none⟩), (j27 5), (j27 6), .pointer (some ⟨g39, 0, none⟩), .pointer (some ⟨g40, 0, none⟩), .agg #[.int .i64 s1, .slice A1 n1 c1], .agg #[.int .i64 s25, .slice A25 n25 c25], .agg #[.int .i64 s2, .slice A2 n2 c2], .agg #[.int .i64 s26, .slice A26 n26 c26], .pointer (some ⟨g22, 0, none⟩), .int .i64 sq, .bool (sq != (0 : Int)), .pointer (some ⟨g21, 1, none⟩), .slice Ap np cp, .int .i64 (np : Int), .bool true, .bool true, .pointer (some ⟨g22, 1, none⟩), .slice Aq nq cq, .int .i64 (nq : Int), .bool false, .bool false, (j27 26), (j27 27), (j27 28), (j27 29), (j27 30), (j27 31), (j27 32), (j27 33), (j27 34), (j27 35), (j27 36), (j27 37), .tuple #[.agg #[.int .i64 s38a, .slice A38a n38a c38a], .agg #[.int .i64 s38b, .slice A38b n38b c38b]], .agg #[.int .i64 sp, .slice Ap np cp], .agg #[.int .i64 sq, .slice Aq nq cq], .tuple #[.agg #[.int .i64 s38a, .slice A38a n38a c38a], .agg #[.int .i64 s38b, .slice A38b n38b c38b]], .agg #[.int .i64 s38a, .slice A38a n38a c38a], .agg #[.int .i64 s38b, .slice A38b n38b c38b], .agg #[.int .i64 sq, .slice Aq nq cq], .agg #[.int .i64 s38b, .slice A38b n38b c38b], undef] : Array Value).getD t undef), (by kernel_rfl), rfl, (((((((hM.dropn 2).clr).add ((hM.dropn 2).f 7 rfl)).add ((hM.dropn 2).f 6 rfl)).add ((hM.dropn 2).f 5 rfl)).add ((hM.dropn 2).f 4 rfl)).add ((hM.dropn 2).f 0 rfl)).add ((hM.dropn 2).f 3 rfl), (by rw [← hG]; exact ng_step h0.1 h0.2), ⟨h0.2, hlt.2⟩, (by omega)⟩
   · have hk29 : (decide ((np : Int) ≤ (4 : Int))) = false := decide_eq_false hc29
     refine CG.lin 10 ?_
     refine GL.v (.pointer (some ⟨g21, 1, none⟩)) ?_
     refine GL.r (.slice Ap np cp) (fun _ hM => op_load_one (off := 1) (by kernel_rfl) agg29 (hM.b 2 rfl) rfl) ?_
     refine GL.v (.int .i64 (np : Int)) ?_
     refine GL.v (.bool false) ?_ (hr := fun u => op_b (b := (decide ((np : Int) ≤ (4 : Int)))) (by kernel_rfl) hk29)
     refine GL.v (.bool false) ?_
     refine GL.sk ?_
     refine GL.sk ?_
     refine GL.sk ?_
     refine GL.sk ?_
     refine GL.v (.bool false) ?_
     refine GL.k k3 ?_
     refine CG.no ?_ rfl rfl
     refine CG.skip ?_
     refine QG.k k2 ?_
     refine CG.seq fun K_ k2 => ?_
     refine CG.lin 10 ?_
     refine GL.r (.agg #[.int .i64 sp, .slice Ap np cp]) (fun _ hM => op_load_agg (off := 0) (by kernel_rfl) agg31 siz31 (hM.b 2 rfl) rfl rfl) ?_
     refine GL.r (.agg #[.int .i64 sq, .slice Aq nq cq]) (fun _ hM => op_load_agg (off := 0) (by kernel_rfl) agg31 siz31 (hM.b 1 rfl) rfl rfl) ?_
     have hq0 := ng_nz hsq (by assumption)
     have hlt := ng_lt h0.1 h0.2 hq0
     have hsr := szg_rem p q hq0
     refine GL.call (fun _ hM => NQuotient_ok hM.avlt (hM.f 0 rfl) (hM.f 1 rfl) (by first | assumption | omega) (by first | assumption | omega)) ?_
     rintro _ _ _ hM ⟨s42a, A42a, n42a, c42a, s42b, A42b, n42b, c42b, rfl, h42a, h42b, hb⟩
     have hs42 := szg_quo p q
     have ht42 := szg_rem2 p q
     refine ⟨_, _, _, rfl, ((hM.call hb).add h42a).add h42b, ?_⟩
     refine GL.v (.tuple #[.agg #[.int .i64 s42a, .slice A42a n42a c42a], .agg #[.int .i64 s42b, .slice A42b n42b c42b]]) ?_
     refine GL.v (.agg #[.int .i64 s42a, .slice A42a n42a c42a]) ?_
     refine GL.v (.agg #[.int .i64 s42b, .slice A42b n42b c42b]) ?_
     refine GL.aA zer31 fun g43 => ?_
     refine GL.aA zer31 fun g44 => ?_
     refine GL.sA (cs' := #[.int .i64 s42a, .slice A42a n42a c42a]) (fun _ _ => Mem.st1) (fun _ hM => hM.b 1 rfl) siz31 ?_
     refine GL.sA (cs' := #[.int .i64 s42b, .slice A42b n42b c42b]) (fun _ _ => Mem.st0) (fun _ hM => hM.b 0 rfl) siz31 ?_
     refine GL.k k2 ?_
     refine CG.draw [g21] [0, 1] (.step 0 (.step 1 (.step 2 (.step 3 .done)))) (fun V hV45 => ?_)
     refine GD.er (.agg #[.int .i64 sq, .slice Aq nq cq]) (fun _ hS => op_load_agg (off := 0) (by kernel_rfl) agg31 siz31 (hV45.bS 3 rfl hS (by simp only [List.mem_cons, List.not_mem_nil, or_false, not_or]; exact hV45.ne 3 4 rfl rfl (by decide))) rfl rfl) ?_
     refine GD.er (.agg #[.int .i64 s42b, .slice A42b n42b c42b]) (fun _ hS => op_load_agg (off := 0) (by kernel_rfl) agg31 siz31 (hV45.bS 0 rfl hS (by simp only [List.mem_cons, List.not_mem_nil, or_false, not_or]; exact hV45.ne 0 4 rfl rfl (by decide))) rfl rfl) ?_
     refine GD.st (fun _ _ => Mem.st4) (fun _ hM => store_all (cs' := #[.int .i64 sq, .slice Aq nq cq]) siz31 (hM.b 4 rfl) (by kernel_rfl) (by kernel_rfl) rfl rfl rfl) ?_
     refine GD.st (fun _ _ => Mem.st3) (fun _ hM => store_all (cs' := #[.int .i64 s42b, .slice A42b n42b c42b]) siz31 (hM.b 3 rfl) (by kernel_rfl) (by kernel_rfl) rfl rfl rfl) ?_
     refine GD.q ?_
     refine QG.block ?_
     refine QG.again fun _ hM => ?_
     exact ⟨(p % q).natAbs, (by omega), sq, Aq, nq, cq, q, s42b, A42b, n42b, c42b, (p % q), (fun t => (#[.agg #[.int .i64 s1, .slice A1 n1 c1], .agg #[.int .i64 s2, .slice A2 n2 c2], .pointer (some ⟨g21, 0, none⟩), .pointer (some ⟨g22, 0, none⟩), .pointer (some ⟨g23, 0, none⟩), (j27 5), (j27 6), .pointer (some ⟨g43, 0, none⟩), .pointer (some ⟨g44, 0, none⟩), .agg #[.int .i64 s1, .slice A1 n1 c1], .agg #[.int .i64 s25, .slice A25 n25 c25], .agg #[.int .i64 s2, .slice A2 n2 c2], .agg #[.int .i64 s26, .slice A26 n26 c26], .pointer (some ⟨g22, 0, none⟩), .int .i64 sq, .bool (sq != (0 : Int)), .pointer (some ⟨g21, 1, none⟩), .slice Ap np cp, .int .i64 (np : Int), .bool false, .bool false, undef, undef, undef, undef, .bool false, (j27 26), (j27 27), (j27 28), (j27 29), (j27 30), (j27 31), (j27 32), (j27 33), (j27 34), (j27 35), (j27 36), (j27 37), .tuple #[.agg #[.int .i64 s42a, .slice A42a n42a c42a], .agg #[.int .i64 s42b, .slice A42b n42b c42b]], .agg #[.int .i64 sp, .slice Ap np cp], .agg #[.int .i64 sq, .slice Aq nq cq], .tuple #[.agg #[.int .i64 s42a, .slice A42a n42a c42a], .agg #[.int .i64 s42b, .slice A42b n42b c42b]], .agg #[.int .i64 s42a, .slice A42a n42a c42a], .agg #[.int .i64 s42b, .slice A42b n42b c42b], .agg #[.int .i64 sq, .slice Aq nq cq], .agg #[.int .i64 s42b, .slice A42b n42b c42b], undef] : Array Value).getD t undef), (by kernel_rfl), rfl, (((((((hM.dropn 2).clr).add ((hM.dropn 2).f 7 rfl)).add ((hM.dropn 2).f 6 rfl)).add ((hM.dropn 2).f 5 rfl)).add ((hM.dropn 2).f 4 rfl)).add ((hM.dropn 2).f 0 rfl)).add ((hM.dropn 2).f 3 rfl), (by rw [← hG]; exact ng_step h0.1 h0.2), ⟨h0.2, hlt.2⟩, (by omega)⟩
 · have hk28 : (sq != (0 : Int)) = false := by simpa using hc28
   refine CG.no ?_ hk28 rfl
   refine CG.exit (QG.then_exit (QG.then_exit (QG.here ?_)))
   refine QG.k k1 ?_
   refine CG.seq fun K_ k1 => ?_
   refine CG.lin 2 ?_
   refine GL.r (.agg #[.int .i64 sp, .slice Ap np cp]) (fun _ hM => op_load_agg (off := 0) (by kernel_rfl) agg31 siz31 (hM.b 2 rfl) rfl rfl) ?_
   refine GL.sA (cs' := #[.int .i64 sp, .slice Ap np cp]) (fun _ _ => Mem.st0) (fun _ hM => hM.b 0 rfl) siz31 ?_
   refine GL.k k1 ?_
   refine CG.ret (QG.ret (fun _ hM => results_one rfl (res_cell rfl (loadVar_agg agg31 siz31 (hM.b 0 rfl) rfl rfl))) ?_)
   intro _ hM
   exact ⟨_, _, _, _, rfl, ((ng_done hG (ng_z hsq (by assumption)) h0.1) ▸ (hM.out (hM.f 0 rfl))), hM.below⟩

set_option maxRecDepth 100000 in
set_option maxHeartbeats 400000 in
theorem NDen_ok {w : World} {X : Nat → Prop} {s1 : Int} {A1 : Option Addr} {n1 : Nat} {c1 : Nat} {s1_ : Int} {A1_ : Option Addr} {n1_ : Nat} {c1_ : Nat} {a : Rat} (hX : ∀ k, X k → k < w.heap.size) (h1 : NRk.R X w [.int .i64 s1, .slice A1 n1 c1, .int .i64 s1_, .slice A1_ n1_ c1_] a) :
    Calls Tryz.prog 59 #[.agg #[.int .i64 s1, .slice A1 n1 c1, .int .i64 s1_, .slice A1_ n1_ c1_]] w (fun e w' => ∃ sr Ar nr cr, e = .returned (.agg #[.int .i64 sr, .slice Ar nr cr]) ∧ NZk.R X w' [.int .i64 sr, .slice Ar nr cr] (a.den : Int) ∧ Below w.heap.size w w') := by
 have hM := (Mem.start hX).add0 h1
 have hone := NRk.one h1
 refine calls_of hM Tryz.func59 Tryz.ntmps59 ?_
 refine CG.seq fun K_ k1 => ?_
 refine CG.lin 2 ?_
 refine GL.bA #[.int .i64 s1, .slice A1 n1 c1, .int .i64 s1_, .slice A1_ n1_ c1_] fun g21 => ?_
 refine GL.aA zer31 fun g22 => ?_
 refine GL.k k1 ?_
 refine CG.seq fun K_ k1 => ?_
 refine CG.seq fun K_ k2 => ?_
 refine CG.lin 4 ?_
 refine GL.v (.pointer (some ⟨g21, 2, none⟩)) ?_
 refine GL.v (.pointer (some ⟨g21, 2, none⟩)) ?_
 refine GL.r (.int .i64 s1_) (fun _ hM => op_load_one (off := 2) (by kernel_rfl) agg3 (hM.b 1 rfl) rfl) ?_
 refine GL.v (.bool (s1_ == (0 : Int))) ?_
 refine GL.k k2 ?_
 by_cases hc23 : s1_ = (0 : Int)
 · have hk23 : (s1_ == (0 : Int)) = true := beq_iff_eq.2 hc23
   refine CG.yes ?_ hk23 rfl
   refine CG.seq fun K_ k2 => ?_
   refine CG.lin 2 ?_
   refine GL.call (fun _ hM => ZInt_ok hM.avlt (1) (by first | assumption | omega)) ?_
   rintro _ _ _ hM ⟨s24, A24, n24, c24, rfl, h24, hb⟩
   have hs24 := szg_i64 (1) (by omega)
   refine ⟨_, _, _, rfl, (hM.call hb).add h24, ?_⟩
   refine GL.sA (cs' := #[.int .i64 s24, .slice A24 n24 c24]) (fun _ _ => Mem.st0) (fun _ hM => hM.b 0 rfl) siz31 ?_
   refine GL.k k2 ?_
   refine CG.ret (QG.then_ret (QG.ret (fun _ hM => results_one rfl (res_cell rfl (loadVar_agg agg31 siz31 (hM.b 0 rfl) rfl rfl))) ?_))
   intro _ hM
   exact ⟨_, _, _, _, rfl, ((hone hc23) ▸ (hM.out (hM.f 0 rfl))), hM.below⟩
 · have hk23 : (s1_ == (0 : Int)) = false := beq_eq_false_iff_ne.2 hc23
   refine CG.no ?_ hk23 rfl
   refine CG.skip ?_
   refine QG.k k1 ?_
   refine CG.seq fun K_ k1 => ?_
   refine CG.lin 3 ?_
   refine GL.v (.pointer (some ⟨g21, 2, none⟩)) ?_
   refine GL.r (.agg #[.int .i64 s1_, .slice A1_ n1_ c1_]) (fun _ hM => op_load_agg (off := 2) (by kernel_rfl) agg31 siz31 (hM.b 1 rfl) rfl rfl) ?_
   refine GL.sA (cs' := #[.int .i64 s1_, .slice A1_ n1_ c1_]) (fun _ _ => Mem.st0) (fun _ hM => hM.b 0 rfl) siz31 ?_
   refine GL.k k1 ?_
   refine CG.ret (QG.ret (fun _ hM => results_one rfl (res_cell rfl (loadVar_agg agg31 siz31 (hM.b 0 rfl) rfl rfl))) ?_)
   intro _ hM
   exact ⟨_, _, _, _, rfl, (hM.out (NRk.bot (hM.f 0 rfl) hc23)), hM.below⟩

set_option maxRecDepth 100000 in
set_option maxHeartbeats 400000 in
theorem NOfZ_ok {w : World} {X : Nat → Prop} {s1 : Int} {A1 : Option Addr} {n1 : Nat} {c1 : Nat} {n : Int} {s2 : Int} {A2 : Option Addr} {n2 : Nat} {c2 : Nat} {d : Int} (hX : ∀ k, X k → k < w.heap.size) (h1 : NZk.R X w [.int .i64 s1, .slice A1 n1 c1] n) (h2 : NZk.R X w [.int .i64 s2, .slice A2 n2 c2] d) (p1 : d ≠ 0) (p2 : szg n + szg d ≤ 1073740000) :
    Calls Tryz.prog 55 #[.agg #[.int .i64 s1, .slice A1 n1 c1], .agg #[.int .i64 s2, .slice A2 n2 c2]] w (fun e w' => ∃ sr Ar nr cr sr_ Ar_ nr_ cr_, e = .returned (.agg #[.int .i64 sr, .slice Ar nr cr, .int .i64 sr_, .slice Ar_ nr_ cr_]) ∧ NRk.R X w' [.int .i64 sr, .slice Ar nr cr, .int .i64 sr_, .slice Ar_ nr_ cr_] (Rat.divInt n d) ∧ Below w.heap.size w w') := by
 have hM := ((Mem.start hX).add0 h1).add0 h2
 have hsd := NZk.sgn h2
 have hcd := sign_cases d
 have hgn := szg_neg n
 have hgd := szg_neg d
 refine calls_of hM Tryz.func55 Tryz.ntmps55 ?_
 refine CG.seq fun K_ k1 => ?_
 refine CG.lin 3 ?_
 refine GL.bA #[.int .i64 s1, .slice A1 n1 c1] fun g21 => ?_
 refine GL.bA #[.int .i64 s2, .slice A2 n2 c2] fun g22 => ?_
 refine GL.aA zer54 fun g23 => ?_
 refine GL.k k1 ?_
 refine CG.seq fun K_ k1 => ?_
 refine CG.seq fun K_ k2 => ?_
 refine CG.lin 3 ?_
 refine GL.v (.pointer (some ⟨g22, 0, none⟩)) ?_
 refine GL.r (.int .i64 s2) (fun _ hM => op_load_one (off := 0) (by kernel_rfl) agg3 (hM.b 1 rfl) rfl) ?_
 refine GL.v (.bool (decide (s2 < (0 : Int)))) ?_
 refine GL.k k2 ?_
 refine CG.cut (fun a_ u_ => ∃ (sp : Int) (Ap : Option Addr) (np : Nat) (cp : Nat) (p : Int) (sq : Int) (Aq : Option Addr) (nq : Nat) (cq : Nat) (q : Int) (j24 : Nat → Value), a_ = ⟨#[.agg #[.int .i64 s1, .slice A1 n1 c1], .agg #[.int .i64 s2, .slice A2 n2 c2], .pointer (some ⟨g21, 0, none⟩), .pointer (some ⟨g22, 0, none⟩), .pointer (some ⟨g23, 0, none⟩), undef, .pointer (some ⟨g22, 0, none⟩), .int .i64 s2, .bool (decide (s2 < (0 : Int))), (j24 9), (j24 10), (j24 11), (j24 12), undef, undef, undef, undef, undef, undef, undef, undef, undef, undef, undef, undef, undef, undef, undef, undef, undef, undef, undef, undef, undef, undef], []⟩ ∧ Mem w [] X u_ [.box g23 #[.int .i64 0, .slice none 0 0, .int .i64 0, .slice none 0 0] 54, .box g22 #[.int .i64 sq, .slice Aq nq cq] 31, .box g21 #[.int .i64 sp, .slice Ap np cp] 31] [⟨NZk, [.int .i64 sp, .slice Ap np cp], p⟩, ⟨NZk, [.int .i64 sq, .slice Aq nq cq], q⟩, ⟨NZk, [.int .i64 s2, .slice A2 n2 c2], d⟩, ⟨NZk, [.int .i64 s1, .slice A1 n1 c1], n⟩] ∧ (Rat.divInt p q = Rat.divInt n d ∧ 0 < q) ∧ (szg p = szg n ∧ szg q = szg d)) ?_ ?_
 · skip
   by_cases hc33 : s2 < (0 : Int)
   · have hk33 : (decide (s2 < (0 : Int))) = true := decide_eq_true hc33
     refine CG.yes ?_ hk33 rfl
     refine CG.draw [] [0, 2] (.step 0 (.step 2 (.step 1 (.step 3 (.step 4 (.step 5 .done)))))) (fun V hV34 => ?_)
     refine GD.er (.agg #[.int .i64 s1, .slice A1 n1 c1]) (fun _ hS => op_load_agg (off := 0) (by kernel_rfl) agg31 siz31 (hV34.bS 2 rfl hS) rfl rfl) ?_
     refine GD.er (.agg #[.int .i64 s2, .slice A2 n2 c2]) (fun _ hS => op_load_agg (off := 0) (by kernel_rfl) agg31 siz31 (hV34.bS 1 rfl hS) rfl rfl) ?_
     refine GD.call (fun _ hM => ZNeg_ok hM.avlt (hM.f 1 rfl)) ?_
     rintro _ _ _ hM ⟨s35, A35, n35, c35, rfl, h35, hb⟩
     have hs35 := szg_neg n
     refine ⟨_, _, _, rfl, hb, (hM.call hb).add h35, ?_⟩
     refine GD.call (fun _ hM => ZNeg_ok hM.avlt (hM.f 1 rfl)) ?_
     rintro _ _ _ hM ⟨s36, A36, n36, c36, rfl, h36, hb⟩
     have hs36 := szg_neg d
     refine ⟨_, _, _, rfl, hb, (hM.call hb).add h36, ?_⟩
     refine GD.st (fun _ _ => Mem.st2) (fun _ hM => store_all (cs' := #[.int .i64 s35, .slice A35 n35 c35]) siz31 (hM.b 2 rfl) (by kernel_rfl) (by kernel_rfl) rfl rfl rfl) ?_
     refine GD.st (fun _ _ => Mem.st1) (fun _ hM => store_all (cs' := #[.int .i64 s36, .slice A36 n36 c36]) siz31 (hM.b 1 rfl) (by kernel_rfl) (by kernel_rfl) rfl rfl rfl) ?_
     refine GD.q ?_
     refine QG.cut fun _ hM => ?_
     exact ⟨s35, A35, n35, c35, (-n), s36, A36, n36, c36, (-d), (fun t => (#[.agg #[.int .i64 s1, .slice A1 n1 c1], .agg #[.int .i64 s2, .slice A2 n2 c2], .pointer (some ⟨g21, 0, none⟩), .pointer (some ⟨g22, 0, none⟩), .pointer (some ⟨g23, 0, none⟩), undef, .pointer (some ⟨g22, 0, none⟩), .int .i64 s2, .bool (decide (s2 < (0 : Int))), .agg #[.int .i64 s1, .slice A1 n1 c1], .agg #[.int .i64 s35, .slice A35 n35 c35], .agg #[.int .i64 s2, .slice A2 n2 c2], .agg #[.int .i64 s36, .slice A36 n36 c36], undef, undef, undef, undef, undef, undef, undef, undef, undef, undef, undef, undef, undef, undef, undef, undef, undef, undef, undef, undef, undef, undef] : Array Value).getD t undef), (by kernel_rfl), ((((hM.clr).add (hM.f 3 rfl)).add (hM.f 2 rfl)).add (hM.f 0 rfl)).add (hM.f 1 rfl), (by first | exact ⟨rfl, by omega⟩ | exact ⟨nofz_sign, by omega⟩), (by omega)⟩
   · have hk33 : (decide (s2 < (0 : Int))) = false := decide_eq_false hc33
     refine CG.no ?_ hk33 rfl
     refine CG.skip ?_
     refine QG.cut fun _ hM => ?_
     exact ⟨s1, A1, n1, c1, n, s2, A2, n2, c2, d, (fun t => (#[.agg #[.int .i64 s1, .slice A1 n1 c1], .agg #[.int .i64 s2, .slice A2 n2 c2], .pointer (some ⟨g21, 0, none⟩), .pointer (some ⟨g22, 0, none⟩), .pointer (some ⟨g23, 0, none⟩), undef, .pointer (some ⟨g22, 0, none⟩), .int .i64 s2, .bool (decide (s2 < (0 : Int))), undef, undef, undef, undef, undef, undef, undef, undef, undef, undef, undef, undef, undef, undef, undef, undef, undef, undef, undef, undef, undef, undef, undef, undef, undef, undef] : Array Value).getD t undef), (by kernel_rfl), ((((hM.clr).add (hM.f 1 rfl)).add (hM.f 0 rfl)).add (hM.f 0 rfl)).add (hM.f 1 rfl), (by first | exact ⟨rfl, by omega⟩ | exact ⟨nofz_sign, by omega⟩), (by omega)⟩
 · skip
   rintro a_ u_ ⟨sp, Ap, np, cp, p, sq, Aq, nq, cq, q, j24, rfl, hM, hpq, hsz⟩
   have hsg := szg_gcd p q
   have hs1z : szg 1 ≤ 1 := szg_le (by decide)
   refine QG.go hM ?_
   refine QG.k k1 ?_
   refine CG.seq fun K_ k1 => ?_
   refine CG.lin 5 ?_
   refine GL.r (.agg #[.int .i64 sp, .slice Ap np cp]) (fun _ hM => op_load_agg (off := 0) (by kernel_rfl) agg31 siz31 (hM.b 2 rfl) rfl rfl) ?_
   refine GL.r (.agg #[.int .i64 sq, .slice Aq nq cq]) (fun _ hM => op_load_agg (off := 0) (by kernel_rfl) agg31 siz31 (hM.b 1 rfl) rfl rfl) ?_
   refine GL.call (fun _ hM => NGcd_ok hM.avlt (hM.f 0 rfl) (hM.f 1 rfl) (by first | assumption | omega)) ?_
   rintro _ _ _ hM ⟨s25, A25, n25, c25, rfl, h25, hb⟩
   have hs25 := szg_gcd p q
   refine ⟨_, _, _, rfl, (hM.call hb).add h25, ?_⟩
   refine GL.aA zer31 fun g26 => ?_
   refine GL.sA (cs' := #[.int .i64 s25, .slice A25 n25 c25]) (fun _ _ => Mem.st0) (fun _ hM => hM.b 0 rfl) siz31 ?_
   refine GL.k k1 ?_
   refine CG.seq fun K_ k1 => ?_
   refine CG.seq fun K_ k2 => ?_
   refine CG.draw [] [0, 3] (.step 0 (.step 1 (.step 2 (.step 3 .done)))) (fun V hV27 => ?_)
   refine GD.er (.agg #[.int .i64 s25, .slice A25 n25 c25]) (fun _ hS => op_load_agg (off := 0) (by kernel_rfl) agg31 siz31 (hV27.bS 0 rfl hS) rfl rfl) ?_
   refine GD.call (fun _ hM => ZInt_ok hM.avlt (1) (by first | assumption | omega)) ?_
   rintro _ _ _ hM ⟨s28, A28, n28, c28, rfl, h28, hb⟩
   have hs28 := szg_i64 (1) (by omega)
   refine ⟨_, _, _, rfl, hb, (hM.call hb).add h28, ?_⟩
   refine GD.call (fun _ hM => ZCmp_ok hM.avlt (hM.f 1 rfl) (hM.f 0 rfl) (by first | assumption | omega)) ?_
   rintro _ _ _ hM ⟨rfl, hb⟩
   refine ⟨_, _, _, rfl, hb, hM.call hb, ?_⟩
   refine GD.ev (.bool (decide ((((Int.gcd p q : Int) - 1).sign) > (0 : Int)))) ?_
   refine GD.k k2 ?_
   by_cases hc30 : (Int.gcd p q : Int) > 1
   · have hk30 : (decide ((((Int.gcd p q : Int) - 1).sign) > (0 : Int))) = true := (sign_gt _ _).trans (decide_eq_true hc30)
     refine CG.yes ?_ hk30 rfl
     refine CG.seq fun K_ k2 => ?_
     refine CG.lin 7 ?_
     refine GL.r (.agg #[.int .i64 sp, .slice Ap np cp]) (fun _ hM => op_load_agg (off := 0) (by kernel_rfl) agg31 siz31 (hM.b 3 rfl) rfl rfl) ?_
     refine GL.r (.agg #[.int .i64 s25, .slice A25 n25 c25]) (fun _ hM => op_load_agg (off := 0) (by kernel_rfl) agg31 siz31 (hM.b 0 rfl) rfl rfl) ?_
     refine GL.call (fun _ hM => NQuotient_ok hM.avlt (hM.f 2 rfl) (hM.f 1 rfl) (nofz0 hpq.2) (by first | assumption | omega)) ?_
     rintro _ _ _ hM ⟨s31a, A31a, n31a, c31a, s31b, A31b, n31b, c31b, rfl, h31a, h31b, hb⟩
     have hs31 := szg_quo p (Int.gcd p q : Int)
     have ht31 := szg_rem2 p (Int.gcd p q : Int)
     refine ⟨_, _, _, rfl, ((hM.call hb).add h31a).add h31b, ?_⟩
     refine GL.v (.tuple #[.agg #[.int .i64 s31a, .slice A31a n31a c31a], .agg #[.int .i64 s31b, .slice A31b n31b c31b]]) ?_
     refine GL.v (.agg #[.int .i64 s31a, .slice A31a n31a c31a]) ?_
     refine GL.v (.agg #[.int .i64 s31b, .slice A31b n31b c31b]) ?_
     refine GL.sA (cs' := #[.int .i64 s31a, .slice A31a n31a c31a]) (fun _ _ => Mem.st3) (fun _ hM => hM.b 3 rfl) siz31 ?_
     refine GL.k k2 ?_
     refine CG.lin 7 ?_
     refine GL.r (.agg #[.int .i64 sq, .slice Aq nq cq]) (fun _ hM => op_load_agg (off := 0) (by kernel_rfl) agg31 siz31 (hM.b 2 rfl) rfl rfl) ?_
     refine GL.r (.agg #[.int .i64 s25, .slice A25 n25 c25]) (fun _ hM => op_load_agg (off := 0) (by kernel_rfl) agg31 siz31 (hM.b 0 rfl) rfl rfl) ?_
     refine GL.call (fun _ hM => NQuotient_ok hM.avlt (hM.f 5 rfl) (hM.f 3 rfl) (nofz0 hpq.2) (by first | assumption | omega)) ?_
     rintro _ _ _ hM ⟨s32a, A32a, n32a, c32a, s32b, A32b, n32b, c32b, rfl, h32a, h32b, hb⟩
     have hs32 := szg_quo q (Int.gcd p q : Int)
     have ht32 := szg_rem2 q (Int.gcd p q : Int)
     refine ⟨_, _, _, rfl, ((hM.call hb).add h32a).add h32b, ?_⟩
     refine GL.v (.tuple #[.agg #[.int .i64 s32a, .slice A32a n32a c32a], .agg #[.int .i64 s32b, .slice A32b n32b c32b]]) ?_
     refine GL.v (.agg #[.int .i64 s32a, .slice A32a n32a c32a]) ?_
     refine GL.v (.agg #[.int .i64 s32b, .slice A32b n32b c32b]) ?_
     refine GL.sA (cs' := #[.int .i64 s32a, .slice A32a n32a c32a]) (fun _ _ => Mem.st2) (fun _ hM => hM.b 2 rfl) siz31 ?_
     refine GL.k k1 ?_
     refine CG.seq fun K_ k1 => ?_
     refine CG.lin 4 ?_
     refine GL.r (.agg #[.int .i64 s31a, .slice A31a n31a c31a]) (fun _ hM => op_load_agg (off := 0) (by kernel_rfl) agg31 siz31 (hM.b 3 rfl) rfl rfl) ?_
     refine GL.r (.agg #[.int .i64 s32a, .slice A32a n32a c32a]) (fun _ hM => op_load_agg (off := 0) (by kernel_rfl) agg31 siz31 (hM.b 2 rfl) rfl rfl) ?_
     refine GL.v (.agg #[.int .i64 s31a, .slice A31a n31a c31a, .int .i64 s32a, .slice A32a n32a c32a]) ?_
     refine GL.sA (cs' := #[.int .i64 s31a, .slice A31a n31a c31a, .int .i64 s32a, .slice A32a n32a c32a]) (fun _ _ => Mem.st1) (fun _ hM => hM.b 1 rfl) siz54 ?_
     refine GL.k k1 ?_
     refine CG.ret (QG.ret (fun _ hM => results_one rfl (res_cell rfl (loadVar_agg agg54 siz54 (hM.b 1 rfl) rfl rfl))) ?_)
     intro _ hM
     exact ⟨_, _, _, _, _, _, _, _, rfl, (hpq.1 ▸ NRk.ofs (hM.out (hM.f 3 rfl)) (hM.out (hM.f 1 rfl)) (nofz1 (p := p) hpq.2).1 (nofz1 (p := p) hpq.2).2), hM.below⟩
   · have hk30 : (decide ((((Int.gcd p q : Int) - 1).sign) > (0 : Int))) = false := (sign_gt _ _).trans (decide_eq_false hc30)
     refine CG.no ?_ hk30 rfl
     refine CG.skip ?_
     refine QG.k k1 ?_
     refine CG.seq fun K_ k1 => ?_
     refine CG.lin 4 ?_
     refine GL.r (.agg #[.int .i64 sp, .slice Ap np cp]) (fun _ hM => op_load_agg (off := 0) (by kernel_rfl) agg31 siz31 (hM.b 3 rfl) rfl rfl) ?_
     refine GL.r (.agg #[.int .i64 sq, .slice Aq nq cq]) (fun _ hM => op_load_agg (off := 0) (by kernel_rfl) agg31 siz31 (hM.b 2 rfl) rfl rfl) ?_
     refine GL.v (.agg #[.int .i64 sp, .slice Ap np cp, .int .i64 sq, .slice Aq nq cq]) ?_
     refine GL.sA (cs' := #[.int .i64 sp, .slice Ap np cp, .int .i64 sq, .slice Aq nq cq]) (fun _ _ => Mem.st1) (fun _ hM => hM.b 1 rfl) siz54 ?_
     refine GL.k k1 ?_
     refine CG.ret (QG.ret (fun _ hM => results_one rfl (res_cell rfl (loadVar_agg agg54 siz54 (hM.b 1 rfl) rfl rfl))) ?_)
     intro _ hM
     exact ⟨_, _, _, _, _, _, _, _, rfl, (hpq.1 ▸ NRk.ofs (hM.out (hM.f 2 rfl)) (hM.out (hM.f 3 rfl)) (nofz2 hpq.2 hc30).1 (nofz2 hpq.2 hc30).2), hM.below⟩

set_option maxRecDepth 100000 in
set_option maxHeartbeats 400000 in
theorem NWhole_ok {w : World} {X : Nat → Prop} {s1 : Int} {A1 : Option Addr} {n1 : Nat} {c1 : Nat} {z : Int} (hX : ∀ k, X k → k < w.heap.size) (h1 : NZk.R X w [.int .i64 s1, .slice A1 n1 c1] z) :
    Calls Tryz.prog 51 #[.agg #[.int .i64 s1, .slice A1 n1 c1]] w (fun e w' => ∃ sr Ar nr cr sr_ Ar_ nr_ cr_, e = .returned (.agg #[.int .i64 sr, .slice Ar nr cr, .int .i64 sr_, .slice Ar_ nr_ cr_]) ∧ NRk.R X w' [.int .i64 sr, .slice Ar nr cr, .int .i64 sr_, .slice Ar_ nr_ cr_] (z : Rat) ∧ Below w.heap.size w w') := by
 have hM := (Mem.start hX).add0 h1
 refine calls_of hM Tryz.func51 Tryz.ntmps51 ?_
 refine CG.seq fun K_ k1 => ?_
 refine CG.lin 2 ?_
 refine GL.bA #[.int .i64 s1, .slice A1 n1 c1] fun g21 => ?_
 refine GL.aA zer54 fun g22 => ?_
 refine GL.k k1 ?_
 refine CG.seq fun K_ k1 => ?_
 refine CG.draw [] [0, 2] (.step 0 (.step 1 (.step 2 (.step 3 .done)))) (fun V hV23 => ?_)
 refine GD.er (.agg #[.int .i64 s1, .slice A1 n1 c1]) (fun _ hS => op_load_agg (off := 0) (by kernel_rfl) agg31 siz31 (hV23.bS 1 rfl hS) rfl rfl) ?_
 refine GD.call (fun _ hM => ZInt_ok hM.avlt (1) (by first | assumption | omega)) ?_
 rintro _ _ _ hM ⟨s24, A24, n24, c24, rfl, h24, hb⟩
 have hs24 := szg_i64 (1) (by omega)
 refine ⟨_, _, _, rfl, hb, (hM.call hb).add h24, ?_⟩
 refine GD.ev (.agg #[.int .i64 s1, .slice A1 n1 c1, .int .i64 s24, .slice A24 n24 c24]) ?_
 refine GD.st (fun _ _ => Mem.st0) (fun _ hM => store_all (cs' := #[.int .i64 s1, .slice A1 n1 c1, .int .i64 s24, .slice A24 n24 c24]) siz54 (hM.b 0 rfl) (by kernel_rfl) (by kernel_rfl) rfl rfl rfl) ?_
 refine GD.k k1 ?_
 refine CG.ret (QG.ret (fun _ hM => results_one rfl (res_cell rfl (loadVar_agg agg54 siz54 (hM.b 0 rfl) rfl rfl))) ?_)
 intro _ hM
 exact ⟨_, _, _, _, _, _, _, _, rfl, (NRk.whole (hM.out (hM.f 1 rfl)) (hM.out (hM.f 0 rfl))), hM.below⟩

set_option maxRecDepth 100000 in
set_option maxHeartbeats 400000 in
theorem NText_ok {w : World} {X : Nat → Prop} {s1 : Int} {A1 : Option Addr} {n1 : Nat} {c1 : Nat} {s1_ : Int} {A1_ : Option Addr} {n1_ : Nat} {c1_ : Nat} {a : Rat} (hX : ∀ k, X k → k < w.heap.size) (h1 : NRk.R X w [.int .i64 s1, .slice A1 n1 c1, .int .i64 s1_, .slice A1_ n1_ c1_] a) (p1 : szgR a ≤ 268435456) :
    Calls Tryz.prog 115 #[.agg #[.int .i64 s1, .slice A1 n1 c1, .int .i64 s1_, .slice A1_ n1_ c1_]] w (fun e w' => e = .returned (.string (bs (decR a))) ∧ Below w.heap.size w w') := by
 have gna := szgR_num a; have gda := szgR_den a
 have hM := (Mem.start hX).add0 h1
 refine calls_of hM Tryz.func115 Tryz.ntmps115 ?_
 refine CG.seq fun K_ k1 => ?_
 refine CG.lin 2 ?_
 refine GL.bA #[.int .i64 s1, .slice A1 n1 c1, .int .i64 s1_, .slice A1_ n1_ c1_] fun g21 => ?_
 refine GL.v (.string (bs [])) ?_
 refine GL.k k1 ?_
 refine CG.seq fun K_ k1 => ?_
 refine CG.seq fun K_ k2 => ?_
 refine CG.lin 4 ?_
 refine GL.r (.agg #[.int .i64 s1, .slice A1 n1 c1, .int .i64 s1_, .slice A1_ n1_ c1_]) (fun _ hM => op_load_agg (off := 0) (by kernel_rfl) agg54 siz54 (hM.b 0 rfl) rfl rfl) ?_
 refine GL.call (fun _ hM => NDen_ok hM.avlt (hM.f 0 rfl)) ?_
 rintro _ _ _ hM ⟨s22, A22, n22, c22, rfl, h22, hb⟩
 have hs22 := szgR_den a
 refine ⟨_, _, _, rfl, (hM.call hb).add h22, ?_⟩
 refine GL.call (fun _ hM => NZText_ok hM.avlt (hM.f 0 rfl) (by first | assumption | omega)) ?_
 rintro _ _ _ hM ⟨rfl, hb⟩
 have hl23 := decZ_lenN (a.den : Int)
 refine ⟨_, _, _, rfl, hM.call hb, ?_⟩
 refine GL.v (.bool (decide ((decZ (a.den : Int)) = [49]))) ?_ (hr := fun u => op_seq (L := decZ (a.den : Int)) (K := [49]) (by kernel_rfl) (by kernel_rfl))
 refine GL.k k2 ?_
 by_cases hc24 : a.den - 1 = 0
 · have hk24 : (decide ((decZ (a.den : Int)) = [49])) = true := (decZ_is1 a).trans (decide_eq_true hc24)
   refine CG.yes ?_ hk24 rfl
   refine CG.seq fun K_ k2 => ?_
   refine CG.lin 4 ?_
   refine GL.v (.pointer (some ⟨g21, 0, none⟩)) ?_
   refine GL.r (.agg #[.int .i64 s1, .slice A1 n1 c1]) (fun _ hM => op_load_agg (off := 0) (by kernel_rfl) agg31 siz31 (hM.b 0 rfl) rfl rfl) ?_
   refine GL.call (fun _ hM => NZText_ok hM.avlt (NRk.top (hM.f 1 rfl)) (by first | assumption | omega)) ?_
   rintro _ _ _ hM ⟨rfl, hb⟩
   have hl25 := decZ_lenN a.num
   refine ⟨_, _, _, rfl, hM.call hb, ?_⟩
   refine GL.v (.string (bs (decZ a.num))) ?_
   refine GL.k k2 ?_
   refine CG.ret (QG.then_ret (QG.ret (fun _ hM => results_one rfl (res_tmp rfl)) ?_))
   intro _ hM
   exact ⟨ret_str ((decR_of a).1 hc24), hM.below⟩
 · have hk24 : (decide ((decZ (a.den : Int)) = [49])) = false := (decZ_is1 a).trans (decide_eq_false hc24)
   refine CG.no ?_ hk24 rfl
   refine CG.skip ?_
   refine QG.k k1 ?_
   refine CG.seq fun K_ k1 => ?_
   refine CG.draw [] [0, 1, 4, 3, 7] (.step 0 (.step 1 (.step 4 (.step 2 (.step 3 (.step 5 (.step 6 (.step 7 (.step 8 .done))))))))) (fun V hV26 => ?_)
   refine GD.ev (.pointer (some ⟨g21, 0, none⟩)) ?_
   refine GD.er (.agg #[.int .i64 s1, .slice A1 n1 c1]) (fun _ hS => op_load_agg (off := 0) (by kernel_rfl) agg31 siz31 (hV26.bS 0 rfl hS) rfl rfl) ?_
   refine GD.er (.agg #[.int .i64 s1, .slice A1 n1 c1, .int .i64 s1_, .slice A1_ n1_ c1_]) (fun _ hS => op_load_agg (off := 0) (by kernel_rfl) agg54 siz54 (hV26.bS 0 rfl hS) rfl rfl) ?_
   refine GD.call (fun _ hM => NZText_ok hM.avlt (NRk.top (hM.f 1 rfl)) (by first | assumption | omega)) ?_
   rintro _ _ _ hM ⟨rfl, hb⟩
   have hl27 := decZ_lenN a.num
   refine ⟨_, _, _, rfl, hb, hM.call hb, ?_⟩
   refine GD.ev (.string (bs ((decZ a.num) ++ [47]))) ?_ (hr := fun u => op_cat (L := decZ a.num) (K := [47]) (by kernel_rfl) (by kernel_rfl) (by (try simp only [List.length_append, List.length_cons, List.length_nil]); omega))
   refine GD.call (fun _ hM => NDen_ok hM.avlt (hM.f 1 rfl)) ?_
   rintro _ _ _ hM ⟨s28, A28, n28, c28, rfl, h28, hb⟩
   have hs28 := szgR_den a
   refine ⟨_, _, _, rfl, hb, (hM.call hb).add h28, ?_⟩
   refine GD.call (fun _ hM => NZText_ok hM.avlt (hM.f 0 rfl) (by first | assumption | omega)) ?_
   rintro _ _ _ hM ⟨rfl, hb⟩
   have hl29 := decZ_lenN (a.den : Int)
   refine ⟨_, _, _, rfl, hb, hM.call hb, ?_⟩
   refine GD.ev (.string (bs (((decZ a.num) ++ [47]) ++ (decZ (a.den : Int))))) ?_ (hr := fun u => op_cat (L := (decZ a.num) ++ [47]) (K := decZ (a.den : Int)) (by kernel_rfl) (by kernel_rfl) (by (try simp only [List.length_append, List.length_cons, List.length_nil]); omega))
   refine GD.v (.string (bs (((decZ a.num) ++ [47]) ++ (decZ (a.den : Int))))) ?_
   refine GD.k k1 ?_
   refine CG.ret (QG.ret (fun _ hM => results_one rfl (res_tmp rfl)) ?_)
   intro _ hM
   exact ⟨ret_str ((decR_of a).2 hc24), hM.below⟩

set_option maxRecDepth 100000 in
set_option maxHeartbeats 400000 in
theorem Same_ok {w : World} {X : Nat → Prop} {A1 : Option Addr} {n1 : Nat} {c1 : Nat} {m1 : Bool} {A1_ : Option Addr} {n1_ : Nat} {c1_ : Nat} {a : Rat} {s2 : Int} {A2 : Option Addr} {n2 : Nat} {c2 : Nat} {s2_ : Int} {A2_ : Option Addr} {n2_ : Nat} {c2_ : Nat} {b : Rat} (hX : ∀ k, X k → k < w.heap.size) (h1 : Rk.R X w [.slice A1 n1 c1, .bool m1, .slice A1_ n1_ c1_] a) (h2 : NRk.R X w [.int .i64 s2, .slice A2 n2 c2, .int .i64 s2_, .slice A2_ n2_ c2_] b) (p1 : szR a ≤ 68719476736) (p2 : szgR b ≤ 268435456) :
    Calls Tryz.prog 27 #[.agg #[.slice A1 n1 c1, .bool m1, .slice A1_ n1_ c1_], .agg #[.int .i64 s2, .slice A2 n2 c2, .int .i64 s2_, .slice A2_ n2_ c2_]] w (fun e w' => e = .returned (.bool (decide (a = b))) ∧ Below w.heap.size w w') := by
 have hM := ((Mem.start hX).add0 h1).add0 h2
 refine calls_of hM Tryz.func27 Tryz.ntmps27 ?_
 refine CG.seq fun K_ k1 => ?_
 refine CG.lin 3 ?_
 refine GL.bA #[.slice A1 n1 c1, .bool m1, .slice A1_ n1_ c1_] fun g21 => ?_
 refine GL.bA #[.int .i64 s2, .slice A2 n2 c2, .int .i64 s2_, .slice A2_ n2_ c2_] fun g22 => ?_
 refine GL.v (.bool false) ?_
 refine GL.k k1 ?_
 refine CG.seq fun K_ k1 => ?_
 refine CG.draw [] [0, 2, 4] (.step 0 (.step 2 (.step 1 (.step 3 (.step 4 (.step 5 .done)))))) (fun V hV23 => ?_)
 refine GD.er (.agg #[.slice A1 n1 c1, .bool m1, .slice A1_ n1_ c1_]) (fun _ hS => op_load_agg (off := 0) (by kernel_rfl) agg48 siz48 (hV23.bS 1 rfl hS) rfl rfl) ?_
 refine GD.er (.agg #[.int .i64 s2, .slice A2 n2 c2, .int .i64 s2_, .slice A2_ n2_ c2_]) (fun _ hS => op_load_agg (off := 0) (by kernel_rfl) agg54 siz54 (hV23.bS 0 rfl hS) rfl rfl) ?_
 refine GD.call (fun _ hM => RText_ok hM.avlt (hM.f 1 rfl) (by first | assumption | omega)) ?_
 rintro _ _ _ hM ⟨rfl, hb⟩
 have hl24 := decR_len a
 refine ⟨_, _, _, rfl, hb, hM.call hb, ?_⟩
 refine GD.call (fun _ hM => NText_ok hM.avlt (hM.f 0 rfl) (by first | assumption | omega)) ?_
 rintro _ _ _ hM ⟨rfl, hb⟩
 have hl25 := decR_lenN b
 refine ⟨_, _, _, rfl, hb, hM.call hb, ?_⟩
 refine GD.ev (.bool (decide ((decR a) = (decR b)))) ?_ (hr := fun u => op_seq (L := decR a) (K := decR b) (by kernel_rfl) (by kernel_rfl))
 refine GD.v (.bool (decide ((decR a) = (decR b)))) ?_
 refine GD.k k1 ?_
 refine CG.ret (QG.ret (fun _ hM => results_one rfl (res_tmp rfl)) ?_)
 intro _ hM
 exact ⟨ret_bool (decR_inj a b), hM.below⟩

set_option maxRecDepth 100000 in
set_option maxHeartbeats 400000 in
theorem ZParse_pos {w : World} {X : Nat → Prop} (hX : ∀ k, X k → k < w.heap.size) (s : List UInt8) (p1 : s.all isDg' = true) (p2 : s.length ≤ 1000000000) :
    Calls Tryz.prog 25 #[.string (bs s)] w (fun e w' => ∃ sr Ar nr cr, e = .returned (.agg #[.int .i64 sr, .slice Ar nr cr]) ∧ NZk.R X w' [.int .i64 sr, .slice Ar nr cr] ((num s : Nat) : Int) ∧ Below w.heap.size w w') := by
 have hM := Mem.start hX
 refine calls_of hM Tryz.func25 Tryz.ntmps25 ?_
 refine CG.seq fun K_ k1 => ?_
 refine CG.lin 1 ?_
 refine GL.aA zer31 fun g21 => ?_
 refine GL.k k1 ?_
 refine CG.seq fun K_ k1 => ?_
 refine CG.seq fun K_ k2 => ?_
 by_cases hc22 : ¬ s = []
 · have hk22 : (!(decide (s = []))) = true := by simpa using hc22
   refine CG.lin 7 ?_
   refine GL.v (.string (bs s)) ?_
   refine GL.v (.bool true) ?_ (hr := fun u => op_b (b := (!(decide (s = [])))) ((fun u => op_sne (L := s) (K := []) (by kernel_rfl) (by kernel_rfl)) u) hk22)
   refine GL.v (.bool true) ?_
   refine GL.v (.string (bs s)) ?_
   have hl0 : 0 < s.length := List.length_pos_iff.2 (by assumption)
   refine GL.v (.int .u8 (((s.getD 0 0).toNat : Nat) : Int)) ?_ (hr := fun u => op_sidx (L := s) (k := .i64) (i := (0 : Int)) 0 (by kernel_rfl) (by kernel_rfl) (by omega) (by (try simp only [List.length_append, List.length_cons, List.length_nil]); omega) (by kernel_rfl))
   refine GL.v (.bool false) ?_ (hr := fun u => op_b (b := ((((s.getD 0 0).toNat : Nat) : Int) == (45 : Int))) (by kernel_rfl) (beq_eq_false_iff_ne.2 (zp_no45 p1 (by omega))))
   refine GL.v (.bool false) ?_
   refine GL.k k2 ?_
   refine CG.no ?_ rfl rfl
   refine CG.skip ?_
   refine QG.k k1 ?_
   refine CG.seq fun K_ k1 => ?_
   refine CG.lin 1 ?_
   refine GL.v (.slice none 0 0) ?_
   refine GL.k k1 ?_
   refine CG.seq fun K_ k1 => ?_
   refine CG.block ?_
   refine CG.loop (fun m_ a_ u_ => (∃ (i : Nat) (r : List UInt8) (g3 : Nat) (n3 : Nat) (c3 : Nat) (P : List Int) (j23 : Nat → Value), a_ = ⟨#[.string (bs r), undef, .pointer (some ⟨g21, 0, none⟩), .slice (some ⟨g3, 0, none⟩) n3 c3, (j23 4), (j23 5), (j23 6), .string (bs s), .bool true, .bool true, .string (bs s), .int .u8 (((s.getD 0 0).toNat : Nat) : Int), .bool false, .bool false, undef, undef, undef, undef, (j23 18), (j23 19), (j23 20), (j23 21), (j23 22), (j23 23), (j23 24), (j23 25), (j23 26), (j23 27), (j23 28), (j23 29), (j23 30), (j23 31), (j23 32), (j23 33), (j23 34), (j23 35), (j23 36), (j23 37), (j23 38), (j23 39), (j23 40), (j23 41), (j23 42), (j23 43), (j23 44), (j23 45), (j23 46), (j23 47), undef, undef], []⟩ ∧ m_ = r.length ∧ Mem w [] X u_ [.own g3 3 n3 c3 (i64s P), .box g21 #[.int .i64 0, .slice none 0 0] 31] [] ∧ (n3 = i ∧ i + r.length ≤ s.length) ∧ (P.length = i) ∧ (r.all isDg' = true) ∧ (Digs 10000 P) ∧ (val 10000 P + 10000 ^ i * ((num r : Nat) : Int) = ((num s : Nat) : Int))) ∨ (m_ = s.length + 1 ∧ a_ = ⟨#[.string (bs s), undef, .pointer (some ⟨g21, 0, none⟩), .slice none 0 0, undef, undef, undef, .string (bs s), .bool true, .bool true, .string (bs s), .int .u8 (((s.getD 0 0).toNat : Nat) : Int), .bool false, .bool false, undef, undef, undef, undef, undef, undef, undef, undef, undef, undef, undef, undef, undef, undef, undef, undef, undef, undef, undef, undef, undef, undef, undef, undef, undef, undef, undef, undef, undef, undef, undef, undef, undef, undef, undef, undef], []⟩ ∧ Mem w [] X u_ [.box g21 #[.int .i64 0, .slice none 0 0] 31] [])) (fun _ hM => ⟨_, .inr ⟨rfl, (by kernel_rfl), hM⟩⟩) ?_
   rintro m_ a_ u_ (⟨i, r, g3, n3, c3, P, j23, rfl, hm23, hM, hin, hP, hr, hD, hV⟩ | ⟨hm23, rfl, hM⟩)
   · skip
     refine CG.go hM ?_
     refine CG.seq fun K_ k2 => ?_
     refine CG.seq fun K_ k3 => ?_
     refine CG.lin 3 ?_
     refine GL.v (.string (bs r)) ?_
     refine GL.v (.int .i64 (r.length : Int)) ?_ (hr := fun u => op_slen (L := r) (by kernel_rfl) (by kernel_rfl) (by (try simp only [List.length_append, List.length_cons, List.length_nil]); omega))
     refine GL.v (.bool (decide ((r.length : Int) > (0 : Int)))) ?_
     refine GL.k k3 ?_
     by_cases hc24 : (r.length : Int) > (0 : Int)
     · have hk24 : (decide ((r.length : Int) > (0 : Int))) = true := decide_eq_true hc24
       refine CG.yes ?_ hk24 rfl
       refine CG.skip ?_
       refine QG.k k2 ?_
       refine CG.block ?_
       refine CG.seq fun K_ k2 => ?_
       refine CG.lin 4 ?_
       refine GL.v (.string (bs r)) ?_
       refine GL.v (.int .i64 (r.length : Int)) ?_ (hr := fun u => op_slen (L := r) (by kernel_rfl) (by kernel_rfl) (by (try simp only [List.length_append, List.length_cons, List.length_nil]); omega))
       refine GL.v (.int .i64 ((r.length : Int) - (4 : Int))) ?_ (hr := fun u => op_to (v := .int .i64 (IntKind.wrap .i64 ((r.length : Int) - (4 : Int)))) (by kernel_rfl) (wrap_i64 rfl (by omega) (by omega)))
       refine GL.v (.int .i64 ((r.length : Int) - (4 : Int))) ?_
       refine GL.k k2 ?_
       refine CG.seq fun K_ k2 => ?_
       refine CG.seq fun K_ k3 => ?_
       refine CG.lin 2 ?_
       refine GL.v (.int .i64 ((r.length : Int) - (4 : Int))) ?_
       refine GL.v (.bool (decide (((r.length : Int) - (4 : Int)) < (0 : Int)))) ?_
       refine GL.k k3 ?_
       refine CG.cut (fun a_ u_ => ∃ (k : Int), a_ = ⟨#[.string (bs r), undef, .pointer (some ⟨g21, 0, none⟩), .slice (some ⟨g3, 0, none⟩) n3 c3, .int .i64 k, (j23 5), (j23 6), .string (bs s), .bool true, .bool true, .string (bs s), .int .u8 (((s.getD 0 0).toNat : Nat) : Int), .bool false, .bool false, undef, undef, undef, undef, .string (bs r), .int .i64 (r.length : Int), .bool (decide ((r.length : Int) > (0 : Int))), .string (bs r), .int .i64 (r.length : Int), .int .i64 ((r.length : Int) - (4 : Int)), .int .i64 ((r.length : Int) - (4 : Int)), .bool (decide (((r.length : Int) - (4 : Int)) < (0 : Int))), (j23 26), (j23 27), (j23 28), (j23 29), (j23 30), (j23 31), (j23 32), (j23 33), (j23 34), (j23 35), (j23 36), (j23 37), (j23 38), (j23 39), (j23 40), (j23 41), (j23 42), (j23 43), (j23 44), (j23 45), (j23 46), (j23 47), undef, undef], []⟩ ∧ Mem w [] X u_ [.own g3 3 n3 c3 (i64s P), .box g21 #[.int .i64 0, .slice none 0 0] 31] [] ∧ (k = ((r.length - 4 : Nat) : Int))) ?_ ?_
       · skip
         by_cases hc30 : ((r.length : Int) - (4 : Int)) < (0 : Int)
         · have hk30 : (decide (((r.length : Int) - (4 : Int)) < (0 : Int))) = true := decide_eq_true hc30
           refine CG.yes ?_ hk30 rfl
           refine CG.lin 1 ?_
           refine GL.v (.int .i64 0) ?_
           refine GL.q ?_
           refine QG.cut fun _ hM => ?_
           exact ⟨0, (by kernel_rfl), hM.clr, (by omega)⟩
         · have hk30 : (decide (((r.length : Int) - (4 : Int)) < (0 : Int))) = false := decide_eq_false hc30
           refine CG.no ?_ hk30 rfl
           refine CG.skip ?_
           refine QG.cut fun _ hM => ?_
           exact ⟨((r.length : Int) - (4 : Int)), (by kernel_rfl), hM.clr, (by omega)⟩
       · skip
         rintro a_ u_ ⟨k, rfl, hM, hk⟩
         refine QG.go hM ?_
         refine QG.k k2 ?_
         refine CG.seq fun K_ k2 => ?_
         refine CG.lin 1 ?_
         refine GL.v (.int .i64 0) ?_
         refine GL.k k2 ?_
         refine CG.seq fun K_ k2 => ?_
         refine CG.seq fun K_ k3 => ?_
         refine CG.lin 2 ?_
         refine GL.v (.int .i64 k) ?_
         refine GL.v (.int .i64 k) ?_
         refine GL.k k3 ?_
         refine CG.block ?_
         refine CG.loop (fun m_ a_ u_ => ∃ (q : Int) (x : Int) (j26 : Nat → Value), a_ = ⟨#[.string (bs r), undef, .pointer (some ⟨g21, 0, none⟩), .slice (some ⟨g3, 0, none⟩) n3 c3, .int .i64 k, .int .i64 x, .int .i64 q, .string (bs s), .bool true, .bool true, .string (bs s), .int .u8 (((s.getD 0 0).toNat : Nat) : Int), .bool false, .bool false, undef, undef, undef, undef, .string (bs r), .int .i64 (r.length : Int), .bool (decide ((r.length : Int) > (0 : Int))), .string (bs r), .int .i64 (r.length : Int), .int .i64 ((r.length : Int) - (4 : Int)), .int .i64 ((r.length : Int) - (4 : Int)), .bool (decide (((r.length : Int) - (4 : Int)) < (0 : Int))), .int .i64 k, (j26 27), (j26 28), (j26 29), (j26 30), (j26 31), (j26 32), (j26 33), (j26 34), (j26 35), (j26 36), (j26 37), (j26 38), (j26 39), (j26 40), (j23 41), (j23 42), (j23 43), (j23 44), (j23 45), (j23 46), (j23 47), undef, undef], []⟩ ∧ m_ = (((r.length : Nat) : Int) - q).toNat ∧ Mem w [] X u_ [.own g3 3 n3 c3 (i64s P), .box g21 #[.int .i64 0, .slice none 0 0] 31] [] ∧ (k ≤ q ∧ q ≤ (r.length : Int)) ∧ (x = ((num ((r.drop k.toNat).take (q - k).toNat) : Nat) : Int))) (fun _ hM => ⟨_, k, 0, (fun t => (#[.string (bs r), undef, .pointer (some ⟨g21, 0, none⟩), .slice (some ⟨g3, 0, none⟩) n3 c3, .int .i64 k, .int .i64 0, .int .i64 k, .string (bs s), .bool true, .bool true, .string (bs s), .int .u8 (((s.getD 0 0).toNat : Nat) : Int), .bool false, .bool false, undef, undef, undef, undef, .string (bs r), .int .i64 (r.length : Int), .bool (decide ((r.length : Int) > (0 : Int))), .string (bs r), .int .i64 (r.length : Int), .int .i64 ((r.length : Int) - (4 : Int)), .int .i64 ((r.length : Int) - (4 : Int)), .bool (decide (((r.length : Int) - (4 : Int)) < (0 : Int))), .int .i64 k, (j23 27), (j23 28), (j23 29), (j23 30), (j23 31), (j23 32), (j23 33), (j23 34), (j23 35), (j23 36), (j23 37), (j23 38), (j23 39), (j23 40), (j23 41), (j23 42), (j23 43), (j23 44), (j23 45), (j23 46), (j23 47), undef, undef] : Array Value).getD t undef), (by kernel_rfl), rfl, hM.clr, (by omega), (by rw [show (k - k).toNat = 0 by omega]; simp [num])⟩) ?_
         rintro m_ a_ u_ ⟨q, x, j26, rfl, hm26, hM, hi, hx⟩
         refine CG.go hM ?_
         refine CG.seq fun K_ k3 => ?_
         refine CG.seq fun K_ k4 => ?_
         refine CG.lin 4 ?_
         refine GL.v (.int .i64 q) ?_
         refine GL.v (.string (bs r)) ?_
         refine GL.v (.int .i64 (r.length : Int)) ?_ (hr := fun u => op_slen (L := r) (by kernel_rfl) (by kernel_rfl) (by (try simp only [List.length_append, List.length_cons, List.length_nil]); omega))
         refine GL.v (.bool (decide (q < (r.length : Int)))) ?_
         refine GL.k k4 ?_
         by_cases hc27 : q < (r.length : Int)
         · have hk27 : (decide (q < (r.length : Int))) = true := decide_eq_true hc27
           refine CG.yes ?_ hk27 rfl
           refine CG.skip ?_
           refine QG.k k3 ?_
           refine CG.seq fun K_ k3 => ?_
           refine CG.block ?_
           refine CG.lin 9 ?_
           have hci := dg_range hr (i := q.toNat) (by omega)
           have hzd := zp_digit (r := r) hr (k := k) (i := q) (by omega) (by omega) (by omega) hx
           refine GL.v (.int .i64 x) ?_
           refine GL.v (.int .i64 ((10 : Int) * x)) ?_ (hr := fun u => op_to (v := .int .i64 (IntKind.wrap .i64 ((10 : Int) * x))) (by kernel_rfl) (wrap_i64 rfl (by omega) (by omega)))
           refine GL.v (.string (bs r)) ?_
           refine GL.v (.int .i64 q) ?_
           refine GL.v (.int .u8 (((r.getD ((q).toNat) 0).toNat : Nat) : Int)) ?_ (hr := fun u => op_sidx (L := r) (k := .i64) (i := q) ((q).toNat) (by kernel_rfl) (by kernel_rfl) (by omega) (by (try simp only [List.length_append, List.length_cons, List.length_nil]); omega) (by kernel_rfl))
           refine GL.v (.int .u8 ((((r.getD ((q).toNat) 0).toNat) - 48 : Nat) : Int)) ?_ (hr := fun u => op_to (v := .int .u8 (IntKind.wrap .u8 ((((r.getD ((q).toNat) 0).toNat : Nat) : Int) - (48 : Int)))) (by kernel_rfl) (wrap_u8 (by omega) (by omega) (by omega)))
           refine GL.v (.int .i64 ((((r.getD ((q).toNat) 0).toNat) - 48 : Nat) : Int)) ?_ (hr := fun u => op_to (v := .int .i64 (IntKind.wrap .i64 ((((r.getD ((q).toNat) 0).toNat) - 48 : Nat) : Int))) (by kernel_rfl) (wrap_i64 rfl (by omega) (by omega)))
           refine GL.v (.int .i64 (((10 : Int) * x) + ((((r.getD ((q).toNat) 0).toNat) - 48 : Nat) : Int))) ?_ (hr := fun u => op_to (v := .int .i64 (IntKind.wrap .i64 (((10 : Int) * x) + ((((r.getD ((q).toNat) 0).toNat) - 48 : Nat) : Int)))) (by kernel_rfl) (wrap_i64 rfl (by omega) (by omega)))
           refine GL.v (.int .i64 (((10 : Int) * x) + ((((r.getD ((q).toNat) 0).toNat) - 48 : Nat) : Int))) ?_
           refine GL.q ?_
           refine QG.block ?_
           refine QG.k k3 ?_
           refine CG.lin 3 ?_
           refine GL.v (.int .i64 q) ?_
           refine GL.v (.int .i64 (q + (1 : Int))) ?_ (hr := fun u => op_to (v := .int .i64 (IntKind.wrap .i64 (q + (1 : Int)))) (by kernel_rfl) (wrap_i64 rfl (by omega) (by omega)))
           refine GL.v (.int .i64 (q + (1 : Int))) ?_
           refine GL.q ?_
           refine QG.again fun _ hM => ?_
           exact ⟨(((r.length : Nat) : Int) - (q + (1 : Int))).toNat, (by omega), (q + (1 : Int)), (((10 : Int) * x) + ((((r.getD ((q).toNat) 0).toNat) - 48 : Nat) : Int)), (fun t => (#[.string (bs r), undef, .pointer (some ⟨g21, 0, none⟩), .slice (some ⟨g3, 0, none⟩) n3 c3, .int .i64 k, .int .i64 (((10 : Int) * x) + ((((r.getD ((q).toNat) 0).toNat) - 48 : Nat) : Int)), .int .i64 (q + (1 : Int)), .string (bs s), .bool true, .bool true, .string (bs s), .int .u8 (((s.getD 0 0).toNat : Nat) : Int), .bool false, .bool false, undef, undef, undef, undef, .string (bs r), .int .i64 (r.length : Int), .bool (decide ((r.length : Int) > (0 : Int))), .string (bs r), .int .i64 (r.length : Int), .int .i64 ((r.length : Int) - (4 : Int)), .int .i64 ((r.length : Int) - (4 : Int)), .bool (decide (((r.length : Int) - (4 : Int)) < (0 : Int))), .int .i64 k, .int .i64 q, .string (bs r), .int .i64 (r.length : Int), .bool (decide (q < (r.length : Int))), .int .i64 q, .int .i64 (q + (1 : Int)), .int .i64 x, .int .i64 ((10 : Int) * x), .string (bs r), .int .i64 q, .int .u8 (((r.getD ((q).toNat) 0).toNat : Nat) : Int), .int .u8 ((((r.getD ((q).toNat) 0).toNat) - 48 : Nat) : Int), .int .i64 ((((r.getD ((q).toNat) 0).toNat) - 48 : Nat) : Int), .int .i64 (((10 : Int) * x) + ((((r.getD ((q).toNat) 0).toNat) - 48 : Nat) : Int)), (j23 41), (j23 42), (j23 43), (j23 44), (j23 45), (j23 46), (j23 47), undef, undef] : Array Value).getD t undef), (by kernel_rfl), rfl, hM.clr, (by omega), hzd.2⟩
         · have hk27 : (decide (q < (r.length : Int))) = false := decide_eq_false hc27
           refine CG.no ?_ hk27 rfl
           refine CG.exit (QG.then_exit (QG.then_exit (QG.here ?_)))
           refine QG.k k2 ?_
           refine CG.seq fun K_ k2 => ?_
           refine CG.lin 5 ?_
           have hgx := zp_group (r := r) (by omega) (by omega) hx
           have hgb := num_part hr k.toNat 4
           rw [List.take_of_length_le (by simp; omega)] at hgb
           refine GL.v (.slice (some ⟨g3, 0, none⟩) n3 c3) ?_
           refine GL.v (.int .i64 x) ?_
           refine GL.row (fun _ => op_build1 rowt29 (v := .int .i64 x) (by kernel_rfl) rfl) (fun _ _ _ hm => own_one_i64 hm) fun g28 => ?_
           refine GL.gr (fun _ _ _ _ => Mem.gr1) (fun _ hM => op_append_i64 (cx := 1) rowt29 (hM.o 1 rfl) (hM.o 0 rfl).row (by kernel_rfl) (by kernel_rfl) (by omega) (by omega)) fun g29 c29 => ?_
           refine GL.v (.slice (some ⟨g29, 0, none⟩) (n3 + 1) c29) ?_
           refine GL.k k2 ?_
           refine CG.lin 4 ?_
           refine GL.v (.string (bs r)) ?_
           refine GL.v (.int .i64 k) ?_
           refine GL.v (.string (bs (r.take ((k).toNat)))) ?_ (hr := fun u => op_sto (L := r) (k := .i64) (i := k) ((k).toNat) (by kernel_rfl) (by kernel_rfl) (by omega) (by (try simp only [List.length_append, List.length_cons, List.length_nil]); omega) (by kernel_rfl))
           refine GL.v (.string (bs (r.take ((k).toNat)))) ?_
           refine GL.q ?_
           refine QG.block ?_
           refine QG.again fun _ hM => ?_
           exact ⟨(r.take ((k).toNat)).length, (by simp only [List.length_take]; omega), .inl ⟨(i + 1), (r.take ((k).toNat)), g29, (n3 + 1), c29, (P ++ [x]), (fun t => (#[.string (bs (r.take ((k).toNat))), undef, .pointer (some ⟨g21, 0, none⟩), .slice (some ⟨g29, 0, none⟩) (n3 + 1) c29, .int .i64 k, .int .i64 x, .int .i64 q, .string (bs s), .bool true, .bool true, .string (bs s), .int .u8 (((s.getD 0 0).toNat : Nat) : Int), .bool false, .bool false, undef, undef, undef, undef, .string (bs r), .int .i64 (r.length : Int), .bool (decide ((r.length : Int) > (0 : Int))), .string (bs r), .int .i64 (r.length : Int), .int .i64 ((r.length : Int) - (4 : Int)), .int .i64 ((r.length : Int) - (4 : Int)), .bool (decide (((r.length : Int) - (4 : Int)) < (0 : Int))), .int .i64 k, .int .i64 q, .string (bs r), .int .i64 (r.length : Int), .bool (decide (q < (r.length : Int))), (j26 31), (j26 32), (j26 33), (j26 34), (j26 35), (j26 36), (j26 37), (j26 38), (j26 39), (j26 40), .slice (some ⟨g3, 0, none⟩) n3 c3, .int .i64 x, .slice (some ⟨g28, 0, none⟩) 1 1, .slice (some ⟨g29, 0, none⟩) (n3 + 1) c29, .string (bs r), .int .i64 k, .string (bs (r.take ((k).toNat))), undef, undef] : Array Value).getD t undef), (by kernel_rfl), rfl, (hM.dropn 1).clr, ⟨by omega, by simp only [List.length_take]; omega⟩, (by simp [hP]), (all_take hr _), (hD.snoc (by omega) (by omega)), (zp_step hP hk hgx hV)⟩⟩
     · have hk24 : (decide ((r.length : Int) > (0 : Int))) = false := decide_eq_false hc24
       refine CG.no ?_ hk24 rfl
       refine CG.exit (QG.then_exit (QG.then_exit (QG.here ?_)))
       refine QG.k k1 ?_
       refine CG.seq fun K_ k1 => ?_
       refine CG.lin 3 ?_
       refine GL.v (.slice (some ⟨g3, 0, none⟩) n3 c3) ?_
       refine GL.mem (fun _ hM => hM.pu0 fun hO _ hX => SIk.own hO hX) ?_
       refine GL.call (fun _ hM => nmade_ok hM.avlt (1) (x := num s) (hM.f 0 rfl) (zp_done (by omega) hV) (fun y hy => by have := hD y hy; omega) (.inl rfl) (by first | assumption | omega)) ?_
       rintro _ _ _ hM ⟨s31, A31, n31, c31, rfl, h31, hb⟩
       refine ⟨_, _, _, rfl, (hM.call hb).add h31, ?_⟩
       refine GL.sA (cs' := #[.int .i64 s31, .slice A31 n31 c31]) (fun _ _ => Mem.st0) (fun _ hM => hM.b 0 rfl) siz31 ?_
       refine GL.k k1 ?_
       refine CG.ret (QG.ret (fun _ hM => results_one rfl (res_cell rfl (loadVar_agg agg31 siz31 (hM.b 0 rfl) rfl rfl))) ?_)
       intro _ hM
       exact ⟨_, _, _, _, rfl, ((show (1 : Int) * ((num s : Nat) : Int) = ((num s : Nat) : Int) from Int.one_mul _) ▸ (hM.out (hM.f 0 rfl))), hM.below⟩
   · skip
     refine CG.go hM ?_
     refine CG.seq fun K_ k2 => ?_
     refine CG.seq fun K_ k3 => ?_
     refine CG.lin 3 ?_
     refine GL.v (.string (bs s)) ?_
     refine GL.v (.int .i64 (s.length : Int)) ?_ (hr := fun u => op_slen (L := s) (by kernel_rfl) (by kernel_rfl) (by (try simp only [List.length_append, List.length_cons, List.length_nil]); omega))
     refine GL.v (.bool (decide ((s.length : Int) > (0 : Int)))) ?_
     refine GL.k k3 ?_
     by_cases hc32 : (s.length : Int) > (0 : Int)
     · have hk32 : (decide ((s.length : Int) > (0 : Int))) = true := decide_eq_true hc32
       refine CG.yes ?_ hk32 rfl
       refine CG.skip ?_
       refine QG.k k2 ?_
       refine CG.block ?_
       refine CG.seq fun K_ k2 => ?_
       refine CG.lin 4 ?_
       refine GL.v (.string (bs s)) ?_
       refine GL.v (.int .i64 (s.length : Int)) ?_ (hr := fun u => op_slen (L := s) (by kernel_rfl) (by kernel_rfl) (by (try simp only [List.length_append, List.length_cons, List.length_nil]); omega))
       refine GL.v (.int .i64 ((s.length : Int) - (4 : Int))) ?_ (hr := fun u => op_to (v := .int .i64 (IntKind.wrap .i64 ((s.length : Int) - (4 : Int)))) (by kernel_rfl) (wrap_i64 rfl (by omega) (by omega)))
       refine GL.v (.int .i64 ((s.length : Int) - (4 : Int))) ?_
       refine GL.k k2 ?_
       refine CG.seq fun K_ k2 => ?_
       refine CG.seq fun K_ k3 => ?_
       refine CG.lin 2 ?_
       refine GL.v (.int .i64 ((s.length : Int) - (4 : Int))) ?_
       refine GL.v (.bool (decide (((s.length : Int) - (4 : Int)) < (0 : Int)))) ?_
       refine GL.k k3 ?_
       refine CG.cut (fun a_ u_ => ∃ (k : Int), a_ = ⟨#[.string (bs s), undef, .pointer (some ⟨g21, 0, none⟩), .slice none 0 0, .int .i64 k, undef, undef, .string (bs s), .bool true, .bool true, .string (bs s), .int .u8 (((s.getD 0 0).toNat : Nat) : Int), .bool false, .bool false, undef, undef, undef, undef, .string (bs s), .int .i64 (s.length : Int), .bool (decide ((s.length : Int) > (0 : Int))), .string (bs s), .int .i64 (s.length : Int), .int .i64 ((s.length : Int) - (4 : Int)), .int .i64 ((s.length : Int) - (4 : Int)), .bool (decide (((s.length : Int) - (4 : Int)) < (0 : Int))), undef, undef, undef, undef, undef, undef, undef, undef, undef, undef, undef, undef, undef, undef, undef, undef, undef, undef, undef, undef, undef, undef, undef, undef], []⟩ ∧ Mem w [] X u_ [.box g21 #[.int .i64 0, .slice none 0 0] 31] [] ∧ (k = ((s.length - 4 : Nat) : Int))) ?_ ?_
       · skip
         by_cases hc38 : ((s.length : Int) - (4 : Int)) < (0 : Int)
         · have hk38 : (decide (((s.length : Int) - (4 : Int)) < (0 : Int))) = true := decide_eq_true hc38
           refine CG.yes ?_ hk38 rfl
           refine CG.lin 1 ?_
           refine GL.v (.int .i64 0) ?_
           refine GL.q ?_
           refine QG.cut fun _ hM => ?_
           exact ⟨0, (by kernel_rfl), hM.clr, (by omega)⟩
         · have hk38 : (decide (((s.length : Int) - (4 : Int)) < (0 : Int))) = false := decide_eq_false hc38
           refine CG.no ?_ hk38 rfl
           refine CG.skip ?_
           refine QG.cut fun _ hM => ?_
           exact ⟨((s.length : Int) - (4 : Int)), (by kernel_rfl), hM.clr, (by omega)⟩
       · skip
         rintro a_ u_ ⟨k, rfl, hM, hk⟩
         refine QG.go hM ?_
         refine QG.k k2 ?_
         refine CG.seq fun K_ k2 => ?_
         refine CG.lin 1 ?_
         refine GL.v (.int .i64 0) ?_
         refine GL.k k2 ?_
         refine CG.seq fun K_ k2 => ?_
         refine CG.seq fun K_ k3 => ?_
         refine CG.lin 2 ?_
         refine GL.v (.int .i64 k) ?_
         refine GL.v (.int .i64 k) ?_
         refine GL.k k3 ?_
         refine CG.block ?_
         refine CG.loop (fun m_ a_ u_ => ∃ (q : Int) (x : Int) (j34 : Nat → Value), a_ = ⟨#[.string (bs s), undef, .pointer (some ⟨g21, 0, none⟩), .slice none 0 0, .int .i64 k, .int .i64 x, .int .i64 q, .string (bs s), .bool true, .bool true, .string (bs s), .int .u8 (((s.getD 0 0).toNat : Nat) : Int), .bool false, .bool false, undef, undef, undef, undef, .string (bs s), .int .i64 (s.length : Int), .bool (decide ((s.length : Int) > (0 : Int))), .string (bs s), .int .i64 (s.length : Int), .int .i64 ((s.length : Int) - (4 : Int)), .int .i64 ((s.length : Int) - (4 : Int)), .bool (decide (((s.length : Int) - (4 : Int)) < (0 : Int))), .int .i64 k, (j34 27), (j34 28), (j34 29), (j34 30), (j34 31), (j34 32), (j34 33), (j34 34), (j34 35), (j34 36), (j34 37), (j34 38), (j34 39), (j34 40), undef, undef, undef, undef, undef, undef, undef, undef, undef], []⟩ ∧ m_ = (((s.length : Nat) : Int) - q).toNat ∧ Mem w [] X u_ [.box g21 #[.int .i64 0, .slice none 0 0] 31] [] ∧ (k ≤ q ∧ q ≤ (s.length : Int)) ∧ (x = ((num ((s.drop k.toNat).take (q - k).toNat) : Nat) : Int))) (fun _ hM => ⟨_, k, 0, (fun t => (#[.string (bs s), undef, .pointer (some ⟨g21, 0, none⟩), .slice none 0 0, .int .i64 k, .int .i64 0, .int .i64 k, .string (bs s), .bool true, .bool true, .string (bs s), .int .u8 (((s.getD 0 0).toNat : Nat) : Int), .bool false, .bool false, undef, undef, undef, undef, .string (bs s), .int .i64 (s.length : Int), .bool (decide ((s.length : Int) > (0 : Int))), .string (bs s), .int .i64 (s.length : Int), .int .i64 ((s.length : Int) - (4 : Int)), .int .i64 ((s.length : Int) - (4 : Int)), .bool (decide (((s.length : Int) - (4 : Int)) < (0 : Int))), .int .i64 k, undef, undef, undef, undef, undef, undef, undef, undef, undef, undef, undef, undef, undef, undef, undef, undef, undef, undef, undef, undef, undef, undef, undef] : Array Value).getD t undef), (by kernel_rfl), rfl, hM.clr, (by omega), (by rw [show (k - k).toNat = 0 by omega]; simp [num])⟩) ?_
         rintro m_ a_ u_ ⟨q, x, j34, rfl, hm34, hM, hi, hx⟩
         refine CG.go hM ?_
         refine CG.seq fun K_ k3 => ?_
         refine CG.seq fun K_ k4 => ?_
         refine CG.lin 4 ?_
         refine GL.v (.int .i64 q) ?_
         refine GL.v (.string (bs s)) ?_
         refine GL.v (.int .i64 (s.length : Int)) ?_ (hr := fun u => op_slen (L := s) (by kernel_rfl) (by kernel_rfl) (by (try simp only [List.length_append, List.length_cons, List.length_nil]); omega))
         refine GL.v (.bool (decide (q < (s.length : Int)))) ?_
         refine GL.k k4 ?_
         by_cases hc35 : q < (s.length : Int)
         · have hk35 : (decide (q < (s.length : Int))) = true := decide_eq_true hc35
           refine CG.yes ?_ hk35 rfl
           refine CG.skip ?_
           refine QG.k k3 ?_
           refine CG.seq fun K_ k3 => ?_
           refine CG.block ?_
           refine CG.lin 9 ?_
           have hci := dg_range p1 (i := q.toNat) (by omega)
           have hzd := zp_digit (r := s) p1 (k := k) (i := q) (by omega) (by omega) (by omega) hx
           refine GL.v (.int .i64 x) ?_
           refine GL.v (.int .i64 ((10 : Int) * x)) ?_ (hr := fun u => op_to (v := .int .i64 (IntKind.wrap .i64 ((10 : Int) * x))) (by kernel_rfl) (wrap_i64 rfl (by omega) (by omega)))
           refine GL.v (.string (bs s)) ?_
           refine GL.v (.int .i64 q) ?_
           refine GL.v (.int .u8 (((s.getD ((q).toNat) 0).toNat : Nat) : Int)) ?_ (hr := fun u => op_sidx (L := s) (k := .i64) (i := q) ((q).toNat) (by kernel_rfl) (by kernel_rfl) (by omega) (by (try simp only [List.length_append, List.length_cons, List.length_nil]); omega) (by kernel_rfl))
           refine GL.v (.int .u8 ((((s.getD ((q).toNat) 0).toNat) - 48 : Nat) : Int)) ?_ (hr := fun u => op_to (v := .int .u8 (IntKind.wrap .u8 ((((s.getD ((q).toNat) 0).toNat : Nat) : Int) - (48 : Int)))) (by kernel_rfl) (wrap_u8 (by omega) (by omega) (by omega)))
           refine GL.v (.int .i64 ((((s.getD ((q).toNat) 0).toNat) - 48 : Nat) : Int)) ?_ (hr := fun u => op_to (v := .int .i64 (IntKind.wrap .i64 ((((s.getD ((q).toNat) 0).toNat) - 48 : Nat) : Int))) (by kernel_rfl) (wrap_i64 rfl (by omega) (by omega)))
           refine GL.v (.int .i64 (((10 : Int) * x) + ((((s.getD ((q).toNat) 0).toNat) - 48 : Nat) : Int))) ?_ (hr := fun u => op_to (v := .int .i64 (IntKind.wrap .i64 (((10 : Int) * x) + ((((s.getD ((q).toNat) 0).toNat) - 48 : Nat) : Int)))) (by kernel_rfl) (wrap_i64 rfl (by omega) (by omega)))
           refine GL.v (.int .i64 (((10 : Int) * x) + ((((s.getD ((q).toNat) 0).toNat) - 48 : Nat) : Int))) ?_
           refine GL.q ?_
           refine QG.block ?_
           refine QG.k k3 ?_
           refine CG.lin 3 ?_
           refine GL.v (.int .i64 q) ?_
           refine GL.v (.int .i64 (q + (1 : Int))) ?_ (hr := fun u => op_to (v := .int .i64 (IntKind.wrap .i64 (q + (1 : Int)))) (by kernel_rfl) (wrap_i64 rfl (by omega) (by omega)))
           refine GL.v (.int .i64 (q + (1 : Int))) ?_
           refine GL.q ?_
           refine QG.again fun _ hM => ?_
           exact ⟨(((s.length : Nat) : Int) - (q + (1 : Int))).toNat, (by omega), (q + (1 : Int)), (((10 : Int) * x) + ((((s.getD ((q).toNat) 0).toNat) - 48 : Nat) : Int)), (fun t => (#[.string (bs s), undef, .pointer (some ⟨g21, 0, none⟩), .slice none 0 0, .int .i64 k, .int .i64 (((10 : Int) * x) + ((((s.getD ((q).toNat) 0).toNat) - 48 : Nat) : Int)), .int .i64 (q + (1 : Int)), .string (bs s), .bool true, .bool true, .string (bs s), .int .u8 (((s.getD 0 0).toNat : Nat) : Int), .bool false, .bool false, undef, undef, undef, undef, .string (bs s), .int .i64 (s.length : Int), .bool (decide ((s.length : Int) > (0 : Int))), .string (bs s), .int .i64 (s.length : Int), .int .i64 ((s.length : Int) - (4 : Int)), .int .i64 ((s.length : Int) - (4 : Int)), .bool (decide (((s.length : Int) - (4 : Int)) < (0 : Int))), .int .i64 k, .int .i64 q, .string (bs s), .int .i64 (s.length : Int), .bool (decide (q < (s.length : Int))), .int .i64 q, .int .i64 (q + (1 : Int)), .int .i64 x, .int .i64 ((10 : Int) * x), .string (bs s), .int .i64 q, .int .u8 (((s.getD ((q).toNat) 0).toNat : Nat) : Int), .int .u8 ((((s.getD ((q).toNat) 0).toNat) - 48 : Nat) : Int), .int .i64 ((((s.getD ((q).toNat) 0).toNat) - 48 : Nat) : Int), .int .i64 (((10 : Int) * x) + ((((s.getD ((q).toNat) 0).toNat) - 48 : Nat) : Int)), undef, undef, undef, undef, undef, undef, undef, undef, undef] : Array Value).getD t undef), (by kernel_rfl), rfl, hM.clr, (by omega), hzd.2⟩
         · have hk35 : (decide (q < (s.length : Int))) = false := decide_eq_false hc35
           refine CG.no ?_ hk35 rfl
           refine CG.exit (QG.then_exit (QG.then_exit (QG.here ?_)))
           refine QG.k k2 ?_
           refine CG.seq fun K_ k2 => ?_
           refine CG.lin 5 ?_
           have hgx := zp_group (r := s) (by omega) (by omega) hx
           have hgb := num_part p1 k.toNat 4
           rw [List.take_of_length_le (by simp; omega)] at hgb
           refine GL.v (.slice none 0 0) ?_
           refine GL.v (.int .i64 x) ?_
           refine GL.row (fun _ => op_build1 rowt29 (v := .int .i64 x) (by kernel_rfl) rfl) (fun _ _ _ hm => own_one_i64 hm) fun g36 => ?_
           refine GL.gn (fun _ hM => op_appnil_i64 (cx := 1) rowt29 (hM.o 0 rfl).row (by kernel_rfl) (by kernel_rfl) (by omega) (by omega) (by omega)) fun g37 c37 => ?_
           refine GL.v (.slice (some ⟨g37, 0, none⟩) 1 c37) ?_
           refine GL.k k2 ?_
           refine CG.lin 4 ?_
           refine GL.v (.string (bs s)) ?_
           refine GL.v (.int .i64 k) ?_
           refine GL.v (.string (bs (s.take ((k).toNat)))) ?_ (hr := fun u => op_sto (L := s) (k := .i64) (i := k) ((k).toNat) (by kernel_rfl) (by kernel_rfl) (by omega) (by (try simp only [List.length_append, List.length_cons, List.length_nil]); omega) (by kernel_rfl))
           refine GL.v (.string (bs (s.take ((k).toNat)))) ?_
           refine GL.q ?_
           refine QG.block ?_
           refine QG.again fun _ hM => ?_
           replace hM := hM.swap0
           exact ⟨(s.take ((k).toNat)).length, (by simp only [List.length_take]; omega), .inl ⟨1, (s.take ((k).toNat)), g37, 1, c37, [x], (fun t => (#[.string (bs (s.take ((k).toNat))), undef, .pointer (some ⟨g21, 0, none⟩), .slice (some ⟨g37, 0, none⟩) 1 c37, .int .i64 k, .int .i64 x, .int .i64 q, .string (bs s), .bool true, .bool true, .string (bs s), .int .u8 (((s.getD 0 0).toNat : Nat) : Int), .bool false, .bool false, undef, undef, undef, undef, .string (bs s), .int .i64 (s.length : Int), .bool (decide ((s.length : Int) > (0 : Int))), .string (bs s), .int .i64 (s.length : Int), .int .i64 ((s.length : Int) - (4 : Int)), .int .i64 ((s.length : Int) - (4 : Int)), .bool (decide (((s.length : Int) - (4 : Int)) < (0 : Int))), .int .i64 k, .int .i64 q, .string (bs s), .int .i64 (s.length : Int), .bool (decide (q < (s.length : Int))), (j34 31), (j34 32), (j34 33), (j34 34), (j34 35), (j34 36), (j34 37), (j34 38), (j34 39), (j34 40), .slice none 0 0, .int .i64 x, .slice (some ⟨g36, 0, none⟩) 1 1, .slice (some ⟨g37, 0, none⟩) 1 c37, .string (bs s), .int .i64 k, .string (bs (s.take ((k).toNat))), undef, undef] : Array Value).getD t undef), (by kernel_rfl), rfl, (hM.dropn 1).clr, ⟨rfl, by simp only [List.length_take]; omega⟩, rfl, (all_take p1 _), ((Digs.nil _).snoc (by omega) (by omega)), (zp_step (P := []) (i := 0) rfl hk hgx (by simp))⟩⟩
     · have hk32 : (decide ((s.length : Int) > (0 : Int))) = false := decide_eq_false hc32
       refine CG.no ?_ hk32 rfl
       refine CG.exit (QG.then_exit (QG.then_exit (QG.here ?_)))
       refine QG.k k1 ?_
       refine CG.seq fun K_ k1 => ?_
       refine CG.lin 3 ?_
       refine GL.v (.slice none 0 0) ?_
       refine GL.call (fun _ hM => nmade_ok hM.avlt (1) (x := num s) (SIk.nil _ _ none 0) (by rw [show s = [] from List.length_eq_zero_iff.1 (by omega)]; rfl) (fun y hy => by simp at hy) (.inl rfl) (by first | assumption | omega)) ?_
       rintro _ _ _ hM ⟨s39, A39, n39, c39, rfl, h39, hb⟩
       refine ⟨_, _, _, rfl, (hM.call hb).add h39, ?_⟩
       refine GL.sA (cs' := #[.int .i64 s39, .slice A39 n39 c39]) (fun _ _ => Mem.st0) (fun _ hM => hM.b 0 rfl) siz31 ?_
       refine GL.k k1 ?_
       refine CG.ret (QG.ret (fun _ hM => results_one rfl (res_cell rfl (loadVar_agg agg31 siz31 (hM.b 0 rfl) rfl rfl))) ?_)
       intro _ hM
       exact ⟨_, _, _, _, rfl, ((show (1 : Int) * ((num s : Nat) : Int) = ((num s : Nat) : Int) from Int.one_mul _) ▸ (hM.out (hM.f 0 rfl))), hM.below⟩
 · have hk22 : (!(decide (s = []))) = false := by simpa using hc22
   refine CG.lin 7 ?_
   refine GL.v (.string (bs s)) ?_
   refine GL.v (.bool false) ?_ (hr := fun u => op_b (b := (!(decide (s = [])))) ((fun u => op_sne (L := s) (K := []) (by kernel_rfl) (by kernel_rfl)) u) hk22)
   refine GL.v (.bool false) ?_
   refine GL.sk ?_
   refine GL.sk ?_
   refine GL.sk ?_
   refine GL.v (.bool false) ?_
   refine GL.k k2 ?_
   refine CG.no ?_ rfl rfl
   refine CG.skip ?_
   refine QG.k k1 ?_
   refine CG.seq fun K_ k1 => ?_
   refine CG.lin 1 ?_
   refine GL.v (.slice none 0 0) ?_
   refine GL.k k1 ?_
   refine CG.seq fun K_ k1 => ?_
   refine CG.block ?_
   refine CG.loop (fun m_ a_ u_ => (∃ (i : Nat) (r : List UInt8) (g3 : Nat) (n3 : Nat) (c3 : Nat) (P : List Int) (j40 : Nat → Value), a_ = ⟨#[.string (bs r), undef, .pointer (some ⟨g21, 0, none⟩), .slice (some ⟨g3, 0, none⟩) n3 c3, (j40 4), (j40 5), (j40 6), .string (bs s), .bool false, .bool false, undef, undef, undef, .bool false, undef, undef, undef, undef, (j40 18), (j40 19), (j40 20), (j40 21), (j40 22), (j40 23), (j40 24), (j40 25), (j40 26), (j40 27), (j40 28), (j40 29), (j40 30), (j40 31), (j40 32), (j40 33), (j40 34), (j40 35), (j40 36), (j40 37), (j40 38), (j40 39), (j40 40), (j40 41), (j40 42), (j40 43), (j40 44), (j40 45), (j40 46), (j40 47), undef, undef], []⟩ ∧ m_ = r.length ∧ Mem w [] X u_ [.own g3 3 n3 c3 (i64s P), .box g21 #[.int .i64 0, .slice none 0 0] 31] [] ∧ (n3 = i ∧ i + r.length ≤ s.length) ∧ (P.length = i) ∧ (r.all isDg' = true) ∧ (Digs 10000 P) ∧ (val 10000 P + 10000 ^ i * ((num r : Nat) : Int) = ((num s : Nat) : Int))) ∨ (m_ = s.length + 1 ∧ a_ = ⟨#[.string (bs s), undef, .pointer (some ⟨g21, 0, none⟩), .slice none 0 0, undef, undef, undef, .string (bs s), .bool false, .bool false, undef, undef, undef, .bool false, undef, undef, undef, undef, undef, undef, undef, undef, undef, undef, undef, undef, undef, undef, undef, undef, undef, undef, undef, undef, undef, undef, undef, undef, undef, undef, undef, undef, undef, undef, undef, undef, undef, undef, undef, undef], []⟩ ∧ Mem w [] X u_ [.box g21 #[.int .i64 0, .slice none 0 0] 31] [])) (fun _ hM => ⟨_, .inr ⟨rfl, (by kernel_rfl), hM⟩⟩) ?_
   rintro m_ a_ u_ (⟨i, r, g3, n3, c3, P, j40, rfl, hm40, hM, hin, hP, hr, hD, hV⟩ | ⟨hm40, rfl, hM⟩)
   · skip
     refine CG.go hM ?_
     refine CG.seq fun K_ k2 => ?_
     refine CG.seq fun K_ k3 => ?_
     refine CG.lin 3 ?_
     refine GL.v (.string (bs r)) ?_
     refine GL.v (.int .i64 (r.length : Int)) ?_ (hr := fun u => op_slen (L := r) (by kernel_rfl) (by kernel_rfl) (by (try simp only [List.length_append, List.length_cons, List.length_nil]); omega))
     refine GL.v (.bool (decide ((r.length : Int) > (0 : Int)))) ?_
     refine GL.k k3 ?_
     by_cases hc41 : (r.length : Int) > (0 : Int)
     · have hk41 : (decide ((r.length : Int) > (0 : Int))) = true := decide_eq_true hc41
       refine CG.yes ?_ hk41 rfl
       refine CG.skip ?_
       refine QG.k k2 ?_
       refine CG.block ?_
       refine CG.seq fun K_ k2 => ?_
       refine CG.lin 4 ?_
       refine GL.v (.string (bs r)) ?_
       refine GL.v (.int .i64 (r.length : Int)) ?_ (hr := fun u => op_slen (L := r) (by kernel_rfl) (by kernel_rfl) (by (try simp only [List.length_append, List.length_cons, List.length_nil]); omega))
       refine GL.v (.int .i64 ((r.length : Int) - (4 : Int))) ?_ (hr := fun u => op_to (v := .int .i64 (IntKind.wrap .i64 ((r.length : Int) - (4 : Int)))) (by kernel_rfl) (wrap_i64 rfl (by omega) (by omega)))
       refine GL.v (.int .i64 ((r.length : Int) - (4 : Int))) ?_
       refine GL.k k2 ?_
       refine CG.seq fun K_ k2 => ?_
       refine CG.seq fun K_ k3 => ?_
       refine CG.lin 2 ?_
       refine GL.v (.int .i64 ((r.length : Int) - (4 : Int))) ?_
       refine GL.v (.bool (decide (((r.length : Int) - (4 : Int)) < (0 : Int)))) ?_
       refine GL.k k3 ?_
       refine CG.cut (fun a_ u_ => ∃ (k : Int), a_ = ⟨#[.string (bs r), undef, .pointer (some ⟨g21, 0, none⟩), .slice (some ⟨g3, 0, none⟩) n3 c3, .int .i64 k, (j40 5), (j40 6), .string (bs s), .bool false, .bool false, undef, undef, undef, .bool false, undef, undef, undef, undef, .string (bs r), .int .i64 (r.length : Int), .bool (decide ((r.length : Int) > (0 : Int))), .string (bs r), .int .i64 (r.length : Int), .int .i64 ((r.length : Int) - (4 : Int)), .int .i64 ((r.length : Int) - (4 : Int)), .bool (decide (((r.length : Int) - (4 : Int)) < (0 : Int))), (j40 26), (j40 27), (j40 28), (j40 29), (j40 30), (j40 31), (j40 32), (j40 33), (j40 34), (j40 35), (j40 36), (j40 37), (j40 38), (j40 39), (j40 40), (j40 41), (j40 42), (j40 43), (j40 44), (j40 45), (j40 46), (j40 47), undef, undef], []⟩ ∧ Mem w [] X u_ [.own g3 3 n3 c3 (i64s P), .box g21 #[.int .i64 0, .slice none 0 0] 31] [] ∧ (k = ((r.length - 4 : Nat) : Int))) ?_ ?_
       · skip
         by_cases hc47 : ((r.length : Int) - (4 : Int)) < (0 : Int)
         · have hk47 : (decide (((r.length : Int) - (4 : Int)) < (0 : Int))) = true := decide_eq_true hc47
           refine CG.yes ?_ hk47 rfl
           refine CG.lin 1 ?_
           refine GL.v (.int .i64 0) ?_
           refine GL.q ?_
           refine QG.cut fun _ hM => ?_
           exact ⟨0, (by kernel_rfl), hM.clr, (by omega)⟩
         · have hk47 : (decide (((r.length : Int) - (4 : Int)) < (0 : Int))) = false := decide_eq_false hc47
           refine CG.no ?_ hk47 rfl
           refine CG.skip ?_
           refine QG.cut fun _ hM => ?_
           exact ⟨((r.length : Int) - (4 : Int)), (by kernel_rfl), hM.clr, (by omega)⟩
       · skip
         rintro a_ u_ ⟨k, rfl, hM, hk⟩
         refine QG.go hM ?_
         refine QG.k k2 ?_
         refine CG.seq fun K_ k2 => ?_
         refine CG.lin 1 ?_
         refine GL.v (.int .i64 0) ?_
         refine GL.k k2 ?_
         refine CG.seq fun K_ k2 => ?_
         refine CG.seq fun K_ k3 => ?_
         refine CG.lin 2 ?_
         refine GL.v (.int .i64 k) ?_
         refine GL.v (.int .i64 k) ?_
         refine GL.k k3 ?_
         refine CG.block ?_
         refine CG.loop (fun m_ a_ u_ => ∃ (q : Int) (x : Int) (j43 : Nat → Value), a_ = ⟨#[.string (bs r), undef, .pointer (some ⟨g21, 0, none⟩), .slice (some ⟨g3, 0, none⟩) n3 c3, .int .i64 k, .int .i64 x, .int .i64 q, .string (bs s), .bool false, .bool false, undef, undef, undef, .bool false, undef, undef, undef, undef, .string (bs r), .int .i64 (r.length : Int), .bool (decide ((r.length : Int) > (0 : Int))), .string (bs r), .int .i64 (r.length : Int), .int .i64 ((r.length : Int) - (4 : Int)), .int .i64 ((r.length : Int) - (4 : Int)), .bool (decide (((r.length : Int) - (4 : Int)) < (0 : Int))), .int .i64 k, (j43 27), (j43 28), (j43 29), (j43 30), (j43 31), (j43 32), (j43 33), (j43 34), (j43 35), (j43 36), (j43 37), (j43 38), (j43 39), (j43 40), (j40 41), (j40 42), (j40 43), (j40 44), (j40 45), (j40 46), (j40 47), undef, undef], []⟩ ∧ m_ = (((r.length : Nat) : Int) - q).toNat ∧ Mem w [] X u_ [.own g3 3 n3 c3 (i64s P), .box g21 #[.int .i64 0, .slice none 0 0] 31] [] ∧ (k ≤ q ∧ q ≤ (r.length : Int)) ∧ (x = ((num ((r.drop k.toNat).take (q - k).toNat) : Nat) : Int))) (fun _ hM => ⟨_, k, 0, (fun t => (#[.string (bs r), undef, .pointer (some ⟨g21, 0, none⟩), .slice (some ⟨g3, 0, none⟩) n3 c3, .int .i64 k, .int .i64 0, .int .i64 k, .string (bs s), .bool false, .bool false, undef, undef, undef, .bool false, undef, undef, undef, undef, .string (bs r), .int .i64 (r.length : Int), .bool (decide ((r.length : Int) > (0 : Int))), .string (bs r), .int .i64 (r.length : Int), .int .i64 ((r.length : Int) - (4 : Int)), .int .i64 ((r.length : Int) - (4 : Int)), .bool (decide (((r.length : Int) - (4 : Int)) < (0 : Int))), .int .i64 k, (j40 27), (j40 28), (j40 29), (j40 30), (j40 31), (j40 32), (j40 33), (j40 34), (j40 35), (j40 36), (j40 37), (j40 38), (j40 39), (j40 40), (j40 41), (j40 42), (j40 43), (j40 44), (j40 45), (j40 46), (j40 47), undef, undef] : Array Value).getD t undef), (by kernel_rfl), rfl, hM.clr, (by omega), (by rw [show (k - k).toNat = 0 by omega]; simp [num])⟩) ?_
         rintro m_ a_ u_ ⟨q, x, j43, rfl, hm43, hM, hi, hx⟩
         refine CG.go hM ?_
         refine CG.seq fun K_ k3 => ?_
         refine CG.seq fun K_ k4 => ?_
         refine CG.lin 4 ?_
         refine GL.v (.int .i64 q) ?_
         refine GL.v (.string (bs r)) ?_
         refine GL.v (.int .i64 (r.length : Int)) ?_ (hr := fun u => op_slen (L := r) (by kernel_rfl) (by kernel_rfl) (by (try simp only [List.length_append, List.length_cons, List.length_nil]); omega))
         refine GL.v (.bool (decide (q < (r.length : Int)))) ?_
         refine GL.k k4 ?_
         by_cases hc44 : q < (r.length : Int)
         · have hk44 : (decide (q < (r.length : Int))) = true := decide_eq_true hc44
           refine CG.yes ?_ hk44 rfl
           refine CG.skip ?_
           refine QG.k k3 ?_
           refine CG.seq fun K_ k3 => ?_
           refine CG.block ?_
           refine CG.lin 9 ?_
           have hci := dg_range hr (i := q.toNat) (by omega)
           have hzd := zp_digit (r := r) hr (k := k) (i := q) (by omega) (by omega) (by omega) hx
           refine GL.v (.int .i64 x) ?_
           refine GL.v (.int .i64 ((10 : Int) * x)) ?_ (hr := fun u => op_to (v := .int .i64 (IntKind.wrap .i64 ((10 : Int) * x))) (by kernel_rfl) (wrap_i64 rfl (by omega) (by omega)))
           refine GL.v (.string (bs r)) ?_
           refine GL.v (.int .i64 q) ?_
           refine GL.v (.int .u8 (((r.getD ((q).toNat) 0).toNat : Nat) : Int)) ?_ (hr := fun u => op_sidx (L := r) (k := .i64) (i := q) ((q).toNat) (by kernel_rfl) (by kernel_rfl) (by omega) (by (try simp only [List.length_append, List.length_cons, List.length_nil]); omega) (by kernel_rfl))
           refine GL.v (.int .u8 ((((r.getD ((q).toNat) 0).toNat) - 48 : Nat) : Int)) ?_ (hr := fun u => op_to (v := .int .u8 (IntKind.wrap .u8 ((((r.getD ((q).toNat) 0).toNat : Nat) : Int) - (48 : Int)))) (by kernel_rfl) (wrap_u8 (by omega) (by omega) (by omega)))
           refine GL.v (.int .i64 ((((r.getD ((q).toNat) 0).toNat) - 48 : Nat) : Int)) ?_ (hr := fun u => op_to (v := .int .i64 (IntKind.wrap .i64 ((((r.getD ((q).toNat) 0).toNat) - 48 : Nat) : Int))) (by kernel_rfl) (wrap_i64 rfl (by omega) (by omega)))
           refine GL.v (.int .i64 (((10 : Int) * x) + ((((r.getD ((q).toNat) 0).toNat) - 48 : Nat) : Int))) ?_ (hr := fun u => op_to (v := .int .i64 (IntKind.wrap .i64 (((10 : Int) * x) + ((((r.getD ((q).toNat) 0).toNat) - 48 : Nat) : Int)))) (by kernel_rfl) (wrap_i64 rfl (by omega) (by omega)))
           refine GL.v (.int .i64 (((10 : Int) * x) + ((((r.getD ((q).toNat) 0).toNat) - 48 : Nat) : Int))) ?_
           refine GL.q ?_
           refine QG.block ?_
           refine QG.k k3 ?_
           refine CG.lin 3 ?_
           refine GL.v (.int .i64 q) ?_
           refine GL.v (.int .i64 (q + (1 : Int))) ?_ (hr := fun u => op_to (v := .int .i64 (IntKind.wrap .i64 (q + (1 : Int)))) (by kernel_rfl) (wrap_i64 rfl (by omega) (by omega)))
           refine GL.v (.int .i64 (q + (1 : Int))) ?_
           refine GL.q ?_
           refine QG.again fun _ hM => ?_
           exact ⟨(((r.length : Nat) : Int) - (q + (1 : Int))).toNat, (by omega), (q + (1 : Int)), (((10 : Int) * x) + ((((r.getD ((q).toNat) 0).toNat) - 48 : Nat) : Int)), (fun t => (#[.string (bs r), undef, .pointer (some ⟨g21, 0, none⟩), .slice (some ⟨g3, 0, none⟩) n3 c3, .int .i64 k, .int .i64 (((10 : Int) * x) + ((((r.getD ((q).toNat) 0).toNat) - 48 : Nat) : Int)), .int .i64 (q + (1 : Int)), .string (bs s), .bool false, .bool false, undef, undef, undef, .bool false, undef, undef, undef, undef, .string (bs r), .int .i64 (r.length : Int), .bool (decide ((r.length : Int) > (0 : Int))), .string (bs r), .int .i64 (r.length : Int), .int .i64 ((r.length : Int) - (4 : Int)), .int .i64 ((r.length : Int) - (4 : Int)), .bool (decide (((r.length : Int) - (4 : Int)) < (0 : Int))), .int .i64 k, .int .i64 q, .string (bs r), .int .i64 (r.length : Int), .bool (decide (q < (r.length : Int))), .int .i64 q, .int .i64 (q + (1 : Int)), .int .i64 x, .int .i64 ((10 : Int) * x), .string (bs r), .int .i64 q, .int .u8 (((r.getD ((q).toNat) 0).toNat : Nat) : Int), .int .u8 ((((r.getD ((q).toNat) 0).toNat) - 48 : Nat) : Int), .int .i64 ((((r.getD ((q).toNat) 0).toNat) - 48 : Nat) : Int), .int .i64 (((10 : Int) * x) + ((((r.getD ((q).toNat) 0).toNat) - 48 : Nat) : Int)), (j40 41), (j40 42), (j40 43), (j40 44), (j40 45), (j40 46), (j40 47), undef, undef] : Array Value).getD t undef), (by kernel_rfl), rfl, hM.clr, (by omega), hzd.2⟩
         · have hk44 : (decide (q < (r.length : Int))) = false := decide_eq_false hc44
           refine CG.no ?_ hk44 rfl
           refine CG.exit (QG.then_exit (QG.then_exit (QG.here ?_)))
           refine QG.k k2 ?_
           refine CG.seq fun K_ k2 => ?_
           refine CG.lin 5 ?_
           have hgx := zp_group (r := r) (by omega) (by omega) hx
           have hgb := num_part hr k.toNat 4
           rw [List.take_of_length_le (by simp; omega)] at hgb
           refine GL.v (.slice (some ⟨g3, 0, none⟩) n3 c3) ?_
           refine GL.v (.int .i64 x) ?_
           refine GL.row (fun _ => op_build1 rowt29 (v := .int .i64 x) (by kernel_rfl) rfl) (fun _ _ _ hm => own_one_i64 hm) fun g45 => ?_
           refine GL.gr (fun _ _ _ _ => Mem.gr1) (fun _ hM => op_append_i64 (cx := 1) rowt29 (hM.o 1 rfl) (hM.o 0 rfl).row (by kernel_rfl) (by kernel_rfl) (by omega) (by omega)) fun g46 c46 => ?_
           refine GL.v (.slice (some ⟨g46, 0, none⟩) (n3 + 1) c46) ?_
           refine GL.k k2 ?_
           refine CG.lin 4 ?_
           refine GL.v (.string (bs r)) ?_
           refine GL.v (.int .i64 k) ?_
           refine GL.v (.string (bs (r.take ((k).toNat)))) ?_ (hr := fun u => op_sto (L := r) (k := .i64) (i := k) ((k).toNat) (by kernel_rfl) (by kernel_rfl) (by omega) (by (try simp only [List.length_append, List.length_cons, List.length_nil]); omega) (by kernel_rfl))
           refine GL.v (.string (bs (r.take ((k).toNat)))) ?_
           refine GL.q ?_
           refine QG.block ?_
           refine QG.again fun _ hM => ?_
           exact ⟨(r.take ((k).toNat)).length, (by simp only [List.length_take]; omega), .inl ⟨(i + 1), (r.take ((k).toNat)), g46, (n3 + 1), c46, (P ++ [x]), (fun t => (#[.string (bs (r.take ((k).toNat))), undef, .pointer (some ⟨g21, 0, none⟩), .slice (some ⟨g46, 0, none⟩) (n3 + 1) c46, .int .i64 k, .int .i64 x, .int .i64 q, .string (bs s), .bool false, .bool false, undef, undef, undef, .bool false, undef, undef, undef, undef, .string (bs r), .int .i64 (r.length : Int), .bool (decide ((r.length : Int) > (0 : Int))), .string (bs r), .int .i64 (r.length : Int), .int .i64 ((r.length : Int) - (4 : Int)), .int .i64 ((r.length : Int) - (4 : Int)), .bool (decide (((r.length : Int) - (4 : Int)) < (0 : Int))), .int .i64 k, .int .i64 q, .string (bs r), .int .i64 (r.length : Int), .bool (decide (q < (r.length : Int))), (j43 31), (j43 32), (j43 33), (j43 34), (j43 35), (j43 36), (j43 37), (j43 38), (j43 39), (j43 40), .slice (some ⟨g3, 0, none⟩) n3 c3, .int .i64 x, .slice (some ⟨g45, 0, none⟩) 1 1, .slice (some ⟨g46, 0, none⟩) (n3 + 1) c46, .string (bs r), .int .i64 k, .string (bs (r.take ((k).toNat))), undef, undef] : Array Value).getD t undef), (by kernel_rfl), rfl, (hM.dropn 1).clr, ⟨by omega, by simp only [List.length_take]; omega⟩, (by simp [hP]), (all_take hr _), (hD.snoc (by omega) (by omega)), (zp_step hP hk hgx hV)⟩⟩
     · have hk41 : (decide ((r.length : Int) > (0 : Int))) = false := decide_eq_false hc41
       refine CG.no ?_ hk41 rfl
       refine CG.exit (QG.then_exit (QG.then_exit (QG.here ?_)))
       refine QG.k k1 ?_
       refine CG.seq fun K_ k1 => ?_
       refine CG.lin 3 ?_
       refine GL.v (.slice (some ⟨g3, 0, none⟩) n3 c3) ?_
       refine GL.mem (fun _ hM => hM.pu0 fun hO _ hX => SIk.own hO hX) ?_
       refine GL.call (fun _ hM => nmade_ok hM.avlt (1) (x := num s) (hM.f 0 rfl) (zp_done (by omega) hV) (fun y hy => by have := hD y hy; omega) (.inl rfl) (by first | assumption | omega)) ?_
       rintro _ _ _ hM ⟨s48, A48, n48, c48, rfl, h48, hb⟩
       refine ⟨_, _, _, rfl, (hM.call hb).add h48, ?_⟩
       refine GL.sA (cs' := #[.int .i64 s48, .slice A48 n48 c48]) (fun _ _ => Mem.st0) (fun _ hM => hM.b 0 rfl) siz31 ?_
       refine GL.k k1 ?_
       refine CG.ret (QG.ret (fun _ hM => results_one rfl (res_cell rfl (loadVar_agg agg31 siz31 (hM.b 0 rfl) rfl rfl))) ?_)
       intro _ hM
       exact ⟨_, _, _, _, rfl, ((show (1 : Int) * ((num s : Nat) : Int) = ((num s : Nat) : Int) from Int.one_mul _) ▸ (hM.out (hM.f 0 rfl))), hM.below⟩
   · skip
     refine CG.go hM ?_
     refine CG.seq fun K_ k2 => ?_
     refine CG.seq fun K_ k3 => ?_
     refine CG.lin 3 ?_
     refine GL.v (.string (bs s)) ?_
     refine GL.v (.int .i64 (s.length : Int)) ?_ (hr := fun u => op_slen (L := s) (by kernel_rfl) (by kernel_rfl) (by (try simp only [List.length_append, List.length_cons, List.length_nil]); omega))
     refine GL.v (.bool (decide ((s.length : Int) > (0 : Int)))) ?_
     refine GL.k k3 ?_
     by_cases hc49 : (s.length : Int) > (0 : Int)
     · have hk49 : (decide ((s.length : Int) > (0 : Int))) = true := decide_eq_true hc49
       refine CG.yes ?_ hk49 rfl
       refine CG.skip ?_
       refine QG.k k2 ?_
       refine CG.block ?_
       refine CG.seq fun K_ k2 => ?_
       refine CG.lin 4 ?_
       refine GL.v (.string (bs s)) ?_
       refine GL.v (.int .i64 (s.length : Int)) ?_ (hr := fun u => op_slen (L := s) (by kernel_rfl) (by kernel_rfl) (by (try simp only [List.length_append, List.length_cons, List.length_nil]); omega))
       refine GL.v (.int .i64 ((s.length : Int) - (4 : Int))) ?_ (hr := fun u => op_to (v := .int .i64 (IntKind.wrap .i64 ((s.length : Int) - (4 : Int)))) (by kernel_rfl) (wrap_i64 rfl (by omega) (by omega)))
       refine GL.v (.int .i64 ((s.length : Int) - (4 : Int))) ?_
       refine GL.k k2 ?_
       refine CG.seq fun K_ k2 => ?_
       refine CG.seq fun K_ k3 => ?_
       refine CG.lin 2 ?_
       refine GL.v (.int .i64 ((s.length : Int) - (4 : Int))) ?_
       refine GL.v (.bool (decide (((s.length : Int) - (4 : Int)) < (0 : Int)))) ?_
       refine GL.k k3 ?_
       refine CG.cut (fun a_ u_ => ∃ (k : Int), a_ = ⟨#[.string (bs s), undef, .pointer (some ⟨g21, 0, none⟩), .slice none 0 0, .int .i64 k, undef, undef, .string (bs s), .bool false, .bool false, undef, undef, undef, .bool false, undef, undef, undef, undef, .string (bs s), .int .i64 (s.length : Int), .bool (decide ((s.length : Int) > (0 : Int))), .string (bs s), .int .i64 (s.length : Int), .int .i64 ((s.length : Int) - (4 : Int)), .int .i64 ((s.length : Int) - (4 : Int)), .bool (decide (((s.length : Int) - (4 : Int)) < (0 : Int))), undef, undef, undef, undef, undef, undef, undef, undef, undef, undef, undef, undef, undef, undef, undef, undef, undef, undef, undef, undef, undef, undef, undef, undef], []⟩ ∧ Mem w [] X u_ [.box g21 #[.int .i64 0, .slice none 0 0] 31] [] ∧ (k = ((s.length - 4 : Nat) : Int))) ?_ ?_
       · skip
         by_cases hc55 : ((s.length : Int) - (4 : Int)) < (0 : Int)
         · have hk55 : (decide (((s.length : Int) - (4 : Int)) < (0 : Int))) = true := decide_eq_true hc55
           refine CG.yes ?_ hk55 rfl
           refine CG.lin 1 ?_
           refine GL.v (.int .i64 0) ?_
           refine GL.q ?_
           refine QG.cut fun _ hM => ?_
           exact ⟨0, (by kernel_rfl), hM.clr, (by omega)⟩
         · have hk55 : (decide (((s.length : Int) - (4 : Int)) < (0 : Int))) = false := decide_eq_false hc55
           refine CG.no ?_ hk55 rfl
           refine CG.skip ?_
           refine QG.cut fun _ hM => ?_
           exact ⟨((s.length : Int) - (4 : Int)), (by kernel_rfl), hM.clr, (by omega)⟩
       · skip
         rintro a_ u_ ⟨k, rfl, hM, hk⟩
         refine QG.go hM ?_
         refine QG.k k2 ?_
         refine CG.seq fun K_ k2 => ?_
         refine CG.lin 1 ?_
         refine GL.v (.int .i64 0) ?_
         refine GL.k k2 ?_
         refine CG.seq fun K_ k2 => ?_
         refine CG.seq fun K_ k3 => ?_
         refine CG.lin 2 ?_
         refine GL.v (.int .i64 k) ?_
         refine GL.v (.int .i64 k) ?_
         refine GL.k k3 ?_
         refine CG.block ?_
         refine CG.loop (fun m_ a_ u_ => ∃ (q : Int) (x : Int) (j51 : Nat → Value), a_ = ⟨#[.string (bs s), undef, .pointer (some ⟨g21, 0, none⟩), .slice none 0 0, .int .i64 k, .int .i64 x, .int .i64 q, .string (bs s), .bool false, .bool false, undef, undef, undef, .bool false, undef, undef, undef, undef, .string (bs s), .int .i64 (s.length : Int), .bool (decide ((s.length : Int) > (0 : Int))), .string (bs s), .int .i64 (s.length : Int), .int .i64 ((s.length : Int) - (4 : Int)), .int .i64 ((s.length : Int) - (4 : Int)), .bool (decide (((s.length : Int) - (4 : Int)) < (0 : Int))), .int .i64 k, (j51 27), (j51 28), (j51 29), (j51 30), (j51 31), (j51 32), (j51 33), (j51 34), (j51 35), (j51 36), (j51 37), (j51 38), (j51 39), (j51 40), undef, undef, undef, undef, undef, undef, undef, undef, undef], []⟩ ∧ m_ = (((s.length : Nat) : Int) - q).toNat ∧ Mem w [] X u_ [.box g21 #[.int .i64 0, .slice none 0 0] 31] [] ∧ (k ≤ q ∧ q ≤ (s.length : Int)) ∧ (x = ((num ((s.drop k.toNat).take (q - k).toNat) : Nat) : Int))) (fun _ hM => ⟨_, k, 0, (fun t => (#[.string (bs s), undef, .pointer (some ⟨g21, 0, none⟩), .slice none 0 0, .int .i64 k, .int .i64 0, .int .i64 k, .string (bs s), .bool false, .bool false, undef, undef, undef, .bool false, undef, undef, undef, undef, .string (bs s), .int .i64 (s.length : Int), .bool (decide ((s.length : Int) > (0 : Int))), .string (bs s), .int .i64 (s.length : Int), .int .i64 ((s.length : Int) - (4 : Int)), .int .i64 ((s.length : Int) - (4 : Int)), .bool (decide (((s.length : Int) - (4 : Int)) < (0 : Int))), .int .i64 k, undef, undef, undef, undef, undef, undef, undef, undef, undef, undef, undef, undef, undef, undef, undef, undef, undef, undef, undef, undef, undef, undef, undef] : Array Value).getD t undef), (by kernel_rfl), rfl, hM.clr, (by omega), (by rw [show (k - k).toNat = 0 by omega]; simp [num])⟩) ?_
         rintro m_ a_ u_ ⟨q, x, j51, rfl, hm51, hM, hi, hx⟩
         refine CG.go hM ?_
         refine CG.seq fun K_ k3 => ?_
         refine CG.seq fun K_ k4 => ?_
         refine CG.lin 4 ?_
         refine GL.v (.int .i64 q) ?_
         refine GL.v (.string (bs s)) ?_
         refine GL.v (.int .i64 (s.length : Int)) ?_ (hr := fun u => op_slen (L := s) (by kernel_rfl) (by kernel_rfl) (by (try simp only [List.length_append, List.length_cons, List.length_nil]); omega))
         refine GL.v (.bool (decide (q < (s.length : Int)))) ?_
         refine GL.k k4 ?_
         by_cases hc52 : q < (s.length : Int)
         · have hk52 : (decide (q < (s.length : Int))) = true := decide_eq_true hc52
           refine CG.yes ?_ hk52 rfl
           refine CG.skip ?_
           refine QG.k k3 ?_
           refine CG.seq fun K_ k3 => ?_
           refine CG.block ?_
           refine CG.lin 9 ?_
           have hci := dg_range p1 (i := q.toNat) (by omega)
           have hzd := zp_digit (r := s) p1 (k := k) (i := q) (by omega) (by omega) (by omega) hx
           refine GL.v (.int .i64 x) ?_
           refine GL.v (.int .i64 ((10 : Int) * x)) ?_ (hr := fun u => op_to (v := .int .i64 (IntKind.wrap .i64 ((10 : Int) * x))) (by kernel_rfl) (wrap_i64 rfl (by omega) (by omega)))
           refine GL.v (.string (bs s)) ?_
           refine GL.v (.int .i64 q) ?_
           refine GL.v (.int .u8 (((s.getD ((q).toNat) 0).toNat : Nat) : Int)) ?_ (hr := fun u => op_sidx (L := s) (k := .i64) (i := q) ((q).toNat) (by kernel_rfl) (by kernel_rfl) (by omega) (by (try simp only [List.length_append, List.length_cons, List.length_nil]); omega) (by kernel_rfl))
           refine GL.v (.int .u8 ((((s.getD ((q).toNat) 0).toNat) - 48 : Nat) : Int)) ?_ (hr := fun u => op_to (v := .int .u8 (IntKind.wrap .u8 ((((s.getD ((q).toNat) 0).toNat : Nat) : Int) - (48 : Int)))) (by kernel_rfl) (wrap_u8 (by omega) (by omega) (by omega)))
           refine GL.v (.int .i64 ((((s.getD ((q).toNat) 0).toNat) - 48 : Nat) : Int)) ?_ (hr := fun u => op_to (v := .int .i64 (IntKind.wrap .i64 ((((s.getD ((q).toNat) 0).toNat) - 48 : Nat) : Int))) (by kernel_rfl) (wrap_i64 rfl (by omega) (by omega)))
           refine GL.v (.int .i64 (((10 : Int) * x) + ((((s.getD ((q).toNat) 0).toNat) - 48 : Nat) : Int))) ?_ (hr := fun u => op_to (v := .int .i64 (IntKind.wrap .i64 (((10 : Int) * x) + ((((s.getD ((q).toNat) 0).toNat) - 48 : Nat) : Int)))) (by kernel_rfl) (wrap_i64 rfl (by omega) (by omega)))
           refine GL.v (.int .i64 (((10 : Int) * x) + ((((s.getD ((q).toNat) 0).toNat) - 48 : Nat) : Int))) ?_
           refine GL.q ?_
           refine QG.block ?_
           refine QG.k k3 ?_
           refine CG.lin 3 ?_
           refine GL.v (.int .i64 q) ?_
           refine GL.v (.int .i64 (q + (1 : Int))) ?_ (hr := fun u => op_to (v := .int .i64 (IntKind.wrap .i64 (q + (1 : Int)))) (by kernel_rfl) (wrap_i64 rfl (by omega) (by omega)))
           refine GL.v (.int .i64 (q + (1 : Int))) ?_
           refine GL.q ?_
           refine QG.again fun _ hM => ?_
           exact ⟨(((s.length : Nat) : Int) - (q + (1 : Int))).toNat, (by omega), (q + (1 : Int)), (((10 : Int) * x) + ((((s.getD ((q).toNat) 0).toNat) - 48 : Nat) : Int)), (fun t => (#[.string (bs s), undef, .pointer (some ⟨g21, 0, none⟩), .slice none 0 0, .int .i64 k, .int .i64 (((10 : Int) * x) + ((((s.getD ((q).toNat) 0).toNat) - 48 : Nat) : Int)), .int .i64 (q + (1 : Int)), .string (bs s), .bool false, .bool false, undef, undef, undef, .bool false, undef, undef, undef, undef, .string (bs s), .int .i64 (s.length : Int), .bool (decide ((s.length : Int) > (0 : Int))), .string (bs s), .int .i64 (s.length : Int), .int .i64 ((s.length : Int) - (4 : Int)), .int .i64 ((s.length : Int) - (4 : Int)), .bool (decide (((s.length : Int) - (4 : Int)) < (0 : Int))), .int .i64 k, .int .i64 q, .string (bs s), .int .i64 (s.length : Int), .bool (decide (q < (s.length : Int))), .int .i64 q, .int .i64 (q + (1 : Int)), .int .i64 x, .int .i64 ((10 : Int) * x), .string (bs s), .int .i64 q, .int .u8 (((s.getD ((q).toNat) 0).toNat : Nat) : Int), .int .u8 ((((s.getD ((q).toNat) 0).toNat) - 48 : Nat) : Int), .int .i64 ((((s.getD ((q).toNat) 0).toNat) - 48 : Nat) : Int), .int .i64 (((10 : Int) * x) + ((((s.getD ((q).toNat) 0).toNat) - 48 : Nat) : Int)), undef, undef, undef, undef, undef, undef, undef, undef, undef] : Array Value).getD t undef), (by kernel_rfl), rfl, hM.clr, (by omega), hzd.2⟩
         · have hk52 : (decide (q < (s.length : Int))) = false := decide_eq_false hc52
           refine CG.no ?_ hk52 rfl
           refine CG.exit (QG.then_exit (QG.then_exit (QG.here ?_)))
           refine QG.k k2 ?_
           refine CG.seq fun K_ k2 => ?_
           refine CG.lin 5 ?_
           have hgx := zp_group (r := s) (by omega) (by omega) hx
           have hgb := num_part p1 k.toNat 4
           rw [List.take_of_length_le (by simp; omega)] at hgb
           refine GL.v (.slice none 0 0) ?_
           refine GL.v (.int .i64 x) ?_
           refine GL.row (fun _ => op_build1 rowt29 (v := .int .i64 x) (by kernel_rfl) rfl) (fun _ _ _ hm => own_one_i64 hm) fun g53 => ?_
           refine GL.gn (fun _ hM => op_appnil_i64 (cx := 1) rowt29 (hM.o 0 rfl).row (by kernel_rfl) (by kernel_rfl) (by omega) (by omega) (by omega)) fun g54 c54 => ?_
           refine GL.v (.slice (some ⟨g54, 0, none⟩) 1 c54) ?_
           refine GL.k k2 ?_
           refine CG.lin 4 ?_
           refine GL.v (.string (bs s)) ?_
           refine GL.v (.int .i64 k) ?_
           refine GL.v (.string (bs (s.take ((k).toNat)))) ?_ (hr := fun u => op_sto (L := s) (k := .i64) (i := k) ((k).toNat) (by kernel_rfl) (by kernel_rfl) (by omega) (by (try simp only [List.length_append, List.length_cons, List.length_nil]); omega) (by kernel_rfl))
           refine GL.v (.string (bs (s.take ((k).toNat)))) ?_
           refine GL.q ?_
           refine QG.block ?_
           refine QG.again fun _ hM => ?_
           replace hM := hM.swap0
           exact ⟨(s.take ((k).toNat)).length, (by simp only [List.length_take]; omega), .inl ⟨1, (s.take ((k).toNat)), g54, 1, c54, [x], (fun t => (#[.string (bs (s.take ((k).toNat))), undef, .pointer (some ⟨g21, 0, none⟩), .slice (some ⟨g54, 0, none⟩) 1 c54, .int .i64 k, .int .i64 x, .int .i64 q, .string (bs s), .bool false, .bool false, undef, undef, undef, .bool false, undef, undef, undef, undef, .string (bs s), .int .i64 (s.length : Int), .bool (decide ((s.length : Int) > (0 : Int))), .string (bs s), .int .i64 (s.length : Int), .int .i64 ((s.length : Int) - (4 : Int)), .int .i64 ((s.length : Int) - (4 : Int)), .bool (decide (((s.length : Int) - (4 : Int)) < (0 : Int))), .int .i64 k, .int .i64 q, .string (bs s), .int .i64 (s.length : Int), .bool (decide (q < (s.length : Int))), (j51 31), (j51 32), (j51 33), (j51 34), (j51 35), (j51 36), (j51 37), (j51 38), (j51 39), (j51 40), .slice none 0 0, .int .i64 x, .slice (some ⟨g53, 0, none⟩) 1 1, .slice (some ⟨g54, 0, none⟩) 1 c54, .string (bs s), .int .i64 k, .string (bs (s.take ((k).toNat))), undef, undef] : Array Value).getD t undef), (by kernel_rfl), rfl, (hM.dropn 1).clr, ⟨rfl, by simp only [List.length_take]; omega⟩, rfl, (all_take p1 _), ((Digs.nil _).snoc (by omega) (by omega)), (zp_step (P := []) (i := 0) rfl hk hgx (by simp))⟩⟩
     · have hk49 : (decide ((s.length : Int) > (0 : Int))) = false := decide_eq_false hc49
       refine CG.no ?_ hk49 rfl
       refine CG.exit (QG.then_exit (QG.then_exit (QG.here ?_)))
       refine QG.k k1 ?_
       refine CG.seq fun K_ k1 => ?_
       refine CG.lin 3 ?_
       refine GL.v (.slice none 0 0) ?_
       refine GL.call (fun _ hM => nmade_ok hM.avlt (1) (x := num s) (SIk.nil _ _ none 0) (by rw [show s = [] from List.length_eq_zero_iff.1 (by omega)]; rfl) (fun y hy => by simp at hy) (.inl rfl) (by first | assumption | omega)) ?_
       rintro _ _ _ hM ⟨s56, A56, n56, c56, rfl, h56, hb⟩
       refine ⟨_, _, _, rfl, (hM.call hb).add h56, ?_⟩
       refine GL.sA (cs' := #[.int .i64 s56, .slice A56 n56 c56]) (fun _ _ => Mem.st0) (fun _ hM => hM.b 0 rfl) siz31 ?_
       refine GL.k k1 ?_
       refine CG.ret (QG.ret (fun _ hM => results_one rfl (res_cell rfl (loadVar_agg agg31 siz31 (hM.b 0 rfl) rfl rfl))) ?_)
       intro _ hM
       exact ⟨_, _, _, _, rfl, ((show (1 : Int) * ((num s : Nat) : Int) = ((num s : Nat) : Int) from Int.one_mul _) ▸ (hM.out (hM.f 0 rfl))), hM.below⟩

set_option maxRecDepth 100000 in
set_option maxHeartbeats 400000 in
theorem ZParse_neg {w : World} {X : Nat → Prop} (hX : ∀ k, X k → k < w.heap.size) (s : List UInt8) (p1 : (((s.getD 0 0).toNat : Nat) : Int) = 45) (p2 : (s.drop 1).all isDg' = true) (p3 : s.length ≤ 1000000000) (p4 : s ≠ []) :
    Calls Tryz.prog 25 #[.string (bs s)] w (fun e w' => ∃ sr Ar nr cr, e = .returned (.agg #[.int .i64 sr, .slice Ar nr cr]) ∧ NZk.R X w' [.int .i64 sr, .slice Ar nr cr] (-((num (s.drop 1) : Nat) : Int)) ∧ Below w.heap.size w w') := by
 have hM := Mem.start hX
 refine calls_of hM Tryz.func25 Tryz.ntmps25 ?_
 refine CG.seq fun K_ k1 => ?_
 refine CG.lin 1 ?_
 refine GL.aA zer31 fun g21 => ?_
 refine GL.k k1 ?_
 refine CG.seq fun K_ k1 => ?_
 refine CG.seq fun K_ k2 => ?_
 refine CG.lin 7 ?_
 refine GL.v (.string (bs s)) ?_
 refine GL.v (.bool true) ?_ (hr := fun u => op_b (b := (!(decide (s = [])))) ((fun u => op_sne (L := s) (K := []) (by kernel_rfl) (by kernel_rfl)) u) (by simpa using p4))
 refine GL.v (.bool true) ?_
 refine GL.v (.string (bs s)) ?_
 have hl0 : 0 < s.length := List.length_pos_iff.2 (by assumption)
 refine GL.v (.int .u8 (((s.getD 0 0).toNat : Nat) : Int)) ?_ (hr := fun u => op_sidx (L := s) (k := .i64) (i := (0 : Int)) 0 (by kernel_rfl) (by kernel_rfl) (by omega) (by (try simp only [List.length_append, List.length_cons, List.length_nil]); omega) (by kernel_rfl))
 refine GL.v (.bool true) ?_ (hr := fun u => op_b (b := ((((s.getD 0 0).toNat : Nat) : Int) == (45 : Int))) (by kernel_rfl) (beq_iff_eq.2 p1))
 refine GL.v (.bool true) ?_
 refine GL.k k2 ?_
 refine CG.yes ?_ rfl rfl
 refine CG.seq fun K_ k2 => ?_
 refine CG.lin 5 ?_
 refine GL.v (.string (bs s)) ?_
 have hl0 : 0 < s.length := List.length_pos_iff.2 (by assumption)
 refine GL.v (.string (bs (s.drop 1))) ?_ (hr := fun u => op_sfrom (L := s) (k := .i64) (i := (1 : Int)) 1 (by kernel_rfl) (by kernel_rfl) (by omega) (by (try simp only [List.length_append, List.length_cons, List.length_nil]); omega) (by kernel_rfl))
 refine GL.call (fun _ hM => ZParse_pos hM.avlt (s.drop 1) (by first | assumption | omega) (by simp only [List.length_drop]; omega)) ?_
 rintro _ _ _ hM ⟨s22, A22, n22, c22, rfl, h22, hb⟩
 have hs22 := num_szg (s.drop 1) (by assumption)
 have hsg22 := NZk.sgn h22
 refine ⟨_, _, _, rfl, (hM.call hb).add h22, ?_⟩
 refine GL.call (fun _ hM => ZNeg_ok hM.avlt (hM.f 0 rfl)) ?_
 rintro _ _ _ hM ⟨s23, A23, n23, c23, rfl, h23, hb⟩
 have hs23 := szg_neg (((num (s.drop 1) : Nat) : Int))
 refine ⟨_, _, _, rfl, (hM.call hb).add h23, ?_⟩
 refine GL.sA (cs' := #[.int .i64 s23, .slice A23 n23 c23]) (fun _ _ => Mem.st0) (fun _ hM => hM.b 0 rfl) siz31 ?_
 refine GL.k k2 ?_
 refine CG.ret (QG.then_ret (QG.ret (fun _ hM => results_one rfl (res_cell rfl (loadVar_agg agg31 siz31 (hM.b 0 rfl) rfl rfl))) ?_))
 intro _ hM
 exact ⟨_, _, _, _, rfl, (hM.out (hM.f 0 rfl)), hM.below⟩

set_option maxRecDepth 100000 in
set_option maxHeartbeats 400000 in
theorem ZParse_ok {w : World} {X : Nat → Prop} (hX : ∀ k, X k → k < w.heap.size) (s : List UInt8) (p1 : (strip s).all isDg' = true) (p2 : s.length ≤ 1000000000) :
    Calls Tryz.prog 25 #[.string (bs s)] w (fun e w' => ∃ sr Ar nr cr, e = .returned (.agg #[.int .i64 sr, .slice Ar nr cr]) ∧ NZk.R X w' [.int .i64 sr, .slice Ar nr cr] (zval s) ∧ Below w.heap.size w w') := by
 by_cases h0 : s = []
 · rw [zval_plain (.inl h0)]; exact ZParse_pos hX s (by rw [h0]; rfl) p2
 · by_cases h : (((s.getD 0 0).toNat : Nat) : Int) = 45
   · rw [zval_minus h]; rw [← strip_minus h] at p1; exact ZParse_neg hX s h p1 p2 h0
   · rw [zval_plain (.inr h)]; rw [← strip_none (.inr h)] at p1; exact ZParse_pos hX s p1 p2

end Go.Proofs.YtklnjhlidfclmaaGreatDoor
