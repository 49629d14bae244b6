/- Contracts of the program's functions. -/
import Derived.Test.YtklnjhlidfclmaaGreatDoorC3
set_option linter.unusedVariables false
set_option linter.unusedSimpArgs false
namespace Go.Proofs.YtklnjhlidfclmaaGreatDoor
open Go.RowKit Cps
attribute [local go_sem] Oper.semAt_some

set_option maxRecDepth 100000 in
set_option maxHeartbeats 400000 in
theorem VSub_ok {w : World} {X : Nat → Prop} {A1 : Option Addr} {n1 : Nat} {c1 : Nat} {m1 : Bool} {A1_ : Option Addr} {n1_ : Nat} {c1_ : Nat} {A1z : Option Addr} {n1z : Nat} {c1z : Nat} {m1z : Bool} {A1z_ : Option Addr} {n1z_ : Nat} {c1z_ : Nat} {a : Rat × Rat} {A2 : Option Addr} {n2 : Nat} {c2 : Nat} {m2 : Bool} {A2_ : Option Addr} {n2_ : Nat} {c2_ : Nat} {A2z : Option Addr} {n2z : Nat} {c2z : Nat} {m2z : Bool} {A2z_ : Option Addr} {n2z_ : Nat} {c2z_ : Nat} {b : Rat × Rat} (hX : ∀ k, X k → k < w.heap.size) (h1 : Vk.R X w [.slice A1 n1 c1, .bool m1, .slice A1_ n1_ c1_, .slice A1z n1z c1z, .bool m1z, .slice A1z_ n1z_ c1z_] a) (h2 : Vk.R X w [.slice A2 n2 c2, .bool m2, .slice A2_ n2_ c2_, .slice A2z n2z c2z, .bool m2z, .slice A2z_ n2z_ c2z_] b) (p1 : szR a.1 + szR b.1 ≤ 68719476736) (p2 : szR a.2 + szR b.2 ≤ 68719476736) :
    Calls Tryz.prog 88 #[.agg #[.slice A1 n1 c1, .bool m1, .slice A1_ n1_ c1_, .slice A1z n1z c1z, .bool m1z, .slice A1z_ n1z_ c1z_], .agg #[.slice A2 n2 c2, .bool m2, .slice A2_ n2_ c2_, .slice A2z n2z c2z, .bool m2z, .slice A2z_ n2z_ c2z_]] w (fun e w' => ∃ Ar nr cr mr Ar_ nr_ cr_ Arz nrz crz mrz Arz_ nrz_ crz_, e = .returned (.agg #[.slice Ar nr cr, .bool mr, .slice Ar_ nr_ cr_, .slice Arz nrz crz, .bool mrz, .slice Arz_ nrz_ crz_]) ∧ Vk.R X w' [.slice Ar nr cr, .bool mr, .slice Ar_ nr_ cr_, .slice Arz nrz crz, .bool mrz, .slice Arz_ nrz_ crz_] (a.1 - b.1, a.2 - b.2) ∧ Below w.heap.size w w') := by
 have hM := ((Mem.start hX).add0 h1).add0 h2
 refine calls_of hM Tryz.func88 Tryz.ntmps88 ?_
 refine CG.seq fun K_ k1 => ?_
 refine CG.lin 3 ?_
 refine GL.bA #[.slice A1 n1 c1, .bool m1, .slice A1_ n1_ c1_, .slice A1z n1z c1z, .bool m1z, .slice A1z_ n1z_ c1z_] fun g21 => ?_
 refine GL.bA #[.slice A2 n2 c2, .bool m2, .slice A2_ n2_ c2_, .slice A2z n2z c2z, .bool m2z, .slice A2z_ n2z_ c2z_] fun g22 => ?_
 refine GL.aA zer103 fun g23 => ?_
 refine GL.k k1 ?_
 refine CG.seq fun K_ k1 => ?_
 refine CG.lin 4 ?_
 refine GL.r (.agg #[.slice A1 n1 c1, .bool m1, .slice A1_ n1_ c1_, .slice A1z n1z c1z, .bool m1z, .slice A1z_ n1z_ c1z_]) (fun _ hM => op_load_agg (off := 0) (by kernel_rfl) agg103 siz103 (hM.b 2 rfl) rfl rfl) ?_
 refine GL.r (.agg #[.slice A2 n2 c2, .bool m2, .slice A2_ n2_ c2_, .slice A2z n2z c2z, .bool m2z, .slice A2z_ n2z_ c2z_]) (fun _ hM => op_load_agg (off := 0) (by kernel_rfl) agg103 siz103 (hM.b 1 rfl) rfl rfl) ?_
 refine GL.call (fun _ hM => both_sub hM.avlt (hM.f 1 rfl) (hM.f 0 rfl) (by first | assumption | omega | (dsimp only; omega)) (by first | assumption | omega | (dsimp only; omega))) ?_
 rintro _ _ _ hM ⟨A24, n24, c24, m24, A24_, n24_, c24_, A24z, n24z, c24z, m24z, A24z_, n24z_, c24z_, rfl, h24, hb⟩
 refine ⟨_, _, _, rfl, (hM.call hb).add h24, ?_⟩
 refine GL.sA (cs' := #[.slice A24 n24 c24, .bool m24, .slice A24_ n24_ c24_, .slice A24z n24z c24z, .bool m24z, .slice A24z_ n24z_ c24z_]) (fun _ _ => Mem.st0) (fun _ hM => hM.b 0 rfl) siz103 ?_
 refine GL.k k1 ?_
 refine CG.ret (QG.ret (fun _ hM => results_one rfl (res_cell rfl (loadVar_agg agg103 siz103 (hM.b 0 rfl) rfl rfl))) ?_)
 intro _ hM
 exact ⟨_, _, _, _, _, _, _, _, _, _, _, _, _, _, rfl, (hM.out (hM.f 0 rfl)), hM.below⟩

set_option maxRecDepth 100000 in
set_option maxHeartbeats 400000 in
theorem VScale_ok {w : World} {X : Nat → Prop} {A1 : Option Addr} {n1 : Nat} {c1 : Nat} {m1 : Bool} {A1_ : Option Addr} {n1_ : Nat} {c1_ : Nat} {A1z : Option Addr} {n1z : Nat} {c1z : Nat} {m1z : Bool} {A1z_ : Option Addr} {n1z_ : Nat} {c1z_ : Nat} {a : Rat × Rat} {A2 : Option Addr} {n2 : Nat} {c2 : Nat} {m2 : Bool} {A2_ : Option Addr} {n2_ : Nat} {c2_ : Nat} {k : Rat} (hX : ∀ k, X k → k < w.heap.size) (h1 : Vk.R X w [.slice A1 n1 c1, .bool m1, .slice A1_ n1_ c1_, .slice A1z n1z c1z, .bool m1z, .slice A1z_ n1z_ c1z_] a) (h2 : Rk.R X w [.slice A2 n2 c2, .bool m2, .slice A2_ n2_ c2_] k) (p1 : szR a.1 + szR k ≤ 68719476736) (p2 : szR a.2 + szR k ≤ 68719476736) :
    Calls Tryz.prog 90 #[.agg #[.slice A1 n1 c1, .bool m1, .slice A1_ n1_ c1_, .slice A1z n1z c1z, .bool m1z, .slice A1z_ n1z_ c1z_], .agg #[.slice A2 n2 c2, .bool m2, .slice A2_ n2_ c2_]] w (fun e w' => ∃ Ar nr cr mr Ar_ nr_ cr_ Arz nrz crz mrz Arz_ nrz_ crz_, e = .returned (.agg #[.slice Ar nr cr, .bool mr, .slice Ar_ nr_ cr_, .slice Arz nrz crz, .bool mrz, .slice Arz_ nrz_ crz_]) ∧ Vk.R X w' [.slice Ar nr cr, .bool mr, .slice Ar_ nr_ cr_, .slice Arz nrz crz, .bool mrz, .slice Arz_ nrz_ crz_] (a.1 * k, a.2 * k) ∧ Below w.heap.size w w') := by
 have hM := ((Mem.start hX).add0 h1).add0 h2
 refine calls_of hM Tryz.func90 Tryz.ntmps90 ?_
 refine CG.seq fun K_ k1 => ?_
 refine CG.lin 3 ?_
 refine GL.bA #[.slice A1 n1 c1, .bool m1, .slice A1_ n1_ c1_, .slice A1z n1z c1z, .bool m1z, .slice A1z_ n1z_ c1z_] fun g21 => ?_
 refine GL.bA #[.slice A2 n2 c2, .bool m2, .slice A2_ n2_ c2_] fun g22 => ?_
 refine GL.aA zer103 fun g23 => ?_
 refine GL.k k1 ?_
 refine CG.seq fun K_ k1 => ?_
 refine CG.lin 6 ?_
 refine GL.r (.agg #[.slice A1 n1 c1, .bool m1, .slice A1_ n1_ c1_, .slice A1z n1z c1z, .bool m1z, .slice A1z_ n1z_ c1z_]) (fun _ hM => op_load_agg (off := 0) (by kernel_rfl) agg103 siz103 (hM.b 2 rfl) rfl rfl) ?_
 refine GL.r (.agg #[.slice A2 n2 c2, .bool m2, .slice A2_ n2_ c2_]) (fun _ hM => op_load_agg (off := 0) (by kernel_rfl) agg48 siz48 (hM.b 1 rfl) rfl rfl) ?_
 refine GL.r (.agg #[.slice A2 n2 c2, .bool m2, .slice A2_ n2_ c2_]) (fun _ hM => op_load_agg (off := 0) (by kernel_rfl) agg48 siz48 (hM.b 1 rfl) rfl rfl) ?_
 refine GL.v (.agg #[.slice A2 n2 c2, .bool m2, .slice A2_ n2_ c2_, .slice A2 n2 c2, .bool m2, .slice A2_ n2_ c2_]) ?_
 refine GL.call (fun _ hM => both_mul hM.avlt (hM.f 1 rfl) (Vk.of (hM.f 0 rfl) (hM.f 0 rfl)) (by first | assumption | omega | (dsimp only; omega)) (by first | assumption | omega | (dsimp only; omega))) ?_
 rintro _ _ _ hM ⟨A24, n24, c24, m24, A24_, n24_, c24_, A24z, n24z, c24z, m24z, A24z_, n24z_, c24z_, rfl, h24, hb⟩
 refine ⟨_, _, _, rfl, (hM.call hb).add h24, ?_⟩
 refine GL.sA (cs' := #[.slice A24 n24 c24, .bool m24, .slice A24_ n24_ c24_, .slice A24z n24z c24z, .bool m24z, .slice A24z_ n24z_ c24z_]) (fun _ _ => Mem.st0) (fun _ hM => hM.b 0 rfl) siz103 ?_
 refine GL.k k1 ?_
 refine CG.ret (QG.ret (fun _ hM => results_one rfl (res_cell rfl (loadVar_agg agg103 siz103 (hM.b 0 rfl) rfl rfl))) ?_)
 intro _ hM
 exact ⟨_, _, _, _, _, _, _, _, _, _, _, _, _, _, rfl, (hM.out (hM.f 0 rfl)), hM.below⟩

set_option maxRecDepth 100000 in
set_option maxHeartbeats 400000 in
theorem Dot_ok {w : World} {X : Nat → Prop} {A1 : Option Addr} {n1 : Nat} {c1 : Nat} {m1 : Bool} {A1_ : Option Addr} {n1_ : Nat} {c1_ : Nat} {A1z : Option Addr} {n1z : Nat} {c1z : Nat} {m1z : Bool} {A1z_ : Option Addr} {n1z_ : Nat} {c1z_ : Nat} {a : Rat × Rat} {A2 : Option Addr} {n2 : Nat} {c2 : Nat} {m2 : Bool} {A2_ : Option Addr} {n2_ : Nat} {c2_ : Nat} {A2z : Option Addr} {n2z : Nat} {c2z : Nat} {m2z : Bool} {A2z_ : Option Addr} {n2z_ : Nat} {c2z_ : Nat} {b : Rat × Rat} (hX : ∀ k, X k → k < w.heap.size) (h1 : Vk.R X w [.slice A1 n1 c1, .bool m1, .slice A1_ n1_ c1_, .slice A1z n1z c1z, .bool m1z, .slice A1z_ n1z_ c1z_] a) (h2 : Vk.R X w [.slice A2 n2 c2, .bool m2, .slice A2_ n2_ c2_, .slice A2z n2z c2z, .bool m2z, .slice A2z_ n2z_ c2z_] b) (p1 : szR a.1 + szR b.1 + (szR a.2 + szR b.2) ≤ 68719476736) :
    Calls Tryz.prog 92 #[.agg #[.slice A1 n1 c1, .bool m1, .slice A1_ n1_ c1_, .slice A1z n1z c1z, .bool m1z, .slice A1z_ n1z_ c1z_], .agg #[.slice A2 n2 c2, .bool m2, .slice A2_ n2_ c2_, .slice A2z n2z c2z, .bool m2z, .slice A2z_ n2z_ c2z_]] w (fun e w' => ∃ Ar nr cr mr Ar_ nr_ cr_, e = .returned (.agg #[.slice Ar nr cr, .bool mr, .slice Ar_ nr_ cr_]) ∧ Rk.R X w' [.slice Ar nr cr, .bool mr, .slice Ar_ nr_ cr_] (a.1 * b.1 + a.2 * b.2) ∧ Below w.heap.size w w') := by
 have hM := ((Mem.start hX).add0 h1).add0 h2
 refine calls_of hM Tryz.func92 Tryz.ntmps92 ?_
 refine CG.seq fun K_ k1 => ?_
 refine CG.lin 3 ?_
 refine GL.bA #[.slice A1 n1 c1, .bool m1, .slice A1_ n1_ c1_, .slice A1z n1z c1z, .bool m1z, .slice A1z_ n1z_ c1z_] fun g21 => ?_
 refine GL.bA #[.slice A2 n2 c2, .bool m2, .slice A2_ n2_ c2_, .slice A2z n2z c2z, .bool m2z, .slice A2z_ n2z_ c2z_] fun g22 => ?_
 refine GL.aA zer48 fun g23 => ?_
 refine GL.k k1 ?_
 refine CG.seq fun K_ k1 => ?_
 refine CG.draw [] [0, 1, 2, 3, 5, 6, 7, 8] (.step 0 (.step 1 (.step 2 (.step 3 (.step 5 (.step 6 (.step 7 (.step 8 (.step 4 (.step 9 (.step 10 (.step 11 .done)))))))))))) (fun V hV24 => ?_)
 refine GD.ev (.pointer (some ⟨g21, 0, none⟩)) ?_
 refine GD.er (.agg #[.slice A1 n1 c1, .bool m1, .slice A1_ n1_ c1_]) (fun _ hS => op_load_agg (off := 0) (by kernel_rfl) agg48 siz48 (hV24.bS 2 rfl hS) rfl rfl) ?_
 refine GD.ev (.pointer (some ⟨g22, 0, none⟩)) ?_
 refine GD.er (.agg #[.slice A2 n2 c2, .bool m2, .slice A2_ n2_ c2_]) (fun _ hS => op_load_agg (off := 0) (by kernel_rfl) agg48 siz48 (hV24.bS 1 rfl hS) rfl rfl) ?_
 refine GD.ev (.pointer (some ⟨g21, 3, none⟩)) ?_
 refine GD.er (.agg #[.slice A1z n1z c1z, .bool m1z, .slice A1z_ n1z_ c1z_]) (fun _ hS => op_load_agg (off := 3) (by kernel_rfl) agg48 siz48 (hV24.bS 2 rfl hS) rfl rfl) ?_
 refine GD.ev (.pointer (some ⟨g22, 3, none⟩)) ?_
 refine GD.er (.agg #[.slice A2z n2z c2z, .bool m2z, .slice A2z_ n2z_ c2z_]) (fun _ hS => op_load_agg (off := 3) (by kernel_rfl) agg48 siz48 (hV24.bS 1 rfl hS) rfl rfl) ?_
 refine GD.call (fun _ hM => RMul_ok hM.avlt (Vk.fst (hM.f 1 rfl)) (Vk.fst (hM.f 0 rfl)) (by first | assumption | omega | (dsimp only; omega))) ?_
 rintro _ _ _ hM ⟨A25, n25, c25, m25, A25_, n25_, c25_, rfl, h25, hb⟩
 have hs25 := szR_mul a.1 b.1
 refine ⟨_, _, _, rfl, hb, (hM.call hb).add h25, ?_⟩
 refine GD.call (fun _ hM => RMul_ok hM.avlt (Vk.snd (hM.f 2 rfl)) (Vk.snd (hM.f 1 rfl)) (by first | assumption | omega | (dsimp only; omega))) ?_
 rintro _ _ _ hM ⟨A26, n26, c26, m26, A26_, n26_, c26_, rfl, h26, hb⟩
 have hs26 := szR_mul a.2 b.2
 refine ⟨_, _, _, rfl, hb, (hM.call hb).add h26, ?_⟩
 refine GD.call (fun _ hM => RAdd_ok hM.avlt (hM.f 1 rfl) (hM.f 0 rfl) (by first | assumption | omega | (dsimp only; omega))) ?_
 rintro _ _ _ hM ⟨A27, n27, c27, m27, A27_, n27_, c27_, rfl, h27, hb⟩
 have hs27 := szR_add (a.1 * b.1) (a.2 * b.2)
 refine ⟨_, _, _, rfl, hb, (hM.call hb).add h27, ?_⟩
 refine GD.st (fun _ _ => Mem.st0) (fun _ hM => store_all (cs' := #[.slice A27 n27 c27, .bool m27, .slice A27_ n27_ c27_]) siz48 (hM.b 0 rfl) (by kernel_rfl) (by kernel_rfl) rfl rfl rfl) ?_
 refine GD.k k1 ?_
 refine CG.ret (QG.ret (fun _ hM => results_one rfl (res_cell rfl (loadVar_agg agg48 siz48 (hM.b 0 rfl) rfl rfl))) ?_)
 intro _ hM
 exact ⟨_, _, _, _, _, _, _, rfl, (hM.out (hM.f 0 rfl)), hM.below⟩

set_option maxRecDepth 100000 in
set_option maxHeartbeats 400000 in
theorem Cross_ok {w : World} {X : Nat → Prop} {A1 : Option Addr} {n1 : Nat} {c1 : Nat} {m1 : Bool} {A1_ : Option Addr} {n1_ : Nat} {c1_ : Nat} {A1z : Option Addr} {n1z : Nat} {c1z : Nat} {m1z : Bool} {A1z_ : Option Addr} {n1z_ : Nat} {c1z_ : Nat} {a : Rat × Rat} {A2 : Option Addr} {n2 : Nat} {c2 : Nat} {m2 : Bool} {A2_ : Option Addr} {n2_ : Nat} {c2_ : Nat} {A2z : Option Addr} {n2z : Nat} {c2z : Nat} {m2z : Bool} {A2z_ : Option Addr} {n2z_ : Nat} {c2z_ : Nat} {b : Rat × Rat} (hX : ∀ k, X k → k < w.heap.size) (h1 : Vk.R X w [.slice A1 n1 c1, .bool m1, .slice A1_ n1_ c1_, .slice A1z n1z c1z, .bool m1z, .slice A1z_ n1z_ c1z_] a) (h2 : Vk.R X w [.slice A2 n2 c2, .bool m2, .slice A2_ n2_ c2_, .slice A2z n2z c2z, .bool m2z, .slice A2z_ n2z_ c2z_] b) (p1 : szR a.1 + szR b.1 + (szR a.2 + szR b.2) ≤ 68719476736) :
    Calls Tryz.prog 94 #[.agg #[.slice A1 n1 c1, .bool m1, .slice A1_ n1_ c1_, .slice A1z n1z c1z, .bool m1z, .slice A1z_ n1z_ c1z_], .agg #[.slice A2 n2 c2, .bool m2, .slice A2_ n2_ c2_, .slice A2z n2z c2z, .bool m2z, .slice A2z_ n2z_ c2z_]] w (fun e w' => ∃ Ar nr cr mr Ar_ nr_ cr_, e = .returned (.agg #[.slice Ar nr cr, .bool mr, .slice Ar_ nr_ cr_]) ∧ Rk.R X w' [.slice Ar nr cr, .bool mr, .slice Ar_ nr_ cr_] (a.1 * b.2 - a.2 * b.1) ∧ Below w.heap.size w w') := by
 have hM := ((Mem.start hX).add0 h1).add0 h2
 refine calls_of hM Tryz.func94 Tryz.ntmps94 ?_
 refine CG.seq fun K_ k1 => ?_
 refine CG.lin 3 ?_
 refine GL.bA #[.slice A1 n1 c1, .bool m1, .slice A1_ n1_ c1_, .slice A1z n1z c1z, .bool m1z, .slice A1z_ n1z_ c1z_] fun g21 => ?_
 refine GL.bA #[.slice A2 n2 c2, .bool m2, .slice A2_ n2_ c2_, .slice A2z n2z c2z, .bool m2z, .slice A2z_ n2z_ c2z_] fun g22 => ?_
 refine GL.aA zer48 fun g23 => ?_
 refine GL.k k1 ?_
 refine CG.seq fun K_ k1 => ?_
 refine CG.draw [] [0, 1, 2, 3, 5, 6, 7, 8] (.step 0 (.step 1 (.step 2 (.step 3 (.step 5 (.step 6 (.step 7 (.step 8 (.step 4 (.step 9 (.step 10 (.step 11 .done)))))))))))) (fun V hV24 => ?_)
 refine GD.ev (.pointer (some ⟨g21, 0, none⟩)) ?_
 refine GD.er (.agg #[.slice A1 n1 c1, .bool m1, .slice A1_ n1_ c1_]) (fun _ hS => op_load_agg (off := 0) (by kernel_rfl) agg48 siz48 (hV24.bS 2 rfl hS) rfl rfl) ?_
 refine GD.ev (.pointer (some ⟨g22, 3, none⟩)) ?_
 refine GD.er (.agg #[.slice A2z n2z c2z, .bool m2z, .slice A2z_ n2z_ c2z_]) (fun _ hS => op_load_agg (off := 3) (by kernel_rfl) agg48 siz48 (hV24.bS 1 rfl hS) rfl rfl) ?_
 refine GD.ev (.pointer (some ⟨g21, 3, none⟩)) ?_
 refine GD.er (.agg #[.slice A1z n1z c1z, .bool m1z, .slice A1z_ n1z_ c1z_]) (fun _ hS => op_load_agg (off := 3) (by kernel_rfl) agg48 siz48 (hV24.bS 2 rfl hS) rfl rfl) ?_
 refine GD.ev (.pointer (some ⟨g22, 0, none⟩)) ?_
 refine GD.er (.agg #[.slice A2 n2 c2, .bool m2, .slice A2_ n2_ c2_]) (fun _ hS => op_load_agg (off := 0) (by kernel_rfl) agg48 siz48 (hV24.bS 1 rfl hS) rfl rfl) ?_
 refine GD.call (fun _ hM => RMul_ok hM.avlt (Vk.fst (hM.f 1 rfl)) (Vk.snd (hM.f 0 rfl)) (by first | assumption | omega | (dsimp only; omega))) ?_
 rintro _ _ _ hM ⟨A25, n25, c25, m25, A25_, n25_, c25_, rfl, h25, hb⟩
 have hs25 := szR_mul a.1 b.2
 refine ⟨_, _, _, rfl, hb, (hM.call hb).add h25, ?_⟩
 refine GD.call (fun _ hM => RMul_ok hM.avlt (Vk.snd (hM.f 2 rfl)) (Vk.fst (hM.f 1 rfl)) (by first | assumption | omega | (dsimp only; omega))) ?_
 rintro _ _ _ hM ⟨A26, n26, c26, m26, A26_, n26_, c26_, rfl, h26, hb⟩
 have hs26 := szR_mul a.2 b.1
 refine ⟨_, _, _, rfl, hb, (hM.call hb).add h26, ?_⟩
 refine GD.call (fun _ hM => RSub_ok hM.avlt (hM.f 1 rfl) (hM.f 0 rfl) (by first | assumption | omega | (dsimp only; omega))) ?_
 rintro _ _ _ hM ⟨A27, n27, c27, m27, A27_, n27_, c27_, rfl, h27, hb⟩
 have hs27 := szR_sub (a.1 * b.2) (a.2 * b.1)
 refine ⟨_, _, _, rfl, hb, (hM.call hb).add h27, ?_⟩
 refine GD.st (fun _ _ => Mem.st0) (fun _ hM => store_all (cs' := #[.slice A27 n27 c27, .bool m27, .slice A27_ n27_ c27_]) siz48 (hM.b 0 rfl) (by kernel_rfl) (by kernel_rfl) rfl rfl rfl) ?_
 refine GD.k k1 ?_
 refine CG.ret (QG.ret (fun _ hM => results_one rfl (res_cell rfl (loadVar_agg agg48 siz48 (hM.b 0 rfl) rfl rfl))) ?_)
 intro _ hM
 exact ⟨_, _, _, _, _, _, _, rfl, (hM.out (hM.f 0 rfl)), hM.below⟩

set_option maxRecDepth 100000 in
set_option maxHeartbeats 400000 in
theorem VSame_ok {w : World} {X : Nat → Prop} {A1 : Option Addr} {n1 : Nat} {c1 : Nat} {m1 : Bool} {A1_ : Option Addr} {n1_ : Nat} {c1_ : Nat} {A1z : Option Addr} {n1z : Nat} {c1z : Nat} {m1z : Bool} {A1z_ : Option Addr} {n1z_ : Nat} {c1z_ : Nat} {a : Rat × Rat} {A2 : Option Addr} {n2 : Nat} {c2 : Nat} {m2 : Bool} {A2_ : Option Addr} {n2_ : Nat} {c2_ : Nat} {A2z : Option Addr} {n2z : Nat} {c2z : Nat} {m2z : Bool} {A2z_ : Option Addr} {n2z_ : Nat} {c2z_ : Nat} {b : Rat × Rat} (hX : ∀ k, X k → k < w.heap.size) (h1 : Vk.R X w [.slice A1 n1 c1, .bool m1, .slice A1_ n1_ c1_, .slice A1z n1z c1z, .bool m1z, .slice A1z_ n1z_ c1z_] a) (h2 : Vk.R X w [.slice A2 n2 c2, .bool m2, .slice A2_ n2_ c2_, .slice A2z n2z c2z, .bool m2z, .slice A2z_ n2z_ c2z_] b) (p1 : szR a.1 + szR b.1 ≤ 68719476736) (p2 : szR a.2 + szR b.2 ≤ 68719476736) :
    Calls Tryz.prog 96 #[.agg #[.slice A1 n1 c1, .bool m1, .slice A1_ n1_ c1_, .slice A1z n1z c1z, .bool m1z, .slice A1z_ n1z_ c1z_], .agg #[.slice A2 n2 c2, .bool m2, .slice A2_ n2_ c2_, .slice A2z n2z c2z, .bool m2z, .slice A2z_ n2z_ c2z_]] w (fun e w' => e = .returned (.bool (decide (a.1 = b.1) && decide (a.2 = b.2))) ∧ Below w.heap.size w w') := by
 have hM := ((Mem.start hX).add0 h1).add0 h2
 refine calls_of hM Tryz.func96 Tryz.ntmps96 ?_
 refine CG.seq fun K_ k1 => ?_
 refine CG.lin 3 ?_
 refine GL.bA #[.slice A1 n1 c1, .bool m1, .slice A1_ n1_ c1_, .slice A1z n1z c1z, .bool m1z, .slice A1z_ n1z_ c1z_] fun g21 => ?_
 refine GL.bA #[.slice A2 n2 c2, .bool m2, .slice A2_ n2_ c2_, .slice A2z n2z c2z, .bool m2z, .slice A2z_ n2z_ c2z_] fun g22 => ?_
 refine GL.v (.bool false) ?_
 refine GL.k k1 ?_
 refine CG.seq fun K_ k1 => ?_
 by_cases hc23 : a.1 = b.1
 · have hk23 : (decide (a.1 = b.1)) = true := decide_eq_true hc23
   by_cases hc24 : a.2 = b.2
   · have hk24 : (decide (a.2 = b.2)) = true := decide_eq_true hc24
     refine CG.lin 15 ?_
     refine GL.v (.pointer (some ⟨g21, 0, none⟩)) ?_
     refine GL.r (.agg #[.slice A1 n1 c1, .bool m1, .slice A1_ n1_ c1_]) (fun _ hM => op_load_agg (off := 0) (by kernel_rfl) agg48 siz48 (hM.b 1 rfl) rfl rfl) ?_
     refine GL.v (.pointer (some ⟨g22, 0, none⟩)) ?_
     refine GL.r (.agg #[.slice A2 n2 c2, .bool m2, .slice A2_ n2_ c2_]) (fun _ hM => op_load_agg (off := 0) (by kernel_rfl) agg48 siz48 (hM.b 0 rfl) rfl rfl) ?_
     refine GL.call (fun _ hM => RCmp_ok hM.avlt (Vk.fst (hM.f 1 rfl)) (Vk.fst (hM.f 0 rfl)) (by first | assumption | omega | (dsimp only; omega))) ?_
     rintro _ _ _ hM ⟨rfl, hb⟩
     refine ⟨_, _, _, rfl, hM.call hb, ?_⟩
     refine GL.v (.bool true) ?_ (hr := fun u => op_b (b := (((a.1.num * (b.1.den : Int) - b.1.num * (a.1.den : Int)).sign) == (0 : Int))) (by kernel_rfl) ((rc_is _ _).trans hk23))
     refine GL.v (.bool true) ?_
     refine GL.v (.pointer (some ⟨g21, 3, none⟩)) ?_
     refine GL.r (.agg #[.slice A1z n1z c1z, .bool m1z, .slice A1z_ n1z_ c1z_]) (fun _ hM => op_load_agg (off := 3) (by kernel_rfl) agg48 siz48 (hM.b 1 rfl) rfl rfl) ?_
     refine GL.v (.pointer (some ⟨g22, 3, none⟩)) ?_
     refine GL.r (.agg #[.slice A2z n2z c2z, .bool m2z, .slice A2z_ n2z_ c2z_]) (fun _ hM => op_load_agg (off := 3) (by kernel_rfl) agg48 siz48 (hM.b 0 rfl) rfl rfl) ?_
     refine GL.call (fun _ hM => RCmp_ok hM.avlt (Vk.snd (hM.f 1 rfl)) (Vk.snd (hM.f 0 rfl)) (by first | assumption | omega | (dsimp only; omega))) ?_
     rintro _ _ _ hM ⟨rfl, hb⟩
     refine ⟨_, _, _, rfl, hM.call hb, ?_⟩
     refine GL.v (.bool true) ?_ (hr := fun u => op_b (b := (((a.2.num * (b.2.den : Int) - b.2.num * (a.2.den : Int)).sign) == (0 : Int))) (by kernel_rfl) ((rc_is _ _).trans hk24))
     refine GL.v (.bool true) ?_
     refine GL.v (.bool true) ?_
     refine GL.k k1 ?_
     refine CG.ret (QG.ret (fun _ hM => results_one rfl (res_tmp rfl)) ?_)
     intro _ hM
     exact ⟨ret_bool (by rw [hk23, hk24]; rfl), hM.below⟩
   · have hk24 : (decide (a.2 = b.2)) = false := decide_eq_false hc24
     refine CG.lin 15 ?_
     refine GL.v (.pointer (some ⟨g21, 0, none⟩)) ?_
     refine GL.r (.agg #[.slice A1 n1 c1, .bool m1, .slice A1_ n1_ c1_]) (fun _ hM => op_load_agg (off := 0) (by kernel_rfl) agg48 siz48 (hM.b 1 rfl) rfl rfl) ?_
     refine GL.v (.pointer (some ⟨g22, 0, none⟩)) ?_
     refine GL.r (.agg #[.slice A2 n2 c2, .bool m2, .slice A2_ n2_ c2_]) (fun _ hM => op_load_agg (off := 0) (by kernel_rfl) agg48 siz48 (hM.b 0 rfl) rfl rfl) ?_
     refine GL.call (fun _ hM => RCmp_ok hM.avlt (Vk.fst (hM.f 1 rfl)) (Vk.fst (hM.f 0 rfl)) (by first | assumption | omega | (dsimp only; omega))) ?_
     rintro _ _ _ hM ⟨rfl, hb⟩
     refine ⟨_, _, _, rfl, hM.call hb, ?_⟩
     refine GL.v (.bool true) ?_ (hr := fun u => op_b (b := (((a.1.num * (b.1.den : Int) - b.1.num * (a.1.den : Int)).sign) == (0 : Int))) (by kernel_rfl) ((rc_is _ _).trans hk23))
     refine GL.v (.bool true) ?_
     refine GL.v (.pointer (some ⟨g21, 3, none⟩)) ?_
     refine GL.r (.agg #[.slice A1z n1z c1z, .bool m1z, .slice A1z_ n1z_ c1z_]) (fun _ hM => op_load_agg (off := 3) (by kernel_rfl) agg48 siz48 (hM.b 1 rfl) rfl rfl) ?_
     refine GL.v (.pointer (some ⟨g22, 3, none⟩)) ?_
     refine GL.r (.agg #[.slice A2z n2z c2z, .bool m2z, .slice A2z_ n2z_ c2z_]) (fun _ hM => op_load_agg (off := 3) (by kernel_rfl) agg48 siz48 (hM.b 0 rfl) rfl rfl) ?_
     refine GL.call (fun _ hM => RCmp_ok hM.avlt (Vk.snd (hM.f 1 rfl)) (Vk.snd (hM.f 0 rfl)) (by first | assumption | omega | (dsimp only; omega))) ?_
     rintro _ _ _ hM ⟨rfl, hb⟩
     refine ⟨_, _, _, rfl, hM.call hb, ?_⟩
     refine GL.v (.bool false) ?_ (hr := fun u => op_b (b := (((a.2.num * (b.2.den : Int) - b.2.num * (a.2.den : Int)).sign) == (0 : Int))) (by kernel_rfl) ((rc_is _ _).trans hk24))
     refine GL.v (.bool false) ?_
     refine GL.v (.bool false) ?_
     refine GL.k k1 ?_
     refine CG.ret (QG.ret (fun _ hM => results_one rfl (res_tmp rfl)) ?_)
     intro _ hM
     exact ⟨ret_bool (by rw [hk23, hk24]; rfl), hM.below⟩
 · have hk23 : (decide (a.1 = b.1)) = false := decide_eq_false hc23
   by_cases hc29 : a.2 = b.2
   · have hk29 : (decide (a.2 = b.2)) = true := decide_eq_true hc29
     refine CG.lin 15 ?_
     refine GL.v (.pointer (some ⟨g21, 0, none⟩)) ?_
     refine GL.r (.agg #[.slice A1 n1 c1, .bool m1, .slice A1_ n1_ c1_]) (fun _ hM => op_load_agg (off := 0) (by kernel_rfl) agg48 siz48 (hM.b 1 rfl) rfl rfl) ?_
     refine GL.v (.pointer (some ⟨g22, 0, none⟩)) ?_
     refine GL.r (.agg #[.slice A2 n2 c2, .bool m2, .slice A2_ n2_ c2_]) (fun _ hM => op_load_agg (off := 0) (by kernel_rfl) agg48 siz48 (hM.b 0 rfl) rfl rfl) ?_
     refine GL.call (fun _ hM => RCmp_ok hM.avlt (Vk.fst (hM.f 1 rfl)) (Vk.fst (hM.f 0 rfl)) (by first | assumption | omega | (dsimp only; omega))) ?_
     rintro _ _ _ hM ⟨rfl, hb⟩
     refine ⟨_, _, _, rfl, hM.call hb, ?_⟩
     refine GL.v (.bool false) ?_ (hr := fun u => op_b (b := (((a.1.num * (b.1.den : Int) - b.1.num * (a.1.den : Int)).sign) == (0 : Int))) (by kernel_rfl) ((rc_is _ _).trans hk23))
     refine GL.v (.bool false) ?_
     refine GL.sk ?_
     refine GL.sk ?_
     refine GL.sk ?_
     refine GL.sk ?_
     refine GL.sk ?_
     refine GL.sk ?_
     refine GL.v (.bool false) ?_
     refine GL.v (.bool false) ?_
     refine GL.k k1 ?_
     refine CG.ret (QG.ret (fun _ hM => results_one rfl (res_tmp rfl)) ?_)
     intro _ hM
     exact ⟨ret_bool (by rw [hk23, hk29]; rfl), hM.below⟩
   · have hk29 : (decide (a.2 = b.2)) = false := decide_eq_false hc29
     refine CG.lin 15 ?_
     refine GL.v (.pointer (some ⟨g21, 0, none⟩)) ?_
     refine GL.r (.agg #[.slice A1 n1 c1, .bool m1, .slice A1_ n1_ c1_]) (fun _ hM => op_load_agg (off := 0) (by kernel_rfl) agg48 siz48 (hM.b 1 rfl) rfl rfl) ?_
     refine GL.v (.pointer (some ⟨g22, 0, none⟩)) ?_
     refine GL.r (.agg #[.slice A2 n2 c2, .bool m2, .slice A2_ n2_ c2_]) (fun _ hM => op_load_agg (off := 0) (by kernel_rfl) agg48 siz48 (hM.b 0 rfl) rfl rfl) ?_
     refine GL.call (fun _ hM => RCmp_ok hM.avlt (Vk.fst (hM.f 1 rfl)) (Vk.fst (hM.f 0 rfl)) (by first | assumption | omega | (dsimp only; omega))) ?_
     rintro _ _ _ hM ⟨rfl, hb⟩
     refine ⟨_, _, _, rfl, hM.call hb, ?_⟩
     refine GL.v (.bool false) ?_ (hr := fun u => op_b (b := (((a.1.num * (b.1.den : Int) - b.1.num * (a.1.den : Int)).sign) == (0 : Int))) (by kernel_rfl) ((rc_is _ _).trans hk23))
     refine GL.v (.bool false) ?_
     refine GL.sk ?_
     refine GL.sk ?_
     refine GL.sk ?_
     refine GL.sk ?_
     refine GL.sk ?_
     refine GL.sk ?_
     refine GL.v (.bool false) ?_
     refine GL.v (.bool false) ?_
     refine GL.k k1 ?_
     refine CG.ret (QG.ret (fun _ hM => results_one rfl (res_tmp rfl)) ?_)
     intro _ hM
     exact ⟨ret_bool (by rw [hk23, hk29]; rfl), hM.below⟩

set_option maxRecDepth 100000 in
set_option maxHeartbeats 400000 in
theorem NVAdd_ok {w : World} {X : Nat → Prop} {s1 : Int} {A1 : Option Addr} {n1 : Nat} {c1 : Nat} {s1_ : Int} {A1_ : Option Addr} {n1_ : Nat} {c1_ : Nat} {s1z : Int} {A1z : Option Addr} {n1z : Nat} {c1z : Nat} {s1z_ : Int} {A1z_ : Option Addr} {n1z_ : Nat} {c1z_ : Nat} {a : Rat × Rat} {s2 : Int} {A2 : Option Addr} {n2 : Nat} {c2 : Nat} {s2_ : Int} {A2_ : Option Addr} {n2_ : Nat} {c2_ : Nat} {s2z : Int} {A2z : Option Addr} {n2z : Nat} {c2z : Nat} {s2z_ : Int} {A2z_ : Option Addr} {n2z_ : Nat} {c2z_ : Nat} {b : Rat × Rat} (hX : ∀ k, X k → k < w.heap.size) (h1 : NVk.R X w [.int .i64 s1, .slice A1 n1 c1, .int .i64 s1_, .slice A1_ n1_ c1_, .int .i64 s1z, .slice A1z n1z c1z, .int .i64 s1z_, .slice A1z_ n1z_ c1z_] a) (h2 : NVk.R X w [.int .i64 s2, .slice A2 n2 c2, .int .i64 s2_, .slice A2_ n2_ c2_, .int .i64 s2z, .slice A2z n2z c2z, .int .i64 s2z_, .slice A2z_ n2z_ c2z_] b) (p1 : szgR a.1 + szgR b.1 ≤ 268435456) (p2 : szgR a.2 + szgR b.2 ≤ 268435456) :
    Calls Tryz.prog 87 #[.agg #[.int .i64 s1, .slice A1 n1 c1, .int .i64 s1_, .slice A1_ n1_ c1_, .int .i64 s1z, .slice A1z n1z c1z, .int .i64 s1z_, .slice A1z_ n1z_ c1z_], .agg #[.int .i64 s2, .slice A2 n2 c2, .int .i64 s2_, .slice A2_ n2_ c2_, .int .i64 s2z, .slice A2z n2z c2z, .int .i64 s2z_, .slice A2z_ n2z_ c2z_]] w (fun e w' => ∃ sr Ar nr cr sr_ Ar_ nr_ cr_ srz Arz nrz crz srz_ Arz_ nrz_ crz_, e = .returned (.agg #[.int .i64 sr, .slice Ar nr cr, .int .i64 sr_, .slice Ar_ nr_ cr_, .int .i64 srz, .slice Arz nrz crz, .int .i64 srz_, .slice Arz_ nrz_ crz_]) ∧ NVk.R X w' [.int .i64 sr, .slice Ar nr cr, .int .i64 sr_, .slice Ar_ nr_ cr_, .int .i64 srz, .slice Arz nrz crz, .int .i64 srz_, .slice Arz_ nrz_ crz_] (a.1 + b.1, a.2 + b.2) ∧ Below w.heap.size w w') := by
 have hM := ((Mem.start hX).add0 h1).add0 h2
 refine calls_of hM Tryz.func87 Tryz.ntmps87 ?_
 refine CG.seq fun K_ k1 => ?_
 refine CG.lin 3 ?_
 refine GL.bA #[.int .i64 s1, .slice A1 n1 c1, .int .i64 s1_, .slice A1_ n1_ c1_, .int .i64 s1z, .slice A1z n1z c1z, .int .i64 s1z_, .slice A1z_ n1z_ c1z_] fun g21 => ?_
 refine GL.bA #[.int .i64 s2, .slice A2 n2 c2, .int .i64 s2_, .slice A2_ n2_ c2_, .int .i64 s2z, .slice A2z n2z c2z, .int .i64 s2z_, .slice A2z_ n2z_ c2z_] fun g22 => ?_
 refine GL.aA zer105 fun g23 => ?_
 refine GL.k k1 ?_
 refine CG.seq fun K_ k1 => ?_
 refine CG.draw [] [0, 1, 2, 3, 5, 6, 7, 8, 10] (.step 0 (.step 1 (.step 2 (.step 3 (.step 5 (.step 6 (.step 7 (.step 8 (.step 4 (.step 9 (.step 10 (.step 11 .done)))))))))))) (fun V hV24 => ?_)
 refine GD.ev (.pointer (some ⟨g21, 0, none⟩)) ?_
 refine GD.er (.agg #[.int .i64 s1, .slice A1 n1 c1, .int .i64 s1_, .slice A1_ n1_ c1_]) (fun _ hS => op_load_agg (off := 0) (by kernel_rfl) agg54 siz54 (hV24.bS 2 rfl hS) rfl rfl) ?_
 refine GD.ev (.pointer (some ⟨g22, 0, none⟩)) ?_
 refine GD.er (.agg #[.int .i64 s2, .slice A2 n2 c2, .int .i64 s2_, .slice A2_ n2_ c2_]) (fun _ hS => op_load_agg (off := 0) (by kernel_rfl) agg54 siz54 (hV24.bS 1 rfl hS) rfl rfl) ?_
 refine GD.ev (.pointer (some ⟨g21, 4, none⟩)) ?_
 refine GD.er (.agg #[.int .i64 s1z, .slice A1z n1z c1z, .int .i64 s1z_, .slice A1z_ n1z_ c1z_]) (fun _ hS => op_load_agg (off := 4) (by kernel_rfl) agg54 siz54 (hV24.bS 2 rfl hS) rfl rfl) ?_
 refine GD.ev (.pointer (some ⟨g22, 4, none⟩)) ?_
 refine GD.er (.agg #[.int .i64 s2z, .slice A2z n2z c2z, .int .i64 s2z_, .slice A2z_ n2z_ c2z_]) (fun _ hS => op_load_agg (off := 4) (by kernel_rfl) agg54 siz54 (hV24.bS 1 rfl hS) rfl rfl) ?_
 refine GD.call (fun _ hM => NAdd_ok hM.avlt (NVk.fst (hM.f 1 rfl)) (NVk.fst (hM.f 0 rfl)) (by first | assumption | omega | (dsimp only; omega))) ?_
 rintro _ _ _ hM ⟨s25, A25, n25, c25, s25_, A25_, n25_, c25_, rfl, h25, hb⟩
 have hs25 := szgR_add a.1 b.1
 refine ⟨_, _, _, rfl, hb, (hM.call hb).add h25, ?_⟩
 refine GD.call (fun _ hM => NAdd_ok hM.avlt (NVk.snd (hM.f 2 rfl)) (NVk.snd (hM.f 1 rfl)) (by first | assumption | omega | (dsimp only; omega))) ?_
 rintro _ _ _ hM ⟨s26, A26, n26, c26, s26_, A26_, n26_, c26_, rfl, h26, hb⟩
 have hs26 := szgR_add a.2 b.2
 refine ⟨_, _, _, rfl, hb, (hM.call hb).add h26, ?_⟩
 refine GD.ev (.agg #[.int .i64 s25, .slice A25 n25 c25, .int .i64 s25_, .slice A25_ n25_ c25_, .int .i64 s26, .slice A26 n26 c26, .int .i64 s26_, .slice A26_ n26_ c26_]) ?_
 refine GD.st (fun _ _ => Mem.st0) (fun _ hM => store_all (cs' := #[.int .i64 s25, .slice A25 n25 c25, .int .i64 s25_, .slice A25_ n25_ c25_, .int .i64 s26, .slice A26 n26 c26, .int .i64 s26_, .slice A26_ n26_ c26_]) siz105 (hM.b 0 rfl) (by kernel_rfl) (by kernel_rfl) rfl (by kernel_rfl) (by kernel_rfl)) ?_
 refine GD.k k1 ?_
 refine CG.ret (QG.ret (fun _ hM => results_one rfl (res_cell rfl (loadVar_agg agg105 siz105 (hM.b 0 rfl) rfl rfl))) ?_)
 intro _ hM
 exact ⟨_, _, _, _, _, _, _, _, _, _, _, _, _, _, _, _, rfl, (hM.out (NVk.of (hM.f 1 rfl) (hM.f 0 rfl))), hM.below⟩

set_option maxRecDepth 100000 in
set_option maxHeartbeats 400000 in
theorem NVSub_ok {w : World} {X : Nat → Prop} {s1 : Int} {A1 : Option Addr} {n1 : Nat} {c1 : Nat} {s1_ : Int} {A1_ : Option Addr} {n1_ : Nat} {c1_ : Nat} {s1z : Int} {A1z : Option Addr} {n1z : Nat} {c1z : Nat} {s1z_ : Int} {A1z_ : Option Addr} {n1z_ : Nat} {c1z_ : Nat} {a : Rat × Rat} {s2 : Int} {A2 : Option Addr} {n2 : Nat} {c2 : Nat} {s2_ : Int} {A2_ : Option Addr} {n2_ : Nat} {c2_ : Nat} {s2z : Int} {A2z : Option Addr} {n2z : Nat} {c2z : Nat} {s2z_ : Int} {A2z_ : Option Addr} {n2z_ : Nat} {c2z_ : Nat} {b : Rat × Rat} (hX : ∀ k, X k → k < w.heap.size) (h1 : NVk.R X w [.int .i64 s1, .slice A1 n1 c1, .int .i64 s1_, .slice A1_ n1_ c1_, .int .i64 s1z, .slice A1z n1z c1z, .int .i64 s1z_, .slice A1z_ n1z_ c1z_] a) (h2 : NVk.R X w [.int .i64 s2, .slice A2 n2 c2, .int .i64 s2_, .slice A2_ n2_ c2_, .int .i64 s2z, .slice A2z n2z c2z, .int .i64 s2z_, .slice A2z_ n2z_ c2z_] b) (p1 : szgR a.1 + szgR b.1 ≤ 268435456) (p2 : szgR a.2 + szgR b.2 ≤ 268435456) :
    Calls Tryz.prog 89 #[.agg #[.int .i64 s1, .slice A1 n1 c1, .int .i64 s1_, .slice A1_ n1_ c1_, .int .i64 s1z, .slice A1z n1z c1z, .int .i64 s1z_, .slice A1z_ n1z_ c1z_], .agg #[.int .i64 s2, .slice A2 n2 c2, .int .i64 s2_, .slice A2_ n2_ c2_, .int .i64 s2z, .slice A2z n2z c2z, .int .i64 s2z_, .slice A2z_ n2z_ c2z_]] w (fun e w' => ∃ sr Ar nr cr sr_ Ar_ nr_ cr_ srz Arz nrz crz srz_ Arz_ nrz_ crz_, e = .returned (.agg #[.int .i64 sr, .slice Ar nr cr, .int .i64 sr_, .slice Ar_ nr_ cr_, .int .i64 srz, .slice Arz nrz crz, .int .i64 srz_, .slice Arz_ nrz_ crz_]) ∧ NVk.R X w' [.int .i64 sr, .slice Ar nr cr, .int .i64 sr_, .slice Ar_ nr_ cr_, .int .i64 srz, .slice Arz nrz crz, .int .i64 srz_, .slice Arz_ nrz_ crz_] (a.1 - b.1, a.2 - b.2) ∧ Below w.heap.size w w') := by
 have hM := ((Mem.start hX).add0 h1).add0 h2
 refine calls_of hM Tryz.func89 Tryz.ntmps89 ?_
 refine CG.seq fun K_ k1 => ?_
 refine CG.lin 3 ?_
 refine GL.bA #[.int .i64 s1, .slice A1 n1 c1, .int .i64 s1_, .slice A1_ n1_ c1_, .int .i64 s1z, .slice A1z n1z c1z, .int .i64 s1z_, .slice A1z_ n1z_ c1z_] fun g21 => ?_
 refine GL.bA #[.int .i64 s2, .slice A2 n2 c2, .int .i64 s2_, .slice A2_ n2_ c2_, .int .i64 s2z, .slice A2z n2z c2z, .int .i64 s2z_, .slice A2z_ n2z_ c2z_] fun g22 => ?_
 refine GL.aA zer105 fun g23 => ?_
 refine GL.k k1 ?_
 refine CG.seq fun K_ k1 => ?_
 refine CG.draw [] [0, 1, 2, 3, 5, 6, 7, 8, 10] (.step 0 (.step 1 (.step 2 (.step 3 (.step 5 (.step 6 (.step 7 (.step 8 (.step 4 (.step 9 (.step 10 (.step 11 .done)))))))))))) (fun V hV24 => ?_)
 refine GD.ev (.pointer (some ⟨g21, 0, none⟩)) ?_
 refine GD.er (.agg #[.int .i64 s1, .slice A1 n1 c1, .int .i64 s1_, .slice A1_ n1_ c1_]) (fun _ hS => op_load_agg (off := 0) (by kernel_rfl) agg54 siz54 (hV24.bS 2 rfl hS) rfl rfl) ?_
 refine GD.ev (.pointer (some ⟨g22, 0, none⟩)) ?_
 refine GD.er (.agg #[.int .i64 s2, .slice A2 n2 c2, .int .i64 s2_, .slice A2_ n2_ c2_]) (fun _ hS => op_load_agg (off := 0) (by kernel_rfl) agg54 siz54 (hV24.bS 1 rfl hS) rfl rfl) ?_
 refine GD.ev (.pointer (some ⟨g21, 4, none⟩)) ?_
 refine GD.er (.agg #[.int .i64 s1z, .slice A1z n1z c1z, .int .i64 s1z_, .slice A1z_ n1z_ c1z_]) (fun _ hS => op_load_agg (off := 4) (by kernel_rfl) agg54 siz54 (hV24.bS 2 rfl hS) rfl rfl) ?_
 refine GD.ev (.pointer (some ⟨g22, 4, none⟩)) ?_
 refine GD.er (.agg #[.int .i64 s2z, .slice A2z n2z c2z, .int .i64 s2z_, .slice A2z_ n2z_ c2z_]) (fun _ hS => op_load_agg (off := 4) (by kernel_rfl) agg54 siz54 (hV24.bS 1 rfl hS) rfl rfl) ?_
 refine GD.call (fun _ hM => NSub_ok hM.avlt (NVk.fst (hM.f 1 rfl)) (NVk.fst (hM.f 0 rfl)) (by first | assumption | omega | (dsimp only; omega))) ?_
 rintro _ _ _ hM ⟨s25, A25, n25, c25, s25_, A25_, n25_, c25_, rfl, h25, hb⟩
 have hs25 := szgR_sub a.1 b.1
 refine ⟨_, _, _, rfl, hb, (hM.call hb).add h25, ?_⟩
 refine GD.call (fun _ hM => NSub_ok hM.avlt (NVk.snd (hM.f 2 rfl)) (NVk.snd (hM.f 1 rfl)) (by first | assumption | omega | (dsimp only; omega))) ?_
 rintro _ _ _ hM ⟨s26, A26, n26, c26, s26_, A26_, n26_, c26_, rfl, h26, hb⟩
 have hs26 := szgR_sub a.2 b.2
 refine ⟨_, _, _, rfl, hb, (hM.call hb).add h26, ?_⟩
 refine GD.ev (.agg #[.int .i64 s25, .slice A25 n25 c25, .int .i64 s25_, .slice A25_ n25_ c25_, .int .i64 s26, .slice A26 n26 c26, .int .i64 s26_, .slice A26_ n26_ c26_]) ?_
 refine GD.st (fun _ _ => Mem.st0) (fun _ hM => store_all (cs' := #[.int .i64 s25, .slice A25 n25 c25, .int .i64 s25_, .slice A25_ n25_ c25_, .int .i64 s26, .slice A26 n26 c26, .int .i64 s26_, .slice A26_ n26_ c26_]) siz105 (hM.b 0 rfl) (by kernel_rfl) (by kernel_rfl) rfl (by kernel_rfl) (by kernel_rfl)) ?_
 refine GD.k k1 ?_
 refine CG.ret (QG.ret (fun _ hM => results_one rfl (res_cell rfl (loadVar_agg agg105 siz105 (hM.b 0 rfl) rfl rfl))) ?_)
 intro _ hM
 exact ⟨_, _, _, _, _, _, _, _, _, _, _, _, _, _, _, _, rfl, (hM.out (NVk.of (hM.f 1 rfl) (hM.f 0 rfl))), hM.below⟩

set_option maxRecDepth 100000 in
set_option maxHeartbeats 400000 in
theorem NVScale_ok {w : World} {X : Nat → Prop} {s1 : Int} {A1 : Option Addr} {n1 : Nat} {c1 : Nat} {s1_ : Int} {A1_ : Option Addr} {n1_ : Nat} {c1_ : Nat} {s1z : Int} {A1z : Option Addr} {n1z : Nat} {c1z : Nat} {s1z_ : Int} {A1z_ : Option Addr} {n1z_ : Nat} {c1z_ : Nat} {a : Rat × Rat} {s2 : Int} {A2 : Option Addr} {n2 : Nat} {c2 : Nat} {s2_ : Int} {A2_ : Option Addr} {n2_ : Nat} {c2_ : Nat} {k : Rat} (hX : ∀ k, X k → k < w.heap.size) (h1 : NVk.R X w [.int .i64 s1, .slice A1 n1 c1, .int .i64 s1_, .slice A1_ n1_ c1_, .int .i64 s1z, .slice A1z n1z c1z, .int .i64 s1z_, .slice A1z_ n1z_ c1z_] a) (h2 : NRk.R X w [.int .i64 s2, .slice A2 n2 c2, .int .i64 s2_, .slice A2_ n2_ c2_] k) (p1 : szgR a.1 + szgR k ≤ 268435456) (p2 : szgR a.2 + szgR k ≤ 268435456) :
    Calls Tryz.prog 91 #[.agg #[.int .i64 s1, .slice A1 n1 c1, .int .i64 s1_, .slice A1_ n1_ c1_, .int .i64 s1z, .slice A1z n1z c1z, .int .i64 s1z_, .slice A1z_ n1z_ c1z_], .agg #[.int .i64 s2, .slice A2 n2 c2, .int .i64 s2_, .slice A2_ n2_ c2_]] w (fun e w' => ∃ sr Ar nr cr sr_ Ar_ nr_ cr_ srz Arz nrz crz srz_ Arz_ nrz_ crz_, e = .returned (.agg #[.int .i64 sr, .slice Ar nr cr, .int .i64 sr_, .slice Ar_ nr_ cr_, .int .i64 srz, .slice Arz nrz crz, .int .i64 srz_, .slice Arz_ nrz_ crz_]) ∧ NVk.R X w' [.int .i64 sr, .slice Ar nr cr, .int .i64 sr_, .slice Ar_ nr_ cr_, .int .i64 srz, .slice Arz nrz crz, .int .i64 srz_, .slice Arz_ nrz_ crz_] (a.1 * k, a.2 * k) ∧ Below w.heap.size w w') := by
 have hM := ((Mem.start hX).add0 h1).add0 h2
 refine calls_of hM Tryz.func91 Tryz.ntmps91 ?_
 refine CG.seq fun K_ k1 => ?_
 refine CG.lin 3 ?_
 refine GL.bA #[.int .i64 s1, .slice A1 n1 c1, .int .i64 s1_, .slice A1_ n1_ c1_, .int .i64 s1z, .slice A1z n1z c1z, .int .i64 s1z_, .slice A1z_ n1z_ c1z_] fun g21 => ?_
 refine GL.bA #[.int .i64 s2, .slice A2 n2 c2, .int .i64 s2_, .slice A2_ n2_ c2_] fun g22 => ?_
 refine GL.aA zer105 fun g23 => ?_
 refine GL.k k1 ?_
 refine CG.seq fun K_ k1 => ?_
 refine CG.draw [] [0, 1, 2, 4, 5, 6, 8] (.step 0 (.step 1 (.step 2 (.step 4 (.step 5 (.step 6 (.step 3 (.step 7 (.step 8 (.step 9 .done)))))))))) (fun V hV24 => ?_)
 refine GD.ev (.pointer (some ⟨g21, 0, none⟩)) ?_
 refine GD.er (.agg #[.int .i64 s1, .slice A1 n1 c1, .int .i64 s1_, .slice A1_ n1_ c1_]) (fun _ hS => op_load_agg (off := 0) (by kernel_rfl) agg54 siz54 (hV24.bS 2 rfl hS) rfl rfl) ?_
 refine GD.er (.agg #[.int .i64 s2, .slice A2 n2 c2, .int .i64 s2_, .slice A2_ n2_ c2_]) (fun _ hS => op_load_agg (off := 0) (by kernel_rfl) agg54 siz54 (hV24.bS 1 rfl hS) rfl rfl) ?_
 refine GD.ev (.pointer (some ⟨g21, 4, none⟩)) ?_
 refine GD.er (.agg #[.int .i64 s1z, .slice A1z n1z c1z, .int .i64 s1z_, .slice A1z_ n1z_ c1z_]) (fun _ hS => op_load_agg (off := 4) (by kernel_rfl) agg54 siz54 (hV24.bS 2 rfl hS) rfl rfl) ?_
 refine GD.er (.agg #[.int .i64 s2, .slice A2 n2 c2, .int .i64 s2_, .slice A2_ n2_ c2_]) (fun _ hS => op_load_agg (off := 0) (by kernel_rfl) agg54 siz54 (hV24.bS 1 rfl hS) rfl rfl) ?_
 refine GD.call (fun _ hM => NMul_ok hM.avlt (NVk.fst (hM.f 1 rfl)) (hM.f 0 rfl) (by first | assumption | omega | (dsimp only; omega))) ?_
 rintro _ _ _ hM ⟨s25, A25, n25, c25, s25_, A25_, n25_, c25_, rfl, h25, hb⟩
 have hs25 := szgR_mul a.1 k
 refine ⟨_, _, _, rfl, hb, (hM.call hb).add h25, ?_⟩
 refine GD.call (fun _ hM => NMul_ok hM.avlt (NVk.snd (hM.f 2 rfl)) (hM.f 1 rfl) (by first | assumption | omega | (dsimp only; omega))) ?_
 rintro _ _ _ hM ⟨s26, A26, n26, c26, s26_, A26_, n26_, c26_, rfl, h26, hb⟩
 have hs26 := szgR_mul a.2 k
 refine ⟨_, _, _, rfl, hb, (hM.call hb).add h26, ?_⟩
 refine GD.ev (.agg #[.int .i64 s25, .slice A25 n25 c25, .int .i64 s25_, .slice A25_ n25_ c25_, .int .i64 s26, .slice A26 n26 c26, .int .i64 s26_, .slice A26_ n26_ c26_]) ?_
 refine GD.st (fun _ _ => Mem.st0) (fun _ hM => store_all (cs' := #[.int .i64 s25, .slice A25 n25 c25, .int .i64 s25_, .slice A25_ n25_ c25_, .int .i64 s26, .slice A26 n26 c26, .int .i64 s26_, .slice A26_ n26_ c26_]) siz105 (hM.b 0 rfl) (by kernel_rfl) (by kernel_rfl) rfl (by kernel_rfl) (by kernel_rfl)) ?_
 refine GD.k k1 ?_
 refine CG.ret (QG.ret (fun _ hM => results_one rfl (res_cell rfl (loadVar_agg agg105 siz105 (hM.b 0 rfl) rfl rfl))) ?_)
 intro _ hM
 exact ⟨_, _, _, _, _, _, _, _, _, _, _, _, _, _, _, _, rfl, (hM.out (NVk.of (hM.f 1 rfl) (hM.f 0 rfl))), hM.below⟩

set_option maxRecDepth 100000 in
set_option maxHeartbeats 400000 in
theorem NDot_ok {w : World} {X : Nat → Prop} {s1 : Int} {A1 : Option Addr} {n1 : Nat} {c1 : Nat} {s1_ : Int} {A1_ : Option Addr} {n1_ : Nat} {c1_ : Nat} {s1z : Int} {A1z : Option Addr} {n1z : Nat} {c1z : Nat} {s1z_ : Int} {A1z_ : Option Addr} {n1z_ : Nat} {c1z_ : Nat} {a : Rat × Rat} {s2 : Int} {A2 : Option Addr} {n2 : Nat} {c2 : Nat} {s2_ : Int} {A2_ : Option Addr} {n2_ : Nat} {c2_ : Nat} {s2z : Int} {A2z : Option Addr} {n2z : Nat} {c2z : Nat} {s2z_ : Int} {A2z_ : Option Addr} {n2z_ : Nat} {c2z_ : Nat} {b : Rat × Rat} (hX : ∀ k, X k → k < w.heap.size) (h1 : NVk.R X w [.int .i64 s1, .slice A1 n1 c1, .int .i64 s1_, .slice A1_ n1_ c1_, .int .i64 s1z, .slice A1z n1z c1z, .int .i64 s1z_, .slice A1z_ n1z_ c1z_] a) (h2 : NVk.R X w [.int .i64 s2, .slice A2 n2 c2, .int .i64 s2_, .slice A2_ n2_ c2_, .int .i64 s2z, .slice A2z n2z c2z, .int .i64 s2z_, .slice A2z_ n2z_ c2z_] b) (p1 : szgR a.1 + szgR b.1 + (szgR a.2 + szgR b.2) ≤ 268435456) :
    Calls Tryz.prog 93 #[.agg #[.int .i64 s1, .slice A1 n1 c1, .int .i64 s1_, .slice A1_ n1_ c1_, .int .i64 s1z, .slice A1z n1z c1z, .int .i64 s1z_, .slice A1z_ n1z_ c1z_], .agg #[.int .i64 s2, .slice A2 n2 c2, .int .i64 s2_, .slice A2_ n2_ c2_, .int .i64 s2z, .slice A2z n2z c2z, .int .i64 s2z_, .slice A2z_ n2z_ c2z_]] w (fun e w' => ∃ sr Ar nr cr sr_ Ar_ nr_ cr_, e = .returned (.agg #[.int .i64 sr, .slice Ar nr cr, .int .i64 sr_, .slice Ar_ nr_ cr_]) ∧ NRk.R X w' [.int .i64 sr, .slice Ar nr cr, .int .i64 sr_, .slice Ar_ nr_ cr_] (a.1 * b.1 + a.2 * b.2) ∧ Below w.heap.size w w') := by
 have hM := ((Mem.start hX).add0 h1).add0 h2
 refine calls_of hM Tryz.func93 Tryz.ntmps93 ?_
 refine CG.seq fun K_ k1 => ?_
 refine CG.lin 3 ?_
 refine GL.bA #[.int .i64 s1, .slice A1 n1 c1, .int .i64 s1_, .slice A1_ n1_ c1_, .int .i64 s1z, .slice A1z n1z c1z, .int .i64 s1z_, .slice A1z_ n1z_ c1z_] fun g21 => ?_
 refine GL.bA #[.int .i64 s2, .slice A2 n2 c2, .int .i64 s2_, .slice A2_ n2_ c2_, .int .i64 s2z, .slice A2z n2z c2z, .int .i64 s2z_, .slice A2z_ n2z_ c2z_] fun g22 => ?_
 refine GL.aA zer54 fun g23 => ?_
 refine GL.k k1 ?_
 refine CG.seq fun K_ k1 => ?_
 refine CG.draw [] [0, 1, 2, 3, 5, 6, 7, 8] (.step 0 (.step 1 (.step 2 (.step 3 (.step 5 (.step 6 (.step 7 (.step 8 (.step 4 (.step 9 (.step 10 (.step 11 .done)))))))))))) (fun V hV24 => ?_)
 refine GD.ev (.pointer (some ⟨g21, 0, none⟩)) ?_
 refine GD.er (.agg #[.int .i64 s1, .slice A1 n1 c1, .int .i64 s1_, .slice A1_ n1_ c1_]) (fun _ hS => op_load_agg (off := 0) (by kernel_rfl) agg54 siz54 (hV24.bS 2 rfl hS) rfl rfl) ?_
 refine GD.ev (.pointer (some ⟨g22, 0, none⟩)) ?_
 refine GD.er (.agg #[.int .i64 s2, .slice A2 n2 c2, .int .i64 s2_, .slice A2_ n2_ c2_]) (fun _ hS => op_load_agg (off := 0) (by kernel_rfl) agg54 siz54 (hV24.bS 1 rfl hS) rfl rfl) ?_
 refine GD.ev (.pointer (some ⟨g21, 4, none⟩)) ?_
 refine GD.er (.agg #[.int .i64 s1z, .slice A1z n1z c1z, .int .i64 s1z_, .slice A1z_ n1z_ c1z_]) (fun _ hS => op_load_agg (off := 4) (by kernel_rfl) agg54 siz54 (hV24.bS 2 rfl hS) rfl rfl) ?_
 refine GD.ev (.pointer (some ⟨g22, 4, none⟩)) ?_
 refine GD.er (.agg #[.int .i64 s2z, .slice A2z n2z c2z, .int .i64 s2z_, .slice A2z_ n2z_ c2z_]) (fun _ hS => op_load_agg (off := 4) (by kernel_rfl) agg54 siz54 (hV24.bS 1 rfl hS) rfl rfl) ?_
 refine GD.call (fun _ hM => NMul_ok hM.avlt (NVk.fst (hM.f 1 rfl)) (NVk.fst (hM.f 0 rfl)) (by first | assumption | omega | (dsimp only; omega))) ?_
 rintro _ _ _ hM ⟨s25, A25, n25, c25, s25_, A25_, n25_, c25_, rfl, h25, hb⟩
 have hs25 := szgR_mul a.1 b.1
 refine ⟨_, _, _, rfl, hb, (hM.call hb).add h25, ?_⟩
 refine GD.call (fun _ hM => NMul_ok hM.avlt (NVk.snd (hM.f 2 rfl)) (NVk.snd (hM.f 1 rfl)) (by first | assumption | omega | (dsimp only; omega))) ?_
 rintro _ _ _ hM ⟨s26, A26, n26, c26, s26_, A26_, n26_, c26_, rfl, h26, hb⟩
 have hs26 := szgR_mul a.2 b.2
 refine ⟨_, _, _, rfl, hb, (hM.call hb).add h26, ?_⟩
 refine GD.call (fun _ hM => NAdd_ok hM.avlt (hM.f 1 rfl) (hM.f 0 rfl) (by first | assumption | omega | (dsimp only; omega))) ?_
 rintro _ _ _ hM ⟨s27, A27, n27, c27, s27_, A27_, n27_, c27_, rfl, h27, hb⟩
 have hs27 := szgR_add (a.1 * b.1) (a.2 * b.2)
 refine ⟨_, _, _, rfl, hb, (hM.call hb).add h27, ?_⟩
 refine GD.st (fun _ _ => Mem.st0) (fun _ hM => store_all (cs' := #[.int .i64 s27, .slice A27 n27 c27, .int .i64 s27_, .slice A27_ n27_ c27_]) siz54 (hM.b 0 rfl) (by kernel_rfl) (by kernel_rfl) rfl rfl rfl) ?_
 refine GD.k k1 ?_
 refine CG.ret (QG.ret (fun _ hM => results_one rfl (res_cell rfl (loadVar_agg agg54 siz54 (hM.b 0 rfl) rfl rfl))) ?_)
 intro _ hM
 exact ⟨_, _, _, _, _, _, _, _, rfl, (hM.out (hM.f 0 rfl)), hM.below⟩

set_option maxRecDepth 100000 in
set_option maxHeartbeats 400000 in
theorem NCross_ok {w : World} {X : Nat → Prop} {s1 : Int} {A1 : Option Addr} {n1 : Nat} {c1 : Nat} {s1_ : Int} {A1_ : Option Addr} {n1_ : Nat} {c1_ : Nat} {s1z : Int} {A1z : Option Addr} {n1z : Nat} {c1z : Nat} {s1z_ : Int} {A1z_ : Option Addr} {n1z_ : Nat} {c1z_ : Nat} {a : Rat × Rat} {s2 : Int} {A2 : Option Addr} {n2 : Nat} {c2 : Nat} {s2_ : Int} {A2_ : Option Addr} {n2_ : Nat} {c2_ : Nat} {s2z : Int} {A2z : Option Addr} {n2z : Nat} {c2z : Nat} {s2z_ : Int} {A2z_ : Option Addr} {n2z_ : Nat} {c2z_ : Nat} {b : Rat × Rat} (hX : ∀ k, X k → k < w.heap.size) (h1 : NVk.R X w [.int .i64 s1, .slice A1 n1 c1, .int .i64 s1_, .slice A1_ n1_ c1_, .int .i64 s1z, .slice A1z n1z c1z, .int .i64 s1z_, .slice A1z_ n1z_ c1z_] a) (h2 : NVk.R X w [.int .i64 s2, .slice A2 n2 c2, .int .i64 s2_, .slice A2_ n2_ c2_, .int .i64 s2z, .slice A2z n2z c2z, .int .i64 s2z_, .slice A2z_ n2z_ c2z_] b) (p1 : szgR a.1 + szgR b.1 + (szgR a.2 + szgR b.2) ≤ 268435456) :
    Calls Tryz.prog 95 #[.agg #[.int .i64 s1, .slice A1 n1 c1, .int .i64 s1_, .slice A1_ n1_ c1_, .int .i64 s1z, .slice A1z n1z c1z, .int .i64 s1z_, .slice A1z_ n1z_ c1z_], .agg #[.int .i64 s2, .slice A2 n2 c2, .int .i64 s2_, .slice A2_ n2_ c2_, .int .i64 s2z, .slice A2z n2z c2z, .int .i64 s2z_, .slice A2z_ n2z_ c2z_]] w (fun e w' => ∃ sr Ar nr cr sr_ Ar_ nr_ cr_, e = .returned (.agg #[.int .i64 sr, .slice Ar nr cr, .int .i64 sr_, .slice Ar_ nr_ cr_]) ∧ NRk.R X w' [.int .i64 sr, .slice Ar nr cr, .int .i64 sr_, .slice Ar_ nr_ cr_] (a.1 * b.2 - a.2 * b.1) ∧ Below w.heap.size w w') := by
 have hM := ((Mem.start hX).add0 h1).add0 h2
 refine calls_of hM Tryz.func95 Tryz.ntmps95 ?_
 refine CG.seq fun K_ k1 => ?_
 refine CG.lin 3 ?_
 refine GL.bA #[.int .i64 s1, .slice A1 n1 c1, .int .i64 s1_, .slice A1_ n1_ c1_, .int .i64 s1z, .slice A1z n1z c1z, .int .i64 s1z_, .slice A1z_ n1z_ c1z_] fun g21 => ?_
 refine GL.bA #[.int .i64 s2, .slice A2 n2 c2, .int .i64 s2_, .slice A2_ n2_ c2_, .int .i64 s2z, .slice A2z n2z c2z, .int .i64 s2z_, .slice A2z_ n2z_ c2z_] fun g22 => ?_
 refine GL.aA zer54 fun g23 => ?_
 refine GL.k k1 ?_
 refine CG.seq fun K_ k1 => ?_
 refine CG.draw [] [0, 1, 2, 3, 5, 6, 7, 8] (.step 0 (.step 1 (.step 2 (.step 3 (.step 5 (.step 6 (.step 7 (.step 8 (.step 4 (.step 9 (.step 10 (.step 11 .done)))))))))))) (fun V hV24 => ?_)
 refine GD.ev (.pointer (some ⟨g21, 0, none⟩)) ?_
 refine GD.er (.agg #[.int .i64 s1, .slice A1 n1 c1, .int .i64 s1_, .slice A1_ n1_ c1_]) (fun _ hS => op_load_agg (off := 0) (by kernel_rfl) agg54 siz54 (hV24.bS 2 rfl hS) rfl rfl) ?_
 refine GD.ev (.pointer (some ⟨g22, 4, none⟩)) ?_
 refine GD.er (.agg #[.int .i64 s2z, .slice A2z n2z c2z, .int .i64 s2z_, .slice A2z_ n2z_ c2z_]) (fun _ hS => op_load_agg (off := 4) (by kernel_rfl) agg54 siz54 (hV24.bS 1 rfl hS) rfl rfl) ?_
 refine GD.ev (.pointer (some ⟨g21, 4, none⟩)) ?_
 refine GD.er (.agg #[.int .i64 s1z, .slice A1z n1z c1z, .int .i64 s1z_, .slice A1z_ n1z_ c1z_]) (fun _ hS => op_load_agg (off := 4) (by kernel_rfl) agg54 siz54 (hV24.bS 2 rfl hS) rfl rfl) ?_
 refine GD.ev (.pointer (some ⟨g22, 0, none⟩)) ?_
 refine GD.er (.agg #[.int .i64 s2, .slice A2 n2 c2, .int .i64 s2_, .slice A2_ n2_ c2_]) (fun _ hS => op_load_agg (off := 0) (by kernel_rfl) agg54 siz54 (hV24.bS 1 rfl hS) rfl rfl) ?_
 refine GD.call (fun _ hM => NMul_ok hM.avlt (NVk.fst (hM.f 1 rfl)) (NVk.snd (hM.f 0 rfl)) (by first | assumption | omega | (dsimp only; omega))) ?_
 rintro _ _ _ hM ⟨s25, A25, n25, c25, s25_, A25_, n25_, c25_, rfl, h25, hb⟩
 have hs25 := szgR_mul a.1 b.2
 refine ⟨_, _, _, rfl, hb, (hM.call hb).add h25, ?_⟩
 refine GD.call (fun _ hM => NMul_ok hM.avlt (NVk.snd (hM.f 2 rfl)) (NVk.fst (hM.f 1 rfl)) (by first | assumption | omega | (dsimp only; omega))) ?_
 rintro _ _ _ hM ⟨s26, A26, n26, c26, s26_, A26_, n26_, c26_, rfl, h26, hb⟩
 have hs26 := szgR_mul a.2 b.1
 refine ⟨_, _, _, rfl, hb, (hM.call hb).add h26, ?_⟩
 refine GD.call (fun _ hM => NSub_ok hM.avlt (hM.f 1 rfl) (hM.f 0 rfl) (by first | assumption | omega | (dsimp only; omega))) ?_
 rintro _ _ _ hM ⟨s27, A27, n27, c27, s27_, A27_, n27_, c27_, rfl, h27, hb⟩
 have hs27 := szgR_sub (a.1 * b.2) (a.2 * b.1)
 refine ⟨_, _, _, rfl, hb, (hM.call hb).add h27, ?_⟩
 refine GD.st (fun _ _ => Mem.st0) (fun _ hM => store_all (cs' := #[.int .i64 s27, .slice A27 n27 c27, .int .i64 s27_, .slice A27_ n27_ c27_]) siz54 (hM.b 0 rfl) (by kernel_rfl) (by kernel_rfl) rfl rfl rfl) ?_
 refine GD.k k1 ?_
 refine CG.ret (QG.ret (fun _ hM => results_one rfl (res_cell rfl (loadVar_agg agg54 siz54 (hM.b 0 rfl) rfl rfl))) ?_)
 intro _ hM
 exact ⟨_, _, _, _, _, _, _, _, rfl, (hM.out (hM.f 0 rfl)), hM.below⟩

set_option maxRecDepth 100000 in
set_option maxHeartbeats 400000 in
theorem NVSame_ok {w : World} {X : Nat → Prop} {s1 : Int} {A1 : Option Addr} {n1 : Nat} {c1 : Nat} {s1_ : Int} {A1_ : Option Addr} {n1_ : Nat} {c1_ : Nat} {s1z : Int} {A1z : Option Addr} {n1z : Nat} {c1z : Nat} {s1z_ : Int} {A1z_ : Option Addr} {n1z_ : Nat} {c1z_ : Nat} {a : Rat × Rat} {s2 : Int} {A2 : Option Addr} {n2 : Nat} {c2 : Nat} {s2_ : Int} {A2_ : Option Addr} {n2_ : Nat} {c2_ : Nat} {s2z : Int} {A2z : Option Addr} {n2z : Nat} {c2z : Nat} {s2z_ : Int} {A2z_ : Option Addr} {n2z_ : Nat} {c2z_ : Nat} {b : Rat × Rat} (hX : ∀ k, X k → k < w.heap.size) (h1 : NVk.R X w [.int .i64 s1, .slice A1 n1 c1, .int .i64 s1_, .slice A1_ n1_ c1_, .int .i64 s1z, .slice A1z n1z c1z, .int .i64 s1z_, .slice A1z_ n1z_ c1z_] a) (h2 : NVk.R X w [.int .i64 s2, .slice A2 n2 c2, .int .i64 s2_, .slice A2_ n2_ c2_, .int .i64 s2z, .slice A2z n2z c2z, .int .i64 s2z_, .slice A2z_ n2z_ c2z_] b) (p1 : szgR a.1 + szgR b.1 ≤ 268435456) (p2 : szgR a.2 + szgR b.2 ≤ 268435456) :
    Calls Tryz.prog 97 #[.agg #[.int .i64 s1, .slice A1 n1 c1, .int .i64 s1_, .slice A1_ n1_ c1_, .int .i64 s1z, .slice A1z n1z c1z, .int .i64 s1z_, .slice A1z_ n1z_ c1z_], .agg #[.int .i64 s2, .slice A2 n2 c2, .int .i64 s2_, .slice A2_ n2_ c2_, .int .i64 s2z, .slice A2z n2z c2z, .int .i64 s2z_, .slice A2z_ n2z_ c2z_]] w (fun e w' => e = .returned (.bool (decide (a.1 = b.1) && decide (a.2 = b.2))) ∧ Below w.heap.size w w') := by
 have hM := ((Mem.start hX).add0 h1).add0 h2
 refine calls_of hM Tryz.func97 Tryz.ntmps97 ?_
 refine CG.seq fun K_ k1 => ?_
 refine CG.lin 3 ?_
 refine GL.bA #[.int .i64 s1, .slice A1 n1 c1, .int .i64 s1_, .slice A1_ n1_ c1_, .int .i64 s1z, .slice A1z n1z c1z, .int .i64 s1z_, .slice A1z_ n1z_ c1z_] fun g21 => ?_
 refine GL.bA #[.int .i64 s2, .slice A2 n2 c2, .int .i64 s2_, .slice A2_ n2_ c2_, .int .i64 s2z, .slice A2z n2z c2z, .int .i64 s2z_, .slice A2z_ n2z_ c2z_] fun g22 => ?_
 refine GL.v (.bool false) ?_
 refine GL.k k1 ?_
 refine CG.seq fun K_ k1 => ?_
 by_cases hc23 : a.1 = b.1
 · have hk23 : (decide (a.1 = b.1)) = true := decide_eq_true hc23
   by_cases hc24 : a.2 = b.2
   · have hk24 : (decide (a.2 = b.2)) = true := decide_eq_true hc24
     refine CG.lin 15 ?_
     refine GL.v (.pointer (some ⟨g21, 0, none⟩)) ?_
     refine GL.r (.agg #[.int .i64 s1, .slice A1 n1 c1, .int .i64 s1_, .slice A1_ n1_ c1_]) (fun _ hM => op_load_agg (off := 0) (by kernel_rfl) agg54 siz54 (hM.b 1 rfl) rfl rfl) ?_
     refine GL.v (.pointer (some ⟨g22, 0, none⟩)) ?_
     refine GL.r (.agg #[.int .i64 s2, .slice A2 n2 c2, .int .i64 s2_, .slice A2_ n2_ c2_]) (fun _ hM => op_load_agg (off := 0) (by kernel_rfl) agg54 siz54 (hM.b 0 rfl) rfl rfl) ?_
     refine GL.call (fun _ hM => NCmp_ok hM.avlt (NVk.fst (hM.f 1 rfl)) (NVk.fst (hM.f 0 rfl)) (by first | assumption | omega | (dsimp only; omega))) ?_
     rintro _ _ _ hM ⟨rfl, hb⟩
     refine ⟨_, _, _, rfl, hM.call hb, ?_⟩
     refine GL.v (.bool true) ?_ (hr := fun u => op_b (b := (((a.1.num * (b.1.den : Int) - b.1.num * (a.1.den : Int)).sign) == (0 : Int))) (by kernel_rfl) ((rc_is _ _).trans hk23))
     refine GL.v (.bool true) ?_
     refine GL.v (.pointer (some ⟨g21, 4, none⟩)) ?_
     refine GL.r (.agg #[.int .i64 s1z, .slice A1z n1z c1z, .int .i64 s1z_, .slice A1z_ n1z_ c1z_]) (fun _ hM => op_load_agg (off := 4) (by kernel_rfl) agg54 siz54 (hM.b 1 rfl) rfl rfl) ?_
     refine GL.v (.pointer (some ⟨g22, 4, none⟩)) ?_
     refine GL.r (.agg #[.int .i64 s2z, .slice A2z n2z c2z, .int .i64 s2z_, .slice A2z_ n2z_ c2z_]) (fun _ hM => op_load_agg (off := 4) (by kernel_rfl) agg54 siz54 (hM.b 0 rfl) rfl rfl) ?_
     refine GL.call (fun _ hM => NCmp_ok hM.avlt (NVk.snd (hM.f 1 rfl)) (NVk.snd (hM.f 0 rfl)) (by first | assumption | omega | (dsimp only; omega))) ?_
     rintro _ _ _ hM ⟨rfl, hb⟩
     refine ⟨_, _, _, rfl, hM.call hb, ?_⟩
     refine GL.v (.bool true) ?_ (hr := fun u => op_b (b := (((a.2.num * (b.2.den : Int) - b.2.num * (a.2.den : Int)).sign) == (0 : Int))) (by kernel_rfl) ((rc_is _ _).trans hk24))
     refine GL.v (.bool true) ?_
     refine GL.v (.bool true) ?_
     refine GL.k k1 ?_
     refine CG.ret (QG.ret (fun _ hM => results_one rfl (res_tmp rfl)) ?_)
     intro _ hM
     exact ⟨ret_bool (by rw [hk23, hk24]; rfl), hM.below⟩
   · have hk24 : (decide (a.2 = b.2)) = false := decide_eq_false hc24
     refine CG.lin 15 ?_
     refine GL.v (.pointer (some ⟨g21, 0, none⟩)) ?_
     refine GL.r (.agg #[.int .i64 s1, .slice A1 n1 c1, .int .i64 s1_, .slice A1_ n1_ c1_]) (fun _ hM => op_load_agg (off := 0) (by kernel_rfl) agg54 siz54 (hM.b 1 rfl) rfl rfl) ?_
     refine GL.v (.pointer (some ⟨g22, 0, none⟩)) ?_
     refine GL.r (.agg #[.int .i64 s2, .slice A2 n2 c2, .int .i64 s2_, .slice A2_ n2_ c2_]) (fun _ hM => op_load_agg (off := 0) (by kernel_rfl) agg54 siz54 (hM.b 0 rfl) rfl rfl) ?_
     refine GL.call (fun _ hM => NCmp_ok hM.avlt (NVk.fst (hM.f 1 rfl)) (NVk.fst (hM.f 0 rfl)) (by first | assumption | omega | (dsimp only; omega))) ?_
     rintro _ _ _ hM ⟨rfl, hb⟩
     refine ⟨_, _, _, rfl, hM.call hb, ?_⟩
     refine GL.v (.bool true) ?_ (hr := fun u => op_b (b := (((a.1.num * (b.1.den : Int) - b.1.num * (a.1.den : Int)).sign) == (0 : Int))) (by kernel_rfl) ((rc_is _ _).trans hk23))
     refine GL.v (.bool true) ?_
     refine GL.v (.pointer (some ⟨g21, 4, none⟩)) ?_
     refine GL.r (.agg #[.int .i64 s1z, .slice A1z n1z c1z, .int .i64 s1z_, .slice A1z_ n1z_ c1z_]) (fun _ hM => op_load_agg (off := 4) (by kernel_rfl) agg54 siz54 (hM.b 1 rfl) rfl rfl) ?_
     refine GL.v (.pointer (some ⟨g22, 4, none⟩)) ?_
     refine GL.r (.agg #[.int .i64 s2z, .slice A2z n2z c2z, .int .i64 s2z_, .slice A2z_ n2z_ c2z_]) (fun _ hM => op_load_agg (off := 4) (by kernel_rfl) agg54 siz54 (hM.b 0 rfl) rfl rfl) ?_
     refine GL.call (fun _ hM => NCmp_ok hM.avlt (NVk.snd (hM.f 1 rfl)) (NVk.snd (hM.f 0 rfl)) (by first | assumption | omega | (dsimp only; omega))) ?_
     rintro _ _ _ hM ⟨rfl, hb⟩
     refine ⟨_, _, _, rfl, hM.call hb, ?_⟩
     refine GL.v (.bool false) ?_ (hr := fun u => op_b (b := (((a.2.num * (b.2.den : Int) - b.2.num * (a.2.den : Int)).sign) == (0 : Int))) (by kernel_rfl) ((rc_is _ _).trans hk24))
     refine GL.v (.bool false) ?_
     refine GL.v (.bool false) ?_
     refine GL.k k1 ?_
     refine CG.ret (QG.ret (fun _ hM => results_one rfl (res_tmp rfl)) ?_)
     intro _ hM
     exact ⟨ret_bool (by rw [hk23, hk24]; rfl), hM.below⟩
 · have hk23 : (decide (a.1 = b.1)) = false := decide_eq_false hc23
   by_cases hc29 : a.2 = b.2
   · have hk29 : (decide (a.2 = b.2)) = true := decide_eq_true hc29
     refine CG.lin 15 ?_
     refine GL.v (.pointer (some ⟨g21, 0, none⟩)) ?_
     refine GL.r (.agg #[.int .i64 s1, .slice A1 n1 c1, .int .i64 s1_, .slice A1_ n1_ c1_]) (fun _ hM => op_load_agg (off := 0) (by kernel_rfl) agg54 siz54 (hM.b 1 rfl) rfl rfl) ?_
     refine GL.v (.pointer (some ⟨g22, 0, none⟩)) ?_
     refine GL.r (.agg #[.int .i64 s2, .slice A2 n2 c2, .int .i64 s2_, .slice A2_ n2_ c2_]) (fun _ hM => op_load_agg (off := 0) (by kernel_rfl) agg54 siz54 (hM.b 0 rfl) rfl rfl) ?_
     refine GL.call (fun _ hM => NCmp_ok hM.avlt (NVk.fst (hM.f 1 rfl)) (NVk.fst (hM.f 0 rfl)) (by first | assumption | omega | (dsimp only; omega))) ?_
     rintro _ _ _ hM ⟨rfl, hb⟩
     refine ⟨_, _, _, rfl, hM.call hb, ?_⟩
     refine GL.v (.bool false) ?_ (hr := fun u => op_b (b := (((a.1.num * (b.1.den : Int) - b.1.num * (a.1.den : Int)).sign) == (0 : Int))) (by kernel_rfl) ((rc_is _ _).trans hk23))
     refine GL.v (.bool false) ?_
     refine GL.sk ?_
     refine GL.sk ?_
     refine GL.sk ?_
     refine GL.sk ?_
     refine GL.sk ?_
     refine GL.sk ?_
     refine GL.v (.bool false) ?_
     refine GL.v (.bool false) ?_
     refine GL.k k1 ?_
     refine CG.ret (QG.ret (fun _ hM => results_one rfl (res_tmp rfl)) ?_)
     intro _ hM
     exact ⟨ret_bool (by rw [hk23, hk29]; rfl), hM.below⟩
   · have hk29 : (decide (a.2 = b.2)) = false := decide_eq_false hc29
     refine CG.lin 15 ?_
     refine GL.v (.pointer (some ⟨g21, 0, none⟩)) ?_
     refine GL.r (.agg #[.int .i64 s1, .slice A1 n1 c1, .int .i64 s1_, .slice A1_ n1_ c1_]) (fun _ hM => op_load_agg (off := 0) (by kernel_rfl) agg54 siz54 (hM.b 1 rfl) rfl rfl) ?_
     refine GL.v (.pointer (some ⟨g22, 0, none⟩)) ?_
     refine GL.r (.agg #[.int .i64 s2, .slice A2 n2 c2, .int .i64 s2_, .slice A2_ n2_ c2_]) (fun _ hM => op_load_agg (off := 0) (by kernel_rfl) agg54 siz54 (hM.b 0 rfl) rfl rfl) ?_
     refine GL.call (fun _ hM => NCmp_ok hM.avlt (NVk.fst (hM.f 1 rfl)) (NVk.fst (hM.f 0 rfl)) (by first | assumption | omega | (dsimp only; omega))) ?_
     rintro _ _ _ hM ⟨rfl, hb⟩
     refine ⟨_, _, _, rfl, hM.call hb, ?_⟩
     refine GL.v (.bool false) ?_ (hr := fun u => op_b (b := (((a.1.num * (b.1.den : Int) - b.1.num * (a.1.den : Int)).sign) == (0 : Int))) (by kernel_rfl) ((rc_is _ _).trans hk23))
     refine GL.v (.bool false) ?_
     refine GL.sk ?_
     refine GL.sk ?_
     refine GL.sk ?_
     refine GL.sk ?_
     refine GL.sk ?_
     refine GL.sk ?_
     refine GL.v (.bool false) ?_
     refine GL.v (.bool false) ?_
     refine GL.k k1 ?_
     refine CG.ret (QG.ret (fun _ hM => results_one rfl (res_tmp rfl)) ?_)
     intro _ hM
     exact ⟨ret_bool (by rw [hk23, hk29]; rfl), hM.below⟩

set_option maxRecDepth 100000 in
set_option maxHeartbeats 400000 in
theorem NVText_ok {w : World} {X : Nat → Prop} {s1 : Int} {A1 : Option Addr} {n1 : Nat} {c1 : Nat} {s1_ : Int} {A1_ : Option Addr} {n1_ : Nat} {c1_ : Nat} {s1z : Int} {A1z : Option Addr} {n1z : Nat} {c1z : Nat} {s1z_ : Int} {A1z_ : Option Addr} {n1z_ : Nat} {c1z_ : Nat} {a : Rat × Rat} (hX : ∀ k, X k → k < w.heap.size) (h1 : NVk.R X w [.int .i64 s1, .slice A1 n1 c1, .int .i64 s1_, .slice A1_ n1_ c1_, .int .i64 s1z, .slice A1z n1z c1z, .int .i64 s1z_, .slice A1z_ n1z_ c1z_] a) (p1 : szgR a.1 ≤ 268435456) (p2 : szgR a.2 ≤ 268435456) :
    Calls Tryz.prog 99 #[.agg #[.int .i64 s1, .slice A1 n1 c1, .int .i64 s1_, .slice A1_ n1_ c1_, .int .i64 s1z, .slice A1z n1z c1z, .int .i64 s1z_, .slice A1z_ n1z_ c1z_]] w (fun e w' => e = .returned (.string (bs (decV a))) ∧ Below w.heap.size w w') := by
 have hM := (Mem.start hX).add0 h1
 refine calls_of hM Tryz.func99 Tryz.ntmps99 ?_
 refine CG.seq fun K_ k1 => ?_
 refine CG.lin 2 ?_
 refine GL.bA #[.int .i64 s1, .slice A1 n1 c1, .int .i64 s1_, .slice A1_ n1_ c1_, .int .i64 s1z, .slice A1z n1z c1z, .int .i64 s1z_, .slice A1z_ n1z_ c1z_] fun g21 => ?_
 refine GL.v (.string (bs [])) ?_
 refine GL.k k1 ?_
 refine CG.seq fun K_ k1 => ?_
 refine CG.draw [] [0, 1, 5, 6, 3, 4, 8, 9] (.step 0 (.step 1 (.step 5 (.step 6 (.step 2 (.step 3 (.step 4 (.step 7 (.step 8 (.step 9 (.step 10 .done))))))))))) (fun V hV22 => ?_)
 refine GD.ev (.pointer (some ⟨g21, 0, none⟩)) ?_
 refine GD.er (.agg #[.int .i64 s1, .slice A1 n1 c1, .int .i64 s1_, .slice A1_ n1_ c1_]) (fun _ hS => op_load_agg (off := 0) (by kernel_rfl) agg54 siz54 (hV22.bS 0 rfl hS) rfl rfl) ?_
 refine GD.ev (.pointer (some ⟨g21, 4, none⟩)) ?_
 refine GD.er (.agg #[.int .i64 s1z, .slice A1z n1z c1z, .int .i64 s1z_, .slice A1z_ n1z_ c1z_]) (fun _ hS => op_load_agg (off := 4) (by kernel_rfl) agg54 siz54 (hV22.bS 0 rfl hS) rfl rfl) ?_
 refine GD.call (fun _ hM => NText_ok hM.avlt (NVk.fst (hM.f 0 rfl)) (by first | assumption | omega | (dsimp only; omega))) ?_
 rintro _ _ _ hM ⟨rfl, hb⟩
 have hl23 := decR_lenN a.1
 refine ⟨_, _, _, rfl, hb, hM.call hb, ?_⟩
 refine GD.ev (.string (bs ([40] ++ (decR a.1)))) ?_ (hr := fun u => op_cat (L := [40]) (K := decR a.1) (by kernel_rfl) (by kernel_rfl) (by (try simp only [List.length_append, List.length_cons, List.length_nil]); omega))
 refine GD.ev (.string (bs (([40] ++ (decR a.1)) ++ [44, 32]))) ?_ (hr := fun u => op_cat (L := [40] ++ (decR a.1)) (K := [44, 32]) (by kernel_rfl) (by kernel_rfl) (by (try simp only [List.length_append, List.length_cons, List.length_nil]); omega))
 refine GD.call (fun _ hM => NText_ok hM.avlt (NVk.snd (hM.f 0 rfl)) (by first | assumption | omega | (dsimp only; omega))) ?_
 rintro _ _ _ hM ⟨rfl, hb⟩
 have hl24 := decR_lenN a.2
 refine ⟨_, _, _, rfl, hb, hM.call hb, ?_⟩
 refine GD.ev (.string (bs ((([40] ++ (decR a.1)) ++ [44, 32]) ++ (decR a.2)))) ?_ (hr := fun u => op_cat (L := ([40] ++ (decR a.1)) ++ [44, 32]) (K := decR a.2) (by kernel_rfl) (by kernel_rfl) (by (try simp only [List.length_append, List.length_cons, List.length_nil]); omega))
 refine GD.ev (.string (bs (((([40] ++ (decR a.1)) ++ [44, 32]) ++ (decR a.2)) ++ [41]))) ?_ (hr := fun u => op_cat (L := (([40] ++ (decR a.1)) ++ [44, 32]) ++ (decR a.2)) (K := [41]) (by kernel_rfl) (by kernel_rfl) (by (try simp only [List.length_append, List.length_cons, List.length_nil]); omega))
 refine GD.v (.string (bs (((([40] ++ (decR a.1)) ++ [44, 32]) ++ (decR a.2)) ++ [41]))) ?_
 refine GD.k k1 ?_
 refine CG.ret (QG.ret (fun _ hM => results_one rfl (res_tmp rfl)) ?_)
 intro _ hM
 exact ⟨ret_str rfl, hM.below⟩

set_option maxRecDepth 100000 in
set_option maxHeartbeats 400000 in
theorem r_ok {w : World} {X : Nat → Prop} (hX : ∀ k, X k → k < w.heap.size) (s : List UInt8) (p1 : s.length ≤ 4611686018427387904) :
    Calls Tryz.prog 106 #[.string (bs s)] w (fun e w' => ∃ Ar nr cr mr Ar_ nr_ cr_, e = .returned (.agg #[.slice Ar nr cr, .bool mr, .slice Ar_ nr_ cr_]) ∧ Rk.R X w' [.slice Ar nr cr, .bool mr, .slice Ar_ nr_ cr_] ((parseR s).1) ∧ Below w.heap.size w w') := by
 have hM := Mem.start hX
 refine calls_of hM Tryz.func106 Tryz.ntmps106 ?_
 refine CG.seq fun K_ k1 => ?_
 refine CG.lin 1 ?_
 refine GL.aA zer48 fun g21 => ?_
 refine GL.k k1 ?_
 refine CG.seq fun K_ k1 => ?_
 refine CG.lin 8 ?_
 refine GL.v (.string (bs s)) ?_
 refine GL.call (fun _ hM => Parse_ok hM.avlt s (by first | assumption | omega)) ?_
 rintro _ _ _ hM ⟨A22a, n22a, c22a, m22a, A22a_, n22a_, c22a_, rfl, h22a, hb⟩
 refine ⟨_, _, _, rfl, (hM.call hb).add h22a, ?_⟩
 refine GL.v (.tuple #[.agg #[.slice A22a n22a c22a, .bool m22a, .slice A22a_ n22a_ c22a_], .int .i64 ((parseR s).2)]) ?_
 refine GL.v (.agg #[.slice A22a n22a c22a, .bool m22a, .slice A22a_ n22a_ c22a_]) ?_
 refine GL.v (.int .i64 ((parseR s).2)) ?_
 refine GL.aA zer48 fun g23 => ?_
 refine GL.sA (cs' := #[.slice A22a n22a c22a, .bool m22a, .slice A22a_ n22a_ c22a_]) (fun _ _ => Mem.st0) (fun _ hM => hM.b 0 rfl) siz48 ?_
 refine GL.v (.int .i64 ((parseR s).2)) ?_
 refine GL.k k1 ?_
 refine CG.seq fun K_ k1 => ?_
 refine CG.lin 2 ?_
 refine GL.r (.agg #[.slice A22a n22a c22a, .bool m22a, .slice A22a_ n22a_ c22a_]) (fun _ hM => op_load_agg (off := 0) (by kernel_rfl) agg48 siz48 (hM.b 0 rfl) rfl rfl) ?_
 refine GL.sA (cs' := #[.slice A22a n22a c22a, .bool m22a, .slice A22a_ n22a_ c22a_]) (fun _ _ => Mem.st1) (fun _ hM => hM.b 1 rfl) siz48 ?_
 refine GL.k k1 ?_
 refine CG.ret (QG.ret (fun _ hM => results_one rfl (res_cell rfl (loadVar_agg agg48 siz48 (hM.b 1 rfl) rfl rfl))) ?_)
 intro _ hM
 exact ⟨_, _, _, _, _, _, _, rfl, (hM.out (hM.f 0 rfl)), hM.below⟩

set_option maxRecDepth 100000 in
set_option maxHeartbeats 400000 in
theorem awake_ok {w : World} {X : Nat → Prop} (hX : ∀ k, X k → k < w.heap.size) :
    Calls Tryz.prog 19 #[] w (fun e w' => e = .returned (.bool true) ∧ Below w.heap.size w w') := by
 have hM := Mem.start hX
 obtain ⟨hz1, hz2⟩ := aw_szs
 refine calls_of hM Tryz.func19 Tryz.ntmps19 ?_
 refine CG.seq fun K_ k1 => ?_
 refine CG.lin 1 ?_
 refine GL.v (.bool false) ?_
 refine GL.k k1 ?_
 refine CG.seq fun K_ k1 => ?_
 refine CG.lin 12 ?_
 refine GL.call (fun _ hM => Int_ok hM.avlt (-7) (by first | assumption | omega)) ?_
 rintro _ _ _ hM ⟨A21, n21, c21, m21, rfl, h21, hb⟩
 have hs21 := sz_i64 (-7) (by omega)
 refine ⟨_, _, _, rfl, (hM.call hb).add h21, ?_⟩
 refine GL.call (fun _ hM => Int_ok hM.avlt (2) (by first | assumption | omega)) ?_
 rintro _ _ _ hM ⟨A22, n22, c22, m22, rfl, h22, hb⟩
 have hs22 := sz_i64 (2) (by omega)
 refine ⟨_, _, _, rfl, (hM.call hb).add h22, ?_⟩
 refine GL.call (fun _ hM => Quotient_ok hM.avlt (hM.f 1 rfl) (hM.f 0 rfl) (by first | assumption | omega) (by first | assumption | omega)) ?_
 rintro _ _ _ hM ⟨A23a, n23a, c23a, m23a, A23b, n23b, c23b, m23b, rfl, h23a, h23b, hb⟩
 have hs23 := sz_quo (-7) (2)
 have ht23 := sz_rem2 (-7) (2)
 refine ⟨_, _, _, rfl, ((hM.call hb).add h23a).add h23b, ?_⟩
 refine GL.v (.tuple #[.agg #[.slice A23a n23a c23a, .bool m23a], .agg #[.slice A23b n23b c23b, .bool m23b], .int .i64 0]) ?_
 refine GL.v (.agg #[.slice A23a n23a c23a, .bool m23a]) ?_
 refine GL.v (.agg #[.slice A23b n23b c23b, .bool m23b]) ?_
 refine GL.v (.int .i64 0) ?_
 refine GL.aA zer28 fun g24 => ?_
 refine GL.aA zer28 fun g25 => ?_
 refine GL.sA (cs' := #[.slice A23a n23a c23a, .bool m23a]) (fun _ _ => Mem.st1) (fun _ hM => hM.b 1 rfl) siz28 ?_
 refine GL.sA (cs' := #[.slice A23b n23b c23b, .bool m23b]) (fun _ _ => Mem.st0) (fun _ hM => hM.b 0 rfl) siz28 ?_
 refine GL.v (.int .i64 0) ?_
 refine GL.k k1 ?_
 refine CG.seq fun K_ k1 => ?_
 refine CG.lin 7 ?_
 refine GL.call (fun _ hM => Parse_ok hM.avlt [54, 47, 52] (by simp)) ?_
 rintro _ _ _ hM ⟨A26a, n26a, c26a, m26a, A26a_, n26a_, c26a_, rfl, h26a, hb⟩
 refine ⟨_, _, _, rfl, (hM.call hb).add h26a, ?_⟩
 refine GL.v (.tuple #[.agg #[.slice A26a n26a c26a, .bool m26a, .slice A26a_ n26a_ c26a_], .int .i64 ((parseR [54, 47, 52]).2)]) ?_
 refine GL.v (.agg #[.slice A26a n26a c26a, .bool m26a, .slice A26a_ n26a_ c26a_]) ?_
 refine GL.v (.int .i64 ((parseR [54, 47, 52]).2)) ?_
 refine GL.aA zer48 fun g27 => ?_
 refine GL.sA (cs' := #[.slice A26a n26a c26a, .bool m26a, .slice A26a_ n26a_ c26a_]) (fun _ _ => Mem.st0) (fun _ hM => hM.b 0 rfl) siz48 ?_
 refine GL.v (.int .i64 ((parseR [54, 47, 52]).2)) ?_
 refine GL.k k1 ?_
 refine CG.seq fun K_ k1 => ?_
 refine CG.lin 38 ?_
 refine GL.v (.int .i64 0) ?_
 refine GL.v (.bool true) ?_
 refine GL.v (.bool true) ?_
 refine GL.v (.int .i64 ((parseR [54, 47, 52]).2)) ?_
 refine GL.v (.bool true) ?_ (hr := fun u => op_b (b := (((parseR [54, 47, 52]).2) == (0 : Int))) (by kernel_rfl) (beq_iff_eq.2 aw3e))
 refine GL.v (.bool true) ?_
 refine GL.v (.bool true) ?_
 refine GL.r (.agg #[.slice A23a n23a c23a, .bool m23a]) (fun _ hM => op_load_agg (off := 0) (by kernel_rfl) agg28 siz28 (hM.b 2 rfl) rfl rfl) ?_
 refine GL.call (fun _ hM => ZText_ok hM.avlt (hM.f 2 rfl) (by first | assumption | omega)) ?_
 rintro _ _ _ hM ⟨rfl, hb⟩
 have hl28 := decZ_len (((-7) / 2))
 refine ⟨_, _, _, rfl, hM.call hb, ?_⟩
 refine GL.v (.bool true) ?_ (hr := fun u => op_b (b := (decide ((decZ ((-7) / 2)) = [45, 52]))) ((fun u => op_seq (L := decZ ((-7) / 2)) (K := [45, 52]) (by kernel_rfl) (by kernel_rfl)) u) (decide_eq_true (by first | exact aw1 | exact aw2 | exact aw3 | exact aw4 | exact aw5)))
 refine GL.v (.bool true) ?_
 refine GL.v (.bool true) ?_
 refine GL.r (.agg #[.slice A23b n23b c23b, .bool m23b]) (fun _ hM => op_load_agg (off := 0) (by kernel_rfl) agg28 siz28 (hM.b 1 rfl) rfl rfl) ?_
 refine GL.call (fun _ hM => ZText_ok hM.avlt (hM.f 1 rfl) (by first | assumption | omega)) ?_
 rintro _ _ _ hM ⟨rfl, hb⟩
 have hl29 := decZ_len (((-7) % 2))
 refine ⟨_, _, _, rfl, hM.call hb, ?_⟩
 refine GL.v (.bool true) ?_ (hr := fun u => op_b (b := (decide ((decZ ((-7) % 2)) = [49]))) ((fun u => op_seq (L := decZ ((-7) % 2)) (K := [49]) (by kernel_rfl) (by kernel_rfl)) u) (decide_eq_true (by first | exact aw1 | exact aw2 | exact aw3 | exact aw4 | exact aw5)))
 refine GL.v (.bool true) ?_
 refine GL.v (.bool true) ?_
 refine GL.r (.agg #[.slice A26a n26a c26a, .bool m26a, .slice A26a_ n26a_ c26a_]) (fun _ hM => op_load_agg (off := 0) (by kernel_rfl) agg48 siz48 (hM.b 0 rfl) rfl rfl) ?_
 refine GL.call (fun _ hM => RText_ok hM.avlt (hM.f 0 rfl) (by first | assumption | omega | (dsimp only; omega))) ?_
 rintro _ _ _ hM ⟨rfl, hb⟩
 have hl30 := decR_len (((parseR [54, 47, 52]).1))
 refine ⟨_, _, _, rfl, hM.call hb, ?_⟩
 refine GL.v (.bool true) ?_ (hr := fun u => op_b (b := (decide ((decR ((parseR [54, 47, 52]).1)) = [51, 47, 50]))) ((fun u => op_seq (L := decR ((parseR [54, 47, 52]).1)) (K := [51, 47, 50]) (by kernel_rfl) (by kernel_rfl)) u) (decide_eq_true (by first | exact aw1 | exact aw2 | exact aw3 | exact aw4 | exact aw5)))
 refine GL.v (.bool true) ?_
 refine GL.v (.bool true) ?_
 refine GL.call (fun _ hM => Int_ok hM.avlt (-12) (by first | assumption | omega)) ?_
 rintro _ _ _ hM ⟨A31, n31, c31, m31, rfl, h31, hb⟩
 have hs31 := sz_i64 (-12) (by omega)
 refine ⟨_, _, _, rfl, (hM.call hb).add h31, ?_⟩
 refine GL.call (fun _ hM => Int_ok hM.avlt (18) (by first | assumption | omega)) ?_
 rintro _ _ _ hM ⟨A32, n32, c32, m32, rfl, h32, hb⟩
 have hs32 := sz_i64 (18) (by omega)
 refine ⟨_, _, _, rfl, (hM.call hb).add h32, ?_⟩
 refine GL.call (fun _ hM => Gcd_ok hM.avlt (hM.f 1 rfl) (hM.f 0 rfl) (by first | assumption | omega)) ?_
 rintro _ _ _ hM ⟨A33, n33, c33, m33, rfl, h33, hb⟩
 have hs33 := sz_gcd2 (-12) (18)
 refine ⟨_, _, _, rfl, (hM.call hb).add h33, ?_⟩
 refine GL.call (fun _ hM => ZText_ok hM.avlt (hM.f 0 rfl) (by first | assumption | omega)) ?_
 rintro _ _ _ hM ⟨rfl, hb⟩
 have hl34 := decZ_len ((Int.gcd (-12) 18 : Int))
 refine ⟨_, _, _, rfl, hM.call hb, ?_⟩
 refine GL.v (.bool true) ?_ (hr := fun u => op_b (b := (decide ((decZ (Int.gcd (-12) 18 : Int)) = [54]))) ((fun u => op_seq (L := decZ (Int.gcd (-12) 18 : Int)) (K := [54]) (by kernel_rfl) (by kernel_rfl)) u) (decide_eq_true (by first | exact aw1 | exact aw2 | exact aw3 | exact aw4 | exact aw5)))
 refine GL.v (.bool true) ?_
 refine GL.v (.bool true) ?_
 refine GL.call (fun _ hM => r_ok hM.avlt [49, 47, 50] (by simp)) ?_
 rintro _ _ _ hM ⟨A35, n35, c35, m35, A35_, n35_, c35_, rfl, h35, hb⟩
 refine ⟨_, _, _, rfl, (hM.call hb).add h35, ?_⟩
 refine GL.call (fun _ hM => r_ok hM.avlt [49, 47, 51] (by simp)) ?_
 rintro _ _ _ hM ⟨A36, n36, c36, m36, A36_, n36_, c36_, rfl, h36, hb⟩
 refine ⟨_, _, _, rfl, (hM.call hb).add h36, ?_⟩
 refine GL.call (fun _ hM => r_ok hM.avlt [49, 47, 54] (by simp)) ?_
 rintro _ _ _ hM ⟨A37, n37, c37, m37, A37_, n37_, c37_, rfl, h37, hb⟩
 refine ⟨_, _, _, rfl, (hM.call hb).add h37, ?_⟩
 refine GL.lst (K := Rk) (T := 48) (k := 3) (xs := [(parseR [49, 47, 50]).1, (parseR [49, 47, 51]).1, (parseR [49, 47, 54]).1]) (fun u => op_build3 rowk97 rfl (by kernel_rfl) (by kernel_rfl) (by kernel_rfl) u) (fun _ _ _ hM hm hg => LKd.built3 hm hg (by decide) rfl rfl rfl (hM.f 2 rfl) (hM.f 1 rfl) (hM.f 0 rfl)) fun g38 => ?_
 refine GL.call (fun _ hM => Sum_ok hM.avlt (hM.f 0 rfl) aw_sum) ?_
 rintro _ _ _ hM ⟨A39, n39, c39, m39, A39_, n39_, c39_, rfl, h39, hb⟩
 refine ⟨_, _, _, rfl, (hM.call hb).add h39, ?_⟩
 refine GL.call (fun _ hM => RText_ok hM.avlt (hM.f 0 rfl) (by first | assumption | omega | (dsimp only; omega))) ?_
 rintro _ _ _ hM ⟨rfl, hb⟩
 have hl40 := decR_len ((foldR (· + ·) ([(parseR [49, 47, 50]).1, (parseR [49, 47, 51]).1, (parseR [49, 47, 54]).1])))
 refine ⟨_, _, _, rfl, hM.call hb, ?_⟩
 refine GL.v (.bool true) ?_ (hr := fun u => op_b (b := (decide ((decR (foldR (· + ·) ([(parseR [49, 47, 50]).1, (parseR [49, 47, 51]).1, (parseR [49, 47, 54]).1]))) = [49]))) ((fun u => op_seq (L := decR (foldR (· + ·) ([(parseR [49, 47, 50]).1, (parseR [49, 47, 51]).1, (parseR [49, 47, 54]).1]))) (K := [49]) (by kernel_rfl) (by kernel_rfl)) u) (decide_eq_true (by first | exact aw1 | exact aw2 | exact aw3 | exact aw4 | exact aw5)))
 refine GL.v (.bool true) ?_
 refine GL.v (.bool true) ?_
 refine GL.k k1 ?_
 refine CG.ret (QG.ret (fun _ hM => results_one rfl (res_tmp rfl)) ?_)
 intro _ hM
 exact ⟨rfl, hM.below⟩

set_option maxRecDepth 100000 in
set_option maxHeartbeats 400000 in
theorem pairs_ok {w : World} {X : Nat → Prop} (hX : ∀ k, X k → k < w.heap.size) (xN : Int) (xD : Int) (zN : Int) (zD : Int) (uN : Int) (uD : Int) (wN : Int) (wD : Int) (kN : Int) (kD : Int) (p1 : -9223372036854775808 ≤ xN ∧ xN ≤ 9223372036854775807) (p2 : -9223372036854775808 ≤ xD ∧ xD ≤ 9223372036854775807) (p3 : -9223372036854775808 ≤ zN ∧ zN ≤ 9223372036854775807) (p4 : -9223372036854775808 ≤ zD ∧ zD ≤ 9223372036854775807) (p5 : -9223372036854775808 ≤ uN ∧ uN ≤ 9223372036854775807) (p6 : -9223372036854775808 ≤ uD ∧ uD ≤ 9223372036854775807) (p7 : -9223372036854775808 ≤ wN ∧ wN ≤ 9223372036854775807) (p8 : -9223372036854775808 ≤ wD ∧ wD ≤ 9223372036854775807) (p9 : -9223372036854775808 ≤ kN ∧ kN ≤ 9223372036854775807) (p10 : -9223372036854775808 ≤ kD ∧ kD ≤ 9223372036854775807) :
    Calls Tryz.prog 11 #[.agg #[.int .i64 xN, .int .i64 xD], .agg #[.int .i64 zN, .int .i64 zD], .agg #[.int .i64 uN, .int .i64 uD], .agg #[.int .i64 wN, .int .i64 wD], .agg #[.int .i64 kN, .int .i64 kD]] w (fun e w' => e = .returned (.bool true) ∧ Below w.heap.size w w') := by
 have hM := Mem.start hX
 refine calls_of hM Tryz.func11 Tryz.ntmps11 ?_
 refine CG.seq fun K_ k1 => ?_
 refine CG.lin 6 ?_
 refine GL.bA #[.int .i64 xN, .int .i64 xD] fun g21 => ?_
 refine GL.bA #[.int .i64 zN, .int .i64 zD] fun g22 => ?_
 refine GL.bA #[.int .i64 uN, .int .i64 uD] fun g23 => ?_
 refine GL.bA #[.int .i64 wN, .int .i64 wD] fun g24 => ?_
 refine GL.bA #[.int .i64 kN, .int .i64 kD] fun g25 => ?_
 refine GL.v (.bool false) ?_
 refine GL.k k1 ?_
 refine CG.seq fun K_ k1 => ?_
 refine CG.lin 10 ?_
 refine GL.r (.agg #[.int .i64 xN, .int .i64 xD]) (fun _ hM => op_load_agg (off := 0) (by kernel_rfl) agg60 siz60 (hM.b 4 rfl) rfl rfl) ?_
 refine GL.r (.agg #[.int .i64 zN, .int .i64 zD]) (fun _ hM => op_load_agg (off := 0) (by kernel_rfl) agg60 siz60 (hM.b 3 rfl) rfl rfl) ?_
 refine GL.call (fun _ hM => pair_ok hM.avlt xN xD zN zD (by first | assumption | (dsimp only; omega) | omega) (by first | assumption | (dsimp only; omega) | omega) (by first | assumption | (dsimp only; omega) | omega) (by first | assumption | (dsimp only; omega) | omega)) ?_
 rintro _ _ _ hM ⟨A26a, n26a, c26a, m26a, A26a_, n26a_, c26a_, A26az, n26az, c26az, m26az, A26az_, n26az_, c26az_, s26b, A26b, n26b, c26b, s26b_, A26b_, n26b_, c26b_, s26bz, A26bz, n26bz, c26bz, s26bz_, A26bz_, n26bz_, c26bz_, rfl, h26a, h26b, hb⟩
 have hz26 := numv_sz xN xD (by assumption) (by assumption)
 have hy26 := numv_sz zN zD (by assumption) (by assumption)
 refine ⟨_, _, _, rfl, ((hM.call hb).add h26a).add h26b, ?_⟩
 refine GL.v (.tuple #[.agg #[.slice A26a n26a c26a, .bool m26a, .slice A26a_ n26a_ c26a_, .slice A26az n26az c26az, .bool m26az, .slice A26az_ n26az_ c26az_], .agg #[.int .i64 s26b, .slice A26b n26b c26b, .int .i64 s26b_, .slice A26b_ n26b_ c26b_, .int .i64 s26bz, .slice A26bz n26bz c26bz, .int .i64 s26bz_, .slice A26bz_ n26bz_ c26bz_]]) ?_
 refine GL.v (.agg #[.slice A26a n26a c26a, .bool m26a, .slice A26a_ n26a_ c26a_, .slice A26az n26az c26az, .bool m26az, .slice A26az_ n26az_ c26az_]) ?_
 refine GL.v (.agg #[.int .i64 s26b, .slice A26b n26b c26b, .int .i64 s26b_, .slice A26b_ n26b_ c26b_, .int .i64 s26bz, .slice A26bz n26bz c26bz, .int .i64 s26bz_, .slice A26bz_ n26bz_ c26bz_]) ?_
 refine GL.aA zer103 fun g27 => ?_
 refine GL.aA zer105 fun g28 => ?_
 refine GL.sA (cs' := #[.slice A26a n26a c26a, .bool m26a, .slice A26a_ n26a_ c26a_, .slice A26az n26az c26az, .bool m26az, .slice A26az_ n26az_ c26az_]) (fun _ _ => Mem.st1) (fun _ hM => hM.b 1 rfl) siz103 ?_
 refine GL.sA (cs' := #[.int .i64 s26b, .slice A26b n26b c26b, .int .i64 s26b_, .slice A26b_ n26b_ c26b_, .int .i64 s26bz, .slice A26bz n26bz c26bz, .int .i64 s26bz_, .slice A26bz_ n26bz_ c26bz_]) (fun _ _ => Mem.st0) (fun _ hM => hM.b 0 rfl) siz105 ?_ (hall := by kernel_rfl) (hp := by kernel_rfl)
 refine GL.k k1 ?_
 refine CG.seq fun K_ k1 => ?_
 refine CG.lin 10 ?_
 refine GL.r (.agg #[.int .i64 uN, .int .i64 uD]) (fun _ hM => op_load_agg (off := 0) (by kernel_rfl) agg60 siz60 (hM.b 4 rfl) rfl rfl) ?_
 refine GL.r (.agg #[.int .i64 wN, .int .i64 wD]) (fun _ hM => op_load_agg (off := 0) (by kernel_rfl) agg60 siz60 (hM.b 3 rfl) rfl rfl) ?_
 refine GL.call (fun _ hM => pair_ok hM.avlt uN uD wN wD (by first | assumption | (dsimp only; omega) | omega) (by first | assumption | (dsimp only; omega) | omega) (by first | assumption | (dsimp only; omega) | omega) (by first | assumption | (dsimp only; omega) | omega)) ?_
 rintro _ _ _ hM ⟨A29a, n29a, c29a, m29a, A29a_, n29a_, c29a_, A29az, n29az, c29az, m29az, A29az_, n29az_, c29az_, s29b, A29b, n29b, c29b, s29b_, A29b_, n29b_, c29b_, s29bz, A29bz, n29bz, c29bz, s29bz_, A29bz_, n29bz_, c29bz_, rfl, h29a, h29b, hb⟩
 have hz29 := numv_sz uN uD (by assumption) (by assumption)
 have hy29 := numv_sz wN wD (by assumption) (by assumption)
 refine ⟨_, _, _, rfl, ((hM.call hb).add h29a).add h29b, ?_⟩
 refine GL.v (.tuple #[.agg #[.slice A29a n29a c29a, .bool m29a, .slice A29a_ n29a_ c29a_, .slice A29az n29az c29az, .bool m29az, .slice A29az_ n29az_ c29az_], .agg #[.int .i64 s29b, .slice A29b n29b c29b, .int .i64 s29b_, .slice A29b_ n29b_ c29b_, .int .i64 s29bz, .slice A29bz n29bz c29bz, .int .i64 s29bz_, .slice A29bz_ n29bz_ c29bz_]]) ?_
 refine GL.v (.agg #[.slice A29a n29a c29a, .bool m29a, .slice A29a_ n29a_ c29a_, .slice A29az n29az c29az, .bool m29az, .slice A29az_ n29az_ c29az_]) ?_
 refine GL.v (.agg #[.int .i64 s29b, .slice A29b n29b c29b, .int .i64 s29b_, .slice A29b_ n29b_ c29b_, .int .i64 s29bz, .slice A29bz n29bz c29bz, .int .i64 s29bz_, .slice A29bz_ n29bz_ c29bz_]) ?_
 refine GL.aA zer103 fun g30 => ?_
 refine GL.aA zer105 fun g31 => ?_
 refine GL.sA (cs' := #[.slice A29a n29a c29a, .bool m29a, .slice A29a_ n29a_ c29a_, .slice A29az n29az c29az, .bool m29az, .slice A29az_ n29az_ c29az_]) (fun _ _ => Mem.st1) (fun _ hM => hM.b 1 rfl) siz103 ?_
 refine GL.sA (cs' := #[.int .i64 s29b, .slice A29b n29b c29b, .int .i64 s29b_, .slice A29b_ n29b_ c29b_, .int .i64 s29bz, .slice A29bz n29bz c29bz, .int .i64 s29bz_, .slice A29bz_ n29bz_ c29bz_]) (fun _ _ => Mem.st0) (fun _ hM => hM.b 0 rfl) siz105 ?_ (hall := by kernel_rfl) (hp := by kernel_rfl)
 refine GL.k k1 ?_
 refine CG.seq fun K_ k1 => ?_
 refine CG.lin 9 ?_
 refine GL.r (.agg #[.int .i64 kN, .int .i64 kD]) (fun _ hM => op_load_agg (off := 0) (by kernel_rfl) agg60 siz60 (hM.b 4 rfl) rfl rfl) ?_
 refine GL.call (fun _ hM => Both_ok hM.avlt kN kD (by first | assumption | (dsimp only; omega) | omega) (by first | assumption | (dsimp only; omega) | omega)) ?_
 rintro _ _ _ hM ⟨A32a, n32a, c32a, m32a, A32a_, n32a_, c32a_, s32b, A32b, n32b, c32b, s32b_, A32b_, n32b_, c32b_, rfl, h32a, h32b, hb⟩
 have hz32 := numv_sz kN kD (by assumption) (by assumption)
 refine ⟨_, _, _, rfl, ((hM.call hb).add h32a).add h32b, ?_⟩
 refine GL.v (.tuple #[.agg #[.slice A32a n32a c32a, .bool m32a, .slice A32a_ n32a_ c32a_], .agg #[.int .i64 s32b, .slice A32b n32b c32b, .int .i64 s32b_, .slice A32b_ n32b_ c32b_]]) ?_
 refine GL.v (.agg #[.slice A32a n32a c32a, .bool m32a, .slice A32a_ n32a_ c32a_]) ?_
 refine GL.v (.agg #[.int .i64 s32b, .slice A32b n32b c32b, .int .i64 s32b_, .slice A32b_ n32b_ c32b_]) ?_
 refine GL.aA zer48 fun g33 => ?_
 refine GL.aA zer54 fun g34 => ?_
 refine GL.sA (cs' := #[.slice A32a n32a c32a, .bool m32a, .slice A32a_ n32a_ c32a_]) (fun _ _ => Mem.st1) (fun _ hM => hM.b 1 rfl) siz48 ?_
 refine GL.sA (cs' := #[.int .i64 s32b, .slice A32b n32b c32b, .int .i64 s32b_, .slice A32b_ n32b_ c32b_]) (fun _ _ => Mem.st0) (fun _ hM => hM.b 0 rfl) siz54 ?_
 refine GL.k k1 ?_
 refine CG.seq fun K_ k1 => ?_
 refine CG.draw [] [0, 1, 3, 4, 7, 8, 9, 11, 12, 15, 16, 17, 18, 20, 21, 24, 25, 26, 27, 29, 30, 33, 34, 35, 36, 38, 39, 42, 43, 44, 45, 47, 48, 50, 51, 52, 53, 55, 57, 58, 59, 61] (.step 0 (.step 1 (.step 3 (.step 4 (.step 2 (.step 5 (.step 6 (.step 7 (.step 8 (.step 9 (.step 11 (.step 12 (.step 10 (.step 13 (.step 14 (.step 15 (.step 16 (.step 17 (.step 18 (.step 20 (.step 21 (.step 19 (.step 22 (.step 23 (.step 24 (.step 25 (.step 26 (.step 27 (.step 29 (.step 30 (.step 28 (.step 31 (.step 32 (.step 33 (.step 34 (.step 35 (.step 36 (.step 38 (.step 39 (.step 37 (.step 40 (.step 41 (.step 42 (.step 43 (.step 44 (.step 45 (.step 47 (.step 48 (.step 46 (.step 49 (.step 50 (.step 51 (.step 52 (.step 53 (.step 55 (.step 54 (.step 56 (.step 57 (.step 58 (.step 59 (.step 60 (.step 61 (.step 62 .done))))))))))))))))))))))))))))))))))))))))))))))))))))))))))))))) (fun V hV35 => ?_)
 refine GD.er (.agg #[.slice A26a n26a c26a, .bool m26a, .slice A26a_ n26a_ c26a_, .slice A26az n26az c26az, .bool m26az, .slice A26az_ n26az_ c26az_]) (fun _ hS => op_load_agg (off := 0) (by kernel_rfl) agg103 siz103 (hV35.bS 5 rfl hS) rfl rfl) ?_
 refine GD.er (.agg #[.slice A29a n29a c29a, .bool m29a, .slice A29a_ n29a_ c29a_, .slice A29az n29az c29az, .bool m29az, .slice A29az_ n29az_ c29az_]) (fun _ hS => op_load_agg (off := 0) (by kernel_rfl) agg103 siz103 (hV35.bS 3 rfl hS) rfl rfl) ?_
 refine GD.er (.agg #[.int .i64 s26b, .slice A26b n26b c26b, .int .i64 s26b_, .slice A26b_ n26b_ c26b_, .int .i64 s26bz, .slice A26bz n26bz c26bz, .int .i64 s26bz_, .slice A26bz_ n26bz_ c26bz_]) (fun _ hS => op_load_agg (off := 0) (by kernel_rfl) agg105 siz105 (hV35.bS 4 rfl hS) rfl rfl) ?_
 refine GD.er (.agg #[.int .i64 s29b, .slice A29b n29b c29b, .int .i64 s29b_, .slice A29b_ n29b_ c29b_, .int .i64 s29bz, .slice A29bz n29bz c29bz, .int .i64 s29bz_, .slice A29bz_ n29bz_ c29bz_]) (fun _ hS => op_load_agg (off := 0) (by kernel_rfl) agg105 siz105 (hV35.bS 2 rfl hS) rfl rfl) ?_
 refine GD.call (fun _ hM => VAdd_ok hM.avlt (hM.f 5 rfl) (hM.f 3 rfl) (by first | assumption | (dsimp only; omega) | omega) (by first | assumption | (dsimp only; omega) | omega)) ?_
 rintro _ _ _ hM ⟨A36, n36, c36, m36, A36_, n36_, c36_, A36z, n36z, c36z, m36z, A36z_, n36z_, c36z_, rfl, h36, hb⟩
 have hs36 := szR_add (numv xN xD) (numv uN uD)
 have ht36 := szR_add (numv zN zD) (numv wN wD)
 refine ⟨_, _, _, rfl, hb, (hM.call hb).add h36, ?_⟩
 refine GD.call (fun _ hM => NVAdd_ok hM.avlt (hM.f 5 rfl) (hM.f 3 rfl) (by first | assumption | (dsimp only; omega) | omega) (by first | assumption | (dsimp only; omega) | omega)) ?_
 rintro _ _ _ hM ⟨s37, A37, n37, c37, s37_, A37_, n37_, c37_, s37z, A37z, n37z, c37z, s37z_, A37z_, n37z_, c37z_, rfl, h37, hb⟩
 have hs37 := szgR_add (numv xN xD) (numv uN uD)
 have ht37 := szgR_add (numv zN zD) (numv wN wD)
 refine ⟨_, _, _, rfl, hb, (hM.call hb).add h37, ?_⟩
 refine GD.call (fun _ hM => SameV_ok hM.avlt (hM.f 1 rfl) (hM.f 0 rfl) (by first | assumption | (dsimp only; omega) | omega) (by first | assumption | (dsimp only; omega) | omega) (by first | assumption | (dsimp only; omega) | omega) (by first | assumption | (dsimp only; omega) | omega)) ?_
 rintro _ _ _ hM ⟨rfl, hb⟩
 refine ⟨.bool true, _, _, (ret_bool (by rw [decide_eq_true rfl, decide_eq_true rfl]; rfl)), hb, hM.call hb, ?_⟩
 refine GD.ev (.bool true) ?_
 refine GD.er (.agg #[.slice A26a n26a c26a, .bool m26a, .slice A26a_ n26a_ c26a_, .slice A26az n26az c26az, .bool m26az, .slice A26az_ n26az_ c26az_]) (fun _ hS => op_load_agg (off := 0) (by kernel_rfl) agg103 siz103 (hV35.bS 5 rfl hS) rfl rfl) ?_
 refine GD.er (.agg #[.slice A29a n29a c29a, .bool m29a, .slice A29a_ n29a_ c29a_, .slice A29az n29az c29az, .bool m29az, .slice A29az_ n29az_ c29az_]) (fun _ hS => op_load_agg (off := 0) (by kernel_rfl) agg103 siz103 (hV35.bS 3 rfl hS) rfl rfl) ?_
 refine GD.er (.agg #[.int .i64 s26b, .slice A26b n26b c26b, .int .i64 s26b_, .slice A26b_ n26b_ c26b_, .int .i64 s26bz, .slice A26bz n26bz c26bz, .int .i64 s26bz_, .slice A26bz_ n26bz_ c26bz_]) (fun _ hS => op_load_agg (off := 0) (by kernel_rfl) agg105 siz105 (hV35.bS 4 rfl hS) rfl rfl) ?_
 refine GD.er (.agg #[.int .i64 s29b, .slice A29b n29b c29b, .int .i64 s29b_, .slice A29b_ n29b_ c29b_, .int .i64 s29bz, .slice A29bz n29bz c29bz, .int .i64 s29bz_, .slice A29bz_ n29bz_ c29bz_]) (fun _ hS => op_load_agg (off := 0) (by kernel_rfl) agg105 siz105 (hV35.bS 2 rfl hS) rfl rfl) ?_
 refine GD.call (fun _ hM => VSub_ok hM.avlt (hM.f 7 rfl) (hM.f 5 rfl) (by first | assumption | (dsimp only; omega) | omega) (by first | assumption | (dsimp only; omega) | omega)) ?_
 rintro _ _ _ hM ⟨A39, n39, c39, m39, A39_, n39_, c39_, A39z, n39z, c39z, m39z, A39z_, n39z_, c39z_, rfl, h39, hb⟩
 have hs39 := szR_sub (numv xN xD) (numv uN uD)
 have ht39 := szR_sub (numv zN zD) (numv wN wD)
 refine ⟨_, _, _, rfl, hb, (hM.call hb).add h39, ?_⟩
 refine GD.call (fun _ hM => NVSub_ok hM.avlt (hM.f 7 rfl) (hM.f 5 rfl) (by first | assumption | (dsimp only; omega) | omega) (by first | assumption | (dsimp only; omega) | omega)) ?_
 rintro _ _ _ hM ⟨s40, A40, n40, c40, s40_, A40_, n40_, c40_, s40z, A40z, n40z, c40z, s40z_, A40z_, n40z_, c40z_, rfl, h40, hb⟩
 have hs40 := szgR_sub (numv xN xD) (numv uN uD)
 have ht40 := szgR_sub (numv zN zD) (numv wN wD)
 refine ⟨_, _, _, rfl, hb, (hM.call hb).add h40, ?_⟩
 refine GD.call (fun _ hM => SameV_ok hM.avlt (hM.f 1 rfl) (hM.f 0 rfl) (by first | assumption | (dsimp only; omega) | omega) (by first | assumption | (dsimp only; omega) | omega) (by first | assumption | (dsimp only; omega) | omega) (by first | assumption | (dsimp only; omega) | omega)) ?_
 rintro _ _ _ hM ⟨rfl, hb⟩
 refine ⟨.bool true, _, _, (ret_bool (by rw [decide_eq_true rfl, decide_eq_true rfl]; rfl)), hb, hM.call hb, ?_⟩
 refine GD.ev (.bool true) ?_
 refine GD.ev (.bool true) ?_
 refine GD.er (.agg #[.slice A26a n26a c26a, .bool m26a, .slice A26a_ n26a_ c26a_, .slice A26az n26az c26az, .bool m26az, .slice A26az_ n26az_ c26az_]) (fun _ hS => op_load_agg (off := 0) (by kernel_rfl) agg103 siz103 (hV35.bS 5 rfl hS) rfl rfl) ?_
 refine GD.er (.agg #[.slice A32a n32a c32a, .bool m32a, .slice A32a_ n32a_ c32a_]) (fun _ hS => op_load_agg (off := 0) (by kernel_rfl) agg48 siz48 (hV35.bS 1 rfl hS) rfl rfl) ?_
 refine GD.er (.agg #[.int .i64 s26b, .slice A26b n26b c26b, .int .i64 s26b_, .slice A26b_ n26b_ c26b_, .int .i64 s26bz, .slice A26bz n26bz c26bz, .int .i64 s26bz_, .slice A26bz_ n26bz_ c26bz_]) (fun _ hS => op_load_agg (off := 0) (by kernel_rfl) agg105 siz105 (hV35.bS 4 rfl hS) rfl rfl) ?_
 refine GD.er (.agg #[.int .i64 s32b, .slice A32b n32b c32b, .int .i64 s32b_, .slice A32b_ n32b_ c32b_]) (fun _ hS => op_load_agg (off := 0) (by kernel_rfl) agg54 siz54 (hV35.bS 0 rfl hS) rfl rfl) ?_
 refine GD.call (fun _ hM => VScale_ok hM.avlt (hM.f 9 rfl) (hM.f 5 rfl) (by first | assumption | (dsimp only; omega) | omega) (by first | assumption | (dsimp only; omega) | omega)) ?_
 rintro _ _ _ hM ⟨A42, n42, c42, m42, A42_, n42_, c42_, A42z, n42z, c42z, m42z, A42z_, n42z_, c42z_, rfl, h42, hb⟩
 have hs42 := szR_mul (numv xN xD) (numv kN kD)
 have ht42 := szR_mul (numv zN zD) (numv kN kD)
 refine ⟨_, _, _, rfl, hb, (hM.call hb).add h42, ?_⟩
 refine GD.call (fun _ hM => NVScale_ok hM.avlt (hM.f 9 rfl) (hM.f 5 rfl) (by first | assumption | (dsimp only; omega) | omega) (by first | assumption | (dsimp only; omega) | omega)) ?_
 rintro _ _ _ hM ⟨s43, A43, n43, c43, s43_, A43_, n43_, c43_, s43z, A43z, n43z, c43z, s43z_, A43z_, n43z_, c43z_, rfl, h43, hb⟩
 have hs43 := szgR_mul (numv xN xD) (numv kN kD)
 have ht43 := szgR_mul (numv zN zD) (numv kN kD)
 refine ⟨_, _, _, rfl, hb, (hM.call hb).add h43, ?_⟩
 refine GD.call (fun _ hM => SameV_ok hM.avlt (hM.f 1 rfl) (hM.f 0 rfl) (by first | assumption | (dsimp only; omega) | omega) (by first | assumption | (dsimp only; omega) | omega) (by first | assumption | (dsimp only; omega) | omega) (by first | assumption | (dsimp only; omega) | omega)) ?_
 rintro _ _ _ hM ⟨rfl, hb⟩
 refine ⟨.bool true, _, _, (ret_bool (by rw [decide_eq_true rfl, decide_eq_true rfl]; rfl)), hb, hM.call hb, ?_⟩
 refine GD.ev (.bool true) ?_
 refine GD.ev (.bool true) ?_
 refine GD.er (.agg #[.slice A26a n26a c26a, .bool m26a, .slice A26a_ n26a_ c26a_, .slice A26az n26az c26az, .bool m26az, .slice A26az_ n26az_ c26az_]) (fun _ hS => op_load_agg (off := 0) (by kernel_rfl) agg103 siz103 (hV35.bS 5 rfl hS) rfl rfl) ?_
 refine GD.er (.agg #[.slice A29a n29a c29a, .bool m29a, .slice A29a_ n29a_ c29a_, .slice A29az n29az c29az, .bool m29az, .slice A29az_ n29az_ c29az_]) (fun _ hS => op_load_agg (off := 0) (by kernel_rfl) agg103 siz103 (hV35.bS 3 rfl hS) rfl rfl) ?_
 refine GD.er (.agg #[.int .i64 s26b, .slice A26b n26b c26b, .int .i64 s26b_, .slice A26b_ n26b_ c26b_, .int .i64 s26bz, .slice A26bz n26bz c26bz, .int .i64 s26bz_, .slice A26bz_ n26bz_ c26bz_]) (fun _ hS => op_load_agg (off := 0) (by kernel_rfl) agg105 siz105 (hV35.bS 4 rfl hS) rfl rfl) ?_
 refine GD.er (.agg #[.int .i64 s29b, .slice A29b n29b c29b, .int .i64 s29b_, .slice A29b_ n29b_ c29b_, .int .i64 s29bz, .slice A29bz n29bz c29bz, .int .i64 s29bz_, .slice A29bz_ n29bz_ c29bz_]) (fun _ hS => op_load_agg (off := 0) (by kernel_rfl) agg105 siz105 (hV35.bS 2 rfl hS) rfl rfl) ?_
 refine GD.call (fun _ hM => Dot_ok hM.avlt (hM.f 11 rfl) (hM.f 9 rfl) (by first | assumption | (dsimp only; omega) | omega)) ?_
 rintro _ _ _ hM ⟨A45, n45, c45, m45, A45_, n45_, c45_, rfl, h45, hb⟩
 have hs45 := szR_dot (numv xN xD) (numv uN uD) (numv zN zD) (numv wN wD)
 refine ⟨_, _, _, rfl, hb, (hM.call hb).add h45, ?_⟩
 refine GD.call (fun _ hM => NDot_ok hM.avlt (hM.f 11 rfl) (hM.f 9 rfl) (by first | assumption | (dsimp only; omega) | omega)) ?_
 rintro _ _ _ hM ⟨s46, A46, n46, c46, s46_, A46_, n46_, c46_, rfl, h46, hb⟩
 have hs46 := szgR_dot (numv xN xD) (numv uN uD) (numv zN zD) (numv wN wD)
 refine ⟨_, _, _, rfl, hb, (hM.call hb).add h46, ?_⟩
 refine GD.call (fun _ hM => Same_ok hM.avlt (hM.f 1 rfl) (hM.f 0 rfl) (by first | assumption | (dsimp only; omega) | omega) (by first | assumption | (dsimp only; omega) | omega)) ?_
 rintro _ _ _ hM ⟨rfl, hb⟩
 refine ⟨.bool true, _, _, (ret_bool (decide_eq_true rfl)), hb, hM.call hb, ?_⟩
 refine GD.ev (.bool true) ?_
 refine GD.ev (.bool true) ?_
 refine GD.er (.agg #[.slice A26a n26a c26a, .bool m26a, .slice A26a_ n26a_ c26a_, .slice A26az n26az c26az, .bool m26az, .slice A26az_ n26az_ c26az_]) (fun _ hS => op_load_agg (off := 0) (by kernel_rfl) agg103 siz103 (hV35.bS 5 rfl hS) rfl rfl) ?_
 refine GD.er (.agg #[.slice A29a n29a c29a, .bool m29a, .slice A29a_ n29a_ c29a_, .slice A29az n29az c29az, .bool m29az, .slice A29az_ n29az_ c29az_]) (fun _ hS => op_load_agg (off := 0) (by kernel_rfl) agg103 siz103 (hV35.bS 3 rfl hS) rfl rfl) ?_
 refine GD.er (.agg #[.int .i64 s26b, .slice A26b n26b c26b, .int .i64 s26b_, .slice A26b_ n26b_ c26b_, .int .i64 s26bz, .slice A26bz n26bz c26bz, .int .i64 s26bz_, .slice A26bz_ n26bz_ c26bz_]) (fun _ hS => op_load_agg (off := 0) (by kernel_rfl) agg105 siz105 (hV35.bS 4 rfl hS) rfl rfl) ?_
 refine GD.er (.agg #[.int .i64 s29b, .slice A29b n29b c29b, .int .i64 s29b_, .slice A29b_ n29b_ c29b_, .int .i64 s29bz, .slice A29bz n29bz c29bz, .int .i64 s29bz_, .slice A29bz_ n29bz_ c29bz_]) (fun _ hS => op_load_agg (off := 0) (by kernel_rfl) agg105 siz105 (hV35.bS 2 rfl hS) rfl rfl) ?_
 refine GD.call (fun _ hM => Cross_ok hM.avlt (hM.f 13 rfl) (hM.f 11 rfl) (by first | assumption | (dsimp only; omega) | omega)) ?_
 rintro _ _ _ hM ⟨A48, n48, c48, m48, A48_, n48_, c48_, rfl, h48, hb⟩
 have hs48 := szR_cross (numv xN xD) (numv wN wD) (numv zN zD) (numv uN uD)
 refine ⟨_, _, _, rfl, hb, (hM.call hb).add h48, ?_⟩
 refine GD.call (fun _ hM => NCross_ok hM.avlt (hM.f 13 rfl) (hM.f 11 rfl) (by first | assumption | (dsimp only; omega) | omega)) ?_
 rintro _ _ _ hM ⟨s49, A49, n49, c49, s49_, A49_, n49_, c49_, rfl, h49, hb⟩
 have hs49 := szgR_cross (numv xN xD) (numv wN wD) (numv zN zD) (numv uN uD)
 refine ⟨_, _, _, rfl, hb, (hM.call hb).add h49, ?_⟩
 refine GD.call (fun _ hM => Same_ok hM.avlt (hM.f 1 rfl) (hM.f 0 rfl) (by first | assumption | (dsimp only; omega) | omega) (by first | assumption | (dsimp only; omega) | omega)) ?_
 rintro _ _ _ hM ⟨rfl, hb⟩
 refine ⟨.bool true, _, _, (ret_bool (decide_eq_true rfl)), hb, hM.call hb, ?_⟩
 refine GD.ev (.bool true) ?_
 refine GD.ev (.bool true) ?_
 refine GD.er (.agg #[.slice A26a n26a c26a, .bool m26a, .slice A26a_ n26a_ c26a_, .slice A26az n26az c26az, .bool m26az, .slice A26az_ n26az_ c26az_]) (fun _ hS => op_load_agg (off := 0) (by kernel_rfl) agg103 siz103 (hV35.bS 5 rfl hS) rfl rfl) ?_
 refine GD.er (.agg #[.slice A29a n29a c29a, .bool m29a, .slice A29a_ n29a_ c29a_, .slice A29az n29az c29az, .bool m29az, .slice A29az_ n29az_ c29az_]) (fun _ hS => op_load_agg (off := 0) (by kernel_rfl) agg103 siz103 (hV35.bS 3 rfl hS) rfl rfl) ?_
 refine GD.er (.agg #[.int .i64 s26b, .slice A26b n26b c26b, .int .i64 s26b_, .slice A26b_ n26b_ c26b_, .int .i64 s26bz, .slice A26bz n26bz c26bz, .int .i64 s26bz_, .slice A26bz_ n26bz_ c26bz_]) (fun _ hS => op_load_agg (off := 0) (by kernel_rfl) agg105 siz105 (hV35.bS 4 rfl hS) rfl rfl) ?_
 refine GD.er (.agg #[.int .i64 s29b, .slice A29b n29b c29b, .int .i64 s29b_, .slice A29b_ n29b_ c29b_, .int .i64 s29bz, .slice A29bz n29bz c29bz, .int .i64 s29bz_, .slice A29bz_ n29bz_ c29bz_]) (fun _ hS => op_load_agg (off := 0) (by kernel_rfl) agg105 siz105 (hV35.bS 2 rfl hS) rfl rfl) ?_
 refine GD.call (fun _ hM => VSame_ok hM.avlt (hM.f 15 rfl) (hM.f 13 rfl) (by first | assumption | (dsimp only; omega) | omega) (by first | assumption | (dsimp only; omega) | omega)) ?_
 rintro _ _ _ hM ⟨rfl, hb⟩
 refine ⟨_, _, _, rfl, hb, hM.call hb, ?_⟩
 refine GD.call (fun _ hM => NVSame_ok hM.avlt (hM.f 14 rfl) (hM.f 12 rfl) (by first | assumption | (dsimp only; omega) | omega) (by first | assumption | (dsimp only; omega) | omega)) ?_
 rintro _ _ _ hM ⟨rfl, hb⟩
 refine ⟨_, _, _, rfl, hb, hM.call hb, ?_⟩
 refine GD.ev (.bool true) ?_ (hr := fun u => op_b (b := ((decide ((numv xN xD) = (numv uN uD)) && decide ((numv zN zD) = (numv wN wD))) == (decide ((numv xN xD) = (numv uN uD)) && decide ((numv zN zD) = (numv wN wD))))) ((fun _ => op_eql_bool (p := (decide ((numv xN xD) = (numv uN uD)) && decide ((numv zN zD) = (numv wN wD)))) (q := (decide ((numv xN xD) = (numv uN uD)) && decide ((numv zN zD) = (numv wN wD)))) (by kernel_rfl) (by kernel_rfl) (by kernel_rfl)) u) (beq_self_eq_true _))
 refine GD.ev (.bool true) ?_
 refine GD.ev (.bool true) ?_
 refine GD.er (.agg #[.slice A26a n26a c26a, .bool m26a, .slice A26a_ n26a_ c26a_, .slice A26az n26az c26az, .bool m26az, .slice A26az_ n26az_ c26az_]) (fun _ hS => op_load_agg (off := 0) (by kernel_rfl) agg103 siz103 (hV35.bS 5 rfl hS) rfl rfl) ?_
 refine GD.er (.agg #[.int .i64 s26b, .slice A26b n26b c26b, .int .i64 s26b_, .slice A26b_ n26b_ c26b_, .int .i64 s26bz, .slice A26bz n26bz c26bz, .int .i64 s26bz_, .slice A26bz_ n26bz_ c26bz_]) (fun _ hS => op_load_agg (off := 0) (by kernel_rfl) agg105 siz105 (hV35.bS 4 rfl hS) rfl rfl) ?_
 refine GD.call (fun _ hM => VText_ok hM.avlt (hM.f 15 rfl) (by first | assumption | (dsimp only; omega) | omega) (by first | assumption | (dsimp only; omega) | omega)) ?_
 rintro _ _ _ hM ⟨rfl, hb⟩
 refine ⟨_, _, _, rfl, hb, hM.call hb, ?_⟩
 refine GD.call (fun _ hM => NVText_ok hM.avlt (hM.f 14 rfl) (by first | assumption | (dsimp only; omega) | omega) (by first | assumption | (dsimp only; omega) | omega)) ?_
 rintro _ _ _ hM ⟨rfl, hb⟩
 refine ⟨_, _, _, rfl, hb, hM.call hb, ?_⟩
 refine GD.ev (.bool true) ?_ (hr := fun u => op_b (b := (decide ((decV (numv xN xD, numv zN zD)) = (decV (numv xN xD, numv zN zD))))) ((fun u => op_seq (L := decV (numv xN xD, numv zN zD)) (K := decV (numv xN xD, numv zN zD)) (by kernel_rfl) (by kernel_rfl)) u) (decide_eq_true rfl))
 refine GD.ev (.bool true) ?_
 refine GD.ev (.bool true) ?_
 refine GD.call (fun _ hM => awake_ok hM.avlt) ?_
 rintro _ _ _ hM ⟨rfl, hb⟩
 refine ⟨_, _, _, rfl, hb, hM.call hb, ?_⟩
 refine GD.ev (.bool true) ?_
 refine GD.v (.bool true) ?_
 refine GD.k k1 ?_
 refine CG.ret (QG.ret (fun _ hM => results_one rfl (res_tmp rfl)) ?_)
 intro _ hM
 exact ⟨rfl, hM.below⟩

end Go.Proofs.YtklnjhlidfclmaaGreatDoor
