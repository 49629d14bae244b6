/- Contracts of the program's functions. -/
import Derived.Test.YtklnjhlidfclmaaDoorC1
set_option linter.unusedVariables false
set_option linter.unusedSimpArgs false
namespace Go.Proofs.YtklnjhlidfclmaaDoor
open Go.RowKit Cps
attribute [local go_sem] Oper.semAt_some

set_option maxRecDepth 100000 in
set_option maxHeartbeats 400000 in
theorem text_ok {w : World} {X : Nat → Prop} {A1 : Option Addr} {n1 : Nat} {c1 : Nat} {x : Nat} (hX : ∀ k, X k → k < w.heap.size) (h1 : Dk.R X w [.slice A1 n1 c1] x) (p1 : szn x ≤ 1099511627000) :
    Calls Tryd.prog 53 #[.agg #[.slice A1 n1 c1]] w (fun e w' => e = .returned (.string (bs (dec x))) ∧ Below w.heap.size w w') := by
 have hM := (Mem.start hX).add0 h1
 have l1 := Dk.le h1
 have m1 := Dk.len h1
 refine calls_of hM Tryd.func53 Tryd.ntmps53 ?_
 refine CG.seq fun K_ k1 => ?_
 refine CG.lin 2 ?_
 refine GL.bA #[.slice A1 n1 c1] fun g21 => ?_
 refine GL.v (.string (bs [])) ?_
 refine GL.k k1 ?_
 refine CG.seq fun K_ k1 => ?_
 refine CG.lin 1 ?_
 refine GL.v (.slice none 0 0) ?_
 refine GL.k k1 ?_
 refine CG.seq fun K_ k1 => ?_
 refine CG.block ?_
 refine CG.loop (fun m_ a_ u_ => ∃ (Aa : Option Addr) (na : Nat) (ca : Nat) (a : Nat) (A3 : Option Addr) (n3 : Nat) (c3 : Nat) (P : List (List UInt8)) (j22 : Nat → Value), a_ = ⟨#[.agg #[.slice A1 n1 c1], .pointer (some ⟨g21, 0, none⟩), .string (bs []), .slice A3 n3 c3, (j22 4), (j22 5), (j22 6), (j22 7), (j22 8), undef, (j22 10), (j22 11), (j22 12), (j22 13), (j22 14), (j22 15), (j22 16), (j22 17), (j22 18), (j22 19), (j22 20), (j22 21), (j22 22), (j22 23), (j22 24), (j22 25), (j22 26), (j22 27), (j22 28), (j22 29), (j22 30), (j22 31), (j22 32), (j22 33), (j22 34), (j22 35), (j22 36), (j22 37), (j22 38), (j22 39), (j22 40), (j22 41), (j22 42), (j22 43), (j22 44), undef, undef, undef, undef, undef, undef], []⟩ ∧ m_ = a ∧ Mem w [] X u_ [.box g21 #[.slice Aa na ca] 26] [⟨Dk, [.slice Aa na ca], a⟩, ⟨SLk, [.slice A3 n3 c3], P⟩, ⟨Dk, [.slice A1 n1 c1], x⟩] ∧ (a = x / 10000000 ^ P.length) ∧ (P.flatten = pad (7 * P.length) x) ∧ (P.length ≤ 2 * szn x)) (fun _ hM => ⟨_, A1, n1, c1, x, none, 0, 0, [], (fun t => (#[.agg #[.slice A1 n1 c1], .pointer (some ⟨g21, 0, none⟩), .string (bs []), .slice none 0 0, undef, undef, undef, undef, undef, undef, undef, undef, undef, undef, undef, undef, undef, undef, undef, undef, undef, undef, undef, undef, undef, undef, undef, undef, undef, undef, undef, undef, undef, undef, undef, undef, undef, undef, undef, undef, undef, undef, undef, undef, undef, undef, undef, undef, undef, undef, undef] : Array Value).getD t undef), (by kernel_rfl), rfl, (((hM.clr).add (hM.f 0 rfl)).add (SLk.nil _ _ _ _)).add (hM.f 0 rfl), (by simp), rfl, (by simp)⟩) ?_
 rintro m_ a_ u_ ⟨Aa, na, ca, a, A3, n3, c3, P, j22, rfl, hm22, hM, ha, hP, hn⟩
 have hlP := SLk.len (hM.f 1 rfl)
 have hsa : szn a ≤ szn x := by rw [ha]; exact szn_mono (Nat.div_le_self _ _)
 have hs10 : szn 10000000 ≤ 1 := szn_small 1 (by decide)
 refine CG.go hM ?_
 refine CG.seq fun K_ k2 => ?_
 refine CG.seq fun K_ k3 => ?_
 refine CG.lin 3 ?_
 refine GL.r (.agg #[.slice Aa na ca]) (fun _ hM => op_load_agg (off := 0) (by kernel_rfl) agg26 siz26 (hM.b 0 rfl) rfl rfl) ?_
 refine GL.call (fun _ hM => none_ok hM.avlt (hM.f 0 rfl)) ?_
 rintro _ _ _ hM ⟨rfl, hb⟩
 refine ⟨_, _, _, rfl, hM.call hb, ?_⟩
 refine GL.v (.bool (!(decide (a = 0)))) ?_
 refine GL.k k3 ?_
 by_cases hc24 : ¬ a = 0
 · have hk24 : (!(decide (a = 0))) = true := by simpa using hc24
   refine CG.yes ?_ hk24 rfl
   refine CG.skip ?_
   refine QG.k k2 ?_
   refine CG.block ?_
   refine CG.seq fun K_ k2 => ?_
   refine CG.lin 11 ?_
   refine GL.r (.agg #[.slice Aa na ca]) (fun _ hM => op_load_agg (off := 0) (by kernel_rfl) agg26 siz26 (hM.b 0 rfl) rfl rfl) ?_
   refine GL.row (fun _ => op_build1 rowt24 (v := .int .i64 10000000) (by kernel_rfl) rfl) (fun _ _ _ hm => own_one_i64 hm) fun g25 => ?_
   refine GL.v (.agg #[.slice (some ⟨g25, 0, none⟩) 1 1]) ?_
   refine GL.mem (fun _ hM => hM.pu0 fun hO _ hX => Dk.own (x := 10000000) hO ten7_dg hX) ?_
   refine GL.call (fun _ hM => over_ok hM.avlt (hM.f 1 rfl) (hM.f 0 rfl) (by first | assumption | omega) (by first | assumption | omega)) ?_
   rintro _ _ _ hM ⟨A26a, n26a, c26a, A26b, n26b, c26b, rfl, h26a, h26b, hb⟩
   have hs26 := szn_div a (10000000)
   have ht26 := szn_mod a (10000000)
   refine ⟨_, _, _, rfl, ((hM.call hb).add h26a).add h26b, ?_⟩
   refine GL.v (.tuple #[.agg #[.slice A26a n26a c26a], .agg #[.slice A26b n26b c26b]]) ?_
   refine GL.v (.agg #[.slice A26a n26a c26a]) ?_
   refine GL.v (.agg #[.slice A26b n26b c26b]) ?_
   refine GL.aA zer26 fun g27 => ?_
   refine GL.aA zer26 fun g28 => ?_
   refine GL.sA (cs' := #[.slice A26a n26a c26a]) (fun _ _ => Mem.st1) (fun _ hM => hM.b 1 rfl) siz26 ?_
   refine GL.sA (cs' := #[.slice A26b n26b c26b]) (fun _ _ => Mem.st0) (fun _ hM => hM.b 0 rfl) siz26 ?_
   refine GL.k k2 ?_
   refine CG.seq fun K_ k2 => ?_
   refine CG.lin 3 ?_
   refine GL.r (.agg #[.slice A26b n26b c26b]) (fun _ hM => op_load_agg (off := 0) (by kernel_rfl) agg26 siz26 (hM.b 0 rfl) rfl rfl) ?_
   refine GL.call (fun _ hM => wordof_ok hM.avlt (hM.f 0 rfl) (by first | assumption | omega)) ?_
   rintro _ _ _ hM ⟨rfl, hb⟩
   refine ⟨_, _, _, rfl, hM.call hb, ?_⟩
   refine GL.v (.int .u64 (((a % 10000000) : Nat) : Int)) ?_
   refine GL.k k2 ?_
   refine CG.seq fun K_ k2 => ?_
   refine CG.lin 2 ?_
   refine GL.row (fun _ => op_make rowt101 (kl := .i64) (kc := .i64) (l := (7 : Int)) (c := (7 : Int)) 7 7 (by kernel_rfl) (by kernel_rfl) (by omega) (by omega) (by omega) (by omega) (by omega)) (fun _ _ _ hm => own_made_u8 hm (by omega) (by omega)) fun g30 => ?_
   refine GL.v (.slice (some ⟨g30, 0, none⟩) 7 7) ?_
   refine GL.k k2 ?_
   refine CG.seq fun K_ k2 => ?_
   refine CG.seq fun K_ k3 => ?_
   refine CG.lin 3 ?_
   refine GL.v (.slice (some ⟨g30, 0, none⟩) 7 7) ?_
   refine GL.v (.int .i64 7) ?_
   refine GL.v (.int .i64 0) ?_
   refine GL.k k3 ?_
   refine CG.block ?_
   refine CG.rounds 8 ?_
   refine CG.round ?_
   refine CG.seq fun K_ k3 => ?_
   refine CG.lin 1 ?_
   refine GL.v (.bool true) ?_
   refine GL.k k3 ?_
   refine CG.seq fun K_ k3 => ?_
   refine CG.yes ?_ rfl rfl
   refine CG.skip ?_
   refine QG.k k3 ?_
   refine CG.seq fun K_ k3 => ?_
   refine CG.block ?_
   refine CG.seq fun K_ k4 => ?_
   refine CG.lin 2 ?_
   refine GL.v (.int .i64 0) ?_
   refine GL.v (.int .i64 0) ?_
   refine GL.k k4 ?_
   refine CG.seq fun K_ k4 => ?_
   refine CG.lin 9 ?_
   refine GL.v (.slice (some ⟨g30, 0, none⟩) 7 7) ?_
   refine GL.v (.int .i64 0) ?_
   refine GL.v (.int .i64 6) ?_ (hr := fun u => op_to (v := .int .i64 (IntKind.wrap .i64 ((6 : Int) - (0 : Int)))) (by kernel_rfl) (wrap_i64 (by omega) (by omega) (by omega)))
   refine GL.v (.int .u64 (((a % 10000000) : Nat) : Int)) ?_
   refine GL.v (.int .u64 (((a % 10000000) % 10 : Nat) : Int)) ?_ (hr := fun u => op_to (v := .int .u64 (((((a % 10000000) : Nat) : Int)).tmod 10)) (by kernel_rfl) (rem_to .u64 (by omega) (by omega)))
   refine GL.v (.int .u64 ((48 + ((a % 10000000) % 10) : Nat) : Int)) ?_ (hr := fun u => op_to (v := .int .u64 (IntKind.wrap .u64 ((48 : Int) + (((a % 10000000) % 10 : Nat) : Int)))) (by kernel_rfl) (wrap_u64 (by omega) (by omega) (by omega)))
   refine GL.v (.int .u8 ((48 + ((a % 10000000) % 10) : Nat) : Int)) ?_ (hr := fun u => op_to (v := .int .u8 (IntKind.wrap .u8 ((48 + ((a % 10000000) % 10) : Nat) : Int))) (by kernel_rfl) (wrap_u8 rfl (by omega) (by omega)))
   refine GL.r (elemPtr (some ⟨g30, 0, none⟩) 6) (fun _ hM => op_index rowt101 (c := 7) (k := .i64) (i := (6 : Int)) 6 (by kernel_rfl) (by kernel_rfl) (by omega) (by omega) (hM.o 0 rfl).row _) ?_
   refine GL.el (fun _ _ _ => Mem.el0) (fun _ hM => op_set_u8 6 ((48 + ((a % 10000000) % 10) : Nat) : Int) siz5 (hM.o 0 rfl) (by kernel_rfl) (by kernel_rfl) (by omega)) ?_
   refine GL.k k4 ?_
   refine CG.lin 3 ?_
   refine GL.v (.int .u64 (((a % 10000000) : Nat) : Int)) ?_
   refine GL.v (.int .u64 (((a % 10000000) / 10 : Nat) : Int)) ?_ (hr := fun u => op_to (v := .int .u64 (IntKind.wrap .u64 (((((a % 10000000) : Nat) : Int)).tdiv 10))) (by kernel_rfl) (quo_u64 (by omega) (by omega) (by omega) (by omega)))
   refine GL.v (.int .u64 (((a % 10000000) / 10 : Nat) : Int)) ?_
   refine GL.q ?_
   refine QG.block ?_
   refine QG.k k3 ?_
   refine CG.lin 2 ?_
   refine GL.v (.int .i64 1) ?_ (hr := fun u => op_to (v := .int .i64 (IntKind.wrap .i64 ((0 : Int) + (1 : Int)))) (by kernel_rfl) (wrap_i64 (by omega) (by omega) (by omega)))
   refine GL.v (.int .i64 1) ?_
   refine GL.q ?_
   refine QG.rnd ?_
   refine CG.round ?_
   refine CG.seq fun K_ k3 => ?_
   refine CG.lin 1 ?_
   refine GL.v (.bool true) ?_
   refine GL.k k3 ?_
   refine CG.seq fun K_ k3 => ?_
   refine CG.yes ?_ rfl rfl
   refine CG.skip ?_
   refine QG.k k3 ?_
   refine CG.seq fun K_ k3 => ?_
   refine CG.block ?_
   refine CG.seq fun K_ k4 => ?_
   refine CG.lin 2 ?_
   refine GL.v (.int .i64 1) ?_
   refine GL.v (.int .i64 1) ?_
   refine GL.k k4 ?_
   refine CG.seq fun K_ k4 => ?_
   refine CG.lin 9 ?_
   refine GL.v (.slice (some ⟨g30, 0, none⟩) 7 7) ?_
   refine GL.v (.int .i64 1) ?_
   refine GL.v (.int .i64 5) ?_ (hr := fun u => op_to (v := .int .i64 (IntKind.wrap .i64 ((6 : Int) - (1 : Int)))) (by kernel_rfl) (wrap_i64 (by omega) (by omega) (by omega)))
   refine GL.v (.int .u64 (((a % 10000000) / 10 : Nat) : Int)) ?_
   refine GL.v (.int .u64 ((((a % 10000000) / 10) % 10 : Nat) : Int)) ?_ (hr := fun u => op_to (v := .int .u64 (((((a % 10000000) / 10 : Nat) : Int)).tmod 10)) (by kernel_rfl) (rem_to .u64 (by omega) (by omega)))
   refine GL.v (.int .u64 ((48 + (((a % 10000000) / 10) % 10) : Nat) : Int)) ?_ (hr := fun u => op_to (v := .int .u64 (IntKind.wrap .u64 ((48 : Int) + ((((a % 10000000) / 10) % 10 : Nat) : Int)))) (by kernel_rfl) (wrap_u64 (by omega) (by omega) (by omega)))
   refine GL.v (.int .u8 ((48 + (((a % 10000000) / 10) % 10) : Nat) : Int)) ?_ (hr := fun u => op_to (v := .int .u8 (IntKind.wrap .u8 ((48 + (((a % 10000000) / 10) % 10) : Nat) : Int))) (by kernel_rfl) (wrap_u8 rfl (by omega) (by omega)))
   refine GL.r (elemPtr (some ⟨g30, 0, none⟩) 5) (fun _ hM => op_index rowt101 (c := 7) (k := .i64) (i := (5 : Int)) 5 (by kernel_rfl) (by kernel_rfl) (by omega) (by omega) (hM.o 0 rfl).row _) ?_
   refine GL.el (fun _ _ _ => Mem.el0) (fun _ hM => op_set_u8 5 ((48 + (((a % 10000000) / 10) % 10) : Nat) : Int) siz5 (hM.o 0 rfl) (by kernel_rfl) (by kernel_rfl) (by omega)) ?_
   refine GL.k k4 ?_
   refine CG.lin 3 ?_
   refine GL.v (.int .u64 (((a % 10000000) / 10 : Nat) : Int)) ?_
   refine GL.v (.int .u64 ((((a % 10000000) / 10) / 10 : Nat) : Int)) ?_ (hr := fun u => op_to (v := .int .u64 (IntKind.wrap .u64 (((((a % 10000000) / 10 : Nat) : Int)).tdiv 10))) (by kernel_rfl) (quo_u64 (by omega) (by omega) (by omega) (by omega)))
   refine GL.v (.int .u64 ((((a % 10000000) / 10) / 10 : Nat) : Int)) ?_
   refine GL.q ?_
   refine QG.block ?_
   refine QG.k k3 ?_
   refine CG.lin 2 ?_
   refine GL.v (.int .i64 2) ?_ (hr := fun u => op_to (v := .int .i64 (IntKind.wrap .i64 ((1 : Int) + (1 : Int)))) (by kernel_rfl) (wrap_i64 (by omega) (by omega) (by omega)))
   refine GL.v (.int .i64 2) ?_
   refine GL.q ?_
   refine QG.rnd ?_
   refine CG.round ?_
   refine CG.seq fun K_ k3 => ?_
   refine CG.lin 1 ?_
   refine GL.v (.bool true) ?_
   refine GL.k k3 ?_
   refine CG.seq fun K_ k3 => ?_
   refine CG.yes ?_ rfl rfl
   refine CG.skip ?_
   refine QG.k k3 ?_
   refine CG.seq fun K_ k3 => ?_
   refine CG.block ?_
   refine CG.seq fun K_ k4 => ?_
   refine CG.lin 2 ?_
   refine GL.v (.int .i64 2) ?_
   refine GL.v (.int .i64 2) ?_
   refine GL.k k4 ?_
   refine CG.seq fun K_ k4 => ?_
   refine CG.lin 9 ?_
   refine GL.v (.slice (some ⟨g30, 0, none⟩) 7 7) ?_
   refine GL.v (.int .i64 2) ?_
   refine GL.v (.int .i64 4) ?_ (hr := fun u => op_to (v := .int .i64 (IntKind.wrap .i64 ((6 : Int) - (2 : Int)))) (by kernel_rfl) (wrap_i64 (by omega) (by omega) (by omega)))
   refine GL.v (.int .u64 ((((a % 10000000) / 10) / 10 : Nat) : Int)) ?_
   refine GL.v (.int .u64 (((((a % 10000000) / 10) / 10) % 10 : Nat) : Int)) ?_ (hr := fun u => op_to (v := .int .u64 ((((((a % 10000000) / 10) / 10 : Nat) : Int)).tmod 10)) (by kernel_rfl) (rem_to .u64 (by omega) (by omega)))
   refine GL.v (.int .u64 ((48 + ((((a % 10000000) / 10) / 10) % 10) : Nat) : Int)) ?_ (hr := fun u => op_to (v := .int .u64 (IntKind.wrap .u64 ((48 : Int) + (((((a % 10000000) / 10) / 10) % 10 : Nat) : Int)))) (by kernel_rfl) (wrap_u64 (by omega) (by omega) (by omega)))
   refine GL.v (.int .u8 ((48 + ((((a % 10000000) / 10) / 10) % 10) : Nat) : Int)) ?_ (hr := fun u => op_to (v := .int .u8 (IntKind.wrap .u8 ((48 + ((((a % 10000000) / 10) / 10) % 10) : Nat) : Int))) (by kernel_rfl) (wrap_u8 rfl (by omega) (by omega)))
   refine GL.r (elemPtr (some ⟨g30, 0, none⟩) 4) (fun _ hM => op_index rowt101 (c := 7) (k := .i64) (i := (4 : Int)) 4 (by kernel_rfl) (by kernel_rfl) (by omega) (by omega) (hM.o 0 rfl).row _) ?_
   refine GL.el (fun _ _ _ => Mem.el0) (fun _ hM => op_set_u8 4 ((48 + ((((a % 10000000) / 10) / 10) % 10) : Nat) : Int) siz5 (hM.o 0 rfl) (by kernel_rfl) (by kernel_rfl) (by omega)) ?_
   refine GL.k k4 ?_
   refine CG.lin 3 ?_
   refine GL.v (.int .u64 ((((a % 10000000) / 10) / 10 : Nat) : Int)) ?_
   refine GL.v (.int .u64 (((((a % 10000000) / 10) / 10) / 10 : Nat) : Int)) ?_ (hr := fun u => op_to (v := .int .u64 (IntKind.wrap .u64 ((((((a % 10000000) / 10) / 10 : Nat) : Int)).tdiv 10))) (by kernel_rfl) (quo_u64 (by omega) (by omega) (by omega) (by omega)))
   refine GL.v (.int .u64 (((((a % 10000000) / 10) / 10) / 10 : Nat) : Int)) ?_
   refine GL.q ?_
   refine QG.block ?_
   refine QG.k k3 ?_
   refine CG.lin 2 ?_
   refine GL.v (.int .i64 3) ?_ (hr := fun u => op_to (v := .int .i64 (IntKind.wrap .i64 ((2 : Int) + (1 : Int)))) (by kernel_rfl) (wrap_i64 (by omega) (by omega) (by omega)))
   refine GL.v (.int .i64 3) ?_
   refine GL.q ?_
   refine QG.rnd ?_
   refine CG.round ?_
   refine CG.seq fun K_ k3 => ?_
   refine CG.lin 1 ?_
   refine GL.v (.bool true) ?_
   refine GL.k k3 ?_
   refine CG.seq fun K_ k3 => ?_
   refine CG.yes ?_ rfl rfl
   refine CG.skip ?_
   refine QG.k k3 ?_
   refine CG.seq fun K_ k3 => ?_
   refine CG.block ?_
   refine CG.seq fun K_ k4 => ?_
   refine CG.lin 2 ?_
   refine GL.v (.int .i64 3) ?_
   refine GL.v (.int .i64 3) ?_
   refine GL.k k4 ?_
   refine CG.seq fun K_ k4 => ?_
   refine CG.lin 9 ?_
   refine GL.v (.slice (some ⟨g30, 0, none⟩) 7 7) ?_
   refine GL.v (.int .i64 3) ?_
   refine GL.v (.int .i64 3) ?_ (hr := fun u => op_to (v := .int .i64 (IntKind.wrap .i64 ((6 : Int) - (3 : Int)))) (by kernel_rfl) (wrap_i64 (by omega) (by omega) (by omega)))
   refine GL.v (.int .u64 (((((a % 10000000) / 10) / 10) / 10 : Nat) : Int)) ?_
   refine GL.v (.int .u64 ((((((a % 10000000) / 10) / 10) / 10) % 10 : Nat) : Int)) ?_ (hr := fun u => op_to (v := .int .u64 (((((((a % 10000000) / 10) / 10) / 10 : Nat) : Int)).tmod 10)) (by kernel_rfl) (rem_to .u64 (by omega) (by omega)))
   refine GL.v (.int .u64 ((48 + (((((a % 10000000) / 10) / 10) / 10) % 10) : Nat) : Int)) ?_ (hr := fun u => op_to (v := .int .u64 (IntKind.wrap .u64 ((48 : Int) + ((((((a % 10000000) / 10) / 10) / 10) % 10 : Nat) : Int)))) (by kernel_rfl) (wrap_u64 (by omega) (by omega) (by omega)))
   refine GL.v (.int .u8 ((48 + (((((a % 10000000) / 10) / 10) / 10) % 10) : Nat) : Int)) ?_ (hr := fun u => op_to (v := .int .u8 (IntKind.wrap .u8 ((48 + (((((a % 10000000) / 10) / 10) / 10) % 10) : Nat) : Int))) (by kernel_rfl) (wrap_u8 rfl (by omega) (by omega)))
   refine GL.r (elemPtr (some ⟨g30, 0, none⟩) 3) (fun _ hM => op_index rowt101 (c := 7) (k := .i64) (i := (3 : Int)) 3 (by kernel_rfl) (by kernel_rfl) (by omega) (by omega) (hM.o 0 rfl).row _) ?_
   refine GL.el (fun _ _ _ => Mem.el0) (fun _ hM => op_set_u8 3 ((48 + (((((a % 10000000) / 10) / 10) / 10) % 10) : Nat) : Int) siz5 (hM.o 0 rfl) (by kernel_rfl) (by kernel_rfl) (by omega)) ?_
   refine GL.k k4 ?_
   refine CG.lin 3 ?_
   refine GL.v (.int .u64 (((((a % 10000000) / 10) / 10) / 10 : Nat) : Int)) ?_
   refine GL.v (.int .u64 ((((((a % 10000000) / 10) / 10) / 10) / 10 : Nat) : Int)) ?_ (hr := fun u => op_to (v := .int .u64 (IntKind.wrap .u64 (((((((a % 10000000) / 10) / 10) / 10 : Nat) : Int)).tdiv 10))) (by kernel_rfl) (quo_u64 (by omega) (by omega) (by omega) (by omega)))
   refine GL.v (.int .u64 ((((((a % 10000000) / 10) / 10) / 10) / 10 : Nat) : Int)) ?_
   refine GL.q ?_
   refine QG.block ?_
   refine QG.k k3 ?_
   refine CG.lin 2 ?_
   refine GL.v (.int .i64 4) ?_ (hr := fun u => op_to (v := .int .i64 (IntKind.wrap .i64 ((3 : Int) + (1 : Int)))) (by kernel_rfl) (wrap_i64 (by omega) (by omega) (by omega)))
   refine GL.v (.int .i64 4) ?_
   refine GL.q ?_
   refine QG.rnd ?_
   refine CG.round ?_
   refine CG.seq fun K_ k3 => ?_
   refine CG.lin 1 ?_
   refine GL.v (.bool true) ?_
   refine GL.k k3 ?_
   refine CG.seq fun K_ k3 => ?_
   refine CG.yes ?_ rfl rfl
   refine CG.skip ?_
   refine QG.k k3 ?_
   refine CG.seq fun K_ k3 => ?_
   refine CG.block ?_
   refine CG.seq fun K_ k4 => ?_
   refine CG.lin 2 ?_
   refine GL.v (.int .i64 4) ?_
   refine GL.v (.int .i64 4) ?_
   refine GL.k k4 ?_
   refine CG.seq fun K_ k4 => ?_
   refine CG.lin 9 ?_
   refine GL.v (.slice (some ⟨g30, 0, none⟩) 7 7) ?_
   refine GL.v (.int .i64 4) ?_
   refine GL.v (.int .i64 2) ?_ (hr := fun u => op_to (v := .int .i64 (IntKind.wrap .i64 ((6 : Int) - (4 : Int)))) (by kernel_rfl) (wrap_i64 (by omega) (by omega) (by omega)))
   refine GL.v (.int .u64 ((((((a % 10000000) / 10) / 10) / 10) / 10 : Nat) : Int)) ?_
   refine GL.v (.int .u64 (((((((a % 10000000) / 10) / 10) / 10) / 10) % 10 : Nat) : Int)) ?_ (hr := fun u => op_to (v := .int .u64 ((((((((a % 10000000) / 10) / 10) / 10) / 10 : Nat) : Int)).tmod 10)) (by kernel_rfl) (rem_to .u64 (by omega) (by omega)))
   refine GL.v (.int .u64 ((48 + ((((((a % 10000000) / 10) / 10) / 10) / 10) % 10) : Nat) : Int)) ?_ (hr := fun u => op_to (v := .int .u64 (IntKind.wrap .u64 ((48 : Int) + (((((((a % 10000000) / 10) / 10) / 10) / 10) % 10 : Nat) : Int)))) (by kernel_rfl) (wrap_u64 (by omega) (by omega) (by omega)))
   refine GL.v (.int .u8 ((48 + ((((((a % 10000000) / 10) / 10) / 10) / 10) % 10) : Nat) : Int)) ?_ (hr := fun u => op_to (v := .int .u8 (IntKind.wrap .u8 ((48 + ((((((a % 10000000) / 10) / 10) / 10) / 10) % 10) : Nat) : Int))) (by kernel_rfl) (wrap_u8 rfl (by omega) (by omega)))
   refine GL.r (elemPtr (some ⟨g30, 0, none⟩) 2) (fun _ hM => op_index rowt101 (c := 7) (k := .i64) (i := (2 : Int)) 2 (by kernel_rfl) (by kernel_rfl) (by omega) (by omega) (hM.o 0 rfl).row _) ?_
   refine GL.el (fun _ _ _ => Mem.el0) (fun _ hM => op_set_u8 2 ((48 + ((((((a % 10000000) / 10) / 10) / 10) / 10) % 10) : Nat) : Int) siz5 (hM.o 0 rfl) (by kernel_rfl) (by kernel_rfl) (by omega)) ?_
   refine GL.k k4 ?_
   refine CG.lin 3 ?_
   refine GL.v (.int .u64 ((((((a % 10000000) / 10) / 10) / 10) / 10 : Nat) : Int)) ?_
   refine GL.v (.int .u64 (((((((a % 10000000) / 10) / 10) / 10) / 10) / 10 : Nat) : Int)) ?_ (hr := fun u => op_to (v := .int .u64 (IntKind.wrap .u64 ((((((((a % 10000000) / 10) / 10) / 10) / 10 : Nat) : Int)).tdiv 10))) (by kernel_rfl) (quo_u64 (by omega) (by omega) (by omega) (by omega)))
   refine GL.v (.int .u64 (((((((a % 10000000) / 10) / 10) / 10) / 10) / 10 : Nat) : Int)) ?_
   refine GL.q ?_
   refine QG.block ?_
   refine QG.k k3 ?_
   refine CG.lin 2 ?_
   refine GL.v (.int .i64 5) ?_ (hr := fun u => op_to (v := .int .i64 (IntKind.wrap .i64 ((4 : Int) + (1 : Int)))) (by kernel_rfl) (wrap_i64 (by omega) (by omega) (by omega)))
   refine GL.v (.int .i64 5) ?_
   refine GL.q ?_
   refine QG.rnd ?_
   refine CG.round ?_
   refine CG.seq fun K_ k3 => ?_
   refine CG.lin 1 ?_
   refine GL.v (.bool true) ?_
   refine GL.k k3 ?_
   refine CG.seq fun K_ k3 => ?_
   refine CG.yes ?_ rfl rfl
   refine CG.skip ?_
   refine QG.k k3 ?_
   refine CG.seq fun K_ k3 => ?_
   refine CG.block ?_
   refine CG.seq fun K_ k4 => ?_
   refine CG.lin 2 ?_
   refine GL.v (.int .i64 5) ?_
   refine GL.v (.int .i64 5) ?_
   refine GL.k k4 ?_
   refine CG.seq fun K_ k4 => ?_
   refine CG.lin 9 ?_
   refine GL.v (.slice (some ⟨g30, 0, none⟩) 7 7) ?_
   refine GL.v (.int .i64 5) ?_
   refine GL.v (.int .i64 1) ?_ (hr := fun u => op_to (v := .int .i64 (IntKind.wrap .i64 ((6 : Int) - (5 : Int)))) (by kernel_rfl) (wrap_i64 (by omega) (by omega) (by omega)))
   refine GL.v (.int .u64 (((((((a % 10000000) / 10) / 10) / 10) / 10) / 10 : Nat) : Int)) ?_
   refine GL.v (.int .u64 ((((((((a % 10000000) / 10) / 10) / 10) / 10) / 10) % 10 : Nat) : Int)) ?_ (hr := fun u => op_to (v := .int .u64 (((((((((a % 10000000) / 10) / 10) / 10) / 10) / 10 : Nat) : Int)).tmod 10)) (by kernel_rfl) (rem_to .u64 (by omega) (by omega)))
   refine GL.v (.int .u64 ((48 + (((((((a % 10000000) / 10) / 10) / 10) / 10) / 10) % 10) : Nat) : Int)) ?_ (hr := fun u => op_to (v := .int .u64 (IntKind.wrap .u64 ((48 : Int) + ((((((((a % 10000000) / 10) / 10) / 10) / 10) / 10) % 10 : Nat) : Int)))) (by kernel_rfl) (wrap_u64 (by omega) (by omega) (by omega)))
   refine GL.v (.int .u8 ((48 + (((((((a % 10000000) / 10) / 10) / 10) / 10) / 10) % 10) : Nat) : Int)) ?_ (hr := fun u => op_to (v := .int .u8 (IntKind.wrap .u8 ((48 + (((((((a % 10000000) / 10) / 10) / 10) / 10) / 10) % 10) : Nat) : Int))) (by kernel_rfl) (wrap_u8 rfl (by omega) (by omega)))
   refine GL.r (elemPtr (some ⟨g30, 0, none⟩) 1) (fun _ hM => op_index rowt101 (c := 7) (k := .i64) (i := (1 : Int)) 1 (by kernel_rfl) (by kernel_rfl) (by omega) (by omega) (hM.o 0 rfl).row _) ?_
   refine GL.el (fun _ _ _ => Mem.el0) (fun _ hM => op_set_u8 1 ((48 + (((((((a % 10000000) / 10) / 10) / 10) / 10) / 10) % 10) : Nat) : Int) siz5 (hM.o 0 rfl) (by kernel_rfl) (by kernel_rfl) (by omega)) ?_
   refine GL.k k4 ?_
   refine CG.lin 3 ?_
   refine GL.v (.int .u64 (((((((a % 10000000) / 10) / 10) / 10) / 10) / 10 : Nat) : Int)) ?_
   refine GL.v (.int .u64 ((((((((a % 10000000) / 10) / 10) / 10) / 10) / 10) / 10 : Nat) : Int)) ?_ (hr := fun u => op_to (v := .int .u64 (IntKind.wrap .u64 (((((((((a % 10000000) / 10) / 10) / 10) / 10) / 10 : Nat) : Int)).tdiv 10))) (by kernel_rfl) (quo_u64 (by omega) (by omega) (by omega) (by omega)))
   refine GL.v (.int .u64 ((((((((a % 10000000) / 10) / 10) / 10) / 10) / 10) / 10 : Nat) : Int)) ?_
   refine GL.q ?_
   refine QG.block ?_
   refine QG.k k3 ?_
   refine CG.lin 2 ?_
   refine GL.v (.int .i64 6) ?_ (hr := fun u => op_to (v := .int .i64 (IntKind.wrap .i64 ((5 : Int) + (1 : Int)))) (by kernel_rfl) (wrap_i64 (by omega) (by omega) (by omega)))
   refine GL.v (.int .i64 6) ?_
   refine GL.q ?_
   refine QG.rnd ?_
   refine CG.round ?_
   refine CG.seq fun K_ k3 => ?_
   refine CG.lin 1 ?_
   refine GL.v (.bool true) ?_
   refine GL.k k3 ?_
   refine CG.seq fun K_ k3 => ?_
   refine CG.yes ?_ rfl rfl
   refine CG.skip ?_
   refine QG.k k3 ?_
   refine CG.seq fun K_ k3 => ?_
   refine CG.block ?_
   refine CG.seq fun K_ k4 => ?_
   refine CG.lin 2 ?_
   refine GL.v (.int .i64 6) ?_
   refine GL.v (.int .i64 6) ?_
   refine GL.k k4 ?_
   refine CG.seq fun K_ k4 => ?_
   refine CG.lin 9 ?_
   refine GL.v (.slice (some ⟨g30, 0, none⟩) 7 7) ?_
   refine GL.v (.int .i64 6) ?_
   refine GL.v (.int .i64 0) ?_ (hr := fun u => op_to (v := .int .i64 (IntKind.wrap .i64 ((6 : Int) - (6 : Int)))) (by kernel_rfl) (wrap_i64 (by omega) (by omega) (by omega)))
   refine GL.v (.int .u64 ((((((((a % 10000000) / 10) / 10) / 10) / 10) / 10) / 10 : Nat) : Int)) ?_
   refine GL.v (.int .u64 (((((((((a % 10000000) / 10) / 10) / 10) / 10) / 10) / 10) % 10 : Nat) : Int)) ?_ (hr := fun u => op_to (v := .int .u64 ((((((((((a % 10000000) / 10) / 10) / 10) / 10) / 10) / 10 : Nat) : Int)).tmod 10)) (by kernel_rfl) (rem_to .u64 (by omega) (by omega)))
   refine GL.v (.int .u64 ((48 + ((((((((a % 10000000) / 10) / 10) / 10) / 10) / 10) / 10) % 10) : Nat) : Int)) ?_ (hr := fun u => op_to (v := .int .u64 (IntKind.wrap .u64 ((48 : Int) + (((((((((a % 10000000) / 10) / 10) / 10) / 10) / 10) / 10) % 10 : Nat) : Int)))) (by kernel_rfl) (wrap_u64 (by omega) (by omega) (by omega)))
   refine GL.v (.int .u8 ((48 + ((((((((a % 10000000) / 10) / 10) / 10) / 10) / 10) / 10) % 10) : Nat) : Int)) ?_ (hr := fun u => op_to (v := .int .u8 (IntKind.wrap .u8 ((48 + ((((((((a % 10000000) / 10) / 10) / 10) / 10) / 10) / 10) % 10) : Nat) : Int))) (by kernel_rfl) (wrap_u8 rfl (by omega) (by omega)))
   refine GL.r (elemPtr (some ⟨g30, 0, none⟩) 0) (fun _ hM => op_index rowt101 (c := 7) (k := .i64) (i := (0 : Int)) 0 (by kernel_rfl) (by kernel_rfl) (by omega) (by omega) (hM.o 0 rfl).row _) ?_
   refine GL.el (fun _ _ _ => Mem.el0) (fun _ hM => op_set_u8 0 ((48 + ((((((((a % 10000000) / 10) / 10) / 10) / 10) / 10) / 10) % 10) : Nat) : Int) siz5 (hM.o 0 rfl) (by kernel_rfl) (by kernel_rfl) (by omega)) ?_
   refine GL.k k4 ?_
   refine CG.lin 3 ?_
   refine GL.v (.int .u64 ((((((((a % 10000000) / 10) / 10) / 10) / 10) / 10) / 10 : Nat) : Int)) ?_
   refine GL.v (.int .u64 (((((((((a % 10000000) / 10) / 10) / 10) / 10) / 10) / 10) / 10 : Nat) : Int)) ?_ (hr := fun u => op_to (v := .int .u64 (IntKind.wrap .u64 ((((((((((a % 10000000) / 10) / 10) / 10) / 10) / 10) / 10 : Nat) : Int)).tdiv 10))) (by kernel_rfl) (quo_u64 (by omega) (by omega) (by omega) (by omega)))
   refine GL.v (.int .u64 (((((((((a % 10000000) / 10) / 10) / 10) / 10) / 10) / 10) / 10 : Nat) : Int)) ?_
   refine GL.q ?_
   refine QG.block ?_
   refine QG.k k3 ?_
   refine CG.lin 2 ?_
   refine GL.v (.int .i64 7) ?_ (hr := fun u => op_to (v := .int .i64 (IntKind.wrap .i64 ((6 : Int) + (1 : Int)))) (by kernel_rfl) (wrap_i64 (by omega) (by omega) (by omega)))
   refine GL.v (.int .i64 7) ?_
   refine GL.q ?_
   refine QG.rnd ?_
   refine CG.round ?_
   refine CG.seq fun K_ k3 => ?_
   refine CG.lin 1 ?_
   refine GL.v (.bool false) ?_
   refine GL.k k3 ?_
   refine CG.seq fun K_ k3 => ?_
   refine CG.no ?_ rfl rfl
   refine CG.exit (QG.then_exit (QG.then_exit (QG.here ?_)))
   refine QG.k k2 ?_
   refine CG.draw [] [0, 1, 3, 5] (.step 0 (.step 1 (.step 3 (.step 5 (.step 2 (.step 4 (.step 6 (.step 7 .done)))))))) (fun V hV31 => ?_)
   refine GD.ev (.slice (some ⟨g30, 0, none⟩) 7 7) ?_
   refine GD.er (.string (bs (pad 7 (a % 10000000)))) (fun _ hS => op_to (v := .string (bs (u8l ((((((((List.replicate 7 0).set 6 ((48 + ((a % 10000000) % 10) : Nat) : Int)).set 5 ((48 + (((a % 10000000) / 10) % 10) : Nat) : Int)).set 4 ((48 + ((((a % 10000000) / 10) / 10) % 10) : Nat) : Int)).set 3 ((48 + (((((a % 10000000) / 10) / 10) / 10) % 10) : Nat) : Int)).set 2 ((48 + ((((((a % 10000000) / 10) / 10) / 10) / 10) % 10) : Nat) : Int)).set 1 ((48 + (((((((a % 10000000) / 10) / 10) / 10) / 10) / 10) % 10) : Nat) : Int)).set 0 ((48 + ((((((((a % 10000000) / 10) / 10) / 10) / 10) / 10) / 10) % 10) : Nat) : Int))))) (op_b2s (c := 7) (Row.keep ((hV31.o 0 rfl).row) hS.keep) (by kernel_rfl) (by kernel_rfl) (by kernel_rfl) (by kernel_rfl) (u8_range (u8_range (u8_range (u8_range (u8_range (u8_range (u8_range (u8_zeros 7) 6 (by omega)) 5 (by omega)) 4 (by omega)) 3 (by omega)) 2 (by omega)) 1 (by omega)) 0 (by omega))) (congrArg (fun l => Value.string (bs l)) (u8l_row7 _))) ?_
   refine GD.ev (.slice A3 n3 c3) ?_
   refine GD.er (.agg #[.slice A26a n26a c26a]) (fun _ hS => op_load_agg (off := 0) (by kernel_rfl) agg26 siz26 (hV31.bS 2 rfl hS) rfl rfl) ?_
   refine GD.row (fun _ => op_build1 rowt44 (v := .string (bs (pad 7 (a % 10000000)))) (by kernel_rfl) rfl) (fun _ _ _ hm => own_one_str hm) fun g32 hg32 => ?_
   refine GD.gn hg32 (fun _ _ _ _ => Mem.gr0) (fun _ hM => op_append_str (cx := c3) rowt44 (hM.o 0 rfl) (SLk.row (hM.f 4 rfl)) (by kernel_rfl) (by kernel_rfl) (by omega) (by omega)) fun g33 c33 hg33 => ?_
   refine GD.mem (fun _ hM => hM.pu0 fun hO _ hX => SLk.own hO hX) ?_
   refine GD.v (.slice (some ⟨g33, 0, none⟩) (1 + n3) c33) ?_
   refine GD.st (fun _ _ => Mem.st3) (fun _ hM => store_all (cs' := #[.slice A26a n26a c26a]) siz26 (hM.b 3 rfl) (by kernel_rfl) (by kernel_rfl) rfl rfl rfl) ?_
   refine GD.q ?_
   refine QG.block ?_
   refine QG.again fun _ hM => ?_
   exact ⟨(a / 10000000), (by omega), A26a, n26a, c26a, (a / 10000000), (some ⟨g33, 0, none⟩), (1 + n3), c33, ([pad 7 (a % 10000000)] ++ P), (fun t => (#[.agg #[.slice A1 n1 c1], .pointer (some ⟨g21, 0, none⟩), .string (bs []), .slice (some ⟨g33, 0, none⟩) (1 + n3) c33, .pointer (some ⟨g27, 0, none⟩), .pointer (some ⟨g28, 0, none⟩), .int .u64 (((((((((a % 10000000) / 10) / 10) / 10) / 10) / 10) / 10) / 10 : Nat) : Int), .slice (some ⟨g30, 0, none⟩) 7 7, .int .i64 6, undef, .agg #[.slice Aa na ca], .bool (decide (a = 0)), .bool (!(decide (a = 0))), .tuple #[.agg #[.slice A26a n26a c26a], .agg #[.slice A26b n26b c26b]], .agg #[.slice Aa na ca], .slice (some ⟨g25, 0, none⟩) 1 1, .agg #[.slice (some ⟨g25, 0, none⟩) 1 1], .tuple #[.agg #[.slice A26a n26a c26a], .agg #[.slice A26b n26b c26b]], .agg #[.slice A26a n26a c26a], .agg #[.slice A26b n26b c26b], .agg #[.slice A26b n26b c26b], .int .u64 (((a % 10000000) : Nat) : Int), .slice (some ⟨g30, 0, none⟩) 7 7, .slice (some ⟨g30, 0, none⟩) 7 7, .int .i64 7, .int .i64 7, .bool false, .int .i64 6, .slice (some ⟨g30, 0, none⟩) 7 7, .int .i64 6, .int .i64 0, .int .u64 ((((((((a % 10000000) / 10) / 10) / 10) / 10) / 10) / 10 : Nat) : Int), .int .u64 (((((((((a % 10000000) / 10) / 10) / 10) / 10) / 10) / 10) % 10 : Nat) : Int), .int .u64 ((48 + ((((((((a % 10000000) / 10) / 10) / 10) / 10) / 10) / 10) % 10) : Nat) : Int), .int .u8 ((48 + ((((((((a % 10000000) / 10) / 10) / 10) / 10) / 10) / 10) % 10) : Nat) : Int), elemPtr (some ⟨g30, 0, none⟩) 0, .int .u64 ((((((((a % 10000000) / 10) / 10) / 10) / 10) / 10) / 10 : Nat) : Int), .int .u64 (((((((((a % 10000000) / 10) / 10) / 10) / 10) / 10) / 10) / 10 : Nat) : Int), .int .i64 7, .slice (some ⟨g30, 0, none⟩) 7 7, .string (bs (pad 7 (a % 10000000))), .slice (some ⟨g32, 0, none⟩) 1 1, .slice A3 n3 c3, .slice (some ⟨g33, 0, none⟩) (1 + n3) c33, .agg #[.slice A26a n26a c26a], undef, undef, undef, undef, undef, undef] : Array Value).getD t undef), (by kernel_rfl), rfl, ((((hM.dropn 3).clr).add ((hM.dropn 3).f 6 rfl)).add ((hM.dropn 3).f 0 rfl)).add ((hM.dropn 3).f 2 rfl), (div_next _ ha), (pad_next hP ha), (by have := rounds_lt ha (by omega); simp only [List.length_append, List.length_singleton]; omega)⟩
 · have hk24 : (!(decide (a = 0))) = false := by simpa using hc24
   refine CG.no ?_ hk24 rfl
   refine CG.exit (QG.then_exit (QG.then_exit (QG.here ?_)))
   refine QG.k k1 ?_
   refine CG.seq fun K_ k1 => ?_
   refine CG.seq fun K_ k2 => ?_
   refine CG.lin 4 ?_
   refine GL.v (.slice A3 n3 c3) ?_
   refine GL.call (fun _ hM => join_ok hM.avlt (hM.f 1 rfl) (by rw [hP, pad_len]; omega) (by first | assumption | omega)) ?_
   rintro _ _ _ hM ⟨rfl, hb⟩
   refine ⟨_, _, _, rfl, hM.call hb, ?_⟩
   refine GL.call (fun _ hM => trimleft_ok hM.avlt P.flatten) ?_
   rintro _ _ _ hM ⟨rfl, hb⟩
   refine ⟨_, _, _, rfl, hM.call hb, ?_⟩
   refine GL.v (.string (bs (P.flatten.dropWhile (· == 48)))) ?_
   refine GL.k k2 ?_
   refine CG.seq fun K_ k2 => ?_
   refine CG.lin 2 ?_
   refine GL.v (.string (bs (P.flatten.dropWhile (· == 48)))) ?_
   refine GL.v (.bool (!(decide ((P.flatten.dropWhile (· == 48)) = [])))) ?_ (hr := fun u => op_sne (L := P.flatten.dropWhile (· == 48)) (K := []) (by kernel_rfl) (by kernel_rfl))
   refine GL.k k2 ?_
   by_cases hc36 : ¬ (P.flatten.dropWhile (· == 48)) = []
   · have hk36 : (!(decide ((P.flatten.dropWhile (· == 48)) = []))) = true := by simpa using hc36
     refine CG.yes ?_ hk36 rfl
     refine CG.seq fun K_ k2 => ?_
     refine CG.lin 2 ?_
     refine GL.v (.string (bs (P.flatten.dropWhile (· == 48)))) ?_
     refine GL.v (.string (bs (P.flatten.dropWhile (· == 48)))) ?_
     refine GL.k k2 ?_
     refine CG.ret (QG.then_ret (QG.ret (fun _ hM => results_one rfl (res_tmp rfl)) ?_))
     intro _ hM
     exact ⟨ret_str ((pad_done hP ha (by omega)).1 hc36), hM.below⟩
   · have hk36 : (!(decide ((P.flatten.dropWhile (· == 48)) = []))) = false := by simpa using hc36
     refine CG.no ?_ hk36 rfl
     refine CG.skip ?_
     refine QG.k k1 ?_
     refine CG.seq fun K_ k1 => ?_
     refine CG.lin 1 ?_
     refine GL.v (.string (bs [48])) ?_
     refine GL.k k1 ?_
     refine CG.ret (QG.ret (fun _ hM => results_one rfl (res_tmp rfl)) ?_)
     intro _ hM
     exact ⟨ret_str ((pad_done hP ha (by omega)).2 (Classical.not_not.1 hc36)), hM.below⟩

set_option maxRecDepth 100000 in
set_option maxHeartbeats 400000 in
theorem ZText_ok {w : World} {X : Nat → Prop} {A1 : Option Addr} {n1 : Nat} {c1 : Nat} {m1 : Bool} {a : Int} (hX : ∀ k, X k → k < w.heap.size) (h1 : Zk.R X w [.slice A1 n1 c1, .bool m1] a) (p1 : sz a ≤ 1099511627000) :
    Calls Tryd.prog 24 #[.agg #[.slice A1 n1 c1, .bool m1]] w (fun e w' => e = .returned (.string (bs (decZ a))) ∧ Below w.heap.size w w') := by
 have q9 : sz a = szn a.natAbs := rfl
 have hM := (Mem.start hX).add0 h1
 have e1 : sz a = szn (a).natAbs := rfl
 refine calls_of hM Tryd.func24 Tryd.ntmps24 ?_
 refine CG.seq fun K_ k1 => ?_
 refine CG.lin 2 ?_
 refine GL.bA #[.slice A1 n1 c1, .bool m1] fun g21 => ?_
 refine GL.v (.string (bs [])) ?_
 refine GL.k k1 ?_
 refine CG.seq fun K_ k1 => ?_
 refine CG.seq fun K_ k2 => ?_
 refine CG.lin 2 ?_
 refine GL.v (.pointer (some ⟨g21, 1, none⟩)) ?_
 refine GL.r (.bool m1) (fun _ hM => op_load_one (off := 1) (by kernel_rfl) agg4 (hM.b 0 rfl) rfl) ?_
 refine GL.k k2 ?_
 by_cases hc22 : m1 = true
 · have hk22 : (m1) = true := hc22
   refine CG.yes ?_ hk22 rfl
   refine CG.seq fun K_ k2 => ?_
   refine CG.lin 5 ?_
   refine GL.v (.pointer (some ⟨g21, 0, none⟩)) ?_
   refine GL.r (.agg #[.slice A1 n1 c1]) (fun _ hM => op_load_agg (off := 0) (by kernel_rfl) agg26 siz26 (hM.b 0 rfl) rfl rfl) ?_
   refine GL.call (fun _ hM => text_ok hM.avlt (Zk.dig (hM.f 0 rfl)) (by first | assumption | omega)) ?_
   rintro _ _ _ hM ⟨rfl, hb⟩
   have hl23 := dec_szn a.natAbs
   refine ⟨_, _, _, rfl, hM.call hb, ?_⟩
   refine GL.v (.string (bs ([45] ++ (dec a.natAbs)))) ?_ (hr := fun u => op_cat (L := [45]) (K := dec a.natAbs) (by kernel_rfl) (by kernel_rfl) (by (try simp only [List.length_append, List.length_cons, List.length_nil]); omega))
   refine GL.v (.string (bs ([45] ++ (dec a.natAbs)))) ?_
   refine GL.k k2 ?_
   refine CG.ret (QG.then_ret (QG.ret (fun _ hM => results_one rfl (res_tmp rfl)) ?_))
   intro _ hM
   exact ⟨ret_str ((decZ_of (Zk.neg h1)).1 hc22), hM.below⟩
 · have hk22 : (m1) = false := by simpa using hc22
   refine CG.no ?_ hk22 rfl
   refine CG.skip ?_
   refine QG.k k1 ?_
   refine CG.seq fun K_ k1 => ?_
   refine CG.lin 4 ?_
   refine GL.v (.pointer (some ⟨g21, 0, none⟩)) ?_
   refine GL.r (.agg #[.slice A1 n1 c1]) (fun _ hM => op_load_agg (off := 0) (by kernel_rfl) agg26 siz26 (hM.b 0 rfl) rfl rfl) ?_
   refine GL.call (fun _ hM => text_ok hM.avlt (Zk.dig (hM.f 0 rfl)) (by first | assumption | omega)) ?_
   rintro _ _ _ hM ⟨rfl, hb⟩
   have hl24 := dec_szn a.natAbs
   refine ⟨_, _, _, rfl, hM.call hb, ?_⟩
   refine GL.v (.string (bs (dec a.natAbs))) ?_
   refine GL.k k1 ?_
   refine CG.ret (QG.ret (fun _ hM => results_one rfl (res_tmp rfl)) ?_)
   intro _ hM
   exact ⟨ret_str ((decZ_of (Zk.neg h1)).2 hc22), hM.below⟩

set_option maxRecDepth 100000 in
set_option maxHeartbeats 400000 in
theorem RText_ok {w : World} {X : Nat → Prop} {A1 : Option Addr} {n1 : Nat} {c1 : Nat} {m1 : Bool} {A1_ : Option Addr} {n1_ : Nat} {c1_ : Nat} {a : Rat} (hX : ∀ k, X k → k < w.heap.size) (h1 : Rk.R X w [.slice A1 n1 c1, .bool m1, .slice A1_ n1_ c1_] a) (p1 : szR a ≤ 68719476736) :
    Calls Tryd.prog 26 #[.agg #[.slice A1 n1 c1, .bool m1, .slice A1_ n1_ c1_]] w (fun e w' => e = .returned (.string (bs (decR a))) ∧ Below w.heap.size w w') := by
 have hna := szR_num a; have hda := szR_den a; have hea := sz_nat a.den
 have hM := (Mem.start hX).add0 h1
 refine calls_of hM Tryd.func26 Tryd.ntmps26 ?_
 refine CG.seq fun K_ k1 => ?_
 refine CG.lin 2 ?_
 refine GL.bA #[.slice A1 n1 c1, .bool m1, .slice A1_ n1_ c1_] fun g21 => ?_
 refine GL.v (.string (bs [])) ?_
 refine GL.k k1 ?_
 refine CG.seq fun K_ k1 => ?_
 refine CG.seq fun K_ k2 => ?_
 refine CG.lin 3 ?_
 refine GL.v (.pointer (some ⟨g21, 2, none⟩)) ?_
 refine GL.r (.agg #[.slice A1_ n1_ c1_]) (fun _ hM => op_load_agg (off := 2) (by kernel_rfl) agg26 siz26 (hM.b 0 rfl) rfl rfl) ?_
 refine GL.call (fun _ hM => none_ok hM.avlt (Rk.rest (hM.f 0 rfl))) ?_
 rintro _ _ _ hM ⟨rfl, hb⟩
 refine ⟨_, _, _, rfl, hM.call hb, ?_⟩
 refine GL.k k2 ?_
 by_cases hc23 : (a.den - 1) = 0
 · have hk23 : (decide ((a.den - 1) = 0)) = true := decide_eq_true hc23
   refine CG.yes ?_ hk23 rfl
   refine CG.seq fun K_ k2 => ?_
   refine CG.lin 4 ?_
   refine GL.v (.pointer (some ⟨g21, 0, none⟩)) ?_
   refine GL.r (.agg #[.slice A1 n1 c1, .bool m1]) (fun _ hM => op_load_agg (off := 0) (by kernel_rfl) agg28 siz28 (hM.b 0 rfl) rfl rfl) ?_
   refine GL.call (fun _ hM => ZText_ok hM.avlt (Rk.top (hM.f 0 rfl)) (by first | assumption | omega)) ?_
   rintro _ _ _ hM ⟨rfl, hb⟩
   have hl24 := decZ_len a.num
   refine ⟨_, _, _, rfl, hM.call hb, ?_⟩
   refine GL.v (.string (bs (decZ a.num))) ?_
   refine GL.k k2 ?_
   refine CG.ret (QG.then_ret (QG.ret (fun _ hM => results_one rfl (res_tmp rfl)) ?_))
   intro _ hM
   exact ⟨ret_str ((decR_of a).1 hc23), hM.below⟩
 · have hk23 : (decide ((a.den - 1) = 0)) = false := decide_eq_false hc23
   refine CG.no ?_ hk23 rfl
   refine CG.skip ?_
   refine QG.k k1 ?_
   refine CG.seq fun K_ k1 => ?_
   refine CG.draw [] [0, 1, 4, 3, 7] (.step 0 (.step 1 (.step 4 (.step 2 (.step 3 (.step 5 (.step 6 (.step 7 (.step 8 .done))))))))) (fun V hV25 => ?_)
   refine GD.ev (.pointer (some ⟨g21, 0, none⟩)) ?_
   refine GD.er (.agg #[.slice A1 n1 c1, .bool m1]) (fun _ hS => op_load_agg (off := 0) (by kernel_rfl) agg28 siz28 (hV25.bS 0 rfl hS) rfl rfl) ?_
   refine GD.er (.agg #[.slice A1 n1 c1, .bool m1, .slice A1_ n1_ c1_]) (fun _ hS => op_load_agg (off := 0) (by kernel_rfl) agg48 siz48 (hV25.bS 0 rfl hS) rfl rfl) ?_
   refine GD.call (fun _ hM => ZText_ok hM.avlt (Rk.top (hM.f 0 rfl)) (by first | assumption | omega)) ?_
   rintro _ _ _ hM ⟨rfl, hb⟩
   have hl26 := decZ_len a.num
   refine ⟨_, _, _, rfl, hb, hM.call hb, ?_⟩
   refine GD.ev (.string (bs ((decZ a.num) ++ [47]))) ?_ (hr := fun u => op_cat (L := decZ a.num) (K := [47]) (by kernel_rfl) (by kernel_rfl) (by (try simp only [List.length_append, List.length_cons, List.length_nil]); omega))
   refine GD.call (fun _ hM => bottom_ok hM.avlt (hM.f 0 rfl) (by first | assumption | omega)) ?_
   rintro _ _ _ hM ⟨A27, n27, c27, m27, rfl, h27, hb⟩
   have hs27 := sz_nat a.den
   have ht27 := szR_den a
   refine ⟨_, _, _, rfl, hb, (hM.call hb).add h27, ?_⟩
   refine GD.call (fun _ hM => ZText_ok hM.avlt (hM.f 0 rfl) (by first | assumption | omega)) ?_
   rintro _ _ _ hM ⟨rfl, hb⟩
   have hl28 := decZ_len (a.den : Int)
   refine ⟨_, _, _, rfl, hb, hM.call hb, ?_⟩
   refine GD.ev (.string (bs (((decZ a.num) ++ [47]) ++ (decZ (a.den : Int))))) ?_ (hr := fun u => op_cat (L := (decZ a.num) ++ [47]) (K := decZ (a.den : Int)) (by kernel_rfl) (by kernel_rfl) (by (try simp only [List.length_append, List.length_cons, List.length_nil]); omega))
   refine GD.v (.string (bs (((decZ a.num) ++ [47]) ++ (decZ (a.den : Int))))) ?_
   refine GD.k k1 ?_
   refine CG.ret (QG.ret (fun _ hM => results_one rfl (res_tmp rfl)) ?_)
   intro _ hM
   exact ⟨ret_str ((decR_of a).2 hc23), hM.below⟩

set_option maxRecDepth 100000 in
set_option maxHeartbeats 400000 in
theorem VText_ok {w : World} {X : Nat → Prop} {A1 : Option Addr} {n1 : Nat} {c1 : Nat} {m1 : Bool} {A1_ : Option Addr} {n1_ : Nat} {c1_ : Nat} {A1z : Option Addr} {n1z : Nat} {c1z : Nat} {m1z : Bool} {A1z_ : Option Addr} {n1z_ : Nat} {c1z_ : Nat} {a : Rat × Rat} (hX : ∀ k, X k → k < w.heap.size) (h1 : Vk.R X w [.slice A1 n1 c1, .bool m1, .slice A1_ n1_ c1_, .slice A1z n1z c1z, .bool m1z, .slice A1z_ n1z_ c1z_] a) (p1 : szR a.1 ≤ 68719476736) (p2 : szR a.2 ≤ 68719476736) :
    Calls Tryd.prog 32 #[.agg #[.slice A1 n1 c1, .bool m1, .slice A1_ n1_ c1_, .slice A1z n1z c1z, .bool m1z, .slice A1z_ n1z_ c1z_]] w (fun e w' => e = .returned (.string (bs (decV a))) ∧ Below w.heap.size w w') := by
 have hM := (Mem.start hX).add0 h1
 refine calls_of hM Tryd.func32 Tryd.ntmps32 ?_
 refine CG.seq fun K_ k1 => ?_
 refine CG.lin 2 ?_
 refine GL.bA #[.slice A1 n1 c1, .bool m1, .slice A1_ n1_ c1_, .slice A1z n1z c1z, .bool m1z, .slice A1z_ n1z_ c1z_] fun g21 => ?_
 refine GL.v (.string (bs [])) ?_
 refine GL.k k1 ?_
 refine CG.seq fun K_ k1 => ?_
 refine CG.draw [] [0, 1, 5, 6, 3, 4, 8, 9] (.step 0 (.step 1 (.step 5 (.step 6 (.step 2 (.step 3 (.step 4 (.step 7 (.step 8 (.step 9 (.step 10 .done))))))))))) (fun V hV22 => ?_)
 refine GD.ev (.pointer (some ⟨g21, 0, none⟩)) ?_
 refine GD.er (.agg #[.slice A1 n1 c1, .bool m1, .slice A1_ n1_ c1_]) (fun _ hS => op_load_agg (off := 0) (by kernel_rfl) agg48 siz48 (hV22.bS 0 rfl hS) rfl rfl) ?_
 refine GD.ev (.pointer (some ⟨g21, 3, none⟩)) ?_
 refine GD.er (.agg #[.slice A1z n1z c1z, .bool m1z, .slice A1z_ n1z_ c1z_]) (fun _ hS => op_load_agg (off := 3) (by kernel_rfl) agg48 siz48 (hV22.bS 0 rfl hS) rfl rfl) ?_
 refine GD.call (fun _ hM => RText_ok hM.avlt (Vk.fst (hM.f 0 rfl)) (by first | assumption | omega | (dsimp only; omega))) ?_
 rintro _ _ _ hM ⟨rfl, hb⟩
 have hl23 := decR_len a.1
 refine ⟨_, _, _, rfl, hb, hM.call hb, ?_⟩
 refine GD.ev (.string (bs ([40] ++ (decR a.1)))) ?_ (hr := fun u => op_cat (L := [40]) (K := decR a.1) (by kernel_rfl) (by kernel_rfl) (by (try simp only [List.length_append, List.length_cons, List.length_nil]); omega))
 refine GD.ev (.string (bs (([40] ++ (decR a.1)) ++ [44, 32]))) ?_ (hr := fun u => op_cat (L := [40] ++ (decR a.1)) (K := [44, 32]) (by kernel_rfl) (by kernel_rfl) (by (try simp only [List.length_append, List.length_cons, List.length_nil]); omega))
 refine GD.call (fun _ hM => RText_ok hM.avlt (Vk.snd (hM.f 0 rfl)) (by first | assumption | omega | (dsimp only; omega))) ?_
 rintro _ _ _ hM ⟨rfl, hb⟩
 have hl24 := decR_len a.2
 refine ⟨_, _, _, rfl, hb, hM.call hb, ?_⟩
 refine GD.ev (.string (bs ((([40] ++ (decR a.1)) ++ [44, 32]) ++ (decR a.2)))) ?_ (hr := fun u => op_cat (L := ([40] ++ (decR a.1)) ++ [44, 32]) (K := decR a.2) (by kernel_rfl) (by kernel_rfl) (by (try simp only [List.length_append, List.length_cons, List.length_nil]); omega))
 refine GD.ev (.string (bs (((([40] ++ (decR a.1)) ++ [44, 32]) ++ (decR a.2)) ++ [41]))) ?_ (hr := fun u => op_cat (L := (([40] ++ (decR a.1)) ++ [44, 32]) ++ (decR a.2)) (K := [41]) (by kernel_rfl) (by kernel_rfl) (by (try simp only [List.length_append, List.length_cons, List.length_nil]); omega))
 refine GD.v (.string (bs (((([40] ++ (decR a.1)) ++ [44, 32]) ++ (decR a.2)) ++ [41]))) ?_
 refine GD.k k1 ?_
 refine CG.ret (QG.ret (fun _ hM => results_one rfl (res_tmp rfl)) ?_)
 intro _ hM
 exact ⟨ret_str rfl, hM.below⟩

set_option maxRecDepth 100000 in
set_option maxHeartbeats 400000 in
theorem Int64_ok {w : World} {X : Nat → Prop} {A1 : Option Addr} {n1 : Nat} {c1 : Nat} {m1 : Bool} {a : Int} (hX : ∀ k, X k → k < w.heap.size) (h1 : Zk.R X w [.slice A1 n1 c1, .bool m1] a) (p1 : sz a ≤ 1099511627000) :
    Calls Tryd.prog 29 #[.agg #[.slice A1 n1 c1, .bool m1]] w (fun e w' => e = .returned (.tuple #[.int .i64 (to64 a), .bool (decide (-9223372036854775808 ≤ a ∧ a ≤ 9223372036854775807))]) ∧ Below w.heap.size w w') := by
 have hM := (Mem.start hX).add0 h1
 have e1 : sz a = szn (a).natAbs := rfl
 refine calls_of hM Tryd.func29 Tryd.ntmps29 ?_
 refine CG.seq fun K_ k1 => ?_
 refine CG.lin 3 ?_
 refine GL.bA #[.slice A1 n1 c1, .bool m1] fun g21 => ?_
 refine GL.v (.int .i64 0) ?_
 refine GL.v (.bool false) ?_
 refine GL.k k1 ?_
 refine CG.seq fun K_ k1 => ?_
 refine CG.seq fun K_ k2 => ?_
 by_cases hc22 : a < (-9223372036854775808)
 · have hk22 : (decide (a < (-9223372036854775808))) = true := decide_eq_true hc22
   refine CG.draw [] [0, 3, 4, 5, 8, 9] (.step 0 (.step 1 (.step 2 (.step 3 (.step 4 (.step 5 (.step 6 (.step 7 (.step 8 (.step 9 .done)))))))))) (fun V hV23 => ?_)
   refine GD.er (.agg #[.slice A1 n1 c1, .bool m1]) (fun _ hS => op_load_agg (off := 0) (by kernel_rfl) agg28 siz28 (hV23.bS 0 rfl hS) rfl rfl) ?_
   refine GD.call (fun _ hM => Int_ok hM.avlt (-9223372036854775808) (by first | assumption | omega)) ?_
   rintro _ _ _ hM ⟨A24, n24, c24, m24, rfl, h24, hb⟩
   have hs24 := sz_i64 (-9223372036854775808) (by omega)
   refine ⟨_, _, _, rfl, hb, (hM.call hb).add h24, ?_⟩
   refine GD.call (fun _ hM => Cmp_ok hM.avlt (hM.f 1 rfl) (hM.f 0 rfl) (by first | assumption | omega)) ?_
   rintro _ _ _ hM ⟨rfl, hb⟩
   refine ⟨_, _, _, rfl, hb, hM.call hb, ?_⟩
   refine GD.ev (.bool true) ?_ (hr := fun u => op_b (b := (decide (((a - (-9223372036854775808)).sign) < (0 : Int)))) (by kernel_rfl) ((sign_lt _ _).trans hk22))
   refine GD.ev (.bool true) ?_
   refine GD.eo ?_
   refine GD.sk ?_
   refine GD.sk ?_
   refine GD.eo ?_
   refine GD.ev (.bool true) ?_
   refine GD.k k2 ?_
   refine CG.yes ?_ rfl rfl
   refine CG.seq fun K_ k2 => ?_
   refine CG.lin 2 ?_
   refine GL.v (.int .i64 0) ?_
   refine GL.v (.bool false) ?_
   refine GL.k k2 ?_
   refine CG.ret (QG.then_ret (QG.ret (fun _ hM => results_two rfl (res_tmp rfl) (res_tmp rfl)) ?_))
   intro _ hM
   exact ⟨(by rw [(show to64 a = 0 from if_neg (by omega)), (show decide (-9223372036854775808 ≤ a ∧ a ≤ 9223372036854775807) = false from decide_eq_false (by omega))] <;> rfl), hM.below⟩
 · have hk22 : (decide (a < (-9223372036854775808))) = false := decide_eq_false hc22
   by_cases hc26 : a > 9223372036854775807
   · have hk26 : (decide (a > 9223372036854775807)) = true := decide_eq_true hc26
     refine CG.draw [] [0, 3, 4, 5, 8, 9] (.step 0 (.step 1 (.step 2 (.step 3 (.step 4 (.step 5 (.step 6 (.step 7 (.step 8 (.step 9 .done)))))))))) (fun V hV27 => ?_)
     refine GD.er (.agg #[.slice A1 n1 c1, .bool m1]) (fun _ hS => op_load_agg (off := 0) (by kernel_rfl) agg28 siz28 (hV27.bS 0 rfl hS) rfl rfl) ?_
     refine GD.call (fun _ hM => Int_ok hM.avlt (-9223372036854775808) (by first | assumption | omega)) ?_
     rintro _ _ _ hM ⟨A28, n28, c28, m28, rfl, h28, hb⟩
     have hs28 := sz_i64 (-9223372036854775808) (by omega)
     refine ⟨_, _, _, rfl, hb, (hM.call hb).add h28, ?_⟩
     refine GD.call (fun _ hM => Cmp_ok hM.avlt (hM.f 1 rfl) (hM.f 0 rfl) (by first | assumption | omega)) ?_
     rintro _ _ _ hM ⟨rfl, hb⟩
     refine ⟨_, _, _, rfl, hb, hM.call hb, ?_⟩
     refine GD.ev (.bool false) ?_ (hr := fun u => op_b (b := (decide (((a - (-9223372036854775808)).sign) < (0 : Int)))) (by kernel_rfl) ((sign_lt _ _).trans hk22))
     refine GD.ev (.bool false) ?_
     refine GD.er (.agg #[.slice A1 n1 c1, .bool m1]) (fun _ hS => op_load_agg (off := 0) (by kernel_rfl) agg28 siz28 (hV27.bS 0 rfl hS) rfl rfl) ?_
     refine GD.call (fun _ hM => Int_ok hM.avlt (9223372036854775807) (by first | assumption | omega)) ?_
     rintro _ _ _ hM ⟨A30, n30, c30, m30, rfl, h30, hb⟩
     have hs30 := sz_i64 (9223372036854775807) (by omega)
     refine ⟨_, _, _, rfl, hb, (hM.call hb).add h30, ?_⟩
     refine GD.call (fun _ hM => Cmp_ok hM.avlt (hM.f 2 rfl) (hM.f 0 rfl) (by first | assumption | omega)) ?_
     rintro _ _ _ hM ⟨rfl, hb⟩
     refine ⟨_, _, _, rfl, hb, hM.call hb, ?_⟩
     refine GD.ev (.bool true) ?_ (hr := fun u => op_b (b := (decide (((a - 9223372036854775807).sign) > (0 : Int)))) (by kernel_rfl) ((sign_gt _ _).trans hk26))
     refine GD.ev (.bool true) ?_
     refine GD.k k2 ?_
     refine CG.yes ?_ rfl rfl
     refine CG.seq fun K_ k2 => ?_
     refine CG.lin 2 ?_
     refine GL.v (.int .i64 0) ?_
     refine GL.v (.bool false) ?_
     refine GL.k k2 ?_
     refine CG.ret (QG.then_ret (QG.ret (fun _ hM => results_two rfl (res_tmp rfl) (res_tmp rfl)) ?_))
     intro _ hM
     exact ⟨(by rw [(show to64 a = 0 from if_neg (by omega)), (show decide (-9223372036854775808 ≤ a ∧ a ≤ 9223372036854775807) = false from decide_eq_false (by omega))] <;> rfl), hM.below⟩
   · have hk26 : (decide (a > 9223372036854775807)) = false := decide_eq_false hc26
     refine CG.draw [] [0, 3, 4, 5, 8, 9] (.step 0 (.step 1 (.step 2 (.step 3 (.step 4 (.step 5 (.step 6 (.step 7 (.step 8 (.step 9 .done)))))))))) (fun V hV32 => ?_)
     refine GD.er (.agg #[.slice A1 n1 c1, .bool m1]) (fun _ hS => op_load_agg (off := 0) (by kernel_rfl) agg28 siz28 (hV32.bS 0 rfl hS) rfl rfl) ?_
     refine GD.call (fun _ hM => Int_ok hM.avlt (-9223372036854775808) (by first | assumption | omega)) ?_
     rintro _ _ _ hM ⟨A33, n33, c33, m33, rfl, h33, hb⟩
     have hs33 := sz_i64 (-9223372036854775808) (by omega)
     refine ⟨_, _, _, rfl, hb, (hM.call hb).add h33, ?_⟩
     refine GD.call (fun _ hM => Cmp_ok hM.avlt (hM.f 1 rfl) (hM.f 0 rfl) (by first | assumption | omega)) ?_
     rintro _ _ _ hM ⟨rfl, hb⟩
     refine ⟨_, _, _, rfl, hb, hM.call hb, ?_⟩
     refine GD.ev (.bool false) ?_ (hr := fun u => op_b (b := (decide (((a - (-9223372036854775808)).sign) < (0 : Int)))) (by kernel_rfl) ((sign_lt _ _).trans hk22))
     refine GD.ev (.bool false) ?_
     refine GD.er (.agg #[.slice A1 n1 c1, .bool m1]) (fun _ hS => op_load_agg (off := 0) (by kernel_rfl) agg28 siz28 (hV32.bS 0 rfl hS) rfl rfl) ?_
     refine GD.call (fun _ hM => Int_ok hM.avlt (9223372036854775807) (by first | assumption | omega)) ?_
     rintro _ _ _ hM ⟨A35, n35, c35, m35, rfl, h35, hb⟩
     have hs35 := sz_i64 (9223372036854775807) (by omega)
     refine ⟨_, _, _, rfl, hb, (hM.call hb).add h35, ?_⟩
     refine GD.call (fun _ hM => Cmp_ok hM.avlt (hM.f 2 rfl) (hM.f 0 rfl) (by first | assumption | omega)) ?_
     rintro _ _ _ hM ⟨rfl, hb⟩
     refine ⟨_, _, _, rfl, hb, hM.call hb, ?_⟩
     refine GD.ev (.bool false) ?_ (hr := fun u => op_b (b := (decide (((a - 9223372036854775807).sign) > (0 : Int)))) (by kernel_rfl) ((sign_gt _ _).trans hk26))
     refine GD.ev (.bool false) ?_
     refine GD.k k2 ?_
     refine CG.no ?_ rfl rfl
     refine CG.skip ?_
     refine QG.k k1 ?_
     refine CG.seq fun K_ k1 => ?_
     refine CG.lin 5 ?_
     refine GL.v (.pointer (some ⟨g21, 0, none⟩)) ?_
     refine GL.r (.agg #[.slice A1 n1 c1]) (fun _ hM => op_load_agg (off := 0) (by kernel_rfl) agg26 siz26 (hM.b 0 rfl) rfl rfl) ?_
     refine GL.call (fun _ hM => wordof_ok hM.avlt (Zk.dig (hM.f 2 rfl)) (by first | assumption | omega)) ?_
     rintro _ _ _ hM ⟨rfl, hb⟩
     refine ⟨_, _, _, rfl, hM.call hb, ?_⟩
     refine GL.v (.int .i64 (IntKind.wrap .i64 ((a.natAbs : Nat) : Int))) ?_ (hr := fun u => by kernel_rfl)
     refine GL.v (.int .i64 (IntKind.wrap .i64 ((a.natAbs : Nat) : Int))) ?_
     refine GL.k k1 ?_
     refine CG.seq fun K_ k1 => ?_
     refine CG.seq fun K_ k2 => ?_
     refine CG.lin 2 ?_
     refine GL.v (.pointer (some ⟨g21, 1, none⟩)) ?_
     refine GL.r (.bool m1) (fun _ hM => op_load_one (off := 1) (by kernel_rfl) agg4 (hM.b 0 rfl) rfl) ?_
     refine GL.k k2 ?_
     by_cases hc38 : m1 = true
     · have hk38 : (m1) = true := hc38
       refine CG.yes ?_ hk38 rfl
       refine CG.lin 3 ?_
       refine GL.v (.int .i64 (IntKind.wrap .i64 ((a.natAbs : Nat) : Int))) ?_
       refine GL.v (.int .i64 (IntKind.wrap .i64 (0 - (IntKind.wrap .i64 ((a.natAbs : Nat) : Int))))) ?_ (hr := fun u => by kernel_rfl)
       refine GL.v (.int .i64 (IntKind.wrap .i64 (0 - (IntKind.wrap .i64 ((a.natAbs : Nat) : Int))))) ?_
       refine GL.k k1 ?_
       refine CG.seq fun K_ k1 => ?_
       refine CG.lin 3 ?_
       refine GL.v (.int .i64 (IntKind.wrap .i64 (0 - (IntKind.wrap .i64 ((a.natAbs : Nat) : Int))))) ?_
       refine GL.v (.int .i64 (IntKind.wrap .i64 (0 - (IntKind.wrap .i64 ((a.natAbs : Nat) : Int))))) ?_
       refine GL.v (.bool true) ?_
       refine GL.k k1 ?_
       refine CG.ret (QG.ret (fun _ hM => results_two rfl (res_tmp rfl) (res_tmp rfl)) ?_)
       intro _ hM
       exact ⟨(by rw [(show to64 a = (IntKind.wrap .i64 (0 - (IntKind.wrap .i64 ((a.natAbs : Nat) : Int)))) from ((wrap_abs_neg (by simpa [Zk.neg h1] using hc38) (by omega)).trans (if_pos (by omega)).symm).symm), (show decide (-9223372036854775808 ≤ a ∧ a ≤ 9223372036854775807) = true from decide_eq_true (by omega))] <;> rfl), hM.below⟩
     · have hk38 : (m1) = false := by simpa using hc38
       refine CG.no ?_ hk38 rfl
       refine CG.skip ?_
       refine QG.k k1 ?_
       refine CG.seq fun K_ k1 => ?_
       refine CG.lin 3 ?_
       refine GL.v (.int .i64 (IntKind.wrap .i64 ((a.natAbs : Nat) : Int))) ?_
       refine GL.v (.int .i64 (IntKind.wrap .i64 ((a.natAbs : Nat) : Int))) ?_
       refine GL.v (.bool true) ?_
       refine GL.k k1 ?_
       refine CG.ret (QG.ret (fun _ hM => results_two rfl (res_tmp rfl) (res_tmp rfl)) ?_)
       intro _ hM
       exact ⟨(by rw [(show to64 a = (IntKind.wrap .i64 ((a.natAbs : Nat) : Int)) from ((wrap_abs_pos (by simpa [Zk.neg h1] using hc38) (by omega)).trans (if_pos (by omega)).symm).symm), (show decide (-9223372036854775808 ≤ a ∧ a ≤ 9223372036854775807) = true from decide_eq_true (by omega))] <;> rfl), hM.below⟩

set_option maxRecDepth 100000 in
set_option maxHeartbeats 400000 in
theorem isDigits_ok {w : World} {X : Nat → Prop} (hX : ∀ k, X k → k < w.heap.size) (s : List UInt8) (p1 : s.length ≤ 4611686018427387904) :
    Calls Tryd.prog 46 #[.string (bs s)] w (fun e w' => e = .returned (.bool (isDs s)) ∧ Below w.heap.size w w') := by
 have hM := Mem.start hX
 refine calls_of hM Tryd.func46 Tryd.ntmps46 ?_
 refine CG.seq fun K_ k1 => ?_
 refine CG.lin 1 ?_
 refine GL.v (.bool false) ?_
 refine GL.k k1 ?_
 refine CG.seq fun K_ k1 => ?_
 by_cases hc21 : ¬ s = []
 · have hk21 : (!(decide (s = []))) = true := by simpa using hc21
   by_cases hc22 : (Lib.trimS s [48, 49, 50, 51, 52, 53, 54, 55, 56, 57]) = []
   · have hk22 : (decide ((Lib.trimS s [48, 49, 50, 51, 52, 53, 54, 55, 56, 57]) = [])) = true := decide_eq_true hc22
     by_cases hc23 : (s.length : Int) = (1 : Int)
     · have hk23 : ((s.length : Int) == (1 : Int)) = true := beq_iff_eq.2 hc23
       refine CG.lin 18 ?_
       refine GL.v (.string (bs s)) ?_
       refine GL.v (.bool true) ?_ (hr := fun u => op_b (b := (!(decide (s = [])))) ((fun u => op_sne (L := s) (K := []) (by kernel_rfl) (by kernel_rfl)) u) hk21)
       refine GL.v (.bool true) ?_
       refine GL.v (.string (bs s)) ?_
       refine GL.call (fun _ hM => trim_ok hM.avlt s (by first | assumption | omega)) ?_
       rintro _ _ _ hM ⟨rfl, hb⟩
       refine ⟨_, _, _, rfl, hM.call hb, ?_⟩
       refine GL.v (.bool true) ?_ (hr := fun u => op_b (b := (decide ((Lib.trimS s [48, 49, 50, 51, 52, 53, 54, 55, 56, 57]) = []))) ((fun u => op_seq (L := Lib.trimS s [48, 49, 50, 51, 52, 53, 54, 55, 56, 57]) (K := []) (by kernel_rfl) (by kernel_rfl)) u) hk22)
       refine GL.v (.bool true) ?_
       refine GL.v (.bool true) ?_
       refine GL.v (.string (bs s)) ?_
       refine GL.v (.int .i64 (s.length : Int)) ?_ (hr := fun u => op_slen (L := s) (by kernel_rfl) (by kernel_rfl) (by (try simp only [List.length_append, List.length_cons, List.length_nil]); omega))
       refine GL.v (.bool true) ?_ (hr := fun u => op_b (b := ((s.length : Int) == (1 : Int))) (by kernel_rfl) hk23)
       refine GL.v (.bool true) ?_
       refine GL.sk ?_
       have hl0 : 0 < s.length := List.length_pos_iff.2 (by assumption)
       refine GL.sk ?_
       refine GL.sk ?_
       refine GL.v (.bool true) ?_
       refine GL.v (.bool true) ?_
       refine GL.v (.bool true) ?_
       refine GL.k k1 ?_
       refine CG.ret (QG.ret (fun _ hM => results_one rfl (res_tmp rfl)) ?_)
       intro _ hM
       exact ⟨ret_bool (isDs_one hc21 ((trimS_nil s).1 hc22) (by omega)), hM.below⟩
     · have hk23 : ((s.length : Int) == (1 : Int)) = false := beq_eq_false_iff_ne.2 hc23
       refine CG.lin 18 ?_
       refine GL.v (.string (bs s)) ?_
       refine GL.v (.bool true) ?_ (hr := fun u => op_b (b := (!(decide (s = [])))) ((fun u => op_sne (L := s) (K := []) (by kernel_rfl) (by kernel_rfl)) u) hk21)
       refine GL.v (.bool true) ?_
       refine GL.v (.string (bs s)) ?_
       refine GL.call (fun _ hM => trim_ok hM.avlt s (by first | assumption | omega)) ?_
       rintro _ _ _ hM ⟨rfl, hb⟩
       refine ⟨_, _, _, rfl, hM.call hb, ?_⟩
       refine GL.v (.bool true) ?_ (hr := fun u => op_b (b := (decide ((Lib.trimS s [48, 49, 50, 51, 52, 53, 54, 55, 56, 57]) = []))) ((fun u => op_seq (L := Lib.trimS s [48, 49, 50, 51, 52, 53, 54, 55, 56, 57]) (K := []) (by kernel_rfl) (by kernel_rfl)) u) hk22)
       refine GL.v (.bool true) ?_
       refine GL.v (.bool true) ?_
       refine GL.v (.string (bs s)) ?_
       refine GL.v (.int .i64 (s.length : Int)) ?_ (hr := fun u => op_slen (L := s) (by kernel_rfl) (by kernel_rfl) (by (try simp only [List.length_append, List.length_cons, List.length_nil]); omega))
       refine GL.v (.bool false) ?_ (hr := fun u => op_b (b := ((s.length : Int) == (1 : Int))) (by kernel_rfl) hk23)
       refine GL.v (.bool false) ?_
       refine GL.v (.string (bs s)) ?_
       have hl0 : 0 < s.length := List.length_pos_iff.2 (by assumption)
       refine GL.v (.int .u8 (((s.getD 0 0).toNat : Nat) : Int)) ?_ (hr := fun u => op_sidx (L := s) (k := .i64) (i := (0 : Int)) 0 (by kernel_rfl) (by kernel_rfl) (by omega) (by (try simp only [List.length_append, List.length_cons, List.length_nil]); omega) (by kernel_rfl))
       refine GL.v (.bool ((((s.getD 0 0).toNat : Nat) : Int) != (48 : Int))) ?_
       refine GL.v (.bool ((((s.getD 0 0).toNat : Nat) : Int) != (48 : Int))) ?_
       refine GL.v (.bool ((((s.getD 0 0).toNat : Nat) : Int) != (48 : Int))) ?_
       refine GL.v (.bool ((((s.getD 0 0).toNat : Nat) : Int) != (48 : Int))) ?_
       refine GL.k k1 ?_
       refine CG.ret (QG.ret (fun _ hM => results_one rfl (res_tmp rfl)) ?_)
       intro _ hM
       exact ⟨ret_bool (isDs_more hc21 ((trimS_nil s).1 hc22) (by omega)), hM.below⟩
   · have hk22 : (decide ((Lib.trimS s [48, 49, 50, 51, 52, 53, 54, 55, 56, 57]) = [])) = false := decide_eq_false hc22
     refine CG.lin 18 ?_
     refine GL.v (.string (bs s)) ?_
     refine GL.v (.bool true) ?_ (hr := fun u => op_b (b := (!(decide (s = [])))) ((fun u => op_sne (L := s) (K := []) (by kernel_rfl) (by kernel_rfl)) u) hk21)
     refine GL.v (.bool true) ?_
     refine GL.v (.string (bs s)) ?_
     refine GL.call (fun _ hM => trim_ok hM.avlt s (by first | assumption | omega)) ?_
     rintro _ _ _ hM ⟨rfl, hb⟩
     refine ⟨_, _, _, rfl, hM.call hb, ?_⟩
     refine GL.v (.bool false) ?_ (hr := fun u => op_b (b := (decide ((Lib.trimS s [48, 49, 50, 51, 52, 53, 54, 55, 56, 57]) = []))) ((fun u => op_seq (L := Lib.trimS s [48, 49, 50, 51, 52, 53, 54, 55, 56, 57]) (K := []) (by kernel_rfl) (by kernel_rfl)) u) hk22)
     refine GL.v (.bool false) ?_
     refine GL.v (.bool false) ?_
     refine GL.sk ?_
     refine GL.sk ?_
     refine GL.sk ?_
     refine GL.sk ?_
     refine GL.sk ?_
     have hl0 : 0 < s.length := List.length_pos_iff.2 (by assumption)
     refine GL.sk ?_
     refine GL.sk ?_
     refine GL.sk ?_
     refine GL.v (.bool false) ?_
     refine GL.v (.bool false) ?_
     refine GL.k k1 ?_
     refine CG.ret (QG.ret (fun _ hM => results_one rfl (res_tmp rfl)) ?_)
     intro _ hM
     exact ⟨ret_bool (isDs_bad hc21 (fun h => hc22 ((trimS_nil s).2 h))), hM.below⟩
 · have hk21 : (!(decide (s = []))) = false := by simpa using hc21
   refine CG.lin 18 ?_
   refine GL.v (.string (bs s)) ?_
   refine GL.v (.bool false) ?_ (hr := fun u => op_b (b := (!(decide (s = [])))) ((fun u => op_sne (L := s) (K := []) (by kernel_rfl) (by kernel_rfl)) u) hk21)
   refine GL.v (.bool false) ?_
   refine GL.sk ?_
   refine GL.sk ?_
   refine GL.sk ?_
   refine GL.v (.bool false) ?_
   refine GL.v (.bool false) ?_
   refine GL.sk ?_
   refine GL.sk ?_
   refine GL.sk ?_
   refine GL.sk ?_
   refine GL.sk ?_
   refine GL.sk ?_
   refine GL.sk ?_
   refine GL.sk ?_
   refine GL.v (.bool false) ?_
   refine GL.v (.bool false) ?_
   refine GL.k k1 ?_
   refine CG.ret (QG.ret (fun _ hM => results_one rfl (res_tmp rfl)) ?_)
   intro _ hM
   exact ⟨ret_bool (isDs_nil (Classical.not_not.1 hc21)), hM.below⟩

set_option maxRecDepth 100000 in
set_option maxHeartbeats 400000 in
theorem read_ok {w : World} {X : Nat → Prop} (hX : ∀ k, X k → k < w.heap.size) (s : List UInt8) (p1 : s.all isDg' = true) (p2 : s.length ≤ 274877906944) :
    Calls Tryd.prog 47 #[.string (bs s)] w (fun e w' => ∃ Ar nr cr, e = .returned (.agg #[.slice Ar nr cr]) ∧ Dk.R X w' [.slice Ar nr cr] (num s) ∧ Below w.heap.size w w') := by
 have hM := Mem.start hX
 refine calls_of hM Tryd.func47 Tryd.ntmps47 ?_
 refine CG.seq fun K_ k1 => ?_
 refine CG.lin 1 ?_
 refine GL.aA zer26 fun g21 => ?_
 refine GL.k k1 ?_
 refine CG.seq fun K_ k1 => ?_
 refine CG.lin 1 ?_
 refine GL.aA zer26 fun g22 => ?_
 refine GL.k k1 ?_
 refine CG.seq fun K_ k1 => ?_
 refine CG.seq fun K_ k2 => ?_
 refine CG.lin 3 ?_
 refine GL.v (.string (bs s)) ?_
 refine GL.v (.int .i64 (s.length : Int)) ?_ (hr := fun u => op_slen (L := s) (by kernel_rfl) (by kernel_rfl) (by (try simp only [List.length_append, List.length_cons, List.length_nil]); omega))
 refine GL.v (.int .i64 0) ?_
 refine GL.k k2 ?_
 refine CG.block ?_
 refine CG.loop (fun m_ a_ u_ => ∃ (Aa : Option Addr) (na : Nat) (ca : Nat) (a : Nat) (i : Nat) (j23 : Nat → Value), a_ = ⟨#[.string (bs s), undef, .pointer (some ⟨g21, 0, none⟩), .pointer (some ⟨g22, 0, none⟩), (j23 4), .string (bs s), .int .i64 (s.length : Int), .int .i64 (i : Int), (j23 8), (j23 9), (j23 10), (j23 11), (j23 12), (j23 13), (j23 14), (j23 15), (j23 16), (j23 17), (j23 18), (j23 19), (j23 20), undef], []⟩ ∧ m_ = s.length - i ∧ Mem w [] X u_ [.box g22 #[.slice Aa na ca] 26, .box g21 #[.slice none 0 0] 26] [⟨Dk, [.slice Aa na ca], a⟩] ∧ (i ≤ s.length) ∧ (a = num (s.take i))) (fun _ hM => ⟨_, none, 0, 0, 0, 0, (fun t => (#[.string (bs s), undef, .pointer (some ⟨g21, 0, none⟩), .pointer (some ⟨g22, 0, none⟩), undef, .string (bs s), .int .i64 (s.length : Int), .int .i64 0, undef, undef, undef, undef, undef, undef, undef, undef, undef, undef, undef, undef, undef, undef] : Array Value).getD t undef), (by kernel_rfl), rfl, (hM.clr).add (Dk.nil _ _ none 0), (by omega), rfl⟩) ?_
 rintro m_ a_ u_ ⟨Aa, na, ca, a, i, j23, rfl, hm23, hM, hi, ha⟩
 refine CG.go hM ?_
 refine CG.seq fun K_ k2 => ?_
 refine CG.lin 1 ?_
 refine GL.v (.bool (decide ((i : Int) < (s.length : Int)))) ?_
 refine GL.k k2 ?_
 refine CG.seq fun K_ k2 => ?_
 by_cases hc24 : (i : Int) < (s.length : Int)
 · have hk24 : (decide ((i : Int) < (s.length : Int))) = true := decide_eq_true hc24
   refine CG.yes ?_ hk24 rfl
   refine CG.skip ?_
   refine QG.k k2 ?_
   refine CG.seq fun K_ k2 => ?_
   refine CG.block ?_
   refine CG.seq fun K_ k3 => ?_
   refine CG.lin 2 ?_
   refine GL.v (.int .i64 (i : Int)) ?_
   refine GL.v (.int .i64 (i : Int)) ?_
   refine GL.k k3 ?_
   refine CG.draw [] [0, 3, 4, 5, 6, 7] (.step 0 (.step 3 (.step 4 (.step 5 (.step 6 (.step 7 (.step 1 (.step 2 (.step 8 (.step 9 (.step 10 .done))))))))))) (fun V hV25 => ?_)
   refine GD.er (.agg #[.slice Aa na ca]) (fun _ hS => op_load_agg (off := 0) (by kernel_rfl) agg26 siz26 (hV25.bS 0 rfl hS) rfl rfl) ?_
   refine GD.ev (.string (bs s)) ?_
   refine GD.ev (.int .i64 (i : Int)) ?_
   refine GD.ev (.int .u8 (((s.getD i 0).toNat : Nat) : Int)) ?_ (hr := fun u => op_sidx (L := s) (k := .i64) (i := (i : Int)) i (by kernel_rfl) (by kernel_rfl) (by omega) (by (try simp only [List.length_append, List.length_cons, List.length_nil]); omega) (by kernel_rfl))
   have hc := dg_range p1 (i := i) (by omega)
   refine GD.ev (.int .u8 ((((s.getD i 0).toNat) - 48 : Nat) : Int)) ?_ (hr := fun u => op_to (v := .int .u8 (IntKind.wrap .u8 ((((s.getD i 0).toNat : Nat) : Int) - (48 : Int)))) (by kernel_rfl) (wrap_u8 (by omega) (by omega) (by omega)))
   refine GD.ev (.int .u64 ((((s.getD i 0).toNat) - 48 : Nat) : Int)) ?_ (hr := fun u => op_to (v := .int .u64 (IntKind.wrap .u64 ((((s.getD i 0).toNat) - 48 : Nat) : Int))) (by kernel_rfl) (wrap_u64 rfl (by omega) (by omega)))
   refine GD.call (fun _ hM => wordn_ok hM.avlt (n := 10) (by first | assumption | omega)) ?_
   rintro _ _ _ hM ⟨A26, n26, c26, rfl, h26, hb⟩
   have hw26 : szn (10) ≤ 3 := szn_small 3 (by omega)
   refine ⟨_, _, _, rfl, hb, (hM.call hb).add h26, ?_⟩
   refine GD.call (fun _ hM => times_ok hM.avlt (hM.f 1 rfl) (hM.f 0 rfl) (by first | omega | (have := num_szn p1 i; rw [← ha] at this; have := szn_small (n := 10) 1 (by decide); have := szn_small (n := (s.getD i 0).toNat - 48) 1 (by omega); have := szn_mul a 10; omega))) ?_
   rintro _ _ _ hM ⟨A27, n27, c27, rfl, h27, hb⟩
   have hs27 := szn_mul a (10)
   refine ⟨_, _, _, rfl, hb, (hM.call hb).add h27, ?_⟩
   refine GD.call (fun _ hM => wordn_ok hM.avlt (n := ((s.getD i 0).toNat) - 48) (by first | assumption | omega)) ?_
   rintro _ _ _ hM ⟨A28, n28, c28, rfl, h28, hb⟩
   have hw28 : szn ((((s.getD i 0).toNat) - 48)) ≤ 3 := szn_small 3 (by omega)
   refine ⟨_, _, _, rfl, hb, (hM.call hb).add h28, ?_⟩
   refine GD.call (fun _ hM => plus_add_ok hM.avlt (hM.f 1 rfl) (hM.f 0 rfl) (by first | omega | (have := num_szn p1 i; rw [← ha] at this; have := szn_small (n := 10) 1 (by decide); have := szn_small (n := (s.getD i 0).toNat - 48) 1 (by omega); have := szn_mul a 10; omega))) ?_
   rintro _ _ _ hM ⟨A29, n29, c29, rfl, h29, hb⟩
   have hs29 := szn_add (a * 10) ((((s.getD i 0).toNat) - 48))
   refine ⟨_, _, _, rfl, hb, (hM.call hb).add h29, ?_⟩
   refine GD.st (fun _ _ => Mem.st0) (fun _ hM => store_all (cs' := #[.slice A29 n29 c29]) siz26 (hM.b 0 rfl) (by kernel_rfl) (by kernel_rfl) rfl rfl rfl) ?_
   refine GD.q ?_
   refine QG.block ?_
   refine QG.k k2 ?_
   refine CG.lin 2 ?_
   refine GL.v (.int .i64 ((i + 1 : Nat) : Int)) ?_ (hr := fun u => op_to (v := .int .i64 (IntKind.wrap .i64 ((i : Int) + (1 : Int)))) (by kernel_rfl) (wrap_i64 (by omega) (by omega) (by omega)))
   refine GL.v (.int .i64 ((i + 1 : Nat) : Int)) ?_
   refine GL.q ?_
   refine QG.again fun _ hM => ?_
   exact ⟨s.length - (i + 1), (by omega), A29, n29, c29, ((a * 10) + (((s.getD i 0).toNat) - 48)), (i + 1), (fun t => (#[.string (bs s), undef, .pointer (some ⟨g21, 0, none⟩), .pointer (some ⟨g22, 0, none⟩), .int .i64 (i : Int), .string (bs s), .int .i64 (s.length : Int), .int .i64 ((i + 1 : Nat) : Int), .bool (decide ((i : Int) < (s.length : Int))), .int .i64 (i : Int), .agg #[.slice Aa na ca], .agg #[.slice A26 n26 c26], .agg #[.slice A27 n27 c27], .string (bs s), .int .i64 (i : Int), .int .u8 (((s.getD i 0).toNat : Nat) : Int), .int .u8 ((((s.getD i 0).toNat) - 48 : Nat) : Int), .int .u64 ((((s.getD i 0).toNat) - 48 : Nat) : Int), .agg #[.slice A28 n28 c28], .agg #[.slice A29 n29 c29], .int .i64 ((i + 1 : Nat) : Int), undef] : Array Value).getD t undef), (by kernel_rfl), rfl, (hM.clr).add (hM.f 0 rfl), (by omega), (num_step s (by omega) ha)⟩
 · have hk24 : (decide ((i : Int) < (s.length : Int))) = false := decide_eq_false hc24
   refine CG.no ?_ hk24 rfl
   refine CG.exit (QG.then_exit (QG.then_exit (QG.here ?_)))
   refine QG.k k1 ?_
   refine CG.seq fun K_ k1 => ?_
   refine CG.lin 2 ?_
   refine GL.r (.agg #[.slice Aa na ca]) (fun _ hM => op_load_agg (off := 0) (by kernel_rfl) agg26 siz26 (hM.b 0 rfl) rfl rfl) ?_
   refine GL.sA (cs' := #[.slice Aa na ca]) (fun _ _ => Mem.st1) (fun _ hM => hM.b 1 rfl) siz26 ?_
   refine GL.k k1 ?_
   refine CG.ret (QG.ret (fun _ hM => results_one rfl (res_cell rfl (loadVar_agg agg26 siz26 (hM.b 1 rfl) rfl rfl))) ?_)
   intro _ hM
   exact ⟨_, _, _, rfl, ((show a = num s by rw [ha, show i = s.length by omega, List.take_length]) ▸ (hM.out (hM.f 0 rfl))), hM.below⟩

set_option maxRecDepth 100000 in
set_option maxHeartbeats 400000 in
theorem lcut_ok {w : World} {X : Nat → Prop} (hX : ∀ k, X k → k < w.heap.size) (s : List UInt8) (p1 : s.length ≤ 4611686018427387904) :
    Calls Tryd.prog 71 #[.string (bs s), .string (bs [47])] w (fun e w' => e = .returned (.tuple #[.string (bs (cutTop s)), .string (bs (cutRest s)), .bool (s.contains 47)]) ∧ Below w.heap.size w w') := by
 have hM := Mem.start hX
 refine calls_of hM Tryd.func71 Tryd.ntmps71 ?_
 refine CG.seq fun K_ k1 => ?_
 refine CG.lin 3 ?_
 refine GL.v (.string (bs [])) ?_
 refine GL.v (.string (bs [])) ?_
 refine GL.v (.bool false) ?_
 refine GL.k k1 ?_
 refine CG.seq fun K_ k1 => ?_
 refine CG.seq fun K_ k2 => ?_
 refine CG.lin 4 ?_
 refine GL.v (.string (bs s)) ?_
 refine GL.v (.string (bs [47])) ?_
 refine GL.call (fun _ hM => index1_ok hM.avlt s) ?_
 rintro _ _ _ hM ⟨rfl, hb⟩
 refine ⟨_, _, _, rfl, hM.call hb, ?_⟩
 refine GL.v (.int .i64 (Lib.indexByte s 47)) ?_
 refine GL.k k2 ?_
 refine CG.seq fun K_ k2 => ?_
 refine CG.lin 2 ?_
 refine GL.v (.int .i64 (Lib.indexByte s 47)) ?_
 refine GL.v (.bool (decide ((Lib.indexByte s 47) ≥ (0 : Int)))) ?_
 refine GL.k k2 ?_
 by_cases hc22 : (Lib.indexByte s 47) ≥ (0 : Int)
 · have hk22 : (decide ((Lib.indexByte s 47) ≥ (0 : Int))) = true := decide_eq_true hc22
   refine CG.yes ?_ hk22 rfl
   refine CG.seq fun K_ k2 => ?_
   refine CG.draw [] [0, 1, 2, 3, 4, 5, 6, 7, 8] (.step 0 (.step 1 (.step 2 (.step 3 (.step 4 (.step 5 (.step 6 (.step 7 (.step 8 (.step 9 (.step 10 (.step 11 .done)))))))))))) (fun V hV23 => ?_)
   refine GD.ev (.string (bs s)) ?_
   refine GD.ev (.int .i64 (Lib.indexByte s 47)) ?_
   have hi := (index_spec s).1 (by omega)
   have hj := hi.1
   refine GD.ev (.string (bs (s.take (((Lib.indexByte s 47)).toNat)))) ?_ (hr := fun u => op_sto (L := s) (k := .i64) (i := (Lib.indexByte s 47)) (((Lib.indexByte s 47)).toNat) (by kernel_rfl) (by kernel_rfl) (by omega) (by (try simp only [List.length_append, List.length_cons, List.length_nil]); omega) (by kernel_rfl))
   refine GD.ev (.string (bs s)) ?_
   refine GD.ev (.int .i64 (Lib.indexByte s 47)) ?_
   refine GD.ev (.string (bs [47])) ?_
   refine GD.ev (.int .i64 1) ?_ (hr := fun u => op_slen (L := [47]) (by kernel_rfl) (by kernel_rfl) (by (try simp only [List.length_append, List.length_cons, List.length_nil]); omega))
   refine GD.ev (.int .i64 (((Lib.indexByte s 47).toNat + 1 : Nat) : Int)) ?_ (hr := fun u => op_to (v := .int .i64 (IntKind.wrap .i64 (Lib.indexByte s 47 + 1))) (by kernel_rfl) (wrap_i64 (by omega) (by omega) (by omega)))
   refine GD.ev (.string (bs (s.drop ((Lib.indexByte s 47).toNat + 1)))) ?_ (hr := fun u => op_sfrom (L := s) (k := .i64) (i := (((Lib.indexByte s 47).toNat + 1 : Nat) : Int)) ((Lib.indexByte s 47).toNat + 1) (by kernel_rfl) (by kernel_rfl) (by omega) (by (try simp only [List.length_append, List.length_cons, List.length_nil]); omega) (by kernel_rfl))
   refine GD.v (.string (bs (s.take (((Lib.indexByte s 47)).toNat)))) ?_
   refine GD.v (.string (bs (s.drop ((Lib.indexByte s 47).toNat + 1)))) ?_
   refine GD.v (.bool true) ?_
   refine GD.k k2 ?_
   refine CG.ret (QG.then_ret (QG.ret (fun _ hM => results_three rfl (res_tmp rfl) (res_tmp rfl) (res_tmp rfl)) ?_))
   intro _ hM
   exact ⟨(by rw [(show cutTop s = s.take (((Lib.indexByte s 47)).toNat) from ((index_spec s).1 (by omega)).2.1.symm), (show cutRest s = s.drop ((Lib.indexByte s 47).toNat + 1) from ((index_spec s).1 (by omega)).2.2.1.symm), (show s.contains 47 = true from ((index_spec s).1 (by omega)).2.2.2)] <;> rfl), hM.below⟩
 · have hk22 : (decide ((Lib.indexByte s 47) ≥ (0 : Int))) = false := decide_eq_false hc22
   refine CG.no ?_ hk22 rfl
   refine CG.skip ?_
   refine QG.k k1 ?_
   refine CG.seq fun K_ k1 => ?_
   refine CG.lin 4 ?_
   refine GL.v (.string (bs s)) ?_
   refine GL.v (.string (bs s)) ?_
   refine GL.v (.string (bs [])) ?_
   refine GL.v (.bool false) ?_
   refine GL.k k1 ?_
   refine CG.ret (QG.ret (fun _ hM => results_three rfl (res_tmp rfl) (res_tmp rfl) (res_tmp rfl)) ?_)
   intro _ hM
   exact ⟨(by rw [(show cutTop s = s from ((index_spec s).2 (by omega)).1.symm), (show cutRest s = [] from ((index_spec s).2 (by omega)).2.1), (show s.contains 47 = false from ((index_spec s).2 (by omega)).2.2)] <;> rfl), hM.below⟩

set_option maxRecDepth 100000 in
set_option maxHeartbeats 400000 in
theorem cut_ok {w : World} {X : Nat → Prop} (hX : ∀ k, X k → k < w.heap.size) (s : List UInt8) (p1 : s.length ≤ 4611686018427387904) :
    Calls Tryd.prog 48 #[.string (bs s), .string (bs [47])] w (fun e w' => e = .returned (.tuple #[.string (bs (cutTop s)), .string (bs (cutRest s)), .bool (s.contains 47)]) ∧ Below w.heap.size w w') := by
 have hM := Mem.start hX
 refine calls_of hM Tryd.func48 Tryd.ntmps48 ?_
 refine CG.seq fun K_ k1 => ?_
 refine CG.lin 3 ?_
 refine GL.v (.string (bs [])) ?_
 refine GL.v (.string (bs [])) ?_
 refine GL.v (.bool false) ?_
 refine GL.k k1 ?_
 refine CG.seq fun K_ k1 => ?_
 refine CG.lin 9 ?_
 refine GL.v (.string (bs s)) ?_
 refine GL.v (.string (bs [47])) ?_
 refine GL.call (fun _ hM => lcut_ok hM.avlt s (by first | assumption | omega)) ?_
 rintro _ _ _ hM ⟨rfl, hb⟩
 refine ⟨_, _, _, rfl, hM.call hb, ?_⟩
 refine GL.v (.string (bs (cutTop s))) ?_
 refine GL.v (.string (bs (cutRest s))) ?_
 refine GL.v (.bool (s.contains 47)) ?_
 refine GL.v (.string (bs (cutTop s))) ?_
 refine GL.v (.string (bs (cutRest s))) ?_
 refine GL.v (.bool (s.contains 47)) ?_
 refine GL.k k1 ?_
 refine CG.ret (QG.ret (fun _ hM => results_three rfl (res_tmp rfl) (res_tmp rfl) (res_tmp rfl)) ?_)
 intro _ hM
 exact ⟨rfl, hM.below⟩

set_option maxRecDepth 100000 in
set_option maxHeartbeats 400000 in
theorem ParseZ_ok {w : World} {X : Nat → Prop} (hX : ∀ k, X k → k < w.heap.size) (s : List UInt8) (p1 : s.length ≤ 4611686018427387904) :
    Calls Tryd.prog 16 #[.string (bs s)] w (fun e w' => ∃ Ar1 nr1 cr1 mr1, e = .returned (.tuple #[.agg #[.slice Ar1 nr1 cr1, .bool mr1], .int .i64 ((parseZ s).2)]) ∧ Zk.R X w' [.slice Ar1 nr1 cr1, .bool mr1] ((parseZ s).1) ∧ Below w.heap.size w w') := by
 have hM := Mem.start hX
 refine calls_of hM Tryd.func16 Tryd.ntmps16 ?_
 refine CG.seq fun K_ k1 => ?_
 refine CG.lin 2 ?_
 refine GL.aA zer28 fun g21 => ?_
 refine GL.v (.int .i64 0) ?_
 refine GL.k k1 ?_
 refine CG.seq fun K_ k1 => ?_
 refine CG.seq fun K_ k2 => ?_
 refine CG.lin 3 ?_
 refine GL.v (.string (bs s)) ?_
 refine GL.v (.int .i64 (s.length : Int)) ?_ (hr := fun u => op_slen (L := s) (by kernel_rfl) (by kernel_rfl) (by (try simp only [List.length_append, List.length_cons, List.length_nil]); omega))
 refine GL.v (.bool (decide ((s.length : Int) > (1000 : Int)))) ?_
 refine GL.k k2 ?_
 by_cases hc22 : (s.length : Int) > (1000 : Int)
 · have hk22 : (decide ((s.length : Int) > (1000 : Int))) = true := decide_eq_true hc22
   refine CG.yes ?_ hk22 rfl
   refine CG.seq fun K_ k2 => ?_
   refine CG.lin 3 ?_
   refine GL.v (.agg #[.slice none 0 0, .bool false]) ?_
   refine GL.sA (cs' := #[.slice none 0 0, .bool false]) (fun _ _ => Mem.st0) (fun _ hM => hM.b 0 rfl) siz28 ?_
   refine GL.v (.int .i64 5) ?_
   refine GL.k k2 ?_
   refine CG.ret (QG.then_ret (QG.ret (fun _ hM => results_two rfl (res_cell rfl (loadVar_agg agg28 siz28 (hM.b 0 rfl) rfl rfl)) (res_tmp rfl)) ?_))
   intro _ hM
   exact ⟨_, _, _, _, (by rw [(congrArg Prod.snd (show parseZ s = ((0, 5) : Int × Int) from if_pos (by omega)))] <;> rfl), ((show (0 : Int) = (parseZ s).1 from (congrArg Prod.fst (show parseZ s = ((0, 5) : Int × Int) from if_pos (by omega))).symm) ▸ (hM.out (Zk.nil _ _ none 0))), hM.below⟩
 · have hk22 : (decide ((s.length : Int) > (1000 : Int))) = false := decide_eq_false hc22
   refine CG.no ?_ hk22 rfl
   refine CG.skip ?_
   refine QG.k k1 ?_
   refine CG.seq fun K_ k1 => ?_
   refine CG.lin 7 ?_
   refine GL.v (.string (bs s)) ?_
   refine GL.call (fun _ hM => cutprefix_ok hM.avlt s) ?_
   rintro _ _ _ hM ⟨rfl, hb⟩
   have hl23 := strip_len s
   refine ⟨_, _, _, rfl, hM.call hb, ?_⟩
   refine GL.v (.tuple #[.string (bs (strip s)), .bool (decide (s.head? = some 45))]) ?_
   refine GL.v (.string (bs (strip s))) ?_
   refine GL.v (.bool (decide (s.head? = some 45))) ?_
   refine GL.v (.string (bs (strip s))) ?_
   refine GL.v (.bool (decide (s.head? = some 45))) ?_
   refine GL.k k1 ?_
   refine CG.seq fun K_ k1 => ?_
   refine CG.seq fun K_ k2 => ?_
   refine CG.lin 3 ?_
   refine GL.v (.string (bs (strip s))) ?_
   refine GL.call (fun _ hM => isDigits_ok hM.avlt (strip s) (by first | assumption | omega)) ?_
   rintro _ _ _ hM ⟨rfl, hb⟩
   refine ⟨_, _, _, rfl, hM.call hb, ?_⟩
   refine GL.v (.bool (!(isDs (strip s)))) ?_
   refine GL.k k2 ?_
   by_cases hc25 : ¬ isDs (strip s) = true
   · have hk25 : (!(isDs (strip s))) = true := by simpa using hc25
     refine CG.yes ?_ hk25 rfl
     refine CG.seq fun K_ k2 => ?_
     refine CG.lin 3 ?_
     refine GL.v (.agg #[.slice none 0 0, .bool false]) ?_
     refine GL.sA (cs' := #[.slice none 0 0, .bool false]) (fun _ _ => Mem.st0) (fun _ hM => hM.b 0 rfl) siz28 ?_
     refine GL.v (.int .i64 4) ?_
     refine GL.k k2 ?_
     refine CG.ret (QG.then_ret (QG.ret (fun _ hM => results_two rfl (res_cell rfl (loadVar_agg agg28 siz28 (hM.b 0 rfl) rfl rfl)) (res_tmp rfl)) ?_))
     intro _ hM
     exact ⟨_, _, _, _, (by rw [(congrArg Prod.snd (show parseZ s = ((0, 4) : Int × Int) from (if_neg (by omega)).trans (if_neg (by simpa using hc25))))] <;> rfl), ((show (0 : Int) = (parseZ s).1 from (congrArg Prod.fst (show parseZ s = ((0, 4) : Int × Int) from (if_neg (by omega)).trans (if_neg (by simpa using hc25)))).symm) ▸ (hM.out (Zk.nil _ _ none 0))), hM.below⟩
   · have hk25 : (!(isDs (strip s))) = false := by simpa using hc25
     have hd25 := isDs_all (s := (strip s)) (by simpa using hc25)
     refine CG.no ?_ hk25 rfl
     refine CG.skip ?_
     refine QG.k k1 ?_
     refine CG.seq fun K_ k1 => ?_
     refine CG.lin 6 ?_
     refine GL.v (.bool (decide (s.head? = some 45))) ?_
     refine GL.v (.string (bs (strip s))) ?_
     refine GL.call (fun _ hM => read_ok hM.avlt (strip s) (by first | assumption | omega) (by first | assumption | omega)) ?_
     rintro _ _ _ hM ⟨A26, n26, c26, rfl, h26, hb⟩
     have hs26 := num_szn_all (strip s) (by assumption)
     refine ⟨_, _, _, rfl, (hM.call hb).add h26, ?_⟩
     refine GL.call (fun _ hM => made_ok hM.avlt (decide (s.head? = some 45)) (hM.f 0 rfl)) ?_
     rintro _ _ _ hM ⟨A27, n27, c27, m27, rfl, h27, hb⟩
     refine ⟨_, _, _, rfl, (hM.call hb).add h27, ?_⟩
     refine GL.sA (cs' := #[.slice A27 n27 c27, .bool m27]) (fun _ _ => Mem.st0) (fun _ hM => hM.b 0 rfl) siz28 ?_
     refine GL.v (.int .i64 0) ?_
     refine GL.k k1 ?_
     refine CG.ret (QG.ret (fun _ hM => results_two rfl (res_cell rfl (loadVar_agg agg28 siz28 (hM.b 0 rfl) rfl rfl)) (res_tmp rfl)) ?_)
     intro _ hM
     exact ⟨_, _, _, _, (by rw [(congrArg Prod.snd (show parseZ s = ((mk (decide (s.head? = some 45)) (num (strip s)), 0) : Int × Int) from (if_neg (by omega)).trans (if_pos (by simpa using hc25))))] <;> rfl), ((show (mk (decide (s.head? = some 45)) (num (strip s)) : Int) = (parseZ s).1 from (congrArg Prod.fst (show parseZ s = ((mk (decide (s.head? = some 45)) (num (strip s)), 0) : Int × Int) from (if_neg (by omega)).trans (if_pos (by simpa using hc25)))).symm) ▸ (hM.out (hM.f 0 rfl))), hM.below⟩

set_option maxRecDepth 100000 in
set_option maxHeartbeats 400000 in
theorem Parse_ok {w : World} {X : Nat → Prop} (hX : ∀ k, X k → k < w.heap.size) (s : List UInt8) (p1 : s.length ≤ 4611686018427387904) :
    Calls Tryd.prog 17 #[.string (bs s)] w (fun e w' => ∃ Ar1 nr1 cr1 mr1 Ar1_ nr1_ cr1_, e = .returned (.tuple #[.agg #[.slice Ar1 nr1 cr1, .bool mr1, .slice Ar1_ nr1_ cr1_], .int .i64 ((parseR s).2)]) ∧ Rk.R X w' [.slice Ar1 nr1 cr1, .bool mr1, .slice Ar1_ nr1_ cr1_] ((parseR s).1) ∧ Below w.heap.size w w') := by
 have hM := Mem.start hX
 refine calls_of hM Tryd.func17 Tryd.ntmps17 ?_
 refine CG.seq fun K_ k1 => ?_
 refine CG.lin 2 ?_
 refine GL.aA zer48 fun g21 => ?_
 refine GL.v (.int .i64 0) ?_
 refine GL.k k1 ?_
 refine CG.seq fun K_ k1 => ?_
 refine CG.seq fun K_ k2 => ?_
 refine CG.lin 3 ?_
 refine GL.v (.string (bs s)) ?_
 refine GL.v (.int .i64 (s.length : Int)) ?_ (hr := fun u => op_slen (L := s) (by kernel_rfl) (by kernel_rfl) (by (try simp only [List.length_append, List.length_cons, List.length_nil]); omega))
 refine GL.v (.bool (decide ((s.length : Int) > (1000 : Int)))) ?_
 refine GL.k k2 ?_
 by_cases hc22 : (s.length : Int) > (1000 : Int)
 · have hk22 : (decide ((s.length : Int) > (1000 : Int))) = true := decide_eq_true hc22
   refine CG.yes ?_ hk22 rfl
   refine CG.seq fun K_ k2 => ?_
   refine CG.lin 3 ?_
   refine GL.v (.agg #[.slice none 0 0, .bool false, .slice none 0 0]) ?_
   refine GL.sA (cs' := #[.slice none 0 0, .bool false, .slice none 0 0]) (fun _ _ => Mem.st0) (fun _ hM => hM.b 0 rfl) siz48 ?_
   refine GL.v (.int .i64 5) ?_
   refine GL.k k2 ?_
   refine CG.ret (QG.then_ret (QG.ret (fun _ hM => results_two rfl (res_cell rfl (loadVar_agg agg48 siz48 (hM.b 0 rfl) rfl rfl)) (res_tmp rfl)) ?_))
   intro _ hM
   exact ⟨_, _, _, _, _, _, _, (by rw [(congrArg Prod.snd (parseR_long (s := s) (by omega)))] <;> rfl), ((show (0 : Rat) = (parseR s).1 from (congrArg Prod.fst (parseR_long (s := s) (by omega))).symm) ▸ (hM.out (Rk.nil _ _ none none 0 0))), hM.below⟩
 · have hk22 : (decide ((s.length : Int) > (1000 : Int))) = false := decide_eq_false hc22
   refine CG.no ?_ hk22 rfl
   refine CG.skip ?_
   refine QG.k k1 ?_
   refine CG.seq fun K_ k1 => ?_
   refine CG.lin 9 ?_
   refine GL.v (.string (bs s)) ?_
   refine GL.call (fun _ hM => cut_ok hM.avlt s (by first | assumption | omega)) ?_
   rintro _ _ _ hM ⟨rfl, hb⟩
   have hl23 := cutTop_len s
   have hm23 := cutRest_len s
   refine ⟨_, _, _, rfl, hM.call hb, ?_⟩
   refine GL.v (.tuple #[.string (bs (cutTop s)), .string (bs (cutRest s)), .bool (s.contains 47)]) ?_
   refine GL.v (.string (bs (cutTop s))) ?_
   refine GL.v (.string (bs (cutRest s))) ?_
   refine GL.v (.bool (s.contains 47)) ?_
   refine GL.v (.string (bs (cutTop s))) ?_
   refine GL.v (.string (bs (cutRest s))) ?_
   refine GL.v (.bool (s.contains 47)) ?_
   refine GL.k k1 ?_
   refine CG.seq fun K_ k1 => ?_
   refine CG.lin 8 ?_
   refine GL.v (.string (bs (cutTop s))) ?_
   refine GL.call (fun _ hM => ParseZ_ok hM.avlt (cutTop s) (by first | assumption | omega)) ?_
   rintro _ _ _ hM ⟨A24a, n24a, c24a, m24a, rfl, h24a, hb⟩
   have hz24 := parseZ_sz (cutTop s)
   refine ⟨_, _, _, rfl, (hM.call hb).add h24a, ?_⟩
   refine GL.v (.tuple #[.agg #[.slice A24a n24a c24a, .bool m24a], .int .i64 ((parseZ (cutTop s)).2)]) ?_
   refine GL.v (.agg #[.slice A24a n24a c24a, .bool m24a]) ?_
   refine GL.v (.int .i64 ((parseZ (cutTop s)).2)) ?_
   refine GL.aA zer28 fun g25 => ?_
   refine GL.sA (cs' := #[.slice A24a n24a c24a, .bool m24a]) (fun _ _ => Mem.st0) (fun _ hM => hM.b 0 rfl) siz28 ?_
   refine GL.v (.int .i64 ((parseZ (cutTop s)).2)) ?_
   refine GL.k k1 ?_
   refine CG.seq fun K_ k1 => ?_
   refine CG.seq fun K_ k2 => ?_
   by_cases hc26 : ((parseZ (cutTop s)).2) ≠ (0 : Int)
   · have hk26 : (((parseZ (cutTop s)).2) != (0 : Int)) = true := bne_iff_ne.2 hc26
     refine CG.lin 10 ?_
     refine GL.v (.int .i64 ((parseZ (cutTop s)).2)) ?_
     refine GL.v (.bool true) ?_ (hr := fun u => op_b (b := (((parseZ (cutTop s)).2) != (0 : Int))) (by kernel_rfl) hk26)
     refine GL.v (.bool true) ?_
     refine GL.sk ?_
     refine GL.sk ?_
     refine GL.sk ?_
     refine GL.sk ?_
     refine GL.sk ?_
     refine GL.sk ?_
     refine GL.v (.bool true) ?_
     refine GL.k k2 ?_
     refine CG.yes ?_ rfl rfl
     refine CG.seq fun K_ k2 => ?_
     refine CG.lin 3 ?_
     refine GL.v (.agg #[.slice none 0 0, .bool false, .slice none 0 0]) ?_
     refine GL.sA (cs' := #[.slice none 0 0, .bool false, .slice none 0 0]) (fun _ _ => Mem.st1) (fun _ hM => hM.b 1 rfl) siz48 ?_
     refine GL.v (.int .i64 4) ?_
     refine GL.k k2 ?_
     refine CG.ret (QG.then_ret (QG.ret (fun _ hM => results_two rfl (res_cell rfl (loadVar_agg agg48 siz48 (hM.b 1 rfl) rfl rfl)) (res_tmp rfl)) ?_))
     intro _ hM
     exact ⟨_, _, _, _, _, _, _, (by rw [(congrArg Prod.snd (parseR_top (s := s) (by omega) hc26))] <;> rfl), ((show (0 : Rat) = (parseR s).1 from (congrArg Prod.fst (parseR_top (s := s) (by omega) hc26)).symm) ▸ (hM.out (Rk.nil _ _ none none 0 0))), hM.below⟩
   · have hk26 : (((parseZ (cutTop s)).2) != (0 : Int)) = false := by simpa using hc26
     by_cases hc27 : s.contains 47 = true
     · have hk27 : (s.contains 47) = true := hc27
       by_cases hc28 : isDs (cutRest s) = true
       · have hk28 : (isDs (cutRest s)) = true := hc28
         have hd28 := isDs_all (s := (cutRest s)) (by simpa using hc28)
         refine CG.lin 10 ?_
         refine GL.v (.int .i64 ((parseZ (cutTop s)).2)) ?_
         refine GL.v (.bool false) ?_ (hr := fun u => op_b (b := (((parseZ (cutTop s)).2) != (0 : Int))) (by kernel_rfl) hk26)
         refine GL.v (.bool false) ?_
         refine GL.v (.bool true) ?_ (hr := fun u => op_b (b := (s.contains 47)) (by kernel_rfl) hk27)
         refine GL.v (.bool true) ?_
         refine GL.v (.string (bs (cutRest s))) ?_
         refine GL.call (fun _ hM => isDigits_ok hM.avlt (cutRest s) (by first | assumption | omega)) ?_
         rintro _ _ _ hM ⟨rfl, hb⟩
         refine ⟨.bool true, _, _, (ret_bool hk28), hM.call hb, ?_⟩
         refine GL.v (.bool false) ?_
         refine GL.v (.bool false) ?_
         refine GL.v (.bool false) ?_
         refine GL.k k2 ?_
         refine CG.no ?_ rfl rfl
         refine CG.skip ?_
         refine QG.k k1 ?_
         refine CG.seq fun K_ k1 => ?_
         refine CG.seq fun K_ k2 => ?_
         refine CG.lin 2 ?_
         refine GL.v (.bool true) ?_ (hr := fun u => op_b (b := (s.contains 47)) (by kernel_rfl) hk27)
         refine GL.v (.bool false) ?_
         refine GL.k k2 ?_
         refine CG.no ?_ rfl rfl
         refine CG.skip ?_
         refine QG.k k1 ?_
         refine CG.seq fun K_ k1 => ?_
         by_cases hc30 : num (cutRest s) = 0
         · have hk30 : (decide (num (cutRest s) = 0)) = true := decide_eq_true hc30
           refine CG.draw [] [0, 1, 3, 5, 6] (.step 0 (.step 1 (.step 2 (.step 3 (.step 4 (.step 5 (.step 6 (.step 7 (.step 8 .done))))))))) (fun V hV31 => ?_)
           refine GD.er (.agg #[.slice A24a n24a c24a, .bool m24a]) (fun _ hS => op_load_agg (off := 0) (by kernel_rfl) agg28 siz28 (hV31.bS 0 rfl hS) rfl rfl) ?_
           refine GD.ev (.string (bs (cutRest s))) ?_
           refine GD.call (fun _ hM => read_ok hM.avlt (cutRest s) (by first | assumption | omega) (by first | assumption | omega)) ?_
           rintro _ _ _ hM ⟨A32, n32, c32, rfl, h32, hb⟩
           have hs32 := num_szn_all (cutRest s) (by assumption)
           refine ⟨_, _, _, rfl, hb, (hM.call hb).add h32, ?_⟩
           refine GD.ev (.agg #[.slice A32 n32 c32, .bool false]) ?_
           refine GD.call (fun _ hM => OfZ_zero hM.avlt (hM.f 1 rfl) (Zk.ofD (hM.f 0 rfl)) (by first | assumption | omega)) ?_
           rintro _ _ _ hM ⟨A33a, n33a, c33a, m33a, A33a_, n33a_, c33a_, rfl, h33a, hb⟩
           refine ⟨_, _, _, rfl, hb, (hM.call hb).add h33a, ?_⟩
           refine GD.ev (.agg #[.slice A33a n33a c33a, .bool m33a, .slice A33a_ n33a_ c33a_]) ?_
           refine GD.ev (.int .i64 9) ?_
           refine GD.st (fun _ _ => Mem.st1) (fun _ hM => store_all (cs' := #[.slice A33a n33a c33a, .bool m33a, .slice A33a_ n33a_ c33a_]) siz48 (hM.b 1 rfl) (by kernel_rfl) (by kernel_rfl) rfl rfl rfl) ?_
           refine GD.v (.int .i64 9) ?_
           refine GD.k k1 ?_
           refine CG.ret (QG.ret (fun _ hM => results_two rfl (res_cell rfl (loadVar_agg agg48 siz48 (hM.b 1 rfl) rfl rfl)) (res_tmp rfl)) ?_)
           intro _ hM
           exact ⟨_, _, _, _, _, _, _, (by rw [(congrArg Prod.snd (parseR_zero (s := s) (by omega) hc26 hc27 hc28 hc30))] <;> rfl), ((show (0 : Rat) = (parseR s).1 from (congrArg Prod.fst (parseR_zero (s := s) (by omega) hc26 hc27 hc28 hc30)).symm) ▸ (hM.out (hM.f 0 rfl))), hM.below⟩
         · have hk30 : (decide (num (cutRest s) = 0)) = false := decide_eq_false hc30
           refine CG.draw [] [0, 1, 3, 5, 6] (.step 0 (.step 1 (.step 2 (.step 3 (.step 4 (.step 5 (.step 6 (.step 7 (.step 8 .done))))))))) (fun V hV34 => ?_)
           refine GD.er (.agg #[.slice A24a n24a c24a, .bool m24a]) (fun _ hS => op_load_agg (off := 0) (by kernel_rfl) agg28 siz28 (hV34.bS 0 rfl hS) rfl rfl) ?_
           refine GD.ev (.string (bs (cutRest s))) ?_
           refine GD.call (fun _ hM => read_ok hM.avlt (cutRest s) (by first | assumption | omega) (by first | assumption | omega)) ?_
           rintro _ _ _ hM ⟨A35, n35, c35, rfl, h35, hb⟩
           have hs35 := num_szn_all (cutRest s) (by assumption)
           refine ⟨_, _, _, rfl, hb, (hM.call hb).add h35, ?_⟩
           refine GD.ev (.agg #[.slice A35 n35 c35, .bool false]) ?_
           refine GD.call (fun _ hM => OfZ_ok hM.avlt (hM.f 1 rfl) (Zk.ofD (hM.f 0 rfl)) (by first | assumption | omega) (by rw [sz_nat]; omega)) ?_
           rintro _ _ _ hM ⟨A36a, n36a, c36a, m36a, A36a_, n36a_, c36a_, rfl, h36a, hb⟩
           have hs36 := szR_divInt2 (((parseZ (cutTop s)).1)) ((num (cutRest s) : Int))
           refine ⟨_, _, _, rfl, hb, (hM.call hb).add h36a, ?_⟩
           refine GD.ev (.agg #[.slice A36a n36a c36a, .bool m36a, .slice A36a_ n36a_ c36a_]) ?_
           refine GD.ev (.int .i64 0) ?_
           refine GD.st (fun _ _ => Mem.st1) (fun _ hM => store_all (cs' := #[.slice A36a n36a c36a, .bool m36a, .slice A36a_ n36a_ c36a_]) siz48 (hM.b 1 rfl) (by kernel_rfl) (by kernel_rfl) rfl rfl rfl) ?_
           refine GD.v (.int .i64 0) ?_
           refine GD.k k1 ?_
           refine CG.ret (QG.ret (fun _ hM => results_two rfl (res_cell rfl (loadVar_agg agg48 siz48 (hM.b 1 rfl) rfl rfl)) (res_tmp rfl)) ?_)
           intro _ hM
           exact ⟨_, _, _, _, _, _, _, (by rw [(congrArg Prod.snd (parseR_frac (s := s) (by omega) hc26 hc27 hc28 hc30))] <;> rfl), ((show (Rat.divInt ((parseZ (cutTop s)).1) (num (cutRest s) : Int) : Rat) = (parseR s).1 from (congrArg Prod.fst (parseR_frac (s := s) (by omega) hc26 hc27 hc28 hc30)).symm) ▸ (hM.out (hM.f 0 rfl))), hM.below⟩
       · have hk28 : (isDs (cutRest s)) = false := by simpa using hc28
         refine CG.lin 10 ?_
         refine GL.v (.int .i64 ((parseZ (cutTop s)).2)) ?_
         refine GL.v (.bool false) ?_ (hr := fun u => op_b (b := (((parseZ (cutTop s)).2) != (0 : Int))) (by kernel_rfl) hk26)
         refine GL.v (.bool false) ?_
         refine GL.v (.bool true) ?_ (hr := fun u => op_b (b := (s.contains 47)) (by kernel_rfl) hk27)
         refine GL.v (.bool true) ?_
         refine GL.v (.string (bs (cutRest s))) ?_
         refine GL.call (fun _ hM => isDigits_ok hM.avlt (cutRest s) (by first | assumption | omega)) ?_
         rintro _ _ _ hM ⟨rfl, hb⟩
         refine ⟨.bool false, _, _, (ret_bool hk28), hM.call hb, ?_⟩
         refine GL.v (.bool true) ?_
         refine GL.v (.bool true) ?_
         refine GL.v (.bool true) ?_
         refine GL.k k2 ?_
         refine CG.yes ?_ rfl rfl
         refine CG.seq fun K_ k2 => ?_
         refine CG.lin 3 ?_
         refine GL.v (.agg #[.slice none 0 0, .bool false, .slice none 0 0]) ?_
         refine GL.sA (cs' := #[.slice none 0 0, .bool false, .slice none 0 0]) (fun _ _ => Mem.st1) (fun _ hM => hM.b 1 rfl) siz48 ?_
         refine GL.v (.int .i64 4) ?_
         refine GL.k k2 ?_
         refine CG.ret (QG.then_ret (QG.ret (fun _ hM => results_two rfl (res_cell rfl (loadVar_agg agg48 siz48 (hM.b 1 rfl) rfl rfl)) (res_tmp rfl)) ?_))
         intro _ hM
         exact ⟨_, _, _, _, _, _, _, (by rw [(congrArg Prod.snd (parseR_bad (s := s) (by omega) hc26 hc27 hc28))] <;> rfl), ((show (0 : Rat) = (parseR s).1 from (congrArg Prod.fst (parseR_bad (s := s) (by omega) hc26 hc27 hc28)).symm) ▸ (hM.out (Rk.nil _ _ none none 0 0))), hM.below⟩
     · have hk27 : (s.contains 47) = false := by simpa using hc27
       refine CG.lin 10 ?_
       refine GL.v (.int .i64 ((parseZ (cutTop s)).2)) ?_
       refine GL.v (.bool false) ?_ (hr := fun u => op_b (b := (((parseZ (cutTop s)).2) != (0 : Int))) (by kernel_rfl) hk26)
       refine GL.v (.bool false) ?_
       refine GL.v (.bool false) ?_ (hr := fun u => op_b (b := (s.contains 47)) (by kernel_rfl) hk27)
       refine GL.v (.bool false) ?_
       refine GL.sk ?_
       refine GL.sk ?_
       refine GL.sk ?_
       refine GL.v (.bool false) ?_
       refine GL.v (.bool false) ?_
       refine GL.k k2 ?_
       refine CG.no ?_ rfl rfl
       refine CG.skip ?_
       refine QG.k k1 ?_
       refine CG.seq fun K_ k1 => ?_
       refine CG.seq fun K_ k2 => ?_
       refine CG.lin 2 ?_
       refine GL.v (.bool false) ?_ (hr := fun u => op_b (b := (s.contains 47)) (by kernel_rfl) hk27)
       refine GL.v (.bool true) ?_
       refine GL.k k2 ?_
       refine CG.yes ?_ rfl rfl
       refine CG.seq fun K_ k2 => ?_
       refine CG.lin 4 ?_
       refine GL.r (.agg #[.slice A24a n24a c24a, .bool m24a]) (fun _ hM => op_load_agg (off := 0) (by kernel_rfl) agg28 siz28 (hM.b 0 rfl) rfl rfl) ?_
       refine GL.call (fun _ hM => Whole_ok hM.avlt (hM.f 0 rfl)) ?_
       rintro _ _ _ hM ⟨A38, n38, c38, m38, A38_, n38_, c38_, rfl, h38, hb⟩
       have hs38 := szR_int (((parseZ (cutTop s)).1))
       refine ⟨_, _, _, rfl, (hM.call hb).add h38, ?_⟩
       refine GL.sA (cs' := #[.slice A38 n38 c38, .bool m38, .slice A38_ n38_ c38_]) (fun _ _ => Mem.st1) (fun _ hM => hM.b 1 rfl) siz48 ?_
       refine GL.v (.int .i64 0) ?_
       refine GL.k k2 ?_
       refine CG.ret (QG.then_ret (QG.ret (fun _ hM => results_two rfl (res_cell rfl (loadVar_agg agg48 siz48 (hM.b 1 rfl) rfl rfl)) (res_tmp rfl)) ?_))
       intro _ hM
       exact ⟨_, _, _, _, _, _, _, (by rw [(congrArg Prod.snd (parseR_int (s := s) (by omega) hc26 hc27))] <;> rfl), ((show ((((parseZ (cutTop s)).1) : Rat) : Rat) = (parseR s).1 from (congrArg Prod.fst (parseR_int (s := s) (by omega) hc26 hc27)).symm) ▸ (hM.out (hM.f 0 rfl))), hM.below⟩

set_option maxRecDepth 100000 in
set_option maxHeartbeats 400000 in
theorem foldadd_ok {w : World} {X : Nat → Prop} {A1 : Option Addr} {n1 : Nat} {c1 : Nat} {l : List Rat} (hX : ∀ k, X k → k < w.heap.size) (h1 : (LKd Rk 48 3).R X w [.slice A1 n1 c1] l) (p1 : ∀ i, i < l.length → szR (foldR (· + ·) (l.take i)) + szR (l.getD i 0) ≤ 68719476736) :
    Calls Tryd.prog 62 #[.slice A1 n1 c1, .func (.func 58) #[] #[]] w (fun e w' => ∃ Ar nr cr mr Ar_ nr_ cr_, e = .returned (.agg #[.slice Ar nr cr, .bool mr, .slice Ar_ nr_ cr_]) ∧ Rk.R X w' [.slice Ar nr cr, .bool mr, .slice Ar_ nr_ cr_] (foldR (· + ·) l) ∧ Below w.heap.size w w') := by
 have hM := (Mem.start hX).add0 h1
 have hl := LKd.len h1
 have hl2 := LKd.le h1
 refine calls_of hM Tryd.func62 Tryd.ntmps62 ?_
 refine CG.seq fun K_ k1 => ?_
 refine CG.lin 1 ?_
 refine GL.aA zer48 fun g21 => ?_
 refine GL.k k1 ?_
 refine CG.seq fun K_ k1 => ?_
 refine CG.lin 1 ?_
 refine GL.aA zer48 fun g22 => ?_
 refine GL.k k1 ?_
 refine CG.seq fun K_ k1 => ?_
 refine CG.seq fun K_ k2 => ?_
 refine CG.lin 3 ?_
 refine GL.v (.slice A1 n1 c1) ?_
 refine GL.v (.int .i64 (n1 : Int)) ?_
 refine GL.v (.int .i64 0) ?_
 refine GL.k k2 ?_
 refine CG.block ?_
 refine CG.loop (fun m_ a_ u_ => ∃ (Ao : Option Addr) (no : Nat) (co : Nat) (mo : Bool) (Ao_ : Option Addr) (no_ : Nat) (co_ : Nat) (o : Rat) (i : Nat) (j23 : Nat → Value), a_ = ⟨#[.slice A1 n1 c1, .func (.func 58) #[] #[], undef, undef, .pointer (some ⟨g21, 0, none⟩), .pointer (some ⟨g22, 0, none⟩), (j23 6), (j23 7), .slice A1 n1 c1, .int .i64 (n1 : Int), .int .i64 (i : Int), (j23 11), (j23 12), (j23 13), (j23 14), (j23 15), (j23 16), (j23 17), (j23 18), (j23 19), (j23 20), (j23 21), (j23 22), undef], []⟩ ∧ m_ = l.length - i ∧ Mem w [] X u_ [.box g22 #[.slice Ao no co, .bool mo, .slice Ao_ no_ co_] 48, .box g21 #[.slice none 0 0, .bool false, .slice none 0 0] 48] [⟨Rk, [.slice Ao no co, .bool mo, .slice Ao_ no_ co_], o⟩, ⟨(LKd Rk 48 3), [.slice A1 n1 c1], l⟩] ∧ (i ≤ l.length) ∧ (o = foldR (· + ·) (l.take i))) (fun _ hM => ⟨_, none, 0, 0, false, none, 0, 0, 0, 0, (fun t => (#[.slice A1 n1 c1, .func (.func 58) #[] #[], undef, undef, .pointer (some ⟨g21, 0, none⟩), .pointer (some ⟨g22, 0, none⟩), undef, undef, .slice A1 n1 c1, .int .i64 (n1 : Int), .int .i64 0, undef, undef, undef, undef, undef, undef, undef, undef, undef, undef, undef, undef, undef] : Array Value).getD t undef), (by kernel_rfl), rfl, ((hM.clr).add (hM.f 0 rfl)).add (Rk.nil _ _ none none 0 0), (by omega), rfl⟩) ?_
 rintro m_ a_ u_ ⟨Ao, no, co, mo, Ao_, no_, co_, o, i, j23, rfl, hm23, hM, hi, ho⟩
 refine CG.go hM ?_
 refine CG.seq fun K_ k2 => ?_
 refine CG.lin 1 ?_
 refine GL.v (.bool (decide ((i : Int) < (n1 : Int)))) ?_
 refine GL.k k2 ?_
 refine CG.seq fun K_ k2 => ?_
 by_cases hc24 : (i : Int) < (n1 : Int)
 · have hk24 : (decide ((i : Int) < (n1 : Int))) = true := decide_eq_true hc24
   refine CG.yes ?_ hk24 rfl
   refine CG.skip ?_
   refine QG.k k2 ?_
   refine CG.seq fun K_ k2 => ?_
   refine CG.block ?_
   refine CG.seq fun K_ k3 => ?_
   refine CG.lin 6 ?_
   refine GL.v (.int .i64 (i : Int)) ?_
   refine GL.r (elemPtr A1 (i * 3)) (fun _ hM => op_index_k rowk89 (by decide) (kd := .i64) (i := (i : Int)) i (by kernel_rfl) (by kernel_rfl) (by omega) (by omega) (hM.f 1 rfl) _) ?_
   refine GL.exR (x := l.getD i 0) (fun _ hM => op_load_k rowk89 (by decide) (by kernel_rfl) (hM.f 1 rfl) (by omega) (getD_at _ (by have := LKd.len (hM.f 1 rfl); omega))) fun A25 n25 c25 m25 A25_ n25_ c25_ => ?_
   refine GL.aA zer48 fun g26 => ?_
   refine GL.v (.int .i64 (i : Int)) ?_
   refine GL.sA (cs' := #[.slice A25 n25 c25, .bool m25, .slice A25_ n25_ c25_]) (fun _ _ => Mem.st0) (fun _ hM => hM.b 0 rfl) siz48 ?_
   refine GL.k k3 ?_
   refine CG.seq fun K_ k3 => ?_
   refine CG.lin 2 ?_
   refine GL.v (.int .i64 (i : Int)) ?_
   refine GL.v (.bool ((i : Int) == (0 : Int))) ?_
   refine GL.k k3 ?_
   by_cases hc27 : (i : Int) = (0 : Int)
   · have hk27 : ((i : Int) == (0 : Int)) = true := beq_iff_eq.2 hc27
     refine CG.yes ?_ hk27 rfl
     refine CG.lin 2 ?_
     refine GL.r (.agg #[.slice A25 n25 c25, .bool m25, .slice A25_ n25_ c25_]) (fun _ hM => op_load_agg (off := 0) (by kernel_rfl) agg48 siz48 (hM.b 0 rfl) rfl rfl) ?_
     refine GL.sA (cs' := #[.slice A25 n25 c25, .bool m25, .slice A25_ n25_ c25_]) (fun _ _ => Mem.st1) (fun _ hM => hM.b 1 rfl) siz48 ?_
     refine GL.q ?_
     refine QG.block ?_
     refine QG.k k2 ?_
     refine CG.lin 2 ?_
     refine GL.v (.int .i64 ((i + 1 : Nat) : Int)) ?_ (hr := fun u => op_to (v := .int .i64 (IntKind.wrap .i64 ((i : Int) + (1 : Int)))) (by kernel_rfl) (wrap_i64 (by omega) (by omega) (by omega)))
     refine GL.v (.int .i64 ((i + 1 : Nat) : Int)) ?_
     refine GL.q ?_
     refine QG.again fun _ hM => ?_
     exact ⟨l.length - (i + 1), (by omega), A25, n25, c25, m25, A25_, n25_, c25_, (l.getD i 0), (i + 1), (fun t => (#[.slice A1 n1 c1, .func (.func 58) #[] #[], undef, undef, .pointer (some ⟨g21, 0, none⟩), .pointer (some ⟨g22, 0, none⟩), .int .i64 (i : Int), .pointer (some ⟨g26, 0, none⟩), .slice A1 n1 c1, .int .i64 (n1 : Int), .int .i64 ((i + 1 : Nat) : Int), .bool (decide ((i : Int) < (n1 : Int))), .int .i64 (i : Int), elemPtr A1 (i * 3), .agg #[.slice A25 n25 c25, .bool m25, .slice A25_ n25_ c25_], .int .i64 (i : Int), .bool ((i : Int) == (0 : Int)), .agg #[.slice A25 n25 c25, .bool m25, .slice A25_ n25_ c25_], (j23 18), (j23 19), (j23 20), (j23 21), .int .i64 ((i + 1 : Nat) : Int), undef] : Array Value).getD t undef), (by kernel_rfl), rfl, (((hM.dropn 1).clr).add ((hM.dropn 1).f 2 rfl)).add ((hM.dropn 1).f 0 rfl), (by omega), (fold_first (by omega) (by omega))⟩
   · have hk27 : ((i : Int) == (0 : Int)) = false := beq_eq_false_iff_ne.2 hc27
     refine CG.no ?_ hk27 rfl
     refine CG.lin 5 ?_
     refine GL.v (.func (.func 58) #[] #[]) ?_
     refine GL.r (.agg #[.slice Ao no co, .bool mo, .slice Ao_ no_ co_]) (fun _ hM => op_load_agg (off := 0) (by kernel_rfl) agg48 siz48 (hM.b 1 rfl) rfl rfl) ?_
     refine GL.r (.agg #[.slice A25 n25 c25, .bool m25, .slice A25_ n25_ c25_]) (fun _ hM => op_load_agg (off := 0) (by kernel_rfl) agg48 siz48 (hM.b 0 rfl) rfl rfl) ?_
     refine GL.call (fun _ hM => RAdd_ok hM.avlt (hM.f 1 rfl) (hM.f 0 rfl) (by rw [ho]; exact p1 i (by omega))) ?_
     rintro _ _ _ hM ⟨A28, n28, c28, m28, A28_, n28_, c28_, rfl, h28, hb⟩
     have hs28 := szR_add o (l.getD i 0)
     refine ⟨_, _, _, rfl, (hM.call hb).add h28, ?_⟩
     refine GL.sA (cs' := #[.slice A28 n28 c28, .bool m28, .slice A28_ n28_ c28_]) (fun _ _ => Mem.st1) (fun _ hM => hM.b 1 rfl) siz48 ?_
     refine GL.q ?_
     refine QG.block ?_
     refine QG.k k2 ?_
     refine CG.lin 2 ?_
     refine GL.v (.int .i64 ((i + 1 : Nat) : Int)) ?_ (hr := fun u => op_to (v := .int .i64 (IntKind.wrap .i64 ((i : Int) + (1 : Int)))) (by kernel_rfl) (wrap_i64 (by omega) (by omega) (by omega)))
     refine GL.v (.int .i64 ((i + 1 : Nat) : Int)) ?_
     refine GL.q ?_
     refine QG.again fun _ hM => ?_
     exact ⟨l.length - (i + 1), (by omega), A28, n28, c28, m28, A28_, n28_, c28_, (o + (l.getD i 0)), (i + 1), (fun t => (#[.slice A1 n1 c1, .func (.func 58) #[] #[], undef, undef, .pointer (some ⟨g21, 0, none⟩), .pointer (some ⟨g22, 0, none⟩), .int .i64 (i : Int), .pointer (some ⟨g26, 0, none⟩), .slice A1 n1 c1, .int .i64 (n1 : Int), .int .i64 ((i + 1 : Nat) : Int), .bool (decide ((i : Int) < (n1 : Int))), .int .i64 (i : Int), elemPtr A1 (i * 3), .agg #[.slice A25 n25 c25, .bool m25, .slice A25_ n25_ c25_], .int .i64 (i : Int), .bool ((i : Int) == (0 : Int)), (j23 17), .func (.func 58) #[] #[], .agg #[.slice Ao no co, .bool mo, .slice Ao_ no_ co_], .agg #[.slice A25 n25 c25, .bool m25, .slice A25_ n25_ c25_], .agg #[.slice A28 n28 c28, .bool m28, .slice A28_ n28_ c28_], .int .i64 ((i + 1 : Nat) : Int), undef] : Array Value).getD t undef), (by kernel_rfl), rfl, (((hM.dropn 1).clr).add ((hM.dropn 1).f 3 rfl)).add ((hM.dropn 1).f 0 rfl), (by omega), (fold_more (f := (· + ·)) (by omega) (by omega) ho)⟩
 · have hk24 : (decide ((i : Int) < (n1 : Int))) = false := decide_eq_false hc24
   refine CG.no ?_ hk24 rfl
   refine CG.exit (QG.then_exit (QG.then_exit (QG.here ?_)))
   refine QG.k k1 ?_
   refine CG.seq fun K_ k1 => ?_
   refine CG.lin 2 ?_
   refine GL.r (.agg #[.slice Ao no co, .bool mo, .slice Ao_ no_ co_]) (fun _ hM => op_load_agg (off := 0) (by kernel_rfl) agg48 siz48 (hM.b 0 rfl) rfl rfl) ?_
   refine GL.sA (cs' := #[.slice Ao no co, .bool mo, .slice Ao_ no_ co_]) (fun _ _ => Mem.st1) (fun _ hM => hM.b 1 rfl) siz48 ?_
   refine GL.k k1 ?_
   refine CG.ret (QG.ret (fun _ hM => results_one rfl (res_cell rfl (loadVar_agg agg48 siz48 (hM.b 1 rfl) rfl rfl))) ?_)
   intro _ hM
   exact ⟨_, _, _, _, _, _, _, rfl, ((show o = foldR (· + ·) l by rw [ho, show i = l.length by omega, List.take_length]) ▸ (hM.out (hM.f 0 rfl))), hM.below⟩

set_option maxRecDepth 100000 in
set_option maxHeartbeats 400000 in
theorem Sum_ok {w : World} {X : Nat → Prop} {A1 : Option Addr} {n1 : Nat} {c1 : Nat} {l : List Rat} (hX : ∀ k, X k → k < w.heap.size) (h1 : (LKd Rk 48 3).R X w [.slice A1 n1 c1] l) (p1 : ∀ i, i < l.length → szR (foldR (· + ·) (l.take i)) + szR (l.getD i 0) ≤ 68719476736) :
    Calls Tryd.prog 42 #[.slice A1 n1 c1] w (fun e w' => ∃ Ar nr cr mr Ar_ nr_ cr_, e = .returned (.agg #[.slice Ar nr cr, .bool mr, .slice Ar_ nr_ cr_]) ∧ Rk.R X w' [.slice Ar nr cr, .bool mr, .slice Ar_ nr_ cr_] (foldR (· + ·) l) ∧ Below w.heap.size w w') := by
 have hM := (Mem.start hX).add0 h1
 refine calls_of hM Tryd.func42 Tryd.ntmps42 ?_
 refine CG.seq fun K_ k1 => ?_
 refine CG.lin 1 ?_
 refine GL.aA zer48 fun g21 => ?_
 refine GL.k k1 ?_
 refine CG.seq fun K_ k1 => ?_
 refine CG.lin 3 ?_
 refine GL.v (.slice A1 n1 c1) ?_
 refine GL.call (fun _ hM => foldadd_ok hM.avlt (hM.f 0 rfl) (by first | assumption | omega)) ?_
 rintro _ _ _ hM ⟨A22, n22, c22, m22, A22_, n22_, c22_, rfl, h22, hb⟩
 refine ⟨_, _, _, rfl, (hM.call hb).add h22, ?_⟩
 refine GL.sA (cs' := #[.slice A22 n22 c22, .bool m22, .slice A22_ n22_ c22_]) (fun _ _ => Mem.st0) (fun _ hM => hM.b 0 rfl) siz48 ?_
 refine GL.k k1 ?_
 refine CG.ret (QG.ret (fun _ hM => results_one rfl (res_cell rfl (loadVar_agg agg48 siz48 (hM.b 0 rfl) rfl rfl))) ?_)
 intro _ hM
 exact ⟨_, _, _, _, _, _, _, rfl, (hM.out (hM.f 0 rfl)), hM.below⟩

set_option maxRecDepth 100000 in
set_option maxHeartbeats 400000 in
theorem Ratio_zero {w : World} {X : Nat → Prop} (hX : ∀ k, X k → k < w.heap.size) (n : Int) (d : Int) (p1 : d = 0) (p2 : -9223372036854775808 ≤ n ∧ n ≤ 9223372036854775807) (p3 : -9223372036854775808 ≤ d ∧ d ≤ 9223372036854775807) :
    Calls Tryd.prog 19 #[.int .i64 n, .int .i64 d] w (fun e w' => ∃ Ar1 nr1 cr1 mr1 Ar1_ nr1_ cr1_, e = .returned (.tuple #[.agg #[.slice Ar1 nr1 cr1, .bool mr1, .slice Ar1_ nr1_ cr1_], .int .i64 9]) ∧ Rk.R X w' [.slice Ar1 nr1 cr1, .bool mr1, .slice Ar1_ nr1_ cr1_] 0 ∧ Below w.heap.size w w') := by
 have hM := Mem.start hX
 refine calls_of hM Tryd.func19 Tryd.ntmps19 ?_
 refine CG.seq fun K_ k1 => ?_
 refine CG.lin 2 ?_
 refine GL.aA zer48 fun g21 => ?_
 refine GL.v (.int .i64 0) ?_
 refine GL.k k1 ?_
 refine CG.seq fun K_ k1 => ?_
 refine CG.lin 9 ?_
 refine GL.v (.int .i64 n) ?_
 refine GL.call (fun _ hM => Int_ok hM.avlt n (by first | assumption | omega)) ?_
 rintro _ _ _ hM ⟨A22, n22, c22, m22, rfl, h22, hb⟩
 have hs22 := sz_i64 n (by omega)
 refine ⟨_, _, _, rfl, (hM.call hb).add h22, ?_⟩
 refine GL.v (.int .i64 d) ?_
 refine GL.call (fun _ hM => Int_ok hM.avlt d (by first | assumption | omega)) ?_
 rintro _ _ _ hM ⟨A23, n23, c23, m23, rfl, h23, hb⟩
 have hs23 := sz_i64 d (by omega)
 refine ⟨_, _, _, rfl, (hM.call hb).add h23, ?_⟩
 refine GL.call (fun _ hM => OfZ_zero hM.avlt (hM.f 1 rfl) (hM.f 0 rfl) (by first | assumption | omega)) ?_
 rintro _ _ _ hM ⟨A24a, n24a, c24a, m24a, A24a_, n24a_, c24a_, rfl, h24a, hb⟩
 refine ⟨_, _, _, rfl, (hM.call hb).add h24a, ?_⟩
 refine GL.v (.agg #[.slice A24a n24a c24a, .bool m24a, .slice A24a_ n24a_ c24a_]) ?_
 refine GL.v (.int .i64 9) ?_
 refine GL.sA (cs' := #[.slice A24a n24a c24a, .bool m24a, .slice A24a_ n24a_ c24a_]) (fun _ _ => Mem.st0) (fun _ hM => hM.b 0 rfl) siz48 ?_
 refine GL.v (.int .i64 9) ?_
 refine GL.k k1 ?_
 refine CG.ret (QG.ret (fun _ hM => results_two rfl (res_cell rfl (loadVar_agg agg48 siz48 (hM.b 0 rfl) rfl rfl)) (res_tmp rfl)) ?_)
 intro _ hM
 exact ⟨_, _, _, _, _, _, _, rfl, (hM.out (hM.f 0 rfl)), hM.below⟩

set_option maxRecDepth 100000 in
set_option maxHeartbeats 400000 in
theorem Dot_ok {w : World} {X : Nat → Prop} {A1 : Option Addr} {n1 : Nat} {c1 : Nat} {m1 : Bool} {A1_ : Option Addr} {n1_ : Nat} {c1_ : Nat} {A1z : Option Addr} {n1z : Nat} {c1z : Nat} {m1z : Bool} {A1z_ : Option Addr} {n1z_ : Nat} {c1z_ : Nat} {a : Rat × Rat} {A2 : Option Addr} {n2 : Nat} {c2 : Nat} {m2 : Bool} {A2_ : Option Addr} {n2_ : Nat} {c2_ : Nat} {A2z : Option Addr} {n2z : Nat} {c2z : Nat} {m2z : Bool} {A2z_ : Option Addr} {n2z_ : Nat} {c2z_ : Nat} {b : Rat × Rat} (hX : ∀ k, X k → k < w.heap.size) (h1 : Vk.R X w [.slice A1 n1 c1, .bool m1, .slice A1_ n1_ c1_, .slice A1z n1z c1z, .bool m1z, .slice A1z_ n1z_ c1z_] a) (h2 : Vk.R X w [.slice A2 n2 c2, .bool m2, .slice A2_ n2_ c2_, .slice A2z n2z c2z, .bool m2z, .slice A2z_ n2z_ c2z_] b) (p1 : szR a.1 + szR b.1 + (szR a.2 + szR b.2) ≤ 68719476736) :
    Calls Tryd.prog 31 #[.agg #[.slice A1 n1 c1, .bool m1, .slice A1_ n1_ c1_, .slice A1z n1z c1z, .bool m1z, .slice A1z_ n1z_ c1z_], .agg #[.slice A2 n2 c2, .bool m2, .slice A2_ n2_ c2_, .slice A2z n2z c2z, .bool m2z, .slice A2z_ n2z_ c2z_]] w (fun e w' => ∃ Ar nr cr mr Ar_ nr_ cr_, e = .returned (.agg #[.slice Ar nr cr, .bool mr, .slice Ar_ nr_ cr_]) ∧ Rk.R X w' [.slice Ar nr cr, .bool mr, .slice Ar_ nr_ cr_] (a.1 * b.1 + a.2 * b.2) ∧ Below w.heap.size w w') := by
 have hM := ((Mem.start hX).add0 h1).add0 h2
 refine calls_of hM Tryd.func31 Tryd.ntmps31 ?_
 refine CG.seq fun K_ k1 => ?_
 refine CG.lin 3 ?_
 refine GL.bA #[.slice A1 n1 c1, .bool m1, .slice A1_ n1_ c1_, .slice A1z n1z c1z, .bool m1z, .slice A1z_ n1z_ c1z_] fun g21 => ?_
 refine GL.bA #[.slice A2 n2 c2, .bool m2, .slice A2_ n2_ c2_, .slice A2z n2z c2z, .bool m2z, .slice A2z_ n2z_ c2z_] fun g22 => ?_
 refine GL.aA zer48 fun g23 => ?_
 refine GL.k k1 ?_
 refine CG.seq fun K_ k1 => ?_
 refine CG.draw [] [0, 1, 2, 3, 5, 6, 7, 8] (.step 0 (.step 1 (.step 2 (.step 3 (.step 5 (.step 6 (.step 7 (.step 8 (.step 4 (.step 9 (.step 10 (.step 11 .done)))))))))))) (fun V hV24 => ?_)
 refine GD.ev (.pointer (some ⟨g21, 0, none⟩)) ?_
 refine GD.er (.agg #[.slice A1 n1 c1, .bool m1, .slice A1_ n1_ c1_]) (fun _ hS => op_load_agg (off := 0) (by kernel_rfl) agg48 siz48 (hV24.bS 2 rfl hS) rfl rfl) ?_
 refine GD.ev (.pointer (some ⟨g22, 0, none⟩)) ?_
 refine GD.er (.agg #[.slice A2 n2 c2, .bool m2, .slice A2_ n2_ c2_]) (fun _ hS => op_load_agg (off := 0) (by kernel_rfl) agg48 siz48 (hV24.bS 1 rfl hS) rfl rfl) ?_
 refine GD.ev (.pointer (some ⟨g21, 3, none⟩)) ?_
 refine GD.er (.agg #[.slice A1z n1z c1z, .bool m1z, .slice A1z_ n1z_ c1z_]) (fun _ hS => op_load_agg (off := 3) (by kernel_rfl) agg48 siz48 (hV24.bS 2 rfl hS) rfl rfl) ?_
 refine GD.ev (.pointer (some ⟨g22, 3, none⟩)) ?_
 refine GD.er (.agg #[.slice A2z n2z c2z, .bool m2z, .slice A2z_ n2z_ c2z_]) (fun _ hS => op_load_agg (off := 3) (by kernel_rfl) agg48 siz48 (hV24.bS 1 rfl hS) rfl rfl) ?_
 refine GD.call (fun _ hM => RMul_ok hM.avlt (Vk.fst (hM.f 1 rfl)) (Vk.fst (hM.f 0 rfl)) (by first | assumption | omega | (dsimp only; omega))) ?_
 rintro _ _ _ hM ⟨A25, n25, c25, m25, A25_, n25_, c25_, rfl, h25, hb⟩
 have hs25 := szR_mul a.1 b.1
 refine ⟨_, _, _, rfl, hb, (hM.call hb).add h25, ?_⟩
 refine GD.call (fun _ hM => RMul_ok hM.avlt (Vk.snd (hM.f 2 rfl)) (Vk.snd (hM.f 1 rfl)) (by first | assumption | omega | (dsimp only; omega))) ?_
 rintro _ _ _ hM ⟨A26, n26, c26, m26, A26_, n26_, c26_, rfl, h26, hb⟩
 have hs26 := szR_mul a.2 b.2
 refine ⟨_, _, _, rfl, hb, (hM.call hb).add h26, ?_⟩
 refine GD.call (fun _ hM => RAdd_ok hM.avlt (hM.f 1 rfl) (hM.f 0 rfl) (by first | assumption | omega | (dsimp only; omega))) ?_
 rintro _ _ _ hM ⟨A27, n27, c27, m27, A27_, n27_, c27_, rfl, h27, hb⟩
 have hs27 := szR_add (a.1 * b.1) (a.2 * b.2)
 refine ⟨_, _, _, rfl, hb, (hM.call hb).add h27, ?_⟩
 refine GD.st (fun _ _ => Mem.st0) (fun _ hM => store_all (cs' := #[.slice A27 n27 c27, .bool m27, .slice A27_ n27_ c27_]) siz48 (hM.b 0 rfl) (by kernel_rfl) (by kernel_rfl) rfl rfl rfl) ?_
 refine GD.k k1 ?_
 refine CG.ret (QG.ret (fun _ hM => results_one rfl (res_cell rfl (loadVar_agg agg48 siz48 (hM.b 0 rfl) rfl rfl))) ?_)
 intro _ hM
 exact ⟨_, _, _, _, _, _, _, rfl, (hM.out (hM.f 0 rfl)), hM.below⟩

set_option maxRecDepth 100000 in
set_option maxHeartbeats 400000 in
theorem Cross_ok {w : World} {X : Nat → Prop} {A1 : Option Addr} {n1 : Nat} {c1 : Nat} {m1 : Bool} {A1_ : Option Addr} {n1_ : Nat} {c1_ : Nat} {A1z : Option Addr} {n1z : Nat} {c1z : Nat} {m1z : Bool} {A1z_ : Option Addr} {n1z_ : Nat} {c1z_ : Nat} {a : Rat × Rat} {A2 : Option Addr} {n2 : Nat} {c2 : Nat} {m2 : Bool} {A2_ : Option Addr} {n2_ : Nat} {c2_ : Nat} {A2z : Option Addr} {n2z : Nat} {c2z : Nat} {m2z : Bool} {A2z_ : Option Addr} {n2z_ : Nat} {c2z_ : Nat} {b : Rat × Rat} (hX : ∀ k, X k → k < w.heap.size) (h1 : Vk.R X w [.slice A1 n1 c1, .bool m1, .slice A1_ n1_ c1_, .slice A1z n1z c1z, .bool m1z, .slice A1z_ n1z_ c1z_] a) (h2 : Vk.R X w [.slice A2 n2 c2, .bool m2, .slice A2_ n2_ c2_, .slice A2z n2z c2z, .bool m2z, .slice A2z_ n2z_ c2z_] b) (p1 : szR a.1 + szR b.1 + (szR a.2 + szR b.2) ≤ 68719476736) :
    Calls Tryd.prog 30 #[.agg #[.slice A1 n1 c1, .bool m1, .slice A1_ n1_ c1_, .slice A1z n1z c1z, .bool m1z, .slice A1z_ n1z_ c1z_], .agg #[.slice A2 n2 c2, .bool m2, .slice A2_ n2_ c2_, .slice A2z n2z c2z, .bool m2z, .slice A2z_ n2z_ c2z_]] w (fun e w' => ∃ Ar nr cr mr Ar_ nr_ cr_, e = .returned (.agg #[.slice Ar nr cr, .bool mr, .slice Ar_ nr_ cr_]) ∧ Rk.R X w' [.slice Ar nr cr, .bool mr, .slice Ar_ nr_ cr_] (a.1 * b.2 - a.2 * b.1) ∧ Below w.heap.size w w') := by
 have hM := ((Mem.start hX).add0 h1).add0 h2
 refine calls_of hM Tryd.func30 Tryd.ntmps30 ?_
 refine CG.seq fun K_ k1 => ?_
 refine CG.lin 3 ?_
 refine GL.bA #[.slice A1 n1 c1, .bool m1, .slice A1_ n1_ c1_, .slice A1z n1z c1z, .bool m1z, .slice A1z_ n1z_ c1z_] fun g21 => ?_
 refine GL.bA #[.slice A2 n2 c2, .bool m2, .slice A2_ n2_ c2_, .slice A2z n2z c2z, .bool m2z, .slice A2z_ n2z_ c2z_] fun g22 => ?_
 refine GL.aA zer48 fun g23 => ?_
 refine GL.k k1 ?_
 refine CG.seq fun K_ k1 => ?_
 refine CG.draw [] [0, 1, 2, 3, 5, 6, 7, 8] (.step 0 (.step 1 (.step 2 (.step 3 (.step 5 (.step 6 (.step 7 (.step 8 (.step 4 (.step 9 (.step 10 (.step 11 .done)))))))))))) (fun V hV24 => ?_)
 refine GD.ev (.pointer (some ⟨g21, 0, none⟩)) ?_
 refine GD.er (.agg #[.slice A1 n1 c1, .bool m1, .slice A1_ n1_ c1_]) (fun _ hS => op_load_agg (off := 0) (by kernel_rfl) agg48 siz48 (hV24.bS 2 rfl hS) rfl rfl) ?_
 refine GD.ev (.pointer (some ⟨g22, 3, none⟩)) ?_
 refine GD.er (.agg #[.slice A2z n2z c2z, .bool m2z, .slice A2z_ n2z_ c2z_]) (fun _ hS => op_load_agg (off := 3) (by kernel_rfl) agg48 siz48 (hV24.bS 1 rfl hS) rfl rfl) ?_
 refine GD.ev (.pointer (some ⟨g21, 3, none⟩)) ?_
 refine GD.er (.agg #[.slice A1z n1z c1z, .bool m1z, .slice A1z_ n1z_ c1z_]) (fun _ hS => op_load_agg (off := 3) (by kernel_rfl) agg48 siz48 (hV24.bS 2 rfl hS) rfl rfl) ?_
 refine GD.ev (.pointer (some ⟨g22, 0, none⟩)) ?_
 refine GD.er (.agg #[.slice A2 n2 c2, .bool m2, .slice A2_ n2_ c2_]) (fun _ hS => op_load_agg (off := 0) (by kernel_rfl) agg48 siz48 (hV24.bS 1 rfl hS) rfl rfl) ?_
 refine GD.call (fun _ hM => RMul_ok hM.avlt (Vk.fst (hM.f 1 rfl)) (Vk.snd (hM.f 0 rfl)) (by first | assumption | omega | (dsimp only; omega))) ?_
 rintro _ _ _ hM ⟨A25, n25, c25, m25, A25_, n25_, c25_, rfl, h25, hb⟩
 have hs25 := szR_mul a.1 b.2
 refine ⟨_, _, _, rfl, hb, (hM.call hb).add h25, ?_⟩
 refine GD.call (fun _ hM => RMul_ok hM.avlt (Vk.snd (hM.f 2 rfl)) (Vk.fst (hM.f 1 rfl)) (by first | assumption | omega | (dsimp only; omega))) ?_
 rintro _ _ _ hM ⟨A26, n26, c26, m26, A26_, n26_, c26_, rfl, h26, hb⟩
 have hs26 := szR_mul a.2 b.1
 refine ⟨_, _, _, rfl, hb, (hM.call hb).add h26, ?_⟩
 refine GD.call (fun _ hM => RSub_ok hM.avlt (hM.f 1 rfl) (hM.f 0 rfl) (by first | assumption | omega | (dsimp only; omega))) ?_
 rintro _ _ _ hM ⟨A27, n27, c27, m27, A27_, n27_, c27_, rfl, h27, hb⟩
 have hs27 := szR_sub (a.1 * b.2) (a.2 * b.1)
 refine ⟨_, _, _, rfl, hb, (hM.call hb).add h27, ?_⟩
 refine GD.st (fun _ _ => Mem.st0) (fun _ hM => store_all (cs' := #[.slice A27 n27 c27, .bool m27, .slice A27_ n27_ c27_]) siz48 (hM.b 0 rfl) (by kernel_rfl) (by kernel_rfl) rfl rfl rfl) ?_
 refine GD.k k1 ?_
 refine CG.ret (QG.ret (fun _ hM => results_one rfl (res_cell rfl (loadVar_agg agg48 siz48 (hM.b 0 rfl) rfl rfl))) ?_)
 intro _ hM
 exact ⟨_, _, _, _, _, _, _, rfl, (hM.out (hM.f 0 rfl)), hM.below⟩

set_option maxRecDepth 100000 in
set_option maxHeartbeats 400000 in
theorem r_ok {w : World} {X : Nat → Prop} (hX : ∀ k, X k → k < w.heap.size) (s : List UInt8) (p1 : s.length ≤ 4611686018427387904) :
    Calls Tryd.prog 25 #[.string (bs s)] w (fun e w' => ∃ Ar nr cr mr Ar_ nr_ cr_, e = .returned (.agg #[.slice Ar nr cr, .bool mr, .slice Ar_ nr_ cr_]) ∧ Rk.R X w' [.slice Ar nr cr, .bool mr, .slice Ar_ nr_ cr_] ((parseR s).1) ∧ Below w.heap.size w w') := by
 have hM := Mem.start hX
 refine calls_of hM Tryd.func25 Tryd.ntmps25 ?_
 refine CG.seq fun K_ k1 => ?_
 refine CG.lin 1 ?_
 refine GL.aA zer48 fun g21 => ?_
 refine GL.k k1 ?_
 refine CG.seq fun K_ k1 => ?_
 refine CG.lin 8 ?_
 refine GL.v (.string (bs s)) ?_
 refine GL.call (fun _ hM => Parse_ok hM.avlt s (by first | assumption | omega)) ?_
 rintro _ _ _ hM ⟨A22a, n22a, c22a, m22a, A22a_, n22a_, c22a_, rfl, h22a, hb⟩
 have hs22 := parseR_sz s
 refine ⟨_, _, _, rfl, (hM.call hb).add h22a, ?_⟩
 refine GL.v (.tuple #[.agg #[.slice A22a n22a c22a, .bool m22a, .slice A22a_ n22a_ c22a_], .int .i64 ((parseR s).2)]) ?_
 refine GL.v (.agg #[.slice A22a n22a c22a, .bool m22a, .slice A22a_ n22a_ c22a_]) ?_
 refine GL.v (.int .i64 ((parseR s).2)) ?_
 refine GL.aA zer48 fun g23 => ?_
 refine GL.sA (cs' := #[.slice A22a n22a c22a, .bool m22a, .slice A22a_ n22a_ c22a_]) (fun _ _ => Mem.st0) (fun _ hM => hM.b 0 rfl) siz48 ?_
 refine GL.v (.int .i64 ((parseR s).2)) ?_
 refine GL.k k1 ?_
 refine CG.seq fun K_ k1 => ?_
 refine CG.lin 2 ?_
 refine GL.r (.agg #[.slice A22a n22a c22a, .bool m22a, .slice A22a_ n22a_ c22a_]) (fun _ hM => op_load_agg (off := 0) (by kernel_rfl) agg48 siz48 (hM.b 0 rfl) rfl rfl) ?_
 refine GL.sA (cs' := #[.slice A22a n22a c22a, .bool m22a, .slice A22a_ n22a_ c22a_]) (fun _ _ => Mem.st1) (fun _ hM => hM.b 1 rfl) siz48 ?_
 refine GL.k k1 ?_
 refine CG.ret (QG.ret (fun _ hM => results_one rfl (res_cell rfl (loadVar_agg agg48 siz48 (hM.b 1 rfl) rfl rfl))) ?_)
 intro _ hM
 exact ⟨_, _, _, _, _, _, _, rfl, (hM.out (hM.f 0 rfl)), hM.below⟩

set_option maxRecDepth 100000 in
set_option maxHeartbeats 400000 in
theorem z_ok {w : World} {X : Nat → Prop} (hX : ∀ k, X k → k < w.heap.size) (s : List UInt8) (p1 : s.length ≤ 4611686018427387904) :
    Calls Tryd.prog 23 #[.string (bs s)] w (fun e w' => ∃ Ar nr cr mr, e = .returned (.agg #[.slice Ar nr cr, .bool mr]) ∧ Zk.R X w' [.slice Ar nr cr, .bool mr] ((parseZ s).1) ∧ Below w.heap.size w w') := by
 have hM := Mem.start hX
 refine calls_of hM Tryd.func23 Tryd.ntmps23 ?_
 refine CG.seq fun K_ k1 => ?_
 refine CG.lin 1 ?_
 refine GL.aA zer28 fun g21 => ?_
 refine GL.k k1 ?_
 refine CG.seq fun K_ k1 => ?_
 refine CG.lin 8 ?_
 refine GL.v (.string (bs s)) ?_
 refine GL.call (fun _ hM => ParseZ_ok hM.avlt s (by first | assumption | omega)) ?_
 rintro _ _ _ hM ⟨A22a, n22a, c22a, m22a, rfl, h22a, hb⟩
 have hz22 := parseZ_sz s
 refine ⟨_, _, _, rfl, (hM.call hb).add h22a, ?_⟩
 refine GL.v (.tuple #[.agg #[.slice A22a n22a c22a, .bool m22a], .int .i64 ((parseZ s).2)]) ?_
 refine GL.v (.agg #[.slice A22a n22a c22a, .bool m22a]) ?_
 refine GL.v (.int .i64 ((parseZ s).2)) ?_
 refine GL.aA zer28 fun g23 => ?_
 refine GL.sA (cs' := #[.slice A22a n22a c22a, .bool m22a]) (fun _ _ => Mem.st0) (fun _ hM => hM.b 0 rfl) siz28 ?_
 refine GL.v (.int .i64 ((parseZ s).2)) ?_
 refine GL.k k1 ?_
 refine CG.seq fun K_ k1 => ?_
 refine CG.lin 2 ?_
 refine GL.r (.agg #[.slice A22a n22a c22a, .bool m22a]) (fun _ hM => op_load_agg (off := 0) (by kernel_rfl) agg28 siz28 (hM.b 0 rfl) rfl rfl) ?_
 refine GL.sA (cs' := #[.slice A22a n22a c22a, .bool m22a]) (fun _ _ => Mem.st1) (fun _ hM => hM.b 1 rfl) siz28 ?_
 refine GL.k k1 ?_
 refine CG.ret (QG.ret (fun _ hM => results_one rfl (res_cell rfl (loadVar_agg agg28 siz28 (hM.b 1 rfl) rfl rfl))) ?_)
 intro _ hM
 exact ⟨_, _, _, _, rfl, (hM.out (hM.f 0 rfl)), hM.below⟩

set_option maxRecDepth 100000 in
set_option maxHeartbeats 400000 in
theorem awake_ok {w : World} {X : Nat → Prop} (hX : ∀ k, X k → k < w.heap.size) :
    Calls Tryd.prog 12 #[] w (fun e w' => e = .returned (.bool true) ∧ Below w.heap.size w w') := by
 have hM := Mem.start hX
 obtain ⟨hz1, hz2⟩ := aw_szs
 refine calls_of hM Tryd.func12 Tryd.ntmps12 ?_
 refine CG.seq fun K_ k1 => ?_
 refine CG.lin 1 ?_
 refine GL.v (.bool false) ?_
 refine GL.k k1 ?_
 refine CG.seq fun K_ k1 => ?_
 refine CG.lin 12 ?_
 refine GL.call (fun _ hM => Int_ok hM.avlt (-7) (by first | assumption | omega)) ?_
 rintro _ _ _ hM ⟨A21, n21, c21, m21, rfl, h21, hb⟩
 have hs21 := sz_i64 (-7) (by omega)
 refine ⟨_, _, _, rfl, (hM.call hb).add h21, ?_⟩
 refine GL.call (fun _ hM => Int_ok hM.avlt (2) (by first | assumption | omega)) ?_
 rintro _ _ _ hM ⟨A22, n22, c22, m22, rfl, h22, hb⟩
 have hs22 := sz_i64 (2) (by omega)
 refine ⟨_, _, _, rfl, (hM.call hb).add h22, ?_⟩
 refine GL.call (fun _ hM => Quotient_ok hM.avlt (hM.f 1 rfl) (hM.f 0 rfl) (by first | assumption | omega) (by first | assumption | omega)) ?_
 rintro _ _ _ hM ⟨A23a, n23a, c23a, m23a, A23b, n23b, c23b, m23b, rfl, h23a, h23b, hb⟩
 have hs23 := sz_quo (-7) (2)
 have ht23 := sz_rem2 (-7) (2)
 refine ⟨_, _, _, rfl, ((hM.call hb).add h23a).add h23b, ?_⟩
 refine GL.v (.tuple #[.agg #[.slice A23a n23a c23a, .bool m23a], .agg #[.slice A23b n23b c23b, .bool m23b], .int .i64 0]) ?_
 refine GL.v (.agg #[.slice A23a n23a c23a, .bool m23a]) ?_
 refine GL.v (.agg #[.slice A23b n23b c23b, .bool m23b]) ?_
 refine GL.v (.int .i64 0) ?_
 refine GL.aA zer28 fun g24 => ?_
 refine GL.aA zer28 fun g25 => ?_
 refine GL.sA (cs' := #[.slice A23a n23a c23a, .bool m23a]) (fun _ _ => Mem.st1) (fun _ hM => hM.b 1 rfl) siz28 ?_
 refine GL.sA (cs' := #[.slice A23b n23b c23b, .bool m23b]) (fun _ _ => Mem.st0) (fun _ hM => hM.b 0 rfl) siz28 ?_
 refine GL.v (.int .i64 0) ?_
 refine GL.k k1 ?_
 refine CG.seq fun K_ k1 => ?_
 refine CG.lin 7 ?_
 refine GL.call (fun _ hM => Parse_ok hM.avlt [54, 47, 52] (by simp)) ?_
 rintro _ _ _ hM ⟨A26a, n26a, c26a, m26a, A26a_, n26a_, c26a_, rfl, h26a, hb⟩
 have hs26 := parseR_sz ([54, 47, 52])
 refine ⟨_, _, _, rfl, (hM.call hb).add h26a, ?_⟩
 refine GL.v (.tuple #[.agg #[.slice A26a n26a c26a, .bool m26a, .slice A26a_ n26a_ c26a_], .int .i64 ((parseR [54, 47, 52]).2)]) ?_
 refine GL.v (.agg #[.slice A26a n26a c26a, .bool m26a, .slice A26a_ n26a_ c26a_]) ?_
 refine GL.v (.int .i64 ((parseR [54, 47, 52]).2)) ?_
 refine GL.aA zer48 fun g27 => ?_
 refine GL.sA (cs' := #[.slice A26a n26a c26a, .bool m26a, .slice A26a_ n26a_ c26a_]) (fun _ _ => Mem.st0) (fun _ hM => hM.b 0 rfl) siz48 ?_
 refine GL.v (.int .i64 ((parseR [54, 47, 52]).2)) ?_
 refine GL.k k1 ?_
 refine CG.seq fun K_ k1 => ?_
 refine CG.lin 38 ?_
 refine GL.v (.int .i64 0) ?_
 refine GL.v (.bool true) ?_
 refine GL.v (.bool true) ?_
 refine GL.v (.int .i64 ((parseR [54, 47, 52]).2)) ?_
 refine GL.v (.bool true) ?_ (hr := fun u => op_b (b := (((parseR [54, 47, 52]).2) == (0 : Int))) (by kernel_rfl) (beq_iff_eq.2 aw3e))
 refine GL.v (.bool true) ?_
 refine GL.v (.bool true) ?_
 refine GL.r (.agg #[.slice A23a n23a c23a, .bool m23a]) (fun _ hM => op_load_agg (off := 0) (by kernel_rfl) agg28 siz28 (hM.b 2 rfl) rfl rfl) ?_
 refine GL.call (fun _ hM => ZText_ok hM.avlt (hM.f 2 rfl) (by first | assumption | omega)) ?_
 rintro _ _ _ hM ⟨rfl, hb⟩
 have hl28 := decZ_len (((-7) / 2))
 refine ⟨_, _, _, rfl, hM.call hb, ?_⟩
 refine GL.v (.bool true) ?_ (hr := fun u => op_b (b := (decide ((decZ ((-7) / 2)) = [45, 52]))) ((fun u => op_seq (L := decZ ((-7) / 2)) (K := [45, 52]) (by kernel_rfl) (by kernel_rfl)) u) (decide_eq_true (by first | exact aw1 | exact aw2 | exact aw3 | exact aw4 | exact aw5)))
 refine GL.v (.bool true) ?_
 refine GL.v (.bool true) ?_
 refine GL.r (.agg #[.slice A23b n23b c23b, .bool m23b]) (fun _ hM => op_load_agg (off := 0) (by kernel_rfl) agg28 siz28 (hM.b 1 rfl) rfl rfl) ?_
 refine GL.call (fun _ hM => ZText_ok hM.avlt (hM.f 1 rfl) (by first | assumption | omega)) ?_
 rintro _ _ _ hM ⟨rfl, hb⟩
 have hl29 := decZ_len (((-7) % 2))
 refine ⟨_, _, _, rfl, hM.call hb, ?_⟩
 refine GL.v (.bool true) ?_ (hr := fun u => op_b (b := (decide ((decZ ((-7) % 2)) = [49]))) ((fun u => op_seq (L := decZ ((-7) % 2)) (K := [49]) (by kernel_rfl) (by kernel_rfl)) u) (decide_eq_true (by first | exact aw1 | exact aw2 | exact aw3 | exact aw4 | exact aw5)))
 refine GL.v (.bool true) ?_
 refine GL.v (.bool true) ?_
 refine GL.r (.agg #[.slice A26a n26a c26a, .bool m26a, .slice A26a_ n26a_ c26a_]) (fun _ hM => op_load_agg (off := 0) (by kernel_rfl) agg48 siz48 (hM.b 0 rfl) rfl rfl) ?_
 refine GL.call (fun _ hM => RText_ok hM.avlt (hM.f 0 rfl) (by first | assumption | omega | (dsimp only; omega))) ?_
 rintro _ _ _ hM ⟨rfl, hb⟩
 have hl30 := decR_len (((parseR [54, 47, 52]).1))
 refine ⟨_, _, _, rfl, hM.call hb, ?_⟩
 refine GL.v (.bool true) ?_ (hr := fun u => op_b (b := (decide ((decR ((parseR [54, 47, 52]).1)) = [51, 47, 50]))) ((fun u => op_seq (L := decR ((parseR [54, 47, 52]).1)) (K := [51, 47, 50]) (by kernel_rfl) (by kernel_rfl)) u) (decide_eq_true (by first | exact aw1 | exact aw2 | exact aw3 | exact aw4 | exact aw5)))
 refine GL.v (.bool true) ?_
 refine GL.v (.bool true) ?_
 refine GL.call (fun _ hM => Int_ok hM.avlt (-12) (by first | assumption | omega)) ?_
 rintro _ _ _ hM ⟨A31, n31, c31, m31, rfl, h31, hb⟩
 have hs31 := sz_i64 (-12) (by omega)
 refine ⟨_, _, _, rfl, (hM.call hb).add h31, ?_⟩
 refine GL.call (fun _ hM => Int_ok hM.avlt (18) (by first | assumption | omega)) ?_
 rintro _ _ _ hM ⟨A32, n32, c32, m32, rfl, h32, hb⟩
 have hs32 := sz_i64 (18) (by omega)
 refine ⟨_, _, _, rfl, (hM.call hb).add h32, ?_⟩
 refine GL.call (fun _ hM => Gcd_ok hM.avlt (hM.f 1 rfl) (hM.f 0 rfl) (by first | assumption | omega)) ?_
 rintro _ _ _ hM ⟨A33, n33, c33, m33, rfl, h33, hb⟩
 have hs33 := sz_gcd2 (-12) (18)
 refine ⟨_, _, _, rfl, (hM.call hb).add h33, ?_⟩
 refine GL.call (fun _ hM => ZText_ok hM.avlt (hM.f 0 rfl) (by first | assumption | omega)) ?_
 rintro _ _ _ hM ⟨rfl, hb⟩
 have hl34 := decZ_len ((Int.gcd (-12) 18 : Int))
 refine ⟨_, _, _, rfl, hM.call hb, ?_⟩
 refine GL.v (.bool true) ?_ (hr := fun u => op_b (b := (decide ((decZ (Int.gcd (-12) 18 : Int)) = [54]))) ((fun u => op_seq (L := decZ (Int.gcd (-12) 18 : Int)) (K := [54]) (by kernel_rfl) (by kernel_rfl)) u) (decide_eq_true (by first | exact aw1 | exact aw2 | exact aw3 | exact aw4 | exact aw5)))
 refine GL.v (.bool true) ?_
 refine GL.v (.bool true) ?_
 refine GL.call (fun _ hM => r_ok hM.avlt [49, 47, 50] (by simp)) ?_
 rintro _ _ _ hM ⟨A35, n35, c35, m35, A35_, n35_, c35_, rfl, h35, hb⟩
 have hs35 := parseR_sz ([49, 47, 50])
 refine ⟨_, _, _, rfl, (hM.call hb).add h35, ?_⟩
 refine GL.call (fun _ hM => r_ok hM.avlt [49, 47, 51] (by simp)) ?_
 rintro _ _ _ hM ⟨A36, n36, c36, m36, A36_, n36_, c36_, rfl, h36, hb⟩
 have hs36 := parseR_sz ([49, 47, 51])
 refine ⟨_, _, _, rfl, (hM.call hb).add h36, ?_⟩
 refine GL.call (fun _ hM => r_ok hM.avlt [49, 47, 54] (by simp)) ?_
 rintro _ _ _ hM ⟨A37, n37, c37, m37, A37_, n37_, c37_, rfl, h37, hb⟩
 have hs37 := parseR_sz ([49, 47, 54])
 refine ⟨_, _, _, rfl, (hM.call hb).add h37, ?_⟩
 refine GL.lst (K := Rk) (T := 48) (k := 3) (xs := [(parseR [49, 47, 50]).1, (parseR [49, 47, 51]).1, (parseR [49, 47, 54]).1]) (fun u => op_build3 rowk89 rfl (by kernel_rfl) (by kernel_rfl) (by kernel_rfl) u) (fun _ _ _ hM hm hg => LKd.built3 hm hg (by decide) rfl rfl rfl (hM.f 2 rfl) (hM.f 1 rfl) (hM.f 0 rfl)) fun g38 => ?_
 refine GL.call (fun _ hM => Sum_ok hM.avlt (hM.f 0 rfl) aw_sum) ?_
 rintro _ _ _ hM ⟨A39, n39, c39, m39, A39_, n39_, c39_, rfl, h39, hb⟩
 refine ⟨_, _, _, rfl, (hM.call hb).add h39, ?_⟩
 refine GL.call (fun _ hM => RText_ok hM.avlt (hM.f 0 rfl) (by first | assumption | omega | (dsimp only; omega))) ?_
 rintro _ _ _ hM ⟨rfl, hb⟩
 have hl40 := decR_len ((foldR (· + ·) ([(parseR [49, 47, 50]).1, (parseR [49, 47, 51]).1, (parseR [49, 47, 54]).1])))
 refine ⟨_, _, _, rfl, hM.call hb, ?_⟩
 refine GL.v (.bool true) ?_ (hr := fun u => op_b (b := (decide ((decR (foldR (· + ·) ([(parseR [49, 47, 50]).1, (parseR [49, 47, 51]).1, (parseR [49, 47, 54]).1]))) = [49]))) ((fun u => op_seq (L := decR (foldR (· + ·) ([(parseR [49, 47, 50]).1, (parseR [49, 47, 51]).1, (parseR [49, 47, 54]).1]))) (K := [49]) (by kernel_rfl) (by kernel_rfl)) u) (decide_eq_true (by first | exact aw1 | exact aw2 | exact aw3 | exact aw4 | exact aw5)))
 refine GL.v (.bool true) ?_
 refine GL.v (.bool true) ?_
 refine GL.k k1 ?_
 refine CG.ret (QG.ret (fun _ hM => results_one rfl (res_tmp rfl)) ?_)
 intro _ hM
 exact ⟨rfl, hM.below⟩

end Go.Proofs.YtklnjhlidfclmaaDoor
