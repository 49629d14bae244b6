/- Rows of bytes and of strings; parts of strings. -/
import Derived.Test.YtklnjhlidfclmaaGreatDoorStr
set_option linter.unusedVariables false
set_option linter.unusedSimpArgs false
namespace Cps
open Go Go.RowKit

def u8s (xs : List Int) : List Value := xs.map (Value.int .u8)
theorem u8s_set (L : List Int) (j : Nat) (v : Int) : u8s (L.set j v) = (u8s L).set j (.int .u8 v) := by simp [u8s, List.map_set]
theorem u8s_zeros (n : Nat) : u8s (List.replicate n 0) = List.replicate n (.int .u8 0) := by simp [u8s]
def u8l (L : List Int) : List UInt8 := L.map fun v => UInt8.ofNat v.toNat
def strs (xs : List (List UInt8)) : List Value := xs.map fun l => .string (bs l)
theorem strs_append (L M : List (List UInt8)) : strs (L ++ M) = strs L ++ strs M := by simp [strs]
theorem strs_one (L : List (List UInt8)) : ∀ u ∈ strs L, u.oneCell' = true := by
  intro u hu
  simp only [strs, List.mem_map] at hu
  obtain ⟨x, _, rfl⟩ := hu
  rfl
/-- A slice of strings. -/
def SLk : Kd (List (List UInt8)) where
  R X w cs x := match cs with
    | [.slice A n c] => (Row 9 w A n (strs x) ∧ Avoid X A n) ∧ n ≤ c
    | _ => False
  st {X X' w w' cs x} h hs hX := by
    split at h
    · exact ⟨⟨h.1.1.stay h.1.2 hs, h.1.2.stay h.1.1 hX⟩, h.2⟩
    · exact h.elim
theorem SLk.row {X : Nat → Prop} {w : World} {A : Option Addr} {n c : Nat} {x : List (List UInt8)} (h : SLk.R X w [.slice A n c] x) : Row 9 w A n (strs x) := h.1.1
theorem SLk.len {X : Nat → Prop} {w : World} {A : Option Addr} {n c : Nat} {x : List (List UInt8)} (h : SLk.R X w [.slice A n c] x) : x.length = n := by have := h.1.1.1; simpa [strs] using this
theorem SLk.nil (X : Nat → Prop) (w : World) (A : Option Addr) (c : Nat) : SLk.R X w [.slice A 0 c] [] := ⟨⟨Row.nil _ _ _, Avoid.nil X A⟩, Nat.zero_le _⟩
theorem SLk.own {X : Nat → Prop} {w : World} {g n c : Nat} {x : List (List UInt8)} (h : Own 9 w g n c (strs x)) (hx : ¬ X g) : SLk.R X w [.slice (some ⟨g, 0, none⟩) n c] x := ⟨⟨h.row, Avoid.own hx⟩, h.le⟩

section
variable {P : Program} {t e : TypeId} {z : Value} {bytes : Nat} {u : World} {a : Act} {dst : Option Tmp} {ty : TypeId} {pos : String} {af : Array Edge} {gd : Option (Nat × Bool)}
theorem own_made_u8 {g n m : Nat} {u' : World} (hm : Made u g (.cells (madeCells #[.int .u8 0] m) e) u') (hnm : n ≤ m) (h63 : m ≤ 9223372036854775807) : Own e u' g n m (u8s (List.replicate n 0)) := by
  rw [u8s_zeros]; exact own_made hm hnm h63
theorem own_one_str {g : Nat} {l : List UInt8} {u' : World} (hm : Made u g (.cells #[.string (bs l)] e) u') : Own e u' g 1 1 (strs [l]) := own_one hm
theorem op_set_u8 {t' : TypeId} {x y : Operand} {g n c : Nat} {L : List Int} (j : Nat) (v : Int) (hs : ∀ u, (Go.sizeOf t').run P u = .ok 1 u) (hO : Own e u g n c (u8s L)) (hx : a.eval x = elemPtr (some ⟨g, 0, none⟩) j) (hy : a.eval y = .int .u8 v) (hj : j < n) :
    ∃ u', (execOp a.eval ⟨dst, .store t' x y, ty, pos, af, gd⟩).run P u = .ok .skip u' ∧ (∃ cs, Stored u g cs e u') ∧ Own e u' g n c (u8s (L.set j v)) := by
  rw [u8s_set]; exact op_store_elem hx hy hs rfl rfl hO hj
theorem op_append_str (hT : RowT P t e (.string ⟨#[]⟩) bytes) {s x : Operand} {g n c m cx : Nat} {L K : List (List UInt8)} {A : Option Addr} (hO : Own e u g n c (strs L)) (hR : Row e u A m (strs K)) (hs : a.eval s = .slice (some ⟨g, 0, none⟩) n c) (hx : a.eval x = .slice A m cx) (hb : (n + m) * bytes ≤ 140737488355328) (h63 : n + m ≤ 9223372036854775807) :
    ∃ g' c' u', (execOp a.eval ⟨dst, .call { callee := .builtin .append, args := #[s, x], argTypes := #[t, t] }, ty, pos, af, gd⟩).run P u = .ok (.value (.slice (some ⟨g', 0, none⟩) (n + m) c')) u' ∧ Grew u g g' u' ∧ Own e u' g' (n + m) c' (strs (L ++ K)) := by
  rw [strs_append]; exact op_append hT hs hx hO hR (strs_one K) hb h63
/-- The string of a row of bytes. -/
theorem op_b2s {src dt : TypeId} {x : Operand} {g n c : Nat} {L : List Int} (hR : Row e u (some ⟨g, 0, none⟩) n (u8s L)) (hx : a.eval x = .slice (some ⟨g, 0, none⟩) n c) (hs : P.underlying src = some (.slice e)) (he : P.underlying e = some (.int .u8)) (hd : P.underlying dt = some .string) (hL : ∀ v ∈ L, 0 ≤ v ∧ v < 256) :
    (execOp a.eval ⟨dst, .convert src dt x, ty, pos, af, gd⟩).run P u = .ok (.value (.string (bs (u8l L)))) u := by
  have hlen : L.length = n := by have := hR.1; simpa [u8s] using this
  have h := run_convert_bytes_back (P := P) u src dt e ⟨g, 0, none⟩ c (u8l L) hs he hd (fun j hj => by
    have hj' : j < n := by rw [← hlen]; simpa [u8l] using hj
    obtain ⟨ad, had, hc⟩ := hR.at_ j hj'
    cases had
    rw [hc]
    have hjL : j < L.length := by omega
    have hv := hL L[j] (List.getElem_mem hjL)
    simp only [u8s, List.getElem_map, u8l]
    congr 2
    rw [UInt8.toNat_ofNat']; omega)
  rw [show (u8l L).length = n by simp [u8l, hlen]] at h
  simp only [execOp, hx, Sem.run_bind, Sem.run_pure, Result.andThen, h]

variable {L : List UInt8}
theorem bs_extract (L : List UInt8) (i j : Nat) : (bs L).extract i j = bs ((L.drop i).take (j - i)) := by
  have h := Lib.extract_toList (bs L) i j
  rw [Lib.toList_data] at h
  rw [← bs_of ((bs L).extract i j), h]
theorem op_sfrom {x y : Operand} {k : IntKind} {i : Int} (j : Nat) (hx : a.eval x = .string (bs L)) (hy : a.eval y = .int k i) (hi : i = j) (hj : j ≤ L.length) (ht : P.underlying t = some .string) : (execOp a.eval ⟨dst, .slice t x (some y) none none, ty, pos, af, gd⟩).run P u = .ok (.value (.string (bs (L.drop j)))) u := by
  subst hi
  have h := run_slice_string_l (P := P) (w := u) (t := t) (s := bs L) ht k (j : Int) (by omega) (by rw [bs_size]; omega)
  rw [bs_extract, bs_size, Int.toNat_natCast, List.take_of_length_le (by simp)] at h
  have h2 : (Instr.sliceAt t (.string (bs L)) (some (.int k (j : Int))) none none).run P u = .ok (.string (bs (L.drop j))) u := by
    simp only [Instr.sliceAt, Sem.run_bind, run_underlying ht, Result.andThen]; exact h
  simp only [execOp, hx, Option.map_none, Option.map_some, hy, Sem.run_bind, Sem.run_pure, Result.andThen, h2]
theorem op_sto {x y : Operand} {k : IntKind} {i : Int} (j : Nat) (hx : a.eval x = .string (bs L)) (hy : a.eval y = .int k i) (hi : i = j) (hj : j ≤ L.length) (ht : P.underlying t = some .string) : (execOp a.eval ⟨dst, .slice t x none (some y) none, ty, pos, af, gd⟩).run P u = .ok (.value (.string (bs (L.take j)))) u := by
  subst hi
  have h := run_slice_string_h (P := P) (w := u) (t := t) (s := bs L) ht k (j : Int) (by omega) (by rw [bs_size]; omega)
  rw [bs_extract, Int.toNat_natCast, List.drop_zero, Nat.sub_zero] at h
  have h2 : (Instr.sliceAt t (.string (bs L)) none (some (.int k (j : Int))) none).run P u = .ok (.string (bs (L.take j))) u := by
    simp only [Instr.sliceAt, Sem.run_bind, run_underlying ht, Result.andThen]; exact h
  simp only [execOp, hx, Option.map_none, Option.map_some, hy, Sem.run_bind, Sem.run_pure, Result.andThen, h2]
end

section
variable {P : Program} {ops : Array Oper} {Q : Exit → Act → World → Prop} {w V : World} {G Xs E G' : List Nat} {X : Nat → Prop} {L : List Cell} {F F' : List Fa} {a : Act} {i : Nat} {l : Tr}
theorem GD.gn {d : Option Tmp} {op : Op} {ty : TypeId} {pos : String} {af : Array Edge} {gd : Option (Nat × Bool)} {g n' : Nat} {e : TypeId} {xs' : List Value} {L' : Nat → Nat → List Cell} (hg : V.heap.size ≤ g) (f : ∀ u g' c' u', Mem w G X u L F → Grew u g g' u' → Own e u' g' n' c' xs' → Mem w G X u' (L' g' c') F)
    (hr : ∀ u, Mem w G X u L F → ∃ g' c' u', (execOp a.eval ⟨d, op, ty, pos, af, gd⟩).run P u = .ok (.value (.slice (some ⟨g', 0, none⟩) n' c')) u' ∧ Grew u g g' u' ∧ Own e u' g' n' c' xs')
    (h : ∀ g' c', V.heap.size ≤ g' → GD P ops Q V Xs E l (a.put d (.slice (some ⟨g', 0, none⟩) n' c')) G' w G X (L' g' c') F) (hl : Late ops E i G' Xs := by first | (refine .inr ?_; simp; done) | (refine .inl ?_; kernel_rfl)) (hE : E.contains i = false := by rfl) (ho : ops[i]? = some ⟨d, op, ty, pos, af, gd⟩ := by rfl) (hw : Region.wanted ⟨d, op, ty, pos, af, gd⟩ (yielded ops a.tmps) = true := by kernel_rfl) :
    GD P ops Q V Xs E (.step i l) a G' w G X L F := by
  unfold GD at *
  intro u hM hU
  refine seq_grow (F := fun g' c' u' => Own e u' g' n' c' xs') hE ho rfl hw (hr u hM) fun g' c' u' hgr hO => ⟨hl.ok (hU.grewNew hgr hg), h g' c' ?_ u' (f u g' c' u' hM hgr hO) (hU.grewNew hgr hg)⟩
  rcases hgr.new with e | e
  · rw [e]; exact hg
  · exact Nat.le_trans hU.size e
end
end Cps
