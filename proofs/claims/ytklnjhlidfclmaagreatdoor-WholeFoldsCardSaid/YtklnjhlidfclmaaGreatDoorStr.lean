/- Strings: what the operations on them do; rows of bytes and of strings. -/
import Derived.Test.YtklnjhlidfclmaaGreatDoorEx
import Derived.Laws.IdiomStrings
import Derived.Laws.Slices
import Derived.Laws.Strings
import Derived.Lib.PathFns
import Derived.Lib.Strings
set_option linter.unusedVariables false
set_option linter.unusedSimpArgs false
namespace Cps
open Go Go.RowKit

/-- A string of these bytes. -/
@[reducible] def bs (l : List UInt8) : ByteArray := ⟨l.toArray⟩
theorem bs_size (l : List UInt8) : (bs l).size = l.length := by simp [bs, ByteArray.size]
theorem bs_list (l : List UInt8) : (bs l).toList = l := by rw [Lib.toList_data]
theorem bs_append (l m : List UInt8) : bs l ++ bs m = bs (l ++ m) := by
  have : (bs l ++ bs m).data.toList = (bs (l ++ m)).data.toList := by simp [bs, ByteArray.data_append]
  cases h1 : bs l ++ bs m
  cases h2 : bs (l ++ m)
  rw [h1, h2] at this
  congr 1
  exact Array.toList_inj.1 this
theorem bs_of (s : ByteArray) : bs s.data.toList = s := by cases s; simp [bs]

section
variable {P : Program} {u : World} {a : Act} {d : Option Tmp} {ty t t' : TypeId} {pos : String} {af : Array Edge} {gd : Option (Nat × Bool)} {x y : Operand} {L K : List UInt8}
theorem op_cat (hx : a.eval x = .string (bs L)) (hy : a.eval y = .string (bs K)) (h : L.length + K.length ≤ 9223372036854775807) : (execOp a.eval ⟨d, .binOp .add t x y t', ty, pos, af, gd⟩).run P u = .ok (.value (.string (bs (L ++ K)))) u := by
  have hg : eqGuard .add t x y (.string (bs L)) (.string (bs K)) = pure () := rfl
  have hm : IntKind.i64.max = 9223372036854775807 := by decide
  have h2 : ¬ ((((bs L).size + (bs K).size : Nat) : Int) > IntKind.i64.max) := by rw [bs_size, bs_size, hm]; omega
  simp only [execOp, hx, hy, hg, Sem.run_bind, Sem.run_pure, Result.andThen, binOp_string_add, Op.stringOp, if_neg h2, bs_append]
theorem op_seq (hx : a.eval x = .string (bs L)) (hy : a.eval y = .string (bs K)) : (execOp a.eval ⟨d, .binOp .eql t x y t', ty, pos, af, gd⟩).run P u = .ok (.value (.bool (decide (L = K)))) u := by
  have hg : eqGuard .eql t x y (.string (bs L)) (.string (bs K)) = pure () := rfl
  have e : ((bs L).toList == (bs K).toList) = decide (L = K) := by rw [bs_list, bs_list, Bool.eq_iff_iff]; simp
  simp only [execOp, hx, hy, hg, Sem.run_bind, Sem.run_pure, Result.andThen, binOp_string_eql, e]
theorem op_sne (hx : a.eval x = .string (bs L)) (hy : a.eval y = .string (bs K)) : (execOp a.eval ⟨d, .binOp .neq t x y t', ty, pos, af, gd⟩).run P u = .ok (.value (.bool (!(decide (L = K))))) u := by
  have hg : eqGuard .neq t x y (.string (bs L)) (.string (bs K)) = pure () := rfl
  have e : ((bs L).toList == (bs K).toList) = decide (L = K) := by rw [bs_list, bs_list, Bool.eq_iff_iff]; simp
  have hb : binOp .neq t (.string (bs L)) (.string (bs K)) = pure (.bool (!((bs L).toList == (bs K).toList))) := by simp [binOp, Op.stringOp]
  simp only [execOp, hx, hy, hg, Sem.run_bind, Sem.run_pure, Result.andThen, hb, e]
theorem op_slen {ta : TypeId} (hx : a.eval x = .string (bs L)) (ht : P.underlying ta = some .string) (h : L.length ≤ 9223372036854775807) : (execOp a.eval ⟨d, .call { callee := .builtin .len, args := #[x], argTypes := #[ta] }, ty, pos, af, gd⟩).run P u = .ok (.value (.int .i64 (L.length : Int))) u := by
  have hl := run_len_string (P := P) u ta ty (bs L) ht
  rw [bs_size] at hl
  unfold execOp
  simp only [resolve, invoke, builtin, Sem.run_bind, Sem.run_pure, Result.andThen_ok, List.map_toArray, List.map_cons, List.map_nil, hx, hl]
  have : goInt (L.length : Int) = .int .i64 (L.length : Int) := by
    unfold goInt; first | rfl | exact wrap_i64 rfl (by omega) (by omega)
  rw [this]
theorem op_sidx {k : IntKind} {i : Int} (j : Nat) (hx : a.eval x = .string (bs L)) (hy : a.eval y = .int k i) (hi : i = j) (hj : j < L.length) (ht : P.underlying t = some .string) : (execOp a.eval ⟨d, .index t x y, ty, pos, af, gd⟩).run P u = .ok (.value (.int .u8 ((L.getD j 0).toNat : Int))) u := by
  subst hi
  have h := run_index_string (P := P) u t (bs L) k (j : Int) ht
  rw [dif_pos ⟨by omega, by rw [bs_size]; omega⟩] at h
  have e : ((bs L)[(j : Int).toNat]'(by rw [bs_size]; omega)) = L.getD j 0 := by
    simp only [Int.toNat_natCast, List.getD_eq_getElem?_getD, List.getElem?_eq_getElem hj, Option.getD_some]
    simp [bs, ByteArray.getElem_eq_getElem_data]
  rw [e] at h
  simp only [execOp, hx, hy, Sem.run_bind, Sem.run_pure, Result.andThen, h]
end
end Cps
