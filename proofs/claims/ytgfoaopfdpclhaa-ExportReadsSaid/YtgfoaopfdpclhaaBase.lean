/-
  Plain facts on texts as lists of bytes, and the two ways in which worlds go on; no function of the program is named here.
-/
import Derived.Test.YtgfoaopfdpclhaaRows
import Derived.WalkKit
import Derived.WalkSpells
import Derived.WalkLawsBesides
import Derived.Lib.Strings
import Derived.Lib.Hide
namespace Go.Proofs.Ytgfoaopfdpclhaa
open Go.RowKit
set_option linter.unusedVariables false

/-- A text of bytes, as the model's string. -/
def S (l : List UInt8) : ByteArray := ⟨l.toArray⟩
@[simp, go_sem] theorem S_toList (l : List UInt8) : (S l).toList = l := ByteArray.toList_mk l
theorem size_toList (s : ByteArray) : s.size = s.toList.length := by rw [ByteArray.toList_eq]; exact Lib.size_eq s
@[simp, go_sem] theorem S_size (l : List UInt8) : (S l).size = l.length := by rw [size_toList, S_toList]
theorem S_of (s : ByteArray) : S s.toList = s := by
  unfold S
  rw [ByteArray.toList_eq, Lib.mk_data]
theorem S_lit (l : List UInt8) : (⟨l.toArray⟩ : ByteArray) = S l := rfl
theorem extract_l (s : ByteArray) (a b : Nat) : (s.extract a b).toList = (s.toList.drop a).take (b - a) := by
  rw [Lib.extract_toList, ByteArray.toList_eq]
theorem extract_S (s : ByteArray) (a b : Nat) : s.extract a b = S ((s.toList.drop a).take (b - a)) := by
  rw [← extract_l, S_of]
theorem extract_to (s : ByteArray) (b : Nat) : s.extract 0 b = S (s.toList.take b) := by
  rw [extract_S, List.drop_zero, Nat.sub_zero]
theorem extract_from (s : ByteArray) (a : Nat) : s.extract a s.size = S (s.toList.drop a) := by
  rw [extract_S, size_toList]
  congr 1
  exact List.take_of_length_le (by simp)
theorem get_l (s : ByteArray) (i : Nat) (h : i < s.size) : s[i] = s.toList.getD i 0 := by
  have e : s.toList = s.data.toList := ByteArray.toList_eq s
  have h2 : i < s.data.size := h
  rw [e, List.getD_eq_getElem?_getD, List.getElem?_eq_getElem (by simpa using h2)]
  simp [ByteArray.getElem_eq_getElem_data]
theorem append_l (a b : ByteArray) : (a ++ b).toList = a.toList ++ b.toList := by
  rw [ByteArray.toList_eq, ByteArray.toList_eq, ByteArray.toList_eq]
  simp [ByteArray.data_append]
theorem append_S (a b : ByteArray) : a ++ b = S (a.toList ++ b.toList) := by
  rw [← append_l, S_of]
@[simp, go_sem] theorem S_append (a b : List UInt8) : S a ++ S b = S (a ++ b) := by rw [append_S, S_toList, S_toList]
theorem u8_beq (a b : UInt8) : (((a.toNat : Int)) == (b.toNat : Int)) = (a == b) := by
  rw [Bool.eq_iff_iff]
  simp only [beq_iff_eq]
  constructor
  · intro h; exact UInt8.toNat_inj.1 (by omega)
  · intro h; rw [h]
theorem eqc {a : UInt8} (c : UInt8) {i : Int} (hc : (c.toNat : Int) = i) : (((a.toNat : Int)) == i) = (a == c) := by rw [← hc, u8_beq]
theorem nec {a : UInt8} (c : UInt8) {i : Int} (hc : (c.toNat : Int) = i) : (((a.toNat : Int)) != i) = !(a == c) := by rw [bne, ← hc, u8_beq]
theorem u8_ofNat (n : Nat) (h : n < 256) : ((UInt8.ofNat n).toNat : Int) = n := by
  simp; omega
theorem take_succ_getD (l : List UInt8) (k : Nat) (h : k < l.length) : l.take (k + 1) = l.take k ++ [l.getD k 0] := by
  rw [List.take_succ_eq_append_getElem h, List.getD_eq_getElem?_getD, List.getElem?_eq_getElem h]; rfl
theorem drop_getD (l : List UInt8) (k : Nat) (h : k < l.length) : l.drop k = l.getD k 0 :: l.drop (k + 1) := by
  rw [List.drop_eq_getElem_cons h, List.getD_eq_getElem?_getD, List.getElem?_eq_getElem h]; rfl
theorem hasPrefix_raw (s p : ByteArray) : (decide (p.size ≤ s.size) && ((s.extract 0 p.size).toList == p.toList)) = Lib.hasPrefix s.toList p.toList := by
  rw [ByteArray.toList_eq s, Lib.hasPrefix_raw, ByteArray.toList_eq p]
theorem hasSuffix_raw (s p : ByteArray) : (decide (p.size ≤ s.size) && ((s.extract (s.size - p.size) s.size).toList == p.toList)) = Lib.hasSuffix s.toList p.toList := by
  rw [ByteArray.toList_eq s, Lib.hasSuffix_raw, ByteArray.toList_eq p]
theorem below_drews {B : Nat} {a w : World} (h : Below B a w) (n : Nat) : Below B a (w.drewN n) := ⟨h.os, h.tape, h.output, h.size, h.block⟩
theorem ret_bool {a b : Bool} (h : a = b) : Ending.returned (.bool a) = .returned (.bool b) := by rw [h]
theorem ret_int {k : IntKind} {a b : Int} (h : a = b) : Ending.returned (.int k a) = .returned (.int k b) := by rw [h]
theorem ret_str {a b : ByteArray} (h : a = b) : Ending.returned (.string a) = .returned (.string b) := by rw [h]
end Go.Proofs.Ytgfoaopfdpclhaa
