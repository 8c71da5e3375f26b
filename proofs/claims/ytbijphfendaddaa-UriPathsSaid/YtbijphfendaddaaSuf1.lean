/-
  Texts counted and cut about a point.
-/
import Derived.Test.YtbijphfendaddaaHost5
import Derived.Lib.Bytealg
namespace Go.Proofs.Ytbijphfendaddaa
open Go.RowKit
set_option linter.unusedVariables false

theorem index_find (l : List UInt8) (c : UInt8) : Lib.indexByte l c = findL l c := by
  induction l with
  | nil => rfl
  | cons x r ih =>
    unfold Lib.indexByte findL cutL
    by_cases h : (x == c) = true
    · rw [if_pos h, if_pos h]; rfl
    · rw [if_neg h, if_neg h, ih]
      unfold findL
      cases cutL r c with
      | none => rfl
      | some p =>
        have : ((p.1.length : Int) == -1) = false := beq_eq_false_iff_ne.2 (by omega)
        simp [this]
set_option maxRecDepth 100000 in
theorem count_any (s : ByteArray) (w : World) :
    Calls Try.prog 61 #[.string s, .string ⟨#[46]⟩] w fun e w' => e = .returned (.int .i64 (s.toList.count 46)) ∧ w = w' := by
  go_enter Try.func61, Try.ntmps61
  go_wp2
  rw [run_callFunc_extern Try.func80 (by kernel_rfl) (by kernel_rfl) (by kernel_rfl) (e := Extern.BytealgCount.count) (by kernel_rfl), Lib.run_countString]
  simp only [Result.andThen]
  rw [Oper.upon_value]
  go_wp2
  go_ret
  exact ⟨by rw [ByteArray.toList_eq]; rfl, rfl⟩
set_option maxRecDepth 100000 in
theorem indexByte_any (s : ByteArray) (c : UInt8) (w : World) :
    Calls Try.prog 93 #[.string s, .int .u8 c.toNat] w fun e w' => e = .returned (.int .i64 (findL s.toList c)) ∧ w = w' := by
  have hi := Lib.hid (index_find s.toList c)
  go_enter Try.func93, Try.ntmps93
  go_wp2
  rw [run_callFunc_extern Try.func99 (by kernel_rfl) (by kernel_rfl) (by kernel_rfl) (e := Extern.BytealgIndexByte.indexByte) (by kernel_rfl), Lib.run_indexByteString]
  simp only [Result.andThen]
  rw [Oper.upon_value]
  go_wp2
  go_ret
  refine ⟨ret_int ?_, rfl⟩
  rw [← hi.out, ByteArray.toList_eq]
set_option maxRecDepth 100000 in
theorem dot_self {l : List UInt8} (h : l = [46]) : findL l 46 = 0 := by subst h; rfl
set_option maxRecDepth 100000 in
set_option maxHeartbeats 1000000 in
theorem index_any (s : ByteArray) (w : World) :
    Calls Try.prog 83 #[.string s, .string ⟨#[46]⟩] w fun e w' => e = .returned (.int .i64 (findL s.toList 46)) ∧ w = w' := by
  by_cases h : s.toList = [46]
  · have hz := Lib.hid (dot_self h)
    have hs : s = S [46] := by rw [← S_of s, h]
    subst hs
    go_enter Try.func83, Try.ntmps83
    go_wp2
    go_ret
    exact ⟨ret_int hz.out.symm, rfl⟩
  · have hq : (([46] : List UInt8) == s.toList) = false := beq_eq_false_iff_ne.2 (fun e => h e.symm)
    have hq2 : (s.toList == ([46] : List UInt8)) = false := beq_eq_false_iff_ne.2 h
    clear h
    go_enter Try.func83, Try.ntmps83
    go_wp2_with fail
    refine (indexByte_any s 46 _).mono ?_
    rintro e w' ⟨rfl, rfl⟩
    go_wp2
    go_ret
    exact ⟨rfl, rfl⟩
/-- A text behind its first point. -/
def cutD (l : List UInt8) : List UInt8 × List UInt8 × Bool := match cutL l 46 with | none => (l, [], false) | some p => (p.1, p.2, true)
set_option maxRecDepth 100000 in
set_option maxHeartbeats 1000000 in
theorem cut0_any (s : ByteArray) (w : World) (hs : s.size ≤ 4294967296) :
    Calls Try.prog 70 #[.string s, .string ⟨#[46]⟩] w fun e w' => e = .returned (.tuple #[.string (S (cutD s.toList).1), .string (S (cutD s.toList).2.1), .bool (cutD s.toList).2.2]) ∧ Below w.heap.size w w' := by
  rw [← S_of s]
  have hl0 : s.toList.length ≤ 4294967296 := by rw [← size_toList]; exact hs
  rw [S_toList]
  generalize s.toList = l at *
  clear hs
  rcases hc : cutL l 46 with _ | ⟨a, b⟩
  · have hT := Lib.hid (show cutD l = (l, [], false) by unfold cutD; rw [hc])
    have hf := Lib.hid (show findL l 46 = -1 by unfold findL; rw [hc])
    clear hc
    go_enter Try.func70, Try.ntmps70
    go_wp2_with fail
    refine (index_any (S l) _).mono ?_
    rintro e w' ⟨rfl, rfl⟩
    rw [S_toList, hf.out]
    go_wp2
    go_ret3
    rw [hT.out]
    exact ⟨rfl, Below.refl _ _⟩
  · have hT := Lib.hid (show cutD l = (a, b, true) by unfold cutD; rw [hc])
    obtain ⟨c1, c2, c3, c4, _⟩ := cut_some hc
    have hf := Lib.hid (show findL l 46 = a.length by unfold findL; rw [hc])
    simp only at c1 c2 c3 c4
    have hx1 := Lib.hid (show (S l).extract 0 a.length = S a by rw [extract_to, S_toList, ← c2])
    have hx2 := Lib.hid (show (S l).extract (a.length + 1) l.length = S b by rw [show l.length = (S l).size from (S_size l).symm, extract_from, S_toList, ← c3])
    have hai : (a.length : Int) ≤ l.length := by omega
    have hai2 : (a.length : Int) + 1 ≤ l.length := by omega
    clear hc c1 c2 c3 c4
    generalize a.length = n at *
    go_enter Try.func70, Try.ntmps70
    go_wp2_with fail
    refine (index_any (S l) _).mono ?_
    rintro e w' ⟨rfl, rfl⟩
    rw [S_toList, hf.out]
    go_wp2
    go_quiet (fail)
    go_wp2
    go_ret3
    rw [hT.out]
    exact ⟨by rw [← hx1.out, ← hx2.out]; rfl, below_drews (Below.refl _ _) _⟩
theorem cutS_any (s : ByteArray) (w : World) (hs : s.size ≤ 4294967296) :
    Calls Try.prog 42 #[.string s, .string ⟨#[46]⟩] w fun e w' => e = .returned (.tuple #[.string (S (cutD s.toList).1), .string (S (cutD s.toList).2.1), .bool (cutD s.toList).2.2]) ∧ Below w.heap.size w w' := by
  go_enter Try.func42, Try.ntmps42
  go_wp2_with fail
  refine (cut0_any s _ hs).mono ?_
  rintro e w1 ⟨rfl, hb⟩
  go_wp2
  go_ret3
  exact ⟨rfl, hb⟩
end Go.Proofs.Ytbijphfendaddaa
