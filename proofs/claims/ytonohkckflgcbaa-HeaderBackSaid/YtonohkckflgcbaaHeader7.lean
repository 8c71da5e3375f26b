/-
  The walks of package header, seventh part: a header's text.
-/
import Derived.Test.YtonohkckflgcbaaHeader6
namespace Go.Proofs.Ytonohkckflgcbaa
open Go.RowKit
set_option linter.unusedVariables false

def textA (a : List UInt8 × List UInt8) : List UInt8 := [59, 32] ++ a.1 ++ (if a.2.isEmpty then [] else 61 :: a.2)
def textH (p : List UInt8 × List UInt8) (l : List (List UInt8 × List UInt8)) : List UInt8 := p.1 ++ [61] ++ p.2 ++ l.flatMap textA
theorem textA_take (l : List (List UInt8 × List UInt8)) (k : Nat) (h : k < l.length) : (l.take (k + 1)).flatMap textA = (l.take k).flatMap textA ++ textA l[k] := by
  rw [List.take_succ_eq_append_getElem h, List.flatMap_append]; simp
theorem textH_take (p : List UInt8 × List UInt8) (l : List (List UInt8 × List UInt8)) (k : Nat) (h : k < l.length) : textH p (l.take (k + 1)) = textH p (l.take k) ++ textA l[k] := by
  unfold textH; rw [textA_take l k h]; simp only [List.append_assoc]
theorem textH_le (p : List UInt8 × List UInt8) (l : List (List UInt8 × List UInt8)) (k : Nat) : (textH p (l.take k)).length ≤ (textH p l).length := by
  conv => rhs; rw [← List.take_append_drop k l]
  unfold textH
  rw [List.flatMap_append]
  simp only [List.length_append]
  omega
theorem textA_some {a : List UInt8 × List UInt8} (h : a.2.isEmpty = false) : textA a = [59, 32] ++ a.1 ++ ([61] ++ a.2) := by unfold textA; rw [h]; rfl
theorem textA_none {a : List UInt8 × List UInt8} (h : a.2.isEmpty = true) : textA a = [59, 32] ++ a.1 := by unfold textA; rw [h]; simp

set_option maxHeartbeats 1000000 in
theorem refText12_any (p : List UInt8 × List UInt8) (A : Option Addr) (n c : Nat) (l : List (List UInt8 × List UInt8)) (w : World) (h : Rd w 2 (.slice A n c) n (cellsP l)) (ht : (textH p l).length ≤ 4294967296) :
    Calls Try.prog 21 #[aggP p, .slice A n c] w fun e w' => e = .returned (.string (S (textH p l))) ∧ Below w.heap.size w w' := by
  have hl := h.len
  have hcap := h.cap
  unfold maxLen at hcap
  obtain ⟨hca, hcb⟩ := hcap
  subst hl
  have h0 := Lib.hid (show textH p (l.take 0) = p.1 ++ [61] ++ p.2 by unfold textH; simp)
  have hst := Lib.hid (textH_take p l)
  have hle := Lib.hid (textH_le p l)
  have h0l := hle.out 0
  rw [h0.out] at h0l
  simp only [List.length_append, List.length_singleton] at h0l
  have hp1 : (S p.1).size + 1 ≤ maxLen := by rw [S_size]; unfold maxLen; omega
  have hp2 : (S p.1).size + 1 + (S p.2).size ≤ maxLen := by rw [S_size, S_size]; unfold maxLen; omega
  unfold aggP strV
  have hP := Blk.new_ w 29 #[.string (S p.1), .string (S p.2)]
  have hB := bel_alloc (Below.refl w.heap.size w) (.cells #[.string (S p.1), .string (S p.2)] 29)
  have hR := h.alloc (.cells #[.string (S p.1), .string (S p.2)] 29)
  have hp0 := hP.cell 0
  have hp1 := hP.cell 1
  simp at hp0 hp1
  go_enter Try.func21, Try.ntmps21
  go_wp2_with fail
  go_loopw [5, 6] (fun t i wr => ∃ k : Nat, k ≤ l.length ∧ i = .int .i64 k ∧ t = .string (S (textH p (l.take k))) ∧ Below w.heap.size w wr) (fun _ i _ => l.length - (intOf i).toNat)
  case atStart => exact ⟨0, Nat.zero_le _, rfl, by show Value.string (S p.1 ++ S [61] ++ S p.2) = _; rw [S_append, S_append, h0.out], hB⟩
  case round =>
    obtain ⟨k, hk, rfl, rfl, hbel⟩ := hrel
    by_cases hlt : k < l.length
    · have hlti : (k : Int) < l.length := by omega
      obtain ⟨b, off, rfl, hb, hx⟩ := (h.below hbel).pairs hlt
      obtain ⟨hxa, hxb⟩ := hx k hlt
      clear hx hp0 hp1 hP hB hR
      have hs1 := Lib.hid (hst.out k hlt)
      have hs2 := hle.out (k + 1)
      rw [hs1.out] at hs2
      obtain ⟨q, hq⟩ : ∃ q, l[k] = q := ⟨_, rfl⟩
      rw [hq] at hxa hxb hs1 hs2
      clear hq
      cases he : q.2.isEmpty
      · have hA := Lib.hid (textA_some he)
        rw [hA.out] at hs2
        simp only [List.length_append, List.length_cons, List.length_nil] at hs2
        go_wp2_with fail
        go_roundw
        case rel => exact ⟨k + 1, by omega, by go_num, by
          rw [hs1.out, hA.out]
          show Value.string (S (textH p (l.take k)) ++ S [59, 32] ++ S q.1 ++ S [61] ++ S q.2) = _
          simp only [S_append, List.append_assoc], hbel⟩
        case measure => simp [intOf]; omega
      · have hA := Lib.hid (textA_none he)
        rw [hA.out] at hs2
        simp only [List.length_append, List.length_cons, List.length_nil] at hs2
        go_wp2_with fail
        go_roundw
        case rel => exact ⟨k + 1, by omega, by go_num, by
          rw [hs1.out, hA.out]
          show Value.string (S (textH p (l.take k)) ++ S [59, 32] ++ S q.1) = _
          simp only [S_append, List.append_assoc], hbel⟩
        case measure => simp [intOf]; omega
    · obtain rfl : k = l.length := by omega
      go_wp2
      go_ret
      exact ⟨ret_str (by rw [List.take_length]), hbel⟩
end Go.Proofs.Ytonohkckflgcbaa
