/-
  The walks of package host, fifth part: does a host match a domain; labels.
-/
import Derived.Test.YtdefpphfbpkeaaaHost4
namespace Go.Proofs.Ytdefpphfbpkeaaa
open Go.RowKit
set_option linter.unusedVariables false

set_option maxHeartbeats 2000000 in
theorem hmatch_any (s t : ByteArray) (w : World) (hs : s.size ≤ 4294967296) (ht : t.size ≤ 4294967296) :
    Calls Try.prog 68 #[.string s, .string t] w fun e w' => e = .returned (.bool (matchB s.toList t.toList)) ∧ Below w.heap.size w w' := by
  have hm : s.size ≤ maxLen := by unfold maxLen; omega
  have hF := Lib.hid (show matchB s.toList t.toList = (canonB s.toList && canonB t.toList && (s.toList == t.toList || (!addrB s.toList && Lib.hasSuffix s.toList (46 :: t.toList)))) from rfl)
  go_enter Try.func68, Try.ntmps68
  go_wp2_with fail
  refine (canonical_any s w hs).mono ?_
  rintro e w1 ⟨rfl, hb1⟩
  cases hq : canonB s.toList
  · have hG := Lib.hid (show matchB s.toList t.toList = false by rw [hF.out, hq]; rfl)
    clear hq
    go_wp2
    go_ret
    exact ⟨ret_bool hG.out.symm, hb1⟩
  have hF := Lib.hid (show matchB s.toList t.toList = (canonB t.toList && (s.toList == t.toList || (!addrB s.toList && Lib.hasSuffix s.toList (46 :: t.toList)))) by rw [hF.out, hq]; rfl)
  clear hq
  go_wp2_with fail
  refine (canonical_any t _ ht).mono ?_
  rintro e w2 ⟨rfl, hb2⟩
  have hb3 := bel_call hb1 hb2
  cases hq : canonB t.toList
  · have hG := Lib.hid (show matchB s.toList t.toList = false by rw [hF.out, hq]; rfl)
    clear hq
    go_wp2
    go_ret
    exact ⟨ret_bool hG.out.symm, hb3⟩
  have hF := Lib.hid (show matchB s.toList t.toList = (s.toList == t.toList || (!addrB s.toList && Lib.hasSuffix s.toList (46 :: t.toList))) by rw [hF.out, hq]; rfl)
  clear hq
  by_cases h1 : (s.toList == t.toList) = true
  · have hG := Lib.hid (show matchB s.toList t.toList = true by rw [hF.out, h1]; rfl)
    go_wp2
    go_ret
    exact ⟨ret_bool hG.out.symm, hb3⟩
  have h1' : (s.toList == t.toList) = false := by simpa using h1
  clear h1
  have hF := Lib.hid (show matchB s.toList t.toList = (!addrB s.toList && Lib.hasSuffix s.toList (46 :: t.toList)) by rw [hF.out, h1']; rfl)
  go_wp2_with fail
  refine (addr_any s _ hs).mono ?_
  rintro e w4 ⟨rfl, hb4⟩
  have hb5 := bel_call hb3 hb4
  cases hq : addrB s.toList
  case true =>
    have hG := Lib.hid (show matchB s.toList t.toList = false by rw [hF.out, hq]; rfl)
    clear hq
    go_wp2
    go_ret
    exact ⟨ret_bool hG.out.symm, hb5⟩
  have hF := Lib.hid (show matchB s.toList t.toList = Lib.hasSuffix s.toList (46 :: t.toList) by rw [hF.out, hq]; rfl)
  clear hq
  have ht1 : 1 + t.size ≤ maxLen := by unfold maxLen; omega
  go_wp2_with fail
  refine (hasSuffix_any s _ _ hm (by first | exact ht1 | (rw [append_S, S_size]; simp [← size_toList]; omega))).mono ?_
  rintro e w6 ⟨rfl, rfl⟩
  go_wp2
  go_ret
  exact ⟨ret_bool (by rw [hF.out, append_l, show ({ data := #[46] } : ByteArray).toList = [46] from S_toList [46]]; rfl), hb5⟩

def upP (l : List UInt8) : List UInt8 × Bool := if nameB l then match cutL l 46 with | none => ([], false) | some p => (p.2, true) else ([], false)

end Go.Proofs.Ytdefpphfbpkeaaa
