/-
  The laws of dates: a text parsed as the document says; a time's text parsed as that time.
-/
import Derived.Test.YtagiolhciplniaaDoorDate20
import Derived.Test.YtagiolhciplniaaDoorDate21
namespace Go.Proofs.YtagiolhciplniaaDoor
open Go.RowKit
set_option linter.unusedVariables false

theorem date_err (l : List UInt8) : (dateT l).2 = 0 ∨ dateT l = (0, 1) := by
  unfold dateT parseD
  by_cases h1 : (!fdFull (fdOf l) || !(fdOf l).r) = true
  · rw [if_pos h1]; exact .inr rfl
  · rw [if_neg h1]
    by_cases h2 : rightB (fullI (fdOf l).y) (fdOf l).m (fdOf l).d = true
    · rw [if_pos h2]; exact .inl rfl
    · rw [if_neg h2]; exact .inr rfl

set_option maxRecDepth 4000 in
set_option maxHeartbeats 4000000 in
theorem lawParses_any (s : ByteArray) (w : World) (hs : s.size ≤ maxLen) (hm : Mon w) :
    Calls Tryd.prog 5 #[.string s] w fun e w' => e = .returned (.bool true) ∧ Below w.heap.size w w' := by
  by_cases hl : 500 < s.size
  · have hli : decide ((500 : Int) < s.size) = true := decide_eq_true (by omega)
    go_enter Tryd.func5, Tryd.ntmps5
    go_wp2_with fail
    refine (awake07_any _ hm).mono ?_
    rintro e w1 ⟨rfl, hb⟩
    go_wp2
    go_ret
    exact ⟨rfl, hb⟩
  · have hli : (s.size : Int) ≤ 500 := by omega
    have hl2 : s.size ≤ 4294967296 := by omega
    rcases date_err s.toList with h0 | h0
    · obtain ⟨v, hv⟩ : ∃ v, dateT s.toList = (v, 0) := ⟨(dateT s.toList).1, Prod.ext rfl h0⟩
      have hvH := Lib.hid hv
      clear hv h0
      go_enter Tryd.func5, Tryd.ntmps5
      go_wp2_with fail
      refine (parseA_any s _ hl2 hm).mono ?_
      rintro e w1 ⟨rfl, hb1⟩
      rw [hvH.out]
      go_wp2_with fail
      refine (refParse_any s _ hl2).mono ?_
      rintro e w2 ⟨rfl, hb2⟩
      rw [hvH.out]
      have hbel2 := bel_call hb1 hb2
      have hm2 := hm.next hbel2
      go_wp2_with fail
      refine (awake07_any _ hm2).mono ?_
      rintro e w3 ⟨rfl, hb3⟩
      have hb := bel_call hbel2 hb3
      go_wp2
      go_ret
      exact ⟨rfl, hb⟩
    · have hvH := Lib.hid h0
      clear h0
      go_enter Tryd.func5, Tryd.ntmps5
      go_wp2_with fail
      refine (parseA_any s _ hl2 hm).mono ?_
      rintro e w1 ⟨rfl, hb1⟩
      rw [hvH.out]
      go_wp2_with fail
      refine (refParse_any s _ hl2).mono ?_
      rintro e w2 ⟨rfl, hb2⟩
      rw [hvH.out]
      have hbel2 := bel_call hb1 hb2
      have hm2 := hm.next hbel2
      go_wp2_with fail
      refine (awake07_any _ hm2).mono ?_
      rintro e w3 ⟨rfl, hb3⟩
      have hb := bel_call hbel2 hb3
      go_wp2
      go_ret
      exact ⟨rfl, hb⟩

set_option maxRecDepth 4000 in
set_option maxHeartbeats 4000000 in
theorem lawTexts_any (n : Int) (w : World) (hwn : (Lit.int .i64 n).wf = true) (hm : Mon w) :
    Calls Tryd.prog 6 #[.int .i64 n] w fun e w' => e = .returned (.bool true) ∧ Below w.heap.size w w' := by
  have hn := i64_wf hwn
  have hR1 := Lib.hid (show rightB 1601 1 1 = true from by decide)
  have hR2 := Lib.hid (show rightB 9999 12 31 = true from by decide)
  have hD1 := Lib.hid (show refDaysI 1601 1 1 = -134774 from by decide)
  have hD2 := Lib.hid (show refDaysI 9999 12 31 = 2932896 from by decide)
  by_cases h1 : n < -11644473600
  · have hT := Lib.hid (show timeT n = ([], 4) from if_pos (.inl (by omega)))
    go_enter Tryd.func6, Tryd.ntmps6
    go_wp2_with fail
    refine (textA_any n _ hn.1 hn.2 hm).mono ?_
    rintro e w1 ⟨rfl, hb1⟩
    rw [hT.out]
    go_wp2_with fail
    refine (refDays_any 1601 1 1 _ hR1.out).mono ?_
    rintro e w2 ⟨rfl, hb2⟩
    rw [hD1.out]
    have hbel2 := bel_call hb1 hb2
    have hm2 := hm.next hbel2
    go_wp2_with fail
    refine (awake07_any _ hm2).mono ?_
    rintro e w3 ⟨rfl, hb3⟩
    have hb := bel_call hbel2 hb3
    go_wp2
    go_ret
    exact ⟨rfl, hb⟩
  by_cases h2 : 253402300799 < n
  · have hT := Lib.hid (show timeT n = ([], 4) from if_pos (.inr (by omega)))
    go_enter Tryd.func6, Tryd.ntmps6
    go_wp2_with fail
    refine (textA_any n _ hn.1 hn.2 hm).mono ?_
    rintro e w1 ⟨rfl, hb1⟩
    rw [hT.out]
    go_wp2_with fail
    refine (refDays_any 1601 1 1 _ hR1.out).mono ?_
    rintro e w2 ⟨rfl, hb2⟩
    rw [hD1.out]
    have hbel2 := bel_call hb1 hb2
    go_wp2_with fail
    refine (refDays_any 9999 12 31 _ hR2.out).mono ?_
    rintro e w3 ⟨rfl, hb3⟩
    rw [hD2.out]
    have hbel3 := bel_call hbel2 hb3
    have hm3 := hm.next hbel3
    go_wp2_with fail
    refine (awake07_any _ hm3).mono ?_
    rintro e w4 ⟨rfl, hb4⟩
    have hb := bel_call hbel3 hb4
    go_wp2
    go_ret
    exact ⟨rfl, hb⟩
  have h1' : -11644473600 ≤ n := by omega
  have h2' : n ≤ 253402300799 := by omega
  obtain ⟨l, hT, hP, hlen, hend⟩ := date_text (n := n) (by omega) (by omega)
  have hTH := Lib.hid hT
  have hPH := Lib.hid hP
  have hx : (S l).extract 25 29 = S [32, 71, 77, 84] := by
    rw [show 29 = (S l).size by rw [S_size, hlen], extract_from, S_toList, hend]
  have hsz : (S l).size = 29 := by rw [S_size, hlen]
  clear hT hP hend h1 h2
  go_enter Tryd.func6, Tryd.ntmps6
  go_wp2_with fail
  refine (textA_any n _ hn.1 hn.2 hm).mono ?_
  rintro e w1 ⟨rfl, hb1⟩
  rw [hTH.out]
  go_wp2_with fail
  refine (refDays_any 1601 1 1 _ hR1.out).mono ?_
  rintro e w2 ⟨rfl, hb2⟩
  rw [hD1.out]
  have hbel2 := bel_call hb1 hb2
  clear hb1 hb2
  go_wp2_with fail
  refine (refDays_any 9999 12 31 _ hR2.out).mono ?_
  rintro e w3 ⟨rfl, hb3⟩
  rw [hD2.out]
  have hbel3 := bel_call hbel2 hb3
  clear hbel2 hb3
  go_wp2_with fail
  refine (refParse_any (S l) _ (by rw [hsz]; omega)).mono ?_
  rintro e w4 ⟨rfl, hb4⟩
  rw [S_toList, hPH.out]
  have hbel4 := bel_call hbel3 hb4
  have hm4 := hm.next hbel4
  clear hbel3 hb4
  go_wp2_with fail
  refine (awake07_any _ hm4).mono ?_
  rintro e w5 ⟨rfl, hb5⟩
  have hb := bel_call hbel4 hb5
  go_wp2
  go_ret
  exact ⟨rfl, hb⟩
end Go.Proofs.YtagiolhciplniaaDoor
