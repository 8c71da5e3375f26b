/-
  The laws of package host: what is canonical; does a host match a domain; in what order.
-/
import Derived.Test.YtonohkckflgcbaaHost8
namespace Go.Proofs.Ytonohkckflgcbaa
open Go.RowKit
set_option linter.unusedVariables false

theorem awk_canon : canonT [65, 46, 69, 120, 97, 109, 112, 108, 101] = ([97, 46, 101, 120, 97, 109, 112, 108, 101], 0) := by decide
theorem awk_m1 : matchB [97, 46, 98, 46, 101, 120, 97, 109, 112, 108, 101] [98, 46, 101, 120, 97, 109, 112, 108, 101] = true := by decide
theorem awk_m2 : matchB [97, 98, 46, 101, 120, 97, 109, 112, 108, 101] [98, 46, 101, 120, 97, 109, 112, 108, 101] = false := by decide
theorem awk_addr : addrB [49, 46, 50, 46, 51, 46, 52] = true := by decide

set_option maxHeartbeats 1000000 in
theorem awake08 (w : World) :
    Calls Try.prog 22 #[] w fun e w' => e = .returned (.bool true) ∧ Below w.heap.size w w' := by
  go_enter Try.func22, Try.ntmps22
  go_wp2_with fail
  refine (canon_any _ _ (by decide)).mono ?_
  rintro e w1 ⟨rfl, hb1⟩
  rw [ByteArray.toList_mk, awk_canon]
  go_wp2_with fail
  refine (hmatch_any _ _ _ (by decide) (by decide)).mono ?_
  rintro e w2 ⟨rfl, hb2⟩
  have hb3 := bel_call hb1 hb2
  rw [ByteArray.toList_mk, ByteArray.toList_mk, awk_m1]
  go_wp2_with fail
  refine (hmatch_any _ _ _ (by decide) (by decide)).mono ?_
  rintro e w4 ⟨rfl, hb4⟩
  have hb5 := bel_call hb3 hb4
  rw [ByteArray.toList_mk, ByteArray.toList_mk, awk_m2]
  go_wp2_with fail
  refine (addr_any _ _ (by decide)).mono ?_
  rintro e w6 ⟨rfl, hb6⟩
  have hb7 := bel_call hb5 hb6
  rw [ByteArray.toList_mk, awk_addr]
  go_wp2
  go_ret
  exact ⟨rfl, hb7⟩

theorem canonT_big {l : List UInt8} (h : 256 < l.length) : canonT l = ([], 3) := by unfold canonT; rw [if_pos h]
theorem canonB_small {l : List UInt8} (h : l.length ≤ 256) : canonB l = (nameB l || addrB l) := by unfold canonB; rw [decide_eq_true h, Bool.and_true]
theorem lowC_lowC8 (c : UInt8) : lowC (lowC c) = lowC c := by
  by_cases h : 65 ≤ c.toNat ∧ c.toNat ≤ 90
  · have h2 := lowC_yes h.1 h.2
    rw [lowC_no (c := lowC c) (by omega)]
  · rw [lowC_no h, lowC_no h]
theorem lowerL_lowerL8 (l : List UInt8) : lowerL (lowerL l) = lowerL l := by
  unfold lowerL; rw [List.map_map]; congr 1; funext c; exact lowC_lowC8 c
theorem canonT_small {l : List UInt8} (h : l.length ≤ 256) : canonT l = if canonB (lowerL l) then (lowerL l, 0) else ([], 1) := by
  unfold canonT
  rw [if_neg (by omega), canonB_small (by unfold lowerL; rw [List.length_map]; exact h)]
theorem canonT_twice {l : List UInt8} (h : l.length ≤ 256) (h2 : canonB (lowerL l) = true) : canonT (lowerL l) = (lowerL l, 0) := by
  rw [canonT_small (by unfold lowerL; rw [List.length_map]; exact h), lowerL_lowerL8, if_pos h2]

set_option maxHeartbeats 2000000 in
theorem hostCanon (s : ByteArray) (w : World) (hs : s.size ≤ maxLen) :
    Calls Try.prog 7 #[.string s] w fun e w' => e = .returned (.bool true) ∧ Below w.heap.size w w' := by
  unfold maxLen at hs
  have hsz := Lib.hid (size_toList s)
  by_cases h1 : 1000 < s.size
  · have h1i : (1000 : Int) < s.size := by omega
    go_enter Try.func7, Try.ntmps7
    go_wp2_with fail
    refine (awake08 _).mono ?_
    rintro e w1 ⟨rfl, hb1⟩
    go_wp2
    go_ret
    exact ⟨rfl, hb1⟩
  have h1i : decide ((1000 : Int) < s.size) = false := decide_eq_false (by omega)
  have hs4 : s.size ≤ 4294967296 := by omega
  have hT1 := Lib.hid (fun h : 256 < s.size => canonT_big (l := s.toList) (by rw [← hsz.out]; exact h))
  have hT2 := Lib.hid (fun h : ¬ 256 < s.size => canonT_small (l := s.toList) (by rw [← hsz.out]; omega))
  have hT3 := Lib.hid (fun h : ¬ 256 < s.size => canonT_twice (l := s.toList) (by rw [← hsz.out]; omega))
  have hl : (S (lowerL s.toList)).size ≤ 4294967296 := by rw [S_size]; unfold lowerL; rw [List.length_map, ← size_toList]; omega
  go_enter Try.func7, Try.ntmps7
  go_wp2_with fail
  refine (canon_any s _ hs4).mono ?_
  rintro e w1 ⟨rfl, hb1⟩
  go_wp2_with fail
  refine (refLower_any s _ hs4).mono ?_
  rintro e w2 ⟨rfl, hb2⟩
  have hb3 := bel_call hb1 hb2
  clear hb2
  go_wp2_with fail
  refine (addr_any s _ hs4).mono ?_
  rintro e w4 ⟨rfl, hb4⟩
  have hb5 := bel_call hb3 hb4
  clear hb4
  go_wp2_with fail
  refine (refAddr_any s _ hs4).mono ?_
  rintro e w6 ⟨rfl, hb6⟩
  have hb7 := bel_call hb5 hb6
  clear hb6
  generalize lowerL s.toList = l at *
  by_cases h2 : 256 < s.size
  · have h2i : (256 : Int) < s.size := by omega
    rw [hT1.out h2]
    go_wp2_with fail
    refine (awake08 _).mono ?_
    rintro e w8 ⟨rfl, hb8⟩
    have hb9 := bel_call hb7 hb8
    go_wp2
    go_ret
    exact ⟨rfl, hb9⟩
  have h2i : decide ((256 : Int) < s.size) = false := decide_eq_false (by omega)
  rw [hT2.out h2]
  replace hT3 := Lib.hid (hT3.out h2)
  clear hT1 hT2 h2
  cases hq : canonB l
  · have hQ := Lib.hid hq
    clear hq
    rw [if_neg (by decide)]
    go_wp2_with fail
    refine (refCanonical_any _ _ hl).mono ?_
    rintro e w8 ⟨rfl, hb8⟩
    have hb9 := bel_call hb7 hb8
    clear hb8
    rw [S_toList, hQ.out]
    go_wp2_with fail
    refine (awake08 _).mono ?_
    rintro e w10 ⟨rfl, hb10⟩
    have hb11 := bel_call hb9 hb10
    go_wp2
    go_ret
    exact ⟨rfl, hb11⟩
  · have hQ := Lib.hid hq
    replace hT3 := Lib.hid (hT3.out hq)
    clear hq
    rw [if_pos rfl]
    go_wp2_with fail
    refine (refCanonical_any _ _ hl).mono ?_
    rintro e w8 ⟨rfl, hb8⟩
    have hb9 := bel_call hb7 hb8
    clear hb8
    rw [S_toList, hQ.out]
    go_wp2_with fail
    refine (canon_any _ _ hl).mono ?_
    rintro e w10 ⟨rfl, hb10⟩
    have hb11 := bel_call hb9 hb10
    clear hb10
    rw [S_toList, hT3.out]
    go_wp2_with fail
    refine (awake08 _).mono ?_
    rintro e w12 ⟨rfl, hb12⟩
    have hb13 := bel_call hb11 hb12
    go_wp2
    go_ret
    exact ⟨rfl, hb13⟩

set_option maxHeartbeats 1000000 in
theorem hostMatches (s t : ByteArray) (w : World) (hs : s.size ≤ maxLen) (ht : t.size ≤ maxLen) :
    Calls Try.prog 8 #[.string s, .string t] w fun e w' => e = .returned (.bool true) ∧ Below w.heap.size w w' := by
  unfold maxLen at hs ht
  have hcase : ((1000 : Int) < s.size) ∨ (decide ((1000 : Int) < s.size) = false ∧ (1000 : Int) < t.size) ∨ (decide ((1000 : Int) < s.size) = false ∧ decide ((1000 : Int) < t.size) = false ∧ s.size ≤ 4294967296 ∧ t.size ≤ 4294967296) := by
    simp only [decide_eq_false_iff_not]; omega
  rcases hcase with h1 | ⟨h1, h2⟩ | ⟨h1, h2, hs4, ht4⟩
  · go_enter Try.func8, Try.ntmps8
    go_wp2_with fail
    refine (awake08 _).mono ?_
    rintro e w1 ⟨rfl, hb1⟩
    go_wp2
    go_ret
    exact ⟨rfl, hb1⟩
  · go_enter Try.func8, Try.ntmps8
    go_wp2_with fail
    refine (awake08 _).mono ?_
    rintro e w1 ⟨rfl, hb1⟩
    go_wp2
    go_ret
    exact ⟨rfl, hb1⟩
  · go_enter Try.func8, Try.ntmps8
    go_wp2_with fail
    refine (hmatch_any s t _ hs4 ht4).mono ?_
    rintro e w1 ⟨rfl, hb1⟩
    go_wp2_with fail
    refine (refMatch08_any s t _ hs4 ht4).mono ?_
    rintro e w2 ⟨rfl, hb2⟩
    have hb3 := bel_call hb1 hb2
    clear hb2
    go_wp2_with fail
    refine (awake08 _).mono ?_
    rintro e w4 ⟨rfl, hb4⟩
    have hb5 := bel_call hb3 hb4
    go_wp2
    go_ret
    exact ⟨rfl, hb5⟩

theorem match_self (a : List UInt8) : matchB a a = canonB a := by unfold matchB; simp
theorem match_both {a b : List UInt8} (h1 : matchB a b = true) (h2 : matchB b a = true) : (a == b) = true := by
  unfold matchB at h1 h2
  simp only [Bool.and_eq_true, Bool.or_eq_true, beq_iff_eq, Lib.hasSuffix, List.isSuffixOf_iff_suffix] at *
  rcases h1.2 with h1 | h1
  · exact h1
  rcases h2.2 with h2 | h2
  · exact h2.symm
  have e1 := h1.2.length_le
  have e2 := h2.2.length_le
  simp only [List.length_cons] at e1 e2
  omega
theorem match_trans {a b c : List UInt8} (h1 : matchB a b = true) (h2 : matchB b c = true) : matchB a c = true := by
  unfold matchB at h1 h2 ⊢
  simp only [Bool.and_eq_true, Bool.or_eq_true, beq_iff_eq, Lib.hasSuffix, List.isSuffixOf_iff_suffix] at *
  refine ⟨⟨h1.1.1, h2.1.2⟩, ?_⟩
  rcases h1.2 with h3 | h3
  · rw [h3]; exact h2.2
  rcases h2.2 with h4 | h4
  · rw [← h4]; exact .inr h3
  exact .inr ⟨h3.1, h4.2.trans ((List.suffix_cons _ _).trans h3.2)⟩

set_option maxHeartbeats 2000000 in
theorem hostOrders (s t u : ByteArray) (w : World) (hs : s.size ≤ maxLen) (ht : t.size ≤ maxLen) (hu : u.size ≤ maxLen) :
    Calls Try.prog 9 #[.string s, .string t, .string u] w fun e w' => e = .returned (.bool true) ∧ Below w.heap.size w w' := by
  unfold maxLen at hs ht hu
  have hcase : ((1000 : Int) < s.size) ∨ (decide ((1000 : Int) < s.size) = false ∧ (1000 : Int) < t.size) ∨ (decide ((1000 : Int) < s.size) = false ∧ decide ((1000 : Int) < t.size) = false ∧ (1000 : Int) < u.size) ∨ (decide ((1000 : Int) < s.size) = false ∧ decide ((1000 : Int) < t.size) = false ∧ decide ((1000 : Int) < u.size) = false ∧ s.size ≤ 4294967296 ∧ t.size ≤ 4294967296 ∧ u.size ≤ 4294967296) := by
    simp only [decide_eq_false_iff_not]; omega
  rcases hcase with h1 | ⟨h1, h2⟩ | ⟨h1, h2, h3⟩ | ⟨h1, h2, h3, hs4, ht4, hu4⟩
  · go_enter Try.func9, Try.ntmps9
    go_wp2_with fail
    refine (awake08 _).mono ?_
    rintro e w1 ⟨rfl, hb1⟩
    go_wp2
    go_ret
    exact ⟨rfl, hb1⟩
  · go_enter Try.func9, Try.ntmps9
    go_wp2_with fail
    refine (awake08 _).mono ?_
    rintro e w1 ⟨rfl, hb1⟩
    go_wp2
    go_ret
    exact ⟨rfl, hb1⟩
  · go_enter Try.func9, Try.ntmps9
    go_wp2_with fail
    refine (awake08 _).mono ?_
    rintro e w1 ⟨rfl, hb1⟩
    go_wp2
    go_ret
    exact ⟨rfl, hb1⟩
  · have hab := Lib.hid (@match_both s.toList t.toList)
    have hac := Lib.hid (@match_trans s.toList t.toList u.toList)
    go_enter Try.func9, Try.ntmps9
    go_wp2_with fail
    refine (hmatch_any s s _ hs4 hs4).mono ?_
    rintro e w1 ⟨rfl, hb1⟩
    rw [match_self]
    go_wp2_with fail
    refine (refCanonical_any s _ hs4).mono ?_
    rintro e w2 ⟨rfl, hb2⟩
    have hb3 := bel_call hb1 hb2
    clear hb2 hb1
    go_wp2_with fail
    refine (hmatch_any s t _ hs4 ht4).mono ?_
    rintro e w4 ⟨rfl, hb4⟩
    have hb5 := bel_call hb3 hb4
    clear hb4 hb3
    cases hm1 : matchB s.toList t.toList
    · go_wp2_with fail
      refine (hmatch_any s t _ hs4 ht4).mono ?_
      rintro e w6 ⟨rfl, hb6⟩
      have hb7 := bel_call hb5 hb6
      clear hb6 hb5
      rw [hm1]
      go_wp2_with fail
      refine (awake08 _).mono ?_
      rintro e w8 ⟨rfl, hb8⟩
      have hb9 := bel_call hb7 hb8
      go_wp2
      go_ret
      exact ⟨rfl, hb9⟩
    · have hM1 := Lib.hid hm1
      replace hab := Lib.hid (hab.out hm1)
      replace hac := Lib.hid (hac.out hm1)
      clear hm1
      go_wp2_with fail
      refine (hmatch_any t s _ ht4 hs4).mono ?_
      rintro e w6 ⟨rfl, hb6⟩
      have hb7 := bel_call hb5 hb6
      clear hb6 hb5
      have hcs : matchB t.toList s.toList = false ∨ (matchB t.toList s.toList = true ∧ (s.toList == t.toList) = true) := by
        cases h : matchB t.toList s.toList
        · exact .inl rfl
        · exact .inr ⟨rfl, hab.out h⟩
      rcases hcs with h4 | ⟨h4, h5⟩
      all_goals
        rw [h4]
        go_wp2_with fail
        refine (hmatch_any s t _ hs4 ht4).mono ?_
        rintro e w8 ⟨rfl, hb8⟩
        have hb9 := bel_call hb7 hb8
        clear hb8 hb7
        rw [hM1.out]
        go_wp2_with fail
        refine (hmatch_any t u _ ht4 hu4).mono ?_
        rintro e w10 ⟨rfl, hb10⟩
        have hb11 := bel_call hb9 hb10
        clear hb10 hb9
        cases hm2 : matchB t.toList u.toList
        · clear hm2
          go_wp2_with fail
          refine (awake08 _).mono ?_
          rintro e w12 ⟨rfl, hb12⟩
          have hb13 := bel_call hb11 hb12
          go_wp2
          go_ret
          exact ⟨rfl, hb13⟩
        · replace hac := Lib.hid (hac.out hm2)
          clear hm2
          go_wp2_with fail
          refine (hmatch_any s u _ hs4 hu4).mono ?_
          rintro e w12 ⟨rfl, hb12⟩
          have hb13 := bel_call hb11 hb12
          clear hb12 hb11
          rw [hac.out]
          go_wp2_with fail
          refine (awake08 _).mono ?_
          rintro e w14 ⟨rfl, hb14⟩
          have hb15 := bel_call hb13 hb14
          go_wp2
          go_ret
          exact ⟨rfl, hb15⟩
end Go.Proofs.Ytonohkckflgcbaa
