/-
  The walks of the reference's addresses: names, ports, Parse.
-/
import Derived.Test.YtbijphfendaddaaUri4
namespace Go.Proofs.Ytbijphfendaddaa
open Go.RowKit
set_option linter.unusedVariables false

theorem nameK_br {l : List UInt8} (h : Lib.hasPrefix l [91] = true) : (findL l 93 = -1 ∧ nameK l = l.length) ∨ (0 ≤ findL l 93 ∧ (nameK l : Int) = findL l 93 + 1) := by
  unfold nameK findL
  rw [h, if_pos rfl]
  cases hc : cutL l 93 with
  | none => exact .inl ⟨rfl, rfl⟩
  | some p => exact .inr ⟨by simp, by simp⟩
theorem prefix_91 (l : List UInt8) : Lib.hasPrefix l [91] = (decide (0 < l.length) && l.getD 0 0 == 91) := by
  cases l with
  | nil => rfl
  | cons a b =>
    show (([91] : List UInt8).isPrefixOf (a :: b)) = _
    rw [List.isPrefixOf]
    simp [Bool.beq_eq_decide_eq]
    exact eq_comm

set_option maxHeartbeats 1000000 in
theorem rname_any (l : List UInt8) (w : World) (hl : l.length ≤ 4294967280) :
    Calls Try.prog 54 #[.string (S l)] w fun e w' => e = .returned (.int .i64 (nameK l)) ∧ w = w' := by
  have hz : (S l).size ≤ maxLen := by rw [S_size]; unfold maxLen; omega
  by_cases h0 : 0 < l.length
  case neg =>
    obtain rfl : l = [] := List.eq_nil_of_length_eq_zero (by omega)
    go_enter Try.func54, Try.ntmps54
    go_wp2_with fail
    refine (rfind_any [] [58] _ (by decide) (by decide)).mono ?_
    rintro e w' ⟨rfl, rfl⟩
    go_wp2
    go_ret
    exact ⟨rfl, rfl⟩
  have h0i : (0 : Int) < l.length := by omega
  have hg : ∀ h, (S l)[0]'h = l.getD 0 0 := fun h => by rw [get_l _ _ h, S_toList]
  have hP := prefix_91 l
  rw [decide_eq_true h0, Bool.true_and] at hP
  have hne := eqc (a := l.getD 0 0) (i := 91) 91 rfl
  cases hq : (l.getD 0 0 == 91)
  · rw [hq] at hP hne
    have hT := Lib.hid (show nameK l = findAny l [58] by unfold nameK; rw [hP]; rfl)
    clear hP hq
    generalize l.getD 0 0 = c0 at *
    go_enter Try.func54, Try.ntmps54
    go_wp2_with fail
    refine (rfind_any l [58] _ (by unfold maxLen; omega) (by decide)).mono ?_
    rintro e w' ⟨rfl, rfl⟩
    go_wp2
    go_ret
    rw [hT.out]
    exact ⟨rfl, rfl⟩
  · rw [hq] at hP hne
    rcases nameK_br hP with ⟨h1, h2⟩ | ⟨h1, h2⟩
    · have hF := Lib.hid h1
      have hT := Lib.hid h2
      clear hP hq h1 h2
      generalize l.getD 0 0 = c0 at *
      go_enter Try.func54, Try.ntmps54
      go_wp2_with fail
      refine (refFind_any (S l) 93 _ hz).mono ?_
      rintro e w' ⟨rfl, rfl⟩
      rw [S_toList, hF.out]
      go_wp2
      go_ret
      rw [hT.out]
      exact ⟨rfl, rfl⟩
    · have hT := Lib.hid h2
      have hb := nameK_le l
      have hb2 : findL l 93 ≤ 4294967296 := by omega
      clear hP hq h2 hb
      generalize l.getD 0 0 = c0 at *
      go_enter Try.func54, Try.ntmps54
      go_wp2_with fail
      refine (refFind_any (S l) 93 _ hz).mono ?_
      rintro e w' ⟨rfl, rfl⟩
      rw [S_toList]
      generalize findL l 93 = n at *
      go_wp2
      go_ret
      rw [hT.out]
      exact ⟨rfl, rfl⟩

theorem digN_pos {l : List UInt8} (h : digN l = l.length) (h0 : 0 < l.length) : numOk l = true ∧ numNeg l = false := by
  have hn : numNeg l = false := by
    unfold numNeg
    have hd := digN_all l 0 (by omega)
    unfold digitB at hd
    rw [decide_eq_true_iff] at hd
    have : (l.getD 0 0 == 45) = false := by
      rw [beq_eq_false_iff_ne]
      intro e; rw [e] at hd; revert hd; decide
    rw [this]; simp
  refine ⟨?_, hn⟩
  have e : numT l = l := by unfold numT; rw [hn]; simp
  unfold numOk
  rw [e, h]
  simp [h0]

set_option maxHeartbeats 2000000 in
theorem rport_any (l : List UInt8) (w : World) (hl : l.length ≤ 4294967280) :
    Calls Try.prog 56 #[.string (S l)] w fun e w' => e = .returned (.bool (portB l)) ∧ w = w' := by
  have hT0 := Lib.hid (show portB l = (l == [] || (l.getD 0 0 == 58 && decide (l.length ≤ 6) && (l == [58] || (decide (digN (l.drop 1) = l.length - 1) && decide (numV (l.drop 1) ≤ 65535))))) from rfl)
  by_cases h0 : l = []
  · subst h0
    go_enter Try.func56, Try.ntmps56
    go_wp2
    go_ret
    exact ⟨rfl, rfl⟩
  by_cases h58 : l = [58]
  · subst h58
    go_enter Try.func56, Try.ntmps56
    go_wp2
    go_ret
    exact ⟨rfl, rfl⟩
  have hq0 : (l == []) = false := by rw [beq_eq_false_iff_ne]; exact h0
  have hq1 : (l == [58]) = false := by rw [beq_eq_false_iff_ne]; exact h58
  have hpos : 0 < l.length := List.length_pos_iff.2 h0
  have hpi : (0 : Int) < l.length := by omega
  have hpi1 : (1 : Int) ≤ l.length := by omega
  rw [hq0, hq1, Bool.false_or, Bool.false_or] at hT0
  have hg : ∀ h, (S l)[0]'h = l.getD 0 0 := fun h => by rw [get_l _ _ h, S_toList]
  have hne := nec (a := l.getD 0 0) (i := 58) 58 rfl
  have hx1 : (S l).extract 1 l.length = S (l.drop 1) := by rw [show l.length = (S l).size from (S_size l).symm, extract_from, S_toList]
  have hzd : (S (l.drop 1)).size ≤ maxLen := by rw [S_size]; unfold maxLen; simp; omega
  cases hc : (l.getD 0 0 == 58)
  · rw [hc] at hne hT0
    have hT := Lib.hid (show portB l = false from hT0.out)
    clear hT0 hc h0 h58 hx1
    generalize l.getD 0 0 = c0 at *
    go_enter Try.func56, Try.ntmps56
    go_wp2
    go_ret
    rw [hT.out]
    exact ⟨rfl, rfl⟩
  rw [hc] at hne hT0
  rw [Bool.true_and] at hT0
  clear hc h0 h58
  generalize l.getD 0 0 = c0 at *
  by_cases h6 : 6 < l.length
  · have hT := Lib.hid (show portB l = false by rw [hT0.out, decide_eq_false (show ¬ l.length ≤ 6 by omega)]; rfl)
    have h6i : (6 : Int) < l.length := by omega
    clear hT0 hx1
    go_enter Try.func56, Try.ntmps56
    go_wp2
    go_ret
    rw [hT.out]
    exact ⟨rfl, rfl⟩
  have h6i : (l.length : Int) ≤ 6 := by omega
  rw [decide_eq_true (show l.length ≤ 6 by omega), Bool.true_and] at hT0
  have hsub : IntKind.i64.wrap ((l.length : Int) - 1) = (l.length : Int) - 1 := IntWalk.i64_in _ (by omega)
  by_cases hd : digN (l.drop 1) = l.length - 1
  · rw [decide_eq_true hd, Bool.true_and] at hT0
    have hbne : (((digN (l.drop 1) : Nat) : Int) != (l.length : Int) - 1) = false := by rw [bne_eq_false_iff_eq]; omega
    have hT := Lib.hid hT0.out
    clear hT0 hd
    generalize hdd : l.drop 1 = d at *
    clear hdd
    obtain ⟨dn, hdn⟩ : ∃ n, digN d = n := ⟨_, rfl⟩
    rw [hdn] at hbne
    have hdnH := Lib.hid hdn
    clear hdn
    obtain ⟨v, hv⟩ : ∃ v, numV d = v := ⟨_, rfl⟩
    rw [hv] at hT
    have hvH := Lib.hid hv
    clear hv
    go_enter Try.func56, Try.ntmps56
    go_wp2_with fail
    refine (refDigits_any (S d) _ hzd).mono ?_
    rintro e w' ⟨rfl, rfl⟩
    rw [S_toList, hdnH.out]
    go_wp2_with fail
    refine (refNumber_any (S d) _ hzd).mono ?_
    rintro e w' ⟨rfl, rfl⟩
    rw [S_toList, hvH.out]
    generalize numOk d = ok at *
    by_cases hle : v ≤ 65535
    · have hT2 := Lib.hid (show portB l = true by rw [hT.out, decide_eq_true hle])
      go_wp2
      go_ret
      rw [hT2.out]
      exact ⟨rfl, rfl⟩
    · have hT2 := Lib.hid (show portB l = false by rw [hT.out, decide_eq_false hle])
      go_wp2
      go_ret
      rw [hT2.out]
      exact ⟨ret_bool (decide_eq_false (by omega)), rfl⟩
  · rw [decide_eq_false hd] at hT0
    have hbne : (((digN (l.drop 1) : Nat) : Int) != (l.length : Int) - 1) = true := by rw [bne_iff_ne]; omega
    have hT := Lib.hid (show portB l = false from hT0.out)
    clear hT0 hd
    generalize hdd : l.drop 1 = d at *
    clear hdd
    obtain ⟨dn, hdn⟩ : ∃ n, digN d = n := ⟨_, rfl⟩
    rw [hdn] at hbne
    have hdnH := Lib.hid hdn
    clear hdn
    go_enter Try.func56, Try.ntmps56
    go_wp2_with fail
    refine (refDigits_any (S d) _ hzd).mono ?_
    rintro e w' ⟨rfl, rfl⟩
    rw [S_toList, hdnH.out]
    go_wp2
    go_ret
    rw [hT.out]
    exact ⟨rfl, rfl⟩

theorem path_ref (q : List UInt8) : (if Lib.hasPrefix q [47] then q else 47 :: q) = if q = [] ∨ (q.getD 0 0 == 47) = false then 47 :: q else q := by
  cases q with
  | nil => rfl
  | cons a b =>
    have e : Lib.hasPrefix (a :: b) [47] = (a == 47) := by
      show (([47] : List UInt8).isPrefixOf (a :: b)) = _
      rw [List.isPrefixOf]
      simp [Bool.beq_eq_decide_eq]
      exact eq_comm
    rw [e]
    show (if (a == 47) = true then a :: b else 47 :: a :: b) = if a :: b = [] ∨ (a == 47) = false then 47 :: a :: b else a :: b
    cases h : (a == 47)
    · rw [if_neg (by decide), if_pos (.inr rfl)]
    · rw [if_pos rfl, if_neg (by simp)]

theorem sch_one {l : List UInt8} (h : (schT l).2 = true) : (schT l).1 = (lowerL l == [104, 116, 116, 112, 115]) ∧ ((lowerL l == [104, 116, 116, 112]) = true ∨ (lowerL l == [104, 116, 116, 112, 115]) = true) := by
  unfold schT at *
  by_cases h1 : lowerL l = [104, 116, 116, 112, 115]
  · rw [if_pos h1]; simp [h1]
  · rw [if_neg h1] at h ⊢
    by_cases h2 : lowerL l = [104, 116, 116, 112]
    · rw [if_pos h2]; simp [h2]
    · rw [if_neg h2] at h; cases h
theorem sch_no {l : List UInt8} (h : (schT l).2 = false) : (lowerL l == [104, 116, 116, 112]) = false ∧ (lowerL l == [104, 116, 116, 112, 115]) = false := by
  unfold schT at h
  by_cases h1 : lowerL l = [104, 116, 116, 112, 115]
  · rw [if_pos h1] at h; cases h
  · rw [if_neg h1] at h
    by_cases h2 : lowerL l = [104, 116, 116, 112]
    · rw [if_pos h2] at h; cases h
    · exact ⟨beq_eq_false_iff_ne.2 h2, beq_eq_false_iff_ne.2 h1⟩

/-- Where the reference's Parse stands: the result's block, and what was there before. -/
def UrSt (w W : World) : Prop := Blk W w.heap.size 37 (rqC rq0) ∧ Below w.heap.size w W
theorem UrSt.next {w W W' : World} (h : UrSt w W) (hb : Below W.heap.size W W') : UrSt w W' := ⟨h.1.below hb, bel_call h.2 hb⟩

set_option maxHeartbeats 8000000 in
theorem refParse10_any (l : List UInt8) (w : World) (hl : l.length ≤ 4294967280) :
    Calls Try.prog 22 #[.string (S l)] w fun e w' => e = .returned (.tuple #[rqV (parseU l).1, .int .i64 (parseU l).2]) ∧ Below w.heap.size w w' := by
  have hB0 := bel_alloc (Below.refl w.heap.size w) (.cells (rqC rq0) 37)
  by_cases h1 : 1024 < l.length
  · have hT := Lib.hid (show parseU l = (rq0, 3) by unfold parseU; rw [if_pos h1])
    have h1i : (1024 : Int) < l.length := by omega
    clear h1
    go_enter Try.func22, Try.ntmps22
    go_wp2_with fail
    refine bodyPost_ret (v := .tuple #[rqV rq0, .int .i64 3]) (by simp [results, Try.results22, go_sem]; rfl) rfl ?_
    rw [hT.out]
    exact ⟨rfl, hB0⟩
  have hS0 : UrSt w (w.alloc (.cells (rqC rq0) 37)) := ⟨Blk.new_ w _ _, hB0⟩
  have h1i : (l.length : Int) ≤ 1024 := by omega
  have hT1 := Lib.hid (show parseU l = _ from if_neg h1)
  clear h1 hB0
  by_cases hv : visB l = false ∨ wordI l < 0
  · have hT := Lib.hid (hT1.out.trans (if_pos hv))
    have hcs : visB l = false ∨ (visB l = true ∧ wordI l < 0) := by cases h : visB l <;> simp_all
    clear hT1 hv
    rcases hcs with h | ⟨h, h'⟩
    all_goals
      have hH := Lib.hid h
      clear h
      go_enter Try.func22, Try.ntmps22
      go_wp2_with fail
      refine (rword_any l _ hl).mono ?_
      rintro e w' ⟨rfl, rfl⟩
      go_wp2_with fail
      refine (refVisible_any l _ (by unfold maxLen; omega)).mono ?_
      rintro e w' ⟨rfl, rfl⟩
      rw [hH.out]
      generalize wordI l = wi at *
      go_wp2_with fail
      refine bodyPost_ret (v := .tuple #[rqV rq0, .int .i64 1]) (by simp [results, Try.results22, go_sem]; rfl) rfl ?_
      rw [hT.out]
      exact ⟨rfl, hS0.2⟩
  have hT2 := Lib.hid (hT1.out.trans (if_neg hv))
  rw [not_or] at hv
  have hvH := Lib.hid (show visB l = true by simpa using hv.1)
  have hw0 : 0 ≤ wordI l := by omega
  have hwr : wordI l + 3 ≤ l.length := Lib.index_room l [58, 47, 47] hw0
  obtain ⟨i, hi⟩ : ∃ i : Nat, wordI l = i := ⟨(wordI l).toNat, by omega⟩
  have hiH := Lib.hid hi
  have hx1 : (S l).extract 0 i = S (l.take i) := by rw [extract_to, S_toList]
  have hx2 : (S l).extract (i + 3) l.length = S (restU l) := by
    rw [show l.length = (S l).size from (S_size l).symm, extract_from, S_toList]
    unfold restU
    rw [hi]; rfl
  have hi3 : (i : Int) + 3 ≤ l.length := by omega
  have hr1 : (restU l).length ≤ 1024 := by unfold restU; rw [List.length_drop]; omega
  have hwl : (S (l.take i)).size ≤ 4294967296 := by rw [S_size, List.length_take]; omega
  rw [hi] at hT2
  have hin : (i : Int).toNat = i := rfl
  rw [hin] at hT2
  clear hT1 hv hw0 hwr hi hin
  cases hsc : (schT (l.take i)).2
  · have hT := Lib.hid (hT2.out.trans (if_pos hsc))
    obtain ⟨hq1, hq2⟩ := sch_no hsc
    clear hT2 hsc hx2
    go_enter Try.func22, Try.ntmps22
    go_wp2_with fail
    refine (rword_any l _ hl).mono ?_
    rintro e w' ⟨rfl, rfl⟩
    rw [hiH.out]
    go_wp2_with fail
    refine (refVisible_any l _ (by unfold maxLen; omega)).mono ?_
    rintro e w' ⟨rfl, rfl⟩
    rw [hvH.out]
    go_wp2_with fail
    refine (refLower_any _ _ hwl).mono ?_
    rintro e w2 ⟨rfl, hb2⟩
    rw [S_toList]
    have hS2 := hS0.next hb2
    clear hb2 hS0
    obtain ⟨hR, hbel⟩ := hS2
    obtain ⟨r0, r1, r2, r3, rf⟩ := rq_cells hR
    generalize lowerL (l.take i) = ll at *
    go_wp2_with fail
    refine bodyPost_ret (v := .tuple #[rqV rq0, .int .i64 15]) (by simp [results, Try.results22, go_sem, r0, r1, r2, r3]; rfl) rfl ?_
    rw [hT.out]
    refine ⟨rfl, ?_⟩
    exact (((hbel.setCell (Nat.le_refl _) _).setCell (Nat.le_refl _) _).setCell (Nat.le_refl _) _).setCell (Nat.le_refl _) _
  have hT3 := Lib.hid (show parseU l = if canonB (lowerL (hostU (whereU (restU l)))) = false ∨ portB (tailU (whereU (restU l))) = false then (rq0, 1) else (⟨lowerL (hostU (whereU (restU l))), pathU (behindU (restU l)), (schT (l.take i)).1, false⟩, 0) from hT2.out.trans (if_neg (by rw [hsc]; simp)))
  obtain ⟨hs1, hs2⟩ := sch_one hsc
  rw [hs1] at hT3
  clear hT2 hsc hs1
  generalize restU l = r at *
  have hk1 := findAny_le r [47, 63, 35]
  have hyl : (behindU r).length ≤ 1024 := by unfold behindU; rw [List.length_drop]; omega
  have hxl : (whereU r).length ≤ 1024 := by unfold whereU; rw [List.length_take]; omega
  have hxk : (whereU r).length = findAny r [47, 63, 35] := by unfold whereU; rw [List.length_take]; omega
  have hnk := nameK_le (whereU r)
  have hy0 : (S r).extract (findAny r [47, 63, 35]) r.length = S (behindU r) := by
    rw [show r.length = (S r).size from (S_size r).symm, extract_from, S_toList]; rfl
  have hx0 : (S r).extract 0 (findAny r [47, 63, 35]) = S (whereU r) := by rw [extract_to, S_toList]; rfl
  have hx3 : (S r).extract 0 (nameK (whereU r)) = S (hostU (whereU r)) := by
    rw [extract_to, S_toList]
    unfold hostU
    conv => rhs; unfold whereU
    rw [List.take_take]
    congr 2
    rw [show r.take (findAny r [47, 63, 35]) = whereU r from rfl]
    omega
  have hx4 : (S r).extract (nameK (whereU r)) (findAny r [47, 63, 35]) = S (tailU (whereU r)) := by
    rw [extract_S, S_toList]
    unfold tailU
    conv => rhs; unfold whereU
    rw [List.drop_take]
    rfl
  obtain ⟨k, hk⟩ : ∃ k, findAny r [47, 63, 35] = k := ⟨_, rfl⟩
  obtain ⟨n, hn⟩ : ∃ n, nameK (whereU r) = n := ⟨_, rfl⟩
  have hkH := Lib.hid hk
  have hnH := Lib.hid hn
  rw [hk] at hk1 hxk hy0 hx0 hx4
  rw [hn] at hnk hx3 hx4
  clear hk hn
  have hl3 : (hostU (whereU r)).length ≤ 1024 := by unfold hostU; rw [List.length_take]; omega
  have hl4 : (tailU (whereU r)).length ≤ 1024 := by unfold tailU; rw [List.length_drop]; omega
  have hki : (k : Int) ≤ r.length := by omega
  have hni : (n : Int) ≤ k := by omega
  have hni2 : (n : Int) ≤ r.length := by omega
  rw [S_size] at hwl
  generalize behindU r = y at *
  generalize whereU r = x at *
  have hc1 := findAny_le y [63, 35]
  have hy1 : (S y).extract 0 (findAny y [63, 35]) = S (cutU y) := by rw [extract_to, S_toList]; rfl
  have hPE := Lib.hid ((pathU_eq y).trans (path_ref (cutU y)))
  have hcl : (cutU y).length ≤ 1024 := by unfold cutU; rw [List.length_take]; omega
  obtain ⟨m, hm⟩ : ∃ m, findAny y [63, 35] = m := ⟨_, rfl⟩
  have hmH := Lib.hid hm
  rw [hm] at hc1 hy1
  clear hm
  have hmi : (m : Int) ≤ y.length := by omega
  generalize cutU y = q at *
  generalize hostU x = h at *
  generalize tailU x = t at *
  have hzh : (S h).size ≤ 4294967296 := by rw [S_size]; omega
  have hzl : (S (lowerL h)).size ≤ 4294967296 := by rw [S_size, lowerL_len]; omega
  have hzw : (S (l.take i)).size ≤ 4294967296 := by rw [S_size]; omega
  go_enter Try.func22, Try.ntmps22
  go_wp2_with fail
  refine (rword_any l _ hl).mono ?_
  rintro e w' ⟨rfl, rfl⟩
  rw [hiH.out]
  go_wp2_with fail
  refine (refVisible_any l _ (by unfold maxLen; omega)).mono ?_
  rintro e w' ⟨rfl, rfl⟩
  rw [hvH.out]
  go_wp2_with fail
  refine (refLower_any _ _ hzw).mono ?_
  rintro e w2 ⟨rfl, hb2⟩
  rw [S_toList]
  have hS2 := hS0.next hb2
  clear hb2 hS0
  generalize lowerL (l.take i) = ll at *
  have hcs : ((ll == [104, 116, 116, 112]) = true ∧ (ll == [104, 116, 116, 112, 115]) = false) ∨ ((ll == [104, 116, 116, 112]) = false ∧ (ll == [104, 116, 116, 112, 115]) = true) := by
    rcases hs2 with h | h
    · have e := (beq_iff_eq.1 h); subst e; exact .inl ⟨rfl, rfl⟩
    · have e := (beq_iff_eq.1 h); subst e; exact .inr ⟨rfl, rfl⟩
  clear hs2
  rcases hcs with ⟨q1, q2⟩ | ⟨q1, q2⟩
  · rw [q2] at hT3
    go_wp2_with fail
    refine (rfind_any r [47, 63, 35] _ (by unfold maxLen; omega) (by decide)).mono ?_
    rintro e w' ⟨rfl, rfl⟩
    rw [hkH.out]
    go_wp2_with fail
    refine (rname_any x _ (by omega)).mono ?_
    rintro e w' ⟨rfl, rfl⟩
    rw [hnH.out]
    go_wp2_with fail
    refine (refLower_any _ _ hzh).mono ?_
    rintro e w3 ⟨rfl, hb3⟩
    rw [S_toList]
    have hS3 := hS2.next hb3
    clear hb3 hS2
    generalize lowerL h = hh at *
    go_wp2_with fail
    refine (refCanonical_any _ _ hzl).mono ?_
    rintro e w4 ⟨rfl, hb4⟩
    rw [S_toList]
    have hS4 := hS3.next hb4
    clear hb4 hS3
    obtain ⟨hR, hbel⟩ := hS4
    obtain ⟨r0, r1, r2, r3, rf⟩ := rq_cells hR
    cases hcb : canonB hh
    · have hT := Lib.hid (hT3.out.trans (if_pos (.inl hcb)))
      clear hT3 hcb
      go_wp2_with fail
      refine bodyPost_ret (v := .tuple #[rqV rq0, .int .i64 1]) (by simp [results, Try.results22, go_sem, r0, r1, r2, r3]; rfl) rfl ?_
      rw [hT.out]
      refine ⟨rfl, ?_⟩
      exact (((hbel.setCell (Nat.le_refl _) _).setCell (Nat.le_refl _) _).setCell (Nat.le_refl _) _).setCell (Nat.le_refl _) _
    go_wp2_with fail
    refine (rport_any t _ (by omega)).mono ?_
    rintro e w' ⟨rfl, rfl⟩
    cases hpb : portB t
    · have hT := Lib.hid (hT3.out.trans (if_pos (.inr hpb)))
      clear hT3 hcb hpb
      go_wp2_with fail
      refine bodyPost_ret (v := .tuple #[rqV rq0, .int .i64 1]) (by simp [results, Try.results22, go_sem, r0, r1, r2, r3]; rfl) rfl ?_
      rw [hT.out]
      refine ⟨rfl, ?_⟩
      exact (((hbel.setCell (Nat.le_refl _) _).setCell (Nat.le_refl _) _).setCell (Nat.le_refl _) _).setCell (Nat.le_refl _) _
    have hT := Lib.hid (hT3.out.trans (if_neg (by rw [hcb, hpb]; simp)))
    clear hT3 hcb hpb
    go_wp2_with fail
    refine (rfind_any y [63, 35] _ (by unfold maxLen; omega) (by decide)).mono ?_
    rintro e w' ⟨rfl, rfl⟩
    rw [hmH.out]
    by_cases hq0 : q = []
    · subst hq0
      have hP := Lib.hid (show pathU y = [47] by rw [hPE.out]; rfl)
      clear hPE
      go_wp2_with fail
      refine bodyPost_ret (v := .tuple #[rqV ⟨hh, [47], false, false⟩, .int .i64 0]) (by simp [results, Try.results22, go_sem, r0, r1, r2, r3]; rfl) rfl ?_
      rw [hT.out, hP.out]
      refine ⟨rfl, ?_⟩
      exact (((hbel.setCell (Nat.le_refl _) _).setCell (Nat.le_refl _) _).setCell (Nat.le_refl _) _).setCell (Nat.le_refl _) _
    have hqb : (q == []) = false := by rw [beq_eq_false_iff_ne]; exact hq0
    have hqp : 0 < q.length := List.length_pos_iff.2 hq0
    have hg : ∀ h, (S q)[0]'h = q.getD 0 0 := fun h => by rw [get_l _ _ h, S_toList]
    have hne := nec (a := q.getD 0 0) (i := 47) 47 rfl
    cases hq4 : (q.getD 0 0 == 47)
    · have hP := Lib.hid (show pathU y = 47 :: q by rw [hPE.out, if_pos (.inr hq4)])
      rw [hq4] at hne
      clear hPE hq4 hq0
      generalize q.getD 0 0 = c0 at *
      go_wp2_with fail
      refine bodyPost_ret (v := .tuple #[rqV ⟨hh, 47 :: q, false, false⟩, .int .i64 0]) (by simp [results, Try.results22, go_sem, r0, r1, r2, r3]; rfl) rfl ?_
      rw [hT.out, hP.out]
      refine ⟨rfl, ?_⟩
      exact (((hbel.setCell (Nat.le_refl _) _).setCell (Nat.le_refl _) _).setCell (Nat.le_refl _) _).setCell (Nat.le_refl _) _
    · have hP := Lib.hid (show pathU y = q by rw [hPE.out, if_neg (by rw [hq4]; simp [hq0])])
      rw [hq4] at hne
      clear hPE hq4 hq0
      generalize q.getD 0 0 = c0 at *
      go_wp2_with fail
      refine bodyPost_ret (v := .tuple #[rqV ⟨hh, q, false, false⟩, .int .i64 0]) (by simp [results, Try.results22, go_sem, r0, r1, r2, r3]; rfl) rfl ?_
      rw [hT.out, hP.out]
      refine ⟨rfl, ?_⟩
      exact (((hbel.setCell (Nat.le_refl _) _).setCell (Nat.le_refl _) _).setCell (Nat.le_refl _) _).setCell (Nat.le_refl _) _
  · rw [q2] at hT3
    go_wp2_with fail
    refine (rfind_any r [47, 63, 35] _ (by unfold maxLen; omega) (by decide)).mono ?_
    rintro e w' ⟨rfl, rfl⟩
    rw [hkH.out]
    go_wp2_with fail
    refine (rname_any x _ (by omega)).mono ?_
    rintro e w' ⟨rfl, rfl⟩
    rw [hnH.out]
    go_wp2_with fail
    refine (refLower_any _ _ hzh).mono ?_
    rintro e w3 ⟨rfl, hb3⟩
    rw [S_toList]
    have hS3 := hS2.next hb3
    clear hb3 hS2
    generalize lowerL h = hh at *
    go_wp2_with fail
    refine (refCanonical_any _ _ hzl).mono ?_
    rintro e w4 ⟨rfl, hb4⟩
    rw [S_toList]
    have hS4 := hS3.next hb4
    clear hb4 hS3
    obtain ⟨hR, hbel⟩ := hS4
    obtain ⟨r0, r1, r2, r3, rf⟩ := rq_cells hR
    cases hcb : canonB hh
    · have hT := Lib.hid (hT3.out.trans (if_pos (.inl hcb)))
      clear hT3 hcb
      go_wp2_with fail
      refine bodyPost_ret (v := .tuple #[rqV rq0, .int .i64 1]) (by simp [results, Try.results22, go_sem, r0, r1, r2, r3]; rfl) rfl ?_
      rw [hT.out]
      refine ⟨rfl, ?_⟩
      exact (((hbel.setCell (Nat.le_refl _) _).setCell (Nat.le_refl _) _).setCell (Nat.le_refl _) _).setCell (Nat.le_refl _) _
    go_wp2_with fail
    refine (rport_any t _ (by omega)).mono ?_
    rintro e w' ⟨rfl, rfl⟩
    cases hpb : portB t
    · have hT := Lib.hid (hT3.out.trans (if_pos (.inr hpb)))
      clear hT3 hcb hpb
      go_wp2_with fail
      refine bodyPost_ret (v := .tuple #[rqV rq0, .int .i64 1]) (by simp [results, Try.results22, go_sem, r0, r1, r2, r3]; rfl) rfl ?_
      rw [hT.out]
      refine ⟨rfl, ?_⟩
      exact (((hbel.setCell (Nat.le_refl _) _).setCell (Nat.le_refl _) _).setCell (Nat.le_refl _) _).setCell (Nat.le_refl _) _
    have hT := Lib.hid (hT3.out.trans (if_neg (by rw [hcb, hpb]; simp)))
    clear hT3 hcb hpb
    go_wp2_with fail
    refine (rfind_any y [63, 35] _ (by unfold maxLen; omega) (by decide)).mono ?_
    rintro e w' ⟨rfl, rfl⟩
    rw [hmH.out]
    by_cases hq0 : q = []
    · subst hq0
      have hP := Lib.hid (show pathU y = [47] by rw [hPE.out]; rfl)
      clear hPE
      go_wp2_with fail
      refine bodyPost_ret (v := .tuple #[rqV ⟨hh, [47], true, false⟩, .int .i64 0]) (by simp [results, Try.results22, go_sem, r0, r1, r2, r3]; rfl) rfl ?_
      rw [hT.out, hP.out]
      refine ⟨rfl, ?_⟩
      exact (((hbel.setCell (Nat.le_refl _) _).setCell (Nat.le_refl _) _).setCell (Nat.le_refl _) _).setCell (Nat.le_refl _) _
    have hqb : (q == []) = false := by rw [beq_eq_false_iff_ne]; exact hq0
    have hqp : 0 < q.length := List.length_pos_iff.2 hq0
    have hg : ∀ h, (S q)[0]'h = q.getD 0 0 := fun h => by rw [get_l _ _ h, S_toList]
    have hne := nec (a := q.getD 0 0) (i := 47) 47 rfl
    cases hq4 : (q.getD 0 0 == 47)
    · have hP := Lib.hid (show pathU y = 47 :: q by rw [hPE.out, if_pos (.inr hq4)])
      rw [hq4] at hne
      clear hPE hq4 hq0
      generalize q.getD 0 0 = c0 at *
      go_wp2_with fail
      refine bodyPost_ret (v := .tuple #[rqV ⟨hh, 47 :: q, true, false⟩, .int .i64 0]) (by simp [results, Try.results22, go_sem, r0, r1, r2, r3]; rfl) rfl ?_
      rw [hT.out, hP.out]
      refine ⟨rfl, ?_⟩
      exact (((hbel.setCell (Nat.le_refl _) _).setCell (Nat.le_refl _) _).setCell (Nat.le_refl _) _).setCell (Nat.le_refl _) _
    · have hP := Lib.hid (show pathU y = q by rw [hPE.out, if_neg (by rw [hq4]; simp [hq0])])
      rw [hq4] at hne
      clear hPE hq4 hq0
      generalize q.getD 0 0 = c0 at *
      go_wp2_with fail
      refine bodyPost_ret (v := .tuple #[rqV ⟨hh, q, true, false⟩, .int .i64 0]) (by simp [results, Try.results22, go_sem, r0, r1, r2, r3]; rfl) rfl ?_
      rw [hT.out, hP.out]
      refine ⟨rfl, ?_⟩
      exact (((hbel.setCell (Nat.le_refl _) _).setCell (Nat.le_refl _) _).setCell (Nat.le_refl _) _).setCell (Nat.le_refl _) _
end Go.Proofs.Ytbijphfendaddaa
