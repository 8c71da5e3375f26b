/-
  Joined texts: HostPlain Host6 Host7 Host8.
-/
import Derived.Test.YtgfoaopfdpclhaaGreatDoorBu3
import Derived.Test.YtgfoaopfdpclhaaGreatDoorBu12
import Derived.StillTailTactics
import Derived.Deep.RegionHeld3
namespace Go.Proofs.YtgfoaopfdpclhaaGreatDoor
open Go.RowKit
set_option linter.unusedVariables false
set_option maxRecDepth 100000

def refSignB (c : UInt8) : Bool := decide ((97 ≤ c.toNat ∧ c.toNat ≤ 122) ∨ (48 ≤ c.toNat ∧ c.toNat ≤ 57) ∨ c.toNat = 45 ∨ c.toNat = 95)
def refLabelB (l : List UInt8) : Bool := decide (1 ≤ l.length) && decide (l.length ≤ 63) && !(l.getD 0 0 == 45) && !(l.getD (l.length - 1) 0 == 45) && (List.range l.length).all fun j => refSignB (l.getD j 0)
def refPartB (p : List UInt8) : Bool := decide (1 ≤ p.length) && decide (p.length ≤ 3) && decide (digN p = p.length) && decide (numV p ≤ 255) && textL (numV p) == p
def refFourB (s : List UInt8) : Bool := decide ((splitL s 46).length = 4) && (splitL s 46).all refPartB
def refNameB (s : List UInt8) : Bool := decide (s.length ≤ 256) && !refFourB s && (splitL s 46).all refLabelB
def refCanonB (s : List UInt8) : Bool := decide (s.length ≤ 256) && (refNameB s || addrB s)
def refMatchB (h d : List UInt8) : Bool := refCanonB h && refCanonB d && (h == d || (refNameB h && decide (d.length < h.length) && h.getD (h.length - d.length - 1) 0 == 46 && h.drop (h.length - d.length) == d))

theorem is45 (c : UInt8) : (c == 45) = decide (c.toNat = 45) := by
  rw [Bool.eq_iff_iff, beq_iff_eq, decide_eq_true_eq]
  constructor
  · rintro rfl; rfl
  · intro h; exact UInt8.toNat_inj.1 h
theorem refLabel_eq (l : List UInt8) : refLabelB l = labelB l := by
  unfold refLabelB labelB
  rcases Nat.eq_zero_or_pos l.length with h0 | h0
  · rw [List.eq_nil_of_length_eq_zero h0]; rfl
  have he : l.isEmpty = false := by cases l <;> simp_all
  rw [he, decide_eq_true (by omega : 1 ≤ l.length)]
  by_cases h1 : l.length ≤ 63
  case neg => rw [decide_eq_false h1]; rfl
  rw [decide_eq_true h1]
  rw [Bool.eq_iff_iff]
  simp only [Bool.true_and, Bool.and_eq_true, Bool.not_eq_true', Bool.not_false, range_all, is45, decide_eq_false_iff_not]
  constructor
  · rintro ⟨⟨ha, hb⟩, h⟩ j hj
    have h2 := h j hj
    unfold refSignB at h2
    simp only [decide_eq_true_eq] at h2
    unfold signB
    by_cases h45 : (l.getD j 0).toNat = 45
    · rw [if_pos h45]
      have hj0 : j ≠ 0 := by rintro rfl; exact ha h45
      have hj1 : j ≠ l.length - 1 := by rintro rfl; exact hb h45
      simp [hj0, hj1]
    · rw [if_neg h45]; exact decide_eq_true (by omega)
  · intro h
    refine ⟨⟨?_, ?_⟩, ?_⟩
    · intro h45
      have := h 0 h0
      unfold signB at this
      rw [if_pos h45] at this
      simp at this
    · intro h45
      have := h (l.length - 1) (by omega)
      unfold signB at this
      rw [if_pos h45] at this
      simp at this
    · intro j hj
      have := h j hj
      unfold signB at this
      unfold refSignB
      apply decide_eq_true
      by_cases h45 : (l.getD j 0).toNat = 45
      · omega
      · rw [if_neg h45] at this
        simp only [decide_eq_true_eq] at this
        omega
theorem refPart_eq (p : List UInt8) : refPartB p = partB p := by
  rw [Bool.eq_iff_iff]
  unfold refPartB partB
  simp only [Bool.and_eq_true, Bool.not_eq_true', decide_eq_true_eq, decide_eq_false_iff_not, beq_iff_eq, Bool.and_eq_false_iff]
  constructor
  · rintro ⟨⟨⟨⟨h1, h2⟩, h3⟩, h4⟩, h5⟩
    have hne : p ≠ [] := by rintro rfl; simp at h1
    have hv := numV_digits hne h3
    have hb := valTo_bd p p.length (fun j hj => digN_all _ _ (by omega))
    refine ⟨⟨⟨by cases p <;> simp_all, by omega⟩, by omega⟩, ?_⟩
    by_cases hl : 1 < p.length
    · right
      rw [textL_pos (by omega)] at h5
      have := upL_zero (numV p).toNat (by rw [h5]; exact hl)
      rwa [h5] at this
    · left; exact hl
  · rintro ⟨⟨⟨h1, h2⟩, h3⟩, h4⟩
    have hne : p ≠ [] := by rintro rfl; simp at h1
    have hd : digN p = p.length := by have := digN_le p; omega
    have hv := numV_digits hne hd
    have hb := valTo_bd p p.length (fun j hj => digN_all _ _ (by omega))
    have hu := up_valTo p hne (fun j hj => digN_all _ _ (by omega)) (fun h => by rcases h4 with h4 | h4; exact absurd h h4; exact h4) (by omega)
    have hl := upL_len (valTo p p.length).toNat 3 (by omega) (by omega)
    rw [hu] at hl
    have : 0 < p.length := List.length_pos_iff.2 hne
    refine ⟨⟨⟨⟨by omega, hl⟩, hd⟩, by omega⟩, ?_⟩
    rw [textL_pos (by omega), hv, hu]
theorem refFour_eq (s : List UInt8) : refFourB s = fourB s := by
  unfold refFourB fourB
  rw [show refPartB = partB from funext refPart_eq]
/-- What is in brackets is no labels. -/
theorem bracket_no (s : List UInt8) (h : bracketB s = true) : (splitL s 46).all labelB = false := by
  have h91 : (s.getD 0 0 == 91) = true := by
    unfold bracketB at h
    simp only [Bool.and_eq_true] at h
    exact h.1.1.2
  cases s with
  | nil => exact absurd h91 (by decide)
  | cons x r =>
    have hx : x = 91 := by simpa using h91
    subst hx
    rw [split_miss (c := 46) r (by decide)]
    have hbad : ∀ y, labelB (91 :: y) = false := by
      intro y
      unfold labelB
      rw [range_bad (k := 0) (by simp) (by rfl), Bool.and_false]
    cases splitL r 46 with
    | nil => simp [hbad]
    | cons a b => simp [hbad]
theorem refName_eq (s : List UInt8) : refNameB s = nameB s := by
  unfold refNameB nameB addrB
  rw [refFour_eq, show refLabelB = labelB from funext refLabel_eq]
  cases hb : bracketB s
  · rw [Bool.or_false]
  · rw [bracket_no s hb, Bool.and_false, Bool.and_false]
theorem refCanon_eq (s : List UInt8) : refCanonB s = canonB s := by
  unfold refCanonB canonB
  rw [refName_eq]
  unfold nameB
  cases decide (s.length ≤ 256) <;> simp
theorem name_addr {s : List UInt8} (h : canonB s = true) : nameB s = !addrB s := by
  unfold canonB at h
  unfold nameB at *
  revert h
  cases decide (s.length ≤ 256) <;> cases addrB s <;> simp
theorem refMatch_eq (h d : List UInt8) : refMatchB h d = matchB h d := by
  unfold refMatchB matchB
  rw [refCanon_eq, refCanon_eq, refName_eq]
  cases hc : canonB h
  · rfl
  rw [name_addr hc]
  congr 1
  congr 1
  rw [Bool.and_assoc, Bool.and_assoc]
  congr 1
  rw [Bool.eq_iff_iff]
  simp only [Bool.and_eq_true, decide_eq_true_eq, beq_iff_eq, Lib.hasSuffix, List.isSuffixOf_iff_suffix]
  constructor
  · rintro ⟨h1, h2, h3⟩
    refine ⟨h.take (h.length - d.length - 1), ?_⟩
    conv => rhs; rw [← List.take_append_drop (h.length - d.length - 1) h]
    congr 1
    rw [drop_getD h _ (by omega), h2, show h.length - d.length - 1 + 1 = h.length - d.length by omega, h3]
  · rintro ⟨t, rfl⟩
    simp only [List.length_append, List.length_cons]
    refine ⟨by omega, ?_, ?_⟩
    · rw [show t.length + (d.length + 1) - d.length - 1 = t.length by omega, List.getD_eq_getElem?_getD, List.getElem?_append_right (Nat.le_refl _)]
      simp
    · rw [show t.length + (d.length + 1) - d.length = t.length + 1 by omega]
      rw [← List.drop_drop, List.drop_left]; rfl
end Go.Proofs.YtgfoaopfdpclhaaGreatDoor
namespace Go.Proofs.YtgfoaopfdpclhaaGreatDoor
open Go.RowKit
set_option linter.unusedVariables false
set_option maxRecDepth 100000

set_option maxHeartbeats 1000000 in
theorem refSign_any (c : UInt8) (w : World) :
    Calls Tryz.prog 105 #[.int .u8 c.toNat] w fun e w' => e = .returned (.bool (refSignB c)) ∧ w = w' := by
  have hc : c.toNat < 256 := c.toNat_lt
  go_enter Tryz.func105, Tryz.ntmps105
  go_wp2
  all_goals
    go_ret
    refine ⟨ret_bool (Eq.symm ?_), rfl⟩
    unfold refSignB
    try simp only [decide_eq_true_eq] at *
    first
      | omega
      | exact decide_eq_true (by omega)
      | exact decide_eq_false (by omega)
      | (rw [Bool.eq_iff_iff]; simp; omega)

set_option maxHeartbeats 1000000 in
theorem refLabel_any (s : ByteArray) (w : World) (hs : s.size ≤ maxLen) :
    Calls Tryz.prog 75 #[.string s] w fun e w' => e = .returned (.bool (labelB s.toList)) ∧ w = w' := by
  unfold maxLen at hs
  have hsz := Lib.hid (size_toList s)
  have hF := Lib.hid (show labelB s.toList = (decide (1 ≤ s.size) && decide (s.size ≤ 63) && !(s.toList.getD 0 0 == 45) && !(s.toList.getD (s.size - 1) 0 == 45) && (List.range s.size).all fun j => refSignB (s.toList.getD j 0)) by
    rw [← refLabel_eq, size_toList]; rfl)
  by_cases h0 : s.size = 0
  · have h0i : decide ((s.size : Int) < 1) = true := decide_eq_true (by omega)
    have hfin := Lib.hid (show labelB s.toList = false by rw [hF.out, h0]; rfl)
    go_enter Tryz.func75, Tryz.ntmps75
    go_wp2
    go_ret
    exact ⟨ret_bool hfin.out.symm, rfl⟩
  have h0i : decide ((s.size : Int) < 1) = false := decide_eq_false (by omega)
  have h0j : (1 : Int) ≤ s.size := by omega
  have h0' : 0 < s.size := by omega
  have hl : s.size - 1 < s.size := by omega
  by_cases h1 : 63 < s.size
  · have h1i : (63 : Int) < s.size := by omega
    have hfin := Lib.hid (show labelB s.toList = false by rw [hF.out, decide_eq_false (by omega : ¬ s.size ≤ 63), Bool.and_false]; rfl)
    go_enter Tryz.func75, Tryz.ntmps75
    go_wp2
    go_ret
    exact ⟨ret_bool hfin.out.symm, rfl⟩
  have h1i : decide ((63 : Int) < s.size) = false := decide_eq_false (by omega)
  have hw1 : ((s.size : Int) - 1).toNat = s.size - 1 := by omega
  have hF := Lib.hid (show labelB s.toList = (!(s.toList.getD 0 0 == 45) && !(s.toList.getD (s.size - 1) 0 == 45) && (List.range s.size).all fun j => refSignB (s.toList.getD j 0)) by
    rw [hF.out, decide_eq_true (by omega : 1 ≤ s.size), decide_eq_true (by omega : s.size ≤ 63)]; rfl)
  by_cases h3 : (s.toList.getD 0 0 == 45) = true
  · have h3i : (((s[0].toNat : Int)) == 45) = true := by rw [get_l, eqc 45 (i := 45) rfl, h3]
    have hfin := Lib.hid (show labelB s.toList = false by rw [hF.out, h3]; rfl)
    clear h3
    go_enter Tryz.func75, Tryz.ntmps75
    go_wp2
    go_ret
    exact ⟨ret_bool hfin.out.symm, rfl⟩
  have h3' : (s.toList.getD 0 0 == 45) = false := by simpa using h3
  have h3i : (((s[0].toNat : Int)) == 45) = false := by rw [get_l, eqc 45 (i := 45) rfl, h3']
  by_cases h4 : (s.toList.getD (s.size - 1) 0 == 45) = true
  · have h4i : (((s[s.size - 1].toNat : Int)) == 45) = true := by rw [get_l, eqc 45 (i := 45) rfl, h4]
    have hfin := Lib.hid (show labelB s.toList = false by rw [hF.out, h4]; simp)
    clear h3 h3' h4
    go_enter Tryz.func75, Tryz.ntmps75
    go_wp2
    go_ret
    exact ⟨ret_bool hfin.out.symm, rfl⟩
  have h4' : (s.toList.getD (s.size - 1) 0 == 45) = false := by simpa using h4
  have h4i : (((s[s.size - 1].toNat : Int)) == 45) = false := by rw [get_l, eqc 45 (i := 45) rfl, h4']
  have hfin := Lib.hid (show labelB s.toList = (List.range s.size).all fun j => refSignB (s.toList.getD j 0) by rw [hF.out, h3', h4']; rfl)
  clear h3 h3' h4 h4'
  go_enter Tryz.func75, Tryz.ntmps75
  go_wp2
  go_loop [3] (fun i => ∃ k : Nat, k ≤ s.size ∧ i = .int .i64 k ∧ Hid (∀ j, j < k → refSignB (s.toList.getD j 0) = true)) (fun i => s.size - (intOf i).toNat)
  case atStart => exact ⟨0, Nat.zero_le _, rfl, fun j hj => absurd hj (by omega)⟩
  case round =>
    obtain ⟨k, hk, rfl, hall⟩ := hrel
    by_cases hlt : k < s.size
    · have hlti : (k : Int) < s.size := by omega
      have hx := Lib.hid (get_l s k hlt)
      go_wp2_with fail
      refine (refSign_any _ _).mono ?_
      rintro e w' ⟨rfl, rfl⟩
      cases hb : refSignB s[k]
      · have hbad := Lib.hid (show labelB s.toList = false by rw [hfin.out]; exact range_bad hlt (by rw [← hx.out]; exact hb))
        clear hb
        go_wp2
        go_ret
        exact ⟨ret_bool hbad.out.symm, rfl⟩
      · have hg := Lib.hid hb
        clear hb
        go_wp2
        go_round
        case rel => exact ⟨k + 1, by omega, by go_num, all_step hall.out (by rw [← hx.out]; exact hg.out)⟩
        case measure => simp [intOf]; omega
    · obtain rfl : k = s.size := by omega
      have hf := Lib.hid (show labelB s.toList = true by rw [hfin.out]; exact range_all.2 hall.out)
      go_wp2
      go_ret
      exact ⟨ret_bool hf.out.symm, rfl⟩

theorem inner_all (l : List UInt8) (p : UInt8 → Bool) : ((l.drop 1).take (l.length - 2)).all p = true ↔ ∀ j, 1 ≤ j → j < l.length - 1 → p (l.getD j 0) = true := by
  rw [List.all_eq_true]
  constructor
  · intro h j h1 h2
    refine h _ ?_
    rw [List.mem_iff_getElem]
    refine ⟨j - 1, by simp; omega, ?_⟩
    rw [List.getElem_take, List.getElem_drop, List.getD_eq_getElem?_getD, List.getElem?_eq_getElem (by omega)]
    simp only [Option.getD_some, show 1 + (j - 1) = j by omega]
  · intro h x hx
    rw [List.mem_iff_getElem] at hx
    obtain ⟨i, hi, rfl⟩ := hx
    simp only [List.length_take, List.length_drop] at hi
    have := h (i + 1) (by omega) (by omega)
    rw [List.getD_eq_getElem?_getD, List.getElem?_eq_getElem (by omega)] at this
    rw [List.getElem_take, List.getElem_drop]
    simp only [Option.getD_some, Nat.add_comm i 1] at this
    exact this

set_option maxHeartbeats 2000000 in
theorem refBracket_any (s : ByteArray) (w : World) (hs : s.size ≤ maxLen) :
    Calls Tryz.prog 98 #[.string s] w fun e w' => e = .returned (.bool (bracketB s.toList)) ∧ w = w' := by
  unfold maxLen at hs
  have hsz := Lib.hid (size_toList s)
  by_cases h1 : s.size < 4
  · have h1i : (s.size : Int) < 4 := by omega
    have hfin := Lib.hid (show bracketB s.toList = false by unfold bracketB; rw [decide_eq_false (by rw [← hsz.out]; omega : ¬ 4 ≤ s.toList.length)]; rfl)
    go_enter Tryz.func98, Tryz.ntmps98
    go_wp2
    go_ret
    exact ⟨ret_bool hfin.out.symm, rfl⟩
  have h1i : (4 : Int) ≤ s.size := by omega
  by_cases h2 : 47 < s.size
  · have h2i : (47 : Int) < s.size := by omega
    have hfin := Lib.hid (show bracketB s.toList = false by unfold bracketB; rw [decide_eq_false (by rw [← hsz.out]; omega : ¬ s.toList.length ≤ 47), Bool.and_false]; rfl)
    go_enter Tryz.func98, Tryz.ntmps98
    go_wp2
    go_ret
    exact ⟨ret_bool hfin.out.symm, rfl⟩
  have h2i : (s.size : Int) ≤ 47 := by omega
  have h0 : 0 < s.size := by omega
  have hl : s.size - 1 < s.size := by omega
  have hbr := Lib.hid (show bracketB s.toList = (s.toList.getD 0 0 == 91 && s.toList.getD (s.size - 1) 0 == 93 && ((s.toList.drop 1).take (s.size - 2)).all hexB) by
    unfold bracketB; rw [← hsz.out, decide_eq_true (by omega), decide_eq_true (by omega)]; rfl)
  have hw1 : ((s.size : Int) - 1).toNat = s.size - 1 := by omega
  by_cases h3 : (s.toList.getD 0 0 == 91) = true
  case neg =>
    have h3' : (s.toList.getD 0 0 == 91) = false := by simpa using h3
    have h3i : (((s[0].toNat : Int)) != 91) = true := by rw [get_l, nec 91 (i := 91) rfl, h3']; rfl
    have hfin := Lib.hid (show bracketB s.toList = false by rw [hbr.out, h3']; rfl)
    clear h3 h3'
    go_enter Tryz.func98, Tryz.ntmps98
    go_wp2
    go_ret
    exact ⟨ret_bool hfin.out.symm, rfl⟩
  have h3i : (((s[0].toNat : Int)) != 91) = false := by rw [get_l, nec 91 (i := 91) rfl, h3]; rfl
  by_cases h4 : (s.toList.getD (s.size - 1) 0 == 93) = true
  case neg =>
    have h4' : (s.toList.getD (s.size - 1) 0 == 93) = false := by simpa using h4
    have h4i : (((s[s.size - 1].toNat : Int)) != 93) = true := by rw [get_l, nec 93 (i := 93) rfl, h4']; rfl
    have hfin := Lib.hid (show bracketB s.toList = false by rw [hbr.out, h4', Bool.and_false]; rfl)
    clear h3 h4 h4'
    go_enter Tryz.func98, Tryz.ntmps98
    go_wp2
    go_ret
    exact ⟨ret_bool hfin.out.symm, rfl⟩
  have h4i : (((s[s.size - 1].toNat : Int)) != 93) = false := by rw [get_l, nec 93 (i := 93) rfl, h4]; rfl
  have hbr2 := Lib.hid (show bracketB s.toList = ((s.toList.drop 1).take (s.toList.length - 2)).all hexB by rw [hbr.out, h3, h4, ← hsz.out]; rfl)
  clear h3 h4 hbr
  go_enter Tryz.func98, Tryz.ntmps98
  go_wp2
  go_loop [3] (fun i => ∃ k : Nat, 1 ≤ k ∧ k ≤ s.size - 1 ∧ i = .int .i64 k ∧ Hid (∀ j, 1 ≤ j → j < k → hexB (s.toList.getD j 0) = true)) (fun i => s.size - (intOf i).toNat)
  case atStart => exact ⟨1, Nat.le_refl _, by omega, rfl, fun j hj hj' => absurd hj (by omega)⟩
  case round =>
    obtain ⟨k, hk1, hk, rfl, hall⟩ := hrel
    by_cases hlt : k < s.size - 1
    · have hlti : decide ((k : Int) < (s.size : Int) - 1) = true := decide_eq_true (by omega)
      have hlt2 : k < s.size := by omega
      have hlt2i : (k : Int) < s.size := by omega
      have hx := Lib.hid (get_l s k hlt2)
      have hgood := Lib.hid (fun (h : hexB s[k] = true) => show ∀ j, 1 ≤ j → j < k + 1 → hexB (s.toList.getD j 0) = true from fun j h1 h2 => by
        rcases Nat.lt_or_ge j k with h3 | h3
        · exact hall.out j h1 h3
        · obtain rfl : j = k := by omega
          rw [← hx.out]; exact h)
      have hbad := Lib.hid (fun (h : hexB s[k] = false) => show bracketB s.toList = false by
        rw [hbr2.out, Bool.eq_false_iff, ne_eq, inner_all]
        intro h2
        have := h2 k hk1 (by rw [← hsz.out]; exact hlt)
        rw [← hx.out, h] at this
        exact absurd this (by decide))
      generalize hd : s[k] = d at *
      have hD := Lib.hid hd
      clear hd
      rcases @hex_cases d with ⟨hy, hc⟩ | ⟨hn, ⟨hm, hm'⟩, hc⟩
      · have hY := Lib.hid hy
        clear hy
        rcases hc with ⟨q1, q2⟩ | ⟨q1, q2⟩ | q1 | q1
        · rw [← hD.out] at q1 q2
          go_wp2
          go_round
          case rel => exact ⟨k + 1, by omega, by omega, by go_num, hgood.out hY.out⟩
          case measure => simp [intOf]; omega
        · have q3 : decide ((d.toNat : Int) ≤ 57) = false := decide_eq_false (by omega)
          have q4 : (48 : Int) ≤ d.toNat := by omega
          rw [← hD.out] at q1 q2 q3 q4
          go_wp2
          go_round
          case rel => exact ⟨k + 1, by omega, by omega, by go_num, hgood.out hY.out⟩
          case measure => simp [intOf]; omega
        · have q2 : ((s[k].toNat : Int)) = 58 := by rw [hD.out, q1]; rfl
          go_wp2
          go_round
          case rel => exact ⟨k + 1, by omega, by omega, by go_num, hgood.out hY.out⟩
          case measure => simp [intOf]; omega
        · have q2 : ((s[k].toNat : Int)) = 46 := by rw [hD.out, q1]; rfl
          go_wp2
          go_round
          case rel => exact ⟨k + 1, by omega, by omega, by go_num, hgood.out hY.out⟩
          case measure => simp [intOf]; omega
      · have hN := Lib.hid hn
        clear hn
        rw [← hD.out] at hm hm'
        rcases hc with q1 | ⟨q1, q2⟩ | q1
        · have q3 : (d.toNat : Int) < 97 := by omega
          rw [← hD.out] at q1 q3
          go_wp2
          go_ret; exact ⟨ret_bool (hbad.out hN.out).symm, rfl⟩
        · have q3 : (48 : Int) ≤ d.toNat := by omega
          have q6 : decide ((d.toNat : Int) ≤ 57) = false := decide_eq_false (by omega)
          rw [← hD.out] at q1 q2 q3 q6
          go_wp2
          go_ret; exact ⟨ret_bool (hbad.out hN.out).symm, rfl⟩
        · have q3 : (48 : Int) ≤ d.toNat := by omega
          have q4 : (57 : Int) < d.toNat := by omega
          have q5 : (97 : Int) ≤ d.toNat := by omega
          have q6 : decide ((d.toNat : Int) ≤ 57) = false := decide_eq_false (by omega)
          have q7 : decide ((d.toNat : Int) ≤ 102) = false := decide_eq_false (by omega)
          rw [← hD.out] at q1 q3 q4 q5 q6 q7
          go_wp2
          go_ret; exact ⟨ret_bool (hbad.out hN.out).symm, rfl⟩
    · obtain rfl : k = s.size - 1 := by omega
      have hlti : decide (((s.size - 1 : Nat) : Int) < (s.size : Int) - 1) = false := decide_eq_false (by omega)
      have hf := Lib.hid (show bracketB s.toList = true by
        rw [hbr2.out, inner_all]; intro j h1 h2; exact hall.out j h1 (by rw [hsz.out]; exact h2))
      go_wp2
      go_ret
      exact ⟨ret_bool hf.out.symm, rfl⟩
end Go.Proofs.YtgfoaopfdpclhaaGreatDoor
namespace Go.Proofs.YtgfoaopfdpclhaaGreatDoor
open Go.RowKit
set_option linter.unusedVariables false
set_option maxRecDepth 100000

theorem refPart_cases (p : List UInt8) :
    (decide ((p.length : Int) < 1) = true ∧ partB p = false) ∨
    (decide ((p.length : Int) < 1) = false ∧ decide ((3 : Int) < p.length) = true ∧ partB p = false) ∨
    (decide ((p.length : Int) < 1) = false ∧ decide ((3 : Int) < p.length) = false ∧ ((digN p : Int) != p.length) = true ∧ partB p = false) ∨
    (decide ((p.length : Int) < 1) = false ∧ decide ((3 : Int) < p.length) = false ∧ ((digN p : Int) != p.length) = false ∧ decide ((255 : Int) < numV p) = true ∧ partB p = false) ∨
    (decide ((p.length : Int) < 1) = false ∧ decide ((3 : Int) < p.length) = false ∧ ((digN p : Int) != p.length) = false ∧ decide ((255 : Int) < numV p) = false ∧ (textL (numV p) == p) = partB p) := by
  rw [← refPart_eq]
  unfold refPartB
  have e1 : decide ((p.length : Int) < 1) = !decide (1 ≤ p.length) := by rw [Bool.eq_iff_iff]; simp only [decide_eq_true_eq, Bool.not_eq_true', decide_eq_false_iff_not]; omega
  have e2 : decide ((3 : Int) < p.length) = !decide (p.length ≤ 3) := by rw [Bool.eq_iff_iff]; simp; omega
  have e3 : ((digN p : Int) != p.length) = !decide (digN p = p.length) := by rw [Bool.eq_iff_iff]; simp; omega
  have e4 : decide ((255 : Int) < numV p) = !decide (numV p ≤ 255) := by rw [Bool.eq_iff_iff]; simp
  rw [e1, e2, e3, e4]
  cases decide (1 ≤ p.length) <;> cases decide (p.length ≤ 3) <;> cases decide (digN p = p.length) <;> cases decide (numV p ≤ 255) <;> simp

set_option maxHeartbeats 4000000 in
theorem refFour_any (s : ByteArray) (w : World) (hs : s.size ≤ 4294967296) :
    Calls Tryz.prog 74 #[.string s] w fun e w' => e = .returned (.bool (fourB s.toList)) ∧ Below w.heap.size w w' := by
  have hpl := Lib.hid (split_part s.toList 46)
  have hsz := Lib.hid (size_toList s)
  have hlen := split_len s.toList 46
  rw [← size_toList] at hlen
  have hF := Lib.hid (show fourB s.toList = (decide ((splitL s.toList 46).length = 4) && (splitL s.toList 46).all partB) from rfl)
  go_enter Tryz.func74, Tryz.ntmps74
  go_wp2_with fail
  refine (refSplit_any s 46 _ hs).mono ?_
  rintro e w1 ⟨A, c, rfl, hown, hb1⟩
  have hR := Rd.of_own hown
  have hcap := hR.cap
  unfold maxLen at hcap
  obtain ⟨hca, hcb⟩ := hcap
  clear hown
  generalize splitL s.toList 46 = l at *
  by_cases h4 : l.length = 4
  · have h4i : ((l.length : Int) != 4) = false := by rw [bne_eq_false_iff_eq]; omega
    have h4c : (l.length : Int) = 4 := by omega
    have hF2 := Lib.hid (show fourB s.toList = l.all partB by rw [hF.out, decide_eq_true h4]; rfl)
    have h4n := Lib.hid h4
    clear h4
    go_wp2_with fail
    go_loopw [4, 5, 6] (fun i u v wr => ∃ k : Nat, k ≤ l.length ∧ i = .int .i64 k ∧ Below w1.heap.size w1 wr ∧ Hid ((l.take k).all partB = true)) (fun i _ _ _ => l.length - (intOf i).toNat)
    case atStart => exact ⟨0, Nat.zero_le _, rfl, Below.refl _ _, rfl⟩
    case round =>
      obtain ⟨k, hk, rfl, hbel, hall⟩ := hrel
      have hbw := bel_call hb1 hbel
      by_cases hlt : k < l.length
      · have hlti : (k : Int) < 4 := by omega
        have hltl : (k : Int) < l.length := by omega
        obtain ⟨b, off, rfl, hb, _, hcell⟩ := rd_str (hR.below hbel) hlt
        have hst := Lib.hid (all_take_stepL (p := partB) hlt)
        have hbad := Lib.hid (all_badL (p := partB) hlt)
        have hpm : (S l[k]).size ≤ maxLen := by
          have := hpl.out _ (List.getElem_mem hlt)
          rw [← hsz.out] at this
          rw [S_size]; unfold maxLen; omega
        have hpm' : l[k].length ≤ 4294967296 := by
          have := hpl.out _ (List.getElem_mem hlt)
          rw [← hsz.out] at this
          omega
        obtain ⟨p, hp⟩ : ∃ p, l[k] = p := ⟨_, rfl⟩
        rw [hp] at hcell hpm hpm'
        have hP := Lib.hid hp
        clear hp
        have hnb := numV_bd p
        rcases refPart_cases p with ⟨h1, hn⟩ | ⟨h1, h2, hn⟩ | ⟨h1, h2, h3, hn⟩ | ⟨h1, h2, h3, h4, hn⟩ | ⟨h1, h2, h3, h4, hn⟩
        · have hN := Lib.hid hn
          clear hn
          go_wp2
          go_quiet (fail)
          go_wp2
          go_ret
          exact ⟨ret_bool (by rw [hF2.out, hbad.out (by rw [hP.out]; exact hN.out)]), below_drews hbw _⟩
        · have hN := Lib.hid hn
          clear hn
          go_wp2
          go_quiet (fail)
          go_wp2
          go_ret
          exact ⟨ret_bool (by rw [hF2.out, hbad.out (by rw [hP.out]; exact hN.out)]), below_drews hbw _⟩
        · have hN := Lib.hid hn
          clear hn
          go_wp2
          go_quiet ((go_at_call 97; exact Calls.quiet_of_same ((refDigits_any _ _ hpm).mono fun _ _ h => ⟨h.1, h.2.symm⟩)))
          rw [S_toList]
          go_wp2
          go_ret
          exact ⟨ret_bool (by rw [hF2.out, hbad.out (by rw [hP.out]; exact hN.out)]), below_drews hbw _⟩
        · have hN := Lib.hid hn
          clear hn
          go_wp2
          go_quiet ((go_at_call 97; exact Calls.quiet_of_same ((refDigits_any _ _ hpm).mono fun _ _ h => ⟨h.1, h.2.symm⟩)))
          rw [S_toList]
          go_wp2_with fail
          refine (refNumber_any _ _ hpm).mono ?_
          rintro e w' ⟨rfl, rfl⟩
          rw [S_toList]
          go_wp2_with fail
          go_quiet (fail)
          go_wp2
          go_ret
          exact ⟨ret_bool (by rw [hF2.out, hbad.out (by rw [hP.out]; exact hN.out)]), below_drews (below_drews hbw _) _⟩
        · have hN := Lib.hid hn
          clear hn
          go_wp2
          go_quiet ((go_at_call 97; exact Calls.quiet_of_same ((refDigits_any _ _ hpm).mono fun _ _ h => ⟨h.1, h.2.symm⟩)))
          rw [S_toList]
          go_wp2_with fail
          refine (refNumber_any _ _ hpm).mono ?_
          rintro e w' ⟨rfl, rfl⟩
          rw [S_toList]
          go_wp2_with fail
          go_region_with (first
            | (go_at_call 104; refine (refText_any _ _ (by omega) (by omega)).mono ?_; rintro e w' ⟨rfl, hb4⟩; have hcell4 := cell_later hb4 hcell))
          all_goals
            have hbel5 := bel_call (below_drews hbel _) hb4
            have hbw5 := bel_call hb1 hbel5
            generalize textL (numV p) = t at *
            cases ht : (t == p)
            · have hN2 := Lib.hid (show partB p = false by rw [← hN.out, ht])
              go_wp2
              go_ret
              exact ⟨ret_bool (by rw [hF2.out, hbad.out (by rw [hP.out]; exact hN2.out)]), hbw5⟩
            · have hN2 := Lib.hid (show partB p = true by rw [← hN.out, ht])
              go_wp2
              go_roundw
              case rel => exact ⟨k + 1, by omega, by go_num, hbel5, by show _ = _; rw [hst.out, hall.out, hP.out, hN2.out]; rfl⟩
              case measure => simp [intOf]; omega
      · obtain rfl : k = l.length := by omega
        have hf := Lib.hid (show l.all partB = true by have := hall.out; rwa [List.take_length] at this)
        go_wp2
        go_ret
        exact ⟨ret_bool (by rw [hF2.out, hf.out]), hbw⟩
  · have h4i : ((l.length : Int) != 4) = true := by rw [bne_iff_ne]; omega
    go_wp2_with fail
    go_ret
    exact ⟨ret_bool (by rw [hF.out, decide_eq_false h4]; rfl), hb1⟩
end Go.Proofs.YtgfoaopfdpclhaaGreatDoor
namespace Go.Proofs.YtgfoaopfdpclhaaGreatDoor
open Go.RowKit
set_option linter.unusedVariables false
set_option maxRecDepth 100000

set_option maxHeartbeats 1000000 in
theorem refAddr_any (s : ByteArray) (w : World) (hs : s.size ≤ 4294967296) :
    Calls Tryz.prog 68 #[.string s] w fun e w' => e = .returned (.bool (addrB s.toList)) ∧ Below w.heap.size w w' := by
  have hm : s.size ≤ maxLen := by unfold maxLen; omega
  go_enter Tryz.func68, Tryz.ntmps68
  go_wp2_with fail
  refine (refFour_any s w hs).mono ?_
  rintro e w1 ⟨rfl, hb1⟩
  cases hq : fourB s.toList
  · have hQ := Lib.hid hq
    clear hq
    go_wp2_with fail
    refine (refBracket_any s w1 hm).mono ?_
    rintro e w2 ⟨rfl, rfl⟩
    go_wp2
    go_ret
    exact ⟨ret_bool (by unfold addrB; rw [hQ.out]; rfl), hb1⟩
  · have hQ := Lib.hid hq
    clear hq
    go_wp2
    go_ret
    exact ⟨ret_bool (by unfold addrB; rw [hQ.out]; rfl), hb1⟩

set_option maxHeartbeats 2000000 in
theorem refName_any (s : ByteArray) (w : World) (hs : s.size ≤ 4294967296) :
    Calls Tryz.prog 38 #[.string s] w fun e w' => e = .returned (.bool (nameB s.toList)) ∧ Below w.heap.size w w' := by
  have hm : s.size ≤ maxLen := by unfold maxLen; omega
  have hpl := Lib.hid (split_part s.toList 46)
  have hsz := Lib.hid (size_toList s)
  have hlen := split_len s.toList 46
  rw [← size_toList] at hlen
  by_cases h1 : 256 < s.size
  · have h1i : (256 : Int) < s.size := by omega
    have hfin := Lib.hid (show nameB s.toList = false by unfold nameB; rw [decide_eq_false (by rw [← hsz.out]; omega : ¬ s.toList.length ≤ 256)]; rfl)
    go_enter Tryz.func38, Tryz.ntmps38
    go_wp2
    go_ret
    exact ⟨ret_bool hfin.out.symm, Below.refl _ _⟩
  have h1i : decide ((256 : Int) < s.size) = false := decide_eq_false (by omega)
  have hF := Lib.hid (show nameB s.toList = (!fourB s.toList && (splitL s.toList 46).all labelB) by
    rw [← refName_eq]; unfold refNameB; rw [decide_eq_true (by rw [← hsz.out]; omega : s.toList.length ≤ 256), refFour_eq, show refLabelB = labelB from funext refLabel_eq]; rfl)
  go_enter Tryz.func38, Tryz.ntmps38
  go_wp2_with fail
  refine (refFour_any s w hs).mono ?_
  rintro e w1 ⟨rfl, hb1⟩
  cases hq : fourB s.toList
  case true =>
    have hQ := Lib.hid hq
    clear hq
    go_wp2
    go_ret
    exact ⟨ret_bool (by rw [hF.out, hQ.out]; rfl), hb1⟩
  have hF2 := Lib.hid (show nameB s.toList = (splitL s.toList 46).all labelB by rw [hF.out, hq]; rfl)
  clear hq
  go_wp2_with fail
  refine (refSplit_any s 46 _ hs).mono ?_
  rintro e w2 ⟨A, c, rfl, hown, hb2⟩
  have hR := Rd.of_own hown
  have hcap := hR.cap
  unfold maxLen at hcap
  obtain ⟨hca, hcb⟩ := hcap
  clear hown
  have hbw2 := bel_call hb1 hb2
  generalize splitL s.toList 46 = l at *
  go_wp2_with fail
  go_loopw [4] (fun i wr => ∃ k : Nat, k ≤ l.length ∧ i = .int .i64 k ∧ Below w2.heap.size w2 wr ∧ Hid ((l.take k).all labelB = true)) (fun i _ => l.length - (intOf i).toNat)
  case atStart => exact ⟨0, Nat.zero_le _, rfl, Below.refl _ _, rfl⟩
  case round =>
    obtain ⟨k, hk, rfl, hbel, hall⟩ := hrel
    have hbw := bel_call hbw2 hbel
    by_cases hlt : k < l.length
    · have hlti : (k : Int) < l.length := by omega
      obtain ⟨b, off, rfl, hb, _, hcell⟩ := rd_str (hR.below hbel) hlt
      have hst := Lib.hid (all_take_stepL (p := labelB) hlt)
      have hbad := Lib.hid (all_badL (p := labelB) hlt)
      have hpm : (S l[k]).size ≤ maxLen := by
        have := hpl.out _ (List.getElem_mem hlt)
        rw [← hsz.out] at this
        rw [S_size]; unfold maxLen; omega
      obtain ⟨p, hp⟩ : ∃ p, l[k] = p := ⟨_, rfl⟩
      rw [hp] at hcell hpm
      have hP := Lib.hid hp
      clear hp
      go_wp2_with fail
      refine (refLabel_any _ _ hpm).mono ?_
      rintro e w' ⟨rfl, rfl⟩
      rw [S_toList]
      cases hy : labelB p
      · have hY := Lib.hid hy
        clear hy
        go_wp2
        go_ret
        exact ⟨ret_bool (by rw [hF2.out, hbad.out (by rw [hP.out]; exact hY.out)]), hbw⟩
      · have hY := Lib.hid hy
        clear hy
        go_wp2
        go_roundw
        case rel => exact ⟨k + 1, by omega, by go_num, hbel, by show _ = _; rw [hst.out, hall.out, hP.out, hY.out]; rfl⟩
        case measure => simp [intOf]; omega
    · obtain rfl : k = l.length := by omega
      have hf := Lib.hid (show l.all labelB = true by have := hall.out; rwa [List.take_length] at this)
      go_wp2
      go_ret
      exact ⟨ret_bool (by rw [hF2.out, hf.out]), hbw⟩

set_option maxHeartbeats 1000000 in
theorem refCanonical_any (s : ByteArray) (w : World) (hs : s.size ≤ 4294967296) :
    Calls Tryz.prog 30 #[.string s] w fun e w' => e = .returned (.bool (canonB s.toList)) ∧ Below w.heap.size w w' := by
  have hsz := Lib.hid (size_toList s)
  have hF := Lib.hid (show canonB s.toList = (decide (s.size ≤ 256) && (nameB s.toList || addrB s.toList)) by
    rw [← refCanon_eq]; unfold refCanonB; rw [refName_eq, hsz.out])
  by_cases h1 : 256 < s.size
  · have h1i : (256 : Int) < s.size := by omega
    have hfin := Lib.hid (show canonB s.toList = false by rw [hF.out, decide_eq_false (by omega)]; rfl)
    go_enter Tryz.func30, Tryz.ntmps30
    go_wp2
    go_ret
    exact ⟨ret_bool hfin.out.symm, Below.refl _ _⟩
  have h1i : (s.size : Int) ≤ 256 := by omega
  have hF := Lib.hid (show canonB s.toList = (nameB s.toList || addrB s.toList) by rw [hF.out, decide_eq_true (by omega)]; rfl)
  go_enter Tryz.func30, Tryz.ntmps30
  go_wp2_with fail
  refine (refName_any s w hs).mono ?_
  rintro e w1 ⟨rfl, hb1⟩
  cases hq : nameB s.toList
  · have hG := Lib.hid (show canonB s.toList = addrB s.toList by rw [hF.out, hq]; rfl)
    clear hq
    go_wp2_with fail
    refine (refAddr_any s w1 hs).mono ?_
    rintro e w2 ⟨rfl, hb2⟩
    have hb3 := bel_call hb1 hb2
    go_wp2
    go_ret
    exact ⟨ret_bool hG.out.symm, hb3⟩
  · have hG := Lib.hid (show canonB s.toList = true by rw [hF.out, hq]; rfl)
    clear hq
    go_wp2
    go_ret
    exact ⟨ret_bool hG.out.symm, hb1⟩

set_option maxHeartbeats 2000000 in
theorem refMatch08_any (s t : ByteArray) (w : World) (hs : s.size ≤ 4294967296) (ht : t.size ≤ 4294967296) :
    Calls Tryz.prog 13 #[.string s, .string t] w fun e w' => e = .returned (.bool (matchB s.toList t.toList)) ∧ Below w.heap.size w w' := by
  have hsz := Lib.hid (size_toList s)
  have htz := Lib.hid (size_toList t)
  have hF := Lib.hid (show matchB s.toList t.toList = (canonB s.toList && canonB t.toList && (s.toList == t.toList || (nameB s.toList && decide (t.size < s.size) && s.toList.getD (s.size - t.size - 1) 0 == 46 && s.toList.drop (s.size - t.size) == t.toList))) by
    rw [← refMatch_eq]; unfold refMatchB; rw [refCanon_eq, refCanon_eq, refName_eq, hsz.out, htz.out])
  go_enter Tryz.func13, Tryz.ntmps13
  go_wp2_with fail
  refine (refCanonical_any s w hs).mono ?_
  rintro e w1 ⟨rfl, hb1⟩
  cases hq : canonB s.toList
  · have hG := Lib.hid (show matchB s.toList t.toList = false by rw [hF.out, hq]; rfl)
    clear hq
    go_wp2
    go_ret
    exact ⟨ret_bool hG.out.symm, hb1⟩
  have hF := Lib.hid (show matchB s.toList t.toList = (canonB t.toList && (s.toList == t.toList || (nameB s.toList && decide (t.size < s.size) && s.toList.getD (s.size - t.size - 1) 0 == 46 && s.toList.drop (s.size - t.size) == t.toList))) by rw [hF.out, hq]; rfl)
  clear hq
  go_wp2_with fail
  refine (refCanonical_any t _ ht).mono ?_
  rintro e w2 ⟨rfl, hb2⟩
  have hb3 := bel_call hb1 hb2
  cases hq : canonB t.toList
  · have hG := Lib.hid (show matchB s.toList t.toList = false by rw [hF.out, hq]; rfl)
    clear hq
    go_wp2
    go_ret
    exact ⟨ret_bool hG.out.symm, hb3⟩
  have hF := Lib.hid (show matchB s.toList t.toList = (s.toList == t.toList || (nameB s.toList && decide (t.size < s.size) && s.toList.getD (s.size - t.size - 1) 0 == 46 && s.toList.drop (s.size - t.size) == t.toList)) by rw [hF.out, hq]; rfl)
  clear hq
  have hwr : IntKind.i64.wrap ((s.size : Int) - t.size) = (s.size : Int) - t.size := IntWalk.i64_in _ (by omega)
  by_cases h1 : (s.toList == t.toList) = true
  · have hG := Lib.hid (show matchB s.toList t.toList = true by rw [hF.out, h1]; rfl)
    go_wp2
    go_ret
    exact ⟨ret_bool hG.out.symm, hb3⟩
  have h1' : (s.toList == t.toList) = false := by simpa using h1
  clear h1
  have hF := Lib.hid (show matchB s.toList t.toList = (nameB s.toList && decide (t.size < s.size) && s.toList.getD (s.size - t.size - 1) 0 == 46 && s.toList.drop (s.size - t.size) == t.toList) by rw [hF.out, h1']; rfl)
  go_wp2_with fail
  refine (refName_any s _ hs).mono ?_
  rintro e w4 ⟨rfl, hb4⟩
  have hb5 := bel_call hb3 hb4
  cases hq : nameB s.toList
  case false =>
    have hG := Lib.hid (show matchB s.toList t.toList = false by rw [hF.out, hq]; rfl)
    clear hq
    go_wp2
    go_ret
    exact ⟨ret_bool hG.out.symm, hb5⟩
  have hF := Lib.hid (show matchB s.toList t.toList = (decide (t.size < s.size) && s.toList.getD (s.size - t.size - 1) 0 == 46 && s.toList.drop (s.size - t.size) == t.toList) by rw [hF.out, hq]; rfl)
  clear hq
  by_cases h2 : t.size < s.size
  case neg =>
    have h2i : decide ((0 : Int) < (s.size : Int) - t.size) = false := decide_eq_false (by omega)
    have hG := Lib.hid (show matchB s.toList t.toList = false by rw [hF.out, decide_eq_false h2]; rfl)
    go_wp2
    go_ret
    exact ⟨ret_bool hG.out.symm, hb5⟩
  obtain ⟨n, hn⟩ : ∃ n, s.size = t.size + 1 + n := ⟨s.size - t.size - 1, by omega⟩
  have h2i : (0 : Int) < (s.size : Int) - t.size := by omega
  have h2k : decide ((0 : Int) < (s.size : Int) - t.size) = true := decide_eq_true (by omega)
  have hn1 : ((s.size : Int) - t.size - 1).toNat = n := by omega
  have hn2 : ((s.size : Int) - t.size).toNat = n + 1 := by omega
  have hn0 : n < s.size := by omega
  have hF := Lib.hid (show matchB s.toList t.toList = (s.toList.getD n 0 == 46 && s.toList.drop (n + 1) == t.toList) by
    rw [hF.out, decide_eq_true h2, show s.size - t.size - 1 = n by omega, show s.size - t.size = n + 1 by omega]; rfl)
  have hnH := Lib.hid hn
  clear hn
  by_cases h3 : (s.toList.getD n 0 == 46) = true
  · have h3i : (((s[n].toNat : Int)) == 46) = true := by rw [get_l, eqc 46 (i := 46) rfl, h3]
    have hG := Lib.hid (show matchB s.toList t.toList = (s.toList.drop (n + 1) == t.toList) by rw [hF.out, h3]; rfl)
    clear h3
    go_wp2
    go_ret
    refine ⟨ret_bool ?_, hb5⟩
    rw [hG.out, extract_from, S_toList]
  · have h3' : (s.toList.getD n 0 == 46) = false := by simpa using h3
    have h3i : (((s[n].toNat : Int)) == 46) = false := by rw [get_l, eqc 46 (i := 46) rfl, h3']
    have hG := Lib.hid (show matchB s.toList t.toList = false by rw [hF.out, h3']; rfl)
    clear h3 h3'
    go_wp2
    go_ret
    exact ⟨ret_bool hG.out.symm, hb5⟩
end Go.Proofs.YtgfoaopfdpclhaaGreatDoor
