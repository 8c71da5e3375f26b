/-
  The laws of layer 6, walked, second part: letters, and parts.
-/
import Derived.Test.YtecafpimcffibaaAsciiLaw
namespace Go.Proofs.Ytecafpimcffibaa
open Go.RowKit
set_option linter.unusedVariables false

theorem lowC_lowC (c : UInt8) : lowC (lowC c) = lowC c := by
  by_cases h : 65 ≤ c.toNat ∧ c.toNat ≤ 90
  · have := lowC_yes h.1 h.2
    exact lowC_no (by omega)
  · rw [lowC_no h, lowC_no h]
theorem lowerL_lowerL (l : List UInt8) : lowerL (lowerL l) = lowerL l := by
  unfold lowerL
  rw [List.map_map]
  exact List.map_congr_left (fun c _ => lowC_lowC c)

set_option maxHeartbeats 2000000 in
theorem asciiLetters (s t : ByteArray) (w : World) (hs : s.size ≤ maxLen) (ht : t.size ≤ maxLen) :
    Calls Try.prog 9 #[.string s, .string t] w fun e w' => e = .returned (.bool true) ∧ Below w.heap.size w w' := by
  have hs' := hs
  have ht' := ht
  unfold maxLen at hs' ht'
  by_cases h1 : 500 < s.size
  · go_enter Try.func9, Try.ntmps9
    go_wp2_with (go_at_call 17; refine (awake06 _).mono ?_; rintro e w1 ⟨rfl, hb1⟩)
    go_ret
    exact ⟨rfl, hb1⟩
  by_cases h2 : 500 < t.size
  · have h1i : (s.size : Int) ≤ 500 := by omega
    go_enter Try.func9, Try.ntmps9
    go_wp2_with (go_at_call 17; refine (awake06 _).mono ?_; rintro e w1 ⟨rfl, hb1⟩)
    go_ret
    exact ⟨rfl, hb1⟩
  have h1i : (s.size : Int) ≤ 500 := by omega
  have h2i : (t.size : Int) ≤ 500 := by omega
  have hs4 : s.size ≤ 4294967296 := by omega
  have ht4 : t.size ≤ 4294967296 := by omega
  have hl : (S (lowerL s.toList)).size ≤ 4294967296 := by rw [S_size]; unfold lowerL; rw [List.length_map, ← size_toList]; omega
  have hidem := lowerL_lowerL s.toList
  go_enter Try.func9, Try.ntmps9
  go_wp2_with fail
  refine (lowerA_any s _ hs4).mono ?_
  rintro e w1 ⟨rfl, hb1⟩
  go_wp2_with fail
  refine (refLower_any s _ hs4).mono ?_
  rintro e w2 ⟨rfl, hb2⟩
  have hc2 := bel_onto hb1 hb2 hb1.size
  clear hb1 hb2
  go_wp2_with fail
  refine (lowerA_any (S (lowerL s.toList)) _ hl).mono ?_
  rintro e w3 ⟨rfl, hb3⟩
  rw [S_toList, hidem]
  have hc3 := bel_onto hc2 hb3 hc2.size
  clear hc2 hb3
  go_wp2_with fail
  refine (same_any s t _ hs ht).mono ?_
  rintro e w4 ⟨rfl, hb4⟩
  have hc4 := bel_onto hc3 hb4 hc3.size
  clear hc3 hb4
  go_wp2_with fail
  refine (refLower_any s _ hs4).mono ?_
  rintro e w5 ⟨rfl, hb5⟩
  have hc5 := bel_onto hc4 hb5 hc4.size
  clear hc4 hb5
  go_wp2_with fail
  refine (refLower_any t _ ht4).mono ?_
  rintro e w6 ⟨rfl, hb6⟩
  have hc6 := bel_onto hc5 hb6 hc5.size
  clear hc5 hb6
  go_wp2_with (first
    | (go_at_call 28; refine (trim_any _ _ hs).mono ?_; rintro e w' ⟨rfl, rfl⟩)
    | (go_at_call 29; refine (refTrim_any _ _ hs).mono ?_; rintro e w' ⟨rfl, rfl⟩)
    | (go_at_call 30; refine (control_any _ _ hs).mono ?_; rintro e w' ⟨rfl, rfl⟩)
    | (go_at_call 31; refine (refControl_any _ _ hs).mono ?_; rintro e w' ⟨rfl, rfl⟩)
    | (go_at_call 17; refine (awake06 _).mono ?_; rintro e w7 ⟨rfl, hb7⟩))
  all_goals (go_ret; exact ⟨rfl, bel_onto hc6 hb7 hc6.size⟩)

def joinL (c : UInt8) : List (List UInt8) → List UInt8
  | [] => []
  | [x] => x
  | x :: y :: r => x ++ c :: joinL c (y :: r)
theorem join_cons (c : UInt8) (x : List UInt8) {r : List (List UInt8)} (h : r ≠ []) : joinL c (x :: r) = x ++ c :: joinL c r := by
  cases r with
  | nil => exact absurd rfl h
  | cons y r => rfl
theorem join_split (l : List UInt8) (c : UInt8) : joinL c (splitL l c) = l := by
  induction l with
  | nil => rfl
  | cons x r ih =>
    have hne := split_ne r c
    by_cases hx : (x == c) = true
    · rw [split_hit r hx, join_cons c _ hne, ih]
      have : x = c := by simpa using hx
      rw [this]; rfl
    · rw [split_miss r hx]
      cases hr : splitL r c with
      | nil => exact absurd hr hne
      | cons h t =>
        rw [hr] at ih
        cases t with
        | nil => simp only [joinL] at *; rw [ih]
        | cons y t => simp only [joinL] at *; rw [List.cons_append, ih]
theorem join_snoc (c : UInt8) (xs : List (List UInt8)) (x : List UInt8) : joinL c (xs ++ [x]) = if xs.length = 0 then x else joinL c xs ++ c :: x := by
  induction xs with
  | nil => rfl
  | cons y r ih =>
    rw [List.cons_append, join_cons c y (by simp), ih]
    cases r with
    | nil => simp [joinL]
    | cons z r => simp [joinL]
theorem split_part (l : List UInt8) (c : UInt8) : ∀ x ∈ splitL l c, x.length ≤ l.length := by
  induction l with
  | nil => simp [splitL]
  | cons x r ih =>
    intro y hy
    by_cases hx : (x == c) = true
    · rw [split_hit r hx] at hy
      rcases List.mem_cons.1 hy with h | h
      · subst h; simp
      · have := ih y h; simp; omega
    · rw [split_miss r hx] at hy
      cases hr : splitL r c with
      | nil => exact absurd hr (split_ne r c)
      | cons h t =>
        rw [hr] at hy ih
        rcases List.mem_cons.1 hy with h' | h'
        · subst h'; have := ih h (by simp); simp; omega
        · have := ih y (by simp [h']); simp; omega

set_option maxHeartbeats 4000000 in
theorem asciiParts0 (s : ByteArray) (c : UInt8) (w : World) (hs : s.size ≤ maxLen) :
    Calls Try.prog 10 #[.string s, .int .u8 c.toNat] w fun e w' => e = .returned (.bool true) ∧ Below w.heap.size w w' := by
  have hs' := hs
  unfold maxLen at hs'
  by_cases h1 : 500 < s.size
  · go_enter Try.func10, Try.ntmps10
    go_wp2_with (go_at_call 17; refine (awake06 _).mono ?_; rintro e w1 ⟨rfl, hb1⟩)
    go_ret
    exact ⟨rfl, hb1⟩
  have h1i : (s.size : Int) ≤ 500 := by omega
  have hs4 : s.size ≤ 4294967296 := by omega
  have hP := split_len s.toList c
  rw [← size_toList] at hP
  have hPn := List.length_pos_iff.2 (split_ne s.toList c)
  have hpart := Lib.hid (split_part s.toList c)
  have hjoin := Lib.hid (join_split s.toList c)
  have hszl := Lib.hid (size_toList s)
  have hcase : (cutL s.toList c = none) ∨ ∃ a b, cutL s.toList c = some (a, b) := by
    cases h : cutL s.toList c with
    | none => exact Or.inl rfl
    | some p => exact Or.inr ⟨p.1, p.2, rfl⟩
  rcases hcase with hcut | ⟨a, b, hcut⟩
  · have hH := Lib.hid hcut
    have hf : findL s.toList c = -1 := by unfold findL; rw [hcut]
    clear hcut
    have hc1 : Below w.heap.size w w := Below.refl _ _
    go_enter Try.func10, Try.ntmps10
    go_wp2_with fail
    refine (cut_any_none _ _ _ hs hH.out).mono ?_
    rintro e w' ⟨rfl, rfl⟩
    go_wp2_with fail
    refine (refFind_any _ _ _ hs).mono ?_
    rintro e w' ⟨rfl, rfl⟩
    rw [hf]
    go_wp2_with fail
    refine (split_any s c _ hs4).mono ?_
    rintro e w2 ⟨A1, c1, rfl, hown1, hb2⟩
    have hc2 := bel_onto hc1 hb2 hc1.size
    have hR1 := Rd.of_own hown1
    clear hc1 hb2 hown1
    go_wp2_with fail
    refine (refSplit_any s c _ hs4).mono ?_
    rintro e w3 ⟨A2, c2, rfl, hown2, hb3⟩
    have hc3 := bel_onto hc2 hb3 hc2.size
    have hR1 := hR1.below hb3
    have hR2 := Rd.of_own hown2
    clear hc2 hb3 hown2
    obtain ⟨hcap1, hcap1'⟩ := hR1.cap
    obtain ⟨hcap2, hcap2'⟩ := hR2.cap
    unfold maxLen at hcap1' hcap2'
    go_wp2_with fail
    go_loopw [11, 12] (fun al i wr => ∃ k : Nat, k ≤ (splitL s.toList c).length ∧ i = .int .i64 k ∧ al = .string (S (joinL c ((splitL s.toList c).take k))) ∧ (joinL c ((splitL s.toList c).take k)).length ≤ k * 502 ∧ Below w3.heap.size w3 wr ∧ w3.heap.size ≤ wr.heap.size) (fun _ i _ => (splitL s.toList c).length - (intOf i).toNat)
    case atStart => exact ⟨0, Nat.zero_le _, rfl, rfl, by simp [joinL], Below.refl _ _, Nat.le_refl _⟩
    case round =>
      obtain ⟨k, hk, rfl, rfl, hjl, hbel, hsz⟩ := hrel
      by_cases hlt : k < (splitL s.toList c).length
      · obtain ⟨b1, o1, rfl, hb1, hcell1⟩ := (hR1.below hbel).at_ (by omega)
        obtain ⟨b2, o2, rfl, hb2, hcell2⟩ := (hR2.below hbel).at_ (by omega)
        have hx1 := hcell1 k (by simpa using hlt)
        have hx2 := hcell2 k (by simpa using hlt)
        rw [List.getElem?_map, List.getElem?_eq_getElem hlt] at hx1 hx2
        replace hx1 : wr.cell? ⟨b1, o1 + k, none⟩ = some (.string (S (splitL s.toList c)[k])) := hx1
        replace hx2 : wr.cell? ⟨b2, o2 + k, none⟩ = some (.string (S (splitL s.toList c)[k])) := hx2
        have hpl : (splitL s.toList c)[k].length ≤ 500 := by
          have := hpart.out _ (List.getElem_mem hlt)
          rw [← hszl.out] at this
          omega
        have hsn := Lib.hid (show joinL c ((splitL s.toList c).take (k + 1)) = if k = 0 then (splitL s.toList c)[k] else joinL c ((splitL s.toList c).take k) ++ c :: (splitL s.toList c)[k] by
          rw [List.take_succ_eq_append_getElem hlt, join_snoc, List.length_take, Nat.min_eq_left (by omega)])
        have hki : (k : Int) < (splitL s.toList c).length := by omega
        have hk0 : (0 : Int) ≤ k := by omega
        clear hcell1 hcell2
        by_cases h0 : k = 0
        · have hz : decide (0 < k) = false := decide_eq_false (by omega)
          have hj0 := Lib.hid (show joinL c ((splitL s.toList c).take k) = [] by subst h0; rfl)
          have h0' := Lib.hid h0
          clear h0
          go_wp2
          go_quiet (fail)
          have hbq := below_drews hbel nq
          have hszq : w3.heap.size ≤ (wr.drewN nq).heap.size := hsz
          have hx1q : (wr.drewN nq).cell? ⟨b1, o1 + k, none⟩ = some (.string (S (splitL s.toList c)[k])) := hx1
          have hb1q : b1 < (wr.drewN nq).heap.size := hb1
          clear hx1 hx2
          generalize wr.drewN nq = wq at hbq hszq hx1q hb1q ⊢
          go_wp2
          go_roundw
          case rel =>
            refine ⟨k + 1, by omega, by go_num, ?_, ?_, hbq, hszq⟩
            · rw [hsn.out, hj0.out, if_pos h0'.out]; rfl
            · rw [hsn.out, if_pos h0'.out]; omega
          case measure => simp [intOf]; omega
        · have hz : 0 < k := by omega
          have h0' := Lib.hid h0
          clear h0
          go_wp2
          go_quiet (fail)
          have hbq := below_drews hbel nq
          have hszq : w3.heap.size ≤ (wr.drewN nq).heap.size := hsz
          have hx1q : (wr.drewN nq).cell? ⟨b1, o1 + k, none⟩ = some (.string (S (splitL s.toList c)[k])) := hx1
          have hb1q : b1 < (wr.drewN nq).heap.size := hb1
          clear hx1 hx2
          generalize wr.drewN nq = wq at hbq hszq hx1q hb1q ⊢
          go_wp2
          go_roundw
          case rel =>
            refine ⟨k + 1, by omega, by go_num, ?_, ?_, hbq.alloc hszq _, by simp; omega⟩
            · rw [hsn.out, if_neg h0'.out]
              try simp
            · rw [hsn.out, if_neg h0'.out]; simp; omega
          case measure => simp [intOf]; omega
      · obtain rfl : k = (splitL s.toList c).length := by omega
        have hfin := Lib.hid (show joinL c ((splitL s.toList c).take (splitL s.toList c).length) = s.toList by rw [List.take_length]; exact hjoin.out)
        rw [hfin.out]
        go_wp2_with (go_at_call 17; refine (awake06 _).mono ?_; rintro e w7 ⟨rfl, hb7⟩)
        go_ret
        have hc4 := bel_onto hc3 hbel hc3.size
        exact ⟨rfl, bel_onto hc4 hb7 hc4.size⟩
  · have hH := Lib.hid hcut
    have hf : findL s.toList c = a.length := by unfold findL; rw [hcut]
    have hS := Lib.hid (cut_some hcut)
    clear hcut
    go_enter Try.func10, Try.ntmps10
    go_wp2_with fail
    refine (cut_any_some _ _ _ hs a b hH.out).mono ?_
    rintro e w1 ⟨rfl, hc1⟩
    go_wp2_with fail
    refine (refFind_any _ _ _ hs).mono ?_
    rintro e w' ⟨rfl, rfl⟩
    rw [hf]
    have e1 : (s.extract 0 a.length).toList = a := by rw [extract_to, S_toList]; exact hS.out.2.1.symm
    have e2 : (s.extract (a.length + 1) s.size).toList = b := by rw [extract_from, S_toList]; exact hS.out.2.2.1.symm
    have e3 : a.length + 1 ≤ s.size := by rw [hszl.out]; exact hS.out.1
    have e4 : (a.length : Int) ≤ s.size := by omega
    have e5 : (a.length : Int) + 1 ≤ s.size := by omega
    go_wp2_with fail
    clear e1 e2 e3 e4 e5 hf
    refine (split_any s c _ hs4).mono ?_
    rintro e w2 ⟨A1, c1, rfl, hown1, hb2⟩
    have hc2 := bel_onto hc1 hb2 hc1.size
    have hR1 := Rd.of_own hown1
    clear hc1 hb2 hown1
    go_wp2_with fail
    refine (refSplit_any s c _ hs4).mono ?_
    rintro e w3 ⟨A2, c2, rfl, hown2, hb3⟩
    have hc3 := bel_onto hc2 hb3 hc2.size
    have hR1 := hR1.below hb3
    have hR2 := Rd.of_own hown2
    clear hc2 hb3 hown2
    obtain ⟨hcap1, hcap1'⟩ := hR1.cap
    obtain ⟨hcap2, hcap2'⟩ := hR2.cap
    unfold maxLen at hcap1' hcap2'
    go_wp2_with fail
    go_loopw [11, 12] (fun al i wr => ∃ k : Nat, k ≤ (splitL s.toList c).length ∧ i = .int .i64 k ∧ al = .string (S (joinL c ((splitL s.toList c).take k))) ∧ (joinL c ((splitL s.toList c).take k)).length ≤ k * 502 ∧ Below w3.heap.size w3 wr ∧ w3.heap.size ≤ wr.heap.size) (fun _ i _ => (splitL s.toList c).length - (intOf i).toNat)
    case atStart => exact ⟨0, Nat.zero_le _, rfl, rfl, by simp [joinL], Below.refl _ _, Nat.le_refl _⟩
    case round =>
      obtain ⟨k, hk, rfl, rfl, hjl, hbel, hsz⟩ := hrel
      by_cases hlt : k < (splitL s.toList c).length
      · obtain ⟨b1, o1, rfl, hb1, hcell1⟩ := (hR1.below hbel).at_ (by omega)
        obtain ⟨b2, o2, rfl, hb2, hcell2⟩ := (hR2.below hbel).at_ (by omega)
        have hx1 := hcell1 k (by simpa using hlt)
        have hx2 := hcell2 k (by simpa using hlt)
        rw [List.getElem?_map, List.getElem?_eq_getElem hlt] at hx1 hx2
        replace hx1 : wr.cell? ⟨b1, o1 + k, none⟩ = some (.string (S (splitL s.toList c)[k])) := hx1
        replace hx2 : wr.cell? ⟨b2, o2 + k, none⟩ = some (.string (S (splitL s.toList c)[k])) := hx2
        have hpl : (splitL s.toList c)[k].length ≤ 500 := by
          have := hpart.out _ (List.getElem_mem hlt)
          rw [← hszl.out] at this
          omega
        have hsn := Lib.hid (show joinL c ((splitL s.toList c).take (k + 1)) = if k = 0 then (splitL s.toList c)[k] else joinL c ((splitL s.toList c).take k) ++ c :: (splitL s.toList c)[k] by
          rw [List.take_succ_eq_append_getElem hlt, join_snoc, List.length_take, Nat.min_eq_left (by omega)])
        have hki : (k : Int) < (splitL s.toList c).length := by omega
        have hk0 : (0 : Int) ≤ k := by omega
        clear hcell1 hcell2
        by_cases h0 : k = 0
        · have hz : decide (0 < k) = false := decide_eq_false (by omega)
          have hj0 := Lib.hid (show joinL c ((splitL s.toList c).take k) = [] by subst h0; rfl)
          have h0' := Lib.hid h0
          clear h0
          go_wp2
          go_quiet (fail)
          have hbq := below_drews hbel nq
          have hszq : w3.heap.size ≤ (wr.drewN nq).heap.size := hsz
          have hx1q : (wr.drewN nq).cell? ⟨b1, o1 + k, none⟩ = some (.string (S (splitL s.toList c)[k])) := hx1
          have hb1q : b1 < (wr.drewN nq).heap.size := hb1
          clear hx1 hx2
          generalize wr.drewN nq = wq at hbq hszq hx1q hb1q ⊢
          go_wp2
          go_roundw
          case rel =>
            refine ⟨k + 1, by omega, by go_num, ?_, ?_, hbq, hszq⟩
            · rw [hsn.out, hj0.out, if_pos h0'.out]; rfl
            · rw [hsn.out, if_pos h0'.out]; omega
          case measure => simp [intOf]; omega
        · have hz : 0 < k := by omega
          have h0' := Lib.hid h0
          clear h0
          go_wp2
          go_quiet (fail)
          have hbq := below_drews hbel nq
          have hszq : w3.heap.size ≤ (wr.drewN nq).heap.size := hsz
          have hx1q : (wr.drewN nq).cell? ⟨b1, o1 + k, none⟩ = some (.string (S (splitL s.toList c)[k])) := hx1
          have hb1q : b1 < (wr.drewN nq).heap.size := hb1
          clear hx1 hx2
          generalize wr.drewN nq = wq at hbq hszq hx1q hb1q ⊢
          go_wp2
          go_roundw
          case rel =>
            refine ⟨k + 1, by omega, by go_num, ?_, ?_, hbq.alloc hszq _, by simp; omega⟩
            · rw [hsn.out, if_neg h0'.out]
              try simp
            · rw [hsn.out, if_neg h0'.out]; simp; omega
          case measure => simp [intOf]; omega
      · obtain rfl : k = (splitL s.toList c).length := by omega
        have hfin := Lib.hid (show joinL c ((splitL s.toList c).take (splitL s.toList c).length) = s.toList by rw [List.take_length]; exact hjoin.out)
        rw [hfin.out]
        go_wp2_with (go_at_call 17; refine (awake06 _).mono ?_; rintro e w7 ⟨rfl, hb7⟩)
        go_ret
        have hc4 := bel_onto hc3 hbel hc3.size
        exact ⟨rfl, bel_onto hc4 hb7 hc4.size⟩
theorem asciiParts (s : ByteArray) (n : Int) (w : World) (hs : s.size ≤ maxLen) (h : (Lit.int .u8 n).wf = true) :
    Calls Try.prog 10 #[.string s, .int .u8 n] w fun e w' => e = .returned (.bool true) ∧ Below w.heap.size w w' := by
  obtain ⟨c, rfl⟩ := u8_wf h
  exact asciiParts0 s c w hs
end Go.Proofs.Ytecafpimcffibaa
