/-
  The law of a name's labels.
-/
import Derived.Test.YtonohkckflgcbaaHostLaw
import Derived.StillTailTactics
import Derived.Deep.RegionHeld3
namespace Go.Proofs.Ytonohkckflgcbaa
open Go.RowKit
set_option linter.unusedVariables false

/-- What is left of a name behind some of its labels. -/
def Left (s : List UInt8) (W : List (List UInt8)) (k : Nat) (T : List UInt8) : Prop :=
  T <:+ s ∧ (T = s ∨ (46 :: T) <:+ s) ∧ (k < W.length → splitL T 46 = W.drop k)

theorem Left.start (s : List UInt8) : Left s (splitL s 46) 0 s := ⟨List.suffix_refl _, .inl rfl, fun _ => rfl⟩

theorem Left.matches_ {s T : List UInt8} {k : Nat} (h : Left s (splitL s 46) k T) (hk : k < (splitL s 46).length) (hn : nameB s = true) : matchB s T = true := by
  have hle := h.1.length_le
  have hn' := hn
  unfold nameB at hn'
  simp only [Bool.and_eq_true, decide_eq_true_eq, Bool.not_eq_true'] at hn'
  obtain ⟨⟨h1, h2⟩, h3⟩ := hn'
  have hc : canonB T = true := by
    rw [canonB_small (by omega)]
    unfold nameB
    rw [decide_eq_true (by omega : T.length ≤ 256), h.2.2 hk]
    have : ((splitL s 46).drop k).all labelB = true := by
      rw [List.all_eq_true] at h3 ⊢
      exact fun x hx => h3 x (List.mem_of_mem_drop hx)
    rw [this]
    cases addrB T <;> rfl
  have hcs : canonB s = true := by unfold canonB; rw [hn]; rfl
  unfold matchB
  rw [hc, hcs, h2]
  simp only [Bool.true_and, Bool.not_false, Bool.or_eq_true, beq_iff_eq, Lib.hasSuffix, List.isSuffixOf_iff_suffix]
  rcases h.2.1 with e | e
  · exact .inl e.symm
  · exact .inr e

theorem Left.step {s T : List UInt8} {k : Nat} (h : Left s (splitL s 46) k T) (hk : k < (splitL s 46).length) :
    (k + 1 < (splitL s 46).length ∧ ∃ T', cutL T 46 = some ((splitL s 46)[k], T') ∧ T' = T.drop ((splitL s 46)[k].length + 1) ∧ (splitL s 46)[k].length + 1 ≤ T.length ∧ Left s (splitL s 46) (k + 1) T') ∨
    (k + 1 = (splitL s 46).length ∧ cutL T 46 = none ∧ Left s (splitL s 46) (k + 1) T) := by
  have hsp := h.2.2 hk
  have hcs := split_cut T 46
  rw [hsp, List.drop_eq_getElem_cons hk] at hcs
  cases hc : cutL T 46 with
  | none =>
    rw [hc] at hcs
    simp only [List.cons.injEq] at hcs
    have hl := congrArg List.length hcs.2
    simp only [List.length_drop, List.length_nil] at hl
    right
    exact ⟨by omega, rfl, h.1, h.2.1, fun h' => absurd h' (by omega)⟩
  | some p =>
    rw [hc] at hcs
    simp only [List.cons.injEq] at hcs
    obtain ⟨e1, e2⟩ := hcs
    obtain ⟨q1, q2, q3, q4, q5⟩ := cut_some hc
    obtain ⟨a, b⟩ := p
    simp only at *
    subst e1
    left
    have hne := split_ne b 46
    rw [← e2] at hne
    have hlt : k + 1 < (splitL s 46).length := by
      rcases Nat.lt_or_ge (k + 1) (splitL s 46).length with h' | h'
      · exact h'
      · exact absurd (List.drop_eq_nil_of_le h') hne
    refine ⟨hlt, b, rfl, q3, by omega, ?_, ?_, fun _ => e2.symm⟩
    · exact List.IsSuffix.trans ⟨(splitL s 46)[k] ++ [46], by rw [q4]; simp⟩ h.1
    · right
      exact List.IsSuffix.trans ⟨(splitL s 46)[k], q4.symm⟩ h.1
theorem upP_yes {T a b : List UInt8} (h : nameB T = true) (hc : cutL T 46 = some (a, b)) : upP T = (b, true) := by unfold upP; rw [h, hc]; rfl
theorem upP_none {T : List UInt8} (hc : cutL T 46 = none) : upP T = ([], false) := by unfold upP; rw [hc]; split <;> rfl
theorem upP_no {T : List UInt8} (h : nameB T = false) : upP T = ([], false) := by unfold upP; rw [h]; rfl

set_option maxRecDepth 8000 in
set_option maxHeartbeats 4000000 in
theorem hostLabels (s : ByteArray) (w : World) (hs : s.size ≤ maxLen) :
    Calls Try.prog 10 #[.string s] w fun e w' => e = .returned (.bool true) ∧ Below w.heap.size w w' := by
  unfold maxLen at hs
  have hsz := Lib.hid (size_toList s)
  by_cases h1 : 1000 < s.size
  · have h1i : (1000 : Int) < s.size := by omega
    go_enter Try.func10, Try.ntmps10
    go_wp2_with fail
    refine (awake08 _).mono ?_
    rintro e w1 ⟨rfl, hb1⟩
    go_wp2
    go_ret
    exact ⟨rfl, hb1⟩
  have h1i : decide ((1000 : Int) < s.size) = false := decide_eq_false (by omega)
  have hs4 : s.size ≤ 4294967296 := by omega
  have hs1 : s.size ≤ 1000 := by omega
  cases hq : nameB s.toList
  · have hN := Lib.hid hq
    have hU := Lib.hid (upP_no hq)
    clear hq
    go_enter Try.func10, Try.ntmps10
    go_wp2_with fail
    refine (labels_no s _ hs4 hN.out).mono ?_
    rintro e w1 ⟨rfl, hb1⟩
    go_wp2_with fail
    refine (hup_any s _ hs4).mono ?_
    rintro e w2 ⟨rfl, hb2⟩
    have hb3 := bel_call hb1 hb2
    clear hb2 hb1
    rw [hU.out]
    go_wp2_with fail
    refine (refName_any s _ hs4).mono ?_
    rintro e w4 ⟨rfl, hb4⟩
    have hb5 := bel_call hb3 hb4
    clear hb4 hb3
    rw [hN.out]
    go_wp2_with fail
    refine (awake08 _).mono ?_
    rintro e w6 ⟨rfl, hb6⟩
    have hb7 := bel_call hb5 hb6
    go_wp2
    go_ret
    exact ⟨rfl, hb7⟩
  have hN := Lib.hid hq
  clear hq
  have hst := Left.start s.toList
  have hmt := Lib.hid (fun (k : Nat) (T : List UInt8) (h : Left s.toList (splitL s.toList 46) k T) (hk : k < (splitL s.toList 46).length) => h.matches_ hk hN.out)
  have hsp := Lib.hid (fun (k : Nat) (T : List UInt8) (h : Left s.toList (splitL s.toList 46) k T) (hk : k < (splitL s.toList 46).length) => h.step hk)
  have hlen := split_len s.toList 46
  rw [← size_toList] at hlen
  have hlenL := Lib.hid (fun (k : Nat) (T : List UInt8) (h : Left s.toList (splitL s.toList 46) k T) => show T.length ≤ 1000 by have := h.1.length_le; rw [← hsz.out] at this; omega)
  go_enter Try.func10, Try.ntmps10
  go_wp2_with fail
  refine (labels_yes s _ hs4 hN.out).mono ?_
  rintro e w1 ⟨A, c, rfl, hown, hb1⟩
  have hR := Rd.of_own hown
  clear hown
  go_wp2_with fail
  refine (hup_any s _ hs4).mono ?_
  rintro e w2 ⟨rfl, hb2⟩
  have hb3 := bel_call hb1 hb2
  replace hR := hR.below hb2
  clear hb2 hb1
  go_wp2_with fail
  refine (refName_any s _ hs4).mono ?_
  rintro e w4 ⟨rfl, hb4⟩
  have hb5 := bel_call hb3 hb4
  replace hR := hR.below hb4
  clear hb4 hb3
  rw [hN.out]
  go_wp2_with fail
  refine (refSplit_any s 46 _ hs4).mono ?_
  rintro e w6 ⟨A2, c2, rfl, hown, hb6⟩
  have hb7 := bel_call hb5 hb6
  replace hR := hR.below hb6
  have hR2 := Rd.of_own hown
  clear hown hb6 hb5
  generalize splitL s.toList 46 = W at *
  have hcap := hR.cap
  have hcap2 := hR2.cap
  unfold maxLen at hcap hcap2
  obtain ⟨hca, hcb⟩ := hcap
  obtain ⟨hca2, hcb2⟩ := hcap2
  go_wp2_with fail
  go_loopw [7, 8, 9, 10] (fun t i u v wr => ∃ (k : Nat) (T : List UInt8), k ≤ W.length ∧ i = .int .i64 k ∧ t = .string (S T) ∧ Below w6.heap.size w6 wr ∧ Left s.toList W k T) (fun _ i _ _ _ => W.length - (intOf i).toNat)
  case atStart => exact ⟨0, s.toList, Nat.zero_le _, rfl, by rw [S_of], Below.refl _ _, hst⟩
  case round =>
    obtain ⟨k, T, hk, rfl, rfl, hbel, hL⟩ := hrel
    have hbw := bel_call hb7 hbel
    have hTl := hlenL.out k T hL
    have hTs : (S T).size ≤ 4294967296 := by rw [S_size]; omega
    by_cases hlt : k < W.length
    · have hlti : (k : Int) < W.length := by omega
      obtain ⟨b, off, rfl, hb, _, hcell⟩ := rd_str (hR.below hbel) hlt
      obtain ⟨b2, off2, rfl, hb2, _, hcell2⟩ := rd_str (hR2.below hbel) hlt
      have hm := Lib.hid (hmt.out k T hL hlt)
      have hstep := Lib.hid (hsp.out k T hL hlt)
      obtain ⟨p, hp⟩ : ∃ p, W[k] = p := ⟨_, rfl⟩
      rw [hp] at hcell hcell2 hstep
      clear hp
      go_wp2_with fail
      go_still_tail 12, (by kernel_rfl)
      change wpList _ _ _ _ _ wr.drew
      have hbd := hbel.drew
      have hcd : wr.drew.cell? ⟨b2, off2 + k, none⟩ = some (.string (S p)) := hcell2
      generalize wr.drew = wd at *
      go_wp2_with fail
      refine (hmatch_any s _ _ hs4 hTs).mono ?_
      rintro e w8 ⟨rfl, hb8⟩
      rw [S_toList, hm.out]
      have hbel8 := bel_call hbd hb8
      have hc8 := cell_later hb8 hcd
      clear hb8 hbd hbel hcell hcell2 hbw hcd
      go_wp2_with fail
      refine (hup_any _ _ hTs).mono ?_
      rintro e w9 ⟨rfl, hb9⟩
      rw [S_toList]
      have hbel9 := bel_call hbel8 hb9
      have hc9 := cell_later hb9 hc8
      clear hb9 hbel8 hc8
      rcases hstep.out with ⟨hk1, T', hc, hT', hle, hL'⟩ | ⟨hk1, hc, hL'⟩
      · have hk1i : decide ((k : Int) + 1 < W.length) = true := decide_eq_true (by omega)
        have hT2s : (S T').size ≤ 4294967296 := by have := hlenL.out (k + 1) T' hL'; rw [S_size]; omega
        have hcases : (nameB T = true ∧ upP T = (T', true)) ∨ (nameB T = false ∧ upP T = ([], false)) := by
          cases h : nameB T
          · exact .inr ⟨rfl, upP_no h⟩
          · exact .inl ⟨rfl, upP_yes h hc⟩
        have hT2 := Lib.hid hT'
        clear hstep hc hT'
        have hX : (S T).extract (p.length + 1) T.length = S T' := by
          have := extract_from (S T) (p.length + 1)
          rw [S_size, S_toList] at this
          rw [this, hT2.out]
        rcases hcases with ⟨hn, hu⟩ | ⟨hn, hu⟩
        all_goals
          have hN2 := Lib.hid hn
          rw [hu]
          clear hn hu
          go_wp2_with fail
          refine (refName_any _ _ hTs).mono ?_
          rintro e w10 ⟨rfl, hb10⟩
          rw [S_toList, hN2.out]
          have hbel10 := bel_call hbel9 hb10
          have hc10 := cell_later hb10 hc9
          clear hb10 hbel9 hc9
          go_wp2_with fail
          refine (refName_any _ _ hT2s).mono ?_
          rintro e w11 ⟨rfl, hb11⟩
          rw [S_toList]
          have hbel11 := bel_call hbel10 hb11
          clear hb11 hbel10 hc10
          cases hq : nameB T'
          all_goals
            clear hq
            go_wp2_with fail
            go_roundw
            case rel => exact ⟨k + 1, T', by omega, by go_num, rfl, hbel11, hL'⟩
            case measure => simp [intOf]; omega
      · have hk1i : decide ((k : Int) + 1 < W.length) = false := decide_eq_false (by omega)
        have hu := upP_none hc
        have hk1H := Lib.hid hk1
        clear hstep hc hk1
        rw [hu]
        cases hn : nameB T
        all_goals
          have hN2 := Lib.hid hn
          clear hn
          go_wp2_with fail
          refine (refName_any _ _ hTs).mono ?_
          rintro e w10 ⟨rfl, hb10⟩
          rw [S_toList, hN2.out]
          have hbel10 := bel_call hbel9 hb10
          clear hb10 hbel9 hc9
          go_wp2_with fail
          refine (refName_any _ _ hTs).mono ?_
          rintro e w11 ⟨rfl, hb11⟩
          rw [S_toList, hN2.out]
          have hbel11 := bel_call hbel10 hb11
          clear hb11 hbel10
          go_wp2_with fail
          go_roundw
          case rel => exact ⟨k + 1, T, by have := hk1H.out; omega, by go_num, rfl, hbel11, hL'⟩
          case measure => simp [intOf]; omega
    · obtain rfl : k = W.length := by omega
      go_wp2_with fail
      refine (awake08 _).mono ?_
      rintro e w8 ⟨rfl, hb8⟩
      have hb9 := bel_call hbw hb8
      go_wp2
      go_ret
      exact ⟨rfl, hb9⟩
end Go.Proofs.Ytonohkckflgcbaa
