/-
  The reference's answer walked: a name's public suffix.
-/
import Derived.Test.YtbijphfendaddaaSufP4
namespace Go.Proofs.Ytbijphfendaddaa
open Go.RowKit
set_option linter.unusedVariables false

set_option maxRecDepth 4000 in
set_option maxHeartbeats 8000000 in
theorem refOf09_any (A : Option Addr) (c : Nat) (rs : List (List UInt8)) (n : List UInt8) (w : World) (h : Rd w 1 (.slice A rs.length c) rs.length (rs.map strV)) (hrs : ∀ r ∈ rs, r.length ≤ 4294967296)
    (hl : n.length ≤ 4294967296) (hnb : nameB n = true) (hall : rs.all ruleOk = true) :
    Calls Try.prog 17 #[.slice A rs.length c, .string (S n)] w fun e w' => e = .returned (.string (S (tailL n (bestI n rs)))) ∧ Below w.heap.size w w' := by
  have hcap := h.cap
  unfold maxLen at hcap
  obtain ⟨hca, hcb⟩ := hcap
  have hN := lab_pos n
  have hN2 := split_len n 46
  replace hN2 : (Lab n).length ≤ n.length + 1 := hN2
  rw [List.all_eq_true] at hall
  have hallH := Lib.hid hall
  have hrsH := Lib.hid hrs
  have hE0 := Lib.hid (fun (y : List UInt8) (_ : y ∈ rs) => cE_le n (ruleT y))
  have hB0 := Lib.hid (fun (y : List UInt8) (_ : y ∈ rs) => cB_le n (ruleT y))
  have htl1 := Lib.hid (fun (m : Nat) (h1 : 1 ≤ m) (h2 : m ≤ (Lab n).length) (w : World) => refTail_any n m w hnb hl h1 h2)
  clear hall hrs hnb
  go_enter Try.func17, Try.ntmps17
  go_wp2_with fail
  refine (refCount_any n _ hl).mono ?_
  rintro e w1 ⟨rfl, hb1⟩
  go_wp2
  go_loopw [6] (fun i wr => ∃ m : Nat, i = .int .i64 m ∧ m ≤ (Lab n).length ∧ Below w.heap.size w wr ∧ Hid (∀ y ∈ rs, cE n (ruleT y) ≤ m)) (fun i _ => (intOf i).toNat)
  case atStart => exact ⟨(Lab n).length, rfl, Nat.le_refl _, hb1, hE0⟩
  case round =>
    obtain ⟨m, rfl, hm, hbel, hin⟩ := hrel
    by_cases hgo : 1 ≤ m
    · have hmi : (1 : Int) ≤ m := by omega
      obtain ⟨wo, rfl⟩ : ∃ wo : World, wo = wr := ⟨_, rfl⟩
      go_wp2
      go_loopw [7] (fun i wr => ∃ k : Nat, i = .int .i64 k ∧ k ≤ rs.length ∧ Below w.heap.size w wr ∧ Hid (∀ y ∈ rs.take k, cE n (ruleT y) ≠ m)) (fun i _ => rs.length - (intOf i).toNat)
      case atStart => exact ⟨0, rfl, by omega, hbel, Lib.hid (by intro y hy; simp at hy)⟩
      case round =>
        clear hbel
        obtain ⟨k, rfl, hk, hbel, hjn⟩ := hrel
        by_cases hlt : k < rs.length
        · have hki : (k : Int) < rs.length := by omega
          obtain ⟨b, off, rfl, hb, hx⟩ := (h.below hbel).texts.2 k hlt
          have hrl := hrsH.out _ (List.getElem_mem hlt)
          have hmem := Lib.hid (List.getElem_mem hlt)
          have hst := Lib.hid (fun hne => ne_step (rs := rs) (f := fun y => cE n (ruleT y)) (m := (m : Int)) hlt hjn.out hne)
          have hiff := Lib.hid (not_iff (n := n) (m := m) (hallH.out _ (List.getElem_mem hlt)) hgo hm)
          generalize rs[k] = tk at *
          have hsg := splitR_sign tk
          obtain ⟨sg, nm, hS⟩ : ∃ sg nm, splitR tk = (sg, nm) := ⟨_, _, rfl⟩
          rw [hS] at hiff hsg
          have hSH := Lib.hid hS
          clear hS
          simp only at hiff hsg
          by_cases hs : sg = 33
          · subst hs
            clear hsg
            go_wp2_with fail
            refine (refSplit09_any tk _ hrl).mono ?_
            rintro e w3 ⟨rfl, hb3⟩
            rw [hSH.out]
            have hbel3 := bel_call hbel hb3
            clear hb3 hbel hx hb
            go_wp2_with fail
            refine (htl1.out m hgo hm _).mono ?_
            rintro e w4 ⟨rfl, hb4⟩
            have hbel4 := bel_call hbel3 hb4
            clear hb4 hbel3
            by_cases hq : nm = tailL n m
            · have hbest := Lib.hid (best_not (rs := rs) hmem.out hgo (hiff.out.1 ⟨by trivial, hq⟩) hin.out)
              have h2m : 2 ≤ m := by
                have hc := hiff.out.1 ⟨by trivial, hq⟩
                obtain ⟨p1, p2, p3⟩ := cE_pos (n := n) (r := ruleT tk) (by omega)
                have := rule_two (hallH.out _ hmem.out) p1
                omega
              have hqb : (nm == tailL n m) = true := by rw [beq_iff_eq]; exact hq
              clear hiff hst hin hjn hq
              generalize tailL n m = tm at *
              have ht3 := htl1.out (m - 1) (by omega) (by omega)
              rw [show ((m - 1 : Nat) : Int) = (m : Int) - 1 by omega] at ht3
              rw [← hbest.out] at ht3
              have hbe := Lib.hid hbest.out.symm
              clear hbest
              go_wp2_with fail
              rw [hbe.out]
              refine (ht3 _).mono ?_
              rintro e w5 ⟨rfl, hb5⟩
              have hbel5 := bel_call hbel4 hb5
              go_wp2
              go_ret
              exact ⟨rfl, hbel5⟩
            · have hst2 := Lib.hid (hst.out (fun e => hq (hiff.out.2 e).2))
              have hqb : (nm == tailL n m) = false := by rw [beq_eq_false_iff_ne]; exact hq
              clear hiff hst hjn hq
              generalize tailL n m = tm at *
              go_wp2
              go_roundw
              case rel => first | exact ⟨k + 1, by go_num, by omega, hbel4, hst2⟩ | exact ⟨k + 1, by omega, by omega, hst2⟩ | ((repeat apply Exists.intro); exact ⟨⟨k + 1, by go_num, by omega, hbel4, hst2⟩, rfl⟩)
              case measure => simp [intOf]; omega
          · have hst2 := Lib.hid (hst.out (fun e => hs (hiff.out.2 e).1))
            have hsb : (sg == 33) = false := by rw [beq_eq_false_iff_ne]; exact hs
            clear hiff hst hjn hs hsg
            go_wp2_with fail
            refine (refSplit09_any tk _ hrl).mono ?_
            rintro e w3 ⟨rfl, hb3⟩
            rw [hSH.out]
            have hbel3 := bel_call hbel hb3
            clear hb3 hbel hx hb
            go_wp2
            go_roundw
            case rel => first | exact ⟨k + 1, by go_num, by omega, hbel3, hst2⟩ | exact ⟨k + 1, by omega, by omega, hst2⟩ | ((repeat apply Exists.intro); exact ⟨⟨k + 1, by go_num, by omega, hbel3, hst2⟩, rfl⟩)
            case measure => simp [intOf]; omega
        · obtain rfl : k = rs.length := by omega
          have hin2 := Lib.hid (le_step hgo hin.out hjn.out)
          clear hin hjn
          go_wp2
          go_roundw
          case rel => exact ⟨m - 1, by rw [show (m : Int) - 1 = ((m - 1 : Nat) : Int) by omega], by omega, hbel, hin2⟩
          case measure => simp [intOf]; omega
    · obtain rfl : m = 0 := by omega
      have hE := Lib.hid (show ∀ y ∈ rs, cE n (ruleT y) ≤ 0 from hin.out)
      clear hin hE0
      go_wp2
      go_loopw [10] (fun i wr => ∃ m : Nat, i = .int .i64 m ∧ m ≤ (Lab n).length ∧ Below w.heap.size w wr ∧ Hid (∀ y ∈ rs, cB n (ruleT y) ≤ m)) (fun i _ => (intOf i).toNat)
      case atStart => exact ⟨(Lab n).length, rfl, Nat.le_refl _, hbel, hB0⟩
      case round =>
        clear hbel
        obtain ⟨m, rfl, hm, hbel, hin⟩ := hrel
        by_cases hgo : 1 ≤ m
        · have hmi : (1 : Int) ≤ m := by omega
          obtain ⟨wo, rfl⟩ : ∃ wo : World, wo = wr := ⟨_, rfl⟩
          go_wp2
          go_loopw [11] (fun i wr => ∃ k : Nat, i = .int .i64 k ∧ k ≤ rs.length ∧ Below w.heap.size w wr ∧ Hid (∀ y ∈ rs.take k, cB n (ruleT y) ≠ m)) (fun i _ => rs.length - (intOf i).toNat)
          case atStart => exact ⟨0, rfl, by omega, hbel, Lib.hid (by intro y hy; simp at hy)⟩
          case round =>
            clear hbel
            obtain ⟨k, rfl, hk, hbel, hjn⟩ := hrel
            by_cases hlt : k < rs.length
            · have hki : (k : Int) < rs.length := by omega
              obtain ⟨b, off, rfl, hb, hx⟩ := (h.below hbel).texts.2 k hlt
              have hrl := hrsH.out _ (List.getElem_mem hlt)
              have hmem := Lib.hid (List.getElem_mem hlt)
              have hst := Lib.hid (fun hne => ne_step (rs := rs) (f := fun y => cB n (ruleT y)) (m := (m : Int)) hlt hjn.out hne)
              have hiff := Lib.hid (yes_iff (n := n) (m := m) (hallH.out _ (List.getElem_mem hlt)) hgo hm)
              generalize rs[k] = tk at *
              have hsg := splitR_sign tk
              obtain ⟨sg, nm, hS⟩ : ∃ sg nm, splitR tk = (sg, nm) := ⟨_, _, rfl⟩
              rw [hS] at hiff hsg
              have hSH := Lib.hid hS
              clear hS
              simp only at hiff hsg
              by_cases hno : cB n (ruleT tk) = m
              · have hbest := Lib.hid (show tailL n (bestI n rs) = tailL n m by rw [best_yes hE.out hmem.out hgo hno hin.out])
                rcases hiff.out.2 hno with ⟨rfl, hq⟩ | ⟨rfl, h2m, hq⟩
                · have hqb : (nm == tailL n m) = true := by rw [beq_iff_eq]; exact hq
                  clear hiff hst hin hjn hq hno hsg
                  go_wp2_with fail
                  refine (refSplit09_any tk _ hrl).mono ?_
                  rintro e w3 ⟨rfl, hb3⟩
                  rw [hSH.out]
                  have hbel3 := bel_call hbel hb3
                  clear hb3 hbel hx hb
                  have ht3 := htl1.out m hgo hm
                  obtain ⟨tm, htm⟩ : ∃ tm, tailL n (m : Int) = tm := ⟨_, rfl⟩
                  rw [htm] at hqb ht3 hbest
                  clear htm
                  go_wp2_with fail
                  refine (ht3 _).mono ?_
                  rintro e w4 ⟨rfl, hb4⟩
                  have hbel4 := bel_call hbel3 hb4
                  clear hb4 hbel3
                  go_wp2_with fail
                  refine (ht3 _).mono ?_
                  rintro e w5 ⟨rfl, hb5⟩
                  have hbel5 := bel_call hbel4 hb5
                  go_wp2
                  go_ret
                  rw [hbest.out]
                  exact ⟨rfl, hbel5⟩
                · have hqb : (nm == tailL n ((m : Int) - 1)) = true := by rw [beq_iff_eq]; exact hq
                  have h2i : (2 : Int) ≤ m := by omega
                  clear hiff hst hin hjn hq hno hsg
                  go_wp2_with fail
                  refine (refSplit09_any tk _ hrl).mono ?_
                  rintro e w3 ⟨rfl, hb3⟩
                  rw [hSH.out]
                  have hbel3 := bel_call hbel hb3
                  clear hb3 hbel hx hb
                  have ht3 := htl1.out m hgo hm
                  have ht4 := htl1.out (m - 1) (by omega) (by omega)
                  rw [show ((m - 1 : Nat) : Int) = (m : Int) - 1 by omega] at ht4
                  obtain ⟨tm, htm⟩ : ∃ tm, tailL n (m : Int) = tm := ⟨_, rfl⟩
                  rw [htm] at ht3 hbest
                  clear htm
                  generalize tailL n ((m : Int) - 1) = tm2 at *
                  go_wp2_with fail
                  refine (ht4 _).mono ?_
                  rintro e w4 ⟨rfl, hb4⟩
                  have hbel4 := bel_call hbel3 hb4
                  clear hb4 hbel3
                  go_wp2_with fail
                  refine (ht3 _).mono ?_
                  rintro e w5 ⟨rfl, hb5⟩
                  have hbel5 := bel_call hbel4 hb5
                  go_wp2
                  go_ret
                  rw [hbest.out]
                  exact ⟨rfl, hbel5⟩
              · have hst2 := Lib.hid (hst.out hno)
                have hn1 := Lib.hid (fun h1 => hno (hiff.out.1 (.inl h1)))
                have hn2 := Lib.hid (fun h1 => hno (hiff.out.1 (.inr h1)))
                clear hiff hst hjn hno
                rcases hsg with rfl | rfl | rfl
                · by_cases h2m : 2 ≤ m
                  · have hqb : (nm == tailL n ((m : Int) - 1)) = false := by rw [beq_eq_false_iff_ne]; exact fun e => hn2.out ⟨rfl, h2m, e⟩
                    have h2i : (2 : Int) ≤ m := by omega
                    clear hn1 hn2
                    go_wp2_with fail
                    refine (refSplit09_any tk _ hrl).mono ?_
                    rintro e w3 ⟨rfl, hb3⟩
                    rw [hSH.out]
                    have hbel3 := bel_call hbel hb3
                    clear hb3 hbel hx hb
                    have ht4 := htl1.out (m - 1) (by omega) (by omega)
                    rw [show ((m - 1 : Nat) : Int) = (m : Int) - 1 by omega] at ht4
                    generalize tailL n ((m : Int) - 1) = tm2 at *
                    go_wp2_with fail
                    refine (ht4 _).mono ?_
                    rintro e w4 ⟨rfl, hb4⟩
                    have hbel4 := bel_call hbel3 hb4
                    clear hb4 hbel3
                    go_wp2
                    go_roundw
                    case rel => first | exact ⟨k + 1, by go_num, by omega, hbel4, hst2⟩ | exact ⟨k + 1, by omega, by omega, hst2⟩ | ((repeat apply Exists.intro); exact ⟨⟨k + 1, by go_num, by omega, hbel4, hst2⟩, rfl⟩)
                    case measure => simp [intOf]; omega
                  · have h2i : (m : Int) < 2 := by omega
                    clear hn1 hn2
                    go_wp2_with fail
                    refine (refSplit09_any tk _ hrl).mono ?_
                    rintro e w3 ⟨rfl, hb3⟩
                    rw [hSH.out]
                    have hbel3 := bel_call hbel hb3
                    clear hb3 hbel hx hb
                    go_wp2
                    go_roundw
                    case rel => first | exact ⟨k + 1, by go_num, by omega, hbel3, hst2⟩ | exact ⟨k + 1, by omega, by omega, hst2⟩ | ((repeat apply Exists.intro); exact ⟨⟨k + 1, by go_num, by omega, hbel3, hst2⟩, rfl⟩)
                    case measure => simp [intOf]; omega
                · clear hn1 hn2
                  go_wp2_with fail
                  refine (refSplit09_any tk _ hrl).mono ?_
                  rintro e w3 ⟨rfl, hb3⟩
                  rw [hSH.out]
                  have hbel3 := bel_call hbel hb3
                  clear hb3 hbel hx hb
                  go_wp2
                  go_roundw
                  case rel => first | exact ⟨k + 1, by go_num, by omega, hbel3, hst2⟩ | exact ⟨k + 1, by omega, by omega, hst2⟩ | ((repeat apply Exists.intro); exact ⟨⟨k + 1, by go_num, by omega, hbel3, hst2⟩, rfl⟩)
                  case measure => simp [intOf]; omega
                · have hqb : (nm == tailL n m) = false := by rw [beq_eq_false_iff_ne]; exact fun e => hn1.out ⟨rfl, e⟩
                  clear hn1 hn2
                  go_wp2_with fail
                  refine (refSplit09_any tk _ hrl).mono ?_
                  rintro e w3 ⟨rfl, hb3⟩
                  rw [hSH.out]
                  have hbel3 := bel_call hbel hb3
                  clear hb3 hbel hx hb
                  have ht4 := htl1.out m hgo hm
                  generalize tailL n m = tm2 at *
                  go_wp2_with fail
                  refine (ht4 _).mono ?_
                  rintro e w4 ⟨rfl, hb4⟩
                  have hbel4 := bel_call hbel3 hb4
                  clear hb4 hbel3
                  go_wp2
                  go_roundw
                  case rel => first | exact ⟨k + 1, by go_num, by omega, hbel4, hst2⟩ | exact ⟨k + 1, by omega, by omega, hst2⟩ | ((repeat apply Exists.intro); exact ⟨⟨k + 1, by go_num, by omega, hbel4, hst2⟩, rfl⟩)
                  case measure => simp [intOf]; omega
            · obtain rfl : k = rs.length := by omega
              have hin2 := Lib.hid (le_step hgo hin.out hjn.out)
              clear hin hjn
              go_wp2
              go_roundw
              case rel => exact ⟨m - 1, by rw [show (m : Int) - 1 = ((m - 1 : Nat) : Int) by omega], by omega, hbel, hin2⟩
              case measure => simp [intOf]; omega
        · obtain rfl : m = 0 := by omega
          have hbest := Lib.hid (best_one hE.out hin.out)
          clear hin
          go_wp2_with fail
          refine (htl1.out 1 (by omega) (by omega) _).mono ?_
          rintro e w5 ⟨rfl, hb5⟩
          have hbel5 := bel_call hbel hb5
          go_wp2
          go_ret
          rw [hbest.out]
          exact ⟨rfl, hbel5⟩
end Go.Proofs.Ytbijphfendaddaa
