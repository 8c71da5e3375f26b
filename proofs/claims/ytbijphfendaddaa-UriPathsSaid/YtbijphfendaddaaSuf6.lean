/-
  Public suffixes by rules turned round.
-/
import Derived.Test.YtbijphfendaddaaSuf5
namespace Go.Proofs.Ytbijphfendaddaa
open Go.RowKit
set_option linter.unusedVariables false

def publicB (rs : List (List UInt8)) (n : List UInt8) : Bool := decide ((ofT rs n).2 = 0) && (ofT rs n).1 == n
set_option maxHeartbeats 1000000 in
theorem public_any (A : Option Addr) (n0 c : Nat) (rs : List (List UInt8)) (n : List UInt8) (w : World) (h : Rd w 1 (.slice A n0 c) n0 (rs.map strV)) (hrs : ∀ r ∈ rs, r.length ≤ 4294967296) (hn : n.length ≤ 4294967296) :
    Calls Try.prog 13 #[.slice A n0 c, .string (S n)] w fun e w' => e = .returned (.bool (publicB rs n)) ∧ Below w.heap.size w w' := by
  obtain ⟨s, e0, hs⟩ : ∃ s e0, ofT rs n = (s, e0) := ⟨_, _, rfl⟩
  have hsH := Lib.hid hs
  have hr := Lib.hid (show publicB rs n = (decide (e0 = 0) && s == n) by unfold publicB; rw [hs])
  clear hs
  cases hq : (s == n)
  all_goals
    by_cases he : e0 = 0
    all_goals
      go_enter Try.func13, Try.ntmps13
      go_wp2_with fail
      refine (of_any A n0 c rs n _ h hrs hn).mono ?_
      rintro e w1 ⟨rfl, hb1⟩
      rw [hsH.out]
      go_wp2
      go_ret
      exact ⟨ret_bool (by rw [hr.out, hq]; simp [he]), hb1⟩

def awR : List (List UInt8) := [[116, 101, 115, 116], [99, 111, 46, 116, 101, 115, 116], [42, 46, 99, 105, 116, 121], [33, 111, 119, 110, 46, 99, 105, 116, 121]]
theorem aw_1 : ofT awR [97, 46, 98, 46, 99, 111, 46, 116, 101, 115, 116] = ([99, 111, 46, 116, 101, 115, 116], 0) := by decide +kernel
theorem aw_2 : ofT awR [97, 46, 98, 46, 99, 105, 116, 121] = ([98, 46, 99, 105, 116, 121], 0) := by decide +kernel
theorem aw_3 : ofT awR [120, 46, 111, 119, 110, 46, 99, 105, 116, 121] = ([99, 105, 116, 121], 0) := by decide +kernel
theorem aw_4 : publicB awR [116, 101, 115, 116] = true := by decide +kernel

set_option maxRecDepth 4000 in
set_option maxHeartbeats 4000000 in
theorem awake09_any (w : World) :
    Calls Try.prog 10 #[] w fun e w' => e = .returned (.bool true) ∧ Below w.heap.size w w' := by
  have h1 := Lib.hid aw_1
  have h2 := Lib.hid aw_2
  have h3 := Lib.hid aw_3
  have h4 := Lib.hid aw_4
  have hrs : ∀ r ∈ awR, r.length ≤ 4294967296 := by decide
  have hown := World.ownsRow_lit (base := w.heap.size) (e := 9) (size := 1) w #[.string (S [116, 101, 115, 116]), .string (S [99, 111, 46, 116, 101, 115, 116]), .string (S [42, 46, 99, 105, 116, 121]), .string (S [33, 111, 119, 110, 46, 99, 105, 116, 121])] 4 (Nat.le_refl _) (by unfold maxLen; omega) rfl
  have hrd := Rd.of_own hown
  have hb0 := bel_alloc (Below.refl w.heap.size w) (.cells #[.string (S [116, 101, 115, 116]), .string (S [99, 111, 46, 116, 101, 115, 116]), .string (S [42, 46, 99, 105, 116, 121]), .string (S [33, 111, 119, 110, 46, 99, 105, 116, 121])] 9)
  replace hrd : Rd (w.alloc (.cells #[.string (S [116, 101, 115, 116]), .string (S [99, 111, 46, 116, 101, 115, 116]), .string (S [42, 46, 99, 105, 116, 121]), .string (S [33, 111, 119, 110, 46, 99, 105, 116, 121])] 9)) 1 (.slice (some ⟨w.heap.size, 0, none⟩) 4 4) 4 (awR.map strV) := hrd
  clear hown
  go_enter Try.func10, Try.ntmps10
  go_wp2_with fail
  refine (of_any _ 4 4 awR [97, 46, 98, 46, 99, 111, 46, 116, 101, 115, 116] _ hrd hrs (by decide)).mono ?_
  rintro e w1 ⟨rfl, hb1⟩
  rw [h1.out]
  have hr1 := hrd.below hb1
  have hbel1 := bel_call hb0 hb1
  clear hrd hb0 hb1
  go_wp2_with fail
  refine (of_any _ 4 4 awR [97, 46, 98, 46, 99, 105, 116, 121] _ hr1 hrs (by decide)).mono ?_
  rintro e w2 ⟨rfl, hb2⟩
  rw [h2.out]
  have hr2 := hr1.below hb2
  have hbel2 := bel_call hbel1 hb2
  clear hr1 hbel1 hb2
  go_wp2_with fail
  refine (of_any _ 4 4 awR [120, 46, 111, 119, 110, 46, 99, 105, 116, 121] _ hr2 hrs (by decide)).mono ?_
  rintro e w3 ⟨rfl, hb3⟩
  rw [h3.out]
  have hr3 := hr2.below hb3
  have hbel3 := bel_call hbel2 hb3
  clear hr2 hbel2 hb3
  go_wp2_with fail
  refine (public_any _ 4 4 awR [116, 101, 115, 116] _ hr3 hrs (by decide)).mono ?_
  rintro e w4 ⟨rfl, hb4⟩
  rw [h4.out]
  have hbel4 := bel_call hbel3 hb4
  go_wp2
  go_ret
  exact ⟨rfl, hbel4⟩

def lightS (rs : List (List UInt8)) : Bool := !(decide (60 < rs.length) && decide (rs.length ≤ 256) || decide (300 < rs.length)) && rs.all fun r => decide (r.length ≤ 300)
set_option maxHeartbeats 1000000 in
theorem light09_any (A : Option Addr) (n c : Nat) (rs : List (List UInt8)) (w : World) (h : Rd w 1 (.slice A n c) n (rs.map strV)) :
    Calls Try.prog 9 #[.slice A n c] w fun e w' => e = .returned (.bool (lightS rs)) ∧ Below w.heap.size w w' := by
  have hcap := h.cap
  unfold maxLen at hcap
  obtain ⟨hca, hcb⟩ := hcap
  have hlen := h.texts.1
  subst hlen
  by_cases hbig : (60 < rs.length ∧ rs.length ≤ 256) ∨ 300 < rs.length
  · have hr := Lib.hid (show lightS rs = false by
      unfold lightS
      rcases hbig with ⟨a, b⟩ | a
      · rw [decide_eq_true a, decide_eq_true b]; rfl
      · rw [decide_eq_true (show 300 < rs.length from a)]; simp)
    rcases hbig with ⟨a, b⟩ | a
    · have a' : (60 : Int) < rs.length := by omega
      have b' : (rs.length : Int) ≤ 256 := by omega
      clear a b
      go_enter Try.func9, Try.ntmps9
      go_wp2
      rw [hr.out]
      go_ret
      exact ⟨rfl, Below.refl _ _⟩
    · have a' : (300 : Int) < rs.length := by omega
      have b' : (256 : Int) < rs.length := by omega
      clear a
      go_enter Try.func9, Try.ntmps9
      go_wp2
      rw [hr.out]
      go_ret
      exact ⟨rfl, Below.refl _ _⟩
  · have hr := Lib.hid (show lightS rs = rs.all fun r => decide (r.length ≤ 300) by
      unfold lightS
      rw [decide_eq_false (show ¬ 300 < rs.length by omega)]
      by_cases a : 60 < rs.length
      · rw [decide_eq_false (show ¬ rs.length ≤ 256 by omega)]; simp
      · rw [decide_eq_false a]; simp)
    have hcs : (rs.length : Int) ≤ 60 ∨ ((60 : Int) < rs.length ∧ (256 : Int) < rs.length ∧ (rs.length : Int) ≤ 300) := by omega
    clear hbig
    rcases hcs with a1 | ⟨a1, a2, a3⟩
    all_goals
      go_enter Try.func9, Try.ntmps9
      go_wp2
      go_loopw [3] (fun i wr => ∃ k : Nat, k ≤ rs.length ∧ i = .int .i64 k ∧ Hid ((rs.take k).all (fun r => decide (r.length ≤ 300)) = true) ∧ Below w.heap.size w wr) (fun i _ => rs.length - (intOf i).toNat)
      case atStart => exact ⟨0, Nat.zero_le _, rfl, rfl, Below.refl _ _⟩
      case round =>
        obtain ⟨k, hk, rfl, hall, hbel⟩ := hrel
        by_cases hlt : k < rs.length
        · have hki : (k : Int) < rs.length := by omega
          obtain ⟨b, off, rfl, hb, hx⟩ := (h.below hbel).texts.2 k hlt
          have hstep := Lib.hid (all_take_step (p := fun r : List UInt8 => decide (r.length ≤ 300)) hlt)
          have hbad := Lib.hid (all_bad (p := fun r : List UInt8 => decide (r.length ≤ 300)) hlt)
          by_cases hq : 300 < rs[k].length
          · have hqi : (300 : Int) < rs[k].length := by omega
            have hn := Lib.hid (show lightS rs = false by rw [hr.out, hbad.out (decide_eq_false (by omega))])
            go_wp2
            rw [hn.out]
            go_ret
            exact ⟨rfl, hbel⟩
          · have hqi : (rs[k].length : Int) ≤ 300 := by omega
            have hn := Lib.hid (show (rs.take (k + 1)).all (fun r => decide (r.length ≤ 300)) = true by rw [hstep.out, hall.out, decide_eq_true (show rs[k].length ≤ 300 by omega)]; rfl)
            clear hq
            go_wp2
            go_roundw
            case rel => exact ⟨k + 1, by omega, by go_num, hn.out, hbel⟩
            case measure => simp [intOf]; omega
        · obtain rfl : k = rs.length := by omega
          have hn := Lib.hid (show lightS rs = true by rw [hr.out]; have := hall.out; rwa [List.take_length] at this)
          clear hall
          go_wp2
          rw [hn.out]
          go_ret
          exact ⟨rfl, hbel⟩
end Go.Proofs.Ytbijphfendaddaa
