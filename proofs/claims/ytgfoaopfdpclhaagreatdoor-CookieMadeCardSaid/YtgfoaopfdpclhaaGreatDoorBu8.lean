/-
  Joined texts: Date15 Date16 Date17 Date18.
-/
import Derived.Test.YtgfoaopfdpclhaaGreatDoorBu7
namespace Go.Proofs.YtgfoaopfdpclhaaGreatDoor
open Go.RowKit
set_option linter.unusedVariables false
set_option maxRecDepth 100000

theorem i64_wf {n : Int} (h : (Lit.int .i64 n).wf = true) : -9223372036854775808 ≤ n ∧ n ≤ 9223372036854775807 := by
  simp [Lit.wf, IntKind.min, IntKind.max, IntKind.signed, IntKind.bits] at h
  exact ⟨by omega, by omega⟩

set_option maxRecDepth 4000 in
set_option maxHeartbeats 2000000 in
theorem refLong_any (y m : Int) (w : World) (h1 : 1 ≤ m) (h2 : m ≤ 12) :
    Calls Tryz.prog 122 #[.int .i64 y, .int .i64 m] w fun e w' => e = .returned (.int .i64 (longI y m)) ∧ Below w.heap.size w w' := by
  by_cases hm2 : m = 2
  · subst hm2
    cases hl : leapB y
    · have hL := Lib.hid hl
      have hfin := Lib.hid (show longI y 2 = 28 by unfold longI; rw [if_pos rfl, hl]; rfl)
      clear hl
      go_enter Tryz.func122, Tryz.ntmps122
      go_wp2_with fail
      refine (refLeap_any _ _).mono ?_
      rintro e w' ⟨rfl, rfl⟩
      rw [hL.out]
      go_wp2
      go_ret
      exact ⟨ret_int (by rw [hfin.out]), (Below.refl _ _).alloc (Nat.le_refl _) _⟩
    · have hL := Lib.hid hl
      have hfin := Lib.hid (show longI y 2 = 29 by unfold longI; rw [if_pos rfl, hl]; rfl)
      clear hl
      go_enter Tryz.func122, Tryz.ntmps122
      go_wp2_with fail
      refine (refLeap_any _ _).mono ?_
      rintro e w' ⟨rfl, rfl⟩
      rw [hL.out]
      go_wp2
      go_ret
      exact ⟨ret_int (by rw [hfin.out]), Below.refl _ _⟩
  · have hm2i : (m == 2) = false := beq_eq_false_iff_ne.2 hm2
    have hcs : m = 1 ∨ m = 3 ∨ m = 4 ∨ m = 5 ∨ m = 6 ∨ m = 7 ∨ m = 8 ∨ m = 9 ∨ m = 10 ∨ m = 11 ∨ m = 12 := by omega
    clear hm2 h1 h2
    rcases hcs with rfl | rfl | rfl | rfl | rfl | rfl | rfl | rfl | rfl | rfl | rfl
    all_goals
      clear hm2i
      go_enter Tryz.func122, Tryz.ntmps122
      go_wp2
      go_ret
      exact ⟨ret_int rfl, (Below.refl _ _).alloc (Nat.le_refl _) _⟩

set_option maxRecDepth 4000 in
set_option maxHeartbeats 2000000 in
theorem refRight7_any (y m d : Int) (w : World) :
    Calls Tryz.prog 95 #[.int .i64 y, .int .i64 m, .int .i64 d] w fun e w' => e = .returned (.bool (rightB y m d)) ∧ Below w.heap.size w w' := by
  by_cases hok : 1601 ≤ y ∧ y ≤ 9999 ∧ 1 ≤ m ∧ m ≤ 12 ∧ 1 ≤ d
  · obtain ⟨h1, h2, h3, h4, h5⟩ := hok
    have hr := Lib.hid (show rightB y m d = decide (d ≤ longI y m) by unfold rightB; simp [h1, h2, h3, h4, h5])
    go_enter Tryz.func95, Tryz.ntmps95
    go_wp2_with fail
    refine (refLong_any y m _ h3 h4).mono ?_
    rintro e w1 ⟨rfl, hb⟩
    generalize longI y m = L at *
    go_wp2
    go_ret
    exact ⟨ret_bool (by rw [hr.out]), hb⟩
  · have hr := Lib.hid (show rightB y m d = false by
      cases hh : rightB y m d
      · rfl
      · have := rightB_iff.1 hh; exact absurd ⟨this.1.1, this.1.2, this.2.1.1, this.2.1.2, this.2.2.1⟩ hok)
    have hcs : y < 1601 ∨ (1601 ≤ y ∧ 9999 < y) ∨ (1601 ≤ y ∧ y ≤ 9999 ∧ m < 1) ∨ (1601 ≤ y ∧ y ≤ 9999 ∧ 1 ≤ m ∧ 12 < m) ∨ (1601 ≤ y ∧ y ≤ 9999 ∧ 1 ≤ m ∧ m ≤ 12 ∧ d < 1) := by omega
    clear hok
    rcases hcs with h1 | ⟨h1, h2⟩ | ⟨h1, h2, h3⟩ | ⟨h1, h2, h3, h4⟩ | ⟨h1, h2, h3, h4, h5⟩
    all_goals
      go_enter Tryz.func95, Tryz.ntmps95
      go_wp2
      go_ret
      exact ⟨ret_bool (by rw [hr.out]), Below.refl _ _⟩

def aheadI (y : Int) : Int := (y - 1) * 365 + (y - 1) / 4 - (y - 1) / 100 + (y - 1) / 400
set_option maxHeartbeats 1000000 in
theorem ahead_any (y : Int) (w : World) (h1 : 1 ≤ y) (h2 : y ≤ 10000) :
    Calls Tryz.prog 123 #[.int .i64 y] w fun e w' => e = .returned (.int .i64 (aheadI y)) ∧ w = w' := by
  have e1 : IntKind.i64.wrap ((y - 1).tdiv 4) = (y - 1) / 4 := by rw [Int.tdiv_eq_ediv_of_nonneg (by omega)]; exact IntWalk.i64_in _ (by omega)
  have e2 : IntKind.i64.wrap ((y - 1).tdiv 100) = (y - 1) / 100 := by rw [Int.tdiv_eq_ediv_of_nonneg (by omega)]; exact IntWalk.i64_in _ (by omega)
  have e3 : IntKind.i64.wrap ((y - 1).tdiv 400) = (y - 1) / 400 := by rw [Int.tdiv_eq_ediv_of_nonneg (by omega)]; exact IntWalk.i64_in _ (by omega)
  go_enter Tryz.func123, Tryz.ntmps123
  go_wp2
  go_ret
  exact ⟨ret_int rfl, rfl⟩

/-- How many days the months of a year ahead of a month have. -/
def sumL (y : Int) : Nat → Int
  | 0 => 0
  | k + 1 => sumL y k + longI y (k + 1)
theorem sumL_bd (y : Int) (k : Nat) : 0 ≤ sumL y k ∧ sumL y k ≤ 31 * k := by
  induction k with
  | zero => simp [sumL]
  | succ k ih =>
    have := longI_bd y (k + 1)
    unfold sumL
    omega
theorem ahead_bd {y : Int} (h1 : 1601 ≤ y) (h2 : y ≤ 9999) : 0 ≤ aheadI y ∧ aheadI y ≤ 10000000 := by unfold aheadI; omega
/-- The document's number of a day. -/
def refDaysI (y m d : Int) : Int := aheadI y - aheadI 1970 + sumL y (m - 1).toNat + d - 1

set_option maxRecDepth 4000 in
set_option maxHeartbeats 2000000 in
theorem refDays_any (y m d : Int) (w : World) (hr : rightB y m d = true) :
    Calls Tryz.prog 96 #[.int .i64 y, .int .i64 m, .int .i64 d] w fun e w' => e = .returned (.int .i64 (refDaysI y m d)) ∧ Below w.heap.size w w' := by
  obtain ⟨⟨hy1, hy2⟩, ⟨hm1, hm2⟩, hd1, hd2⟩ := rightB_iff.1 hr
  have hlb := longI_bd y m
  have hd3 : d ≤ 31 := by omega
  have hab := ahead_bd hy1 hy2
  have h70 := Lib.hid (show aheadI 1970 = 719162 from rfl)
  have hfin := Lib.hid (show refDaysI y m d = aheadI y - 719162 + sumL y (m - 1).toNat + d - 1 from rfl)
  clear hr hlb hd2
  go_enter Tryz.func96, Tryz.ntmps96
  go_wp2_with fail
  refine (ahead_any y _ (by omega) (by omega)).mono ?_
  rintro e w' ⟨rfl, rfl⟩
  go_wp2_with fail
  refine (ahead_any 1970 _ (by omega) (by omega)).mono ?_
  rintro e w' ⟨rfl, rfl⟩
  rw [h70.out]
  generalize aheadI y = Y at *
  go_wp2
  go_loopw [7, 8] (fun n i wr => ∃ k : Nat, n = .int .i64 (Y - 719162 + sumL y k) ∧ i = .int .i64 ((k : Int) + 1) ∧ (k : Int) + 1 ≤ m ∧ Below w.heap.size w wr) (fun _ i _ => 13 - (intOf i).toNat)
  case atStart => exact ⟨0, by simp [sumL], rfl, by omega, Below.refl _ _⟩
  case round =>
    obtain ⟨k, rfl, rfl, hkm, hbel⟩ := hrel
    have hsb := sumL_bd y k
    by_cases hlt : (k : Int) + 1 < m
    · have hst := Lib.hid (show sumL y (k + 1) = sumL y k + longI y (k + 1) from rfl)
      go_wp2_with fail
      refine (refLong_any y ((k : Int) + 1) _ (by omega) (by omega)).mono ?_
      rintro e w1 ⟨rfl, hb⟩
      have hbel1 := bel_call hbel hb
      have hlb := longI_bd y ((k : Int) + 1)
      generalize longI y ((k : Int) + 1) = L at *
      generalize hsum : sumL y k = s0 at *
      clear hsum
      go_wp2
      go_roundw
      case rel => exact ⟨k + 1, by rw [hst.out]; congr 1; omega, by go_num, by omega, hbel1⟩
      case measure => simp [intOf]; omega
    · have hk : (m - 1).toNat = k := by omega
      rw [hk] at hfin
      generalize sumL y k = s0 at *
      have hni : ¬ (k : Int) + 1 < m := hlt
      go_wp2
      go_ret
      exact ⟨ret_int (by rw [hfin.out]), hbel⟩
end Go.Proofs.YtgfoaopfdpclhaaGreatDoor
namespace Go.Proofs.YtgfoaopfdpclhaaGreatDoor
open Go.RowKit
set_option linter.unusedVariables false
set_option maxRecDepth 100000

theorem era_lin (Y : Int) : Y / 400 * 146097 + (Y % 400 * 365 + Y % 400 / 4 - Y % 400 / 100) = Y * 365 + Y / 4 - Y / 100 + Y / 400 := by omega
theorem leap_no {y : Int} (hy : 0 ≤ y) (h : leapB y = false) : ¬ (y % 4 = 0 ∧ (¬ y % 100 = 0 ∨ y % 400 = 0)) := fun hh => by rw [(leap_iff hy).2 hh] at h; cases h
theorem refDays_eq {y m d : Int} (h : rightB y m d = true) : refDaysI y m d = daysI y m d := by
  obtain ⟨⟨hy1, hy2⟩, ⟨hm1, hm2⟩, hd1, hd2⟩ := rightB_iff.1 h
  have e1 := era_lin (y - 1)
  have e2 := era_lin y
  have e70 : aheadI 1970 = 719162 := rfl
  have hs : ∀ k : Nat, sumL y (k + 1) = sumL y k + longI y (k + 1) := fun _ => rfl
  have h0 : sumL y 0 = 0 := rfl
  have l1 : longI y 1 = 31 := rfl
  have l3 : longI y 3 = 31 := rfl
  have l4 : longI y 4 = 30 := rfl
  have l5 : longI y 5 = 31 := rfl
  have l6 : longI y 6 = 30 := rfl
  have l7 : longI y 7 = 31 := rfl
  have l8 : longI y 8 = 31 := rfl
  have l9 : longI y 9 = 30 := rfl
  have l10 : longI y 10 = 31 := rfl
  have l11 : longI y 11 = 30 := rfl
  have s1 : sumL y 1 = 31 := by rw [hs 0, h0]; exact congrArg (0 + ·) l1
  have s2 : sumL y 2 = 31 + longI y 2 := by rw [hs 1, s1]; rfl
  have s3 : sumL y 3 = 62 + longI y 2 := by rw [hs 2, s2, show longI y ((2 : Nat) + 1) = 31 from l3]; omega
  have s4 : sumL y 4 = 92 + longI y 2 := by rw [hs 3, s3, show longI y ((3 : Nat) + 1) = 30 from l4]; omega
  have s5 : sumL y 5 = 123 + longI y 2 := by rw [hs 4, s4, show longI y ((4 : Nat) + 1) = 31 from l5]; omega
  have s6 : sumL y 6 = 153 + longI y 2 := by rw [hs 5, s5, show longI y ((5 : Nat) + 1) = 30 from l6]; omega
  have s7 : sumL y 7 = 184 + longI y 2 := by rw [hs 6, s6, show longI y ((6 : Nat) + 1) = 31 from l7]; omega
  have s8 : sumL y 8 = 215 + longI y 2 := by rw [hs 7, s7, show longI y ((7 : Nat) + 1) = 31 from l8]; omega
  have s9 : sumL y 9 = 245 + longI y 2 := by rw [hs 8, s8, show longI y ((8 : Nat) + 1) = 30 from l9]; omega
  have s10 : sumL y 10 = 276 + longI y 2 := by rw [hs 9, s9, show longI y ((9 : Nat) + 1) = 31 from l10]; omega
  have s11 : sumL y 11 = 306 + longI y 2 := by rw [hs 10, s10, show longI y ((10 : Nat) + 1) = 30 from l11]; omega
  have hl2 : (longI y 2 = 29 ∧ (y % 4 = 0 ∧ (¬ y % 100 = 0 ∨ y % 400 = 0))) ∨ (longI y 2 = 28 ∧ ¬ (y % 4 = 0 ∧ (¬ y % 100 = 0 ∨ y % 400 = 0))) := by
    rcases long_cases (y := y) (m := 2) (by omega) with ⟨_, b, g⟩ | ⟨_, b, g⟩ | ⟨a, g⟩ | ⟨a, g⟩
    · exact .inl ⟨g, (leap_iff (by omega)).1 b⟩
    · exact .inr ⟨g, leap_no (by omega) b⟩
    · omega
    · omega
  have hA : y * 365 + y / 4 - y / 100 + y / 400 = aheadI y + 337 + longI y 2 := by
    unfold aheadI
    rcases hl2 with ⟨g, hl⟩ | ⟨g, hl⟩ <;> (rw [g]; omega)
  have hB : aheadI y = (y - 1) * 365 + (y - 1) / 4 - (y - 1) / 100 + (y - 1) / 400 := rfl
  clear hs h0 l1 l3 l4 l5 l6 l7 l8 l9 l10 l11 hl2
  have hmc : m = 1 ∨ m = 2 ∨ m = 3 ∨ m = 4 ∨ m = 5 ∨ m = 6 ∨ m = 7 ∨ m = 8 ∨ m = 9 ∨ m = 10 ∨ m = 11 ∨ m = 12 := by omega
  unfold refDaysI
  rw [e70]
  have hlo : m < 3 → daysI y m d = (y - 1) * 365 + (y - 1) / 4 - (y - 1) / 100 + (y - 1) / 400 + ((153 * (m + 9) + 2) / 5 + d - 1) - 719468 := fun h3 => by
    unfold daysI
    simp only [h3, if_true]
    rw [show m - 3 + 12 = m + 9 by omega, ← e1]
    omega
  have hhi : ¬ m < 3 → daysI y m d = y * 365 + y / 4 - y / 100 + y / 400 + ((153 * (m - 3) + 2) / 5 + d - 1) - 719468 := fun h3 => by
    unfold daysI
    simp only [h3, if_false]
    rw [← e2]
    omega
  rw [← hB] at hlo
  rw [hA] at hhi
  clear e1 e2 hA hB
  generalize aheadI y = A at *
  generalize longI y 2 = L at *
  rcases hmc with rfl | rfl | rfl | rfl | rfl | rfl | rfl | rfl | rfl | rfl | rfl | rfl
  · rw [hlo (by omega), show ((1 : Int) - 1).toNat = 0 from rfl, show sumL y 0 = 0 from rfl]; omega
  · rw [hlo (by omega), show ((2 : Int) - 1).toNat = 1 from rfl, s1]; omega
  · rw [hhi (by omega), show ((3 : Int) - 1).toNat = 2 from rfl, s2]; omega
  · rw [hhi (by omega), show ((4 : Int) - 1).toNat = 3 from rfl, s3]; omega
  · rw [hhi (by omega), show ((5 : Int) - 1).toNat = 4 from rfl, s4]; omega
  · rw [hhi (by omega), show ((6 : Int) - 1).toNat = 5 from rfl, s5]; omega
  · rw [hhi (by omega), show ((7 : Int) - 1).toNat = 6 from rfl, s6]; omega
  · rw [hhi (by omega), show ((8 : Int) - 1).toNat = 7 from rfl, s7]; omega
  · rw [hhi (by omega), show ((9 : Int) - 1).toNat = 8 from rfl, s8]; omega
  · rw [hhi (by omega), show ((10 : Int) - 1).toNat = 9 from rfl, s9]; omega
  · rw [hhi (by omega), show ((11 : Int) - 1).toNat = 10 from rfl, s10]; omega
  · rw [hhi (by omega), show ((12 : Int) - 1).toNat = 11 from rfl, s11]; omega

theorem week_mod (n : Int) : (weekI n - 4 - n).tmod 7 = 0 ∧ 0 ≤ weekI n ∧ weekI n ≤ 6 := by
  have h1 := Int.mul_tdiv_add_tmod n 7
  have h2 : -7 < n.tmod 7 ∧ n.tmod 7 < 7 := ⟨by have := Int.lt_tmod_of_pos n (by decide : (0:Int) < 7); omega, Int.tmod_lt_of_pos n (by decide)⟩
  have h3 : (7 : Int) ∣ weekI n - 4 - n := by
    unfold weekI
    omega
  refine ⟨Int.tmod_eq_zero_of_dvd h3, ?_, ?_⟩
  · unfold weekI; omega
  · unfold weekI; omega

end Go.Proofs.YtgfoaopfdpclhaaGreatDoor
namespace Go.Proofs.YtgfoaopfdpclhaaGreatDoor
open Go.RowKit
set_option linter.unusedVariables false
set_option maxRecDepth 100000

theorem tok_more {l cur : List UInt8} {k : Nat} (hk : k < l.length) (h : delimB (l.getD k 0) = false) : tokGo cur (l.drop k) = tokGo (cur ++ [l.getD k 0]) (l.drop (k + 1)) := by
  rw [drop_getD l k hk, tokGo, if_neg (by rw [h]; decide)]
theorem tok_nil {l : List UInt8} {k : Nat} (hk : k < l.length) (h : delimB (l.getD k 0) = true) : tokGo [] (l.drop k) = tokGo [] (l.drop (k + 1)) := by
  rw [drop_getD l k hk, tokGo, if_pos h]; rfl
theorem tok_cons {l : List UInt8} {c : UInt8} {cur : List UInt8} {k : Nat} (hk : k < l.length) (h : delimB (l.getD k 0) = true) : tokGo (c :: cur) (l.drop k) = (c :: cur) :: tokGo [] (l.drop (k + 1)) := by
  rw [drop_getD l k hk, tokGo, if_pos h]; rfl
theorem extract_one (s : ByteArray) (k : Nat) (h : k < s.size) : s.extract k (k + 1) = S [s.toList.getD k 0] := by
  rw [extract_S, show k + 1 - k = 1 by omega, drop_getD _ _ (by rw [← size_toList]; exact h)]
  rfl

set_option maxHeartbeats 2000000 in
theorem refTokens_any (s : ByteArray) (w : World) (hs : s.size ≤ 4294967296) :
    Calls Tryz.prog 90 #[.string s] w fun e w' => ∃ A cp, e = .returned (.slice A (tokensL s.toList).length cp) ∧
      w'.ownsRow w.heap.size 9 1 (.slice A (tokensL s.toList).length cp) (tokensL s.toList).length ((tokensL s.toList).map strV) ∧ Below w.heap.size w w' := by
  obtain ⟨i0, hi, hz0, hz1, hz2⟩ := info_parts Tryz.info9
  have hsz := Lib.hid (size_toList s)
  have htl : (tokensL s.toList).length ≤ s.size + 1 := by unfold tokensL; rw [size_toList]; exact tokGo_len _ _
  have hst := Lib.hid (show tokensL s.toList = [] ++ tokGo [] (s.toList.drop 0) by simp [tokensL])
  go_enter Tryz.func90, Tryz.ntmps90
  go_wp2
  go_loopw [3, 4, 5] (fun v t i wr => ∃ (k : Nat) (cur : List UInt8) (acc : List (List UInt8)), i = .int .i64 k ∧ t = .string (S cur) ∧ k ≤ s.size ∧ cur.length ≤ k ∧ wr.ownsRow w.heap.size 9 1 v acc.length (acc.map strV) ∧ Below w.heap.size w wr ∧ w.heap.size ≤ wr.heap.size ∧ Hid (tokensL s.toList = acc ++ tokGo cur (s.toList.drop k))) (fun _ _ i _ => s.size + 1 - (intOf i).toNat)
  case atStart => exact ⟨0, [], [], rfl, rfl, Nat.zero_le _, Nat.le_refl _, World.ownsRow_lit w #[] 0 (Nat.le_refl _) (by unfold maxLen; omega) rfl, (Below.refl _ _).alloc (Nat.le_refl _) _, by simp, hst.out⟩
  case round =>
    obtain ⟨k, cur, acc, rfl, rfl, hk, hcl, hown, hbel, hsz', hin⟩ := hrel
    by_cases hlt : k < s.size
    · have hlti : (k : Int) < s.size := by omega
      have hle : (k : Int) ≤ s.size := by omega
      have hx := Lib.hid (get_l s k hlt)
      have hxe := Lib.hid (extract_one s k hlt)
      cases hd : delimB s[k]
      · have hD := Lib.hid hd
        have hst2 := Lib.hid (show tokensL s.toList = acc ++ tokGo (cur ++ [s.toList.getD k 0]) (s.toList.drop (k + 1)) by
          rw [hin.out, tok_more (by rw [← hsz.out]; exact hlt) (by rw [← hx.out]; exact hd)])
        clear hd hin
        go_wp2_with fail
        refine (refDelim_any _ _).mono ?_
        rintro e w' ⟨rfl, rfl⟩
        rw [hD.out]
        have hcc : (S cur).size + 1 ≤ maxLen := by rw [S_size]; unfold maxLen; omega
        go_wp2
        rw [hxe.out, S_append]
        go_roundw
        case rel => exact ⟨k + 1, cur ++ [s.toList.getD k 0], acc, by go_num, rfl, by omega, by simp; omega, hown, hbel, hsz', hst2.out⟩
        case measure => simp [intOf]; omega
      · have hD := Lib.hid hd
        cases cur with
        | nil =>
          have hst2 := Lib.hid (show tokensL s.toList = acc ++ tokGo [] (s.toList.drop (k + 1)) by
            rw [hin.out, tok_nil (by rw [← hsz.out]; exact hlt) (by rw [← hx.out]; exact hd)])
          clear hd hin
          go_wp2_with fail
          refine (refDelim_any _ _).mono ?_
          rintro e w' ⟨rfl, rfl⟩
          rw [hD.out]
          go_wp2
          go_roundw
          case rel => exact ⟨k + 1, [], acc, by go_num, rfl, by omega, by simp, hown, hbel, hsz', hst2.out⟩
          case measure => simp [intOf]; omega
        | cons c cr =>
          have hst2 := Lib.hid (show tokensL s.toList = (acc ++ [c :: cr]) ++ tokGo [] (s.toList.drop (k + 1)) by
            rw [hin.out, tok_cons (by rw [← hsz.out]; exact hlt) (by rw [← hx.out]; exact hd), List.append_assoc]; rfl)
          have hacc : acc.length + 1 ≤ s.size + 1 := by
            have h1 := congrArg List.length hst2.out
            simp at h1
            omega
          clear hd hin
          go_wp2_with fail
          refine (refDelim_any _ _).mono ?_
          rintro e w' ⟨rfl, rfl⟩
          rw [hD.out]
          go_wp2_with (first
            | (at_builtin; refine wpList_push rfl _ _ 22 rfl w.heap.size 9 i0 (.string ByteArray.empty) 1 16 Tryz.underlying22 hi hz0 hz1 hz2 rfl (by decide) _ _ _ rfl hown _ _ rfl rfl rfl ?c1 ?c2 ?c3 hsz' hbel ?_))
          case c1 => exact rfl
          case c2 => unfold maxLen; omega
          case c3 => omega
          intro v' w' hown' hg hbel' hsz2
          go_wp2
          go_roundw
          case rel =>
            refine ⟨k + 1, [], acc ++ [c :: cr], by go_num, rfl, by omega, by simp, ?_, hbel', hsz2, hst2.out⟩
            rw [List.map_append, List.length_append]
            exact hown'
          case measure => simp [intOf]; omega
    · obtain rfl : k = s.size := by omega
      have hni : decide ((s.size : Int) < s.size) = false := decide_eq_false (by omega)
      have hdr : s.toList.drop s.size = [] := by rw [hsz.out, List.drop_length]
      cases cur with
      | nil =>
        have hst2 := Lib.hid (show tokensL s.toList = acc by rw [hin.out, hdr]; simp [tokGo])
        clear hin hdr
        go_wp2
        go_ret
        rw [hst2.out]
        obtain ⟨A, cp, rfl⟩ := own_form hown
        exact ⟨A, cp, rfl, hown, hbel⟩
      | cons c cr =>
        have hst2 := Lib.hid (show tokensL s.toList = acc ++ [c :: cr] by rw [hin.out, hdr]; simp [tokGo])
        have hacc : acc.length + 1 ≤ s.size + 1 := by
          have h1 := congrArg List.length hst2.out
          simp at h1
          omega
        clear hin hdr
        go_wp2_with (first
          | (at_builtin; refine wpList_push rfl _ _ 22 rfl w.heap.size 9 i0 (.string ByteArray.empty) 1 16 Tryz.underlying22 hi hz0 hz1 hz2 rfl (by decide) _ _ _ rfl hown _ _ rfl rfl rfl ?c1 ?c2 ?c3 hsz' hbel ?_))
        case c1 => exact rfl
        case c2 => unfold maxLen; omega
        case c3 => omega
        intro v' w' hown' hg hbel' hsz2
        go_wp2
        go_ret
        rw [hst2.out]
        obtain ⟨A, cp, rfl⟩ := own_form hown'
        refine ⟨A, cp, by simp, ?_, hbel'⟩
        rw [List.map_append, List.length_append]
        exact hown'

def digitsB (l : List UInt8) (a b : Int) : Bool := decide (a ≤ (digN l : Int)) && decide ((digN l : Int) ≤ b)
theorem digits_field (l : List UInt8) (a b : Int) : (fieldT l a b).2.2 = digitsB l a b := by
  unfold fieldT digitsB
  by_cases h : (digN l : Int) < a ∨ b < (digN l : Int)
  · rw [if_pos h]
    rcases h with h | h
    · rw [decide_eq_false (by omega)]; rfl
    · rw [decide_eq_false (by omega : ¬ (digN l : Int) ≤ b)]; simp
  · rw [if_neg h, decide_eq_true (by omega), decide_eq_true (by omega)]; rfl

set_option maxHeartbeats 1000000 in
theorem refDigits7_any (s : ByteArray) (a b : Int) (w : World) (hs : s.size ≤ maxLen) :
    Calls Tryz.prog 92 #[.string s, .int .i64 a, .int .i64 b] w fun e w' => e = .returned (.bool (digitsB s.toList a b)) ∧ w = w' := by
  have hsz := Lib.hid (size_toList s)
  have hdl := digN_le s.toList
  rw [← size_toList] at hdl
  have hr := Lib.hid (show digitsB s.toList a b = (decide (a ≤ (digN s.toList : Int)) && decide ((digN s.toList : Int) ≤ b)) from rfl)
  go_enter Tryz.func92, Tryz.ntmps92
  go_wp2_with fail
  refine (refDigits_any _ _ hs).mono ?_
  rintro e w' ⟨rfl, rfl⟩
  generalize digN s.toList = k at *
  go_wp2
  all_goals
    go_ret
    exact ⟨ret_bool (by rw [hr.out]; first | (simp [*]; done) | (simp [*]; omega)), rfl⟩
def valueI (l : List UInt8) : Int := numV (l.take (digN l))
set_option maxHeartbeats 1000000 in
theorem value_any (s : ByteArray) (w : World) (hs : s.size ≤ maxLen) :
    Calls Tryz.prog 93 #[.string s] w fun e w' => e = .returned (.int .i64 (valueI s.toList)) ∧ w = w' := by
  have hdl := digN_le s.toList
  rw [← size_toList] at hdl
  have hx := Lib.hid (extract_to s (digN s.toList))
  have hr := Lib.hid (show valueI s.toList = numV (s.toList.take (digN s.toList)) from rfl)
  have hz : (S (s.toList.take (digN s.toList))).size ≤ maxLen := by rw [S_size, List.length_take, ← size_toList]; omega
  go_enter Tryz.func93, Tryz.ntmps93
  go_wp2_with fail
  refine (refDigits_any _ _ hs).mono ?_
  rintro e w' ⟨rfl, rfl⟩
  generalize digN s.toList = k at *
  have hki : (k : Int) ≤ s.size := by omega
  go_wp2_with fail
  rw [hx.out]
  refine (refNumber_any _ _ hz).mono ?_
  rintro e w' ⟨rfl, rfl⟩
  rw [S_toList]
  go_wp2
  go_ret
  exact ⟨ret_int hr.out.symm, rfl⟩
end Go.Proofs.YtgfoaopfdpclhaaGreatDoor
namespace Go.Proofs.YtgfoaopfdpclhaaGreatDoor
open Go.RowKit
set_option linter.unusedVariables false
set_option maxRecDepth 100000

theorem mon_low (k : Nat) (h : k < 12) : lowerL (monN.getD k []) = monN.getD k [] := by
  match k, h with
  | 0, _ | 1, _ | 2, _ | 3, _ | 4, _ | 5, _ | 6, _ | 7, _ | 8, _ | 9, _ | 10, _ | 11, _ => rfl
  | n + 12, h => omega
def monB : List UInt8 := [106, 97, 110, 102, 101, 98, 109, 97, 114, 97, 112, 114, 109, 97, 121, 106, 117, 110, 106, 117, 108, 97, 117, 103, 115, 101, 112, 111, 99, 116, 110, 111, 118, 100, 101, 99]
theorem mon_cut (k : Nat) (h : k < 12) : (ByteArray.mk #[106, 97, 110, 102, 101, 98, 109, 97, 114, 97, 112, 114, 109, 97, 121, 106, 117, 110, 106, 117, 108, 97, 117, 103, 115, 101, 112, 111, 99, 116, 110, 111, 118, 100, 101, 99]).extract (3 * k) (3 * k + 3) = S (monN.getD k []) := by
  have e : (ByteArray.mk #[106, 97, 110, 102, 101, 98, 109, 97, 114, 97, 112, 114, 109, 97, 121, 106, 117, 110, 106, 117, 108, 97, 117, 103, 115, 101, 112, 111, 99, 116, 110, 111, 118, 100, 101, 99]) = S monB := rfl
  rw [e, extract_S, S_toList]
  match k, h with
  | 0, _ | 1, _ | 2, _ | 3, _ | 4, _ | 5, _ | 6, _ | 7, _ | 8, _ | 9, _ | 10, _ | 11, _ => rfl
  | n + 12, h => omega

set_option maxRecDepth 4000 in
set_option maxHeartbeats 4000000 in
theorem refMonth_any (s : ByteArray) (w : World) (hs : s.size ≤ 4294967296) :
    Calls Tryz.prog 94 #[.string s] w fun e w' => e = .returned (.int .i64 (monthI s.toList)) ∧ Below w.heap.size w w' := by
  by_cases hl : s.size < 3
  · have hz := Lib.hid (show monthI s.toList = 0 by unfold monthI; rw [if_pos (by rw [← size_toList]; exact hl)])
    go_enter Tryz.func94, Tryz.ntmps94
    go_wp2
    rw [hz.out]
    go_ret
    exact ⟨rfl, Below.refl _ _⟩
  · have hz := Lib.hid (show monthI s.toList = monAt (s.toList.take 3) 0 monN by unfold monthI; rw [if_neg (by rw [← size_toList]; exact hl)])
    have hx := Lib.hid (extract_to s 3)
    have hx2 : (S (s.toList.take 3)).size ≤ 4294967296 := by rw [S_size]; simp; omega
    have h3 : (3 : Int) ≤ s.size := by omega
    have hn3 : decide ((s.size : Int) < 3) = false := decide_eq_false (by omega)
    go_enter Tryz.func94, Tryz.ntmps94
    go_wp2_with fail
    rw [hx.out]
    refine (refLower_any _ _ hx2).mono ?_
    rintro e w1 ⟨rfl, hb1⟩
    rw [S_toList]
    go_wp2
    go_loopw [5] (fun i wr => ∃ k : Nat, i = .int .i64 ((k : Int) + 1) ∧ k ≤ 12 ∧ Below w.heap.size w wr ∧ Hid (monthI s.toList = monAt (s.toList.take 3) k (monN.drop k))) (fun i _ => 13 - (intOf i).toNat)
    case atStart => exact ⟨0, rfl, by omega, hb1, hz.out⟩
    case round =>
      obtain ⟨k, rfl, hk, hbel, hin⟩ := hrel
      by_cases hk2 : k < 12
      · have hk3 : (k : Int) + 1 ≤ 12 := by omega
        have hcut := Lib.hid (mon_cut k hk2)
        have hst := Lib.hid (hin.out.trans (mon_step _ k hk2))
        have hlow := Lib.hid (mon_low k hk2)
        clear hin hz
        generalize monN.getD k [] = nm at *
        have b1 : (3 * ((k : Int) + 1) - 3).toNat = 3 * k := by omega
        have b2 : (3 * ((k : Int) + 1)).toNat = 3 * k + 3 := by omega
        go_wp2
        · rename_i hq
          replace hq : ((S nm).toList == lowerL (s.toList.take 3)) = true := by rw [← hcut.out]; exact hq
          rw [S_toList] at hq
          have hr := Lib.hid (hst.out.trans (if_pos (by rw [hlow.out]; rw [beq_iff_eq] at hq ⊢; exact hq.symm)))
          clear hst hq
          go_ret
          exact ⟨ret_int hr.out.symm, hbel⟩
        · rename_i hq
          replace hq : ((S nm).toList == lowerL (s.toList.take 3)) = false := by rw [← hcut.out]; exact hq
          rw [S_toList] at hq
          have hr := Lib.hid (hst.out.trans (if_neg (by rw [hlow.out]; rw [beq_eq_false_iff_ne] at hq; rw [beq_iff_eq]; exact fun e => hq e.symm)))
          clear hst hq
          exact ⟨⟨k + 1, by go_num, by omega, hbel, hr.out⟩, by simp [intOf]; omega⟩
      · have hk3 : k = 12 := by omega
        subst hk3
        have hr := Lib.hid (show monthI s.toList = 0 from hin.out.trans rfl)
        clear hin hz
        go_wp2
        rw [hr.out]
        go_ret
        exact ⟨rfl, hbel⟩
end Go.Proofs.YtgfoaopfdpclhaaGreatDoor
