/-
  Joined texts: Up Date DateCal Date2.
-/
import Derived.Test.YtgfoaopfdpclhaaGreatDoorBu2
import Derived.Deep.Cut
namespace Go.Proofs.YtgfoaopfdpclhaaGreatDoor
open Go.RowKit
set_option linter.unusedVariables false
set_option maxRecDepth 100000

theorem upL_ne (n : Nat) : upL n ≠ [] := by
  by_cases h : n < 10
  · rw [upL_small h]; simp
  · rw [upL_big h]; simp
theorem dgt_toNat {d : Nat} (h : d < 10) : (48 + UInt8.ofNat d).toNat = 48 + d := by
  rw [UInt8.toNat_add]; simp; omega
theorem dgt_digit {d : Nat} (h : d < 10) : digitB (48 + UInt8.ofNat d) = true := by
  unfold digitB; rw [dgt_toNat h]; simp; omega
theorem digN_app {a b : List UInt8} (ha : digN a = a.length) (hb : digN b = b.length) : digN (a ++ b) = (a ++ b).length := by
  induction a with
  | nil => simpa using hb
  | cons x r ih =>
    unfold digN at ha
    by_cases hx : digitB x = true
    · rw [if_pos hx] at ha
      rw [List.cons_append, digN, if_pos hx, ih (by simpa using ha)]
      simp
    · rw [if_neg hx] at ha; simp at ha
theorem upL_digits (n : Nat) : digN (upL n) = (upL n).length := by
  induction n using Nat.strongRecOn with
  | ind n ih =>
    have hd : n % 10 < 10 := Nat.mod_lt _ (by omega)
    by_cases h : n < 10
    · rw [upL_small h]; simp [digN, dgt_digit hd]
    · rw [upL_big h]
      exact digN_app (ih _ (by omega)) (by simp [digN, dgt_digit hd])
theorem valTo_app (a b : List UInt8) (k : Nat) (h : k ≤ a.length) : valTo (a ++ b) k = valTo a k := by
  induction k with
  | zero => rfl
  | succ k ih =>
    unfold valTo
    rw [ih (by omega)]
    congr 4
    rw [List.getD_eq_getElem?_getD, List.getD_eq_getElem?_getD, List.getElem?_append_left (by omega)]
theorem upL_val (n : Nat) : valTo (upL n) (upL n).length = min (n : Int) 1099511627776 := by
  induction n using Nat.strongRecOn with
  | ind n ih =>
    have hd : n % 10 < 10 := Nat.mod_lt _ (by omega)
    have hone : ∀ (l : List UInt8), valTo (l ++ [48 + UInt8.ofNat (n % 10)]) (l ++ [48 + UInt8.ofNat (n % 10)]).length = min (valTo l l.length * 10 + (n % 10 : Nat)) 1099511627776 := by
      intro l
      rw [List.length_append, List.length_singleton, valTo, valTo_app _ _ _ (Nat.le_refl _)]
      rw [List.getD_eq_getElem?_getD, List.getElem?_append_right (Nat.le_refl _)]
      simp only [Nat.sub_self, List.getElem?_cons_zero, Option.getD_some]
      rw [dgt_toNat hd]
      congr 1
      omega
    by_cases h : n < 10
    · rw [upL_small h]
      have := hone []
      simp only [List.nil_append] at this
      rw [this]
      simp only [valTo, List.length_nil]
      omega
    · rw [upL_big h, hone, ih _ (by omega)]
      omega
theorem upL_first (n : Nat) : digitB ((upL n).getD 0 0) = true := by
  have := digN_all (upL n) 0 (by rw [upL_digits]; exact List.length_pos_iff.2 (upL_ne n))
  exact this
theorem upL_pos (n : Nat) : numNeg (upL n) = false := by
  unfold numNeg
  have h := upL_first n
  have : ((upL n).getD 0 0 == 45) = false := by
    rw [beq_eq_false_iff_ne]
    intro e
    rw [e] at h
    exact absurd h (by decide)
  rw [this, Bool.and_false]
theorem num_text (n : Int) : numOk (textL n) = true ∧ numV (textL n) = if n < 0 then -(min (-n) 1099511627776) else min n 1099511627776 := by
  by_cases h : n < 0
  · obtain ⟨m, rfl⟩ : ∃ m : Nat, n = -(m : Int) := ⟨(-n).toNat, by omega⟩
    rw [textL_neg h, show (- -(m : Int)).toNat = m by omega]
    have hneg : numNeg (45 :: upL m) = true := by unfold numNeg; simp
    have hT : numT (45 :: upL m) = upL m := by unfold numT; rw [hneg]; rfl
    have hok : numOk (45 :: upL m) = true := by
      unfold numOk; rw [hT, upL_digits]
      have := List.length_pos_iff.2 (upL_ne m)
      simpa using this
    refine ⟨hok, ?_⟩
    unfold numV
    rw [hok, if_pos rfl, hneg, if_pos rfl, hT, upL_val, if_pos h]
    omega
  · obtain ⟨m, rfl⟩ := Int.eq_ofNat_of_zero_le (by omega : 0 ≤ n)
    rw [textL_pos h, Int.toNat_natCast]
    have hT : numT (upL m) = upL m := by unfold numT; rw [upL_pos]; rfl
    have hok : numOk (upL m) = true := by
      unfold numOk; rw [hT, upL_digits]
      have := List.length_pos_iff.2 (upL_ne m)
      simpa using this
    refine ⟨hok, ?_⟩
    unfold numV
    rw [hok, if_pos rfl, upL_pos, hT, upL_val, if_neg h]
    rfl

theorem numV_bd (l : List UInt8) : -1099511627776 ≤ numV l ∧ numV l ≤ 1099511627776 := by
  unfold numV
  by_cases h : numOk l = true
  · rw [if_pos h]
    have hd : digN (numT l) = (numT l).length := by
      unfold numOk at h
      simp only [Bool.and_eq_true, decide_eq_true_eq] at h
      exact h.2
    have := valTo_bd (numT l) (numT l).length (fun j hj => digN_all _ _ (by omega))
    split <;> omega
  · rw [if_neg h]; omega

/-- A text of digits alone is the digits of its number, but for noughts ahead. -/
theorem numV_digits {p : List UInt8} (h0 : p ≠ []) (h : digN p = p.length) : numV p = valTo p p.length := by
  have hp : 0 < p.length := List.length_pos_iff.2 h0
  have h1 := digN_all p 0 (by omega)
  have hn : numNeg p = false := by
    unfold numNeg
    have : (p.getD 0 0 == 45) = false := by
      rw [beq_eq_false_iff_ne]; intro e; rw [e] at h1; exact absurd h1 (by decide)
    rw [this, Bool.and_false]
  have hT : numT p = p := by unfold numT; rw [hn]; rfl
  have hok : numOk p = true := by unfold numOk; rw [hT, h]; simp [hp]
  unfold numV
  rw [if_pos hok, hn, hT]; rfl
theorem valTo_snoc (q : List UInt8) (d : UInt8) : valTo (q ++ [d]) (q ++ [d]).length = min (valTo q q.length * 10 + ((d.toNat : Int) - 48)) 1099511627776 := by
  rw [List.length_append, List.length_singleton, valTo, valTo_app _ _ _ (Nat.le_refl _)]
  congr 4
  rw [List.getD_eq_getElem?_getD, List.getElem?_append_right (Nat.le_refl _)]
  simp
theorem up_valTo (p : List UInt8) (h0 : p ≠ []) (h : ∀ j, j < p.length → digitB (p.getD j 0) = true) (hz : 1 < p.length → (p.getD 0 0 == 48) = false) (hc : valTo p p.length < 1099511627776) : upL (valTo p p.length).toNat = p := by
  induction hl : p.length generalizing p with
  | zero => exact absurd (List.eq_nil_of_length_eq_zero hl) h0
  | succ n ih =>
    obtain ⟨q, d, rfl⟩ : ∃ q d, p = q ++ [d] := by
      rcases List.eq_nil_or_concat p with e | ⟨q, d, e⟩
      · exact absurd e h0
      · exact ⟨q, d, by rw [e, List.concat_eq_append]⟩
    have hq : q.length = n := by simpa using hl
    have hgq : ∀ j, j < q.length → (q ++ [d]).getD j 0 = q.getD j 0 := by
      intro j hj
      rw [List.getD_eq_getElem?_getD, List.getD_eq_getElem?_getD, List.getElem?_append_left (by omega)]
    have hd : digitB d = true := by
      have := h n (by omega)
      rw [List.getD_eq_getElem?_getD, List.getElem?_append_right (by omega)] at this
      simpa [hq] using this
    unfold digitB at hd
    simp only [decide_eq_true_eq] at hd
    have hv := valTo_snoc q d
    rw [hl] at hc hv
    have hde : 48 + UInt8.ofNat (d.toNat - 48) = d := by
      apply UInt8.toNat_inj.1
      rw [dgt_toNat (by omega)]; omega
    have hqd : ∀ j, j < q.length → digitB (q.getD j 0) = true := by
      intro j hj
      have := h j (by simp; omega)
      rwa [hgq j hj] at this
    have hbd := valTo_bd q q.length hqd
    by_cases hq0 : q = []
    · subst hq0
      rw [show valTo [] ([] : List UInt8).length = 0 from rfl] at hv
      have hvv : (valTo ([] ++ [d]) (n + 1)).toNat = d.toNat - 48 := by rw [hv]; omega
      rw [hvv, upL_small (by omega), Nat.mod_eq_of_lt (by omega), hde]; rfl
    · have hqp : 0 < q.length := List.length_pos_iff.2 hq0
      have hz1 := hz (by simp; omega)
      rw [hgq 0 hqp] at hz1
      have hle : valTo q q.length < 1099511627776 := by omega
      have hup := ih q hq0 hqd (fun _ => hz1) hle hq
      rw [hq] at hle hbd hv
      have hpos : 1 ≤ valTo q n := by
        rcases Int.lt_or_le 0 (valTo q n) with h | h
        · omega
        · exfalso
          rw [show (valTo q n).toNat = 0 by omega, upL_small (by omega)] at hup
          rw [← hup] at hz1
          exact absurd hz1 (by decide)
      have hvv : (valTo (q ++ [d]) (n + 1)).toNat = (valTo q n).toNat * 10 + (d.toNat - 48) := by rw [hv]; omega
      rw [hvv, upL_big (by omega), show ((valTo q n).toNat * 10 + (d.toNat - 48)) / 10 = (valTo q n).toNat by omega, show ((valTo q n).toNat * 10 + (d.toNat - 48)) % 10 = d.toNat - 48 by omega, hup, hde]
theorem upL_zero (n : Nat) (h : 1 < (upL n).length) : ((upL n).getD 0 0 == 48) = false := by
  induction n using Nat.strongRecOn with
  | ind n ih =>
    by_cases h9 : n < 10
    · rw [upL_small h9] at h; simp at h
    · rw [upL_big h9]
      have hp : 0 < (upL (n / 10)).length := List.length_pos_iff.2 (upL_ne _)
      rw [List.getD_eq_getElem?_getD, List.getElem?_append_left hp, ← List.getD_eq_getElem?_getD]
      by_cases h8 : n / 10 < 10
      · rw [upL_small h8]
        show (48 + UInt8.ofNat (n / 10 % 10) == 48) = false
        rw [beq_eq_false_iff_ne]
        intro e
        have := congrArg UInt8.toNat e
        rw [dgt_toNat (by omega), show (48 : UInt8).toNat = 48 from rfl] at this
        omega
      · refine ih _ (by omega) ?_
        rw [upL_big h8]
        have : 0 < (upL (n / 10 / 10)).length := List.length_pos_iff.2 (upL_ne _)
        simp; omega
end Go.Proofs.YtgfoaopfdpclhaaGreatDoor
namespace Go.Proofs.YtgfoaopfdpclhaaGreatDoor
open Go.RowKit
set_option linter.unusedVariables false
set_option maxRecDepth 100000

def leapB (y : Int) : Bool := decide (y.tmod 4 = 0) && (!decide (y.tmod 100 = 0) || decide (y.tmod 400 = 0))

set_option maxHeartbeats 1000000 in
theorem leap_any (y : Int) (w : World) :
    Calls Tryz.prog 140 #[.int .i64 y] w fun e w' => e = .returned (.bool (leapB y)) ∧ w = w' := by
  go_enter Tryz.func140, Tryz.ntmps140
  go_wp2
  all_goals
    go_ret
    refine ⟨ret_bool ?_, rfl⟩
    unfold leapB
    simp [*]
    try (rw [Bool.eq_iff_iff]; simp)

set_option maxHeartbeats 1000000 in
theorem refLeap_any (y : Int) (w : World) :
    Calls Tryz.prog 137 #[.int .i64 y] w fun e w' => e = .returned (.bool (leapB y)) ∧ w = w' := by
  go_enter Tryz.func137, Tryz.ntmps137
  go_wp2
  all_goals
    go_ret
    refine ⟨ret_bool ?_, rfl⟩
    unfold leapB
    simp [*]
    try (rw [Bool.eq_iff_iff]; simp)

def longI (y m : Int) : Int := if m = 2 then (if leapB y then 29 else 28) else if m = 4 ∨ m = 6 ∨ m = 9 ∨ m = 11 then 30 else 31
theorem longI_bd (y m : Int) : 28 ≤ longI y m ∧ longI y m ≤ 31 := by unfold longI; split <;> split <;> omega

set_option maxHeartbeats 1000000 in
theorem long_any (y m : Int) (w : World) :
    Calls Tryz.prog 133 #[.int .i64 y, .int .i64 m] w fun e w' => e = .returned (.int .i64 (longI y m)) ∧ w = w' := by
  by_cases h2 : m = 2
  · subst h2
    cases hl : leapB y
    all_goals
      have hL := Lib.hid hl
      have hfin := Lib.hid (show longI y 2 = if leapB y then 29 else 28 from if_pos rfl)
      clear hl
      go_enter Tryz.func133, Tryz.ntmps133
      go_wp2_with fail
      refine (leap_any _ _).mono ?_
      rintro e w' ⟨rfl, rfl⟩
      rw [hL.out]
      go_wp2
      go_ret
      exact ⟨ret_int (by rw [hfin.out, hL.out]; rfl), rfl⟩
  · have hfin := Lib.hid (show longI y m = if m = 4 ∨ m = 6 ∨ m = 9 ∨ m = 11 then 30 else 31 from if_neg h2)
    have h2i : (m == 2) = false := beq_eq_false_iff_ne.2 h2
    go_enter Tryz.func133, Tryz.ntmps133
    go_wp2
    all_goals
      go_ret
      refine ⟨ret_int ?_, rfl⟩
      rw [hfin.out]
      try simp only [beq_iff_eq, beq_eq_false_iff_ne] at *
      first
        | rw [if_pos (by omega)]
        | rw [if_neg (by omega)]

def rightB (y m d : Int) : Bool := decide (1601 ≤ y) && decide (y ≤ 9999) && decide (1 ≤ m) && decide (m ≤ 12) && decide (1 ≤ d) && decide (d ≤ longI y m)
def daysI (y m d : Int) : Int :=
  let y' := if m < 3 then y - 1 else y
  let m' := if m < 3 then m - 3 + 12 else m - 3
  y' / 400 * 146097 + (y' % 400 * 365 + y' % 400 / 4 - y' % 400 / 100 + (153 * m' + 2) / 5 + d - 1) - 719468
def daysT (y m d : Int) : Int × Int := if rightB y m d then (daysI y m d, 0) else (0, 4)

set_option maxHeartbeats 4000000 in
theorem days_any (y m d : Int) (w : World) (hy : -9223372036854775808 ≤ y ∧ y ≤ 9223372036854775807) (hm : -9223372036854775808 ≤ m ∧ m ≤ 9223372036854775807) (hd : -9223372036854775808 ≤ d ∧ d ≤ 9223372036854775807) :
    Calls Tryz.prog 113 #[.int .i64 y, .int .i64 m, .int .i64 d] w fun e w' => e = .returned (.tuple #[.int .i64 (daysT y m d).1, .int .i64 (daysT y m d).2]) ∧ w = w' := by
  cases hr : rightB y m d
  · have hT := Lib.hid (show daysT y m d = (0, 4) by unfold daysT; rw [hr]; rfl)
    have hcs : y < 1601 ∨ (1601 ≤ y ∧ 9999 < y) ∨ (1601 ≤ y ∧ y ≤ 9999 ∧ m < 1) ∨ (1601 ≤ y ∧ y ≤ 9999 ∧ 1 ≤ m ∧ 12 < m) ∨ (1601 ≤ y ∧ y ≤ 9999 ∧ 1 ≤ m ∧ m ≤ 12 ∧ d < 1) ∨ (1601 ≤ y ∧ y ≤ 9999 ∧ 1 ≤ m ∧ m ≤ 12 ∧ 1 ≤ d ∧ longI y m < d) := by
      unfold rightB at hr
      by_cases a : 1601 ≤ y
      · by_cases b : y ≤ 9999
        · by_cases c : 1 ≤ m
          · by_cases e : m ≤ 12
            · by_cases f : 1 ≤ d
              · have : ¬ d ≤ longI y m := by intro g; simp [a, b, c, e, f, g] at hr
                omega
              · omega
            · omega
          · omega
        · omega
      · omega
    clear hr
    rcases hcs with h | ⟨g1, h⟩ | ⟨g1, g2, h⟩ | ⟨g1, g2, g3, h⟩ | ⟨g1, g2, g3, g4, h⟩ | ⟨g1, g2, g3, g4, g5, h⟩
    iterate 5
      · go_enter Tryz.func113, Tryz.ntmps113
        go_wp2
        rw [hT.out]
        go_ret2
        exact ⟨rfl, rfl⟩
    have hbd := longI_bd y m
    go_enter Tryz.func113, Tryz.ntmps113
    go_wp2_with fail
    refine (long_any _ _ _).mono ?_
    rintro e w' ⟨rfl, rfl⟩
    go_wp2
    rw [hT.out]
    go_ret2
    exact ⟨rfl, rfl⟩
  · have hT := Lib.hid (show daysT y m d = (daysI y m d, 0) by unfold daysT; rw [hr]; rfl)
    unfold rightB at hr
    simp only [Bool.and_eq_true, decide_eq_true_eq] at hr
    obtain ⟨⟨⟨⟨⟨g1, g2⟩, g3⟩, g4⟩, g5⟩, g6⟩ := hr
    have hbd := longI_bd y m
    by_cases h3 : m < 3
    · have hI := Lib.hid (show daysI y m d = (y - 1) / 400 * 146097 + ((y - 1) % 400 * 365 + (y - 1) % 400 / 4 - (y - 1) % 400 / 100 + (153 * (m - 3 + 12) + 2) / 5 + d - 1) - 719468 by unfold daysI; simp only [if_pos h3])
      go_enter Tryz.func113, Tryz.ntmps113
      go_wp2_with fail
      refine (long_any _ _ _).mono ?_
      rintro e w' ⟨rfl, rfl⟩
      go_wp2
      rw [hT.out, hI.out]
      go_ret2
      exact ⟨rfl, rfl⟩
    · have hI := Lib.hid (show daysI y m d = y / 400 * 146097 + (y % 400 * 365 + y % 400 / 4 - y % 400 / 100 + (153 * (m - 3) + 2) / 5 + d - 1) - 719468 by unfold daysI; simp only [if_neg h3])
      go_enter Tryz.func113, Tryz.ntmps113
      go_wp2_with fail
      refine (long_any _ _ _).mono ?_
      rintro e w' ⟨rfl, rfl⟩
      go_wp2
      rw [hT.out, hI.out]
      go_ret2
      exact ⟨rfl, rfl⟩
end Go.Proofs.YtgfoaopfdpclhaaGreatDoor
namespace Go.Proofs.YtgfoaopfdpclhaaGreatDoor
set_option linter.unusedVariables false
set_option maxRecDepth 100000

/-- A day of four hundred years: its century, its four years, its year and its day in that. -/
theorem era_parts (d : Int) (h1 : 0 ≤ d) (h2 : d ≤ 146096) : ∃ c q t r : Int, 0 ≤ c ∧ c ≤ 3 ∧ 0 ≤ q ∧ q ≤ 24 ∧ 0 ≤ t ∧ t ≤ 3 ∧ 0 ≤ r ∧ r ≤ 365 ∧ d = 36524 * c + 1461 * q + 365 * t + r ∧ (r = 365 → t = 3 ∧ (q < 24 ∨ c = 3)) := by
  obtain ⟨c, hc1, hc2, hc3, hc4⟩ : ∃ c : Int, 0 ≤ c ∧ c ≤ 3 ∧ 36524 * c ≤ d ∧ (d < 36524 * (c + 1) ∨ (c = 3 ∧ d ≤ 146096)) := by
    by_cases h : d < 36524 * 4
    · exact ⟨d / 36524, by omega, by omega, by omega, .inl (by omega)⟩
    · exact ⟨3, by omega, by omega, by omega, .inr ⟨rfl, h2⟩⟩
  obtain ⟨q, hq1, hq2, hq3, hq4⟩ : ∃ q : Int, 0 ≤ q ∧ q ≤ 24 ∧ 1461 * q ≤ d - 36524 * c ∧ d - 36524 * c < 1461 * (q + 1) :=
    ⟨(d - 36524 * c) / 1461, by omega, by omega, by omega, by omega⟩
  obtain ⟨t, ht1, ht2, ht3, ht4⟩ : ∃ t : Int, 0 ≤ t ∧ t ≤ 3 ∧ 365 * t ≤ d - 36524 * c - 1461 * q ∧ (d - 36524 * c - 1461 * q < 365 * (t + 1) ∨ (t = 3 ∧ d - 36524 * c - 1461 * q ≤ 1460)) := by
    by_cases h : d - 36524 * c - 1461 * q < 1460
    · exact ⟨(d - 36524 * c - 1461 * q) / 365, by omega, by omega, by omega, .inl (by omega)⟩
    · exact ⟨3, by omega, by omega, by omega, .inr ⟨rfl, by omega⟩⟩
  exact ⟨c, q, t, d - 36524 * c - 1461 * q - 365 * t, hc1, hc2, hq1, hq2, ht1, ht2, by omega, by omega, by omega, fun h => by omega⟩
theorem era_year {d c q t r : Int} (hc1 : 0 ≤ c) (hc2 : c ≤ 3) (hq1 : 0 ≤ q) (hq2 : q ≤ 24) (ht1 : 0 ≤ t) (ht2 : t ≤ 3) (hr1 : 0 ≤ r) (hr2 : r ≤ 365) (hd : d = 36524 * c + 1461 * q + 365 * t + r) (hx : r = 365 → t = 3 ∧ (q < 24 ∨ c = 3)) :
    (d - d / 1460 + d / 36524 - d / 146096) / 365 = 100 * c + 4 * q + t := by
  by_cases hs : d = 146096
  · have : c = 3 ∧ q = 24 ∧ t = 3 ∧ r = 365 := by omega
    obtain ⟨rfl, rfl, rfl, rfl⟩ := this
    subst hs
    decide
  · have e1 : d / 36524 = c := by omega
    have e2 : d / 146096 = 0 := by omega
    have e3 : (d / 1460 = 25 * c + q ∧ r ≤ 364) ∨ (d / 1460 = 25 * c + q + 1 ∧ 1 ≤ r) := by omega
    rw [e1, e2]
    rcases e3 with ⟨e3, h⟩ | ⟨e3, h⟩
    · rw [e3]; omega
    · rw [e3]; omega
theorem era_day {d c q t r : Int} (hc1 : 0 ≤ c) (hc2 : c ≤ 3) (hq1 : 0 ≤ q) (hq2 : q ≤ 24) (ht1 : 0 ≤ t) (ht2 : t ≤ 3) (hd : d = 36524 * c + 1461 * q + 365 * t + r) :
    d - (365 * (100 * c + 4 * q + t) + (100 * c + 4 * q + t) / 4 - (100 * c + 4 * q + t) / 100) = r := by
  have hc : c = 0 ∨ c = 1 ∨ c = 2 ∨ c = 3 := by omega
  rcases hc with rfl | rfl | rfl | rfl <;> omega
end Go.Proofs.YtgfoaopfdpclhaaGreatDoor
namespace Go.Proofs.YtgfoaopfdpclhaaGreatDoor
open Go.RowKit
set_option linter.unusedVariables false
set_option maxRecDepth 100000

theorem results_tmp4 {fn : Func} {t u v x : Tmp} (h : fn.results = #[.tmp t, .tmp u, .tmp v, .tmp x]) (tmps : Array Value) (P : Program) (w : World) :
    (results fn tmps).run P w = .ok (.tuple #[tmps.getD t undef, tmps.getD u undef, tmps.getD v undef, tmps.getD x undef]) w := by
  simp [results, h]

def civD (n : Int) : Int := (n + 719468) % 146097
def civY (n : Int) : Int := (civD n - civD n / 1460 + civD n / 36524 - civD n / 146096) / 365
def civR (n : Int) : Int := civD n - (365 * civY n + civY n / 4 - civY n / 100)
def civM (n : Int) : Int := (5 * civR n + 2) / 153
def civilT (n : Int) : Int × Int × Int × Int :=
  if n < -134774 ∨ 2932896 < n then (0, 0, 0, 4)
  else if 12 < civM n + 3 then ((n + 719468) / 146097 * 400 + civY n + 1, civM n + 3 - 12, civR n - (153 * civM n + 2) / 5 + 1, 0)
  else ((n + 719468) / 146097 * 400 + civY n, civM n + 3, civR n - (153 * civM n + 2) / 5 + 1, 0)

theorem civ_bd {n : Int} (h1 : 0 ≤ civD n) (h2 : civD n ≤ 146096) : 0 ≤ civY n ∧ civY n ≤ 399 ∧ 0 ≤ civR n ∧ civR n ≤ 365 ∧ 0 ≤ civM n ∧ civM n ≤ 11 := by
  obtain ⟨c, q, t, r, hc1, hc2, hq1, hq2, ht1, ht2, hr1, hr2, hd, hx⟩ := era_parts _ h1 h2
  have hY : civY n = 100 * c + 4 * q + t := by unfold civY; exact era_year hc1 hc2 hq1 hq2 ht1 ht2 hr1 hr2 hd hx
  have hR : civR n = r := by unfold civR; rw [hY]; exact era_day hc1 hc2 hq1 hq2 ht1 ht2 hd
  have hM : civM n = (5 * r + 2) / 153 := by unfold civM; rw [hR]
  omega

end Go.Proofs.YtgfoaopfdpclhaaGreatDoor
