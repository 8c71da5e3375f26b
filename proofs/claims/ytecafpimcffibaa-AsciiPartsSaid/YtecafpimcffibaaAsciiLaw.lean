/-
  The laws of layer 6, walked: each answers true at every input.
-/
import Derived.Test.YtecafpimcffibaaAscii6
namespace Go.Proofs.Ytecafpimcffibaa
open Go.RowKit
set_option linter.unusedVariables false

theorem numV_seven : numV [45, 48, 55] = -7 := by decide
theorem numOk_seven : numOk [45, 48, 55] = true := by decide
theorem textL_forty : textL (-40) = [45, 52, 48] := by
  rw [textL_neg (by decide), show (- -(40 : Int)).toNat = 40 from rfl, upL_big (by decide), upL_small (by decide)]
  rfl

set_option maxHeartbeats 1000000 in
theorem awake06 (w : World) :
    Calls Try.prog 17 #[] w fun e w' => e = .returned (.bool true) ∧ Below w.heap.size w w' := by
  have e1 := numV_seven
  have e2 := numOk_seven
  have e3 : trimL [32, 97, 32, 98, 32] = [97, 32, 98] := by decide
  have e4 : lowerL [65, 98] = [97, 98] := by decide
  have e5 := textL_forty
  go_enter Try.func17, Try.ntmps17
  go_wp2_with (first
    | (go_at_call 18; refine (number_any _ _ (by decide)).mono ?_; rintro e w' ⟨rfl, rfl⟩)
    | (go_at_call 28; refine (trim_any _ _ (by decide)).mono ?_; rintro e w' ⟨rfl, rfl⟩)
    | (go_at_call 25; refine (lowerA_any _ _ (by decide)).mono ?_; rintro e w1 ⟨rfl, hb1⟩)
    | (go_at_call 22; refine (text_any _ _ (by decide) (by decide)).mono ?_; rintro e w2 ⟨rfl, hb2⟩))
  go_ret
  exact ⟨rfl, bel_onto hb1 hb2 hb1.size⟩

set_option maxHeartbeats 1000000 in
theorem asciiNumbers (s : ByteArray) (w : World) (hs : s.size ≤ maxLen) :
    Calls Try.prog 6 #[.string s] w fun e w' => e = .returned (.bool true) ∧ Below w.heap.size w w' := by
  have hs' := hs
  unfold maxLen at hs'
  go_enter Try.func6, Try.ntmps6
  go_wp2_with (first
    | (go_at_call 17; refine (awake06 _).mono ?_; rintro e w1 ⟨rfl, hb1⟩)
    | (go_at_call 18; refine (number_any _ _ hs).mono ?_; rintro e w' ⟨rfl, rfl⟩)
    | (go_at_call 19; refine (refNumber_any _ _ hs).mono ?_; rintro e w' ⟨rfl, rfl⟩)
    | (go_at_call 20; refine (digits_any _ _ hs).mono ?_; rintro e w' ⟨rfl, rfl⟩)
    | (go_at_call 21; refine (refDigits_any _ _ hs).mono ?_; rintro e w' ⟨rfl, rfl⟩))
  all_goals (go_ret; exact ⟨rfl, hb1⟩)

theorem upL_ne (n : Nat) : upL n ≠ [] := by
  by_cases h : n < 10
  · rw [upL_small h]; simp
  · rw [upL_big h]; simp
theorem dgt_toNat {d : Nat} (h : d < 10) : (48 + UInt8.ofNat d).toNat = 48 + d := by
  rw [UInt8.toNat_add]; simp; omega
theorem dgt_digit {d : Nat} (h : d < 10) : digitB (48 + UInt8.ofNat d) = true := by
  unfold digitB; rw [dgt_toNat h]; simp; omega
theorem digN_app {a b : List UInt8} (ha : digN a = a.length) (hb : digN b = b.length) : digN (a ++ b) = (a ++ b).length := by
  induction a with
  | nil => simpa using hb
  | cons x r ih =>
    unfold digN at ha
    by_cases hx : digitB x = true
    · rw [if_pos hx] at ha
      rw [List.cons_append, digN, if_pos hx, ih (by simpa using ha)]
      simp
    · rw [if_neg hx] at ha; simp at ha
theorem upL_digits (n : Nat) : digN (upL n) = (upL n).length := by
  induction n using Nat.strongRecOn with
  | ind n ih =>
    have hd : n % 10 < 10 := Nat.mod_lt _ (by omega)
    by_cases h : n < 10
    · rw [upL_small h]; simp [digN, dgt_digit hd]
    · rw [upL_big h]
      exact digN_app (ih _ (by omega)) (by simp [digN, dgt_digit hd])
theorem valTo_app (a b : List UInt8) (k : Nat) (h : k ≤ a.length) : valTo (a ++ b) k = valTo a k := by
  induction k with
  | zero => rfl
  | succ k ih =>
    unfold valTo
    rw [ih (by omega)]
    congr 4
    rw [List.getD_eq_getElem?_getD, List.getD_eq_getElem?_getD, List.getElem?_append_left (by omega)]
theorem upL_val (n : Nat) : valTo (upL n) (upL n).length = min (n : Int) 1099511627776 := by
  induction n using Nat.strongRecOn with
  | ind n ih =>
    have hd : n % 10 < 10 := Nat.mod_lt _ (by omega)
    have hone : ∀ (l : List UInt8), valTo (l ++ [48 + UInt8.ofNat (n % 10)]) (l ++ [48 + UInt8.ofNat (n % 10)]).length = min (valTo l l.length * 10 + (n % 10 : Nat)) 1099511627776 := by
      intro l
      rw [List.length_append, List.length_singleton, valTo, valTo_app _ _ _ (Nat.le_refl _)]
      rw [List.getD_eq_getElem?_getD, List.getElem?_append_right (Nat.le_refl _)]
      simp only [Nat.sub_self, List.getElem?_cons_zero, Option.getD_some]
      rw [dgt_toNat hd]
      congr 1
      omega
    by_cases h : n < 10
    · rw [upL_small h]
      have := hone []
      simp only [List.nil_append] at this
      rw [this]
      simp only [valTo, List.length_nil]
      omega
    · rw [upL_big h, hone, ih _ (by omega)]
      omega
theorem upL_first (n : Nat) : digitB ((upL n).getD 0 0) = true := by
  have := digN_all (upL n) 0 (by rw [upL_digits]; exact List.length_pos_iff.2 (upL_ne n))
  exact this
theorem upL_pos (n : Nat) : numNeg (upL n) = false := by
  unfold numNeg
  have h := upL_first n
  have : ((upL n).getD 0 0 == 45) = false := by
    rw [beq_eq_false_iff_ne]
    intro e
    rw [e] at h
    exact absurd h (by decide)
  rw [this, Bool.and_false]
theorem num_text (n : Int) : numOk (textL n) = true ∧ numV (textL n) = if n < 0 then -(min (-n) 1099511627776) else min n 1099511627776 := by
  by_cases h : n < 0
  · obtain ⟨m, rfl⟩ : ∃ m : Nat, n = -(m : Int) := ⟨(-n).toNat, by omega⟩
    rw [textL_neg h, show (- -(m : Int)).toNat = m by omega]
    have hneg : numNeg (45 :: upL m) = true := by unfold numNeg; simp
    have hT : numT (45 :: upL m) = upL m := by unfold numT; rw [hneg]; rfl
    have hok : numOk (45 :: upL m) = true := by
      unfold numOk; rw [hT, upL_digits]
      have := List.length_pos_iff.2 (upL_ne m)
      simpa using this
    refine ⟨hok, ?_⟩
    unfold numV
    rw [hok, if_pos rfl, hneg, if_pos rfl, hT, upL_val, if_pos h]
    omega
  · obtain ⟨m, rfl⟩ := Int.eq_ofNat_of_zero_le (by omega : 0 ≤ n)
    rw [textL_pos h, Int.toNat_natCast]
    have hT : numT (upL m) = upL m := by unfold numT; rw [upL_pos]; rfl
    have hok : numOk (upL m) = true := by
      unfold numOk; rw [hT, upL_digits]
      have := List.length_pos_iff.2 (upL_ne m)
      simpa using this
    refine ⟨hok, ?_⟩
    unfold numV
    rw [hok, if_pos rfl, upL_pos, hT, upL_val, if_neg h]
    rfl
theorem textL_len (n : Int) (h1 : -9223372036854775808 ≤ n) (h2 : n ≤ 9223372036854775807) : (textL n).length ≤ 21 := by
  by_cases h : n < 0
  · rw [textL_neg h]
    have := upL_len (-n).toNat 20 (by omega) (by omega)
    simp; omega
  · rw [textL_pos h]
    have := upL_len n.toNat 20 (by omega) (by omega)
    omega

set_option maxHeartbeats 1000000 in
theorem asciiTexts0 (n : Int) (w : World) (h1 : -9223372036854775808 ≤ n) (h2 : n ≤ 9223372036854775807) :
    Calls Try.prog 7 #[.int .i64 n] w fun e w' => e = .returned (.bool true) ∧ Below w.heap.size w w' := by
  have hN := Lib.hid (num_text n)
  have hok := hN.out.1
  have hl := textL_len n h1 h2
  have hl2 : (S (textL n)).size ≤ maxLen := by rw [S_size]; unfold maxLen; omega
  have hcs : (numV (textL n) = n) ∨ (((numV (textL n) == n) = false) ∧ 1099511627776 < n ∧ numV (textL n) = 1099511627776) ∨ (((numV (textL n) == n) = false) ∧ decide (1099511627776 < n) = false ∧ n < -1099511627776 ∧ numV (textL n) = -1099511627776) := by
    have := hN.out.2
    simp only [beq_eq_false_iff_ne, decide_eq_false_iff_not]
    split at this <;> omega
  rcases hcs with h | ⟨h, h', h''⟩ | ⟨h, h', h'', h'''⟩
  all_goals
    go_enter Try.func7, Try.ntmps7
    go_wp2_with fail
    refine (text_any _ _ h1 h2).mono ?_
    rintro e w1 ⟨rfl, hb1⟩
    go_wp2_with fail
    refine (number_any _ _ hl2).mono ?_
    rintro e w1' ⟨rfl, rfl⟩
    rw [S_toList]
    go_wp2_with fail
    refine (refText_any _ _ h1 h2).mono ?_
    rintro e w2 ⟨rfl, hb2⟩
    have hb3 := bel_onto hb1 hb2 hb1.size
    go_wp2_with (go_at_call 17; refine (awake06 _).mono ?_; rintro e w3 ⟨rfl, hb4⟩)
    go_ret
    exact ⟨rfl, bel_onto hb3 hb4 hb3.size⟩

theorem i64_wf {n : Int} (h : (Lit.int .i64 n).wf = true) : -9223372036854775808 ≤ n ∧ n ≤ 9223372036854775807 := by
  simp [Lit.wf, IntKind.min, IntKind.max, IntKind.signed, IntKind.bits] at h
  exact ⟨by omega, by omega⟩
theorem u8_wf {n : Int} (h : (Lit.int .u8 n).wf = true) : ∃ c : UInt8, n = c.toNat := by
  simp [Lit.wf, IntKind.min, IntKind.max, IntKind.signed, IntKind.bits] at h
  exact ⟨UInt8.ofNat n.toNat, by simp; omega⟩
theorem asciiTexts (n : Int) (w : World) (h : (Lit.int .i64 n).wf = true) :
    Calls Try.prog 7 #[.int .i64 n] w fun e w' => e = .returned (.bool true) ∧ Below w.heap.size w w' :=
  asciiTexts0 n w (i64_wf h).1 (i64_wf h).2
end Go.Proofs.Ytecafpimcffibaa
