/-
  A number's digits, and the number that they are: plain laws.
-/
import Derived.Test.YtgfoaopfdpclhaaAscii6
namespace Go.Proofs.Ytgfoaopfdpclhaa
open Go.RowKit
set_option linter.unusedVariables false

theorem upL_ne (n : Nat) : upL n ≠ [] := by
  by_cases h : n < 10
  · rw [upL_small h]; simp
  · rw [upL_big h]; simp
theorem dgt_toNat {d : Nat} (h : d < 10) : (48 + UInt8.ofNat d).toNat = 48 + d := by
  rw [UInt8.toNat_add]; simp; omega
theorem dgt_digit {d : Nat} (h : d < 10) : digitB (48 + UInt8.ofNat d) = true := by
  unfold digitB; rw [dgt_toNat h]; simp; omega
theorem digN_app {a b : List UInt8} (ha : digN a = a.length) (hb : digN b = b.length) : digN (a ++ b) = (a ++ b).length := by
  induction a with
  | nil => simpa using hb
  | cons x r ih =>
    unfold digN at ha
    by_cases hx : digitB x = true
    · rw [if_pos hx] at ha
      rw [List.cons_append, digN, if_pos hx, ih (by simpa using ha)]
      simp
    · rw [if_neg hx] at ha; simp at ha
theorem upL_digits (n : Nat) : digN (upL n) = (upL n).length := by
  induction n using Nat.strongRecOn with
  | ind n ih =>
    have hd : n % 10 < 10 := Nat.mod_lt _ (by omega)
    by_cases h : n < 10
    · rw [upL_small h]; simp [digN, dgt_digit hd]
    · rw [upL_big h]
      exact digN_app (ih _ (by omega)) (by simp [digN, dgt_digit hd])
theorem valTo_app (a b : List UInt8) (k : Nat) (h : k ≤ a.length) : valTo (a ++ b) k = valTo a k := by
  induction k with
  | zero => rfl
  | succ k ih =>
    unfold valTo
    rw [ih (by omega)]
    congr 4
    rw [List.getD_eq_getElem?_getD, List.getD_eq_getElem?_getD, List.getElem?_append_left (by omega)]
theorem upL_val (n : Nat) : valTo (upL n) (upL n).length = min (n : Int) 1099511627776 := by
  induction n using Nat.strongRecOn with
  | ind n ih =>
    have hd : n % 10 < 10 := Nat.mod_lt _ (by omega)
    have hone : ∀ (l : List UInt8), valTo (l ++ [48 + UInt8.ofNat (n % 10)]) (l ++ [48 + UInt8.ofNat (n % 10)]).length = min (valTo l l.length * 10 + (n % 10 : Nat)) 1099511627776 := by
      intro l
      rw [List.length_append, List.length_singleton, valTo, valTo_app _ _ _ (Nat.le_refl _)]
      rw [List.getD_eq_getElem?_getD, List.getElem?_append_right (Nat.le_refl _)]
      simp only [Nat.sub_self, List.getElem?_cons_zero, Option.getD_some]
      rw [dgt_toNat hd]
      congr 1
      omega
    by_cases h : n < 10
    · rw [upL_small h]
      have := hone []
      simp only [List.nil_append] at this
      rw [this]
      simp only [valTo, List.length_nil]
      omega
    · rw [upL_big h, hone, ih _ (by omega)]
      omega
theorem upL_first (n : Nat) : digitB ((upL n).getD 0 0) = true := by
  have := digN_all (upL n) 0 (by rw [upL_digits]; exact List.length_pos_iff.2 (upL_ne n))
  exact this
theorem upL_pos (n : Nat) : numNeg (upL n) = false := by
  unfold numNeg
  have h := upL_first n
  have : ((upL n).getD 0 0 == 45) = false := by
    rw [beq_eq_false_iff_ne]
    intro e
    rw [e] at h
    exact absurd h (by decide)
  rw [this, Bool.and_false]
theorem num_text (n : Int) : numOk (textL n) = true ∧ numV (textL n) = if n < 0 then -(min (-n) 1099511627776) else min n 1099511627776 := by
  by_cases h : n < 0
  · obtain ⟨m, rfl⟩ : ∃ m : Nat, n = -(m : Int) := ⟨(-n).toNat, by omega⟩
    rw [textL_neg h, show (- -(m : Int)).toNat = m by omega]
    have hneg : numNeg (45 :: upL m) = true := by unfold numNeg; simp
    have hT : numT (45 :: upL m) = upL m := by unfold numT; rw [hneg]; rfl
    have hok : numOk (45 :: upL m) = true := by
      unfold numOk; rw [hT, upL_digits]
      have := List.length_pos_iff.2 (upL_ne m)
      simpa using this
    refine ⟨hok, ?_⟩
    unfold numV
    rw [hok, if_pos rfl, hneg, if_pos rfl, hT, upL_val, if_pos h]
    omega
  · obtain ⟨m, rfl⟩ := Int.eq_ofNat_of_zero_le (by omega : 0 ≤ n)
    rw [textL_pos h, Int.toNat_natCast]
    have hT : numT (upL m) = upL m := by unfold numT; rw [upL_pos]; rfl
    have hok : numOk (upL m) = true := by
      unfold numOk; rw [hT, upL_digits]
      have := List.length_pos_iff.2 (upL_ne m)
      simpa using this
    refine ⟨hok, ?_⟩
    unfold numV
    rw [hok, if_pos rfl, upL_pos, hT, upL_val, if_neg h]
    rfl

theorem numV_bd (l : List UInt8) : -1099511627776 ≤ numV l ∧ numV l ≤ 1099511627776 := by
  unfold numV
  by_cases h : numOk l = true
  · rw [if_pos h]
    have hd : digN (numT l) = (numT l).length := by
      unfold numOk at h
      simp only [Bool.and_eq_true, decide_eq_true_eq] at h
      exact h.2
    have := valTo_bd (numT l) (numT l).length (fun j hj => digN_all _ _ (by omega))
    split <;> omega
  · rw [if_neg h]; omega

/-- A text of digits alone is the digits of its number, but for noughts ahead. -/
theorem numV_digits {p : List UInt8} (h0 : p ≠ []) (h : digN p = p.length) : numV p = valTo p p.length := by
  have hp : 0 < p.length := List.length_pos_iff.2 h0
  have h1 := digN_all p 0 (by omega)
  have hn : numNeg p = false := by
    unfold numNeg
    have : (p.getD 0 0 == 45) = false := by
      rw [beq_eq_false_iff_ne]; intro e; rw [e] at h1; exact absurd h1 (by decide)
    rw [this, Bool.and_false]
  have hT : numT p = p := by unfold numT; rw [hn]; rfl
  have hok : numOk p = true := by unfold numOk; rw [hT, h]; simp [hp]
  unfold numV
  rw [if_pos hok, hn, hT]; rfl
theorem valTo_snoc (q : List UInt8) (d : UInt8) : valTo (q ++ [d]) (q ++ [d]).length = min (valTo q q.length * 10 + ((d.toNat : Int) - 48)) 1099511627776 := by
  rw [List.length_append, List.length_singleton, valTo, valTo_app _ _ _ (Nat.le_refl _)]
  congr 4
  rw [List.getD_eq_getElem?_getD, List.getElem?_append_right (Nat.le_refl _)]
  simp
theorem up_valTo (p : List UInt8) (h0 : p ≠ []) (h : ∀ j, j < p.length → digitB (p.getD j 0) = true) (hz : 1 < p.length → (p.getD 0 0 == 48) = false) (hc : valTo p p.length < 1099511627776) : upL (valTo p p.length).toNat = p := by
  induction hl : p.length generalizing p with
  | zero => exact absurd (List.eq_nil_of_length_eq_zero hl) h0
  | succ n ih =>
    obtain ⟨q, d, rfl⟩ : ∃ q d, p = q ++ [d] := by
      rcases List.eq_nil_or_concat p with e | ⟨q, d, e⟩
      · exact absurd e h0
      · exact ⟨q, d, by rw [e, List.concat_eq_append]⟩
    have hq : q.length = n := by simpa using hl
    have hgq : ∀ j, j < q.length → (q ++ [d]).getD j 0 = q.getD j 0 := by
      intro j hj
      rw [List.getD_eq_getElem?_getD, List.getD_eq_getElem?_getD, List.getElem?_append_left (by omega)]
    have hd : digitB d = true := by
      have := h n (by omega)
      rw [List.getD_eq_getElem?_getD, List.getElem?_append_right (by omega)] at this
      simpa [hq] using this
    unfold digitB at hd
    simp only [decide_eq_true_eq] at hd
    have hv := valTo_snoc q d
    rw [hl] at hc hv
    have hde : 48 + UInt8.ofNat (d.toNat - 48) = d := by
      apply UInt8.toNat_inj.1
      rw [dgt_toNat (by omega)]; omega
    have hqd : ∀ j, j < q.length → digitB (q.getD j 0) = true := by
      intro j hj
      have := h j (by simp; omega)
      rwa [hgq j hj] at this
    have hbd := valTo_bd q q.length hqd
    by_cases hq0 : q = []
    · subst hq0
      rw [show valTo [] ([] : List UInt8).length = 0 from rfl] at hv
      have hvv : (valTo ([] ++ [d]) (n + 1)).toNat = d.toNat - 48 := by rw [hv]; omega
      rw [hvv, upL_small (by omega), Nat.mod_eq_of_lt (by omega), hde]; rfl
    · have hqp : 0 < q.length := List.length_pos_iff.2 hq0
      have hz1 := hz (by simp; omega)
      rw [hgq 0 hqp] at hz1
      have hle : valTo q q.length < 1099511627776 := by omega
      have hup := ih q hq0 hqd (fun _ => hz1) hle hq
      rw [hq] at hle hbd hv
      have hpos : 1 ≤ valTo q n := by
        rcases Int.lt_or_le 0 (valTo q n) with h | h
        · omega
        · exfalso
          rw [show (valTo q n).toNat = 0 by omega, upL_small (by omega)] at hup
          rw [← hup] at hz1
          exact absurd hz1 (by decide)
      have hvv : (valTo (q ++ [d]) (n + 1)).toNat = (valTo q n).toNat * 10 + (d.toNat - 48) := by rw [hv]; omega
      rw [hvv, upL_big (by omega), show ((valTo q n).toNat * 10 + (d.toNat - 48)) / 10 = (valTo q n).toNat by omega, show ((valTo q n).toNat * 10 + (d.toNat - 48)) % 10 = d.toNat - 48 by omega, hup, hde]
theorem upL_zero (n : Nat) (h : 1 < (upL n).length) : ((upL n).getD 0 0 == 48) = false := by
  induction n using Nat.strongRecOn with
  | ind n ih =>
    by_cases h9 : n < 10
    · rw [upL_small h9] at h; simp at h
    · rw [upL_big h9]
      have hp : 0 < (upL (n / 10)).length := List.length_pos_iff.2 (upL_ne _)
      rw [List.getD_eq_getElem?_getD, List.getElem?_append_left hp, ← List.getD_eq_getElem?_getD]
      by_cases h8 : n / 10 < 10
      · rw [upL_small h8]
        show (48 + UInt8.ofNat (n / 10 % 10) == 48) = false
        rw [beq_eq_false_iff_ne]
        intro e
        have := congrArg UInt8.toNat e
        rw [dgt_toNat (by omega), show (48 : UInt8).toNat = 48 from rfl] at this
        omega
      · refine ih _ (by omega) ?_
        rw [upL_big h8]
        have : 0 < (upL (n / 10 / 10)).length := List.length_pos_iff.2 (upL_ne _)
        simp; omega
end Go.Proofs.Ytgfoaopfdpclhaa
