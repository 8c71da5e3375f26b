/-
  The walks of package ascii, and of its reference: what each function answers, as a plain function on lists of bytes.
-/
import Derived.Test.YtgfoaopfdpclhaaSlices
import Derived.Deep.QuietTactic
import Derived.BigQuiet
namespace Go.Proofs.Ytgfoaopfdpclhaa
open Go.RowKit
set_option linter.unusedVariables false

def lowC (c : UInt8) : UInt8 := if 65 ≤ c.toNat ∧ c.toNat ≤ 90 then UInt8.ofNat (c.toNat + 32) else c
def blankB (c : UInt8) : Bool := decide (c.toNat = 32 ∨ c.toNat = 9)
def digitB (c : UInt8) : Bool := decide (48 ≤ c.toNat ∧ c.toNat ≤ 57)
def ctlB (c : UInt8) : Bool := decide ((c.toNat < 32 ∧ c.toNat ≠ 9) ∨ c.toNat = 127)
theorem lowC_yes {c : UInt8} (h : 65 ≤ c.toNat) (h' : c.toNat ≤ 90) : ((lowC c).toNat : Int) = c.toNat + 32 := by
  unfold lowC
  rw [if_pos ⟨h, h'⟩]
  have := c.toNat_lt
  simp
  omega
theorem lowC_no {c : UInt8} (h : ¬ (65 ≤ c.toNat ∧ c.toNat ≤ 90)) : lowC c = c := by
  unfold lowC
  rw [if_neg h]

set_option maxHeartbeats 400000 in
theorem lower_any (c : UInt8) (w : World) :
    Calls Try.prog 82 #[.int .u8 c.toNat] w fun e w' => e = .returned (.int .u8 (lowC c).toNat) ∧ w = w' := by
  have hc : c.toNat < 256 := c.toNat_lt
  go_enter Try.func82, Try.ntmps82
  go_wp2
  · go_ret
    exact ⟨ret_int (by rw [lowC_yes (by omega) (by omega)]; omega), rfl⟩
  · go_ret
    exact ⟨ret_int (by rw [lowC_no (by omega)]), rfl⟩
  · go_ret
    exact ⟨ret_int (by rw [lowC_no (by omega)]), rfl⟩
set_option maxHeartbeats 400000 in
theorem blank_any (c : UInt8) (w : World) :
    Calls Try.prog 86 #[.int .u8 c.toNat] w fun e w' => e = .returned (.bool (blankB c)) ∧ w = w' := by
  have hc : c.toNat < 256 := c.toNat_lt
  go_enter Try.func86, Try.ntmps86
  go_wp2
  all_goals
    go_ret
    refine ⟨ret_bool ?_, rfl⟩
    unfold blankB
    rw [Bool.eq_iff_iff]
    simp
    omega
set_option maxHeartbeats 400000 in
theorem digit_any (c : UInt8) (w : World) :
    Calls Try.prog 93 #[.int .u8 c.toNat] w fun e w' => e = .returned (.bool (digitB c)) ∧ w = w' := by
  have hc : c.toNat < 256 := c.toNat_lt
  go_enter Try.func93, Try.ntmps93
  go_wp2
  all_goals
    go_ret
    refine ⟨ret_bool ?_, rfl⟩
    unfold digitB
    rw [Bool.eq_iff_iff]
    simp
    omega

/-- A text parted at the first byte c. -/
def cutL : List UInt8 → UInt8 → Option (List UInt8 × List UInt8)
  | [], _ => none
  | x :: r, c => if x == c then some ([], r) else (cutL r c).map fun p => (x :: p.1, p.2)
def findL (l : List UInt8) (c : UInt8) : Int := match cutL l c with | none => -1 | some p => p.1.length
theorem cut_hit (c : UInt8) (l : List UInt8) (k : Nat) (h : ∀ j, j < k → (l.getD j 0 == c) = false) (hk : (l.getD k 0 == c) = true) (hlt : k < l.length) : cutL l c = some (l.take k, l.drop (k + 1)) := by
  induction k generalizing l with
  | zero =>
    cases l with
    | nil => simp at hlt
    | cons x r => unfold cutL; rw [if_pos (by simpa using hk)]; rfl
  | succ k ih =>
    cases l with
    | nil => simp at hlt
    | cons x r =>
      have h0 := h 0 (by omega)
      rw [List.getD_cons_zero] at h0
      unfold cutL
      rw [if_neg (by rw [h0]; decide), ih r (fun j hj => h (j + 1) (by omega)) hk (by simpa using hlt)]
      rfl
theorem cut_none (c : UInt8) (l : List UInt8) (h : ∀ j, j < l.length → (l.getD j 0 == c) = false) : cutL l c = none := by
  induction l with
  | nil => rfl
  | cons x r ih =>
    have h0 := h 0 (by simp)
    rw [List.getD_cons_zero] at h0
    unfold cutL
    rw [if_neg (by rw [h0]; decide), ih (fun j hj => h (j + 1) (by simpa using hj))]
    rfl
theorem find_hit {c : UInt8} {l : List UInt8} {k : Nat} (h : ∀ j, j < k → (l.getD j 0 == c) = false) (hk : (l.getD k 0 == c) = true) (hlt : k < l.length) : findL l c = k := by
  unfold findL
  rw [cut_hit c l k h hk hlt]
  simp
  omega
theorem find_none {c : UInt8} {l : List UInt8} (h : ∀ j, j < l.length → (l.getD j 0 == c) = false) : findL l c = -1 := by
  unfold findL
  rw [cut_none c l h]
theorem all_step {p : Nat → Prop} {k : Nat} (h : ∀ j, j < k → p j) (hk : p k) : ∀ j, j < k + 1 → p j := by
  intro j hj
  by_cases e : j = k
  · rw [e]; exact hk
  · exact h j (by omega)

set_option maxHeartbeats 400000 in
theorem find_any (s : ByteArray) (c : UInt8) (w : World) (hs : s.size ≤ maxLen) :
    Calls Try.prog 64 #[.string s, .int .u8 c.toNat] w fun e w' => e = .returned (.int .i64 (findL s.toList c)) ∧ w = w' := by
  unfold maxLen at hs
  have hsz := Lib.hid (size_toList s)
  go_enter Try.func64, Try.ntmps64
  go_wp2
  go_step3
  go_wp2
  go_step3
  go_wp2

  go_loop [5, 9] (fun a i => ∃ k : Nat, k ≤ s.size ∧ i = .int .i64 k ∧ a = .int .i64 (-1) ∧ Hid (∀ j, j < k → (s.toList.getD j 0 == c) = false)) (fun _ i => s.size - (intOf i).toNat)
  case atStart => exact ⟨0, Nat.zero_le _, rfl, rfl, fun j hj => absurd hj (by omega)⟩
  case round =>
    obtain ⟨k, hk, rfl, rfl, hall⟩ := hrel
    by_cases hlt : k < s.size
    · go_wp2
      · have h : ((s[k].toNat : Int) == c.toNat) = true := by assumption
        rw [u8_beq, get_l] at h
        go_ret
        exact ⟨ret_int (find_hit hall.out h (by rw [← hsz.out]; exact hlt)).symm, rfl⟩
      · have h : ((s[k].toNat : Int) == c.toNat) = false := by assumption
        rw [u8_beq, get_l] at h
        go_round
        case rel => exact ⟨k + 1, by omega, by go_num, rfl, all_step hall.out h⟩
        case measure => simp [intOf]; omega
    · obtain rfl : k = s.size := by omega
      go_wp2
      go_ret
      exact ⟨ret_int (find_none (by rw [← hsz.out]; exact hall.out)).symm, rfl⟩

set_option maxHeartbeats 400000 in
theorem refFind_any (s : ByteArray) (c : UInt8) (w : World) (hs : s.size ≤ maxLen) :
    Calls Try.prog 53 #[.string s, .int .u8 c.toNat] w fun e w' => e = .returned (.int .i64 (findL s.toList c)) ∧ w = w' := by
  unfold maxLen at hs
  have hsz := Lib.hid (size_toList s)
  go_enter Try.func53, Try.ntmps53
  go_wp2
  go_loop [5] (fun i => ∃ k : Nat, k ≤ s.size ∧ i = .int .i64 k ∧ Hid (∀ j, j < k → (s.toList.getD j 0 == c) = false)) (fun i => s.size - (intOf i).toNat)
  case atStart => exact ⟨0, Nat.zero_le _, rfl, fun j hj => absurd hj (by omega)⟩
  case round =>
    obtain ⟨k, hk, rfl, hall⟩ := hrel
    by_cases hlt : k < s.size
    · go_wp2
      · have h : ((s[k].toNat : Int) == c.toNat) = true := by assumption
        rw [u8_beq, get_l] at h
        go_ret
        exact ⟨ret_int (find_hit hall.out h (by rw [← hsz.out]; exact hlt)).symm, rfl⟩
      · have h : ((s[k].toNat : Int) == c.toNat) = false := by assumption
        rw [u8_beq, get_l] at h
        go_round
        case rel => exact ⟨k + 1, by omega, by go_num, all_step hall.out h⟩
        case measure => simp [intOf]; omega
    · obtain rfl : k = s.size := by omega
      go_wp2
      go_ret
      exact ⟨ret_int (find_none (by rw [← hsz.out]; exact hall.out)).symm, rfl⟩

/-- With how many digits a text begins. -/
def digN : List UInt8 → Nat
  | [] => 0
  | c :: r => if digitB c then digN r + 1 else 0
theorem digN_le (l : List UInt8) : digN l ≤ l.length := by
  induction l with
  | nil => simp [digN]
  | cons c r ih => unfold digN; split <;> simp <;> omega
theorem digN_all (l : List UInt8) (j : Nat) (h : j < digN l) : digitB (l.getD j 0) = true := by
  induction l generalizing j with
  | nil => simp [digN] at h
  | cons c r ih =>
    unfold digN at h
    split at h
    · cases j with
      | zero => simpa
      | succ j => exact ih j (by omega)
    · omega
theorem digN_end (l : List UInt8) (k : Nat) (h : ∀ j, j < k → digitB (l.getD j 0) = true) (hk : k = l.length ∨ (k < l.length ∧ digitB (l.getD k 0) = false)) : digN l = k := by
  induction l generalizing k with
  | nil => rcases hk with hk | hk; (rw [hk]; rfl); simp at hk
  | cons c r ih =>
    unfold digN
    cases k with
    | zero =>
      rcases hk with hk | hk
      · simp at hk
      · rw [if_neg (by simpa using hk.2)]
    | succ k =>
      rw [if_pos (by simpa using h 0 (by omega)), ih k (fun j hj => h (j + 1) (by omega))]
      simpa using hk
theorem digN_take (l : List UInt8) (k : Nat) (h : k < l.length) : digN (l.take (k + 1)) = if digN (l.take k) = k ∧ digitB (l.getD k 0) = true then k + 1 else digN (l.take k) := by
  induction l generalizing k with
  | nil => simp at h
  | cons c r ih =>
    cases k with
    | zero =>
      cases hc : digitB c <;> simp [digN, hc]
    | succ k =>
      rw [List.take_succ_cons, List.take_succ_cons, List.getD_cons_succ]
      simp only [digN]
      rw [ih k (by simpa using h)]
      by_cases hc : digitB c = true
      · simp only [hc, if_true]
        by_cases h2 : digN (r.take k) = k ∧ digitB (r.getD k 0) = true
        · rw [if_pos h2, if_pos ⟨by omega, h2.2⟩]
        · rw [if_neg h2, if_neg (fun e => h2 ⟨by omega, e.2⟩)]
      · simp [hc]

set_option maxHeartbeats 400000 in
theorem digits_any (s : ByteArray) (w : World) (hs : s.size ≤ maxLen) :
    Calls Try.prog 76 #[.string s] w fun e w' => e = .returned (.int .i64 (digN s.toList)) ∧ w = w' := by
  unfold maxLen at hs
  have hsz := Lib.hid (size_toList s)
  go_enter Try.func76, Try.ntmps76
  go_wp2
  go_loop [3] (fun i => ∃ k : Nat, k ≤ s.size ∧ i = .int .i64 k ∧ Hid (∀ j, j < k → digitB (s.toList.getD j 0) = true)) (fun i => s.size - (intOf i).toNat)
  case atStart => exact ⟨0, Nat.zero_le _, rfl, fun j hj => absurd hj (by omega)⟩
  case round =>
    obtain ⟨k, hk, rfl, hall⟩ := hrel
    by_cases hlt : k < s.size
    · have hlti : (k : Int) < s.size := by omega
      have hx := Lib.hid (get_l s k hlt)
      by_cases hd : digitB s[k] = true
      · go_wp2_with (go_at_call 93; refine (digit_any _ _).mono ?_; rintro e w' ⟨rfl, rfl⟩)
        go_round
        case rel => exact ⟨k + 1, by omega, by go_num, all_step hall.out (by rw [← hx.out]; exact hd)⟩
        case measure => simp [intOf]; omega
      · have hd' : digitB s[k] = false := by simpa using hd
        clear hd
        go_wp2_with (go_at_call 93; refine (digit_any _ _).mono ?_; rintro e w' ⟨rfl, rfl⟩)
        go_ret
        exact ⟨ret_int (by rw [digN_end s.toList k hall.out (Or.inr ⟨by rw [← hsz.out]; exact hlt, by rw [← hx.out]; exact hd'⟩)]), rfl⟩
    · obtain rfl : k = s.size := by omega
      go_wp2
      go_ret
      exact ⟨ret_int (by rw [digN_end s.toList s.size hall.out (Or.inl hsz.out)]), rfl⟩

set_option maxHeartbeats 400000 in
theorem refDigits_any (s : ByteArray) (w : World) (hs : s.size ≤ maxLen) :
    Calls Try.prog 58 #[.string s] w fun e w' => e = .returned (.int .i64 (digN s.toList)) ∧ w = w' := by
  unfold maxLen at hs
  have hsz := Lib.hid (size_toList s)
  go_enter Try.func58, Try.ntmps58
  go_wp2
  go_loop [3, 4] (fun n i => ∃ k : Nat, k ≤ s.size ∧ i = .int .i64 k ∧ n = .int .i64 (digN (s.toList.take k))) (fun _ i => s.size - (intOf i).toNat)
  case atStart => exact ⟨0, Nat.zero_le _, rfl, rfl⟩
  case round =>
    obtain ⟨k, hk, rfl, rfl⟩ := hrel
    have hle := digN_le (s.toList.take k)
    rw [List.length_take] at hle
    by_cases hlt : k < s.size
    · have hlti : (k : Int) < s.size := by omega
      have hx := Lib.hid (get_l s k hlt)
      have ht := Lib.hid (digN_take s.toList k (by rw [← hsz.out]; exact hlt))
      by_cases h1 : digN (s.toList.take k) = k
      · have h1' := Lib.hid h1
        rw [h1]
        clear h1 hle
        go_wp2
        all_goals
          go_round
          case rel => exact ⟨k + 1, by omega, by go_num, by rw [ht.out, h1'.out, ← hx.out]; unfold digitB; first | rw [if_pos ⟨rfl, decide_eq_true (by omega)⟩]; go_num | rw [if_neg (by simp; omega)]⟩
          case measure => simp [intOf]; omega
      · have e1 : ((digN (s.toList.take k) : Int) == k) = false := beq_eq_false_iff_ne.2 (by omega)
        have h1' := Lib.hid h1
        clear h1
        go_wp2
        all_goals
          go_round
          case rel => exact ⟨k + 1, by omega, by go_num, by rw [ht.out, if_neg (fun e => h1'.out e.1)]⟩
          case measure => simp [intOf]; omega
    · obtain rfl : k = s.size := by omega
      go_wp2
      go_ret
      exact ⟨ret_int (by rw [hsz.out, List.take_length]), rfl⟩

theorem any_hit {p : UInt8 → Bool} {l : List UInt8} {k : Nat} (hk : k < l.length) (h : p (l.getD k 0) = true) : l.any p = true := by
  rw [List.any_eq_true]
  refine ⟨l.getD k 0, ?_, h⟩
  rw [List.getD_eq_getElem?_getD, List.getElem?_eq_getElem hk]
  exact List.getElem_mem hk
theorem any_step {p : UInt8 → Bool} {l : List UInt8} {k : Nat} (hk : k < l.length) : (l.take (k + 1)).any p = ((l.take k).any p || p (l.getD k 0)) := by
  rw [take_succ_getD l k hk, List.any_append]
  simp

set_option maxHeartbeats 400000 in
theorem control_any (s : ByteArray) (w : World) (hs : s.size ≤ maxLen) :
    Calls Try.prog 46 #[.string s] w fun e w' => e = .returned (.bool (s.toList.any ctlB)) ∧ w = w' := by
  unfold maxLen at hs
  have hsz := Lib.hid (size_toList s)
  go_enter Try.func46, Try.ntmps46
  go_wp2
  go_loop [6] (fun i => ∃ k : Nat, k ≤ s.size ∧ i = .int .i64 k ∧ Hid ((s.toList.take k).any ctlB = false)) (fun i => s.size - (intOf i).toNat)
  case atStart => exact ⟨0, Nat.zero_le _, rfl, rfl⟩
  case round =>
    obtain ⟨k, hk, rfl, hall⟩ := hrel
    by_cases hlt : k < s.size
    · have hx := Lib.hid (get_l s k hlt)
      have ht := Lib.hid (any_step (p := ctlB) (l := s.toList) (by rw [← hsz.out]; exact hlt : k < s.toList.length))
      have hh := Lib.hid (any_hit (p := ctlB) (l := s.toList) (by rw [← hsz.out]; exact hlt : k < s.toList.length))
      go_wp2
      all_goals first
        | (go_ret; exact ⟨ret_bool (hh.out (by rw [← hx.out]; exact decide_eq_true (by (try simp only [beq_iff_eq] at *); omega))).symm, rfl⟩)
        | (go_round
           case rel => exact ⟨k + 1, by omega, by go_num, by show _ = _; rw [ht.out, hall.out, ← hx.out]; exact decide_eq_false (by (try simp only [beq_eq_false_iff_ne] at *); omega)⟩
           case measure => simp [intOf]; omega)
    · obtain rfl : k = s.size := by omega
      go_wp2
      go_ret
      exact ⟨ret_bool (by have := hall.out; rw [hsz.out, List.take_length] at this; rw [this]), rfl⟩
end Go.Proofs.Ytgfoaopfdpclhaa
