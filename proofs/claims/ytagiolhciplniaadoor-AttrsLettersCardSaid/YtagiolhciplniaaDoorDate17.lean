/-
  The reference's parser walked, first part: tokens, digits, values, months.
-/
import Derived.Test.YtagiolhciplniaaDoorDate16
namespace Go.Proofs.YtagiolhciplniaaDoor
open Go.RowKit
set_option linter.unusedVariables false

theorem tok_more {l cur : List UInt8} {k : Nat} (hk : k < l.length) (h : delimB (l.getD k 0) = false) : tokGo cur (l.drop k) = tokGo (cur ++ [l.getD k 0]) (l.drop (k + 1)) := by
  rw [drop_getD l k hk, tokGo, if_neg (by rw [h]; decide)]
theorem tok_nil {l : List UInt8} {k : Nat} (hk : k < l.length) (h : delimB (l.getD k 0) = true) : tokGo [] (l.drop k) = tokGo [] (l.drop (k + 1)) := by
  rw [drop_getD l k hk, tokGo, if_pos h]; rfl
theorem tok_cons {l : List UInt8} {c : UInt8} {cur : List UInt8} {k : Nat} (hk : k < l.length) (h : delimB (l.getD k 0) = true) : tokGo (c :: cur) (l.drop k) = (c :: cur) :: tokGo [] (l.drop (k + 1)) := by
  rw [drop_getD l k hk, tokGo, if_pos h]; rfl
theorem extract_one (s : ByteArray) (k : Nat) (h : k < s.size) : s.extract k (k + 1) = S [s.toList.getD k 0] := by
  rw [extract_S, show k + 1 - k = 1 by omega, drop_getD _ _ (by rw [← size_toList]; exact h)]
  rfl

set_option maxHeartbeats 2000000 in
theorem refTokens_any (s : ByteArray) (w : World) (hs : s.size ≤ 4294967296) :
    Calls Tryd.prog 37 #[.string s] w fun e w' => ∃ A cp, e = .returned (.slice A (tokensL s.toList).length cp) ∧
      w'.ownsRow w.heap.size 9 1 (.slice A (tokensL s.toList).length cp) (tokensL s.toList).length ((tokensL s.toList).map strV) ∧ Below w.heap.size w w' := by
  obtain ⟨i0, hi, hz0, hz1, hz2⟩ := info_parts Tryd.info9
  have hsz := Lib.hid (size_toList s)
  have htl : (tokensL s.toList).length ≤ s.size + 1 := by unfold tokensL; rw [size_toList]; exact tokGo_len _ _
  have hst := Lib.hid (show tokensL s.toList = [] ++ tokGo [] (s.toList.drop 0) by simp [tokensL])
  go_enter Tryd.func37, Tryd.ntmps37
  go_wp2
  go_loopw [3, 4, 5] (fun v t i wr => ∃ (k : Nat) (cur : List UInt8) (acc : List (List UInt8)), i = .int .i64 k ∧ t = .string (S cur) ∧ k ≤ s.size ∧ cur.length ≤ k ∧ wr.ownsRow w.heap.size 9 1 v acc.length (acc.map strV) ∧ Below w.heap.size w wr ∧ w.heap.size ≤ wr.heap.size ∧ Hid (tokensL s.toList = acc ++ tokGo cur (s.toList.drop k))) (fun _ _ i _ => s.size + 1 - (intOf i).toNat)
  case atStart => exact ⟨0, [], [], rfl, rfl, Nat.zero_le _, Nat.le_refl _, World.ownsRow_lit w #[] 0 (Nat.le_refl _) (by unfold maxLen; omega) rfl, (Below.refl _ _).alloc (Nat.le_refl _) _, by simp, hst.out⟩
  case round =>
    obtain ⟨k, cur, acc, rfl, rfl, hk, hcl, hown, hbel, hsz', hin⟩ := hrel
    by_cases hlt : k < s.size
    · have hlti : (k : Int) < s.size := by omega
      have hle : (k : Int) ≤ s.size := by omega
      have hx := Lib.hid (get_l s k hlt)
      have hxe := Lib.hid (extract_one s k hlt)
      cases hd : delimB s[k]
      · have hD := Lib.hid hd
        have hst2 := Lib.hid (show tokensL s.toList = acc ++ tokGo (cur ++ [s.toList.getD k 0]) (s.toList.drop (k + 1)) by
          rw [hin.out, tok_more (by rw [← hsz.out]; exact hlt) (by rw [← hx.out]; exact hd)])
        clear hd hin
        go_wp2_with fail
        refine (refDelim_any _ _).mono ?_
        rintro e w' ⟨rfl, rfl⟩
        rw [hD.out]
        have hcc : (S cur).size + 1 ≤ maxLen := by rw [S_size]; unfold maxLen; omega
        go_wp2
        rw [hxe.out, S_append]
        go_roundw
        case rel => exact ⟨k + 1, cur ++ [s.toList.getD k 0], acc, by go_num, rfl, by omega, by simp; omega, hown, hbel, hsz', hst2.out⟩
        case measure => simp [intOf]; omega
      · have hD := Lib.hid hd
        cases cur with
        | nil =>
          have hst2 := Lib.hid (show tokensL s.toList = acc ++ tokGo [] (s.toList.drop (k + 1)) by
            rw [hin.out, tok_nil (by rw [← hsz.out]; exact hlt) (by rw [← hx.out]; exact hd)])
          clear hd hin
          go_wp2_with fail
          refine (refDelim_any _ _).mono ?_
          rintro e w' ⟨rfl, rfl⟩
          rw [hD.out]
          go_wp2
          go_roundw
          case rel => exact ⟨k + 1, [], acc, by go_num, rfl, by omega, by simp, hown, hbel, hsz', hst2.out⟩
          case measure => simp [intOf]; omega
        | cons c cr =>
          have hst2 := Lib.hid (show tokensL s.toList = (acc ++ [c :: cr]) ++ tokGo [] (s.toList.drop (k + 1)) by
            rw [hin.out, tok_cons (by rw [← hsz.out]; exact hlt) (by rw [← hx.out]; exact hd), List.append_assoc]; rfl)
          have hacc : acc.length + 1 ≤ s.size + 1 := by
            have h1 := congrArg List.length hst2.out
            simp at h1
            omega
          clear hd hin
          go_wp2_with fail
          refine (refDelim_any _ _).mono ?_
          rintro e w' ⟨rfl, rfl⟩
          rw [hD.out]
          go_wp2_with (first
            | (at_builtin; refine wpList_push rfl _ _ 58 rfl w.heap.size 9 i0 (.string ByteArray.empty) 1 16 Tryd.underlying58 hi hz0 hz1 hz2 rfl (by decide) _ _ _ rfl hown _ _ rfl rfl rfl ?c1 ?c2 ?c3 hsz' hbel ?_))
          case c1 => exact rfl
          case c2 => unfold maxLen; omega
          case c3 => omega
          intro v' w' hown' hg hbel' hsz2
          go_wp2
          go_roundw
          case rel =>
            refine ⟨k + 1, [], acc ++ [c :: cr], by go_num, rfl, by omega, by simp, ?_, hbel', hsz2, hst2.out⟩
            rw [List.map_append, List.length_append]
            exact hown'
          case measure => simp [intOf]; omega
    · obtain rfl : k = s.size := by omega
      have hni : decide ((s.size : Int) < s.size) = false := decide_eq_false (by omega)
      have hdr : s.toList.drop s.size = [] := by rw [hsz.out, List.drop_length]
      cases cur with
      | nil =>
        have hst2 := Lib.hid (show tokensL s.toList = acc by rw [hin.out, hdr]; simp [tokGo])
        clear hin hdr
        go_wp2
        go_ret
        rw [hst2.out]
        obtain ⟨A, cp, rfl⟩ := own_form hown
        exact ⟨A, cp, rfl, hown, hbel⟩
      | cons c cr =>
        have hst2 := Lib.hid (show tokensL s.toList = acc ++ [c :: cr] by rw [hin.out, hdr]; simp [tokGo])
        have hacc : acc.length + 1 ≤ s.size + 1 := by
          have h1 := congrArg List.length hst2.out
          simp at h1
          omega
        clear hin hdr
        go_wp2_with (first
          | (at_builtin; refine wpList_push rfl _ _ 58 rfl w.heap.size 9 i0 (.string ByteArray.empty) 1 16 Tryd.underlying58 hi hz0 hz1 hz2 rfl (by decide) _ _ _ rfl hown _ _ rfl rfl rfl ?c1 ?c2 ?c3 hsz' hbel ?_))
        case c1 => exact rfl
        case c2 => unfold maxLen; omega
        case c3 => omega
        intro v' w' hown' hg hbel' hsz2
        go_wp2
        go_ret
        rw [hst2.out]
        obtain ⟨A, cp, rfl⟩ := own_form hown'
        refine ⟨A, cp, by simp, ?_, hbel'⟩
        rw [List.map_append, List.length_append]
        exact hown'

def digitsB (l : List UInt8) (a b : Int) : Bool := decide (a ≤ (digN l : Int)) && decide ((digN l : Int) ≤ b)
theorem digits_field (l : List UInt8) (a b : Int) : (fieldT l a b).2.2 = digitsB l a b := by
  unfold fieldT digitsB
  by_cases h : (digN l : Int) < a ∨ b < (digN l : Int)
  · rw [if_pos h]
    rcases h with h | h
    · rw [decide_eq_false (by omega)]; rfl
    · rw [decide_eq_false (by omega : ¬ (digN l : Int) ≤ b)]; simp
  · rw [if_neg h, decide_eq_true (by omega), decide_eq_true (by omega)]; rfl

set_option maxHeartbeats 1000000 in
theorem refDigits7_any (s : ByteArray) (a b : Int) (w : World) (hs : s.size ≤ maxLen) :
    Calls Tryd.prog 39 #[.string s, .int .i64 a, .int .i64 b] w fun e w' => e = .returned (.bool (digitsB s.toList a b)) ∧ w = w' := by
  have hsz := Lib.hid (size_toList s)
  have hdl := digN_le s.toList
  rw [← size_toList] at hdl
  have hr := Lib.hid (show digitsB s.toList a b = (decide (a ≤ (digN s.toList : Int)) && decide ((digN s.toList : Int) ≤ b)) from rfl)
  go_enter Tryd.func39, Tryd.ntmps39
  go_wp2_with fail
  refine (refDigits_any _ _ hs).mono ?_
  rintro e w' ⟨rfl, rfl⟩
  generalize digN s.toList = k at *
  go_wp2
  all_goals
    go_ret
    exact ⟨ret_bool (by rw [hr.out]; first | (simp [*]; done) | (simp [*]; omega)), rfl⟩
def valueI (l : List UInt8) : Int := numV (l.take (digN l))
set_option maxHeartbeats 1000000 in
theorem value_any (s : ByteArray) (w : World) (hs : s.size ≤ maxLen) :
    Calls Tryd.prog 40 #[.string s] w fun e w' => e = .returned (.int .i64 (valueI s.toList)) ∧ w = w' := by
  have hdl := digN_le s.toList
  rw [← size_toList] at hdl
  have hx := Lib.hid (extract_to s (digN s.toList))
  have hr := Lib.hid (show valueI s.toList = numV (s.toList.take (digN s.toList)) from rfl)
  have hz : (S (s.toList.take (digN s.toList))).size ≤ maxLen := by rw [S_size, List.length_take, ← size_toList]; omega
  go_enter Tryd.func40, Tryd.ntmps40
  go_wp2_with fail
  refine (refDigits_any _ _ hs).mono ?_
  rintro e w' ⟨rfl, rfl⟩
  generalize digN s.toList = k at *
  have hki : (k : Int) ≤ s.size := by omega
  go_wp2_with fail
  rw [hx.out]
  refine (refNumber_any _ _ hz).mono ?_
  rintro e w' ⟨rfl, rfl⟩
  rw [S_toList]
  go_wp2
  go_ret
  exact ⟨ret_int hr.out.symm, rfl⟩
end Go.Proofs.YtagiolhciplniaaDoor
