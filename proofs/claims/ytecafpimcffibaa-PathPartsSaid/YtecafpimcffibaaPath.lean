/-
  The walks of package path, and of its reference: what each function answers, as a plain function on lists of bytes.
-/
import Derived.Test.YtecafpimcffibaaBase
namespace Go.Proofs.Ytecafpimcffibaa
open Go.RowKit
set_option linter.unusedVariables false

/-- The last place below k that holds c; -1: there is none. -/
def lastTo (l : List UInt8) (c : UInt8) : Nat → Int
  | 0 => -1
  | k + 1 => if l.getD k 0 == c then (k : Int) else lastTo l c k
theorem lastTo_hit {l : List UInt8} {c : UInt8} {k : Nat} (h : (l.getD k 0 == c) = true) : lastTo l c (k + 1) = k := by rw [lastTo, if_pos h]
theorem lastTo_miss {l : List UInt8} {c : UInt8} {k : Nat} (h : (l.getD k 0 == c) = false) : lastTo l c (k + 1) = lastTo l c k := by rw [lastTo, if_neg (by rw [h]; decide)]
theorem lastTo_lt (l : List UInt8) (c : UInt8) (k : Nat) : -1 ≤ lastTo l c k ∧ lastTo l c k < k := by
  induction k with
  | zero => simp [lastTo]
  | succ k ih => unfold lastTo; split <;> omega

set_option maxHeartbeats 400000 in
theorem hasPrefix0 (s t : ByteArray) (w : World) (hs : s.size ≤ maxLen) (ht : t.size ≤ maxLen) :
    Calls Try.prog 45 #[.string s, .string t] w fun e w' => e = .returned (.bool (Lib.hasPrefix s.toList t.toList)) ∧ w = w' := by
  unfold maxLen at hs ht
  go_enter Try.func45, Try.ntmps45
  go_wp2
  all_goals
    go_ret
    refine ⟨ret_bool ?_, rfl⟩
    rw [← hasPrefix_raw]
    simp [*]

set_option maxHeartbeats 400000 in
theorem hasPrefix_any (s t : ByteArray) (w : World) (hs : s.size ≤ maxLen) (ht : t.size ≤ maxLen) :
    Calls Try.prog 37 #[.string s, .string t] w fun e w' => e = .returned (.bool (Lib.hasPrefix s.toList t.toList)) ∧ w = w' := by
  go_enter Try.func37, Try.ntmps37
  go_wp2_with (go_at_call 45; refine (hasPrefix0 _ _ _ hs ht).mono ?_; rintro e w' ⟨rfl, rfl⟩)
  go_ret
  exact ⟨rfl, rfl⟩

set_option maxHeartbeats 400000 in
theorem hasSuffix0 (s t : ByteArray) (w : World) (hs : s.size ≤ maxLen) (ht : t.size ≤ maxLen) :
    Calls Try.prog 46 #[.string s, .string t] w fun e w' => e = .returned (.bool (Lib.hasSuffix s.toList t.toList)) ∧ w = w' := by
  unfold maxLen at hs ht
  go_enter Try.func46, Try.ntmps46
  go_wp2
  all_goals
    go_ret
    refine ⟨ret_bool ?_, rfl⟩
    rw [← hasSuffix_raw]
    simp [*]

set_option maxHeartbeats 400000 in
theorem hasSuffix_any (s t : ByteArray) (w : World) (hs : s.size ≤ maxLen) (ht : t.size ≤ maxLen) :
    Calls Try.prog 38 #[.string s, .string t] w fun e w' => e = .returned (.bool (Lib.hasSuffix s.toList t.toList)) ∧ w = w' := by
  go_enter Try.func38, Try.ntmps38
  go_wp2_with (go_at_call 46; refine (hasSuffix0 _ _ _ hs ht).mono ?_; rintro e w' ⟨rfl, rfl⟩)
  go_ret
  exact ⟨rfl, rfl⟩

set_option maxHeartbeats 400000 in
theorem lastIndexByte0 (s : ByteArray) (c : UInt8) (w : World) (hs : s.size ≤ maxLen) :
    Calls Try.prog 44 #[.string s, .int .u8 c.toNat] w fun e w' => e = .returned (.int .i64 (lastTo s.toList c s.size)) ∧ w = w' := by
  unfold maxLen at hs
  go_enter Try.func44, Try.ntmps44
  go_wp2
  go_loop [5] (fun i => ∃ k : Nat, k ≤ s.size ∧ i = .int .i64 ((k : Int) - 1) ∧ Hid (lastTo s.toList c s.size = lastTo s.toList c k)) (fun i => (intOf i + 1).toNat)
  case atStart => exact ⟨s.size, Nat.le_refl _, rfl, rfl⟩
  case round =>
    obtain ⟨k, hk, rfl, hL⟩ := hrel
    by_cases hlt : k = 0
    · subst hlt
      go_wp2
      go_ret
      exact ⟨ret_int (by rw [hL.out]; rfl), rfl⟩
    · obtain ⟨k, rfl⟩ : ∃ j, k = j + 1 := ⟨k - 1, by omega⟩
      go_wp2
      · have h : ((s[k].toNat : Int) == c.toNat) = true := by assumption
        rw [u8_beq, get_l] at h
        go_ret
        exact ⟨ret_int (by rw [hL.out, lastTo_hit h]), rfl⟩
      · have h : ((s[k].toNat : Int) == c.toNat) = false := by assumption
        rw [u8_beq, get_l] at h
        go_round
        case rel => exact ⟨k, by omega, rfl, hL.out.trans (lastTo_miss h)⟩
        case measure => simp [intOf]

set_option maxHeartbeats 400000 in
theorem lastIndexByte_any (s : ByteArray) (c : UInt8) (w : World) (hs : s.size ≤ maxLen) :
    Calls Try.prog 36 #[.string s, .int .u8 c.toNat] w fun e w' => e = .returned (.int .i64 (lastTo s.toList c s.size)) ∧ w = w' := by
  go_enter Try.func36, Try.ntmps36
  go_wp2_with (go_at_call 44; refine (lastIndexByte0 _ _ _ hs).mono ?_; rintro e w' ⟨rfl, rfl⟩)
  go_ret
  exact ⟨rfl, rfl⟩

/-- What package path answers as a path's directory. -/
def dirOf (l : List UInt8) : List UInt8 := if Lib.hasPrefix l [47] = false ∨ lastTo l 47 l.length = 0 then [47] else l.take (lastTo l 47 l.length).toNat

theorem hasPrefix_get {l : List UInt8} {c : UInt8} (h : Lib.hasPrefix l [c] = true) : 0 < l.length ∧ (l.getD 0 0 == c) = true := by
  cases l with
  | nil => simp [Lib.hasPrefix] at h
  | cons x l =>
    have h' : c = x := by simpa [Lib.hasPrefix] using h
    subst h'
    simp
theorem lastTo_ge {l : List UInt8} {c : UInt8} {i : Nat} (h : (l.getD i 0 == c) = true) {k : Nat} (hi : i < k) : (i : Int) ≤ lastTo l c k := by
  induction k with
  | zero => omega
  | succ k ih =>
    unfold lastTo
    split
    · omega
    · rename_i hn
      by_cases e : i = k
      · subst e; exact absurd h hn
      · exact ih (by omega)

set_option maxHeartbeats 400000 in
theorem default_any (s : ByteArray) (w : World) (hs : s.size ≤ maxLen) :
    Calls Try.prog 12 #[.string s] w fun e w' => e = .returned (.string (S (dirOf s.toList))) ∧ w = w' := by
  have hb := lastTo_lt s.toList 47 s.size
  have hs' := hs
  unfold maxLen at hs'
  have hsz := Lib.hid (size_toList s)
  by_cases hp : Lib.hasPrefix s.toList [47] = true
  · obtain ⟨h0, h1⟩ := hasPrefix_get hp
    have h2 := lastTo_ge h1 (k := s.size) (by rw [hsz.out]; exact h0)
    by_cases h3 : (lastTo s.toList 47 s.size == 0) = true
    · have hr := Lib.hid (show dirOf s.toList = [47] by unfold dirOf; rw [if_pos (Or.inr (by rw [← hsz.out]; simpa using h3))])
      clear h0 h1
      go_enter Try.func12, Try.ntmps12
      go_wp2_with (first | (go_at_call 36; refine (lastIndexByte_any s 47 _ hs).mono ?_; rintro e w' ⟨rfl, rfl⟩) | (go_at_call 37; refine (hasPrefix_any s _ _ hs (by decide)).mono ?_; rintro e w' ⟨rfl, rfl⟩))
      go_ret
      exact ⟨ret_str (by rw [hr.out]; rfl), rfl⟩
    · have h3' : (lastTo s.toList 47 s.size == 0) = false := by simpa using h3
      have hr := Lib.hid (show dirOf s.toList = s.toList.take (lastTo s.toList 47 s.size).toNat by unfold dirOf; rw [if_neg (by rw [← hsz.out, hp]; simpa using h3), ← hsz.out])
      clear h0 h1 h3
      go_enter Try.func12, Try.ntmps12
      go_wp2_with (first | (go_at_call 36; refine (lastIndexByte_any s 47 _ hs).mono ?_; rintro e w' ⟨rfl, rfl⟩) | (go_at_call 37; refine (hasPrefix_any s _ _ hs (by decide)).mono ?_; rintro e w' ⟨rfl, rfl⟩))
      go_ret
      exact ⟨ret_str (by rw [hr.out, extract_to]), rfl⟩
  · have hp' : Lib.hasPrefix s.toList [47] = false := by simpa using hp
    have hr := Lib.hid (show dirOf s.toList = [47] by unfold dirOf; rw [if_pos (Or.inl hp')])
    clear hp
    go_enter Try.func12, Try.ntmps12
    go_wp2_with (first | (go_at_call 36; refine (lastIndexByte_any s 47 _ hs).mono ?_; rintro e w' ⟨rfl, rfl⟩) | (go_at_call 37; refine (hasPrefix_any s _ _ hs (by decide)).mono ?_; rintro e w' ⟨rfl, rfl⟩))
    go_ret
    exact ⟨ret_str (by rw [hr.out]; rfl), rfl⟩

/-- Does a path fit a cookie's path? -/
def fitB (p c : List UInt8) : Bool := p == c || (Lib.hasPrefix p c && (Lib.hasSuffix c [47] || p.getD c.length 0 == 47))

set_option maxHeartbeats 400000 in
theorem match_any (s t : ByteArray) (w : World) (hs : s.size ≤ maxLen) (ht : t.size ≤ maxLen) :
    Calls Try.prog 15 #[.string s, .string t] w fun e w' => e = .returned (.bool (fitB s.toList t.toList)) ∧ w = w' := by
  have hs' := hs
  have ht' := ht
  unfold maxLen at hs' ht'
  have hsz := Lib.hid (size_toList s)
  have htz := Lib.hid (size_toList t)
  by_cases h1 : (s.toList == t.toList) = true
  · go_enter Try.func15, Try.ntmps15
    go_wp2
    go_ret
    exact ⟨ret_bool (by unfold fitB; simp [h1]), rfl⟩
  have h1' : (s.toList == t.toList) = false := by simpa using h1
  by_cases h2 : Lib.hasPrefix s.toList t.toList = true
  · have hlt : t.size < s.size := by
      rw [hsz.out, htz.out]
      have hpre : t.toList <+: s.toList := by simpa [Lib.hasPrefix] using h2
      rcases Nat.lt_or_ge t.toList.length s.toList.length with h | h
      · exact h
      · exact absurd (hpre.eq_of_length_le h).symm (by simpa using h1)
    have hr := Lib.hid (show fitB s.toList t.toList = (Lib.hasSuffix t.toList [47] || s.toList.getD t.toList.length 0 == 47) by unfold fitB; rw [h1', h2]; rfl)
    clear h1
    by_cases h3 : Lib.hasSuffix t.toList [47] = true
    · go_enter Try.func15, Try.ntmps15
      go_wp2_with (first | (go_at_call 37; refine (hasPrefix_any s t _ hs ht).mono ?_; rintro e w' ⟨rfl, rfl⟩) | (go_at_call 38; refine (hasSuffix_any t _ _ ht (by decide)).mono ?_; rintro e w' ⟨rfl, rfl⟩))
      go_ret
      exact ⟨ret_bool (by rw [hr.out, h3]; rfl), rfl⟩
    · have h3' : Lib.hasSuffix t.toList [47] = false := by simpa using h3
      clear h3
      go_enter Try.func15, Try.ntmps15
      go_wp2_with (first | (go_at_call 37; refine (hasPrefix_any s t _ hs ht).mono ?_; rintro e w' ⟨rfl, rfl⟩) | (go_at_call 38; refine (hasSuffix_any t _ _ ht (by decide)).mono ?_; rintro e w' ⟨rfl, rfl⟩))
      go_ret
      exact ⟨ret_bool (by rw [hr.out, h3', get_l, ← htz.out]; exact u8_beq _ 47), rfl⟩
  · have h2' : Lib.hasPrefix s.toList t.toList = false := by simpa using h2
    clear h1 h2
    go_enter Try.func15, Try.ntmps15
    go_wp2_with (go_at_call 37; refine (hasPrefix_any s t _ hs ht).mono ?_; rintro e w' ⟨rfl, rfl⟩)
    go_ret
    exact ⟨ret_bool (by unfold fitB; rw [h1', h2']; rfl), rfl⟩

/-- How many places below k hold c. -/
def countTo (l : List UInt8) (c : UInt8) : Nat → Nat
  | 0 => 0
  | k + 1 => if l.getD k 0 == c then countTo l c k + 1 else countTo l c k
theorem countTo_le (l : List UInt8) (c : UInt8) (k : Nat) : countTo l c k ≤ k := by
  induction k with
  | zero => simp [countTo]
  | succ k ih => unfold countTo; split <;> omega
theorem countTo_hit {l : List UInt8} {c : UInt8} {k : Nat} (h : (l.getD k 0 == c) = true) : countTo l c (k + 1) = countTo l c k + 1 := by rw [countTo, if_pos h]
theorem countTo_miss {l : List UInt8} {c : UInt8} {k : Nat} (h : (l.getD k 0 == c) = false) : countTo l c (k + 1) = countTo l c k := by rw [countTo, if_neg (by rw [h]; decide)]

set_option maxHeartbeats 400000 in
theorem depth_any (s : ByteArray) (w : World) (hs : s.size ≤ maxLen) :
    Calls Try.prog 14 #[.string s] w fun e w' => e = .returned (.int .i64 (countTo s.toList 47 s.size)) ∧ w = w' := by
  unfold maxLen at hs
  go_enter Try.func14, Try.ntmps14
  go_wp2
  go_loop [3, 7] (fun n i => ∃ k : Nat, k ≤ s.size ∧ i = .int .i64 k ∧ n = .int .i64 (countTo s.toList 47 k)) (fun _ i => s.size - (intOf i).toNat)
  case atStart => exact ⟨0, Nat.zero_le _, rfl, rfl⟩
  case round =>
    obtain ⟨k, hk, rfl, rfl⟩ := hrel
    have hc := countTo_le s.toList 47 k
    by_cases hlt : k < s.size
    · go_wp2
      · have h : ((s[k].toNat : Int) == 47) = true := by assumption
        rw [get_l] at h
        have h' := (u8_beq (s.toList.getD k 0) 47).symm.trans h
        go_round
        case rel => exact ⟨k + 1, by omega, by go_num, by rw [countTo_hit h']; go_num⟩
        case measure => simp [intOf]; omega
      · have h : ((s[k].toNat : Int) == 47) = false := by assumption
        rw [get_l] at h
        have h' := (u8_beq (s.toList.getD k 0) 47).symm.trans h
        go_round
        case rel => exact ⟨k + 1, by omega, by go_num, by rw [countTo_miss h']⟩
        case measure => simp [intOf]; omega
    · obtain rfl : k = s.size := by omega
      go_wp2
      go_ret
      exact ⟨rfl, rfl⟩

/-- What the reference answers as a path's directory. -/
def refDir (l : List UInt8) : List UInt8 := if lastTo l 47 l.length ≤ 0 ∨ (l.getD 0 0 == 47) = false then [47] else l.take (lastTo l 47 l.length).toNat

set_option maxHeartbeats 400000 in
theorem refDefault_any (s : ByteArray) (w : World) (hs : s.size ≤ maxLen) :
    Calls Try.prog 13 #[.string s] w fun e w' => e = .returned (.string (S (refDir s.toList))) ∧ w = w' := by
  unfold maxLen at hs
  have hsz := Lib.hid (size_toList s)
  go_enter Try.func13, Try.ntmps13
  go_wp2
  go_loop [3, 4] (fun n i => ∃ k : Nat, k ≤ s.size ∧ i = .int .i64 k ∧ n = .int .i64 (lastTo s.toList 47 k)) (fun _ i => s.size - (intOf i).toNat)
  case atStart => exact ⟨0, Nat.zero_le _, rfl, rfl⟩
  case round =>
    obtain ⟨k, hk, rfl, rfl⟩ := hrel
    by_cases hlt : k < s.size
    · go_wp2
      · have h : ((s[k].toNat : Int) == 47) = true := by assumption
        rw [get_l] at h
        have h' := (u8_beq (s.toList.getD k 0) 47).symm.trans h
        go_round
        case rel => exact ⟨k + 1, by omega, by go_num, by rw [lastTo_hit h']⟩
        case measure => simp [intOf]; omega
      · have h : ((s[k].toNat : Int) == 47) = false := by assumption
        rw [get_l] at h
        have h' := (u8_beq (s.toList.getD k 0) 47).symm.trans h
        go_round
        case rel => exact ⟨k + 1, by omega, by go_num, by rw [lastTo_miss h']⟩
        case measure => simp [intOf]; omega
    · obtain rfl : k = s.size := by omega
      have hb := lastTo_lt s.toList 47 s.size
      by_cases h1 : lastTo s.toList 47 s.size ≤ 0
      · have hr := Lib.hid (show refDir s.toList = [47] by unfold refDir; rw [if_pos (Or.inl (by rw [← hsz.out]; exact h1))])
        go_wp2
        go_ret
        exact ⟨ret_str (by rw [hr.out]; rfl), rfl⟩
      · have h0 : (0 : Int) < s.size := by omega
        have h0' : 0 < s.size := by omega
        by_cases h2 : (s.toList.getD 0 0 == 47) = true
        · have hr := Lib.hid (show refDir s.toList = s.toList.take (lastTo s.toList 47 s.size).toNat by unfold refDir; rw [if_neg (by rw [← hsz.out, h2]; simpa using h1), ← hsz.out])
          have h3 : (((s[0].toNat : Int)) == 47) = true := by rw [get_l]; exact (u8_beq (s.toList.getD 0 0) 47).trans h2
          have h3' : (((s[0].toNat : Int)) != 47) = false := by rw [bne, h3]; rfl
          clear h2
          go_wp2
          go_ret
          exact ⟨ret_str (by rw [hr.out, extract_to]), rfl⟩
        · have h2' : (s.toList.getD 0 0 == 47) = false := by simpa using h2
          have hr := Lib.hid (show refDir s.toList = [47] by unfold refDir; rw [if_pos (Or.inr h2')])
          have h3 : (((s[0].toNat : Int)) == 47) = false := by rw [get_l]; exact (u8_beq (s.toList.getD 0 0) 47).trans h2'
          have h3' : (((s[0].toNat : Int)) != 47) = true := by rw [bne, h3]; rfl
          clear h2 h2'
          go_wp2
          go_ret
          exact ⟨ret_str (by rw [hr.out]; rfl), rfl⟩

/-- What the reference answers: does a path fit? -/
def refFit (p c : List UInt8) : Bool :=
  if p.length < c.length then false else if !(p.take c.length == c) then false else if p.length = c.length then true
  else (decide (0 < c.length) && c.getD (c.length - 1) 0 == 47) || p.getD c.length 0 == 47

set_option maxHeartbeats 400000 in
theorem refMatch_any (s t : ByteArray) (w : World) (hs : s.size ≤ maxLen) (ht : t.size ≤ maxLen) :
    Calls Try.prog 16 #[.string s, .string t] w fun e w' => e = .returned (.bool (refFit s.toList t.toList)) ∧ w = w' := by
  unfold maxLen at hs ht
  have hsz := Lib.hid (size_toList s)
  have htz := Lib.hid (size_toList t)
  have hx := Lib.hid (show (s.extract 0 t.size).toList = s.toList.take t.size from by rw [extract_l, List.drop_zero, Nat.sub_zero])
  have hr := Lib.hid (show refFit s.toList t.toList = (if s.size < t.size then false else if !(s.toList.take t.size == t.toList) then false else if s.size = t.size then true
    else (decide (0 < t.size) && t.toList.getD (t.size - 1) 0 == 47) || s.toList.getD t.size 0 == 47) from by unfold refFit; rw [← hsz.out, ← htz.out])
  by_cases h1 : s.size < t.size
  · go_enter Try.func16, Try.ntmps16
    go_wp2
    go_ret
    exact ⟨ret_bool (by rw [hr.out, if_pos h1]), rfl⟩
  have h1' : decide (s.size < t.size) = false := by simpa using h1
  have h1i : (t.size : Int) ≤ s.size := by omega
  by_cases h2 : ((s.extract 0 t.size).toList == t.toList) = true
  case neg =>
    have h2' : ((s.extract 0 t.size).toList == t.toList) = false := by simpa using h2
    clear h2
    go_enter Try.func16, Try.ntmps16
    go_wp2
    go_ret
    exact ⟨ret_bool (by rw [hr.out, if_neg h1, ← hx.out, h2']; rfl), rfl⟩
  by_cases h3 : s.size = t.size
  · have h3' : ((s.size : Int) == t.size) = true := beq_iff_eq.2 (by omega)
    have h4 := Lib.hid h3
    clear h3
    go_enter Try.func16, Try.ntmps16
    go_wp2
    go_ret
    exact ⟨ret_bool (by rw [hr.out, if_neg h1, ← hx.out, h2, if_neg (by decide), if_pos h4.out]), rfl⟩
  have h3' : ((s.size : Int) == t.size) = false := beq_eq_false_iff_ne.2 (by omega)
  have h4 : t.size < s.size := by omega
  have hr2 := Lib.hid (hr.out.trans (by rw [if_neg h1, ← hx.out, h2, if_neg (by decide), if_neg h3]))
  clear hr h3 h1
  by_cases h5 : 0 < t.size
  · have h5' : (1 : Int) ≤ t.size := by omega
    by_cases h8' : (t.toList.getD (t.size - 1) 0 == 47) = true
    · have h9 : ((t[t.size - 1].toNat : Int) == 47) = true := by rw [get_l]; exact (u8_beq _ 47).trans h8'
      have h8 := Lib.hid h8'
      clear h8'
      go_enter Try.func16, Try.ntmps16
      go_wp2
      go_ret
      exact ⟨ret_bool (by rw [hr2.out, h8.out]; simp [h5]), rfl⟩
    · have h8 := Lib.hid (show (t.toList.getD (t.size - 1) 0 == 47) = false by simpa using h8')
      have h9 : ((t[t.size - 1].toNat : Int) == 47) = false := by rw [get_l]; exact (u8_beq _ 47).trans h8.out
      clear h8'
      go_enter Try.func16, Try.ntmps16
      go_wp2
      go_ret
      exact ⟨ret_bool (by rw [hr2.out, h8.out, get_l]; exact (u8_beq _ 47).trans (by simp)), rfl⟩
  · have h5' : decide (0 < t.size) = false := by simpa using h5
    go_enter Try.func16, Try.ntmps16
    go_wp2
    go_ret
    exact ⟨ret_bool (by rw [hr2.out, h5', get_l]; exact (u8_beq _ 47).trans (by simp)), rfl⟩
end Go.Proofs.Ytecafpimcffibaa
