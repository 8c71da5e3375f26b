/-
  Joined texts: Path Host3 Host4 Host5.
-/
import Derived.Test.YtgfoaopfdpclhaaGreatDoorBu1
import Derived.Test.YtgfoaopfdpclhaaGreatDoorBu11
namespace Go.Proofs.YtgfoaopfdpclhaaGreatDoor
open Go.RowKit
set_option linter.unusedVariables false
set_option maxRecDepth 100000

/-- The last place below k that holds c; -1: there is none. -/
def lastTo (l : List UInt8) (c : UInt8) : Nat → Int
  | 0 => -1
  | k + 1 => if l.getD k 0 == c then (k : Int) else lastTo l c k
theorem lastTo_hit {l : List UInt8} {c : UInt8} {k : Nat} (h : (l.getD k 0 == c) = true) : lastTo l c (k + 1) = k := by rw [lastTo, if_pos h]
theorem lastTo_miss {l : List UInt8} {c : UInt8} {k : Nat} (h : (l.getD k 0 == c) = false) : lastTo l c (k + 1) = lastTo l c k := by rw [lastTo, if_neg (by rw [h]; decide)]
theorem lastTo_lt (l : List UInt8) (c : UInt8) (k : Nat) : -1 ≤ lastTo l c k ∧ lastTo l c k < k := by
  induction k with
  | zero => simp [lastTo]
  | succ k ih => unfold lastTo; split <;> omega

set_option maxHeartbeats 400000 in
theorem hasPrefix0 (s t : ByteArray) (w : World) (hs : s.size ≤ maxLen) (ht : t.size ≤ maxLen) :
    Calls Tryz.prog 82 #[.string s, .string t] w fun e w' => e = .returned (.bool (Lib.hasPrefix s.toList t.toList)) ∧ w = w' := by
  unfold maxLen at hs ht
  go_enter Tryz.func82, Tryz.ntmps82
  go_wp2
  all_goals
    go_ret
    refine ⟨ret_bool ?_, rfl⟩
    rw [← hasPrefix_raw]
    simp [*]

set_option maxHeartbeats 400000 in
theorem hasPrefix_any (s t : ByteArray) (w : World) (hs : s.size ≤ maxLen) (ht : t.size ≤ maxLen) :
    Calls Tryz.prog 44 #[.string s, .string t] w fun e w' => e = .returned (.bool (Lib.hasPrefix s.toList t.toList)) ∧ w = w' := by
  go_enter Tryz.func44, Tryz.ntmps44
  go_wp2_with (go_at_call 82; refine (hasPrefix0 _ _ _ hs ht).mono ?_; rintro e w' ⟨rfl, rfl⟩)
  go_ret
  exact ⟨rfl, rfl⟩

set_option maxHeartbeats 400000 in
theorem hasSuffix0 (s t : ByteArray) (w : World) (hs : s.size ≤ maxLen) (ht : t.size ≤ maxLen) :
    Calls Tryz.prog 106 #[.string s, .string t] w fun e w' => e = .returned (.bool (Lib.hasSuffix s.toList t.toList)) ∧ w = w' := by
  unfold maxLen at hs ht
  go_enter Tryz.func106, Tryz.ntmps106
  go_wp2
  all_goals
    go_ret
    refine ⟨ret_bool ?_, rfl⟩
    rw [← hasSuffix_raw]
    simp [*]

set_option maxHeartbeats 400000 in
theorem hasSuffix_any (s t : ByteArray) (w : World) (hs : s.size ≤ maxLen) (ht : t.size ≤ maxLen) :
    Calls Tryz.prog 77 #[.string s, .string t] w fun e w' => e = .returned (.bool (Lib.hasSuffix s.toList t.toList)) ∧ w = w' := by
  go_enter Tryz.func77, Tryz.ntmps77
  go_wp2_with (go_at_call 106; refine (hasSuffix0 _ _ _ hs ht).mono ?_; rintro e w' ⟨rfl, rfl⟩)
  go_ret
  exact ⟨rfl, rfl⟩

set_option maxHeartbeats 400000 in
theorem lastIndexByte0 (s : ByteArray) (c : UInt8) (w : World) (hs : s.size ≤ maxLen) :
    Calls Tryz.prog 120 #[.string s, .int .u8 c.toNat] w fun e w' => e = .returned (.int .i64 (lastTo s.toList c s.size)) ∧ w = w' := by
  unfold maxLen at hs
  go_enter Tryz.func120, Tryz.ntmps120
  go_wp2
  go_loop [5] (fun i => ∃ k : Nat, k ≤ s.size ∧ i = .int .i64 ((k : Int) - 1) ∧ Hid (lastTo s.toList c s.size = lastTo s.toList c k)) (fun i => (intOf i + 1).toNat)
  case atStart => exact ⟨s.size, Nat.le_refl _, rfl, rfl⟩
  case round =>
    obtain ⟨k, hk, rfl, hL⟩ := hrel
    by_cases hlt : k = 0
    · subst hlt
      go_wp2
      go_ret
      exact ⟨ret_int (by rw [hL.out]; rfl), rfl⟩
    · obtain ⟨k, rfl⟩ : ∃ j, k = j + 1 := ⟨k - 1, by omega⟩
      go_wp2
      · have h : ((s[k].toNat : Int) == c.toNat) = true := by assumption
        rw [u8_beq, get_l] at h
        go_ret
        exact ⟨ret_int (by rw [hL.out, lastTo_hit h]), rfl⟩
      · have h : ((s[k].toNat : Int) == c.toNat) = false := by assumption
        rw [u8_beq, get_l] at h
        go_round
        case rel => exact ⟨k, by omega, rfl, hL.out.trans (lastTo_miss h)⟩
        case measure => simp [intOf]

set_option maxHeartbeats 400000 in
theorem lastIndexByte_any (s : ByteArray) (c : UInt8) (w : World) (hs : s.size ≤ maxLen) :
    Calls Tryz.prog 89 #[.string s, .int .u8 c.toNat] w fun e w' => e = .returned (.int .i64 (lastTo s.toList c s.size)) ∧ w = w' := by
  go_enter Tryz.func89, Tryz.ntmps89
  go_wp2_with (go_at_call 120; refine (lastIndexByte0 _ _ _ hs).mono ?_; rintro e w' ⟨rfl, rfl⟩)
  go_ret
  exact ⟨rfl, rfl⟩

/-- What package path answers as a path's directory. -/
def dirOf (l : List UInt8) : List UInt8 := if Lib.hasPrefix l [47] = false ∨ lastTo l 47 l.length = 0 then [47] else l.take (lastTo l 47 l.length).toNat

theorem hasPrefix_get {l : List UInt8} {c : UInt8} (h : Lib.hasPrefix l [c] = true) : 0 < l.length ∧ (l.getD 0 0 == c) = true := by
  cases l with
  | nil => simp [Lib.hasPrefix] at h
  | cons x l =>
    have h' : c = x := by simpa [Lib.hasPrefix] using h
    subst h'
    simp
theorem lastTo_ge {l : List UInt8} {c : UInt8} {i : Nat} (h : (l.getD i 0 == c) = true) {k : Nat} (hi : i < k) : (i : Int) ≤ lastTo l c k := by
  induction k with
  | zero => omega
  | succ k ih =>
    unfold lastTo
    split
    · omega
    · rename_i hn
      by_cases e : i = k
      · subst e; exact absurd h hn
      · exact ih (by omega)

set_option maxHeartbeats 400000 in
theorem default_any (s : ByteArray) (w : World) (hs : s.size ≤ maxLen) :
    Calls Tryz.prog 58 #[.string s] w fun e w' => e = .returned (.string (S (dirOf s.toList))) ∧ w = w' := by
  have hb := lastTo_lt s.toList 47 s.size
  have hs' := hs
  unfold maxLen at hs'
  have hsz := Lib.hid (size_toList s)
  by_cases hp : Lib.hasPrefix s.toList [47] = true
  · obtain ⟨h0, h1⟩ := hasPrefix_get hp
    have h2 := lastTo_ge h1 (k := s.size) (by rw [hsz.out]; exact h0)
    by_cases h3 : (lastTo s.toList 47 s.size == 0) = true
    · have hr := Lib.hid (show dirOf s.toList = [47] by unfold dirOf; rw [if_pos (Or.inr (by rw [← hsz.out]; simpa using h3))])
      clear h0 h1
      go_enter Tryz.func58, Tryz.ntmps58
      go_wp2_with (first | (go_at_call 89; refine (lastIndexByte_any s 47 _ hs).mono ?_; rintro e w' ⟨rfl, rfl⟩) | (go_at_call 44; refine (hasPrefix_any s _ _ hs (by decide)).mono ?_; rintro e w' ⟨rfl, rfl⟩))
      go_ret
      exact ⟨ret_str (by rw [hr.out]; rfl), rfl⟩
    · have h3' : (lastTo s.toList 47 s.size == 0) = false := by simpa using h3
      have hr := Lib.hid (show dirOf s.toList = s.toList.take (lastTo s.toList 47 s.size).toNat by unfold dirOf; rw [if_neg (by rw [← hsz.out, hp]; simpa using h3), ← hsz.out])
      clear h0 h1 h3
      go_enter Tryz.func58, Tryz.ntmps58
      go_wp2_with (first | (go_at_call 89; refine (lastIndexByte_any s 47 _ hs).mono ?_; rintro e w' ⟨rfl, rfl⟩) | (go_at_call 44; refine (hasPrefix_any s _ _ hs (by decide)).mono ?_; rintro e w' ⟨rfl, rfl⟩))
      go_ret
      exact ⟨ret_str (by rw [hr.out, extract_to]), rfl⟩
  · have hp' : Lib.hasPrefix s.toList [47] = false := by simpa using hp
    have hr := Lib.hid (show dirOf s.toList = [47] by unfold dirOf; rw [if_pos (Or.inl hp')])
    clear hp
    go_enter Tryz.func58, Tryz.ntmps58
    go_wp2_with (first | (go_at_call 89; refine (lastIndexByte_any s 47 _ hs).mono ?_; rintro e w' ⟨rfl, rfl⟩) | (go_at_call 44; refine (hasPrefix_any s _ _ hs (by decide)).mono ?_; rintro e w' ⟨rfl, rfl⟩))
    go_ret
    exact ⟨ret_str (by rw [hr.out]; rfl), rfl⟩

/-- Does a path fit a cookie's path? -/
def fitB (p c : List UInt8) : Bool := p == c || (Lib.hasPrefix p c && (Lib.hasSuffix c [47] || p.getD c.length 0 == 47))

set_option maxHeartbeats 400000 in
theorem match_any (s t : ByteArray) (w : World) (hs : s.size ≤ maxLen) (ht : t.size ≤ maxLen) :
    Calls Tryz.prog 41 #[.string s, .string t] w fun e w' => e = .returned (.bool (fitB s.toList t.toList)) ∧ w = w' := by
  have hs' := hs
  have ht' := ht
  unfold maxLen at hs' ht'
  have hsz := Lib.hid (size_toList s)
  have htz := Lib.hid (size_toList t)
  by_cases h1 : (s.toList == t.toList) = true
  · go_enter Tryz.func41, Tryz.ntmps41
    go_wp2
    go_ret
    exact ⟨ret_bool (by unfold fitB; simp [h1]), rfl⟩
  have h1' : (s.toList == t.toList) = false := by simpa using h1
  by_cases h2 : Lib.hasPrefix s.toList t.toList = true
  · have hlt : t.size < s.size := by
      rw [hsz.out, htz.out]
      have hpre : t.toList <+: s.toList := by simpa [Lib.hasPrefix] using h2
      rcases Nat.lt_or_ge t.toList.length s.toList.length with h | h
      · exact h
      · exact absurd (hpre.eq_of_length_le h).symm (by simpa using h1)
    have hr := Lib.hid (show fitB s.toList t.toList = (Lib.hasSuffix t.toList [47] || s.toList.getD t.toList.length 0 == 47) by unfold fitB; rw [h1', h2]; rfl)
    clear h1
    by_cases h3 : Lib.hasSuffix t.toList [47] = true
    · go_enter Tryz.func41, Tryz.ntmps41
      go_wp2_with (first | (go_at_call 44; refine (hasPrefix_any s t _ hs ht).mono ?_; rintro e w' ⟨rfl, rfl⟩) | (go_at_call 77; refine (hasSuffix_any t _ _ ht (by decide)).mono ?_; rintro e w' ⟨rfl, rfl⟩))
      go_ret
      exact ⟨ret_bool (by rw [hr.out, h3]; rfl), rfl⟩
    · have h3' : Lib.hasSuffix t.toList [47] = false := by simpa using h3
      clear h3
      go_enter Tryz.func41, Tryz.ntmps41
      go_wp2_with (first | (go_at_call 44; refine (hasPrefix_any s t _ hs ht).mono ?_; rintro e w' ⟨rfl, rfl⟩) | (go_at_call 77; refine (hasSuffix_any t _ _ ht (by decide)).mono ?_; rintro e w' ⟨rfl, rfl⟩))
      go_ret
      exact ⟨ret_bool (by rw [hr.out, h3', get_l, ← htz.out]; exact u8_beq _ 47), rfl⟩
  · have h2' : Lib.hasPrefix s.toList t.toList = false := by simpa using h2
    clear h1 h2
    go_enter Tryz.func41, Tryz.ntmps41
    go_wp2_with (go_at_call 44; refine (hasPrefix_any s t _ hs ht).mono ?_; rintro e w' ⟨rfl, rfl⟩)
    go_ret
    exact ⟨ret_bool (by unfold fitB; rw [h1', h2']; rfl), rfl⟩

/-- How many places below k hold c. -/
def countTo (l : List UInt8) (c : UInt8) : Nat → Nat
  | 0 => 0
  | k + 1 => if l.getD k 0 == c then countTo l c k + 1 else countTo l c k
theorem countTo_le (l : List UInt8) (c : UInt8) (k : Nat) : countTo l c k ≤ k := by
  induction k with
  | zero => simp [countTo]
  | succ k ih => unfold countTo; split <;> omega
theorem countTo_hit {l : List UInt8} {c : UInt8} {k : Nat} (h : (l.getD k 0 == c) = true) : countTo l c (k + 1) = countTo l c k + 1 := by rw [countTo, if_pos h]
theorem countTo_miss {l : List UInt8} {c : UInt8} {k : Nat} (h : (l.getD k 0 == c) = false) : countTo l c (k + 1) = countTo l c k := by rw [countTo, if_neg (by rw [h]; decide)]

/-- What the reference answers as a path's directory. -/
def refDir (l : List UInt8) : List UInt8 := if lastTo l 47 l.length ≤ 0 ∨ (l.getD 0 0 == 47) = false then [47] else l.take (lastTo l 47 l.length).toNat

set_option maxHeartbeats 400000 in
theorem refDefault_any (s : ByteArray) (w : World) (hs : s.size ≤ maxLen) :
    Calls Tryz.prog 31 #[.string s] w fun e w' => e = .returned (.string (S (refDir s.toList))) ∧ w = w' := by
  unfold maxLen at hs
  have hsz := Lib.hid (size_toList s)
  go_enter Tryz.func31, Tryz.ntmps31
  go_wp2
  go_loop [3, 4] (fun n i => ∃ k : Nat, k ≤ s.size ∧ i = .int .i64 k ∧ n = .int .i64 (lastTo s.toList 47 k)) (fun _ i => s.size - (intOf i).toNat)
  case atStart => exact ⟨0, Nat.zero_le _, rfl, rfl⟩
  case round =>
    obtain ⟨k, hk, rfl, rfl⟩ := hrel
    by_cases hlt : k < s.size
    · go_wp2
      · have h : ((s[k].toNat : Int) == 47) = true := by assumption
        rw [get_l] at h
        have h' := (u8_beq (s.toList.getD k 0) 47).symm.trans h
        go_round
        case rel => exact ⟨k + 1, by omega, by go_num, by rw [lastTo_hit h']⟩
        case measure => simp [intOf]; omega
      · have h : ((s[k].toNat : Int) == 47) = false := by assumption
        rw [get_l] at h
        have h' := (u8_beq (s.toList.getD k 0) 47).symm.trans h
        go_round
        case rel => exact ⟨k + 1, by omega, by go_num, by rw [lastTo_miss h']⟩
        case measure => simp [intOf]; omega
    · obtain rfl : k = s.size := by omega
      have hb := lastTo_lt s.toList 47 s.size
      by_cases h1 : lastTo s.toList 47 s.size ≤ 0
      · have hr := Lib.hid (show refDir s.toList = [47] by unfold refDir; rw [if_pos (Or.inl (by rw [← hsz.out]; exact h1))])
        go_wp2
        go_ret
        exact ⟨ret_str (by rw [hr.out]; rfl), rfl⟩
      · have h0 : (0 : Int) < s.size := by omega
        have h0' : 0 < s.size := by omega
        by_cases h2 : (s.toList.getD 0 0 == 47) = true
        · have hr := Lib.hid (show refDir s.toList = s.toList.take (lastTo s.toList 47 s.size).toNat by unfold refDir; rw [if_neg (by rw [← hsz.out, h2]; simpa using h1), ← hsz.out])
          have h3 : (((s[0].toNat : Int)) == 47) = true := by rw [get_l]; exact (u8_beq (s.toList.getD 0 0) 47).trans h2
          have h3' : (((s[0].toNat : Int)) != 47) = false := by rw [bne, h3]; rfl
          clear h2
          go_wp2
          go_ret
          exact ⟨ret_str (by rw [hr.out, extract_to]), rfl⟩
        · have h2' : (s.toList.getD 0 0 == 47) = false := by simpa using h2
          have hr := Lib.hid (show refDir s.toList = [47] by unfold refDir; rw [if_pos (Or.inr h2')])
          have h3 : (((s[0].toNat : Int)) == 47) = false := by rw [get_l]; exact (u8_beq (s.toList.getD 0 0) 47).trans h2'
          have h3' : (((s[0].toNat : Int)) != 47) = true := by rw [bne, h3]; rfl
          clear h2 h2'
          go_wp2
          go_ret
          exact ⟨ret_str (by rw [hr.out]; rfl), rfl⟩

/-- What the reference answers: does a path fit? -/
def refFit (p c : List UInt8) : Bool :=
  if p.length < c.length then false else if !(p.take c.length == c) then false else if p.length = c.length then true
  else (decide (0 < c.length) && c.getD (c.length - 1) 0 == 47) || p.getD c.length 0 == 47

set_option maxHeartbeats 400000 in
theorem refMatch_any (s t : ByteArray) (w : World) (hs : s.size ≤ maxLen) (ht : t.size ≤ maxLen) :
    Calls Tryz.prog 15 #[.string s, .string t] w fun e w' => e = .returned (.bool (refFit s.toList t.toList)) ∧ w = w' := by
  unfold maxLen at hs ht
  have hsz := Lib.hid (size_toList s)
  have htz := Lib.hid (size_toList t)
  have hx := Lib.hid (show (s.extract 0 t.size).toList = s.toList.take t.size from by rw [extract_l, List.drop_zero, Nat.sub_zero])
  have hr := Lib.hid (show refFit s.toList t.toList = (if s.size < t.size then false else if !(s.toList.take t.size == t.toList) then false else if s.size = t.size then true
    else (decide (0 < t.size) && t.toList.getD (t.size - 1) 0 == 47) || s.toList.getD t.size 0 == 47) from by unfold refFit; rw [← hsz.out, ← htz.out])
  by_cases h1 : s.size < t.size
  · go_enter Tryz.func15, Tryz.ntmps15
    go_wp2
    go_ret
    exact ⟨ret_bool (by rw [hr.out, if_pos h1]), rfl⟩
  have h1' : decide (s.size < t.size) = false := by simpa using h1
  have h1i : (t.size : Int) ≤ s.size := by omega
  by_cases h2 : ((s.extract 0 t.size).toList == t.toList) = true
  case neg =>
    have h2' : ((s.extract 0 t.size).toList == t.toList) = false := by simpa using h2
    clear h2
    go_enter Tryz.func15, Tryz.ntmps15
    go_wp2
    go_ret
    exact ⟨ret_bool (by rw [hr.out, if_neg h1, ← hx.out, h2']; rfl), rfl⟩
  by_cases h3 : s.size = t.size
  · have h3' : ((s.size : Int) == t.size) = true := beq_iff_eq.2 (by omega)
    have h4 := Lib.hid h3
    clear h3
    go_enter Tryz.func15, Tryz.ntmps15
    go_wp2
    go_ret
    exact ⟨ret_bool (by rw [hr.out, if_neg h1, ← hx.out, h2, if_neg (by decide), if_pos h4.out]), rfl⟩
  have h3' : ((s.size : Int) == t.size) = false := beq_eq_false_iff_ne.2 (by omega)
  have h4 : t.size < s.size := by omega
  have hr2 := Lib.hid (hr.out.trans (by rw [if_neg h1, ← hx.out, h2, if_neg (by decide), if_neg h3]))
  clear hr h3 h1
  by_cases h5 : 0 < t.size
  · have h5' : (1 : Int) ≤ t.size := by omega
    by_cases h8' : (t.toList.getD (t.size - 1) 0 == 47) = true
    · have h9 : ((t[t.size - 1].toNat : Int) == 47) = true := by rw [get_l]; exact (u8_beq _ 47).trans h8'
      have h8 := Lib.hid h8'
      clear h8'
      go_enter Tryz.func15, Tryz.ntmps15
      go_wp2
      go_ret
      exact ⟨ret_bool (by rw [hr2.out, h8.out]; simp [h5]), rfl⟩
    · have h8 := Lib.hid (show (t.toList.getD (t.size - 1) 0 == 47) = false by simpa using h8')
      have h9 : ((t[t.size - 1].toNat : Int) == 47) = false := by rw [get_l]; exact (u8_beq _ 47).trans h8.out
      clear h8'
      go_enter Tryz.func15, Tryz.ntmps15
      go_wp2
      go_ret
      exact ⟨ret_bool (by rw [hr2.out, h8.out, get_l]; exact (u8_beq _ 47).trans (by simp)), rfl⟩
  · have h5' : decide (0 < t.size) = false := by simpa using h5
    go_enter Tryz.func15, Tryz.ntmps15
    go_wp2
    go_ret
    exact ⟨ret_bool (by rw [hr2.out, h5', get_l]; exact (u8_beq _ 47).trans (by simp)), rfl⟩
end Go.Proofs.YtgfoaopfdpclhaaGreatDoor
namespace Go.Proofs.YtgfoaopfdpclhaaGreatDoor
open Go.RowKit
set_option linter.unusedVariables false
set_option maxRecDepth 100000

theorem rd_str {w : World} {A : Option Addr} {n c : Nat} {l : List (List UInt8)} (h : Rd w 1 (.slice A n c) n (l.map strV)) {k : Nat} (hk : k < n) :
    ∃ b off, A = some ⟨b, off, none⟩ ∧ b < w.heap.size ∧ ∃ hk' : k < l.length, w.cell? ⟨b, off + k, none⟩ = some (.string (S l[k])) := by
  have hl := h.1
  simp only [List.length_map, Nat.mul_one] at hl
  obtain ⟨b, off, hA, hb, hc⟩ := h.at_ (by omega)
  refine ⟨b, off, hA, hb, by omega, ?_⟩
  rw [hc k (by simp; omega), List.getElem?_map, List.getElem?_eq_getElem (by omega : k < l.length)]
  rfl

theorem part_cases (p : List UInt8) : (partB p = true ∧ p.isEmpty = false ∧ decide (digN p < p.length) = false ∧ decide ((255 : Int) < numV p) = false ∧ ((decide ((1 : Int) < p.length) = false) ∨ (decide ((1 : Int) < p.length) = true ∧ (p.getD 0 0 == 48) = false))) ∨
    (partB p = false ∧ ((p.isEmpty = true) ∨ (p.isEmpty = false ∧ decide (digN p < p.length) = true) ∨ (p.isEmpty = false ∧ decide (digN p < p.length) = false ∧ decide ((255 : Int) < numV p) = true) ∨ (p.isEmpty = false ∧ decide (digN p < p.length) = false ∧ decide ((255 : Int) < numV p) = false ∧ decide ((1 : Int) < p.length) = true ∧ (p.getD 0 0 == 48) = true))) := by
  have e : decide ((1 : Int) < p.length) = decide (1 < p.length) := by rw [Bool.eq_iff_iff]; simp; omega
  unfold partB
  rw [e]
  cases p.isEmpty <;> cases decide (digN p < p.length) <;> cases decide ((255 : Int) < numV p) <;> cases decide (1 < p.length) <;> cases (p.getD 0 0 == 48) <;> simp

set_option maxHeartbeats 4000000 in
theorem four_any (s : ByteArray) (w : World) (hs : s.size ≤ 4294967296) :
    Calls Tryz.prog 100 #[.string s] w fun e w' => e = .returned (.bool (fourB s.toList)) ∧ Below w.heap.size w w' := by
  have hpl := Lib.hid (split_part s.toList 46)
  have hsz := Lib.hid (size_toList s)
  have hlen := split_len s.toList 46
  rw [← size_toList] at hlen
  have hF := Lib.hid (show fourB s.toList = (decide ((splitL s.toList 46).length = 4) && (splitL s.toList 46).all partB) from rfl)
  go_enter Tryz.func100, Tryz.ntmps100
  go_wp2_with fail
  refine (split_any s 46 _ hs).mono ?_
  rintro e w1 ⟨A, c, rfl, hown, hb1⟩
  have hR := Rd.of_own hown
  have hcap := hR.cap
  unfold maxLen at hcap
  obtain ⟨hca, hcb⟩ := hcap
  clear hown
  generalize splitL s.toList 46 = l at *
  by_cases h4 : l.length = 4
  · have h4i : ((l.length : Int) != 4) = false := by rw [bne_eq_false_iff_eq]; omega
    have hF2 := Lib.hid (show fourB s.toList = l.all partB by rw [hF.out, decide_eq_true h4]; rfl)
    clear h4
    go_wp2_with fail
    go_loopw [15] (fun i wr => ∃ k : Nat, k ≤ l.length ∧ i = .int .i64 k ∧ Below w1.heap.size w1 wr ∧ Hid ((l.take k).all partB = true)) (fun i _ => l.length - (intOf i).toNat)
    case atStart => exact ⟨0, Nat.zero_le _, rfl, Below.refl _ _, rfl⟩
    case round =>
      obtain ⟨k, hk, rfl, hbel, hall⟩ := hrel
      have hbw := bel_call hb1 hbel
      by_cases hlt : k < l.length
      · have hlti : (k : Int) < l.length := by omega
        obtain ⟨b, off, rfl, hb, _, hcell⟩ := rd_str (hR.below hbel) hlt
        have hst := Lib.hid (all_take_stepL (p := partB) hlt)
        have hbad := Lib.hid (all_badL (p := partB) hlt)
        have hpm : (S l[k]).size ≤ maxLen := by
          have := hpl.out _ (List.getElem_mem hlt)
          rw [← hsz.out] at this
          rw [S_size]; unfold maxLen; omega
        have hpm' : l[k].length ≤ 4294967296 := by
          have := hpl.out _ (List.getElem_mem hlt)
          rw [← hsz.out] at this
          omega
        obtain ⟨p, hp⟩ : ∃ p, l[k] = p := ⟨_, rfl⟩
        rw [hp] at hcell hpm hpm'
        have hP := Lib.hid hp
        clear hp
        rcases part_cases p with ⟨hy, h1, h2, h3, h4⟩ | ⟨hn, h1⟩
        · have hY := Lib.hid hy
          clear hy
          have hpos : 0 < (S p).size := by rw [S_size]; cases p <;> simp_all
          have hgd : (p.getD 0 0 == 48) = false → ((((S p)[0].toNat : Int)) == 48) = false := fun h => by rw [get_l, S_toList, eqc 48 (i := 48) rfl]; exact h
          rcases h4 with h4 | ⟨h4, h5⟩
          · clear hgd
            go_wp2_with fail
            refine (number_any _ _ hpm).mono ?_
            rintro e w' ⟨rfl, rfl⟩
            rw [S_toList]
            go_wp2_with (go_at_call 115; refine (digits_any _ _ hpm).mono ?_; rintro e w' ⟨rfl, rfl⟩)
            go_roundw
            case rel => exact ⟨k + 1, by omega, by go_num, hbel, by show _ = _; rw [hst.out, hall.out, hP.out, hY.out]; rfl⟩
            case measure => simp [intOf]; omega
          · have h6 := hgd h5
            clear hgd h5
            go_wp2_with fail
            refine (number_any _ _ hpm).mono ?_
            rintro e w' ⟨rfl, rfl⟩
            rw [S_toList]
            go_wp2_with (go_at_call 115; refine (digits_any _ _ hpm).mono ?_; rintro e w' ⟨rfl, rfl⟩)
            go_roundw
            case rel => exact ⟨k + 1, by omega, by go_num, hbel, by show _ = _; rw [hst.out, hall.out, hP.out, hY.out]; rfl⟩
            case measure => simp [intOf]; omega
        · have hN := Lib.hid hn
          clear hn
          rcases h1 with h1 | ⟨h1, h2⟩ | ⟨h1, h2, h3⟩ | ⟨h1, h2, h3, h4, h5⟩
          all_goals
            first
            | (have hpos : 0 < (S p).size := by rw [S_size]; cases p <;> simp_all
               have h6 : ((((S p)[0].toNat : Int)) == 48) = true := by rw [get_l, S_toList, eqc 48 (i := 48) rfl]; exact h5
               clear h5)
            | skip
            go_wp2_with fail
            refine (number_any _ _ hpm).mono ?_
            rintro e w' ⟨rfl, rfl⟩
            rw [S_toList]
            go_wp2_with (go_at_call 115; refine (digits_any _ _ hpm).mono ?_; rintro e w' ⟨rfl, rfl⟩)
            go_ret
            exact ⟨ret_bool (by rw [hF2.out, hbad.out (by rw [hP.out]; exact hN.out)]), hbw⟩
      · obtain rfl : k = l.length := by omega
        have hf := Lib.hid (show l.all partB = true by have := hall.out; rwa [List.take_length] at this)
        go_wp2
        go_ret
        exact ⟨ret_bool (by rw [hF2.out, hf.out]), hbw⟩
  · have h4i : ((l.length : Int) != 4) = true := by rw [bne_iff_ne]; omega
    go_wp2_with fail
    go_ret
    exact ⟨ret_bool (by rw [hF.out, decide_eq_false h4]; rfl), hb1⟩
end Go.Proofs.YtgfoaopfdpclhaaGreatDoor
namespace Go.Proofs.YtgfoaopfdpclhaaGreatDoor
open Go.RowKit
set_option linter.unusedVariables false
set_option maxRecDepth 100000


set_option maxHeartbeats 1000000 in
theorem addr_any (s : ByteArray) (w : World) (hs : s.size ≤ 4294967296) :
    Calls Tryz.prog 70 #[.string s] w fun e w' => e = .returned (.bool (addrB s.toList)) ∧ Below w.heap.size w w' := by
  have hm : s.size ≤ maxLen := by unfold maxLen; omega
  go_enter Tryz.func70, Tryz.ntmps70
  go_wp2_with fail
  refine (four_any s w hs).mono ?_
  rintro e w1 ⟨rfl, hb1⟩
  cases hq : fourB s.toList
  · have hQ := Lib.hid hq
    clear hq
    go_wp2_with fail
    refine (bracket_any s w1 hm).mono ?_
    rintro e w2 ⟨rfl, hb2⟩
    have hb3 := bel_call hb1 hb2
    go_wp2
    go_ret
    exact ⟨ret_bool (by unfold addrB; rw [hQ.out]; rfl), hb3⟩
  · have hQ := Lib.hid hq
    clear hq
    go_wp2
    go_ret
    exact ⟨ret_bool (by unfold addrB; rw [hQ.out]; rfl), hb1⟩

set_option maxHeartbeats 2000000 in
theorem name_any (s : ByteArray) (w : World) (hs : s.size ≤ 4294967296) :
    Calls Tryz.prog 69 #[.string s] w fun e w' => e = .returned (.bool (nameB s.toList)) ∧ Below w.heap.size w w' := by
  have hm : s.size ≤ maxLen := by unfold maxLen; omega
  have hpl := Lib.hid (split_part s.toList 46)
  have hsz := Lib.hid (size_toList s)
  have hlen := split_len s.toList 46
  rw [← size_toList] at hlen
  by_cases h1 : 256 < s.size
  · have h1i : (256 : Int) < s.size := by omega
    have hfin := Lib.hid (show nameB s.toList = false by unfold nameB; rw [decide_eq_false (by rw [← hsz.out]; omega : ¬ s.toList.length ≤ 256)]; rfl)
    go_enter Tryz.func69, Tryz.ntmps69
    go_wp2
    go_ret
    exact ⟨ret_bool hfin.out.symm, Below.refl _ _⟩
  have h1i : decide ((256 : Int) < s.size) = false := decide_eq_false (by omega)
  have hF := Lib.hid (show nameB s.toList = (!addrB s.toList && (splitL s.toList 46).all labelB) by unfold nameB; rw [decide_eq_true (by rw [← hsz.out]; omega : s.toList.length ≤ 256)]; rfl)
  go_enter Tryz.func69, Tryz.ntmps69
  go_wp2_with fail
  refine (addr_any s w hs).mono ?_
  rintro e w1 ⟨rfl, hb1⟩
  cases hq : addrB s.toList
  case true =>
    have hQ := Lib.hid hq
    clear hq
    go_wp2
    go_ret
    exact ⟨ret_bool (by rw [hF.out, hQ.out]; rfl), hb1⟩
  have hF2 := Lib.hid (show nameB s.toList = (splitL s.toList 46).all labelB by rw [hF.out, hq]; rfl)
  clear hq
  go_wp2_with fail
  refine (split_any s 46 _ hs).mono ?_
  rintro e w2 ⟨A, c, rfl, hown, hb2⟩
  have hR := Rd.of_own hown
  have hcap := hR.cap
  unfold maxLen at hcap
  obtain ⟨hca, hcb⟩ := hcap
  clear hown
  have hbw2 := bel_call hb1 hb2
  generalize splitL s.toList 46 = l at *
  go_wp2_with fail
  go_loopw [15] (fun i wr => ∃ k : Nat, k ≤ l.length ∧ i = .int .i64 k ∧ Below w2.heap.size w2 wr ∧ Hid ((l.take k).all labelB = true)) (fun i _ => l.length - (intOf i).toNat)
  case atStart => exact ⟨0, Nat.zero_le _, rfl, Below.refl _ _, rfl⟩
  case round =>
    obtain ⟨k, hk, rfl, hbel, hall⟩ := hrel
    have hbw := bel_call hbw2 hbel
    by_cases hlt : k < l.length
    · have hlti : (k : Int) < l.length := by omega
      obtain ⟨b, off, rfl, hb, _, hcell⟩ := rd_str (hR.below hbel) hlt
      have hst := Lib.hid (all_take_stepL (p := labelB) hlt)
      have hbad := Lib.hid (all_badL (p := labelB) hlt)
      have hpm : (S l[k]).size ≤ maxLen := by
        have := hpl.out _ (List.getElem_mem hlt)
        rw [← hsz.out] at this
        rw [S_size]; unfold maxLen; omega
      obtain ⟨p, hp⟩ : ∃ p, l[k] = p := ⟨_, rfl⟩
      rw [hp] at hcell hpm
      have hP := Lib.hid hp
      clear hp
      go_wp2_with fail
      refine (label_any _ _ hpm).mono ?_
      rintro e w' ⟨rfl, rfl⟩
      rw [S_toList]
      cases hy : labelB p
      · have hY := Lib.hid hy
        clear hy
        go_wp2
        go_ret
        exact ⟨ret_bool (by rw [hF2.out, hbad.out (by rw [hP.out]; exact hY.out)]), hbw⟩
      · have hY := Lib.hid hy
        clear hy
        go_wp2
        go_roundw
        case rel => exact ⟨k + 1, by omega, by go_num, hbel, by show _ = _; rw [hst.out, hall.out, hP.out, hY.out]; rfl⟩
        case measure => simp [intOf]; omega
    · obtain rfl : k = l.length := by omega
      have hf := Lib.hid (show l.all labelB = true by have := hall.out; rwa [List.take_length] at this)
      go_wp2
      go_ret
      exact ⟨ret_bool (by rw [hF2.out, hf.out]), hbw⟩

set_option maxHeartbeats 1000000 in
theorem canonical_any (s : ByteArray) (w : World) (hs : s.size ≤ 4294967296) :
    Calls Tryz.prog 76 #[.string s] w fun e w' => e = .returned (.bool (canonB s.toList)) ∧ Below w.heap.size w w' := by
  have hsz := Lib.hid (size_toList s)
  go_enter Tryz.func76, Tryz.ntmps76
  go_wp2_with fail
  refine (name_any s w hs).mono ?_
  rintro e w1 ⟨rfl, hb1⟩
  cases hq : nameB s.toList
  · have hQ := Lib.hid hq
    clear hq
    go_wp2_with fail
    refine (addr_any s w1 hs).mono ?_
    rintro e w2 ⟨rfl, hb2⟩
    have hb3 := bel_call hb1 hb2
    cases hq : addrB s.toList
    · have hQ2 := Lib.hid hq
      clear hq
      go_wp2
      go_ret
      exact ⟨ret_bool (by unfold canonB; rw [hQ.out, hQ2.out]; rfl), hb3⟩
    · have hQ2 := Lib.hid hq
      clear hq
      have hd := Lib.hid (show decide ((s.size : Int) ≤ 256) = decide (s.toList.length ≤ 256) by rw [Bool.eq_iff_iff, ← hsz.out]; simp; omega)
      go_wp2
      all_goals
        go_ret
        refine ⟨ret_bool ?_, hb3⟩
        unfold canonB
        rw [hQ.out, hQ2.out]
        simp only [Bool.false_or, Bool.true_and]
        first | exact hd.out | (rw [← hd.out]; simp; done) | (rw [← hd.out]; symm; simp; omega)
  · have hQ := Lib.hid hq
    clear hq
    go_wp2
    go_ret
    exact ⟨ret_bool (by unfold canonB; rw [hQ.out]; rfl), hb1⟩

def canonT (l : List UInt8) : List UInt8 × Int := if 256 < l.length then ([], 3) else if nameB (lowerL l) || addrB (lowerL l) then (lowerL l, 0) else ([], 1)

set_option maxHeartbeats 1000000 in
theorem canon_any (s : ByteArray) (w : World) (hs : s.size ≤ 4294967296) :
    Calls Tryz.prog 33 #[.string s] w fun e w' => e = .returned (.tuple #[.string (S (canonT s.toList).1), .int .i64 (canonT s.toList).2]) ∧ Below w.heap.size w w' := by
  have hsz := Lib.hid (size_toList s)
  by_cases h1 : 256 < s.size
  · have h1i : (256 : Int) < s.size := by omega
    have hfin := Lib.hid (show canonT s.toList = ([], 3) by unfold canonT; rw [if_pos (by rw [← hsz.out]; omega)])
    go_enter Tryz.func33, Tryz.ntmps33
    go_wp2
    rw [hfin.out]
    go_ret2
    exact ⟨rfl, Below.refl _ _⟩
  have h1i : decide ((256 : Int) < s.size) = false := decide_eq_false (by omega)
  have hF := Lib.hid (show canonT s.toList = if nameB (lowerL s.toList) || addrB (lowerL s.toList) then (lowerL s.toList, 0) else ([], 1) by unfold canonT; rw [if_neg (by rw [← hsz.out]; omega)])
  have hl : (S (lowerL s.toList)).size ≤ 4294967296 := by rw [S_size]; unfold lowerL; rw [List.length_map, ← size_toList]; omega
  go_enter Tryz.func33, Tryz.ntmps33
  go_wp2_with fail
  refine (lowerA_any s w hs).mono ?_
  rintro e w1 ⟨rfl, hb1⟩
  generalize lowerL s.toList = l at *
  go_wp2_with fail
  refine (name_any _ _ hl).mono ?_
  rintro e w2 ⟨rfl, hb2⟩
  have hb3 := bel_call hb1 hb2
  rw [S_toList]
  cases hq : nameB l
  · have hQ := Lib.hid hq
    clear hq
    go_wp2_with fail
    refine (addr_any _ _ hl).mono ?_
    rintro e w4 ⟨rfl, hb4⟩
    have hb5 := bel_call hb3 hb4
    rw [S_toList]
    cases hq : addrB l
    · have hG := Lib.hid (show canonT s.toList = ([], 1) by rw [hF.out, hQ.out, hq]; rfl)
      clear hq
      go_wp2
      rw [hG.out]
      go_ret2
      exact ⟨rfl, hb5⟩
    · have hG := Lib.hid (show canonT s.toList = (l, 0) by rw [hF.out, hQ.out, hq]; rfl)
      clear hq
      go_wp2
      rw [hG.out]
      go_ret2
      exact ⟨rfl, hb5⟩
  · have hG := Lib.hid (show canonT s.toList = (l, 0) by rw [hF.out, hq]; rfl)
    clear hq
    go_wp2
    rw [hG.out]
    go_ret2
    exact ⟨rfl, hb3⟩
end Go.Proofs.YtgfoaopfdpclhaaGreatDoor
namespace Go.Proofs.YtgfoaopfdpclhaaGreatDoor
open Go.RowKit
set_option linter.unusedVariables false
set_option maxRecDepth 100000

set_option maxHeartbeats 2000000 in
theorem hmatch_any (s t : ByteArray) (w : World) (hs : s.size ≤ 4294967296) (ht : t.size ≤ 4294967296) :
    Calls Tryz.prog 39 #[.string s, .string t] w fun e w' => e = .returned (.bool (matchB s.toList t.toList)) ∧ Below w.heap.size w w' := by
  have hm : s.size ≤ maxLen := by unfold maxLen; omega
  have hF := Lib.hid (show matchB s.toList t.toList = (canonB s.toList && canonB t.toList && (s.toList == t.toList || (!addrB s.toList && Lib.hasSuffix s.toList (46 :: t.toList)))) from rfl)
  go_enter Tryz.func39, Tryz.ntmps39
  go_wp2_with fail
  refine (canonical_any s w hs).mono ?_
  rintro e w1 ⟨rfl, hb1⟩
  cases hq : canonB s.toList
  · have hG := Lib.hid (show matchB s.toList t.toList = false by rw [hF.out, hq]; rfl)
    clear hq
    go_wp2
    go_ret
    exact ⟨ret_bool hG.out.symm, hb1⟩
  have hF := Lib.hid (show matchB s.toList t.toList = (canonB t.toList && (s.toList == t.toList || (!addrB s.toList && Lib.hasSuffix s.toList (46 :: t.toList)))) by rw [hF.out, hq]; rfl)
  clear hq
  go_wp2_with fail
  refine (canonical_any t _ ht).mono ?_
  rintro e w2 ⟨rfl, hb2⟩
  have hb3 := bel_call hb1 hb2
  cases hq : canonB t.toList
  · have hG := Lib.hid (show matchB s.toList t.toList = false by rw [hF.out, hq]; rfl)
    clear hq
    go_wp2
    go_ret
    exact ⟨ret_bool hG.out.symm, hb3⟩
  have hF := Lib.hid (show matchB s.toList t.toList = (s.toList == t.toList || (!addrB s.toList && Lib.hasSuffix s.toList (46 :: t.toList))) by rw [hF.out, hq]; rfl)
  clear hq
  by_cases h1 : (s.toList == t.toList) = true
  · have hG := Lib.hid (show matchB s.toList t.toList = true by rw [hF.out, h1]; rfl)
    go_wp2
    go_ret
    exact ⟨ret_bool hG.out.symm, hb3⟩
  have h1' : (s.toList == t.toList) = false := by simpa using h1
  clear h1
  have hF := Lib.hid (show matchB s.toList t.toList = (!addrB s.toList && Lib.hasSuffix s.toList (46 :: t.toList)) by rw [hF.out, h1']; rfl)
  go_wp2_with fail
  refine (addr_any s _ hs).mono ?_
  rintro e w4 ⟨rfl, hb4⟩
  have hb5 := bel_call hb3 hb4
  cases hq : addrB s.toList
  case true =>
    have hG := Lib.hid (show matchB s.toList t.toList = false by rw [hF.out, hq]; rfl)
    clear hq
    go_wp2
    go_ret
    exact ⟨ret_bool hG.out.symm, hb5⟩
  have hF := Lib.hid (show matchB s.toList t.toList = Lib.hasSuffix s.toList (46 :: t.toList) by rw [hF.out, hq]; rfl)
  clear hq
  have ht1 : 1 + t.size ≤ maxLen := by unfold maxLen; omega
  go_wp2_with fail
  refine (hasSuffix_any s _ _ hm (by first | exact ht1 | (rw [append_S, S_size]; simp [← size_toList]; omega))).mono ?_
  rintro e w6 ⟨rfl, rfl⟩
  go_wp2
  go_ret
  exact ⟨ret_bool (by rw [hF.out, append_l, show ({ data := #[46] } : ByteArray).toList = [46] from S_toList [46]]; rfl), hb5⟩

set_option maxHeartbeats 1000000 in
theorem labels_yes (s : ByteArray) (w : World) (hs : s.size ≤ 4294967296) (h : nameB s.toList = true) :
    Calls Tryz.prog 81 #[.string s] w fun e w' => ∃ A c, e = .returned (.slice A (splitL s.toList 46).length c) ∧ w'.ownsRow w.heap.size 9 1 (.slice A (splitL s.toList 46).length c) (splitL s.toList 46).length ((splitL s.toList 46).map strV) ∧ Below w.heap.size w w' := by
  go_enter Tryz.func81, Tryz.ntmps81
  go_wp2_with fail
  refine (name_any s w hs).mono ?_
  rintro e w1 ⟨rfl, hb1⟩
  go_wp2_with fail
  refine (split_any s 46 _ hs).mono ?_
  rintro e w2 ⟨A, c, rfl, hown, hb2⟩
  have hbw2 := bel_call hb1 hb2
  go_wp2
  go_ret
  exact ⟨A, c, rfl, own_base hown hb1.size, hbw2⟩

set_option maxHeartbeats 1000000 in
theorem labels_no (s : ByteArray) (w : World) (hs : s.size ≤ 4294967296) (h : nameB s.toList = false) :
    Calls Tryz.prog 81 #[.string s] w fun e w' => e = .returned (.slice none 0 0) ∧ Below w.heap.size w w' := by
  go_enter Tryz.func81, Tryz.ntmps81
  go_wp2_with fail
  refine (name_any s w hs).mono ?_
  rintro e w1 ⟨rfl, hb1⟩
  go_wp2
  go_ret
  exact ⟨rfl, hb1⟩

def upP (l : List UInt8) : List UInt8 × Bool := if nameB l then match cutL l 46 with | none => ([], false) | some p => (p.2, true) else ([], false)

end Go.Proofs.YtgfoaopfdpclhaaGreatDoor
