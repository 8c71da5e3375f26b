/-
  Joined texts: Date3 Date4 Date5 Date6.
-/
import Derived.Test.YtgfoaopfdpclhaaGreatDoorBu3
namespace Go.Proofs.YtgfoaopfdpclhaaGreatDoor
open Go.RowKit
set_option linter.unusedVariables false
set_option maxRecDepth 100000

def delimB (c : UInt8) : Bool := decide (c.toNat = 9 ∨ (32 ≤ c.toNat ∧ c.toNat ≤ 47) ∨ (59 ≤ c.toNat ∧ c.toNat ≤ 64) ∨ (91 ≤ c.toNat ∧ c.toNat ≤ 96) ∨ (123 ≤ c.toNat ∧ c.toNat ≤ 126))

set_option maxRecDepth 4000 in
set_option maxHeartbeats 2000000 in
theorem delim_any (c : UInt8) (w : World) :
    Calls Tryz.prog 129 #[.int .u8 c.toNat] w fun e w' => e = .returned (.bool (delimB c)) ∧ w = w' := by
  have hc : c.toNat < 256 := c.toNat_lt
  go_enter Tryz.func129, Tryz.ntmps129
  go_wp2
  all_goals
    go_ret
    refine ⟨ret_bool (Eq.symm ?_), rfl⟩
    unfold delimB
    try simp only [decide_eq_true_eq] at *
    first
      | exact decide_eq_true (by omega)
      | exact decide_eq_false (by omega)
      | omega
      | (rw [Bool.eq_iff_iff]; simp; omega)

set_option maxRecDepth 4000 in
set_option maxHeartbeats 2000000 in
theorem refDelim_any (c : UInt8) (w : World) :
    Calls Tryz.prog 121 #[.int .u8 c.toNat] w fun e w' => e = .returned (.bool (delimB c)) ∧ w = w' := by
  have hc : c.toNat < 256 := c.toNat_lt
  go_enter Tryz.func121, Tryz.ntmps121
  go_wp2
  all_goals
    go_ret
    refine ⟨ret_bool (Eq.symm ?_), rfl⟩
    unfold delimB
    try simp only [decide_eq_true_eq] at *
    first
      | exact decide_eq_true (by omega)
      | exact decide_eq_false (by omega)
      | omega
      | (rw [Bool.eq_iff_iff]; simp; omega)

def twoL (n : Int) : List UInt8 := [48 + UInt8.ofNat (n.toNat / 10), 48 + UInt8.ofNat (n.toNat % 10)]
def fieldT (l : List UInt8) (a b : Int) : Int × List UInt8 × Bool := if (digN l : Int) < a ∨ b < digN l then (0, l, false) else (numV (l.take (digN l)), l.drop (digN l), true)
set_option maxHeartbeats 1000000 in
theorem field_any (s : ByteArray) (a b : Int) (w : World) (hs : s.size ≤ maxLen) :
    Calls Tryz.prog 131 #[.string s, .int .i64 a, .int .i64 b] w fun e w' => e = .returned (.tuple #[.int .i64 (fieldT s.toList a b).1, .string (S (fieldT s.toList a b).2.1), .bool (fieldT s.toList a b).2.2]) ∧ Below w.heap.size w w' := by
  have hsz := Lib.hid (size_toList s)
  have hdl := digN_le s.toList
  rw [← size_toList] at hdl
  have hs' := hs
  unfold maxLen at hs'
  by_cases h1 : (digN s.toList : Int) < a
  · have hT := Lib.hid (show fieldT s.toList a b = (0, s.toList, false) from if_pos (.inl h1))
    go_enter Tryz.func131, Tryz.ntmps131
    go_wp2_with fail
    refine (digits_any _ _ hs).mono ?_
    rintro e w' ⟨rfl, rfl⟩
    go_wp2
    rw [hT.out]
    go_ret3
    exact ⟨by rw [S_of]; rfl, Below.refl _ _⟩
  by_cases h2 : b < (digN s.toList : Int)
  · have hT := Lib.hid (show fieldT s.toList a b = (0, s.toList, false) from if_pos (.inr h2))
    have h1i : decide ((digN s.toList : Int) < a) = false := decide_eq_false h1
    go_enter Tryz.func131, Tryz.ntmps131
    go_wp2_with fail
    refine (digits_any _ _ hs).mono ?_
    rintro e w' ⟨rfl, rfl⟩
    go_wp2
    rw [hT.out]
    go_ret3
    exact ⟨by rw [S_of]; rfl, Below.refl _ _⟩
  have hT := Lib.hid (show fieldT s.toList a b = (numV (s.toList.take (digN s.toList)), s.toList.drop (digN s.toList), true) from if_neg (by rintro (h | h); exact h1 h; exact h2 h))
  have h1i : decide ((digN s.toList : Int) < a) = false := decide_eq_false h1
  have h2i : decide (b < (digN s.toList : Int)) = false := decide_eq_false h2
  have hx1 := Lib.hid (extract_to s (digN s.toList))
  have hx2 := Lib.hid (extract_from s (digN s.toList))
  generalize hkk : digN s.toList = k at *
  have hkH := Lib.hid hkk
  clear hkk
  have hki : (k : Int) ≤ s.size := by omega
  have hz : (s.extract 0 k).size ≤ maxLen := by rw [hx1.out, S_size, List.length_take]; omega
  go_enter Tryz.func131, Tryz.ntmps131
  go_wp2_with fail
  refine (digits_any _ _ hs).mono ?_
  rintro e w' ⟨rfl, rfl⟩
  rw [hkH.out]
  go_wp2_with fail
  refine (number_any _ _ hz).mono ?_
  rintro e w' ⟨rfl, rfl⟩
  rw [hx1.out, S_toList]
  go_wp2
  go_quiet (fail)
  go_wp2
  rw [hT.out]
  go_ret3
  exact ⟨by rw [← hx2.out]; rfl, below_drews (Below.refl _ _) _⟩
end Go.Proofs.YtgfoaopfdpclhaaGreatDoor
namespace Go.Proofs.YtgfoaopfdpclhaaGreatDoor
open Go.RowKit
set_option linter.unusedVariables false
set_option maxRecDepth 100000

def fullI (y : Int) : Int := if y < 70 then y + 2000 else if y < 100 then y + 1900 else y

set_option maxHeartbeats 1000000 in
theorem full_any (y : Int) (w : World) (h1 : 0 ≤ y) (h2 : y ≤ 9999) :
    Calls Tryz.prog 114 #[.int .i64 y] w fun e w' => e = .returned (.int .i64 (fullI y)) ∧ w = w' := by
  go_enter Tryz.func114, Tryz.ntmps114
  go_wp2
  all_goals
    go_ret
    refine ⟨ret_int ?_, rfl⟩
    unfold fullI
    first
      | rw [if_pos (by omega)]
      | rw [if_neg (by omega), if_pos (by omega)]
      | rw [if_neg (by omega), if_neg (by omega)]

/-- The parts of a text between delimiters. -/
def tokGo : List UInt8 → List UInt8 → List (List UInt8)
  | cur, [] => if cur.isEmpty then [] else [cur]
  | cur, c :: r => if delimB c then (if cur.isEmpty then tokGo [] r else cur :: tokGo [] r) else tokGo (cur ++ [c]) r
def tokensL (l : List UInt8) : List (List UInt8) := tokGo [] l
end Go.Proofs.YtgfoaopfdpclhaaGreatDoor
namespace Go.Proofs.YtgfoaopfdpclhaaGreatDoor
open Go.RowKit
set_option linter.unusedVariables false
set_option maxRecDepth 100000

theorem tokGo_len (cur l : List UInt8) : (tokGo cur l).length ≤ l.length + 1 := by
  induction l generalizing cur with
  | nil => unfold tokGo; split <;> simp
  | cons c r ih =>
    unfold tokGo
    have h1 := ih []
    have h2 := ih (cur ++ [c])
    split
    · split
      · simp; omega
      · simp; omega
    · simp; omega
/-- What is parted when the look has come to k, the present part having begun at f. -/
theorem tok_in {l : List UInt8} {f k : Nat} (hf : f ≤ k) (hk : k < l.length) (h : delimB (l.getD k 0) = false) : tokGo ((l.drop f).take (k - f)) (l.drop k) = tokGo ((l.drop f).take (k + 1 - f)) (l.drop (k + 1)) := by
  rw [drop_getD l k hk, tokGo, if_neg (by rw [h]; decide)]
  congr 1
  rw [show k + 1 - f = (k - f) + 1 by omega, take_succ_getD _ _ (by simp; omega)]
  congr 2
  rw [List.getD_eq_getElem?_getD, List.getD_eq_getElem?_getD, List.getElem?_drop]
  congr 2
  omega
theorem tok_cut {l : List UInt8} {f k : Nat} (hf : f ≤ k) (hk : k < l.length) (h : delimB (l.getD k 0) = true) : tokGo ((l.drop f).take (k - f)) (l.drop k) = (if f < k then [(l.drop f).take (k - f)] else []) ++ tokGo ((l.drop (k + 1)).take (k + 1 - (k + 1))) (l.drop (k + 1)) := by
  rw [drop_getD l k hk, tokGo, if_pos h]
  have e : ((l.drop f).take (k - f)).length = k - f := by simp; omega
  by_cases hfk : f < k
  · have : ((l.drop f).take (k - f)).isEmpty = false := by
      cases hh : (l.drop f).take (k - f) with
      | nil => rw [hh] at e; simp at e; omega
      | cons a b => rfl
    rw [this, if_pos hfk]; simp
  · have : (l.drop f).take (k - f) = [] := by rw [show k - f = 0 by omega]; simp
    rw [this, if_neg hfk]; simp
theorem tok_end {l : List UInt8} {f : Nat} (hf : f ≤ l.length) : tokGo ((l.drop f).take (l.length - f)) (l.drop l.length) = (if f < l.length then [(l.drop f).take (l.length - f)] else []) := by
  rw [List.drop_length, tokGo]
  have e : ((l.drop f).take (l.length - f)).length = l.length - f := by simp
  by_cases hfk : f < l.length
  · have : ((l.drop f).take (l.length - f)).isEmpty = false := by
      cases hh : (l.drop f).take (l.length - f) with
      | nil => rw [hh] at e; simp at e; omega
      | cons a b => rfl
    rw [this, if_pos hfk]; simp
  · have : (l.drop f).take (l.length - f) = [] := by rw [show l.length - f = 0 by omega]; simp
    rw [this, if_neg hfk]; rfl
end Go.Proofs.YtgfoaopfdpclhaaGreatDoor
namespace Go.Proofs.YtgfoaopfdpclhaaGreatDoor
open Go.RowKit
set_option linter.unusedVariables false
set_option maxRecDepth 100000

set_option maxHeartbeats 2000000 in
theorem tokens_any (s : ByteArray) (w : World) (hs : s.size ≤ 4294967296) :
    Calls Tryz.prog 111 #[.string s] w fun e w' => ∃ A cp, e = .returned (.slice A (tokensL s.toList).length cp) ∧
      w'.ownsRow w.heap.size 9 1 (.slice A (tokensL s.toList).length cp) (tokensL s.toList).length ((tokensL s.toList).map strV) ∧ Below w.heap.size w w' := by
  obtain ⟨i0, hi, hz0, hz1, hz2⟩ := info_parts Tryz.info9
  have hsz := Lib.hid (size_toList s)
  have htl : (tokensL s.toList).length ≤ s.size + 1 := by unfold tokensL; rw [size_toList]; exact tokGo_len _ _
  have hst := Lib.hid (show tokensL s.toList = [] ++ tokGo ((s.toList.drop 0).take (0 - 0)) (s.toList.drop 0) by simp [tokensL])
  go_enter Tryz.func111, Tryz.ntmps111
  go_wp2
  go_loopw [3, 4, 5] (fun v p i wr => ∃ (k f : Nat) (acc : List (List UInt8)), i = .int .i64 k ∧ p = .int .i64 f ∧ f ≤ k ∧ k ≤ s.size + 1 ∧ wr.ownsRow w.heap.size 9 1 v acc.length (acc.map strV) ∧ Below w.heap.size w wr ∧ w.heap.size ≤ wr.heap.size ∧ Hid (k ≤ s.size → tokensL s.toList = acc ++ tokGo ((s.toList.drop f).take (k - f)) (s.toList.drop k)) ∧ Hid (k = s.size + 1 → tokensL s.toList = acc)) (fun _ _ i _ => s.size + 2 - (intOf i).toNat)
  case atStart => exact ⟨0, 0, [], rfl, rfl, Nat.le_refl _, by omega, World.ownsRow_nil _ _ _ _, Below.refl _ _, Nat.le_refl _, fun _ => hst.out, fun h => by omega⟩
  case round =>
    obtain ⟨k, f, acc, rfl, rfl, hfk, hk, hown, hbel, hsz', hin, hend⟩ := hrel
    by_cases hlt : k < s.size
    · have hlti : (k : Int) < s.size := by omega
      have hle : (k : Int) ≤ s.size := by omega
      have hx := Lib.hid (get_l s k hlt)
      cases hd : delimB s[k]
      · have hD := Lib.hid hd
        clear hd
        go_wp2_with fail
        refine (delim_any _ _).mono ?_
        rintro e w' ⟨rfl, rfl⟩
        rw [hD.out]
        go_wp2_with fail
        go_roundw
        case rel => exact ⟨k + 1, f, acc, by go_num, rfl, by omega, by omega, hown, hbel, hsz', fun _ => by rw [hin.out (by omega), tok_in hfk (by rw [← hsz.out]; exact hlt) (by rw [← hx.out]; exact hD.out)], fun h => by omega⟩
        case measure => simp [intOf]; omega
      · have hD := Lib.hid hd
        clear hd
        have hcut := Lib.hid (tok_cut hfk (by rw [← hsz.out]; exact hlt) (by rw [← hx.out]; exact hD.out) : tokGo ((s.toList.drop f).take (k - f)) (s.toList.drop k) = _)
        by_cases hf : f < k
        · have hfi : decide ((f : Nat) < k) = true := decide_eq_true hf
          have hch := Lib.hid (show tokensL s.toList = (acc ++ [(s.toList.drop f).take (k - f)]) ++ tokGo ((s.toList.drop (k + 1)).take (k + 1 - (k + 1))) (s.toList.drop (k + 1)) by rw [hin.out (by omega), hcut.out, if_pos hf, List.append_assoc])
          have hacc : acc.length + 1 ≤ s.size + 1 := by
            have h1 := congrArg List.length hch.out
            simp at h1
            omega
          have hxt := Lib.hid (extract_S s f k)
          have hfi2 : (f : Int) ≤ k := by omega
          clear hcut hin hend
          go_wp2_with fail
          refine (delim_any _ _).mono ?_
          rintro e w' ⟨rfl, rfl⟩
          rw [hD.out]
          go_wp2_with (first
            | (at_builtin; refine wpList_push rfl _ _ 22 rfl w.heap.size 9 i0 (.string ByteArray.empty) 1 16 Tryz.underlying22 hi hz0 hz1 hz2 rfl (by decide) _ _ _ rfl hown _ _ rfl rfl rfl ?c1 ?c2 ?c3 hsz' hbel ?_))
          case c1 => exact rfl
          case c2 => unfold maxLen; omega
          case c3 => omega
          intro v' w' hown' hg hbel' hsz2
          go_wp2
          go_roundw
          case rel =>
            refine ⟨k + 1, k + 1, acc ++ [(s.toList.drop f).take (k - f)], by go_num, by go_num, Nat.le_refl _, by omega, ?_, hbel', hsz2, fun _ => hch.out, fun h => by omega⟩
            rw [List.map_append, List.length_append]
            rw [hxt.out] at hown'
            exact hown'
          case measure => simp [intOf]; omega
        · have hfi : decide ((f : Nat) < k) = false := decide_eq_false hf
          have hch := Lib.hid (show tokensL s.toList = acc ++ tokGo ((s.toList.drop (k + 1)).take (k + 1 - (k + 1))) (s.toList.drop (k + 1)) by rw [hin.out (by omega), hcut.out, if_neg hf, List.nil_append])
          clear hcut hin hend
          go_wp2_with fail
          refine (delim_any _ _).mono ?_
          rintro e w' ⟨rfl, rfl⟩
          rw [hD.out]
          go_wp2_with fail
          go_roundw
          case rel => exact ⟨k + 1, k + 1, acc, by go_num, by go_num, Nat.le_refl _, by omega, hown, hbel, hsz', fun _ => hch.out, fun h => by omega⟩
          case measure => simp [intOf]; omega
    · by_cases hk2 : k = s.size
      · subst hk2
        have hcut := Lib.hid (show tokGo ((s.toList.drop f).take (s.size - f)) (s.toList.drop s.size) = (if f < s.size then [(s.toList.drop f).take (s.size - f)] else []) by
          have := tok_end (l := s.toList) (f := f) (by rw [← hsz.out]; exact hfk)
          rwa [← hsz.out] at this)
        by_cases hf : f < s.size
        · have hch := Lib.hid (show tokensL s.toList = acc ++ [(s.toList.drop f).take (s.size - f)] by rw [hin.out (Nat.le_refl _), hcut.out, if_pos hf])
          have hacc : acc.length + 1 ≤ s.size + 1 := by
            have h1 := congrArg List.length hch.out
            simp at h1
            omega
          have hxt := Lib.hid (extract_S s f s.size)
          have hfi2 : (f : Int) ≤ s.size := by omega
          clear hcut hin hend
          go_wp2_with (first
            | (at_builtin; refine wpList_push rfl _ _ 22 rfl w.heap.size 9 i0 (.string ByteArray.empty) 1 16 Tryz.underlying22 hi hz0 hz1 hz2 rfl (by decide) _ _ _ rfl hown _ _ rfl rfl rfl ?c1 ?c2 ?c3 hsz' hbel ?_))
          case c1 => exact rfl
          case c2 => unfold maxLen; omega
          case c3 => omega
          intro v' w' hown' hg hbel' hsz2
          go_wp2
          go_roundw
          case rel =>
            refine ⟨s.size + 1, s.size + 1, acc ++ [(s.toList.drop f).take (s.size - f)], by go_num, by go_num, Nat.le_refl _, by omega, ?_, hbel', hsz2, fun h => by omega, fun _ => hch.out⟩
            rw [List.map_append, List.length_append]
            rw [hxt.out] at hown'
            exact hown'
          case measure => simp [intOf] <;> omega
        · have hch := Lib.hid (show tokensL s.toList = acc by rw [hin.out (Nat.le_refl _), hcut.out, if_neg hf, List.append_nil])
          clear hcut hin hend
          go_wp2_with fail
          go_roundw
          case rel => exact ⟨s.size + 1, s.size + 1, acc, by go_num, by go_num, Nat.le_refl _, by omega, hown, hbel, hsz', fun h => by omega, fun _ => hch.out⟩
          case measure => simp [intOf] <;> omega
      · have hk3 : (s.size : Int) < k := by omega
        have hch := Lib.hid (hend.out (by omega))
        clear hin hend
        go_wp2_with fail
        go_ret
        rw [hch.out]
        obtain ⟨A, cp, rfl⟩ := own_form hown
        exact ⟨A, cp, rfl, hown, hbel⟩
end Go.Proofs.YtgfoaopfdpclhaaGreatDoor
