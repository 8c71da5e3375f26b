/-
  The walks of package host.
-/
import Derived.Test.YtgfoaopfdpclhaaAscii6
namespace Go.Proofs.Ytgfoaopfdpclhaa
open Go.RowKit
set_option linter.unusedVariables false

def signB (c : UInt8) (fin : Bool) : Bool := if c.toNat = 45 then !fin else decide ((97 ≤ c.toNat ∧ c.toNat ≤ 122) ∨ (48 ≤ c.toNat ∧ c.toNat ≤ 57) ∨ c.toNat = 95)
def labelB (l : List UInt8) : Bool := !l.isEmpty && decide (l.length ≤ 63) && (List.range l.length).all fun j => signB (l.getD j 0) (j == 0 || j == l.length - 1)
def partB (p : List UInt8) : Bool := !p.isEmpty && !decide (digN p < p.length) && !decide (255 < numV p) && !(decide (1 < p.length) && p.getD 0 0 == 48)
def fourB (s : List UInt8) : Bool := decide ((splitL s 46).length = 4) && (splitL s 46).all partB
def hexB (c : UInt8) : Bool := decide ((48 ≤ c.toNat ∧ c.toNat ≤ 57) ∨ (97 ≤ c.toNat ∧ c.toNat ≤ 102) ∨ c.toNat = 58 ∨ c.toNat = 46)
def bracketB (s : List UInt8) : Bool := decide (4 ≤ s.length) && decide (s.length ≤ 47) && s.getD 0 0 == 91 && s.getD (s.length - 1) 0 == 93 && ((s.drop 1).take (s.length - 2)).all hexB
def addrB (s : List UInt8) : Bool := fourB s || bracketB s
def nameB (s : List UInt8) : Bool := decide (s.length ≤ 256) && !addrB s && (splitL s 46).all labelB
def canonB (s : List UInt8) : Bool := nameB s || (addrB s && decide (s.length ≤ 256))
def matchB (h d : List UInt8) : Bool := canonB h && canonB d && (h == d || (!addrB h && Lib.hasSuffix h (46 :: d)))

theorem range_all {n : Nat} {p : Nat → Bool} : (List.range n).all p = true ↔ ∀ j, j < n → p j = true := by
  simp [List.all_eq_true]
theorem range_bad {n k : Nat} {p : Nat → Bool} (hk : k < n) (h : p k = false) : (List.range n).all p = false := by
  rw [List.all_eq_false]
  exact ⟨k, by simpa using hk, by simp [h]⟩

set_option maxHeartbeats 400000 in
theorem hsign_any (c : UInt8) (b : Bool) (w : World) :
    Calls Try.prog 97 #[.int .u8 c.toNat, .bool b] w fun e w' => e = .returned (.bool (signB c b)) ∧ w = w' := by
  have hc : c.toNat < 256 := c.toNat_lt
  cases b
  all_goals
    go_enter Try.func97, Try.ntmps97
    go_wp2
    all_goals
      go_ret
      refine ⟨ret_bool (Eq.symm ?_), rfl⟩
      unfold signB
      simp only [beq_iff_eq, beq_eq_false_iff_ne] at *
      first
        | (rw [if_pos (by omega)]; rfl)
        | (rw [if_neg (by omega)]; exact decide_eq_true (by omega))
        | (rw [if_neg (by omega)]; exact decide_eq_false (by omega))

theorem ends_eq (k n : Nat) : ((k : Int) == 0) = (k == 0) ∧ (((k : Int) == (n : Int) - 1)) = decide (k + 1 = n) := by
  constructor
  · rw [Bool.eq_iff_iff]; simp
  · rw [Bool.eq_iff_iff]; simp; omega

set_option maxHeartbeats 1000000 in
theorem label_any (s : ByteArray) (w : World) (hs : s.size ≤ maxLen) :
    Calls Try.prog 83 #[.string s] w fun e w' => e = .returned (.bool (labelB s.toList)) ∧ w = w' := by
  unfold maxLen at hs
  have hsz := Lib.hid (size_toList s)
  have he0 := Lib.hid (isEmpty_size s)
  by_cases h0 : s.size = 0
  · have he : s.toList.isEmpty = true := by rw [he0.out]; exact decide_eq_true h0
    have hfin := Lib.hid (show labelB s.toList = false by unfold labelB; rw [he]; rfl)
    clear h0
    go_enter Try.func83, Try.ntmps83
    go_wp2
    go_ret
    exact ⟨ret_bool hfin.out.symm, rfl⟩
  have he : s.toList.isEmpty = false := by rw [he0.out]; exact decide_eq_false h0
  by_cases h1 : 63 < s.size
  · have h1i : (63 : Int) < s.size := by omega
    have hfin := Lib.hid (show labelB s.toList = false by unfold labelB; rw [decide_eq_false (by rw [← hsz.out]; omega), Bool.and_false, Bool.false_and])
    go_enter Try.func83, Try.ntmps83
    go_wp2
    go_ret
    exact ⟨ret_bool hfin.out.symm, rfl⟩
  have h1i : decide ((63 : Int) < s.size) = false := decide_eq_false (by omega)
  have hfin := Lib.hid (show labelB s.toList = (List.range s.size).all fun j => signB (s.toList.getD j 0) (j == 0 || j == s.size - 1) by
    unfold labelB; rw [he, ← hsz.out, decide_eq_true (by omega)]; rfl)
  go_enter Try.func83, Try.ntmps83
  go_wp2
  go_loop [13] (fun i => ∃ k : Nat, k ≤ s.size ∧ i = .int .i64 k ∧ Hid (∀ j, j < k → signB (s.toList.getD j 0) (j == 0 || j == s.size - 1) = true)) (fun i => s.size - (intOf i).toNat)
  case atStart => exact ⟨0, Nat.zero_le _, rfl, fun j hj => absurd hj (by omega)⟩
  case round =>
    obtain ⟨k, hk, rfl, hall⟩ := hrel
    by_cases hlt : k < s.size
    · have hlti : (k : Int) < s.size := by omega
      have hx := Lib.hid (get_l s k hlt)
      have hcs : ((((k : Int) == 0) = true) ∧ (k == 0 || k == s.size - 1) = true) ∨ ((((k : Int) == 0) = false) ∧ ((((k : Int) == (s.size : Int) - 1)) = true) ∧ (k == 0 || k == s.size - 1) = true) ∨ ((((k : Int) == 0) = false) ∧ ((((k : Int) == (s.size : Int) - 1)) = false) ∧ (k == 0 || k == s.size - 1) = false) := by
        simp only [beq_iff_eq, beq_eq_false_iff_ne, Bool.or_eq_true, Bool.or_eq_false_iff]
        omega
      rcases hcs with ⟨e1, e2⟩ | ⟨e1, e1', e2⟩ | ⟨e1, e1', e2⟩
      all_goals
        have hE := Lib.hid e2
        clear e2
        go_wp2_with fail
        refine (hsign_any _ _ _).mono ?_
        rintro e w' ⟨rfl, rfl⟩
        first
        | (cases hb : signB s[k] true
           · have hbad := Lib.hid (show labelB s.toList = false by rw [hfin.out]; exact range_bad hlt (by rw [← hx.out, hE.out]; exact hb))
             go_wp2
             go_ret
             exact ⟨ret_bool hbad.out.symm, rfl⟩
           · have hg := Lib.hid hb
             go_wp2
             go_round
             case rel => exact ⟨k + 1, by omega, by go_num, all_step hall.out (by rw [← hx.out, hE.out]; exact hg.out)⟩
             case measure => simp [intOf]; omega)
        | (cases hb : signB s[k] false
           · have hbad := Lib.hid (show labelB s.toList = false by rw [hfin.out]; exact range_bad hlt (by rw [← hx.out, hE.out]; exact hb))
             go_wp2
             go_ret
             exact ⟨ret_bool hbad.out.symm, rfl⟩
           · have hg := Lib.hid hb
             go_wp2
             go_round
             case rel => exact ⟨k + 1, by omega, by go_num, all_step hall.out (by rw [← hx.out, hE.out]; exact hg.out)⟩
             case measure => simp [intOf]; omega)
    · obtain rfl : k = s.size := by omega
      have hf := Lib.hid (show labelB s.toList = true by rw [hfin.out]; exact range_all.2 hall.out)
      go_wp2
      go_ret
      exact ⟨ret_bool hf.out.symm, rfl⟩
end Go.Proofs.Ytgfoaopfdpclhaa
