/-
  Joined texts: Host Host2.
-/
import Derived.Test.YtgfoaopfdpclhaaGreatDoorBu2
namespace Go.Proofs.YtgfoaopfdpclhaaGreatDoor
open Go.RowKit
set_option linter.unusedVariables false
set_option maxRecDepth 100000

def signB (c : UInt8) (fin : Bool) : Bool := if c.toNat = 45 then !fin else decide ((97 ≤ c.toNat ∧ c.toNat ≤ 122) ∨ (48 ≤ c.toNat ∧ c.toNat ≤ 57) ∨ c.toNat = 95)
def labelB (l : List UInt8) : Bool := !l.isEmpty && decide (l.length ≤ 63) && (List.range l.length).all fun j => signB (l.getD j 0) (j == 0 || j == l.length - 1)
def partB (p : List UInt8) : Bool := !p.isEmpty && !decide (digN p < p.length) && !decide (255 < numV p) && !(decide (1 < p.length) && p.getD 0 0 == 48)
def fourB (s : List UInt8) : Bool := decide ((splitL s 46).length = 4) && (splitL s 46).all partB
def hexB (c : UInt8) : Bool := decide ((48 ≤ c.toNat ∧ c.toNat ≤ 57) ∨ (97 ≤ c.toNat ∧ c.toNat ≤ 102) ∨ c.toNat = 58 ∨ c.toNat = 46)
def bracketB (s : List UInt8) : Bool := decide (4 ≤ s.length) && decide (s.length ≤ 47) && s.getD 0 0 == 91 && s.getD (s.length - 1) 0 == 93 && ((s.drop 1).take (s.length - 2)).all hexB
def addrB (s : List UInt8) : Bool := fourB s || bracketB s
def nameB (s : List UInt8) : Bool := decide (s.length ≤ 256) && !addrB s && (splitL s 46).all labelB
def canonB (s : List UInt8) : Bool := nameB s || (addrB s && decide (s.length ≤ 256))
def matchB (h d : List UInt8) : Bool := canonB h && canonB d && (h == d || (!addrB h && Lib.hasSuffix h (46 :: d)))

theorem range_all {n : Nat} {p : Nat → Bool} : (List.range n).all p = true ↔ ∀ j, j < n → p j = true := by
  simp [List.all_eq_true]
theorem range_bad {n k : Nat} {p : Nat → Bool} (hk : k < n) (h : p k = false) : (List.range n).all p = false := by
  rw [List.all_eq_false]
  exact ⟨k, by simpa using hk, by simp [h]⟩

set_option maxHeartbeats 400000 in
theorem hsign_any (c : UInt8) (b : Bool) (w : World) :
    Calls Tryz.prog 124 #[.int .u8 c.toNat, .bool b] w fun e w' => e = .returned (.bool (signB c b)) ∧ w = w' := by
  have hc : c.toNat < 256 := c.toNat_lt
  cases b
  all_goals
    go_enter Tryz.func124, Tryz.ntmps124
    go_wp2
    all_goals
      go_ret
      refine ⟨ret_bool (Eq.symm ?_), rfl⟩
      unfold signB
      simp only [beq_iff_eq, beq_eq_false_iff_ne] at *
      first
        | (rw [if_pos (by omega)]; rfl)
        | (rw [if_neg (by omega)]; exact decide_eq_true (by omega))
        | (rw [if_neg (by omega)]; exact decide_eq_false (by omega))

theorem ends_eq (k n : Nat) : ((k : Int) == 0) = (k == 0) ∧ (((k : Int) == (n : Int) - 1)) = decide (k + 1 = n) := by
  constructor
  · rw [Bool.eq_iff_iff]; simp
  · rw [Bool.eq_iff_iff]; simp; omega

set_option maxHeartbeats 1000000 in
theorem label_any (s : ByteArray) (w : World) (hs : s.size ≤ maxLen) :
    Calls Tryz.prog 99 #[.string s] w fun e w' => e = .returned (.bool (labelB s.toList)) ∧ w = w' := by
  unfold maxLen at hs
  have hsz := Lib.hid (size_toList s)
  have he0 := Lib.hid (isEmpty_size s)
  by_cases h0 : s.size = 0
  · have he : s.toList.isEmpty = true := by rw [he0.out]; exact decide_eq_true h0
    have hfin := Lib.hid (show labelB s.toList = false by unfold labelB; rw [he]; rfl)
    clear h0
    go_enter Tryz.func99, Tryz.ntmps99
    go_wp2
    go_ret
    exact ⟨ret_bool hfin.out.symm, rfl⟩
  have he : s.toList.isEmpty = false := by rw [he0.out]; exact decide_eq_false h0
  by_cases h1 : 63 < s.size
  · have h1i : (63 : Int) < s.size := by omega
    have hfin := Lib.hid (show labelB s.toList = false by unfold labelB; rw [decide_eq_false (by rw [← hsz.out]; omega), Bool.and_false, Bool.false_and])
    go_enter Tryz.func99, Tryz.ntmps99
    go_wp2
    go_ret
    exact ⟨ret_bool hfin.out.symm, rfl⟩
  have h1i : decide ((63 : Int) < s.size) = false := decide_eq_false (by omega)
  have hfin := Lib.hid (show labelB s.toList = (List.range s.size).all fun j => signB (s.toList.getD j 0) (j == 0 || j == s.size - 1) by
    unfold labelB; rw [he, ← hsz.out, decide_eq_true (by omega)]; rfl)
  go_enter Tryz.func99, Tryz.ntmps99
  go_wp2
  go_loop [13] (fun i => ∃ k : Nat, k ≤ s.size ∧ i = .int .i64 k ∧ Hid (∀ j, j < k → signB (s.toList.getD j 0) (j == 0 || j == s.size - 1) = true)) (fun i => s.size - (intOf i).toNat)
  case atStart => exact ⟨0, Nat.zero_le _, rfl, fun j hj => absurd hj (by omega)⟩
  case round =>
    obtain ⟨k, hk, rfl, hall⟩ := hrel
    by_cases hlt : k < s.size
    · have hlti : (k : Int) < s.size := by omega
      have hx := Lib.hid (get_l s k hlt)
      have hcs : ((((k : Int) == 0) = true) ∧ (k == 0 || k == s.size - 1) = true) ∨ ((((k : Int) == 0) = false) ∧ ((((k : Int) == (s.size : Int) - 1)) = true) ∧ (k == 0 || k == s.size - 1) = true) ∨ ((((k : Int) == 0) = false) ∧ ((((k : Int) == (s.size : Int) - 1)) = false) ∧ (k == 0 || k == s.size - 1) = false) := by
        simp only [beq_iff_eq, beq_eq_false_iff_ne, Bool.or_eq_true, Bool.or_eq_false_iff]
        omega
      rcases hcs with ⟨e1, e2⟩ | ⟨e1, e1', e2⟩ | ⟨e1, e1', e2⟩
      all_goals
        have hE := Lib.hid e2
        clear e2
        go_wp2_with fail
        refine (hsign_any _ _ _).mono ?_
        rintro e w' ⟨rfl, rfl⟩
        first
        | (cases hb : signB s[k] true
           · have hbad := Lib.hid (show labelB s.toList = false by rw [hfin.out]; exact range_bad hlt (by rw [← hx.out, hE.out]; exact hb))
             go_wp2
             go_ret
             exact ⟨ret_bool hbad.out.symm, rfl⟩
           · have hg := Lib.hid hb
             go_wp2
             go_round
             case rel => exact ⟨k + 1, by omega, by go_num, all_step hall.out (by rw [← hx.out, hE.out]; exact hg.out)⟩
             case measure => simp [intOf]; omega)
        | (cases hb : signB s[k] false
           · have hbad := Lib.hid (show labelB s.toList = false by rw [hfin.out]; exact range_bad hlt (by rw [← hx.out, hE.out]; exact hb))
             go_wp2
             go_ret
             exact ⟨ret_bool hbad.out.symm, rfl⟩
           · have hg := Lib.hid hb
             go_wp2
             go_round
             case rel => exact ⟨k + 1, by omega, by go_num, all_step hall.out (by rw [← hx.out, hE.out]; exact hg.out)⟩
             case measure => simp [intOf]; omega)
    · obtain rfl : k = s.size := by omega
      have hf := Lib.hid (show labelB s.toList = true by rw [hfin.out]; exact range_all.2 hall.out)
      go_wp2
      go_ret
      exact ⟨ret_bool hf.out.symm, rfl⟩
end Go.Proofs.YtgfoaopfdpclhaaGreatDoor
namespace Go.Proofs.YtgfoaopfdpclhaaGreatDoor
open Go.RowKit
set_option linter.unusedVariables false
set_option maxRecDepth 100000

theorem hex_cases {c : UInt8} : (hexB c = true ∧ ((48 ≤ (c.toNat : Int) ∧ (c.toNat : Int) ≤ 57) ∨ (97 ≤ (c.toNat : Int) ∧ (c.toNat : Int) ≤ 102) ∨ c.toNat = 58 ∨ c.toNat = 46)) ∨ (hexB c = false ∧ (((c.toNat : Int) == 58) = false ∧ ((c.toNat : Int) == 46) = false) ∧ (((c.toNat : Int) < 48) ∨ (57 < (c.toNat : Int) ∧ (c.toNat : Int) < 97) ∨ (102 < (c.toNat : Int)))) := by
  unfold hexB
  simp only [decide_eq_true_eq, decide_eq_false_iff_not, beq_eq_false_iff_ne]
  omega

set_option maxHeartbeats 2000000 in
theorem bracket_any (s : ByteArray) (w : World) (hs : s.size ≤ maxLen) :
    Calls Tryz.prog 101 #[.string s] w fun e w' => e = .returned (.bool (bracketB s.toList)) ∧ Below w.heap.size w w' := by
  unfold maxLen at hs
  have hsz := Lib.hid (size_toList s)
  by_cases h1 : s.size < 4
  · have h1i : (s.size : Int) < 4 := by omega
    have hfin := Lib.hid (show bracketB s.toList = false by unfold bracketB; rw [decide_eq_false (by rw [← hsz.out]; omega : ¬ 4 ≤ s.toList.length)]; rfl)
    go_enter Tryz.func101, Tryz.ntmps101
    go_wp2
    go_ret
    exact ⟨ret_bool hfin.out.symm, Below.refl _ _⟩
  have h1i : (4 : Int) ≤ s.size := by omega
  by_cases h2 : 47 < s.size
  · have h2i : (47 : Int) < s.size := by omega
    have hfin := Lib.hid (show bracketB s.toList = false by unfold bracketB; rw [decide_eq_false (by rw [← hsz.out]; omega : ¬ s.toList.length ≤ 47), Bool.and_false]; rfl)
    go_enter Tryz.func101, Tryz.ntmps101
    go_wp2
    go_ret
    exact ⟨ret_bool hfin.out.symm, Below.refl _ _⟩
  have h2i : (s.size : Int) ≤ 47 := by omega
  have h0 : 0 < s.size := by omega
  have hl : s.size - 1 < s.size := by omega
  have hbr := Lib.hid (show bracketB s.toList = (s.toList.getD 0 0 == 91 && s.toList.getD (s.size - 1) 0 == 93 && ((s.toList.drop 1).take (s.size - 2)).all hexB) by
    unfold bracketB; rw [← hsz.out, decide_eq_true (by omega), decide_eq_true (by omega)]; rfl)
  by_cases h3 : (s.toList.getD 0 0 == 91) = true
  case neg =>
    have h3' : (s.toList.getD 0 0 == 91) = false := by simpa using h3
    have h3i : (((s[0].toNat : Int)) != 91) = true := by rw [get_l, nec 91 (i := 91) rfl, h3']; rfl
    have hfin := Lib.hid (show bracketB s.toList = false by rw [hbr.out, h3']; rfl)
    clear h3 h3'
    go_enter Tryz.func101, Tryz.ntmps101
    go_wp2
    go_ret
    exact ⟨ret_bool hfin.out.symm, Below.refl _ _⟩
  have h3i : (((s[0].toNat : Int)) != 91) = false := by rw [get_l, nec 91 (i := 91) rfl, h3]; rfl
  by_cases h4 : (s.toList.getD (s.size - 1) 0 == 93) = true
  case neg =>
    have h4' : (s.toList.getD (s.size - 1) 0 == 93) = false := by simpa using h4
    have h4i : (((s[s.size - 1].toNat : Int)) != 93) = true := by rw [get_l, nec 93 (i := 93) rfl, h4']; rfl
    have hfin := Lib.hid (show bracketB s.toList = false by rw [hbr.out, h4', Bool.and_false]; rfl)
    clear h3 h4 h4'
    go_enter Tryz.func101, Tryz.ntmps101
    go_wp2
    go_ret
    exact ⟨ret_bool hfin.out.symm, Below.refl _ _⟩
  have h4i : (((s[s.size - 1].toNat : Int)) != 93) = false := by rw [get_l, nec 93 (i := 93) rfl, h4]; rfl
  have hbr2 := Lib.hid (show bracketB s.toList = ((s.toList.drop 1).take (s.size - 2)).all hexB by rw [hbr.out, h3, h4]; rfl)
  have hT : (s.extract 1 (s.size - 1)).toList = (s.toList.drop 1).take (s.size - 2) := by rw [extract_l]; congr 1
  have hTs : (s.extract 1 (s.size - 1)).size = s.size - 2 := by rw [size_toList, hT, List.length_take, List.length_drop, ← hsz.out]; omega
  have hw1 : ((s.size : Int) - 1).toNat = s.size - 1 := by omega
  obtain ⟨T, hTT⟩ : ∃ T, s.extract 1 (s.size - 1) = T := ⟨_, rfl⟩
  rw [hTT] at hT hTs
  have hTl := Lib.hid hT
  have hTz := Lib.hid (size_toList T)
  have hTn := Lib.hid hTs
  have hTb : T.size ≤ 45 := by omega
  clear h3 h4 hbr hT hTs
  have hcv := @run_bytes_of Tryz.prog 9 91 5 Tryz.underlying9 Tryz.underlying91 Tryz.underlying5
  go_enter Tryz.func101, Tryz.ntmps101
  go_wp2
  have hstart := lows_start w T 5
  have hcap := Lib.hid (grownCap_ge w T.size 0 5)
  generalize grownCap w T.size 0 5 = cap at *
  go_loopw [33] (fun i wr => ∃ (k : Nat), i = .int .i64 k ∧ k ≤ T.size ∧ Below w.heap.size w wr ∧ Lows wr w.heap.size 0 T.toList ∧ Hid ((T.toList.take k).all hexB = true)) (fun i _ => T.size - (intOf i).toNat)
  case atStart => exact ⟨0, rfl, Nat.zero_le _, ((Below.refl _ _).alloc (Nat.le_refl _) _).drew, hstart, rfl⟩
  case round =>
    obtain ⟨k, rfl, hk, hbel, hL, hall⟩ := hrel
    clear hcv hstart
    by_cases hlt : k < T.size
    · have hlti : (k : Int) < T.size := by omega
      have hlt' : k < T.toList.length := by rw [← hTz.out]; exact hlt
      have hcell := hL.cell hlt'
      rw [if_neg (by omega), List.getD_eq_getElem?_getD, List.getElem?_eq_getElem hlt', Option.getD_some] at hcell
      have hst := Lib.hid (all_take_stepL (p := hexB) hlt')
      have hbad := Lib.hid (all_badL (p := hexB) hlt')
      obtain ⟨d, hd⟩ : ∃ d : UInt8, T.toList[k] = d := ⟨_, rfl⟩
      rw [hd] at hcell
      have hD := Lib.hid hd
      clear hd
      rcases @hex_cases d with ⟨hy, hc⟩ | ⟨hn, ⟨hm, hm'⟩, hc⟩
      · have hY := Lib.hid hy
        clear hy
        rcases hc with ⟨q1, q2⟩ | ⟨q1, q2⟩ | q1 | q1
        · go_wp2
          go_roundw
          case rel => exact ⟨k + 1, by go_num, by omega, hbel, hL, by show _ = _; rw [hst.out, hall.out, hD.out, hY.out]; rfl⟩
          case measure => simp [intOf]; omega
        · have q3 : decide ((d.toNat : Int) ≤ 57) = false := decide_eq_false (by omega)
          have q4 : (48 : Int) ≤ d.toNat := by omega
          go_wp2
          go_roundw
          case rel => exact ⟨k + 1, by go_num, by omega, hbel, hL, by show _ = _; rw [hst.out, hall.out, hD.out, hY.out]; rfl⟩
          case measure => simp [intOf]; omega
        · rw [q1] at hcell
          go_wp2
          go_roundw
          case rel => exact ⟨k + 1, by go_num, by omega, hbel, hL, by show _ = _; rw [hst.out, hall.out, hD.out, hY.out]; rfl⟩
          case measure => simp [intOf]; omega
        · rw [q1] at hcell
          go_wp2
          go_roundw
          case rel => exact ⟨k + 1, by go_num, by omega, hbel, hL, by show _ = _; rw [hst.out, hall.out, hD.out, hY.out]; rfl⟩
          case measure => simp [intOf]; omega
      · have hN := Lib.hid hn
        clear hn
        rcases hc with q1 | ⟨q1, q2⟩ | q1
        · have q3 : (d.toNat : Int) < 97 := by omega
          go_wp2
          go_ret; exact ⟨ret_bool (by rw [hbr2.out, ← hTl.out, hbad.out (by rw [hD.out]; exact hN.out)]), hbel⟩
        · have q3 : (48 : Int) ≤ d.toNat := by omega
          have q6 : decide ((d.toNat : Int) ≤ 57) = false := decide_eq_false (by omega)
          go_wp2
          go_ret; exact ⟨ret_bool (by rw [hbr2.out, ← hTl.out, hbad.out (by rw [hD.out]; exact hN.out)]), hbel⟩
        · have q3 : (48 : Int) ≤ d.toNat := by omega
          have q4 : (57 : Int) < d.toNat := by omega
          have q5 : (97 : Int) ≤ d.toNat := by omega
          have q6 : decide ((d.toNat : Int) ≤ 57) = false := decide_eq_false (by omega)
          have q7 : decide ((d.toNat : Int) ≤ 102) = false := decide_eq_false (by omega)
          go_wp2
          go_ret; exact ⟨ret_bool (by rw [hbr2.out, ← hTl.out, hbad.out (by rw [hD.out]; exact hN.out)]), hbel⟩
    · obtain rfl : k = T.size := by omega
      have hf := Lib.hid (show T.toList.all hexB = true by have := hall.out; rwa [hTz.out, List.take_length] at this)
      go_wp2
      go_ret
      exact ⟨ret_bool (by rw [hbr2.out, ← hTl.out, hf.out]), hbel⟩
end Go.Proofs.YtgfoaopfdpclhaaGreatDoor
