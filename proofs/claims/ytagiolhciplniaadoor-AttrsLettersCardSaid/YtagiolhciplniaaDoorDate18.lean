/-
  The reference's parser walked, second part: months.
-/
import Derived.Test.YtagiolhciplniaaDoorDate17
namespace Go.Proofs.YtagiolhciplniaaDoor
open Go.RowKit
set_option linter.unusedVariables false

theorem mon_low (k : Nat) (h : k < 12) : lowerL (monN.getD k []) = monN.getD k [] := by
  match k, h with
  | 0, _ | 1, _ | 2, _ | 3, _ | 4, _ | 5, _ | 6, _ | 7, _ | 8, _ | 9, _ | 10, _ | 11, _ => rfl
  | n + 12, h => omega
def monB : List UInt8 := [106, 97, 110, 102, 101, 98, 109, 97, 114, 97, 112, 114, 109, 97, 121, 106, 117, 110, 106, 117, 108, 97, 117, 103, 115, 101, 112, 111, 99, 116, 110, 111, 118, 100, 101, 99]
theorem mon_cut (k : Nat) (h : k < 12) : (ByteArray.mk #[106, 97, 110, 102, 101, 98, 109, 97, 114, 97, 112, 114, 109, 97, 121, 106, 117, 110, 106, 117, 108, 97, 117, 103, 115, 101, 112, 111, 99, 116, 110, 111, 118, 100, 101, 99]).extract (3 * k) (3 * k + 3) = S (monN.getD k []) := by
  have e : (ByteArray.mk #[106, 97, 110, 102, 101, 98, 109, 97, 114, 97, 112, 114, 109, 97, 121, 106, 117, 110, 106, 117, 108, 97, 117, 103, 115, 101, 112, 111, 99, 116, 110, 111, 118, 100, 101, 99]) = S monB := rfl
  rw [e, extract_S, S_toList]
  match k, h with
  | 0, _ | 1, _ | 2, _ | 3, _ | 4, _ | 5, _ | 6, _ | 7, _ | 8, _ | 9, _ | 10, _ | 11, _ => rfl
  | n + 12, h => omega

set_option maxRecDepth 4000 in
set_option maxHeartbeats 4000000 in
theorem refMonth_any (s : ByteArray) (w : World) (hs : s.size ≤ 4294967296) :
    Calls Tryd.prog 41 #[.string s] w fun e w' => e = .returned (.int .i64 (monthI s.toList)) ∧ Below w.heap.size w w' := by
  by_cases hl : s.size < 3
  · have hz := Lib.hid (show monthI s.toList = 0 by unfold monthI; rw [if_pos (by rw [← size_toList]; exact hl)])
    go_enter Tryd.func41, Tryd.ntmps41
    go_wp2
    rw [hz.out]
    go_ret
    exact ⟨rfl, Below.refl _ _⟩
  · have hz := Lib.hid (show monthI s.toList = monAt (s.toList.take 3) 0 monN by unfold monthI; rw [if_neg (by rw [← size_toList]; exact hl)])
    have hx := Lib.hid (extract_to s 3)
    have hx2 : (S (s.toList.take 3)).size ≤ 4294967296 := by rw [S_size]; simp; omega
    have h3 : (3 : Int) ≤ s.size := by omega
    have hn3 : decide ((s.size : Int) < 3) = false := decide_eq_false (by omega)
    go_enter Tryd.func41, Tryd.ntmps41
    go_wp2_with fail
    rw [hx.out]
    refine (refLower_any _ _ hx2).mono ?_
    rintro e w1 ⟨rfl, hb1⟩
    rw [S_toList]
    go_wp2
    go_loopw [5] (fun i wr => ∃ k : Nat, i = .int .i64 ((k : Int) + 1) ∧ k ≤ 12 ∧ Below w.heap.size w wr ∧ Hid (monthI s.toList = monAt (s.toList.take 3) k (monN.drop k))) (fun i _ => 13 - (intOf i).toNat)
    case atStart => exact ⟨0, rfl, by omega, hb1, hz.out⟩
    case round =>
      obtain ⟨k, rfl, hk, hbel, hin⟩ := hrel
      by_cases hk2 : k < 12
      · have hk3 : (k : Int) + 1 ≤ 12 := by omega
        have hcut := Lib.hid (mon_cut k hk2)
        have hst := Lib.hid (hin.out.trans (mon_step _ k hk2))
        have hlow := Lib.hid (mon_low k hk2)
        clear hin hz
        generalize monN.getD k [] = nm at *
        have b1 : (3 * ((k : Int) + 1) - 3).toNat = 3 * k := by omega
        have b2 : (3 * ((k : Int) + 1)).toNat = 3 * k + 3 := by omega
        go_wp2
        · rename_i hq
          replace hq : ((S nm).toList == lowerL (s.toList.take 3)) = true := by rw [← hcut.out]; exact hq
          rw [S_toList] at hq
          have hr := Lib.hid (hst.out.trans (if_pos (by rw [hlow.out]; rw [beq_iff_eq] at hq ⊢; exact hq.symm)))
          clear hst hq
          go_ret
          exact ⟨ret_int hr.out.symm, hbel⟩
        · rename_i hq
          replace hq : ((S nm).toList == lowerL (s.toList.take 3)) = false := by rw [← hcut.out]; exact hq
          rw [S_toList] at hq
          have hr := Lib.hid (hst.out.trans (if_neg (by rw [hlow.out]; rw [beq_eq_false_iff_ne] at hq; rw [beq_iff_eq]; exact fun e => hq e.symm)))
          clear hst hq
          exact ⟨⟨k + 1, by go_num, by omega, hbel, hr.out⟩, by simp [intOf]; omega⟩
      · have hk3 : k = 12 := by omega
        subst hk3
        have hr := Lib.hid (show monthI s.toList = 0 from hin.out.trans rfl)
        clear hin hz
        go_wp2
        rw [hr.out]
        go_ret
        exact ⟨rfl, hbel⟩
end Go.Proofs.YtagiolhciplniaaDoor
