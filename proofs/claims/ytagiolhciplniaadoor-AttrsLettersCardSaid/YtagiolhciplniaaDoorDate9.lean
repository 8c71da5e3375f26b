/-
  The walks of package date: a month's number, by the table of months.
-/
import Derived.Test.YtagiolhciplniaaDoorDate8
import Derived.Deep.MidRow
namespace Go.Proofs.YtagiolhciplniaaDoor
open Go.RowKit
set_option linter.unusedVariables false

def monN : List (List UInt8) := [[106, 97, 110], [102, 101, 98], [109, 97, 114], [97, 112, 114], [109, 97, 121], [106, 117, 110], [106, 117, 108], [97, 117, 103], [115, 101, 112], [111, 99, 116], [110, 111, 118], [100, 101, 99]]
def monV : Value := .agg (monN.map strV).toArray
/-- The table of months lies in the world. -/
def Mon (w : World) : Prop := 0 < w.heap.size ∧ w.rangeAt 0 0 (monN.map strV)
theorem Mon.below {B : Nat} {w w' : World} (h : Mon w) (hb : Below B w w') (hB : 0 < B) : Mon w' :=
  ⟨Nat.lt_of_lt_of_le h.1 hb.size, fun j v hv => by rw [hb.cell (p := ⟨0, 0 + j, none⟩) hB]; exact h.2 j v hv⟩
theorem Mon.drews {w : World} (h : Mon w) (n : Nat) : Mon (w.drewN n) := ⟨h.1, fun j v hv => h.2 j v hv⟩
theorem Mon.next {w w' : World} (h : Mon w) (hb : Below w.heap.size w w') : Mon w' := h.below hb h.1
def loadMon (a : Addr) : Sem Value := loadVar 66 a
@[go_sem ↓] theorem to_loadMon (a : Addr) : loadVar 66 a = loadMon a := rfl
theorem mon_load {w : World} (h : Mon w) : (loadMon ⟨0, 0, none⟩).run Tryd.prog w = .ok monV w :=
  run_loadVar_mid w 0 0 66 (monN.map strV) _ h.2 Tryd.underlying66 rfl (by kernel_rfl)
theorem mon_index (w : World) (k : Nat) (h : k < 12) : (Instr.index 66 monV (.int .i64 k)).run Tryd.prog w = .ok (.string (S (monN.getD k []))) w := by
  match k, h with
  | 0, _ => show _ = _; kernel_rfl
  | 1, _ => show _ = _; kernel_rfl
  | 2, _ => show _ = _; kernel_rfl
  | 3, _ => show _ = _; kernel_rfl
  | 4, _ => show _ = _; kernel_rfl
  | 5, _ => show _ = _; kernel_rfl
  | 6, _ => show _ = _; kernel_rfl
  | 7, _ => show _ = _; kernel_rfl
  | 8, _ => show _ = _; kernel_rfl
  | 9, _ => show _ = _; kernel_rfl
  | 10, _ => show _ = _; kernel_rfl
  | 11, _ => show _ = _; kernel_rfl
  | n + 12, h => omega

def monAt (t : List UInt8) : Nat → List (List UInt8) → Int
  | _, [] => 0
  | k, n :: r => if lowerL t == lowerL n then (k : Int) + 1 else monAt t (k + 1) r
def monthI (l : List UInt8) : Int := if l.length < 3 then 0 else monAt (l.take 3) 0 monN
theorem mon_step (t : List UInt8) (k : Nat) (h : k < 12) : monAt t k (monN.drop k) = if lowerL t == lowerL (monN.getD k []) then (k : Int) + 1 else monAt t (k + 1) (monN.drop (k + 1)) := by
  have e : monN.drop k = monN.getD k [] :: monN.drop (k + 1) := by
    rw [List.drop_eq_getElem_cons (show k < monN.length from h), List.getD_eq_getElem?_getD, List.getElem?_eq_getElem (show k < monN.length from h)]; rfl
  rw [e, monAt]
theorem mon_bd (t : List UInt8) (r : List (List UInt8)) (k : Nat) : 0 ≤ monAt t k r ∧ monAt t k r ≤ k + r.length := by
  induction r generalizing k with
  | nil => unfold monAt; simp
  | cons n r ih =>
    unfold monAt
    have := ih (k + 1)
    split
    · simp; omega
    · simp; omega
theorem month_bd (l : List UInt8) : 0 ≤ monthI l ∧ monthI l ≤ 12 := by
  unfold monthI
  split
  · omega
  · have := mon_bd (l.take 3) monN 0
    simpa [monN] using this

set_option maxHeartbeats 2000000 in
theorem month_any (s : ByteArray) (w : World) (hs : s.size ≤ 4294967296) (hm : Mon w) :
    Calls Tryd.prog 53 #[.string s] w fun e w' => e = .returned (.int .i64 (monthI s.toList)) ∧ Below w.heap.size w w' := by
  have hload := mon_load hm
  by_cases hl : s.size < 3
  · have hz := Lib.hid (show monthI s.toList = 0 by unfold monthI; rw [if_pos (by rw [← size_toList]; exact hl)])
    go_enter Tryd.func53, Tryd.ntmps53
    go_wp2
    rw [hz.out]
    go_ret
    exact ⟨rfl, Below.refl _ _⟩
  · have hz := Lib.hid (show monthI s.toList = monAt (s.toList.take 3) 0 monN by unfold monthI; rw [if_neg (by rw [← size_toList]; exact hl)])
    have hx := Lib.hid (extract_to s 3)
    have hx2 : (S (s.toList.take 3)).size ≤ 4294967296 := by rw [S_size]; simp; omega
    have h3 : (3 : Int) ≤ s.size := by omega
    have hn3 : decide ((s.size : Int) < 3) = false := decide_eq_false (by omega)
    clear hm
    go_enter Tryd.func53, Tryd.ntmps53
    go_wp2
    clear hload
    go_loopw [9] (fun i wr => ∃ k : Nat, i = .int .i64 k ∧ k ≤ 12 ∧ Below w.heap.size w wr ∧ Hid (monthI s.toList = monAt (s.toList.take 3) k (monN.drop k))) (fun i _ => 12 - (intOf i).toNat)
    case atStart => exact ⟨0, rfl, by omega, Below.refl _ _, hz.out⟩
    case round =>
      obtain ⟨k, rfl, hk, hbel, hin⟩ := hrel
      by_cases hk2 : k < 12
      · have hk3 : (k : Int) < 12 := by omega
        have hidx := mon_index wr k hk2
        have hst := Lib.hid (hin.out.trans (mon_step _ k hk2))
        have hnz : (S (monN.getD k [])).size ≤ 4294967296 := by
          match k, hk2 with
          | 0, _ | 1, _ | 2, _ | 3, _ | 4, _ | 5, _ | 6, _ | 7, _ | 8, _ | 9, _ | 10, _ | 11, _ => decide
          | n + 12, h => omega
        clear hin hz
        generalize monN.getD k [] = nm at *
        go_wp2_with fail
        rw [hx.out]
        refine (same_any _ _ _ (by unfold maxLen; omega) (by unfold maxLen; omega)).mono ?_
        rintro e w1 ⟨rfl, hb1⟩
        rw [S_toList, S_toList]
        have hbel1 := bel_call hbel hb1
        clear hb1 hbel
        cases hc : (lowerL (s.toList.take 3) == lowerL nm) with
        | true =>
          have hr := Lib.hid (hst.out.trans (if_pos hc))
          clear hst hc
          go_wp2
          rw [hr.out]
          go_ret
          exact ⟨rfl, hbel1⟩
        | false =>
          have hr := Lib.hid (hst.out.trans (if_neg (by rw [hc]; decide)))
          clear hst hc
          go_wp2
          go_roundw
          case rel => exact ⟨k + 1, by go_num, by omega, hbel1, hr.out⟩
          case measure => simp [intOf]; omega
      · have hk3 : k = 12 := by omega
        subst hk3
        have hr := Lib.hid (show monthI s.toList = 0 from hin.out.trans rfl)
        clear hin hz
        go_wp2
        rw [hr.out]
        go_ret
        exact ⟨rfl, hbel⟩
end Go.Proofs.YtagiolhciplniaaDoor
