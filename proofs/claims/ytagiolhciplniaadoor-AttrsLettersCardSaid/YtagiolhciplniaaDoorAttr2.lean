/-
  What attributes say: one attribute taken.
-/
import Derived.Test.YtagiolhciplniaaDoorAttr1
namespace Go.Proofs.YtagiolhciplniaaDoor
open Go.RowKit
set_option linter.unusedVariables false

def exL : List UInt8 := [101, 120, 112, 105, 114, 101, 115]
def agL : List UInt8 := [109, 97, 120, 45, 97, 103, 101]
def dmL : List UInt8 := [100, 111, 109, 97, 105, 110]
def ptL : List UInt8 := [112, 97, 116, 104]
def scL : List UInt8 := [115, 101, 99, 117, 114, 101]
def hoL : List UInt8 := [104, 116, 116, 112, 111, 110, 108, 121]
def sayT (f : Ff) (p : List UInt8 × List UInt8) : Ff :=
  if lowerL p.1 == exL then exT f p.2
  else if lowerL p.1 == agL then agT f p.2
  else if lowerL p.1 == dmL then dmT f p.2
  else if lowerL p.1 == ptL then ptT f p.2
  else if lowerL p.1 == scL then { f with sc := true }
  else if lowerL p.1 == hoL then { f with ho := true }
  else f
def readT (l : List (List UInt8 × List UInt8)) : Ff := l.foldl sayT ff0
theorem grown_more {w w1 w2 : World} {g : Nat} (hb : Below w.heap.size w w1) (hg : w1.grownBy w2 (some g)) : w.grownBy w2 (some g) :=
  ⟨hg.os.trans hb.os, hg.tape.trans hb.tape, hg.output.trans hb.output, Nat.le_trans hb.size hg.size, fun k hk hne => (hg.block k (Nat.lt_of_lt_of_le hk hb.size) hne).trans (hb.block k hk)⟩

set_option maxRecDepth 4000 in
set_option maxHeartbeats 4000000 in
theorem say_any (f : Ff) (g bp : Nat) (a b : List UInt8) (w : World) (ha : a.length ≤ 4294967296) (hb : b.length ≤ 4294967296) (hm : Mon w) (hK : Blk w g 43 (ffC f)) (hp : w.cell? ⟨bp, 0, none⟩ = some (.pointer (some ⟨g, 0, none⟩))) (hbp : bp < w.heap.size) :
    Calls Tryd.prog 43 #[.agg #[.string (S a), .string (S b)], .pointer (some ⟨bp, 0, none⟩)] w (FPost g (sayT f (a, b)) w) := by
  have hgl := hK.lt
  have hsa : (S a).size ≤ 4294967296 := by rw [S_size]; exact ha
  have hsb : (S b).size ≤ 4294967296 := by rw [S_size]; exact hb
  have hsb2 : (S b).size ≤ maxLen := by rw [S_size]; unfold maxLen; omega
  go_enter Tryd.func43, Tryd.ntmps43
  go_wp2_with fail
  refine (lowerA_any _ _ hsa).mono ?_
  rintro e w1 ⟨rfl, hb1⟩
  rw [S_toList]
  have hB := Blk.new_ w 69 #[.string (S a), .string (S b)]
  have hB1 := hB.below hb1
  have hK1 := (hK.alloc (.cells #[.string (S a), .string (S b)] 69)).below hb1
  have hbel1 := bel_call (bel_alloc (Below.refl w.heap.size w) (.cells #[.string (S a), .string (S b)] 69)) hb1
  have hp1 : w1.cell? ⟨bp, 0, none⟩ = some (.pointer (some ⟨g, 0, none⟩)) := (hbel1.cell (p := ⟨bp, 0, none⟩) hbp).trans hp
  have hb10 : w1.cell? ⟨w.heap.size, 0, none⟩ = some (.string (S a)) := hB1.cell 0
  have hb11 : w1.cell? ⟨w.heap.size, 1, none⟩ = some (.string (S b)) := hB1.cell 1
  have hm1 := hm.next hbel1
  clear hB hB1 hb1 hp hm
  have hT0 := Lib.hid (show sayT f (a, b) = if lowerL a == exL then exT f b
  else if lowerL a == agL then agT f b
  else if lowerL a == dmL then dmT f b
  else if lowerL a == ptL then ptT f b
  else if lowerL a == scL then { f with sc := true }
  else if lowerL a == hoL then { f with ho := true }
  else f from rfl)
  generalize lowerL a = n at *
  cases k0 : (n == exL) with
  | true =>
    have q0 : (n == [101, 120, 112, 105, 114, 101, 115]) = true := k0
    have hT := Lib.hid (hT0.out.trans (by simp only [k0, if_true]; try rfl))
    clear hT0 k0
    go_wp2_with fail
    refine (expires_any f g (S b) w1 hsb hm1 hK1).mono ?_
    rintro e w2 ⟨rfl, hK2, hg2⟩
    rw [S_toList] at hK2
    go_wp2
    rw [hT.out]
    first | refine bodyPost_ret (results_none rfl _ _ _) rfl ?_ | refine bodyPost_end (results_none rfl _ _ _) rfl ?_
    exact ⟨rfl, hK2, grown_more hbel1 hg2⟩
  | false =>
    have q0 : (n == [101, 120, 112, 105, 114, 101, 115]) = false := k0
    cases k1 : (n == agL) with
    | true =>
      have q1 : (n == [109, 97, 120, 45, 97, 103, 101]) = true := k1
      have hT := Lib.hid (hT0.out.trans (by simp only [k0, k1, Bool.false_eq_true, if_false, if_true]; try rfl))
      clear hT0 k1
      go_wp2_with fail
      refine (age_any f g (S b) w1 hsb2 hK1).mono ?_
      rintro e w2 ⟨rfl, hK2, hg2⟩
      rw [S_toList] at hK2
      go_wp2
      rw [hT.out]
      first | refine bodyPost_ret (results_none rfl _ _ _) rfl ?_ | refine bodyPost_end (results_none rfl _ _ _) rfl ?_
      exact ⟨rfl, hK2, grown_more hbel1 hg2⟩
    | false =>
      have q1 : (n == [109, 97, 120, 45, 97, 103, 101]) = false := k1
      cases k2 : (n == dmL) with
      | true =>
        have q2 : (n == [100, 111, 109, 97, 105, 110]) = true := k2
        have hT := Lib.hid (hT0.out.trans (by simp only [k0, k1, k2, Bool.false_eq_true, if_false, if_true]; try rfl))
        clear hT0 k2
        go_wp2_with fail
        refine (domain_any f g (S b) w1 hsb hK1).mono ?_
        rintro e w2 ⟨rfl, hK2, hg2⟩
        rw [S_toList] at hK2
        go_wp2
        rw [hT.out]
        first | refine bodyPost_ret (results_none rfl _ _ _) rfl ?_ | refine bodyPost_end (results_none rfl _ _ _) rfl ?_
        exact ⟨rfl, hK2, grown_more hbel1 hg2⟩
      | false =>
        have q2 : (n == [100, 111, 109, 97, 105, 110]) = false := k2
        cases k3 : (n == ptL) with
        | true =>
          have q3 : (n == [112, 97, 116, 104]) = true := k3
          have hT := Lib.hid (hT0.out.trans (by simp only [k0, k1, k2, k3, Bool.false_eq_true, if_false, if_true]; try rfl))
          clear hT0 k3
          go_wp2_with fail
          refine (path_any f g (S b) w1 hK1).mono ?_
          rintro e w2 ⟨rfl, hK2, hg2⟩
          rw [S_toList] at hK2
          go_wp2
          rw [hT.out]
          first | refine bodyPost_ret (results_none rfl _ _ _) rfl ?_ | refine bodyPost_end (results_none rfl _ _ _) rfl ?_
          exact ⟨rfl, hK2, grown_more hbel1 hg2⟩
        | false =>
          have q3 : (n == [112, 97, 116, 104]) = false := k3
          cases k4 : (n == scL) with
          | true =>
            have q4 : (n == [115, 101, 99, 117, 114, 101]) = true := k4
            have hT := Lib.hid (hT0.out.trans (by simp only [k0, k1, k2, k3, k4, Bool.false_eq_true, if_false, if_true]; try rfl))
            clear hT0 k4
            have hgl1 := hK1.lt
            obtain ⟨c0, c1, c2, c3, c4, c5, c6, c7, c8, c9, cf⟩ := ff_cells hK1
            go_wp2
            rw [hT.out]
            first | refine bodyPost_ret (results_none rfl _ _ _) rfl ?_ | refine bodyPost_end (results_none rfl _ _ _) rfl ?_
            exact ⟨rfl, hK1.put 8 (.bool true), grown_set (grown_bel hbel1 g) 8 _⟩
          | false =>
            have q4 : (n == [115, 101, 99, 117, 114, 101]) = false := k4
            cases k5 : (n == hoL) with
            | true =>
              have q5 : (n == [104, 116, 116, 112, 111, 110, 108, 121]) = true := k5
              have hT := Lib.hid (hT0.out.trans (by simp only [k0, k1, k2, k3, k4, k5, Bool.false_eq_true, if_false, if_true]; try rfl))
              clear hT0 k5
              have hgl1 := hK1.lt
              obtain ⟨c0, c1, c2, c3, c4, c5, c6, c7, c8, c9, cf⟩ := ff_cells hK1
              go_wp2
              rw [hT.out]
              first | refine bodyPost_ret (results_none rfl _ _ _) rfl ?_ | refine bodyPost_end (results_none rfl _ _ _) rfl ?_
              exact ⟨rfl, hK1.put 9 (.bool true), grown_set (grown_bel hbel1 g) 9 _⟩
            | false =>
              have q5 : (n == [104, 116, 116, 112, 111, 110, 108, 121]) = false := k5
              have hT := Lib.hid (show sayT f (a, b) = f from hT0.out.trans (by simp only [k0, k1, k2, k3, k4, k5, Bool.false_eq_true, if_false]))
              clear hT0
              go_wp2
              rw [hT.out]
              first | refine bodyPost_ret (results_none rfl _ _ _) rfl ?_ | refine bodyPost_end (results_none rfl _ _ _) rfl ?_
              exact ⟨rfl, hK1, grown_bel hbel1 g⟩
end Go.Proofs.YtagiolhciplniaaDoor
