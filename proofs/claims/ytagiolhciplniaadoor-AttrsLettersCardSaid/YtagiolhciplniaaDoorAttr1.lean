/-
  What attributes say: one attribute's value taken.
-/
import Derived.Test.YtagiolhciplniaaDoorDate20
namespace Go.Proofs.YtagiolhciplniaaDoor
open Go.RowKit
set_option linter.unusedVariables false

/-- What attributes say. -/
structure Ff where
  he : Bool
  ha : Bool
  hd : Bool
  hp : Bool
  ex : Int
  ag : Int
  dm : List UInt8
  pt : List UInt8
  sc : Bool
  ho : Bool
def ff0 : Ff := ⟨false, false, false, false, 0, 0, [], [], false, false⟩
def ffC (f : Ff) : Array Value := #[.bool f.he, .bool f.ha, .bool f.hd, .bool f.hp, .int .i64 f.ex, .int .i64 f.ag, .string (S f.dm), .string (S f.pt), .bool f.sc, .bool f.ho]
def exT (f : Ff) (l : List UInt8) : Ff := if (dateT l).2 = 0 then { f with he := true, ex := (dateT l).1 } else f
def agT (f : Ff) (l : List UInt8) : Ff := if numOk l then { f with ha := true, ag := numV l } else f
def dmT (f : Ff) : List UInt8 → Ff
  | [] => f
  | c :: r => { f with hd := true, dm := lowerL (if c == 46 then r else c :: r) }
def ptT (f : Ff) : List UInt8 → Ff
  | [] => { f with hp := false, pt := [] }
  | c :: r => if c == 47 then { f with hp := true, pt := c :: r } else { f with hp := false, pt := [] }
theorem ff_free {w : World} {g : Nat} {t : TypeId} {f : Ff} (h : Blk w g t (ffC f)) : ∀ i, w.frozen? ⟨g, i, none⟩ = false := h.free
theorem ff_cells {w : World} {g : Nat} {t : TypeId} {f : Ff} (h : Blk w g t (ffC f)) :
    w.cell? ⟨g, 0, none⟩ = some (.bool f.he) ∧ w.cell? ⟨g, 1, none⟩ = some (.bool f.ha) ∧ w.cell? ⟨g, 2, none⟩ = some (.bool f.hd) ∧ w.cell? ⟨g, 3, none⟩ = some (.bool f.hp) ∧ w.cell? ⟨g, 4, none⟩ = some (.int .i64 f.ex) ∧ w.cell? ⟨g, 5, none⟩ = some (.int .i64 f.ag) ∧
    w.cell? ⟨g, 6, none⟩ = some (.string (S f.dm)) ∧ w.cell? ⟨g, 7, none⟩ = some (.string (S f.pt)) ∧ w.cell? ⟨g, 8, none⟩ = some (.bool f.sc) ∧ w.cell? ⟨g, 9, none⟩ = some (.bool f.ho) ∧ (∀ i, w.frozen? ⟨g, i, none⟩ = false) :=
  ⟨h.cell 0, h.cell 1, h.cell 2, h.cell 3, h.cell 4, h.cell 5, h.cell 6, h.cell 7, h.cell 8, h.cell 9, h.free⟩
/-- What a step on the fields leaves: the block turned, all else as it was. -/
def FPost (g : Nat) (f : Ff) (w : World) (e : Ending) (w' : World) : Prop := e = .returned (.tuple #[]) ∧ Blk w' g 43 (ffC f) ∧ w.grownBy w' (some g)

set_option maxHeartbeats 2000000 in
theorem expires_any (f : Ff) (g : Nat) (s : ByteArray) (w : World) (hs : s.size ≤ 4294967296) (hm : Mon w) (hK : Blk w g 43 (ffC f)) :
    Calls Tryd.prog 45 #[.pointer (some ⟨g, 0, none⟩), .string s] w (FPost g (exT f s.toList) w) := by
  obtain ⟨c0, c1, c2, c3, c4, c5, c6, c7, c8, c9, cf⟩ := ff_cells hK
  have hgl := hK.lt
  by_cases h0 : (dateT s.toList).2 = 0
  · have hT := Lib.hid (show exT f s.toList = { f with he := true, ex := (dateT s.toList).1 } from if_pos h0)
    obtain ⟨v, hv⟩ : ∃ v, dateT s.toList = (v, 0) := ⟨(dateT s.toList).1, Prod.ext rfl h0⟩
    have hvH := Lib.hid hv
    rw [hv] at hT
    clear hv h0
    go_enter Tryd.func45, Tryd.ntmps45
    go_wp2_with fail
    refine (parseA_any s _ hs hm).mono ?_
    rintro e w1 ⟨rfl, hb1⟩
    rw [hvH.out]
    have hK1 := hK.below hb1
    obtain ⟨c0, c1, c2, c3, c4, c5, c6, c7, c8, c9, cf⟩ := ff_cells hK1
    go_wp2
    rw [hT.out]
    first | refine bodyPost_ret (results_none rfl _ _ _) rfl ?_ | refine bodyPost_end (results_none rfl _ _ _) rfl ?_
    exact ⟨rfl, (hK1.put 0 (.bool true)).put 4 (.int .i64 v), grown_set (grown_set (grown_bel hb1 g) 0 _) 4 _⟩
  · have hT := Lib.hid (show exT f s.toList = f from if_neg h0)
    have hE : dateT s.toList = (0, 1) := by
      rcases (by
        unfold dateT parseD
        by_cases h1 : (!fdFull (fdOf s.toList) || !(fdOf s.toList).r) = true
        · rw [if_pos h1]; exact .inr rfl
        · rw [if_neg h1]
          by_cases h2 : rightB (fullI (fdOf s.toList).y) (fdOf s.toList).m (fdOf s.toList).d = true
          · rw [if_pos h2]; exact .inl rfl
          · rw [if_neg h2]; exact .inr rfl : (dateT s.toList).2 = 0 ∨ dateT s.toList = (0, 1)) with h | h
      · exact absurd h h0
      · exact h
    have hvH := Lib.hid hE
    clear hE h0
    go_enter Tryd.func45, Tryd.ntmps45
    go_wp2_with fail
    refine (parseA_any s _ hs hm).mono ?_
    rintro e w1 ⟨rfl, hb1⟩
    rw [hvH.out]
    have hK1 := hK.below hb1
    go_wp2
    rw [hT.out]
    first | refine bodyPost_ret (results_none rfl _ _ _) rfl ?_ | refine bodyPost_end (results_none rfl _ _ _) rfl ?_
    exact ⟨rfl, hK1, grown_bel hb1 g⟩

set_option maxHeartbeats 2000000 in
theorem age_any (f : Ff) (g : Nat) (s : ByteArray) (w : World) (hs : s.size ≤ maxLen) (hK : Blk w g 43 (ffC f)) :
    Calls Tryd.prog 46 #[.pointer (some ⟨g, 0, none⟩), .string s] w (FPost g (agT f s.toList) w) := by
  obtain ⟨c0, c1, c2, c3, c4, c5, c6, c7, c8, c9, cf⟩ := ff_cells hK
  have hgl := hK.lt
  have hb0 := Below.refl w.heap.size w
  cases h0 : numOk s.toList
  · have hT := Lib.hid (show agT f s.toList = f from if_neg (by rw [h0]; decide))
    have hH := Lib.hid h0
    clear h0
    go_enter Tryd.func46, Tryd.ntmps46
    go_wp2_with fail
    refine (number_any s _ hs).mono ?_
    rintro e w' ⟨rfl, rfl⟩
    rw [hH.out]
    go_wp2
    rw [hT.out]
    first | refine bodyPost_ret (results_none rfl _ _ _) rfl ?_ | refine bodyPost_end (results_none rfl _ _ _) rfl ?_
    exact ⟨rfl, hK, grown_bel hb0 g⟩
  · have hT := Lib.hid (show agT f s.toList = { f with ha := true, ag := numV s.toList } from if_pos h0)
    have hH := Lib.hid h0
    clear h0
    go_enter Tryd.func46, Tryd.ntmps46
    go_wp2_with fail
    refine (number_any s _ hs).mono ?_
    rintro e w' ⟨rfl, rfl⟩
    rw [hH.out]
    generalize numV s.toList = v at *
    go_wp2
    rw [hT.out]
    first | refine bodyPost_ret (results_none rfl _ _ _) rfl ?_ | refine bodyPost_end (results_none rfl _ _ _) rfl ?_
    exact ⟨rfl, (hK.put 1 (.bool true)).put 5 (.int .i64 v), grown_set (grown_set (grown_bel hb0 g) 1 _) 5 _⟩

set_option maxHeartbeats 2000000 in
theorem domain_any (f : Ff) (g : Nat) (s : ByteArray) (w : World) (hs : s.size ≤ 4294967296) (hK : Blk w g 43 (ffC f)) :
    Calls Tryd.prog 47 #[.pointer (some ⟨g, 0, none⟩), .string s] w (FPost g (dmT f s.toList) w) := by
  rw [← S_of s]
  have hl0 : s.toList.length ≤ 4294967296 := by rw [← size_toList]; exact hs
  rw [S_toList]
  generalize s.toList = l at *
  clear hs
  have hgl := hK.lt
  have hb0 := Below.refl w.heap.size w
  cases l with
  | nil =>
    go_enter Tryd.func47, Tryd.ntmps47
    go_wp2
    first | refine bodyPost_ret (results_none rfl _ _ _) rfl ?_ | refine bodyPost_end (results_none rfl _ _ _) rfl ?_
    exact ⟨rfl, hK, grown_bel hb0 g⟩
  | cons c r =>
    have hg0 := S_get0 c r
    have hsz : (S (c :: r)).size ≤ 4294967296 := by rw [S_size]; exact hl0
    have hsz2 : (S r).size ≤ 4294967296 := by rw [S_size]; simp at hl0; omega
    cases h46 : (c == 46) with
    | true =>
      have hT := Lib.hid (show dmT f (c :: r) = { f with hd := true, dm := lowerL r } by simp only [dmT, h46, if_true])
      have hne : ((c.toNat : Int) == 46) = true := by rw [eqc (i := 46) 46 rfl]; exact h46
      have hx := Lib.hid (extract_S1 c r)
      clear h46
      go_enter Tryd.func47, Tryd.ntmps47
      go_wp2_with fail
      rw [hx.out]
      refine (lowerA_any _ _ hsz2).mono ?_
      rintro e w1 ⟨rfl, hb1⟩
      rw [S_toList]
      have hK1 := hK.below hb1
      obtain ⟨c0, c1, c2, c3, c4, c5, c6, c7, c8, c9, cf⟩ := ff_cells hK1
      go_wp2
      rw [hT.out]
      first | refine bodyPost_ret (results_none rfl _ _ _) rfl ?_ | refine bodyPost_end (results_none rfl _ _ _) rfl ?_
      exact ⟨rfl, (hK1.put 2 (.bool true)).put 6 (.string (S (lowerL r))), grown_set (grown_set (grown_bel hb1 g) 2 _) 6 _⟩
    | false =>
      have hT := Lib.hid (show dmT f (c :: r) = { f with hd := true, dm := lowerL (c :: r) } by simp only [dmT, h46, Bool.false_eq_true, if_false])
      have hne : ((c.toNat : Int) == 46) = false := by rw [eqc (i := 46) 46 rfl]; exact h46
      clear h46
      go_enter Tryd.func47, Tryd.ntmps47
      go_wp2_with fail
      refine (lowerA_any _ _ hsz).mono ?_
      rintro e w1 ⟨rfl, hb1⟩
      rw [S_toList]
      have hK1 := hK.below hb1
      obtain ⟨c0, c1, c2, c3, c4, c5, c6, c7, c8, c9, cf⟩ := ff_cells hK1
      go_wp2
      rw [hT.out]
      first | refine bodyPost_ret (results_none rfl _ _ _) rfl ?_ | refine bodyPost_end (results_none rfl _ _ _) rfl ?_
      exact ⟨rfl, (hK1.put 2 (.bool true)).put 6 (.string (S (lowerL (c :: r)))), grown_set (grown_set (grown_bel hb1 g) 2 _) 6 _⟩

set_option maxHeartbeats 2000000 in
theorem path_any (f : Ff) (g : Nat) (s : ByteArray) (w : World) (hK : Blk w g 43 (ffC f)) :
    Calls Tryd.prog 48 #[.pointer (some ⟨g, 0, none⟩), .string s] w (FPost g (ptT f s.toList) w) := by
  rw [← S_of s]
  rw [S_toList]
  generalize s.toList = l at *
  obtain ⟨c0, c1, c2, c3, c4, c5, c6, c7, c8, c9, cf⟩ := ff_cells hK
  have hgl := hK.lt
  have hb0 := Below.refl w.heap.size w
  cases l with
  | nil =>
    go_enter Tryd.func48, Tryd.ntmps48
    go_wp2
    first | refine bodyPost_ret (results_none rfl _ _ _) rfl ?_ | refine bodyPost_end (results_none rfl _ _ _) rfl ?_
    exact ⟨rfl, (hK.put 3 (.bool false)).put 7 (.string (S [])), grown_set (grown_set (grown_bel hb0 g) 3 _) 7 _⟩
  | cons c r =>
    have hg0 := S_get0 c r
    cases h47 : (c == 47) with
    | true =>
      have hT := Lib.hid (show ptT f (c :: r) = { f with hp := true, pt := c :: r } by simp only [ptT, h47, if_true])
      have hne : ((c.toNat : Int) == 47) = true := by rw [eqc (i := 47) 47 rfl]; exact h47
      clear h47
      go_enter Tryd.func48, Tryd.ntmps48
      go_wp2
      rw [hT.out]
      first | refine bodyPost_ret (results_none rfl _ _ _) rfl ?_ | refine bodyPost_end (results_none rfl _ _ _) rfl ?_
      exact ⟨rfl, ((hK.put 3 (.bool true)).put 7 (.string (S []))).put 7 (.string (S (c :: r))), grown_set (grown_set (grown_set (grown_bel hb0 g) 3 _) 7 _) 7 _⟩
    | false =>
      have hT := Lib.hid (show ptT f (c :: r) = { f with hp := false, pt := [] } by simp only [ptT, h47, Bool.false_eq_true, if_false])
      have hne : ((c.toNat : Int) == 47) = false := by rw [eqc (i := 47) 47 rfl]; exact h47
      clear h47
      go_enter Tryd.func48, Tryd.ntmps48
      go_wp2
      rw [hT.out]
      first | refine bodyPost_ret (results_none rfl _ _ _) rfl ?_ | refine bodyPost_end (results_none rfl _ _ _) rfl ?_
      exact ⟨rfl, (hK.put 3 (.bool false)).put 7 (.string (S [])), grown_set (grown_set (grown_bel hb0 g) 3 _) 7 _⟩
end Go.Proofs.YtagiolhciplniaaDoor
