/-
  Joined texts: RightP Right Right2 CkP.
-/
import Derived.Test.YtgfoaopfdpclhaaGreatDoorBu26
import Derived.Test.YtgfoaopfdpclhaaGreatDoorBu15
import Derived.Test.YtgfoaopfdpclhaaGreatDoorBu18
import Derived.Deep.DeepCutAuto
import Derived.Test.YtgfoaopfdpclhaaGreatDoorBu22
import Derived.Test.YtgfoaopfdpclhaaGreatDoorBu29
import Derived.Test.YtgfoaopfdpclhaaGreatDoorBu30
namespace Go.Proofs.YtgfoaopfdpclhaaGreatDoor
open Go.RowKit
set_option linter.unusedVariables false
set_option maxRecDepth 100000

def plainB (s : List UInt8) (most : Int) (signs : List UInt8) : Bool := decide ((s.length : Int) ≤ most) && (!(s.any ctlB) && ((trimL s == s) && signs.all fun c => (cutL s c).isNone))
def inB (n a b : Int) : Bool := decide (a ≤ n) && decide (n ≤ b)
def timeR (c : Ck) : Bool := inB c.ex (-1099511627776) 1099511627776 && (inB c.cr 0 1099511627776 && (inB c.ac 0 1099511627776 && (c.pe || c.ex == 1099511627776)))
/-- Is a cookie right? -/
def rightI (x : It) : Bool := !(x.k.n == []) && (plainB x.k.n 256 [59, 61] && (plainB x.c.v 1024 [59] && (canonB x.k.d && (!(x.k.p == []) && (x.k.p.getD 0 0 == 47 && (decide (x.k.p.length ≤ 256) && timeR x.c))))))
end Go.Proofs.YtgfoaopfdpclhaaGreatDoor
namespace Go.Proofs.YtgfoaopfdpclhaaGreatDoor
open Go.RowKit
set_option linter.unusedVariables false
set_option maxRecDepth 100000

theorem within_any (n a b : Int) (w : World) : Calls Tryz.prog 34 #[.int .i64 n, .int .i64 a, .int .i64 b] w fun e w' => e = .returned (.bool (inB n a b)) ∧ w = w' := by
  by_cases h : a ≤ n
  · have hf := Lib.hid (show inB n a b = decide (n ≤ b) by unfold inB; rw [decide_eq_true h]; rfl)
    go_enter Tryz.func34, Tryz.ntmps34
    go_wp2
    go_ret
    exact ⟨ret_bool hf.out.symm, rfl⟩
  · have hf := Lib.hid (show inB n a b = false by unfold inB; rw [decide_eq_false h]; rfl)
    go_enter Tryz.func34, Tryz.ntmps34
    go_wp2
    go_ret
    exact ⟨ret_bool hf.out.symm, rfl⟩
def u8V (c : UInt8) : Value := .int .u8 c.toNat
theorem sall_step {p : UInt8 → Bool} {l : List UInt8} {k : Nat} (h : k < l.length) : (l.take (k + 1)).all p = ((l.take k).all p && p l[k]) := by
  rw [List.take_succ_eq_append_getElem h, List.all_append]; simp
theorem sall_bad {p : UInt8 → Bool} {l : List UInt8} {k : Nat} (h : k < l.length) (hp : p l[k] = false) : l.all p = false := by
  rw [List.all_eq_false]
  exact ⟨l[k], List.getElem_mem h, by simp [hp]⟩
set_option maxHeartbeats 1000000 in
theorem plain_any (s : List UInt8) (most : Int) (A : Option Addr) (n c : Nat) (q : List UInt8) (w : World) (hs : s.length ≤ 4294967296) (h : Rd w 1 (.slice A n c) n (q.map u8V)) (hn : n ≤ 1000) :
    Calls Tryz.prog 35 #[.string (S s), .int .i64 most, .slice A n c] w fun e w' => e = .returned (.bool (plainB s most q)) ∧ Below w.heap.size w w' := by
  have hm : (S s).size ≤ maxLen := by unfold maxLen; simp; omega
  have hlen : q.length = n := by have := h.1; simpa using this
  have hcap := h.cap
  unfold maxLen at hcap
  obtain ⟨hca, hcb⟩ := hcap
  subst hlen
  by_cases h1 : (s.length : Int) ≤ most
  · cases h2 : s.any ctlB with
    | true =>
      have hf := Lib.hid (show plainB s most q = false by unfold plainB; rw [decide_eq_true h1, h2]; rfl)
      go_enter Tryz.func35, Tryz.ntmps35
      go_wp2_with fail
      refine (control_any (S s) w hm).mono ?_
      rintro e w1 ⟨rfl, rfl⟩
      rw [S_toList, h2]
      go_wp2
      go_ret
      exact ⟨ret_bool hf.out.symm, Below.refl _ _⟩
    | false =>
      cases h3 : (trimL s == s) with
      | false =>
        have hf := Lib.hid (show plainB s most q = false by unfold plainB; rw [decide_eq_true h1, h2, h3]; rfl)
        go_enter Tryz.func35, Tryz.ntmps35
        go_wp2_with fail
        refine (control_any (S s) w hm).mono ?_
        rintro e w1 ⟨rfl, rfl⟩
        rw [S_toList, h2]
        go_wp2_with fail
        refine (trim_any (S s) w hm).mono ?_
        rintro e w2 ⟨rfl, rfl⟩
        rw [S_toList]
        go_wp2
        go_ret
        exact ⟨ret_bool hf.out.symm, Below.refl _ _⟩
      | true =>
        have hf := Lib.hid (show plainB s most q = q.all fun c => (cutL s c).isNone by unfold plainB; rw [decide_eq_true h1, h2, h3]; rfl)
        go_enter Tryz.func35, Tryz.ntmps35
        go_wp2_with fail
        refine (control_any (S s) w hm).mono ?_
        rintro e w1 ⟨rfl, rfl⟩
        rw [S_toList, h2]
        go_wp2_with fail
        refine (trim_any (S s) w hm).mono ?_
        rintro e w2 ⟨rfl, rfl⟩
        rw [S_toList]
        go_wp2
        clear h1 h2 h3
        go_loopw [28] (fun iv wr => ∃ k : Nat, k ≤ q.length ∧ iv = .int .i64 k ∧ Hid (((q.take k).all fun c => (cutL s c).isNone) = true) ∧ Below w.heap.size w wr) (fun iv _ => q.length - (intOf iv).toNat)
        case atStart => exact ⟨0, Nat.zero_le _, rfl, rfl, Below.refl _ _⟩
        case round =>
          obtain ⟨k, hk, rfl, hall, hbel⟩ := hrel
          by_cases hlt : k < q.length
          · have hki : (k : Int) < q.length := by omega
            have hk0 : (0 : Int) ≤ (k : Int) := by omega
            obtain ⟨b, off, rfl, hb, hx⟩ := (h.below hbel).at_ (by omega)
            have hc := hx k (by simpa using hlt)
            rw [List.getElem?_map, List.getElem?_eq_getElem hlt] at hc
            have hc' : wr.cell? ⟨b, off + k, none⟩ = some (.int .u8 q[k].toNat) := hc
            clear hx hc hb
            have hstep := Lib.hid (sall_step (p := fun c => (cutL s c).isNone) hlt)
            have hbad := Lib.hid (sall_bad (p := fun c => (cutL s c).isNone) hlt)
            cases hq : cutL s q[k] with
            | none =>
              have hqh := Lib.hid hq
              have hp := Lib.hid (show (cutL s q[k]).isNone = true by rw [hq]; rfl)
              clear hq
              go_wp2_with fail
              refine (cut_any_none (S s) q[k] _ hm (by rw [S_toList]; exact hqh.out)).mono ?_
              rintro e w3 ⟨rfl, rfl⟩
              clear hc'
              go_wp2
              go_roundw
              case rel => exact ⟨k + 1, by omega, by go_num, by show _ = _; rw [hstep.out, hall.out, hp.out]; rfl, hbel⟩
              case measure => simp [intOf]; omega
            | some ab =>
              obtain ⟨a1, b1⟩ := ab
              have hqh := Lib.hid hq
              have hp := Lib.hid (show (cutL s q[k]).isNone = false by rw [hq]; rfl)
              clear hq
              go_wp2_with fail
              refine (cut_any_some (S s) q[k] _ hm a1 b1 (by rw [S_toList]; exact hqh.out)).mono ?_
              rintro e w3 ⟨rfl, hb3⟩
              have hB3 := bel_call hbel hb3
              clear hc' hbel hb3
              go_wp2
              go_ret
              exact ⟨ret_bool (by rw [hf.out, hbad.out hp.out]), hB3⟩
          · obtain rfl : k = q.length := by omega
            have hfin := Lib.hid (show (q.all fun c => (cutL s c).isNone) = true by have := hall.out; rwa [List.take_length] at this)
            go_wp2
            go_ret
            exact ⟨ret_bool (by rw [hf.out, hfin.out]), hbel⟩
  · have hf := Lib.hid (show plainB s most q = false by unfold plainB; rw [decide_eq_false h1]; rfl)
    go_enter Tryz.func35, Tryz.ntmps35
    go_wp2
    go_ret
    exact ⟨ret_bool hf.out.symm, Below.refl _ _⟩

theorem refPlain_any (s : List UInt8) (w : World) (hs : s.length ≤ 4294967296) :
    Calls Tryz.prog 36 #[.string (S s)] w fun e w' => e = .returned (.bool (!(s.any ctlB) && ((cutL s 59).isNone && (trimL s == s)))) ∧ w = w' := by
  have hm : (S s).size ≤ maxLen := by unfold maxLen; simp; omega
  have hcut : (decide (findL s 59 < 0)) = (cutL s 59).isNone := by
    unfold findL
    cases cutL s 59 with
    | none => rfl
    | some p => simp only [Option.isNone_some, decide_eq_false_iff_not]; omega
  cases h2 : s.any ctlB with
  | true =>
    go_enter Tryz.func36, Tryz.ntmps36
    go_wp2_with fail
    refine (refControl_any (S s) w hm).mono ?_
    rintro e w1 ⟨rfl, rfl⟩
    rw [S_toList, h2]
    go_wp2
    go_ret
    exact ⟨rfl, rfl⟩
  | false =>
    cases h3 : (cutL s 59).isNone with
    | false =>
      rw [h3] at hcut
      go_enter Tryz.func36, Tryz.ntmps36
      go_wp2_with fail
      refine (refControl_any (S s) w hm).mono ?_
      rintro e w1 ⟨rfl, rfl⟩
      rw [S_toList, h2]
      go_wp2_with fail
      refine (refFind_any (S s) 59 w hm).mono ?_
      rintro e w2 ⟨rfl, rfl⟩
      rw [S_toList]
      go_wp2
      go_ret
      exact ⟨rfl, rfl⟩
    | true =>
      rw [h3] at hcut
      go_enter Tryz.func36, Tryz.ntmps36
      go_wp2_with fail
      refine (refControl_any (S s) w hm).mono ?_
      rintro e w1 ⟨rfl, rfl⟩
      rw [S_toList, h2]
      go_wp2_with fail
      refine (refFind_any (S s) 59 w hm).mono ?_
      rintro e w2 ⟨rfl, rfl⟩
      rw [S_toList]
      go_wp2_with fail
      refine (refTrim_any (S s) w hm).mono ?_
      rintro e w3 ⟨rfl, rfl⟩
      rw [S_toList]
      go_wp2
      go_ret
      exact ⟨by simp, rfl⟩
end Go.Proofs.YtgfoaopfdpclhaaGreatDoor
namespace Go.Proofs.YtgfoaopfdpclhaaGreatDoor
open Go.RowKit
set_option linter.unusedVariables false
set_option maxRecDepth 100000

/-- What both walks read: a key and a cookie, each in a block. -/
def KcS (w : World) (bk bc : Nat) (x : It) : Prop := kyAt w bk 0 = some x.k ∧ ckAt w bc 0 = some x.c
theorem kcS_later {w w1 : World} {bk bc : Nat} {x : It} (h : KcS w bk bc x) (hb : Below w.heap.size w w1) : KcS w1 bk bc x :=
  ⟨kyAt_later h.1 hb, rdAt_kept hb (World.block_lt_of_cell? w _ (ck_cells h.2).1) h.2⟩
theorem ck_cells2 {w : World} {b o : Nat} {c : Ck} (h : ckAt w b o = some c) : w.cell? ⟨b, o, none⟩ = some (.string (S c.v)) ∧ w.cell? ⟨b, o + 6, none⟩ = some (.int .i64 c.cr) ∧ w.cell? ⟨b, o + 7, none⟩ = some (.int .i64 c.ac) :=
  have hr : w.rangeAt b o (cCk c) := rdAt_range (f := cCk) h
  ⟨hr 0 _ rfl, hr 6 _ rfl, hr 7 _ rfl⟩
theorem kcS_cells {w : World} {bk bc : Nat} {x : It} (h : KcS w bk bc x) :
    w.cell? ⟨bk, 0, none⟩ = some (.string (S x.k.n)) ∧ w.cell? ⟨bk, 1, none⟩ = some (.string (S x.k.d)) ∧ w.cell? ⟨bk, 2, none⟩ = some (.string (S x.k.p)) ∧ w.cell? ⟨bc, 0, none⟩ = some (.string (S x.c.v)) ∧ w.cell? ⟨bc, 4, none⟩ = some (.bool x.c.pe) ∧ w.cell? ⟨bc, 5, none⟩ = some (.int .i64 x.c.ex) ∧ w.cell? ⟨bc, 6, none⟩ = some (.int .i64 x.c.cr) ∧ w.cell? ⟨bc, 7, none⟩ = some (.int .i64 x.c.ac) := by
  obtain ⟨k0, k1, k2⟩ := ky_cells h.1
  obtain ⟨_, _, _, c4, c5⟩ := ck_cells h.2
  obtain ⟨c0, c6, c7⟩ := ck_cells2 h.2
  rw [Nat.zero_add] at *
  exact ⟨k0, k1, k2, c0, c4, c5, c6, c7⟩
theorem rd_two8 (w : World) (x y : UInt8) (t : TypeId) (g : Nat) (hg : w.heap.size = g) : Rd (w.alloc (.cells #[.int .u8 x.toNat, .int .u8 y.toNat] t)) 1 (.slice (some ⟨g, 0, none⟩) 2 2) 2 ([x, y].map u8V) := by
  subst hg
  refine ⟨by simp, _, _, rfl, Nat.le_refl _, by simp [maxLen], .inr ⟨_, _, rfl, by simp, fun j hj => ?_⟩⟩
  rw [Nat.zero_add, cell_of_row _ w.heap.size j _ t (0, 0) (heap_alloc_new w _)]
  simp [u8V]
theorem rd_one8 (w : World) (x : UInt8) (t : TypeId) (g : Nat) (hg : w.heap.size = g) : Rd (w.alloc (.cells #[.int .u8 x.toNat] t)) 1 (.slice (some ⟨g, 0, none⟩) 1 1) 1 ([x].map u8V) := by
  subst hg
  refine ⟨by simp, _, _, rfl, Nat.le_refl _, by simp [maxLen], .inr ⟨_, _, rfl, by simp, fun j hj => ?_⟩⟩
  rw [Nat.zero_add, cell_of_row _ w.heap.size j _ t (0, 0) (heap_alloc_new w _)]
  simp [u8V]
theorem ckAt_new2 (w : World) (k : Ck) (t g : Nat) (hg : w.heap.size = g) : ckAt (w.alloc (.cells (cCk k).toArray t)) g 0 = some k := by
  subst hg; exact ckAt_of (range_blk (heap_alloc_new w _))
theorem get0 {p : List UInt8} (h : 0 < p.length) : ((S p)[0]'(by rw [S_size]; exact h)) = p.getD 0 0 := by
  cases p with
  | nil => simp at h
  | cons a b => rfl
theorem get_eq {p : List UInt8} (h : 0 < p.length) (g : (((S p)[0]'(by rw [S_size]; exact h)).toNat : Int) = 47) : (p.getD 0 0 == 47) = true := by
  rw [get0 h] at g
  have : p.getD 0 0 = 47 := UInt8.toNat_inj.1 (show (p.getD 0 0).toNat = (47 : UInt8).toNat by have h47 : (47 : UInt8).toNat = 47 := rfl; omega)
  rw [this]; rfl
theorem get_ne {p : List UInt8} (h : 0 < p.length) (g : ¬ (((S p)[0]'(by rw [S_size]; exact h)).toNat : Int) = 47) : (p.getD 0 0 == 47) = false := by
  rw [get0 h] at g
  rw [beq_eq_false_iff_ne]
  intro e
  rw [e] at g
  exact g (by decide)
theorem get_b {p : List UInt8} (h : 0 < p.length) (g : (p.getD 0 0 == 47) = true) : ((((S p)[0]'(by rw [S_size]; exact h)).toNat : Int) != 47) = false := by
  rw [get0 h]
  have : p.getD 0 0 = 47 := by simpa using g
  rw [this]; rfl
theorem get_b' {p : List UInt8} (h : 0 < p.length) (g : (p.getD 0 0 == 47) = false) : ((((S p)[0]'(by rw [S_size]; exact h)).toNat : Int) != 47) = true := by
  rw [bne_iff_ne]
  intro e
  rw [get_eq h e] at g; cases g
/-- Short texts. -/
def ShI (x : It) : Prop := x.k.n.length ≤ 4294967296 ∧ x.k.d.length ≤ 4294967296 ∧ x.k.p.length ≤ 4294967296 ∧ x.c.v.length ≤ 4294967296
set_option maxRecDepth 20000 in
set_option maxHeartbeats 4000000 in
theorem right_any (x : It) (w : World) (hx : ShI x) :
    Calls Tryz.prog 11 #[vI x] w fun e w' => e = .returned (.bool (rightI x)) ∧ Below w.heap.size w w' := by
  obtain ⟨h1, h2, h3, h4⟩ := hx
  have hI := itAt_new w x 34 w.heap.size rfl
  have hB := bel_alloc (Below.refl w.heap.size w) (.cells (cI x).toArray 34)
  have hk := kyAt_it hI
  have hc := ckAt_it hI
  rw [Nat.zero_add] at hc
  clear hI
  go_enter Tryz.func11, Tryz.ntmps11
  go_upto_region 1 with (fail)
  go_cut [3, 4] (fun v3 v4 wx => ∃ bk bc, v3 = .pointer (some ⟨bk, 0, none⟩) ∧ v4 = .pointer (some ⟨bc, 0, none⟩) ∧ KcS wx bk bc x ∧ Below w.heap.size w wx)
  case first =>
    go_region
    · go_wp2
      go_meet
      refine ⟨w.heap.size + 1, w.heap.size + 1 + 1, rfl, rfl, ⟨?_, ?_⟩, (bel_alloc (bel_alloc hB _) _).drew⟩
      · exact ky_drew (kyAt_later (kyAt_new (w.alloc (.cells (cI x).toArray 34)) x.k 30 (w.heap.size + 1) (by simp)) (bel_alloc (Below.refl _ _) _))
      · exact (ckAt_drew _ _ _).trans (ckAt_new2 ((w.alloc (.cells (cI x).toArray 34)).alloc (.cells (cK x.k).toArray 30)) x.c 32 (w.heap.size + 1 + 1) (by simp))
    · go_wp2
      go_meet
      refine ⟨w.heap.size + 1 + 1, w.heap.size + 1, rfl, rfl, ⟨?_, ?_⟩, (bel_alloc (bel_alloc hB _) _).drew⟩
      · exact ky_drew (kyAt_new ((w.alloc (.cells (cI x).toArray 34)).alloc (.cells (cCk x.c).toArray 32)) x.k 30 (w.heap.size + 1 + 1) (by simp))
      · exact (ckAt_drew _ _ _).trans ((ckAt_alloc _ _ _ _ (by simp)).trans (ckAt_new2 (w.alloc (.cells (cI x).toArray 34)) x.c 32 (w.heap.size + 1) (by simp)))
  case rest =>
    obtain ⟨bk, bc, rfl, rfl, hS, hB1⟩ := hcut
    clear hB hk hc
    obtain ⟨q0, q1, q2, q3, q4, q5, q6, q7⟩ := kcS_cells hS
    go_wp2_with fail
    refine (canon_any (S x.k.d) _ (by simpa using h2)).mono ?_
    rintro e w1 ⟨rfl, hb1⟩
    rw [S_toList]
    replace hS := kcS_later hS hb1
    replace hB1 := bel_call hB1 hb1
    clear q0 q1 q2 q3 q4 q5 q6 q7 hb1
    generalize hcn : canonT x.k.d = cn at *
    obtain ⟨ct, ce⟩ := cn
    replace hcn := Lib.hid hcn
    go_upto_region 3 with (fail)
    go_cut [7] (fun v wx => v = .bool (timeR x.c) ∧ KcS wx bk bc x ∧ Below w.heap.size w wx)
    case first =>
      obtain ⟨q0, q1, q2, q3, q4, q5, q6, q7⟩ := kcS_cells hS
      have hT := Lib.hid (show timeR x.c = (inB x.c.ex (-1099511627776) 1099511627776 && (inB x.c.cr 0 1099511627776 && (inB x.c.ac 0 1099511627776 && (x.c.pe || x.c.ex == 1099511627776)))) from rfl)
      go_wp2_with fail
      refine (within_any _ _ _ _).mono ?_
      rintro e w2 ⟨rfl, rfl⟩
      cases e0 : inB x.c.ex (-1099511627776) 1099511627776 with
      | false =>
        have hT2 := Lib.hid (show timeR x.c = false by rw [hT.out, e0]; simp)
        clear e0
        go_wp2
        go_meet
        exact ⟨by rw [hT2.out], hS, hB1⟩
      | true =>
        go_wp2_with fail
        refine (within_any _ _ _ _).mono ?_
        rintro e w3 ⟨rfl, rfl⟩
        cases e1 : inB x.c.cr 0 1099511627776 with
        | false =>
          have hT2 := Lib.hid (show timeR x.c = false by rw [hT.out, e0, e1]; simp)
          clear e1
          go_wp2
          go_meet
          exact ⟨by rw [hT2.out], hS, hB1⟩
        | true =>
          go_wp2_with fail
          refine (within_any _ _ _ _).mono ?_
          rintro e w4 ⟨rfl, rfl⟩
          cases e2 : inB x.c.ac 0 1099511627776 with
          | false =>
            have hT2 := Lib.hid (show timeR x.c = false by rw [hT.out, e0, e1, e2]; simp)
            clear e2
            go_wp2
            go_meet
            exact ⟨by rw [hT2.out], hS, hB1⟩
          | true =>
            cases e3 : x.c.pe with
            | true =>
              have hT2 := Lib.hid (show timeR x.c = true by rw [hT.out, e0, e1, e2, e3]; simp)
              rw [e3] at q4
              clear e3
              go_wp2
              go_meet
              exact ⟨by rw [hT2.out], hS, hB1⟩
            | false =>
              have hT2 := Lib.hid (show timeR x.c = (x.c.ex == 1099511627776) by rw [hT.out, e0, e1, e2, e3]; simp)
              rw [e3] at q4
              clear e3
              go_wp2
              go_meet
              exact ⟨by rw [hT2.out], hS, hB1⟩
    case rest =>
      obtain ⟨rfl, hS2, hB2⟩ := hcut
      clear hS hB1
      generalize wc = wD at *
      have hR := Lib.hid (show rightI x = (!(x.k.n == []) && (plainB x.k.n 256 [59, 61] && (plainB x.c.v 1024 [59] && (canonB x.k.d && (!(x.k.p == []) && (x.k.p.getD 0 0 == 47 && (decide (x.k.p.length ≤ 256) && timeR x.c))))))) from rfl)
      obtain ⟨q0, q1, q2, q3, q4, q5, q6, q7⟩ := kcS_cells hS2
      by_cases eA : x.k.n = []
      · have hF := Lib.hid (show rightI x = false by rw [hR.out, eA]; rfl)
        rw [eA] at q0
        clear eA
        go_wp2
        go_ret
        exact ⟨ret_bool hF.out.symm, hB2⟩
      have eA1 : (x.k.n == []) = false := by simpa using eA
      have eA2 : x.k.n.isEmpty = false := by simpa using eA
      have hRB := Lib.hid (show rightI x = (plainB x.k.n 256 [59, 61] && (plainB x.c.v 1024 [59] && (canonB x.k.d && (!(x.k.p == []) && (x.k.p.getD 0 0 == 47 && (decide (x.k.p.length ≤ 256) && timeR x.c)))))) by rw [hR.out, eA1]; rfl)
      have hr2 : Rd (wD.alloc (.cells #[.int .u8 59, .int .u8 61] 5)) 1 (.slice (some ⟨wD.heap.size, 0, none⟩) 2 2) 2 (([59, 61] : List UInt8).map u8V) := rd_two8 wD 59 61 _ _ rfl
      have hS3 := kcS_later hS2 (bel_alloc (Below.refl _ wD) (.cells #[.int .u8 59, .int .u8 61] 5))
      have hB3 := bel_alloc hB2 (.cells #[.int .u8 59, .int .u8 61] 5)
      clear hS2 hB2 eA
      go_wp2_with fail
      refine (plain_any x.k.n 256 _ 2 2 [59, 61] _ h1 hr2 (by omega)).mono ?_
      rintro e w3 ⟨rfl, hb3⟩
      have hS4 := kcS_later hS3 hb3
      have hB4 := bel_call hB3 hb3
      clear hS3 hB3 hb3 hr2 q0 q1 q2 q3 q4 q5 q6 q7 eA1 eA2
      cases eB : plainB x.k.n 256 [59, 61] with
      | false =>
        have hF := Lib.hid (show rightI x = false by rw [hRB.out, eB]; rfl)
        clear eB
        go_wp2
        go_ret
        exact ⟨ret_bool hF.out.symm, hB4⟩
      | true =>
      have hRC := Lib.hid (show rightI x = (plainB x.c.v 1024 [59] && (canonB x.k.d && (!(x.k.p == []) && (x.k.p.getD 0 0 == 47 && (decide (x.k.p.length ≤ 256) && timeR x.c))))) by rw [hRB.out, eB]; rfl)
      clear eB
      obtain ⟨q0, q1, q2, q3, q4, q5, q6, q7⟩ := kcS_cells hS4
      have hr1 : Rd (w3.alloc (.cells #[.int .u8 59] 5)) 1 (.slice (some ⟨w3.heap.size, 0, none⟩) 1 1) 1 (([59] : List UInt8).map u8V) := rd_one8 w3 59 _ _ rfl
      have hS5 := kcS_later hS4 (bel_alloc (Below.refl _ w3) (.cells #[.int .u8 59] 5))
      have hB5 := bel_alloc hB4 (.cells #[.int .u8 59] 5)
      clear hS4 hB4
      go_wp2_with fail
      refine (plain_any x.c.v 1024 _ 1 1 [59] _ h4 hr1 (by omega)).mono ?_
      rintro e w4 ⟨rfl, hb4⟩
      have hS6 := kcS_later hS5 hb4
      have hB6 := bel_call hB5 hb4
      clear hS5 hB5 hb4 hr1 q0 q1 q2 q3 q4 q5 q6 q7
      cases eC : plainB x.c.v 1024 [59] with
      | false =>
        have hF := Lib.hid (show rightI x = false by rw [hRC.out, eC]; rfl)
        clear eC
        go_wp2
        go_ret
        exact ⟨ret_bool hF.out.symm, hB6⟩
      | true =>
      have hRD := Lib.hid (show rightI x = (canonB x.k.d && (!(x.k.p == []) && (x.k.p.getD 0 0 == 47 && (decide (x.k.p.length ≤ 256) && timeR x.c)))) by rw [hRC.out, eC]; rfl)
      clear eC
      obtain ⟨q0, q1, q2, q3, q4, q5, q6, q7⟩ := kcS_cells hS6
      clear hS6
      cases eD : canonB x.k.d with
      | false =>
        have hF := Lib.hid (show rightI x = false by rw [hRD.out, eD]; rfl)
        have hcs : ((ce == 0) = false) ∨ ((ce == 0) = true ∧ (ct == x.k.d) = false) := by
          rcases canonT_not eD with h | ⟨h, h'⟩
          · rw [hcn.out] at h; exact .inl (beq_eq_false_iff_ne.2 h)
          · rw [hcn.out] at h h'; exact .inr ⟨beq_iff_eq.2 h, beq_eq_false_iff_ne.2 h'⟩
        clear eD
        rcases hcs with hne | ⟨hne, hne2⟩
        all_goals
          go_wp2
          go_ret
          exact ⟨ret_bool hF.out.symm, hB6⟩
      | true =>
      have hRE := Lib.hid (show rightI x = (!(x.k.p == []) && (x.k.p.getD 0 0 == 47 && (decide (x.k.p.length ≤ 256) && timeR x.c))) by rw [hRD.out, eD]; rfl)
      have hcc : ct = x.k.d ∧ ce = 0 := by have h := hcn.out; rw [canonT_of eD] at h; injection h with h h'; exact ⟨h.symm, h'.symm⟩
      obtain ⟨rfl, rfl⟩ := hcc
      clear eD
      by_cases eF : x.k.p = []
      · have hF := Lib.hid (show rightI x = false by rw [hRE.out, eF]; rfl)
        rw [eF] at q2
        clear eF
        go_wp2
        go_ret
        exact ⟨ret_bool hF.out.symm, hB6⟩
      have eF1 : (x.k.p == []) = false := by simpa using eF
      have eF2 : x.k.p.isEmpty = false := by simpa using eF
      have hRF := Lib.hid (show rightI x = (x.k.p.getD 0 0 == 47 && (decide (x.k.p.length ≤ 256) && timeR x.c)) by rw [hRE.out, eF1]; rfl)
      have eF3 : 0 < x.k.p.length := by cases h : x.k.p with | nil => exact absurd h eF | cons a b => simp
      clear eF
      go_wp2
      · rename_i g1 g2
        go_ret
        refine ⟨ret_bool (Eq.symm ?_), hB6⟩
        rw [hRF.out, get_eq eF3 g1, decide_eq_true (by omega)]; rfl
      · rename_i g1 g2
        go_ret
        refine ⟨ret_bool (Eq.symm ?_), hB6⟩
        rw [hRF.out, get_eq eF3 g1, decide_eq_false (by omega)]; rfl
      · rename_i g1
        go_ret
        refine ⟨ret_bool (Eq.symm ?_), hB6⟩
        rw [hRF.out, get_ne eF3 g1]; rfl

theorem find_dec (s : List UInt8) (c : UInt8) : decide (findL s c < 0) = (cutL s c).isNone := by
  unfold findL
  cases cutL s c with
  | none => rfl
  | some p => simp only [Option.isNone_some, decide_eq_false_iff_not]; omega
theorem find_ge (s : List UInt8) (c : UInt8) : decide (0 ≤ findL s c) = !(cutL s c).isNone := by
  unfold findL
  cases cutL s c with
  | none => rfl
  | some p => simp only [Option.isNone_some, Bool.not_false, decide_eq_true_eq]; omega
set_option maxRecDepth 20000 in
set_option maxHeartbeats 4000000 in
theorem refRight_any' (x : It) (w : World) (hx : ShI x) :
    Calls Tryz.prog 12 #[vI x] w fun e w' => e = .returned (.bool (rightI x)) ∧ Below w.heap.size w w' := by
  obtain ⟨h1, h2, h3, h4⟩ := hx
  have hI := itAt_new w x 34 w.heap.size rfl
  have hk := kyAt_it hI
  have hc := ckAt_it hI
  rw [Nat.zero_add] at hc
  clear hI
  have hS : KcS (((w.alloc (.cells (cI x).toArray 34)).alloc (.cells (cK x.k).toArray 30)).alloc (.cells (cCk x.c).toArray 32)) (w.heap.size + 1) (w.heap.size + 1 + 1) x :=
    ⟨kyAt_later (kyAt_new (w.alloc (.cells (cI x).toArray 34)) x.k 30 (w.heap.size + 1) (by simp)) (bel_alloc (Below.refl _ _) _), ckAt_new2 ((w.alloc (.cells (cI x).toArray 34)).alloc (.cells (cK x.k).toArray 30)) x.c 32 (w.heap.size + 1 + 1) (by simp)⟩
  have hB : Below w.heap.size w (((w.alloc (.cells (cI x).toArray 34)).alloc (.cells (cK x.k).toArray 30)).alloc (.cells (cCk x.c).toArray 32)) := bel_alloc (bel_alloc (bel_alloc (Below.refl _ _) _) _) _
  go_enter Tryz.func12, Tryz.ntmps12
  go_upto_region 4 with (fail)
  show Code.wp _ _ _ _ (((w.alloc (.cells (cI x).toArray 34)).alloc (.cells (cK x.k).toArray 30)).alloc (.cells (cCk x.c).toArray 32))
  generalize (((w.alloc (.cells (cI x).toArray 34)).alloc (.cells (cK x.k).toArray 30)).alloc (.cells (cCk x.c).toArray 32)) = W at *
  clear hk hc
  have hz1 : (S x.k.n).size ≤ maxLen := by unfold maxLen; simp; omega
  obtain ⟨q0, q1, q2, q3, q4, q5, q6, q7⟩ := kcS_cells hS
  have hR := Lib.hid (show rightI x = (!(x.k.n == []) && ((decide ((x.k.n.length : Int) ≤ 256) && (!(x.k.n.any ctlB) && ((trimL x.k.n == x.k.n) && ((cutL x.k.n 59).isNone && ((cutL x.k.n 61).isNone && true))))) && ((decide ((x.c.v.length : Int) ≤ 1024) && (!(x.c.v.any ctlB) && ((trimL x.c.v == x.c.v) && ((cutL x.c.v 59).isNone && true)))) && (canonB x.k.d && (!(x.k.p == []) && (x.k.p.getD 0 0 == 47 && (decide (x.k.p.length ≤ 256) && timeR x.c))))))) from rfl)
  by_cases eA : x.k.n = []
  · have hF := Lib.hid (show rightI x = false by rw [hR.out, eA]; rfl)
    rw [eA] at q0
    clear eA
    go_wp2
    go_ret
    exact ⟨ret_bool hF.out.symm, hB⟩
  have eA1 : (x.k.n == []) = false := by simpa using eA
  have eA2 : x.k.n.isEmpty = false := by simpa using eA
  clear eA
  by_cases eB' : (256 : Int) < x.k.n.length
  · have hF := Lib.hid (show rightI x = false by rw [hR.out, decide_eq_false (by omega)]; simp)
    go_wp2
    go_ret
    exact ⟨ret_bool hF.out.symm, hB⟩
  have eB : (x.k.n.length : Int) ≤ 256 := by omega
  clear eB'
  cases eC : (!(x.k.n.any ctlB) && ((cutL x.k.n 59).isNone && (trimL x.k.n == x.k.n))) with
  | false =>
    have hF : Hid (rightI x = false) := by
      show _ = _
      rw [hR.out]
      revert eC
      cases x.k.n.any ctlB <;> cases (cutL x.k.n 59).isNone <;> cases (trimL x.k.n == x.k.n) <;> simp
    go_wp2_with fail
    refine (refPlain_any x.k.n _ h1).mono ?_
    rintro e w1 ⟨rfl, rfl⟩
    rw [eC]
    clear eC
    go_wp2
    go_ret
    exact ⟨ret_bool hF.out.symm, hB⟩
  | true =>
  cases eD : (cutL x.k.n 61).isNone with
  | false =>
    have hF : Hid (rightI x = false) := by show _ = _; rw [hR.out, eD]; simp
    have hfd := find_ge x.k.n 61
    rw [eD] at hfd
    go_wp2_with fail
    refine (refPlain_any x.k.n _ h1).mono ?_
    rintro e w1 ⟨rfl, rfl⟩
    rw [eC]
    clear eC eD
    go_wp2_with fail
    refine (refFind_any (S x.k.n) 61 _ hz1).mono ?_
    rintro e w2 ⟨rfl, rfl⟩
    rw [S_toList]
    go_wp2
    go_ret
    exact ⟨ret_bool hF.out.symm, hB⟩
  | true =>
  have hfd := find_ge x.k.n 61
  rw [eD] at hfd
  have hR2 : Hid (rightI x = ((decide ((x.c.v.length : Int) ≤ 1024) && (!(x.c.v.any ctlB) && ((trimL x.c.v == x.c.v) && ((cutL x.c.v 59).isNone && true)))) && (canonB x.k.d && (!(x.k.p == []) && (x.k.p.getD 0 0 == 47 && (decide (x.k.p.length ≤ 256) && timeR x.c)))))) := by
    show _ = _
    rw [hR.out, eA1, decide_eq_true eB, eD]
    revert eC
    cases x.k.n.any ctlB <;> cases (cutL x.k.n 59).isNone <;> cases (trimL x.k.n == x.k.n) <;> simp
  replace hfd := Lib.hid hfd
  go_wp2_with fail
  refine (refPlain_any x.k.n _ h1).mono ?_
  rintro e w1 ⟨rfl, rfl⟩
  rw [eC]
  clear eC eD
  go_wp2_with fail
  refine (refFind_any (S x.k.n) 61 _ hz1).mono ?_
  rintro e w2 ⟨rfl, rfl⟩
  rw [S_toList]
  have hfd2 := hfd.out
  clear hR
  by_cases eE' : (1024 : Int) < x.c.v.length
  · have hF := Lib.hid (show rightI x = false by rw [hR2.out, decide_eq_false (by omega)]; simp)
    go_wp2
    go_ret
    exact ⟨ret_bool hF.out.symm, hB⟩
  have eE : (x.c.v.length : Int) ≤ 1024 := by omega
  clear eE'
  cases eG : (!(x.c.v.any ctlB) && ((cutL x.c.v 59).isNone && (trimL x.c.v == x.c.v))) with
  | false =>
    have hF : Hid (rightI x = false) := by
      show _ = _
      rw [hR2.out]
      revert eG
      cases x.c.v.any ctlB <;> cases (cutL x.c.v 59).isNone <;> cases (trimL x.c.v == x.c.v) <;> simp
    go_wp2_with fail
    refine (refPlain_any x.c.v _ h4).mono ?_
    rintro e w1 ⟨rfl, rfl⟩
    rw [eG]
    clear eG
    go_wp2
    go_ret
    exact ⟨ret_bool hF.out.symm, hB⟩
  | true =>
  have hR3 : Hid (rightI x = (canonB x.k.d && (!(x.k.p == []) && (x.k.p.getD 0 0 == 47 && (decide (x.k.p.length ≤ 256) && timeR x.c))))) := by
    show _ = _
    rw [hR2.out, decide_eq_true eE]
    revert eG
    cases x.c.v.any ctlB <;> cases (cutL x.c.v 59).isNone <;> cases (trimL x.c.v == x.c.v) <;> simp
  go_wp2_with fail
  refine (refPlain_any x.c.v _ h4).mono ?_
  rintro e w1 ⟨rfl, rfl⟩
  rw [eG]
  clear eG hR2
  go_wp2_with fail
  refine (refCanonical_any (S x.k.d) _ (by simpa using h2)).mono ?_
  rintro e w3 ⟨rfl, hb3⟩
  rw [S_toList]
  have hS3 := kcS_later hS hb3
  have hB3 := bel_call hB hb3
  clear q0 q1 q2 q3 q4 q5 q6 q7 hS hB hb3 hfd2 hfd
  obtain ⟨q0, q1, q2, q3, q4, q5, q6, q7⟩ := kcS_cells hS3
  cases eD : canonB x.k.d with
  | false =>
    have hF := Lib.hid (show rightI x = false by rw [hR3.out, eD]; rfl)
    clear eD
    go_wp2
    go_ret
    exact ⟨ret_bool hF.out.symm, hB3⟩
  | true =>
  have hRE := Lib.hid (show rightI x = (!(x.k.p == []) && (x.k.p.getD 0 0 == 47 && (decide (x.k.p.length ≤ 256) && timeR x.c))) by rw [hR3.out, eD]; rfl)
  clear eD
  by_cases eF : x.k.p = []
  · have hF := Lib.hid (show rightI x = false by rw [hRE.out, eF]; rfl)
    rw [eF] at q2
    clear eF
    go_wp2
    go_ret
    exact ⟨ret_bool hF.out.symm, hB3⟩
  have eF1 : (x.k.p == []) = false := by simpa using eF
  have eF2 : x.k.p.isEmpty = false := by simpa using eF
  have hRF := Lib.hid (show rightI x = (x.k.p.getD 0 0 == 47 && (decide (x.k.p.length ≤ 256) && timeR x.c)) by rw [hRE.out, eF1]; rfl)
  have eF3 : 0 < x.k.p.length := by cases h : x.k.p with | nil => exact absurd h eF | cons a b => simp
  clear eF
  by_cases g1 : x.k.p.getD 0 0 = 47
  · by_cases g2' : 256 < x.k.p.length
    · have hF := Lib.hid (show rightI x = false by rw [hRF.out, decide_eq_false (show ¬ x.k.p.length ≤ 256 by omega)]; simp)
      have g3 : ((((S x.k.p)[0]'(by rw [S_size]; exact eF3)).toNat : Int) != 47) = false := get_b eF3 (by rw [g1]; rfl)
      have g4 : (256 : Int) < x.k.p.length := by omega
      clear g1
      go_wp2
      go_ret
      exact ⟨ret_bool hF.out.symm, hB3⟩
    · have g2 : (x.k.p.length : Int) ≤ 256 := by omega
      have hRG := Lib.hid (show rightI x = timeR x.c by rw [hRF.out, g1, decide_eq_true (show x.k.p.length ≤ 256 by omega)]; rfl)
      have g3 : ((((S x.k.p)[0]'(by rw [S_size]; exact eF3)).toNat : Int) != 47) = false := get_b eF3 (by rw [g1]; rfl)
      clear g1
      go_wp2
      all_goals
        go_ret
        refine ⟨ret_bool (Eq.symm ?_), hB3⟩
        rw [hRG.out]
        unfold timeR inB
        simp [*]
        try omega
  · have hF := Lib.hid (show rightI x = false by rw [hRF.out, beq_eq_false_iff_ne.2 g1]; rfl)
    have g3 : ((((S x.k.p)[0]'(by rw [S_size]; exact eF3)).toNat : Int) != 47) = true := get_b' eF3 (beq_eq_false_iff_ne.2 g1)
    clear g1
    go_wp2
    go_ret
    exact ⟨ret_bool hF.out.symm, hB3⟩
end Go.Proofs.YtgfoaopfdpclhaaGreatDoor
namespace Go.Proofs.YtgfoaopfdpclhaaGreatDoor
open Go.RowKit
set_option linter.unusedVariables false
set_option maxRecDepth 100000

def itZ : It := noneI k0
def clT (n : Int) : Int := min (max n 0) 1099511627776
def fieldsH (head : List UInt8) : Ff := readT (parseL head)
def mkX (rs : List (List UInt8)) (r : Rq) (head : List UInt8) (now : Int) : It :=
  ⟨⟨(parseP head).1, domK rs r (fieldsH head), pathM r (fieldsH head)⟩, ⟨(parseP head).2, !domS rs (fieldsH head), (fieldsH head).sc, (fieldsH head).ho, (expI (fieldsH head) (clT now)).2, (expI (fieldsH head) (clT now)).1, clT now, clT now⟩⟩
def mkE (rs : List (List UInt8)) (r : Rq) (head : List UInt8) : Int :=
  if checkI rs = 0 then (if rightU r then (if parseE head = 0 then (if domE rs r (fieldsH head) = 0 then (if pathE r (fieldsH head) = 0 then flagE r (fieldsH head) else pathE r (fieldsH head)) else domE rs r (fieldsH head)) else parseE head) else 1) else checkI rs
def mkIt (rs : List (List UInt8)) (r : Rq) (head : List UInt8) (now : Int) : It := if mkE rs r head = 0 then mkX rs r head now else itZ
def mkV (rs : List (List UInt8)) (r : Rq) (head : List UInt8) (now : Int) : Value := .tuple #[vI (mkIt rs r head now), .int .i64 (mkE rs r head)]
theorem mk_bad {rs : List (List UInt8)} {r : Rq} {head : List UInt8} {now e : Int} (h : mkE rs r head = e) (he : e ≠ 0) : mkV rs r head now = .tuple #[vI itZ, .int .i64 e] := by
  unfold mkV mkIt
  rw [h, if_neg he]
theorem mk_good {rs : List (List UInt8)} {r : Rq} {head : List UInt8} {now : Int} (h : mkE rs r head = 0) : mkV rs r head now = .tuple #[vI (mkX rs r head now), .int .i64 0] := by
  unfold mkV mkIt
  rw [h, if_pos rfl]

theorem lowC_lowCP (c : UInt8) : lowC (lowC c) = lowC c := by
  by_cases h : 65 ≤ c.toNat ∧ c.toNat ≤ 90
  · have := lowC_yes h.1 h.2
    exact lowC_no (by omega)
  · rw [lowC_no h, lowC_no h]
theorem low_low (l : List UInt8) : lowerL (lowerL l) = lowerL l := by
  unfold lowerL
  rw [List.map_map]
  exact List.map_congr_left fun x _ => lowC_lowCP x
theorem low_read (l : List (List UInt8 × List UInt8)) : lowerL (readT l).dm = (readT l).dm := by
  have : ∀ (l : List (List UInt8 × List UInt8)) (f : Ff), lowerL f.dm = f.dm → lowerL (l.foldl sayT f).dm = (l.foldl sayT f).dm := by
    intro l
    induction l with
    | nil => exact fun f h => h
    | cons p r ih =>
      intro f h
      refine ih _ ?_
      unfold sayT
      repeat' split
      all_goals (try exact h)
      · unfold exT; split <;> exact h
      · unfold agT; split <;> exact h
      · unfold dmT; split
        · exact h
        · exact low_low _
      · unfold ptT; split
        · exact h
        · split <;> exact h
  exact this l ff0 rfl
theorem canon_low {l : List UInt8} (h : lowerL l = l) : (decide ((canonT l).2 = 0) = canonB l) ∧ (canonB l = true → (canonT l).1 = l) := by
  unfold canonT
  rw [h]
  by_cases h1 : 256 < l.length
  · rw [if_pos h1]
    have hb : canonB l = false := by
      cases hc : canonB l with
      | false => rfl
      | true =>
        unfold canonB nameB at hc
        rw [show decide (l.length ≤ 256) = false from decide_eq_false (by omega)] at hc
        simp at hc
    rw [hb]
    exact ⟨rfl, fun h => by cases h⟩
  · rw [if_neg h1]
    have hb : canonB l = (nameB l || addrB l) := by
      unfold canonB
      rw [show decide (l.length ≤ 256) = true from decide_eq_true (by omega), Bool.and_true]
    rw [hb]
    cases hc : (nameB l || addrB l)
    · exact ⟨rfl, fun h => by cases h⟩
    · exact ⟨rfl, fun _ => rfl⟩
theorem pub_ref {rs : List (List UInt8)} (d : List UInt8) (h : checkI rs = 0) : publicB rs d = (nameB d && (tailL d (bestI d rs) == d)) := by
  unfold publicB ofT
  rw [if_neg (by rw [h]; decide)]
  cases hn : nameB d
  · simp
  · simp
theorem flagE_or (r : Rq) (f : Ff) : flagE r f = 0 ∨ flagE r f = 15 := by unfold flagE; split <;> simp
theorem pathE_or (r : Rq) (f : Ff) : pathE r f = 0 ∨ pathE r f = 3 := by unfold pathE; split <;> simp
theorem domE_or (rs : List (List UInt8)) (r : Rq) (f : Ff) : domE rs r f = 0 ∨ domE rs r f = 13 ∨ domE rs r f = 14 := by unfold domE; (repeat' split) <;> simp
end Go.Proofs.YtgfoaopfdpclhaaGreatDoor
