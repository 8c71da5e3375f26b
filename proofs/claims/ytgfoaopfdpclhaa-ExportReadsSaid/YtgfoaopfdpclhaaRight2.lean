/-
  The walks: is a cookie right? The program's and the document's.
-/
import Derived.Test.YtgfoaopfdpclhaaRight
import Derived.Test.YtgfoaopfdpclhaaHost8
namespace Go.Proofs.Ytgfoaopfdpclhaa
open Go.RowKit
set_option linter.unusedVariables false

/-- What both walks read: a key and a cookie, each in a block. -/
def KcS (w : World) (bk bc : Nat) (x : It) : Prop := kyAt w bk 0 = some x.k ∧ ckAt w bc 0 = some x.c
theorem kcS_later {w w1 : World} {bk bc : Nat} {x : It} (h : KcS w bk bc x) (hb : Below w.heap.size w w1) : KcS w1 bk bc x :=
  ⟨kyAt_later h.1 hb, rdAt_kept hb (World.block_lt_of_cell? w _ (ck_cells h.2).1) h.2⟩
theorem ck_cells2 {w : World} {b o : Nat} {c : Ck} (h : ckAt w b o = some c) : w.cell? ⟨b, o, none⟩ = some (.string (S c.v)) ∧ w.cell? ⟨b, o + 6, none⟩ = some (.int .i64 c.cr) ∧ w.cell? ⟨b, o + 7, none⟩ = some (.int .i64 c.ac) :=
  have hr : w.rangeAt b o (cCk c) := rdAt_range (f := cCk) h
  ⟨hr 0 _ rfl, hr 6 _ rfl, hr 7 _ rfl⟩
theorem kcS_cells {w : World} {bk bc : Nat} {x : It} (h : KcS w bk bc x) :
    w.cell? ⟨bk, 0, none⟩ = some (.string (S x.k.n)) ∧ w.cell? ⟨bk, 1, none⟩ = some (.string (S x.k.d)) ∧ w.cell? ⟨bk, 2, none⟩ = some (.string (S x.k.p)) ∧ w.cell? ⟨bc, 0, none⟩ = some (.string (S x.c.v)) ∧ w.cell? ⟨bc, 4, none⟩ = some (.bool x.c.pe) ∧ w.cell? ⟨bc, 5, none⟩ = some (.int .i64 x.c.ex) ∧ w.cell? ⟨bc, 6, none⟩ = some (.int .i64 x.c.cr) ∧ w.cell? ⟨bc, 7, none⟩ = some (.int .i64 x.c.ac) := by
  obtain ⟨k0, k1, k2⟩ := ky_cells h.1
  obtain ⟨_, _, _, c4, c5⟩ := ck_cells h.2
  obtain ⟨c0, c6, c7⟩ := ck_cells2 h.2
  rw [Nat.zero_add] at *
  exact ⟨k0, k1, k2, c0, c4, c5, c6, c7⟩
theorem rd_two8 (w : World) (x y : UInt8) (t : TypeId) (g : Nat) (hg : w.heap.size = g) : Rd (w.alloc (.cells #[.int .u8 x.toNat, .int .u8 y.toNat] t)) 1 (.slice (some ⟨g, 0, none⟩) 2 2) 2 ([x, y].map u8V) := by
  subst hg
  refine ⟨by simp, _, _, rfl, Nat.le_refl _, by simp [maxLen], .inr ⟨_, _, rfl, by simp, fun j hj => ?_⟩⟩
  rw [Nat.zero_add, cell_of_row _ w.heap.size j _ t (0, 0) (heap_alloc_new w _)]
  simp [u8V]
theorem rd_one8 (w : World) (x : UInt8) (t : TypeId) (g : Nat) (hg : w.heap.size = g) : Rd (w.alloc (.cells #[.int .u8 x.toNat] t)) 1 (.slice (some ⟨g, 0, none⟩) 1 1) 1 ([x].map u8V) := by
  subst hg
  refine ⟨by simp, _, _, rfl, Nat.le_refl _, by simp [maxLen], .inr ⟨_, _, rfl, by simp, fun j hj => ?_⟩⟩
  rw [Nat.zero_add, cell_of_row _ w.heap.size j _ t (0, 0) (heap_alloc_new w _)]
  simp [u8V]
theorem ckAt_new2 (w : World) (k : Ck) (t g : Nat) (hg : w.heap.size = g) : ckAt (w.alloc (.cells (cCk k).toArray t)) g 0 = some k := by
  subst hg; exact ckAt_of (range_blk (heap_alloc_new w _))
theorem get0 {p : List UInt8} (h : 0 < p.length) : ((S p)[0]'(by rw [S_size]; exact h)) = p.getD 0 0 := by
  cases p with
  | nil => simp at h
  | cons a b => rfl
theorem get_eq {p : List UInt8} (h : 0 < p.length) (g : (((S p)[0]'(by rw [S_size]; exact h)).toNat : Int) = 47) : (p.getD 0 0 == 47) = true := by
  rw [get0 h] at g
  have : p.getD 0 0 = 47 := UInt8.toNat_inj.1 (show (p.getD 0 0).toNat = (47 : UInt8).toNat by have h47 : (47 : UInt8).toNat = 47 := rfl; omega)
  rw [this]; rfl
theorem get_ne {p : List UInt8} (h : 0 < p.length) (g : ¬ (((S p)[0]'(by rw [S_size]; exact h)).toNat : Int) = 47) : (p.getD 0 0 == 47) = false := by
  rw [get0 h] at g
  rw [beq_eq_false_iff_ne]
  intro e
  rw [e] at g
  exact g (by decide)
theorem get_b {p : List UInt8} (h : 0 < p.length) (g : (p.getD 0 0 == 47) = true) : ((((S p)[0]'(by rw [S_size]; exact h)).toNat : Int) != 47) = false := by
  rw [get0 h]
  have : p.getD 0 0 = 47 := by simpa using g
  rw [this]; rfl
theorem get_b' {p : List UInt8} (h : 0 < p.length) (g : (p.getD 0 0 == 47) = false) : ((((S p)[0]'(by rw [S_size]; exact h)).toNat : Int) != 47) = true := by
  rw [bne_iff_ne]
  intro e
  rw [get_eq h e] at g; cases g
/-- Short texts. -/
def ShI (x : It) : Prop := x.k.n.length ≤ 4294967296 ∧ x.k.d.length ≤ 4294967296 ∧ x.k.p.length ≤ 4294967296 ∧ x.c.v.length ≤ 4294967296
set_option maxRecDepth 20000 in
set_option maxHeartbeats 4000000 in
theorem right_any (x : It) (w : World) (hx : ShI x) :
    Calls Try.prog 21 #[vI x] w fun e w' => e = .returned (.bool (rightI x)) ∧ Below w.heap.size w w' := by
  obtain ⟨h1, h2, h3, h4⟩ := hx
  have hI := itAt_new w x 27 w.heap.size rfl
  have hB := bel_alloc (Below.refl w.heap.size w) (.cells (cI x).toArray 27)
  have hk := kyAt_it hI
  have hc := ckAt_it hI
  rw [Nat.zero_add] at hc
  clear hI
  go_enter Try.func21, Try.ntmps21
  go_upto_region 1 with (fail)
  go_cut [3, 4] (fun v3 v4 wx => ∃ bk bc, v3 = .pointer (some ⟨bk, 0, none⟩) ∧ v4 = .pointer (some ⟨bc, 0, none⟩) ∧ KcS wx bk bc x ∧ Below w.heap.size w wx)
  case first =>
    go_region
    · go_wp2
      go_meet
      refine ⟨w.heap.size + 1, w.heap.size + 1 + 1, rfl, rfl, ⟨?_, ?_⟩, (bel_alloc (bel_alloc hB _) _).drew⟩
      · exact ky_drew (kyAt_later (kyAt_new (w.alloc (.cells (cI x).toArray 27)) x.k 23 (w.heap.size + 1) (by simp)) (bel_alloc (Below.refl _ _) _))
      · exact (ckAt_drew _ _ _).trans (ckAt_new2 ((w.alloc (.cells (cI x).toArray 27)).alloc (.cells (cK x.k).toArray 23)) x.c 25 (w.heap.size + 1 + 1) (by simp))
    · go_wp2
      go_meet
      refine ⟨w.heap.size + 1 + 1, w.heap.size + 1, rfl, rfl, ⟨?_, ?_⟩, (bel_alloc (bel_alloc hB _) _).drew⟩
      · exact ky_drew (kyAt_new ((w.alloc (.cells (cI x).toArray 27)).alloc (.cells (cCk x.c).toArray 25)) x.k 23 (w.heap.size + 1 + 1) (by simp))
      · exact (ckAt_drew _ _ _).trans ((ckAt_alloc _ _ _ _ (by simp)).trans (ckAt_new2 (w.alloc (.cells (cI x).toArray 27)) x.c 25 (w.heap.size + 1) (by simp)))
  case rest =>
    obtain ⟨bk, bc, rfl, rfl, hS, hB1⟩ := hcut
    clear hB hk hc
    obtain ⟨q0, q1, q2, q3, q4, q5, q6, q7⟩ := kcS_cells hS
    go_wp2_with fail
    refine (canon_any (S x.k.d) _ (by simpa using h2)).mono ?_
    rintro e w1 ⟨rfl, hb1⟩
    rw [S_toList]
    replace hS := kcS_later hS hb1
    replace hB1 := bel_call hB1 hb1
    clear q0 q1 q2 q3 q4 q5 q6 q7 hb1
    generalize hcn : canonT x.k.d = cn at *
    obtain ⟨ct, ce⟩ := cn
    replace hcn := Lib.hid hcn
    go_upto_region 3 with (fail)
    go_cut [7] (fun v wx => v = .bool (timeR x.c) ∧ KcS wx bk bc x ∧ Below w.heap.size w wx)
    case first =>
      obtain ⟨q0, q1, q2, q3, q4, q5, q6, q7⟩ := kcS_cells hS
      have hT := Lib.hid (show timeR x.c = (inB x.c.ex (-1099511627776) 1099511627776 && (inB x.c.cr 0 1099511627776 && (inB x.c.ac 0 1099511627776 && (x.c.pe || x.c.ex == 1099511627776)))) from rfl)
      go_wp2_with fail
      refine (within_any _ _ _ _).mono ?_
      rintro e w2 ⟨rfl, rfl⟩
      cases e0 : inB x.c.ex (-1099511627776) 1099511627776 with
      | false =>
        have hT2 := Lib.hid (show timeR x.c = false by rw [hT.out, e0]; simp)
        clear e0
        go_wp2
        go_meet
        exact ⟨by rw [hT2.out], hS, hB1⟩
      | true =>
        go_wp2_with fail
        refine (within_any _ _ _ _).mono ?_
        rintro e w3 ⟨rfl, rfl⟩
        cases e1 : inB x.c.cr 0 1099511627776 with
        | false =>
          have hT2 := Lib.hid (show timeR x.c = false by rw [hT.out, e0, e1]; simp)
          clear e1
          go_wp2
          go_meet
          exact ⟨by rw [hT2.out], hS, hB1⟩
        | true =>
          go_wp2_with fail
          refine (within_any _ _ _ _).mono ?_
          rintro e w4 ⟨rfl, rfl⟩
          cases e2 : inB x.c.ac 0 1099511627776 with
          | false =>
            have hT2 := Lib.hid (show timeR x.c = false by rw [hT.out, e0, e1, e2]; simp)
            clear e2
            go_wp2
            go_meet
            exact ⟨by rw [hT2.out], hS, hB1⟩
          | true =>
            cases e3 : x.c.pe with
            | true =>
              have hT2 := Lib.hid (show timeR x.c = true by rw [hT.out, e0, e1, e2, e3]; simp)
              rw [e3] at q4
              clear e3
              go_wp2
              go_meet
              exact ⟨by rw [hT2.out], hS, hB1⟩
            | false =>
              have hT2 := Lib.hid (show timeR x.c = (x.c.ex == 1099511627776) by rw [hT.out, e0, e1, e2, e3]; simp)
              rw [e3] at q4
              clear e3
              go_wp2
              go_meet
              exact ⟨by rw [hT2.out], hS, hB1⟩
    case rest =>
      obtain ⟨rfl, hS2, hB2⟩ := hcut
      clear hS hB1
      generalize wc = wD at *
      have hR := Lib.hid (show rightI x = (!(x.k.n == []) && (plainB x.k.n 256 [59, 61] && (plainB x.c.v 1024 [59] && (canonB x.k.d && (!(x.k.p == []) && (x.k.p.getD 0 0 == 47 && (decide (x.k.p.length ≤ 256) && timeR x.c))))))) from rfl)
      obtain ⟨q0, q1, q2, q3, q4, q5, q6, q7⟩ := kcS_cells hS2
      by_cases eA : x.k.n = []
      · have hF := Lib.hid (show rightI x = false by rw [hR.out, eA]; rfl)
        rw [eA] at q0
        clear eA
        go_wp2
        go_ret
        exact ⟨ret_bool hF.out.symm, hB2⟩
      have eA1 : (x.k.n == []) = false := by simpa using eA
      have eA2 : x.k.n.isEmpty = false := by simpa using eA
      have hRB := Lib.hid (show rightI x = (plainB x.k.n 256 [59, 61] && (plainB x.c.v 1024 [59] && (canonB x.k.d && (!(x.k.p == []) && (x.k.p.getD 0 0 == 47 && (decide (x.k.p.length ≤ 256) && timeR x.c)))))) by rw [hR.out, eA1]; rfl)
      have hr2 : Rd (wD.alloc (.cells #[.int .u8 59, .int .u8 61] 5)) 1 (.slice (some ⟨wD.heap.size, 0, none⟩) 2 2) 2 (([59, 61] : List UInt8).map u8V) := rd_two8 wD 59 61 _ _ rfl
      have hS3 := kcS_later hS2 (bel_alloc (Below.refl _ wD) (.cells #[.int .u8 59, .int .u8 61] 5))
      have hB3 := bel_alloc hB2 (.cells #[.int .u8 59, .int .u8 61] 5)
      clear hS2 hB2 eA
      go_wp2_with fail
      refine (plain_any x.k.n 256 _ 2 2 [59, 61] _ h1 hr2 (by omega)).mono ?_
      rintro e w3 ⟨rfl, hb3⟩
      have hS4 := kcS_later hS3 hb3
      have hB4 := bel_call hB3 hb3
      clear hS3 hB3 hb3 hr2 q0 q1 q2 q3 q4 q5 q6 q7 eA1 eA2
      cases eB : plainB x.k.n 256 [59, 61] with
      | false =>
        have hF := Lib.hid (show rightI x = false by rw [hRB.out, eB]; rfl)
        clear eB
        go_wp2
        go_ret
        exact ⟨ret_bool hF.out.symm, hB4⟩
      | true =>
      have hRC := Lib.hid (show rightI x = (plainB x.c.v 1024 [59] && (canonB x.k.d && (!(x.k.p == []) && (x.k.p.getD 0 0 == 47 && (decide (x.k.p.length ≤ 256) && timeR x.c))))) by rw [hRB.out, eB]; rfl)
      clear eB
      obtain ⟨q0, q1, q2, q3, q4, q5, q6, q7⟩ := kcS_cells hS4
      have hr1 : Rd (w3.alloc (.cells #[.int .u8 59] 5)) 1 (.slice (some ⟨w3.heap.size, 0, none⟩) 1 1) 1 (([59] : List UInt8).map u8V) := rd_one8 w3 59 _ _ rfl
      have hS5 := kcS_later hS4 (bel_alloc (Below.refl _ w3) (.cells #[.int .u8 59] 5))
      have hB5 := bel_alloc hB4 (.cells #[.int .u8 59] 5)
      clear hS4 hB4
      go_wp2_with fail
      refine (plain_any x.c.v 1024 _ 1 1 [59] _ h4 hr1 (by omega)).mono ?_
      rintro e w4 ⟨rfl, hb4⟩
      have hS6 := kcS_later hS5 hb4
      have hB6 := bel_call hB5 hb4
      clear hS5 hB5 hb4 hr1 q0 q1 q2 q3 q4 q5 q6 q7
      cases eC : plainB x.c.v 1024 [59] with
      | false =>
        have hF := Lib.hid (show rightI x = false by rw [hRC.out, eC]; rfl)
        clear eC
        go_wp2
        go_ret
        exact ⟨ret_bool hF.out.symm, hB6⟩
      | true =>
      have hRD := Lib.hid (show rightI x = (canonB x.k.d && (!(x.k.p == []) && (x.k.p.getD 0 0 == 47 && (decide (x.k.p.length ≤ 256) && timeR x.c)))) by rw [hRC.out, eC]; rfl)
      clear eC
      obtain ⟨q0, q1, q2, q3, q4, q5, q6, q7⟩ := kcS_cells hS6
      clear hS6
      cases eD : canonB x.k.d with
      | false =>
        have hF := Lib.hid (show rightI x = false by rw [hRD.out, eD]; rfl)
        have hcs : ((ce == 0) = false) ∨ ((ce == 0) = true ∧ (ct == x.k.d) = false) := by
          rcases canonT_not eD with h | ⟨h, h'⟩
          · rw [hcn.out] at h; exact .inl (beq_eq_false_iff_ne.2 h)
          · rw [hcn.out] at h h'; exact .inr ⟨beq_iff_eq.2 h, beq_eq_false_iff_ne.2 h'⟩
        clear eD
        rcases hcs with hne | ⟨hne, hne2⟩
        all_goals
          go_wp2
          go_ret
          exact ⟨ret_bool hF.out.symm, hB6⟩
      | true =>
      have hRE := Lib.hid (show rightI x = (!(x.k.p == []) && (x.k.p.getD 0 0 == 47 && (decide (x.k.p.length ≤ 256) && timeR x.c))) by rw [hRD.out, eD]; rfl)
      have hcc : ct = x.k.d ∧ ce = 0 := by have h := hcn.out; rw [canonT_of eD] at h; injection h with h h'; exact ⟨h.symm, h'.symm⟩
      obtain ⟨rfl, rfl⟩ := hcc
      clear eD
      by_cases eF : x.k.p = []
      · have hF := Lib.hid (show rightI x = false by rw [hRE.out, eF]; rfl)
        rw [eF] at q2
        clear eF
        go_wp2
        go_ret
        exact ⟨ret_bool hF.out.symm, hB6⟩
      have eF1 : (x.k.p == []) = false := by simpa using eF
      have eF2 : x.k.p.isEmpty = false := by simpa using eF
      have hRF := Lib.hid (show rightI x = (x.k.p.getD 0 0 == 47 && (decide (x.k.p.length ≤ 256) && timeR x.c)) by rw [hRE.out, eF1]; rfl)
      have eF3 : 0 < x.k.p.length := by cases h : x.k.p with | nil => exact absurd h eF | cons a b => simp
      clear eF
      go_wp2
      · rename_i g1 g2
        go_ret
        refine ⟨ret_bool (Eq.symm ?_), hB6⟩
        rw [hRF.out, get_eq eF3 g1, decide_eq_true (by omega)]; rfl
      · rename_i g1 g2
        go_ret
        refine ⟨ret_bool (Eq.symm ?_), hB6⟩
        rw [hRF.out, get_eq eF3 g1, decide_eq_false (by omega)]; rfl
      · rename_i g1
        go_ret
        refine ⟨ret_bool (Eq.symm ?_), hB6⟩
        rw [hRF.out, get_ne eF3 g1]; rfl

theorem find_dec (s : List UInt8) (c : UInt8) : decide (findL s c < 0) = (cutL s c).isNone := by
  unfold findL
  cases cutL s c with
  | none => rfl
  | some p => simp only [Option.isNone_some, decide_eq_false_iff_not]; omega
theorem find_ge (s : List UInt8) (c : UInt8) : decide (0 ≤ findL s c) = !(cutL s c).isNone := by
  unfold findL
  cases cutL s c with
  | none => rfl
  | some p => simp only [Option.isNone_some, Bool.not_false, decide_eq_true_eq]; omega
set_option maxRecDepth 20000 in
set_option maxHeartbeats 4000000 in
theorem refRight_any' (x : It) (w : World) (hx : ShI x) :
    Calls Try.prog 26 #[vI x] w fun e w' => e = .returned (.bool (rightI x)) ∧ Below w.heap.size w w' := by
  obtain ⟨h1, h2, h3, h4⟩ := hx
  have hI := itAt_new w x 27 w.heap.size rfl
  have hk := kyAt_it hI
  have hc := ckAt_it hI
  rw [Nat.zero_add] at hc
  clear hI
  have hS : KcS (((w.alloc (.cells (cI x).toArray 27)).alloc (.cells (cK x.k).toArray 23)).alloc (.cells (cCk x.c).toArray 25)) (w.heap.size + 1) (w.heap.size + 1 + 1) x :=
    ⟨kyAt_later (kyAt_new (w.alloc (.cells (cI x).toArray 27)) x.k 23 (w.heap.size + 1) (by simp)) (bel_alloc (Below.refl _ _) _), ckAt_new2 ((w.alloc (.cells (cI x).toArray 27)).alloc (.cells (cK x.k).toArray 23)) x.c 25 (w.heap.size + 1 + 1) (by simp)⟩
  have hB : Below w.heap.size w (((w.alloc (.cells (cI x).toArray 27)).alloc (.cells (cK x.k).toArray 23)).alloc (.cells (cCk x.c).toArray 25)) := bel_alloc (bel_alloc (bel_alloc (Below.refl _ _) _) _) _
  go_enter Try.func26, Try.ntmps26
  go_upto_region 4 with (fail)
  show Code.wp _ _ _ _ (((w.alloc (.cells (cI x).toArray 27)).alloc (.cells (cK x.k).toArray 23)).alloc (.cells (cCk x.c).toArray 25))
  generalize (((w.alloc (.cells (cI x).toArray 27)).alloc (.cells (cK x.k).toArray 23)).alloc (.cells (cCk x.c).toArray 25)) = W at *
  clear hk hc
  have hz1 : (S x.k.n).size ≤ maxLen := by unfold maxLen; simp; omega
  obtain ⟨q0, q1, q2, q3, q4, q5, q6, q7⟩ := kcS_cells hS
  have hR := Lib.hid (show rightI x = (!(x.k.n == []) && ((decide ((x.k.n.length : Int) ≤ 256) && (!(x.k.n.any ctlB) && ((trimL x.k.n == x.k.n) && ((cutL x.k.n 59).isNone && ((cutL x.k.n 61).isNone && true))))) && ((decide ((x.c.v.length : Int) ≤ 1024) && (!(x.c.v.any ctlB) && ((trimL x.c.v == x.c.v) && ((cutL x.c.v 59).isNone && true)))) && (canonB x.k.d && (!(x.k.p == []) && (x.k.p.getD 0 0 == 47 && (decide (x.k.p.length ≤ 256) && timeR x.c))))))) from rfl)
  by_cases eA : x.k.n = []
  · have hF := Lib.hid (show rightI x = false by rw [hR.out, eA]; rfl)
    rw [eA] at q0
    clear eA
    go_wp2
    go_ret
    exact ⟨ret_bool hF.out.symm, hB⟩
  have eA1 : (x.k.n == []) = false := by simpa using eA
  have eA2 : x.k.n.isEmpty = false := by simpa using eA
  clear eA
  by_cases eB' : (256 : Int) < x.k.n.length
  · have hF := Lib.hid (show rightI x = false by rw [hR.out, decide_eq_false (by omega)]; simp)
    go_wp2
    go_ret
    exact ⟨ret_bool hF.out.symm, hB⟩
  have eB : (x.k.n.length : Int) ≤ 256 := by omega
  clear eB'
  cases eC : (!(x.k.n.any ctlB) && ((cutL x.k.n 59).isNone && (trimL x.k.n == x.k.n))) with
  | false =>
    have hF : Hid (rightI x = false) := by
      show _ = _
      rw [hR.out]
      revert eC
      cases x.k.n.any ctlB <;> cases (cutL x.k.n 59).isNone <;> cases (trimL x.k.n == x.k.n) <;> simp
    go_wp2_with fail
    refine (refPlain_any x.k.n _ h1).mono ?_
    rintro e w1 ⟨rfl, rfl⟩
    rw [eC]
    clear eC
    go_wp2
    go_ret
    exact ⟨ret_bool hF.out.symm, hB⟩
  | true =>
  cases eD : (cutL x.k.n 61).isNone with
  | false =>
    have hF : Hid (rightI x = false) := by show _ = _; rw [hR.out, eD]; simp
    have hfd := find_ge x.k.n 61
    rw [eD] at hfd
    go_wp2_with fail
    refine (refPlain_any x.k.n _ h1).mono ?_
    rintro e w1 ⟨rfl, rfl⟩
    rw [eC]
    clear eC eD
    go_wp2_with fail
    refine (refFind_any (S x.k.n) 61 _ hz1).mono ?_
    rintro e w2 ⟨rfl, rfl⟩
    rw [S_toList]
    go_wp2
    go_ret
    exact ⟨ret_bool hF.out.symm, hB⟩
  | true =>
  have hfd := find_ge x.k.n 61
  rw [eD] at hfd
  have hR2 : Hid (rightI x = ((decide ((x.c.v.length : Int) ≤ 1024) && (!(x.c.v.any ctlB) && ((trimL x.c.v == x.c.v) && ((cutL x.c.v 59).isNone && true)))) && (canonB x.k.d && (!(x.k.p == []) && (x.k.p.getD 0 0 == 47 && (decide (x.k.p.length ≤ 256) && timeR x.c)))))) := by
    show _ = _
    rw [hR.out, eA1, decide_eq_true eB, eD]
    revert eC
    cases x.k.n.any ctlB <;> cases (cutL x.k.n 59).isNone <;> cases (trimL x.k.n == x.k.n) <;> simp
  replace hfd := Lib.hid hfd
  go_wp2_with fail
  refine (refPlain_any x.k.n _ h1).mono ?_
  rintro e w1 ⟨rfl, rfl⟩
  rw [eC]
  clear eC eD
  go_wp2_with fail
  refine (refFind_any (S x.k.n) 61 _ hz1).mono ?_
  rintro e w2 ⟨rfl, rfl⟩
  rw [S_toList]
  have hfd2 := hfd.out
  clear hR
  by_cases eE' : (1024 : Int) < x.c.v.length
  · have hF := Lib.hid (show rightI x = false by rw [hR2.out, decide_eq_false (by omega)]; simp)
    go_wp2
    go_ret
    exact ⟨ret_bool hF.out.symm, hB⟩
  have eE : (x.c.v.length : Int) ≤ 1024 := by omega
  clear eE'
  cases eG : (!(x.c.v.any ctlB) && ((cutL x.c.v 59).isNone && (trimL x.c.v == x.c.v))) with
  | false =>
    have hF : Hid (rightI x = false) := by
      show _ = _
      rw [hR2.out]
      revert eG
      cases x.c.v.any ctlB <;> cases (cutL x.c.v 59).isNone <;> cases (trimL x.c.v == x.c.v) <;> simp
    go_wp2_with fail
    refine (refPlain_any x.c.v _ h4).mono ?_
    rintro e w1 ⟨rfl, rfl⟩
    rw [eG]
    clear eG
    go_wp2
    go_ret
    exact ⟨ret_bool hF.out.symm, hB⟩
  | true =>
  have hR3 : Hid (rightI x = (canonB x.k.d && (!(x.k.p == []) && (x.k.p.getD 0 0 == 47 && (decide (x.k.p.length ≤ 256) && timeR x.c))))) := by
    show _ = _
    rw [hR2.out, decide_eq_true eE]
    revert eG
    cases x.c.v.any ctlB <;> cases (cutL x.c.v 59).isNone <;> cases (trimL x.c.v == x.c.v) <;> simp
  go_wp2_with fail
  refine (refPlain_any x.c.v _ h4).mono ?_
  rintro e w1 ⟨rfl, rfl⟩
  rw [eG]
  clear eG hR2
  go_wp2_with fail
  refine (refCanonical_any (S x.k.d) _ (by simpa using h2)).mono ?_
  rintro e w3 ⟨rfl, hb3⟩
  rw [S_toList]
  have hS3 := kcS_later hS hb3
  have hB3 := bel_call hB hb3
  clear q0 q1 q2 q3 q4 q5 q6 q7 hS hB hb3 hfd2 hfd
  obtain ⟨q0, q1, q2, q3, q4, q5, q6, q7⟩ := kcS_cells hS3
  cases eD : canonB x.k.d with
  | false =>
    have hF := Lib.hid (show rightI x = false by rw [hR3.out, eD]; rfl)
    clear eD
    go_wp2
    go_ret
    exact ⟨ret_bool hF.out.symm, hB3⟩
  | true =>
  have hRE := Lib.hid (show rightI x = (!(x.k.p == []) && (x.k.p.getD 0 0 == 47 && (decide (x.k.p.length ≤ 256) && timeR x.c))) by rw [hR3.out, eD]; rfl)
  clear eD
  by_cases eF : x.k.p = []
  · have hF := Lib.hid (show rightI x = false by rw [hRE.out, eF]; rfl)
    rw [eF] at q2
    clear eF
    go_wp2
    go_ret
    exact ⟨ret_bool hF.out.symm, hB3⟩
  have eF1 : (x.k.p == []) = false := by simpa using eF
  have eF2 : x.k.p.isEmpty = false := by simpa using eF
  have hRF := Lib.hid (show rightI x = (x.k.p.getD 0 0 == 47 && (decide (x.k.p.length ≤ 256) && timeR x.c)) by rw [hRE.out, eF1]; rfl)
  have eF3 : 0 < x.k.p.length := by cases h : x.k.p with | nil => exact absurd h eF | cons a b => simp
  clear eF
  by_cases g1 : x.k.p.getD 0 0 = 47
  · by_cases g2' : 256 < x.k.p.length
    · have hF := Lib.hid (show rightI x = false by rw [hRF.out, decide_eq_false (show ¬ x.k.p.length ≤ 256 by omega)]; simp)
      have g3 : ((((S x.k.p)[0]'(by rw [S_size]; exact eF3)).toNat : Int) != 47) = false := get_b eF3 (by rw [g1]; rfl)
      have g4 : (256 : Int) < x.k.p.length := by omega
      clear g1
      go_wp2
      go_ret
      exact ⟨ret_bool hF.out.symm, hB3⟩
    · have g2 : (x.k.p.length : Int) ≤ 256 := by omega
      have hRG := Lib.hid (show rightI x = timeR x.c by rw [hRF.out, g1, decide_eq_true (show x.k.p.length ≤ 256 by omega)]; rfl)
      have g3 : ((((S x.k.p)[0]'(by rw [S_size]; exact eF3)).toNat : Int) != 47) = false := get_b eF3 (by rw [g1]; rfl)
      clear g1
      go_wp2
      all_goals
        go_ret
        refine ⟨ret_bool (Eq.symm ?_), hB3⟩
        rw [hRG.out]
        unfold timeR inB
        simp [*]
        try omega
  · have hF := Lib.hid (show rightI x = false by rw [hRF.out, beq_eq_false_iff_ne.2 g1]; rfl)
    have g3 : ((((S x.k.p)[0]'(by rw [S_size]; exact eF3)).toNat : Int) != 47) = true := get_b' eF3 (beq_eq_false_iff_ne.2 g1)
    clear g1
    go_wp2
    go_ret
    exact ⟨ret_bool hF.out.symm, hB3⟩
end Go.Proofs.Ytgfoaopfdpclhaa
