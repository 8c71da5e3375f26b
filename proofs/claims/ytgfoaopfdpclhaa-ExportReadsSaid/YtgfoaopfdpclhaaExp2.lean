/-
  The walk: an item's line, the program's.
-/
import Derived.Test.YtgfoaopfdpclhaaExp1
namespace Go.Proofs.Ytgfoaopfdpclhaa
open Go.RowKit
set_option linter.unusedVariables false

def lineS (x : It) : List UInt8 := (lineO x).getD []
def lineE (x : It) : Int := if (lineO x).isSome then 0 else 1
/-- Texts that are not long. -/
def MdI (x : It) : Prop := x.k.n.length ≤ 100000 ∧ x.k.d.length ≤ 100000 ∧ x.k.p.length ≤ 100000 ∧ x.c.v.length ≤ 100000
theorem MdI.sh {x : It} (h : MdI x) : ShI x := by obtain ⟨a, b, c, d⟩ := h; exact ⟨by omega, by omega, by omega, by omega⟩
theorem S_cat (a b : List UInt8) : S a ++ S b = S (a ++ b) := by
  apply ByteArray.ext
  show (ByteArray.append _ _).data = _
  simp [S]
theorem join7 (V : World) (h a b c d e f q : List UInt8) (t g : Nat) (hb : Blk V g t #[.string (S h ++ S a), .string (S b), .string (S c), .string (S d), .string (S e), .string (S f), .string (S q)]) (hl : h.length + a.length + b.length + c.length + d.length + e.length + f.length + q.length ≤ 10000000) :
    Calls Try.prog 24 #[.slice (some ⟨g, 0, none⟩) 7 7, .string { data := #[9] }] V fun r w' => r = .returned (.string (S (Lib.join [h ++ a, b, c, d, e, f, q] [9]))) ∧ Below V.heap.size V w' := by
  rw [S_cat] at hb
  have hlen : (Lib.join [h ++ a, b, c, d, e, f, q] [9]).length ≤ 140737488355328 := by
    unfold Lib.join
    rw [inter_cons, inter_cons, inter_cons, inter_cons, inter_cons, inter_cons]
    simp [List.intercalate]
    omega
  exact Try.strings_Join g 0 7 [S (h ++ a), S b, S c, S d, S e, S f, S q] (S [9]) _ (by
    intro j x hj
    rw [Nat.zero_add, hb.cell j]
    match j, hj with
    | 0, hj => cases hj; rfl
    | 1, hj => cases hj; rfl
    | 2, hj => cases hj; rfl
    | 3, hj => cases hj; rfl
    | 4, hj => cases hj; rfl
    | 5, hj => cases hj; rfl
    | 6, hj => cases hj; rfl
    | j + 7, hj => simp at hj) hb.lt (by simp) (by simp) hlen

/-- What the walk of 'Line' reads. -/
def LnS (w : World) (g bk bc : Nat) (x : It) : Prop := itAt w g 0 = some x ∧ KcS w bk bc x
theorem lnS_later {w w1 : World} {g bk bc : Nat} {x : It} (h : LnS w g bk bc x) (hb : Below w.heap.size w w1) : LnS w1 g bk bc x := ⟨itAt_later h.1 hb, kcS_later h.2 hb⟩
theorem lnS_cells {w : World} {g bk bc : Nat} {x : It} (h : LnS w g bk bc x) : w.cell? ⟨bc, 1, none⟩ = some (.bool x.c.ho) ∧ w.cell? ⟨bc, 2, none⟩ = some (.bool x.c.se) ∧ w.cell? ⟨bc, 3, none⟩ = some (.bool x.c.ht) := by
  obtain ⟨c1, c2, c3, _, _⟩ := ck_cells h.2.2
  rw [Nat.zero_add] at *
  exact ⟨c1, c2, c3⟩
theorem textL_len46 (n : Int) (h1 : -9223372036854775808 ≤ n) (h2 : n ≤ 9223372036854775807) : (textL n).length ≤ 21 := by
  by_cases h : n < 0
  · rw [textL_neg h]
    have := upL_len (-n).toNat 20 (by omega) (by omega)
    simp; omega
  · rw [textL_pos h]
    have := upL_len n.toNat 20 (by omega) (by omega)
    omega
theorem ln6 {w : World} {g bk bc : Nat} {x : It} (h : LnS w g bk bc x) : w.cell? ⟨bk, 0, none⟩ = some (.string (S x.k.n)) ∧ w.cell? ⟨bk, 1, none⟩ = some (.string (S x.k.d)) ∧ w.cell? ⟨bk, 2, none⟩ = some (.string (S x.k.p)) ∧ w.cell? ⟨bc, 0, none⟩ = some (.string (S x.c.v)) ∧ w.cell? ⟨bc, 1, none⟩ = some (.bool x.c.ho) ∧ w.cell? ⟨bc, 2, none⟩ = some (.bool x.c.se) := by
  obtain ⟨q0, q1, q2, q3, _⟩ := kcS_cells h.2
  obtain ⟨r1, r2, _⟩ := lnS_cells h
  exact ⟨q0, q1, q2, q3, r1, r2⟩
theorem truthL_len (b : Bool) : (truthL b).length ≤ 5 := by cases b <;> decide
set_option maxRecDepth 20000 in
set_option maxHeartbeats 4000000 in
theorem line_any (x : It) (w : World) (hx : MdI x) :
    Calls Try.prog 9 #[vI x] w fun e w' => e = .returned (.tuple #[.string (S (lineS x)), .int .i64 (lineE x)]) ∧ Below w.heap.size w w' := by
  have hsh := hx.sh
  obtain ⟨h1, h2, h3, h4⟩ := hx
  have hI := itAt_new w x 27 w.heap.size rfl
  have hB := bel_alloc (Below.refl w.heap.size w) (.cells (cI x).toArray 27)
  have hk := kyAt_it hI
  have hc := ckAt_it hI
  rw [Nat.zero_add] at hc
  go_enter Try.func9, Try.ntmps9
  go_upto_region 1 with (fail)
  go_cut [4, 5] (fun v3 v4 wx => ∃ bk bc, v3 = .pointer (some ⟨bk, 0, none⟩) ∧ v4 = .pointer (some ⟨bc, 0, none⟩) ∧ LnS wx w.heap.size bk bc x ∧ Below w.heap.size w wx)
  case first =>
    have hIh := Lib.hid hI
    clear hI
    go_region
    · go_wp2
      go_meet
      refine ⟨w.heap.size + 1, w.heap.size + 1 + 1, rfl, rfl, ⟨it_drew (itAt_later (itAt_later hIh.out (bel_alloc (Below.refl _ _) _)) (bel_alloc (Below.refl _ _) _)), ?_, ?_⟩, (bel_alloc (bel_alloc hB _) _).drew⟩
      · exact ky_drew (kyAt_later (kyAt_new (w.alloc (.cells (cI x).toArray 27)) x.k 23 (w.heap.size + 1) (by simp)) (bel_alloc (Below.refl _ _) _))
      · exact (ckAt_drew _ _ _).trans (ckAt_new2 ((w.alloc (.cells (cI x).toArray 27)).alloc (.cells (cK x.k).toArray 23)) x.c 25 (w.heap.size + 1 + 1) (by simp))
    · go_wp2
      go_meet
      refine ⟨w.heap.size + 1 + 1, w.heap.size + 1, rfl, rfl, ⟨it_drew (itAt_later (itAt_later hIh.out (bel_alloc (Below.refl _ _) _)) (bel_alloc (Below.refl _ _) _)), ?_, ?_⟩, (bel_alloc (bel_alloc hB _) _).drew⟩
      · exact ky_drew (kyAt_new ((w.alloc (.cells (cI x).toArray 27)).alloc (.cells (cCk x.c).toArray 25)) x.k 23 (w.heap.size + 1 + 1) (by simp))
      · exact (ckAt_drew _ _ _).trans ((ckAt_alloc _ _ _ _ (by simp)).trans (ckAt_new2 (w.alloc (.cells (cI x).toArray 27)) x.c 25 (w.heap.size + 1) (by simp)))
  case rest =>
    obtain ⟨bk, bc, rfl, rfl, hS, hB1⟩ := hcut
    clear hB hk hc hI
    have hL := Lib.hid (show lineO x = if rightI x && (cleanB x.k.p && (cleanB x.k.n && cleanB x.c.v)) then some (lineT x) else none from rfl)
    have hi0 := hS.1
    go_wp2_with fail
    refine (right_any x _ hsh).mono ?_
    rintro e w1 ⟨rfl, hb1⟩
    clear hi0
    replace hS := lnS_later hS hb1
    replace hB1 := bel_call hB1 hb1
    clear hb1
    obtain ⟨q0, q1, q2, q3, q4, q5, q6, q7⟩ := kcS_cells hS.2
    cases eA : rightI x with
    | false =>
      have hF : Hid (lineS x = [] ∧ lineE x = 1) := by show _ ∧ _; unfold lineS lineE; rw [hL.out, eA]; exact ⟨rfl, rfl⟩
      clear eA
      go_wp2
      go_ret2
      exact ⟨by rw [hF.out.1, hF.out.2]; rfl, hB1⟩
    | true =>
    go_wp2_with fail
    refine (clean_any x.k.p _ (by omega)).mono ?_
    rintro e w2 ⟨rfl, rfl⟩
    cases eB : cleanB x.k.p with
    | false =>
      have hF : Hid (lineS x = [] ∧ lineE x = 1) := by show _ ∧ _; unfold lineS lineE; rw [hL.out, eA, eB]; exact ⟨rfl, rfl⟩
      clear eA eB
      go_wp2
      go_ret2
      exact ⟨by rw [hF.out.1, hF.out.2]; rfl, hB1⟩
    | true =>
    go_wp2_with fail
    refine (clean_any x.k.n _ (by omega)).mono ?_
    rintro e w2 ⟨rfl, rfl⟩
    cases eC : cleanB x.k.n with
    | false =>
      have hF : Hid (lineS x = [] ∧ lineE x = 1) := by show _ ∧ _; unfold lineS lineE; rw [hL.out, eA, eB, eC]; exact ⟨rfl, rfl⟩
      clear eA eB eC
      go_wp2
      go_ret2
      exact ⟨by rw [hF.out.1, hF.out.2]; rfl, hB1⟩
    | true =>
    go_wp2_with fail
    refine (clean_any x.c.v _ (by omega)).mono ?_
    rintro e w2 ⟨rfl, rfl⟩
    cases eD : cleanB x.c.v with
    | false =>
      have hF : Hid (lineS x = [] ∧ lineE x = 1) := by show _ ∧ _; unfold lineS lineE; rw [hL.out, eA, eB, eC, eD]; exact ⟨rfl, rfl⟩
      clear eA eB eC eD
      go_wp2
      go_ret2
      exact ⟨by rw [hF.out.1, hF.out.2]; rfl, hB1⟩
    | true =>
    have hF : Hid (lineS x = lineT x ∧ lineE x = 0) := by show _ ∧ _; unfold lineS lineE; rw [hL.out, eA, eB, eC, eD]; exact ⟨rfl, rfl⟩
    have htm := right_time eA
    have hex : -9223372036854775808 ≤ x.c.ex ∧ x.c.ex ≤ 9223372036854775807 := by
      unfold timeR inB at htm
      simp only [Bool.and_eq_true, decide_eq_true_eq] at htm
      omega
    clear eA eB eC eD hL htm q0 q1 q2 q3 q4 q5 q6 q7
    obtain ⟨hex1, hex2⟩ := hex
    obtain ⟨r1, r2, r3⟩ := lnS_cells hS
    obtain ⟨hd0, hhd0⟩ : ∃ h, h = (if x.c.ht then hidT else []) := ⟨_, rfl⟩
    have hdl : hd0.length ≤ 10 := by rw [hhd0]; split <;> decide
    have hhd : Hid (headL x = hd0 ++ (if x.c.ho then [] else [46])) := by show _ = _; rw [hhd0]; rfl
    replace hhd0 := Lib.hid hhd0
    go_upto_if 34 with (fail)
    go_cut [6] (fun v wx => v = .string (S hd0) ∧ w1 = wx)
    case first =>
      cases eH : x.c.ht
      all_goals
        rw [eH] at r3
        go_wp2
        go_meet
        exact ⟨by rw [hhd0.out, eH]; rfl, rfl⟩
    case rest =>
    obtain ⟨rfl, rfl⟩ := hcut
    go_upto_if 37 with (fail)
    go_cut [6] (fun v wx => v = .string (S (headL x)) ∧ w1 = wx)
    case first =>
      cases eH : x.c.ho
      all_goals
        rw [eH] at r1
        have hb10 : hd0.length + 1 ≤ maxLen := by unfold maxLen; omega
        go_wp2
        go_meet
        refine ⟨?_, rfl⟩
        rw [hhd.out, eH]
        first
          | (show Value.string (S hd0 ++ S [46]) = _; rw [S_cat]; rfl)
          | (rw [if_pos rfl, List.append_nil])
    case rest =>
    obtain ⟨rfl, rfl⟩ := hcut
    have hel : (expL x).length ≤ 21 := by
      unfold expL
      split
      · exact textL_len46 _ hex1 hex2
      · decide
    obtain ⟨q0, q1, q2, q3, q4, q5, q6, q7⟩ := kcS_cells hS.2
    go_upto_if 41 with (fail)
    go_cut [7] (fun v wx => v = .string (S (expL x)) ∧ LnS wx w.heap.size bk bc x ∧ Below w.heap.size w wx)
    case first =>
      cases eP : x.c.pe with
      | false =>
        rw [eP] at q4
        have he := Lib.hid (show expL x = [45] by unfold expL; rw [eP]; rfl)
        clear eP
        go_wp2
        go_meet
        exact ⟨by rw [he.out]; rfl, hS, hB1⟩
      | true =>
        rw [eP] at q4
        have he := Lib.hid (show expL x = textL x.c.ex by unfold expL; rw [eP]; rfl)
        clear eP
        go_wp2_with fail
        refine (text_any x.c.ex _ hex1 hex2).mono ?_
        rintro e w3 ⟨rfl, hb3⟩
        have hS3 := lnS_later hS hb3
        have hB3 := bel_call hB1 hb3
        clear hS hB1 hb3 q0 q1 q2 q3 q4 q5 q6 q7
        go_wp2
        go_meet
        exact ⟨by rw [he.out], hS3, hB3⟩
    case rest =>
    obtain ⟨rfl, hS2, hB2⟩ := hcut
    clear hS hB1 r1 r2 r3 q0 q1 q2 q3 q4 q5 q6 q7
    generalize wc = w3 at *
    obtain ⟨r1, r2, r3⟩ := lnS_cells hS2
    obtain ⟨q0, q1, q2, q3, q4, q5, q6, q7⟩ := kcS_cells hS2.2
    have hhl : (headL x).length ≤ 11 := by rw [hhd.out, List.length_append]; split <;> simp <;> omega
    have s1 : (headL x).length + x.k.d.length ≤ maxLen := by unfold maxLen; omega
    have s2 : ((headL x).length : Int) + x.k.d.length ≤ 9223372036854775807 := by omega
    have s3 : ¬ ((9223372036854775807 : Int) < ((headL x).length : Int) + x.k.d.length) := by omega
    have s4 : ¬ (9223372036854775807 < (headL x).length + x.k.d.length) := by omega
    have hln : Hid (lineT x = Lib.join [headL x ++ x.k.d, truthL (!x.c.ho), x.k.p, truthL x.c.se, expL x, x.k.n, x.c.v] [9]) := rfl
    have tl1 := truthL_len (!x.c.ho)
    have tl2 := truthL_len x.c.se
    have hbk : ∀ cs, Blk (w3.alloc (.cells cs 9)).drew w3.heap.size 9 cs := fun cs => (Blk.new_ w3 _ cs).below (Below.refl _ _).drew
    have hcl := Lib.hid (hS2)
    have hB4 : ∀ o, Below w.heap.size w (w3.alloc o).drew := fun o => (bel_alloc hB2 o).drew
    replace hbk := Lib.hid hbk
    replace hB4 := Lib.hid hB4
    go_wp2_with fail
    go_region_held3 (fun w' => w'.cell? ⟨bk, 0, none⟩ = some (.string (S x.k.n)) ∧ w'.cell? ⟨bk, 1, none⟩ = some (.string (S x.k.d)) ∧ w'.cell? ⟨bk, 2, none⟩ = some (.string (S x.k.p)) ∧ w'.cell? ⟨bc, 0, none⟩ = some (.string (S x.c.v)) ∧ w'.cell? ⟨bc, 1, none⟩ = some (.bool x.c.ho) ∧ w'.cell? ⟨bc, 2, none⟩ = some (.bool x.c.se)) (first | with_reducible exact ln6 (lnS_later hcl.out (Below.refl _ _).drew) | with_reducible exact ln6 (lnS_later hcl.out (bel_alloc (Below.refl _ _) _).drew) | with_reducible exact ln6 (lnS_later hcl.out (bel_call (bel_alloc (Below.refl _ _) _).drew hb5))) (first
      | (go_at_call 25; refine (truth_any _ _).mono ?_; rintro e w4 ⟨rfl, rfl⟩)
      | (go_at_call 24; refine (join7 _ (headL x) x.k.d _ _ _ _ _ _ 9 _ (hbk.out _) (by omega)).mono ?_; rintro e w5 ⟨rfl, hb5⟩))
    all_goals (try rw [← hln.out])
    all_goals go_wp2
    all_goals go_ret2
    all_goals exact ⟨by rw [hF.out.1, hF.out.2]; rfl, bel_call (hB4.out _) hb5⟩
end Go.Proofs.Ytgfoaopfdpclhaa
