/-
  The walk: a line's item, the program's.
-/
import Derived.Test.YtgfoaopfdpclhaaExp4
import Derived.Test.YtgfoaopfdpclhaaChg
namespace Go.Proofs.Ytgfoaopfdpclhaa
open Go.RowKit
set_option linter.unusedVariables false

def itZ : It := noneI k0
theorem it_there5 {w w1 : World} {b o n : Nat} (h : w.there b o n) (hb : Below w.heap.size w w1) (hlt : b < w.heap.size) : w1.there b o n := fun j hj => by
  have h1 := hb.cell (p := ⟨b, o + j, none⟩) hlt
  have h2 := hb.frozen (p := ⟨b, o + j, none⟩) hlt
  rw [h1, h2]
  exact h j hj
theorem g_trans {w a b : World} {g : Nat} (h1 : w.grownBy a (some g)) (h2 : a.grownBy b (some g)) : w.grownBy b (some g) :=
  ⟨h2.os.trans h1.os, h2.tape.trans h1.tape, h2.output.trans h1.output, Nat.le_trans h1.size h2.size, fun k hk hne => (h2.block k (Nat.lt_of_lt_of_le hk h1.size) hne).trans (h1.block k hk hne)⟩
theorem bel_grown {B g : Nat} {w w1 w2 : World} (h : Below B w w1) (hg : w1.grownBy w2 (some g)) (hB : B ≤ w1.heap.size) (hBg : B ≤ g) : Below B w w2 :=
  ⟨hg.os.trans h.os, hg.tape.trans h.tape, hg.output.trans h.output, Nat.le_trans h.size hg.size, fun k hk => (hg.block k (Nat.lt_of_lt_of_le hk hB) (by intro e; cases e; omega)).trans (h.block k hk)⟩
theorem cell_grown {g b o : Nat} {w w2 : World} (hg : w.grownBy w2 (some g)) (hb : b < w.heap.size) (hne : b ≠ g) : w2.cell? ⟨b, o, none⟩ = w.cell? ⟨b, o, none⟩ := by
  have := hg.block b hb (by intro e; cases e; exact hne rfl)
  simp only [World.cell?, this]
theorem list7 {l : List (List UInt8)} (h : l.length = 7) : ∃ a b c d e f q, l = [a, b, c, d, e, f, q] := by
  match l, h with
  | [a, b, c, d, e, f, q], _ => exact ⟨a, b, c, d, e, f, q, rfl⟩
/-- The line's parts, where they lie. -/
def SevS (w : World) (b o : Nat) (a0 a1 a2 a3 a4 a5 a6 : List UInt8) : Prop := w.cell? ⟨b, o, none⟩ = some (.string (S a0)) ∧ w.cell? ⟨b, o + 1, none⟩ = some (.string (S a1)) ∧ w.cell? ⟨b, o + 2, none⟩ = some (.string (S a2)) ∧ w.cell? ⟨b, o + 3, none⟩ = some (.string (S a3)) ∧ w.cell? ⟨b, o + 4, none⟩ = some (.string (S a4)) ∧ w.cell? ⟨b, o + 5, none⟩ = some (.string (S a5)) ∧ w.cell? ⟨b, o + 6, none⟩ = some (.string (S a6))
theorem sev_grown {g b o : Nat} {w w2 : World} {a0 a1 a2 a3 a4 a5 a6 : List UInt8} (h : SevS w b o a0 a1 a2 a3 a4 a5 a6) (hg : w.grownBy w2 (some g)) (hne : b ≠ g) : SevS w2 b o a0 a1 a2 a3 a4 a5 a6 := by
  have hb := World.block_lt_of_cell? w _ h.1
  obtain ⟨h0, h1, h2, h3, h4, h5, h6⟩ := h
  exact ⟨(cell_grown hg hb hne).trans h0, (cell_grown hg hb hne).trans h1, (cell_grown hg hb hne).trans h2, (cell_grown hg hb hne).trans h3, (cell_grown hg hb hne).trans h4, (cell_grown hg hb hne).trans h5, (cell_grown hg hb hne).trans h6⟩
theorem sev_rd {w : World} {v : Value} {a0 a1 a2 a3 a4 a5 a6 : List UInt8} (h : Rd w 1 v 7 ([a0, a1, a2, a3, a4, a5, a6].map strV)) : ∃ b o c, v = .slice (some ⟨b, o, none⟩) 7 c ∧ b < w.heap.size ∧ SevS w b o a0 a1 a2 a3 a4 a5 a6 := by
  obtain ⟨_, A, c, rfl, _, _, hh⟩ := h
  rcases hh with hh | ⟨b, o, rfl, hb, hc⟩
  · omega
  · exact ⟨b, o, c, rfl, hb, hc 0 (by simp), hc 1 (by simp), hc 2 (by simp), hc 3 (by simp), hc 4 (by simp), hc 5 (by simp), hc 6 (by simp)⟩
theorem it_rc {w : World} {g : Nat} {t : TypeId} {x : It} {ok : Bool} (h : Blk w g t (rC x ok)) : itAt w g 0 = some x := itAt_of (fun j v hv => by
  rw [Nat.zero_add, h.cell j]
  match j, hv with
  | 0, hv => exact hv
  | 1, hv => exact hv
  | 2, hv => exact hv
  | 3, hv => exact hv
  | 4, hv => exact hv
  | 5, hv => exact hv
  | 6, hv => exact hv
  | 7, hv => exact hv
  | 8, hv => exact hv
  | 9, hv => exact hv
  | 10, hv => exact hv
  | j + 11, hv => simp [cI, cK, cCk] at hv)
theorem there_grown {g b : Nat} {w w2 : World} {n : Nat} (h : w.there b 0 n) (hg : w.grownBy w2 (some g)) (hb : b < w.heap.size) (hne : b ≠ g) : w2.there b 0 n := by
  have he := hg.block b hb (by intro e; cases e; exact hne rfl)
  intro j hj
  have := h j hj
  simp only [World.cell?, World.frozen?, he] at *
  exact this
def parseE (s : List UInt8) (now : Int) : Int := if (parseO s now).isSome then 0 else 1
def parseI (s : List UInt8) (now : Int) : It := (parseO s now).getD itZ
theorem parse_none {s : List UInt8} {now : Int} (h : (parseO s now).isSome = false) : parseI s now = itZ ∧ parseE s now = 1 := by
  unfold parseI parseE
  cases e : parseO s now with
  | none => exact ⟨rfl, rfl⟩
  | some x => rw [e] at h; cases h
theorem parse_is {s : List UInt8} {now : Int} {x : It} (h : parseO s now = some x) : parseI s now = x ∧ parseE s now = 0 := by
  unfold parseI parseE; rw [h]; exact ⟨rfl, rfl⟩
theorem lineS_none {x : It} (h : lineO x = none) : lineS x = [] ∧ lineE x = 1 := by unfold lineS lineE; rw [h]; exact ⟨rfl, rfl⟩
theorem lineS_some {x : It} {t : List UInt8} (h : lineO x = some t) : lineS x = t ∧ lineE x = 0 := by unfold lineS lineE; rw [h]; exact ⟨rfl, rfl⟩
theorem mdI_parse {s : List UInt8} {t : Int} {a0 a1 a2 a3 a4 a5 a6 : List UInt8} (h7 : splitL s 9 = [a0, a1, a2, a3, a4, a5, a6]) (hs : s.length ≤ 100000) : MdI (parseX [a0, a1, a2, a3, a4, a5, a6] t) := by
  have hp := split_part s 9
  rw [h7] at hp
  have l0 := hp a0 (by simp)
  have l2 := hp a2 (by simp)
  have l5 := hp a5 (by simp)
  have l6 := hp a6 (by simp)
  refine ⟨?_, ?_, ?_, ?_⟩
  · show a5.length ≤ 100000; omega
  · show (domX a0).length ≤ 100000
    unfold domX dX
    split <;> split <;> (try simp only [List.length_drop]) <;> omega
  · show a2.length ≤ 100000; omega
  · show a6.length ≤ 100000; omega
theorem truthL_eq (b : Bool) : (truthL b == truthL true) = b := by cases b <;> rfl
theorem wordB_truth (b : Bool) : wordB (truthL b) = true := by cases b <;> rfl
theorem parse_fin {s : List UInt8} {now : Int} {x : It} {k wd : Bool} {a0 a1 a2 a3 a4 a5 a6 : List UInt8} (h7 : splitL s 9 = [a0, a1, a2, a3, a4, a5, a6]) (hP : passedB s = false) (hx : x = parseX (splitL s 9) (clampT now)) (hk : k = pOk ((true && wordB a1) && wordB a3) a4) (hw : wd = (a1 == truthL true)) (hh : x.c.ho = !wideX a0) :
    (k && (!(wd == x.c.ho) && (lineO x == some s))) = (parseO s now).isSome ∧ ((parseO s now).isSome = true → parseO s now = some x) := by
  by_cases h : lineO x = some s
  · have e : parseO s now = some x := by
      unfold parseO
      rw [hP, ← hx, h, h7]
      simp
    rw [hx] at h
    obtain ⟨e1, e3, e4⟩ := parse_words h rfl
    rw [h7] at e1 e3 e4
    have f1 : a1 = truthL (wideX a0) := e1
    have f3 : a3 = truthL true ∨ a3 = truthL false := e3
    have f4 : a4 = [45] ∨ (numOk a4 = true ∧ textL (numV a4) = a4) := e4
    have g3 : wordB a3 = true := by rcases f3 with f | f <;> rw [f] <;> rfl
    have gk : k = true := by
      rw [hk, f1, wordB_truth, g3]
      unfold pOk
      rcases f4 with f | ⟨f, f'⟩
      · rw [f]; rfl
      · rw [f, f']; simp
    have gw : wd = wideX a0 := by rw [hw, f1, truthL_eq]
    refine ⟨?_, fun _ => e⟩
    rw [e, gk, gw, hh, hx, h]
    cases wideX a0 <;> simp
  · have e : parseO s now = none := by
      unfold parseO
      rw [← hx, if_neg]
      simp only [Bool.and_eq_true, beq_iff_eq]
      rintro ⟨_, _, h'⟩
      exact h h'
    rw [e]
    refine ⟨?_, fun h' => by cases h'⟩
    have : (lineO x == some s) = false := by rw [beq_eq_false_iff_ne]; exact h
    rw [this]
    cases k <;> cases (wd == x.c.ho) <;> rfl
set_option maxRecDepth 20000 in
set_option maxHeartbeats 4000000 in
theorem parse_any (s : List UInt8) (now : Int) (w : World) (hs : s.length ≤ 100000) (hn1 : -9223372036854775808 ≤ now) (hn2 : now ≤ 9223372036854775807) :
    Calls Try.prog 11 #[.string (S s), .int .i64 now] w fun e w' => e = .returned (.tuple #[vI (parseI s now), .int .i64 (parseE s now)]) ∧ Below w.heap.size w w' := by
  have hz : (S s).size ≤ 4294967296 := by simp; omega
  have hB := bel_alloc (Below.refl w.heap.size w) (.cells (cI itZ).toArray 27)
  have hI := itAt_new w itZ 27 w.heap.size rfl
  go_enter Try.func11, Try.ntmps11
  go_upto_region 1 with (fail)
  show Code.wp _ _ _ _ (w.alloc (.cells (cI itZ).toArray 27))
  have hgw : (w.alloc (.cells (cI itZ).toArray 27)).heap.size = w.heap.size + 1 := by simp
  have hth : (w.alloc (.cells (cI itZ).toArray 27)).there w.heap.size 0 11 := by
    rw [there_alloc_new w _ _ _ _ _ rfl (by simp)]; trivial
  generalize w.alloc (.cells (cI itZ).toArray 27) = w0 at *
  go_wp2_with fail
  refine (split_any (S s) 9 _ hz).mono ?_
  rintro e w1 ⟨A, cp, rfl, hO, hb1⟩
  rw [S_toList]
  rw [S_toList] at hO
  have hR := Rd.of_own hO
  clear hO
  replace hI := itAt_later hI hb1
  replace hth := it_there5 hth hb1 (by omega)
  replace hB := bel_call hB hb1
  by_cases h7 : (splitL s 9).length = 7
  · have h7' : (((splitL s 9).length : Int) != 7) = false := by rw [h7]; rfl
    have h7H := Lib.hid h7
    clear h7
    go_wp2_with fail
    refine (passed_any s _ (by omega)).mono ?_
    rintro e w2 ⟨rfl, rfl⟩
    cases hP : passedB s with
    | true =>
      have hF : Hid (parseI s now = itZ ∧ parseE s now = 1) := by
        have e : parseO s now = none := by unfold parseO; rw [hP]; simp
        show _ ∧ _
        unfold parseI parseE
        rw [e]; exact ⟨rfl, rfl⟩
      clear hI hP
      go_upto_region 3 with (fail)
      repeat go_step
      refine ret_item2 (x := noneI k0) Try.results11 rfl rfl (itAt_setCells _ hth) ⟨?_, below_setCells _ _ _ hB (Nat.le_refl _)⟩
      rw [hF.out.1, hF.out.2]
      rfl
    | false =>
    obtain ⟨a0, a1, a2, a3, a4, a5, a6, hf7⟩ := list7 h7H.out
    rw [hf7] at hR h7'
    rw [hf7]
    have hf7H := Lib.hid hf7
    clear hf7
    obtain ⟨b0, o0, c0, hA, hb0, hs7⟩ := sev_rd hR
    cases hA
    clear hR
    go_upto_region 7 with (fail)
    have hK := Blk.new_ w1 59 (rC itZ true)
    have hG := rb_bel (bel_alloc (Below.refl _ w1) (.cells (rC itZ true) 59)) w1.heap.size
    have hs8 := sev_grown hs7 hG (by omega)
    have hwl : w.heap.size < w1.heap.size := World.block_lt_of_cell? _ _ (ky_cells (kyAt_it hI)).1
    clear hs7
    show Code.wp _ _ _ _ (w1.alloc (.cells (rC itZ true) 59))
    generalize w1.alloc (.cells (rC itZ true) 59) = w2 at *
    have hs9 := hs8
    obtain ⟨s0, s1, s2, s3, s4, s5, s6⟩ := hs9
    have hne : b0 ≠ w1.heap.size := by omega
    go_wp2_with fail
    refine (rDomain_any itZ true w1.heap.size a0 _ hK).mono ?_
    rintro e w3 ⟨rfl, hK3, hG3⟩
    replace hs8 := sev_grown hs8 hG3 hne
    replace hG := g_trans hG hG3
    clear s0 s1 s2 s3 s4 s5 s6 hK hG3
    obtain ⟨x1, hx1⟩ : ∃ x1, x1 = (⟨{ itZ.k with d := domX a0 }, { itZ.c with ht := htX a0, ho := !wideX a0 }⟩ : It) := ⟨_, rfl⟩
    rw [← hx1] at hK3
    have hpe1 : x1.c.pe = false := by rw [hx1]; rfl
    replace hx1 := Lib.hid hx1
    have hs9 := hs8
    obtain ⟨s0, s1, s2, s3, s4, s5, s6⟩ := hs9
    go_wp2_with fail
    refine (rTruth_any x1 true w1.heap.size a1 _ hK3).mono ?_
    rintro e w4 ⟨rfl, hK4, hG4⟩
    replace hs8 := sev_grown hs8 hG4 hne
    replace hG := g_trans hG hG4
    clear s0 s1 s2 s3 s4 s5 s6 hK3 hG4
    obtain ⟨k1, hk1⟩ : ∃ k1, k1 = (true && wordB a1) := ⟨_, rfl⟩
    rw [← hk1] at hK4
    replace hk1 := Lib.hid hk1
    obtain ⟨wd, hwd⟩ : ∃ wd, wd = (a1 == truthL true) := ⟨_, rfl⟩
    rw [← hwd]
    replace hwd := Lib.hid hwd
    have hs9 := hs8
    obtain ⟨s0, s1, s2, s3, s4, s5, s6⟩ := hs9
    go_wp2_with fail
    refine (rTruth_any x1 k1 w1.heap.size a3 _ hK4).mono ?_
    rintro e w5 ⟨rfl, hK5, hG5⟩
    replace hs8 := sev_grown hs8 hG5 hne
    replace hG := g_trans hG hG5
    clear s0 s1 s2 s3 s4 s5 s6 hK4 hG5
    obtain ⟨k2, hk2⟩ : ∃ k2, k2 = (k1 && wordB a3) := ⟨_, rfl⟩
    rw [← hk2] at hK5
    replace hk2 := Lib.hid hk2
    obtain ⟨sc, hsc⟩ : ∃ sc, sc = (a3 == truthL true) := ⟨_, rfl⟩
    rw [← hsc]
    replace hsc := Lib.hid hsc
    obtain ⟨c0, c1, c2, c3, c4, c5, c6, c7, c8, c9, c10, c11, cf⟩ := rc_cells hK5
    have hgl5 := hK5.lt
    have hK6 : Hid (Blk (w5.setCell ⟨w1.heap.size, 5, none⟩ (.bool sc)) w1.heap.size 59 (rC ⟨x1.k, { x1.c with se := sc }⟩ k2)) := rb_put hK5 5 (.bool sc)
    have hG6 := rb_set hG 5 (.bool sc)
    have hs6 := Lib.hid (sev_grown hs8 (rb_set (rb_bel (Below.refl _ w5) w1.heap.size) 5 (.bool sc)) hne)
    replace hG6 := Lib.hid hG6
    clear hG hs8 hK5
    go_upto_region 10 with (fail)
    clear c0 c1 c2 c3 c4 c5 c6 c7 c8 c9 c10 c11 cf
    show Code.wp _ _ _ _ (w5.setCell ⟨w1.heap.size, 5, none⟩ (.bool sc))
    generalize w5.setCell ⟨w1.heap.size, 5, none⟩ (.bool sc) = w6 at *
    replace hK6 := hK6.out
    replace hG6 := hG6.out
    replace hs6 := hs6.out
    obtain ⟨x2, hx2⟩ : ∃ x2, x2 = (⟨x1.k, { x1.c with se := sc }⟩ : It) := ⟨_, rfl⟩
    rw [← hx2] at hK6
    have hpe2 : x2.c.pe = false := by rw [hx2]; exact hpe1
    replace hx2 := Lib.hid hx2
    have hs9 := hs6
    obtain ⟨s0, s1, s2, s3, s4, s5, s6⟩ := hs9
    have ha4 : a4.length ≤ 4294967296 := by
      have := split_part s 9 a4 (by rw [hf7H.out]; simp)
      omega
    go_wp2_with fail
    refine (rExpiry_any x2 k2 w1.heap.size a4 _ ha4 hpe2 hK6).mono ?_
    rintro e w7 ⟨rfl, hK7, hG7⟩
    replace hs6 := sev_grown hs6 hG7 hne
    replace hG6 := g_trans hG6 hG7
    clear s0 s1 s2 s3 s4 s5 s6 hK6 hG7
    obtain ⟨k3, hk3⟩ : ∃ k3, k3 = pOk k2 a4 := ⟨_, rfl⟩
    rw [← hk3] at hK7
    replace hk3 := Lib.hid hk3
    obtain ⟨x3, hx3⟩ : ∃ x3, x3 = (⟨x2.k, { x2.c with pe := !(a4 == [45]), ex := if a4 == [45] then 1099511627776 else numV a4 }⟩ : It) := ⟨_, rfl⟩
    rw [← hx3] at hK7
    replace hx3 := Lib.hid hx3
    go_upto_region 11 with (fail)
    obtain ⟨x4, hx4⟩ : ∃ x4, x4 = (⟨{ x3.k with p := a2, n := a5 }, { x3.c with v := a6 }⟩ : It) := ⟨_, rfl⟩
    replace hx4 := Lib.hid hx4
    go_cut [] (fun wx => (Blk wx w1.heap.size 59 (rC x4 k3)) ∧ w1.grownBy wx (some w1.heap.size))
    case first =>
      obtain ⟨s0, s1, s2, s3, s4, s5, s6⟩ := hs6
      obtain ⟨c0, c1, c2, c3, c4, c5, c6, c7, c8, c9, c10, c11, cf⟩ := rc_cells hK7
      have hgl7 := hK7.lt
      have hKH := Lib.hid hK7
      have hGH := Lib.hid hG6
      clear hK7 hG6
      go_region
      all_goals go_wp2
      all_goals go_meet
      all_goals refine ⟨?_, g_trans (rb_set (rb_set (rb_set hGH.out _ _) _ _) _ _) (rb_bel (Below.refl _ _).drew _)⟩
      all_goals rw [hx4.out]
      all_goals first
        | exact Blk.below (rb_put (rb_put (rb_put hKH.out 2 (.string (S a2))) 0 (.string (S a5))) 3 (.string (S a6))) (Below.refl _ _).drew
        | exact Blk.below (rb_put (rb_put (rb_put hKH.out 2 (.string (S a2))) 3 (.string (S a6))) 0 (.string (S a5))) (Below.refl _ _).drew
        | exact Blk.below (rb_put (rb_put (rb_put hKH.out 0 (.string (S a5))) 2 (.string (S a2))) 3 (.string (S a6))) (Below.refl _ _).drew
        | exact Blk.below (rb_put (rb_put (rb_put hKH.out 0 (.string (S a5))) 3 (.string (S a6))) 2 (.string (S a2))) (Below.refl _ _).drew
        | exact Blk.below (rb_put (rb_put (rb_put hKH.out 3 (.string (S a6))) 2 (.string (S a2))) 0 (.string (S a5))) (Below.refl _ _).drew
        | exact Blk.below (rb_put (rb_put (rb_put hKH.out 3 (.string (S a6))) 0 (.string (S a5))) 2 (.string (S a2))) (Below.refl _ _).drew
    case rest =>
    clear hs6 hK7 hG6
    obtain ⟨hK8, hG8⟩ := hcut
    obtain ⟨c0, c1, c2, c3, c4, c5, c6, c7, c8, c9, c10, c11, cf⟩ := rc_cells hK8
    have hgl8 := hK8.lt
    have hK9 : Hid (Blk ((wc.setCell ⟨w1.heap.size, 9, none⟩ (.int .i64 (clampT now))).setCell ⟨w1.heap.size, 10, none⟩ (.int .i64 (clampT now))) w1.heap.size 59 (rC (agedX x4 (clampT now)) k3)) := rb_put (rb_put hK8 9 (.int .i64 (clampT now))) 10 (.int .i64 (clampT now))
    have hG9 : Hid (w1.grownBy ((wc.setCell ⟨w1.heap.size, 9, none⟩ (.int .i64 (clampT now))).setCell ⟨w1.heap.size, 10, none⟩ (.int .i64 (clampT now))) (some w1.heap.size)) := rb_set (rb_set hG8 9 _) 10 _
    clear hK8 hG8
    go_upto_region 13 with (fail)
    clear c0 c1 c2 c3 c4 c5 c6 c7 c8 c9 c10 c11 cf
    show Code.wp _ _ _ _ ((wc.setCell ⟨w1.heap.size, 9, none⟩ (.int .i64 (clampT now))).setCell ⟨w1.heap.size, 10, none⟩ (.int .i64 (clampT now)))
    generalize (wc.setCell ⟨w1.heap.size, 9, none⟩ (.int .i64 (clampT now))).setCell ⟨w1.heap.size, 10, none⟩ (.int .i64 (clampT now)) = w9 at *
    replace hK9 := hK9.out
    replace hG9 := hG9.out
    obtain ⟨x5, hx5⟩ : ∃ x5, x5 = agedX x4 (clampT now) := ⟨_, rfl⟩
    rw [← hx5] at hK9
    have hX : Hid (x5 = parseX (splitL s 9) (clampT now)) := by
      show _ = _
      rw [hx5, hx4.out, hx3.out, hx2.out, hx1.out, hsc.out, hf7H.out]
      rfl
    have hKK : Hid (k3 = pOk ((true && wordB a1) && wordB a3) a4) := by
      show _ = _
      rw [hk3.out, hk2.out, hk1.out]
    have hHo : Hid (x5.c.ho = !wideX a0) := by
      show _ = _
      rw [hx5, hx4.out, hx3.out, hx2.out, hx1.out]
      rfl
    replace hx5 := Lib.hid hx5
    have hMd : MdI x5 := by
      rw [hX.out, hf7H.out]
      exact mdI_parse hf7H.out hs
    have hI5 := it_rc hK9
    go_wp2_with fail
    refine (line_any x5 _ hMd).mono ?_
    rintro e w10 ⟨rfl, hb10⟩
    have hK10 := hK9.below hb10
    have hG10 := g_trans hG9 (rb_bel hb10 w1.heap.size)
    have hI10 := it_rc hK10
    have hth10 := there_grown hth hG10 hwl (by omega)
    have hB10 := bel_grown hB hG10 (by omega) (by omega)
    have hfin := Lib.hid (parse_fin hf7H.out hP hX.out hKK.out hwd.out hHo.out)
    obtain ⟨c0, c1, c2, c3, c4, c5, c6, c7, c8, c9, c10, c11, cf⟩ := rc_cells hK10
    have hgl10 := hK10.lt
    clear hK9 hG9 hI5 hK10 hG10 hth hB hI hX hKK hHo hx5 hx4 hx3 hx2 hx1 hsc hk1 hk2 hk3 hwd c0 c1 c2 c3 c5 c6 c7 c8 c9 c10 cf
    cases k3 with
    | false =>
      have hF := Lib.hid (parse_none (s := s) (now := now) (by rw [← hfin.out.1]; rfl))
      clear hfin
      go_upto_region 15 with (fail)
      repeat go_step
      refine ret_item2 (x := noneI k0) Try.results11 rfl rfl (itAt_setCells _ hth10) ⟨?_, below_setCells _ _ _ hB10 (Nat.le_refl _)⟩
      rw [hF.out.1, hF.out.2]
      rfl
    | true =>
    by_cases hw : wd = x5.c.ho
    · subst hw
      have hF := Lib.hid (parse_none (s := s) (now := now) (by rw [← hfin.out.1]; simp))
      clear hfin
      go_upto_region 15 with (fail)
      repeat go_step
      refine ret_item2 (x := noneI k0) Try.results11 rfl rfl (itAt_setCells _ hth10) ⟨?_, below_setCells _ _ _ hB10 (Nat.le_refl _)⟩
      rw [hF.out.1, hF.out.2]
      rfl
    have hbq : (wd == x5.c.ho) = false := by simpa using hw
    cases hl : lineO x5 with
    | none =>
      rw [(lineS_none hl).1, (lineS_none hl).2]
      have hl2 := Lib.hid hl
      clear hl
      have hF := Lib.hid (parse_none (s := s) (now := now) (by rw [← hfin.out.1, hl2.out]; simp))
      clear hfin
      go_upto_region 15 with (fail)
      repeat go_step
      refine ret_item2 (x := noneI k0) Try.results11 rfl rfl (itAt_setCells _ hth10) ⟨?_, below_setCells _ _ _ hB10 (Nat.le_refl _)⟩
      rw [hF.out.1, hF.out.2]
      rfl
    | some t =>
      rw [(lineS_some hl).1, (lineS_some hl).2]
      have hl2 := Lib.hid hl
      clear hl
      by_cases ht : t = s
      · subst ht
        have hO : (parseO t now).isSome = true := by rw [← hfin.out.1, hl2.out, hbq]; simp
        have hF := Lib.hid (parse_is (hfin.out.2 hO))
        clear hfin hO
        go_upto_region 16 with (fail)
        repeat go_step
        refine ret_item2 (x := x5) Try.results11 rfl rfl (itAt_setCells _ hth10) ⟨?_, below_setCells _ _ _ hB10 (Nat.le_refl _)⟩
        rw [hF.out.1, hF.out.2]
        rfl
      · have ht1 : (t == s) = false := by simpa using ht
        have ht2 : (t != s) = true := by simpa using ht
        clear ht
        have hF := Lib.hid (parse_none (s := s) (now := now) (by rw [← hfin.out.1, hl2.out]; simp [ht1]))
        clear hfin
        go_upto_region 15 with (fail)
        repeat go_step
        refine ret_item2 (x := noneI k0) Try.results11 rfl rfl (itAt_setCells _ hth10) ⟨?_, below_setCells _ _ _ hB10 (Nat.le_refl _)⟩
        rw [hF.out.1, hF.out.2]
        rfl
  · have hF : Hid (parseI s now = itZ ∧ parseE s now = 1) := by
      have e : parseO s now = none := by unfold parseO; rw [decide_eq_false h7]; rfl
      show _ ∧ _
      unfold parseI parseE
      rw [e]; exact ⟨rfl, rfl⟩
    have h7' : (((splitL s 9).length : Int) != 7) = true := by simp; omega
    clear h7
    clear hI
    go_upto_region 3 with (fail)
    repeat go_step
    refine ret_item2 (x := noneI k0) Try.results11 rfl rfl (itAt_setCells _ hth) ⟨?_, below_setCells _ _ _ hB (Nat.le_refl _)⟩
    rw [hF.out.1, hF.out.2]
    rfl
end Go.Proofs.Ytgfoaopfdpclhaa
