/-
  The document's changes behind changes, walked.
-/
import Derived.Test.YtdefpphfbpkeaaaFew
namespace Go.Proofs.Ytdefpphfbpkeaaa
open Go.RowKit
set_option linter.unusedVariables false

theorem nk_step1 (l : List Ch) (j : Nat) (h : j < l.length) : byKeysL ((l.take (j + 1)).map nkC) = putI (byKeysL ((l.take j).map nkC)) (nkC l[j]) := by
  rw [List.take_succ_eq_append_getElem h, List.map_append]; unfold byKeysL; rw [List.foldl_append]; rfl
theorem nk_step2 (a : List It) (l : List Ch) (j : Nat) (h : j < l.length) : byKeysL (a ++ (l.take (j + 1)).map nkC) = putI (byKeysL (a ++ (l.take j).map nkC)) (nkC l[j]) := by
  rw [List.take_succ_eq_append_getElem h, List.map_append, ← List.append_assoc]; unfold byKeysL; rw [List.foldl_append]; rfl
theorem tk_step {l m : List Ch} {K : List It} {acc : List Ch} {o : Option (List Ch)} {j : Nat} (h : j < K.length) (ho : o = (thenKeys l m (keysL (K.drop j))).map (acc ++ ·)) :
    o = (match stepK (atC l K[j].k) (atC m K[j].k) with | none => none | some z => (thenKeys l m (keysL (K.drop (j + 1)))).map ((acc ++ z) ++ ·)) := by
  rw [ho, List.drop_eq_getElem_cons h]
  show Option.map _ (thenKeys l m (K[j].k :: keysL (K.drop (j + 1)))) = _
  rw [thenKeys]
  cases stepK (atC l K[j].k) (atC m K[j].k) with
  | none => rfl
  | some z => exact map_app

theorem five_later {W W' : World} {g b1 p1 b2 p2 : Nat} {k : Ky} {x y : Ch} (h : kyAt W g 0 = some k ∧ itAt W b1 (p1 + 1) = some x.o ∧ W.cell? ⟨b1, p1, none⟩ = some (.int .i64 x.kd) ∧ itAt W b2 (p2 + 12) = some y.n ∧ W.cell? ⟨b2, p2, none⟩ = some (.int .i64 y.kd)) (hb : Below W.heap.size W W') :
    kyAt W' g 0 = some k ∧ itAt W' b1 (p1 + 1) = some x.o ∧ W'.cell? ⟨b1, p1, none⟩ = some (.int .i64 x.kd) ∧ itAt W' b2 (p2 + 12) = some y.n ∧ W'.cell? ⟨b2, p2, none⟩ = some (.int .i64 y.kd) := by
  obtain ⟨h1, h2, h3, h4, h5⟩ := h
  exact ⟨kyAt_later h1 hb, itAt_later h2 hb, (hb.cell (World.block_lt_of_cell? W _ h3)).trans h3, itAt_later h4 hb, (hb.cell (World.block_lt_of_cell? W _ h5)).trans h5⟩
theorem five_far {W : World} {g b1 p1 b2 p2 G : Nat} {k : Ky} {x y : Ch} {l : List Value} (h : kyAt W g 0 = some k ∧ itAt W b1 (p1 + 1) = some x.o ∧ W.cell? ⟨b1, p1, none⟩ = some (.int .i64 x.kd) ∧ itAt W b2 (p2 + 12) = some y.n ∧ W.cell? ⟨b2, p2, none⟩ = some (.int .i64 y.kd)) (hg : g < G) (h1 : b1 < G) (h2 : b2 < G) :
    kyAt (W.setCells G 0 l) g 0 = some k ∧ itAt (W.setCells G 0 l) b1 (p1 + 1) = some x.o ∧ (W.setCells G 0 l).cell? ⟨b1, p1, none⟩ = some (.int .i64 x.kd) ∧ itAt (W.setCells G 0 l) b2 (p2 + 12) = some y.n ∧ (W.setCells G 0 l).cell? ⟨b2, p2, none⟩ = some (.int .i64 y.kd) := by
  obtain ⟨e1, e2, e3, e4, e5⟩ := h
  exact ⟨kyAt_far e1 (by omega), itAt_far e2 (by omega), (World.cell?_setCells_out G l 0 W ⟨b1, p1, none⟩ (fun e _ => absurd e (by show ¬ b1 = G; omega))).trans e3, itAt_far e4 (by omega), (World.cell?_setCells_out G l 0 W ⟨b2, p2, none⟩ (fun e _ => absurd e (by show ¬ b2 = G; omega))).trans e5⟩
theorem there_later {w w1 : World} {b o n : Nat} (h : w.there b o n) (hb : Below w.heap.size w w1) (hlt : b < w.heap.size) : w1.there b o n := fun j hj => by
  have h1 := hb.cell (p := ⟨b, o + j, none⟩) hlt
  have h2 := hb.frozen (p := ⟨b, o + j, none⟩) hlt
  rw [h1, h2]
  exact h j hj
theorem grown_setCells (g : Nat) : ∀ (l : List Value) (o : Nat) (w : World), w.grownBy (w.setCells g o l) (some g)
  | [], _, w => World.grownBy.refl w _
  | v :: l, o, w => by
    have ih := grown_setCells g l (o + 1) (w.setCell ⟨g, o, none⟩ v)
    refine ⟨ih.os, ih.tape, ih.output, ?_, fun k hk hne => ?_⟩
    · have e : (w.setCell ⟨g, o, none⟩ v).heap.size = w.heap.size := by simp [World.setCell]
      show w.heap.size ≤ ((w.setCell ⟨g, o, none⟩ v).setCells g (o + 1) l).heap.size
      rw [← e]
      exact ih.size
    · show ((w.setCell ⟨g, o, none⟩ v).setCells g (o + 1) l).heap[k]? = w.heap[k]?
      rw [ih.block k (by simpa [World.setCell] using hk) hne]
      exact Below.heap_setCell w ⟨g, o, none⟩ v k (fun e => hne (by subst e; rfl))
set_option maxHeartbeats 4000000 in
set_option maxRecDepth 100000 in
theorem refThen_any (A1 A2 : Option Addr) (n1 c1 n2 c2 : Nat) (l m : List Ch) (w : World) (h1 : Rd w 23 (.slice A1 n1 c1) n1 (l.flatMap cC)) (h2 : Rd w 23 (.slice A2 n2 c2) n2 (m.flatMap cC)) (hn1 : n1 ≤ 20000) (hn2 : n2 ≤ 20000) (hcl : checkL l = 0) (hcm : checkL m = 0) :
    Calls Try.prog 22 #[.slice A1 n1 c1, .slice A2 n2 c2] w fun e w' => ∃ A c z r, e = .returned (.tuple #[.slice A z.length c, .int .i64 r]) ∧ ThenOut l m z r ∧ w'.ownsRow w.heap.size 54 23 (.slice A z.length c) z.length (z.flatMap cC) ∧ Below w.heap.size w w' := by
  obtain ⟨i1, hi1, hy0, hy1, hy2⟩ := info_parts Try.infoD
  have hl1 := h1.rows (sz := 23) (f := cC) (fun q => rfl) (by decide)
  have hl2 := h2.rows (sz := 23) (f := cC) (fun q => rfl) (by decide)
  have hcap1 := h1.cap
  have hcap2 := h2.cap
  unfold maxLen at hcap1 hcap2
  obtain ⟨hca1, hcb1⟩ := hcap1
  obtain ⟨hca2, hcb2⟩ := hcap2
  subst hl1 hl2
  have hrl := Lib.hid (checkL_ok.1 hcl).1
  have hrm := Lib.hid (checkL_ok.1 hcm).1
  have hth := Lib.hid (keysT_ok hcl hcm)
  go_enter Try.func22, Try.ntmps22
  go_wp2_with fail
  refine (refCheck_any _ _ _ l _ h1).mono ?_
  rintro e w1 ⟨rfl, hb1⟩
  rw [hcl]
  have hq2 := h2.below hb1
  go_wp2_with fail
  refine (refCheck_any _ _ _ m _ hq2).mono ?_
  rintro e w2 ⟨rfl, hb2⟩
  rw [hcm]
  have hbel0 := bel_call hb1 hb2
  have hR1 := h1.below hbel0
  have hR2 := h2.below hbel0
  clear hq2 hb1 hb2 hcl hcm h1 h2
  go_wp2
  have hown0 : (w2.alloc (Obj.cells #[] 51)).ownsRow w2.heap.size 51 11 (.slice (some ⟨w2.heap.size, 0, none⟩) 0 0) 0 (#[] : Array Value).toList := World.ownsRow_lit w2 #[] 0 (Nat.le_refl _) (by unfold maxLen; omega) rfl
  have hbelA := bel_alloc (Below.refl w2.heap.size w2) (Obj.cells #[] 51)
  generalize w2.alloc (Obj.cells #[] 51) = w3 at *
  go_loopw [8, 9] (fun v i wr => ∃ j A' c', j ≤ l.length ∧ i = .int .i64 (j : Nat) ∧ v = .slice A' (byKeysL ((l.take j).map nkC)).length c' ∧ wr.ownsRow w2.heap.size 51 11 (.slice A' (byKeysL ((l.take j).map nkC)).length c') (byKeysL ((l.take j).map nkC)).length ((byKeysL ((l.take j).map nkC)).flatMap cI) ∧ Below w2.heap.size w2 wr) (fun _ i _ => l.length - (intOf i).toNat)
  case atStart => exact ⟨0, _, _, Nat.zero_le _, rfl, rfl, hown0, hbelA⟩
  case round =>
    obtain ⟨j, A', c', hj, rfl, rfl, hown, hbel⟩ := hrel
    clear hown0 hbelA
    by_cases hlt : j < l.length
    · have hji : (j : Int) < l.length := by omega
      obtain ⟨b, off, rfl, hb, hx⟩ := (hR1.below hbel).changes hlt
      have hxi := (ch_parts (hx j hlt)).2.2.2.1
      have hst := Lib.hid (nk_step1 l j hlt)
      have hle := byKeys_len ((l.take j).map nkC)
      rw [List.length_map, List.length_take] at hle
      clear hx hb
      have hRo := Rd.of_own hown
      generalize byKeysL ((l.take j).map nkC) = L at *
      go_wp2_with fail
      refine (put25_any A' _ c' L (nkC l[j]) _ hRo (by omega)).mono ?_
      rintro e w5 ⟨A2, c2, rfl, hown2, hb2⟩
      have hbel2 := bel_call hbel hb2
      have hown3 := own_low hown2 hbel.size
      clear hRo hown hown2 hb2 hbel hxi
      go_wp2
      go_roundw
      case rel => exact ⟨j + 1, A2, c2, by omega, by go_num, by rw [hst.out], by rw [hst.out]; exact hown3, hbel2⟩
      case measure => simp [intOf]; omega
    · obtain rfl : j = l.length := by omega
      rw [List.take_length] at hown ⊢
      have hlL := byKeys_len (l.map nkC)
      rw [List.length_map] at hlL
      go_wp2
      go_loopw [8, 10] (fun v i wr => ∃ j A' c', j ≤ m.length ∧ i = .int .i64 (j : Nat) ∧ v = .slice A' (byKeysL (l.map nkC ++ (m.take j).map nkC)).length c' ∧ wr.ownsRow w2.heap.size 51 11 (.slice A' (byKeysL (l.map nkC ++ (m.take j).map nkC)).length c') (byKeysL (l.map nkC ++ (m.take j).map nkC)).length ((byKeysL (l.map nkC ++ (m.take j).map nkC)).flatMap cI) ∧ Below w2.heap.size w2 wr) (fun _ i _ => m.length - (intOf i).toNat)
      case atStart => exact ⟨0, A', c', Nat.zero_le _, rfl, by rw [List.take_zero, List.map_nil, List.append_nil], by rw [List.take_zero, List.map_nil, List.append_nil]; exact hown, hbel⟩
      case round =>
        clear hown hbel
        obtain ⟨j, A', c', hj, rfl, rfl, hown, hbel⟩ := hrel
        by_cases hlt : j < m.length
        · have hji : (j : Int) < m.length := by omega
          obtain ⟨b, off, rfl, hb, hx⟩ := (hR2.below hbel).changes hlt
          have hxi := (ch_parts (hx j hlt)).2.2.2.1
          have hst := Lib.hid (nk_step2 (l.map nkC) m j hlt)
          have hle := byKeys_len (l.map nkC ++ (m.take j).map nkC)
          rw [List.length_append, List.length_map, List.length_map, List.length_take] at hle
          clear hx hb
          have hRo := Rd.of_own hown
          generalize byKeysL (l.map nkC ++ (m.take j).map nkC) = L at *
          go_wp2_with fail
          refine (put25_any A' _ c' L (nkC m[j]) _ hRo (by omega)).mono ?_
          rintro e w5 ⟨A2, c2, rfl, hown2, hb2⟩
          have hbel2 := bel_call hbel hb2
          have hown3 := own_low hown2 hbel.size
          clear hRo hown hown2 hb2 hbel hxi
          go_wp2
          go_roundw
          case rel => exact ⟨j + 1, A2, c2, by omega, by go_num, by rw [hst.out], by rw [hst.out]; exact hown3, hbel2⟩
          case measure => simp [intOf]; omega
        · obtain rfl : j = m.length := by omega
          rw [List.take_length] at hown ⊢
          have hle := byKeys_len (l.map nkC ++ m.map nkC)
          rw [List.length_append, List.length_map, List.length_map] at hle
          have hmem := Lib.hid (fun j (hj : j < (keysT l m).length) => keysT_mem hj)
          have hkt : Hid (keysT l m = byKeysL (l.map nkC ++ m.map nkC)) := rfl
          unfold keysT at hmem hth
          generalize byKeysL (l.map nkC ++ m.map nkC) = K at *
          clear hkt
          have hRK := Rd.of_own hown
          clear hown hlL
          have hwr : wr.heap.size ≤ wr.heap.size := Nat.le_refl _
          have hR1w := hR1.below hbel
          have hR2w := hR2.below hbel
          have hbelw := bel_call hbel0 hbel
          clear hR1 hR2 hbel hbel0
          generalize wr = W at *
          go_wp2
          have hownD : (W.alloc (Obj.cells #[] 54)).ownsRow W.heap.size 54 23 (.slice (some ⟨W.heap.size, 0, none⟩) 0 0) 0 (#[] : Array Value).toList := World.ownsRow_lit W #[] 0 (Nat.le_refl _) (by unfold maxLen; omega) rfl
          go_loopw [11, 12] (fun v i wr => ∃ (q : Nat) (acc : List Ch), q ≤ K.length ∧ i = .int .i64 q ∧ wr.ownsRow W.heap.size 54 23 v acc.length (acc.flatMap cC) ∧ Below W.heap.size W wr ∧ acc.length ≤ q ∧ Hid (thenL l m = (thenKeys l m (keysL (K.drop q))).map (acc ++ ·))) (fun _ i _ => K.length - (intOf i).toNat)
          case atStart => exact ⟨0, [], Nat.zero_le _, rfl, hownD, bel_alloc (Below.refl _ _) _, Nat.le_refl _, by show _ = _; rw [hth.out]; simp⟩
          case round =>
            obtain ⟨q, acc, hq, rfl, hown, hbel, hacc, hch⟩ := hrel
            clear hownD
            by_cases hlt : q < K.length
            · have hqi : (q : Int) < K.length := by omega
              obtain ⟨bb, off, rfl, hb, hx⟩ := (hRK.below hbel).items hlt
              have hk0 := (hx q hlt).2
              have htk := Lib.hid (tk_step hlt hch.out)
              have hme := hmem.out q hlt
              clear hx hb hch
              have hq1 := hR1w.below hbel
              have hq2 := hR2w.below hbel
              go_wp2_with fail
              obtain ⟨k, hK⟩ : ∃ k, k = K[q].k := ⟨_, rfl⟩
              rw [← hK] at htk hk0 hme ⊢
              replace hme := Lib.hid hme
              replace hK := Lib.hid hK
              have hB5 := bel_alloc hbel (.cells (cK k).toArray 47)
              have hky5 := kyAt_new wr k 47 _ rfl
              have hq1' := hq1.alloc (.cells (cK k).toArray 47)
              have hq2' := hq2.alloc (.cells (cK k).toArray 47)
              have ho5 := hown.alloc (.cells (cK k).toArray 47)
              generalize wr.alloc (.cells (cK k).toArray 47) = w5 at *
              generalize wr.heap.size = g5 at *
              clear hown hq1 hq2 hk0 hbel
              refine (at_any _ _ _ l k _ hq1').mono ?_
              rintro e w6 ⟨hpx, hb6⟩
              have hB6 := bel_call hB5 hb6
              have hky6 := kyAt_later hky5 hb6
              have hr1 := hq1'.below hb6
              have hr2 := hq2'.below hb6
              have ho6 := own_below ho5 hb6
              clear ho5 hB5 hky5 hq1' hq2' hb6
              rcases hpx with ⟨ix, x, hix, rfl, hax⟩ | ⟨rfl, hax⟩
              · have hix1 : ix < l.length := (List.getElem?_eq_some_iff.1 hix).1
                have hxe : l[ix] = x := (List.getElem?_eq_some_iff.1 hix).2
                have hxr := hrl.out x (List.mem_of_getElem? hix)
                have hxk := (atC_key hax).1
                have t0 : (0 : Int) ≤ (ix : Int) := by omega
                have t1 : (ix : Int) < l.length := by omega
                have t2 : decide ((ix : Int) < 0) = false := decide_eq_false (by omega)
                replace hix := Lib.hid hix
                replace hxe := Lib.hid hxe
                replace hxk := Lib.hid hxk
                replace hax := Lib.hid hax
                replace hxr := Lib.hid hxr
                go_wp2_with fail
                refine (at_any _ _ _ m k _ hr2).mono ?_
                rintro e w7 ⟨hpy, hb7⟩
                have hB7 := bel_call hB6 hb7
                have hky7 := kyAt_later hky6 hb7
                have hr1' := hr1.below hb7
                have hr2' := hr2.below hb7
                have ho7 := own_below ho6 hb7
                clear ho6 hB6 hky6 hr1 hr2 hb7
                obtain ⟨b1, o1, rfl, _, hX⟩ := hr1'.changes hix1
                have hcx := hX ix hix1
                rw [hxe.out] at hcx
                clear hX
                rcases hpy with ⟨iy, y, hiy, rfl, hay⟩ | ⟨rfl, hay⟩
                · have hiy1 : iy < m.length := (List.getElem?_eq_some_iff.1 hiy).1
                  have hye : m[iy] = y := (List.getElem?_eq_some_iff.1 hiy).2
                  have hyr := hrm.out y (List.mem_of_getElem? hiy)
                  have hyk := (atC_key hay).1
                  have u0 : (0 : Int) ≤ (iy : Int) := by omega
                  have u1 : (iy : Int) < m.length := by omega
                  have u2 : decide ((iy : Int) < 0) = false := decide_eq_false (by omega)
                  obtain ⟨b2, o2, rfl, _, hY⟩ := hr2'.changes hiy1
                  have hcy := hY iy hiy1
                  rw [hye] at hcy
                  clear hY
                  replace hiy := Lib.hid hiy
                  replace hye := Lib.hid hye
                  replace hyk := Lib.hid hyk
                  replace hyr := Lib.hid hyr
                  have hst : Hid (stepK (atC l k) (atC m k) = joinL x y) := by show _ = _; rw [hax.out, hay]; rfl
                  clear hay
                  obtain ⟨x0, x1, x2, _, _⟩ := ch_parts hcx
                  obtain ⟨y0, y1, y2, _, _⟩ := ch_parts hcy
                  have b0' := Lib.hid x0
                  have b1' := Lib.hid x1
                  have b2' := Lib.hid x2
                  have d0' := Lib.hid y0
                  have d1' := Lib.hid y1
                  have d2' := Lib.hid y2
                  clear x0 x1 x2 y0 y1 y2 hcx hcy
                  go_wp2
                  have x0 := b0'.out
                  have x1 := b1'.out
                  have x2 := b2'.out
                  have y0 := d0'.out
                  have y1 := d1'.out
                  have y2 := d2'.out
                  clear b0' b1' b2' d0' d1' d2'
                  cases hx2 : (x.kd == 2) with
                  | true =>
                    cases hy1 : (y.kd == 1) with
                    | true =>
                      have hneq : Hid (((x.kd == 2) != (y.kd == 1)) = false) := by show _ = _; rw [hx2, hy1]; rfl
                      cases hkn : decide (x.n = y.o) with
                      | false =>
                        have hno : Hid (thenL l m = none) := by show _ = _; rw [htk.out, hst.out, join_bad2 hkn]
                        go_quiet (fail)
                        have hB8 := below_drews hB7 nq
                        clear x0 x1 x2 y0 y1 y2 hky7 ho7 hB7 hneq hkn
                        generalize w7.drewN nq = w8 at *
                        go_wp2
                        go_ret2
                        exact ⟨none, 0, [], 10, rfl, .inr ⟨hno.out, rfl, rfl⟩, ⟨rfl, .inl ⟨rfl, rfl⟩⟩, bel_call hbelw hB8⟩
                      | true =>
                        obtain ⟨z, hj⟩ := join_good hneq.out hkn
                        have htk' : Hid (thenL l m = (thenKeys l m (keysL (K.drop (q + 1)))).map ((acc ++ z) ++ ·)) := by show _ = _; rw [htk.out, hst.out, hj]
                        have hcg : Hid (∀ W0, Calls Try.prog 44 #[vK k, vI x.o, .bool (x.kd != 1), vI y.n, .bool (y.kd != 2)] W0 (ChgPost z W0)) := fun W0 => by
                          have := change_gen x y z W0 hxr.out hyr.out (hxk.out.trans hyk.out.symm) hj
                          rw [hxk.out] at this
                          exact this
                        have hzl := join_len hj
                        go_quiet (fail)
                        have hB8 := below_drews hB7 nq
                        have ho8 := own_drews ho7 nq
                        have hky8 := kyAt_dN hky7 nq
                        have x0' : (w7.drewN nq).cell? ⟨b1, o1 + ix * 23, none⟩ = some (.int .i64 x.kd) := by go_simp
                        have y0' : (w7.drewN nq).cell? ⟨b2, o2 + iy * 23, none⟩ = some (.int .i64 y.kd) := by go_simp
                        have x1' := itAt_dN x1 nq
                        have y2' := itAt_dN y2 nq
                        clear x0 x1 x2 y0 y1 y2 hky7 ho7 hB7 hneq hkn hj htk hst hx2 hy1
                        generalize w7.drewN nq = w8 at *
                        have hBD := hB8.drew
                        have hOD := ho8.drew
                        have x0D := Lib.hid x0'
                        have y0D := Lib.hid y0'
                        have x1D := Lib.hid x1'
                        have y2D := Lib.hid y2'
                        have hkD := Lib.hid hky8
                        clear x0' y0' x1' y2' hky8
                        go_wp2
                        have hF : kyAt w8 g5 0 = some k ∧ itAt w8 b1 (o1 + ix * 23 + 1) = some x.o ∧ w8.cell? ⟨b1, o1 + ix * 23, none⟩ = some (.int .i64 x.kd) ∧ itAt w8 b2 (o2 + iy * 23 + 12) = some y.n ∧ w8.cell? ⟨b2, o2 + iy * 23, none⟩ = some (.int .i64 y.kd) := ⟨hkD.out, x1D.out, x0D.out, y2D.out, y0D.out⟩
                        have l1 := ky_lt hF.1
                        have l2 := it_lt hF.2.1
                        have l3 := it_lt hF.2.2.2.1
                        have ht8 : (w8.alloc (Obj.cells #[.int .i64 0, .string ⟨#[]⟩, .string ⟨#[]⟩, .string ⟨#[]⟩, .string ⟨#[]⟩, .bool false, .bool false, .bool false, .bool false, .int .i64 0, .int .i64 0, .int .i64 0, .string ⟨#[]⟩, .string ⟨#[]⟩, .string ⟨#[]⟩, .string ⟨#[]⟩, .bool false, .bool false, .bool false, .bool false, .int .i64 0, .int .i64 0, .int .i64 0] 54)).drew.there w8.heap.size 0 23 := by go_simp
                        have hO2 := Lib.hid ((ho8.alloc (Obj.cells #[.int .i64 0, .string ⟨#[]⟩, .string ⟨#[]⟩, .string ⟨#[]⟩, .string ⟨#[]⟩, .bool false, .bool false, .bool false, .bool false, .int .i64 0, .int .i64 0, .int .i64 0, .string ⟨#[]⟩, .string ⟨#[]⟩, .string ⟨#[]⟩, .string ⟨#[]⟩, .bool false, .bool false, .bool false, .bool false, .int .i64 0, .int .i64 0, .int .i64 0] 54)).drew)
                        have hB2 := Lib.hid ((bel_alloc hB8 (Obj.cells #[.int .i64 0, .string ⟨#[]⟩, .string ⟨#[]⟩, .string ⟨#[]⟩, .string ⟨#[]⟩, .bool false, .bool false, .bool false, .bool false, .int .i64 0, .int .i64 0, .int .i64 0, .string ⟨#[]⟩, .string ⟨#[]⟩, .string ⟨#[]⟩, .string ⟨#[]⟩, .bool false, .bool false, .bool false, .bool false, .int .i64 0, .int .i64 0, .int .i64 0] 54)).drew)
                        have hFa := Lib.hid (five_later hF (Below.refl w8.heap.size w8).drew)
                        have hFb := Lib.hid (five_later hF (bel_alloc (Below.refl w8.heap.size w8) (Obj.cells #[.int .i64 0, .string ⟨#[]⟩, .string ⟨#[]⟩, .string ⟨#[]⟩, .string ⟨#[]⟩, .bool false, .bool false, .bool false, .bool false, .int .i64 0, .int .i64 0, .int .i64 0, .string ⟨#[]⟩, .string ⟨#[]⟩, .string ⟨#[]⟩, .string ⟨#[]⟩, .bool false, .bool false, .bool false, .bool false, .int .i64 0, .int .i64 0, .int .i64 0] 54)).drew)
                        clear hF
                        go_region_held3 (fun w' => kyAt w' g5 0 = some k ∧ itAt w' b1 (o1 + ix * 23 + 1) = some x.o ∧ w'.cell? ⟨b1, o1 + ix * 23, none⟩ = some (.int .i64 x.kd) ∧ itAt w' b2 (o2 + iy * 23 + 12) = some y.n ∧ w'.cell? ⟨b2, o2 + iy * 23, none⟩ = some (.int .i64 y.kd)) (first | with_reducible exact hFa.out | with_reducible exact hFb.out | with_reducible exact five_later hFa.out hb9 | with_reducible exact five_later hFb.out hb9 | with_reducible exact five_later (five_later hFa.out hb9) (bel_alloc (Below.refl _ _) _) | with_reducible exact five_far (five_later hFb.out hb9) l1 l2 l3) (first | (go_at_call 44; (with_reducible refine (hcg.out w8.drew).mono ?_); rintro e w9 ⟨cc, rfl, hzz, hb9⟩) | (go_at_call 44; (with_reducible refine (hcg.out ((w8.alloc (Obj.cells #[.int .i64 0, .string ⟨#[]⟩, .string ⟨#[]⟩, .string ⟨#[]⟩, .string ⟨#[]⟩, .bool false, .bool false, .bool false, .bool false, .int .i64 0, .int .i64 0, .int .i64 0, .string ⟨#[]⟩, .string ⟨#[]⟩, .string ⟨#[]⟩, .string ⟨#[]⟩, .bool false, .bool false, .bool false, .bool false, .int .i64 0, .int .i64 0, .int .i64 0] 54)).drew)).mono ?_); rintro e w9 ⟨cc, rfl, hzz, hb9⟩; have hth9 := there_later ht8 hb9 (by simp)))
                        · have hB9 := bel_alloc (bel_call hBD hb9) (.cells (cC cc).toArray 54)
                          have ho9 := (own_below hOD hb9).alloc (.cells (cC cc).toArray 54)
                          have hcc := chAt_new w9 cc 54 _ rfl
                          generalize w9.alloc (.cells (cC cc).toArray 54) = wX at *
                          generalize w9.heap.size = gX at *
                          clear hFa hFb hBD hOD x0D y0D x1D y2D hkD hcg hb9 hB8 ho8 ht8
                          rcases hzz with rfl | rfl
                          · go_wp2
                            go_roundw
                            case rel => exact ⟨q + 1, acc ++ [], by omega, by go_num, by simpa using ho9, hB9, by simp; omega, htk'⟩
                            case measure => simp [intOf]; omega
                          · go_wp2_with (at_builtin; refine wpList_push_at rfl _ _ 30 rfl W.heap.size 54 i1 (vC ⟨0, noneI k0, noneI k0⟩) 23 200 (by kernel_rfl) hi1 hy0 hy1 hy2 rfl (by decide) _ _ _ rfl ho9 _ _ rfl (by simp) (by simp) (cC_one _) ?e1 ?e2 hB9.size hB9 ?_)
                            case e1 => unfold maxLen; omega
                            case e2 => omega
                            intro v' w10 ho10 hg10 hm10 hB10 hs10
                            clear hg10 hm10 hB9 ho9
                            go_wp2
                            go_roundw
                            case rel => exact ⟨q + 1, acc ++ [cc], by omega, by go_num, by rw [List.length_append, List.flatMap_append]; simpa using ho10, hB10, by simp; omega, htk'⟩
                            case measure => simp [intOf]; omega
                        · have hgx : W.heap.size ≤ w8.heap.size := hB8.size
                          have hown9 := own_below (hO2.out) hb9
                          have hbel9 := bel_call hB2.out hb9
                          have hlt8 := (hO2.out)
                          have hB9 := below_setCells w8.heap.size (cC cc) 0 hbel9 hgx
                          have ho9 := hown9.kept (grown_setCells w8.heap.size (cC cc) 0 w9) (by
                            cases hv : u11.ownBlock with
                            | none => exact .inl rfl
                            | some kk => exact .inr (fun e => by
                                have h1 := (ho8.lt kk hv).2
                                injection e with e
                                omega))
                          have hcc := chAt_setCells cc hth9
                          generalize w9.setCells w8.heap.size 0 (cC cc) = wX at *
                          generalize w8.heap.size = gX at *
                          clear hFa hFb hBD hOD x0D y0D x1D y2D hkD hcg hb9 hB8 ho8 ht8 hO2 hB2 hown9 hbel9 hlt8 hth9
                          rcases hzz with rfl | rfl
                          · go_wp2
                            go_roundw
                            case rel => exact ⟨q + 1, acc ++ [], by omega, by go_num, by simpa using ho9, hB9, by simp; omega, htk'⟩
                            case measure => simp [intOf]; omega
                          · go_wp2_with (at_builtin; refine wpList_push_at rfl _ _ 30 rfl W.heap.size 54 i1 (vC ⟨0, noneI k0, noneI k0⟩) 23 200 (by kernel_rfl) hi1 hy0 hy1 hy2 rfl (by decide) _ _ _ rfl ho9 _ _ rfl (by simp) (by simp) (cC_one _) ?e1 ?e2 hB9.size hB9 ?_)
                            case e1 => unfold maxLen; omega
                            case e2 => omega
                            intro v' w10 ho10 hg10 hm10 hB10 hs10
                            clear hg10 hm10 hB9 ho9
                            go_wp2
                            go_roundw
                            case rel => exact ⟨q + 1, acc ++ [cc], by omega, by go_num, by rw [List.length_append, List.flatMap_append]; simpa using ho10, hB10, by simp; omega, htk'⟩
                            case measure => simp [intOf]; omega
                    | false =>
                      have hneq : Hid (((x.kd == 2) != (y.kd == 1)) = true) := by show _ = _; rw [hx2, hy1]; rfl
                      have hno : Hid (thenL l m = none) := by show _ = _; rw [htk.out, hst.out, join_bad1 hneq.out]
                      go_quiet (fail)
                      have hB8 := below_drews hB7 nq
                      clear x0 x1 x2 y0 y1 y2 hky7 ho7 hB7 hneq
                      generalize w7.drewN nq = w8 at *
                      go_wp2
                      go_ret2
                      exact ⟨none, 0, [], 10, rfl, .inr ⟨hno.out, rfl, rfl⟩, ⟨rfl, .inl ⟨rfl, rfl⟩⟩, bel_call hbelw hB8⟩
                  | false =>
                    cases hy1 : (y.kd == 1) with
                    | true =>
                      have hneq : Hid (((x.kd == 2) != (y.kd == 1)) = true) := by show _ = _; rw [hx2, hy1]; rfl
                      have hno : Hid (thenL l m = none) := by show _ = _; rw [htk.out, hst.out, join_bad1 hneq.out]
                      go_quiet (fail)
                      have hB8 := below_drews hB7 nq
                      clear x0 x1 x2 y0 y1 y2 hky7 ho7 hB7 hneq
                      generalize w7.drewN nq = w8 at *
                      go_wp2
                      go_ret2
                      exact ⟨none, 0, [], 10, rfl, .inr ⟨hno.out, rfl, rfl⟩, ⟨rfl, .inl ⟨rfl, rfl⟩⟩, bel_call hbelw hB8⟩
                    | false =>
                      have hneq : Hid (((x.kd == 2) != (y.kd == 1)) = false) := by show _ = _; rw [hx2, hy1]; rfl
                      cases hkn : decide (x.n = y.o) with
                      | false =>
                        have hno : Hid (thenL l m = none) := by show _ = _; rw [htk.out, hst.out, join_bad2 hkn]
                        go_quiet (fail)
                        have hB8 := below_drews hB7 nq
                        clear x0 x1 x2 y0 y1 y2 hky7 ho7 hB7 hneq hkn
                        generalize w7.drewN nq = w8 at *
                        go_wp2
                        go_ret2
                        exact ⟨none, 0, [], 10, rfl, .inr ⟨hno.out, rfl, rfl⟩, ⟨rfl, .inl ⟨rfl, rfl⟩⟩, bel_call hbelw hB8⟩
                      | true =>
                        obtain ⟨z, hj⟩ := join_good hneq.out hkn
                        have htk' : Hid (thenL l m = (thenKeys l m (keysL (K.drop (q + 1)))).map ((acc ++ z) ++ ·)) := by show _ = _; rw [htk.out, hst.out, hj]
                        have hcg : Hid (∀ W0, Calls Try.prog 44 #[vK k, vI x.o, .bool (x.kd != 1), vI y.n, .bool (y.kd != 2)] W0 (ChgPost z W0)) := fun W0 => by
                          have := change_gen x y z W0 hxr.out hyr.out (hxk.out.trans hyk.out.symm) hj
                          rw [hxk.out] at this
                          exact this
                        have hzl := join_len hj
                        go_quiet (fail)
                        have hB8 := below_drews hB7 nq
                        have ho8 := own_drews ho7 nq
                        have hky8 := kyAt_dN hky7 nq
                        have x0' : (w7.drewN nq).cell? ⟨b1, o1 + ix * 23, none⟩ = some (.int .i64 x.kd) := by go_simp
                        have y0' : (w7.drewN nq).cell? ⟨b2, o2 + iy * 23, none⟩ = some (.int .i64 y.kd) := by go_simp
                        have x1' := itAt_dN x1 nq
                        have y2' := itAt_dN y2 nq
                        clear x0 x1 x2 y0 y1 y2 hky7 ho7 hB7 hneq hkn hj htk hst hx2 hy1
                        generalize w7.drewN nq = w8 at *
                        have hBD := hB8.drew
                        have hOD := ho8.drew
                        have x0D := Lib.hid x0'
                        have y0D := Lib.hid y0'
                        have x1D := Lib.hid x1'
                        have y2D := Lib.hid y2'
                        have hkD := Lib.hid hky8
                        clear x0' y0' x1' y2' hky8
                        go_wp2
                        have hF : kyAt w8 g5 0 = some k ∧ itAt w8 b1 (o1 + ix * 23 + 1) = some x.o ∧ w8.cell? ⟨b1, o1 + ix * 23, none⟩ = some (.int .i64 x.kd) ∧ itAt w8 b2 (o2 + iy * 23 + 12) = some y.n ∧ w8.cell? ⟨b2, o2 + iy * 23, none⟩ = some (.int .i64 y.kd) := ⟨hkD.out, x1D.out, x0D.out, y2D.out, y0D.out⟩
                        have l1 := ky_lt hF.1
                        have l2 := it_lt hF.2.1
                        have l3 := it_lt hF.2.2.2.1
                        have ht8 : (w8.alloc (Obj.cells #[.int .i64 0, .string ⟨#[]⟩, .string ⟨#[]⟩, .string ⟨#[]⟩, .string ⟨#[]⟩, .bool false, .bool false, .bool false, .bool false, .int .i64 0, .int .i64 0, .int .i64 0, .string ⟨#[]⟩, .string ⟨#[]⟩, .string ⟨#[]⟩, .string ⟨#[]⟩, .bool false, .bool false, .bool false, .bool false, .int .i64 0, .int .i64 0, .int .i64 0] 54)).drew.there w8.heap.size 0 23 := by go_simp
                        have hO2 := Lib.hid ((ho8.alloc (Obj.cells #[.int .i64 0, .string ⟨#[]⟩, .string ⟨#[]⟩, .string ⟨#[]⟩, .string ⟨#[]⟩, .bool false, .bool false, .bool false, .bool false, .int .i64 0, .int .i64 0, .int .i64 0, .string ⟨#[]⟩, .string ⟨#[]⟩, .string ⟨#[]⟩, .string ⟨#[]⟩, .bool false, .bool false, .bool false, .bool false, .int .i64 0, .int .i64 0, .int .i64 0] 54)).drew)
                        have hB2 := Lib.hid ((bel_alloc hB8 (Obj.cells #[.int .i64 0, .string ⟨#[]⟩, .string ⟨#[]⟩, .string ⟨#[]⟩, .string ⟨#[]⟩, .bool false, .bool false, .bool false, .bool false, .int .i64 0, .int .i64 0, .int .i64 0, .string ⟨#[]⟩, .string ⟨#[]⟩, .string ⟨#[]⟩, .string ⟨#[]⟩, .bool false, .bool false, .bool false, .bool false, .int .i64 0, .int .i64 0, .int .i64 0] 54)).drew)
                        have hFa := Lib.hid (five_later hF (Below.refl w8.heap.size w8).drew)
                        have hFb := Lib.hid (five_later hF (bel_alloc (Below.refl w8.heap.size w8) (Obj.cells #[.int .i64 0, .string ⟨#[]⟩, .string ⟨#[]⟩, .string ⟨#[]⟩, .string ⟨#[]⟩, .bool false, .bool false, .bool false, .bool false, .int .i64 0, .int .i64 0, .int .i64 0, .string ⟨#[]⟩, .string ⟨#[]⟩, .string ⟨#[]⟩, .string ⟨#[]⟩, .bool false, .bool false, .bool false, .bool false, .int .i64 0, .int .i64 0, .int .i64 0] 54)).drew)
                        clear hF
                        go_region_held3 (fun w' => kyAt w' g5 0 = some k ∧ itAt w' b1 (o1 + ix * 23 + 1) = some x.o ∧ w'.cell? ⟨b1, o1 + ix * 23, none⟩ = some (.int .i64 x.kd) ∧ itAt w' b2 (o2 + iy * 23 + 12) = some y.n ∧ w'.cell? ⟨b2, o2 + iy * 23, none⟩ = some (.int .i64 y.kd)) (first | with_reducible exact hFa.out | with_reducible exact hFb.out | with_reducible exact five_later hFa.out hb9 | with_reducible exact five_later hFb.out hb9 | with_reducible exact five_later (five_later hFa.out hb9) (bel_alloc (Below.refl _ _) _) | with_reducible exact five_far (five_later hFb.out hb9) l1 l2 l3) (first | (go_at_call 44; (with_reducible refine (hcg.out w8.drew).mono ?_); rintro e w9 ⟨cc, rfl, hzz, hb9⟩) | (go_at_call 44; (with_reducible refine (hcg.out ((w8.alloc (Obj.cells #[.int .i64 0, .string ⟨#[]⟩, .string ⟨#[]⟩, .string ⟨#[]⟩, .string ⟨#[]⟩, .bool false, .bool false, .bool false, .bool false, .int .i64 0, .int .i64 0, .int .i64 0, .string ⟨#[]⟩, .string ⟨#[]⟩, .string ⟨#[]⟩, .string ⟨#[]⟩, .bool false, .bool false, .bool false, .bool false, .int .i64 0, .int .i64 0, .int .i64 0] 54)).drew)).mono ?_); rintro e w9 ⟨cc, rfl, hzz, hb9⟩; have hth9 := there_later ht8 hb9 (by simp)))
                        · have hB9 := bel_alloc (bel_call hBD hb9) (.cells (cC cc).toArray 54)
                          have ho9 := (own_below hOD hb9).alloc (.cells (cC cc).toArray 54)
                          have hcc := chAt_new w9 cc 54 _ rfl
                          generalize w9.alloc (.cells (cC cc).toArray 54) = wX at *
                          generalize w9.heap.size = gX at *
                          clear hFa hFb hBD hOD x0D y0D x1D y2D hkD hcg hb9 hB8 ho8 ht8
                          rcases hzz with rfl | rfl
                          · go_wp2
                            go_roundw
                            case rel => exact ⟨q + 1, acc ++ [], by omega, by go_num, by simpa using ho9, hB9, by simp; omega, htk'⟩
                            case measure => simp [intOf]; omega
                          · go_wp2_with (at_builtin; refine wpList_push_at rfl _ _ 30 rfl W.heap.size 54 i1 (vC ⟨0, noneI k0, noneI k0⟩) 23 200 (by kernel_rfl) hi1 hy0 hy1 hy2 rfl (by decide) _ _ _ rfl ho9 _ _ rfl (by simp) (by simp) (cC_one _) ?e1 ?e2 hB9.size hB9 ?_)
                            case e1 => unfold maxLen; omega
                            case e2 => omega
                            intro v' w10 ho10 hg10 hm10 hB10 hs10
                            clear hg10 hm10 hB9 ho9
                            go_wp2
                            go_roundw
                            case rel => exact ⟨q + 1, acc ++ [cc], by omega, by go_num, by rw [List.length_append, List.flatMap_append]; simpa using ho10, hB10, by simp; omega, htk'⟩
                            case measure => simp [intOf]; omega
                        · have hgx : W.heap.size ≤ w8.heap.size := hB8.size
                          have hown9 := own_below (hO2.out) hb9
                          have hbel9 := bel_call hB2.out hb9
                          have hlt8 := (hO2.out)
                          have hB9 := below_setCells w8.heap.size (cC cc) 0 hbel9 hgx
                          have ho9 := hown9.kept (grown_setCells w8.heap.size (cC cc) 0 w9) (by
                            cases hv : u11.ownBlock with
                            | none => exact .inl rfl
                            | some kk => exact .inr (fun e => by
                                have h1 := (ho8.lt kk hv).2
                                injection e with e
                                omega))
                          have hcc := chAt_setCells cc hth9
                          generalize w9.setCells w8.heap.size 0 (cC cc) = wX at *
                          generalize w8.heap.size = gX at *
                          clear hFa hFb hBD hOD x0D y0D x1D y2D hkD hcg hb9 hB8 ho8 ht8 hO2 hB2 hown9 hbel9 hlt8 hth9
                          rcases hzz with rfl | rfl
                          · go_wp2
                            go_roundw
                            case rel => exact ⟨q + 1, acc ++ [], by omega, by go_num, by simpa using ho9, hB9, by simp; omega, htk'⟩
                            case measure => simp [intOf]; omega
                          · go_wp2_with (at_builtin; refine wpList_push_at rfl _ _ 30 rfl W.heap.size 54 i1 (vC ⟨0, noneI k0, noneI k0⟩) 23 200 (by kernel_rfl) hi1 hy0 hy1 hy2 rfl (by decide) _ _ _ rfl ho9 _ _ rfl (by simp) (by simp) (cC_one _) ?e1 ?e2 hB9.size hB9 ?_)
                            case e1 => unfold maxLen; omega
                            case e2 => omega
                            intro v' w10 ho10 hg10 hm10 hB10 hs10
                            clear hg10 hm10 hB9 ho9
                            go_wp2
                            go_roundw
                            case rel => exact ⟨q + 1, acc ++ [cc], by omega, by go_num, by rw [List.length_append, List.flatMap_append]; simpa using ho10, hB10, by simp; omega, htk'⟩
                            case measure => simp [intOf]; omega
                · have hst : Hid (stepK (atC l k) (atC m k) = some [x]) := by show _ = _; rw [hax.out, hay]; rfl
                  have htk' : Hid (thenL l m = (thenKeys l m (keysL (K.drop (q + 1)))).map ((acc ++ [x]) ++ ·)) := by show _ = _; rw [htk.out, hst.out]
                  clear htk hay
                  go_wp2_with (at_builtin; refine wpList_push_at rfl _ _ 30 rfl W.heap.size 54 i1 (vC ⟨0, noneI k0, noneI k0⟩) 23 200 (by kernel_rfl) hi1 hy0 hy1 hy2 rfl (by decide) _ _ _ rfl ho7 _ _ rfl (by simp) (by simp) (cC_one _) ?e1 ?e2 hB7.size hB7 ?_)
                  case e1 => unfold maxLen; omega
                  case e2 => omega
                  intro v' w9 ho9 hg9 hm9 hB9 hs9
                  clear hg9 hm9
                  go_wp2
                  go_roundw
                  case rel => exact ⟨q + 1, acc ++ [x], by omega, by go_num, by rw [List.length_append, List.flatMap_append]; simpa using ho9, hB9, by simp; omega, htk'⟩
                  case measure => simp [intOf]; omega
              · replace hax := Lib.hid hax
                go_wp2_with fail
                refine (at_any _ _ _ m k _ hr2).mono ?_
                rintro e w7 ⟨hpy, hb7⟩
                have hB7 := bel_call hB6 hb7
                have hr2' := hr2.below hb7
                have ho7 := own_below ho6 hb7
                clear ho6 hB6 hky6 hr1 hr2 hb7
                rcases hpy with ⟨iy, y, hiy, rfl, hay⟩ | ⟨rfl, hay⟩
                · have hiy1 : iy < m.length := (List.getElem?_eq_some_iff.1 hiy).1
                  have hye : m[iy] = y := (List.getElem?_eq_some_iff.1 hiy).2
                  have u0 : (0 : Int) ≤ (iy : Int) := by omega
                  have u1 : (iy : Int) < m.length := by omega
                  have u2 : decide ((iy : Int) < 0) = false := decide_eq_false (by omega)
                  obtain ⟨b2, o2, rfl, _, hY⟩ := hr2'.changes hiy1
                  have hcy := hY iy hiy1
                  rw [hye] at hcy
                  clear hY
                  replace hiy := Lib.hid hiy
                  replace hye := Lib.hid hye
                  have hst : Hid (stepK (atC l k) (atC m k) = some [y]) := by show _ = _; rw [hax.out, hay]; rfl
                  have htk' : Hid (thenL l m = (thenKeys l m (keysL (K.drop (q + 1)))).map ((acc ++ [y]) ++ ·)) := by show _ = _; rw [htk.out, hst.out]
                  clear htk hay
                  go_wp2_with (at_builtin; refine wpList_push_at rfl _ _ 30 rfl W.heap.size 54 i1 (vC ⟨0, noneI k0, noneI k0⟩) 23 200 (by kernel_rfl) hi1 hy0 hy1 hy2 rfl (by decide) _ _ _ rfl ho7 _ _ rfl (by simp) (by simp) (cC_one _) ?e1 ?e2 hB7.size hB7 ?_)
                  case e1 => unfold maxLen; omega
                  case e2 => omega
                  intro v' w9 ho9 hg9 hm9 hB9 hs9
                  clear hg9 hm9
                  go_wp2
                  go_roundw
                  case rel => exact ⟨q + 1, acc ++ [y], by omega, by go_num, by rw [List.length_append, List.flatMap_append]; simpa using ho9, hB9, by simp; omega, htk'⟩
                  case measure => simp [intOf]; omega
                · rcases hme.out with h | h
                  · exact absurd hax.out h
                  · exact absurd hay h
            · obtain rfl : q = K.length := by omega
              have hz : Hid (thenL l m = some acc) := by show _ = _; rw [hch.out, List.drop_length]; simp [keysL, thenKeys]
              obtain ⟨A5, c5, rfl⟩ := own_form hown
              go_wp2
              go_ret2
              exact ⟨A5, c5, acc, 0, rfl, .inl ⟨hz.out, rfl⟩, own_low hown hbelw.size, bel_call hbelw hbel⟩
end Go.Proofs.Ytdefpphfbpkeaaa
