/-
  The document's changes of two lists of items.
-/
import Derived.Test.YtdefpphfbpkeaaaDiff5
namespace Go.Proofs.Ytdefpphfbpkeaaa
open Go.RowKit
set_option linter.unusedVariables false

theorem fm_take {α β : Type} (f : α → Option β) (l : List α) (j : Nat) (h : j < l.length) : (l.take (j + 1)).filterMap f = (l.take j).filterMap f ++ (f l[j]).toList := by
  rw [List.take_succ_eq_append_getElem h, List.filterMap_append]
  cases hf : f l[j] <;> simp [hf]
theorem fm_len {α β : Type} (f : α → Option β) (l : List α) : (l.filterMap f).length ≤ l.length := List.length_filterMap_le _ _

set_option maxHeartbeats 4000000 in
theorem refOf47_any (A1 A2 : Option Addr) (n1 c1 n2 c2 : Nat) (a b : List It) (w : World) (h1 : Rd w 11 (.slice A1 n1 c1) n1 (a.flatMap cI)) (h2 : Rd w 11 (.slice A2 n2 c2) n2 (b.flatMap cI)) (hn1 : n1 ≤ 20000) (hn2 : n2 ≤ 20000) :
    Calls Try.prog 17 #[.slice A1 n1 c1, .slice A2 n2 c2] w fun e w' => ∃ A' c', e = .returned (.slice A' (refOfL a b).length c') ∧ w'.ownsRow w.heap.size 54 23 (.slice A' (refOfL a b).length c') (refOfL a b).length ((refOfL a b).flatMap cC) ∧ Below w.heap.size w w' := by
  obtain ⟨i0, hi, hz0, hz1, hz2⟩ := info_parts Try.infoI
  obtain ⟨i1, hi1, hy0, hy1, hy2⟩ := info_parts Try.infoD
  have hl1 := h1.rows (sz := 11) (f := cI) (fun q => rfl) (by decide)
  have hl2 := h2.rows (sz := 11) (f := cI) (fun q => rfl) (by decide)
  have hcap1 := h1.cap
  have hcap2 := h2.cap
  unfold maxLen at hcap1 hcap2
  obtain ⟨hca1, hcb1⟩ := hcap1
  obtain ⟨hca2, hcb2⟩ := hcap2
  subst hl1 hl2
  go_enter Try.func17, Try.ntmps17
  have hown0 : (w.alloc (Obj.cells #[] 51)).ownsRow w.heap.size 51 11 (.slice (some ⟨w.heap.size, 0, none⟩) 0 0) 0 (#[] : Array Value).toList := World.ownsRow_lit w #[] 0 (Nat.le_refl _) (by unfold maxLen; omega) rfl
  have hB0 := bel_alloc (Below.refl w.heap.size w) (Obj.cells #[] 51)
  have hR0 := h1.below hB0
  have hs0 := hB0.size
  go_wp2_with (at_builtin; refine wpList_more _ rfl _ _ 22 rfl w.heap.size 51 i0 (vI (noneI k0)) 11 96 Try.underlying22 hi hz0 hz1 hz2 rfl (by decide) _ _ _ rfl hown0 _ _ _ _ rfl hR0 (flat_one a) ?d1 ?d2 hs0 hB0 ?_)
  case d1 => unfold maxLen; omega
  case d2 => omega
  intro v1 w1 hown1 hg1 hm1 hbel1 hsz1
  have hR1 := h2.below hbel1
  clear hown0 hR0 hg1 hm1 hB0 hs0
  go_wp2_with (at_builtin; refine wpList_more _ rfl _ _ 22 rfl w.heap.size 51 i0 (vI (noneI k0)) 11 96 Try.underlying22 hi hz0 hz1 hz2 rfl (by decide) _ _ _ rfl hown1 _ _ _ _ rfl hR1 (flat_one b) ?d3 ?d4 hsz1 hbel1 ?_)
  case d3 => unfold maxLen; omega
  case d4 => omega
  intro v2 w2 hown2 hg2 hm2 hbel2 hsz2
  clear hown1 hR1 hg2 hm2 hbel1 hsz1
  obtain ⟨A3, c3, rfl⟩ := own_form hown2
  have hR2 := Rd.of_own hown2
  replace hR2 : Rd w2 11 (.slice A3 (a.length + b.length) c3) (a.length + b.length) ((a ++ b).flatMap cI) := by rw [List.flatMap_append]; exact hR2
  clear hown2
  go_wp2_with fail
  refine (byKeys_any _ _ _ (a ++ b) _ hR2 (by omega)).mono ?_
  rintro e w3 ⟨A4, c4, rfl, hown4, hb3⟩
  have hbel3 := bel_call hbel2 hb3
  have hR4 := Rd.of_own hown4
  have hkl := byKeys_len (a ++ b)
  rw [List.length_append] at hkl
  have hdef : Hid (refOfL a b = (byKeysL (a ++ b)).filterMap fun z => chg z.k (findI a z.k) (findI b z.k)) := rfl
  generalize byKeysL (a ++ b) = L at *
  clear hown4 hb3 hbel2 hR2 hsz2
  go_wp2
  have hownD : (w3.alloc (Obj.cells #[] 54)).ownsRow w3.heap.size 54 23 (.slice (some ⟨w3.heap.size, 0, none⟩) 0 0) 0 (#[] : Array Value).toList := World.ownsRow_lit w3 #[] 0 (Nat.le_refl _) (by unfold maxLen; omega) rfl
  go_loopw [6, 7] (fun v i wr => ∃ j : Nat, j ≤ L.length ∧ i = .int .i64 j ∧ wr.ownsRow w3.heap.size 54 23 v ((L.take j).filterMap fun z => chg z.k (findI a z.k) (findI b z.k)).length (((L.take j).filterMap fun z => chg z.k (findI a z.k) (findI b z.k)).flatMap cC) ∧ Below w3.heap.size w3 wr) (fun _ i _ => L.length - (intOf i).toNat)
  case atStart => exact ⟨0, Nat.zero_le _, rfl, hownD, bel_alloc (Below.refl _ _) _⟩
  case round =>
    obtain ⟨j, hj, rfl, hown, hbel⟩ := hrel
    clear hownD
    by_cases hlt : j < L.length
    · have hji : (j : Int) < L.length := by omega
      have hRr := hR4.below hbel
      obtain ⟨bb, off, rfl, hb, hx⟩ := hRr.items hlt
      have hk0 := (hx j hlt).2
      have hft := fm_take (fun z : It => chg z.k (findI a z.k) (findI b z.k)) L j hlt
      have hfl := fm_len (fun z : It => chg z.k (findI a z.k) (findI b z.k)) (L.take j)
      rw [List.length_take] at hfl
      generalize hcur : (L.take j).filterMap (fun z : It => chg z.k (findI a z.k) (findI b z.k)) = cur at *
      clear hx hb hcur
      have hq1 := (h1.below hbel3).below hbel
      have hq2 := (h2.below hbel3).below hbel
      go_wp2_with fail
      obtain ⟨K, hK⟩ : ∃ K, K = L[j].k := ⟨_, rfl⟩
      rw [← hK] at hft hk0 ⊢
      replace hK := Lib.hid hK
      have hB5 := bel_alloc hbel (.cells (cK K).toArray 47)
      have hky5 := kyAt_new wr K 47 _ rfl
      have hq1' := hq1.alloc (.cells (cK K).toArray 47)
      have hq2' := hq2.alloc (.cells (cK K).toArray 47)
      have ho5 := hown.alloc (.cells (cK K).toArray 47)
      have hgw : wr.heap.size < (wr.alloc (.cells (cK K).toArray 47)).heap.size := by simp
      generalize wr.alloc (.cells (cK K).toArray 47) = w5 at *
      generalize wr.heap.size = g5 at *
      clear hown hq1 hq2 hk0 hRr hbel
      refine (refFindI_any _ _ _ a K _ hq1').mono ?_
      rintro e w6 ⟨rfl, hb6⟩
      have hB6 := bel_call hB5 hb6
      have hky6 := kyAt_later hky5 hb6
      have hr2 := hq2'.below hb6
      have ho6 := own_below ho5 hb6
      have hl6 := ky_lt hky6
      clear ho5 hB5 hky5 hq1' hq2' hb6
      go_wp2_with fail
      have hB7 := bel_alloc hB6 (.cells (cI (itOr (findI a K))).toArray 51)
      have hit7 := itAt_new w6 (itOr (findI a K)) 51 _ rfl
      have hky7 := kyAt_later hky6 (bel_alloc (Below.refl _ _) (.cells (cI (itOr (findI a K))).toArray 51))
      have hr7 := hr2.alloc (.cells (cI (itOr (findI a K))).toArray 51)
      have ho7 := ho6.alloc (.cells (cI (itOr (findI a K))).toArray 51)
      generalize w6.alloc (.cells (cI (itOr (findI a K))).toArray 51) = w7 at *
      generalize w6.heap.size = g6 at *
      clear hr2 ho6 hB6 hky6
      refine (refFindI_any _ _ _ b K _ hr7).mono ?_
      rintro e w8 ⟨rfl, hb8⟩
      have hB8 := bel_call hB7 hb8
      have hky8 := kyAt_later hky7 hb8
      have hit8 := itAt_later hit7 hb8
      have ho8 := own_below ho7 hb8
      have hl8 := ky_lt hky8
      have hm8 := it_lt hit8
      clear hr7 ho7 hB7 hky7 hit7 hb8
      go_wp2_with fail
      have hB9 := bel_alloc hB8 (.cells (cI (itOr (findI b K))).toArray 51)
      have ho9 := ho8.alloc (.cells (cI (itOr (findI b K))).toArray 51)
      generalize w8.alloc (.cells (cI (itOr (findI b K))).toArray 51) = w9 at *
      clear ho8 hB8 hky8 hit8
      refine (change_any K (findI a K) (findI b K) _).mono ?_
      rintro e w10 ⟨x, rfl, hc, hb10⟩
      have hB10 := bel_call hB9 hb10
      have ho10 := own_below ho9 hb10
      have hsz10 := hB10.size
      clear hB9 ho9 hb10
      cases hch : chg K (findI a K) (findI b K) with
      | none =>
        rw [hch] at hft
        have hft' := Lib.hid hft
        have ho11 := ho10.alloc (.cells (cC x).toArray 54)
        have hB11 := bel_alloc hB10 (.cells (cC x).toArray 54)
        clear hft hc hch ho10 hB10
        go_wp2
        go_roundw
        case rel => exact ⟨j + 1, by omega, by go_num, by rw [hft'.out, Option.toList_none, List.append_nil]; exact ho11, hB11⟩
        case measure => simp [intOf]; omega
      | some y =>
        obtain rfl := hc y hch
        rw [hch] at hft
        have hft' := Lib.hid hft
        have ho11 := ho10.alloc (.cells (cC x).toArray 54)
        have hB11 := bel_alloc hB10 (.cells (cC x).toArray 54)
        have hsz11 := hB11.size
        clear hft hc hch
        go_wp2_with (at_builtin; refine wpList_push_at rfl _ _ 30 rfl w3.heap.size 54 i1 (vC ⟨0, noneI k0, noneI k0⟩) 23 200 (by kernel_rfl) hi1 hy0 hy1 hy2 rfl (by decide) _ _ _ rfl ho11 _ _ rfl (by simp) (by simp) (cC_one _) ?c1 ?c2 hsz11 hB11 ?_)
        case c1 => unfold maxLen; omega
        case c2 => omega
        intro v' w12 ho12 hg12 hm12 hB12 hsz12
        clear ho10 hB10 ho11 hB11 hg12 hm12
        go_wp2
        go_roundw
        case rel => exact ⟨j + 1, by omega, by go_num, by rw [hft'.out, List.length_append, List.flatMap_append]; exact ho12, hB12⟩
        case measure => simp [intOf]; omega
    · obtain rfl : j = L.length := by omega
      rw [List.take_length, ← hdef.out] at hown
      go_wp2
      go_ret
      obtain ⟨A5, c5, rfl⟩ := own_form hown
      exact ⟨A5, c5, rfl, own_low hown hbel3.size, bel_call hbel3 hbel⟩
end Go.Proofs.Ytdefpphfbpkeaaa
