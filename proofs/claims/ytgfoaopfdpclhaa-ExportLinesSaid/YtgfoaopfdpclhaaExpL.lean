/-
  The law ExportLines.
-/
import Derived.Test.YtgfoaopfdpclhaaExpA
import Derived.Test.YtgfoaopfdpclhaaExp8
import Derived.Test.YtgfoaopfdpclhaaItemOpen
import Derived.Test.YtgfoaopfdpclhaaLex
import Derived.Deep.RegionHeld3
namespace Go.Proofs.Ytgfoaopfdpclhaa
open Go.RowKit Go.Deep Go.WideShapes
set_option linter.unusedVariables false

section
variable {H : Type} {enc : TypeId × Value → H} {w : World} {base : Nat} {spare : Nat → Bool} {held : Bool}
set_option maxRecDepth 100000 in
theorem open_item {base0 : Nat} {v : Value} {d : DataW H} {p : List MemPlace} (hval : Value.okWide Try.prog w .any base0 27 v) (h : DataW.Trod enc Try.prog w 0 (fun _ => true) true 27 v d p) :
    ∃ x : It, v = .agg (cI x).toArray ∧ okI x := by
  obtain ⟨cs, rfl, hcs⟩ := okWide_struct Try.unnI hval
  obtain ⟨fuel, hf⟩ := h
  obtain ⟨q, e, hq⟩ := item_cells hf
  have e2 : cs.toList = cI q := by simpa [Value.cells] using e
  have e3 : cs = (cI q).toArray := by rw [← Array.toList_inj]; simpa using e2
  subst e3
  exact ⟨q, rfl, hq⟩
end
theorem rd_oneI (w : World) (x : It) (t : TypeId) (g : Nat) (hg : w.heap.size = g) : Rd (w.alloc (.cells (cI x).toArray t)) 11 (.slice (some ⟨g, 0, none⟩) 1 1) 1 ([x].flatMap cI) := by
  subst hg
  refine ⟨by simp, _, _, rfl, Nat.le_refl _, by simp [maxLen], .inr ⟨_, _, rfl, by simp, fun j hj => ?_⟩⟩
  rw [Nat.zero_add, cell_of_row _ w.heap.size j _ t (0, 0) (heap_alloc_new w _)]
  simp
theorem i64_wf {n : Int} (h : (Lit.int .i64 n).wf = true) : -9223372036854775808 ≤ n ∧ n ≤ 9223372036854775807 := by
  simp [Lit.wf, IntKind.min, IntKind.max, IntKind.signed, IntKind.bits] at h
  exact ⟨by omega, by omega⟩
theorem plain_le {s t : List UInt8} {n : Int} (h : plainB s n t = true) : (s.length : Int) ≤ n := by
  unfold plainB at h
  simp only [Bool.and_eq_true, decide_eq_true_eq] at h
  exact h.1
theorem line_len {x : It} {t : List UInt8} (h : lineO x = some t) : t.length ≤ x.k.d.length + 1700 := by
  obtain ⟨h1, h2, h3, h4, rfl⟩ := lineO_parts h
  have ht := right_time h1
  unfold rightI at h1
  simp only [Bool.and_eq_true, decide_eq_true_eq] at h1
  have l1 := plain_le h1.2.1
  have l2 := plain_le h1.2.2.1
  have l3 := h1.2.2.2.2.2.2.1
  have le : (expL x).length ≤ 21 := by
    unfold expL
    split
    · unfold timeR inB at ht
      simp only [Bool.and_eq_true, decide_eq_true_eq] at ht
      exact textL_len46 _ (by omega) (by omega)
    · decide
  have a : ∀ b, (truthL b).length ≤ 5 := by intro b; cases b <;> decide
  have hd : (headL x).length ≤ 11 := by
    unfold headL
    split <;> split <;> decide
  have a1 := a (!x.c.ho)
  have a2 := a x.c.se
  show (Lib.join [headL x ++ x.k.d, truthL (!x.c.ho), x.k.p, truthL x.c.se, expL x, x.k.n, x.c.v] [9]).length ≤ _
  unfold Lib.join
  rw [inter_cons, inter_cons, inter_cons, inter_cons, inter_cons, inter_cons]
  simp [List.intercalate]
  omega
theorem aged_one (x : It) (t : Int) (w : World) (g : Nat) (h : Rd w 11 (.slice (some ⟨g, 0, none⟩) 1 1) 1 ([x].flatMap cI)) :
    Calls Try.prog 12 #[.slice (some ⟨g, 0, none⟩) 1 1, .int .i64 t] w fun e w' => ∃ b o c, e = .returned (.slice (some ⟨b, o, none⟩) 1 c) ∧ itAt w' b o = some (agedX x t) ∧ Below w.heap.size w w' := by
  refine (aged_any (some ⟨g, 0, none⟩) 1 [x] t w h (by simp)).mono ?_
  rintro e w' ⟨A, c, rfl, ho, hb⟩
  obtain ⟨b, o, rfl, hb', hx⟩ := (Rd.of_own ho).items (k := 0) (by simp)
  have := (hx 0 (by simp)).1
  simp only [Nat.zero_mul, Nat.add_zero] at this
  exact ⟨b, o, c, rfl, this, hb⟩
theorem wpAnyH_more {P : Program} {ops : Array Oper} {Q : Exit → Act → World → Prop} {md : Region.Mode} {S S' : World → Prop} (hS : ∀ w, S' w → S w) :
    ∀ (fuel : Nat) (listed : Array Bool) (a : Act) (w : World), wpAnyH P md ops Q S' fuel listed a w → wpAnyH P md ops Q S fuel listed a w
  | 0, _, _, _, h => h
  | fuel + 1, _, _, _, h => ⟨h.1, fun i hi => wpOp_mono (fun a' w' h' => ⟨hS _ h'.1, wpAnyH_more hS fuel _ a' w' h'.2⟩) (h.2 i hi)⟩
theorem ltI_md {x : It} (h : ltI x = true) : MdI x := by
  unfold ltI at h
  simp only [Bool.and_eq_true, decide_eq_true_eq] at h
  exact ⟨by omega, by omega, by omega, by omega⟩

set_option maxRecDepth 100000 in
set_option maxHeartbeats 8000000 in
theorem exportLines (x : It) (now : Int) (w : World) (hx : okI x) (hn : (Lit.int .i64 now).wf = true) :
    Calls Try.prog 3 #[.agg (cI x).toArray, .int .i64 now] w fun e w' => e = .returned (.bool true) ∧ Below w.heap.size w w' := by
  have hn1 := (i64_wf hn).1
  have hn2 := (i64_wf hn).2
  clear hx hn
  have hB0 := bel_alloc (bel_alloc (Below.refl w.heap.size w) (.cells (cI x).toArray 27)) (.cells (cI x).toArray 27)
  have hI0 := itAt_later (itAt_new w x 27 w.heap.size rfl) (bel_alloc (Below.refl _ _) (.cells (cI x).toArray 27))
  have hR0 := rd_oneI (w.alloc (.cells (cI x).toArray 27)) x 27 (w.heap.size + 1) (by simp)
  go_enter Try.func3, Try.ntmps3
  go_wp2_with fail
  show Calls _ _ _ ((w.alloc (.cells (cI x).toArray 27)).alloc (.cells (cI x).toArray 27)) _
  generalize ((w.alloc (.cells (cI x).toArray 27)).alloc (.cells (cI x).toArray 27)) = W at *
  refine (light_any _ 1 [x] W (by simp [maxLen]) hR0).mono ?_
  rintro e w1 ⟨rfl, hb1⟩
  have hB1 := bel_call hB0 hb1
  have hI1 := itAt_later hI0 hb1
  clear hB0 hI0 hR0 hb1
  cases hla : ltL [x] with
  | false =>
    clear hI1
    go_wp2_with (go_at_call 8; refine (awake_any _).mono ?_; rintro e w99 ⟨rfl, hb99⟩)
    go_ret
    exact ⟨rfl, bel_call hB1 hb99⟩
  | true =>
    have hlt : ltI x = true := by unfold ltL at hla; simpa using hla
    have hM := ltI_md hlt
    have hd2 : x.k.d.length ≤ 2000 := by
      unfold ltI at hlt
      simp only [Bool.and_eq_true, decide_eq_true_eq] at hlt
      omega
    clear hla hlt
    go_wp2_with fail
    refine (line_any x _ hM).mono ?_
    rintro e w2 ⟨rfl, hb2⟩
    have hB2 := bel_call hB1 hb2
    have hI2 := itAt_later hI1 hb2
    clear hB1 hI1 hb2
    go_wp2_with fail
    refine (refLine_any x _ hM).mono ?_
    rintro e w3 ⟨rfl, hb3⟩
    have hB3 := bel_call hB2 hb3
    have hI3 := itAt_later hI2 hb3
    clear hB2 hI2 hb3
    unfold refLineV
    cases hl : lineO x with
    | none =>
      rw [(lineS_none hl).1, (lineS_none hl).2]
      clear hl
      go_wp2_with (go_at_call 8; refine (awake_any _).mono ?_; rintro e w99 ⟨rfl, hb99⟩)
      go_ret
      exact ⟨rfl, bel_call hB3 hb99⟩
    | some t =>
      rw [(lineS_some hl).1, (lineS_some hl).2]
      have htl := line_len hl
      have hP := Lib.hid (parse_line hl now)
      clear hl
      go_wp2_with fail
      refine (parse_any t now _ (by omega) hn1 hn2).mono ?_
      rintro e w4 ⟨rfl, hb4⟩
      rw [(parse_is hP.out).1, (parse_is hP.out).2]
      have hB4 := bel_call hB3 hb4
      have hI4 := itAt_later hI3 hb4
      clear hB3 hI3 hb4
      have hY5 := itAt_new w4 (agedX x (clampT now)) 27 w4.heap.size rfl
      have hI5 := itAt_later hI4 (bel_alloc (Below.refl _ _) (.cells (cI (agedX x (clampT now))).toArray 27))
      have hB5 := bel_alloc hB4 (.cells (cI (agedX x (clampT now))).toArray 27)
      clear hB4 hI4
      go_upto_region 8 with (fail)
      generalize w4.alloc (.cells (cI (agedX x (clampT now))).toArray 27) = w5 at *
      generalize hy : agedX x (clampT now) = y at *
      replace hy := Lib.hid hy
      have hR6 : Rd (w5.alloc (.cells (cI x).toArray 27)).drew 11 (.slice (some ⟨w5.heap.size, 0, none⟩) 1 1) 1 ([x].flatMap cI) := (rd_oneI w5 x 27 w5.heap.size rfl).below (Below.refl _ _).drew
      have hI6 : itAt (w5.alloc (.cells (cI x).toArray 27)).drew w.heap.size 0 = some x := it_drew (itAt_later hI5 (bel_alloc (Below.refl _ _) _))
      have hY6 : itAt (w5.alloc (.cells (cI x).toArray 27)).drew w4.heap.size 0 = some y := it_drew (itAt_later hY5 (bel_alloc (Below.refl _ _) _))
      have hB6 := Lib.hid (bel_alloc hB5 (.cells (cI x).toArray 27)).drew
      have hI7 := it_drew hI5
      have hY7 := it_drew hY5
      clear hB5
      have hyq : decide (y = y) = true := decide_eq_true rfl
      refine wp_region_held_drew (S := fun w' => itAt w' w.heap.size 0 = some x ∧ itAt w' w4.heap.size 0 = some y) (by kernel_rfl) ⟨hI7, hY7⟩ (fun hHeld => ?_)
      change wpAnyH _ _ _ _ _ 27 #[false, false, false, false, false, false, false, false, false, false, false, false, false, false, false, false, false, false, false, false, false, false, false, false, false, false, false] _ _
      refine wpAnyH_take (i := 0) (v := ?_) ((List.getElem?_toArray ..).trans rfl) (by kernel_rfl) (by kernel_rfl) (by kernel_rfl) (fun _ _ _ h => h) (Or.inl ⟨by rfl, ?_⟩) (by assumption) ?_
      rotate_left 1
      · (intro w' hSw; (try dsimp only at hSw); go_simp; try with_reducible rfl)
      try simp only [Act.put, List.setIfInBounds_toArray, List.set_cons_zero, List.set_cons_succ]
      refine wpAnyH_take (i := 1) (v := ?_) ((List.getElem?_toArray ..).trans rfl) (by kernel_rfl) (by kernel_rfl) (by kernel_rfl) (fun _ _ _ h => h) (Or.inl ⟨by rfl, ?_⟩) (by assumption) ?_
      rotate_left 1
      · (intro w' hSw; (try dsimp only at hSw); go_simp; try with_reducible rfl)
      try simp only [Act.put, List.setIfInBounds_toArray, List.set_cons_zero, List.set_cons_succ]
      refine wpAnyH_take (i := 2) (v := ?_) ((List.getElem?_toArray ..).trans rfl) (by kernel_rfl) (by kernel_rfl) (by kernel_rfl) (fun _ _ _ h => h) (Or.inl ⟨by rfl, ?_⟩) (by assumption) ?_
      rotate_left 1
      · (intro w' hSw; (try dsimp only at hSw); go_simp; try with_reducible rfl)
      try simp only [Act.put, List.setIfInBounds_toArray, List.set_cons_zero, List.set_cons_succ]
      refine wpAnyH_take (i := 3) (v := ?_) ((List.getElem?_toArray ..).trans rfl) (by kernel_rfl) (by kernel_rfl) (by kernel_rfl) (fun _ _ _ h => h) (Or.inl ⟨by rfl, ?_⟩) (by assumption) ?_
      rotate_left 1
      · (intro w' hSw; (try dsimp only at hSw); go_simp; try with_reducible rfl)
      try simp only [Act.put, List.setIfInBounds_toArray, List.set_cons_zero, List.set_cons_succ]
      refine wpAnyH_take (i := 4) (v := ?_) ((List.getElem?_toArray ..).trans rfl) (by kernel_rfl) (by kernel_rfl) (by kernel_rfl) (fun _ _ _ h => h) (Or.inl ⟨by rfl, ?_⟩) (by assumption) ?_
      rotate_left 1
      · (intro w' hSw; (try dsimp only at hSw); go_simp; try with_reducible rfl)
      try simp only [Act.put, List.setIfInBounds_toArray, List.set_cons_zero, List.set_cons_succ]
      refine wpAnyH_take (i := 5) (v := ?_) ((List.getElem?_toArray ..).trans rfl) (by kernel_rfl) (by kernel_rfl) (by kernel_rfl) (fun _ _ _ h => h) (Or.inl ⟨by rfl, ?_⟩) (by assumption) ?_
      rotate_left 1
      · (intro w' hSw; (try dsimp only at hSw); go_simp; try with_reducible rfl)
      try simp only [Act.put, List.setIfInBounds_toArray, List.set_cons_zero, List.set_cons_succ]
      refine wpAnyH_take (i := 6) (v := ?_) ((List.getElem?_toArray ..).trans rfl) (by kernel_rfl) (by kernel_rfl) (by kernel_rfl) (fun _ _ _ h => h) (Or.inl ⟨by rfl, ?_⟩) (by assumption) ?_
      rotate_left 1
      · (intro w' hSw; (try dsimp only at hSw); go_simp; try with_reducible rfl)
      try simp only [Act.put, List.setIfInBounds_toArray, List.set_cons_zero, List.set_cons_succ]
      refine wpAnyH_take (i := 7) (v := ?_) ((List.getElem?_toArray ..).trans rfl) (by kernel_rfl) (by kernel_rfl) (by kernel_rfl) (fun _ _ _ h => h) (Or.inl ⟨by rfl, ?_⟩) (by assumption) ?_
      rotate_left 1
      · (intro w' hSw; (try dsimp only at hSw); go_simp; try with_reducible rfl)
      try simp only [Act.put, List.setIfInBounds_toArray, List.set_cons_zero, List.set_cons_succ]
      refine wpAnyH_take (i := 8) (v := ?_) ((List.getElem?_toArray ..).trans rfl) (by kernel_rfl) (by kernel_rfl) (by kernel_rfl) (fun _ _ _ h => h) (Or.inl ⟨by rfl, ?_⟩) (by assumption) ?_
      rotate_left 1
      · (intro w' hSw; (try dsimp only at hSw); go_simp; try with_reducible rfl)
      try simp only [Act.put, List.setIfInBounds_toArray, List.set_cons_zero, List.set_cons_succ]
      refine wpAnyH_take (i := 9) (v := ?_) ((List.getElem?_toArray ..).trans rfl) (by kernel_rfl) (by kernel_rfl) (by kernel_rfl) (fun _ _ _ h => h) (Or.inl ⟨by rfl, ?_⟩) (by assumption) ?_
      rotate_left 1
      · (intro w' hSw; (try dsimp only at hSw); go_simp; try with_reducible rfl)
      try simp only [Act.put, List.setIfInBounds_toArray, List.set_cons_zero, List.set_cons_succ]
      refine wpAnyH_take (i := 10) (v := ?_) ((List.getElem?_toArray ..).trans rfl) (by kernel_rfl) (by kernel_rfl) (by kernel_rfl) (fun _ _ _ h => h) (Or.inl ⟨by rfl, ?_⟩) (by assumption) ?_
      rotate_left 1
      · (intro w' hSw; (try dsimp only at hSw); go_simp; try with_reducible rfl)
      try simp only [Act.put, List.setIfInBounds_toArray, List.set_cons_zero, List.set_cons_succ]
      refine wpAnyH_take (i := 11) (v := ?_) ((List.getElem?_toArray ..).trans rfl) (by kernel_rfl) (by kernel_rfl) (by kernel_rfl) (fun _ _ _ h => h) (Or.inl ⟨by rfl, ?_⟩) (by assumption) ?_
      rotate_left 1
      · (intro w' hSw; (try dsimp only at hSw); go_simp; try with_reducible rfl)
      try simp only [Act.put, List.setIfInBounds_toArray, List.set_cons_zero, List.set_cons_succ]
      refine wpAnyH_take (i := 12) (v := ?_) ((List.getElem?_toArray ..).trans rfl) (by kernel_rfl) (by kernel_rfl) (by kernel_rfl) (fun _ _ _ h => h) (Or.inl ⟨by rfl, ?_⟩) (by assumption) ?_
      rotate_left 1
      · (intro w' hSw; (try dsimp only at hSw); go_simp; try with_reducible rfl)
      try simp only [Act.put, List.setIfInBounds_toArray, List.set_cons_zero, List.set_cons_succ]
      refine wpAnyH_take (i := 13) (v := ?_) ((List.getElem?_toArray ..).trans rfl) (by kernel_rfl) (by kernel_rfl) (by kernel_rfl) (fun _ _ _ h => h) (Or.inl ⟨by rfl, ?_⟩) (by assumption) ?_
      rotate_left 1
      · (intro w' hSw; (try dsimp only at hSw); go_simp; try with_reducible rfl)
      try simp only [Act.put, List.setIfInBounds_toArray, List.set_cons_zero, List.set_cons_succ]
      refine wpAnyH_take (i := 15) (v := ?_) ((List.getElem?_toArray ..).trans rfl) (by kernel_rfl) (by kernel_rfl) (by kernel_rfl) (fun _ _ _ h => h) (Or.inl ⟨by rfl, ?_⟩) (by assumption) ?_
      rotate_left 1
      · (intro w' hSw; (try dsimp only at hSw); go_simp; try with_reducible rfl)
      try simp only [Act.put, List.setIfInBounds_toArray, List.set_cons_zero, List.set_cons_succ]
      refine wpAnyH_take (i := 16) (v := ?_) ((List.getElem?_toArray ..).trans rfl) (by kernel_rfl) (by kernel_rfl) (by kernel_rfl) (fun _ _ _ h => h) (Or.inl ⟨by rfl, ?_⟩) (by assumption) ?_
      rotate_left 1
      · (intro w' hSw; (try dsimp only at hSw); go_simp; try with_reducible rfl)
      try simp only [Act.put, List.setIfInBounds_toArray, List.set_cons_zero, List.set_cons_succ]
      refine wpAnyH_take (i := 17) (v := ?_) ((List.getElem?_toArray ..).trans rfl) (by kernel_rfl) (by kernel_rfl) (by kernel_rfl) (fun _ _ _ h => h) (Or.inl ⟨by rfl, ?_⟩) (by assumption) ?_
      rotate_left 1
      · (intro w' hSw; (try dsimp only at hSw); go_simp; try with_reducible rfl)
      try simp only [Act.put, List.setIfInBounds_toArray, List.set_cons_zero, List.set_cons_succ]
      refine wpAnyH_ready (rs := [14]) (by kernel_rfl) (by simp) ?_
      refine AllReadyH.cons ((List.getElem?_toArray ..).trans rfl) (fun K hK => ?_) AllReadyH.nil
      go_simp
      refine hK.out _ _ ⟨hI6, hY6⟩ (fun hHeld => ?_)
      clear hK K
      try simp only [Act.put, List.setIfInBounds_toArray, List.set_cons_zero, List.set_cons_succ]
      refine wpAnyH_ready (rs := [18]) (by kernel_rfl) (by simp) ?_
      refine AllReadyH.cons ((List.getElem?_toArray ..).trans rfl) (fun K hK => ?_) AllReadyH.nil
      go_simp
      refine (aged_one x (clampT now) _ w5.heap.size ?_).mono ?_
      · exact hR6
      rintro e w6 ⟨b6, o6, c6, rfl, hz6, hb6⟩
      rw [hy.out] at hz6
      refine hK.out _ _ ⟨itAt_later hI6 hb6, itAt_later hY6 hb6⟩ (fun hHeld => ?_)
      clear hK K
      try simp only [Act.put, List.setIfInBounds_toArray, List.set_cons_zero, List.set_cons_succ]
      refine wpAnyH_more (S' := fun w' => (itAt w' w.heap.size 0 = some x ∧ itAt w' w4.heap.size 0 = some y) ∧ itAt w' b6 o6 = some y) (fun _ h => h.1) _ _ _ _ ?_
      have hHeld2 := And.intro hHeld hz6
      refine wpAnyH_take (i := 19) (v := ?_) ((List.getElem?_toArray ..).trans rfl) (by kernel_rfl) (by kernel_rfl) (by kernel_rfl) (fun _ _ _ h => h) (Or.inl ⟨by rfl, ?_⟩) (by assumption) ?_
      rotate_left 1
      · (intro w' hSw; (try dsimp only at hSw); go_simp; try with_reducible rfl)
      try simp only [Act.put, List.setIfInBounds_toArray, List.set_cons_zero, List.set_cons_succ]
      refine wpAnyH_take (i := 20) (v := ?_) ((List.getElem?_toArray ..).trans rfl) (by kernel_rfl) (by kernel_rfl) (by kernel_rfl) (fun _ _ _ h => h) (Or.inl ⟨by rfl, ?_⟩) (by assumption) ?_
      rotate_left 1
      · (intro w' hSw; (try dsimp only at hSw); go_simp; try with_reducible rfl)
      try simp only [Act.put, List.setIfInBounds_toArray, List.set_cons_zero, List.set_cons_succ]
      refine wpAnyH_take (i := 21) (v := ?_) ((List.getElem?_toArray ..).trans rfl) (by kernel_rfl) (by kernel_rfl) (by kernel_rfl) (fun _ _ _ h => h) (Or.inl ⟨by rfl, ?_⟩) (by assumption) ?_
      rotate_left 1
      · (intro w' hSw; (try dsimp only at hSw); go_simp; try with_reducible rfl)
      try simp only [Act.put, List.setIfInBounds_toArray, List.set_cons_zero, List.set_cons_succ]
      refine wpAnyH_take (i := 22) (v := ?_) ((List.getElem?_toArray ..).trans rfl) (by kernel_rfl) (by kernel_rfl) (by kernel_rfl) (fun _ _ _ h => h) (Or.inl ⟨by rfl, ?_⟩) (by assumption) ?_
      rotate_left 1
      · (intro w' hSw; (try dsimp only at hSw); go_simp; try with_reducible rfl)
      try simp only [Act.put, List.setIfInBounds_toArray, List.set_cons_zero, List.set_cons_succ]
      refine wpAnyH_take (i := 23) (v := ?_) ((List.getElem?_toArray ..).trans rfl) (by kernel_rfl) (by kernel_rfl) (by kernel_rfl) (fun _ _ _ h => h) (Or.inl ⟨by rfl, ?_⟩) (by assumption) ?_
      rotate_left 1
      · (intro w' hSw; (try dsimp only at hSw); go_simp; try with_reducible rfl)
      try simp only [Act.put, List.setIfInBounds_toArray, List.set_cons_zero, List.set_cons_succ]
      refine wpAnyH_ready (rs := [24]) (by kernel_rfl) (by simp) ?_
      refine AllReadyH.cons ((List.getElem?_toArray ..).trans rfl) (fun K hK => ?_) AllReadyH.nil
      go_simp
      refine (awake_any _).mono ?_
      rintro e w7 ⟨rfl, hb7⟩
      refine hK.out _ _ ⟨⟨itAt_later (itAt_later hI6 hb6) hb7, itAt_later (itAt_later hY6 hb6) hb7⟩, itAt_later hz6 hb7⟩ (fun hHeld => ?_)
      clear hK K
      try simp only [Act.put, List.setIfInBounds_toArray, List.set_cons_zero, List.set_cons_succ]
      refine wpAnyH_take (i := 25) (v := ?_) ((List.getElem?_toArray ..).trans rfl) (by kernel_rfl) (by kernel_rfl) (by kernel_rfl) (fun _ _ _ h => h) (Or.inl ⟨by rfl, ?_⟩) (by assumption) ?_
      rotate_left 1
      · (intro w' hSw; (try dsimp only at hSw); go_simp; try with_reducible rfl)
      try simp only [Act.put, List.setIfInBounds_toArray, List.set_cons_zero, List.set_cons_succ]
      refine wpAnyH_take (i := 26) (v := ?_) ((List.getElem?_toArray ..).trans rfl) (by kernel_rfl) (by kernel_rfl) (by kernel_rfl) (fun _ _ _ h => h) (Or.inl ⟨by rfl, ?_⟩) (by assumption) ?_
      rotate_left 1
      · (intro w' hSw; (try dsimp only at hSw); go_simp; try with_reducible rfl)
      try simp only [Act.put, List.setIfInBounds_toArray, List.set_cons_zero, List.set_cons_succ]
      refine wpAnyH_done (by kernel_rfl) ?_ _
      all_goals go_wp2
      all_goals go_ret
      all_goals exact ⟨rfl, bel_call (bel_call hB6.out hb6) hb7⟩
end Go.Proofs.Ytgfoaopfdpclhaa
