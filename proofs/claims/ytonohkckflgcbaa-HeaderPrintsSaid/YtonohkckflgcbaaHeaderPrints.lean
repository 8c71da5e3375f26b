/-
  The law HeaderPrints.
-/
import Derived.Test.YtonohkckflgcbaaHeader8
import Derived.Test.YtonohkckflgcbaaHeaderFinds
namespace Go.Proofs.Ytonohkckflgcbaa
open Go.RowKit Go.Deep Go.WideShapes
set_option linter.unusedVariables false

section
variable {H : Type} {enc : TypeId × Value → H} {w : World}
theorem open_pair {base0 : Nat} {v : Value} {d : DataW H} {p : List MemPlace} (hval : Value.okWide Try.prog w .any base0 29 v) (h : DataW.Trod enc Try.prog w 0 (fun _ => true) true 29 v d p) :
    ∃ x : List UInt8 × List UInt8, v = aggP x ∧ x.1.length ≤ maxLen ∧ x.2.length ≤ maxLen := by
  obtain ⟨cs, rfl, hcs⟩ := okWide_struct Try.un29 hval
  obtain ⟨fuel, hf⟩ := h
  obtain ⟨a, b, e, ha, hb⟩ := pair_cells hf
  have e2 : cs.toList = [.string a, .string b] := by simpa [Value.cells] using e
  have e3 : cs = #[.string a, .string b] := by rw [← Array.toList_inj]; exact e2
  subst e3
  exact ⟨(a.toList, b.toList), by unfold aggP strV; rw [S_of, S_of], by rw [← size_toList]; exact ha, by rw [← size_toList]; exact hb⟩
end

theorem textA_len (a : List UInt8 × List UInt8) : (textA a).length ≤ 3 + a.1.length + a.2.length := by
  unfold textA; split <;> simp <;> omega
theorem textAs_len {l : List (List UInt8 × List UInt8)} {m : Nat} (h : ∀ p ∈ l, p.1.length ≤ 300 ∧ p.2.length ≤ 1100) : (l.flatMap textA).length ≤ l.length * 1403 := by
  induction l with
  | nil => simp
  | cons a r ih =>
    have h1 := h a (by simp)
    have h2 := ih (fun p hp => h p (by simp [hp]))
    have h3 := textA_len a
    simp only [List.flatMap_cons, List.length_append, List.length_cons]
    omega
theorem textH_len {p : List UInt8 × List UInt8} {l : List (List UInt8 × List UInt8)} (hp : lightB [p] = true) (hl : lightB l = true) : (textH p l).length ≤ 4294967296 := by
  have h1 := lightB_lens hl
  have h2 := (lightB_lens hp).2 p (by simp)
  have h3 := textAs_len (m := 0) h1.2
  unfold textH
  simp only [List.length_append, List.length_singleton]
  omega

theorem rd_one {w : World} {g t : Nat} {p : List UInt8 × List UInt8} (h : Blk w g t #[.string (S p.1), .string (S p.2)]) : Rd w 2 (.slice (some ⟨g, 0, none⟩) 1 1) 1 (cellsP [p]) := by
  refine ⟨rfl, some ⟨g, 0, none⟩, 1, rfl, Nat.le_refl _, by simp [maxLen], .inr ⟨g, 0, rfl, h.lt, ?_⟩⟩
  intro j hj
  rw [Nat.zero_add, h.cell]
  rcases j with _ | _ | j
  · rfl
  · rfl
  · simp [cellsP] at hj; omega

set_option maxHeartbeats 4000000 in
theorem headerPrints (p : List UInt8 × List UInt8) (x : SlArg (List UInt8 × List UInt8)) (w : World) (hp : p.1.length ≤ maxLen ∧ p.2.length ≤ maxLen) (hx : Rd w 2 (.slice x.A x.n x.c) x.n (cellsP x.l) ∧ ∀ q ∈ x.l, q.1.length ≤ maxLen ∧ q.2.length ≤ maxLen) :
    Calls Try.prog 5 #[aggP p, .slice x.A x.n x.c] w fun e w' => e = .returned (.bool true) ∧ Below w.heap.size w w' := by
  obtain ⟨A, n, c, l⟩ := x
  obtain ⟨hR0, _⟩ := hx
  simp only at hR0 ⊢
  clear hp
  have hlenl := hR0.len
  unfold aggP strV
  have hP := Blk.new_ w 29 #[.string (S p.1), .string (S p.2)]
  have hB := bel_alloc (Below.refl w.heap.size w) (.cells #[.string (S p.1), .string (S p.2)] 29)
  have hR := hR0.alloc (.cells #[.string (S p.1), .string (S p.2)] 29)
  go_enter Try.func5, Try.ntmps5
  go_wp2_with fail
  generalize w.alloc (.cells #[.string (S p.1), .string (S p.2)] 29) = w1 at *
  have hgB := Lib.hid (Nat.le_of_lt hP.lt)
  generalize hgg0 : w.heap.size = g at *
  have hgg := Lib.hid hgg0
  clear hgg0
  refine (light12_any _ _ _ _ _ hR).mono ?_
  rintro e w2 ⟨rfl, hb2⟩
  replace hP := hP.below hb2
  replace hR := hR.below hb2
  replace hB := bel_onto hB hb2 hgB.out
  replace hgB := Lib.hid (Nat.le_of_lt hP.lt)
  clear hb2
  cases hl : lightB l
  case false =>
    clear hl
    go_wp2_with fail
    refine (awake12 _).mono ?_
    rintro e w7 ⟨rfl, hb7⟩
    go_wp2
    go_ret
    exact ⟨rfl, by rw [hgg.out]; exact bel_onto hB hb7 hgB.out⟩
  have hLl := Lib.hid hl
  clear hl
  have hp0 := hP.cell 0
  have hp1 := hP.cell 1
  simp at hp0 hp1
  go_wp2_with fail
  have hQ := Blk.new_ w2 29 #[.string (S p.1), .string (S p.2)]
  have hP2 := hP.alloc (.cells #[.string (S p.1), .string (S p.2)] 29)
  have hR2 := hR.alloc (.cells #[.string (S p.1), .string (S p.2)] 29)
  have hB2 := hB.alloc hgB.out (.cells #[.string (S p.1), .string (S p.2)] 29)
  have hgB2 := Lib.hid (Nat.le_of_lt hP2.lt)
  refine (light12_any _ _ _ [p] _ (rd_one hQ)).mono ?_
  rintro e w3 ⟨rfl, hb3⟩
  have hP3 := hP2.below hb3
  have hR3 := hR2.below hb3
  have hB3 := bel_onto hB2 hb3 hgB2.out
  have hg3 := Lib.hid (Nat.le_of_lt hP3.lt)
  clear hb3 hP hR hB hP2 hR2 hB2 hQ hgB2 hp0 hp1 hgB
  cases hl : lightB [p]
  case false =>
    clear hl
    go_wp2_with fail
    refine (awake12 _).mono ?_
    rintro e w7 ⟨rfl, hb7⟩
    go_wp2
    go_ret
    exact ⟨rfl, by rw [hgg.out]; exact bel_onto hB3 hb7 hg3.out⟩
  have hT := Lib.hid (textH_len hl hLl.out)
  have hn40 : n ≤ 4294967296 := by have := (lightB_lens hLl.out).1; omega
  clear hl
  have hp0 := hP3.cell 0
  have hp1 := hP3.cell 1
  simp at hp0 hp1
  go_wp2_with fail
  go_region_with (first
    | (go_at_call 18; refine (own12_any _ _ _ _ _ (by exact hR3) hn40).mono ?_; rintro e w4 ⟨A4, c4, rfl, hown4, hb4⟩; have hp04 := cell_later hb4 hp0; have hp14 := cell_later hb4 hp1)
    | (go_at_call 20; refine (print_any p _ _ _ l _ (by exact Rd.of_own hown4) hT.out).mono ?_; rintro e w5 ⟨rfl, hb5⟩))
  all_goals
    have hP5 := (Blk.below (w := w3.drew) hP3 hb4).below hb5
    have hR5 := (Rd.below (w := w3.drew) hR3 hb4).below hb5
    have hB4 := bel_onto hB3.drew hb4 hg3.out
    have hB5 := bel_onto hB4 hb5 (Nat.le_trans hg3.out hb4.size)
    have hg5 := Lib.hid (Nat.le_of_lt hP5.lt)
    clear hb4 hb5 hown4 hp04 hp14 hp0 hp1 hP3 hR3 hB3 hB4 hg3
    have hp0 := hP5.cell 0
    have hp1 := hP5.cell 1
    simp at hp0 hp1
    go_wp2_with fail
    refine (refText12_any p _ _ _ l _ hR5 hT.out).mono ?_
    rintro e w6 ⟨rfl, hb6⟩
    have hP6 := hP5.below hb6
    have hR6 := hR5.below hb6
    have hB6 := bel_onto hB5 hb6 hg5.out
    have hg6 := Lib.hid (Nat.le_of_lt hP6.lt)
    clear hb6 hP5 hR5 hB5 hg5 hp0 hp1
    go_wp2_with fail
    refine (refParse_any _ _ (by rw [S_size]; exact hT.out)).mono ?_
    rintro e w7 ⟨A7, c7, rfl, hown, hb7⟩
    rw [S_toList] at hown ⊢
    have hOK := Lib.hid (show printOk p l = (decide (parseE (textH p l) = 0) && decide (parseP (textH p l) = p) && decide (parseL (textH p l) = l)) from rfl)
    have hNo := Lib.hid (@printT_no p l)
    have hYes := Lib.hid (@printT_yes p l)
    generalize htt : textH p l = t at hOK hown hT hYes ⊢
    generalize parseL t = lt at *
    generalize hpp : parseP t = pt at *
    unfold aggP strV
    have hR7 := (Rd.of_own hown).alloc (.cells #[.string (S pt.1), .string (S pt.2)] 29)
    have hRl := (hR6.below hb7).alloc (.cells #[.string (S pt.1), .string (S pt.2)] 29)
    have hP7 := (hP6.below hb7).alloc (.cells #[.string (S pt.1), .string (S pt.2)] 29)
    have hQ7 := Blk.new_ w7 29 #[.string (S pt.1), .string (S pt.2)]
    have hB7 := (bel_onto hB6 hb7 hg6.out).alloc (Nat.le_trans hg6.out hb7.size) (.cells #[.string (S pt.1), .string (S pt.2)] 29)
    have hp0 := hP7.cell 0
    have hp1 := hP7.cell 1
    simp at hp0 hp1
    have hg7 := Lib.hid (Nat.le_of_lt hP7.lt)
    clear hown hR6 hP6 hB6 hb7
    by_cases hE : parseE t = 0
    case neg =>
      have hEi : (parseE t != 0) = true := by rw [bne_iff_ne]; exact hE
      have hG := hNo.out (by rw [hOK.out, decide_eq_false hE]; rfl)
      clear htt
      rw [hG]
      go_wp2_with fail
      refine (awake12 _).mono ?_
      rintro e w8 ⟨rfl, hb8⟩
      go_wp2
      go_ret
      exact ⟨rfl, by rw [hgg.out]; exact bel_onto hB7 hb8 hg7.out⟩
    have hEi : (parseE t != 0) = false := by rw [bne_eq_false_iff_eq]; exact hE
    have hF := Lib.hid (show printOk p l = (decide (pt = p) && decide (lt = l)) by rw [hOK.out, decide_eq_true hE]; rfl)
    clear hE htt
    have hcs : (pt.1 = p.1 ∧ pt.2 = p.2 ∧ Hid (pt = p)) ∨ (¬ pt.1 = p.1 ∧ Hid (¬ (pt = p))) ∨ (pt.1 = p.1 ∧ ¬ pt.2 = p.2 ∧ Hid (¬ (pt = p))) := by
      by_cases h1 : pt.1 = p.1
      · by_cases h2 : pt.2 = p.2
        · exact Or.inl ⟨h1, h2, Prod.ext h1 h2⟩
        · exact Or.inr (Or.inr ⟨h1, h2, fun e => h2 (by subst e; rfl)⟩)
      · exact Or.inr (Or.inl ⟨h1, fun e => h1 (by subst e; rfl)⟩)
    rcases hcs with ⟨e1, e2, hS⟩ | ⟨e1, hD⟩ | ⟨e1, e2, hD⟩
    · obtain rfl := hS.out
      clear e1 e2 hS
      go_wp2_with fail
      refine (same12_any _ _ _ _ _ _ _ _ _ hR7 hRl).mono ?_
      rintro e w8 ⟨rfl, hb8⟩
      have hB8 := bel_onto hB7 hb8 hg7.out
      have hg8 := Lib.hid (Nat.le_trans hg7.out hb8.size)
      by_cases hL : lt = l
      · have hG := hYes.out (by rw [hF.out, decide_eq_true hL]; rfl)
        rw [decide_eq_true hL, hG]
        clear hL
        go_wp2_with fail
        refine (awake12 _).mono ?_
        rintro e w9 ⟨rfl, hb9⟩
        go_wp2
        go_ret
        exact ⟨rfl, by rw [hgg.out]; exact bel_onto hB8 hb9 hg8.out⟩
      · have hG := hNo.out (by rw [hF.out, decide_eq_false hL, Bool.and_false])
        rw [decide_eq_false hL, hG]
        clear hL
        go_wp2_with fail
        refine (awake12 _).mono ?_
        rintro e w9 ⟨rfl, hb9⟩
        go_wp2
        go_ret
        exact ⟨rfl, by rw [hgg.out]; exact bel_onto hB8 hb9 hg8.out⟩
    · have hG := hNo.out (by rw [hF.out, decide_eq_false hD.out]; rfl)
      rw [hG]
      go_wp2_with fail
      refine (awake12 _).mono ?_
      rintro e w9 ⟨rfl, hb9⟩
      go_wp2
      go_ret
      exact ⟨rfl, by rw [hgg.out]; exact bel_onto hB7 hb9 hg7.out⟩
    · have hG := hNo.out (by rw [hF.out, decide_eq_false hD.out]; rfl)
      rw [hG]
      rw [e1] at hp0 hp1 hB7 hg7
      go_wp2_with fail
      refine (awake12 _).mono ?_
      rintro e w9 ⟨rfl, hb9⟩
      go_wp2
      go_ret
      exact ⟨rfl, by rw [hgg.out]; exact bel_onto hB7 hb9 hg7.out⟩
end Go.Proofs.Ytonohkckflgcbaa
