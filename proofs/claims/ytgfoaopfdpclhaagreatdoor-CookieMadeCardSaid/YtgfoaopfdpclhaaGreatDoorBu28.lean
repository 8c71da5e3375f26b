/-
  Joined texts: UriP2 Uri4 Uri5.
-/
import Derived.Test.YtgfoaopfdpclhaaGreatDoorBu26
import Derived.Test.YtgfoaopfdpclhaaGreatDoorBu3
import Derived.Test.YtgfoaopfdpclhaaGreatDoorBu27
namespace Go.Proofs.YtgfoaopfdpclhaaGreatDoor
open Go.RowKit
set_option linter.unusedVariables false
set_option maxRecDepth 100000

theorem findAny_app {a q : List UInt8} (ha : ∀ b ∈ a, q.contains b = false) (r : List UInt8) : findAny (a ++ r) q = a.length + findAny r q := by
  induction a with
  | nil => simp
  | cons b a ih =>
    rw [List.cons_append, findAny, if_neg (by rw [ha b List.mem_cons_self]; decide), ih (fun c hc => ha c (List.mem_cons_of_mem _ hc)), List.length_cons]
    omega
theorem findAny_hit {c : UInt8} {q : List UInt8} (h : q.contains c = true) (r : List UInt8) : findAny (c :: r) q = 0 := by rw [findAny, if_pos h]
theorem findAny_all {a q : List UInt8} : findAny a q = a.length ↔ ∀ b ∈ a, q.contains b = false := by
  constructor
  · intro h b hb
    induction a with
    | nil => cases hb
    | cons c a ih =>
      by_cases hc : q.contains c = true
      · rw [findAny_hit hc] at h; simp at h
      · rw [findAny, if_neg hc] at h
        rcases List.mem_cons.1 hb with rfl | hb
        · simpa using hc
        · exact ih (by simpa using h) hb
  · intro h
    have := findAny_app h []
    rw [List.append_nil] at this
    rw [this]; rfl

/-- A port, or none: nothing, or a colon and digits. -/
def begU (s : Bool) : List UInt8 := if s then [104, 116, 116, 112, 115, 58, 47, 47] else [104, 116, 116, 112, 58, 47, 47]
theorem word_beg (s : Bool) (r : List UInt8) : wordI (begU s ++ r) = if s then 5 else 4 := by
  unfold wordI begU
  cases s <;> simp [Lib.index]
theorem visB_app (a b : List UInt8) : visB (a ++ b) = (visB a && visB b) := by unfold visB; rw [List.all_append]

/-- What stands behind a host: nothing, or a colon first; none of '/', '?', '#'. -/
theorem parse_mk {sec : Bool} {h t p q : List UInt8} (hc : canonB h = true) (ht : t = [] ∨ ∃ r, t = 58 :: r) (htp : portB t = true) (htv : visB t = true) (hts : ∀ c ∈ t, ([47, 63, 35] : List UInt8).contains c = false)
    (hp : p.getD 0 0 = 47) (hpl : 0 < p.length) (hpv : visB p = true) (hpq : findAny p [63, 35] = p.length) (hq : q = [] ∨ ∃ r, q = 63 :: r) (hqv : visB q = true)
    (hl : (begU sec ++ (h ++ t ++ (p ++ q))).length ≤ 1024) : parseU (begU sec ++ (h ++ t ++ (p ++ q))) = (⟨h, p, sec, false⟩, 0) := by
  obtain ⟨hne, hlow, hvis, hsg⟩ := canon_cn hc
  obtain ⟨p', rfl⟩ : ∃ p', p = 47 :: p' := by
    cases p with
    | nil => simp at hpl
    | cons a b => exact ⟨b, by rw [show a = 47 from hp]⟩
  have hv : visB (begU sec ++ (h ++ t ++ (47 :: p' ++ q))) = true := by
    rw [visB_app, visB_app, visB_app, visB_app, hvis, htv, hpv, hqv]
    cases sec <;> rfl
  have hw := word_beg sec (h ++ t ++ (47 :: p' ++ q))
  have hr : restU (begU sec ++ (h ++ t ++ (47 :: p' ++ q))) = h ++ t ++ (47 :: p' ++ q) := by
    unfold restU
    rw [hw]
    cases sec <;> rfl
  have hs : schT ((begU sec ++ (h ++ t ++ (47 :: p' ++ q))).take (wordI (begU sec ++ (h ++ t ++ (47 :: p' ++ q)))).toNat) = (sec, true) := by
    rw [hw]
    cases sec
    · rfl
    · rfl
  have hf : findAny (h ++ t ++ (47 :: p' ++ q)) [47, 63, 35] = (h ++ t).length := by
    rw [findAny_app (fun b hb => by
      rcases List.mem_append.1 hb with hb | hb
      · exact hsg b hb
      · exact hts b hb), List.cons_append, findAny_hit (by decide), Nat.add_zero]
  have hwh : whereU (h ++ t ++ (47 :: p' ++ q)) = h ++ t := by unfold whereU; rw [hf, List.take_left']; rfl
  have hbh : behindU (h ++ t ++ (47 :: p' ++ q)) = 47 :: p' ++ q := by unfold behindU; rw [hf, List.drop_left']; rfl
  have hnk : nameK (h ++ t) = h.length := by
    rcases canon_signs hc with ⟨m, rfl, hm⟩ | ⟨_, h2⟩
    · have e : Lib.hasPrefix (91 :: (m ++ [93]) ++ t) [91] = true := by simp [Lib.hasPrefix]
      have hcut : cutL (91 :: (m ++ [93]) ++ t) 93 = some (91 :: m, t) := by
        rw [show 91 :: (m ++ [93]) ++ t = (91 :: m) ++ 93 :: t by simp]
        rw [cut_hit 93 ((91 :: m) ++ 93 :: t) (91 :: m).length ?_ ?_ (by simp)]
        · rw [List.take_left', List.drop_append, List.drop_of_length_le (by simp)]
          · simp
          · rfl
        · intro j hj
          rw [List.getD_eq_getElem?_getD, List.getElem?_append_left hj, List.getElem?_eq_getElem hj]
          simp only [Option.getD_some]
          rw [beq_eq_false_iff_ne]
          rcases List.mem_cons.1 (List.getElem_mem hj) with e2 | e2
          · rw [e2]; decide
          · exact (hex_of (hm _ e2)).2.2.1
        · rw [List.getD_eq_getElem?_getD, List.getElem?_append_right (Nat.le_refl _)]
          simp
      unfold nameK
      rw [e, if_pos rfl, hcut]
      simp
    · have e : Lib.hasPrefix (h ++ t) [91] = false := by
        cases h with
        | nil => exact absurd rfl hne
        | cons a b =>
          have ha := (nmC_of (h2 a List.mem_cons_self)).2.2.2.1
          show (([91] : List UInt8).isPrefixOf (a :: (b ++ t))) = false
          rw [List.isPrefixOf, show ((91 : UInt8) == a) = false from beq_eq_false_iff_ne.2 (Ne.symm ha)]
          rfl
      unfold nameK
      rw [e, if_neg (by decide), findAny_app (fun b hb => by
        have := (nmC_of (h2 b hb)).2.2.1
        simp [this])]
      rcases ht with rfl | ⟨r, rfl⟩
      · rfl
      · rw [findAny_hit (by decide)]; rfl
  have hpath : pathU (47 :: p' ++ q) = 47 :: p' := by
    have e : (47 :: p' ++ q).take (findAny (47 :: p' ++ q) [63, 35]) = 47 :: p' := by
      rw [findAny_app (findAny_all.1 hpq)]
      have e0 : findAny q [63, 35] = 0 := by
        rcases hq with rfl | ⟨r, rfl⟩
        · rfl
        · exact findAny_hit (by decide) r
      rw [e0, Nat.add_zero, List.take_left']
      rfl
    unfold pathU
    rw [e]
    simp [Lib.hasPrefix]
  unfold parseU
  rw [if_neg (by omega), if_neg (by rw [hv, hw]; cases sec <;> simp), hs, if_neg (by simp), hr, hwh, hbh, hnk, List.take_left' rfl, List.drop_left' rfl, hlow, hc, htp, if_neg (by simp), hpath]
end Go.Proofs.YtgfoaopfdpclhaaGreatDoor
namespace Go.Proofs.YtgfoaopfdpclhaaGreatDoor
open Go.RowKit
set_option linter.unusedVariables false
set_option maxRecDepth 100000

set_option maxHeartbeats 1000000 in
theorem refVisible_any (l : List UInt8) (w : World) (hl : l.length ≤ maxLen) :
    Calls Tryz.prog 60 #[.string (S l)] w fun e w' => e = .returned (.bool (visB l)) ∧ w = w' := by
  unfold maxLen at hl
  go_enter Tryz.func60, Tryz.ntmps60
  go_wp2
  go_loop [3] (fun i => ∃ k : Nat, i = .int .i64 k ∧ k ≤ l.length ∧ Hid (visB (l.take k) = true)) (fun i => l.length - (intOf i).toNat)
  case atStart => exact ⟨0, rfl, by omega, Lib.hid rfl⟩
  case round =>
    obtain ⟨k, rfl, hk, hin⟩ := hrel
    by_cases hlt : k < l.length
    · have hki : (k : Int) < l.length := by omega
      have hg : ∀ h, (S l)[k]'h = l.getD k 0 := fun h => by rw [get_l _ _ h, S_toList]
      cases hv : visC (l.getD k 0)
      · have hno := Lib.hid (vis_take_no hlt hv)
        clear hin
        generalize l.getD k 0 = c0 at *
        by_cases h33 : c0.toNat < 33
        · have h33i : (c0.toNat : Int) < 33 := by omega
          clear hv
          go_wp2
          go_ret
          rw [hno.out]
          exact ⟨rfl, rfl⟩
        · have h33i : decide ((c0.toNat : Int) < 33) = false := decide_eq_false (by omega)
          have h126 : (126 : Int) < (c0.toNat : Int) := by
            unfold visC at hv
            rw [decide_eq_true (show 32 < c0.toNat by omega), Bool.true_and, decide_eq_false_iff_not] at hv
            omega
          clear hv
          go_wp2
          go_ret
          rw [hno.out]
          exact ⟨rfl, rfl⟩
      · have hin2 := Lib.hid (vis_take_step hlt hin.out hv)
        have h33i : decide (((l.getD k 0).toNat : Int) < 33) = false := by
          unfold visC at hv
          simp only [Bool.and_eq_true, decide_eq_true_eq] at hv
          exact decide_eq_false (by omega)
        have h126 : decide ((126 : Int) < ((l.getD k 0).toNat : Int)) = false := by
          unfold visC at hv
          simp only [Bool.and_eq_true, decide_eq_true_eq] at hv
          exact decide_eq_false (by omega)
        clear hv hin
        generalize l.getD k 0 = c0 at *
        go_wp2
        go_round
        case rel => exact ⟨k + 1, by go_num, by omega, hin2⟩
        case measure => simp [intOf]; omega
    · obtain rfl : k = l.length := by omega
      have hfin := Lib.hid (show visB l = true by have := hin.out; rwa [List.take_length] at this)
      clear hin
      go_wp2
      go_ret
      rw [hfin.out]
      exact ⟨rfl, rfl⟩

theorem findL_has {q : List UInt8} {c : UInt8} : (0 ≤ findL q c ∧ q.contains c = true) ∨ (findL q c = -1 ∧ q.contains c = false) := by
  unfold findL
  cases h : cutL q c with
  | none => exact .inr ⟨rfl, by have := cut_none_iff.1 h; simpa using this⟩
  | some p =>
    obtain ⟨_, _, _, h4, _⟩ := cut_some h
    refine .inl ⟨by simp, ?_⟩
    rw [h4]; simp
theorem findAny_at {l q : List UInt8} {k : Nat} (h : ∀ j, j < k → q.contains (l.getD j 0) = false) (hk : k < l.length) (hc : q.contains (l.getD k 0) = true) : findAny l q = k := by
  have e : l = l.take k ++ (l.getD k 0 :: l.drop (k + 1)) := by rw [← drop_getD l k hk, List.take_append_drop]
  have ha : ∀ b ∈ l.take k, q.contains b = false := by
    intro b hb
    obtain ⟨j, hj, rfl⟩ := List.getElem_of_mem hb
    have hj' : j < k := by simp at hj; omega
    have := h j hj'
    rw [List.getD_eq_getElem?_getD, List.getElem?_eq_getElem (by omega)] at this
    simpa using this
  conv => lhs; rw [e]
  rw [findAny_app ha, findAny_hit hc, List.length_take]
  omega
theorem findAny_no {l q : List UInt8} (h : ∀ j, j < l.length → q.contains (l.getD j 0) = false) : findAny l q = l.length := by
  rw [findAny_all]
  intro b hb
  obtain ⟨j, hj, rfl⟩ := List.getElem_of_mem hb
  have := h j hj
  rw [List.getD_eq_getElem?_getD, List.getElem?_eq_getElem hj] at this
  simpa using this

set_option maxHeartbeats 1000000 in
theorem rfind_any (l q : List UInt8) (w : World) (hl : l.length ≤ maxLen) (hq : q.length ≤ maxLen) :
    Calls Tryz.prog 61 #[.string (S l), .string (S q)] w fun e w' => e = .returned (.int .i64 (findAny l q)) ∧ w = w' := by
  have hqz : (S q).size ≤ maxLen := by rw [S_size]; exact hq
  unfold maxLen at hl
  go_enter Tryz.func61, Tryz.ntmps61
  go_wp2
  go_loop [5] (fun i => ∃ k : Nat, i = .int .i64 k ∧ k ≤ l.length ∧ Hid (∀ j, j < k → q.contains (l.getD j 0) = false)) (fun i => l.length - (intOf i).toNat)
  case atStart => exact ⟨0, rfl, by omega, Lib.hid (fun j hj => absurd hj (by omega))⟩
  case round =>
    obtain ⟨k, rfl, hk, hin⟩ := hrel
    by_cases hlt : k < l.length
    · have hki : (k : Int) < l.length := by omega
      have hg : ∀ h, (S l)[k]'h = l.getD k 0 := fun h => by rw [get_l _ _ h, S_toList]
      rcases findL_has (q := q) (c := l.getD k 0) with ⟨h1, h2⟩ | ⟨h1, h2⟩
      · have hT := Lib.hid (findAny_at hin.out hlt h2)
        clear hin h2
        generalize l.getD k 0 = c0 at *
        go_wp2_with fail
        refine (refFind_any (S q) c0 _ hqz).mono ?_
        rintro e w3 ⟨rfl, rfl⟩
        rw [S_toList]
        generalize findL q c0 = n at *
        go_wp2
        go_ret
        rw [hT.out]
        exact ⟨rfl, rfl⟩
      · have hin2 := Lib.hid (all_step (p := fun j => q.contains (l.getD j 0) = false) hin.out h2)
        have hH := Lib.hid h1
        clear hin h2 h1
        generalize l.getD k 0 = c0 at *
        go_wp2_with fail
        refine (refFind_any (S q) c0 _ hqz).mono ?_
        rintro e w3 ⟨rfl, rfl⟩
        rw [S_toList, hH.out]
        go_wp2
        go_round
        case rel => exact ⟨k + 1, by go_num, by omega, hin2⟩
        case measure => simp [intOf]; omega
    · obtain rfl : k = l.length := by omega
      have hT := Lib.hid (findAny_no hin.out)
      clear hin
      go_wp2
      go_ret
      rw [hT.out]
      exact ⟨rfl, rfl⟩

theorem word_hit {l : List UInt8} {k : Nat} (hk : k + 3 ≤ l.length) (h : ∀ j, j < k → ((l.drop j).take 3 == [58, 47, 47]) = false) (hh : ((l.drop k).take 3 == [58, 47, 47]) = true) : wordI l = k := by
  refine Lib.index_first (by omega) ?_ fun j hj => ?_
  · rw [Lib.occAt_iff_take _ _ _ hk]; exact hh
  · rw [Lib.occAt_iff_take _ _ _ (by simp; omega)]; exact h j hj
theorem word_none {l : List UInt8} {k : Nat} (hk : l.length < k + 3) (h : ∀ j, j < k → ((l.drop j).take 3 == [58, 47, 47]) = false) : wordI l = -1 := by
  refine Lib.index_none fun j hj => ?_
  cases ho : Lib.occAt l [58, 47, 47] j with
  | false => rfl
  | true =>
    rcases Lib.occAt_room ho with h1 | h1
    · have h1' : j + 3 ≤ l.length := h1
      rw [Lib.occAt_iff_take _ _ _ h1] at ho
      have := h j (by omega)
      rw [show ([58, 47, 47] : List UInt8).length = 3 from rfl] at ho
      rw [ho] at this
      cases this
    · cases h1

end Go.Proofs.YtgfoaopfdpclhaaGreatDoor
namespace Go.Proofs.YtgfoaopfdpclhaaGreatDoor
open Go.RowKit
set_option linter.unusedVariables false
set_option maxRecDepth 100000

theorem nameK_br {l : List UInt8} (h : Lib.hasPrefix l [91] = true) : (findL l 93 = -1 ∧ nameK l = l.length) ∨ (0 ≤ findL l 93 ∧ (nameK l : Int) = findL l 93 + 1) := by
  unfold nameK findL
  rw [h, if_pos rfl]
  cases hc : cutL l 93 with
  | none => exact .inl ⟨rfl, rfl⟩
  | some p => exact .inr ⟨by simp, by simp⟩
theorem prefix_91 (l : List UInt8) : Lib.hasPrefix l [91] = (decide (0 < l.length) && l.getD 0 0 == 91) := by
  cases l with
  | nil => rfl
  | cons a b =>
    show (([91] : List UInt8).isPrefixOf (a :: b)) = _
    rw [List.isPrefixOf]
    simp [Bool.beq_eq_decide_eq]
    exact eq_comm

theorem digN_pos {l : List UInt8} (h : digN l = l.length) (h0 : 0 < l.length) : numOk l = true ∧ numNeg l = false := by
  have hn : numNeg l = false := by
    unfold numNeg
    have hd := digN_all l 0 (by omega)
    unfold digitB at hd
    rw [decide_eq_true_iff] at hd
    have : (l.getD 0 0 == 45) = false := by
      rw [beq_eq_false_iff_ne]
      intro e; rw [e] at hd; revert hd; decide
    rw [this]; simp
  refine ⟨?_, hn⟩
  have e : numT l = l := by unfold numT; rw [hn]; simp
  unfold numOk
  rw [e, h]
  simp [h0]

theorem path_ref (q : List UInt8) : (if Lib.hasPrefix q [47] then q else 47 :: q) = if q = [] ∨ (q.getD 0 0 == 47) = false then 47 :: q else q := by
  cases q with
  | nil => rfl
  | cons a b =>
    have e : Lib.hasPrefix (a :: b) [47] = (a == 47) := by
      show (([47] : List UInt8).isPrefixOf (a :: b)) = _
      rw [List.isPrefixOf]
      simp [Bool.beq_eq_decide_eq]
      exact eq_comm
    rw [e]
    show (if (a == 47) = true then a :: b else 47 :: a :: b) = if a :: b = [] ∨ (a == 47) = false then 47 :: a :: b else a :: b
    cases h : (a == 47)
    · rw [if_neg (by decide), if_pos (.inr rfl)]
    · rw [if_pos rfl, if_neg (by simp)]

theorem sch_one {l : List UInt8} (h : (schT l).2 = true) : (schT l).1 = (lowerL l == [104, 116, 116, 112, 115]) ∧ ((lowerL l == [104, 116, 116, 112]) = true ∨ (lowerL l == [104, 116, 116, 112, 115]) = true) := by
  unfold schT at *
  by_cases h1 : lowerL l = [104, 116, 116, 112, 115]
  · rw [if_pos h1]; simp [h1]
  · rw [if_neg h1] at h ⊢
    by_cases h2 : lowerL l = [104, 116, 116, 112]
    · rw [if_pos h2]; simp [h2]
    · rw [if_neg h2] at h; cases h
theorem sch_no {l : List UInt8} (h : (schT l).2 = false) : (lowerL l == [104, 116, 116, 112]) = false ∧ (lowerL l == [104, 116, 116, 112, 115]) = false := by
  unfold schT at h
  by_cases h1 : lowerL l = [104, 116, 116, 112, 115]
  · rw [if_pos h1] at h; cases h
  · rw [if_neg h1] at h
    by_cases h2 : lowerL l = [104, 116, 116, 112]
    · rw [if_pos h2] at h; cases h
    · exact ⟨beq_eq_false_iff_ne.2 h2, beq_eq_false_iff_ne.2 h1⟩

/-- Where the reference's Parse stands: the result's block, and what was there before. -/
def UrSt (w W : World) : Prop := Blk W w.heap.size 24 (rqC rq0) ∧ Below w.heap.size w W
theorem UrSt.next {w W W' : World} (h : UrSt w W) (hb : Below W.heap.size W W') : UrSt w W' := ⟨h.1.below hb, bel_call h.2 hb⟩

end Go.Proofs.YtgfoaopfdpclhaaGreatDoor
