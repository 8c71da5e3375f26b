/-
  Plain laws: an item's line, and the item of a line.
-/
import Derived.Test.YtgfoaopfdpclhaaRightP
import Derived.Lib.Join
namespace Go.Proofs.Ytgfoaopfdpclhaa
open Go.RowKit
set_option linter.unusedVariables false

theorem cut_app {p t : List UInt8} {c : UInt8} (h : cutL p c = none) : cutL (p ++ c :: t) c = some (p, t) := by
  induction p with
  | nil => simp [cutL]
  | cons x r ih =>
    rw [List.cons_append, cutL]
    rw [cutL] at h
    by_cases hx : (x == c) = true
    · rw [if_pos hx] at h; cases h
    · rw [if_neg hx] at h
      rw [if_neg hx]
      have hr : cutL r c = none := by
        cases e : cutL r c with
        | none => rfl
        | some q => rw [e] at h; cases h
      rw [ih hr]; rfl
theorem inter_cons (c : UInt8) (p q : List UInt8) (r : List (List UInt8)) : List.intercalate [c] (p :: q :: r) = p ++ c :: List.intercalate [c] (q :: r) := by
  simp [List.intercalate, List.intersperse]
theorem split_inter (c : UInt8) : ∀ (r : List (List UInt8)) (p : List UInt8), (∀ q ∈ p :: r, cutL q c = none) → splitL (List.intercalate [c] (p :: r)) c = p :: r
  | [], p, h => by
    have e : List.intercalate [c] [p] = p := by simp [List.intercalate]
    rw [e, split_cut, h p (by simp)]
  | q :: r, p, h => by
    rw [inter_cons, split_cut, cut_app (h p (by simp))]
    show p :: splitL (List.intercalate [c] (q :: r)) c = _
    rw [split_inter c r q fun x hx => h x (List.mem_cons_of_mem _ hx)]

def cleanB (s : List UInt8) : Bool := !(s.any ctlB) && (cutL s 9).isNone
def hidT : List UInt8 := [35, 72, 116, 116, 112, 79, 110, 108, 121, 95]
def truthL (b : Bool) : List UInt8 := if b then [84, 82, 85, 69] else [70, 65, 76, 83, 69]
def headL (x : It) : List UInt8 := (if x.c.ht then hidT else []) ++ (if x.c.ho then [] else [46])
def expL (x : It) : List UInt8 := if x.c.pe then textL x.c.ex else [45]
def fieldsX (x : It) : List (List UInt8) := [headL x ++ x.k.d, truthL (!x.c.ho), x.k.p, truthL x.c.se, expL x, x.k.n, x.c.v]
def lineT (x : It) : List UInt8 := Lib.join (fieldsX x) [9]
/-- An item's line. -/
def lineO (x : It) : Option (List UInt8) := if rightI x && (cleanB x.k.p && (cleanB x.k.n && cleanB x.c.v)) then some (lineT x) else none
def passedB (s : List UInt8) : Bool := s == [] || (s.getD 0 0 == 35 && !Lib.hasPrefix s hidT)
def htX (l : List UInt8) : Bool := Lib.hasPrefix l hidT
def dX (l : List UInt8) : List UInt8 := if htX l then l.drop 10 else l
def wideX (l : List UInt8) : Bool := Lib.hasPrefix (dX l) [46]
def domX (l : List UInt8) : List UInt8 := if wideX l then (dX l).drop 1 else dX l
def fldX (f : List (List UInt8)) (i : Nat) : List UInt8 := f.getD i []
/-- The item of a line's parts. -/
def parseX (f : List (List UInt8)) (t : Int) : It :=
  ⟨⟨fldX f 5, domX (fldX f 0), fldX f 2⟩, ⟨fldX f 6, !wideX (fldX f 0), fldX f 3 == truthL true, htX (fldX f 0), !(fldX f 4 == [45]), if fldX f 4 == [45] then 1099511627776 else numV (fldX f 4), t, t⟩⟩
def clampT (n : Int) : Int := min (max n 0) 1099511627776
/-- The item of a line. -/
def parseO (s : List UInt8) (now : Int) : Option It :=
  if decide ((splitL s 9).length = 7) && (!passedB s && lineO (parseX (splitL s 9) (clampT now)) == some s) then some (parseX (splitL s 9) (clampT now)) else none
def agedX (x : It) (t : Int) : It := ⟨x.k, { x.c with cr := t, ac := t }⟩

theorem clean_cut {s : List UInt8} (h : cleanB s = true) : cutL s 9 = none := by
  unfold cleanB at h
  simp only [Bool.and_eq_true, Option.isNone_iff_eq_none] at h
  exact h.2
theorem cut_none_of {l : List UInt8} {c : UInt8} (h : ∀ x ∈ l, x ≠ c) : cutL l c = none := by
  induction l with
  | nil => rfl
  | cons x r ih =>
    rw [cutL, if_neg (by simpa using h x (by simp)), ih fun y hy => h y (by simp [hy])]; rfl
theorem upL_range : ∀ (n : Nat), ∀ c ∈ upL n, 48 ≤ c.toNat ∧ c.toNat ≤ 57 := by
  intro n
  induction n using Nat.strongRecOn with
  | _ n ih =>
    intro c hc
    unfold upL at hc
    split at hc
    · rename_i h
      rw [List.mem_singleton.1 hc]
      simp; omega
    · rename_i h
      rcases List.mem_append.1 hc with hc | hc
      · exact ih (n / 10) (by omega) c hc
      · rw [List.mem_singleton.1 hc]
        simp; omega
theorem textL_no9 (n : Int) : cutL (textL n) 9 = none := by
  refine cut_none_of fun x hx e => ?_
  subst e
  unfold textL at hx
  split at hx
  · rcases List.mem_cons.1 hx with h | h
    · cases h
    · have := upL_range _ _ h; simp at this
  · have := upL_range _ _ hx; simp at this
theorem canon_no9 {d : List UInt8} (h : canonB d = true) : cutL d 9 = none := by
  refine cut_none_of fun x hx e => ?_
  subst e
  have := (canon_cn h).2.2.1
  unfold visB at this
  rw [List.all_eq_true] at this
  have := this _ hx
  revert this; decide
theorem cut_append {a b : List UInt8} {c : UInt8} (ha : cutL a c = none) (hb : cutL b c = none) : cutL (a ++ b) c = none := by
  have mem : ∀ {l : List UInt8}, cutL l c = none → ∀ x ∈ l, x ≠ c := by
    intro l
    induction l with
    | nil => intro _ x hx; cases hx
    | cons y r ih =>
      intro h x hx
      rw [cutL] at h
      by_cases hy : (y == c) = true
      · rw [if_pos hy] at h; cases h
      · rw [if_neg hy] at h
        have hr : cutL r c = none := by
          cases e : cutL r c with
          | none => rfl
          | some q => rw [e] at h; cases h
        rcases List.mem_cons.1 hx with rfl | hx
        · simpa using hy
        · exact ih hr x hx
  refine cut_none_of fun x hx => ?_
  rcases List.mem_append.1 hx with hx | hx
  · exact mem ha x hx
  · exact mem hb x hx
theorem lineO_parts {x : It} {s : List UInt8} (h : lineO x = some s) : rightI x = true ∧ cleanB x.k.p = true ∧ cleanB x.k.n = true ∧ cleanB x.c.v = true ∧ lineT x = s := by
  unfold lineO at h
  split at h
  · rename_i hc
    simp only [Bool.and_eq_true] at hc
    exact ⟨hc.1, hc.2.1, hc.2.2.1, hc.2.2.2, Option.some.inj h⟩
  · cases h
theorem right_canon {x : It} (h : rightI x = true) : canonB x.k.d = true := by
  unfold rightI at h
  simp only [Bool.and_eq_true] at h
  exact h.2.2.2.1
theorem right_time {x : It} (h : rightI x = true) : timeR x.c = true := by
  unfold rightI at h
  simp only [Bool.and_eq_true] at h
  exact h.2.2.2.2.2.2.2
/-- A line's parts are the item's fields. -/
theorem line_split {x : It} {s : List UInt8} (h : lineO x = some s) : splitL s 9 = fieldsX x := by
  obtain ⟨h1, h2, h3, h4, rfl⟩ := lineO_parts h
  unfold lineT Lib.join fieldsX
  refine split_inter 9 _ _ ?_
  intro q hq
  simp only [List.mem_cons, List.not_mem_nil, or_false] at hq
  rcases hq with rfl | rfl | rfl | rfl | rfl | rfl | rfl
  · refine cut_append ?_ (canon_no9 (right_canon h1))
    unfold headL
    refine cut_append ?_ ?_
    · split <;> decide
    · split <;> decide
  · unfold truthL; split <;> decide
  · exact clean_cut h2
  · unfold truthL; split <;> decide
  · unfold expL
    split
    · exact textL_no9 _
    · decide
  · exact clean_cut h3
  · exact clean_cut h4

theorem canon_head {d : List UInt8} (h : canonB d = true) : ∃ c r, d = c :: r ∧ c ≠ 35 ∧ c ≠ 46 := by
  cases d with
  | nil => exact absurd rfl (canon_cn h).1
  | cons c r =>
    refine ⟨c, r, rfl, ?_, ?_⟩
    · rintro rfl
      rcases canon_signs h with ⟨m, e, _⟩ | ⟨_, h2⟩
      · have := (List.cons.inj e).1; revert this; decide
      · have := h2 35 (by simp); revert this; decide
    · rintro rfl
      have hs : splitL (46 :: r) 46 = [] :: splitL r 46 := split_hit r (by decide)
      have h1 : nameB (46 :: r) = false := by unfold nameB; rw [hs]; simp [labelB]
      have h2 : fourB (46 :: r) = false := by unfold fourB; rw [hs]; simp [partB]
      have h3 : bracketB (46 :: r) = false := by unfold bracketB; simp
      unfold canonB addrB at h
      rw [h1, h2, h3] at h
      cases h
theorem head_parts {x : It} (h : canonB x.k.d = true) : htX (headL x ++ x.k.d) = x.c.ht ∧ wideX (headL x ++ x.k.d) = !x.c.ho ∧ domX (headL x ++ x.k.d) = x.k.d := by
  obtain ⟨c, r, hd, h1, h2⟩ := canon_head h
  have a1 : Lib.hasPrefix (c :: r) [46] = false := by
    show ((46 : UInt8) == c && _) = false
    rw [beq_eq_false_iff_ne.2 (Ne.symm h2)]; rfl
  have a2 : Lib.hasPrefix (c :: r) hidT = false := by
    show ((35 : UInt8) == c && _) = false
    rw [beq_eq_false_iff_ne.2 (Ne.symm h1)]; rfl
  have a3 : Lib.hasPrefix (46 :: c :: r) hidT = false := rfl
  have a4 : Lib.hasPrefix (46 :: c :: r) [46] = true := by simp [Lib.hasPrefix]
  have a5 : ∀ t, Lib.hasPrefix (hidT ++ t) hidT = true := by intro t; simp [Lib.hasPrefix, hidT]
  have a6 : ∀ t, (hidT ++ t).drop 10 = t := by intro t; simp [hidT]
  unfold headL
  rw [hd]
  cases e1 : x.c.ht <;> cases e2 : x.c.ho <;> simp [htX, dX, wideX, domX, a1, a2, a3, a4, a5, a6]
theorem textL_dash (n : Int) : (textL n == [45]) = false := by
  rw [beq_eq_false_iff_ne]
  unfold textL
  split
  · intro e
    exact upL_ne _ (List.cons.inj e).2
  · intro e
    have := upL_range n.toNat 45 (by rw [e]; simp)
    revert this; decide
theorem parse_fields {x : It} (h : rightI x = true) (t : Int) : parseX (fieldsX x) t = agedX x t := by
  obtain ⟨h1, h2, h3⟩ := head_parts (right_canon h)
  have ht := right_time h
  unfold timeR inB at ht
  simp only [Bool.and_eq_true, decide_eq_true_eq, Bool.or_eq_true, beq_iff_eq] at ht
  have e4 : (!(expL x == [45])) = x.c.pe := by
    unfold expL
    cases hp : x.c.pe with
    | true => simp only [if_true]; rw [textL_dash]; rfl
    | false => rfl
  have e5 : (if expL x == [45] then (1099511627776 : Int) else numV (expL x)) = x.c.ex := by
    unfold expL
    cases hp : x.c.pe with
    | true =>
      simp only [if_true]
      rw [textL_dash, (num_text x.c.ex).2]
      split
      · rename_i e; cases e
      · split <;> omega
    | false =>
      have := ht.2.2.2
      rw [hp] at this
      simp at this
      simp [this]
  have e3 : (truthL x.c.se == truthL true) = x.c.se := by cases x.c.se <;> decide
  show (⟨⟨x.k.n, domX (headL x ++ x.k.d), x.k.p⟩, ⟨x.c.v, !wideX (headL x ++ x.k.d), truthL x.c.se == truthL true, htX (headL x ++ x.k.d), !(expL x == [45]), if expL x == [45] then 1099511627776 else numV (expL x), t, t⟩⟩ : It) = agedX x t
  rw [h1, h2, h3, e3, e4, e5, Bool.not_not]
  rfl
theorem passed_line {x : It} (h : rightI x = true) : passedB (lineT x) = false := by
  obtain ⟨c, r, hd, h1, h2⟩ := canon_head (right_canon h)
  have e : lineT x = (headL x ++ x.k.d) ++ 9 :: List.intercalate [9] (fieldsX x).tail := by
    unfold lineT Lib.join fieldsX
    rw [inter_cons]; rfl
  rw [e]
  generalize List.intercalate [9] (fieldsX x).tail = t
  unfold passedB headL
  rw [hd]
  have a5 : ∀ t, Lib.hasPrefix (hidT ++ t) hidT = true := by intro t; simp [Lib.hasPrefix, hidT]
  cases e1 : x.c.ht <;> cases e2 : x.c.ho <;> simp [a5, h1, List.append_assoc]
theorem clampT_in (n : Int) : inB (clampT n) 0 1099511627776 = true := by
  unfold inB clampT
  simp only [Bool.and_eq_true, decide_eq_true_eq]
  omega
theorem lineO_aged {x : It} {s : List UInt8} (h : lineO x = some s) (now : Int) : lineO (agedX x (clampT now)) = some s := by
  obtain ⟨h1, h2, h3, h4, h5⟩ := lineO_parts h
  have hr : rightI (agedX x (clampT now)) = true := by
    unfold rightI at h1 ⊢
    simp only [Bool.and_eq_true] at h1 ⊢
    obtain ⟨g1, g2, g3, g4, g5, g6, g7, g8⟩ := h1
    refine ⟨g1, g2, g3, g4, g5, g6, g7, ?_⟩
    unfold timeR at g8 ⊢
    simp only [Bool.and_eq_true] at g8 ⊢
    exact ⟨g8.1, clampT_in now, clampT_in now, g8.2.2.2⟩
  unfold lineO
  rw [if_pos (by simp only [Bool.and_eq_true]; exact ⟨hr, h2, h3, h4⟩)]
  exact congrArg some h5
/-- A line is parsed as its item, at another time. -/
theorem parse_line {x : It} {s : List UInt8} (h : lineO x = some s) (now : Int) : parseO s now = some (agedX x (clampT now)) := by
  obtain ⟨h1, h2, h3, h4, h5⟩ := lineO_parts h
  unfold parseO
  rw [line_split h, parse_fields h1, lineO_aged h now, ← h5, passed_line h1]
  simp [fieldsX]
theorem parse_some {s : List UInt8} {now : Int} {x : It} (h : parseO s now = some x) : (splitL s 9).length = 7 ∧ passedB s = false ∧ lineO x = some s ∧ x = parseX (splitL s 9) (clampT now) := by
  unfold parseO at h
  split at h
  · rename_i hc
    simp only [Bool.and_eq_true, decide_eq_true_eq, Bool.not_eq_true', beq_iff_eq] at hc
    have e := Option.some.inj h
    exact ⟨hc.1, hc.2.1, by rw [← e]; exact hc.2.2, e.symm⟩
  · cases h
/-- Where a line is its item's, its words are right. -/
theorem parse_words {f : List (List UInt8)} {t : Int} {s : List UInt8} (h : lineO (parseX f t) = some s) (hf : splitL s 9 = f) :
    fldX f 1 = truthL (wideX (fldX f 0)) ∧ (fldX f 3 = truthL true ∨ fldX f 3 = truthL false) ∧ (fldX f 4 = [45] ∨ (numOk (fldX f 4) = true ∧ textL (numV (fldX f 4)) = fldX f 4)) := by
  have hs := line_split h
  rw [hf] at hs
  have f1 : fldX f 1 = truthL (!(parseX f t).c.ho) := (congrArg (fun g => fldX g 1) hs).trans rfl
  have f3 : fldX f 3 = truthL (parseX f t).c.se := (congrArg (fun g => fldX g 3) hs).trans rfl
  have f4 : fldX f 4 = expL (parseX f t) := (congrArg (fun g => fldX g 4) hs).trans rfl
  refine ⟨?_, ?_, ?_⟩
  · rw [f1]; show truthL (!(!wideX (fldX f 0))) = _; rw [Bool.not_not]
  · cases e : (parseX f t).c.se with
    | false => rw [e] at f3; exact .inr f3
    | true => rw [e] at f3; exact .inl f3
  · by_cases h4 : fldX f 4 = [45]
    · exact .inl h4
    · right
      have hp : (parseX f t).c.pe = true := by
        show (!(fldX f 4 == [45])) = true
        simp [h4]
      have hx : (parseX f t).c.ex = numV (fldX f 4) := by
        show (if fldX f 4 == [45] then _ else _) = _
        rw [if_neg (by simpa using h4)]
      unfold expL at f4
      rw [if_pos hp, hx] at f4
      exact ⟨by rw [f4]; exact (num_text _).1, f4.symm⟩
end Go.Proofs.Ytgfoaopfdpclhaa
