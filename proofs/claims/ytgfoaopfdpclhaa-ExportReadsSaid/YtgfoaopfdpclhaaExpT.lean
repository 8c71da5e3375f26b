/-
  Plain laws: items' lines as a text, and the items of a text.
-/
import Derived.Test.YtgfoaopfdpclhaaAppP
import Derived.Test.YtgfoaopfdpclhaaDiff5
import Derived.Test.YtgfoaopfdpclhaaExp5
namespace Go.Proofs.Ytgfoaopfdpclhaa
open Go.RowKit
set_option linter.unusedVariables false

def hasK (l : List It) (k : Ky) : Bool := (findI l k).isSome
/-- Items put one behind the other; none: a key stands twice. -/
def putsT : List It → List It → Option (List It)
  | out, [] => some out
  | out, x :: r => if hasK out x.k then none else putsT (putV out x) r
def linesT (l : List It) : List UInt8 := l.flatMap fun x => lineS x ++ [10]
def badT (l : List It) : Bool := l.any fun x => (lineO x).isNone
def textE (l : List It) : Int := if badT l then 1 else if (putsT [] l).isNone then 11 else if (linesT ((putsT [] l).getD [])).length > 1048576 then 3 else 0
def textS (l : List It) : List UInt8 := if textE l = 0 then linesT ((putsT [] l).getD []) else []
/-- The items of a text's parts: the items, the line, and the error. -/
def readL (now : Int) : List It → Nat → List (List UInt8) → List It × Nat × Int
  | out, n, [] => (out, 0, 0)
  | out, n, [t] => if t = [] then (out, 0, 0) else ([], n, 2)
  | out, n, t :: q :: r => if passedB t then readL now out (n + 1) (q :: r) else match parseO t now with
    | none => ([], n, 1)
    | some x => if hasK out x.k then ([], n, 11) else readL now (putV out x) (n + 1) (q :: r)

theorem hasK_false {l : List It} {k : Ky} : hasK l k = false ↔ k ∉ keysL l := by
  unfold hasK
  constructor
  · intro h hm
    obtain ⟨y, hy, e⟩ := List.mem_map.1 hm
    cases hf : findI l k with
    | some z => rw [hf] at h; cases h
    | none =>
      unfold findI at hf
      have := List.find?_eq_none.1 hf y hy
      simp at this
      exact this e
  · intro h
    rw [findI_none fun y hy e => h (List.mem_map.2 ⟨y, hy, e⟩)]
    rfl
theorem putI_len_new {l : List It} {x : It} (h : hasK l x.k = false) : (putI l x).length = l.length + 1 := by
  rw [hasK_false] at h
  have : ∀ l : List It, x.k ∉ keysL l → (l.filter fun y => lessK y.k x.k).length + (l.filter fun y => lessK x.k y.k).length = l.length := by
    intro l
    induction l with
    | nil => intro _; rfl
    | cons a r ih =>
      intro hn
      have h1 : x.k ≠ a.k := fun e => hn (by simp [keysL, e])
      have h2 : x.k ∉ keysL r := fun e => hn (List.mem_cons_of_mem _ e)
      have h3 := ih h2
      rcases lessK_tri x.k a.k with e | e | e
      · exact absurd e h1
      · have e' := lessK_asym e
        simp [e, e']; omega
      · have e' := lessK_asym e
        simp [e, e']; omega
  unfold putI
  have h2 := this l h
  simp only [List.length_append, List.length_cons, List.length_nil]
  omega
theorem putI_len_old {l : List It} {x : It} (h : hasK l x.k = true) : (putI l x).length ≤ l.length := by
  have : ∀ l : List It, x.k ∈ keysL l → (l.filter fun y => lessK y.k x.k).length + (l.filter fun y => lessK x.k y.k).length + 1 ≤ l.length := by
    intro l
    induction l with
    | nil => intro h; cases h
    | cons a r ih =>
      intro hn
      by_cases h1 : x.k = a.k
      · have h2 := two_filters (fun y : It => lessK y.k x.k) (fun y => lessK x.k y.k) (fun y hy => lessK_asym hy) r
        have e1 : lessK a.k x.k = false := by rw [h1]; exact lessK_irr _
        have e2 : lessK x.k a.k = false := by rw [h1]; exact lessK_irr _
        simp [e1, e2] at h2 ⊢
        omega
      · have h2 : x.k ∈ keysL r := by
          rcases List.mem_cons.1 hn with e | e
          · exact absurd e h1
          · exact e
        have h3 := ih h2
        rcases lessK_tri x.k a.k with e | e | e
        · exact absurd e h1
        · have e' := lessK_asym e
          simp [e, e']; omega
        · have e' := lessK_asym e
          simp [e, e']; omega
  have hm : x.k ∈ keysL l := by
    by_cases hm : x.k ∈ keysL l
    · exact hm
    · rw [hasK_false.2 hm] at h; cases h
  unfold putI
  have h2 := this l hm
  simp only [List.length_append, List.length_cons, List.length_nil]
  omega
theorem puts_fold : ∀ (r : List It) {out : List It}, RisK (keysL out) → putsT out r = if (r.foldl putI out).length < out.length + r.length then none else some (r.foldl putI out)
  | [], out, _ => by
    rw [putsT, if_neg (by simp)]; rfl
  | x :: r, out, h => by
    rw [putsT]
    cases hk : hasK out x.k with
    | true =>
      have h1 := putI_len_old hk
      have h2 := foldl_put_len r (putI out x)
      rw [if_pos rfl, if_pos]
      rw [List.foldl_cons, List.length_cons]
      omega
    | false =>
      have h1 := putI_len_new hk
      rw [if_neg (by simp), putV_putI x h, puts_fold r (put_ris x h), List.foldl_cons, List.length_cons, h1]
      have : out.length + 1 + r.length = out.length + (r.length + 1) := by omega
      rw [this]
theorem puts_keys (l : List It) : putsT [] l = if (byKeysL l).length < l.length then none else some (byKeysL l) := by
  rw [puts_fold l (out := []) List.Pairwise.nil]
  simp only [List.length_nil, Nat.zero_add]
  rfl
theorem putI_end {l : List It} {x : It} (h : ∀ j ∈ keysL l, lessK j x.k = true) : putI l x = l ++ [x] := by
  have h1 : l.filter (fun y => lessK y.k x.k) = l := List.filter_eq_self.2 fun y hy => h _ (List.mem_map.2 ⟨y, hy, rfl⟩)
  have h2 : l.filter (fun y => lessK x.k y.k) = [] := List.filter_eq_nil_iff.2 fun y hy => by rw [lessK_asym (h _ (List.mem_map.2 ⟨y, hy, rfl⟩))]; simp
  unfold putI
  rw [h1, h2]; simp
theorem ris_app {l r : List It} {x : It} (h : RisK (keysL (l ++ x :: r))) : (∀ j ∈ keysL l, lessK j x.k = true) ∧ RisK (keysL l) ∧ RisK (keysL ((l ++ [x]) ++ r)) := by
  have e : keysL (l ++ x :: r) = keysL l ++ x.k :: keysL r := by simp [keysL]
  have h' := h
  rw [e] at h'
  have h2 := List.pairwise_append.1 h'
  refine ⟨fun j hj => h2.2.2 j hj x.k (by simp), h2.1, ?_⟩
  rw [List.append_assoc]; exact h
theorem end_key {l : List It} {x : It} (h : ∀ j ∈ keysL l, lessK j x.k = true) : hasK l x.k = false := by
  rw [hasK_false]
  intro hm
  have := h _ hm
  rw [lessK_irr] at this; cases this
theorem puts_ris : ∀ (r : List It) {out : List It}, RisK (keysL (out ++ r)) → putsT out r = some (out ++ r)
  | [], out, _ => by rw [putsT, List.append_nil]
  | x :: r, out, h => by
    obtain ⟨h1, h2, h3⟩ := ris_app h
    rw [putsT, end_key h1, if_neg (by simp), putV_putI x h2, putI_end h1, puts_ris r h3, List.append_assoc]
    rfl
theorem mem_fold {y : It} : ∀ (r : List It) {out : List It}, y ∈ r.foldl putI out → y ∈ out ∨ y ∈ r
  | [], out, h => .inl h
  | x :: r, out, h => by
    rw [List.foldl_cons] at h
    rcases mem_fold r h with h | h
    · unfold putI at h
      rcases List.mem_append.1 h with h | h
      · rcases List.mem_append.1 h with h | h
        · exact .inl (List.mem_filter.1 h).1
        · rw [List.mem_singleton.1 h]; exact .inr (by simp)
      · exact .inl (List.mem_filter.1 h).1
    · exact .inr (List.mem_cons_of_mem _ h)
theorem byKeys_in {l : List It} {y : It} (h : y ∈ byKeysL l) : y ∈ l := by
  rcases mem_fold l h with h | h
  · cases h
  · exact h
theorem mem_putV {l : List It} {x y : It} (h : y ∈ putV l x) : y ∈ l ∨ y = x := by
  unfold putV woL at h
  rcases List.mem_append.1 h with h | h
  · exact .inl (List.mem_filter.1 (List.mem_of_mem_take h)).1
  · rcases List.mem_cons.1 h with h | h
    · exact .inr h
    · exact .inl (List.mem_filter.1 (List.mem_of_mem_drop h)).1

theorem passed_some {x : It} {s : List UInt8} (h : lineO x = some s) : passedB s = false := by
  obtain ⟨h1, _, _, _, rfl⟩ := lineO_parts h
  exact passed_line h1
theorem any_none {s : List UInt8} (h : cleanB s = true) : cutL s 10 = none := by
  unfold cleanB at h
  simp only [Bool.and_eq_true, Bool.not_eq_true'] at h
  refine cut_none_of fun x hx e => ?_
  subst e
  have := List.any_eq_false.1 h.1 _ hx
  revert this; decide
theorem canon_no10 {d : List UInt8} (h : canonB d = true) : cutL d 10 = none := by
  refine cut_none_of fun x hx e => ?_
  subst e
  have := (canon_cn h).2.2.1
  unfold visB at this
  rw [List.all_eq_true] at this
  have := this _ hx
  revert this; decide
theorem textL_no10 (n : Int) : cutL (textL n) 10 = none := by
  refine cut_none_of fun x hx e => ?_
  subst e
  unfold textL at hx
  split at hx
  · rcases List.mem_cons.1 hx with h | h
    · cases h
    · have := upL_range _ _ h; simp at this
  · have := upL_range _ _ hx; simp at this
theorem line_no10 {x : It} {s : List UInt8} (h : lineO x = some s) : cutL s 10 = none := by
  obtain ⟨h1, h2, h3, h4, rfl⟩ := lineO_parts h
  have a : ∀ b, cutL (truthL b) 10 = none := by intro b; cases b <;> decide
  have t : cutL [9] 10 = none := by decide
  have e : cutL (expL x) 10 = none := by
    unfold expL
    split
    · exact textL_no10 _
    · decide
  have hd : cutL (headL x) 10 = none := by
    unfold headL
    refine cut_append ?_ ?_
    · split <;> decide
    · split <;> decide
  show cutL (Lib.join [headL x ++ x.k.d, truthL (!x.c.ho), x.k.p, truthL x.c.se, expL x, x.k.n, x.c.v] [9]) 10 = none
  have e2 : Lib.join [headL x ++ x.k.d, truthL (!x.c.ho), x.k.p, truthL x.c.se, expL x, x.k.n, x.c.v] [9] = (headL x ++ x.k.d) ++ ([9] ++ (truthL (!x.c.ho) ++ ([9] ++ (x.k.p ++ ([9] ++ (truthL x.c.se ++ ([9] ++ (expL x ++ ([9] ++ (x.k.n ++ ([9] ++ x.c.v))))))))))) := by
    unfold Lib.join
    rw [inter_cons, inter_cons, inter_cons, inter_cons, inter_cons, inter_cons]
    simp [List.intercalate]
  rw [e2]
  exact cut_append (cut_append hd (canon_no10 (right_canon h1))) (cut_append t (cut_append (a _) (cut_append t (cut_append (any_none h2) (cut_append t (cut_append (a _) (cut_append t (cut_append e (cut_append t (cut_append (any_none h3) (cut_append t (any_none h4))))))))))))
theorem badT_mem {l : List It} (h : badT l = false) {x : It} (hx : x ∈ l) : lineO x = some (lineS x) := by
  unfold badT at h
  have := List.any_eq_false.1 h x hx
  unfold lineS
  cases e : lineO x with
  | none => rw [e] at this; exact absurd rfl this
  | some t => rfl
theorem split_lines : ∀ (l : List It), (∀ x ∈ l, lineO x = some (lineS x)) → splitL (linesT l) 10 = l.map lineS ++ [[]]
  | [], _ => rfl
  | x :: r, h => by
    have e : linesT (x :: r) = lineS x ++ 10 :: linesT r := by simp [linesT]
    rw [e, split_cut, cut_app (line_no10 (h x (by simp)))]
    show lineS x :: splitL (linesT r) 10 = _
    rw [split_lines r fun y hy => h y (List.mem_cons_of_mem _ hy)]
    rfl
theorem aged_keys (l : List It) (t : Int) : keysL (l.map fun x => agedX x t) = keysL l := by
  unfold keysL
  rw [List.map_map]; rfl
theorem read_lines (now : Int) : ∀ (r : List It) (out : List It) (n : Nat), (∀ x ∈ r, lineO x = some (lineS x)) → RisK (keysL (out ++ r)) →
    readL now (out.map fun x => agedX x (clampT now)) n (r.map lineS ++ [[]]) = ((out ++ r).map fun x => agedX x (clampT now), 0, 0)
  | [], out, n, _, _ => by
    rw [List.append_nil]
    show readL now _ n [[]] = _
    rw [readL, if_pos rfl]
  | x :: r, out, n, h, hr => by
    obtain ⟨h1, h2, h3⟩ := ris_app hr
    have hx := h x (by simp)
    have ep := passed_some hx
    have eo := parse_line hx now
    have hk : ∀ j ∈ keysL (out.map fun x => agedX x (clampT now)), lessK j (agedX x (clampT now)).k = true := by rw [aged_keys]; exact h1
    have hs : RisK (keysL (out.map fun x => agedX x (clampT now))) := by rw [aged_keys]; exact h2
    have ih := read_lines now r (out ++ [x]) (n + 1) (fun y hy => h y (List.mem_cons_of_mem _ hy)) h3
    have ep2 : putV (out.map fun x => agedX x (clampT now)) (agedX x (clampT now)) = (out ++ [x]).map fun x => agedX x (clampT now) := by
      rw [putV_putI _ hs, putI_end hk, List.map_append]; rfl
    have e2 : ∃ q u, r.map lineS ++ [[]] = q :: u := by cases r with
      | nil => exact ⟨_, _, rfl⟩
      | cons a b => exact ⟨_, _, rfl⟩
    obtain ⟨q, u, e2⟩ := e2
    show readL now _ n (lineS x :: (r.map lineS ++ [[]])) = _
    rw [e2] at ih ⊢
    rw [readL, ep, if_neg (by simp), eo]
    show (if hasK _ (agedX x (clampT now)).k then _ else _) = _
    rw [end_key hk, if_neg (by simp), ep2, ih, List.append_assoc]
    rfl
/-- The items of items' lines. -/
theorem read_text {l : List It} (now : Int) (h : badT l = false) (hr : RisK (keysL l)) : readL now [] 1 (splitL (linesT l) 10) = (l.map fun x => agedX x (clampT now), 0, 0) := by
  have hm : ∀ x ∈ l, lineO x = some (lineS x) := fun x hx => badT_mem h hx
  rw [split_lines l hm]
  exact read_lines now l [] 1 hm hr

theorem split_sum (c : UInt8) : ∀ l : List UInt8, ((splitL l c).map fun p => p.length + 1).sum = l.length + 1 := by
  intro l
  induction l with
  | nil => rfl
  | cons x r ih =>
    by_cases hx : (x == c) = true
    · rw [split_hit r hx]
      simp [ih]; omega
    · rw [split_miss r hx]
      cases hr : splitL r c with
      | nil => exact absurd hr (split_ne r c)
      | cons a b =>
        rw [hr] at ih
        simp at ih ⊢
        omega
def sumT (l : List It) : Nat := (l.map fun x => (lineS x).length + 1).sum
theorem lines_len (l : List It) : (linesT l).length = sumT l := by
  unfold linesT sumT
  rw [List.length_flatMap]
  simp
theorem sumT_app (l m : List It) : sumT (l ++ m) = sumT l + sumT m := by unfold sumT; simp
theorem sumT_cons (x : It) (l : List It) : sumT (x :: l) = (lineS x).length + 1 + sumT l := by unfold sumT; simp
theorem sumT_filter (p : It → Bool) : ∀ l : List It, sumT (l.filter p) ≤ sumT l
  | [] => Nat.le_refl _
  | x :: r => by
    have := sumT_filter p r
    cases h : p x
    · rw [List.filter_cons_of_neg (by simp [h]), sumT_cons]; omega
    · rw [List.filter_cons_of_pos h, sumT_cons, sumT_cons]; omega
theorem sumT_putV (l : List It) (x : It) : sumT (putV l x) ≤ sumT l + ((lineS x).length + 1) := by
  unfold putV
  rw [sumT_app, sumT_cons]
  have h := sumT_filter (notK x.k) l
  have e : sumT ((woL l x.k).take (atN (woL l x.k) x.k)) + sumT ((woL l x.k).drop (atN (woL l x.k) x.k)) = sumT (woL l x.k) := by
    rw [← sumT_app, List.take_append_drop]
  have : sumT (woL l x.k) ≤ sumT l := h
  omega
def PL (now : Int) (out : List It) : Prop := ∀ x ∈ out, lineO x = some (lineS x) ∧ agedX x (clampT now) = x
theorem read_good (now : Int) : ∀ (p : List (List UInt8)) (out : List It) (n : Nat), PL now out → RisK (keysL out) → (readL now out n p).2.2 = 0 →
    PL now (readL now out n p).1 ∧ RisK (keysL (readL now out n p).1) ∧ sumT (readL now out n p).1 ≤ sumT out + (p.map fun q => q.length + 1).sum ∧ (readL now out n p).2.1 = 0
  | [], out, n, h1, h2, h => by simp only [readL]; exact ⟨h1, h2, by omega, trivial⟩
  | [t], out, n, h1, h2, h => by
    rw [readL] at h ⊢
    split at h
    · rename_i ht
      rw [if_pos ht]; exact ⟨h1, h2, Nat.le_add_right _ _, rfl⟩
    · cases h
  | t :: q :: r, out, n, h1, h2, h => by
    rw [readL] at h ⊢
    cases hp : passedB t with
    | true =>
      rw [hp, if_pos rfl] at h
      rw [if_pos rfl]
      obtain ⟨a, b, c, d⟩ := read_good now (q :: r) out (n + 1) h1 h2 h
      refine ⟨a, b, ?_, d⟩
      rw [List.map_cons, List.sum_cons]
      omega
    | false =>
      rw [hp, if_neg (by simp)] at h
      rw [if_neg (by simp)]
      cases ho : parseO t now with
      | none => rw [ho] at h; cases h
      | some x =>
        rw [ho] at h
        simp only at h ⊢
        cases hk : hasK out x.k with
        | true => rw [hk, if_pos rfl] at h; cases h
        | false =>
          rw [hk, if_neg (by simp)] at h
          rw [if_neg (by simp)]
          obtain ⟨_, _, e3, e4⟩ := parse_some ho
          have hx : lineO x = some (lineS x) ∧ agedX x (clampT now) = x := by
            refine ⟨by rw [lineS, e3]; rfl, ?_⟩
            rw [e4]; rfl
          have hl : (lineS x).length = t.length := by rw [lineS, e3]; rfl
          obtain ⟨a, b, c, d⟩ := read_good now (q :: r) (putV out x) (n + 1) (fun y hy => by
            rcases mem_putV hy with hy | hy
            · exact h1 y hy
            · rw [hy]; exact hx) (putV_ris x h2) h
          refine ⟨a, b, ?_, d⟩
          have := sumT_putV out x
          rw [List.map_cons, List.sum_cons]
          omega
/-- What is read, told: its lines, read as it. -/
theorem read_back {s : List UInt8} {now : Int} (hs : s.length ≤ 8000) (h : (readL now [] 1 (splitL s 10)).2.2 = 0) :
    textE (readL now [] 1 (splitL s 10)).1 = 0 ∧ textS (readL now [] 1 (splitL s 10)).1 = linesT (readL now [] 1 (splitL s 10)).1 ∧
    (linesT (readL now [] 1 (splitL s 10)).1).length ≤ 8001 ∧
    readL now [] 1 (splitL (linesT (readL now [] 1 (splitL s 10)).1) 10) = ((readL now [] 1 (splitL s 10)).1, 0, 0) := by
  obtain ⟨a, b, c, d⟩ := read_good now (splitL s 10) [] 1 (fun x hx => by cases hx) List.Pairwise.nil h
  generalize (readL now [] 1 (splitL s 10)).1 = L at *
  rw [split_sum] at c
  have hl : (linesT L).length ≤ 8001 := by
    rw [lines_len]
    have : sumT [] = 0 := rfl
    omega
  have hb : badT L = false := by
    unfold badT
    rw [List.any_eq_false]
    intro x hx
    rw [(a x hx).1]; simp
  have hp : putsT [] L = some L := puts_ris L (out := []) b
  have he : textE L = 0 := by
    unfold textE
    rw [hb, hp, if_neg (by simp), if_neg (by simp), if_neg]
    show ¬ (linesT L).length > 1048576
    omega
  refine ⟨he, ?_, hl, ?_⟩
  · unfold textS
    rw [if_pos he, hp]; rfl
  · rw [read_text now hb b]
    have : (L.map fun x => agedX x (clampT now)) = L := by
      have : L.map (fun x => agedX x (clampT now)) = L.map id := List.map_congr_left fun x hx => (a x hx).2
      rw [this, List.map_id]
    rw [this]
end Go.Proofs.Ytgfoaopfdpclhaa
