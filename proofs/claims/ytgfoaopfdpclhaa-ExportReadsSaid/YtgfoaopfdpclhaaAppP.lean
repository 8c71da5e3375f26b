/-
  Plain facts on changes applied to items: the program's putting is the reference's one for items by keys; what makes one list of another one makes it, and back. No program in sight.
-/
import Derived.Test.YtgfoaopfdpclhaaView
namespace Go.Proofs.Ytgfoaopfdpclhaa
open Go.RowKit
set_option linter.unusedVariables false

theorem woL_gt {l : List It} {k : Ky} (h : ∀ j ∈ keysL l, lessK k j = true) : woL l k = l := by
  unfold woL
  rw [List.filter_eq_self]
  intro y hy
  have := lessK_ne (h y.k (by unfold keysL; exact List.mem_map.2 ⟨y, hy, rfl⟩))
  unfold notK
  simp [Ne.symm this]
theorem atN_gt {l : List It} {k : Ky} (h : ∀ j ∈ keysL l, lessK k j = true) : atN l k = 0 := by
  cases l with
  | nil => rfl
  | cons a r =>
    have := lessK_asym (h a.k (by simp [keysL]))
    unfold atN
    rw [List.takeWhile_cons, this]
    rfl
theorem putI_gt {l : List It} {x : It} (h : ∀ j ∈ keysL l, lessK x.k j = true) : putI l x = x :: l := by
  unfold putI
  have e1 : (l.filter fun y => lessK y.k x.k) = [] := by
    rw [List.filter_eq_nil_iff]
    intro y hy
    rw [lessK_asym (h y.k (by unfold keysL; exact List.mem_map.2 ⟨y, hy, rfl⟩))]
    decide
  have e2 : (l.filter fun y => lessK x.k y.k) = l := by
    rw [List.filter_eq_self]
    intro y hy
    exact h y.k (by unfold keysL; exact List.mem_map.2 ⟨y, hy, rfl⟩)
  rw [e1, e2]; rfl
theorem putV_gt {l : List It} {x : It} (h : ∀ j ∈ keysL l, lessK x.k j = true) : putV l x = x :: l := by
  unfold putV
  rw [woL_gt h, atN_gt h]; rfl
theorem putV_putI (x : It) : ∀ {l : List It}, RisK (keysL l) → putV l x = putI l x
  | [], _ => rfl
  | a :: r, h => by
    obtain ⟨h1, h2⟩ := List.pairwise_cons.1 h
    have ih := putV_putI x h2
    rcases lessK_tri a.k x.k with e | e | e
    · have hg : ∀ j ∈ keysL r, lessK x.k j = true := fun j hj => by rw [← e]; exact h1 j hj
      have hw : woL (a :: r) x.k = r := by
        show (a :: r).filter (notK x.k) = r
        rw [List.filter_cons, if_neg (by unfold notK; simp [e])]
        exact woL_gt hg
      have hi : putI (a :: r) x = putI r x := by
        unfold putI
        rw [List.filter_cons, if_neg (by rw [e, lessK_irr]; decide), List.filter_cons, if_neg (by rw [e, lessK_irr]; decide)]
      rw [hi, putI_gt hg]
      unfold putV
      rw [hw, atN_gt hg]; rfl
    · have hne := lessK_ne e
      have hw : woL (a :: r) x.k = a :: woL r x.k := by
        show (a :: r).filter (notK x.k) = _
        rw [List.filter_cons, if_pos (by unfold notK; simp [hne])]; rfl
      have ha : atN (a :: woL r x.k) x.k = atN (woL r x.k) x.k + 1 := by
        unfold atN
        rw [List.takeWhile_cons, if_pos e, List.length_cons]
      have hi : putI (a :: r) x = a :: putI r x := by
        unfold putI
        rw [List.filter_cons, if_pos e, List.filter_cons, if_neg (by rw [lessK_asym e]; decide)]; rfl
      rw [hi, ← ih]
      unfold putV
      rw [hw, ha]; rfl
    · have hg : ∀ j ∈ keysL (a :: r), lessK x.k j = true := fun j hj => by
        rcases List.mem_cons.1 hj with rfl | hj
        · exact e
        · exact lessK_trans e (h1 j hj)
      rw [putV_gt hg, putI_gt hg]
theorem wo_ris {l : List It} (k : Ky) (h : RisK (keysL l)) : RisK (keysL (woL l k)) := ris_filter _ h
theorem putV_ris {l : List It} (x : It) (h : RisK (keysL l)) : RisK (keysL (putV l x)) := by rw [putV_putI x h]; exact put_ris x h
theorem wo_len (l : List It) (k : Ky) : (woL l k).length ≤ l.length := List.length_filter_le _ _
theorem putV_len (l : List It) (x : It) : (putV l x).length ≤ l.length + 1 := by
  have := wo_len l x.k
  unfold putV
  simp
  omega

theorem find_filter {p : It → Bool} {k : Ky} (h : ∀ y : It, y.k = k → p y = true) (l : List It) : findI (l.filter p) k = findI l k := by
  unfold findI
  rw [List.find?_filter]
  congr 1
  funext y
  by_cases e : y.k = k
  · simp [e, h y e]
  · simp [e]
theorem find_wo (l : List It) (j k : Ky) : findI (woL l j) k = if k = j then none else findI l k := by
  by_cases e : k = j
  · rw [if_pos e]
    refine findI_none fun y hy h => ?_
    have := (List.mem_filter.1 hy).2
    unfold notK at this
    simp at this
    exact this (h.trans e)
  · rw [if_neg e]
    refine find_filter (fun y hy => ?_) l
    unfold notK
    simp [hy, e]
theorem find_app (l m : List It) (k : Ky) : findI (l ++ m) k = (findI l k).or (findI m k) := by unfold findI; exact List.find?_append
theorem find_put (l : List It) (x : It) (k : Ky) : findI (putI l x) k = if k = x.k then some x else findI l k := by
  unfold putI
  rw [find_app, find_app]
  by_cases e : k = x.k
  · subst e
    rw [if_pos rfl, findI_none (l := l.filter fun y => lessK y.k x.k) (fun y hy h => by
      have := (List.mem_filter.1 hy).2
      rw [h, lessK_irr] at this; cases this), findI_cons_hit]
    rfl
  · rw [if_neg e, findI_cons_miss (Ne.symm e)]
    show ((findI _ k).or none).or _ = _
    rw [Option.or_none]
    rcases lessK_tri k x.k with h | h | h
    · exact absurd h e
    · rw [find_filter (p := fun y => lessK y.k x.k) (fun y hy => by rw [hy]; exact h), findI_none (l := l.filter fun y => lessK x.k y.k) (fun y hy h' => by
        have := (List.mem_filter.1 hy).2
        rw [h', lessK_asym h] at this; cases this), Option.or_none]
    · rw [find_filter (p := fun y => lessK x.k y.k) (fun y hy => by rw [hy]; exact h), findI_none (l := l.filter fun y => lessK y.k x.k) (fun y hy h' => by
        have := (List.mem_filter.1 hy).2
        rw [h', lessK_asym h] at this; cases this)]
      rfl
theorem ris_find {l m : List It} (hl : RisK (keysL l)) (hm : RisK (keysL m)) (h : ∀ k, findI l k = findI m k) : l = m := by
  induction l generalizing m with
  | nil =>
    cases m with
    | nil => rfl
    | cons y m =>
      have := h y.k
      rw [findI_cons_hit] at this
      cases this
  | cons x l ih =>
    obtain ⟨a1, a2⟩ := List.pairwise_cons.1 hl
    cases m with
    | nil =>
      have := h x.k
      rw [findI_cons_hit] at this
      cases this
    | cons y m =>
      obtain ⟨b1, b2⟩ := List.pairwise_cons.1 hm
      have e : x = y := by
        have h1 := h x.k
        rw [findI_cons_hit] at h1
        by_cases e : y.k = x.k
        · rw [← e, findI_cons_hit] at h1
          exact Option.some.inj h1
        · rw [findI_cons_miss e] at h1
          have hx : x.k ∈ keysL m := List.mem_map.2 ⟨x, List.mem_of_find?_eq_some h1.symm, rfl⟩
          have h2 := h y.k
          rw [findI_cons_hit, findI_cons_miss (Ne.symm e)] at h2
          have hy : y.k ∈ keysL l := List.mem_map.2 ⟨y, List.mem_of_find?_eq_some h2, rfl⟩
          have := lessK_asym (b1 _ hx)
          rw [a1 _ hy] at this
          cases this
      subst e
      rw [ih a2 b2 fun k => ?_]
      by_cases e : x.k = k
      · subst e
        rw [keys_gt (x := x) a1, keys_gt (x := x) b1]
      · have := h k
        rwa [findI_cons_miss e, findI_cons_miss e] at this

/-- Does a change fit; a step; many. -/
def fitsB (a : List It) (x : Ch) : Bool := if x.kd = 1 then (findI a x.o.k).isNone else decide (findI a x.o.k = some x.o)
def stepV (a : List It) (x : Ch) : List It := if x.kd = 2 then woL a x.o.k else putV (woL a x.o.k) x.n
def appL : List It → List Ch → Option (List It)
  | a, [] => some a
  | a, x :: r => if fitsB a x then appL (stepV a x) r else none
theorem step_ris {a : List It} (x : Ch) (h : RisK (keysL a)) : RisK (keysL (stepV a x)) := by
  unfold stepV
  split
  · exact wo_ris _ h
  · exact putV_ris _ (wo_ris _ h)
theorem step_len (a : List It) (x : Ch) : (stepV a x).length ≤ a.length + 1 := by
  have h1 := wo_len a x.o.k
  unfold stepV
  split
  · omega
  · have := putV_len (woL a x.o.k) x.n
    omega
theorem app_len : ∀ {l : List Ch} {a b : List It}, appL a l = some b → b.length ≤ a.length + l.length
  | [], a, b, h => by cases h; simp
  | x :: r, a, b, h => by
    unfold appL at h
    split at h
    · have h1 := app_len h
      have h2 := step_len a x
      simp only [List.length_cons]
      omega
    · cases h
theorem app_ris : ∀ {l : List Ch} {a b : List It}, RisK (keysL a) → appL a l = some b → RisK (keysL b)
  | [], a, b, ha, h => by cases h; exact ha
  | x :: r, a, b, ha, h => by
    unfold appL at h
    split at h
    · exact app_ris (step_ris x ha) h
    · cases h
theorem step_find {a : List It} {x : Ch} (h : RisK (keysL a)) (hk : x.n.k = x.o.k) (k : Ky) : findI (stepV a x) k = if k = x.o.k then (if x.kd = 2 then none else some x.n) else findI a k := by
  unfold stepV
  by_cases h2 : x.kd = 2
  · rw [if_pos h2, if_pos h2, find_wo]
  · rw [if_neg h2, if_neg h2, putV_putI _ (wo_ris _ h), find_put, hk, find_wo]
    by_cases e : k = x.o.k <;> simp [e]
def findC (l : List Ch) (k : Ky) : Option Ch := l.find? fun x => decide (x.o.k = k)
theorem app_find : ∀ {l : List Ch} {a : List It}, RisK (keysL a) → RisK (okeys l) → (∀ x ∈ l, fitsB a x = true ∧ x.n.k = x.o.k) →
    ∃ b, appL a l = some b ∧ RisK (keysL b) ∧ ∀ k, findI b k = match findC l k with | some x => if x.kd = 2 then none else some x.n | none => findI a k
  | [], a, ha, _, _ => ⟨a, rfl, ha, fun k => rfl⟩
  | x :: r, a, ha, hl, h => by
    obtain ⟨h1, h2⟩ := List.pairwise_cons.1 hl
    obtain ⟨hf, hk⟩ := h x (by simp)
    have hs := step_find ha hk
    obtain ⟨b, e1, e2, e3⟩ := app_find (l := r) (a := stepV a x) (step_ris x ha) h2 (fun y hy => by
      obtain ⟨f1, f2⟩ := h y (by simp [hy])
      refine ⟨?_, f2⟩
      have hne : y.o.k ≠ x.o.k := Ne.symm (lessK_ne (h1 y.o.k (List.mem_map.2 ⟨y, hy, rfl⟩)))
      unfold fitsB at f1 ⊢
      rw [hs, if_neg hne]
      exact f1)
    refine ⟨b, by unfold appL; rw [if_pos hf]; exact e1, e2, fun k => ?_⟩
    rw [e3 k, hs]
    unfold findC
    rw [List.find?_cons]
    by_cases e : x.o.k = k
    · subst e
      rw [decide_eq_true rfl, if_pos rfl]
      have : (r.find? fun y => decide (y.o.k = x.o.k)) = none := by
        rw [List.find?_eq_none]
        intro y hy
        simpa using Ne.symm (lessK_ne (h1 y.o.k (List.mem_map.2 ⟨y, hy, rfl⟩)))
      rw [this]
    · rw [decide_eq_false e, if_neg (Ne.symm e)]
/-- The changes of keys make one list of another one. -/
def chgs (K : List Ky) (a b : List It) : List Ch := K.filterMap fun k => chg k (findI a k) (findI b k)
theorem chgs_okeys {K : List Ky} (hK : RisK K) (a b : List It) : RisK (okeys (chgs K a b)) :=
  List.Pairwise.sublist (fm_keys (fun k c h => (chg_find h).2) _) hK
theorem chgs_check {K : List Ky} (hK : RisK K) (a b : List It) : checkL (chgs K a b) = 0 := by
  rw [checkL_ok]
  refine ⟨fun x hx => ?_, chgs_okeys hK a b⟩
  obtain ⟨k, _, hk⟩ := List.mem_filterMap.1 hx
  exact (chg_find hk).1
theorem chg_fits {k : Ky} {a b : List It} {c : Ch} (h : chg k (findI a k) (findI b k) = some c) : fitsB a c = true ∧ c.n.k = c.o.k ∧ (if c.kd = 2 then none else some c.n) = findI b k := by
  have hk := (chg_find h).2
  unfold chg at h
  unfold fitsB
  cases ha : findI a k with
  | none =>
    cases hb : findI b k with
    | none => rw [ha, hb] at h; cases h
    | some y =>
      rw [ha, hb] at h
      have hy := findI_key hb
      obtain rfl := Option.some.inj h
      simp [noneI, ha, hy]
  | some x =>
    have hx := findI_key ha
    cases hb : findI b k with
    | none =>
      rw [ha, hb] at h
      obtain rfl := Option.some.inj h
      simp [noneI, hx, ha]
    | some y =>
      have hy := findI_key hb
      rw [ha, hb] at h
      simp only at h
      split at h
      · cases h
      · obtain rfl := Option.some.inj h
        simp [hx, hy, ha]
theorem chgs_app {K : List Ky} {a b : List It} (hK : RisK K) (ha : RisK (keysL a)) (hb : RisK (keysL b)) (h : ∀ k, k ∈ keysL a ∨ k ∈ keysL b → k ∈ K) : appL a (chgs K a b) = some b := by
  obtain ⟨r, e1, e2, e3⟩ := app_find (l := chgs K a b) (a := a) ha (chgs_okeys hK a b) (fun x hx => by
    obtain ⟨k, _, hk⟩ := List.mem_filterMap.1 hx
    exact ⟨(chg_fits hk).1, (chg_fits hk).2.1⟩)
  rw [e1]
  congr 1
  refine ris_find e2 hb fun k => ?_
  rw [e3]
  cases hc : findC (chgs K a b) k with
  | some c =>
    have hck : c.o.k = k := by
      have := List.find?_some hc
      simpa using this
    obtain ⟨j, _, hj⟩ := List.mem_filterMap.1 (List.mem_of_find?_eq_some hc)
    have := (chg_find hj).2
    have e : j = k := this.symm.trans hck
    subst e
    exact (chg_fits hj).2.2
  | none =>
    show findI a k = findI b k
    by_cases hk : k ∈ K
    · have hn : chg k (findI a k) (findI b k) = none := by
        cases h' : chg k (findI a k) (findI b k) with
        | none => rfl
        | some c =>
          have hm : c ∈ chgs K a b := List.mem_filterMap.2 ⟨k, hk, h'⟩
          have := List.find?_eq_none.1 hc c hm
          exact absurd (chg_find h').2 (by simpa using this)
      unfold chg at hn
      cases ha' : findI a k with
      | none => cases hb' : findI b k with
        | none => rfl
        | some y => rw [ha', hb'] at hn; cases hn
      | some x => cases hb' : findI b k with
        | none => rw [ha', hb'] at hn; cases hn
        | some y =>
          rw [ha', hb'] at hn
          simp only at hn
          split at hn
          · rename_i e; rw [e]
          · cases hn
    · have h1 : findI a k = none := findI_none fun y hy e => hk (h k (.inl (List.mem_map.2 ⟨y, hy, e⟩)))
      have h2 : findI b k = none := findI_none fun y hy e => hk (h k (.inr (List.mem_map.2 ⟨y, hy, e⟩)))
      rw [h1, h2]
/-- The other way round. -/
def turnK (k : Int) : Int := if k = 1 then 2 else if k = 2 then 1 else k
def backC (x : Ch) : Ch := ⟨turnK x.kd, x.n, x.o⟩
def backL (l : List Ch) : List Ch := l.map backC
theorem chg_back (k : Ky) (a b : Option It) : (chg k a b).map backC = chg k b a := by
  cases a with
  | none => cases b with
    | none => rfl
    | some y => rfl
  | some x => cases b with
    | none => rfl
    | some y =>
      unfold chg
      by_cases e : x = y
      · simp [e]
      · have e' : y ≠ x := fun h => e h.symm
        simp only [if_neg e, if_neg e']
        rfl
theorem chgs_back (K : List Ky) (a b : List It) : backL (chgs K a b) = chgs K b a := by
  unfold backL chgs
  rw [List.map_filterMap]
  exact fm_congr fun k _ => chg_back k _ _
theorem of_chgs {a b : List It} (ha : risB a = true) (hb : risB b = true) : ∃ K, RisK K ∧ (∀ k, k ∈ keysL a ∨ k ∈ keysL b → k ∈ K) ∧ ofL a b = chgs K a b := by
  have hn : (keysL a).length + (keysL b).length ≤ a.length + b.length := by simp [keysL]
  exact ⟨_, mgK_ris _ _ _ hn (risB_ris ha) (risB_ris hb), fun k hk => (mgK_mem _ _ _ hn k).2 hk, of_merge ha hb⟩
theorem of_makes {a b : List It} (ha : risB a = true) (hb : risB b = true) : appL a (ofL a b) = some b := by
  obtain ⟨K, h1, h2, h3⟩ := of_chgs ha hb
  rw [h3]
  exact chgs_app h1 (risB_ris ha) (risB_ris hb) h2
theorem of_back {a b : List It} (ha : risB a = true) (hb : risB b = true) : appL b (backL (ofL a b)) = some a ∧ checkL (backL (ofL a b)) = 0 := by
  obtain ⟨K, h1, h2, h3⟩ := of_chgs ha hb
  rw [h3, chgs_back]
  exact ⟨chgs_app h1 (risB_ris hb) (risB_ris ha) fun k hk => h2 k hk.symm, chgs_check h1 b a⟩
end Go.Proofs.Ytgfoaopfdpclhaa
