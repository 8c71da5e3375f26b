/-
  Plain facts on changes behind changes. No program in sight.
-/
import Derived.Test.YtdefpphfbpkeaaaDiffP
namespace Go.Proofs.Ytdefpphfbpkeaaa
open Go.RowKit
set_option linter.unusedVariables false

/-- Two changes of one key as one; none: they do not follow one another. -/
def joinL (x y : Ch) : Option (List Ch) :=
  if decide (x.kd = 2) != decide (y.kd = 1) || !decide (x.n = y.o) then none
  else if x.kd = 1 ∧ y.kd = 2 then some []
  else if x.kd = 1 then some [⟨1, x.o, y.n⟩]
  else if y.kd = 2 then some [⟨2, x.o, y.n⟩]
  else if x.o = y.n then some []
  else some [⟨3, x.o, y.n⟩]
def thenGo : Nat → List Ch → List Ch → Option (List Ch)
  | 0, _, _ => some []
  | _ + 1, [], [] => some []
  | f + 1, x :: l, [] => (thenGo f l []).map ([x] ++ ·)
  | f + 1, [], y :: m => (thenGo f [] m).map ([y] ++ ·)
  | f + 1, x :: l, y :: m => if lessK x.o.k y.o.k then (thenGo f l (y :: m)).map ([x] ++ ·) else if lessK y.o.k x.o.k then (thenGo f (x :: l) m).map ([y] ++ ·) else
      match joinL x y with
      | none => none
      | some z => (thenGo f l m).map (z ++ ·)
def thenL (l m : List Ch) : Option (List Ch) := thenGo (l.length + m.length) l m
/-- The change of a key. -/
def atC (l : List Ch) (k : Ky) : Option Ch := l.find? fun x => decide (x.o.k = k)
def stepK (a b : Option Ch) : Option (List Ch) :=
  match a, b with
  | none, none => some []
  | some x, none => some [x]
  | none, some y => some [y]
  | some x, some y => joinL x y
def thenKeys (l m : List Ch) : List Ky → Option (List Ch)
  | [] => some []
  | k :: r =>
    match stepK (atC l k) (atC m k) with
    | none => none
    | some z => (thenKeys l m r).map (z ++ ·)
theorem atC_hit (x : Ch) (l : List Ch) : atC (x :: l) x.o.k = some x := by simp [atC]
theorem atC_miss {x : Ch} {k : Ky} (h : x.o.k ≠ k) (l : List Ch) : atC (x :: l) k = atC l k := by simp [atC, h]
theorem atC_none {l : List Ch} {k : Ky} (h : ∀ j ∈ okeys l, lessK k j = true) : atC l k = none := by
  unfold atC; rw [List.find?_eq_none]; intro y hy
  have := h y.o.k (by unfold okeys; exact List.mem_map.2 ⟨y, hy, rfl⟩)
  simp
  intro e
  rw [e, lessK_irr] at this; cases this
theorem thenKeys_congr {l m l' m' : List Ch} : ∀ {K : List Ky}, (∀ k ∈ K, stepK (atC l k) (atC m k) = stepK (atC l' k) (atC m' k)) → thenKeys l m K = thenKeys l' m' K
  | [], _ => rfl
  | k :: r, h => by
    unfold thenKeys
    rw [h k (by simp), thenKeys_congr fun j hj => h j (by simp [hj])]
theorem then_keys : ∀ (f : Nat) (l m : List Ch), l.length + m.length ≤ f → RisK (okeys l) → RisK (okeys m) → thenGo f l m = thenKeys l m (mgK f (okeys l) (okeys m))
  | 0, l, m, h, _, _ => by simp [thenGo, mgK, thenKeys]
  | f + 1, [], [], h, _, _ => by simp [thenGo, mgK, okeys, thenKeys]
  | f + 1, x :: l, [], h, hl, hm => by
    obtain ⟨a1, a2⟩ := List.pairwise_cons.1 hl
    have hn : l.length + ([] : List Ch).length ≤ f := by simp at h ⊢; omega
    have hn' : (okeys l).length + (okeys []).length ≤ f := by simpa [okeys] using hn
    have ih := then_keys f l [] hn a2 hm
    simp only [thenGo]
    rw [ih]
    show _ = thenKeys (x :: l) [] (x.o.k :: mgK f (okeys l) (okeys []))
    have e : thenKeys (x :: l) [] (mgK f (okeys l) (okeys [])) = thenKeys l [] (mgK f (okeys l) (okeys [])) := thenKeys_congr fun k hk => by
      rw [mgK_mem f _ _ hn'] at hk
      rw [atC_miss (lessK_ne (a1 k (by simpa [okeys] using hk)))]
    rw [thenKeys, atC_hit, e]
    rfl
  | f + 1, [], y :: m, h, hl, hm => by
    obtain ⟨b1, b2⟩ := List.pairwise_cons.1 hm
    have hn : ([] : List Ch).length + m.length ≤ f := by simp at h ⊢; omega
    have hn' : (okeys []).length + (okeys m).length ≤ f := by simpa [okeys] using hn
    have ih := then_keys f [] m hn hl b2
    simp only [thenGo]
    rw [ih]
    show _ = thenKeys [] (y :: m) (y.o.k :: mgK f (okeys []) (okeys m))
    have e : thenKeys [] (y :: m) (mgK f (okeys []) (okeys m)) = thenKeys [] m (mgK f (okeys []) (okeys m)) := thenKeys_congr fun k hk => by
      rw [mgK_mem f _ _ hn'] at hk
      rw [atC_miss (lessK_ne (b1 k (by simpa [okeys] using hk)))]
    rw [thenKeys, atC_hit, e]
    rfl
  | f + 1, x :: l, y :: m, h, hl, hm => by
    obtain ⟨a1, a2⟩ := List.pairwise_cons.1 hl
    obtain ⟨b1, b2⟩ := List.pairwise_cons.1 hm
    simp only [List.length_cons] at h
    simp only [thenGo]
    show _ = thenKeys (x :: l) (y :: m) (if lessK x.o.k y.o.k then x.o.k :: mgK f (okeys l) (okeys (y :: m)) else if lessK y.o.k x.o.k then y.o.k :: mgK f (okeys (x :: l)) (okeys m) else x.o.k :: mgK f (okeys l) (okeys m))
    by_cases hlt : lessK x.o.k y.o.k = true
    · rw [if_pos hlt, if_pos hlt]
      have hn : l.length + (y :: m).length ≤ f := by simp; omega
      have hn' : (okeys l).length + (okeys (y :: m)).length ≤ f := by simpa [okeys] using hn
      have hno : atC (y :: m) x.o.k = none := atC_none fun j hj => by
        rcases List.mem_cons.1 hj with rfl | hj
        · exact hlt
        · exact lessK_trans hlt (b1 j hj)
      have e : thenKeys (x :: l) (y :: m) (mgK f (okeys l) (okeys (y :: m))) = thenKeys l (y :: m) (mgK f (okeys l) (okeys (y :: m))) := thenKeys_congr fun k hk => by
        rw [mgK_mem f _ _ hn'] at hk
        have : lessK x.o.k k = true := by
          rcases hk with hk | hk
          · exact a1 k hk
          · rcases List.mem_cons.1 hk with rfl | hk
            · exact hlt
            · exact lessK_trans hlt (b1 k hk)
        rw [atC_miss (x := x) (lessK_ne this)]
      rw [then_keys f l (y :: m) hn a2 hm, thenKeys, atC_hit, hno, e]
      rfl
    · rw [if_neg hlt, if_neg hlt]
      by_cases hgt : lessK y.o.k x.o.k = true
      · rw [if_pos hgt, if_pos hgt]
        have hn : (x :: l).length + m.length ≤ f := by simp; omega
        have hn' : (okeys (x :: l)).length + (okeys m).length ≤ f := by simpa [okeys] using hn
        have hno : atC (x :: l) y.o.k = none := atC_none fun j hj => by
          rcases List.mem_cons.1 hj with rfl | hj
          · exact hgt
          · exact lessK_trans hgt (a1 j hj)
        have e : thenKeys (x :: l) (y :: m) (mgK f (okeys (x :: l)) (okeys m)) = thenKeys (x :: l) m (mgK f (okeys (x :: l)) (okeys m)) := thenKeys_congr fun k hk => by
          rw [mgK_mem f _ _ hn'] at hk
          have : lessK y.o.k k = true := by
            rcases hk with hk | hk
            · rcases List.mem_cons.1 hk with rfl | hk
              · exact hgt
              · exact lessK_trans hgt (a1 k hk)
            · exact b1 k hk
          rw [atC_miss (x := y) (lessK_ne this)]
        rw [then_keys f (x :: l) m hn hl b2, thenKeys, atC_hit, hno, e]
        rfl
      · rw [if_neg hgt, if_neg hgt]
        have ek : x.o.k = y.o.k := lessK_eq (by simpa using hlt) (by simpa using hgt)
        have hn : l.length + m.length ≤ f := by omega
        have hn' : (okeys l).length + (okeys m).length ≤ f := by simpa [okeys] using hn
        have e : thenKeys (x :: l) (y :: m) (mgK f (okeys l) (okeys m)) = thenKeys l m (mgK f (okeys l) (okeys m)) := thenKeys_congr fun k hk => by
          rw [mgK_mem f _ _ hn'] at hk
          have : lessK x.o.k k = true := by
            rcases hk with hk | hk
            · exact a1 k hk
            · rw [ek]; exact b1 k hk
          rw [atC_miss (x := x) (lessK_ne this), atC_miss (x := y) (lessK_ne (by rw [← ek]; exact this))]
        have hy : atC (y :: m) x.o.k = some y := by rw [ek]; exact atC_hit y m
        rw [then_keys f l m hn a2 b2, thenKeys, atC_hit, hy, e]
        rfl

theorem at_fm {g : Ky → Option Ch} (hg : ∀ k c, g k = some c → c.o.k = k) (k : Ky) : ∀ {K : List Ky}, RisK K → atC (K.filterMap g) k = if k ∈ K then g k else none
  | [], _ => rfl
  | j :: K, h => by
    obtain ⟨h1, h2⟩ := List.pairwise_cons.1 h
    have ih := at_fm hg k h2
    rw [List.filterMap_cons]
    cases hj : g j with
    | none =>
      show atC (K.filterMap g) k = _
      rw [ih]
      by_cases e : k = j
      · subst e
        have : ¬ k ∈ K := fun hk => by have := h1 k hk; rw [lessK_irr] at this; cases this
        rw [if_neg this, if_pos (by simp), hj]
      · simp [e]
    | some c =>
      show atC (c :: K.filterMap g) k = _
      have hc := hg j c hj
      by_cases e : k = j
      · subst e
        rw [if_pos (by simp), hj]
        have := atC_hit c (K.filterMap g)
        rwa [hc] at this
      · rw [atC_miss (by rw [hc]; exact fun e' => e e'.symm), ih]
        simp [e]
theorem findI_mem {a : List It} {k : Ky} (h : findI a k ≠ none) : k ∈ keysL a := by
  cases hf : findI a k with
  | none => exact absurd hf h
  | some x =>
    unfold findI at hf
    have h1 := List.mem_of_find?_eq_some hf
    have h2 := List.find?_some hf
    simp at h2
    exact List.mem_map.2 ⟨x, h1, h2⟩
theorem at_of {a b : List It} (ha : risB a = true) (hb : risB b = true) (k : Ky) : atC (ofL a b) k = chg k (findI a k) (findI b k) := by
  have hn : (keysL a).length + (keysL b).length ≤ a.length + b.length := by simp [keysL]
  rw [of_merge ha hb, at_fm (fun k c h => (chg_find h).2) k (mgK_ris _ _ _ hn (risB_ris ha) (risB_ris hb))]
  split
  · rfl
  · rename_i hk
    rw [mgK_mem _ _ _ hn] at hk
    have h1 : findI a k = none := by
      cases hf : findI a k with
      | none => rfl
      | some x => exact absurd (.inl (findI_mem (by rw [hf]; simp))) hk
    have h2 : findI b k = none := by
      cases hf : findI b k with
      | none => rfl
      | some x => exact absurd (.inr (findI_mem (by rw [hf]; simp))) hk
    rw [h1, h2]; rfl
theorem step_three (k : Ky) (A B C : Option It) : stepK (chg k A B) (chg k B C) = some (chg k A C).toList := by
  cases A with
  | none =>
    cases B with
    | none =>
      cases C with
      | none => rfl
      | some c => rfl
    | some b =>
      cases C with
      | none => simp [chg, stepK, joinL]
      | some c =>
        by_cases h : b = c
        · simp [chg, stepK, h]
        · simp [chg, stepK, joinL, h]
  | some a =>
    cases B with
    | none =>
      cases C with
      | none => rfl
      | some c =>
        by_cases h : a = c
        · simp [chg, stepK, joinL, h]
        · simp [chg, stepK, joinL, h]
    | some b =>
      cases C with
      | none =>
        by_cases h : a = b
        · simp [chg, stepK, h]
        · simp [chg, stepK, joinL, h]
      | some c =>
        by_cases h : a = b
        · subst h
          by_cases h2 : a = c
          · simp [chg, stepK, h2]
          · simp [chg, stepK, h2]
        · by_cases h2 : b = c
          · subst h2
            simp [chg, stepK, h]
          · by_cases h3 : a = c
            · subst h3
              simp [chg, stepK, joinL, h, h2]
            · simp [chg, stepK, joinL, h, h2, h3]
theorem thenKeys_fm {l m : List Ch} {g : Ky → Option Ch} : ∀ {K : List Ky}, (∀ k ∈ K, stepK (atC l k) (atC m k) = some (g k).toList) → thenKeys l m K = some (K.filterMap g)
  | [], _ => rfl
  | k :: K, h => by
    rw [thenKeys, h k (by simp), thenKeys_fm fun j hj => h j (by simp [hj]), List.filterMap_cons]
    cases g k <;> rfl
theorem fm_filter {α β : Type} (g : α → Option β) : ∀ l : List α, l.filterMap g = (l.filter fun x => (g x).isSome).filterMap g
  | [] => rfl
  | x :: l => by
    rw [List.filterMap_cons, List.filter_cons]
    cases h : g x with
    | none => simp [fm_filter g l]
    | some y =>
      simp only [Option.isSome_some, if_true]
      rw [List.filterMap_cons, h, ← fm_filter g l]
theorem fm_ext {g : Ky → Option Ch} {K L : List Ky} (hK : RisK K) (hL : RisK L) (h : ∀ k, g k ≠ none → (k ∈ K ↔ k ∈ L)) : K.filterMap g = L.filterMap g := by
  rw [fm_filter g K, fm_filter g L, ris_ext (l := K.filter _) (m := L.filter _) (List.Pairwise.filter _ hK) (List.Pairwise.filter _ hL)]
  intro k
  rw [List.mem_filter, List.mem_filter]
  constructor
  · rintro ⟨h1, h2⟩
    exact ⟨(h k (by intro e; rw [e] at h2; cases h2)).1 h1, h2⟩
  · rintro ⟨h1, h2⟩
    exact ⟨(h k (by intro e; rw [e] at h2; cases h2)).2 h1, h2⟩
theorem okeys_mem {l : List Ch} {k : Ky} (h : atC l k ≠ none) : k ∈ okeys l := by
  cases hf : atC l k with
  | none => exact absurd hf h
  | some x =>
    unfold atC at hf
    have h1 := List.mem_of_find?_eq_some hf
    have h2 := List.find?_some hf
    simp at h2
    exact List.mem_map.2 ⟨x, h1, h2⟩
theorem chg_none {k : Ky} {A B : Option It} (h : chg k A B = none) : A = B := by
  unfold chg at h
  split at h
  · rfl
  · cases h
  · cases h
  · split at h
    · rename_i h2; rw [h2]
    · cases h
theorem then_three {a b c : List It} (ha : risB a = true) (hb : risB b = true) (hc : risB c = true) : thenL (ofL a b) (ofL b c) = some (ofL a c) := by
  have r1 := (checkL_ok.1 (of_check ha hb)).2
  have r2 := (checkL_ok.1 (of_check hb hc)).2
  have hn : (okeys (ofL a b)).length + (okeys (ofL b c)).length ≤ (ofL a b).length + (ofL b c).length := by simp [okeys]
  have hn2 : (keysL a).length + (keysL c).length ≤ a.length + c.length := by simp [keysL]
  unfold thenL
  rw [then_keys _ _ _ (Nat.le_refl _) r1 r2, thenKeys_fm (g := fun k => chg k (findI a k) (findI c k)), of_merge ha hc]
  · congr 1
    refine fm_ext (mgK_ris _ _ _ hn r1 r2) (mgK_ris _ _ _ hn2 (risB_ris ha) (risB_ris hc)) fun k hk => ?_
    rw [mgK_mem _ _ _ hn, mgK_mem _ _ _ hn2]
    refine iff_of_true ?_ ?_
    · by_cases h1 : chg k (findI a k) (findI b k) = none
      · by_cases h2 : chg k (findI b k) (findI c k) = none
        · exfalso
          apply hk
          rw [chg_none h1, chg_none h2]
          unfold chg
          cases findI c k <;> simp
        · exact .inr (okeys_mem (by rw [at_of hb hc]; exact h2))
      · exact .inl (okeys_mem (by rw [at_of ha hb]; exact h1))
    · by_cases h1 : findI a k = none
      · by_cases h2 : findI c k = none
        · exfalso; apply hk; rw [h1, h2]; rfl
        · exact .inr (findI_mem h2)
      · exact .inl (findI_mem h1)
  · intro k _
    rw [at_of ha hb, at_of hb hc]
    exact step_three k _ _ _
theorem join_len {x y : Ch} {z : List Ch} (h : joinL x y = some z) : z.length ≤ 1 := by
  unfold joinL at h
  split at h
  · cases h
  · repeat' split at h
    all_goals (injection h with h; subst h; simp)
end Go.Proofs.Ytdefpphfbpkeaaa
