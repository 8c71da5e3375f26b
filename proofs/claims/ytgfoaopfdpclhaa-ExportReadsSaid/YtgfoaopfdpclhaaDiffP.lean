/-
  Plain facts on changes: what makes one list of items of another one, by keys; two changes as one. No program in sight.
-/
import Derived.Test.YtgfoaopfdpclhaaKeys
namespace Go.Proofs.Ytgfoaopfdpclhaa
open Go.RowKit
set_option linter.unusedVariables false

theorem ltB_irr : ∀ a : List UInt8, ltB a a = false
  | [] => rfl
  | x :: a => by
    have ih := ltB_irr a
    unfold ltB at ih ⊢
    simp [Op.bytesLess, ih]
theorem ltB_trans : ∀ a b c : List UInt8, ltB a b = true → ltB b c = true → ltB a c = true
  | a, b, [], _, h => by unfold ltB at h; cases b <;> simp [Op.bytesLess] at h
  | a, [], z :: c, h, _ => by unfold ltB at h; cases a <;> simp [Op.bytesLess] at h
  | [], y :: b, z :: c, _, _ => rfl
  | x :: a, y :: b, z :: c, h, h' => by
    have ih := ltB_trans a b c
    unfold ltB at ih h h' ⊢
    simp only [Op.bytesLess, Bool.or_eq_true, Bool.and_eq_true, decide_eq_true_eq, beq_iff_eq] at h h' ⊢
    rcases h with h | ⟨rfl, h⟩
    · rcases h' with h' | ⟨rfl, h'⟩
      · exact .inl (UInt8.lt_trans h h')
      · exact .inl h
    · rcases h' with h' | ⟨rfl, h'⟩
      · exact .inl h'
      · exact .inr ⟨rfl, ih h h'⟩
theorem ltB_tri : ∀ a b : List UInt8, a = b ∨ ltB a b = true ∨ ltB b a = true
  | [], [] => .inl rfl
  | [], _ :: _ => .inr (.inl rfl)
  | _ :: _, [] => .inr (.inr rfl)
  | x :: a, y :: b => by
    have ih := ltB_tri a b
    unfold ltB at ih ⊢
    simp only [Op.bytesLess, Bool.or_eq_true, Bool.and_eq_true, decide_eq_true_eq, beq_iff_eq, List.cons.injEq]
    by_cases h : x = y
    · subst h
      rcases ih with ih | ih | ih
      · exact .inl ⟨rfl, ih⟩
      · exact .inr (.inl (.inr ⟨rfl, ih⟩))
      · exact .inr (.inr (.inr ⟨rfl, ih⟩))
    · rcases UInt8.lt_or_lt_of_ne h with h | h
      · exact .inr (.inl (.inl h))
      · exact .inr (.inr (.inl h))
theorem lessK_irr (a : Ky) : lessK a a = false := by unfold lessK; simp [ltB_irr]
theorem lessK_tri (a b : Ky) : a = b ∨ lessK a b = true ∨ lessK b a = true := by
  unfold lessK
  by_cases h1 : a.n = b.n
  · by_cases h2 : a.d = b.d
    · simp only [h1, h2, ne_eq, not_true_eq_false, if_false]
      rcases ltB_tri a.p b.p with h | h | h
      · left; cases a; cases b; simp_all
      · exact .inr (.inl h)
      · exact .inr (.inr h)
    · simp only [h1, h2, Ne.symm h2, ne_eq, not_true_eq_false, not_false_eq_true, if_true, if_false]
      rcases ltB_tri a.d b.d with h | h | h
      · exact absurd h h2
      · exact .inr (.inl h)
      · right; right; exact h
  · rcases ltB_tri a.n b.n with h | h | h
    · exact absurd h h1
    · right; left; rw [if_pos h1]; exact h
    · right; right; rw [if_pos (fun e => h1 e.symm)]; exact h
theorem lessK_trans {a b c : Ky} (h : lessK a b = true) (h' : lessK b c = true) : lessK a c = true := by
  unfold lessK at h h' ⊢
  by_cases h1 : a.n = b.n
  · by_cases h2 : b.n = c.n
    · rw [if_neg (by simpa using h1)] at h
      rw [if_neg (by simpa using h2)] at h'
      rw [if_neg (by simpa using h1.trans h2)]
      by_cases h3 : a.d = b.d
      · by_cases h4 : b.d = c.d
        · rw [if_neg (by simpa using h3)] at h
          rw [if_neg (by simpa using h4)] at h'
          rw [if_neg (by simpa using h3.trans h4)]
          exact ltB_trans _ _ _ h h'
        · rw [if_pos h4] at h'
          rw [h3, if_pos h4]; exact h'
      · rw [if_pos h3] at h
        by_cases h4 : b.d = c.d
        · rw [← h4, if_pos h3]; exact h
        · rw [if_pos h4] at h'
          have := ltB_trans _ _ _ h h'
          rw [if_pos (fun e => by rw [e, ltB_irr] at this; cases this)]; exact this
    · rw [if_pos h2] at h'
      rw [h1, if_pos h2]; exact h'
  · rw [if_pos h1] at h
    by_cases h2 : b.n = c.n
    · rw [← h2, if_pos h1]; exact h
    · rw [if_pos h2] at h'
      have := ltB_trans _ _ _ h h'
      rw [if_pos (fun e => by rw [e, ltB_irr] at this; cases this)]; exact this
theorem lessK_asym {a b : Ky} (h : lessK a b = true) : lessK b a = false := by
  cases h' : lessK b a with
  | false => rfl
  | true => have := lessK_trans h h'; rw [lessK_irr] at this; cases this
theorem lessK_ne {a b : Ky} (h : lessK a b = true) : a ≠ b := fun e => by subst e; rw [lessK_irr] at h; cases h
theorem lessK_eq {a b : Ky} (h : lessK a b = false) (h' : lessK b a = false) : a = b := by
  rcases lessK_tri a b with e | e | e
  · exact e
  · rw [e] at h; cases h
  · rw [e] at h'; cases h'

/-- Keys that rise. -/
def RisK (l : List Ky) : Prop := l.Pairwise fun x y => lessK x y = true
theorem ris_ext : ∀ {l m : List Ky}, RisK l → RisK m → (∀ k, k ∈ l ↔ k ∈ m) → l = m
  | [], [], _, _, _ => rfl
  | [], y :: m, _, _, h => by have := (h y).2 (by simp); simp at this
  | x :: l, [], _, _, h => by have := (h x).1 (by simp); simp at this
  | x :: l, y :: m, h1, h2, h => by
    obtain ⟨a1, a2⟩ := List.pairwise_cons.1 h1
    obtain ⟨b1, b2⟩ := List.pairwise_cons.1 h2
    have e : x = y := by
      have hx := (h x).1 (by simp)
      have hy := (h y).2 (by simp)
      rcases List.mem_cons.1 hx with e | hx
      · exact e
      · rcases List.mem_cons.1 hy with e | hy
        · exact e.symm
        · have := lessK_trans (b1 _ hx) (a1 _ hy)
          rw [lessK_irr] at this; cases this
    subst e
    rw [ris_ext a2 b2 fun k => ?_]
    have := h k
    simp only [List.mem_cons] at this
    constructor
    · intro hk
      rcases this.1 (.inr hk) with e | e
      · subst e; have := lessK_ne (a1 _ hk); exact absurd rfl this
      · exact e
    · intro hk
      rcases this.2 (.inr hk) with e | e
      · subst e; have := lessK_ne (b1 _ hk); exact absurd rfl this
      · exact e

def keysL (l : List It) : List Ky := l.map (·.k)
/-- Do items stand by rising keys? -/
def risB : List It → Bool
  | [] => true
  | [_] => true
  | x :: y :: r => lessK x.k y.k && risB (y :: r)
theorem risB_all : ∀ {l : List It}, (∀ i (h : i + 1 < l.length), lessK (l[i]'(by omega)).k l[i + 1].k = true) → risB l = true
  | [], _ => rfl
  | [_], _ => rfl
  | x :: y :: r, h => by
    unfold risB
    rw [Bool.and_eq_true]
    exact ⟨h 0 (by simp), risB_all fun i hi => h (i + 1) (by simpa using hi)⟩
theorem risB_at : ∀ {l : List It}, risB l = true → ∀ i (h : i + 1 < l.length), lessK (l[i]'(by omega)).k l[i + 1].k = true
  | [], _, i, h => absurd h (by simp)
  | [_], _, i, h => absurd h (by simp)
  | x :: y :: r, hb, i, h => by
    unfold risB at hb
    rw [Bool.and_eq_true] at hb
    cases i with
    | zero => exact hb.1
    | succ i => exact risB_at hb.2 i (by simpa using h)
theorem risB_bad {l : List It} {i : Nat} (h : i + 1 < l.length) (hb : lessK (l[i]'(by omega)).k l[i + 1].k = false) : risB l = false := by
  cases e : risB l with
  | false => rfl
  | true => have := risB_at e i h; rw [hb] at this; cases this
theorem risB_ris : ∀ {l : List It}, risB l = true → RisK (keysL l)
  | [], _ => List.Pairwise.nil
  | [_], _ => List.pairwise_singleton _ _
  | x :: y :: r, h => by
    unfold risB at h
    rw [Bool.and_eq_true] at h
    have ih := risB_ris h.2
    refine List.pairwise_cons.2 ⟨fun k hk => ?_, ih⟩
    rcases List.mem_cons.1 hk with rfl | hk
    · exact h.1
    · exact lessK_trans h.1 ((List.pairwise_cons.1 ih).1 k hk)
theorem ris_risB : ∀ {l : List It}, RisK (keysL l) → risB l = true
  | [], _ => rfl
  | [_], _ => rfl
  | x :: y :: r, h => by
    unfold risB
    rw [Bool.and_eq_true]
    obtain ⟨h1, h2⟩ := List.pairwise_cons.1 h
    exact ⟨h1 _ (by simp), ris_risB h2⟩

/-- A list by keys, with one item more. -/
def putI (l : List It) (x : It) : List It := (l.filter fun y => lessK y.k x.k) ++ [x] ++ l.filter fun y => lessK x.k y.k
def byKeysL (l : List It) : List It := l.foldl putI []
theorem ris_filter {l : List It} (p : It → Bool) (h : RisK (keysL l)) : RisK (keysL (l.filter p)) := by
  unfold RisK keysL at *
  exact List.Pairwise.sublist ((List.filter_sublist).map _) h
theorem put_ris {l : List It} (x : It) (h : RisK (keysL l)) : RisK (keysL (putI l x)) := by
  have h1 := ris_filter (fun y => lessK y.k x.k) h
  have h2 := ris_filter (fun y => lessK x.k y.k) h
  unfold putI RisK keysL at *
  rw [List.map_append, List.map_append, List.pairwise_append, List.pairwise_append]
  simp only [List.map_cons, List.map_nil, List.mem_append, List.mem_map, List.mem_filter, List.mem_singleton]
  refine ⟨⟨h1, List.pairwise_singleton _ _, ?_⟩, h2, ?_⟩
  · rintro a ⟨y, ⟨hy, hl⟩, rfl⟩ b rfl; exact hl
  · rintro a ha b ⟨z, ⟨hz, hl2⟩, rfl⟩
    rcases ha with ⟨y, ⟨hy, hl⟩, rfl⟩ | rfl
    · exact lessK_trans hl hl2
    · exact hl2
theorem put_mem {l : List It} (x : It) (k : Ky) : k ∈ keysL (putI l x) ↔ k ∈ keysL l ∨ k = x.k := by
  unfold putI keysL
  simp only [List.map_append, List.mem_append, List.mem_map, List.mem_filter, List.map_cons, List.map_nil, List.mem_singleton]
  constructor
  · rintro ((⟨y, ⟨hy, _⟩, rfl⟩ | rfl) | ⟨y, ⟨hy, _⟩, rfl⟩)
    · exact .inl ⟨y, hy, rfl⟩
    · exact .inr rfl
    · exact .inl ⟨y, hy, rfl⟩
  · rintro (⟨y, hy, rfl⟩ | rfl)
    · rcases lessK_tri y.k x.k with e | e | e
      · exact .inl (.inr e)
      · exact .inl (.inl ⟨y, ⟨hy, e⟩, rfl⟩)
      · exact .inr ⟨y, ⟨hy, e⟩, rfl⟩
    · exact .inl (.inr rfl)
theorem foldl_put_ris (m : List It) : ∀ {l : List It}, RisK (keysL l) → RisK (keysL (m.foldl putI l)) := by
  induction m with
  | nil => exact fun h => h
  | cons x m ih => exact fun h => ih (put_ris x h)
theorem foldl_put_mem (m : List It) (k : Ky) : ∀ {l : List It}, k ∈ keysL (m.foldl putI l) ↔ k ∈ keysL l ∨ k ∈ keysL m := by
  induction m with
  | nil => intro l; simp [keysL]
  | cons x m ih =>
    intro l
    rw [List.foldl_cons, ih, put_mem]
    simp only [keysL, List.map_cons, List.mem_cons]
    constructor
    · rintro ((h | h) | h)
      · exact .inl h
      · exact .inr (.inl h)
      · exact .inr (.inr h)
    · rintro (h | h | h)
      · exact .inl (.inl h)
      · exact .inl (.inr h)
      · exact .inr h
theorem byKeys_ris (l : List It) : RisK (keysL (byKeysL l)) := foldl_put_ris l List.Pairwise.nil
theorem byKeys_mem (l : List It) (k : Ky) : k ∈ keysL (byKeysL l) ↔ k ∈ keysL l := by unfold byKeysL; rw [foldl_put_mem]; simp [keysL]

/-- The item of a key. -/
def findI (l : List It) (k : Ky) : Option It := l.find? fun x => decide (x.k = k)
theorem findI_key {l : List It} {k : Ky} {x : It} (h : findI l k = some x) : x.k = k := by
  have := List.find?_some h; simpa using this
theorem findI_cons_hit (x : It) (l : List It) : findI (x :: l) x.k = some x := by simp [findI]
theorem findI_cons_miss {x : It} {k : Ky} (h : x.k ≠ k) (l : List It) : findI (x :: l) k = findI l k := by simp [findI, h]
theorem findI_none {l : List It} {k : Ky} (h : ∀ y ∈ l, y.k ≠ k) : findI l k = none := by
  unfold findI; rw [List.find?_eq_none]; intro y hy; simpa using h y hy

/-- A change. -/
structure Ch where
  kd : Int
  o : It
  n : It
deriving DecidableEq
/-- The change of a key, from an item or none to an item or none. -/
def chg (k : Ky) (a b : Option It) : Option Ch :=
  match a, b with
  | none, none => none
  | none, some y => some ⟨1, noneI k, y⟩
  | some x, none => some ⟨2, x, noneI k⟩
  | some x, some y => if x = y then none else some ⟨3, x, y⟩
def refOfL (a b : List It) : List Ch := (byKeysL (a ++ b)).filterMap fun z => chg z.k (findI a z.k) (findI b z.k)
def ofGo : Nat → List It → List It → List Ch
  | 0, _, _ => []
  | _ + 1, [], [] => []
  | f + 1, x :: a, [] => ⟨2, x, noneI x.k⟩ :: ofGo f a []
  | f + 1, [], y :: b => ⟨1, noneI y.k, y⟩ :: ofGo f [] b
  | f + 1, x :: a, y :: b => if lessK x.k y.k then ⟨2, x, noneI x.k⟩ :: ofGo f a (y :: b) else if lessK y.k x.k then ⟨1, noneI y.k, y⟩ :: ofGo f (x :: a) b else if x = y then ofGo f a b else ⟨3, x, y⟩ :: ofGo f a b
def ofL (a b : List It) : List Ch := ofGo (a.length + b.length) a b
def mgK : Nat → List Ky → List Ky → List Ky
  | 0, _, _ => []
  | _ + 1, [], [] => []
  | f + 1, x :: a, [] => x :: mgK f a []
  | f + 1, [], y :: b => y :: mgK f [] b
  | f + 1, x :: a, y :: b => if lessK x y then x :: mgK f a (y :: b) else if lessK y x then y :: mgK f (x :: a) b else x :: mgK f a b
theorem mgK_mem : ∀ (f : Nat) (a b : List Ky), a.length + b.length ≤ f → ∀ k, k ∈ mgK f a b ↔ k ∈ a ∨ k ∈ b
  | 0, a, b, h, k => by
    obtain rfl : a = [] := List.length_eq_zero_iff.1 (by omega)
    obtain rfl : b = [] := List.length_eq_zero_iff.1 (by omega)
    simp [mgK]
  | f + 1, [], [], h, k => by simp [mgK]
  | f + 1, x :: a, [], h, k => by simp only [mgK, List.mem_cons]; rw [mgK_mem f a [] (by simp at h ⊢; omega)]; simp
  | f + 1, [], y :: b, h, k => by simp only [mgK, List.mem_cons]; rw [mgK_mem f [] b (by simp at h ⊢; omega)]; simp
  | f + 1, x :: a, y :: b, h, k => by
    simp only [List.length_cons] at h
    simp only [mgK]
    split
    · rw [List.mem_cons, mgK_mem f a (y :: b) (by simp; omega)]; simp only [List.mem_cons, or_assoc]
    · split
      · rw [List.mem_cons, mgK_mem f (x :: a) b (by simp; omega)]; simp only [List.mem_cons]
        constructor
        · rintro (h | (h | h) | h)
          · exact .inr (.inl h)
          · exact .inl (.inl h)
          · exact .inl (.inr h)
          · exact .inr (.inr h)
        · rintro ((h | h) | h | h)
          · exact .inr (.inl (.inl h))
          · exact .inr (.inl (.inr h))
          · exact .inl h
          · exact .inr (.inr h)
      · rename_i h1 h2
        have e : x = y := lessK_eq (by simpa using h1) (by simpa using h2)
        subst e
        rw [List.mem_cons, mgK_mem f a b (by omega)]; simp only [List.mem_cons]
        constructor
        · rintro (h | h | h)
          · exact .inl (.inl h)
          · exact .inl (.inr h)
          · exact .inr (.inr h)
        · rintro ((h | h) | h | h)
          · exact .inl h
          · exact .inr (.inl h)
          · exact .inl h
          · exact .inr (.inr h)
theorem mgK_ris : ∀ (f : Nat) (a b : List Ky), a.length + b.length ≤ f → RisK a → RisK b → RisK (mgK f a b)
  | 0, a, b, h, _, _ => List.Pairwise.nil
  | f + 1, [], [], h, _, _ => List.Pairwise.nil
  | f + 1, x :: a, [], h, ha, hb => by
    obtain ⟨h1, h2⟩ := List.pairwise_cons.1 ha
    have hl : a.length + ([] : List Ky).length ≤ f := by simp at h ⊢; omega
    exact List.pairwise_cons.2 ⟨fun k hk => h1 k (by rw [mgK_mem f a [] hl] at hk; simpa using hk), mgK_ris f a [] hl h2 hb⟩
  | f + 1, [], y :: b, h, ha, hb => by
    obtain ⟨h1, h2⟩ := List.pairwise_cons.1 hb
    have hl : ([] : List Ky).length + b.length ≤ f := by simp at h ⊢; omega
    exact List.pairwise_cons.2 ⟨fun k hk => h1 k (by rw [mgK_mem f [] b hl] at hk; simpa using hk), mgK_ris f [] b hl ha h2⟩
  | f + 1, x :: a, y :: b, h, ha, hb => by
    obtain ⟨a1, a2⟩ := List.pairwise_cons.1 ha
    obtain ⟨b1, b2⟩ := List.pairwise_cons.1 hb
    simp only [List.length_cons] at h
    simp only [mgK]
    split
    · rename_i hl
      have hn : a.length + (y :: b).length ≤ f := by simp; omega
      refine List.pairwise_cons.2 ⟨fun k hk => ?_, mgK_ris f a (y :: b) hn a2 hb⟩
      rw [mgK_mem f _ _ hn] at hk
      rcases hk with hk | hk
      · exact a1 k hk
      · rcases List.mem_cons.1 hk with rfl | hk
        · exact hl
        · exact lessK_trans hl (b1 k hk)
    · split
      · rename_i _ hl
        have hn : (x :: a).length + b.length ≤ f := by simp; omega
        refine List.pairwise_cons.2 ⟨fun k hk => ?_, mgK_ris f (x :: a) b hn ha b2⟩
        rw [mgK_mem f _ _ hn] at hk
        rcases hk with hk | hk
        · rcases List.mem_cons.1 hk with rfl | hk
          · exact hl
          · exact lessK_trans hl (a1 k hk)
        · exact b1 k hk
      · rename_i h1 h2
        have e : x = y := lessK_eq (by simpa using h1) (by simpa using h2)
        subst e
        have hn : a.length + b.length ≤ f := by omega
        refine List.pairwise_cons.2 ⟨fun k hk => ?_, mgK_ris f a b hn a2 b2⟩
        rw [mgK_mem f _ _ hn] at hk
        rcases hk with hk | hk
        · exact a1 k hk
        · exact b1 k hk
theorem fm_congr {α β : Type} {f g : α → Option β} : ∀ {l : List α}, (∀ x ∈ l, f x = g x) → l.filterMap f = l.filterMap g
  | [], _ => rfl
  | x :: l, h => by
    rw [List.filterMap_cons, List.filterMap_cons, h x (by simp), fm_congr fun y hy => h y (by simp [hy])]
theorem keys_gt {x : It} {k : Ky} {l : List It} (h : ∀ j ∈ keysL l, lessK k j = true) : findI l k = none :=
  findI_none fun y hy e => by
    have := h y.k (by unfold keysL; exact List.mem_map.2 ⟨y, hy, rfl⟩)
    rw [e, lessK_irr] at this; cases this
theorem of_fm : ∀ (f : Nat) (a b : List It), a.length + b.length ≤ f → RisK (keysL a) → RisK (keysL b) → ofGo f a b = (mgK f (keysL a) (keysL b)).filterMap fun k => chg k (findI a k) (findI b k)
  | 0, a, b, h, _, _ => by simp [ofGo, mgK]
  | f + 1, [], [], h, _, _ => by simp [ofGo, mgK, keysL]
  | f + 1, x :: a, [], h, ha, hb => by
    obtain ⟨a1, a2⟩ := List.pairwise_cons.1 ha
    have hn : a.length + ([] : List It).length ≤ f := by simp at h ⊢; omega
    have hn' : (keysL a).length + (keysL []).length ≤ f := by simpa [keysL] using hn
    have ih := of_fm f a [] hn a2 hb
    simp only [ofGo]
    rw [ih]
    show _ = (x.k :: mgK f (keysL a) (keysL [])).filterMap _
    rw [List.filterMap_cons, findI_cons_hit]
    show _ :: _ = _ :: _
    congr 1
    refine fm_congr fun k hk => ?_
    rw [mgK_mem f _ _ hn'] at hk
    rw [findI_cons_miss (lessK_ne (a1 k (by simpa [keysL] using hk)))]
  | f + 1, [], y :: b, h, ha, hb => by
    obtain ⟨b1, b2⟩ := List.pairwise_cons.1 hb
    have hn : ([] : List It).length + b.length ≤ f := by simp at h ⊢; omega
    have hn' : (keysL []).length + (keysL b).length ≤ f := by simpa [keysL] using hn
    have ih := of_fm f [] b hn ha b2
    simp only [ofGo]
    rw [ih]
    show _ = (y.k :: mgK f (keysL []) (keysL b)).filterMap _
    rw [List.filterMap_cons, findI_cons_hit]
    show _ :: _ = _ :: _
    congr 1
    refine fm_congr fun k hk => ?_
    rw [mgK_mem f _ _ hn'] at hk
    rw [findI_cons_miss (lessK_ne (b1 k (by simpa [keysL] using hk)))]
  | f + 1, x :: a, y :: b, h, ha, hb => by
    obtain ⟨a1, a2⟩ := List.pairwise_cons.1 ha
    obtain ⟨b1, b2⟩ := List.pairwise_cons.1 hb
    simp only [List.length_cons] at h
    simp only [ofGo]
    show _ = (if lessK x.k y.k then x.k :: mgK f (keysL a) (keysL (y :: b)) else if lessK y.k x.k then y.k :: mgK f (keysL (x :: a)) (keysL b) else x.k :: mgK f (keysL a) (keysL b)).filterMap _
    by_cases hl : lessK x.k y.k = true
    · rw [if_pos hl, if_pos hl]
      have hn : a.length + (y :: b).length ≤ f := by simp; omega
      have hn' : (keysL a).length + (keysL (y :: b)).length ≤ f := by simpa [keysL] using hn
      rw [of_fm f a (y :: b) hn a2 hb, List.filterMap_cons, findI_cons_hit, keys_gt (x := x) (k := x.k) (l := y :: b) (fun j hj => by
        rcases List.mem_cons.1 hj with rfl | hj
        · exact hl
        · exact lessK_trans hl (b1 j hj))]
      show _ :: _ = _ :: _
      congr 1
      refine fm_congr fun k hk => ?_
      rw [mgK_mem f _ _ hn'] at hk
      have : lessK x.k k = true := by
        rcases hk with hk | hk
        · exact a1 k hk
        · rcases List.mem_cons.1 hk with rfl | hk
          · exact hl
          · exact lessK_trans hl (b1 k hk)
      rw [findI_cons_miss (lessK_ne this)]
    · rw [if_neg hl, if_neg hl]
      by_cases hr : lessK y.k x.k = true
      · rw [if_pos hr, if_pos hr]
        have hn : (x :: a).length + b.length ≤ f := by simp; omega
        have hn' : (keysL (x :: a)).length + (keysL b).length ≤ f := by simpa [keysL] using hn
        rw [of_fm f (x :: a) b hn ha b2, List.filterMap_cons, findI_cons_hit, keys_gt (x := x) (k := y.k) (l := x :: a) (fun j hj => by
          rcases List.mem_cons.1 hj with rfl | hj
          · exact hr
          · exact lessK_trans hr (a1 j hj))]
        show _ :: _ = _ :: _
        congr 1
        refine fm_congr fun k hk => ?_
        rw [mgK_mem f _ _ hn'] at hk
        have : lessK y.k k = true := by
          rcases hk with hk | hk
          · rcases List.mem_cons.1 hk with rfl | hk
            · exact hr
            · exact lessK_trans hr (a1 k hk)
          · exact b1 k hk
        rw [findI_cons_miss (x := y) (lessK_ne this)]
      · rw [if_neg hr, if_neg hr]
        have e : x.k = y.k := lessK_eq (by simpa using hl) (by simpa using hr)
        have hn : a.length + b.length ≤ f := by omega
        have hn' : (keysL a).length + (keysL b).length ≤ f := by simpa [keysL] using hn
        have hrest : (mgK f (keysL a) (keysL b)).filterMap (fun k => chg k (findI (x :: a) k) (findI (y :: b) k)) = ofGo f a b := by
          rw [of_fm f a b hn a2 b2]
          refine fm_congr fun k hk => ?_
          rw [mgK_mem f _ _ hn'] at hk
          have : lessK x.k k = true := by
            rcases hk with hk | hk
            · exact a1 k hk
            · rw [e]; exact b1 k hk
          rw [findI_cons_miss (lessK_ne this), findI_cons_miss (x := y) (lessK_ne (by rw [← e]; exact this))]
        rw [List.filterMap_cons, findI_cons_hit, e, findI_cons_hit, hrest]
        unfold chg
        by_cases hxy : x = y
        · simp [hxy]
        · simp [hxy]
theorem of_merge {a b : List It} (ha : risB a = true) (hb : risB b = true) : ofL a b = (mgK (a.length + b.length) (keysL a) (keysL b)).filterMap fun k => chg k (findI a k) (findI b k) :=
  of_fm _ _ _ (Nat.le_refl _) (risB_ris ha) (risB_ris hb)
theorem keys_union {a b : List It} (ha : risB a = true) (hb : risB b = true) : mgK (a.length + b.length) (keysL a) (keysL b) = keysL (byKeysL (a ++ b)) := by
  have hn : (keysL a).length + (keysL b).length ≤ a.length + b.length := by simp [keysL]
  refine ris_ext (mgK_ris _ _ _ hn (risB_ris ha) (risB_ris hb)) (byKeys_ris _) fun k => ?_
  rw [mgK_mem _ _ _ hn, byKeys_mem]
  simp [keysL]
theorem of_ref {a b : List It} (ha : risB a = true) (hb : risB b = true) : ofL a b = refOfL a b := by
  rw [of_merge ha hb, keys_union ha hb]
  unfold refOfL keysL
  rw [List.filterMap_map]
  rfl
theorem of_self {a : List It} (ha : risB a = true) : ofL a a = [] := by
  rw [of_merge ha ha, List.filterMap_eq_nil_iff]
  intro k _
  unfold chg
  cases findI a k with
  | none => rfl
  | some x => simp
/-- Is it a change? -/
def rightB (x : Ch) : Bool := decide (x.o.k = x.n.k) && (if x.kd = 1 then decide (x.o = noneI x.o.k) else if x.kd = 2 then decide (x.n = noneI x.o.k) else decide (x.kd = 3) && decide (x.o ≠ x.n))
theorem chg_right {k : Ky} {a b : Option It} {c : Ch} (ha : ∀ x, a = some x → x.k = k) (hb : ∀ x, b = some x → x.k = k) (h : chg k a b = some c) : rightB c = true ∧ c.o.k = k := by
  unfold chg at h
  unfold rightB
  split at h
  · cases h
  · rename_i y
    have := hb _ rfl
    cases h
    simp [noneI, this]
  · rename_i x
    have := ha _ rfl
    cases h
    simp [noneI, this]
  · rename_i x y
    have h1 := ha _ rfl
    have h2 := hb _ rfl
    split at h
    · cases h
    · rename_i hne
      cases h
      simp [h1, h2, hne]
/-- What is wrong with changes, behind one of a key. -/
def checkGo : Option Ky → List Ch → Int
  | _, [] => 0
  | p, x :: r => if rightB x then (if (match p with | none => true | some k => lessK k x.o.k) then checkGo (some x.o.k) r else 6) else 1
def checkL (l : List Ch) : Int := checkGo none l
def okeys (l : List Ch) : List Ky := l.map fun x => x.o.k
theorem check_ok : ∀ (l : List Ch) (p : Option Ky), checkGo p l = 0 ↔ (∀ x ∈ l, rightB x = true) ∧ RisK (okeys l) ∧ (∀ k, p = some k → ∀ j ∈ okeys l, lessK k j = true)
  | [], p => by simp [checkGo, okeys, RisK]
  | x :: r, p => by
    unfold checkGo
    by_cases h1 : rightB x = true
    · rw [if_pos h1]
      by_cases h2 : (match p with | none => true | some k => lessK k x.o.k) = true
      · rw [if_pos h2, check_ok r]
        unfold RisK okeys
        simp only [List.mem_cons, List.map_cons, List.pairwise_cons, Option.some.injEq]
        constructor
        · rintro ⟨a1, a2, a3⟩
          refine ⟨?_, ⟨a3 _ rfl, a2⟩, ?_⟩
          · rintro y (rfl | hy)
            · exact h1
            · exact a1 y hy
          · rintro k rfl j (rfl | hj)
            · exact h2
            · exact lessK_trans h2 (a3 _ rfl j hj)
        · rintro ⟨a1, ⟨a2, a3⟩, a4⟩
          exact ⟨fun y hy => a1 y (.inr hy), a3, fun k hk => by subst hk; exact a2⟩
      · rw [if_neg h2]
        refine iff_of_false (by decide) ?_
        rintro ⟨_, _, a3⟩
        cases p with
        | none => exact h2 rfl
        | some k => exact h2 (a3 k rfl _ (by simp [okeys]))
    · rw [if_neg h1]
      refine iff_of_false (by decide) ?_
      rintro ⟨a1, _, _⟩
      exact h1 (a1 x (by simp))
theorem checkL_ok {l : List Ch} : checkL l = 0 ↔ (∀ x ∈ l, rightB x = true) ∧ RisK (okeys l) := by
  unfold checkL
  rw [check_ok]
  simp
theorem fm_keys {g : Ky → Option Ch} (hg : ∀ k c, g k = some c → c.o.k = k) : ∀ (l : List Ky), (okeys (l.filterMap g)).Sublist l
  | [] => List.Sublist.slnil
  | k :: l => by
    rw [List.filterMap_cons]
    have ih := fm_keys hg l
    cases h : g k with
    | none => exact ih.cons _
    | some c =>
      show ((c.o.k) :: okeys _).Sublist _
      rw [hg k c h]
      exact ih.cons_cons _
theorem chg_find {a b : List It} {k : Ky} {c : Ch} (h : chg k (findI a k) (findI b k) = some c) : rightB c = true ∧ c.o.k = k :=
  chg_right (fun x hx => findI_key hx) (fun x hx => findI_key hx) h
theorem of_check {a b : List It} (ha : risB a = true) (hb : risB b = true) : checkL (ofL a b) = 0 := by
  rw [of_merge ha hb, checkL_ok]
  refine ⟨fun x hx => ?_, ?_⟩
  · obtain ⟨k, _, hk⟩ := List.mem_filterMap.1 hx
    exact (chg_find hk).1
  · have hn : (keysL a).length + (keysL b).length ≤ a.length + b.length := by simp [keysL]
    exact List.Pairwise.sublist (fm_keys (fun k c h => (chg_find h).2) _) (mgK_ris _ _ _ hn (risB_ris ha) (risB_ris hb))
end Go.Proofs.Ytgfoaopfdpclhaa
