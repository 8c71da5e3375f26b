/-
  Joined texts: DiffP Diff Chg.
-/
import Derived.Test.YtgfoaopfdpclhaaGreatDoorBu15
import Derived.IntWalk
import Derived.Test.YtgfoaopfdpclhaaGreatDoorBu13
import Derived.Laws.IdiomCopy
namespace Go.Proofs.YtgfoaopfdpclhaaGreatDoor
open Go.RowKit
set_option linter.unusedVariables false
set_option maxRecDepth 100000

theorem ltB_irr : ∀ a : List UInt8, ltB a a = false
  | [] => rfl
  | x :: a => by
    have ih := ltB_irr a
    unfold ltB at ih ⊢
    simp [Op.bytesLess, ih]
theorem ltB_trans : ∀ a b c : List UInt8, ltB a b = true → ltB b c = true → ltB a c = true
  | a, b, [], _, h => by unfold ltB at h; cases b <;> simp [Op.bytesLess] at h
  | a, [], z :: c, h, _ => by unfold ltB at h; cases a <;> simp [Op.bytesLess] at h
  | [], y :: b, z :: c, _, _ => rfl
  | x :: a, y :: b, z :: c, h, h' => by
    have ih := ltB_trans a b c
    unfold ltB at ih h h' ⊢
    simp only [Op.bytesLess, Bool.or_eq_true, Bool.and_eq_true, decide_eq_true_eq, beq_iff_eq] at h h' ⊢
    rcases h with h | ⟨rfl, h⟩
    · rcases h' with h' | ⟨rfl, h'⟩
      · exact .inl (UInt8.lt_trans h h')
      · exact .inl h
    · rcases h' with h' | ⟨rfl, h'⟩
      · exact .inl h'
      · exact .inr ⟨rfl, ih h h'⟩
theorem ltB_tri : ∀ a b : List UInt8, a = b ∨ ltB a b = true ∨ ltB b a = true
  | [], [] => .inl rfl
  | [], _ :: _ => .inr (.inl rfl)
  | _ :: _, [] => .inr (.inr rfl)
  | x :: a, y :: b => by
    have ih := ltB_tri a b
    unfold ltB at ih ⊢
    simp only [Op.bytesLess, Bool.or_eq_true, Bool.and_eq_true, decide_eq_true_eq, beq_iff_eq, List.cons.injEq]
    by_cases h : x = y
    · subst h
      rcases ih with ih | ih | ih
      · exact .inl ⟨rfl, ih⟩
      · exact .inr (.inl (.inr ⟨rfl, ih⟩))
      · exact .inr (.inr (.inr ⟨rfl, ih⟩))
    · rcases UInt8.lt_or_lt_of_ne h with h | h
      · exact .inr (.inl (.inl h))
      · exact .inr (.inr (.inl h))
theorem lessK_irr (a : Ky) : lessK a a = false := by unfold lessK; simp [ltB_irr]
theorem lessK_tri (a b : Ky) : a = b ∨ lessK a b = true ∨ lessK b a = true := by
  unfold lessK
  by_cases h1 : a.n = b.n
  · by_cases h2 : a.d = b.d
    · simp only [h1, h2, ne_eq, not_true_eq_false, if_false]
      rcases ltB_tri a.p b.p with h | h | h
      · left; cases a; cases b; simp_all
      · exact .inr (.inl h)
      · exact .inr (.inr h)
    · simp only [h1, h2, Ne.symm h2, ne_eq, not_true_eq_false, not_false_eq_true, if_true, if_false]
      rcases ltB_tri a.d b.d with h | h | h
      · exact absurd h h2
      · exact .inr (.inl h)
      · right; right; exact h
  · rcases ltB_tri a.n b.n with h | h | h
    · exact absurd h h1
    · right; left; rw [if_pos h1]; exact h
    · right; right; rw [if_pos (fun e => h1 e.symm)]; exact h
theorem lessK_trans {a b c : Ky} (h : lessK a b = true) (h' : lessK b c = true) : lessK a c = true := by
  unfold lessK at h h' ⊢
  by_cases h1 : a.n = b.n
  · by_cases h2 : b.n = c.n
    · rw [if_neg (by simpa using h1)] at h
      rw [if_neg (by simpa using h2)] at h'
      rw [if_neg (by simpa using h1.trans h2)]
      by_cases h3 : a.d = b.d
      · by_cases h4 : b.d = c.d
        · rw [if_neg (by simpa using h3)] at h
          rw [if_neg (by simpa using h4)] at h'
          rw [if_neg (by simpa using h3.trans h4)]
          exact ltB_trans _ _ _ h h'
        · rw [if_pos h4] at h'
          rw [h3, if_pos h4]; exact h'
      · rw [if_pos h3] at h
        by_cases h4 : b.d = c.d
        · rw [← h4, if_pos h3]; exact h
        · rw [if_pos h4] at h'
          have := ltB_trans _ _ _ h h'
          rw [if_pos (fun e => by rw [e, ltB_irr] at this; cases this)]; exact this
    · rw [if_pos h2] at h'
      rw [h1, if_pos h2]; exact h'
  · rw [if_pos h1] at h
    by_cases h2 : b.n = c.n
    · rw [← h2, if_pos h1]; exact h
    · rw [if_pos h2] at h'
      have := ltB_trans _ _ _ h h'
      rw [if_pos (fun e => by rw [e, ltB_irr] at this; cases this)]; exact this
theorem lessK_asym {a b : Ky} (h : lessK a b = true) : lessK b a = false := by
  cases h' : lessK b a with
  | false => rfl
  | true => have := lessK_trans h h'; rw [lessK_irr] at this; cases this
theorem lessK_ne {a b : Ky} (h : lessK a b = true) : a ≠ b := fun e => by subst e; rw [lessK_irr] at h; cases h
theorem lessK_eq {a b : Ky} (h : lessK a b = false) (h' : lessK b a = false) : a = b := by
  rcases lessK_tri a b with e | e | e
  · exact e
  · rw [e] at h; cases h
  · rw [e] at h'; cases h'

/-- Keys that rise. -/
def RisK (l : List Ky) : Prop := l.Pairwise fun x y => lessK x y = true
theorem ris_ext : ∀ {l m : List Ky}, RisK l → RisK m → (∀ k, k ∈ l ↔ k ∈ m) → l = m
  | [], [], _, _, _ => rfl
  | [], y :: m, _, _, h => by have := (h y).2 (by simp); simp at this
  | x :: l, [], _, _, h => by have := (h x).1 (by simp); simp at this
  | x :: l, y :: m, h1, h2, h => by
    obtain ⟨a1, a2⟩ := List.pairwise_cons.1 h1
    obtain ⟨b1, b2⟩ := List.pairwise_cons.1 h2
    have e : x = y := by
      have hx := (h x).1 (by simp)
      have hy := (h y).2 (by simp)
      rcases List.mem_cons.1 hx with e | hx
      · exact e
      · rcases List.mem_cons.1 hy with e | hy
        · exact e.symm
        · have := lessK_trans (b1 _ hx) (a1 _ hy)
          rw [lessK_irr] at this; cases this
    subst e
    rw [ris_ext a2 b2 fun k => ?_]
    have := h k
    simp only [List.mem_cons] at this
    constructor
    · intro hk
      rcases this.1 (.inr hk) with e | e
      · subst e; have := lessK_ne (a1 _ hk); exact absurd rfl this
      · exact e
    · intro hk
      rcases this.2 (.inr hk) with e | e
      · subst e; have := lessK_ne (b1 _ hk); exact absurd rfl this
      · exact e

def keysL (l : List It) : List Ky := l.map (·.k)
/-- Do items stand by rising keys? -/
def risB : List It → Bool
  | [] => true
  | [_] => true
  | x :: y :: r => lessK x.k y.k && risB (y :: r)
theorem risB_all : ∀ {l : List It}, (∀ i (h : i + 1 < l.length), lessK (l[i]'(by omega)).k l[i + 1].k = true) → risB l = true
  | [], _ => rfl
  | [_], _ => rfl
  | x :: y :: r, h => by
    unfold risB
    rw [Bool.and_eq_true]
    exact ⟨h 0 (by simp), risB_all fun i hi => h (i + 1) (by simpa using hi)⟩
theorem risB_at : ∀ {l : List It}, risB l = true → ∀ i (h : i + 1 < l.length), lessK (l[i]'(by omega)).k l[i + 1].k = true
  | [], _, i, h => absurd h (by simp)
  | [_], _, i, h => absurd h (by simp)
  | x :: y :: r, hb, i, h => by
    unfold risB at hb
    rw [Bool.and_eq_true] at hb
    cases i with
    | zero => exact hb.1
    | succ i => exact risB_at hb.2 i (by simpa using h)
theorem risB_bad {l : List It} {i : Nat} (h : i + 1 < l.length) (hb : lessK (l[i]'(by omega)).k l[i + 1].k = false) : risB l = false := by
  cases e : risB l with
  | false => rfl
  | true => have := risB_at e i h; rw [hb] at this; cases this
theorem risB_ris : ∀ {l : List It}, risB l = true → RisK (keysL l)
  | [], _ => List.Pairwise.nil
  | [_], _ => List.pairwise_singleton _ _
  | x :: y :: r, h => by
    unfold risB at h
    rw [Bool.and_eq_true] at h
    have ih := risB_ris h.2
    refine List.pairwise_cons.2 ⟨fun k hk => ?_, ih⟩
    rcases List.mem_cons.1 hk with rfl | hk
    · exact h.1
    · exact lessK_trans h.1 ((List.pairwise_cons.1 ih).1 k hk)
theorem ris_risB : ∀ {l : List It}, RisK (keysL l) → risB l = true
  | [], _ => rfl
  | [_], _ => rfl
  | x :: y :: r, h => by
    unfold risB
    rw [Bool.and_eq_true]
    obtain ⟨h1, h2⟩ := List.pairwise_cons.1 h
    exact ⟨h1 _ (by simp), ris_risB h2⟩

/-- A list by keys, with one item more. -/
def putI (l : List It) (x : It) : List It := (l.filter fun y => lessK y.k x.k) ++ [x] ++ l.filter fun y => lessK x.k y.k
def byKeysL (l : List It) : List It := l.foldl putI []
theorem ris_filter {l : List It} (p : It → Bool) (h : RisK (keysL l)) : RisK (keysL (l.filter p)) := by
  unfold RisK keysL at *
  exact List.Pairwise.sublist ((List.filter_sublist).map _) h
theorem put_ris {l : List It} (x : It) (h : RisK (keysL l)) : RisK (keysL (putI l x)) := by
  have h1 := ris_filter (fun y => lessK y.k x.k) h
  have h2 := ris_filter (fun y => lessK x.k y.k) h
  unfold putI RisK keysL at *
  rw [List.map_append, List.map_append, List.pairwise_append, List.pairwise_append]
  simp only [List.map_cons, List.map_nil, List.mem_append, List.mem_map, List.mem_filter, List.mem_singleton]
  refine ⟨⟨h1, List.pairwise_singleton _ _, ?_⟩, h2, ?_⟩
  · rintro a ⟨y, ⟨hy, hl⟩, rfl⟩ b rfl; exact hl
  · rintro a ha b ⟨z, ⟨hz, hl2⟩, rfl⟩
    rcases ha with ⟨y, ⟨hy, hl⟩, rfl⟩ | rfl
    · exact lessK_trans hl hl2
    · exact hl2
theorem put_mem {l : List It} (x : It) (k : Ky) : k ∈ keysL (putI l x) ↔ k ∈ keysL l ∨ k = x.k := by
  unfold putI keysL
  simp only [List.map_append, List.mem_append, List.mem_map, List.mem_filter, List.map_cons, List.map_nil, List.mem_singleton]
  constructor
  · rintro ((⟨y, ⟨hy, _⟩, rfl⟩ | rfl) | ⟨y, ⟨hy, _⟩, rfl⟩)
    · exact .inl ⟨y, hy, rfl⟩
    · exact .inr rfl
    · exact .inl ⟨y, hy, rfl⟩
  · rintro (⟨y, hy, rfl⟩ | rfl)
    · rcases lessK_tri y.k x.k with e | e | e
      · exact .inl (.inr e)
      · exact .inl (.inl ⟨y, ⟨hy, e⟩, rfl⟩)
      · exact .inr ⟨y, ⟨hy, e⟩, rfl⟩
    · exact .inl (.inr rfl)
theorem foldl_put_ris (m : List It) : ∀ {l : List It}, RisK (keysL l) → RisK (keysL (m.foldl putI l)) := by
  induction m with
  | nil => exact fun h => h
  | cons x m ih => exact fun h => ih (put_ris x h)
theorem foldl_put_mem (m : List It) (k : Ky) : ∀ {l : List It}, k ∈ keysL (m.foldl putI l) ↔ k ∈ keysL l ∨ k ∈ keysL m := by
  induction m with
  | nil => intro l; simp [keysL]
  | cons x m ih =>
    intro l
    rw [List.foldl_cons, ih, put_mem]
    simp only [keysL, List.map_cons, List.mem_cons]
    constructor
    · rintro ((h | h) | h)
      · exact .inl h
      · exact .inr (.inl h)
      · exact .inr (.inr h)
    · rintro (h | h | h)
      · exact .inl (.inl h)
      · exact .inl (.inr h)
      · exact .inr h
theorem byKeys_ris (l : List It) : RisK (keysL (byKeysL l)) := foldl_put_ris l List.Pairwise.nil
theorem byKeys_mem (l : List It) (k : Ky) : k ∈ keysL (byKeysL l) ↔ k ∈ keysL l := by unfold byKeysL; rw [foldl_put_mem]; simp [keysL]

/-- The item of a key. -/
def findI (l : List It) (k : Ky) : Option It := l.find? fun x => decide (x.k = k)
theorem findI_key {l : List It} {k : Ky} {x : It} (h : findI l k = some x) : x.k = k := by
  have := List.find?_some h; simpa using this
theorem findI_cons_hit (x : It) (l : List It) : findI (x :: l) x.k = some x := by simp [findI]
theorem findI_cons_miss {x : It} {k : Ky} (h : x.k ≠ k) (l : List It) : findI (x :: l) k = findI l k := by simp [findI, h]
theorem findI_none {l : List It} {k : Ky} (h : ∀ y ∈ l, y.k ≠ k) : findI l k = none := by
  unfold findI; rw [List.find?_eq_none]; intro y hy; simpa using h y hy

/-- A change. -/
structure Ch where
  kd : Int
  o : It
  n : It
deriving DecidableEq
/-- The change of a key, from an item or none to an item or none. -/
def chg (k : Ky) (a b : Option It) : Option Ch :=
  match a, b with
  | none, none => none
  | none, some y => some ⟨1, noneI k, y⟩
  | some x, none => some ⟨2, x, noneI k⟩
  | some x, some y => if x = y then none else some ⟨3, x, y⟩
def refOfL (a b : List It) : List Ch := (byKeysL (a ++ b)).filterMap fun z => chg z.k (findI a z.k) (findI b z.k)
def ofGo : Nat → List It → List It → List Ch
  | 0, _, _ => []
  | _ + 1, [], [] => []
  | f + 1, x :: a, [] => ⟨2, x, noneI x.k⟩ :: ofGo f a []
  | f + 1, [], y :: b => ⟨1, noneI y.k, y⟩ :: ofGo f [] b
  | f + 1, x :: a, y :: b => if lessK x.k y.k then ⟨2, x, noneI x.k⟩ :: ofGo f a (y :: b) else if lessK y.k x.k then ⟨1, noneI y.k, y⟩ :: ofGo f (x :: a) b else if x = y then ofGo f a b else ⟨3, x, y⟩ :: ofGo f a b
def ofL (a b : List It) : List Ch := ofGo (a.length + b.length) a b
def mgK : Nat → List Ky → List Ky → List Ky
  | 0, _, _ => []
  | _ + 1, [], [] => []
  | f + 1, x :: a, [] => x :: mgK f a []
  | f + 1, [], y :: b => y :: mgK f [] b
  | f + 1, x :: a, y :: b => if lessK x y then x :: mgK f a (y :: b) else if lessK y x then y :: mgK f (x :: a) b else x :: mgK f a b
theorem mgK_mem : ∀ (f : Nat) (a b : List Ky), a.length + b.length ≤ f → ∀ k, k ∈ mgK f a b ↔ k ∈ a ∨ k ∈ b
  | 0, a, b, h, k => by
    obtain rfl : a = [] := List.length_eq_zero_iff.1 (by omega)
    obtain rfl : b = [] := List.length_eq_zero_iff.1 (by omega)
    simp [mgK]
  | f + 1, [], [], h, k => by simp [mgK]
  | f + 1, x :: a, [], h, k => by simp only [mgK, List.mem_cons]; rw [mgK_mem f a [] (by simp at h ⊢; omega)]; simp
  | f + 1, [], y :: b, h, k => by simp only [mgK, List.mem_cons]; rw [mgK_mem f [] b (by simp at h ⊢; omega)]; simp
  | f + 1, x :: a, y :: b, h, k => by
    simp only [List.length_cons] at h
    simp only [mgK]
    split
    · rw [List.mem_cons, mgK_mem f a (y :: b) (by simp; omega)]; simp only [List.mem_cons, or_assoc]
    · split
      · rw [List.mem_cons, mgK_mem f (x :: a) b (by simp; omega)]; simp only [List.mem_cons]
        constructor
        · rintro (h | (h | h) | h)
          · exact .inr (.inl h)
          · exact .inl (.inl h)
          · exact .inl (.inr h)
          · exact .inr (.inr h)
        · rintro ((h | h) | h | h)
          · exact .inr (.inl (.inl h))
          · exact .inr (.inl (.inr h))
          · exact .inl h
          · exact .inr (.inr h)
      · rename_i h1 h2
        have e : x = y := lessK_eq (by simpa using h1) (by simpa using h2)
        subst e
        rw [List.mem_cons, mgK_mem f a b (by omega)]; simp only [List.mem_cons]
        constructor
        · rintro (h | h | h)
          · exact .inl (.inl h)
          · exact .inl (.inr h)
          · exact .inr (.inr h)
        · rintro ((h | h) | h | h)
          · exact .inl h
          · exact .inr (.inl h)
          · exact .inl h
          · exact .inr (.inr h)
theorem mgK_ris : ∀ (f : Nat) (a b : List Ky), a.length + b.length ≤ f → RisK a → RisK b → RisK (mgK f a b)
  | 0, a, b, h, _, _ => List.Pairwise.nil
  | f + 1, [], [], h, _, _ => List.Pairwise.nil
  | f + 1, x :: a, [], h, ha, hb => by
    obtain ⟨h1, h2⟩ := List.pairwise_cons.1 ha
    have hl : a.length + ([] : List Ky).length ≤ f := by simp at h ⊢; omega
    exact List.pairwise_cons.2 ⟨fun k hk => h1 k (by rw [mgK_mem f a [] hl] at hk; simpa using hk), mgK_ris f a [] hl h2 hb⟩
  | f + 1, [], y :: b, h, ha, hb => by
    obtain ⟨h1, h2⟩ := List.pairwise_cons.1 hb
    have hl : ([] : List Ky).length + b.length ≤ f := by simp at h ⊢; omega
    exact List.pairwise_cons.2 ⟨fun k hk => h1 k (by rw [mgK_mem f [] b hl] at hk; simpa using hk), mgK_ris f [] b hl ha h2⟩
  | f + 1, x :: a, y :: b, h, ha, hb => by
    obtain ⟨a1, a2⟩ := List.pairwise_cons.1 ha
    obtain ⟨b1, b2⟩ := List.pairwise_cons.1 hb
    simp only [List.length_cons] at h
    simp only [mgK]
    split
    · rename_i hl
      have hn : a.length + (y :: b).length ≤ f := by simp; omega
      refine List.pairwise_cons.2 ⟨fun k hk => ?_, mgK_ris f a (y :: b) hn a2 hb⟩
      rw [mgK_mem f _ _ hn] at hk
      rcases hk with hk | hk
      · exact a1 k hk
      · rcases List.mem_cons.1 hk with rfl | hk
        · exact hl
        · exact lessK_trans hl (b1 k hk)
    · split
      · rename_i _ hl
        have hn : (x :: a).length + b.length ≤ f := by simp; omega
        refine List.pairwise_cons.2 ⟨fun k hk => ?_, mgK_ris f (x :: a) b hn ha b2⟩
        rw [mgK_mem f _ _ hn] at hk
        rcases hk with hk | hk
        · rcases List.mem_cons.1 hk with rfl | hk
          · exact hl
          · exact lessK_trans hl (a1 k hk)
        · exact b1 k hk
      · rename_i h1 h2
        have e : x = y := lessK_eq (by simpa using h1) (by simpa using h2)
        subst e
        have hn : a.length + b.length ≤ f := by omega
        refine List.pairwise_cons.2 ⟨fun k hk => ?_, mgK_ris f a b hn a2 b2⟩
        rw [mgK_mem f _ _ hn] at hk
        rcases hk with hk | hk
        · exact a1 k hk
        · exact b1 k hk
theorem fm_congr {α β : Type} {f g : α → Option β} : ∀ {l : List α}, (∀ x ∈ l, f x = g x) → l.filterMap f = l.filterMap g
  | [], _ => rfl
  | x :: l, h => by
    rw [List.filterMap_cons, List.filterMap_cons, h x (by simp), fm_congr fun y hy => h y (by simp [hy])]
theorem keys_gt {x : It} {k : Ky} {l : List It} (h : ∀ j ∈ keysL l, lessK k j = true) : findI l k = none :=
  findI_none fun y hy e => by
    have := h y.k (by unfold keysL; exact List.mem_map.2 ⟨y, hy, rfl⟩)
    rw [e, lessK_irr] at this; cases this
theorem of_fm : ∀ (f : Nat) (a b : List It), a.length + b.length ≤ f → RisK (keysL a) → RisK (keysL b) → ofGo f a b = (mgK f (keysL a) (keysL b)).filterMap fun k => chg k (findI a k) (findI b k)
  | 0, a, b, h, _, _ => by simp [ofGo, mgK]
  | f + 1, [], [], h, _, _ => by simp [ofGo, mgK, keysL]
  | f + 1, x :: a, [], h, ha, hb => by
    obtain ⟨a1, a2⟩ := List.pairwise_cons.1 ha
    have hn : a.length + ([] : List It).length ≤ f := by simp at h ⊢; omega
    have hn' : (keysL a).length + (keysL []).length ≤ f := by simpa [keysL] using hn
    have ih := of_fm f a [] hn a2 hb
    simp only [ofGo]
    rw [ih]
    show _ = (x.k :: mgK f (keysL a) (keysL [])).filterMap _
    rw [List.filterMap_cons, findI_cons_hit]
    show _ :: _ = _ :: _
    congr 1
    refine fm_congr fun k hk => ?_
    rw [mgK_mem f _ _ hn'] at hk
    rw [findI_cons_miss (lessK_ne (a1 k (by simpa [keysL] using hk)))]
  | f + 1, [], y :: b, h, ha, hb => by
    obtain ⟨b1, b2⟩ := List.pairwise_cons.1 hb
    have hn : ([] : List It).length + b.length ≤ f := by simp at h ⊢; omega
    have hn' : (keysL []).length + (keysL b).length ≤ f := by simpa [keysL] using hn
    have ih := of_fm f [] b hn ha b2
    simp only [ofGo]
    rw [ih]
    show _ = (y.k :: mgK f (keysL []) (keysL b)).filterMap _
    rw [List.filterMap_cons, findI_cons_hit]
    show _ :: _ = _ :: _
    congr 1
    refine fm_congr fun k hk => ?_
    rw [mgK_mem f _ _ hn'] at hk
    rw [findI_cons_miss (lessK_ne (b1 k (by simpa [keysL] using hk)))]
  | f + 1, x :: a, y :: b, h, ha, hb => by
    obtain ⟨a1, a2⟩ := List.pairwise_cons.1 ha
    obtain ⟨b1, b2⟩ := List.pairwise_cons.1 hb
    simp only [List.length_cons] at h
    simp only [ofGo]
    show _ = (if lessK x.k y.k then x.k :: mgK f (keysL a) (keysL (y :: b)) else if lessK y.k x.k then y.k :: mgK f (keysL (x :: a)) (keysL b) else x.k :: mgK f (keysL a) (keysL b)).filterMap _
    by_cases hl : lessK x.k y.k = true
    · rw [if_pos hl, if_pos hl]
      have hn : a.length + (y :: b).length ≤ f := by simp; omega
      have hn' : (keysL a).length + (keysL (y :: b)).length ≤ f := by simpa [keysL] using hn
      rw [of_fm f a (y :: b) hn a2 hb, List.filterMap_cons, findI_cons_hit, keys_gt (x := x) (k := x.k) (l := y :: b) (fun j hj => by
        rcases List.mem_cons.1 hj with rfl | hj
        · exact hl
        · exact lessK_trans hl (b1 j hj))]
      show _ :: _ = _ :: _
      congr 1
      refine fm_congr fun k hk => ?_
      rw [mgK_mem f _ _ hn'] at hk
      have : lessK x.k k = true := by
        rcases hk with hk | hk
        · exact a1 k hk
        · rcases List.mem_cons.1 hk with rfl | hk
          · exact hl
          · exact lessK_trans hl (b1 k hk)
      rw [findI_cons_miss (lessK_ne this)]
    · rw [if_neg hl, if_neg hl]
      by_cases hr : lessK y.k x.k = true
      · rw [if_pos hr, if_pos hr]
        have hn : (x :: a).length + b.length ≤ f := by simp; omega
        have hn' : (keysL (x :: a)).length + (keysL b).length ≤ f := by simpa [keysL] using hn
        rw [of_fm f (x :: a) b hn ha b2, List.filterMap_cons, findI_cons_hit, keys_gt (x := x) (k := y.k) (l := x :: a) (fun j hj => by
          rcases List.mem_cons.1 hj with rfl | hj
          · exact hr
          · exact lessK_trans hr (a1 j hj))]
        show _ :: _ = _ :: _
        congr 1
        refine fm_congr fun k hk => ?_
        rw [mgK_mem f _ _ hn'] at hk
        have : lessK y.k k = true := by
          rcases hk with hk | hk
          · rcases List.mem_cons.1 hk with rfl | hk
            · exact hr
            · exact lessK_trans hr (a1 k hk)
          · exact b1 k hk
        rw [findI_cons_miss (x := y) (lessK_ne this)]
      · rw [if_neg hr, if_neg hr]
        have e : x.k = y.k := lessK_eq (by simpa using hl) (by simpa using hr)
        have hn : a.length + b.length ≤ f := by omega
        have hn' : (keysL a).length + (keysL b).length ≤ f := by simpa [keysL] using hn
        have hrest : (mgK f (keysL a) (keysL b)).filterMap (fun k => chg k (findI (x :: a) k) (findI (y :: b) k)) = ofGo f a b := by
          rw [of_fm f a b hn a2 b2]
          refine fm_congr fun k hk => ?_
          rw [mgK_mem f _ _ hn'] at hk
          have : lessK x.k k = true := by
            rcases hk with hk | hk
            · exact a1 k hk
            · rw [e]; exact b1 k hk
          rw [findI_cons_miss (lessK_ne this), findI_cons_miss (x := y) (lessK_ne (by rw [← e]; exact this))]
        rw [List.filterMap_cons, findI_cons_hit, e, findI_cons_hit, hrest]
        unfold chg
        by_cases hxy : x = y
        · simp [hxy]
        · simp [hxy]
theorem of_merge {a b : List It} (ha : risB a = true) (hb : risB b = true) : ofL a b = (mgK (a.length + b.length) (keysL a) (keysL b)).filterMap fun k => chg k (findI a k) (findI b k) :=
  of_fm _ _ _ (Nat.le_refl _) (risB_ris ha) (risB_ris hb)
theorem keys_union {a b : List It} (ha : risB a = true) (hb : risB b = true) : mgK (a.length + b.length) (keysL a) (keysL b) = keysL (byKeysL (a ++ b)) := by
  have hn : (keysL a).length + (keysL b).length ≤ a.length + b.length := by simp [keysL]
  refine ris_ext (mgK_ris _ _ _ hn (risB_ris ha) (risB_ris hb)) (byKeys_ris _) fun k => ?_
  rw [mgK_mem _ _ _ hn, byKeys_mem]
  simp [keysL]
theorem of_ref {a b : List It} (ha : risB a = true) (hb : risB b = true) : ofL a b = refOfL a b := by
  rw [of_merge ha hb, keys_union ha hb]
  unfold refOfL keysL
  rw [List.filterMap_map]
  rfl
theorem of_self {a : List It} (ha : risB a = true) : ofL a a = [] := by
  rw [of_merge ha ha, List.filterMap_eq_nil_iff]
  intro k _
  unfold chg
  cases findI a k with
  | none => rfl
  | some x => simp
/-- Is it a change? -/
def rightBD (x : Ch) : Bool := decide (x.o.k = x.n.k) && (if x.kd = 1 then decide (x.o = noneI x.o.k) else if x.kd = 2 then decide (x.n = noneI x.o.k) else decide (x.kd = 3) && decide (x.o ≠ x.n))
theorem chg_right {k : Ky} {a b : Option It} {c : Ch} (ha : ∀ x, a = some x → x.k = k) (hb : ∀ x, b = some x → x.k = k) (h : chg k a b = some c) : rightBD c = true ∧ c.o.k = k := by
  unfold chg at h
  unfold rightBD
  split at h
  · cases h
  · rename_i y
    have := hb _ rfl
    cases h
    simp [noneI, this]
  · rename_i x
    have := ha _ rfl
    cases h
    simp [noneI, this]
  · rename_i x y
    have h1 := ha _ rfl
    have h2 := hb _ rfl
    split at h
    · cases h
    · rename_i hne
      cases h
      simp [h1, h2, hne]
/-- What is wrong with changes, behind one of a key. -/
def checkGo : Option Ky → List Ch → Int
  | _, [] => 0
  | p, x :: r => if rightBD x then (if (match p with | none => true | some k => lessK k x.o.k) then checkGo (some x.o.k) r else 6) else 1
def checkL (l : List Ch) : Int := checkGo none l
def okeys (l : List Ch) : List Ky := l.map fun x => x.o.k
theorem check_ok : ∀ (l : List Ch) (p : Option Ky), checkGo p l = 0 ↔ (∀ x ∈ l, rightBD x = true) ∧ RisK (okeys l) ∧ (∀ k, p = some k → ∀ j ∈ okeys l, lessK k j = true)
  | [], p => by simp [checkGo, okeys, RisK]
  | x :: r, p => by
    unfold checkGo
    by_cases h1 : rightBD x = true
    · rw [if_pos h1]
      by_cases h2 : (match p with | none => true | some k => lessK k x.o.k) = true
      · rw [if_pos h2, check_ok r]
        unfold RisK okeys
        simp only [List.mem_cons, List.map_cons, List.pairwise_cons, Option.some.injEq]
        constructor
        · rintro ⟨a1, a2, a3⟩
          refine ⟨?_, ⟨a3 _ rfl, a2⟩, ?_⟩
          · rintro y (rfl | hy)
            · exact h1
            · exact a1 y hy
          · rintro k rfl j (rfl | hj)
            · exact h2
            · exact lessK_trans h2 (a3 _ rfl j hj)
        · rintro ⟨a1, ⟨a2, a3⟩, a4⟩
          exact ⟨fun y hy => a1 y (.inr hy), a3, fun k hk => by subst hk; exact a2⟩
      · rw [if_neg h2]
        refine iff_of_false (by decide) ?_
        rintro ⟨_, _, a3⟩
        cases p with
        | none => exact h2 rfl
        | some k => exact h2 (a3 k rfl _ (by simp [okeys]))
    · rw [if_neg h1]
      refine iff_of_false (by decide) ?_
      rintro ⟨a1, _, _⟩
      exact h1 (a1 x (by simp))
theorem checkL_ok {l : List Ch} : checkL l = 0 ↔ (∀ x ∈ l, rightBD x = true) ∧ RisK (okeys l) := by
  unfold checkL
  rw [check_ok]
  simp
theorem fm_keys {g : Ky → Option Ch} (hg : ∀ k c, g k = some c → c.o.k = k) : ∀ (l : List Ky), (okeys (l.filterMap g)).Sublist l
  | [] => List.Sublist.slnil
  | k :: l => by
    rw [List.filterMap_cons]
    have ih := fm_keys hg l
    cases h : g k with
    | none => exact ih.cons _
    | some c =>
      show ((c.o.k) :: okeys _).Sublist _
      rw [hg k c h]
      exact ih.cons_cons _
theorem chg_find {a b : List It} {k : Ky} {c : Ch} (h : chg k (findI a k) (findI b k) = some c) : rightBD c = true ∧ c.o.k = k :=
  chg_right (fun x hx => findI_key hx) (fun x hx => findI_key hx) h
theorem of_check {a b : List It} (ha : risB a = true) (hb : risB b = true) : checkL (ofL a b) = 0 := by
  rw [of_merge ha hb, checkL_ok]
  refine ⟨fun x hx => ?_, ?_⟩
  · obtain ⟨k, _, hk⟩ := List.mem_filterMap.1 hx
    exact (chg_find hk).1
  · have hn : (keysL a).length + (keysL b).length ≤ a.length + b.length := by simp [keysL]
    exact List.Pairwise.sublist (fm_keys (fun k c h => (chg_find h).2) _) (mgK_ris _ _ _ hn (risB_ris ha) (risB_ris hb))
end Go.Proofs.YtgfoaopfdpclhaaGreatDoor
namespace Go.Proofs.YtgfoaopfdpclhaaGreatDoor
open Go.RowKit
set_option linter.unusedVariables false
set_option maxRecDepth 100000

theorem kyAt_later {w w1 : World} {b o : Nat} {k : Ky} (h : kyAt w b o = some k) (hb : Below w.heap.size w w1) : kyAt w1 b o = some k := rdAt_kept hb (ky_lt h) h
theorem itAt_later {w w1 : World} {b o : Nat} {k : It} (h : itAt w b o = some k) (hb : Below w.heap.size w w1) : itAt w1 b o = some k := rdAt_kept hb (it_lt h) h
theorem ky_drew {w : World} {b o : Nat} {k : Ky} (h : kyAt w b o = some k) : kyAt w.drew b o = some k := by rw [kyAt_drew]; exact h
theorem it_drew {w : World} {b o : Nat} {k : It} (h : itAt w b o = some k) : itAt w.drew b o = some k := by rw [itAt_drew]; exact h
theorem bel_drew {W w w1 : World} (h : Below W.heap.size W w) (hb : Below w.drew.heap.size w.drew w1) : Below W.heap.size W w1 := bel_call h.drew hb

end Go.Proofs.YtgfoaopfdpclhaaGreatDoor
namespace Go.Proofs.YtgfoaopfdpclhaaGreatDoor
open Go.RowKit
set_option linter.unusedVariables false
set_option maxRecDepth 100000

def cC (x : Ch) : List Value := .int .i64 x.kd :: (cI x.o ++ cI x.n)
abbrev vC (x : Ch) : Value := .agg (cC x).toArray
@[simp, go_sem] theorem cC_len (x : Ch) : (cC x).length = 23 := Eq.trans rfl rfl
@[simp, go_sem] theorem cC_0 (x : Ch) : (cC x)[0]? = some (.int .i64 x.kd) := rfl
@[simp, go_sem] theorem cC_g0 (x : Ch) (h : 0 < (cC x).length) : (cC x)[0] = .int .i64 x.kd := rfl
theorem cC_inj {a b : Ch} (h : cC a = cC b) : a = b := by
  obtain ⟨h0, h⟩ := List.cons.inj h
  obtain ⟨h1, h2⟩ := List.append_inj h rfl
  have e1 := cI_inj h1
  have e2 := cI_inj h2
  injection h0 with _ h0
  cases a; cases b
  simp only at e1 e2 h0
  rw [h0, e1, e2]
/-- Is each of one cell? -/
def oneB (l : List Value) : Bool := l.all (·.oneCell')
theorem oneB_all {l : List Value} (h : oneB l = true) : ∀ v ∈ l, v.oneCell' = true := by unfold oneB at h; simpa using h
@[simp, go_sem] theorem oneB_K (k : Ky) : oneB (cK k) = true := Eq.trans rfl rfl
@[simp, go_sem] theorem oneB_Ck (k : Ck) : oneB (cCk k) = true := Eq.trans rfl rfl
@[simp, go_sem] theorem oneB_I (k : It) : oneB (cI k) = true := Eq.trans rfl rfl
@[simp, go_sem] theorem oneB_C (k : Ch) : oneB (cC k) = true := Eq.trans rfl rfl
theorem cC_one (x : Ch) : ∀ u ∈ (cC x).toArray.toList, u.oneCell' = true := oneB_all (by simp)

noncomputable def chAt (w : World) (b o : Nat) : Option Ch := rdAt cC w b o
theorem chAt_of {w : World} {b o : Nat} {k : Ch} (h : w.rangeAt b o (cC k)) : chAt w b o = some k := rdAt_of (fun _ _ => cC_inj) (fun _ _ => rfl) h
theorem ch_parts {w : World} {b o : Nat} {x : Ch} (h : chAt w b o = some x) : w.cell? ⟨b, o, none⟩ = some (.int .i64 x.kd) ∧ itAt w b (o + 1) = some x.o ∧ itAt w b (o + 12) = some x.n ∧ kyAt w b (o + 1) = some x.o.k ∧ kyAt w b (o + 12) = some x.n.k := by
  have hr : w.rangeAt b o (cC x) := rdAt_range (f := cC) h
  have h1 : itAt w b (o + 1) = some x.o := itAt_of (range_part (l := [.int .i64 x.kd]) (m := cI x.o) (r := cI x.n) hr)
  have h2 : itAt w b (o + 12) = some x.n := itAt_of (range_part (l := .int .i64 x.kd :: cI x.o) (m := cI x.n) (r := []) (by rw [List.append_nil]; exact hr))
  exact ⟨hr 0 _ rfl, h1, h2, kyAt_it h1, kyAt_it h2⟩
theorem ch_lt {w : World} {b o : Nat} {x : Ch} (h : chAt w b o = some x) : b < w.heap.size := World.block_lt_of_cell? w _ (ch_parts h).1
theorem chAt_later {w w1 : World} {b o : Nat} {k : Ch} (h : chAt w b o = some k) (hb : Below w.heap.size w w1) : chAt w1 b o = some k := rdAt_kept hb (ch_lt h) h
theorem ch_drew {w : World} {b o : Nat} {k : Ch} (h : chAt w b o = some k) : chAt w.drew b o = some k := (rdAt_drew _ _ _ _).trans h
@[go_sem] theorem kyAt_drewN (w : World) (n b o : Nat) : kyAt (w.drewN n) b o = kyAt w b o := rdAt_cells fun o => by simp
@[go_sem] theorem itAt_drewN (w : World) (n b o : Nat) : itAt (w.drewN n) b o = itAt w b o := rdAt_cells fun o => by simp
@[go_sem] theorem chAt_drewN (w : World) (n b o : Nat) : chAt (w.drewN n) b o = chAt w b o := rdAt_cells fun o => by simp
theorem itAt_dN {w : World} {b o : Nat} {k : It} (h : itAt w b o = some k) (n : Nat) : itAt (w.drewN n) b o = some k := (itAt_drewN w n b o).trans h
theorem kyAt_dN {w : World} {b o : Nat} {k : Ky} (h : kyAt w b o = some k) (n : Nat) : kyAt (w.drewN n) b o = some k := (kyAt_drewN w n b o).trans h
theorem chAt_dN {w : World} {b o : Nat} {k : Ch} (h : chAt w b o = some k) (n : Nat) : chAt (w.drewN n) b o = some k := (chAt_drewN w n b o).trans h
theorem there_dN {w : World} {b o m : Nat} (h : w.there b o m) (n : Nat) : (w.drewN n).there b o m := h
theorem below_setCells {B : Nat} {a : World} (b : Nat) : ∀ (l : List Value) (o : Nat) {w : World}, Below B a w → B ≤ b → Below B a (w.setCells b o l)
  | [], _, _, h, _ => h
  | v :: l, o, _, h, hb => below_setCells b l (o + 1) (h.setCell hb v) hb
theorem itAt_setCells {w : World} {b : Nat} (x : It) (h : w.there b 0 11) : itAt (w.setCells b 0 (cI x)) b 0 = some x := itAt_of (World.rangeAt_setCells_same w b 0 (cI x) h)
theorem chAt_setCells {w : World} {b : Nat} (x : Ch) (h : w.there b 0 23) : chAt (w.setCells b 0 (cC x)) b 0 = some x := chAt_of (World.rangeAt_setCells_same w b 0 (cC x) h)
theorem rdAt_far {α : Type} {f : α → List Value} {w : World} {b o b' o' : Nat} {l : List Value} (h : b ≠ b') : rdAt f (w.setCells b' o' l) b o = rdAt f w b o :=
  rdAt_cells fun o => World.cell?_setCells_out b' l o' w ⟨b, o, none⟩ (fun e _ => absurd e h)
@[go_sem] theorem itAt_setCells_ne (w : World) (b o b' o' : Nat) (l : List Value) (h : b ≠ b') : itAt (w.setCells b' o' l) b o = itAt w b o := rdAt_far h
@[go_sem] theorem kyAt_setCells_ne (w : World) (b o b' o' : Nat) (l : List Value) (h : b ≠ b') : kyAt (w.setCells b' o' l) b o = kyAt w b o := rdAt_far h
@[go_sem] theorem chAt_setCells_ne (w : World) (b o b' o' : Nat) (l : List Value) (h : b ≠ b') : chAt (w.setCells b' o' l) b o = chAt w b o := rdAt_far h
theorem itAt_far {w : World} {b o b' o' : Nat} {l : List Value} {x : It} (hx : itAt w b o = some x) (h : b ≠ b') : itAt (w.setCells b' o' l) b o = some x := (rdAt_far h).trans hx
theorem kyAt_far {w : World} {b o b' o' : Nat} {l : List Value} {x : Ky} (hx : kyAt w b o = some x) (h : b ≠ b') : kyAt (w.setCells b' o' l) b o = some x := (rdAt_far h).trans hx
@[go_sem] theorem there_drewN (w : World) (k b o n : Nat) : (w.drewN k).there b o n = w.there b o n := rfl
@[go_sem] theorem chAt_drew (w : World) (b o : Nat) : chAt w.drew b o = chAt w b o := rdAt_drew _ _ _ _
@[go_sem] theorem chAt_alloc (w : World) (ob : Obj) (b o : Nat) (h : b < w.heap.size) : chAt (w.alloc ob) b o = chAt w b o := rdAt_alloc _ _ _ _ _ h
@[go_sem] theorem chAt_new (w : World) (k : Ch) (t g : Nat) (hg : w.heap.size = g) : chAt (w.alloc (.cells (cC k).toArray t)) g 0 = some k := by
  subst hg; exact chAt_of (range_blk (heap_alloc_new w _))
@[go_sem] theorem itAt_newC1 (w : World) (k : Ch) (t g : Nat) (hg : w.heap.size = g) : itAt (w.alloc (.cells (cC k).toArray t)) g 1 = some k.o := (ch_parts (chAt_new w k t g hg)).2.1
@[go_sem] theorem itAt_newC2 (w : World) (k : Ch) (t g : Nat) (hg : w.heap.size = g) : itAt (w.alloc (.cells (cC k).toArray t)) g 12 = some k.n := (ch_parts (chAt_new w k t g hg)).2.2.1
@[go_sem] theorem kyAt_newC1 (w : World) (k : Ch) (t g : Nat) (hg : w.heap.size = g) : kyAt (w.alloc (.cells (cC k).toArray t)) g 1 = some k.o.k := (ch_parts (chAt_new w k t g hg)).2.2.2.1
@[go_sem] theorem kyAt_newC2 (w : World) (k : Ch) (t g : Nat) (hg : w.heap.size = g) : kyAt (w.alloc (.cells (cC k).toArray t)) g 12 = some k.n.k := (ch_parts (chAt_new w k t g hg)).2.2.2.2
theorem Rd.changes {w : World} {n c : Nat} {A : Option Addr} {l : List Ch} (h : Rd w 23 (.slice A n c) n (l.flatMap cC)) {k : Nat} (hk : k < l.length) :
    ∃ b off, A = some ⟨b, off, none⟩ ∧ b < w.heap.size ∧ ∀ j (hj : j < l.length), chAt w b (off + j * 23) = some l[j] := by
  obtain ⟨b, off, hA, hb, hc⟩ := h.range (sz := 23) (fun q => rfl) (by decide) hk
  exact ⟨b, off, hA, hb, fun j hj => chAt_of (hc j hj)⟩
theorem Rd.it {w : World} {n c b off : Nat} {l : List It} (h : Rd w 11 (.slice (some ⟨b, off, none⟩) n c) n (l.flatMap cI)) {j : Nat} (hj : j < l.length) : itAt w b (off + j * 11) = some l[j] := by
  obtain ⟨b', off', hA, _, hx⟩ := h.items hj
  have h1 : b = b' ∧ off = off' := by simpa using hA
  obtain ⟨rfl, rfl⟩ := h1
  exact (hx j hj).1
theorem Rd.ch {w : World} {n c b off : Nat} {l : List Ch} (h : Rd w 23 (.slice (some ⟨b, off, none⟩) n c) n (l.flatMap cC)) {j : Nat} (hj : j < l.length) : chAt w b (off + j * 23) = some l[j] := by
  obtain ⟨b', off', hA, _, hx⟩ := h.changes hj
  have h1 : b = b' ∧ off = off' := by simpa using hA
  obtain ⟨rfl, rfl⟩ := h1
  exact hx j hj

/-! A struct stored whole into a block of the call's own. -/
@[go_sem] theorem there_drew (w : World) (b o n : Nat) : w.drew.there b o n = w.there b o n := propext (World.there_drew w b o n)
@[go_sem] theorem there_alloc_lt (w : World) (ob : Obj) (b o n : Nat) (h : b < w.heap.size) : (w.alloc ob).there b o n = w.there b o n := by
  apply propext
  unfold World.there
  have e1 : ∀ j, (w.alloc ob).cell? ⟨b, o + j, none⟩ = w.cell? ⟨b, o + j, none⟩ := fun j => World.cell?_alloc_lt _ _ _ h
  have e2 : ∀ j, (w.alloc ob).frozen? ⟨b, o + j, none⟩ = w.frozen? ⟨b, o + j, none⟩ := fun j => (bel_cell (bel_alloc (Below.refl _ w) ob)).2 b _ h
  simp only [e1, e2]
@[go_sem] theorem there_alloc_new (w : World) (cs : Array Value) (t g o n : Nat) (hg : w.heap.size = g) (h : o + n ≤ cs.size) : (w.alloc (.cells cs t)).there g o n = True := by
  subst hg
  refine eq_true fun j hj => ?_
  have hb := Blk.new_ w t cs
  refine ⟨?_, hb.free _⟩
  rw [hb.cell, Array.getElem?_eq_getElem (by omega)]
  rfl
theorem setCells_alloc_lt (ob : Obj) (b : Nat) : ∀ (l : List Value) (o : Nat) (w : World), b < w.heap.size → (w.alloc ob).setCells b o l = (w.setCells b o l).alloc ob
  | [], _, _, _ => rfl
  | v :: l, o, w, h => by
    have e : (w.alloc ob).setCell ⟨b, o, none⟩ v = (w.setCell ⟨b, o, none⟩ v).alloc ob := by
      unfold World.setCell World.alloc
      simp only [World.mk.injEq, and_true]
      apply Array.ext
      · simp
      · intro i h1 h2
        simp only [Array.size_modify, Array.size_push] at h1
        rw [Array.getElem_modify, Array.getElem_push, Array.getElem_push]
        by_cases hi : i < w.heap.size
        · simp [hi, Array.getElem_modify]
        · have : ¬ b = i := by omega
          simp [hi, this]
    show ((w.alloc ob).setCell ⟨b, o, none⟩ v).setCells b (o + 1) l = _
    rw [e, setCells_alloc_lt ob b l (o + 1) _ (by simpa [World.setCell] using h)]
    rfl
attribute [go_sem] setCells_alloc_lt
def laid (cs : Array Value) : Nat → List Value → Array Value
  | _, [] => cs
  | o, v :: l => laid (cs.setIfInBounds o v) (o + 1) l
theorem laid_size : ∀ (l : List Value) (o : Nat) (cs : Array Value), (laid cs o l).size = cs.size
  | [], _, _ => rfl
  | v :: l, o, cs => by unfold laid; rw [laid_size l, Array.size_setIfInBounds]
theorem laid_lo : ∀ (l : List Value) (o : Nat) (cs : Array Value) (j : Nat), j < o → (laid cs o l)[j]? = cs[j]?
  | [], _, _, _, _ => rfl
  | v :: l, o, cs, j, h => by
    unfold laid
    rw [laid_lo l (o + 1) _ j (by omega), Array.getElem?_setIfInBounds_ne (by omega)]
theorem laid_at : ∀ (l : List Value) (o : Nat) (cs : Array Value) (j : Nat), o + l.length ≤ cs.size → j < l.length → (laid cs o l)[o + j]? = l[j]?
  | [], _, _, j, _, h => absurd h (by simp)
  | v :: l, o, cs, 0, h, _ => by
    unfold laid
    simp only [List.length_cons] at h
    show (laid (cs.setIfInBounds o v) (o + 1) l)[o]? = some v
    rw [laid_lo l (o + 1) _ o (by omega), Array.getElem?_setIfInBounds_self_of_lt (by omega)]
  | v :: l, o, cs, j + 1, h, hj => by
    unfold laid
    simp only [List.length_cons] at h hj
    rw [show o + (j + 1) = o + 1 + j by omega, laid_at l (o + 1) _ j (by rw [Array.size_setIfInBounds]; omega) (by omega)]
    rfl
theorem laid_whole (l : List Value) (cs : Array Value) (h : l.length = cs.size) : laid cs 0 l = l.toArray := by
  apply Array.ext
  · rw [laid_size]; simp [h]
  · intro j h1 h2
    have hj : j < l.length := by simpa using h2
    have := laid_at l 0 cs j (by omega) hj
    rw [Nat.zero_add, Array.getElem?_eq_getElem h1, List.getElem?_eq_getElem hj] at this
    simpa using Option.some.inj this
theorem setCells_laid (w : World) (t : TypeId) : ∀ (l : List Value) (o : Nat) (cs : Array Value), (w.alloc (.cells cs t)).setCells w.heap.size o l = w.alloc (.cells (laid cs o l) t)
  | [], _, _ => rfl
  | v :: l, o, cs => by
    have e : (w.alloc (.cells cs t)).setCell ⟨w.heap.size, o, none⟩ v = w.alloc (.cells (cs.setIfInBounds o v) t) := by
      unfold World.setCell World.alloc
      simp only [World.mk.injEq, and_true]
      apply Array.ext
      · simp
      · intro i h1 h2
        simp only [Array.size_modify, Array.size_push] at h1
        rw [Array.getElem_modify, Array.getElem_push, Array.getElem_push]
        by_cases hi : i < w.heap.size
        · have : ¬ w.heap.size = i := by omega
          simp [hi, this]
        · have : w.heap.size = i := by omega
          simp [this]
    show ((w.alloc (.cells cs t)).setCell ⟨w.heap.size, o, none⟩ v).setCells w.heap.size (o + 1) l = _
    rw [e, setCells_laid w t l (o + 1)]
    rfl
@[go_sem] theorem setCells_alloc_new (w : World) (cs : Array Value) (t g : Nat) (l : List Value) (hg : w.heap.size = g) (h : l.length = cs.size) : (w.alloc (.cells cs t)).setCells g 0 l = w.alloc (.cells l.toArray t) := by
  subst hg
  rw [setCells_laid, laid_whole l cs h]
@[go_sem] theorem setCells_drew (b : Nat) : ∀ (l : List Value) (o : Nat) (w : World), w.drew.setCells b o l = (w.setCells b o l).drew
  | [], _, _ => rfl
  | v :: l, o, w => by
    show (w.drew.setCell ⟨b, o, none⟩ v).setCells b (o + 1) l = _
    exact setCells_drew b l (o + 1) (w.setCell ⟨b, o, none⟩ v)

/-! Results that lie in a block of the call's own. -/
theorem Tryz.rowI : ∃ d, Tryz.prog.underlying 34 = some d ∧ d.isRow = true := ⟨.struct (Tryz.prog.fieldsOf 34), by kernel_rfl, rfl⟩
theorem bp_id {P : Program} {f : Func} {R : Ending → World → Prop} {a : Act} {w : World} (h : bodyPost P f R .ret a w) : bodyPost P f R .ret a w := h
/-- The end of a function whose result is an item, or an item and another value. -/
theorem ret_item {fn : Func} {R : Ending → World → Prop} {act : Act} {w : World} {a b o : Nat} {x : It} (h : fn.results = #[.cell a 34]) (hd : act.defers = []) (ht : act.tmps.getD a undef = .pointer (some ⟨b, o, none⟩)) (hx : itAt w b o = some x) (hR : R (.returned (vI x)) w) : bodyPost Tryz.prog fn R .ret act w :=
  bodyPost_ret (results_cell h ht (rdAt_range (f := cI) hx) Tryz.rowI (by kernel_rfl)) hd hR
theorem ret_item2 {fn : Func} {R : Ending → World → Prop} {act : Act} {w : World} {a b o u : Nat} {x : It} (h : fn.results = #[.cell a 34, .tmp u]) (hd : act.defers = []) (ht : act.tmps.getD a undef = .pointer (some ⟨b, o, none⟩)) (hx : itAt w b o = some x) (hR : R (.returned (.tuple #[vI x, act.tmps.getD u undef])) w) : bodyPost Tryz.prog fn R .ret act w :=
  bodyPost_ret (results_cell2 h ht (rdAt_range (f := cI) hx) Tryz.rowI (by kernel_rfl)) hd hR
def setK (a : Addr) (x : Value) : Sem Unit := storeVar 30 a x
@[go_sem ↓] theorem to_setK (a : Addr) (x : Value) : storeVar 30 a x = setK a x := rfl
theorem run_setK' (w : World) (b o : Nat) (l : List Value) (hl : l.length = 3) (h1 : oneB l = true) (h : w.there b o 3) : (setK ⟨b, o, none⟩ (.agg l.toArray)).run Tryz.prog w = .ok () (w.setCells b o l) := by
  have hs : l.toArray.size = 3 := by simpa using hl
  have := run_storeVar_mid (P := Tryz.prog) w b o 30 l.toArray (by rw [hs]; exact h) (by rw [hs]; kernel_rfl) (all_oneCell_toArray (oneB_all h1))
  rw [List.toList_toArray] at this
  exact this
@[go_sem] theorem run_setK (w : World) (b o : Nat) (x : Ky) (h : w.there b o 3) : (setK ⟨b, o, none⟩ (vK x)).run Tryz.prog w = .ok () (w.setCells b o (cK x)) := run_setK' w b o (cK x) rfl rfl h

def setI (a : Addr) (x : Value) : Sem Unit := storeVar 34 a x
@[go_sem ↓] theorem to_setI (a : Addr) (x : Value) : storeVar 34 a x = setI a x := rfl
theorem run_setI' (w : World) (b o : Nat) (l : List Value) (hl : l.length = 11) (h1 : oneB l = true) (h : w.there b o 11) : (setI ⟨b, o, none⟩ (.agg l.toArray)).run Tryz.prog w = .ok () (w.setCells b o l) := by
  have hs : l.toArray.size = 11 := by simpa using hl
  have := run_storeVar_mid (P := Tryz.prog) w b o 34 l.toArray (by rw [hs]; exact h) (by rw [hs]; kernel_rfl) (all_oneCell_toArray (oneB_all h1))
  rw [List.toList_toArray] at this
  exact this
@[go_sem] theorem run_setI (w : World) (b o : Nat) (x : It) (h : w.there b o 11) : (setI ⟨b, o, none⟩ (vI x)).run Tryz.prog w = .ok () (w.setCells b o (cI x)) := run_setI' w b o (cI x) rfl rfl h

/-! Building. -/
def mkK (x : Array (Nat × Value)) : Sem Value := Instr.build 30 x
@[go_sem ↓] theorem to_mkK (x : Array (Nat × Value)) : Instr.build 30 x = mkK x := rfl
@[go_sem] theorem build_K1 (w : World) (l : List UInt8) : (mkK #[(0, .string ⟨l.toArray⟩)]).run Tryz.prog w = .ok (vK ⟨l, [], []⟩) w := by unfold mkK; kernel_rfl
@[go_sem] theorem build_K3 (w : World) (l m n : List UInt8) : (mkK #[(0, .string ⟨l.toArray⟩), (1, .string ⟨m.toArray⟩), (2, .string ⟨n.toArray⟩)]).run Tryz.prog w = .ok (vK ⟨l, m, n⟩) w := by unfold mkK; kernel_rfl
def mkI (x : Array (Nat × Value)) : Sem Value := Instr.build 34 x
@[go_sem ↓] theorem to_mkI (x : Array (Nat × Value)) : Instr.build 34 x = mkI x := rfl
@[go_sem] theorem build_noneI (w : World) (k : Ky) : (mkI #[(0, vK k)]).run Tryz.prog w = .ok (vI (noneI k)) w := by unfold mkI; kernel_rfl
@[go_sem] theorem build_it (w : World) (k : Ky) (c : Ck) : (mkI #[(0, vK k), (1, vCk c)]).run Tryz.prog w = .ok (vI ⟨k, c⟩) w := by unfold mkI; kernel_rfl
@[go_sem] theorem build_zero (w : World) : (mkI #[]).run Tryz.prog w = .ok (vI (noneI k0)) w := by unfold mkI; kernel_rfl
/-! Comparing. -/
theorem ky_ext {a b : Ky} (h1 : a.n = b.n) (h2 : a.d = b.d) (h3 : a.p = b.p) : a = b := by cases a; cases b; simp_all
theorem ck_ext {a b : Ck} (h1 : a.v = b.v) (h2 : a.ho = b.ho) (h3 : a.se = b.se) (h4 : a.ht = b.ht) (h5 : a.pe = b.pe) (h6 : a.ex = b.ex) (h7 : a.cr = b.cr) (h8 : a.ac = b.ac) : a = b := by cases a; cases b; simp_all
theorem it_ext {a b : It} (h1 : a.k = b.k) (h2 : a.c = b.c) : a = b := by cases a; cases b; simp_all
theorem ch_ext {a b : Ch} (h0 : a.kd = b.kd) (h1 : a.o = b.o) (h2 : a.n = b.n) : a = b := by cases a; cases b; simp_all
theorem beq_dec (a b : List UInt8) : (a == b) = decide (a = b) := by rw [Bool.eq_iff_iff]; simp

@[go_sem] theorem Tryz.eqgK : Tryz.prog.eqGuardType Tryz.prog.depth 30 = false := by kernel_rfl
theorem Tryz.stK : Tryz.prog.stoodInHeld 30 = false := by kernel_rfl
theorem Tryz.unnK : Tryz.prog.underlying 30 = some (.struct (Tryz.prog.fieldsOf 30)) := by kernel_rfl
theorem Tryz.flsK : (Tryz.prog.fieldsOf 30).toList.map (fun f => (f.name, f.type, f.offset)) = [("Name", 9, 0), ("Domain", 9, 1), ("Path", 9, 2)] := by kernel_rfl
theorem Tryz.eqdK (W : World) (d : Nat) (a b : Ky) : (Op.equalIn (d + 2) 30 (vK a) (vK b)).run Tryz.prog W = .ok (decide (a = b)) W := by
  have p0 : ∀ (W : World) (a : Ky), (part 9 (cK a).toArray 0).run Tryz.prog W = .ok (.string (S a.n)) W := fun W a => by kernel_rfl
  have q0 : ∀ (W : World), (Op.equalIn (d + 1) 9 (.string (S a.n)) (.string (S b.n))).run Tryz.prog W = .ok (decide (a.n = b.n)) W := fun W => (run_equalIn_string W (d + 0) 9 _ _ (by kernel_rfl)).trans (by rw [S_toList, S_toList]; congr 1; exact beq_dec _ _)
  have p1 : ∀ (W : World) (a : Ky), (part 9 (cK a).toArray 1).run Tryz.prog W = .ok (.string (S a.d)) W := fun W a => by kernel_rfl
  have q1 : ∀ (W : World), (Op.equalIn (d + 1) 9 (.string (S a.d)) (.string (S b.d))).run Tryz.prog W = .ok (decide (a.d = b.d)) W := fun W => (run_equalIn_string W (d + 0) 9 _ _ (by kernel_rfl)).trans (by rw [S_toList, S_toList]; congr 1; exact beq_dec _ _)
  have p2 : ∀ (W : World) (a : Ky), (part 9 (cK a).toArray 2).run Tryz.prog W = .ok (.string (S a.p)) W := fun W a => by kernel_rfl
  have q2 : ∀ (W : World), (Op.equalIn (d + 1) 9 (.string (S a.p)) (.string (S b.p))).run Tryz.prog W = .ok (decide (a.p = b.p)) W := fun W => (run_equalIn_string W (d + 0) 9 _ _ (by kernel_rfl)).trans (by rw [S_toList, S_toList]; congr 1; exact beq_dec _ _)
  rw [run_equalIn_struct W (d + 1) 30 _ _ Tryz.unnK Tryz.stK]
  have h := Tryz.flsK
  rcases hl : (Tryz.prog.fieldsOf 30).toList with _ | ⟨f0, _ | ⟨f1, _ | ⟨f2, _ | ⟨f3, r⟩⟩⟩⟩
  · rw [hl] at h; simp at h
  · rw [hl] at h; simp at h
  · rw [hl] at h; simp at h
  · rw [hl] at h
    simp only [List.map_cons, List.map_nil, List.cons.injEq, Prod.mk.injEq] at h
    obtain ⟨⟨h0a, h0b, h0c⟩, ⟨h1a, h1b, h1c⟩, ⟨h2a, h2b, h2c⟩, _⟩ := h
    simp [Op.eqFields, h0a, h0b, h0c, h1a, h1b, h1c, h2a, h2b, h2c, p0, q0, p1, q1, p2, q2]
    by_cases hab : a = b
    · subst hab; simp
    · rw [decide_eq_false hab]
      repeat' split
      all_goals first
        | rfl
        | exact absurd (ky_ext (by assumption) (by assumption) (by assumption) ) hab
  · rw [hl] at h; simp at h
@[go_sem] theorem Tryz.eqtK (W : World) (a b : Ky) : (Op.equalIn 10000 30 (vK a) (vK b)).run Tryz.prog W = .ok (decide (a = b)) W := Tryz.eqdK W 9998 a b

@[go_sem] theorem Tryz.eqgCk : Tryz.prog.eqGuardType Tryz.prog.depth 32 = false := by kernel_rfl
theorem Tryz.stCk : Tryz.prog.stoodInHeld 32 = false := by kernel_rfl
theorem Tryz.unnCk : Tryz.prog.underlying 32 = some (.struct (Tryz.prog.fieldsOf 32)) := by kernel_rfl
theorem Tryz.flsCk : (Tryz.prog.fieldsOf 32).toList.map (fun f => (f.name, f.type, f.offset)) = [("Value", 9, 0), ("HostOnly", 4, 1), ("Secure", 4, 2), ("HttpOnly", 4, 3), ("Persistent", 4, 4), ("Expiry", 3, 5), ("Creation", 3, 6), ("Access", 3, 7)] := by kernel_rfl
theorem Tryz.eqdCk (W : World) (d : Nat) (a b : Ck) : (Op.equalIn (d + 2) 32 (vCk a) (vCk b)).run Tryz.prog W = .ok (decide (a = b)) W := by
  have p0 : ∀ (W : World) (a : Ck), (part 9 (cCk a).toArray 0).run Tryz.prog W = .ok (.string (S a.v)) W := fun W a => by kernel_rfl
  have q0 : ∀ (W : World), (Op.equalIn (d + 1) 9 (.string (S a.v)) (.string (S b.v))).run Tryz.prog W = .ok (decide (a.v = b.v)) W := fun W => (run_equalIn_string W (d + 0) 9 _ _ (by kernel_rfl)).trans (by rw [S_toList, S_toList]; congr 1; exact beq_dec _ _)
  have p1 : ∀ (W : World) (a : Ck), (part 4 (cCk a).toArray 1).run Tryz.prog W = .ok (.bool a.ho) W := fun W a => by kernel_rfl
  have q1 : ∀ (W : World), (Op.equalIn (d + 1) 4 (.bool a.ho) (.bool b.ho)).run Tryz.prog W = .ok (decide (a.ho = b.ho)) W := fun W => run_equalIn_bool' W (d + 0) 4 _ _ (by kernel_rfl)
  have p2 : ∀ (W : World) (a : Ck), (part 4 (cCk a).toArray 2).run Tryz.prog W = .ok (.bool a.se) W := fun W a => by kernel_rfl
  have q2 : ∀ (W : World), (Op.equalIn (d + 1) 4 (.bool a.se) (.bool b.se)).run Tryz.prog W = .ok (decide (a.se = b.se)) W := fun W => run_equalIn_bool' W (d + 0) 4 _ _ (by kernel_rfl)
  have p3 : ∀ (W : World) (a : Ck), (part 4 (cCk a).toArray 3).run Tryz.prog W = .ok (.bool a.ht) W := fun W a => by kernel_rfl
  have q3 : ∀ (W : World), (Op.equalIn (d + 1) 4 (.bool a.ht) (.bool b.ht)).run Tryz.prog W = .ok (decide (a.ht = b.ht)) W := fun W => run_equalIn_bool' W (d + 0) 4 _ _ (by kernel_rfl)
  have p4 : ∀ (W : World) (a : Ck), (part 4 (cCk a).toArray 4).run Tryz.prog W = .ok (.bool a.pe) W := fun W a => by kernel_rfl
  have q4 : ∀ (W : World), (Op.equalIn (d + 1) 4 (.bool a.pe) (.bool b.pe)).run Tryz.prog W = .ok (decide (a.pe = b.pe)) W := fun W => run_equalIn_bool' W (d + 0) 4 _ _ (by kernel_rfl)
  have p5 : ∀ (W : World) (a : Ck), (part 3 (cCk a).toArray 5).run Tryz.prog W = .ok (.int .i64 a.ex) W := fun W a => by kernel_rfl
  have q5 : ∀ (W : World), (Op.equalIn (d + 1) 3 (.int .i64 a.ex) (.int .i64 b.ex)).run Tryz.prog W = .ok (decide (a.ex = b.ex)) W := fun W => run_equalIn_int W (d + 0) 3 .i64 .i64 _ _ (by kernel_rfl)
  have p6 : ∀ (W : World) (a : Ck), (part 3 (cCk a).toArray 6).run Tryz.prog W = .ok (.int .i64 a.cr) W := fun W a => by kernel_rfl
  have q6 : ∀ (W : World), (Op.equalIn (d + 1) 3 (.int .i64 a.cr) (.int .i64 b.cr)).run Tryz.prog W = .ok (decide (a.cr = b.cr)) W := fun W => run_equalIn_int W (d + 0) 3 .i64 .i64 _ _ (by kernel_rfl)
  have p7 : ∀ (W : World) (a : Ck), (part 3 (cCk a).toArray 7).run Tryz.prog W = .ok (.int .i64 a.ac) W := fun W a => by kernel_rfl
  have q7 : ∀ (W : World), (Op.equalIn (d + 1) 3 (.int .i64 a.ac) (.int .i64 b.ac)).run Tryz.prog W = .ok (decide (a.ac = b.ac)) W := fun W => run_equalIn_int W (d + 0) 3 .i64 .i64 _ _ (by kernel_rfl)
  rw [run_equalIn_struct W (d + 1) 32 _ _ Tryz.unnCk Tryz.stCk]
  have h := Tryz.flsCk
  rcases hl : (Tryz.prog.fieldsOf 32).toList with _ | ⟨f0, _ | ⟨f1, _ | ⟨f2, _ | ⟨f3, _ | ⟨f4, _ | ⟨f5, _ | ⟨f6, _ | ⟨f7, _ | ⟨f8, r⟩⟩⟩⟩⟩⟩⟩⟩⟩
  · rw [hl] at h; simp at h
  · rw [hl] at h; simp at h
  · rw [hl] at h; simp at h
  · rw [hl] at h; simp at h
  · rw [hl] at h; simp at h
  · rw [hl] at h; simp at h
  · rw [hl] at h; simp at h
  · rw [hl] at h; simp at h
  · rw [hl] at h
    simp only [List.map_cons, List.map_nil, List.cons.injEq, Prod.mk.injEq] at h
    obtain ⟨⟨h0a, h0b, h0c⟩, ⟨h1a, h1b, h1c⟩, ⟨h2a, h2b, h2c⟩, ⟨h3a, h3b, h3c⟩, ⟨h4a, h4b, h4c⟩, ⟨h5a, h5b, h5c⟩, ⟨h6a, h6b, h6c⟩, ⟨h7a, h7b, h7c⟩, _⟩ := h
    simp [Op.eqFields, h0a, h0b, h0c, h1a, h1b, h1c, h2a, h2b, h2c, h3a, h3b, h3c, h4a, h4b, h4c, h5a, h5b, h5c, h6a, h6b, h6c, h7a, h7b, h7c, p0, q0, p1, q1, p2, q2, p3, q3, p4, q4, p5, q5, p6, q6, p7, q7]
    by_cases hab : a = b
    · subst hab; simp
    · rw [decide_eq_false hab]
      repeat' split
      all_goals first
        | rfl
        | exact absurd (ck_ext (by assumption) (by assumption) (by assumption) (by assumption) (by assumption) (by assumption) (by assumption) (by assumption) ) hab
  · rw [hl] at h; simp at h
@[go_sem] theorem Tryz.eqtCk (W : World) (a b : Ck) : (Op.equalIn 10000 32 (vCk a) (vCk b)).run Tryz.prog W = .ok (decide (a = b)) W := Tryz.eqdCk W 9998 a b

@[go_sem] theorem Tryz.eqgI : Tryz.prog.eqGuardType Tryz.prog.depth 34 = false := by kernel_rfl
theorem Tryz.stI : Tryz.prog.stoodInHeld 34 = false := by kernel_rfl
theorem Tryz.unnI : Tryz.prog.underlying 34 = some (.struct (Tryz.prog.fieldsOf 34)) := by kernel_rfl
theorem Tryz.flsI : (Tryz.prog.fieldsOf 34).toList.map (fun f => (f.name, f.type, f.offset)) = [("Key", 30, 0), ("Cookie", 32, 3)] := by kernel_rfl
theorem Tryz.eqdI (W : World) (d : Nat) (a b : It) : (Op.equalIn (d + 3) 34 (vI a) (vI b)).run Tryz.prog W = .ok (decide (a = b)) W := by
  have p0 : ∀ (W : World) (a : It), (part 30 (cI a).toArray 0).run Tryz.prog W = .ok (vK a.k) W := fun W a => by kernel_rfl
  have q0 : ∀ (W : World), (Op.equalIn (d + 2) 30 (vK a.k) (vK b.k)).run Tryz.prog W = .ok (decide (a.k = b.k)) W := fun W => Tryz.eqdK W (d + 0) _ _
  have p1 : ∀ (W : World) (a : It), (part 32 (cI a).toArray 3).run Tryz.prog W = .ok (vCk a.c) W := fun W a => by kernel_rfl
  have q1 : ∀ (W : World), (Op.equalIn (d + 2) 32 (vCk a.c) (vCk b.c)).run Tryz.prog W = .ok (decide (a.c = b.c)) W := fun W => Tryz.eqdCk W (d + 0) _ _
  rw [run_equalIn_struct W (d + 2) 34 _ _ Tryz.unnI Tryz.stI]
  have h := Tryz.flsI
  rcases hl : (Tryz.prog.fieldsOf 34).toList with _ | ⟨f0, _ | ⟨f1, _ | ⟨f2, r⟩⟩⟩
  · rw [hl] at h; simp at h
  · rw [hl] at h; simp at h
  · rw [hl] at h
    simp only [List.map_cons, List.map_nil, List.cons.injEq, Prod.mk.injEq] at h
    obtain ⟨⟨h0a, h0b, h0c⟩, ⟨h1a, h1b, h1c⟩, _⟩ := h
    simp [Op.eqFields, h0a, h0b, h0c, h1a, h1b, h1c, p0, q0, p1, q1]
    by_cases hab : a = b
    · subst hab; simp
    · rw [decide_eq_false hab]
      repeat' split
      all_goals first
        | rfl
        | exact absurd (it_ext (by assumption) (by assumption) ) hab
  · rw [hl] at h; simp at h
@[go_sem] theorem Tryz.eqtI (W : World) (a b : It) : (Op.equalIn 10000 34 (vI a) (vI b)).run Tryz.prog W = .ok (decide (a = b)) W := Tryz.eqdI W 9997 a b

def eqK (x y : Value) : Sem Value := binOp .eql 30 x y
def neK (x y : Value) : Sem Value := binOp .neq 30 x y
@[go_sem ↓] theorem to_eqK (x y : Value) : binOp .eql 30 x y = eqK x y := rfl
@[go_sem ↓] theorem to_neK (x y : Value) : binOp .neq 30 x y = neK x y := rfl
@[go_sem] theorem run_eqK (a b : Ky) (w : World) : (eqK (vK a) (vK b)).run Tryz.prog w = .ok (.bool (decide (a = b))) w := by
  simp only [eqK, binOp]
  simp [Op.equal, Op.maxDepth, Tryz.eqtK]
@[go_sem] theorem run_neK (a b : Ky) (w : World) : (neK (vK a) (vK b)).run Tryz.prog w = .ok (.bool (!decide (a = b))) w := by
  simp only [neK, binOp]
  simp [Op.equal, Op.maxDepth, Tryz.eqtK]

def eqI (x y : Value) : Sem Value := binOp .eql 34 x y
def neI (x y : Value) : Sem Value := binOp .neq 34 x y
@[go_sem ↓] theorem to_eqI (x y : Value) : binOp .eql 34 x y = eqI x y := rfl
@[go_sem ↓] theorem to_neI (x y : Value) : binOp .neq 34 x y = neI x y := rfl
@[go_sem] theorem run_eqI (a b : It) (w : World) : (eqI (vI a) (vI b)).run Tryz.prog w = .ok (.bool (decide (a = b))) w := by
  simp only [eqI, binOp]
  simp [Op.equal, Op.maxDepth, Tryz.eqtI]
@[go_sem] theorem run_neI (a b : It) (w : World) : (neI (vI a) (vI b)).run Tryz.prog w = .ok (.bool (!decide (a = b))) w := by
  simp only [neI, binOp]
  simp [Op.equal, Op.maxDepth, Tryz.eqtI]

end Go.Proofs.YtgfoaopfdpclhaaGreatDoor
