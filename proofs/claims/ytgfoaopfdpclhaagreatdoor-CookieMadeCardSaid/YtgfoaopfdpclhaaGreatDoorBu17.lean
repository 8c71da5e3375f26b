/-
  Joined texts: SortP MatchO.
-/
import Derived.Test.YtgfoaopfdpclhaaGreatDoorBu1
import Derived.Test.YtgfoaopfdpclhaaGreatDoorBu16
namespace Go.Proofs.YtgfoaopfdpclhaaGreatDoor
open Go.RowKit
set_option linter.unusedVariables false
set_option maxRecDepth 100000

section
variable {α : Type}
/-- Is ahead: not both ways, and what is not ahead goes on. -/
structure Swo (lt : α → α → Bool) : Prop where
  asym : ∀ a b, lt a b = true → lt b a = false
  neg : ∀ a b c, lt a b = false → lt b c = false → lt a c = false
variable {lt : α → α → Bool}
theorem Swo.irr (h : Swo lt) (a : α) : lt a a = false := by
  cases e : lt a a with
  | false => rfl
  | true => have := h.asym a a e; rw [e] at this; cases this
/-- a ahead of b, b not behind c: a is ahead of c. -/
theorem Swo.lt_le (h : Swo lt) {a b c : α} (h1 : lt a b = true) (h2 : lt c b = false) : lt a c = true := by
  cases e : lt a c with
  | true => rfl
  | false => have := h.neg a c b e h2; rw [h1] at this; cases this
theorem Swo.le_lt (h : Swo lt) {a b c : α} (h1 : lt b a = false) (h2 : lt b c = true) : lt a c = true := by
  cases e : lt a c with
  | true => rfl
  | false => have := h.neg b a c h1 e; rw [h2] at this; cases this
def eqv (lt : α → α → Bool) (a b : α) : Bool := !lt a b && !lt b a
def Srt (lt : α → α → Bool) (l : List α) : Prop := l.Pairwise fun x y => lt y x = false
def StEq (lt : α → α → Bool) (l m : List α) : Prop := ∀ z, l.filter (eqv lt z) = m.filter (eqv lt z)
theorem eqv_iff {a b : α} : eqv lt a b = true ↔ lt a b = false ∧ lt b a = false := by unfold eqv; simp
theorem StEq.refl (l : List α) : StEq lt l l := fun _ => rfl
theorem StEq.symm {l m : List α} (h : StEq lt l m) : StEq lt m l := fun z => (h z).symm
theorem StEq.trans {l m n : List α} (h : StEq lt l m) (k : StEq lt m n) : StEq lt l n := fun z => (h z).trans (k z)
theorem StEq.app {a b c d : List α} (h : StEq lt a b) (k : StEq lt c d) : StEq lt (a ++ c) (b ++ d) := fun z => by
  rw [List.filter_append, List.filter_append, h z, k z]
theorem StEq.mid {a b c d : List α} (h : StEq lt b c) : StEq lt (a ++ b ++ d) (a ++ c ++ d) := ((StEq.refl a).app h).app (StEq.refl d)
theorem steq_swap (hO : Swo lt) {X Y : List α} (h : ∀ x ∈ X, ∀ y ∈ Y, lt y x = true) : StEq lt (X ++ Y) (Y ++ X) := fun z => by
  rw [List.filter_append, List.filter_append]
  cases hx : X.filter (eqv lt z) with
  | nil => simp
  | cons x _ =>
    cases hy : Y.filter (eqv lt z) with
    | nil => simp
    | cons y _ =>
      exfalso
      have mx : x ∈ X.filter (eqv lt z) := by rw [hx]; exact List.mem_cons_self
      have my : y ∈ Y.filter (eqv lt z) := by rw [hy]; exact List.mem_cons_self
      obtain ⟨mx, ex⟩ := List.mem_filter.1 mx
      obtain ⟨my, ey⟩ := List.mem_filter.1 my
      obtain ⟨e1, e2⟩ := eqv_iff.1 ex
      obtain ⟨e3, e4⟩ := eqv_iff.1 ey
      have := h x mx y my
      rw [hO.neg y z x e4 e1] at this
      cases this
theorem steq_mem (hO : Swo lt) {l m : List α} (h : StEq lt l m) {x : α} (hx : x ∈ l) : x ∈ m := by
  have : x ∈ l.filter (eqv lt x) := List.mem_filter.2 ⟨hx, eqv_iff.2 ⟨hO.irr x, hO.irr x⟩⟩
  rw [h x] at this
  exact (List.mem_filter.1 this).1
theorem srt_cons {x : α} {l : List α} : Srt lt (x :: l) ↔ (∀ y ∈ l, lt y x = false) ∧ Srt lt l := List.pairwise_cons
theorem srt_app {l m : List α} : Srt lt (l ++ m) ↔ Srt lt l ∧ Srt lt m ∧ ∀ x ∈ l, ∀ y ∈ m, lt y x = false := List.pairwise_append
theorem srt_one (x : α) : Srt lt [x] := List.pairwise_singleton _ _
theorem srt_uniq (hO : Swo lt) : ∀ {l m : List α}, Srt lt l → Srt lt m → StEq lt l m → l = m
  | [], [], _, _, _ => rfl
  | [], y :: m, _, _, h => absurd (steq_mem hO h.symm (List.mem_cons_self)) (by simp)
  | x :: l, [], _, _, h => absurd (steq_mem hO h (List.mem_cons_self)) (by simp)
  | x :: l, y :: m, hl, hm, h => by
    obtain ⟨hl1, hl2⟩ := srt_cons.1 hl
    obtain ⟨hm1, hm2⟩ := srt_cons.1 hm
    have hyx : lt y x = false := by
      rcases List.mem_cons.1 (steq_mem hO h.symm (List.mem_cons_self (a := y) (l := m))) with e | e
      · rw [e]; exact hO.irr x
      · exact hl1 y e
    have hxy : lt x y = false := by
      rcases List.mem_cons.1 (steq_mem hO h (List.mem_cons_self (a := x) (l := l))) with e | e
      · rw [e]; exact hO.irr y
      · exact hm1 x e
    have e : x = y := by
      have := h x
      rw [List.filter_cons, List.filter_cons, if_pos (eqv_iff.2 ⟨hO.irr x, hO.irr x⟩), if_pos (eqv_iff.2 ⟨hxy, hyx⟩)] at this
      exact (List.cons.inj this).1
    subst e
    rw [srt_uniq hO hl2 hm2]
    intro z
    have := h z
    rw [List.filter_cons, List.filter_cons] at this
    split at this
    · exact (List.cons.inj this).2
    · exact this
theorem steq_len (hO : Swo lt) : ∀ {l m : List α}, StEq lt l m → l.length = m.length → True := fun _ _ => trivial

/-- One put in where it belongs. -/
theorem ins_ok (hO : Swo lt) {S1 S2 : List α} {x : α} (hs : Srt lt (S1 ++ S2)) (h2 : ∀ y ∈ S2, lt x y = true) (h1 : S1 = [] ∨ ∃ T y, S1 = T ++ [y] ∧ lt x y = false) :
    Srt lt (S1 ++ [x] ++ S2) ∧ StEq lt (S1 ++ S2 ++ [x]) (S1 ++ [x] ++ S2) := by
  obtain ⟨a1, a2, a3⟩ := srt_app.1 hs
  have hx1 : ∀ y ∈ S1, lt x y = false := by
    rcases h1 with rfl | ⟨T, y, rfl, hy⟩
    · simp
    · intro z hz
      rcases List.mem_append.1 hz with hz | hz
      · obtain ⟨_, _, b3⟩ := srt_app.1 a1
        exact hO.neg x y z hy (b3 z hz y (by simp))
      · rw [List.mem_singleton.1 hz]; exact hy
  refine ⟨?_, ?_⟩
  · refine srt_app.2 ⟨srt_app.2 ⟨a1, srt_one x, fun y hy z hz => ?_⟩, a2, fun y hy z hz => ?_⟩
    · rw [List.mem_singleton.1 hz]; exact hx1 y hy
    · rcases List.mem_append.1 hy with hy | hy
      · exact a3 y hy z hz
      · rw [List.mem_singleton.1 hy]; exact hO.asym _ _ (h2 z hz)
  · rw [List.append_assoc, List.append_assoc]
    refine (StEq.refl S1).app (steq_swap hO ?_)
    intro a ha b hb
    rw [List.mem_singleton.1 hb]; exact h2 a ha

/-- Of two sorted rows, parted where a search says so, the halves behind a turn. -/
theorem halves (hO : Swo lt) {U1 U2 V1 V2 : List α} (hU : Srt lt (U1 ++ U2)) (hV : Srt lt (V1 ++ V2))
    (h1 : ∀ x ∈ U1.getLast?, ∀ y ∈ V2.head?, lt y x = false) (h2 : ∀ y ∈ V1.getLast?, ∀ x ∈ U2.head?, lt y x = true) :
    StEq lt (U1 ++ U2 ++ (V1 ++ V2)) (U1 ++ V1 ++ (U2 ++ V2)) ∧ Srt lt U1 ∧ Srt lt V1 ∧ Srt lt U2 ∧ Srt lt V2 ∧ ∀ x ∈ U1 ++ V1, ∀ y ∈ U2 ++ V2, lt y x = false := by
  obtain ⟨u1, u2, u3⟩ := srt_app.1 hU
  obtain ⟨v1, v2, v3⟩ := srt_app.1 hV
  have hlast : ∀ {l : List α}, Srt lt l → ∀ x ∈ l, ∃ z ∈ l.getLast?, lt z x = false := by
    intro l hl x hx
    obtain ⟨T, z, rfl⟩ : ∃ T z, l = T ++ [z] := ⟨l.dropLast, l.getLast (by rintro rfl; simp at hx), (List.dropLast_concat_getLast _).symm⟩
    refine ⟨z, by simp, ?_⟩
    rcases List.mem_append.1 hx with hx | hx
    · exact (srt_app.1 hl).2.2 x hx z (by simp)
    · rw [List.mem_singleton.1 hx]; exact hO.irr z
  have hhead : ∀ {l : List α}, Srt lt l → ∀ x ∈ l, ∃ z ∈ l.head?, lt x z = false := by
    intro l hl x hx
    cases l with
    | nil => cases hx
    | cons z r =>
      refine ⟨z, by simp, ?_⟩
      rcases List.mem_cons.1 hx with rfl | hx
      · exact hO.irr _
      · exact (srt_cons.1 hl).1 x hx
  have q1 : ∀ x ∈ U1, ∀ y ∈ V2, lt y x = false := by
    intro x hx y hy
    obtain ⟨p, hp, e1⟩ := hlast u1 x hx
    obtain ⟨q, hq, e2⟩ := hhead v2 y hy
    exact hO.neg y q x e2 (hO.neg q p x (h1 p hp q hq) e1)
  have q2 : ∀ x ∈ U2, ∀ y ∈ V1, lt y x = true := by
    intro x hx y hy
    obtain ⟨p, hp, e1⟩ := hlast v1 y hy
    obtain ⟨q, hq, e2⟩ := hhead u2 x hx
    exact hO.lt_le (hO.le_lt e1 (h2 p hp q hq)) e2
  refine ⟨?_, u1, v1, u2, v2, ?_⟩
  · have e : U1 ++ U2 ++ (V1 ++ V2) = U1 ++ (U2 ++ V1) ++ V2 := by simp
    have e' : U1 ++ V1 ++ (U2 ++ V2) = U1 ++ (V1 ++ U2) ++ V2 := by simp
    rw [e, e']
    exact (steq_swap hO q2).mid
  · intro x hx y hy
    rcases List.mem_append.1 hx with hx | hx <;> rcases List.mem_append.1 hy with hy | hy
    · exact u3 x hx y hy
    · exact q1 x hx y hy
    · exact hO.asym _ _ (q2 y hy x hx)
    · exact v3 x hx y hy
theorem halves_join {A B : List α} (hA : Srt lt A) (hB : Srt lt B) {A' B' : List α} (h : ∀ x ∈ A', ∀ y ∈ B', lt y x = false) (hO : Swo lt) (eA : StEq lt A' A) (eB : StEq lt B' B) : Srt lt (A ++ B) :=
  srt_app.2 ⟨hA, hB, fun x hx y hy => h x (steq_mem hO eA.symm hx) y (steq_mem hO eB.symm hy)⟩

/-- Each block of a size is sorted. -/
def Bl (lt : α → α → Bool) (s : Nat) (l : List α) : Prop := ∀ k, Srt lt ((l.drop (k * s)).take s)
theorem bl_short {s : Nat} {l : List α} (h : l.length ≤ s) (hl : Srt lt l) : Bl lt s l := fun k => by
  cases k with
  | zero => simpa [List.take_of_length_le h] using hl
  | succ k =>
    have : s ≤ (k + 1) * s := by rw [Nat.add_mul, Nat.one_mul]; omega
    rw [List.drop_eq_nil_of_le (by omega)]; simp [Srt]
theorem bl_srt {s : Nat} {l : List α} (h : l.length ≤ s) (hl : Bl lt s l) : Srt lt l := by
  have := hl 0
  simpa [List.take_of_length_le h] using this
theorem bl_nil (s : Nat) : Bl lt s ([] : List α) := fun k => by simp [Srt]
theorem bl_app {s q : Nat} {X T : List α} (hX : X.length = q * s) (h1 : Bl lt s X) (h2 : Bl lt s T) : Bl lt s (X ++ T) := fun k => by
  by_cases hk : k < q
  · have e : (k + 1) * s ≤ q * s := Nat.mul_le_mul_right _ hk
    rw [Nat.add_mul, Nat.one_mul] at e
    rw [List.drop_append_of_le_length (by omega), List.take_append_of_le_length (by rw [List.length_drop]; omega)]
    exact h1 k
  · have e : q * s ≤ k * s := Nat.mul_le_mul_right _ (by omega)
    rw [List.drop_append, List.drop_eq_nil_of_le (by omega), List.nil_append]
    have : k * s - X.length = (k - q) * s := by rw [hX, Nat.sub_mul]
    rw [this]
    exact h2 (k - q)
theorem bl_cut {s : Nat} {X T : List α} (hX : X.length = s) (h : Bl lt s (X ++ T)) : Srt lt X ∧ Bl lt s T := by
  refine ⟨?_, fun k => ?_⟩
  · have := h 0
    rw [Nat.zero_mul, List.drop_zero, List.take_append_of_le_length (by omega), List.take_of_length_le (by omega)] at this
    exact this
  · have := h (k + 1)
    rw [List.drop_append, List.drop_eq_nil_of_le (by rw [hX, Nat.add_mul, Nat.one_mul]; omega), List.nil_append] at this
    rw [show (k + 1) * s - X.length = k * s by rw [hX, Nat.add_mul, Nat.one_mul]; omega] at this
    exact this
end
end Go.Proofs.YtgfoaopfdpclhaaGreatDoor
namespace Go.Proofs.YtgfoaopfdpclhaaGreatDoor
open Go.RowKit
set_option linter.unusedVariables false
set_option maxRecDepth 100000

def cmpN (a b : Int) : Int := if a < b then -1 else if b < a then 1 else 0
def cmpI (a b : It) : Int := orI (cmpN b.k.p.length a.k.p.length) (cmpN a.c.cr b.c.cr) (cmpK a.k b.k)
/-- Is an item ahead of another one? -/
def befI (a b : It) : Bool := if a.k.p.length ≠ b.k.p.length then decide (b.k.p.length < a.k.p.length) else if a.c.cr ≠ b.c.cr then decide (a.c.cr < b.c.cr) else lessK a.k b.k
theorem befI_cmp (a b : It) : decide (cmpI a b < 0) = befI a b := by
  unfold cmpI befI orI cmpN
  rw [← orI_keys]
  by_cases h1 : a.k.p.length = b.k.p.length
  · by_cases h2 : a.c.cr = b.c.cr
    · rw [h1, h2]; simp [cmpK]
    · rcases Int.lt_or_gt_of_ne h2 with h | h
      · rw [h1]; simp [h, h2]
      · have h3 : ¬ a.c.cr < b.c.cr := by omega
        rw [h1]; simp [h3, h, h2]
  · rcases Nat.lt_or_gt_of_ne h1 with h | h
    · have h3 : ¬ (b.k.p.length : Int) < a.k.p.length := by omega
      have h4 : (a.k.p.length : Int) < b.k.p.length := by omega
      have h5 : ¬ b.k.p.length < a.k.p.length := by omega
      simp [h1, h3, h4, h5]
    · have h4 : (b.k.p.length : Int) < a.k.p.length := by omega
      have h5 : b.k.p.length < a.k.p.length := by omega
      simp [h1, h4, h5]
theorem befI_swo : Swo befI := by
  constructor
  · intro a b h
    unfold befI at h ⊢
    by_cases h1 : a.k.p.length = b.k.p.length
    · rw [if_neg (by simp [h1])] at h
      rw [if_neg (by simp [h1])]
      by_cases h2 : a.c.cr = b.c.cr
      · rw [if_neg (by simp [h2])] at h
        rw [if_neg (by simp [h2])]
        exact lessK_asym h
      · rw [if_pos h2] at h
        rw [if_pos (fun e => h2 e.symm)]
        simp at h ⊢; omega
    · rw [if_pos h1] at h
      rw [if_pos (fun e => h1 e.symm)]
      simp at h ⊢; omega
  · intro a b c h k
    unfold befI at h k ⊢
    by_cases h1 : a.k.p.length = b.k.p.length
    · by_cases k1 : b.k.p.length = c.k.p.length
      · rw [if_neg (by simp [h1])] at h
        rw [if_neg (by simp [k1])] at k
        rw [if_neg (by simp [h1, k1])]
        by_cases h2 : a.c.cr = b.c.cr
        · by_cases k2 : b.c.cr = c.c.cr
          · rw [if_neg (by simp [h2])] at h
            rw [if_neg (by simp [k2])] at k
            rw [if_neg (by simp [h2, k2])]
            rcases lessK_tri a.k c.k with e | e | e
            · rw [e]; exact lessK_irr _
            · exfalso
              rcases lessK_tri b.k c.k with f | f | f
              · rw [← f, h] at e; cases e
              · rw [k] at f; cases f
              · have := lessK_trans e f
                rw [h] at this; cases this
            · exact lessK_asym e
          · rw [if_pos k2] at k
            rw [if_pos (by omega)]
            simp at k ⊢; omega
        · rw [if_pos h2] at h
          by_cases k2 : b.c.cr = c.c.cr
          · rw [if_pos (by omega)]; simp at h ⊢; omega
          · rw [if_pos k2] at k
            simp at h k
            rw [if_pos (by omega)]; simp; omega
      · rw [if_pos k1] at k
        rw [if_pos (by omega)]; simp at k ⊢; omega
    · rw [if_pos h1] at h
      by_cases k1 : b.k.p.length = c.k.p.length
      · rw [if_pos (by omega)]; simp at h ⊢; omega
      · rw [if_pos k1] at k
        simp at h k
        rw [if_pos (by omega)]; simp; omega
/-- Neither ahead: one key. -/
theorem befI_key {a b : It} (h : befI a b = false) (k : befI b a = false) : a.k = b.k := by
  unfold befI at h k
  by_cases h1 : a.k.p.length = b.k.p.length
  · rw [if_neg (by simp [h1])] at h
    rw [if_neg (by simp [h1])] at k
    by_cases h2 : a.c.cr = b.c.cr
    · rw [if_neg (by simp [h2])] at h
      rw [if_neg (by simp [h2])] at k
      rcases lessK_tri a.k b.k with e | e | e
      · exact e
      · rw [h] at e; cases e
      · rw [k] at e; cases e
    · rw [if_pos h2] at h
      rw [if_pos (fun e => h2 e.symm)] at k
      simp at h k; omega
  · rw [if_pos h1] at h
    rw [if_pos (fun e => h1 e.symm)] at k
    simp at h k; omega

theorem it_ordc {w : World} {b o : Nat} {x : It} (h : itAt w b o = some x) : w.cell? ⟨b, o + 2, none⟩ = some (.string (S x.k.p)) ∧ w.cell? ⟨b, o + 9, none⟩ = some (.int .i64 x.c.cr) ∧ kyAt w b o = some x.k :=
  ⟨rdAt_range (f := cI) h 2 _ rfl, rdAt_range (f := cI) h 9 _ rfl, kyAt_it h⟩
def OrdS (w : World) (g : Nat) (a b : It) : Prop := w.cell? ⟨g, 2, none⟩ = some (.string (S a.k.p)) ∧ w.cell? ⟨g, 9, none⟩ = some (.int .i64 a.c.cr) ∧ kyAt w g 0 = some a.k ∧ w.cell? ⟨g + 1, 2, none⟩ = some (.string (S b.k.p)) ∧ w.cell? ⟨g + 1, 9, none⟩ = some (.int .i64 b.c.cr) ∧ kyAt w (g + 1) 0 = some b.k
theorem ord_of {w : World} {g : Nat} {a b : It} (h : itAt w g 0 = some a) (k : itAt w (g + 1) 0 = some b) : OrdS w g a b := by
  obtain ⟨a1, a2, a3⟩ := it_ordc h
  obtain ⟨b1, b2, b3⟩ := it_ordc k
  rw [Nat.zero_add] at a1 a2 b1 b2
  exact ⟨a1, a2, a3, b1, b2, b3⟩
theorem ord_later {w w1 : World} {g : Nat} {a b : It} (h : OrdS w g a b) (hb : Below w.heap.size w w1) : OrdS w1 g a b := by
  obtain ⟨h1, h2, h3, h4, h5, h6⟩ := h
  have l1 := ky_lt h3
  have l2 := ky_lt h6
  exact ⟨(hb.cell (p := ⟨g, 2, none⟩) l1).trans h1, (hb.cell (p := ⟨g, 9, none⟩) l1).trans h2, kyAt_later h3 hb, (hb.cell (p := ⟨g + 1, 2, none⟩) l2).trans h4, (hb.cell (p := ⟨g + 1, 9, none⟩) l2).trans h5, kyAt_later h6 hb⟩
theorem ord_drew {w : World} {g : Nat} {a b : It} (h : OrdS w g a b) : OrdS w.drew g a b := ord_later h (Below.refl _ _).drew
end Go.Proofs.YtgfoaopfdpclhaaGreatDoor
