/-
  Which of two items is ahead: the program's and the document's walk.
-/
import Derived.Test.YtgfoaopfdpclhaaChg
import Derived.Test.YtgfoaopfdpclhaaSortP
namespace Go.Proofs.Ytgfoaopfdpclhaa
open Go.RowKit
set_option linter.unusedVariables false

def cmpN (a b : Int) : Int := if a < b then -1 else if b < a then 1 else 0
def cmpI (a b : It) : Int := orI (cmpN b.k.p.length a.k.p.length) (cmpN a.c.cr b.c.cr) (cmpK a.k b.k)
/-- Is an item ahead of another one? -/
def befI (a b : It) : Bool := if a.k.p.length ≠ b.k.p.length then decide (b.k.p.length < a.k.p.length) else if a.c.cr ≠ b.c.cr then decide (a.c.cr < b.c.cr) else lessK a.k b.k
theorem befI_cmp (a b : It) : decide (cmpI a b < 0) = befI a b := by
  unfold cmpI befI orI cmpN
  rw [← orI_keys]
  by_cases h1 : a.k.p.length = b.k.p.length
  · by_cases h2 : a.c.cr = b.c.cr
    · rw [h1, h2]; simp [cmpK]
    · rcases Int.lt_or_gt_of_ne h2 with h | h
      · rw [h1]; simp [h, h2]
      · have h3 : ¬ a.c.cr < b.c.cr := by omega
        rw [h1]; simp [h3, h, h2]
  · rcases Nat.lt_or_gt_of_ne h1 with h | h
    · have h3 : ¬ (b.k.p.length : Int) < a.k.p.length := by omega
      have h4 : (a.k.p.length : Int) < b.k.p.length := by omega
      have h5 : ¬ b.k.p.length < a.k.p.length := by omega
      simp [h1, h3, h4, h5]
    · have h4 : (b.k.p.length : Int) < a.k.p.length := by omega
      have h5 : b.k.p.length < a.k.p.length := by omega
      simp [h1, h4, h5]
theorem befI_swo : Swo befI := by
  constructor
  · intro a b h
    unfold befI at h ⊢
    by_cases h1 : a.k.p.length = b.k.p.length
    · rw [if_neg (by simp [h1])] at h
      rw [if_neg (by simp [h1])]
      by_cases h2 : a.c.cr = b.c.cr
      · rw [if_neg (by simp [h2])] at h
        rw [if_neg (by simp [h2])]
        exact lessK_asym h
      · rw [if_pos h2] at h
        rw [if_pos (fun e => h2 e.symm)]
        simp at h ⊢; omega
    · rw [if_pos h1] at h
      rw [if_pos (fun e => h1 e.symm)]
      simp at h ⊢; omega
  · intro a b c h k
    unfold befI at h k ⊢
    by_cases h1 : a.k.p.length = b.k.p.length
    · by_cases k1 : b.k.p.length = c.k.p.length
      · rw [if_neg (by simp [h1])] at h
        rw [if_neg (by simp [k1])] at k
        rw [if_neg (by simp [h1, k1])]
        by_cases h2 : a.c.cr = b.c.cr
        · by_cases k2 : b.c.cr = c.c.cr
          · rw [if_neg (by simp [h2])] at h
            rw [if_neg (by simp [k2])] at k
            rw [if_neg (by simp [h2, k2])]
            rcases lessK_tri a.k c.k with e | e | e
            · rw [e]; exact lessK_irr _
            · exfalso
              rcases lessK_tri b.k c.k with f | f | f
              · rw [← f, h] at e; cases e
              · rw [k] at f; cases f
              · have := lessK_trans e f
                rw [h] at this; cases this
            · exact lessK_asym e
          · rw [if_pos k2] at k
            rw [if_pos (by omega)]
            simp at k ⊢; omega
        · rw [if_pos h2] at h
          by_cases k2 : b.c.cr = c.c.cr
          · rw [if_pos (by omega)]; simp at h ⊢; omega
          · rw [if_pos k2] at k
            simp at h k
            rw [if_pos (by omega)]; simp; omega
      · rw [if_pos k1] at k
        rw [if_pos (by omega)]; simp at k ⊢; omega
    · rw [if_pos h1] at h
      by_cases k1 : b.k.p.length = c.k.p.length
      · rw [if_pos (by omega)]; simp at h ⊢; omega
      · rw [if_pos k1] at k
        simp at h k
        rw [if_pos (by omega)]; simp; omega
/-- Neither ahead: one key. -/
theorem befI_key {a b : It} (h : befI a b = false) (k : befI b a = false) : a.k = b.k := by
  unfold befI at h k
  by_cases h1 : a.k.p.length = b.k.p.length
  · rw [if_neg (by simp [h1])] at h
    rw [if_neg (by simp [h1])] at k
    by_cases h2 : a.c.cr = b.c.cr
    · rw [if_neg (by simp [h2])] at h
      rw [if_neg (by simp [h2])] at k
      rcases lessK_tri a.k b.k with e | e | e
      · exact e
      · rw [h] at e; cases e
      · rw [k] at e; cases e
    · rw [if_pos h2] at h
      rw [if_pos (fun e => h2 e.symm)] at k
      simp at h k; omega
  · rw [if_pos h1] at h
    rw [if_pos (fun e => h1 e.symm)] at k
    simp at h k; omega

theorem it_ordc {w : World} {b o : Nat} {x : It} (h : itAt w b o = some x) : w.cell? ⟨b, o + 2, none⟩ = some (.string (S x.k.p)) ∧ w.cell? ⟨b, o + 9, none⟩ = some (.int .i64 x.c.cr) ∧ kyAt w b o = some x.k :=
  ⟨rdAt_range (f := cI) h 2 _ rfl, rdAt_range (f := cI) h 9 _ rfl, kyAt_it h⟩
def OrdS (w : World) (g : Nat) (a b : It) : Prop := w.cell? ⟨g, 2, none⟩ = some (.string (S a.k.p)) ∧ w.cell? ⟨g, 9, none⟩ = some (.int .i64 a.c.cr) ∧ kyAt w g 0 = some a.k ∧ w.cell? ⟨g + 1, 2, none⟩ = some (.string (S b.k.p)) ∧ w.cell? ⟨g + 1, 9, none⟩ = some (.int .i64 b.c.cr) ∧ kyAt w (g + 1) 0 = some b.k
theorem ord_of {w : World} {g : Nat} {a b : It} (h : itAt w g 0 = some a) (k : itAt w (g + 1) 0 = some b) : OrdS w g a b := by
  obtain ⟨a1, a2, a3⟩ := it_ordc h
  obtain ⟨b1, b2, b3⟩ := it_ordc k
  rw [Nat.zero_add] at a1 a2 b1 b2
  exact ⟨a1, a2, a3, b1, b2, b3⟩
theorem ord_later {w w1 : World} {g : Nat} {a b : It} (h : OrdS w g a b) (hb : Below w.heap.size w w1) : OrdS w1 g a b := by
  obtain ⟨h1, h2, h3, h4, h5, h6⟩ := h
  have l1 := ky_lt h3
  have l2 := ky_lt h6
  exact ⟨(hb.cell (p := ⟨g, 2, none⟩) l1).trans h1, (hb.cell (p := ⟨g, 9, none⟩) l1).trans h2, kyAt_later h3 hb, (hb.cell (p := ⟨g + 1, 2, none⟩) l2).trans h4, (hb.cell (p := ⟨g + 1, 9, none⟩) l2).trans h5, kyAt_later h6 hb⟩
theorem ord_drew {w : World} {g : Nat} {a b : It} (h : OrdS w g a b) : OrdS w.drew g a b := ord_later h (Below.refl _ _).drew
theorem or_new' (a b c : Int) (W : World) (t g : Nat) (hg : W.heap.size = g) : Calls Try.prog 94 #[.slice (some ⟨g, 0, none⟩) 3 3] (W.alloc (.cells #[.int .i64 a, .int .i64 b, .int .i64 c] t)) fun e w' => e = .returned (.int .i64 (orI a b c)) ∧ (W.alloc (.cells #[.int .i64 a, .int .i64 b, .int .i64 c] t)) = w' := by
  subst hg
  have hb := Blk.new_ W t #[.int .i64 a, .int .i64 b, .int .i64 c]
  exact or_any a b c _ _ (hb.cell 0) (hb.cell 1) (hb.cell 2)
end Go.Proofs.Ytgfoaopfdpclhaa
