/-
  Which of two items is ahead: the program's and the document's walk.
-/
import Derived.Test.YtdefpphfbpkeaaaChg
import Derived.Test.YtdefpphfbpkeaaaSortP
namespace Go.Proofs.Ytdefpphfbpkeaaa
open Go.RowKit
set_option linter.unusedVariables false

def cmpN (a b : Int) : Int := if a < b then -1 else if b < a then 1 else 0
def cmpI (a b : It) : Int := orI (cmpN b.k.p.length a.k.p.length) (cmpN a.c.cr b.c.cr) (cmpK a.k b.k)
/-- Is an item ahead of another one? -/
def befI (a b : It) : Bool := if a.k.p.length ≠ b.k.p.length then decide (b.k.p.length < a.k.p.length) else if a.c.cr ≠ b.c.cr then decide (a.c.cr < b.c.cr) else lessK a.k b.k
theorem befI_cmp (a b : It) : decide (cmpI a b < 0) = befI a b := by
  unfold cmpI befI orI cmpN
  rw [← orI_keys]
  by_cases h1 : a.k.p.length = b.k.p.length
  · by_cases h2 : a.c.cr = b.c.cr
    · rw [h1, h2]; simp [cmpK]
    · rcases Int.lt_or_gt_of_ne h2 with h | h
      · rw [h1]; simp [h, h2]
      · have h3 : ¬ a.c.cr < b.c.cr := by omega
        rw [h1]; simp [h3, h, h2]
  · rcases Nat.lt_or_gt_of_ne h1 with h | h
    · have h3 : ¬ (b.k.p.length : Int) < a.k.p.length := by omega
      have h4 : (a.k.p.length : Int) < b.k.p.length := by omega
      have h5 : ¬ b.k.p.length < a.k.p.length := by omega
      simp [h1, h3, h4, h5]
    · have h4 : (b.k.p.length : Int) < a.k.p.length := by omega
      have h5 : b.k.p.length < a.k.p.length := by omega
      simp [h1, h4, h5]
theorem befI_swo : Swo befI := by
  constructor
  · intro a b h
    unfold befI at h ⊢
    by_cases h1 : a.k.p.length = b.k.p.length
    · rw [if_neg (by simp [h1])] at h
      rw [if_neg (by simp [h1])]
      by_cases h2 : a.c.cr = b.c.cr
      · rw [if_neg (by simp [h2])] at h
        rw [if_neg (by simp [h2])]
        exact lessK_asym h
      · rw [if_pos h2] at h
        rw [if_pos (fun e => h2 e.symm)]
        simp at h ⊢; omega
    · rw [if_pos h1] at h
      rw [if_pos (fun e => h1 e.symm)]
      simp at h ⊢; omega
  · intro a b c h k
    unfold befI at h k ⊢
    by_cases h1 : a.k.p.length = b.k.p.length
    · by_cases k1 : b.k.p.length = c.k.p.length
      · rw [if_neg (by simp [h1])] at h
        rw [if_neg (by simp [k1])] at k
        rw [if_neg (by simp [h1, k1])]
        by_cases h2 : a.c.cr = b.c.cr
        · by_cases k2 : b.c.cr = c.c.cr
          · rw [if_neg (by simp [h2])] at h
            rw [if_neg (by simp [k2])] at k
            rw [if_neg (by simp [h2, k2])]
            rcases lessK_tri a.k c.k with e | e | e
            · rw [e]; exact lessK_irr _
            · exfalso
              rcases lessK_tri b.k c.k with f | f | f
              · rw [← f, h] at e; cases e
              · rw [k] at f; cases f
              · have := lessK_trans e f
                rw [h] at this; cases this
            · exact lessK_asym e
          · rw [if_pos k2] at k
            rw [if_pos (by omega)]
            simp at k ⊢; omega
        · rw [if_pos h2] at h
          by_cases k2 : b.c.cr = c.c.cr
          · rw [if_pos (by omega)]; simp at h ⊢; omega
          · rw [if_pos k2] at k
            simp at h k
            rw [if_pos (by omega)]; simp; omega
      · rw [if_pos k1] at k
        rw [if_pos (by omega)]; simp at k ⊢; omega
    · rw [if_pos h1] at h
      by_cases k1 : b.k.p.length = c.k.p.length
      · rw [if_pos (by omega)]; simp at h ⊢; omega
      · rw [if_pos k1] at k
        simp at h k
        rw [if_pos (by omega)]; simp; omega
/-- Neither ahead: one key. -/
theorem befI_key {a b : It} (h : befI a b = false) (k : befI b a = false) : a.k = b.k := by
  unfold befI at h k
  by_cases h1 : a.k.p.length = b.k.p.length
  · rw [if_neg (by simp [h1])] at h
    rw [if_neg (by simp [h1])] at k
    by_cases h2 : a.c.cr = b.c.cr
    · rw [if_neg (by simp [h2])] at h
      rw [if_neg (by simp [h2])] at k
      rcases lessK_tri a.k b.k with e | e | e
      · exact e
      · rw [h] at e; cases e
      · rw [k] at e; cases e
    · rw [if_pos h2] at h
      rw [if_pos (fun e => h2 e.symm)] at k
      simp at h k; omega
  · rw [if_pos h1] at h
    rw [if_pos (fun e => h1 e.symm)] at k
    simp at h k; omega

theorem isNaN_any (a : Int) (w : World) : Calls Try.prog 79 #[.int .i64 a] w fun e w' => e = .returned (.bool false) ∧ w = w' := by
  have h : (a != a) = false := by simp
  go_enter Try.func79, Try.ntmps79
  go_wp2
  go_ret
  exact ⟨rfl, rfl⟩
theorem cmpN_any (a b : Int) (w : World) : Calls Try.prog 67 #[.int .i64 a, .int .i64 b] w fun e w' => e = .returned (.int .i64 (cmpN a b)) ∧ w = w' := by
  by_cases h1 : a < b
  · have e : cmpN a b = -1 := by unfold cmpN; rw [if_pos h1]
    go_enter Try.func67, Try.ntmps67
    go_wp2_with (go_at_call 79; refine (isNaN_any _ _).mono ?_; rintro e w1 ⟨rfl, rfl⟩)
    go_ret
    exact ⟨ret_int e.symm, rfl⟩
  · by_cases h2 : b < a
    · have e : cmpN a b = 1 := by unfold cmpN; rw [if_neg h1, if_pos h2]
      go_enter Try.func67, Try.ntmps67
      go_wp2_with (go_at_call 79; refine (isNaN_any _ _).mono ?_; rintro e w1 ⟨rfl, rfl⟩)
      go_ret
      exact ⟨ret_int e.symm, rfl⟩
    · have e : cmpN a b = 0 := by unfold cmpN; rw [if_neg h1, if_neg h2]
      go_enter Try.func67, Try.ntmps67
      go_wp2_with (go_at_call 79; refine (isNaN_any _ _).mono ?_; rintro e w1 ⟨rfl, rfl⟩)
      go_ret
      exact ⟨ret_int e.symm, rfl⟩
theorem it_ordc {w : World} {b o : Nat} {x : It} (h : itAt w b o = some x) : w.cell? ⟨b, o + 2, none⟩ = some (.string (S x.k.p)) ∧ w.cell? ⟨b, o + 9, none⟩ = some (.int .i64 x.c.cr) ∧ kyAt w b o = some x.k :=
  ⟨rdAt_range (f := cI) h 2 _ rfl, rdAt_range (f := cI) h 9 _ rfl, kyAt_it h⟩
def OrdS (w : World) (g : Nat) (a b : It) : Prop := w.cell? ⟨g, 2, none⟩ = some (.string (S a.k.p)) ∧ w.cell? ⟨g, 9, none⟩ = some (.int .i64 a.c.cr) ∧ kyAt w g 0 = some a.k ∧ w.cell? ⟨g + 1, 2, none⟩ = some (.string (S b.k.p)) ∧ w.cell? ⟨g + 1, 9, none⟩ = some (.int .i64 b.c.cr) ∧ kyAt w (g + 1) 0 = some b.k
theorem ord_of {w : World} {g : Nat} {a b : It} (h : itAt w g 0 = some a) (k : itAt w (g + 1) 0 = some b) : OrdS w g a b := by
  obtain ⟨a1, a2, a3⟩ := it_ordc h
  obtain ⟨b1, b2, b3⟩ := it_ordc k
  rw [Nat.zero_add] at a1 a2 b1 b2
  exact ⟨a1, a2, a3, b1, b2, b3⟩
theorem ord_later {w w1 : World} {g : Nat} {a b : It} (h : OrdS w g a b) (hb : Below w.heap.size w w1) : OrdS w1 g a b := by
  obtain ⟨h1, h2, h3, h4, h5, h6⟩ := h
  have l1 := ky_lt h3
  have l2 := ky_lt h6
  exact ⟨(hb.cell (p := ⟨g, 2, none⟩) l1).trans h1, (hb.cell (p := ⟨g, 9, none⟩) l1).trans h2, kyAt_later h3 hb, (hb.cell (p := ⟨g + 1, 2, none⟩) l2).trans h4, (hb.cell (p := ⟨g + 1, 9, none⟩) l2).trans h5, kyAt_later h6 hb⟩
theorem ord_drew {w : World} {g : Nat} {a b : It} (h : OrdS w g a b) : OrdS w.drew g a b := ord_later h (Below.refl _ _).drew
theorem or_new' (a b c : Int) (W : World) (t g : Nat) (hg : W.heap.size = g) : Calls Try.prog 66 #[.slice (some ⟨g, 0, none⟩) 3 3] (W.alloc (.cells #[.int .i64 a, .int .i64 b, .int .i64 c] t)) fun e w' => e = .returned (.int .i64 (orI a b c)) ∧ (W.alloc (.cells #[.int .i64 a, .int .i64 b, .int .i64 c] t)) = w' := by
  subst hg
  have hb := Blk.new_ W t #[.int .i64 a, .int .i64 b, .int .i64 c]
  exact or_any a b c _ _ (hb.cell 0) (hb.cell 1) (hb.cell 2)
set_option maxHeartbeats 1000000 in
theorem order_any (a b : It) (w : World) (ha : a.k.p.length ≤ 9223372036854775807) (hb : b.k.p.length ≤ 9223372036854775807) : Calls Try.prog 57 #[vI a, vI b] w fun e w' => e = .returned (.int .i64 (cmpI a b)) ∧ Below w.heap.size w w' := by
  go_enter Try.func57, Try.ntmps57
  go_wp2
  have hB : Below w.heap.size w ((w.alloc (Obj.cells (cI a).toArray 51)).alloc (Obj.cells (cI b).toArray 51)) := bel_alloc (bel_alloc (Below.refl _ _) _) _
  have c0 : itAt ((w.alloc (Obj.cells (cI a).toArray 51)).alloc (Obj.cells (cI b).toArray 51)) w.heap.size 0 = some a := by go_simp
  have d0 : itAt ((w.alloc (Obj.cells (cI a).toArray 51)).alloc (Obj.cells (cI b).toArray 51)) (w.heap.size + 1) 0 = some b := by go_simp
  generalize hg : w.heap.size = g at *
  replace hg := Lib.hid hg
  generalize ((w.alloc (Obj.cells (cI a).toArray 51)).alloc (Obj.cells (cI b).toArray 51)) = W at *
  have hS : OrdS W g a b := ord_of c0 d0
  clear c0 d0
  have hSd := ord_drew hS
  have h1 := hSd.1
  have h2 := hSd.2.1
  have h3 := hSd.2.2.1
  have h4 := hSd.2.2.2.1
  have h5 := hSd.2.2.2.2.1
  have h6 := hSd.2.2.2.2.2
  clear hS
  go_region_held3 (fun w' => w'.cell? ⟨g, 2, none⟩ = some (.string (S a.k.p)) ∧ w'.cell? ⟨g, 9, none⟩ = some (.int .i64 a.c.cr) ∧ kyAt w' g 0 = some a.k ∧ w'.cell? ⟨g + 1, 2, none⟩ = some (.string (S b.k.p)) ∧ w'.cell? ⟨g + 1, 9, none⟩ = some (.int .i64 b.c.cr) ∧ kyAt w' (g + 1) 0 = some b.k) (first | exact hSd | exact ord_later hSd hb1 | exact ord_later hSd (bel_alloc hb1 _)) (first
    | (go_at_call 67; refine (cmpN_any _ _ _).mono ?_; rintro e w1 ⟨rfl, rfl⟩)
    | (go_at_call 59; refine (keys_any _ _ _).mono ?_; rintro e w1 ⟨rfl, hb1⟩)
    | (go_at_call 66; refine (or_new' _ _ _ _ _ _ (by simp)).mono ?_; rintro e w1 ⟨rfl, rfl⟩))
  have hB' := bel_alloc (bel_call (hg.out ▸ hB.drew) hb1) (Obj.cells #[.int .i64 (cmpN b.k.p.length a.k.p.length), .int .i64 (cmpN a.c.cr b.c.cr), .int .i64 (cmpK a.k b.k)] 3)
  go_wp2
  go_ret
  exact ⟨rfl, by rw [hg.out] at hB' ⊢; exact hB'⟩
theorem before_any (a b : It) (w : World) (ha : a.k.p.length ≤ 9223372036854775807) (hb : b.k.p.length ≤ 9223372036854775807) : Calls Try.prog 37 #[vI a, vI b] w fun e w' => e = .returned (.bool (befI a b)) ∧ Below w.heap.size w w' := by
  have e : decide (cmpI a b < 0) = befI a b := befI_cmp a b
  generalize hk : cmpI a b = k at e
  replace hk := Lib.hid hk
  replace e := Lib.hid e
  go_enter Try.func37, Try.ntmps37
  go_wp2_with fail
  have hB : Below w.heap.size w ((w.alloc (Obj.cells (cI a).toArray 51)).alloc (Obj.cells (cI b).toArray 51)) := bel_alloc (bel_alloc (Below.refl _ _) _) _
  refine (order_any a b _ ha hb).mono ?_
  rintro e w1 ⟨rfl, hb1⟩
  have hB1 := bel_call hB hb1
  rw [hk.out]
  go_wp2
  go_ret
  exact ⟨ret_bool e.out, hB1⟩
theorem sortF_any (a b : It) (w : World) (ha : a.k.p.length ≤ 9223372036854775807) (hb : b.k.p.length ≤ 9223372036854775807) : Calls Try.prog 56 #[vI a, vI b] w fun e w' => e = .returned (.int .i64 (cmpI a b)) ∧ Below w.heap.size w w' := by
  go_enter Try.func56, Try.ntmps56
  go_wp2_with fail
  have hB : Below w.heap.size w ((w.alloc (Obj.cells (cI a).toArray 51)).alloc (Obj.cells (cI b).toArray 51)) := bel_alloc (bel_alloc (Below.refl _ _) _) _
  refine (order_any a b _ ha hb).mono ?_
  rintro e w1 ⟨rfl, hb1⟩
  have hB1 := bel_call hB hb1
  go_wp2
  go_ret
  exact ⟨rfl, hB1⟩
set_option maxHeartbeats 1000000 in
theorem refBefore_any (a b : It) (w : World) (ha : a.k.p.length ≤ 9223372036854775807) (hb : b.k.p.length ≤ 9223372036854775807) : Calls Try.prog 38 #[vI a, vI b] w fun e w' => e = .returned (.bool (befI a b)) ∧ Below w.heap.size w w' := by
  have hB : Below w.heap.size w ((w.alloc (Obj.cells (cI a).toArray 51)).alloc (Obj.cells (cI b).toArray 51)) := bel_alloc (bel_alloc (Below.refl _ _) _) _
  have c0 : itAt ((w.alloc (Obj.cells (cI a).toArray 51)).alloc (Obj.cells (cI b).toArray 51)) w.heap.size 0 = some a := by go_simp
  have d0 : itAt ((w.alloc (Obj.cells (cI a).toArray 51)).alloc (Obj.cells (cI b).toArray 51)) (w.heap.size + 1) 0 = some b := by go_simp
  have hS := Lib.hid (ord_of c0 d0)
  clear c0 d0
  by_cases h1 : a.k.p.length = b.k.p.length
  · have t1 : ((a.k.p.length : Int) != b.k.p.length) = false := by simp [h1]
    by_cases h2 : a.c.cr = b.c.cr
    · have t2 : (a.c.cr != b.c.cr) = false := by simp [h2]
      have e : Hid (befI a b = lessK a.k b.k) := by show _ = _; unfold befI; rw [if_neg (by simp [h1]), if_neg (by simp [h2])]
      clear h1 h2
      obtain ⟨q1, q2, q3, q4, q5, q6⟩ := hS.out
      go_enter Try.func38, Try.ntmps38
      go_wp2_with fail
      refine (refLess_any _ _ _).mono ?_
      rintro e' w1 ⟨rfl, hb1⟩
      have hB1 := bel_call hB hb1
      go_wp2
      go_ret
      exact ⟨ret_bool e.out.symm, hB1⟩
    · have t2 : (a.c.cr != b.c.cr) = true := by simpa using h2
      have e : Hid (befI a b = decide (a.c.cr < b.c.cr)) := by show _ = _; unfold befI; rw [if_neg (by simp [h1]), if_pos h2]
      clear h1 h2
      obtain ⟨q1, q2, q3, q4, q5, q6⟩ := hS.out
      go_enter Try.func38, Try.ntmps38
      go_wp2
      go_ret
      exact ⟨ret_bool e.out.symm, hB⟩
  · have t1 : ((a.k.p.length : Int) != b.k.p.length) = true := by rw [bne_iff_ne]; omega
    have e : Hid (befI a b = decide (b.k.p.length < a.k.p.length)) := by show _ = _; unfold befI; rw [if_pos h1]
    clear h1
    obtain ⟨q1, q2, q3, q4, q5, q6⟩ := hS.out
    go_enter Try.func38, Try.ntmps38
    go_wp2
    go_ret
    exact ⟨ret_bool e.out.symm, hB⟩
end Go.Proofs.Ytdefpphfbpkeaaa
