/-
  One item put into a row of the call's own: all roads of slices.Insert together.
-/
import Derived.Test.YtgfoaopfdpclhaaIns
namespace Go.Proofs.Ytgfoaopfdpclhaa
open Go.RowKit
set_option linter.unusedVariables false

theorem blk_rd {w : World} {vb : Nat} {x : It} (hv : Blk w vb 27 (cI x).toArray) : Rd w 11 (.slice (some ⟨vb, 0, none⟩) 1 1) 1 (cI x) := by
  refine ⟨rfl, some ⟨vb, 0, none⟩, 1, rfl, Nat.le_refl _, by simp [maxLen], .inr ⟨vb, 0, rfl, hv.lt, fun j hj => ?_⟩⟩
  rw [Nat.zero_add, hv.cell]
  simp
/-- What is laid over a row, one item and what stood behind it. -/
theorem laid_ins (cs : Array Value) (n i : Nat) (l : List It) (x : It) (hl : l.length = n) (hi : i ≤ n) (hcs : (n + 1) * 11 ≤ cs.size) (ht : ∀ j, j < i * 11 → cs[j]? = (l.flatMap cI)[j]?) (R : Array Value) (hRs : R.size = cs.size)
    (h1 : ∀ j, j < i * 11 → R[j]? = cs[j]?) (h2 : ∀ j, j < 11 → R[i * 11 + j]? = (cI x)[j]?) (h3 : ∀ j, j < (n - i) * 11 → R[(i + 1) * 11 + j]? = ((l.drop i).flatMap cI)[j]?) :
    R.toList.take ((n + 1) * 11) = (l.take i ++ x :: l.drop i).flatMap cI := by
  have e : (l.take i ++ x :: l.drop i).flatMap cI = (l.take i).flatMap cI ++ (cI x ++ (l.drop i).flatMap cI) := by rw [List.flatMap_append, List.flatMap_cons]
  have hsp : l.flatMap cI = (l.take i).flatMap cI ++ (l.drop i).flatMap cI := by rw [← List.flatMap_append, List.take_append_drop]
  have l1 : ((l.take i).flatMap cI).length = i * 11 := by rw [cI_flat, List.length_take, hl, Nat.min_eq_left hi]
  have l2 : ((l.drop i).flatMap cI).length = (n - i) * 11 := by rw [cI_flat, List.length_drop, hl]
  have hx : (cI x).length = 11 := rfl
  have hsum : i * 11 + (11 + (n - i) * 11) = (n + 1) * 11 := by omega
  rw [e]
  apply List.ext_getElem?
  intro j
  by_cases hj : j < (n + 1) * 11
  · rw [List.getElem?_take_of_lt hj, Array.getElem?_toList]
    by_cases a : j < i * 11
    · rw [h1 j a, ht j a, hsp, List.getElem?_append_left (by omega), List.getElem?_append_left (by omega)]
    · rw [List.getElem?_append_right (by omega), l1]
      by_cases b : j < (i + 1) * 11
      · have := h2 (j - i * 11) (by omega)
        rw [show i * 11 + (j - i * 11) = j by omega] at this
        rw [this, List.getElem?_append_left (by omega)]
      · have := h3 (j - (i + 1) * 11) (by omega)
        rw [show (i + 1) * 11 + (j - (i + 1) * 11) = j by omega] at this
        rw [this, List.getElem?_append_right (by omega), hx]
        congr 1
        omega
  · rw [List.getElem?_eq_none (by simp; omega), List.getElem?_eq_none (by simp only [List.length_append, l1, l2, hx]; omega)]

theorem ins_laid_A (cs : Array Value) (n i : Nat) (l : List It) (x : It) (hl : l.length = n) (hi : i ≤ n) (hcs : (n + 1) * 11 ≤ cs.size) (ht : ∀ j, j < i * 11 → cs[j]? = (l.flatMap cI)[j]?) :
    (laid (laid cs ((i + 1) * 11) ((l.drop i).flatMap cI)) (i * 11) (cI x)).toList.take ((n + 1) * 11) = (l.take i ++ x :: l.drop i).flatMap cI := by
  have l2 : ((l.drop i).flatMap cI).length = (n - i) * 11 := by rw [cI_flat, List.length_drop, hl]
  have hx : (cI x).length = 11 := rfl
  refine laid_ins cs n i l x hl hi hcs ht _ (by rw [laid_size, laid_size]) (fun j hj => ?_) (fun j hj => ?_) (fun j hj => ?_)
  · rw [laid_lo _ _ _ _ hj, laid_lo _ _ _ _ (by omega)]
  · exact laid_at _ _ _ _ (by rw [laid_size, hx]; omega) (by rw [hx]; exact hj)
  · rw [laid_hi _ _ _ _ (by rw [hx]; omega), laid_at _ _ _ _ (by rw [l2]; omega) (by rw [l2]; exact hj)]
theorem ins_laid_B (cs : Array Value) (n i : Nat) (l : List It) (x : It) (hl : l.length = n) (hi : i ≤ n) (hcs : (n + 1) * 11 ≤ cs.size) (ht : ∀ j, j < i * 11 → cs[j]? = (l.flatMap cI)[j]?) :
    (laid (laid cs (i * 11) (cI x)) ((i + 1) * 11) ((l.drop i).flatMap cI)).toList.take ((n + 1) * 11) = (l.take i ++ x :: l.drop i).flatMap cI := by
  have l2 : ((l.drop i).flatMap cI).length = (n - i) * 11 := by rw [cI_flat, List.length_drop, hl]
  have hx : (cI x).length = 11 := rfl
  refine laid_ins cs n i l x hl hi hcs ht _ (by rw [laid_size, laid_size]) (fun j hj => ?_) (fun j hj => ?_) (fun j hj => ?_)
  · rw [laid_lo _ _ _ _ (by omega), laid_lo _ _ _ _ hj]
  · rw [laid_lo _ _ _ _ (by omega), laid_at _ _ _ _ (by rw [hx]; omega) (by rw [hx]; exact hj)]
  · exact laid_at _ _ _ _ (by rw [laid_size, l2]; omega) (by rw [l2]; exact hj)

def InsPost (B n i : Nat) (l : List It) (x : It) (w : World) (e : Ending) (w' : World) : Prop := ∃ A c, e = .returned (.slice A (n + 1) c) ∧ w'.ownsRow B 27 11 (.slice A (n + 1) c) (n + 1) ((l.take i ++ x :: l.drop i).flatMap cI) ∧ Below B w w'
set_option maxHeartbeats 4000000 in
theorem insert_any (B : Nat) (v : Value) (n i vb : Nat) (l : List It) (x : It) (w : World) (hown : w.ownsRow B 27 11 v n (l.flatMap cI)) (hv : Blk w vb 27 (cI x).toArray) (hvb : v.ownBlock ≠ some vb) (hB : B ≤ w.heap.size) (hi : i ≤ n) (hn : n ≤ 100000) :
    Calls Try.prog 62 #[v, .int .i64 i, .slice (some ⟨vb, 0, none⟩) 1 1] w (InsPost B n i l x w) := by
  have hl : l.length = n := by have := hown.1; rw [cI_flat] at this; omega
  by_cases hin : i = n
  · subst hin
    obtain ⟨A, c, rfl⟩ := own_form hown
    obtain ⟨i0, hi0, hz0, hz1, hz2⟩ := info_parts Try.infoIt
    have hcap := (Rd.of_own hown).cap
    unfold maxLen at hcap
    obtain ⟨hca, hcb⟩ := hcap
    have hrd := blk_rd hv
    have hT := Lib.hid (show (l.take i ++ x :: l.drop i).flatMap cI = l.flatMap cI ++ cI x by rw [List.take_of_length_le (by omega), List.drop_of_length_le (by omega), List.flatMap_append]; simp)
    have hzq : ((i : Int) == (i : Int)) = true := beq_self_eq_true _
    have hi0' : (0 : Int) ≤ i := by omega
    go_enter Try.func62, Try.ntmps62
    go_wp2_with (at_builtin; refine wpList_more (W := w) w rfl _ _ 29 rfl B 27 i0 (vI (noneI k0)) 11 96 Try.underlying29 hi0 hz0 hz1 hz2 rfl (by decide) _ i _ rfl hown _ 1 1 (cI x) rfl hrd ?c1 ?c2 ?c3 hB (Below.refl _ _) ?_)
    case c1 => exact fun u hu => cI_one x u (by simpa using hu)
    case c2 => unfold maxLen; omega
    case c3 => omega
    intro v' w' hown' hg hm hbel hsz
    go_wp2
    go_ret
    obtain ⟨A', c', rfl⟩ := own_form hown'
    exact ⟨A', c', rfl, by rw [hT.out]; exact hown', hbel⟩
  · rcases hown.2 with ⟨rfl, rfl⟩ | ⟨g, c, cs, rfl, hBg, hg, hnc, hcm, hcs, hcl⟩
    · omega
    have hgv : vb ≠ g := fun e => hvb (by rw [e]; rfl)
    by_cases hroom : n + 1 ≤ c
    · refine (insert_shift g vb n c i cs l x w hg hv hgv hcs hl hcl (by omega) hroom hcm).mono ?_
      rintro e w' ⟨rfl, rfl⟩
      have hb1 := blk_laid g 27 (cI x) (i * 11) _ _ (blk_laid g 27 ((l.drop i).flatMap cI) ((i + 1) * 11) cs w hg)
      have hb2 := (below_setCells g (cI x) (i * 11) (below_setCells g ((l.drop i).flatMap cI) ((i + 1) * 11) (Below.refl B w) hBg) hBg).drew
      have hsz : (n + 1) * 11 ≤ cs.size := by rw [hcs]; exact Nat.mul_le_mul_right 11 hroom
      generalize (w.setCells g ((i + 1) * 11) ((l.drop i).flatMap cI)).setCells g (i * 11) (cI x) = W at *
      refine ⟨_, c, rfl, ⟨?_, .inr ⟨g, c, _, rfl, hBg, hb1, hroom, hcm, by rw [laid_size, laid_size, hcs], ?_⟩⟩, hb2⟩
      · rw [cI_flat]; simp; omega
      · refine ins_laid_A cs n i l x hl hi hsz fun j hj => ?_
        rw [← hcl, List.getElem?_take_of_lt (by omega), Array.getElem?_toList]
    · obtain rfl : c = n := by omega
      refine (insert_grow g vb c i l x cs w hg hv hl hcl hcs (by omega) (by omega)).mono ?_
      rintro e w' ⟨G, ROW, a1, a2, a3, a4, rfl, rfl⟩
      have hb1 := blk_laid w.heap.size 27 ((l.drop i).flatMap cI) ((i + 1) * 11) _ _ (blk_laid w.heap.size 27 (cI x) (i * 11) ROW _ (Blk.new_ w 27 ROW))
      have hb2 := (below_setCells w.heap.size ((l.drop i).flatMap cI) ((i + 1) * 11) (below_setCells w.heap.size (cI x) (i * 11) ((Below.refl B w).alloc hB (.cells ROW 27)) hB) hB).drew.drew
      generalize ((w.alloc (.cells ROW 27)).setCells w.heap.size (i * 11) (cI x)).setCells w.heap.size ((i + 1) * 11) ((l.drop i).flatMap cI) = W at *
      refine ⟨_, G, rfl, ⟨?_, .inr ⟨w.heap.size, G, _, rfl, hB, hb1, a1, a2, by rw [laid_size, laid_size, a3], ?_⟩⟩, hb2⟩
      · rw [cI_flat]; simp; omega
      · exact ins_laid_B ROW c i l x hl hi (by rw [a3]; exact Nat.mul_le_mul_right 11 a1) a4
end Go.Proofs.Ytgfoaopfdpclhaa
