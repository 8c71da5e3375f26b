/-
  The walk: items whose times are another one (the document's Aged).
-/
import Derived.Test.YtgfoaopfdpclhaaExp6
import Derived.Test.YtgfoaopfdpclhaaView
namespace Go.Proofs.Ytgfoaopfdpclhaa
open Go.RowKit
set_option linter.unusedVariables false

theorem aged_at {w : World} {g : Nat} {t : TypeId} {x : It} (h : Blk w g t (cI x).toArray) (n : Int) : itAt ((w.setCell ⟨g, 9, none⟩ (.int .i64 n)).setCell ⟨g, 10, none⟩ (.int .i64 n)) g 0 = some (agedX x n) := by
  have hb := rb_put (rb_put h 9 (.int .i64 n)) 10 (.int .i64 n)
  exact itAt_of (fun j v hv => by
    rw [Nat.zero_add, hb.cell j]
    match j, hv with
    | 0, hv => exact hv
    | 1, hv => exact hv
    | 2, hv => exact hv
    | 3, hv => exact hv
    | 4, hv => exact hv
    | 5, hv => exact hv
    | 6, hv => exact hv
    | 7, hv => exact hv
    | 8, hv => exact hv
    | 9, hv => exact hv
    | 10, hv => exact hv
    | j + 11, hv => simp [cI, cK, cCk] at hv)
set_option maxRecDepth 20000 in
set_option maxHeartbeats 4000000 in
theorem aged_any (A : Option Addr) (c : Nat) (l : List It) (t : Int) (w : World) (h : Rd w 11 (.slice A l.length c) l.length (l.flatMap cI)) (hn : l.length ≤ 100000) :
    Calls Try.prog 12 #[.slice A l.length c, .int .i64 t] w (RowPost (l.map (agedX · t)) w) := by
  obtain ⟨i0, hi, hz0, hz1, hz2⟩ := info_parts Try.infoI
  have hcap := h.cap
  unfold maxLen at hcap
  obtain ⟨hca, hcb⟩ := hcap
  go_enter Try.func12, Try.ntmps12
  go_wp2_with fail
  have hown0 : (w.alloc (Obj.cells #[] 27)).ownsRow w.heap.size 27 11 (.slice (some ⟨w.heap.size, 0, none⟩) 0 0) 0 [] :=
    World.ownsRow_lit w #[] 0 (Nat.le_refl _) (by unfold maxLen; omega) rfl
  have hB0 : Below w.heap.size w (w.alloc (Obj.cells #[] 27)) := bel_alloc (Below.refl _ _) _
  generalize (w.alloc (Obj.cells #[] 27)) = W at *
  go_loopw [5, 6] (fun va i wr => ∃ j : Nat, j ≤ l.length ∧ i = .int .i64 j ∧ wr.ownsRow w.heap.size 27 11 va j (((l.take j).map (agedX · t)).flatMap cI) ∧ Below w.heap.size w wr) (fun _ i _ => l.length - (intOf i).toNat)
  case atStart => exact ⟨0, Nat.zero_le _, rfl, hown0, hB0⟩
  case round =>
    obtain ⟨j, hj, rfl, hoa, hbel⟩ := hrel
    clear hB0 hown0
    by_cases hlt : j < l.length
    · have hji : (j : Int) < l.length := by omega
      have hj0 : (0 : Int) ≤ (j : Int) := by omega
      obtain ⟨b, off, rfl, hb, hx⟩ := (h.below hbel).items hlt
      obtain ⟨hxi, hxk⟩ := hx j hlt
      clear hx hxk
      have hfa : Hid ((l.take (j + 1)).map (agedX · t) = (l.take j).map (agedX · t) ++ [agedX l[j] t]) := by
        show _ = _
        rw [List.take_succ_eq_append_getElem hlt, List.map_append]; rfl
      go_upto_region 8 with (fail)
      show Code.wp _ _ _ _ (wr.alloc (.cells (cI (agedX l[j] t)).toArray 27))
      clear hxi hb
      generalize agedX l[j] t = y at *
      have hkl := hbel.size
      have hy := itAt_new wr y 27 wr.heap.size rfl
      have hoa' := hoa.alloc (.cells (cI y).toArray 27)
      have hbel' := bel_alloc hbel (.cells (cI y).toArray 27)
      clear hoa hbel
      generalize wr.alloc (.cells (cI y).toArray 27) = w2 at *
      have hsz' := hbel'.size
      go_wp2_with (at_builtin; refine wpList_push_at rfl _ _ 29 rfl w.heap.size 27 i0 (vI (noneI k0)) 11 96 Try.underlying29 hi hz0 hz1 hz2 rfl (by decide) _ _ _ rfl hoa' _ _ rfl rfl (by simp) (cI_one _) ?c1 ?c2 hsz' hbel' ?_)
      case c1 => unfold maxLen; omega
      case c2 => omega
      intro v' w3 hoa2 hg2 hm2 hbel2 hsz2
      clear hoa' hy hg2 hm2 hbel'
      go_wp2
      go_roundw
      case rel => exact ⟨j + 1, by omega, by go_num, by rw [hfa.out, flat_snoc]; simpa only [List.map_take] using hoa2, hbel2⟩
      case measure => simp [intOf]; omega
    · obtain rfl : j = l.length := by omega
      rw [List.take_length] at hoa
      go_wp2
      go_ret
      obtain ⟨A3, c3, rfl⟩ := own_form hoa
      rw [show l.length = (l.map (agedX · t)).length by simp] at hoa ⊢
      exact ⟨A3, c3, rfl, hoa, hbel⟩
end Go.Proofs.Ytgfoaopfdpclhaa
