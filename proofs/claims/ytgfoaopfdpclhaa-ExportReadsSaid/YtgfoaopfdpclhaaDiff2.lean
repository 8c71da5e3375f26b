/-
  An item of nothing but a key; the item of a key; the change of a key.
-/
import Derived.Test.YtgfoaopfdpclhaaChg
import Derived.Deep.QuietTactic
import Derived.BigQuiet
namespace Go.Proofs.Ytgfoaopfdpclhaa
open Go.RowKit
set_option linter.unusedVariables false

/-- What a search hands back: the item, or the zero one. -/
def itOr (o : Option It) : It := o.getD (noneI k0)
theorem findI_take {l : List It} {k : Ky} {j : Nat} (hj : j < l.length) (h : findI (l.take j) k = none) : (l[j].k = k → findI l k = some l[j]) ∧ (l[j].k ≠ k → findI (l.take (j + 1)) k = none) := by
  have hs : l = l.take j ++ l[j] :: l.drop (j + 1) := by rw [← List.drop_eq_getElem_cons hj, List.take_append_drop]
  constructor
  · intro e
    conv => lhs; rw [hs]
    unfold findI at h ⊢
    rw [List.find?_append, h, List.find?_cons_of_pos (by simpa using e)]
    rfl
  · intro e
    rw [List.take_succ_eq_append_getElem hj]
    unfold findI at h ⊢
    rw [List.find?_append, h]
    simp [e]
set_option maxHeartbeats 1000000 in
theorem refFindI_any (A : Option Addr) (n c : Nat) (l : List It) (k : Ky) (w : World) (h : Rd w 11 (.slice A n c) n (l.flatMap cI)) :
    Calls Try.prog 42 #[.slice A n c, vK k] w fun e w' => e = .returned (.tuple #[vI (itOr (findI l k)), .bool (findI l k).isSome]) ∧ Below w.heap.size w w' := by
  have hl := h.rows (sz := 11) (f := cI) (fun q => rfl) (by decide)
  have hcap := h.cap
  unfold maxLen at hcap
  obtain ⟨hca, hcb⟩ := hcap
  subst hl
  go_enter Try.func42, Try.ntmps42
  go_wp2
  have hB : Below w.heap.size w ((w.alloc (Obj.cells (cK k).toArray 23)).alloc (Obj.cells (cI (noneI k0)).toArray 27)) := bel_alloc (bel_alloc (Below.refl _ _) _) _
  have hk0 : kyAt ((w.alloc (Obj.cells (cK k).toArray 23)).alloc (Obj.cells (cI (noneI k0)).toArray 27)) w.heap.size 0 = some k := by go_simp
  have ht0 : ((w.alloc (Obj.cells (cK k).toArray 23)).alloc (Obj.cells (cI (noneI k0)).toArray 27)).there (w.heap.size + 1) 0 11 := by go_simp
  show Code.wp _ _ _ _ ((w.alloc (Obj.cells (cK k).toArray 23)).alloc (Obj.cells (cI (noneI k0)).toArray 27))
  generalize ((w.alloc (Obj.cells (cK k).toArray 23)).alloc (Obj.cells (cI (noneI k0)).toArray 27)) = W at *
  go_loopw [5, 6] (fun f i wr => ∃ j : Nat, j ≤ l.length ∧ i = .int .i64 j ∧ f = .bool false ∧ Below w.heap.size w wr ∧ kyAt wr w.heap.size 0 = some k ∧ wr.there (w.heap.size + 1) 0 11 ∧ Hid (findI (l.take j) k = none)) (fun _ i _ => l.length - (intOf i).toNat)
  case atStart => exact ⟨0, Nat.zero_le _, rfl, rfl, hB, hk0, ht0, rfl⟩
  case round =>
    obtain ⟨j, hj, rfl, rfl, hbel, hk, hth, hno⟩ := hrel
    clear hk0 ht0 hB
    by_cases hlt : j < l.length
    · have hji : (j : Int) < l.length := by omega
      have hj0 : (0 : Int) ≤ (j : Int) := by omega
      obtain ⟨b, off, rfl, hb, hx⟩ := (h.below hbel).items hlt
      obtain ⟨hxi, hxk⟩ := hx j hlt
      clear hx
      have ht := findI_take hlt hno.out
      go_wp2
      by_cases he : l[j].k = k
      · have hfin := Lib.hid (ht.1 he)
        have heb : decide (l[j].k = k) = true := decide_eq_true he
        clear ht he
        go_quiet (fail)
        have hxi' := itAt_dN hxi nq
        have hth' := there_dN hth nq
        have hbel' := below_drews hbel nq
        clear hk hth hxi hxk hbel hno h hb
        generalize wr.drewN nq = wq at *
        repeat go_step
        refine ret_item2 (x := l[j]) Try.results42 rfl rfl (itAt_setCells _ hth') ⟨?_, below_setCells _ _ _ hbel' (by omega)⟩
        rw [hfin.out]
        rfl
      · have hnx := Lib.hid (ht.2 he)
        have heb : decide (l[j].k = k) = false := decide_eq_false he
        clear ht he
        go_quiet (fail)
        have hth' := there_dN hth nq
        have hk' := kyAt_dN hk nq
        have hbel' := below_drews hbel nq
        clear hk hth hxi hxk hbel hno hb
        generalize wr.drewN nq = wq at *
        go_wp2
        go_roundw
        case rel => exact ⟨j + 1, by omega, by go_num, rfl, hbel', hk', hth', hnx.out⟩
        case measure => simp [intOf]; omega
    · obtain rfl : j = l.length := by omega
      have hfin : Hid (findI l k = none) := by have := hno.out; rwa [List.take_length] at this
      clear hno
      repeat go_step
      refine ret_item2 (x := noneI k0) Try.results42 rfl rfl (itAt_setCells _ hth) ⟨?_, below_setCells _ _ _ hbel (by omega)⟩
      rw [hfin.out]
      rfl
end Go.Proofs.Ytgfoaopfdpclhaa
