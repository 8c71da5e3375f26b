/-
  Items by keys; changes: whether two lists are the same, copies of them.
-/
import Derived.Test.YtgfoaopfdpclhaaDiff4
namespace Go.Proofs.Ytgfoaopfdpclhaa
open Go.RowKit
set_option linter.unusedVariables false

theorem two_filters {α : Type} (p q : α → Bool) (h : ∀ x, p x = true → q x = false) : ∀ l : List α, (l.filter p).length + (l.filter q).length ≤ l.length
  | [] => by simp
  | x :: l => by
    have ih := two_filters p q h l
    rw [List.filter_cons, List.filter_cons]
    cases hp : p x with
    | true => rw [h x hp]; simp; omega
    | false => cases hq : q x <;> simp <;> omega
theorem put_len (l : List It) (x : It) : (putI l x).length ≤ l.length + 1 := by
  have := two_filters (fun y : It => lessK y.k x.k) (fun y : It => lessK x.k y.k) (fun y h => lessK_asym h) l
  unfold putI
  simp only [List.length_append, List.length_cons, List.length_nil]
  omega
theorem foldl_put_len : ∀ (m l : List It), (m.foldl putI l).length ≤ l.length + m.length
  | [], l => by simp
  | x :: m, l => by
    have := foldl_put_len m (putI l x)
    have := put_len l x
    rw [List.foldl_cons, List.length_cons]
    omega
theorem byKeys_len (l : List It) : (byKeysL l).length ≤ l.length := by have := foldl_put_len l []; unfold byKeysL; simpa using this
theorem byKeys_take (l : List It) (j : Nat) (h : j < l.length) : byKeysL (l.take (j + 1)) = putI (byKeysL (l.take j)) l[j] := by
  rw [List.take_succ_eq_append_getElem h]; unfold byKeysL; rw [List.foldl_append]; rfl

set_option maxHeartbeats 1000000 in
theorem byKeys_any (A : Option Addr) (n c : Nat) (l : List It) (w : World) (h : Rd w 11 (.slice A n c) n (l.flatMap cI)) (hn : n ≤ 50000) :
    Calls Try.prog 17 #[.slice A n c] w fun e w' => ∃ A' c', e = .returned (.slice A' (byKeysL l).length c') ∧ w'.ownsRow w.heap.size 27 11 (.slice A' (byKeysL l).length c') (byKeysL l).length ((byKeysL l).flatMap cI) ∧ Below w.heap.size w w' := by
  have hl := h.rows (sz := 11) (f := cI) (fun q => rfl) (by decide)
  have hcap := h.cap
  unfold maxLen at hcap
  obtain ⟨hca, hcb⟩ := hcap
  subst hl
  go_enter Try.func17, Try.ntmps17
  go_wp2
  go_loopw [3, 4] (fun v i wr => ∃ j A' c', j ≤ l.length ∧ i = .int .i64 (j : Nat) ∧ v = .slice A' (byKeysL (l.take j)).length c' ∧ wr.ownsRow w.heap.size 27 11 (.slice A' (byKeysL (l.take j)).length c') (byKeysL (l.take j)).length ((byKeysL (l.take j)).flatMap cI) ∧ Below w.heap.size w wr) (fun _ i _ => l.length - (intOf i).toNat)
  case atStart => exact ⟨0, _, _, Nat.zero_le _, rfl, rfl, World.ownsRow_lit w #[] 0 (Nat.le_refl _) (by unfold maxLen; omega) rfl, bel_alloc (Below.refl _ _) _⟩
  case round =>
    obtain ⟨j, A', c', hj, rfl, rfl, hown, hbel⟩ := hrel
    by_cases hlt : j < l.length
    · have hji : (j : Int) < l.length := by omega
      have hRr := h.below hbel
      obtain ⟨b, off, rfl, hb, hx⟩ := hRr.items hlt
      have hxi := (hx j hlt).1
      have hst := Lib.hid (byKeys_take l j hlt)
      have hle := byKeys_len (l.take j)
      rw [List.length_take] at hle
      clear hx hb
      have hRo := Rd.of_own hown
      generalize byKeysL (l.take j) = L at *
      go_wp2_with fail
      refine (put25_any A' _ c' L l[j] _ hRo (by omega)).mono ?_
      rintro e w1 ⟨A2, c2, rfl, hown2, hb2⟩
      have hbel2 := bel_call hbel hb2
      have hown3 := own_low hown2 hbel.size
      clear hRo hown hown2 hb2 hbel hxi hRr
      go_wp2
      go_roundw
      case rel => exact ⟨j + 1, A2, c2, by omega, by go_num, by rw [hst.out], by rw [hst.out]; exact hown3, hbel2⟩
      case measure => simp [intOf]; omega
    · obtain rfl : j = l.length := by omega
      rw [List.take_length] at hown ⊢
      go_wp2
      go_ret
      exact ⟨A', c', rfl, hown, hbel⟩

theorem flatC_take (l : List Ch) (k : Nat) (h : k < l.length) : (l.take (k + 1)).flatMap cC = (l.take k).flatMap cC ++ cC l[k] := flat_take cC l k h

end Go.Proofs.Ytgfoaopfdpclhaa
