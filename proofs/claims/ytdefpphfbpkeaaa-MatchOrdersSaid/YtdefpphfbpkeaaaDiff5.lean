/-
  Items by keys; changes: whether two lists are the same, copies of them.
-/
import Derived.Test.YtdefpphfbpkeaaaDiff4
namespace Go.Proofs.Ytdefpphfbpkeaaa
open Go.RowKit
set_option linter.unusedVariables false

theorem two_filters {α : Type} (p q : α → Bool) (h : ∀ x, p x = true → q x = false) : ∀ l : List α, (l.filter p).length + (l.filter q).length ≤ l.length
  | [] => by simp
  | x :: l => by
    have ih := two_filters p q h l
    rw [List.filter_cons, List.filter_cons]
    cases hp : p x with
    | true => rw [h x hp]; simp; omega
    | false => cases hq : q x <;> simp <;> omega
theorem put_len (l : List It) (x : It) : (putI l x).length ≤ l.length + 1 := by
  have := two_filters (fun y : It => lessK y.k x.k) (fun y : It => lessK x.k y.k) (fun y h => lessK_asym h) l
  unfold putI
  simp only [List.length_append, List.length_cons, List.length_nil]
  omega
theorem foldl_put_len : ∀ (m l : List It), (m.foldl putI l).length ≤ l.length + m.length
  | [], l => by simp
  | x :: m, l => by
    have := foldl_put_len m (putI l x)
    have := put_len l x
    rw [List.foldl_cons, List.length_cons]
    omega
theorem byKeys_len (l : List It) : (byKeysL l).length ≤ l.length := by have := foldl_put_len l []; unfold byKeysL; simpa using this
theorem byKeys_take (l : List It) (j : Nat) (h : j < l.length) : byKeysL (l.take (j + 1)) = putI (byKeysL (l.take j)) l[j] := by
  rw [List.take_succ_eq_append_getElem h]; unfold byKeysL; rw [List.foldl_append]; rfl

set_option maxHeartbeats 1000000 in
theorem byKeys_any (A : Option Addr) (n c : Nat) (l : List It) (w : World) (h : Rd w 11 (.slice A n c) n (l.flatMap cI)) (hn : n ≤ 50000) :
    Calls Try.prog 23 #[.slice A n c] w fun e w' => ∃ A' c', e = .returned (.slice A' (byKeysL l).length c') ∧ w'.ownsRow w.heap.size 51 11 (.slice A' (byKeysL l).length c') (byKeysL l).length ((byKeysL l).flatMap cI) ∧ Below w.heap.size w w' := by
  have hl := h.rows (sz := 11) (f := cI) (fun q => rfl) (by decide)
  have hcap := h.cap
  unfold maxLen at hcap
  obtain ⟨hca, hcb⟩ := hcap
  subst hl
  go_enter Try.func23, Try.ntmps23
  go_wp2
  go_loopw [3, 4] (fun v i wr => ∃ j A' c', j ≤ l.length ∧ i = .int .i64 (j : Nat) ∧ v = .slice A' (byKeysL (l.take j)).length c' ∧ wr.ownsRow w.heap.size 51 11 (.slice A' (byKeysL (l.take j)).length c') (byKeysL (l.take j)).length ((byKeysL (l.take j)).flatMap cI) ∧ Below w.heap.size w wr) (fun _ i _ => l.length - (intOf i).toNat)
  case atStart => exact ⟨0, _, _, Nat.zero_le _, rfl, rfl, World.ownsRow_lit w #[] 0 (Nat.le_refl _) (by unfold maxLen; omega) rfl, bel_alloc (Below.refl _ _) _⟩
  case round =>
    obtain ⟨j, A', c', hj, rfl, rfl, hown, hbel⟩ := hrel
    by_cases hlt : j < l.length
    · have hji : (j : Int) < l.length := by omega
      have hRr := h.below hbel
      obtain ⟨b, off, rfl, hb, hx⟩ := hRr.items hlt
      have hxi := (hx j hlt).1
      have hst := Lib.hid (byKeys_take l j hlt)
      have hle := byKeys_len (l.take j)
      rw [List.length_take] at hle
      clear hx hb
      have hRo := Rd.of_own hown
      generalize byKeysL (l.take j) = L at *
      go_wp2_with fail
      refine (put25_any A' _ c' L l[j] _ hRo (by omega)).mono ?_
      rintro e w1 ⟨A2, c2, rfl, hown2, hb2⟩
      have hbel2 := bel_call hbel hb2
      have hown3 := own_low hown2 hbel.size
      clear hRo hown hown2 hb2 hbel hxi hRr
      go_wp2
      go_roundw
      case rel => exact ⟨j + 1, A2, c2, by omega, by go_num, by rw [hst.out], by rw [hst.out]; exact hown3, hbel2⟩
      case measure => simp [intOf]; omega
    · obtain rfl : j = l.length := by omega
      rw [List.take_length] at hown ⊢
      go_wp2
      go_ret
      exact ⟨A', c', rfl, hown, hbel⟩

set_option maxHeartbeats 1000000 in
theorem same47_any (A1 A2 : Option Addr) (n1 c1 n2 c2 : Nat) (l1 l2 : List Ch) (w : World) (h1 : Rd w 23 (.slice A1 n1 c1) n1 (l1.flatMap cC)) (h2 : Rd w 23 (.slice A2 n2 c2) n2 (l2.flatMap cC)) :
    Calls Try.prog 15 #[.slice A1 n1 c1, .slice A2 n2 c2] w fun e w' => e = .returned (.bool (decide (l1 = l2))) ∧ Below w.heap.size w w' := by
  have hl1 := h1.rows (sz := 23) (f := cC) (fun q => rfl) (by decide)
  have hl2 := h2.rows (sz := 23) (f := cC) (fun q => rfl) (by decide)
  have hcap1 := h1.cap
  have hcap2 := h2.cap
  unfold maxLen at hcap1 hcap2
  obtain ⟨hca1, hcb1⟩ := hcap1
  obtain ⟨hca2, hcb2⟩ := hcap2
  subst hl1 hl2
  by_cases hne : l1.length = l2.length
  · have hne1 : ((l1.length : Int) != l2.length) = false := by rw [bne_eq_false_iff_eq]; omega
    have hle : l1.length ≤ l2.length ∧ l2.length ≤ l1.length := by omega
    have hE := Lib.hid hne
    clear hne
    obtain ⟨hle1, hle2⟩ := hle
    go_enter Try.func15, Try.ntmps15
    go_wp2
    go_loopw [5] (fun i wr => ∃ k : Nat, k ≤ l1.length ∧ i = .int .i64 k ∧ Below w.heap.size w wr ∧ Hid (∀ j (hj : j < l1.length) (hj' : j < l2.length), j < k → l1[j] = l2[j])) (fun i _ => l1.length - (intOf i).toNat)
    case atStart => exact ⟨0, Nat.zero_le _, rfl, Below.refl _ _, fun j _ _ hj => absurd hj (by omega)⟩
    case round =>
      obtain ⟨k, hk, rfl, hbel, hall⟩ := hrel
      by_cases hlt : k < l1.length
      · have hlt2 : k < l2.length := by omega
        have hlti : (k : Int) < l1.length := by omega
        have hlti2 : (k : Int) < l2.length := by omega
        obtain ⟨b1, o1, rfl, hb1, hx1⟩ := (h1.below hbel).changes hlt
        obtain ⟨b2, o2, rfl, hb2, hx2⟩ := (h2.below hbel).changes hlt2
        have hxa := hx1 k hlt
        have hxb := hx2 k hlt2
        clear hx1 hx2
        go_wp2
        by_cases he : l1[k] = l2[k]
        · have heb : decide (l1[k] = l2[k]) = true := decide_eq_true he
          have hS := Lib.hid he
          clear he
          go_quiet (fail)
          have hbel' := below_drews hbel nq
          clear hxa hxb hb1 hb2 hbel
          generalize wr.drewN nq = wq at *
          go_wp2
          go_roundw
          case rel => exact ⟨k + 1, by omega, by go_num, hbel', fun j hj hj' hjk => by
            by_cases e : j = k
            · subst e; exact hS.out
            · exact hall.out j hj hj' (by omega)⟩
          case measure => simp [intOf]; omega
        · have heb : decide (l1[k] = l2[k]) = false := decide_eq_false he
          have hD : Hid (¬ l1 = l2) := fun e => he (by subst e; rfl)
          clear he
          go_quiet (fail)
          have hbel' := below_drews hbel nq
          clear hxa hxb hb1 hb2 hbel
          generalize wr.drewN nq = wq at *
          go_wp2
          go_ret
          exact ⟨ret_bool (decide_eq_false hD.out).symm, hbel'⟩
      · obtain rfl : k = l1.length := by omega
        go_wp2
        go_ret
        exact ⟨ret_bool (decide_eq_true (List.ext_getElem hE.out fun j a b => hall.out j a b a)).symm, hbel⟩
  · have hne1 : ((l1.length : Int) != l2.length) = true := by rw [bne_iff_ne]; omega
    go_enter Try.func15, Try.ntmps15
    go_wp2
    go_ret
    refine ⟨ret_bool (Eq.symm (decide_eq_false ?_)), Below.refl _ _⟩
    intro e
    exact hne (by rw [e])
theorem flatC_take (l : List Ch) (k : Nat) (h : k < l.length) : (l.take (k + 1)).flatMap cC = (l.take k).flatMap cC ++ cC l[k] := flat_take cC l k h

set_option maxHeartbeats 1000000 in
theorem back47_any (A : Option Addr) (n c : Nat) (l : List Ch) (w : World) (h : Rd w 23 (.slice A n c) n (l.flatMap cC)) (hn : n ≤ 100000) :
    Calls Try.prog 16 #[.slice A n c] w fun e w' => ∃ A' c', e = .returned (.slice A' n c') ∧ w'.ownsRow w.heap.size 54 23 (.slice A' n c') n (l.flatMap cC) ∧ Below w.heap.size w w' := by
  obtain ⟨i0, hi, hz0, hz1, hz2⟩ := info_parts Try.infoD
  have hl := h.rows (sz := 23) (f := cC) (fun q => rfl) (by decide)
  have hcap := h.cap
  unfold maxLen at hcap
  obtain ⟨hca, hcb⟩ := hcap
  subst hl
  go_enter Try.func16, Try.ntmps16
  go_wp2
  go_loopw [3, 4] (fun v i wr => ∃ k : Nat, k ≤ l.length ∧ i = .int .i64 k ∧ wr.ownsRow w.heap.size 54 23 v k ((l.take k).flatMap cC) ∧ Below w.heap.size w wr) (fun _ i _ => l.length - (intOf i).toNat)
  case atStart => exact ⟨0, Nat.zero_le _, rfl, World.ownsRow_lit w #[] 0 (Nat.le_refl _) (by unfold maxLen; omega) rfl, bel_alloc (Below.refl _ _) _⟩
  case round =>
    obtain ⟨k, hk, rfl, hown, hbel⟩ := hrel
    by_cases hlt : k < l.length
    · have hki : (k : Int) < l.length := by omega
      obtain ⟨b, off, rfl, hb, hx⟩ := (h.below hbel).changes hlt
      have hxi := hx k hlt
      have hsn := Lib.hid (flat_take cC l k hlt)
      have hszr := hbel.size
      clear hx hb
      go_wp2_with (at_builtin; refine wpList_push_at rfl _ _ 30 rfl w.heap.size 54 i0 (vC ⟨0, noneI k0, noneI k0⟩) 23 200 (by kernel_rfl) hi hz0 hz1 hz2 rfl (by decide) _ _ _ rfl hown _ _ rfl rfl (by simp) (cC_one _) ?c1 ?c2 hszr hbel ?_)
      case c1 => unfold maxLen; omega
      case c2 => omega
      intro v' w' hown' hg hm hbel' hsz'
      clear hown hxi hg hm hbel
      go_wp2
      go_roundw
      case rel => exact ⟨k + 1, by omega, by go_num, by rw [hsn.out]; exact hown', hbel'⟩
      case measure => simp [intOf]; omega
    · obtain rfl : k = l.length := by omega
      rw [List.take_length] at hown
      go_wp2
      go_ret
      obtain ⟨A3, c3, rfl⟩ := own_form hown
      exact ⟨A3, c3, rfl, hown, hbel⟩

set_option maxHeartbeats 1000000 in
theorem own47_any (A : Option Addr) (n c : Nat) (l : List Ch) (w : World) (h : Rd w 23 (.slice A n c) n (l.flatMap cC)) (hn : n ≤ 100000) :
    Calls Try.prog 21 #[.slice A n c] w fun e w' => ∃ A' c', e = .returned (.slice A' n c') ∧ w'.ownsRow w.heap.size 53 23 (.slice A' n c') n (l.flatMap cC) ∧ Below w.heap.size w w' := by
  obtain ⟨i0, hi, hz0, hz1, hz2⟩ := info_parts Try.infoC
  have hl := h.rows (sz := 23) (f := cC) (fun q => rfl) (by decide)
  have hcap := h.cap
  unfold maxLen at hcap
  obtain ⟨hca, hcb⟩ := hcap
  subst hl
  go_enter Try.func21, Try.ntmps21
  go_wp2
  go_loopw [3, 4] (fun v i wr => ∃ k : Nat, k ≤ l.length ∧ i = .int .i64 k ∧ wr.ownsRow w.heap.size 53 23 v k ((l.take k).flatMap cC) ∧ Below w.heap.size w wr) (fun _ i _ => l.length - (intOf i).toNat)
  case atStart => exact ⟨0, Nat.zero_le _, rfl, World.ownsRow_lit w #[] 0 (Nat.le_refl _) (by unfold maxLen; omega) rfl, bel_alloc (Below.refl _ _) _⟩
  case round =>
    obtain ⟨k, hk, rfl, hown, hbel⟩ := hrel
    by_cases hlt : k < l.length
    · have hki : (k : Int) < l.length := by omega
      obtain ⟨b, off, rfl, hb, hx⟩ := (h.below hbel).changes hlt
      have hxi := hx k hlt
      have hsn := Lib.hid (flat_take cC l k hlt)
      have hszr := hbel.size
      clear hx hb
      go_wp2_with (at_builtin; refine wpList_push_at rfl _ _ 25 rfl w.heap.size 53 i0 (vC ⟨0, noneI k0, noneI k0⟩) 23 200 (by kernel_rfl) hi hz0 hz1 hz2 rfl (by decide) _ _ _ rfl hown _ _ rfl rfl (by simp) (cC_one _) ?c1 ?c2 hszr hbel ?_)
      case c1 => unfold maxLen; omega
      case c2 => omega
      intro v' w' hown' hg hm hbel' hsz'
      clear hown hxi hg hm hbel
      go_wp2
      go_roundw
      case rel => exact ⟨k + 1, by omega, by go_num, by rw [hsn.out]; exact hown', hbel'⟩
      case measure => simp [intOf]; omega
    · obtain rfl : k = l.length := by omega
      rw [List.take_length] at hown
      go_wp2
      go_ret
      obtain ⟨A3, c3, rfl⟩ := own_form hown
      exact ⟨A3, c3, rfl, hown, hbel⟩
end Go.Proofs.Ytdefpphfbpkeaaa
