/-
  The document's changes behind changes; are changes few and short?
-/
import Derived.Test.YtdefpphfbpkeaaaRefThen
import Derived.Test.YtdefpphfbpkeaaaDiffThree
namespace Go.Proofs.Ytdefpphfbpkeaaa
open Go.RowKit
set_option linter.unusedVariables false

def nkC (x : Ch) : It := noneI x.o.k
def keysT (l m : List Ch) : List It := byKeysL (l.map nkC ++ m.map nkC)
theorem keysL_nk (l : List Ch) : keysL (l.map nkC) = okeys l := by unfold keysL okeys; rw [List.map_map]; rfl
theorem keysT_ok {l m : List Ch} (hl : checkL l = 0) (hm : checkL m = 0) : thenL l m = thenKeys l m (keysL (keysT l m)) := by
  have r1 := (checkL_ok.1 hl).2
  have r2 := (checkL_ok.1 hm).2
  have hn : (okeys l).length + (okeys m).length ≤ l.length + m.length := by simp [okeys]
  unfold thenL
  rw [then_keys _ _ _ (Nat.le_refl _) r1 r2, ris_ext (mgK_ris _ _ _ hn r1 r2) (byKeys_ris (l.map nkC ++ m.map nkC))]
  · rfl
  · intro k
    rw [mgK_mem _ _ _ hn, byKeys_mem]
    unfold keysL
    rw [List.map_append, List.mem_append]
    have e1 := keysL_nk l
    have e2 := keysL_nk m
    unfold keysL at e1 e2
    rw [e1, e2]
theorem keysT_mem {l m : List Ch} {j : Nat} (hj : j < (keysT l m).length) : atC l (keysT l m)[j].k ≠ none ∨ atC m (keysT l m)[j].k ≠ none := by
  have h : (keysT l m)[j].k ∈ keysL (keysT l m) := List.mem_map.2 ⟨_, List.getElem_mem hj, rfl⟩
  unfold keysT at h
  rw [byKeys_mem] at h
  unfold keysL at h
  rw [List.map_append, List.mem_append] at h
  have key : ∀ (l : List Ch) k, k ∈ (l.map nkC).map (·.k) → atC l k ≠ none := by
    intro l k hk
    rw [List.map_map] at hk
    obtain ⟨x, hx, rfl⟩ := List.mem_map.1 hk
    unfold atC
    intro he
    rw [List.find?_eq_none] at he
    have := he x hx
    simp [nkC, noneI] at this
  rcases h with h | h
  · exact .inl (key l _ h)
  · exact .inr (key m _ h)
theorem atC_key {l : List Ch} {k : Ky} {x : Ch} (h : atC l k = some x) : x.o.k = k ∧ x ∈ l := by
  unfold atC at h
  exact ⟨by have := List.find?_some h; simpa using this, List.mem_of_find?_eq_some h⟩
/-- What 'change' answers at two changes of one key that follow one another. -/
def ChgPost (z : List Ch) (w : World) (e : Ending) (w' : World) : Prop := ∃ c, e = .returned (.tuple #[vC c, .bool (!z.isEmpty)]) ∧ (z = [] ∨ z = [c]) ∧ Below w.heap.size w w'
theorem change_gen (x y : Ch) (z : List Ch) (w : World) (hx : rightB x = true) (hy : rightB y = true) (hk : x.o.k = y.o.k) (hj : joinL x y = some z) :
    Calls Try.prog 44 #[vK x.o.k, vI x.o, .bool (x.kd != 1), vI y.n, .bool (y.kd != 2)] w (ChgPost z w) := by
  unfold joinL at hj
  split at hj
  · cases hj
  · by_cases h1 : x.kd = 1
    · have ex : x.o = noneI x.o.k := by
        unfold rightB at hx
        rw [if_pos h1] at hx
        simp at hx
        exact hx.2
      rw [show (x.kd != 1) = false by simp [h1]]
      by_cases h2 : y.kd = 2
      · rw [if_pos ⟨h1, h2⟩] at hj
        injection hj with hj
        subst hj
        rw [show (y.kd != 2) = false by simp [h2]]
        exact (change_nn _ _ _ w).mono fun e w' ⟨he, hb⟩ => ⟨_, he, .inl rfl, hb⟩
      · rw [if_neg (fun h => h2 h.2), if_pos h1] at hj
        injection hj with hj
        subst hj
        rw [show (y.kd != 2) = true by simp [h2]]
        exact (change_ns _ _ _ w).mono fun e w' ⟨he, hb⟩ => ⟨_, he, .inr (by rw [← ex]), hb⟩
    · rw [show (x.kd != 1) = true by simp [h1]]
      rw [if_neg (fun h => h1 h.1), if_neg h1] at hj
      by_cases h2 : y.kd = 2
      · have ey : y.n = noneI x.o.k := by
          unfold rightB at hy
          rw [if_neg (by omega), if_pos h2] at hy
          simp at hy
          rw [hk]
          exact hy.2
        rw [if_pos h2] at hj
        injection hj with hj
        subst hj
        rw [show (y.kd != 2) = false by simp [h2]]
        exact (change_sn _ _ _ w).mono fun e w' ⟨he, hb⟩ => ⟨_, he, .inr (by rw [← ey]), hb⟩
      · rw [show (y.kd != 2) = true by simp [h2]]
        rw [if_neg h2] at hj
        by_cases he : x.o = y.n
        · rw [if_pos he] at hj
          injection hj with hj
          subst hj
          exact (change_ss _ _ _ w).mono fun e w' hh => ⟨⟨3, x.o, y.n⟩, by rw [hh.1]; simp [he], .inl rfl, hh.2⟩
        · rw [if_neg he] at hj
          injection hj with hj
          subst hj
          exact (change_ss _ _ _ w).mono fun e w' hh => ⟨⟨3, x.o, y.n⟩, by rw [hh.1]; simp [he], .inr rfl, hh.2⟩
theorem join_bad1 {x y : Ch} (h : ((x.kd == 2) != (y.kd == 1)) = true) : joinL x y = none := by
  unfold joinL; rw [if_pos]; rw [Bool.or_eq_true]; exact .inl h
theorem join_bad2 {x y : Ch} (h : decide (x.n = y.o) = false) : joinL x y = none := by
  unfold joinL; rw [if_pos]; rw [Bool.or_eq_true]; exact .inr (by rw [h]; rfl)
theorem join_good {x y : Ch} (h : ((x.kd == 2) != (y.kd == 1)) = false) (h2 : decide (x.n = y.o) = true) : ∃ z, joinL x y = some z := by
  unfold joinL
  rw [if_neg]
  · repeat' split
    all_goals exact ⟨_, rfl⟩
  · rw [h2]; simp only [Bool.not_true, Bool.or_false]
    intro e
    have : ((x.kd == 2) != (y.kd == 1)) = true := e
    rw [h] at this; cases this

def lightC (x : Ch) : Bool := lightL 30 [x.o, x.n]
def fewL (l : List Ch) : Bool := decide (l.length ≤ 30) && l.all lightC
theorem rd_two (w : World) (x y : It) (t : TypeId) : Rd (w.alloc (.cells (cI x ++ cI y).toArray t)) 11 (.slice (some ⟨w.heap.size, 0, none⟩) 2 2) 2 ([x, y].flatMap cI) := by
  refine ⟨by simp, _, _, rfl, Nat.le_refl _, by simp [maxLen], .inr ⟨_, _, rfl, by simp, fun j hj => ?_⟩⟩
  rw [Nat.zero_add, cell_of_row _ w.heap.size j _ t (0, 0) (heap_alloc_new w _)]
  simp
theorem allc_step {p : Ch → Bool} {l : List Ch} {k : Nat} (h : k < l.length) : (l.take (k + 1)).all p = ((l.take k).all p && p l[k]) := by
  rw [List.take_succ_eq_append_getElem h, List.all_append]; simp
theorem allc_bad {p : Ch → Bool} {l : List Ch} {k : Nat} (h : k < l.length) (hp : p l[k] = false) : l.all p = false := by
  rw [List.all_eq_false]
  exact ⟨l[k], List.getElem_mem h, by simp [hp]⟩
set_option maxHeartbeats 2000000 in
theorem few_any (A : Option Addr) (n c : Nat) (l : List Ch) (w : World) (h : Rd w 23 (.slice A n c) n (l.flatMap cC)) :
    Calls Try.prog 19 #[.slice A n c] w fun e w' => e = .returned (.bool (fewL l)) ∧ Below w.heap.size w w' := by
  have hl := h.rows (sz := 23) (f := cC) (fun q => rfl) (by decide)
  have hcap := h.cap
  unfold maxLen at hcap
  obtain ⟨hca, hcb⟩ := hcap
  subst hl
  by_cases hbig : 30 < l.length
  · have hbi : (30 : Int) < l.length := by omega
    go_enter Try.func19, Try.ntmps19
    go_wp2
    go_ret
    exact ⟨ret_bool (by unfold fewL; rw [decide_eq_false (by omega)]; rfl), Below.refl _ _⟩
  have hbi : (l.length : Int) ≤ 30 := by omega
  have hfin := Lib.hid (show fewL l = l.all lightC by unfold fewL; rw [decide_eq_true (by omega)]; rfl)
  go_enter Try.func19, Try.ntmps19
  go_wp2
  go_loopw [3] (fun i wr => ∃ k : Nat, k ≤ l.length ∧ i = .int .i64 k ∧ Hid ((l.take k).all lightC = true) ∧ Below w.heap.size w wr) (fun i _ => l.length - (intOf i).toNat)
  case atStart => exact ⟨0, Nat.zero_le _, rfl, rfl, Below.refl _ _⟩
  case round =>
    obtain ⟨k, hk, rfl, hall, hbel⟩ := hrel
    by_cases hlt : k < l.length
    · have hki : (k : Int) < l.length := by omega
      have hk0 : (0 : Int) ≤ (k : Int) := by omega
      obtain ⟨b, off, rfl, hb, hx⟩ := (h.below hbel).changes hlt
      obtain ⟨_, q1, q2, _, _⟩ := ch_parts (hx k hlt)
      clear hx
      have hstep := Lib.hid (allc_step (p := lightC) hlt)
      have hbad := Lib.hid (allc_bad (p := lightC) hlt)
      have hbelD := hbel.drew
      go_wp2
      go_region_held3 (fun w' => itAt w' b (off + k * 23 + 1) = some l[k].o ∧ itAt w' b (off + k * 23 + 12) = some l[k].n) (first | exact ⟨it_drew q1, it_drew q2⟩ | exact ⟨itAt_later (it_drew q1) (bel_alloc (Below.refl _ _) _), itAt_later (it_drew q2) (bel_alloc (Below.refl _ _) _)⟩ | exact ⟨itAt_later (itAt_later (it_drew q1) (bel_alloc (Below.refl _ _) _)) hb3, itAt_later (itAt_later (it_drew q2) (bel_alloc (Below.refl _ _) _)) hb3⟩) (first | (go_at_call 11; refine (light47_any _ _ _ [l[k].o, l[k].n] _ (rd_two wr.drew _ _ _)).mono ?_; rintro e w3 ⟨rfl, hb3⟩))
      have hB3 := bel_call (bel_alloc hbelD _) hb3
      clear hb3 hbelD hbel q1 q2 hb
      cases hp : lightL 30 [l[k].o, l[k].n] with
      | true =>
        have hp' : Hid (lightC l[k] = true) := hp
        clear hp
        go_wp2
        go_roundw
        case rel => exact ⟨k + 1, by omega, by go_num, by show _ = _; rw [hstep.out, hall.out, hp'.out]; rfl, hB3⟩
        case measure => simp [intOf]; omega
      | false =>
        have hp' : Hid (lightC l[k] = false) := hp
        clear hp
        go_wp2
        go_ret
        exact ⟨ret_bool (by rw [hfin.out, hbad.out hp'.out]), hB3⟩
    · obtain rfl : k = l.length := by omega
      have hf := Lib.hid (show l.all lightC = true by have := hall.out; rwa [List.take_length] at this)
      go_wp2
      go_ret
      exact ⟨ret_bool (by rw [hfin.out, hf.out]), hbel⟩
end Go.Proofs.Ytdefpphfbpkeaaa
