/-
  Copies of rows of pairs; whether they are light.
-/
import Derived.Test.YtonohkckflgcbaaHeader4
namespace Go.Proofs.Ytonohkckflgcbaa
open Go.RowKit
set_option linter.unusedVariables false

theorem cellsP_take (l : List (List UInt8 × List UInt8)) (k : Nat) (h : k < l.length) : cellsP (l.take (k + 1)) = cellsP (l.take k) ++ [strV l[k].1, strV l[k].2] := by
  rw [List.take_succ_eq_append_getElem h, cellsP_snoc]

set_option maxHeartbeats 1000000 in
theorem back_any (A : Option Addr) (n c : Nat) (l : List (List UInt8 × List UInt8)) (w : World) (h : Rd w 2 (.slice A n c) n (cellsP l)) (hn : n ≤ 4294967296) :
    Calls Try.prog 15 #[.slice A n c] w fun e w' => ∃ A' c', e = .returned (.slice A' n c') ∧ w'.ownsRow w.heap.size 29 2 (.slice A' n c') n (cellsP l) ∧ Below w.heap.size w w' := by
  obtain ⟨i0, hi, hz0, hz1, hz2⟩ := info_parts Try.infoQ29
  have hl := h.len
  have hcap := h.cap
  unfold maxLen at hcap
  obtain ⟨hca, hcb⟩ := hcap
  subst hl
  go_enter Try.func15, Try.ntmps15
  go_wp2
  go_loopw [3, 4] (fun v i wr => ∃ k : Nat, k ≤ l.length ∧ i = .int .i64 k ∧ wr.ownsRow w.heap.size 29 2 v k (cellsP (l.take k)) ∧ Below w.heap.size w wr) (fun _ i _ => l.length - (intOf i).toNat)
  case atStart => exact ⟨0, Nat.zero_le _, rfl, World.ownsRow_lit w #[] 0 (Nat.le_refl _) (by unfold maxLen; omega) rfl, bel_alloc (Below.refl _ _) _⟩
  case round =>
    obtain ⟨k, hk, rfl, hown, hbel⟩ := hrel
    by_cases hlt : k < l.length
    · have hki : (k : Int) < l.length := by omega
      obtain ⟨b, off, rfl, hb, hx⟩ := (h.below hbel).pairs hlt
      obtain ⟨hxa, hxb⟩ := hx k hlt
      have hsn := Lib.hid (cellsP_take l k hlt)
      have hszr := hbel.size
      clear hx
      go_wp2_with (at_builtin; refine wpList_push rfl _ _ 30 rfl w.heap.size 29 i0 (.agg #[.string ByteArray.empty, .string ByteArray.empty]) 2 32 Try.underlying30 hi hz0 hz1 hz2 rfl (by decide) _ _ _ rfl hown _ _ rfl rfl rfl ?c1 ?c2 ?c3 hszr hbel ?_)
      case c1 => exact ⟨rfl, rfl⟩
      case c2 => unfold maxLen; omega
      case c3 => omega
      intro v' w' hown' hg hbel' hsz'
      go_wp2
      go_roundw
      case rel => exact ⟨k + 1, by omega, by go_num, by rw [hsn.out]; exact hown', hbel'⟩
      case measure => simp [intOf]; omega
    · obtain rfl : k = l.length := by omega
      rw [List.take_length] at hown
      go_wp2
      go_ret
      obtain ⟨A3, c3, rfl⟩ := own_form hown
      exact ⟨A3, c3, rfl, hown, hbel⟩

set_option maxHeartbeats 1000000 in
theorem own12_any (A : Option Addr) (n c : Nat) (l : List (List UInt8 × List UInt8)) (w : World) (h : Rd w 2 (.slice A n c) n (cellsP l)) (hn : n ≤ 4294967296) :
    Calls Try.prog 18 #[.slice A n c] w fun e w' => ∃ A' c', e = .returned (.slice A' n c') ∧ w'.ownsRow w.heap.size 24 2 (.slice A' n c') n (cellsP l) ∧ Below w.heap.size w w' := by
  obtain ⟨i0, hi, hz0, hz1, hz2⟩ := info_parts Try.infoP24
  have hl := h.len
  have hcap := h.cap
  unfold maxLen at hcap
  obtain ⟨hca, hcb⟩ := hcap
  subst hl
  go_enter Try.func18, Try.ntmps18
  go_wp2
  go_loopw [3, 4] (fun v i wr => ∃ k : Nat, k ≤ l.length ∧ i = .int .i64 k ∧ wr.ownsRow w.heap.size 24 2 v k (cellsP (l.take k)) ∧ Below w.heap.size w wr) (fun _ i _ => l.length - (intOf i).toNat)
  case atStart => exact ⟨0, Nat.zero_le _, rfl, World.ownsRow_lit w #[] 0 (Nat.le_refl _) (by unfold maxLen; omega) rfl, bel_alloc (Below.refl _ _) _⟩
  case round =>
    obtain ⟨k, hk, rfl, hown, hbel⟩ := hrel
    by_cases hlt : k < l.length
    · have hki : (k : Int) < l.length := by omega
      obtain ⟨b, off, rfl, hb, hx⟩ := (h.below hbel).pairs hlt
      obtain ⟨hxa, hxb⟩ := hx k hlt
      have hsn := Lib.hid (cellsP_take l k hlt)
      have hszr := hbel.size
      clear hx
      go_wp2_with (at_builtin; refine wpList_push rfl _ _ 25 rfl w.heap.size 24 i0 (.agg #[.string ByteArray.empty, .string ByteArray.empty]) 2 32 Try.underlying25 hi hz0 hz1 hz2 rfl (by decide) _ _ _ rfl hown _ _ rfl rfl rfl ?c1 ?c2 ?c3 hszr hbel ?_)
      case c1 => exact ⟨rfl, rfl⟩
      case c2 => unfold maxLen; omega
      case c3 => omega
      intro v' w' hown' hg hbel' hsz'
      go_wp2
      go_roundw
      case rel => exact ⟨k + 1, by omega, by go_num, by rw [hsn.out]; exact hown', hbel'⟩
      case measure => simp [intOf]; omega
    · obtain rfl : k = l.length := by omega
      rw [List.take_length] at hown
      go_wp2
      go_ret
      obtain ⟨A3, c3, rfl⟩ := own_form hown
      exact ⟨A3, c3, rfl, hown, hbel⟩

/-- Are pairs few and short? -/
def lightP (p : List UInt8 × List UInt8) : Bool := decide (p.1.length ≤ 300) && decide (p.2.length ≤ 1100)
def lightB (l : List (List UInt8 × List UInt8)) : Bool := decide (l.length ≤ 40) && l.all lightP
theorem all_take_step {α : Type} {p : α → Bool} {l : List α} {k : Nat} (h : k < l.length) : (l.take (k + 1)).all p = ((l.take k).all p && p l[k]) := by
  rw [List.take_succ_eq_append_getElem h, List.all_append]; simp
theorem all_bad {α : Type} {p : α → Bool} {l : List α} {k : Nat} (h : k < l.length) (hp : p l[k] = false) : l.all p = false := by
  rw [List.all_eq_false]
  exact ⟨l[k], List.getElem_mem h, by simp [hp]⟩

set_option maxHeartbeats 1000000 in
theorem light12_any (A : Option Addr) (n c : Nat) (l : List (List UInt8 × List UInt8)) (w : World) (h : Rd w 2 (.slice A n c) n (cellsP l)) :
    Calls Try.prog 16 #[.slice A n c] w fun e w' => e = .returned (.bool (lightB l)) ∧ Below w.heap.size w w' := by
  have hl := h.len
  have hcap := h.cap
  unfold maxLen at hcap
  obtain ⟨hca, hcb⟩ := hcap
  subst hl
  by_cases hbig : 40 < l.length
  · go_enter Try.func16, Try.ntmps16
    go_wp2
    go_ret
    exact ⟨ret_bool (by unfold lightB; rw [decide_eq_false (by omega)]; rfl), Below.refl _ _⟩
  have hbi : (l.length : Int) ≤ 40 := by omega
  have hfin := Lib.hid (show lightB l = l.all lightP by unfold lightB; rw [decide_eq_true (by omega)]; rfl)
  go_enter Try.func16, Try.ntmps16
  go_wp2
  go_loopw [3] (fun i wr => ∃ k : Nat, k ≤ l.length ∧ i = .int .i64 k ∧ Hid ((l.take k).all lightP = true) ∧ Below w.heap.size w wr) (fun i _ => l.length - (intOf i).toNat)
  case atStart => exact ⟨0, Nat.zero_le _, rfl, rfl, Below.refl _ _⟩
  case round =>
    obtain ⟨k, hk, rfl, hall, hbel⟩ := hrel
    by_cases hlt : k < l.length
    · have hki : (k : Int) < l.length := by omega
      obtain ⟨b, off, rfl, hb, hx⟩ := (h.below hbel).pairs hlt
      obtain ⟨hxa, hxb⟩ := hx k hlt
      clear hx
      have hstep := Lib.hid (all_take_step (p := lightP) hlt)
      have hbad := Lib.hid (all_bad (p := lightP) hlt)
      by_cases h1 : 300 < l[k].1.length
      · have h1i : (300 : Int) < l[k].1.length := by omega
        have hp := Lib.hid (show lightP l[k] = false by unfold lightP; rw [decide_eq_false (by omega)]; rfl)
        go_wp2
        go_ret
        exact ⟨ret_bool (by rw [hfin.out, hbad.out hp.out]), hbel⟩
      · have h1i : decide ((300 : Int) < l[k].1.length) = false := decide_eq_false (by omega)
        by_cases h2 : 1100 < l[k].2.length
        · have h2i : (1100 : Int) < l[k].2.length := by omega
          have hp := Lib.hid (show lightP l[k] = false by unfold lightP; rw [decide_eq_false (by omega : ¬ l[k].2.length ≤ 1100), Bool.and_false])
          clear h1
          go_wp2
          go_ret
          exact ⟨ret_bool (by rw [hfin.out, hbad.out hp.out]), hbel⟩
        · have h2i : decide ((1100 : Int) < l[k].2.length) = false := decide_eq_false (by omega)
          have hp := Lib.hid (show lightP l[k] = true by unfold lightP; rw [decide_eq_true (by omega), decide_eq_true (by omega)]; rfl)
          clear h1 h2
          go_wp2
          go_roundw
          case rel => exact ⟨k + 1, by omega, by go_num, by show _ = _; rw [hstep.out, hall.out, hp.out]; rfl, hbel⟩
          case measure => simp [intOf]; omega
    · obtain rfl : k = l.length := by omega
      have hf := Lib.hid (show l.all lightP = true by have := hall.out; rwa [List.take_length] at this)
      go_wp2
      go_ret
      exact ⟨ret_bool (by rw [hfin.out, hf.out]), hbel⟩
end Go.Proofs.Ytonohkckflgcbaa
