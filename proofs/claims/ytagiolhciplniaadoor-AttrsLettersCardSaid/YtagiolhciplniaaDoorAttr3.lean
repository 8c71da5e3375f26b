/-
  Rows of pairs: what their cells hold; copies; whether they are light.
-/
import Derived.Test.YtagiolhciplniaaDoorAttr2
import Derived.Laws.StructEq
namespace Go.Proofs.YtagiolhciplniaaDoor
open Go.RowKit
set_option linter.unusedVariables false

/-- Pairs as cells. -/
def cellsP (l : List (List UInt8 × List UInt8)) : List Value := l.flatMap fun p => [strV p.1, strV p.2]
theorem cellsP_len (l : List (List UInt8 × List UInt8)) : (cellsP l).length = l.length * 2 := by
  induction l with
  | nil => rfl
  | cons p r ih =>
    have e : cellsP (p :: r) = strV p.1 :: strV p.2 :: cellsP r := rfl
    rw [e]
    simp only [List.length_cons]
    omega
theorem cellsP_snoc (l : List (List UInt8 × List UInt8)) (p : List UInt8 × List UInt8) : cellsP (l ++ [p]) = cellsP l ++ [strV p.1, strV p.2] := by
  simp [cellsP]
theorem cellsP_at (l : List (List UInt8 × List UInt8)) (k : Nat) (h : k < l.length) : (cellsP l)[k * 2]? = some (strV l[k].1) ∧ (cellsP l)[k * 2 + 1]? = some (strV l[k].2) := by
  induction l generalizing k with
  | nil => simp at h
  | cons p r ih =>
    cases k with
    | zero => exact ⟨rfl, rfl⟩
    | succ k =>
      have := ih k (by simpa using h)
      have e : cellsP (p :: r) = strV p.1 :: strV p.2 :: cellsP r := rfl
      rw [e, show (k + 1) * 2 = k * 2 + 1 + 1 by omega]
      simpa using this
theorem Tryd.infoP69 : (Tryd.prog.info? 69).map (fun i => (i.zero, i.size, i.bytes)) = some (some (.agg #[.string ByteArray.empty, .string ByteArray.empty]), 2, 32) := by kernel_rfl
theorem Tryd.infoQ53 : (Tryd.prog.info? 53).map (fun i => (i.zero, i.size, i.bytes)) = some (some (.agg #[.string ByteArray.empty, .string ByteArray.empty]), 2, 32) := by kernel_rfl

theorem Rd.len {w : World} {n c : Nat} {A : Option Addr} {l : List (List UInt8 × List UInt8)} (h : Rd w 2 (.slice A n c) n (cellsP l)) : l.length = n := by
  have := h.1
  rw [cellsP_len] at this
  omega
theorem Rd.pairs {w : World} {n c : Nat} {A : Option Addr} {l : List (List UInt8 × List UInt8)} (h : Rd w 2 (.slice A n c) n (cellsP l)) {k : Nat} (hk : k < l.length) :
    ∃ b off, A = some ⟨b, off, none⟩ ∧ b < w.heap.size ∧ ∀ j (hj : j < l.length), w.cell? ⟨b, off + j * 2, none⟩ = some (.string (S l[j].1)) ∧ w.cell? ⟨b, off + j * 2 + 1, none⟩ = some (.string (S l[j].2)) := by
  have hl := h.len
  obtain ⟨b, off, hA, hb, hc⟩ := h.at_ (by omega)
  refine ⟨b, off, hA, hb, fun j hj => ?_⟩
  have := cellsP_at l j hj
  refine ⟨?_, ?_⟩
  · rw [hc (j * 2) (by rw [cellsP_len]; omega), this.1]; rfl
  · rw [Nat.add_assoc, hc (j * 2 + 1) (by rw [cellsP_len]; omega), this.2]; rfl

theorem cellsP_take (l : List (List UInt8 × List UInt8)) (k : Nat) (h : k < l.length) : cellsP (l.take (k + 1)) = cellsP (l.take k) ++ [strV l[k].1, strV l[k].2] := by
  rw [List.take_succ_eq_append_getElem h, cellsP_snoc]

set_option maxHeartbeats 1000000 in
theorem own12_any (A : Option Addr) (n c : Nat) (l : List (List UInt8 × List UInt8)) (w : World) (h : Rd w 2 (.slice A n c) n (cellsP l)) (hn : n ≤ 4294967296) :
    Calls Tryd.prog 27 #[.slice A n c] w fun e w' => ∃ A' c', e = .returned (.slice A' n c') ∧ w'.ownsRow w.heap.size 69 2 (.slice A' n c') n (cellsP l) ∧ Below w.heap.size w w' := by
  obtain ⟨i0, hi, hz0, hz1, hz2⟩ := info_parts Tryd.infoP69
  have hl := h.len
  have hcap := h.cap
  unfold maxLen at hcap
  obtain ⟨hca, hcb⟩ := hcap
  subst hl
  go_enter Tryd.func27, Tryd.ntmps27
  go_wp2
  go_loopw [3, 4] (fun v i wr => ∃ k : Nat, k ≤ l.length ∧ i = .int .i64 k ∧ wr.ownsRow w.heap.size 69 2 v k (cellsP (l.take k)) ∧ Below w.heap.size w wr) (fun _ i _ => l.length - (intOf i).toNat)
  case atStart => exact ⟨0, Nat.zero_le _, rfl, World.ownsRow_lit w #[] 0 (Nat.le_refl _) (by unfold maxLen; omega) rfl, bel_alloc (Below.refl _ _) _⟩
  case round =>
    obtain ⟨k, hk, rfl, hown, hbel⟩ := hrel
    by_cases hlt : k < l.length
    · have hki : (k : Int) < l.length := by omega
      obtain ⟨b, off, rfl, hb, hx⟩ := (h.below hbel).pairs hlt
      obtain ⟨hxa, hxb⟩ := hx k hlt
      have hsn := Lib.hid (cellsP_take l k hlt)
      have hszr := hbel.size
      clear hx
      go_wp2_with (at_builtin; refine wpList_push rfl _ _ 45 rfl w.heap.size 69 i0 (.agg #[.string ByteArray.empty, .string ByteArray.empty]) 2 32 Tryd.underlying45 hi hz0 hz1 hz2 rfl (by decide) _ _ _ rfl hown _ _ rfl rfl rfl ?c1 ?c2 ?c3 hszr hbel ?_)
      case c1 => exact ⟨rfl, rfl⟩
      case c2 => unfold maxLen; omega
      case c3 => omega
      intro v' w' hown' hg hbel' hsz'
      go_wp2
      go_roundw
      case rel => exact ⟨k + 1, by omega, by go_num, by rw [hsn.out]; exact hown', hbel'⟩
      case measure => simp [intOf]; omega
    · obtain rfl : k = l.length := by omega
      rw [List.take_length] at hown
      go_wp2
      go_ret
      obtain ⟨A3, c3, rfl⟩ := own_form hown
      exact ⟨A3, c3, rfl, hown, hbel⟩

/-- Are pairs few and short? -/
def lightQ (p : List UInt8 × List UInt8) : Bool := decide (p.1.length ≤ 300) && decide (p.2.length ≤ 300)
def lightC (l : List (List UInt8 × List UInt8)) : Bool := decide (l.length ≤ 40) && l.all lightQ
theorem all_take_step {α : Type} {p : α → Bool} {l : List α} {k : Nat} (h : k < l.length) : (l.take (k + 1)).all p = ((l.take k).all p && p l[k]) := by
  rw [List.take_succ_eq_append_getElem h, List.all_append]; simp
theorem all_bad {α : Type} {p : α → Bool} {l : List α} {k : Nat} (h : k < l.length) (hp : p l[k] = false) : l.all p = false := by
  rw [List.all_eq_false]
  exact ⟨l[k], List.getElem_mem h, by simp [hp]⟩

set_option maxHeartbeats 1000000 in
theorem light13_any (A : Option Addr) (n c : Nat) (l : List (List UInt8 × List UInt8)) (w : World) (h : Rd w 2 (.slice A n c) n (cellsP l)) :
    Calls Tryd.prog 24 #[.slice A n c] w fun e w' => e = .returned (.bool (lightC l)) ∧ Below w.heap.size w w' := by
  have hl := h.len
  have hcap := h.cap
  unfold maxLen at hcap
  obtain ⟨hca, hcb⟩ := hcap
  subst hl
  by_cases hbig : 40 < l.length
  · go_enter Tryd.func24, Tryd.ntmps24
    go_wp2
    go_ret
    exact ⟨ret_bool (by unfold lightC; rw [decide_eq_false (by omega)]; rfl), Below.refl _ _⟩
  have hbi : (l.length : Int) ≤ 40 := by omega
  have hfin := Lib.hid (show lightC l = l.all lightQ by unfold lightC; rw [decide_eq_true (by omega)]; rfl)
  go_enter Tryd.func24, Tryd.ntmps24
  go_wp2
  go_loopw [3] (fun i wr => ∃ k : Nat, k ≤ l.length ∧ i = .int .i64 k ∧ Hid ((l.take k).all lightQ = true) ∧ Below w.heap.size w wr) (fun i _ => l.length - (intOf i).toNat)
  case atStart => exact ⟨0, Nat.zero_le _, rfl, rfl, Below.refl _ _⟩
  case round =>
    obtain ⟨k, hk, rfl, hall, hbel⟩ := hrel
    by_cases hlt : k < l.length
    · have hki : (k : Int) < l.length := by omega
      obtain ⟨b, off, rfl, hb, hx⟩ := (h.below hbel).pairs hlt
      obtain ⟨hxa, hxb⟩ := hx k hlt
      clear hx
      have hstep := Lib.hid (all_take_step (p := lightQ) hlt)
      have hbad := Lib.hid (all_bad (p := lightQ) hlt)
      by_cases h1 : 300 < l[k].1.length
      · have h1i : (300 : Int) < l[k].1.length := by omega
        have hp := Lib.hid (show lightQ l[k] = false by unfold lightQ; rw [decide_eq_false (by omega)]; rfl)
        go_wp2
        go_ret
        exact ⟨ret_bool (by rw [hfin.out, hbad.out hp.out]), hbel⟩
      · have h1i : decide ((300 : Int) < l[k].1.length) = false := decide_eq_false (by omega)
        by_cases h2 : 300 < l[k].2.length
        · have h2i : (300 : Int) < l[k].2.length := by omega
          have hp := Lib.hid (show lightQ l[k] = false by unfold lightQ; rw [decide_eq_false (by omega : ¬ l[k].2.length ≤ 300), Bool.and_false])
          clear h1
          go_wp2
          go_ret
          exact ⟨ret_bool (by rw [hfin.out, hbad.out hp.out]), hbel⟩
        · have h2i : decide ((300 : Int) < l[k].2.length) = false := decide_eq_false (by omega)
          have hp := Lib.hid (show lightQ l[k] = true by unfold lightQ; rw [decide_eq_true (by omega), decide_eq_true (by omega)]; rfl)
          clear h1 h2
          go_wp2
          go_roundw
          case rel => exact ⟨k + 1, by omega, by go_num, by show _ = _; rw [hstep.out, hall.out, hp.out]; rfl, hbel⟩
          case measure => simp [intOf]; omega
    · obtain rfl : k = l.length := by omega
      have hf := Lib.hid (show l.all lightQ = true by have := hall.out; rwa [List.take_length] at this)
      go_wp2
      go_ret
      exact ⟨ret_bool (by rw [hfin.out, hf.out]), hbel⟩
end Go.Proofs.YtagiolhciplniaaDoor
