/-
  The walk: are items few and short?
-/
import Derived.Test.YtgfoaopfdpclhaaExp7
namespace Go.Proofs.Ytgfoaopfdpclhaa
open Go.RowKit
set_option linter.unusedVariables false

def ltI (x : It) : Bool := decide (x.k.n.length ≤ 2000) && (decide (x.k.d.length ≤ 2000) && (decide (x.k.p.length ≤ 2000) && decide (x.c.v.length ≤ 2000)))
def ltL (l : List It) : Bool := decide (l.length ≤ 20) && l.all ltI
set_option maxRecDepth 20000 in
set_option maxHeartbeats 2000000 in
theorem light_any (A : Option Addr) (c : Nat) (l : List It) (w : World) (hl : l.length ≤ maxLen) (h : Rd w 11 (.slice A l.length c) l.length (l.flatMap cI)) :
    Calls Try.prog 7 #[.slice A l.length c] w fun e w' => e = .returned (.bool (ltL l)) ∧ Below w.heap.size w w' := by
  by_cases h20 : (20 : Int) < l.length
  · have hf := Lib.hid (show ltL l = false by unfold ltL; rw [decide_eq_false (by omega)]; rfl)
    go_enter Try.func7, Try.ntmps7
    go_wp2
    go_ret
    exact ⟨ret_bool hf.out.symm, Below.refl _ _⟩
  · have h20' : (l.length : Int) ≤ 20 := by omega
    clear h20
    have hf := Lib.hid (show ltL l = l.all ltI by unfold ltL; rw [decide_eq_true (by omega)]; rfl)
    go_enter Try.func7, Try.ntmps7
    go_wp2_with fail
    go_loopw [3] (fun i wr => ∃ k : Nat, k ≤ l.length ∧ i = .int .i64 k ∧ Below w.heap.size w wr ∧ (l.take k).all ltI = true) (fun i _ => l.length - (intOf i).toNat)
    case atStart => exact ⟨0, Nat.zero_le _, rfl, Below.refl _ _, rfl⟩
    case round =>
      obtain ⟨k, hk, rfl, hbel, hall⟩ := hrel
      have hk0 : (0 : Int) ≤ (k : Int) := by omega
      by_cases hlt : k < l.length
      · have hj : (k : Int) < (l.length : Int) := by omega
        obtain ⟨b, off, rfl, hb, hx⟩ := (h.below hbel).items hlt
        obtain ⟨hxi, hxk⟩ := hx k hlt
        clear hx
        obtain ⟨p0, p1, p2⟩ := ky_cells hxk
        obtain ⟨p3, _, _⟩ := ck_cells2 (ckAt_it hxi)
        by_cases hg : ltI l[k] = true
        · have hg' := hg
          unfold ltI at hg'
          simp only [Bool.and_eq_true, decide_eq_true_eq] at hg'
          obtain ⟨g1, g2, g3, g4⟩ := hg'
          have i1 : (l[k].k.n.length : Int) ≤ 2000 := by omega
          have i2 : (l[k].k.d.length : Int) ≤ 2000 := by omega
          have i3 : (l[k].k.p.length : Int) ≤ 2000 := by omega
          have i4 : (l[k].c.v.length : Int) ≤ 2000 := by omega
          have hn := Lib.hid (show (l.take (k + 1)).all ltI = true by rw [List.take_succ_eq_append_getElem hlt, List.all_append, hall]; simp [hg])
          clear hg g1 g2 g3 g4 hall
          go_wp2
          go_roundw
          case rel => exact ⟨k + 1, by omega, by go_num, hbel, hn.out⟩
          case measure => simp [intOf]; omega
        · have hF := Lib.hid (show l.all ltI = false by
            rw [Bool.eq_false_iff]
            intro h'
            exact hg (List.all_eq_true.1 h' _ (List.getElem_mem hlt)))
          by_cases i1 : (l[k].k.n.length : Int) ≤ 2000
          · by_cases i2 : (l[k].k.d.length : Int) ≤ 2000
            · by_cases i3 : (l[k].k.p.length : Int) ≤ 2000
              · have i4 : (2000 : Int) < l[k].c.v.length := by
                  unfold ltI at hg
                  simp only [Bool.and_eq_true, decide_eq_true_eq] at hg
                  omega
                go_wp2
                go_ret
                exact ⟨ret_bool (by rw [hf.out, hF.out]), hbel⟩
              · replace i3 : (2000 : Int) < l[k].k.p.length := by omega
                go_wp2
                go_ret
                exact ⟨ret_bool (by rw [hf.out, hF.out]), hbel⟩
            · replace i2 : (2000 : Int) < l[k].k.d.length := by omega
              go_wp2
              go_ret
              exact ⟨ret_bool (by rw [hf.out, hF.out]), hbel⟩
          · replace i1 : (2000 : Int) < l[k].k.n.length := by omega
            go_wp2
            go_ret
            exact ⟨ret_bool (by rw [hf.out, hF.out]), hbel⟩
      · obtain rfl : k = l.length := by omega
        have hn := Lib.hid (show l.all ltI = true by rwa [List.take_length] at hall)
        clear hall
        go_wp2
        go_ret
        exact ⟨ret_bool (by rw [hf.out, hn.out]), hbel⟩
end Go.Proofs.Ytgfoaopfdpclhaa
