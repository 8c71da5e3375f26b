/-
  The walks: is a cookie right? The program's parts.
-/
import Derived.Test.YtgfoaopfdpclhaaRightP
import Derived.Test.YtgfoaopfdpclhaaFits
import Derived.Deep.DeepCutAuto
namespace Go.Proofs.Ytgfoaopfdpclhaa
open Go.RowKit
set_option linter.unusedVariables false

theorem within_any (n a b : Int) (w : World) : Calls Try.prog 44 #[.int .i64 n, .int .i64 a, .int .i64 b] w fun e w' => e = .returned (.bool (inB n a b)) ∧ w = w' := by
  by_cases h : a ≤ n
  · have hf := Lib.hid (show inB n a b = decide (n ≤ b) by unfold inB; rw [decide_eq_true h]; rfl)
    go_enter Try.func44, Try.ntmps44
    go_wp2
    go_ret
    exact ⟨ret_bool hf.out.symm, rfl⟩
  · have hf := Lib.hid (show inB n a b = false by unfold inB; rw [decide_eq_false h]; rfl)
    go_enter Try.func44, Try.ntmps44
    go_wp2
    go_ret
    exact ⟨ret_bool hf.out.symm, rfl⟩
def u8V (c : UInt8) : Value := .int .u8 c.toNat
theorem sall_step {p : UInt8 → Bool} {l : List UInt8} {k : Nat} (h : k < l.length) : (l.take (k + 1)).all p = ((l.take k).all p && p l[k]) := by
  rw [List.take_succ_eq_append_getElem h, List.all_append]; simp
theorem sall_bad {p : UInt8 → Bool} {l : List UInt8} {k : Nat} (h : k < l.length) (hp : p l[k] = false) : l.all p = false := by
  rw [List.all_eq_false]
  exact ⟨l[k], List.getElem_mem h, by simp [hp]⟩
set_option maxHeartbeats 1000000 in
theorem plain_any (s : List UInt8) (most : Int) (A : Option Addr) (n c : Nat) (q : List UInt8) (w : World) (hs : s.length ≤ 4294967296) (h : Rd w 1 (.slice A n c) n (q.map u8V)) (hn : n ≤ 1000) :
    Calls Try.prog 45 #[.string (S s), .int .i64 most, .slice A n c] w fun e w' => e = .returned (.bool (plainB s most q)) ∧ Below w.heap.size w w' := by
  have hm : (S s).size ≤ maxLen := by unfold maxLen; simp; omega
  have hlen : q.length = n := by have := h.1; simpa using this
  have hcap := h.cap
  unfold maxLen at hcap
  obtain ⟨hca, hcb⟩ := hcap
  subst hlen
  by_cases h1 : (s.length : Int) ≤ most
  · cases h2 : s.any ctlB with
    | true =>
      have hf := Lib.hid (show plainB s most q = false by unfold plainB; rw [decide_eq_true h1, h2]; rfl)
      go_enter Try.func45, Try.ntmps45
      go_wp2_with fail
      refine (control_any (S s) w hm).mono ?_
      rintro e w1 ⟨rfl, rfl⟩
      rw [S_toList, h2]
      go_wp2
      go_ret
      exact ⟨ret_bool hf.out.symm, Below.refl _ _⟩
    | false =>
      cases h3 : (trimL s == s) with
      | false =>
        have hf := Lib.hid (show plainB s most q = false by unfold plainB; rw [decide_eq_true h1, h2, h3]; rfl)
        go_enter Try.func45, Try.ntmps45
        go_wp2_with fail
        refine (control_any (S s) w hm).mono ?_
        rintro e w1 ⟨rfl, rfl⟩
        rw [S_toList, h2]
        go_wp2_with fail
        refine (trim_any (S s) w hm).mono ?_
        rintro e w2 ⟨rfl, rfl⟩
        rw [S_toList]
        go_wp2
        go_ret
        exact ⟨ret_bool hf.out.symm, Below.refl _ _⟩
      | true =>
        have hf := Lib.hid (show plainB s most q = q.all fun c => (cutL s c).isNone by unfold plainB; rw [decide_eq_true h1, h2, h3]; rfl)
        go_enter Try.func45, Try.ntmps45
        go_wp2_with fail
        refine (control_any (S s) w hm).mono ?_
        rintro e w1 ⟨rfl, rfl⟩
        rw [S_toList, h2]
        go_wp2_with fail
        refine (trim_any (S s) w hm).mono ?_
        rintro e w2 ⟨rfl, rfl⟩
        rw [S_toList]
        go_wp2
        clear h1 h2 h3
        go_loopw [28] (fun iv wr => ∃ k : Nat, k ≤ q.length ∧ iv = .int .i64 k ∧ Hid (((q.take k).all fun c => (cutL s c).isNone) = true) ∧ Below w.heap.size w wr) (fun iv _ => q.length - (intOf iv).toNat)
        case atStart => exact ⟨0, Nat.zero_le _, rfl, rfl, Below.refl _ _⟩
        case round =>
          obtain ⟨k, hk, rfl, hall, hbel⟩ := hrel
          by_cases hlt : k < q.length
          · have hki : (k : Int) < q.length := by omega
            have hk0 : (0 : Int) ≤ (k : Int) := by omega
            obtain ⟨b, off, rfl, hb, hx⟩ := (h.below hbel).at_ (by omega)
            have hc := hx k (by simpa using hlt)
            rw [List.getElem?_map, List.getElem?_eq_getElem hlt] at hc
            have hc' : wr.cell? ⟨b, off + k, none⟩ = some (.int .u8 q[k].toNat) := hc
            clear hx hc hb
            have hstep := Lib.hid (sall_step (p := fun c => (cutL s c).isNone) hlt)
            have hbad := Lib.hid (sall_bad (p := fun c => (cutL s c).isNone) hlt)
            cases hq : cutL s q[k] with
            | none =>
              have hqh := Lib.hid hq
              have hp := Lib.hid (show (cutL s q[k]).isNone = true by rw [hq]; rfl)
              clear hq
              go_wp2_with fail
              refine (cut_any_none (S s) q[k] _ hm (by rw [S_toList]; exact hqh.out)).mono ?_
              rintro e w3 ⟨rfl, rfl⟩
              clear hc'
              go_wp2
              go_roundw
              case rel => exact ⟨k + 1, by omega, by go_num, by show _ = _; rw [hstep.out, hall.out, hp.out]; rfl, hbel⟩
              case measure => simp [intOf]; omega
            | some ab =>
              obtain ⟨a1, b1⟩ := ab
              have hqh := Lib.hid hq
              have hp := Lib.hid (show (cutL s q[k]).isNone = false by rw [hq]; rfl)
              clear hq
              go_wp2_with fail
              refine (cut_any_some (S s) q[k] _ hm a1 b1 (by rw [S_toList]; exact hqh.out)).mono ?_
              rintro e w3 ⟨rfl, hb3⟩
              have hB3 := bel_call hbel hb3
              clear hc' hbel hb3
              go_wp2
              go_ret
              exact ⟨ret_bool (by rw [hf.out, hbad.out hp.out]), hB3⟩
          · obtain rfl : k = q.length := by omega
            have hfin := Lib.hid (show (q.all fun c => (cutL s c).isNone) = true by have := hall.out; rwa [List.take_length] at this)
            go_wp2
            go_ret
            exact ⟨ret_bool (by rw [hf.out, hfin.out]), hbel⟩
  · have hf := Lib.hid (show plainB s most q = false by unfold plainB; rw [decide_eq_false h1]; rfl)
    go_enter Try.func45, Try.ntmps45
    go_wp2
    go_ret
    exact ⟨ret_bool hf.out.symm, Below.refl _ _⟩

theorem refPlain_any (s : List UInt8) (w : World) (hs : s.length ≤ 4294967296) :
    Calls Try.prog 52 #[.string (S s)] w fun e w' => e = .returned (.bool (!(s.any ctlB) && ((cutL s 59).isNone && (trimL s == s)))) ∧ w = w' := by
  have hm : (S s).size ≤ maxLen := by unfold maxLen; simp; omega
  have hcut : (decide (findL s 59 < 0)) = (cutL s 59).isNone := by
    unfold findL
    cases cutL s 59 with
    | none => rfl
    | some p => simp only [Option.isNone_some, decide_eq_false_iff_not]; omega
  cases h2 : s.any ctlB with
  | true =>
    go_enter Try.func52, Try.ntmps52
    go_wp2_with fail
    refine (refControl_any (S s) w hm).mono ?_
    rintro e w1 ⟨rfl, rfl⟩
    rw [S_toList, h2]
    go_wp2
    go_ret
    exact ⟨rfl, rfl⟩
  | false =>
    cases h3 : (cutL s 59).isNone with
    | false =>
      rw [h3] at hcut
      go_enter Try.func52, Try.ntmps52
      go_wp2_with fail
      refine (refControl_any (S s) w hm).mono ?_
      rintro e w1 ⟨rfl, rfl⟩
      rw [S_toList, h2]
      go_wp2_with fail
      refine (refFind_any (S s) 59 w hm).mono ?_
      rintro e w2 ⟨rfl, rfl⟩
      rw [S_toList]
      go_wp2
      go_ret
      exact ⟨rfl, rfl⟩
    | true =>
      rw [h3] at hcut
      go_enter Try.func52, Try.ntmps52
      go_wp2_with fail
      refine (refControl_any (S s) w hm).mono ?_
      rintro e w1 ⟨rfl, rfl⟩
      rw [S_toList, h2]
      go_wp2_with fail
      refine (refFind_any (S s) 59 w hm).mono ?_
      rintro e w2 ⟨rfl, rfl⟩
      rw [S_toList]
      go_wp2_with fail
      refine (refTrim_any (S s) w hm).mono ?_
      rintro e w3 ⟨rfl, rfl⟩
      rw [S_toList]
      go_wp2
      go_ret
      exact ⟨by simp, rfl⟩
end Go.Proofs.Ytgfoaopfdpclhaa
