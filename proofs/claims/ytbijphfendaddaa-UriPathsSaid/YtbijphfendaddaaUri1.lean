/-
  The walks of package uri: signs, splits, names, ports, schemes.
-/
import Derived.Test.YtbijphfendaddaaUriP
namespace Go.Proofs.Ytbijphfendaddaa
open Go.RowKit
set_option linter.unusedVariables false

theorem visC_any (c : UInt8) (w : World) :
    Calls Try.prog 71 #[.int .u8 c.toNat] w fun e w' => e = .returned (.bool (visC c)) ∧ w = w' := by
  by_cases h : (32 : Int) < c.toNat
  · have hT := Lib.hid (show visC c = decide ((c.toNat : Int) < 127) by
      unfold visC
      rw [decide_eq_true (show 32 < c.toNat by omega), Bool.true_and, Bool.eq_iff_iff, decide_eq_true_iff, decide_eq_true_iff]
      omega)
    go_enter Try.func71, Try.ntmps71
    go_wp2
    go_ret
    rw [hT.out]
    exact ⟨rfl, rfl⟩
  · have hT := Lib.hid (show visC c = false by
      unfold visC
      rw [decide_eq_false (show ¬ 32 < c.toNat by omega)]
      rfl)
    go_enter Try.func71, Try.ntmps71
    go_wp2
    go_ret
    rw [hT.out]
    exact ⟨rfl, rfl⟩

theorem vis_take_no {l : List UInt8} {k : Nat} (h : k < l.length) (hn : visC (l.getD k 0) = false) : visB l = false := by
  unfold visB
  rw [List.all_eq_false]
  refine ⟨_, List.getElem_mem h, ?_⟩
  rw [List.getD_eq_getElem?_getD, List.getElem?_eq_getElem h] at hn
  simp only [Option.getD_some] at hn
  rw [hn]; decide
theorem vis_take_step {l : List UInt8} {k : Nat} (h : k < l.length) (h1 : visB (l.take k) = true) (hn : visC (l.getD k 0) = true) : visB (l.take (k + 1)) = true := by
  unfold visB at *
  rw [List.getD_eq_getElem?_getD, List.getElem?_eq_getElem h] at hn
  simp only [Option.getD_some] at hn
  rw [all_take_stepL h, h1, hn]; rfl

set_option maxHeartbeats 1000000 in
theorem visible_any (l : List UInt8) (w : World) (hl : l.length ≤ maxLen) :
    Calls Try.prog 43 #[.string (S l)] w fun e w' => e = .returned (.bool (visB l)) ∧ w = w' := by
  have hmf : ∀ (fn : Fn) (first cap : Array Value) (w : World), (Instr.makeFunc fn first cap).run Try.prog w = .ok (.func fn first cap) w := fun _ _ _ _ => rfl
  unfold maxLen at hl
  go_enter Try.func43, Try.ntmps43
  go_wp2
  go_loop [7] (fun i => ∃ k : Nat, i = .int .i64 k ∧ k ≤ l.length ∧ Hid (visB (l.take k) = true)) (fun i => l.length - (intOf i).toNat)
  case atStart => exact ⟨0, rfl, by omega, Lib.hid rfl⟩
  case round =>
    obtain ⟨k, rfl, hk, hin⟩ := hrel
    by_cases hlt : k < l.length
    · have hki : (k : Int) < l.length := by omega
      have hg : ∀ h, (S l)[k]'h = l.getD k 0 := fun h => by rw [get_l _ _ h, S_toList]
      cases hv : visC (l.getD k 0)
      · have hno := Lib.hid (vis_take_no hlt hv)
        have hvH := Lib.hid hv
        clear hv hin
        generalize l.getD k 0 = c0 at *
        go_wp2_with fail
        refine (visC_any c0 _).mono ?_
        rintro e w3 ⟨rfl, rfl⟩
        rw [hvH.out]
        go_wp2
        go_ret
        rw [hno.out]
        exact ⟨rfl, rfl⟩
      · have hin2 := Lib.hid (vis_take_step hlt hin.out hv)
        have hvH := Lib.hid hv
        clear hv hin
        generalize l.getD k 0 = c0 at *
        go_wp2_with fail
        refine (visC_any c0 _).mono ?_
        rintro e w3 ⟨rfl, rfl⟩
        rw [hvH.out]
        go_wp2
        go_round
        case rel => exact ⟨k + 1, by go_num, by omega, hin2⟩
        case measure => simp [intOf]; omega
    · obtain rfl : k = l.length := by omega
      have hfin := Lib.hid (show visB l = true by have := hin.out; rwa [List.take_length] at this)
      clear hin
      go_wp2
      go_ret
      rw [hfin.out]
      exact ⟨rfl, rfl⟩

set_option maxHeartbeats 1000000 in
theorem usplit_any (l q : List UInt8) (w : World) (hl : l.length ≤ 4294967280) (ha : ∀ b ∈ l, b.toNat < 128) (hq : ∀ b ∈ q, b.toNat < 128) (hql : q.length ≤ 100) :
    Calls Try.prog 45 #[.string (S l), .string (S q)] w fun e w' => e = .returned (.tuple #[.string (S (l.take (findAny l q))), .string (S (l.drop (findAny l q)))]) ∧ Below w.heap.size w w' := by
  have hIx := Lib.hid (indexAny_find l q)
  have hc := fun w => Try.strings_IndexAny_laid (S l) (S q) w (by rw [S_size]; omega) (by rw [S_size]; omega) (ascii_of ha) (ascii_of hq)
  have hle := findAny_le l q
  by_cases hk : findAny l q < l.length
  · have hI := Lib.hid (show Lib.indexAny (S l).data.toList (S q).data.toList = (findAny l q : Int) from hIx.out.trans (if_pos hk))
    have hx1 := Lib.hid (show (S l).extract 0 (findAny l q) = S (l.take (findAny l q)) by rw [extract_to, S_toList])
    have hx2 := Lib.hid (show (S l).extract (findAny l q) l.length = S (l.drop (findAny l q)) by rw [show l.length = (S l).size from (S_size l).symm, extract_from, S_toList])
    have hki : (findAny l q : Int) ≤ l.length := by omega
    clear hIx hk ha hq
    generalize findAny l q = n at *
    go_enter Try.func45, Try.ntmps45
    go_wp2_with fail
    refine (hc _).mono ?_
    rintro e w1 ⟨rfl, hb⟩
    rw [hI.out]
    clear hc
    go_wp2
    go_quiet (fail)
    go_wp2
    go_ret2
    exact ⟨by rw [← hx1.out, ← hx2.out]; rfl, below_drews hb _⟩
  · have hI := Lib.hid (show Lib.indexAny (S l).data.toList (S q).data.toList = -1 from hIx.out.trans (if_neg hk))
    have hT := Lib.hid (show l.take (findAny l q) = l ∧ l.drop (findAny l q) = [] from ⟨List.take_of_length_le (by omega), List.drop_of_length_le (by omega)⟩)
    clear hIx hk ha hq
    generalize findAny l q = n at *
    go_enter Try.func45, Try.ntmps45
    go_wp2_with fail
    refine (hc _).mono ?_
    rintro e w1 ⟨rfl, hb⟩
    rw [hI.out]
    clear hc
    go_wp2
    go_ret2
    rw [hT.out.1, hT.out.2]
    exact ⟨rfl, hb⟩
end Go.Proofs.Ytbijphfendaddaa
