/-
  The walks of package suffix: labels counted, tails, rules.
-/
import Derived.Test.YtbijphfendaddaaSufP
import Derived.Deep.MidRow
namespace Go.Proofs.Ytbijphfendaddaa
open Go.RowKit
set_option linter.unusedVariables false

theorem many_any (s : ByteArray) (w : World) (hs : s.size ≤ 4294967296) :
    Calls Try.prog 28 #[.string s] w fun e w' => e = .returned (.int .i64 (manyN s.toList)) ∧ w = w' := by
  have hc : s.toList.count 46 ≤ 4294967296 := by
    have := List.count_le_length (a := (46 : UInt8)) (l := s.toList)
    rw [← size_toList] at this
    omega
  have hr := Lib.hid (show ((manyN s.toList : Nat) : Int) = 1 + (s.toList.count 46 : Nat) by unfold manyN; omega)
  go_enter Try.func28, Try.ntmps28
  go_wp2_with fail
  refine (count_any s _).mono ?_
  rintro e w' ⟨rfl, rfl⟩
  generalize s.toList.count 46 = k at *
  go_wp2
  go_ret
  exact ⟨ret_int hr.out.symm, rfl⟩
theorem ends_any (n t : List UInt8) (w : World) (hn : n.length ≤ 4294967296) (ht : t.length ≤ 4294967296) :
    Calls Try.prog 30 #[.string (S n), .string (S t)] w fun e w' => e = .returned (.bool (endsB n t)) ∧ Below w.heap.size w w' := by
  have hz : (S n).size ≤ maxLen := by rw [S_size]; unfold maxLen; omega
  have hz2 : (S (46 :: t)).size ≤ maxLen := by rw [S_size]; unfold maxLen; simp; omega
  have hz3 : (1 : Int) + t.length ≤ 9223372036854775807 := by omega
  have happ := Lib.hid (show (⟨#[46]⟩ : ByteArray) ++ S t = S (46 :: t) from S_append [46] t)
  cases hq : (n == t) with
  | true =>
    have hr := Lib.hid (show endsB n t = true by unfold endsB; rw [hq]; rfl)
    go_enter Try.func30, Try.ntmps30
    go_wp2
    go_ret
    exact ⟨ret_bool hr.out.symm, Below.refl _ _⟩
  | false =>
    have hr := Lib.hid (show endsB n t = Lib.hasSuffix n (46 :: t) by unfold endsB; rw [hq]; rfl)
    go_enter Try.func30, Try.ntmps30
    go_wp2_with fail
    rw [happ.out]
    refine (hasSuffix_any (S n) (S (46 :: t)) _ hz hz2).mono ?_
    rintro e w' ⟨rfl, rfl⟩
    rw [S_toList, S_toList]
    go_wp2
    go_ret
    exact ⟨ret_bool hr.out.symm, Below.refl _ _⟩
theorem cutD_len (l : List UInt8) : (cutD l).2.1.length ≤ l.length := by
  unfold cutD
  rcases hc : cutL l 46 with _ | ⟨a, b⟩
  · simp
  · obtain ⟨_, _, c3, _⟩ := cut_some hc
    simp only at c3
    simp only
    rw [c3]
    simp
set_option maxHeartbeats 1000000 in
theorem tail_any (l0 : List UInt8) (n : Int) (w : World) (hl : l0.length ≤ 4294967296) (h0 : 0 ≤ n) (h1 : n ≤ 8589934592) :
    Calls Try.prog 32 #[.string (S l0), .int .i64 n] w fun e w' => e = .returned (.string (S (tailL l0 n))) ∧ Below w.heap.size w w' := by
  have hz : (S l0).size ≤ 4294967296 := by rw [S_size]; exact hl
  have hT := Lib.hid (show tailL l0 n = dropK ((manyN l0 : Int) - n).toNat l0 from rfl)
  have hmb : manyN l0 ≤ 4294967297 := by
    have := List.count_le_length (a := (46 : UInt8)) (l := l0)
    unfold manyN; omega
  go_enter Try.func32, Try.ntmps32
  go_wp2_with fail
  refine (many_any (S l0) _ hz).mono ?_
  rintro e w' ⟨rfl, rfl⟩
  rw [S_toList]
  generalize manyN l0 = m0 at *
  go_wp2
  go_loopw [0, 5] (fun vs vk wr => ∃ (l : List UInt8) (k : Nat), vs = .string (S l) ∧ vk = .int .i64 k ∧ l.length ≤ 4294967296 ∧ k ≤ 4294967297 ∧ Below w.heap.size w wr ∧ Hid (tailL l0 n = dropK ((k : Int) - n).toNat l)) (fun _ vk _ => (intOf vk).toNat)
  case atStart => exact ⟨l0, m0, rfl, rfl, hl, hmb, Below.refl _ _, hT.out⟩
  case round =>
    clear hz
    obtain ⟨l, k, rfl, rfl, hll, hk, hbel, hin⟩ := hrel
    by_cases hlt : n < k
    · have hz : (S l).size ≤ 4294967296 := by rw [S_size]; exact hll
      have hst := Lib.hid (show tailL l0 n = dropK (((k : Int) - 1) - n).toNat (cutD l).2.1 by
        rw [hin.out, show ((k : Int) - n).toNat = (((k : Int) - 1) - n).toNat + 1 by omega]; rfl)
      have hcl := cutD_len l
      go_wp2_with fail
      refine (cutS_any (S l) _ hz).mono ?_
      rintro e w1 ⟨rfl, hb1⟩
      rw [S_toList]
      have hbel1 := bel_call hbel hb1
      generalize cutD l = cv at *
      obtain ⟨ca, cb, cf⟩ := cv
      simp only at hcl hst ⊢
      go_wp2
      go_roundw
      case rel => exact ⟨cb, k - 1, rfl, by congr 1; omega, by omega, by omega, hbel1, by rw [show (((k - 1 : Nat)) : Int) = (k : Int) - 1 by omega]; exact hst.out⟩
      case measure => simp [intOf]; omega
    · have hfin := Lib.hid (show tailL l0 n = l by rw [hin.out, show ((k : Int) - n).toNat = 0 by omega]; rfl)
      have hni : (k : Int) ≤ n := by omega
      clear hin
      go_wp2
      rw [hfin.out]
      go_ret
      exact ⟨rfl, hbel⟩
end Go.Proofs.Ytbijphfendaddaa
