/-
  Joined texts: Suf1 SufP Suf2 Suf3.
-/
import Derived.Test.YtgfoaopfdpclhaaGreatDoorBu10
import Derived.Test.YtgfoaopfdpclhaaGreatDoorBu12
import Derived.Lib.Bytealg
import Derived.Deep.MidRow
namespace Go.Proofs.YtgfoaopfdpclhaaGreatDoor
open Go.RowKit
set_option linter.unusedVariables false
set_option maxRecDepth 100000

theorem index_find (l : List UInt8) (c : UInt8) : Lib.indexByte l c = findL l c := by
  induction l with
  | nil => rfl
  | cons x r ih =>
    unfold Lib.indexByte findL cutL
    by_cases h : (x == c) = true
    · rw [if_pos h, if_pos h]; rfl
    · rw [if_neg h, if_neg h, ih]
      unfold findL
      cases cutL r c with
      | none => rfl
      | some p =>
        have : ((p.1.length : Int) == -1) = false := beq_eq_false_iff_ne.2 (by omega)
        simp [this]
set_option maxRecDepth 100000 in
theorem count_any (s : ByteArray) (w : World) :
    Calls Tryz.prog 135 #[.string s, .string ⟨#[46]⟩] w fun e w' => e = .returned (.int .i64 (s.toList.count 46)) ∧ w = w' := by
  go_enter Tryz.func135, Tryz.ntmps135
  go_wp2
  rw [run_callFunc_extern Tryz.func142 (by kernel_rfl) (by kernel_rfl) (by kernel_rfl) (e := Extern.BytealgCount.count) (by kernel_rfl), Lib.run_countString]
  simp only [Result.andThen]
  rw [Oper.upon_value]
  go_wp2
  go_ret
  exact ⟨by rw [ByteArray.toList_eq]; rfl, rfl⟩
set_option maxRecDepth 100000 in
theorem indexByte_any (s : ByteArray) (c : UInt8) (w : World) :
    Calls Tryz.prog 138 #[.string s, .int .u8 c.toNat] w fun e w' => e = .returned (.int .i64 (findL s.toList c)) ∧ w = w' := by
  have hi := Lib.hid (index_find s.toList c)
  go_enter Tryz.func138, Tryz.ntmps138
  go_wp2
  rw [run_callFunc_extern Tryz.func145 (by kernel_rfl) (by kernel_rfl) (by kernel_rfl) (e := Extern.BytealgIndexByte.indexByte) (by kernel_rfl), Lib.run_indexByteString]
  simp only [Result.andThen]
  rw [Oper.upon_value]
  go_wp2
  go_ret
  refine ⟨ret_int ?_, rfl⟩
  rw [← hi.out, ByteArray.toList_eq]
set_option maxRecDepth 100000 in
theorem dot_self {l : List UInt8} (h : l = [46]) : findL l 46 = 0 := by subst h; rfl
set_option maxRecDepth 100000 in
set_option maxHeartbeats 1000000 in
theorem index_any (s : ByteArray) (w : World) :
    Calls Tryz.prog 146 #[.string s, .string ⟨#[46]⟩] w fun e w' => e = .returned (.int .i64 (findL s.toList 46)) ∧ w = w' := by
  by_cases h : s.toList = [46]
  · have hz := Lib.hid (dot_self h)
    have hs : s = S [46] := by rw [← S_of s, h]
    subst hs
    go_enter Tryz.func146, Tryz.ntmps146
    go_wp2
    go_ret
    exact ⟨ret_int hz.out.symm, rfl⟩
  · have hq : (([46] : List UInt8) == s.toList) = false := beq_eq_false_iff_ne.2 (fun e => h e.symm)
    have hq2 : (s.toList == ([46] : List UInt8)) = false := beq_eq_false_iff_ne.2 h
    clear h
    go_enter Tryz.func146, Tryz.ntmps146
    go_wp2_with fail
    refine (indexByte_any s 46 _).mono ?_
    rintro e w' ⟨rfl, rfl⟩
    go_wp2
    go_ret
    exact ⟨rfl, rfl⟩
/-- A text behind its first point. -/
def cutD (l : List UInt8) : List UInt8 × List UInt8 × Bool := match cutL l 46 with | none => (l, [], false) | some p => (p.1, p.2, true)
set_option maxRecDepth 100000 in
set_option maxHeartbeats 1000000 in
theorem cut0_any (s : ByteArray) (w : World) (hs : s.size ≤ 4294967296) :
    Calls Tryz.prog 144 #[.string s, .string ⟨#[46]⟩] w fun e w' => e = .returned (.tuple #[.string (S (cutD s.toList).1), .string (S (cutD s.toList).2.1), .bool (cutD s.toList).2.2]) ∧ Below w.heap.size w w' := by
  rw [← S_of s]
  have hl0 : s.toList.length ≤ 4294967296 := by rw [← size_toList]; exact hs
  rw [S_toList]
  generalize s.toList = l at *
  clear hs
  rcases hc : cutL l 46 with _ | ⟨a, b⟩
  · have hT := Lib.hid (show cutD l = (l, [], false) by unfold cutD; rw [hc])
    have hf := Lib.hid (show findL l 46 = -1 by unfold findL; rw [hc])
    clear hc
    go_enter Tryz.func144, Tryz.ntmps144
    go_wp2_with fail
    refine (index_any (S l) _).mono ?_
    rintro e w' ⟨rfl, rfl⟩
    rw [S_toList, hf.out]
    go_wp2
    go_ret3
    rw [hT.out]
    exact ⟨rfl, Below.refl _ _⟩
  · have hT := Lib.hid (show cutD l = (a, b, true) by unfold cutD; rw [hc])
    obtain ⟨c1, c2, c3, c4, _⟩ := cut_some hc
    have hf := Lib.hid (show findL l 46 = a.length by unfold findL; rw [hc])
    simp only at c1 c2 c3 c4
    have hx1 := Lib.hid (show (S l).extract 0 a.length = S a by rw [extract_to, S_toList, ← c2])
    have hx2 := Lib.hid (show (S l).extract (a.length + 1) l.length = S b by rw [show l.length = (S l).size from (S_size l).symm, extract_from, S_toList, ← c3])
    have hai : (a.length : Int) ≤ l.length := by omega
    have hai2 : (a.length : Int) + 1 ≤ l.length := by omega
    clear hc c1 c2 c3 c4
    generalize a.length = n at *
    go_enter Tryz.func144, Tryz.ntmps144
    go_wp2_with fail
    refine (index_any (S l) _).mono ?_
    rintro e w' ⟨rfl, rfl⟩
    rw [S_toList, hf.out]
    go_wp2
    go_quiet (fail)
    go_wp2
    go_ret3
    rw [hT.out]
    exact ⟨by rw [← hx1.out, ← hx2.out]; rfl, below_drews (Below.refl _ _) _⟩
theorem cutS_any (s : ByteArray) (w : World) (hs : s.size ≤ 4294967296) :
    Calls Tryz.prog 136 #[.string s, .string ⟨#[46]⟩] w fun e w' => e = .returned (.tuple #[.string (S (cutD s.toList).1), .string (S (cutD s.toList).2.1), .bool (cutD s.toList).2.2]) ∧ Below w.heap.size w w' := by
  go_enter Tryz.func136, Tryz.ntmps136
  go_wp2_with fail
  refine (cut0_any s _ hs).mono ?_
  rintro e w1 ⟨rfl, hb⟩
  go_wp2
  go_ret3
  exact ⟨rfl, hb⟩
end Go.Proofs.YtgfoaopfdpclhaaGreatDoor
namespace Go.Proofs.YtgfoaopfdpclhaaGreatDoor
set_option linter.unusedVariables false
set_option maxRecDepth 100000

def manyN (l : List UInt8) : Nat := 1 + l.count 46
def dropK : Nat → List UInt8 → List UInt8
  | 0, l => l
  | k + 1, l => dropK k (cutD l).2.1
def tailL (l : List UInt8) (n : Int) : List UInt8 := dropK ((manyN l : Int) - n).toNat l
/-- A rule: its name, and whether it is an any, or a not rule. -/
structure Ru where
  nm : List UInt8
  an : Bool
  nt : Bool
def ruleT (l : List UInt8) : Ru := if Lib.hasPrefix l [42, 46] then ⟨l.drop 2, true, false⟩ else if Lib.hasPrefix l [33] then ⟨l.drop 1, false, true⟩ else ⟨l, false, false⟩
def ruleOk (l : List UInt8) : Bool := nameB (ruleT l).nm && (!(ruleT l).nt || decide (1 < (splitL (ruleT l).nm 46).length))
def checkI (rs : List (List UInt8)) : Int := if 256 < rs.length then 3 else if rs.all ruleOk then 0 else 1
def endsB (n t : List UInt8) : Bool := n == t || Lib.hasSuffix n (46 :: t)
def keepT (n : List UInt8) (r : Ru) (p : Int × Int) : Int × Int :=
  if r.an && Lib.hasSuffix n (46 :: r.nm) then (max p.1 (manyN r.nm + 1), p.2)
  else if r.nt && endsB n r.nm then (p.1, max p.2 (manyN r.nm))
  else if !r.an && !r.nt && endsB n r.nm then (max p.1 (manyN r.nm), p.2)
  else p
def foldR (n : List UInt8) (rs : List (List UInt8)) (p : Int × Int) : Int × Int := rs.foldl (fun p r => keepT n (ruleT r) p) p
def bestI (n : List UInt8) (rs : List (List UInt8)) : Int := if 0 < (foldR n rs (1, 0)).2 then (foldR n rs (1, 0)).2 - 1 else (foldR n rs (1, 0)).1
def ofT (rs : List (List UInt8)) (n : List UInt8) : List UInt8 × Int :=
  if checkI rs ≠ 0 then ([], checkI rs) else if nameB n then (tailL n (bestI n rs), 0) else ([], 1)

def cB (n : List UInt8) (r : Ru) : Int := if r.an && Lib.hasSuffix n (46 :: r.nm) then manyN r.nm + 1 else if r.nt && endsB n r.nm then 0 else if !r.an && !r.nt && endsB n r.nm then manyN r.nm else 0
def cE (n : List UInt8) (r : Ru) : Int := if r.an && Lib.hasSuffix n (46 :: r.nm) then 0 else if r.nt && endsB n r.nm then manyN r.nm else 0
theorem keep_max (n : List UInt8) (r : Ru) (p : Int × Int) (h1 : 0 ≤ p.1) (h2 : 0 ≤ p.2) : keepT n r p = (max p.1 (cB n r), max p.2 (cE n r)) ∧ 0 ≤ (keepT n r p).1 ∧ 0 ≤ (keepT n r p).2 := by
  have e : keepT n r p = (max p.1 (cB n r), max p.2 (cE n r)) := by
    unfold keepT cB cE
    split
    · exact Prod.ext rfl (by simp; omega)
    · split
      · exact Prod.ext (by simp; omega) rfl
      · split
        · exact Prod.ext rfl (by simp; omega)
        · exact Prod.ext (by simp; omega) (by simp; omega)
  rw [e]
  exact ⟨rfl, by simp; omega, by simp; omega⟩
theorem foldR_spec (n : List UInt8) (rs : List (List UInt8)) (p : Int × Int) (h1 : 0 ≤ p.1) (h2 : 0 ≤ p.2) :
    (p.1 ≤ (foldR n rs p).1 ∧ (∀ r ∈ rs, cB n (ruleT r) ≤ (foldR n rs p).1) ∧ ((foldR n rs p).1 = p.1 ∨ ∃ r ∈ rs, (foldR n rs p).1 = cB n (ruleT r))) ∧
    (p.2 ≤ (foldR n rs p).2 ∧ (∀ r ∈ rs, cE n (ruleT r) ≤ (foldR n rs p).2) ∧ ((foldR n rs p).2 = p.2 ∨ ∃ r ∈ rs, (foldR n rs p).2 = cE n (ruleT r))) := by
  induction rs generalizing p with
  | nil => exact ⟨⟨Int.le_refl _, fun r hr => (by cases hr), .inl rfl⟩, Int.le_refl _, fun r hr => (by cases hr), .inl rfl⟩
  | cons a rs ih =>
    obtain ⟨e, g1, g2⟩ := keep_max n (ruleT a) p h1 h2
    have e' : foldR n (a :: rs) p = foldR n rs (keepT n (ruleT a) p) := rfl
    rw [e']
    obtain ⟨⟨a1, a2, a3⟩, b1, b2, b3⟩ := ih (keepT n (ruleT a) p) g1 g2
    generalize foldR n rs (keepT n (ruleT a) p) = v at *
    rw [e] at a1 a3 b1 b3
    simp only at a1 a3 b1 b3
    refine ⟨⟨Int.le_trans (Int.le_max_left _ _) a1, fun r hr => ?_, ?_⟩, Int.le_trans (Int.le_max_left _ _) b1, fun r hr => ?_, ?_⟩
    · rcases List.mem_cons.1 hr with rfl | hr
      · exact Int.le_trans (Int.le_max_right _ _) a1
      · exact a2 r hr
    · rcases a3 with a3 | ⟨r, hr, a3⟩
      · by_cases hm : p.1 ≤ cB n (ruleT a)
        · exact .inr ⟨a, by simp, a3.trans (Int.max_eq_right hm)⟩
        · exact .inl (a3.trans (Int.max_eq_left (Int.le_of_lt (Int.not_le.1 hm))))
      · exact .inr ⟨r, by simp [hr], a3⟩
    · rcases List.mem_cons.1 hr with rfl | hr
      · exact Int.le_trans (Int.le_max_right _ _) b1
      · exact b2 r hr
    · rcases b3 with b3 | ⟨r, hr, b3⟩
      · by_cases hm : p.2 ≤ cE n (ruleT a)
        · exact .inr ⟨a, by simp, b3.trans (Int.max_eq_right hm)⟩
        · exact .inl (b3.trans (Int.max_eq_left (Int.le_of_lt (Int.not_le.1 hm))))
      · exact .inr ⟨r, by simp [hr], b3⟩
theorem foldR_same (n : List UInt8) (l m : List (List UInt8)) (h : ∀ x, x ∈ l ↔ x ∈ m) : foldR n l (1, 0) = foldR n m (1, 0) := by
  obtain ⟨⟨a1, a2, a3⟩, b1, b2, b3⟩ := foldR_spec n l (1, 0) (by decide) (by decide)
  obtain ⟨⟨c1, c2, c3⟩, d1, d2, d3⟩ := foldR_spec n m (1, 0) (by decide) (by decide)
  refine Prod.ext ?_ ?_
  · have u1 : (foldR n l (1, 0)).1 ≤ (foldR n m (1, 0)).1 := by
      rcases a3 with a3 | ⟨r, hr, a3⟩
      · rw [a3]; exact c1
      · rw [a3]; exact c2 r ((h r).1 hr)
    have u2 : (foldR n m (1, 0)).1 ≤ (foldR n l (1, 0)).1 := by
      rcases c3 with c3 | ⟨r, hr, c3⟩
      · rw [c3]; exact a1
      · rw [c3]; exact a2 r ((h r).2 hr)
    exact Int.le_antisymm u1 u2
  · have u1 : (foldR n l (1, 0)).2 ≤ (foldR n m (1, 0)).2 := by
      rcases b3 with b3 | ⟨r, hr, b3⟩
      · rw [b3]; exact d1
      · rw [b3]; exact d2 r ((h r).1 hr)
    have u2 : (foldR n m (1, 0)).2 ≤ (foldR n l (1, 0)).2 := by
      rcases d3 with d3 | ⟨r, hr, d3⟩
      · rw [d3]; exact b1
      · rw [d3]; exact b2 r ((h r).2 hr)
    exact Int.le_antisymm u1 u2
theorem ofT_same (n : List UInt8) (l m : List (List UInt8)) (h : ∀ x, x ∈ l ↔ x ∈ m) (h1 : l.length ≤ 256) (h2 : m.length ≤ 256) : ofT l n = ofT m n := by
  have ha : l.all ruleOk = m.all ruleOk := by
    rw [Bool.eq_iff_iff, List.all_eq_true, List.all_eq_true]
    exact ⟨fun g x hx => g x ((h x).2 hx), fun g x hx => g x ((h x).1 hx)⟩
  have hc : checkI l = checkI m := by
    unfold checkI
    rw [if_neg (show ¬ 256 < l.length by omega), if_neg (show ¬ 256 < m.length by omega), ha]
  unfold ofT bestI
  rw [hc, foldR_same n l m h]
end Go.Proofs.YtgfoaopfdpclhaaGreatDoor
namespace Go.Proofs.YtgfoaopfdpclhaaGreatDoor
open Go.RowKit
set_option linter.unusedVariables false
set_option maxRecDepth 100000

theorem many_any (s : ByteArray) (w : World) (hs : s.size ≤ 4294967296) :
    Calls Tryz.prog 117 #[.string s] w fun e w' => e = .returned (.int .i64 (manyN s.toList)) ∧ w = w' := by
  have hc : s.toList.count 46 ≤ 4294967296 := by
    have := List.count_le_length (a := (46 : UInt8)) (l := s.toList)
    rw [← size_toList] at this
    omega
  have hr := Lib.hid (show ((manyN s.toList : Nat) : Int) = 1 + (s.toList.count 46 : Nat) by unfold manyN; omega)
  go_enter Tryz.func117, Tryz.ntmps117
  go_wp2_with fail
  refine (count_any s _).mono ?_
  rintro e w' ⟨rfl, rfl⟩
  generalize s.toList.count 46 = k at *
  go_wp2
  go_ret
  exact ⟨ret_int hr.out.symm, rfl⟩
theorem ends_any (n t : List UInt8) (w : World) (hn : n.length ≤ 4294967296) (ht : t.length ≤ 4294967296) :
    Calls Tryz.prog 118 #[.string (S n), .string (S t)] w fun e w' => e = .returned (.bool (endsB n t)) ∧ Below w.heap.size w w' := by
  have hz : (S n).size ≤ maxLen := by rw [S_size]; unfold maxLen; omega
  have hz2 : (S (46 :: t)).size ≤ maxLen := by rw [S_size]; unfold maxLen; simp; omega
  have hz3 : (1 : Int) + t.length ≤ 9223372036854775807 := by omega
  have happ := Lib.hid (show (⟨#[46]⟩ : ByteArray) ++ S t = S (46 :: t) from S_append [46] t)
  cases hq : (n == t) with
  | true =>
    have hr := Lib.hid (show endsB n t = true by unfold endsB; rw [hq]; rfl)
    go_enter Tryz.func118, Tryz.ntmps118
    go_wp2
    go_ret
    exact ⟨ret_bool hr.out.symm, Below.refl _ _⟩
  | false =>
    have hr := Lib.hid (show endsB n t = Lib.hasSuffix n (46 :: t) by unfold endsB; rw [hq]; rfl)
    go_enter Tryz.func118, Tryz.ntmps118
    go_wp2_with fail
    rw [happ.out]
    refine (hasSuffix_any (S n) (S (46 :: t)) _ hz hz2).mono ?_
    rintro e w' ⟨rfl, rfl⟩
    rw [S_toList, S_toList]
    go_wp2
    go_ret
    exact ⟨ret_bool hr.out.symm, Below.refl _ _⟩
theorem cutD_len (l : List UInt8) : (cutD l).2.1.length ≤ l.length := by
  unfold cutD
  rcases hc : cutL l 46 with _ | ⟨a, b⟩
  · simp
  · obtain ⟨_, _, c3, _⟩ := cut_some hc
    simp only at c3
    simp only
    rw [c3]
    simp
set_option maxHeartbeats 1000000 in
theorem tail_any (l0 : List UInt8) (n : Int) (w : World) (hl : l0.length ≤ 4294967296) (h0 : 0 ≤ n) (h1 : n ≤ 8589934592) :
    Calls Tryz.prog 119 #[.string (S l0), .int .i64 n] w fun e w' => e = .returned (.string (S (tailL l0 n))) ∧ Below w.heap.size w w' := by
  have hz : (S l0).size ≤ 4294967296 := by rw [S_size]; exact hl
  have hT := Lib.hid (show tailL l0 n = dropK ((manyN l0 : Int) - n).toNat l0 from rfl)
  have hmb : manyN l0 ≤ 4294967297 := by
    have := List.count_le_length (a := (46 : UInt8)) (l := l0)
    unfold manyN; omega
  go_enter Tryz.func119, Tryz.ntmps119
  go_wp2_with fail
  refine (many_any (S l0) _ hz).mono ?_
  rintro e w' ⟨rfl, rfl⟩
  rw [S_toList]
  generalize manyN l0 = m0 at *
  go_wp2
  go_loopw [0, 5] (fun vs vk wr => ∃ (l : List UInt8) (k : Nat), vs = .string (S l) ∧ vk = .int .i64 k ∧ l.length ≤ 4294967296 ∧ k ≤ 4294967297 ∧ Below w.heap.size w wr ∧ Hid (tailL l0 n = dropK ((k : Int) - n).toNat l)) (fun _ vk _ => (intOf vk).toNat)
  case atStart => exact ⟨l0, m0, rfl, rfl, hl, hmb, Below.refl _ _, hT.out⟩
  case round =>
    clear hz
    obtain ⟨l, k, rfl, rfl, hll, hk, hbel, hin⟩ := hrel
    by_cases hlt : n < k
    · have hz : (S l).size ≤ 4294967296 := by rw [S_size]; exact hll
      have hst := Lib.hid (show tailL l0 n = dropK (((k : Int) - 1) - n).toNat (cutD l).2.1 by
        rw [hin.out, show ((k : Int) - n).toNat = (((k : Int) - 1) - n).toNat + 1 by omega]; rfl)
      have hcl := cutD_len l
      go_wp2_with fail
      refine (cutS_any (S l) _ hz).mono ?_
      rintro e w1 ⟨rfl, hb1⟩
      rw [S_toList]
      have hbel1 := bel_call hbel hb1
      generalize cutD l = cv at *
      obtain ⟨ca, cb, cf⟩ := cv
      simp only at hcl hst ⊢
      go_wp2
      go_roundw
      case rel => exact ⟨cb, k - 1, rfl, by congr 1; omega, by omega, by omega, hbel1, by rw [show (((k - 1 : Nat)) : Int) = (k : Int) - 1 by omega]; exact hst.out⟩
      case measure => simp [intOf]; omega
    · have hfin := Lib.hid (show tailL l0 n = l by rw [hin.out, show ((k : Int) - n).toNat = 0 by omega]; rfl)
      have hni : (k : Int) ≤ n := by omega
      clear hin
      go_wp2
      rw [hfin.out]
      go_ret
      exact ⟨rfl, hbel⟩
end Go.Proofs.YtgfoaopfdpclhaaGreatDoor
namespace Go.Proofs.YtgfoaopfdpclhaaGreatDoor
open Go.RowKit
set_option linter.unusedVariables false
set_option maxRecDepth 100000

theorem results_cell2 {P : Program} {fn : Func} {a T u : Nat} {tmps : Array Value} {w : World} {b o : Nat} {cs : List Value} (h : fn.results = #[.cell a T, .tmp u]) (ht : tmps.getD a undef = .pointer (some ⟨b, o, none⟩)) (hc : w.rangeAt b o cs)
    (hT : ∃ d, P.underlying T = some d ∧ d.isRow = true) (hi : (P.info? T).map (·.size) = some cs.length) : (results fn tmps).run P w = .ok (.tuple #[.agg cs.toArray, tmps.getD u undef]) w := by
  obtain ⟨d, hu, hd⟩ := hT
  have hl := run_loadVar_mid (P := P) w b o T cs d hc hu hd hi
  rw [Array.getD_eq_getD_getElem?] at ht
  simp only [results, h]
  simp [ht, asAddr, hl]
theorem Tryz.rowR : ∃ d, Tryz.prog.underlying 78 = some d ∧ d.isRow = true := ⟨.struct (Tryz.prog.fieldsOf 78), by kernel_rfl, rfl⟩
def ruC (r : Ru) : Array Value := #[.string (S r.nm), .bool r.an, .bool r.nt]
theorem split_pos (l : List UInt8) : 0 < (splitL l 46).length := List.length_pos_iff.2 (split_ne l 46)
theorem rule_len (l : List UInt8) : (ruleT l).nm.length ≤ l.length := by
  unfold ruleT
  split
  · simp
  · split
    · simp
    · simp

set_option maxRecDepth 4000 in
set_option maxHeartbeats 2000000 in
theorem parse_any (l : List UInt8) (w : World) (hl : l.length ≤ 4294967296) :
    Calls Tryz.prog 43 #[.string (S l)] w fun e w' => e = .returned (.tuple #[.agg (ruC (ruleT l)), .bool (ruleOk l)]) ∧ Below w.heap.size w w' := by
  have hz : (S l).size ≤ maxLen := by rw [S_size]; unfold maxLen; omega
  have hz1 : (ByteArray.mk #[42, 46]).size ≤ maxLen := by decide
  have hz2 : (ByteArray.mk #[33]).size ≤ maxLen := by decide
  have hrl := rule_len l
  have hnz : (S (ruleT l).nm).size ≤ 4294967296 := by rw [S_size]; omega
  have hcs : (Lib.hasPrefix l [42, 46] = true ∧ ruleT l = ⟨l.drop 2, true, false⟩) ∨ (Lib.hasPrefix l [42, 46] = false ∧ Lib.hasPrefix l [33] = true ∧ ruleT l = ⟨l.drop 1, false, true⟩) ∨ (Lib.hasPrefix l [42, 46] = false ∧ Lib.hasPrefix l [33] = false ∧ ruleT l = ⟨l, false, false⟩) := by
    unfold ruleT
    cases h1 : Lib.hasPrefix l [42, 46] with
    | true => exact .inl ⟨rfl, if_pos rfl⟩
    | false =>
      cases h2 : Lib.hasPrefix l [33] with
      | true => exact .inr (.inl ⟨rfl, rfl, by rw [if_neg (by decide), if_pos rfl]⟩)
      | false => exact .inr (.inr ⟨rfl, rfl, by rw [if_neg (by decide), if_neg (by decide)]⟩)
  have hok0 := Lib.hid (show ruleOk l = (nameB (ruleT l).nm && (!(ruleT l).nt || decide (1 < (splitL (ruleT l).nm 46).length))) from rfl)
  rcases hcs with ⟨hp1, hT⟩ | ⟨hp1, hp2, hT⟩ | ⟨hp1, hp2, hT⟩
  · rw [hT] at hok0 hnz hrl ⊢
    simp only at hok0 hnz hrl
    have hp1H := Lib.hid hp1
    have h2l : 2 ≤ l.length := by
      match l, hp1 with
      | [], h => cases h
      | [a], h => simp [Lib.hasPrefix] at h
      | a :: b :: r, _ => simp
    have h2i : (2 : Int) ≤ l.length := by omega
    have hx : (S l).extract 2 l.length = S (l.drop 2) := by rw [show l.length = (S l).size from (S_size l).symm, extract_from, S_toList]
    clear hp1 hT
    generalize hNM : l.drop 2 = nm at *
    clear hNM
    go_enter Tryz.func43, Tryz.ntmps43
    go_wp2_with fail
    refine (hasPrefix_any (S l) _ _ hz hz1).mono ?_
    rintro e w' ⟨rfl, rfl⟩
    rw [S_toList, show (ByteArray.mk #[42, 46]).toList = [42, 46] from S_toList [42, 46], hp1H.out]
    go_wp2_with fail
    have hs0 : (w.alloc (.cells #[.string ⟨#[]⟩, .bool false, .bool false] 78)).heap.size = w.heap.size + 1 := by simp
    have hK0 := ((Blk.new_ w 78 #[.string ⟨#[]⟩, .bool false, .bool false]).alloc (.cells #[.string (S nm), .bool true, .bool false] 78))
    have hK1 := (blk_new 78 #[.string (S nm), .bool true, .bool false] hs0)
    have hbel0 := bel_alloc (bel_alloc (Below.refl w.heap.size w) (.cells #[.string ⟨#[]⟩, .bool false, .bool false] 78)) (.cells #[.string (S nm), .bool true, .bool false] 78)
    clear hs0
    cases hnb : nameB nm with
    | true =>
      have hnb' : nameB (S nm).toList = true := by rw [S_toList]; exact hnb
      have hspl := split_pos nm
      have hok := Lib.hid (show ruleOk l = true by rw [hok0.out, hnb]; simp)
      clear hok0 hnb
      refine (labels_yes (S nm) _ hnz hnb').mono ?_
      rintro e w3 ⟨A, c, rfl, hown, hb3⟩
      rw [S_toList] at hown ⊢
      have hK03 := hK0.below hb3
      have hK13 := hK1.below hb3
      have hbel3 := bel_call hbel0 hb3
      clear hK0 hK1 hbel0 hb3 hown
      generalize (splitL nm 46).length = m at *
      have hmi : (0 : Int) < m := by omega
      have d0 := hK03.cell 0
      have d1 := hK03.cell 1
      have d2 := hK03.cell 2
      have df := hK03.free
      have c0 := hK13.cell 0
      have c1 := hK13.cell 1
      have c2 := hK13.cell 2
      have cf := hK13.free
      simp at d0 d1 d2 c0 c1 c2
      go_wp2
      refine bodyPost_ret (results_cell2 (b := w.heap.size) (o := 0) (cs := (ruC ⟨nm, true, false⟩).toList) rfl rfl (blk_range (((hK03.put 0 (.string (S nm))).put 1 (.bool true)).put 2 (.bool false))) Tryz.rowR (by kernel_rfl)) rfl ?_
      rw [hok.out]
      exact ⟨by rw [Array.toArray_toList]; rfl, ((hbel3.setCell (p := ⟨w.heap.size, 0, none⟩) (Nat.le_refl _) (.string (S nm))).setCell (p := ⟨w.heap.size, 1, none⟩) (Nat.le_refl _) (.bool true)).setCell (p := ⟨w.heap.size, 2, none⟩) (Nat.le_refl _) (.bool false)⟩
    | false =>
      have hnb' : nameB (S nm).toList = false := by rw [S_toList]; exact hnb
      have hok := Lib.hid (show ruleOk l = false by rw [hok0.out, hnb]; rfl)
      clear hok0 hnb
      refine (labels_no (S nm) _ hnz hnb').mono ?_
      rintro e w3 ⟨rfl, hb3⟩
      have hK03 := hK0.below hb3
      have hK13 := hK1.below hb3
      have hbel3 := bel_call hbel0 hb3
      clear hK0 hK1 hbel0 hb3
      have d0 := hK03.cell 0
      have d1 := hK03.cell 1
      have d2 := hK03.cell 2
      have df := hK03.free
      have c0 := hK13.cell 0
      have c1 := hK13.cell 1
      have c2 := hK13.cell 2
      have cf := hK13.free
      simp at d0 d1 d2 c0 c1 c2
      go_wp2
      refine bodyPost_ret (results_cell2 (b := w.heap.size) (o := 0) (cs := (ruC ⟨nm, true, false⟩).toList) rfl rfl (blk_range (((hK03.put 0 (.string (S nm))).put 1 (.bool true)).put 2 (.bool false))) Tryz.rowR (by kernel_rfl)) rfl ?_
      rw [hok.out]
      exact ⟨by rw [Array.toArray_toList]; rfl, ((hbel3.setCell (p := ⟨w.heap.size, 0, none⟩) (Nat.le_refl _) (.string (S nm))).setCell (p := ⟨w.heap.size, 1, none⟩) (Nat.le_refl _) (.bool true)).setCell (p := ⟨w.heap.size, 2, none⟩) (Nat.le_refl _) (.bool false)⟩
  · rw [hT] at hok0 hnz hrl ⊢
    simp only at hok0 hnz hrl
    have hp1H := Lib.hid hp1
    have hp2H := Lib.hid hp2
    have h2l : 1 ≤ l.length := by
      match l, hp2 with
      | [], h => cases h
      | a :: r, _ => simp
    have h2i : (1 : Int) ≤ l.length := by omega
    have hx : (S l).extract 1 l.length = S (l.drop 1) := by rw [show l.length = (S l).size from (S_size l).symm, extract_from, S_toList]
    clear hp1 hT hp2
    generalize hNM : l.drop 1 = nm at *
    clear hNM
    go_enter Tryz.func43, Tryz.ntmps43
    go_wp2_with fail
    refine (hasPrefix_any (S l) _ _ hz hz1).mono ?_
    rintro e w' ⟨rfl, rfl⟩
    rw [S_toList, show (ByteArray.mk #[42, 46]).toList = [42, 46] from S_toList [42, 46], hp1H.out]
    go_wp2_with fail
    refine (hasPrefix_any (S l) _ _ hz hz2).mono ?_
    rintro e w' ⟨rfl, rfl⟩
    rw [S_toList, show (ByteArray.mk #[33]).toList = [33] from S_toList [33], hp2H.out]
    go_wp2_with fail
    have hs0 : (w.alloc (.cells #[.string ⟨#[]⟩, .bool false, .bool false] 78)).heap.size = w.heap.size + 1 := by simp
    have hK0 := ((Blk.new_ w 78 #[.string ⟨#[]⟩, .bool false, .bool false]).alloc (.cells #[.string (S nm), .bool false, .bool true] 78))
    have hK1 := (blk_new 78 #[.string (S nm), .bool false, .bool true] hs0)
    have hbel0 := bel_alloc (bel_alloc (Below.refl w.heap.size w) (.cells #[.string ⟨#[]⟩, .bool false, .bool false] 78)) (.cells #[.string (S nm), .bool false, .bool true] 78)
    clear hs0
    cases hnb : nameB nm with
    | true =>
      have hnb' : nameB (S nm).toList = true := by rw [S_toList]; exact hnb
      have hspl := split_pos nm
      have hok := Lib.hid (show ruleOk l = decide ((1 : Int) < ((splitL nm 46).length : Nat)) by rw [hok0.out, hnb]; simp only [Bool.true_and, Bool.not_true, Bool.false_or]; exact decide_eq_decide.2 (by omega))
      clear hok0 hnb
      refine (labels_yes (S nm) _ hnz hnb').mono ?_
      rintro e w3 ⟨A, c, rfl, hown, hb3⟩
      rw [S_toList] at hown ⊢
      have hK03 := hK0.below hb3
      have hK13 := hK1.below hb3
      have hbel3 := bel_call hbel0 hb3
      clear hK0 hK1 hbel0 hb3 hown
      generalize (splitL nm 46).length = m at *
      have hmi : (0 : Int) < m := by omega
      have d0 := hK03.cell 0
      have d1 := hK03.cell 1
      have d2 := hK03.cell 2
      have df := hK03.free
      have c0 := hK13.cell 0
      have c1 := hK13.cell 1
      have c2 := hK13.cell 2
      have cf := hK13.free
      simp at d0 d1 d2 c0 c1 c2
      go_wp2
      refine bodyPost_ret (results_cell2 (b := w.heap.size) (o := 0) (cs := (ruC ⟨nm, false, true⟩).toList) rfl rfl (blk_range (((hK03.put 0 (.string (S nm))).put 1 (.bool false)).put 2 (.bool true))) Tryz.rowR (by kernel_rfl)) rfl ?_
      rw [hok.out]
      exact ⟨by rw [Array.toArray_toList]; rfl, ((hbel3.setCell (p := ⟨w.heap.size, 0, none⟩) (Nat.le_refl _) (.string (S nm))).setCell (p := ⟨w.heap.size, 1, none⟩) (Nat.le_refl _) (.bool false)).setCell (p := ⟨w.heap.size, 2, none⟩) (Nat.le_refl _) (.bool true)⟩
    | false =>
      have hnb' : nameB (S nm).toList = false := by rw [S_toList]; exact hnb
      have hok := Lib.hid (show ruleOk l = false by rw [hok0.out, hnb]; rfl)
      clear hok0 hnb
      refine (labels_no (S nm) _ hnz hnb').mono ?_
      rintro e w3 ⟨rfl, hb3⟩
      have hK03 := hK0.below hb3
      have hK13 := hK1.below hb3
      have hbel3 := bel_call hbel0 hb3
      clear hK0 hK1 hbel0 hb3
      have d0 := hK03.cell 0
      have d1 := hK03.cell 1
      have d2 := hK03.cell 2
      have df := hK03.free
      have c0 := hK13.cell 0
      have c1 := hK13.cell 1
      have c2 := hK13.cell 2
      have cf := hK13.free
      simp at d0 d1 d2 c0 c1 c2
      go_wp2
      refine bodyPost_ret (results_cell2 (b := w.heap.size) (o := 0) (cs := (ruC ⟨nm, false, true⟩).toList) rfl rfl (blk_range (((hK03.put 0 (.string (S nm))).put 1 (.bool false)).put 2 (.bool true))) Tryz.rowR (by kernel_rfl)) rfl ?_
      rw [hok.out]
      exact ⟨by rw [Array.toArray_toList]; rfl, ((hbel3.setCell (p := ⟨w.heap.size, 0, none⟩) (Nat.le_refl _) (.string (S nm))).setCell (p := ⟨w.heap.size, 1, none⟩) (Nat.le_refl _) (.bool false)).setCell (p := ⟨w.heap.size, 2, none⟩) (Nat.le_refl _) (.bool true)⟩
  · rw [hT] at hok0 hnz hrl ⊢
    simp only at hok0 hnz hrl
    have hp1H := Lib.hid hp1
    have hp2H := Lib.hid hp2
    clear hp1 hT hp2
    go_enter Tryz.func43, Tryz.ntmps43
    go_wp2_with fail
    refine (hasPrefix_any (S l) _ _ hz hz1).mono ?_
    rintro e w' ⟨rfl, rfl⟩
    rw [S_toList, show (ByteArray.mk #[42, 46]).toList = [42, 46] from S_toList [42, 46], hp1H.out]
    go_wp2_with fail
    refine (hasPrefix_any (S l) _ _ hz hz2).mono ?_
    rintro e w' ⟨rfl, rfl⟩
    rw [S_toList, show (ByteArray.mk #[33]).toList = [33] from S_toList [33], hp2H.out]
    go_wp2_with fail
    have hs0 : (w.alloc (.cells #[.string ⟨#[]⟩, .bool false, .bool false] 78)).heap.size = w.heap.size + 1 := by simp
    have hK0 := ((Blk.new_ w 78 #[.string ⟨#[]⟩, .bool false, .bool false]).alloc (.cells #[.string (S l), .bool false, .bool false] 78))
    have hK1 := (blk_new 78 #[.string (S l), .bool false, .bool false] hs0)
    have hbel0 := bel_alloc (bel_alloc (Below.refl w.heap.size w) (.cells #[.string ⟨#[]⟩, .bool false, .bool false] 78)) (.cells #[.string (S l), .bool false, .bool false] 78)
    clear hs0
    cases hnb : nameB l with
    | true =>
      have hnb' : nameB (S l).toList = true := by rw [S_toList]; exact hnb
      have hspl := split_pos l
      have hok := Lib.hid (show ruleOk l = true by rw [hok0.out, hnb]; simp)
      clear hok0 hnb
      refine (labels_yes (S l) _ hnz hnb').mono ?_
      rintro e w3 ⟨A, c, rfl, hown, hb3⟩
      rw [S_toList] at hown ⊢
      have hK03 := hK0.below hb3
      have hK13 := hK1.below hb3
      have hbel3 := bel_call hbel0 hb3
      clear hK0 hK1 hbel0 hb3 hown
      generalize (splitL l 46).length = m at *
      have hmi : (0 : Int) < m := by omega
      have d0 := hK03.cell 0
      have d1 := hK03.cell 1
      have d2 := hK03.cell 2
      have df := hK03.free
      have c0 := hK13.cell 0
      have c1 := hK13.cell 1
      have c2 := hK13.cell 2
      have cf := hK13.free
      simp at d0 d1 d2 c0 c1 c2
      go_wp2
      refine bodyPost_ret (results_cell2 (b := w.heap.size) (o := 0) (cs := (ruC ⟨l, false, false⟩).toList) rfl rfl (blk_range (((hK03.put 0 (.string (S l))).put 1 (.bool false)).put 2 (.bool false))) Tryz.rowR (by kernel_rfl)) rfl ?_
      rw [hok.out]
      exact ⟨by rw [Array.toArray_toList]; rfl, ((hbel3.setCell (p := ⟨w.heap.size, 0, none⟩) (Nat.le_refl _) (.string (S l))).setCell (p := ⟨w.heap.size, 1, none⟩) (Nat.le_refl _) (.bool false)).setCell (p := ⟨w.heap.size, 2, none⟩) (Nat.le_refl _) (.bool false)⟩
    | false =>
      have hnb' : nameB (S l).toList = false := by rw [S_toList]; exact hnb
      have hok := Lib.hid (show ruleOk l = false by rw [hok0.out, hnb]; rfl)
      clear hok0 hnb
      refine (labels_no (S l) _ hnz hnb').mono ?_
      rintro e w3 ⟨rfl, hb3⟩
      have hK03 := hK0.below hb3
      have hK13 := hK1.below hb3
      have hbel3 := bel_call hbel0 hb3
      clear hK0 hK1 hbel0 hb3
      have d0 := hK03.cell 0
      have d1 := hK03.cell 1
      have d2 := hK03.cell 2
      have df := hK03.free
      have c0 := hK13.cell 0
      have c1 := hK13.cell 1
      have c2 := hK13.cell 2
      have cf := hK13.free
      simp at d0 d1 d2 c0 c1 c2
      go_wp2
      refine bodyPost_ret (results_cell2 (b := w.heap.size) (o := 0) (cs := (ruC ⟨l, false, false⟩).toList) rfl rfl (blk_range (((hK03.put 0 (.string (S l))).put 1 (.bool false)).put 2 (.bool false))) Tryz.rowR (by kernel_rfl)) rfl ?_
      rw [hok.out]
      exact ⟨by rw [Array.toArray_toList]; rfl, ((hbel3.setCell (p := ⟨w.heap.size, 0, none⟩) (Nat.le_refl _) (.string (S l))).setCell (p := ⟨w.heap.size, 1, none⟩) (Nat.le_refl _) (.bool false)).setCell (p := ⟨w.heap.size, 2, none⟩) (Nat.le_refl _) (.bool false)⟩
end Go.Proofs.YtgfoaopfdpclhaaGreatDoor
