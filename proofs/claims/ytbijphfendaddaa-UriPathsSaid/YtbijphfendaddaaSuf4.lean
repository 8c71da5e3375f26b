/-
  The walks of package suffix: rules checked; a rule kept.
-/
import Derived.Test.YtbijphfendaddaaSuf3
namespace Go.Proofs.Ytbijphfendaddaa
open Go.RowKit
set_option linter.unusedVariables false

theorem all_take_step {α : Type} {p : α → Bool} {l : List α} {k : Nat} (h : k < l.length) : (l.take (k + 1)).all p = ((l.take k).all p && p l[k]) := by
  rw [List.take_succ_eq_append_getElem h, List.all_append]; simp
theorem all_bad {α : Type} {p : α → Bool} {l : List α} {k : Nat} (h : k < l.length) (hp : p l[k] = false) : l.all p = false := by
  rw [List.all_eq_false]
  exact ⟨l[k], List.getElem_mem h, by simp [hp]⟩
theorem Rd.texts {w : World} {n c : Nat} {A : Option Addr} {l : List (List UInt8)} (h : Rd w 1 (.slice A n c) n (l.map strV)) : l.length = n ∧ (∀ k (hk : k < l.length), ∃ b off, A = some ⟨b, off, none⟩ ∧ b < w.heap.size ∧ w.cell? ⟨b, off + k, none⟩ = some (.string (S l[k]))) := by
  have h1 := h.1
  rw [List.length_map, Nat.mul_one] at h1
  refine ⟨h1, fun k hk => ?_⟩
  obtain ⟨b, off, hA, hb, hc⟩ := h.at_ (by omega)
  refine ⟨b, off, hA, hb, ?_⟩
  rw [hc k (by rw [List.length_map]; exact hk), List.getElem?_map, List.getElem?_eq_getElem hk]
  rfl

set_option maxRecDepth 4000 in
set_option maxHeartbeats 2000000 in
theorem check_any (A : Option Addr) (n c : Nat) (rs : List (List UInt8)) (w : World) (h : Rd w 1 (.slice A n c) n (rs.map strV)) (hrs : ∀ r ∈ rs, r.length ≤ 4294967296) :
    Calls Try.prog 15 #[.slice A n c] w fun e w' => e = .returned (.int .i64 (checkI rs)) ∧ Below w.heap.size w w' := by
  have hcap := h.cap
  unfold maxLen at hcap
  obtain ⟨hca, hcb⟩ := hcap
  have hlen := h.texts.1
  subst hlen
  by_cases hbig : 256 < rs.length
  · have hr := Lib.hid (show checkI rs = 3 from if_pos hbig)
    have hbi : (256 : Int) < rs.length := by omega
    go_enter Try.func15, Try.ntmps15
    go_wp2
    rw [hr.out]
    go_ret
    exact ⟨rfl, Below.refl _ _⟩
  · have hr := Lib.hid (show checkI rs = if rs.all ruleOk then 0 else 1 from if_neg hbig)
    have hbi : decide ((256 : Int) < rs.length) = false := decide_eq_false (by omega)
    go_enter Try.func15, Try.ntmps15
    go_wp2
    go_loopw [12] (fun i wr => ∃ k : Nat, k ≤ rs.length ∧ i = .int .i64 k ∧ Hid ((rs.take k).all ruleOk = true) ∧ Below w.heap.size w wr) (fun i _ => rs.length - (intOf i).toNat)
    case atStart => exact ⟨0, Nat.zero_le _, rfl, rfl, Below.refl _ _⟩
    case round =>
      obtain ⟨k, hk, rfl, hall, hbel⟩ := hrel
      by_cases hlt : k < rs.length
      · have hki : (k : Int) < rs.length := by omega
        obtain ⟨b, off, rfl, hb, hx⟩ := (h.below hbel).texts.2 k hlt
        have hstep := Lib.hid (all_take_step (p := ruleOk) hlt)
        have hbad := Lib.hid (all_bad (p := ruleOk) hlt)
        have hrl := hrs _ (List.getElem_mem hlt)
        generalize rs[k] = tk at *
        go_wp2_with fail
        refine (parse_any tk _ hrl).mono ?_
        rintro e w1 ⟨rfl, hb1⟩
        have hbel1 := bel_call hbel hb1
        clear hb1 hbel hx
        unfold ruC
        generalize ruleT tk = R at *
        obtain ⟨nm, an, nt⟩ := R
        simp only
        cases hq : ruleOk tk with
        | true =>
          have hn := Lib.hid (show (rs.take (k + 1)).all ruleOk = true by rw [hstep.out, hall.out, hq]; rfl)
          have hbel2 := bel_alloc hbel1 (.cells #[.string (S nm), .bool an, .bool nt] 47)
          clear hq hstep hbad hall hbel1
          go_wp2
          go_roundw
          case rel => exact ⟨k + 1, by omega, by go_num, hn.out, hbel2⟩
          case measure => simp [intOf]; omega
        | false =>
          have hn := Lib.hid (show checkI rs = 1 by rw [hr.out, hbad.out hq]; rfl)
          have hbel2 := bel_alloc hbel1 (.cells #[.string (S nm), .bool an, .bool nt] 47)
          clear hq hstep hbad hall hbel1
          go_wp2
          rw [hn.out]
          go_ret
          exact ⟨rfl, hbel2⟩
      · obtain rfl : k = rs.length := by omega
        have hn := Lib.hid (show checkI rs = 0 by rw [hr.out, if_pos (by have := hall.out; rwa [List.take_length] at this)])
        clear hall
        go_wp2
        rw [hn.out]
        go_ret
        exact ⟨rfl, hbel⟩

/-- What keeping a rule leaves. -/
def KPost (B bn bb be : Nat) (n : List UInt8) (p : Int × Int) (w : World) (e : Ending) (w' : World) : Prop :=
  e = .returned (.tuple #[]) ∧ Blk w' bn 9 #[.string (S n)] ∧ Blk w' bb 3 #[.int .i64 p.1] ∧ Blk w' be 3 #[.int .i64 p.2] ∧ Below B w w'

set_option maxRecDepth 4000 in
set_option maxHeartbeats 4000000 in
theorem keep_any (r : Ru) (n : List UInt8) (p : Int × Int) (B bn bb be : Nat) (w : World) (hr : r.nm.length ≤ 4294967296) (hn : n.length ≤ 4294967296) (h1 : bn ≠ bb) (h2 : bn ≠ be) (h3 : bb ≠ be) (hB1 : B ≤ bn) (hB2 : B ≤ bb) (hB3 : B ≤ be)
    (hp1 : 0 ≤ p.1 ∧ p.1 ≤ 8589934592) (hp2 : 0 ≤ p.2 ∧ p.2 ≤ 8589934592)
    (hKn : Blk w bn 9 #[.string (S n)]) (hKb : Blk w bb 3 #[.int .i64 p.1]) (hKe : Blk w be 3 #[.int .i64 p.2]) :
    Calls Try.prog 27 #[.agg #[.string (S r.nm), .bool r.an, .bool r.nt], .pointer (some ⟨bn, 0, none⟩), .pointer (some ⟨bb, 0, none⟩), .pointer (some ⟨be, 0, none⟩)] w (KPost B bn bb be n (keepT n r p) w) := by
  obtain ⟨nm, an, nt⟩ := r
  obtain ⟨pb, pe⟩ := p
  simp only at hr hp1 hp2 hKb hKe ⊢
  have hz : (S nm).size ≤ 4294967296 := by rw [S_size]; exact hr
  have hzn : (S n).size ≤ maxLen := by rw [S_size]; unfold maxLen; omega
  have hz2 : (S (46 :: nm)).size ≤ maxLen := by rw [S_size]; unfold maxLen; simp; omega
  have hz3 : (1 : Int) + nm.length ≤ 9223372036854775807 := by omega
  have happ := Lib.hid (show (⟨#[46]⟩ : ByteArray) ++ S nm = S (46 :: nm) from S_append [46] nm)
  have hmb : manyN nm ≤ 4294967297 := by
    have := List.count_le_length (a := (46 : UInt8)) (l := nm)
    unfold manyN; omega
  have hT0 := Lib.hid (show keepT n ⟨nm, an, nt⟩ (pb, pe) = (if an && Lib.hasSuffix n (46 :: nm) then (max pb (manyN nm + 1), pe)
  else if nt && endsB n nm then (pb, max pe (manyN nm))
  else if !an && !nt && endsB n nm then (max pb (manyN nm), pe)
  else (pb, pe)) from rfl)
  have hgn := hKn.lt
  have hgb := hKb.lt
  have hge := hKe.lt
  have hB0 := Blk.new_ w 47 #[.string (S nm), .bool an, .bool nt]
  have hKn1 := hKn.alloc (.cells #[.string (S nm), .bool an, .bool nt] 47)
  have hKb1 := hKb.alloc (.cells #[.string (S nm), .bool an, .bool nt] 47)
  have hKe1 := hKe.alloc (.cells #[.string (S nm), .bool an, .bool nt] 47)
  have hbel1 := bel_alloc (Below.refl w.heap.size w) (.cells #[.string (S nm), .bool an, .bool nt] 47)
  go_enter Try.func27, Try.ntmps27
  go_wp2_with fail
  refine (many_any (S nm) _ hz).mono ?_
  rintro e w' ⟨rfl, rfl⟩
  rw [S_toList]
  generalize manyN nm = m at *
  have hb0 : (w.alloc (.cells #[.string (S nm), .bool an, .bool nt] 47)).cell? ⟨w.heap.size, 0, none⟩ = some (.string (S nm)) := hB0.cell 0
  have hb1 : (w.alloc (.cells #[.string (S nm), .bool an, .bool nt] 47)).cell? ⟨w.heap.size, 1, none⟩ = some (.bool an) := hB0.cell 1
  have hb2 : (w.alloc (.cells #[.string (S nm), .bool an, .bool nt] 47)).cell? ⟨w.heap.size, 2, none⟩ = some (.bool nt) := hB0.cell 2
  have hbelB : Below B w (w.alloc (.cells #[.string (S nm), .bool an, .bool nt] 47)) := hbel1.mono (by omega)
  have hB0' := hB0
  clear hB0 hbel1 hKn hKb hKe
  generalize w.alloc (.cells #[.string (S nm), .bool an, .bool nt] 47) = W1 at *
  have hg1 := hB0'.lt
  generalize w.heap.size = g at *
  have cn := hKn1.cell 0
  have cb := hKb1.cell 0
  have ce := hKe1.cell 0
  simp at cn cb ce
  cases an with
  | true =>
    cases hq : Lib.hasSuffix n (46 :: nm) with
    | true =>
      have hqH := Lib.hid hq
      go_wp2_with fail
      rw [happ.out]
      refine (hasSuffix_any (S n) (S (46 :: nm)) _ hzn hz2).mono ?_
      rintro e w' ⟨rfl, rfl⟩
      rw [S_toList, S_toList, hqH.out]
      by_cases hc : pb < (m : Int) + 1
      · have hT := Lib.hid (show keepT n _ (pb, pe) = (max pb ((m : Int) + 1), pe) from hT0.out.trans (by simp [hq]))
        rw [Int.max_eq_right (Int.le_of_lt hc)] at hT
        clear hT0
        have ff : W1.frozen? ⟨bb, 0, none⟩ = false := hKb1.free 0
        go_wp2
        rw [hT.out]
        first | refine bodyPost_ret (results_none rfl _ _ _) rfl ?_ | refine bodyPost_end (results_none rfl _ _ _) rfl ?_
        exact ⟨rfl, (blk_far (i := 0) hKn1 h1 (.int .i64 ((m : Int) + 1))), (hKb1.put 0 (.int .i64 ((m : Int) + 1))), (blk_far (i := 0) hKe1 h3.symm (.int .i64 ((m : Int) + 1))), hbelB.setCell (p := ⟨bb, 0, none⟩) hB2 (.int .i64 ((m : Int) + 1))⟩
      · have hT := Lib.hid (show keepT n _ (pb, pe) = (max pb ((m : Int) + 1), pe) from hT0.out.trans (by simp [hq]))
        rw [Int.max_eq_left (Int.not_lt.1 hc)] at hT
        clear hT0
        have ff : W1.frozen? ⟨bb, 0, none⟩ = false := hKb1.free 0
        go_wp2
        rw [hT.out]
        first | refine bodyPost_ret (results_none rfl _ _ _) rfl ?_ | refine bodyPost_end (results_none rfl _ _ _) rfl ?_
        exact ⟨rfl, (blk_far (i := 0) hKn1 h1 (.int .i64 (pb))), (hKb1.put 0 (.int .i64 (pb))), (blk_far (i := 0) hKe1 h3.symm (.int .i64 (pb))), hbelB.setCell (p := ⟨bb, 0, none⟩) hB2 (.int .i64 (pb))⟩
    | false =>
      have hqH := Lib.hid hq
      cases nt with
      | true =>
        go_wp2_with fail
        rw [happ.out]
        refine (hasSuffix_any (S n) (S (46 :: nm)) _ hzn hz2).mono ?_
        rintro e w' ⟨rfl, rfl⟩
        rw [S_toList, S_toList, hqH.out]
        cases he : endsB n nm with
        | true =>
          have heH := Lib.hid he
          go_wp2_with fail
          refine (ends_any n nm _ hn hr).mono ?_
          rintro e w2 ⟨rfl, hbb2⟩
          have hKn2 := hKn1.below hbb2
          have hKb2 := hKb1.below hbb2
          have hKe2 := hKe1.below hbb2
          have hbel2 : Below B w w2 := bel_onto hbelB hbb2 (by omega)
          have hbb0 : w2.cell? ⟨g, 0, none⟩ = some (.string (S nm)) := (hbb2.cell (p := ⟨g, 0, none⟩) hg1).trans hb0
          have hbb1' : w2.cell? ⟨g, 1, none⟩ = W1.cell? ⟨g, 1, none⟩ := hbb2.cell (p := ⟨g, 1, none⟩) hg1
          have hbb2' : w2.cell? ⟨g, 2, none⟩ = W1.cell? ⟨g, 2, none⟩ := hbb2.cell (p := ⟨g, 2, none⟩) hg1
          rw [hb1] at hbb1'
          rw [hb2] at hbb2'
          have cn2 := hKn2.cell 0
          have cb2 := hKb2.cell 0
          have ce2 := hKe2.cell 0
          simp at cn2 cb2 ce2
          clear hbb2
          rw [heH.out]
          by_cases hc : pe < (m : Int)
          · have hT := Lib.hid (show keepT n _ (pb, pe) = (pb, max pe ((m : Int))) from hT0.out.trans (by simp [hq, he]))
            rw [Int.max_eq_right (Int.le_of_lt hc)] at hT
            clear hT0
            have ff : w2.frozen? ⟨be, 0, none⟩ = false := hKe2.free 0
            go_wp2
            rw [hT.out]
            first | refine bodyPost_ret (results_none rfl _ _ _) rfl ?_ | refine bodyPost_end (results_none rfl _ _ _) rfl ?_
            exact ⟨rfl, (blk_far (i := 0) hKn2 h2 (.int .i64 ((m : Int)))), (blk_far (i := 0) hKb2 h3 (.int .i64 ((m : Int)))), (hKe2.put 0 (.int .i64 ((m : Int)))), hbel2.setCell (p := ⟨be, 0, none⟩) hB3 (.int .i64 ((m : Int)))⟩
          · have hT := Lib.hid (show keepT n _ (pb, pe) = (pb, max pe ((m : Int))) from hT0.out.trans (by simp [hq, he]))
            rw [Int.max_eq_left (Int.not_lt.1 hc)] at hT
            clear hT0
            have ff : w2.frozen? ⟨be, 0, none⟩ = false := hKe2.free 0
            go_wp2
            rw [hT.out]
            first | refine bodyPost_ret (results_none rfl _ _ _) rfl ?_ | refine bodyPost_end (results_none rfl _ _ _) rfl ?_
            exact ⟨rfl, (blk_far (i := 0) hKn2 h2 (.int .i64 (pe))), (blk_far (i := 0) hKb2 h3 (.int .i64 (pe))), (hKe2.put 0 (.int .i64 (pe))), hbel2.setCell (p := ⟨be, 0, none⟩) hB3 (.int .i64 (pe))⟩
        | false =>
          have heH := Lib.hid he
          go_wp2_with fail
          refine (ends_any n nm _ hn hr).mono ?_
          rintro e w2 ⟨rfl, hbb2⟩
          have hKn2 := hKn1.below hbb2
          have hKb2 := hKb1.below hbb2
          have hKe2 := hKe1.below hbb2
          have hbel2 : Below B w w2 := bel_onto hbelB hbb2 (by omega)
          have hbb0 : w2.cell? ⟨g, 0, none⟩ = some (.string (S nm)) := (hbb2.cell (p := ⟨g, 0, none⟩) hg1).trans hb0
          have hbb1' : w2.cell? ⟨g, 1, none⟩ = W1.cell? ⟨g, 1, none⟩ := hbb2.cell (p := ⟨g, 1, none⟩) hg1
          have hbb2' : w2.cell? ⟨g, 2, none⟩ = W1.cell? ⟨g, 2, none⟩ := hbb2.cell (p := ⟨g, 2, none⟩) hg1
          rw [hb1] at hbb1'
          rw [hb2] at hbb2'
          have cn2 := hKn2.cell 0
          have cb2 := hKb2.cell 0
          have ce2 := hKe2.cell 0
          simp at cn2 cb2 ce2
          clear hbb2
          rw [heH.out]
          have hT := Lib.hid (show keepT n _ (pb, pe) = (pb, pe) from hT0.out.trans (by simp [hq, he]))
          clear hT0
          go_wp2
          rw [hT.out]
          first | refine bodyPost_ret (results_none rfl _ _ _) rfl ?_ | refine bodyPost_end (results_none rfl _ _ _) rfl ?_
          exact ⟨rfl, hKn2, hKb2, hKe2, hbel2⟩
      | false =>
        go_wp2_with fail
        rw [happ.out]
        refine (hasSuffix_any (S n) (S (46 :: nm)) _ hzn hz2).mono ?_
        rintro e w' ⟨rfl, rfl⟩
        rw [S_toList, S_toList, hqH.out]
        have hT := Lib.hid (show keepT n _ (pb, pe) = (pb, pe) from hT0.out.trans (by simp [hq]))
        clear hT0
        go_wp2
        rw [hT.out]
        first | refine bodyPost_ret (results_none rfl _ _ _) rfl ?_ | refine bodyPost_end (results_none rfl _ _ _) rfl ?_
        exact ⟨rfl, hKn1, hKb1, hKe1, hbelB⟩
  | false =>
    cases he : endsB n nm with
    | true =>
      have heH := Lib.hid he
      cases nt with
      | true =>
        go_wp2_with fail
        refine (ends_any n nm _ hn hr).mono ?_
        rintro e w2 ⟨rfl, hbb2⟩
        have hKn2 := hKn1.below hbb2
        have hKb2 := hKb1.below hbb2
        have hKe2 := hKe1.below hbb2
        have hbel2 : Below B w w2 := bel_onto hbelB hbb2 (by omega)
        have hbb0 : w2.cell? ⟨g, 0, none⟩ = some (.string (S nm)) := (hbb2.cell (p := ⟨g, 0, none⟩) hg1).trans hb0
        have hbb1' : w2.cell? ⟨g, 1, none⟩ = W1.cell? ⟨g, 1, none⟩ := hbb2.cell (p := ⟨g, 1, none⟩) hg1
        have hbb2' : w2.cell? ⟨g, 2, none⟩ = W1.cell? ⟨g, 2, none⟩ := hbb2.cell (p := ⟨g, 2, none⟩) hg1
        rw [hb1] at hbb1'
        rw [hb2] at hbb2'
        have cn2 := hKn2.cell 0
        have cb2 := hKb2.cell 0
        have ce2 := hKe2.cell 0
        simp at cn2 cb2 ce2
        clear hbb2
        rw [heH.out]
        by_cases hc : pe < (m : Int)
        · have hT := Lib.hid (show keepT n _ (pb, pe) = (pb, max pe ((m : Int))) from hT0.out.trans (by simp [he]))
          rw [Int.max_eq_right (Int.le_of_lt hc)] at hT
          clear hT0
          have ff : w2.frozen? ⟨be, 0, none⟩ = false := hKe2.free 0
          go_wp2
          rw [hT.out]
          first | refine bodyPost_ret (results_none rfl _ _ _) rfl ?_ | refine bodyPost_end (results_none rfl _ _ _) rfl ?_
          exact ⟨rfl, (blk_far (i := 0) hKn2 h2 (.int .i64 ((m : Int)))), (blk_far (i := 0) hKb2 h3 (.int .i64 ((m : Int)))), (hKe2.put 0 (.int .i64 ((m : Int)))), hbel2.setCell (p := ⟨be, 0, none⟩) hB3 (.int .i64 ((m : Int)))⟩
        · have hT := Lib.hid (show keepT n _ (pb, pe) = (pb, max pe ((m : Int))) from hT0.out.trans (by simp [he]))
          rw [Int.max_eq_left (Int.not_lt.1 hc)] at hT
          clear hT0
          have ff : w2.frozen? ⟨be, 0, none⟩ = false := hKe2.free 0
          go_wp2
          rw [hT.out]
          first | refine bodyPost_ret (results_none rfl _ _ _) rfl ?_ | refine bodyPost_end (results_none rfl _ _ _) rfl ?_
          exact ⟨rfl, (blk_far (i := 0) hKn2 h2 (.int .i64 (pe))), (blk_far (i := 0) hKb2 h3 (.int .i64 (pe))), (hKe2.put 0 (.int .i64 (pe))), hbel2.setCell (p := ⟨be, 0, none⟩) hB3 (.int .i64 (pe))⟩
      | false =>
        go_wp2_with fail
        refine (ends_any n nm _ hn hr).mono ?_
        rintro e w2 ⟨rfl, hbb2⟩
        have hKn2 := hKn1.below hbb2
        have hKb2 := hKb1.below hbb2
        have hKe2 := hKe1.below hbb2
        have hbel2 : Below B w w2 := bel_onto hbelB hbb2 (by omega)
        have hbb0 : w2.cell? ⟨g, 0, none⟩ = some (.string (S nm)) := (hbb2.cell (p := ⟨g, 0, none⟩) hg1).trans hb0
        have hbb1' : w2.cell? ⟨g, 1, none⟩ = W1.cell? ⟨g, 1, none⟩ := hbb2.cell (p := ⟨g, 1, none⟩) hg1
        have hbb2' : w2.cell? ⟨g, 2, none⟩ = W1.cell? ⟨g, 2, none⟩ := hbb2.cell (p := ⟨g, 2, none⟩) hg1
        rw [hb1] at hbb1'
        rw [hb2] at hbb2'
        have cn2 := hKn2.cell 0
        have cb2 := hKb2.cell 0
        have ce2 := hKe2.cell 0
        simp at cn2 cb2 ce2
        clear hbb2
        rw [heH.out]
        by_cases hc : pb < (m : Int)
        · have hT := Lib.hid (show keepT n _ (pb, pe) = (max pb ((m : Int)), pe) from hT0.out.trans (by simp [he]))
          rw [Int.max_eq_right (Int.le_of_lt hc)] at hT
          clear hT0
          have ff : w2.frozen? ⟨bb, 0, none⟩ = false := hKb2.free 0
          go_wp2
          rw [hT.out]
          first | refine bodyPost_ret (results_none rfl _ _ _) rfl ?_ | refine bodyPost_end (results_none rfl _ _ _) rfl ?_
          exact ⟨rfl, (blk_far (i := 0) hKn2 h1 (.int .i64 ((m : Int)))), (hKb2.put 0 (.int .i64 ((m : Int)))), (blk_far (i := 0) hKe2 h3.symm (.int .i64 ((m : Int)))), hbel2.setCell (p := ⟨bb, 0, none⟩) hB2 (.int .i64 ((m : Int)))⟩
        · have hT := Lib.hid (show keepT n _ (pb, pe) = (max pb ((m : Int)), pe) from hT0.out.trans (by simp [he]))
          rw [Int.max_eq_left (Int.not_lt.1 hc)] at hT
          clear hT0
          have ff : w2.frozen? ⟨bb, 0, none⟩ = false := hKb2.free 0
          go_wp2
          rw [hT.out]
          first | refine bodyPost_ret (results_none rfl _ _ _) rfl ?_ | refine bodyPost_end (results_none rfl _ _ _) rfl ?_
          exact ⟨rfl, (blk_far (i := 0) hKn2 h1 (.int .i64 (pb))), (hKb2.put 0 (.int .i64 (pb))), (blk_far (i := 0) hKe2 h3.symm (.int .i64 (pb))), hbel2.setCell (p := ⟨bb, 0, none⟩) hB2 (.int .i64 (pb))⟩
    | false =>
      have heH := Lib.hid he
      cases nt with
      | true =>
        go_wp2_with fail
        refine (ends_any n nm _ hn hr).mono ?_
        rintro e w2 ⟨rfl, hbb2⟩
        have hKn2 := hKn1.below hbb2
        have hKb2 := hKb1.below hbb2
        have hKe2 := hKe1.below hbb2
        have hbel2 : Below B w w2 := bel_onto hbelB hbb2 (by omega)
        have hbb0 : w2.cell? ⟨g, 0, none⟩ = some (.string (S nm)) := (hbb2.cell (p := ⟨g, 0, none⟩) hg1).trans hb0
        have hbb1' : w2.cell? ⟨g, 1, none⟩ = W1.cell? ⟨g, 1, none⟩ := hbb2.cell (p := ⟨g, 1, none⟩) hg1
        have hbb2' : w2.cell? ⟨g, 2, none⟩ = W1.cell? ⟨g, 2, none⟩ := hbb2.cell (p := ⟨g, 2, none⟩) hg1
        rw [hb1] at hbb1'
        rw [hb2] at hbb2'
        have cn2 := hKn2.cell 0
        have cb2 := hKb2.cell 0
        have ce2 := hKe2.cell 0
        simp at cn2 cb2 ce2
        clear hbb2
        rw [heH.out]
        have hT := Lib.hid (show keepT n _ (pb, pe) = (pb, pe) from hT0.out.trans (by simp [he]))
        clear hT0
        go_wp2
        rw [hT.out]
        first | refine bodyPost_ret (results_none rfl _ _ _) rfl ?_ | refine bodyPost_end (results_none rfl _ _ _) rfl ?_
        exact ⟨rfl, hKn2, hKb2, hKe2, hbel2⟩
      | false =>
        go_wp2_with fail
        refine (ends_any n nm _ hn hr).mono ?_
        rintro e w2 ⟨rfl, hbb2⟩
        have hKn2 := hKn1.below hbb2
        have hKb2 := hKb1.below hbb2
        have hKe2 := hKe1.below hbb2
        have hbel2 : Below B w w2 := bel_onto hbelB hbb2 (by omega)
        have hbb0 : w2.cell? ⟨g, 0, none⟩ = some (.string (S nm)) := (hbb2.cell (p := ⟨g, 0, none⟩) hg1).trans hb0
        have hbb1' : w2.cell? ⟨g, 1, none⟩ = W1.cell? ⟨g, 1, none⟩ := hbb2.cell (p := ⟨g, 1, none⟩) hg1
        have hbb2' : w2.cell? ⟨g, 2, none⟩ = W1.cell? ⟨g, 2, none⟩ := hbb2.cell (p := ⟨g, 2, none⟩) hg1
        rw [hb1] at hbb1'
        rw [hb2] at hbb2'
        have cn2 := hKn2.cell 0
        have cb2 := hKb2.cell 0
        have ce2 := hKe2.cell 0
        simp at cn2 cb2 ce2
        clear hbb2
        rw [heH.out]
        have hT := Lib.hid (show keepT n _ (pb, pe) = (pb, pe) from hT0.out.trans (by simp [he]))
        clear hT0
        go_wp2
        rw [hT.out]
        first | refine bodyPost_ret (results_none rfl _ _ _) rfl ?_ | refine bodyPost_end (results_none rfl _ _ _) rfl ?_
        exact ⟨rfl, hKn2, hKb2, hKe2, hbel2⟩
end Go.Proofs.Ytbijphfendaddaa
