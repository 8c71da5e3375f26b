/-
  Joined texts: Suf4 Suf5 Suf6.
-/
import Derived.Test.YtgfoaopfdpclhaaGreatDoorBu13
namespace Go.Proofs.YtgfoaopfdpclhaaGreatDoor
open Go.RowKit
set_option linter.unusedVariables false
set_option maxRecDepth 100000

theorem Rd.texts {w : World} {n c : Nat} {A : Option Addr} {l : List (List UInt8)} (h : Rd w 1 (.slice A n c) n (l.map strV)) : l.length = n ∧ (∀ k (hk : k < l.length), ∃ b off, A = some ⟨b, off, none⟩ ∧ b < w.heap.size ∧ w.cell? ⟨b, off + k, none⟩ = some (.string (S l[k]))) := by
  have h1 := h.1
  rw [List.length_map, Nat.mul_one] at h1
  refine ⟨h1, fun k hk => ?_⟩
  obtain ⟨b, off, hA, hb, hc⟩ := h.at_ (by omega)
  refine ⟨b, off, hA, hb, ?_⟩
  rw [hc k (by rw [List.length_map]; exact hk), List.getElem?_map, List.getElem?_eq_getElem hk]
  rfl

set_option maxRecDepth 4000 in
set_option maxHeartbeats 2000000 in
theorem check_any (A : Option Addr) (n c : Nat) (rs : List (List UInt8)) (w : World) (h : Rd w 1 (.slice A n c) n (rs.map strV)) (hrs : ∀ r ∈ rs, r.length ≤ 4294967296) :
    Calls Tryz.prog 18 #[.slice A n c] w fun e w' => e = .returned (.int .i64 (checkI rs)) ∧ Below w.heap.size w w' := by
  have hcap := h.cap
  unfold maxLen at hcap
  obtain ⟨hca, hcb⟩ := hcap
  have hlen := h.texts.1
  subst hlen
  by_cases hbig : 256 < rs.length
  · have hr := Lib.hid (show checkI rs = 3 from if_pos hbig)
    have hbi : (256 : Int) < rs.length := by omega
    go_enter Tryz.func18, Tryz.ntmps18
    go_wp2
    rw [hr.out]
    go_ret
    exact ⟨rfl, Below.refl _ _⟩
  · have hr := Lib.hid (show checkI rs = if rs.all ruleOk then 0 else 1 from if_neg hbig)
    have hbi : decide ((256 : Int) < rs.length) = false := decide_eq_false (by omega)
    go_enter Tryz.func18, Tryz.ntmps18
    go_wp2
    go_loopw [12] (fun i wr => ∃ k : Nat, k ≤ rs.length ∧ i = .int .i64 k ∧ Hid ((rs.take k).all ruleOk = true) ∧ Below w.heap.size w wr) (fun i _ => rs.length - (intOf i).toNat)
    case atStart => exact ⟨0, Nat.zero_le _, rfl, rfl, Below.refl _ _⟩
    case round =>
      obtain ⟨k, hk, rfl, hall, hbel⟩ := hrel
      by_cases hlt : k < rs.length
      · have hki : (k : Int) < rs.length := by omega
        obtain ⟨b, off, rfl, hb, hx⟩ := (h.below hbel).texts.2 k hlt
        have hstep := Lib.hid (all_take_step (p := ruleOk) hlt)
        have hbad := Lib.hid (all_bad (p := ruleOk) hlt)
        have hrl := hrs _ (List.getElem_mem hlt)
        generalize rs[k] = tk at *
        go_wp2_with fail
        refine (parse_any tk _ hrl).mono ?_
        rintro e w1 ⟨rfl, hb1⟩
        have hbel1 := bel_call hbel hb1
        clear hb1 hbel hx
        unfold ruC
        generalize ruleT tk = R at *
        obtain ⟨nm, an, nt⟩ := R
        simp only
        cases hq : ruleOk tk with
        | true =>
          have hn := Lib.hid (show (rs.take (k + 1)).all ruleOk = true by rw [hstep.out, hall.out, hq]; rfl)
          have hbel2 := bel_alloc hbel1 (.cells #[.string (S nm), .bool an, .bool nt] 78)
          clear hq hstep hbad hall hbel1
          go_wp2
          go_roundw
          case rel => exact ⟨k + 1, by omega, by go_num, hn.out, hbel2⟩
          case measure => simp [intOf]; omega
        | false =>
          have hn := Lib.hid (show checkI rs = 1 by rw [hr.out, hbad.out hq]; rfl)
          have hbel2 := bel_alloc hbel1 (.cells #[.string (S nm), .bool an, .bool nt] 78)
          clear hq hstep hbad hall hbel1
          go_wp2
          rw [hn.out]
          go_ret
          exact ⟨rfl, hbel2⟩
      · obtain rfl : k = rs.length := by omega
        have hn := Lib.hid (show checkI rs = 0 by rw [hr.out, if_pos (by have := hall.out; rwa [List.take_length] at this)])
        clear hall
        go_wp2
        rw [hn.out]
        go_ret
        exact ⟨rfl, hbel⟩

/-- What keeping a rule leaves. -/
def KPost (B bn bb be : Nat) (n : List UInt8) (p : Int × Int) (w : World) (e : Ending) (w' : World) : Prop :=
  e = .returned (.tuple #[]) ∧ Blk w' bn 9 #[.string (S n)] ∧ Blk w' bb 3 #[.int .i64 p.1] ∧ Blk w' be 3 #[.int .i64 p.2] ∧ Below B w w'

set_option maxRecDepth 4000 in
set_option maxHeartbeats 4000000 in
theorem keep_any (r : Ru) (n : List UInt8) (p : Int × Int) (B bn bb be : Nat) (w : World) (hr : r.nm.length ≤ 4294967296) (hn : n.length ≤ 4294967296) (h1 : bn ≠ bb) (h2 : bn ≠ be) (h3 : bb ≠ be) (hB1 : B ≤ bn) (hB2 : B ≤ bb) (hB3 : B ≤ be)
    (hp1 : 0 ≤ p.1 ∧ p.1 ≤ 8589934592) (hp2 : 0 ≤ p.2 ∧ p.2 ≤ 8589934592)
    (hKn : Blk w bn 9 #[.string (S n)]) (hKb : Blk w bb 3 #[.int .i64 p.1]) (hKe : Blk w be 3 #[.int .i64 p.2]) :
    Calls Tryz.prog 116 #[.agg #[.string (S r.nm), .bool r.an, .bool r.nt], .pointer (some ⟨bn, 0, none⟩), .pointer (some ⟨bb, 0, none⟩), .pointer (some ⟨be, 0, none⟩)] w (KPost B bn bb be n (keepT n r p) w) := by
  obtain ⟨nm, an, nt⟩ := r
  obtain ⟨pb, pe⟩ := p
  simp only at hr hp1 hp2 hKb hKe ⊢
  have hz : (S nm).size ≤ 4294967296 := by rw [S_size]; exact hr
  have hzn : (S n).size ≤ maxLen := by rw [S_size]; unfold maxLen; omega
  have hz2 : (S (46 :: nm)).size ≤ maxLen := by rw [S_size]; unfold maxLen; simp; omega
  have hz3 : (1 : Int) + nm.length ≤ 9223372036854775807 := by omega
  have happ := Lib.hid (show (⟨#[46]⟩ : ByteArray) ++ S nm = S (46 :: nm) from S_append [46] nm)
  have hmb : manyN nm ≤ 4294967297 := by
    have := List.count_le_length (a := (46 : UInt8)) (l := nm)
    unfold manyN; omega
  have hT0 := Lib.hid (show keepT n ⟨nm, an, nt⟩ (pb, pe) = (if an && Lib.hasSuffix n (46 :: nm) then (max pb (manyN nm + 1), pe)
  else if nt && endsB n nm then (pb, max pe (manyN nm))
  else if !an && !nt && endsB n nm then (max pb (manyN nm), pe)
  else (pb, pe)) from rfl)
  have hgn := hKn.lt
  have hgb := hKb.lt
  have hge := hKe.lt
  have hB0 := Blk.new_ w 78 #[.string (S nm), .bool an, .bool nt]
  have hKn1 := hKn.alloc (.cells #[.string (S nm), .bool an, .bool nt] 78)
  have hKb1 := hKb.alloc (.cells #[.string (S nm), .bool an, .bool nt] 78)
  have hKe1 := hKe.alloc (.cells #[.string (S nm), .bool an, .bool nt] 78)
  have hbel1 := bel_alloc (Below.refl w.heap.size w) (.cells #[.string (S nm), .bool an, .bool nt] 78)
  go_enter Tryz.func116, Tryz.ntmps116
  go_wp2_with fail
  refine (many_any (S nm) _ hz).mono ?_
  rintro e w' ⟨rfl, rfl⟩
  rw [S_toList]
  generalize manyN nm = m at *
  have hb0 : (w.alloc (.cells #[.string (S nm), .bool an, .bool nt] 78)).cell? ⟨w.heap.size, 0, none⟩ = some (.string (S nm)) := hB0.cell 0
  have hb1 : (w.alloc (.cells #[.string (S nm), .bool an, .bool nt] 78)).cell? ⟨w.heap.size, 1, none⟩ = some (.bool an) := hB0.cell 1
  have hb2 : (w.alloc (.cells #[.string (S nm), .bool an, .bool nt] 78)).cell? ⟨w.heap.size, 2, none⟩ = some (.bool nt) := hB0.cell 2
  have hbelB : Below B w (w.alloc (.cells #[.string (S nm), .bool an, .bool nt] 78)) := hbel1.mono (by omega)
  have hB0' := hB0
  clear hB0 hbel1 hKn hKb hKe
  generalize w.alloc (.cells #[.string (S nm), .bool an, .bool nt] 78) = W1 at *
  have hg1 := hB0'.lt
  generalize w.heap.size = g at *
  have cn := hKn1.cell 0
  have cb := hKb1.cell 0
  have ce := hKe1.cell 0
  simp at cn cb ce
  cases an with
  | true =>
    cases hq : Lib.hasSuffix n (46 :: nm) with
    | true =>
      have hqH := Lib.hid hq
      go_wp2_with fail
      rw [happ.out]
      refine (hasSuffix_any (S n) (S (46 :: nm)) _ hzn hz2).mono ?_
      rintro e w' ⟨rfl, rfl⟩
      rw [S_toList, S_toList, hqH.out]
      by_cases hc : pb < (m : Int) + 1
      · have hT := Lib.hid (show keepT n _ (pb, pe) = (max pb ((m : Int) + 1), pe) from hT0.out.trans (by simp [hq]))
        rw [Int.max_eq_right (Int.le_of_lt hc)] at hT
        clear hT0
        have ff : W1.frozen? ⟨bb, 0, none⟩ = false := hKb1.free 0
        go_wp2
        rw [hT.out]
        first | refine bodyPost_ret (results_none rfl _ _ _) rfl ?_ | refine bodyPost_end (results_none rfl _ _ _) rfl ?_
        exact ⟨rfl, (blk_far (i := 0) hKn1 h1 (.int .i64 ((m : Int) + 1))), (hKb1.put 0 (.int .i64 ((m : Int) + 1))), (blk_far (i := 0) hKe1 h3.symm (.int .i64 ((m : Int) + 1))), hbelB.setCell (p := ⟨bb, 0, none⟩) hB2 (.int .i64 ((m : Int) + 1))⟩
      · have hT := Lib.hid (show keepT n _ (pb, pe) = (max pb ((m : Int) + 1), pe) from hT0.out.trans (by simp [hq]))
        rw [Int.max_eq_left (Int.not_lt.1 hc)] at hT
        clear hT0
        have ff : W1.frozen? ⟨bb, 0, none⟩ = false := hKb1.free 0
        go_wp2
        rw [hT.out]
        first | refine bodyPost_ret (results_none rfl _ _ _) rfl ?_ | refine bodyPost_end (results_none rfl _ _ _) rfl ?_
        exact ⟨rfl, (blk_far (i := 0) hKn1 h1 (.int .i64 (pb))), (hKb1.put 0 (.int .i64 (pb))), (blk_far (i := 0) hKe1 h3.symm (.int .i64 (pb))), hbelB.setCell (p := ⟨bb, 0, none⟩) hB2 (.int .i64 (pb))⟩
    | false =>
      have hqH := Lib.hid hq
      cases nt with
      | true =>
        go_wp2_with fail
        rw [happ.out]
        refine (hasSuffix_any (S n) (S (46 :: nm)) _ hzn hz2).mono ?_
        rintro e w' ⟨rfl, rfl⟩
        rw [S_toList, S_toList, hqH.out]
        cases he : endsB n nm with
        | true =>
          have heH := Lib.hid he
          go_wp2_with fail
          refine (ends_any n nm _ hn hr).mono ?_
          rintro e w2 ⟨rfl, hbb2⟩
          have hKn2 := hKn1.below hbb2
          have hKb2 := hKb1.below hbb2
          have hKe2 := hKe1.below hbb2
          have hbel2 : Below B w w2 := bel_onto hbelB hbb2 (by omega)
          have hbb0 : w2.cell? ⟨g, 0, none⟩ = some (.string (S nm)) := (hbb2.cell (p := ⟨g, 0, none⟩) hg1).trans hb0
          have hbb1' : w2.cell? ⟨g, 1, none⟩ = W1.cell? ⟨g, 1, none⟩ := hbb2.cell (p := ⟨g, 1, none⟩) hg1
          have hbb2' : w2.cell? ⟨g, 2, none⟩ = W1.cell? ⟨g, 2, none⟩ := hbb2.cell (p := ⟨g, 2, none⟩) hg1
          rw [hb1] at hbb1'
          rw [hb2] at hbb2'
          have cn2 := hKn2.cell 0
          have cb2 := hKb2.cell 0
          have ce2 := hKe2.cell 0
          simp at cn2 cb2 ce2
          clear hbb2
          rw [heH.out]
          by_cases hc : pe < (m : Int)
          · have hT := Lib.hid (show keepT n _ (pb, pe) = (pb, max pe ((m : Int))) from hT0.out.trans (by simp [hq, he]))
            rw [Int.max_eq_right (Int.le_of_lt hc)] at hT
            clear hT0
            have ff : w2.frozen? ⟨be, 0, none⟩ = false := hKe2.free 0
            go_wp2
            rw [hT.out]
            first | refine bodyPost_ret (results_none rfl _ _ _) rfl ?_ | refine bodyPost_end (results_none rfl _ _ _) rfl ?_
            exact ⟨rfl, (blk_far (i := 0) hKn2 h2 (.int .i64 ((m : Int)))), (blk_far (i := 0) hKb2 h3 (.int .i64 ((m : Int)))), (hKe2.put 0 (.int .i64 ((m : Int)))), hbel2.setCell (p := ⟨be, 0, none⟩) hB3 (.int .i64 ((m : Int)))⟩
          · have hT := Lib.hid (show keepT n _ (pb, pe) = (pb, max pe ((m : Int))) from hT0.out.trans (by simp [hq, he]))
            rw [Int.max_eq_left (Int.not_lt.1 hc)] at hT
            clear hT0
            have ff : w2.frozen? ⟨be, 0, none⟩ = false := hKe2.free 0
            go_wp2
            rw [hT.out]
            first | refine bodyPost_ret (results_none rfl _ _ _) rfl ?_ | refine bodyPost_end (results_none rfl _ _ _) rfl ?_
            exact ⟨rfl, (blk_far (i := 0) hKn2 h2 (.int .i64 (pe))), (blk_far (i := 0) hKb2 h3 (.int .i64 (pe))), (hKe2.put 0 (.int .i64 (pe))), hbel2.setCell (p := ⟨be, 0, none⟩) hB3 (.int .i64 (pe))⟩
        | false =>
          have heH := Lib.hid he
          go_wp2_with fail
          refine (ends_any n nm _ hn hr).mono ?_
          rintro e w2 ⟨rfl, hbb2⟩
          have hKn2 := hKn1.below hbb2
          have hKb2 := hKb1.below hbb2
          have hKe2 := hKe1.below hbb2
          have hbel2 : Below B w w2 := bel_onto hbelB hbb2 (by omega)
          have hbb0 : w2.cell? ⟨g, 0, none⟩ = some (.string (S nm)) := (hbb2.cell (p := ⟨g, 0, none⟩) hg1).trans hb0
          have hbb1' : w2.cell? ⟨g, 1, none⟩ = W1.cell? ⟨g, 1, none⟩ := hbb2.cell (p := ⟨g, 1, none⟩) hg1
          have hbb2' : w2.cell? ⟨g, 2, none⟩ = W1.cell? ⟨g, 2, none⟩ := hbb2.cell (p := ⟨g, 2, none⟩) hg1
          rw [hb1] at hbb1'
          rw [hb2] at hbb2'
          have cn2 := hKn2.cell 0
          have cb2 := hKb2.cell 0
          have ce2 := hKe2.cell 0
          simp at cn2 cb2 ce2
          clear hbb2
          rw [heH.out]
          have hT := Lib.hid (show keepT n _ (pb, pe) = (pb, pe) from hT0.out.trans (by simp [hq, he]))
          clear hT0
          go_wp2
          rw [hT.out]
          first | refine bodyPost_ret (results_none rfl _ _ _) rfl ?_ | refine bodyPost_end (results_none rfl _ _ _) rfl ?_
          exact ⟨rfl, hKn2, hKb2, hKe2, hbel2⟩
      | false =>
        go_wp2_with fail
        rw [happ.out]
        refine (hasSuffix_any (S n) (S (46 :: nm)) _ hzn hz2).mono ?_
        rintro e w' ⟨rfl, rfl⟩
        rw [S_toList, S_toList, hqH.out]
        have hT := Lib.hid (show keepT n _ (pb, pe) = (pb, pe) from hT0.out.trans (by simp [hq]))
        clear hT0
        go_wp2
        rw [hT.out]
        first | refine bodyPost_ret (results_none rfl _ _ _) rfl ?_ | refine bodyPost_end (results_none rfl _ _ _) rfl ?_
        exact ⟨rfl, hKn1, hKb1, hKe1, hbelB⟩
  | false =>
    cases he : endsB n nm with
    | true =>
      have heH := Lib.hid he
      cases nt with
      | true =>
        go_wp2_with fail
        refine (ends_any n nm _ hn hr).mono ?_
        rintro e w2 ⟨rfl, hbb2⟩
        have hKn2 := hKn1.below hbb2
        have hKb2 := hKb1.below hbb2
        have hKe2 := hKe1.below hbb2
        have hbel2 : Below B w w2 := bel_onto hbelB hbb2 (by omega)
        have hbb0 : w2.cell? ⟨g, 0, none⟩ = some (.string (S nm)) := (hbb2.cell (p := ⟨g, 0, none⟩) hg1).trans hb0
        have hbb1' : w2.cell? ⟨g, 1, none⟩ = W1.cell? ⟨g, 1, none⟩ := hbb2.cell (p := ⟨g, 1, none⟩) hg1
        have hbb2' : w2.cell? ⟨g, 2, none⟩ = W1.cell? ⟨g, 2, none⟩ := hbb2.cell (p := ⟨g, 2, none⟩) hg1
        rw [hb1] at hbb1'
        rw [hb2] at hbb2'
        have cn2 := hKn2.cell 0
        have cb2 := hKb2.cell 0
        have ce2 := hKe2.cell 0
        simp at cn2 cb2 ce2
        clear hbb2
        rw [heH.out]
        by_cases hc : pe < (m : Int)
        · have hT := Lib.hid (show keepT n _ (pb, pe) = (pb, max pe ((m : Int))) from hT0.out.trans (by simp [he]))
          rw [Int.max_eq_right (Int.le_of_lt hc)] at hT
          clear hT0
          have ff : w2.frozen? ⟨be, 0, none⟩ = false := hKe2.free 0
          go_wp2
          rw [hT.out]
          first | refine bodyPost_ret (results_none rfl _ _ _) rfl ?_ | refine bodyPost_end (results_none rfl _ _ _) rfl ?_
          exact ⟨rfl, (blk_far (i := 0) hKn2 h2 (.int .i64 ((m : Int)))), (blk_far (i := 0) hKb2 h3 (.int .i64 ((m : Int)))), (hKe2.put 0 (.int .i64 ((m : Int)))), hbel2.setCell (p := ⟨be, 0, none⟩) hB3 (.int .i64 ((m : Int)))⟩
        · have hT := Lib.hid (show keepT n _ (pb, pe) = (pb, max pe ((m : Int))) from hT0.out.trans (by simp [he]))
          rw [Int.max_eq_left (Int.not_lt.1 hc)] at hT
          clear hT0
          have ff : w2.frozen? ⟨be, 0, none⟩ = false := hKe2.free 0
          go_wp2
          rw [hT.out]
          first | refine bodyPost_ret (results_none rfl _ _ _) rfl ?_ | refine bodyPost_end (results_none rfl _ _ _) rfl ?_
          exact ⟨rfl, (blk_far (i := 0) hKn2 h2 (.int .i64 (pe))), (blk_far (i := 0) hKb2 h3 (.int .i64 (pe))), (hKe2.put 0 (.int .i64 (pe))), hbel2.setCell (p := ⟨be, 0, none⟩) hB3 (.int .i64 (pe))⟩
      | false =>
        go_wp2_with fail
        refine (ends_any n nm _ hn hr).mono ?_
        rintro e w2 ⟨rfl, hbb2⟩
        have hKn2 := hKn1.below hbb2
        have hKb2 := hKb1.below hbb2
        have hKe2 := hKe1.below hbb2
        have hbel2 : Below B w w2 := bel_onto hbelB hbb2 (by omega)
        have hbb0 : w2.cell? ⟨g, 0, none⟩ = some (.string (S nm)) := (hbb2.cell (p := ⟨g, 0, none⟩) hg1).trans hb0
        have hbb1' : w2.cell? ⟨g, 1, none⟩ = W1.cell? ⟨g, 1, none⟩ := hbb2.cell (p := ⟨g, 1, none⟩) hg1
        have hbb2' : w2.cell? ⟨g, 2, none⟩ = W1.cell? ⟨g, 2, none⟩ := hbb2.cell (p := ⟨g, 2, none⟩) hg1
        rw [hb1] at hbb1'
        rw [hb2] at hbb2'
        have cn2 := hKn2.cell 0
        have cb2 := hKb2.cell 0
        have ce2 := hKe2.cell 0
        simp at cn2 cb2 ce2
        clear hbb2
        rw [heH.out]
        by_cases hc : pb < (m : Int)
        · have hT := Lib.hid (show keepT n _ (pb, pe) = (max pb ((m : Int)), pe) from hT0.out.trans (by simp [he]))
          rw [Int.max_eq_right (Int.le_of_lt hc)] at hT
          clear hT0
          have ff : w2.frozen? ⟨bb, 0, none⟩ = false := hKb2.free 0
          go_wp2
          rw [hT.out]
          first | refine bodyPost_ret (results_none rfl _ _ _) rfl ?_ | refine bodyPost_end (results_none rfl _ _ _) rfl ?_
          exact ⟨rfl, (blk_far (i := 0) hKn2 h1 (.int .i64 ((m : Int)))), (hKb2.put 0 (.int .i64 ((m : Int)))), (blk_far (i := 0) hKe2 h3.symm (.int .i64 ((m : Int)))), hbel2.setCell (p := ⟨bb, 0, none⟩) hB2 (.int .i64 ((m : Int)))⟩
        · have hT := Lib.hid (show keepT n _ (pb, pe) = (max pb ((m : Int)), pe) from hT0.out.trans (by simp [he]))
          rw [Int.max_eq_left (Int.not_lt.1 hc)] at hT
          clear hT0
          have ff : w2.frozen? ⟨bb, 0, none⟩ = false := hKb2.free 0
          go_wp2
          rw [hT.out]
          first | refine bodyPost_ret (results_none rfl _ _ _) rfl ?_ | refine bodyPost_end (results_none rfl _ _ _) rfl ?_
          exact ⟨rfl, (blk_far (i := 0) hKn2 h1 (.int .i64 (pb))), (hKb2.put 0 (.int .i64 (pb))), (blk_far (i := 0) hKe2 h3.symm (.int .i64 (pb))), hbel2.setCell (p := ⟨bb, 0, none⟩) hB2 (.int .i64 (pb))⟩
    | false =>
      have heH := Lib.hid he
      cases nt with
      | true =>
        go_wp2_with fail
        refine (ends_any n nm _ hn hr).mono ?_
        rintro e w2 ⟨rfl, hbb2⟩
        have hKn2 := hKn1.below hbb2
        have hKb2 := hKb1.below hbb2
        have hKe2 := hKe1.below hbb2
        have hbel2 : Below B w w2 := bel_onto hbelB hbb2 (by omega)
        have hbb0 : w2.cell? ⟨g, 0, none⟩ = some (.string (S nm)) := (hbb2.cell (p := ⟨g, 0, none⟩) hg1).trans hb0
        have hbb1' : w2.cell? ⟨g, 1, none⟩ = W1.cell? ⟨g, 1, none⟩ := hbb2.cell (p := ⟨g, 1, none⟩) hg1
        have hbb2' : w2.cell? ⟨g, 2, none⟩ = W1.cell? ⟨g, 2, none⟩ := hbb2.cell (p := ⟨g, 2, none⟩) hg1
        rw [hb1] at hbb1'
        rw [hb2] at hbb2'
        have cn2 := hKn2.cell 0
        have cb2 := hKb2.cell 0
        have ce2 := hKe2.cell 0
        simp at cn2 cb2 ce2
        clear hbb2
        rw [heH.out]
        have hT := Lib.hid (show keepT n _ (pb, pe) = (pb, pe) from hT0.out.trans (by simp [he]))
        clear hT0
        go_wp2
        rw [hT.out]
        first | refine bodyPost_ret (results_none rfl _ _ _) rfl ?_ | refine bodyPost_end (results_none rfl _ _ _) rfl ?_
        exact ⟨rfl, hKn2, hKb2, hKe2, hbel2⟩
      | false =>
        go_wp2_with fail
        refine (ends_any n nm _ hn hr).mono ?_
        rintro e w2 ⟨rfl, hbb2⟩
        have hKn2 := hKn1.below hbb2
        have hKb2 := hKb1.below hbb2
        have hKe2 := hKe1.below hbb2
        have hbel2 : Below B w w2 := bel_onto hbelB hbb2 (by omega)
        have hbb0 : w2.cell? ⟨g, 0, none⟩ = some (.string (S nm)) := (hbb2.cell (p := ⟨g, 0, none⟩) hg1).trans hb0
        have hbb1' : w2.cell? ⟨g, 1, none⟩ = W1.cell? ⟨g, 1, none⟩ := hbb2.cell (p := ⟨g, 1, none⟩) hg1
        have hbb2' : w2.cell? ⟨g, 2, none⟩ = W1.cell? ⟨g, 2, none⟩ := hbb2.cell (p := ⟨g, 2, none⟩) hg1
        rw [hb1] at hbb1'
        rw [hb2] at hbb2'
        have cn2 := hKn2.cell 0
        have cb2 := hKb2.cell 0
        have ce2 := hKe2.cell 0
        simp at cn2 cb2 ce2
        clear hbb2
        rw [heH.out]
        have hT := Lib.hid (show keepT n _ (pb, pe) = (pb, pe) from hT0.out.trans (by simp [he]))
        clear hT0
        go_wp2
        rw [hT.out]
        first | refine bodyPost_ret (results_none rfl _ _ _) rfl ?_ | refine bodyPost_end (results_none rfl _ _ _) rfl ?_
        exact ⟨rfl, hKn2, hKb2, hKe2, hbel2⟩
end Go.Proofs.YtgfoaopfdpclhaaGreatDoor
namespace Go.Proofs.YtgfoaopfdpclhaaGreatDoor
open Go.RowKit
set_option linter.unusedVariables false
set_option maxRecDepth 100000

def PBd (p : Int × Int) : Prop := (0 ≤ p.1 ∧ p.1 ≤ 4294967298) ∧ (0 ≤ p.2 ∧ p.2 ≤ 4294967298)
theorem keep_bd (n : List UInt8) (r : Ru) (p : Int × Int) (h : PBd p) (hr : r.nm.length ≤ 4294967296) : PBd (keepT n r p) := by
  have hmb : manyN r.nm ≤ 4294967297 := by
    have := List.count_le_length (a := (46 : UInt8)) (l := r.nm)
    unfold manyN; omega
  have hmb2 : (manyN r.nm : Int) ≤ 4294967297 := by omega
  obtain ⟨⟨a1, a2⟩, b1, b2⟩ := h
  unfold keepT
  split
  · exact ⟨⟨Int.le_trans a1 (Int.le_max_left _ _), Int.max_le.2 ⟨a2, by omega⟩⟩, b1, b2⟩
  · split
    · exact ⟨⟨a1, a2⟩, Int.le_trans b1 (Int.le_max_left _ _), Int.max_le.2 ⟨b2, by omega⟩⟩
    · split
      · exact ⟨⟨Int.le_trans a1 (Int.le_max_left _ _), Int.max_le.2 ⟨a2, by omega⟩⟩, b1, b2⟩
      · exact ⟨⟨a1, a2⟩, b1, b2⟩
theorem foldR_step (n : List UInt8) (rs : List (List UInt8)) (k : Nat) (h : k < rs.length) (p : Int × Int) : foldR n (rs.drop k) p = foldR n (rs.drop (k + 1)) (keepT n (ruleT rs[k]) p) := by
  rw [List.drop_eq_getElem_cons h]; rfl

set_option maxRecDepth 4000 in
set_option maxHeartbeats 4000000 in
theorem of_any (A : Option Addr) (n0 c : Nat) (rs : List (List UInt8)) (n : List UInt8) (w : World) (h : Rd w 1 (.slice A n0 c) n0 (rs.map strV)) (hrs : ∀ r ∈ rs, r.length ≤ 4294967296) (hn : n.length ≤ 4294967296) :
    Calls Tryz.prog 88 #[.slice A n0 c, .string (S n)] w fun e w' => e = .returned (.tuple #[.string (S (ofT rs n).1), .int .i64 (ofT rs n).2]) ∧ Below w.heap.size w w' := by
  have hmf : ∀ (fn : Fn) (first cap : Array Value) (w : World), (Instr.makeFunc fn first cap).run Tryz.prog w = .ok (.func fn first cap) w := fun _ _ _ _ => rfl
  have hcap := h.cap
  unfold maxLen at hcap
  obtain ⟨hca, hcb⟩ := hcap
  have hlen := h.texts.1
  subst hlen
  have hnz : (S n).size ≤ 4294967296 := by rw [S_size]; exact hn
  have hK0 := Blk.new_ w 9 #[.string (S n)]
  have hb0 := bel_alloc (Below.refl w.heap.size w) (.cells #[.string (S n)] 9)
  have hr0 := h.alloc (.cells #[.string (S n)] 9)
  by_cases hck : checkI rs = 0
  · have hckH := Lib.hid hck
    cases hnb : nameB n with
    | false =>
      have hT := Lib.hid (show ofT rs n = ([], 1) by unfold ofT; rw [if_neg (by simp [hck]), hnb]; rfl)
      have hnb' : nameB (S n).toList = false := by rw [S_toList]; exact hnb
      clear hck hnb
      go_enter Tryz.func88, Tryz.ntmps88
      go_wp2_with fail
      refine (check_any A rs.length c rs _ hr0 hrs).mono ?_
      rintro e w1 ⟨rfl, hb1⟩
      rw [hckH.out]
      have hK1 := hK0.below hb1
      have hbel1 := bel_call hb0 hb1
      have cn := hK1.cell 0
      simp at cn
      clear hb0 hb1 hK0 hr0
      go_wp2_with fail
      refine (labels_no (S n) _ hnz hnb').mono ?_
      rintro e w2 ⟨rfl, hb2⟩
      have hbel2 := bel_call hbel1 hb2
      go_wp2
      go_ret2
      rw [hT.out]
      exact ⟨rfl, hbel2⟩
    | true =>
      have hT := Lib.hid (show ofT rs n = (tailL n (bestI n rs), 0) by unfold ofT; rw [if_neg (by simp [hck]), hnb]; rfl)
      have hnb' : nameB (S n).toList = true := by rw [S_toList]; exact hnb
      have hspl := split_pos n
      have hst := Lib.hid (show foldR n rs (1, 0) = foldR n (rs.drop 0) (1, 0) from rfl)
      clear hck hnb
      go_enter Tryz.func88, Tryz.ntmps88
      go_wp2_with fail
      refine (check_any A rs.length c rs _ hr0 hrs).mono ?_
      rintro e w1 ⟨rfl, hb1⟩
      rw [hckH.out]
      have hK1 := hK0.below hb1
      have hbel1 := bel_call hb0 hb1
      have cn := hK1.cell 0
      simp at cn
      clear hb0 hb1 hK0 hr0
      go_wp2_with fail
      refine (labels_yes (S n) _ hnz hnb').mono ?_
      rintro e w2 ⟨A2, c2, rfl, hown2, hb2⟩
      rw [S_toList]
      have hK2 := hK1.below hb2
      have hbel2 := bel_call hbel1 hb2
      have hlt2 := hK2.lt
      clear hown2 hb2 hK1 hbel1 cn
      generalize (splitL n 46).length = m at *
      have hmi : ((m : Int) == 0) = false := beq_eq_false_iff_ne.2 (by omega)
      have hs3 : (w2.alloc (.cells #[.int .i64 1] 3)).heap.size = w2.heap.size + 1 := by simp
      have hKn := (hK2.alloc (.cells #[.int .i64 1] 3)).alloc (.cells #[.int .i64 0] 3)
      have hKb := (Blk.new_ w2 3 #[.int .i64 1]).alloc (.cells #[.int .i64 0] 3)
      have hKe := blk_new 3 #[.int .i64 0] hs3
      have hbel3 := bel_alloc (bel_alloc hbel2 (.cells #[.int .i64 1] 3)) (.cells #[.int .i64 0] 3)
      have hlb := hbel2.size
      clear hs3 hK2 hbel2
      go_wp2
      generalize w2.heap.size = g at *
      go_loopw [26] (fun i wr => ∃ (k : Nat) (p : Int × Int), i = .int .i64 k ∧ k ≤ rs.length ∧ PBd p ∧ Blk wr w.heap.size 9 #[.string (S n)] ∧ Blk wr g 3 #[.int .i64 p.1] ∧ Blk wr (g + 1) 3 #[.int .i64 p.2] ∧ Below w.heap.size w wr ∧ Hid (foldR n rs (1, 0) = foldR n (rs.drop k) p)) (fun i _ => rs.length - (intOf i).toNat)
      case atStart => exact ⟨0, (1, 0), rfl, by omega, ⟨by decide, by decide⟩, hKn, hKb, hKe, hbel3, hst.out⟩
      case round =>
        clear hKn hKb hKe hbel3 hst
        obtain ⟨k, p, rfl, hk, hpb, hKn, hKb, hKe, hbel, hin⟩ := hrel
        by_cases hlt : k < rs.length
        · have hki : (k : Int) < rs.length := by omega
          obtain ⟨b, off, rfl, hb, hx⟩ := (h.below hbel).texts.2 k hlt
          have hst2 := Lib.hid (hin.out.trans (foldR_step n rs k hlt p))
          have hrl := hrs _ (List.getElem_mem hlt)
          clear hin
          generalize rs[k] = tk at *
          have hrn := rule_len tk
          go_wp2_with fail
          refine (parse_any tk _ hrl).mono ?_
          rintro e w3 ⟨rfl, hb3⟩
          have hKn3 := hKn.below hb3
          have hKb3 := hKb.below hb3
          have hKe3 := hKe.below hb3
          have hbel3 := bel_call hbel hb3
          clear hb3 hbel hx hKn hKb hKe hb
          have hpb2 := keep_bd n (ruleT tk) p hpb (by omega)
          have hkp := Lib.hid (show ruC (ruleT tk) = #[.string (S (ruleT tk).nm), .bool (ruleT tk).an, .bool (ruleT tk).nt] from rfl)
          rw [hkp.out]
          have hKn4 := hKn3.alloc (.cells #[.string (S (ruleT tk).nm), .bool (ruleT tk).an, .bool (ruleT tk).nt] 78)
          have hKb4 := hKb3.alloc (.cells #[.string (S (ruleT tk).nm), .bool (ruleT tk).an, .bool (ruleT tk).nt] 78)
          have hKe4 := hKe3.alloc (.cells #[.string (S (ruleT tk).nm), .bool (ruleT tk).an, .bool (ruleT tk).nt] 78)
          have hbel4 := bel_alloc hbel3 (.cells #[.string (S (ruleT tk).nm), .bool (ruleT tk).an, .bool (ruleT tk).nt] 78)
          go_wp2_with fail
          refine (keep_any (ruleT tk) n p w.heap.size w.heap.size g (g + 1) _ (by omega) hn (by omega) (by omega) (by omega) (Nat.le_refl _) (by omega) (by omega) ⟨hpb.1.1, by have := hpb.1.2; omega⟩ ⟨hpb.2.1, by have := hpb.2.2; omega⟩ hKn4 hKb4 hKe4).mono ?_
          rintro e w5 ⟨rfl, hKn5, hKb5, hKe5, hbel5⟩
          have hbel6 := hbel4.trans hbel5
          clear hKn3 hKb3 hKe3 hKn4 hKb4 hKe4 hbel3 hbel4 hbel5
          go_wp2
          go_roundw
          case rel => exact ⟨k + 1, keepT n (ruleT tk) p, by go_num, by omega, hpb2, hKn5, hKb5, hKe5, hbel6, hst2.out⟩
          case measure => simp [intOf]; omega
        · obtain rfl : k = rs.length := by omega
          have hfin := Lib.hid (show foldR n rs (1, 0) = p from hin.out.trans (by rw [List.drop_length]; rfl))
          clear hin
          have cn := hKn.cell 0
          have cb := hKb.cell 0
          have ce := hKe.cell 0
          have fb := hKb.free 0
          simp at cn cb ce
          obtain ⟨pb, pe⟩ := p
          simp only at cb ce hKb hKe
          obtain ⟨⟨q1, q2⟩, q3, q4⟩ := hpb
          simp only at q1 q2 q3 q4
          by_cases he : 0 < pe
          · have hB := Lib.hid (show bestI n rs = pe - 1 by unfold bestI; rw [hfin.out]; exact if_pos he)
            have hb2 := bel_onto hbel (Below.refl _ _) hbel.size
            have hbel7 := hbel.setCell (p := ⟨g, 0, none⟩) (by omega) (.int .i64 (pe - 1))
            go_wp2_with fail
            refine (tail_any n (pe - 1) _ hn (by omega) (by omega)).mono ?_
            rintro e w7 ⟨rfl, hb7⟩
            have hbel8 := bel_onto hbel7 hb7 hbel7.size
            go_wp2
            go_ret2
            rw [hT.out, hB.out]
            exact ⟨rfl, hbel8⟩
          · have hB := Lib.hid (show bestI n rs = pb by unfold bestI; rw [hfin.out]; exact if_neg he)
            go_wp2_with fail
            refine (tail_any n pb _ hn (by omega) (by omega)).mono ?_
            rintro e w7 ⟨rfl, hb7⟩
            have hbel8 := bel_call hbel hb7
            go_wp2
            go_ret2
            rw [hT.out, hB.out]
            exact ⟨rfl, hbel8⟩
  · have hT := Lib.hid (show ofT rs n = ([], checkI rs) from if_pos hck)
    have hne : ((checkI rs) != 0) = true := by simpa using hck
    clear hck
    go_enter Tryz.func88, Tryz.ntmps88
    go_wp2_with fail
    refine (check_any A rs.length c rs _ hr0 hrs).mono ?_
    rintro e w1 ⟨rfl, hb1⟩
    have hbel1 := bel_call hb0 hb1
    generalize checkI rs = ck at *
    go_wp2
    go_ret2
    rw [hT.out]
    exact ⟨rfl, hbel1⟩
end Go.Proofs.YtgfoaopfdpclhaaGreatDoor
namespace Go.Proofs.YtgfoaopfdpclhaaGreatDoor
open Go.RowKit
set_option linter.unusedVariables false
set_option maxRecDepth 100000

def publicB (rs : List (List UInt8)) (n : List UInt8) : Bool := decide ((ofT rs n).2 = 0) && (ofT rs n).1 == n
set_option maxHeartbeats 1000000 in
theorem public_any (A : Option Addr) (n0 c : Nat) (rs : List (List UInt8)) (n : List UInt8) (w : World) (h : Rd w 1 (.slice A n0 c) n0 (rs.map strV)) (hrs : ∀ r ∈ rs, r.length ≤ 4294967296) (hn : n.length ≤ 4294967296) :
    Calls Tryz.prog 57 #[.slice A n0 c, .string (S n)] w fun e w' => e = .returned (.bool (publicB rs n)) ∧ Below w.heap.size w w' := by
  obtain ⟨s, e0, hs⟩ : ∃ s e0, ofT rs n = (s, e0) := ⟨_, _, rfl⟩
  have hsH := Lib.hid hs
  have hr := Lib.hid (show publicB rs n = (decide (e0 = 0) && s == n) by unfold publicB; rw [hs])
  clear hs
  cases hq : (s == n)
  all_goals
    by_cases he : e0 = 0
    all_goals
      go_enter Tryz.func57, Tryz.ntmps57
      go_wp2_with fail
      refine (of_any A n0 c rs n _ h hrs hn).mono ?_
      rintro e w1 ⟨rfl, hb1⟩
      rw [hsH.out]
      go_wp2
      go_ret
      exact ⟨ret_bool (by rw [hr.out, hq]; simp [he]), hb1⟩

def awR : List (List UInt8) := [[116, 101, 115, 116], [99, 111, 46, 116, 101, 115, 116], [42, 46, 99, 105, 116, 121], [33, 111, 119, 110, 46, 99, 105, 116, 121]]
theorem aw_1 : ofT awR [97, 46, 98, 46, 99, 111, 46, 116, 101, 115, 116] = ([99, 111, 46, 116, 101, 115, 116], 0) := by decide +kernel
theorem aw_2 : ofT awR [97, 46, 98, 46, 99, 105, 116, 121] = ([98, 46, 99, 105, 116, 121], 0) := by decide +kernel
theorem aw_3 : ofT awR [120, 46, 111, 119, 110, 46, 99, 105, 116, 121] = ([99, 105, 116, 121], 0) := by decide +kernel
theorem aw_4 : publicB awR [116, 101, 115, 116] = true := by decide +kernel

def lightS (rs : List (List UInt8)) : Bool := !(decide (60 < rs.length) && decide (rs.length ≤ 256) || decide (300 < rs.length)) && rs.all fun r => decide (r.length ≤ 300)
end Go.Proofs.YtgfoaopfdpclhaaGreatDoor
