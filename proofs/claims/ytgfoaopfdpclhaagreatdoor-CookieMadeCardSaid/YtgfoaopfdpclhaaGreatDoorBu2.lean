/-
  Joined texts: Ascii3 Ascii4 Ascii5 Ascii6.
-/
import Derived.Test.YtgfoaopfdpclhaaGreatDoorBu1
namespace Go.Proofs.YtgfoaopfdpclhaaGreatDoor
open Go.RowKit
set_option linter.unusedVariables false
set_option maxRecDepth 100000

theorem drop_take_getD (l : List UInt8) (a j : Nat) : (l.drop a).getD j 0 = l.getD (a + j) 0 := by
  rw [List.getD_eq_getElem?_getD, List.getD_eq_getElem?_getD, List.getElem?_drop]

theorem split_at {c : UInt8} {l : List UInt8} {a k : Nat} (ha : a ≤ k) (hk : k < l.length) (h : ∀ j, j < k → a ≤ j → (l.getD j 0 == c) = false) (hh : (l.getD k 0 == c) = true) :
    splitL (l.drop a) c = ((l.drop a).take (k - a)) :: splitL (l.drop (k + 1)) c := by
  have h1 := cut_hit c (l.drop a) (k - a) (fun j hj => by rw [drop_take_getD]; exact h (a + j) (by omega) (by omega)) (by rw [drop_take_getD, show a + (k - a) = k by omega]; exact hh) (by simp; omega)
  rw [split_cut, h1]
  simp only [List.drop_drop]
  rw [show a + (k - a + 1) = k + 1 by omega]
theorem split_end {c : UInt8} {l : List UInt8} {a : Nat} (h : ∀ j, j < l.length → a ≤ j → (l.getD j 0 == c) = false) : splitL (l.drop a) c = [l.drop a] := by
  have h1 := cut_none c (l.drop a) (fun j hj => by rw [drop_take_getD]; exact h (a + j) (by simp at hj; omega) (by omega))
  rw [split_cut, h1]

set_option maxHeartbeats 1000000 in
theorem refSplit_any (s : ByteArray) (c : UInt8) (w : World) (hs : s.size ≤ 4294967296) :
    Calls Tryz.prog 63 #[.string s, .int .u8 c.toNat] w fun e w' => ∃ A cp, e = .returned (.slice A (splitL s.toList c).length cp) ∧
      w'.ownsRow w.heap.size 9 1 (.slice A (splitL s.toList c).length cp) (splitL s.toList c).length ((splitL s.toList c).map strV) ∧ Below w.heap.size w w' := by
  obtain ⟨i0, hi, hz0, hz1, hz2⟩ := info_parts Tryz.info9
  have hl := split_len s.toList c
  rw [← size_toList] at hl
  have hsz0 := Lib.hid (size_toList s)
  go_enter Tryz.func63, Tryz.ntmps63
  go_wp2
  go_loopw [5, 6, 7] (fun v fr i wr => ∃ (a k : Nat) (acc : List (List UInt8)), i = .int .i64 k ∧ fr = .int .i64 a ∧ a ≤ k ∧ k ≤ s.size ∧ wr.ownsRow w.heap.size 9 1 v acc.length (acc.map strV) ∧ Below w.heap.size w wr ∧ w.heap.size ≤ wr.heap.size ∧ Hid (splitL s.toList c = acc ++ splitL (s.toList.drop a) c) ∧ Hid (∀ j, j < k → a ≤ j → (s.toList.getD j 0 == c) = false))
    (fun _ _ i _ => s.size - (intOf i).toNat)
  case atStart => exact ⟨0, 0, [], rfl, rfl, Nat.le_refl _, Nat.zero_le _, World.ownsRow_lit w #[] 0 (Nat.le_refl _) (by unfold maxLen; omega) rfl, (Below.refl _ _).alloc (Nat.le_refl _) _, by simp, rfl, fun j hj => absurd hj (by omega)⟩
  case round =>
    obtain ⟨a, k, acc, rfl, rfl, hak, hk, hown, hbel, hsz, hch, hall⟩ := hrel
    have hacc : acc.length + 1 ≤ s.size + 1 := by
      have h1 := congrArg List.length hch.out
      have h2 := List.length_pos_iff.2 (split_ne (s.toList.drop a) c)
      simp at h1
      omega
    have haki : (a : Int) ≤ k := by omega
    by_cases hlt : k < s.size
    · have hlti : (k : Int) ≤ s.size := by omega
      have hx := Lib.hid (get_l s k hlt)
      by_cases h : (s[k] == c) = true
      · have h1 : (((s[k].toNat : Int)) == c.toNat) = true := by rw [u8_beq]; exact h
        have hch2 := Lib.hid (show splitL s.toList c = (acc ++ [(s.extract a k).toList]) ++ splitL (s.toList.drop (k + 1)) c by
          rw [hch.out, split_at hak (by rw [← hsz0.out]; exact hlt) hall.out (by rw [← hx.out]; exact h), extract_l]; simp)
        clear h
        go_wp2_with (at_builtin; refine wpList_push rfl _ _ 22 rfl w.heap.size 9 i0 (.string ByteArray.empty) 1 16 Tryz.underlying22 hi hz0 hz1 hz2 rfl (by decide) _ _ _ rfl hown _ _ rfl rfl rfl ?c1 ?c2 ?c3 hsz hbel ?_)
        case c1 => exact rfl
        case c2 => unfold maxLen; omega
        case c3 => omega
        intro v' w' hown' hg hbel' hsz'
        go_wp2
        go_roundw
        case rel =>
          refine ⟨k + 1, k + 1, acc ++ [(s.extract a k).toList], by go_num, by go_num, Nat.le_refl _, by omega, ?_, hbel', hsz', hch2.out, fun j hj hj' => absurd hj (by omega)⟩
          rw [List.map_append, List.length_append]
          have : strV (s.extract a k).toList = .string (s.extract a k) := by unfold strV; rw [S_of]
          simp only [List.map_cons, List.map_nil, this]
          exact hown'
        case measure => simp [intOf]; omega
      · have h1 : (((s[k].toNat : Int)) == c.toNat) = false := by rw [u8_beq]; simpa using h
        have hstep := Lib.hid (show ∀ j, j < k + 1 → a ≤ j → (s.toList.getD j 0 == c) = false from all_step hall.out (fun _ => by rw [← hx.out]; simpa using h))
        clear h
        go_wp2
        go_roundw
        case rel => exact ⟨a, k + 1, acc, by go_num, rfl, by omega, by omega, hown, hbel, hsz, hch, hstep⟩
        case measure => simp [intOf]; omega
    · obtain rfl : k = s.size := by omega
      have hch2 := Lib.hid (show splitL s.toList c = acc ++ [s.toList.drop a] by rw [hch.out, split_end (by rw [← hsz0.out]; exact hall.out)])
      go_wp2_with (at_builtin; refine wpList_push rfl _ _ 22 rfl w.heap.size 9 i0 (.string ByteArray.empty) 1 16 Tryz.underlying22 hi hz0 hz1 hz2 rfl (by decide) _ _ _ rfl hown _ _ rfl rfl rfl ?c1 ?c2 ?c3 hsz hbel ?_)
      case c1 => exact rfl
      case c2 => unfold maxLen; omega
      case c3 => omega
      intro v' w' hown' hg hbel' hsz'
      go_wp2
      go_ret
      rw [hch2.out, show acc.length + 1 = (acc ++ [s.toList.drop a]).length by simp] at *
      obtain ⟨A, cp, rfl⟩ := own_form hown'
      refine ⟨A, cp, rfl, ?_, hbel'⟩
      rw [List.map_append]
      have : strV (s.toList.drop a) = .string (s.extract a s.size) := by unfold strV; rw [extract_from]
      simp only [List.map_cons, List.map_nil, this]
      exact hown'

def ltrim (l : List UInt8) : List UInt8 := l.dropWhile blankB
def rtrim (l : List UInt8) : List UInt8 := (l.reverse.dropWhile blankB).reverse
def trimL (l : List UInt8) : List UInt8 := rtrim (ltrim l)
theorem ltrim_step {l : List UInt8} (h0 : 0 < l.length) (h : blankB (l.getD 0 0) = true) : ltrim l = ltrim (l.drop 1) := by
  cases l with
  | nil => simp at h0
  | cons x r => unfold ltrim; rw [List.dropWhile_cons_of_pos (by simpa using h)]; rfl
theorem ltrim_end {l : List UInt8} (h : l.length = 0 ∨ blankB (l.getD 0 0) = false) : ltrim l = l := by
  cases l with
  | nil => rfl
  | cons x r =>
    rcases h with h | h
    · simp at h
    · unfold ltrim; rw [List.dropWhile_cons_of_neg (by simpa using h)]
theorem rtrim_step {l : List UInt8} (h0 : 0 < l.length) (h : blankB (l.getD (l.length - 1) 0) = true) : rtrim l = rtrim (l.take (l.length - 1)) := by
  have e : l = l.take (l.length - 1) ++ [l.getD (l.length - 1) 0] := by
    have := take_succ_getD l (l.length - 1) (by omega)
    rw [show l.length - 1 + 1 = l.length by omega, List.take_length] at this
    exact this
  unfold rtrim
  conv => lhs; rw [e]
  rw [List.reverse_append, List.reverse_singleton, List.singleton_append, List.dropWhile_cons_of_pos (by simpa using h)]
theorem rtrim_end {l : List UInt8} (h : l.length = 0 ∨ blankB (l.getD (l.length - 1) 0) = false) : rtrim l = l := by
  rcases h with h | h
  · have : l = [] := List.eq_nil_of_length_eq_zero h
    subst this; rfl
  · by_cases h0 : l.length = 0
    · have : l = [] := List.eq_nil_of_length_eq_zero h0
      subst this; rfl
    · have e : l = l.take (l.length - 1) ++ [l.getD (l.length - 1) 0] := by
        have := take_succ_getD l (l.length - 1) (by omega)
        rw [show l.length - 1 + 1 = l.length by omega, List.take_length] at this
        exact this
      unfold rtrim
      have : l.reverse = l.getD (l.length - 1) 0 :: (l.take (l.length - 1)).reverse := by
        conv => lhs; rw [e]
        rw [List.reverse_append]; rfl
      rw [this, List.dropWhile_cons_of_neg (by simpa using h), ← this, List.reverse_reverse]

theorem isEmpty_size (s : ByteArray) : s.toList.isEmpty = decide (s.size = 0) := by
  rw [size_toList]
  cases s.toList <;> simp

set_option maxHeartbeats 1000000 in
theorem trim_any (s : ByteArray) (w : World) (hs : s.size ≤ maxLen) :
    Calls Tryz.prog 71 #[.string s] w fun e w' => e = .returned (.string (S (trimL s.toList))) ∧ w = w' := by
  unfold maxLen at hs
  go_enter Tryz.func71, Tryz.ntmps71
  go_wp2
  go_loop [0] (fun p => ∃ (t : ByteArray), p = .string t ∧ t.size ≤ s.size ∧ Hid (ltrim s.toList = ltrim t.toList)) (fun p => strSize p)
  case atStart => exact ⟨s, rfl, Nat.le_refl _, rfl⟩
  case round =>
    obtain ⟨t, rfl, ht, hch⟩ := hrel
    have ht0 := Lib.hid (isEmpty_size t)
    have htz := Lib.hid (size_toList t)
    by_cases hgo : 0 < t.size ∧ blankB (t.toList.getD 0 0) = true
    · obtain ⟨hpos, hb⟩ := hgo
      have he : t.toList.isEmpty = false := by rw [ht0.out]; exact decide_eq_false (by omega)
      have hposi : (0 : Int) < t.size := by omega
      have hposi1 : (1 : Int) ≤ t.size := by omega
      have hb2 : blankB t[0] = true := by rw [get_l]; exact hb
      have hst := Lib.hid (ltrim_step (by rw [← htz.out]; exact hpos) hb)
      clear hb
      go_wp2_with (go_at_call 102; refine (blank_any _ _).mono ?_; rintro e w' ⟨rfl, rfl⟩)
      go_round
      case rel => exact ⟨t.extract 1 t.size, rfl, by rw [extract_from, S_size, List.length_drop, ← htz.out]; omega, by show _ = _; rw [hch.out, hst.out, extract_from, S_toList]⟩
      case measure => simp only [strSize]; rw [extract_from, S_size, List.length_drop, ← htz.out]; omega
    · have hend := Lib.hid (show ltrim t.toList = t.toList from ltrim_end (by
        rw [← htz.out]
        by_cases h0 : t.size = 0
        · exact Or.inl h0
        · exact Or.inr (by
            cases hb : blankB (t.toList.getD 0 0)
            · rfl
            · exact absurd ⟨by omega, hb⟩ hgo)))
      have hch2 := Lib.hid (show trimL s.toList = rtrim t.toList by unfold trimL; rw [hch.out, hend.out])
      have hcase : (t.toList.isEmpty = true) ∨ (t.toList.isEmpty = false ∧ (0 : Int) < t.size ∧ ∃ h : 0 < t.size, blankB t[0] = false) := by
        by_cases h0 : t.size = 0
        · exact Or.inl (by rw [ht0.out]; simpa using h0)
        · refine Or.inr ⟨by rw [ht0.out]; simpa using h0, by omega, by omega, ?_⟩
          rw [get_l]
          cases hb : blankB (t.toList.getD 0 0)
          · rfl
          · exact absurd ⟨by omega, hb⟩ hgo
      clear hgo
      rcases hcase with he | ⟨he, hposi, hpos, hb'⟩
      all_goals
        go_wp2_with (go_at_call 102; refine (blank_any _ _).mono ?_; rintro e w' ⟨rfl, rfl⟩)
        go_loop [0] (fun p => ∃ (q : ByteArray), p = .string q ∧ q.size ≤ s.size ∧ Hid (rtrim t.toList = rtrim q.toList)) (fun p => strSize p)
        case atStart => exact ⟨t, rfl, ht, rfl⟩
        case round =>
          obtain ⟨q, rfl, hq, hcq⟩ := hrel
          clear he
          try clear hposi hb'
          have hq0 := Lib.hid (isEmpty_size q)
          have hqz := Lib.hid (size_toList q)
          by_cases h0 : q.size = 0
          · have he : q.toList.isEmpty = true := by rw [hq0.out]; simpa using h0
            have hfin := Lib.hid (show trimL s.toList = q.toList by rw [hch2.out, hcq.out, rtrim_end (Or.inl (by rw [← hqz.out]; exact h0))])
            go_wp2
            go_ret
            exact ⟨ret_str (by rw [hfin.out, S_of]), rfl⟩
          · have he : q.toList.isEmpty = false := by rw [hq0.out]; simpa using h0
            have hposi : (1 : Int) ≤ q.size := by omega
            have hpos1 : q.size - 1 < q.size := by omega
            by_cases hb : blankB q[q.size - 1] = true
            · have hst := Lib.hid (rtrim_step (l := q.toList) (by rw [← hqz.out]; omega) (by rw [← hqz.out, ← get_l q _ hpos1]; exact hb))
              go_wp2_with (go_at_call 102; refine (blank_any _ _).mono ?_; rintro e w' ⟨rfl, rfl⟩)
              go_round
              case rel => exact ⟨q.extract 0 (q.size - 1), rfl, by rw [extract_to, S_size, List.length_take, ← hqz.out]; omega, by show _ = _; rw [hcq.out, hst.out, extract_to, S_toList, ← hqz.out]⟩
              case measure => simp only [strSize]; rw [extract_to, S_size, List.length_take, ← hqz.out]; omega
            · have hb' : blankB q[q.size - 1] = false := by simpa using hb
              have hfin := Lib.hid (show trimL s.toList = q.toList by rw [hch2.out, hcq.out, rtrim_end (Or.inr (by rw [← hqz.out, ← get_l q _ hpos1]; exact hb'))])
              clear hb
              go_wp2_with (go_at_call 102; refine (blank_any _ _).mono ?_; rintro e w' ⟨rfl, rfl⟩)
              go_ret
              exact ⟨ret_str (by rw [hfin.out, S_of]), rfl⟩
end Go.Proofs.YtgfoaopfdpclhaaGreatDoor
namespace Go.Proofs.YtgfoaopfdpclhaaGreatDoor
open Go.RowKit
set_option linter.unusedVariables false
set_option maxRecDepth 100000

theorem blank_cases {c : UInt8} (h : blankB c = true) : (((c.toNat : Int)) == 32) = true ∨ ((((c.toNat : Int)) == 32) = false ∧ (((c.toNat : Int)) == 9) = true) := by
  unfold blankB at h
  simp only [decide_eq_true_eq, beq_iff_eq, beq_eq_false_iff_ne] at *
  omega
theorem blank_not {c : UInt8} (h : blankB c = false) : (((c.toNat : Int)) == 32) = false ∧ (((c.toNat : Int)) == 9) = false := by
  unfold blankB at h
  simp only [decide_eq_false_iff_not, beq_eq_false_iff_ne] at *
  omega

set_option maxHeartbeats 1000000 in
theorem refTrim_any (s : ByteArray) (w : World) (hs : s.size ≤ maxLen) :
    Calls Tryz.prog 73 #[.string s] w fun e w' => e = .returned (.string (S (trimL s.toList))) ∧ w = w' := by
  unfold maxLen at hs
  have hsz := Lib.hid (size_toList s)
  go_enter Tryz.func73, Tryz.ntmps73
  go_wp2
  go_loop [3] (fun p => ∃ k : Nat, p = .int .i64 k ∧ k ≤ s.size ∧ Hid (ltrim s.toList = ltrim (s.toList.drop k))) (fun p => s.size - (intOf p).toNat)
  case atStart => exact ⟨0, rfl, Nat.zero_le _, rfl⟩
  case round =>
    obtain ⟨k, rfl, hk, hch⟩ := hrel
    have hki : (k : Int) ≤ s.size := by omega
    by_cases hgo : k < s.size ∧ blankB (s.toList.getD k 0) = true
    · obtain ⟨hlt, hb⟩ := hgo
      have hlti : (k : Int) < s.size := by omega
      have hst := Lib.hid (ltrim_step (l := s.toList.drop k) (by simp; rw [← hsz.out]; omega) (by rw [drop_take_getD]; exact hb))
      have hb2 : blankB s[k] = true := by rw [get_l]; exact hb
      have hcs := blank_cases hb2
      clear hb hb2
      rcases hcs with h1 | ⟨h1, h2⟩
      all_goals
        go_wp2
        go_round
        case rel => exact ⟨k + 1, by go_num, by omega, by show _ = _; rw [hch.out, hst.out, List.drop_drop]⟩
        case measure => simp [intOf]; omega
    · have hend := Lib.hid (show ltrim (s.toList.drop k) = s.toList.drop k from ltrim_end (by
        by_cases h0 : k = s.size
        · exact Or.inl (by simp; rw [← hsz.out]; omega)
        · refine Or.inr ?_
          rw [drop_take_getD]
          cases hb : blankB (s.toList.getD (k + 0) 0)
          · rfl
          · exact absurd ⟨by omega, hb⟩ hgo))
      have hch2 := Lib.hid (show trimL s.toList = rtrim (s.toList.drop k) by unfold trimL; rw [hch.out, hend.out])
      have hcase : (decide (k < s.size) = false) ∨ (decide (k < s.size) = true ∧ k < s.size ∧ ∃ h : k < s.size, (((s[k].toNat : Int)) == 32) = false ∧ (((s[k].toNat : Int)) == 9) = false) := by
        by_cases h0 : k = s.size
        · exact Or.inl (decide_eq_false (by omega))
        · refine Or.inr ⟨decide_eq_true (by omega), by omega, by omega, blank_not ?_⟩
          rw [get_l]
          cases hb : blankB (s.toList.getD k 0)
          · rfl
          · exact absurd ⟨by omega, hb⟩ hgo
      clear hgo
      rcases hcase with he | ⟨he, hlti, hlt, hb1, hb2⟩
      all_goals
        go_wp2
        go_loop [4] (fun p => ∃ m : Nat, p = .int .i64 m ∧ k ≤ m ∧ m ≤ s.size ∧ Hid (rtrim (s.toList.drop k) = rtrim ((s.toList.drop k).take (m - k)))) (fun p => (intOf p).toNat)
        case atStart => exact ⟨s.size, rfl, hk, Nat.le_refl _, by show _ = _; rw [List.take_of_length_le (by simp; rw [← hsz.out]; omega)]⟩
        case round =>
          obtain ⟨m, rfl, hkm, hm, hcm⟩ := hrel
          clear he
          try clear hlti hb1 hb2
          have hlen := Lib.hid (show ((s.toList.drop k).take (m - k)).length = m - k by simp; rw [← hsz.out]; omega)
          have hext := Lib.hid (extract_S s k m)
          have hkmi : (k : Int) ≤ m := by omega
          have hmi : (m : Int) ≤ s.size := by omega
          by_cases h0 : m = k
          · have hfin := Lib.hid (show trimL s.toList = (s.toList.drop k).take (m - k) by rw [hch2.out, hcm.out, rtrim_end (Or.inl (by rw [hlen.out]; omega))])
            have hd : decide (k < m) = false := decide_eq_false (by omega)
            clear h0
            go_wp2
            go_ret
            exact ⟨ret_str (by rw [hfin.out, hext.out]), rfl⟩
          · have hd : k < m := by omega
            have hdi : (k : Int) < m := by omega
            have hpos : m - 1 < s.size := by omega
            have hposi : (1 : Int) ≤ m := by omega
            have hgd := Lib.hid (show ((s.toList.drop k).take (m - k)).getD (((s.toList.drop k).take (m - k)).length - 1) 0 = s[m - 1] by
              rw [hlen.out, List.getD_eq_getElem?_getD, List.getElem?_take, if_pos (by omega), List.getElem?_drop, ← List.getD_eq_getElem?_getD, get_l]; congr 1; omega)
            by_cases hb : blankB s[m - 1] = true
            · have hst := Lib.hid (rtrim_step (l := (s.toList.drop k).take (m - k)) (by rw [hlen.out]; omega) (by rw [hgd.out]; exact hb))
              have hcs := blank_cases hb
              clear hb h0
              rcases hcs with h1 | ⟨h1, h2⟩
              all_goals
                go_wp2
                go_round
                case rel => exact ⟨m - 1, by congr 1; omega, by omega, by omega, by show _ = _; rw [hcm.out, hst.out, hlen.out, List.take_take]; congr 2; omega⟩
                case measure => simp [intOf]; omega
            · obtain ⟨h1, h2⟩ := blank_not (show blankB s[m - 1] = false by simpa using hb)
              have hfin := Lib.hid (show trimL s.toList = (s.toList.drop k).take (m - k) by rw [hch2.out, hcm.out, rtrim_end (Or.inr (by rw [hgd.out]; simpa using hb))])
              clear hb h0
              go_wp2
              go_ret
              exact ⟨ret_str (by rw [hfin.out, hext.out]), rfl⟩

set_option maxHeartbeats 400000 in
theorem refControl_any (s : ByteArray) (w : World) (hs : s.size ≤ maxLen) :
    Calls Tryz.prog 62 #[.string s] w fun e w' => e = .returned (.bool (s.toList.any ctlB)) ∧ w = w' := by
  unfold maxLen at hs
  have hsz := Lib.hid (size_toList s)
  go_enter Tryz.func62, Tryz.ntmps62
  go_wp2
  go_loop [3, 4] (fun o i => ∃ (k : Nat) (b : Bool), k ≤ s.size ∧ i = .int .i64 k ∧ o = .bool b ∧ Hid ((s.toList.take k).any ctlB = b)) (fun _ i => s.size - (intOf i).toNat)
  case atStart => exact ⟨0, false, Nat.zero_le _, rfl, rfl, rfl⟩
  case round =>
    obtain ⟨k, b, hk, rfl, rfl, hall⟩ := hrel
    by_cases hlt : k < s.size
    · have hx := Lib.hid (get_l s k hlt)
      have ht := Lib.hid (any_step (p := ctlB) (l := s.toList) (by rw [← hsz.out]; exact hlt : k < s.toList.length))
      cases b
      · have hcs : ((((s[k].toNat : Int) < 32) ∧ ((((s[k].toNat : Int)) != 9) = true) ∧ ctlB s[k] = true) ∨ (((s[k].toNat : Int) < 32) ∧ ((((s[k].toNat : Int)) != 9) = false) ∧ ((((s[k].toNat : Int)) == 127) = false) ∧ ctlB s[k] = false) ∨ (decide ((s[k].toNat : Int) < 32) = false ∧ ((((s[k].toNat : Int)) == 127) = true) ∧ ctlB s[k] = true) ∨ (decide ((s[k].toNat : Int) < 32) = false ∧ ((((s[k].toNat : Int)) == 127) = false) ∧ ctlB s[k] = false)) := by
          unfold ctlB
          simp only [bne_iff_ne, bne_eq_false_iff_eq, beq_iff_eq, beq_eq_false_iff_ne, decide_eq_true_eq, decide_eq_false_iff_not]
          omega
        rcases hcs with ⟨h1, h2, h3⟩ | ⟨h1, h2, h2', h3⟩ | ⟨h1, h2, h3⟩ | ⟨h1, h2, h3⟩
        all_goals
          have h3 := Lib.hid h3
          go_wp2
          go_round
          case rel => exact ⟨k + 1, _, by omega, by go_num, rfl, by show _ = _; rw [ht.out, hall.out, ← hx.out]; exact h3.out⟩
          case measure => simp [intOf]; omega
      · go_wp2
        go_round
        case rel => exact ⟨k + 1, true, by omega, by go_num, rfl, by show _ = _; rw [ht.out, hall.out]; rfl⟩
        case measure => simp [intOf]; omega
    · obtain rfl : k = s.size := by omega
      go_wp2
      go_ret
      exact ⟨ret_bool (by have := hall.out; rw [hsz.out, List.take_length] at this; rw [this]), rfl⟩

/-- The number that the first k digits are, at most 2^40. -/
def valTo (l : List UInt8) : Nat → Int
  | 0 => 0
  | k + 1 => min (valTo l k * 10 + (((l.getD k 0).toNat : Int) - 48)) 1099511627776
theorem valTo_bd (l : List UInt8) (k : Nat) (h : ∀ j, j < k → digitB (l.getD j 0) = true) : 0 ≤ valTo l k ∧ valTo l k ≤ 1099511627776 := by
  induction k with
  | zero => simp [valTo]
  | succ k ih =>
    have h1 := ih (fun j hj => h j (by omega))
    have h2 := h k (by omega)
    unfold digitB at h2
    simp only [decide_eq_true_eq] at h2
    unfold valTo
    omega
def numNeg (l : List UInt8) : Bool := decide (0 < l.length) && l.getD 0 0 == 45
def numT (l : List UInt8) : List UInt8 := if numNeg l then l.drop 1 else l
def numOk (l : List UInt8) : Bool := decide (0 < (numT l).length) && decide (digN (numT l) = (numT l).length)
def numV (l : List UInt8) : Int := if numOk l then (if numNeg l then -(valTo (numT l) (numT l).length) else valTo (numT l) (numT l).length) else 0

theorem ret_two {k : IntKind} {a b : Int} {c d : Bool} (h : a = b) (h' : c = d) : Ending.returned (.tuple #[.int k a, .bool c]) = .returned (.tuple #[.int k b, .bool d]) := by rw [h, h']

set_option maxHeartbeats 2000000 in
theorem number_any (s : ByteArray) (w : World) (hs : s.size ≤ maxLen) :
    Calls Tryz.prog 87 #[.string s] w fun e w' => e = .returned (.tuple #[.int .i64 (numV s.toList), .bool (numOk s.toList)]) ∧ w = w' := by
  have hs' := hs
  unfold maxLen at hs'
  have hsz := Lib.hid (size_toList s)
  have hs0 := Lib.hid (isEmpty_size s)
  obtain ⟨T, hcase⟩ : ∃ T : ByteArray, (numNeg s.toList = true ∧ s.toList.isEmpty = false ∧ (1 : Int) ≤ s.size ∧ (∃ h : 0 < s.size, ((s[0].toNat : Int) == 45) = true) ∧ s.extract 1 s.size = T) ∨
      (numNeg s.toList = false ∧ s.toList.isEmpty = true ∧ s = T) ∨ (numNeg s.toList = false ∧ s.toList.isEmpty = false ∧ (∃ h : 0 < s.size, ((s[0].toNat : Int) == 45) = false) ∧ T = s) := by
    by_cases h0 : 0 < s.size
    · cases hg : (s.toList.getD 0 0 == 45)
      · refine ⟨s, Or.inr (Or.inr ⟨?_, ?_, ⟨h0, ?_⟩, rfl⟩)⟩
        · unfold numNeg; rw [hg]; simp
        · rw [hs0.out]; exact decide_eq_false (by omega)
        · rw [get_l, eqc 45 (i := 45) rfl]; exact hg
      · refine ⟨s.extract 1 s.size, Or.inl ⟨?_, ?_, by omega, ⟨h0, ?_⟩, rfl⟩⟩
        · unfold numNeg; rw [hg, ← hsz.out]; simpa using h0
        · rw [hs0.out]; exact decide_eq_false (by omega)
        · rw [get_l, eqc 45 (i := 45) rfl]; exact hg
    · refine ⟨s, Or.inr (Or.inl ⟨?_, ?_, rfl⟩)⟩
      · unfold numNeg; rw [← hsz.out]; simp; omega
      · rw [hs0.out]; exact decide_eq_true (by omega)
  have hT : numT s.toList = T.toList ∧ T.size ≤ s.size := by
    unfold numT
    rcases hcase with ⟨h1, _, _, _, rfl⟩ | ⟨h1, _, rfl⟩ | ⟨h1, _, _, rfl⟩
    · rw [h1, extract_from, S_toList, S_size, if_pos rfl, List.length_drop, ← hsz.out]; exact ⟨rfl, by omega⟩
    · rw [h1]; exact ⟨by simp, by omega⟩
    · rw [h1]; exact ⟨by simp, by omega⟩
  have hTe := Lib.hid hT.1
  have hTs : T.size ≤ 9223372036854775807 := by have := hT.2; omega
  have hTm : T.size ≤ maxLen := by unfold maxLen; omega
  clear hT
  have hTz := Lib.hid (size_toList T)
  have hT0 := Lib.hid (isEmpty_size T)
  have hle := digN_le T.toList
  rw [← hTz.out] at hle
  by_cases hok : 0 < T.size ∧ digN T.toList = T.size
  · have hO := Lib.hid (show numOk s.toList = true by unfold numOk; rw [hTe.out, ← hTz.out]; simpa using hok)
    have hall := Lib.hid (fun j (hj : j < T.size) => digN_all T.toList j (by omega))
    have hTe1 : T.toList.isEmpty = false := by rw [hT0.out]; exact decide_eq_false (by omega)
    have hdg : ¬ (digN T.toList < T.size) := by omega
    have hdg2 : decide (digN T.toList < T.size) = false := decide_eq_false hdg
    clear hok hle hdg
    have hbd := Lib.hid (fun k (hk : k ≤ T.size) => valTo_bd T.toList k (fun j hj => hall.out j (by omega)))
    rcases hcase with ⟨h1, h2, h3, ⟨h4, h5⟩, h6⟩ | ⟨h1, h2, rfl⟩ | ⟨h1, h2, ⟨h4, h5⟩, h7⟩
    all_goals
      have hV := Lib.hid (show numV s.toList = if numNeg s.toList then -(valTo (numT s.toList) (numT s.toList).length) else valTo (numT s.toList) (numT s.toList).length by unfold numV; rw [hO.out, if_pos rfl])
      have hN := Lib.hid h1
      clear h1
      first
      | exact absurd (h2.symm.trans hTe1) (by decide)
      | (try subst h7
         go_enter Tryz.func87, Tryz.ntmps87
         go_wp2_with (go_at_call 115; refine (digits_any _ _ hTm).mono ?_; rintro e w' ⟨rfl, rfl⟩)
         go_loop [6, 29] (fun n i => ∃ k : Nat, k ≤ T.size ∧ i = .int .i64 k ∧ n = .int .i64 (valTo T.toList k)) (fun _ i => T.size - (intOf i).toNat)
         case atStart => exact ⟨0, Nat.zero_le _, rfl, rfl⟩
         case round =>
           obtain ⟨k, hk, rfl, rfl⟩ := hrel
           obtain ⟨hb1, hb2⟩ := hbd.out k hk
           by_cases hlt : k < T.size
           · have hx := Lib.hid (get_l T k hlt)
             have hd := hall.out k hlt
             rw [← hx.out] at hd
             unfold digitB at hd
             simp only [decide_eq_true_eq] at hd
             obtain ⟨hd1, hd2⟩ := hd
             have hst := Lib.hid (show valTo T.toList (k + 1) = min (valTo T.toList k * 10 + ((T[k].toNat : Int) - 48)) 1099511627776 by rw [valTo, ← hx.out])
             go_wp2
             go_round
             case rel =>
               refine ⟨k + 1, by omega, by go_num, ?_⟩
               rw [hst.out]
               congr 1
               split <;> omega
             case measure => simp [intOf]; omega
           · obtain rfl : k = T.size := by omega
             go_wp2
             go_ret2
             refine ⟨ret_two ?_ hO.out.symm, rfl⟩
             rw [hV.out, hN.out, hTe.out, ← hTz.out]
             simp)
  · have hO := Lib.hid (show numOk s.toList = false by unfold numOk; rw [hTe.out, ← hTz.out]; simpa using hok)
    have hO2 := Lib.hid (show numV s.toList = 0 by unfold numV; rw [hO.out]; rfl)
    have hcs : (T.toList.isEmpty = true) ∨ (T.toList.isEmpty = false ∧ digN T.toList < T.size) := by
      by_cases h0 : 0 < T.size
      · exact Or.inr ⟨by rw [hT0.out]; exact decide_eq_false (by omega), by omega⟩
      · exact Or.inl (by rw [hT0.out]; exact decide_eq_true (by omega))
    clear hok
    rcases hcase with ⟨h1, h2, h3, ⟨h4, h5⟩, h6⟩ | ⟨h1, h2, rfl⟩ | ⟨h1, h2, ⟨h4, h5⟩, rfl⟩
    all_goals
      have h1 := Lib.hid h1
      rcases hcs with hc | ⟨hc, hd⟩
      all_goals first
        | exact absurd (h2.symm.trans hc) (by decide)
        | (go_enter Tryz.func87, Tryz.ntmps87
           go_wp2_with (go_at_call 115; refine (digits_any _ _ hTm).mono ?_; rintro e w' ⟨rfl, rfl⟩)
           go_ret2
           exact ⟨ret_two hO2.out.symm hO.out.symm, rfl⟩)
end Go.Proofs.YtgfoaopfdpclhaaGreatDoor
namespace Go.Proofs.YtgfoaopfdpclhaaGreatDoor
open Go.RowKit
set_option linter.unusedVariables false
set_option maxRecDepth 100000

set_option maxHeartbeats 2000000 in
theorem refNumber_any (s : ByteArray) (w : World) (hs : s.size ≤ maxLen) :
    Calls Tryz.prog 67 #[.string s] w fun e w' => e = .returned (.tuple #[.int .i64 (numV s.toList), .bool (numOk s.toList)]) ∧ w = w' := by
  have hs' := hs
  unfold maxLen at hs'
  have hsz := Lib.hid (size_toList s)
  obtain ⟨T, f, hcase⟩ : ∃ (T : ByteArray) (f : Nat), (numNeg s.toList = true ∧ (1 : Int) ≤ s.size ∧ (∃ h : 0 < s.size, ((s[0].toNat : Int) == 45) = true) ∧ s.extract 1 s.size = T ∧ f = 1) ∨
      (numNeg s.toList = false ∧ decide (0 < s.size) = false ∧ s.extract 0 s.size = T ∧ f = 0) ∨ (numNeg s.toList = false ∧ 0 < s.size ∧ (∃ h : 0 < s.size, ((s[0].toNat : Int) == 45) = false) ∧ s.extract 0 s.size = T ∧ f = 0) := by
    by_cases h0 : 0 < s.size
    · cases hg : (s.toList.getD 0 0 == 45)
      · refine ⟨_, 0, Or.inr (Or.inr ⟨?_, h0, ⟨h0, ?_⟩, rfl, rfl⟩)⟩
        · unfold numNeg; rw [hg]; simp
        · rw [get_l, eqc 45 (i := 45) rfl]; exact hg
      · refine ⟨s.extract 1 s.size, 1, Or.inl ⟨?_, by omega, ⟨h0, ?_⟩, rfl, rfl⟩⟩
        · unfold numNeg; rw [hg, ← hsz.out]; simpa using h0
        · rw [get_l, eqc 45 (i := 45) rfl]; exact hg
    · refine ⟨_, 0, Or.inr (Or.inl ⟨?_, decide_eq_false h0, rfl, rfl⟩)⟩
      unfold numNeg; rw [← hsz.out]; simp; omega
  have hT : numT s.toList = T.toList ∧ T.size + f = s.size ∧ T.toList = s.toList.drop f := by
    unfold numT
    rcases hcase with ⟨h1, h2, _, rfl, rfl⟩ | ⟨h1, _, rfl, rfl⟩ | ⟨h1, _, _, rfl, rfl⟩
    · rw [h1, extract_from, S_toList, S_size, if_pos rfl, List.length_drop, ← hsz.out]; exact ⟨rfl, by omega, rfl⟩
    · rw [h1, extract_from, S_toList, S_size, List.length_drop, ← hsz.out]; exact ⟨by simp, by omega, rfl⟩
    · rw [h1, extract_from, S_toList, S_size, List.length_drop, ← hsz.out]; exact ⟨by simp, by omega, rfl⟩
  have hTe := Lib.hid hT.1
  have hTf := Lib.hid hT.2.2
  have hf : T.size + f ≤ s.size ∧ s.size ≤ T.size + f := by have := hT.2.1; omega
  have hTs : T.size ≤ 9223372036854775807 := by omega
  have hTm : T.size ≤ maxLen := by unfold maxLen; omega
  clear hT
  have hTz := Lib.hid (size_toList T)
  have hle := digN_le T.toList
  rw [← hTz.out] at hle
  by_cases hok : 0 < T.size ∧ digN T.toList = T.size
  · have hO := Lib.hid (show numOk s.toList = true by unfold numOk; rw [hTe.out, ← hTz.out]; simpa using hok)
    have hall := Lib.hid (fun j (hj : j < T.size) => digN_all T.toList j (by omega))
    have hpos := hok.1
    have hdg : ¬ ((digN T.toList : Int) < (s.size : Int) - f) := by omega
    clear hok hle
    have hbd := Lib.hid (fun k (hk : k ≤ T.size) => valTo_bd T.toList k (fun j hj => hall.out j (by omega)))
    have hV := Lib.hid (show numV s.toList = if numNeg s.toList then -(valTo (numT s.toList) (numT s.toList).length) else valTo (numT s.toList) (numT s.toList).length by unfold numV; rw [hO.out, if_pos rfl])
    rcases hcase with ⟨h1, h3, ⟨h4, h5⟩, h6, h7⟩ | ⟨h1, h2, h6, h7⟩ | ⟨h1, h2, ⟨h4, h5⟩, h6, h7⟩
    · subst h7
      have hN := Lib.hid h1
      clear h1
      have e1 : ((s.size : Int) == 1) = false := beq_eq_false_iff_ne.2 (by omega)
      have e2 : decide ((digN T.toList : Int) < (s.size : Int) - 1) = false := decide_eq_false hdg
      go_enter Tryz.func67, Tryz.ntmps67
      go_wp2_with (go_at_call 97; refine (refDigits_any _ _ hTm).mono ?_; rintro e w' ⟨rfl, rfl⟩)
      go_loop [5, 6] (fun n i => ∃ k : Nat, k ≤ T.size ∧ i = .int .i64 ((k : Int) + 1) ∧ n = .int .i64 (valTo T.toList k)) (fun _ i => s.size - (intOf i).toNat)
      case atStart => exact ⟨0, Nat.zero_le _, rfl, rfl⟩
      case round =>
        obtain ⟨k, hk, rfl, rfl⟩ := hrel
        obtain ⟨hb1, hb2⟩ := hbd.out k hk
        by_cases hlt : k < T.size
        · have hlt2 : k + 1 < s.size := by omega
          have hx := Lib.hid (show s[k + 1] = T.toList.getD k 0 by rw [get_l, hTf.out, drop_take_getD]; congr 1; omega)
          have hd := hall.out k hlt
          rw [← hx.out] at hd
          unfold digitB at hd
          simp only [decide_eq_true_eq] at hd
          obtain ⟨hd1, hd2⟩ := hd
          have hst := Lib.hid (show valTo T.toList (k + 1) = min (valTo T.toList k * 10 + ((s[k + 1].toNat : Int) - 48)) 1099511627776 by rw [valTo, ← hx.out])
          go_wp2
          all_goals
            go_round
            case rel =>
              refine ⟨k + 1, by omega, by go_num, ?_⟩
              rw [hst.out]
              congr 1
              omega
            case measure => simp [intOf]; omega
        · obtain rfl : k = T.size := by omega
          go_wp2
          go_ret2
          refine ⟨ret_two ?_ hO.out.symm, rfl⟩
          rw [hV.out, hN.out, hTe.out, ← hTz.out]
          simp
    · exact absurd h2 (by rw [decide_eq_false_iff_not]; omega)
    · subst h7
      have hN := Lib.hid h1
      clear h1
      have e1 : ((s.size : Int) == 0) = false := beq_eq_false_iff_ne.2 (by omega)
      have e2 : decide (digN T.toList < s.size) = false := by rw [decide_eq_false_iff_not]; omega
      go_enter Tryz.func67, Tryz.ntmps67
      go_wp2_with (go_at_call 97; refine (refDigits_any _ _ hTm).mono ?_; rintro e w' ⟨rfl, rfl⟩)
      go_loop [5, 6] (fun n i => ∃ k : Nat, k ≤ T.size ∧ i = .int .i64 k ∧ n = .int .i64 (valTo T.toList k)) (fun _ i => s.size - (intOf i).toNat)
      case atStart => exact ⟨0, Nat.zero_le _, rfl, rfl⟩
      case round =>
        obtain ⟨k, hk, rfl, rfl⟩ := hrel
        obtain ⟨hb1, hb2⟩ := hbd.out k hk
        by_cases hlt : k < T.size
        · have hlt2 : k < s.size := by omega
          have hx := Lib.hid (show s[k] = T.toList.getD k 0 by rw [get_l, hTf.out, drop_take_getD]; congr 1; omega)
          have hd := hall.out k hlt
          rw [← hx.out] at hd
          unfold digitB at hd
          simp only [decide_eq_true_eq] at hd
          obtain ⟨hd1, hd2⟩ := hd
          have hst := Lib.hid (show valTo T.toList (k + 1) = min (valTo T.toList k * 10 + ((s[k].toNat : Int) - 48)) 1099511627776 by rw [valTo, ← hx.out])
          go_wp2
          all_goals
            go_round
            case rel =>
              refine ⟨k + 1, by omega, by go_num, ?_⟩
              rw [hst.out]
              congr 1
              omega
            case measure => simp [intOf]; omega
        · obtain rfl : k = T.size := by omega
          go_wp2
          go_ret2
          refine ⟨ret_two ?_ hO.out.symm, rfl⟩
          rw [hV.out, hN.out, hTe.out, ← hTz.out]
          simp
  · have hO := Lib.hid (show numOk s.toList = false by unfold numOk; rw [hTe.out, ← hTz.out]; simpa using hok)
    have hO2 := Lib.hid (show numV s.toList = 0 by unfold numV; rw [hO.out]; rfl)
    have hcs : (s.size = f) ∨ (f < s.size ∧ digN T.toList < T.size) := by omega
    clear hok
    rcases hcase with ⟨h1, h3, ⟨h4, h5⟩, h6, h7⟩ | ⟨h1, h2, h6, h7⟩ | ⟨h1, h2, ⟨h4, h5⟩, h6, h7⟩
    all_goals
      subst h7
      have h1 := Lib.hid h1
    · rcases hcs with hc | ⟨hc, hd⟩
      · have e1 : ((s.size : Int) == 1) = true := beq_iff_eq.2 (by omega)
        clear hc
        go_enter Tryz.func67, Tryz.ntmps67
        go_wp2
        go_ret2
        exact ⟨ret_two hO2.out.symm hO.out.symm, rfl⟩
      · have e1 : ((s.size : Int) == 1) = false := beq_eq_false_iff_ne.2 (by omega)
        have e2 : decide ((digN T.toList : Int) < (s.size : Int) - 1) = true := decide_eq_true (by omega)
        go_enter Tryz.func67, Tryz.ntmps67
        go_wp2_with (go_at_call 97; refine (refDigits_any _ _ hTm).mono ?_; rintro e w' ⟨rfl, rfl⟩)
        go_ret2
        exact ⟨ret_two hO2.out.symm hO.out.symm, rfl⟩
    · have h0 : s.size = 0 := by simpa using h2
      have e1 : ((s.size : Int) == 0) = true := beq_iff_eq.2 (by omega)
      clear hcs h0
      go_enter Tryz.func67, Tryz.ntmps67
      go_wp2
      go_ret2
      exact ⟨ret_two hO2.out.symm hO.out.symm, rfl⟩
    · have e1 : ((s.size : Int) == 0) = false := beq_eq_false_iff_ne.2 (by omega)
      have e2 : decide (digN T.toList < s.size) = true := by rw [decide_eq_true_eq]; omega
      have e3 : digN T.toList < s.size := by omega
      clear hcs
      go_enter Tryz.func67, Tryz.ntmps67
      go_wp2_with (go_at_call 97; refine (refDigits_any _ _ hTm).mono ?_; rintro e w' ⟨rfl, rfl⟩)
      go_ret2
      exact ⟨ret_two hO2.out.symm hO.out.symm, rfl⟩

/-- The decimal digits of a number. -/
def upL (n : Nat) : List UInt8 := if n < 10 then [48 + UInt8.ofNat n] else upL (n / 10) ++ [48 + UInt8.ofNat (n % 10)]
termination_by n
decreasing_by omega
theorem upL_small {n : Nat} (h : n < 10) : upL n = [48 + UInt8.ofNat (n % 10)] := by
  rw [upL, if_pos h, Nat.mod_eq_of_lt h]
theorem upL_big {n : Nat} (h : ¬ n < 10) : upL n = upL (n / 10) ++ [48 + UInt8.ofNat (n % 10)] := by
  rw [upL, if_neg h]
theorem upL_len (n : Nat) (k : Nat) (h : n < 10 ^ k) (hk : 0 < k) : (upL n).length ≤ k := by
  induction k generalizing n with
  | zero => omega
  | succ k ih =>
    by_cases h9 : n < 10
    · rw [upL_small h9]; simp
    · rw [upL_big h9]
      have : 0 < k := by
        rcases Nat.eq_zero_or_pos k with h0 | h0
        · subst h0; simp at h; omega
        · exact h0
      have := ih (n / 10) (by rw [Nat.pow_succ] at h; omega) this
      simp
      omega

def textL (n : Int) : List UInt8 := if n < 0 then 45 :: upL (-n).toNat else upL n.toNat

theorem textL_neg {n : Int} (h : n < 0) : textL n = 45 :: upL (-n).toNat := by unfold textL; rw [if_pos h]
theorem textL_pos {n : Int} (h : ¬ n < 0) : textL n = upL n.toNat := by unfold textL; rw [if_neg h]
set_option maxHeartbeats 1000000 in
theorem refText_pos (n : Nat) (w : World) (h2 : n ≤ 9223372036854775807) :
    Calls Tryz.prog 104 #[.int .i64 n] w fun e w' => e = .returned (.string (S (upL n))) ∧ Below w.heap.size w w' := by
  have e1 : decide ((n : Int) < 0) = false := decide_eq_false (by omega)
  have hlen := upL_len n 20 (by omega) (by omega)
  go_enter Tryz.func104, Tryz.ntmps104
  go_wp2
  go_loopw [0, 3] (fun p o wr => ∃ (m : Nat) (acc : List UInt8), p = .int .i64 m ∧ o = .string (S acc) ∧ m ≤ n ∧ Below w.heap.size w wr ∧ w.heap.size ≤ wr.heap.size ∧ (upL m).length + acc.length ≤ 20 ∧ Hid (upL n = upL m ++ acc)) (fun p _ _ => (intOf p).toNat)
  case atStart => exact ⟨n, [], rfl, rfl, Nat.le_refl _, Below.refl _ _, Nat.le_refl _, by simpa using hlen, by show _ = _; simp⟩
  case round =>
    obtain ⟨m, acc, rfl, rfl, hm, hbel, hsz, hl, hch⟩ := hrel
    have hmod : m % 10 < 10 := Nat.mod_lt _ (by omega)
    by_cases h9 : m < 10
    · have hU := Lib.hid (upL_small h9)
      have hl2 := hl
      rw [hU.out] at hl2
      simp at hl2
      go_wp2
      go_ret
      refine ⟨ret_str ?_, hbel.alloc hsz _⟩
      rw [hch.out, hU.out, Nat.mod_eq_of_lt h9]
      rfl
    · have hU := Lib.hid (upL_big h9)
      have hl2 := hl
      rw [hU.out] at hl2
      simp at hl2
      have hx1 := Lib.hid (show ((m : Int) / 10) = ((m / 10 : Nat) : Int) by omega)
      go_wp2
      go_roundw
      case rel =>
        refine ⟨m / 10, (48 + UInt8.ofNat (m % 10)) :: acc, by rw [hx1.out], rfl, by omega, hbel.alloc hsz _, by simp; omega, by simp; omega, ?_⟩
        show _ = _
        rw [hch.out, hU.out]
        simp
      case measure => simp [intOf]; omega

set_option maxHeartbeats 2000000 in
theorem refText_any (n : Int) (w : World) (h1 : -9223372036854775808 ≤ n) (h2 : n ≤ 9223372036854775807) :
    Calls Tryz.prog 104 #[.int .i64 n] w fun e w' => e = .returned (.string (S (textL n))) ∧ Below w.heap.size w w' := by
  by_cases h0 : n < 0
  · obtain ⟨m, rfl⟩ : ∃ m : Nat, n = -(m : Int) := ⟨(-n).toNat, by omega⟩
    have hm0 : 0 < m := by omega
    have hm1 : m ≤ 9223372036854775808 := by omega
    rw [textL_neg h0, show (- -(m : Int)).toNat = m by omega]
    clear h1 h2
    induction m using Nat.strongRecOn generalizing w with
    | ind m ih =>
      have hlen := upL_len m 20 (by omega) (by omega)
      by_cases h9 : m < 10
      · clear ih
        have e2 : decide (-10 < -(m : Int)) = true := decide_eq_true (by omega)
        have e3 : -10 < -(m : Int) := by omega
        have hU := Lib.hid (upL_small h9)
        go_enter Tryz.func104, Tryz.ntmps104
        go_wp2_with fail
        refine (refText_pos m _ (by omega)).mono ?_
        rintro e w1 ⟨rfl, hb1⟩
        go_wp2
        go_ret
        exact ⟨ret_str (by rw [append_S, S_toList, ByteArray.toList_mk]; rfl), hb1⟩
      · have hU := Lib.hid (upL_big h9)
        have hI := Lib.hid (fun w => ih (m / 10) (by omega) w (by omega) (by omega) (by omega))
        clear ih
        go_enter Tryz.func104, Tryz.ntmps104
        go_wp2_with fail
        rw [show -((m : Int) / 10) = -((m / 10 : Nat) : Int) by omega]
        refine (hI.out _).mono ?_
        rintro e w1 ⟨rfl, hb1⟩
        go_wp2_with fail
        rw [show ((m : Int) % 10) = ((m % 10 : Nat) : Int) by omega]
        have hmd : m % 10 < 10 := Nat.mod_lt _ (by omega)
        have hU2 := Lib.hid (upL_small hmd)
        refine (refText_pos (m % 10) _ (by omega)).mono ?_
        rintro e w2 ⟨rfl, hb2⟩
        have hl10 := upL_len (m / 10) 20 (by omega) (by omega)
        have hl11 : (upL (m % 10)).length ≤ 20 := upL_len (m % 10) 20 (by omega) (by omega)
        go_wp2
        go_ret
        refine ⟨ret_str ?_, bel_onto hb1 hb2 hb1.size⟩
        rw [hU.out, hU2.out, Nat.mod_mod]
  · obtain ⟨m, rfl⟩ := Int.eq_ofNat_of_zero_le (by omega : 0 ≤ n)
    rw [textL_pos h0, Int.toNat_natCast]
    exact refText_pos m w (by omega)
end Go.Proofs.YtgfoaopfdpclhaaGreatDoor
namespace Go.Proofs.YtgfoaopfdpclhaaGreatDoor
open Go.RowKit
set_option linter.unusedVariables false
set_option maxRecDepth 100000

theorem refl_add32 {c : UInt8} (h : 65 ≤ c.toNat) (h' : c.toNat ≤ 90) : UInt8.ofNat (c.toNat + 32) = lowC c := by
  unfold lowC; rw [if_pos ⟨h, h'⟩]
theorem lowerL_snoc (l : List UInt8) (k : Nat) (h : k < l.length) : lowerL (l.take (k + 1)) = lowerL (l.take k) ++ [lowC (l.getD k 0)] := by
  rw [take_succ_getD l k h]; simp [lowerL]

set_option maxHeartbeats 1000000 in
theorem refLower_any (s : ByteArray) (w : World) (hs : s.size ≤ 4294967296) :
    Calls Tryz.prog 65 #[.string s] w fun e w' => e = .returned (.string (S (lowerL s.toList))) ∧ Below w.heap.size w w' := by
  have hsz := Lib.hid (size_toList s)
  go_enter Tryz.func65, Tryz.ntmps65
  go_wp2
  go_loopw [3, 4] (fun o i wr => ∃ (k : Nat) (acc : ByteArray), i = .int .i64 k ∧ o = .string acc ∧ k ≤ s.size ∧ acc.size ≤ k ∧ Below w.heap.size w wr ∧ w.heap.size ≤ wr.heap.size ∧ Hid (acc.toList = lowerL (s.toList.take k))) (fun _ i _ => s.size - (intOf i).toNat)
  case atStart => exact ⟨0, ByteArray.mk #[], rfl, rfl, Nat.zero_le _, Nat.le_refl _, Below.refl _ _, Nat.le_refl _, ByteArray.toList_mk []⟩
  case round =>
    obtain ⟨k, acc, rfl, rfl, hk, hal, hbel, hsz1, hch⟩ := hrel
    by_cases hlt : k < s.size
    · have hlti : (k : Int) < s.size := by omega
      have hx := Lib.hid (get_l s k hlt)
      have hst := Lib.hid (lowerL_snoc s.toList k (by rw [← hsz.out]; exact hlt))
      have hone := Lib.hid (show (s.extract k (k + 1)).toList = [s[k]] by
        rw [extract_l, drop_getD s.toList k (by rw [← hsz.out]; exact hlt), ← hx.out, show k + 1 - k = 1 by omega]; rfl)
      by_cases h1 : 65 ≤ s[k].toNat
      · by_cases h2 : s[k].toNat ≤ 90
        · have h3 : (65 : Int) ≤ s[k].toNat := by omega
          have h4 : (s[k].toNat : Int) ≤ 90 := by omega
          go_wp2
          go_roundw
          case rel =>
            refine ⟨k + 1, S (lowerL (s.toList.take (k + 1))), by go_num, ?_, by omega, by rw [S_size]; unfold lowerL; simp; omega, hbel.alloc hsz1 _, by simp; omega, S_toList _⟩
            congr 1
            rw [hst.out, append_S, hch.out, S_toList, ← hx.out, ← refl_add32 h1 h2]
            rw [UInt8.ofNat_add, UInt8.ofNat_toNat]
            rfl
          case measure => simp [intOf]; omega
        · have h3 : (65 : Int) ≤ s[k].toNat := by omega
          have h4 : decide ((s[k].toNat : Int) ≤ 90) = false := decide_eq_false (by omega)
          have hno := Lib.hid (lowC_no (c := s[k]) (by omega))
          go_wp2
          go_roundw
          case rel =>
            refine ⟨k + 1, S (lowerL (s.toList.take (k + 1))), by go_num, ?_, by omega, by rw [S_size]; unfold lowerL; simp; omega, hbel, hsz1, S_toList _⟩
            congr 1
            rw [hst.out, append_S, hch.out, ← hx.out, hno.out, hone.out]
          case measure => simp [intOf]; omega
      · have h3 : decide ((65 : Int) ≤ s[k].toNat) = false := decide_eq_false (by omega)
        have hno := Lib.hid (lowC_no (c := s[k]) (by omega))
        go_wp2
        go_roundw
        case rel =>
          refine ⟨k + 1, S (lowerL (s.toList.take (k + 1))), by go_num, ?_, by omega, by rw [S_size]; unfold lowerL; simp; omega, hbel, hsz1, S_toList _⟩
          congr 1
          rw [hst.out, append_S, hch.out, ← hx.out, hno.out, hone.out]
        case measure => simp [intOf]; omega
    · obtain rfl : k = s.size := by omega
      go_wp2
      go_ret
      exact ⟨ret_str (by rw [← S_of acc, hch.out, hsz.out, List.take_length]), hbel⟩

theorem run_bytes_of {P : Program} (src dst e : TypeId) (hs : P.underlying src = some .string) (hd : P.underlying dst = some (.slice e)) (he : P.underlying e = some (.int .u8)) (w : World) (s : ByteArray) :
    (convert src dst (.string s)).run P w = .ok (.slice (some ⟨w.heap.size, 0, none⟩) s.size (grownCap w s.size 0 e))
      (w.drew.alloc (.cells (bytesRow s (grownCap w s.size 0 e)) e ((bytesRow s (grownCap w s.size 0 e)).size, (bytesRow s (grownCap w s.size 0 e)).size + 1))) :=
  run_bytes_of_string w src dst e s hs hd he

/-- The bytes of a text in a block of their own, the first k of them small already. -/
def Lows (w : World) (g k : Nat) (l : List UInt8) : Prop :=
  ∃ cur fr, w.heap[g]? = some (.cells cur 5 fr) ∧ l.length ≤ fr.1 ∧ l.length ≤ cur.size ∧ ∀ j, j < l.length → cur[j]? = some (.int .u8 ((if j < k then lowC (l.getD j 0) else l.getD j 0).toNat))
theorem Lows.cell {w : World} {g k : Nat} {l : List UInt8} (h : Lows w g k l) {j : Nat} (hj : j < l.length) : w.cell? ⟨g, j, none⟩ = some (.int .u8 ((if j < k then lowC (l.getD j 0) else l.getD j 0).toNat)) := by
  obtain ⟨cur, fr, hg, hf, hs, hc⟩ := h
  unfold World.cell?
  rw [hg]
  exact hc j hj
theorem Lows.free {w : World} {g k : Nat} {l : List UInt8} (h : Lows w g k l) {j : Nat} (hj : j < l.length) : w.frozen? ⟨g, j, none⟩ = false := by
  obtain ⟨cur, fr, hg, hf, hs, hc⟩ := h
  unfold World.frozen?
  rw [hg]
  simp
  omega
theorem Lows.step {w : World} {g k : Nat} {l : List UInt8} (h : Lows w g k l) (hk : k < l.length) : Lows (w.setCell ⟨g, k, none⟩ (.int .u8 (lowC (l.getD k 0)).toNat)) g (k + 1) l := by
  obtain ⟨cur, fr, hg, hf, hs, hc⟩ := h
  refine ⟨cur.setIfInBounds k (.int .u8 (lowC (l.getD k 0)).toNat), fr, ?_, hf, by simpa using hs, fun j hj => ?_⟩
  · simp [World.setCell, Array.getElem?_modify, hg]
  · rw [Array.getElem?_setIfInBounds]
    by_cases e : k = j
    · subst e
      rw [if_pos rfl, if_pos (by omega), if_pos (by omega)]
    · rw [if_neg e, hc j hj]
      by_cases h1 : j < k
      · rw [if_pos h1, if_pos (by omega)]
      · rw [if_neg h1, if_neg (by omega)]

theorem lows_start (w : World) (s : ByteArray) (e : TypeId) (he : e = 5 := by rfl) :
    Lows ((w.alloc (Obj.cells (bytesRow s (grownCap w s.size 0 e)) e ((bytesRow s (grownCap w s.size 0 e)).size, (bytesRow s (grownCap w s.size 0 e)).size + 1))).drew) w.heap.size 0 s.toList := by
  subst he
  have hsz := size_toList s
  have hge := grownCap_ge w s.size 0 5
  have hbs : s.size ≤ (bytesRow s (grownCap w s.size 0 5)).size := by
    rcases Nat.lt_or_ge (bytesRow s (grownCap w s.size 0 5)).size s.size with h | h
    · have := bytesRow_at s (grownCap w s.size 0 5) _ h
      rw [Array.getElem?_eq_none (Nat.le_refl _)] at this
      cases this
    · exact h
  refine ⟨_, _, heap_alloc_new w _, by rw [← hsz]; exact hbs, by rw [← hsz]; exact hbs, fun j hj => ?_⟩
  rw [if_neg (by omega), ← get_l s j (by rw [hsz]; exact hj)]
  have hj2 : j < s.data.size := by rw [← hsz] at hj; exact hj
  rw [bytesRow_at s _ j hj2]
  rfl

theorem own_base {w : World} {B B' : Nat} {e : TypeId} {sz n : Nat} {v : Value} {xs : List Value} (h : w.ownsRow B e sz v n xs) (hB : B' ≤ B) : w.ownsRow B' e sz v n xs := by
  refine ⟨h.1, ?_⟩
  rcases h.2 with h2 | ⟨g, cap, cur, hv, hg, r⟩
  · exact .inl h2
  · exact .inr ⟨g, cap, cur, hv, Nat.le_trans hB hg, r⟩
theorem all_take_stepL {α : Type} {p : α → Bool} {l : List α} {k : Nat} (h : k < l.length) : (l.take (k + 1)).all p = ((l.take k).all p && p l[k]) := by
  rw [List.take_succ_eq_append_getElem h, List.all_append]; simp
theorem all_badL {α : Type} {p : α → Bool} {l : List α} {k : Nat} (h : k < l.length) (hp : p l[k] = false) : l.all p = false := by
  rw [List.all_eq_false]
  exact ⟨l[k], List.getElem_mem h, by simp [hp]⟩

set_option maxHeartbeats 1000000 in
theorem lowerA_any (s : ByteArray) (w : World) (hs : s.size ≤ 4294967296) :
    Calls Tryz.prog 52 #[.string s] w fun e w' => e = .returned (.string (S (lowerL s.toList))) ∧ Below w.heap.size w w' := by
  have hsz := Lib.hid (size_toList s)
  have hcv := @run_bytes_of Tryz.prog 9 91 5 Tryz.underlying9 Tryz.underlying91 Tryz.underlying5
  go_enter Tryz.func52, Tryz.ntmps52
  go_wp2
  have hstart : Lows ((w.alloc (Obj.cells (bytesRow s (grownCap w s.size 0 5)) 5 ((bytesRow s (grownCap w s.size 0 5)).size, (bytesRow s (grownCap w s.size 0 5)).size + 1))).drew) w.heap.size 0 s.toList := by
    have hge := grownCap_ge w s.size 0 5
    have hbs : s.size ≤ (bytesRow s (grownCap w s.size 0 5)).size := by
      rcases Nat.lt_or_ge (bytesRow s (grownCap w s.size 0 5)).size s.size with h | h
      · have := bytesRow_at s (grownCap w s.size 0 5) _ h
        rw [Array.getElem?_eq_none (Nat.le_refl _)] at this
        cases this
      · exact h
    refine ⟨_, _, heap_alloc_new w _, by rw [← hsz.out]; exact hbs, by rw [← hsz.out]; exact hbs, fun j hj => ?_⟩
    rw [if_neg (by omega), ← get_l s j (by rw [hsz.out]; exact hj)]
    have hj2 : j < s.data.size := by rw [← hsz.out] at hj; exact hj
    rw [bytesRow_at s _ j hj2]
    rfl
  have hcap := Lib.hid (grownCap_ge w s.size 0 5)
  generalize grownCap w s.size 0 5 = cap at *
  go_loopw [9] (fun i wr => ∃ (k : Nat), i = .int .i64 k ∧ k ≤ s.size ∧ Below w.heap.size w wr ∧ w.heap.size ≤ wr.heap.size ∧ Lows wr w.heap.size k s.toList) (fun i _ => s.size - (intOf i).toNat)
  case atStart => exact ⟨0, rfl, Nat.zero_le _, ((Below.refl _ _).alloc (Nat.le_refl _) _).drew, by simp, hstart⟩
  case round =>
    obtain ⟨k, rfl, hk, hbel, hszw, hL⟩ := hrel
    clear hcv hstart
    by_cases hlt : k < s.size
    · have hlti : (k : Int) < s.size := by omega
      have hlt' : k < s.toList.length := by rw [← hsz.out]; exact hlt
      have hcell := hL.cell hlt'
      rw [if_neg (by omega)] at hcell
      have hfree := hL.free hlt'
      have hs2 := Lib.hid (show Lows (wr.setCell ⟨w.heap.size, k, none⟩ (.int .u8 (lowC s.toList[k]).toNat)) w.heap.size (k + 1) s.toList by
        have h := hL.step hlt'
        rw [List.getD_eq_getElem?_getD, List.getElem?_eq_getElem hlt'] at h
        exact h)
      go_wp2_with (go_at_call 85; refine (lower_any _ _).mono ?_; rintro e w' ⟨rfl, rfl⟩)
      go_roundw
      case rel => exact ⟨k + 1, by go_num, by omega, hbel.setCell (by simp) _, by simpa [World.setCell] using hszw, hs2.out⟩
      case measure => simp [intOf]; omega
    · obtain rfl : k = s.size := by omega
      have hconv : (convert 91 9 (.slice (some ⟨w.heap.size, 0, none⟩) s.size cap)).run Tryz.prog wr = .ok (.string (S (lowerL s.toList))) wr := by
        refine run_bytes_S wr 91 9 5 _ s.size cap (lowerL s.toList) (by unfold lowerL; rw [List.length_map, ← hsz.out]) Tryz.underlying91 Tryz.underlying5 Tryz.underlying9 (fun j hj => ?_)
        have hj' : j < s.toList.length := by unfold lowerL at hj; simpa using hj
        rw [add_none, Nat.zero_add, hL.cell hj', if_pos (by rw [hsz.out]; exact hj')]
        unfold lowerL
        rw [List.getD_eq_getElem?_getD, List.getD_eq_getElem?_getD, List.getElem?_map, List.getElem?_eq_getElem hj']
        rfl
      go_wp2
      go_ret
      exact ⟨rfl, hbel⟩
end Go.Proofs.YtgfoaopfdpclhaaGreatDoor
