/-
  Finding an attribute; the laws HeaderParses and HeaderFinds.
-/
import Derived.Test.YtonohkckflgcbaaHeader5
namespace Go.Proofs.Ytonohkckflgcbaa
open Go.RowKit
set_option linter.unusedVariables false

/-- Of the first k pairs the last one of a name: its value. -/
def findTo (l : List (List UInt8 × List UInt8)) (nm : List UInt8) : Nat → List UInt8 × Bool
  | 0 => ([], false)
  | k + 1 => if lowerL (l.getD k ([], [])).1 == lowerL nm then ((l.getD k ([], [])).2, true) else findTo l nm k
theorem getD_in {α : Type} {l : List α} {d : α} {k : Nat} (h : k < l.length) : l.getD k d = l[k] := by
  rw [List.getD_eq_getElem?_getD, List.getElem?_eq_getElem h]; rfl
theorem findTo_hit {l : List (List UInt8 × List UInt8)} {nm : List UInt8} {k : Nat} (hk : k < l.length) (h : (lowerL l[k].1 == lowerL nm) = true) : findTo l nm (k + 1) = (l[k].2, true) := by
  rw [findTo, getD_in hk, if_pos h]
theorem findTo_miss {l : List (List UInt8 × List UInt8)} {nm : List UInt8} {k : Nat} (hk : k < l.length) (h : (lowerL l[k].1 == lowerL nm) = false) : findTo l nm (k + 1) = findTo l nm k := by
  rw [findTo, getD_in hk, if_neg (by rw [h]; decide)]
theorem ret_sb {a b : ByteArray} {c d : Bool} (h : a = b) (h' : c = d) : Ending.returned (.tuple #[.string a, .bool c]) = .returned (.tuple #[.string b, .bool d]) := by rw [h, h']

set_option maxHeartbeats 1000000 in
theorem find12_any (A : Option Addr) (n c : Nat) (l : List (List UInt8 × List UInt8)) (nm : ByteArray) (w : World) (h : Rd w 2 (.slice A n c) n (cellsP l)) (hn : nm.size ≤ maxLen) (hl4 : ∀ p ∈ l, p.1.length ≤ maxLen) :
    Calls Try.prog 17 #[.slice A n c, .string nm] w fun e w' => e = .returned (.tuple #[.string (S (findTo l nm.toList l.length).1), .bool (findTo l nm.toList l.length).2]) ∧ Below w.heap.size w w' := by
  have hl := h.len
  have hcap := h.cap
  unfold maxLen at hcap
  obtain ⟨hca, hcb⟩ := hcap
  subst hl
  go_enter Try.func17, Try.ntmps17
  go_wp2
  go_step3
  go_wp2
  go_step3
  go_wp2
  go_loopw [6, 7, 8] (fun v f i wr => ∃ k : Nat, k ≤ l.length ∧ i = .int .i64 ((k : Int) - 1) ∧ v = .string (S []) ∧ f = .bool false ∧ Below w.heap.size w wr ∧ Hid (findTo l nm.toList l.length = findTo l nm.toList k)) (fun _ _ i _ => (intOf i + 1).toNat)
  case atStart => exact ⟨l.length, Nat.le_refl _, rfl, rfl, rfl, Below.refl _ _, rfl⟩
  case round =>
    obtain ⟨k, hk, rfl, rfl, rfl, hbel, hch⟩ := hrel
    by_cases h0 : k = 0
    · subst h0
      go_wp2
      try rw [Exit.noGoto_ret]
      go_ret2
      exact ⟨ret_sb (by rw [hch.out]; rfl) (by rw [hch.out]; rfl), hbel⟩
    · obtain ⟨k, rfl⟩ : ∃ j, k = j + 1 := ⟨k - 1, by omega⟩
      have hlt : k < l.length := by omega
      have hki : (k : Int) < l.length := by omega
      obtain ⟨b, off, rfl, hb, hx⟩ := (h.below hbel).pairs hlt
      obtain ⟨hxa, hxb⟩ := hx k hlt
      clear hx
      have hm : (S l[k].1).size ≤ maxLen := by rw [S_size]; exact hl4 _ (List.getElem_mem hlt)
      go_wp2_with fail
      refine (same_any _ nm _ hm hn).mono ?_
      rintro e w4 ⟨rfl, hb4⟩
      rw [S_toList]
      have hbel4 := bel_call hbel hb4
      have hxb4 := cell_later hb4 hxb
      clear hxa hxb
      by_cases hs : (lowerL l[k].1 == lowerL nm.toList) = true
      · have hh := Lib.hid (findTo_hit hlt hs)
        go_wp2_with fail
        try rw [Exit.noGoto_ret]
        go_ret2
        exact ⟨ret_sb (by rw [hch.out, hh.out]) (by rw [hch.out, hh.out]), hbel4⟩
      · have hs' : (lowerL l[k].1 == lowerL nm.toList) = false := by simpa using hs
        have hh := Lib.hid (findTo_miss hlt hs')
        clear hs
        go_wp2_with fail
        go_roundw
        case rel => exact ⟨k, by omega, rfl, rfl, rfl, hbel4, hch.out.trans hh.out⟩
        case measure => simp [intOf]

set_option maxHeartbeats 1000000 in
theorem refFind12_any (A : Option Addr) (n c : Nat) (l : List (List UInt8 × List UInt8)) (nm : ByteArray) (w : World) (h : Rd w 2 (.slice A n c) n (cellsP l)) (hn : nm.size ≤ 4294967296) (hl4 : ∀ p ∈ l, p.1.length ≤ 4294967296) :
    Calls Try.prog 19 #[.slice A n c, .string nm] w fun e w' => e = .returned (.tuple #[.string (S (findTo l nm.toList l.length).1), .bool (findTo l nm.toList l.length).2]) ∧ Below w.heap.size w w' := by
  have hl := h.len
  have hcap := h.cap
  unfold maxLen at hcap
  obtain ⟨hca, hcb⟩ := hcap
  subst hl
  go_enter Try.func19, Try.ntmps19
  go_wp2
  go_loopw [6, 7, 8] (fun v f i wr => ∃ k : Nat, k ≤ l.length ∧ i = .int .i64 k ∧ v = .string (S (findTo l nm.toList k).1) ∧ f = .bool (findTo l nm.toList k).2 ∧ Below w.heap.size w wr) (fun _ _ i _ => l.length - (intOf i).toNat)
  case atStart => exact ⟨0, Nat.zero_le _, rfl, rfl, rfl, Below.refl _ _⟩
  case round =>
    obtain ⟨k, hk, rfl, rfl, rfl, hbel⟩ := hrel
    by_cases hlt : k < l.length
    · have hki : (k : Int) < l.length := by omega
      obtain ⟨b, off, rfl, hb, hx⟩ := (h.below hbel).pairs hlt
      obtain ⟨hxa, hxb⟩ := hx k hlt
      clear hx
      have hm : (S l[k].1).size ≤ 4294967296 := by rw [S_size]; exact hl4 _ (List.getElem_mem hlt)
      go_wp2_with fail
      refine (refLower_any _ _ hm).mono ?_
      rintro e w4 ⟨rfl, hb4⟩
      rw [S_toList]
      have hbel4 := bel_call hbel hb4
      have hxb4 := cell_later hb4 hxb
      clear hxa hxb hb4
      go_wp2_with fail
      refine (refLower_any nm _ hn).mono ?_
      rintro e w5 ⟨rfl, hb5⟩
      have hbel5 := bel_call hbel4 hb5
      have hxb5 := cell_later hb5 hxb4
      clear hxb4 hb5
      by_cases hs : (lowerL l[k].1 == lowerL nm.toList) = true
      · have hh := Lib.hid (findTo_hit hlt hs)
        go_wp2_with fail
        go_roundw
        case rel => exact ⟨k + 1, by omega, by go_num, by rw [hh.out], by rw [hh.out], hbel5⟩
        case measure => simp [intOf]; omega
      · have hs' : (lowerL l[k].1 == lowerL nm.toList) = false := by simpa using hs
        have hh := Lib.hid (findTo_miss hlt hs')
        clear hs
        go_wp2_with fail
        go_roundw
        case rel => exact ⟨k + 1, by omega, by go_num, by rw [hh.out], by rw [hh.out], hbel5⟩
        case measure => simp [intOf]; omega
    · obtain rfl : k = l.length := by omega
      go_wp2
      go_ret2
      exact ⟨rfl, hbel⟩

theorem awk_parse : parseE [97, 61, 98, 59, 32, 80, 97, 116, 104, 61, 47, 120, 59, 32, 83, 101, 99, 117, 114, 101] = 0 ∧ parseP [97, 61, 98, 59, 32, 80, 97, 116, 104, 61, 47, 120, 59, 32, 83, 101, 99, 117, 114, 101] = ([97], [98]) ∧
    parseL [97, 61, 98, 59, 32, 80, 97, 116, 104, 61, 47, 120, 59, 32, 83, 101, 99, 117, 114, 101] = [([80, 97, 116, 104], [47, 120]), ([83, 101, 99, 117, 114, 101], [])] := by decide
theorem awk_find : findTo [([80, 97, 116, 104], [47, 120]), ([83, 101, 99, 117, 114, 101], [])] [112, 97, 116, 104] 2 = ([47, 120], true) := by decide

set_option maxHeartbeats 1000000 in
theorem awake12 (w : World) :
    Calls Try.prog 11 #[] w fun e w' => e = .returned (.bool true) ∧ Below w.heap.size w w' := by
  go_enter Try.func11, Try.ntmps11
  go_wp2_with fail
  refine (parse_any _ _ (by decide)).mono ?_
  rintro e w1 ⟨A, c, rfl, hown, hb1⟩
  rw [ByteArray.toList_mk] at hown ⊢
  rw [awk_parse.2.2] at hown
  rw [awk_parse.1, awk_parse.2.1, awk_parse.2.2]
  have hR := (Rd.of_own hown).alloc (.cells #[.string (S [97]), .string (S [98])] 24)
  have hP := Blk.new_ w1 24 #[.string (S [97]), .string (S [98])]
  have hB := bel_alloc hb1 (.cells #[.string (S [97]), .string (S [98])] 24)
  have haf := awk_find
  unfold aggP strV
  clear hown hb1
  go_wp2_with fail
  generalize w1.alloc (.cells #[.string (S [97]), .string (S [98])] 24) = w2 at *
  generalize w1.heap.size = g at *
  refine (find12_any A 2 c [([80, 97, 116, 104], [47, 120]), ([83, 101, 99, 117, 114, 101], [])] _ w2 hR (by decide) (by decide)).mono ?_
  rintro e w3 ⟨rfl, hb3⟩
  rw [ByteArray.toList_mk, show ([([80, 97, 116, 104], [47, 120]), ([83, 101, 99, 117, 114, 101], [])] : List (List UInt8 × List UInt8)).length = 2 from rfl, awk_find]
  have hP3 := hP.below hb3
  have hp0 := hP3.cell 0
  have hp1 := hP3.cell 1
  simp at hp0 hp1
  have hB3 := bel_call hB hb3
  go_wp2
  go_ret
  exact ⟨rfl, hB3⟩

theorem parse_lens (s : List UInt8) : (parseL s).length ≤ s.length ∧ ∀ p ∈ parseL s, p.1.length ≤ s.length ∧ p.2.length ≤ s.length := by
  unfold parseL
  split
  · have h1 := split_len s 59
    refine ⟨by simp; omega, fun p hp => ?_⟩
    obtain ⟨x, hx, rfl⟩ := List.mem_map.1 hp
    have h2 := pairL_len x
    have h3 := split_part s 59 x (List.mem_of_mem_tail hx)
    omega
  · simp

set_option maxHeartbeats 2000000 in
theorem headerParses (s : ByteArray) (w : World) (hs : s.size ≤ maxLen) :
    Calls Try.prog 3 #[.string s] w fun e w' => e = .returned (.bool true) ∧ Below w.heap.size w w' := by
  have hs' := hs
  unfold maxLen at hs'
  by_cases h1 : 5000 < s.size
  · go_enter Try.func3, Try.ntmps3
    go_wp2_with (go_at_call 11; refine (awake12 _).mono ?_; rintro e w1 ⟨rfl, hb1⟩)
    go_ret
    exact ⟨rfl, hb1⟩
  have h1i : (s.size : Int) ≤ 5000 := by omega
  have hs4 : s.size ≤ 4294967296 := by omega
  have hlens := parse_lens s.toList
  have hn4 : (parseL s.toList).length ≤ 4294967296 := by rw [← size_toList] at hlens; omega
  clear hlens
  go_enter Try.func3, Try.ntmps3
  go_wp2_with fail
  refine (parse_any _ _ hs4).mono ?_
  rintro e w1 ⟨A1, c1, rfl, hown1, hb1⟩
  unfold aggP strV
  have hR1 := (Rd.of_own hown1).alloc (.cells #[.string (S (parseP s.toList).1), .string (S (parseP s.toList).2)] 24)
  have hP1 := Blk.new_ w1 24 #[.string (S (parseP s.toList).1), .string (S (parseP s.toList).2)]
  have hB1 := bel_alloc hb1 (.cells #[.string (S (parseP s.toList).1), .string (S (parseP s.toList).2)] 24)
  clear hown1 hb1
  go_wp2_with fail
  generalize w1.alloc (.cells #[.string (S (parseP s.toList).1), .string (S (parseP s.toList).2)] 24) = w2 at *
  generalize w1.heap.size = g1 at *
  refine (refParse_any _ _ hs4).mono ?_
  rintro e w3 ⟨A2, c2, rfl, hown2, hb2⟩
  unfold aggP strV
  have hR1' := (hR1.below hb2).alloc (.cells #[.string (S (parseP s.toList).1), .string (S (parseP s.toList).2)] 29)
  have hP1' := (hP1.below hb2).alloc (.cells #[.string (S (parseP s.toList).1), .string (S (parseP s.toList).2)] 29)
  have hR2 := (Rd.of_own hown2).alloc (.cells #[.string (S (parseP s.toList).1), .string (S (parseP s.toList).2)] 29)
  have hP2 := Blk.new_ w3 29 #[.string (S (parseP s.toList).1), .string (S (parseP s.toList).2)]
  have hB2 := bel_alloc (bel_call hB1 hb2) (.cells #[.string (S (parseP s.toList).1), .string (S (parseP s.toList).2)] 29)
  have hp0 := hP1'.cell 0
  have hp1 := hP1'.cell 1
  have hq0 := hP2.cell 0
  have hq1 := hP2.cell 1
  simp at hp0 hp1 hq0 hq1
  clear hR1 hP1 hB1 hown2 hb2
  go_wp2_with fail
  generalize w3.alloc (.cells #[.string (S (parseP s.toList).1), .string (S (parseP s.toList).2)] 29) = w4 at *
  refine (back_any _ _ _ _ _ hR1' hn4).mono ?_
  rintro e w5 ⟨A3, c3, rfl, hown3, hb3⟩
  have hR3 := Rd.of_own hown3
  have hR4 := hR2.below hb3
  have hB3 := bel_call hB2 hb3
  clear hown3 hb3 hR2 hR1' hB2
  go_wp2_with fail
  refine (same12_any _ _ _ _ _ _ _ _ _ hR3 hR4).mono ?_
  rintro e w6 ⟨rfl, hb4⟩
  rw [decide_eq_true (rfl : parseL s.toList = parseL s.toList)]
  have hB4 := bel_call hB3 hb4
  go_wp2_with (go_at_call 11; refine (awake12 _).mono ?_; rintro e w7 ⟨rfl, hb7⟩)
  go_ret
  exact ⟨rfl, bel_call hB4 hb7⟩
end Go.Proofs.Ytonohkckflgcbaa
