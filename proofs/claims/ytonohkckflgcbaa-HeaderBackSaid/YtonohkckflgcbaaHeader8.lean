/-
  The walks of package header, eighth part: printing.
-/
import Derived.Test.YtonohkckflgcbaaHeader7
namespace Go.Proofs.Ytonohkckflgcbaa
open Go.RowKit
set_option linter.unusedVariables false

set_option maxHeartbeats 1000000 in
theorem equalPairs_any (A1 A2 : Option Addr) (n1 c1 n2 c2 : Nat) (l1 l2 : List (List UInt8 × List UInt8)) (w : World) (h1 : Rd w 2 (.slice A1 n1 c1) n1 (cellsP l1)) (h2 : Rd w 2 (.slice A2 n2 c2) n2 (cellsP l2)) :
    Calls Try.prog 41 #[.slice A1 n1 c1, .slice A2 n2 c2] w fun e w' => e = .returned (.bool (decide (l1 = l2))) ∧ Below w.heap.size w w' := by
  have hl1 := h1.len
  have hl2 := h2.len
  have hcap1 := h1.cap
  have hcap2 := h2.cap
  unfold maxLen at hcap1 hcap2
  obtain ⟨hca1, hcb1⟩ := hcap1
  obtain ⟨hca2, hcb2⟩ := hcap2
  subst hl1 hl2
  by_cases hne : l1.length = l2.length
  · have hne1 : ((l1.length : Int) != l2.length) = false := by rw [bne_eq_false_iff_eq]; omega
    have hle : l1.length ≤ l2.length ∧ l2.length ≤ l1.length := by omega
    have hE := Lib.hid hne
    clear hne
    obtain ⟨hle1, hle2⟩ := hle
    go_enter Try.func41, Try.ntmps41
    go_wp2
    go_loopw [13] (fun i wr => ∃ k : Nat, k ≤ l1.length ∧ i = .int .i64 k ∧ Below w.heap.size w wr ∧ Hid (∀ j (hj : j < l1.length) (hj' : j < l2.length), j < k → l1[j].1 = l2[j].1 ∧ l1[j].2 = l2[j].2)) (fun i _ => l1.length - (intOf i).toNat)
    case atStart => exact ⟨0, Nat.zero_le _, rfl, Below.refl _ _, fun j _ _ hj => absurd hj (by omega)⟩
    case round =>
      obtain ⟨k, hk, rfl, hbel, hall⟩ := hrel
      by_cases hlt : k < l1.length
      · have hlt2 : k < l2.length := by omega
        have hlti : (k : Int) < l1.length := by omega
        have hlti2 : (k : Int) < l2.length := by omega
        obtain ⟨b1, o1, rfl, hb1, hx1⟩ := (h1.below hbel).pairs hlt
        obtain ⟨b2, o2, rfl, hb2, hx2⟩ := (h2.below hbel).pairs hlt2
        obtain ⟨hx1a, hx1b⟩ := hx1 k hlt
        obtain ⟨hx2a, hx2b⟩ := hx2 k hlt2
        clear hx1 hx2
        go_wp2
        have hcs : (l1[k].1 = l2[k].1 ∧ l1[k].2 = l2[k].2) ∨ (¬ l1[k].1 = l2[k].1 ∧ Hid (¬ (l1 = l2))) ∨ (l1[k].1 = l2[k].1 ∧ ¬ l1[k].2 = l2[k].2 ∧ Hid (¬ (l1 = l2))) := by
          by_cases h1 : l1[k].1 = l2[k].1
          · by_cases h2 : l1[k].2 = l2[k].2
            · exact Or.inl ⟨h1, h2⟩
            · exact Or.inr (Or.inr ⟨h1, h2, fun e => h2 (by subst e; rfl)⟩)
          · exact Or.inr (Or.inl ⟨h1, fun e => h1 (by subst e; rfl)⟩)
        rcases hcs with ⟨e1, e2⟩ | ⟨e1, hD⟩ | ⟨e1, e2, hD⟩
        · have hS := Lib.hid (And.intro e1 e2)
          go_quiet (fail)
          go_wp2
          go_roundw
          case rel => exact ⟨k + 1, by omega, by go_num, below_drews hbel _, fun j hj hj' hjk => by
            by_cases e : j = k
            · subst e; exact hS.out
            · exact hall.out j hj hj' (by omega)⟩
          case measure => simp [intOf]; omega
        · go_quiet (fail)
          go_wp2
          go_ret
          exact ⟨ret_bool (decide_eq_false hD.out).symm, below_drews hbel _⟩
        · go_quiet (fail)
          go_wp2
          go_ret
          exact ⟨ret_bool (decide_eq_false hD.out).symm, below_drews hbel _⟩
      · obtain rfl : k = l1.length := by omega
        go_wp2
        go_ret
        exact ⟨ret_bool (by rw [pairs_eq hE.out (fun j a b => hall.out j a b a)]; simp), hbel⟩
  · have hne1 : ((l1.length : Int) != l2.length) = true := by rw [bne_iff_ne]; omega
    go_enter Try.func41, Try.ntmps41
    go_wp2
    go_ret
    refine ⟨ret_bool (Eq.symm (decide_eq_false ?_)), Below.refl _ _⟩
    intro e
    exact hne (by rw [e])

/-- Is a header's text parted as the header? -/
def printOk (p : List UInt8 × List UInt8) (l : List (List UInt8 × List UInt8)) : Bool := decide (parseE (textH p l) = 0) && decide (parseP (textH p l) = p) && decide (parseL (textH p l) = l)
theorem parseE_long {t : List UInt8} (h : 4096 < t.length) : parseE t = 3 := by unfold parseE; simp only; rw [if_pos h]
theorem print_long {p : List UInt8 × List UInt8} {l : List (List UInt8 × List UInt8)} (h : 4096 < (textH p l).length) : printOk p l = false := by
  unfold printOk; rw [parseE_long h]; rfl

def printT (p : List UInt8 × List UInt8) (l : List (List UInt8 × List UInt8)) : List UInt8 × Int := if printOk p l then (textH p l, 0) else ([], 1)
theorem printT_no {p : List UInt8 × List UInt8} {l : List (List UInt8 × List UInt8)} (h : printOk p l = false) : printT p l = ([], 1) := by unfold printT; rw [h]; rfl
theorem printT_yes {p : List UInt8 × List UInt8} {l : List (List UInt8 × List UInt8)} (h : printOk p l = true) : printT p l = (textH p l, 0) := by unfold printT; rw [h]; rfl

set_option maxHeartbeats 4000000 in
theorem print_any (p : List UInt8 × List UInt8) (A : Option Addr) (n c : Nat) (l : List (List UInt8 × List UInt8)) (w : World) (h : Rd w 2 (.slice A n c) n (cellsP l)) (ht : (textH p l).length ≤ 4294967296) :
    Calls Try.prog 20 #[aggP p, .slice A n c] w fun e w' => e = .returned (.tuple #[.string (S (printT p l).1), .int .i64 (printT p l).2]) ∧ Below w.heap.size w w' := by
  have hl := h.len
  have hcap := h.cap
  unfold maxLen at hcap
  obtain ⟨hca, hcb⟩ := hcap
  subst hl
  have h0 := Lib.hid (show textH p (l.take 0) = p.1 ++ [61] ++ p.2 by unfold textH; simp)
  have hst := Lib.hid (textH_take p l)
  have hle := Lib.hid (textH_le p l)
  have hbad := Lib.hid (fun h => printT_no (@print_long p l h))
  have h0l := hle.out 0
  rw [h0.out] at h0l
  simp only [List.length_append, List.length_singleton] at h0l
  have hp1 : (S p.1).size + 1 ≤ maxLen := by rw [S_size]; unfold maxLen; omega
  have hp2 : (S p.1).size + 1 + (S p.2).size ≤ maxLen := by rw [S_size, S_size]; unfold maxLen; omega
  unfold aggP strV
  have hP := Blk.new_ w 24 #[.string (S p.1), .string (S p.2)]
  have hB := bel_alloc (Below.refl w.heap.size w) (.cells #[.string (S p.1), .string (S p.2)] 24)
  have hR := h.alloc (.cells #[.string (S p.1), .string (S p.2)] 24)
  have hp0 := hP.cell 0
  have hp1 := hP.cell 1
  simp at hp0 hp1
  go_enter Try.func20, Try.ntmps20
  go_wp2_with fail
  clear hp0 hp1
  generalize hw1 : w.alloc (.cells #[.string (S p.1), .string (S p.2)] 24) = w1 at *
  have hg : w.heap.size < w1.heap.size := hP.lt
  have hgB := Lib.hid (Nat.le_of_lt hg)
  generalize hgg0 : w.heap.size = g at *
  have hgg := Lib.hid hgg0
  clear hgg0
  go_loopw [6, 8, 20] (fun t u i wr => ∃ k : Nat, k ≤ l.length ∧ i = .int .i64 k ∧ t = .string (S (textH p (l.take k))) ∧ Below w1.heap.size w1 wr) (fun _ _ i _ => l.length - (intOf i).toNat)
  case atStart => exact ⟨0, Nat.zero_le _, rfl, by show Value.string (S p.1 ++ S [61] ++ S p.2) = _; rw [S_append, S_append, h0.out], Below.refl _ _⟩
  case round =>
    obtain ⟨k, hk, rfl, rfl, hbel⟩ := hrel
    by_cases hlt : k < l.length
    · have hlti : (k : Int) < l.length := by omega
      obtain ⟨b, off, rfl, hb, hx⟩ := (hR.below hbel).pairs hlt
      obtain ⟨hxa, hxb⟩ := hx k hlt
      clear hx
      have hs1 := Lib.hid (hst.out k hlt)
      have hs2 := hle.out (k + 1)
      have hs3 := Lib.hid hs2
      rw [hs1.out] at hs2
      obtain ⟨q, hq⟩ : ∃ q, l[k] = q := ⟨_, rfl⟩
      rw [hq] at hxa hxb hs1 hs2
      clear hq
      have hbel2 := bel_alloc hbel (.cells #[.string (S q.1), .string (S q.2)] 24)
      cases he : q.2.isEmpty
      · have hA := Lib.hid (textA_some he)
        rw [hA.out] at hs2
        simp only [List.length_append, List.length_cons, List.length_nil] at hs2
        go_wp2_with fail
        all_goals first
          | (have hF := hbad.out (by have := hs3.out; rw [hs1.out, hA.out] at this; simp only [List.length_append, List.length_cons, List.length_nil] at this; omega)
             rw [hF]
             go_ret2
             exact ⟨rfl, by rw [hgg.out]; exact bel_onto hB hbel2 hgB.out⟩)
          | (go_roundw
             case rel => exact ⟨k + 1, by omega, by go_num, by
               rw [hs1.out, hA.out]
               show Value.string (S (textH p (l.take k)) ++ (S [59, 32] ++ S q.1) ++ (S [61] ++ S q.2)) = _
               simp only [S_append, List.append_assoc], hbel2⟩
             case measure => simp [intOf]; omega)
      · have hA := Lib.hid (textA_none he)
        rw [hA.out] at hs2
        simp only [List.length_append, List.length_cons, List.length_nil] at hs2
        go_wp2_with fail
        all_goals first
          | (have hF := hbad.out (by have := hs3.out; rw [hs1.out, hA.out] at this; simp only [List.length_append, List.length_cons, List.length_nil] at this; omega)
             rw [hF]
             go_ret2
             exact ⟨rfl, by rw [hgg.out]; exact bel_onto hB hbel2 hgB.out⟩)
          | (go_roundw
             case rel => exact ⟨k + 1, by omega, by go_num, by
               rw [hs1.out, hA.out]
               show Value.string (S (textH p (l.take k)) ++ (S [59, 32] ++ S q.1)) = _
               simp only [S_append, List.append_assoc], hbel2⟩
             case measure => simp [intOf]; omega)
    · obtain rfl : k = l.length := by omega
      rw [List.take_length]
      have hPr := hP.below hbel
      have hRr := hR.below hbel
      have hbw := bel_onto hB hbel hgB.out
      have hgr := Nat.le_trans hgB.out hbel.size
      clear hB hbel hP hR hbad hle hst h0
      go_wp2_with fail
      refine (parse_any _ _ (by rw [S_size]; exact ht)).mono ?_
      rintro e w3 ⟨A3, c3, rfl, hown, hb3⟩
      rw [S_toList] at hown ⊢
      have hF := Lib.hid (show printOk p l = (decide (parseE (textH p l) = 0) && decide (parseP (textH p l) = p) && decide (parseL (textH p l) = l)) from rfl)
      generalize htt : textH p l = t at hF hown ht h0l ⊢
      have htx := Lib.hid htt
      clear htt
      generalize parseL t = lt at *
      generalize hpp : parseP t = pt at *
      unfold aggP strV
      have hR3 := (Rd.of_own hown).alloc (.cells #[.string (S pt.1), .string (S pt.2)] 24)
      have hRl := (hRr.below hb3).alloc (.cells #[.string (S pt.1), .string (S pt.2)] 24)
      have hP3 := (hPr.below hb3).alloc (.cells #[.string (S pt.1), .string (S pt.2)] 24)
      have hQ3 := Blk.new_ w3 24 #[.string (S pt.1), .string (S pt.2)]
      have hB3 := (bel_onto hbw hb3 hgr).alloc (Nat.le_trans hgr hb3.size) (.cells #[.string (S pt.1), .string (S pt.2)] 24)
      have hp0 := hP3.cell 0
      have hp1 := hP3.cell 1
      have hq0 := hQ3.cell 0
      have hq1 := hQ3.cell 1
      simp at hp0 hp1 hq0 hq1
      have hgz := Nat.le_trans hgr (Nat.le_trans hb3.size (Nat.le_of_lt hQ3.lt))
      clear hown hRr hPr hbw hb3
      by_cases hE : parseE t = 0
      case neg =>
        have hEi : (parseE t != 0) = true := by rw [bne_iff_ne]; exact hE
        have hG := Lib.hid (show printT p l = ([], 1) from printT_no (by rw [hF.out, decide_eq_false hE]; rfl))
        go_wp2_with fail
        rw [hG.out]
        go_ret2
        exact ⟨rfl, by rw [hgg.out]; exact hB3⟩
      have hEi : (parseE t != 0) = false := by rw [bne_eq_false_iff_eq]; exact hE
      have hF := Lib.hid (show printOk p l = (decide (pt = p) && decide (lt = l)) by rw [hF.out, decide_eq_true hE]; rfl)
      clear hE
      have hcs : (pt.1 = p.1 ∧ pt.2 = p.2 ∧ Hid (pt = p)) ∨ (¬ pt.1 = p.1 ∧ Hid (¬ (pt = p))) ∨ (pt.1 = p.1 ∧ ¬ pt.2 = p.2 ∧ Hid (¬ (pt = p))) := by
        by_cases h1 : pt.1 = p.1
        · by_cases h2 : pt.2 = p.2
          · exact Or.inl ⟨h1, h2, Prod.ext h1 h2⟩
          · exact Or.inr (Or.inr ⟨h1, h2, fun e => h2 (by subst e; rfl)⟩)
        · exact Or.inr (Or.inl ⟨h1, fun e => h1 (by subst e; rfl)⟩)
      rcases hcs with ⟨e1, e2, hS⟩ | ⟨e1, hD⟩ | ⟨e1, e2, hD⟩
      · obtain rfl := hS.out
        clear e1 e2 hS
        go_wp2_with fail
        refine (equalPairs_any _ _ _ _ _ _ _ _ _ hR3 hRl).mono ?_
        rintro e w5 ⟨rfl, hb5⟩
        have hB5 := bel_onto hB3 hb5 hgz
        by_cases hL : lt = l
        · have hG := Lib.hid (show printT pt l = (t, 0) by rw [← htx.out]; exact printT_yes (by rw [hF.out, decide_eq_true hL]; rfl))
          rw [decide_eq_true hL]
          clear hL
          go_wp2_with fail
          rw [hG.out]
          go_ret2
          exact ⟨rfl, by rw [hgg.out]; exact hB5⟩
        · have hG := Lib.hid (show printT pt l = ([], 1) from printT_no (by rw [hF.out, decide_eq_false hL, Bool.and_false]))
          rw [decide_eq_false hL]
          clear hL
          go_wp2_with fail
          rw [hG.out]
          go_ret2
          exact ⟨rfl, by rw [hgg.out]; exact hB5⟩
      · have hG := Lib.hid (show printT p l = ([], 1) from printT_no (by rw [hF.out, decide_eq_false hD.out]; rfl))
        go_wp2_with fail
        rw [hG.out]
        go_ret2
        exact ⟨rfl, by rw [hgg.out]; exact hB3⟩
      · have hG := Lib.hid (show printT p l = ([], 1) from printT_no (by rw [hF.out, decide_eq_false hD.out]; rfl))
        rw [e1] at hp0 hp1 hB3
        go_wp2_with fail
        rw [hG.out]
        go_ret2
        exact ⟨rfl, by rw [hgg.out]; exact hB3⟩
end Go.Proofs.Ytonohkckflgcbaa
