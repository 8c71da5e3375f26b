/-
  The walks of package suffix: a name's public suffix.
-/
import Derived.Test.YtbijphfendaddaaSuf4
namespace Go.Proofs.Ytbijphfendaddaa
open Go.RowKit
set_option linter.unusedVariables false

def PBd (p : Int × Int) : Prop := (0 ≤ p.1 ∧ p.1 ≤ 4294967298) ∧ (0 ≤ p.2 ∧ p.2 ≤ 4294967298)
theorem keep_bd (n : List UInt8) (r : Ru) (p : Int × Int) (h : PBd p) (hr : r.nm.length ≤ 4294967296) : PBd (keepT n r p) := by
  have hmb : manyN r.nm ≤ 4294967297 := by
    have := List.count_le_length (a := (46 : UInt8)) (l := r.nm)
    unfold manyN; omega
  have hmb2 : (manyN r.nm : Int) ≤ 4294967297 := by omega
  obtain ⟨⟨a1, a2⟩, b1, b2⟩ := h
  unfold keepT
  split
  · exact ⟨⟨Int.le_trans a1 (Int.le_max_left _ _), Int.max_le.2 ⟨a2, by omega⟩⟩, b1, b2⟩
  · split
    · exact ⟨⟨a1, a2⟩, Int.le_trans b1 (Int.le_max_left _ _), Int.max_le.2 ⟨b2, by omega⟩⟩
    · split
      · exact ⟨⟨Int.le_trans a1 (Int.le_max_left _ _), Int.max_le.2 ⟨a2, by omega⟩⟩, b1, b2⟩
      · exact ⟨⟨a1, a2⟩, b1, b2⟩
theorem foldR_step (n : List UInt8) (rs : List (List UInt8)) (k : Nat) (h : k < rs.length) (p : Int × Int) : foldR n (rs.drop k) p = foldR n (rs.drop (k + 1)) (keepT n (ruleT rs[k]) p) := by
  rw [List.drop_eq_getElem_cons h]; rfl

set_option maxRecDepth 4000 in
set_option maxHeartbeats 4000000 in
theorem of_any (A : Option Addr) (n0 c : Nat) (rs : List (List UInt8)) (n : List UInt8) (w : World) (h : Rd w 1 (.slice A n0 c) n0 (rs.map strV)) (hrs : ∀ r ∈ rs, r.length ≤ 4294967296) (hn : n.length ≤ 4294967296) :
    Calls Try.prog 11 #[.slice A n0 c, .string (S n)] w fun e w' => e = .returned (.tuple #[.string (S (ofT rs n).1), .int .i64 (ofT rs n).2]) ∧ Below w.heap.size w w' := by
  have hmf : ∀ (fn : Fn) (first cap : Array Value) (w : World), (Instr.makeFunc fn first cap).run Try.prog w = .ok (.func fn first cap) w := fun _ _ _ _ => rfl
  have hcap := h.cap
  unfold maxLen at hcap
  obtain ⟨hca, hcb⟩ := hcap
  have hlen := h.texts.1
  subst hlen
  have hnz : (S n).size ≤ 4294967296 := by rw [S_size]; exact hn
  have hK0 := Blk.new_ w 9 #[.string (S n)]
  have hb0 := bel_alloc (Below.refl w.heap.size w) (.cells #[.string (S n)] 9)
  have hr0 := h.alloc (.cells #[.string (S n)] 9)
  by_cases hck : checkI rs = 0
  · have hckH := Lib.hid hck
    cases hnb : nameB n with
    | false =>
      have hT := Lib.hid (show ofT rs n = ([], 1) by unfold ofT; rw [if_neg (by simp [hck]), hnb]; rfl)
      have hnb' : nameB (S n).toList = false := by rw [S_toList]; exact hnb
      clear hck hnb
      go_enter Try.func11, Try.ntmps11
      go_wp2_with fail
      refine (check_any A rs.length c rs _ hr0 hrs).mono ?_
      rintro e w1 ⟨rfl, hb1⟩
      rw [hckH.out]
      have hK1 := hK0.below hb1
      have hbel1 := bel_call hb0 hb1
      have cn := hK1.cell 0
      simp at cn
      clear hb0 hb1 hK0 hr0
      go_wp2_with fail
      refine (labels_no (S n) _ hnz hnb').mono ?_
      rintro e w2 ⟨rfl, hb2⟩
      have hbel2 := bel_call hbel1 hb2
      go_wp2
      go_ret2
      rw [hT.out]
      exact ⟨rfl, hbel2⟩
    | true =>
      have hT := Lib.hid (show ofT rs n = (tailL n (bestI n rs), 0) by unfold ofT; rw [if_neg (by simp [hck]), hnb]; rfl)
      have hnb' : nameB (S n).toList = true := by rw [S_toList]; exact hnb
      have hspl := split_pos n
      have hst := Lib.hid (show foldR n rs (1, 0) = foldR n (rs.drop 0) (1, 0) from rfl)
      clear hck hnb
      go_enter Try.func11, Try.ntmps11
      go_wp2_with fail
      refine (check_any A rs.length c rs _ hr0 hrs).mono ?_
      rintro e w1 ⟨rfl, hb1⟩
      rw [hckH.out]
      have hK1 := hK0.below hb1
      have hbel1 := bel_call hb0 hb1
      have cn := hK1.cell 0
      simp at cn
      clear hb0 hb1 hK0 hr0
      go_wp2_with fail
      refine (labels_yes (S n) _ hnz hnb').mono ?_
      rintro e w2 ⟨A2, c2, rfl, hown2, hb2⟩
      rw [S_toList]
      have hK2 := hK1.below hb2
      have hbel2 := bel_call hbel1 hb2
      have hlt2 := hK2.lt
      clear hown2 hb2 hK1 hbel1 cn
      generalize (splitL n 46).length = m at *
      have hmi : ((m : Int) == 0) = false := beq_eq_false_iff_ne.2 (by omega)
      have hs3 : (w2.alloc (.cells #[.int .i64 1] 3)).heap.size = w2.heap.size + 1 := by simp
      have hKn := (hK2.alloc (.cells #[.int .i64 1] 3)).alloc (.cells #[.int .i64 0] 3)
      have hKb := (Blk.new_ w2 3 #[.int .i64 1]).alloc (.cells #[.int .i64 0] 3)
      have hKe := blk_new 3 #[.int .i64 0] hs3
      have hbel3 := bel_alloc (bel_alloc hbel2 (.cells #[.int .i64 1] 3)) (.cells #[.int .i64 0] 3)
      have hlb := hbel2.size
      clear hs3 hK2 hbel2
      go_wp2
      generalize w2.heap.size = g at *
      go_loopw [26] (fun i wr => ∃ (k : Nat) (p : Int × Int), i = .int .i64 k ∧ k ≤ rs.length ∧ PBd p ∧ Blk wr w.heap.size 9 #[.string (S n)] ∧ Blk wr g 3 #[.int .i64 p.1] ∧ Blk wr (g + 1) 3 #[.int .i64 p.2] ∧ Below w.heap.size w wr ∧ Hid (foldR n rs (1, 0) = foldR n (rs.drop k) p)) (fun i _ => rs.length - (intOf i).toNat)
      case atStart => exact ⟨0, (1, 0), rfl, by omega, ⟨by decide, by decide⟩, hKn, hKb, hKe, hbel3, hst.out⟩
      case round =>
        clear hKn hKb hKe hbel3 hst
        obtain ⟨k, p, rfl, hk, hpb, hKn, hKb, hKe, hbel, hin⟩ := hrel
        by_cases hlt : k < rs.length
        · have hki : (k : Int) < rs.length := by omega
          obtain ⟨b, off, rfl, hb, hx⟩ := (h.below hbel).texts.2 k hlt
          have hst2 := Lib.hid (hin.out.trans (foldR_step n rs k hlt p))
          have hrl := hrs _ (List.getElem_mem hlt)
          clear hin
          generalize rs[k] = tk at *
          have hrn := rule_len tk
          go_wp2_with fail
          refine (parse_any tk _ hrl).mono ?_
          rintro e w3 ⟨rfl, hb3⟩
          have hKn3 := hKn.below hb3
          have hKb3 := hKb.below hb3
          have hKe3 := hKe.below hb3
          have hbel3 := bel_call hbel hb3
          clear hb3 hbel hx hKn hKb hKe hb
          have hpb2 := keep_bd n (ruleT tk) p hpb (by omega)
          have hkp := Lib.hid (show ruC (ruleT tk) = #[.string (S (ruleT tk).nm), .bool (ruleT tk).an, .bool (ruleT tk).nt] from rfl)
          rw [hkp.out]
          have hKn4 := hKn3.alloc (.cells #[.string (S (ruleT tk).nm), .bool (ruleT tk).an, .bool (ruleT tk).nt] 47)
          have hKb4 := hKb3.alloc (.cells #[.string (S (ruleT tk).nm), .bool (ruleT tk).an, .bool (ruleT tk).nt] 47)
          have hKe4 := hKe3.alloc (.cells #[.string (S (ruleT tk).nm), .bool (ruleT tk).an, .bool (ruleT tk).nt] 47)
          have hbel4 := bel_alloc hbel3 (.cells #[.string (S (ruleT tk).nm), .bool (ruleT tk).an, .bool (ruleT tk).nt] 47)
          go_wp2_with fail
          refine (keep_any (ruleT tk) n p w.heap.size w.heap.size g (g + 1) _ (by omega) hn (by omega) (by omega) (by omega) (Nat.le_refl _) (by omega) (by omega) ⟨hpb.1.1, by have := hpb.1.2; omega⟩ ⟨hpb.2.1, by have := hpb.2.2; omega⟩ hKn4 hKb4 hKe4).mono ?_
          rintro e w5 ⟨rfl, hKn5, hKb5, hKe5, hbel5⟩
          have hbel6 := hbel4.trans hbel5
          clear hKn3 hKb3 hKe3 hKn4 hKb4 hKe4 hbel3 hbel4 hbel5
          go_wp2
          go_roundw
          case rel => exact ⟨k + 1, keepT n (ruleT tk) p, by go_num, by omega, hpb2, hKn5, hKb5, hKe5, hbel6, hst2.out⟩
          case measure => simp [intOf]; omega
        · obtain rfl : k = rs.length := by omega
          have hfin := Lib.hid (show foldR n rs (1, 0) = p from hin.out.trans (by rw [List.drop_length]; rfl))
          clear hin
          have cn := hKn.cell 0
          have cb := hKb.cell 0
          have ce := hKe.cell 0
          have fb := hKb.free 0
          simp at cn cb ce
          obtain ⟨pb, pe⟩ := p
          simp only at cb ce hKb hKe
          obtain ⟨⟨q1, q2⟩, q3, q4⟩ := hpb
          simp only at q1 q2 q3 q4
          by_cases he : 0 < pe
          · have hB := Lib.hid (show bestI n rs = pe - 1 by unfold bestI; rw [hfin.out]; exact if_pos he)
            have hb2 := bel_onto hbel (Below.refl _ _) hbel.size
            have hbel7 := hbel.setCell (p := ⟨g, 0, none⟩) (by omega) (.int .i64 (pe - 1))
            go_wp2_with fail
            refine (tail_any n (pe - 1) _ hn (by omega) (by omega)).mono ?_
            rintro e w7 ⟨rfl, hb7⟩
            have hbel8 := bel_onto hbel7 hb7 hbel7.size
            go_wp2
            go_ret2
            rw [hT.out, hB.out]
            exact ⟨rfl, hbel8⟩
          · have hB := Lib.hid (show bestI n rs = pb by unfold bestI; rw [hfin.out]; exact if_neg he)
            go_wp2_with fail
            refine (tail_any n pb _ hn (by omega) (by omega)).mono ?_
            rintro e w7 ⟨rfl, hb7⟩
            have hbel8 := bel_call hbel hb7
            go_wp2
            go_ret2
            rw [hT.out, hB.out]
            exact ⟨rfl, hbel8⟩
  · have hT := Lib.hid (show ofT rs n = ([], checkI rs) from if_pos hck)
    have hne : ((checkI rs) != 0) = true := by simpa using hck
    clear hck
    go_enter Try.func11, Try.ntmps11
    go_wp2_with fail
    refine (check_any A rs.length c rs _ hr0 hrs).mono ?_
    rintro e w1 ⟨rfl, hb1⟩
    have hbel1 := bel_call hb0 hb1
    generalize checkI rs = ck at *
    go_wp2
    go_ret2
    rw [hT.out]
    exact ⟨rfl, hbel1⟩
end Go.Proofs.Ytbijphfendaddaa
