/-
  Joined texts: Ck4.
-/
import Derived.Test.YtgfoaopfdpclhaaGreatDoorBu32
namespace Go.Proofs.YtgfoaopfdpclhaaGreatDoor
open Go.RowKit
set_option linter.unusedVariables false
set_option maxRecDepth 100000

def awRs : List (List UInt8) := [[116, 101, 115, 116]]
def awRq : Rq := ⟨[97, 46, 116, 101, 115, 116], [47, 120, 47, 121], false, false⟩
def awH1 : List UInt8 := [115, 105, 100, 61, 49]
def awH2 : List UInt8 := [115, 105, 100, 61, 49, 59, 32, 68, 111, 109, 97, 105, 110, 61, 116, 101, 115, 116]
def awX : It := ⟨⟨[115, 105, 100], [97, 46, 116, 101, 115, 116], [47, 120]⟩, ⟨[49], true, false, false, false, 1099511627776, 7, 7⟩⟩
theorem aw_e1 : mkE awRs awRq awH1 = 0 := by decide +kernel
theorem aw_x1 : mkX awRs awRq awH1 7 = awX := by decide +kernel
theorem aw_e2 : mkE awRs awRq awH2 = 14 := by decide +kernel
theorem aw_fit : fitsR awX awRq 8 = true := by decide +kernel
theorem aw_right : rightI awX = true := by decide +kernel
def mkRq (x : Array (Nat × Value)) : Sem Value := Instr.build 24 x
@[go_sem ↓] theorem to_mkRq (x : Array (Nat × Value)) : Instr.build 24 x = mkRq x := rfl
@[go_sem] theorem build_rqA (w : World) : (mkRq #[(0, .string { data := #[97, 46, 116, 101, 115, 116] }), (1, .string { data := #[47, 120, 47, 121] })]).run Tryz.prog w = .ok (.agg #[.string { data := #[97, 46, 116, 101, 115, 116] }, .string { data := #[47, 120, 47, 121] }, .bool false, .bool false]) w := by unfold mkRq; kernel_rfl
@[go_sem] theorem build_kyAw (w : World) : (mkK #[(0, .string { data := #[115, 105, 100] }), (1, .string { data := #[97, 46, 116, 101, 115, 116] }), (2, .string { data := #[47, 120] })]).run Tryz.prog w = .ok (vK awX.k) w := by unfold mkK; kernel_rfl
theorem rqc_cells4 {w : World} {b : Nat} {r : Rq} (h : rqAt w b 0 = some r) : w.cell? ⟨b, 0, none⟩ = some (.string (S r.h)) ∧ w.cell? ⟨b, 1, none⟩ = some (.string (S r.p)) ∧ w.cell? ⟨b, 3, none⟩ = some (.bool r.c) := by
  have hr : w.rangeAt b 0 (lRq r) := rdAt_range (f := lRq) h
  have h0 := hr 0 _ rfl
  have h1 := hr 1 _ rfl
  have h3 := hr 3 _ rfl
  rw [Nat.zero_add] at h0 h1 h3
  exact ⟨h0, h1, h3⟩
theorem rd_oneS (w : World) (l : List UInt8) (t : TypeId) (g : Nat) (hg : w.heap.size = g) : Rd (w.alloc (.cells #[.string (S l)] t)) 1 (.slice (some ⟨g, 0, none⟩) 1 1) 1 ([l].map strV) := by
  subst hg
  refine ⟨by simp, _, _, rfl, Nat.le_refl _, by simp [maxLen], .inr ⟨_, _, rfl, by simp, fun j hj => ?_⟩⟩
  rw [Nat.zero_add, cell_of_row _ w.heap.size j _ t (0, 0) (heap_alloc_new w _)]
  have : j = 0 := by simp at hj; omega
  subst this
  rfl
set_option maxRecDepth 20000 in
set_option maxHeartbeats 8000000 in
theorem awake14_any (w : World) (hm : Mon w) : Calls Tryz.prog 8 #[] w fun e w' => e = .returned (.bool true) ∧ Below w.heap.size w w' := by
  have hv1 : mkV awRs awRq awH1 7 = .tuple #[vI awX, .int .i64 0] := by rw [mk_good aw_e1, aw_x1]
  have hv2 : mkV awRs awRq awH2 7 = .tuple #[vI itZ, .int .i64 14] := mk_bad aw_e2 (by decide)
  replace hv1 := Lib.hid hv1
  replace hv2 := Lib.hid hv2
  have hq0 := rqAt_new w awRq 24 w.heap.size rfl
  have hB0 := bel_alloc (Below.refl w.heap.size w) (.cells (rqC awRq) 24)
  go_enter Tryz.func8, Tryz.ntmps8
  go_upto_region 2 with (fail)
  show Code.wp _ _ _ _ (w.alloc (.cells (rqC awRq) 24))
  have hm0 := hm.next hB0
  have hsz0 : (w.alloc (.cells (rqC awRq) 24)).heap.size = w.heap.size + 1 := by simp
  generalize w.alloc (.cells (rqC awRq) 24) = w0 at *
  have hRs : ∀ q ∈ awRs, q.length ≤ 4294967296 := by decide
  have hb1 := bel_alloc (Below.refl _ w0) (.cells #[.string (S [116, 101, 115, 116])] 9)
  have hR1 := rd_oneS w0 [116, 101, 115, 116] 9 (w.heap.size + 1) hsz0
  have hm1 := hm0.next hb1
  have hB1 := bel_call hB0 hb1
  have hq1 := rqAt_later hq0 hb1
  clear hB0 hb1 hm0
  go_wp2_with fail
  show Calls _ _ #[.slice (some ⟨w.heap.size + 1, 0, none⟩) 1 1, rqV awRq, .string (S awH1), .int .i64 7] (w0.alloc (.cells #[.string (S [116, 101, 115, 116])] 9)) _
  generalize w0.alloc (.cells #[.string (S [116, 101, 115, 116])] 9) = w1 at *
  refine (make_any _ _ _ awRs awRq awH1 7 _ hR1 hRs (by decide) (by decide) (by decide) (by decide) (by decide) hm1).mono ?_
  rintro e w2 ⟨rfl, hb2⟩
  rw [hv1.out]
  have hB2 := bel_alloc (bel_call hB1 hb2) (.cells (cI awX).toArray 34)
  have hba := bel_alloc (Below.refl _ w2) (.cells (cI awX).toArray 34)
  have hm2 := (hm1.next hb2).next hba
  have hq2 := rqAt_later (rqAt_later hq1 hb2) hba
  have hI2 := itAt_new w2 awX 34 w2.heap.size rfl
  clear hB1 hm1 hq1 hq0 hR1 hb2 hba
  go_upto_region 3 with (fail)
  show Code.wp _ _ _ _ (w2.alloc (.cells (cI awX).toArray 34))
  generalize hg2 : w2.heap.size = g2 at *
  generalize w2.alloc (.cells (cI awX).toArray 34) = w3 at *
  have hb4 := bel_alloc (Below.refl _ w3) (.cells #[.string (S [116, 101, 115, 116])] 9)
  have hR4 := rd_oneS w3 [116, 101, 115, 116] 9 w3.heap.size rfl
  have hm4 := hm2.next hb4
  have hB4 := bel_call hB2 hb4
  have hq4 := rqAt_later hq2 hb4
  have hI4 := itAt_later hI2 hb4
  have hlt3 := rq_lt hq2
  clear hB2 hb4 hm2 hI2
  go_wp2_with fail
  show Calls _ _ #[.slice (some ⟨w3.heap.size, 0, none⟩) 1 1, rqV awRq, .string (S awH2), .int .i64 7] (w3.alloc (.cells #[.string (S [116, 101, 115, 116])] 9)) _
  generalize w3.alloc (.cells #[.string (S [116, 101, 115, 116])] 9) = w4 at *
  refine (make_any _ _ _ awRs awRq awH2 7 _ hR4 hRs (by decide) (by decide) (by decide) (by decide) (by decide) hm4).mono ?_
  rintro e w5 ⟨rfl, hb5⟩
  rw [hv2.out]
  have hB5 := bel_alloc (bel_call hB4 hb5) (.cells (cI itZ).toArray 34)
  have hba := bel_alloc (Below.refl _ w5) (.cells (cI itZ).toArray 34)
  have hq5 := rqAt_later (rqAt_later hq4 hb5) hba
  have hI5 := itAt_later (itAt_later hI4 hb5) hba
  clear hB4 hm4 hq4 hR4 hb5 hba hI4
  go_upto_region 4 with (fail)
  show Code.wp _ _ _ _ (w5.alloc (.cells (cI itZ).toArray 34))
  generalize w5.alloc (.cells (cI itZ).toArray 34) = w6 at *
  have c4 : w6.cell? ⟨g2, 4, none⟩ = some (.bool true) := (ck_cells (ckAt_it hI5)).1
  have hky := kyAt_it hI5
  have hkd : decide (awX.k = awX.k) = true := decide_eq_true rfl
  have hbH := Lib.hid hB5
  have hlt3' := Lib.hid hlt3
  clear hlt3 hB5
  go_wp2_with fail
  refine (fits_any' awX awRq 8 _ (by decide) (by decide) (by decide) (by decide)).mono ?_
  rintro e w7 ⟨rfl, hb7⟩
  rw [aw_fit]
  have hI7 := itAt_later hI5 hb7
  clear c4 hky hI5 hq5
  go_wp2_with fail
  refine (right_any awX _ ⟨by decide, by decide, by decide, by decide⟩).mono ?_
  rintro e w8 ⟨rfl, hb8⟩
  rw [aw_right]
  have hB8 := bel_call (bel_call hbH.out hb7) hb8
  clear hI7 hb7 hb8
  go_wp2
  go_ret
  exact ⟨rfl, hB8⟩
def LP (rs : List (List UInt8)) (r : Rq) (head : List UInt8) (w : World) (e : Ending) (w' : World) : Prop := ∃ b, e = .returned (.bool b) ∧ Below w.heap.size w w' ∧ (b = true → (∀ q ∈ rs, q.length ≤ 300) ∧ r.h.length ≤ 2000 ∧ r.p.length ≤ 2000 ∧ head.length ≤ 5000)
set_option maxRecDepth 20000 in
set_option maxHeartbeats 8000000 in
theorem light14_any (A : Option Addr) (c : Nat) (rs : List (List UInt8)) (r : Rq) (head : List UInt8) (w : World) (hR : Rd w 1 (.slice A rs.length c) rs.length (rs.map strV)) :
    Calls Tryz.prog 7 #[.slice A rs.length c, rqV r, .string (S head)] w (LP rs r head w) := by
  obtain ⟨hca, hcb⟩ := hR.cap
  unfold maxLen at hcb
  have hq0 := rqAt_new w r 24 w.heap.size rfl
  have hB0 := bel_alloc (Below.refl w.heap.size w) (.cells (rqC r) 24)
  have hR0 := hR.below hB0
  clear hR
  go_enter Tryz.func7, Tryz.ntmps7
  go_upto_region 1 with (fail)
  show Code.wp _ _ _ _ (w.alloc (.cells (rqC r) 24))
  generalize w.alloc (.cells (rqC r) 24) = w0 at *
  obtain ⟨q0, q1, q3⟩ := rqc_cells4 hq0
  clear q3 hq0
  by_cases hbad : (60 < rs.length ∧ rs.length ≤ 256) ∨ 300 < rs.length ∨ 2000 < r.h.length ∨ 2000 < r.p.length ∨ 5000 < head.length
  · have hcs : (60 < rs.length ∧ rs.length ≤ 256) ∨ (256 < rs.length ∧ 300 < rs.length) ∨ (((rs.length ≤ 60) ∨ (60 < rs.length ∧ 256 < rs.length ∧ rs.length ≤ 300)) ∧ (2000 < r.h.length ∨ (r.h.length ≤ 2000 ∧ (2000 < r.p.length ∨ (r.p.length ≤ 2000 ∧ 5000 < head.length))))) := by omega
    clear hbad
    rcases hcs with ⟨a, b⟩ | ⟨a, b⟩ | ⟨a | ⟨a, b, d⟩, e | ⟨e, e' | ⟨e', e''⟩⟩⟩
    all_goals
      try have a1 : (60 : Int) < rs.length := by omega
      try have a2 : (rs.length : Int) ≤ 60 := by omega
      try have a3 : (rs.length : Int) ≤ 256 := by omega
      try have a4 : (256 : Int) < rs.length := by omega
      try have a5 : (300 : Int) < rs.length := by omega
      try have a6 : (rs.length : Int) ≤ 300 := by omega
      try have a7 : (2000 : Int) < r.h.length := by omega
      try have a8 : (r.h.length : Int) ≤ 2000 := by omega
      try have a9 : (2000 : Int) < r.p.length := by omega
      try have a10 : (r.p.length : Int) ≤ 2000 := by omega
      try have a11 : (5000 : Int) < head.length := by omega
      go_wp2
      go_ret
      exact ⟨false, rfl, hB0, fun h => by cases h⟩
  · have hcs : (rs.length ≤ 60) ∨ (60 < rs.length ∧ 256 < rs.length ∧ rs.length ≤ 300) := by omega
    have hall : r.h.length ≤ 2000 ∧ r.p.length ≤ 2000 ∧ head.length ≤ 5000 := by omega
    have a8 : (r.h.length : Int) ≤ 2000 := by omega
    have a10 : (r.p.length : Int) ≤ 2000 := by omega
    have a11 : (head.length : Int) ≤ 5000 := by omega
    have a6 : (rs.length : Int) ≤ 300 := by omega
    clear hbad
    replace hall := Lib.hid hall
    rcases hcs with a | ⟨a, b, d⟩
    all_goals
      try have a1 : (60 : Int) < rs.length := by omega
      try have a2 : (rs.length : Int) ≤ 60 := by omega
      try have a4 : (256 : Int) < rs.length := by omega
      go_wp2_with fail
      clear q0 q1
      go_loopw [7] (fun i wr => ∃ k : Nat, k ≤ rs.length ∧ i = .int .i64 k ∧ Below w.heap.size w wr ∧ Rd wr 1 (.slice A rs.length c) rs.length (rs.map strV) ∧ Hid (∀ q ∈ rs.take k, q.length ≤ 300)) (fun i _ => rs.length - (intOf i).toNat)
      case atStart => exact ⟨0, Nat.zero_le _, rfl, hB0, hR0, fun q hq => by cases hq⟩
      case round =>
        obtain ⟨k, hk, rfl, hbel, hRd, hok⟩ := hrel
        by_cases hlt : k < rs.length
        · have hki : (k : Int) < rs.length := by omega
          have hk0 : (0 : Int) ≤ (k : Int) := by omega
          obtain ⟨b', off, rfl, hb, hx⟩ := hRd.at_ (by omega)
          have hck : wr.cell? ⟨b', off + k, none⟩ = some (.string (S rs[k])) := by
            rw [hx k (by simp; omega), List.getElem?_map, List.getElem?_eq_getElem hlt]; rfl
          clear hx
          by_cases h3 : (300 : Int) < rs[k].length
          · go_wp2
            go_ret
            exact ⟨false, rfl, hbel, fun h => by cases h⟩
          · have h3' : (rs[k].length : Int) ≤ 300 := by omega
            have hn : Hid (∀ q ∈ rs.take (k + 1), q.length ≤ 300) := fun q hq => by
              rw [List.take_succ_eq_append_getElem hlt] at hq
              rcases List.mem_append.1 hq with hq | hq
              · exact hok.out q hq
              · rw [List.mem_singleton.1 hq]; omega
            clear h3 hok
            go_wp2
            go_roundw
            case rel => exact ⟨k + 1, by omega, by go_num, hbel, hRd, hn⟩
            case measure => simp [intOf]; omega
        · obtain rfl : k = rs.length := by omega
          have hn := hok.out
          rw [List.take_length] at hn
          replace hn := Lib.hid hn
          clear hok
          go_wp2
          go_ret
          exact ⟨true, rfl, hbel, fun _ => ⟨hn.out, hall.out⟩⟩
end Go.Proofs.YtgfoaopfdpclhaaGreatDoor
