/-
  Joined texts: PathLaw Ck3.
-/
import Derived.Test.YtgfoaopfdpclhaaGreatDoorBu12
import Derived.Test.YtgfoaopfdpclhaaGreatDoorBu32
namespace Go.Proofs.YtgfoaopfdpclhaaGreatDoor
open Go.RowKit
set_option linter.unusedVariables false
set_option maxRecDepth 100000

theorem lastTo_none {l : List UInt8} {c : UInt8} {k : Nat} (h : lastTo l c k = -1) {i : Nat} (hi : i < k) : (l.getD i 0 == c) = false := by
  cases hb : (l.getD i 0 == c)
  · rfl
  · have := lastTo_ge hb hi
    omega
theorem lastTo_at {l : List UInt8} {c : UInt8} {k : Nat} {i : Nat} (h : lastTo l c k = i) : i < k ∧ (l.getD i 0 == c) = true := by
  induction k with
  | zero => unfold lastTo at h; omega
  | succ k ih =>
    unfold lastTo at h
    split at h
    · rename_i hk
      have : i = k := by omega
      subst this
      exact ⟨by omega, hk⟩
    · obtain ⟨a, b⟩ := ih h
      exact ⟨by omega, b⟩
theorem hasPrefix_one (l : List UInt8) (c : UInt8) : Lib.hasPrefix l [c] = (decide (0 < l.length) && l.getD 0 0 == c) := by
  cases l with
  | nil => rfl
  | cons x l =>
    simp only [Lib.hasPrefix, List.isPrefixOf, List.getD_cons_zero, List.length_cons]
    rw [Bool.eq_iff_iff]
    simp only [Bool.and_true, beq_iff_eq, Bool.and_eq_true, decide_eq_true_eq]
    exact ⟨fun h => ⟨by omega, h.symm⟩, fun h => h.2.symm⟩
theorem dirOf_ref (l : List UInt8) : refDir l = dirOf l := by
  unfold refDir dirOf
  rw [hasPrefix_one]
  have hb := lastTo_lt l 47 l.length
  by_cases h1 : (l.getD 0 0 == 47) = true
  · by_cases h0 : 0 < l.length
    · have := lastTo_ge h1 h0
      have e : (decide (0 < l.length) && l.getD 0 0 == 47) = true := by rw [h1]; simpa using h0
      rw [e, h1]
      by_cases h2 : lastTo l 47 l.length = 0
      · rw [h2]; rfl
      · rw [if_neg (by simp; omega), if_neg (by simp; omega)]
    · have : l = [] := by cases l <;> simp_all
      subst this
      rfl
  · have h1' : (l.getD 0 0 == 47) = false := by simpa using h1
    rw [h1', Bool.and_false, if_pos (Or.inr rfl), if_pos (Or.inl rfl)]

theorem hasPrefix_iff {p c : List UInt8} : Lib.hasPrefix p c = true ↔ c <+: p := by simp [Lib.hasPrefix]
theorem hasSuffix_iff {p c : List UInt8} : Lib.hasSuffix p c = true ↔ c <:+ p := by simp [Lib.hasSuffix]

theorem fit_dir (l : List UInt8) (h : Lib.hasPrefix l [47] = true) : fitB l (dirOf l) = true := by
  unfold dirOf
  rw [h]
  by_cases h2 : lastTo l 47 l.length = 0
  · rw [if_pos (Or.inr h2)]
    unfold fitB
    rw [h]
    simp [Lib.hasSuffix]
  · rw [if_neg (by simpa using h2)]
    obtain ⟨h0, h1⟩ := hasPrefix_get h
    have h3 := lastTo_ge h1 h0
    obtain ⟨i, hi⟩ : ∃ i : Nat, lastTo l 47 l.length = i := ⟨_, (Int.toNat_of_nonneg h3).symm⟩
    rw [hi]
    obtain ⟨h4, h5⟩ := lastTo_at hi
    unfold fitB
    have e1 : Lib.hasPrefix l (l.take i) = true := hasPrefix_iff.2 (List.take_prefix _ _)
    have e2 : (l.take i).length = i := by simp; omega
    simp only [Int.toNat_natCast]
    rw [e1, e2, h5]
    simp

theorem fit_trans (a b c : List UInt8) (h1 : fitB a b = true) (h2 : fitB b c = true) : fitB a c = true := by
  unfold fitB at *
  simp only [Bool.or_eq_true, Bool.and_eq_true, beq_iff_eq] at *
  rcases h1 with rfl | ⟨p1, q1⟩
  · exact h2
  · rcases h2 with rfl | ⟨p2, q2⟩
    · exact Or.inr ⟨p1, q1⟩
    · refine Or.inr ⟨hasPrefix_iff.2 ((hasPrefix_iff.1 p2).trans (hasPrefix_iff.1 p1)), ?_⟩
      rcases q2 with q2 | q2
      · exact Or.inl q2
      · refine Or.inr ?_
        obtain ⟨t, ht⟩ := hasPrefix_iff.1 p1
        rcases Nat.lt_or_ge c.length b.length with hl | hl
        · rw [← ht, List.getD_eq_getElem?_getD, List.getElem?_append_left hl, ← List.getD_eq_getElem?_getD]; exact q2
        · rw [List.getD_eq_getElem?_getD, List.getElem?_eq_none hl] at q2
          exact absurd q2 (by decide)
theorem fit_refl (a : List UInt8) : fitB a a = true := by unfold fitB; simp

theorem refFit_eq (p c : List UInt8) : refFit p c = fitB p c := by
  unfold refFit fitB
  by_cases hpre : Lib.hasPrefix p c = true
  · obtain ⟨t, rfl⟩ := hasPrefix_iff.1 hpre
    rw [hpre]
    rw [if_neg (by simp), List.take_left]
    rw [if_neg (by simp)]
    cases t with
    | nil => simp
    | cons x t =>
      rw [if_neg (by simp)]
      have e : (c ++ x :: t == c) = false := by simp
      rw [e]
      simp only [Bool.false_or, Bool.true_and]
      congr 1
      rw [Bool.eq_iff_iff, hasSuffix_iff]
      simp only [Bool.and_eq_true, decide_eq_true_eq, beq_iff_eq]
      constructor
      · rintro ⟨h0, h1⟩
        refine ⟨c.take (c.length - 1), ?_⟩
        have := take_succ_getD c (c.length - 1) (by omega)
        rw [h1, show c.length - 1 + 1 = c.length by omega, List.take_length] at this
        exact this.symm
      · rintro ⟨u, rfl⟩
        simp
  · have hpre' : Lib.hasPrefix p c = false := by simpa using hpre
    have e1 : (p == c) = false := by
      rw [beq_eq_false_iff_ne]
      rintro rfl
      exact hpre (hasPrefix_iff.2 (List.prefix_refl _))
    rw [hpre', e1]
    by_cases h1 : p.length < c.length
    · rw [if_pos h1]; rfl
    · rw [if_neg h1, if_pos]
      · rfl
      · have : ¬ (p.take c.length = c) := fun e => hpre (hasPrefix_iff.2 (e ▸ List.take_prefix _ _))
        simpa using this

end Go.Proofs.YtgfoaopfdpclhaaGreatDoor
namespace Go.Proofs.YtgfoaopfdpclhaaGreatDoor
open Go.RowKit
set_option linter.unusedVariables false
set_option maxRecDepth 100000

set_option maxHeartbeats 2000000 in
theorem refPublic_any (A : Option Addr) (c : Nat) (rs : List (List UInt8)) (d : List UInt8) (w : World) (h : Rd w 1 (.slice A rs.length c) rs.length (rs.map strV)) (hrs : ∀ q ∈ rs, q.length ≤ 4294967296) (hc : checkI rs = 0) (hd : d.length ≤ 4294967296) :
    Calls Tryz.prog 17 #[.slice A rs.length c, .string (S d)] w fun e w' => e = .returned (.bool (publicB rs d)) ∧ Below w.heap.size w w' := by
  have hz : (S d).size ≤ 4294967296 := by simp; omega
  have hp := Lib.hid (pub_ref d hc)
  have hall := check_all hc
  cases hn : nameB d with
  | false =>
    have hF : Hid (publicB rs d = false) := by show _ = _; rw [hp.out, hn]; rfl
    have hnH := Lib.hid hn
    clear hp hn
    go_enter Tryz.func17, Tryz.ntmps17
    go_wp2_with fail
    refine (refName_any (S d) _ hz).mono ?_
    rintro e w1 ⟨rfl, hb1⟩
    rw [S_toList, hnH.out]
    go_wp2
    go_ret
    exact ⟨ret_bool hF.out.symm, hb1⟩
  | true =>
    have hF : Hid (publicB rs d = (tailL d (bestI d rs) == d)) := by show _ = _; rw [hp.out, hn]; rfl
    have hnH := Lib.hid hn
    clear hp hn
    go_enter Tryz.func17, Tryz.ntmps17
    go_wp2_with fail
    refine (refName_any (S d) _ hz).mono ?_
    rintro e w1 ⟨rfl, hb1⟩
    rw [S_toList, hnH.out]
    go_wp2_with fail
    refine (refOf09_any A c rs d _ (h.below hb1) hrs hd hnH.out hall).mono ?_
    rintro e w2 ⟨rfl, hb2⟩
    have hb12 := bel_call hb1 hb2
    clear hb1 hb2
    generalize tailL d (bestI d rs) = q at *
    go_wp2
    go_ret
    exact ⟨ret_bool hF.out.symm, hb12⟩

/-- An item's cells. -/
def icC (x : It) : Array Value := #[.string (S x.k.n), .string (S x.k.d), .string (S x.k.p), .string (S x.c.v), .bool x.c.ho, .bool x.c.se, .bool x.c.ht, .bool x.c.pe, .int .i64 x.c.ex, .int .i64 x.c.cr, .int .i64 x.c.ac]
theorem icC_cells {w : World} {g : Nat} {t : TypeId} {x : It} (h : Blk w g t (icC x)) :
    w.cell? ⟨g, 0, none⟩ = some (.string (S x.k.n)) ∧ w.cell? ⟨g, 1, none⟩ = some (.string (S x.k.d)) ∧ w.cell? ⟨g, 2, none⟩ = some (.string (S x.k.p)) ∧ w.cell? ⟨g, 3, none⟩ = some (.string (S x.c.v)) ∧ w.cell? ⟨g, 4, none⟩ = some (.bool x.c.ho) ∧ w.cell? ⟨g, 5, none⟩ = some (.bool x.c.se) ∧
    w.cell? ⟨g, 6, none⟩ = some (.bool x.c.ht) ∧ w.cell? ⟨g, 7, none⟩ = some (.bool x.c.pe) ∧ w.cell? ⟨g, 8, none⟩ = some (.int .i64 x.c.ex) ∧ w.cell? ⟨g, 9, none⟩ = some (.int .i64 x.c.cr) ∧ w.cell? ⟨g, 10, none⟩ = some (.int .i64 x.c.ac) ∧ (∀ i, w.frozen? ⟨g, i, none⟩ = false) :=
  ⟨h.cell 0, h.cell 1, h.cell 2, h.cell 3, h.cell 4, h.cell 5, h.cell 6, h.cell 7, h.cell 8, h.cell 9, h.cell 10, h.free⟩
theorem icC_it {w : World} {g : Nat} {t : TypeId} {x : It} (h : Blk w g t (icC x)) : itAt w g 0 = some x := itAt_of (fun j v hv => by
  rw [Nat.zero_add, h.cell j]
  match j, hv with
  | 0, hv => exact hv
  | 1, hv => exact hv
  | 2, hv => exact hv
  | 3, hv => exact hv
  | 4, hv => exact hv
  | 5, hv => exact hv
  | 6, hv => exact hv
  | 7, hv => exact hv
  | 8, hv => exact hv
  | 9, hv => exact hv
  | 10, hv => exact hv
  | j + 11, hv => simp [cI, cK, cCk] at hv)
def loadF13 (a : Addr) : Sem Value := loadVar 66 a
@[go_sem ↓] theorem to_loadF13 (a : Addr) : loadVar 66 a = loadF13 a := rfl
theorem f13_load {w : World} {g : Nat} {t : TypeId} {f : Ff} (h : Blk w g t (ffC f)) : (loadF13 ⟨g, 0, none⟩).run Tryz.prog w = .ok (.agg (ffC f)) w := by
  have hu : ∃ d, Tryz.prog.underlying 66 = some d ∧ d.isRow = true := ⟨.struct (Tryz.prog.fieldsOf 66), by kernel_rfl, rfl⟩
  obtain ⟨d, hd, hr⟩ := hu
  exact run_loadVar_mid w g 0 66 (ffC f).toList d (blk_range h) hd hr (by kernel_rfl)
theorem rqc_cells {w : World} {b : Nat} {r : Rq} (h : rqAt w b 0 = some r) : w.cell? ⟨b, 0, none⟩ = some (.string (S r.h)) ∧ w.cell? ⟨b, 1, none⟩ = some (.string (S r.p)) ∧ w.cell? ⟨b, 3, none⟩ = some (.bool r.c) := by
  have hr : w.rangeAt b 0 (lRq r) := rdAt_range (f := lRq) h
  have h0 := hr 0 _ rfl
  have h1 := hr 1 _ rfl
  have h3 := hr 3 _ rfl
  rw [Nat.zero_add] at h0 h1 h3
  exact ⟨h0, h1, h3⟩
set_option maxRecDepth 20000 in
set_option maxHeartbeats 16000000 in
theorem refMake_any (A : Option Addr) (c : Nat) (rs : List (List UInt8)) (r : Rq) (head : List UInt8) (now : Int) (w : World) (hR : Rd w 1 (.slice A rs.length c) rs.length (rs.map strV)) (hrs : ∀ q ∈ rs, q.length ≤ 4294967296) (h1 : r.h.length ≤ 100000) (h2 : r.p.length ≤ 100000) (h3 : head.length ≤ 100000) (hn1 : -9223372036854775808 ≤ now) (hn2 : now ≤ 9223372036854775807) :
    Calls Tryz.prog 10 #[.slice A rs.length c, rqV r, .string (S head), .int .i64 now] w fun e w' => e = .returned (mkV rs r head now) ∧ Below w.heap.size w w' := by
  have hzh : (S head).size ≤ 4294967296 := by simp; omega
  have hq0 := rqAt_later (rqAt_new w r 24 w.heap.size rfl) (bel_alloc (Below.refl _ _) (.cells (cI itZ).toArray 34))
  have hB0 := bel_alloc (bel_alloc (Below.refl w.heap.size w) (.cells (rqC r) 24)) (.cells (cI itZ).toArray 34)
  have hth0 : ((w.alloc (.cells (rqC r) 24)).alloc (.cells (cI itZ).toArray 34)).there (w.heap.size + 1) 0 11 := by
    rw [there_alloc_new _ _ _ _ _ _ (by simp) (by simp)]; trivial
  have hsz0 : ((w.alloc (.cells (rqC r) 24)).alloc (.cells (cI itZ).toArray 34)).heap.size = w.heap.size + 2 := by simp
  obtain ⟨hca, hcb⟩ := hR.cap
  unfold maxLen at hcb
  go_enter Tryz.func10, Tryz.ntmps10
  go_upto_region 1 with (fail)
  show Code.wp _ _ _ _ ((w.alloc (.cells (rqC r) 24)).alloc (.cells (cI itZ).toArray 34))
  generalize ((w.alloc (.cells (rqC r) 24)).alloc (.cells (cI itZ).toArray 34)) = w0 at *
  have hR0 := hR.below hB0
  clear hR
  by_cases hlen : (256 : Int) < rs.length
  · have hl2 : 256 < rs.length := by omega
    have hck : checkI rs = 3 := by unfold checkI; rw [if_pos hl2]
    have hF := Lib.hid (mk_bad (now := now) (e := 3) (show mkE rs r head = 3 by unfold mkE; rw [hck]; rfl) (by decide))
    clear hq0 hl2 hck
    go_upto_region 2 with (fail)
    repeat go_step
    refine ret_item2 (x := noneI k0) Tryz.results10 rfl rfl (itAt_setCells _ hth0) ⟨?_, below_setCells _ _ _ hB0 (Nat.le_succ _)⟩
    rw [hF.out]
    rfl
  have hl2 : ¬ 256 < rs.length := by omega
  go_wp2_with fail
  refine (refRight09_any A c rs _ hR0 hrs).mono ?_
  rintro e w1 ⟨rfl, hb1⟩
  have hB1 := bel_call hB0 hb1
  have hR1 := hR0.below hb1
  have hq1 := rqAt_later hq0 hb1
  have hth1 := ck_there hth0 hb1 (by omega)
  have hs1 : w.heap.size + 2 ≤ w1.heap.size := by have := hb1.size; omega
  clear hB0 hR0 hq0 hth0 hsz0 hb1
  cases hall : rs.all ruleOk with
  | false =>
    have hck : checkI rs = 1 := by unfold checkI; rw [if_neg hl2, hall]; rfl
    have hF := Lib.hid (mk_bad (now := now) (e := 1) (show mkE rs r head = 1 by unfold mkE; rw [hck]; rfl) (by decide))
    clear hq1 hl2 hck hall
    go_upto_region 4 with (fail)
    repeat go_step
    refine ret_item2 (x := noneI k0) Tryz.results10 rfl rfl (itAt_setCells _ hth1) ⟨?_, below_setCells _ _ _ hB1 (Nat.le_succ _)⟩
    rw [hF.out]
    rfl
  | true =>
  have hk1 : Hid (checkI rs = 0) := by show _ = _; unfold checkI; rw [if_neg hl2, hall]; rfl
  clear hall hl2
  go_wp2_with fail
  refine (refRight10_any r _ (by omega) (by omega)).mono ?_
  rintro e w2 ⟨rfl, hb2⟩
  have hB2 := bel_call hB1 hb2
  have hR2 := hR1.below hb2
  have hq2 := rqAt_later hq1 hb2
  have hth2 := ck_there hth1 hb2 (by omega)
  have hs2 : w.heap.size + 2 ≤ w2.heap.size := by have := hb2.size; omega
  clear hB1 hR1 hq1 hth1 hs1 hb2
  cases hr : rightU r with
  | false =>
    have hF := Lib.hid (mk_bad (now := now) (e := 1) (show mkE rs r head = 1 by unfold mkE; rw [hk1.out, hr]; rfl) (by decide))
    clear hr hq2
    go_upto_region 4 with (fail)
    repeat go_step
    refine ret_item2 (x := noneI k0) Tryz.results10 rfl rfl (itAt_setCells _ hth2) ⟨?_, below_setCells _ _ _ hB2 (Nat.le_succ _)⟩
    rw [hF.out]
    rfl
  | true =>
  have hrH := Lib.hid hr
  clear hr
  go_wp2_with fail
  refine (headRefParse_any (S head) _ hzh).mono ?_
  rintro e w3 ⟨A3, c3, rfl, ho3, hb3⟩
  rw [S_toList] at ho3 ⊢
  have hB3 := bel_call hB2 hb3
  have hR3 := hR2.below hb3
  have hq3 := rqAt_later hq2 hb3
  have hth3 := ck_there hth2 hb3 (by omega)
  have hs3 : w.heap.size + 2 ≤ w3.heap.size := by have := hb3.size; omega
  have hL3 := Rd.of_own ho3
  clear hB2 hR2 hq2 hth2 hs2 hb3 ho3
  obtain ⟨pn, hpn⟩ : ∃ x, x = (parseP head).1 := ⟨_, rfl⟩
  obtain ⟨pv, hpv⟩ : ∃ x, x = (parseP head).2 := ⟨_, rfl⟩
  rw [show aggP (parseP head) = .agg #[.string (S pn), .string (S pv)] by rw [hpn, hpv]; rfl]
  replace hpn := Lib.hid hpn
  replace hpv := Lib.hid hpv
  have hP4 := Blk.new_ w3 62 #[.string (S pn), .string (S pv)]
  have hB4 := bel_alloc hB3 (.cells #[.string (S pn), .string (S pv)] 62)
  have hR4 := hR3.alloc (.cells #[.string (S pn), .string (S pv)] 62)
  have hL4 := hL3.alloc (.cells #[.string (S pn), .string (S pv)] 62)
  have hq4 := rqAt_later hq3 (bel_alloc (Below.refl _ w3) (.cells #[.string (S pn), .string (S pv)] 62))
  have hth4 := ck_there hth3 (bel_alloc (Below.refl _ w3) (.cells #[.string (S pn), .string (S pv)] 62)) (by omega)
  have hs4 : (w3.alloc (.cells #[.string (S pn), .string (S pv)] 62)).heap.size = w3.heap.size + 1 := by simp
  clear hB3 hR3 hq3 hth3 hL3
  obtain ⟨k, hk⟩ : ∃ k, k = parseE head := ⟨_, rfl⟩
  rw [← hk]
  by_cases hk0 : k = 0
  case neg =>
    have hF := Lib.hid (mk_bad (now := now) (show mkE rs r head = k by unfold mkE; rw [hk1.out, hrH.out, ← hk, if_neg hk0]; rfl) hk0)
    have hk2 : (k != 0) = true := by simpa using hk0
    clear hk hk0 hq4 hL4 hR4 hP4
    go_upto_region 7 with (fail)
    repeat go_step
    refine ret_item2 (x := noneI k0) Tryz.results10 rfl rfl (itAt_setCells _ hth4) ⟨?_, below_setCells _ _ _ hB4 (Nat.le_succ _)⟩
    rw [hF.out]
    rfl
  subst hk0
  have hk2 := Lib.hid hk.symm
  clear hk
  go_upto_region 8 with (fail)
  show Code.wp _ _ _ _ (w3.alloc (.cells #[.string (S pn), .string (S pv)] 62))
  generalize (w3.alloc (.cells #[.string (S pn), .string (S pv)] 62)) = w4 at *
  go_upto_if 42 with (fail)
  go_cut [3] (fun v wx => v = .int .i64 (max now 0) ∧ wx = w4)
  case first =>
    by_cases h0 : now < 0
    · have e : max now 0 = 0 := by omega
      go_wp2
      go_meet
      exact ⟨by rw [e], rfl⟩
    · have e : max now 0 = now := by omega
      go_wp2
      go_meet
      exact ⟨by rw [e], rfl⟩
  case rest =>
  obtain ⟨rfl, hwc⟩ := hcut
  rw [hwc]
  clear hwc
  go_upto_if 44 with (fail)
  go_cut [3] (fun v wx => v = .int .i64 (clT now) ∧ wx = w4)
  case first =>
    by_cases h0 : 1099511627776 < max now 0
    · have e : clT now = 1099511627776 := by unfold clT; omega
      go_wp2
      go_meet
      exact ⟨by rw [e], rfl⟩
    · have e : clT now = max now 0 := by unfold clT; omega
      go_wp2
      go_meet
      exact ⟨by rw [e], rfl⟩
  case rest =>
  obtain ⟨rfl, hwc⟩ := hcut
  rw [hwc]
  clear hwc
  have hl4 : ∀ p ∈ parseL head, p.1.length ≤ 4294967296 ∧ p.2.length ≤ 4294967296 := fun p hp => by
    have := parseL_len head p hp
    omega
  go_wp2_with fail
  refine (refRead13_any A3 _ c3 (parseL head) _ hL4 hl4).mono ?_
  rintro e w5 ⟨rfl, hb5⟩
  obtain ⟨f, hfe⟩ : ∃ f, f = readT (parseL head) := ⟨_, rfl⟩
  have hfl := read_len hl4
  have hlow := low_read (parseL head)
  rw [← hfe] at hfl hlow ⊢
  have hfH : Hid (f = fieldsH head) := hfe
  obtain ⟨hcn1, hcn2⟩ := canon_low hlow
  have hF6 := Blk.new_ w5 66 (ffC f)
  have hba := bel_alloc (Below.refl _ w5) (.cells (ffC f) 66)
  have hB6 := bel_alloc (bel_call hB4 hb5) (.cells (ffC f) 66)
  have hR6 := (hR4.below hb5).below hba
  have hP6 := (hP4.below hb5).below hba
  have hq6 := rqAt_later (rqAt_later hq4 hb5) hba
  have hth6 := ck_there (ck_there hth4 hb5 (by omega)) hba (by have := hb5.size; omega)
  have hs5 : w3.heap.size + 1 ≤ w5.heap.size := by have := hb5.size; omega
  have hs6 : (w5.alloc (.cells (ffC f) 66)).heap.size = w5.heap.size + 1 := by simp
  clear hfe hl4 hlow hB4 hR4 hP4 hL4 hq4 hth4 hb5 hba
  rw [show Value.agg (ffC f) = .agg #[.bool f.he, .bool f.ha, .bool f.hd, .bool f.hp, .int .i64 f.ex, .int .i64 f.ag, .string (S f.dm), .string (S f.pt), .bool f.sc, .bool f.ho] from rfl]
  go_upto_region 13 with (fail)
  show Code.wp _ _ _ _ (w5.alloc (.cells (ffC f) 66))
  generalize (w5.alloc (.cells (ffC f) 66)) = w6 at *
  obtain ⟨gf, hgf⟩ : ∃ g, g = w5.heap.size := ⟨_, rfl⟩
  rw [← hgf] at hF6 hs5 hs6 ⊢
  clear hgf
  have hzd : (S f.dm).size ≤ 4294967296 := by simp; omega
  have hzr : (S r.h).size ≤ 4294967296 := by simp; omega
  have hfD : f.hd = true → canonB f.dm = true → domE rs r f = (if publicB rs f.dm then (if f.dm == r.h then 0 else 14) else if matchB r.h f.dm then 0 else 13) ∧ domS rs f = !publicB rs f.dm ∧ domK rs r f = if publicB rs f.dm then r.h else f.dm := fun e1 e2 => by
    have e3 : (canonT f.dm).2 = 0 := by rw [e2] at hcn1; exact of_decide_eq_true hcn1
    unfold domE domK domS
    rw [e1, if_pos e3, hcn2 e2]
    refine ⟨rfl, by simp, ?_⟩
    cases publicB rs f.dm <;> rfl
  have hfN : f.hd = true → canonB f.dm = false → domE rs r f = 13 := fun e1 e2 => by
    have e3 : ¬ (canonT f.dm).2 = 0 := by rw [e2] at hcn1; exact of_decide_eq_false hcn1
    unfold domE
    rw [e1, if_neg e3]; rfl
  have hf0 : f.hd = false → domE rs r f = 0 ∧ domS rs f = false ∧ domK rs r f = r.h := fun e1 => by
    unfold domE domK domS
    rw [e1]
    exact ⟨rfl, rfl, rfl⟩
  replace hfD := Lib.hid hfD
  replace hfN := Lib.hid hfN
  replace hf0 := Lib.hid hf0
  clear hcn1 hcn2
  obtain ⟨d0, d1, d2, d3, d4, d5, d6, d7, d8, d9, df⟩ := ff_cells hF6
  obtain ⟨q0, q1, q3⟩ := rqc_cells hq6
  have hgfl := hF6.lt
  clear d0 d1 d3 d4 d5 d7 d8 d9 q1 q3
  have hcases : (f.hd = false) ∨ (f.hd = true ∧ canonB f.dm = true ∧ publicB rs f.dm = true ∧ f.dm = r.h) ∨ (f.hd = true ∧ canonB f.dm = true ∧ publicB rs f.dm = false ∧ matchB r.h f.dm = true) ∨
      (f.hd = true ∧ canonB f.dm = false) ∨ (f.hd = true ∧ canonB f.dm = true ∧ publicB rs f.dm = true ∧ f.dm ≠ r.h) ∨ (f.hd = true ∧ canonB f.dm = true ∧ publicB rs f.dm = false ∧ matchB r.h f.dm = false) := by
    cases f.hd <;> cases canonB f.dm <;> cases publicB rs f.dm <;> cases matchB r.h f.dm <;> by_cases e : f.dm = r.h <;> simp [e]
  have hcl0 := hca
  rcases hcases with e1 | ⟨e1, e2, e3, e4⟩ | ⟨e1, e2, e3, e4⟩ | ⟨e1, e2⟩ | ⟨e1, e2, e3, e4⟩ | ⟨e1, e2, e3, e4⟩
  rotate_left 3
  · have hEE := Lib.hid (hfN.out e1 e2)
    have e2H := Lib.hid e2
    clear e2
    rw [e1] at d2
    go_wp2_with fail
    refine (refCanonical_any (S f.dm) _ hzd).mono ?_
    rintro e w7 ⟨rfl, hb7⟩
    rw [S_toList, e2H.out]
    have hB7 := bel_call hB6 hb7
    have hR7 := hR6.below hb7
    have hP7 := hP6.below hb7
    have hF7 := hF6.below hb7
    have hq7 := rqAt_later hq6 hb7
    have hth7 := ck_there hth6 hb7 (by omega)
    have hs7 : gf + 1 ≤ w7.heap.size := by have := hb7.size; omega
    clear d2 d6 df q0 hgfl
    obtain ⟨d0, d1, d2, d3, d4, d5, d6, d7, d8, d9, df⟩ := ff_cells hF7
    obtain ⟨q0, q1, q3⟩ := rqc_cells hq7
    have hgfl := hF7.lt
    clear d0 d1 d3 d4 d5 d7 d8 d9 q1 q3
    clear hB6 hR6 hP6 hF6 hq6 hth6 hb7
    rw [e1] at d2
    have hF0 := Lib.hid (mk_bad (now := now) (e := 13) (show mkE rs r head = 13 by unfold mkE; rw [hk1.out, hrH.out, hk2.out, ← hfH.out, hEE.out]; rfl) (by decide))
    go_upto_region 15 with (fail)
    repeat go_step
    refine ret_item2 (x := noneI k0) Tryz.results10 rfl rfl (itAt_setCells _ hth7) ⟨?_, below_setCells _ _ _ hB7 (Nat.le_succ _)⟩
    rw [hF0.out]
    rfl
  · have hEE : Hid (domE rs r f = 14) := by show _ = _; rw [(hfD.out e1 e2).1, e3, if_pos rfl, if_neg (by simpa using e4)]
    have e2H := Lib.hid e2
    clear e2
    rw [e1] at d2
    go_wp2_with fail
    refine (refCanonical_any (S f.dm) _ hzd).mono ?_
    rintro e w7 ⟨rfl, hb7⟩
    rw [S_toList, e2H.out]
    have hB7 := bel_call hB6 hb7
    have hR7 := hR6.below hb7
    have hP7 := hP6.below hb7
    have hF7 := hF6.below hb7
    have hq7 := rqAt_later hq6 hb7
    have hth7 := ck_there hth6 hb7 (by omega)
    have hs7 : gf + 1 ≤ w7.heap.size := by have := hb7.size; omega
    clear d2 d6 df q0 hgfl
    obtain ⟨d0, d1, d2, d3, d4, d5, d6, d7, d8, d9, df⟩ := ff_cells hF7
    obtain ⟨q0, q1, q3⟩ := rqc_cells hq7
    have hgfl := hF7.lt
    clear d0 d1 d3 d4 d5 d7 d8 d9 q1 q3
    clear hB6 hR6 hP6 hF6 hq6 hth6 hb7
    rw [e1] at d2
    have e3H := Lib.hid e3
    clear e3
    go_wp2_with fail
    refine (refPublic_any A c rs f.dm _ hR7 hrs hk1.out (by omega)).mono ?_
    rintro e w8 ⟨rfl, hb8⟩
    rw [e3H.out]
    have hB8 := bel_call hB7 hb8
    have hR8 := hR7.below hb8
    have hP8 := hP7.below hb8
    have hF8 := hF7.below hb8
    have hq8 := rqAt_later hq7 hb8
    have hth8 := ck_there hth7 hb8 (by omega)
    have hs8 : gf + 1 ≤ w8.heap.size := by have := hb8.size; omega
    clear d2 d6 df q0 hgfl
    obtain ⟨d0, d1, d2, d3, d4, d5, d6, d7, d8, d9, df⟩ := ff_cells hF8
    obtain ⟨q0, q1, q3⟩ := rqc_cells hq8
    have hgfl := hF8.lt
    clear d0 d1 d3 d4 d5 d7 d8 d9 q1 q3
    clear hB7 hR7 hP7 hF7 hq7 hth7 hb8
    rw [e1] at d2
    have e5 : (f.dm == r.h) = false := by simpa using e4
    have e6 : (f.dm != r.h) = true := by simpa using e4
    clear e4
    have hF0 := Lib.hid (mk_bad (now := now) (e := 14) (show mkE rs r head = 14 by unfold mkE; rw [hk1.out, hrH.out, hk2.out, ← hfH.out, hEE.out]; rfl) (by decide))
    go_upto_region 18 with (fail)
    repeat go_step
    refine ret_item2 (x := noneI k0) Tryz.results10 rfl rfl (itAt_setCells _ hth8) ⟨?_, below_setCells _ _ _ hB8 (Nat.le_succ _)⟩
    rw [hF0.out]
    rfl
  · have hEE : Hid (domE rs r f = 13) := by show _ = _; rw [(hfD.out e1 e2).1, e3, e4]; rfl
    have e2H := Lib.hid e2
    clear e2
    rw [e1] at d2
    go_wp2_with fail
    refine (refCanonical_any (S f.dm) _ hzd).mono ?_
    rintro e w7 ⟨rfl, hb7⟩
    rw [S_toList, e2H.out]
    have hB7 := bel_call hB6 hb7
    have hR7 := hR6.below hb7
    have hP7 := hP6.below hb7
    have hF7 := hF6.below hb7
    have hq7 := rqAt_later hq6 hb7
    have hth7 := ck_there hth6 hb7 (by omega)
    have hs7 : gf + 1 ≤ w7.heap.size := by have := hb7.size; omega
    clear d2 d6 df q0 hgfl
    obtain ⟨d0, d1, d2, d3, d4, d5, d6, d7, d8, d9, df⟩ := ff_cells hF7
    obtain ⟨q0, q1, q3⟩ := rqc_cells hq7
    have hgfl := hF7.lt
    clear d0 d1 d3 d4 d5 d7 d8 d9 q1 q3
    clear hB6 hR6 hP6 hF6 hq6 hth6 hb7
    rw [e1] at d2
    have e3H := Lib.hid e3
    clear e3
    go_wp2_with fail
    refine (refPublic_any A c rs f.dm _ hR7 hrs hk1.out (by omega)).mono ?_
    rintro e w8 ⟨rfl, hb8⟩
    rw [e3H.out]
    have hB8 := bel_call hB7 hb8
    have hR8 := hR7.below hb8
    have hP8 := hP7.below hb8
    have hF8 := hF7.below hb8
    have hq8 := rqAt_later hq7 hb8
    have hth8 := ck_there hth7 hb8 (by omega)
    have hs8 : gf + 1 ≤ w8.heap.size := by have := hb8.size; omega
    clear d2 d6 df q0 hgfl
    obtain ⟨d0, d1, d2, d3, d4, d5, d6, d7, d8, d9, df⟩ := ff_cells hF8
    obtain ⟨q0, q1, q3⟩ := rqc_cells hq8
    have hgfl := hF8.lt
    clear d0 d1 d3 d4 d5 d7 d8 d9 q1 q3
    clear hB7 hR7 hP7 hF7 hq7 hth7 hb8
    rw [e1] at d2
    have e4H := Lib.hid e4
    clear e4
    go_wp2_with fail
    refine (refMatch08_any (S r.h) (S f.dm) _ hzr hzd).mono ?_
    rintro e w9 ⟨rfl, hb9⟩
    rw [S_toList, S_toList, e4H.out]
    have hB9 := bel_call hB8 hb9
    have hR9 := hR8.below hb9
    have hP9 := hP8.below hb9
    have hF9 := hF8.below hb9
    have hq9 := rqAt_later hq8 hb9
    have hth9 := ck_there hth8 hb9 (by omega)
    have hs9 : gf + 1 ≤ w9.heap.size := by have := hb9.size; omega
    clear d2 d6 df q0 hgfl
    obtain ⟨d0, d1, d2, d3, d4, d5, d6, d7, d8, d9, df⟩ := ff_cells hF9
    obtain ⟨q0, q1, q3⟩ := rqc_cells hq9
    have hgfl := hF9.lt
    clear d0 d1 d3 d4 d5 d7 d8 d9 q1 q3
    clear hB8 hR8 hP8 hF8 hq8 hth8 hb9
    rw [e1] at d2
    have hF0 := Lib.hid (mk_bad (now := now) (e := 13) (show mkE rs r head = 13 by unfold mkE; rw [hk1.out, hrH.out, hk2.out, ← hfH.out, hEE.out]; rfl) (by decide))
    go_upto_region 21 with (fail)
    repeat go_step
    refine ret_item2 (x := noneI k0) Tryz.results10 rfl rfl (itAt_setCells _ hth9) ⟨?_, below_setCells _ _ _ hB9 (Nat.le_succ _)⟩
    rw [hF0.out]
    rfl
  case' inl =>
    have hEE := Lib.hid (hf0.out e1).1
    have hSS := Lib.hid (hf0.out e1).2.1
    have hDD := Lib.hid (hf0.out e1).2.2
    rw [e1] at d2
    have hs9 : gf + 1 ≤ w6.heap.size := by omega
    clear hs6
    clear hfD hfN hf0 hcl0
    have hP0 := hP6.cell 0
    have hP1 := hP6.cell 1
    replace hP0 : w6.cell? ⟨w3.heap.size, 0, none⟩ = some (.string (S pn)) := hP0
    replace hP1 : w6.cell? ⟨w3.heap.size, 1, none⟩ = some (.string (S pv)) := hP1
    have hPl := hP6.lt
    have hqlt : w.heap.size < w6.heap.size := by omega
    obtain ⟨x9, hx9⟩ : ∃ x9, x9 = (⟨⟨pn, r.h, []⟩, ⟨pv, true, false, false, false, 0, 0, 0⟩⟩ : It) := ⟨_, rfl⟩
    have hK20 := Blk.new_ w6 34 (icC x9)
    have hX9 : Hid (x9 = ⟨⟨pn, domK rs r f, []⟩, ⟨pv, !domS rs f, false, false, false, 0, 0, 0⟩⟩) := by
      show _ = _
      rw [hDD.out, hSS.out, hx9]; rfl
    have hba := bel_alloc (Below.refl _ w6) (.cells (icC x9) 34)
    have hB20 := bel_alloc hB6 (.cells (icC x9) 34)
    have hF20 := hF6.below hba
    have hq20 := rqAt_later hq6 hba
    have hth20 := ck_there hth6 hba (by omega)
    have hs20 : gf + 1 ≤ w6.heap.size := by omega
    have hss20 : (w6.alloc (.cells (icC x9) 34)).heap.size = w6.heap.size + 1 := by simp
    clear hR6 hP6 hba
    rw [hx9] at hK20 hB20 hF20 hq20 hth20 hss20
    replace hK20 := Lib.hid hK20
    replace hB20 := Lib.hid hB20
    replace hF20 := Lib.hid hF20
    replace hq20 := Lib.hid hq20
    replace hth20 := Lib.hid hth20
    replace hss20 := Lib.hid hss20
    go_upto_region 29 with (fail)
    show Code.wp _ _ _ _ (w6.alloc (.cells (icC ⟨⟨pn, r.h, []⟩, ⟨pv, true, false, false, false, 0, 0, 0⟩⟩) 34))
    rw [← hx9] at hK20 hB20 hF20 hq20 hth20 hss20 ⊢
    clear hx9 hP0 hP1 hPl hqlt d2 d6 df q0 hgfl
    clear hB6 hF6 hq6 hth6
    generalize w6.alloc (.cells (icC x9) 34) = w20 at *
    generalize hgx : w6.heap.size = gx at *
    clear hgx
  case' inr.inl =>
    have hEE : Hid (domE rs r f = 0) := by show _ = _; rw [(hfD.out e1 e2).1, e3, if_pos rfl, e4]; simp
    have hSS : Hid (domS rs f = false) := by show _ = _; rw [(hfD.out e1 e2).2.1, e3]; rfl
    have hDD : Hid (domK rs r f = r.h) := by show _ = _; rw [(hfD.out e1 e2).2.2, e3]; rfl
    have e2H := Lib.hid e2
    clear e2
    have e4H := Lib.hid e4
    clear e4
    rw [e1] at d2
    go_wp2_with fail
    refine (refCanonical_any (S f.dm) _ hzd).mono ?_
    rintro e w7 ⟨rfl, hb7⟩
    rw [S_toList, e2H.out]
    have hB7 := bel_call hB6 hb7
    have hR7 := hR6.below hb7
    have hP7 := hP6.below hb7
    have hF7 := hF6.below hb7
    have hq7 := rqAt_later hq6 hb7
    have hth7 := ck_there hth6 hb7 (by omega)
    have hs7 : gf + 1 ≤ w7.heap.size := by have := hb7.size; omega
    clear d2 d6 df q0 hgfl
    obtain ⟨d0, d1, d2, d3, d4, d5, d6, d7, d8, d9, df⟩ := ff_cells hF7
    obtain ⟨q0, q1, q3⟩ := rqc_cells hq7
    have hgfl := hF7.lt
    clear d0 d1 d3 d4 d5 d7 d8 d9 q1 q3
    clear hB6 hR6 hP6 hF6 hq6 hth6 hb7
    rw [e1] at d2
    have e3H := Lib.hid e3
    clear e3
    go_wp2_with fail
    refine (refPublic_any A c rs f.dm _ hR7 hrs hk1.out (by omega)).mono ?_
    rintro e w8 ⟨rfl, hb8⟩
    rw [e3H.out]
    have hB8 := bel_call hB7 hb8
    have hR8 := hR7.below hb8
    have hP8 := hP7.below hb8
    have hF8 := hF7.below hb8
    have hq8 := rqAt_later hq7 hb8
    have hth8 := ck_there hth7 hb8 (by omega)
    have hs8 : gf + 1 ≤ w8.heap.size := by have := hb8.size; omega
    clear d2 d6 df q0 hgfl
    obtain ⟨d0, d1, d2, d3, d4, d5, d6, d7, d8, d9, df⟩ := ff_cells hF8
    obtain ⟨q0, q1, q3⟩ := rqc_cells hq8
    have hgfl := hF8.lt
    clear d0 d1 d3 d4 d5 d7 d8 d9 q1 q3
    clear hB7 hR7 hP7 hF7 hq7 hth7 hb8
    rw [e1] at d2
    rw [e4H.out] at d6
    clear hfD hfN hf0 hcl0
    have hP0 := hP8.cell 0
    have hP1 := hP8.cell 1
    replace hP0 : w8.cell? ⟨w3.heap.size, 0, none⟩ = some (.string (S pn)) := hP0
    replace hP1 : w8.cell? ⟨w3.heap.size, 1, none⟩ = some (.string (S pv)) := hP1
    have hPl := hP8.lt
    have hqlt : w.heap.size < w8.heap.size := by omega
    obtain ⟨x9, hx9⟩ : ∃ x9, x9 = (⟨⟨pn, r.h, []⟩, ⟨pv, true, false, false, false, 0, 0, 0⟩⟩ : It) := ⟨_, rfl⟩
    have hK20 := Blk.new_ w8 34 (icC x9)
    have hX9 : Hid (x9 = ⟨⟨pn, domK rs r f, []⟩, ⟨pv, !domS rs f, false, false, false, 0, 0, 0⟩⟩) := by
      show _ = _
      rw [hDD.out, hSS.out, hx9]; rfl
    have hba := bel_alloc (Below.refl _ w8) (.cells (icC x9) 34)
    have hB20 := bel_alloc hB8 (.cells (icC x9) 34)
    have hF20 := hF8.below hba
    have hq20 := rqAt_later hq8 hba
    have hth20 := ck_there hth8 hba (by omega)
    have hs20 : gf + 1 ≤ w8.heap.size := by omega
    have hss20 : (w8.alloc (.cells (icC x9) 34)).heap.size = w8.heap.size + 1 := by simp
    clear hR8 hP8 hba
    rw [hx9] at hK20 hB20 hF20 hq20 hth20 hss20
    replace hK20 := Lib.hid hK20
    replace hB20 := Lib.hid hB20
    replace hF20 := Lib.hid hF20
    replace hq20 := Lib.hid hq20
    replace hth20 := Lib.hid hth20
    replace hss20 := Lib.hid hss20
    go_upto_region 29 with (fail)
    show Code.wp _ _ _ _ (w8.alloc (.cells (icC ⟨⟨pn, r.h, []⟩, ⟨pv, true, false, false, false, 0, 0, 0⟩⟩) 34))
    rw [← hx9] at hK20 hB20 hF20 hq20 hth20 hss20 ⊢
    clear hx9 hP0 hP1 hPl hqlt d2 d6 df q0 hgfl
    clear hB8 hF8 hq8 hth8
    generalize w8.alloc (.cells (icC x9) 34) = w20 at *
    generalize hgx : w8.heap.size = gx at *
    clear hgx
  case' inr.inr.inl =>
    have hEE : Hid (domE rs r f = 0) := by show _ = _; rw [(hfD.out e1 e2).1, e3, e4]; rfl
    have hSS : Hid (domS rs f = true) := by show _ = _; rw [(hfD.out e1 e2).2.1, e3]; rfl
    have hDD : Hid (domK rs r f = f.dm) := by show _ = _; rw [(hfD.out e1 e2).2.2, e3]; rfl
    have e2H := Lib.hid e2
    clear e2
    rw [e1] at d2
    go_wp2_with fail
    refine (refCanonical_any (S f.dm) _ hzd).mono ?_
    rintro e w7 ⟨rfl, hb7⟩
    rw [S_toList, e2H.out]
    have hB7 := bel_call hB6 hb7
    have hR7 := hR6.below hb7
    have hP7 := hP6.below hb7
    have hF7 := hF6.below hb7
    have hq7 := rqAt_later hq6 hb7
    have hth7 := ck_there hth6 hb7 (by omega)
    have hs7 : gf + 1 ≤ w7.heap.size := by have := hb7.size; omega
    clear d2 d6 df q0 hgfl
    obtain ⟨d0, d1, d2, d3, d4, d5, d6, d7, d8, d9, df⟩ := ff_cells hF7
    obtain ⟨q0, q1, q3⟩ := rqc_cells hq7
    have hgfl := hF7.lt
    clear d0 d1 d3 d4 d5 d7 d8 d9 q1 q3
    clear hB6 hR6 hP6 hF6 hq6 hth6 hb7
    rw [e1] at d2
    have e3H := Lib.hid e3
    clear e3
    go_wp2_with fail
    refine (refPublic_any A c rs f.dm _ hR7 hrs hk1.out (by omega)).mono ?_
    rintro e w8 ⟨rfl, hb8⟩
    rw [e3H.out]
    have hB8 := bel_call hB7 hb8
    have hR8 := hR7.below hb8
    have hP8 := hP7.below hb8
    have hF8 := hF7.below hb8
    have hq8 := rqAt_later hq7 hb8
    have hth8 := ck_there hth7 hb8 (by omega)
    have hs8 : gf + 1 ≤ w8.heap.size := by have := hb8.size; omega
    clear d2 d6 df q0 hgfl
    obtain ⟨d0, d1, d2, d3, d4, d5, d6, d7, d8, d9, df⟩ := ff_cells hF8
    obtain ⟨q0, q1, q3⟩ := rqc_cells hq8
    have hgfl := hF8.lt
    clear d0 d1 d3 d4 d5 d7 d8 d9 q1 q3
    clear hB7 hR7 hP7 hF7 hq7 hth7 hb8
    rw [e1] at d2
    have e4H := Lib.hid e4
    clear e4
    go_wp2_with fail
    refine (refMatch08_any (S r.h) (S f.dm) _ hzr hzd).mono ?_
    rintro e w9 ⟨rfl, hb9⟩
    rw [S_toList, S_toList, e4H.out]
    have hB9 := bel_call hB8 hb9
    have hR9 := hR8.below hb9
    have hP9 := hP8.below hb9
    have hF9 := hF8.below hb9
    have hq9 := rqAt_later hq8 hb9
    have hth9 := ck_there hth8 hb9 (by omega)
    have hs9 : gf + 1 ≤ w9.heap.size := by have := hb9.size; omega
    clear d2 d6 df q0 hgfl
    obtain ⟨d0, d1, d2, d3, d4, d5, d6, d7, d8, d9, df⟩ := ff_cells hF9
    obtain ⟨q0, q1, q3⟩ := rqc_cells hq9
    have hgfl := hF9.lt
    clear d0 d1 d3 d4 d5 d7 d8 d9 q1 q3
    clear hB8 hR8 hP8 hF8 hq8 hth8 hb9
    rw [e1] at d2
    clear hfD hfN hf0 hcl0
    have hP0 := hP9.cell 0
    have hP1 := hP9.cell 1
    replace hP0 : w9.cell? ⟨w3.heap.size, 0, none⟩ = some (.string (S pn)) := hP0
    replace hP1 : w9.cell? ⟨w3.heap.size, 1, none⟩ = some (.string (S pv)) := hP1
    have hPl := hP9.lt
    have hqlt : w.heap.size < w9.heap.size := by omega
    obtain ⟨x9, hx9⟩ : ∃ x9, x9 = (⟨⟨pn, f.dm, []⟩, ⟨pv, false, false, false, false, 0, 0, 0⟩⟩ : It) := ⟨_, rfl⟩
    have hK20 := Blk.new_ w9 34 (icC x9)
    have hX9 : Hid (x9 = ⟨⟨pn, domK rs r f, []⟩, ⟨pv, !domS rs f, false, false, false, 0, 0, 0⟩⟩) := by
      show _ = _
      rw [hDD.out, hSS.out, hx9]; rfl
    have hba := bel_alloc (Below.refl _ w9) (.cells (icC x9) 34)
    have hB20 := bel_alloc hB9 (.cells (icC x9) 34)
    have hF20 := hF9.below hba
    have hq20 := rqAt_later hq9 hba
    have hth20 := ck_there hth9 hba (by omega)
    have hs20 : gf + 1 ≤ w9.heap.size := by omega
    have hss20 : (w9.alloc (.cells (icC x9) 34)).heap.size = w9.heap.size + 1 := by simp
    clear hR9 hP9 hba
    rw [hx9] at hK20 hB20 hF20 hq20 hth20 hss20
    replace hK20 := Lib.hid hK20
    replace hB20 := Lib.hid hB20
    replace hF20 := Lib.hid hF20
    replace hq20 := Lib.hid hq20
    replace hth20 := Lib.hid hth20
    replace hss20 := Lib.hid hss20
    go_upto_region 29 with (fail)
    show Code.wp _ _ _ _ (w9.alloc (.cells (icC ⟨⟨pn, f.dm, []⟩, ⟨pv, false, false, false, false, 0, 0, 0⟩⟩) 34))
    rw [← hx9] at hK20 hB20 hF20 hq20 hth20 hss20 ⊢
    clear hx9 hP0 hP1 hPl hqlt d2 d6 df q0 hgfl
    clear hB9 hF9 hq9 hth9
    generalize w9.alloc (.cells (icC x9) 34) = w20 at *
    generalize hgx : w9.heap.size = gx at *
    clear hgx
  all_goals
    replace hK20 := hK20.out
    replace hB20 := hB20.out
    replace hF20 := hF20.out
    replace hq20 := hq20.out
    replace hth20 := hth20.out
    replace hss20 := hss20.out
    have hFl : gf < w20.heap.size := hF20.lt
    have hne : gf ≠ gx := by omega
    have hne2 : gx ≠ gf := by omega
    have hne3 : w.heap.size ≠ gx := by omega
    have hne4 : gx ≠ w.heap.size := by omega
    obtain ⟨d0, d1, d2, d3, d4, d5, d6, d7, d8, d9, df⟩ := ff_cells hF20
    obtain ⟨q0, q1, q3⟩ := rqc_cells hq20
    obtain ⟨c0, c1, c2, c3', c4, c5, c6, c7, c8, c9, c10, cf⟩ := icC_cells hK20
    have hgl := hK20.lt
    clear d0 d1 d2 d4 d5 d6 q0 c0 c1 c3' c4 c5 c6 c7 c8 c9 c10
    have hzp : (S r.p).size ≤ maxLen := by unfold maxLen; simp; omega
    obtain ⟨x10, hx10⟩ : ∃ x10, x10 = (⟨{ x9.k with p := pathM r f }, x9.c⟩ : It) := ⟨_, rfl⟩
    have hK21 : Hid (Blk (w20.setCell ⟨gx, 2, none⟩ (.string (S f.pt))) gx 34 (icC ⟨{ x9.k with p := f.pt }, x9.c⟩)) := Blk.put hK20 2 (.string (S f.pt))
    have hG21 : Hid (w20.grownBy (w20.setCell ⟨gx, 2, none⟩ (.string (S f.pt))) (some gx)) := grown_set (grown_bel (Below.refl _ _) gx) 2 _
    go_upto_region 30 with (fail)
    show Code.wp _ _ _ _ (w20.setCell ⟨gx, 2, none⟩ (.string (S f.pt)))
    clear d3 d7 d8 d9 df q1 q3 c2 cf hgl
    generalize w20.setCell ⟨gx, 2, none⟩ (.string (S f.pt)) = w21 at *
    have hF21 : Blk w21 gf 66 (ffC f) := (hG21.out.block gf hF20.lt (by intro e; cases e; omega)).trans hF20
    have hq21 : rqAt w21 w.heap.size 0 = some r := by
      obtain ⟨z0, z1, z3⟩ := rqc_cells hq20
      exact rqAt_of (fun j v hv => by
        have := rdAt_range (f := lRq) hq20 j v hv
        simp only [World.cell?, hG21.out.block w.heap.size (by omega) (by intro e; cases e; omega)] at *
        exact this)
    have hth21 := ck_thereg hth20 hG21.out (by omega) (by omega)
    have hB21 := ck_belg hB20 hG21.out (by omega) (by omega)
    have hK21' := hK21.out
    clear hK20 hB20 hF20 hq20 hth20 hG21 hK21
    obtain ⟨d0, d1, d2, d3, d4, d5, d6, d7, d8, d9, df⟩ := ff_cells hF21
    obtain ⟨q0, q1, q3⟩ := rqc_cells hq21
    obtain ⟨c0, c1, c2, c3', c4, c5, c6, c7, c8, c9, c10, cf⟩ := icC_cells hK21'
    have hgl := hK21'.lt
    clear d0 d1 d2 d4 d5 d6 d7 d8 d9 q0 q3 c0 c1 c3' c4 c5 c6 c7 c8 c9 c10
    have hx10H := Lib.hid hx10
    clear hx10
    go_upto_if 108 with (fail)
    go_cut [] (fun wx => Blk wx gx 34 (icC x10) ∧ w21.grownBy wx (some gx))
    case first =>
      cases hp : f.hp with
      | true =>
        have e : pathM r f = f.pt := by unfold pathM; rw [hp]; rfl
        have hKH := Lib.hid hK21'
        have hx11 : Hid (x10 = ⟨{ x9.k with p := f.pt }, x9.c⟩) := by show _ = _; rw [hx10H.out, e]
        clear hK21' hF21 hq21 e
        go_wp2
        go_meet
        rw [hx11.out]
        exact ⟨hKH.out, grown_bel (Below.refl _ _) gx⟩
      | false =>
        have e : pathM r f = refDir r.p := by unfold pathM; rw [hp, dirOf_ref]; rfl
        have hKH := Lib.hid hK21'
        have hx11 : Hid (x10 = ⟨{ x9.k with p := refDir r.p }, x9.c⟩) := by show _ = _; rw [hx10H.out, e]
        clear hK21' hF21 hq21 e
        go_wp2_with fail
        refine (refDefault_any (S r.p) _ hzp).mono ?_
        rintro e w22 ⟨rfl, rfl⟩
        rw [S_toList]
        generalize refDir r.p = D at *
        go_wp2
        go_meet
        rw [hx11.out]
        exact ⟨Blk.put hKH.out 2 (.string (S D)), grown_set (grown_bel (Below.refl _ _) gx) 2 _⟩
    case rest =>
    obtain ⟨hK22, hG22⟩ := hcut
    clear d3 df q1 c2 cf hgl
    generalize wc = w22 at *
    have hF22 : Blk w22 gf 66 (ffC f) := (hG22.block gf hF21.lt (by intro e; cases e; omega)).trans hF21
    have hq22 : rqAt w22 w.heap.size 0 = some r := rqAt_of (fun j v hv => by
        have := rdAt_range (f := lRq) hq21 j v hv
        simp only [World.cell?, hG22.block w.heap.size (by have := hK21'.lt; omega) (by intro e; cases e; omega)] at *
        exact this)
    have hth22 := ck_thereg hth21 hG22 (by have := hK21'.lt; omega) (by omega)
    have hB22 := ck_belg hB21 hG22 (by have := hB21.size; omega) (by omega)
    clear hK21' hF21 hq21 hth21 hB21 hG22
    have hxp : x10.k.p = pathM r f := by rw [hx10H.out]
    obtain ⟨d0, d1, d2, d3, d4, d5, d6, d7, d8, d9, df⟩ := ff_cells hF22
    obtain ⟨q0, q1, q3⟩ := rqc_cells hq22
    obtain ⟨c0, c1, c2, c3', c4, c5, c6, c7, c8, c9, c10, cf⟩ := icC_cells hK22
    have hgl := hK22.lt
    rw [hxp] at c2
    clear d0 d1 d2 d3 d4 d5 d6 d7 q0 q1 c0 c1 c3' c4 c7 c8 c9 c10 hxp
    by_cases hlp : (256 : Int) < (pathM r f).length
    case pos =>
      have hlp2 : 256 < (pathM r f).length := by omega
      have hpe : pathE r f = 3 := by unfold pathE; rw [if_pos hlp2]
      have hF0 := Lib.hid (mk_bad (now := now) (e := 3) (show mkE rs r head = 3 by unfold mkE; rw [hk1.out, hrH.out, hk2.out, ← hfH.out, hEE.out, hpe]; rfl) (by decide))
      clear hpe hlp2 hK22 hF22 hq22 d8 d9 df q3 c5 c6
      go_upto_region 33 with (fail)
      repeat go_step
      refine ret_item2 (x := noneI k0) Tryz.results10 rfl rfl (itAt_setCells _ hth22) ⟨?_, below_setCells _ _ _ hB22 (Nat.le_succ _)⟩
      rw [hF0.out]
      rfl
    have hpe : Hid (pathE r f = 0) := by show _ = _; unfold pathE; rw [if_neg (by omega)]
    have hcs : (f.ho = true ∧ r.c = true) ∨ f.ho = false ∨ (f.ho = true ∧ r.c = false) := by cases f.ho <;> cases r.c <;> simp
    rcases hcs with ⟨e9, e10⟩ | e9 | ⟨e9, e10⟩
    case inl =>
      have hfe : flagE r f = 15 := by unfold flagE; rw [e9, e10]; rfl
      have hF0 := Lib.hid (mk_bad (now := now) (e := 15) (show mkE rs r head = 15 by unfold mkE; rw [hk1.out, hrH.out, hk2.out, ← hfH.out, hEE.out, hpe.out, hfe]; rfl) (by decide))
      rw [e9] at d9
      rw [e10] at q3
      clear hfe hK22 hF22 hq22 d8 df c5 c6 e9 e10
      go_upto_region 35 with (fail)
      repeat go_step
      refine ret_item2 (x := noneI k0) Tryz.results10 rfl rfl (itAt_setCells _ hth22) ⟨?_, below_setCells _ _ _ hB22 (Nat.le_succ _)⟩
      rw [hF0.out]
      rfl
    case' inr.inl =>
      have hfe : Hid (flagE r f = 0) := by show _ = _; unfold flagE; rw [e9]; rfl
      rw [e9] at d9
    case' inr.inr =>
      have hfe : Hid (flagE r f = 0) := by show _ = _; unfold flagE; rw [e9, e10]; rfl
      rw [e9] at d9
      rw [e10] at q3
      clear e10
    all_goals
      obtain ⟨x11, hx11⟩ : ∃ x11, x11 = (⟨x10.k, { x10.c with se := f.sc, ht := f.ho }⟩ : It) := ⟨_, rfl⟩
      obtain ⟨w23, hw23⟩ : ∃ W, W = (w22.setCell ⟨gx, 5, none⟩ (.bool f.sc)).setCell ⟨gx, 6, none⟩ (.bool f.ho) := ⟨_, rfl⟩
      have hK23 : Blk w23 gx 34 (icC x11) := by rw [hw23, hx11]; exact Blk.put (Blk.put hK22 5 (.bool f.sc)) 6 (.bool f.ho)
      have hG23 : w22.grownBy w23 (some gx) := by rw [hw23]; exact grown_set (grown_set (grown_bel (Below.refl _ _) gx) 5 _) 6 _
      rw [e9] at hw23
      have hw23H := Lib.hid hw23
      have hx11H := Lib.hid hx11
      have hlt22 := hK22.lt
      have hF23 : Blk w23 gf 66 (ffC f) := (hG23.block gf hF22.lt (by intro e; cases e; omega)).trans hF22
      have hth23 := ck_thereg hth22 hG23 (by omega) (by omega)
      have hB23 := ck_belg hB22 hG23 (by omega) (by omega)
      have hK23H := Lib.hid hK23
      have hF23H := Lib.hid hF23
      have hth23H := Lib.hid hth23
      have hB23H := Lib.hid hB23
      clear hw23 hx11 hK23 hG23 hF23 hth23 hB23 hK22 hF22 hq22 hth22 hB22
      go_upto_region 38 with (fail)
      rw [← hw23H.out]
      clear hw23H d8 d9 df q3 c2 c5 c6 cf hgl hlt22
      replace hK23 := hK23H.out
      replace hF23 := hF23H.out
      have hld := f13_load hF23
      have ht1 := clT_bd now
      have hgl23 := hK23.lt
      go_wp2_with fail
      refine (refExpiry_any f (clT now) _ (by omega) (by omega)).mono ?_
      rintro e w24 ⟨rfl, hb24⟩
      have hK24 := hK23.below hb24
      have hB24 := bel_call hB23H.out hb24
      have hth24 := ck_there hth23H.out hb24 (by omega)
      clear hld hK23 hF23 hK23H hF23H hth23H hB23H hgl23
      obtain ⟨ex, hex⟩ : ∃ q, q = (expI f (clT now)).1 := ⟨_, rfl⟩
      obtain ⟨pe, hpx⟩ : ∃ q, q = (expI f (clT now)).2 := ⟨_, rfl⟩
      rw [← hex, ← hpx]
      obtain ⟨c0, c1, c2, c3', c4, c5, c6, c7, c8, c9, c10, cf⟩ := icC_cells hK24
      have hgl := hK24.lt
      obtain ⟨x12, hx12⟩ : ∃ x12, x12 = (⟨x11.k, { x11.c with ex := ex, pe := pe, cr := clT now, ac := clT now }⟩ : It) := ⟨_, rfl⟩
      obtain ⟨w25, hw25⟩ : ∃ W, W = (((w24.setCell ⟨gx, 8, none⟩ (.int .i64 ex)).setCell ⟨gx, 7, none⟩ (.bool pe)).setCell ⟨gx, 9, none⟩ (.int .i64 (clT now))).setCell ⟨gx, 10, none⟩ (.int .i64 (clT now)) := ⟨_, rfl⟩
      have hK25 : Blk w25 gx 34 (icC x12) := by
        rw [hw25, hx12]
        exact Blk.put (Blk.put (Blk.put (Blk.put hK24 8 (.int .i64 ex)) 7 (.bool pe)) 9 (.int .i64 (clT now))) 10 (.int .i64 (clT now))
      have hG25 : w24.grownBy w25 (some gx) := by
        rw [hw25]
        exact grown_set (grown_set (grown_set (grown_set (grown_bel (Below.refl _ _) gx) 8 _) 7 _) 9 _) 10 _
      have hXF : Hid (mkX rs r head now = x12) := by
        show _ = _
        unfold mkX
        rw [← hfH.out, hx12, hx11H.out, hx10H.out, hX9.out, hpn.out, hpv.out, hex, hpx]
      have hEF : Hid (mkE rs r head = 0) := by
        show _ = _
        unfold mkE
        rw [hk1.out, hrH.out, hk2.out, ← hfH.out, hEE.out, hpe.out, hfe.out]; rfl
      have hI25 := Lib.hid (icC_it hK25)
      have hth25 := Lib.hid (ck_thereg hth24 hG25 (by omega) (by omega))
      have hB25 := Lib.hid (ck_belg hB24 hG25 (by omega) (by omega))
      have hw25H := Lib.hid hw25
      clear hw25 hK24 hK25 hG25 hx12 hx11H hx10H hX9 hex hpx hth24 hB24 c0 c1 c2 c3' c4 c5 c6
      go_upto_region 43 with (fail)
      rw [← hw25H.out]
      clear hw25H c7 c8 c9 c10 cf hgl
      replace hI25 := hI25.out
      have hth26 := hth25.out
      repeat go_step
      refine ret_item2 (x := x12) Tryz.results10 rfl rfl (itAt_setCells _ hth26) ⟨?_, below_setCells _ _ _ hB25.out (Nat.le_succ _)⟩
      rw [mk_good hEF.out, hXF.out]
      rfl
end Go.Proofs.YtgfoaopfdpclhaaGreatDoor
