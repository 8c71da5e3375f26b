/-
  Joined texts: Ck2.
-/
import Derived.Test.YtgfoaopfdpclhaaGreatDoorBu31
import Derived.Test.YtgfoaopfdpclhaaGreatDoorBu16
import Derived.Deep.RegionWith
import Derived.Deep.DeepCutAuto
namespace Go.Proofs.YtgfoaopfdpclhaaGreatDoor
open Go.RowKit
set_option linter.unusedVariables false
set_option maxRecDepth 100000

def mkMk (x : Array (Nat × Value)) : Sem Value := Instr.build 56 x
@[go_sem ↓] theorem to_mkMk (x : Array (Nat × Value)) : Instr.build 56 x = mkMk x := rfl
@[go_sem] theorem build_mk (w : World) (A : Option Addr) (n c : Nat) (r : Rq) (f : Ff) : (mkMk #[(0, .slice A n c), (1, rqV r), (2, .agg (ffC f))]).run Tryz.prog w = .ok (.agg (mC (.slice A n c) r f itZ)) w := by unfold mkMk; kernel_rfl
theorem parseL_len (s : List UInt8) (p : List UInt8 × List UInt8) (h : p ∈ parseL s) : p.1.length ≤ s.length ∧ p.2.length ≤ s.length := by
  unfold parseL at h
  split at h
  · obtain ⟨q, hq, rfl⟩ := List.mem_map.1 h
    have h1 := pairL_len q
    have h2 := split_part s 59 q (List.mem_of_mem_tail hq)
    exact ⟨by omega, by omega⟩
  · cases h
theorem read_len {N : Nat} {l : List (List UInt8 × List UInt8)} (h : ∀ p ∈ l, p.1.length ≤ N ∧ p.2.length ≤ N) : (readT l).dm.length ≤ N ∧ (readT l).pt.length ≤ N := by
  have : ∀ (l : List (List UInt8 × List UInt8)) (f : Ff), (∀ p ∈ l, p.1.length ≤ N ∧ p.2.length ≤ N) → f.dm.length ≤ N ∧ f.pt.length ≤ N → (l.foldl sayT f).dm.length ≤ N ∧ (l.foldl sayT f).pt.length ≤ N := by
    intro l
    induction l with
    | nil => exact fun f _ h => h
    | cons p r ih =>
      intro f hl h
      refine ih _ (fun q hq => hl q (List.mem_cons_of_mem _ hq)) ?_
      have hp := (hl p (by simp)).2
      unfold sayT
      repeat' split
      all_goals (try exact h)
      · unfold exT; split <;> exact h
      · unfold agT; split <;> exact h
      · refine ⟨?_, ?_⟩
        · cases hq : p.2 with
          | nil => exact h.1
          | cons a b =>
            rw [hq] at hp
            show (lowerL (if a == 46 then b else a :: b)).length ≤ N
            unfold lowerL
            rw [List.length_map]
            split
            · simp at hp; omega
            · exact hp
        · cases hq : p.2 with
          | nil => exact h.2
          | cons a b => exact h.2
      · refine ⟨?_, ?_⟩
        · cases hq : p.2 with
          | nil => exact h.1
          | cons a b =>
            unfold ptT
            simp only
            split <;> exact h.1
        · cases hq : p.2 with
          | nil => exact Nat.zero_le _
          | cons a b =>
            rw [hq] at hp
            unfold ptT
            simp only
            split
            · exact hp
            · exact Nat.zero_le _
  exact this l ff0 h ⟨Nat.zero_le _, Nat.zero_le _⟩
def loadFf (a : Addr) : Sem Value := loadVar 53 a
@[go_sem ↓] theorem to_loadFf (a : Addr) : loadVar 53 a = loadFf a := rfl
theorem ff_load {w : World} {g : Nat} {t : TypeId} {v : Value} {r : Rq} {f : Ff} {x : It} (h : Blk w g t (mC v r f x)) : (loadFf ⟨g, 5, none⟩).run Tryz.prog w = .ok (.agg (ffC f)) w := by
  have hu : ∃ d, Tryz.prog.underlying 53 = some d ∧ d.isRow = true := ⟨.struct (Tryz.prog.fieldsOf 53), by kernel_rfl, rfl⟩
  obtain ⟨d, hd, hr⟩ := hu
  exact run_loadVar_mid w g 5 53 (ffC f).toList d (fun j v hv => by
    rw [h.cell (5 + j)]
    match j, hv with
    | 0, hv => exact hv
    | 1, hv => exact hv
    | 2, hv => exact hv
    | 3, hv => exact hv
    | 4, hv => exact hv
    | 5, hv => exact hv
    | 6, hv => exact hv
    | 7, hv => exact hv
    | 8, hv => exact hv
    | 9, hv => exact hv
    | j + 10, hv => simp [ffC] at hv) hd hr (by kernel_rfl)
theorem m_it {w : World} {g : Nat} {t : TypeId} {v : Value} {r : Rq} {f : Ff} {x : It} (h : Blk w g t (mC v r f x)) : itAt w g 15 = some x := itAt_of (fun j v hv => by
  rw [h.cell (15 + j)]
  match j, hv with
  | 0, hv => exact hv
  | 1, hv => exact hv
  | 2, hv => exact hv
  | 3, hv => exact hv
  | 4, hv => exact hv
  | 5, hv => exact hv
  | 6, hv => exact hv
  | 7, hv => exact hv
  | 8, hv => exact hv
  | 9, hv => exact hv
  | 10, hv => exact hv
  | j + 11, hv => simp [cI, cK, cCk] at hv)
theorem ck_thereg {g b : Nat} {w w2 : World} {n : Nat} (h : w.there b 0 n) (hg : w.grownBy w2 (some g)) (hb : b < w.heap.size) (hne : b ≠ g) : w2.there b 0 n := by
  have he := hg.block b hb (by intro e; cases e; exact hne rfl)
  intro j hj
  have := h j hj
  simp only [World.cell?, World.frozen?, he] at *
  exact this
theorem ck_belg {B g : Nat} {w w1 w2 : World} (h : Below B w w1) (hg : w1.grownBy w2 (some g)) (hB : B ≤ w1.heap.size) (hBg : B ≤ g) : Below B w w2 :=
  ⟨hg.os.trans h.os, hg.tape.trans h.tape, hg.output.trans h.output, Nat.le_trans h.size hg.size, fun k hk => (hg.block k (Nat.lt_of_lt_of_le hk hB) (by intro e; cases e; omega)).trans (h.block k hk)⟩
theorem clT_bd (n : Int) : 0 ≤ clT n ∧ clT n ≤ 1099511627776 := by unfold clT; omega
theorem ck_there {w w1 : World} {b o n : Nat} (h : w.there b o n) (hb : Below w.heap.size w w1) (hlt : b < w.heap.size) : w1.there b o n := fun j hj => by
  have h1 := hb.cell (p := ⟨b, o + j, none⟩) hlt
  have h2 := hb.frozen (p := ⟨b, o + j, none⟩) hlt
  rw [h1, h2]
  exact h j hj
set_option maxRecDepth 20000 in
set_option maxHeartbeats 8000000 in
theorem make_any (A : Option Addr) (n c : Nat) (rs : List (List UInt8)) (r : Rq) (head : List UInt8) (now : Int) (w : World) (hR : Rd w 1 (.slice A n c) n (rs.map strV)) (hrs : ∀ q ∈ rs, q.length ≤ 4294967296) (h1 : r.h.length ≤ 100000) (h2 : r.p.length ≤ 100000) (h3 : head.length ≤ 100000) (hn1 : -9223372036854775808 ≤ now) (hn2 : now ≤ 9223372036854775807) (hm : Mon w) :
    Calls Tryz.prog 9 #[.slice A n c, rqV r, .string (S head), .int .i64 now] w fun e w' => e = .returned (mkV rs r head now) ∧ Below w.heap.size w w' := by
  have hzh : (S head).size ≤ 4294967296 := by simp; omega
  have hq0 := rqAt_later (rqAt_new w r 24 w.heap.size rfl) (bel_alloc (Below.refl _ _) (.cells (cI itZ).toArray 34))
  have hB0 := bel_alloc (bel_alloc (Below.refl w.heap.size w) (.cells (rqC r) 24)) (.cells (cI itZ).toArray 34)
  have hth0 : ((w.alloc (.cells (rqC r) 24)).alloc (.cells (cI itZ).toArray 34)).there (w.heap.size + 1) 0 11 := by
    rw [there_alloc_new _ _ _ _ _ _ (by simp) (by simp)]; trivial
  have hsz0 : ((w.alloc (.cells (rqC r) 24)).alloc (.cells (cI itZ).toArray 34)).heap.size = w.heap.size + 2 := by simp
  go_enter Tryz.func9, Tryz.ntmps9
  go_upto_region 1 with (fail)
  show Code.wp _ _ _ _ ((w.alloc (.cells (rqC r) 24)).alloc (.cells (cI itZ).toArray 34))
  generalize ((w.alloc (.cells (rqC r) 24)).alloc (.cells (cI itZ).toArray 34)) = w0 at *
  have hR0 := hR.below hB0
  have hm0 := hm.next hB0
  clear hR hm
  go_wp2_with fail
  refine (check_any A n c rs _ hR0 hrs).mono ?_
  rintro e w1 ⟨rfl, hb1⟩
  have hB1 := bel_call hB0 hb1
  have hR1 := hR0.below hb1
  have hm1 := hm0.next hb1
  have hq1 := rqAt_later hq0 hb1
  have hth1 := ck_there hth0 hb1 (by omega)
  have hs1 : w.heap.size + 2 ≤ w1.heap.size := by have := hb1.size; omega
  clear hB0 hR0 hm0 hq0 hth0 hsz0 hb1
  obtain ⟨k, hk⟩ : ∃ k, k = checkI rs := ⟨_, rfl⟩
  rw [← hk]
  by_cases hk0 : k = 0
  · subst hk0
    have hk1 := Lib.hid hk.symm
    clear hk
    go_wp2_with fail
    refine (uRight_any r _ (by omega) (by omega)).mono ?_
    rintro e w2 ⟨rfl, hb2⟩
    have hB2 := bel_call hB1 hb2
    have hR2 := hR1.below hb2
    have hm2 := hm1.next hb2
    have hq2 := rqAt_later hq1 hb2
    have hth2 := ck_there hth1 hb2 (by omega)
    have hs2 : w.heap.size + 2 ≤ w2.heap.size := by have := hb2.size; omega
    clear hB1 hR1 hm1 hq1 hth1 hs1 hb2
    cases hr : rightU r with
    | false =>
      have hF := Lib.hid (mk_bad (now := now) (e := 1) (show mkE rs r head = 1 by unfold mkE; rw [hk1.out, hr]; rfl) (by decide))
      clear hr hq2
      go_upto_region 5 with (fail)
      repeat go_step
      refine ret_item2 (x := noneI k0) Tryz.results9 rfl rfl (itAt_setCells _ hth2) ⟨?_, below_setCells _ _ _ hB2 (Nat.le_succ _)⟩
      rw [hF.out]
      rfl
    | true =>
    have hrH := Lib.hid hr
    clear hr
    go_wp2_with fail
    refine (headParse_any (S head) _ hzh).mono ?_
    rintro e w3 ⟨A3, c3, rfl, ho3, hb3⟩
    rw [S_toList] at ho3 ⊢
    have hB3 := bel_call hB2 hb3
    have hR3 := hR2.below hb3
    have hm3 := hm2.next hb3
    have hq3 := rqAt_later hq2 hb3
    have hth3 := ck_there hth2 hb3 (by omega)
    have hs3 : w.heap.size + 2 ≤ w3.heap.size := by have := hb3.size; omega
    have hL3 := Rd.of_own ho3
    clear hB2 hR2 hm2 hq2 hth2 hs2 hb3 ho3
    obtain ⟨pn, hpn⟩ : ∃ x, x = (parseP head).1 := ⟨_, rfl⟩
    obtain ⟨pv, hpv⟩ : ∃ x, x = (parseP head).2 := ⟨_, rfl⟩
    rw [show aggP (parseP head) = .agg #[.string (S pn), .string (S pv)] by rw [hpn, hpv]; rfl]
    replace hpn := Lib.hid hpn
    replace hpv := Lib.hid hpv
    obtain ⟨k, hk⟩ : ∃ k, k = parseE head := ⟨_, rfl⟩
    rw [← hk]
    by_cases hk0 : k = 0
    · subst hk0
      have hk2 := Lib.hid hk.symm
      clear hk
      have hP4 := Blk.new_ w3 47 #[.string (S pn), .string (S pv)]
      have hB4 := bel_alloc hB3 (.cells #[.string (S pn), .string (S pv)] 47)
      have hR4 := hR3.alloc (.cells #[.string (S pn), .string (S pv)] 47)
      have hL4 := hL3.alloc (.cells #[.string (S pn), .string (S pv)] 47)
      have hm4 := hm3.next (bel_alloc (Below.refl _ w3) (.cells #[.string (S pn), .string (S pv)] 47))
      have hq4 := rqAt_later hq3 (bel_alloc (Below.refl _ w3) (.cells #[.string (S pn), .string (S pv)] 47))
      have hth4 := ck_there hth3 (bel_alloc (Below.refl _ w3) (.cells #[.string (S pn), .string (S pv)] 47)) (by omega)
      have hs4 : (w3.alloc (.cells #[.string (S pn), .string (S pv)] 47)).heap.size = w3.heap.size + 1 := by simp
      have hl4 : ∀ p ∈ parseL head, p.1.length ≤ 4294967296 ∧ p.2.length ≤ 4294967296 := fun p hp => by
        have := parseL_len head p hp
        omega
      clear hB3 hR3 hm3 hq3 hth3 hL3
      go_upto_region 10 with (fail)
      generalize (w3.alloc (.cells #[.string (S pn), .string (S pv)] 47)) = w4 at *
      have hL5 := hL4.below (Below.refl _ _).drew
      have hq5 : rqAt w4.drew w.heap.size 0 = some r := by rw [rqAt_drew]; exact hq4
      have hm5 := hm4.next (Below.refl _ _).drew
      go_region_held3 (fun w' => rqAt w' w.heap.size 0 = some r) (first | exact hq5 | exact rqAt_later hq5 hb6 | exact rqAt_later (rqAt_later hq5 hb6) (bel_alloc (Below.refl _ _) _)) (first | (go_at_call 21; refine (attrRead_any A3 _ c3 (parseL head) _ hL5 hl4 hm5).mono ?_; rintro e w6 ⟨rfl, hb6⟩))
      obtain ⟨f, hfe⟩ : ∃ f, f = readT (parseL head) := ⟨_, rfl⟩
      have hfl := read_len hl4
      rw [← hfe] at hfl ⊢
      have hfH : Hid (f = fieldsH head) := hfe
      clear hfe hl4
      have hK7 := Blk.new_ w6 56 (mC (.slice A n c) r f itZ)
      have hB6 := bel_call hB4.drew hb6
      have hB7 := bel_alloc hB6 (.cells (mC (.slice A n c) r f itZ) 56)
      have hR7 := ((hR4.below (Below.refl _ _).drew).below hb6).alloc (.cells (mC (.slice A n c) r f itZ) 56)
      have hP7 := ((hP4.below (Below.refl _ _).drew).below hb6).alloc (.cells (mC (.slice A n c) r f itZ) 56)
      have hth7 := ck_there (ck_there (ck_there hth4 (Below.refl _ _).drew (by omega)) hb6 (by show _ < w4.heap.size; omega)) (bel_alloc (Below.refl _ _) (.cells (mC (.slice A n c) r f itZ) 56)) (by have := hb6.size; have e : w4.drew.heap.size = w4.heap.size := rfl; omega)
      have hs6 : w4.heap.size ≤ w6.heap.size := hb6.size
      have hs7 : (w6.alloc (.cells (mC (.slice A n c) r f itZ) 56)).heap.size = w6.heap.size + 1 := by simp
      clear hB4 hR4 hP4 hth4 hL4 hL5 hq4 hq5 hm4 hm5 hb6 hB6
      show Exit.then _ _ _ _ (w6.alloc (.cells (mC (.slice A n c) r f itZ) 56))
      generalize (w6.alloc (.cells (mC (.slice A n c) r f itZ) 56)) = w7 at *
      obtain ⟨g, hg⟩ : ∃ g, g = w6.heap.size := ⟨_, rfl⟩
      rw [← hg] at hK7 hs7 hs6 ⊢
      clear hg
      go_wp2_with fail
      refine (mDomain_any A n c rs r f itZ g _ hK7 hR7 hrs (by omega) (by omega) rfl).mono ?_
      rintro e w8 ⟨rfl, hG8, hK8⟩
      have hB8 := ck_belg hB7 hG8 (by omega) (by omega)
      have hth8 := ck_thereg hth7 hG8 (by omega) (by omega)
      obtain ⟨d, hd⟩ : ∃ d, d = domE rs r f := ⟨_, rfl⟩
      rw [← hd] at hK8 ⊢
      by_cases hd0 : d = 0
      · subst hd0
        have hd1 := Lib.hid hd.symm
        have hK8' := hK8 rfl
        clear hd hK8 hK7 hR7 hB7 hth7
        obtain ⟨x8, hx8⟩ : ∃ x8, x8 = (⟨{ itZ.k with d := domK rs r f }, { itZ.c with ho := !domS rs f }⟩ : It) := ⟨_, rfl⟩
        obtain ⟨f8, hf8⟩ : ∃ f8, f8 = ({ f with hd := domS rs f } : Ff) := ⟨_, rfl⟩
        rw [← hx8, ← hf8] at hK8'
        have hpm : pathM r f8 = pathM r f := by rw [hf8]; rfl
        have hpe : pathE r f8 = pathE r f := by unfold pathE; rw [hpm]
        have hfe : flagE r f8 = flagE r f := by rw [hf8]; rfl
        have hxe : Hid (expI f8 (clT now) = expI f (clT now)) := by rw [hf8]; rfl
        have hfs : Hid (f8.sc = f.sc ∧ f8.ho = f.ho) := by rw [hf8]; exact ⟨rfl, rfl⟩
        replace hx8 := Lib.hid hx8
        clear hf8
        go_wp2_with fail
        refine (mPath_any (.slice A n c) r f8 x8 g _ hK8' (by omega)).mono ?_
        rintro e w9 ⟨rfl, hK9, hG9⟩
        have hG79 := gm_trans hG8 hG9
        have hB9 := ck_belg hB8 hG9 (by have := hG8.size; omega) (by omega)
        have hth9 := ck_thereg hth8 hG9 (by have := hG8.size; omega) (by omega)
        rw [hpe]
        obtain ⟨d, hd⟩ : ∃ d, d = pathE r f := ⟨_, rfl⟩
        rw [← hd]
        by_cases hd0 : d = 0
        · subst hd0
          have hd2 := Lib.hid hd.symm
          have hnl : ¬ 256 < (pathM r f).length := fun h => by
            unfold pathE at hd
            rw [if_pos h] at hd; cases hd
          have hx9 : Hid (pathX r f8 x8 = ⟨{ x8.k with p := pathM r f }, x8.c⟩) := by
            show _ = _
            unfold pathX
            rw [hpm, if_neg hnl]
          rw [hx9.out] at hK9
          clear hd hnl hK8' hG8 hG9 hB8 hth8 hpm hpe
          obtain ⟨x9, hx9e⟩ : ∃ x9, x9 = (⟨{ x8.k with p := pathM r f }, x8.c⟩ : It) := ⟨_, rfl⟩
          rw [← hx9e] at hK9
          replace hx9e := Lib.hid hx9e
          clear hx9
          go_wp2_with fail
          refine (mFlags_any (.slice A n c) r f8 x9 g _ hK9).mono ?_
          rintro e w10 ⟨rfl, hK10, hG10⟩
          have hG710 := gm_trans hG79 hG10
          have hB10 := ck_belg hB9 hG10 (by have := hG79.size; omega) (by omega)
          have hth10 := ck_thereg hth9 hG10 (by have := hG79.size; omega) (by omega)
          rw [hfe]
          obtain ⟨d, hd⟩ : ∃ d, d = flagE r f := ⟨_, rfl⟩
          rw [← hd]
          by_cases hd0 : d = 0
          · subst hd0
            have hd3 := Lib.hid hd.symm
            have hx10 : Hid (flagX r f8 x9 = ⟨x9.k, { x9.c with se := f.sc, ht := f.ho }⟩) := by
              show _ = _
              unfold flagX
              rw [hfs.out.1, hfs.out.2, if_neg]
              intro h
              unfold flagE at hd
              rw [if_pos h] at hd; cases hd
            rw [hx10.out] at hK10
            clear hd hK9 hG79 hG10 hB9 hth9 hfe hx10
            obtain ⟨x10, hx10e⟩ : ∃ x10, x10 = (⟨x9.k, { x9.c with se := f.sc, ht := f.ho }⟩ : It) := ⟨_, rfl⟩
            rw [← hx10e] at hK10
            have hX10 : Hid (x10 = ⟨⟨[], domK rs r f, pathM r f⟩, ⟨[], !domS rs f, f.sc, f.ho, false, 0, 0, 0⟩⟩) := by
              show _ = _
              rw [hx10e, hx9e.out, hx8.out]; rfl
            clear hx10e hx9e hx8
            have hP10 : Blk w10 w3.heap.size 47 #[.string (S pn), .string (S pv)] := (hG710.block w3.heap.size hP7.lt (by intro e; cases e; omega)).trans hP7
            clear hP7 hG710
            go_upto_region 21 with (fail)
            obtain ⟨x11, hx11⟩ : ∃ x11, x11 = (⟨{ x10.k with n := pn }, { x10.c with v := pv }⟩ : It) := ⟨_, rfl⟩
            replace hx11 := Lib.hid hx11
            go_cut [] (fun wx => Blk wx g 56 (mC (.slice A n c) r f8 x11) ∧ w10.grownBy wx (some g))
            case first =>
              have p0 := hP10.cell 0
              have p1 := hP10.cell 1
              have c15 : w10.cell? ⟨g, 15, none⟩ = some (.string (S x10.k.n)) := hK10.cell 15
              have c18 : w10.cell? ⟨g, 18, none⟩ = some (.string (S x10.c.v)) := hK10.cell 18
              have cf := hK10.free
              have hgl := hK10.lt
              have hKH := Lib.hid hK10
              replace p0 : w10.cell? ⟨w3.heap.size, 0, none⟩ = some (.string (S pn)) := p0
              replace p1 : w10.cell? ⟨w3.heap.size, 1, none⟩ = some (.string (S pv)) := p1
              have hne : g ≠ w3.heap.size := by omega
              have hne2 : w3.heap.size ≠ g := by omega
              clear hK10 hP10
              go_region
              all_goals go_wp2
              all_goals go_meet
              all_goals refine ⟨?_, gm_trans (grown_set (grown_set (grown_bel (Below.refl _ _) g) _ _) _ _) (grown_bel (Below.refl _ _).drew g)⟩
              all_goals rw [hx11.out]
              all_goals first
                | exact (Blk.put (Blk.put hKH.out 15 (.string (S pn))) 18 (.string (S pv))).below (Below.refl _ _).drew
                | exact (Blk.put (Blk.put hKH.out 18 (.string (S pv))) 15 (.string (S pn))).below (Below.refl _ _).drew
            case rest =>
            obtain ⟨hK11, hG11⟩ := hcut
            have hB11 := ck_belg hB10 hG11 (by have := hB10.size; omega) (by omega)
            have hth11 := ck_thereg hth10 hG11 (by have := hK10.lt; omega) (by omega)
            clear hK10 hP10 hB10 hth10 hG11
            generalize wc = w11 at *
            have hld := ff_load hK11
            have ht1 := clT_bd now
            have hgl11 := hK11.lt
            go_wp2_with fail
            refine (expiry_any f8 (clT now) _ (by omega) (by omega)).mono ?_
            rintro e w12 ⟨rfl, hb12⟩
            rw [hxe.out]
            have hK12 := hK11.below hb12
            have hB12 := bel_call hB11 hb12
            have hth12 := ck_there hth11 hb12 (by omega)
            clear hK11 hld hB11 hth11 hgl11 hxe
            obtain ⟨ex, hex⟩ : ∃ q, q = (expI f (clT now)).1 := ⟨_, rfl⟩
            obtain ⟨pe, hpe⟩ : ∃ q, q = (expI f (clT now)).2 := ⟨_, rfl⟩
            rw [← hex, ← hpe]
            have c22 : w12.cell? ⟨g, 22, none⟩ = some (.bool x11.c.pe) := hK12.cell 22
            have c23 : w12.cell? ⟨g, 23, none⟩ = some (.int .i64 x11.c.ex) := hK12.cell 23
            have c24 : w12.cell? ⟨g, 24, none⟩ = some (.int .i64 x11.c.cr) := hK12.cell 24
            have c25 : w12.cell? ⟨g, 25, none⟩ = some (.int .i64 x11.c.ac) := hK12.cell 25
            have cf := hK12.free
            have hgl := hK12.lt
            obtain ⟨x12, hx12⟩ : ∃ x12, x12 = (⟨x11.k, { x11.c with ex := ex, pe := pe, cr := clT now, ac := clT now }⟩ : It) := ⟨_, rfl⟩
            have hK13 : Hid (Blk ((((w12.setCell ⟨g, 23, none⟩ (.int .i64 ex)).setCell ⟨g, 22, none⟩ (.bool pe)).setCell ⟨g, 24, none⟩ (.int .i64 (clT now))).setCell ⟨g, 25, none⟩ (.int .i64 (clT now))) g 56 (mC (.slice A n c) r f8 x12)) := by
              rw [hx12]
              exact Blk.put (Blk.put (Blk.put (Blk.put hK12 23 (.int .i64 ex)) 22 (.bool pe)) 24 (.int .i64 (clT now))) 25 (.int .i64 (clT now))
            have hG13 : Hid (w12.grownBy ((((w12.setCell ⟨g, 23, none⟩ (.int .i64 ex)).setCell ⟨g, 22, none⟩ (.bool pe)).setCell ⟨g, 24, none⟩ (.int .i64 (clT now))).setCell ⟨g, 25, none⟩ (.int .i64 (clT now))) (some g)) := grown_set (grown_set (grown_set (grown_set (grown_bel (Below.refl _ _) g) 23 _) 22 _) 24 _) 25 _
            have hXF : Hid (mkX rs r head now = x12) := by
              show _ = _
              unfold mkX
              rw [← hfH.out, hx12, hx11.out, hX10.out, hpn.out, hpv.out, hex, hpe]
            have hEF : Hid (mkE rs r head = 0) := by
              show _ = _
              unfold mkE
              rw [hk1.out, hrH.out, hk2.out, ← hfH.out, hd1.out, hd2.out, hd3.out]; rfl
            clear hK12 hx12 hx11 hX10 hex hpe
            go_upto_region 24 with (fail)
            clear c22 c23 c24 c25 cf
            show Code.wp _ _ _ _ ((((w12.setCell ⟨g, 23, none⟩ (.int .i64 ex)).setCell ⟨g, 22, none⟩ (.bool pe)).setCell ⟨g, 24, none⟩ (.int .i64 (clT now))).setCell ⟨g, 25, none⟩ (.int .i64 (clT now)))
            generalize ((((w12.setCell ⟨g, 23, none⟩ (.int .i64 ex)).setCell ⟨g, 22, none⟩ (.bool pe)).setCell ⟨g, 24, none⟩ (.int .i64 (clT now))).setCell ⟨g, 25, none⟩ (.int .i64 (clT now))) = w13 at *
            have hI13 := m_it hK13.out
            have hth13 := ck_thereg hth12 hG13.out (by omega) (by omega)
            have hB13 := ck_belg hB12 hG13.out (by have := hB12.size; omega) (by omega)
            clear hK13 hG13 hth12 hB12
            repeat go_step
            refine ret_item2 (x := x12) Tryz.results9 rfl rfl (itAt_setCells _ hth13) ⟨?_, below_setCells _ _ _ hB13 (Nat.le_succ _)⟩
            rw [mk_good hEF.out, hXF.out]
            rfl
          · have hF := Lib.hid (mk_bad (now := now) (show mkE rs r head = d by unfold mkE; rw [hk1.out, hrH.out, hk2.out, ← hfH.out, hd1.out, hd2.out, ← hd]; rfl) hd0)
            have hd4 : (d != 0) = true := by simpa using hd0
            clear hd hd0 hK9 hK10 hG79 hG10 hG710 hP7 hB9 hth9 hfe
            go_upto_region 19 with (fail)
            repeat go_step
            refine ret_item2 (x := noneI k0) Tryz.results9 rfl rfl (itAt_setCells _ hth10) ⟨?_, below_setCells _ _ _ hB10 (Nat.le_succ _)⟩
            rw [hF.out]
            rfl
        · have hF := Lib.hid (mk_bad (now := now) (show mkE rs r head = d by unfold mkE; rw [hk1.out, hrH.out, hk2.out, ← hfH.out, hd1.out, ← hd, if_pos rfl, if_pos rfl, if_pos rfl, if_neg hd0]; rfl) hd0)
          have hd4 : (d != 0) = true := by simpa using hd0
          clear hd hd0 hK8' hK9 hG8 hG9 hG79 hP7 hB8 hth8 hpm hpe hfe
          go_upto_region 16 with (fail)
          repeat go_step
          refine ret_item2 (x := noneI k0) Tryz.results9 rfl rfl (itAt_setCells _ hth9) ⟨?_, below_setCells _ _ _ hB9 (Nat.le_succ _)⟩
          rw [hF.out]
          rfl
      · have hF := Lib.hid (mk_bad (now := now) (show mkE rs r head = d by unfold mkE; rw [hk1.out, hrH.out, hk2.out, ← hfH.out, ← hd, if_neg hd0]; rfl) hd0)
        have hd2 : (d != 0) = true := by simpa using hd0
        clear hd hd0 hK8 hG8 hK7 hR7 hP7 hB7 hth7
        go_upto_region 13 with (fail)
        repeat go_step
        refine ret_item2 (x := noneI k0) Tryz.results9 rfl rfl (itAt_setCells _ hth8) ⟨?_, below_setCells _ _ _ hB8 (Nat.le_succ _)⟩
        rw [hF.out]
        rfl
    · have hF := Lib.hid (mk_bad (now := now) (show mkE rs r head = k by unfold mkE; rw [hk1.out, hrH.out, ← hk, if_neg hk0]; rfl) hk0)
      have hk2 : (k != 0) = true := by simpa using hk0
      clear hk hk0 hq3
      have hB4 := bel_alloc hB3 (.cells #[.string (S pn), .string (S pv)] 47)
      have hth4 := ck_there hth3 (bel_alloc (Below.refl _ w3) (.cells #[.string (S pn), .string (S pv)] 47)) (by omega)
      clear hB3 hR3 hm3 hth3 hL3
      go_upto_region 8 with (fail)
      repeat go_step
      refine ret_item2 (x := noneI k0) Tryz.results9 rfl rfl (itAt_setCells _ hth4) ⟨?_, below_setCells _ _ _ hB4 (Nat.le_succ _)⟩
      rw [hF.out]
      rfl
  · have hF := Lib.hid (mk_bad (now := now) (show mkE rs r head = k by unfold mkE; rw [← hk, if_neg hk0]) hk0)
    have hk2 : (k != 0) = true := by simpa using hk0
    clear hk hk0
    go_upto_region 3 with (fail)
    repeat go_step
    refine ret_item2 (x := noneI k0) Tryz.results9 rfl rfl (itAt_setCells _ hth1) ⟨?_, below_setCells _ _ _ hB1 (Nat.le_succ _)⟩
    rw [hF.out]
    rfl
end Go.Proofs.YtgfoaopfdpclhaaGreatDoor
