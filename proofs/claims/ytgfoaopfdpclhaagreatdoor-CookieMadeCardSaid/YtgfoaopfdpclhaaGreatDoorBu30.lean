/-
  Joined texts: Header Header2 Header3.
-/
import Derived.Test.YtgfoaopfdpclhaaGreatDoorBu2
import Derived.StillTailTactics
import Derived.Deep.RegionHeld3
import Derived.Test.YtgfoaopfdpclhaaGreatDoorBu10
namespace Go.Proofs.YtgfoaopfdpclhaaGreatDoor
open Go.RowKit
set_option linter.unusedVariables false
set_option maxRecDepth 100000

/-- A pair's name and value, as the first = parts them. -/
def pairL (s : List UInt8) : List UInt8 × List UInt8 := match cutL s 61 with | none => (trimL s, []) | some p => (trimL p.1, trimL p.2)
def hasEq (s : List UInt8) : Bool := (cutL s 61).isSome
def aggP (p : List UInt8 × List UInt8) : Value := .agg #[strV p.1, strV p.2]
theorem trimL_nil : trimL [] = [] := rfl
theorem ltrim_len (l : List UInt8) : (ltrim l).length ≤ l.length := by
  unfold ltrim
  exact (List.dropWhile_sublist _).length_le
theorem rtrim_len (l : List UInt8) : (rtrim l).length ≤ l.length := by
  unfold rtrim
  rw [List.length_reverse]
  have := (List.dropWhile_sublist blankB (l := l.reverse)).length_le
  rw [List.length_reverse] at this
  exact this
theorem trimL_len (l : List UInt8) : (trimL l).length ≤ l.length := by
  unfold trimL
  have := ltrim_len l
  have := rtrim_len (ltrim l)
  omega
theorem pairL_len (s : List UInt8) : (pairL s).1.length ≤ s.length ∧ (pairL s).2.length ≤ s.length := by
  unfold pairL
  split
  · exact ⟨trimL_len s, by simp⟩
  · rename_i p h
    have h1 := cut_some h
    have h2 := congrArg List.length h1.2.2.2.1
    simp at h2
    have := trimL_len p.1
    have := trimL_len p.2
    simp only
    omega

set_option maxHeartbeats 1000000 in
theorem pair_any (s : ByteArray) (w : World) (hs : s.size ≤ maxLen) :
    Calls Tryz.prog 49 #[.string s] w fun e w' => e = .returned (.tuple #[aggP (pairL s.toList), .bool (hasEq s.toList)]) ∧ Below w.heap.size w w' := by
  rcases h : cutL s.toList 61 with _ | ⟨a, b⟩
  · have hH := Lib.hid h
    have hp := Lib.hid (show pairL s.toList = (trimL s.toList, []) by unfold pairL; rw [h])
    have hq := Lib.hid (show hasEq s.toList = false by unfold hasEq; rw [h]; rfl)
    clear h
    go_enter Tryz.func49, Tryz.ntmps49
    go_wp2_with fail
    refine (cut_any_none s 61 _ hs hH.out).mono ?_
    rintro e w' ⟨rfl, rfl⟩
    go_wp2_with fail
    refine (trim_any s _ hs).mono ?_
    rintro e w' ⟨rfl, rfl⟩
    go_wp2_with fail
    refine (trim_any _ _ (by rw [S_size]; decide)).mono ?_
    rintro e w' ⟨rfl, rfl⟩
    rw [S_toList, trimL_nil]
    go_wp2_with fail
    refine bodyPost_ret (v := .tuple #[.agg #[.string (S (trimL s.toList)), .string (S [])], .bool false]) (by simp [results, Tryz.results49, go_sem]) rfl ?_
    exact ⟨by rw [hp.out, hq.out]; rfl, (Below.refl _ _).alloc (Nat.le_refl _) _⟩
  · have hH := Lib.hid h
    have hp := Lib.hid (show pairL s.toList = (trimL a, trimL b) by unfold pairL; rw [h])
    have hq := Lib.hid (show hasEq s.toList = true by unfold hasEq; rw [h]; rfl)
    have hS := Lib.hid (cut_some h)
    have hszs := Lib.hid (size_toList s)
    have hl := Lib.hid (congrArg List.length (cut_some h).2.2.2.1)
    have ha : a.length ≤ maxLen := by
      have := hl.out; rw [← hszs.out] at this; simp at this; omega
    have hb : b.length ≤ maxLen := by
      have := hl.out; rw [← hszs.out] at this; simp at this; omega
    clear h
    go_enter Tryz.func49, Tryz.ntmps49
    go_wp2_with fail
    refine (cut_any_some s 61 _ hs a b hH.out).mono ?_
    rintro e w1 ⟨rfl, hb1⟩
    obtain ⟨hc1, hf1⟩ := bel_cell hb1
    go_wp2_with fail
    refine (trim_any _ _ (by rw [S_size]; exact ha)).mono ?_
    rintro e w' ⟨rfl, rfl⟩
    rw [S_toList]
    go_wp2_with fail
    refine (trim_any _ _ (by rw [S_size]; exact hb)).mono ?_
    rintro e w' ⟨rfl, rfl⟩
    rw [S_toList]
    go_wp2_with fail
    have hB := bel_onto ((Below.refl w.heap.size w).alloc (Nat.le_refl _) _) hb1 (by simp)
    refine bodyPost_ret (v := .tuple #[.agg #[.string (S (trimL a)), .string (S (trimL b))], .bool true]) (by simp [results, Tryz.results49, go_sem, hc1]) rfl ?_
    exact ⟨by rw [hp.out, hq.out]; rfl, (hB.setCell (Nat.le_refl _) _).setCell (Nat.le_refl _) _⟩

set_option maxHeartbeats 1000000 in
theorem refPair_any (s : ByteArray) (w : World) (hs : s.size ≤ maxLen) :
    Calls Tryz.prog 64 #[.string s] w fun e w' => e = .returned (aggP (pairL s.toList)) ∧ Below w.heap.size w w' := by
  rcases h : cutL s.toList 61 with _ | ⟨a, b⟩
  · have hp := Lib.hid (show pairL s.toList = (trimL s.toList, []) by unfold pairL; rw [h])
    have hf : findL s.toList 61 = -1 := by unfold findL; rw [h]
    clear h
    go_enter Tryz.func64, Tryz.ntmps64
    go_wp2_with fail
    refine (refFind_any s 61 _ hs).mono ?_
    rintro e w' ⟨rfl, rfl⟩
    rw [hf]
    go_wp2_with fail
    refine (refTrim_any s _ hs).mono ?_
    rintro e w' ⟨rfl, rfl⟩
    go_wp2_with fail
    refine bodyPost_ret (v := .agg #[.string (S (trimL s.toList)), .string (S [])]) (by simp [results, Tryz.results64, go_sem]; rfl) rfl ?_
    exact ⟨by rw [hp.out]; rfl, (Below.refl _ _).alloc (Nat.le_refl _) _⟩
  · have hp := Lib.hid (show pairL s.toList = (trimL a, trimL b) by unfold pairL; rw [h])
    have hf : findL s.toList 61 = a.length := by unfold findL; rw [h]
    have hS := Lib.hid (cut_some h)
    have hszs := Lib.hid (size_toList s)
    have h1 : a.length < s.size := by rw [hszs.out]; exact hS.out.1
    have ha : (s.extract 0 a.length).size ≤ maxLen := by rw [extract_to, S_size, List.length_take, ← hszs.out]; omega
    have hb : (s.extract (a.length + 1) s.size).size ≤ maxLen := by rw [extract_from, S_size, List.length_drop, ← hszs.out]; omega
    have e1 : (s.extract 0 a.length).toList = a := by rw [extract_to, S_toList]; exact hS.out.2.1.symm
    have e2 : (s.extract (a.length + 1) s.size).toList = b := by rw [extract_from, S_toList]; exact hS.out.2.2.1.symm
    have hs' := hs
    unfold maxLen at hs'
    have h1i : (a.length : Int) < s.size := by omega
    have hw1 : IntKind.i64.wrap ((a.length : Int) + 1) = (a.length : Int) + 1 := IntWalk.i64_in _ (by omega)
    have hw2 : (0 : Int) ≤ (a.length : Int) + 1 := by omega
    have hw3 : (a.length : Int) + 1 ≤ s.size := by omega
    have hw4 : ((a.length : Int) + 1).toNat = a.length + 1 := by omega
    clear h
    go_enter Tryz.func64, Tryz.ntmps64
    go_wp2_with fail
    refine (refFind_any s 61 _ hs).mono ?_
    rintro e w' ⟨rfl, rfl⟩
    rw [hf]
    go_wp2_with fail
    go_region_with (first
      | (go_at_call 73; refine (refTrim_any _ _ (by assumption)).mono ?_; rintro e w' ⟨rfl, rfl⟩))
    all_goals
      go_wp2_with fail
      refine bodyPost_ret (v := .agg #[.string (S (trimL a)), .string (S (trimL b))]) (by simp [results, Tryz.results64, go_sem]) rfl ?_
      exact ⟨by rw [hp.out]; rfl, ((Below.refl _ _).alloc (Nat.le_refl _) _).drew⟩

end Go.Proofs.YtgfoaopfdpclhaaGreatDoor
namespace Go.Proofs.YtgfoaopfdpclhaaGreatDoor
open Go.RowKit
set_option linter.unusedVariables false
set_option maxRecDepth 100000

/-- What a header comes to: the error, and, if there is none, the pair and the attributes. -/
def parseE (s : List UInt8) : Int :=
  let p := pairL ((splitL s 59).headD [])
  if 4096 < s.length then 3 else if s.any ctlB || !hasEq ((splitL s 59).headD []) || p.1.isEmpty then 1 else if 256 < p.1.length || 1024 < p.2.length then 3 else 0
def parseP (s : List UInt8) : List UInt8 × List UInt8 := if parseE s = 0 then pairL ((splitL s 59).headD []) else ([], [])
def parseL (s : List UInt8) : List (List UInt8 × List UInt8) := if parseE s = 0 then (splitL s 59).tail.map pairL else []

def emptyP : Value := .agg #[.string (ByteArray.mk #[]), .string (ByteArray.mk #[])]
theorem aggP_nil : aggP ([], []) = emptyP := rfl


set_option maxHeartbeats 4000000 in
theorem headParse_any (s : ByteArray) (w : World) (hs : s.size ≤ 4294967296) :
    Calls Tryz.prog 20 #[.string s] w fun e w' => ∃ A c, e = .returned (.tuple #[aggP (parseP s.toList), .slice A (parseL s.toList).length c, .int .i64 (parseE s.toList)]) ∧
      w'.ownsRow w.heap.size 47 2 (.slice A (parseL s.toList).length c) (parseL s.toList).length (cellsP (parseL s.toList)) ∧ Below w.heap.size w w' := by
  have hsz := Lib.hid (size_toList s)
  have hsm : s.size ≤ maxLen := by unfold maxLen; omega
  obtain ⟨i0, hi, hz0, hz1, hz2⟩ := info_parts Tryz.infoP47
  by_cases h1 : 4096 < s.size
  · have hE : parseE s.toList = 3 := by unfold parseE; rw [if_pos (by rw [← hsz.out]; exact h1)]
    have hr := Lib.hid (show parseP s.toList = ([], []) ∧ parseL s.toList = [] ∧ parseE s.toList = 3 by unfold parseP parseL; rw [hE]; exact ⟨rfl, rfl, rfl⟩)
    clear hE
    go_enter Tryz.func20, Tryz.ntmps20
    go_wp2_with fail
    refine bodyPost_ret (v := .tuple #[emptyP, .slice none 0 0, .int .i64 3]) (by simp [results, Tryz.results20, go_sem]; rfl) rfl ?_
    rw [hr.out.1, hr.out.2.1, hr.out.2.2]
    exact ⟨none, 0, rfl, World.ownsRow_nil _ _ _ _, by
      refine bel_alloc (Below.refl _ _) _⟩
  have h1i : (s.size : Int) ≤ 4096 := by omega
  have hne := split_ne s.toList 59
  obtain ⟨p0, ps, hsp⟩ : ∃ p0 ps, splitL s.toList 59 = p0 :: ps := by
    cases h : splitL s.toList 59 with
    | nil => exact absurd h hne
    | cons a b => exact ⟨a, b, rfl⟩
  have hspl := Lib.hid hsp
  have hp0 : p0.length ≤ s.size := by
    have := split_part s.toList 59 p0 (by rw [hsp]; simp)
    rw [hsz.out]; exact this
  have hpsn : ps.length ≤ s.size := by
    have := split_len s.toList 59
    rw [hsp, ← hsz.out] at this
    simpa using this
  have hpl := Lib.hid (pairL_len p0)
  have hps := Lib.hid (fun x (hx : x ∈ ps) => split_part s.toList 59 x (by rw [hsp]; simp [hx]))
  clear hsp hne
  go_enter Tryz.func20, Tryz.ntmps20
  go_wp2_with fail
  refine (split_any s 59 _ hs).mono ?_
  rintro e w1 ⟨A, c, rfl, hown1, hb1⟩
  rw [hspl.out] at hown1 ⊢
  have hR1 := Rd.of_own hown1
  obtain ⟨b, off, rfl, hbl, hc⟩ := hR1.at_ (by simp)
  have hc0 := hc 0 (by simp)
  replace hc0 : w1.cell? ⟨b, off, none⟩ = some (.string (S p0)) := hc0
  clear hc hown1
  go_wp2_with fail
  refine (pair_any _ _ (by rw [S_size]; unfold maxLen; omega)).mono ?_
  rintro e w2 ⟨rfl, hb2⟩
  rw [S_toList]
  unfold aggP strV
  have hB2 := bel_call (bel_call (bel_alloc (Below.refl w.heap.size w) _) (hb1.mono (by simp))) hb2
  have hR2 := hR1.below hb2
  have hK2 := ((Blk.new_ w 47 #[.string (ByteArray.mk #[]), .string (ByteArray.mk #[])]).below hb1).below hb2
  clear hb1 hb2 hR1 hc0
  have hPE := Lib.hid (show parseE s.toList = if s.toList.any ctlB || !hasEq p0 || (pairL p0).1.isEmpty then 1 else if 256 < (pairL p0).1.length || 1024 < (pairL p0).2.length then 3 else 0 by
    unfold parseE; rw [if_neg (by rw [← hsz.out]; exact h1), hspl.out]; rfl)
  have hPP := Lib.hid (show parseP s.toList = if parseE s.toList = 0 then ((pairL p0).1, (pairL p0).2) else ([], []) by unfold parseP; rw [hspl.out]; rfl)
  have hPL := Lib.hid (show parseL s.toList = if parseE s.toList = 0 then ps.map pairL else [] by unfold parseL; rw [hspl.out]; rfl)
  clear hspl
  go_wp2_with fail
  refine (control_any s _ hsm).mono ?_
  rintro e w' ⟨rfl, rfl⟩
  have hB3 := bel_alloc hB2 (.cells #[.string (S (pairL p0).1), .string (S (pairL p0).2)] 47)
  have hR3 := hR2.alloc (.cells #[.string (S (pairL p0).1), .string (S (pairL p0).2)] 47)
  have hK3 := hK2.alloc (.cells #[.string (S (pairL p0).1), .string (S (pairL p0).2)] 47)
  have hP3 := Blk.new_ w2 47 #[.string (S (pairL p0).1), .string (S (pairL p0).2)]
  clear hB2 hR2 hK2
  generalize (pairL p0).1 = pn at *
  generalize (pairL p0).2 = pv at *
  generalize hasEq p0 = q at *
  generalize s.toList.any ctlB = ct at *
  generalize w2.alloc (.cells #[.string (S pn), .string (S pv)] 47) = w3 at *
  generalize w2.heap.size = g at *
  have hr0 := hK3.cell 0
  have hr1 := hK3.cell 1
  have hf0 := hK3.free 0
  have hf1 := hK3.free 1
  have hp0 := hP3.cell 0
  have hp1 := hP3.cell 1
  simp at hr0 hr1 hp0 hp1
  by_cases hbad : (ct || !q || pn.isEmpty) = true
  · have hE := Lib.hid (show parseE s.toList = 1 by rw [hPE.out, if_pos hbad])
    have hcs : ct = true ∨ (ct = false ∧ q = false) ∨ (ct = false ∧ q = true ∧ pn.isEmpty = true) := by
      cases ct <;> cases q <;> simp_all
    clear hbad
    rcases hcs with rfl | ⟨rfl, rfl⟩ | ⟨rfl, rfl, hem⟩
    all_goals
      go_wp2_with fail
      refine bodyPost_ret (v := .tuple #[emptyP, .slice none 0 0, .int .i64 1]) (by simp [results, Tryz.results20, go_sem, hr0, hr1]; rfl) rfl ?_
      rw [hPP.out, hPL.out, hE.out]
      exact ⟨none, 0, rfl, World.ownsRow_nil _ _ _ _, (hB3.setCell (Nat.le_refl _) _).setCell (Nat.le_refl _) _⟩
  · have hok : ct = false ∧ q = true ∧ pn.isEmpty = false := by
      cases ct <;> cases q <;> simp_all
    have hPE2 := Lib.hid (show parseE s.toList = if 256 < pn.length || 1024 < pv.length then 3 else 0 by rw [hPE.out, if_neg hbad])
    clear hbad hPE
    obtain ⟨rfl, rfl, hem⟩ := hok
    by_cases hlong : (256 < pn.length || 1024 < pv.length) = true
    · have hE := Lib.hid (show parseE s.toList = 3 by rw [hPE2.out, if_pos hlong])
      have hcs : ((256 : Int) < pn.length) ∨ (decide ((256 : Int) < pn.length) = false ∧ (1024 : Int) < pv.length) := by
        by_cases h : 256 < pn.length
        · exact Or.inl (by omega)
        · exact Or.inr ⟨decide_eq_false (by omega), by simp [h] at hlong; omega⟩
      clear hlong hPE2
      rcases hcs with h | ⟨h, h'⟩
      all_goals
        go_wp2_with fail
        refine bodyPost_ret (v := .tuple #[emptyP, .slice none 0 0, .int .i64 3]) (by simp [results, Tryz.results20, go_sem, hr0, hr1]; rfl) rfl ?_
        rw [hPP.out, hPL.out, hE.out]
        exact ⟨none, 0, rfl, World.ownsRow_nil _ _ _ _, (hB3.setCell (Nat.le_refl _) _).setCell (Nat.le_refl _) _⟩
    · have hE := Lib.hid (show parseE s.toList = 0 by rw [hPE2.out, if_neg hlong])
      have hnn : ¬ 256 < pn.length ∧ ¬ 1024 < pv.length := by
        simp only [Bool.or_eq_true, decide_eq_true_eq, not_or] at hlong
        exact hlong
      have hn1 : decide ((256 : Int) < pn.length) = false := decide_eq_false (by omega)
      have hn2 : decide ((1024 : Int) < pv.length) = false := decide_eq_false (by omega)
      clear hnn
      clear hlong hPE2
      have hcap := hR3.cap
      simp only [List.length_cons] at hcap
      obtain ⟨hcap1, hcap2⟩ := hcap
      unfold maxLen at hcap2
      have hcl := Lib.hid (show ∀ k (h : k < ps.length), w3.cell? ⟨b, off + 1 + k, none⟩ = some (.string (S ps[k])) from fun k h => by
        obtain ⟨b', off', he, _, hc'⟩ := hR3.at_ (by simp)
        have e1 : b' = b := by injection he with he; injection he with h1 h2; exact h1.symm
        have e2 : off' = off := by injection he with he; injection he with h1 h2; exact h2.symm
        subst e1 e2
        have := hc' (1 + k) (by simp; omega)
        rw [show off' + 1 + k = off' + (1 + k) by omega, this, show 1 + k = k + 1 by omega]
        simp [strV, h])
      by_cases hc1 : c = 1
      all_goals
        try (subst hc1)
        go_wp2_with fail
        go_loopw [8, 48] (fun v i wr => ∃ k : Nat, k ≤ ps.length ∧ i = .int .i64 k ∧ wr.ownsRow w3.heap.size 47 2 v k (cellsP ((ps.map pairL).take k)) ∧ Below w3.heap.size w3 wr) (fun _ i _ => ps.length - (intOf i).toNat)
        case atStart => exact ⟨0, Nat.zero_le _, rfl, World.ownsRow_nil _ _ _ _, Below.refl _ _⟩
        case round =>
          obtain ⟨k, hk, rfl, hown, hbel⟩ := hrel
          by_cases hlt : k < ps.length
          · first
            | (exfalso; omega)
            | (have hcell := cell_later hbel (hcl.out k hlt)
               have hki : (k : Int) < ps.length := by omega
               have hm : (S ps[k]).size ≤ maxLen := by
                 have := hps.out _ (List.getElem_mem hlt)
                 rw [← hsz.out] at this
                 rw [S_size]; unfold maxLen; omega
               have hsn := Lib.hid (show (ps.map pairL).take (k + 1) = (ps.map pairL).take k ++ [pairL ps[k]] by rw [List.take_succ_eq_append_getElem (by simpa using hlt)]; simp)
               go_wp2_with fail
               refine (pair_any _ _ hm).mono ?_
               rintro e w4 ⟨rfl, hb4⟩
               rw [S_toList]
               unfold aggP strV
               have hown4 := own_below hown hb4
               have hbel4 := bel_call hbel hb4
               clear hown hbel hb4 hcell
               go_wp2_with (at_builtin; refine wpList_push rfl _ _ 48 rfl w3.heap.size 47 i0 (.agg #[.string ByteArray.empty, .string ByteArray.empty]) 2 32 Tryz.underlying48 hi hz0 hz1 hz2 rfl (by decide) _ _ _ rfl (hown4.alloc _) _ _ rfl ?c5 rfl ?c1 ?c2 ?c3 ?c4 (bel_alloc hbel4 _) ?_)
               case c1 => exact ⟨rfl, rfl⟩
               case c2 => unfold maxLen; omega
               case c3 => omega
               case c4 => have := hbel4.size; simp; omega
               case c5 => simp
               intro v' w' hown' hg hbel' hsz'
               go_wp2
               go_roundw
               case rel =>
                 refine ⟨k + 1, by omega, by go_num, ?_, hbel'⟩
                 rw [hsn.out, cellsP_snoc]
                 exact hown'
               case measure => simp [intOf]; omega)
          · obtain rfl : k = ps.length := by omega
            have hK4 := hK3.below hbel
            have hP4 := hP3.below hbel
            have qr0 := hK4.cell 0
            have qr1 := hK4.cell 1
            have qf0 := hK4.free 0
            have qf1 := hK4.free 1
            have qp0 := hP4.cell 0
            have qp1 := hP4.cell 1
            simp at qr0 qr1 qp0 qp1
            rw [show (ps.map pairL).take ps.length = ps.map pairL from List.take_of_length_le (by simp)] at hown
            go_wp2_with fail
            obtain ⟨A3, c3, rfl⟩ := own_form hown
            refine bodyPost_ret (v := .tuple #[.agg #[.string (S pn), .string (S pv)], .slice A3 ps.length c3, .int .i64 0]) (by simp [results, Tryz.results20, go_sem, qr0, qr1]) rfl ?_
            have hown5 := ownsRow_setCell_below (ownsRow_setCell_below hown (a := ⟨w.heap.size, 0, none⟩) hK3.lt (.string (S pn))) (a := ⟨w.heap.size, 1, none⟩) hK3.lt (.string (S pv))
            rw [hPP.out, hPL.out, hE.out, if_pos rfl, if_pos rfl, List.length_map]
            refine ⟨A3, c3, rfl, ?_, ((bel_onto hB3 hbel hB3.size).setCell (Nat.le_refl _) _).setCell (Nat.le_refl _) _⟩
            exact own_base hown5 hB3.size
end Go.Proofs.YtgfoaopfdpclhaaGreatDoor
namespace Go.Proofs.YtgfoaopfdpclhaaGreatDoor
open Go.RowKit
set_option linter.unusedVariables false
set_option maxRecDepth 100000

set_option maxHeartbeats 4000000 in
theorem headRefParse_any (s : ByteArray) (w : World) (hs : s.size ≤ 4294967296) :
    Calls Tryz.prog 28 #[.string s] w fun e w' => ∃ A c, e = .returned (.tuple #[aggP (parseP s.toList), .slice A (parseL s.toList).length c, .int .i64 (parseE s.toList)]) ∧
      w'.ownsRow w.heap.size 62 2 (.slice A (parseL s.toList).length c) (parseL s.toList).length (cellsP (parseL s.toList)) ∧ Below w.heap.size w w' := by
  have hsz := Lib.hid (size_toList s)
  have hsm : s.size ≤ maxLen := by unfold maxLen; omega
  obtain ⟨i0, hi, hz0, hz1, hz2⟩ := info_parts Tryz.infoQ62
  by_cases h1 : 4096 < s.size
  · have hE : parseE s.toList = 3 := by unfold parseE; rw [if_pos (by rw [← hsz.out]; exact h1)]
    have hr := Lib.hid (show parseP s.toList = ([], []) ∧ parseL s.toList = [] ∧ parseE s.toList = 3 by unfold parseP parseL; rw [hE]; exact ⟨rfl, rfl, rfl⟩)
    clear hE
    go_enter Tryz.func28, Tryz.ntmps28
    go_wp2_with fail
    refine bodyPost_ret (v := .tuple #[emptyP, .slice none 0 0, .int .i64 3]) (by simp [results, Tryz.results28, go_sem]; rfl) rfl ?_
    rw [hr.out.1, hr.out.2.1, hr.out.2.2]
    exact ⟨none, 0, rfl, World.ownsRow_nil _ _ _ _, by
      refine bel_alloc (Below.refl _ _) _⟩
  have h1i : (s.size : Int) ≤ 4096 := by omega
  have hne := split_ne s.toList 59
  obtain ⟨p0, ps, hsp⟩ : ∃ p0 ps, splitL s.toList 59 = p0 :: ps := by
    cases h : splitL s.toList 59 with
    | nil => exact absurd h hne
    | cons a b => exact ⟨a, b, rfl⟩
  have hspl := Lib.hid hsp
  have hp0 : p0.length ≤ s.size := by
    have := split_part s.toList 59 p0 (by rw [hsp]; simp)
    rw [hsz.out]; exact this
  have hpsn : ps.length ≤ s.size := by
    have := split_len s.toList 59
    rw [hsp, ← hsz.out] at this
    simpa using this
  have hpl := Lib.hid (pairL_len p0)
  have hps := Lib.hid (fun x (hx : x ∈ ps) => split_part s.toList 59 x (by rw [hsp]; simp [hx]))
  clear hsp hne
  have hPE := Lib.hid (show parseE s.toList = if s.toList.any ctlB || !hasEq p0 || (pairL p0).1.isEmpty then 1 else if 256 < (pairL p0).1.length || 1024 < (pairL p0).2.length then 3 else 0 by
    unfold parseE; rw [if_neg (by rw [← hsz.out]; exact h1), hspl.out]; rfl)
  have hPP := Lib.hid (show parseP s.toList = if parseE s.toList = 0 then ((pairL p0).1, (pairL p0).2) else ([], []) by unfold parseP; rw [hspl.out]; rfl)
  have hPL := Lib.hid (show parseL s.toList = if parseE s.toList = 0 then ps.map pairL else [] by unfold parseL; rw [hspl.out]; rfl)
  by_cases hct : s.toList.any ctlB = true
  · have hE := Lib.hid (show parseE s.toList = 1 by rw [hPE.out, if_pos (by rw [hct]; rfl)])
    go_enter Tryz.func28, Tryz.ntmps28
    go_wp2_with fail
    refine (refControl_any s _ hsm).mono ?_
    rintro e w' ⟨rfl, rfl⟩
    rw [hct]
    go_wp2_with fail
    refine bodyPost_ret (v := .tuple #[emptyP, .slice none 0 0, .int .i64 1]) (by simp [results, Tryz.results28, go_sem]; rfl) rfl ?_
    rw [hPP.out, hPL.out, hE.out]
    exact ⟨none, 0, rfl, World.ownsRow_nil _ _ _ _, bel_alloc (Below.refl _ _) _⟩
  have hct' : s.toList.any ctlB = false := by simpa using hct
  clear hct
  go_enter Tryz.func28, Tryz.ntmps28
  go_wp2_with fail
  refine (refControl_any s _ hsm).mono ?_
  rintro e w' ⟨rfl, rfl⟩
  rw [hct']
  go_wp2_with fail
  refine (refSplit_any s 59 _ hs).mono ?_
  rintro e w1 ⟨A, c, rfl, hown1, hb1⟩
  rw [hspl.out] at hown1 ⊢
  have hR1 := Rd.of_own hown1
  obtain ⟨b, off, rfl, hbl, hc⟩ := hR1.at_ (by simp)
  have hc0 := hc 0 (by simp)
  replace hc0 : w1.cell? ⟨b, off, none⟩ = some (.string (S p0)) := hc0
  clear hc hown1
  have hmp : (S p0).size ≤ maxLen := by rw [S_size]; unfold maxLen; omega
  go_wp2_with fail
  refine (refPair_any _ _ hmp).mono ?_
  rintro e w2 ⟨rfl, hb2⟩
  rw [S_toList]
  unfold aggP strV
  have hB2 := bel_call (bel_call (bel_alloc (Below.refl w.heap.size w) _) (hb1.mono (by simp))) hb2
  have hR2 := hR1.below hb2
  have hK2 := ((Blk.new_ w 62 #[.string (ByteArray.mk #[]), .string (ByteArray.mk #[])]).below hb1).below hb2
  have hc2 := cell_later hb2 hc0
  have hbl2 : b < w2.heap.size := by have := hb2.size; omega
  clear hb1 hb2 hR1 hc0 hspl
  have hfq : (hasEq p0 = true ∧ ∃ n : Nat, findL p0 61 = n) ∨ (hasEq p0 = false ∧ findL p0 61 = -1) := by
    unfold hasEq findL
    cases cutL p0 61 with
    | none => exact Or.inr ⟨rfl, rfl⟩
    | some p => exact Or.inl ⟨rfl, _, rfl⟩
  go_wp2_with fail
  refine (refFind_any _ 61 _ hmp).mono ?_
  rintro e w' ⟨rfl, rfl⟩
  rw [S_toList]
  have hB3 := bel_alloc hB2 (.cells #[.string (S (pairL p0).1), .string (S (pairL p0).2)] 62)
  have hR3 := hR2.alloc (.cells #[.string (S (pairL p0).1), .string (S (pairL p0).2)] 62)
  have hK3 := hK2.alloc (.cells #[.string (S (pairL p0).1), .string (S (pairL p0).2)] 62)
  have hP3 := Blk.new_ w2 62 #[.string (S (pairL p0).1), .string (S (pairL p0).2)]
  clear hB2 hR2 hK2
  generalize (pairL p0).1 = pn at *
  generalize (pairL p0).2 = pv at *
  generalize hasEq p0 = q at *
  generalize w2.alloc (.cells #[.string (S pn), .string (S pv)] 62) = w3 at *
  generalize w2.heap.size = g at *
  have hr0 := hK3.cell 0
  have hr1 := hK3.cell 1
  generalize findL p0 61 = fq at *
  have hf0 := hK3.free 0
  have hf1 := hK3.free 1
  have hp0 := hP3.cell 0
  have hp1 := hP3.cell 1
  simp at hr0 hr1 hp0 hp1
  rw [hct', Bool.false_or] at hPE
  by_cases hbad : (!q || pn.isEmpty) = true
  · have hE := Lib.hid (show parseE s.toList = 1 by rw [hPE.out, if_pos hbad])
    have hcs : (fq = -1) ∨ ((∃ n : Nat, fq = n) ∧ pn.isEmpty = true) := by
      rcases hfq with ⟨h, h'⟩ | ⟨h, h'⟩
      · exact Or.inr ⟨h', by rw [h] at hbad; simpa using hbad⟩
      · exact Or.inl h'
    clear hbad hfq
    rcases hcs with rfl | ⟨⟨n, rfl⟩, hem⟩
    all_goals
      go_wp2_with fail
      refine bodyPost_ret (v := .tuple #[emptyP, .slice none 0 0, .int .i64 1]) (by simp [results, Tryz.results28, go_sem, hr0, hr1]; rfl) rfl ?_
      rw [hPP.out, hPL.out, hE.out]
      exact ⟨none, 0, rfl, World.ownsRow_nil _ _ _ _, (hB3.setCell (Nat.le_refl _) _).setCell (Nat.le_refl _) _⟩
  · have hok : (∃ n : Nat, fq = n) ∧ pn.isEmpty = false := by
      rcases hfq with ⟨h, h'⟩ | ⟨h, h'⟩
      · exact ⟨h', by rw [h] at hbad; simpa using hbad⟩
      · exact absurd (by rw [h]; rfl) hbad
    have hPE2 := Lib.hid (show parseE s.toList = if 256 < pn.length || 1024 < pv.length then 3 else 0 by rw [hPE.out, if_neg hbad])
    clear hbad hPE hfq
    obtain ⟨⟨n, rfl⟩, hem⟩ := hok
    by_cases hlong : (256 < pn.length || 1024 < pv.length) = true
    · have hE := Lib.hid (show parseE s.toList = 3 by rw [hPE2.out, if_pos hlong])
      have hcs : ((256 : Int) < pn.length) ∨ (decide ((256 : Int) < pn.length) = false ∧ (1024 : Int) < pv.length) := by
        by_cases h : 256 < pn.length
        · exact Or.inl (by omega)
        · exact Or.inr ⟨decide_eq_false (by omega), by simp [h] at hlong; omega⟩
      clear hlong hPE2
      rcases hcs with h | ⟨h, h'⟩
      all_goals
        go_wp2_with fail
        refine bodyPost_ret (v := .tuple #[emptyP, .slice none 0 0, .int .i64 3]) (by simp [results, Tryz.results28, go_sem, hr0, hr1]; rfl) rfl ?_
        rw [hPP.out, hPL.out, hE.out]
        exact ⟨none, 0, rfl, World.ownsRow_nil _ _ _ _, (hB3.setCell (Nat.le_refl _) _).setCell (Nat.le_refl _) _⟩
    · have hE := Lib.hid (show parseE s.toList = 0 by rw [hPE2.out, if_neg hlong])
      have hnn : ¬ 256 < pn.length ∧ ¬ 1024 < pv.length := by
        simp only [Bool.or_eq_true, decide_eq_true_eq, not_or] at hlong
        exact hlong
      have hn1 : decide ((256 : Int) < pn.length) = false := decide_eq_false (by omega)
      have hn2 : decide ((1024 : Int) < pv.length) = false := decide_eq_false (by omega)
      clear hnn
      clear hlong hPE2
      have hcap := hR3.cap
      simp only [List.length_cons] at hcap
      obtain ⟨hcap1, hcap2⟩ := hcap
      unfold maxLen at hcap2
      have hcl := Lib.hid (show ∀ k (h : k < ps.length), w3.cell? ⟨b, off + (k + 1), none⟩ = some (.string (S ps[k])) from fun k h => by
        obtain ⟨b', off', he, _, hc'⟩ := hR3.at_ (by simp)
        have e1 : b' = b := by injection he with he; injection he with h1 h2; exact h1.symm
        have e2 : off' = off := by injection he with he; injection he with h1 h2; exact h2.symm
        subst e1 e2
        have := hc' (k + 1) (by simp; omega)
        rw [this]
        simp [strV, h])
      go_wp2_with fail
      go_loopw [7, 8] (fun v i wr => ∃ k : Nat, k ≤ ps.length ∧ i = .int .i64 ((k : Int) + 1) ∧ wr.ownsRow w3.heap.size 62 2 v k (cellsP ((ps.map pairL).take k)) ∧ Below w3.heap.size w3 wr) (fun _ i _ => ps.length + 1 - (intOf i).toNat)
      case atStart => exact ⟨0, Nat.zero_le _, rfl, World.ownsRow_lit w3 #[] 0 (Nat.le_refl _) (by unfold maxLen; omega) rfl, bel_alloc (Below.refl _ _) _⟩
      case round =>
        obtain ⟨k, hk, rfl, hown, hbel⟩ := hrel
        by_cases hlt : k < ps.length
        · have hcell := cell_later hbel (hcl.out k hlt)
          have hki : (k : Int) < ps.length := by omega
          have hki2 : ((k : Int) + 1).toNat = k + 1 := by omega
          have hm : (S ps[k]).size ≤ maxLen := by
            have := hps.out _ (List.getElem_mem hlt)
            rw [← hsz.out] at this
            rw [S_size]; unfold maxLen; omega
          have hsn := Lib.hid (show (ps.map pairL).take (k + 1) = (ps.map pairL).take k ++ [pairL ps[k]] by rw [List.take_succ_eq_append_getElem (by simpa using hlt)]; simp)
          go_wp2_with fail
          refine (refPair_any _ _ hm).mono ?_
          rintro e w4 ⟨rfl, hb4⟩
          rw [S_toList]
          unfold aggP strV
          have hown4 := own_below hown hb4
          have hbel4 := bel_call hbel hb4
          have hsz4 : w3.heap.size ≤ w4.heap.size := hbel4.size
          clear hown hbel hb4 hcell
          go_wp2_with (at_builtin; refine wpList_push rfl _ _ 63 rfl w3.heap.size 62 i0 (.agg #[.string ByteArray.empty, .string ByteArray.empty]) 2 32 Tryz.underlying63 hi hz0 hz1 hz2 rfl (by decide) _ _ _ rfl hown4 _ _ rfl rfl rfl ?c1 ?c2 ?c3 hsz4 hbel4 ?_)
          case c1 => exact ⟨rfl, rfl⟩
          case c2 => unfold maxLen; omega
          case c3 => omega
          intro v' w' hown' hg hbel' hsz'
          go_wp2
          go_roundw
          case rel =>
            refine ⟨k + 1, by omega, by go_num, ?_, hbel'⟩
            rw [hsn.out, cellsP_snoc]
            exact hown'
          case measure => simp [intOf]; omega
        · obtain rfl : k = ps.length := by omega
          have hK4 := hK3.below hbel
          have hP4 := hP3.below hbel
          have qr0 := hK4.cell 0
          have qr1 := hK4.cell 1
          have qf0 := hK4.free 0
          have qf1 := hK4.free 1
          have qp0 := hP4.cell 0
          have qp1 := hP4.cell 1
          simp at qr0 qr1 qp0 qp1
          rw [show (ps.map pairL).take ps.length = ps.map pairL from List.take_of_length_le (by simp)] at hown
          go_wp2_with fail
          obtain ⟨A3, c3, rfl⟩ := own_form hown
          refine bodyPost_ret (v := .tuple #[.agg #[.string (S pn), .string (S pv)], .slice A3 ps.length c3, .int .i64 0]) (by simp [results, Tryz.results28, go_sem, qr0, qr1]) rfl ?_
          have hown5 := ownsRow_setCell_below (ownsRow_setCell_below hown (a := ⟨w.heap.size, 0, none⟩) hK3.lt (.string (S pn))) (a := ⟨w.heap.size, 1, none⟩) hK3.lt (.string (S pv))
          rw [hPP.out, hPL.out, hE.out, if_pos rfl, if_pos rfl, List.length_map]
          refine ⟨A3, c3, rfl, ?_, ((bel_onto hB3 hbel hB3.size).setCell (Nat.le_refl _) _).setCell (Nat.le_refl _) _⟩
          exact own_base hown5 hB3.size
end Go.Proofs.YtgfoaopfdpclhaaGreatDoor
