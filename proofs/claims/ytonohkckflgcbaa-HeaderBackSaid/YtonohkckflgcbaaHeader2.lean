/-
  The walk of header.Parse.
-/
import Derived.Test.YtonohkckflgcbaaHeader
namespace Go.Proofs.Ytonohkckflgcbaa
open Go.RowKit
set_option linter.unusedVariables false

/-- Pairs as cells. -/
def cellsP (l : List (List UInt8 × List UInt8)) : List Value := l.flatMap fun p => [strV p.1, strV p.2]
theorem cellsP_len (l : List (List UInt8 × List UInt8)) : (cellsP l).length = l.length * 2 := by
  induction l with
  | nil => rfl
  | cons p r ih =>
    have e : cellsP (p :: r) = strV p.1 :: strV p.2 :: cellsP r := rfl
    rw [e]
    simp only [List.length_cons]
    omega
theorem cellsP_snoc (l : List (List UInt8 × List UInt8)) (p : List UInt8 × List UInt8) : cellsP (l ++ [p]) = cellsP l ++ [strV p.1, strV p.2] := by
  simp [cellsP]
theorem cellsP_at (l : List (List UInt8 × List UInt8)) (k : Nat) (h : k < l.length) : (cellsP l)[k * 2]? = some (strV l[k].1) ∧ (cellsP l)[k * 2 + 1]? = some (strV l[k].2) := by
  induction l generalizing k with
  | nil => simp at h
  | cons p r ih =>
    cases k with
    | zero => exact ⟨rfl, rfl⟩
    | succ k =>
      have := ih k (by simpa using h)
      have e : cellsP (p :: r) = strV p.1 :: strV p.2 :: cellsP r := rfl
      rw [e, show (k + 1) * 2 = k * 2 + 1 + 1 by omega]
      simpa using this
theorem Try.infoP24 : (Try.prog.info? 24).map (fun i => (i.zero, i.size, i.bytes)) = some (some (.agg #[.string ByteArray.empty, .string ByteArray.empty]), 2, 32) := by kernel_rfl
theorem Try.infoQ29 : (Try.prog.info? 29).map (fun i => (i.zero, i.size, i.bytes)) = some (some (.agg #[.string ByteArray.empty, .string ByteArray.empty]), 2, 32) := by kernel_rfl

/-- What a header comes to: the error, and, if there is none, the pair and the attributes. -/
def parseE (s : List UInt8) : Int :=
  let p := pairL ((splitL s 59).headD [])
  if 4096 < s.length then 3 else if s.any ctlB || !hasEq ((splitL s 59).headD []) || p.1.isEmpty then 1 else if 256 < p.1.length || 1024 < p.2.length then 3 else 0
def parseP (s : List UInt8) : List UInt8 × List UInt8 := if parseE s = 0 then pairL ((splitL s 59).headD []) else ([], [])
def parseL (s : List UInt8) : List (List UInt8 × List UInt8) := if parseE s = 0 then (splitL s 59).tail.map pairL else []

def emptyP : Value := .agg #[.string (ByteArray.mk #[]), .string (ByteArray.mk #[])]
theorem aggP_nil : aggP ([], []) = emptyP := rfl


set_option maxHeartbeats 4000000 in
theorem parse_any (s : ByteArray) (w : World) (hs : s.size ≤ 4294967296) :
    Calls Try.prog 12 #[.string s] w fun e w' => ∃ A c, e = .returned (.tuple #[aggP (parseP s.toList), .slice A (parseL s.toList).length c, .int .i64 (parseE s.toList)]) ∧
      w'.ownsRow w.heap.size 24 2 (.slice A (parseL s.toList).length c) (parseL s.toList).length (cellsP (parseL s.toList)) ∧ Below w.heap.size w w' := by
  have hsz := Lib.hid (size_toList s)
  have hsm : s.size ≤ maxLen := by unfold maxLen; omega
  obtain ⟨i0, hi, hz0, hz1, hz2⟩ := info_parts Try.infoP24
  by_cases h1 : 4096 < s.size
  · have hE : parseE s.toList = 3 := by unfold parseE; rw [if_pos (by rw [← hsz.out]; exact h1)]
    have hr := Lib.hid (show parseP s.toList = ([], []) ∧ parseL s.toList = [] ∧ parseE s.toList = 3 by unfold parseP parseL; rw [hE]; exact ⟨rfl, rfl, rfl⟩)
    clear hE
    go_enter Try.func12, Try.ntmps12
    go_wp2_with fail
    refine bodyPost_ret (v := .tuple #[emptyP, .slice none 0 0, .int .i64 3]) (by simp [results, Try.results12, go_sem]; rfl) rfl ?_
    rw [hr.out.1, hr.out.2.1, hr.out.2.2]
    exact ⟨none, 0, rfl, World.ownsRow_nil _ _ _ _, by
      refine bel_alloc (Below.refl _ _) _⟩
  have h1i : (s.size : Int) ≤ 4096 := by omega
  have hne := split_ne s.toList 59
  obtain ⟨p0, ps, hsp⟩ : ∃ p0 ps, splitL s.toList 59 = p0 :: ps := by
    cases h : splitL s.toList 59 with
    | nil => exact absurd h hne
    | cons a b => exact ⟨a, b, rfl⟩
  have hspl := Lib.hid hsp
  have hp0 : p0.length ≤ s.size := by
    have := split_part s.toList 59 p0 (by rw [hsp]; simp)
    rw [hsz.out]; exact this
  have hpsn : ps.length ≤ s.size := by
    have := split_len s.toList 59
    rw [hsp, ← hsz.out] at this
    simpa using this
  have hpl := Lib.hid (pairL_len p0)
  have hps := Lib.hid (fun x (hx : x ∈ ps) => split_part s.toList 59 x (by rw [hsp]; simp [hx]))
  clear hsp hne
  go_enter Try.func12, Try.ntmps12
  go_wp2_with fail
  refine (split_any s 59 _ hs).mono ?_
  rintro e w1 ⟨A, c, rfl, hown1, hb1⟩
  rw [hspl.out] at hown1 ⊢
  have hR1 := Rd.of_own hown1
  obtain ⟨b, off, rfl, hbl, hc⟩ := hR1.at_ (by simp)
  have hc0 := hc 0 (by simp)
  replace hc0 : w1.cell? ⟨b, off, none⟩ = some (.string (S p0)) := hc0
  clear hc hown1
  go_wp2_with fail
  refine (pair_any _ _ (by rw [S_size]; unfold maxLen; omega)).mono ?_
  rintro e w2 ⟨rfl, hb2⟩
  rw [S_toList]
  unfold aggP strV
  have hB2 := bel_call (bel_call (bel_alloc (Below.refl w.heap.size w) _) (hb1.mono (by simp))) hb2
  have hR2 := hR1.below hb2
  have hK2 := ((Blk.new_ w 24 #[.string (ByteArray.mk #[]), .string (ByteArray.mk #[])]).below hb1).below hb2
  clear hb1 hb2 hR1 hc0
  have hPE := Lib.hid (show parseE s.toList = if s.toList.any ctlB || !hasEq p0 || (pairL p0).1.isEmpty then 1 else if 256 < (pairL p0).1.length || 1024 < (pairL p0).2.length then 3 else 0 by
    unfold parseE; rw [if_neg (by rw [← hsz.out]; exact h1), hspl.out]; rfl)
  have hPP := Lib.hid (show parseP s.toList = if parseE s.toList = 0 then ((pairL p0).1, (pairL p0).2) else ([], []) by unfold parseP; rw [hspl.out]; rfl)
  have hPL := Lib.hid (show parseL s.toList = if parseE s.toList = 0 then ps.map pairL else [] by unfold parseL; rw [hspl.out]; rfl)
  clear hspl
  go_wp2_with fail
  refine (control_any s _ hsm).mono ?_
  rintro e w' ⟨rfl, rfl⟩
  have hB3 := bel_alloc hB2 (.cells #[.string (S (pairL p0).1), .string (S (pairL p0).2)] 24)
  have hR3 := hR2.alloc (.cells #[.string (S (pairL p0).1), .string (S (pairL p0).2)] 24)
  have hK3 := hK2.alloc (.cells #[.string (S (pairL p0).1), .string (S (pairL p0).2)] 24)
  have hP3 := Blk.new_ w2 24 #[.string (S (pairL p0).1), .string (S (pairL p0).2)]
  clear hB2 hR2 hK2
  generalize (pairL p0).1 = pn at *
  generalize (pairL p0).2 = pv at *
  generalize hasEq p0 = q at *
  generalize s.toList.any ctlB = ct at *
  generalize w2.alloc (.cells #[.string (S pn), .string (S pv)] 24) = w3 at *
  generalize w2.heap.size = g at *
  have hr0 := hK3.cell 0
  have hr1 := hK3.cell 1
  have hf0 := hK3.free 0
  have hf1 := hK3.free 1
  have hp0 := hP3.cell 0
  have hp1 := hP3.cell 1
  simp at hr0 hr1 hp0 hp1
  by_cases hbad : (ct || !q || pn.isEmpty) = true
  · have hE := Lib.hid (show parseE s.toList = 1 by rw [hPE.out, if_pos hbad])
    have hcs : ct = true ∨ (ct = false ∧ q = false) ∨ (ct = false ∧ q = true ∧ pn.isEmpty = true) := by
      cases ct <;> cases q <;> simp_all
    clear hbad
    rcases hcs with rfl | ⟨rfl, rfl⟩ | ⟨rfl, rfl, hem⟩
    all_goals
      go_wp2_with fail
      refine bodyPost_ret (v := .tuple #[emptyP, .slice none 0 0, .int .i64 1]) (by simp [results, Try.results12, go_sem, hr0, hr1]; rfl) rfl ?_
      rw [hPP.out, hPL.out, hE.out]
      exact ⟨none, 0, rfl, World.ownsRow_nil _ _ _ _, (hB3.setCell (Nat.le_refl _) _).setCell (Nat.le_refl _) _⟩
  · have hok : ct = false ∧ q = true ∧ pn.isEmpty = false := by
      cases ct <;> cases q <;> simp_all
    have hPE2 := Lib.hid (show parseE s.toList = if 256 < pn.length || 1024 < pv.length then 3 else 0 by rw [hPE.out, if_neg hbad])
    clear hbad hPE
    obtain ⟨rfl, rfl, hem⟩ := hok
    by_cases hlong : (256 < pn.length || 1024 < pv.length) = true
    · have hE := Lib.hid (show parseE s.toList = 3 by rw [hPE2.out, if_pos hlong])
      have hcs : ((256 : Int) < pn.length) ∨ (decide ((256 : Int) < pn.length) = false ∧ (1024 : Int) < pv.length) := by
        by_cases h : 256 < pn.length
        · exact Or.inl (by omega)
        · exact Or.inr ⟨decide_eq_false (by omega), by simp [h] at hlong; omega⟩
      clear hlong hPE2
      rcases hcs with h | ⟨h, h'⟩
      all_goals
        go_wp2_with fail
        refine bodyPost_ret (v := .tuple #[emptyP, .slice none 0 0, .int .i64 3]) (by simp [results, Try.results12, go_sem, hr0, hr1]; rfl) rfl ?_
        rw [hPP.out, hPL.out, hE.out]
        exact ⟨none, 0, rfl, World.ownsRow_nil _ _ _ _, (hB3.setCell (Nat.le_refl _) _).setCell (Nat.le_refl _) _⟩
    · have hE := Lib.hid (show parseE s.toList = 0 by rw [hPE2.out, if_neg hlong])
      have hnn : ¬ 256 < pn.length ∧ ¬ 1024 < pv.length := by
        simp only [Bool.or_eq_true, decide_eq_true_eq, not_or] at hlong
        exact hlong
      have hn1 : decide ((256 : Int) < pn.length) = false := decide_eq_false (by omega)
      have hn2 : decide ((1024 : Int) < pv.length) = false := decide_eq_false (by omega)
      clear hnn
      clear hlong hPE2
      have hcap := hR3.cap
      simp only [List.length_cons] at hcap
      obtain ⟨hcap1, hcap2⟩ := hcap
      unfold maxLen at hcap2
      have hcl := Lib.hid (show ∀ k (h : k < ps.length), w3.cell? ⟨b, off + 1 + k, none⟩ = some (.string (S ps[k])) from fun k h => by
        obtain ⟨b', off', he, _, hc'⟩ := hR3.at_ (by simp)
        have e1 : b' = b := by injection he with he; injection he with h1 h2; exact h1.symm
        have e2 : off' = off := by injection he with he; injection he with h1 h2; exact h2.symm
        subst e1 e2
        have := hc' (1 + k) (by simp; omega)
        rw [show off' + 1 + k = off' + (1 + k) by omega, this, show 1 + k = k + 1 by omega]
        simp [strV, h])
      by_cases hc1 : c = 1
      all_goals
        try (subst hc1)
        go_wp2_with fail
        go_loopw [8, 48] (fun v i wr => ∃ k : Nat, k ≤ ps.length ∧ i = .int .i64 k ∧ wr.ownsRow w3.heap.size 24 2 v k (cellsP ((ps.map pairL).take k)) ∧ Below w3.heap.size w3 wr) (fun _ i _ => ps.length - (intOf i).toNat)
        case atStart => exact ⟨0, Nat.zero_le _, rfl, World.ownsRow_nil _ _ _ _, Below.refl _ _⟩
        case round =>
          obtain ⟨k, hk, rfl, hown, hbel⟩ := hrel
          by_cases hlt : k < ps.length
          · first
            | (exfalso; omega)
            | (have hcell := cell_later hbel (hcl.out k hlt)
               have hki : (k : Int) < ps.length := by omega
               have hm : (S ps[k]).size ≤ maxLen := by
                 have := hps.out _ (List.getElem_mem hlt)
                 rw [← hsz.out] at this
                 rw [S_size]; unfold maxLen; omega
               have hsn := Lib.hid (show (ps.map pairL).take (k + 1) = (ps.map pairL).take k ++ [pairL ps[k]] by rw [List.take_succ_eq_append_getElem (by simpa using hlt)]; simp)
               go_wp2_with fail
               refine (pair_any _ _ hm).mono ?_
               rintro e w4 ⟨rfl, hb4⟩
               rw [S_toList]
               unfold aggP strV
               have hown4 := own_below hown hb4
               have hbel4 := bel_call hbel hb4
               clear hown hbel hb4 hcell
               go_wp2_with (at_builtin; refine wpList_push rfl _ _ 25 rfl w3.heap.size 24 i0 (.agg #[.string ByteArray.empty, .string ByteArray.empty]) 2 32 Try.underlying25 hi hz0 hz1 hz2 rfl (by decide) _ _ _ rfl (hown4.alloc _) _ _ rfl ?c5 rfl ?c1 ?c2 ?c3 ?c4 (bel_alloc hbel4 _) ?_)
               case c1 => exact ⟨rfl, rfl⟩
               case c2 => unfold maxLen; omega
               case c3 => omega
               case c4 => have := hbel4.size; simp; omega
               case c5 => simp
               intro v' w' hown' hg hbel' hsz'
               go_wp2
               go_roundw
               case rel =>
                 refine ⟨k + 1, by omega, by go_num, ?_, hbel'⟩
                 rw [hsn.out, cellsP_snoc]
                 exact hown'
               case measure => simp [intOf]; omega)
          · obtain rfl : k = ps.length := by omega
            have hK4 := hK3.below hbel
            have hP4 := hP3.below hbel
            have qr0 := hK4.cell 0
            have qr1 := hK4.cell 1
            have qf0 := hK4.free 0
            have qf1 := hK4.free 1
            have qp0 := hP4.cell 0
            have qp1 := hP4.cell 1
            simp at qr0 qr1 qp0 qp1
            rw [show (ps.map pairL).take ps.length = ps.map pairL from List.take_of_length_le (by simp)] at hown
            go_wp2_with fail
            obtain ⟨A3, c3, rfl⟩ := own_form hown
            refine bodyPost_ret (v := .tuple #[.agg #[.string (S pn), .string (S pv)], .slice A3 ps.length c3, .int .i64 0]) (by simp [results, Try.results12, go_sem, qr0, qr1]) rfl ?_
            have hown5 := ownsRow_setCell_below (ownsRow_setCell_below hown (a := ⟨w.heap.size, 0, none⟩) hK3.lt (.string (S pn))) (a := ⟨w.heap.size, 1, none⟩) hK3.lt (.string (S pv))
            rw [hPP.out, hPL.out, hE.out, if_pos rfl, if_pos rfl, List.length_map]
            refine ⟨A3, c3, rfl, ?_, ((bel_onto hB3 hbel hB3.size).setCell (Nat.le_refl _) _).setCell (Nat.le_refl _) _⟩
            exact own_base hown5 hB3.size
end Go.Proofs.Ytonohkckflgcbaa
