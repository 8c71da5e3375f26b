/-
  The walk of uri.Parse.
-/
import Derived.Test.YtbijphfendaddaaUri2
import Derived.Shelf.Vars
import Derived.HandedShaped
import Derived.Outline
namespace Go.Proofs.Ytbijphfendaddaa
open Go.RowKit
set_option linter.unusedVariables false

/-- The library's own variable holds some number. -/
def Mx (w : World) : Prop := ∃ m, w.cell? ⟨0, 0, none⟩ = some (.int .i64 m)
theorem Mx.next {w w' : World} (h : Mx w) (hb : Below w.heap.size w w') : Mx w' := by
  obtain ⟨m, hm⟩ := h
  exact ⟨m, (hb.cell (p := ⟨_, 0, none⟩) (World.block_lt_of_cell? w _ hm)).trans hm⟩
theorem mx_of_shape {W : World} (h : W.ShapedOpen Try.prog) : Mx W :=
  Go.Proofs.cell_of_shapedOpen_int (zero := #[.int .i64 0]) (t := 3) h (of_decide_eq_true (by kernel_rfl)) (by kernel_rfl) rfl (by kernel_rfl) (by kernel_rfl) Try.underlying3

/-- Where uri.Parse stands: the result's block, the block of none, and what was there before. -/
def UqSt (w W : World) : Prop := Blk W w.heap.size 37 (rqC rq0) ∧ Blk W (w.heap.size + 1) 37 (rqC rq0) ∧ Below w.heap.size w W
theorem UqSt.next {w W W' : World} (h : UqSt w W) (hb : Below W.heap.size W W') : UqSt w W' := ⟨h.1.below hb, h.2.1.below hb, bel_call h.2.2 hb⟩
theorem rq_cells {W : World} {g : Nat} {r : Rq} {t : TypeId} (h : Blk W g t (rqC r)) : W.cell? ⟨g, 0, none⟩ = some (.string (S r.h)) ∧ W.cell? ⟨g, 1, none⟩ = some (.string (S r.p)) ∧ W.cell? ⟨g, 2, none⟩ = some (.bool r.s) ∧ W.cell? ⟨g, 3, none⟩ = some (.bool r.c) ∧ (∀ i, W.frozen? ⟨g, i, none⟩ = false) :=
  ⟨h.cell 0, h.cell 1, h.cell 2, h.cell 3, h.free⟩


theorem cutw_yes (l : List UInt8) (w : World) (hl : l.length ≤ 4294967280) (hm : Mx w) (h : 0 ≤ wordI l) :
    Calls Try.prog 42 #[.string (S l), .string ⟨#[58, 47, 47]⟩] w fun e w' => e = .returned (.tuple #[.string (S (l.take (wordI l).toNat)), .string (S (restU l)), .bool true]) ∧ Below w.heap.size w w' := by
  obtain ⟨m, hm⟩ := hm
  refine (Try.strings_Cut (S l) (S [58, 47, 47]) m w (by rw [S_size]; omega) hm).mono ?_
  rintro e w' ⟨he, n, rfl⟩
  have hc : Lib.cut (S l).data.toList (S [58, 47, 47]).data.toList = (l.take (wordI l).toNat, restU l, true) := if_pos h
  rw [hc] at he
  exact ⟨he, below_drews (Below.refl _ _) _⟩
theorem cutw_no (l : List UInt8) (w : World) (hl : l.length ≤ 4294967280) (hm : Mx w) (h : ¬ 0 ≤ wordI l) :
    Calls Try.prog 42 #[.string (S l), .string ⟨#[58, 47, 47]⟩] w fun e w' => e = .returned (.tuple #[.string (S l), .string (S []), .bool false]) ∧ Below w.heap.size w w' := by
  obtain ⟨m, hm⟩ := hm
  refine (Try.strings_Cut (S l) (S [58, 47, 47]) m w (by rw [S_size]; omega) hm).mono ?_
  rintro e w' ⟨he, n, rfl⟩
  have hc : Lib.cut (S l).data.toList (S [58, 47, 47]).data.toList = (l, [], false) := if_neg h
  rw [hc] at he
  exact ⟨he, below_drews (Below.refl _ _) _⟩

def hostU (x : List UInt8) : List UInt8 := x.take (nameK x)
def tailU (x : List UInt8) : List UInt8 := x.drop (nameK x)
def cutU (x : List UInt8) : List UInt8 := x.take (findAny x [63, 35])
def leftU (x : List UInt8) : List UInt8 := x.drop (findAny x [63, 35])
theorem where_any (r : List UInt8) (w : World) (hl : r.length ≤ 4294967280) (ha : ∀ b ∈ r, b.toNat < 128) :
    Calls Try.prog 45 #[.string (S r), .string ⟨#[47, 63, 35]⟩] w fun e w' => e = .returned (.tuple #[.string (S (whereU r)), .string (S (behindU r))]) ∧ Below w.heap.size w w' :=
  usplit_any r [47, 63, 35] w hl ha (by decide) (by decide)
theorem cutq_any (r : List UInt8) (w : World) (hl : r.length ≤ 4294967280) (ha : ∀ b ∈ r, b.toNat < 128) :
    Calls Try.prog 45 #[.string (S r), .string ⟨#[63, 35]⟩] w fun e w' => e = .returned (.tuple #[.string (S (cutU r)), .string (S (leftU r))]) ∧ Below w.heap.size w w' :=
  usplit_any r [63, 35] w hl ha (by decide) (by decide)
theorem nm_any (r : List UInt8) (w : World) (hl : r.length ≤ 4294967280) (ha : ∀ b ∈ r, b.toNat < 128) :
    Calls Try.prog 46 #[.string (S r)] w fun e w' => e = .returned (.tuple #[.string (S (hostU r)), .string (S (tailU r))]) ∧ Below w.heap.size w w' := uname_any r w hl ha
theorem pathU_eq (r : List UInt8) : pathU r = if Lib.hasPrefix (cutU r) [47] then cutU r else 47 :: cutU r := rfl

set_option maxHeartbeats 4000000 in
theorem uparse_any (l : List UInt8) (w : World) (hl : l.length ≤ 4294967280) (hm : Mx w) :
    Calls Try.prog 21 #[.string (S l)] w fun e w' => e = .returned (.tuple #[rqV (parseU l).1, .int .i64 (parseU l).2]) ∧ Below w.heap.size w w' := by
  have hB0 := bel_alloc (bel_alloc (Below.refl w.heap.size w) (.cells (rqC rq0) 37)) (.cells (rqC rq0) 37)
  by_cases h1 : 1024 < l.length
  · have hT := Lib.hid (show parseU l = (rq0, 3) by unfold parseU; rw [if_pos h1])
    have h1i : (1024 : Int) < l.length := by omega
    clear h1
    go_enter Try.func21, Try.ntmps21
    go_wp2_with fail
    refine bodyPost_ret (v := .tuple #[rqV rq0, .int .i64 3]) (by simp [results, Try.results21, go_sem]; rfl) rfl ?_
    rw [hT.out]
    exact ⟨rfl, hB0⟩
  have hS0 : UqSt w ((w.alloc (.cells (rqC rq0) 37)).alloc (.cells (rqC rq0) 37)) := by
    refine ⟨(Blk.new_ w _ _).alloc _, ?_, hB0⟩
    have := Blk.new_ (w.alloc (.cells (rqC rq0) 37)) 37 (rqC rq0)
    simpa using this
  have h1i : decide ((1024 : Int) < l.length) = false := decide_eq_false (by omega)
  have hT1 := Lib.hid (show parseU l = _ from if_neg h1)
  have hm0 : Mx ((w.alloc (.cells (rqC rq0) 37)).alloc (.cells (rqC rq0) 37)) := hm.next hB0
  clear h1 hB0
  by_cases hw : 0 ≤ wordI l
  case neg =>
    have hT := Lib.hid (show parseU l = (rq0, 1) by rw [hT1.out, if_pos (.inr (by omega))])
    clear hT1
    have hwH := Lib.hid hw
    clear hw
    go_enter Try.func21, Try.ntmps21
    go_wp2_with fail
    refine (cutw_no l _ hl (by exact hm0) (by have := hwH.out; omega)).mono ?_
    rintro e w1 ⟨rfl, hb1⟩
    have hS1 := hS0.next hb1
    clear hS0 hm0 hb1 hm
    go_wp2_with fail
    refine (visible_any l _ (by unfold maxLen; omega)).mono ?_
    rintro e w' ⟨rfl, rfl⟩
    obtain ⟨hR, hN, hbel⟩ := hS1
    obtain ⟨r0, r1, r2, r3, rf⟩ := rq_cells hR
    obtain ⟨n0, n1, n2, n3, nf⟩ := rq_cells hN
    generalize visB l = v at *
    cases v
    all_goals
      go_wp2_with fail
      refine bodyPost_ret (v := .tuple #[rqV rq0, .int .i64 1]) (by simp [results, Try.results21, go_sem, r0, r1, r2, r3]; rfl) rfl ?_
      rw [hT.out]
      refine ⟨rfl, ?_⟩
      exact (((hbel.setCell (Nat.le_refl _) _).setCell (Nat.le_refl _) _).setCell (Nat.le_refl _) _).setCell (Nat.le_refl _) _

  have hwi : ¬ wordI l < 0 := by omega
  have hwH := Lib.hid hw
  cases hv : visB l
  case false =>
    have hT := Lib.hid (show parseU l = (rq0, 1) by rw [hT1.out, if_pos (.inl hv)])
    have hvH := Lib.hid hv
    clear hT1 hv hw hwi
    go_enter Try.func21, Try.ntmps21
    go_wp2_with fail
    refine (cutw_yes l _ hl (by exact hm0) hwH.out).mono ?_
    rintro e w1 ⟨rfl, hb1⟩
    have hS1 := hS0.next hb1
    clear hS0 hm0 hb1 hm
    go_wp2_with fail
    refine (visible_any l _ (by unfold maxLen; omega)).mono ?_
    rintro e w' ⟨rfl, rfl⟩
    rw [hvH.out]
    obtain ⟨hR, hN, hbel⟩ := hS1
    obtain ⟨r0, r1, r2, r3, rf⟩ := rq_cells hR
    obtain ⟨n0, n1, n2, n3, nf⟩ := rq_cells hN
    go_wp2_with fail
    refine bodyPost_ret (v := .tuple #[rqV rq0, .int .i64 1]) (by simp [results, Try.results21, go_sem, r0, r1, r2, r3]; rfl) rfl ?_
    rw [hT.out]
    refine ⟨rfl, ?_⟩
    exact (((hbel.setCell (Nat.le_refl _) _).setCell (Nat.le_refl _) _).setCell (Nat.le_refl _) _).setCell (Nat.le_refl _) _
  have hT2 := Lib.hid (hT1.out.trans (if_neg (by rw [hv]; simp; omega)))
  have hvH := Lib.hid hv
  have hascL := vis_ascii hv
  have hr1 : (restU l).length ≤ l.length := by unfold restU; rw [List.length_drop]; omega
  have har : ∀ b ∈ restU l, b.toNat < 128 := fun b hb => hascL b (List.mem_of_mem_drop hb)
  have hwl : (l.take (wordI l).toNat).length ≤ 4294967280 := by rw [List.length_take]; omega
  clear hT1 hascL
  cases hsc : (schT (l.take (wordI l).toNat)).2
  case false =>
    have hT := Lib.hid (show parseU l = (rq0, 15) by rw [hT2.out, if_pos hsc])
    have hscH := Lib.hid hsc
    clear hT2 hsc hv hw hwi
    go_enter Try.func21, Try.ntmps21
    go_wp2_with fail
    refine (cutw_yes l _ hl (by exact hm0) hwH.out).mono ?_
    rintro e w1 ⟨rfl, hb1⟩
    have hS1 := hS0.next hb1
    clear hS0 hm0 hb1 hm
    go_wp2_with fail
    refine (visible_any l _ (by unfold maxLen; omega)).mono ?_
    rintro e w' ⟨rfl, rfl⟩
    rw [hvH.out]
    go_wp2_with fail
    refine (scheme_any _ _ hwl).mono ?_
    rintro e w2 ⟨rfl, hb2⟩
    rw [hscH.out]
    replace hS1 := hS1.next hb2
    clear hb2
    obtain ⟨hR, hN, hbel⟩ := hS1
    obtain ⟨r0, r1, r2, r3, rf⟩ := rq_cells hR
    obtain ⟨n0, n1, n2, n3, nf⟩ := rq_cells hN
    go_wp2_with fail
    refine bodyPost_ret (v := .tuple #[rqV rq0, .int .i64 15]) (by simp [results, Try.results21, go_sem, r0, r1, r2, r3]; rfl) rfl ?_
    rw [hT.out]
    refine ⟨rfl, ?_⟩
    exact (((hbel.setCell (Nat.le_refl _) _).setCell (Nat.le_refl _) _).setCell (Nat.le_refl _) _).setCell (Nat.le_refl _) _
  have hT3 := Lib.hid (show parseU l = if canonB (lowerL (hostU (whereU (restU l)))) = false ∨ portB (tailU (whereU (restU l))) = false then (rq0, 1) else (⟨lowerL (hostU (whereU (restU l))), pathU (behindU (restU l)), (schT (l.take (wordI l).toNat)).1, false⟩, 0) from hT2.out.trans (if_neg (by rw [hsc]; simp)))
  have hscH := Lib.hid hsc
  have hl1 : (whereU (restU l)).length ≤ 4294967280 := by unfold whereU; rw [List.length_take]; omega
  have hl2 : (behindU (restU l)).length ≤ 4294967280 := by unfold behindU; rw [List.length_drop]; omega
  have ha1 : ∀ b ∈ whereU (restU l), b.toNat < 128 := fun b hb => har b (List.mem_of_mem_take hb)
  have ha2 : ∀ b ∈ behindU (restU l), b.toNat < 128 := fun b hb => har b (List.mem_of_mem_drop hb)
  clear hT2 hsc hv hw hwi
  generalize hrr : restU l = r at *
  have hrH := Lib.hid hrr
  have hwr : ∀ w, _ := fun w => where_any r w (by omega) har
  clear hrr
  generalize whereU r = x at *
  generalize behindU r = y at *
  have hl3 : (hostU x).length ≤ 4294967280 := by unfold hostU; rw [List.length_take]; omega
  have hl4 : (tailU x).length ≤ 4294967280 := by unfold tailU; rw [List.length_drop]; omega
  have hl5 : (cutU y).length ≤ 4294967280 := by unfold cutU; rw [List.length_take]; omega
  have hzh : (S (hostU x)).size ≤ 4294967296 := by rw [S_size]; omega
  have hzc : (S (cutU y)).size ≤ maxLen := by rw [S_size]; unfold maxLen; omega
  have hz1 : (ByteArray.mk #[47]).size ≤ maxLen := by decide
  go_enter Try.func21, Try.ntmps21
  go_wp2_with fail
  refine (cutw_yes l _ hl (by exact hm0) hwH.out).mono ?_
  rintro e w1 ⟨rfl, hb1⟩
  rw [hrH.out]
  have hS1 := hS0.next hb1
  clear hS0 hm0 hb1 hm
  go_wp2_with fail
  refine (visible_any l _ (by unfold maxLen; omega)).mono ?_
  rintro e w' ⟨rfl, rfl⟩
  rw [hvH.out]
  go_wp2_with fail
  refine (scheme_any _ _ hwl).mono ?_
  rintro e w2 ⟨rfl, hb2⟩
  rw [hscH.out]
  have hS2 := hS1.next hb2
  clear hb2 hS1
  generalize (schT (l.take (wordI l).toNat)).1 = sec at *
  go_wp2_with fail
  refine (hwr _).mono ?_
  rintro e w3 ⟨rfl, hb3⟩
  have hS3 := hS2.next hb3
  clear hb3 hS2 hwr
  go_wp2_with fail
  refine (nm_any x _ hl1 ha1).mono ?_
  rintro e w4 ⟨rfl, hb4⟩
  have hS4 := hS3.next hb4
  clear hb4 hS3
  generalize hostU x = h at *
  generalize tailU x = t at *
  go_wp2_with fail
  refine (canon_any (S h) _ hzh).mono ?_
  rintro e w5 ⟨rfl, hb5⟩
  rw [S_toList]
  have hS5 := hS4.next hb5
  clear hb5 hS4
  have hCe := Lib.hid (canon_eq (l := h))
  cases hcb : canonB (lowerL h)
  · have hT := Lib.hid (show parseU l = (rq0, 1) by rw [hT3.out, if_pos (.inl hcb)])
    obtain ⟨E, hE, hE1⟩ : ∃ E : Int, canonT h = ([], E) ∧ E ≠ 0 := ⟨_, by rw [hCe.out, hcb]; rfl, by split <;> decide⟩
    have hEH := Lib.hid hE
    have hne : (E != 0) = true := by rw [bne_iff_ne]; exact hE1
    clear hT3 hcb hCe hE hE1
    rw [hEH.out]
    obtain ⟨hR, hN, hbel⟩ := hS5
    obtain ⟨r0, r1, r2, r3, rf⟩ := rq_cells hR
    obtain ⟨n0, n1, n2, n3, nf⟩ := rq_cells hN
    go_wp2_with fail
    refine bodyPost_ret (v := .tuple #[rqV rq0, .int .i64 1]) (by simp [results, Try.results21, go_sem, r0, r1, r2, r3]; rfl) rfl ?_
    rw [hT.out]
    refine ⟨rfl, ?_⟩
    exact (((hbel.setCell (Nat.le_refl _) _).setCell (Nat.le_refl _) _).setCell (Nat.le_refl _) _).setCell (Nat.le_refl _) _
  have hEH := Lib.hid (show canonT h = (lowerL h, 0) by rw [hCe.out, hcb]; rfl)
  clear hCe
  rw [hEH.out]
  go_wp2_with fail
  refine (ported_any t _ hl4).mono ?_
  rintro e w6 ⟨rfl, hb6⟩
  have hS6 := hS5.next hb6
  clear hb6 hS5
  cases hpb : portB t
  · have hT := Lib.hid (show parseU l = (rq0, 1) by rw [hT3.out, if_pos (.inr hpb)])
    clear hT3 hcb hpb
    obtain ⟨hR, hN, hbel⟩ := hS6
    obtain ⟨r0, r1, r2, r3, rf⟩ := rq_cells hR
    obtain ⟨n0, n1, n2, n3, nf⟩ := rq_cells hN
    go_wp2_with fail
    refine bodyPost_ret (v := .tuple #[rqV rq0, .int .i64 1]) (by simp [results, Try.results21, go_sem, r0, r1, r2, r3]; rfl) rfl ?_
    rw [hT.out]
    refine ⟨rfl, ?_⟩
    exact (((hbel.setCell (Nat.le_refl _) _).setCell (Nat.le_refl _) _).setCell (Nat.le_refl _) _).setCell (Nat.le_refl _) _
  have hT := Lib.hid (show parseU l = (⟨lowerL h, pathU y, sec, false⟩, 0) by rw [hT3.out, if_neg (by rw [hcb, hpb]; simp)])
  clear hT3 hcb hpb
  generalize lowerL h = hh at *
  go_wp2_with fail
  refine (cutq_any y _ hl2 ha2).mono ?_
  rintro e w7 ⟨rfl, hb7⟩
  have hS7 := hS6.next hb7
  clear hb7 hS6
  have hPE := Lib.hid (pathU_eq y)
  generalize cutU y = q at *
  go_wp2_with fail
  refine (hasPrefix_any (S q) _ _ hzc hz1).mono ?_
  rintro e w' ⟨rfl, rfl⟩
  rw [S_toList, show (ByteArray.mk #[47]).toList = [47] from S_toList [47]]
  obtain ⟨hR, hN, hbel⟩ := hS7
  obtain ⟨r0, r1, r2, r3, rf⟩ := rq_cells hR
  obtain ⟨n0, n1, n2, n3, nf⟩ := rq_cells hN
  cases hp : Lib.hasPrefix q [47]
  · have hP := Lib.hid (show pathU y = 47 :: q by rw [hPE.out, hp]; rfl)
    clear hPE hp
    go_wp2_with fail
    refine bodyPost_ret (v := .tuple #[rqV ⟨hh, 47 :: q, sec, false⟩, .int .i64 0]) (by simp [results, Try.results21, go_sem, r0, r1, r2, r3]; rfl) rfl ?_
    rw [hT.out, hP.out]
    refine ⟨rfl, ?_⟩
    exact (((hbel.setCell (Nat.le_refl _) _).setCell (Nat.le_refl _) _).setCell (Nat.le_refl _) _).setCell (Nat.le_refl _) _
  · have hP := Lib.hid (show pathU y = q by rw [hPE.out, hp]; rfl)
    clear hPE hp
    go_wp2_with fail
    refine bodyPost_ret (v := .tuple #[rqV ⟨hh, q, sec, false⟩, .int .i64 0]) (by simp [results, Try.results21, go_sem, r0, r1, r2, r3]; rfl) rfl ?_
    rw [hT.out, hP.out]
    refine ⟨rfl, ?_⟩
    exact (((hbel.setCell (Nat.le_refl _) _).setCell (Nat.le_refl _) _).setCell (Nat.le_refl _) _).setCell (Nat.le_refl _) _
end Go.Proofs.Ytbijphfendaddaa
