/-
  The walks of package date: a time's text.
-/
import Derived.Test.YtagiolhciplniaaDoorDate11
import Derived.Test.YtagiolhciplniaaDoorDateCal2
import Derived.Deep.RegionHeld3
namespace Go.Proofs.YtagiolhciplniaaDoor
open Go.RowKit
set_option linter.unusedVariables false

def wkN : List (List UInt8) := [[83, 117, 110], [77, 111, 110], [84, 117, 101], [87, 101, 100], [84, 104, 117], [70, 114, 105], [83, 97, 116]]
def weekI (n : Int) : Int := (n.tmod 7 + 11) % 7
/-- A name with its first letter great. -/
def capL (l : List UInt8) : List UInt8 := (l.getD 0 0 - 32) :: l.drop 1
def textOf (wn mn : List UInt8) (y d R : Int) : List UInt8 :=
  wn ++ [44, 32] ++ twoL d ++ [32] ++ capL mn ++ [32] ++ twoL (y / 100) ++ twoL (y % 100) ++ [32] ++ twoL (R / 3600) ++ [58] ++ twoL (R / 60 % 60) ++ [58] ++ twoL (R % 60) ++ [32, 71, 77, 84]
def timeT (n : Int) : List UInt8 × Int :=
  if n / 86400 < -134774 ∨ 2932896 < n / 86400 then ([], 4)
  else (textOf (wkN.getD (weekI (n / 86400)).toNat []) (monN.getD ((civilT (n / 86400)).2.1 - 1).toNat []) (civilT (n / 86400)).1 (civilT (n / 86400)).2.2.1 (n % 86400), 0)
theorem mon_form (k : Nat) (h : k < 12) : ∃ a b c : UInt8, monN.getD k [] = [a, b, c] ∧ 97 ≤ a.toNat ∧ a.toNat ≤ 122 := by
  match k, h with
  | 0, _ | 1, _ | 2, _ | 3, _ | 4, _ | 5, _ | 6, _ | 7, _ | 8, _ | 9, _ | 10, _ | 11, _ => exact ⟨_, _, _, rfl, by decide, by decide⟩
  | n + 12, h => omega
theorem wk_form (k : Nat) (h : k < 7) : ∃ a b c : UInt8, wkN.getD k [] = [a, b, c] := by
  match k, h with
  | 0, _ | 1, _ | 2, _ | 3, _ | 4, _ | 5, _ | 6, _ => exact ⟨_, _, _, rfl⟩
  | n + 7, h => omega
theorem tdiv_split (n : Int) : (n.tmod 86400 < 0 → n.tdiv 86400 - 1 = n / 86400) ∧ (0 ≤ n.tmod 86400 → n.tdiv 86400 = n / 86400) := by
  by_cases h : 0 ≤ n
  · rw [Int.tmod_eq_emod_of_nonneg h, Int.tdiv_eq_ediv_of_nonneg h]; omega
  · have e1 : n.tdiv 86400 = -((-n) / 86400) := by
      rw [← Int.tdiv_eq_ediv_of_nonneg (by omega : 0 ≤ -n), Int.neg_tdiv, Int.neg_neg]
    have e2 := Int.mul_tdiv_add_tmod n 86400
    rw [e1] at e2 ⊢
    omega

theorem held_call {W w w' : World} {g q : Nat} {v : Value} (hb : Below w.heap.size w w') (h : w.cell? ⟨g, q, none⟩ = some v ∧ g < w.heap.size ∧ Below W.heap.size W w) : w'.cell? ⟨g, q, none⟩ = some v ∧ g < w'.heap.size ∧ Below W.heap.size W w' :=
  ⟨(hb.cell (p := ⟨g, q, none⟩) h.2.1).trans h.1, Nat.lt_of_lt_of_le h.2.1 hb.size, bel_call h.2.2 hb⟩
theorem held_drew {W w : World} {g q : Nat} {v : Value} (h : w.cell? ⟨g, q, none⟩ = some v ∧ g < w.heap.size ∧ Below W.heap.size W w) : w.drew.cell? ⟨g, q, none⟩ = some v ∧ g < w.drew.heap.size ∧ Below W.heap.size W w.drew := ⟨h.1, h.2.1, h.2.2.drew⟩
theorem wk_cell {w : World} {g t : Nat} (h : Blk w g t #[.string ⟨#[83, 117, 110]⟩, .string ⟨#[77, 111, 110]⟩, .string ⟨#[84, 117, 101]⟩, .string ⟨#[87, 101, 100]⟩, .string ⟨#[84, 104, 117]⟩, .string ⟨#[70, 114, 105]⟩, .string ⟨#[83, 97, 116]⟩]) (q : Nat) (hq : q < 7) : w.cell? ⟨g, q, none⟩ = some (.string (S (wkN.getD q []))) := by
  rw [h.cell q]
  match q, hq with
  | 0, _ | 1, _ | 2, _ | 3, _ | 4, _ | 5, _ | 6, _ => rfl
  | n + 7, h => omega
@[simp, go_sem] theorem twoL_len (n : Int) : (twoL n).length = 2 := Eq.trans rfl rfl
theorem cap_byte {a : UInt8} (h1 : 97 ≤ a.toNat) (h2 : a.toNat ≤ 122) : IntKind.u8.wrap (IntKind.u8.wrap ((a.toNat : Int) - 97) + 65) = ((a - 32).toNat : Int) := by
  have e : (a - 32).toNat = a.toNat - 32 := by rw [UInt8.toNat_sub_of_le _ _ (by rw [UInt8.le_iff_toNat_le]; show 32 ≤ a.toNat; omega)]; rfl
  rw [e, IntWalk.u8_in ((a.toNat : Int) - 97) (by omega), IntWalk.u8_in _ (by omega)]
  omega

set_option maxRecDepth 4000 in
set_option maxHeartbeats 4000000 in
theorem textA_any (n : Int) (w : World) (h1 : -9223372036854775808 ≤ n) (h2 : n ≤ 9223372036854775807) (hm : Mon w) :
    Calls Tryd.prog 21 #[.int .i64 n] w fun e w' => e = .returned (.tuple #[.string (S (timeT n).1), .int .i64 (timeT n).2]) ∧ Below w.heap.size w w' := by
  obtain ⟨hs1, hs2⟩ := tdiv_split n
  have hsp : (n.tmod 86400 < 0 ∧ wrap64 (n.tdiv 86400 - 1) = n / 86400) ∨ (0 ≤ n.tmod 86400 ∧ n.tdiv 86400 = n / 86400) := by
    by_cases h : n.tmod 86400 < 0
    · exact .inl ⟨h, by rw [hs1 h]; exact IntWalk.wrap64_in (n / 86400) ⟨by omega, by omega⟩⟩
    · exact .inr ⟨by omega, hs2 (by omega)⟩
  clear hs1 hs2
  have hT0 := Lib.hid (show timeT n = if n / 86400 < -134774 ∨ 2932896 < n / 86400 then ([], 4)
  else (textOf (wkN.getD (weekI (n / 86400)).toNat []) (monN.getD ((civilT (n / 86400)).2.1 - 1).toNat []) (civilT (n / 86400)).1 (civilT (n / 86400)).2.2.1 (n % 86400), 0) from rfl)
  have hD0 := Lib.hid (show n - n / 86400 * 86400 = n % 86400 by omega)
  have hR1 : 0 ≤ n % 86400 := by omega
  have hR2 : n % 86400 < 86400 := by omega
  have hDb : -106751991167301 ≤ n / 86400 ∧ n / 86400 ≤ 106751991167300 := by omega
  obtain ⟨hDb1, hDb2⟩ := hDb
  generalize n % 86400 = R at *
  generalize hDD : n / 86400 = D at *
  have hDH := Lib.hid hDD
  clear hDD
  rcases hsp with ⟨hneg, he⟩ | ⟨hneg, he⟩
  all_goals
    have heH := Lib.hid he
    clear he
    go_enter Tryd.func21, Tryd.ntmps21
    go_wp2_with fail
    rw [heH.out]
    refine (civil_any _ _).mono ?_
    rintro e w' ⟨rfl, rfl⟩
    by_cases hr : D < -134774 ∨ 2932896 < D
    · have hc := Lib.hid (show civilT D = (0, 0, 0, 4) from if_pos hr)
      have hT := Lib.hid (hT0.out.trans (if_pos hr))
      rw [hc.out]
      clear hT0 hr hc
      go_wp2
      go_ret2
      rw [hT.out]
      exact ⟨rfl, Below.refl _ _⟩
    · have hT := Lib.hid (hT0.out.trans (if_neg hr))
      obtain ⟨hc0, hrt, hdd⟩ := days_civil (n := D) (by omega) (by omega)
      obtain ⟨⟨hy1, hy2⟩, ⟨hm1, hm2⟩, hd1, hd2⟩ := rightB_iff.1 hrt
      have hlb := longI_bd (civilT D).1 (civilT D).2.1
      have hd3 : (civilT D).2.2.1 ≤ 31 := by omega
      have hD3 : -134774 ≤ D := by omega
      have hD4 : D ≤ 2932896 := by omega
      clear hrt hdd hlb hd2 hr hT0 hDb1 hDb2
      generalize civilT D = cv at *
      obtain ⟨y, m, d, ee⟩ := cv
      simp only at hc0 hy1 hy2 hm1 hm2 hd1 hd3 hT ⊢
      subst hc0
      obtain ⟨k, hk⟩ : ∃ k : Nat, m = k + 1 := ⟨(m - 1).toNat, by omega⟩
      subst hk
      have hk : k < 12 := by omega
      obtain ⟨a, b, c, hn, ha1, ha2⟩ := mon_form k hk
      have hmc : ∀ w', Below w.heap.size w w' → w'.cell? ⟨0, k, none⟩ = some (.string (S [a, b, c])) := fun w' hb => by
        have := (hm.next hb).2 k (strV (monN.getD k [])) (by
          rw [List.getElem?_map, List.getD_eq_getElem?_getD, List.getElem?_eq_getElem (show k < monN.length from hk)]; rfl)
        rw [Nat.zero_add, hn] at this
        exact this
      rw [show ((k : Int) + 1 - 1).toNat = k by omega, hn] at hT
      clear hn hm
      have hD6 := Lib.hid (show n - D * 86400 = R from hD0.out)
      have hnR : 0 ≤ n - D * 86400 ∧ n - D * 86400 < 86400 := by have := hD0.out; omega
      obtain ⟨hnR1, hnR2⟩ := hnR
      have hc0 : ∀ ob, (w.alloc ob).cell? ⟨0, k, none⟩ = some (.string (S [a, b, c])) := fun ob => hmc _ (bel_alloc (Below.refl _ _) ob)
      go_upto_region 8 with (fail)
      rw [hD6.out]
      clear hnR1 hnR2
      go_upto_region 10 with (fail)
      have hb1 := bel_alloc (Below.refl w.heap.size w) (Obj.cells #[.string ⟨#[83, 117, 110]⟩, .string ⟨#[77, 111, 110]⟩, .string ⟨#[84, 117, 101]⟩, .string ⟨#[87, 101, 100]⟩, .string ⟨#[84, 104, 117]⟩, .string ⟨#[70, 114, 105]⟩, .string ⟨#[83, 97, 116]⟩] 65)
      have hK1 := Blk.new_ w 65 #[.string ⟨#[83, 117, 110]⟩, .string ⟨#[77, 111, 110]⟩, .string ⟨#[84, 117, 101]⟩, .string ⟨#[87, 101, 100]⟩, .string ⟨#[84, 104, 117]⟩, .string ⟨#[70, 114, 105]⟩, .string ⟨#[83, 97, 116]⟩]
      clear hc0 hmc
      generalize w.alloc (Obj.cells #[.string ⟨#[83, 117, 110]⟩, .string ⟨#[77, 111, 110]⟩, .string ⟨#[84, 117, 101]⟩, .string ⟨#[87, 101, 100]⟩, .string ⟨#[84, 104, 117]⟩, .string ⟨#[70, 114, 105]⟩, .string ⟨#[83, 97, 116]⟩] 65) = W1 at *
      have hg0 : ∀ h, (S [a, b, c])[0]'h = a := fun h => S_get0 a [b, c] h
      have hx1 : (S [a, b, c]).extract 1 3 = S [b, c] := extract_S1 a [b, c]
      have hgl := hK1.lt
      go_wp2_with fail
      have hu : IntKind.u8.wrap (IntKind.u8.wrap ((a.toNat : Int) - 97) + 65) = ((a - 32).toNat : Int) := cap_byte ha1 ha2
      have hconv : ∀ w' : World, w'.cell? ⟨W1.heap.size, 0, none⟩ = some (.int .u8 (a - 32).toNat) → (convert 67 9 (.slice (some ⟨W1.heap.size, 0, none⟩) 1 1)).run Tryd.prog w' = .ok (.string (S [a - 32])) w' := fun w' h =>
        run_bytes_S w' 67 9 5 ⟨W1.heap.size, 0, none⟩ 1 1 [a - 32] rfl Tryd.underlying67 Tryd.underlying5 Tryd.underlying9 (fun j hj => by
          have : j = 0 := by simpa using hj
          subst this
          exact h)
      go_region
      replace hT := Lib.hid (show timeT n = (wkN.getD (weekI D).toNat [] ++ [44, 32] ++ twoL d ++ [32] ++ [a - 32, b, c] ++ [32] ++ twoL (y / 100) ++ twoL (y % 100) ++ [32] ++ twoL (R / 3600) ++ [58] ++ twoL (R / 60 % 60) ++ [58] ++ twoL (R % 60) ++ [32, 71, 77, 84], 0) from hT.out)
      have hb2 : Below w.heap.size w (W1.alloc (Obj.cells #[Value.int IntKind.u8 ((a - 32).toNat : Int)] 5)).drew := (bel_alloc hb1 _).drew
      have hK2 : Blk (W1.alloc (Obj.cells #[Value.int IntKind.u8 ((a - 32).toNat : Int)] 5)).drew w.heap.size 65 #[.string ⟨#[83, 117, 110]⟩, .string ⟨#[77, 111, 110]⟩, .string ⟨#[84, 117, 101]⟩, .string ⟨#[87, 101, 100]⟩, .string ⟨#[84, 104, 117]⟩, .string ⟨#[70, 114, 105]⟩, .string ⟨#[83, 97, 116]⟩] := hK1.alloc _
      clear hg0 hx1 hgl hconv hu hb1 hK1 ha1 ha2
      generalize (W1.alloc (Obj.cells #[Value.int IntKind.u8 ((a - 32).toNat : Int)] 5)).drew = W2 at *
      generalize a - 32 = a' at *
      obtain ⟨q, hq, hq7⟩ : ∃ q : Nat, weekI D = q ∧ q < 7 := ⟨(weekI D).toNat, by unfold weekI; omega, by unfold weekI; omega⟩
      rw [hq] at hT
      have hqH := Lib.hid (show (D.tmod 7 + 11) % 7 = (q : Int) from hq)
      clear hq
      have hqi : (q : Int) < 7 := by omega
      obtain ⟨x, y', z, hwn⟩ := wk_form q hq7
      have hS0 : W2.cell? ⟨w.heap.size, q, none⟩ = some (.string (S (wkN.getD q []))) ∧ w.heap.size < W2.heap.size ∧ Below w.heap.size w W2 := ⟨wk_cell hK2 q hq7, hK2.lt, hb2⟩
      rw [show ((q : Int)).toNat = q from rfl] at hT
      rw [hwn] at hS0 hT
      clear hwn
      have e1 : IntKind.i64.wrap (y.tdiv 100) = y / 100 := by rw [Int.tdiv_eq_ediv_of_nonneg (by omega)]; exact IntWalk.i64_in _ (by omega)
      have e2 : y.tmod 100 = y % 100 := Int.tmod_eq_emod_of_nonneg (by omega)
      have e3 : IntKind.i64.wrap (R.tdiv 3600) = R / 3600 := by rw [Int.tdiv_eq_ediv_of_nonneg (by omega)]; exact IntWalk.i64_in _ (by omega)
      have e4 : IntKind.i64.wrap (R.tdiv 60) = R / 60 := by rw [Int.tdiv_eq_ediv_of_nonneg (by omega)]; exact IntWalk.i64_in _ (by omega)
      have e5 : (R / 60).tmod 60 = R / 60 % 60 := Int.tmod_eq_emod_of_nonneg (by omega)
      have e6 : R.tmod 60 = R % 60 := Int.tmod_eq_emod_of_nonneg (by omega)
      go_wp2_with fail
      go_region_held3 (fun w' => w'.cell? ⟨w.heap.size, q, none⟩ = some (.string (S [x, y', z])) ∧ w.heap.size < w'.heap.size ∧ Below w.heap.size w w')
        (first | assumption | exact held_call hb (by assumption) | exact held_drew (by assumption) | exact held_drew (held_call hb (by assumption)) | exact held_call hb (held_drew (by assumption)))
        (first | (go_at_call 18; refine (week_any D _ (by omega) (by omega)).mono ?_; rintro e w0 ⟨rfl, rfl⟩; rw [hqH.out]) | (go_at_call 42; (try simp only [e1, e2, e3, e4, e5, e6]); refine (two_any _ _ (by omega) (by omega)).mono ?_; rintro e w1 ⟨rfl, hb⟩))
      rename_i hfin
      replace hfin : Below w.heap.size w w1 := hfin.2.2
      go_wp2
      go_ret2
      rw [hT.out]
      exact ⟨by simp only [← S_append]; rfl, hfin⟩
end Go.Proofs.YtagiolhciplniaaDoor
