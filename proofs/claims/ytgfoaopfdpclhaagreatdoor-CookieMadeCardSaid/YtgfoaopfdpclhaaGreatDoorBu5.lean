/-
  Joined texts: Date7 Date8 Date9 Date10.
-/
import Derived.Test.YtgfoaopfdpclhaaGreatDoorBu4
import Derived.Deep.MidRow
namespace Go.Proofs.YtgfoaopfdpclhaaGreatDoor
open Go.RowKit
set_option linter.unusedVariables false
set_option maxRecDepth 100000

def colB (r : List UInt8) : Bool := !r.isEmpty && r.getD 0 0 == 58
/-- A clock's fields that are left: how many, in which text, what they made, and whether that is right. -/
def clkGo : Nat → List UInt8 → Int → Bool → Option (Int × Bool)
  | 0, _, o, rt => some (o, rt)
  | r + 1, l, o, rt =>
    if (fieldT l 1 2).2.2 then
      if decide (r = 0) || colB (fieldT l 1 2).2.1 then clkGo r ((fieldT l 1 2).2.1.drop 1) (o * 60 + (fieldT l 1 2).1) (rt && decide ((fieldT l 1 2).1 < 60) && (decide (r < 2) || decide ((fieldT l 1 2).1 < 24)))
      else none
    else none
def clockT (l : List UInt8) : Option (Int × Bool) := clkGo 3 l 0 true
theorem field_eq {l : List UInt8} {a b : Int} (h : (fieldT l a b).2.2 = true) : a ≤ digN l ∧ (digN l : Int) ≤ b ∧ (fieldT l a b).1 = numV (l.take (digN l)) ∧ (fieldT l a b).2.1 = l.drop (digN l) := by
  unfold fieldT at h ⊢
  split at h
  · cases h
  · rename_i hn
    rw [if_neg hn]
    exact ⟨by omega, by omega, rfl, rfl⟩
theorem valTo_pow (l : List UInt8) (k : Nat) (h : ∀ j, j < k → digitB (l.getD j 0) = true) : 0 ≤ valTo l k ∧ valTo l k < 10 ^ k := by
  induction k with
  | zero => simp [valTo]
  | succ k ih =>
    have ih := ih fun j hj => h j (by omega)
    have hd := h k (by omega)
    unfold digitB at hd
    simp only [decide_eq_true_eq] at hd
    unfold valTo
    rw [Int.pow_succ]
    generalize (10 : Int) ^ k = p at *
    omega
theorem numV_pow (l : List UInt8) (h : 1 ≤ digN l) : 0 ≤ numV (l.take (digN l)) ∧ numV (l.take (digN l)) < 10 ^ (digN l) := by
  have hle := digN_le l
  have hlen : (l.take (digN l)).length = digN l := by rw [List.length_take]; omega
  have hd : digN (l.take (digN l)) = (l.take (digN l)).length := by
    rw [hlen]
    refine digN_end _ _ (fun j hj => ?_) (.inl hlen.symm)
    rw [List.getD_eq_getElem?_getD, List.getElem?_take_of_lt hj, ← List.getD_eq_getElem?_getD]
    exact digN_all l j hj
  have hne : l.take (digN l) ≠ [] := fun e => by rw [e] at hlen; simp at hlen; omega
  rw [numV_digits hne hd, hlen]
  exact valTo_pow _ _ fun j hj => by
    rw [List.getD_eq_getElem?_getD, List.getElem?_take_of_lt hj, ← List.getD_eq_getElem?_getD]
    exact digN_all l j hj
theorem field_bd {l : List UInt8} (h : (fieldT l 1 2).2.2 = true) : 0 ≤ (fieldT l 1 2).1 ∧ (fieldT l 1 2).1 ≤ 99 := by
  obtain ⟨h1, h2, h3, _⟩ := field_eq h
  have := numV_pow l (by omega)
  rw [h3]
  have hc : digN l = 1 ∨ digN l = 2 := by omega
  rcases hc with e | e
  · rw [e] at this ⊢; omega
  · rw [e] at this ⊢; omega
theorem field_bd4 {l : List UInt8} (h : (fieldT l 2 4).2.2 = true) : 0 ≤ (fieldT l 2 4).1 ∧ (fieldT l 2 4).1 ≤ 9999 := by
  obtain ⟨h1, h2, h3, _⟩ := field_eq h
  have := numV_pow l (by omega)
  rw [h3]
  have hc : digN l = 2 ∨ digN l = 3 ∨ digN l = 4 := by omega
  rcases hc with e | e | e
  · rw [e] at this ⊢; omega
  · rw [e] at this ⊢; omega
  · rw [e] at this ⊢; omega
theorem field_len {l : List UInt8} {a b : Int} : (fieldT l a b).2.1.length ≤ l.length := by
  unfold fieldT
  split
  · exact Nat.le_refl _
  · simp
theorem clk_no {r : Nat} {l : List UInt8} {o : Int} {rt : Bool} (h : (fieldT l 1 2).2.2 = false) : clkGo (r + 1) l o rt = none := by
  rw [clkGo, if_neg (by rw [h]; decide)]
theorem clk_col {r : Nat} {l : List UInt8} {o : Int} {rt : Bool} (hr : r ≠ 0) (h : colB (fieldT l 1 2).2.1 = false) : clkGo (r + 1) l o rt = none := by
  rw [clkGo]
  split
  · rw [if_neg (by rw [h]; simp [hr])]
  · rfl
theorem clk_go {r : Nat} {l : List UInt8} {o : Int} {rt : Bool} (h : (fieldT l 1 2).2.2 = true) (hr : r = 0 ∨ colB (fieldT l 1 2).2.1 = true) : clkGo (r + 1) l o rt = clkGo r ((fieldT l 1 2).2.1.drop 1) (o * 60 + (fieldT l 1 2).1) (rt && decide ((fieldT l 1 2).1 < 60) && (decide (r < 2) || decide ((fieldT l 1 2).1 < 24))) := by
  rw [clkGo, if_pos h, if_pos (by rcases hr with h | h <;> simp [h])]
end Go.Proofs.YtgfoaopfdpclhaaGreatDoor
namespace Go.Proofs.YtgfoaopfdpclhaaGreatDoor
open Go.RowKit
set_option linter.unusedVariables false
set_option maxRecDepth 100000

theorem S_get0 (c : UInt8) (R : List UInt8) (h : 0 < (S (c :: R)).size) : (S (c :: R))[0] = c := by rw [get_l _ _ h, S_toList]; rfl
def clkR (l : List UInt8) : Int × Bool := (clockT l).getD (0, false)
theorem clkR_none {l : List UInt8} (h : clockT l = none) : clkR l = (0, false) ∧ (clockT l).isSome = false := by unfold clkR; rw [h]; exact ⟨rfl, rfl⟩
theorem clkR_some {l : List UInt8} {o : Int} {rt : Bool} (h : clockT l = some (o, rt)) : clkR l = (o, rt) ∧ (clockT l).isSome = true := by unfold clkR; rw [h]; exact ⟨rfl, rfl⟩
theorem colB_cons (c : UInt8) (R : List UInt8) : colB (c :: R) = (c == 58) := by unfold colB; simp
theorem extract_S1 (c : UInt8) (R : List UInt8) : (S (c :: R)).extract 1 (R.length + 1) = S R := by
  have h : (S (c :: R)).size = R.length + 1 := by rw [S_size, List.length_cons]
  rw [← h, extract_from, S_toList]; rfl

set_option maxHeartbeats 4000000 in
theorem clock_any (s : ByteArray) (w : World) (hs : s.size ≤ 4294967296) :
    Calls Tryz.prog 130 #[.string s] w fun e w' => e = .returned (.tuple #[.int .i64 (clkR s.toList).1, .bool (clkR s.toList).2, .bool (clockT s.toList).isSome]) ∧ Below w.heap.size w w' := by
  rw [← S_of s]
  have hl0 : s.toList.length ≤ 4294967296 := by rw [← size_toList]; exact hs
  rw [S_toList]
  generalize s.toList = l0 at *
  clear hs
  go_enter Tryz.func130, Tryz.ntmps130
  go_wp2
  go_loopw [0, 5, 6, 11] (fun vs vo vr vk wr => ∃ (r : Nat) (l : List UInt8) (o : Int) (rt : Bool), vs = .string (S l) ∧ vo = .int .i64 o ∧ vr = .bool rt ∧ vk = .int .i64 (3 - (r : Int)) ∧ l.length ≤ 4294967296 ∧ 0 ≤ o ∧ ((r = 3 ∧ o = 0 ∧ rt = true) ∨ (r = 2 ∧ o ≤ 99) ∨ (r = 1 ∧ o ≤ 6039) ∨ (r = 0 ∧ o ≤ 362439)) ∧ Below w.heap.size w wr ∧ Hid (clockT l0 = clkGo r l o rt)) (fun _ _ _ k _ => (3 - intOf k).toNat)
  case atStart => exact ⟨3, l0, 0, true, rfl, rfl, rfl, rfl, hl0, Int.le_refl _, .inl ⟨rfl, rfl, rfl⟩, Below.refl _ _, rfl⟩
  case round =>
    obtain ⟨r, l, o, rt, rfl, rfl, rfl, rfl, hll, ho, hr, hbel, hch⟩ := hrel
    clear hl0
    have hz : (S l).size ≤ maxLen := by rw [S_size]; unfold maxLen; omega
    rcases hr with ⟨rfl, rfl, rfl⟩ | ⟨rfl, hob⟩ | ⟨rfl, hob⟩ | ⟨rfl, hob⟩
    · go_wp2_with fail
      refine (field_any (S l) 1 2 _ hz).mono ?_
      rintro e w1 ⟨rfl, hb1⟩
      rw [S_toList]
      have hbel1 := bel_call hbel hb1
      have hfl := field_len (l := l) (a := 1) (b := 2)
      have hfb := field_bd (l := l)
      have h1 := Lib.hid (clk_no (r := 2) (l := l) (o := 0) (rt := true))
      have h2 := Lib.hid (clk_col (r := 2) (l := l) (o := 0) (rt := true))
      have h3 := Lib.hid (clk_go (r := 2) (l := l) (o := 0) (rt := true))
      generalize fieldT l 1 2 = F at *
      obtain ⟨n, R, ok⟩ := F
      simp only at hfl hfb h1 h2 h3 ⊢
      clear hb1 hbel hz
      cases ok with
      | false =>
        have hno := clkR_none (hch.out.trans (h1.out rfl))
        have hn1 := Lib.hid hno.1
        have hn2 := Lib.hid hno.2
        clear hno hch
        go_wp2
        rw [hn1.out, hn2.out]
        go_ret3
        exact ⟨rfl, hbel1⟩
      | true =>
        obtain ⟨hn0, hn9⟩ := hfb rfl
        cases R with
        | nil =>
          have hcb : colB [] = false := rfl
          have hno := clkR_none (hch.out.trans (h2.out (by decide) rfl))
          have hn1 := Lib.hid hno.1
          have hn2 := Lib.hid hno.2
          clear hno hch
          go_wp2
          rw [hn1.out, hn2.out]
          go_ret3
          exact ⟨rfl, hbel1⟩
        | cons c R =>
          cases h58 : (c == 58) with
          | false =>
            have hcb : colB (c :: R) = false := by rw [colB_cons]; exact h58
            have hne : ((c.toNat : Int) != 58) = true := by rw [nec (i := 58) 58 rfl, h58]; rfl
            have hg0 := S_get0 c R
            have hno := clkR_none (hch.out.trans (h2.out (by decide) hcb))
            have hn1 := Lib.hid hno.1
            have hn2 := Lib.hid hno.2
            clear hno hch
            go_wp2
            rw [hn1.out, hn2.out]
            go_ret3
            exact ⟨rfl, hbel1⟩
          | true =>
            have hcb : colB (c :: R) = true := by rw [colB_cons]; exact h58
            have hne : ((c.toNat : Int) != 58) = false := by rw [nec (i := 58) 58 rfl, h58]; rfl
            have hg0 := S_get0 c R
            by_cases g60 : n < 60
            · by_cases g24 : n < 24
              · have hgo := Lib.hid (hch.out.trans (h3.out rfl (.inr hcb)))
                clear hch h1 h2 h3
                go_wp2
                go_roundw
                case rel => exact ⟨2, R, 0 * 60 + n, true, by first | rfl | (rw [extract_S1]), by first | rfl | (congr 1; omega), rfl, rfl, by first | omega | (simp only [List.length_cons] at hfl; omega), by omega, by omega, hbel1, by have := hgo.out; show _ = _; simpa [g60, g24] using this⟩
                case measure => simp [intOf]
              · have hgo := Lib.hid (hch.out.trans (h3.out rfl (.inr hcb)))
                clear hch h1 h2 h3
                go_wp2
                go_roundw
                case rel => exact ⟨2, R, 0 * 60 + n, false, by first | rfl | (rw [extract_S1]), by first | rfl | (congr 1; omega), rfl, rfl, by first | omega | (simp only [List.length_cons] at hfl; omega), by omega, by omega, hbel1, by have := hgo.out; show _ = _; simpa [g60, g24] using this⟩
                case measure => simp [intOf]
            · have g24 : ¬ n < 24 := by omega
              have hgo := Lib.hid (hch.out.trans (h3.out rfl (.inr hcb)))
              clear hch h1 h2 h3
              go_wp2
              go_roundw
              case rel => exact ⟨2, R, 0 * 60 + n, false, by first | rfl | (rw [extract_S1]), by first | rfl | (congr 1; omega), rfl, rfl, by first | omega | (simp only [List.length_cons] at hfl; omega), by omega, by omega, hbel1, by have := hgo.out; show _ = _; simpa [g60, g24] using this⟩
              case measure => simp [intOf]
    · go_wp2_with fail
      refine (field_any (S l) 1 2 _ hz).mono ?_
      rintro e w1 ⟨rfl, hb1⟩
      rw [S_toList]
      have hbel1 := bel_call hbel hb1
      have hfl := field_len (l := l) (a := 1) (b := 2)
      have hfb := field_bd (l := l)
      have h1 := Lib.hid (clk_no (r := 1) (l := l) (o := o) (rt := rt))
      have h2 := Lib.hid (clk_col (r := 1) (l := l) (o := o) (rt := rt))
      have h3 := Lib.hid (clk_go (r := 1) (l := l) (o := o) (rt := rt))
      generalize fieldT l 1 2 = F at *
      obtain ⟨n, R, ok⟩ := F
      simp only at hfl hfb h1 h2 h3 ⊢
      clear hb1 hbel hz
      cases ok with
      | false =>
        have hno := clkR_none (hch.out.trans (h1.out rfl))
        have hn1 := Lib.hid hno.1
        have hn2 := Lib.hid hno.2
        clear hno hch
        go_wp2
        rw [hn1.out, hn2.out]
        go_ret3
        exact ⟨rfl, hbel1⟩
      | true =>
        obtain ⟨hn0, hn9⟩ := hfb rfl
        cases R with
        | nil =>
          have hcb : colB [] = false := rfl
          have hno := clkR_none (hch.out.trans (h2.out (by decide) rfl))
          have hn1 := Lib.hid hno.1
          have hn2 := Lib.hid hno.2
          clear hno hch
          go_wp2
          rw [hn1.out, hn2.out]
          go_ret3
          exact ⟨rfl, hbel1⟩
        | cons c R =>
          cases h58 : (c == 58) with
          | false =>
            have hcb : colB (c :: R) = false := by rw [colB_cons]; exact h58
            have hne : ((c.toNat : Int) != 58) = true := by rw [nec (i := 58) 58 rfl, h58]; rfl
            have hg0 := S_get0 c R
            have hno := clkR_none (hch.out.trans (h2.out (by decide) hcb))
            have hn1 := Lib.hid hno.1
            have hn2 := Lib.hid hno.2
            clear hno hch
            go_wp2
            rw [hn1.out, hn2.out]
            go_ret3
            exact ⟨rfl, hbel1⟩
          | true =>
            have hcb : colB (c :: R) = true := by rw [colB_cons]; exact h58
            have hne : ((c.toNat : Int) != 58) = false := by rw [nec (i := 58) 58 rfl, h58]; rfl
            have hg0 := S_get0 c R
            cases rt with
            | true =>
              by_cases g60 : n < 60
              · have hgo := Lib.hid (hch.out.trans (h3.out rfl (.inr hcb)))
                clear hch h1 h2 h3
                go_wp2
                go_roundw
                case rel => exact ⟨1, R, o * 60 + n, true, by first | rfl | (rw [extract_S1]), by first | rfl | (congr 1; omega), rfl, rfl, by first | omega | (simp only [List.length_cons] at hfl; omega), by omega, by omega, hbel1, by have := hgo.out; show _ = _; simpa [g60] using this⟩
                case measure => simp [intOf]
              · have hgo := Lib.hid (hch.out.trans (h3.out rfl (.inr hcb)))
                clear hch h1 h2 h3
                go_wp2
                go_roundw
                case rel => exact ⟨1, R, o * 60 + n, false, by first | rfl | (rw [extract_S1]), by first | rfl | (congr 1; omega), rfl, rfl, by first | omega | (simp only [List.length_cons] at hfl; omega), by omega, by omega, hbel1, by have := hgo.out; show _ = _; simpa [g60] using this⟩
                case measure => simp [intOf]
            | false =>
              have g60 := hn0
              have hgo := Lib.hid (hch.out.trans (h3.out rfl (.inr hcb)))
              clear hch h1 h2 h3
              go_wp2
              go_roundw
              case rel => exact ⟨1, R, o * 60 + n, false, by first | rfl | (rw [extract_S1]), by first | rfl | (congr 1; omega), rfl, rfl, by first | omega | (simp only [List.length_cons] at hfl; omega), by omega, by omega, hbel1, by have := hgo.out; show _ = _; simpa [hn0] using this⟩
              case measure => simp [intOf]
    · go_wp2_with fail
      refine (field_any (S l) 1 2 _ hz).mono ?_
      rintro e w1 ⟨rfl, hb1⟩
      rw [S_toList]
      have hbel1 := bel_call hbel hb1
      have hfl := field_len (l := l) (a := 1) (b := 2)
      have hfb := field_bd (l := l)
      have h1 := Lib.hid (clk_no (r := 0) (l := l) (o := o) (rt := rt))
      have h2 := Lib.hid (clk_col (r := 0) (l := l) (o := o) (rt := rt))
      have h3 := Lib.hid (clk_go (r := 0) (l := l) (o := o) (rt := rt))
      generalize fieldT l 1 2 = F at *
      obtain ⟨n, R, ok⟩ := F
      simp only at hfl hfb h1 h2 h3 ⊢
      clear hb1 hbel hz
      cases ok with
      | false =>
        have hno := clkR_none (hch.out.trans (h1.out rfl))
        have hn1 := Lib.hid hno.1
        have hn2 := Lib.hid hno.2
        clear hno hch
        go_wp2
        rw [hn1.out, hn2.out]
        go_ret3
        exact ⟨rfl, hbel1⟩
      | true =>
        obtain ⟨hn0, hn9⟩ := hfb rfl
        cases rt with
        | true =>
          by_cases g60 : n < 60
          · have hgo := Lib.hid (hch.out.trans (h3.out rfl (.inl trivial)))
            clear hch h1 h2 h3
            go_wp2
            go_roundw
            case rel => exact ⟨0, l, o * 60 + n, true, rfl, by first | rfl | (congr 1; omega), rfl, rfl, by first | omega | (simp only [List.length_cons] at hfl; omega), by omega, by omega, hbel1, by have := hgo.out; show _ = _; rw [this]; simp [clkGo, g60]⟩
            case measure => simp [intOf]
          · have hgo := Lib.hid (hch.out.trans (h3.out rfl (.inl trivial)))
            clear hch h1 h2 h3
            go_wp2
            go_roundw
            case rel => exact ⟨0, l, o * 60 + n, false, rfl, by first | rfl | (congr 1; omega), rfl, rfl, by first | omega | (simp only [List.length_cons] at hfl; omega), by omega, by omega, hbel1, by have := hgo.out; show _ = _; rw [this]; simp [clkGo, g60]⟩
            case measure => simp [intOf]
        | false =>
          have g60 := hn0
          have hgo := Lib.hid (hch.out.trans (h3.out rfl (.inl trivial)))
          clear hch h1 h2 h3
          go_wp2
          go_roundw
          case rel => exact ⟨0, l, o * 60 + n, false, rfl, by first | rfl | (congr 1; omega), rfl, rfl, by first | omega | (simp only [List.length_cons] at hfl; omega), by omega, by omega, hbel1, by have := hgo.out; show _ = _; rw [this]; simp [clkGo]⟩
          case measure => simp [intOf]
    · have hso := clkR_some (hch.out.trans rfl)
      have hn1 := Lib.hid hso.1
      have hn2 := Lib.hid hso.2
      clear hso hch
      go_wp2
      rw [hn1.out, hn2.out]
      go_ret3
      exact ⟨rfl, hbel⟩
end Go.Proofs.YtgfoaopfdpclhaaGreatDoor
namespace Go.Proofs.YtgfoaopfdpclhaaGreatDoor
open Go.RowKit
set_option linter.unusedVariables false
set_option maxRecDepth 100000

def monN : List (List UInt8) := [[106, 97, 110], [102, 101, 98], [109, 97, 114], [97, 112, 114], [109, 97, 121], [106, 117, 110], [106, 117, 108], [97, 117, 103], [115, 101, 112], [111, 99, 116], [110, 111, 118], [100, 101, 99]]
def monV : Value := .agg (monN.map strV).toArray
/-- The table of months lies in the world. -/
def Mon (w : World) : Prop := 1 < w.heap.size ∧ w.rangeAt 1 0 (monN.map strV)
theorem Mon.below {B : Nat} {w w' : World} (h : Mon w) (hb : Below B w w') (hB : 1 < B) : Mon w' :=
  ⟨Nat.lt_of_lt_of_le h.1 hb.size, fun j v hv => by rw [hb.cell (p := ⟨1, 0 + j, none⟩) hB]; exact h.2 j v hv⟩
theorem Mon.drews {w : World} (h : Mon w) (n : Nat) : Mon (w.drewN n) := ⟨h.1, fun j v hv => h.2 j v hv⟩
theorem Mon.next {w w' : World} (h : Mon w) (hb : Below w.heap.size w w') : Mon w' := h.below hb h.1
def loadMon (a : Addr) : Sem Value := loadVar 132 a
@[go_sem ↓] theorem to_loadMon (a : Addr) : loadVar 132 a = loadMon a := rfl
theorem mon_load {w : World} (h : Mon w) : (loadMon ⟨1, 0, none⟩).run Tryz.prog w = .ok monV w :=
  run_loadVar_mid w 1 0 132 (monN.map strV) _ h.2 Tryz.underlying132 rfl (by kernel_rfl)
theorem mon_index (w : World) (k : Nat) (h : k < 12) : (Instr.index 132 monV (.int .i64 k)).run Tryz.prog w = .ok (.string (S (monN.getD k []))) w := by
  match k, h with
  | 0, _ => show _ = _; kernel_rfl
  | 1, _ => show _ = _; kernel_rfl
  | 2, _ => show _ = _; kernel_rfl
  | 3, _ => show _ = _; kernel_rfl
  | 4, _ => show _ = _; kernel_rfl
  | 5, _ => show _ = _; kernel_rfl
  | 6, _ => show _ = _; kernel_rfl
  | 7, _ => show _ = _; kernel_rfl
  | 8, _ => show _ = _; kernel_rfl
  | 9, _ => show _ = _; kernel_rfl
  | 10, _ => show _ = _; kernel_rfl
  | 11, _ => show _ = _; kernel_rfl
  | n + 12, h => omega

def monAt (t : List UInt8) : Nat → List (List UInt8) → Int
  | _, [] => 0
  | k, n :: r => if lowerL t == lowerL n then (k : Int) + 1 else monAt t (k + 1) r
def monthI (l : List UInt8) : Int := if l.length < 3 then 0 else monAt (l.take 3) 0 monN
theorem mon_step (t : List UInt8) (k : Nat) (h : k < 12) : monAt t k (monN.drop k) = if lowerL t == lowerL (monN.getD k []) then (k : Int) + 1 else monAt t (k + 1) (monN.drop (k + 1)) := by
  have e : monN.drop k = monN.getD k [] :: monN.drop (k + 1) := by
    rw [List.drop_eq_getElem_cons (show k < monN.length from h), List.getD_eq_getElem?_getD, List.getElem?_eq_getElem (show k < monN.length from h)]; rfl
  rw [e, monAt]
theorem mon_bd (t : List UInt8) (r : List (List UInt8)) (k : Nat) : 0 ≤ monAt t k r ∧ monAt t k r ≤ k + r.length := by
  induction r generalizing k with
  | nil => unfold monAt; simp
  | cons n r ih =>
    unfold monAt
    have := ih (k + 1)
    split
    · simp; omega
    · simp; omega
theorem month_bd (l : List UInt8) : 0 ≤ monthI l ∧ monthI l ≤ 12 := by
  unfold monthI
  split
  · omega
  · have := mon_bd (l.take 3) monN 0
    simpa [monN] using this

set_option maxHeartbeats 2000000 in
theorem month_any (s : ByteArray) (w : World) (hs : s.size ≤ 4294967296) (hm : Mon w) :
    Calls Tryz.prog 132 #[.string s] w fun e w' => e = .returned (.int .i64 (monthI s.toList)) ∧ Below w.heap.size w w' := by
  have hload := mon_load hm
  by_cases hl : s.size < 3
  · have hz := Lib.hid (show monthI s.toList = 0 by unfold monthI; rw [if_pos (by rw [← size_toList]; exact hl)])
    go_enter Tryz.func132, Tryz.ntmps132
    go_wp2
    rw [hz.out]
    go_ret
    exact ⟨rfl, Below.refl _ _⟩
  · have hz := Lib.hid (show monthI s.toList = monAt (s.toList.take 3) 0 monN by unfold monthI; rw [if_neg (by rw [← size_toList]; exact hl)])
    have hx := Lib.hid (extract_to s 3)
    have hx2 : (S (s.toList.take 3)).size ≤ 4294967296 := by rw [S_size]; simp; omega
    have h3 : (3 : Int) ≤ s.size := by omega
    have hn3 : decide ((s.size : Int) < 3) = false := decide_eq_false (by omega)
    clear hm
    go_enter Tryz.func132, Tryz.ntmps132
    go_wp2
    clear hload
    go_loopw [9] (fun i wr => ∃ k : Nat, i = .int .i64 k ∧ k ≤ 12 ∧ Below w.heap.size w wr ∧ Hid (monthI s.toList = monAt (s.toList.take 3) k (monN.drop k))) (fun i _ => 12 - (intOf i).toNat)
    case atStart => exact ⟨0, rfl, by omega, Below.refl _ _, hz.out⟩
    case round =>
      obtain ⟨k, rfl, hk, hbel, hin⟩ := hrel
      by_cases hk2 : k < 12
      · have hk3 : (k : Int) < 12 := by omega
        have hidx := mon_index wr k hk2
        have hst := Lib.hid (hin.out.trans (mon_step _ k hk2))
        have hnz : (S (monN.getD k [])).size ≤ 4294967296 := by
          match k, hk2 with
          | 0, _ | 1, _ | 2, _ | 3, _ | 4, _ | 5, _ | 6, _ | 7, _ | 8, _ | 9, _ | 10, _ | 11, _ => decide
          | n + 12, h => omega
        clear hin hz
        generalize monN.getD k [] = nm at *
        go_wp2_with fail
        rw [hx.out]
        refine (same_any _ _ _ (by unfold maxLen; omega) (by unfold maxLen; omega)).mono ?_
        rintro e w1 ⟨rfl, hb1⟩
        rw [S_toList, S_toList]
        have hbel1 := bel_call hbel hb1
        clear hb1 hbel
        cases hc : (lowerL (s.toList.take 3) == lowerL nm) with
        | true =>
          have hr := Lib.hid (hst.out.trans (if_pos hc))
          clear hst hc
          go_wp2
          rw [hr.out]
          go_ret
          exact ⟨rfl, hbel1⟩
        | false =>
          have hr := Lib.hid (hst.out.trans (if_neg (by rw [hc]; decide)))
          clear hst hc
          go_wp2
          go_roundw
          case rel => exact ⟨k + 1, by go_num, by omega, hbel1, hr.out⟩
          case measure => simp [intOf]; omega
      · have hk3 : k = 12 := by omega
        subst hk3
        have hr := Lib.hid (show monthI s.toList = 0 from hin.out.trans rfl)
        clear hin hz
        go_wp2
        rw [hr.out]
        go_ret
        exact ⟨rfl, hbel⟩
end Go.Proofs.YtgfoaopfdpclhaaGreatDoor
namespace Go.Proofs.YtgfoaopfdpclhaaGreatDoor
open Go.RowKit
set_option linter.unusedVariables false
set_option maxRecDepth 100000

theorem Blk.put {w : World} {g : Nat} {t : TypeId} {cs : Array Value} (h : Blk w g t cs) (i : Nat) (v : Value) : Blk (w.setCell ⟨g, i, none⟩ v) g t (cs.setIfInBounds i v) := heap_setCell_same w g i cs t v h
theorem grown_bel {w w' : World} (h : Below w.heap.size w w') (g : Nat) : w.grownBy w' (some g) := ⟨h.os, h.tape, h.output, h.size, fun k hk _ => h.block k hk⟩
theorem grown_set {w w' : World} {g : Nat} (h : w.grownBy w' (some g)) (i : Nat) (v : Value) : w.grownBy (w'.setCell ⟨g, i, none⟩ v) (some g) :=
  ⟨h.os, h.tape, h.output, by simpa using h.size, fun k hk hne => by
    rw [Below.heap_setCell _ _ _ _ (fun e => hne (by rw [e]))]
    exact h.block k hk hne⟩
/-- What of a date was met. -/
structure Fd where
  t : Int
  d : Int
  m : Int
  y : Int
  r : Bool
def fdC (f : Fd) : Array Value := #[.int .i64 f.t, .int .i64 f.d, .int .i64 f.m, .int .i64 f.y, .bool f.r]
def tokStep (f : Fd) (l : List UInt8) : Fd :=
  if f.t < 0 ∧ (clockT l).isSome = true then { f with t := (clkR l).1, r := (clkR l).2 }
  else if f.d < 0 ∧ (fieldT l 1 2).2.2 = true then { f with d := (fieldT l 1 2).1 }
  else if f.m < 0 ∧ 0 < monthI l then { f with m := monthI l }
  else if f.y < 0 ∧ (fieldT l 2 4).2.2 = true then { f with y := (fieldT l 2 4).1 }
  else f
theorem fd_at {w : World} {g : Nat} {f : Fd} (h : Blk w g 118 (fdC f)) :
    w.cell? ⟨g, 0, none⟩ = some (.int .i64 f.t) ∧ w.cell? ⟨g, 1, none⟩ = some (.int .i64 f.d) ∧ w.cell? ⟨g, 2, none⟩ = some (.int .i64 f.m) ∧ w.cell? ⟨g, 3, none⟩ = some (.int .i64 f.y) ∧ w.cell? ⟨g, 4, none⟩ = some (.bool f.r) ∧
    (∀ i, w.frozen? ⟨g, i, none⟩ = false) :=
  ⟨h.cell 0, h.cell 1, h.cell 2, h.cell 3, h.cell 4, h.free⟩
theorem fd_size {w : World} {g : Nat} {f : Fd} (h : Blk w g 118 (fdC f)) : g < w.heap.size := h.lt

set_option maxRecDepth 4000 in
set_option maxHeartbeats 8000000 in
theorem token_any (t d m y : Int) (r : Bool) (g : Nat) (s : ByteArray) (w : World) (hs : s.size ≤ 4294967296) (hg : 1 < g) (hm : Mon w) (hK : Blk w g 118 (fdC ⟨t, d, m, y, r⟩)) :
    Calls Tryz.prog 112 #[.pointer (some ⟨g, 0, none⟩), .string s] w fun e w' => e = .returned (.tuple #[]) ∧ Blk w' g 118 (fdC (tokStep ⟨t, d, m, y, r⟩ s.toList)) ∧ w.grownBy w' (some g) := by
  have hz : s.size ≤ maxLen := by unfold maxLen; omega
  have hb0 := Below.refl w.heap.size w
  obtain ⟨c0, c1, c2, c3, c4, cf⟩ := fd_at hK
  have hgl := fd_size hK
  go_enter Tryz.func112, Tryz.ntmps112
  by_cases g0 : t < 0
  · have e0 := Lib.hid (eq_true g0)
    go_wp2_with fail
    refine (clock_any s _ hs).mono ?_
    rintro e w1 ⟨rfl, hxw1⟩
    have hb1 := bel_call hb0 hxw1
    obtain ⟨c0, c1, c2, c3, c4, cf⟩ := fd_at (Blk.below hK hb1)
    replace hm : Mon w1 := hm.next hxw1
    clear hxw1 
    cases hq0 : (clockT s.toList).isSome with
    | true =>
      have hT := Lib.hid (show tokStep ⟨t, d, m, y, r⟩ s.toList = ⟨(clkR s.toList).1, d, m, y, (clkR s.toList).2⟩ by simp [tokStep, e0.out, hq0])
      go_wp2
      rw [hT.out]
      first | refine bodyPost_ret (results_none rfl _ _ _) rfl ?_ | refine bodyPost_end (results_none rfl _ _ _) rfl ?_
      refine ⟨rfl, ?_, ?_⟩
      · exact ((Blk.below hK hb1).put 0 (.int .i64 (clkR s.toList).1)).put 4 (.bool (clkR s.toList).2)
      · exact (grown_set (grown_set (grown_bel hb1 g) 0 (.int .i64 (clkR s.toList).1)) 4 (.bool (clkR s.toList).2))
    | false =>
      by_cases g1 : d < 0
      · have e1 := Lib.hid (eq_true g1)
        go_wp2_with fail
        refine (field_any s 1 2 _ hz).mono ?_
        rintro e w2 ⟨rfl, hxw2⟩
        have hb2 := bel_call hb1 hxw2
        obtain ⟨c0, c1, c2, c3, c4, cf⟩ := fd_at (Blk.below hK hb2)
        replace hm : Mon w2 := hm.next hxw2
        clear hxw2 hb1
        cases hq1 : (fieldT s.toList 1 2).2.2 with
        | true =>
          have hT := Lib.hid (show tokStep ⟨t, d, m, y, r⟩ s.toList = ⟨t, (fieldT s.toList 1 2).1, m, y, r⟩ by simp [tokStep, hq0, e1.out, hq1])
          go_wp2
          rw [hT.out]
          first | refine bodyPost_ret (results_none rfl _ _ _) rfl ?_ | refine bodyPost_end (results_none rfl _ _ _) rfl ?_
          refine ⟨rfl, ?_, ?_⟩
          · exact (Blk.below hK hb2).put 1 (.int .i64 (fieldT s.toList 1 2).1)
          · exact (grown_set (grown_bel hb2 g) 1 (.int .i64 (fieldT s.toList 1 2).1))
        | false =>
          by_cases g2 : m < 0
          · have e2 := Lib.hid (eq_true g2)
            go_wp2_with fail
            refine (month_any s _ hs hm).mono ?_
            rintro e w3 ⟨rfl, hxw3⟩
            have hb3 := bel_call hb2 hxw3
            obtain ⟨c0, c1, c2, c3, c4, cf⟩ := fd_at (Blk.below hK hb3)
            replace hm : Mon w3 := hm.next hxw3
            clear hxw3 hb2
            by_cases hq2 : 0 < monthI s.toList
            · have E2 := Lib.hid (eq_true hq2)
              have hT := Lib.hid (show tokStep ⟨t, d, m, y, r⟩ s.toList = ⟨t, d, monthI s.toList, y, r⟩ by simp [tokStep, hq0, hq1, e2.out, E2.out])
              go_wp2
              rw [hT.out]
              first | refine bodyPost_ret (results_none rfl _ _ _) rfl ?_ | refine bodyPost_end (results_none rfl _ _ _) rfl ?_
              refine ⟨rfl, ?_, ?_⟩
              · exact (Blk.below hK hb3).put 2 (.int .i64 (monthI s.toList))
              · exact (grown_set (grown_bel hb3 g) 2 (.int .i64 (monthI s.toList)))
            · have E2 := Lib.hid (eq_false hq2)
              by_cases g3 : y < 0
              · have e3 := Lib.hid (eq_true g3)
                go_wp2_with fail
                refine (field_any s 2 4 _ hz).mono ?_
                rintro e w4 ⟨rfl, hxw4⟩
                have hb4 := bel_call hb3 hxw4
                obtain ⟨c0, c1, c2, c3, c4, cf⟩ := fd_at (Blk.below hK hb4)
                replace hm : Mon w4 := hm.next hxw4
                clear hxw4 hb3
                cases hq3 : (fieldT s.toList 2 4).2.2 with
                | true =>
                  have hT := Lib.hid (show tokStep ⟨t, d, m, y, r⟩ s.toList = ⟨t, d, m, (fieldT s.toList 2 4).1, r⟩ by simp [tokStep, hq0, hq1, E2.out, e3.out, hq3])
                  go_wp2
                  rw [hT.out]
                  first | refine bodyPost_ret (results_none rfl _ _ _) rfl ?_ | refine bodyPost_end (results_none rfl _ _ _) rfl ?_
                  refine ⟨rfl, ?_, ?_⟩
                  · exact (Blk.below hK hb4).put 3 (.int .i64 (fieldT s.toList 2 4).1)
                  · exact (grown_set (grown_bel hb4 g) 3 (.int .i64 (fieldT s.toList 2 4).1))
                | false =>
                  have hT := Lib.hid (show tokStep ⟨t, d, m, y, r⟩ s.toList = ⟨t, d, m, y, r⟩ by simp [tokStep, hq0, hq1, E2.out, hq3])
                  go_wp2
                  rw [hT.out]
                  first | refine bodyPost_ret (results_none rfl _ _ _) rfl ?_ | refine bodyPost_end (results_none rfl _ _ _) rfl ?_
                  refine ⟨rfl, ?_, ?_⟩
                  · exact Blk.below hK hb4
                  · exact (grown_bel hb4 g)
              · have e3 := Lib.hid (eq_false g3)
                have hT := Lib.hid (show tokStep ⟨t, d, m, y, r⟩ s.toList = ⟨t, d, m, y, r⟩ by simp [tokStep, hq0, hq1, E2.out, e3.out])
                go_wp2
                rw [hT.out]
                first | refine bodyPost_ret (results_none rfl _ _ _) rfl ?_ | refine bodyPost_end (results_none rfl _ _ _) rfl ?_
                refine ⟨rfl, ?_, ?_⟩
                · exact Blk.below hK hb3
                · exact (grown_bel hb3 g)
          · have e2 := Lib.hid (eq_false g2)
            by_cases g3 : y < 0
            · have e3 := Lib.hid (eq_true g3)
              go_wp2_with fail
              refine (field_any s 2 4 _ hz).mono ?_
              rintro e w3 ⟨rfl, hxw3⟩
              have hb3 := bel_call hb2 hxw3
              obtain ⟨c0, c1, c2, c3, c4, cf⟩ := fd_at (Blk.below hK hb3)
              replace hm : Mon w3 := hm.next hxw3
              clear hxw3 hb2
              cases hq3 : (fieldT s.toList 2 4).2.2 with
              | true =>
                have hT := Lib.hid (show tokStep ⟨t, d, m, y, r⟩ s.toList = ⟨t, d, m, (fieldT s.toList 2 4).1, r⟩ by simp [tokStep, hq0, hq1, e2.out, e3.out, hq3])
                go_wp2
                rw [hT.out]
                first | refine bodyPost_ret (results_none rfl _ _ _) rfl ?_ | refine bodyPost_end (results_none rfl _ _ _) rfl ?_
                refine ⟨rfl, ?_, ?_⟩
                · exact (Blk.below hK hb3).put 3 (.int .i64 (fieldT s.toList 2 4).1)
                · exact (grown_set (grown_bel hb3 g) 3 (.int .i64 (fieldT s.toList 2 4).1))
              | false =>
                have hT := Lib.hid (show tokStep ⟨t, d, m, y, r⟩ s.toList = ⟨t, d, m, y, r⟩ by simp [tokStep, hq0, hq1, e2.out, hq3])
                go_wp2
                rw [hT.out]
                first | refine bodyPost_ret (results_none rfl _ _ _) rfl ?_ | refine bodyPost_end (results_none rfl _ _ _) rfl ?_
                refine ⟨rfl, ?_, ?_⟩
                · exact Blk.below hK hb3
                · exact (grown_bel hb3 g)
            · have e3 := Lib.hid (eq_false g3)
              have hT := Lib.hid (show tokStep ⟨t, d, m, y, r⟩ s.toList = ⟨t, d, m, y, r⟩ by simp [tokStep, hq0, hq1, e2.out, e3.out])
              go_wp2
              rw [hT.out]
              first | refine bodyPost_ret (results_none rfl _ _ _) rfl ?_ | refine bodyPost_end (results_none rfl _ _ _) rfl ?_
              refine ⟨rfl, ?_, ?_⟩
              · exact Blk.below hK hb2
              · exact (grown_bel hb2 g)
      · have e1 := Lib.hid (eq_false g1)
        by_cases g2 : m < 0
        · have e2 := Lib.hid (eq_true g2)
          go_wp2_with fail
          refine (month_any s _ hs hm).mono ?_
          rintro e w2 ⟨rfl, hxw2⟩
          have hb2 := bel_call hb1 hxw2
          obtain ⟨c0, c1, c2, c3, c4, cf⟩ := fd_at (Blk.below hK hb2)
          replace hm : Mon w2 := hm.next hxw2
          clear hxw2 hb1
          by_cases hq2 : 0 < monthI s.toList
          · have E2 := Lib.hid (eq_true hq2)
            have hT := Lib.hid (show tokStep ⟨t, d, m, y, r⟩ s.toList = ⟨t, d, monthI s.toList, y, r⟩ by simp [tokStep, hq0, e1.out, e2.out, E2.out])
            go_wp2
            rw [hT.out]
            first | refine bodyPost_ret (results_none rfl _ _ _) rfl ?_ | refine bodyPost_end (results_none rfl _ _ _) rfl ?_
            refine ⟨rfl, ?_, ?_⟩
            · exact (Blk.below hK hb2).put 2 (.int .i64 (monthI s.toList))
            · exact (grown_set (grown_bel hb2 g) 2 (.int .i64 (monthI s.toList)))
          · have E2 := Lib.hid (eq_false hq2)
            by_cases g3 : y < 0
            · have e3 := Lib.hid (eq_true g3)
              go_wp2_with fail
              refine (field_any s 2 4 _ hz).mono ?_
              rintro e w3 ⟨rfl, hxw3⟩
              have hb3 := bel_call hb2 hxw3
              obtain ⟨c0, c1, c2, c3, c4, cf⟩ := fd_at (Blk.below hK hb3)
              replace hm : Mon w3 := hm.next hxw3
              clear hxw3 hb2
              cases hq3 : (fieldT s.toList 2 4).2.2 with
              | true =>
                have hT := Lib.hid (show tokStep ⟨t, d, m, y, r⟩ s.toList = ⟨t, d, m, (fieldT s.toList 2 4).1, r⟩ by simp [tokStep, hq0, e1.out, E2.out, e3.out, hq3])
                go_wp2
                rw [hT.out]
                first | refine bodyPost_ret (results_none rfl _ _ _) rfl ?_ | refine bodyPost_end (results_none rfl _ _ _) rfl ?_
                refine ⟨rfl, ?_, ?_⟩
                · exact (Blk.below hK hb3).put 3 (.int .i64 (fieldT s.toList 2 4).1)
                · exact (grown_set (grown_bel hb3 g) 3 (.int .i64 (fieldT s.toList 2 4).1))
              | false =>
                have hT := Lib.hid (show tokStep ⟨t, d, m, y, r⟩ s.toList = ⟨t, d, m, y, r⟩ by simp [tokStep, hq0, e1.out, E2.out, hq3])
                go_wp2
                rw [hT.out]
                first | refine bodyPost_ret (results_none rfl _ _ _) rfl ?_ | refine bodyPost_end (results_none rfl _ _ _) rfl ?_
                refine ⟨rfl, ?_, ?_⟩
                · exact Blk.below hK hb3
                · exact (grown_bel hb3 g)
            · have e3 := Lib.hid (eq_false g3)
              have hT := Lib.hid (show tokStep ⟨t, d, m, y, r⟩ s.toList = ⟨t, d, m, y, r⟩ by simp [tokStep, hq0, e1.out, E2.out, e3.out])
              go_wp2
              rw [hT.out]
              first | refine bodyPost_ret (results_none rfl _ _ _) rfl ?_ | refine bodyPost_end (results_none rfl _ _ _) rfl ?_
              refine ⟨rfl, ?_, ?_⟩
              · exact Blk.below hK hb2
              · exact (grown_bel hb2 g)
        · have e2 := Lib.hid (eq_false g2)
          by_cases g3 : y < 0
          · have e3 := Lib.hid (eq_true g3)
            go_wp2_with fail
            refine (field_any s 2 4 _ hz).mono ?_
            rintro e w2 ⟨rfl, hxw2⟩
            have hb2 := bel_call hb1 hxw2
            obtain ⟨c0, c1, c2, c3, c4, cf⟩ := fd_at (Blk.below hK hb2)
            replace hm : Mon w2 := hm.next hxw2
            clear hxw2 hb1
            cases hq3 : (fieldT s.toList 2 4).2.2 with
            | true =>
              have hT := Lib.hid (show tokStep ⟨t, d, m, y, r⟩ s.toList = ⟨t, d, m, (fieldT s.toList 2 4).1, r⟩ by simp [tokStep, hq0, e1.out, e2.out, e3.out, hq3])
              go_wp2
              rw [hT.out]
              first | refine bodyPost_ret (results_none rfl _ _ _) rfl ?_ | refine bodyPost_end (results_none rfl _ _ _) rfl ?_
              refine ⟨rfl, ?_, ?_⟩
              · exact (Blk.below hK hb2).put 3 (.int .i64 (fieldT s.toList 2 4).1)
              · exact (grown_set (grown_bel hb2 g) 3 (.int .i64 (fieldT s.toList 2 4).1))
            | false =>
              have hT := Lib.hid (show tokStep ⟨t, d, m, y, r⟩ s.toList = ⟨t, d, m, y, r⟩ by simp [tokStep, hq0, e1.out, e2.out, hq3])
              go_wp2
              rw [hT.out]
              first | refine bodyPost_ret (results_none rfl _ _ _) rfl ?_ | refine bodyPost_end (results_none rfl _ _ _) rfl ?_
              refine ⟨rfl, ?_, ?_⟩
              · exact Blk.below hK hb2
              · exact (grown_bel hb2 g)
          · have e3 := Lib.hid (eq_false g3)
            have hT := Lib.hid (show tokStep ⟨t, d, m, y, r⟩ s.toList = ⟨t, d, m, y, r⟩ by simp [tokStep, hq0, e1.out, e2.out, e3.out])
            go_wp2
            rw [hT.out]
            first | refine bodyPost_ret (results_none rfl _ _ _) rfl ?_ | refine bodyPost_end (results_none rfl _ _ _) rfl ?_
            refine ⟨rfl, ?_, ?_⟩
            · exact Blk.below hK hb1
            · exact (grown_bel hb1 g)
  · have e0 := Lib.hid (eq_false g0)
    by_cases g1 : d < 0
    · have e1 := Lib.hid (eq_true g1)
      go_wp2_with fail
      refine (field_any s 1 2 _ hz).mono ?_
      rintro e w1 ⟨rfl, hxw1⟩
      have hb1 := bel_call hb0 hxw1
      obtain ⟨c0, c1, c2, c3, c4, cf⟩ := fd_at (Blk.below hK hb1)
      replace hm : Mon w1 := hm.next hxw1
      clear hxw1 
      cases hq1 : (fieldT s.toList 1 2).2.2 with
      | true =>
        have hT := Lib.hid (show tokStep ⟨t, d, m, y, r⟩ s.toList = ⟨t, (fieldT s.toList 1 2).1, m, y, r⟩ by simp [tokStep, e0.out, e1.out, hq1])
        go_wp2
        rw [hT.out]
        first | refine bodyPost_ret (results_none rfl _ _ _) rfl ?_ | refine bodyPost_end (results_none rfl _ _ _) rfl ?_
        refine ⟨rfl, ?_, ?_⟩
        · exact (Blk.below hK hb1).put 1 (.int .i64 (fieldT s.toList 1 2).1)
        · exact (grown_set (grown_bel hb1 g) 1 (.int .i64 (fieldT s.toList 1 2).1))
      | false =>
        by_cases g2 : m < 0
        · have e2 := Lib.hid (eq_true g2)
          go_wp2_with fail
          refine (month_any s _ hs hm).mono ?_
          rintro e w2 ⟨rfl, hxw2⟩
          have hb2 := bel_call hb1 hxw2
          obtain ⟨c0, c1, c2, c3, c4, cf⟩ := fd_at (Blk.below hK hb2)
          replace hm : Mon w2 := hm.next hxw2
          clear hxw2 hb1
          by_cases hq2 : 0 < monthI s.toList
          · have E2 := Lib.hid (eq_true hq2)
            have hT := Lib.hid (show tokStep ⟨t, d, m, y, r⟩ s.toList = ⟨t, d, monthI s.toList, y, r⟩ by simp [tokStep, e0.out, hq1, e2.out, E2.out])
            go_wp2
            rw [hT.out]
            first | refine bodyPost_ret (results_none rfl _ _ _) rfl ?_ | refine bodyPost_end (results_none rfl _ _ _) rfl ?_
            refine ⟨rfl, ?_, ?_⟩
            · exact (Blk.below hK hb2).put 2 (.int .i64 (monthI s.toList))
            · exact (grown_set (grown_bel hb2 g) 2 (.int .i64 (monthI s.toList)))
          · have E2 := Lib.hid (eq_false hq2)
            by_cases g3 : y < 0
            · have e3 := Lib.hid (eq_true g3)
              go_wp2_with fail
              refine (field_any s 2 4 _ hz).mono ?_
              rintro e w3 ⟨rfl, hxw3⟩
              have hb3 := bel_call hb2 hxw3
              obtain ⟨c0, c1, c2, c3, c4, cf⟩ := fd_at (Blk.below hK hb3)
              replace hm : Mon w3 := hm.next hxw3
              clear hxw3 hb2
              cases hq3 : (fieldT s.toList 2 4).2.2 with
              | true =>
                have hT := Lib.hid (show tokStep ⟨t, d, m, y, r⟩ s.toList = ⟨t, d, m, (fieldT s.toList 2 4).1, r⟩ by simp [tokStep, e0.out, hq1, E2.out, e3.out, hq3])
                go_wp2
                rw [hT.out]
                first | refine bodyPost_ret (results_none rfl _ _ _) rfl ?_ | refine bodyPost_end (results_none rfl _ _ _) rfl ?_
                refine ⟨rfl, ?_, ?_⟩
                · exact (Blk.below hK hb3).put 3 (.int .i64 (fieldT s.toList 2 4).1)
                · exact (grown_set (grown_bel hb3 g) 3 (.int .i64 (fieldT s.toList 2 4).1))
              | false =>
                have hT := Lib.hid (show tokStep ⟨t, d, m, y, r⟩ s.toList = ⟨t, d, m, y, r⟩ by simp [tokStep, e0.out, hq1, E2.out, hq3])
                go_wp2
                rw [hT.out]
                first | refine bodyPost_ret (results_none rfl _ _ _) rfl ?_ | refine bodyPost_end (results_none rfl _ _ _) rfl ?_
                refine ⟨rfl, ?_, ?_⟩
                · exact Blk.below hK hb3
                · exact (grown_bel hb3 g)
            · have e3 := Lib.hid (eq_false g3)
              have hT := Lib.hid (show tokStep ⟨t, d, m, y, r⟩ s.toList = ⟨t, d, m, y, r⟩ by simp [tokStep, e0.out, hq1, E2.out, e3.out])
              go_wp2
              rw [hT.out]
              first | refine bodyPost_ret (results_none rfl _ _ _) rfl ?_ | refine bodyPost_end (results_none rfl _ _ _) rfl ?_
              refine ⟨rfl, ?_, ?_⟩
              · exact Blk.below hK hb2
              · exact (grown_bel hb2 g)
        · have e2 := Lib.hid (eq_false g2)
          by_cases g3 : y < 0
          · have e3 := Lib.hid (eq_true g3)
            go_wp2_with fail
            refine (field_any s 2 4 _ hz).mono ?_
            rintro e w2 ⟨rfl, hxw2⟩
            have hb2 := bel_call hb1 hxw2
            obtain ⟨c0, c1, c2, c3, c4, cf⟩ := fd_at (Blk.below hK hb2)
            replace hm : Mon w2 := hm.next hxw2
            clear hxw2 hb1
            cases hq3 : (fieldT s.toList 2 4).2.2 with
            | true =>
              have hT := Lib.hid (show tokStep ⟨t, d, m, y, r⟩ s.toList = ⟨t, d, m, (fieldT s.toList 2 4).1, r⟩ by simp [tokStep, e0.out, hq1, e2.out, e3.out, hq3])
              go_wp2
              rw [hT.out]
              first | refine bodyPost_ret (results_none rfl _ _ _) rfl ?_ | refine bodyPost_end (results_none rfl _ _ _) rfl ?_
              refine ⟨rfl, ?_, ?_⟩
              · exact (Blk.below hK hb2).put 3 (.int .i64 (fieldT s.toList 2 4).1)
              · exact (grown_set (grown_bel hb2 g) 3 (.int .i64 (fieldT s.toList 2 4).1))
            | false =>
              have hT := Lib.hid (show tokStep ⟨t, d, m, y, r⟩ s.toList = ⟨t, d, m, y, r⟩ by simp [tokStep, e0.out, hq1, e2.out, hq3])
              go_wp2
              rw [hT.out]
              first | refine bodyPost_ret (results_none rfl _ _ _) rfl ?_ | refine bodyPost_end (results_none rfl _ _ _) rfl ?_
              refine ⟨rfl, ?_, ?_⟩
              · exact Blk.below hK hb2
              · exact (grown_bel hb2 g)
          · have e3 := Lib.hid (eq_false g3)
            have hT := Lib.hid (show tokStep ⟨t, d, m, y, r⟩ s.toList = ⟨t, d, m, y, r⟩ by simp [tokStep, e0.out, hq1, e2.out, e3.out])
            go_wp2
            rw [hT.out]
            first | refine bodyPost_ret (results_none rfl _ _ _) rfl ?_ | refine bodyPost_end (results_none rfl _ _ _) rfl ?_
            refine ⟨rfl, ?_, ?_⟩
            · exact Blk.below hK hb1
            · exact (grown_bel hb1 g)
    · have e1 := Lib.hid (eq_false g1)
      by_cases g2 : m < 0
      · have e2 := Lib.hid (eq_true g2)
        go_wp2_with fail
        refine (month_any s _ hs hm).mono ?_
        rintro e w1 ⟨rfl, hxw1⟩
        have hb1 := bel_call hb0 hxw1
        obtain ⟨c0, c1, c2, c3, c4, cf⟩ := fd_at (Blk.below hK hb1)
        replace hm : Mon w1 := hm.next hxw1
        clear hxw1 
        by_cases hq2 : 0 < monthI s.toList
        · have E2 := Lib.hid (eq_true hq2)
          have hT := Lib.hid (show tokStep ⟨t, d, m, y, r⟩ s.toList = ⟨t, d, monthI s.toList, y, r⟩ by simp [tokStep, e0.out, e1.out, e2.out, E2.out])
          go_wp2
          rw [hT.out]
          first | refine bodyPost_ret (results_none rfl _ _ _) rfl ?_ | refine bodyPost_end (results_none rfl _ _ _) rfl ?_
          refine ⟨rfl, ?_, ?_⟩
          · exact (Blk.below hK hb1).put 2 (.int .i64 (monthI s.toList))
          · exact (grown_set (grown_bel hb1 g) 2 (.int .i64 (monthI s.toList)))
        · have E2 := Lib.hid (eq_false hq2)
          by_cases g3 : y < 0
          · have e3 := Lib.hid (eq_true g3)
            go_wp2_with fail
            refine (field_any s 2 4 _ hz).mono ?_
            rintro e w2 ⟨rfl, hxw2⟩
            have hb2 := bel_call hb1 hxw2
            obtain ⟨c0, c1, c2, c3, c4, cf⟩ := fd_at (Blk.below hK hb2)
            replace hm : Mon w2 := hm.next hxw2
            clear hxw2 hb1
            cases hq3 : (fieldT s.toList 2 4).2.2 with
            | true =>
              have hT := Lib.hid (show tokStep ⟨t, d, m, y, r⟩ s.toList = ⟨t, d, m, (fieldT s.toList 2 4).1, r⟩ by simp [tokStep, e0.out, e1.out, E2.out, e3.out, hq3])
              go_wp2
              rw [hT.out]
              first | refine bodyPost_ret (results_none rfl _ _ _) rfl ?_ | refine bodyPost_end (results_none rfl _ _ _) rfl ?_
              refine ⟨rfl, ?_, ?_⟩
              · exact (Blk.below hK hb2).put 3 (.int .i64 (fieldT s.toList 2 4).1)
              · exact (grown_set (grown_bel hb2 g) 3 (.int .i64 (fieldT s.toList 2 4).1))
            | false =>
              have hT := Lib.hid (show tokStep ⟨t, d, m, y, r⟩ s.toList = ⟨t, d, m, y, r⟩ by simp [tokStep, e0.out, e1.out, E2.out, hq3])
              go_wp2
              rw [hT.out]
              first | refine bodyPost_ret (results_none rfl _ _ _) rfl ?_ | refine bodyPost_end (results_none rfl _ _ _) rfl ?_
              refine ⟨rfl, ?_, ?_⟩
              · exact Blk.below hK hb2
              · exact (grown_bel hb2 g)
          · have e3 := Lib.hid (eq_false g3)
            have hT := Lib.hid (show tokStep ⟨t, d, m, y, r⟩ s.toList = ⟨t, d, m, y, r⟩ by simp [tokStep, e0.out, e1.out, E2.out, e3.out])
            go_wp2
            rw [hT.out]
            first | refine bodyPost_ret (results_none rfl _ _ _) rfl ?_ | refine bodyPost_end (results_none rfl _ _ _) rfl ?_
            refine ⟨rfl, ?_, ?_⟩
            · exact Blk.below hK hb1
            · exact (grown_bel hb1 g)
      · have e2 := Lib.hid (eq_false g2)
        by_cases g3 : y < 0
        · have e3 := Lib.hid (eq_true g3)
          go_wp2_with fail
          refine (field_any s 2 4 _ hz).mono ?_
          rintro e w1 ⟨rfl, hxw1⟩
          have hb1 := bel_call hb0 hxw1
          obtain ⟨c0, c1, c2, c3, c4, cf⟩ := fd_at (Blk.below hK hb1)
          replace hm : Mon w1 := hm.next hxw1
          clear hxw1 
          cases hq3 : (fieldT s.toList 2 4).2.2 with
          | true =>
            have hT := Lib.hid (show tokStep ⟨t, d, m, y, r⟩ s.toList = ⟨t, d, m, (fieldT s.toList 2 4).1, r⟩ by simp [tokStep, e0.out, e1.out, e2.out, e3.out, hq3])
            go_wp2
            rw [hT.out]
            first | refine bodyPost_ret (results_none rfl _ _ _) rfl ?_ | refine bodyPost_end (results_none rfl _ _ _) rfl ?_
            refine ⟨rfl, ?_, ?_⟩
            · exact (Blk.below hK hb1).put 3 (.int .i64 (fieldT s.toList 2 4).1)
            · exact (grown_set (grown_bel hb1 g) 3 (.int .i64 (fieldT s.toList 2 4).1))
          | false =>
            have hT := Lib.hid (show tokStep ⟨t, d, m, y, r⟩ s.toList = ⟨t, d, m, y, r⟩ by simp [tokStep, e0.out, e1.out, e2.out, hq3])
            go_wp2
            rw [hT.out]
            first | refine bodyPost_ret (results_none rfl _ _ _) rfl ?_ | refine bodyPost_end (results_none rfl _ _ _) rfl ?_
            refine ⟨rfl, ?_, ?_⟩
            · exact Blk.below hK hb1
            · exact (grown_bel hb1 g)
        · have e3 := Lib.hid (eq_false g3)
          have hT := Lib.hid (show tokStep ⟨t, d, m, y, r⟩ s.toList = ⟨t, d, m, y, r⟩ by simp [tokStep, e0.out, e1.out, e2.out, e3.out])
          go_wp2
          rw [hT.out]
          first | refine bodyPost_ret (results_none rfl _ _ _) rfl ?_ | refine bodyPost_end (results_none rfl _ _ _) rfl ?_
          refine ⟨rfl, ?_, ?_⟩
          · exact hK
          · exact (grown_bel hb0 g)
end Go.Proofs.YtgfoaopfdpclhaaGreatDoor
