/-
  A clock walked.
-/
import Derived.Test.YtagiolhciplniaaDoorDate7
namespace Go.Proofs.YtagiolhciplniaaDoor
open Go.RowKit
set_option linter.unusedVariables false

theorem S_get0 (c : UInt8) (R : List UInt8) (h : 0 < (S (c :: R)).size) : (S (c :: R))[0] = c := by rw [get_l _ _ h, S_toList]; rfl
def clkR (l : List UInt8) : Int × Bool := (clockT l).getD (0, false)
theorem clkR_none {l : List UInt8} (h : clockT l = none) : clkR l = (0, false) ∧ (clockT l).isSome = false := by unfold clkR; rw [h]; exact ⟨rfl, rfl⟩
theorem clkR_some {l : List UInt8} {o : Int} {rt : Bool} (h : clockT l = some (o, rt)) : clkR l = (o, rt) ∧ (clockT l).isSome = true := by unfold clkR; rw [h]; exact ⟨rfl, rfl⟩
theorem colB_cons (c : UInt8) (R : List UInt8) : colB (c :: R) = (c == 58) := by unfold colB; simp
theorem extract_S1 (c : UInt8) (R : List UInt8) : (S (c :: R)).extract 1 (R.length + 1) = S R := by
  have h : (S (c :: R)).size = R.length + 1 := by rw [S_size, List.length_cons]
  rw [← h, extract_from, S_toList]; rfl

set_option maxHeartbeats 4000000 in
theorem clock_any (s : ByteArray) (w : World) (hs : s.size ≤ 4294967296) :
    Calls Tryd.prog 51 #[.string s] w fun e w' => e = .returned (.tuple #[.int .i64 (clkR s.toList).1, .bool (clkR s.toList).2, .bool (clockT s.toList).isSome]) ∧ Below w.heap.size w w' := by
  rw [← S_of s]
  have hl0 : s.toList.length ≤ 4294967296 := by rw [← size_toList]; exact hs
  rw [S_toList]
  generalize s.toList = l0 at *
  clear hs
  go_enter Tryd.func51, Tryd.ntmps51
  go_wp2
  go_loopw [0, 5, 6, 11] (fun vs vo vr vk wr => ∃ (r : Nat) (l : List UInt8) (o : Int) (rt : Bool), vs = .string (S l) ∧ vo = .int .i64 o ∧ vr = .bool rt ∧ vk = .int .i64 (3 - (r : Int)) ∧ l.length ≤ 4294967296 ∧ 0 ≤ o ∧ ((r = 3 ∧ o = 0 ∧ rt = true) ∨ (r = 2 ∧ o ≤ 99) ∨ (r = 1 ∧ o ≤ 6039) ∨ (r = 0 ∧ o ≤ 362439)) ∧ Below w.heap.size w wr ∧ Hid (clockT l0 = clkGo r l o rt)) (fun _ _ _ k _ => (3 - intOf k).toNat)
  case atStart => exact ⟨3, l0, 0, true, rfl, rfl, rfl, rfl, hl0, Int.le_refl _, .inl ⟨rfl, rfl, rfl⟩, Below.refl _ _, rfl⟩
  case round =>
    obtain ⟨r, l, o, rt, rfl, rfl, rfl, rfl, hll, ho, hr, hbel, hch⟩ := hrel
    clear hl0
    have hz : (S l).size ≤ maxLen := by rw [S_size]; unfold maxLen; omega
    rcases hr with ⟨rfl, rfl, rfl⟩ | ⟨rfl, hob⟩ | ⟨rfl, hob⟩ | ⟨rfl, hob⟩
    · go_wp2_with fail
      refine (field_any (S l) 1 2 _ hz).mono ?_
      rintro e w1 ⟨rfl, hb1⟩
      rw [S_toList]
      have hbel1 := bel_call hbel hb1
      have hfl := field_len (l := l) (a := 1) (b := 2)
      have hfb := field_bd (l := l)
      have h1 := Lib.hid (clk_no (r := 2) (l := l) (o := 0) (rt := true))
      have h2 := Lib.hid (clk_col (r := 2) (l := l) (o := 0) (rt := true))
      have h3 := Lib.hid (clk_go (r := 2) (l := l) (o := 0) (rt := true))
      generalize fieldT l 1 2 = F at *
      obtain ⟨n, R, ok⟩ := F
      simp only at hfl hfb h1 h2 h3 ⊢
      clear hb1 hbel hz
      cases ok with
      | false =>
        have hno := clkR_none (hch.out.trans (h1.out rfl))
        have hn1 := Lib.hid hno.1
        have hn2 := Lib.hid hno.2
        clear hno hch
        go_wp2
        rw [hn1.out, hn2.out]
        go_ret3
        exact ⟨rfl, hbel1⟩
      | true =>
        obtain ⟨hn0, hn9⟩ := hfb rfl
        cases R with
        | nil =>
          have hcb : colB [] = false := rfl
          have hno := clkR_none (hch.out.trans (h2.out (by decide) rfl))
          have hn1 := Lib.hid hno.1
          have hn2 := Lib.hid hno.2
          clear hno hch
          go_wp2
          rw [hn1.out, hn2.out]
          go_ret3
          exact ⟨rfl, hbel1⟩
        | cons c R =>
          cases h58 : (c == 58) with
          | false =>
            have hcb : colB (c :: R) = false := by rw [colB_cons]; exact h58
            have hne : ((c.toNat : Int) != 58) = true := by rw [nec (i := 58) 58 rfl, h58]; rfl
            have hg0 := S_get0 c R
            have hno := clkR_none (hch.out.trans (h2.out (by decide) hcb))
            have hn1 := Lib.hid hno.1
            have hn2 := Lib.hid hno.2
            clear hno hch
            go_wp2
            rw [hn1.out, hn2.out]
            go_ret3
            exact ⟨rfl, hbel1⟩
          | true =>
            have hcb : colB (c :: R) = true := by rw [colB_cons]; exact h58
            have hne : ((c.toNat : Int) != 58) = false := by rw [nec (i := 58) 58 rfl, h58]; rfl
            have hg0 := S_get0 c R
            by_cases g60 : n < 60
            · by_cases g24 : n < 24
              · have hgo := Lib.hid (hch.out.trans (h3.out rfl (.inr hcb)))
                clear hch h1 h2 h3
                go_wp2
                go_roundw
                case rel => exact ⟨2, R, 0 * 60 + n, true, by first | rfl | (rw [extract_S1]), by first | rfl | (congr 1; omega), rfl, rfl, by first | omega | (simp only [List.length_cons] at hfl; omega), by omega, by omega, hbel1, by have := hgo.out; show _ = _; simpa [g60, g24] using this⟩
                case measure => simp [intOf]
              · have hgo := Lib.hid (hch.out.trans (h3.out rfl (.inr hcb)))
                clear hch h1 h2 h3
                go_wp2
                go_roundw
                case rel => exact ⟨2, R, 0 * 60 + n, false, by first | rfl | (rw [extract_S1]), by first | rfl | (congr 1; omega), rfl, rfl, by first | omega | (simp only [List.length_cons] at hfl; omega), by omega, by omega, hbel1, by have := hgo.out; show _ = _; simpa [g60, g24] using this⟩
                case measure => simp [intOf]
            · have g24 : ¬ n < 24 := by omega
              have hgo := Lib.hid (hch.out.trans (h3.out rfl (.inr hcb)))
              clear hch h1 h2 h3
              go_wp2
              go_roundw
              case rel => exact ⟨2, R, 0 * 60 + n, false, by first | rfl | (rw [extract_S1]), by first | rfl | (congr 1; omega), rfl, rfl, by first | omega | (simp only [List.length_cons] at hfl; omega), by omega, by omega, hbel1, by have := hgo.out; show _ = _; simpa [g60, g24] using this⟩
              case measure => simp [intOf]
    · go_wp2_with fail
      refine (field_any (S l) 1 2 _ hz).mono ?_
      rintro e w1 ⟨rfl, hb1⟩
      rw [S_toList]
      have hbel1 := bel_call hbel hb1
      have hfl := field_len (l := l) (a := 1) (b := 2)
      have hfb := field_bd (l := l)
      have h1 := Lib.hid (clk_no (r := 1) (l := l) (o := o) (rt := rt))
      have h2 := Lib.hid (clk_col (r := 1) (l := l) (o := o) (rt := rt))
      have h3 := Lib.hid (clk_go (r := 1) (l := l) (o := o) (rt := rt))
      generalize fieldT l 1 2 = F at *
      obtain ⟨n, R, ok⟩ := F
      simp only at hfl hfb h1 h2 h3 ⊢
      clear hb1 hbel hz
      cases ok with
      | false =>
        have hno := clkR_none (hch.out.trans (h1.out rfl))
        have hn1 := Lib.hid hno.1
        have hn2 := Lib.hid hno.2
        clear hno hch
        go_wp2
        rw [hn1.out, hn2.out]
        go_ret3
        exact ⟨rfl, hbel1⟩
      | true =>
        obtain ⟨hn0, hn9⟩ := hfb rfl
        cases R with
        | nil =>
          have hcb : colB [] = false := rfl
          have hno := clkR_none (hch.out.trans (h2.out (by decide) rfl))
          have hn1 := Lib.hid hno.1
          have hn2 := Lib.hid hno.2
          clear hno hch
          go_wp2
          rw [hn1.out, hn2.out]
          go_ret3
          exact ⟨rfl, hbel1⟩
        | cons c R =>
          cases h58 : (c == 58) with
          | false =>
            have hcb : colB (c :: R) = false := by rw [colB_cons]; exact h58
            have hne : ((c.toNat : Int) != 58) = true := by rw [nec (i := 58) 58 rfl, h58]; rfl
            have hg0 := S_get0 c R
            have hno := clkR_none (hch.out.trans (h2.out (by decide) hcb))
            have hn1 := Lib.hid hno.1
            have hn2 := Lib.hid hno.2
            clear hno hch
            go_wp2
            rw [hn1.out, hn2.out]
            go_ret3
            exact ⟨rfl, hbel1⟩
          | true =>
            have hcb : colB (c :: R) = true := by rw [colB_cons]; exact h58
            have hne : ((c.toNat : Int) != 58) = false := by rw [nec (i := 58) 58 rfl, h58]; rfl
            have hg0 := S_get0 c R
            cases rt with
            | true =>
              by_cases g60 : n < 60
              · have hgo := Lib.hid (hch.out.trans (h3.out rfl (.inr hcb)))
                clear hch h1 h2 h3
                go_wp2
                go_roundw
                case rel => exact ⟨1, R, o * 60 + n, true, by first | rfl | (rw [extract_S1]), by first | rfl | (congr 1; omega), rfl, rfl, by first | omega | (simp only [List.length_cons] at hfl; omega), by omega, by omega, hbel1, by have := hgo.out; show _ = _; simpa [g60] using this⟩
                case measure => simp [intOf]
              · have hgo := Lib.hid (hch.out.trans (h3.out rfl (.inr hcb)))
                clear hch h1 h2 h3
                go_wp2
                go_roundw
                case rel => exact ⟨1, R, o * 60 + n, false, by first | rfl | (rw [extract_S1]), by first | rfl | (congr 1; omega), rfl, rfl, by first | omega | (simp only [List.length_cons] at hfl; omega), by omega, by omega, hbel1, by have := hgo.out; show _ = _; simpa [g60] using this⟩
                case measure => simp [intOf]
            | false =>
              have g60 := hn0
              have hgo := Lib.hid (hch.out.trans (h3.out rfl (.inr hcb)))
              clear hch h1 h2 h3
              go_wp2
              go_roundw
              case rel => exact ⟨1, R, o * 60 + n, false, by first | rfl | (rw [extract_S1]), by first | rfl | (congr 1; omega), rfl, rfl, by first | omega | (simp only [List.length_cons] at hfl; omega), by omega, by omega, hbel1, by have := hgo.out; show _ = _; simpa [hn0] using this⟩
              case measure => simp [intOf]
    · go_wp2_with fail
      refine (field_any (S l) 1 2 _ hz).mono ?_
      rintro e w1 ⟨rfl, hb1⟩
      rw [S_toList]
      have hbel1 := bel_call hbel hb1
      have hfl := field_len (l := l) (a := 1) (b := 2)
      have hfb := field_bd (l := l)
      have h1 := Lib.hid (clk_no (r := 0) (l := l) (o := o) (rt := rt))
      have h2 := Lib.hid (clk_col (r := 0) (l := l) (o := o) (rt := rt))
      have h3 := Lib.hid (clk_go (r := 0) (l := l) (o := o) (rt := rt))
      generalize fieldT l 1 2 = F at *
      obtain ⟨n, R, ok⟩ := F
      simp only at hfl hfb h1 h2 h3 ⊢
      clear hb1 hbel hz
      cases ok with
      | false =>
        have hno := clkR_none (hch.out.trans (h1.out rfl))
        have hn1 := Lib.hid hno.1
        have hn2 := Lib.hid hno.2
        clear hno hch
        go_wp2
        rw [hn1.out, hn2.out]
        go_ret3
        exact ⟨rfl, hbel1⟩
      | true =>
        obtain ⟨hn0, hn9⟩ := hfb rfl
        cases rt with
        | true =>
          by_cases g60 : n < 60
          · have hgo := Lib.hid (hch.out.trans (h3.out rfl (.inl trivial)))
            clear hch h1 h2 h3
            go_wp2
            go_roundw
            case rel => exact ⟨0, l, o * 60 + n, true, rfl, by first | rfl | (congr 1; omega), rfl, rfl, by first | omega | (simp only [List.length_cons] at hfl; omega), by omega, by omega, hbel1, by have := hgo.out; show _ = _; rw [this]; simp [clkGo, g60]⟩
            case measure => simp [intOf]
          · have hgo := Lib.hid (hch.out.trans (h3.out rfl (.inl trivial)))
            clear hch h1 h2 h3
            go_wp2
            go_roundw
            case rel => exact ⟨0, l, o * 60 + n, false, rfl, by first | rfl | (congr 1; omega), rfl, rfl, by first | omega | (simp only [List.length_cons] at hfl; omega), by omega, by omega, hbel1, by have := hgo.out; show _ = _; rw [this]; simp [clkGo, g60]⟩
            case measure => simp [intOf]
        | false =>
          have g60 := hn0
          have hgo := Lib.hid (hch.out.trans (h3.out rfl (.inl trivial)))
          clear hch h1 h2 h3
          go_wp2
          go_roundw
          case rel => exact ⟨0, l, o * 60 + n, false, rfl, by first | rfl | (congr 1; omega), rfl, rfl, by first | omega | (simp only [List.length_cons] at hfl; omega), by omega, by omega, hbel1, by have := hgo.out; show _ = _; rw [this]; simp [clkGo]⟩
          case measure => simp [intOf]
    · have hso := clkR_some (hch.out.trans rfl)
      have hn1 := Lib.hid hso.1
      have hn2 := Lib.hid hso.2
      clear hso hch
      go_wp2
      rw [hn1.out, hn2.out]
      go_ret3
      exact ⟨rfl, hbel⟩
end Go.Proofs.YtagiolhciplniaaDoor
