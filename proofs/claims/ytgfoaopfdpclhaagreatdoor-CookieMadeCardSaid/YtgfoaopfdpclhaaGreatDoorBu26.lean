/-
  Joined texts: CanonP UriP Uri1 Uri2.
-/
import Derived.Test.YtgfoaopfdpclhaaGreatDoorBu3
import Derived.Test.YtgfoaopfdpclhaaGreatDoorBu12
import Derived.Test.YtgfoaopfdpclhaaGreatDoorBu24
import Derived.Test.YtgfoaopfdpclhaaGreatDoorBu25
import Derived.Test.YtgfoaopfdpclhaaGreatDoorBu18
import Derived.Lib.IndexBytes
namespace Go.Proofs.YtgfoaopfdpclhaaGreatDoor
open Go.RowKit
set_option linter.unusedVariables false
set_option maxRecDepth 100000

/-- Are all bytes from 33 to 126? -/
def visC (c : UInt8) : Bool := decide (32 < c.toNat) && decide (c.toNat < 127)
def visB (l : List UInt8) : Bool := l.all visC
theorem lowerL_len (l : List UInt8) : (lowerL l).length = l.length := by unfold lowerL; simp
theorem canon_eq {l : List UInt8} : canonT l = if canonB (lowerL l) then (lowerL l, 0) else ([], if 256 < l.length then 3 else 1) := by
  unfold canonT canonB
  by_cases h : 256 < l.length
  · have hn : nameB (lowerL l) = false := by
      unfold nameB
      rw [lowerL_len, decide_eq_false (by omega)]
      rfl
    rw [if_pos h, hn, lowerL_len, decide_eq_false (by omega), if_pos h]
    simp
  · rw [if_neg h, if_neg h, lowerL_len, decide_eq_true (by omega), Bool.and_true]
theorem split_mem {l : List UInt8} {c x : UInt8} (h : x ∈ l) : x = c ∨ ∃ p ∈ splitL l c, x ∈ p := by
  induction l with
  | nil => cases h
  | cons y r ih =>
    by_cases hy : (y == c) = true
    · rw [split_hit r hy]
      rcases List.mem_cons.1 h with e | e
      · exact .inl (by rw [e]; simpa using hy)
      · rcases ih e with h1 | ⟨p, hp, hx⟩
        · exact .inl h1
        · exact .inr ⟨p, List.mem_cons_of_mem _ hp, hx⟩
    · rw [split_miss r hy]
      cases hr : splitL r c with
      | nil => exact absurd hr (split_ne r c)
      | cons a t =>
        rw [hr] at ih
        rcases List.mem_cons.1 h with e | e
        · exact .inr ⟨y :: a, List.mem_cons_self, by rw [e]; exact List.mem_cons_self⟩
        · rcases ih e with h1 | ⟨p, hp, hx⟩
          · exact .inl h1
          · rcases List.mem_cons.1 hp with e2 | e2
            · exact .inr ⟨y :: a, List.mem_cons_self, by rw [← e2]; exact List.mem_cons_of_mem _ hx⟩
            · exact .inr ⟨p, List.mem_cons_of_mem _ e2, hx⟩

/-- The signs of names, and of all canonical texts. -/
def nmC (c : UInt8) : Bool := decide ((97 ≤ c.toNat ∧ c.toNat ≤ 122) ∨ (48 ≤ c.toNat ∧ c.toNat ≤ 57) ∨ c.toNat = 95 ∨ c.toNat = 45 ∨ c.toNat = 46)
def cnC (c : UInt8) : Bool := nmC c || hexB c || c == 91 || c == 93
theorem u8_of {c : UInt8} {n : Nat} (h : c.toNat = n) (hn : n < 256) : c = UInt8.ofNat n := by
  apply UInt8.toNat_inj.1
  rw [h]; simp; omega
theorem nmC_of {c : UInt8} (h : nmC c = true) : lowC c = c ∧ visC c = true ∧ c ≠ 58 ∧ c ≠ 91 ∧ ([47, 63, 35] : List UInt8).contains c = false ∧ digitB c = digitB c := by
  unfold nmC at h
  rw [decide_eq_true_iff] at h
  refine ⟨lowC_no (by omega), by unfold visC; rw [decide_eq_true (by omega), decide_eq_true (by omega)]; rfl, ?_, ?_, ?_, rfl⟩
  · rintro rfl; revert h; decide
  · rintro rfl; revert h; decide
  · rw [Bool.eq_false_iff]
    intro hc
    simp at hc
    rcases hc with rfl | rfl | rfl <;> (revert h; decide)
theorem hex_of {c : UInt8} (h : hexB c = true) : lowC c = c ∧ visC c = true ∧ c ≠ 93 ∧ ([47, 63, 35] : List UInt8).contains c = false := by
  unfold hexB at h
  rw [decide_eq_true_iff] at h
  refine ⟨lowC_no (by omega), by unfold visC; rw [decide_eq_true (by omega), decide_eq_true (by omega)]; rfl, ?_, ?_⟩
  · rintro rfl; revert h; decide
  · rw [Bool.eq_false_iff]
    intro hc
    simp at hc
    rcases hc with rfl | rfl | rfl <;> (revert h; decide)
theorem label_signs {l : List UInt8} (h : labelB l = true) : l ≠ [] ∧ ∀ c ∈ l, nmC c = true := by
  unfold labelB at h
  simp only [Bool.and_eq_true, Bool.not_eq_true', List.isEmpty_eq_false_iff, decide_eq_true_eq, List.all_eq_true, List.mem_range] at h
  refine ⟨h.1.1, fun c hc => ?_⟩
  obtain ⟨j, hj, rfl⟩ := List.getElem_of_mem hc
  have := h.2 j hj
  rw [List.getD_eq_getElem?_getD, List.getElem?_eq_getElem hj] at this
  simp only [Option.getD_some] at this
  unfold signB at this
  unfold nmC
  rw [decide_eq_true_iff]
  split at this
  · omega
  · rw [decide_eq_true_iff] at this; omega
theorem part_signs {p : List UInt8} (h : partB p = true) : p ≠ [] ∧ ∀ c ∈ p, nmC c = true := by
  unfold partB at h
  simp only [Bool.and_eq_true, Bool.not_eq_true', List.isEmpty_eq_false_iff, decide_eq_false_iff_not] at h
  refine ⟨h.1.1.1, fun c hc => ?_⟩
  obtain ⟨j, hj, rfl⟩ := List.getElem_of_mem hc
  have hd := digN_all p j (by omega)
  rw [List.getD_eq_getElem?_getD, List.getElem?_eq_getElem hj] at hd
  simp only [Option.getD_some] at hd
  unfold digitB at hd
  unfold nmC
  rw [decide_eq_true_iff] at hd ⊢
  omega
theorem parts_signs {l : List UInt8} {f : List UInt8 → Bool} (hf : ∀ p, f p = true → p ≠ [] ∧ ∀ c ∈ p, nmC c = true) (h : (splitL l 46).all f = true) : l ≠ [] ∧ ∀ c ∈ l, nmC c = true := by
  rw [List.all_eq_true] at h
  constructor
  · rintro rfl
    exact (hf _ (h [] (by simp [splitL]))).1 rfl
  · intro c hc
    rcases split_mem (c := 46) hc with rfl | ⟨p, hp, hx⟩
    · rfl
    · exact (hf p (h p hp)).2 c hx
/-- A canonical text: in brackets, or of the signs of names alone. -/
theorem canon_signs {h : List UInt8} (hc : canonB h = true) : (∃ m, h = 91 :: (m ++ [93]) ∧ ∀ c ∈ m, hexB c = true) ∨ (h ≠ [] ∧ ∀ c ∈ h, nmC c = true) := by
  unfold canonB at hc
  rw [Bool.or_eq_true] at hc
  rcases hc with hc | hc
  · unfold nameB at hc
    simp only [Bool.and_eq_true] at hc
    exact .inr (parts_signs (fun p hp => label_signs hp) hc.2)
  · unfold addrB at hc
    simp only [Bool.and_eq_true, Bool.or_eq_true] at hc
    rcases hc.1 with hf | hb
    · unfold fourB at hf
      simp only [Bool.and_eq_true] at hf
      exact .inr (parts_signs (fun p hp => part_signs hp) hf.2)
    · left
      unfold bracketB at hb
      simp only [Bool.and_eq_true, decide_eq_true_eq, beq_iff_eq, List.all_eq_true] at hb
      obtain ⟨⟨⟨⟨h1, h2⟩, h3⟩, h4⟩, h5⟩ := hb
      refine ⟨(h.drop 1).take (h.length - 2), ?_, h5⟩
      apply List.ext_getElem
      · simp; omega
      · intro i hi1 hi2
        have hg : ∀ k (hk : k < h.length), h[k] = h.getD k 0 := fun k hk => by rw [List.getD_eq_getElem?_getD, List.getElem?_eq_getElem hk]; rfl
        rcases Nat.eq_zero_or_pos i with rfl | hi
        · rw [hg 0 hi1, h3]; rfl
        · obtain ⟨j, rfl⟩ : ∃ j, i = j + 1 := ⟨i - 1, by omega⟩
          rw [List.getElem_cons_succ]
          by_cases hj : j < h.length - 2
          · rw [List.getElem_append_left (by simp; omega)]
            simp
          · have e : j + 1 = h.length - 1 := by omega
            rw [List.getElem_append_right (by simp; omega), hg _ hi1, e, h4]
            simp
theorem canon_cn {h : List UInt8} (hc : canonB h = true) : h ≠ [] ∧ lowerL h = h ∧ visB h = true ∧ ∀ c ∈ h, ([47, 63, 35] : List UInt8).contains c = false := by
  have key : h ≠ [] ∧ ∀ c ∈ h, lowC c = c ∧ visC c = true ∧ ([47, 63, 35] : List UInt8).contains c = false := by
    rcases canon_signs hc with ⟨m, rfl, hm⟩ | ⟨h1, h2⟩
    · refine ⟨by simp, fun c hcm => ?_⟩
      simp only [List.mem_cons, List.mem_append, List.not_mem_nil, or_false] at hcm
      rcases hcm with rfl | hcm | rfl
      · decide
      · have := hex_of (hm c hcm)
        exact ⟨this.1, this.2.1, this.2.2.2⟩
      · decide
    · refine ⟨h1, fun c hcm => ?_⟩
      have := nmC_of (h2 c hcm)
      exact ⟨this.1, this.2.1, this.2.2.2.2.1⟩
  refine ⟨key.1, ?_, ?_, fun c hcm => (key.2 c hcm).2.2⟩
  · unfold lowerL
    rw [show h.map lowC = h.map id from List.map_congr_left fun c hcm => (key.2 c hcm).1, List.map_id]
  · unfold visB
    rw [List.all_eq_true]
    exact fun c hcm => (key.2 c hcm).2.1
theorem canonT_of {h : List UInt8} (hc : canonB h = true) : canonT h = (h, 0) := by
  rw [canon_eq, (canon_cn hc).2.1, hc]; rfl
theorem canonT_not {h : List UInt8} (hc : canonB h = false) : (canonT h).2 ≠ 0 ∨ ((canonT h).2 = 0 ∧ (canonT h).1 ≠ h) := by
  rw [canon_eq]
  cases hl : canonB (lowerL h)
  · left
    show (if 256 < h.length then (3 : Int) else 1) ≠ 0
    split <;> decide
  · right
    refine ⟨rfl, fun e => ?_⟩
    have e' : lowerL h = h := e
    rw [e'] at hl
    rw [hc] at hl
    cases hl

end Go.Proofs.YtgfoaopfdpclhaaGreatDoor
namespace Go.Proofs.YtgfoaopfdpclhaaGreatDoor
open Go.RowKit
set_option linter.unusedVariables false
set_option maxRecDepth 100000

/-- The place of the first of some signs; the end, if there is none. -/
def findAny : List UInt8 → List UInt8 → Nat
  | [], _ => 0
  | b :: l, q => if q.contains b then 0 else findAny l q + 1
/-- How many bytes a host's text has. -/
def nameK (l : List UInt8) : Nat := if Lib.hasPrefix l [91] then (match cutL l 93 with | none => l.length | some p => p.1.length + 1) else findAny l [58]
/-- Nothing, or a colon and a port? -/
def portB (l : List UInt8) : Bool := l == [] || (l.getD 0 0 == 58 && decide (l.length ≤ 6) && (l == [58] || (decide (digN (l.drop 1) = l.length - 1) && decide (numV (l.drop 1) ≤ 65535))))
/-- Is it https, and a scheme at all? -/
def schT (l : List UInt8) : Bool × Bool := if lowerL l = [104, 116, 116, 112, 115] then (true, true) else if lowerL l = [104, 116, 116, 112] then (false, true) else (false, false)
def wordI (l : List UInt8) : Int := Lib.index l [58, 47, 47]
def pathU (r : List UInt8) : List UInt8 := if Lib.hasPrefix (r.take (findAny r [63, 35])) [47] then r.take (findAny r [63, 35]) else 47 :: r.take (findAny r [63, 35])
def restU (l : List UInt8) : List UInt8 := l.drop ((wordI l).toNat + 3)
def whereU (r : List UInt8) : List UInt8 := r.take (findAny r [47, 63, 35])
def behindU (r : List UInt8) : List UInt8 := r.drop (findAny r [47, 63, 35])
def parseU (l : List UInt8) : Rq × Int :=
  if 1024 < l.length then (rq0, 3)
  else if visB l = false ∨ wordI l < 0 then (rq0, 1)
  else if (schT (l.take (wordI l).toNat)).2 = false then (rq0, 15)
  else if canonB (lowerL ((whereU (restU l)).take (nameK (whereU (restU l))))) = false ∨ portB ((whereU (restU l)).drop (nameK (whereU (restU l)))) = false then (rq0, 1)
  else (⟨lowerL ((whereU (restU l)).take (nameK (whereU (restU l)))), pathU (behindU (restU l)), (schT (l.take (wordI l).toNat)).1, false⟩, 0)

theorem findAny_le (l q : List UInt8) : findAny l q ≤ l.length := by
  induction l with
  | nil => exact Nat.le_refl _
  | cons b l ih =>
    unfold findAny
    split
    · exact Nat.zero_le _
    · simp; exact ih
theorem indexAny_find (l q : List UInt8) : Lib.indexAny l q = if findAny l q < l.length then (findAny l q : Int) else -1 := by
  induction l with
  | nil => rfl
  | cons b l ih =>
    unfold Lib.indexAny findAny
    by_cases h : q.contains b = true
    · rw [if_pos h, if_pos h, if_pos (by simp)]; rfl
    · rw [if_neg h, if_neg h, ih]
      rw [List.length_cons]
      by_cases hk : findAny l q < l.length
      · have e : ((findAny l q : Int) == -1) = false := beq_eq_false_iff_ne.2 (by omega)
        rw [if_pos hk, e, if_neg (by decide), if_pos (by omega)]
        omega
      · rw [if_neg hk]
        rw [if_neg (by omega : ¬ findAny l q + 1 < l.length + 1)]
        rfl
theorem visC_lt {c : UInt8} (h : visC c = true) : c.toNat < 128 := by
  unfold visC at h
  simp at h
  omega
theorem ascii_of {l : List UInt8} (h : ∀ b ∈ l, b.toNat < 128) : ∀ (j : Nat) b, (S l).data.toList[j]? = some b → b.toNat < 128 := by
  intro j b hb
  exact h b (List.mem_of_getElem? hb)
theorem vis_ascii {l : List UInt8} (h : visB l = true) : ∀ b ∈ l, b.toNat < 128 := fun b hb => visC_lt ((List.all_eq_true.1 h) b hb)
theorem nameK_le (l : List UInt8) : nameK l ≤ l.length := by
  unfold nameK
  split
  · rcases hc : cutL l 93 with _ | p
    · exact Nat.le_refl _
    · obtain ⟨_, _, _, c4, _⟩ := cut_some hc
      simp only
      have := congrArg List.length c4
      simp at this
      omega
  · exact findAny_le _ _
end Go.Proofs.YtgfoaopfdpclhaaGreatDoor
namespace Go.Proofs.YtgfoaopfdpclhaaGreatDoor
open Go.RowKit
set_option linter.unusedVariables false
set_option maxRecDepth 100000

theorem visC_any (c : UInt8) (w : World) :
    Calls Tryz.prog 83 #[.int .u8 c.toNat] w fun e w' => e = .returned (.bool (visC c)) ∧ w = w' := by
  by_cases h : (32 : Int) < c.toNat
  · have hT := Lib.hid (show visC c = decide ((c.toNat : Int) < 127) by
      unfold visC
      rw [decide_eq_true (show 32 < c.toNat by omega), Bool.true_and, Bool.eq_iff_iff, decide_eq_true_iff, decide_eq_true_iff]
      omega)
    go_enter Tryz.func83, Tryz.ntmps83
    go_wp2
    go_ret
    rw [hT.out]
    exact ⟨rfl, rfl⟩
  · have hT := Lib.hid (show visC c = false by
      unfold visC
      rw [decide_eq_false (show ¬ 32 < c.toNat by omega)]
      rfl)
    go_enter Tryz.func83, Tryz.ntmps83
    go_wp2
    go_ret
    rw [hT.out]
    exact ⟨rfl, rfl⟩

theorem vis_take_no {l : List UInt8} {k : Nat} (h : k < l.length) (hn : visC (l.getD k 0) = false) : visB l = false := by
  unfold visB
  rw [List.all_eq_false]
  refine ⟨_, List.getElem_mem h, ?_⟩
  rw [List.getD_eq_getElem?_getD, List.getElem?_eq_getElem h] at hn
  simp only [Option.getD_some] at hn
  rw [hn]; decide
theorem vis_take_step {l : List UInt8} {k : Nat} (h : k < l.length) (h1 : visB (l.take k) = true) (hn : visC (l.getD k 0) = true) : visB (l.take (k + 1)) = true := by
  unfold visB at *
  rw [List.getD_eq_getElem?_getD, List.getElem?_eq_getElem h] at hn
  simp only [Option.getD_some] at hn
  rw [all_take_stepL h, h1, hn]; rfl

set_option maxHeartbeats 1000000 in
theorem visible_any (l : List UInt8) (w : World) (hl : l.length ≤ maxLen) :
    Calls Tryz.prog 45 #[.string (S l)] w fun e w' => e = .returned (.bool (visB l)) ∧ w = w' := by
  have hmf : ∀ (fn : Fn) (first cap : Array Value) (w : World), (Instr.makeFunc fn first cap).run Tryz.prog w = .ok (.func fn first cap) w := fun _ _ _ _ => rfl
  unfold maxLen at hl
  go_enter Tryz.func45, Tryz.ntmps45
  go_wp2
  go_loop [7] (fun i => ∃ k : Nat, i = .int .i64 k ∧ k ≤ l.length ∧ Hid (visB (l.take k) = true)) (fun i => l.length - (intOf i).toNat)
  case atStart => exact ⟨0, rfl, by omega, Lib.hid rfl⟩
  case round =>
    obtain ⟨k, rfl, hk, hin⟩ := hrel
    by_cases hlt : k < l.length
    · have hki : (k : Int) < l.length := by omega
      have hg : ∀ h, (S l)[k]'h = l.getD k 0 := fun h => by rw [get_l _ _ h, S_toList]
      cases hv : visC (l.getD k 0)
      · have hno := Lib.hid (vis_take_no hlt hv)
        have hvH := Lib.hid hv
        clear hv hin
        generalize l.getD k 0 = c0 at *
        go_wp2_with fail
        refine (visC_any c0 _).mono ?_
        rintro e w3 ⟨rfl, rfl⟩
        rw [hvH.out]
        go_wp2
        go_ret
        rw [hno.out]
        exact ⟨rfl, rfl⟩
      · have hin2 := Lib.hid (vis_take_step hlt hin.out hv)
        have hvH := Lib.hid hv
        clear hv hin
        generalize l.getD k 0 = c0 at *
        go_wp2_with fail
        refine (visC_any c0 _).mono ?_
        rintro e w3 ⟨rfl, rfl⟩
        rw [hvH.out]
        go_wp2
        go_round
        case rel => exact ⟨k + 1, by go_num, by omega, hin2⟩
        case measure => simp [intOf]; omega
    · obtain rfl : k = l.length := by omega
      have hfin := Lib.hid (show visB l = true by have := hin.out; rwa [List.take_length] at this)
      clear hin
      go_wp2
      go_ret
      rw [hfin.out]
      exact ⟨rfl, rfl⟩

end Go.Proofs.YtgfoaopfdpclhaaGreatDoor
namespace Go.Proofs.YtgfoaopfdpclhaaGreatDoor
open Go.RowKit
set_option linter.unusedVariables false
set_option maxRecDepth 100000

theorem port_eq {l : List UInt8} (h1 : 2 ≤ l.length) : (numOk (l.drop 1) && decide (numV (l.drop 1) ≤ 65535) && !(l.getD 1 0 == 45)) = (decide (digN (l.drop 1) = l.length - 1) && decide (numV (l.drop 1) ≤ 65535)) := by
  match l, h1 with
  | a :: b :: r, _ =>
    show (numOk (b :: r) && decide (numV (b :: r) ≤ 65535) && !(b == 45)) = (decide (digN (b :: r) = r.length + 1) && decide (numV (b :: r) ≤ 65535))
    by_cases hb : b = 45
    · subst hb
      have e : digN (45 :: r) = 0 := rfl
      rw [e, decide_eq_false (show ¬ (0 = r.length + 1) by omega)]
      simp
    · have hq : (b == 45) = false := by rw [beq_eq_false_iff_ne]; exact hb
      have e : numT (b :: r) = b :: r := by
        unfold numT numNeg
        have : (b :: r).getD 0 0 = b := rfl
        rw [this, hq]
        simp
      have e2 : numOk (b :: r) = decide (digN (b :: r) = r.length + 1) := by
        unfold numOk
        rw [e]
        simp
      rw [e2, hq]
      simp

theorem ubegin_any (s : Bool) (w : World) :
    Calls Tryz.prog 47 #[.bool s] w fun e w' => e = .returned (.string (S (if s then [104, 116, 116, 112, 115, 58, 47, 47] else [104, 116, 116, 112, 58, 47, 47]))) ∧ w = w' := by
  cases s
  all_goals
    go_enter Tryz.func47, Tryz.ntmps47
    go_wp2
    go_ret
    exact ⟨rfl, rfl⟩
end Go.Proofs.YtgfoaopfdpclhaaGreatDoor
