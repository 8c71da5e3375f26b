/-
  Addresses of requests in plain words: signs, names, ports, schemes, requests.
-/
import Derived.Test.YtbijphfendaddaaSuf10
import Derived.Test.YtbijphfendaddaaShelf
import Derived.Lib.IndexBytes
namespace Go.Proofs.Ytbijphfendaddaa
open Go.RowKit
set_option linter.unusedVariables false

/-- Are all bytes from 33 to 126? -/
def visC (c : UInt8) : Bool := decide (32 < c.toNat) && decide (c.toNat < 127)
def visB (l : List UInt8) : Bool := l.all visC
/-- The place of the first of some signs; the end, if there is none. -/
def findAny : List UInt8 → List UInt8 → Nat
  | [], _ => 0
  | b :: l, q => if q.contains b then 0 else findAny l q + 1
/-- How many bytes a host's text has. -/
def nameK (l : List UInt8) : Nat := if Lib.hasPrefix l [91] then (match cutL l 93 with | none => l.length | some p => p.1.length + 1) else findAny l [58]
/-- Nothing, or a colon and a port? -/
def portB (l : List UInt8) : Bool := l == [] || (l.getD 0 0 == 58 && decide (l.length ≤ 6) && (l == [58] || (decide (digN (l.drop 1) = l.length - 1) && decide (numV (l.drop 1) ≤ 65535))))
/-- Is it https, and a scheme at all? -/
def schT (l : List UInt8) : Bool × Bool := if lowerL l = [104, 116, 116, 112, 115] then (true, true) else if lowerL l = [104, 116, 116, 112] then (false, true) else (false, false)
def wordI (l : List UInt8) : Int := Lib.index l [58, 47, 47]
def pathU (r : List UInt8) : List UInt8 := if Lib.hasPrefix (r.take (findAny r [63, 35])) [47] then r.take (findAny r [63, 35]) else 47 :: r.take (findAny r [63, 35])
/-- A request: its host, its path, is it secure, and a script's? -/
structure Rq where
  h : List UInt8
  p : List UInt8
  s : Bool
  c : Bool
deriving DecidableEq
def rqC (r : Rq) : Array Value := #[.string (S r.h), .string (S r.p), .bool r.s, .bool r.c]
abbrev rqV (r : Rq) : Value := .agg (rqC r)
def rq0 : Rq := ⟨[], [], false, false⟩
def restU (l : List UInt8) : List UInt8 := l.drop ((wordI l).toNat + 3)
def whereU (r : List UInt8) : List UInt8 := r.take (findAny r [47, 63, 35])
def behindU (r : List UInt8) : List UInt8 := r.drop (findAny r [47, 63, 35])
def parseU (l : List UInt8) : Rq × Int :=
  if 1024 < l.length then (rq0, 3)
  else if visB l = false ∨ wordI l < 0 then (rq0, 1)
  else if (schT (l.take (wordI l).toNat)).2 = false then (rq0, 15)
  else if canonB (lowerL ((whereU (restU l)).take (nameK (whereU (restU l))))) = false ∨ portB ((whereU (restU l)).drop (nameK (whereU (restU l)))) = false then (rq0, 1)
  else (⟨lowerL ((whereU (restU l)).take (nameK (whereU (restU l)))), pathU (behindU (restU l)), (schT (l.take (wordI l).toNat)).1, false⟩, 0)

theorem findAny_le (l q : List UInt8) : findAny l q ≤ l.length := by
  induction l with
  | nil => exact Nat.le_refl _
  | cons b l ih =>
    unfold findAny
    split
    · exact Nat.zero_le _
    · simp; exact ih
theorem indexAny_find (l q : List UInt8) : Lib.indexAny l q = if findAny l q < l.length then (findAny l q : Int) else -1 := by
  induction l with
  | nil => rfl
  | cons b l ih =>
    unfold Lib.indexAny findAny
    by_cases h : q.contains b = true
    · rw [if_pos h, if_pos h, if_pos (by simp)]; rfl
    · rw [if_neg h, if_neg h, ih]
      rw [List.length_cons]
      by_cases hk : findAny l q < l.length
      · have e : ((findAny l q : Int) == -1) = false := beq_eq_false_iff_ne.2 (by omega)
        rw [if_pos hk, e, if_neg (by decide), if_pos (by omega)]
        omega
      · rw [if_neg hk]
        rw [if_neg (by omega : ¬ findAny l q + 1 < l.length + 1)]
        rfl
theorem visC_lt {c : UInt8} (h : visC c = true) : c.toNat < 128 := by
  unfold visC at h
  simp at h
  omega
theorem ascii_of {l : List UInt8} (h : ∀ b ∈ l, b.toNat < 128) : ∀ (j : Nat) b, (S l).data.toList[j]? = some b → b.toNat < 128 := by
  intro j b hb
  exact h b (List.mem_of_getElem? hb)
theorem vis_ascii {l : List UInt8} (h : visB l = true) : ∀ b ∈ l, b.toNat < 128 := fun b hb => visC_lt ((List.all_eq_true.1 h) b hb)
theorem nameK_le (l : List UInt8) : nameK l ≤ l.length := by
  unfold nameK
  split
  · rcases hc : cutL l 93 with _ | p
    · exact Nat.le_refl _
    · obtain ⟨_, _, _, c4, _⟩ := cut_some hc
      simp only
      have := congrArg List.length c4
      simp at this
      omega
  · exact findAny_le _ _
theorem lowerL_len (l : List UInt8) : (lowerL l).length = l.length := by unfold lowerL; simp
theorem canon_eq {l : List UInt8} : canonT l = if canonB (lowerL l) then (lowerL l, 0) else ([], if 256 < l.length then 3 else 1) := by
  unfold canonT canonB
  by_cases h : 256 < l.length
  · have hn : nameB (lowerL l) = false := by
      unfold nameB
      rw [lowerL_len, decide_eq_false (by omega)]
      rfl
    rw [if_pos h, hn, lowerL_len, decide_eq_false (by omega), if_pos h]
    simp
  · rw [if_neg h, if_neg h, lowerL_len, decide_eq_true (by omega), Bool.and_true]
end Go.Proofs.Ytbijphfendaddaa
