/-
  The walks of package ascii, sixth part: small letters.
-/
import Derived.Test.YtgfoaopfdpclhaaAscii5
namespace Go.Proofs.Ytgfoaopfdpclhaa
open Go.RowKit
set_option linter.unusedVariables false

theorem refl_add32 {c : UInt8} (h : 65 ≤ c.toNat) (h' : c.toNat ≤ 90) : UInt8.ofNat (c.toNat + 32) = lowC c := by
  unfold lowC; rw [if_pos ⟨h, h'⟩]
theorem lowerL_snoc (l : List UInt8) (k : Nat) (h : k < l.length) : lowerL (l.take (k + 1)) = lowerL (l.take k) ++ [lowC (l.getD k 0)] := by
  rw [take_succ_getD l k h]; simp [lowerL]

theorem run_bytes_of {P : Program} (src dst e : TypeId) (hs : P.underlying src = some .string) (hd : P.underlying dst = some (.slice e)) (he : P.underlying e = some (.int .u8)) (w : World) (s : ByteArray) :
    (convert src dst (.string s)).run P w = .ok (.slice (some ⟨w.heap.size, 0, none⟩) s.size (grownCap w s.size 0 e))
      (w.drew.alloc (.cells (bytesRow s (grownCap w s.size 0 e)) e ((bytesRow s (grownCap w s.size 0 e)).size, (bytesRow s (grownCap w s.size 0 e)).size + 1))) :=
  run_bytes_of_string w src dst e s hs hd he

/-- The bytes of a text in a block of their own, the first k of them small already. -/
def Lows (w : World) (g k : Nat) (l : List UInt8) : Prop :=
  ∃ cur fr, w.heap[g]? = some (.cells cur 5 fr) ∧ l.length ≤ fr.1 ∧ l.length ≤ cur.size ∧ ∀ j, j < l.length → cur[j]? = some (.int .u8 ((if j < k then lowC (l.getD j 0) else l.getD j 0).toNat))
theorem Lows.cell {w : World} {g k : Nat} {l : List UInt8} (h : Lows w g k l) {j : Nat} (hj : j < l.length) : w.cell? ⟨g, j, none⟩ = some (.int .u8 ((if j < k then lowC (l.getD j 0) else l.getD j 0).toNat)) := by
  obtain ⟨cur, fr, hg, hf, hs, hc⟩ := h
  unfold World.cell?
  rw [hg]
  exact hc j hj
theorem Lows.free {w : World} {g k : Nat} {l : List UInt8} (h : Lows w g k l) {j : Nat} (hj : j < l.length) : w.frozen? ⟨g, j, none⟩ = false := by
  obtain ⟨cur, fr, hg, hf, hs, hc⟩ := h
  unfold World.frozen?
  rw [hg]
  simp
  omega
theorem Lows.step {w : World} {g k : Nat} {l : List UInt8} (h : Lows w g k l) (hk : k < l.length) : Lows (w.setCell ⟨g, k, none⟩ (.int .u8 (lowC (l.getD k 0)).toNat)) g (k + 1) l := by
  obtain ⟨cur, fr, hg, hf, hs, hc⟩ := h
  refine ⟨cur.setIfInBounds k (.int .u8 (lowC (l.getD k 0)).toNat), fr, ?_, hf, by simpa using hs, fun j hj => ?_⟩
  · simp [World.setCell, Array.getElem?_modify, hg]
  · rw [Array.getElem?_setIfInBounds]
    by_cases e : k = j
    · subst e
      rw [if_pos rfl, if_pos (by omega), if_pos (by omega)]
    · rw [if_neg e, hc j hj]
      by_cases h1 : j < k
      · rw [if_pos h1, if_pos (by omega)]
      · rw [if_neg h1, if_neg (by omega)]

theorem lows_start (w : World) (s : ByteArray) (e : TypeId) (he : e = 5 := by rfl) :
    Lows ((w.alloc (Obj.cells (bytesRow s (grownCap w s.size 0 e)) e ((bytesRow s (grownCap w s.size 0 e)).size, (bytesRow s (grownCap w s.size 0 e)).size + 1))).drew) w.heap.size 0 s.toList := by
  subst he
  have hsz := size_toList s
  have hge := grownCap_ge w s.size 0 5
  have hbs : s.size ≤ (bytesRow s (grownCap w s.size 0 5)).size := by
    rcases Nat.lt_or_ge (bytesRow s (grownCap w s.size 0 5)).size s.size with h | h
    · have := bytesRow_at s (grownCap w s.size 0 5) _ h
      rw [Array.getElem?_eq_none (Nat.le_refl _)] at this
      cases this
    · exact h
  refine ⟨_, _, heap_alloc_new w _, by rw [← hsz]; exact hbs, by rw [← hsz]; exact hbs, fun j hj => ?_⟩
  rw [if_neg (by omega), ← get_l s j (by rw [hsz]; exact hj)]
  have hj2 : j < s.data.size := by rw [← hsz] at hj; exact hj
  rw [bytesRow_at s _ j hj2]
  rfl

theorem own_base {w : World} {B B' : Nat} {e : TypeId} {sz n : Nat} {v : Value} {xs : List Value} (h : w.ownsRow B e sz v n xs) (hB : B' ≤ B) : w.ownsRow B' e sz v n xs := by
  refine ⟨h.1, ?_⟩
  rcases h.2 with h2 | ⟨g, cap, cur, hv, hg, r⟩
  · exact .inl h2
  · exact .inr ⟨g, cap, cur, hv, Nat.le_trans hB hg, r⟩
theorem all_take_stepL {α : Type} {p : α → Bool} {l : List α} {k : Nat} (h : k < l.length) : (l.take (k + 1)).all p = ((l.take k).all p && p l[k]) := by
  rw [List.take_succ_eq_append_getElem h, List.all_append]; simp
theorem all_badL {α : Type} {p : α → Bool} {l : List α} {k : Nat} (h : k < l.length) (hp : p l[k] = false) : l.all p = false := by
  rw [List.all_eq_false]
  exact ⟨l[k], List.getElem_mem h, by simp [hp]⟩

set_option maxHeartbeats 1000000 in
theorem lowerA_any (s : ByteArray) (w : World) (hs : s.size ≤ 4294967296) :
    Calls Try.prog 65 #[.string s] w fun e w' => e = .returned (.string (S (lowerL s.toList))) ∧ Below w.heap.size w w' := by
  have hsz := Lib.hid (size_toList s)
  have hcv := @run_bytes_of Try.prog 9 55 5 Try.underlying9 Try.underlying55 Try.underlying5
  go_enter Try.func65, Try.ntmps65
  go_wp2
  have hstart : Lows ((w.alloc (Obj.cells (bytesRow s (grownCap w s.size 0 5)) 5 ((bytesRow s (grownCap w s.size 0 5)).size, (bytesRow s (grownCap w s.size 0 5)).size + 1))).drew) w.heap.size 0 s.toList := by
    have hge := grownCap_ge w s.size 0 5
    have hbs : s.size ≤ (bytesRow s (grownCap w s.size 0 5)).size := by
      rcases Nat.lt_or_ge (bytesRow s (grownCap w s.size 0 5)).size s.size with h | h
      · have := bytesRow_at s (grownCap w s.size 0 5) _ h
        rw [Array.getElem?_eq_none (Nat.le_refl _)] at this
        cases this
      · exact h
    refine ⟨_, _, heap_alloc_new w _, by rw [← hsz.out]; exact hbs, by rw [← hsz.out]; exact hbs, fun j hj => ?_⟩
    rw [if_neg (by omega), ← get_l s j (by rw [hsz.out]; exact hj)]
    have hj2 : j < s.data.size := by rw [← hsz.out] at hj; exact hj
    rw [bytesRow_at s _ j hj2]
    rfl
  have hcap := Lib.hid (grownCap_ge w s.size 0 5)
  generalize grownCap w s.size 0 5 = cap at *
  go_loopw [9] (fun i wr => ∃ (k : Nat), i = .int .i64 k ∧ k ≤ s.size ∧ Below w.heap.size w wr ∧ w.heap.size ≤ wr.heap.size ∧ Lows wr w.heap.size k s.toList) (fun i _ => s.size - (intOf i).toNat)
  case atStart => exact ⟨0, rfl, Nat.zero_le _, ((Below.refl _ _).alloc (Nat.le_refl _) _).drew, by simp, hstart⟩
  case round =>
    obtain ⟨k, rfl, hk, hbel, hszw, hL⟩ := hrel
    clear hcv hstart
    by_cases hlt : k < s.size
    · have hlti : (k : Int) < s.size := by omega
      have hlt' : k < s.toList.length := by rw [← hsz.out]; exact hlt
      have hcell := hL.cell hlt'
      rw [if_neg (by omega)] at hcell
      have hfree := hL.free hlt'
      have hs2 := Lib.hid (show Lows (wr.setCell ⟨w.heap.size, k, none⟩ (.int .u8 (lowC s.toList[k]).toNat)) w.heap.size (k + 1) s.toList by
        have h := hL.step hlt'
        rw [List.getD_eq_getElem?_getD, List.getElem?_eq_getElem hlt'] at h
        exact h)
      go_wp2_with (go_at_call 82; refine (lower_any _ _).mono ?_; rintro e w' ⟨rfl, rfl⟩)
      go_roundw
      case rel => exact ⟨k + 1, by go_num, by omega, hbel.setCell (by simp) _, by simpa [World.setCell] using hszw, hs2.out⟩
      case measure => simp [intOf]; omega
    · obtain rfl : k = s.size := by omega
      have hconv : (convert 55 9 (.slice (some ⟨w.heap.size, 0, none⟩) s.size cap)).run Try.prog wr = .ok (.string (S (lowerL s.toList))) wr := by
        refine run_bytes_S wr 55 9 5 _ s.size cap (lowerL s.toList) (by unfold lowerL; rw [List.length_map, ← hsz.out]) Try.underlying55 Try.underlying5 Try.underlying9 (fun j hj => ?_)
        have hj' : j < s.toList.length := by unfold lowerL at hj; simpa using hj
        rw [add_none, Nat.zero_add, hL.cell hj', if_pos (by rw [hsz.out]; exact hj')]
        unfold lowerL
        rw [List.getD_eq_getElem?_getD, List.getD_eq_getElem?_getD, List.getElem?_map, List.getElem?_eq_getElem hj']
        rfl
      go_wp2
      go_ret
      exact ⟨rfl, hbel⟩
end Go.Proofs.Ytgfoaopfdpclhaa
