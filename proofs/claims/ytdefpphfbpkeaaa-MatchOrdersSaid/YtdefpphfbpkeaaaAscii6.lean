/-
  The walks of package ascii, sixth part: small letters.
-/
import Derived.Test.YtdefpphfbpkeaaaAscii5
namespace Go.Proofs.Ytdefpphfbpkeaaa
open Go.RowKit
set_option linter.unusedVariables false

theorem refl_add32 {c : UInt8} (h : 65 ≤ c.toNat) (h' : c.toNat ≤ 90) : UInt8.ofNat (c.toNat + 32) = lowC c := by
  unfold lowC; rw [if_pos ⟨h, h'⟩]
theorem lowerL_snoc (l : List UInt8) (k : Nat) (h : k < l.length) : lowerL (l.take (k + 1)) = lowerL (l.take k) ++ [lowC (l.getD k 0)] := by
  rw [take_succ_getD l k h]; simp [lowerL]

theorem run_bytes_of {P : Program} (src dst e : TypeId) (hs : P.underlying src = some .string) (hd : P.underlying dst = some (.slice e)) (he : P.underlying e = some (.int .u8)) (w : World) (s : ByteArray) :
    (convert src dst (.string s)).run P w = .ok (.slice (some ⟨w.heap.size, 0, none⟩) s.size (grownCap w s.size 0 e))
      (w.drew.alloc (.cells (bytesRow s (grownCap w s.size 0 e)) e ((bytesRow s (grownCap w s.size 0 e)).size, (bytesRow s (grownCap w s.size 0 e)).size + 1))) :=
  run_bytes_of_string w src dst e s hs hd he

/-- The bytes of a text in a block of their own, the first k of them small already. -/
def Lows (w : World) (g k : Nat) (l : List UInt8) : Prop :=
  ∃ cur fr, w.heap[g]? = some (.cells cur 5 fr) ∧ l.length ≤ fr.1 ∧ l.length ≤ cur.size ∧ ∀ j, j < l.length → cur[j]? = some (.int .u8 ((if j < k then lowC (l.getD j 0) else l.getD j 0).toNat))
theorem Lows.cell {w : World} {g k : Nat} {l : List UInt8} (h : Lows w g k l) {j : Nat} (hj : j < l.length) : w.cell? ⟨g, j, none⟩ = some (.int .u8 ((if j < k then lowC (l.getD j 0) else l.getD j 0).toNat)) := by
  obtain ⟨cur, fr, hg, hf, hs, hc⟩ := h
  unfold World.cell?
  rw [hg]
  exact hc j hj
theorem Lows.free {w : World} {g k : Nat} {l : List UInt8} (h : Lows w g k l) {j : Nat} (hj : j < l.length) : w.frozen? ⟨g, j, none⟩ = false := by
  obtain ⟨cur, fr, hg, hf, hs, hc⟩ := h
  unfold World.frozen?
  rw [hg]
  simp
  omega
theorem Lows.step {w : World} {g k : Nat} {l : List UInt8} (h : Lows w g k l) (hk : k < l.length) : Lows (w.setCell ⟨g, k, none⟩ (.int .u8 (lowC (l.getD k 0)).toNat)) g (k + 1) l := by
  obtain ⟨cur, fr, hg, hf, hs, hc⟩ := h
  refine ⟨cur.setIfInBounds k (.int .u8 (lowC (l.getD k 0)).toNat), fr, ?_, hf, by simpa using hs, fun j hj => ?_⟩
  · simp [World.setCell, Array.getElem?_modify, hg]
  · rw [Array.getElem?_setIfInBounds]
    by_cases e : k = j
    · subst e
      rw [if_pos rfl, if_pos (by omega), if_pos (by omega)]
    · rw [if_neg e, hc j hj]
      by_cases h1 : j < k
      · rw [if_pos h1, if_pos (by omega)]
      · rw [if_neg h1, if_neg (by omega)]

theorem lows_start (w : World) (s : ByteArray) (e : TypeId) (he : e = 5 := by rfl) :
    Lows ((w.alloc (Obj.cells (bytesRow s (grownCap w s.size 0 e)) e ((bytesRow s (grownCap w s.size 0 e)).size, (bytesRow s (grownCap w s.size 0 e)).size + 1))).drew) w.heap.size 0 s.toList := by
  subst he
  have hsz := size_toList s
  have hge := grownCap_ge w s.size 0 5
  have hbs : s.size ≤ (bytesRow s (grownCap w s.size 0 5)).size := by
    rcases Nat.lt_or_ge (bytesRow s (grownCap w s.size 0 5)).size s.size with h | h
    · have := bytesRow_at s (grownCap w s.size 0 5) _ h
      rw [Array.getElem?_eq_none (Nat.le_refl _)] at this
      cases this
    · exact h
  refine ⟨_, _, heap_alloc_new w _, by rw [← hsz]; exact hbs, by rw [← hsz]; exact hbs, fun j hj => ?_⟩
  rw [if_neg (by omega), ← get_l s j (by rw [hsz]; exact hj)]
  have hj2 : j < s.data.size := by rw [← hsz] at hj; exact hj
  rw [bytesRow_at s _ j hj2]
  rfl

theorem own_base {w : World} {B B' : Nat} {e : TypeId} {sz n : Nat} {v : Value} {xs : List Value} (h : w.ownsRow B e sz v n xs) (hB : B' ≤ B) : w.ownsRow B' e sz v n xs := by
  refine ⟨h.1, ?_⟩
  rcases h.2 with h2 | ⟨g, cap, cur, hv, hg, r⟩
  · exact .inl h2
  · exact .inr ⟨g, cap, cur, hv, Nat.le_trans hB hg, r⟩
theorem all_take_stepL {α : Type} {p : α → Bool} {l : List α} {k : Nat} (h : k < l.length) : (l.take (k + 1)).all p = ((l.take k).all p && p l[k]) := by
  rw [List.take_succ_eq_append_getElem h, List.all_append]; simp
theorem all_badL {α : Type} {p : α → Bool} {l : List α} {k : Nat} (h : k < l.length) (hp : p l[k] = false) : l.all p = false := by
  rw [List.all_eq_false]
  exact ⟨l[k], List.getElem_mem h, by simp [hp]⟩

end Go.Proofs.Ytdefpphfbpkeaaa
