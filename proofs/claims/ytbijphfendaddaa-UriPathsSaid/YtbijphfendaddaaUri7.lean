/-
  Requests compared; uri.Text; the program answers; the law UriParses.
-/
import Derived.Test.YtbijphfendaddaaUri6
namespace Go.Proofs.Ytbijphfendaddaa
open Go.RowKit
set_option linter.unusedVariables false

def eqRq (a b : ByteArray) (s c : Bool) (a' b' : ByteArray) (s' c' : Bool) : Bool := (a.toList == a'.toList) && ((b.toList == b'.toList) && ((s == s') && (c == c')))
@[go_sem] theorem Try.eqgRq : Try.prog.eqGuardType Try.prog.depth 37 = false := by kernel_rfl
theorem Try.stRq : Try.prog.stoodInHeld 37 = false := by kernel_rfl
theorem Try.unRq : Try.prog.underlying 37 = some (.struct (Try.prog.fieldsOf 37)) := by kernel_rfl
theorem Try.flRq : (Try.prog.fieldsOf 37).toList.map (fun f => (f.name, f.type, f.offset)) = [("Host", 9, 0), ("Path", 9, 1), ("Secure", 4, 2), ("Script", 4, 3)] := by kernel_rfl
@[go_sem ↓] theorem Try.eqlRq (W : World) (a b a' b' : ByteArray) (s c s' c' : Bool) : (Op.equalIn 10000 37 (.agg #[.string a, .string b, .bool s, .bool c]) (.agg #[.string a', .string b', .bool s', .bool c'])).run Try.prog W = .ok (eqRq a b s c a' b' s' c') W := by
  rw [run_equalIn_struct W 9999 37 _ _ Try.unRq Try.stRq]
  have h := Try.flRq
  rcases hl : (Try.prog.fieldsOf 37).toList with _ | ⟨f0, _ | ⟨f1, _ | ⟨f2, _ | ⟨f3, _ | ⟨f4, r⟩⟩⟩⟩⟩
  · rw [hl] at h; simp at h
  · rw [hl] at h; simp at h
  · rw [hl] at h; simp at h
  · rw [hl] at h; simp at h
  · rw [hl] at h
    simp only [List.map_cons, List.map_nil, List.cons.injEq, Prod.mk.injEq] at h
    obtain ⟨⟨h0a, h0b, h0c⟩, ⟨h1a, h1b, h1c⟩, ⟨h2a, h2b, h2c⟩, ⟨h3a, h3b, h3c⟩, _⟩ := h
    simp [Op.eqFields, h0a, h0b, h0c, h1a, h1b, h1c, h2a, h2b, h2c, h3a, h3b, h3c, go_sem]
    unfold eqRq
    by_cases ha : a.toList = a'.toList <;> by_cases hb : b.toList = b'.toList <;> cases s <;> cases s' <;> cases c <;> cases c' <;> simp [ha, hb]
  · rw [hl] at h; simp at h
theorem eqRq_self (r : Rq) : eqRq (S r.h) (S r.p) r.s r.c (S r.h) (S r.p) r.s r.c = true := by unfold eqRq; simp

set_option maxHeartbeats 4000000 in
theorem uText_any (r : Rq) (w : World) (h1 : r.h.length ≤ 4294967280) (h2 : r.p.length ≤ 4294967280) :
    Calls Try.prog 24 #[rqV r] w fun e w' => e = .returned (.tuple (if rightU r then #[.string (S (begU r.s ++ (r.h ++ r.p))), .int .i64 0] else #[.string (S []), .int .i64 1])) ∧ Below w.heap.size w w' := by
  have hB0 := bel_alloc (Below.refl w.heap.size w) (.cells (rqC r) 37)
  have hK0 := Blk.new_ w 37 (rqC r)
  have hK1 : RqAt w r (w.alloc (.cells (rqC r) 37)) := ⟨hK0, hB0⟩
  have c0 := fun s => RqAt.c0 (w := w) (r := r) s
  have c1 := fun s => RqAt.c1 (w := w) (r := r) s
  have c2 := fun s => RqAt.c2 (w := w) (r := r) s
  have hb8 : (begU r.s).length ≤ 8 := by unfold begU; split <;> decide
  clear hK0 hB0
  cases hr : rightU r
  · have hrH := Lib.hid hr
    clear hr
    go_enter Try.func24, Try.ntmps24
    go_wp2_with fail
    refine (uRight_any r _ h1 h2).mono ?_
    rintro e w1 ⟨rfl, hb1⟩
    rw [hrH.out]
    have hbel := (hK1.next _ hb1).2
    clear hK1 hb1
    go_wp2
    go_ret2
    exact ⟨rfl, hbel⟩
  · have hrH := Lib.hid hr
    clear hr
    go_enter Try.func24, Try.ntmps24
    go_wp2_with fail
    refine (uRight_any r _ h1 h2).mono ?_
    rintro e w1 ⟨rfl, hb1⟩
    rw [hrH.out]
    replace hK1 := hK1.next _ hb1
    clear hb1
    go_wp2_with fail
    refine wp_region_class (RqAt w r) (by kernel_rfl) (by kernel_rfl) hK1.drew (fun hne => ?_)
    clear hK1
    repeat (go_big_quiet_step (first | (go_at_call 57; exact cls_same (ubegin_b _ _))))
    refine wpQuiet_nil ?_
    intro w' hw'
    obtain ⟨s, rfl⟩ := hw'
    have hbel := s.ok.2
    clear c0 c1 c2
    go_wp2
    go_ret2
    exact ⟨rfl, hbel⟩

theorem aw10 : parseU [72, 84, 84, 80, 83, 58, 47, 47, 83, 104, 111, 112, 46, 84, 101, 115, 116, 58, 56, 52, 52, 51, 47, 97, 63, 98] = (⟨[115, 104, 111, 112, 46, 116, 101, 115, 116], [47, 97], true, false⟩, 0) := by kernel_rfl

set_option maxHeartbeats 4000000 in
theorem awake10_any (w : World) (hm : Mx w) :
    Calls Try.prog 20 #[] w fun e w' => e = .returned (.bool true) ∧ Below w.heap.size w w' := by
  have hr := Lib.hid aw10
  have he : eqRq (S [115, 104, 111, 112, 46, 116, 101, 115, 116]) (S [47, 97]) true false ⟨#[115, 104, 111, 112, 46, 116, 101, 115, 116]⟩ ⟨#[47, 97]⟩ true false = true := eqRq_self ⟨[115, 104, 111, 112, 46, 116, 101, 115, 116], [47, 97], true, false⟩
  go_enter Try.func20, Try.ntmps20
  go_wp2_with fail
  refine (uparse_any [72, 84, 84, 80, 83, 58, 47, 47, 83, 104, 111, 112, 46, 84, 101, 115, 116, 58, 56, 52, 52, 51, 47, 97, 63, 98] _ (by decide) (by exact hm)).mono ?_
  rintro e w1 ⟨rfl, hb1⟩
  rw [hr.out]
  have hbel := bel_alloc hb1 (.cells (rqC ⟨[115, 104, 111, 112, 46, 116, 101, 115, 116], [47, 97], true, false⟩) 37)
  unfold rqV rqC at *
  simp only at hbel ⊢
  go_wp2
  go_ret
  exact ⟨rfl, hbel⟩

set_option maxHeartbeats 4000000 in
theorem uriParses_any (s : ByteArray) (w : World) (hs : s.size ≤ maxLen) (hm : Mx w) :
    Calls Try.prog 6 #[.string s] w fun e w' => e = .returned (.bool true) ∧ Below w.heap.size w w' := by
  obtain ⟨l, rfl⟩ : ∃ l, s = S l := ⟨s.toList, (S_of s).symm⟩
  rw [S_size] at hs
  unfold maxLen at hs
  by_cases h : 2000 < l.length
  · have hi : (2000 : Int) < l.length := by omega
    clear h
    go_enter Try.func6, Try.ntmps6
    go_wp2_with fail
    refine (awake10_any _ hm).mono ?_
    rintro e w1 ⟨rfl, hb1⟩
    go_wp2
    go_ret
    exact ⟨rfl, hb1⟩
  · have hi : (l.length : Int) ≤ 2000 := by omega
    go_enter Try.func6, Try.ntmps6
    go_wp2_with fail
    refine (uparse_any l _ (by omega) (by exact hm)).mono ?_
    rintro e w1 ⟨rfl, hb1⟩
    have hm1 := hm.next hb1
    obtain ⟨⟨ho, pa, se, sc⟩, er, hp⟩ : ∃ r e, parseU l = (r, e) := ⟨_, _, rfl⟩
    have hpH := Lib.hid hp
    rw [hp]
    have hB1 := bel_alloc hb1 (.cells (rqC ⟨ho, pa, se, sc⟩) 37)
    have hm2 := hm.next hB1
    have hK := Blk.new_ w1 37 (rqC ⟨ho, pa, se, sc⟩)
    have he := eqRq_self ⟨ho, pa, se, sc⟩
    clear hp hb1 hm1
    unfold rqV rqC
    simp only
    go_wp2_with fail
    refine (refParse10_any l _ (by omega)).mono ?_
    rintro e w2 ⟨rfl, hb2⟩
    rw [hpH.out]
    obtain ⟨c0, c1, c2, c3, cf⟩ := rq_cells (hK.below hb2)
    have hlt := (hK.below hb2).lt
    have hB2 := bel_call hB1 hb2
    have hm3 := hm.next (bel_alloc hB2 (.cells (rqC ⟨ho, pa, se, sc⟩) 37))
    have hB3 := bel_alloc hB2 (.cells (rqC ⟨ho, pa, se, sc⟩) 37)
    clear hB1 hm2 hK hb2 hB2
    unfold rqV rqC at *
    simp only at *
    go_wp2_with fail
    refine (awake10_any _ (by exact hm3)).mono ?_
    rintro e w3 ⟨rfl, hb3⟩
    have hB4 := bel_call hB3 hb3
    clear hB3 hb3 hm3
    go_wp2
    go_ret
    exact ⟨rfl, hB4⟩
end Go.Proofs.Ytbijphfendaddaa
