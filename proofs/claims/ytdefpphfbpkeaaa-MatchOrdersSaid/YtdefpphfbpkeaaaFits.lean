/-
  The walks: is a cookie over; does an item go with a request?
-/
import Derived.Test.YtdefpphfbpkeaaaHost5
import Derived.Test.YtdefpphfbpkeaaaMatchO
import Derived.Test.YtdefpphfbpkeaaaRq
import Derived.Deep.DeepCutAuto
namespace Go.Proofs.Ytdefpphfbpkeaaa
open Go.RowKit
set_option linter.unusedVariables false

def overB (c : Ck) (now : Int) : Bool := c.pe && decide (c.ex ≤ now)
/-- Does an item go with a request at a time? -/
def fitsR (x : It) (r : Rq) (now : Int) : Bool := (r.h == x.k.d || (!x.c.ho && matchB r.h x.k.d)) && (!overB x.c now && (fitB r.p x.k.p && ((!x.c.se || r.s) && (!x.c.ht || !r.c))))
@[simp, go_sem] theorem cCk_0 (k : Ck) : (cCk k)[0]? = some (.string (S k.v)) := rfl
@[simp, go_sem] theorem cCk_1 (k : Ck) : (cCk k)[1]? = some (.bool k.ho) := rfl
@[simp, go_sem] theorem cCk_2 (k : Ck) : (cCk k)[2]? = some (.bool k.se) := rfl
@[simp, go_sem] theorem cCk_3 (k : Ck) : (cCk k)[3]? = some (.bool k.ht) := rfl
@[simp, go_sem] theorem cCk_4 (k : Ck) : (cCk k)[4]? = some (.bool k.pe) := rfl
@[simp, go_sem] theorem cCk_5 (k : Ck) : (cCk k)[5]? = some (.int .i64 k.ex) := rfl
@[simp, go_sem] theorem cCk_g0 (k : Ck) (h : 0 < (cCk k).length) : (cCk k)[0] = .string (S k.v) := rfl
@[simp, go_sem] theorem cCk_g1 (k : Ck) (h : 1 < (cCk k).length) : (cCk k)[1] = .bool k.ho := rfl
@[simp, go_sem] theorem cCk_g2 (k : Ck) (h : 2 < (cCk k).length) : (cCk k)[2] = .bool k.se := rfl
@[simp, go_sem] theorem cCk_g3 (k : Ck) (h : 3 < (cCk k).length) : (cCk k)[3] = .bool k.ht := rfl
@[simp, go_sem] theorem cCk_g4 (k : Ck) (h : 4 < (cCk k).length) : (cCk k)[4] = .bool k.pe := rfl
@[simp, go_sem] theorem cCk_g5 (k : Ck) (h : 5 < (cCk k).length) : (cCk k)[5] = .int .i64 k.ex := rfl
@[simp, go_sem] theorem cCk_g6 (k : Ck) (h : 6 < (cCk k).length) : (cCk k)[6] = .int .i64 k.cr := rfl
@[simp, go_sem] theorem cCk_g7 (k : Ck) (h : 7 < (cCk k).length) : (cCk k)[7] = .int .i64 k.ac := rfl
noncomputable def ckAt (w : World) (b o : Nat) : Option Ck := rdAt cCk w b o
theorem ckAt_of {w : World} {b o : Nat} {k : Ck} (h : w.rangeAt b o (cCk k)) : ckAt w b o = some k := rdAt_of (fun _ _ => cCk_inj) (fun _ _ => rfl) h
theorem ckAt_it {w : World} {b o : Nat} {x : It} (h : itAt w b o = some x) : ckAt w b (o + 3) = some x.c := ckAt_of (range_part (l := cK x.k) (m := cCk x.c) (r := []) (by rw [List.append_nil]; exact rdAt_range (f := cI) h))
@[go_sem] theorem ckAt_drew (w : World) (b o : Nat) : ckAt w.drew b o = ckAt w b o := rdAt_drew _ _ _ _
@[go_sem] theorem ckAt_alloc (w : World) (ob : Obj) (b o : Nat) (h : b < w.heap.size) : ckAt (w.alloc ob) b o = ckAt w b o := rdAt_alloc _ _ _ _ _ h
@[go_sem] theorem ckAt_newI (w : World) (k : It) (t g : Nat) (hg : w.heap.size = g) : ckAt (w.alloc (.cells (cI k).toArray t)) g 3 = some k.c := by
  have := ckAt_it (itAt_new w k t g hg)
  exact this
section
variable (w : World)
def loadCk (a : Addr) : Sem Value := loadVar 49 a
def stuckCk (a : Addr) : Sem Value := loadVar 49 a
@[go_sem ↓] theorem to_loadCk (a : Addr) : loadVar 49 a = loadCk a := rfl
@[go_sem] theorem run_loadCk (b o : Nat) : (loadCk ⟨b, o, none⟩).run Try.prog w = match ckAt w b o with
    | some k => .ok (vCk k) w
    | none => (stuckCk ⟨b, o, none⟩).run Try.prog w := by
  cases h : ckAt w b o with
  | none => rfl
  | some k =>
    have hu : ∃ d, Try.prog.underlying 49 = some d ∧ d.isRow = true := ⟨.struct (Try.prog.fieldsOf 49), by kernel_rfl, rfl⟩
    obtain ⟨d, hd, hr⟩ := hu
    exact run_loadVar_mid w b o 49 (cCk k) d (rdAt_range h) hd hr (by kernel_rfl)
end
theorem ck_cells {w : World} {b o : Nat} {c : Ck} (h : ckAt w b o = some c) : w.cell? ⟨b, o + 1, none⟩ = some (.bool c.ho) ∧ w.cell? ⟨b, o + 2, none⟩ = some (.bool c.se) ∧ w.cell? ⟨b, o + 3, none⟩ = some (.bool c.ht) ∧ w.cell? ⟨b, o + 4, none⟩ = some (.bool c.pe) ∧ w.cell? ⟨b, o + 5, none⟩ = some (.int .i64 c.ex) :=
  have hr : w.rangeAt b o (cCk c) := rdAt_range (f := cCk) h
  ⟨hr 1 _ rfl, hr 2 _ rfl, hr 3 _ rfl, hr 4 _ rfl, hr 5 _ rfl⟩
theorem over_any (c : Ck) (now : Int) (w : World) : Calls Try.prog 69 #[vCk c, .int .i64 now] w fun e w' => e = .returned (.bool (overB c now)) ∧ Below w.heap.size w w' := by
  have hB := bel_alloc (Below.refl w.heap.size w) (.cells (cCk c).toArray 49)
  have hC : ckAt (w.alloc (.cells (cCk c).toArray 49)) w.heap.size 0 = some c := ckAt_of (range_blk (heap_alloc_new w _))
  obtain ⟨_, _, _, q4, q5⟩ := ck_cells hC
  rw [Nat.zero_add] at q4 q5
  clear hC
  cases hp : c.pe with
  | false =>
    have hf := Lib.hid (show overB c now = false by unfold overB; rw [hp]; rfl)
    rw [hp] at q4
    clear hp
    go_enter Try.func69, Try.ntmps69
    go_wp2
    go_ret
    exact ⟨ret_bool hf.out.symm, hB⟩
  | true =>
    have hf := Lib.hid (show overB c now = decide (c.ex ≤ now) by unfold overB; rw [hp]; rfl)
    rw [hp] at q4
    clear hp
    go_enter Try.func69, Try.ntmps69
    go_wp2
    go_ret
    exact ⟨ret_bool hf.out.symm, hB⟩

def setCk (a : Addr) (x : Value) : Sem Unit := storeVar 49 a x
@[go_sem ↓] theorem to_setCk (a : Addr) (x : Value) : storeVar 49 a x = setCk a x := rfl
theorem run_setCk' (w : World) (b o : Nat) (l : List Value) (hl : l.length = 8) (h1 : oneB l = true) (h : w.there b o 8) : (setCk ⟨b, o, none⟩ (.agg l.toArray)).run Try.prog w = .ok () (w.setCells b o l) := by
  have hs : l.toArray.size = 8 := by simpa using hl
  have := run_storeVar_mid (P := Try.prog) w b o 49 l.toArray (by rw [hs]; exact h) (by rw [hs]; kernel_rfl) (all_oneCell_toArray (oneB_all h1))
  rw [List.toList_toArray] at this
  exact this
@[go_sem] theorem run_setCk (w : World) (b o : Nat) (x : Ck) (h : w.there b o 8) : (setCk ⟨b, o, none⟩ (vCk x)).run Try.prog w = .ok () (w.setCells b o (cCk x)) := run_setCk' w b o (cCk x) rfl rfl h

/-- What the walk of 'Fits' reads. -/
def FitS (w : World) (g : Nat) (x : It) (r : Rq) : Prop := (itAt w g 0 = some x ∧ Blk w (g + 1) 61 (rqC r)) ∧ ckAt w (g + 2) 0 = some x.c
theorem fitS_later {w w1 : World} {g : Nat} {x : It} {r : Rq} (h : FitS w g x r) (hb : Below w.heap.size w w1) : FitS w1 g x r :=
  ⟨⟨itAt_later h.1.1 hb, h.1.2.below hb⟩, rdAt_kept hb (World.block_lt_of_cell? w _ (ck_cells h.2).1) h.2⟩
theorem fitS_cells {w : World} {g : Nat} {x : It} {r : Rq} (h : FitS w g x r) :
    w.cell? ⟨g, 1, none⟩ = some (.string (S x.k.d)) ∧ w.cell? ⟨g, 2, none⟩ = some (.string (S x.k.p)) ∧ w.cell? ⟨g + 1, 0, none⟩ = some (.string (S r.h)) ∧ w.cell? ⟨g + 1, 1, none⟩ = some (.string (S r.p)) ∧ w.cell? ⟨g + 1, 2, none⟩ = some (.bool r.s) ∧ w.cell? ⟨g + 1, 3, none⟩ = some (.bool r.c) ∧ w.cell? ⟨g + 2, 1, none⟩ = some (.bool x.c.ho) ∧ w.cell? ⟨g + 2, 2, none⟩ = some (.bool x.c.se) ∧ w.cell? ⟨g + 2, 3, none⟩ = some (.bool x.c.ht) ∧ ckAt w (g + 2) 0 = some x.c := by
  obtain ⟨⟨h1, h2⟩, h3⟩ := h
  have hr : w.rangeAt g 0 (cI x) := rdAt_range (f := cI) h1
  obtain ⟨c1, c2, c3, _, _⟩ := ck_cells h3
  rw [Nat.zero_add] at c1 c2 c3
  have r1 := hr 1 _ (cI_1 x)
  have r2 := hr 2 _ (cI_2 x)
  rw [Nat.zero_add] at r1 r2
  exact ⟨r1, r2, h2.cell 0, h2.cell 1, h2.cell 2, h2.cell 3, c1, c2, c3, h3⟩
def nearB (x : It) (r : Rq) : Bool := r.h == x.k.d || (!x.c.ho && matchB r.h x.k.d)
set_option maxHeartbeats 2000000 in
theorem fits_any' (x : It) (r : Rq) (now : Int) (w : World) (h1 : r.h.length ≤ 4294967296) (h2 : x.k.d.length ≤ 4294967296) (h3 : r.p.length ≤ 4294967296) (h4 : x.k.p.length ≤ 4294967296) :
    Calls Try.prog 58 #[vI x, rqV r, .int .i64 now] w fun e w' => e = .returned (.bool (fitsR x r now)) ∧ Below w.heap.size w w' := by
  go_enter Try.func58, Try.ntmps58
  have hF0 : FitS (((w.alloc (.cells (cI x).toArray 51)).alloc (.cells (rqC r) 61)).alloc (.cells (cCk x.c).toArray 49)) w.heap.size x r :=
    ⟨⟨itAt_later (itAt_new w x 51 w.heap.size rfl) (bel_alloc (bel_alloc (Below.refl _ _) _) _), by
      have := Blk.new_ (w.alloc (.cells (cI x).toArray 51)) 61 (rqC r)
      simpa using this.alloc (.cells (cCk x.c).toArray 49)⟩, by
      have h : ckAt (((w.alloc (.cells (cI x).toArray 51)).alloc (.cells (rqC r) 61)).alloc (.cells (cCk x.c).toArray 49)) ((w.alloc (.cells (cI x).toArray 51)).alloc (.cells (rqC r) 61)).heap.size 0 = some x.c := ckAt_of (range_blk (heap_alloc_new _ _))
      simpa using h⟩
  have hB0 : Below w.heap.size w (((w.alloc (.cells (cI x).toArray 51)).alloc (.cells (rqC r) 61)).alloc (.cells (cCk x.c).toArray 49)) := bel_alloc (bel_alloc (bel_alloc (Below.refl _ _) _) _) _
  go_upto_region 2 with (fail)
  show Code.wp _ _ _ _ (((w.alloc (.cells (cI x).toArray 51)).alloc (.cells (rqC r) 61)).alloc (.cells (cCk x.c).toArray 49))
  generalize (((w.alloc (.cells (cI x).toArray 51)).alloc (.cells (rqC r) 61)).alloc (.cells (cCk x.c).toArray 49)) = W at *
  go_cut [8] (fun v wx => v = .bool (nearB x r) ∧ FitS wx w.heap.size x r ∧ Below w.heap.size w wx)
  case first =>
    obtain ⟨q1, q2, q3, q4, q5, q6, q7, q8, q9, q10⟩ := fitS_cells hF0
    cases e1 : (r.h == x.k.d) with
    | true =>
      have hn := Lib.hid (show nearB x r = true by unfold nearB; rw [e1]; rfl)
      go_wp2
      go_meet
      exact ⟨by rw [hn.out], hF0, hB0⟩
    | false =>
      cases e2 : x.c.ho with
      | true =>
        have hn := Lib.hid (show nearB x r = false by unfold nearB; rw [e1, e2]; rfl)
        rw [e2] at q7
        clear e2
        go_wp2
        go_meet
        exact ⟨by rw [hn.out], hF0, hB0⟩
      | false =>
        have hn := Lib.hid (show nearB x r = matchB r.h x.k.d by unfold nearB; rw [e1, e2]; rfl)
        rw [e2] at q7
        clear e2
        go_wp2_with fail
        refine (hmatch_any (S r.h) (S x.k.d) _ (by simpa using h1) (by simpa using h2)).mono ?_
        rintro e w1 ⟨rfl, hb1⟩
        have hF1 := fitS_later hF0 hb1
        have hB1 := bel_call hB0 hb1
        clear q1 q2 q3 q4 q5 q6 q7 q8 q9 q10 hF0 hB0 hb1
        rw [S_toList, S_toList]
        go_wp2
        go_meet
        exact ⟨by rw [hn.out], hF1, hB1⟩
  case rest =>
    obtain ⟨rfl, hF, hB⟩ := hcut
    clear hF0 hB0
    have hf := Lib.hid (show fitsR x r now = (nearB x r && (!overB x.c now && (fitB r.p x.k.p && ((!x.c.se || r.s) && (!x.c.ht || !r.c))))) from rfl)
    cases hn : nearB x r with
    | false =>
      have hf2 := Lib.hid (show fitsR x r now = false by rw [hf.out, hn]; rfl)
      go_wp2
      go_ret
      exact ⟨ret_bool hf2.out.symm, hB⟩
    | true =>
      have hf2 := Lib.hid (show fitsR x r now = (!overB x.c now && (fitB r.p x.k.p && ((!x.c.se || r.s) && (!x.c.ht || !r.c)))) by rw [hf.out, hn]; rfl)
      clear hf hn
      obtain ⟨q1, q2, q3, q4, q5, q6, q7, q8, q9, q10⟩ := fitS_cells hF
      go_wp2_with fail
      refine (over_any x.c now _).mono ?_
      rintro e w1 ⟨rfl, hb1⟩
      have hF1 := fitS_later hF hb1
      have hB1 := bel_call hB hb1
      clear q1 q2 q3 q4 q5 q6 q7 q8 q9 q10 hF hB hb1
      cases ho : overB x.c now with
      | true =>
        have hf3 := Lib.hid (show fitsR x r now = false by rw [hf2.out, ho]; rfl)
        clear ho
        go_wp2
        go_ret
        exact ⟨ret_bool hf3.out.symm, hB1⟩
      | false =>
        have hf3 := Lib.hid (show fitsR x r now = (fitB r.p x.k.p && ((!x.c.se || r.s) && (!x.c.ht || !r.c))) by rw [hf2.out, ho]; rfl)
        clear ho hf2
        obtain ⟨q1, q2, q3, q4, q5, q6, q7, q8, q9, q10⟩ := fitS_cells hF1
        go_wp2_with fail
        refine (match_any (S r.p) (S x.k.p) _ (by unfold maxLen; simp; omega) (by unfold maxLen; simp; omega)).mono ?_
        rintro e w2 ⟨rfl, rfl⟩
        rw [S_toList, S_toList]
        cases hp : fitB r.p x.k.p with
        | false =>
          have hf4 := Lib.hid (show fitsR x r now = false by rw [hf3.out, hp]; rfl)
          clear hp
          go_wp2
          go_ret
          exact ⟨ret_bool hf4.out.symm, hB1⟩
        | true =>
          have hf4 := Lib.hid (show fitsR x r now = ((!x.c.se || r.s) && (!x.c.ht || !r.c)) by rw [hf3.out, hp]; rfl)
          clear hp hf3
          cases e1 : x.c.se <;> cases e2 : r.s <;> cases e3 : x.c.ht <;> cases e4 : r.c
          all_goals
            have hf5 := hf4.out
            rw [e1, e2, e3, e4] at hf5
            replace hf5 := Lib.hid hf5
            rw [e1] at q8
            rw [e2] at q5
            rw [e3] at q9
            rw [e4] at q6
            clear e1 e2 e3 e4 q10
            go_wp2
            go_ret
            exact ⟨ret_bool hf5.out.symm, hB1⟩
end Go.Proofs.Ytdefpphfbpkeaaa
