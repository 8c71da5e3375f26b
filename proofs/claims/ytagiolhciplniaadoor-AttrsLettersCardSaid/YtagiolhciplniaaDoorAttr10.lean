/-
  Attributes said twice: the second ones alone count.
-/
import Derived.Test.YtagiolhciplniaaDoorAttr9
namespace Go.Proofs.YtagiolhciplniaaDoor
open Go.RowKit Go.Deep Go.WideShapes
set_option linter.unusedVariables false

/-- What attributes turn. -/
structure Up where
  e : Option Int
  a : Option Int
  d : Option (List UInt8)
  p : Option (Bool × List UInt8)
  s : Bool
  h : Bool
def up0 : Up := ⟨none, none, none, none, false, false⟩
def ap (u : Up) (f : Ff) : Ff := ⟨f.he || u.e.isSome, f.ha || u.a.isSome, f.hd || u.d.isSome, (u.p.getD (f.hp, f.pt)).1, u.e.getD f.ex, u.a.getD f.ag, u.d.getD f.dm, (u.p.getD (f.hp, f.pt)).2, f.sc || u.s, f.ho || u.h⟩
def th (u v : Up) : Up := ⟨v.e.or u.e, v.a.or u.a, v.d.or u.d, v.p.or u.p, u.s || v.s, u.h || v.h⟩
theorem ap_up0 (f : Ff) : ap up0 f = f := by simp [ap, up0]
theorem ap_th (u v : Up) (f : Ff) : ap v (ap u f) = ap (th u v) f := by
  obtain ⟨e, a, d, p, s, h⟩ := u
  obtain ⟨e', a', d', p', s', h'⟩ := v
  unfold ap th
  cases e <;> cases e' <;> cases a <;> cases a' <;> cases d <;> cases d' <;> cases p <;> cases p' <;> simp [Bool.or_assoc]
theorem th_self (u : Up) : th u u = u := by
  obtain ⟨e, a, d, p, s, h⟩ := u
  unfold th
  cases e <;> cases a <;> cases d <;> cases p <;> simp
theorem th_up0 (u : Up) : th u up0 = u := by
  obtain ⟨e, a, d, p, s, h⟩ := u
  simp [th, up0]
theorem th_assoc (u v x : Up) : th (th u v) x = th u (th v x) := by
  unfold th
  simp [Option.or_assoc, Bool.or_assoc]
def upT (p : List UInt8 × List UInt8) : Up :=
  if lowerL p.1 == exL then (if (dateT p.2).2 = 0 then { up0 with e := some (dateT p.2).1 } else up0)
  else if lowerL p.1 == agL then (if numOk p.2 then { up0 with a := some (numV p.2) } else up0)
  else if lowerL p.1 == dmL then (match p.2 with | [] => up0 | c :: r => { up0 with d := some (lowerL (if c == 46 then r else c :: r)) })
  else if lowerL p.1 == ptL then (match p.2 with | [] => { up0 with p := some (false, []) } | c :: r => if c == 47 then { up0 with p := some (true, c :: r) } else { up0 with p := some (false, []) })
  else if lowerL p.1 == scL then { up0 with s := true }
  else if lowerL p.1 == hoL then { up0 with h := true }
  else up0
theorem say_up (f : Ff) (p : List UInt8 × List UInt8) : sayT f p = ap (upT p) f := by
  obtain ⟨a, b⟩ := p
  unfold sayT upT
  simp only
  split
  · unfold exT; split <;> simp [ap, up0]
  · split
    · unfold agT; split <;> simp [ap, up0]
    · split
      · cases b with
        | nil => simp [dmT, ap, up0]
        | cons c r => simp [dmT, ap, up0]
      · split
        · cases b with
          | nil => simp [ptT, ap, up0]
          | cons c r =>
            simp only [ptT]
            split <;> simp [ap, up0]
        · split
          · simp [ap, up0]
          · split <;> simp [ap, up0]
def upAll (u : Up) (l : List (List UInt8 × List UInt8)) : Up := l.foldl (fun u p => th u (upT p)) u
theorem fold_up (u : Up) (f : Ff) (l : List (List UInt8 × List UInt8)) : l.foldl sayT (ap u f) = ap (upAll u l) f := by
  induction l generalizing u with
  | nil => rfl
  | cons p r ih =>
    rw [List.foldl_cons, say_up, ap_th, ih]
    rfl
theorem upAll_th (u v : Up) (l : List (List UInt8 × List UInt8)) : upAll (th u v) l = th u (upAll v l) := by
  induction l generalizing v with
  | nil => rfl
  | cons p r ih =>
    show upAll (th (th u v) (upT p)) r = th u (upAll (th v (upT p)) r)
    rw [th_assoc, ih]
theorem read_twice (l : List (List UInt8 × List UInt8)) : readT (l ++ l) = readT l := by
  unfold readT
  rw [List.foldl_append]
  have e : l.foldl sayT ff0 = ap (upAll up0 l) ff0 := by
    have := fold_up up0 ff0 l
    rwa [ap_up0] at this
  rw [e, fold_up]
  congr 1
  have := upAll_th (upAll up0 l) up0 l
  rw [th_up0, th_self] at this
  exact this
theorem cellsP_app (l m : List (List UInt8 × List UInt8)) : cellsP (l ++ m) = cellsP l ++ cellsP m := by unfold cellsP; rw [List.flatMap_append]
theorem cellsP_one (l : List (List UInt8 × List UInt8)) : ∀ u ∈ cellsP l, u.oneCell' = true := by
  intro u hu
  unfold cellsP at hu
  simp only [List.mem_flatMap, List.mem_cons, List.not_mem_nil, or_false] at hu
  obtain ⟨p, _, rfl | rfl⟩ := hu <;> rfl

set_option maxRecDepth 4000 in
set_option maxHeartbeats 4000000 in
theorem lawLast_any (x : SlArg (List UInt8 × List UInt8)) (w : World) (hx : Rd w 2 (.slice x.A x.n x.c) x.n (cellsP x.l) ∧ ∀ q ∈ x.l, q.1.length ≤ maxLen ∧ q.2.length ≤ maxLen) (hm : Mon w) :
    Calls Tryd.prog 10 #[.slice x.A x.n x.c] w fun e w' => e = .returned (.bool true) ∧ Below w.heap.size w w' := by
  obtain ⟨A, n, c, l⟩ := x
  obtain ⟨h, _⟩ := hx
  simp only at h ⊢
  have hlen := h.len
  obtain ⟨i0, hi, hz0, hz1, hz2⟩ := info_parts Tryd.infoQ53
  cases hl : lightC l
  · have hL := Lib.hid hl
    clear hl
    go_enter Tryd.func10, Tryd.ntmps10
    go_wp2_with fail
    refine (light13_any A n c l _ h).mono ?_
    rintro e w1 ⟨rfl, hb1⟩
    rw [hL.out]
    have hm1 := hm.next hb1
    go_wp2_with fail
    refine (awake13_any _ hm1).mono ?_
    rintro e w2 ⟨rfl, hb2⟩
    have hb := bel_call hb1 hb2
    go_wp2
    go_ret
    exact ⟨rfl, hb⟩
  · have hL := Lib.hid hl
    obtain ⟨h40, h300⟩ := lightC_lens hl
    have hlb : ∀ p ∈ l, p.1.length ≤ 4294967296 ∧ p.2.length ≤ 4294967296 := fun p hp => by have := h300 p hp; omega
    have hlb2 : ∀ p ∈ l ++ l, p.1.length ≤ 4294967296 ∧ p.2.length ≤ 4294967296 := fun p hp => by
      rcases List.mem_append.1 hp with hp | hp <;> exact hlb p hp
    have hn : n ≤ 40 := by omega
    have hone := cellsP_one l
    have htw := Lib.hid (read_twice l)
    clear hl
    go_enter Tryd.func10, Tryd.ntmps10
    go_wp2_with fail
    refine (light13_any A n c l _ h).mono ?_
    rintro e w1 ⟨rfl, hb1⟩
    rw [hL.out]
    have hr1 := h.below hb1
    have hown0 := World.ownsRow_lit (base := w1.heap.size) (e := 53) (size := 2) w1 #[] 0 (Nat.le_refl _) (by unfold maxLen; omega) rfl
    have hbel0 := bel_alloc (Below.refl w1.heap.size w1) (.cells #[] 53)
    have hr0 := hr1.alloc (.cells #[] 53)
    have hs0 : w1.heap.size ≤ (w1.alloc (.cells #[] 53)).heap.size := by simp
    go_wp2_with (at_builtin; refine wpList_more (W := w1) _ rfl _ _ 39 rfl w1.heap.size 53 i0 (.agg #[.string ByteArray.empty, .string ByteArray.empty]) 2 32 Tryd.underlying39 hi hz0 hz1 hz2 rfl (by decide) _ 0 [] rfl hown0 A n c (cellsP l) rfl hr0 hone ?c1 ?c2 hs0 hbel0 ?_)
    case c1 => unfold maxLen; omega
    case c2 => omega
    intro v2 w2 hown2 hg2 _ hbel2 hs2
    have hr2 := hr1.below hbel2
    go_wp2_with (at_builtin; refine wpList_more (W := w1) _ rfl _ _ 39 rfl w1.heap.size 53 i0 (.agg #[.string ByteArray.empty, .string ByteArray.empty]) 2 32 Tryd.underlying39 hi hz0 hz1 hz2 rfl (by decide) _ n (cellsP l) rfl hown2 A n c (cellsP l) rfl hr2 hone ?c3 ?c4 hs2 hbel2 ?_)
    case c3 => unfold maxLen; omega
    case c4 => omega
    intro v3 w3 hown3 hg3 _ hbel3 hs3
    have hr3 := hr1.below hbel3
    obtain ⟨A3, c3, rfl⟩ := own_form hown3
    have hrd3 : Rd w3 2 (.slice A3 (n + n) c3) (n + n) (cellsP (l ++ l)) := by
      have := Rd.of_own hown3
      rw [← cellsP_app] at this
      exact this
    have hb3 := bel_call hb1 hbel3
    clear hr0 hown0 hbel0 hs0 hown2 hg2 hbel2 hs2 hr2 hown3 hg3 hbel3 hs3 hr1 hb1
    have hnn : n + n ≤ 4294967296 := by omega
    generalize n + n = m at *
    go_wp2_with fail
    refine (own12_any A3 m c3 (l ++ l) _ hrd3 hnn).mono ?_
    rintro e w4 ⟨A4, c4, rfl, hown4, hb4⟩
    have hrd4 := Rd.of_own hown4
    have hr4 := hr3.below hb4
    have hbel4 := bel_call hb3 hb4
    have hm4 := hm.next hbel4
    clear hown4 hb4 hr3 hb3 hrd3
    go_wp2_with fail
    refine (attrRead_any A4 m c4 (l ++ l) _ hrd4 hlb2 hm4).mono ?_
    rintro e w5 ⟨rfl, hb5⟩
    rw [htw.out]
    have hr5 := hr4.below hb5
    have hbel5 := bel_call hbel4 hb5
    clear hrd4 hr4 hbel4 hb5 hm4
    go_wp2_with fail
    refine (own12_any A n c l _ hr5 (by omega)).mono ?_
    rintro e w6 ⟨A6, c6, rfl, hown6, hb6⟩
    have hrd6 := Rd.of_own hown6
    have hbel6 := bel_call hbel5 hb6
    have hm6 := hm.next hbel6
    clear hown6 hb6 hr5 hbel5
    go_wp2_with fail
    refine (attrRead_any A6 n c6 l _ hrd6 hlb hm6).mono ?_
    rintro e w7 ⟨rfl, hb7⟩
    have hbel7 := bel_call hbel6 hb7
    have hm7 := hm.next hbel7
    clear hrd6 hbel6 hb7 hm6
    generalize readT l = F at *
    go_wp2_with fail
    refine (awake13_any _ hm7).mono ?_
    rintro e w8 ⟨rfl, hb8⟩
    have hb := bel_call hbel7 hb8
    go_wp2
    go_ret
    exact ⟨rfl, hb⟩
end Go.Proofs.YtagiolhciplniaaDoor
