import Derived.Test.YtagmdljdcnmpdaaPick
import Derived.Test.YtagmdljdcnmpdaaHeap
import Derived.Test.YtagmdljdcnmpdaaClone
import Derived.Test.YtagmdljdcnmpdaaOwnT
set_option linter.unusedVariables false
set_option linter.unusedSimpArgs false
namespace Go.Proofs.Ytagmdljdcnmpdaa
open Go Go.RowKit

set_option maxHeartbeats 1000000 in
theorem l91Num_calls (R : RdEnv) (hR : R.Good) (p : Nat) (hp : p + 1 ≤ 1000000) (b c : Nat) (xs : List Int) (w : World) (h : RdAt R p w) (h1 : 1 ≤ xs.length) (hc : xs.length ≤ c) (hm : c ≤ 1000) (hb : b < w.heap.size) (hg : b ≠ R.g)
    (hx : ∀ i (hi : i < xs.length), w.cell? ⟨b, i, none⟩ = some (.int .i64 xs[i])) :
    Calls Try.prog 71 #[.pointer (some ⟨R.g, 0, none⟩), .slice (some ⟨b, 0, none⟩) xs.length c] w fun e w' => ∃ v, e = .returned (.int .i64 v) ∧ v ∈ xs ∧ RdAt R (p + 1) w' ∧ Turn (· = R.g) (· = R.g) w w' := by
  have hk := pick_calls R hR p (by omega) xs.length w h
  replace hk := Lib.hid hk
  replace hx := Lib.hid hx
  replace h := Lib.hid h
  go_enter Try.func71, Try.ntmps71
  go_wp2_with fail
  refine hk.out.mono ?_
  rintro e w1 ⟨v, rfl, hv0, hv1, hr, ht⟩
  obtain ⟨q, rfl⟩ := Int.eq_ofNat_of_zero_le hv0
  have hq : q < xs.length := by omega
  have y := (ht.cell q hb hg).trans (hx.out q hq)
  have hz : b < w1.heap.size := by have := ht.size; omega
  replace hr := Lib.hid hr
  replace ht := Lib.hid ht
  go_wp2_with fail
  go_ret
  exact ⟨xs[q], rfl, List.getElem_mem _, hr.out, ht.out⟩

/-- a row of numbers that grows while bytes are read; the sheet's box is the first new block -/
structure InSt (R : RdEnv) (w : World) (s1 s2 : Value) (p : Nat) (xs : List Int) (v : Value) (wr : World) : Prop where
  rd : RdAt R p wr
  turn : Turn (· = R.g) (· = R.g) w wr
  own : wr.ownsRow w.heap.size 3 1 v xs.length (ints xs)
  box : wr.heap[w.heap.size]? = some (.cells #[s1, s2] 26 (0, 0))
  glt : R.g < w.heap.size
  bw : R.B ≤ w.heap.size
section
variable {R : RdEnv} {w wr w2 : World} {s1 s2 v : Value} {p : Nat} {xs : List Int}
theorem InSt.step (h : InSt R w s1 s2 p xs v wr) {p2 : Nat} (rd : RdAt R p2 w2) (t : Turn (· = R.g) (· = R.g) wr w2) : InSt R w s1 s2 p2 xs v w2 :=
  ⟨rd, h.turn.trans t, ownsRow_block h.own (fun i hi => t.block i (h.own.lt i hi).2 (fun e => by have := (h.own.lt i hi).1; have := h.glt; omega)), (t.block _ (block_lt h.box) (fun e => by have := h.glt; omega)).trans h.box, h.glt, h.bw⟩
theorem InSt.alloc (h : InSt R w s1 s2 p xs v wr) (o : Obj) : InSt R w s1 s2 p xs v (wr.alloc o) :=
  h.step (h.rd.up (below_al (Below.refl _ _) o)) ((Turn.refl _ _).alloc o)
theorem InSt.ne (h : InSt R w s1 s2 p xs v wr) : v.ownBlock ≠ some w.heap.size := ownsRow_ne h.own h.box (fun c e => by cases e)
theorem InSt.app (h : InSt R w s1 s2 p xs v wr) {o : Obj} {x : Int} {v' : Value} (hg : (wr.alloc o).grownBy w2 v.ownBlock) (ho : w2.ownsRow w.heap.size 3 1 v' (xs.length + 1) (ints xs ++ [.int .i64 x])) :
    InSt R w s1 s2 p (xs ++ [x]) v' w2 := by
  have hlt := h.own.lt
  have hz : w.heap.size ≤ wr.heap.size := h.turn.size
  have hb : Below w.heap.size wr w2 := (below_al' (Below.refl _ _) o hz).grown hg (by simp; omega) (fun k hk => (hlt k hk).1)
  refine ⟨⟨(hb.block _ h.glt).trans h.rd.blk, h.rd.below.trans (hb.mono h.bw), Nat.le_trans h.rd.size hb.size⟩, ?_, ?_, (far_grown hg (block_lt h.box) h.ne).trans h.box, h.glt, h.bw⟩
  · exact ⟨hb.os.trans h.turn.os, hb.tape.trans h.turn.tape, hb.output.trans h.turn.output, Nat.le_trans hz hb.size, fun i hi hF => (hb.block i hi).trans (h.turn.block i hi hF), h.turn.fresh⟩
  · simpa [ints_append, ints] using ho
end
/-- what a draw of inputs brings -/
def DrawIn (R : RdEnv) (p c m : Nat) (w : World) (e : Ending) (w' : World) : Prop :=
  ∃ p' xs v, e = .returned v ∧ xs.length ≤ m ∧ p ≤ p' ∧ p' ≤ p + c ∧ RdAt R p' w' ∧ Turn (· = R.g) (· = R.g) w w' ∧ w'.ownsRow w.heap.size 3 1 v xs.length (ints xs)

set_option maxHeartbeats 2000000 in
theorem l91Inputs_calls (R : RdEnv) (hR : R.Good) (p : Nat) (hp : p + 100 ≤ 1000000) (Am At : Option Addr) (nm cm nt ct : Nat) (w : World) (h : RdAt R p w) (hn : nm ≤ 20) :
    Calls Try.prog 38 #[.pointer (some ⟨R.g, 0, none⟩), .agg #[.slice Am nm cm, .slice At nt ct]] w (DrawIn R p 100 (nm + 1) w) := by
  have hs : InSt R w (.slice Am nm cm) (.slice At nt ct) p [] (.slice (some ⟨w.heap.size + 1, 0, none⟩) 0 0) ((w.alloc (.cells #[.slice Am nm cm, .slice At nt ct] 26 (0, 0))).alloc (.cells #[] 3 (0, 0))) :=
    ⟨h.up (below_al (below_al (Below.refl _ _) _) _), ((Turn.refl _ _).alloc _).alloc _, by simpa [ints] using World.ownsRow_made (base := w.heap.size) (w.alloc (.cells #[.slice Am nm cm, .slice At nt ct] 26 (0, 0))) #[] 0 (by simp) (by simp [maxLen]) rfl, (heap_old (by simp)).trans (heap_new rfl), block_lt h.blk, h.size⟩
  have h1 := pick_calls R hR p (by omega) 2 _ hs.rd
  replace h1 := Lib.hid h1
  replace hs := Lib.hid hs
  clear h
  go_enter Try.func38, Try.ntmps38
  go_wp2_with fail
  refine h1.out.mono ?_
  rintro e w1 ⟨k, rfl, hk0, hk1, hr, ht⟩
  have hs1 := hs.out.step hr ht
  replace hs1 := Lib.hid hs1
  clear h1 hs hr ht
  go_wp2_with fail
  generalize (k == 0) = sm
  go_loopw [5, 7] (fun o i wr => ∃ (j : Nat) (xs : List Int) (p2 : Nat), j ≤ nm ∧ xs.length = j ∧ p2 ≤ p + 1 + 2 * j ∧ p ≤ p2 ∧ i = .int .i64 j ∧ Hid (InSt R w (.slice Am nm cm) (.slice At nt ct) p2 xs o wr)) (fun _ i _ => nm - (intOf i).toNat)
  case atStart => exact ⟨0, [], p + 1, Nat.zero_le _, rfl, by omega, by omega, rfl, hs1⟩
  case round =>
    obtain ⟨j, xs, p2, hj, hlen, hp2, hpp, rfl, hL⟩ := hrel
    have b0 : wr.cell? ⟨w.heap.size, 0, none⟩ = some (.slice Am nm cm) := cellm hL.out.box 0
    have hz := block_lt hL.out.box
    by_cases hlt : j < nm
    · have hc := pick_calls R hR p2 (by omega) 97 wr hL.out.rd
      replace hc := Lib.hid hc
      go_wp2_with fail
      refine hc.out.mono ?_
      rintro e w2 ⟨x, rfl, hx0, hx1, hr2, ht2⟩
      have hL2 := hL.out.step hr2 ht2
      clear hc hr2 ht2 hL b0 hz
      replace hL2 := Lib.hid hL2
      have fin : ∀ (x : Int) (p3 : Nat) (w3 : World), True := fun _ _ _ => trivial
      cases sm with
      | true =>
        have hc := pick_calls R hR (p2 + 1) (by omega) 3 w2 hL2.out.rd
        replace hc := Lib.hid hc
        go_wp2_with fail
        refine hc.out.mono ?_
        rintro e w3 ⟨x3, rfl, hx30, hx31, hr3, ht3⟩
        have hL3 := hL2.out.step hr3 ht3
        clear hc hr3 ht3 hL2
        replace hL3 := Lib.hid hL3
        go_wp2_with (at_builtin; go_loud (with_reducible refine wpList_app1 (by rfl) (.tmp 25) (.tmp 27) 27 (by rfl) intTy w.heap.size u5 xs.length (ints xs) (by with_unfolding_all rfl) (hL3.out.own.alloc _) w3.heap.size 1 [.int .i64 x3] (by with_unfolding_all rfl) (by with_unfolding_all rfl) ⟨_, _, heap_alloc_new w3 _, rfl⟩ (one_int _ _) ?_ ?_ ?_ ?_))
        · unfold maxLen; omega
        · omega
        · have := hL3.out.turn.size; simp; omega
        intro g cap w4 hown hgrow hat
        have hL4 := hL3.out.app (x := x3) (v' := .slice (some ⟨g, 0, none⟩) (j + 1) cap) hgrow (by rw [hlen]; exact hown)
        replace hL4 := Lib.hid hL4
        clear hown hgrow hat hL3
        go_wp2_with fail
        go_roundw
        case rel => exact ⟨j + 1, _, p2 + 1 + 1, by omega, by simp [hlen], by omega, by omega, by go_num, hL4⟩
        case measure => simp [intOf]; omega
      | false =>
        go_wp2_with (at_builtin; go_loud (with_reducible refine wpList_app1 (by rfl) (.tmp 25) (.tmp 27) 27 (by rfl) intTy w.heap.size u5 xs.length (ints xs) (by with_unfolding_all rfl) (hL2.out.own.alloc _) w2.heap.size 1 [.int .i64 x] (by with_unfolding_all rfl) (by with_unfolding_all rfl) ⟨_, _, heap_alloc_new w2 _, rfl⟩ (one_int _ _) ?_ ?_ ?_ ?_))
        · unfold maxLen; omega
        · omega
        · have := hL2.out.turn.size; simp; omega
        intro g cap w4 hown hgrow hat
        have hL4 := hL2.out.app (x := x) (v' := .slice (some ⟨g, 0, none⟩) (j + 1) cap) hgrow (by rw [hlen]; exact hown)
        replace hL4 := Lib.hid hL4
        clear hown hgrow hat hL2
        go_wp2_with fail
        go_roundw
        case rel => exact ⟨j + 1, _, p2 + 1, by omega, by simp [hlen], by omega, by omega, by go_num, hL4⟩
        case measure => simp [intOf]; omega
    · have hc := pick_calls R hR p2 (by omega) 25 wr hL.out.rd
      replace hc := Lib.hid hc
      go_wp2_with fail
      refine hc.out.mono ?_
      rintro e w2 ⟨x, rfl, hx0, hx1, hr2, ht2⟩
      have hL2 := hL.out.step hr2 ht2
      clear hc hr2 ht2 hL b0 hz
      replace hL2 := Lib.hid hL2
      by_cases hx : x = 0
      · subst hx
        have hL3 := hL2.out.alloc (.cells #[.int .i64 0, .int .i64 97, .int .i64 (-1)] 3 (0, 0))
        have hnum := l91Num_calls R hR (p2 + 1) (by omega) w2.heap.size 3 [0, 97, -1] _ hL3.rd (by simp) (by simp) (by omega) (by simp) (by have h1 := hL2.out.glt; have h2 := hL2.out.turn.size; omega)
          (by intro i hi; rw [cellm (heap_new rfl) i]; rcases (show i = 0 ∨ i = 1 ∨ i = 2 by simp at hi; omega) with rfl | rfl | rfl <;> rfl)
        replace hL3 := Lib.hid hL3
        replace hnum := Lib.hid hnum
        clear hL2
        go_wp2_with fail
        refine hnum.out.mono ?_
        rintro e w3 ⟨x3, rfl, _, hr3, ht3⟩
        have hL4 := hL3.out.step hr3 ht3
        replace hL4 := Lib.hid hL4
        clear hL3 hnum hr3 ht3
        go_wp2_with (at_builtin; go_loud (with_reducible refine wpList_app1 (by rfl) (.tmp 32) (.tmp 36) 27 (by rfl) intTy w.heap.size u5 xs.length (ints xs) (by with_unfolding_all rfl) (hL4.out.own.alloc _) w3.heap.size 1 [.int .i64 x3] (by with_unfolding_all rfl) (by with_unfolding_all rfl) ⟨_, _, heap_alloc_new w3 _, rfl⟩ (one_int _ _) ?_ ?_ ?_ ?_))
        · unfold maxLen; omega
        · omega
        · have := hL4.out.turn.size; simp; omega
        intro g cap w4 hown hgrow hat
        have hL5 := hL4.out.app (x := x3) (v' := .slice (some ⟨g, 0, none⟩) (j + 1) cap) hgrow (by rw [hlen]; exact hown)
        replace hL5 := Lib.hid hL5
        clear hown hgrow hat hL4
        go_wp2_with fail
        go_ret
        exact ⟨p2 + 1 + 1, xs ++ [x3], _, rfl, by simp; omega, by omega, by omega, hL5.out.rd, hL5.out.turn, hL5.out.own⟩
      · have hx' : (x == 0) = false := by simp [hx]
        go_wp2_with fail
        go_ret
        exact ⟨p2 + 1, xs, u5, rfl, by omega, by omega, by omega, hL2.out.rd, hL2.out.turn, hL2.out.own⟩
end Go.Proofs.Ytagmdljdcnmpdaa
