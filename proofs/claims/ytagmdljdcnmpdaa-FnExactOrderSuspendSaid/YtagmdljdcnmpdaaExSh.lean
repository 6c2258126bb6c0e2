import Derived.Test.YtagmdljdcnmpdaaExTo2
set_option linter.unusedVariables false
set_option linter.unusedSimpArgs false
namespace Go.Proofs.Ytagmdljdcnmpdaa
open Go Go.RowKit

/-- a sheet, copied: its row of truths ahead of the tree of its tasks -/
structure SheetT (lo mid hi bm bt : Nat) (made : List Bool) (tasks : List Task) (w : World) : Prop where
  h1 : lo ≤ bm
  h2 : bm < mid
  h3 : mid ≤ hi
  row : RowBlk (fun b : Bool => Value.bool b) 4 w bm made
  tree : TL true mid hi w (some ⟨bt, 0, none⟩) 0 tasks
theorem SheetT.kept {lo mid hi bm bt hi' : Nat} {made : List Bool} {tasks : List Task} {w w' : World} (h : SheetT lo mid hi bm bt made tasks w) (hk : ∀ b, lo ≤ b → b < hi → w'.heap[b]? = w.heap[b]?) (hh : hi ≤ hi') : SheetT lo mid hi' bm bt made tasks w' := by
  obtain ⟨h1, h2, h3, h4, h5⟩ := h
  exact ⟨h1, h2, by omega, h4.turn (hk _ h1 (by omega)), TL.kept (fun b q1 q2 => hk b (by omega) q2) (Nat.le_refl _) hh _ _ _ h5⟩
theorem SheetT.at {lo mid hi bm bt B : Nat} {made : List Bool} {tasks : List Task} {w : World} (h : SheetT lo mid hi bm bt made tasks w) (hB : hi ≤ B) (hm : made.length ≤ maxLen) (ht : tasks.length ≤ maxLen) : SheetAt B w (some ⟨bm, 0, none⟩) made.length (some ⟨bt, 0, none⟩) tasks.length made tasks :=
  ⟨Nat.le_refl _, hm, Nat.le_refl _, ht, fun i hi => ⟨bm, 0, rfl, by have := h.h2; have := h.h3; omega, by rw [Nat.zero_add]; exact h.row.cell hi⟩, TL.parts hB _ _ _ h.tree⟩
def ToS (made : List Bool) (tasks : List Task) (w : World) (e : Ending) (w' : World) : Prop :=
  ∃ bm bt mid, e = .returned (.agg #[.slice (some ⟨bm, 0, none⟩) made.length made.length, .slice (some ⟨bt, 0, none⟩) tasks.length tasks.length]) ∧ SheetT w.heap.size mid w'.heap.size bm bt made tasks w' ∧ Below w.heap.size w w'

set_option maxHeartbeats 4000000 in
theorem toSheet_calls (Am At : Option Addr) (cm ct : Nat) (made : List Bool) (tasks : List Task) (B : Nat) (w0 w : World) (hb : Below B w0 w) (hB : B ≤ w.heap.size) (hml : made.length ≤ 1048576) (hm : BoolsAt B w0 Am made) (hn : nodesL tasks ≤ 1048576) (hc : tasks.length ≤ ct) (hct : ct ≤ maxLen) (hp : PartsIs B w0 At 0 tasks) :
    Calls Try.prog 27 #[.agg #[.slice Am made.length cm, .slice At tasks.length ct]] w (ToS made tasks w) := by
  have hb1 := fun w1 (hw : Below w.heap.size w w1) => toBoolS_calls Am cm made B w0 w1 (below_up' hb hB hw) (Nat.le_trans hB hw.size) hml hm
  have hb2 := fun w1 (hw : Below w.heap.size w w1) => toTaskS_calls tasks hn At ct B w0 w1 (below_up' hb hB hw) (Nat.le_trans hB hw.size) hc hct hp
  have hlen := parts_len tasks
  replace hb1 := Lib.hid hb1
  replace hb2 := Lib.hid hb2
  clear hb hm hp
  go_enter Try.func27, Try.ntmps27
  go_wp2_with fail
  refine (hb1.out _ (below_al (below_al (below_al (Below.refl _ _) _) _) _)).mono ?_
  rintro e w1 ⟨rfl, hR, h1⟩
  have q0 := (h1.block w.heap.size (by simp; omega)).trans ((heap_old (by simp; omega)).trans ((heap_old (by simp)).trans (heap_new rfl)))
  have q1 := (h1.block (w.heap.size + 1) (by simp)).trans ((heap_old (by simp)).trans (heap_new (by simp)))
  have q2 := (h1.block (w.heap.size + 1 + 1) (by simp)).trans (heap_new (by simp))
  have hlo : (((w.alloc (.cells #[.slice Am made.length cm, .slice At tasks.length ct] 48)).alloc (.cells #[.slice none 0 0, .slice none 0 0] 26)).alloc (.cells #[.slice none 0 0, .slice none 0 0] 26)).heap.size = w.heap.size + 1 + 1 + 1 := by simp
  rw [hlo] at hR
  have x0 := (cellm q2 0).trans rfl
  have f0 := frozenm q2 0
  have x1 := (cellm q0 1).trans rfl
  have b1 : Below w.heap.size w w1 := below_from (below_from (below_from h1))
  have s1 := hR.lt
  have hset : Below w.heap.size w (w1.setCell ⟨w.heap.size + 1 + 1, 0, none⟩ (.slice (some ⟨w.heap.size + 1 + 1 + 1, 0, none⟩) made.length made.length)) := b1.setCell (by simp; omega) _
  have e2 := setCell_block q2 0 (.slice (some ⟨w.heap.size + 1 + 1 + 1, 0, none⟩) made.length made.length)
  have hR1 := hR.turn (setCell_far (w := w1) (m := w.heap.size + 1 + 1) (j := 0) (v := .slice (some ⟨w.heap.size + 1 + 1 + 1, 0, none⟩) made.length made.length) (k := w.heap.size + 1 + 1 + 1) (by omega))
  have e1 := (setCell_far (w := w1) (m := w.heap.size + 1 + 1) (j := 0) (v := .slice (some ⟨w.heap.size + 1 + 1 + 1, 0, none⟩) made.length made.length) (k := w.heap.size + 1) (by omega)).trans q1
  have hz : (w1.setCell ⟨w.heap.size + 1 + 1, 0, none⟩ (.slice (some ⟨w.heap.size + 1 + 1 + 1, 0, none⟩) made.length made.length)).heap.size = w1.heap.size := by simp [World.setCell]
  replace hR1 := Lib.hid hR1
  replace e1 := Lib.hid e1
  replace e2 := Lib.hid e2
  replace hset := Lib.hid hset
  replace hz := Lib.hid hz
  clear hlo h1 hR q1 q2 q0 b1
  go_wp2_with fail
  refine (hb2.out _ hset.out).mono ?_
  rintro e w2 ⟨rfl, ht, h2⟩
  have q1 := (h2.block (w.heap.size + 1) (by rw [hz.out]; omega)).trans e1.out
  have q2 := (h2.block (w.heap.size + 1 + 1) (by rw [hz.out]; omega)).trans e2.out
  have hR2 := hR1.out.turn (h2.block _ (by rw [hz.out]; omega))
  have hb3 := below_up hset.out h2
  have hs2 := h2.size
  rw [hz.out] at ht hs2
  have hz2 : w1.heap.size ≤ w2.heap.size := hs2
  have y0 := (cellm q1 0).trans rfl
  have y1 := (cellm q1 1).trans rfl
  have g0 := frozenm q1 0
  have g1 := frozenm q1 1
  have z0 := (cellm q2 0).trans rfl
  have z1 := (cellm q2 1).trans rfl
  have k1 := frozenm q2 1
  clear x0 f0 x1 hs2 h2
  have hz' := hz.out
  simp only [hz']
  obtain ⟨mid, hmid⟩ : ∃ mid, mid = w1.heap.size := ⟨_, rfl⟩
  rw [← hmid] at ht hz2 s1 ⊢
  obtain ⟨vm, hvm⟩ : ∃ vm, vm = Value.slice (some ⟨w.heap.size + 1 + 1 + 1, 0, none⟩) made.length made.length := ⟨_, rfl⟩
  obtain ⟨vt, hvt⟩ : ∃ vt, vt = Value.slice (some ⟨mid, 0, none⟩) tasks.length tasks.length := ⟨_, rfl⟩
  have p1 := setCell_far (w := w2) (m := w.heap.size + 1 + 1) (j := 1) (v := .slice (some ⟨mid, 0, none⟩) tasks.length tasks.length) (k := w.heap.size + 1) (by omega)
  have p2 := setCell_block (setCell_block (p1.trans q1) 0 (.slice (some ⟨w.heap.size + 1 + 1 + 1, 0, none⟩) made.length made.length)) 1 (.slice (some ⟨mid, 0, none⟩) tasks.length tasks.length)
  have hK : ∀ b, b ≠ w.heap.size + 1 → b ≠ w.heap.size + 1 + 1 → (((w2.setCell ⟨w.heap.size + 1 + 1, 1, none⟩ (.slice (some ⟨mid, 0, none⟩) tasks.length tasks.length)).setCell ⟨w.heap.size + 1, 0, none⟩ (.slice (some ⟨w.heap.size + 1 + 1 + 1, 0, none⟩) made.length made.length)).setCell ⟨w.heap.size + 1, 1, none⟩ (.slice (some ⟨mid, 0, none⟩) tasks.length tasks.length)).heap[b]? = w2.heap[b]? :=
    fun b h2 h3 => ((setCell_far h2).trans (setCell_far h2)).trans (setCell_far h3)
  have hbW : Below w.heap.size w (((w2.setCell ⟨w.heap.size + 1 + 1, 1, none⟩ (.slice (some ⟨mid, 0, none⟩) tasks.length tasks.length)).setCell ⟨w.heap.size + 1, 0, none⟩ (.slice (some ⟨w.heap.size + 1 + 1 + 1, 0, none⟩) made.length made.length)).setCell ⟨w.heap.size + 1, 1, none⟩ (.slice (some ⟨mid, 0, none⟩) tasks.length tasks.length)) :=
    ((hb3.setCell (by simp; omega) _).setCell (by simp) _).setCell (by simp) _
  have hsz : (((w2.setCell ⟨w.heap.size + 1 + 1, 1, none⟩ (.slice (some ⟨mid, 0, none⟩) tasks.length tasks.length)).setCell ⟨w.heap.size + 1, 0, none⟩ (.slice (some ⟨w.heap.size + 1 + 1 + 1, 0, none⟩) made.length made.length)).setCell ⟨w.heap.size + 1, 1, none⟩ (.slice (some ⟨mid, 0, none⟩) tasks.length tasks.length)).heap.size = w2.heap.size := by simp [World.setCell]
  have hfin : SheetT w.heap.size mid w2.heap.size (w.heap.size + 1 + 1 + 1) mid made tasks (((w2.setCell ⟨w.heap.size + 1 + 1, 1, none⟩ (.slice (some ⟨mid, 0, none⟩) tasks.length tasks.length)).setCell ⟨w.heap.size + 1, 0, none⟩ (.slice (some ⟨w.heap.size + 1 + 1 + 1, 0, none⟩) made.length made.length)).setCell ⟨w.heap.size + 1, 1, none⟩ (.slice (some ⟨mid, 0, none⟩) tasks.length tasks.length)) :=
    ⟨by omega, by omega, hz2, hR2.turn (hK _ (by omega) (by omega)), TL.kept (fun b h2 h3 => hK b (by omega) (by omega)) (Nat.le_refl _) (Nat.le_refl _) _ _ _ ht⟩
  replace hfin := Lib.hid hfin
  replace hbW := Lib.hid hbW
  replace hsz := Lib.hid hsz
  replace p2 := Lib.hid p2
  clear hK p1 hb3 ht q1 q2 hR2 hvm hvt hz' hmid
  go_wp2_with fail
  refine ret_sheet rfl (by rfl) p2.out ⟨_, _, mid, rfl, ?_, hbW.out⟩
  rw [hsz.out]
  exact hfin.out

/-! the same -/

set_option maxHeartbeats 1000000 in
theorem eqIntS_same (A A2 : Option Addr) (c c2 : Nat) (xs : List Int) (w : World) (hl : xs.length ≤ maxLen) (hx : IntsAt w.heap.size w A xs) (hy : IntsAt w.heap.size w A2 xs) :
    Calls Try.prog 29 #[.slice A xs.length c, .slice A2 xs.length c2] w fun e w' => e = .returned (.bool true) ∧ Below w.heap.size w w' := by
  unfold maxLen at hl
  replace hx := Lib.hid hx
  replace hy := Lib.hid hy
  go_enter Try.func29, Try.ntmps29
  go_wp2_with fail
  go_loopw [5] (fun i wr => ∃ (j : Nat), j ≤ xs.length ∧ i = .int .i64 j ∧ Hid (Below w.heap.size w wr)) (fun i _ => xs.length - (intOf i).toNat)
  case atStart => exact ⟨0, Nat.zero_le _, rfl, Lib.hid (Below.refl _ _)⟩
  case round =>
    obtain ⟨j, hj, rfl, hw⟩ := hrel
    by_cases hlt : j < xs.length
    · obtain ⟨b, o, e, hb, y⟩ := (hx.out.up hw.out hw.out.size) j hlt
      subst e
      obtain ⟨b2, o2, e2, hb2, y2⟩ := (hy.out.up hw.out hw.out.size) j hlt
      subst e2
      have hv : (xs[j] != xs[j]) = false := by simp
      generalize xs[j] = v at *
      go_wp2_with fail
      go_region
      all_goals
        go_wp2_with fail
        go_roundw
        case rel => exact ⟨j + 1, by omega, by go_num, Lib.hid hw.out.drew⟩
        case measure => simp [intOf]; omega
    · go_wp2_with fail
      go_ret
      exact ⟨rfl, hw.out⟩

set_option maxHeartbeats 1000000 in
theorem eqBoolS_same (A A2 : Option Addr) (c c2 : Nat) (xs : List Bool) (w : World) (hl : xs.length ≤ maxLen) (hx : BoolsAt w.heap.size w A xs) (hy : BoolsAt w.heap.size w A2 xs) :
    Calls Try.prog 62 #[.slice A xs.length c, .slice A2 xs.length c2] w fun e w' => e = .returned (.bool true) ∧ Below w.heap.size w w' := by
  unfold maxLen at hl
  replace hx := Lib.hid hx
  replace hy := Lib.hid hy
  go_enter Try.func62, Try.ntmps62
  go_wp2_with fail
  go_loopw [5] (fun i wr => ∃ (j : Nat), j ≤ xs.length ∧ i = .int .i64 j ∧ Hid (Below w.heap.size w wr)) (fun i _ => xs.length - (intOf i).toNat)
  case atStart => exact ⟨0, Nat.zero_le _, rfl, Lib.hid (Below.refl _ _)⟩
  case round =>
    obtain ⟨j, hj, rfl, hw⟩ := hrel
    by_cases hlt : j < xs.length
    · obtain ⟨b, o, e, hb, y⟩ := (hx.out.up hw.out hw.out.size) j hlt
      subst e
      obtain ⟨b2, o2, e2, hb2, y2⟩ := (hy.out.up hw.out hw.out.size) j hlt
      subst e2
      have hv : (xs[j] != xs[j]) = false := by simp
      generalize xs[j] = v at *
      go_wp2_with fail
      go_region
      all_goals
        go_wp2_with fail
        go_roundw
        case rel => exact ⟨j + 1, by omega, by go_num, Lib.hid hw.out.drew⟩
        case measure => simp [intOf]; omega
    · go_wp2_with fail
      go_ret
      exact ⟨rfl, hw.out⟩
end Go.Proofs.Ytagmdljdcnmpdaa
