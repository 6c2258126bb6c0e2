import Derived.Deep.RegionHeld3
import Derived.Test.YtpccgdkidnkppaaPk3FnExactRowNew
set_option linter.unusedVariables false
set_option linter.unusedSimpArgs false
namespace Go.Proofs.Ytpccgdkidnkppaa
open Go Go.RowKit

set_option maxHeartbeats 2000000 in
theorem toIntS_calls (A : Option Addr) (c : Nat) (xs : List Int) (B : Nat) (w0 w : World) (hb : Below B w0 w) (hB : B ≤ w.heap.size) (hl : xs.length ≤ 1048576) (hx : IntsAt B w0 A xs) :
    Calls Try.prog 15 #[.slice A xs.length c] w fun e w' => e = .returned (.slice (some ⟨w.heap.size, 0, none⟩) xs.length xs.length) ∧ RowBlk (fun n : Int => Value.int .i64 n) 3 w' w.heap.size xs ∧ Below w.heap.size w w' := by
  have hmk := make_ints xs.length (by omega)
  replace hb := Lib.hid hb
  replace hx := Lib.hid hx
  go_enter Try.func15, Try.ntmps15
  go_wp2_with fail
  go_loopw [4] (fun i wr => ∃ (j : Nat), j ≤ xs.length ∧ i = .int .i64 j ∧ Hid (RowBlk (fun n : Int => Value.int .i64 n) 3 wr w.heap.size (xs.take j ++ List.replicate (xs.length - j) 0)) ∧ Hid (Below w.heap.size w wr)) (fun i _ => xs.length - (intOf i).toNat)
  case atStart => exact ⟨0, Nat.zero_le _, rfl, Lib.hid (made_blk (z := (0 : Int)) (heap_new rfl)), Lib.hid (below_al (Below.refl _ _) _)⟩
  case round =>
    obtain ⟨j, hj, rfl, hR, hw⟩ := hrel
    have hz := hR.out.lt
    by_cases hlt : j < xs.length
    · obtain ⟨b, o, rfl, hbl, y⟩ := hx.out.at (below_up' hb.out hB hw.out) (Nat.le_trans hB hw.out.size) j hlt
      have f0 := hR.out.frozen j
      have c0 := hR.out.cell (i := j) (by simp; omega)
      have hset := hR.out.set j xs[j]
      have e : (xs.take j ++ List.replicate (xs.length - j) 0).set j xs[j] = xs.take (j + 1) ++ List.replicate (xs.length - (j + 1)) 0 := by
        rw [List.set_append_right _ _ (by simp; omega), List.take_succ_eq_append_getElem hlt]
        rw [show xs.length - j = (xs.length - (j + 1)) + 1 by omega, List.replicate_succ]
        rw [show j - (xs.take j).length = 0 by simp; omega, List.set_cons_zero, List.append_assoc]; rfl
      rw [e] at hset
      have hw2 : Below w.heap.size w (wr.setCell ⟨w.heap.size, j, none⟩ ((fun n : Int => Value.int .i64 n) xs[j])) := hw.out.setCell (by simp) _
      replace hset := Lib.hid hset
      replace hw2 := Lib.hid hw2
      replace e := Lib.hid e
      go_wp2_with fail
      go_roundw
      case rel => exact ⟨j + 1, by omega, by go_num, hset, hw2⟩
      case measure => simp [intOf]; omega
    · have ej : j = xs.length := by omega
      subst ej
      have hR2 := hR.out
      rw [List.take_length, Nat.sub_self, List.replicate_zero, List.append_nil] at hR2
      replace hR2 := Lib.hid hR2
      go_wp2_with fail
      go_ret
      exact ⟨rfl, hR2.out, hw.out⟩

set_option maxHeartbeats 2000000 in
theorem toBoolS_calls (A : Option Addr) (c : Nat) (xs : List Bool) (B : Nat) (w0 w : World) (hb : Below B w0 w) (hB : B ≤ w.heap.size) (hl : xs.length ≤ 1048576) (hx : BoolsAt B w0 A xs) :
    Calls Try.prog 59 #[.slice A xs.length c] w fun e w' => e = .returned (.slice (some ⟨w.heap.size, 0, none⟩) xs.length xs.length) ∧ RowBlk (fun b : Bool => Value.bool b) 4 w' w.heap.size xs ∧ Below w.heap.size w w' := by
  have hmk := make_bools xs.length (by omega)
  replace hb := Lib.hid hb
  replace hx := Lib.hid hx
  go_enter Try.func59, Try.ntmps59
  go_wp2_with fail
  go_loopw [4] (fun i wr => ∃ (j : Nat), j ≤ xs.length ∧ i = .int .i64 j ∧ Hid (RowBlk (fun b : Bool => Value.bool b) 4 wr w.heap.size (xs.take j ++ List.replicate (xs.length - j) false)) ∧ Hid (Below w.heap.size w wr)) (fun i _ => xs.length - (intOf i).toNat)
  case atStart => exact ⟨0, Nat.zero_le _, rfl, Lib.hid (made_blk (z := (false : Bool)) (heap_new rfl)), Lib.hid (below_al (Below.refl _ _) _)⟩
  case round =>
    obtain ⟨j, hj, rfl, hR, hw⟩ := hrel
    have hz := hR.out.lt
    by_cases hlt : j < xs.length
    · obtain ⟨b, o, rfl, hbl, y⟩ := hx.out.at (below_up' hb.out hB hw.out) (Nat.le_trans hB hw.out.size) j hlt
      have f0 := hR.out.frozen j
      have c0 := hR.out.cell (i := j) (by simp; omega)
      have hset := hR.out.set j xs[j]
      have e : (xs.take j ++ List.replicate (xs.length - j) false).set j xs[j] = xs.take (j + 1) ++ List.replicate (xs.length - (j + 1)) false := by
        rw [List.set_append_right _ _ (by simp; omega), List.take_succ_eq_append_getElem hlt]
        rw [show xs.length - j = (xs.length - (j + 1)) + 1 by omega, List.replicate_succ]
        rw [show j - (xs.take j).length = 0 by simp; omega, List.set_cons_zero, List.append_assoc]; rfl
      rw [e] at hset
      have hw2 : Below w.heap.size w (wr.setCell ⟨w.heap.size, j, none⟩ ((fun b : Bool => Value.bool b) xs[j])) := hw.out.setCell (by simp) _
      replace hset := Lib.hid hset
      replace hw2 := Lib.hid hw2
      replace e := Lib.hid e
      go_wp2_with fail
      go_roundw
      case rel => exact ⟨j + 1, by omega, by go_num, hset, hw2⟩
      case measure => simp [intOf]; omega
    · have ej : j = xs.length := by omega
      subst ej
      have hR2 := hR.out
      rw [List.take_length, Nat.sub_self, List.replicate_zero, List.append_nil] at hR2
      replace hR2 := Lib.hid hR2
      go_wp2_with fail
      go_ret
      exact ⟨rfl, hR2.out, hw.out⟩
end Go.Proofs.Ytpccgdkidnkppaa

set_option linter.unusedVariables false
set_option linter.unusedSimpArgs false
namespace Go.Proofs.Ytpccgdkidnkppaa
open Go Go.RowKit

/-- a task, copied: what it gives -/
def ToT (t : Task) (w : World) (e : Ending) (w' : World) : Prop :=
  ∃ A c, e = .returned (.agg #[.int .i64 t.kind, .int .i64 t.n, .slice A t.parts.length c]) ∧ t.parts.length ≤ c ∧ c ≤ maxLen ∧ TL true w.heap.size w'.heap.size w' A 0 t.parts ∧ Below w.heap.size w w'
def ToL (ps : List Task) (w : World) (e : Ending) (w' : World) : Prop :=
  e = .returned (.slice (some ⟨w.heap.size, 0, none⟩) ps.length ps.length) ∧ TL true w.heap.size w'.heap.size w' (some ⟨w.heap.size, 0, none⟩) 0 ps ∧ Below w.heap.size w w'

/-- the first j elements of a new row of tasks are laid; what they lead to lies behind the row -/
def LaidT (bn : Nat) (ps : List Task) (j : Nat) (w : World) : Prop :=
  ∃ cur, w.heap[bn]? = some (.cells cur 48 (0, 0)) ∧ cur.size = ps.length * 3 ∧ ∀ i (h : i < ps.length), i < j → ∃ A c, cur[i * 3]? = some (.int .i64 ps[i].kind) ∧ cur[i * 3 + 1]? = some (.int .i64 ps[i].n) ∧ cur[i * 3 + 2]? = some (.slice A ps[i].parts.length c) ∧ ps[i].parts.length ≤ c ∧ c ≤ maxLen ∧ TL true (bn + 1) w.heap.size w A 0 ps[i].parts
theorem LaidT.up {bn j : Nat} {ps : List Task} {w w' : World} (h : LaidT bn ps j w) (hb : Below w.heap.size w w') : LaidT bn ps j w' := by
  obtain ⟨cur, h1, h2, h3⟩ := h
  refine ⟨cur, (hb.block _ (block_lt h1)).trans h1, h2, fun i hi hj => ?_⟩
  obtain ⟨A, c, g1, g2, g3, g4, g5, g6⟩ := h3 i hi hj
  exact ⟨A, c, g1, g2, g3, g4, g5, g6.up hb⟩
theorem LaidT.tree {bn : Nat} {ps : List Task} {w : World} (h : LaidT bn ps ps.length w) : TL true bn w.heap.size w (some ⟨bn, 0, none⟩) 0 ps := by
  obtain ⟨cur, h1, h2, h3⟩ := h
  have hl := block_lt h1
  refine TL.of fun i hi => ?_
  obtain ⟨A, c, g1, g2, g3, g4, g5, g6⟩ := h3 i hi hi
  refine ⟨bn, 0, cur, _, _, _, _, rfl, Nat.le_refl _, hl, h1, ?_, ?_, ?_, TN.shut (kk := ps[i].kind) (nn := ps[i].n) (fun _ => ⟨rfl, rfl⟩) g4 g5 (TL.kept (fun b _ _ => rfl) (by omega) (Nat.le_refl _) _ _ _ g6)⟩
  · rw [Nat.zero_add, Nat.zero_add]; exact g1
  · rw [Nat.zero_add, Nat.zero_add]; exact g2
  · rw [Nat.zero_add, Nat.zero_add]; exact g3
theorem LaidT.cells {bn j : Nat} {ps : List Task} {w : World} (h : LaidT bn ps j w) {i : Nat} (hi : i < ps.length) : (∃ x, w.cell? ⟨bn, i * 3, none⟩ = some x) ∧ (∃ x, w.cell? ⟨bn, i * 3 + 1, none⟩ = some x) ∧ (∃ x, w.cell? ⟨bn, i * 3 + 2, none⟩ = some x) ∧ ∀ q, w.frozen? ⟨bn, q, none⟩ = false := by
  obtain ⟨cur, h1, h2, h3⟩ := h
  refine ⟨⟨_, (cellm h1 _).trans (Array.getElem?_eq_getElem (by omega))⟩, ⟨_, (cellm h1 _).trans (Array.getElem?_eq_getElem (by omega))⟩, ⟨_, (cellm h1 _).trans (Array.getElem?_eq_getElem (by omega))⟩, fun q => frozenm h1 q⟩
theorem LaidT.put {bn j : Nat} {ps : List Task} {w : World} (h : LaidT bn ps j w) (hj : j < ps.length) {A : Option Addr} {c : Nat} (hc : ps[j].parts.length ≤ c) (hm : c ≤ maxLen) (ht : TL true (bn + 1) w.heap.size w A 0 ps[j].parts) :
    LaidT bn ps (j + 1) (((w.setCell ⟨bn, j * 3, none⟩ (.int .i64 ps[j].kind)).setCell ⟨bn, j * 3 + 1, none⟩ (.int .i64 ps[j].n)).setCell ⟨bn, j * 3 + 2, none⟩ (.slice A ps[j].parts.length c)) := by
  obtain ⟨cur, h1, h2, h3⟩ := h
  have e1 := setCell_block h1 (j * 3) (.int .i64 ps[j].kind)
  have e2 := setCell_block e1 (j * 3 + 1) (.int .i64 ps[j].n)
  have e3 := setCell_block e2 (j * 3 + 2) (.slice A ps[j].parts.length c)
  have hfar : ∀ b, b ≠ bn → (((w.setCell ⟨bn, j * 3, none⟩ (.int .i64 ps[j].kind)).setCell ⟨bn, j * 3 + 1, none⟩ (.int .i64 ps[j].n)).setCell ⟨bn, j * 3 + 2, none⟩ (.slice A ps[j].parts.length c)).heap[b]? = w.heap[b]? := fun b hb => ((setCell_far hb).trans (setCell_far hb)).trans (setCell_far hb)
  have hsz : (((w.setCell ⟨bn, j * 3, none⟩ (.int .i64 ps[j].kind)).setCell ⟨bn, j * 3 + 1, none⟩ (.int .i64 ps[j].n)).setCell ⟨bn, j * 3 + 2, none⟩ (.slice A ps[j].parts.length c)).heap.size = w.heap.size := by simp [World.setCell]
  refine ⟨_, e3, by simpa using h2, fun i hi hij => ?_⟩
  rw [hsz]
  by_cases e : i = j
  · subst e
    refine ⟨A, c, ?_, ?_, ?_, hc, hm, TL.kept (fun b hlo _ => hfar b (by omega)) (Nat.le_refl _) (Nat.le_refl _) _ _ _ ht⟩
    · simp [Array.getElem?_setIfInBounds, show i * 3 < cur.size by omega]
    · simp [Array.getElem?_setIfInBounds, show i * 3 + 1 < cur.size by omega]
    · simp [Array.getElem?_setIfInBounds, show i * 3 + 2 < cur.size by omega]
  · obtain ⟨A', c', g1, g2, g3, g4, g5, g6⟩ := h3 i hi (by omega)
    refine ⟨A', c', ?_, ?_, ?_, g4, g5, TL.kept (fun b hlo _ => hfar b (by omega)) (Nat.le_refl _) (Nat.le_refl _) _ _ _ g6⟩
    · simpa [Array.getElem?_setIfInBounds, show ¬ j * 3 = i * 3 by omega, show ¬ j * 3 + 1 = i * 3 by omega, show ¬ j * 3 + 2 = i * 3 by omega] using g1
    · simpa [Array.getElem?_setIfInBounds, show ¬ j * 3 = i * 3 + 1 by omega, show ¬ j * 3 = i * 3 by omega, show ¬ j * 3 + 1 = i * 3 + 1 by omega, show ¬ j * 3 + 2 = i * 3 + 1 by omega] using g2
    · simpa [Array.getElem?_setIfInBounds, show ¬ j * 3 = i * 3 + 2 by omega, show ¬ j * 3 = i * 3 by omega, show ¬ j * 3 = i * 3 + 1 by omega, show ¬ j * 3 + 1 = i * 3 + 2 by omega, show ¬ j * 3 + 2 = i * 3 + 2 by omega] using g3

set_option maxHeartbeats 4000000 in
theorem toTaskS_of (ps : List Task) (hn : nodesL ps ≤ 1048576) (ih : ∀ p ∈ ps, nodesL p.parts ≤ 1048576 → ∀ (A : Option Addr) (c B : Nat) (w0 w : World), Below B w0 w → B ≤ w.heap.size → p.parts.length ≤ c → c ≤ maxLen → PartsIs B w0 A 0 p.parts →
      Calls Try.prog 112 #[.agg #[.int .i64 p.kind, .int .i64 p.n, .slice A p.parts.length c]] w (ToT p w))
    (A : Option Addr) (c B : Nat) (w0 w : World) (hb : Below B w0 w) (hB : B ≤ w.heap.size) (hc : ps.length ≤ c) (hm : c ≤ maxLen) (hp : PartsIs B w0 A 0 ps) :
    Calls Try.prog 60 #[.slice A ps.length c] w (ToL ps w) := by
  have hlen := parts_len ps
  have hmk := make_tasks ps.length (by omega)
  unfold maxLen at hm
  replace ih := Lib.hid ih
  replace hb := Lib.hid hb
  replace hp := Lib.hid hp
  go_enter Try.func60, Try.ntmps60
  go_wp2_with fail
  go_loopw [4] (fun i wr => ∃ (j : Nat), j ≤ ps.length ∧ i = .int .i64 j ∧ Hid (LaidT w.heap.size ps j wr) ∧ Hid (Below w.heap.size w wr)) (fun i _ => ps.length - (intOf i).toNat)
  case atStart => exact ⟨0, Nat.zero_le _, rfl, Lib.hid ⟨_, heap_new rfl, by simp [madeCells], fun i hi h => by omega⟩, Lib.hid (below_al (Below.refl _ _) _)⟩
  case round =>
    obtain ⟨j, hj, rfl, hL, hw⟩ := hrel
    by_cases hlt : j < ps.length
    · obtain ⟨b, o, A', c', rfl, hb', h1, h2, h3, h4, h5, h6⟩ := hp.out.at (below_up' hb.out hB hw.out) j hlt
      have hnj : nodesL ps[j].parts ≤ 1048576 := by have := nodesL_at hlt; have := nodes_parts ps[j]; omega
      have hcall := ih.out ps[j] (List.getElem_mem hlt) hnj A' c' B w0 wr (below_up' hb.out hB hw.out) (Nat.le_trans hB hw.out.size) h4 h5 h6
      have hbl : b < wr.heap.size := by have := hw.out.size; omega
      have hsz : w.heap.size < wr.heap.size := by obtain ⟨cur, q, _⟩ := hL.out; exact block_lt q
      replace hcall := Lib.hid hcall
      clear h4 h5 h6
      go_wp2_with fail
      refine hcall.out.mono ?_
      rintro e w2 ⟨A2, c2, rfl, g1, g2, g3, g4⟩
      have hL2 := hL.out.up g4
      have hw2 := below_up hw.out g4
      obtain ⟨⟨x0, y0⟩, ⟨x1, y1⟩, ⟨x2, y2⟩, ff⟩ := hL2.cells hlt
      have f0 := ff (j * 3)
      have f1 := ff (j * 3 + 1)
      have f2 := ff (j * 3 + 2)
      have hL3 := hL2.put hlt g1 g2 (TL.kept (fun b _ _ => rfl) (by omega) (Nat.le_refl _) _ _ _ g3)
      have hw3 : Below w.heap.size w (((w2.setCell ⟨w.heap.size, j * 3, none⟩ (.int .i64 ps[j].kind)).setCell ⟨w.heap.size, j * 3 + 1, none⟩ (.int .i64 ps[j].n)).setCell ⟨w.heap.size, j * 3 + 2, none⟩ (.slice A2 ps[j].parts.length c2)) := ((hw2.setCell (by simp) _).setCell (by simp) _).setCell (by simp) _
      replace hL3 := Lib.hid hL3
      replace hw3 := Lib.hid hw3
      clear g3 g4 hL2 hw2 hcall ff hL hw
      go_wp2_with fail
      go_roundw
      case rel => exact ⟨j + 1, by omega, by go_num, hL3, hw3⟩
      case measure => simp [intOf]; omega
    · have e : j = ps.length := by omega
      subst e
      go_wp2_with fail
      go_ret
      exact ⟨rfl, hL.out.tree, hw.out⟩

set_option maxHeartbeats 4000000 in
theorem toTask_calls : ∀ (p : Task), nodesL p.parts ≤ 1048576 → ∀ (A : Option Addr) (c B : Nat) (w0 w : World), Below B w0 w → B ≤ w.heap.size → p.parts.length ≤ c → c ≤ maxLen → PartsIs B w0 A 0 p.parts →
      Calls Try.prog 112 #[.agg #[.int .i64 p.kind, .int .i64 p.n, .slice A p.parts.length c]] w (ToT p w) := by
  refine Task.ind ?_
  intro k n ps ih hn A c B w0 w hb hB hc hm hp
  simp only [Task.kind, Task.n, Task.parts] at hc hp hn ⊢
  have hS := fun w1 (hw : Below w.heap.size w w1) => toTaskS_of ps hn ih A c B w0 w1 (below_up' hb hB hw) (Nat.le_trans hB hw.size) hc hm hp
  have hlen := parts_len ps
  replace hS := Lib.hid hS
  clear ih hb hp
  go_enter Try.func112, Try.ntmps112
  go_wp2_with fail
  refine (hS.out _ (below_al (below_al (below_al (Below.refl _ _) _) _) _)).mono ?_
  rintro e w1 ⟨rfl, ht, h1⟩
  have q1 := (h1.block (w.heap.size + 1) (by simp)).trans ((heap_old (by simp)).trans (heap_new (by simp)))
  have q2 := (h1.block (w.heap.size + 1 + 1) (by simp)).trans (heap_new (by simp))
  have x0 := (cellm q2 0).trans rfl
  have x1 := (cellm q2 1).trans rfl
  have x2 := (cellm q2 2).trans rfl
  have y0 := (cellm q1 0).trans rfl
  have y1 := (cellm q1 1).trans rfl
  have y2 := (cellm q1 2).trans rfl
  have g0 := frozenm q1 0
  have g1 := frozenm q1 1
  have g2 := frozenm q1 2
  have f2 := frozenm q2 2
  have hlo : (((w.alloc (.cells #[.int .i64 k, .int .i64 n, .slice A ps.length c] 136)).alloc (.cells #[.int .i64 0, .int .i64 0, .slice none 0 0] 48)).alloc (.cells #[.int .i64 k, .int .i64 n, .slice none 0 0] 48)).heap.size = w.heap.size + 1 + 1 + 1 := by simp
  rw [hlo] at ht
  have hb1 : Below w.heap.size w w1 := below_from (below_from (below_from h1))
  have p1 := setCell_far (w := w1) (m := w.heap.size + 1 + 1) (j := 2) (v := .slice (some ⟨w.heap.size + 1 + 1 + 1, 0, none⟩) ps.length ps.length) (k := w.heap.size + 1) (by omega)
  have p2 := setCell_block (setCell_block (setCell_block (p1.trans q1) 0 (.int .i64 k)) 1 (.int .i64 n)) 2 (.slice (some ⟨w.heap.size + 1 + 1 + 1, 0, none⟩) ps.length ps.length)
  have hK : ∀ b, b ≠ w.heap.size + 1 → b ≠ w.heap.size + 1 + 1 → ((((w1.setCell ⟨w.heap.size + 1 + 1, 2, none⟩ (.slice (some ⟨w.heap.size + 1 + 1 + 1, 0, none⟩) ps.length ps.length)).setCell ⟨w.heap.size + 1, 0, none⟩ (.int .i64 k)).setCell ⟨w.heap.size + 1, 1, none⟩ (.int .i64 n)).setCell ⟨w.heap.size + 1, 2, none⟩ (.slice (some ⟨w.heap.size + 1 + 1 + 1, 0, none⟩) ps.length ps.length)).heap[b]? = w1.heap[b]? :=
    fun b h2 h3 => (((setCell_far h2).trans (setCell_far h2)).trans (setCell_far h2)).trans (setCell_far h3)
  have hbW : Below w.heap.size w ((((w1.setCell ⟨w.heap.size + 1 + 1, 2, none⟩ (.slice (some ⟨w.heap.size + 1 + 1 + 1, 0, none⟩) ps.length ps.length)).setCell ⟨w.heap.size + 1, 0, none⟩ (.int .i64 k)).setCell ⟨w.heap.size + 1, 1, none⟩ (.int .i64 n)).setCell ⟨w.heap.size + 1, 2, none⟩ (.slice (some ⟨w.heap.size + 1 + 1 + 1, 0, none⟩) ps.length ps.length)) :=
    (((hb1.setCell (by simp; omega) _).setCell (by simp) _).setCell (by simp) _).setCell (by simp) _
  have hsz : ((((w1.setCell ⟨w.heap.size + 1 + 1, 2, none⟩ (.slice (some ⟨w.heap.size + 1 + 1 + 1, 0, none⟩) ps.length ps.length)).setCell ⟨w.heap.size + 1, 0, none⟩ (.int .i64 k)).setCell ⟨w.heap.size + 1, 1, none⟩ (.int .i64 n)).setCell ⟨w.heap.size + 1, 2, none⟩ (.slice (some ⟨w.heap.size + 1 + 1 + 1, 0, none⟩) ps.length ps.length)).heap.size = w1.heap.size := by simp [World.setCell]
  have hTL := TL.kept (w' := ((((w1.setCell ⟨w.heap.size + 1 + 1, 2, none⟩ (.slice (some ⟨w.heap.size + 1 + 1 + 1, 0, none⟩) ps.length ps.length)).setCell ⟨w.heap.size + 1, 0, none⟩ (.int .i64 k)).setCell ⟨w.heap.size + 1, 1, none⟩ (.int .i64 n)).setCell ⟨w.heap.size + 1, 2, none⟩ (.slice (some ⟨w.heap.size + 1 + 1 + 1, 0, none⟩) ps.length ps.length))) (lo' := w.heap.size) (hi' := w1.heap.size) (fun b h2 h3 => hK b (by omega) (by omega)) (by omega) (Nat.le_refl _) _ _ _ ht
  replace hTL := Lib.hid hTL
  replace hbW := Lib.hid hbW
  replace hsz := Lib.hid hsz
  replace p2 := Lib.hid p2
  clear hK p1 hb1 ht hlo q1 q2 h1 hS
  simp only [List.size_toArray, List.length_cons, List.length_nil] at *
  go_wp2_with fail
  refine ret_task rfl (by rfl) (a := .int .i64 k) (b := .int .i64 n) p2.out ⟨_, _, rfl, Nat.le_refl _, by unfold maxLen; omega, ?_, hbW.out⟩
  rw [hsz.out]
  exact hTL.out
theorem toTaskS_calls (ps : List Task) (hn : nodesL ps ≤ 1048576) (A : Option Addr) (c B : Nat) (w0 w : World) (hb : Below B w0 w) (hB : B ≤ w.heap.size) (hc : ps.length ≤ c) (hm : c ≤ maxLen) (hp : PartsIs B w0 A 0 ps) :
    Calls Try.prog 60 #[.slice A ps.length c] w (ToL ps w) :=
  toTaskS_of ps hn (fun p _ hn => toTask_calls p hn) A c B w0 w hb hB hc hm hp
end Go.Proofs.Ytpccgdkidnkppaa

set_option linter.unusedVariables false
set_option linter.unusedSimpArgs false
namespace Go.Proofs.Ytpccgdkidnkppaa
open Go Go.RowKit

/-- a sheet, copied: its row of truths ahead of the tree of its tasks -/
structure SheetT (lo mid hi bm bt : Nat) (made : List Bool) (tasks : List Task) (w : World) : Prop where
  h1 : lo ≤ bm
  h2 : bm < mid
  h3 : mid ≤ hi
  row : RowBlk (fun b : Bool => Value.bool b) 4 w bm made
  tree : TL true mid hi w (some ⟨bt, 0, none⟩) 0 tasks
theorem SheetT.kept {lo mid hi bm bt hi' : Nat} {made : List Bool} {tasks : List Task} {w w' : World} (h : SheetT lo mid hi bm bt made tasks w) (hk : ∀ b, lo ≤ b → b < hi → w'.heap[b]? = w.heap[b]?) (hh : hi ≤ hi') : SheetT lo mid hi' bm bt made tasks w' := by
  obtain ⟨h1, h2, h3, h4, h5⟩ := h
  exact ⟨h1, h2, by omega, h4.turn (hk _ h1 (by omega)), TL.kept (fun b q1 q2 => hk b (by omega) q2) (Nat.le_refl _) hh _ _ _ h5⟩
theorem SheetT.at {lo mid hi bm bt B : Nat} {made : List Bool} {tasks : List Task} {w : World} (h : SheetT lo mid hi bm bt made tasks w) (hB : hi ≤ B) (hm : made.length ≤ maxLen) (ht : tasks.length ≤ maxLen) : SheetAt B w (some ⟨bm, 0, none⟩) made.length (some ⟨bt, 0, none⟩) tasks.length made tasks :=
  ⟨Nat.le_refl _, hm, Nat.le_refl _, ht, fun i hi => ⟨bm, 0, rfl, by have := h.h2; have := h.h3; omega, by rw [Nat.zero_add]; exact h.row.cell hi⟩, TL.parts hB _ _ _ h.tree⟩
def ToS (made : List Bool) (tasks : List Task) (w : World) (e : Ending) (w' : World) : Prop :=
  ∃ bm bt mid, e = .returned (.agg #[.slice (some ⟨bm, 0, none⟩) made.length made.length, .slice (some ⟨bt, 0, none⟩) tasks.length tasks.length]) ∧ SheetT w.heap.size mid w'.heap.size bm bt made tasks w' ∧ Below w.heap.size w w'

set_option maxHeartbeats 4000000 in
theorem toSheet_calls (Am At : Option Addr) (cm ct : Nat) (made : List Bool) (tasks : List Task) (B : Nat) (w0 w : World) (hb : Below B w0 w) (hB : B ≤ w.heap.size) (hml : made.length ≤ 1048576) (hm : BoolsAt B w0 Am made) (hn : nodesL tasks ≤ 1048576) (hc : tasks.length ≤ ct) (hct : ct ≤ maxLen) (hp : PartsIs B w0 At 0 tasks) :
    Calls Try.prog 14 #[.agg #[.slice Am made.length cm, .slice At tasks.length ct]] w (ToS made tasks w) := by
  have hb1 := fun w1 (hw : Below w.heap.size w w1) => toBoolS_calls Am cm made B w0 w1 (below_up' hb hB hw) (Nat.le_trans hB hw.size) hml hm
  have hb2 := fun w1 (hw : Below w.heap.size w w1) => toTaskS_calls tasks hn At ct B w0 w1 (below_up' hb hB hw) (Nat.le_trans hB hw.size) hc hct hp
  have hlen := parts_len tasks
  replace hb1 := Lib.hid hb1
  replace hb2 := Lib.hid hb2
  clear hb hm hp
  go_enter Try.func14, Try.ntmps14
  go_wp2_with fail
  refine (hb1.out _ (below_al (below_al (below_al (Below.refl _ _) _) _) _)).mono ?_
  rintro e w1 ⟨rfl, hR, h1⟩
  have q0 := (h1.block w.heap.size (by simp; omega)).trans ((heap_old (by simp; omega)).trans ((heap_old (by simp)).trans (heap_new rfl)))
  have q1 := (h1.block (w.heap.size + 1) (by simp)).trans ((heap_old (by simp)).trans (heap_new (by simp)))
  have q2 := (h1.block (w.heap.size + 1 + 1) (by simp)).trans (heap_new (by simp))
  have hlo : (((w.alloc (.cells #[.slice Am made.length cm, .slice At tasks.length ct] 25)).alloc (.cells #[.slice none 0 0, .slice none 0 0] 31)).alloc (.cells #[.slice none 0 0, .slice none 0 0] 31)).heap.size = w.heap.size + 1 + 1 + 1 := by simp
  rw [hlo] at hR
  have x0 := (cellm q2 0).trans rfl
  have f0 := frozenm q2 0
  have x1 := (cellm q0 1).trans rfl
  have b1 : Below w.heap.size w w1 := below_from (below_from (below_from h1))
  have s1 := hR.lt
  have hset : Below w.heap.size w (w1.setCell ⟨w.heap.size + 1 + 1, 0, none⟩ (.slice (some ⟨w.heap.size + 1 + 1 + 1, 0, none⟩) made.length made.length)) := b1.setCell (by simp; omega) _
  have e2 := setCell_block q2 0 (.slice (some ⟨w.heap.size + 1 + 1 + 1, 0, none⟩) made.length made.length)
  have hR1 := hR.turn (setCell_far (w := w1) (m := w.heap.size + 1 + 1) (j := 0) (v := .slice (some ⟨w.heap.size + 1 + 1 + 1, 0, none⟩) made.length made.length) (k := w.heap.size + 1 + 1 + 1) (by omega))
  have e1 := (setCell_far (w := w1) (m := w.heap.size + 1 + 1) (j := 0) (v := .slice (some ⟨w.heap.size + 1 + 1 + 1, 0, none⟩) made.length made.length) (k := w.heap.size + 1) (by omega)).trans q1
  have hz : (w1.setCell ⟨w.heap.size + 1 + 1, 0, none⟩ (.slice (some ⟨w.heap.size + 1 + 1 + 1, 0, none⟩) made.length made.length)).heap.size = w1.heap.size := by simp [World.setCell]
  replace hR1 := Lib.hid hR1
  replace e1 := Lib.hid e1
  replace e2 := Lib.hid e2
  replace hset := Lib.hid hset
  replace hz := Lib.hid hz
  clear hlo h1 hR q1 q2 q0 b1
  go_wp2_with fail
  refine (hb2.out _ hset.out).mono ?_
  rintro e w2 ⟨rfl, ht, h2⟩
  have q1 := (h2.block (w.heap.size + 1) (by rw [hz.out]; omega)).trans e1.out
  have q2 := (h2.block (w.heap.size + 1 + 1) (by rw [hz.out]; omega)).trans e2.out
  have hR2 := hR1.out.turn (h2.block _ (by rw [hz.out]; omega))
  have hb3 := below_up hset.out h2
  have hs2 := h2.size
  rw [hz.out] at ht hs2
  have hz2 : w1.heap.size ≤ w2.heap.size := hs2
  have y0 := (cellm q1 0).trans rfl
  have y1 := (cellm q1 1).trans rfl
  have g0 := frozenm q1 0
  have g1 := frozenm q1 1
  have z0 := (cellm q2 0).trans rfl
  have z1 := (cellm q2 1).trans rfl
  have k1 := frozenm q2 1
  clear x0 f0 x1 hs2 h2
  have hz' := hz.out
  simp only [hz']
  obtain ⟨mid, hmid⟩ : ∃ mid, mid = w1.heap.size := ⟨_, rfl⟩
  rw [← hmid] at ht hz2 s1 ⊢
  obtain ⟨vm, hvm⟩ : ∃ vm, vm = Value.slice (some ⟨w.heap.size + 1 + 1 + 1, 0, none⟩) made.length made.length := ⟨_, rfl⟩
  obtain ⟨vt, hvt⟩ : ∃ vt, vt = Value.slice (some ⟨mid, 0, none⟩) tasks.length tasks.length := ⟨_, rfl⟩
  have p1 := setCell_far (w := w2) (m := w.heap.size + 1 + 1) (j := 1) (v := .slice (some ⟨mid, 0, none⟩) tasks.length tasks.length) (k := w.heap.size + 1) (by omega)
  have p2 := setCell_block (setCell_block (p1.trans q1) 0 (.slice (some ⟨w.heap.size + 1 + 1 + 1, 0, none⟩) made.length made.length)) 1 (.slice (some ⟨mid, 0, none⟩) tasks.length tasks.length)
  have hK : ∀ b, b ≠ w.heap.size + 1 → b ≠ w.heap.size + 1 + 1 → (((w2.setCell ⟨w.heap.size + 1 + 1, 1, none⟩ (.slice (some ⟨mid, 0, none⟩) tasks.length tasks.length)).setCell ⟨w.heap.size + 1, 0, none⟩ (.slice (some ⟨w.heap.size + 1 + 1 + 1, 0, none⟩) made.length made.length)).setCell ⟨w.heap.size + 1, 1, none⟩ (.slice (some ⟨mid, 0, none⟩) tasks.length tasks.length)).heap[b]? = w2.heap[b]? :=
    fun b h2 h3 => ((setCell_far h2).trans (setCell_far h2)).trans (setCell_far h3)
  have hbW : Below w.heap.size w (((w2.setCell ⟨w.heap.size + 1 + 1, 1, none⟩ (.slice (some ⟨mid, 0, none⟩) tasks.length tasks.length)).setCell ⟨w.heap.size + 1, 0, none⟩ (.slice (some ⟨w.heap.size + 1 + 1 + 1, 0, none⟩) made.length made.length)).setCell ⟨w.heap.size + 1, 1, none⟩ (.slice (some ⟨mid, 0, none⟩) tasks.length tasks.length)) :=
    ((hb3.setCell (by simp; omega) _).setCell (by simp) _).setCell (by simp) _
  have hsz : (((w2.setCell ⟨w.heap.size + 1 + 1, 1, none⟩ (.slice (some ⟨mid, 0, none⟩) tasks.length tasks.length)).setCell ⟨w.heap.size + 1, 0, none⟩ (.slice (some ⟨w.heap.size + 1 + 1 + 1, 0, none⟩) made.length made.length)).setCell ⟨w.heap.size + 1, 1, none⟩ (.slice (some ⟨mid, 0, none⟩) tasks.length tasks.length)).heap.size = w2.heap.size := by simp [World.setCell]
  have hfin : SheetT w.heap.size mid w2.heap.size (w.heap.size + 1 + 1 + 1) mid made tasks (((w2.setCell ⟨w.heap.size + 1 + 1, 1, none⟩ (.slice (some ⟨mid, 0, none⟩) tasks.length tasks.length)).setCell ⟨w.heap.size + 1, 0, none⟩ (.slice (some ⟨w.heap.size + 1 + 1 + 1, 0, none⟩) made.length made.length)).setCell ⟨w.heap.size + 1, 1, none⟩ (.slice (some ⟨mid, 0, none⟩) tasks.length tasks.length)) :=
    ⟨by omega, by omega, hz2, hR2.turn (hK _ (by omega) (by omega)), TL.kept (fun b h2 h3 => hK b (by omega) (by omega)) (Nat.le_refl _) (Nat.le_refl _) _ _ _ ht⟩
  replace hfin := Lib.hid hfin
  replace hbW := Lib.hid hbW
  replace hsz := Lib.hid hsz
  replace p2 := Lib.hid p2
  clear hK p1 hb3 ht q1 q2 hR2 hvm hvt hz' hmid
  go_wp2_with fail
  refine ret_sheet rfl (by rfl) p2.out ⟨_, _, mid, rfl, ?_, hbW.out⟩
  rw [hsz.out]
  exact hfin.out

/-! the same -/

set_option maxHeartbeats 1000000 in
theorem eqIntS_same (A A2 : Option Addr) (c c2 : Nat) (xs : List Int) (w : World) (hl : xs.length ≤ maxLen) (hx : IntsAt w.heap.size w A xs) (hy : IntsAt w.heap.size w A2 xs) :
    Calls Try.prog 18 #[.slice A xs.length c, .slice A2 xs.length c2] w fun e w' => e = .returned (.bool true) ∧ Below w.heap.size w w' := by
  unfold maxLen at hl
  replace hx := Lib.hid hx
  replace hy := Lib.hid hy
  go_enter Try.func18, Try.ntmps18
  go_wp2_with fail
  go_loopw [5] (fun i wr => ∃ (j : Nat), j ≤ xs.length ∧ i = .int .i64 j ∧ Hid (Below w.heap.size w wr)) (fun i _ => xs.length - (intOf i).toNat)
  case atStart => exact ⟨0, Nat.zero_le _, rfl, Lib.hid (Below.refl _ _)⟩
  case round =>
    obtain ⟨j, hj, rfl, hw⟩ := hrel
    by_cases hlt : j < xs.length
    · obtain ⟨b, o, e, hb, y⟩ := (hx.out.up hw.out hw.out.size) j hlt
      subst e
      obtain ⟨b2, o2, e2, hb2, y2⟩ := (hy.out.up hw.out hw.out.size) j hlt
      subst e2
      have hv : (xs[j] != xs[j]) = false := by simp
      generalize xs[j] = v at *
      go_wp2_with fail
      go_region
      all_goals
        go_wp2_with fail
        go_roundw
        case rel => exact ⟨j + 1, by omega, by go_num, Lib.hid hw.out.drew⟩
        case measure => simp [intOf]; omega
    · go_wp2_with fail
      go_ret
      exact ⟨rfl, hw.out⟩

set_option maxHeartbeats 1000000 in
theorem eqBoolS_same (A A2 : Option Addr) (c c2 : Nat) (xs : List Bool) (w : World) (hl : xs.length ≤ maxLen) (hx : BoolsAt w.heap.size w A xs) (hy : BoolsAt w.heap.size w A2 xs) :
    Calls Try.prog 64 #[.slice A xs.length c, .slice A2 xs.length c2] w fun e w' => e = .returned (.bool true) ∧ Below w.heap.size w w' := by
  unfold maxLen at hl
  replace hx := Lib.hid hx
  replace hy := Lib.hid hy
  go_enter Try.func64, Try.ntmps64
  go_wp2_with fail
  go_loopw [5] (fun i wr => ∃ (j : Nat), j ≤ xs.length ∧ i = .int .i64 j ∧ Hid (Below w.heap.size w wr)) (fun i _ => xs.length - (intOf i).toNat)
  case atStart => exact ⟨0, Nat.zero_le _, rfl, Lib.hid (Below.refl _ _)⟩
  case round =>
    obtain ⟨j, hj, rfl, hw⟩ := hrel
    by_cases hlt : j < xs.length
    · obtain ⟨b, o, e, hb, y⟩ := (hx.out.up hw.out hw.out.size) j hlt
      subst e
      obtain ⟨b2, o2, e2, hb2, y2⟩ := (hy.out.up hw.out hw.out.size) j hlt
      subst e2
      have hv : (xs[j] != xs[j]) = false := by simp
      generalize xs[j] = v at *
      go_wp2_with fail
      go_region
      all_goals
        go_wp2_with fail
        go_roundw
        case rel => exact ⟨j + 1, by omega, by go_num, Lib.hid hw.out.drew⟩
        case measure => simp [intOf]; omega
    · go_wp2_with fail
      go_ret
      exact ⟨rfl, hw.out⟩
end Go.Proofs.Ytpccgdkidnkppaa

set_option linter.unusedVariables false
set_option linter.unusedSimpArgs false
namespace Go.Proofs.Ytpccgdkidnkppaa
open Go Go.RowKit

/-! the same trees -/
def PTask : Task → Prop := fun p => ∀ (A A2 : Option Addr) (c c2 : Nat) (w : World), p.parts.length ≤ c → c ≤ maxLen → PartsIs w.heap.size w A 0 p.parts → PartsIs w.heap.size w A2 0 p.parts →
      Calls Try.prog 114 #[.agg #[.int .i64 p.kind, .int .i64 p.n, .slice A p.parts.length c], .agg #[.int .i64 p.kind, .int .i64 p.n, .slice A2 p.parts.length c2]] w fun e w' => e = .returned (.bool true) ∧ Below w.heap.size w w'
set_option maxHeartbeats 4000000 in
theorem eqTaskS_of (ps : List Task) (ih : ∀ p ∈ ps, PTask p) (A A2 : Option Addr) (c c2 : Nat) (w : World) (hc : ps.length ≤ c) (hm : c ≤ maxLen) (hp : PartsIs w.heap.size w A 0 ps) (hp2 : PartsIs w.heap.size w A2 0 ps) :
    Calls Try.prog 65 #[.slice A ps.length c, .slice A2 ps.length c2] w fun e w' => e = .returned (.bool true) ∧ Below w.heap.size w w' := by
  unfold maxLen at hm
  replace ih := Lib.hid ih
  replace hp := Lib.hid hp
  replace hp2 := Lib.hid hp2
  go_enter Try.func65, Try.ntmps65
  go_wp2_with fail
  go_loopw [5] (fun i wr => ∃ (j : Nat), j ≤ ps.length ∧ i = .int .i64 j ∧ Hid (Below w.heap.size w wr)) (fun i _ => ps.length - (intOf i).toNat)
  case atStart => exact ⟨0, Nat.zero_le _, rfl, Lib.hid (Below.refl _ _)⟩
  case round =>
    obtain ⟨j, hj, rfl, hw⟩ := hrel
    by_cases hlt : j < ps.length
    · obtain ⟨b, o, A', c', rfl, hb', h1, h2, h3, h4, h5, h6⟩ := hp.out.at hw.out j hlt
      obtain ⟨b2, o2, A2', c2', rfl, hb2', g1, g2, g3, g4, g5, g6⟩ := hp2.out.at hw.out j hlt
      have hbl : b < wr.heap.size := by have := hw.out.size; omega
      have hbl2 : b2 < wr.heap.size := by have := hw.out.size; omega
      have hcall := ih.out ps[j] (List.getElem_mem hlt) A' A2' c' c2' wr.drew h4 h5 (PartsIs.up hw.out.drew hw.out.size _ _ _ h6) (PartsIs.up hw.out.drew hw.out.size _ _ _ g6)
      replace hcall := Lib.hid hcall
      clear h4 h5 h6 g4 g5 g6
      go_wp2_with fail
      go_region_held3 (fun w' => w'.cell? ⟨b, o + j * 3, none⟩ = some (.int .i64 ps[j].kind) ∧ w'.cell? ⟨b, o + j * 3 + 1, none⟩ = some (.int .i64 ps[j].n) ∧ w'.cell? ⟨b, o + j * 3 + 2, none⟩ = some (.slice A' ps[j].parts.length c') ∧ w'.cell? ⟨b2, o2 + j * 3, none⟩ = some (.int .i64 ps[j].kind) ∧ w'.cell? ⟨b2, o2 + j * 3 + 1, none⟩ = some (.int .i64 ps[j].n) ∧ w'.cell? ⟨b2, o2 + j * 3 + 2, none⟩ = some (.slice A2' ps[j].parts.length c2'))
        (first | exact ⟨k1, k2, k3, k4, k5, k6⟩ | exact ⟨h1, h2, h3, g1, g2, g3⟩)
        (first | (go_at_call 114; refine hcall.out.mono ?_; rintro e w2 ⟨rfl, q2⟩; have k1 := kept_cell q2 hbl h1; have k2 := kept_cell q2 hbl h2; have k3 := kept_cell q2 hbl h3; have k4 := kept_cell q2 hbl2 g1; have k5 := kept_cell q2 hbl2 g2; have k6 := kept_cell q2 hbl2 g3; have hw2 := below_up hw.out.drew q2; replace hw2 := Lib.hid hw2; clear q2))
      all_goals
        go_wp2_with fail
        go_roundw
        case rel => exact ⟨j + 1, by omega, by go_num, hw2⟩
        case measure => simp [intOf]; omega
    · go_wp2_with fail
      go_ret
      exact ⟨rfl, hw.out⟩
theorem eqTask_same : ∀ (p : Task), PTask p := by
  refine Task.ind ?_
  intro k n ps ih A A2 c c2 w hc hm hp hp2
  simp only [Task.kind, Task.n, Task.parts] at hc hp hp2 ⊢
  have hS := fun w1 (hw : Below w.heap.size w w1) => eqTaskS_of ps ih A A2 c c2 w1 hc hm (PartsIs.up hw hw.size _ _ _ hp) (PartsIs.up hw hw.size _ _ _ hp2)
  replace hS := Lib.hid hS
  clear ih hp hp2
  have hkk : (k != k) = false := by simp
  have hnn : (n != n) = false := by simp
  go_enter Try.func114, Try.ntmps114
  go_wp2_with fail
  refine (hS.out _ (below_al (below_al (Below.refl _ _) _) _)).mono ?_
  rintro e w1 ⟨rfl, h1⟩
  go_wp2_with fail
  go_ret
  exact ⟨rfl, below_from (below_from h1)⟩
theorem eqTaskS_same (ps : List Task) (A A2 : Option Addr) (c c2 : Nat) (w : World) (hc : ps.length ≤ c) (hm : c ≤ maxLen) (hp : PartsIs w.heap.size w A 0 ps) (hp2 : PartsIs w.heap.size w A2 0 ps) :
    Calls Try.prog 65 #[.slice A ps.length c, .slice A2 ps.length c2] w fun e w' => e = .returned (.bool true) ∧ Below w.heap.size w w' :=
  eqTaskS_of ps (fun p _ => eqTask_same p) A A2 c c2 w hc hm hp hp2
theorem eqSheet_same (Am At Am2 At2 : Option Addr) (cm ct cm2 ct2 : Nat) (made : List Bool) (tasks : List Task) (w : World) (hs : SheetAt w.heap.size w Am cm At ct made tasks) (hs2 : SheetAt w.heap.size w Am2 cm2 At2 ct2 made tasks) :
    Calls Try.prog 17 #[.agg #[.slice Am made.length cm, .slice At tasks.length ct], .agg #[.slice Am2 made.length cm2, .slice At2 tasks.length ct2]] w fun e w' => e = .returned (.bool true) ∧ Below w.heap.size w w' := by
  have h1 := fun w1 (hw : Below w.heap.size w w1) => eqBoolS_same Am Am2 cm cm2 made w1 (Nat.le_trans hs.lm hs.mm) (hs.made.up hw hw.size) (hs2.made.up hw hw.size)
  have h2 := fun w1 (hw : Below w.heap.size w w1) => eqTaskS_same tasks At At2 ct ct2 w1 hs.lt hs.mt (PartsIs.up hw hw.size _ _ _ hs.tasks) (PartsIs.up hw hw.size _ _ _ hs2.tasks)
  replace h1 := Lib.hid h1
  replace h2 := Lib.hid h2
  clear hs hs2
  go_enter Try.func17, Try.ntmps17
  go_wp2_with fail
  refine (h1.out _ (below_al (below_al (Below.refl _ _) _) _)).mono ?_
  rintro e w1 ⟨rfl, g1⟩
  have x1 : w1.cell? ⟨w.heap.size, 1, none⟩ = some (.slice At tasks.length ct) := (g1.cell (p := ⟨w.heap.size, 1, none⟩) (by simp; omega)).trans (by simp)
  have x2 : w1.cell? ⟨w.heap.size + 1, 1, none⟩ = some (.slice At2 tasks.length ct2) := (g1.cell (p := ⟨w.heap.size + 1, 1, none⟩) (by simp)).trans (by simp)
  have b1 := below_from (below_from g1)
  replace b1 := Lib.hid b1
  clear g1
  go_wp2_with fail
  refine (h2.out _ b1.out).mono ?_
  rintro e w2 ⟨rfl, g2⟩
  go_wp2_with fail
  go_ret
  exact ⟨rfl, below_up b1.out g2⟩

/-! marks -/
def marksI (k : Int) (n : Nat) : List Int := (List.range n).map fun i : Nat => k + i
theorem marksI_length (k : Int) (n : Nat) : (marksI k n).length = n := by simp [marksI]
theorem marksI_get {k : Int} {n i : Nat} (h : i < (marksI k n).length) : (marksI k n)[i] = k + i := by simp [marksI]
theorem marksI_succ (k : Int) (n : Nat) : marksI k (n + 1) = marksI k n ++ [k + n] := by simp [marksI, List.range_succ]
set_option maxHeartbeats 2000000 in
theorem markIntS_calls (base : Nat) (v : Value) (xs : List Int) (k : Int) (w : World) (ho : w.ownsRow base 3 1 v xs.length (ints xs)) (h0 : 0 ≤ k) (hk : k + xs.length ≤ 1000000000000) :
    Calls Try.prog 101 #[v, .int .i64 k] w fun e w' => e = .returned (.int .i64 (k + xs.length)) ∧ w'.ownsRow base 3 1 v xs.length (ints (marksI k xs.length)) ∧ Turn (fun i => v.ownBlock = some i) (fun i => v.ownBlock = some i) w w' := by
  obtain ⟨A, c, rfl, hl1, hl2, hl3⟩ := ownsRow_ints ho
  unfold maxLen at hl2
  replace ho := Lib.hid ho
  replace hl3 := Lib.hid hl3
  go_enter Try.func101, Try.ntmps101
  go_wp2_with fail
  go_loopw [1, 5] (fun x i wr => ∃ (j : Nat), j ≤ xs.length ∧ i = .int .i64 j ∧ x = .int .i64 (k + j) ∧ Hid (wr.ownsRow base 3 1 (.slice A xs.length c) xs.length (ints (marksI k j ++ xs.drop j))) ∧ Hid (Turn (fun i => (Value.slice A xs.length c).ownBlock = some i) (fun i => (Value.slice A xs.length c).ownBlock = some i) w wr)) (fun _ i _ => xs.length - (intOf i).toNat)
  case atStart => exact ⟨0, Nat.zero_le _, rfl, by simp, ho, Lib.hid (Turn.refl _ _)⟩
  case round =>
    obtain ⟨j, hj, rfl, rfl, ho, hT⟩ := hrel
    by_cases hlt : j < xs.length
    · obtain ⟨g, cap, hv, hg, -⟩ := ho.out.form (by omega)
      obtain ⟨rfl, -, rfl⟩ : A = some ⟨g, 0, none⟩ ∧ True ∧ c = cap := by cases hv; exact ⟨rfl, trivial, rfl⟩
      have c0 : wr.cell? ⟨g, j, none⟩ = some (.int .i64 xs[j]) := by
        have := ho.out.cells (g := g) rfl j (.int .i64 xs[j]) (by
          simp only [ints, List.map_append]
          rw [List.getElem?_append_right (by simp [marksI])]
          simp [marksI, hlt])
        rwa [Addr.add_lit, Nat.zero_add] at this
      have f0 : wr.frozen? ⟨g, j, none⟩ = false := by
        obtain ⟨_, ⟨h2, _⟩ | ⟨g', cap', cur, h2, h3, h4, _⟩⟩ := ho.out
        · cases h2
        · cases h2; exact frozenm h4 j
      have hset := ownsRow_set ho.out j (.int .i64 (k + j)) hlt
      have e : (ints (marksI k j ++ xs.drop j)).set j (.int .i64 (k + j)) = ints (marksI k (j + 1) ++ xs.drop (j + 1)) := by
        simp only [ints, List.map_append]
        rw [List.set_append_right _ _ (by simp [marksI]), List.drop_eq_getElem_cons hlt, marksI_succ, List.length_map, marksI_length, Nat.sub_self, List.map_cons, List.set_cons_zero, List.map_append, List.append_assoc]; rfl
      rw [e] at hset
      have hT2 := hT.out.trans (setCell_turn (F := fun i => (Value.slice (some ⟨g, 0, none⟩) xs.length c).ownBlock = some i) (w := wr) (a := ⟨g, j, none⟩) rfl (.int .i64 (k + j)))
      replace hset := Lib.hid hset
      replace hT2 := Lib.hid hT2
      replace e := Lib.hid e
      clear ho hT
      go_wp2_with fail
      go_roundw
      case rel => exact ⟨j + 1, by omega, by go_num, by go_num, hset, hT2⟩
      case measure => simp [intOf]; omega
    · have e : j = xs.length := by omega
      subst e
      have ho2 := ho.out
      rw [List.drop_length, List.append_nil] at ho2
      replace ho2 := Lib.hid ho2
      go_wp2_with fail
      go_ret
      exact ⟨rfl, ho2.out, hT.out⟩
set_option maxHeartbeats 2000000 in
theorem heldIntS_calls (A : Option Addr) (c n : Nat) (k : Int) (w : World) (hn : n ≤ 1000000000) (h0 : 0 ≤ k) (hk : k + n ≤ 1000000000000) (hx : IntsAt w.heap.size w A (marksI k n)) :
    Calls Try.prog 102 #[.slice A n c, .int .i64 k] w fun e w' => e = .returned (.int .i64 (k + n)) ∧ Below w.heap.size w w' := by
  replace hx := Lib.hid hx
  go_enter Try.func102, Try.ntmps102
  go_wp2_with fail
  go_loopw [1, 5] (fun x i wr => ∃ (j : Nat), j ≤ n ∧ i = .int .i64 j ∧ x = .int .i64 (k + j) ∧ wr = w) (fun _ i _ => n - (intOf i).toNat)
  case atStart => exact ⟨0, Nat.zero_le _, rfl, by simp, rfl⟩
  case round =>
    obtain ⟨j, hj, rfl, rfl, rfl⟩ := hrel
    by_cases hlt : j < n
    · obtain ⟨b, o, e, hb, y⟩ := hx.out j (by rw [marksI_length]; exact hlt)
      rw [marksI_get] at y
      subst e
      have hne : (k + (j : Int) != k + (j : Int)) = false := by simp
      go_wp2_with fail
      go_roundw
      case rel => exact ⟨j + 1, by omega, by go_num, by go_num, by first | rfl | trivial⟩
      case measure => simp [intOf]; omega
    · have e : j = n := by omega
      subst e
      go_wp2_with fail
      go_ret
      exact ⟨rfl, Below.refl _ _⟩
set_option maxHeartbeats 2000000 in
theorem markBoolS_calls (b : Nat) (xs : List Bool) (k : Int) (w : World) (hR : RowBlk (fun b : Bool => Value.bool b) 4 w b xs) (hl : xs.length ≤ 1048576) (h0 : 0 ≤ k) (hk : k + xs.length ≤ 1000000000000) :
    Calls Try.prog 99 #[.slice (some ⟨b, 0, none⟩) xs.length xs.length, .int .i64 k] w fun e w' => e = .returned (.int .i64 (k + xs.length)) ∧ Turn (· = b) (· = b) w w' := by
  replace hR := Lib.hid hR
  go_enter Try.func99, Try.ntmps99
  go_wp2_with fail
  go_loopw [1, 5] (fun x i wr => ∃ (j : Nat) (ys : List Bool), j ≤ xs.length ∧ ys.length = xs.length ∧ i = .int .i64 j ∧ x = .int .i64 (k + j) ∧ Hid (RowBlk (fun b : Bool => Value.bool b) 4 wr b ys) ∧ Hid (Turn (· = b) (· = b) w wr)) (fun _ i _ => xs.length - (intOf i).toNat)
  case atStart => exact ⟨0, xs, Nat.zero_le _, rfl, rfl, by simp, hR, Lib.hid (Turn.refl _ _)⟩
  case round =>
    obtain ⟨j, ys, hj, hyl, rfl, rfl, hR, hT⟩ := hrel
    replace hyl := Lib.hid hyl
    by_cases hlt : j < xs.length
    · have c0 := hR.out.cell (i := j) (by rw [hyl.out]; exact hlt)
      have f0 := hR.out.frozen j
      obtain ⟨d, hd⟩ : ∃ d, ((k + (j : Int)) % 3 == 0) = d := ⟨_, rfl⟩
      have hset := hR.out.set j d
      have hT2 := hT.out.trans (setCell_turn (F := (· = b)) (w := wr) (a := ⟨b, j, none⟩) rfl (.bool d))
      have hyl2 : (ys.set j d).length = xs.length := by rw [List.length_set]; exact hyl.out
      replace hset := Lib.hid hset
      replace hT2 := Lib.hid hT2
      replace hyl2 := Lib.hid hyl2
      clear hR hT
      go_wp2_with fail
      go_roundw
      case rel => exact ⟨j + 1, _, by omega, hyl2.out, by go_num, by go_num, hset, hT2⟩
      case measure => simp [intOf]; omega
    · have e : j = xs.length := by omega
      subst e
      go_wp2_with fail
      go_ret
      exact ⟨rfl, hT.out⟩

/-- marking a tree: numbers alone turn, in its region -/
def MarkT (lo hi : Nat) (k m : Int) (w : World) (e : Ending) (w' : World) : Prop :=
  e = .returned (.int .i64 (k + 2 * m)) ∧ (∀ A qs, TL false lo hi w A 0 qs → TL false lo hi w' A 0 qs) ∧ Turn (fun i => lo ≤ i ∧ i < hi) (fun i => lo ≤ i ∧ i < hi) w w'
set_option maxHeartbeats 4000000 in
theorem markTaskS_of (lo hi : Nat) (ps : List Task) (ih : ∀ p ∈ ps, ∀ (A : Option Addr) (c : Nat) (k : Int) (w : World), p.parts.length ≤ c → c ≤ maxLen → TL false lo hi w A 0 p.parts → 0 ≤ k → k + 2 * nodesL p.parts ≤ 1000000000000 →
      Calls Try.prog 100 #[.slice A p.parts.length c, .int .i64 k] w (MarkT lo hi k (nodesL p.parts) w))
    (A : Option Addr) (c : Nat) (k : Int) (w : World) (hc : ps.length ≤ c) (hm : c ≤ maxLen) (ht : TL false lo hi w A 0 ps) (h0 : 0 ≤ k) (hk : k + 2 * nodesL ps ≤ 1000000000000) :
    Calls Try.prog 100 #[.slice A ps.length c, .int .i64 k] w (MarkT lo hi k (nodesL ps) w) := by
  unfold maxLen at hm
  have hlen := parts_len ps
  replace ih := Lib.hid ih
  replace ht := Lib.hid ht
  go_enter Try.func100, Try.ntmps100
  go_wp2_with fail
  go_loopw [1, 5] (fun x i wr => ∃ (j : Nat) (q : Int), j ≤ ps.length ∧ i = .int .i64 j ∧ x = .int .i64 q ∧ 0 ≤ q ∧ Hid (q = k + 2 * nodesL (ps.take j)) ∧ Hid (TL false lo hi wr A 0 ps) ∧ Hid (∀ A qs, TL false lo hi w A 0 qs → TL false lo hi wr A 0 qs) ∧ Hid (Turn (fun i => lo ≤ i ∧ i < hi) (fun i => lo ≤ i ∧ i < hi) w wr)) (fun _ i _ => ps.length - (intOf i).toNat)
  case atStart => exact ⟨0, k, Nat.zero_le _, rfl, rfl, h0, Lib.hid (by simp [nodesL]), ht, Lib.hid (fun _ _ h => h), Lib.hid (Turn.refl _ _)⟩
  case round =>
    obtain ⟨j, q, hj, rfl, rfl, hq0, hq, ht, hall, hT⟩ := hrel
    by_cases hlt : j < ps.length
    · obtain ⟨b, o, cur, T, x, y, z, rfl, h1, h2, h3, g0, g1, g2, h4⟩ := ht.out.get j hlt
      rw [Nat.zero_add] at g0 g1 g2
      obtain ⟨kk, nn, A', c', rfl, rfl, rfl, -, h5, h6, h7⟩ := h4.open
      have htk : nodesL (ps.take (j + 1)) = nodesL (ps.take j) + (1 + nodesL ps[j].parts) := by rw [List.take_succ_eq_append_getElem hlt, nodesL_snoc, nodes_parts]
      have hle : nodesL (ps.take (j + 1)) ≤ nodesL ps := by
        have e : ps = ps.take (j + 1) ++ ps.drop (j + 1) := (List.take_append_drop _ _).symm
        have hs : ∀ (l m : List Task), nodesL l ≤ nodesL (l ++ m) := by
          intro l
          induction l with
          | nil => intro m; rw [nodesL]; exact nodesL_pos _
          | cons a l ihl => intro m; rw [List.cons_append, nodesL, nodesL]; have := ihl m; omega
        have := hs (ps.take (j + 1)) (ps.drop (j + 1))
        rwa [← e] at this
      have hqb : q + 2 + 2 * nodesL ps[j].parts ≤ 1000000000000 := by have := hq.out; omega
      have hnp := nodesL_pos ps[j].parts
      have ha := cellm h3 (o + j * 3)
      rw [g0] at ha
      have hb := cellm h3 (o + j * 3 + 1)
      rw [g1] at hb
      have hc2 := cellm h3 (o + j * 3 + 2)
      rw [g2] at hc2
      have f0 := frozenm h3 (o + j * 3)
      have f1 := frozenm h3 (o + j * 3 + 1)
      have e1 := setCell_block h3 (o + j * 3) (.int .i64 q)
      have g1' : (cur.setIfInBounds (o + j * 3) (.int .i64 q))[o + j * 3 + 1]? = some (.int .i64 nn) := by rw [Array.getElem?_setIfInBounds, if_neg (by omega)]; exact g1
      have hput : ∀ B' qs, TL false lo hi wr B' 0 qs → TL false lo hi ((wr.setCell ⟨b, o + j * 3, none⟩ (.int .i64 q)).setCell ⟨b, o + j * 3 + 1, none⟩ (.int .i64 (q + 1))) B' 0 qs := fun B' qs h => TL.put e1 g1' (q + 1) qs B' (TL.put h3 g0 q qs B' h)
      have hT2 := (hT.out.trans (setCell_turn (F := fun i => lo ≤ i ∧ i < hi) (w := wr) (a := ⟨b, o + j * 3, none⟩) ⟨h1, h2⟩ (.int .i64 q))).trans (setCell_turn (F := fun i => lo ≤ i ∧ i < hi) (a := ⟨b, o + j * 3 + 1, none⟩) ⟨h1, h2⟩ (.int .i64 (q + 1)))
      have hcall := ih.out ps[j] (List.getElem_mem hlt) A' c' (q + 1 + 1) ((wr.setCell ⟨b, o + j * 3, none⟩ (.int .i64 q)).setCell ⟨b, o + j * 3 + 1, none⟩ (.int .i64 (q + 1))) h5 h6 (hput _ _ h7) (by omega) (by omega)
      replace hput := Lib.hid hput
      replace hcall := Lib.hid hcall
      replace hT2 := Lib.hid hT2
      replace htk := Lib.hid htk
      replace hle := Lib.hid hle
      clear h3 g0 g1 g2 e1 g1' h4 h5 h6 h7
      go_wp2_with fail
      refine hcall.out.mono ?_
      rintro e w2 ⟨rfl, hall2, hT3⟩
      have hall3 : ∀ A qs, TL false lo hi w A 0 qs → TL false lo hi w2 A 0 qs := fun A' qs h => hall2 _ _ (hput.out _ _ (hall.out _ _ h))
      have ht2 := hall2 _ _ (hput.out _ _ ht.out)
      have hT4 := hT2.out.trans hT3
      have hq2 : q + 1 + 1 + 2 * nodesL ps[j].parts = k + 2 * nodesL (ps.take (j + 1)) := by have := hq.out; have := htk.out; omega
      replace hall3 := Lib.hid hall3
      replace ht2 := Lib.hid ht2
      replace hT4 := Lib.hid hT4
      replace hq2 := Lib.hid hq2
      clear hall2 hT3 hcall hput
      go_wp2_with fail
      go_roundw
      case rel => exact ⟨j + 1, _, by omega, by go_num, rfl, by omega, hq2, ht2, hall3, hT4⟩
      case measure => simp [intOf]; omega
    · have e : j = ps.length := by omega
      subst e
      have hq2 := hq.out
      rw [List.take_length] at hq2
      replace hq2 := Lib.hid hq2
      go_wp2_with fail
      go_ret
      exact ⟨by rw [hq2.out]; rfl, hall.out, hT.out⟩
theorem markTaskS_calls (lo hi : Nat) (ps : List Task) (A : Option Addr) (c : Nat) (k : Int) (w : World) (hc : ps.length ≤ c) (hm : c ≤ maxLen) (ht : TL false lo hi w A 0 ps) (h0 : 0 ≤ k) (hk : k + 2 * nodesL ps ≤ 1000000000000) :
    Calls Try.prog 100 #[.slice A ps.length c, .int .i64 k] w (MarkT lo hi k (nodesL ps) w) := by
  have h : ∀ (t : Task), ∀ (A : Option Addr) (c : Nat) (k : Int) (w : World), t.parts.length ≤ c → c ≤ maxLen → TL false lo hi w A 0 t.parts → 0 ≤ k → k + 2 * nodesL t.parts ≤ 1000000000000 →
      Calls Try.prog 100 #[.slice A t.parts.length c, .int .i64 k] w (MarkT lo hi k (nodesL t.parts) w) := by
    refine Task.ind ?_
    intro kk n ps ih A c k w hc hm ht h0 hk
    exact markTaskS_of lo hi ps ih A c k w hc hm ht h0 hk
  exact h (.mk 0 0 ps) A c k w hc hm ht h0 hk
theorem markSheet_calls (lo mid hi bm bt : Nat) (made : List Bool) (tasks : List Task) (k : Int) (w : World) (hs : SheetT lo mid hi bm bt made tasks w) (hhi : hi ≤ w.heap.size) (hml : made.length ≤ 1048576) (hn : nodesL tasks ≤ 1048576) (h0 : 0 ≤ k) (hk : k ≤ 1000000000) :
    Calls Try.prog 41 #[.agg #[.slice (some ⟨bm, 0, none⟩) made.length made.length, .slice (some ⟨bt, 0, none⟩) tasks.length tasks.length], .int .i64 k] w fun e w' => ∃ q : Int, e = .returned (.int .i64 q) ∧ k ≤ q ∧ q ≤ k + 10000000 ∧ Turn (fun i => lo ≤ i ∧ i < hi) (fun i => lo ≤ i ∧ i < hi) w w' := by
  have hlen := parts_len tasks
  have hnp := nodesL_pos tasks
  have hbm := hs.h2
  have hR := hs.row.turn (w' := w.alloc (.cells #[.slice (some ⟨bm, 0, none⟩) made.length made.length, .slice (some ⟨bt, 0, none⟩) tasks.length tasks.length] 31 (0, 0))) (heap_old hs.row.lt)
  have h1 := markBoolS_calls bm made k _ hR hml h0 (by omega)
  have h2 := fun w1 (ht : TL false mid hi w1 (some ⟨bt, 0, none⟩) 0 tasks) => markTaskS_calls mid hi tasks (some ⟨bt, 0, none⟩) tasks.length (k + made.length) w1 (Nat.le_refl _) (by unfold maxLen; omega) ht (by omega) (by omega)
  have hbl := hs.row.lt
  have h3 := hs.h3
  have hl1 := hs.h1
  have ht := hs.tree.weak
  replace h1 := Lib.hid h1
  replace h2 := Lib.hid h2
  replace ht := Lib.hid ht
  clear hs hR
  go_enter Try.func41, Try.ntmps41
  go_wp2_with fail
  refine h1.out.mono ?_
  rintro e w1 ⟨rfl, t1⟩
  have x1 : w1.cell? ⟨w.heap.size, 1, none⟩ = some (.slice (some ⟨bt, 0, none⟩) tasks.length tasks.length) := (t1.cell 1 (by simp) (by omega)).trans (by simp)
  have ht1 := h2.out w1 (TL.kept (fun b h4 h5 => (t1.block b (by simp; omega) (by omega)).trans (heap_old (by omega))) (Nat.le_refl _) (Nat.le_refl _) _ _ _ ht.out)
  have t2 : Turn (fun i => lo ≤ i ∧ i < hi) (fun i => lo ≤ i ∧ i < hi) w w1 := ⟨t1.os, t1.tape, t1.output, by have := t1.size; simp at this; omega, fun i h4 h5 => (t1.block i (by simp; omega) (by omega)).trans (heap_old h4), fun i h => .inl h⟩
  replace ht1 := Lib.hid ht1
  replace t2 := Lib.hid t2
  clear t1 h1 h2
  go_wp2_with fail
  refine ht1.out.mono ?_
  rintro e w2 ⟨rfl, -, t3⟩
  have t4 : Turn (fun i => lo ≤ i ∧ i < hi) (fun i => lo ≤ i ∧ i < hi) w w2 := ⟨t3.os.trans t2.out.os, t3.tape.trans t2.out.tape, t3.output.trans t2.out.output, Nat.le_trans t2.out.size t3.size, fun i h4 h5 => (t3.block i (Nat.lt_of_lt_of_le h4 t2.out.size) (by omega)).trans (t2.out.block i h4 h5), fun i h => .inl h⟩
  replace t4 := Lib.hid t4
  clear t3
  go_wp2_with fail
  go_ret
  exact ⟨_, rfl, by omega, by omega, t4.out⟩
end Go.Proofs.Ytpccgdkidnkppaa

set_option linter.unusedVariables false
set_option linter.unusedSimpArgs false
namespace Go.Proofs.Ytpccgdkidnkppaa
open Go Go.RowKit

/-! sizes: -1, or what is left -/
def SzR (l r m : Int) : Prop := r = -1 ∨ (0 ≤ r ∧ r + m = l)
def Sized (l m : Int) (w : World) (e : Ending) (w' : World) : Prop := ∃ r : Int, e = .returned (.int .i64 r) ∧ SzR l r m ∧ Below w.heap.size w w'

theorem szBoolS_calls (A : Option Addr) (n c : Nat) (l : Int) (w : World) (hn : n ≤ maxLen) (h0 : 0 ≤ l) (hl : l ≤ 1048576) :
    Calls Try.prog 52 #[.slice A n c, .int .i64 l] w (Sized l n w) := by
  unfold maxLen at hn
  by_cases h : l - n < 0 <;>
  · go_enter Try.func52, Try.ntmps52
    go_wp2_with fail
    go_ret
    exact ⟨_, rfl, by unfold SzR; omega, Below.refl _ _⟩

/-- the size of a row of tasks, the sizes of tasks given -/
theorem szTaskS_of (ps : List Task) (ih : ∀ p ∈ ps, ∀ (A : Option Addr) (c : Nat) (l : Int) (B : Nat) (w0 w : World), Below B w0 w → B ≤ w.heap.size → p.parts.length ≤ c → c ≤ maxLen → PartsIs B w0 A 0 p.parts → 0 ≤ l → l ≤ 1048576 →
      Calls Try.prog 107 #[.agg #[.int .i64 p.kind, .int .i64 p.n, .slice A p.parts.length c], .int .i64 l] w (Sized l (nodesL p.parts) w))
    (A : Option Addr) (c : Nat) (l : Int) (B : Nat) (w0 w : World) (hb : Below B w0 w) (hB : B ≤ w.heap.size) (hc : ps.length ≤ c) (hm : c ≤ maxLen) (hp : PartsIs B w0 A 0 ps) (h0 : 0 ≤ l) (hl : l ≤ 1048576) :
    Calls Try.prog 53 #[.slice A ps.length c, .int .i64 l] w (Sized l (nodesL ps) w) := by
  unfold maxLen at hm
  replace ih := Lib.hid ih
  replace hb := Lib.hid hb
  replace hp := Lib.hid hp
  by_cases h : l - ps.length < 0
  · go_enter Try.func53, Try.ntmps53
    go_wp2_with fail
    go_ret
    exact ⟨_, rfl, .inl rfl, Below.refl _ _⟩
  · go_enter Try.func53, Try.ntmps53
    go_wp2_with fail
    go_loopw [1, 5] (fun x i wr => ∃ (j : Nat) (r : Int), j ≤ ps.length ∧ i = .int .i64 j ∧ x = .int .i64 r ∧ 0 ≤ r ∧ r ≤ 1048576 ∧ Hid (r + (ps.length - j) + nodesL (ps.take j) = l) ∧ Hid (Below w.heap.size w wr)) (fun _ i _ => ps.length - (intOf i).toNat)
    case atStart => exact ⟨0, l - ps.length, Nat.zero_le _, rfl, rfl, by omega, by omega, Lib.hid (by simp [nodesL]), Lib.hid (Below.refl _ _)⟩
    case round =>
      obtain ⟨j, r, hj, rfl, rfl, hr0, hr1, he, hw⟩ := hrel
      by_cases hlt : j < ps.length
      · obtain ⟨b, o, A', c', rfl, hb', h1, h2, h3, h4, h5, h6⟩ := hp.out.at (below_up' hb.out hB hw.out) j hlt
        have hcall := ih.out ps[j] (List.getElem_mem hlt) A' c' r B w0 wr (below_up' hb.out hB hw.out) (Nat.le_trans hB hw.out.size) h4 h5 h6 hr0 hr1
        have htk : nodesL (ps.take (j + 1)) = nodesL (ps.take j) + (1 + nodesL ps[j].parts) := by rw [List.take_succ_eq_append_getElem hlt, nodesL_snoc, nodes_parts]
        have hbl : b < wr.heap.size := by have := hw.out.size; omega
        replace hcall := Lib.hid hcall
        replace htk := Lib.hid htk
        clear h4 h5 h6
        go_wp2_with fail
        refine hcall.out.mono ?_
        rintro e w2 ⟨r2, rfl, hz, h2⟩
        have hw2 := below_up hw.out h2
        replace hw2 := Lib.hid hw2
        clear h2 hcall
        rcases hz with rfl | ⟨hz0, hz1⟩
        · go_wp2_with fail
          go_ret
          exact ⟨_, rfl, .inl rfl, hw2.out⟩
        · have hle : r2 ≤ r := by have := nodesL_pos ps[j].parts; omega
          have he2 : r2 + (ps.length - (j + 1 : Nat)) + nodesL (ps.take (j + 1)) = l := by have := he.out; have := htk.out; omega
          have hn : ¬ r2 < 0 := by omega
          replace hz1 := Lib.hid hz1
          replace he2 := Lib.hid he2
          go_wp2_with fail
          go_roundw
          case rel => exact ⟨j + 1, r2, by omega, by go_num, rfl, hz0, by omega, he2, hw2⟩
          case measure => simp [intOf]; omega
      · have e : j = ps.length := by omega
        subst e
        have he2 := he.out
        rw [List.take_length] at he2
        replace he2 := Lib.hid he2
        go_wp2_with fail
        go_ret
        exact ⟨_, rfl, .inr ⟨hr0, by have := he2.out; omega⟩, hw.out⟩
theorem szTask_calls : ∀ (p : Task) (A : Option Addr) (c : Nat) (l : Int) (B : Nat) (w0 w : World), Below B w0 w → B ≤ w.heap.size → p.parts.length ≤ c → c ≤ maxLen → PartsIs B w0 A 0 p.parts → 0 ≤ l → l ≤ 1048576 →
      Calls Try.prog 107 #[.agg #[.int .i64 p.kind, .int .i64 p.n, .slice A p.parts.length c], .int .i64 l] w (Sized l (nodesL p.parts) w) := by
  refine Task.ind ?_
  intro k n ps ih A c l B w0 w hb hB hc hm hp h0 hl
  simp only [Task.kind, Task.n, Task.parts] at hc hp ⊢
  have hS := fun w1 (hw : Below w.heap.size w w1) => szTaskS_of ps ih A c l B w0 w1 (below_up' hb hB hw) (Nat.le_trans hB hw.size) hc hm hp h0 hl
  replace hS := Lib.hid hS
  clear ih hb hp
  go_enter Try.func107, Try.ntmps107
  go_wp2_with fail
  refine (hS.out _ (below_al (Below.refl _ _) _)).mono ?_
  rintro e w1 ⟨r, rfl, hz, h1⟩
  have b1 := below_from h1
  replace b1 := Lib.hid b1
  clear h1 hS
  rcases hz with rfl | ⟨hz0, hz1⟩
  · go_wp2_with fail
    go_ret
    exact ⟨_, rfl, .inl rfl, b1.out⟩
  · have hn : ¬ r < 0 := by omega
    replace hz1 := Lib.hid hz1
    go_wp2_with fail
    go_ret
    exact ⟨_, rfl, .inr ⟨hz0, hz1.out⟩, b1.out⟩
theorem szTaskS_calls (ps : List Task) (A : Option Addr) (c : Nat) (l : Int) (B : Nat) (w0 w : World) (hb : Below B w0 w) (hB : B ≤ w.heap.size) (hc : ps.length ≤ c) (hm : c ≤ maxLen) (hp : PartsIs B w0 A 0 ps) (h0 : 0 ≤ l) (hl : l ≤ 1048576) :
    Calls Try.prog 53 #[.slice A ps.length c, .int .i64 l] w (Sized l (nodesL ps) w) :=
  szTaskS_of ps (fun p _ => szTask_calls p) A c l B w0 w hb hB hc hm hp h0 hl

theorem szSheet_calls (Am At : Option Addr) (nm cm ct : Nat) (ps : List Task) (l : Int) (B : Nat) (w0 w : World) (hb : Below B w0 w) (hB : B ≤ w.heap.size) (hnm : nm ≤ maxLen) (hc : ps.length ≤ ct) (hm : ct ≤ maxLen) (hp : PartsIs B w0 At 0 ps) (h0 : 0 ≤ l) (hl : l ≤ 1048576) :
    Calls Try.prog 12 #[.agg #[.slice Am nm cm, .slice At ps.length ct], .int .i64 l] w (Sized l (nm + nodesL ps) w) := by
  have h1 := fun w1 => szBoolS_calls Am nm cm l w1 hnm h0 hl
  have h2 := fun w1 (hw : Below w.heap.size w w1) (l : Int) (h0 : 0 ≤ l) (hl : l ≤ 1048576) => szTaskS_calls ps At ct l B w0 w1 (below_up' hb hB hw) (Nat.le_trans hB hw.size) hc hm hp h0 hl
  replace h1 := Lib.hid h1
  replace h2 := Lib.hid h2
  clear hb hp
  go_enter Try.func12, Try.ntmps12
  go_wp2_with fail
  refine (h1.out _).mono ?_
  rintro e w1 ⟨r, rfl, hz, hw1⟩
  have x1 : w1.cell? ⟨w.heap.size, 1, none⟩ = some (.slice At ps.length ct) := (hw1.cell (p := ⟨w.heap.size, 1, none⟩) (by simp)).trans (by simp)
  have b1 := below_from hw1
  replace b1 := Lib.hid b1
  clear hw1 h1
  rcases hz with rfl | ⟨hz0, hz1⟩
  · go_wp2_with fail
    go_ret
    exact ⟨_, rfl, .inl rfl, b1.out⟩
  · have hn : ¬ r < 0 := by omega
    have hc2 := h2.out w1 b1.out r hz0 (by omega)
    replace hz1 := Lib.hid hz1
    replace hc2 := Lib.hid hc2
    go_wp2_with fail
    refine hc2.out.mono ?_
    rintro e w2 ⟨r2, rfl, hz', hw2⟩
    have b2 := below_up b1.out hw2
    replace b2 := Lib.hid b2
    clear hw2 hc2 h2
    rcases hz' with rfl | ⟨hz0', hz1'⟩
    · go_wp2_with fail
      go_ret
      exact ⟨_, rfl, .inl rfl, b2.out⟩
    · have hn2 : ¬ r2 < 0 := by omega
      replace hz1' := Lib.hid hz1'
      go_wp2_with fail
      go_ret
      exact ⟨_, rfl, .inr ⟨hz0', by have := hz1.out; have := hz1'.out; omega⟩, b2.out⟩
end Go.Proofs.Ytpccgdkidnkppaa
