import Derived.Test.YtagmdljdcnmpdaaExTo
set_option linter.unusedVariables false
set_option linter.unusedSimpArgs false
namespace Go.Proofs.Ytagmdljdcnmpdaa
open Go Go.RowKit

/-- a task, copied: what it gives -/
def ToT (t : Task) (w : World) (e : Ending) (w' : World) : Prop :=
  ∃ A c, e = .returned (.agg #[.int .i64 t.kind, .int .i64 t.n, .slice A t.parts.length c]) ∧ t.parts.length ≤ c ∧ c ≤ maxLen ∧ TL true w.heap.size w'.heap.size w' A 0 t.parts ∧ Below w.heap.size w w'
def ToL (ps : List Task) (w : World) (e : Ending) (w' : World) : Prop :=
  e = .returned (.slice (some ⟨w.heap.size, 0, none⟩) ps.length ps.length) ∧ TL true w.heap.size w'.heap.size w' (some ⟨w.heap.size, 0, none⟩) 0 ps ∧ Below w.heap.size w w'

/-- the first j elements of a new row of tasks are laid; what they lead to lies behind the row -/
def LaidT (bn : Nat) (ps : List Task) (j : Nat) (w : World) : Prop :=
  ∃ cur, w.heap[bn]? = some (.cells cur 36 (0, 0)) ∧ cur.size = ps.length * 3 ∧ ∀ i (h : i < ps.length), i < j → ∃ A c, cur[i * 3]? = some (.int .i64 ps[i].kind) ∧ cur[i * 3 + 1]? = some (.int .i64 ps[i].n) ∧ cur[i * 3 + 2]? = some (.slice A ps[i].parts.length c) ∧ ps[i].parts.length ≤ c ∧ c ≤ maxLen ∧ TL true (bn + 1) w.heap.size w A 0 ps[i].parts
theorem LaidT.up {bn j : Nat} {ps : List Task} {w w' : World} (h : LaidT bn ps j w) (hb : Below w.heap.size w w') : LaidT bn ps j w' := by
  obtain ⟨cur, h1, h2, h3⟩ := h
  refine ⟨cur, (hb.block _ (block_lt h1)).trans h1, h2, fun i hi hj => ?_⟩
  obtain ⟨A, c, g1, g2, g3, g4, g5, g6⟩ := h3 i hi hj
  exact ⟨A, c, g1, g2, g3, g4, g5, g6.up hb⟩
theorem LaidT.tree {bn : Nat} {ps : List Task} {w : World} (h : LaidT bn ps ps.length w) : TL true bn w.heap.size w (some ⟨bn, 0, none⟩) 0 ps := by
  obtain ⟨cur, h1, h2, h3⟩ := h
  have hl := block_lt h1
  refine TL.of fun i hi => ?_
  obtain ⟨A, c, g1, g2, g3, g4, g5, g6⟩ := h3 i hi hi
  refine ⟨bn, 0, cur, _, _, _, _, rfl, Nat.le_refl _, hl, h1, ?_, ?_, ?_, TN.shut (kk := ps[i].kind) (nn := ps[i].n) (fun _ => ⟨rfl, rfl⟩) g4 g5 (TL.kept (fun b _ _ => rfl) (by omega) (Nat.le_refl _) _ _ _ g6)⟩
  · rw [Nat.zero_add, Nat.zero_add]; exact g1
  · rw [Nat.zero_add, Nat.zero_add]; exact g2
  · rw [Nat.zero_add, Nat.zero_add]; exact g3
theorem LaidT.cells {bn j : Nat} {ps : List Task} {w : World} (h : LaidT bn ps j w) {i : Nat} (hi : i < ps.length) : (∃ x, w.cell? ⟨bn, i * 3, none⟩ = some x) ∧ (∃ x, w.cell? ⟨bn, i * 3 + 1, none⟩ = some x) ∧ (∃ x, w.cell? ⟨bn, i * 3 + 2, none⟩ = some x) ∧ ∀ q, w.frozen? ⟨bn, q, none⟩ = false := by
  obtain ⟨cur, h1, h2, h3⟩ := h
  refine ⟨⟨_, (cellm h1 _).trans (Array.getElem?_eq_getElem (by omega))⟩, ⟨_, (cellm h1 _).trans (Array.getElem?_eq_getElem (by omega))⟩, ⟨_, (cellm h1 _).trans (Array.getElem?_eq_getElem (by omega))⟩, fun q => frozenm h1 q⟩
theorem LaidT.put {bn j : Nat} {ps : List Task} {w : World} (h : LaidT bn ps j w) (hj : j < ps.length) {A : Option Addr} {c : Nat} (hc : ps[j].parts.length ≤ c) (hm : c ≤ maxLen) (ht : TL true (bn + 1) w.heap.size w A 0 ps[j].parts) :
    LaidT bn ps (j + 1) (((w.setCell ⟨bn, j * 3, none⟩ (.int .i64 ps[j].kind)).setCell ⟨bn, j * 3 + 1, none⟩ (.int .i64 ps[j].n)).setCell ⟨bn, j * 3 + 2, none⟩ (.slice A ps[j].parts.length c)) := by
  obtain ⟨cur, h1, h2, h3⟩ := h
  have e1 := setCell_block h1 (j * 3) (.int .i64 ps[j].kind)
  have e2 := setCell_block e1 (j * 3 + 1) (.int .i64 ps[j].n)
  have e3 := setCell_block e2 (j * 3 + 2) (.slice A ps[j].parts.length c)
  have hfar : ∀ b, b ≠ bn → (((w.setCell ⟨bn, j * 3, none⟩ (.int .i64 ps[j].kind)).setCell ⟨bn, j * 3 + 1, none⟩ (.int .i64 ps[j].n)).setCell ⟨bn, j * 3 + 2, none⟩ (.slice A ps[j].parts.length c)).heap[b]? = w.heap[b]? := fun b hb => ((setCell_far hb).trans (setCell_far hb)).trans (setCell_far hb)
  have hsz : (((w.setCell ⟨bn, j * 3, none⟩ (.int .i64 ps[j].kind)).setCell ⟨bn, j * 3 + 1, none⟩ (.int .i64 ps[j].n)).setCell ⟨bn, j * 3 + 2, none⟩ (.slice A ps[j].parts.length c)).heap.size = w.heap.size := by simp [World.setCell]
  refine ⟨_, e3, by simpa using h2, fun i hi hij => ?_⟩
  rw [hsz]
  by_cases e : i = j
  · subst e
    refine ⟨A, c, ?_, ?_, ?_, hc, hm, TL.kept (fun b hlo _ => hfar b (by omega)) (Nat.le_refl _) (Nat.le_refl _) _ _ _ ht⟩
    · simp [Array.getElem?_setIfInBounds, show i * 3 < cur.size by omega]
    · simp [Array.getElem?_setIfInBounds, show i * 3 + 1 < cur.size by omega]
    · simp [Array.getElem?_setIfInBounds, show i * 3 + 2 < cur.size by omega]
  · obtain ⟨A', c', g1, g2, g3, g4, g5, g6⟩ := h3 i hi (by omega)
    refine ⟨A', c', ?_, ?_, ?_, g4, g5, TL.kept (fun b hlo _ => hfar b (by omega)) (Nat.le_refl _) (Nat.le_refl _) _ _ _ g6⟩
    · simpa [Array.getElem?_setIfInBounds, show ¬ j * 3 = i * 3 by omega, show ¬ j * 3 + 1 = i * 3 by omega, show ¬ j * 3 + 2 = i * 3 by omega] using g1
    · simpa [Array.getElem?_setIfInBounds, show ¬ j * 3 = i * 3 + 1 by omega, show ¬ j * 3 = i * 3 by omega, show ¬ j * 3 + 1 = i * 3 + 1 by omega, show ¬ j * 3 + 2 = i * 3 + 1 by omega] using g2
    · simpa [Array.getElem?_setIfInBounds, show ¬ j * 3 = i * 3 + 2 by omega, show ¬ j * 3 = i * 3 by omega, show ¬ j * 3 = i * 3 + 1 by omega, show ¬ j * 3 + 1 = i * 3 + 2 by omega, show ¬ j * 3 + 2 = i * 3 + 2 by omega] using g3

set_option maxHeartbeats 4000000 in
theorem toTaskS_of (ps : List Task) (hn : nodesL ps ≤ 1048576) (ih : ∀ p ∈ ps, nodesL p.parts ≤ 1048576 → ∀ (A : Option Addr) (c B : Nat) (w0 w : World), Below B w0 w → B ≤ w.heap.size → p.parts.length ≤ c → c ≤ maxLen → PartsIs B w0 A 0 p.parts →
      Calls Try.prog 89 #[.agg #[.int .i64 p.kind, .int .i64 p.n, .slice A p.parts.length c]] w (ToT p w))
    (A : Option Addr) (c B : Nat) (w0 w : World) (hb : Below B w0 w) (hB : B ≤ w.heap.size) (hc : ps.length ≤ c) (hm : c ≤ maxLen) (hp : PartsIs B w0 A 0 ps) :
    Calls Try.prog 61 #[.slice A ps.length c] w (ToL ps w) := by
  have hlen := parts_len ps
  have hmk := make_tasks ps.length (by omega)
  unfold maxLen at hm
  replace ih := Lib.hid ih
  replace hb := Lib.hid hb
  replace hp := Lib.hid hp
  go_enter Try.func61, Try.ntmps61
  go_wp2_with fail
  go_loopw [4] (fun i wr => ∃ (j : Nat), j ≤ ps.length ∧ i = .int .i64 j ∧ Hid (LaidT w.heap.size ps j wr) ∧ Hid (Below w.heap.size w wr)) (fun i _ => ps.length - (intOf i).toNat)
  case atStart => exact ⟨0, Nat.zero_le _, rfl, Lib.hid ⟨_, heap_new rfl, by simp [madeCells], fun i hi h => by omega⟩, Lib.hid (below_al (Below.refl _ _) _)⟩
  case round =>
    obtain ⟨j, hj, rfl, hL, hw⟩ := hrel
    by_cases hlt : j < ps.length
    · obtain ⟨b, o, A', c', rfl, hb', h1, h2, h3, h4, h5, h6⟩ := hp.out.at (below_up' hb.out hB hw.out) j hlt
      have hnj : nodesL ps[j].parts ≤ 1048576 := by have := nodesL_at hlt; have := nodes_parts ps[j]; omega
      have hcall := ih.out ps[j] (List.getElem_mem hlt) hnj A' c' B w0 wr (below_up' hb.out hB hw.out) (Nat.le_trans hB hw.out.size) h4 h5 h6
      have hbl : b < wr.heap.size := by have := hw.out.size; omega
      have hsz : w.heap.size < wr.heap.size := by obtain ⟨cur, q, _⟩ := hL.out; exact block_lt q
      replace hcall := Lib.hid hcall
      clear h4 h5 h6
      go_wp2_with fail
      refine hcall.out.mono ?_
      rintro e w2 ⟨A2, c2, rfl, g1, g2, g3, g4⟩
      have hL2 := hL.out.up g4
      have hw2 := below_up hw.out g4
      obtain ⟨⟨x0, y0⟩, ⟨x1, y1⟩, ⟨x2, y2⟩, ff⟩ := hL2.cells hlt
      have f0 := ff (j * 3)
      have f1 := ff (j * 3 + 1)
      have f2 := ff (j * 3 + 2)
      have hL3 := hL2.put hlt g1 g2 (TL.kept (fun b _ _ => rfl) (by omega) (Nat.le_refl _) _ _ _ g3)
      have hw3 : Below w.heap.size w (((w2.setCell ⟨w.heap.size, j * 3, none⟩ (.int .i64 ps[j].kind)).setCell ⟨w.heap.size, j * 3 + 1, none⟩ (.int .i64 ps[j].n)).setCell ⟨w.heap.size, j * 3 + 2, none⟩ (.slice A2 ps[j].parts.length c2)) := ((hw2.setCell (by simp) _).setCell (by simp) _).setCell (by simp) _
      replace hL3 := Lib.hid hL3
      replace hw3 := Lib.hid hw3
      clear g3 g4 hL2 hw2 hcall ff hL hw
      go_wp2_with fail
      go_roundw
      case rel => exact ⟨j + 1, by omega, by go_num, hL3, hw3⟩
      case measure => simp [intOf]; omega
    · have e : j = ps.length := by omega
      subst e
      go_wp2_with fail
      go_ret
      exact ⟨rfl, hL.out.tree, hw.out⟩

set_option maxHeartbeats 4000000 in
theorem toTask_calls : ∀ (p : Task), nodesL p.parts ≤ 1048576 → ∀ (A : Option Addr) (c B : Nat) (w0 w : World), Below B w0 w → B ≤ w.heap.size → p.parts.length ≤ c → c ≤ maxLen → PartsIs B w0 A 0 p.parts →
      Calls Try.prog 89 #[.agg #[.int .i64 p.kind, .int .i64 p.n, .slice A p.parts.length c]] w (ToT p w) := by
  refine Task.ind ?_
  intro k n ps ih hn A c B w0 w hb hB hc hm hp
  simp only [Task.kind, Task.n, Task.parts] at hc hp hn ⊢
  have hS := fun w1 (hw : Below w.heap.size w w1) => toTaskS_of ps hn ih A c B w0 w1 (below_up' hb hB hw) (Nat.le_trans hB hw.size) hc hm hp
  have hlen := parts_len ps
  replace hS := Lib.hid hS
  clear ih hb hp
  go_enter Try.func89, Try.ntmps89
  go_wp2_with fail
  refine (hS.out _ (below_al (below_al (below_al (Below.refl _ _) _) _) _)).mono ?_
  rintro e w1 ⟨rfl, ht, h1⟩
  have q1 := (h1.block (w.heap.size + 1) (by simp)).trans ((heap_old (by simp)).trans (heap_new (by simp)))
  have q2 := (h1.block (w.heap.size + 1 + 1) (by simp)).trans (heap_new (by simp))
  have x0 := (cellm q2 0).trans rfl
  have x1 := (cellm q2 1).trans rfl
  have x2 := (cellm q2 2).trans rfl
  have y0 := (cellm q1 0).trans rfl
  have y1 := (cellm q1 1).trans rfl
  have y2 := (cellm q1 2).trans rfl
  have g0 := frozenm q1 0
  have g1 := frozenm q1 1
  have g2 := frozenm q1 2
  have f2 := frozenm q2 2
  have hlo : (((w.alloc (.cells #[.int .i64 k, .int .i64 n, .slice A ps.length c] 115)).alloc (.cells #[.int .i64 0, .int .i64 0, .slice none 0 0] 36)).alloc (.cells #[.int .i64 k, .int .i64 n, .slice none 0 0] 36)).heap.size = w.heap.size + 1 + 1 + 1 := by simp
  rw [hlo] at ht
  have hb1 : Below w.heap.size w w1 := below_from (below_from (below_from h1))
  have p1 := setCell_far (w := w1) (m := w.heap.size + 1 + 1) (j := 2) (v := .slice (some ⟨w.heap.size + 1 + 1 + 1, 0, none⟩) ps.length ps.length) (k := w.heap.size + 1) (by omega)
  have p2 := setCell_block (setCell_block (setCell_block (p1.trans q1) 0 (.int .i64 k)) 1 (.int .i64 n)) 2 (.slice (some ⟨w.heap.size + 1 + 1 + 1, 0, none⟩) ps.length ps.length)
  have hK : ∀ b, b ≠ w.heap.size + 1 → b ≠ w.heap.size + 1 + 1 → ((((w1.setCell ⟨w.heap.size + 1 + 1, 2, none⟩ (.slice (some ⟨w.heap.size + 1 + 1 + 1, 0, none⟩) ps.length ps.length)).setCell ⟨w.heap.size + 1, 0, none⟩ (.int .i64 k)).setCell ⟨w.heap.size + 1, 1, none⟩ (.int .i64 n)).setCell ⟨w.heap.size + 1, 2, none⟩ (.slice (some ⟨w.heap.size + 1 + 1 + 1, 0, none⟩) ps.length ps.length)).heap[b]? = w1.heap[b]? :=
    fun b h2 h3 => (((setCell_far h2).trans (setCell_far h2)).trans (setCell_far h2)).trans (setCell_far h3)
  have hbW : Below w.heap.size w ((((w1.setCell ⟨w.heap.size + 1 + 1, 2, none⟩ (.slice (some ⟨w.heap.size + 1 + 1 + 1, 0, none⟩) ps.length ps.length)).setCell ⟨w.heap.size + 1, 0, none⟩ (.int .i64 k)).setCell ⟨w.heap.size + 1, 1, none⟩ (.int .i64 n)).setCell ⟨w.heap.size + 1, 2, none⟩ (.slice (some ⟨w.heap.size + 1 + 1 + 1, 0, none⟩) ps.length ps.length)) :=
    (((hb1.setCell (by simp; omega) _).setCell (by simp) _).setCell (by simp) _).setCell (by simp) _
  have hsz : ((((w1.setCell ⟨w.heap.size + 1 + 1, 2, none⟩ (.slice (some ⟨w.heap.size + 1 + 1 + 1, 0, none⟩) ps.length ps.length)).setCell ⟨w.heap.size + 1, 0, none⟩ (.int .i64 k)).setCell ⟨w.heap.size + 1, 1, none⟩ (.int .i64 n)).setCell ⟨w.heap.size + 1, 2, none⟩ (.slice (some ⟨w.heap.size + 1 + 1 + 1, 0, none⟩) ps.length ps.length)).heap.size = w1.heap.size := by simp [World.setCell]
  have hTL := TL.kept (w' := ((((w1.setCell ⟨w.heap.size + 1 + 1, 2, none⟩ (.slice (some ⟨w.heap.size + 1 + 1 + 1, 0, none⟩) ps.length ps.length)).setCell ⟨w.heap.size + 1, 0, none⟩ (.int .i64 k)).setCell ⟨w.heap.size + 1, 1, none⟩ (.int .i64 n)).setCell ⟨w.heap.size + 1, 2, none⟩ (.slice (some ⟨w.heap.size + 1 + 1 + 1, 0, none⟩) ps.length ps.length))) (lo' := w.heap.size) (hi' := w1.heap.size) (fun b h2 h3 => hK b (by omega) (by omega)) (by omega) (Nat.le_refl _) _ _ _ ht
  replace hTL := Lib.hid hTL
  replace hbW := Lib.hid hbW
  replace hsz := Lib.hid hsz
  replace p2 := Lib.hid p2
  clear hK p1 hb1 ht hlo q1 q2 h1 hS
  simp only [List.size_toArray, List.length_cons, List.length_nil] at *
  go_wp2_with fail
  refine ret_task rfl (by rfl) (a := .int .i64 k) (b := .int .i64 n) p2.out ⟨_, _, rfl, Nat.le_refl _, by unfold maxLen; omega, ?_, hbW.out⟩
  rw [hsz.out]
  exact hTL.out
theorem toTaskS_calls (ps : List Task) (hn : nodesL ps ≤ 1048576) (A : Option Addr) (c B : Nat) (w0 w : World) (hb : Below B w0 w) (hB : B ≤ w.heap.size) (hc : ps.length ≤ c) (hm : c ≤ maxLen) (hp : PartsIs B w0 A 0 ps) :
    Calls Try.prog 61 #[.slice A ps.length c] w (ToL ps w) :=
  toTaskS_of ps hn (fun p _ hn => toTask_calls p hn) A c B w0 w hb hB hc hm hp
end Go.Proofs.Ytagmdljdcnmpdaa
