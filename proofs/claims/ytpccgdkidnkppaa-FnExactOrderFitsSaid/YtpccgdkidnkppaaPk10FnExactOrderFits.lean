import Derived.Test.YtpccgdkidnkppaaPk1FnExactOrderFits
import Derived.Test.YtpccgdkidnkppaaPk2FnExactOrderFits
import Derived.Test.YtpccgdkidnkppaaPk3FnExactOrderFits
import Derived.Test.YtpccgdkidnkppaaPk6FnExactOrderFits
import Derived.Test.YtpccgdkidnkppaaPk8FnExactOrderFits
import Derived.Test.YtpccgdkidnkppaaPk9FnExactOrderFits
set_option linter.unusedVariables false
set_option linter.unusedSimpArgs false
namespace Go.Proofs.Ytpccgdkidnkppaa
open Go Go.RowKit

def dom (G : Rows) (b : Nat) : Prop := ∃ x, G b = some x
theorem TyH.put {g B : Nat} {G : Rows} {w : World} (h : TyH g B G w) {b r m i : Nat} {x y z : Value} (hb : G b = some (r, m)) (hi : i < m) (hv : TyV G r (.agg #[x, y, z])) :
    TyH g B G (((w.setCell ⟨b, i * 3, none⟩ x).setCell ⟨b, i * 3 + 1, none⟩ y).setCell ⟨b, i * 3 + 2, none⟩ z) := by
  intro b' r' m' hb'
  obtain ⟨h1, h2, cs, h3, h4⟩ := h b' r' m' hb'
  by_cases e : b' = b
  · subst e
    rw [hb] at hb'; cases hb'
    refine ⟨h1, h2, _, setCell_block (setCell_block (setCell_block h3 _ x) _ y) _ z, fun j hj => ?_⟩
    by_cases e : j = i
    · subst e
      obtain ⟨a, b, c, k1, k2, k3, _⟩ := h4 j hi
      have l1 := (Array.getElem?_eq_some_iff.1 k1).1
      have l2 := (Array.getElem?_eq_some_iff.1 k2).1
      have l3 := (Array.getElem?_eq_some_iff.1 k3).1
      exact ⟨x, y, z, by simp [Array.getElem?_setIfInBounds, l1], by simp [Array.getElem?_setIfInBounds, l2], by simp [Array.getElem?_setIfInBounds, l3], hv⟩
    · obtain ⟨a, b, c, k1, k2, k3, k4⟩ := h4 j hj
      refine ⟨a, b, c, ?_, ?_, ?_, k4⟩
      · rw [Array.getElem?_setIfInBounds_ne (by omega), Array.getElem?_setIfInBounds_ne (by omega), Array.getElem?_setIfInBounds_ne (by omega)]; exact k1
      · rw [Array.getElem?_setIfInBounds_ne (by omega), Array.getElem?_setIfInBounds_ne (by omega), Array.getElem?_setIfInBounds_ne (by omega)]; exact k2
      · rw [Array.getElem?_setIfInBounds_ne (by omega), Array.getElem?_setIfInBounds_ne (by omega), Array.getElem?_setIfInBounds_ne (by omega)]; exact k3
  · exact ⟨h1, h2, cs, (setCell_far e).trans ((setCell_far e).trans ((setCell_far e).trans h3)), h4⟩

/-- the worlds in a run of l91Lower: the task's box and the result's block are the next ones -/
structure LSt (g B : Nat) (G : Rows) (w : World) (a b c : Value) (wr : World) : Prop where
  ty : TyH g B G wr
  turn : Turn (dom G) (dom G) w wr
  box : wr.heap[w.heap.size]? = some (.cells #[a, b, c] 48 (0, 0))
  res : wr.heap[w.heap.size + 1]? = some (.cells #[.int .i64 0, .int .i64 0, .slice none 0 0] 48 (0, 0))
  old : ∀ i, dom G i → i < w.heap.size
section
variable {g B : Nat} {G : Rows} {w w1 w2 : World} {a b c : Value}
theorem LSt.start (h : TyH g B G w) (a b c : Value) : LSt g B G w a b c ((w.alloc (.cells #[a, b, c] 48 (0, 0))).alloc (.cells #[.int .i64 0, .int .i64 0, .slice none 0 0] 48 (0, 0))) :=
  ⟨(h.alloc _).alloc _, ((Turn.refl _ _).alloc _).alloc _, (heap_old (by simp)).trans (heap_new rfl), heap_new (by simp), fun i ⟨x, hx⟩ => h.lt hx⟩
theorem LSt.step (h : LSt g B G w a b c w1) (ty : TyH g B G w2) (t : Turn (dom G) (dom G) w1 w2) : LSt g B G w a b c w2 :=
  ⟨ty, h.turn.trans t, (t.block _ (block_lt h.box) (fun hd => by have := h.old _ hd; omega)).trans h.box, (t.block _ (block_lt h.res) (fun hd => by have := h.old _ hd; omega)).trans h.res, h.old⟩
theorem LSt.drew (h : LSt g B G w a b c w1) : LSt g B G w a b c w1.drew := h.step h.ty ((Turn.refl _ _).drew)
theorem LSt.put (h : LSt g B G w a b c w1) {p r m i : Nat} {x y z : Value} (hb : G p = some (r, m)) (hi : i < m) (hv : TyV G r (.agg #[x, y, z])) :
    LSt g B G w a b c (((w1.setCell ⟨p, i * 3, none⟩ x).setCell ⟨p, i * 3 + 1, none⟩ y).setCell ⟨p, i * 3 + 2, none⟩ z) :=
  h.step (h.ty.put hb hi hv) (((setCell_turn (F := dom G) ⟨_, hb⟩ x).trans (setCell_turn (F := dom G) ⟨_, hb⟩ y)).trans (setCell_turn (F := dom G) ⟨_, hb⟩ z))
theorem LSt.cells (h : LSt g B G w a b c w1) : w1.cell? ⟨w.heap.size, 0, none⟩ = some a ∧ w1.cell? ⟨w.heap.size, 1, none⟩ = some b ∧ w1.cell? ⟨w.heap.size, 2, none⟩ = some c ∧
    w1.cell? ⟨w.heap.size + 1, 0, none⟩ = some (.int .i64 0) ∧ w1.cell? ⟨w.heap.size + 1, 1, none⟩ = some (.int .i64 0) ∧ w1.cell? ⟨w.heap.size + 1, 2, none⟩ = some (.slice none 0 0) ∧
    w1.frozen? ⟨w.heap.size + 1, 0, none⟩ = false ∧ w1.frozen? ⟨w.heap.size + 1, 1, none⟩ = false ∧ w1.frozen? ⟨w.heap.size + 1, 2, none⟩ = false ∧ w.heap.size + 1 < w1.heap.size :=
  ⟨cellm h.box 0, cellm h.box 1, cellm h.box 2, cellm h.res 0, cellm h.res 1, cellm h.res 2, frozenm h.res 0, frozenm h.res 1, frozenm h.res 2, block_lt h.res⟩
/-- what a run of l91Lower brings -/
def Lowers (g B : Nat) (G : Rows) (r : Nat) (w : World) (e : Ending) (w' : World) : Prop := ∃ v', e = .returned v' ∧ TyV G r v' ∧ TyH g B G w' ∧ Turn (dom G) (dom G) w w'
theorem LSt.done (h : LSt g B G w a b c w1) {r : Nat} {x y z : Value} {fn : Func} {t : Nat} {tmps : Array Value} (hr : fn.results = #[.cell t 48])
    (ht : tmps.getD t undef = .pointer (some ⟨w.heap.size + 1, 0, none⟩)) (hv : TyV G r (.agg #[x, y, z])) :
    bodyPost Try.prog fn (Lowers g B G r w) .ret ⟨tmps, []⟩ (((w1.setCell ⟨w.heap.size + 1, 0, none⟩ x).setCell ⟨w.heap.size + 1, 1, none⟩ y).setCell ⟨w.heap.size + 1, 2, none⟩ z) := by
  have t3 : Turn (· = w.heap.size + 1) (· = w.heap.size + 1) w1 (((w1.setCell ⟨w.heap.size + 1, 0, none⟩ x).setCell ⟨w.heap.size + 1, 1, none⟩ y).setCell ⟨w.heap.size + 1, 2, none⟩ z) :=
    ((setCell_turn (F := (· = w.heap.size + 1)) rfl x).trans (setCell_turn (F := (· = w.heap.size + 1)) rfl y)).trans (setCell_turn (F := (· = w.heap.size + 1)) rfl z)
  refine ret_task hr ht ((setCell_block (setCell_block (setCell_block h.res 0 x) 1 y) 2 z).trans rfl) ⟨_, rfl, hv, h.ty.turn t3 (fun b q hq e => ?_), ?_⟩
  · cases e; have := h.old _ ⟨_, hq⟩; omega
  · exact ⟨t3.os.trans h.turn.os, t3.tape.trans h.turn.tape, t3.output.trans h.turn.output, Nat.le_trans h.turn.size t3.size, fun i hi hF => (t3.block i (Nat.lt_of_lt_of_le hi h.turn.size) (by intro e; omega)).trans (h.turn.block i hi hF), h.turn.fresh⟩
end

set_option maxHeartbeats 2000000 in
theorem l91Lower_calls (g B : Nat) (G : Rows) (k : Int) : ∀ (r : Nat) (v : Value) (w : World), TyV G r v → TyH g B G w →
    Calls Try.prog 116 #[v, .int .i64 k] w (Lowers g B G r w) := by
  intro r
  induction r using Nat.strongRecOn with
  | ind r ih =>
  intro v w hv h
  have hv' := hv
  obtain ⟨kd, n, A, m, c, rfl, hm3, hmc, hcm, hk5, hrow⟩ := hv'
  have hs := LSt.start h (.int .i64 kd) (.int .i64 n) (.slice A m c)
  unfold maxLen at hcm
  replace ih := Lib.hid ih
  replace hs := Lib.hid hs
  replace hv := Lib.hid hv
  clear h
  by_cases e5 : kd = 5
  · subst e5
    have hm1 := hk5 rfl
    obtain ⟨b, r', rfl, hG, hr'⟩ := hrow.resolve_left (by omega)
    obtain ⟨_, _, cs, hb, hi⟩ := hs.out.ty b r' m hG
    obtain ⟨x, y, z, c0, c1, c2, hx⟩ := hi 0 (by omega)
    have hcall := ih.out r' hr' _ _ hx hs.out.ty
    have hx' := hx
    obtain ⟨xk, xn, xA, xm, xc, ex, _⟩ := hx'
    simp only [Value.agg.injEq, Array.mk.injEq, List.cons.injEq, and_true] at ex
    obtain ⟨rfl, rfl, rfl⟩ := ex
    have y0 := (cellm hb 0).trans c0
    have y1 := (cellm hb 1).trans c1
    have y2 := (cellm hb 2).trans c2
    have hbl := hs.out.old _ ⟨_, hG⟩
    rw [cell_al (by simp; omega), cell_al hbl] at y0 y1 y2
    replace hcall := Lib.hid hcall
    replace hG := Lib.hid hG
    clear hb hi hx c0 c1 c2
    go_enter Try.func116, Try.ntmps116
    go_wp2_with fail
    refine hcall.out.mono ?_
    rintro e w1 ⟨v', rfl, hv1, hy1, ht1⟩
    have hs1 := hs.out.step hy1 ht1
    have hv2 := hv1.ext (Ext.refl G 0) (Nat.le_of_lt hr')
    obtain ⟨xk, xn, xA, xm, xc, rfl, _⟩ := hv1
    obtain ⟨-, -, -, x0, x1, x2, f0, f1, f2, z1⟩ := hs1.cells
    replace hs1 := Lib.hid hs1
    replace hv2 := Lib.hid hv2
    clear hcall hs hv hrow y0 y1 y2 hy1 ht1
    go_wp2_with fail
    exact hs1.out.done rfl rfl hv2.out
  · have e1 : (kd == 5) = false := by simp [e5]
    go_enter Try.func116, Try.ntmps116
    go_wp2_with fail
    go_loopw [5] (fun i wr => ∃ (j : Nat), j ≤ m ∧ i = .int .i64 j ∧ Hid (LSt g B G w (.int .i64 kd) (.int .i64 n) (.slice A m c) wr)) (fun i _ => m - (intOf i).toNat)
    case atStart => exact ⟨0, Nat.zero_le _, rfl, hs⟩
    case round =>
      obtain ⟨j, hj, rfl, hL⟩ := hrel
      obtain ⟨b0, b1, b2, x0, x1, x2, f0, f1, f2, z1⟩ := hL.out.cells
      by_cases hlt : j < m
      · obtain ⟨b, r', rfl, hG, hr'⟩ := hrow.resolve_left (by omega)
        obtain ⟨_, _, cs, hb, hi⟩ := hL.out.ty b r' m hG
        obtain ⟨x, y, z, c0, c1, c2, hx⟩ := hi j hlt
        have hx' := hx
        obtain ⟨xk, xn, xA, xm, xc, ex, _⟩ := hx'
        simp only [Value.agg.injEq, Array.mk.injEq, List.cons.injEq, and_true] at ex
        obtain ⟨rfl, rfl, rfl⟩ := ex
        have hcall := ih.out r' hr' _ _ hx hL.out.drew.ty
        have y0 := (cellm hb (j * 3)).trans c0
        have y1 := (cellm hb (j * 3 + 1)).trans c1
        have y2 := (cellm hb (j * 3 + 2)).trans c2
        have hbl := block_lt hb
        replace hcall := Lib.hid hcall
        replace hG := Lib.hid hG
        clear hb hi hx c0 c1 c2
        go_wp2_with fail
        go_region_law (go_simp; go_at_call 116; refine hcall.out.mono ?_; rintro e w2 ⟨v', rfl, hv1, hy1, ht1⟩; have hL2 := hL.out.drew.step hy1 ht1; have b2' := hL2.cells.2.2.1; have hst := fun x y z hv => hL2.put (i := j) (x := x) (y := y) (z := z) hG.out hlt hv; obtain ⟨_, _, cs2, hb2, hi2⟩ := hy1 b r' m hG.out; obtain ⟨x', y', z', c0, c1, c2, _⟩ := hi2 j hlt; have g0 := (cellm hb2 (j * 3)).trans c0; have g1 := (cellm hb2 (j * 3 + 1)).trans c1; have g2 := (cellm hb2 (j * 3 + 2)).trans c2; have k0 := frozenm hb2 (j * 3); have k1 := frozenm hb2 (j * 3 + 1); have k2 := frozenm hb2 (j * 3 + 2); have hv2 := hv1; obtain ⟨nk, nn, nA, nm, nc, rfl, _⟩ := hv2; have hst2 := hst _ _ _ hv1; replace hst2 := Lib.hid hst2; clear hst hL2 hb2 hi2 c0 c1 c2 hv1 hy1 ht1 y0 y1 y2)
        all_goals
          go_wp2_with fail
          go_roundw
          case rel => exact ⟨j + 1, by omega, by go_num, hst2⟩
          case measure => simp [intOf]; omega
      · have ej : j = m := by omega
        subst ej
        go_wp2_with fail
        exact hL.out.done rfl rfl hv.out
end Go.Proofs.Ytpccgdkidnkppaa

set_option linter.unusedVariables false
set_option linter.unusedSimpArgs false
namespace Go.Proofs.Ytpccgdkidnkppaa
open Go Go.RowKit

def nb : Nat → Int
  | 0 => 1
  | r + 1 => 1 + 3 * nb r
theorem nb_pos : ∀ r, 1 ≤ nb r
  | 0 => by simp [nb]
  | r + 1 => by have := nb_pos r; simp only [nb]; omega
theorem nb_le : ∀ {a b : Nat}, a ≤ b → nb a ≤ nb b := by
  intro a b h
  induction h with
  | refl => exact Int.le_refl _
  | step _ ih => simp only [nb]; have := nb_pos a; rename_i m _; have := nb_pos m; omega
theorem nodesL_le {x : Int} : ∀ {ps : List Task}, (∀ t ∈ ps, nodes t ≤ x) → nodesL ps ≤ ps.length * x := by
  intro ps
  induction ps with
  | nil => intro _; simp [nodesL]
  | cons t ts ih =>
    intro h
    rw [nodesL]
    have h1 := h t (by simp)
    have h2 := ih (fun u hu => h u (by simp [hu]))
    simp only [List.length_cons, Int.natCast_add, Int.add_mul]
    omega
theorem TyV.reads {g B : Nat} {G : Rows} {w : World} (h : TyH g B G w) : ∀ (r : Nat) (v : Value), TyV G r v → ∃ T, TaskIs w.heap.size w v T ∧ nodes T ≤ nb r := by
  intro r
  induction r using Nat.strongRecOn with
  | ind r ih =>
  intro v hv
  obtain ⟨k, n, A, m, c, rfl, hm3, hmc, hcm, hk5, hrow⟩ := hv
  rcases hrow with rfl | ⟨b, r', rfl, hG, hr'⟩
  · refine ⟨.mk k n [], ?_, ?_⟩
    · rw [TaskIs]
      exact ⟨A, c, rfl, by simp, hcm, by rw [PartsIs]; trivial⟩
    · have := nb_pos r
      simp [nodes, nodesL]; omega
  · obtain ⟨_, _, cs, hb, hi⟩ := h b r' m hG
    have h1 : ∀ i, ∃ T, i < m → ∃ x y z, cs[i * 3]? = some x ∧ cs[i * 3 + 1]? = some y ∧ cs[i * 3 + 2]? = some z ∧ TaskIs w.heap.size w (.agg #[x, y, z]) T ∧ nodes T ≤ nb r' := by
      intro i
      by_cases hlt : i < m
      · obtain ⟨x, y, z, c0, c1, c2, hx⟩ := hi i hlt
        obtain ⟨T, hT⟩ := ih r' hr' _ hx
        exact ⟨T, fun _ => ⟨x, y, z, c0, c1, c2, hT⟩⟩
      · exact ⟨default, fun hh => (hlt hh).elim⟩
    obtain ⟨f, hf⟩ := Classical.axiomOfChoice h1
    refine ⟨.mk k n ((List.range m).map f), ?_, ?_⟩
    · rw [TaskIs]
      refine ⟨some ⟨b, 0, none⟩, c, by simp, by simpa using hmc, hcm, PartsIs.of_get (fun i hl => ?_)⟩
      have hl' : i < m := by simpa using hl
      obtain ⟨x, y, z, c0, c1, c2, hT, _⟩ := hf i hl'
      exact ⟨b, 0, x, y, z, rfl, block_lt hb, by rw [cellm hb]; simpa using c0, by rw [cellm hb]; simpa using c1, by rw [cellm hb]; simpa using c2, by simpa using hT⟩
    · obtain ⟨q, rfl⟩ : ∃ q, r = q + 1 := ⟨r - 1, by omega⟩
      have h2 : ∀ t ∈ (List.range m).map f, nodes t ≤ nb q := by
        intro t ht
        obtain ⟨i, hi, rfl⟩ := List.mem_map.1 ht
        obtain ⟨_, _, _, _, _, _, _, hn⟩ := hf i (by simpa using hi)
        have := nb_le (show r' ≤ q by omega)
        omega
      have h3 := nodesL_le h2
      have h4 := nb_pos q
      have h5 : (m : Int) * nb q ≤ 3 * nb q := Int.mul_le_mul_of_nonneg_right (by omega) (by omega)
      simp only [List.length_map, List.length_range] at h3
      simp only [nodes, nb]
      omega

theorem task0 (R : RdEnv) (hR : R.Good) : TaskDraws R 0 3 0 := fun G p below w hp h hG => task_zero R hR G p hp below w h hG
theorem task1 (R : RdEnv) (hR : R.Good) : TaskDraws R 1 12 1 := task_succ R hR 1 3 0 (by omega) (by omega) (by omega) (task0 R hR)
theorem task2 (R : RdEnv) (hR : R.Good) : TaskDraws R 2 39 2 := task_succ R hR 2 12 1 (by omega) (by omega) (by omega) (task1 R hR)
theorem task3 (R : RdEnv) (hR : R.Good) : TaskDraws R 3 120 3 := task_succ R hR 3 39 2 (by omega) (by omega) (by omega) (task2 R hR)

theorem DSt.up {R : RdEnv} {G G1 : Rows} {w w1 w2 : World} {p1 : Nat} (h : DSt R G w G1 p1 w1) (hb : Below w1.heap.size w1 w2) : DSt R G w G1 p1 w2 :=
  h.step (h.rd.up hb) (below_turn hb)

set_option maxHeartbeats 1000000 in
theorem l91Fit_calls (R : RdEnv) (hR : R.Good) (G : Rows) (p : Nat) (hp : p + 40 ≤ 1000000) (below : Int) (w : World) (h : RdAt R p w) (hG : TyH R.g R.B G w) :
    Calls Try.prog 115 #[.pointer (some ⟨R.g, 0, none⟩), .int .i64 below] w (DrawT R G p 40 2 w) := by
  have hs := DSt.start h hG
  have h1 := task2 R hR G p below _ (by omega) hs.rd hs.ty
  replace h1 := Lib.hid h1
  replace hs := Lib.hid hs
  clear h hG
  go_enter Try.func115, Try.ntmps115
  go_wp2_with fail
  refine h1.out.mono ?_
  rintro e w1 ⟨q, G1, v, rfl, hv, hq, hQ, hr, ht, he, hy⟩
  have hs1 := hs.out.draw hr ht he hy
  have hv' := hv
  obtain ⟨a, b, A, m, d, rfl, _⟩ := hv'
  have hs2 := hs1.up (below_al (Below.refl _ _) (.cells #[.int .i64 a, .int .i64 b, .slice A m d] 48 (0, 0)))
  obtain ⟨T, hT, hn⟩ := TyV.reads hs2.ty 2 _ hv
  cases T with
  | mk k' n' ps =>
  rw [TaskIs] at hT
  obtain ⟨A', c', e, hc, hcm, hps⟩ := hT
  simp only [Value.agg.injEq, Array.mk.injEq, List.cons.injEq, and_true, Value.int.injEq, true_and, Value.slice.injEq] at e
  obtain ⟨rfl, rfl, rfl, rfl, rfl⟩ := e
  have hok := specTaskOk_calls (.mk a b ps) A d _ _ _ (by simp [nb] at hn; omega) (Below.refl _ _) (Nat.le_refl _) hc hcm hps
  simp only [Task.kind, Task.n, Task.parts] at hok
  generalize okT (.mk a b ps) = ok at hok
  have hz := hs1.lt
  replace hok := Lib.hid hok
  replace hs1 := Lib.hid hs1
  replace hs2 := Lib.hid hs2
  replace hv := Lib.hid hv
  clear hr ht he hy h1 hs hps hn hc
  go_wp2_with fail
  refine hok.out.mono ?_
  rintro e w2 ⟨rfl, hb⟩
  have hs3 := hs2.out.up hb
  have y0 : w2.cell? ⟨w1.heap.size, 0, none⟩ = some (.int .i64 a) := (hb.cell (p := ⟨w1.heap.size, 0, none⟩) (by simp)).trans (by simp)
  have y1 : w2.cell? ⟨w1.heap.size, 1, none⟩ = some (.int .i64 b) := (hb.cell (p := ⟨w1.heap.size, 1, none⟩) (by simp)).trans (by simp)
  have y2 : w2.cell? ⟨w1.heap.size, 2, none⟩ = some (.slice A ps.length d) := (hb.cell (p := ⟨w1.heap.size, 2, none⟩) (by simp)).trans (by simp)
  have hpk := pick_calls R hR q (by omega) 10 w2 hs3.rd
  obtain ⟨x0, x1, x2, f0, f1, f2⟩ := hs3.cells
  have z2 := hs3.lt
  replace hs3 := Lib.hid hs3
  replace hpk := Lib.hid hpk
  clear hb hok hs1 hs2
  cases ok with
  | true =>
    go_wp2_with fail
    exact hs3.out.done rfl rfl hv.out ⟨by omega, by omega⟩
  | false =>
    go_wp2_with fail
    refine hpk.out.mono ?_
    rintro e w3 ⟨n3, rfl, _, _, hr2, ht2⟩
    have hs4 := hs3.out.step hr2 ht2
    obtain ⟨x0, x1, x2, f0, f1, f2⟩ := hs4.cells
    have z3 := hs4.lt
    replace hs4 := Lib.hid hs4
    clear hr2 ht2 hs3 hpk y0 y1 y2
    go_wp2_with fail
    exact hs4.out.done rfl rfl (tyv_leaf _ _ _ _ (by omega)) ⟨by omega, by omega⟩
end Go.Proofs.Ytpccgdkidnkppaa

set_option linter.unusedVariables false
set_option linter.unusedSimpArgs false
namespace Go.Proofs.Ytpccgdkidnkppaa
open Go Go.RowKit

set_option maxHeartbeats 1000000 in
theorem l91Num_calls (R : RdEnv) (hR : R.Good) (p : Nat) (hp : p + 1 ≤ 1000000) (b c : Nat) (xs : List Int) (w : World) (h : RdAt R p w) (h1 : 1 ≤ xs.length) (hc : xs.length ≤ c) (hm : c ≤ 1000) (hb : b < w.heap.size) (hg : b ≠ R.g)
    (hx : ∀ i (hi : i < xs.length), w.cell? ⟨b, i, none⟩ = some (.int .i64 xs[i])) :
    Calls Try.prog 117 #[.pointer (some ⟨R.g, 0, none⟩), .slice (some ⟨b, 0, none⟩) xs.length c] w fun e w' => ∃ v, e = .returned (.int .i64 v) ∧ v ∈ xs ∧ RdAt R (p + 1) w' ∧ Turn (· = R.g) (· = R.g) w w' := by
  have hk := pick_calls R hR p (by omega) xs.length w h
  replace hk := Lib.hid hk
  replace hx := Lib.hid hx
  replace h := Lib.hid h
  go_enter Try.func117, Try.ntmps117
  go_wp2_with fail
  refine hk.out.mono ?_
  rintro e w1 ⟨v, rfl, hv0, hv1, hr, ht⟩
  obtain ⟨q, rfl⟩ := Int.eq_ofNat_of_zero_le hv0
  have hq : q < xs.length := by omega
  have y := (ht.cell q hb hg).trans (hx.out q hq)
  have hz : b < w1.heap.size := by have := ht.size; omega
  replace hr := Lib.hid hr
  replace ht := Lib.hid ht
  go_wp2_with fail
  go_ret
  exact ⟨xs[q], rfl, List.getElem_mem _, hr.out, ht.out⟩

/-- a row of numbers that grows while bytes are read; the sheet's box is the first new block -/
structure InSt (R : RdEnv) (w : World) (s1 s2 : Value) (p : Nat) (xs : List Int) (v : Value) (wr : World) : Prop where
  rd : RdAt R p wr
  turn : Turn (· = R.g) (· = R.g) w wr
  own : wr.ownsRow w.heap.size 3 1 v xs.length (ints xs)
  box : wr.heap[w.heap.size]? = some (.cells #[s1, s2] 31 (0, 0))
  glt : R.g < w.heap.size
  bw : R.B ≤ w.heap.size
section
variable {R : RdEnv} {w wr w2 : World} {s1 s2 v : Value} {p : Nat} {xs : List Int}
theorem InSt.step (h : InSt R w s1 s2 p xs v wr) {p2 : Nat} (rd : RdAt R p2 w2) (t : Turn (· = R.g) (· = R.g) wr w2) : InSt R w s1 s2 p2 xs v w2 :=
  ⟨rd, h.turn.trans t, ownsRow_block h.own (fun i hi => t.block i (h.own.lt i hi).2 (fun e => by have := (h.own.lt i hi).1; have := h.glt; omega)), (t.block _ (block_lt h.box) (fun e => by have := h.glt; omega)).trans h.box, h.glt, h.bw⟩
theorem InSt.alloc (h : InSt R w s1 s2 p xs v wr) (o : Obj) : InSt R w s1 s2 p xs v (wr.alloc o) :=
  h.step (h.rd.up (below_al (Below.refl _ _) o)) ((Turn.refl _ _).alloc o)
theorem InSt.ne (h : InSt R w s1 s2 p xs v wr) : v.ownBlock ≠ some w.heap.size := ownsRow_ne h.own h.box (fun c e => by cases e)
theorem InSt.app (h : InSt R w s1 s2 p xs v wr) {o : Obj} {x : Int} {v' : Value} (hg : (wr.alloc o).grownBy w2 v.ownBlock) (ho : w2.ownsRow w.heap.size 3 1 v' (xs.length + 1) (ints xs ++ [.int .i64 x])) :
    InSt R w s1 s2 p (xs ++ [x]) v' w2 := by
  have hlt := h.own.lt
  have hz : w.heap.size ≤ wr.heap.size := h.turn.size
  have hb : Below w.heap.size wr w2 := (below_al' (Below.refl _ _) o hz).grown hg (by simp; omega) (fun k hk => (hlt k hk).1)
  refine ⟨⟨(hb.block _ h.glt).trans h.rd.blk, h.rd.below.trans (hb.mono h.bw), Nat.le_trans h.rd.size hb.size⟩, ?_, ?_, (far_grown hg (block_lt h.box) h.ne).trans h.box, h.glt, h.bw⟩
  · exact ⟨hb.os.trans h.turn.os, hb.tape.trans h.turn.tape, hb.output.trans h.turn.output, Nat.le_trans hz hb.size, fun i hi hF => (hb.block i hi).trans (h.turn.block i hi hF), h.turn.fresh⟩
  · simpa [ints_append, ints] using ho
end
/-- what a draw of inputs brings -/
def DrawIn (R : RdEnv) (p c m : Nat) (w : World) (e : Ending) (w' : World) : Prop :=
  ∃ p' xs v, e = .returned v ∧ xs.length ≤ m ∧ p ≤ p' ∧ p' ≤ p + c ∧ RdAt R p' w' ∧ Turn (· = R.g) (· = R.g) w w' ∧ w'.ownsRow w.heap.size 3 1 v xs.length (ints xs)

set_option maxHeartbeats 2000000 in
theorem l91Inputs_calls (R : RdEnv) (hR : R.Good) (p : Nat) (hp : p + 100 ≤ 1000000) (Am At : Option Addr) (nm cm nt ct : Nat) (w : World) (h : RdAt R p w) (hn : nm ≤ 20) :
    Calls Try.prog 68 #[.pointer (some ⟨R.g, 0, none⟩), .agg #[.slice Am nm cm, .slice At nt ct]] w (DrawIn R p 100 (nm + 1) w) := by
  have hs : InSt R w (.slice Am nm cm) (.slice At nt ct) p [] (.slice (some ⟨w.heap.size + 1, 0, none⟩) 0 0) ((w.alloc (.cells #[.slice Am nm cm, .slice At nt ct] 31 (0, 0))).alloc (.cells #[] 3 (0, 0))) :=
    ⟨h.up (below_al (below_al (Below.refl _ _) _) _), ((Turn.refl _ _).alloc _).alloc _, by simpa [ints] using World.ownsRow_made (base := w.heap.size) (w.alloc (.cells #[.slice Am nm cm, .slice At nt ct] 31 (0, 0))) #[] 0 (by simp) (by simp [maxLen]) rfl, (heap_old (by simp)).trans (heap_new rfl), block_lt h.blk, h.size⟩
  have h1 := pick_calls R hR p (by omega) 2 _ hs.rd
  replace h1 := Lib.hid h1
  replace hs := Lib.hid hs
  clear h
  go_enter Try.func68, Try.ntmps68
  go_wp2_with fail
  refine h1.out.mono ?_
  rintro e w1 ⟨k, rfl, hk0, hk1, hr, ht⟩
  have hs1 := hs.out.step hr ht
  replace hs1 := Lib.hid hs1
  clear h1 hs hr ht
  go_wp2_with fail
  generalize (k == 0) = sm
  go_loopw [5, 7] (fun o i wr => ∃ (j : Nat) (xs : List Int) (p2 : Nat), j ≤ nm ∧ xs.length = j ∧ p2 ≤ p + 1 + 2 * j ∧ p ≤ p2 ∧ i = .int .i64 j ∧ Hid (InSt R w (.slice Am nm cm) (.slice At nt ct) p2 xs o wr)) (fun _ i _ => nm - (intOf i).toNat)
  case atStart => exact ⟨0, [], p + 1, Nat.zero_le _, rfl, by omega, by omega, rfl, hs1⟩
  case round =>
    obtain ⟨j, xs, p2, hj, hlen, hp2, hpp, rfl, hL⟩ := hrel
    have b0 : wr.cell? ⟨w.heap.size, 0, none⟩ = some (.slice Am nm cm) := cellm hL.out.box 0
    have hz := block_lt hL.out.box
    by_cases hlt : j < nm
    · have hc := pick_calls R hR p2 (by omega) 97 wr hL.out.rd
      replace hc := Lib.hid hc
      go_wp2_with fail
      refine hc.out.mono ?_
      rintro e w2 ⟨x, rfl, hx0, hx1, hr2, ht2⟩
      have hL2 := hL.out.step hr2 ht2
      clear hc hr2 ht2 hL b0 hz
      replace hL2 := Lib.hid hL2
      have fin : ∀ (x : Int) (p3 : Nat) (w3 : World), True := fun _ _ _ => trivial
      cases sm with
      | true =>
        have hc := pick_calls R hR (p2 + 1) (by omega) 3 w2 hL2.out.rd
        replace hc := Lib.hid hc
        go_wp2_with fail
        refine hc.out.mono ?_
        rintro e w3 ⟨x3, rfl, hx30, hx31, hr3, ht3⟩
        have hL3 := hL2.out.step hr3 ht3
        clear hc hr3 ht3 hL2
        replace hL3 := Lib.hid hL3
        go_wp2_with (at_builtin; go_loud (with_reducible refine wpList_app1 (by rfl) (.tmp 25) (.tmp 27) 26 (by rfl) intTy w.heap.size u5 xs.length (ints xs) (by with_unfolding_all rfl) (hL3.out.own.alloc _) w3.heap.size 1 [.int .i64 x3] (by with_unfolding_all rfl) (by with_unfolding_all rfl) ⟨_, _, heap_alloc_new w3 _, rfl⟩ (one_int _ _) ?_ ?_ ?_ ?_))
        · unfold maxLen; omega
        · omega
        · have := hL3.out.turn.size; simp; omega
        intro g cap w4 hown hgrow hat
        have hL4 := hL3.out.app (x := x3) (v' := .slice (some ⟨g, 0, none⟩) (j + 1) cap) hgrow (by rw [hlen]; exact hown)
        replace hL4 := Lib.hid hL4
        clear hown hgrow hat hL3
        go_wp2_with fail
        go_roundw
        case rel => exact ⟨j + 1, _, p2 + 1 + 1, by omega, by simp [hlen], by omega, by omega, by go_num, hL4⟩
        case measure => simp [intOf]; omega
      | false =>
        go_wp2_with (at_builtin; go_loud (with_reducible refine wpList_app1 (by rfl) (.tmp 25) (.tmp 27) 26 (by rfl) intTy w.heap.size u5 xs.length (ints xs) (by with_unfolding_all rfl) (hL2.out.own.alloc _) w2.heap.size 1 [.int .i64 x] (by with_unfolding_all rfl) (by with_unfolding_all rfl) ⟨_, _, heap_alloc_new w2 _, rfl⟩ (one_int _ _) ?_ ?_ ?_ ?_))
        · unfold maxLen; omega
        · omega
        · have := hL2.out.turn.size; simp; omega
        intro g cap w4 hown hgrow hat
        have hL4 := hL2.out.app (x := x) (v' := .slice (some ⟨g, 0, none⟩) (j + 1) cap) hgrow (by rw [hlen]; exact hown)
        replace hL4 := Lib.hid hL4
        clear hown hgrow hat hL2
        go_wp2_with fail
        go_roundw
        case rel => exact ⟨j + 1, _, p2 + 1, by omega, by simp [hlen], by omega, by omega, by go_num, hL4⟩
        case measure => simp [intOf]; omega
    · have hc := pick_calls R hR p2 (by omega) 25 wr hL.out.rd
      replace hc := Lib.hid hc
      go_wp2_with fail
      refine hc.out.mono ?_
      rintro e w2 ⟨x, rfl, hx0, hx1, hr2, ht2⟩
      have hL2 := hL.out.step hr2 ht2
      clear hc hr2 ht2 hL b0 hz
      replace hL2 := Lib.hid hL2
      by_cases hx : x = 0
      · subst hx
        have hL3 := hL2.out.alloc (.cells #[.int .i64 0, .int .i64 97, .int .i64 (-1)] 3 (0, 0))
        have hnum := l91Num_calls R hR (p2 + 1) (by omega) w2.heap.size 3 [0, 97, -1] _ hL3.rd (by simp) (by simp) (by omega) (by simp) (by have h1 := hL2.out.glt; have h2 := hL2.out.turn.size; omega)
          (by intro i hi; rw [cellm (heap_new rfl) i]; rcases (show i = 0 ∨ i = 1 ∨ i = 2 by simp at hi; omega) with rfl | rfl | rfl <;> rfl)
        replace hL3 := Lib.hid hL3
        replace hnum := Lib.hid hnum
        clear hL2
        go_wp2_with fail
        refine hnum.out.mono ?_
        rintro e w3 ⟨x3, rfl, _, hr3, ht3⟩
        have hL4 := hL3.out.step hr3 ht3
        replace hL4 := Lib.hid hL4
        clear hL3 hnum hr3 ht3
        go_wp2_with (at_builtin; go_loud (with_reducible refine wpList_app1 (by rfl) (.tmp 32) (.tmp 36) 26 (by rfl) intTy w.heap.size u5 xs.length (ints xs) (by with_unfolding_all rfl) (hL4.out.own.alloc _) w3.heap.size 1 [.int .i64 x3] (by with_unfolding_all rfl) (by with_unfolding_all rfl) ⟨_, _, heap_alloc_new w3 _, rfl⟩ (one_int _ _) ?_ ?_ ?_ ?_))
        · unfold maxLen; omega
        · omega
        · have := hL4.out.turn.size; simp; omega
        intro g cap w4 hown hgrow hat
        have hL5 := hL4.out.app (x := x3) (v' := .slice (some ⟨g, 0, none⟩) (j + 1) cap) hgrow (by rw [hlen]; exact hown)
        replace hL5 := Lib.hid hL5
        clear hown hgrow hat hL4
        go_wp2_with fail
        go_ret
        exact ⟨p2 + 1 + 1, xs ++ [x3], _, rfl, by simp; omega, by omega, by omega, hL5.out.rd, hL5.out.turn, hL5.out.own⟩
      · have hx' : (x == 0) = false := by simp [hx]
        go_wp2_with fail
        go_ret
        exact ⟨p2 + 1, xs, u5, rfl, by omega, by omega, by omega, hL2.out.rd, hL2.out.turn, hL2.out.own⟩
end Go.Proofs.Ytpccgdkidnkppaa

set_option linter.unusedVariables false
set_option linter.unusedSimpArgs false
namespace Go.Proofs.Ytpccgdkidnkppaa
open Go Go.RowKit

theorem boolTy : ElemTy Try.prog 22 4 (.bool false) 1 1 := ⟨Try.underlying22, by kernel_rfl, rfl, by omega⟩
theorem taskTy : ElemTy Try.prog 29 48 (.agg #[.int .i64 0, .int .i64 0, .slice none 0 0]) 3 40 := ⟨Try.underlying29, by kernel_rfl, rfl, by omega⟩

def bools (l : List Bool) : List Value := l.map fun b => Value.bool b
def cells3 (l : List (Value × Value × Value)) : List Value := l.flatMap fun t => [t.1, t.2.1, t.2.2]
theorem cells3_length (l : List (Value × Value × Value)) : (cells3 l).length = l.length * 3 := by
  induction l with
  | nil => rfl
  | cons t l ih => simp only [cells3, List.flatMap_cons, List.length_append, List.length_cons, List.length_nil] at *; omega
theorem cells3_get : ∀ (l : List (Value × Value × Value)) (i : Nat) (h : i < l.length), (cells3 l)[i * 3]? = some l[i].1 ∧ (cells3 l)[i * 3 + 1]? = some l[i].2.1 ∧ (cells3 l)[i * 3 + 2]? = some l[i].2.2 := by
  intro l
  induction l with
  | nil => intro i h; simp at h
  | cons t l ih =>
    intro i h
    cases i with
    | zero => exact ⟨rfl, rfl, rfl⟩
    | succ i =>
      have := ih i (by simpa using h)
      rw [show (i + 1) * 3 = i * 3 + 3 by omega, show i * 3 + 3 + 1 = i * 3 + 1 + 3 by omega, show i * 3 + 3 + 2 = i * 3 + 2 + 3 by omega]
      exact this

/-- a drawn sheet: two rows, and the rows of parts that G tells of, in blocks from lo on -/
structure Sht (g B lo : Nat) (G : Rows) (made : List Bool) (ts : List (Value × Value × Value)) (vm vt : Value) (w : World) : Prop where
  om : w.ownsRow lo 4 1 vm made.length (bools made)
  ot : w.ownsRow lo 48 3 vt ts.length (cells3 ts)
  ty : TyH g B G w
  tv : ∀ t ∈ ts, TyV G 2 (.agg #[t.1, t.2.1, t.2.2])
  sep : ∀ i x, vt.ownBlock = some i → G i ≠ some x
  new : ∀ b x, G b = some x → lo ≤ b
  glo : g < lo
section
variable {g B lo : Nat} {G G2 : Rows} {made : List Bool} {ts : List (Value × Value × Value)} {vm vt : Value} {w w2 : World}
theorem Sht.mG (h : Sht g B lo G made ts vm vt w) (i : Nat) (x : Nat × Nat) (hi : vm.ownBlock = some i) : G i ≠ some x := by
  intro hx
  obtain ⟨_, _, cs, hb, _⟩ := h.ty i x.1 x.2 hx
  exact ownsRow_ne h.om hb (fun c e => by cases e) hi
theorem Sht.mt (h : Sht g B lo G made ts vm vt w) (i : Nat) (hi : vm.ownBlock = some i) : vt.ownBlock ≠ some i := by
  intro e
  have hlt := (h.ot.lt i e).2
  obtain ⟨ob, hob⟩ : ∃ ob, w.heap[i]? = some ob := ⟨w.heap[i], by simp [hlt]⟩
  by_cases hc : ∃ c, ob = .cells c 4 (0, 0)
  · obtain ⟨c, rfl⟩ := hc
    exact ownsRow_ne h.ot hob (fun c' e' => by cases e') e
  · exact ownsRow_ne h.om hob (fun c' e' => hc ⟨c', e'⟩) hi
theorem Sht.move (h : Sht g B lo G made ts vm vt w) {F F' : Nat → Prop} (t : Turn F F' w w2) (hF : ∀ i, F i → i = g ∨ dom G i) (he : Ext G G2 w.heap.size) (ty : TyH g B G2 w2) (hlo : lo ≤ w.heap.size) : Sht g B lo G2 made ts vm vt w2 :=
  ⟨ownsRow_block h.om (fun i hi => t.block i (h.om.lt i hi).2 (fun hf => (hF i hf).elim (fun e => by have := (h.om.lt i hi).1; have := h.glo; omega) (fun ⟨x, hx⟩ => h.mG i x hi hx))),
   ownsRow_block h.ot (fun i hi => t.block i (h.ot.lt i hi).2 (fun hf => (hF i hf).elim (fun e => by have := (h.ot.lt i hi).1; have := h.glo; omega) (fun ⟨x, hx⟩ => h.sep i x hi hx))),
   ty, fun t ht => (h.tv t ht).ext he (Nat.le_refl _), fun i x hi hx => (he.new i x hx).elim (h.sep i x hi) (fun hn => by have := (h.ot.lt i hi).2; omega),
   fun b x hx => (he.new b x hx).elim (h.new b x) (fun hn => by omega), h.glo⟩
theorem Sht.pick (h : Sht g B lo G made ts vm vt w) {F' : Nat → Prop} (t : Turn (· = g) F' w w2) (hlo : lo ≤ w.heap.size) : Sht g B lo G made ts vm vt w2 :=
  h.move t (fun i e => .inl e) (Ext.refl _ _) (h.ty.turng t) hlo
theorem Sht.set (h : Sht g B lo G made ts vm vt w) {b : Nat} (o : Nat) (v : Value) (h1 : vm.ownBlock ≠ some b) (h2 : vt.ownBlock ≠ some b) (h3 : ∀ x, G b ≠ some x) : Sht g B lo G made ts vm vt (w.setCell ⟨b, o, none⟩ v) :=
  ⟨ownsRow_block h.om (fun i hi => setCell_far (own_far hi h1)), ownsRow_block h.ot (fun i hi => setCell_far (own_far hi h2)), h.ty.set v h3, h.tv, h.sep, h.new, h.glo⟩
theorem Sht.app_made (h : Sht g B lo G made ts vm vt w) {v' : Value} {x : Bool} (hg : w.grownBy w2 vm.ownBlock) (ho : w2.ownsRow lo 4 1 v' (made.length + 1) (bools made ++ [.bool x])) : Sht g B lo G (made ++ [x]) ts v' vt w2 :=
  ⟨by simpa [bools] using ho, ownsRow_block h.ot (fun i hi => hg.block i (h.ot.lt i hi).2 (fun e => h.mt i e.symm hi)),
   fun b r m hb => by
     obtain ⟨h1, h2, cs, h3, h4⟩ := h.ty b r m hb
     exact ⟨h1, h2, cs, (hg.block b (block_lt h3) (fun e => h.mG b _ e.symm hb)).trans h3, h4⟩,
   h.tv, h.sep, h.new, h.glo⟩
theorem Sht.app_task (h : Sht g B lo G made ts vm vt w) {v' : Value} {x y z : Value} (hg : w.grownBy w2 vt.ownBlock) (ho : w2.ownsRow lo 48 3 v' (ts.length + 1) (cells3 ts ++ [x, y, z])) (hv : TyV G 2 (.agg #[x, y, z]))
    (hat : ∀ i, v'.ownBlock = some i → vt.ownBlock = some i ∨ i = w.heap.size) : Sht g B lo G made (ts ++ [(x, y, z)]) vm v' w2 :=
  ⟨ownsRow_block h.om (fun i hi => hg.block i (h.om.lt i hi).2 (fun e => h.mt i hi e.symm)), by simpa [cells3] using ho,
   fun b r m hb => by
     obtain ⟨h1, h2, cs, h3, h4⟩ := h.ty b r m hb
     exact ⟨h1, h2, cs, (hg.block b (block_lt h3) (fun e => h.sep b _ e.symm hb)).trans h3, h4⟩,
   fun t ht => (List.mem_append.1 ht).elim (h.tv t) (fun e => by rw [List.mem_singleton.1 e]; exact hv),
   fun i x hi hx => (hat i hi).elim (fun e => h.sep i x e hx) (fun e => by have := h.ty.lt hx; omega), h.new, h.glo⟩
theorem ownsRow_cells {base : Nat} {e : TypeId} {size : Nat} {v : Value} {n : Nat} {xs : List Value} (h : w.ownsRow base e size v n xs) : ∃ A c, v = .slice A n c ∧ n ≤ c ∧ c ≤ maxLen ∧ ∀ i (hi : i < xs.length), ∃ b, A = some ⟨b, 0, none⟩ ∧ b < w.heap.size ∧ w.cell? ⟨b, i, none⟩ = some xs[i] := by
  obtain ⟨h1, ⟨rfl, rfl⟩ | ⟨g, cap, cur, rfl, hb, hg, hn, hc, hs, ht⟩⟩ := h
  · exact ⟨none, 0, rfl, Nat.le_refl _, by simp [maxLen], fun i hi => by simp at h1; simp [h1] at hi⟩
  · refine ⟨_, cap, rfl, hn, hc, fun i hi => ⟨g, rfl, block_lt hg, ?_⟩⟩
    rw [cellm hg]
    have hxi : xs[i]? = some xs[i] := by simp
    rw [← hxi, ← ht, List.getElem?_take_of_lt (by omega)]
    simp
/-- .. read as a sheet -/
theorem Sht.reads (h : Sht g B lo G made ts vm vt w) : ∃ Am cm At ct tasks, vm = .slice Am made.length cm ∧ vt = .slice At tasks.length ct ∧ tasks.length = ts.length ∧ SheetAt w.heap.size w Am cm At ct made tasks ∧ ∀ T ∈ tasks, nodes T ≤ nb 2 := by
  obtain ⟨Am, cm, rfl, hm1, hm2, hm⟩ := ownsRow_cells h.om
  obtain ⟨At, ct, rfl, ht1, ht2, ht⟩ := ownsRow_cells h.ot
  have h1 : ∀ i, ∃ T, ∀ (hi : i < ts.length), TaskIs w.heap.size w (.agg #[ts[i].1, ts[i].2.1, ts[i].2.2]) T ∧ nodes T ≤ nb 2 := by
    intro i
    by_cases hi : i < ts.length
    · obtain ⟨T, hT⟩ := TyV.reads h.ty 2 _ (h.tv ts[i] (List.getElem_mem _))
      exact ⟨T, fun _ => hT⟩
    · exact ⟨default, fun hh => (hi hh).elim⟩
  obtain ⟨f, hf⟩ := Classical.axiomOfChoice h1
  have hl := cells3_length ts
  refine ⟨Am, cm, At, ct, (List.range ts.length).map f, rfl, by simp, by simp, ⟨hm1, hm2, by simpa using ht1, ht2, fun i hi => ?_, PartsIs.of_get (fun i hi => ?_)⟩, fun T hT => ?_⟩
  · obtain ⟨b, e, hb, hc⟩ := hm i (by simpa [bools] using hi)
    exact ⟨b, 0, e, hb, by rw [Nat.zero_add, hc]; simp [bools]⟩
  · have hi' : i < ts.length := by simpa using hi
    obtain ⟨k0, k1, k2⟩ := cells3_get ts i hi'
    obtain ⟨b, e, hb, c0⟩ := ht (i * 3) (by omega)
    obtain ⟨b1, e1, _, c1⟩ := ht (i * 3 + 1) (by omega)
    obtain ⟨b2, e2, _, c2⟩ := ht (i * 3 + 2) (by omega)
    subst e
    cases e1; cases e2
    refine ⟨b, 0, _, _, _, rfl, hb, ?_, ?_, ?_, by simpa using (hf i hi').1⟩
    · rw [Nat.zero_add, Nat.zero_add, c0, ← k0]; simp
    · rw [Nat.zero_add, Nat.zero_add, c1, ← k1]; simp
    · rw [Nat.zero_add, Nat.zero_add, c2, ← k2]; simp
  · obtain ⟨i, hi, rfl⟩ := List.mem_map.1 hT
    exact (hf i (by simpa using hi)).2
end
end Go.Proofs.Ytpccgdkidnkppaa

set_option linter.unusedVariables false
set_option linter.unusedSimpArgs false
namespace Go.Proofs.Ytpccgdkidnkppaa
open Go Go.RowKit

/-! rows of fetches -/
def FetsAt (B : Nat) (w : World) (A : Option Addr) (l : List (Int × Int)) : Prop :=
  ∀ i (h : i < l.length), ∃ b o, A = some ⟨b, o, none⟩ ∧ b < B ∧ w.cell? ⟨b, o + i * 2, none⟩ = some (.int .i64 l[i].1) ∧ w.cell? ⟨b, o + i * 2 + 1, none⟩ = some (.int .i64 l[i].2)
theorem FetsAt.at {B : Nat} {w0 w : World} {A : Option Addr} {l : List (Int × Int)} (h : FetsAt B w0 A l) (hb : Below B w0 w) (hB : B ≤ w.heap.size) (i : Nat) (hi : i < l.length) :
    ∃ b o, A = some ⟨b, o, none⟩ ∧ b < w.heap.size ∧ w.cell? ⟨b, o + i * 2, none⟩ = some (.int .i64 l[i].1) ∧ w.cell? ⟨b, o + i * 2 + 1, none⟩ = some (.int .i64 l[i].2) := by
  obtain ⟨b, o, e, hlt, h1, h2⟩ := h i hi
  exact ⟨b, o, e, by omega, (hb.cell hlt).trans h1, (hb.cell hlt).trans h2⟩
theorem FetsAt.up {B B' : Nat} {w0 w : World} {A : Option Addr} {l : List (Int × Int)} (h : FetsAt B w0 A l) (hb : Below B w0 w) (hB : B ≤ B') : FetsAt B' w A l := by
  intro i hi
  obtain ⟨b, o, e, hlt, h1, h2⟩ := h i hi
  exact ⟨b, o, e, by omega, (hb.cell hlt).trans h1, (hb.cell hlt).trans h2⟩
theorem FetsAt.nil (B : Nat) (w : World) (A : Option Addr) : FetsAt B w A [] := fun i h => by simp at h
theorem fets_get : ∀ (l : List (Int × Int)) (i : Nat) (h : i < l.length), (fets l)[i * 2]? = some (.int .i64 l[i].1) ∧ (fets l)[i * 2 + 1]? = some (.int .i64 l[i].2) := by
  intro l
  induction l with
  | nil => intro i h; simp at h
  | cons f l ih =>
    intro i h
    cases i with
    | zero => exact ⟨rfl, rfl⟩
    | succ i =>
      have := ih i (by simpa using h)
      rw [show (i + 1) * 2 = i * 2 + 2 by omega, show i * 2 + 2 + 1 = i * 2 + 1 + 2 by omega]
      exact this
theorem fets_own {w : World} {base : Nat} {e : TypeId} {v : Value} {l : List (Int × Int)} (h : w.ownsRow base e 2 v l.length (fets l)) : ∃ A c, v = .slice A l.length c ∧ l.length ≤ c ∧ c ≤ maxLen ∧ FetsAt w.heap.size w A l := by
  obtain ⟨A, c, rfl, h1, h2, h3⟩ := ownsRow_cells h
  refine ⟨A, c, rfl, h1, h2, fun i hi => ?_⟩
  have hl := fets_length l
  obtain ⟨b, e1, hb, c1⟩ := h3 (i * 2) (by omega)
  obtain ⟨b', e2, -, c2⟩ := h3 (i * 2 + 1) (by omega)
  rw [e1] at e2
  cases e2
  have hg := fets_get l i hi
  refine ⟨b, 0, e1, hb, ?_, ?_⟩
  · rw [Nat.zero_add, c1, ← List.getElem?_eq_getElem]; exact hg.1
  · rw [Nat.zero_add, c2, ← List.getElem?_eq_getElem]; exact hg.2
theorem one_fet (a b : Int) : ∀ u ∈ [Value.int .i64 a, Value.int .i64 b], u.oneCell' = true := by
  intro u hu
  simp only [List.mem_cons, List.not_mem_nil, or_false] at hu
  rcases hu with rfl | rfl <;> rfl

theorem findexFunc_calls (p : Int × Int → Bool) (g : Nat) (first cap : Array Value) (hg : Enters Try.prog g) (A : Option Addr) (c : Nat) (l : List (Int × Int)) (B : Nat) (w0 w : World) (hb : Below B w0 w) (hB : B ≤ w.heap.size) (hm : l.length ≤ maxLen) (hx : FetsAt B w0 A l)
    (hf : ∀ x w', x ∈ l → Below w.heap.size w w' → Calls Try.prog g (first ++ #[.agg #[.int .i64 x.1, .int .i64 x.2]] ++ cap) w' (fun e w'' => e = .returned (.bool (p x)) ∧ Below w'.heap.size w' w'')) :
    Calls Try.prog 155 #[.slice A l.length c, .func (.func g) first cap] w fun e w' => e = .returned (.int .i64 (idx p l)) ∧ Below w.heap.size w w' := by
  unfold maxLen at hm
  replace hx := Lib.hid hx
  replace hb := Lib.hid hb
  replace hf := Lib.hid hf
  go_enter Try.func155, Try.ntmps155
  go_wp2
  go_loopw [5, 8] (fun _ i wr => ∃ k : Nat, k ≤ l.length ∧ i = .int .i64 k ∧ Hid (Below w.heap.size w wr) ∧ Hid (∀ j (hj : j < l.length), j < k → p l[j] = false)) (fun _ i _ => l.length - (intOf i).toNat)
  case atStart => exact ⟨0, Nat.zero_le _, rfl, Lib.hid (Below.refl _ _), Lib.hid (fun j _ h => by omega)⟩
  case round =>
    obtain ⟨k, hk, rfl, hw, hno⟩ := hrel
    by_cases hlt : k < l.length
    · obtain ⟨b, o, rfl, hbl, hc1, hc2⟩ := hx.out.at (below_up' hb.out hB hw.out) (Nat.le_trans hB hw.out.size) k hlt
      go_wp2_with ((with_reducible refine wpList_call_value (by rfl) (.tmp 11) _ _ (by rfl) g first cap (by with_unfolding_all rfl) hg ?_); refine (hf.out l[k] _ (List.getElem_mem _) hw.out).mono ?_; rintro e w' ⟨rfl, h3⟩; replace h3 := Lib.hid h3; refine ⟨_, rfl, ?_⟩)
      · have hp : p l[k] = true := by assumption
        have hr : idx p l = k := idx_found hlt (fun j hj => hno.out j _ hj) hp
        go_ret
        exact ⟨by rw [hr]; rfl, below_up hw.out h3.out⟩
      · have hp : p l[k] = false := by assumption
        go_roundw
        case rel => exact ⟨k + 1, by omega, by go_num, Lib.hid (below_up hw.out h3.out), Lib.hid (fun j hj h => if e : j = k then by subst e; exact hp else hno.out j hj (by omega))⟩
        case measure => simp [intOf]; omega
    · have hr : idx p l = -1 := idx_none (fun j hj => hno.out j hj (by omega))
      replace hr := Lib.hid hr
      go_wp2
      go_ret
      exact ⟨by rw [hr.out]; rfl, hw.out⟩
theorem fcontainsFunc_calls (p : Int × Int → Bool) (g : Nat) (first cap : Array Value) (hg : Enters Try.prog g) (A : Option Addr) (c : Nat) (l : List (Int × Int)) (B : Nat) (w0 w : World) (hb : Below B w0 w) (hB : B ≤ w.heap.size) (hm : l.length ≤ maxLen) (hx : FetsAt B w0 A l)
    (hf : ∀ x w', x ∈ l → Below w.heap.size w w' → Calls Try.prog g (first ++ #[.agg #[.int .i64 x.1, .int .i64 x.2]] ++ cap) w' (fun e w'' => e = .returned (.bool (p x)) ∧ Below w'.heap.size w' w'')) :
    Calls Try.prog 133 #[.slice A l.length c, .func (.func g) first cap] w fun e w' => e = .returned (.bool (l.any p)) ∧ Below w.heap.size w w' := by
  have h := findexFunc_calls p g first cap hg A c l B w0 w hb hB hm hx hf
  replace h := Lib.hid h
  clear hx hb hf
  go_enter Try.func133, Try.ntmps133
  go_wp2_with fail
  refine h.out.mono ?_
  rintro e w1 ⟨rfl, h3⟩
  replace h3 := Lib.hid h3
  have hr := idx_any p l
  generalize idx p l = n at *
  replace hr := Lib.hid hr
  go_wp2_with fail
  go_ret
  exact ⟨by rw [← hr.out]; rfl, h3.out⟩
end Go.Proofs.Ytpccgdkidnkppaa

set_option linter.unusedVariables false
set_option linter.unusedSimpArgs false
namespace Go.Proofs.Ytpccgdkidnkppaa
open Go Go.RowKit

theorem own_low {w : World} {base base' : Nat} {e : TypeId} {size : Nat} {v : Value} {n : Nat} {xs : List Value} (h : w.ownsRow base e size v n xs) (hl : base' ≤ base) : w.ownsRow base' e size v n xs := by
  obtain ⟨h1, h2⟩ := h
  refine ⟨h1, h2.imp id ?_⟩
  rintro ⟨g, cap, cur, hv, hb, h3⟩
  exact ⟨g, cap, cur, hv, Nat.le_trans hl hb, h3⟩
theorem once1f_calls (b : Nat) (g : Int × Int) (k : Int) (w : World) (x0 : w.cell? ⟨b, 0, none⟩ = some (.int .i64 k)) (hb : b < w.heap.size) :
    Calls Try.prog 134 #[.agg #[.int .i64 g.1, .int .i64 g.2], .pointer (some ⟨b, 0, none⟩)] w fun e w' => e = .returned (.bool (g.1 == k)) ∧ Below w.heap.size w w' := by
  generalize hd : (g.1 == k) = d
  obtain ⟨p, q⟩ := g
  dsimp only at hd ⊢
  go_enter Try.func134, Try.ntmps134
  go_wp2_with fail
  go_ret
  exact ⟨rfl, below_al (Below.refl _ _) _⟩

set_option maxHeartbeats 2000000 in
theorem once_calls (A : Option Addr) (c : Nat) (l : List (Int × Int)) (B : Nat) (w0 w : World) (hb : Below B w0 w) (hB : B ≤ w.heap.size) (hl : l.length ≤ 1000) (hx : FetsAt B w0 A l) :
    Calls Try.prog 91 #[.slice A l.length c] w fun e w' => ∃ v, e = .returned v ∧ w'.ownsRow w.heap.size 112 2 v (onceL2 l []).length (fets (onceL2 l [])) ∧ Below w.heap.size w w' := by
  have hg : Enters Try.prog 134 := enters_of Try.func134 (by kernel_rfl) rfl
  have hcf := fun (nb : Nat) (k : Int) (Ao : Option Addr) (co : Nat) (out : List (Int × Int)) (w1 : World) (x0 : w1.cell? ⟨nb, 0, none⟩ = some (.int .i64 k)) (hnb : nb < w1.heap.size) (ho : FetsAt w1.heap.size w1 Ao out) (hol : out.length ≤ maxLen) =>
    fcontainsFunc_calls (fun g => g.1 == k) 134 #[] #[.pointer (some ⟨nb, 0, none⟩)] hg Ao co out w1.heap.size w1 w1 (Below.refl _ _) (Nat.le_refl _) hol ho (fun x w' _ hw => by
      simpa using once1f_calls nb x k w' ((hw.cell (p := ⟨nb, 0, none⟩) hnb).trans x0) (Nat.lt_of_lt_of_le hnb hw.size))
  obtain ⟨R, hR⟩ : ∃ R, onceL2 l [] = R := ⟨_, rfl⟩
  rw [hR]
  replace hcf := Lib.hid hcf
  replace hx := Lib.hid hx
  replace hb := Lib.hid hb
  replace hR := Lib.hid hR
  replace hg := Lib.hid hg
  go_enter Try.func91, Try.ntmps91
  go_wp2_with fail
  go_loopw [3, 5, 8] (fun o _ i wr => ∃ (j : Nat) (out : List (Int × Int)), j ≤ l.length ∧ i = .int .i64 j ∧ out.length ≤ j ∧ Hid (wr.ownsRow w.heap.size 112 2 o out.length (fets out)) ∧ Hid (Below w.heap.size w wr) ∧ Hid (onceL2 l [] = onceL2 (l.drop j) out)) (fun _ _ i _ => l.length - (intOf i).toNat)
  case atStart => exact ⟨0, [], Nat.zero_le _, rfl, Nat.le_refl _, Lib.hid (World.ownsRow_nil _ _ _ _), Lib.hid (Below.refl _ _), Lib.hid rfl⟩
  case round =>
    obtain ⟨j, out, hj, rfl, hol, hown, hw, he⟩ := hrel
    by_cases hlt : j < l.length
    · have he2 := he.out
      rw [List.drop_eq_getElem_cons hlt, onceL2] at he2
      obtain ⟨b, o, rfl, hbb, y0, y1⟩ := hx.out.at (below_up' hb.out hB hw.out) (Nat.le_trans hB hw.out.size) j hlt
      generalize l[j] = f at *
      obtain ⟨k, v⟩ := f
      dsimp only at y0 y1 he2
      obtain ⟨Ao, co, rfl, ho1, ho2, hf3⟩ := fets_own hown.out
      have ho2' := Nat.le_trans ho1 ho2
      replace ho2' := Lib.hid ho2'
      replace hf3 := Lib.hid hf3
      have hwz := hw.out.size
      have hnew := heap_alloc_new wr (.cells #[.int .i64 k, .int .i64 v] 112 (0, 0))
      replace he2 := Lib.hid he2
      unfold maxLen at ho2
      clear he
      go_wp2_with fail
      refine (hcf.out wr.heap.size k Ao co out _ ((cellm hnew 0).trans rfl) (block_lt hnew) (hf3.out.up (below_al (Below.refl _ _) _) (by simp)) ho2'.out).mono ?_
      rintro e w5 ⟨rfl, h5⟩
      have hnb5 := (h5.block _ (block_lt hnew)).trans hnew
      have x0 : w5.cell? ⟨wr.heap.size, 0, none⟩ = some (.int .i64 k) := (cellm hnb5 0).trans rfl
      have x1 : w5.cell? ⟨wr.heap.size, 1, none⟩ = some (.int .i64 v) := (cellm hnb5 1).trans rfl
      have hlt5 := block_lt hnb5
      have h6 := (below_al (Below.refl wr.heap.size wr) (.cells #[.int .i64 k, .int .i64 v] 112 (0, 0))).trans (h5.mono (by simp))
      have hown5 := ownsRow_block hown.out (fun i hi => h6.block i (hown.out.lt i hi).2)
      have hw5 := hw.out.trans (h6.mono hwz)
      replace hown5 := Lib.hid hown5
      replace hw5 := Lib.hid hw5
      clear h5 h6 hnb5 hnew hf3 hown hw y0 y1
      cases hany : (out.any fun g => g.1 == k) with
      | true =>
        have he3 := he2.out
        simp only [hany, if_true] at he3
        replace he3 := Lib.hid he3
        clear he2
        go_wp2_with fail
        go_roundw
        case rel => exact ⟨j + 1, out, by omega, by go_num, by omega, hown5, hw5, he3⟩
        case measure => simp [intOf]; omega
      | false =>
        have he3 := he2.out
        simp only [hany] at he3
        replace he3 := Lib.hid he3
        clear he2
        go_wp2_with (at_builtin; go_loud (with_reducible refine wpList_app1 (by rfl) (.tmp 16) (.tmp 18) 73 (by rfl) fetTy w.heap.size (.slice Ao out.length co) out.length (fets out) (by with_unfolding_all rfl) (hown5.out.alloc _) w5.heap.size 1 [.int .i64 k, .int .i64 v] (by with_unfolding_all rfl) (by with_unfolding_all rfl) ⟨_, _, heap_alloc_new w5 _, rfl⟩ (one_fet _ _) ?_ ?_ ?_ ?_))
        · unfold maxLen; omega
        · omega
        · have := hw5.out.size; simp; omega
        intro g7 cap w7 hown7 hgrow7 hat7
        have hw7 := (hw5.out.alloc hw5.out.size _).grown hgrow7 (by have := hw5.out.size; simp; omega) (fun i hi => (hown5.out.lt i hi).1)
        have hown7' : w7.ownsRow w.heap.size 112 2 (.slice (some ⟨g7, 0, none⟩) (out.length + 1) cap) (out ++ [(k, v)]).length (fets (out ++ [(k, v)])) := by
          rw [fets_append, List.length_append, List.length_singleton]; exact hown7
        replace hw7 := Lib.hid hw7
        replace hown7' := Lib.hid hown7'
        clear hown7 hgrow7 hat7
        go_wp2_with fail
        go_roundw
        case rel => exact ⟨j + 1, out ++ [(k, v)], by omega, by go_num, by simp; omega, hown7', hw7, he3⟩
        case measure => simp [intOf]; omega
    · have hd : l.drop j = [] := List.drop_eq_nil_of_le (by omega)
      have he2 := he.out
      rw [hd, onceL2] at he2
      replace he2 := Lib.hid he2
      replace hd := Lib.hid hd
      clear he
      go_wp2_with fail
      go_ret
      rw [← hR.out, he2.out]
      exact ⟨_, rfl, hown.out, hw.out⟩

set_option maxHeartbeats 1000000 in
theorem taskFetches_good (t : Tk) (A : Option Addr) (c : Nat) (xs : List Int) (Ax : Option Addr) (cx B : Nat) (w0 w : World) (hb : Below B w0 w) (hB : B ≤ w.heap.size) (hok : t.ok) (hokT : okT t.enc = true) (hc : t.enc.parts.length ≤ c) (hcm : c ≤ maxLen) (hp : PartsIs B w0 A 0 t.enc.parts)
    (hm : xs.length ≤ maxLen) (hx : IntsAt B w0 Ax xs) (hv : valsOk xs = true) :
    Calls Try.prog 90 #[.agg #[.int .i64 t.enc.kind, .int .i64 t.enc.n, .slice A t.enc.parts.length c], .slice Ax xs.length cx] w fun e w' =>
      ∃ v, e = .returned (.tuple #[v, .bool true]) ∧ w'.ownsRow w.heap.size 112 2 v (fetchedP t xs).2.length (fets (fetchedP t xs).2) ∧ Below w.heap.size w w' := by
  have hc1 := fun w1 (hw : Below w.heap.size w w1) => taskOk_calls t.enc A c B w0 w1 (below_up' hb hB hw) (Nat.le_trans hB hw.size) hc hcm hp
  rw [hokT] at hc1
  have hc2 := fun w1 (hw : Below w.heap.size w w1) => valuesOk_calls Ax cx xs B w0 w1 (below_up' hb hB hw) (Nat.le_trans hB hw.size) hm hx
  rw [hv] at hc2
  have hc3 := fun w1 (hw : Below w.heap.size w w1) => fetched_calls t A c xs Ax cx B w0 w1 (below_up' hb hB hw) (Nat.le_trans hB hw.size) hok (fets_small hokT) hc hp hm hx (vals_iff.1 (Bool.and_eq_true_iff.1 hv).2)
  replace hc1 := Lib.hid hc1
  replace hc2 := Lib.hid hc2
  replace hc3 := Lib.hid hc3
  clear hb hx hp hok hokT hv hcm
  go_enter Try.func90, Try.ntmps90
  go_wp2_with fail
  refine (hc1.out _ (below_al (Below.refl _ _) _)).mono ?_
  rintro e w1 ⟨rfl, h1⟩
  have x0 : w1.cell? ⟨w.heap.size, 0, none⟩ = some (.int .i64 t.enc.kind) := (h1.cell (p := ⟨w.heap.size, 0, none⟩) (by simp)).trans (by simp)
  have x1 : w1.cell? ⟨w.heap.size, 1, none⟩ = some (.int .i64 t.enc.n) := (h1.cell (p := ⟨w.heap.size, 1, none⟩) (by simp)).trans (by simp)
  have x2 : w1.cell? ⟨w.heap.size, 2, none⟩ = some (.slice A t.enc.parts.length c) := (h1.cell (p := ⟨w.heap.size, 2, none⟩) (by simp)).trans (by simp)
  have b1 := below_from h1
  have s1 : w.heap.size < w1.heap.size := by have := h1.size; simp at this; omega
  replace b1 := Lib.hid b1
  clear h1
  go_wp2_with fail
  refine (hc2.out _ b1.out).mono ?_
  rintro e w2 ⟨rfl, h2⟩
  have y0 := kept_cell h2 s1 x0
  have y1 := kept_cell h2 s1 x1
  have y2 := kept_cell h2 s1 x2
  have b2 := below_up b1.out h2
  replace b2 := Lib.hid b2
  clear h2 x0 x1 x2 s1
  go_wp2_with fail
  refine (hc3.out _ b2.out).mono ?_
  rintro e w3 ⟨v, rfl, hown, h3⟩
  have b3 := below_up b2.out h3
  have hown' : w3.ownsRow w.heap.size 112 2 v (fetchedP t xs).2.length (fets (fetchedP t xs).2) := own_low hown b2.out.size
  replace b3 := Lib.hid b3
  replace hown' := Lib.hid hown'
  clear h3 y0 y1 y2 hown
  go_wp2_with fail
  go_ret2
  exact ⟨_, rfl, hown'.out, b3.out⟩

set_option maxHeartbeats 2000000 in
theorem taskUses_good (t : Tk) (A : Option Addr) (c : Nat) (xs : List Int) (Ax : Option Addr) (cx B : Nat) (w0 w : World) (hb : Below B w0 w) (hB : B ≤ w.heap.size) (hok : t.ok) (hokT : okT t.enc = true) (hc : t.enc.parts.length ≤ c) (hcm : c ≤ maxLen) (hp : PartsIs B w0 A 0 t.enc.parts)
    (hm : xs.length ≤ maxLen) (hx : IntsAt B w0 Ax xs) (hv : valsOk xs = true) :
    Calls Try.prog 32 #[.agg #[.int .i64 t.enc.kind, .int .i64 t.enc.n, .slice A t.enc.parts.length c], .slice Ax xs.length cx] w fun e w' =>
      ∃ v, e = .returned (.tuple #[v, .bool true]) ∧ w'.ownsRow w.heap.size 3 1 v (usesP t xs).length (ints (usesP t xs)) ∧ Below w.heap.size w w' := by
  have hc1 := fun w1 (hw : Below w.heap.size w w1) => taskFetches_good t A c xs Ax cx B w0 w1 (below_up' hb hB hw) (Nat.le_trans hB hw.size) hok hokT hc hcm hp hm hx hv
  have hfl := fetched_length t xs
  have hfs := fets_small hokT
  have hmap := once_map (fetchedP t xs).2 []
  have hus : usesP t xs = usesL (fetchedP t xs).2 [] := rfl
  rw [hus, show ([] : List Int) = ([] : List (Int × Int)).map Prod.fst from rfl, ← hmap]
  have hll := onceL2_length (fetchedP t xs).2 []
  generalize (fetchedP t xs).2 = l at *
  have hlen : l.length ≤ 100 := by omega
  have hc2 := fun (Al : Option Addr) (cl : Nat) (w1 : World) (h : FetsAt w1.heap.size w1 Al l) => once_calls Al cl l w1.heap.size w1 w1 (Below.refl _ _) (Nat.le_refl _) (by omega) h
  generalize onceL2 l [] = r at *
  have hrl : r.length ≤ 100 := by simp at hll; omega
  obtain ⟨R, hR⟩ : ∃ R, r.map Prod.fst = R := ⟨_, rfl⟩
  rw [hR]
  replace hc1 := Lib.hid hc1
  replace hc2 := Lib.hid hc2
  replace hR := Lib.hid hR
  clear hb hx hp hok hokT hv hcm hfl hfs hmap hus hll hc
  go_enter Try.func32, Try.ntmps32
  go_wp2_with fail
  refine (hc1.out _ (below_al (Below.refl _ _) _)).mono ?_
  rintro e w1 ⟨v1, rfl, hown1, h1⟩
  have b1 := below_from h1
  obtain ⟨A1, c1, rfl, -, -, hf1⟩ := fets_own hown1
  have hcall := hc2.out A1 c1 w1 hf1
  replace b1 := Lib.hid b1
  replace hcall := Lib.hid hcall
  clear h1 hown1 hf1 hc1 hc2
  go_wp2_with fail
  refine hcall.out.mono ?_
  rintro e w2 ⟨v2, rfl, hown2, h2⟩
  have b2 := below_up b1.out h2
  obtain ⟨A2, c2, rfl, hr1, hr2, hf2⟩ := fets_own hown2
  unfold maxLen at hr2
  replace b2 := Lib.hid b2
  replace hf2 := Lib.hid hf2
  clear h2 hown2 hcall
  go_wp2_with fail
  go_loopw [8, 10, 20] (fun o _ i wr => ∃ (j : Nat), j ≤ r.length ∧ i = .int .i64 j ∧ Hid (wr.ownsRow w2.heap.size 3 1 o j (ints ((r.take j).map Prod.fst))) ∧ Hid (Below w2.heap.size w2 wr)) (fun _ _ i _ => r.length - (intOf i).toNat)
  case atStart => exact ⟨0, Nat.zero_le _, rfl, Lib.hid (World.ownsRow_nil _ _ _ _), Lib.hid (Below.refl _ _)⟩
  case round =>
    obtain ⟨j, hj, rfl, hown, hw2⟩ := hrel
    by_cases hlt : j < r.length
    · obtain ⟨b, o, rfl, hbb, y0, y1⟩ := hf2.out.at hw2.out hw2.out.size j hlt
      have htk : (r.take (j + 1)).map Prod.fst = (r.take j).map Prod.fst ++ [r[j].1] := by rw [List.take_succ_eq_append_getElem hlt, List.map_append]; rfl
      generalize r[j] = f at *
      obtain ⟨k, v⟩ := f
      dsimp only at y0 y1 htk
      have hwz := hw2.out.size
      replace htk := Lib.hid htk
      go_wp2_with (at_builtin; go_loud (with_reducible refine wpList_app1 (by rfl) (.tmp 24) (.tmp 27) 26 (by rfl) intTy w2.heap.size u8 j (ints ((r.take j).map Prod.fst)) (by with_unfolding_all rfl) ((hown.out.alloc _).alloc _) (wr.heap.size + 1) 1 [.int .i64 k] (by with_unfolding_all rfl) (by with_unfolding_all rfl) ⟨_, _, heap_new (by simp), rfl⟩ (one_int _ _) ?_ ?_ ?_ ?_))
      · unfold maxLen; omega
      · omega
      · simp; omega
      intro g7 cap w7 hown7 hgrow7 hat7
      have hal2 := below_al (below_al (Below.refl wr.heap.size wr) (.cells #[.int .i64 k, .int .i64 v] 112 (0, 0))) (.cells #[.int .i64 k] 3 (0, 0))
      have hw27 : Below w2.heap.size w2 w7 := (hw2.out.trans (hal2.mono hwz)).grown hgrow7 (by simp; omega) (fun i hi => (hown.out.lt i hi).1)
      have hown7' : w7.ownsRow w2.heap.size 3 1 (.slice (some ⟨g7, 0, none⟩) (j + 1) cap) (j + 1) (ints ((r.take (j + 1)).map Prod.fst)) := by
        rw [htk.out, ints_append, List.map_take]; exact hown7
      replace hw27 := Lib.hid hw27
      replace hown7' := Lib.hid hown7'
      clear hown7 hgrow7 hat7 hal2
      go_wp2_with fail
      go_roundw
      case rel => exact ⟨j + 1, by omega, by go_num, hown7', hw27⟩
      case measure => simp [intOf]; omega
    · have hje : j = r.length := by omega
      subst hje
      have hown' := own_low hown.out b2.out.size
      have hw := b2.out.trans (hw2.out.mono b2.out.size)
      replace hw := Lib.hid hw
      rw [List.take_length, hR.out] at hown'
      have hRl : r.length = R.length := by rw [← hR.out, List.length_map]
      rw [hRl] at hown'
      replace hown' := Lib.hid hown'
      clear hown
      go_wp2_with fail
      go_ret2
      exact ⟨_, rfl, hown'.out, hw.out⟩
end Go.Proofs.Ytpccgdkidnkppaa
