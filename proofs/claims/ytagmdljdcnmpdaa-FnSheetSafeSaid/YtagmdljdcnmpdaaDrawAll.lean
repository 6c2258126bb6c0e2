import Derived.Test.YtagmdljdcnmpdaaDrawKey
set_option linter.unusedVariables false
set_option linter.unusedSimpArgs false
namespace Go.Proofs.Ytagmdljdcnmpdaa
open Go Go.RowKit

theorem ret_sheet1 {fn : Func} {t u : Nat} {tmps : Array Value} {Q : Ending → World → Prop} {W : World} {m : Nat} {a b x : Value} (hr : fn.results = #[.cell t 26, .tmp u])
    (ht : tmps.getD t undef = .pointer (some ⟨m, 0, none⟩)) (hu : tmps.getD u undef = x) (hW : W.heap[m]? = some (.cells #[a, b] 26 (0, 0))) (K : Q (.returned (.tuple #[.agg #[a, b], x])) W) : bodyPost Try.prog fn Q .ret ⟨tmps, []⟩ W := by
  have y0 : W.cell? ⟨m, 0, none⟩ = some a := cellm hW 0
  have y1 : W.cell? ⟨m, 1, none⟩ = some b := cellm hW 1
  refine bodyPost_ret (v := .tuple #[.agg #[a, b], x]) ?_ rfl K
  have ht' : tmps[t]?.getD undef = .pointer (some ⟨m, 0, none⟩) := by simpa using ht
  have hu' : tmps[u]?.getD undef = x := by simpa using hu
  simp [results, hr, ht', hu', go_sem, y0, y1]

/-- what a draw of a sheet and inputs brings -/
def DrawAllP (w : World) (e : Ending) (w' : World) : Prop :=
  ∃ Am cm At ct made tasks Ai ci inputs, e = .returned (.tuple #[.agg #[.slice Am made.length cm, .slice At tasks.length ct], .slice Ai inputs.length ci]) ∧ ArgsAt w' Am cm At ct made tasks Ai ci inputs ∧ Below w.heap.size w w'
theorem ShIn.all {g B lo lo2 : Nat} {G : Rows} {made : List Bool} {ts : List (Value × Value × Value)} {vm vt vi : Value} {xs : List Int} {w w2 : World} (h : ShIn g B lo lo2 G made ts vm vt vi xs w2) (h1 : made.length = ts.length) (h2 : made.length ≤ 8) (h3 : xs.length ≤ 9) (hb : Below w.heap.size w w2) :
    DrawAllP w (.returned (.tuple #[.agg #[vm, vt], vi])) w2 := by
  obtain ⟨Am', cm', At', ct', tasks, Ai', ci', rfl, rfl, rfl, ha⟩ := h.args h1 h2 h3
  exact ⟨Am', cm', At', ct', made, tasks, Ai', ci', xs, rfl, ha, hb⟩

set_option maxHeartbeats 2000000 in
theorem drawBuildAll_calls (A : Option Addr) (c : Nat) (bytes : List Int) (B : Nat) (w0 w : World) (hb : Below B w0 w) (hB : B ≤ w.heap.size) (hx : RowAt (fun b : Int => Value.int .u8 b) B w0 A bytes) (hl : bytes.length ≤ c) (hc : c ≤ maxLen) (hby : ∀ b ∈ bytes, 0 ≤ b ∧ b ≤ 255) :
    Calls Try.prog 18 #[.slice A bytes.length c] w (DrawAllP w) := by
  have h0 := l6Open_calls A c bytes B w0 (w.alloc (.cells #[.slice none 0 0, .slice none 0 0] 26 (0, 0))) (below_al' hb _ hB) (by simp; omega) hx hl hc hby
  replace h0 := Lib.hid h0
  clear hb hx hby hl hc
  go_enter Try.func18, Try.ntmps18
  go_wp2_with fail
  refine h0.out.mono ?_
  rintro e w1 ⟨R, rfl, hR, hRB, hRw, hRg, hrd, hb1⟩
  have h1 := l91Sheet_calls R hR 0 (by omega) w1 hrd
  have hgl := block_lt hrd.blk
  have hres1 := (hb1.block w.heap.size (by simp)).trans (heap_new rfl)
  have hz1 : w.heap.size < w1.heap.size := by have := hb1.size; simp at this; omega
  have hg0 : w.heap.size < R.g := by simp at hRg; omega
  have hbw := below_from hb1
  replace h1 := Lib.hid h1
  clear hb1 h0 hRg
  go_wp2_with fail
  refine h1.out.mono ?_
  rintro e w2 ⟨p2, G, made, ts, vm, vt, rfl, hml, hm8, hm2, hp0, hp2, hrd2, ht2, hsh2⟩
  replace hml := Lib.hid hml
  obtain ⟨Am, cm, rfl, -⟩ := ownsRow_cells hsh2.om
  obtain ⟨At, ct, rfl, -⟩ := ownsRow_cells hsh2.ot
  have hz2 : w1.heap.size ≤ w2.heap.size := ht2.size
  have hres2 := (ht2.block _ hz1 (fun e => by omega)).trans hres1
  have hbw2 : Below w.heap.size w w2 := hbw.trans (ht2.below (Nat.le_of_lt hz1) (fun i e => by cases e; omega))
  have hal := below_al (Below.refl _ w2) (.cells #[.slice Am made.length cm, .slice At ts.length ct] 26 (0, 0))
  have h2 := l91Inputs_calls R hR p2 (by omega) Am At made.length cm ts.length ct _ (hrd2.up hal) (by omega)
  have hsh3 := hsh2.pick (below_turn hal) hz2
  have hres3 := (hal.block _ (by omega)).trans hres2
  have hbw3 : Below w.heap.size w _ := hbw2.trans (hal.mono (by omega))
  have hbox3 := heap_alloc_new w2 (.cells #[.slice Am made.length cm, .slice At ts.length ct] 26 (0, 0))
  replace h2 := Lib.hid h2
  clear h1 hrd2 ht2 hsh2 hres2 hbw2 hal hbw hres1 hrd
  go_wp2_with fail
  refine h2.out.mono ?_
  rintro e w3 ⟨p3, xs, vi, rfl, hxl, hp3, hp3', hrd3, ht3, hown3⟩
  obtain ⟨Ai, ci, rfl, -⟩ := ownsRow_ints hown3
  have hsi : ShIn R.g R.B w1.heap.size (w2.heap.size + 1) G made ts _ _ _ xs w3 := ⟨hsh3.pick ht3 (by simp; omega), by simpa using hown3, by omega⟩
  have hres4 := (ht3.block _ (by simp; omega) (fun e => by omega)).trans hres3
  have hbox4 := (ht3.block _ (by simp) (fun e => by omega)).trans hbox3
  have hbw4 : Below w.heap.size w w3 := hbw3.trans (ht3.below (by simp; omega) (fun i e => by cases e; omega))
  have hz3 : w2.heap.size < w3.heap.size := by have := ht3.size; simp at this; omega
  clear h2 hsh3 hres3 hbw3 hbox3 ht3 hown3 hrd3
  have hsi4 := hsi
  have hres := hres4
  have hbox := hbox4
  have hbw := hbw4
  have hz4 : w3.heap.size ≤ w3.heap.size := Nat.le_refl _
  clear hsi hres4 hbox4 hbw4
  have x0 : w3.cell? ⟨w2.heap.size, 0, none⟩ = some (.slice Am made.length cm) := cellm hbox 0
  have x1 : w3.cell? ⟨w2.heap.size, 1, none⟩ = some (.slice At ts.length ct) := cellm hbox 1
  have y0 : w3.cell? ⟨w.heap.size, 0, none⟩ = some (.slice none 0 0) := cellm hres 0
  have y1 : w3.cell? ⟨w.heap.size, 1, none⟩ = some (.slice none 0 0) := cellm hres 1
  have f0 : w3.frozen? ⟨w.heap.size, 0, none⟩ = false := frozenm hres 0
  have f1 : w3.frozen? ⟨w.heap.size, 1, none⟩ = false := frozenm hres 1
  have hsi5 := (hsi4.set (show w.heap.size < w1.heap.size by omega) (show w.heap.size < w2.heap.size + 1 by omega) 0 (.slice Am made.length cm)).set (show w.heap.size < w1.heap.size by omega) (show w.heap.size < w2.heap.size + 1 by omega) 1 (.slice At ts.length ct)
  have hbw5 := (hbw.setCell (p := ⟨w.heap.size, 0, none⟩) (Nat.le_refl _) (.slice Am made.length cm)).setCell (p := ⟨w.heap.size, 1, none⟩) (Nat.le_refl _) (.slice At ts.length ct)
  have hW := setCell_block (setCell_block hres 0 (.slice Am made.length cm)) 1 (.slice At ts.length ct)
  have hfin := hsi5.all hml.out hm8 (by omega) hbw5
  replace hfin := Lib.hid hfin
  replace hW := Lib.hid hW
  have z9 : w2.heap.size < w3.heap.size := by omega
  clear hsi4 hsi5 hbw5 hbw hbox hres
  go_wp2_with fail
  exact ret_sheet1 rfl rfl rfl (hW.out.trans rfl) hfin.out
end Go.Proofs.Ytagmdljdcnmpdaa
