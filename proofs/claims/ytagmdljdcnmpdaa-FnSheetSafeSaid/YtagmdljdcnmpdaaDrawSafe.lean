import Derived.Test.YtagmdljdcnmpdaaDrawAll
set_option linter.unusedVariables false
set_option linter.unusedSimpArgs false
namespace Go.Proofs.Ytagmdljdcnmpdaa
open Go Go.RowKit

/-- what a draw of a sheet alone brings -/
def DrawSafeP (w : World) (e : Ending) (w' : World) : Prop :=
  ∃ Am cm At ct made tasks, e = .returned (.agg #[.slice Am made.length cm, .slice At tasks.length ct]) ∧ SheetAt w'.heap.size w' Am cm At ct made tasks ∧ tasks.length = made.length ∧ made.length ≤ 8 ∧ (∀ T ∈ tasks, nodes T ≤ 13) ∧ Below w.heap.size w w'
theorem safe_of {g B lo : Nat} {G : Rows} {made : List Bool} {ts : List (Value × Value × Value)} {vm vt : Value} {w w2 : World} (h : Sht g B lo G made ts vm vt w2) (h1 : made.length = ts.length) (h2 : made.length ≤ 8) (hb : Below w.heap.size w w2) : DrawSafeP w (.returned (.agg #[vm, vt])) w2 := by
  obtain ⟨Am, cm, At, ct, tasks, rfl, rfl, e3, e4, e5⟩ := h.reads
  exact ⟨Am, cm, At, ct, made, tasks, rfl, e4, by omega, h2, fun T hT => by have := e5 T hT; simpa [nb] using this, hb⟩
theorem ret_sheet {fn : Func} {t : Nat} {tmps : Array Value} {Q : Ending → World → Prop} {W : World} {m : Nat} {a b : Value} (hr : fn.results = #[.cell t 26])
    (ht : tmps.getD t undef = .pointer (some ⟨m, 0, none⟩)) (hW : W.heap[m]? = some (.cells #[a, b] 26 (0, 0))) (K : Q (.returned (.agg #[a, b])) W) : bodyPost Try.prog fn Q .ret ⟨tmps, []⟩ W := by
  have y0 : W.cell? ⟨m, 0, none⟩ = some a := cellm hW 0
  have y1 : W.cell? ⟨m, 1, none⟩ = some b := cellm hW 1
  refine bodyPost_ret (v := .agg #[a, b]) ?_ rfl K
  have ht' : tmps[t]?.getD undef = .pointer (some ⟨m, 0, none⟩) := by simpa using ht
  simp [results, hr, ht', go_sem, y0, y1]

set_option maxHeartbeats 2000000 in
theorem drawSheetSafe_calls (A : Option Addr) (c : Nat) (bytes : List Int) (B : Nat) (w0 w : World) (hb : Below B w0 w) (hB : B ≤ w.heap.size) (hx : RowAt (fun b : Int => Value.int .u8 b) B w0 A bytes) (hl : bytes.length ≤ c) (hc : c ≤ maxLen) (hby : ∀ b ∈ bytes, 0 ≤ b ∧ b ≤ 255) :
    Calls Try.prog 15 #[.slice A bytes.length c] w (DrawSafeP w) := by
  have h0 := l6Open_calls A c bytes B w0 (w.alloc (.cells #[.slice none 0 0, .slice none 0 0] 26 (0, 0))) (below_al' hb _ hB) (by simp; omega) hx hl hc hby
  replace h0 := Lib.hid h0
  clear hb hx hby hl hc
  go_enter Try.func15, Try.ntmps15
  go_wp2_with fail
  refine h0.out.mono ?_
  rintro e w1 ⟨R, rfl, hR, hRB, hRw, hRg, hrd, hb1⟩
  have h1 := l91Sheet_calls R hR 0 (by omega) w1 hrd
  have hgl := block_lt hrd.blk
  have hres1 := (hb1.block w.heap.size (by simp)).trans (heap_new rfl)
  have hz1 : w.heap.size < w1.heap.size := by have := hb1.size; simp at this; omega
  have hg0 : w.heap.size < R.g := by simp at hRg; omega
  have hbw := below_from hb1
  replace h1 := Lib.hid h1
  clear hb1 h0 hRg
  go_wp2_with fail
  refine h1.out.mono ?_
  rintro e w2 ⟨p2, G, made, ts, vm, vt, rfl, hml, hm8, hm2, hp0, hp2, hrd2, ht2, hsh2⟩
  replace hml := Lib.hid hml
  obtain ⟨Am, cm, rfl, -⟩ := ownsRow_cells hsh2.om
  obtain ⟨At, ct, rfl, -⟩ := ownsRow_cells hsh2.ot
  have hz2 : w1.heap.size ≤ w2.heap.size := ht2.size
  have hres2 := (ht2.block _ hz1 (fun e => by omega)).trans hres1
  have hbw2 : Below w.heap.size w w2 := hbw.trans (ht2.below (Nat.le_of_lt hz1) (fun i e => by cases e; omega))
  have y0 : w2.cell? ⟨w.heap.size, 0, none⟩ = some (.slice none 0 0) := cellm hres2 0
  have y1 : w2.cell? ⟨w.heap.size, 1, none⟩ = some (.slice none 0 0) := cellm hres2 1
  have f0 : w2.frozen? ⟨w.heap.size, 0, none⟩ = false := frozenm hres2 0
  have f1 : w2.frozen? ⟨w.heap.size, 1, none⟩ = false := frozenm hres2 1
  have hzz : w.heap.size < w2.heap.size := by omega
  have hset := fun o v (W : World) (h : Sht R.g R.B w1.heap.size G made ts (.slice Am made.length cm) (.slice At ts.length ct) W) => h.set (b := w.heap.size) o v (fun e => by have := (h.om.lt _ e).1; omega) (fun e => by have := (h.ot.lt _ e).1; omega) (fun x hx => by have := h.new _ x hx; omega)
  have h3 := hset 1 (.slice At ts.length ct) _ (hset 0 (.slice Am made.length cm) _ hsh2)
  have h4 := h3.pick (below_turn (below_al (Below.refl _ _) (.cells #[.slice Am made.length cm, .slice At ts.length ct] 26 (0, 0)))) (by rw [World.size_setCell, World.size_setCell]; exact hz2)
  have hW := setCell_block (setCell_block hres2 0 (.slice Am made.length cm)) 1 (.slice At ts.length ct)
  have hbw3 := (hbw2.setCell (p := ⟨w.heap.size, 0, none⟩) (Nat.le_refl _) (.slice Am made.length cm)).setCell (p := ⟨w.heap.size, 1, none⟩) (Nat.le_refl _) (.slice At ts.length ct)
  have hbw4 := below_al' hbw3 (.cells #[.slice Am made.length cm, .slice At ts.length ct] 26 (0, 0)) (by rw [World.size_setCell, World.size_setCell]; omega)
  have hW4 := (heap_old (o := .cells #[.slice Am made.length cm, .slice At ts.length ct] 26 (0, 0)) (by rw [World.size_setCell, World.size_setCell]; exact hzz)).trans hW
  have hfin := safe_of h4 hml.out hm8 hbw4
  replace hfin := Lib.hid hfin
  replace hW4 := Lib.hid hW4
  clear h1 hsh2 hset h3 h4 hW hbw3 hbw4 hbw2 hres2 ht2
  go_wp2_with fail
  exact ret_sheet rfl rfl (hW4.out.trans rfl) hfin.out
end Go.Proofs.Ytagmdljdcnmpdaa
