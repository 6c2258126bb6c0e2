import Derived.Test.YtkbblekengdhaaaPk1Told
import Derived.Test.YtkbblekengdhaaaPk2Told
set_option linter.unusedVariables false
set_option linter.unusedSimpArgs false
namespace Go.Proofs.Ytkbblekengdhaaa
open Go Go.RowKit

/-- the tape: what a task has been given, how many of them it has taken, the key of the fetch behind them -/
structure TapeAt (B : Nat) (w0 : World) (pb : Nat) (got : List Int) (A : Option Addr) (c : Nat) (s : Nat × Int) (w : World) : Prop where
  blk : w.heap[pb]? = some (.cells #[.slice A got.length c, .int .i64 s.1, .int .i64 s.2] 151 (0, 0))
  row : IntsAt B w0 A got
  vals : ∀ x ∈ got, 0 ≤ x ∧ x ≤ 96
  at_ : s.1 ≤ got.length
  small : got.length ≤ 1000000
  low : B ≤ pb
  below : Below B w0 w
  size : B ≤ w.heap.size
theorem TapeAt.drew {B : Nat} {w0 : World} {pb : Nat} {got : List Int} {A : Option Addr} {c : Nat} {s : Nat × Int} {w : World} (h : TapeAt B w0 pb got A c s w) : TapeAt B w0 pb got A c s w.drew := ⟨h.blk, h.row, h.vals, h.at_, h.small, h.low, h.below.drew, h.size⟩
def TapeI (B : Nat) (w0 : World) (pb : Nat) (got : List Int) (A : Option Addr) (c : Nat) (s : Nat × Int) (w : World) (F : Nat → Prop) : Prop := TapeAt B w0 pb got A c s w ∧ F = (· = pb)
theorem TapeI.holds (B : Nat) (w0 : World) (pb : Nat) (got : List Int) (A : Option Addr) (c : Nat) : Holds (TapeI B w0 pb got A c) B w0 where
  old := by
    rintro s w F ⟨h, rfl⟩
    exact ⟨h.below, h.size⟩
  own := by
    rintro s w F ⟨h, rfl⟩ i rfl
    exact ⟨h.low, block_lt h.blk⟩
  alloc := by
    rintro s w F o ⟨h, rfl⟩
    exact ⟨⟨(heap_old (block_lt h.blk)).trans h.blk, h.row, h.vals, h.at_, h.small, h.low, below_al' h.below o h.size, by have := h.size; simp; omega⟩, rfl⟩

set_option maxHeartbeats 1000000 in
theorem get_calls (B : Nat) (w0 : World) (pb : Nat) (got : List Int) (A : Option Addr) (c : Nat) (s : Nat × Int) (k : Int) (w : World) (F : Nat → Prop) (h : TapeI B w0 pb got A c s w F) :
    Calls Try.prog 154 #[.pointer (some ⟨pb, 0, none⟩), .int .i64 k] w (Gives (TapeI B w0 pb got A c) F w (tapeF got s k)) := by
  obtain ⟨h, rfl⟩ := h
  obtain ⟨i, l⟩ := s
  have x0 : w.cell? ⟨pb, 0, none⟩ = some (.slice A got.length c) := cellm h.blk 0
  have x1 : w.cell? ⟨pb, 1, none⟩ = some (.int .i64 i) := cellm h.blk 1
  have x2 : w.cell? ⟨pb, 2, none⟩ = some (.int .i64 l) := cellm h.blk 2
  have f1 : w.frozen? ⟨pb, 1, none⟩ = false := frozenm h.blk 1
  have f2 : w.frozen? ⟨pb, 2, none⟩ = false := frozenm h.blk 2
  have z := block_lt h.blk
  have hat := h.at_
  have hsm := h.small
  simp only at hat
  by_cases hi : i = got.length
  · have e : tapeF got (i, l) k = ((0, false), (i, k)) := by simp [tapeF, hi]
    have hset : TapeAt B w0 pb got A c (i, k) (w.setCell ⟨pb, 2, none⟩ (.int .i64 k)) ∧ Turn (· = pb) (· = pb) w (w.setCell ⟨pb, 2, none⟩ (.int .i64 k)) := by
      have t : Turn (· = pb) (· = pb) w (w.setCell ⟨pb, 2, none⟩ (.int .i64 k)) := setCell_turn (F := (· = pb)) rfl _
      exact ⟨⟨(setCell_block h.blk 2 _).trans rfl, h.row, h.vals, h.at_, h.small, h.low, h.below.trans (t.below h.size (fun i e => by cases e; exact h.low)), Nat.le_trans h.size t.size⟩, t⟩
    rw [e]
    clear e
    subst hi
    replace h := Lib.hid h
    replace hset := Lib.hid hset
    go_enter Try.func154, Try.ntmps154
    go_wp2_with fail
    go_region
    go_wp2_with fail
    go_ret2
    exact ⟨rfl, by simp, by simp, _, ⟨hset.out.1.drew, rfl⟩, hset.out.2.drew⟩
  · have hlt : i < got.length := by omega
    have e : tapeF got (i, l) k = ((got[i], true), (i + 1, l)) := by simp [tapeF, hi, hlt]
    have hv := h.vals got[i] (List.getElem_mem _)
    obtain ⟨g, o, rfl, hg, hc⟩ := h.row.at h.below h.size i hlt
    have hgp : g ≠ pb := by
      intro e
      obtain ⟨b', o', e', hb', _⟩ := h.row i hlt
      cases e'
      have := h.low; omega
    have e1 : ((i + 1 : Nat) : Int) = (i : Int) + 1 := by omega
    have hset : TapeAt B w0 pb got (some ⟨g, o, none⟩) c (i + 1, l) (w.setCell ⟨pb, 1, none⟩ (.int .i64 ((i : Int) + 1))) ∧ Turn (· = pb) (· = pb) w (w.setCell ⟨pb, 1, none⟩ (.int .i64 ((i : Int) + 1))) := by
      have t : Turn (· = pb) (· = pb) w (w.setCell ⟨pb, 1, none⟩ (.int .i64 ((i : Int) + 1))) := setCell_turn (F := (· = pb)) rfl _
      exact ⟨⟨by have := setCell_block h.blk 1 (.int .i64 ((i : Int) + 1)); rw [← e1] at this ⊢; exact this.trans rfl, h.row, h.vals, hlt, h.small, h.low, h.below.trans (t.below h.size (fun i e => by cases e; exact h.low)), Nat.le_trans h.size t.size⟩, t⟩
    have hne : ((i : Int) == (got.length : Int)) = false := by simp; omega
    rw [e]
    clear e
    replace h := Lib.hid h
    replace hset := Lib.hid hset
    go_enter Try.func154, Try.ntmps154
    go_wp2_with fail
    go_region
    go_wp2_with fail
    go_region
    go_wp2_with fail
    go_ret2
    exact ⟨rfl, hv.1, hv.2, _, ⟨hset.out.1.drew.drew, rfl⟩, hset.out.2.drew.drew⟩

set_option maxHeartbeats 1000000 in
/-- a task that is done with a fetch that keeps I -/
theorem do_callsN {σ : Type} (I : Nat → σ → World → (Nat → Prop) → Prop) (f : σ → Int → (Int × Bool) × σ) (pb : Nat) (B : Nat) (w0 : World)
    (hI : ∀ n, Holds (I n) B w0) (hmono : ∀ n s w F, I (n + 1) s w F → I n s w F)
    (hf : ∀ n s k w F, I (n + 1) s w F → 0 ≤ k → k ≤ 9 → Calls Try.prog 154 #[.pointer (some ⟨pb, 0, none⟩), .int .i64 k] w (Gives (I n) F w (f s k))) :
    ∀ (t : Tk) (u : Nat) (A : Option Addr) (c : Nat) (s : σ) (w : World) (F : Nat → Prop), t.ok → I (u + t.fets) s w F → t.enc.parts.length ≤ c → PartsIs B w0 A 0 t.enc.parts →
      Calls Try.prog 146 #[.agg #[.int .i64 t.enc.kind, .int .i64 t.enc.n, .slice A t.enc.parts.length c], .pointer (some ⟨pb, 0, none⟩)] w (Gives (I u) F w (t.run f s)) := by
  have hdown : ∀ m n s w F, I (n + m) s w F → I n s w F := by
    intro m
    induction m with
    | zero => intro n s w F h; exact h
    | succ m ih => intro n s w F h; exact ih n s w F (hmono _ s w F h)
  intro t
  replace hI := Lib.hid hI
  replace hf := Lib.hid hf
  replace hdown := Lib.hid hdown
  clear hmono
  induction t with
  | num x =>
    intro u A c s w F hok hs hc hp
    replace hs := Lib.hid hs
    simp only [Tk.enc, Task.kind, Task.n, Task.parts, Tk.ok] at hok hc hp ⊢
    go_enter Try.func146, Try.ntmps146
    go_wp2_with fail
    go_ret2
    exact ⟨rfl, hok.1, hok.2, F, (hI.out _).alloc _ _ _ _ hs.out, (Turn.refl F w).alloc _⟩
  | get k =>
    intro u A c s w F hok hs hc hp
    replace hs := Lib.hid hs
    simp only [Tk.enc, Task.kind, Task.n, Task.parts, Tk.ok] at hok hc hp ⊢
    go_enter Try.func146, Try.ntmps146
    go_wp2_with fail
    refine (hf.out u s k _ F ((hI.out _).alloc _ _ _ _ hs.out) hok.1 hok.2).mono ?_
    rintro e w' ⟨rfl, h1, h2, F', h3, h4⟩
    replace h3 := Lib.hid h3
    go_wp2_with fail
    go_ret2
    exact ⟨rfl, h1, h2, F', h3.out, ((Turn.refl F w).alloc _).trans h4⟩
  | add a b iha ihb =>
    intro u A c s w F hok hs hc hp
    replace hs : I (u + b.fets + a.fets) s w F := by
      have e : u + (a.fets + b.fets) = u + b.fets + a.fets := by omega
      exact e ▸ hs
    replace hs := Lib.hid hs
    replace iha := Lib.hid iha
    replace ihb := Lib.hid ihb
    simp only [Tk.enc, Task.kind, Task.n, Task.parts, Tk.ok] at hok hc hp ⊢
    obtain ⟨b0, o0, A0, c0, rfl, hb0, hx0, hy0, hz0, hc0, hm0, hp0⟩ := hp.at ((hI.out _).old _ _ _ hs.out).1 0 (by simp)
    have hlt : b0 < w.heap.size := Nat.lt_of_lt_of_le hb0 ((hI.out _).old _ _ _ hs.out).2
    simp only [List.getElem_cons_zero, Nat.zero_mul, Nat.add_zero] at hx0 hy0 hz0 hc0 hp0
    have hlen : ([a.enc, b.enc] : List Task).length = 2 := rfl
    simp only [hlen] at hc ⊢
    clear hlen
    go_enter Try.func146, Try.ntmps146
    go_wp2_with fail
    refine (iha.out (u + b.fets) A0 c0 s _ F hok.1 ((hI.out _).alloc _ _ _ _ hs.out) hc0 hp0).mono ?_
    rintro e w1 ⟨rfl, v1, v2, F1, h3, h4⟩
    replace h3 := Lib.hid h3
    have t1 := ((Turn.refl F w).alloc _).trans h4
    have hn : ¬ F w.heap.size := fun h => by have := ((hI.out _).own _ _ _ hs.out _ h).2; omega
    have hn1 : ¬ F1 w.heap.size := fun h => (h4.fresh _ h).elim hn (fun h => by simp at h; omega)
    have bx0 : w1.cell? ⟨w.heap.size, 0, none⟩ = some (.int .i64 2) := (h4.cell 0 (by simp) hn).trans (by simp)
    have bx1 : w1.cell? ⟨w.heap.size, 1, none⟩ = some (.int .i64 0) := (h4.cell 1 (by simp) hn).trans (by simp)
    have bx2 : w1.cell? ⟨w.heap.size, 2, none⟩ = some (.slice (some ⟨b0, o0, none⟩) 2 c) := (h4.cell 2 (by simp) hn).trans (by simp)
    have hlt1 : b0 < w1.heap.size := Nat.lt_of_lt_of_le hlt t1.size
    obtain ⟨b1, o1, A1, c1, e1, _, hx1, hy1, hz1, hc1, hm1, hp1⟩ := hp.at ((hI.out _).old _ _ _ h3.out).1 1 (by simp)
    simp only [Option.some.injEq, Addr.mk.injEq, and_true] at e1
    obtain ⟨rfl, rfl⟩ := e1
    simp only [List.getElem_cons_zero, List.getElem_cons_succ, Nat.one_mul, Nat.reduceMul] at hx1 hy1 hz1 hc1 hp1
    replace t1 := Lib.hid t1
    have szl : w.heap.size < w1.heap.size := by have := h4.size; simp at this; omega
    replace hn := Lib.hid hn
    replace hn1 := Lib.hid hn1
    clear h4 hx0 hy0 hz0 hlt
    cases hr : (a.run f s).1.2 with
    | false =>
      go_wp2_with fail
      go_ret2
      exact ⟨by simp [Tk.run, hr], by simp [Tk.run, hr], by simp [Tk.run, hr], F1, by simpa [Tk.run, hr] using hdown.out (b.fets) u _ _ _ (by rw [show u + (b.fets) = u + b.fets from by omega]; exact h3.out), t1.out⟩
    | true =>
      go_wp2_with fail
      refine (ihb.out u A1 c1 _ _ F1 hok.2 h3.out hc1 hp1).mono ?_
      rintro e w2 ⟨rfl, u1, u2, F2, h5, h6⟩
      replace h5 := Lib.hid h5
      have by0 : w2.cell? ⟨w.heap.size, 0, none⟩ = some (.int .i64 2) := (h6.cell 0 szl hn1.out).trans bx0
      replace h6 := Lib.hid h6
      clear bx0 bx1 bx2 hx1 hy1 hz1 hlt1
      cases hq : (b.run f (a.run f s).2).1.2 with
      | false =>
        go_wp2_with fail
        go_ret2
        exact ⟨by simp [Tk.run, hr, hq], by simp [Tk.run, hr, hq], by simp [Tk.run, hr, hq], F2, by simpa [Tk.run, hr, hq] using h5.out, t1.out.trans h6.out⟩
      | true =>
        have hrun : Tk.run f (a.add b) s = ((((a.run f s).1.1 + (b.run f (a.run f s).2).1.1) % 97, true), (b.run f (a.run f s).2).2) := by simp [Tk.run, hr, hq]
        replace hrun := Lib.hid hrun
        generalize (b.run f (a.run f s).2).1.1 = y at *
        generalize (a.run f s).1.1 = x at *
        skip
        go_wp2_with fail
        go_ret2
        rw [hrun.out]
        exact ⟨rfl, by simp only []; omega, by simp only []; omega, F2, h5.out, t1.out.trans h6.out⟩
  | mul a b iha ihb =>
    intro u A c s w F hok hs hc hp
    replace hs : I (u + b.fets + a.fets) s w F := by
      have e : u + (a.fets + b.fets) = u + b.fets + a.fets := by omega
      exact e ▸ hs
    replace hs := Lib.hid hs
    replace iha := Lib.hid iha
    replace ihb := Lib.hid ihb
    simp only [Tk.enc, Task.kind, Task.n, Task.parts, Tk.ok] at hok hc hp ⊢
    obtain ⟨b0, o0, A0, c0, rfl, hb0, hx0, hy0, hz0, hc0, hm0, hp0⟩ := hp.at ((hI.out _).old _ _ _ hs.out).1 0 (by simp)
    have hlt : b0 < w.heap.size := Nat.lt_of_lt_of_le hb0 ((hI.out _).old _ _ _ hs.out).2
    simp only [List.getElem_cons_zero, Nat.zero_mul, Nat.add_zero] at hx0 hy0 hz0 hc0 hp0
    have hlen : ([a.enc, b.enc] : List Task).length = 2 := rfl
    simp only [hlen] at hc ⊢
    clear hlen
    go_enter Try.func146, Try.ntmps146
    go_wp2_with fail
    refine (iha.out (u + b.fets) A0 c0 s _ F hok.1 ((hI.out _).alloc _ _ _ _ hs.out) hc0 hp0).mono ?_
    rintro e w1 ⟨rfl, v1, v2, F1, h3, h4⟩
    replace h3 := Lib.hid h3
    have t1 := ((Turn.refl F w).alloc _).trans h4
    have hn : ¬ F w.heap.size := fun h => by have := ((hI.out _).own _ _ _ hs.out _ h).2; omega
    have hn1 : ¬ F1 w.heap.size := fun h => (h4.fresh _ h).elim hn (fun h => by simp at h; omega)
    have bx0 : w1.cell? ⟨w.heap.size, 0, none⟩ = some (.int .i64 3) := (h4.cell 0 (by simp) hn).trans (by simp)
    have bx1 : w1.cell? ⟨w.heap.size, 1, none⟩ = some (.int .i64 0) := (h4.cell 1 (by simp) hn).trans (by simp)
    have bx2 : w1.cell? ⟨w.heap.size, 2, none⟩ = some (.slice (some ⟨b0, o0, none⟩) 2 c) := (h4.cell 2 (by simp) hn).trans (by simp)
    have hlt1 : b0 < w1.heap.size := Nat.lt_of_lt_of_le hlt t1.size
    obtain ⟨b1, o1, A1, c1, e1, _, hx1, hy1, hz1, hc1, hm1, hp1⟩ := hp.at ((hI.out _).old _ _ _ h3.out).1 1 (by simp)
    simp only [Option.some.injEq, Addr.mk.injEq, and_true] at e1
    obtain ⟨rfl, rfl⟩ := e1
    simp only [List.getElem_cons_zero, List.getElem_cons_succ, Nat.one_mul, Nat.reduceMul] at hx1 hy1 hz1 hc1 hp1
    replace t1 := Lib.hid t1
    have szl : w.heap.size < w1.heap.size := by have := h4.size; simp at this; omega
    replace hn := Lib.hid hn
    replace hn1 := Lib.hid hn1
    clear h4 hx0 hy0 hz0 hlt
    cases hr : (a.run f s).1.2 with
    | false =>
      go_wp2_with fail
      go_ret2
      exact ⟨by simp [Tk.run, hr], by simp [Tk.run, hr], by simp [Tk.run, hr], F1, by simpa [Tk.run, hr] using hdown.out (b.fets) u _ _ _ (by rw [show u + (b.fets) = u + b.fets from by omega]; exact h3.out), t1.out⟩
    | true =>
      go_wp2_with fail
      refine (ihb.out u A1 c1 _ _ F1 hok.2 h3.out hc1 hp1).mono ?_
      rintro e w2 ⟨rfl, u1, u2, F2, h5, h6⟩
      replace h5 := Lib.hid h5
      have by0 : w2.cell? ⟨w.heap.size, 0, none⟩ = some (.int .i64 3) := (h6.cell 0 szl hn1.out).trans bx0
      replace h6 := Lib.hid h6
      clear bx0 bx1 bx2 hx1 hy1 hz1 hlt1
      cases hq : (b.run f (a.run f s).2).1.2 with
      | false =>
        go_wp2_with fail
        go_ret2
        exact ⟨by simp [Tk.run, hr, hq], by simp [Tk.run, hr, hq], by simp [Tk.run, hr, hq], F2, by simpa [Tk.run, hr, hq] using h5.out, t1.out.trans h6.out⟩
      | true =>
        have hrun : Tk.run f (a.mul b) s = ((((a.run f s).1.1 * (b.run f (a.run f s).2).1.1) % 97, true), (b.run f (a.run f s).2).2) := by simp [Tk.run, hr, hq]
        replace hrun := Lib.hid hrun
        generalize (b.run f (a.run f s).2).1.1 = y at *
        generalize (a.run f s).1.1 = x at *
        have hxy : 0 ≤ x * y ∧ x * y ≤ 9216 := mul_bound v1 v2 u1 u2
        go_wp2_with fail
        go_ret2
        rw [hrun.out]
        exact ⟨rfl, by simp only []; omega, by simp only []; omega, F2, h5.out, t1.out.trans h6.out⟩
  | cond a b d iha ihb ihd =>
    intro u A c s w F hok hs hc hp
    replace hs : I (u + b.fets + d.fets + a.fets) s w F := by
      have e : u + (a.fets + b.fets + d.fets) = u + b.fets + d.fets + a.fets := by omega
      exact e ▸ hs
    replace hs := Lib.hid hs
    replace iha := Lib.hid iha
    replace ihb := Lib.hid ihb
    replace ihd := Lib.hid ihd
    simp only [Tk.enc, Task.kind, Task.n, Task.parts, Tk.ok] at hok hc hp ⊢
    obtain ⟨b0, o0, A0, c0, rfl, hb0, hx0, hy0, hz0, hc0, hm0, hp0⟩ := hp.at ((hI.out _).old _ _ _ hs.out).1 0 (by simp)
    have hlt : b0 < w.heap.size := Nat.lt_of_lt_of_le hb0 ((hI.out _).old _ _ _ hs.out).2
    simp only [List.getElem_cons_zero, Nat.zero_mul, Nat.add_zero] at hx0 hy0 hz0 hc0 hp0
    have hlen : ([a.enc, b.enc, d.enc] : List Task).length = 3 := rfl
    simp only [hlen] at hc ⊢
    clear hlen
    go_enter Try.func146, Try.ntmps146
    go_wp2_with fail
    refine (iha.out (u + b.fets + d.fets) A0 c0 s _ F hok.1 ((hI.out _).alloc _ _ _ _ hs.out) hc0 hp0).mono ?_
    rintro e w1 ⟨rfl, v1, v2, F1, h3, h4⟩
    replace h3 := Lib.hid h3
    have t1 := ((Turn.refl F w).alloc _).trans h4
    have hn : ¬ F w.heap.size := fun h => by have := ((hI.out _).own _ _ _ hs.out _ h).2; omega
    have hn1 : ¬ F1 w.heap.size := fun h => (h4.fresh _ h).elim hn (fun h => by simp at h; omega)
    have bx0 : w1.cell? ⟨w.heap.size, 0, none⟩ = some (.int .i64 4) := (h4.cell 0 (by simp) hn).trans (by simp)
    have bx1 : w1.cell? ⟨w.heap.size, 1, none⟩ = some (.int .i64 0) := (h4.cell 1 (by simp) hn).trans (by simp)
    have bx2 : w1.cell? ⟨w.heap.size, 2, none⟩ = some (.slice (some ⟨b0, o0, none⟩) 3 c) := (h4.cell 2 (by simp) hn).trans (by simp)
    have hlt1 : b0 < w1.heap.size := Nat.lt_of_lt_of_le hlt t1.size
    obtain ⟨b1, o1, A1, c1, e1, _, hx1, hy1, hz1, hc1, hm1, hp1⟩ := hp.at ((hI.out _).old _ _ _ h3.out).1 1 (by simp)
    simp only [Option.some.injEq, Addr.mk.injEq, and_true] at e1
    obtain ⟨rfl, rfl⟩ := e1
    simp only [List.getElem_cons_zero, List.getElem_cons_succ, Nat.one_mul, Nat.reduceMul] at hx1 hy1 hz1 hc1 hp1
    obtain ⟨b2, o2, A2, c2, e2, _, hx2, hy2, hz2, hc2, hm2, hp2⟩ := hp.at ((hI.out _).old _ _ _ h3.out).1 2 (by simp)
    simp only [Option.some.injEq, Addr.mk.injEq, and_true] at e2
    obtain ⟨rfl, rfl⟩ := e2
    simp only [List.getElem_cons_zero, List.getElem_cons_succ, Nat.one_mul, Nat.reduceMul] at hx2 hy2 hz2 hc2 hp2
    replace t1 := Lib.hid t1
    have szl : w.heap.size < w1.heap.size := by have := h4.size; simp at this; omega
    replace hn := Lib.hid hn
    replace hn1 := Lib.hid hn1
    clear h4 hx0 hy0 hz0 hlt
    cases hr : (a.run f s).1.2 with
    | false =>
      go_wp2_with fail
      go_ret2
      exact ⟨by simp [Tk.run, hr], by simp [Tk.run, hr], by simp [Tk.run, hr], F1, by simpa [Tk.run, hr] using hdown.out (b.fets + d.fets) u _ _ _ (by rw [show u + (b.fets + d.fets) = u + b.fets + d.fets from by omega]; exact h3.out), t1.out⟩
    | true =>
      by_cases hz : (a.run f s).1.1 = 0
      · have hz' : ((a.run f s).1.1 != 0) = false := by simp [hz]
        replace hz := Lib.hid hz
        go_wp2_with fail
        refine (ihd.out (u + b.fets) A2 c2 _ _ F1 hok.2.2 h3.out hc2 hp2).mono ?_
        rintro e w2 ⟨rfl, u1, u2, F2, h5, h6⟩
        replace h5 := Lib.hid h5
        replace h6 := Lib.hid h6
        have hrun : Tk.run f (Tk.cond a b d) s = d.run f (a.run f s).2 := by simp [Tk.run, hr, hz.out]
        replace hrun := Lib.hid hrun
        go_wp2_with fail
        go_ret2
        rw [hrun.out]
        exact ⟨rfl, u1, u2, F2, hdown.out _ _ _ _ _ h5.out, t1.out.trans h6.out⟩
      · have hz' : ((a.run f s).1.1 != 0) = true := by simp [hz]
        replace hz := Lib.hid hz
        go_wp2_with fail
        refine (ihb.out (u + d.fets) A1 c1 _ _ F1 hok.2.1 (by rw [show u + d.fets + b.fets = u + b.fets + d.fets from by omega]; exact h3.out) hc1 hp1).mono ?_
        rintro e w2 ⟨rfl, u1, u2, F2, h5, h6⟩
        replace h5 := Lib.hid h5
        replace h6 := Lib.hid h6
        have hrun : Tk.run f (Tk.cond a b d) s = b.run f (a.run f s).2 := by simp [Tk.run, hr, hz.out]
        replace hrun := Lib.hid hrun
        go_wp2_with fail
        go_ret2
        rw [hrun.out]
        exact ⟨rfl, u1, u2, F2, hdown.out _ _ _ _ _ h5.out, t1.out.trans h6.out⟩
  | ix n a iha =>
    intro u A c s w F hok hs hc hp
    replace hs : I (u + 1 + a.fets) s w F := by
      have e : u + (a.fets + 1) = u + 1 + a.fets := by omega
      exact e ▸ hs
    replace hs := Lib.hid hs
    replace iha := Lib.hid iha
    simp only [Tk.enc, Task.kind, Task.n, Task.parts, Tk.ok] at hok hc hp ⊢
    obtain ⟨b0, o0, A0, c0, rfl, hb0, hx0, hy0, hz0, hc0, hm0, hp0⟩ := hp.at ((hI.out _).old _ _ _ hs.out).1 0 (by simp)
    have hlt : b0 < w.heap.size := Nat.lt_of_lt_of_le hb0 ((hI.out _).old _ _ _ hs.out).2
    simp only [List.getElem_cons_zero, Nat.zero_mul, Nat.add_zero] at hx0 hy0 hz0 hc0 hp0
    have hlen : ([a.enc] : List Task).length = 1 := rfl
    simp only [hlen] at hc ⊢
    clear hlen
    go_enter Try.func146, Try.ntmps146
    go_wp2_with fail
    refine (iha.out (u + 1) A0 c0 s _ F hok.2.2 ((hI.out _).alloc _ _ _ _ hs.out) hc0 hp0).mono ?_
    rintro e w1 ⟨rfl, v1, v2, F1, h3, h4⟩
    replace h3 := Lib.hid h3
    have t1 := ((Turn.refl F w).alloc _).trans h4
    have hn : ¬ F w.heap.size := fun h => by have := ((hI.out _).own _ _ _ hs.out _ h).2; omega
    have hn1 : ¬ F1 w.heap.size := fun h => (h4.fresh _ h).elim hn (fun h => by simp at h; omega)
    have bx0 : w1.cell? ⟨w.heap.size, 0, none⟩ = some (.int .i64 5) := (h4.cell 0 (by simp) hn).trans (by simp)
    have bx1 : w1.cell? ⟨w.heap.size, 1, none⟩ = some (.int .i64 n) := (h4.cell 1 (by simp) hn).trans (by simp)
    have bx2 : w1.cell? ⟨w.heap.size, 2, none⟩ = some (.slice (some ⟨b0, o0, none⟩) 1 c) := (h4.cell 2 (by simp) hn).trans (by simp)
    have hlt1 : b0 < w1.heap.size := Nat.lt_of_lt_of_le hlt t1.size
    replace t1 := Lib.hid t1
    have szl : w.heap.size < w1.heap.size := by have := h4.size; simp at this; omega
    replace hn := Lib.hid hn
    replace hn1 := Lib.hid hn1
    clear h4 hx0 hy0 hz0 hlt
    cases hr : (a.run f s).1.2 with
    | false =>
      go_wp2_with fail
      go_ret2
      exact ⟨by simp [Tk.run, hr], by simp [Tk.run, hr], by simp [Tk.run, hr], F1, by simpa [Tk.run, hr] using hdown.out (1) u _ _ _ (by rw [show u + (1) = u + 1 from by omega]; exact h3.out), t1.out⟩
    | true =>
      have hrun : Tk.run f (Tk.ix n a) s = f (a.run f s).2 ((n + (a.run f s).1.1) % 10) := by simp [Tk.run, hr]
      replace hrun := Lib.hid hrun
      generalize (a.run f s).1.1 = x at *
      have n1 := hok.1
      have n2 := hok.2.1
      clear hok
      go_wp2_with fail
      refine (hf.out u _ ((n + x) % 10) _ F1 h3.out (by omega) (by omega)).mono ?_
      rintro e w' ⟨rfl, u1, u2, F2, h5, h6⟩
      replace h5 := Lib.hid h5
      go_wp2_with fail
      go_ret2
      rw [hrun.out]
      exact ⟨rfl, u1, u2, F2, h5.out, t1.out.trans h6⟩


theorem do_calls (got : List Int) (pb : Nat) (Ag : Option Addr) (cg : Nat) (B : Nat) (w0 : World) (t : Tk) (A : Option Addr) (c : Nat) (s : Nat × Int) (w : World) (hok : t.ok) (hs : TapeAt B w0 pb got Ag cg s w) (hc : t.enc.parts.length ≤ c) (hp : PartsIs B w0 A 0 t.enc.parts) :
    Calls Try.prog 146 #[.agg #[.int .i64 t.enc.kind, .int .i64 t.enc.n, .slice A t.enc.parts.length c], .pointer (some ⟨pb, 0, none⟩)] w (Gives (TapeI B w0 pb got Ag cg) (· = pb) w (t.run (tapeF got) s)) :=
  do_callsN (fun _ => TapeI B w0 pb got Ag cg) (tapeF got) pb B w0 (fun _ => TapeI.holds B w0 pb got Ag cg) (fun _ _ _ _ h => h) (fun _ s k w F h _ _ => get_calls B w0 pb got Ag cg s k w F h) t 0 A c s w _ hok ⟨hs, rfl⟩ hc hp
end Go.Proofs.Ytkbblekengdhaaa

set_option linter.unusedVariables false
set_option linter.unusedSimpArgs false
namespace Go.Proofs.Ytkbblekengdhaaa
open Go Go.RowKit

set_option maxHeartbeats 1000000 in
theorem fits_calls (k n : Int) (A : Option Addr) (len c : Nat) (w : World) :
    Calls Try.prog 127 #[.agg #[.int .i64 k, .int .i64 n, .slice A len c]] w fun e w' => e = .returned (.bool (fitsN k n len)) ∧ Below w.heap.size w w' := by
  by_cases k0 : k = 0
  · subst k0
    by_cases hv : 0 ≤ n ∧ n ≤ 96
    · have hd : decide (0 ≤ n ∧ n ≤ 96) = true := by simp [hv]
      replace hd := Lib.hid hd
      by_cases hl : len = 0
      · have hr : fitsN 0 n len = true := by simp [fitsN, hv, hl]
        replace hr := Lib.hid hr
        subst hl
        go_enter Try.func127, Try.ntmps127
        go_wp2_with fail
        refine (isValue_calls _ _).mono ?_
        rintro e w1 ⟨rfl, rfl⟩
        rw [hd.out]
        go_wp2_with fail
        go_ret
        exact ⟨by rw [hr.out]; rfl, below_al (Below.refl _ _) _⟩
      · have hr : fitsN 0 n len = false := by simp [fitsN, hl]
        replace hr := Lib.hid hr
        have hl' : ((len : Int) == 0) = false := by simp; omega
        replace hl := Lib.hid hl
        go_enter Try.func127, Try.ntmps127
        go_wp2_with fail
        refine (isValue_calls _ _).mono ?_
        rintro e w1 ⟨rfl, rfl⟩
        rw [hd.out]
        go_wp2_with fail
        go_ret
        exact ⟨by rw [hr.out]; rfl, below_al (Below.refl _ _) _⟩
    · have hr : fitsN 0 n len = false := by simp [fitsN]; omega
      have hd : decide (0 ≤ n ∧ n ≤ 96) = false := by simp [hv]
      replace hd := Lib.hid hd
      replace hr := Lib.hid hr
      clear hv
      go_enter Try.func127, Try.ntmps127
      go_wp2_with fail
      refine (isValue_calls _ _).mono ?_
      rintro e w1 ⟨rfl, rfl⟩
      rw [hd.out]
      go_wp2_with fail
      go_ret
      exact ⟨by rw [hr.out]; rfl, below_al (Below.refl _ _) _⟩
  by_cases k1 : k = 1
  · subst k1
    by_cases hv : 0 ≤ n ∧ n ≤ 9
    · have hd : decide (0 ≤ n ∧ n ≤ 9) = true := by simp [hv]
      replace hd := Lib.hid hd
      by_cases hl : len = 0
      · have hr : fitsN 1 n len = true := by simp [fitsN, hv, hl]
        replace hr := Lib.hid hr
        subst hl
        go_enter Try.func127, Try.ntmps127
        go_wp2_with fail
        refine (isKey_calls _ _).mono ?_
        rintro e w1 ⟨rfl, rfl⟩
        rw [hd.out]
        go_wp2_with fail
        go_ret
        exact ⟨by rw [hr.out]; rfl, below_al (Below.refl _ _) _⟩
      · have hr : fitsN 1 n len = false := by simp [fitsN, hl]
        replace hr := Lib.hid hr
        have hl' : ((len : Int) == 0) = false := by simp; omega
        replace hl := Lib.hid hl
        go_enter Try.func127, Try.ntmps127
        go_wp2_with fail
        refine (isKey_calls _ _).mono ?_
        rintro e w1 ⟨rfl, rfl⟩
        rw [hd.out]
        go_wp2_with fail
        go_ret
        exact ⟨by rw [hr.out]; rfl, below_al (Below.refl _ _) _⟩
    · have hr : fitsN 1 n len = false := by simp [fitsN]; omega
      have hd : decide (0 ≤ n ∧ n ≤ 9) = false := by simp [hv]
      replace hd := Lib.hid hd
      replace hr := Lib.hid hr
      clear hv
      go_enter Try.func127, Try.ntmps127
      go_wp2_with fail
      refine (isKey_calls _ _).mono ?_
      rintro e w1 ⟨rfl, rfl⟩
      rw [hd.out]
      go_wp2_with fail
      go_ret
      exact ⟨by rw [hr.out]; rfl, below_al (Below.refl _ _) _⟩
  by_cases k5 : k = 5
  · subst k5
    by_cases hv : 0 ≤ n ∧ n ≤ 9
    · have hd : decide (0 ≤ n ∧ n ≤ 9) = true := by simp [hv]
      replace hd := Lib.hid hd
      by_cases hl : len = 1
      · have hr : fitsN 5 n len = true := by simp [fitsN, hv, hl]
        replace hr := Lib.hid hr
        subst hl
        go_enter Try.func127, Try.ntmps127
        go_wp2_with fail
        refine (isKey_calls _ _).mono ?_
        rintro e w1 ⟨rfl, rfl⟩
        rw [hd.out]
        go_wp2_with fail
        go_ret
        exact ⟨by rw [hr.out]; rfl, below_al (Below.refl _ _) _⟩
      · have hr : fitsN 5 n len = false := by simp [fitsN, hl]
        replace hr := Lib.hid hr
        have hl' : ((len : Int) == 1) = false := by simp; omega
        replace hl := Lib.hid hl
        go_enter Try.func127, Try.ntmps127
        go_wp2_with fail
        refine (isKey_calls _ _).mono ?_
        rintro e w1 ⟨rfl, rfl⟩
        rw [hd.out]
        go_wp2_with fail
        go_ret
        exact ⟨by rw [hr.out]; rfl, below_al (Below.refl _ _) _⟩
    · have hr : fitsN 5 n len = false := by simp [fitsN]; omega
      have hd : decide (0 ≤ n ∧ n ≤ 9) = false := by simp [hv]
      replace hd := Lib.hid hd
      replace hr := Lib.hid hr
      clear hv
      go_enter Try.func127, Try.ntmps127
      go_wp2_with fail
      refine (isKey_calls _ _).mono ?_
      rintro e w1 ⟨rfl, rfl⟩
      rw [hd.out]
      go_wp2_with fail
      go_ret
      exact ⟨by rw [hr.out]; rfl, below_al (Below.refl _ _) _⟩
  by_cases k2 : k = 2
  · subst k2
    by_cases hv : n = 0
    · subst hv
      by_cases hl : len = 2
      · have hr : fitsN 2 0 len = true := by simp [fitsN, hl]
        replace hr := Lib.hid hr
        subst hl
        go_enter Try.func127, Try.ntmps127
        go_wp2_with fail
        go_ret
        exact ⟨by rw [hr.out]; rfl, below_al (Below.refl _ _) _⟩
      · have hr : fitsN 2 0 len = false := by simp [fitsN, hl]
        replace hr := Lib.hid hr
        have hl' : ((len : Int) == 2) = false := by simp; omega
        replace hl := Lib.hid hl
        go_enter Try.func127, Try.ntmps127
        go_wp2_with fail
        go_ret
        exact ⟨by rw [hr.out]; rfl, below_al (Below.refl _ _) _⟩
    · have hr : fitsN 2 n len = false := by simp [fitsN, hv]
      have hd : (n == 0) = false := by simp [hv]
      replace hr := Lib.hid hr
      replace hv := Lib.hid hv
      go_enter Try.func127, Try.ntmps127
      go_wp2_with fail
      go_ret
      exact ⟨by rw [hr.out]; rfl, below_al (Below.refl _ _) _⟩
  by_cases k3 : k = 3
  · subst k3
    by_cases hv : n = 0
    · subst hv
      by_cases hl : len = 2
      · have hr : fitsN 3 0 len = true := by simp [fitsN, hl]
        replace hr := Lib.hid hr
        subst hl
        go_enter Try.func127, Try.ntmps127
        go_wp2_with fail
        go_ret
        exact ⟨by rw [hr.out]; rfl, below_al (Below.refl _ _) _⟩
      · have hr : fitsN 3 0 len = false := by simp [fitsN, hl]
        replace hr := Lib.hid hr
        have hl' : ((len : Int) == 2) = false := by simp; omega
        replace hl := Lib.hid hl
        go_enter Try.func127, Try.ntmps127
        go_wp2_with fail
        go_ret
        exact ⟨by rw [hr.out]; rfl, below_al (Below.refl _ _) _⟩
    · have hr : fitsN 3 n len = false := by simp [fitsN, hv]
      have hd : (n == 0) = false := by simp [hv]
      replace hr := Lib.hid hr
      replace hv := Lib.hid hv
      go_enter Try.func127, Try.ntmps127
      go_wp2_with fail
      go_ret
      exact ⟨by rw [hr.out]; rfl, below_al (Below.refl _ _) _⟩
  by_cases k4 : k = 4
  · subst k4
    by_cases hv : n = 0
    · subst hv
      by_cases hl : len = 3
      · have hr : fitsN 4 0 len = true := by simp [fitsN, hl]
        replace hr := Lib.hid hr
        subst hl
        go_enter Try.func127, Try.ntmps127
        go_wp2_with fail
        go_ret
        exact ⟨by rw [hr.out]; rfl, below_al (Below.refl _ _) _⟩
      · have hr : fitsN 4 0 len = false := by simp [fitsN, hl]
        replace hr := Lib.hid hr
        have hl' : ((len : Int) == 3) = false := by simp; omega
        replace hl := Lib.hid hl
        go_enter Try.func127, Try.ntmps127
        go_wp2_with fail
        go_ret
        exact ⟨by rw [hr.out]; rfl, below_al (Below.refl _ _) _⟩
    · have hr : fitsN 4 n len = false := by simp [fitsN, hv]
      have hd : (n == 0) = false := by simp [hv]
      replace hr := Lib.hid hr
      replace hv := Lib.hid hv
      go_enter Try.func127, Try.ntmps127
      go_wp2_with fail
      go_ret
      exact ⟨by rw [hr.out]; rfl, below_al (Below.refl _ _) _⟩
  have hr : fitsN k n len = false := by simp [fitsN, *]
  have e0 : (k == 0) = false := by simp [k0]
  have e1 : (k == 1) = false := by simp [k1]
  have e2 : (k == 2) = false := by simp [k2]
  have e3 : (k == 3) = false := by simp [k3]
  have e4 : (k == 4) = false := by simp [k4]
  have e5 : (k == 5) = false := by simp [k5]
  replace k0 := Lib.hid k0
  replace k1 := Lib.hid k1
  replace k2 := Lib.hid k2
  replace k3 := Lib.hid k3
  replace k4 := Lib.hid k4
  replace k5 := Lib.hid k5
  replace hr := Lib.hid hr
  go_enter Try.func127, Try.ntmps127
  go_wp2_with fail
  go_ret
  exact ⟨by rw [hr.out]; rfl, below_al (Below.refl _ _) _⟩


set_option maxHeartbeats 1000000 in
theorem countTo_calls : ∀ (t : Task) (room : Int) (A : Option Addr) (c B : Nat) (w0 w : World), room ≤ 15 → -1000 ≤ room → Below B w0 w → B ≤ w.heap.size → t.parts.length ≤ c → c ≤ maxLen → PartsIs B w0 A 0 t.parts →
    Calls Try.prog 128 #[.agg #[.int .i64 t.kind, .int .i64 t.n, .slice A t.parts.length c], .int .i64 room] w fun e w' => e = .returned (.int .i64 (cntTo t room)) ∧ Below w.heap.size w w' := by
  refine Task.ind ?_
  intro k n ps ih room A c B w0 w hr1 hr2 hb hB hc hm hp
  simp only [Task.kind, Task.n, Task.parts] at hc hp ⊢
  unfold maxLen at hm
  replace ih := Lib.hid ih
  replace hb := Lib.hid hb
  replace hp := Lib.hid hp
  by_cases h1 : room < 1
  · have hr : cntTo (.mk k n ps) room = 16 := by rw [cntTo, if_pos (.inl h1)]
    replace hr := Lib.hid hr
    go_enter Try.func128, Try.ntmps128
    go_wp2_with fail
    go_ret
    exact ⟨by rw [hr.out]; rfl, below_al (Below.refl _ _) _⟩
  by_cases h2 : fitsN k n ps.length = false
  · have hr : cntTo (.mk k n ps) room = 16 := by rw [cntTo, if_pos (.inr h2)]
    replace hr := Lib.hid hr
    replace h2 := Lib.hid h2
    go_enter Try.func128, Try.ntmps128
    go_wp2_with fail
    refine (fits_calls _ _ _ _ _ _).mono ?_
    rintro e w1 ⟨rfl, h3⟩
    rw [h2.out]
    go_wp2_with fail
    go_ret
    exact ⟨by rw [hr.out]; rfl, below_from h3⟩
  have hr : cntTo (.mk k n ps) room = cntToL ps room 1 := by rw [cntTo, if_neg (by simp [h1, h2])]
  replace hr := Lib.hid hr
  simp only [Bool.not_eq_false] at h2
  replace h2 := Lib.hid h2
  go_enter Try.func128, Try.ntmps128
  go_wp2_with fail
  refine (fits_calls _ _ _ _ _ _).mono ?_
  rintro e w1 ⟨rfl, h3⟩
  rw [h2.out]
  have h4 := bcell h3
  simp at h4
  have x2 : w1.cell? ⟨w.heap.size, 2, none⟩ = some (.slice A ps.length c) := (h4 _ _ (by omega)).trans (by simp)
  clear h4
  have hw1 := below_from h3
  replace hw1 := Lib.hid hw1
  clear h3
  go_wp2_with fail
  go_loopw [5, 18] (fun m i wr => ∃ (j : Nat) (x : Int), j ≤ ps.length ∧ i = .int .i64 j ∧ m = .int .i64 x ∧ 1 ≤ x ∧ x ≤ 1000 ∧ Hid (Below w.heap.size w wr) ∧ Hid (cntToL ps room 1 = cntToL (ps.drop j) room x)) (fun _ i _ => ps.length - (intOf i).toNat)
  case atStart => exact ⟨0, 1, Nat.zero_le _, rfl, rfl, by omega, by omega, hw1, Lib.hid rfl⟩
  case round =>
    obtain ⟨j, x, hj, rfl, rfl, hx1, hx2, hw, he⟩ := hrel
    by_cases hlt : j < ps.length
    · obtain ⟨b, o, A', c', rfl, hbl, y0, y1, y2, hc', hm', hp'⟩ := hp.out.at (below_up' hb.out hB hw.out) j hlt
      have hbl' : b < wr.heap.size := by have := hw.out.size; omega
      have hd : ps.drop j = ps[j] :: ps.drop (j + 1) := List.drop_eq_getElem_cons hlt
      rw [hd] at he
      have he2 := he.out
      rw [cntToL] at he2
      replace hd := Lib.hid hd
      clear he
      by_cases hx : x > room
      · rw [if_pos hx] at he2
        replace he2 := Lib.hid he2
        go_wp2_with fail
        go_ret
        exact ⟨by rw [hr.out, he2.out]; rfl, below_al hw.out _⟩
      · rw [if_neg hx] at he2
        have hbd := cntTo_bound ps[j] (room - x) (by omega)
        replace he2 := Lib.hid he2
        go_wp2_with fail
        refine (ih.out ps[j] (List.getElem_mem _) (room - x) A' c' B w0 _ (by omega) (by omega) (below_al' (below_up' hb.out hB hw.out) _ (by have := hw.out.size; omega)) (by have := hw.out.size; simp; omega) hc' hm' hp').mono ?_
        rintro e w2 ⟨rfl, h5⟩
        replace h5 := Lib.hid h5
        have hb5 : cntTo ps[j] (room - x) ≤ 300 := by omega
        have hb6 : 1 ≤ cntTo ps[j] (room - x) := hbd.1
        clear hbd y0 y1 y2
        generalize cntTo ps[j] (room - x) = q at *
        go_wp2_with fail
        go_roundw
        case rel => exact ⟨j + 1, x + q, by omega, by go_num, rfl, by omega, by omega, Lib.hid (below_up hw.out (below_from h5.out)), he2⟩
        case measure => simp [intOf]; omega
    · have hd : ps.drop j = [] := List.drop_eq_nil_of_le (by omega)
      rw [hd, cntToL] at he
      replace hd := Lib.hid hd
      go_wp2_with fail
      go_ret
      exact ⟨by rw [hr.out, he.out]; rfl, hw.out⟩

set_option maxHeartbeats 1000000 in
theorem count_calls (t : Task) (A : Option Addr) (c B : Nat) (w0 w : World) (hb : Below B w0 w) (hB : B ≤ w.heap.size) (hc : t.parts.length ≤ c) (hm : c ≤ maxLen) (hp : PartsIs B w0 A 0 t.parts) :
    Calls Try.prog 92 #[.agg #[.int .i64 t.kind, .int .i64 t.n, .slice A t.parts.length c]] w fun e w' => e = .returned (.int .i64 (cnt t)) ∧ Below w.heap.size w w' := by
  obtain ⟨k, n, ps⟩ := t
  simp only [Task.kind, Task.n, Task.parts] at hc hp ⊢
  unfold maxLen at hm
  replace hb := Lib.hid hb
  replace hp := Lib.hid hp
  by_cases h2 : fitsN k n ps.length = false
  · have hr : cnt (.mk k n ps) = 16 := by rw [cnt, if_pos h2]
    replace hr := Lib.hid hr
    replace h2 := Lib.hid h2
    go_enter Try.func92, Try.ntmps92
    go_wp2_with fail
    refine (fits_calls _ _ _ _ _ _).mono ?_
    rintro e w1 ⟨rfl, h3⟩
    rw [h2.out]
    go_wp2_with fail
    go_ret
    exact ⟨by rw [hr.out]; rfl, below_from h3⟩
  have hr : cnt (.mk k n ps) = cntL ps 1 := by rw [cnt, if_neg h2]
  replace hr := Lib.hid hr
  simp only [Bool.not_eq_false] at h2
  replace h2 := Lib.hid h2
  go_enter Try.func92, Try.ntmps92
  go_wp2_with fail
  refine (fits_calls _ _ _ _ _ _).mono ?_
  rintro e w1 ⟨rfl, h3⟩
  rw [h2.out]
  have h4 := bcell h3
  simp at h4
  have x2 : w1.cell? ⟨w.heap.size, 2, none⟩ = some (.slice A ps.length c) := (h4 _ _ (by omega)).trans (by simp)
  clear h4
  have hw1 := below_from h3
  replace hw1 := Lib.hid hw1
  clear h3
  go_wp2_with fail
  go_loopw [3, 12] (fun m i wr => ∃ (j : Nat) (x : Int), j ≤ ps.length ∧ i = .int .i64 j ∧ m = .int .i64 x ∧ 1 ≤ x ∧ x ≤ 1000 ∧ Hid (Below w.heap.size w wr) ∧ Hid (cntL ps 1 = cntL (ps.drop j) x)) (fun _ i _ => ps.length - (intOf i).toNat)
  case atStart => exact ⟨0, 1, Nat.zero_le _, rfl, rfl, by omega, by omega, hw1, Lib.hid rfl⟩
  case round =>
    obtain ⟨j, x, hj, rfl, rfl, hx1, hx2, hw, he⟩ := hrel
    by_cases hlt : j < ps.length
    · obtain ⟨b, o, A', c', rfl, hbl, y0, y1, y2, hc', hm', hp'⟩ := hp.out.at (below_up' hb.out hB hw.out) j hlt
      have hbl' : b < wr.heap.size := by have := hw.out.size; omega
      have hd : ps.drop j = ps[j] :: ps.drop (j + 1) := List.drop_eq_getElem_cons hlt
      rw [hd] at he
      have he2 := he.out
      rw [cntL] at he2
      replace hd := Lib.hid hd
      clear he
      by_cases hx : x > 15
      · rw [if_pos hx] at he2
        replace he2 := Lib.hid he2
        go_wp2_with fail
        go_ret
        exact ⟨by rw [hr.out, he2.out]; rfl, below_al hw.out _⟩
      · rw [if_neg hx] at he2
        have hbd := cntTo_bound ps[j] (15 - x) (by omega)
        replace he2 := Lib.hid he2
        go_wp2_with fail
        refine (countTo_calls ps[j] (15 - x) A' c' B w0 _ (by omega) (by omega) (below_al' (below_up' hb.out hB hw.out) _ (by have := hw.out.size; omega)) (by have := hw.out.size; simp; omega) hc' hm' hp').mono ?_
        rintro e w2 ⟨rfl, h5⟩
        replace h5 := Lib.hid h5
        have hb5 : cntTo ps[j] (15 - x) ≤ 300 := by omega
        have hb6 : 1 ≤ cntTo ps[j] (15 - x) := hbd.1
        clear hbd y0 y1 y2
        generalize cntTo ps[j] (15 - x) = q at *
        go_wp2_with fail
        go_roundw
        case rel => exact ⟨j + 1, x + q, by omega, by go_num, rfl, by omega, by omega, Lib.hid (below_up hw.out (below_from h5.out)), he2⟩
        case measure => simp [intOf]; omega
    · have hd : ps.drop j = [] := List.drop_eq_nil_of_le (by omega)
      rw [hd, cntL] at he
      replace hd := Lib.hid hd
      go_wp2_with fail
      go_ret
      exact ⟨by rw [hr.out, he.out]; rfl, hw.out⟩

theorem taskOk_calls (t : Task) (A : Option Addr) (c B : Nat) (w0 w : World) (hb : Below B w0 w) (hB : B ≤ w.heap.size) (hc : t.parts.length ≤ c) (hm : c ≤ maxLen) (hp : PartsIs B w0 A 0 t.parts) :
    Calls Try.prog 50 #[.agg #[.int .i64 t.kind, .int .i64 t.n, .slice A t.parts.length c]] w fun e w' => e = .returned (.bool (okT t)) ∧ Below w.heap.size w w' := by
  have h := fun w1 (hb1 : Below B w0 w1) (hB1 : B ≤ w1.heap.size) => count_calls t A c B w0 w1 hb1 hB1 hc hm hp
  have hr := cnt_okT t
  replace h := Lib.hid h
  replace hr := Lib.hid hr
  replace hb := Lib.hid hb
  clear hp
  go_enter Try.func50, Try.ntmps50
  go_wp2_with fail
  refine (h.out _ (below_al' hb.out _ hB) (by simp; omega)).mono ?_
  rintro e w1 ⟨rfl, h3⟩
  replace h3 := Lib.hid h3
  go_wp2_with fail
  go_ret
  exact ⟨by rw [← hr.out]; rfl, below_from h3.out⟩
end Go.Proofs.Ytkbblekengdhaaa

set_option linter.unusedVariables false
set_option linter.unusedSimpArgs false
namespace Go.Proofs.Ytkbblekengdhaaa
open Go Go.RowKit

/-- a sheet's value: all that it leads to in blocks below B -/
structure SheetAt (B : Nat) (w : World) (Am : Option Addr) (cm : Nat) (At : Option Addr) (ct : Nat) (made : List Bool) (tasks : List Task) : Prop where
  lm : made.length ≤ cm
  mm : cm ≤ maxLen
  lt : tasks.length ≤ ct
  mt : ct ≤ maxLen
  made : BoolsAt B w Am made
  tasks : PartsIs B w At 0 tasks

set_option maxHeartbeats 1000000 in
theorem sheetOk_calls (Am At : Option Addr) (cm ct : Nat) (made : List Bool) (tasks : List Task) (B : Nat) (w0 w : World) (hb : Below B w0 w) (hB : B ≤ w.heap.size) (hs : SheetAt B w0 Am cm At ct made tasks) :
    Calls Try.prog 39 #[.agg #[.slice Am made.length cm, .slice At tasks.length ct]] w fun e w' => e = .returned (.bool (sheetOk made tasks)) ∧ Below w.heap.size w w' := by
  obtain ⟨lm, mm, lt, mt, hm, ht⟩ := hs
  unfold maxLen at mm mt
  replace hb := Lib.hid hb
  replace hm := Lib.hid hm
  replace ht := Lib.hid ht
  by_cases h1 : made.length = tasks.length
  case neg =>
    have hr : sheetOk made tasks = false := by simp [sheetOk, h1]
    replace hr := Lib.hid hr
    have h1' : ((made.length : Int) != (tasks.length : Int)) = true := by simp; omega
    replace h1 := Lib.hid h1
    go_enter Try.func39, Try.ntmps39
    go_wp2_with fail
    go_ret
    exact ⟨by rw [hr.out]; rfl, below_al (Below.refl _ _) _⟩
  have h1' : ((made.length : Int) != (tasks.length : Int)) = false := by simp; omega
  replace h1 := Lib.hid h1
  by_cases h2 : made.length ≤ 10
  case neg =>
    have hr : sheetOk made tasks = false := by simp [sheetOk, h2]
    replace hr := Lib.hid hr
    go_enter Try.func39, Try.ntmps39
    go_wp2_with fail
    go_ret
    exact ⟨by rw [hr.out]; rfl, below_al (Below.refl _ _) _⟩
  have hr : sheetOk made tasks = sheetOkL made tasks := by simp [sheetOk, h1.out, h1.out ▸ h2]
  replace hr := Lib.hid hr
  go_enter Try.func39, Try.ntmps39
  go_wp2_with fail
  go_loopw [3, 21] (fun _ i wr => ∃ (j : Nat), j ≤ tasks.length ∧ i = .int .i64 j ∧ w.heap.size < wr.heap.size ∧ wr.cell? ⟨w.heap.size, 0, none⟩ = some (.slice Am made.length cm) ∧ Hid (Below w.heap.size w wr) ∧ Hid (sheetOkL made tasks = sheetOkL (made.drop j) (tasks.drop j))) (fun _ i _ => tasks.length - (intOf i).toNat)
  case atStart => exact ⟨0, Nat.zero_le _, rfl, by simp, by simp, Lib.hid (below_al (Below.refl _ _) _), Lib.hid rfl⟩
  case round =>
    obtain ⟨j, hj, rfl, hz, hbox, hw, he⟩ := hrel
    by_cases hlt : j < tasks.length
    · obtain ⟨b, o, A', c', rfl, hbl, y0, y1, y2, hc', hm', hp'⟩ := ht.out.at (below_up' hb.out hB hw.out) j hlt
      have hbl' : b < wr.heap.size := by have := hw.out.size; omega
      have hltm : j < made.length := by have := h1.out; omega
      have hd : tasks.drop j = tasks[j] :: tasks.drop (j + 1) := List.drop_eq_getElem_cons hlt
      have hdm : made.drop j = made[j] :: made.drop (j + 1) := List.drop_eq_getElem_cons hltm
      rw [hd, hdm] at he
      have he2 := he.out
      rw [sheetOkL_cons] at he2
      replace hd := Lib.hid hd
      replace hdm := Lib.hid hdm
      clear he
      have hcall := fun w1 (hb1 : Below B w0 w1) (hB1 : B ≤ w1.heap.size) => taskOk_calls tasks[j] A' c' B w0 w1 hb1 hB1 hc' hm' hp'
      replace hcall := Lib.hid hcall
      cases hok : okT tasks[j] with
      | false =>
        rw [hok] at he2
        replace he2 := Lib.hid he2
        replace hok := Lib.hid hok
        go_wp2_with fail
        refine (hcall.out _ (below_al' (below_up' hb.out hB hw.out) _ (by have := hw.out.size; omega)) (by have := hw.out.size; simp; omega)).mono ?_
        rintro e w2 ⟨rfl, h5⟩
        replace h5 := Lib.hid h5
        rw [hok.out]
        go_wp2_with fail
        go_ret
        exact ⟨by rw [hr.out, he2.out]; rfl, below_up hw.out (below_from h5.out)⟩
      | true =>
        rw [hok, Bool.true_and] at he2
        obtain ⟨bm, om, eqm, hbm, cmj⟩ := hm.out.at (below_up' hb.out hB hw.out) (by have := hw.out.size; omega) j hltm
        replace hok := Lib.hid hok
        have hk1 : (tasks[j].kind == 0) = true ∨ (tasks[j].kind == 0) = false := by cases (tasks[j].kind == 0) <;> simp
        have hk2 : (tasks[j].n == 0) = true ∨ (tasks[j].n == 0) = false := by cases (tasks[j].n == 0) <;> simp
        subst eqm
        cases hmj : made[j] with
        | true =>
          rw [hmj, Bool.true_or, Bool.true_and] at he2
          rw [hmj] at cmj
          replace he2 := Lib.hid he2
          replace hmj := Lib.hid hmj
          clear hk1 hk2
          go_wp2_with fail
          refine (hcall.out _ (below_al' (below_up' hb.out hB hw.out) _ (by have := hw.out.size; omega)) (by have := hw.out.size; simp; omega)).mono ?_
          rintro e w2 ⟨rfl, h5⟩
          rw [hok.out]
          have hh := bcell h5
          simp at hh
          have z0 : w2.cell? ⟨w.heap.size, 0, none⟩ = some (.slice (some ⟨bm, om, none⟩) made.length cm) := (hh _ _ (by omega)).trans ((cell_al hz).trans hbox)
          have z1 : w2.cell? ⟨bm, om + j, none⟩ = some (.bool true) := (hh _ _ (by omega)).trans ((cell_al hbm).trans cmj)
          have hz2 : w.heap.size < w2.heap.size := by have := h5.size; simp at this; omega
          clear hh
          replace h5 := Lib.hid h5
          clear y0 y1 y2 hbox cmj
          go_wp2_with fail
          go_roundw
          case rel => exact ⟨j + 1, by omega, by go_num, hz2, z0, Lib.hid (below_up hw.out (below_from h5.out)), he2⟩
          case measure => simp [intOf]; omega
        | false =>
          rw [hmj, Bool.false_or] at he2
          rw [hmj] at cmj
          replace hmj := Lib.hid hmj
          by_cases hk : tasks[j].kind = 0
          · have hk' : (tasks[j].kind != 0) = false := by simp [hk]
            have hk2 : (tasks[j].kind == 0) = true := by simp [hk]
            rw [hk2, Bool.true_and] at he2
            replace hk := Lib.hid hk
            replace hk2 := Lib.hid hk2
            by_cases hn : tasks[j].n = 0
            · have hn' : (tasks[j].n != 0) = false := by simp [hn]
              have hn2 : (tasks[j].n == 0) = true := by simp [hn]
              rw [hn2, Bool.true_and] at he2
              replace he2 := Lib.hid he2
              replace hn := Lib.hid hn
              replace hn2 := Lib.hid hn2
              go_wp2_with fail
              refine (hcall.out _ (below_al' (below_up' hb.out hB hw.out) _ (by have := hw.out.size; omega)) (by have := hw.out.size; simp; omega)).mono ?_
              rintro e w2 ⟨rfl, h5⟩
              rw [hok.out]
              have hh := bcell h5
              simp at hh
              have z0 : w2.cell? ⟨w.heap.size, 0, none⟩ = some (.slice (some ⟨bm, om, none⟩) made.length cm) := (hh _ _ (by omega)).trans ((cell_al hz).trans hbox)
              have z1 : w2.cell? ⟨bm, om + j, none⟩ = some (.bool false) := (hh _ _ (by omega)).trans ((cell_al hbm).trans cmj)
              have z2 : w2.cell? ⟨wr.heap.size, 0, none⟩ = some (.int .i64 tasks[j].kind) := (hh _ _ (by omega)).trans (by simp)
              have z3 : w2.cell? ⟨wr.heap.size, 1, none⟩ = some (.int .i64 tasks[j].n) := (hh _ _ (by omega)).trans (by simp)
              have hz2 : w.heap.size < w2.heap.size := by have := h5.size; simp at this; omega
              clear hh
              replace h5 := Lib.hid h5
              clear y0 y1 y2 hbox cmj
              go_wp2_with fail
              go_roundw
              case rel => exact ⟨j + 1, by omega, by go_num, hz2, z0, Lib.hid (below_up hw.out (below_from h5.out)), he2⟩
              case measure => simp [intOf]; omega
            · have hn' : (tasks[j].n != 0) = true := by simp [hn]
              have hn2 : (tasks[j].n == 0) = false := by simp [hn]
              rw [hn2, Bool.false_and] at he2
              replace he2 := Lib.hid he2
              replace hn := Lib.hid hn
              replace hn2 := Lib.hid hn2
              go_wp2_with fail
              refine (hcall.out _ (below_al' (below_up' hb.out hB hw.out) _ (by have := hw.out.size; omega)) (by have := hw.out.size; simp; omega)).mono ?_
              rintro e w2 ⟨rfl, h5⟩
              rw [hok.out]
              have hh := bcell h5
              simp at hh
              have z0 : w2.cell? ⟨w.heap.size, 0, none⟩ = some (.slice (some ⟨bm, om, none⟩) made.length cm) := (hh _ _ (by omega)).trans ((cell_al hz).trans hbox)
              have z1 : w2.cell? ⟨bm, om + j, none⟩ = some (.bool false) := (hh _ _ (by omega)).trans ((cell_al hbm).trans cmj)
              have z2 : w2.cell? ⟨wr.heap.size, 0, none⟩ = some (.int .i64 tasks[j].kind) := (hh _ _ (by omega)).trans (by simp)
              have z3 : w2.cell? ⟨wr.heap.size, 1, none⟩ = some (.int .i64 tasks[j].n) := (hh _ _ (by omega)).trans (by simp)
              have hz2 : w.heap.size < w2.heap.size := by have := h5.size; simp at this; omega
              clear hh
              replace h5 := Lib.hid h5
              clear y0 y1 y2 hbox cmj
              go_wp2_with fail
              go_ret
              exact ⟨by rw [hr.out, he2.out]; rfl, below_up hw.out (below_from h5.out)⟩
          · have hk' : (tasks[j].kind != 0) = true := by simp [hk]
            have hk2 : (tasks[j].kind == 0) = false := by simp [hk]
            rw [hk2, Bool.false_and, Bool.false_and] at he2
            replace he2 := Lib.hid he2
            replace hk := Lib.hid hk
            replace hk2 := Lib.hid hk2
            go_wp2_with fail
            refine (hcall.out _ (below_al' (below_up' hb.out hB hw.out) _ (by have := hw.out.size; omega)) (by have := hw.out.size; simp; omega)).mono ?_
            rintro e w2 ⟨rfl, h5⟩
            rw [hok.out]
            have hh := bcell h5
            simp at hh
            have z0 : w2.cell? ⟨w.heap.size, 0, none⟩ = some (.slice (some ⟨bm, om, none⟩) made.length cm) := (hh _ _ (by omega)).trans ((cell_al hz).trans hbox)
            have z1 : w2.cell? ⟨bm, om + j, none⟩ = some (.bool false) := (hh _ _ (by omega)).trans ((cell_al hbm).trans cmj)
            have z2 : w2.cell? ⟨wr.heap.size, 0, none⟩ = some (.int .i64 tasks[j].kind) := (hh _ _ (by omega)).trans (by simp)
            have z3 : w2.cell? ⟨wr.heap.size, 1, none⟩ = some (.int .i64 tasks[j].n) := (hh _ _ (by omega)).trans (by simp)
            have hz2 : w.heap.size < w2.heap.size := by have := h5.size; simp at this; omega
            clear hh
            replace h5 := Lib.hid h5
            clear y0 y1 y2 hbox cmj
            go_wp2_with fail
            go_ret
            exact ⟨by rw [hr.out, he2.out]; rfl, below_up hw.out (below_from h5.out)⟩
    · have hd : tasks.drop j = [] := List.drop_eq_nil_of_le (by omega)
      have hdm : made.drop j = [] := List.drop_eq_nil_of_le (by have := h1.out; omega)
      rw [hd, hdm, sheetOkL_nil] at he
      replace hd := Lib.hid hd
      replace hdm := Lib.hid hdm
      go_wp2_with fail
      go_ret
      exact ⟨by rw [hr.out, he.out]; rfl, hw.out⟩
end Go.Proofs.Ytkbblekengdhaaa

set_option linter.unusedVariables false
set_option linter.unusedSimpArgs false
namespace Go.Proofs.Ytkbblekengdhaaa
open Go Go.RowKit

theorem intTy : ElemTy Try.prog 28 3 (.int .i64 0) 1 8 := ⟨Try.underlying28, by kernel_rfl, rfl, by omega⟩
theorem mapTy : MapTy Try.prog 135 3 3 := ⟨Try.underlying135, Try.underlying3, Try.underlying3, fun w => by kernel_rfl⟩

theorem clone_calls (A : Option Addr) (c : Nat) (xs : List Int) (B : Nat) (w0 w : World) (hb : Below B w0 w) (hB : B ≤ w.heap.size) (hm : xs.length ≤ 1099511627776) (hx : IntsAt B w0 A xs) :
    Calls Try.prog 76 #[.slice A xs.length c] w fun e w' => ∃ v, e = .returned v ∧ w'.ownsRow w.heap.size 3 1 v xs.length (ints xs) ∧ Below w.heap.size w w' := by
  cases A with
  | none =>
    have h0 : xs = [] := by
      cases xs with
      | nil => rfl
      | cons x xs => obtain ⟨b, o, e, _⟩ := hx 0 (by simp); cases e
    subst h0
    have he := Lib.run_eql_slice_nil (P := Try.prog) w 28 3 none 0 c 0 0 Try.underlying28
    go_enter Try.func76, Try.ntmps76
    go_wp2
    go_ret
    exact ⟨_, rfl, World.ownsRow_nil _ _ _ _, Below.refl _ _⟩
  | some ad =>
    have he := Lib.run_eql_slice_nil (P := Try.prog) w 28 3 (some ad) xs.length c 0 0 Try.underlying28
    replace hx := Lib.hid hx
    replace hb := Lib.hid hb
    go_enter Try.func76, Try.ntmps76
    go_wp2_with ((with_reducible refine wpList_appN (by rfl) (.tmp 5) (.tmp 6) 28 (by rfl) intTy w.heap.size (.slice (some ⟨w.heap.size, 0, none⟩) 0 0) 0 [] (by with_unfolding_all rfl) ?_ ad xs.length c (ints xs) (by with_unfolding_all rfl) (by simp [ints]) ?_ ?_ ?_ ?_ ?_ ?_))
    · exact World.ownsRow_made w #[] 0 (Nat.le_refl _) (by simp [maxLen]) rfl
    · intro j u hu
      have hj : j < xs.length := by
        have := (List.getElem?_eq_some_iff.1 hu).1
        simpa [ints] using this
      obtain ⟨b, o, e, hlt, hc⟩ := hx.out.at hb.out hB j hj
      cases e
      rw [Addr.add_lit, cell_al hlt, hc]
      simpa [ints, hj] using hu
    · intro u hu
      simp only [ints, List.mem_map] at hu
      obtain ⟨x, _, rfl⟩ := hu
      rfl
    · simp [maxLen]; omega
    · omega
    · simp
    · intro v' w' h1 h2 h4
      replace h1 := Lib.hid h1
      replace h2 := Lib.hid h2
      clear h4
      go_wp2_with fail
      go_ret
      have h5 := h1.out
      exact ⟨_, rfl, by simpa using h5, (below_al (Below.refl _ _) _).grown h2.out (by simp) (fun k hk => by cases hk; simp)⟩
end Go.Proofs.Ytkbblekengdhaaa
