import Derived.Test.YtagmdljdcnmpdaaProg
import Derived.Test.YtagmdljdcnmpdaaBase
set_option linter.unusedVariables false
set_option linter.unusedSimpArgs false
namespace Go.Proofs.Ytagmdljdcnmpdaa
open Go Go.RowKit

/-- the post of a call that gives an int and a truth, and leaves a state -/
def Gives {σ : Type} (I : σ → World → (Nat → Prop) → Prop) (F : Nat → Prop) (w : World) (r : (Int × Bool) × σ) (e : Ending) (w' : World) : Prop :=
  e = .returned (.tuple #[.int .i64 r.1.1, .bool r.1.2]) ∧ 0 ≤ r.1.1 ∧ r.1.1 ≤ 96 ∧ ∃ F', I r.2 w' F' ∧ Turn F F' w w'

/-- what a state's predicate is to keep -/
structure Holds {σ : Type} (I : σ → World → (Nat → Prop) → Prop) (B : Nat) (w0 : World) : Prop where
  old : ∀ s w F, I s w F → Below B w0 w ∧ B ≤ w.heap.size
  own : ∀ s w F, I s w F → ∀ i, F i → B ≤ i ∧ i < w.heap.size
  alloc : ∀ s w F o, I s w F → I s (w.alloc o) F

theorem mul_bound {x y : Int} (a : 0 ≤ x) (b : x ≤ 96) (c : 0 ≤ y) (d : y ≤ 96) : 0 ≤ x * y ∧ x * y ≤ 9216 :=
  ⟨Int.mul_nonneg a c, by have := Int.mul_le_mul b d c (by omega); omega⟩

/-- how often a task may fetch -/
def Tk.fets : Tk → Nat
  | .num _ => 0
  | .get _ => 1
  | .add a b => a.fets + b.fets
  | .mul a b => a.fets + b.fets
  | .cond a b d => a.fets + b.fets + d.fets
  | .ix _ a => a.fets + 1

set_option maxHeartbeats 1000000 in
/-- a task that is run with a fetch that keeps I; the number says how many fetches are left -/
theorem run_callsN {σ : Type} (I : Nat → σ → World → (Nat → Prop) → Prop) (f : σ → Int → (Int × Bool) × σ) (g : Nat) (first cap : Array Value) (B : Nat) (w0 : World) (hg : Enters Try.prog g)
    (hI : ∀ n, Holds (I n) B w0) (hmono : ∀ n s w F, I (n + 1) s w F → I n s w F)
    (hf : ∀ n s k w F, I (n + 1) s w F → 0 ≤ k → k ≤ 9 → Calls Try.prog g (first ++ #[.int .i64 k] ++ cap) w (Gives (I n) F w (f s k))) :
    ∀ (t : Tk) (u : Nat) (A : Option Addr) (c : Nat) (s : σ) (w : World) (F : Nat → Prop), t.ok → I (u + t.fets) s w F → t.enc.parts.length ≤ c → PartsIs B w0 A 0 t.enc.parts →
      Calls Try.prog 77 #[.agg #[.int .i64 t.enc.kind, .int .i64 t.enc.n, .slice A t.enc.parts.length c], .func (.func g) first cap] w (Gives (I u) F w (t.run f s)) := by
  have hdown : ∀ m n s w F, I (n + m) s w F → I n s w F := by
    intro m
    induction m with
    | zero => intro n s w F h; exact h
    | succ m ih => intro n s w F h; exact ih n s w F (hmono _ s w F h)
  intro t
  replace hI := Lib.hid hI
  replace hf := Lib.hid hf
  replace hdown := Lib.hid hdown
  clear hmono
  induction t with
  | num x =>
    intro u A c s w F hok hs hc hp
    replace hs := Lib.hid hs
    simp only [Tk.enc, Task.kind, Task.n, Task.parts, Tk.ok] at hok hc hp ⊢
    go_enter Try.func77, Try.ntmps77
    go_wp2_with fail
    go_ret2
    exact ⟨rfl, hok.1, hok.2, F, (hI.out _).alloc _ _ _ _ hs.out, (Turn.refl F w).alloc _⟩
  | get k =>
    intro u A c s w F hok hs hc hp
    replace hs := Lib.hid hs
    simp only [Tk.enc, Task.kind, Task.n, Task.parts, Tk.ok] at hok hc hp ⊢
    go_enter Try.func77, Try.ntmps77
    go_wp2_with ((with_reducible refine wpList_call_value (by rfl) (.tmp 17) _ _ (by rfl) g first cap (by with_unfolding_all rfl) hg ?_); refine (hf.out u s k _ F ((hI.out _).alloc _ _ _ _ hs.out) hok.1 hok.2).mono ?_; rintro e w' ⟨rfl, h1, h2, F', h3, h4⟩; replace h3 := Lib.hid h3; refine ⟨_, rfl, ?_⟩)
    go_ret2
    exact ⟨rfl, h1, h2, F', h3.out, ((Turn.refl F w).alloc _).trans h4⟩
  | add a b iha ihb =>
    intro u A c s w F hok hs hc hp
    replace hs : I (u + b.fets + a.fets) s w F := by
      have e : u + (a.fets + b.fets) = u + b.fets + a.fets := by omega
      exact e ▸ hs
    replace hs := Lib.hid hs
    replace iha := Lib.hid iha
    replace ihb := Lib.hid ihb
    simp only [Tk.enc, Task.kind, Task.n, Task.parts, Tk.ok] at hok hc hp ⊢
    obtain ⟨b0, o0, A0, c0, rfl, hb0, hx0, hy0, hz0, hc0, hm0, hp0⟩ := hp.at ((hI.out _).old _ _ _ hs.out).1 0 (by simp)
    have hlt : b0 < w.heap.size := Nat.lt_of_lt_of_le hb0 ((hI.out _).old _ _ _ hs.out).2
    simp only [List.getElem_cons_zero, Nat.zero_mul, Nat.add_zero] at hx0 hy0 hz0 hc0 hp0
    have hlen : ([a.enc, b.enc] : List Task).length = 2 := rfl
    simp only [hlen] at hc ⊢
    clear hlen
    go_enter Try.func77, Try.ntmps77
    go_wp2_with fail
    refine (iha.out (u + b.fets) A0 c0 s _ F hok.1 ((hI.out _).alloc _ _ _ _ hs.out) hc0 hp0).mono ?_
    rintro e w1 ⟨rfl, v1, v2, F1, h3, h4⟩
    replace h3 := Lib.hid h3
    have t1 := ((Turn.refl F w).alloc _).trans h4
    have hn : ¬ F w.heap.size := fun h => by have := ((hI.out _).own _ _ _ hs.out _ h).2; omega
    have hn1 : ¬ F1 w.heap.size := fun h => (h4.fresh _ h).elim hn (fun h => by simp at h; omega)
    have bx0 : w1.cell? ⟨w.heap.size, 0, none⟩ = some (.int .i64 2) := (h4.cell 0 (by simp) hn).trans (by simp)
    have bx1 : w1.cell? ⟨w.heap.size, 1, none⟩ = some (.int .i64 0) := (h4.cell 1 (by simp) hn).trans (by simp)
    have bx2 : w1.cell? ⟨w.heap.size, 2, none⟩ = some (.slice (some ⟨b0, o0, none⟩) 2 c) := (h4.cell 2 (by simp) hn).trans (by simp)
    have hlt1 : b0 < w1.heap.size := Nat.lt_of_lt_of_le hlt t1.size
    obtain ⟨b1, o1, A1, c1, e1, _, hx1, hy1, hz1, hc1, hm1, hp1⟩ := hp.at ((hI.out _).old _ _ _ h3.out).1 1 (by simp)
    simp only [Option.some.injEq, Addr.mk.injEq, and_true] at e1
    obtain ⟨rfl, rfl⟩ := e1
    simp only [List.getElem_cons_zero, List.getElem_cons_succ, Nat.one_mul, Nat.reduceMul] at hx1 hy1 hz1 hc1 hp1
    replace t1 := Lib.hid t1
    have szl : w.heap.size < w1.heap.size := by have := h4.size; simp at this; omega
    replace hn := Lib.hid hn
    replace hn1 := Lib.hid hn1
    clear h4 hx0 hy0 hz0 hlt
    cases hr : (a.run f s).1.2 with
    | false =>
      go_wp2_with fail
      go_ret2
      exact ⟨by simp [Tk.run, hr], by simp [Tk.run, hr], by simp [Tk.run, hr], F1, by simpa [Tk.run, hr] using hdown.out (b.fets) u _ _ _ (by rw [show u + (b.fets) = u + b.fets from by omega]; exact h3.out), t1.out⟩
    | true =>
      go_wp2_with fail
      refine (ihb.out u A1 c1 _ _ F1 hok.2 h3.out hc1 hp1).mono ?_
      rintro e w2 ⟨rfl, u1, u2, F2, h5, h6⟩
      replace h5 := Lib.hid h5
      have by0 : w2.cell? ⟨w.heap.size, 0, none⟩ = some (.int .i64 2) := (h6.cell 0 szl hn1.out).trans bx0
      replace h6 := Lib.hid h6
      clear bx0 bx1 bx2 hx1 hy1 hz1 hlt1
      cases hq : (b.run f (a.run f s).2).1.2 with
      | false =>
        go_wp2_with fail
        go_ret2
        exact ⟨by simp [Tk.run, hr, hq], by simp [Tk.run, hr, hq], by simp [Tk.run, hr, hq], F2, by simpa [Tk.run, hr, hq] using h5.out, t1.out.trans h6.out⟩
      | true =>
        have hrun : Tk.run f (a.add b) s = ((((a.run f s).1.1 + (b.run f (a.run f s).2).1.1) % 97, true), (b.run f (a.run f s).2).2) := by simp [Tk.run, hr, hq]
        replace hrun := Lib.hid hrun
        generalize (b.run f (a.run f s).2).1.1 = y at *
        generalize (a.run f s).1.1 = x at *
        skip
        go_wp2_with fail
        go_ret2
        rw [hrun.out]
        exact ⟨rfl, by simp only []; omega, by simp only []; omega, F2, h5.out, t1.out.trans h6.out⟩
  | mul a b iha ihb =>
    intro u A c s w F hok hs hc hp
    replace hs : I (u + b.fets + a.fets) s w F := by
      have e : u + (a.fets + b.fets) = u + b.fets + a.fets := by omega
      exact e ▸ hs
    replace hs := Lib.hid hs
    replace iha := Lib.hid iha
    replace ihb := Lib.hid ihb
    simp only [Tk.enc, Task.kind, Task.n, Task.parts, Tk.ok] at hok hc hp ⊢
    obtain ⟨b0, o0, A0, c0, rfl, hb0, hx0, hy0, hz0, hc0, hm0, hp0⟩ := hp.at ((hI.out _).old _ _ _ hs.out).1 0 (by simp)
    have hlt : b0 < w.heap.size := Nat.lt_of_lt_of_le hb0 ((hI.out _).old _ _ _ hs.out).2
    simp only [List.getElem_cons_zero, Nat.zero_mul, Nat.add_zero] at hx0 hy0 hz0 hc0 hp0
    have hlen : ([a.enc, b.enc] : List Task).length = 2 := rfl
    simp only [hlen] at hc ⊢
    clear hlen
    go_enter Try.func77, Try.ntmps77
    go_wp2_with fail
    refine (iha.out (u + b.fets) A0 c0 s _ F hok.1 ((hI.out _).alloc _ _ _ _ hs.out) hc0 hp0).mono ?_
    rintro e w1 ⟨rfl, v1, v2, F1, h3, h4⟩
    replace h3 := Lib.hid h3
    have t1 := ((Turn.refl F w).alloc _).trans h4
    have hn : ¬ F w.heap.size := fun h => by have := ((hI.out _).own _ _ _ hs.out _ h).2; omega
    have hn1 : ¬ F1 w.heap.size := fun h => (h4.fresh _ h).elim hn (fun h => by simp at h; omega)
    have bx0 : w1.cell? ⟨w.heap.size, 0, none⟩ = some (.int .i64 3) := (h4.cell 0 (by simp) hn).trans (by simp)
    have bx1 : w1.cell? ⟨w.heap.size, 1, none⟩ = some (.int .i64 0) := (h4.cell 1 (by simp) hn).trans (by simp)
    have bx2 : w1.cell? ⟨w.heap.size, 2, none⟩ = some (.slice (some ⟨b0, o0, none⟩) 2 c) := (h4.cell 2 (by simp) hn).trans (by simp)
    have hlt1 : b0 < w1.heap.size := Nat.lt_of_lt_of_le hlt t1.size
    obtain ⟨b1, o1, A1, c1, e1, _, hx1, hy1, hz1, hc1, hm1, hp1⟩ := hp.at ((hI.out _).old _ _ _ h3.out).1 1 (by simp)
    simp only [Option.some.injEq, Addr.mk.injEq, and_true] at e1
    obtain ⟨rfl, rfl⟩ := e1
    simp only [List.getElem_cons_zero, List.getElem_cons_succ, Nat.one_mul, Nat.reduceMul] at hx1 hy1 hz1 hc1 hp1
    replace t1 := Lib.hid t1
    have szl : w.heap.size < w1.heap.size := by have := h4.size; simp at this; omega
    replace hn := Lib.hid hn
    replace hn1 := Lib.hid hn1
    clear h4 hx0 hy0 hz0 hlt
    cases hr : (a.run f s).1.2 with
    | false =>
      go_wp2_with fail
      go_ret2
      exact ⟨by simp [Tk.run, hr], by simp [Tk.run, hr], by simp [Tk.run, hr], F1, by simpa [Tk.run, hr] using hdown.out (b.fets) u _ _ _ (by rw [show u + (b.fets) = u + b.fets from by omega]; exact h3.out), t1.out⟩
    | true =>
      go_wp2_with fail
      refine (ihb.out u A1 c1 _ _ F1 hok.2 h3.out hc1 hp1).mono ?_
      rintro e w2 ⟨rfl, u1, u2, F2, h5, h6⟩
      replace h5 := Lib.hid h5
      have by0 : w2.cell? ⟨w.heap.size, 0, none⟩ = some (.int .i64 3) := (h6.cell 0 szl hn1.out).trans bx0
      replace h6 := Lib.hid h6
      clear bx0 bx1 bx2 hx1 hy1 hz1 hlt1
      cases hq : (b.run f (a.run f s).2).1.2 with
      | false =>
        go_wp2_with fail
        go_ret2
        exact ⟨by simp [Tk.run, hr, hq], by simp [Tk.run, hr, hq], by simp [Tk.run, hr, hq], F2, by simpa [Tk.run, hr, hq] using h5.out, t1.out.trans h6.out⟩
      | true =>
        have hrun : Tk.run f (a.mul b) s = ((((a.run f s).1.1 * (b.run f (a.run f s).2).1.1) % 97, true), (b.run f (a.run f s).2).2) := by simp [Tk.run, hr, hq]
        replace hrun := Lib.hid hrun
        generalize (b.run f (a.run f s).2).1.1 = y at *
        generalize (a.run f s).1.1 = x at *
        have hxy : 0 ≤ x * y ∧ x * y ≤ 9216 := mul_bound v1 v2 u1 u2
        go_wp2_with fail
        go_ret2
        rw [hrun.out]
        exact ⟨rfl, by simp only []; omega, by simp only []; omega, F2, h5.out, t1.out.trans h6.out⟩
  | cond a b d iha ihb ihd =>
    intro u A c s w F hok hs hc hp
    replace hs : I (u + b.fets + d.fets + a.fets) s w F := by
      have e : u + (a.fets + b.fets + d.fets) = u + b.fets + d.fets + a.fets := by omega
      exact e ▸ hs
    replace hs := Lib.hid hs
    replace iha := Lib.hid iha
    replace ihb := Lib.hid ihb
    replace ihd := Lib.hid ihd
    simp only [Tk.enc, Task.kind, Task.n, Task.parts, Tk.ok] at hok hc hp ⊢
    obtain ⟨b0, o0, A0, c0, rfl, hb0, hx0, hy0, hz0, hc0, hm0, hp0⟩ := hp.at ((hI.out _).old _ _ _ hs.out).1 0 (by simp)
    have hlt : b0 < w.heap.size := Nat.lt_of_lt_of_le hb0 ((hI.out _).old _ _ _ hs.out).2
    simp only [List.getElem_cons_zero, Nat.zero_mul, Nat.add_zero] at hx0 hy0 hz0 hc0 hp0
    have hlen : ([a.enc, b.enc, d.enc] : List Task).length = 3 := rfl
    simp only [hlen] at hc ⊢
    clear hlen
    go_enter Try.func77, Try.ntmps77
    go_wp2_with fail
    refine (iha.out (u + b.fets + d.fets) A0 c0 s _ F hok.1 ((hI.out _).alloc _ _ _ _ hs.out) hc0 hp0).mono ?_
    rintro e w1 ⟨rfl, v1, v2, F1, h3, h4⟩
    replace h3 := Lib.hid h3
    have t1 := ((Turn.refl F w).alloc _).trans h4
    have hn : ¬ F w.heap.size := fun h => by have := ((hI.out _).own _ _ _ hs.out _ h).2; omega
    have hn1 : ¬ F1 w.heap.size := fun h => (h4.fresh _ h).elim hn (fun h => by simp at h; omega)
    have bx0 : w1.cell? ⟨w.heap.size, 0, none⟩ = some (.int .i64 4) := (h4.cell 0 (by simp) hn).trans (by simp)
    have bx1 : w1.cell? ⟨w.heap.size, 1, none⟩ = some (.int .i64 0) := (h4.cell 1 (by simp) hn).trans (by simp)
    have bx2 : w1.cell? ⟨w.heap.size, 2, none⟩ = some (.slice (some ⟨b0, o0, none⟩) 3 c) := (h4.cell 2 (by simp) hn).trans (by simp)
    have hlt1 : b0 < w1.heap.size := Nat.lt_of_lt_of_le hlt t1.size
    obtain ⟨b1, o1, A1, c1, e1, _, hx1, hy1, hz1, hc1, hm1, hp1⟩ := hp.at ((hI.out _).old _ _ _ h3.out).1 1 (by simp)
    simp only [Option.some.injEq, Addr.mk.injEq, and_true] at e1
    obtain ⟨rfl, rfl⟩ := e1
    simp only [List.getElem_cons_zero, List.getElem_cons_succ, Nat.one_mul, Nat.reduceMul] at hx1 hy1 hz1 hc1 hp1
    obtain ⟨b2, o2, A2, c2, e2, _, hx2, hy2, hz2, hc2, hm2, hp2⟩ := hp.at ((hI.out _).old _ _ _ h3.out).1 2 (by simp)
    simp only [Option.some.injEq, Addr.mk.injEq, and_true] at e2
    obtain ⟨rfl, rfl⟩ := e2
    simp only [List.getElem_cons_zero, List.getElem_cons_succ, Nat.one_mul, Nat.reduceMul] at hx2 hy2 hz2 hc2 hp2
    replace t1 := Lib.hid t1
    have szl : w.heap.size < w1.heap.size := by have := h4.size; simp at this; omega
    replace hn := Lib.hid hn
    replace hn1 := Lib.hid hn1
    clear h4 hx0 hy0 hz0 hlt
    cases hr : (a.run f s).1.2 with
    | false =>
      go_wp2_with fail
      go_ret2
      exact ⟨by simp [Tk.run, hr], by simp [Tk.run, hr], by simp [Tk.run, hr], F1, by simpa [Tk.run, hr] using hdown.out (b.fets + d.fets) u _ _ _ (by rw [show u + (b.fets + d.fets) = u + b.fets + d.fets from by omega]; exact h3.out), t1.out⟩
    | true =>
      by_cases hz : (a.run f s).1.1 = 0
      · have hz' : ((a.run f s).1.1 != 0) = false := by simp [hz]
        replace hz := Lib.hid hz
        go_wp2_with fail
        refine (ihd.out (u + b.fets) A2 c2 _ _ F1 hok.2.2 h3.out hc2 hp2).mono ?_
        rintro e w2 ⟨rfl, u1, u2, F2, h5, h6⟩
        replace h5 := Lib.hid h5
        replace h6 := Lib.hid h6
        have hrun : Tk.run f (Tk.cond a b d) s = d.run f (a.run f s).2 := by simp [Tk.run, hr, hz.out]
        replace hrun := Lib.hid hrun
        go_wp2_with fail
        go_ret2
        rw [hrun.out]
        exact ⟨rfl, u1, u2, F2, hdown.out _ _ _ _ _ h5.out, t1.out.trans h6.out⟩
      · have hz' : ((a.run f s).1.1 != 0) = true := by simp [hz]
        replace hz := Lib.hid hz
        go_wp2_with fail
        refine (ihb.out (u + d.fets) A1 c1 _ _ F1 hok.2.1 (by rw [show u + d.fets + b.fets = u + b.fets + d.fets from by omega]; exact h3.out) hc1 hp1).mono ?_
        rintro e w2 ⟨rfl, u1, u2, F2, h5, h6⟩
        replace h5 := Lib.hid h5
        replace h6 := Lib.hid h6
        have hrun : Tk.run f (Tk.cond a b d) s = b.run f (a.run f s).2 := by simp [Tk.run, hr, hz.out]
        replace hrun := Lib.hid hrun
        go_wp2_with fail
        go_ret2
        rw [hrun.out]
        exact ⟨rfl, u1, u2, F2, hdown.out _ _ _ _ _ h5.out, t1.out.trans h6.out⟩
  | ix n a iha =>
    intro u A c s w F hok hs hc hp
    replace hs : I (u + 1 + a.fets) s w F := by
      have e : u + (a.fets + 1) = u + 1 + a.fets := by omega
      exact e ▸ hs
    replace hs := Lib.hid hs
    replace iha := Lib.hid iha
    simp only [Tk.enc, Task.kind, Task.n, Task.parts, Tk.ok] at hok hc hp ⊢
    obtain ⟨b0, o0, A0, c0, rfl, hb0, hx0, hy0, hz0, hc0, hm0, hp0⟩ := hp.at ((hI.out _).old _ _ _ hs.out).1 0 (by simp)
    have hlt : b0 < w.heap.size := Nat.lt_of_lt_of_le hb0 ((hI.out _).old _ _ _ hs.out).2
    simp only [List.getElem_cons_zero, Nat.zero_mul, Nat.add_zero] at hx0 hy0 hz0 hc0 hp0
    have hlen : ([a.enc] : List Task).length = 1 := rfl
    simp only [hlen] at hc ⊢
    clear hlen
    go_enter Try.func77, Try.ntmps77
    go_wp2_with fail
    refine (iha.out (u + 1) A0 c0 s _ F hok.2.2 ((hI.out _).alloc _ _ _ _ hs.out) hc0 hp0).mono ?_
    rintro e w1 ⟨rfl, v1, v2, F1, h3, h4⟩
    replace h3 := Lib.hid h3
    have t1 := ((Turn.refl F w).alloc _).trans h4
    have hn : ¬ F w.heap.size := fun h => by have := ((hI.out _).own _ _ _ hs.out _ h).2; omega
    have hn1 : ¬ F1 w.heap.size := fun h => (h4.fresh _ h).elim hn (fun h => by simp at h; omega)
    have bx0 : w1.cell? ⟨w.heap.size, 0, none⟩ = some (.int .i64 5) := (h4.cell 0 (by simp) hn).trans (by simp)
    have bx1 : w1.cell? ⟨w.heap.size, 1, none⟩ = some (.int .i64 n) := (h4.cell 1 (by simp) hn).trans (by simp)
    have bx2 : w1.cell? ⟨w.heap.size, 2, none⟩ = some (.slice (some ⟨b0, o0, none⟩) 1 c) := (h4.cell 2 (by simp) hn).trans (by simp)
    have hlt1 : b0 < w1.heap.size := Nat.lt_of_lt_of_le hlt t1.size
    replace t1 := Lib.hid t1
    have szl : w.heap.size < w1.heap.size := by have := h4.size; simp at this; omega
    replace hn := Lib.hid hn
    replace hn1 := Lib.hid hn1
    clear h4 hx0 hy0 hz0 hlt
    cases hr : (a.run f s).1.2 with
    | false =>
      go_wp2_with fail
      go_ret2
      exact ⟨by simp [Tk.run, hr], by simp [Tk.run, hr], by simp [Tk.run, hr], F1, by simpa [Tk.run, hr] using hdown.out (1) u _ _ _ (by rw [show u + (1) = u + 1 from by omega]; exact h3.out), t1.out⟩
    | true =>
      have hrun : Tk.run f (Tk.ix n a) s = f (a.run f s).2 ((n + (a.run f s).1.1) % 10) := by simp [Tk.run, hr]
      replace hrun := Lib.hid hrun
      generalize (a.run f s).1.1 = x at *
      have n1 := hok.1
      have n2 := hok.2.1
      clear hok
      go_wp2_with ((with_reducible refine wpList_call_value (by rfl) (.tmp 38) _ _ (by rfl) g first cap (by with_unfolding_all rfl) hg ?_); refine (hf.out u _ ((n + x) % 10) _ F1 h3.out (by omega) (by omega)).mono ?_; rintro e w' ⟨rfl, u1, u2, F2, h5, h6⟩; replace h5 := Lib.hid h5; refine ⟨_, rfl, ?_⟩)
      go_ret2
      rw [hrun.out]
      exact ⟨rfl, u1, u2, F2, h5.out, t1.out.trans h6⟩

theorem run_calls {σ : Type} (I : σ → World → (Nat → Prop) → Prop) (f : σ → Int → (Int × Bool) × σ) (g : Nat) (first cap : Array Value) (B : Nat) (w0 : World) (hg : Enters Try.prog g)
    (hI : Holds I B w0)
    (hf : ∀ s k w F, I s w F → 0 ≤ k → k ≤ 9 → Calls Try.prog g (first ++ #[.int .i64 k] ++ cap) w (Gives I F w (f s k))) (t : Tk) (A : Option Addr) (c : Nat) (s : σ) (w : World) (F : Nat → Prop) (hok : t.ok) (hs : I s w F) (hc : t.enc.parts.length ≤ c) (hp : PartsIs B w0 A 0 t.enc.parts) :
    Calls Try.prog 77 #[.agg #[.int .i64 t.enc.kind, .int .i64 t.enc.n, .slice A t.enc.parts.length c], .func (.func g) first cap] w (Gives I F w (t.run f s)) :=
  run_callsN (fun _ => I) f g first cap B w0 hg (fun _ => hI) (fun _ _ _ _ h => h) (fun _ => hf) t 0 A c s w F hok hs hc hp
end Go.Proofs.Ytagmdljdcnmpdaa
