import Derived.Test.YtpccgdkidnkppaaProg
import Derived.Laws.MakeOwn
import Derived.Test.YtpccgdkidnkppaaPk1FnExactRowNew
import Derived.Test.YtpccgdkidnkppaaPk2FnExactRowNew
set_option linter.unusedVariables false
set_option linter.unusedSimpArgs false
namespace Go.Proofs.Ytpccgdkidnkppaa
open Go Go.RowKit

/-- the post of a call that gives an int and a truth, and leaves a state -/
def Gives {σ : Type} (I : σ → World → (Nat → Prop) → Prop) (F : Nat → Prop) (w : World) (r : (Int × Bool) × σ) (e : Ending) (w' : World) : Prop :=
  e = .returned (.tuple #[.int .i64 r.1.1, .bool r.1.2]) ∧ 0 ≤ r.1.1 ∧ r.1.1 ≤ 96 ∧ ∃ F', I r.2 w' F' ∧ Turn F F' w w'

/-- what a state's predicate is to keep -/
structure Holds {σ : Type} (I : σ → World → (Nat → Prop) → Prop) (B : Nat) (w0 : World) : Prop where
  old : ∀ s w F, I s w F → Below B w0 w ∧ B ≤ w.heap.size
  own : ∀ s w F, I s w F → ∀ i, F i → B ≤ i ∧ i < w.heap.size
  alloc : ∀ s w F o, I s w F → I s (w.alloc o) F

theorem mul_bound {x y : Int} (a : 0 ≤ x) (b : x ≤ 96) (c : 0 ≤ y) (d : y ≤ 96) : 0 ≤ x * y ∧ x * y ≤ 9216 :=
  ⟨Int.mul_nonneg a c, by have := Int.mul_le_mul b d c (by omega); omega⟩

/-- how often a task may fetch -/
def Tk.fets : Tk → Nat
  | .num _ => 0
  | .get _ => 1
  | .add a b => a.fets + b.fets
  | .mul a b => a.fets + b.fets
  | .cond a b d => a.fets + b.fets + d.fets
  | .ix _ a => a.fets + 1

set_option maxHeartbeats 1000000 in
/-- a task that is run with a fetch that keeps I; the number says how many fetches are left -/
theorem run_callsN {σ : Type} (I : Nat → σ → World → (Nat → Prop) → Prop) (f : σ → Int → (Int × Bool) × σ) (g : Nat) (first cap : Array Value) (B : Nat) (w0 : World) (hg : Enters Try.prog g)
    (hI : ∀ n, Holds (I n) B w0) (hmono : ∀ n s w F, I (n + 1) s w F → I n s w F)
    (hf : ∀ n s k w F, I (n + 1) s w F → 0 ≤ k → k ≤ 9 → Calls Try.prog g (first ++ #[.int .i64 k] ++ cap) w (Gives (I n) F w (f s k))) :
    ∀ (t : Tk) (u : Nat) (A : Option Addr) (c : Nat) (s : σ) (w : World) (F : Nat → Prop), t.ok → I (u + t.fets) s w F → t.enc.parts.length ≤ c → PartsIs B w0 A 0 t.enc.parts →
      Calls Try.prog 128 #[.agg #[.int .i64 t.enc.kind, .int .i64 t.enc.n, .slice A t.enc.parts.length c], .func (.func g) first cap] w (Gives (I u) F w (t.run f s)) := by
  have hdown : ∀ m n s w F, I (n + m) s w F → I n s w F := by
    intro m
    induction m with
    | zero => intro n s w F h; exact h
    | succ m ih => intro n s w F h; exact ih n s w F (hmono _ s w F h)
  intro t
  replace hI := Lib.hid hI
  replace hf := Lib.hid hf
  replace hdown := Lib.hid hdown
  clear hmono
  induction t with
  | num x =>
    intro u A c s w F hok hs hc hp
    replace hs := Lib.hid hs
    simp only [Tk.enc, Task.kind, Task.n, Task.parts, Tk.ok] at hok hc hp ⊢
    go_enter Try.func128, Try.ntmps128
    go_wp2_with fail
    go_ret2
    exact ⟨rfl, hok.1, hok.2, F, (hI.out _).alloc _ _ _ _ hs.out, (Turn.refl F w).alloc _⟩
  | get k =>
    intro u A c s w F hok hs hc hp
    replace hs := Lib.hid hs
    simp only [Tk.enc, Task.kind, Task.n, Task.parts, Tk.ok] at hok hc hp ⊢
    go_enter Try.func128, Try.ntmps128
    go_wp2_with ((with_reducible refine wpList_call_value (by rfl) (.tmp 17) _ _ (by rfl) g first cap (by with_unfolding_all rfl) hg ?_); refine (hf.out u s k _ F ((hI.out _).alloc _ _ _ _ hs.out) hok.1 hok.2).mono ?_; rintro e w' ⟨rfl, h1, h2, F', h3, h4⟩; replace h3 := Lib.hid h3; refine ⟨_, rfl, ?_⟩)
    go_ret2
    exact ⟨rfl, h1, h2, F', h3.out, ((Turn.refl F w).alloc _).trans h4⟩
  | add a b iha ihb =>
    intro u A c s w F hok hs hc hp
    replace hs : I (u + b.fets + a.fets) s w F := by
      have e : u + (a.fets + b.fets) = u + b.fets + a.fets := by omega
      exact e ▸ hs
    replace hs := Lib.hid hs
    replace iha := Lib.hid iha
    replace ihb := Lib.hid ihb
    simp only [Tk.enc, Task.kind, Task.n, Task.parts, Tk.ok] at hok hc hp ⊢
    obtain ⟨b0, o0, A0, c0, rfl, hb0, hx0, hy0, hz0, hc0, hm0, hp0⟩ := hp.at ((hI.out _).old _ _ _ hs.out).1 0 (by simp)
    have hlt : b0 < w.heap.size := Nat.lt_of_lt_of_le hb0 ((hI.out _).old _ _ _ hs.out).2
    simp only [List.getElem_cons_zero, Nat.zero_mul, Nat.add_zero] at hx0 hy0 hz0 hc0 hp0
    have hlen : ([a.enc, b.enc] : List Task).length = 2 := rfl
    simp only [hlen] at hc ⊢
    clear hlen
    go_enter Try.func128, Try.ntmps128
    go_wp2_with fail
    refine (iha.out (u + b.fets) A0 c0 s _ F hok.1 ((hI.out _).alloc _ _ _ _ hs.out) hc0 hp0).mono ?_
    rintro e w1 ⟨rfl, v1, v2, F1, h3, h4⟩
    replace h3 := Lib.hid h3
    have t1 := ((Turn.refl F w).alloc _).trans h4
    have hn : ¬ F w.heap.size := fun h => by have := ((hI.out _).own _ _ _ hs.out _ h).2; omega
    have hn1 : ¬ F1 w.heap.size := fun h => (h4.fresh _ h).elim hn (fun h => by simp at h; omega)
    have bx0 : w1.cell? ⟨w.heap.size, 0, none⟩ = some (.int .i64 2) := (h4.cell 0 (by simp) hn).trans (by simp)
    have bx1 : w1.cell? ⟨w.heap.size, 1, none⟩ = some (.int .i64 0) := (h4.cell 1 (by simp) hn).trans (by simp)
    have bx2 : w1.cell? ⟨w.heap.size, 2, none⟩ = some (.slice (some ⟨b0, o0, none⟩) 2 c) := (h4.cell 2 (by simp) hn).trans (by simp)
    have hlt1 : b0 < w1.heap.size := Nat.lt_of_lt_of_le hlt t1.size
    obtain ⟨b1, o1, A1, c1, e1, _, hx1, hy1, hz1, hc1, hm1, hp1⟩ := hp.at ((hI.out _).old _ _ _ h3.out).1 1 (by simp)
    simp only [Option.some.injEq, Addr.mk.injEq, and_true] at e1
    obtain ⟨rfl, rfl⟩ := e1
    simp only [List.getElem_cons_zero, List.getElem_cons_succ, Nat.one_mul, Nat.reduceMul] at hx1 hy1 hz1 hc1 hp1
    replace t1 := Lib.hid t1
    have szl : w.heap.size < w1.heap.size := by have := h4.size; simp at this; omega
    replace hn := Lib.hid hn
    replace hn1 := Lib.hid hn1
    clear h4 hx0 hy0 hz0 hlt
    cases hr : (a.run f s).1.2 with
    | false =>
      go_wp2_with fail
      go_ret2
      exact ⟨by simp [Tk.run, hr], by simp [Tk.run, hr], by simp [Tk.run, hr], F1, by simpa [Tk.run, hr] using hdown.out (b.fets) u _ _ _ (by rw [show u + (b.fets) = u + b.fets from by omega]; exact h3.out), t1.out⟩
    | true =>
      go_wp2_with fail
      refine (ihb.out u A1 c1 _ _ F1 hok.2 h3.out hc1 hp1).mono ?_
      rintro e w2 ⟨rfl, u1, u2, F2, h5, h6⟩
      replace h5 := Lib.hid h5
      have by0 : w2.cell? ⟨w.heap.size, 0, none⟩ = some (.int .i64 2) := (h6.cell 0 szl hn1.out).trans bx0
      replace h6 := Lib.hid h6
      clear bx0 bx1 bx2 hx1 hy1 hz1 hlt1
      cases hq : (b.run f (a.run f s).2).1.2 with
      | false =>
        go_wp2_with fail
        go_ret2
        exact ⟨by simp [Tk.run, hr, hq], by simp [Tk.run, hr, hq], by simp [Tk.run, hr, hq], F2, by simpa [Tk.run, hr, hq] using h5.out, t1.out.trans h6.out⟩
      | true =>
        have hrun : Tk.run f (a.add b) s = ((((a.run f s).1.1 + (b.run f (a.run f s).2).1.1) % 97, true), (b.run f (a.run f s).2).2) := by simp [Tk.run, hr, hq]
        replace hrun := Lib.hid hrun
        generalize (b.run f (a.run f s).2).1.1 = y at *
        generalize (a.run f s).1.1 = x at *
        skip
        go_wp2_with fail
        go_ret2
        rw [hrun.out]
        exact ⟨rfl, by simp only []; omega, by simp only []; omega, F2, h5.out, t1.out.trans h6.out⟩
  | mul a b iha ihb =>
    intro u A c s w F hok hs hc hp
    replace hs : I (u + b.fets + a.fets) s w F := by
      have e : u + (a.fets + b.fets) = u + b.fets + a.fets := by omega
      exact e ▸ hs
    replace hs := Lib.hid hs
    replace iha := Lib.hid iha
    replace ihb := Lib.hid ihb
    simp only [Tk.enc, Task.kind, Task.n, Task.parts, Tk.ok] at hok hc hp ⊢
    obtain ⟨b0, o0, A0, c0, rfl, hb0, hx0, hy0, hz0, hc0, hm0, hp0⟩ := hp.at ((hI.out _).old _ _ _ hs.out).1 0 (by simp)
    have hlt : b0 < w.heap.size := Nat.lt_of_lt_of_le hb0 ((hI.out _).old _ _ _ hs.out).2
    simp only [List.getElem_cons_zero, Nat.zero_mul, Nat.add_zero] at hx0 hy0 hz0 hc0 hp0
    have hlen : ([a.enc, b.enc] : List Task).length = 2 := rfl
    simp only [hlen] at hc ⊢
    clear hlen
    go_enter Try.func128, Try.ntmps128
    go_wp2_with fail
    refine (iha.out (u + b.fets) A0 c0 s _ F hok.1 ((hI.out _).alloc _ _ _ _ hs.out) hc0 hp0).mono ?_
    rintro e w1 ⟨rfl, v1, v2, F1, h3, h4⟩
    replace h3 := Lib.hid h3
    have t1 := ((Turn.refl F w).alloc _).trans h4
    have hn : ¬ F w.heap.size := fun h => by have := ((hI.out _).own _ _ _ hs.out _ h).2; omega
    have hn1 : ¬ F1 w.heap.size := fun h => (h4.fresh _ h).elim hn (fun h => by simp at h; omega)
    have bx0 : w1.cell? ⟨w.heap.size, 0, none⟩ = some (.int .i64 3) := (h4.cell 0 (by simp) hn).trans (by simp)
    have bx1 : w1.cell? ⟨w.heap.size, 1, none⟩ = some (.int .i64 0) := (h4.cell 1 (by simp) hn).trans (by simp)
    have bx2 : w1.cell? ⟨w.heap.size, 2, none⟩ = some (.slice (some ⟨b0, o0, none⟩) 2 c) := (h4.cell 2 (by simp) hn).trans (by simp)
    have hlt1 : b0 < w1.heap.size := Nat.lt_of_lt_of_le hlt t1.size
    obtain ⟨b1, o1, A1, c1, e1, _, hx1, hy1, hz1, hc1, hm1, hp1⟩ := hp.at ((hI.out _).old _ _ _ h3.out).1 1 (by simp)
    simp only [Option.some.injEq, Addr.mk.injEq, and_true] at e1
    obtain ⟨rfl, rfl⟩ := e1
    simp only [List.getElem_cons_zero, List.getElem_cons_succ, Nat.one_mul, Nat.reduceMul] at hx1 hy1 hz1 hc1 hp1
    replace t1 := Lib.hid t1
    have szl : w.heap.size < w1.heap.size := by have := h4.size; simp at this; omega
    replace hn := Lib.hid hn
    replace hn1 := Lib.hid hn1
    clear h4 hx0 hy0 hz0 hlt
    cases hr : (a.run f s).1.2 with
    | false =>
      go_wp2_with fail
      go_ret2
      exact ⟨by simp [Tk.run, hr], by simp [Tk.run, hr], by simp [Tk.run, hr], F1, by simpa [Tk.run, hr] using hdown.out (b.fets) u _ _ _ (by rw [show u + (b.fets) = u + b.fets from by omega]; exact h3.out), t1.out⟩
    | true =>
      go_wp2_with fail
      refine (ihb.out u A1 c1 _ _ F1 hok.2 h3.out hc1 hp1).mono ?_
      rintro e w2 ⟨rfl, u1, u2, F2, h5, h6⟩
      replace h5 := Lib.hid h5
      have by0 : w2.cell? ⟨w.heap.size, 0, none⟩ = some (.int .i64 3) := (h6.cell 0 szl hn1.out).trans bx0
      replace h6 := Lib.hid h6
      clear bx0 bx1 bx2 hx1 hy1 hz1 hlt1
      cases hq : (b.run f (a.run f s).2).1.2 with
      | false =>
        go_wp2_with fail
        go_ret2
        exact ⟨by simp [Tk.run, hr, hq], by simp [Tk.run, hr, hq], by simp [Tk.run, hr, hq], F2, by simpa [Tk.run, hr, hq] using h5.out, t1.out.trans h6.out⟩
      | true =>
        have hrun : Tk.run f (a.mul b) s = ((((a.run f s).1.1 * (b.run f (a.run f s).2).1.1) % 97, true), (b.run f (a.run f s).2).2) := by simp [Tk.run, hr, hq]
        replace hrun := Lib.hid hrun
        generalize (b.run f (a.run f s).2).1.1 = y at *
        generalize (a.run f s).1.1 = x at *
        have hxy : 0 ≤ x * y ∧ x * y ≤ 9216 := mul_bound v1 v2 u1 u2
        go_wp2_with fail
        go_ret2
        rw [hrun.out]
        exact ⟨rfl, by simp only []; omega, by simp only []; omega, F2, h5.out, t1.out.trans h6.out⟩
  | cond a b d iha ihb ihd =>
    intro u A c s w F hok hs hc hp
    replace hs : I (u + b.fets + d.fets + a.fets) s w F := by
      have e : u + (a.fets + b.fets + d.fets) = u + b.fets + d.fets + a.fets := by omega
      exact e ▸ hs
    replace hs := Lib.hid hs
    replace iha := Lib.hid iha
    replace ihb := Lib.hid ihb
    replace ihd := Lib.hid ihd
    simp only [Tk.enc, Task.kind, Task.n, Task.parts, Tk.ok] at hok hc hp ⊢
    obtain ⟨b0, o0, A0, c0, rfl, hb0, hx0, hy0, hz0, hc0, hm0, hp0⟩ := hp.at ((hI.out _).old _ _ _ hs.out).1 0 (by simp)
    have hlt : b0 < w.heap.size := Nat.lt_of_lt_of_le hb0 ((hI.out _).old _ _ _ hs.out).2
    simp only [List.getElem_cons_zero, Nat.zero_mul, Nat.add_zero] at hx0 hy0 hz0 hc0 hp0
    have hlen : ([a.enc, b.enc, d.enc] : List Task).length = 3 := rfl
    simp only [hlen] at hc ⊢
    clear hlen
    go_enter Try.func128, Try.ntmps128
    go_wp2_with fail
    refine (iha.out (u + b.fets + d.fets) A0 c0 s _ F hok.1 ((hI.out _).alloc _ _ _ _ hs.out) hc0 hp0).mono ?_
    rintro e w1 ⟨rfl, v1, v2, F1, h3, h4⟩
    replace h3 := Lib.hid h3
    have t1 := ((Turn.refl F w).alloc _).trans h4
    have hn : ¬ F w.heap.size := fun h => by have := ((hI.out _).own _ _ _ hs.out _ h).2; omega
    have hn1 : ¬ F1 w.heap.size := fun h => (h4.fresh _ h).elim hn (fun h => by simp at h; omega)
    have bx0 : w1.cell? ⟨w.heap.size, 0, none⟩ = some (.int .i64 4) := (h4.cell 0 (by simp) hn).trans (by simp)
    have bx1 : w1.cell? ⟨w.heap.size, 1, none⟩ = some (.int .i64 0) := (h4.cell 1 (by simp) hn).trans (by simp)
    have bx2 : w1.cell? ⟨w.heap.size, 2, none⟩ = some (.slice (some ⟨b0, o0, none⟩) 3 c) := (h4.cell 2 (by simp) hn).trans (by simp)
    have hlt1 : b0 < w1.heap.size := Nat.lt_of_lt_of_le hlt t1.size
    obtain ⟨b1, o1, A1, c1, e1, _, hx1, hy1, hz1, hc1, hm1, hp1⟩ := hp.at ((hI.out _).old _ _ _ h3.out).1 1 (by simp)
    simp only [Option.some.injEq, Addr.mk.injEq, and_true] at e1
    obtain ⟨rfl, rfl⟩ := e1
    simp only [List.getElem_cons_zero, List.getElem_cons_succ, Nat.one_mul, Nat.reduceMul] at hx1 hy1 hz1 hc1 hp1
    obtain ⟨b2, o2, A2, c2, e2, _, hx2, hy2, hz2, hc2, hm2, hp2⟩ := hp.at ((hI.out _).old _ _ _ h3.out).1 2 (by simp)
    simp only [Option.some.injEq, Addr.mk.injEq, and_true] at e2
    obtain ⟨rfl, rfl⟩ := e2
    simp only [List.getElem_cons_zero, List.getElem_cons_succ, Nat.one_mul, Nat.reduceMul] at hx2 hy2 hz2 hc2 hp2
    replace t1 := Lib.hid t1
    have szl : w.heap.size < w1.heap.size := by have := h4.size; simp at this; omega
    replace hn := Lib.hid hn
    replace hn1 := Lib.hid hn1
    clear h4 hx0 hy0 hz0 hlt
    cases hr : (a.run f s).1.2 with
    | false =>
      go_wp2_with fail
      go_ret2
      exact ⟨by simp [Tk.run, hr], by simp [Tk.run, hr], by simp [Tk.run, hr], F1, by simpa [Tk.run, hr] using hdown.out (b.fets + d.fets) u _ _ _ (by rw [show u + (b.fets + d.fets) = u + b.fets + d.fets from by omega]; exact h3.out), t1.out⟩
    | true =>
      by_cases hz : (a.run f s).1.1 = 0
      · have hz' : ((a.run f s).1.1 != 0) = false := by simp [hz]
        replace hz := Lib.hid hz
        go_wp2_with fail
        refine (ihd.out (u + b.fets) A2 c2 _ _ F1 hok.2.2 h3.out hc2 hp2).mono ?_
        rintro e w2 ⟨rfl, u1, u2, F2, h5, h6⟩
        replace h5 := Lib.hid h5
        replace h6 := Lib.hid h6
        have hrun : Tk.run f (Tk.cond a b d) s = d.run f (a.run f s).2 := by simp [Tk.run, hr, hz.out]
        replace hrun := Lib.hid hrun
        go_wp2_with fail
        go_ret2
        rw [hrun.out]
        exact ⟨rfl, u1, u2, F2, hdown.out _ _ _ _ _ h5.out, t1.out.trans h6.out⟩
      · have hz' : ((a.run f s).1.1 != 0) = true := by simp [hz]
        replace hz := Lib.hid hz
        go_wp2_with fail
        refine (ihb.out (u + d.fets) A1 c1 _ _ F1 hok.2.1 (by rw [show u + d.fets + b.fets = u + b.fets + d.fets from by omega]; exact h3.out) hc1 hp1).mono ?_
        rintro e w2 ⟨rfl, u1, u2, F2, h5, h6⟩
        replace h5 := Lib.hid h5
        replace h6 := Lib.hid h6
        have hrun : Tk.run f (Tk.cond a b d) s = b.run f (a.run f s).2 := by simp [Tk.run, hr, hz.out]
        replace hrun := Lib.hid hrun
        go_wp2_with fail
        go_ret2
        rw [hrun.out]
        exact ⟨rfl, u1, u2, F2, hdown.out _ _ _ _ _ h5.out, t1.out.trans h6.out⟩
  | ix n a iha =>
    intro u A c s w F hok hs hc hp
    replace hs : I (u + 1 + a.fets) s w F := by
      have e : u + (a.fets + 1) = u + 1 + a.fets := by omega
      exact e ▸ hs
    replace hs := Lib.hid hs
    replace iha := Lib.hid iha
    simp only [Tk.enc, Task.kind, Task.n, Task.parts, Tk.ok] at hok hc hp ⊢
    obtain ⟨b0, o0, A0, c0, rfl, hb0, hx0, hy0, hz0, hc0, hm0, hp0⟩ := hp.at ((hI.out _).old _ _ _ hs.out).1 0 (by simp)
    have hlt : b0 < w.heap.size := Nat.lt_of_lt_of_le hb0 ((hI.out _).old _ _ _ hs.out).2
    simp only [List.getElem_cons_zero, Nat.zero_mul, Nat.add_zero] at hx0 hy0 hz0 hc0 hp0
    have hlen : ([a.enc] : List Task).length = 1 := rfl
    simp only [hlen] at hc ⊢
    clear hlen
    go_enter Try.func128, Try.ntmps128
    go_wp2_with fail
    refine (iha.out (u + 1) A0 c0 s _ F hok.2.2 ((hI.out _).alloc _ _ _ _ hs.out) hc0 hp0).mono ?_
    rintro e w1 ⟨rfl, v1, v2, F1, h3, h4⟩
    replace h3 := Lib.hid h3
    have t1 := ((Turn.refl F w).alloc _).trans h4
    have hn : ¬ F w.heap.size := fun h => by have := ((hI.out _).own _ _ _ hs.out _ h).2; omega
    have hn1 : ¬ F1 w.heap.size := fun h => (h4.fresh _ h).elim hn (fun h => by simp at h; omega)
    have bx0 : w1.cell? ⟨w.heap.size, 0, none⟩ = some (.int .i64 5) := (h4.cell 0 (by simp) hn).trans (by simp)
    have bx1 : w1.cell? ⟨w.heap.size, 1, none⟩ = some (.int .i64 n) := (h4.cell 1 (by simp) hn).trans (by simp)
    have bx2 : w1.cell? ⟨w.heap.size, 2, none⟩ = some (.slice (some ⟨b0, o0, none⟩) 1 c) := (h4.cell 2 (by simp) hn).trans (by simp)
    have hlt1 : b0 < w1.heap.size := Nat.lt_of_lt_of_le hlt t1.size
    replace t1 := Lib.hid t1
    have szl : w.heap.size < w1.heap.size := by have := h4.size; simp at this; omega
    replace hn := Lib.hid hn
    replace hn1 := Lib.hid hn1
    clear h4 hx0 hy0 hz0 hlt
    cases hr : (a.run f s).1.2 with
    | false =>
      go_wp2_with fail
      go_ret2
      exact ⟨by simp [Tk.run, hr], by simp [Tk.run, hr], by simp [Tk.run, hr], F1, by simpa [Tk.run, hr] using hdown.out (1) u _ _ _ (by rw [show u + (1) = u + 1 from by omega]; exact h3.out), t1.out⟩
    | true =>
      have hrun : Tk.run f (Tk.ix n a) s = f (a.run f s).2 ((n + (a.run f s).1.1) % 10) := by simp [Tk.run, hr]
      replace hrun := Lib.hid hrun
      generalize (a.run f s).1.1 = x at *
      have n1 := hok.1
      have n2 := hok.2.1
      clear hok
      go_wp2_with ((with_reducible refine wpList_call_value (by rfl) (.tmp 38) _ _ (by rfl) g first cap (by with_unfolding_all rfl) hg ?_); refine (hf.out u _ ((n + x) % 10) _ F1 h3.out (by omega) (by omega)).mono ?_; rintro e w' ⟨rfl, u1, u2, F2, h5, h6⟩; replace h5 := Lib.hid h5; refine ⟨_, rfl, ?_⟩)
      go_ret2
      rw [hrun.out]
      exact ⟨rfl, u1, u2, F2, h5.out, t1.out.trans h6⟩

theorem run_calls {σ : Type} (I : σ → World → (Nat → Prop) → Prop) (f : σ → Int → (Int × Bool) × σ) (g : Nat) (first cap : Array Value) (B : Nat) (w0 : World) (hg : Enters Try.prog g)
    (hI : Holds I B w0)
    (hf : ∀ s k w F, I s w F → 0 ≤ k → k ≤ 9 → Calls Try.prog g (first ++ #[.int .i64 k] ++ cap) w (Gives I F w (f s k))) (t : Tk) (A : Option Addr) (c : Nat) (s : σ) (w : World) (F : Nat → Prop) (hok : t.ok) (hs : I s w F) (hc : t.enc.parts.length ≤ c) (hp : PartsIs B w0 A 0 t.enc.parts) :
    Calls Try.prog 128 #[.agg #[.int .i64 t.enc.kind, .int .i64 t.enc.n, .slice A t.enc.parts.length c], .func (.func g) first cap] w (Gives I F w (t.run f s)) :=
  run_callsN (fun _ => I) f g first cap B w0 hg (fun _ => hI) (fun _ _ _ _ h => h) (fun _ => hf) t 0 A c s w F hok hs hc hp
end Go.Proofs.Ytpccgdkidnkppaa

set_option linter.unusedVariables false
set_option linter.unusedSimpArgs false
namespace Go.Proofs.Ytpccgdkidnkppaa
open Go Go.RowKit

/-! building keys: the plain function -/
structure MkSt where
  known : Int → Option Int
  open_ : List Int
  circle : List Int
  order : List Int
/-- a sheet's keys and inputs -/
structure Sh where
  made : List Bool
  tks : List Tk
  inputs : List Int
instance : Inhabited Tk := ⟨.num 0⟩
def Sh.tk (S : Sh) (k : Int) : Tk := S.tks.getD k.toNat (.num 0)
def upd (f : Int → Option Int) (k y : Int) : Int → Option Int := fun j => if j = k then some y else f j

def keyP (S : Sh) : Nat → MkSt → Int → (Int × Bool) × MkSt
  | n, st, k =>
    if mkK S.made k = false then ((atK S.inputs k, true), st)
    else match st.known k with
      | some v => ((v, true), st)
      | none =>
        if 0 ≤ idx (fun x => k == x) st.open_ then ((0, false), { st with circle := st.open_.drop (idx (fun x => k == x) st.open_).toNat })
        else match n with
          | 0 => ((0, false), st)
          | n + 1 =>
            let r := (S.tk k).run (keyP S n) { st with open_ := st.open_ ++ [k] }
            if r.1.2 then ((r.1.1, true), { r.2 with open_ := r.2.open_.dropLast, known := upd r.2.known k r.1.1, order := r.2.order ++ [k] })
            else ((0, false), r.2)

/-- what holds of a run whose fetches keep it -/
theorem Tk.run_keeps {σ : Type} {f : σ → Int → (Int × Bool) × σ} {J : σ → Prop} (hJ : ∀ s k, J s → 0 ≤ k → k ≤ 9 → J (f s k).2) : ∀ (t : Tk) (s : σ), t.ok → J s → J (t.run f s).2 := by
  intro t
  induction t with
  | num n => intro s _ h; exact h
  | get k => intro s hk h; exact hJ s k h hk.1 hk.2
  | add a b iha ihb =>
    intro s hk h
    have h1 := iha s hk.1 h
    simp only [Tk.run]
    split
    · have h2 := ihb _ hk.2 h1
      split <;> exact h2
    · exact h1
  | mul a b iha ihb =>
    intro s hk h
    have h1 := iha s hk.1 h
    simp only [Tk.run]
    split
    · have h2 := ihb _ hk.2 h1
      split <;> exact h2
    · exact h1
  | cond a b d iha ihb ihd =>
    intro s hk h
    have h1 := iha s hk.1 h
    simp only [Tk.run]
    split
    · split
      · exact ihb _ hk.2.1 h1
      · exact ihd _ hk.2.2 h1
    · exact h1
  | ix n a iha =>
    intro s hk h
    have h1 := iha s hk.2.2 h
    simp only [Tk.run]
    split
    · exact hJ _ _ h1 (by omega) (by omega)
    · exact h1

/-- what a run that goes through leaves, if its fetches that go through do; and the bounds of what it gives -/
theorem Tk.run_gives {σ : Type} {f : σ → Int → (Int × Bool) × σ} {J : σ → Prop} {R : σ → σ → Prop} (hJ : ∀ s k, J s → 0 ≤ k → k ≤ 9 → J (f s k).2) (hR0 : ∀ s, R s s) (hR1 : ∀ a b c, R a b → R b c → R a c)
    (hR : ∀ s k, J s → 0 ≤ k → k ≤ 9 → (f s k).1.2 = true → R s (f s k).2) :
    ∀ (t : Tk) (s : σ), t.ok → J s → (t.run f s).1.2 = true → R s (t.run f s).2 := by
  intro t
  induction t with
  | num n => intro s _ h _; exact hR0 s
  | get k => intro s hk h ho; exact hR s k h hk.1 hk.2 ho
  | add a b iha ihb =>
    intro s hk h ho
    have j1 := Tk.run_keeps hJ a s hk.1 h
    simp only [Tk.run] at ho ⊢
    by_cases h1 : (a.run f s).1.2 = true
    · rw [if_pos h1] at ho ⊢
      by_cases h2 : (b.run f (a.run f s).2).1.2 = true
      · rw [if_pos h2] at ho ⊢
        exact hR1 _ _ _ (iha s hk.1 h h1) (ihb _ hk.2 j1 h2)
      · rw [if_neg h2] at ho; cases ho
    · rw [if_neg h1] at ho; cases ho
  | mul a b iha ihb =>
    intro s hk h ho
    have j1 := Tk.run_keeps hJ a s hk.1 h
    simp only [Tk.run] at ho ⊢
    by_cases h1 : (a.run f s).1.2 = true
    · rw [if_pos h1] at ho ⊢
      by_cases h2 : (b.run f (a.run f s).2).1.2 = true
      · rw [if_pos h2] at ho ⊢
        exact hR1 _ _ _ (iha s hk.1 h h1) (ihb _ hk.2 j1 h2)
      · rw [if_neg h2] at ho; cases ho
    · rw [if_neg h1] at ho; cases ho
  | cond a b d iha ihb ihd =>
    intro s hk h ho
    have j1 := Tk.run_keeps hJ a s hk.1 h
    simp only [Tk.run] at ho ⊢
    by_cases h1 : (a.run f s).1.2 = true
    · rw [if_pos h1] at ho ⊢
      split at ho
      · rename_i h2
        rw [if_pos h2]
        exact hR1 _ _ _ (iha s hk.1 h h1) (ihb _ hk.2.1 j1 ho)
      · rename_i h2
        rw [if_neg h2]
        exact hR1 _ _ _ (iha s hk.1 h h1) (ihd _ hk.2.2 j1 ho)
    · rw [if_neg h1] at ho; cases ho
  | ix n a iha =>
    intro s hk h ho
    have j1 := Tk.run_keeps hJ a s hk.2.2 h
    simp only [Tk.run] at ho ⊢
    by_cases h1 : (a.run f s).1.2 = true
    · rw [if_pos h1] at ho ⊢
      exact hR1 _ _ _ (iha s hk.2.2 h h1) (hR _ _ j1 (by omega) (by omega) ho)
    · rw [if_neg h1] at ho; cases ho

/-- what a run gives is a value, if what is fetched is -/
theorem Tk.run_value {σ : Type} {f : σ → Int → (Int × Bool) × σ} {J : σ → Prop} (hJ : ∀ s k, J s → 0 ≤ k → k ≤ 9 → J (f s k).2) (hv : ∀ s k, J s → 0 ≤ k → k ≤ 9 → 0 ≤ (f s k).1.1 ∧ (f s k).1.1 ≤ 96) :
    ∀ (t : Tk) (s : σ), t.ok → J s → 0 ≤ (t.run f s).1.1 ∧ (t.run f s).1.1 ≤ 96 := by
  intro t
  induction t with
  | num n => intro s hk _; exact hk
  | get k => intro s hk h; exact hv s k h hk.1 hk.2
  | add a b iha ihb =>
    intro s hk h
    simp only [Tk.run]
    split
    · split
      · exact ⟨by simp only []; omega, by simp only []; omega⟩
      · exact ⟨by simp, by simp⟩
    · exact ⟨by simp, by simp⟩
  | mul a b iha ihb =>
    intro s hk h
    simp only [Tk.run]
    split
    · split
      · exact ⟨Int.emod_nonneg _ (by omega), by have := Int.emod_lt_of_pos ((a.run f s).1.1 * (b.run f (a.run f s).2).1.1) (show (0:Int) < 97 by omega); simp only []; omega⟩
      · exact ⟨by simp, by simp⟩
    · exact ⟨by simp, by simp⟩
  | cond a b d iha ihb ihd =>
    intro s hk h
    have j1 := Tk.run_keeps hJ a s hk.1 h
    simp only [Tk.run]
    split
    · split
      · exact ihb _ hk.2.1 j1
      · exact ihd _ hk.2.2 j1
    · exact ⟨by simp, by simp⟩
  | ix n a iha =>
    intro s hk h
    have j1 := Tk.run_keeps hJ a s hk.2.2 h
    simp only [Tk.run]
    split
    · exact hv _ _ j1 (by omega) (by omega)
    · exact ⟨by simp, by simp⟩

/-! sheets -/
def sheetOkL : List Bool → List Task → Bool
  | m :: ms, t :: ts => okT t && (m || (t.kind == 0 && t.n == 0)) && sheetOkL ms ts
  | _, _ => true
theorem sheetOkL_cons (m : Bool) (ms : List Bool) (t : Task) (ts : List Task) : sheetOkL (m :: ms) (t :: ts) = (okT t && (m || (t.kind == 0 && t.n == 0)) && sheetOkL ms ts) := rfl
theorem sheetOkL_nil : sheetOkL [] [] = true := rfl
def sheetOk (made : List Bool) (tasks : List Task) : Bool := decide (made.length = tasks.length) && decide (made.length ≤ 10) && sheetOkL made tasks

/-- a sheet and its inputs that are ones -/
structure Sh.Ok (S : Sh) : Prop where
  len : S.made.length = S.tks.length
  ten : S.made.length ≤ 10
  tks : ∀ t ∈ S.tks, t.ok
  ins : S.inputs.length = S.made.length
  vals : ∀ x ∈ S.inputs, 0 ≤ x ∧ x ≤ 96
  sheet : sheetOk S.made (S.tks.map Tk.enc) = true

structure Inv (S : Sh) (n : Nat) (st : MkSt) : Prop where
  nodup : st.open_.Nodup
  range : ∀ x ∈ st.open_, 0 ≤ x ∧ x < S.made.length
  fuel : S.made.length ≤ st.open_.length + n
  openUnknown : ∀ x ∈ st.open_, st.known x = none
  vals : ∀ x v, st.known x = some v → 0 ≤ v ∧ v ≤ 96
  onodup : st.order.Nodup
  orange : ∀ x ∈ st.order, 0 ≤ x ∧ x < S.made.length
  oknown : ∀ x ∈ st.order, st.known x ≠ none

theorem mkK_range {made : List Bool} {k : Int} (h : mkK made k ≠ false) : 0 ≤ k ∧ k < made.length := by
  unfold mkK at h
  by_cases h0 : k < 0
  · rw [if_pos h0] at h; exact absurd rfl h
  · rw [if_neg h0] at h
    by_cases h1 : made.length ≤ k.toNat
    · rw [getD_out _ h1] at h; exact absurd rfl h
    · omega
theorem atK_value {S : Sh} (h : S.Ok) (k : Int) : 0 ≤ atK S.inputs k ∧ atK S.inputs k ≤ 96 := by
  unfold atK
  split
  · omega
  · by_cases h1 : k.toNat < S.inputs.length
    · rw [getD_at _ h1]; exact h.vals _ (List.getElem_mem _)
    · rw [getD_out _ (by omega)]; omega
theorem tk_ok {S : Sh} (h : S.Ok) (k : Int) : (S.tk k).ok := by
  unfold Sh.tk
  by_cases h1 : k.toNat < S.tks.length
  · rw [getD_at _ h1]; exact h.tks _ (List.getElem_mem _)
  · rw [getD_out _ (by omega)]; exact ⟨by omega, by omega⟩
theorem not_open {l : List Int} {k : Int} (h : ¬ 0 ≤ idx (fun x => k == x) l) : k ∉ l := by
  have := idx_any (fun x => k == x) l
  intro hk
  have h2 : l.any (fun x => k == x) = true := List.any_eq_true.2 ⟨k, hk, by simp⟩
  rw [h2] at this
  exact h (of_decide_eq_true this)
theorem nodup_lt : ∀ (n : Nat) (l : List Nat), l.Nodup → (∀ x ∈ l, x < n) → l.length ≤ n := by
  intro n
  induction n with
  | zero =>
    intro l _ h
    cases l with
    | nil => simp
    | cons a l => exact absurd (h a (by simp)) (by omega)
  | succ n ih =>
    intro l hn h
    have h1 := ih (l.erase n) (hn.erase n) (fun x hx => by
      have h2 := (hn.mem_erase_iff).1 hx
      have := h x h2.2
      omega)
    have := List.length_erase (a := n) (l := l)
    split at this <;> omega
/-- numbers below a bound, each once, are not more than the bound -/
theorem nodup_bound {l : List Int} {n : Nat} (hn : l.Nodup) (hr : ∀ x ∈ l, 0 ≤ x ∧ x < n) : l.length ≤ n := by
  have h1 : (l.map Int.toNat).Nodup := by
    refine List.Pairwise.map _ (fun a b (h : a ≠ b ∧ 0 ≤ a ∧ 0 ≤ b) => ?_) (R := fun a b => a ≠ b ∧ 0 ≤ a ∧ 0 ≤ b) ?_
    · omega
    · have := List.Pairwise.and_mem.1 hn
      exact this.imp (fun ⟨ha, hb, hne⟩ => ⟨hne, (hr _ ha).1, (hr _ hb).1⟩)
  have h2 : (l.map Int.toNat) ⊆ List.range n := by
    intro x hx
    obtain ⟨y, hy, rfl⟩ := List.mem_map.1 hx
    have := hr y hy
    simp only [List.mem_range]; omega
  have := nodup_lt n _ h1 (fun x hx => List.mem_range.1 (h2 hx))
  simpa using this

theorem inv_push {S : Sh} {n : Nat} {st : MkSt} {k : Int} (hi : Inv S (n + 1) st) (hkr : 0 ≤ k ∧ k < S.made.length) (hk : st.known k = none) (hko : k ∉ st.open_) : Inv S n { st with open_ := st.open_ ++ [k] } := by
  refine ⟨?_, ?_, ?_, ?_, hi.vals, hi.onodup, hi.orange, hi.oknown⟩
  · simp only [List.nodup_append, List.nodup_cons, List.not_mem_nil, not_false_eq_true, List.nodup_nil, and_true, List.mem_singleton]
    exact ⟨hi.nodup, trivial, fun a ha b hb => by subst hb; intro e; subst e; exact hko ha⟩
  · intro x hx
    simp only [List.mem_append, List.mem_singleton] at hx
    rcases hx with hx | rfl
    · exact hi.range x hx
    · exact hkr
  · have := hi.fuel
    simp; omega
  · intro x hx
    simp only [List.mem_append, List.mem_singleton] at hx
    rcases hx with hx | rfl
    · exact hi.openUnknown x hx
    · exact hk
theorem tk_at {S : Sh} {q : Nat} (h : q < S.tks.length) : S.tk q = S.tks[q] := by
  unfold Sh.tk; exact getD_at _ h
theorem zeroB : 0 ≤ (0 : Int) ∧ (0 : Int) ≤ 96 := by omega
theorem keyP_inv {S : Sh} (hS : S.Ok) : ∀ (n : Nat) (st : MkSt) (k : Int), Inv S n st →
    Inv S n (keyP S n st k).2 ∧ ((keyP S n st k).1.2 = true → (keyP S n st k).2.open_ = st.open_) ∧ 0 ≤ (keyP S n st k).1.1 ∧ (keyP S n st k).1.1 ≤ 96 := by
  intro n
  induction n with
  | zero =>
    intro st k hi
    unfold keyP
    split
    · exact ⟨hi, fun _ => rfl, atK_value hS k⟩
    · split
      · rename_i v hv
        exact ⟨hi, fun _ => rfl, hi.vals _ _ hv⟩
      · split
        · exact ⟨⟨hi.nodup, hi.range, hi.fuel, hi.openUnknown, hi.vals, hi.onodup, hi.orange, hi.oknown⟩, (fun h => Bool.noConfusion h), zeroB⟩
        · exact ⟨hi, (fun h => Bool.noConfusion h), zeroB⟩
  | succ n ih =>
    intro st k hi
    unfold keyP
    split
    · exact ⟨hi, fun _ => rfl, atK_value hS k⟩
    · rename_i hm
      split
      · rename_i v hv
        exact ⟨hi, fun _ => rfl, hi.vals _ _ hv⟩
      · rename_i hk
        split
        · exact ⟨⟨hi.nodup, hi.range, hi.fuel, hi.openUnknown, hi.vals, hi.onodup, hi.orange, hi.oknown⟩, (fun h => Bool.noConfusion h), zeroB⟩
        · rename_i ho
          have hkr := mkK_range hm
          have hko := not_open ho
          have hi1 := inv_push hi hkr hk hko
          have hJ : ∀ (s : MkSt) (k : Int), Inv S n s → 0 ≤ k → k ≤ 9 → Inv S n (keyP S n s k).2 := fun s k h _ _ => (ih s k h).1
          have r1 := Tk.run_keeps hJ (S.tk k) _ (tk_ok hS k) hi1
          have r2 := Tk.run_gives (R := fun a b => b.open_ = a.open_) hJ (fun _ => rfl) (fun a b c (h1 : b.open_ = a.open_) (h2 : c.open_ = b.open_) => h2.trans h1) (fun s k h _ _ => (ih s k h).2.1) (S.tk k) _ (tk_ok hS k) hi1
          have r3 := Tk.run_value hJ (fun s k h _ _ => (ih s k h).2.2) (S.tk k) _ (tk_ok hS k) hi1
          dsimp only at r1 r2 r3 ⊢
          generalize (S.tk k).run (keyP S n) { st with open_ := st.open_ ++ [k] } = r at *
          split
          · rename_i hr
            have hop := r2 hr
            have hpop : r.2.open_.dropLast = st.open_ := by rw [hop]; simp
            have hku : r.2.known k = none := r1.openUnknown k (by rw [hop]; simp)
            have hkord : k ∉ r.2.order := fun h => r1.oknown k h hku
            refine ⟨⟨?_, ?_, ?_, ?_, ?_, ?_, ?_, ?_⟩, fun _ => hpop, r3⟩
            · simp only [hpop]; exact hi.nodup
            · simp only [hpop]; exact hi.range
            · simp only [hpop]; exact hi.fuel
            · simp only [hpop]
              intro x hx
              have hne : x ≠ k := fun e => hko (e ▸ hx)
              simp only [upd, hne, if_false]
              exact r1.openUnknown x (by rw [hop]; simp [hx])
            · intro x v hv
              simp only [upd] at hv
              split at hv
              · cases hv; exact r3
              · exact r1.vals x v hv
            · simp only [List.nodup_append, List.nodup_cons, List.not_mem_nil, not_false_eq_true, List.nodup_nil, and_true, List.mem_singleton]
              exact ⟨r1.onodup, trivial, fun a ha b hb => by subst hb; intro e; subst e; exact hkord ha⟩
            · intro x hx
              simp only [List.mem_append, List.mem_singleton] at hx
              rcases hx with hx | rfl
              · exact r1.orange x hx
              · exact hkr
            · intro x hx
              simp only [List.mem_append, List.mem_singleton] at hx
              simp only [upd]
              split
              · simp
              · rename_i hne
                rcases hx with hx | hx
                · exact r1.oknown x hx
                · exact absurd hx hne
          · refine ⟨?_, (fun h => Bool.noConfusion h), zeroB⟩
            have := r1.fuel
            exact ⟨r1.nodup, r1.range, by dsimp only; omega, r1.openUnknown, r1.vals, r1.onodup, r1.orange, r1.oknown⟩
/-- of a run within a key -/
theorem keyP_run {S : Sh} (hS : S.Ok) {n : Nat} {st : MkSt} (hi : Inv S n st) {t : Tk} (ht : t.ok) : Inv S n (t.run (keyP S n) st).2 ∧ ((t.run (keyP S n) st).1.2 = true → (t.run (keyP S n) st).2.open_ = st.open_) ∧ 0 ≤ (t.run (keyP S n) st).1.1 ∧ (t.run (keyP S n) st).1.1 ≤ 96 := by
  have hJ : ∀ (s : MkSt) (k : Int), Inv S n s → 0 ≤ k → k ≤ 9 → Inv S n (keyP S n s k).2 := fun s k h _ _ => (keyP_inv hS n s k h).1
  exact ⟨Tk.run_keeps hJ t _ ht hi, Tk.run_gives (R := fun a b => b.open_ = a.open_) hJ (fun _ => rfl) (fun a b c (h1 : b.open_ = a.open_) (h2 : c.open_ = b.open_) => h2.trans h1) (fun s k h _ _ => (keyP_inv hS n s k h).2.1) t _ ht hi,
    Tk.run_value hJ (fun s k h _ _ => (keyP_inv hS n s k h).2.2) t _ ht hi⟩
theorem inv_order {S : Sh} {n : Nat} {st : MkSt} (h : Inv S n st) : st.order.length ≤ S.made.length := nodup_bound h.onodup h.orange
theorem inv_open {S : Sh} {n : Nat} {st : MkSt} (h : Inv S n st) : st.open_.length ≤ S.made.length := nodup_bound h.nodup h.range
end Go.Proofs.Ytpccgdkidnkppaa

set_option linter.unusedVariables false
set_option linter.unusedSimpArgs false
namespace Go.Proofs.Ytpccgdkidnkppaa
open Go Go.RowKit

/-- a sheet's value: all that it leads to in blocks below B -/
structure SheetAt (B : Nat) (w : World) (Am : Option Addr) (cm : Nat) (At : Option Addr) (ct : Nat) (made : List Bool) (tasks : List Task) : Prop where
  lm : made.length ≤ cm
  mm : cm ≤ maxLen
  lt : tasks.length ≤ ct
  mt : ct ≤ maxLen
  made : BoolsAt B w Am made
  tasks : PartsIs B w At 0 tasks

set_option maxHeartbeats 1000000 in
theorem sheetOk_calls (Am At : Option Addr) (cm ct : Nat) (made : List Bool) (tasks : List Task) (B : Nat) (w0 w : World) (hb : Below B w0 w) (hB : B ≤ w.heap.size) (hs : SheetAt B w0 Am cm At ct made tasks) :
    Calls Try.prog 80 #[.agg #[.slice Am made.length cm, .slice At tasks.length ct]] w fun e w' => e = .returned (.bool (sheetOk made tasks)) ∧ Below w.heap.size w w' := by
  obtain ⟨lm, mm, lt, mt, hm, ht⟩ := hs
  unfold maxLen at mm mt
  replace hb := Lib.hid hb
  replace hm := Lib.hid hm
  replace ht := Lib.hid ht
  by_cases h1 : made.length = tasks.length
  case neg =>
    have hr : sheetOk made tasks = false := by simp [sheetOk, h1]
    replace hr := Lib.hid hr
    have h1' : ((made.length : Int) != (tasks.length : Int)) = true := by simp; omega
    replace h1 := Lib.hid h1
    go_enter Try.func80, Try.ntmps80
    go_wp2_with fail
    go_ret
    exact ⟨by rw [hr.out]; rfl, below_al (Below.refl _ _) _⟩
  have h1' : ((made.length : Int) != (tasks.length : Int)) = false := by simp; omega
  replace h1 := Lib.hid h1
  by_cases h2 : made.length ≤ 10
  case neg =>
    have hr : sheetOk made tasks = false := by simp [sheetOk, h2]
    replace hr := Lib.hid hr
    go_enter Try.func80, Try.ntmps80
    go_wp2_with fail
    go_ret
    exact ⟨by rw [hr.out]; rfl, below_al (Below.refl _ _) _⟩
  have hr : sheetOk made tasks = sheetOkL made tasks := by simp [sheetOk, h1.out, h1.out ▸ h2]
  replace hr := Lib.hid hr
  go_enter Try.func80, Try.ntmps80
  go_wp2_with fail
  go_loopw [3, 21] (fun _ i wr => ∃ (j : Nat), j ≤ tasks.length ∧ i = .int .i64 j ∧ w.heap.size < wr.heap.size ∧ wr.cell? ⟨w.heap.size, 0, none⟩ = some (.slice Am made.length cm) ∧ Hid (Below w.heap.size w wr) ∧ Hid (sheetOkL made tasks = sheetOkL (made.drop j) (tasks.drop j))) (fun _ i _ => tasks.length - (intOf i).toNat)
  case atStart => exact ⟨0, Nat.zero_le _, rfl, by simp, by simp, Lib.hid (below_al (Below.refl _ _) _), Lib.hid rfl⟩
  case round =>
    obtain ⟨j, hj, rfl, hz, hbox, hw, he⟩ := hrel
    by_cases hlt : j < tasks.length
    · obtain ⟨b, o, A', c', rfl, hbl, y0, y1, y2, hc', hm', hp'⟩ := ht.out.at (below_up' hb.out hB hw.out) j hlt
      have hbl' : b < wr.heap.size := by have := hw.out.size; omega
      have hltm : j < made.length := by have := h1.out; omega
      have hd : tasks.drop j = tasks[j] :: tasks.drop (j + 1) := List.drop_eq_getElem_cons hlt
      have hdm : made.drop j = made[j] :: made.drop (j + 1) := List.drop_eq_getElem_cons hltm
      rw [hd, hdm] at he
      have he2 := he.out
      rw [sheetOkL_cons] at he2
      replace hd := Lib.hid hd
      replace hdm := Lib.hid hdm
      clear he
      have hcall := fun w1 (hb1 : Below B w0 w1) (hB1 : B ≤ w1.heap.size) => taskOk_calls tasks[j] A' c' B w0 w1 hb1 hB1 hc' hm' hp'
      replace hcall := Lib.hid hcall
      cases hok : okT tasks[j] with
      | false =>
        rw [hok] at he2
        replace he2 := Lib.hid he2
        replace hok := Lib.hid hok
        go_wp2_with fail
        refine (hcall.out _ (below_al' (below_up' hb.out hB hw.out) _ (by have := hw.out.size; omega)) (by have := hw.out.size; simp; omega)).mono ?_
        rintro e w2 ⟨rfl, h5⟩
        replace h5 := Lib.hid h5
        rw [hok.out]
        go_wp2_with fail
        go_ret
        exact ⟨by rw [hr.out, he2.out]; rfl, below_up hw.out (below_from h5.out)⟩
      | true =>
        rw [hok, Bool.true_and] at he2
        obtain ⟨bm, om, eqm, hbm, cmj⟩ := hm.out.at (below_up' hb.out hB hw.out) (by have := hw.out.size; omega) j hltm
        replace hok := Lib.hid hok
        have hk1 : (tasks[j].kind == 0) = true ∨ (tasks[j].kind == 0) = false := by cases (tasks[j].kind == 0) <;> simp
        have hk2 : (tasks[j].n == 0) = true ∨ (tasks[j].n == 0) = false := by cases (tasks[j].n == 0) <;> simp
        subst eqm
        cases hmj : made[j] with
        | true =>
          rw [hmj, Bool.true_or, Bool.true_and] at he2
          rw [hmj] at cmj
          replace he2 := Lib.hid he2
          replace hmj := Lib.hid hmj
          clear hk1 hk2
          go_wp2_with fail
          refine (hcall.out _ (below_al' (below_up' hb.out hB hw.out) _ (by have := hw.out.size; omega)) (by have := hw.out.size; simp; omega)).mono ?_
          rintro e w2 ⟨rfl, h5⟩
          rw [hok.out]
          have hh := bcell h5
          simp at hh
          have z0 : w2.cell? ⟨w.heap.size, 0, none⟩ = some (.slice (some ⟨bm, om, none⟩) made.length cm) := (hh _ _ (by omega)).trans ((cell_al hz).trans hbox)
          have z1 : w2.cell? ⟨bm, om + j, none⟩ = some (.bool true) := (hh _ _ (by omega)).trans ((cell_al hbm).trans cmj)
          have hz2 : w.heap.size < w2.heap.size := by have := h5.size; simp at this; omega
          clear hh
          replace h5 := Lib.hid h5
          clear y0 y1 y2 hbox cmj
          go_wp2_with fail
          go_roundw
          case rel => exact ⟨j + 1, by omega, by go_num, hz2, z0, Lib.hid (below_up hw.out (below_from h5.out)), he2⟩
          case measure => simp [intOf]; omega
        | false =>
          rw [hmj, Bool.false_or] at he2
          rw [hmj] at cmj
          replace hmj := Lib.hid hmj
          by_cases hk : tasks[j].kind = 0
          · have hk' : (tasks[j].kind != 0) = false := by simp [hk]
            have hk2 : (tasks[j].kind == 0) = true := by simp [hk]
            rw [hk2, Bool.true_and] at he2
            replace hk := Lib.hid hk
            replace hk2 := Lib.hid hk2
            by_cases hn : tasks[j].n = 0
            · have hn' : (tasks[j].n != 0) = false := by simp [hn]
              have hn2 : (tasks[j].n == 0) = true := by simp [hn]
              rw [hn2, Bool.true_and] at he2
              replace he2 := Lib.hid he2
              replace hn := Lib.hid hn
              replace hn2 := Lib.hid hn2
              go_wp2_with fail
              refine (hcall.out _ (below_al' (below_up' hb.out hB hw.out) _ (by have := hw.out.size; omega)) (by have := hw.out.size; simp; omega)).mono ?_
              rintro e w2 ⟨rfl, h5⟩
              rw [hok.out]
              have hh := bcell h5
              simp at hh
              have z0 : w2.cell? ⟨w.heap.size, 0, none⟩ = some (.slice (some ⟨bm, om, none⟩) made.length cm) := (hh _ _ (by omega)).trans ((cell_al hz).trans hbox)
              have z1 : w2.cell? ⟨bm, om + j, none⟩ = some (.bool false) := (hh _ _ (by omega)).trans ((cell_al hbm).trans cmj)
              have z2 : w2.cell? ⟨wr.heap.size, 0, none⟩ = some (.int .i64 tasks[j].kind) := (hh _ _ (by omega)).trans (by simp)
              have z3 : w2.cell? ⟨wr.heap.size, 1, none⟩ = some (.int .i64 tasks[j].n) := (hh _ _ (by omega)).trans (by simp)
              have hz2 : w.heap.size < w2.heap.size := by have := h5.size; simp at this; omega
              clear hh
              replace h5 := Lib.hid h5
              clear y0 y1 y2 hbox cmj
              go_wp2_with fail
              go_roundw
              case rel => exact ⟨j + 1, by omega, by go_num, hz2, z0, Lib.hid (below_up hw.out (below_from h5.out)), he2⟩
              case measure => simp [intOf]; omega
            · have hn' : (tasks[j].n != 0) = true := by simp [hn]
              have hn2 : (tasks[j].n == 0) = false := by simp [hn]
              rw [hn2, Bool.false_and] at he2
              replace he2 := Lib.hid he2
              replace hn := Lib.hid hn
              replace hn2 := Lib.hid hn2
              go_wp2_with fail
              refine (hcall.out _ (below_al' (below_up' hb.out hB hw.out) _ (by have := hw.out.size; omega)) (by have := hw.out.size; simp; omega)).mono ?_
              rintro e w2 ⟨rfl, h5⟩
              rw [hok.out]
              have hh := bcell h5
              simp at hh
              have z0 : w2.cell? ⟨w.heap.size, 0, none⟩ = some (.slice (some ⟨bm, om, none⟩) made.length cm) := (hh _ _ (by omega)).trans ((cell_al hz).trans hbox)
              have z1 : w2.cell? ⟨bm, om + j, none⟩ = some (.bool false) := (hh _ _ (by omega)).trans ((cell_al hbm).trans cmj)
              have z2 : w2.cell? ⟨wr.heap.size, 0, none⟩ = some (.int .i64 tasks[j].kind) := (hh _ _ (by omega)).trans (by simp)
              have z3 : w2.cell? ⟨wr.heap.size, 1, none⟩ = some (.int .i64 tasks[j].n) := (hh _ _ (by omega)).trans (by simp)
              have hz2 : w.heap.size < w2.heap.size := by have := h5.size; simp at this; omega
              clear hh
              replace h5 := Lib.hid h5
              clear y0 y1 y2 hbox cmj
              go_wp2_with fail
              go_ret
              exact ⟨by rw [hr.out, he2.out]; rfl, below_up hw.out (below_from h5.out)⟩
          · have hk' : (tasks[j].kind != 0) = true := by simp [hk]
            have hk2 : (tasks[j].kind == 0) = false := by simp [hk]
            rw [hk2, Bool.false_and, Bool.false_and] at he2
            replace he2 := Lib.hid he2
            replace hk := Lib.hid hk
            replace hk2 := Lib.hid hk2
            go_wp2_with fail
            refine (hcall.out _ (below_al' (below_up' hb.out hB hw.out) _ (by have := hw.out.size; omega)) (by have := hw.out.size; simp; omega)).mono ?_
            rintro e w2 ⟨rfl, h5⟩
            rw [hok.out]
            have hh := bcell h5
            simp at hh
            have z0 : w2.cell? ⟨w.heap.size, 0, none⟩ = some (.slice (some ⟨bm, om, none⟩) made.length cm) := (hh _ _ (by omega)).trans ((cell_al hz).trans hbox)
            have z1 : w2.cell? ⟨bm, om + j, none⟩ = some (.bool false) := (hh _ _ (by omega)).trans ((cell_al hbm).trans cmj)
            have z2 : w2.cell? ⟨wr.heap.size, 0, none⟩ = some (.int .i64 tasks[j].kind) := (hh _ _ (by omega)).trans (by simp)
            have z3 : w2.cell? ⟨wr.heap.size, 1, none⟩ = some (.int .i64 tasks[j].n) := (hh _ _ (by omega)).trans (by simp)
            have hz2 : w.heap.size < w2.heap.size := by have := h5.size; simp at this; omega
            clear hh
            replace h5 := Lib.hid h5
            clear y0 y1 y2 hbox cmj
            go_wp2_with fail
            go_ret
            exact ⟨by rw [hr.out, he2.out]; rfl, below_up hw.out (below_from h5.out)⟩
    · have hd : tasks.drop j = [] := List.drop_eq_nil_of_le (by omega)
      have hdm : made.drop j = [] := List.drop_eq_nil_of_le (by have := h1.out; omega)
      rw [hd, hdm, sheetOkL_nil] at he
      replace hd := Lib.hid hd
      replace hdm := Lib.hid hdm
      go_wp2_with fail
      go_ret
      exact ⟨by rw [hr.out, he.out]; rfl, hw.out⟩
end Go.Proofs.Ytpccgdkidnkppaa

set_option linter.unusedVariables false
set_option linter.unusedSimpArgs false
namespace Go.Proofs.Ytpccgdkidnkppaa
open Go Go.RowKit

/-! trees of tasks in blocks from lo on, below hi; ex: whether the numbers are known -/
mutual
def TN (ex : Bool) (lo hi : Nat) (w : World) : Value → Value → Value → Task → Prop
  | x, y, z, .mk k n ps => ∃ kk nn A c, x = .int .i64 kk ∧ y = .int .i64 nn ∧ z = .slice A ps.length c ∧ (ex = true → kk = k ∧ nn = n) ∧ ps.length ≤ c ∧ c ≤ maxLen ∧ TL ex lo hi w A 0 ps
def TL (ex : Bool) (lo hi : Nat) (w : World) : Option Addr → Nat → List Task → Prop
  | _, _, [] => True
  | A, i, t :: ts => (∃ b o cur T x y z, A = some ⟨b, o, none⟩ ∧ lo ≤ b ∧ b < hi ∧ w.heap[b]? = some (.cells cur T (0, 0)) ∧ cur[o + i * 3]? = some x ∧ cur[o + i * 3 + 1]? = some y ∧ cur[o + i * 3 + 2]? = some z ∧ TN ex lo hi w x y z t) ∧ TL ex lo hi w A (i + 1) ts
end
theorem TN.open {ex : Bool} {lo hi : Nat} {w : World} {x y z : Value} {t : Task} (h : TN ex lo hi w x y z t) : ∃ kk nn A c, x = .int .i64 kk ∧ y = .int .i64 nn ∧ z = .slice A t.parts.length c ∧ (ex = true → kk = t.kind ∧ nn = t.n) ∧ t.parts.length ≤ c ∧ c ≤ maxLen ∧ TL ex lo hi w A 0 t.parts := by
  cases t with
  | mk k n ps => rw [TN] at h; exact h
theorem TN.shut {ex : Bool} {lo hi : Nat} {w : World} {kk nn : Int} {A : Option Addr} {c : Nat} {t : Task} (h1 : ex = true → kk = t.kind ∧ nn = t.n) (h2 : t.parts.length ≤ c) (h3 : c ≤ maxLen) (h4 : TL ex lo hi w A 0 t.parts) : TN ex lo hi w (.int .i64 kk) (.int .i64 nn) (.slice A t.parts.length c) t := by
  cases t with
  | mk k n ps => rw [TN]; exact ⟨kk, nn, A, c, rfl, rfl, rfl, h1, h2, h3, h4⟩
theorem TL.get {ex : Bool} {lo hi : Nat} {w : World} {A : Option Addr} : ∀ {ps : List Task} {k : Nat}, TL ex lo hi w A k ps → ∀ i (h : i < ps.length), ∃ b o cur T x y z, A = some ⟨b, o, none⟩ ∧ lo ≤ b ∧ b < hi ∧ w.heap[b]? = some (.cells cur T (0, 0)) ∧ cur[o + (k + i) * 3]? = some x ∧ cur[o + (k + i) * 3 + 1]? = some y ∧ cur[o + (k + i) * 3 + 2]? = some z ∧ TN ex lo hi w x y z ps[i] := by
  intro ps
  induction ps with
  | nil => intro k _ i hi; simp at hi
  | cons t ts ih =>
    intro k h i hi
    rw [TL] at h
    cases i with
    | zero => exact h.1
    | succ i =>
      have := ih h.2 i (by simpa using hi)
      rw [show k + 1 + i = k + (i + 1) by omega] at this
      exact this
theorem TL.of {ex : Bool} {lo hi : Nat} {w : World} {A : Option Addr} : ∀ {ps : List Task} {k : Nat}, (∀ i (h : i < ps.length), ∃ b o cur T x y z, A = some ⟨b, o, none⟩ ∧ lo ≤ b ∧ b < hi ∧ w.heap[b]? = some (.cells cur T (0, 0)) ∧ cur[o + (k + i) * 3]? = some x ∧ cur[o + (k + i) * 3 + 1]? = some y ∧ cur[o + (k + i) * 3 + 2]? = some z ∧ TN ex lo hi w x y z ps[i]) → TL ex lo hi w A k ps := by
  intro ps
  induction ps with
  | nil => intro k _; rw [TL]; trivial
  | cons t ts ih =>
    intro k h
    rw [TL]
    refine ⟨h 0 (by simp), ih fun i hi => ?_⟩
    have := h (i + 1) (by simpa using hi)
    rw [show k + (i + 1) = k + 1 + i by omega] at this
    exact this
mutual
theorem TN.kept {ex : Bool} {lo hi lo' hi' : Nat} {w w' : World} (hk : ∀ b, lo ≤ b → b < hi → w'.heap[b]? = w.heap[b]?) (hl : lo' ≤ lo) (hh : hi ≤ hi') : ∀ (t : Task) (x y z : Value), TN ex lo hi w x y z t → TN ex lo' hi' w' x y z t
  | .mk k n ps, x, y, z, h => by
    rw [TN] at h ⊢
    obtain ⟨kk, nn, A, c, e1, e2, e3, h1, h2, h3, h4⟩ := h
    exact ⟨kk, nn, A, c, e1, e2, e3, h1, h2, h3, TL.kept hk hl hh ps A 0 h4⟩
theorem TL.kept {ex : Bool} {lo hi lo' hi' : Nat} {w w' : World} (hk : ∀ b, lo ≤ b → b < hi → w'.heap[b]? = w.heap[b]?) (hl : lo' ≤ lo) (hh : hi ≤ hi') : ∀ (ps : List Task) (A : Option Addr) (i : Nat), TL ex lo hi w A i ps → TL ex lo' hi' w' A i ps
  | [], A, i, _ => by rw [TL]; trivial
  | t :: ts, A, i, h => by
    rw [TL] at h ⊢
    obtain ⟨⟨b, o, cur, T, x, y, z, e, h1, h2, h3, h4, h5, h6, h7⟩, h8⟩ := h
    exact ⟨⟨b, o, cur, T, x, y, z, e, by omega, by omega, (hk b h1 h2).trans h3, h4, h5, h6, TN.kept hk hl hh t x y z h7⟩, TL.kept hk hl hh ts A (i + 1) h8⟩
end
mutual
theorem TN.weak {lo hi : Nat} {w : World} : ∀ (t : Task) (x y z : Value), TN true lo hi w x y z t → TN false lo hi w x y z t
  | .mk k n ps, x, y, z, h => by
    rw [TN] at h ⊢
    obtain ⟨kk, nn, A, c, e1, e2, e3, h1, h2, h3, h4⟩ := h
    exact ⟨kk, nn, A, c, e1, e2, e3, (fun h => by cases h), h2, h3, TL.weak ps A 0 h4⟩
theorem TL.weak {lo hi : Nat} {w : World} : ∀ (ps : List Task) (A : Option Addr) (i : Nat), TL true lo hi w A i ps → TL false lo hi w A i ps
  | [], A, i, _ => by rw [TL]; trivial
  | t :: ts, A, i, h => by
    rw [TL] at h ⊢
    obtain ⟨⟨b, o, cur, T, x, y, z, e, h1, h2, h3, h4, h5, h6, h7⟩, h8⟩ := h
    exact ⟨⟨b, o, cur, T, x, y, z, e, h1, h2, h3, h4, h5, h6, TN.weak t x y z h7⟩, TL.weak ts A (i + 1) h8⟩
end
mutual
theorem TN.is {lo hi B : Nat} {w : World} (hB : hi ≤ B) : ∀ (t : Task) (x y z : Value), TN true lo hi w x y z t → TaskIs B w (.agg #[x, y, z]) t
  | .mk k n ps, x, y, z, h => by
    rw [TN] at h
    rw [TaskIs]
    obtain ⟨kk, nn, A, c, rfl, rfl, rfl, h1, h2, h3, h4⟩ := h
    obtain ⟨rfl, rfl⟩ := h1 rfl
    exact ⟨A, c, rfl, h2, h3, TL.parts hB ps A 0 h4⟩
theorem TL.parts {lo hi B : Nat} {w : World} (hB : hi ≤ B) : ∀ (ps : List Task) (A : Option Addr) (i : Nat), TL true lo hi w A i ps → PartsIs B w A i ps
  | [], A, i, _ => by rw [PartsIs]; trivial
  | t :: ts, A, i, h => by
    rw [TL] at h
    rw [PartsIs]
    obtain ⟨⟨b, o, cur, T, x, y, z, e, h1, h2, h3, h4, h5, h6, h7⟩, h8⟩ := h
    exact ⟨⟨b, o, x, y, z, e, by omega, (cellm h3 _).trans h4, (cellm h3 _).trans h5, (cellm h3 _).trans h6, TN.is hB t x y z h7⟩, TL.parts hB ts A (i + 1) h8⟩
end
theorem cur_put {cur : Array Value} {j q : Nat} {u v old : Value} (hj : cur[j]? = some old) (hq : cur[q]? = some v) : (cur.setIfInBounds j u)[q]? = some (if q = j then u else v) := by
  have hlt := (Array.getElem?_eq_some_iff.1 hq).1
  rw [Array.getElem?_setIfInBounds]
  by_cases e : j = q
  · subst e; simp [hlt]
  · rw [if_neg e, if_neg (fun h => e h.symm), hq]
theorem TL.put_of {lo hi : Nat} {w : World} {b j : Nat} {cur : Array Value} {T : TypeId} {n0 : Int} (hb : w.heap[b]? = some (.cells cur T (0, 0))) (hj : cur[j]? = some (.int .i64 n0)) (n1 : Int) (ps : List Task)
    (ih : ∀ p ∈ ps, ∀ x y z, TN false lo hi w x y z p → TN false lo hi (w.setCell ⟨b, j, none⟩ (.int .i64 n1)) x y z p) (A : Option Addr) (h4 : TL false lo hi w A 0 ps) : TL false lo hi (w.setCell ⟨b, j, none⟩ (.int .i64 n1)) A 0 ps := by
  have hblk := setCell_block hb j (.int .i64 n1)
  have hfar := fun b' (hne : b' ≠ b) => setCell_far (w := w) (j := j) (v := .int .i64 n1) hne
  generalize w.setCell ⟨b, j, none⟩ (.int .i64 n1) = w' at *
  refine TL.of fun i hi => ?_
  obtain ⟨b', o, cur', T', x, y, z, e, g1, g2, g3, g4, g5, g6, g7⟩ := h4.get i hi
  have g7' := ih _ (List.getElem_mem hi) _ _ _ g7
  by_cases eb : b' = b
  · subst eb
    rw [g3] at hb
    cases hb
    obtain ⟨kk', nn', A', c', rfl, rfl, rfl, -⟩ := g7.open
    have ne : ¬ o + (0 + i) * 3 + 2 = j := fun e => by rw [e, hj] at g6; cases g6
    have c0 := cur_put (u := .int .i64 n1) hj g4
    have c1 := cur_put (u := .int .i64 n1) hj g5
    have c2 := cur_put (u := .int .i64 n1) hj g6
    rw [if_neg ne] at c2
    rw [← apply_ite (Value.int .i64)] at c0 c1
    obtain ⟨q1, q2, q3, q4, e1, e2, e3, p1, p2, p3, p4⟩ := g7'.open
    cases e1; cases e2; cases e3
    exact ⟨b', o, _, _, _, _, _, e, g1, g2, hblk, c0, c1, c2, TN.shut (fun h => by cases h) p2 p3 p4⟩
  · exact ⟨b', o, cur', T', x, y, z, e, g1, g2, (hfar b' eb).trans g3, g4, g5, g6, g7'⟩
/-- a number is written where a number stands: the shape stays -/
theorem TN.put {lo hi : Nat} {w : World} {b j : Nat} {cur : Array Value} {T : TypeId} {n0 : Int} (hb : w.heap[b]? = some (.cells cur T (0, 0))) (hj : cur[j]? = some (.int .i64 n0)) (n1 : Int) : ∀ (t : Task) (x y z : Value), TN false lo hi w x y z t → TN false lo hi (w.setCell ⟨b, j, none⟩ (.int .i64 n1)) x y z t := by
  refine Task.ind ?_
  intro k n ps ih x y z h
  obtain ⟨kk, nn, A, c, rfl, rfl, rfl, h1, h2, h3, h4⟩ := h.open
  exact TN.shut h1 h2 h3 (TL.put_of hb hj n1 ps ih A h4)
theorem TL.put {lo hi : Nat} {w : World} {b j : Nat} {cur : Array Value} {T : TypeId} {n0 : Int} (hb : w.heap[b]? = some (.cells cur T (0, 0))) (hj : cur[j]? = some (.int .i64 n0)) (n1 : Int) (ps : List Task) (A : Option Addr) (h : TL false lo hi w A 0 ps) : TL false lo hi (w.setCell ⟨b, j, none⟩ (.int .i64 n1)) A 0 ps :=
  TL.put_of hb hj n1 ps (fun p _ => TN.put hb hj n1 p) A h
theorem TL.up {ex : Bool} {lo : Nat} {w w' : World} {A : Option Addr} {i : Nat} {ps : List Task} (h : TL ex lo w.heap.size w A i ps) (hb : Below w.heap.size w w') : TL ex lo w'.heap.size w' A i ps :=
  TL.kept (fun b _ hlt => hb.block b hlt) (Nat.le_refl _) hb.size ps A i h
/-- make of a row of tasks -/
theorem make_tasks (n : Nat) (hn : n ≤ 1048576) : ∀ W : World, (Instr.makeSlice 29 (.int .i64 (n : Int)) (.int .i64 (n : Int))).run Try.prog W = .ok (.slice (some ⟨W.heap.size, 0, none⟩) n n) (W.alloc (.cells (madeCells #[.int .i64 0, .int .i64 0, .slice none 0 0] (n * 3)) 48)) := by
  intro W
  have hinfo : (Try.prog.info? 48).map (fun i => (i.zero, i.size, i.bytes)) = some (some (.agg #[.int .i64 0, .int .i64 0, .slice none 0 0]), 3, 40) := by kernel_rfl
  obtain ⟨i, hi, hz, hs, hb⟩ := info_parts hinfo
  have hr := run_make (P := Try.prog) W 29 48 i (.agg #[.int .i64 0, .int .i64 0, .slice none 0 0]) Try.underlying29 hi hz .i64 .i64 n n (by omega) (Int.le_refl _) (by rw [hb]; omega) (by omega)
  simp only [Int.toNat_natCast, hs] at hr
  exact hr
theorem parts_len : ∀ (ps : List Task), (ps.length : Int) ≤ nodesL ps
  | [] => by simp [nodesL]
  | p :: ps => by
    rw [nodesL]
    have := parts_len ps
    have := nodes_pos p
    simp; omega
theorem nodesL_at : ∀ {ps : List Task} {i : Nat} (h : i < ps.length), nodes ps[i] ≤ nodesL ps
  | [], i, h => by simp at h
  | p :: ps, i, h => by
    rw [nodesL]
    cases i with
    | zero => have := nodesL_pos ps; simp; omega
    | succ i =>
      have := nodesL_at (ps := ps) (i := i) (by simpa using h)
      have := nodes_pos p
      simp; omega
theorem nodesL_snoc : ∀ (ps : List Task) (t : Task), nodesL (ps ++ [t]) = nodesL ps + nodes t
  | [], t => by simp [nodesL]
  | p :: ps, t => by rw [List.cons_append, nodesL, nodesL, nodesL_snoc ps t]; omega
theorem nodes_parts (t : Task) : nodes t = 1 + nodesL t.parts := by cases t with | mk k n ps => rw [nodes]; rfl
end Go.Proofs.Ytpccgdkidnkppaa
