import Derived.WalkKit
import Derived.KernelRfl
import Derived.Lib.Hide
import Derived.BigQuiet
import Derived.Deep.QuietTactic
import Derived.Test.YtkbblekengdhaaaProg
set_option linter.unusedVariables false
set_option linter.unusedSimpArgs false
namespace Go.Proofs.Ytkbblekengdhaaa
open Go Go.RowKit

/-! what is true over any program -/

/-- function g can be entered: it has a body, and is no word of the machine's -/
def Enters (P : Program) (g : Nat) : Prop := ∀ (args : Array Value) (w : World), (callFunc g args).run P w = .ok (.enter g args) w
theorem enters_of {P : Program} {g : Nat} {fn : Func} (hf : P.funcs[g]? = some fn) (hn : (fn.name == "runtime.NumGoroutine") = false) (hb : fn.body.isNone = false) : Enters P g := by
  intro args w
  have hn' : ¬ fn.name = "runtime.NumGoroutine" := by simpa using hn
  have hb' : ¬ fn.body = none := by intro h; simp [h] at hb
  simp [callFunc, program, Sem.run, hf, hn', hb']

theorem wpList_call_value {P : Program} {ops : Array Oper} {rest : List Oper} {o : Oper} {a : Act} {Q : Exit → Act → World → Prop} {w : World}
    (hg : o.guard = none) (x : Operand) (ags : List Operand) (ts : Array TypeId) (hop : o.op = Op.call { callee := Callee.value x, args := ags.toArray, argTypes := ts })
    (g : Nat) (first cap : Array Value) (hx : a.eval x = .func (.func g) first cap) (hP : Enters P g)
    (hc : Calls P g (first ++ (ags.map a.eval).toArray ++ cap) w fun e w' => ∃ v, e = .returned v ∧ wpList P ops Q rest (a.put o.dst v) w') : wpList P ops Q (o :: rest) a w := by
  refine wpList_plain hg fun K hK' => ?_
  unfold Oper.wp
  have hrun : (execOp a.eval o).run P w = .ok (.enter g (first ++ (ags.map a.eval).toArray ++ cap)) w := by
    have := hP (first ++ (ags.map a.eval).toArray ++ cap) w
    simp [execOp, hop, resolve, hx, Deferred.ofValue, invoke]
    simpa using this
  rw [hrun]
  show Calls P g _ w _
  refine hc.mono fun e w' h => ?_
  obtain ⟨v, rfl, hk⟩ := h
  exact hK' _ _ hk

theorem bcell {B : Nat} {W w1 : World} (hb : Below B W w1) : (∀ b o, b < B → w1.cell? ⟨b, o, none⟩ = W.cell? ⟨b, o, none⟩) :=
  fun b o h => hb.cell (p := ⟨b, o, none⟩) h

/-! what a call turns: blocks out of F and new ones; behind it F' is what is owned -/
structure Turn (F F' : Nat → Prop) (w w' : World) : Prop where
  os : w'.os = w.os
  tape : w'.tape = w.tape
  output : w'.output = w.output
  size : w.heap.size ≤ w'.heap.size
  block : ∀ i, i < w.heap.size → ¬ F i → w'.heap[i]? = w.heap[i]?
  fresh : ∀ i, F' i → F i ∨ w.heap.size ≤ i
theorem Turn.refl (F : Nat → Prop) (w : World) : Turn F F w w := ⟨rfl, rfl, rfl, Nat.le_refl _, fun _ _ _ => rfl, fun _ h => .inl h⟩
theorem Turn.trans {F F1 F2 : Nat → Prop} {w w1 w2 : World} (h : Turn F F1 w w1) (k : Turn F1 F2 w1 w2) : Turn F F2 w w2 :=
  ⟨k.os.trans h.os, k.tape.trans h.tape, k.output.trans h.output, Nat.le_trans h.size k.size,
    fun i hi hF => (k.block i (Nat.lt_of_lt_of_le hi h.size) (fun hF1 => (h.fresh i hF1).elim hF (fun hge => by omega))).trans (h.block i hi hF),
    fun i hi => (k.fresh i hi).elim (h.fresh i) (fun hge => .inr (Nat.le_trans h.size hge))⟩
theorem Turn.alloc {F F' : Nat → Prop} {w w' : World} (h : Turn F F' w w') (o : Obj) : Turn F F' w (w'.alloc o) :=
  h.trans ⟨rfl, rfl, rfl, by simp, fun i hi _ => Below.heap_alloc _ _ _ hi, fun _ h => .inl h⟩
theorem Turn.drew {F F' : Nat → Prop} {w w' : World} (h : Turn F F' w w') : Turn F F' w w'.drew := ⟨h.os, h.tape, h.output, h.size, h.block, h.fresh⟩
theorem Turn.drewN {F F' : Nat → Prop} {w w' : World} (h : Turn F F' w w') (n : Nat) : Turn F F' w (w'.drewN n) := ⟨h.os, h.tape, h.output, h.size, h.block, h.fresh⟩
/-- new blocks were made ahead -/
theorem Turn.from_alloc {F F' : Nat → Prop} {w w' : World} {o : Obj} (h : Turn F F' (w.alloc o) w') : Turn F F' w w' :=
  (((Turn.refl F w).alloc o).trans h)
theorem Turn.cell {F F' : Nat → Prop} {w w' : World} (h : Turn F F' w w') {b : Nat} (o : Nat) (hb : b < w.heap.size) (hF : ¬ F b) : w'.cell? ⟨b, o, none⟩ = w.cell? ⟨b, o, none⟩ :=
  World.cell?_of_block (w := w) (h.block b hb hF)
theorem Turn.below {F F' : Nat → Prop} {w w' : World} (h : Turn F F' w w') {B : Nat} (hB : B ≤ w.heap.size) (hF : ∀ i, F i → B ≤ i) : Below B w w' :=
  ⟨h.os, h.tape, h.output, h.size, fun k hk => h.block k (by omega) (fun hf => by have := hF k hf; omega)⟩
theorem Turn.of_below {w w' : World} (h : Below w.heap.size w w') : Turn (fun _ => False) (fun _ => False) w w' := ⟨h.os, h.tape, h.output, h.size, fun k hk _ => h.block k hk, fun _ h => h.elim⟩

theorem below_up {w w1 w2 : World} (h : Below w.heap.size w w1) (k : Below w1.heap.size w1 w2) : Below w.heap.size w w2 := h.trans (k.mono h.size)
theorem below_al {w w1 : World} (h : Below w.heap.size w w1) (o : Obj) : Below w.heap.size w (w1.alloc o) := h.alloc h.size o
theorem below_from {w w1 : World} {o : Obj} (h : Below (w.alloc o).heap.size (w.alloc o) w1) : Below w.heap.size w w1 := below_up (below_al (Below.refl _ _) o) h
theorem below_al' {B : Nat} {w0 w : World} (h : Below B w0 w) (o : Obj) (hB : B ≤ w.heap.size) : Below B w0 (w.alloc o) := h.alloc hB o
/-- a later world is below what an earlier one was -/
theorem below_up' {B : Nat} {w0 w w1 : World} (h : Below B w0 w) (hB : B ≤ w.heap.size) (k : Below w.heap.size w w1) : Below B w0 w1 := h.trans (k.mono hB)

theorem cell_al {w : World} {ob : Obj} {b o : Nat} (h : b < w.heap.size) : (w.alloc ob).cell? ⟨b, o, none⟩ = w.cell? ⟨b, o, none⟩ := (below_al (Below.refl _ _) ob).cell (p := ⟨b, o, none⟩) h
theorem getD_at {α : Type} {xs : List α} {i : Nat} (d : α) (h : i < xs.length) : xs.getD i d = xs[i] := by simp [List.getD, h]
theorem getD_out {α : Type} {xs : List α} {i : Nat} (d : α) (h : xs.length ≤ i) : xs.getD i d = d := by simp [List.getD, h]

/-- a block that was there when a call began holds what it held -/
theorem kept_cell {w wr : World} (h : Below w.heap.size w wr) {b o : Nat} {v : Value} (hb : b < w.heap.size) (hc : w.cell? ⟨b, o, none⟩ = some v) : wr.cell? ⟨b, o, none⟩ = some v := (h.cell (p := ⟨b, o, none⟩) hb).trans hc

/-! rows whose elements are one cell -/
def RowAt {α : Type} (f : α → Value) (B : Nat) (w : World) (A : Option Addr) (xs : List α) : Prop :=
  ∀ i (h : i < xs.length), ∃ b o, A = some ⟨b, o, none⟩ ∧ b < B ∧ w.cell? ⟨b, o + i, none⟩ = some (f xs[i])
def vInt (n : Int) : Value := .int .i64 n
abbrev IntsAt := RowAt (fun n : Int => Value.int .i64 n)
abbrev BoolsAt := RowAt (fun b : Bool => Value.bool b)
theorem RowAt.nil {α : Type} (f : α → Value) (B : Nat) (w : World) (A : Option Addr) : RowAt f B w A [] := fun i h => by simp at h
theorem RowAt.at {α : Type} {f : α → Value} {B : Nat} {w0 w : World} {A : Option Addr} {xs : List α} (h : RowAt f B w0 A xs) (hb : Below B w0 w) (hB : B ≤ w.heap.size) (i : Nat) (hi : i < xs.length) :
    ∃ b o, A = some ⟨b, o, none⟩ ∧ b < w.heap.size ∧ w.cell? ⟨b, o + i, none⟩ = some (f xs[i]) := by
  obtain ⟨b, o, e, hlt, hc⟩ := h i hi
  exact ⟨b, o, e, by omega, (hb.cell hlt).trans hc⟩
theorem RowAt.up {α : Type} {f : α → Value} {B B' : Nat} {w0 w : World} {A : Option Addr} {xs : List α} (h : RowAt f B w0 A xs) (hb : Below B w0 w) (hB : B ≤ B') : RowAt f B' w A xs := by
  intro i hi
  obtain ⟨b, o, e, hlt, hc⟩ := h i hi
  exact ⟨b, o, e, by omega, (hb.cell hlt).trans hc⟩

/-! the first place where something holds -/
def idx {α : Type} (p : α → Bool) (xs : List α) : Int := match xs.findIdx? p with | some i => (i : Int) | none => -1
theorem idx_found {α : Type} {p : α → Bool} {xs : List α} {k : Nat} (hk : k < xs.length) (h : ∀ j (hj : j < k), p (xs[j]'(by omega)) = false) (hp : p xs[k] = true) : idx p xs = k := by
  have : xs.findIdx? p = some k := by
    rw [List.findIdx?_eq_some_iff_getElem]
    exact ⟨hk, hp, fun j hj => by simp [h j hj]⟩
  simp [idx, this]
theorem idx_none {α : Type} {p : α → Bool} {xs : List α} (h : ∀ j (hj : j < xs.length), p xs[j] = false) : idx p xs = -1 := by
  have : xs.findIdx? p = none := by
    rw [List.findIdx?_eq_none_iff]
    intro x hx
    obtain ⟨j, hj, rfl⟩ := List.getElem_of_mem hx
    exact h j hj
  simp [idx, this]
theorem idx_lt {α : Type} {p : α → Bool} {xs : List α} (h : 0 ≤ idx p xs) : ∃ j : Nat, idx p xs = j ∧ j < xs.length := by
  unfold idx at h ⊢
  cases e : xs.findIdx? p with
  | some i =>
    rw [List.findIdx?_eq_some_iff_getElem] at e
    obtain ⟨hi, _⟩ := e
    exact ⟨i, rfl, hi⟩
  | none => rw [e] at h; simp at h
theorem RowAt.drop {α : Type} {f : α → Value} {B : Nat} {w : World} {g o : Nat} {xs : List α} (h : RowAt f B w (some ⟨g, o, none⟩) xs) (j : Nat) : RowAt f B w (some ⟨g, o + j, none⟩) (xs.drop j) := by
  intro i hi
  simp only [List.length_drop] at hi
  obtain ⟨b, o', e, hlt, hc⟩ := h (j + i) (by omega)
  cases e
  exact ⟨_, _, rfl, hlt, by rw [Nat.add_assoc]; simpa using hc⟩
theorem idx_any {α : Type} (p : α → Bool) (xs : List α) : decide (0 ≤ idx p xs) = xs.any p := by
  unfold idx
  cases h : xs.findIdx? p with
  | some i =>
    rw [List.findIdx?_eq_some_iff_getElem] at h
    obtain ⟨hi, hp, _⟩ := h
    have : xs.any p = true := List.any_eq_true.2 ⟨xs[i], List.getElem_mem _, hp⟩
    simp [this]
  | none =>
    rw [List.findIdx?_eq_none_iff] at h
    have : xs.any p = false := by rw [List.any_eq_false]; intro x hx; simp [h x hx]
    simp [this]

/-! tasks -/
inductive Task where
  | mk (kind n : Int) (parts : List Task)
def Task.kind : Task → Int | .mk k _ _ => k
def Task.n : Task → Int | .mk _ n _ => n
def Task.parts : Task → List Task | .mk _ _ ps => ps
instance : Inhabited Task := ⟨.mk 0 0 []⟩

mutual
/-- the three cells of a task, and all that they lead to, in blocks below B -/
def TaskIs (B : Nat) (w : World) : Value → Task → Prop
  | v, .mk k n ps => ∃ A c, v = .agg #[.int .i64 k, .int .i64 n, .slice A ps.length c] ∧ ps.length ≤ c ∧ c ≤ maxLen ∧ PartsIs B w A 0 ps
def PartsIs (B : Nat) (w : World) : Option Addr → Nat → List Task → Prop
  | _, _, [] => True
  | A, i, t :: ts => (∃ b o x y z, A = some ⟨b, o, none⟩ ∧ b < B ∧ w.cell? ⟨b, o + i * 3, none⟩ = some x ∧ w.cell? ⟨b, o + i * 3 + 1, none⟩ = some y ∧
      w.cell? ⟨b, o + i * 3 + 2, none⟩ = some z ∧ TaskIs B w (.agg #[x, y, z]) t) ∧ PartsIs B w A (i + 1) ts
end

theorem PartsIs.get {B : Nat} {w : World} {A : Option Addr} : ∀ {ps : List Task} {k : Nat}, PartsIs B w A k ps → ∀ i (hi : i < ps.length),
    ∃ b o A' c', A = some ⟨b, o, none⟩ ∧ b < B ∧ w.cell? ⟨b, o + (k + i) * 3, none⟩ = some (.int .i64 ps[i].kind) ∧
      w.cell? ⟨b, o + (k + i) * 3 + 1, none⟩ = some (.int .i64 ps[i].n) ∧ w.cell? ⟨b, o + (k + i) * 3 + 2, none⟩ = some (.slice A' ps[i].parts.length c') ∧
      ps[i].parts.length ≤ c' ∧ c' ≤ maxLen ∧ PartsIs B w A' 0 ps[i].parts := by
  intro ps
  induction ps with
  | nil => intro k _ i hi; simp at hi
  | cons t ts ih =>
    intro k h i hi
    rw [PartsIs] at h
    obtain ⟨⟨b, o, x, y, z, rfl, hb, hx, hy, hz, ht⟩, hts⟩ := h
    cases i with
    | zero =>
      cases t with
      | mk k' n' ps' =>
        rw [TaskIs] at ht
        obtain ⟨A', c', he, hc, hm, hp⟩ := ht
        simp only [Value.agg.injEq, Array.mk.injEq, List.cons.injEq, and_true] at he
        obtain ⟨rfl, rfl, rfl⟩ := he
        exact ⟨b, o, A', c', rfl, hb, by simpa [Task.kind] using hx, by simpa [Task.n] using hy, by simpa [Task.parts] using hz, hc, hm, hp⟩
    | succ i =>
      obtain ⟨b', o', A', c', he, hb', h1, h2, h3, h4, h5, h6⟩ := ih hts i (by simpa using hi)
      rw [show k + 1 + i = k + (i + 1) from by omega] at h1 h2 h3
      exact ⟨b', o', A', c', he, hb', h1, h2, h3, h4, h5, h6⟩

/-- a part at a place, met in a later world -/
theorem PartsIs.at {B : Nat} {w0 w : World} {A : Option Addr} {ps : List Task} (h : PartsIs B w0 A 0 ps) (hb : Below B w0 w) (i : Nat) (hi : i < ps.length) :
    ∃ b o A' c', A = some ⟨b, o, none⟩ ∧ b < B ∧ w.cell? ⟨b, o + i * 3, none⟩ = some (.int .i64 ps[i].kind) ∧
      w.cell? ⟨b, o + i * 3 + 1, none⟩ = some (.int .i64 ps[i].n) ∧ w.cell? ⟨b, o + i * 3 + 2, none⟩ = some (.slice A' ps[i].parts.length c') ∧
      ps[i].parts.length ≤ c' ∧ c' ≤ maxLen ∧ PartsIs B w0 A' 0 ps[i].parts := by
  obtain ⟨b, o, A', c', e, hb', h1, h2, h3, r⟩ := h.get i hi
  rw [Nat.zero_add] at h1 h2 h3
  exact ⟨b, o, A', c', e, hb', (hb.cell hb').trans h1, (hb.cell hb').trans h2, (hb.cell hb').trans h3, r⟩

mutual
theorem TaskIs.up {B B' : Nat} {w0 w : World} (hb : Below B w0 w) (hB : B ≤ B') : ∀ (t : Task) (v : Value), TaskIs B w0 v t → TaskIs B' w v t
  | .mk k n ps, v, h => by
    rw [TaskIs] at h ⊢
    obtain ⟨A, c, e, hc, hm, hp⟩ := h
    exact ⟨A, c, e, hc, hm, PartsIs.up hb hB ps A 0 hp⟩
theorem PartsIs.up {B B' : Nat} {w0 w : World} (hb : Below B w0 w) (hB : B ≤ B') : ∀ (ps : List Task) (A : Option Addr) (i : Nat), PartsIs B w0 A i ps → PartsIs B' w A i ps
  | [], A, i, _ => by rw [PartsIs]; trivial
  | t :: ts, A, i, h => by
    rw [PartsIs] at h ⊢
    obtain ⟨⟨b, o, x, y, z, e, hlt, hx, hy, hz, ht⟩, hts⟩ := h
    exact ⟨⟨b, o, x, y, z, e, by omega, (hb.cell hlt).trans hx, (hb.cell hlt).trans hy, (hb.cell hlt).trans hz, TaskIs.up hb hB t _ ht⟩, PartsIs.up hb hB ts A (i + 1) hts⟩
end

theorem Task.ind {P : Task → Prop} (h : ∀ k n ps, (∀ p, p ∈ ps → P p) → P (.mk k n ps)) : ∀ t, P t
  | .mk k n ps => h k n ps (fun p _ => Task.ind h p)
termination_by t => SizeOf.sizeOf t
decreasing_by
  have := List.sizeOf_lt_of_mem ‹p ∈ ps›
  simp
  omega

/-- the shape of one node -/
def fitsN (k n : Int) (len : Nat) : Bool :=
  if k = 0 then decide (0 ≤ n ∧ n ≤ 96) && decide (len = 0)
  else if k = 1 then decide (0 ≤ n ∧ n ≤ 9) && decide (len = 0)
  else if k = 2 ∨ k = 3 then decide (n = 0) && decide (len = 2)
  else if k = 4 then decide (n = 0) && decide (len = 3)
  else if k = 5 then decide (0 ≤ n ∧ n ≤ 9) && decide (len = 1)
  else false

mutual
def cntTo : Task → Int → Int
  | .mk k n ps, room => if room < 1 ∨ fitsN k n ps.length = false then 16 else cntToL ps room 1
def cntToL : List Task → Int → Int → Int
  | [], _, n => n
  | p :: ps, room, n => if n > room then 16 else cntToL ps room (n + cntTo p (room - n))
end
def cntL : List Task → Int → Int
  | [], n => n
  | p :: ps, n => if n > 15 then n else cntL ps (n + cntTo p (15 - n))
def cnt : Task → Int
  | .mk k n ps => if fitsN k n ps.length = false then 16 else cntL ps 1

mutual
def fitAll : Task → Bool
  | .mk k n ps => fitsN k n ps.length && fitAllL ps
def fitAllL : List Task → Bool
  | [] => true
  | p :: ps => fitAll p && fitAllL ps
end
mutual
def nodes : Task → Int
  | .mk _ _ ps => 1 + nodesL ps
def nodesL : List Task → Int
  | [] => 0
  | p :: ps => nodes p + nodesL ps
end
def okT (t : Task) : Bool := fitAll t && decide (nodes t ≤ 15)

mutual
theorem nodes_pos : ∀ t, 1 ≤ nodes t
  | .mk _ _ ps => by rw [nodes]; have := nodesL_pos ps; omega
theorem nodesL_pos : ∀ ps, 0 ≤ nodesL ps
  | [] => by simp [nodesL]
  | p :: ps => by rw [nodesL]; have := nodes_pos p; have := nodesL_pos ps; omega
end

mutual
theorem cntTo_bound : ∀ (t : Task) (room : Int), room ≤ 15 → 1 ≤ cntTo t room ∧ (cntTo t room ≤ 16 ∨ cntTo t room ≤ 16 + 16 * room)
  | .mk k n ps, room, h => by
    rw [cntTo]
    split
    · omega
    · have := cntToL_bound ps room 1 h (by omega) (by omega)
      omega
theorem cntToL_bound : ∀ (ps : List Task) (room n : Int), room ≤ 15 → 1 ≤ n → n ≤ 16 + 16 * room → 1 ≤ cntToL ps room n ∧ (cntToL ps room n ≤ 16 + 16 * room ∨ cntToL ps room n ≤ 16)
  | [], room, n, h, h1, h2 => by rw [cntToL]; omega
  | p :: ps, room, n, h, h1, h2 => by
    rw [cntToL]
    split
    · omega
    · have hp := cntTo_bound p (room - n) (by omega)
      exact cntToL_bound ps room (n + cntTo p (room - n)) h (by omega) (by omega)
end

mutual
theorem cntTo_spec : ∀ (t : Task) (room : Int), room ≤ 15 → if fitAll t = true ∧ nodes t ≤ room then cntTo t room = nodes t else room < cntTo t room
  | .mk k n ps, room, h => by
    have hn := nodesL_pos ps
    rw [cntTo, fitAll, nodes]
    by_cases h1 : room < 1
    · rw [if_neg (by omega), if_pos (.inl h1)]; omega
    · by_cases h2 : fitsN k n ps.length = false
      · rw [if_neg (by simp [h2]), if_pos (.inr h2)]; omega
      · have hr : ¬ (room < 1 ∨ fitsN k n ps.length = false) := by simp [h1, h2]
        rw [if_neg hr]
        have := cntToL_spec ps room 1 h (by omega)
        simp only [Bool.not_eq_false] at h2
        rw [h2]
        simpa using this
theorem cntToL_spec : ∀ (ps : List Task) (room n : Int), room ≤ 15 → 1 ≤ n → if fitAllL ps = true ∧ n + nodesL ps ≤ room then cntToL ps room n = n + nodesL ps else room < cntToL ps room n
  | [], room, n, h, h1 => by simp [cntToL, nodesL, fitAllL]
  | p :: ps, room, n, h, h1 => by
    have hp := cntTo_spec p (room - n) (by omega)
    have hpb := cntTo_bound p (room - n) (by omega)
    have hnp := nodes_pos p
    have hn := nodesL_pos ps
    have hl := cntToL_spec ps room (n + cntTo p (room - n)) h (by omega)
    rw [cntToL, fitAllL, nodesL]
    by_cases h2 : n > room
    · rw [if_pos h2, if_neg (by omega)]; omega
    · rw [if_neg h2]
      by_cases h3 : fitAll p = true ∧ nodes p ≤ room - n
      · rw [if_pos h3] at hp
        rw [hp] at hl ⊢
        rw [h3.1, Bool.true_and]
        by_cases h4 : fitAllL ps = true ∧ n + nodes p + nodesL ps ≤ room
        · rw [if_pos h4] at hl
          rw [if_pos ⟨h4.1, by omega⟩, hl]; omega
        · rw [if_neg h4] at hl
          rw [if_neg (fun h5 => h4 ⟨h5.1, by omega⟩)]
          exact hl
      · rw [if_neg h3] at hp
        rw [if_neg (fun h5 => h3 ⟨(Bool.and_eq_true_iff.1 h5.1).1, by omega⟩)]
        split at hl <;> omega
end

theorem cntL_spec : ∀ (ps : List Task) (n : Int), 1 ≤ n → if fitAllL ps = true ∧ n + nodesL ps ≤ 15 then cntL ps n = n + nodesL ps else 15 < cntL ps n
  | [], n, h1 => by simp [cntL, nodesL, fitAllL]
  | p :: ps, n, h1 => by
    have hp := cntTo_spec p (15 - n) (by omega)
    have hpb := cntTo_bound p (15 - n) (by omega)
    have hnp := nodes_pos p
    have hn := nodesL_pos ps
    have hl := cntL_spec ps (n + cntTo p (15 - n)) (by omega)
    rw [cntL, fitAllL, nodesL]
    by_cases h2 : n > 15
    · rw [if_pos h2, if_neg (by omega)]; omega
    · rw [if_neg h2]
      by_cases h3 : fitAll p = true ∧ nodes p ≤ 15 - n
      · rw [if_pos h3] at hp
        rw [hp] at hl ⊢
        rw [h3.1, Bool.true_and]
        by_cases h4 : fitAllL ps = true ∧ n + nodes p + nodesL ps ≤ 15
        · rw [if_pos h4] at hl
          rw [if_pos ⟨h4.1, by omega⟩, hl]; omega
        · rw [if_neg h4] at hl
          rw [if_neg (fun h5 => h4 ⟨h5.1, by omega⟩)]
          exact hl
      · rw [if_neg h3] at hp
        rw [if_neg (fun h5 => h3 ⟨(Bool.and_eq_true_iff.1 h5.1).1, by omega⟩)]
        split at hl <;> omega

theorem cnt_okT (t : Task) : decide (cnt t ≤ 15) = okT t := by
  cases t with
  | mk k n ps =>
    have h := cntL_spec ps 1 (by omega)
    have hn := nodesL_pos ps
    rw [cnt, okT, fitAll, nodes]
    by_cases h2 : fitsN k n ps.length = false
    · simp [h2]
    · rw [if_neg h2]
      simp only [Bool.not_eq_false] at h2
      rw [h2, Bool.true_and]
      by_cases h4 : fitAllL ps = true ∧ 1 + nodesL ps ≤ 15
      · rw [if_pos h4] at h
        simp [h, h4.1, h4.2]
      · rw [if_neg h4] at h
        have e1 : decide (cntL ps 1 ≤ 15) = false := by simp; omega
        rw [e1]
        cases hf : fitAllL ps
        · rfl
        · have : ¬ 1 + nodesL ps ≤ 15 := fun h5 => h4 ⟨hf, h5⟩
          simp [this]

/-- tasks that are ones -/
inductive Tk where
  | num (n : Int)
  | get (k : Int)
  | add (a b : Tk)
  | mul (a b : Tk)
  | cond (a b c : Tk)
  | ix (n : Int) (a : Tk)

def Tk.enc : Tk → Task
  | .num n => .mk 0 n []
  | .get k => .mk 1 k []
  | .add a b => .mk 2 0 [a.enc, b.enc]
  | .mul a b => .mk 3 0 [a.enc, b.enc]
  | .cond a b c => .mk 4 0 [a.enc, b.enc, c.enc]
  | .ix n a => .mk 5 n [a.enc]

def Tk.run {σ : Type} (f : σ → Int → (Int × Bool) × σ) : Tk → σ → (Int × Bool) × σ
  | .num n, s => ((n, true), s)
  | .get k, s => f s k
  | .add a b, s =>
    let r := a.run f s
    if r.1.2 then let q := b.run f r.2; if q.1.2 then (((r.1.1 + q.1.1) % 97, true), q.2) else ((0, false), q.2) else ((0, false), r.2)
  | .mul a b, s =>
    let r := a.run f s
    if r.1.2 then let q := b.run f r.2; if q.1.2 then (((r.1.1 * q.1.1) % 97, true), q.2) else ((0, false), q.2) else ((0, false), r.2)
  | .cond a b c, s =>
    let r := a.run f s
    if r.1.2 then if r.1.1 ≠ 0 then b.run f r.2 else c.run f r.2 else ((0, false), r.2)
  | .ix n a, s =>
    let r := a.run f s
    if r.1.2 then f r.2 ((n + r.1.1) % 10) else ((0, false), r.2)

def Tk.ok : Tk → Prop
  | .num n => 0 ≤ n ∧ n ≤ 96
  | .get k => 0 ≤ k ∧ k ≤ 9
  | .add a b => a.ok ∧ b.ok
  | .mul a b => a.ok ∧ b.ok
  | .cond a b c => a.ok ∧ b.ok ∧ c.ok
  | .ix n a => 0 ≤ n ∧ n ≤ 9 ∧ a.ok

/-- what has the shape is a task -/
theorem fit_tk : ∀ t, fitAll t = true → ∃ k : Tk, t = k.enc ∧ k.ok := by
  refine Task.ind ?_
  intro k n ps ih h
  rw [fitAll, Bool.and_eq_true] at h
  obtain ⟨h1, h2⟩ := h
  unfold fitsN at h1
  split at h1
  · rename_i e; subst e
    simp only [Bool.and_eq_true, decide_eq_true_eq] at h1
    obtain ⟨h1, h3⟩ := h1
    obtain rfl := List.eq_nil_of_length_eq_zero h3
    exact ⟨.num n, rfl, h1⟩
  split at h1
  · rename_i e; subst e
    simp only [Bool.and_eq_true, decide_eq_true_eq] at h1
    obtain ⟨h1, h3⟩ := h1
    obtain rfl := List.eq_nil_of_length_eq_zero h3
    exact ⟨.get n, rfl, h1⟩
  split at h1
  · rename_i e
    simp only [Bool.and_eq_true, decide_eq_true_eq] at h1
    obtain ⟨rfl, h3⟩ := h1
    match ps, h3 with
    | [a, b], _ =>
      simp only [fitAllL, Bool.and_eq_true, and_true] at h2
      obtain ⟨x, rfl, hx⟩ := ih a (by simp) h2.1
      obtain ⟨y, rfl, hy⟩ := ih b (by simp) h2.2
      rcases e with rfl | rfl
      · exact ⟨.add x y, rfl, hx, hy⟩
      · exact ⟨.mul x y, rfl, hx, hy⟩
  split at h1
  · rename_i e; subst e
    simp only [Bool.and_eq_true, decide_eq_true_eq] at h1
    obtain ⟨rfl, h3⟩ := h1
    match ps, h3 with
    | [a, b, c], _ =>
      simp only [fitAllL, Bool.and_eq_true, and_true] at h2
      obtain ⟨x, rfl, hx⟩ := ih a (by simp) h2.1
      obtain ⟨y, rfl, hy⟩ := ih b (by simp) h2.2.1
      obtain ⟨z, rfl, hz⟩ := ih c (by simp) h2.2.2
      exact ⟨.cond x y z, rfl, hx, hy, hz⟩
  split at h1
  · rename_i e; subst e
    simp only [Bool.and_eq_true, decide_eq_true_eq] at h1
    obtain ⟨⟨h0, h9⟩, h3⟩ := h1
    match ps, h3 with
    | [a], _ =>
      simp only [fitAllL, Bool.and_eq_true, and_true] at h2
      obtain ⟨x, rfl, hx⟩ := ih a (by simp) h2
      exact ⟨.ix n x, rfl, h0, h9, hx⟩
  · simp at h1
theorem okT_tk {t : Task} (h : okT t = true) : ∃ k : Tk, t = k.enc ∧ k.ok := fit_tk t (Bool.and_eq_true_iff.1 h).1
end Go.Proofs.Ytkbblekengdhaaa

set_option linter.unusedVariables false
set_option linter.unusedSimpArgs false
namespace Go.Proofs.Ytkbblekengdhaaa
open Go Go.RowKit

/-- the post of a call that gives an int and a truth, and leaves a state -/
def Gives {σ : Type} (I : σ → World → (Nat → Prop) → Prop) (F : Nat → Prop) (w : World) (r : (Int × Bool) × σ) (e : Ending) (w' : World) : Prop :=
  e = .returned (.tuple #[.int .i64 r.1.1, .bool r.1.2]) ∧ 0 ≤ r.1.1 ∧ r.1.1 ≤ 96 ∧ ∃ F', I r.2 w' F' ∧ Turn F F' w w'

/-- what a state's predicate is to keep -/
structure Holds {σ : Type} (I : σ → World → (Nat → Prop) → Prop) (B : Nat) (w0 : World) : Prop where
  old : ∀ s w F, I s w F → Below B w0 w ∧ B ≤ w.heap.size
  own : ∀ s w F, I s w F → ∀ i, F i → B ≤ i ∧ i < w.heap.size
  alloc : ∀ s w F o, I s w F → I s (w.alloc o) F

theorem mul_bound {x y : Int} (a : 0 ≤ x) (b : x ≤ 96) (c : 0 ≤ y) (d : y ≤ 96) : 0 ≤ x * y ∧ x * y ≤ 9216 :=
  ⟨Int.mul_nonneg a c, by have := Int.mul_le_mul b d c (by omega); omega⟩

/-- how often a task may fetch -/
def Tk.fets : Tk → Nat
  | .num _ => 0
  | .get _ => 1
  | .add a b => a.fets + b.fets
  | .mul a b => a.fets + b.fets
  | .cond a b d => a.fets + b.fets + d.fets
  | .ix _ a => a.fets + 1

set_option maxHeartbeats 1000000 in
/-- a task that is run with a fetch that keeps I; the number says how many fetches are left -/
theorem run_callsN {σ : Type} (I : Nat → σ → World → (Nat → Prop) → Prop) (f : σ → Int → (Int × Bool) × σ) (g : Nat) (first cap : Array Value) (B : Nat) (w0 : World) (hg : Enters Try.prog g)
    (hI : ∀ n, Holds (I n) B w0) (hmono : ∀ n s w F, I (n + 1) s w F → I n s w F)
    (hf : ∀ n s k w F, I (n + 1) s w F → 0 ≤ k → k ≤ 9 → Calls Try.prog g (first ++ #[.int .i64 k] ++ cap) w (Gives (I n) F w (f s k))) :
    ∀ (t : Tk) (u : Nat) (A : Option Addr) (c : Nat) (s : σ) (w : World) (F : Nat → Prop), t.ok → I (u + t.fets) s w F → t.enc.parts.length ≤ c → PartsIs B w0 A 0 t.enc.parts →
      Calls Try.prog 115 #[.agg #[.int .i64 t.enc.kind, .int .i64 t.enc.n, .slice A t.enc.parts.length c], .func (.func g) first cap] w (Gives (I u) F w (t.run f s)) := by
  have hdown : ∀ m n s w F, I (n + m) s w F → I n s w F := by
    intro m
    induction m with
    | zero => intro n s w F h; exact h
    | succ m ih => intro n s w F h; exact ih n s w F (hmono _ s w F h)
  intro t
  replace hI := Lib.hid hI
  replace hf := Lib.hid hf
  replace hdown := Lib.hid hdown
  clear hmono
  induction t with
  | num x =>
    intro u A c s w F hok hs hc hp
    replace hs := Lib.hid hs
    simp only [Tk.enc, Task.kind, Task.n, Task.parts, Tk.ok] at hok hc hp ⊢
    go_enter Try.func115, Try.ntmps115
    go_wp2_with fail
    go_ret2
    exact ⟨rfl, hok.1, hok.2, F, (hI.out _).alloc _ _ _ _ hs.out, (Turn.refl F w).alloc _⟩
  | get k =>
    intro u A c s w F hok hs hc hp
    replace hs := Lib.hid hs
    simp only [Tk.enc, Task.kind, Task.n, Task.parts, Tk.ok] at hok hc hp ⊢
    go_enter Try.func115, Try.ntmps115
    go_wp2_with ((with_reducible refine wpList_call_value (by rfl) (.tmp 17) _ _ (by rfl) g first cap (by with_unfolding_all rfl) hg ?_); refine (hf.out u s k _ F ((hI.out _).alloc _ _ _ _ hs.out) hok.1 hok.2).mono ?_; rintro e w' ⟨rfl, h1, h2, F', h3, h4⟩; replace h3 := Lib.hid h3; refine ⟨_, rfl, ?_⟩)
    go_ret2
    exact ⟨rfl, h1, h2, F', h3.out, ((Turn.refl F w).alloc _).trans h4⟩
  | add a b iha ihb =>
    intro u A c s w F hok hs hc hp
    replace hs : I (u + b.fets + a.fets) s w F := by
      have e : u + (a.fets + b.fets) = u + b.fets + a.fets := by omega
      exact e ▸ hs
    replace hs := Lib.hid hs
    replace iha := Lib.hid iha
    replace ihb := Lib.hid ihb
    simp only [Tk.enc, Task.kind, Task.n, Task.parts, Tk.ok] at hok hc hp ⊢
    obtain ⟨b0, o0, A0, c0, rfl, hb0, hx0, hy0, hz0, hc0, hm0, hp0⟩ := hp.at ((hI.out _).old _ _ _ hs.out).1 0 (by simp)
    have hlt : b0 < w.heap.size := Nat.lt_of_lt_of_le hb0 ((hI.out _).old _ _ _ hs.out).2
    simp only [List.getElem_cons_zero, Nat.zero_mul, Nat.add_zero] at hx0 hy0 hz0 hc0 hp0
    have hlen : ([a.enc, b.enc] : List Task).length = 2 := rfl
    simp only [hlen] at hc ⊢
    clear hlen
    go_enter Try.func115, Try.ntmps115
    go_wp2_with fail
    refine (iha.out (u + b.fets) A0 c0 s _ F hok.1 ((hI.out _).alloc _ _ _ _ hs.out) hc0 hp0).mono ?_
    rintro e w1 ⟨rfl, v1, v2, F1, h3, h4⟩
    replace h3 := Lib.hid h3
    have t1 := ((Turn.refl F w).alloc _).trans h4
    have hn : ¬ F w.heap.size := fun h => by have := ((hI.out _).own _ _ _ hs.out _ h).2; omega
    have hn1 : ¬ F1 w.heap.size := fun h => (h4.fresh _ h).elim hn (fun h => by simp at h; omega)
    have bx0 : w1.cell? ⟨w.heap.size, 0, none⟩ = some (.int .i64 2) := (h4.cell 0 (by simp) hn).trans (by simp)
    have bx1 : w1.cell? ⟨w.heap.size, 1, none⟩ = some (.int .i64 0) := (h4.cell 1 (by simp) hn).trans (by simp)
    have bx2 : w1.cell? ⟨w.heap.size, 2, none⟩ = some (.slice (some ⟨b0, o0, none⟩) 2 c) := (h4.cell 2 (by simp) hn).trans (by simp)
    have hlt1 : b0 < w1.heap.size := Nat.lt_of_lt_of_le hlt t1.size
    obtain ⟨b1, o1, A1, c1, e1, _, hx1, hy1, hz1, hc1, hm1, hp1⟩ := hp.at ((hI.out _).old _ _ _ h3.out).1 1 (by simp)
    simp only [Option.some.injEq, Addr.mk.injEq, and_true] at e1
    obtain ⟨rfl, rfl⟩ := e1
    simp only [List.getElem_cons_zero, List.getElem_cons_succ, Nat.one_mul, Nat.reduceMul] at hx1 hy1 hz1 hc1 hp1
    replace t1 := Lib.hid t1
    have szl : w.heap.size < w1.heap.size := by have := h4.size; simp at this; omega
    replace hn := Lib.hid hn
    replace hn1 := Lib.hid hn1
    clear h4 hx0 hy0 hz0 hlt
    cases hr : (a.run f s).1.2 with
    | false =>
      go_wp2_with fail
      go_ret2
      exact ⟨by simp [Tk.run, hr], by simp [Tk.run, hr], by simp [Tk.run, hr], F1, by simpa [Tk.run, hr] using hdown.out (b.fets) u _ _ _ (by rw [show u + (b.fets) = u + b.fets from by omega]; exact h3.out), t1.out⟩
    | true =>
      go_wp2_with fail
      refine (ihb.out u A1 c1 _ _ F1 hok.2 h3.out hc1 hp1).mono ?_
      rintro e w2 ⟨rfl, u1, u2, F2, h5, h6⟩
      replace h5 := Lib.hid h5
      have by0 : w2.cell? ⟨w.heap.size, 0, none⟩ = some (.int .i64 2) := (h6.cell 0 szl hn1.out).trans bx0
      replace h6 := Lib.hid h6
      clear bx0 bx1 bx2 hx1 hy1 hz1 hlt1
      cases hq : (b.run f (a.run f s).2).1.2 with
      | false =>
        go_wp2_with fail
        go_ret2
        exact ⟨by simp [Tk.run, hr, hq], by simp [Tk.run, hr, hq], by simp [Tk.run, hr, hq], F2, by simpa [Tk.run, hr, hq] using h5.out, t1.out.trans h6.out⟩
      | true =>
        have hrun : Tk.run f (a.add b) s = ((((a.run f s).1.1 + (b.run f (a.run f s).2).1.1) % 97, true), (b.run f (a.run f s).2).2) := by simp [Tk.run, hr, hq]
        replace hrun := Lib.hid hrun
        generalize (b.run f (a.run f s).2).1.1 = y at *
        generalize (a.run f s).1.1 = x at *
        skip
        go_wp2_with fail
        go_ret2
        rw [hrun.out]
        exact ⟨rfl, by simp only []; omega, by simp only []; omega, F2, h5.out, t1.out.trans h6.out⟩
  | mul a b iha ihb =>
    intro u A c s w F hok hs hc hp
    replace hs : I (u + b.fets + a.fets) s w F := by
      have e : u + (a.fets + b.fets) = u + b.fets + a.fets := by omega
      exact e ▸ hs
    replace hs := Lib.hid hs
    replace iha := Lib.hid iha
    replace ihb := Lib.hid ihb
    simp only [Tk.enc, Task.kind, Task.n, Task.parts, Tk.ok] at hok hc hp ⊢
    obtain ⟨b0, o0, A0, c0, rfl, hb0, hx0, hy0, hz0, hc0, hm0, hp0⟩ := hp.at ((hI.out _).old _ _ _ hs.out).1 0 (by simp)
    have hlt : b0 < w.heap.size := Nat.lt_of_lt_of_le hb0 ((hI.out _).old _ _ _ hs.out).2
    simp only [List.getElem_cons_zero, Nat.zero_mul, Nat.add_zero] at hx0 hy0 hz0 hc0 hp0
    have hlen : ([a.enc, b.enc] : List Task).length = 2 := rfl
    simp only [hlen] at hc ⊢
    clear hlen
    go_enter Try.func115, Try.ntmps115
    go_wp2_with fail
    refine (iha.out (u + b.fets) A0 c0 s _ F hok.1 ((hI.out _).alloc _ _ _ _ hs.out) hc0 hp0).mono ?_
    rintro e w1 ⟨rfl, v1, v2, F1, h3, h4⟩
    replace h3 := Lib.hid h3
    have t1 := ((Turn.refl F w).alloc _).trans h4
    have hn : ¬ F w.heap.size := fun h => by have := ((hI.out _).own _ _ _ hs.out _ h).2; omega
    have hn1 : ¬ F1 w.heap.size := fun h => (h4.fresh _ h).elim hn (fun h => by simp at h; omega)
    have bx0 : w1.cell? ⟨w.heap.size, 0, none⟩ = some (.int .i64 3) := (h4.cell 0 (by simp) hn).trans (by simp)
    have bx1 : w1.cell? ⟨w.heap.size, 1, none⟩ = some (.int .i64 0) := (h4.cell 1 (by simp) hn).trans (by simp)
    have bx2 : w1.cell? ⟨w.heap.size, 2, none⟩ = some (.slice (some ⟨b0, o0, none⟩) 2 c) := (h4.cell 2 (by simp) hn).trans (by simp)
    have hlt1 : b0 < w1.heap.size := Nat.lt_of_lt_of_le hlt t1.size
    obtain ⟨b1, o1, A1, c1, e1, _, hx1, hy1, hz1, hc1, hm1, hp1⟩ := hp.at ((hI.out _).old _ _ _ h3.out).1 1 (by simp)
    simp only [Option.some.injEq, Addr.mk.injEq, and_true] at e1
    obtain ⟨rfl, rfl⟩ := e1
    simp only [List.getElem_cons_zero, List.getElem_cons_succ, Nat.one_mul, Nat.reduceMul] at hx1 hy1 hz1 hc1 hp1
    replace t1 := Lib.hid t1
    have szl : w.heap.size < w1.heap.size := by have := h4.size; simp at this; omega
    replace hn := Lib.hid hn
    replace hn1 := Lib.hid hn1
    clear h4 hx0 hy0 hz0 hlt
    cases hr : (a.run f s).1.2 with
    | false =>
      go_wp2_with fail
      go_ret2
      exact ⟨by simp [Tk.run, hr], by simp [Tk.run, hr], by simp [Tk.run, hr], F1, by simpa [Tk.run, hr] using hdown.out (b.fets) u _ _ _ (by rw [show u + (b.fets) = u + b.fets from by omega]; exact h3.out), t1.out⟩
    | true =>
      go_wp2_with fail
      refine (ihb.out u A1 c1 _ _ F1 hok.2 h3.out hc1 hp1).mono ?_
      rintro e w2 ⟨rfl, u1, u2, F2, h5, h6⟩
      replace h5 := Lib.hid h5
      have by0 : w2.cell? ⟨w.heap.size, 0, none⟩ = some (.int .i64 3) := (h6.cell 0 szl hn1.out).trans bx0
      replace h6 := Lib.hid h6
      clear bx0 bx1 bx2 hx1 hy1 hz1 hlt1
      cases hq : (b.run f (a.run f s).2).1.2 with
      | false =>
        go_wp2_with fail
        go_ret2
        exact ⟨by simp [Tk.run, hr, hq], by simp [Tk.run, hr, hq], by simp [Tk.run, hr, hq], F2, by simpa [Tk.run, hr, hq] using h5.out, t1.out.trans h6.out⟩
      | true =>
        have hrun : Tk.run f (a.mul b) s = ((((a.run f s).1.1 * (b.run f (a.run f s).2).1.1) % 97, true), (b.run f (a.run f s).2).2) := by simp [Tk.run, hr, hq]
        replace hrun := Lib.hid hrun
        generalize (b.run f (a.run f s).2).1.1 = y at *
        generalize (a.run f s).1.1 = x at *
        have hxy : 0 ≤ x * y ∧ x * y ≤ 9216 := mul_bound v1 v2 u1 u2
        go_wp2_with fail
        go_ret2
        rw [hrun.out]
        exact ⟨rfl, by simp only []; omega, by simp only []; omega, F2, h5.out, t1.out.trans h6.out⟩
  | cond a b d iha ihb ihd =>
    intro u A c s w F hok hs hc hp
    replace hs : I (u + b.fets + d.fets + a.fets) s w F := by
      have e : u + (a.fets + b.fets + d.fets) = u + b.fets + d.fets + a.fets := by omega
      exact e ▸ hs
    replace hs := Lib.hid hs
    replace iha := Lib.hid iha
    replace ihb := Lib.hid ihb
    replace ihd := Lib.hid ihd
    simp only [Tk.enc, Task.kind, Task.n, Task.parts, Tk.ok] at hok hc hp ⊢
    obtain ⟨b0, o0, A0, c0, rfl, hb0, hx0, hy0, hz0, hc0, hm0, hp0⟩ := hp.at ((hI.out _).old _ _ _ hs.out).1 0 (by simp)
    have hlt : b0 < w.heap.size := Nat.lt_of_lt_of_le hb0 ((hI.out _).old _ _ _ hs.out).2
    simp only [List.getElem_cons_zero, Nat.zero_mul, Nat.add_zero] at hx0 hy0 hz0 hc0 hp0
    have hlen : ([a.enc, b.enc, d.enc] : List Task).length = 3 := rfl
    simp only [hlen] at hc ⊢
    clear hlen
    go_enter Try.func115, Try.ntmps115
    go_wp2_with fail
    refine (iha.out (u + b.fets + d.fets) A0 c0 s _ F hok.1 ((hI.out _).alloc _ _ _ _ hs.out) hc0 hp0).mono ?_
    rintro e w1 ⟨rfl, v1, v2, F1, h3, h4⟩
    replace h3 := Lib.hid h3
    have t1 := ((Turn.refl F w).alloc _).trans h4
    have hn : ¬ F w.heap.size := fun h => by have := ((hI.out _).own _ _ _ hs.out _ h).2; omega
    have hn1 : ¬ F1 w.heap.size := fun h => (h4.fresh _ h).elim hn (fun h => by simp at h; omega)
    have bx0 : w1.cell? ⟨w.heap.size, 0, none⟩ = some (.int .i64 4) := (h4.cell 0 (by simp) hn).trans (by simp)
    have bx1 : w1.cell? ⟨w.heap.size, 1, none⟩ = some (.int .i64 0) := (h4.cell 1 (by simp) hn).trans (by simp)
    have bx2 : w1.cell? ⟨w.heap.size, 2, none⟩ = some (.slice (some ⟨b0, o0, none⟩) 3 c) := (h4.cell 2 (by simp) hn).trans (by simp)
    have hlt1 : b0 < w1.heap.size := Nat.lt_of_lt_of_le hlt t1.size
    obtain ⟨b1, o1, A1, c1, e1, _, hx1, hy1, hz1, hc1, hm1, hp1⟩ := hp.at ((hI.out _).old _ _ _ h3.out).1 1 (by simp)
    simp only [Option.some.injEq, Addr.mk.injEq, and_true] at e1
    obtain ⟨rfl, rfl⟩ := e1
    simp only [List.getElem_cons_zero, List.getElem_cons_succ, Nat.one_mul, Nat.reduceMul] at hx1 hy1 hz1 hc1 hp1
    obtain ⟨b2, o2, A2, c2, e2, _, hx2, hy2, hz2, hc2, hm2, hp2⟩ := hp.at ((hI.out _).old _ _ _ h3.out).1 2 (by simp)
    simp only [Option.some.injEq, Addr.mk.injEq, and_true] at e2
    obtain ⟨rfl, rfl⟩ := e2
    simp only [List.getElem_cons_zero, List.getElem_cons_succ, Nat.one_mul, Nat.reduceMul] at hx2 hy2 hz2 hc2 hp2
    replace t1 := Lib.hid t1
    have szl : w.heap.size < w1.heap.size := by have := h4.size; simp at this; omega
    replace hn := Lib.hid hn
    replace hn1 := Lib.hid hn1
    clear h4 hx0 hy0 hz0 hlt
    cases hr : (a.run f s).1.2 with
    | false =>
      go_wp2_with fail
      go_ret2
      exact ⟨by simp [Tk.run, hr], by simp [Tk.run, hr], by simp [Tk.run, hr], F1, by simpa [Tk.run, hr] using hdown.out (b.fets + d.fets) u _ _ _ (by rw [show u + (b.fets + d.fets) = u + b.fets + d.fets from by omega]; exact h3.out), t1.out⟩
    | true =>
      by_cases hz : (a.run f s).1.1 = 0
      · have hz' : ((a.run f s).1.1 != 0) = false := by simp [hz]
        replace hz := Lib.hid hz
        go_wp2_with fail
        refine (ihd.out (u + b.fets) A2 c2 _ _ F1 hok.2.2 h3.out hc2 hp2).mono ?_
        rintro e w2 ⟨rfl, u1, u2, F2, h5, h6⟩
        replace h5 := Lib.hid h5
        replace h6 := Lib.hid h6
        have hrun : Tk.run f (Tk.cond a b d) s = d.run f (a.run f s).2 := by simp [Tk.run, hr, hz.out]
        replace hrun := Lib.hid hrun
        go_wp2_with fail
        go_ret2
        rw [hrun.out]
        exact ⟨rfl, u1, u2, F2, hdown.out _ _ _ _ _ h5.out, t1.out.trans h6.out⟩
      · have hz' : ((a.run f s).1.1 != 0) = true := by simp [hz]
        replace hz := Lib.hid hz
        go_wp2_with fail
        refine (ihb.out (u + d.fets) A1 c1 _ _ F1 hok.2.1 (by rw [show u + d.fets + b.fets = u + b.fets + d.fets from by omega]; exact h3.out) hc1 hp1).mono ?_
        rintro e w2 ⟨rfl, u1, u2, F2, h5, h6⟩
        replace h5 := Lib.hid h5
        replace h6 := Lib.hid h6
        have hrun : Tk.run f (Tk.cond a b d) s = b.run f (a.run f s).2 := by simp [Tk.run, hr, hz.out]
        replace hrun := Lib.hid hrun
        go_wp2_with fail
        go_ret2
        rw [hrun.out]
        exact ⟨rfl, u1, u2, F2, hdown.out _ _ _ _ _ h5.out, t1.out.trans h6.out⟩
  | ix n a iha =>
    intro u A c s w F hok hs hc hp
    replace hs : I (u + 1 + a.fets) s w F := by
      have e : u + (a.fets + 1) = u + 1 + a.fets := by omega
      exact e ▸ hs
    replace hs := Lib.hid hs
    replace iha := Lib.hid iha
    simp only [Tk.enc, Task.kind, Task.n, Task.parts, Tk.ok] at hok hc hp ⊢
    obtain ⟨b0, o0, A0, c0, rfl, hb0, hx0, hy0, hz0, hc0, hm0, hp0⟩ := hp.at ((hI.out _).old _ _ _ hs.out).1 0 (by simp)
    have hlt : b0 < w.heap.size := Nat.lt_of_lt_of_le hb0 ((hI.out _).old _ _ _ hs.out).2
    simp only [List.getElem_cons_zero, Nat.zero_mul, Nat.add_zero] at hx0 hy0 hz0 hc0 hp0
    have hlen : ([a.enc] : List Task).length = 1 := rfl
    simp only [hlen] at hc ⊢
    clear hlen
    go_enter Try.func115, Try.ntmps115
    go_wp2_with fail
    refine (iha.out (u + 1) A0 c0 s _ F hok.2.2 ((hI.out _).alloc _ _ _ _ hs.out) hc0 hp0).mono ?_
    rintro e w1 ⟨rfl, v1, v2, F1, h3, h4⟩
    replace h3 := Lib.hid h3
    have t1 := ((Turn.refl F w).alloc _).trans h4
    have hn : ¬ F w.heap.size := fun h => by have := ((hI.out _).own _ _ _ hs.out _ h).2; omega
    have hn1 : ¬ F1 w.heap.size := fun h => (h4.fresh _ h).elim hn (fun h => by simp at h; omega)
    have bx0 : w1.cell? ⟨w.heap.size, 0, none⟩ = some (.int .i64 5) := (h4.cell 0 (by simp) hn).trans (by simp)
    have bx1 : w1.cell? ⟨w.heap.size, 1, none⟩ = some (.int .i64 n) := (h4.cell 1 (by simp) hn).trans (by simp)
    have bx2 : w1.cell? ⟨w.heap.size, 2, none⟩ = some (.slice (some ⟨b0, o0, none⟩) 1 c) := (h4.cell 2 (by simp) hn).trans (by simp)
    have hlt1 : b0 < w1.heap.size := Nat.lt_of_lt_of_le hlt t1.size
    replace t1 := Lib.hid t1
    have szl : w.heap.size < w1.heap.size := by have := h4.size; simp at this; omega
    replace hn := Lib.hid hn
    replace hn1 := Lib.hid hn1
    clear h4 hx0 hy0 hz0 hlt
    cases hr : (a.run f s).1.2 with
    | false =>
      go_wp2_with fail
      go_ret2
      exact ⟨by simp [Tk.run, hr], by simp [Tk.run, hr], by simp [Tk.run, hr], F1, by simpa [Tk.run, hr] using hdown.out (1) u _ _ _ (by rw [show u + (1) = u + 1 from by omega]; exact h3.out), t1.out⟩
    | true =>
      have hrun : Tk.run f (Tk.ix n a) s = f (a.run f s).2 ((n + (a.run f s).1.1) % 10) := by simp [Tk.run, hr]
      replace hrun := Lib.hid hrun
      generalize (a.run f s).1.1 = x at *
      have n1 := hok.1
      have n2 := hok.2.1
      clear hok
      go_wp2_with ((with_reducible refine wpList_call_value (by rfl) (.tmp 38) _ _ (by rfl) g first cap (by with_unfolding_all rfl) hg ?_); refine (hf.out u _ ((n + x) % 10) _ F1 h3.out (by omega) (by omega)).mono ?_; rintro e w' ⟨rfl, u1, u2, F2, h5, h6⟩; replace h5 := Lib.hid h5; refine ⟨_, rfl, ?_⟩)
      go_ret2
      rw [hrun.out]
      exact ⟨rfl, u1, u2, F2, h5.out, t1.out.trans h6⟩

theorem run_calls {σ : Type} (I : σ → World → (Nat → Prop) → Prop) (f : σ → Int → (Int × Bool) × σ) (g : Nat) (first cap : Array Value) (B : Nat) (w0 : World) (hg : Enters Try.prog g)
    (hI : Holds I B w0)
    (hf : ∀ s k w F, I s w F → 0 ≤ k → k ≤ 9 → Calls Try.prog g (first ++ #[.int .i64 k] ++ cap) w (Gives I F w (f s k))) (t : Tk) (A : Option Addr) (c : Nat) (s : σ) (w : World) (F : Nat → Prop) (hok : t.ok) (hs : I s w F) (hc : t.enc.parts.length ≤ c) (hp : PartsIs B w0 A 0 t.enc.parts) :
    Calls Try.prog 115 #[.agg #[.int .i64 t.enc.kind, .int .i64 t.enc.n, .slice A t.enc.parts.length c], .func (.func g) first cap] w (Gives I F w (t.run f s)) :=
  run_callsN (fun _ => I) f g first cap B w0 hg (fun _ => hI) (fun _ _ _ _ h => h) (fun _ => hf) t 0 A c s w F hok hs hc hp
end Go.Proofs.Ytkbblekengdhaaa

set_option linter.unusedVariables false
set_option linter.unusedSimpArgs false
namespace Go.Proofs.Ytkbblekengdhaaa
open Go Go.RowKit

theorem isValue_calls (n : Int) (w : World) : Calls Try.prog 133 #[.int .i64 n] w fun e w' => e = .returned (.bool (decide (0 ≤ n ∧ n ≤ 96))) ∧ w = w' := by
  by_cases h : 0 ≤ n <;>
  · go_enter Try.func133, Try.ntmps133
    go_wp2
    go_ret
    refine ⟨?_, rfl⟩
    by_cases h2 : n ≤ 96 <;> simp [h, h2] <;> omega

theorem isKey_calls (n : Int) (w : World) : Calls Try.prog 147 #[.int .i64 n] w fun e w' => e = .returned (.bool (decide (0 ≤ n ∧ n ≤ 9))) ∧ w = w' := by
  by_cases h : 0 ≤ n <;>
  · go_enter Try.func147, Try.ntmps147
    go_wp2
    go_ret
    refine ⟨?_, rfl⟩
    by_cases h2 : n ≤ 9 <;> simp [h, h2] <;> omega

/-- a value of a row, 0 beside it -/
def atK (xs : List Int) (k : Int) : Int := if k < 0 then 0 else xs.getD k.toNat 0

theorem at_calls (A : Option Addr) (c : Nat) (k : Int) (xs : List Int) (B : Nat) (w0 w : World) (hb : Below B w0 w) (hB : B ≤ w.heap.size) (hm : xs.length ≤ maxLen) (hx : IntsAt B w0 A xs) :
    Calls Try.prog 117 #[.slice A xs.length c, .int .i64 k] w fun e w' => e = .returned (.int .i64 (atK xs k)) ∧ w = w' := by
  unfold maxLen at hm
  by_cases h : k < 0
  · go_enter Try.func117, Try.ntmps117
    go_wp2
    go_ret
    exact ⟨by simp [atK, h], rfl⟩
  · by_cases h2 : k < xs.length
    · obtain ⟨i, rfl⟩ := Int.eq_ofNat_of_zero_le (by omega : 0 ≤ k)
      obtain ⟨b, o, rfl, hlt, hc⟩ := hx.at hb hB i (by omega)
      have hr : atK xs i = xs[i]'(by omega) := by unfold atK; rw [if_neg h]; exact getD_at _ _
      replace hr := Lib.hid hr
      clear hx hb
      have hi : i < xs.length := by omega
      go_enter Try.func117, Try.ntmps117
      go_wp2
      go_ret
      exact ⟨by rw [hr.out]; rfl, rfl⟩
    · have hr : atK xs k = 0 := by unfold atK; rw [if_neg h]; exact getD_out _ (by omega)
      replace hr := Lib.hid hr
      go_enter Try.func117, Try.ntmps117
      go_wp2
      go_ret
      exact ⟨by rw [hr.out]; rfl, rfl⟩

theorem has_calls (A A2 : Option Addr) (n c n2 c2 : Nat) (k : Int) (w : World) :
    Calls Try.prog 81 #[.agg #[.slice A n c, .slice A2 n2 c2], .int .i64 k] w fun e w' => e = .returned (.bool (decide (0 ≤ k ∧ k < n))) ∧ Below w.heap.size w w' := by
  by_cases h : 0 ≤ k <;>
  · go_enter Try.func81, Try.ntmps81
    go_wp2
    go_ret
    refine ⟨?_, below_al (Below.refl _ _) _⟩
    by_cases h2 : k < n <;> simp [h, h2] <;> omega

/-- whether a key is made -/
def mkK (made : List Bool) (k : Int) : Bool := if k < 0 then false else made.getD k.toNat false

theorem makes_calls (A A2 : Option Addr) (c n2 c2 : Nat) (k : Int) (made : List Bool) (B : Nat) (w0 w : World) (hb : Below B w0 w) (hB : B ≤ w.heap.size) (hm : made.length ≤ maxLen) (hx : BoolsAt B w0 A made) :
    Calls Try.prog 102 #[.agg #[.slice A made.length c, .slice A2 n2 c2], .int .i64 k] w fun e w' => e = .returned (.bool (mkK made k)) ∧ Below w.heap.size w w' := by
  unfold maxLen at hm
  by_cases h : 0 ≤ k ∧ k < made.length
  · have hd : decide (0 ≤ k ∧ k < made.length) = true := by simp [h]
    obtain ⟨h1, h2⟩ := h
    obtain ⟨i, rfl⟩ := Int.eq_ofNat_of_zero_le h1
    obtain ⟨b, o, rfl, hlt, hc⟩ := hx i (by omega)
    have hc' := (hb.cell hlt).trans hc
    have hr : mkK made i = made[i]'(by omega) := by unfold mkK; rw [if_neg (by omega)]; exact getD_at _ _
    replace hr := Lib.hid hr
    have hlt' : b < w.heap.size := by omega
    have hi : i < made.length := by omega
    clear hx hb hc
    replace hd := Lib.hid hd
    go_enter Try.func102, Try.ntmps102
    go_wp2_with fail
    refine (has_calls _ _ _ _ _ _ _ _).mono ?_
    rintro e w1 ⟨rfl, h3⟩
    rw [hd.out]
    have h4 := bcell h3
    simp at h4
    have x0 : w1.cell? ⟨w.heap.size, 0, none⟩ = some (.slice (some ⟨b, o, none⟩) made.length c) := (h4 _ _ (by omega)).trans (by simp)
    have x1 : w1.cell? ⟨b, o + i, none⟩ = some (.bool made[i]) := (h4 _ _ (by omega)).trans ((cell_al hlt').trans hc')
    clear h4
    replace h3 := Lib.hid h3
    go_wp2_with fail
    go_ret
    exact ⟨by rw [hr.out]; rfl, below_from h3.out⟩
  · have hd : decide (0 ≤ k ∧ k < made.length) = false := by simp [h]
    have hr : mkK made k = false := by
      unfold mkK
      by_cases h0 : k < 0
      · simp [h0]
      · rw [if_neg h0]; exact getD_out _ (by omega)
    replace hd := Lib.hid hd
    replace hr := Lib.hid hr
    go_enter Try.func102, Try.ntmps102
    go_wp2_with fail
    refine (has_calls _ _ _ _ _ _ _ _).mono ?_
    rintro e w1 ⟨rfl, h3⟩
    rw [hd.out]
    go_wp2_with fail
    go_ret
    exact ⟨by rw [hr.out]; rfl, below_from h3⟩

theorem index_calls (A : Option Addr) (c : Nat) (v : Int) (xs : List Int) (B : Nat) (w0 w : World) (hb : Below B w0 w) (hB : B ≤ w.heap.size) (hm : xs.length ≤ maxLen) (hx : IntsAt B w0 A xs) :
    Calls Try.prog 114 #[.slice A xs.length c, .int .i64 v] w fun e w' => e = .returned (.int .i64 (idx (fun x => v == x) xs)) ∧ w = w' := by
  unfold maxLen at hm
  replace hx := Lib.hid hx
  replace hb := Lib.hid hb
  go_enter Try.func114, Try.ntmps114
  go_wp2
  go_loop [5, 8] (fun _ i => ∃ k : Nat, k ≤ xs.length ∧ i = .int .i64 k ∧ Hid (∀ j (hj : j < xs.length), j < k → (v == xs[j]) = false)) (fun _ i => xs.length - (intOf i).toNat)
  case atStart => exact ⟨0, Nat.zero_le _, rfl, Lib.hid (fun j _ h => by omega)⟩
  case round =>
    obtain ⟨k, hk, rfl, hno⟩ := hrel
    by_cases hlt : k < xs.length
    · obtain ⟨b, o, rfl, hbl, hc⟩ := hx.out.at hb.out hB k hlt
      by_cases hv : v = xs[k]
      · have hv' : (v == xs[k]) = true := by simp [hv]
        have hr : idx (fun x => v == x) xs = k := idx_found hlt (fun j hj => hno.out j _ hj) hv'
        replace hr := Lib.hid hr
        replace hv := Lib.hid hv
        go_wp2
        go_ret
        exact ⟨by rw [hr.out]; rfl, rfl⟩
      · have hv' : (v == xs[k]) = false := by simp [hv]
        replace hv := Lib.hid hv
        go_wp2
        go_round
        case rel => exact ⟨k + 1, by omega, by go_num, Lib.hid (fun j hj h => if e : j = k then by subst e; exact hv' else hno.out j hj (by omega))⟩
        case measure => simp [intOf]; omega
    · have hr : idx (fun x => v == x) xs = -1 := idx_none (fun j hj => hno.out j hj (by omega))
      replace hr := Lib.hid hr
      go_wp2
      go_ret
      exact ⟨by rw [hr.out]; rfl, rfl⟩

theorem indexFunc_calls (p : Int → Bool) (g : Nat) (first cap : Array Value) (hg : Enters Try.prog g) (A : Option Addr) (c : Nat) (xs : List Int) (B : Nat) (w0 w : World) (hb : Below B w0 w) (hB : B ≤ w.heap.size) (hm : xs.length ≤ maxLen)
    (hx : IntsAt B w0 A xs)
    (hf : ∀ x w', x ∈ xs → Below w.heap.size w w' → Calls Try.prog g (first ++ #[.int .i64 x] ++ cap) w' (fun e w'' => e = .returned (.bool (p x)) ∧ Below w'.heap.size w' w'')) :
    Calls Try.prog 113 #[.slice A xs.length c, .func (.func g) first cap] w fun e w' => e = .returned (.int .i64 (idx p xs)) ∧ Below w.heap.size w w' := by
  unfold maxLen at hm
  replace hx := Lib.hid hx
  replace hb := Lib.hid hb
  replace hf := Lib.hid hf
  go_enter Try.func113, Try.ntmps113
  go_wp2
  go_loopw [5, 8] (fun _ i wr => ∃ k : Nat, k ≤ xs.length ∧ i = .int .i64 k ∧ Hid (Below w.heap.size w wr) ∧ Hid (∀ j (hj : j < xs.length), j < k → p xs[j] = false)) (fun _ i _ => xs.length - (intOf i).toNat)
  case atStart => exact ⟨0, Nat.zero_le _, rfl, Lib.hid (Below.refl _ _), Lib.hid (fun j _ h => by omega)⟩
  case round =>
    obtain ⟨k, hk, rfl, hw, hno⟩ := hrel
    by_cases hlt : k < xs.length
    · obtain ⟨b, o, rfl, hbl, hc⟩ := hx.out.at (below_up' hb.out hB hw.out) (Nat.le_trans hB hw.out.size) k hlt
      go_wp2_with ((with_reducible refine wpList_call_value (by rfl) (.tmp 11) _ _ (by rfl) g first cap (by with_unfolding_all rfl) hg ?_); refine (hf.out xs[k] _ (List.getElem_mem _) hw.out).mono ?_; rintro e w' ⟨rfl, h3⟩; replace h3 := Lib.hid h3; refine ⟨_, rfl, ?_⟩)
      · have hp : p xs[k] = true := by assumption
        have hr : idx p xs = k := idx_found hlt (fun j hj => hno.out j _ hj) hp
        go_ret
        exact ⟨by rw [hr]; rfl, below_up hw.out h3.out⟩
      · have hp : p xs[k] = false := by assumption
        go_roundw
        case rel => exact ⟨k + 1, by omega, by go_num, Lib.hid (below_up hw.out h3.out), Lib.hid (fun j hj h => if e : j = k then by subst e; exact hp else hno.out j hj (by omega))⟩
        case measure => simp [intOf]; omega
    · have hr : idx p xs = -1 := idx_none (fun j hj => hno.out j hj (by omega))
      replace hr := Lib.hid hr
      go_wp2
      go_ret
      exact ⟨by rw [hr.out]; rfl, hw.out⟩

theorem containsFunc_calls (p : Int → Bool) (g : Nat) (first cap : Array Value) (hg : Enters Try.prog g) (A : Option Addr) (c : Nat) (xs : List Int) (B : Nat) (w0 w : World) (hb : Below B w0 w) (hB : B ≤ w.heap.size) (hm : xs.length ≤ maxLen)
    (hx : IntsAt B w0 A xs)
    (hf : ∀ x w', x ∈ xs → Below w.heap.size w w' → Calls Try.prog g (first ++ #[.int .i64 x] ++ cap) w' (fun e w'' => e = .returned (.bool (p x)) ∧ Below w'.heap.size w' w'')) :
    Calls Try.prog 79 #[.slice A xs.length c, .func (.func g) first cap] w fun e w' => e = .returned (.bool (xs.any p)) ∧ Below w.heap.size w w' := by
  have h := indexFunc_calls p g first cap hg A c xs B w0 w hb hB hm hx hf
  replace h := Lib.hid h
  clear hx hb hf
  go_enter Try.func79, Try.ntmps79
  go_wp2_with fail
  refine h.out.mono ?_
  rintro e w1 ⟨rfl, h3⟩
  replace h3 := Lib.hid h3
  have hr := idx_any p xs
  generalize idx p xs = n at *
  replace hr := Lib.hid hr
  go_wp2_with fail
  go_ret
  exact ⟨by rw [← hr.out]; rfl, h3.out⟩

/-- whether all are values -/
def vals (xs : List Int) : Bool := !xs.any fun n => !decide (0 ≤ n ∧ n ≤ 96)

theorem areValues1_calls (n : Int) (w : World) : Calls Try.prog 132 #[.int .i64 n] w fun e w' => e = .returned (.bool (!decide (0 ≤ n ∧ n ≤ 96))) ∧ Below w.heap.size w w' := by
  go_enter Try.func132, Try.ntmps132
  go_wp2_with fail
  refine (isValue_calls _ _).mono ?_
  rintro e w1 ⟨rfl, rfl⟩
  generalize hd : decide (0 ≤ n ∧ n ≤ 96) = d
  replace hd := Lib.hid hd
  go_wp2_with fail
  go_ret
  exact ⟨by rw [hd.out]; rfl, Below.refl _ _⟩

theorem areValues_calls (A : Option Addr) (c : Nat) (xs : List Int) (B : Nat) (w0 w : World) (hb : Below B w0 w) (hB : B ≤ w.heap.size) (hm : xs.length ≤ maxLen) (hx : IntsAt B w0 A xs) :
    Calls Try.prog 98 #[.slice A xs.length c] w fun e w' => e = .returned (.bool (vals xs)) ∧ Below w.heap.size w w' := by
  have h := containsFunc_calls (fun n => !decide (0 ≤ n ∧ n ≤ 96)) 132 #[] #[] (enters_of Try.func132 (by kernel_rfl) rfl) A c xs B w0 w hb hB hm hx (fun x w' _ _ => by
    simpa using areValues1_calls x w')
  replace h := Lib.hid h
  clear hx hb
  go_enter Try.func98, Try.ntmps98
  go_wp2_with fail
  refine h.out.mono ?_
  rintro e w1 ⟨rfl, h3⟩
  replace h3 := Lib.hid h3
  have hr : vals xs = !xs.any (fun n => !decide (0 ≤ n ∧ n ≤ 96)) := rfl
  generalize xs.any (fun n => !decide (0 ≤ n ∧ n ≤ 96)) = n at *
  replace hr := Lib.hid hr
  go_wp2_with fail
  go_ret
  exact ⟨by rw [hr.out]; rfl, h3.out⟩

def valsOk (xs : List Int) : Bool := decide (xs.length ≤ 10) && vals xs

theorem valuesOk_calls (A : Option Addr) (c : Nat) (xs : List Int) (B : Nat) (w0 w : World) (hb : Below B w0 w) (hB : B ≤ w.heap.size) (hm : xs.length ≤ maxLen) (hx : IntsAt B w0 A xs) :
    Calls Try.prog 156 #[.slice A xs.length c] w fun e w' => e = .returned (.bool (valsOk xs)) ∧ Below w.heap.size w w' := by
  have h := areValues_calls A c xs B w0 w hb hB hm hx
  replace h := Lib.hid h
  clear hx hb
  by_cases hl : xs.length ≤ 10
  · have hr : valsOk xs = vals xs := by simp [valsOk, hl]
    generalize vals xs = b at *
    replace hr := Lib.hid hr
    go_enter Try.func156, Try.ntmps156
    go_wp2_with fail
    refine h.out.mono ?_
    rintro e w1 ⟨rfl, h3⟩
    replace h3 := Lib.hid h3
    go_wp2_with fail
    go_ret
    exact ⟨by rw [hr.out]; rfl, h3.out⟩
  · have hr : valsOk xs = false := by simp [valsOk, hl]
    replace hr := Lib.hid hr
    go_enter Try.func156, Try.ntmps156
    go_wp2_with fail
    go_ret
    exact ⟨by rw [hr.out]; rfl, Below.refl _ _⟩

/-- whether inputs are ones of a sheet with n keys -/
def takesOk (n : Nat) (xs : List Int) : Bool := decide (xs.length = n) && vals xs

theorem takes_calls (A A2 Ai : Option Addr) (n c n2 c2 ci : Nat) (xs : List Int) (B : Nat) (w0 w : World) (hb : Below B w0 w) (hB : B ≤ w.heap.size) (hm : xs.length ≤ maxLen) (hx : IntsAt B w0 Ai xs) :
    Calls Try.prog 75 #[.agg #[.slice A n c, .slice A2 n2 c2], .slice Ai xs.length ci] w fun e w' => e = .returned (.bool (takesOk n xs)) ∧ Below w.heap.size w w' := by
  have h := fun w (hb : Below B w0 w) (hB : B ≤ w.heap.size) => areValues_calls Ai ci xs B w0 w hb hB hm hx
  replace h := Lib.hid h
  clear hx
  replace hb := Lib.hid hb
  by_cases hl : xs.length = n
  · subst hl
    have hr : takesOk xs.length xs = vals xs := by simp [takesOk]
    generalize vals xs = b at *
    replace hr := Lib.hid hr
    go_enter Try.func75, Try.ntmps75
    go_wp2_with fail
    refine (h.out _ (hb.out.alloc hB _) (by simp; omega)).mono ?_
    rintro e w1 ⟨rfl, h3⟩
    replace h3 := Lib.hid h3
    go_wp2_with fail
    go_ret
    exact ⟨by rw [hr.out]; rfl, below_from h3.out⟩
  · have hr : takesOk n xs = false := by simp [takesOk, hl]
    replace hr := Lib.hid hr
    have hl' : ((xs.length : Int) == (n : Int)) = false := by simp; omega
    replace hl := Lib.hid hl
    go_enter Try.func75, Try.ntmps75
    go_wp2_with fail
    go_ret
    exact ⟨by rw [hr.out]; rfl, below_al (Below.refl _ _) _⟩
theorem vals_iff {xs : List Int} : vals xs = true ↔ ∀ x ∈ xs, 0 ≤ x ∧ x ≤ 96 := by
  unfold vals
  rw [Bool.not_eq_true', List.any_eq_false]
  simp
end Go.Proofs.Ytkbblekengdhaaa
