import Derived.WalkKit
import Derived.KernelRfl
import Derived.Lib.Hide
import Derived.BigQuiet
import Derived.Deep.QuietTactic
set_option linter.unusedVariables false
set_option linter.unusedSimpArgs false
namespace Go.Proofs.Ytagmdljdcnmpdaa
open Go Go.RowKit

/-! what is true over any program -/

/-- function g can be entered: it has a body, and is no word of the machine's -/
def Enters (P : Program) (g : Nat) : Prop := ∀ (args : Array Value) (w : World), (callFunc g args).run P w = .ok (.enter g args) w
theorem enters_of {P : Program} {g : Nat} {fn : Func} (hf : P.funcs[g]? = some fn) (hn : (fn.name == "runtime.NumGoroutine") = false) (hb : fn.body.isNone = false) : Enters P g := by
  intro args w
  have hn' : ¬ fn.name = "runtime.NumGoroutine" := by simpa using hn
  have hb' : ¬ fn.body = none := by intro h; simp [h] at hb
  simp [callFunc, program, Sem.run, hf, hn', hb']

theorem wpList_call_value {P : Program} {ops : Array Oper} {rest : List Oper} {o : Oper} {a : Act} {Q : Exit → Act → World → Prop} {w : World}
    (hg : o.guard = none) (x : Operand) (as : List Operand) (ts : Array TypeId) (hop : o.op = Op.call { callee := Callee.value x, args := as.toArray, argTypes := ts })
    (g : Nat) (first cap : Array Value) (hx : a.eval x = .func (.func g) first cap) (hP : Enters P g)
    (hc : Calls P g (first ++ (as.map a.eval).toArray ++ cap) w fun e w' => ∃ v, e = .returned v ∧ wpList P ops Q rest (a.put o.dst v) w') : wpList P ops Q (o :: rest) a w := by
  refine wpList_plain hg fun K hK' => ?_
  unfold Oper.wp
  have hrun : (execOp a.eval o).run P w = .ok (.enter g (first ++ (as.map a.eval).toArray ++ cap)) w := by
    have := hP (first ++ (as.map a.eval).toArray ++ cap) w
    simp [execOp, hop, resolve, hx, Deferred.ofValue, invoke]
    simpa using this
  rw [hrun]
  show Calls P g _ w _
  refine hc.mono fun e w' h => ?_
  obtain ⟨v, rfl, hk⟩ := h
  exact hK' _ _ hk

theorem bcell {B : Nat} {W w1 : World} (hb : Below B W w1) : (∀ b o, b < B → w1.cell? ⟨b, o, none⟩ = W.cell? ⟨b, o, none⟩) :=
  fun b o h => hb.cell (p := ⟨b, o, none⟩) h

/-! what a call turns: blocks out of F and new ones; behind it F' is what is owned -/
structure Turn (F F' : Nat → Prop) (w w' : World) : Prop where
  os : w'.os = w.os
  tape : w'.tape = w.tape
  output : w'.output = w.output
  size : w.heap.size ≤ w'.heap.size
  block : ∀ i, i < w.heap.size → ¬ F i → w'.heap[i]? = w.heap[i]?
  fresh : ∀ i, F' i → F i ∨ w.heap.size ≤ i
theorem Turn.refl (F : Nat → Prop) (w : World) : Turn F F w w := ⟨rfl, rfl, rfl, Nat.le_refl _, fun _ _ _ => rfl, fun _ h => .inl h⟩
theorem Turn.trans {F F1 F2 : Nat → Prop} {w w1 w2 : World} (h : Turn F F1 w w1) (k : Turn F1 F2 w1 w2) : Turn F F2 w w2 :=
  ⟨k.os.trans h.os, k.tape.trans h.tape, k.output.trans h.output, Nat.le_trans h.size k.size,
    fun i hi hF => (k.block i (Nat.lt_of_lt_of_le hi h.size) (fun hF1 => (h.fresh i hF1).elim hF (fun hge => by omega))).trans (h.block i hi hF),
    fun i hi => (k.fresh i hi).elim (h.fresh i) (fun hge => .inr (Nat.le_trans h.size hge))⟩
theorem Turn.alloc {F F' : Nat → Prop} {w w' : World} (h : Turn F F' w w') (o : Obj) : Turn F F' w (w'.alloc o) :=
  h.trans ⟨rfl, rfl, rfl, by simp, fun i hi _ => Below.heap_alloc _ _ _ hi, fun _ h => .inl h⟩
theorem Turn.drew {F F' : Nat → Prop} {w w' : World} (h : Turn F F' w w') : Turn F F' w w'.drew := ⟨h.os, h.tape, h.output, h.size, h.block, h.fresh⟩
theorem Turn.drewN {F F' : Nat → Prop} {w w' : World} (h : Turn F F' w w') (n : Nat) : Turn F F' w (w'.drewN n) := ⟨h.os, h.tape, h.output, h.size, h.block, h.fresh⟩
/-- new blocks were made ahead -/
theorem Turn.from_alloc {F F' : Nat → Prop} {w w' : World} {o : Obj} (h : Turn F F' (w.alloc o) w') : Turn F F' w w' :=
  (((Turn.refl F w).alloc o).trans h)
theorem Turn.cell {F F' : Nat → Prop} {w w' : World} (h : Turn F F' w w') {b : Nat} (o : Nat) (hb : b < w.heap.size) (hF : ¬ F b) : w'.cell? ⟨b, o, none⟩ = w.cell? ⟨b, o, none⟩ :=
  World.cell?_of_block (w := w) (h.block b hb hF)
theorem Turn.below {F F' : Nat → Prop} {w w' : World} (h : Turn F F' w w') {B : Nat} (hB : B ≤ w.heap.size) (hF : ∀ i, F i → B ≤ i) : Below B w w' :=
  ⟨h.os, h.tape, h.output, h.size, fun k hk => h.block k (by omega) (fun hf => by have := hF k hf; omega)⟩
theorem Turn.of_below {w w' : World} (h : Below w.heap.size w w') : Turn (fun _ => False) (fun _ => False) w w' := ⟨h.os, h.tape, h.output, h.size, fun k hk _ => h.block k hk, fun _ h => h.elim⟩

theorem below_up {w w1 w2 : World} (h : Below w.heap.size w w1) (k : Below w1.heap.size w1 w2) : Below w.heap.size w w2 := h.trans (k.mono h.size)
theorem below_al {w w1 : World} (h : Below w.heap.size w w1) (o : Obj) : Below w.heap.size w (w1.alloc o) := h.alloc h.size o
theorem below_from {w w1 : World} {o : Obj} (h : Below (w.alloc o).heap.size (w.alloc o) w1) : Below w.heap.size w w1 := below_up (below_al (Below.refl _ _) o) h
theorem below_al' {B : Nat} {w0 w : World} (h : Below B w0 w) (o : Obj) (hB : B ≤ w.heap.size) : Below B w0 (w.alloc o) := h.alloc hB o
/-- a later world is below what an earlier one was -/
theorem below_up' {B : Nat} {w0 w w1 : World} (h : Below B w0 w) (hB : B ≤ w.heap.size) (k : Below w.heap.size w w1) : Below B w0 w1 := h.trans (k.mono hB)

theorem cell_al {w : World} {ob : Obj} {b o : Nat} (h : b < w.heap.size) : (w.alloc ob).cell? ⟨b, o, none⟩ = w.cell? ⟨b, o, none⟩ := (below_al (Below.refl _ _) ob).cell (p := ⟨b, o, none⟩) h
theorem getD_at {α : Type} {xs : List α} {i : Nat} (d : α) (h : i < xs.length) : xs.getD i d = xs[i] := by simp [List.getD, h]
theorem getD_out {α : Type} {xs : List α} {i : Nat} (d : α) (h : xs.length ≤ i) : xs.getD i d = d := by simp [List.getD, h]

/-- a block that was there when a call began holds what it held -/
theorem kept_cell {w wr : World} (h : Below w.heap.size w wr) {b o : Nat} {v : Value} (hb : b < w.heap.size) (hc : w.cell? ⟨b, o, none⟩ = some v) : wr.cell? ⟨b, o, none⟩ = some v := (h.cell (p := ⟨b, o, none⟩) hb).trans hc

/-! rows whose elements are one cell -/
def RowAt {α : Type} (f : α → Value) (B : Nat) (w : World) (A : Option Addr) (xs : List α) : Prop :=
  ∀ i (h : i < xs.length), ∃ b o, A = some ⟨b, o, none⟩ ∧ b < B ∧ w.cell? ⟨b, o + i, none⟩ = some (f xs[i])
def vInt (n : Int) : Value := .int .i64 n
abbrev IntsAt := RowAt (fun n : Int => Value.int .i64 n)
abbrev BoolsAt := RowAt (fun b : Bool => Value.bool b)
theorem RowAt.nil {α : Type} (f : α → Value) (B : Nat) (w : World) (A : Option Addr) : RowAt f B w A [] := fun i h => by simp at h
theorem RowAt.at {α : Type} {f : α → Value} {B : Nat} {w0 w : World} {A : Option Addr} {xs : List α} (h : RowAt f B w0 A xs) (hb : Below B w0 w) (hB : B ≤ w.heap.size) (i : Nat) (hi : i < xs.length) :
    ∃ b o, A = some ⟨b, o, none⟩ ∧ b < w.heap.size ∧ w.cell? ⟨b, o + i, none⟩ = some (f xs[i]) := by
  obtain ⟨b, o, e, hlt, hc⟩ := h i hi
  exact ⟨b, o, e, by omega, (hb.cell hlt).trans hc⟩
theorem RowAt.up {α : Type} {f : α → Value} {B B' : Nat} {w0 w : World} {A : Option Addr} {xs : List α} (h : RowAt f B w0 A xs) (hb : Below B w0 w) (hB : B ≤ B') : RowAt f B' w A xs := by
  intro i hi
  obtain ⟨b, o, e, hlt, hc⟩ := h i hi
  exact ⟨b, o, e, by omega, (hb.cell hlt).trans hc⟩

/-! the first place where something holds -/
def idx {α : Type} (p : α → Bool) (xs : List α) : Int := match xs.findIdx? p with | some i => (i : Int) | none => -1
theorem idx_found {α : Type} {p : α → Bool} {xs : List α} {k : Nat} (hk : k < xs.length) (h : ∀ j (hj : j < k), p (xs[j]'(by omega)) = false) (hp : p xs[k] = true) : idx p xs = k := by
  have : xs.findIdx? p = some k := by
    rw [List.findIdx?_eq_some_iff_getElem]
    exact ⟨hk, hp, fun j hj => by simp [h j hj]⟩
  simp [idx, this]
theorem idx_none {α : Type} {p : α → Bool} {xs : List α} (h : ∀ j (hj : j < xs.length), p xs[j] = false) : idx p xs = -1 := by
  have : xs.findIdx? p = none := by
    rw [List.findIdx?_eq_none_iff]
    intro x hx
    obtain ⟨j, hj, rfl⟩ := List.getElem_of_mem hx
    exact h j hj
  simp [idx, this]
theorem idx_lt {α : Type} {p : α → Bool} {xs : List α} (h : 0 ≤ idx p xs) : ∃ j : Nat, idx p xs = j ∧ j < xs.length := by
  unfold idx at h ⊢
  cases e : xs.findIdx? p with
  | some i =>
    rw [List.findIdx?_eq_some_iff_getElem] at e
    obtain ⟨hi, _⟩ := e
    exact ⟨i, rfl, hi⟩
  | none => rw [e] at h; simp at h
theorem RowAt.drop {α : Type} {f : α → Value} {B : Nat} {w : World} {g o : Nat} {xs : List α} (h : RowAt f B w (some ⟨g, o, none⟩) xs) (j : Nat) : RowAt f B w (some ⟨g, o + j, none⟩) (xs.drop j) := by
  intro i hi
  simp only [List.length_drop] at hi
  obtain ⟨b, o', e, hlt, hc⟩ := h (j + i) (by omega)
  cases e
  exact ⟨_, _, rfl, hlt, by rw [Nat.add_assoc]; simpa using hc⟩
theorem idx_any {α : Type} (p : α → Bool) (xs : List α) : decide (0 ≤ idx p xs) = xs.any p := by
  unfold idx
  cases h : xs.findIdx? p with
  | some i =>
    rw [List.findIdx?_eq_some_iff_getElem] at h
    obtain ⟨hi, hp, _⟩ := h
    have : xs.any p = true := List.any_eq_true.2 ⟨xs[i], List.getElem_mem _, hp⟩
    simp [this]
  | none =>
    rw [List.findIdx?_eq_none_iff] at h
    have : xs.any p = false := by rw [List.any_eq_false]; intro x hx; simp [h x hx]
    simp [this]

/-! tasks -/
inductive Task where
  | mk (kind n : Int) (parts : List Task)
def Task.kind : Task → Int | .mk k _ _ => k
def Task.n : Task → Int | .mk _ n _ => n
def Task.parts : Task → List Task | .mk _ _ ps => ps
instance : Inhabited Task := ⟨.mk 0 0 []⟩

mutual
/-- the three cells of a task, and all that they lead to, in blocks below B -/
def TaskIs (B : Nat) (w : World) : Value → Task → Prop
  | v, .mk k n ps => ∃ A c, v = .agg #[.int .i64 k, .int .i64 n, .slice A ps.length c] ∧ ps.length ≤ c ∧ c ≤ maxLen ∧ PartsIs B w A 0 ps
def PartsIs (B : Nat) (w : World) : Option Addr → Nat → List Task → Prop
  | _, _, [] => True
  | A, i, t :: ts => (∃ b o x y z, A = some ⟨b, o, none⟩ ∧ b < B ∧ w.cell? ⟨b, o + i * 3, none⟩ = some x ∧ w.cell? ⟨b, o + i * 3 + 1, none⟩ = some y ∧
      w.cell? ⟨b, o + i * 3 + 2, none⟩ = some z ∧ TaskIs B w (.agg #[x, y, z]) t) ∧ PartsIs B w A (i + 1) ts
end

theorem PartsIs.get {B : Nat} {w : World} {A : Option Addr} : ∀ {ps : List Task} {k : Nat}, PartsIs B w A k ps → ∀ i (hi : i < ps.length),
    ∃ b o A' c', A = some ⟨b, o, none⟩ ∧ b < B ∧ w.cell? ⟨b, o + (k + i) * 3, none⟩ = some (.int .i64 ps[i].kind) ∧
      w.cell? ⟨b, o + (k + i) * 3 + 1, none⟩ = some (.int .i64 ps[i].n) ∧ w.cell? ⟨b, o + (k + i) * 3 + 2, none⟩ = some (.slice A' ps[i].parts.length c') ∧
      ps[i].parts.length ≤ c' ∧ c' ≤ maxLen ∧ PartsIs B w A' 0 ps[i].parts := by
  intro ps
  induction ps with
  | nil => intro k _ i hi; simp at hi
  | cons t ts ih =>
    intro k h i hi
    rw [PartsIs] at h
    obtain ⟨⟨b, o, x, y, z, rfl, hb, hx, hy, hz, ht⟩, hts⟩ := h
    cases i with
    | zero =>
      cases t with
      | mk k' n' ps' =>
        rw [TaskIs] at ht
        obtain ⟨A', c', he, hc, hm, hp⟩ := ht
        simp only [Value.agg.injEq, Array.mk.injEq, List.cons.injEq, and_true] at he
        obtain ⟨rfl, rfl, rfl⟩ := he
        exact ⟨b, o, A', c', rfl, hb, by simpa [Task.kind] using hx, by simpa [Task.n] using hy, by simpa [Task.parts] using hz, hc, hm, hp⟩
    | succ i =>
      obtain ⟨b', o', A', c', he, hb', h1, h2, h3, h4, h5, h6⟩ := ih hts i (by simpa using hi)
      rw [show k + 1 + i = k + (i + 1) from by omega] at h1 h2 h3
      exact ⟨b', o', A', c', he, hb', h1, h2, h3, h4, h5, h6⟩

/-- a part at a place, met in a later world -/
theorem PartsIs.at {B : Nat} {w0 w : World} {A : Option Addr} {ps : List Task} (h : PartsIs B w0 A 0 ps) (hb : Below B w0 w) (i : Nat) (hi : i < ps.length) :
    ∃ b o A' c', A = some ⟨b, o, none⟩ ∧ b < B ∧ w.cell? ⟨b, o + i * 3, none⟩ = some (.int .i64 ps[i].kind) ∧
      w.cell? ⟨b, o + i * 3 + 1, none⟩ = some (.int .i64 ps[i].n) ∧ w.cell? ⟨b, o + i * 3 + 2, none⟩ = some (.slice A' ps[i].parts.length c') ∧
      ps[i].parts.length ≤ c' ∧ c' ≤ maxLen ∧ PartsIs B w0 A' 0 ps[i].parts := by
  obtain ⟨b, o, A', c', e, hb', h1, h2, h3, r⟩ := h.get i hi
  rw [Nat.zero_add] at h1 h2 h3
  exact ⟨b, o, A', c', e, hb', (hb.cell hb').trans h1, (hb.cell hb').trans h2, (hb.cell hb').trans h3, r⟩

mutual
theorem TaskIs.up {B B' : Nat} {w0 w : World} (hb : Below B w0 w) (hB : B ≤ B') : ∀ (t : Task) (v : Value), TaskIs B w0 v t → TaskIs B' w v t
  | .mk k n ps, v, h => by
    rw [TaskIs] at h ⊢
    obtain ⟨A, c, e, hc, hm, hp⟩ := h
    exact ⟨A, c, e, hc, hm, PartsIs.up hb hB ps A 0 hp⟩
theorem PartsIs.up {B B' : Nat} {w0 w : World} (hb : Below B w0 w) (hB : B ≤ B') : ∀ (ps : List Task) (A : Option Addr) (i : Nat), PartsIs B w0 A i ps → PartsIs B' w A i ps
  | [], A, i, _ => by rw [PartsIs]; trivial
  | t :: ts, A, i, h => by
    rw [PartsIs] at h ⊢
    obtain ⟨⟨b, o, x, y, z, e, hlt, hx, hy, hz, ht⟩, hts⟩ := h
    exact ⟨⟨b, o, x, y, z, e, by omega, (hb.cell hlt).trans hx, (hb.cell hlt).trans hy, (hb.cell hlt).trans hz, TaskIs.up hb hB t _ ht⟩, PartsIs.up hb hB ts A (i + 1) hts⟩
end

theorem Task.ind {P : Task → Prop} (h : ∀ k n ps, (∀ p, p ∈ ps → P p) → P (.mk k n ps)) : ∀ t, P t
  | .mk k n ps => h k n ps (fun p _ => Task.ind h p)
termination_by t => SizeOf.sizeOf t
decreasing_by
  have := List.sizeOf_lt_of_mem ‹p ∈ ps›
  simp
  omega

/-- the shape of one node -/
def fitsN (k n : Int) (len : Nat) : Bool :=
  if k = 0 then decide (0 ≤ n ∧ n ≤ 96) && decide (len = 0)
  else if k = 1 then decide (0 ≤ n ∧ n ≤ 9) && decide (len = 0)
  else if k = 2 ∨ k = 3 then decide (n = 0) && decide (len = 2)
  else if k = 4 then decide (n = 0) && decide (len = 3)
  else if k = 5 then decide (0 ≤ n ∧ n ≤ 9) && decide (len = 1)
  else false

mutual
def cntTo : Task → Int → Int
  | .mk k n ps, room => if room < 1 ∨ fitsN k n ps.length = false then 16 else cntToL ps room 1
def cntToL : List Task → Int → Int → Int
  | [], _, n => n
  | p :: ps, room, n => if n > room then 16 else cntToL ps room (n + cntTo p (room - n))
end
def cntL : List Task → Int → Int
  | [], n => n
  | p :: ps, n => if n > 15 then n else cntL ps (n + cntTo p (15 - n))
def cnt : Task → Int
  | .mk k n ps => if fitsN k n ps.length = false then 16 else cntL ps 1

mutual
def fitAll : Task → Bool
  | .mk k n ps => fitsN k n ps.length && fitAllL ps
def fitAllL : List Task → Bool
  | [] => true
  | p :: ps => fitAll p && fitAllL ps
end
mutual
def nodes : Task → Int
  | .mk _ _ ps => 1 + nodesL ps
def nodesL : List Task → Int
  | [] => 0
  | p :: ps => nodes p + nodesL ps
end
def okT (t : Task) : Bool := fitAll t && decide (nodes t ≤ 15)

mutual
theorem nodes_pos : ∀ t, 1 ≤ nodes t
  | .mk _ _ ps => by rw [nodes]; have := nodesL_pos ps; omega
theorem nodesL_pos : ∀ ps, 0 ≤ nodesL ps
  | [] => by simp [nodesL]
  | p :: ps => by rw [nodesL]; have := nodes_pos p; have := nodesL_pos ps; omega
end

mutual
theorem cntTo_bound : ∀ (t : Task) (room : Int), room ≤ 15 → 1 ≤ cntTo t room ∧ (cntTo t room ≤ 16 ∨ cntTo t room ≤ 16 + 16 * room)
  | .mk k n ps, room, h => by
    rw [cntTo]
    split
    · omega
    · have := cntToL_bound ps room 1 h (by omega) (by omega)
      omega
theorem cntToL_bound : ∀ (ps : List Task) (room n : Int), room ≤ 15 → 1 ≤ n → n ≤ 16 + 16 * room → 1 ≤ cntToL ps room n ∧ (cntToL ps room n ≤ 16 + 16 * room ∨ cntToL ps room n ≤ 16)
  | [], room, n, h, h1, h2 => by rw [cntToL]; omega
  | p :: ps, room, n, h, h1, h2 => by
    rw [cntToL]
    split
    · omega
    · have hp := cntTo_bound p (room - n) (by omega)
      exact cntToL_bound ps room (n + cntTo p (room - n)) h (by omega) (by omega)
end

mutual
theorem cntTo_spec : ∀ (t : Task) (room : Int), room ≤ 15 → if fitAll t = true ∧ nodes t ≤ room then cntTo t room = nodes t else room < cntTo t room
  | .mk k n ps, room, h => by
    have hn := nodesL_pos ps
    rw [cntTo, fitAll, nodes]
    by_cases h1 : room < 1
    · rw [if_neg (by omega), if_pos (.inl h1)]; omega
    · by_cases h2 : fitsN k n ps.length = false
      · rw [if_neg (by simp [h2]), if_pos (.inr h2)]; omega
      · have hr : ¬ (room < 1 ∨ fitsN k n ps.length = false) := by simp [h1, h2]
        rw [if_neg hr]
        have := cntToL_spec ps room 1 h (by omega)
        simp only [Bool.not_eq_false] at h2
        rw [h2]
        simpa using this
theorem cntToL_spec : ∀ (ps : List Task) (room n : Int), room ≤ 15 → 1 ≤ n → if fitAllL ps = true ∧ n + nodesL ps ≤ room then cntToL ps room n = n + nodesL ps else room < cntToL ps room n
  | [], room, n, h, h1 => by simp [cntToL, nodesL, fitAllL]
  | p :: ps, room, n, h, h1 => by
    have hp := cntTo_spec p (room - n) (by omega)
    have hpb := cntTo_bound p (room - n) (by omega)
    have hnp := nodes_pos p
    have hn := nodesL_pos ps
    have hl := cntToL_spec ps room (n + cntTo p (room - n)) h (by omega)
    rw [cntToL, fitAllL, nodesL]
    by_cases h2 : n > room
    · rw [if_pos h2, if_neg (by omega)]; omega
    · rw [if_neg h2]
      by_cases h3 : fitAll p = true ∧ nodes p ≤ room - n
      · rw [if_pos h3] at hp
        rw [hp] at hl ⊢
        rw [h3.1, Bool.true_and]
        by_cases h4 : fitAllL ps = true ∧ n + nodes p + nodesL ps ≤ room
        · rw [if_pos h4] at hl
          rw [if_pos ⟨h4.1, by omega⟩, hl]; omega
        · rw [if_neg h4] at hl
          rw [if_neg (fun h5 => h4 ⟨h5.1, by omega⟩)]
          exact hl
      · rw [if_neg h3] at hp
        rw [if_neg (fun h5 => h3 ⟨(Bool.and_eq_true_iff.1 h5.1).1, by omega⟩)]
        split at hl <;> omega
end

theorem cntL_spec : ∀ (ps : List Task) (n : Int), 1 ≤ n → if fitAllL ps = true ∧ n + nodesL ps ≤ 15 then cntL ps n = n + nodesL ps else 15 < cntL ps n
  | [], n, h1 => by simp [cntL, nodesL, fitAllL]
  | p :: ps, n, h1 => by
    have hp := cntTo_spec p (15 - n) (by omega)
    have hpb := cntTo_bound p (15 - n) (by omega)
    have hnp := nodes_pos p
    have hn := nodesL_pos ps
    have hl := cntL_spec ps (n + cntTo p (15 - n)) (by omega)
    rw [cntL, fitAllL, nodesL]
    by_cases h2 : n > 15
    · rw [if_pos h2, if_neg (by omega)]; omega
    · rw [if_neg h2]
      by_cases h3 : fitAll p = true ∧ nodes p ≤ 15 - n
      · rw [if_pos h3] at hp
        rw [hp] at hl ⊢
        rw [h3.1, Bool.true_and]
        by_cases h4 : fitAllL ps = true ∧ n + nodes p + nodesL ps ≤ 15
        · rw [if_pos h4] at hl
          rw [if_pos ⟨h4.1, by omega⟩, hl]; omega
        · rw [if_neg h4] at hl
          rw [if_neg (fun h5 => h4 ⟨h5.1, by omega⟩)]
          exact hl
      · rw [if_neg h3] at hp
        rw [if_neg (fun h5 => h3 ⟨(Bool.and_eq_true_iff.1 h5.1).1, by omega⟩)]
        split at hl <;> omega

theorem cnt_okT (t : Task) : decide (cnt t ≤ 15) = okT t := by
  cases t with
  | mk k n ps =>
    have h := cntL_spec ps 1 (by omega)
    have hn := nodesL_pos ps
    rw [cnt, okT, fitAll, nodes]
    by_cases h2 : fitsN k n ps.length = false
    · simp [h2]
    · rw [if_neg h2]
      simp only [Bool.not_eq_false] at h2
      rw [h2, Bool.true_and]
      by_cases h4 : fitAllL ps = true ∧ 1 + nodesL ps ≤ 15
      · rw [if_pos h4] at h
        simp [h, h4.1, h4.2]
      · rw [if_neg h4] at h
        have e1 : decide (cntL ps 1 ≤ 15) = false := by simp; omega
        rw [e1]
        cases hf : fitAllL ps
        · rfl
        · have : ¬ 1 + nodesL ps ≤ 15 := fun h5 => h4 ⟨hf, h5⟩
          simp [this]

/-- tasks that are ones -/
inductive Tk where
  | num (n : Int)
  | get (k : Int)
  | add (a b : Tk)
  | mul (a b : Tk)
  | cond (a b c : Tk)
  | ix (n : Int) (a : Tk)

def Tk.enc : Tk → Task
  | .num n => .mk 0 n []
  | .get k => .mk 1 k []
  | .add a b => .mk 2 0 [a.enc, b.enc]
  | .mul a b => .mk 3 0 [a.enc, b.enc]
  | .cond a b c => .mk 4 0 [a.enc, b.enc, c.enc]
  | .ix n a => .mk 5 n [a.enc]

def Tk.run {σ : Type} (f : σ → Int → (Int × Bool) × σ) : Tk → σ → (Int × Bool) × σ
  | .num n, s => ((n, true), s)
  | .get k, s => f s k
  | .add a b, s =>
    let r := a.run f s
    if r.1.2 then let q := b.run f r.2; if q.1.2 then (((r.1.1 + q.1.1) % 97, true), q.2) else ((0, false), q.2) else ((0, false), r.2)
  | .mul a b, s =>
    let r := a.run f s
    if r.1.2 then let q := b.run f r.2; if q.1.2 then (((r.1.1 * q.1.1) % 97, true), q.2) else ((0, false), q.2) else ((0, false), r.2)
  | .cond a b c, s =>
    let r := a.run f s
    if r.1.2 then if r.1.1 ≠ 0 then b.run f r.2 else c.run f r.2 else ((0, false), r.2)
  | .ix n a, s =>
    let r := a.run f s
    if r.1.2 then f r.2 ((n + r.1.1) % 10) else ((0, false), r.2)

def Tk.ok : Tk → Prop
  | .num n => 0 ≤ n ∧ n ≤ 96
  | .get k => 0 ≤ k ∧ k ≤ 9
  | .add a b => a.ok ∧ b.ok
  | .mul a b => a.ok ∧ b.ok
  | .cond a b c => a.ok ∧ b.ok ∧ c.ok
  | .ix n a => 0 ≤ n ∧ n ≤ 9 ∧ a.ok

/-- what has the shape is a task -/
theorem fit_tk : ∀ t, fitAll t = true → ∃ k : Tk, t = k.enc ∧ k.ok := by
  refine Task.ind ?_
  intro k n ps ih h
  rw [fitAll, Bool.and_eq_true] at h
  obtain ⟨h1, h2⟩ := h
  unfold fitsN at h1
  split at h1
  · rename_i e; subst e
    simp only [Bool.and_eq_true, decide_eq_true_eq] at h1
    obtain ⟨h1, h3⟩ := h1
    obtain rfl := List.eq_nil_of_length_eq_zero h3
    exact ⟨.num n, rfl, h1⟩
  split at h1
  · rename_i e; subst e
    simp only [Bool.and_eq_true, decide_eq_true_eq] at h1
    obtain ⟨h1, h3⟩ := h1
    obtain rfl := List.eq_nil_of_length_eq_zero h3
    exact ⟨.get n, rfl, h1⟩
  split at h1
  · rename_i e
    simp only [Bool.and_eq_true, decide_eq_true_eq] at h1
    obtain ⟨rfl, h3⟩ := h1
    match ps, h3 with
    | [a, b], _ =>
      simp only [fitAllL, Bool.and_eq_true, and_true] at h2
      obtain ⟨x, rfl, hx⟩ := ih a (by simp) h2.1
      obtain ⟨y, rfl, hy⟩ := ih b (by simp) h2.2
      rcases e with rfl | rfl
      · exact ⟨.add x y, rfl, hx, hy⟩
      · exact ⟨.mul x y, rfl, hx, hy⟩
  split at h1
  · rename_i e; subst e
    simp only [Bool.and_eq_true, decide_eq_true_eq] at h1
    obtain ⟨rfl, h3⟩ := h1
    match ps, h3 with
    | [a, b, c], _ =>
      simp only [fitAllL, Bool.and_eq_true, and_true] at h2
      obtain ⟨x, rfl, hx⟩ := ih a (by simp) h2.1
      obtain ⟨y, rfl, hy⟩ := ih b (by simp) h2.2.1
      obtain ⟨z, rfl, hz⟩ := ih c (by simp) h2.2.2
      exact ⟨.cond x y z, rfl, hx, hy, hz⟩
  split at h1
  · rename_i e; subst e
    simp only [Bool.and_eq_true, decide_eq_true_eq] at h1
    obtain ⟨⟨h0, h9⟩, h3⟩ := h1
    match ps, h3 with
    | [a], _ =>
      simp only [fitAllL, Bool.and_eq_true, and_true] at h2
      obtain ⟨x, rfl, hx⟩ := ih a (by simp) h2
      exact ⟨.ix n x, rfl, h0, h9, hx⟩
  · simp at h1
theorem okT_tk {t : Task} (h : okT t = true) : ∃ k : Tk, t = k.enc ∧ k.ok := fit_tk t (Bool.and_eq_true_iff.1 h).1
end Go.Proofs.Ytagmdljdcnmpdaa
