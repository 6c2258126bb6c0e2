import Derived.WalkKit
import Derived.KernelRfl
import Derived.Lib.Hide
import Derived.BigQuiet
import Derived.Deep.QuietTactic
import Derived.Test.YtpccgdkidnkppaaProg
import Derived.Maps.OwnSet
import Derived.Deep.AppendLies
import Derived.WalkSpells
import Derived.Deep.RegionLaw
import Derived.Deep.OwnRows
set_option linter.unusedVariables false
set_option linter.unusedSimpArgs false
namespace Go.Proofs.Ytpccgdkidnkppaa
open Go Go.RowKit

/-! what is true over any program -/

/-- function g can be entered: it has a body, and is no word of the machine's -/
def Enters (P : Program) (g : Nat) : Prop := ∀ (args : Array Value) (w : World), (callFunc g args).run P w = .ok (.enter g args) w
theorem enters_of {P : Program} {g : Nat} {fn : Func} (hf : P.funcs[g]? = some fn) (hn : (fn.name == "runtime.NumGoroutine") = false) (hb : fn.body.isNone = false) : Enters P g := by
  intro args w
  have hn' : ¬ fn.name = "runtime.NumGoroutine" := by simpa using hn
  have hb' : ¬ fn.body = none := by intro h; simp [h] at hb
  simp [callFunc, program, Sem.run, hf, hn', hb']

theorem wpList_call_value {P : Program} {ops : Array Oper} {rest : List Oper} {o : Oper} {a : Act} {Q : Exit → Act → World → Prop} {w : World}
    (hg : o.guard = none) (x : Operand) (ags : List Operand) (ts : Array TypeId) (hop : o.op = Op.call { callee := Callee.value x, args := ags.toArray, argTypes := ts })
    (g : Nat) (first cap : Array Value) (hx : a.eval x = .func (.func g) first cap) (hP : Enters P g)
    (hc : Calls P g (first ++ (ags.map a.eval).toArray ++ cap) w fun e w' => ∃ v, e = .returned v ∧ wpList P ops Q rest (a.put o.dst v) w') : wpList P ops Q (o :: rest) a w := by
  refine wpList_plain hg fun K hK' => ?_
  unfold Oper.wp
  have hrun : (execOp a.eval o).run P w = .ok (.enter g (first ++ (ags.map a.eval).toArray ++ cap)) w := by
    have := hP (first ++ (ags.map a.eval).toArray ++ cap) w
    simp [execOp, hop, resolve, hx, Deferred.ofValue, invoke]
    simpa using this
  rw [hrun]
  show Calls P g _ w _
  refine hc.mono fun e w' h => ?_
  obtain ⟨v, rfl, hk⟩ := h
  exact hK' _ _ hk

theorem bcell {B : Nat} {W w1 : World} (hb : Below B W w1) : (∀ b o, b < B → w1.cell? ⟨b, o, none⟩ = W.cell? ⟨b, o, none⟩) :=
  fun b o h => hb.cell (p := ⟨b, o, none⟩) h

/-! what a call turns: blocks out of F and new ones; behind it F' is what is owned -/
structure Turn (F F' : Nat → Prop) (w w' : World) : Prop where
  os : w'.os = w.os
  tape : w'.tape = w.tape
  output : w'.output = w.output
  size : w.heap.size ≤ w'.heap.size
  block : ∀ i, i < w.heap.size → ¬ F i → w'.heap[i]? = w.heap[i]?
  fresh : ∀ i, F' i → F i ∨ w.heap.size ≤ i
theorem Turn.refl (F : Nat → Prop) (w : World) : Turn F F w w := ⟨rfl, rfl, rfl, Nat.le_refl _, fun _ _ _ => rfl, fun _ h => .inl h⟩
theorem Turn.trans {F F1 F2 : Nat → Prop} {w w1 w2 : World} (h : Turn F F1 w w1) (k : Turn F1 F2 w1 w2) : Turn F F2 w w2 :=
  ⟨k.os.trans h.os, k.tape.trans h.tape, k.output.trans h.output, Nat.le_trans h.size k.size,
    fun i hi hF => (k.block i (Nat.lt_of_lt_of_le hi h.size) (fun hF1 => (h.fresh i hF1).elim hF (fun hge => by omega))).trans (h.block i hi hF),
    fun i hi => (k.fresh i hi).elim (h.fresh i) (fun hge => .inr (Nat.le_trans h.size hge))⟩
theorem Turn.alloc {F F' : Nat → Prop} {w w' : World} (h : Turn F F' w w') (o : Obj) : Turn F F' w (w'.alloc o) :=
  h.trans ⟨rfl, rfl, rfl, by simp, fun i hi _ => Below.heap_alloc _ _ _ hi, fun _ h => .inl h⟩
theorem Turn.drew {F F' : Nat → Prop} {w w' : World} (h : Turn F F' w w') : Turn F F' w w'.drew := ⟨h.os, h.tape, h.output, h.size, h.block, h.fresh⟩
theorem Turn.drewN {F F' : Nat → Prop} {w w' : World} (h : Turn F F' w w') (n : Nat) : Turn F F' w (w'.drewN n) := ⟨h.os, h.tape, h.output, h.size, h.block, h.fresh⟩
/-- new blocks were made ahead -/
theorem Turn.from_alloc {F F' : Nat → Prop} {w w' : World} {o : Obj} (h : Turn F F' (w.alloc o) w') : Turn F F' w w' :=
  (((Turn.refl F w).alloc o).trans h)
theorem Turn.cell {F F' : Nat → Prop} {w w' : World} (h : Turn F F' w w') {b : Nat} (o : Nat) (hb : b < w.heap.size) (hF : ¬ F b) : w'.cell? ⟨b, o, none⟩ = w.cell? ⟨b, o, none⟩ :=
  World.cell?_of_block (w := w) (h.block b hb hF)
theorem Turn.below {F F' : Nat → Prop} {w w' : World} (h : Turn F F' w w') {B : Nat} (hB : B ≤ w.heap.size) (hF : ∀ i, F i → B ≤ i) : Below B w w' :=
  ⟨h.os, h.tape, h.output, h.size, fun k hk => h.block k (by omega) (fun hf => by have := hF k hf; omega)⟩
theorem Turn.of_below {w w' : World} (h : Below w.heap.size w w') : Turn (fun _ => False) (fun _ => False) w w' := ⟨h.os, h.tape, h.output, h.size, fun k hk _ => h.block k hk, fun _ h => h.elim⟩

theorem below_up {w w1 w2 : World} (h : Below w.heap.size w w1) (k : Below w1.heap.size w1 w2) : Below w.heap.size w w2 := h.trans (k.mono h.size)
theorem below_al {w w1 : World} (h : Below w.heap.size w w1) (o : Obj) : Below w.heap.size w (w1.alloc o) := h.alloc h.size o
theorem below_from {w w1 : World} {o : Obj} (h : Below (w.alloc o).heap.size (w.alloc o) w1) : Below w.heap.size w w1 := below_up (below_al (Below.refl _ _) o) h
theorem below_al' {B : Nat} {w0 w : World} (h : Below B w0 w) (o : Obj) (hB : B ≤ w.heap.size) : Below B w0 (w.alloc o) := h.alloc hB o
/-- a later world is below what an earlier one was -/
theorem below_up' {B : Nat} {w0 w w1 : World} (h : Below B w0 w) (hB : B ≤ w.heap.size) (k : Below w.heap.size w w1) : Below B w0 w1 := h.trans (k.mono hB)

theorem cell_al {w : World} {ob : Obj} {b o : Nat} (h : b < w.heap.size) : (w.alloc ob).cell? ⟨b, o, none⟩ = w.cell? ⟨b, o, none⟩ := (below_al (Below.refl _ _) ob).cell (p := ⟨b, o, none⟩) h
theorem getD_at {α : Type} {xs : List α} {i : Nat} (d : α) (h : i < xs.length) : xs.getD i d = xs[i] := by simp [List.getD, h]
theorem getD_out {α : Type} {xs : List α} {i : Nat} (d : α) (h : xs.length ≤ i) : xs.getD i d = d := by simp [List.getD, h]

/-- a block that was there when a call began holds what it held -/
theorem kept_cell {w wr : World} (h : Below w.heap.size w wr) {b o : Nat} {v : Value} (hb : b < w.heap.size) (hc : w.cell? ⟨b, o, none⟩ = some v) : wr.cell? ⟨b, o, none⟩ = some v := (h.cell (p := ⟨b, o, none⟩) hb).trans hc

/-! rows whose elements are one cell -/
def RowAt {α : Type} (f : α → Value) (B : Nat) (w : World) (A : Option Addr) (xs : List α) : Prop :=
  ∀ i (h : i < xs.length), ∃ b o, A = some ⟨b, o, none⟩ ∧ b < B ∧ w.cell? ⟨b, o + i, none⟩ = some (f xs[i])
def vInt (n : Int) : Value := .int .i64 n
abbrev IntsAt := RowAt (fun n : Int => Value.int .i64 n)
abbrev BoolsAt := RowAt (fun b : Bool => Value.bool b)
theorem RowAt.nil {α : Type} (f : α → Value) (B : Nat) (w : World) (A : Option Addr) : RowAt f B w A [] := fun i h => by simp at h
theorem RowAt.at {α : Type} {f : α → Value} {B : Nat} {w0 w : World} {A : Option Addr} {xs : List α} (h : RowAt f B w0 A xs) (hb : Below B w0 w) (hB : B ≤ w.heap.size) (i : Nat) (hi : i < xs.length) :
    ∃ b o, A = some ⟨b, o, none⟩ ∧ b < w.heap.size ∧ w.cell? ⟨b, o + i, none⟩ = some (f xs[i]) := by
  obtain ⟨b, o, e, hlt, hc⟩ := h i hi
  exact ⟨b, o, e, by omega, (hb.cell hlt).trans hc⟩
theorem RowAt.up {α : Type} {f : α → Value} {B B' : Nat} {w0 w : World} {A : Option Addr} {xs : List α} (h : RowAt f B w0 A xs) (hb : Below B w0 w) (hB : B ≤ B') : RowAt f B' w A xs := by
  intro i hi
  obtain ⟨b, o, e, hlt, hc⟩ := h i hi
  exact ⟨b, o, e, by omega, (hb.cell hlt).trans hc⟩

/-! the first place where something holds -/
def idx {α : Type} (p : α → Bool) (xs : List α) : Int := match xs.findIdx? p with | some i => (i : Int) | none => -1
theorem idx_found {α : Type} {p : α → Bool} {xs : List α} {k : Nat} (hk : k < xs.length) (h : ∀ j (hj : j < k), p (xs[j]'(by omega)) = false) (hp : p xs[k] = true) : idx p xs = k := by
  have : xs.findIdx? p = some k := by
    rw [List.findIdx?_eq_some_iff_getElem]
    exact ⟨hk, hp, fun j hj => by simp [h j hj]⟩
  simp [idx, this]
theorem idx_none {α : Type} {p : α → Bool} {xs : List α} (h : ∀ j (hj : j < xs.length), p xs[j] = false) : idx p xs = -1 := by
  have : xs.findIdx? p = none := by
    rw [List.findIdx?_eq_none_iff]
    intro x hx
    obtain ⟨j, hj, rfl⟩ := List.getElem_of_mem hx
    exact h j hj
  simp [idx, this]
theorem idx_lt {α : Type} {p : α → Bool} {xs : List α} (h : 0 ≤ idx p xs) : ∃ j : Nat, idx p xs = j ∧ j < xs.length := by
  unfold idx at h ⊢
  cases e : xs.findIdx? p with
  | some i =>
    rw [List.findIdx?_eq_some_iff_getElem] at e
    obtain ⟨hi, _⟩ := e
    exact ⟨i, rfl, hi⟩
  | none => rw [e] at h; simp at h
theorem RowAt.drop {α : Type} {f : α → Value} {B : Nat} {w : World} {g o : Nat} {xs : List α} (h : RowAt f B w (some ⟨g, o, none⟩) xs) (j : Nat) : RowAt f B w (some ⟨g, o + j, none⟩) (xs.drop j) := by
  intro i hi
  simp only [List.length_drop] at hi
  obtain ⟨b, o', e, hlt, hc⟩ := h (j + i) (by omega)
  cases e
  exact ⟨_, _, rfl, hlt, by rw [Nat.add_assoc]; simpa using hc⟩
theorem idx_any {α : Type} (p : α → Bool) (xs : List α) : decide (0 ≤ idx p xs) = xs.any p := by
  unfold idx
  cases h : xs.findIdx? p with
  | some i =>
    rw [List.findIdx?_eq_some_iff_getElem] at h
    obtain ⟨hi, hp, _⟩ := h
    have : xs.any p = true := List.any_eq_true.2 ⟨xs[i], List.getElem_mem _, hp⟩
    simp [this]
  | none =>
    rw [List.findIdx?_eq_none_iff] at h
    have : xs.any p = false := by rw [List.any_eq_false]; intro x hx; simp [h x hx]
    simp [this]

/-! tasks -/
inductive Task where
  | mk (kind n : Int) (parts : List Task)
def Task.kind : Task → Int | .mk k _ _ => k
def Task.n : Task → Int | .mk _ n _ => n
def Task.parts : Task → List Task | .mk _ _ ps => ps
instance : Inhabited Task := ⟨.mk 0 0 []⟩

mutual
/-- the three cells of a task, and all that they lead to, in blocks below B -/
def TaskIs (B : Nat) (w : World) : Value → Task → Prop
  | v, .mk k n ps => ∃ A c, v = .agg #[.int .i64 k, .int .i64 n, .slice A ps.length c] ∧ ps.length ≤ c ∧ c ≤ maxLen ∧ PartsIs B w A 0 ps
def PartsIs (B : Nat) (w : World) : Option Addr → Nat → List Task → Prop
  | _, _, [] => True
  | A, i, t :: ts => (∃ b o x y z, A = some ⟨b, o, none⟩ ∧ b < B ∧ w.cell? ⟨b, o + i * 3, none⟩ = some x ∧ w.cell? ⟨b, o + i * 3 + 1, none⟩ = some y ∧
      w.cell? ⟨b, o + i * 3 + 2, none⟩ = some z ∧ TaskIs B w (.agg #[x, y, z]) t) ∧ PartsIs B w A (i + 1) ts
end

theorem PartsIs.get {B : Nat} {w : World} {A : Option Addr} : ∀ {ps : List Task} {k : Nat}, PartsIs B w A k ps → ∀ i (hi : i < ps.length),
    ∃ b o A' c', A = some ⟨b, o, none⟩ ∧ b < B ∧ w.cell? ⟨b, o + (k + i) * 3, none⟩ = some (.int .i64 ps[i].kind) ∧
      w.cell? ⟨b, o + (k + i) * 3 + 1, none⟩ = some (.int .i64 ps[i].n) ∧ w.cell? ⟨b, o + (k + i) * 3 + 2, none⟩ = some (.slice A' ps[i].parts.length c') ∧
      ps[i].parts.length ≤ c' ∧ c' ≤ maxLen ∧ PartsIs B w A' 0 ps[i].parts := by
  intro ps
  induction ps with
  | nil => intro k _ i hi; simp at hi
  | cons t ts ih =>
    intro k h i hi
    rw [PartsIs] at h
    obtain ⟨⟨b, o, x, y, z, rfl, hb, hx, hy, hz, ht⟩, hts⟩ := h
    cases i with
    | zero =>
      cases t with
      | mk k' n' ps' =>
        rw [TaskIs] at ht
        obtain ⟨A', c', he, hc, hm, hp⟩ := ht
        simp only [Value.agg.injEq, Array.mk.injEq, List.cons.injEq, and_true] at he
        obtain ⟨rfl, rfl, rfl⟩ := he
        exact ⟨b, o, A', c', rfl, hb, by simpa [Task.kind] using hx, by simpa [Task.n] using hy, by simpa [Task.parts] using hz, hc, hm, hp⟩
    | succ i =>
      obtain ⟨b', o', A', c', he, hb', h1, h2, h3, h4, h5, h6⟩ := ih hts i (by simpa using hi)
      rw [show k + 1 + i = k + (i + 1) from by omega] at h1 h2 h3
      exact ⟨b', o', A', c', he, hb', h1, h2, h3, h4, h5, h6⟩

/-- a part at a place, met in a later world -/
theorem PartsIs.at {B : Nat} {w0 w : World} {A : Option Addr} {ps : List Task} (h : PartsIs B w0 A 0 ps) (hb : Below B w0 w) (i : Nat) (hi : i < ps.length) :
    ∃ b o A' c', A = some ⟨b, o, none⟩ ∧ b < B ∧ w.cell? ⟨b, o + i * 3, none⟩ = some (.int .i64 ps[i].kind) ∧
      w.cell? ⟨b, o + i * 3 + 1, none⟩ = some (.int .i64 ps[i].n) ∧ w.cell? ⟨b, o + i * 3 + 2, none⟩ = some (.slice A' ps[i].parts.length c') ∧
      ps[i].parts.length ≤ c' ∧ c' ≤ maxLen ∧ PartsIs B w0 A' 0 ps[i].parts := by
  obtain ⟨b, o, A', c', e, hb', h1, h2, h3, r⟩ := h.get i hi
  rw [Nat.zero_add] at h1 h2 h3
  exact ⟨b, o, A', c', e, hb', (hb.cell hb').trans h1, (hb.cell hb').trans h2, (hb.cell hb').trans h3, r⟩

mutual
theorem TaskIs.up {B B' : Nat} {w0 w : World} (hb : Below B w0 w) (hB : B ≤ B') : ∀ (t : Task) (v : Value), TaskIs B w0 v t → TaskIs B' w v t
  | .mk k n ps, v, h => by
    rw [TaskIs] at h ⊢
    obtain ⟨A, c, e, hc, hm, hp⟩ := h
    exact ⟨A, c, e, hc, hm, PartsIs.up hb hB ps A 0 hp⟩
theorem PartsIs.up {B B' : Nat} {w0 w : World} (hb : Below B w0 w) (hB : B ≤ B') : ∀ (ps : List Task) (A : Option Addr) (i : Nat), PartsIs B w0 A i ps → PartsIs B' w A i ps
  | [], A, i, _ => by rw [PartsIs]; trivial
  | t :: ts, A, i, h => by
    rw [PartsIs] at h ⊢
    obtain ⟨⟨b, o, x, y, z, e, hlt, hx, hy, hz, ht⟩, hts⟩ := h
    exact ⟨⟨b, o, x, y, z, e, by omega, (hb.cell hlt).trans hx, (hb.cell hlt).trans hy, (hb.cell hlt).trans hz, TaskIs.up hb hB t _ ht⟩, PartsIs.up hb hB ts A (i + 1) hts⟩
end

theorem Task.ind {P : Task → Prop} (h : ∀ k n ps, (∀ p, p ∈ ps → P p) → P (.mk k n ps)) : ∀ t, P t
  | .mk k n ps => h k n ps (fun p _ => Task.ind h p)
termination_by t => SizeOf.sizeOf t
decreasing_by
  have := List.sizeOf_lt_of_mem ‹p ∈ ps›
  simp
  omega

/-- the shape of one node -/
def fitsN (k n : Int) (len : Nat) : Bool :=
  if k = 0 then decide (0 ≤ n ∧ n ≤ 96) && decide (len = 0)
  else if k = 1 then decide (0 ≤ n ∧ n ≤ 9) && decide (len = 0)
  else if k = 2 ∨ k = 3 then decide (n = 0) && decide (len = 2)
  else if k = 4 then decide (n = 0) && decide (len = 3)
  else if k = 5 then decide (0 ≤ n ∧ n ≤ 9) && decide (len = 1)
  else false

mutual
def cntTo : Task → Int → Int
  | .mk k n ps, room => if room < 1 ∨ fitsN k n ps.length = false then 16 else cntToL ps room 1
def cntToL : List Task → Int → Int → Int
  | [], _, n => n
  | p :: ps, room, n => if n > room then 16 else cntToL ps room (n + cntTo p (room - n))
end
def cntL : List Task → Int → Int
  | [], n => n
  | p :: ps, n => if n > 15 then n else cntL ps (n + cntTo p (15 - n))
def cnt : Task → Int
  | .mk k n ps => if fitsN k n ps.length = false then 16 else cntL ps 1

mutual
def fitAll : Task → Bool
  | .mk k n ps => fitsN k n ps.length && fitAllL ps
def fitAllL : List Task → Bool
  | [] => true
  | p :: ps => fitAll p && fitAllL ps
end
mutual
def nodes : Task → Int
  | .mk _ _ ps => 1 + nodesL ps
def nodesL : List Task → Int
  | [] => 0
  | p :: ps => nodes p + nodesL ps
end
def okT (t : Task) : Bool := fitAll t && decide (nodes t ≤ 15)

mutual
theorem nodes_pos : ∀ t, 1 ≤ nodes t
  | .mk _ _ ps => by rw [nodes]; have := nodesL_pos ps; omega
theorem nodesL_pos : ∀ ps, 0 ≤ nodesL ps
  | [] => by simp [nodesL]
  | p :: ps => by rw [nodesL]; have := nodes_pos p; have := nodesL_pos ps; omega
end

mutual
theorem cntTo_bound : ∀ (t : Task) (room : Int), room ≤ 15 → 1 ≤ cntTo t room ∧ (cntTo t room ≤ 16 ∨ cntTo t room ≤ 16 + 16 * room)
  | .mk k n ps, room, h => by
    rw [cntTo]
    split
    · omega
    · have := cntToL_bound ps room 1 h (by omega) (by omega)
      omega
theorem cntToL_bound : ∀ (ps : List Task) (room n : Int), room ≤ 15 → 1 ≤ n → n ≤ 16 + 16 * room → 1 ≤ cntToL ps room n ∧ (cntToL ps room n ≤ 16 + 16 * room ∨ cntToL ps room n ≤ 16)
  | [], room, n, h, h1, h2 => by rw [cntToL]; omega
  | p :: ps, room, n, h, h1, h2 => by
    rw [cntToL]
    split
    · omega
    · have hp := cntTo_bound p (room - n) (by omega)
      exact cntToL_bound ps room (n + cntTo p (room - n)) h (by omega) (by omega)
end

mutual
theorem cntTo_spec : ∀ (t : Task) (room : Int), room ≤ 15 → if fitAll t = true ∧ nodes t ≤ room then cntTo t room = nodes t else room < cntTo t room
  | .mk k n ps, room, h => by
    have hn := nodesL_pos ps
    rw [cntTo, fitAll, nodes]
    by_cases h1 : room < 1
    · rw [if_neg (by omega), if_pos (.inl h1)]; omega
    · by_cases h2 : fitsN k n ps.length = false
      · rw [if_neg (by simp [h2]), if_pos (.inr h2)]; omega
      · have hr : ¬ (room < 1 ∨ fitsN k n ps.length = false) := by simp [h1, h2]
        rw [if_neg hr]
        have := cntToL_spec ps room 1 h (by omega)
        simp only [Bool.not_eq_false] at h2
        rw [h2]
        simpa using this
theorem cntToL_spec : ∀ (ps : List Task) (room n : Int), room ≤ 15 → 1 ≤ n → if fitAllL ps = true ∧ n + nodesL ps ≤ room then cntToL ps room n = n + nodesL ps else room < cntToL ps room n
  | [], room, n, h, h1 => by simp [cntToL, nodesL, fitAllL]
  | p :: ps, room, n, h, h1 => by
    have hp := cntTo_spec p (room - n) (by omega)
    have hpb := cntTo_bound p (room - n) (by omega)
    have hnp := nodes_pos p
    have hn := nodesL_pos ps
    have hl := cntToL_spec ps room (n + cntTo p (room - n)) h (by omega)
    rw [cntToL, fitAllL, nodesL]
    by_cases h2 : n > room
    · rw [if_pos h2, if_neg (by omega)]; omega
    · rw [if_neg h2]
      by_cases h3 : fitAll p = true ∧ nodes p ≤ room - n
      · rw [if_pos h3] at hp
        rw [hp] at hl ⊢
        rw [h3.1, Bool.true_and]
        by_cases h4 : fitAllL ps = true ∧ n + nodes p + nodesL ps ≤ room
        · rw [if_pos h4] at hl
          rw [if_pos ⟨h4.1, by omega⟩, hl]; omega
        · rw [if_neg h4] at hl
          rw [if_neg (fun h5 => h4 ⟨h5.1, by omega⟩)]
          exact hl
      · rw [if_neg h3] at hp
        rw [if_neg (fun h5 => h3 ⟨(Bool.and_eq_true_iff.1 h5.1).1, by omega⟩)]
        split at hl <;> omega
end

theorem cntL_spec : ∀ (ps : List Task) (n : Int), 1 ≤ n → if fitAllL ps = true ∧ n + nodesL ps ≤ 15 then cntL ps n = n + nodesL ps else 15 < cntL ps n
  | [], n, h1 => by simp [cntL, nodesL, fitAllL]
  | p :: ps, n, h1 => by
    have hp := cntTo_spec p (15 - n) (by omega)
    have hpb := cntTo_bound p (15 - n) (by omega)
    have hnp := nodes_pos p
    have hn := nodesL_pos ps
    have hl := cntL_spec ps (n + cntTo p (15 - n)) (by omega)
    rw [cntL, fitAllL, nodesL]
    by_cases h2 : n > 15
    · rw [if_pos h2, if_neg (by omega)]; omega
    · rw [if_neg h2]
      by_cases h3 : fitAll p = true ∧ nodes p ≤ 15 - n
      · rw [if_pos h3] at hp
        rw [hp] at hl ⊢
        rw [h3.1, Bool.true_and]
        by_cases h4 : fitAllL ps = true ∧ n + nodes p + nodesL ps ≤ 15
        · rw [if_pos h4] at hl
          rw [if_pos ⟨h4.1, by omega⟩, hl]; omega
        · rw [if_neg h4] at hl
          rw [if_neg (fun h5 => h4 ⟨h5.1, by omega⟩)]
          exact hl
      · rw [if_neg h3] at hp
        rw [if_neg (fun h5 => h3 ⟨(Bool.and_eq_true_iff.1 h5.1).1, by omega⟩)]
        split at hl <;> omega

theorem cnt_okT (t : Task) : decide (cnt t ≤ 15) = okT t := by
  cases t with
  | mk k n ps =>
    have h := cntL_spec ps 1 (by omega)
    have hn := nodesL_pos ps
    rw [cnt, okT, fitAll, nodes]
    by_cases h2 : fitsN k n ps.length = false
    · simp [h2]
    · rw [if_neg h2]
      simp only [Bool.not_eq_false] at h2
      rw [h2, Bool.true_and]
      by_cases h4 : fitAllL ps = true ∧ 1 + nodesL ps ≤ 15
      · rw [if_pos h4] at h
        simp [h, h4.1, h4.2]
      · rw [if_neg h4] at h
        have e1 : decide (cntL ps 1 ≤ 15) = false := by simp; omega
        rw [e1]
        cases hf : fitAllL ps
        · rfl
        · have : ¬ 1 + nodesL ps ≤ 15 := fun h5 => h4 ⟨hf, h5⟩
          simp [this]

/-- tasks that are ones -/
inductive Tk where
  | num (n : Int)
  | get (k : Int)
  | add (a b : Tk)
  | mul (a b : Tk)
  | cond (a b c : Tk)
  | ix (n : Int) (a : Tk)

def Tk.enc : Tk → Task
  | .num n => .mk 0 n []
  | .get k => .mk 1 k []
  | .add a b => .mk 2 0 [a.enc, b.enc]
  | .mul a b => .mk 3 0 [a.enc, b.enc]
  | .cond a b c => .mk 4 0 [a.enc, b.enc, c.enc]
  | .ix n a => .mk 5 n [a.enc]

def Tk.run {σ : Type} (f : σ → Int → (Int × Bool) × σ) : Tk → σ → (Int × Bool) × σ
  | .num n, s => ((n, true), s)
  | .get k, s => f s k
  | .add a b, s =>
    let r := a.run f s
    if r.1.2 then let q := b.run f r.2; if q.1.2 then (((r.1.1 + q.1.1) % 97, true), q.2) else ((0, false), q.2) else ((0, false), r.2)
  | .mul a b, s =>
    let r := a.run f s
    if r.1.2 then let q := b.run f r.2; if q.1.2 then (((r.1.1 * q.1.1) % 97, true), q.2) else ((0, false), q.2) else ((0, false), r.2)
  | .cond a b c, s =>
    let r := a.run f s
    if r.1.2 then if r.1.1 ≠ 0 then b.run f r.2 else c.run f r.2 else ((0, false), r.2)
  | .ix n a, s =>
    let r := a.run f s
    if r.1.2 then f r.2 ((n + r.1.1) % 10) else ((0, false), r.2)

def Tk.ok : Tk → Prop
  | .num n => 0 ≤ n ∧ n ≤ 96
  | .get k => 0 ≤ k ∧ k ≤ 9
  | .add a b => a.ok ∧ b.ok
  | .mul a b => a.ok ∧ b.ok
  | .cond a b c => a.ok ∧ b.ok ∧ c.ok
  | .ix n a => 0 ≤ n ∧ n ≤ 9 ∧ a.ok

/-- what has the shape is a task -/
theorem fit_tk : ∀ t, fitAll t = true → ∃ k : Tk, t = k.enc ∧ k.ok := by
  refine Task.ind ?_
  intro k n ps ih h
  rw [fitAll, Bool.and_eq_true] at h
  obtain ⟨h1, h2⟩ := h
  unfold fitsN at h1
  split at h1
  · rename_i e; subst e
    simp only [Bool.and_eq_true, decide_eq_true_eq] at h1
    obtain ⟨h1, h3⟩ := h1
    obtain rfl := List.eq_nil_of_length_eq_zero h3
    exact ⟨.num n, rfl, h1⟩
  split at h1
  · rename_i e; subst e
    simp only [Bool.and_eq_true, decide_eq_true_eq] at h1
    obtain ⟨h1, h3⟩ := h1
    obtain rfl := List.eq_nil_of_length_eq_zero h3
    exact ⟨.get n, rfl, h1⟩
  split at h1
  · rename_i e
    simp only [Bool.and_eq_true, decide_eq_true_eq] at h1
    obtain ⟨rfl, h3⟩ := h1
    match ps, h3 with
    | [a, b], _ =>
      simp only [fitAllL, Bool.and_eq_true, and_true] at h2
      obtain ⟨x, rfl, hx⟩ := ih a (by simp) h2.1
      obtain ⟨y, rfl, hy⟩ := ih b (by simp) h2.2
      rcases e with rfl | rfl
      · exact ⟨.add x y, rfl, hx, hy⟩
      · exact ⟨.mul x y, rfl, hx, hy⟩
  split at h1
  · rename_i e; subst e
    simp only [Bool.and_eq_true, decide_eq_true_eq] at h1
    obtain ⟨rfl, h3⟩ := h1
    match ps, h3 with
    | [a, b, c], _ =>
      simp only [fitAllL, Bool.and_eq_true, and_true] at h2
      obtain ⟨x, rfl, hx⟩ := ih a (by simp) h2.1
      obtain ⟨y, rfl, hy⟩ := ih b (by simp) h2.2.1
      obtain ⟨z, rfl, hz⟩ := ih c (by simp) h2.2.2
      exact ⟨.cond x y z, rfl, hx, hy, hz⟩
  split at h1
  · rename_i e; subst e
    simp only [Bool.and_eq_true, decide_eq_true_eq] at h1
    obtain ⟨⟨h0, h9⟩, h3⟩ := h1
    match ps, h3 with
    | [a], _ =>
      simp only [fitAllL, Bool.and_eq_true, and_true] at h2
      obtain ⟨x, rfl, hx⟩ := ih a (by simp) h2
      exact ⟨.ix n x, rfl, h0, h9, hx⟩
  · simp at h1
theorem okT_tk {t : Task} (h : okT t = true) : ∃ k : Tk, t = k.enc ∧ k.ok := fit_tk t (Bool.and_eq_true_iff.1 h).1
end Go.Proofs.Ytpccgdkidnkppaa

set_option linter.unusedVariables false
set_option linter.unusedSimpArgs false
namespace Go.Proofs.Ytpccgdkidnkppaa
open Go Go.RowKit

/-! rows that a call owns -/
def ints (xs : List Int) : List Value := xs.map fun x => Value.int .i64 x
theorem ints_length (xs : List Int) : (ints xs).length = xs.length := by simp [ints]
theorem ints_append (xs ys : List Int) : ints (xs ++ ys) = ints xs ++ ints ys := by simp [ints]

/-- what is known of an element's type -/
structure ElemTy (P : Program) (t e : TypeId) (z : Value) (size bytes : Nat) : Prop where
  ht : P.underlying t = some (.slice e)
  hi : (P.info? e).map (fun i => (i.zero, i.size, i.bytes)) = some (some z, size, bytes)
  hz : z.cells.size = size
  hs : 0 < size

/-- 'append(s, x)' of one element that was laid into block N -/
theorem wpList_app1 {P : Program} {w : World} {ops : Array Oper} {rest : List Oper} {o : Oper} {a : Act} {Q : Exit → Act → World → Prop} (hgd : o.guard = none) (s x : Operand) (t : TypeId)
    (ho : o.op = .call { callee := .builtin .append, args := #[s, x], argTypes := #[t, t] })
    {e : TypeId} {z : Value} {size bytes : Nat} (hE : ElemTy P t e z size bytes) (base : Nat)
    (v : Value) (n : Nat) (xs : List Value) (hs : a.eval s = v) (hown : w.ownsRow base e size v n xs)
    (N c : Nat) (news : List Value) (hx : a.eval x = .slice (some ⟨N, 0, none⟩) 1 c) (hl : news.length = size) (hnews : ∃ cs fr, w.heap[N]? = some (.cells cs e fr) ∧ cs.toList = news) (h1 : ∀ u ∈ news, u.oneCell' = true)
    (h63 : n + 1 ≤ maxLen) (hbytes : (n + 1) * bytes ≤ 140737488355328) (hbase : base ≤ w.heap.size)
    (h : ∀ g cap w', w'.ownsRow base e size (.slice (some ⟨g, 0, none⟩) (n + 1) cap) (n + 1) (xs ++ news) → w.grownBy w' v.ownBlock → (v.ownBlock = some g ∨ g = w.heap.size) → wpList P ops Q rest (a.put o.dst (.slice (some ⟨g, 0, none⟩) (n + 1) cap)) w') : wpList P ops Q (o :: rest) a w := by
  obtain ⟨i, hi, hz0, hz1, hz2⟩ := info_parts hE.hi
  obtain ⟨cs, fr, hN, rfl⟩ := hnews
  exact wpList_append_lies w hgd s x t ho base e i z size bytes hE.ht hi hz0 hz1 hz2 hE.hz hE.hs v n xs hs hown ⟨N, 0, none⟩ 1 c cs.toList hx (by simpa using hl) (World.news_of_block hN) h1 (by omega) h63 hbytes hbase _ rfl
    (fun g cap w' h2 h3 h4 _ => h g cap w' h2 h3 h4)

/-- 'append(s, x...)' -/
theorem wpList_appN {P : Program} {w : World} {ops : Array Oper} {rest : List Oper} {o : Oper} {a : Act} {Q : Exit → Act → World → Prop} (hgd : o.guard = none) (s x : Operand) (t : TypeId)
    (ho : o.op = .call { callee := .builtin .append, args := #[s, x], argTypes := #[t, t] })
    {e : TypeId} {z : Value} {size bytes : Nat} (hE : ElemTy P t e z size bytes) (base : Nat)
    (v : Value) (n : Nat) (xs : List Value) (hs : a.eval s = v) (hown : w.ownsRow base e size v n xs)
    (ad : Addr) (m c : Nat) (news : List Value) (hx : a.eval x = .slice (some ad) m c) (hl : news.length = m * size) (hnews : ∀ j u, news[j]? = some u → w.cell? (ad.add j) = some u) (h1 : ∀ u ∈ news, u.oneCell' = true)
    (h63 : n + m ≤ maxLen) (hbytes : (n + m) * bytes ≤ 140737488355328) (hbase : base ≤ w.heap.size)
    (h : ∀ v' w', w'.ownsRow base e size v' (n + m) (xs ++ news) → w.grownBy w' v.ownBlock → (v'.ownBlock = v.ownBlock ∨ v'.ownBlock = some w.heap.size) → wpList P ops Q rest (a.put o.dst v') w') : wpList P ops Q (o :: rest) a w := by
  obtain ⟨i, hi, hz0, hz1, hz2⟩ := info_parts hE.hi
  exact wpList_append_own_at w hgd s x t ho base e i z size bytes hE.ht hi hz0 hz1 hz2 hE.hz hE.hs v n xs hs hown ad m c news hx hl hnews h1 h63 hbytes hbase
    (fun v' w' h2 h3 _ h4 => h v' w' h2 h3 h4)

/-- .. at a step of a region that draws its order -/
theorem step_app1 {P : Program} {w : World} {ops : Array Oper} {o : Oper} {a : Act} {K : Act → World → Prop} {Q : Exit → Act → World → Prop} {X : Prop} (hgd : o.guard = none) (s x : Operand) (t : TypeId)
    (ho : o.op = .call { callee := .builtin .append, args := #[s, x], argTypes := #[t, t] })
    {e : TypeId} {z : Value} {size bytes : Nat} (hE : ElemTy P t e z size bytes) (base : Nat)
    (v : Value) (n : Nat) (xs : List Value) (hs : a.eval s = v) (hown : w.ownsRow base e size v n xs)
    (N c : Nat) (news : List Value) (hx : a.eval x = .slice (some ⟨N, 0, none⟩) 1 c) (hl : news.length = size) (hnews : ∃ cs fr, w.heap[N]? = some (.cells cs e fr) ∧ cs.toList = news) (h1 : ∀ u ∈ news, u.oneCell' = true)
    (h63 : n + 1 ≤ maxLen) (hbytes : (n + 1) * bytes ≤ 140737488355328) (hbase : base ≤ w.heap.size)
    (h : ∀ g cap w', w'.ownsRow base e size (.slice (some ⟨g, 0, none⟩) (n + 1) cap) (n + 1) (xs ++ news) → w.grownBy w' v.ownBlock → (v.ownBlock = some g ∨ g = w.heap.size) → K (a.put o.dst (.slice (some ⟨g, 0, none⟩) (n + 1) cap)) w') :
    if Region.wanted o (yielded ops a.tmps) = true then Oper.wp P o a w K Q else X := by
  obtain ⟨i, hi, hz0, hz1, hz2⟩ := info_parts hE.hi
  obtain ⟨cs, fr, hN, rfl⟩ := hnews
  exact step_append_lies w hgd s x t ho base e i z size bytes hE.ht hi hz0 hz1 hz2 hE.hz hE.hs v n xs hs hown ⟨N, 0, none⟩ 1 c cs.toList hx (by simpa using hl) (World.news_of_block hN) h1 (by omega) h63 hbytes hbase _ rfl
    (fun g cap w' h2 h3 h4 _ => h g cap w' h2 h3 h4)
theorem one_int (k : IntKind) (q : Int) : ∀ u ∈ [Value.int k q], u.oneCell' = true := by
  intro u hu
  simp only [List.mem_singleton] at hu
  subst hu; rfl
theorem one_ints (xs : List Int) : ∀ u ∈ ints xs, u.oneCell' = true := by
  intro u hu
  simp only [ints, List.mem_map] at hu
  obtain ⟨x, _, rfl⟩ := hu
  rfl
theorem ownsRow_block {w w' : World} {base : Nat} {e : TypeId} {size : Nat} {v : Value} {n : Nat} {xs : List Value} (h : w.ownsRow base e size v n xs) (hk : ∀ i, v.ownBlock = some i → w'.heap[i]? = w.heap[i]?) : w'.ownsRow base e size v n xs := by
  refine ⟨h.1, ?_⟩
  rcases h.2 with hn | ⟨g, cap, cur, rfl, hb, hgg, rest⟩
  · exact .inl hn
  · exact .inr ⟨g, cap, cur, rfl, hb, by rw [hk g rfl]; exact hgg, rest⟩
/-- a row of elements of one type lies in no block of another kind -/
theorem ownsRow_ne {w : World} {base : Nat} {e : TypeId} {size : Nat} {v : Value} {n : Nat} {xs : List Value} (h : w.ownsRow base e size v n xs) {i : Nat} {ob : Obj} (hi : w.heap[i]? = some ob) (hne : ∀ c, ob ≠ .cells c e (0, 0)) : v.ownBlock ≠ some i := by
  intro hv
  rcases h.2 with ⟨rfl, _⟩ | ⟨g, cap, cur, rfl, hb, hgg, rest⟩
  · cases hv
  · cases hv; rw [hi] at hgg; cases hgg; exact hne cur rfl
/-- an owned row of numbers is a slice to read -/
theorem ownsRow_ints {w : World} {base : Nat} {e : TypeId} {v : Value} {xs : List Int} (h : w.ownsRow base e 1 v xs.length (ints xs)) : ∃ A c, v = .slice A xs.length c ∧ xs.length ≤ c ∧ c ≤ maxLen ∧ IntsAt w.heap.size w A xs := by
  have hlt := h.lt
  rcases h.2 with ⟨rfl, h0⟩ | ⟨g, cap, cur, rfl, hb, hgg, hc, hm, hsz, htake⟩
  · obtain rfl := List.eq_nil_of_length_eq_zero h0
    exact ⟨none, 0, rfl, Nat.le_refl _, by simp [maxLen], RowAt.nil _ _ _ _⟩
  · refine ⟨_, _, rfl, hc, hm, fun i hi => ⟨g, 0, rfl, (hlt g rfl).2, ?_⟩⟩
    have := h.cells (g := g) rfl i (.int .i64 xs[i]) (by simp [ints, hi])
    rw [Addr.add_lit] at this
    exact this

/-! maps from int to int -/
def MapIs (P : Program) (tk te : TypeId) (w : World) (b n : Nat) (f : Int → Option Int) : Prop :=
  ∃ D, w.ownsMap (H := Unit) P tk (plainElem P te) b n D ∧ ∀ k : Int, (Lit.int .i64 k).wf = true → Maps.has D (.int .i64 k) = (f k).isSome ∧ D.atKey (.int .i64 k) (.lit (.int .i64 0)) = .lit (.int .i64 ((f k).getD 0))
structure MapTy (P : Program) (t tk te : TypeId) : Prop where
  ht : P.underlying t = some (.map tk te)
  hk : P.underlying tk = some (.int .i64)
  he : P.underlying te = some (.int .i64)
  hz : ∀ w, (zeroValue te).run P w = .ok (.int .i64 0) w
theorem MapIs.new (P : Program) (tk te : TypeId) (w : World) : MapIs P tk te (w.alloc (.map #[] 0)) w.heap.size 0 (fun _ => none) :=
  ⟨.map [], World.ownsMap_made _ _ _ _, fun k _ => ⟨rfl, rfl⟩⟩
theorem MapIs.block {P : Program} {tk te : TypeId} {w w' : World} {b n : Nat} {f : Int → Option Int} (h : MapIs P tk te w b n f) (hb : w'.heap[b]? = w.heap[b]?) : MapIs P tk te w' b n f := by
  obtain ⟨D, ⟨es, clock, h1, h2⟩, h3⟩ := h
  exact ⟨D, ⟨es, clock, hb.trans h1, h2⟩, h3⟩
theorem MapIs.isMap {P : Program} {tk te : TypeId} {w : World} {b n : Nat} {f : Int → Option Int} (h : MapIs P tk te w b n f) : ∃ es c, w.heap[b]? = some (.map es c) := by
  obtain ⟨D, ⟨es, clock, h1, h2⟩, h3⟩ := h
  exact ⟨_, _, h1⟩
theorem wpList_mapget {P : Program} {w : World} {ops : Array Oper} {rest : List Oper} {o : Oper} {a : Act} {Q : Exit → Act → World → Prop} (hgd : o.guard = none) (m x : Operand) (t : TypeId) (ho : o.op = Op.lookup t m x true)
    {tk te : TypeId} (hT : MapTy P t tk te) (b n : Nat) (f : Int → Option Int) (hm : a.eval m = .map (some b)) (hM : MapIs P tk te w b n f) (k : Int) (hx : a.eval x = .int .i64 k) (hw : (Lit.int .i64 k).wf = true)
    (h : wpList P ops Q rest (a.put o.dst (.tuple #[.int .i64 ((f k).getD 0), .bool (f k).isSome])) w) : wpList P ops Q (o :: rest) a w := by
  obtain ⟨D, hD, hf⟩ := hM
  refine wpList_lookup_own_ok_int (H := Unit) w hgd m x t ho tk te .i64 (Maps.int_keyed hT.hk) hT.ht hT.he (hT.hz w) b n D hm hD _ _ hx (Maps.keyOf_int_mk hT.hk hw) ?_
  intro c hc _
  rw [(hf k hw).2] at hc
  injection hc with hc; injection hc with _ hc
  rw [(hf k hw).1, ← hc]
  exact h
theorem wpList_mapput {P : Program} {w : World} {ops : Array Oper} {rest : List Oper} {o : Oper} {a : Act} {Q : Exit → Act → World → Prop} (hgd : o.guard = none) (m x v : Operand) (t : TypeId) (ho : o.op = Op.mapUpdate t m x v)
    {tk te : TypeId} (hT : MapTy P t tk te) (b n : Nat) (f : Int → Option Int) (hm : a.eval m = .map (some b)) (hM : MapIs P tk te w b n f) (hn : n < maxLen) (k y : Int) (hx : a.eval x = .int .i64 k) (hv : a.eval v = .int .i64 y) (hw : (Lit.int .i64 k).wf = true) (hwy : (Lit.int .i64 y).wf = true)
    (h : ∀ w', MapIs P tk te w' b (n + 1) (fun j => if j = k then some y else f j) → w.grownBy w' (some b) → wpList P ops Q rest (a.put o.dst undef) w') : wpList P ops Q (o :: rest) a w := by
  obtain ⟨D, hD, hf⟩ := hM
  have hI := hD.isMap
  have hkey := Maps.keyOf_int_mk hT.hk hw
  refine wpList_mapUpdate_own (H := Unit) w hgd m x v t ho tk te (Maps.int_keyed hT.hk) hT.ht _ b n D hm hD hn _ _ _ hx hv hkey _ [] (plainElem_int hT.he hwy) ?_
  intro w' h1 h2
  refine h w' ⟨_, h1, fun j hj => ?_⟩ h2
  have hik : WideAt.IsKeyLit (Lit.int .i64 k) := by simp [WideAt.IsKeyLit]
  by_cases e : j = k
  · subst e
    simp [Maps.has_put_same hI hik, Maps.atKey_put_same hI hik]
  · have hne : (Lit.int .i64 j) ≠ (Lit.int .i64 k) := by simp [e]
    rw [Maps.has_put_other hne, Maps.atKey_put_other hne]
    simpa [e] using hf j hj
theorem setCell_turn {F : Nat → Prop} {w : World} {a : Addr} (h : F a.block) (v : Value) : Turn F F w (w.setCell a v) :=
  ⟨rfl, rfl, rfl, by simp [World.setCell], fun i _ hF => Below.heap_setCell _ _ _ _ (fun e => hF (e ▸ h)), fun _ h => .inl h⟩
theorem grown_turn {F F' : Nat → Prop} {w w' : World} {row : Option Nat} (h : w.grownBy w' row) (hr : ∀ k, row = some k → F k) (hF : ∀ i, F' i → F i ∨ w.heap.size ≤ i) : Turn F F' w w' :=
  ⟨h.os, h.tape, h.output, h.size, fun i hi hn => h.block i hi (fun e => hn (hr i e.symm)), hF⟩
theorem below_turn {F : Nat → Prop} {w w' : World} (h : Below w.heap.size w w') : Turn F F w w' := ⟨h.os, h.tape, h.output, h.size, fun i hi _ => h.block i hi, fun _ h => .inl h⟩
theorem heap_new {w : World} {o : Obj} {n : Nat} (h : n = w.heap.size) : (w.alloc o).heap[n]? = some o := h ▸ heap_alloc_new w o
theorem heap_old {w : World} {o : Obj} {n : Nat} (h : n < w.heap.size) : (w.alloc o).heap[n]? = w.heap[n]? := Below.heap_alloc w o n h
theorem cellm {w : World} {m : Nat} {cs : Array Value} {t : TypeId} {fr : Nat × Nat} (h : w.heap[m]? = some (.cells cs t fr)) (j : Nat) : w.cell? ⟨m, j, none⟩ = cs[j]? := cell_of_row w m j cs t fr h
theorem frozenm {w : World} {m : Nat} {cs : Array Value} {t : TypeId} (h : w.heap[m]? = some (.cells cs t (0, 0))) (j : Nat) : w.frozen? ⟨m, j, none⟩ = false := by
  simp [World.frozen?, h]
theorem setCell_block {w : World} {m : Nat} {cs : Array Value} {t : TypeId} {fr : Nat × Nat} (h : w.heap[m]? = some (.cells cs t fr)) (j : Nat) (v : Value) : (w.setCell ⟨m, j, none⟩ v).heap[m]? = some (.cells (cs.setIfInBounds j v) t fr) := by
  simp [World.setCell, Array.getElem?_modify, h]
theorem setCell_far {w : World} {m j : Nat} {v : Value} {k : Nat} (h : k ≠ m) : (w.setCell ⟨m, j, none⟩ v).heap[k]? = w.heap[k]? := Below.heap_setCell _ _ _ _ h
theorem own_far {v : Value} {i m : Nat} (h : v.ownBlock = some i) (hn : v.ownBlock ≠ some m) : i ≠ m := fun e => hn (e ▸ h)
theorem block_lt {w : World} {m : Nat} {ob : Obj} (h : w.heap[m]? = some ob) : m < w.heap.size := (Array.getElem?_eq_some_iff.1 h).1
/-- a block that an append to another row leaves as it was, the new element laid ahead -/
theorem far_grown {w w' : World} {o : Obj} {m : Nat} {row : Option Nat} (h : (w.alloc o).grownBy w' row) (hm : m < w.heap.size) (hr : row ≠ some m) : w'.heap[m]? = w.heap[m]? :=
  (h.block m (by simp; omega) (Ne.symm hr)).trans (heap_old hm)
theorem drew_heap (w : World) : w.drew.heap = w.heap := rfl
theorem far_grown_drew {w w' : World} {o : Obj} {m : Nat} {row : Option Nat} (h : (w.alloc o).drew.grownBy w' row) (hm : m < w.heap.size) (hr : row ≠ some m) : w'.heap[m]? = w.heap[m]? :=
  (h.block m (by simp; omega) (Ne.symm hr)).trans (heap_old hm)
end Go.Proofs.Ytpccgdkidnkppaa

set_option linter.unusedVariables false
set_option linter.unusedSimpArgs false
namespace Go.Proofs.Ytpccgdkidnkppaa
open Go Go.RowKit

theorem intTy : ElemTy Try.prog 26 3 (.int .i64 0) 1 8 := ⟨Try.underlying26, by kernel_rfl, rfl, by omega⟩
theorem mapTy : MapTy Try.prog 99 3 3 := ⟨Try.underlying99, Try.underlying3, Try.underlying3, fun w => by kernel_rfl⟩

theorem clone_calls (A : Option Addr) (c : Nat) (xs : List Int) (B : Nat) (w0 w : World) (hb : Below B w0 w) (hB : B ≤ w.heap.size) (hm : xs.length ≤ 1099511627776) (hx : IntsAt B w0 A xs) :
    Calls Try.prog 87 #[.slice A xs.length c] w fun e w' => ∃ v, e = .returned v ∧ w'.ownsRow w.heap.size 3 1 v xs.length (ints xs) ∧ Below w.heap.size w w' := by
  cases A with
  | none =>
    have h0 : xs = [] := by
      cases xs with
      | nil => rfl
      | cons x xs => obtain ⟨b, o, e, _⟩ := hx 0 (by simp); cases e
    subst h0
    have he := Lib.run_eql_slice_nil (P := Try.prog) w 26 3 none 0 c 0 0 Try.underlying26
    go_enter Try.func87, Try.ntmps87
    go_wp2
    go_ret
    exact ⟨_, rfl, World.ownsRow_nil _ _ _ _, Below.refl _ _⟩
  | some ad =>
    have he := Lib.run_eql_slice_nil (P := Try.prog) w 26 3 (some ad) xs.length c 0 0 Try.underlying26
    replace hx := Lib.hid hx
    replace hb := Lib.hid hb
    go_enter Try.func87, Try.ntmps87
    go_wp2_with ((with_reducible refine wpList_appN (by rfl) (.tmp 5) (.tmp 6) 26 (by rfl) intTy w.heap.size (.slice (some ⟨w.heap.size, 0, none⟩) 0 0) 0 [] (by with_unfolding_all rfl) ?_ ad xs.length c (ints xs) (by with_unfolding_all rfl) (by simp [ints]) ?_ ?_ ?_ ?_ ?_ ?_))
    · exact World.ownsRow_made w #[] 0 (Nat.le_refl _) (by simp [maxLen]) rfl
    · intro j u hu
      have hj : j < xs.length := by
        have := (List.getElem?_eq_some_iff.1 hu).1
        simpa [ints] using this
      obtain ⟨b, o, e, hlt, hc⟩ := hx.out.at hb.out hB j hj
      cases e
      rw [Addr.add_lit, cell_al hlt, hc]
      simpa [ints, hj] using hu
    · intro u hu
      simp only [ints, List.mem_map] at hu
      obtain ⟨x, _, rfl⟩ := hu
      rfl
    · simp [maxLen]; omega
    · omega
    · simp
    · intro v' w' h1 h2 h4
      replace h1 := Lib.hid h1
      replace h2 := Lib.hid h2
      clear h4
      go_wp2_with fail
      go_ret
      have h5 := h1.out
      exact ⟨_, rfl, by simpa using h5, (below_al (Below.refl _ _) _).grown h2.out (by simp) (fun k hk => by cases hk; simp)⟩
end Go.Proofs.Ytpccgdkidnkppaa

set_option linter.unusedVariables false
set_option linter.unusedSimpArgs false
namespace Go.Proofs.Ytpccgdkidnkppaa
open Go Go.RowKit

/-! maps from int to values of any kind: what a key has, and how many keys there are -/
def anyElem (v : Value) : Option (DataW Value × List MemPlace) := some (.held v, [])
structure VMapTy (P : Program) (t tk te : TypeId) (z : Value) : Prop where
  ht : P.underlying t = some (.map tk te)
  hk : P.underlying tk = some (.int .i64)
  hz : ∀ w, (zeroValue te).run P w = .ok z w
def VMap (P : Program) (tk : TypeId) (w : World) (b : Nat) (f : Int → Option Value) (c : Nat) : Prop :=
  ∃ D, w.ownsMap (H := Value) P tk anyElem b c D ∧ Maps.size D = c ∧ ∀ k : Int, (Lit.int .i64 k).wf = true → Maps.has D (.int .i64 k) = (f k).isSome ∧ ∀ z, D.atKey (.int .i64 k) z = match f k with | some v => .held v | none => z
def updV (f : Int → Option Value) (k : Int) (v : Value) : Int → Option Value := fun j => if j = k then some v else f j
/-- how many there are behind a store -/
def putC (f : Int → Option Value) (k : Int) (c : Nat) : Nat := if (f k).isSome then c else c + 1
theorem VMap.new (P : Program) (tk : TypeId) (w : World) : VMap P tk (w.alloc (.map #[] 0)) w.heap.size (fun _ => none) 0 :=
  ⟨.map [], World.ownsMap_made _ _ _ _, rfl, fun k _ => ⟨rfl, fun z => rfl⟩⟩
theorem VMap.block {P : Program} {tk : TypeId} {w w' : World} {b c : Nat} {f : Int → Option Value} (h : VMap P tk w b f c) (hb : w'.heap[b]? = w.heap[b]?) : VMap P tk w' b f c := by
  obtain ⟨D, ⟨es, clock, h1, h2⟩, h3⟩ := h
  exact ⟨D, ⟨es, clock, hb.trans h1, h2⟩, h3⟩
theorem VMap.isMap {P : Program} {tk : TypeId} {w : World} {b c : Nat} {f : Int → Option Value} (h : VMap P tk w b f c) : ∃ es k, w.heap[b]? = some (.map es k) := by
  obtain ⟨D, ⟨es, clock, h1, h2⟩, h3⟩ := h
  exact ⟨_, _, h1⟩
theorem VMap.lt {P : Program} {tk : TypeId} {w : World} {b c : Nat} {f : Int → Option Value} (h : VMap P tk w b f c) : b < w.heap.size := by
  obtain ⟨es, k, h⟩ := h.isMap
  exact block_lt h
theorem VMap.congr {P : Program} {tk : TypeId} {w : World} {b c : Nat} {f g : Int → Option Value} (h : VMap P tk w b f c) (e : ∀ k, f k = g k) : VMap P tk w b g c := by
  rw [← funext e]; exact h
/-- a row that is owned lies in no map's block -/
theorem VMap.ne {P : Program} {tk : TypeId} {w : World} {b c : Nat} {f : Int → Option Value} (h : VMap P tk w b f c) {base : Nat} {e : TypeId} {size : Nat} {v : Value} {n : Nat} {xs : List Value} (ho : w.ownsRow base e size v n xs) : v.ownBlock ≠ some b := by
  obtain ⟨es, k, hm⟩ := h.isMap
  exact ownsRow_ne ho hm (fun c e => by cases e)
theorem VMap.ne_cells {P : Program} {tk : TypeId} {w : World} {b c : Nat} {f : Int → Option Value} (h : VMap P tk w b f c) {m : Nat} {cs : Array Value} {t : TypeId} {fr : Nat × Nat} (hm : w.heap[m]? = some (.cells cs t fr)) : m ≠ b := by
  obtain ⟨es, k, hb⟩ := h.isMap
  intro e; rw [e, hb] at hm; cases hm
/-- a cell that is read lies in no map's block -/
theorem VMap.ne_cell {P : Program} {tk : TypeId} {w : World} {b c : Nat} {f : Int → Option Value} (h : VMap P tk w b f c) {m o : Nat} {v : Value} (hm : w.cell? ⟨m, o, none⟩ = some v) : m ≠ b := by
  obtain ⟨es, k, hb⟩ := h.isMap
  intro e; rw [e] at hm; simp [World.cell?, hb] at hm

section
variable {P : Program} {w : World} {ops : Array Oper} {rest : List Oper} {o : Oper} {a : Act} {Q : Exit → Act → World → Prop}
theorem held_inv {v u : Value} {ps : List MemPlace} (h : anyElem v = some (DataW.held u, ps)) : v = u := by
  simp [anyElem] at h; exact h.1
theorem wpList_vget (hgd : o.guard = none) (m x : Operand) (t : TypeId) (ho : o.op = Op.lookup t m x false)
    {tk te : TypeId} {z : Value} (hT : VMapTy P t tk te z) (b c : Nat) (f : Int → Option Value) (hm : a.eval m = .map (some b)) (hM : VMap P tk w b f c) (k : Int) (hx : a.eval x = .int .i64 k) (hw : (Lit.int .i64 k).wf = true)
    (h : wpList P ops Q rest (a.put o.dst ((f k).getD z)) w) : wpList P ops Q (o :: rest) a w := by
  obtain ⟨D, hD, _, hf⟩ := hM
  refine wpList_plain hgd fun K' hK' => ?_
  obtain ⟨v, ps, hrun, hv⟩ := hD.lookup (Maps.int_keyed hT.hk) hT.ht (hT.hz w) (zd := .held z) (zp := []) rfl (Maps.keyOf_int_mk hT.hk hw)
  rw [(hf k hw).2] at hv
  have e : v = (f k).getD z := by
    cases hfk : f k with
    | none => rw [hfk] at hv; exact held_inv hv
    | some u => rw [hfk] at hv; exact held_inv hv
  subst e
  unfold Oper.wp
  simp [execOp, ho, hm, hx, hrun, Result.andThen]
  exact hK' _ _ h
theorem wpList_vget_ok (hgd : o.guard = none) (m x : Operand) (t : TypeId) (ho : o.op = Op.lookup t m x true)
    {tk te : TypeId} {z : Value} (hT : VMapTy P t tk te z) (b c : Nat) (f : Int → Option Value) (hm : a.eval m = .map (some b)) (hM : VMap P tk w b f c) (k : Int) (hx : a.eval x = .int .i64 k) (hw : (Lit.int .i64 k).wf = true)
    (h : wpList P ops Q rest (a.put o.dst (.tuple #[(f k).getD z, .bool (f k).isSome])) w) : wpList P ops Q (o :: rest) a w := by
  obtain ⟨D, hD, _, hf⟩ := hM
  refine wpList_lookup_own_ok w hgd m x t ho tk te (Maps.int_keyed hT.hk) hT.ht anyElem (hT.hz w) (.held z) [] rfl b c D hm hD _ _ hx (Maps.keyOf_int_mk hT.hk hw) ?_
  intro v ps hv
  rw [(hf k hw).2] at hv
  have e : v = (f k).getD z := by
    cases hfk : f k with
    | none => rw [hfk] at hv; exact held_inv hv
    | some u => rw [hfk] at hv; exact held_inv hv
  rw [(hf k hw).1, e]
  exact h
theorem wpList_vput (hgd : o.guard = none) (m x v : Operand) (t : TypeId) (ho : o.op = Op.mapUpdate t m x v)
    {tk te : TypeId} {z : Value} (hT : VMapTy P t tk te z) (b c : Nat) (f : Int → Option Value) (hm : a.eval m = .map (some b)) (hM : VMap P tk w b f c) (hn : c < maxLen) (k : Int) (y : Value) (hx : a.eval x = .int .i64 k) (hv : a.eval v = y) (hw : (Lit.int .i64 k).wf = true)
    (h : ∀ w', VMap P tk w' b (updV f k y) (putC f k c) → w.grownBy w' (some b) → wpList P ops Q rest (a.put o.dst undef) w') : wpList P ops Q (o :: rest) a w := by
  obtain ⟨D, hD, hs, hf⟩ := hM
  have hI := hD.isMap
  have htd := hD.tidy (Maps.int_keyed hT.hk)
  have hkey := Maps.keyOf_int_mk hT.hk hw
  refine wpList_mapUpdate_own (H := Value) w hgd m x v t ho tk te (Maps.int_keyed hT.hk) hT.ht _ b c D hm hD hn _ _ _ hx hv hkey (.held y) [] rfl ?_
  intro w' h1 h2
  have hik : WideAt.IsKeyLit (Lit.int .i64 k) := by simp [WideAt.IsKeyLit]
  have hsz : Maps.size (D.put (.int .i64 k) (.held y)) = putC f k c := by
    unfold putC
    rw [Maps.size_put htd, (hf k hw).1, hs]
  refine h w' ⟨_, ?_, hsz, fun j hj => ?_⟩ h2
  · rw [← hsz]
    obtain ⟨es, clock, hb, F, hle, hDD⟩ := h1
    refine ⟨es, clock, hb, F, ?_, hDD⟩
    rw [hDD]; simp [Maps.size, length_sorted]
  · by_cases e : j = k
    · subst e
      refine ⟨by simp [Maps.has_put_same hI hik, updV], fun z => ?_⟩
      rw [Maps.atKey_put_same hI hik]; simp [updV]
    · have hne : (Lit.int .i64 j) ≠ (Lit.int .i64 k) := by simp [e]
      rw [Maps.has_put_other hne]
      refine ⟨by simpa [updV, e] using (hf j hj).1, fun z => ?_⟩
      rw [Maps.atKey_put_other hne, (hf j hj).2]; simp [updV, e]
theorem wpList_vlen (hgd : o.guard = none) (m : Operand) (t : TypeId) (ho : o.op = Op.call { callee := Callee.builtin Builtin.len, args := #[m], argTypes := #[t] })
    {tk te : TypeId} {z : Value} (hT : VMapTy P t tk te z) (b c : Nat) (f : Int → Option Value) (hm : a.eval m = .map (some b)) (hM : VMap P tk w b f c)
    (h : wpList P ops Q rest (a.put o.dst (.int .i64 c)) w) : wpList P ops Q (o :: rest) a w := by
  obtain ⟨D, hD, hs, hf⟩ := hM
  refine wpList_len_own w hgd m t ho tk te hT.ht anyElem b c D hm hD ?_
  rw [hs]; exact h
end

/-! a block known whole -/
def RowBlk {α : Type} (f : α → Value) (T : TypeId) (w : World) (b : Nat) (xs : List α) : Prop := w.heap[b]? = some (.cells (xs.map f).toArray T (0, 0))
section
variable {α : Type} {f : α → Value} {T : TypeId} {w w' : World} {b : Nat} {xs : List α}
theorem RowBlk.lt (h : RowBlk f T w b xs) : b < w.heap.size := block_lt h
theorem RowBlk.turn (h : RowBlk f T w b xs) (hk : w'.heap[b]? = w.heap[b]?) : RowBlk f T w' b xs := hk.trans h
theorem RowBlk.cell (h : RowBlk f T w b xs) {i : Nat} (hi : i < xs.length) : w.cell? ⟨b, i, none⟩ = some (f xs[i]) := by
  rw [cellm h]; simp [hi]
theorem RowBlk.frozen (h : RowBlk f T w b xs) (i : Nat) : w.frozen? ⟨b, i, none⟩ = false := frozenm h i
theorem RowBlk.set (h : RowBlk f T w b xs) (i : Nat) (x : α) : RowBlk f T (w.setCell ⟨b, i, none⟩ (f x)) b (xs.set i x) := by
  unfold RowBlk
  rw [setCell_block h]
  congr 2
  apply Array.ext'
  simp [List.map_set]
theorem RowBlk.row (h : RowBlk f T w b xs) : RowAt f w.heap.size w (some ⟨b, 0, none⟩) xs := fun i hi => ⟨b, 0, rfl, h.lt, by rw [Nat.zero_add]; exact h.cell hi⟩
theorem RowBlk.owns (h : RowBlk f T w b xs) {base : Nat} (hb : base ≤ b) (hm : xs.length ≤ maxLen) : w.ownsRow base T 1 (.slice (some ⟨b, 0, none⟩) xs.length xs.length) xs.length (xs.map f) :=
  ⟨by simp, .inr ⟨b, xs.length, _, rfl, hb, h, Nat.le_refl _, hm, by simp, by simp [List.take_of_length_le]⟩⟩
end
/-- 'make([]T, n)' has made its block -/
theorem made_row {α : Type} {f : α → Value} {T : TypeId} {w w' : World} {base n : Nat} {v : Value} {z : α} (h : w'.ownsRow base T 1 v n (madeCells #[f z] n).toList) (hb : v = .slice (some ⟨w.heap.size, 0, none⟩) n n) : RowBlk f T w' w.heap.size (List.replicate n z) := by
  subst hb
  obtain ⟨hl, ⟨e, _⟩ | ⟨g, cap, cur, e, hg, hb, hn, hc, hs, ht⟩⟩ := h
  · cases e
  · cases e
    unfold RowBlk
    rw [hb]
    congr 2
    apply Array.ext'
    have : cur.toList.take n = cur.toList := List.take_of_length_le (by simp; omega)
    simp only [Nat.mul_one] at ht
    rw [this] at ht
    rw [ht]
    apply List.ext_getElem
    · simp [madeCells]
    · intro i h1 h2
      simp [madeCells, Nat.mod_one]
theorem made_blk {α : Type} {f : α → Value} {T : TypeId} {w : World} {n : Nat} {z : α} {b : Nat} (hb : w.heap[b]? = some (.cells (madeCells #[f z] n) T (0, 0))) : RowBlk f T w b (List.replicate n z) := by
  unfold RowBlk
  rw [hb]
  congr 2
  apply Array.ext'
  apply List.ext_getElem
  · simp [madeCells]
  · intro i h1 h2
    simp [madeCells, Nat.mod_one]
theorem make_ints (n : Nat) (hn : n ≤ 1048576) : ∀ W : World, (Instr.makeSlice 26 (.int .i64 (n : Int)) (.int .i64 (n : Int))).run Try.prog W = .ok (.slice (some ⟨W.heap.size, 0, none⟩) n n) (W.alloc (.cells (madeCells #[.int .i64 0] n) 3)) :=
  fun W => run_make_row' 26 3 (.int .i64 0) 8 Try.underlying26 (by kernel_rfl) rfl .i64 .i64 n (by omega) (by omega) W
theorem make_bools (n : Nat) (hn : n ≤ 1048576) : ∀ W : World, (Instr.makeSlice 22 (.int .i64 (n : Int)) (.int .i64 (n : Int))).run Try.prog W = .ok (.slice (some ⟨W.heap.size, 0, none⟩) n n) (W.alloc (.cells (madeCells #[.bool false] n) 4)) :=
  fun W => run_make_row' 22 4 (.bool false) 1 Try.underlying22 (by kernel_rfl) rfl .i64 .i64 n (by omega) (by omega) W

theorem ownsRow_ints_of {w : World} {base : Nat} {e : TypeId} {A : Option Addr} {c : Nat} {xs : List Int} (h : w.ownsRow base e 1 (.slice A xs.length c) xs.length (ints xs)) : IntsAt w.heap.size w A xs := by
  obtain ⟨A', c', e, _, _, hx⟩ := ownsRow_ints h
  cases e; exact hx
/-- the box that a struct was put into when the call began is no row that the call owns -/
theorem box_ne {w : World} {base : Nat} {e : TypeId} {size : Nat} {v : Value} {n : Nat} {xs : List Value} (h : w.ownsRow base e size v n xs) {m : Nat} {cs : Array Value} {t : TypeId} (hm : w.heap[m]? = some (.cells cs t (0, 0))) (hne : t ≠ e) : v.ownBlock ≠ some m :=
  ownsRow_ne h hm (fun c e' => by cases e'; exact hne rfl)
/-- a number is stored in a row that is owned -/
theorem ownsRow_set {w : World} {base : Nat} {e : TypeId} {g cap n : Nat} {xs : List Value} (h : w.ownsRow base e 1 (.slice (some ⟨g, 0, none⟩) n cap) n xs) (i : Nat) (v : Value) (hi : i < n) : (w.setCell ⟨g, i, none⟩ v).ownsRow base e 1 (.slice (some ⟨g, 0, none⟩) n cap) n (xs.set i v) := by
  obtain ⟨h1, ⟨h2, _⟩ | ⟨g', cap', cur, h2, h3, h4, h5, h6, h7, h8⟩⟩ := h
  · cases h2
  · cases h2
    refine ⟨by simpa using h1, .inr ⟨g, cap, cur.setIfInBounds i v, rfl, h3, setCell_block h4 i v, h5, h6, by simpa using h7, ?_⟩⟩
    rw [Array.toList_setIfInBounds, List.take_set, h8]
end Go.Proofs.Ytpccgdkidnkppaa

set_option linter.unusedVariables false
set_option linter.unusedSimpArgs false
namespace Go.Proofs.Ytpccgdkidnkppaa
open Go Go.RowKit

/-! the reader of a code -/
theorem xor_i64 (a b : Nat) (ha : a < 1099511627776) (hb : b < 1099511627776) : 0 ≤ bits .xor .i64 (a : Int) (b : Int) := by
  have hx : a ^^^ b < 2 ^ 40 := Nat.xor_lt_two_pow (by omega) (by omega)
  have h1 : (BitVec.ofInt 64 (a : Int)).toNat = a := by
    rw [BitVec.ofInt_natCast, BitVec.toNat_ofNat]; exact Nat.mod_eq_of_lt (by omega)
  have h2 : (BitVec.ofInt 64 (b : Int)).toNat = b := by
    rw [BitVec.ofInt_natCast, BitVec.toNat_ofNat]; exact Nat.mod_eq_of_lt (by omega)
  show 0 ≤ IntKind.i64.wrap ((BitVec.ofInt 64 (a : Int) ^^^ BitVec.ofInt 64 (b : Int)).toNat : Int)
  rw [BitVec.toNat_xor, h1, h2]
  have e : IntKind.i64.wrap ((a ^^^ b : Nat) : Int) = wrap64 ((a ^^^ b : Nat) : Int) := by
    simp [IntKind.wrap, wrap64, IntKind.bits, IntKind.signed]; omega
  rw [e]; unfold wrap64; omega
theorem xor_tmod (x n : Int) (h0 : 0 ≤ x) (h1 : x ≤ 1000000000) (hn : 1 ≤ n) : 0 ≤ (bits .xor .i64 x (x / 64)).tmod n ∧ (bits .xor .i64 x (x / 64)).tmod n < n := by
  obtain ⟨a, rfl⟩ := Int.eq_ofNat_of_zero_le h0
  have h := xor_i64 a (a / 64) (by omega) (by omega)
  have e : ((a / 64 : Nat) : Int) = (a : Int) / 64 := by omega
  rw [e] at h
  exact ⟨Int.tmod_nonneg _ h, Int.tmod_lt_of_pos _ (by omega)⟩
structure RdEnv where
  A : Option Addr
  c : Nat
  bytes : List Int
  B : Nat
  w0 : World
  g : Nat
structure RdEnv.Good (R : RdEnv) : Prop where
  row : RowAt (fun b : Int => Value.int .u8 b) R.B R.w0 R.A R.bytes
  len : R.bytes.length ≤ 2000
  le : R.bytes.length ≤ R.c
  cap : R.c ≤ maxLen
  byte : ∀ b ∈ R.bytes, 0 ≤ b ∧ b ≤ 255
  hg : R.B ≤ R.g
structure RdAt (R : RdEnv) (p : Nat) (w : World) : Prop where
  blk : w.heap[R.g]? = some (.cells #[.slice R.A R.bytes.length R.c, .int .i64 p] 142 (0, 0))
  below : Below R.B R.w0 w
  size : R.B ≤ w.heap.size
def Picks (R : RdEnv) (p : Nat) (n : Int) (w : World) (e : Ending) (w' : World) : Prop :=
  ∃ v : Int, e = .returned (.int .i64 v) ∧ 0 ≤ v ∧ (v < n ∨ v = 0) ∧ RdAt R (p + 1) w' ∧ Turn (· = R.g) (· = R.g) w w'

theorem RdAt.step {R : RdEnv} {p : Nat} {w : World} (h : RdAt R p w) (hg : R.B ≤ R.g) : RdAt R (p + 1) (w.setCell ⟨R.g, 1, none⟩ (.int .i64 (p + 1 : Nat))) ∧ Turn (· = R.g) (· = R.g) w (w.setCell ⟨R.g, 1, none⟩ (.int .i64 (p + 1 : Nat))) := by
  have t := setCell_turn (F := (· = R.g)) (w := w) (a := ⟨R.g, 1, none⟩) rfl (.int .i64 (p + 1 : Nat))
  exact ⟨⟨(setCell_block h.blk 1 _).trans rfl, h.below.trans (t.below h.size (fun i hi => by cases hi; exact hg)), Nat.le_trans h.size t.size⟩, t⟩
theorem RdAt.drewN {R : RdEnv} {p : Nat} {w : World} (h : RdAt R p w) (n : Nat) : RdAt R p (w.drewN n) := ⟨h.blk, ⟨h.below.os, h.below.tape, h.below.output, h.below.size, h.below.block⟩, h.size⟩

set_option maxHeartbeats 1000000 in
theorem pick_zero (R : RdEnv) (hR : R.Good) (p : Nat) (hp : p ≤ 1000000) (n : Int) (w : World) (h : RdAt R p w) (hn : n < 1 ∨ R.bytes = []) :
    Calls Try.prog 70 #[.pointer (some ⟨R.g, 0, none⟩), .int .i64 n] w (Picks R p n w) := by
  have x1 : w.cell? ⟨R.g, 1, none⟩ = some (.int .i64 p) := (cellm h.blk 1).trans rfl
  have f1 : w.frozen? ⟨R.g, 1, none⟩ = false := frozenm h.blk 1
  have hs := h.step hR.hg
  have y0 : (w.setCell ⟨R.g, 1, none⟩ (.int .i64 (p + 1 : Nat))).cell? ⟨R.g, 0, none⟩ = some (.slice R.A R.bytes.length R.c) := (cellm hs.1.blk 0).trans rfl
  have e1 : ((p + 1 : Nat) : Int) = (p : Int) + 1 := by omega
  rw [e1] at y0
  simp only [e1] at hs
  by_cases h1 : n < 1
  · replace hs := Lib.hid hs
    replace e1 := Lib.hid e1
    clear h hR hn y0
    go_enter Try.func70, Try.ntmps70
    go_wp2_with fail
    go_ret
    exact ⟨0, rfl, by omega, .inr rfl, hs.out.1, hs.out.2⟩
  · have hb : R.bytes = [] := hn.resolve_left h1
    have hb' : ((R.bytes.length : Nat) : Int) = 0 := by rw [hb]; rfl
    replace hs := Lib.hid hs
    replace e1 := Lib.hid e1
    replace hb := Lib.hid hb
    clear h hR hn
    go_enter Try.func70, Try.ntmps70
    go_wp2_with fail
    go_ret
    exact ⟨0, rfl, by omega, .inr rfl, hs.out.1, hs.out.2⟩

set_option maxHeartbeats 1000000 in
theorem pick_some (R : RdEnv) (hR : R.Good) (p : Nat) (hp : p ≤ 1000000) (n : Int) (w : World) (h : RdAt R p w) (hn : 1 ≤ n) (hb : R.bytes ≠ []) :
    Calls Try.prog 70 #[.pointer (some ⟨R.g, 0, none⟩), .int .i64 n] w (Picks R p n w) := by
  have x1 : w.cell? ⟨R.g, 1, none⟩ = some (.int .i64 p) := (cellm h.blk 1).trans rfl
  have f1 : w.frozen? ⟨R.g, 1, none⟩ = false := frozenm h.blk 1
  have hs := h.step hR.hg
  have hlen := hR.len
  have hpos : 0 < R.bytes.length := by
    cases hb2 : R.bytes with
    | nil => exact absurd hb2 hb
    | cons x l => simp
  have hb' : (((R.bytes.length : Nat) : Int) == 0) = false := by simp; omega
  have e1 : ((p + 1 : Nat) : Int) = (p : Int) + 1 := by omega
  simp only [e1] at hs
  obtain ⟨w1, hw1⟩ : ∃ w1, w.setCell ⟨R.g, 1, none⟩ (.int .i64 ((p : Int) + 1)) = w1 := ⟨_, rfl⟩
  rw [hw1] at hs
  have y0 : w1.cell? ⟨R.g, 0, none⟩ = some (.slice R.A R.bytes.length R.c) := (cellm hs.1.blk 0).trans rfl
  have y1 : w1.cell? ⟨R.g, 1, none⟩ = some (.int .i64 ((p : Int) + 1)) := by have := (cellm hs.1.blk 1).trans rfl; rw [e1] at this; exact this
  have hcell := fun (w2 : World) (hb2 : Below R.B R.w0 w2) (hB2 : R.B ≤ w2.heap.size) (i : Nat) (hi : i < R.bytes.length) => hR.row.at hb2 hB2 i hi
  by_cases hlt : p < R.bytes.length
  · obtain ⟨b, o, e2, hbl, hc⟩ := hcell w1 hs.1.below hs.1.size p hlt
    have hby := hR.byte _ (List.getElem_mem hlt)
    generalize hx : R.bytes[p] = x at *
    replace hs := Lib.hid hs
    replace e1 := Lib.hid e1
    replace hx := Lib.hid hx
    replace hcell := Lib.hid hcell
    clear h hR hb
    go_enter Try.func70, Try.ntmps70
    go_wp2_with fail
    go_ret
    exact ⟨_, rfl, Int.emod_nonneg _ (by omega), .inl (Int.emod_lt_of_pos _ (by omega)), hs.out.1, hs.out.2⟩
  · have hL0 : (0 : Int) < (R.bytes.length : Int) := by omega
    have hi1 : p % R.bytes.length < R.bytes.length := Nat.mod_lt _ hpos
    have hi2 : (p * 7 + 3) % R.bytes.length < R.bytes.length := Nat.mod_lt _ hpos
    obtain ⟨b, o, e2, hbl, hc1⟩ := hcell w1 hs.1.below hs.1.size _ hi1
    obtain ⟨b', o', e3, _, hc2⟩ := hcell w1 hs.1.below hs.1.size _ hi2
    rw [e2] at e3
    cases e3
    have hby1 := hR.byte _ (List.getElem_mem hi1)
    have hby2 := hR.byte _ (List.getElem_mem hi2)
    generalize hx : R.bytes[p % R.bytes.length] = x at *
    generalize hy : R.bytes[(p * 7 + 3) % R.bytes.length] = y at *
    have j1 : 0 ≤ (p : Int) % (R.bytes.length : Int) := Int.emod_nonneg _ (by omega)
    have j2 : (p : Int) % (R.bytes.length : Int) < (R.bytes.length : Int) := Int.emod_lt_of_pos _ hL0
    have j3 : 0 ≤ ((p : Int) * 7 + 3) % (R.bytes.length : Int) := Int.emod_nonneg _ (by omega)
    have j4 : ((p : Int) * 7 + 3) % (R.bytes.length : Int) < (R.bytes.length : Int) := Int.emod_lt_of_pos _ hL0
    have j5 : 0 ≤ (p : Int) / (R.bytes.length : Int) := Int.ediv_nonneg (by omega) (by omega)
    have j6 : (p : Int) / (R.bytes.length : Int) ≤ (p : Int) := Int.ediv_le_self _ (by omega)
    replace hs := Lib.hid hs
    replace e1 := Lib.hid e1
    replace hx := Lib.hid hx
    replace hy := Lib.hid hy
    replace hcell := Lib.hid hcell
    clear h hR hb
    go_enter Try.func70, Try.ntmps70
    go_wp2_with fail
    go_quiet (fail)
    go_wp2_with fail
    go_ret
    have hj7 : (p : Int) / (R.bytes.length : Int) * 53 ≤ 53000000 := by omega
    have hx := xor_tmod (x * 131 + y * 1117 + (p : Int) * 29 + (p : Int) / (R.bytes.length : Int) * 53) n (by omega) (by omega) hn
    exact ⟨_, rfl, hx.1, .inl hx.2, hs.out.1.drewN _, hs.out.2.drewN _⟩

theorem pick_calls (R : RdEnv) (hR : R.Good) (p : Nat) (hp : p ≤ 1000000) (n : Int) (w : World) (h : RdAt R p w) :
    Calls Try.prog 70 #[.pointer (some ⟨R.g, 0, none⟩), .int .i64 n] w (Picks R p n w) := by
  by_cases hn : 1 ≤ n
  · by_cases hb : R.bytes = []
    · exact pick_zero R hR p hp n w h (.inr hb)
    · exact pick_some R hR p hp n w h hn hb
  · exact pick_zero R hR p hp n w h (.inl (by omega))
end Go.Proofs.Ytpccgdkidnkppaa
