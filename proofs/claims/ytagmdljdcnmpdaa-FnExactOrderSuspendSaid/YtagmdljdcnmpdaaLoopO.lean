import Derived.Test.YtagmdljdcnmpdaaObj
import Derived.Test.YtagmdljdcnmpdaaSpecKey2
set_option linter.unusedVariables false
set_option linter.unusedSimpArgs false
namespace Go.Proofs.Ytagmdljdcnmpdaa
open Go Go.RowKit

/-- the last one is taken off a row -/
theorem ObjAt.pop_row {B : Nat} {w0 : World} {m : Nat} {T : TypeId} {cs : Array Value} {ps : List Part} {w : World} (h : ObjAt B w0 m T cs ps w) (i j : Nat) {e : TypeId} {v : Value} {u : List Int} {k : Int} (hi : ps[i]? = some (rowP B e 1 v (u ++ [k]).length (ints (u ++ [k])))) :
    ∃ g co, v = .slice (some ⟨g, 0, none⟩) (u.length + 1) co ∧ u.length + 1 ≤ co ∧ co ≤ maxLen ∧ g < w.heap.size ∧ B ≤ g ∧
      ObjAt B w0 m T (cs.setIfInBounds j (.slice (some ⟨g, 0, none⟩) u.length co)) (ps.set i (rowP B e 1 (.slice (some ⟨g, 0, none⟩) u.length co) u.length (ints u))) (w.setCell ⟨m, j, none⟩ (.slice (some ⟨g, 0, none⟩) u.length co)) ∧
        Turn (Foot m ps) (Foot m (ps.set i (rowP B e 1 (.slice (some ⟨g, 0, none⟩) u.length co) u.length (ints u)))) w (w.setCell ⟨m, j, none⟩ (.slice (some ⟨g, 0, none⟩) u.length co)) := by
  have hoo := h.row i hi
  have e1 : (u ++ [k]).length = u.length + 1 := by simp
  rw [ints_append, e1] at hoo
  obtain ⟨g, co, hvo, hBg, hgl⟩ := hoo.form (by omega)
  subst hvo
  have hm : u.length + 1 ≤ co ∧ co ≤ maxLen := by
    rcases hoo.2 with ⟨e, _⟩ | ⟨_, _, _, e, _, _, hc, hm, _⟩
    · cases e
    · cases e; exact ⟨hc, hm⟩
  have hpop := ownsRow_pop (by simp [ints]) hoo
  rw [ints_append, e1] at hi
  obtain ⟨h1, h2⟩ := h.set_row i j hi (World.grownBy.refl _ _) hpop (fun b hb => .inl hb)
  exact ⟨g, co, rfl, hm.1, hm.2, hgl, hBg, h1, h2⟩

/-- between two fetches of a task: an object that is worked on, and a row of what was got -/
structure LpO (B : Nat) (w0 : World) (m : Nat) (T : TypeId) (cs : Array Value) (ps : List Part) (w : World) (F : Nat → Prop) (got : List Int) (vg : Value) (wr : World) : Prop where
  ob : ObjAt B w0 m T cs ps wr
  own : wr.ownsRow w.heap.size 3 1 vg got.length (ints got)
  far : ∀ i, vg.ownBlock = some i → ¬ Foot m ps i
  vals : ∀ x ∈ got, 0 ≤ x ∧ x ≤ 96
  turn : Turn F (Foot m ps) w wr
  low : B ≤ w.heap.size
section
variable {B : Nat} {w0 : World} {m : Nat} {T : TypeId} {cs cs2 : Array Value} {ps ps2 : List Part} {w wr w2 : World} {F : Nat → Prop} {got : List Int} {vg v' : Value}
theorem LpO.up (h : LpO B w0 m T cs ps w F got vg wr) (hb : Below wr.heap.size wr w2) : LpO B w0 m T cs ps w F got vg w2 :=
  ⟨h.ob.up hb, ownsRow_block h.own (fun i hi => hb.block i (h.own.lt i hi).2), h.far, h.vals, h.turn.trans (below_turn hb), h.low⟩
theorem LpO.key (h : LpO B w0 m T cs ps w F got vg wr) (hs : ObjAt B w0 m T cs2 ps2 w2) (t : Turn (Foot m ps) (Foot m ps2) wr w2) : LpO B w0 m T cs2 ps2 w F got vg w2 :=
  ⟨hs, ownsRow_block h.own (fun i hi => t.block i (h.own.lt i hi).2 (h.far i hi)), fun i hi hf => (t.fresh i hf).elim (h.far i hi) (fun e => by have := (h.own.lt i hi).2; omega), h.vals, h.turn.trans t, h.low⟩
theorem LpO.app (h : LpO B w0 m T cs ps w F got vg wr) {o : Obj} {x : Int} (hg : (wr.alloc o).grownBy w2 vg.ownBlock) (ho : w2.ownsRow w.heap.size 3 1 v' (got.length + 1) (ints got ++ [.int .i64 x])) (hx : 0 ≤ x ∧ x ≤ 96)
    (hat : ∀ i, v'.ownBlock = some i → vg.ownBlock = some i ∨ wr.heap.size ≤ i) : LpO B w0 m T cs ps w F (got ++ [x]) v' w2 := by
  have ha := h.ob.alloc o
  have t : Turn (fun i => vg.ownBlock = some i) (fun i => vg.ownBlock = some i) (wr.alloc o) w2 := grown_turn hg (fun k hk => hk) (fun i hi => .inl hi)
  exact ⟨ha.aside t (fun i hi => ⟨Nat.le_trans h.low (h.own.lt i hi).1, h.far i hi⟩), by simpa [ints_append, ints] using ho, fun i hi hf => (hat i hi).elim (fun e => h.far i e hf) (fun e => by have := (h.ob.bounds i hf).2; omega),
    fun y hy => (List.mem_append.1 hy).elim (h.vals y) (fun e => by rw [List.mem_singleton.1 e]; exact hx), (h.turn.alloc o).grown_new hg (fun i hi => (h.own.lt i hi).1), h.low⟩
theorem LpO.start (h : ObjAt B w0 m T cs ps wr) (t : Turn F (Foot m ps) w wr) (hl : B ≤ w.heap.size) : LpO B w0 m T cs ps w F [] (.slice (some ⟨wr.heap.size, 0, none⟩) 0 0) (wr.alloc (.cells #[] 3 (0, 0))) :=
  ⟨h.alloc _, by simpa [ints] using World.ownsRow_made (base := w.heap.size) wr #[] 0 t.size (by simp [maxLen]) rfl, fun i hi hf => (by cases hi; exact Nat.lt_irrefl _ (h.bounds _ hf).2), fun x hx => (by cases hx), t.alloc _, hl⟩
end

set_option maxHeartbeats 1000000 in
theorem l2Has_calls (A : Option Addr) (c : Nat) (xs : List Int) (x : Int) (B : Nat) (w0 w : World) (hb : Below B w0 w) (hB : B ≤ w.heap.size) (hl : xs.length ≤ maxLen) (hx : IntsAt B w0 A xs) :
    Calls Try.prog 91 #[.slice A xs.length c, .int .i64 x] w fun e w' => e = .returned (.bool (xs.contains x)) ∧ w = w' := by
  unfold maxLen at hl
  replace hx := Lib.hid hx
  replace hb := Lib.hid hb
  go_enter Try.func91, Try.ntmps91
  go_wp2_with fail
  go_loopw [5] (fun i wr => ∃ (j : Nat), j ≤ xs.length ∧ i = .int .i64 j ∧ wr = w ∧ Hid (x ∉ xs.take j)) (fun i _ => xs.length - (intOf i).toNat)
  case atStart => exact ⟨0, Nat.zero_le _, rfl, rfl, Lib.hid (by simp)⟩
  case round =>
    obtain ⟨j, hj, rfl, rfl, hno⟩ := hrel
    by_cases hlt : j < xs.length
    · obtain ⟨b, o, rfl, hbl, y⟩ := hx.out.at hb.out hB j hlt
      by_cases e : xs[j] = x
      · have e' : (xs[j] == x) = true := by simp [e]
        have hr : xs.contains x = true := by rw [← e]; simp
        replace e := Lib.hid e
        replace hr := Lib.hid hr
        go_wp2_with fail
        go_ret
        exact ⟨by rw [hr.out]; rfl, rfl⟩
      · have e' : (xs[j] == x) = false := by simp [e]
        have hno2 : x ∉ xs.take (j + 1) := by
          rw [List.take_succ_eq_append_getElem hlt, List.mem_append, List.mem_singleton]
          exact fun h => h.elim hno.out (fun h => e h.symm)
        replace e := Lib.hid e
        replace hno2 := Lib.hid hno2
        go_wp2_with fail
        go_roundw
        case rel => exact ⟨j + 1, by omega, by go_num, by first | rfl | trivial, hno2⟩
        case measure => simp [intOf]; omega
    · have hr : xs.contains x = false := by
        have := hno.out
        rw [List.take_of_length_le (by omega)] at this
        simpa using this
      replace hr := Lib.hid hr
      go_wp2_with fail
      go_ret
      exact ⟨by rw [hr.out]; rfl, rfl⟩
end Go.Proofs.Ytagmdljdcnmpdaa
