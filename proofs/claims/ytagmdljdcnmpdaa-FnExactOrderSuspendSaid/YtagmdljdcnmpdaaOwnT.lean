import Derived.Test.YtagmdljdcnmpdaaPick
set_option linter.unusedVariables false
set_option linter.unusedSimpArgs false
namespace Go.Proofs.Ytagmdljdcnmpdaa
open Go Go.RowKit

theorem PartsIs.of_get {B : Nat} {w : World} {A : Option Addr} : ∀ {ps : List Task} {k : Nat}, (∀ i (h : i < ps.length), ∃ b o x y z, A = some ⟨b, o, none⟩ ∧ b < B ∧ w.cell? ⟨b, o + (k + i) * 3, none⟩ = some x ∧ w.cell? ⟨b, o + (k + i) * 3 + 1, none⟩ = some y ∧
      w.cell? ⟨b, o + (k + i) * 3 + 2, none⟩ = some z ∧ TaskIs B w (.agg #[x, y, z]) ps[i]) → PartsIs B w A k ps := by
  intro ps
  induction ps with
  | nil => intro k _; rw [PartsIs]; trivial
  | cons t ts ih =>
    intro k h
    rw [PartsIs]
    refine ⟨?_, ih (fun i hi => ?_)⟩
    · obtain ⟨b, o, x, y, z, e, hb, h1, h2, h3, h4⟩ := h 0 (by simp)
      exact ⟨b, o, x, y, z, e, hb, by simpa using h1, by simpa using h2, by simpa using h3, h4⟩
    · obtain ⟨b, o, x, y, z, e, hb, h1, h2, h3, h4⟩ := h (i + 1) (by simpa using hi)
      rw [show k + (i + 1) = k + 1 + i from by omega] at h1 h2 h3
      exact ⟨b, o, x, y, z, e, hb, h1, h2, h3, h4⟩

/-- a task that is owned: all its rows of parts are in blocks of their own, from B on; d: more than its depth -/
def OwnT : Nat → World → Nat → Value → Task → List Nat → Prop
  | 0, _, _, _, _, _ => False
  | d + 1, w, B, v, T, L => ∃ A c, v = .agg #[.int .i64 T.kind, .int .i64 T.n, .slice A T.parts.length c] ∧ T.parts.length ≤ c ∧ c ≤ maxLen ∧ L.Nodup ∧
      ((T.parts = [] ∧ L = []) ∨ ∃ (b : Nat) (cs : Array Value) (Ls : List (List Nat)), A = some ⟨b, 0, none⟩ ∧ B ≤ b ∧ w.heap[b]? = some (.cells cs 36 (0, 0)) ∧ Ls.length = T.parts.length ∧ L = b :: Ls.flatten ∧
        ∀ i (h : i < T.parts.length), ∃ x y z, cs[i * 3]? = some x ∧ cs[i * 3 + 1]? = some y ∧ cs[i * 3 + 2]? = some z ∧ OwnT d w B (.agg #[x, y, z]) T.parts[i] (Ls.getD i []))

theorem getD_mem_flatten {Ls : List (List Nat)} {i b : Nat} (h : b ∈ Ls.getD i []) : b ∈ Ls.flatten := by
  by_cases hi : i < Ls.length
  · rw [getD_at _ hi] at h
    exact List.mem_flatten.2 ⟨_, List.getElem_mem hi, h⟩
  · rw [getD_out _ (by omega)] at h; cases h
theorem OwnT.keep {w w' : World} {B : Nat} : ∀ {d : Nat} {v : Value} {T : Task} {L : List Nat}, OwnT d w B v T L → (∀ b ∈ L, w'.heap[b]? = w.heap[b]?) → OwnT d w' B v T L := by
  intro d
  induction d with
  | zero => intro v T L h; exact h.elim
  | succ d ih =>
    intro v T L h hk
    obtain ⟨A, c, e, hc, hm, hn, h⟩ := h
    refine ⟨A, c, e, hc, hm, hn, h.imp id ?_⟩
    rintro ⟨b, cs, Ls, rfl, hB, hb, hl, rfl, hi⟩
    refine ⟨b, cs, Ls, rfl, hB, (hk b (by simp)).trans hb, hl, rfl, fun i h => ?_⟩
    obtain ⟨x, y, z, h1, h2, h3, h4⟩ := hi i h
    exact ⟨x, y, z, h1, h2, h3, ih h4 (fun b' hb' => hk b' (List.mem_cons_of_mem _ (getD_mem_flatten hb')))⟩
theorem OwnT.lt {w : World} {B : Nat} : ∀ {d : Nat} {v : Value} {T : Task} {L : List Nat}, OwnT d w B v T L → ∀ b ∈ L, B ≤ b ∧ b < w.heap.size := by
  intro d
  induction d with
  | zero => intro v T L h; exact h.elim
  | succ d ih =>
    intro v T L h b hb
    obtain ⟨A, c, e, hc, hm, hn, h⟩ := h
    rcases h with ⟨_, rfl⟩ | ⟨b', cs, Ls, rfl, hB, hb', hl, rfl, hi⟩
    · cases hb
    · rcases List.mem_cons.1 hb with rfl | hb
      · exact ⟨hB, block_lt hb'⟩
      · obtain ⟨l, hl', hbl⟩ := List.mem_flatten.1 hb
        obtain ⟨i, hi', rfl⟩ := List.getElem_of_mem hl'
        obtain ⟨x, y, z, _, _, _, h4⟩ := hi i (by omega)
        rw [getD_at _ hi'] at h4
        exact ih h4 b hbl
theorem OwnT.mono {w : World} {B B' : Nat} (hB : B' ≤ B) : ∀ {d : Nat} {v : Value} {T : Task} {L : List Nat}, OwnT d w B v T L → OwnT d w B' v T L := by
  intro d
  induction d with
  | zero => intro v T L h; exact h.elim
  | succ d ih =>
    intro v T L h
    obtain ⟨A, c, e, hc, hm, hn, h⟩ := h
    refine ⟨A, c, e, hc, hm, hn, h.imp id ?_⟩
    rintro ⟨b, cs, Ls, rfl, hB', hb, hl, rfl, hi⟩
    refine ⟨b, cs, Ls, rfl, by omega, hb, hl, rfl, fun i h => ?_⟩
    obtain ⟨x, y, z, h1, h2, h3, h4⟩ := hi i h
    exact ⟨x, y, z, h1, h2, h3, ih h4⟩
theorem OwnT.deeper {w : World} {B : Nat} : ∀ {d : Nat} {v : Value} {T : Task} {L : List Nat}, OwnT d w B v T L → OwnT (d + 1) w B v T L := by
  intro d
  induction d with
  | zero => intro v T L h; exact h.elim
  | succ d ih =>
    intro v T L h
    obtain ⟨A, c, e, hc, hm, hn, h⟩ := h
    refine ⟨A, c, e, hc, hm, hn, h.imp id ?_⟩
    rintro ⟨b, cs, Ls, rfl, hB', hb, hl, rfl, hi⟩
    refine ⟨b, cs, Ls, rfl, hB', hb, hl, rfl, fun i h => ?_⟩
    obtain ⟨x, y, z, h1, h2, h3, h4⟩ := hi i h
    exact ⟨x, y, z, h1, h2, h3, ih h4⟩
theorem OwnT.turn {w w' : World} {B g d : Nat} {v : Value} {T : Task} {L : List Nat} {F' : Nat → Prop} (h : OwnT d w B v T L) (t : Turn (· = g) F' w w') (hg : g < B) : OwnT d w' B v T L :=
  h.keep (fun b hb => t.block b (h.lt b hb).2 (fun e => by have := (h.lt b hb).1; omega))
theorem OwnT.alloc {w : World} {B d : Nat} {v : Value} {T : Task} {L : List Nat} (h : OwnT d w B v T L) (o : Obj) : OwnT d (w.alloc o) B v T L :=
  h.keep (fun b hb => heap_old (h.lt b hb).2)
/-- a task that is owned reads as one -/
theorem OwnT.reads {w : World} {B : Nat} : ∀ {d : Nat} {v : Value} {T : Task} {L : List Nat}, OwnT d w B v T L → TaskIs w.heap.size w v T := by
  intro d
  induction d with
  | zero => intro v T L h; exact h.elim
  | succ d ih =>
    intro v T L h
    obtain ⟨A, c, e, hc, hm, hn, h⟩ := h
    cases T with
    | mk k n ps =>
      simp only [Task.kind, Task.n, Task.parts] at *
      rw [TaskIs]
      refine ⟨A, c, e, hc, hm, ?_⟩
      rcases h with ⟨rfl, _⟩ | ⟨b, cs, Ls, rfl, hB, hb, hl, rfl, hi⟩
      · rw [PartsIs]; trivial
      · refine PartsIs.of_get (fun i h => ?_)
        obtain ⟨x, y, z, h1, h2, h3, h4⟩ := hi i h
        exact ⟨b, 0, x, y, z, rfl, block_lt hb, by rw [cellm hb]; simpa using h1, by rw [cellm hb]; simpa using h2, by rw [cellm hb]; simpa using h3, ih h4⟩

theorem okcode (R : Prop) : R → R := id

theorem RdAt.up {R : RdEnv} {p : Nat} {w w' : World} (h : RdAt R p w) (hw : Below w.heap.size w w') : RdAt R p w' :=
  ⟨(hw.block _ (block_lt h.blk)).trans h.blk, below_up' h.below h.size hw, Nat.le_trans h.size hw.size⟩
theorem RdAt.kept {R : RdEnv} {p : Nat} {w w' : World} (h : RdAt R p w) (hk : w'.heap[R.g]? = w.heap[R.g]?) (hb : Below R.B R.w0 w') (hs : R.B ≤ w'.heap.size) : RdAt R p w' := ⟨hk.trans h.blk, hb, hs⟩

set_option maxHeartbeats 1000000 in
theorem l6Open_calls (A : Option Addr) (c : Nat) (bytes : List Int) (B : Nat) (w0 w : World) (hb : Below B w0 w) (hB : B ≤ w.heap.size) (hx : RowAt (fun b : Int => Value.int .u8 b) B w0 A bytes) (hl : bytes.length ≤ c) (hc : c ≤ maxLen) (hby : ∀ b ∈ bytes, 0 ≤ b ∧ b ≤ 255) :
    Calls Try.prog 36 #[.slice A bytes.length c] w fun e w' => ∃ R : RdEnv, e = .returned (.pointer (some ⟨R.g, 0, none⟩)) ∧ R.Good ∧ R.B = B ∧ R.w0 = w0 ∧ w.heap.size ≤ R.g ∧ RdAt R 0 w' ∧ Below w.heap.size w w' := by
  have hcm := hc
  unfold maxLen at hcm
  by_cases h1 : bytes.length ≤ 2000
  · replace hx := Lib.hid hx
    replace hb := Lib.hid hb
    replace hby := Lib.hid hby
    go_enter Try.func36, Try.ntmps36
    go_wp2_with fail
    go_ret
    exact ⟨⟨A, c, bytes, B, w0, w.heap.size⟩, rfl, ⟨hx.out, h1, hl, hc, hby.out, hB⟩, rfl, rfl, Nat.le_refl _, ⟨heap_new rfl, below_al' hb.out _ hB, by simp; omega⟩, below_al (Below.refl _ _) _⟩
  · have e : (bytes.take 2000).length = 2000 := by simp; omega
    have hx' : RowAt (fun b : Int => Value.int .u8 b) B w0 A (bytes.take 2000) := fun i hi => by
      obtain ⟨b, o, e1, e2, e3⟩ := hx i (by simp at hi; omega)
      exact ⟨b, o, e1, e2, by simpa using e3⟩
    have hby' : ∀ b ∈ bytes.take 2000, 0 ≤ b ∧ b ≤ 255 := fun b hb => hby b (List.mem_of_mem_take hb)
    replace hx := Lib.hid hx
    replace hx' := Lib.hid hx'
    replace hb := Lib.hid hb
    replace hby := Lib.hid hby
    replace hby' := Lib.hid hby'
    replace e := Lib.hid e
    go_enter Try.func36, Try.ntmps36
    go_wp2_with fail
    go_ret
    refine ⟨⟨A, c, bytes.take 2000, B, w0, w.heap.size⟩, rfl, ⟨hx'.out, by simp only []; rw [e.out]; omega, by simp only []; rw [e.out]; omega, hc, hby'.out, hB⟩, rfl, rfl, Nat.le_refl _, ⟨?_, below_al' hb.out _ hB, by simp; omega⟩, below_al (Below.refl _ _) _⟩
    simp only []
    rw [e.out]
    exact heap_new rfl
end Go.Proofs.Ytagmdljdcnmpdaa
