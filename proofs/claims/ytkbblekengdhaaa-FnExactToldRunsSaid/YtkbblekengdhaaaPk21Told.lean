import Derived.Laws.MakeOwn
import Derived.Test.YtkbblekengdhaaaPk3Told
import Derived.Test.YtkbblekengdhaaaPk8Told
import Derived.Test.YtkbblekengdhaaaPk11Told
set_option linter.unusedVariables false
set_option linter.unusedSimpArgs false
namespace Go.Proofs.Ytkbblekengdhaaa
open Go Go.RowKit

/-! trees of tasks in blocks from lo on, below hi; ex: whether the numbers are known -/
mutual
def TN (ex : Bool) (lo hi : Nat) (w : World) : Value → Value → Value → Task → Prop
  | x, y, z, .mk k n ps => ∃ kk nn A c, x = .int .i64 kk ∧ y = .int .i64 nn ∧ z = .slice A ps.length c ∧ (ex = true → kk = k ∧ nn = n) ∧ ps.length ≤ c ∧ c ≤ maxLen ∧ TL ex lo hi w A 0 ps
def TL (ex : Bool) (lo hi : Nat) (w : World) : Option Addr → Nat → List Task → Prop
  | _, _, [] => True
  | A, i, t :: ts => (∃ b o cur T x y z, A = some ⟨b, o, none⟩ ∧ lo ≤ b ∧ b < hi ∧ w.heap[b]? = some (.cells cur T (0, 0)) ∧ cur[o + i * 3]? = some x ∧ cur[o + i * 3 + 1]? = some y ∧ cur[o + i * 3 + 2]? = some z ∧ TN ex lo hi w x y z t) ∧ TL ex lo hi w A (i + 1) ts
end
theorem TN.open {ex : Bool} {lo hi : Nat} {w : World} {x y z : Value} {t : Task} (h : TN ex lo hi w x y z t) : ∃ kk nn A c, x = .int .i64 kk ∧ y = .int .i64 nn ∧ z = .slice A t.parts.length c ∧ (ex = true → kk = t.kind ∧ nn = t.n) ∧ t.parts.length ≤ c ∧ c ≤ maxLen ∧ TL ex lo hi w A 0 t.parts := by
  cases t with
  | mk k n ps => rw [TN] at h; exact h
theorem TN.shut {ex : Bool} {lo hi : Nat} {w : World} {kk nn : Int} {A : Option Addr} {c : Nat} {t : Task} (h1 : ex = true → kk = t.kind ∧ nn = t.n) (h2 : t.parts.length ≤ c) (h3 : c ≤ maxLen) (h4 : TL ex lo hi w A 0 t.parts) : TN ex lo hi w (.int .i64 kk) (.int .i64 nn) (.slice A t.parts.length c) t := by
  cases t with
  | mk k n ps => rw [TN]; exact ⟨kk, nn, A, c, rfl, rfl, rfl, h1, h2, h3, h4⟩
theorem TL.get {ex : Bool} {lo hi : Nat} {w : World} {A : Option Addr} : ∀ {ps : List Task} {k : Nat}, TL ex lo hi w A k ps → ∀ i (h : i < ps.length), ∃ b o cur T x y z, A = some ⟨b, o, none⟩ ∧ lo ≤ b ∧ b < hi ∧ w.heap[b]? = some (.cells cur T (0, 0)) ∧ cur[o + (k + i) * 3]? = some x ∧ cur[o + (k + i) * 3 + 1]? = some y ∧ cur[o + (k + i) * 3 + 2]? = some z ∧ TN ex lo hi w x y z ps[i] := by
  intro ps
  induction ps with
  | nil => intro k _ i hi; simp at hi
  | cons t ts ih =>
    intro k h i hi
    rw [TL] at h
    cases i with
    | zero => exact h.1
    | succ i =>
      have := ih h.2 i (by simpa using hi)
      rw [show k + 1 + i = k + (i + 1) by omega] at this
      exact this
theorem TL.of {ex : Bool} {lo hi : Nat} {w : World} {A : Option Addr} : ∀ {ps : List Task} {k : Nat}, (∀ i (h : i < ps.length), ∃ b o cur T x y z, A = some ⟨b, o, none⟩ ∧ lo ≤ b ∧ b < hi ∧ w.heap[b]? = some (.cells cur T (0, 0)) ∧ cur[o + (k + i) * 3]? = some x ∧ cur[o + (k + i) * 3 + 1]? = some y ∧ cur[o + (k + i) * 3 + 2]? = some z ∧ TN ex lo hi w x y z ps[i]) → TL ex lo hi w A k ps := by
  intro ps
  induction ps with
  | nil => intro k _; rw [TL]; trivial
  | cons t ts ih =>
    intro k h
    rw [TL]
    refine ⟨h 0 (by simp), ih fun i hi => ?_⟩
    have := h (i + 1) (by simpa using hi)
    rw [show k + (i + 1) = k + 1 + i by omega] at this
    exact this
mutual
theorem TN.kept {ex : Bool} {lo hi lo' hi' : Nat} {w w' : World} (hk : ∀ b, lo ≤ b → b < hi → w'.heap[b]? = w.heap[b]?) (hl : lo' ≤ lo) (hh : hi ≤ hi') : ∀ (t : Task) (x y z : Value), TN ex lo hi w x y z t → TN ex lo' hi' w' x y z t
  | .mk k n ps, x, y, z, h => by
    rw [TN] at h ⊢
    obtain ⟨kk, nn, A, c, e1, e2, e3, h1, h2, h3, h4⟩ := h
    exact ⟨kk, nn, A, c, e1, e2, e3, h1, h2, h3, TL.kept hk hl hh ps A 0 h4⟩
theorem TL.kept {ex : Bool} {lo hi lo' hi' : Nat} {w w' : World} (hk : ∀ b, lo ≤ b → b < hi → w'.heap[b]? = w.heap[b]?) (hl : lo' ≤ lo) (hh : hi ≤ hi') : ∀ (ps : List Task) (A : Option Addr) (i : Nat), TL ex lo hi w A i ps → TL ex lo' hi' w' A i ps
  | [], A, i, _ => by rw [TL]; trivial
  | t :: ts, A, i, h => by
    rw [TL] at h ⊢
    obtain ⟨⟨b, o, cur, T, x, y, z, e, h1, h2, h3, h4, h5, h6, h7⟩, h8⟩ := h
    exact ⟨⟨b, o, cur, T, x, y, z, e, by omega, by omega, (hk b h1 h2).trans h3, h4, h5, h6, TN.kept hk hl hh t x y z h7⟩, TL.kept hk hl hh ts A (i + 1) h8⟩
end
mutual
theorem TN.weak {lo hi : Nat} {w : World} : ∀ (t : Task) (x y z : Value), TN true lo hi w x y z t → TN false lo hi w x y z t
  | .mk k n ps, x, y, z, h => by
    rw [TN] at h ⊢
    obtain ⟨kk, nn, A, c, e1, e2, e3, h1, h2, h3, h4⟩ := h
    exact ⟨kk, nn, A, c, e1, e2, e3, (fun h => by cases h), h2, h3, TL.weak ps A 0 h4⟩
theorem TL.weak {lo hi : Nat} {w : World} : ∀ (ps : List Task) (A : Option Addr) (i : Nat), TL true lo hi w A i ps → TL false lo hi w A i ps
  | [], A, i, _ => by rw [TL]; trivial
  | t :: ts, A, i, h => by
    rw [TL] at h ⊢
    obtain ⟨⟨b, o, cur, T, x, y, z, e, h1, h2, h3, h4, h5, h6, h7⟩, h8⟩ := h
    exact ⟨⟨b, o, cur, T, x, y, z, e, h1, h2, h3, h4, h5, h6, TN.weak t x y z h7⟩, TL.weak ts A (i + 1) h8⟩
end
mutual
theorem TN.is {lo hi B : Nat} {w : World} (hB : hi ≤ B) : ∀ (t : Task) (x y z : Value), TN true lo hi w x y z t → TaskIs B w (.agg #[x, y, z]) t
  | .mk k n ps, x, y, z, h => by
    rw [TN] at h
    rw [TaskIs]
    obtain ⟨kk, nn, A, c, rfl, rfl, rfl, h1, h2, h3, h4⟩ := h
    obtain ⟨rfl, rfl⟩ := h1 rfl
    exact ⟨A, c, rfl, h2, h3, TL.parts hB ps A 0 h4⟩
theorem TL.parts {lo hi B : Nat} {w : World} (hB : hi ≤ B) : ∀ (ps : List Task) (A : Option Addr) (i : Nat), TL true lo hi w A i ps → PartsIs B w A i ps
  | [], A, i, _ => by rw [PartsIs]; trivial
  | t :: ts, A, i, h => by
    rw [TL] at h
    rw [PartsIs]
    obtain ⟨⟨b, o, cur, T, x, y, z, e, h1, h2, h3, h4, h5, h6, h7⟩, h8⟩ := h
    exact ⟨⟨b, o, x, y, z, e, by omega, (cellm h3 _).trans h4, (cellm h3 _).trans h5, (cellm h3 _).trans h6, TN.is hB t x y z h7⟩, TL.parts hB ts A (i + 1) h8⟩
end
theorem cur_put {cur : Array Value} {j q : Nat} {u v old : Value} (hj : cur[j]? = some old) (hq : cur[q]? = some v) : (cur.setIfInBounds j u)[q]? = some (if q = j then u else v) := by
  have hlt := (Array.getElem?_eq_some_iff.1 hq).1
  rw [Array.getElem?_setIfInBounds]
  by_cases e : j = q
  · subst e; simp [hlt]
  · rw [if_neg e, if_neg (fun h => e h.symm), hq]
theorem TL.put_of {lo hi : Nat} {w : World} {b j : Nat} {cur : Array Value} {T : TypeId} {n0 : Int} (hb : w.heap[b]? = some (.cells cur T (0, 0))) (hj : cur[j]? = some (.int .i64 n0)) (n1 : Int) (ps : List Task)
    (ih : ∀ p ∈ ps, ∀ x y z, TN false lo hi w x y z p → TN false lo hi (w.setCell ⟨b, j, none⟩ (.int .i64 n1)) x y z p) (A : Option Addr) (h4 : TL false lo hi w A 0 ps) : TL false lo hi (w.setCell ⟨b, j, none⟩ (.int .i64 n1)) A 0 ps := by
  have hblk := setCell_block hb j (.int .i64 n1)
  have hfar := fun b' (hne : b' ≠ b) => setCell_far (w := w) (j := j) (v := .int .i64 n1) hne
  generalize w.setCell ⟨b, j, none⟩ (.int .i64 n1) = w' at *
  refine TL.of fun i hi => ?_
  obtain ⟨b', o, cur', T', x, y, z, e, g1, g2, g3, g4, g5, g6, g7⟩ := h4.get i hi
  have g7' := ih _ (List.getElem_mem hi) _ _ _ g7
  by_cases eb : b' = b
  · subst eb
    rw [g3] at hb
    cases hb
    obtain ⟨kk', nn', A', c', rfl, rfl, rfl, -⟩ := g7.open
    have ne : ¬ o + (0 + i) * 3 + 2 = j := fun e => by rw [e, hj] at g6; cases g6
    have c0 := cur_put (u := .int .i64 n1) hj g4
    have c1 := cur_put (u := .int .i64 n1) hj g5
    have c2 := cur_put (u := .int .i64 n1) hj g6
    rw [if_neg ne] at c2
    rw [← apply_ite (Value.int .i64)] at c0 c1
    obtain ⟨q1, q2, q3, q4, e1, e2, e3, p1, p2, p3, p4⟩ := g7'.open
    cases e1; cases e2; cases e3
    exact ⟨b', o, _, _, _, _, _, e, g1, g2, hblk, c0, c1, c2, TN.shut (fun h => by cases h) p2 p3 p4⟩
  · exact ⟨b', o, cur', T', x, y, z, e, g1, g2, (hfar b' eb).trans g3, g4, g5, g6, g7'⟩
/-- a number is written where a number stands: the shape stays -/
theorem TN.put {lo hi : Nat} {w : World} {b j : Nat} {cur : Array Value} {T : TypeId} {n0 : Int} (hb : w.heap[b]? = some (.cells cur T (0, 0))) (hj : cur[j]? = some (.int .i64 n0)) (n1 : Int) : ∀ (t : Task) (x y z : Value), TN false lo hi w x y z t → TN false lo hi (w.setCell ⟨b, j, none⟩ (.int .i64 n1)) x y z t := by
  refine Task.ind ?_
  intro k n ps ih x y z h
  obtain ⟨kk, nn, A, c, rfl, rfl, rfl, h1, h2, h3, h4⟩ := h.open
  exact TN.shut h1 h2 h3 (TL.put_of hb hj n1 ps ih A h4)
theorem TL.put {lo hi : Nat} {w : World} {b j : Nat} {cur : Array Value} {T : TypeId} {n0 : Int} (hb : w.heap[b]? = some (.cells cur T (0, 0))) (hj : cur[j]? = some (.int .i64 n0)) (n1 : Int) (ps : List Task) (A : Option Addr) (h : TL false lo hi w A 0 ps) : TL false lo hi (w.setCell ⟨b, j, none⟩ (.int .i64 n1)) A 0 ps :=
  TL.put_of hb hj n1 ps (fun p _ => TN.put hb hj n1 p) A h
theorem TL.up {ex : Bool} {lo : Nat} {w w' : World} {A : Option Addr} {i : Nat} {ps : List Task} (h : TL ex lo w.heap.size w A i ps) (hb : Below w.heap.size w w') : TL ex lo w'.heap.size w' A i ps :=
  TL.kept (fun b _ hlt => hb.block b hlt) (Nat.le_refl _) hb.size ps A i h
/-- make of a row of tasks -/
theorem make_tasks (n : Nat) (hn : n ≤ 1048576) : ∀ W : World, (Instr.makeSlice 24 (.int .i64 (n : Int)) (.int .i64 (n : Int))).run Try.prog W = .ok (.slice (some ⟨W.heap.size, 0, none⟩) n n) (W.alloc (.cells (madeCells #[.int .i64 0, .int .i64 0, .slice none 0 0] (n * 3)) 39)) := by
  intro W
  have hinfo : (Try.prog.info? 39).map (fun i => (i.zero, i.size, i.bytes)) = some (some (.agg #[.int .i64 0, .int .i64 0, .slice none 0 0]), 3, 40) := by kernel_rfl
  obtain ⟨i, hi, hz, hs, hb⟩ := info_parts hinfo
  have hr := run_make (P := Try.prog) W 24 39 i (.agg #[.int .i64 0, .int .i64 0, .slice none 0 0]) Try.underlying24 hi hz .i64 .i64 n n (by omega) (Int.le_refl _) (by rw [hb]; omega) (by omega)
  simp only [Int.toNat_natCast, hs] at hr
  exact hr
theorem parts_len : ∀ (ps : List Task), (ps.length : Int) ≤ nodesL ps
  | [] => by simp [nodesL]
  | p :: ps => by
    rw [nodesL]
    have := parts_len ps
    have := nodes_pos p
    simp; omega
theorem nodesL_at : ∀ {ps : List Task} {i : Nat} (h : i < ps.length), nodes ps[i] ≤ nodesL ps
  | [], i, h => by simp at h
  | p :: ps, i, h => by
    rw [nodesL]
    cases i with
    | zero => have := nodesL_pos ps; simp; omega
    | succ i =>
      have := nodesL_at (ps := ps) (i := i) (by simpa using h)
      have := nodes_pos p
      simp; omega
theorem nodesL_snoc : ∀ (ps : List Task) (t : Task), nodesL (ps ++ [t]) = nodesL ps + nodes t
  | [], t => by simp [nodesL]
  | p :: ps, t => by rw [List.cons_append, nodesL, nodesL, nodesL_snoc ps t]; omega
theorem nodes_parts (t : Task) : nodes t = 1 + nodesL t.parts := by cases t with | mk k n ps => rw [nodes]; rfl
end Go.Proofs.Ytkbblekengdhaaa

set_option linter.unusedVariables false
set_option linter.unusedSimpArgs false
namespace Go.Proofs.Ytkbblekengdhaaa
open Go Go.RowKit

set_option maxHeartbeats 2000000 in
theorem toIntS_calls (A : Option Addr) (c : Nat) (xs : List Int) (B : Nat) (w0 w : World) (hb : Below B w0 w) (hB : B ≤ w.heap.size) (hl : xs.length ≤ 1048576) (hx : IntsAt B w0 A xs) :
    Calls Try.prog 26 #[.slice A xs.length c] w fun e w' => e = .returned (.slice (some ⟨w.heap.size, 0, none⟩) xs.length xs.length) ∧ RowBlk (fun n : Int => Value.int .i64 n) 3 w' w.heap.size xs ∧ Below w.heap.size w w' := by
  have hmk := make_ints xs.length (by omega)
  replace hb := Lib.hid hb
  replace hx := Lib.hid hx
  go_enter Try.func26, Try.ntmps26
  go_wp2_with fail
  go_loopw [4] (fun i wr => ∃ (j : Nat), j ≤ xs.length ∧ i = .int .i64 j ∧ Hid (RowBlk (fun n : Int => Value.int .i64 n) 3 wr w.heap.size (xs.take j ++ List.replicate (xs.length - j) 0)) ∧ Hid (Below w.heap.size w wr)) (fun i _ => xs.length - (intOf i).toNat)
  case atStart => exact ⟨0, Nat.zero_le _, rfl, Lib.hid (made_blk (z := (0 : Int)) (heap_new rfl)), Lib.hid (below_al (Below.refl _ _) _)⟩
  case round =>
    obtain ⟨j, hj, rfl, hR, hw⟩ := hrel
    have hz := hR.out.lt
    by_cases hlt : j < xs.length
    · obtain ⟨b, o, rfl, hbl, y⟩ := hx.out.at (below_up' hb.out hB hw.out) (Nat.le_trans hB hw.out.size) j hlt
      have f0 := hR.out.frozen j
      have c0 := hR.out.cell (i := j) (by simp; omega)
      have hset := hR.out.set j xs[j]
      have e : (xs.take j ++ List.replicate (xs.length - j) 0).set j xs[j] = xs.take (j + 1) ++ List.replicate (xs.length - (j + 1)) 0 := by
        rw [List.set_append_right _ _ (by simp; omega), List.take_succ_eq_append_getElem hlt]
        rw [show xs.length - j = (xs.length - (j + 1)) + 1 by omega, List.replicate_succ]
        rw [show j - (xs.take j).length = 0 by simp; omega, List.set_cons_zero, List.append_assoc]; rfl
      rw [e] at hset
      have hw2 : Below w.heap.size w (wr.setCell ⟨w.heap.size, j, none⟩ ((fun n : Int => Value.int .i64 n) xs[j])) := hw.out.setCell (by simp) _
      replace hset := Lib.hid hset
      replace hw2 := Lib.hid hw2
      replace e := Lib.hid e
      go_wp2_with fail
      go_roundw
      case rel => exact ⟨j + 1, by omega, by go_num, hset, hw2⟩
      case measure => simp [intOf]; omega
    · have ej : j = xs.length := by omega
      subst ej
      have hR2 := hR.out
      rw [List.take_length, Nat.sub_self, List.replicate_zero, List.append_nil] at hR2
      replace hR2 := Lib.hid hR2
      go_wp2_with fail
      go_ret
      exact ⟨rfl, hR2.out, hw.out⟩

set_option maxHeartbeats 2000000 in
theorem toBoolS_calls (A : Option Addr) (c : Nat) (xs : List Bool) (B : Nat) (w0 w : World) (hb : Below B w0 w) (hB : B ≤ w.heap.size) (hl : xs.length ≤ 1048576) (hx : BoolsAt B w0 A xs) :
    Calls Try.prog 55 #[.slice A xs.length c] w fun e w' => e = .returned (.slice (some ⟨w.heap.size, 0, none⟩) xs.length xs.length) ∧ RowBlk (fun b : Bool => Value.bool b) 4 w' w.heap.size xs ∧ Below w.heap.size w w' := by
  have hmk := make_bools xs.length (by omega)
  replace hb := Lib.hid hb
  replace hx := Lib.hid hx
  go_enter Try.func55, Try.ntmps55
  go_wp2_with fail
  go_loopw [4] (fun i wr => ∃ (j : Nat), j ≤ xs.length ∧ i = .int .i64 j ∧ Hid (RowBlk (fun b : Bool => Value.bool b) 4 wr w.heap.size (xs.take j ++ List.replicate (xs.length - j) false)) ∧ Hid (Below w.heap.size w wr)) (fun i _ => xs.length - (intOf i).toNat)
  case atStart => exact ⟨0, Nat.zero_le _, rfl, Lib.hid (made_blk (z := (false : Bool)) (heap_new rfl)), Lib.hid (below_al (Below.refl _ _) _)⟩
  case round =>
    obtain ⟨j, hj, rfl, hR, hw⟩ := hrel
    have hz := hR.out.lt
    by_cases hlt : j < xs.length
    · obtain ⟨b, o, rfl, hbl, y⟩ := hx.out.at (below_up' hb.out hB hw.out) (Nat.le_trans hB hw.out.size) j hlt
      have f0 := hR.out.frozen j
      have c0 := hR.out.cell (i := j) (by simp; omega)
      have hset := hR.out.set j xs[j]
      have e : (xs.take j ++ List.replicate (xs.length - j) false).set j xs[j] = xs.take (j + 1) ++ List.replicate (xs.length - (j + 1)) false := by
        rw [List.set_append_right _ _ (by simp; omega), List.take_succ_eq_append_getElem hlt]
        rw [show xs.length - j = (xs.length - (j + 1)) + 1 by omega, List.replicate_succ]
        rw [show j - (xs.take j).length = 0 by simp; omega, List.set_cons_zero, List.append_assoc]; rfl
      rw [e] at hset
      have hw2 : Below w.heap.size w (wr.setCell ⟨w.heap.size, j, none⟩ ((fun b : Bool => Value.bool b) xs[j])) := hw.out.setCell (by simp) _
      replace hset := Lib.hid hset
      replace hw2 := Lib.hid hw2
      replace e := Lib.hid e
      go_wp2_with fail
      go_roundw
      case rel => exact ⟨j + 1, by omega, by go_num, hset, hw2⟩
      case measure => simp [intOf]; omega
    · have ej : j = xs.length := by omega
      subst ej
      have hR2 := hR.out
      rw [List.take_length, Nat.sub_self, List.replicate_zero, List.append_nil] at hR2
      replace hR2 := Lib.hid hR2
      go_wp2_with fail
      go_ret
      exact ⟨rfl, hR2.out, hw.out⟩
end Go.Proofs.Ytkbblekengdhaaa

set_option linter.unusedVariables false
set_option linter.unusedSimpArgs false
namespace Go.Proofs.Ytkbblekengdhaaa
open Go Go.RowKit

/-- a task, copied: what it gives -/
def ToT (t : Task) (w : World) (e : Ending) (w' : World) : Prop :=
  ∃ A c, e = .returned (.agg #[.int .i64 t.kind, .int .i64 t.n, .slice A t.parts.length c]) ∧ t.parts.length ≤ c ∧ c ≤ maxLen ∧ TL true w.heap.size w'.heap.size w' A 0 t.parts ∧ Below w.heap.size w w'
def ToL (ps : List Task) (w : World) (e : Ending) (w' : World) : Prop :=
  e = .returned (.slice (some ⟨w.heap.size, 0, none⟩) ps.length ps.length) ∧ TL true w.heap.size w'.heap.size w' (some ⟨w.heap.size, 0, none⟩) 0 ps ∧ Below w.heap.size w w'

/-- the first j elements of a new row of tasks are laid; what they lead to lies behind the row -/
def LaidT (bn : Nat) (ps : List Task) (j : Nat) (w : World) : Prop :=
  ∃ cur, w.heap[bn]? = some (.cells cur 39 (0, 0)) ∧ cur.size = ps.length * 3 ∧ ∀ i (h : i < ps.length), i < j → ∃ A c, cur[i * 3]? = some (.int .i64 ps[i].kind) ∧ cur[i * 3 + 1]? = some (.int .i64 ps[i].n) ∧ cur[i * 3 + 2]? = some (.slice A ps[i].parts.length c) ∧ ps[i].parts.length ≤ c ∧ c ≤ maxLen ∧ TL true (bn + 1) w.heap.size w A 0 ps[i].parts
theorem LaidT.up {bn j : Nat} {ps : List Task} {w w' : World} (h : LaidT bn ps j w) (hb : Below w.heap.size w w') : LaidT bn ps j w' := by
  obtain ⟨cur, h1, h2, h3⟩ := h
  refine ⟨cur, (hb.block _ (block_lt h1)).trans h1, h2, fun i hi hj => ?_⟩
  obtain ⟨A, c, g1, g2, g3, g4, g5, g6⟩ := h3 i hi hj
  exact ⟨A, c, g1, g2, g3, g4, g5, g6.up hb⟩
theorem LaidT.tree {bn : Nat} {ps : List Task} {w : World} (h : LaidT bn ps ps.length w) : TL true bn w.heap.size w (some ⟨bn, 0, none⟩) 0 ps := by
  obtain ⟨cur, h1, h2, h3⟩ := h
  have hl := block_lt h1
  refine TL.of fun i hi => ?_
  obtain ⟨A, c, g1, g2, g3, g4, g5, g6⟩ := h3 i hi hi
  refine ⟨bn, 0, cur, _, _, _, _, rfl, Nat.le_refl _, hl, h1, ?_, ?_, ?_, TN.shut (kk := ps[i].kind) (nn := ps[i].n) (fun _ => ⟨rfl, rfl⟩) g4 g5 (TL.kept (fun b _ _ => rfl) (by omega) (Nat.le_refl _) _ _ _ g6)⟩
  · rw [Nat.zero_add, Nat.zero_add]; exact g1
  · rw [Nat.zero_add, Nat.zero_add]; exact g2
  · rw [Nat.zero_add, Nat.zero_add]; exact g3
theorem LaidT.cells {bn j : Nat} {ps : List Task} {w : World} (h : LaidT bn ps j w) {i : Nat} (hi : i < ps.length) : (∃ x, w.cell? ⟨bn, i * 3, none⟩ = some x) ∧ (∃ x, w.cell? ⟨bn, i * 3 + 1, none⟩ = some x) ∧ (∃ x, w.cell? ⟨bn, i * 3 + 2, none⟩ = some x) ∧ ∀ q, w.frozen? ⟨bn, q, none⟩ = false := by
  obtain ⟨cur, h1, h2, h3⟩ := h
  refine ⟨⟨_, (cellm h1 _).trans (Array.getElem?_eq_getElem (by omega))⟩, ⟨_, (cellm h1 _).trans (Array.getElem?_eq_getElem (by omega))⟩, ⟨_, (cellm h1 _).trans (Array.getElem?_eq_getElem (by omega))⟩, fun q => frozenm h1 q⟩
theorem LaidT.put {bn j : Nat} {ps : List Task} {w : World} (h : LaidT bn ps j w) (hj : j < ps.length) {A : Option Addr} {c : Nat} (hc : ps[j].parts.length ≤ c) (hm : c ≤ maxLen) (ht : TL true (bn + 1) w.heap.size w A 0 ps[j].parts) :
    LaidT bn ps (j + 1) (((w.setCell ⟨bn, j * 3, none⟩ (.int .i64 ps[j].kind)).setCell ⟨bn, j * 3 + 1, none⟩ (.int .i64 ps[j].n)).setCell ⟨bn, j * 3 + 2, none⟩ (.slice A ps[j].parts.length c)) := by
  obtain ⟨cur, h1, h2, h3⟩ := h
  have e1 := setCell_block h1 (j * 3) (.int .i64 ps[j].kind)
  have e2 := setCell_block e1 (j * 3 + 1) (.int .i64 ps[j].n)
  have e3 := setCell_block e2 (j * 3 + 2) (.slice A ps[j].parts.length c)
  have hfar : ∀ b, b ≠ bn → (((w.setCell ⟨bn, j * 3, none⟩ (.int .i64 ps[j].kind)).setCell ⟨bn, j * 3 + 1, none⟩ (.int .i64 ps[j].n)).setCell ⟨bn, j * 3 + 2, none⟩ (.slice A ps[j].parts.length c)).heap[b]? = w.heap[b]? := fun b hb => ((setCell_far hb).trans (setCell_far hb)).trans (setCell_far hb)
  have hsz : (((w.setCell ⟨bn, j * 3, none⟩ (.int .i64 ps[j].kind)).setCell ⟨bn, j * 3 + 1, none⟩ (.int .i64 ps[j].n)).setCell ⟨bn, j * 3 + 2, none⟩ (.slice A ps[j].parts.length c)).heap.size = w.heap.size := by simp [World.setCell]
  refine ⟨_, e3, by simpa using h2, fun i hi hij => ?_⟩
  rw [hsz]
  by_cases e : i = j
  · subst e
    refine ⟨A, c, ?_, ?_, ?_, hc, hm, TL.kept (fun b hlo _ => hfar b (by omega)) (Nat.le_refl _) (Nat.le_refl _) _ _ _ ht⟩
    · simp [Array.getElem?_setIfInBounds, show i * 3 < cur.size by omega]
    · simp [Array.getElem?_setIfInBounds, show i * 3 + 1 < cur.size by omega]
    · simp [Array.getElem?_setIfInBounds, show i * 3 + 2 < cur.size by omega]
  · obtain ⟨A', c', g1, g2, g3, g4, g5, g6⟩ := h3 i hi (by omega)
    refine ⟨A', c', ?_, ?_, ?_, g4, g5, TL.kept (fun b hlo _ => hfar b (by omega)) (Nat.le_refl _) (Nat.le_refl _) _ _ _ g6⟩
    · simpa [Array.getElem?_setIfInBounds, show ¬ j * 3 = i * 3 by omega, show ¬ j * 3 + 1 = i * 3 by omega, show ¬ j * 3 + 2 = i * 3 by omega] using g1
    · simpa [Array.getElem?_setIfInBounds, show ¬ j * 3 = i * 3 + 1 by omega, show ¬ j * 3 = i * 3 by omega, show ¬ j * 3 + 1 = i * 3 + 1 by omega, show ¬ j * 3 + 2 = i * 3 + 1 by omega] using g2
    · simpa [Array.getElem?_setIfInBounds, show ¬ j * 3 = i * 3 + 2 by omega, show ¬ j * 3 = i * 3 by omega, show ¬ j * 3 = i * 3 + 1 by omega, show ¬ j * 3 + 1 = i * 3 + 2 by omega, show ¬ j * 3 + 2 = i * 3 + 2 by omega] using g3

set_option maxHeartbeats 4000000 in
theorem toTaskS_of (ps : List Task) (hn : nodesL ps ≤ 1048576) (ih : ∀ p ∈ ps, nodesL p.parts ≤ 1048576 → ∀ (A : Option Addr) (c B : Nat) (w0 w : World), Below B w0 w → B ≤ w.heap.size → p.parts.length ≤ c → c ≤ maxLen → PartsIs B w0 A 0 p.parts →
      Calls Try.prog 94 #[.agg #[.int .i64 p.kind, .int .i64 p.n, .slice A p.parts.length c]] w (ToT p w))
    (A : Option Addr) (c B : Nat) (w0 w : World) (hb : Below B w0 w) (hB : B ≤ w.heap.size) (hc : ps.length ≤ c) (hm : c ≤ maxLen) (hp : PartsIs B w0 A 0 ps) :
    Calls Try.prog 56 #[.slice A ps.length c] w (ToL ps w) := by
  have hlen := parts_len ps
  have hmk := make_tasks ps.length (by omega)
  unfold maxLen at hm
  replace ih := Lib.hid ih
  replace hb := Lib.hid hb
  replace hp := Lib.hid hp
  go_enter Try.func56, Try.ntmps56
  go_wp2_with fail
  go_loopw [4] (fun i wr => ∃ (j : Nat), j ≤ ps.length ∧ i = .int .i64 j ∧ Hid (LaidT w.heap.size ps j wr) ∧ Hid (Below w.heap.size w wr)) (fun i _ => ps.length - (intOf i).toNat)
  case atStart => exact ⟨0, Nat.zero_le _, rfl, Lib.hid ⟨_, heap_new rfl, by simp [madeCells], fun i hi h => by omega⟩, Lib.hid (below_al (Below.refl _ _) _)⟩
  case round =>
    obtain ⟨j, hj, rfl, hL, hw⟩ := hrel
    by_cases hlt : j < ps.length
    · obtain ⟨b, o, A', c', rfl, hb', h1, h2, h3, h4, h5, h6⟩ := hp.out.at (below_up' hb.out hB hw.out) j hlt
      have hnj : nodesL ps[j].parts ≤ 1048576 := by have := nodesL_at hlt; have := nodes_parts ps[j]; omega
      have hcall := ih.out ps[j] (List.getElem_mem hlt) hnj A' c' B w0 wr (below_up' hb.out hB hw.out) (Nat.le_trans hB hw.out.size) h4 h5 h6
      have hbl : b < wr.heap.size := by have := hw.out.size; omega
      have hsz : w.heap.size < wr.heap.size := by obtain ⟨cur, q, _⟩ := hL.out; exact block_lt q
      replace hcall := Lib.hid hcall
      clear h4 h5 h6
      go_wp2_with fail
      refine hcall.out.mono ?_
      rintro e w2 ⟨A2, c2, rfl, g1, g2, g3, g4⟩
      have hL2 := hL.out.up g4
      have hw2 := below_up hw.out g4
      obtain ⟨⟨x0, y0⟩, ⟨x1, y1⟩, ⟨x2, y2⟩, ff⟩ := hL2.cells hlt
      have f0 := ff (j * 3)
      have f1 := ff (j * 3 + 1)
      have f2 := ff (j * 3 + 2)
      have hL3 := hL2.put hlt g1 g2 (TL.kept (fun b _ _ => rfl) (by omega) (Nat.le_refl _) _ _ _ g3)
      have hw3 : Below w.heap.size w (((w2.setCell ⟨w.heap.size, j * 3, none⟩ (.int .i64 ps[j].kind)).setCell ⟨w.heap.size, j * 3 + 1, none⟩ (.int .i64 ps[j].n)).setCell ⟨w.heap.size, j * 3 + 2, none⟩ (.slice A2 ps[j].parts.length c2)) := ((hw2.setCell (by simp) _).setCell (by simp) _).setCell (by simp) _
      replace hL3 := Lib.hid hL3
      replace hw3 := Lib.hid hw3
      clear g3 g4 hL2 hw2 hcall ff hL hw
      go_wp2_with fail
      go_roundw
      case rel => exact ⟨j + 1, by omega, by go_num, hL3, hw3⟩
      case measure => simp [intOf]; omega
    · have e : j = ps.length := by omega
      subst e
      go_wp2_with fail
      go_ret
      exact ⟨rfl, hL.out.tree, hw.out⟩

set_option maxHeartbeats 4000000 in
theorem toTask_calls : ∀ (p : Task), nodesL p.parts ≤ 1048576 → ∀ (A : Option Addr) (c B : Nat) (w0 w : World), Below B w0 w → B ≤ w.heap.size → p.parts.length ≤ c → c ≤ maxLen → PartsIs B w0 A 0 p.parts →
      Calls Try.prog 94 #[.agg #[.int .i64 p.kind, .int .i64 p.n, .slice A p.parts.length c]] w (ToT p w) := by
  refine Task.ind ?_
  intro k n ps ih hn A c B w0 w hb hB hc hm hp
  simp only [Task.kind, Task.n, Task.parts] at hc hp hn ⊢
  have hS := fun w1 (hw : Below w.heap.size w w1) => toTaskS_of ps hn ih A c B w0 w1 (below_up' hb hB hw) (Nat.le_trans hB hw.size) hc hm hp
  have hlen := parts_len ps
  replace hS := Lib.hid hS
  clear ih hb hp
  go_enter Try.func94, Try.ntmps94
  go_wp2_with fail
  refine (hS.out _ (below_al (below_al (below_al (Below.refl _ _) _) _) _)).mono ?_
  rintro e w1 ⟨rfl, ht, h1⟩
  have q1 := (h1.block (w.heap.size + 1) (by simp)).trans ((heap_old (by simp)).trans (heap_new (by simp)))
  have q2 := (h1.block (w.heap.size + 1 + 1) (by simp)).trans (heap_new (by simp))
  have x0 := (cellm q2 0).trans rfl
  have x1 := (cellm q2 1).trans rfl
  have x2 := (cellm q2 2).trans rfl
  have y0 := (cellm q1 0).trans rfl
  have y1 := (cellm q1 1).trans rfl
  have y2 := (cellm q1 2).trans rfl
  have g0 := frozenm q1 0
  have g1 := frozenm q1 1
  have g2 := frozenm q1 2
  have f2 := frozenm q2 2
  have hlo : (((w.alloc (.cells #[.int .i64 k, .int .i64 n, .slice A ps.length c] 112)).alloc (.cells #[.int .i64 0, .int .i64 0, .slice none 0 0] 39)).alloc (.cells #[.int .i64 k, .int .i64 n, .slice none 0 0] 39)).heap.size = w.heap.size + 1 + 1 + 1 := by simp
  rw [hlo] at ht
  have hb1 : Below w.heap.size w w1 := below_from (below_from (below_from h1))
  have p1 := setCell_far (w := w1) (m := w.heap.size + 1 + 1) (j := 2) (v := .slice (some ⟨w.heap.size + 1 + 1 + 1, 0, none⟩) ps.length ps.length) (k := w.heap.size + 1) (by omega)
  have p2 := setCell_block (setCell_block (setCell_block (p1.trans q1) 0 (.int .i64 k)) 1 (.int .i64 n)) 2 (.slice (some ⟨w.heap.size + 1 + 1 + 1, 0, none⟩) ps.length ps.length)
  have hK : ∀ b, b ≠ w.heap.size + 1 → b ≠ w.heap.size + 1 + 1 → ((((w1.setCell ⟨w.heap.size + 1 + 1, 2, none⟩ (.slice (some ⟨w.heap.size + 1 + 1 + 1, 0, none⟩) ps.length ps.length)).setCell ⟨w.heap.size + 1, 0, none⟩ (.int .i64 k)).setCell ⟨w.heap.size + 1, 1, none⟩ (.int .i64 n)).setCell ⟨w.heap.size + 1, 2, none⟩ (.slice (some ⟨w.heap.size + 1 + 1 + 1, 0, none⟩) ps.length ps.length)).heap[b]? = w1.heap[b]? :=
    fun b h2 h3 => (((setCell_far h2).trans (setCell_far h2)).trans (setCell_far h2)).trans (setCell_far h3)
  have hbW : Below w.heap.size w ((((w1.setCell ⟨w.heap.size + 1 + 1, 2, none⟩ (.slice (some ⟨w.heap.size + 1 + 1 + 1, 0, none⟩) ps.length ps.length)).setCell ⟨w.heap.size + 1, 0, none⟩ (.int .i64 k)).setCell ⟨w.heap.size + 1, 1, none⟩ (.int .i64 n)).setCell ⟨w.heap.size + 1, 2, none⟩ (.slice (some ⟨w.heap.size + 1 + 1 + 1, 0, none⟩) ps.length ps.length)) :=
    (((hb1.setCell (by simp; omega) _).setCell (by simp) _).setCell (by simp) _).setCell (by simp) _
  have hsz : ((((w1.setCell ⟨w.heap.size + 1 + 1, 2, none⟩ (.slice (some ⟨w.heap.size + 1 + 1 + 1, 0, none⟩) ps.length ps.length)).setCell ⟨w.heap.size + 1, 0, none⟩ (.int .i64 k)).setCell ⟨w.heap.size + 1, 1, none⟩ (.int .i64 n)).setCell ⟨w.heap.size + 1, 2, none⟩ (.slice (some ⟨w.heap.size + 1 + 1 + 1, 0, none⟩) ps.length ps.length)).heap.size = w1.heap.size := by simp [World.setCell]
  have hTL := TL.kept (w' := ((((w1.setCell ⟨w.heap.size + 1 + 1, 2, none⟩ (.slice (some ⟨w.heap.size + 1 + 1 + 1, 0, none⟩) ps.length ps.length)).setCell ⟨w.heap.size + 1, 0, none⟩ (.int .i64 k)).setCell ⟨w.heap.size + 1, 1, none⟩ (.int .i64 n)).setCell ⟨w.heap.size + 1, 2, none⟩ (.slice (some ⟨w.heap.size + 1 + 1 + 1, 0, none⟩) ps.length ps.length))) (lo' := w.heap.size) (hi' := w1.heap.size) (fun b h2 h3 => hK b (by omega) (by omega)) (by omega) (Nat.le_refl _) _ _ _ ht
  replace hTL := Lib.hid hTL
  replace hbW := Lib.hid hbW
  replace hsz := Lib.hid hsz
  replace p2 := Lib.hid p2
  clear hK p1 hb1 ht hlo q1 q2 h1 hS
  simp only [List.size_toArray, List.length_cons, List.length_nil] at *
  go_wp2_with fail
  refine ret_task rfl (by rfl) (a := .int .i64 k) (b := .int .i64 n) p2.out ⟨_, _, rfl, Nat.le_refl _, by unfold maxLen; omega, ?_, hbW.out⟩
  rw [hsz.out]
  exact hTL.out
theorem toTaskS_calls (ps : List Task) (hn : nodesL ps ≤ 1048576) (A : Option Addr) (c B : Nat) (w0 w : World) (hb : Below B w0 w) (hB : B ≤ w.heap.size) (hc : ps.length ≤ c) (hm : c ≤ maxLen) (hp : PartsIs B w0 A 0 ps) :
    Calls Try.prog 56 #[.slice A ps.length c] w (ToL ps w) :=
  toTaskS_of ps hn (fun p _ hn => toTask_calls p hn) A c B w0 w hb hB hc hm hp
end Go.Proofs.Ytkbblekengdhaaa

set_option linter.unusedVariables false
set_option linter.unusedSimpArgs false
namespace Go.Proofs.Ytkbblekengdhaaa
open Go Go.RowKit

/-- a sheet, copied: its row of truths ahead of the tree of its tasks -/
structure SheetT (lo mid hi bm bt : Nat) (made : List Bool) (tasks : List Task) (w : World) : Prop where
  h1 : lo ≤ bm
  h2 : bm < mid
  h3 : mid ≤ hi
  row : RowBlk (fun b : Bool => Value.bool b) 4 w bm made
  tree : TL true mid hi w (some ⟨bt, 0, none⟩) 0 tasks
theorem SheetT.kept {lo mid hi bm bt hi' : Nat} {made : List Bool} {tasks : List Task} {w w' : World} (h : SheetT lo mid hi bm bt made tasks w) (hk : ∀ b, lo ≤ b → b < hi → w'.heap[b]? = w.heap[b]?) (hh : hi ≤ hi') : SheetT lo mid hi' bm bt made tasks w' := by
  obtain ⟨h1, h2, h3, h4, h5⟩ := h
  exact ⟨h1, h2, by omega, h4.turn (hk _ h1 (by omega)), TL.kept (fun b q1 q2 => hk b (by omega) q2) (Nat.le_refl _) hh _ _ _ h5⟩
theorem SheetT.at {lo mid hi bm bt B : Nat} {made : List Bool} {tasks : List Task} {w : World} (h : SheetT lo mid hi bm bt made tasks w) (hB : hi ≤ B) (hm : made.length ≤ maxLen) (ht : tasks.length ≤ maxLen) : SheetAt B w (some ⟨bm, 0, none⟩) made.length (some ⟨bt, 0, none⟩) tasks.length made tasks :=
  ⟨Nat.le_refl _, hm, Nat.le_refl _, ht, fun i hi => ⟨bm, 0, rfl, by have := h.h2; have := h.h3; omega, by rw [Nat.zero_add]; exact h.row.cell hi⟩, TL.parts hB _ _ _ h.tree⟩
def ToS (made : List Bool) (tasks : List Task) (w : World) (e : Ending) (w' : World) : Prop :=
  ∃ bm bt mid, e = .returned (.agg #[.slice (some ⟨bm, 0, none⟩) made.length made.length, .slice (some ⟨bt, 0, none⟩) tasks.length tasks.length]) ∧ SheetT w.heap.size mid w'.heap.size bm bt made tasks w' ∧ Below w.heap.size w w'

set_option maxHeartbeats 4000000 in
theorem toSheet_calls (Am At : Option Addr) (cm ct : Nat) (made : List Bool) (tasks : List Task) (B : Nat) (w0 w : World) (hb : Below B w0 w) (hB : B ≤ w.heap.size) (hml : made.length ≤ 1048576) (hm : BoolsAt B w0 Am made) (hn : nodesL tasks ≤ 1048576) (hc : tasks.length ≤ ct) (hct : ct ≤ maxLen) (hp : PartsIs B w0 At 0 tasks) :
    Calls Try.prog 24 #[.agg #[.slice Am made.length cm, .slice At tasks.length ct]] w (ToS made tasks w) := by
  have hb1 := fun w1 (hw : Below w.heap.size w w1) => toBoolS_calls Am cm made B w0 w1 (below_up' hb hB hw) (Nat.le_trans hB hw.size) hml hm
  have hb2 := fun w1 (hw : Below w.heap.size w w1) => toTaskS_calls tasks hn At ct B w0 w1 (below_up' hb hB hw) (Nat.le_trans hB hw.size) hc hct hp
  have hlen := parts_len tasks
  replace hb1 := Lib.hid hb1
  replace hb2 := Lib.hid hb2
  clear hb hm hp
  go_enter Try.func24, Try.ntmps24
  go_wp2_with fail
  refine (hb1.out _ (below_al (below_al (below_al (Below.refl _ _) _) _) _)).mono ?_
  rintro e w1 ⟨rfl, hR, h1⟩
  have q0 := (h1.block w.heap.size (by simp; omega)).trans ((heap_old (by simp; omega)).trans ((heap_old (by simp)).trans (heap_new rfl)))
  have q1 := (h1.block (w.heap.size + 1) (by simp)).trans ((heap_old (by simp)).trans (heap_new (by simp)))
  have q2 := (h1.block (w.heap.size + 1 + 1) (by simp)).trans (heap_new (by simp))
  have hlo : (((w.alloc (.cells #[.slice Am made.length cm, .slice At tasks.length ct] 42)).alloc (.cells #[.slice none 0 0, .slice none 0 0] 26)).alloc (.cells #[.slice none 0 0, .slice none 0 0] 26)).heap.size = w.heap.size + 1 + 1 + 1 := by simp
  rw [hlo] at hR
  have x0 := (cellm q2 0).trans rfl
  have f0 := frozenm q2 0
  have x1 := (cellm q0 1).trans rfl
  have b1 : Below w.heap.size w w1 := below_from (below_from (below_from h1))
  have s1 := hR.lt
  have hset : Below w.heap.size w (w1.setCell ⟨w.heap.size + 1 + 1, 0, none⟩ (.slice (some ⟨w.heap.size + 1 + 1 + 1, 0, none⟩) made.length made.length)) := b1.setCell (by simp; omega) _
  have e2 := setCell_block q2 0 (.slice (some ⟨w.heap.size + 1 + 1 + 1, 0, none⟩) made.length made.length)
  have hR1 := hR.turn (setCell_far (w := w1) (m := w.heap.size + 1 + 1) (j := 0) (v := .slice (some ⟨w.heap.size + 1 + 1 + 1, 0, none⟩) made.length made.length) (k := w.heap.size + 1 + 1 + 1) (by omega))
  have e1 := (setCell_far (w := w1) (m := w.heap.size + 1 + 1) (j := 0) (v := .slice (some ⟨w.heap.size + 1 + 1 + 1, 0, none⟩) made.length made.length) (k := w.heap.size + 1) (by omega)).trans q1
  have hz : (w1.setCell ⟨w.heap.size + 1 + 1, 0, none⟩ (.slice (some ⟨w.heap.size + 1 + 1 + 1, 0, none⟩) made.length made.length)).heap.size = w1.heap.size := by simp [World.setCell]
  replace hR1 := Lib.hid hR1
  replace e1 := Lib.hid e1
  replace e2 := Lib.hid e2
  replace hset := Lib.hid hset
  replace hz := Lib.hid hz
  clear hlo h1 hR q1 q2 q0 b1
  go_wp2_with fail
  refine (hb2.out _ hset.out).mono ?_
  rintro e w2 ⟨rfl, ht, h2⟩
  have q1 := (h2.block (w.heap.size + 1) (by rw [hz.out]; omega)).trans e1.out
  have q2 := (h2.block (w.heap.size + 1 + 1) (by rw [hz.out]; omega)).trans e2.out
  have hR2 := hR1.out.turn (h2.block _ (by rw [hz.out]; omega))
  have hb3 := below_up hset.out h2
  have hs2 := h2.size
  rw [hz.out] at ht hs2
  have hz2 : w1.heap.size ≤ w2.heap.size := hs2
  have y0 := (cellm q1 0).trans rfl
  have y1 := (cellm q1 1).trans rfl
  have g0 := frozenm q1 0
  have g1 := frozenm q1 1
  have z0 := (cellm q2 0).trans rfl
  have z1 := (cellm q2 1).trans rfl
  have k1 := frozenm q2 1
  clear x0 f0 x1 hs2 h2
  have hz' := hz.out
  simp only [hz']
  obtain ⟨mid, hmid⟩ : ∃ mid, mid = w1.heap.size := ⟨_, rfl⟩
  rw [← hmid] at ht hz2 s1 ⊢
  obtain ⟨vm, hvm⟩ : ∃ vm, vm = Value.slice (some ⟨w.heap.size + 1 + 1 + 1, 0, none⟩) made.length made.length := ⟨_, rfl⟩
  obtain ⟨vt, hvt⟩ : ∃ vt, vt = Value.slice (some ⟨mid, 0, none⟩) tasks.length tasks.length := ⟨_, rfl⟩
  have p1 := setCell_far (w := w2) (m := w.heap.size + 1 + 1) (j := 1) (v := .slice (some ⟨mid, 0, none⟩) tasks.length tasks.length) (k := w.heap.size + 1) (by omega)
  have p2 := setCell_block (setCell_block (p1.trans q1) 0 (.slice (some ⟨w.heap.size + 1 + 1 + 1, 0, none⟩) made.length made.length)) 1 (.slice (some ⟨mid, 0, none⟩) tasks.length tasks.length)
  have hK : ∀ b, b ≠ w.heap.size + 1 → b ≠ w.heap.size + 1 + 1 → (((w2.setCell ⟨w.heap.size + 1 + 1, 1, none⟩ (.slice (some ⟨mid, 0, none⟩) tasks.length tasks.length)).setCell ⟨w.heap.size + 1, 0, none⟩ (.slice (some ⟨w.heap.size + 1 + 1 + 1, 0, none⟩) made.length made.length)).setCell ⟨w.heap.size + 1, 1, none⟩ (.slice (some ⟨mid, 0, none⟩) tasks.length tasks.length)).heap[b]? = w2.heap[b]? :=
    fun b h2 h3 => ((setCell_far h2).trans (setCell_far h2)).trans (setCell_far h3)
  have hbW : Below w.heap.size w (((w2.setCell ⟨w.heap.size + 1 + 1, 1, none⟩ (.slice (some ⟨mid, 0, none⟩) tasks.length tasks.length)).setCell ⟨w.heap.size + 1, 0, none⟩ (.slice (some ⟨w.heap.size + 1 + 1 + 1, 0, none⟩) made.length made.length)).setCell ⟨w.heap.size + 1, 1, none⟩ (.slice (some ⟨mid, 0, none⟩) tasks.length tasks.length)) :=
    ((hb3.setCell (by simp; omega) _).setCell (by simp) _).setCell (by simp) _
  have hsz : (((w2.setCell ⟨w.heap.size + 1 + 1, 1, none⟩ (.slice (some ⟨mid, 0, none⟩) tasks.length tasks.length)).setCell ⟨w.heap.size + 1, 0, none⟩ (.slice (some ⟨w.heap.size + 1 + 1 + 1, 0, none⟩) made.length made.length)).setCell ⟨w.heap.size + 1, 1, none⟩ (.slice (some ⟨mid, 0, none⟩) tasks.length tasks.length)).heap.size = w2.heap.size := by simp [World.setCell]
  have hfin : SheetT w.heap.size mid w2.heap.size (w.heap.size + 1 + 1 + 1) mid made tasks (((w2.setCell ⟨w.heap.size + 1 + 1, 1, none⟩ (.slice (some ⟨mid, 0, none⟩) tasks.length tasks.length)).setCell ⟨w.heap.size + 1, 0, none⟩ (.slice (some ⟨w.heap.size + 1 + 1 + 1, 0, none⟩) made.length made.length)).setCell ⟨w.heap.size + 1, 1, none⟩ (.slice (some ⟨mid, 0, none⟩) tasks.length tasks.length)) :=
    ⟨by omega, by omega, hz2, hR2.turn (hK _ (by omega) (by omega)), TL.kept (fun b h2 h3 => hK b (by omega) (by omega)) (Nat.le_refl _) (Nat.le_refl _) _ _ _ ht⟩
  replace hfin := Lib.hid hfin
  replace hbW := Lib.hid hbW
  replace hsz := Lib.hid hsz
  replace p2 := Lib.hid p2
  clear hK p1 hb3 ht q1 q2 hR2 hvm hvt hz' hmid
  go_wp2_with fail
  refine ret_sheet rfl (by rfl) p2.out ⟨_, _, mid, rfl, ?_, hbW.out⟩
  rw [hsz.out]
  exact hfin.out

/-! the same -/

set_option maxHeartbeats 1000000 in
theorem eqIntS_same (A A2 : Option Addr) (c c2 : Nat) (xs : List Int) (w : World) (hl : xs.length ≤ maxLen) (hx : IntsAt w.heap.size w A xs) (hy : IntsAt w.heap.size w A2 xs) :
    Calls Try.prog 29 #[.slice A xs.length c, .slice A2 xs.length c2] w fun e w' => e = .returned (.bool true) ∧ Below w.heap.size w w' := by
  unfold maxLen at hl
  replace hx := Lib.hid hx
  replace hy := Lib.hid hy
  go_enter Try.func29, Try.ntmps29
  go_wp2_with fail
  go_loopw [5] (fun i wr => ∃ (j : Nat), j ≤ xs.length ∧ i = .int .i64 j ∧ Hid (Below w.heap.size w wr)) (fun i _ => xs.length - (intOf i).toNat)
  case atStart => exact ⟨0, Nat.zero_le _, rfl, Lib.hid (Below.refl _ _)⟩
  case round =>
    obtain ⟨j, hj, rfl, hw⟩ := hrel
    by_cases hlt : j < xs.length
    · obtain ⟨b, o, e, hb, y⟩ := (hx.out.up hw.out hw.out.size) j hlt
      subst e
      obtain ⟨b2, o2, e2, hb2, y2⟩ := (hy.out.up hw.out hw.out.size) j hlt
      subst e2
      have hv : (xs[j] != xs[j]) = false := by simp
      generalize xs[j] = v at *
      go_wp2_with fail
      go_region
      all_goals
        go_wp2_with fail
        go_roundw
        case rel => exact ⟨j + 1, by omega, by go_num, Lib.hid hw.out.drew⟩
        case measure => simp [intOf]; omega
    · go_wp2_with fail
      go_ret
      exact ⟨rfl, hw.out⟩

set_option maxHeartbeats 1000000 in
theorem eqBoolS_same (A A2 : Option Addr) (c c2 : Nat) (xs : List Bool) (w : World) (hl : xs.length ≤ maxLen) (hx : BoolsAt w.heap.size w A xs) (hy : BoolsAt w.heap.size w A2 xs) :
    Calls Try.prog 57 #[.slice A xs.length c, .slice A2 xs.length c2] w fun e w' => e = .returned (.bool true) ∧ Below w.heap.size w w' := by
  unfold maxLen at hl
  replace hx := Lib.hid hx
  replace hy := Lib.hid hy
  go_enter Try.func57, Try.ntmps57
  go_wp2_with fail
  go_loopw [5] (fun i wr => ∃ (j : Nat), j ≤ xs.length ∧ i = .int .i64 j ∧ Hid (Below w.heap.size w wr)) (fun i _ => xs.length - (intOf i).toNat)
  case atStart => exact ⟨0, Nat.zero_le _, rfl, Lib.hid (Below.refl _ _)⟩
  case round =>
    obtain ⟨j, hj, rfl, hw⟩ := hrel
    by_cases hlt : j < xs.length
    · obtain ⟨b, o, e, hb, y⟩ := (hx.out.up hw.out hw.out.size) j hlt
      subst e
      obtain ⟨b2, o2, e2, hb2, y2⟩ := (hy.out.up hw.out hw.out.size) j hlt
      subst e2
      have hv : (xs[j] != xs[j]) = false := by simp
      generalize xs[j] = v at *
      go_wp2_with fail
      go_region
      all_goals
        go_wp2_with fail
        go_roundw
        case rel => exact ⟨j + 1, by omega, by go_num, Lib.hid hw.out.drew⟩
        case measure => simp [intOf]; omega
    · go_wp2_with fail
      go_ret
      exact ⟨rfl, hw.out⟩
end Go.Proofs.Ytkbblekengdhaaa
