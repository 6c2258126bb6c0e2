import Derived.Test.YtagmdljdcnmpdaaMaps
import Derived.Test.YtagmdljdcnmpdaaDraw
import Derived.Test.YtagmdljdcnmpdaaSheet
import Derived.Laws.MakeOwn
set_option linter.unusedVariables false
set_option linter.unusedSimpArgs false
namespace Go.Proofs.Ytagmdljdcnmpdaa
open Go Go.RowKit

/-! trees of tasks in blocks from lo on, below hi; ex: whether the numbers are known -/
mutual
def TN (ex : Bool) (lo hi : Nat) (w : World) : Value → Value → Value → Task → Prop
  | x, y, z, .mk k n ps => ∃ kk nn A c, x = .int .i64 kk ∧ y = .int .i64 nn ∧ z = .slice A ps.length c ∧ (ex = true → kk = k ∧ nn = n) ∧ ps.length ≤ c ∧ c ≤ maxLen ∧ TL ex lo hi w A 0 ps
def TL (ex : Bool) (lo hi : Nat) (w : World) : Option Addr → Nat → List Task → Prop
  | _, _, [] => True
  | A, i, t :: ts => (∃ b o cur T x y z, A = some ⟨b, o, none⟩ ∧ lo ≤ b ∧ b < hi ∧ w.heap[b]? = some (.cells cur T (0, 0)) ∧ cur[o + i * 3]? = some x ∧ cur[o + i * 3 + 1]? = some y ∧ cur[o + i * 3 + 2]? = some z ∧ TN ex lo hi w x y z t) ∧ TL ex lo hi w A (i + 1) ts
end
theorem TN.open {ex : Bool} {lo hi : Nat} {w : World} {x y z : Value} {t : Task} (h : TN ex lo hi w x y z t) : ∃ kk nn A c, x = .int .i64 kk ∧ y = .int .i64 nn ∧ z = .slice A t.parts.length c ∧ (ex = true → kk = t.kind ∧ nn = t.n) ∧ t.parts.length ≤ c ∧ c ≤ maxLen ∧ TL ex lo hi w A 0 t.parts := by
  cases t with
  | mk k n ps => rw [TN] at h; exact h
theorem TN.shut {ex : Bool} {lo hi : Nat} {w : World} {kk nn : Int} {A : Option Addr} {c : Nat} {t : Task} (h1 : ex = true → kk = t.kind ∧ nn = t.n) (h2 : t.parts.length ≤ c) (h3 : c ≤ maxLen) (h4 : TL ex lo hi w A 0 t.parts) : TN ex lo hi w (.int .i64 kk) (.int .i64 nn) (.slice A t.parts.length c) t := by
  cases t with
  | mk k n ps => rw [TN]; exact ⟨kk, nn, A, c, rfl, rfl, rfl, h1, h2, h3, h4⟩
theorem TL.get {ex : Bool} {lo hi : Nat} {w : World} {A : Option Addr} : ∀ {ps : List Task} {k : Nat}, TL ex lo hi w A k ps → ∀ i (h : i < ps.length), ∃ b o cur T x y z, A = some ⟨b, o, none⟩ ∧ lo ≤ b ∧ b < hi ∧ w.heap[b]? = some (.cells cur T (0, 0)) ∧ cur[o + (k + i) * 3]? = some x ∧ cur[o + (k + i) * 3 + 1]? = some y ∧ cur[o + (k + i) * 3 + 2]? = some z ∧ TN ex lo hi w x y z ps[i] := by
  intro ps
  induction ps with
  | nil => intro k _ i hi; simp at hi
  | cons t ts ih =>
    intro k h i hi
    rw [TL] at h
    cases i with
    | zero => exact h.1
    | succ i =>
      have := ih h.2 i (by simpa using hi)
      rw [show k + 1 + i = k + (i + 1) by omega] at this
      exact this
theorem TL.of {ex : Bool} {lo hi : Nat} {w : World} {A : Option Addr} : ∀ {ps : List Task} {k : Nat}, (∀ i (h : i < ps.length), ∃ b o cur T x y z, A = some ⟨b, o, none⟩ ∧ lo ≤ b ∧ b < hi ∧ w.heap[b]? = some (.cells cur T (0, 0)) ∧ cur[o + (k + i) * 3]? = some x ∧ cur[o + (k + i) * 3 + 1]? = some y ∧ cur[o + (k + i) * 3 + 2]? = some z ∧ TN ex lo hi w x y z ps[i]) → TL ex lo hi w A k ps := by
  intro ps
  induction ps with
  | nil => intro k _; rw [TL]; trivial
  | cons t ts ih =>
    intro k h
    rw [TL]
    refine ⟨h 0 (by simp), ih fun i hi => ?_⟩
    have := h (i + 1) (by simpa using hi)
    rw [show k + (i + 1) = k + 1 + i by omega] at this
    exact this
mutual
theorem TN.kept {ex : Bool} {lo hi lo' hi' : Nat} {w w' : World} (hk : ∀ b, lo ≤ b → b < hi → w'.heap[b]? = w.heap[b]?) (hl : lo' ≤ lo) (hh : hi ≤ hi') : ∀ (t : Task) (x y z : Value), TN ex lo hi w x y z t → TN ex lo' hi' w' x y z t
  | .mk k n ps, x, y, z, h => by
    rw [TN] at h ⊢
    obtain ⟨kk, nn, A, c, e1, e2, e3, h1, h2, h3, h4⟩ := h
    exact ⟨kk, nn, A, c, e1, e2, e3, h1, h2, h3, TL.kept hk hl hh ps A 0 h4⟩
theorem TL.kept {ex : Bool} {lo hi lo' hi' : Nat} {w w' : World} (hk : ∀ b, lo ≤ b → b < hi → w'.heap[b]? = w.heap[b]?) (hl : lo' ≤ lo) (hh : hi ≤ hi') : ∀ (ps : List Task) (A : Option Addr) (i : Nat), TL ex lo hi w A i ps → TL ex lo' hi' w' A i ps
  | [], A, i, _ => by rw [TL]; trivial
  | t :: ts, A, i, h => by
    rw [TL] at h ⊢
    obtain ⟨⟨b, o, cur, T, x, y, z, e, h1, h2, h3, h4, h5, h6, h7⟩, h8⟩ := h
    exact ⟨⟨b, o, cur, T, x, y, z, e, by omega, by omega, (hk b h1 h2).trans h3, h4, h5, h6, TN.kept hk hl hh t x y z h7⟩, TL.kept hk hl hh ts A (i + 1) h8⟩
end
mutual
theorem TN.weak {lo hi : Nat} {w : World} : ∀ (t : Task) (x y z : Value), TN true lo hi w x y z t → TN false lo hi w x y z t
  | .mk k n ps, x, y, z, h => by
    rw [TN] at h ⊢
    obtain ⟨kk, nn, A, c, e1, e2, e3, h1, h2, h3, h4⟩ := h
    exact ⟨kk, nn, A, c, e1, e2, e3, (fun h => by cases h), h2, h3, TL.weak ps A 0 h4⟩
theorem TL.weak {lo hi : Nat} {w : World} : ∀ (ps : List Task) (A : Option Addr) (i : Nat), TL true lo hi w A i ps → TL false lo hi w A i ps
  | [], A, i, _ => by rw [TL]; trivial
  | t :: ts, A, i, h => by
    rw [TL] at h ⊢
    obtain ⟨⟨b, o, cur, T, x, y, z, e, h1, h2, h3, h4, h5, h6, h7⟩, h8⟩ := h
    exact ⟨⟨b, o, cur, T, x, y, z, e, h1, h2, h3, h4, h5, h6, TN.weak t x y z h7⟩, TL.weak ts A (i + 1) h8⟩
end
mutual
theorem TN.is {lo hi B : Nat} {w : World} (hB : hi ≤ B) : ∀ (t : Task) (x y z : Value), TN true lo hi w x y z t → TaskIs B w (.agg #[x, y, z]) t
  | .mk k n ps, x, y, z, h => by
    rw [TN] at h
    rw [TaskIs]
    obtain ⟨kk, nn, A, c, rfl, rfl, rfl, h1, h2, h3, h4⟩ := h
    obtain ⟨rfl, rfl⟩ := h1 rfl
    exact ⟨A, c, rfl, h2, h3, TL.parts hB ps A 0 h4⟩
theorem TL.parts {lo hi B : Nat} {w : World} (hB : hi ≤ B) : ∀ (ps : List Task) (A : Option Addr) (i : Nat), TL true lo hi w A i ps → PartsIs B w A i ps
  | [], A, i, _ => by rw [PartsIs]; trivial
  | t :: ts, A, i, h => by
    rw [TL] at h
    rw [PartsIs]
    obtain ⟨⟨b, o, cur, T, x, y, z, e, h1, h2, h3, h4, h5, h6, h7⟩, h8⟩ := h
    exact ⟨⟨b, o, x, y, z, e, by omega, (cellm h3 _).trans h4, (cellm h3 _).trans h5, (cellm h3 _).trans h6, TN.is hB t x y z h7⟩, TL.parts hB ts A (i + 1) h8⟩
end
theorem cur_put {cur : Array Value} {j q : Nat} {u v old : Value} (hj : cur[j]? = some old) (hq : cur[q]? = some v) : (cur.setIfInBounds j u)[q]? = some (if q = j then u else v) := by
  have hlt := (Array.getElem?_eq_some_iff.1 hq).1
  rw [Array.getElem?_setIfInBounds]
  by_cases e : j = q
  · subst e; simp [hlt]
  · rw [if_neg e, if_neg (fun h => e h.symm), hq]
theorem TL.put_of {lo hi : Nat} {w : World} {b j : Nat} {cur : Array Value} {T : TypeId} {n0 : Int} (hb : w.heap[b]? = some (.cells cur T (0, 0))) (hj : cur[j]? = some (.int .i64 n0)) (n1 : Int) (ps : List Task)
    (ih : ∀ p ∈ ps, ∀ x y z, TN false lo hi w x y z p → TN false lo hi (w.setCell ⟨b, j, none⟩ (.int .i64 n1)) x y z p) (A : Option Addr) (h4 : TL false lo hi w A 0 ps) : TL false lo hi (w.setCell ⟨b, j, none⟩ (.int .i64 n1)) A 0 ps := by
  have hblk := setCell_block hb j (.int .i64 n1)
  have hfar := fun b' (hne : b' ≠ b) => setCell_far (w := w) (j := j) (v := .int .i64 n1) hne
  generalize w.setCell ⟨b, j, none⟩ (.int .i64 n1) = w' at *
  refine TL.of fun i hi => ?_
  obtain ⟨b', o, cur', T', x, y, z, e, g1, g2, g3, g4, g5, g6, g7⟩ := h4.get i hi
  have g7' := ih _ (List.getElem_mem hi) _ _ _ g7
  by_cases eb : b' = b
  · subst eb
    rw [g3] at hb
    cases hb
    obtain ⟨kk', nn', A', c', rfl, rfl, rfl, -⟩ := g7.open
    have ne : ¬ o + (0 + i) * 3 + 2 = j := fun e => by rw [e, hj] at g6; cases g6
    have c0 := cur_put (u := .int .i64 n1) hj g4
    have c1 := cur_put (u := .int .i64 n1) hj g5
    have c2 := cur_put (u := .int .i64 n1) hj g6
    rw [if_neg ne] at c2
    rw [← apply_ite (Value.int .i64)] at c0 c1
    obtain ⟨q1, q2, q3, q4, e1, e2, e3, p1, p2, p3, p4⟩ := g7'.open
    cases e1; cases e2; cases e3
    exact ⟨b', o, _, _, _, _, _, e, g1, g2, hblk, c0, c1, c2, TN.shut (fun h => by cases h) p2 p3 p4⟩
  · exact ⟨b', o, cur', T', x, y, z, e, g1, g2, (hfar b' eb).trans g3, g4, g5, g6, g7'⟩
/-- a number is written where a number stands: the shape stays -/
theorem TN.put {lo hi : Nat} {w : World} {b j : Nat} {cur : Array Value} {T : TypeId} {n0 : Int} (hb : w.heap[b]? = some (.cells cur T (0, 0))) (hj : cur[j]? = some (.int .i64 n0)) (n1 : Int) : ∀ (t : Task) (x y z : Value), TN false lo hi w x y z t → TN false lo hi (w.setCell ⟨b, j, none⟩ (.int .i64 n1)) x y z t := by
  refine Task.ind ?_
  intro k n ps ih x y z h
  obtain ⟨kk, nn, A, c, rfl, rfl, rfl, h1, h2, h3, h4⟩ := h.open
  exact TN.shut h1 h2 h3 (TL.put_of hb hj n1 ps ih A h4)
theorem TL.put {lo hi : Nat} {w : World} {b j : Nat} {cur : Array Value} {T : TypeId} {n0 : Int} (hb : w.heap[b]? = some (.cells cur T (0, 0))) (hj : cur[j]? = some (.int .i64 n0)) (n1 : Int) (ps : List Task) (A : Option Addr) (h : TL false lo hi w A 0 ps) : TL false lo hi (w.setCell ⟨b, j, none⟩ (.int .i64 n1)) A 0 ps :=
  TL.put_of hb hj n1 ps (fun p _ => TN.put hb hj n1 p) A h
theorem TL.up {ex : Bool} {lo : Nat} {w w' : World} {A : Option Addr} {i : Nat} {ps : List Task} (h : TL ex lo w.heap.size w A i ps) (hb : Below w.heap.size w w') : TL ex lo w'.heap.size w' A i ps :=
  TL.kept (fun b _ hlt => hb.block b hlt) (Nat.le_refl _) hb.size ps A i h
/-- make of a row of tasks -/
theorem make_tasks (n : Nat) (hn : n ≤ 1048576) : ∀ W : World, (Instr.makeSlice 24 (.int .i64 (n : Int)) (.int .i64 (n : Int))).run Try.prog W = .ok (.slice (some ⟨W.heap.size, 0, none⟩) n n) (W.alloc (.cells (madeCells #[.int .i64 0, .int .i64 0, .slice none 0 0] (n * 3)) 36)) := by
  intro W
  have hinfo : (Try.prog.info? 36).map (fun i => (i.zero, i.size, i.bytes)) = some (some (.agg #[.int .i64 0, .int .i64 0, .slice none 0 0]), 3, 40) := by kernel_rfl
  obtain ⟨i, hi, hz, hs, hb⟩ := info_parts hinfo
  have hr := run_make (P := Try.prog) W 24 36 i (.agg #[.int .i64 0, .int .i64 0, .slice none 0 0]) Try.underlying24 hi hz .i64 .i64 n n (by omega) (Int.le_refl _) (by rw [hb]; omega) (by omega)
  simp only [Int.toNat_natCast, hs] at hr
  exact hr
theorem parts_len : ∀ (ps : List Task), (ps.length : Int) ≤ nodesL ps
  | [] => by simp [nodesL]
  | p :: ps => by
    rw [nodesL]
    have := parts_len ps
    have := nodes_pos p
    simp; omega
theorem nodesL_at : ∀ {ps : List Task} {i : Nat} (h : i < ps.length), nodes ps[i] ≤ nodesL ps
  | [], i, h => by simp at h
  | p :: ps, i, h => by
    rw [nodesL]
    cases i with
    | zero => have := nodesL_pos ps; simp; omega
    | succ i =>
      have := nodesL_at (ps := ps) (i := i) (by simpa using h)
      have := nodes_pos p
      simp; omega
theorem nodesL_snoc : ∀ (ps : List Task) (t : Task), nodesL (ps ++ [t]) = nodesL ps + nodes t
  | [], t => by simp [nodesL]
  | p :: ps, t => by rw [List.cons_append, nodesL, nodesL, nodesL_snoc ps t]; omega
theorem nodes_parts (t : Task) : nodes t = 1 + nodesL t.parts := by cases t with | mk k n ps => rw [nodes]; rfl
end Go.Proofs.Ytagmdljdcnmpdaa
