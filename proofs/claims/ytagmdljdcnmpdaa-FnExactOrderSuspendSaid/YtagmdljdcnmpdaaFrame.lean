import Derived.Test.YtagmdljdcnmpdaaBase
import Derived.Test.YtagmdljdcnmpdaaProg
import Derived.OpenShut
import Derived.Deep.Slices
import Derived.Deep.Fields
set_option linter.unusedVariables false
namespace Go.Proofs.Ytagmdljdcnmpdaa
open Go Go.RowKit Go.ChangeShapes Go.WideShapes Go.Deep

/-! what came in, read off the frame -/
section
variable {H : Type} {enc : TypeId × Value → H} {P : Program} {w : World} {base : Nat} {spare : Nat → Bool} {held : Bool}
theorem row_open {t e : TypeId} {fuel : Nat} {c : Value} {x : DataW H × List MemPlace} (ht : P.underlying t = some (.slice e)) (h : DataW.trod enc P w base spare held fuel t [c] = some x) :
    c = .slice none 0 0 ∨ ∃ (a : Addr) (len cap n : Nat), fuel = n + 1 ∧ c = .slice (some a) len cap ∧ len ≤ cap ∧ cap ≤ maxLen ∧ ∀ i, i < len → ∃ cs y, cs.length = P.cellsOf e ∧ (∀ q, q < P.cellsOf e → w.cell? ((a.add (i * P.cellsOf e)).add q) = cs[q]?) ∧ DataW.trod enc P w base spare held n e cs = some y := by
  rcases DataW.trod_slice ht h with ⟨h0, _⟩ | ⟨a, len, cap, elems, rest, n, hf, hcs, hx, hb, hl, hm, hlen, hel, _⟩
  · left; simpa using h0
  · right
    refine ⟨a, len, cap, n, hf, by simpa using hcs, hl, hm, fun i hi => ?_⟩
    have h1 := hel i hi
    rw [List.getElem?_eq_getElem (by omega)] at h1
    obtain ⟨cs, h2, h3⟩ := Option.bind_eq_some_iff.1 h1
    obtain ⟨_, h4, h5⟩ := World.cells?_some h2
    exact ⟨cs, _, h4, h5, h3⟩
theorem addr_plain {a : Addr} {i : Nat} {v : Value} (h : w.cell? (a.add i) = some v) (h0 : i = 0 ∨ ∃ v0, w.cell? a = some v0) : ∃ b o, a = ⟨b, o, none⟩ := by
  obtain ⟨b, o, s⟩ := a
  rcases h0 with rfl | ⟨v0, h0⟩
  · have := World.cell?_spot h
    simp [Addr.add] at this
    exact ⟨b, o, by rw [this]⟩
  · have := World.cell?_spot h0
    simp at this
    exact ⟨b, o, by rw [this]⟩
/-- a row of one-cell elements -/
theorem one_open {α : Type} {f : α → Value} {t e : TypeId} {fuel : Nat} {c : Value} {x : DataW H × List MemPlace} (ht : P.underlying t = some (.slice e)) (hc : P.cellsOf e = 1)
    (he : ∀ n cs y, DataW.trod enc P w base spare held n e cs = some y → ∃ u, cs = [f u]) (h : DataW.trod enc P w base spare held fuel t [c] = some x) :
    ∃ A len cap xs, c = .slice A len cap ∧ xs.length = len ∧ len ≤ cap ∧ cap ≤ maxLen ∧ RowAt f w.heap.size w A xs := by
  rcases row_open ht h with rfl | ⟨a, len, cap, n, -, rfl, hl, hm, hi⟩
  · exact ⟨none, 0, 0, [], rfl, rfl, Nat.le_refl _, by simp [maxLen], RowAt.nil _ _ _ _⟩
  rw [hc] at hi
  have hv : ∀ i, i < len → ∃ u, w.cell? (a.add i) = some (f u) := by
    intro i hlt
    obtain ⟨cs, y, h1, h2, h3⟩ := hi i hlt
    obtain ⟨u, rfl⟩ := he _ _ _ h3
    have := h2 0 (by omega)
    rw [Nat.mul_one] at this
    exact ⟨u, by simpa [Addr.add] using this⟩
  obtain ⟨V, hV⟩ : ∃ V : (i : Nat) → i < len → α, ∀ i h, w.cell? (a.add i) = some (f (V i h)) := ⟨fun i h => (hv i h).choose, fun i h => (hv i h).choose_spec⟩
  refine ⟨some a, len, cap, (List.range len).attach.map (fun i => V i.1 (List.mem_range.1 i.2)), rfl, by simp, hl, hm, fun i hlt => ?_⟩
  have hlt' : i < len := by simpa using hlt
  have h0 := hV 0 (by omega)
  obtain ⟨b, o, rfl⟩ := addr_plain h0 (.inl rfl)
  have h1 := hV i hlt'
  have e : (⟨b, o, none⟩ : Addr).add i = ⟨b, o + i, none⟩ := add_plain ..
  rw [e] at h1
  exact ⟨b, o, rfl, World.block_lt_of_cell? w _ h1, by simpa using h1⟩
theorem bools_open {t e : TypeId} {fuel : Nat} {c : Value} {x : DataW H × List MemPlace} (ht : P.underlying t = some (.slice e)) (he : P.underlying e = some .bool) (hc : P.cellsOf e = 1) (h : DataW.trod enc P w base spare held fuel t [c] = some x) :
    ∃ A len cap xs, c = .slice A len cap ∧ xs.length = len ∧ len ≤ cap ∧ cap ≤ maxLen ∧ BoolsAt w.heap.size w A xs :=
  one_open ht hc (fun n cs y hy => by obtain ⟨b, rfl, _⟩ := DataW.trod_bool he hy; exact ⟨b, rfl⟩) h
theorem ints_open {t e : TypeId} {fuel : Nat} {c : Value} {x : DataW H × List MemPlace} (ht : P.underlying t = some (.slice e)) (he : P.underlying e = some (.int .i64)) (hc : P.cellsOf e = 1) (h : DataW.trod enc P w base spare held fuel t [c] = some x) :
    ∃ A len cap xs, c = .slice A len cap ∧ xs.length = len ∧ len ≤ cap ∧ cap ≤ maxLen ∧ IntsAt w.heap.size w A xs :=
  one_open ht hc (fun n cs y hy => by obtain ⟨k, rfl, _⟩ := DataW.trod_int he hy; exact ⟨k, rfl⟩) h

/-- a tree of tasks: of any struct of two numbers and a row of such -/
theorem tasks_open {t e ti : TypeId} {fs : Array Field} (ht : P.underlying t = some (.slice e)) (he : P.underlying e = some (.struct fs)) (hc : P.cellsOf e = 3) (hti : P.underlying ti = some (.int .i64)) (hci : P.cellsOf ti = 1) (hct : P.cellsOf t = 1)
    (h0 : ∃ f, fs[0]? = some f ∧ f.type = ti ∧ f.offset = 0) (h1 : ∃ f, fs[1]? = some f ∧ f.type = ti ∧ f.offset = 1) (h2 : ∃ f, fs[2]? = some f ∧ f.type = t ∧ f.offset = 2) :
    ∀ (fuel : Nat) (c : Value) (x : DataW H × List MemPlace), DataW.trod enc P w base spare held fuel t [c] = some x → ∃ A len cap ps, c = .slice A len cap ∧ ps.length = len ∧ len ≤ cap ∧ cap ≤ maxLen ∧ PartsIs w.heap.size w A 0 ps := by
  intro fuel
  induction fuel using Nat.strongRecOn with
  | ind fuel ih =>
  intro c x h
  rcases row_open ht h with rfl | ⟨a, len, cap, n, rfl, rfl, hl, hm, hi⟩
  · exact ⟨none, 0, 0, [], rfl, rfl, Nat.le_refl _, by simp [maxLen], by rw [PartsIs]; trivial⟩
  rw [hc] at hi
  have hv : ∀ i, i < len → ∃ k m A' c' ps, w.cell? ((a.add (i * 3)).add 0) = some (.int .i64 k) ∧ w.cell? ((a.add (i * 3)).add 1) = some (.int .i64 m) ∧ w.cell? ((a.add (i * 3)).add 2) = some (.slice A' (List.length ps) c') ∧ List.length ps ≤ c' ∧ c' ≤ maxLen ∧ PartsIs w.heap.size w A' 0 ps := by
    intro i hlt
    obtain ⟨cs, y, g1, g2, g3⟩ := hi i hlt
    obtain ⟨ys, n', hn', -, -, hys, hf⟩ := DataW.trod_struct he g3
    match cs, g1 with
    | [c0, c1, c2], _ =>
      obtain ⟨f0, e0, t0, o0⟩ := h0
      obtain ⟨f1, e1, t1, o1⟩ := h1
      obtain ⟨f2, e2, t2, o2⟩ := h2
      have q0 := hf 0 f0 e0
      have q1 := hf 1 f1 e1
      have q2 := hf 2 f2 e2
      have l0 := (Array.getElem?_eq_some_iff.1 e0).1
      have l1 := (Array.getElem?_eq_some_iff.1 e1).1
      have l2 := (Array.getElem?_eq_some_iff.1 e2).1
      rw [t0, o0, hci, List.getElem?_eq_getElem (by omega)] at q0
      rw [t1, o1, hci, List.getElem?_eq_getElem (by omega)] at q1
      rw [t2, o2, hct, List.getElem?_eq_getElem (by omega)] at q2
      simp only [List.drop_zero, List.drop_succ_cons, List.take_succ_cons, List.take_zero] at q0 q1 q2
      obtain ⟨k, r0, -⟩ := DataW.trod_int hti q0
      obtain ⟨m, r1, -⟩ := DataW.trod_int hti q1
      obtain ⟨A', len', cap', ps, r2, p1, p2, p3, p4⟩ := ih n' (by omega) c2 _ q2
      simp only [List.cons.injEq, and_true] at r0 r1
      subst r0 r1 r2 p1
      exact ⟨k, m, A', cap', ps, by simpa using g2 0 (by omega), by simpa using g2 1 (by omega), by simpa using g2 2 (by omega), p2, p3, p4⟩
  obtain ⟨T, hT⟩ : ∃ T : (i : Nat) → i < len → Task, ∀ i h, ∃ A' c', w.cell? ((a.add (i * 3)).add 0) = some (.int .i64 (T i h).kind) ∧ w.cell? ((a.add (i * 3)).add 1) = some (.int .i64 (T i h).n) ∧ w.cell? ((a.add (i * 3)).add 2) = some (.slice A' (T i h).parts.length c') ∧ (T i h).parts.length ≤ c' ∧ c' ≤ maxLen ∧ PartsIs w.heap.size w A' 0 (T i h).parts := by
    have hv' : ∀ i, i < len → ∃ t : Task, ∃ A' c', w.cell? ((a.add (i * 3)).add 0) = some (.int .i64 t.kind) ∧ w.cell? ((a.add (i * 3)).add 1) = some (.int .i64 t.n) ∧ w.cell? ((a.add (i * 3)).add 2) = some (.slice A' t.parts.length c') ∧ t.parts.length ≤ c' ∧ c' ≤ maxLen ∧ PartsIs w.heap.size w A' 0 t.parts := fun i hlt => by
      obtain ⟨k, m, A', c', ps, q⟩ := hv i hlt
      exact ⟨.mk k m ps, A', c', q⟩
    exact ⟨fun i h => (hv' i h).choose, fun i h => (hv' i h).choose_spec⟩
  obtain ⟨qs, hlen, hget⟩ : ∃ qs : List Task, qs.length = len ∧ ∀ i (h : i < len) (h2 : i < qs.length), qs[i] = T i h := ⟨(List.range len).attach.map (fun i => T i.1 (List.mem_range.1 i.2)), by simp, fun i h h2 => by simp⟩
  refine ⟨some a, len, cap, qs, rfl, hlen, hl, hm, ?_⟩
  have hstep : ∀ (l : List Task) (k : Nat), (∀ i (h : i < l.length), ∃ h2 : k + i < len, l[i] = T (k + i) h2) → PartsIs w.heap.size w (some a) k l := by
    intro l
    induction l with
    | nil => intro k _; rw [PartsIs]; trivial
    | cons t ts ihl =>
      intro k hk
      rw [PartsIs]
      refine ⟨?_, ihl (k + 1) fun i h => ?_⟩
      · obtain ⟨h2, e⟩ := hk 0 (by simp)
        simp only [List.getElem_cons_zero, Nat.add_zero] at e h2
        obtain ⟨A', c', q0, q1, q2, q3, q4, q5⟩ := hT k h2
        obtain ⟨A0, c0, r0, -⟩ := hT 0 (by omega)
        rw [Nat.zero_mul] at r0
        have r0' : w.cell? (a.add 0) = some (.int .i64 (T 0 (by omega)).kind) := by simpa [Addr.add] using r0
        obtain ⟨b, o, rfl⟩ := addr_plain r0' (.inl rfl)
        simp only [add_plain] at q0 q1 q2
        rw [e]
        refine ⟨b, o, _, _, _, rfl, World.block_lt_of_cell? w _ q0, q0, q1, q2, ?_⟩
        generalize T k h2 = tk at *
        cases tk with
        | mk k' n' ps' => rw [TaskIs]; exact ⟨A', c', rfl, q3, q4, q5⟩
      · obtain ⟨h2, e⟩ := hk (i + 1) (by simpa using h)
        exact ⟨by omega, by simpa [Nat.add_assoc, Nat.add_comm 1 i] using e⟩
  exact hstep qs 0 fun i h => ⟨by omega, by rw [hget i (by omega) h]; simp⟩
end
end Go.Proofs.Ytagmdljdcnmpdaa
