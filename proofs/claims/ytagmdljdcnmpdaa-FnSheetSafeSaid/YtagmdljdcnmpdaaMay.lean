import Derived.Test.YtagmdljdcnmpdaaSpecBuild
set_option linter.unusedVariables false
set_option linter.unusedSimpArgs false
namespace Go.Proofs.Ytagmdljdcnmpdaa
open Go Go.RowKit

/-! what a task may fetch -/
mutual
def mayTask : Task → Int → Bool
  | .mk k n ps, i => (decide (k = 1) && decide (i = n)) || (decide (k = 5) && decide (0 ≤ i ∧ i ≤ 9)) || mayTaskL ps i
def mayTaskL : List Task → Int → Bool
  | [], _ => false
  | p :: ps, i => mayTask p i || mayTaskL ps i
end
def Itr.In (P : Int → Prop) : Itr → Prop
  | .done _ => True
  | .ask k c => P k ∧ ∀ x, (c x).In P
theorem Itr.In_mono {P Q : Int → Prop} (h : ∀ k, P k → Q k) : ∀ m : Itr, m.In P → m.In Q := by
  intro m
  induction m with
  | done v => intro _; trivial
  | ask k c ih => intro hm; exact ⟨h k hm.1, fun x => ih x (hm.2 x)⟩
theorem Itr.bind_In {P : Int → Prop} : ∀ (m : Itr) (g : Int → Itr), m.In P → (∀ x, (g x).In P) → (m.bind g).In P := by
  intro m
  induction m with
  | done v => intro g _ hg; exact hg v
  | ask k c ih => intro g hm hg; exact ⟨hm.1, fun x => ih x g (hm.2 x) hg⟩
theorem Tk.itr_In : ∀ t : Tk, t.itr.In (fun k => mayTask t.enc k = true) := by
  intro t
  induction t with
  | num n => trivial
  | get k => exact ⟨by simp [Tk.enc, mayTask], fun _ => trivial⟩
  | add a b iha ihb => exact Itr.bind_In _ _ (Itr.In_mono (fun k h => by simp [Tk.enc, mayTask, mayTaskL, h]) _ iha) fun x => Itr.bind_In _ _ (Itr.In_mono (fun k h => by simp [Tk.enc, mayTask, mayTaskL, h]) _ ihb) fun y => trivial
  | mul a b iha ihb => exact Itr.bind_In _ _ (Itr.In_mono (fun k h => by simp [Tk.enc, mayTask, mayTaskL, h]) _ iha) fun x => Itr.bind_In _ _ (Itr.In_mono (fun k h => by simp [Tk.enc, mayTask, mayTaskL, h]) _ ihb) fun y => trivial
  | cond a b d iha ihb ihd =>
    refine Itr.bind_In _ _ (Itr.In_mono (fun k h => by simp [Tk.enc, mayTask, mayTaskL, h]) _ iha) fun x => ?_
    split
    · exact Itr.In_mono (fun k h => by simp [Tk.enc, mayTask, mayTaskL, h]) _ ihb
    · exact Itr.In_mono (fun k h => by simp [Tk.enc, mayTask, mayTaskL, h]) _ ihd
  | ix n a iha =>
    refine Itr.bind_In _ _ (Itr.In_mono (fun k h => by simp [Tk.enc, mayTask, mayTaskL, h]) _ iha) fun x => ⟨?_, fun _ => trivial⟩
    have h1 : 0 ≤ (n + x) % 10 ∧ (n + x) % 10 ≤ 9 := by omega
    simp [Tk.enc, mayTask, h1]
theorem Itr.run_fail {σ : Type} {f : σ → Int → (Int × Bool) × σ} {P : Int → Prop} {G : σ → Prop} (h : ∀ s k, P k → (f s k).1.2 = false → G (f s k).2) : ∀ (m : Itr) (s : σ), m.In P → (m.run f s).1.2 = false → G (m.run f s).2 := by
  intro m
  induction m with
  | done v => intro s _ hr; simp [Itr.run] at hr
  | ask k c ih =>
    intro s hm hr
    by_cases h1 : (f s k).1.2 = true
    · rw [Itr.run_yes h1] at hr ⊢; exact ih _ _ (hm.2 _) hr
    · rw [Itr.run_no h1]; exact h s k hm.1 (by simpa using h1)

/-! a circle -/
def Cyc (S : Sh) (l : List Int) : Prop := l ≠ [] ∧ ∀ i (h : i < l.length), mkK S.made l[i] = true ∧ mayTask (S.tk l[i]).enc (l[(i + 1) % l.length]'(Nat.mod_lt _ (by omega))) = true
/-- each key under way may fetch the next one, the last one k -/
structure Chain (S : Sh) (u : List Int) (k : Int) : Prop where
  made : ∀ x ∈ u, mkK S.made x = true
  next : ∀ i (h : i + 1 < u.length), mayTask (S.tk u[i]).enc u[i + 1] = true
  last : ∀ i (h : i < u.length), i + 1 = u.length → mayTask (S.tk u[i]).enc k = true
theorem Chain.push {S : Sh} {u : List Int} {k d : Int} (h : Chain S u k) (hk : mkK S.made k = true) (hd : mayTask (S.tk k).enc d = true) : Chain S (u ++ [k]) d := by
  refine ⟨fun x hx => ?_, fun i hi => ?_, fun i hi he => ?_⟩
  · rcases List.mem_append.1 hx with h1 | h1
    · exact h.made x h1
    · rw [List.mem_singleton.1 h1]; exact hk
  · simp only [List.length_append, List.length_cons, List.length_nil] at hi
    have h1 : i < u.length := by omega
    rw [List.getElem_append_left h1]
    by_cases h2 : i + 1 < u.length
    · rw [List.getElem_append_left h2]; exact h.next i h2
    · have h3 : i + 1 = u.length := by omega
      have : (u ++ [k])[i + 1]'(by simp; omega) = k := by simp [h3]
      rw [this]; exact h.last i h1 h3
  · simp only [List.length_append, List.length_cons, List.length_nil] at hi he
    have h3 : i = u.length := by omega
    have : (u ++ [k])[i]'(by simp; omega) = k := by simp [h3]
    rw [this]; exact hd
theorem idx_spec {u : List Int} {k : Int} (h : 0 ≤ idx (fun x => k == x) u) : ∃ (j : Nat) (hj : j < u.length), idx (fun x => k == x) u = j ∧ u[j] = k := by
  obtain ⟨j, hj, hjl⟩ := idx_lt h
  refine ⟨j, hjl, hj, ?_⟩
  unfold idx at hj
  cases e : u.findIdx? (fun x => k == x) with
  | none => rw [e] at hj; simp at hj
  | some i =>
    rw [e] at hj
    simp only at hj
    have hi : i = j := by omega
    subst hi
    rw [List.findIdx?_eq_some_iff_getElem] at e
    obtain ⟨h1, h2, _⟩ := e
    simp only [beq_iff_eq] at h2
    exact h2.symm
theorem chain_cyc {S : Sh} {u : List Int} {k : Int} (h : Chain S u k) (ho : 0 ≤ idx (fun x => k == x) u) : Cyc S (u.drop (idx (fun x => k == x) u).toNat) := by
  obtain ⟨j, hj, e, hk⟩ := idx_spec ho
  rw [e, Int.toNat_natCast]
  refine ⟨fun e2 => ?_, fun i hi => ?_⟩
  · have := congrArg List.length e2
    simp at this; omega
  · simp only [List.length_drop] at hi
    have h1 : j + i < u.length := by omega
    have e1 : (u.drop j)[i]'(by simp; omega) = u[j + i] := by simp
    rw [e1]
    refine ⟨h.made _ (List.getElem_mem _), ?_⟩
    by_cases h2 : i + 1 < u.length - j
    · have e3 : (i + 1) % (u.drop j).length = i + 1 := Nat.mod_eq_of_lt (by simp; omega)
      have e4 : (u.drop j)[(i + 1) % (u.drop j).length]'(Nat.mod_lt _ (by simp; omega)) = u[j + i + 1] := by
        simp only [e3, List.getElem_drop]; rfl
      rw [e4]
      exact h.next (j + i) (by omega)
    · have e3 : (i + 1) % (u.drop j).length = 0 := by
        have : i + 1 = (u.drop j).length := by simp; omega
        rw [this, Nat.mod_self]
      have e4 : (u.drop j)[(i + 1) % (u.drop j).length]'(Nat.mod_lt _ (by simp; omega)) = k := by
        simp only [e3, List.getElem_drop]; simpa using hk
      rw [e4]
      exact h.last (j + i) h1 (by omega)
theorem spec_cyc {S : Sh} : ∀ (n : Nat) (u c : List Int) (k : Int), UOk S n u → Chain S u k → (specP S n u c k).1.2 = false → Cyc S (specP S n u c k).2 := by
  intro n
  induction n with
  | zero =>
    intro u c k hu hc h
    by_cases hm : mkK S.made k = false
    · rw [specP_unmade hm] at h; cases h
    · have hm' : mkK S.made k = true := by simpa using hm
      by_cases ho : 0 ≤ idx (fun x => k == x) u
      · rw [specP_under hm' ho]; exact chain_cyc hc ho
      · exfalso
        have hkr := mkK_range hm
        have h1 : (k :: u).Nodup := List.nodup_cons.2 ⟨not_open ho, hu.nodup⟩
        have h2 := nodup_bound (n := S.made.length) h1 (fun x hx => by
          rcases List.mem_cons.1 hx with rfl | hx
          · exact hkr
          · exact hu.range x hx)
        have h3 := hu.fuel
        simp at h2
        omega
  | succ n ih =>
    intro u c k hu hc h
    by_cases hm : mkK S.made k = false
    · rw [specP_unmade hm] at h; cases h
    · have hm' : mkK S.made k = true := by simpa using hm
      by_cases ho : 0 ≤ idx (fun x => k == x) u
      · rw [specP_under hm' ho]; exact chain_cyc hc ho
      · rw [specP_new hm' ho] at h ⊢
        exact Itr.run_fail (fun c d hd hf => ih _ c d (hu.push (not_open ho) (mkK_range hm)) (hc.push hm' hd) hf) _ c (Tk.itr_In _) h
theorem chain0 (S : Sh) (k : Int) : Chain S [] k := ⟨fun x hx => (by cases hx), fun i hi => (by simp at hi), fun i hi => (by simp at hi)⟩
end Go.Proofs.Ytagmdljdcnmpdaa
