import Derived.Test.YtkbblekengdhaaaProg
import Derived.Maps.OwnSet
import Derived.Deep.AppendLies
import Derived.WalkSpells
import Derived.Deep.RegionLaw
import Derived.Test.YtkbblekengdhaaaPk1Told
set_option linter.unusedVariables false
set_option linter.unusedSimpArgs false
namespace Go.Proofs.Ytkbblekengdhaaa
open Go Go.RowKit

/-! building keys: the plain function -/
structure MkSt where
  known : Int → Option Int
  open_ : List Int
  circle : List Int
  order : List Int
/-- a sheet's keys and inputs -/
structure Sh where
  made : List Bool
  tks : List Tk
  inputs : List Int
instance : Inhabited Tk := ⟨.num 0⟩
def Sh.tk (S : Sh) (k : Int) : Tk := S.tks.getD k.toNat (.num 0)
def upd (f : Int → Option Int) (k y : Int) : Int → Option Int := fun j => if j = k then some y else f j

def keyP (S : Sh) : Nat → MkSt → Int → (Int × Bool) × MkSt
  | n, st, k =>
    if mkK S.made k = false then ((atK S.inputs k, true), st)
    else match st.known k with
      | some v => ((v, true), st)
      | none =>
        if 0 ≤ idx (fun x => k == x) st.open_ then ((0, false), { st with circle := st.open_.drop (idx (fun x => k == x) st.open_).toNat })
        else match n with
          | 0 => ((0, false), st)
          | n + 1 =>
            let r := (S.tk k).run (keyP S n) { st with open_ := st.open_ ++ [k] }
            if r.1.2 then ((r.1.1, true), { r.2 with open_ := r.2.open_.dropLast, known := upd r.2.known k r.1.1, order := r.2.order ++ [k] })
            else ((0, false), r.2)

/-- what holds of a run whose fetches keep it -/
theorem Tk.run_keeps {σ : Type} {f : σ → Int → (Int × Bool) × σ} {J : σ → Prop} (hJ : ∀ s k, J s → 0 ≤ k → k ≤ 9 → J (f s k).2) : ∀ (t : Tk) (s : σ), t.ok → J s → J (t.run f s).2 := by
  intro t
  induction t with
  | num n => intro s _ h; exact h
  | get k => intro s hk h; exact hJ s k h hk.1 hk.2
  | add a b iha ihb =>
    intro s hk h
    have h1 := iha s hk.1 h
    simp only [Tk.run]
    split
    · have h2 := ihb _ hk.2 h1
      split <;> exact h2
    · exact h1
  | mul a b iha ihb =>
    intro s hk h
    have h1 := iha s hk.1 h
    simp only [Tk.run]
    split
    · have h2 := ihb _ hk.2 h1
      split <;> exact h2
    · exact h1
  | cond a b d iha ihb ihd =>
    intro s hk h
    have h1 := iha s hk.1 h
    simp only [Tk.run]
    split
    · split
      · exact ihb _ hk.2.1 h1
      · exact ihd _ hk.2.2 h1
    · exact h1
  | ix n a iha =>
    intro s hk h
    have h1 := iha s hk.2.2 h
    simp only [Tk.run]
    split
    · exact hJ _ _ h1 (by omega) (by omega)
    · exact h1

/-- what a run that goes through leaves, if its fetches that go through do; and the bounds of what it gives -/
theorem Tk.run_gives {σ : Type} {f : σ → Int → (Int × Bool) × σ} {J : σ → Prop} {R : σ → σ → Prop} (hJ : ∀ s k, J s → 0 ≤ k → k ≤ 9 → J (f s k).2) (hR0 : ∀ s, R s s) (hR1 : ∀ a b c, R a b → R b c → R a c)
    (hR : ∀ s k, J s → 0 ≤ k → k ≤ 9 → (f s k).1.2 = true → R s (f s k).2) :
    ∀ (t : Tk) (s : σ), t.ok → J s → (t.run f s).1.2 = true → R s (t.run f s).2 := by
  intro t
  induction t with
  | num n => intro s _ h _; exact hR0 s
  | get k => intro s hk h ho; exact hR s k h hk.1 hk.2 ho
  | add a b iha ihb =>
    intro s hk h ho
    have j1 := Tk.run_keeps hJ a s hk.1 h
    simp only [Tk.run] at ho ⊢
    by_cases h1 : (a.run f s).1.2 = true
    · rw [if_pos h1] at ho ⊢
      by_cases h2 : (b.run f (a.run f s).2).1.2 = true
      · rw [if_pos h2] at ho ⊢
        exact hR1 _ _ _ (iha s hk.1 h h1) (ihb _ hk.2 j1 h2)
      · rw [if_neg h2] at ho; cases ho
    · rw [if_neg h1] at ho; cases ho
  | mul a b iha ihb =>
    intro s hk h ho
    have j1 := Tk.run_keeps hJ a s hk.1 h
    simp only [Tk.run] at ho ⊢
    by_cases h1 : (a.run f s).1.2 = true
    · rw [if_pos h1] at ho ⊢
      by_cases h2 : (b.run f (a.run f s).2).1.2 = true
      · rw [if_pos h2] at ho ⊢
        exact hR1 _ _ _ (iha s hk.1 h h1) (ihb _ hk.2 j1 h2)
      · rw [if_neg h2] at ho; cases ho
    · rw [if_neg h1] at ho; cases ho
  | cond a b d iha ihb ihd =>
    intro s hk h ho
    have j1 := Tk.run_keeps hJ a s hk.1 h
    simp only [Tk.run] at ho ⊢
    by_cases h1 : (a.run f s).1.2 = true
    · rw [if_pos h1] at ho ⊢
      split at ho
      · rename_i h2
        rw [if_pos h2]
        exact hR1 _ _ _ (iha s hk.1 h h1) (ihb _ hk.2.1 j1 ho)
      · rename_i h2
        rw [if_neg h2]
        exact hR1 _ _ _ (iha s hk.1 h h1) (ihd _ hk.2.2 j1 ho)
    · rw [if_neg h1] at ho; cases ho
  | ix n a iha =>
    intro s hk h ho
    have j1 := Tk.run_keeps hJ a s hk.2.2 h
    simp only [Tk.run] at ho ⊢
    by_cases h1 : (a.run f s).1.2 = true
    · rw [if_pos h1] at ho ⊢
      exact hR1 _ _ _ (iha s hk.2.2 h h1) (hR _ _ j1 (by omega) (by omega) ho)
    · rw [if_neg h1] at ho; cases ho

/-- what a run gives is a value, if what is fetched is -/
theorem Tk.run_value {σ : Type} {f : σ → Int → (Int × Bool) × σ} {J : σ → Prop} (hJ : ∀ s k, J s → 0 ≤ k → k ≤ 9 → J (f s k).2) (hv : ∀ s k, J s → 0 ≤ k → k ≤ 9 → 0 ≤ (f s k).1.1 ∧ (f s k).1.1 ≤ 96) :
    ∀ (t : Tk) (s : σ), t.ok → J s → 0 ≤ (t.run f s).1.1 ∧ (t.run f s).1.1 ≤ 96 := by
  intro t
  induction t with
  | num n => intro s hk _; exact hk
  | get k => intro s hk h; exact hv s k h hk.1 hk.2
  | add a b iha ihb =>
    intro s hk h
    simp only [Tk.run]
    split
    · split
      · exact ⟨by simp only []; omega, by simp only []; omega⟩
      · exact ⟨by simp, by simp⟩
    · exact ⟨by simp, by simp⟩
  | mul a b iha ihb =>
    intro s hk h
    simp only [Tk.run]
    split
    · split
      · exact ⟨Int.emod_nonneg _ (by omega), by have := Int.emod_lt_of_pos ((a.run f s).1.1 * (b.run f (a.run f s).2).1.1) (show (0:Int) < 97 by omega); simp only []; omega⟩
      · exact ⟨by simp, by simp⟩
    · exact ⟨by simp, by simp⟩
  | cond a b d iha ihb ihd =>
    intro s hk h
    have j1 := Tk.run_keeps hJ a s hk.1 h
    simp only [Tk.run]
    split
    · split
      · exact ihb _ hk.2.1 j1
      · exact ihd _ hk.2.2 j1
    · exact ⟨by simp, by simp⟩
  | ix n a iha =>
    intro s hk h
    have j1 := Tk.run_keeps hJ a s hk.2.2 h
    simp only [Tk.run]
    split
    · exact hv _ _ j1 (by omega) (by omega)
    · exact ⟨by simp, by simp⟩

/-! sheets -/
def sheetOkL : List Bool → List Task → Bool
  | m :: ms, t :: ts => okT t && (m || (t.kind == 0 && t.n == 0)) && sheetOkL ms ts
  | _, _ => true
theorem sheetOkL_cons (m : Bool) (ms : List Bool) (t : Task) (ts : List Task) : sheetOkL (m :: ms) (t :: ts) = (okT t && (m || (t.kind == 0 && t.n == 0)) && sheetOkL ms ts) := rfl
theorem sheetOkL_nil : sheetOkL [] [] = true := rfl
def sheetOk (made : List Bool) (tasks : List Task) : Bool := decide (made.length = tasks.length) && decide (made.length ≤ 10) && sheetOkL made tasks

/-- a sheet and its inputs that are ones -/
structure Sh.Ok (S : Sh) : Prop where
  len : S.made.length = S.tks.length
  ten : S.made.length ≤ 10
  tks : ∀ t ∈ S.tks, t.ok
  ins : S.inputs.length = S.made.length
  vals : ∀ x ∈ S.inputs, 0 ≤ x ∧ x ≤ 96
  sheet : sheetOk S.made (S.tks.map Tk.enc) = true

structure Inv (S : Sh) (n : Nat) (st : MkSt) : Prop where
  nodup : st.open_.Nodup
  range : ∀ x ∈ st.open_, 0 ≤ x ∧ x < S.made.length
  fuel : S.made.length ≤ st.open_.length + n
  openUnknown : ∀ x ∈ st.open_, st.known x = none
  vals : ∀ x v, st.known x = some v → 0 ≤ v ∧ v ≤ 96
  onodup : st.order.Nodup
  orange : ∀ x ∈ st.order, 0 ≤ x ∧ x < S.made.length
  oknown : ∀ x ∈ st.order, st.known x ≠ none

theorem mkK_range {made : List Bool} {k : Int} (h : mkK made k ≠ false) : 0 ≤ k ∧ k < made.length := by
  unfold mkK at h
  by_cases h0 : k < 0
  · rw [if_pos h0] at h; exact absurd rfl h
  · rw [if_neg h0] at h
    by_cases h1 : made.length ≤ k.toNat
    · rw [getD_out _ h1] at h; exact absurd rfl h
    · omega
theorem atK_value {S : Sh} (h : S.Ok) (k : Int) : 0 ≤ atK S.inputs k ∧ atK S.inputs k ≤ 96 := by
  unfold atK
  split
  · omega
  · by_cases h1 : k.toNat < S.inputs.length
    · rw [getD_at _ h1]; exact h.vals _ (List.getElem_mem _)
    · rw [getD_out _ (by omega)]; omega
theorem tk_ok {S : Sh} (h : S.Ok) (k : Int) : (S.tk k).ok := by
  unfold Sh.tk
  by_cases h1 : k.toNat < S.tks.length
  · rw [getD_at _ h1]; exact h.tks _ (List.getElem_mem _)
  · rw [getD_out _ (by omega)]; exact ⟨by omega, by omega⟩
theorem not_open {l : List Int} {k : Int} (h : ¬ 0 ≤ idx (fun x => k == x) l) : k ∉ l := by
  have := idx_any (fun x => k == x) l
  intro hk
  have h2 : l.any (fun x => k == x) = true := List.any_eq_true.2 ⟨k, hk, by simp⟩
  rw [h2] at this
  exact h (of_decide_eq_true this)
theorem nodup_lt : ∀ (n : Nat) (l : List Nat), l.Nodup → (∀ x ∈ l, x < n) → l.length ≤ n := by
  intro n
  induction n with
  | zero =>
    intro l _ h
    cases l with
    | nil => simp
    | cons a l => exact absurd (h a (by simp)) (by omega)
  | succ n ih =>
    intro l hn h
    have h1 := ih (l.erase n) (hn.erase n) (fun x hx => by
      have h2 := (hn.mem_erase_iff).1 hx
      have := h x h2.2
      omega)
    have := List.length_erase (a := n) (l := l)
    split at this <;> omega
/-- numbers below a bound, each once, are not more than the bound -/
theorem nodup_bound {l : List Int} {n : Nat} (hn : l.Nodup) (hr : ∀ x ∈ l, 0 ≤ x ∧ x < n) : l.length ≤ n := by
  have h1 : (l.map Int.toNat).Nodup := by
    refine List.Pairwise.map _ (fun a b (h : a ≠ b ∧ 0 ≤ a ∧ 0 ≤ b) => ?_) (R := fun a b => a ≠ b ∧ 0 ≤ a ∧ 0 ≤ b) ?_
    · omega
    · have := List.Pairwise.and_mem.1 hn
      exact this.imp (fun ⟨ha, hb, hne⟩ => ⟨hne, (hr _ ha).1, (hr _ hb).1⟩)
  have h2 : (l.map Int.toNat) ⊆ List.range n := by
    intro x hx
    obtain ⟨y, hy, rfl⟩ := List.mem_map.1 hx
    have := hr y hy
    simp only [List.mem_range]; omega
  have := nodup_lt n _ h1 (fun x hx => List.mem_range.1 (h2 hx))
  simpa using this

theorem inv_push {S : Sh} {n : Nat} {st : MkSt} {k : Int} (hi : Inv S (n + 1) st) (hkr : 0 ≤ k ∧ k < S.made.length) (hk : st.known k = none) (hko : k ∉ st.open_) : Inv S n { st with open_ := st.open_ ++ [k] } := by
  refine ⟨?_, ?_, ?_, ?_, hi.vals, hi.onodup, hi.orange, hi.oknown⟩
  · simp only [List.nodup_append, List.nodup_cons, List.not_mem_nil, not_false_eq_true, List.nodup_nil, and_true, List.mem_singleton]
    exact ⟨hi.nodup, trivial, fun a ha b hb => by subst hb; intro e; subst e; exact hko ha⟩
  · intro x hx
    simp only [List.mem_append, List.mem_singleton] at hx
    rcases hx with hx | rfl
    · exact hi.range x hx
    · exact hkr
  · have := hi.fuel
    simp; omega
  · intro x hx
    simp only [List.mem_append, List.mem_singleton] at hx
    rcases hx with hx | rfl
    · exact hi.openUnknown x hx
    · exact hk
theorem tk_at {S : Sh} {q : Nat} (h : q < S.tks.length) : S.tk q = S.tks[q] := by
  unfold Sh.tk; exact getD_at _ h
theorem zeroB : 0 ≤ (0 : Int) ∧ (0 : Int) ≤ 96 := by omega
theorem keyP_inv {S : Sh} (hS : S.Ok) : ∀ (n : Nat) (st : MkSt) (k : Int), Inv S n st →
    Inv S n (keyP S n st k).2 ∧ ((keyP S n st k).1.2 = true → (keyP S n st k).2.open_ = st.open_) ∧ 0 ≤ (keyP S n st k).1.1 ∧ (keyP S n st k).1.1 ≤ 96 := by
  intro n
  induction n with
  | zero =>
    intro st k hi
    unfold keyP
    split
    · exact ⟨hi, fun _ => rfl, atK_value hS k⟩
    · split
      · rename_i v hv
        exact ⟨hi, fun _ => rfl, hi.vals _ _ hv⟩
      · split
        · exact ⟨⟨hi.nodup, hi.range, hi.fuel, hi.openUnknown, hi.vals, hi.onodup, hi.orange, hi.oknown⟩, (fun h => Bool.noConfusion h), zeroB⟩
        · exact ⟨hi, (fun h => Bool.noConfusion h), zeroB⟩
  | succ n ih =>
    intro st k hi
    unfold keyP
    split
    · exact ⟨hi, fun _ => rfl, atK_value hS k⟩
    · rename_i hm
      split
      · rename_i v hv
        exact ⟨hi, fun _ => rfl, hi.vals _ _ hv⟩
      · rename_i hk
        split
        · exact ⟨⟨hi.nodup, hi.range, hi.fuel, hi.openUnknown, hi.vals, hi.onodup, hi.orange, hi.oknown⟩, (fun h => Bool.noConfusion h), zeroB⟩
        · rename_i ho
          have hkr := mkK_range hm
          have hko := not_open ho
          have hi1 := inv_push hi hkr hk hko
          have hJ : ∀ (s : MkSt) (k : Int), Inv S n s → 0 ≤ k → k ≤ 9 → Inv S n (keyP S n s k).2 := fun s k h _ _ => (ih s k h).1
          have r1 := Tk.run_keeps hJ (S.tk k) _ (tk_ok hS k) hi1
          have r2 := Tk.run_gives (R := fun a b => b.open_ = a.open_) hJ (fun _ => rfl) (fun a b c (h1 : b.open_ = a.open_) (h2 : c.open_ = b.open_) => h2.trans h1) (fun s k h _ _ => (ih s k h).2.1) (S.tk k) _ (tk_ok hS k) hi1
          have r3 := Tk.run_value hJ (fun s k h _ _ => (ih s k h).2.2) (S.tk k) _ (tk_ok hS k) hi1
          dsimp only at r1 r2 r3 ⊢
          generalize (S.tk k).run (keyP S n) { st with open_ := st.open_ ++ [k] } = r at *
          split
          · rename_i hr
            have hop := r2 hr
            have hpop : r.2.open_.dropLast = st.open_ := by rw [hop]; simp
            have hku : r.2.known k = none := r1.openUnknown k (by rw [hop]; simp)
            have hkord : k ∉ r.2.order := fun h => r1.oknown k h hku
            refine ⟨⟨?_, ?_, ?_, ?_, ?_, ?_, ?_, ?_⟩, fun _ => hpop, r3⟩
            · simp only [hpop]; exact hi.nodup
            · simp only [hpop]; exact hi.range
            · simp only [hpop]; exact hi.fuel
            · simp only [hpop]
              intro x hx
              have hne : x ≠ k := fun e => hko (e ▸ hx)
              simp only [upd, hne, if_false]
              exact r1.openUnknown x (by rw [hop]; simp [hx])
            · intro x v hv
              simp only [upd] at hv
              split at hv
              · cases hv; exact r3
              · exact r1.vals x v hv
            · simp only [List.nodup_append, List.nodup_cons, List.not_mem_nil, not_false_eq_true, List.nodup_nil, and_true, List.mem_singleton]
              exact ⟨r1.onodup, trivial, fun a ha b hb => by subst hb; intro e; subst e; exact hkord ha⟩
            · intro x hx
              simp only [List.mem_append, List.mem_singleton] at hx
              rcases hx with hx | rfl
              · exact r1.orange x hx
              · exact hkr
            · intro x hx
              simp only [List.mem_append, List.mem_singleton] at hx
              simp only [upd]
              split
              · simp
              · rename_i hne
                rcases hx with hx | hx
                · exact r1.oknown x hx
                · exact absurd hx hne
          · refine ⟨?_, (fun h => Bool.noConfusion h), zeroB⟩
            have := r1.fuel
            exact ⟨r1.nodup, r1.range, by dsimp only; omega, r1.openUnknown, r1.vals, r1.onodup, r1.orange, r1.oknown⟩
/-- of a run within a key -/
theorem keyP_run {S : Sh} (hS : S.Ok) {n : Nat} {st : MkSt} (hi : Inv S n st) {t : Tk} (ht : t.ok) : Inv S n (t.run (keyP S n) st).2 ∧ ((t.run (keyP S n) st).1.2 = true → (t.run (keyP S n) st).2.open_ = st.open_) ∧ 0 ≤ (t.run (keyP S n) st).1.1 ∧ (t.run (keyP S n) st).1.1 ≤ 96 := by
  have hJ : ∀ (s : MkSt) (k : Int), Inv S n s → 0 ≤ k → k ≤ 9 → Inv S n (keyP S n s k).2 := fun s k h _ _ => (keyP_inv hS n s k h).1
  exact ⟨Tk.run_keeps hJ t _ ht hi, Tk.run_gives (R := fun a b => b.open_ = a.open_) hJ (fun _ => rfl) (fun a b c (h1 : b.open_ = a.open_) (h2 : c.open_ = b.open_) => h2.trans h1) (fun s k h _ _ => (keyP_inv hS n s k h).2.1) t _ ht hi,
    Tk.run_value hJ (fun s k h _ _ => (keyP_inv hS n s k h).2.2) t _ ht hi⟩
theorem inv_order {S : Sh} {n : Nat} {st : MkSt} (h : Inv S n st) : st.order.length ≤ S.made.length := nodup_bound h.onodup h.orange
theorem inv_open {S : Sh} {n : Nat} {st : MkSt} (h : Inv S n st) : st.open_.length ≤ S.made.length := nodup_bound h.nodup h.range
end Go.Proofs.Ytkbblekengdhaaa

set_option linter.unusedVariables false
set_option linter.unusedSimpArgs false
namespace Go.Proofs.Ytkbblekengdhaaa
open Go Go.RowKit

/-! a task as what it asks for -/
inductive Itr where
  | done (v : Int)
  | ask (k : Int) (c : Int → Itr)
def Itr.bind : Itr → (Int → Itr) → Itr
  | .done v, g => g v
  | .ask k c, g => .ask k fun x => (c x).bind g
def Itr.run {σ : Type} (f : σ → Int → (Int × Bool) × σ) : Itr → σ → (Int × Bool) × σ
  | .done v, s => ((v, true), s)
  | .ask k c, s => if (f s k).1.2 = true then (c (f s k).1.1).run f (f s k).2 else ((0, false), (f s k).2)
def Itr.ok : Itr → Prop
  | .done _ => True
  | .ask k c => 0 ≤ k ∧ k ≤ 9 ∧ ∀ x, (c x).ok
/-- asks at most so often -/
def Itr.le : Nat → Itr → Prop
  | _, .done _ => True
  | 0, .ask _ _ => False
  | n + 1, .ask _ c => ∀ x, (c x).le n
def Tk.itr : Tk → Itr
  | .num n => .done n
  | .get k => .ask k .done
  | .add a b => a.itr.bind fun x => b.itr.bind fun y => .done ((x + y) % 97)
  | .mul a b => a.itr.bind fun x => b.itr.bind fun y => .done ((x * y) % 97)
  | .cond a b c => a.itr.bind fun x => if x ≠ 0 then b.itr else c.itr
  | .ix n a => a.itr.bind fun x => .ask ((n + x) % 10) .done

theorem Itr.run_yes {σ : Type} {f : σ → Int → (Int × Bool) × σ} {k : Int} {c : Int → Itr} {s : σ} (h : (f s k).1.2 = true) : (Itr.ask k c).run f s = (c (f s k).1.1).run f (f s k).2 := by
  rw [Itr.run]; exact if_pos h
theorem Itr.run_no {σ : Type} {f : σ → Int → (Int × Bool) × σ} {k : Int} {c : Int → Itr} {s : σ} (h : ¬ (f s k).1.2 = true) : (Itr.ask k c).run f s = ((0, false), (f s k).2) := by
  rw [Itr.run]; exact if_neg h
theorem Itr.run_bind {σ : Type} (f : σ → Int → (Int × Bool) × σ) : ∀ (m : Itr) (g : Int → Itr) (s : σ), (m.bind g).run f s = if (m.run f s).1.2 = true then (g (m.run f s).1.1).run f (m.run f s).2 else ((0, false), (m.run f s).2) := by
  intro m
  induction m with
  | done v => intro g s; simp [Itr.bind, Itr.run]
  | ask k c ih =>
    intro g s
    rw [Itr.bind]
    by_cases h : (f s k).1.2 = true
    · rw [Itr.run_yes h, Itr.run_yes h, ih]
    · rw [Itr.run_no h, Itr.run_no h]; simp
theorem Itr.run_zero {σ : Type} (f : σ → Int → (Int × Bool) × σ) : ∀ (m : Itr) (s : σ), (m.run f s).1.2 = false → (m.run f s).1.1 = 0 := by
  intro m
  induction m with
  | done v => intro s h; simp [Itr.run] at h
  | ask k c ih =>
    intro s h
    by_cases h1 : (f s k).1.2 = true
    · rw [Itr.run_yes h1] at h ⊢; exact ih _ _ h
    · rw [Itr.run_no h1]
theorem Tk.run_itr {σ : Type} (f : σ → Int → (Int × Bool) × σ) (hf : ∀ s k, (f s k).1.2 = false → (f s k).1.1 = 0) : ∀ (t : Tk) (s : σ), t.run f s = t.itr.run f s := by
  have pair : ∀ (r : (Int × Bool) × σ), r.1.2 = true → r = ((r.1.1, true), r.2) := by
    rintro ⟨⟨x, b⟩, s⟩ h
    simp only at h; subst h; rfl
  have pairf : ∀ (r : (Int × Bool) × σ), ¬ r.1.2 = true → r.1.1 = 0 → r = ((0, false), r.2) := by
    rintro ⟨⟨x, b⟩, s⟩ h h0
    simp only [Bool.not_eq_true] at h h0; subst h h0; rfl
  intro t
  induction t with
  | num n => intro s; rfl
  | get k =>
    intro s
    rw [Tk.run, Tk.itr]
    by_cases h : (f s k).1.2 = true
    · rw [Itr.run_yes h]; exact pair _ h
    · rw [Itr.run_no h]; exact pairf _ h (hf s k (by simpa using h))
  | add a b iha ihb =>
    intro s
    simp only [Tk.run, Tk.itr]
    rw [Itr.run_bind, iha]
    by_cases h : (a.itr.run f s).1.2 = true
    · rw [if_pos h, if_pos h, Itr.run_bind, ihb]; rfl
    · rw [if_neg h, if_neg h]
  | mul a b iha ihb =>
    intro s
    simp only [Tk.run, Tk.itr]
    rw [Itr.run_bind, iha]
    by_cases h : (a.itr.run f s).1.2 = true
    · rw [if_pos h, if_pos h, Itr.run_bind, ihb]; rfl
    · rw [if_neg h, if_neg h]
  | cond a b d iha ihb ihd =>
    intro s
    simp only [Tk.run, Tk.itr]
    rw [Itr.run_bind, iha]
    by_cases h : (a.itr.run f s).1.2 = true
    · rw [if_pos h, if_pos h, ihb, ihd]
      by_cases h2 : (a.itr.run f s).1.1 ≠ 0
      · rw [if_pos h2, if_pos h2]
      · rw [if_neg h2, if_neg h2]
    · rw [if_neg h, if_neg h]
  | ix n a iha =>
    intro s
    simp only [Tk.run, Tk.itr]
    rw [Itr.run_bind, iha]
    by_cases h : (a.itr.run f s).1.2 = true
    · rw [if_pos h, if_pos h]
      by_cases h2 : (f (a.itr.run f s).2 ((n + (a.itr.run f s).1.1) % 10)).1.2 = true
      · rw [Itr.run_yes h2]; exact pair _ h2
      · rw [Itr.run_no h2]; exact pairf _ h2 (hf _ _ (by simpa using h2))
    · rw [if_neg h, if_neg h]
theorem Itr.bind_ok : ∀ (m : Itr) (g : Int → Itr), m.ok → (∀ x, (g x).ok) → (m.bind g).ok := by
  intro m
  induction m with
  | done v => intro g _ hg; exact hg v
  | ask k c ih => intro g hm hg; exact ⟨hm.1, hm.2.1, fun x => ih x g (hm.2.2 x) hg⟩
theorem Tk.itr_ok : ∀ t : Tk, t.ok → t.itr.ok := by
  intro t
  induction t with
  | num n => intro _; trivial
  | get k => intro h; exact ⟨h.1, h.2, fun _ => trivial⟩
  | add a b iha ihb => intro h; exact Itr.bind_ok _ _ (iha h.1) fun x => Itr.bind_ok _ _ (ihb h.2) fun y => trivial
  | mul a b iha ihb => intro h; exact Itr.bind_ok _ _ (iha h.1) fun x => Itr.bind_ok _ _ (ihb h.2) fun y => trivial
  | cond a b d iha ihb ihd => intro h; exact Itr.bind_ok _ _ (iha h.1) fun x => by split; exact ihb h.2.1; exact ihd h.2.2
  | ix n a iha => intro h; exact Itr.bind_ok _ _ (iha h.2.2) fun x => ⟨by omega, by omega, fun _ => trivial⟩

/-! a task that is given values for its first fetches -/
def Itr.walk : Itr → List Int → Itr
  | it, [] => it
  | .ask _ c, x :: xs => (c x).walk xs
  | .done v, _ :: _ => .done v
theorem Itr.walk_done (v : Int) (xs : List Int) : (Itr.done v).walk xs = .done v := by cases xs <;> rfl
theorem Itr.walk_append : ∀ (xs ys : List Int) (m : Itr), m.walk (xs ++ ys) = (m.walk xs).walk ys := by
  intro xs
  induction xs with
  | nil => intro ys m; cases m <;> rfl
  | cons x xs ih =>
    intro ys m
    cases m with
    | done v => simp [Itr.walk, Itr.walk_done]
    | ask k c => simp only [List.cons_append, Itr.walk]; exact ih ys (c x)
theorem Itr.walk_ok : ∀ (xs : List Int) (m : Itr), m.ok → (m.walk xs).ok := by
  intro xs
  induction xs with
  | nil => intro m h; cases m <;> exact h
  | cons x xs ih =>
    intro m h
    cases m with
    | done v => trivial
    | ask k c => exact ih _ (h.2.2 x)
theorem Itr.walk_le : ∀ (xs : List Int) (n : Nat) (m : Itr), m.le n → ∀ k c, m.walk xs = .ask k c → xs.length < n := by
  intro xs
  induction xs with
  | nil =>
    intro n m h k c e
    cases m with
    | done v => cases e
    | ask k' c' =>
      cases n with
      | zero => exact h.elim
      | succ n => simp
  | cons x xs ih =>
    intro n m h k c e
    cases m with
    | done v => cases e
    | ask k' c' =>
      cases n with
      | zero => exact h.elim
      | succ n => have := ih n (c' x) (h x) k c e; simp; omega
theorem Itr.le_mono : ∀ (m : Itr) (a b : Nat), a ≤ b → m.le a → m.le b := by
  intro m
  induction m with
  | done v => intro a b _ _; cases b <;> trivial
  | ask k c ih =>
    intro a b hab h
    cases a with
    | zero => exact h.elim
    | succ a =>
      cases b with
      | zero => omega
      | succ b => exact fun x => ih x a b (by omega) (h x)
theorem Itr.bind_le : ∀ (m : Itr) (g : Int → Itr) (a b : Nat), m.le a → (∀ x, (g x).le b) → (m.bind g).le (a + b) := by
  intro m
  induction m with
  | done v => intro g a b _ hg; exact Itr.le_mono _ b _ (by omega) (hg v)
  | ask k c ih =>
    intro g a b h hg
    cases a with
    | zero => exact h.elim
    | succ a =>
      rw [show a + 1 + b = (a + b) + 1 by omega]
      exact fun x => ih x g a b (h x) hg
def tapeF (got : List Int) (s : Nat × Int) (k : Int) : (Int × Bool) × (Nat × Int) :=
  if s.1 = got.length then ((0, false), (s.1, k)) else ((got.getD s.1 0, true), (s.1 + 1, s.2))
theorem tape_run (got : List Int) : ∀ (m : Itr) (a : Nat) (l : Int), a ≤ got.length →
    ((m.run (tapeF got) (a, l)).1 = match m.walk (got.drop a) with | .done v => (v, true) | .ask _ _ => (0, false)) ∧
    (∀ k c, m.walk (got.drop a) = .ask k c → (m.run (tapeF got) (a, l)).2.2 = k) := by
  intro m
  induction m with
  | done v => intro a l _; rw [Itr.walk_done]; exact ⟨rfl, fun k c e => by cases e⟩
  | ask k c ih =>
    intro a l ha
    by_cases h : a = got.length
    · subst h
      have e : tapeF got (got.length, l) k = ((0, false), (got.length, k)) := by simp [tapeF]
      rw [Itr.run_no (by rw [e]; simp), e, List.drop_length]
      exact ⟨rfl, fun k' c' e => by cases e; rfl⟩
    · have hlt : a < got.length := by omega
      have e : tapeF got (a, l) k = ((got.getD a 0, true), (a + 1, l)) := by simp [tapeF, h]
      rw [Itr.run_yes (by rw [e]), e, List.drop_eq_getElem_cons hlt]
      simp only [Itr.walk]
      rw [getD_at _ hlt]
      exact ih _ (a + 1) l (by omega)
/-- the value, the key that is lacked, whether there is a value -/
def nextP (m : Itr) (got : List Int) : Int × Int × Bool := ((m.run (tapeF got) (0, 0)).1.1, (m.run (tapeF got) (0, 0)).2.2, (m.run (tapeF got) (0, 0)).1.2)
theorem nextP_done {m : Itr} {got : List Int} {v : Int} (h : m.walk got = .done v) : (nextP m got).1 = v ∧ (nextP m got).2.2 = true := by
  have := (tape_run got m 0 0 (Nat.zero_le _)).1
  rw [List.drop_zero, h] at this
  exact ⟨by simp [nextP, this], by simp [nextP, this]⟩
theorem nextP_ask {m : Itr} {got : List Int} {k : Int} {c : Int → Itr} (h : m.walk got = .ask k c) : nextP m got = (0, k, false) := by
  have h1 := (tape_run got m 0 0 (Nat.zero_le _)).1
  have h2 := (tape_run got m 0 0 (Nat.zero_le _)).2 k c (by simpa using h)
  rw [List.drop_zero, h] at h1
  simp [nextP, h1, h2]

/-! the reference's way: nothing is kept; the keys under way are handed on -/
def specP (S : Sh) : Nat → List Int → List Int → Int → (Int × Bool) × List Int
  | n, under, c, k =>
    if mkK S.made k = false then ((atK S.inputs k, true), c)
    else if 0 ≤ idx (fun x => k == x) under then ((0, false), under.drop (idx (fun x => k == x) under).toNat)
    else match n with
      | 0 => ((0, false), c)
      | n + 1 => (S.tk k).itr.run (specP S n (under ++ [k])) c

theorem specP_unmade {S : Sh} {n : Nat} {u c : List Int} {k : Int} (h : mkK S.made k = false) : specP S n u c k = ((atK S.inputs k, true), c) := by
  unfold specP; rw [if_pos h]
theorem specP_under {S : Sh} {n : Nat} {u c : List Int} {k : Int} (h : mkK S.made k = true) (hu : 0 ≤ idx (fun x => k == x) u) : specP S n u c k = ((0, false), u.drop (idx (fun x => k == x) u).toNat) := by
  unfold specP; rw [if_neg (by simp [h]), if_pos hu]
theorem specP_new {S : Sh} {n : Nat} {u c : List Int} {k : Int} (h : mkK S.made k = true) (hu : ¬ 0 ≤ idx (fun x => k == x) u) : specP S (n + 1) u c k = (S.tk k).itr.run (specP S n (u ++ [k])) c := by
  rw [specP, if_neg (by simp [h]), if_neg hu]
theorem idx_not_mem {l : List Int} {k : Int} (h : k ∉ l) : ¬ 0 ≤ idx (fun x => k == x) l := by
  intro h0
  have h1 : idx (fun x => k == x) l = -1 := idx_none (fun j hj => by
    simp only [beq_eq_false_iff_ne]
    intro e; exact h (e ▸ List.getElem_mem hj))
  omega

/-- what is known: each known key has the value that its task has with known ones of lower rank -/
def knF (S : Sh) (kn : Int → Option Int) (rank : Int → Nat) (r : Nat) (_ : Unit) (d : Int) : (Int × Bool) × Unit :=
  if mkK S.made d = false then ((atK S.inputs d, true), ())
  else match kn d with
    | some y => if rank d < r then ((y, true), ()) else ((0, false), ())
    | none => ((0, false), ())
def Kn (S : Sh) (kn : Int → Option Int) (rank : Int → Nat) (M : Nat) : Prop :=
  ∀ j v, kn j = some v → rank j < M ∧ mkK S.made j = true ∧ (S.tk j).itr.run (knF S kn rank (rank j)) () = ((v, true), ())
theorem Itr.run_same {σ τ : Type} {g : σ → Int → (Int × Bool) × σ} {f : τ → Int → (Int × Bool) × τ} (s : σ) (c : τ) (hs : ∀ d, (g s d).2 = s) (h : ∀ d y, (g s d).1 = (y, true) → f c d = ((y, true), c)) :
    ∀ (m : Itr) (v : Int), (m.run g s).1 = (v, true) → m.run f c = ((v, true), c) := by
  intro m
  induction m with
  | done w => intro v e; simp only [Itr.run] at e ⊢; cases e; rfl
  | ask k ct ih =>
    intro v e
    by_cases h1 : (g s k).1.2 = true
    · rw [Itr.run_yes h1, hs] at e
      have h2 := h k (g s k).1.1 (by rw [← h1])
      rw [Itr.run_yes (by rw [h2]), h2]
      exact ih _ v e
    · rw [Itr.run_no h1] at e; cases e
theorem knF_yes {S : Sh} {kn : Int → Option Int} {rank : Int → Nat} {r : Nat} {d y : Int} (h : (knF S kn rank r () d).1 = (y, true)) :
    (mkK S.made d = false ∧ y = atK S.inputs d) ∨ (mkK S.made d = true ∧ kn d = some y ∧ rank d < r) := by
  unfold knF at h
  by_cases h1 : mkK S.made d = false
  · rw [if_pos h1] at h; cases h; exact .inl ⟨h1, rfl⟩
  · rw [if_neg h1] at h
    right
    refine ⟨by simpa using h1, ?_⟩
    cases e : kn d with
    | none => rw [e] at h; cases h
    | some z =>
      rw [e] at h
      simp only at h
      by_cases h2 : rank d < r
      · rw [if_pos h2] at h; cases h; exact ⟨rfl, h2⟩
      · rw [if_neg h2] at h; cases h

/-- what is known is what the reference reckons -/
theorem spec_known {S : Sh} {kn : Int → Option Int} {rank : Int → Nat} {M : Nat} (hK : Kn S kn rank M) : ∀ (r : Nat) (j v : Int) (u : List Int) (n : Nat) (c : List Int), rank j = r → kn j = some v → u.Nodup → (∀ x ∈ u, 0 ≤ x ∧ x < S.made.length) →
    (∀ x ∈ u, ∀ y, kn x = some y → r < rank x) → S.made.length ≤ u.length + n → specP S n u c j = ((v, true), c) := by
  intro r
  induction r using Nat.strongRecOn with
  | ind r ih =>
  intro j v u n c hr hj hn hrg hu hf
  obtain ⟨_, hmj, hrun⟩ := hK j v hj
  have hju : j ∉ u := fun h => by have := hu j h v hj; omega
  have hjr := mkK_range (show mkK S.made j ≠ false by rw [hmj]; simp)
  have hl := nodup_bound (l := u ++ [j]) (n := S.made.length) (by
    rw [List.nodup_append]
    exact ⟨hn, by simp, fun a ha b hb => by simp only [List.mem_singleton] at hb; subst hb; intro e; exact hju (e ▸ ha)⟩) (by
    intro x hx
    rcases List.mem_append.1 hx with h | h
    · exact hrg x h
    · rw [List.mem_singleton.1 h]; exact hjr)
  simp only [List.length_append, List.length_cons, List.length_nil] at hl
  obtain ⟨n', rfl⟩ : ∃ n', n = n' + 1 := ⟨n - 1, by omega⟩
  rw [specP_new hmj (idx_not_mem hju)]
  refine Itr.run_same () c (fun d => rfl) (fun d y hy => ?_) _ v (by rw [hrun])
  rcases knF_yes hy with ⟨h1, rfl⟩ | ⟨h1, h2, h3⟩
  · exact specP_unmade h1
  · refine ih (rank d) (by omega) d y (u ++ [j]) n' c rfl h2 ?_ ?_ ?_ (by simp; omega)
    · rw [List.nodup_append]
      exact ⟨hn, by simp, fun a ha b hb => by simp only [List.mem_singleton] at hb; subst hb; intro e; exact hju (e ▸ ha)⟩
    · intro x hx
      rcases List.mem_append.1 hx with h | h
      · exact hrg x h
      · rw [List.mem_singleton.1 h]; exact hjr
    · intro x hx y' hy'
      rcases List.mem_append.1 hx with h | h
      · have := hu x h y' hy'; omega
      · rw [List.mem_singleton.1 h]; exact h3

def KnE (S : Sh) (kn : Int → Option Int) : Prop := ∃ rank M, Kn S kn rank M
/-- k has the answer y -/
def Ans (S : Sh) (kn : Int → Option Int) (k y : Int) : Prop := (mkK S.made k = false ∧ y = atK S.inputs k) ∨ kn k = some y
def KLe (a b : Int → Option Int) : Prop := ∀ k y, a k = some y → b k = some y
theorem Ans.up {S : Sh} {a b : Int → Option Int} {k y : Int} (h : Ans S a k y) (hl : KLe a b) : Ans S b k y := h.imp id (hl k y)
theorem keyP_zero (S : Sh) (n : Nat) (st : MkSt) (k : Int) : (keyP S n st k).1.2 = false → (keyP S n st k).1.1 = 0 := by
  intro h
  unfold keyP at h ⊢
  split
  · rename_i h1; rw [if_pos h1] at h; cases h
  · rename_i h1
    rw [if_neg h1] at h
    split
    · rename_i v hv; rw [hv] at h; cases h
    · rename_i hv
      rw [hv] at h
      dsimp only at h
      split
      · rfl
      · rename_i h2
        rw [if_neg h2] at h
        cases n with
        | zero => rfl
        | succ n =>
          dsimp only at h ⊢
          split
          · rename_i h3; rw [if_pos h3] at h; cases h
          · rfl

/-- the two ways side by side -/
def Same (S : Sh) (n : Nat) (O : List Int) (st : MkSt) (c : List Int) (r : (Int × Bool) × MkSt) (q : (Int × Bool) × List Int) : Prop :=
  r.1 = q.1 ∧ (r.1.2 = true → q.2 = c ∧ KnE S r.2.known ∧ KLe st.known r.2.known) ∧ (r.1.2 = false → r.2.circle = q.2)
theorem run_same2 {S : Sh} {n : Nat} {O : List Int} (hk : ∀ (st : MkSt) (c : List Int) (k : Int), Inv S n st → KnE S st.known → st.open_ = O →
      Same S n O st c (keyP S n st k) (specP S n O c k) ∧ ((keyP S n st k).1.2 = true → Ans S (keyP S n st k).2.known k (keyP S n st k).1.1 ∧ (keyP S n st k).2.open_ = O) ∧ Inv S n (keyP S n st k).2) :
    ∀ (m : Itr) (st : MkSt) (c : List Int), Inv S n st → KnE S st.known → st.open_ = O →
      Same S n O st c (m.run (keyP S n) st) (m.run (specP S n O) c) ∧
      ((m.run (keyP S n) st).1.2 = true → ∀ (g : Unit → Int → (Int × Bool) × Unit), (∀ d y, Ans S (m.run (keyP S n) st).2.known d y → g () d = ((y, true), ())) → m.run g () = (((m.run (keyP S n) st).1.1, true), ())) := by
  intro m
  induction m with
  | done v => intro st c hi hK ho; exact ⟨⟨rfl, fun _ => ⟨rfl, hK, fun _ _ h => h⟩, fun h => by cases h⟩, fun _ g _ => rfl⟩
  | ask k ct ih =>
    intro st c hi hK ho
    obtain ⟨⟨h1, h2, h3⟩, h4, h5⟩ := hk st c k hi hK ho
    by_cases hok : (keyP S n st k).1.2 = true
    · have hok' : (specP S n O c k).1.2 = true := by rw [← h1]; exact hok
      rw [Itr.run_yes hok, Itr.run_yes hok']
      obtain ⟨e1, hK1, hL1⟩ := h2 hok
      obtain ⟨hA, hO⟩ := h4 hok
      rw [← h1, e1]
      obtain ⟨⟨i1, i2, i3⟩, i4⟩ := ih (keyP S n st k).1.1 (keyP S n st k).2 c h5 hK1 hO
      refine ⟨⟨i1, fun h => ?_, i3⟩, fun h g hg => ?_⟩
      · obtain ⟨j1, j2, j3⟩ := i2 h
        exact ⟨j1, j2, fun x y hxy => j3 x y (hL1 x y hxy)⟩
      · have hgk := hg k _ (hA.up (i2 h).2.2)
        rw [Itr.run_yes (by rw [hgk]), hgk]
        exact i4 h g hg
    · have hok' : ¬ (specP S n O c k).1.2 = true := by rw [← h1]; exact hok
      rw [Itr.run_no hok, Itr.run_no hok']
      exact ⟨⟨rfl, fun h => (by cases h), fun _ => h3 (by simpa using hok)⟩, fun h => by cases h⟩

theorem Kn.upd {S : Sh} {kn : Int → Option Int} {rank : Int → Nat} {M : Nat} (hK : Kn S kn rank M) {k v : Int} (hk : kn k = none) (hm : mkK S.made k = true)
    (hrun : ∀ (g : Unit → Int → (Int × Bool) × Unit), (∀ d y, Ans S kn d y → g () d = ((y, true), ())) → (S.tk k).itr.run g () = ((v, true), ())) : KnE S (upd kn k v) := by
  refine ⟨fun d => if d = k then M else rank d, M + 1, fun j w hj => ?_⟩
  unfold Go.Proofs.Ytkbblekengdhaaa.upd at hj
  by_cases e : j = k
  · subst e
    rw [if_pos rfl] at hj
    cases hj
    refine ⟨by simp, hm, hrun _ (fun d y hd => ?_)⟩
    unfold knF
    rcases hd with ⟨h1, rfl⟩ | hd
    · rw [if_pos h1]
    · obtain ⟨a1, a2, _⟩ := hK d y hd
      have hne : d ≠ j := fun e => by rw [e, hk] at hd; cases hd
      rw [if_neg (by simp [a2])]
      simp only [Go.Proofs.Ytkbblekengdhaaa.upd, if_neg hne, hd, if_true]
      rw [if_pos a1]
  · rw [if_neg e] at hj
    obtain ⟨a1, a2, a3⟩ := hK j w hj
    refine ⟨by simp only [if_neg e]; omega, a2, ?_⟩
    refine Itr.run_same () () (fun d => rfl) (fun d y hd => ?_) _ w (by rw [a3])
    unfold knF
    rcases knF_yes hd with ⟨h1, rfl⟩ | ⟨h1, h2, h3⟩
    · rw [if_pos h1]
    · have hne : d ≠ k := fun e => by rw [e, hk] at h2; cases h2
      rw [if_neg (by simp [h1])]
      simp only [Go.Proofs.Ytkbblekengdhaaa.upd, if_neg hne, h2, if_neg e]
      rw [if_pos h3]

theorem keyP_spec {S : Sh} (hS : S.Ok) : ∀ (n : Nat) (st : MkSt) (c : List Int) (k : Int), Inv S n st → KnE S st.known →
    Same S n st.open_ st c (keyP S n st k) (specP S n st.open_ c k) ∧ ((keyP S n st k).1.2 = true → Ans S (keyP S n st k).2.known k (keyP S n st k).1.1) := by
  intro n
  induction n with
  | zero =>
    intro st c k hi hK
    by_cases hm : mkK S.made k = false
    · have e : keyP S 0 st k = ((atK S.inputs k, true), st) := by unfold keyP; rw [if_pos hm]
      rw [e, specP_unmade hm]
      exact ⟨⟨rfl, fun _ => ⟨rfl, hK, fun _ _ h => h⟩, fun h => by cases h⟩, fun _ => .inl ⟨hm, rfl⟩⟩
    · have hm' : mkK S.made k = true := by simpa using hm
      cases hkn : st.known k with
      | some v =>
        have e : keyP S 0 st k = ((v, true), st) := by unfold keyP; rw [if_neg hm, hkn]
        obtain ⟨rank, M, hKn⟩ := hK
        have h2 := spec_known hKn (rank k) k v st.open_ 0 c rfl hkn hi.nodup hi.range (fun x hx y hy => by rw [hi.openUnknown x hx] at hy; cases hy) hi.fuel
        rw [e, h2]
        exact ⟨⟨rfl, fun _ => ⟨rfl, ⟨rank, M, hKn⟩, fun _ _ h => h⟩, fun h => by cases h⟩, fun _ => .inr hkn⟩
      | none =>
        by_cases ho : 0 ≤ idx (fun x => k == x) st.open_
        · have e : keyP S 0 st k = ((0, false), { st with circle := st.open_.drop (idx (fun x => k == x) st.open_).toNat }) := by unfold keyP; rw [if_neg hm, hkn]; simp only; rw [if_pos ho]
          rw [e, specP_under hm' ho]
          exact ⟨⟨rfl, fun h => (by cases h), fun _ => rfl⟩, fun h => by cases h⟩
        · exfalso
          have hko := not_open ho
          have hkr := mkK_range hm
          have hf := hi.fuel
          have hl := nodup_bound (l := st.open_ ++ [k]) (n := S.made.length) (by
            rw [List.nodup_append]
            exact ⟨hi.nodup, by simp, fun a ha b hb => by simp only [List.mem_singleton] at hb; subst hb; intro e; exact hko (e ▸ ha)⟩) (by
            intro x hx
            rcases List.mem_append.1 hx with h | h
            · exact hi.range x h
            · rw [List.mem_singleton.1 h]; exact hkr)
          simp only [List.length_append, List.length_cons, List.length_nil] at hl
          omega
  | succ n ih =>
    intro st c k hi hK
    by_cases hm : mkK S.made k = false
    · have e : keyP S (n + 1) st k = ((atK S.inputs k, true), st) := by unfold keyP; rw [if_pos hm]
      rw [e, specP_unmade hm]
      exact ⟨⟨rfl, fun _ => ⟨rfl, hK, fun _ _ h => h⟩, fun h => by cases h⟩, fun _ => .inl ⟨hm, rfl⟩⟩
    · have hm' : mkK S.made k = true := by simpa using hm
      cases hkn : st.known k with
      | some v =>
        have e : keyP S (n + 1) st k = ((v, true), st) := by unfold keyP; rw [if_neg hm, hkn]
        obtain ⟨rank, M, hKn⟩ := hK
        have h2 := spec_known hKn (rank k) k v st.open_ (n + 1) c rfl hkn hi.nodup hi.range (fun x hx y hy => by rw [hi.openUnknown x hx] at hy; cases hy) hi.fuel
        rw [e, h2]
        exact ⟨⟨rfl, fun _ => ⟨rfl, ⟨rank, M, hKn⟩, fun _ _ h => h⟩, fun h => by cases h⟩, fun _ => .inr hkn⟩
      | none =>
        by_cases ho : 0 ≤ idx (fun x => k == x) st.open_
        · have e : keyP S (n + 1) st k = ((0, false), { st with circle := st.open_.drop (idx (fun x => k == x) st.open_).toNat }) := by unfold keyP; rw [if_neg hm, hkn]; simp only; rw [if_pos ho]
          rw [e, specP_under hm' ho]
          exact ⟨⟨rfl, fun h => (by cases h), fun _ => rfl⟩, fun h => by cases h⟩
        · have hko := not_open ho
          have hkr := mkK_range hm
          have hi1 := inv_push hi hkr hkn hko
          have hstep : ∀ (s : MkSt) (c : List Int) (d : Int), Inv S n s → KnE S s.known → s.open_ = st.open_ ++ [k] →
              Same S n (st.open_ ++ [k]) s c (keyP S n s d) (specP S n (st.open_ ++ [k]) c d) ∧ ((keyP S n s d).1.2 = true → Ans S (keyP S n s d).2.known d (keyP S n s d).1.1 ∧ (keyP S n s d).2.open_ = st.open_ ++ [k]) ∧ Inv S n (keyP S n s d).2 := by
            intro s c d hs hKs hos
            obtain ⟨a1, a2⟩ := ih s c d hs hKs
            have hv := keyP_inv hS n s d hs
            rw [hos] at a1
            exact ⟨a1, fun h => ⟨a2 h, (hv.2.1 h).trans hos⟩, hv.1⟩
          obtain ⟨⟨b1, b2, b3⟩, b4⟩ := run_same2 hstep (S.tk k).itr { st with open_ := st.open_ ++ [k] } c hi1 hK rfl
          have hrun := keyP_run hS hi1 (tk_ok hS k)
          rw [specP_new hm' ho]
          have e : keyP S (n + 1) st k = (let r := (S.tk k).run (keyP S n) { st with open_ := st.open_ ++ [k] }; if r.1.2 then ((r.1.1, true), { r.2 with open_ := r.2.open_.dropLast, known := upd r.2.known k r.1.1, order := r.2.order ++ [k] }) else ((0, false), r.2)) := by
            rw [keyP, if_neg hm, hkn]; simp only; rw [if_neg ho]
          rw [e, Tk.run_itr _ (keyP_zero S n)]
          rw [Tk.run_itr _ (keyP_zero S n)] at hrun
          have hRz := Itr.run_zero (keyP S n) (S.tk k).itr { st with open_ := st.open_ ++ [k] }
          generalize (S.tk k).itr.run (keyP S n) { st with open_ := st.open_ ++ [k] } = R at *
          generalize (S.tk k).itr.run (specP S n (st.open_ ++ [k])) c = Q at *
          dsimp only
          by_cases hok : R.1.2 = true
          · rw [if_pos hok]
            obtain ⟨c1, ⟨rank, M, hKn⟩, c3⟩ := b2 hok
            have hku : R.2.known k = none := hrun.1.openUnknown k (by rw [hrun.2.1 hok]; simp)
            have hK2 := hKn.upd hku hm' (fun g hg => b4 hok g hg)
            refine ⟨⟨?_, fun _ => ⟨c1, hK2, fun x y hx => ?_⟩, fun h => by cases h⟩, fun _ => .inr (by simp [upd])⟩
            · rw [← b1]; simp only; rw [← hok]
            · have := c3 x y hx
              have hne : x ≠ k := fun e => by rw [e, hku] at this; cases this
              simp only [upd, if_neg hne]; exact this
          · have hok' : R.1.2 = false := by simpa using hok
            rw [if_neg hok]
            refine ⟨⟨?_, fun h => (by cases h), fun _ => b3 hok'⟩, fun h => by cases h⟩
            rw [← b1]
            have hz : R.1.1 = 0 := hRz hok'
            exact Prod.ext hz.symm hok'.symm
end Go.Proofs.Ytkbblekengdhaaa

set_option linter.unusedVariables false
set_option linter.unusedSimpArgs false
namespace Go.Proofs.Ytkbblekengdhaaa
open Go Go.RowKit

/-! rows that a call owns -/
def ints (xs : List Int) : List Value := xs.map fun x => Value.int .i64 x
theorem ints_length (xs : List Int) : (ints xs).length = xs.length := by simp [ints]
theorem ints_append (xs ys : List Int) : ints (xs ++ ys) = ints xs ++ ints ys := by simp [ints]

/-- what is known of an element's type -/
structure ElemTy (P : Program) (t e : TypeId) (z : Value) (size bytes : Nat) : Prop where
  ht : P.underlying t = some (.slice e)
  hi : (P.info? e).map (fun i => (i.zero, i.size, i.bytes)) = some (some z, size, bytes)
  hz : z.cells.size = size
  hs : 0 < size

/-- 'append(s, x)' of one element that was laid into block N -/
theorem wpList_app1 {P : Program} {w : World} {ops : Array Oper} {rest : List Oper} {o : Oper} {a : Act} {Q : Exit → Act → World → Prop} (hgd : o.guard = none) (s x : Operand) (t : TypeId)
    (ho : o.op = .call { callee := .builtin .append, args := #[s, x], argTypes := #[t, t] })
    {e : TypeId} {z : Value} {size bytes : Nat} (hE : ElemTy P t e z size bytes) (base : Nat)
    (v : Value) (n : Nat) (xs : List Value) (hs : a.eval s = v) (hown : w.ownsRow base e size v n xs)
    (N c : Nat) (news : List Value) (hx : a.eval x = .slice (some ⟨N, 0, none⟩) 1 c) (hl : news.length = size) (hnews : ∃ cs fr, w.heap[N]? = some (.cells cs e fr) ∧ cs.toList = news) (h1 : ∀ u ∈ news, u.oneCell' = true)
    (h63 : n + 1 ≤ maxLen) (hbytes : (n + 1) * bytes ≤ 140737488355328) (hbase : base ≤ w.heap.size)
    (h : ∀ g cap w', w'.ownsRow base e size (.slice (some ⟨g, 0, none⟩) (n + 1) cap) (n + 1) (xs ++ news) → w.grownBy w' v.ownBlock → (v.ownBlock = some g ∨ g = w.heap.size) → wpList P ops Q rest (a.put o.dst (.slice (some ⟨g, 0, none⟩) (n + 1) cap)) w') : wpList P ops Q (o :: rest) a w := by
  obtain ⟨i, hi, hz0, hz1, hz2⟩ := info_parts hE.hi
  obtain ⟨cs, fr, hN, rfl⟩ := hnews
  exact wpList_append_lies w hgd s x t ho base e i z size bytes hE.ht hi hz0 hz1 hz2 hE.hz hE.hs v n xs hs hown ⟨N, 0, none⟩ 1 c cs.toList hx (by simpa using hl) (World.news_of_block hN) h1 (by omega) h63 hbytes hbase _ rfl
    (fun g cap w' h2 h3 h4 _ => h g cap w' h2 h3 h4)

/-- 'append(s, x...)' -/
theorem wpList_appN {P : Program} {w : World} {ops : Array Oper} {rest : List Oper} {o : Oper} {a : Act} {Q : Exit → Act → World → Prop} (hgd : o.guard = none) (s x : Operand) (t : TypeId)
    (ho : o.op = .call { callee := .builtin .append, args := #[s, x], argTypes := #[t, t] })
    {e : TypeId} {z : Value} {size bytes : Nat} (hE : ElemTy P t e z size bytes) (base : Nat)
    (v : Value) (n : Nat) (xs : List Value) (hs : a.eval s = v) (hown : w.ownsRow base e size v n xs)
    (ad : Addr) (m c : Nat) (news : List Value) (hx : a.eval x = .slice (some ad) m c) (hl : news.length = m * size) (hnews : ∀ j u, news[j]? = some u → w.cell? (ad.add j) = some u) (h1 : ∀ u ∈ news, u.oneCell' = true)
    (h63 : n + m ≤ maxLen) (hbytes : (n + m) * bytes ≤ 140737488355328) (hbase : base ≤ w.heap.size)
    (h : ∀ v' w', w'.ownsRow base e size v' (n + m) (xs ++ news) → w.grownBy w' v.ownBlock → (v'.ownBlock = v.ownBlock ∨ v'.ownBlock = some w.heap.size) → wpList P ops Q rest (a.put o.dst v') w') : wpList P ops Q (o :: rest) a w := by
  obtain ⟨i, hi, hz0, hz1, hz2⟩ := info_parts hE.hi
  exact wpList_append_own_at w hgd s x t ho base e i z size bytes hE.ht hi hz0 hz1 hz2 hE.hz hE.hs v n xs hs hown ad m c news hx hl hnews h1 h63 hbytes hbase
    (fun v' w' h2 h3 _ h4 => h v' w' h2 h3 h4)

/-- .. at a step of a region that draws its order -/
theorem step_app1 {P : Program} {w : World} {ops : Array Oper} {o : Oper} {a : Act} {K : Act → World → Prop} {Q : Exit → Act → World → Prop} {X : Prop} (hgd : o.guard = none) (s x : Operand) (t : TypeId)
    (ho : o.op = .call { callee := .builtin .append, args := #[s, x], argTypes := #[t, t] })
    {e : TypeId} {z : Value} {size bytes : Nat} (hE : ElemTy P t e z size bytes) (base : Nat)
    (v : Value) (n : Nat) (xs : List Value) (hs : a.eval s = v) (hown : w.ownsRow base e size v n xs)
    (N c : Nat) (news : List Value) (hx : a.eval x = .slice (some ⟨N, 0, none⟩) 1 c) (hl : news.length = size) (hnews : ∃ cs fr, w.heap[N]? = some (.cells cs e fr) ∧ cs.toList = news) (h1 : ∀ u ∈ news, u.oneCell' = true)
    (h63 : n + 1 ≤ maxLen) (hbytes : (n + 1) * bytes ≤ 140737488355328) (hbase : base ≤ w.heap.size)
    (h : ∀ g cap w', w'.ownsRow base e size (.slice (some ⟨g, 0, none⟩) (n + 1) cap) (n + 1) (xs ++ news) → w.grownBy w' v.ownBlock → (v.ownBlock = some g ∨ g = w.heap.size) → K (a.put o.dst (.slice (some ⟨g, 0, none⟩) (n + 1) cap)) w') :
    if Region.wanted o (yielded ops a.tmps) = true then Oper.wp P o a w K Q else X := by
  obtain ⟨i, hi, hz0, hz1, hz2⟩ := info_parts hE.hi
  obtain ⟨cs, fr, hN, rfl⟩ := hnews
  exact step_append_lies w hgd s x t ho base e i z size bytes hE.ht hi hz0 hz1 hz2 hE.hz hE.hs v n xs hs hown ⟨N, 0, none⟩ 1 c cs.toList hx (by simpa using hl) (World.news_of_block hN) h1 (by omega) h63 hbytes hbase _ rfl
    (fun g cap w' h2 h3 h4 _ => h g cap w' h2 h3 h4)
theorem one_int (k : IntKind) (q : Int) : ∀ u ∈ [Value.int k q], u.oneCell' = true := by
  intro u hu
  simp only [List.mem_singleton] at hu
  subst hu; rfl
theorem one_ints (xs : List Int) : ∀ u ∈ ints xs, u.oneCell' = true := by
  intro u hu
  simp only [ints, List.mem_map] at hu
  obtain ⟨x, _, rfl⟩ := hu
  rfl
theorem ownsRow_block {w w' : World} {base : Nat} {e : TypeId} {size : Nat} {v : Value} {n : Nat} {xs : List Value} (h : w.ownsRow base e size v n xs) (hk : ∀ i, v.ownBlock = some i → w'.heap[i]? = w.heap[i]?) : w'.ownsRow base e size v n xs := by
  refine ⟨h.1, ?_⟩
  rcases h.2 with hn | ⟨g, cap, cur, rfl, hb, hgg, rest⟩
  · exact .inl hn
  · exact .inr ⟨g, cap, cur, rfl, hb, by rw [hk g rfl]; exact hgg, rest⟩
/-- a row of elements of one type lies in no block of another kind -/
theorem ownsRow_ne {w : World} {base : Nat} {e : TypeId} {size : Nat} {v : Value} {n : Nat} {xs : List Value} (h : w.ownsRow base e size v n xs) {i : Nat} {ob : Obj} (hi : w.heap[i]? = some ob) (hne : ∀ c, ob ≠ .cells c e (0, 0)) : v.ownBlock ≠ some i := by
  intro hv
  rcases h.2 with ⟨rfl, _⟩ | ⟨g, cap, cur, rfl, hb, hgg, rest⟩
  · cases hv
  · cases hv; rw [hi] at hgg; cases hgg; exact hne cur rfl
/-- an owned row of numbers is a slice to read -/
theorem ownsRow_ints {w : World} {base : Nat} {e : TypeId} {v : Value} {xs : List Int} (h : w.ownsRow base e 1 v xs.length (ints xs)) : ∃ A c, v = .slice A xs.length c ∧ xs.length ≤ c ∧ c ≤ maxLen ∧ IntsAt w.heap.size w A xs := by
  have hlt := h.lt
  rcases h.2 with ⟨rfl, h0⟩ | ⟨g, cap, cur, rfl, hb, hgg, hc, hm, hsz, htake⟩
  · obtain rfl := List.eq_nil_of_length_eq_zero h0
    exact ⟨none, 0, rfl, Nat.le_refl _, by simp [maxLen], RowAt.nil _ _ _ _⟩
  · refine ⟨_, _, rfl, hc, hm, fun i hi => ⟨g, 0, rfl, (hlt g rfl).2, ?_⟩⟩
    have := h.cells (g := g) rfl i (.int .i64 xs[i]) (by simp [ints, hi])
    rw [Addr.add_lit] at this
    exact this

/-! maps from int to int -/
def MapIs (P : Program) (tk te : TypeId) (w : World) (b n : Nat) (f : Int → Option Int) : Prop :=
  ∃ D, w.ownsMap (H := Unit) P tk (plainElem P te) b n D ∧ ∀ k : Int, (Lit.int .i64 k).wf = true → Maps.has D (.int .i64 k) = (f k).isSome ∧ D.atKey (.int .i64 k) (.lit (.int .i64 0)) = .lit (.int .i64 ((f k).getD 0))
structure MapTy (P : Program) (t tk te : TypeId) : Prop where
  ht : P.underlying t = some (.map tk te)
  hk : P.underlying tk = some (.int .i64)
  he : P.underlying te = some (.int .i64)
  hz : ∀ w, (zeroValue te).run P w = .ok (.int .i64 0) w
theorem MapIs.new (P : Program) (tk te : TypeId) (w : World) : MapIs P tk te (w.alloc (.map #[] 0)) w.heap.size 0 (fun _ => none) :=
  ⟨.map [], World.ownsMap_made _ _ _ _, fun k _ => ⟨rfl, rfl⟩⟩
theorem MapIs.block {P : Program} {tk te : TypeId} {w w' : World} {b n : Nat} {f : Int → Option Int} (h : MapIs P tk te w b n f) (hb : w'.heap[b]? = w.heap[b]?) : MapIs P tk te w' b n f := by
  obtain ⟨D, ⟨es, clock, h1, h2⟩, h3⟩ := h
  exact ⟨D, ⟨es, clock, hb.trans h1, h2⟩, h3⟩
theorem MapIs.isMap {P : Program} {tk te : TypeId} {w : World} {b n : Nat} {f : Int → Option Int} (h : MapIs P tk te w b n f) : ∃ es c, w.heap[b]? = some (.map es c) := by
  obtain ⟨D, ⟨es, clock, h1, h2⟩, h3⟩ := h
  exact ⟨_, _, h1⟩
theorem wpList_mapget {P : Program} {w : World} {ops : Array Oper} {rest : List Oper} {o : Oper} {a : Act} {Q : Exit → Act → World → Prop} (hgd : o.guard = none) (m x : Operand) (t : TypeId) (ho : o.op = Op.lookup t m x true)
    {tk te : TypeId} (hT : MapTy P t tk te) (b n : Nat) (f : Int → Option Int) (hm : a.eval m = .map (some b)) (hM : MapIs P tk te w b n f) (k : Int) (hx : a.eval x = .int .i64 k) (hw : (Lit.int .i64 k).wf = true)
    (h : wpList P ops Q rest (a.put o.dst (.tuple #[.int .i64 ((f k).getD 0), .bool (f k).isSome])) w) : wpList P ops Q (o :: rest) a w := by
  obtain ⟨D, hD, hf⟩ := hM
  refine wpList_lookup_own_ok_int (H := Unit) w hgd m x t ho tk te .i64 (Maps.int_keyed hT.hk) hT.ht hT.he (hT.hz w) b n D hm hD _ _ hx (Maps.keyOf_int_mk hT.hk hw) ?_
  intro c hc _
  rw [(hf k hw).2] at hc
  injection hc with hc; injection hc with _ hc
  rw [(hf k hw).1, ← hc]
  exact h
theorem wpList_mapput {P : Program} {w : World} {ops : Array Oper} {rest : List Oper} {o : Oper} {a : Act} {Q : Exit → Act → World → Prop} (hgd : o.guard = none) (m x v : Operand) (t : TypeId) (ho : o.op = Op.mapUpdate t m x v)
    {tk te : TypeId} (hT : MapTy P t tk te) (b n : Nat) (f : Int → Option Int) (hm : a.eval m = .map (some b)) (hM : MapIs P tk te w b n f) (hn : n < maxLen) (k y : Int) (hx : a.eval x = .int .i64 k) (hv : a.eval v = .int .i64 y) (hw : (Lit.int .i64 k).wf = true) (hwy : (Lit.int .i64 y).wf = true)
    (h : ∀ w', MapIs P tk te w' b (n + 1) (fun j => if j = k then some y else f j) → w.grownBy w' (some b) → wpList P ops Q rest (a.put o.dst undef) w') : wpList P ops Q (o :: rest) a w := by
  obtain ⟨D, hD, hf⟩ := hM
  have hI := hD.isMap
  have hkey := Maps.keyOf_int_mk hT.hk hw
  refine wpList_mapUpdate_own (H := Unit) w hgd m x v t ho tk te (Maps.int_keyed hT.hk) hT.ht _ b n D hm hD hn _ _ _ hx hv hkey _ [] (plainElem_int hT.he hwy) ?_
  intro w' h1 h2
  refine h w' ⟨_, h1, fun j hj => ?_⟩ h2
  have hik : WideAt.IsKeyLit (Lit.int .i64 k) := by simp [WideAt.IsKeyLit]
  by_cases e : j = k
  · subst e
    simp [Maps.has_put_same hI hik, Maps.atKey_put_same hI hik]
  · have hne : (Lit.int .i64 j) ≠ (Lit.int .i64 k) := by simp [e]
    rw [Maps.has_put_other hne, Maps.atKey_put_other hne]
    simpa [e] using hf j hj
theorem setCell_turn {F : Nat → Prop} {w : World} {a : Addr} (h : F a.block) (v : Value) : Turn F F w (w.setCell a v) :=
  ⟨rfl, rfl, rfl, by simp [World.setCell], fun i _ hF => Below.heap_setCell _ _ _ _ (fun e => hF (e ▸ h)), fun _ h => .inl h⟩
theorem grown_turn {F F' : Nat → Prop} {w w' : World} {row : Option Nat} (h : w.grownBy w' row) (hr : ∀ k, row = some k → F k) (hF : ∀ i, F' i → F i ∨ w.heap.size ≤ i) : Turn F F' w w' :=
  ⟨h.os, h.tape, h.output, h.size, fun i hi hn => h.block i hi (fun e => hn (hr i e.symm)), hF⟩
theorem below_turn {F : Nat → Prop} {w w' : World} (h : Below w.heap.size w w') : Turn F F w w' := ⟨h.os, h.tape, h.output, h.size, fun i hi _ => h.block i hi, fun _ h => .inl h⟩
theorem heap_new {w : World} {o : Obj} {n : Nat} (h : n = w.heap.size) : (w.alloc o).heap[n]? = some o := h ▸ heap_alloc_new w o
theorem heap_old {w : World} {o : Obj} {n : Nat} (h : n < w.heap.size) : (w.alloc o).heap[n]? = w.heap[n]? := Below.heap_alloc w o n h
theorem cellm {w : World} {m : Nat} {cs : Array Value} {t : TypeId} {fr : Nat × Nat} (h : w.heap[m]? = some (.cells cs t fr)) (j : Nat) : w.cell? ⟨m, j, none⟩ = cs[j]? := cell_of_row w m j cs t fr h
theorem frozenm {w : World} {m : Nat} {cs : Array Value} {t : TypeId} (h : w.heap[m]? = some (.cells cs t (0, 0))) (j : Nat) : w.frozen? ⟨m, j, none⟩ = false := by
  simp [World.frozen?, h]
theorem setCell_block {w : World} {m : Nat} {cs : Array Value} {t : TypeId} {fr : Nat × Nat} (h : w.heap[m]? = some (.cells cs t fr)) (j : Nat) (v : Value) : (w.setCell ⟨m, j, none⟩ v).heap[m]? = some (.cells (cs.setIfInBounds j v) t fr) := by
  simp [World.setCell, Array.getElem?_modify, h]
theorem setCell_far {w : World} {m j : Nat} {v : Value} {k : Nat} (h : k ≠ m) : (w.setCell ⟨m, j, none⟩ v).heap[k]? = w.heap[k]? := Below.heap_setCell _ _ _ _ h
theorem own_far {v : Value} {i m : Nat} (h : v.ownBlock = some i) (hn : v.ownBlock ≠ some m) : i ≠ m := fun e => hn (e ▸ h)
theorem block_lt {w : World} {m : Nat} {ob : Obj} (h : w.heap[m]? = some ob) : m < w.heap.size := (Array.getElem?_eq_some_iff.1 h).1
/-- a block that an append to another row leaves as it was, the new element laid ahead -/
theorem far_grown {w w' : World} {o : Obj} {m : Nat} {row : Option Nat} (h : (w.alloc o).grownBy w' row) (hm : m < w.heap.size) (hr : row ≠ some m) : w'.heap[m]? = w.heap[m]? :=
  (h.block m (by simp; omega) (Ne.symm hr)).trans (heap_old hm)
theorem drew_heap (w : World) : w.drew.heap = w.heap := rfl
theorem far_grown_drew {w w' : World} {o : Obj} {m : Nat} {row : Option Nat} (h : (w.alloc o).drew.grownBy w' row) (hm : m < w.heap.size) (hr : row ≠ some m) : w'.heap[m]? = w.heap[m]? :=
  (h.block m (by simp; omega) (Ne.symm hr)).trans (heap_old hm)
end Go.Proofs.Ytkbblekengdhaaa
