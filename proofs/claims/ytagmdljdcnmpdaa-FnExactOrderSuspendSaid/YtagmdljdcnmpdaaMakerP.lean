import Derived.Test.YtagmdljdcnmpdaaSmall
set_option linter.unusedVariables false
set_option linter.unusedSimpArgs false
namespace Go.Proofs.Ytagmdljdcnmpdaa
open Go Go.RowKit

/-! building keys: the plain function -/
structure MkSt where
  known : Int → Option Int
  open_ : List Int
  circle : List Int
  order : List Int
/-- a sheet's keys and inputs -/
structure Sh where
  made : List Bool
  tks : List Tk
  inputs : List Int
instance : Inhabited Tk := ⟨.num 0⟩
def Sh.tk (S : Sh) (k : Int) : Tk := S.tks.getD k.toNat (.num 0)
def upd (f : Int → Option Int) (k y : Int) : Int → Option Int := fun j => if j = k then some y else f j

def keyP (S : Sh) : Nat → MkSt → Int → (Int × Bool) × MkSt
  | n, st, k =>
    if mkK S.made k = false then ((atK S.inputs k, true), st)
    else match st.known k with
      | some v => ((v, true), st)
      | none =>
        if 0 ≤ idx (fun x => k == x) st.open_ then ((0, false), { st with circle := st.open_.drop (idx (fun x => k == x) st.open_).toNat })
        else match n with
          | 0 => ((0, false), st)
          | n + 1 =>
            let r := (S.tk k).run (keyP S n) { st with open_ := st.open_ ++ [k] }
            if r.1.2 then ((r.1.1, true), { r.2 with open_ := r.2.open_.dropLast, known := upd r.2.known k r.1.1, order := r.2.order ++ [k] })
            else ((0, false), r.2)

/-- what holds of a run whose fetches keep it -/
theorem Tk.run_keeps {σ : Type} {f : σ → Int → (Int × Bool) × σ} {J : σ → Prop} (hJ : ∀ s k, J s → 0 ≤ k → k ≤ 9 → J (f s k).2) : ∀ (t : Tk) (s : σ), t.ok → J s → J (t.run f s).2 := by
  intro t
  induction t with
  | num n => intro s _ h; exact h
  | get k => intro s hk h; exact hJ s k h hk.1 hk.2
  | add a b iha ihb =>
    intro s hk h
    have h1 := iha s hk.1 h
    simp only [Tk.run]
    split
    · have h2 := ihb _ hk.2 h1
      split <;> exact h2
    · exact h1
  | mul a b iha ihb =>
    intro s hk h
    have h1 := iha s hk.1 h
    simp only [Tk.run]
    split
    · have h2 := ihb _ hk.2 h1
      split <;> exact h2
    · exact h1
  | cond a b d iha ihb ihd =>
    intro s hk h
    have h1 := iha s hk.1 h
    simp only [Tk.run]
    split
    · split
      · exact ihb _ hk.2.1 h1
      · exact ihd _ hk.2.2 h1
    · exact h1
  | ix n a iha =>
    intro s hk h
    have h1 := iha s hk.2.2 h
    simp only [Tk.run]
    split
    · exact hJ _ _ h1 (by omega) (by omega)
    · exact h1

/-- what a run that goes through leaves, if its fetches that go through do; and the bounds of what it gives -/
theorem Tk.run_gives {σ : Type} {f : σ → Int → (Int × Bool) × σ} {J : σ → Prop} {R : σ → σ → Prop} (hJ : ∀ s k, J s → 0 ≤ k → k ≤ 9 → J (f s k).2) (hR0 : ∀ s, R s s) (hR1 : ∀ a b c, R a b → R b c → R a c)
    (hR : ∀ s k, J s → 0 ≤ k → k ≤ 9 → (f s k).1.2 = true → R s (f s k).2) :
    ∀ (t : Tk) (s : σ), t.ok → J s → (t.run f s).1.2 = true → R s (t.run f s).2 := by
  intro t
  induction t with
  | num n => intro s _ h _; exact hR0 s
  | get k => intro s hk h ho; exact hR s k h hk.1 hk.2 ho
  | add a b iha ihb =>
    intro s hk h ho
    have j1 := Tk.run_keeps hJ a s hk.1 h
    simp only [Tk.run] at ho ⊢
    by_cases h1 : (a.run f s).1.2 = true
    · rw [if_pos h1] at ho ⊢
      by_cases h2 : (b.run f (a.run f s).2).1.2 = true
      · rw [if_pos h2] at ho ⊢
        exact hR1 _ _ _ (iha s hk.1 h h1) (ihb _ hk.2 j1 h2)
      · rw [if_neg h2] at ho; cases ho
    · rw [if_neg h1] at ho; cases ho
  | mul a b iha ihb =>
    intro s hk h ho
    have j1 := Tk.run_keeps hJ a s hk.1 h
    simp only [Tk.run] at ho ⊢
    by_cases h1 : (a.run f s).1.2 = true
    · rw [if_pos h1] at ho ⊢
      by_cases h2 : (b.run f (a.run f s).2).1.2 = true
      · rw [if_pos h2] at ho ⊢
        exact hR1 _ _ _ (iha s hk.1 h h1) (ihb _ hk.2 j1 h2)
      · rw [if_neg h2] at ho; cases ho
    · rw [if_neg h1] at ho; cases ho
  | cond a b d iha ihb ihd =>
    intro s hk h ho
    have j1 := Tk.run_keeps hJ a s hk.1 h
    simp only [Tk.run] at ho ⊢
    by_cases h1 : (a.run f s).1.2 = true
    · rw [if_pos h1] at ho ⊢
      split at ho
      · rename_i h2
        rw [if_pos h2]
        exact hR1 _ _ _ (iha s hk.1 h h1) (ihb _ hk.2.1 j1 ho)
      · rename_i h2
        rw [if_neg h2]
        exact hR1 _ _ _ (iha s hk.1 h h1) (ihd _ hk.2.2 j1 ho)
    · rw [if_neg h1] at ho; cases ho
  | ix n a iha =>
    intro s hk h ho
    have j1 := Tk.run_keeps hJ a s hk.2.2 h
    simp only [Tk.run] at ho ⊢
    by_cases h1 : (a.run f s).1.2 = true
    · rw [if_pos h1] at ho ⊢
      exact hR1 _ _ _ (iha s hk.2.2 h h1) (hR _ _ j1 (by omega) (by omega) ho)
    · rw [if_neg h1] at ho; cases ho

/-- what a run gives is a value, if what is fetched is -/
theorem Tk.run_value {σ : Type} {f : σ → Int → (Int × Bool) × σ} {J : σ → Prop} (hJ : ∀ s k, J s → 0 ≤ k → k ≤ 9 → J (f s k).2) (hv : ∀ s k, J s → 0 ≤ k → k ≤ 9 → 0 ≤ (f s k).1.1 ∧ (f s k).1.1 ≤ 96) :
    ∀ (t : Tk) (s : σ), t.ok → J s → 0 ≤ (t.run f s).1.1 ∧ (t.run f s).1.1 ≤ 96 := by
  intro t
  induction t with
  | num n => intro s hk _; exact hk
  | get k => intro s hk h; exact hv s k h hk.1 hk.2
  | add a b iha ihb =>
    intro s hk h
    simp only [Tk.run]
    split
    · split
      · exact ⟨by simp only []; omega, by simp only []; omega⟩
      · exact ⟨by simp, by simp⟩
    · exact ⟨by simp, by simp⟩
  | mul a b iha ihb =>
    intro s hk h
    simp only [Tk.run]
    split
    · split
      · exact ⟨Int.emod_nonneg _ (by omega), by have := Int.emod_lt_of_pos ((a.run f s).1.1 * (b.run f (a.run f s).2).1.1) (show (0:Int) < 97 by omega); simp only []; omega⟩
      · exact ⟨by simp, by simp⟩
    · exact ⟨by simp, by simp⟩
  | cond a b d iha ihb ihd =>
    intro s hk h
    have j1 := Tk.run_keeps hJ a s hk.1 h
    simp only [Tk.run]
    split
    · split
      · exact ihb _ hk.2.1 j1
      · exact ihd _ hk.2.2 j1
    · exact ⟨by simp, by simp⟩
  | ix n a iha =>
    intro s hk h
    have j1 := Tk.run_keeps hJ a s hk.2.2 h
    simp only [Tk.run]
    split
    · exact hv _ _ j1 (by omega) (by omega)
    · exact ⟨by simp, by simp⟩

/-! sheets -/
def sheetOkL : List Bool → List Task → Bool
  | m :: ms, t :: ts => okT t && (m || (t.kind == 0 && t.n == 0)) && sheetOkL ms ts
  | _, _ => true
theorem sheetOkL_cons (m : Bool) (ms : List Bool) (t : Task) (ts : List Task) : sheetOkL (m :: ms) (t :: ts) = (okT t && (m || (t.kind == 0 && t.n == 0)) && sheetOkL ms ts) := rfl
theorem sheetOkL_nil : sheetOkL [] [] = true := rfl
def sheetOk (made : List Bool) (tasks : List Task) : Bool := decide (made.length = tasks.length) && decide (made.length ≤ 10) && sheetOkL made tasks

/-- a sheet and its inputs that are ones -/
structure Sh.Ok (S : Sh) : Prop where
  len : S.made.length = S.tks.length
  ten : S.made.length ≤ 10
  tks : ∀ t ∈ S.tks, t.ok
  ins : S.inputs.length = S.made.length
  vals : ∀ x ∈ S.inputs, 0 ≤ x ∧ x ≤ 96
  sheet : sheetOk S.made (S.tks.map Tk.enc) = true

structure Inv (S : Sh) (n : Nat) (st : MkSt) : Prop where
  nodup : st.open_.Nodup
  range : ∀ x ∈ st.open_, 0 ≤ x ∧ x < S.made.length
  fuel : S.made.length ≤ st.open_.length + n
  openUnknown : ∀ x ∈ st.open_, st.known x = none
  vals : ∀ x v, st.known x = some v → 0 ≤ v ∧ v ≤ 96
  onodup : st.order.Nodup
  orange : ∀ x ∈ st.order, 0 ≤ x ∧ x < S.made.length
  oknown : ∀ x ∈ st.order, st.known x ≠ none

theorem mkK_range {made : List Bool} {k : Int} (h : mkK made k ≠ false) : 0 ≤ k ∧ k < made.length := by
  unfold mkK at h
  by_cases h0 : k < 0
  · rw [if_pos h0] at h; exact absurd rfl h
  · rw [if_neg h0] at h
    by_cases h1 : made.length ≤ k.toNat
    · rw [getD_out _ h1] at h; exact absurd rfl h
    · omega
theorem atK_value {S : Sh} (h : S.Ok) (k : Int) : 0 ≤ atK S.inputs k ∧ atK S.inputs k ≤ 96 := by
  unfold atK
  split
  · omega
  · by_cases h1 : k.toNat < S.inputs.length
    · rw [getD_at _ h1]; exact h.vals _ (List.getElem_mem _)
    · rw [getD_out _ (by omega)]; omega
theorem tk_ok {S : Sh} (h : S.Ok) (k : Int) : (S.tk k).ok := by
  unfold Sh.tk
  by_cases h1 : k.toNat < S.tks.length
  · rw [getD_at _ h1]; exact h.tks _ (List.getElem_mem _)
  · rw [getD_out _ (by omega)]; exact ⟨by omega, by omega⟩
theorem not_open {l : List Int} {k : Int} (h : ¬ 0 ≤ idx (fun x => k == x) l) : k ∉ l := by
  have := idx_any (fun x => k == x) l
  intro hk
  have h2 : l.any (fun x => k == x) = true := List.any_eq_true.2 ⟨k, hk, by simp⟩
  rw [h2] at this
  exact h (of_decide_eq_true this)
theorem nodup_lt : ∀ (n : Nat) (l : List Nat), l.Nodup → (∀ x ∈ l, x < n) → l.length ≤ n := by
  intro n
  induction n with
  | zero =>
    intro l _ h
    cases l with
    | nil => simp
    | cons a l => exact absurd (h a (by simp)) (by omega)
  | succ n ih =>
    intro l hn h
    have h1 := ih (l.erase n) (hn.erase n) (fun x hx => by
      have h2 := (hn.mem_erase_iff).1 hx
      have := h x h2.2
      omega)
    have := List.length_erase (a := n) (l := l)
    split at this <;> omega
/-- numbers below a bound, each once, are not more than the bound -/
theorem nodup_bound {l : List Int} {n : Nat} (hn : l.Nodup) (hr : ∀ x ∈ l, 0 ≤ x ∧ x < n) : l.length ≤ n := by
  have h1 : (l.map Int.toNat).Nodup := by
    refine List.Pairwise.map _ (fun a b (h : a ≠ b ∧ 0 ≤ a ∧ 0 ≤ b) => ?_) (R := fun a b => a ≠ b ∧ 0 ≤ a ∧ 0 ≤ b) ?_
    · omega
    · have := List.Pairwise.and_mem.1 hn
      exact this.imp (fun ⟨ha, hb, hne⟩ => ⟨hne, (hr _ ha).1, (hr _ hb).1⟩)
  have h2 : (l.map Int.toNat) ⊆ List.range n := by
    intro x hx
    obtain ⟨y, hy, rfl⟩ := List.mem_map.1 hx
    have := hr y hy
    simp only [List.mem_range]; omega
  have := nodup_lt n _ h1 (fun x hx => List.mem_range.1 (h2 hx))
  simpa using this

theorem inv_push {S : Sh} {n : Nat} {st : MkSt} {k : Int} (hi : Inv S (n + 1) st) (hkr : 0 ≤ k ∧ k < S.made.length) (hk : st.known k = none) (hko : k ∉ st.open_) : Inv S n { st with open_ := st.open_ ++ [k] } := by
  refine ⟨?_, ?_, ?_, ?_, hi.vals, hi.onodup, hi.orange, hi.oknown⟩
  · simp only [List.nodup_append, List.nodup_cons, List.not_mem_nil, not_false_eq_true, List.nodup_nil, and_true, List.mem_singleton]
    exact ⟨hi.nodup, trivial, fun a ha b hb => by subst hb; intro e; subst e; exact hko ha⟩
  · intro x hx
    simp only [List.mem_append, List.mem_singleton] at hx
    rcases hx with hx | rfl
    · exact hi.range x hx
    · exact hkr
  · have := hi.fuel
    simp; omega
  · intro x hx
    simp only [List.mem_append, List.mem_singleton] at hx
    rcases hx with hx | rfl
    · exact hi.openUnknown x hx
    · exact hk
theorem tk_at {S : Sh} {q : Nat} (h : q < S.tks.length) : S.tk q = S.tks[q] := by
  unfold Sh.tk; exact getD_at _ h
theorem zeroB : 0 ≤ (0 : Int) ∧ (0 : Int) ≤ 96 := by omega
theorem keyP_inv {S : Sh} (hS : S.Ok) : ∀ (n : Nat) (st : MkSt) (k : Int), Inv S n st →
    Inv S n (keyP S n st k).2 ∧ ((keyP S n st k).1.2 = true → (keyP S n st k).2.open_ = st.open_) ∧ 0 ≤ (keyP S n st k).1.1 ∧ (keyP S n st k).1.1 ≤ 96 := by
  intro n
  induction n with
  | zero =>
    intro st k hi
    unfold keyP
    split
    · exact ⟨hi, fun _ => rfl, atK_value hS k⟩
    · split
      · rename_i v hv
        exact ⟨hi, fun _ => rfl, hi.vals _ _ hv⟩
      · split
        · exact ⟨⟨hi.nodup, hi.range, hi.fuel, hi.openUnknown, hi.vals, hi.onodup, hi.orange, hi.oknown⟩, (fun h => Bool.noConfusion h), zeroB⟩
        · exact ⟨hi, (fun h => Bool.noConfusion h), zeroB⟩
  | succ n ih =>
    intro st k hi
    unfold keyP
    split
    · exact ⟨hi, fun _ => rfl, atK_value hS k⟩
    · rename_i hm
      split
      · rename_i v hv
        exact ⟨hi, fun _ => rfl, hi.vals _ _ hv⟩
      · rename_i hk
        split
        · exact ⟨⟨hi.nodup, hi.range, hi.fuel, hi.openUnknown, hi.vals, hi.onodup, hi.orange, hi.oknown⟩, (fun h => Bool.noConfusion h), zeroB⟩
        · rename_i ho
          have hkr := mkK_range hm
          have hko := not_open ho
          have hi1 := inv_push hi hkr hk hko
          have hJ : ∀ (s : MkSt) (k : Int), Inv S n s → 0 ≤ k → k ≤ 9 → Inv S n (keyP S n s k).2 := fun s k h _ _ => (ih s k h).1
          have r1 := Tk.run_keeps hJ (S.tk k) _ (tk_ok hS k) hi1
          have r2 := Tk.run_gives (R := fun a b => b.open_ = a.open_) hJ (fun _ => rfl) (fun a b c (h1 : b.open_ = a.open_) (h2 : c.open_ = b.open_) => h2.trans h1) (fun s k h _ _ => (ih s k h).2.1) (S.tk k) _ (tk_ok hS k) hi1
          have r3 := Tk.run_value hJ (fun s k h _ _ => (ih s k h).2.2) (S.tk k) _ (tk_ok hS k) hi1
          dsimp only at r1 r2 r3 ⊢
          generalize (S.tk k).run (keyP S n) { st with open_ := st.open_ ++ [k] } = r at *
          split
          · rename_i hr
            have hop := r2 hr
            have hpop : r.2.open_.dropLast = st.open_ := by rw [hop]; simp
            have hku : r.2.known k = none := r1.openUnknown k (by rw [hop]; simp)
            have hkord : k ∉ r.2.order := fun h => r1.oknown k h hku
            refine ⟨⟨?_, ?_, ?_, ?_, ?_, ?_, ?_, ?_⟩, fun _ => hpop, r3⟩
            · simp only [hpop]; exact hi.nodup
            · simp only [hpop]; exact hi.range
            · simp only [hpop]; exact hi.fuel
            · simp only [hpop]
              intro x hx
              have hne : x ≠ k := fun e => hko (e ▸ hx)
              simp only [upd, hne, if_false]
              exact r1.openUnknown x (by rw [hop]; simp [hx])
            · intro x v hv
              simp only [upd] at hv
              split at hv
              · cases hv; exact r3
              · exact r1.vals x v hv
            · simp only [List.nodup_append, List.nodup_cons, List.not_mem_nil, not_false_eq_true, List.nodup_nil, and_true, List.mem_singleton]
              exact ⟨r1.onodup, trivial, fun a ha b hb => by subst hb; intro e; subst e; exact hkord ha⟩
            · intro x hx
              simp only [List.mem_append, List.mem_singleton] at hx
              rcases hx with hx | rfl
              · exact r1.orange x hx
              · exact hkr
            · intro x hx
              simp only [List.mem_append, List.mem_singleton] at hx
              simp only [upd]
              split
              · simp
              · rename_i hne
                rcases hx with hx | hx
                · exact r1.oknown x hx
                · exact absurd hx hne
          · refine ⟨?_, (fun h => Bool.noConfusion h), zeroB⟩
            have := r1.fuel
            exact ⟨r1.nodup, r1.range, by dsimp only; omega, r1.openUnknown, r1.vals, r1.onodup, r1.orange, r1.oknown⟩
/-- of a run within a key -/
theorem keyP_run {S : Sh} (hS : S.Ok) {n : Nat} {st : MkSt} (hi : Inv S n st) {t : Tk} (ht : t.ok) : Inv S n (t.run (keyP S n) st).2 ∧ ((t.run (keyP S n) st).1.2 = true → (t.run (keyP S n) st).2.open_ = st.open_) ∧ 0 ≤ (t.run (keyP S n) st).1.1 ∧ (t.run (keyP S n) st).1.1 ≤ 96 := by
  have hJ : ∀ (s : MkSt) (k : Int), Inv S n s → 0 ≤ k → k ≤ 9 → Inv S n (keyP S n s k).2 := fun s k h _ _ => (keyP_inv hS n s k h).1
  exact ⟨Tk.run_keeps hJ t _ ht hi, Tk.run_gives (R := fun a b => b.open_ = a.open_) hJ (fun _ => rfl) (fun a b c (h1 : b.open_ = a.open_) (h2 : c.open_ = b.open_) => h2.trans h1) (fun s k h _ _ => (keyP_inv hS n s k h).2.1) t _ ht hi,
    Tk.run_value hJ (fun s k h _ _ => (keyP_inv hS n s k h).2.2) t _ ht hi⟩
theorem inv_order {S : Sh} {n : Nat} {st : MkSt} (h : Inv S n st) : st.order.length ≤ S.made.length := nodup_bound h.onodup h.orange
theorem inv_open {S : Sh} {n : Nat} {st : MkSt} (h : Inv S n st) : st.open_.length ≤ S.made.length := nodup_bound h.nodup h.range
end Go.Proofs.Ytagmdljdcnmpdaa
