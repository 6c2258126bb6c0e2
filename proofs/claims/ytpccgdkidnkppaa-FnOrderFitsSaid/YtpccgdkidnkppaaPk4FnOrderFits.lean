import Derived.Test.YtpccgdkidnkppaaPk1FnOrderFits
import Derived.Test.YtpccgdkidnkppaaPk2FnOrderFits
import Derived.Test.YtpccgdkidnkppaaPk3FnOrderFits
set_option linter.unusedVariables false
set_option linter.unusedSimpArgs false
namespace Go.Proofs.Ytpccgdkidnkppaa
open Go Go.RowKit

/-! building keys: the plain function -/
structure MkSt where
  known : Int → Option Int
  open_ : List Int
  circle : List Int
  order : List Int
/-- a sheet's keys and inputs -/
structure Sh where
  made : List Bool
  tks : List Tk
  inputs : List Int
instance : Inhabited Tk := ⟨.num 0⟩
def Sh.tk (S : Sh) (k : Int) : Tk := S.tks.getD k.toNat (.num 0)
def upd (f : Int → Option Int) (k y : Int) : Int → Option Int := fun j => if j = k then some y else f j

def keyP (S : Sh) : Nat → MkSt → Int → (Int × Bool) × MkSt
  | n, st, k =>
    if mkK S.made k = false then ((atK S.inputs k, true), st)
    else match st.known k with
      | some v => ((v, true), st)
      | none =>
        if 0 ≤ idx (fun x => k == x) st.open_ then ((0, false), { st with circle := st.open_.drop (idx (fun x => k == x) st.open_).toNat })
        else match n with
          | 0 => ((0, false), st)
          | n + 1 =>
            let r := (S.tk k).run (keyP S n) { st with open_ := st.open_ ++ [k] }
            if r.1.2 then ((r.1.1, true), { r.2 with open_ := r.2.open_.dropLast, known := upd r.2.known k r.1.1, order := r.2.order ++ [k] })
            else ((0, false), r.2)

/-- what holds of a run whose fetches keep it -/
theorem Tk.run_keeps {σ : Type} {f : σ → Int → (Int × Bool) × σ} {J : σ → Prop} (hJ : ∀ s k, J s → 0 ≤ k → k ≤ 9 → J (f s k).2) : ∀ (t : Tk) (s : σ), t.ok → J s → J (t.run f s).2 := by
  intro t
  induction t with
  | num n => intro s _ h; exact h
  | get k => intro s hk h; exact hJ s k h hk.1 hk.2
  | add a b iha ihb =>
    intro s hk h
    have h1 := iha s hk.1 h
    simp only [Tk.run]
    split
    · have h2 := ihb _ hk.2 h1
      split <;> exact h2
    · exact h1
  | mul a b iha ihb =>
    intro s hk h
    have h1 := iha s hk.1 h
    simp only [Tk.run]
    split
    · have h2 := ihb _ hk.2 h1
      split <;> exact h2
    · exact h1
  | cond a b d iha ihb ihd =>
    intro s hk h
    have h1 := iha s hk.1 h
    simp only [Tk.run]
    split
    · split
      · exact ihb _ hk.2.1 h1
      · exact ihd _ hk.2.2 h1
    · exact h1
  | ix n a iha =>
    intro s hk h
    have h1 := iha s hk.2.2 h
    simp only [Tk.run]
    split
    · exact hJ _ _ h1 (by omega) (by omega)
    · exact h1

/-- what a run that goes through leaves, if its fetches that go through do; and the bounds of what it gives -/
theorem Tk.run_gives {σ : Type} {f : σ → Int → (Int × Bool) × σ} {J : σ → Prop} {R : σ → σ → Prop} (hJ : ∀ s k, J s → 0 ≤ k → k ≤ 9 → J (f s k).2) (hR0 : ∀ s, R s s) (hR1 : ∀ a b c, R a b → R b c → R a c)
    (hR : ∀ s k, J s → 0 ≤ k → k ≤ 9 → (f s k).1.2 = true → R s (f s k).2) :
    ∀ (t : Tk) (s : σ), t.ok → J s → (t.run f s).1.2 = true → R s (t.run f s).2 := by
  intro t
  induction t with
  | num n => intro s _ h _; exact hR0 s
  | get k => intro s hk h ho; exact hR s k h hk.1 hk.2 ho
  | add a b iha ihb =>
    intro s hk h ho
    have j1 := Tk.run_keeps hJ a s hk.1 h
    simp only [Tk.run] at ho ⊢
    by_cases h1 : (a.run f s).1.2 = true
    · rw [if_pos h1] at ho ⊢
      by_cases h2 : (b.run f (a.run f s).2).1.2 = true
      · rw [if_pos h2] at ho ⊢
        exact hR1 _ _ _ (iha s hk.1 h h1) (ihb _ hk.2 j1 h2)
      · rw [if_neg h2] at ho; cases ho
    · rw [if_neg h1] at ho; cases ho
  | mul a b iha ihb =>
    intro s hk h ho
    have j1 := Tk.run_keeps hJ a s hk.1 h
    simp only [Tk.run] at ho ⊢
    by_cases h1 : (a.run f s).1.2 = true
    · rw [if_pos h1] at ho ⊢
      by_cases h2 : (b.run f (a.run f s).2).1.2 = true
      · rw [if_pos h2] at ho ⊢
        exact hR1 _ _ _ (iha s hk.1 h h1) (ihb _ hk.2 j1 h2)
      · rw [if_neg h2] at ho; cases ho
    · rw [if_neg h1] at ho; cases ho
  | cond a b d iha ihb ihd =>
    intro s hk h ho
    have j1 := Tk.run_keeps hJ a s hk.1 h
    simp only [Tk.run] at ho ⊢
    by_cases h1 : (a.run f s).1.2 = true
    · rw [if_pos h1] at ho ⊢
      split at ho
      · rename_i h2
        rw [if_pos h2]
        exact hR1 _ _ _ (iha s hk.1 h h1) (ihb _ hk.2.1 j1 ho)
      · rename_i h2
        rw [if_neg h2]
        exact hR1 _ _ _ (iha s hk.1 h h1) (ihd _ hk.2.2 j1 ho)
    · rw [if_neg h1] at ho; cases ho
  | ix n a iha =>
    intro s hk h ho
    have j1 := Tk.run_keeps hJ a s hk.2.2 h
    simp only [Tk.run] at ho ⊢
    by_cases h1 : (a.run f s).1.2 = true
    · rw [if_pos h1] at ho ⊢
      exact hR1 _ _ _ (iha s hk.2.2 h h1) (hR _ _ j1 (by omega) (by omega) ho)
    · rw [if_neg h1] at ho; cases ho

/-- what a run gives is a value, if what is fetched is -/
theorem Tk.run_value {σ : Type} {f : σ → Int → (Int × Bool) × σ} {J : σ → Prop} (hJ : ∀ s k, J s → 0 ≤ k → k ≤ 9 → J (f s k).2) (hv : ∀ s k, J s → 0 ≤ k → k ≤ 9 → 0 ≤ (f s k).1.1 ∧ (f s k).1.1 ≤ 96) :
    ∀ (t : Tk) (s : σ), t.ok → J s → 0 ≤ (t.run f s).1.1 ∧ (t.run f s).1.1 ≤ 96 := by
  intro t
  induction t with
  | num n => intro s hk _; exact hk
  | get k => intro s hk h; exact hv s k h hk.1 hk.2
  | add a b iha ihb =>
    intro s hk h
    simp only [Tk.run]
    split
    · split
      · exact ⟨by simp only []; omega, by simp only []; omega⟩
      · exact ⟨by simp, by simp⟩
    · exact ⟨by simp, by simp⟩
  | mul a b iha ihb =>
    intro s hk h
    simp only [Tk.run]
    split
    · split
      · exact ⟨Int.emod_nonneg _ (by omega), by have := Int.emod_lt_of_pos ((a.run f s).1.1 * (b.run f (a.run f s).2).1.1) (show (0:Int) < 97 by omega); simp only []; omega⟩
      · exact ⟨by simp, by simp⟩
    · exact ⟨by simp, by simp⟩
  | cond a b d iha ihb ihd =>
    intro s hk h
    have j1 := Tk.run_keeps hJ a s hk.1 h
    simp only [Tk.run]
    split
    · split
      · exact ihb _ hk.2.1 j1
      · exact ihd _ hk.2.2 j1
    · exact ⟨by simp, by simp⟩
  | ix n a iha =>
    intro s hk h
    have j1 := Tk.run_keeps hJ a s hk.2.2 h
    simp only [Tk.run]
    split
    · exact hv _ _ j1 (by omega) (by omega)
    · exact ⟨by simp, by simp⟩

/-! sheets -/
def sheetOkL : List Bool → List Task → Bool
  | m :: ms, t :: ts => okT t && (m || (t.kind == 0 && t.n == 0)) && sheetOkL ms ts
  | _, _ => true
theorem sheetOkL_cons (m : Bool) (ms : List Bool) (t : Task) (ts : List Task) : sheetOkL (m :: ms) (t :: ts) = (okT t && (m || (t.kind == 0 && t.n == 0)) && sheetOkL ms ts) := rfl
theorem sheetOkL_nil : sheetOkL [] [] = true := rfl
def sheetOk (made : List Bool) (tasks : List Task) : Bool := decide (made.length = tasks.length) && decide (made.length ≤ 10) && sheetOkL made tasks

/-- a sheet and its inputs that are ones -/
structure Sh.Ok (S : Sh) : Prop where
  len : S.made.length = S.tks.length
  ten : S.made.length ≤ 10
  tks : ∀ t ∈ S.tks, t.ok
  ins : S.inputs.length = S.made.length
  vals : ∀ x ∈ S.inputs, 0 ≤ x ∧ x ≤ 96
  sheet : sheetOk S.made (S.tks.map Tk.enc) = true

structure Inv (S : Sh) (n : Nat) (st : MkSt) : Prop where
  nodup : st.open_.Nodup
  range : ∀ x ∈ st.open_, 0 ≤ x ∧ x < S.made.length
  fuel : S.made.length ≤ st.open_.length + n
  openUnknown : ∀ x ∈ st.open_, st.known x = none
  vals : ∀ x v, st.known x = some v → 0 ≤ v ∧ v ≤ 96
  onodup : st.order.Nodup
  orange : ∀ x ∈ st.order, 0 ≤ x ∧ x < S.made.length
  oknown : ∀ x ∈ st.order, st.known x ≠ none

theorem mkK_range {made : List Bool} {k : Int} (h : mkK made k ≠ false) : 0 ≤ k ∧ k < made.length := by
  unfold mkK at h
  by_cases h0 : k < 0
  · rw [if_pos h0] at h; exact absurd rfl h
  · rw [if_neg h0] at h
    by_cases h1 : made.length ≤ k.toNat
    · rw [getD_out _ h1] at h; exact absurd rfl h
    · omega
theorem atK_value {S : Sh} (h : S.Ok) (k : Int) : 0 ≤ atK S.inputs k ∧ atK S.inputs k ≤ 96 := by
  unfold atK
  split
  · omega
  · by_cases h1 : k.toNat < S.inputs.length
    · rw [getD_at _ h1]; exact h.vals _ (List.getElem_mem _)
    · rw [getD_out _ (by omega)]; omega
theorem tk_ok {S : Sh} (h : S.Ok) (k : Int) : (S.tk k).ok := by
  unfold Sh.tk
  by_cases h1 : k.toNat < S.tks.length
  · rw [getD_at _ h1]; exact h.tks _ (List.getElem_mem _)
  · rw [getD_out _ (by omega)]; exact ⟨by omega, by omega⟩
theorem not_open {l : List Int} {k : Int} (h : ¬ 0 ≤ idx (fun x => k == x) l) : k ∉ l := by
  have := idx_any (fun x => k == x) l
  intro hk
  have h2 : l.any (fun x => k == x) = true := List.any_eq_true.2 ⟨k, hk, by simp⟩
  rw [h2] at this
  exact h (of_decide_eq_true this)
theorem nodup_lt : ∀ (n : Nat) (l : List Nat), l.Nodup → (∀ x ∈ l, x < n) → l.length ≤ n := by
  intro n
  induction n with
  | zero =>
    intro l _ h
    cases l with
    | nil => simp
    | cons a l => exact absurd (h a (by simp)) (by omega)
  | succ n ih =>
    intro l hn h
    have h1 := ih (l.erase n) (hn.erase n) (fun x hx => by
      have h2 := (hn.mem_erase_iff).1 hx
      have := h x h2.2
      omega)
    have := List.length_erase (a := n) (l := l)
    split at this <;> omega
/-- numbers below a bound, each once, are not more than the bound -/
theorem nodup_bound {l : List Int} {n : Nat} (hn : l.Nodup) (hr : ∀ x ∈ l, 0 ≤ x ∧ x < n) : l.length ≤ n := by
  have h1 : (l.map Int.toNat).Nodup := by
    refine List.Pairwise.map _ (fun a b (h : a ≠ b ∧ 0 ≤ a ∧ 0 ≤ b) => ?_) (R := fun a b => a ≠ b ∧ 0 ≤ a ∧ 0 ≤ b) ?_
    · omega
    · have := List.Pairwise.and_mem.1 hn
      exact this.imp (fun ⟨ha, hb, hne⟩ => ⟨hne, (hr _ ha).1, (hr _ hb).1⟩)
  have h2 : (l.map Int.toNat) ⊆ List.range n := by
    intro x hx
    obtain ⟨y, hy, rfl⟩ := List.mem_map.1 hx
    have := hr y hy
    simp only [List.mem_range]; omega
  have := nodup_lt n _ h1 (fun x hx => List.mem_range.1 (h2 hx))
  simpa using this

theorem inv_push {S : Sh} {n : Nat} {st : MkSt} {k : Int} (hi : Inv S (n + 1) st) (hkr : 0 ≤ k ∧ k < S.made.length) (hk : st.known k = none) (hko : k ∉ st.open_) : Inv S n { st with open_ := st.open_ ++ [k] } := by
  refine ⟨?_, ?_, ?_, ?_, hi.vals, hi.onodup, hi.orange, hi.oknown⟩
  · simp only [List.nodup_append, List.nodup_cons, List.not_mem_nil, not_false_eq_true, List.nodup_nil, and_true, List.mem_singleton]
    exact ⟨hi.nodup, trivial, fun a ha b hb => by subst hb; intro e; subst e; exact hko ha⟩
  · intro x hx
    simp only [List.mem_append, List.mem_singleton] at hx
    rcases hx with hx | rfl
    · exact hi.range x hx
    · exact hkr
  · have := hi.fuel
    simp; omega
  · intro x hx
    simp only [List.mem_append, List.mem_singleton] at hx
    rcases hx with hx | rfl
    · exact hi.openUnknown x hx
    · exact hk
theorem tk_at {S : Sh} {q : Nat} (h : q < S.tks.length) : S.tk q = S.tks[q] := by
  unfold Sh.tk; exact getD_at _ h
theorem zeroB : 0 ≤ (0 : Int) ∧ (0 : Int) ≤ 96 := by omega
theorem keyP_inv {S : Sh} (hS : S.Ok) : ∀ (n : Nat) (st : MkSt) (k : Int), Inv S n st →
    Inv S n (keyP S n st k).2 ∧ ((keyP S n st k).1.2 = true → (keyP S n st k).2.open_ = st.open_) ∧ 0 ≤ (keyP S n st k).1.1 ∧ (keyP S n st k).1.1 ≤ 96 := by
  intro n
  induction n with
  | zero =>
    intro st k hi
    unfold keyP
    split
    · exact ⟨hi, fun _ => rfl, atK_value hS k⟩
    · split
      · rename_i v hv
        exact ⟨hi, fun _ => rfl, hi.vals _ _ hv⟩
      · split
        · exact ⟨⟨hi.nodup, hi.range, hi.fuel, hi.openUnknown, hi.vals, hi.onodup, hi.orange, hi.oknown⟩, (fun h => Bool.noConfusion h), zeroB⟩
        · exact ⟨hi, (fun h => Bool.noConfusion h), zeroB⟩
  | succ n ih =>
    intro st k hi
    unfold keyP
    split
    · exact ⟨hi, fun _ => rfl, atK_value hS k⟩
    · rename_i hm
      split
      · rename_i v hv
        exact ⟨hi, fun _ => rfl, hi.vals _ _ hv⟩
      · rename_i hk
        split
        · exact ⟨⟨hi.nodup, hi.range, hi.fuel, hi.openUnknown, hi.vals, hi.onodup, hi.orange, hi.oknown⟩, (fun h => Bool.noConfusion h), zeroB⟩
        · rename_i ho
          have hkr := mkK_range hm
          have hko := not_open ho
          have hi1 := inv_push hi hkr hk hko
          have hJ : ∀ (s : MkSt) (k : Int), Inv S n s → 0 ≤ k → k ≤ 9 → Inv S n (keyP S n s k).2 := fun s k h _ _ => (ih s k h).1
          have r1 := Tk.run_keeps hJ (S.tk k) _ (tk_ok hS k) hi1
          have r2 := Tk.run_gives (R := fun a b => b.open_ = a.open_) hJ (fun _ => rfl) (fun a b c (h1 : b.open_ = a.open_) (h2 : c.open_ = b.open_) => h2.trans h1) (fun s k h _ _ => (ih s k h).2.1) (S.tk k) _ (tk_ok hS k) hi1
          have r3 := Tk.run_value hJ (fun s k h _ _ => (ih s k h).2.2) (S.tk k) _ (tk_ok hS k) hi1
          dsimp only at r1 r2 r3 ⊢
          generalize (S.tk k).run (keyP S n) { st with open_ := st.open_ ++ [k] } = r at *
          split
          · rename_i hr
            have hop := r2 hr
            have hpop : r.2.open_.dropLast = st.open_ := by rw [hop]; simp
            have hku : r.2.known k = none := r1.openUnknown k (by rw [hop]; simp)
            have hkord : k ∉ r.2.order := fun h => r1.oknown k h hku
            refine ⟨⟨?_, ?_, ?_, ?_, ?_, ?_, ?_, ?_⟩, fun _ => hpop, r3⟩
            · simp only [hpop]; exact hi.nodup
            · simp only [hpop]; exact hi.range
            · simp only [hpop]; exact hi.fuel
            · simp only [hpop]
              intro x hx
              have hne : x ≠ k := fun e => hko (e ▸ hx)
              simp only [upd, hne, if_false]
              exact r1.openUnknown x (by rw [hop]; simp [hx])
            · intro x v hv
              simp only [upd] at hv
              split at hv
              · cases hv; exact r3
              · exact r1.vals x v hv
            · simp only [List.nodup_append, List.nodup_cons, List.not_mem_nil, not_false_eq_true, List.nodup_nil, and_true, List.mem_singleton]
              exact ⟨r1.onodup, trivial, fun a ha b hb => by subst hb; intro e; subst e; exact hkord ha⟩
            · intro x hx
              simp only [List.mem_append, List.mem_singleton] at hx
              rcases hx with hx | rfl
              · exact r1.orange x hx
              · exact hkr
            · intro x hx
              simp only [List.mem_append, List.mem_singleton] at hx
              simp only [upd]
              split
              · simp
              · rename_i hne
                rcases hx with hx | hx
                · exact r1.oknown x hx
                · exact absurd hx hne
          · refine ⟨?_, (fun h => Bool.noConfusion h), zeroB⟩
            have := r1.fuel
            exact ⟨r1.nodup, r1.range, by dsimp only; omega, r1.openUnknown, r1.vals, r1.onodup, r1.orange, r1.oknown⟩
/-- of a run within a key -/
theorem keyP_run {S : Sh} (hS : S.Ok) {n : Nat} {st : MkSt} (hi : Inv S n st) {t : Tk} (ht : t.ok) : Inv S n (t.run (keyP S n) st).2 ∧ ((t.run (keyP S n) st).1.2 = true → (t.run (keyP S n) st).2.open_ = st.open_) ∧ 0 ≤ (t.run (keyP S n) st).1.1 ∧ (t.run (keyP S n) st).1.1 ≤ 96 := by
  have hJ : ∀ (s : MkSt) (k : Int), Inv S n s → 0 ≤ k → k ≤ 9 → Inv S n (keyP S n s k).2 := fun s k h _ _ => (keyP_inv hS n s k h).1
  exact ⟨Tk.run_keeps hJ t _ ht hi, Tk.run_gives (R := fun a b => b.open_ = a.open_) hJ (fun _ => rfl) (fun a b c (h1 : b.open_ = a.open_) (h2 : c.open_ = b.open_) => h2.trans h1) (fun s k h _ _ => (keyP_inv hS n s k h).2.1) t _ ht hi,
    Tk.run_value hJ (fun s k h _ _ => (keyP_inv hS n s k h).2.2) t _ ht hi⟩
theorem inv_order {S : Sh} {n : Nat} {st : MkSt} (h : Inv S n st) : st.order.length ≤ S.made.length := nodup_bound h.onodup h.orange
theorem inv_open {S : Sh} {n : Nat} {st : MkSt} (h : Inv S n st) : st.open_.length ≤ S.made.length := nodup_bound h.nodup h.range
end Go.Proofs.Ytpccgdkidnkppaa

set_option linter.unusedVariables false
set_option linter.unusedSimpArgs false
namespace Go.Proofs.Ytpccgdkidnkppaa
open Go Go.RowKit

/-- a sheet's value: all that it leads to in blocks below B -/
structure SheetAt (B : Nat) (w : World) (Am : Option Addr) (cm : Nat) (At : Option Addr) (ct : Nat) (made : List Bool) (tasks : List Task) : Prop where
  lm : made.length ≤ cm
  mm : cm ≤ maxLen
  lt : tasks.length ≤ ct
  mt : ct ≤ maxLen
  made : BoolsAt B w Am made
  tasks : PartsIs B w At 0 tasks

set_option maxHeartbeats 1000000 in
theorem sheetOk_calls (Am At : Option Addr) (cm ct : Nat) (made : List Bool) (tasks : List Task) (B : Nat) (w0 w : World) (hb : Below B w0 w) (hB : B ≤ w.heap.size) (hs : SheetAt B w0 Am cm At ct made tasks) :
    Calls Try.prog 80 #[.agg #[.slice Am made.length cm, .slice At tasks.length ct]] w fun e w' => e = .returned (.bool (sheetOk made tasks)) ∧ Below w.heap.size w w' := by
  obtain ⟨lm, mm, lt, mt, hm, ht⟩ := hs
  unfold maxLen at mm mt
  replace hb := Lib.hid hb
  replace hm := Lib.hid hm
  replace ht := Lib.hid ht
  by_cases h1 : made.length = tasks.length
  case neg =>
    have hr : sheetOk made tasks = false := by simp [sheetOk, h1]
    replace hr := Lib.hid hr
    have h1' : ((made.length : Int) != (tasks.length : Int)) = true := by simp; omega
    replace h1 := Lib.hid h1
    go_enter Try.func80, Try.ntmps80
    go_wp2_with fail
    go_ret
    exact ⟨by rw [hr.out]; rfl, below_al (Below.refl _ _) _⟩
  have h1' : ((made.length : Int) != (tasks.length : Int)) = false := by simp; omega
  replace h1 := Lib.hid h1
  by_cases h2 : made.length ≤ 10
  case neg =>
    have hr : sheetOk made tasks = false := by simp [sheetOk, h2]
    replace hr := Lib.hid hr
    go_enter Try.func80, Try.ntmps80
    go_wp2_with fail
    go_ret
    exact ⟨by rw [hr.out]; rfl, below_al (Below.refl _ _) _⟩
  have hr : sheetOk made tasks = sheetOkL made tasks := by simp [sheetOk, h1.out, h1.out ▸ h2]
  replace hr := Lib.hid hr
  go_enter Try.func80, Try.ntmps80
  go_wp2_with fail
  go_loopw [3, 21] (fun _ i wr => ∃ (j : Nat), j ≤ tasks.length ∧ i = .int .i64 j ∧ w.heap.size < wr.heap.size ∧ wr.cell? ⟨w.heap.size, 0, none⟩ = some (.slice Am made.length cm) ∧ Hid (Below w.heap.size w wr) ∧ Hid (sheetOkL made tasks = sheetOkL (made.drop j) (tasks.drop j))) (fun _ i _ => tasks.length - (intOf i).toNat)
  case atStart => exact ⟨0, Nat.zero_le _, rfl, by simp, by simp, Lib.hid (below_al (Below.refl _ _) _), Lib.hid rfl⟩
  case round =>
    obtain ⟨j, hj, rfl, hz, hbox, hw, he⟩ := hrel
    by_cases hlt : j < tasks.length
    · obtain ⟨b, o, A', c', rfl, hbl, y0, y1, y2, hc', hm', hp'⟩ := ht.out.at (below_up' hb.out hB hw.out) j hlt
      have hbl' : b < wr.heap.size := by have := hw.out.size; omega
      have hltm : j < made.length := by have := h1.out; omega
      have hd : tasks.drop j = tasks[j] :: tasks.drop (j + 1) := List.drop_eq_getElem_cons hlt
      have hdm : made.drop j = made[j] :: made.drop (j + 1) := List.drop_eq_getElem_cons hltm
      rw [hd, hdm] at he
      have he2 := he.out
      rw [sheetOkL_cons] at he2
      replace hd := Lib.hid hd
      replace hdm := Lib.hid hdm
      clear he
      have hcall := fun w1 (hb1 : Below B w0 w1) (hB1 : B ≤ w1.heap.size) => taskOk_calls tasks[j] A' c' B w0 w1 hb1 hB1 hc' hm' hp'
      replace hcall := Lib.hid hcall
      cases hok : okT tasks[j] with
      | false =>
        rw [hok] at he2
        replace he2 := Lib.hid he2
        replace hok := Lib.hid hok
        go_wp2_with fail
        refine (hcall.out _ (below_al' (below_up' hb.out hB hw.out) _ (by have := hw.out.size; omega)) (by have := hw.out.size; simp; omega)).mono ?_
        rintro e w2 ⟨rfl, h5⟩
        replace h5 := Lib.hid h5
        rw [hok.out]
        go_wp2_with fail
        go_ret
        exact ⟨by rw [hr.out, he2.out]; rfl, below_up hw.out (below_from h5.out)⟩
      | true =>
        rw [hok, Bool.true_and] at he2
        obtain ⟨bm, om, eqm, hbm, cmj⟩ := hm.out.at (below_up' hb.out hB hw.out) (by have := hw.out.size; omega) j hltm
        replace hok := Lib.hid hok
        have hk1 : (tasks[j].kind == 0) = true ∨ (tasks[j].kind == 0) = false := by cases (tasks[j].kind == 0) <;> simp
        have hk2 : (tasks[j].n == 0) = true ∨ (tasks[j].n == 0) = false := by cases (tasks[j].n == 0) <;> simp
        subst eqm
        cases hmj : made[j] with
        | true =>
          rw [hmj, Bool.true_or, Bool.true_and] at he2
          rw [hmj] at cmj
          replace he2 := Lib.hid he2
          replace hmj := Lib.hid hmj
          clear hk1 hk2
          go_wp2_with fail
          refine (hcall.out _ (below_al' (below_up' hb.out hB hw.out) _ (by have := hw.out.size; omega)) (by have := hw.out.size; simp; omega)).mono ?_
          rintro e w2 ⟨rfl, h5⟩
          rw [hok.out]
          have hh := bcell h5
          simp at hh
          have z0 : w2.cell? ⟨w.heap.size, 0, none⟩ = some (.slice (some ⟨bm, om, none⟩) made.length cm) := (hh _ _ (by omega)).trans ((cell_al hz).trans hbox)
          have z1 : w2.cell? ⟨bm, om + j, none⟩ = some (.bool true) := (hh _ _ (by omega)).trans ((cell_al hbm).trans cmj)
          have hz2 : w.heap.size < w2.heap.size := by have := h5.size; simp at this; omega
          clear hh
          replace h5 := Lib.hid h5
          clear y0 y1 y2 hbox cmj
          go_wp2_with fail
          go_roundw
          case rel => exact ⟨j + 1, by omega, by go_num, hz2, z0, Lib.hid (below_up hw.out (below_from h5.out)), he2⟩
          case measure => simp [intOf]; omega
        | false =>
          rw [hmj, Bool.false_or] at he2
          rw [hmj] at cmj
          replace hmj := Lib.hid hmj
          by_cases hk : tasks[j].kind = 0
          · have hk' : (tasks[j].kind != 0) = false := by simp [hk]
            have hk2 : (tasks[j].kind == 0) = true := by simp [hk]
            rw [hk2, Bool.true_and] at he2
            replace hk := Lib.hid hk
            replace hk2 := Lib.hid hk2
            by_cases hn : tasks[j].n = 0
            · have hn' : (tasks[j].n != 0) = false := by simp [hn]
              have hn2 : (tasks[j].n == 0) = true := by simp [hn]
              rw [hn2, Bool.true_and] at he2
              replace he2 := Lib.hid he2
              replace hn := Lib.hid hn
              replace hn2 := Lib.hid hn2
              go_wp2_with fail
              refine (hcall.out _ (below_al' (below_up' hb.out hB hw.out) _ (by have := hw.out.size; omega)) (by have := hw.out.size; simp; omega)).mono ?_
              rintro e w2 ⟨rfl, h5⟩
              rw [hok.out]
              have hh := bcell h5
              simp at hh
              have z0 : w2.cell? ⟨w.heap.size, 0, none⟩ = some (.slice (some ⟨bm, om, none⟩) made.length cm) := (hh _ _ (by omega)).trans ((cell_al hz).trans hbox)
              have z1 : w2.cell? ⟨bm, om + j, none⟩ = some (.bool false) := (hh _ _ (by omega)).trans ((cell_al hbm).trans cmj)
              have z2 : w2.cell? ⟨wr.heap.size, 0, none⟩ = some (.int .i64 tasks[j].kind) := (hh _ _ (by omega)).trans (by simp)
              have z3 : w2.cell? ⟨wr.heap.size, 1, none⟩ = some (.int .i64 tasks[j].n) := (hh _ _ (by omega)).trans (by simp)
              have hz2 : w.heap.size < w2.heap.size := by have := h5.size; simp at this; omega
              clear hh
              replace h5 := Lib.hid h5
              clear y0 y1 y2 hbox cmj
              go_wp2_with fail
              go_roundw
              case rel => exact ⟨j + 1, by omega, by go_num, hz2, z0, Lib.hid (below_up hw.out (below_from h5.out)), he2⟩
              case measure => simp [intOf]; omega
            · have hn' : (tasks[j].n != 0) = true := by simp [hn]
              have hn2 : (tasks[j].n == 0) = false := by simp [hn]
              rw [hn2, Bool.false_and] at he2
              replace he2 := Lib.hid he2
              replace hn := Lib.hid hn
              replace hn2 := Lib.hid hn2
              go_wp2_with fail
              refine (hcall.out _ (below_al' (below_up' hb.out hB hw.out) _ (by have := hw.out.size; omega)) (by have := hw.out.size; simp; omega)).mono ?_
              rintro e w2 ⟨rfl, h5⟩
              rw [hok.out]
              have hh := bcell h5
              simp at hh
              have z0 : w2.cell? ⟨w.heap.size, 0, none⟩ = some (.slice (some ⟨bm, om, none⟩) made.length cm) := (hh _ _ (by omega)).trans ((cell_al hz).trans hbox)
              have z1 : w2.cell? ⟨bm, om + j, none⟩ = some (.bool false) := (hh _ _ (by omega)).trans ((cell_al hbm).trans cmj)
              have z2 : w2.cell? ⟨wr.heap.size, 0, none⟩ = some (.int .i64 tasks[j].kind) := (hh _ _ (by omega)).trans (by simp)
              have z3 : w2.cell? ⟨wr.heap.size, 1, none⟩ = some (.int .i64 tasks[j].n) := (hh _ _ (by omega)).trans (by simp)
              have hz2 : w.heap.size < w2.heap.size := by have := h5.size; simp at this; omega
              clear hh
              replace h5 := Lib.hid h5
              clear y0 y1 y2 hbox cmj
              go_wp2_with fail
              go_ret
              exact ⟨by rw [hr.out, he2.out]; rfl, below_up hw.out (below_from h5.out)⟩
          · have hk' : (tasks[j].kind != 0) = true := by simp [hk]
            have hk2 : (tasks[j].kind == 0) = false := by simp [hk]
            rw [hk2, Bool.false_and, Bool.false_and] at he2
            replace he2 := Lib.hid he2
            replace hk := Lib.hid hk
            replace hk2 := Lib.hid hk2
            go_wp2_with fail
            refine (hcall.out _ (below_al' (below_up' hb.out hB hw.out) _ (by have := hw.out.size; omega)) (by have := hw.out.size; simp; omega)).mono ?_
            rintro e w2 ⟨rfl, h5⟩
            rw [hok.out]
            have hh := bcell h5
            simp at hh
            have z0 : w2.cell? ⟨w.heap.size, 0, none⟩ = some (.slice (some ⟨bm, om, none⟩) made.length cm) := (hh _ _ (by omega)).trans ((cell_al hz).trans hbox)
            have z1 : w2.cell? ⟨bm, om + j, none⟩ = some (.bool false) := (hh _ _ (by omega)).trans ((cell_al hbm).trans cmj)
            have z2 : w2.cell? ⟨wr.heap.size, 0, none⟩ = some (.int .i64 tasks[j].kind) := (hh _ _ (by omega)).trans (by simp)
            have z3 : w2.cell? ⟨wr.heap.size, 1, none⟩ = some (.int .i64 tasks[j].n) := (hh _ _ (by omega)).trans (by simp)
            have hz2 : w.heap.size < w2.heap.size := by have := h5.size; simp at this; omega
            clear hh
            replace h5 := Lib.hid h5
            clear y0 y1 y2 hbox cmj
            go_wp2_with fail
            go_ret
            exact ⟨by rw [hr.out, he2.out]; rfl, below_up hw.out (below_from h5.out)⟩
    · have hd : tasks.drop j = [] := List.drop_eq_nil_of_le (by omega)
      have hdm : made.drop j = [] := List.drop_eq_nil_of_le (by have := h1.out; omega)
      rw [hd, hdm, sheetOkL_nil] at he
      replace hd := Lib.hid hd
      replace hdm := Lib.hid hdm
      go_wp2_with fail
      go_ret
      exact ⟨by rw [hr.out, he.out]; rfl, hw.out⟩
end Go.Proofs.Ytpccgdkidnkppaa

set_option linter.unusedVariables false
set_option linter.unusedSimpArgs false
namespace Go.Proofs.Ytpccgdkidnkppaa
open Go Go.RowKit

def nb : Nat → Int
  | 0 => 1
  | r + 1 => 1 + 3 * nb r
theorem nb_pos : ∀ r, 1 ≤ nb r
  | 0 => by simp [nb]
  | r + 1 => by have := nb_pos r; simp only [nb]; omega
theorem nb_le : ∀ {a b : Nat}, a ≤ b → nb a ≤ nb b := by
  intro a b h
  induction h with
  | refl => exact Int.le_refl _
  | step _ ih => simp only [nb]; have := nb_pos a; rename_i m _; have := nb_pos m; omega
theorem nodesL_le {x : Int} : ∀ {ps : List Task}, (∀ t ∈ ps, nodes t ≤ x) → nodesL ps ≤ ps.length * x := by
  intro ps
  induction ps with
  | nil => intro _; simp [nodesL]
  | cons t ts ih =>
    intro h
    rw [nodesL]
    have h1 := h t (by simp)
    have h2 := ih (fun u hu => h u (by simp [hu]))
    simp only [List.length_cons, Int.natCast_add, Int.add_mul]
    omega
theorem TyV.reads {g B : Nat} {G : Rows} {w : World} (h : TyH g B G w) : ∀ (r : Nat) (v : Value), TyV G r v → ∃ T, TaskIs w.heap.size w v T ∧ nodes T ≤ nb r := by
  intro r
  induction r using Nat.strongRecOn with
  | ind r ih =>
  intro v hv
  obtain ⟨k, n, A, m, c, rfl, hm3, hmc, hcm, hk5, hrow⟩ := hv
  rcases hrow with rfl | ⟨b, r', rfl, hG, hr'⟩
  · refine ⟨.mk k n [], ?_, ?_⟩
    · rw [TaskIs]
      exact ⟨A, c, rfl, by simp, hcm, by rw [PartsIs]; trivial⟩
    · have := nb_pos r
      simp [nodes, nodesL]; omega
  · obtain ⟨_, _, cs, hb, hi⟩ := h b r' m hG
    have h1 : ∀ i, ∃ T, i < m → ∃ x y z, cs[i * 3]? = some x ∧ cs[i * 3 + 1]? = some y ∧ cs[i * 3 + 2]? = some z ∧ TaskIs w.heap.size w (.agg #[x, y, z]) T ∧ nodes T ≤ nb r' := by
      intro i
      by_cases hlt : i < m
      · obtain ⟨x, y, z, c0, c1, c2, hx⟩ := hi i hlt
        obtain ⟨T, hT⟩ := ih r' hr' _ hx
        exact ⟨T, fun _ => ⟨x, y, z, c0, c1, c2, hT⟩⟩
      · exact ⟨default, fun hh => (hlt hh).elim⟩
    obtain ⟨f, hf⟩ := Classical.axiomOfChoice h1
    refine ⟨.mk k n ((List.range m).map f), ?_, ?_⟩
    · rw [TaskIs]
      refine ⟨some ⟨b, 0, none⟩, c, by simp, by simpa using hmc, hcm, PartsIs.of_get (fun i hl => ?_)⟩
      have hl' : i < m := by simpa using hl
      obtain ⟨x, y, z, c0, c1, c2, hT, _⟩ := hf i hl'
      exact ⟨b, 0, x, y, z, rfl, block_lt hb, by rw [cellm hb]; simpa using c0, by rw [cellm hb]; simpa using c1, by rw [cellm hb]; simpa using c2, by simpa using hT⟩
    · obtain ⟨q, rfl⟩ : ∃ q, r = q + 1 := ⟨r - 1, by omega⟩
      have h2 : ∀ t ∈ (List.range m).map f, nodes t ≤ nb q := by
        intro t ht
        obtain ⟨i, hi, rfl⟩ := List.mem_map.1 ht
        obtain ⟨_, _, _, _, _, _, _, hn⟩ := hf i (by simpa using hi)
        have := nb_le (show r' ≤ q by omega)
        omega
      have h3 := nodesL_le h2
      have h4 := nb_pos q
      have h5 : (m : Int) * nb q ≤ 3 * nb q := Int.mul_le_mul_of_nonneg_right (by omega) (by omega)
      simp only [List.length_map, List.length_range] at h3
      simp only [nodes, nb]
      omega

theorem task0 (R : RdEnv) (hR : R.Good) : TaskDraws R 0 3 0 := fun G p below w hp h hG => task_zero R hR G p hp below w h hG
theorem task1 (R : RdEnv) (hR : R.Good) : TaskDraws R 1 12 1 := task_succ R hR 1 3 0 (by omega) (by omega) (by omega) (task0 R hR)
theorem task2 (R : RdEnv) (hR : R.Good) : TaskDraws R 2 39 2 := task_succ R hR 2 12 1 (by omega) (by omega) (by omega) (task1 R hR)
theorem task3 (R : RdEnv) (hR : R.Good) : TaskDraws R 3 120 3 := task_succ R hR 3 39 2 (by omega) (by omega) (by omega) (task2 R hR)

theorem DSt.up {R : RdEnv} {G G1 : Rows} {w w1 w2 : World} {p1 : Nat} (h : DSt R G w G1 p1 w1) (hb : Below w1.heap.size w1 w2) : DSt R G w G1 p1 w2 :=
  h.step (h.rd.up hb) (below_turn hb)

set_option maxHeartbeats 1000000 in
theorem l91Fit_calls (R : RdEnv) (hR : R.Good) (G : Rows) (p : Nat) (hp : p + 40 ≤ 1000000) (below : Int) (w : World) (h : RdAt R p w) (hG : TyH R.g R.B G w) :
    Calls Try.prog 115 #[.pointer (some ⟨R.g, 0, none⟩), .int .i64 below] w (DrawT R G p 40 2 w) := by
  have hs := DSt.start h hG
  have h1 := task2 R hR G p below _ (by omega) hs.rd hs.ty
  replace h1 := Lib.hid h1
  replace hs := Lib.hid hs
  clear h hG
  go_enter Try.func115, Try.ntmps115
  go_wp2_with fail
  refine h1.out.mono ?_
  rintro e w1 ⟨q, G1, v, rfl, hv, hq, hQ, hr, ht, he, hy⟩
  have hs1 := hs.out.draw hr ht he hy
  have hv' := hv
  obtain ⟨a, b, A, m, d, rfl, _⟩ := hv'
  have hs2 := hs1.up (below_al (Below.refl _ _) (.cells #[.int .i64 a, .int .i64 b, .slice A m d] 48 (0, 0)))
  obtain ⟨T, hT, hn⟩ := TyV.reads hs2.ty 2 _ hv
  cases T with
  | mk k' n' ps =>
  rw [TaskIs] at hT
  obtain ⟨A', c', e, hc, hcm, hps⟩ := hT
  simp only [Value.agg.injEq, Array.mk.injEq, List.cons.injEq, and_true, Value.int.injEq, true_and, Value.slice.injEq] at e
  obtain ⟨rfl, rfl, rfl, rfl, rfl⟩ := e
  have hok := specTaskOk_calls (.mk a b ps) A d _ _ _ (by simp [nb] at hn; omega) (Below.refl _ _) (Nat.le_refl _) hc hcm hps
  simp only [Task.kind, Task.n, Task.parts] at hok
  generalize okT (.mk a b ps) = ok at hok
  have hz := hs1.lt
  replace hok := Lib.hid hok
  replace hs1 := Lib.hid hs1
  replace hs2 := Lib.hid hs2
  replace hv := Lib.hid hv
  clear hr ht he hy h1 hs hps hn hc
  go_wp2_with fail
  refine hok.out.mono ?_
  rintro e w2 ⟨rfl, hb⟩
  have hs3 := hs2.out.up hb
  have y0 : w2.cell? ⟨w1.heap.size, 0, none⟩ = some (.int .i64 a) := (hb.cell (p := ⟨w1.heap.size, 0, none⟩) (by simp)).trans (by simp)
  have y1 : w2.cell? ⟨w1.heap.size, 1, none⟩ = some (.int .i64 b) := (hb.cell (p := ⟨w1.heap.size, 1, none⟩) (by simp)).trans (by simp)
  have y2 : w2.cell? ⟨w1.heap.size, 2, none⟩ = some (.slice A ps.length d) := (hb.cell (p := ⟨w1.heap.size, 2, none⟩) (by simp)).trans (by simp)
  have hpk := pick_calls R hR q (by omega) 10 w2 hs3.rd
  obtain ⟨x0, x1, x2, f0, f1, f2⟩ := hs3.cells
  have z2 := hs3.lt
  replace hs3 := Lib.hid hs3
  replace hpk := Lib.hid hpk
  clear hb hok hs1 hs2
  cases ok with
  | true =>
    go_wp2_with fail
    exact hs3.out.done rfl rfl hv.out ⟨by omega, by omega⟩
  | false =>
    go_wp2_with fail
    refine hpk.out.mono ?_
    rintro e w3 ⟨n3, rfl, _, _, hr2, ht2⟩
    have hs4 := hs3.out.step hr2 ht2
    obtain ⟨x0, x1, x2, f0, f1, f2⟩ := hs4.cells
    have z3 := hs4.lt
    replace hs4 := Lib.hid hs4
    clear hr2 ht2 hs3 hpk y0 y1 y2
    go_wp2_with fail
    exact hs4.out.done rfl rfl (tyv_leaf _ _ _ _ (by omega)) ⟨by omega, by omega⟩
end Go.Proofs.Ytpccgdkidnkppaa

set_option linter.unusedVariables false
set_option linter.unusedSimpArgs false
namespace Go.Proofs.Ytpccgdkidnkppaa
open Go Go.RowKit

theorem intTy : ElemTy Try.prog 26 3 (.int .i64 0) 1 8 := ⟨Try.underlying26, by kernel_rfl, rfl, by omega⟩
theorem mapTy : MapTy Try.prog 99 3 3 := ⟨Try.underlying99, Try.underlying3, Try.underlying3, fun w => by kernel_rfl⟩

theorem clone_calls (A : Option Addr) (c : Nat) (xs : List Int) (B : Nat) (w0 w : World) (hb : Below B w0 w) (hB : B ≤ w.heap.size) (hm : xs.length ≤ 1099511627776) (hx : IntsAt B w0 A xs) :
    Calls Try.prog 87 #[.slice A xs.length c] w fun e w' => ∃ v, e = .returned v ∧ w'.ownsRow w.heap.size 3 1 v xs.length (ints xs) ∧ Below w.heap.size w w' := by
  cases A with
  | none =>
    have h0 : xs = [] := by
      cases xs with
      | nil => rfl
      | cons x xs => obtain ⟨b, o, e, _⟩ := hx 0 (by simp); cases e
    subst h0
    have he := Lib.run_eql_slice_nil (P := Try.prog) w 26 3 none 0 c 0 0 Try.underlying26
    go_enter Try.func87, Try.ntmps87
    go_wp2
    go_ret
    exact ⟨_, rfl, World.ownsRow_nil _ _ _ _, Below.refl _ _⟩
  | some ad =>
    have he := Lib.run_eql_slice_nil (P := Try.prog) w 26 3 (some ad) xs.length c 0 0 Try.underlying26
    replace hx := Lib.hid hx
    replace hb := Lib.hid hb
    go_enter Try.func87, Try.ntmps87
    go_wp2_with ((with_reducible refine wpList_appN (by rfl) (.tmp 5) (.tmp 6) 26 (by rfl) intTy w.heap.size (.slice (some ⟨w.heap.size, 0, none⟩) 0 0) 0 [] (by with_unfolding_all rfl) ?_ ad xs.length c (ints xs) (by with_unfolding_all rfl) (by simp [ints]) ?_ ?_ ?_ ?_ ?_ ?_))
    · exact World.ownsRow_made w #[] 0 (Nat.le_refl _) (by simp [maxLen]) rfl
    · intro j u hu
      have hj : j < xs.length := by
        have := (List.getElem?_eq_some_iff.1 hu).1
        simpa [ints] using this
      obtain ⟨b, o, e, hlt, hc⟩ := hx.out.at hb.out hB j hj
      cases e
      rw [Addr.add_lit, cell_al hlt, hc]
      simpa [ints, hj] using hu
    · intro u hu
      simp only [ints, List.mem_map] at hu
      obtain ⟨x, _, rfl⟩ := hu
      rfl
    · simp [maxLen]; omega
    · omega
    · simp
    · intro v' w' h1 h2 h4
      replace h1 := Lib.hid h1
      replace h2 := Lib.hid h2
      clear h4
      go_wp2_with fail
      go_ret
      have h5 := h1.out
      exact ⟨_, rfl, by simpa using h5, (below_al (Below.refl _ _) _).grown h2.out (by simp) (fun k hk => by cases hk; simp)⟩
end Go.Proofs.Ytpccgdkidnkppaa

set_option linter.unusedVariables false
set_option linter.unusedSimpArgs false
namespace Go.Proofs.Ytpccgdkidnkppaa
open Go Go.RowKit

set_option maxHeartbeats 1000000 in
theorem l91Num_calls (R : RdEnv) (hR : R.Good) (p : Nat) (hp : p + 1 ≤ 1000000) (b c : Nat) (xs : List Int) (w : World) (h : RdAt R p w) (h1 : 1 ≤ xs.length) (hc : xs.length ≤ c) (hm : c ≤ 1000) (hb : b < w.heap.size) (hg : b ≠ R.g)
    (hx : ∀ i (hi : i < xs.length), w.cell? ⟨b, i, none⟩ = some (.int .i64 xs[i])) :
    Calls Try.prog 117 #[.pointer (some ⟨R.g, 0, none⟩), .slice (some ⟨b, 0, none⟩) xs.length c] w fun e w' => ∃ v, e = .returned (.int .i64 v) ∧ v ∈ xs ∧ RdAt R (p + 1) w' ∧ Turn (· = R.g) (· = R.g) w w' := by
  have hk := pick_calls R hR p (by omega) xs.length w h
  replace hk := Lib.hid hk
  replace hx := Lib.hid hx
  replace h := Lib.hid h
  go_enter Try.func117, Try.ntmps117
  go_wp2_with fail
  refine hk.out.mono ?_
  rintro e w1 ⟨v, rfl, hv0, hv1, hr, ht⟩
  obtain ⟨q, rfl⟩ := Int.eq_ofNat_of_zero_le hv0
  have hq : q < xs.length := by omega
  have y := (ht.cell q hb hg).trans (hx.out q hq)
  have hz : b < w1.heap.size := by have := ht.size; omega
  replace hr := Lib.hid hr
  replace ht := Lib.hid ht
  go_wp2_with fail
  go_ret
  exact ⟨xs[q], rfl, List.getElem_mem _, hr.out, ht.out⟩

/-- a row of numbers that grows while bytes are read; the sheet's box is the first new block -/
structure InSt (R : RdEnv) (w : World) (s1 s2 : Value) (p : Nat) (xs : List Int) (v : Value) (wr : World) : Prop where
  rd : RdAt R p wr
  turn : Turn (· = R.g) (· = R.g) w wr
  own : wr.ownsRow w.heap.size 3 1 v xs.length (ints xs)
  box : wr.heap[w.heap.size]? = some (.cells #[s1, s2] 31 (0, 0))
  glt : R.g < w.heap.size
  bw : R.B ≤ w.heap.size
section
variable {R : RdEnv} {w wr w2 : World} {s1 s2 v : Value} {p : Nat} {xs : List Int}
theorem InSt.step (h : InSt R w s1 s2 p xs v wr) {p2 : Nat} (rd : RdAt R p2 w2) (t : Turn (· = R.g) (· = R.g) wr w2) : InSt R w s1 s2 p2 xs v w2 :=
  ⟨rd, h.turn.trans t, ownsRow_block h.own (fun i hi => t.block i (h.own.lt i hi).2 (fun e => by have := (h.own.lt i hi).1; have := h.glt; omega)), (t.block _ (block_lt h.box) (fun e => by have := h.glt; omega)).trans h.box, h.glt, h.bw⟩
theorem InSt.alloc (h : InSt R w s1 s2 p xs v wr) (o : Obj) : InSt R w s1 s2 p xs v (wr.alloc o) :=
  h.step (h.rd.up (below_al (Below.refl _ _) o)) ((Turn.refl _ _).alloc o)
theorem InSt.ne (h : InSt R w s1 s2 p xs v wr) : v.ownBlock ≠ some w.heap.size := ownsRow_ne h.own h.box (fun c e => by cases e)
theorem InSt.app (h : InSt R w s1 s2 p xs v wr) {o : Obj} {x : Int} {v' : Value} (hg : (wr.alloc o).grownBy w2 v.ownBlock) (ho : w2.ownsRow w.heap.size 3 1 v' (xs.length + 1) (ints xs ++ [.int .i64 x])) :
    InSt R w s1 s2 p (xs ++ [x]) v' w2 := by
  have hlt := h.own.lt
  have hz : w.heap.size ≤ wr.heap.size := h.turn.size
  have hb : Below w.heap.size wr w2 := (below_al' (Below.refl _ _) o hz).grown hg (by simp; omega) (fun k hk => (hlt k hk).1)
  refine ⟨⟨(hb.block _ h.glt).trans h.rd.blk, h.rd.below.trans (hb.mono h.bw), Nat.le_trans h.rd.size hb.size⟩, ?_, ?_, (far_grown hg (block_lt h.box) h.ne).trans h.box, h.glt, h.bw⟩
  · exact ⟨hb.os.trans h.turn.os, hb.tape.trans h.turn.tape, hb.output.trans h.turn.output, Nat.le_trans hz hb.size, fun i hi hF => (hb.block i hi).trans (h.turn.block i hi hF), h.turn.fresh⟩
  · simpa [ints_append, ints] using ho
end
/-- what a draw of inputs brings -/
def DrawIn (R : RdEnv) (p c m : Nat) (w : World) (e : Ending) (w' : World) : Prop :=
  ∃ p' xs v, e = .returned v ∧ xs.length ≤ m ∧ p ≤ p' ∧ p' ≤ p + c ∧ RdAt R p' w' ∧ Turn (· = R.g) (· = R.g) w w' ∧ w'.ownsRow w.heap.size 3 1 v xs.length (ints xs)

set_option maxHeartbeats 2000000 in
theorem l91Inputs_calls (R : RdEnv) (hR : R.Good) (p : Nat) (hp : p + 100 ≤ 1000000) (Am At : Option Addr) (nm cm nt ct : Nat) (w : World) (h : RdAt R p w) (hn : nm ≤ 20) :
    Calls Try.prog 68 #[.pointer (some ⟨R.g, 0, none⟩), .agg #[.slice Am nm cm, .slice At nt ct]] w (DrawIn R p 100 (nm + 1) w) := by
  have hs : InSt R w (.slice Am nm cm) (.slice At nt ct) p [] (.slice (some ⟨w.heap.size + 1, 0, none⟩) 0 0) ((w.alloc (.cells #[.slice Am nm cm, .slice At nt ct] 31 (0, 0))).alloc (.cells #[] 3 (0, 0))) :=
    ⟨h.up (below_al (below_al (Below.refl _ _) _) _), ((Turn.refl _ _).alloc _).alloc _, by simpa [ints] using World.ownsRow_made (base := w.heap.size) (w.alloc (.cells #[.slice Am nm cm, .slice At nt ct] 31 (0, 0))) #[] 0 (by simp) (by simp [maxLen]) rfl, (heap_old (by simp)).trans (heap_new rfl), block_lt h.blk, h.size⟩
  have h1 := pick_calls R hR p (by omega) 2 _ hs.rd
  replace h1 := Lib.hid h1
  replace hs := Lib.hid hs
  clear h
  go_enter Try.func68, Try.ntmps68
  go_wp2_with fail
  refine h1.out.mono ?_
  rintro e w1 ⟨k, rfl, hk0, hk1, hr, ht⟩
  have hs1 := hs.out.step hr ht
  replace hs1 := Lib.hid hs1
  clear h1 hs hr ht
  go_wp2_with fail
  generalize (k == 0) = sm
  go_loopw [5, 7] (fun o i wr => ∃ (j : Nat) (xs : List Int) (p2 : Nat), j ≤ nm ∧ xs.length = j ∧ p2 ≤ p + 1 + 2 * j ∧ p ≤ p2 ∧ i = .int .i64 j ∧ Hid (InSt R w (.slice Am nm cm) (.slice At nt ct) p2 xs o wr)) (fun _ i _ => nm - (intOf i).toNat)
  case atStart => exact ⟨0, [], p + 1, Nat.zero_le _, rfl, by omega, by omega, rfl, hs1⟩
  case round =>
    obtain ⟨j, xs, p2, hj, hlen, hp2, hpp, rfl, hL⟩ := hrel
    have b0 : wr.cell? ⟨w.heap.size, 0, none⟩ = some (.slice Am nm cm) := cellm hL.out.box 0
    have hz := block_lt hL.out.box
    by_cases hlt : j < nm
    · have hc := pick_calls R hR p2 (by omega) 97 wr hL.out.rd
      replace hc := Lib.hid hc
      go_wp2_with fail
      refine hc.out.mono ?_
      rintro e w2 ⟨x, rfl, hx0, hx1, hr2, ht2⟩
      have hL2 := hL.out.step hr2 ht2
      clear hc hr2 ht2 hL b0 hz
      replace hL2 := Lib.hid hL2
      have fin : ∀ (x : Int) (p3 : Nat) (w3 : World), True := fun _ _ _ => trivial
      cases sm with
      | true =>
        have hc := pick_calls R hR (p2 + 1) (by omega) 3 w2 hL2.out.rd
        replace hc := Lib.hid hc
        go_wp2_with fail
        refine hc.out.mono ?_
        rintro e w3 ⟨x3, rfl, hx30, hx31, hr3, ht3⟩
        have hL3 := hL2.out.step hr3 ht3
        clear hc hr3 ht3 hL2
        replace hL3 := Lib.hid hL3
        go_wp2_with (at_builtin; go_loud (with_reducible refine wpList_app1 (by rfl) (.tmp 25) (.tmp 27) 26 (by rfl) intTy w.heap.size u5 xs.length (ints xs) (by with_unfolding_all rfl) (hL3.out.own.alloc _) w3.heap.size 1 [.int .i64 x3] (by with_unfolding_all rfl) (by with_unfolding_all rfl) ⟨_, _, heap_alloc_new w3 _, rfl⟩ (one_int _ _) ?_ ?_ ?_ ?_))
        · unfold maxLen; omega
        · omega
        · have := hL3.out.turn.size; simp; omega
        intro g cap w4 hown hgrow hat
        have hL4 := hL3.out.app (x := x3) (v' := .slice (some ⟨g, 0, none⟩) (j + 1) cap) hgrow (by rw [hlen]; exact hown)
        replace hL4 := Lib.hid hL4
        clear hown hgrow hat hL3
        go_wp2_with fail
        go_roundw
        case rel => exact ⟨j + 1, _, p2 + 1 + 1, by omega, by simp [hlen], by omega, by omega, by go_num, hL4⟩
        case measure => simp [intOf]; omega
      | false =>
        go_wp2_with (at_builtin; go_loud (with_reducible refine wpList_app1 (by rfl) (.tmp 25) (.tmp 27) 26 (by rfl) intTy w.heap.size u5 xs.length (ints xs) (by with_unfolding_all rfl) (hL2.out.own.alloc _) w2.heap.size 1 [.int .i64 x] (by with_unfolding_all rfl) (by with_unfolding_all rfl) ⟨_, _, heap_alloc_new w2 _, rfl⟩ (one_int _ _) ?_ ?_ ?_ ?_))
        · unfold maxLen; omega
        · omega
        · have := hL2.out.turn.size; simp; omega
        intro g cap w4 hown hgrow hat
        have hL4 := hL2.out.app (x := x) (v' := .slice (some ⟨g, 0, none⟩) (j + 1) cap) hgrow (by rw [hlen]; exact hown)
        replace hL4 := Lib.hid hL4
        clear hown hgrow hat hL2
        go_wp2_with fail
        go_roundw
        case rel => exact ⟨j + 1, _, p2 + 1, by omega, by simp [hlen], by omega, by omega, by go_num, hL4⟩
        case measure => simp [intOf]; omega
    · have hc := pick_calls R hR p2 (by omega) 25 wr hL.out.rd
      replace hc := Lib.hid hc
      go_wp2_with fail
      refine hc.out.mono ?_
      rintro e w2 ⟨x, rfl, hx0, hx1, hr2, ht2⟩
      have hL2 := hL.out.step hr2 ht2
      clear hc hr2 ht2 hL b0 hz
      replace hL2 := Lib.hid hL2
      by_cases hx : x = 0
      · subst hx
        have hL3 := hL2.out.alloc (.cells #[.int .i64 0, .int .i64 97, .int .i64 (-1)] 3 (0, 0))
        have hnum := l91Num_calls R hR (p2 + 1) (by omega) w2.heap.size 3 [0, 97, -1] _ hL3.rd (by simp) (by simp) (by omega) (by simp) (by have h1 := hL2.out.glt; have h2 := hL2.out.turn.size; omega)
          (by intro i hi; rw [cellm (heap_new rfl) i]; rcases (show i = 0 ∨ i = 1 ∨ i = 2 by simp at hi; omega) with rfl | rfl | rfl <;> rfl)
        replace hL3 := Lib.hid hL3
        replace hnum := Lib.hid hnum
        clear hL2
        go_wp2_with fail
        refine hnum.out.mono ?_
        rintro e w3 ⟨x3, rfl, _, hr3, ht3⟩
        have hL4 := hL3.out.step hr3 ht3
        replace hL4 := Lib.hid hL4
        clear hL3 hnum hr3 ht3
        go_wp2_with (at_builtin; go_loud (with_reducible refine wpList_app1 (by rfl) (.tmp 32) (.tmp 36) 26 (by rfl) intTy w.heap.size u5 xs.length (ints xs) (by with_unfolding_all rfl) (hL4.out.own.alloc _) w3.heap.size 1 [.int .i64 x3] (by with_unfolding_all rfl) (by with_unfolding_all rfl) ⟨_, _, heap_alloc_new w3 _, rfl⟩ (one_int _ _) ?_ ?_ ?_ ?_))
        · unfold maxLen; omega
        · omega
        · have := hL4.out.turn.size; simp; omega
        intro g cap w4 hown hgrow hat
        have hL5 := hL4.out.app (x := x3) (v' := .slice (some ⟨g, 0, none⟩) (j + 1) cap) hgrow (by rw [hlen]; exact hown)
        replace hL5 := Lib.hid hL5
        clear hown hgrow hat hL4
        go_wp2_with fail
        go_ret
        exact ⟨p2 + 1 + 1, xs ++ [x3], _, rfl, by simp; omega, by omega, by omega, hL5.out.rd, hL5.out.turn, hL5.out.own⟩
      · have hx' : (x == 0) = false := by simp [hx]
        go_wp2_with fail
        go_ret
        exact ⟨p2 + 1, xs, u5, rfl, by omega, by omega, by omega, hL2.out.rd, hL2.out.turn, hL2.out.own⟩
end Go.Proofs.Ytpccgdkidnkppaa

set_option linter.unusedVariables false
set_option linter.unusedSimpArgs false
namespace Go.Proofs.Ytpccgdkidnkppaa
open Go Go.RowKit

theorem boolTy : ElemTy Try.prog 22 4 (.bool false) 1 1 := ⟨Try.underlying22, by kernel_rfl, rfl, by omega⟩
theorem taskTy : ElemTy Try.prog 29 48 (.agg #[.int .i64 0, .int .i64 0, .slice none 0 0]) 3 40 := ⟨Try.underlying29, by kernel_rfl, rfl, by omega⟩

def bools (l : List Bool) : List Value := l.map fun b => Value.bool b
def cells3 (l : List (Value × Value × Value)) : List Value := l.flatMap fun t => [t.1, t.2.1, t.2.2]
theorem cells3_length (l : List (Value × Value × Value)) : (cells3 l).length = l.length * 3 := by
  induction l with
  | nil => rfl
  | cons t l ih => simp only [cells3, List.flatMap_cons, List.length_append, List.length_cons, List.length_nil] at *; omega
theorem cells3_get : ∀ (l : List (Value × Value × Value)) (i : Nat) (h : i < l.length), (cells3 l)[i * 3]? = some l[i].1 ∧ (cells3 l)[i * 3 + 1]? = some l[i].2.1 ∧ (cells3 l)[i * 3 + 2]? = some l[i].2.2 := by
  intro l
  induction l with
  | nil => intro i h; simp at h
  | cons t l ih =>
    intro i h
    cases i with
    | zero => exact ⟨rfl, rfl, rfl⟩
    | succ i =>
      have := ih i (by simpa using h)
      rw [show (i + 1) * 3 = i * 3 + 3 by omega, show i * 3 + 3 + 1 = i * 3 + 1 + 3 by omega, show i * 3 + 3 + 2 = i * 3 + 2 + 3 by omega]
      exact this

/-- a drawn sheet: two rows, and the rows of parts that G tells of, in blocks from lo on -/
structure Sht (g B lo : Nat) (G : Rows) (made : List Bool) (ts : List (Value × Value × Value)) (vm vt : Value) (w : World) : Prop where
  om : w.ownsRow lo 4 1 vm made.length (bools made)
  ot : w.ownsRow lo 48 3 vt ts.length (cells3 ts)
  ty : TyH g B G w
  tv : ∀ t ∈ ts, TyV G 2 (.agg #[t.1, t.2.1, t.2.2])
  sep : ∀ i x, vt.ownBlock = some i → G i ≠ some x
  new : ∀ b x, G b = some x → lo ≤ b
  glo : g < lo
section
variable {g B lo : Nat} {G G2 : Rows} {made : List Bool} {ts : List (Value × Value × Value)} {vm vt : Value} {w w2 : World}
theorem Sht.mG (h : Sht g B lo G made ts vm vt w) (i : Nat) (x : Nat × Nat) (hi : vm.ownBlock = some i) : G i ≠ some x := by
  intro hx
  obtain ⟨_, _, cs, hb, _⟩ := h.ty i x.1 x.2 hx
  exact ownsRow_ne h.om hb (fun c e => by cases e) hi
theorem Sht.mt (h : Sht g B lo G made ts vm vt w) (i : Nat) (hi : vm.ownBlock = some i) : vt.ownBlock ≠ some i := by
  intro e
  have hlt := (h.ot.lt i e).2
  obtain ⟨ob, hob⟩ : ∃ ob, w.heap[i]? = some ob := ⟨w.heap[i], by simp [hlt]⟩
  by_cases hc : ∃ c, ob = .cells c 4 (0, 0)
  · obtain ⟨c, rfl⟩ := hc
    exact ownsRow_ne h.ot hob (fun c' e' => by cases e') e
  · exact ownsRow_ne h.om hob (fun c' e' => hc ⟨c', e'⟩) hi
theorem Sht.move (h : Sht g B lo G made ts vm vt w) {F F' : Nat → Prop} (t : Turn F F' w w2) (hF : ∀ i, F i → i = g ∨ dom G i) (he : Ext G G2 w.heap.size) (ty : TyH g B G2 w2) (hlo : lo ≤ w.heap.size) : Sht g B lo G2 made ts vm vt w2 :=
  ⟨ownsRow_block h.om (fun i hi => t.block i (h.om.lt i hi).2 (fun hf => (hF i hf).elim (fun e => by have := (h.om.lt i hi).1; have := h.glo; omega) (fun ⟨x, hx⟩ => h.mG i x hi hx))),
   ownsRow_block h.ot (fun i hi => t.block i (h.ot.lt i hi).2 (fun hf => (hF i hf).elim (fun e => by have := (h.ot.lt i hi).1; have := h.glo; omega) (fun ⟨x, hx⟩ => h.sep i x hi hx))),
   ty, fun t ht => (h.tv t ht).ext he (Nat.le_refl _), fun i x hi hx => (he.new i x hx).elim (h.sep i x hi) (fun hn => by have := (h.ot.lt i hi).2; omega),
   fun b x hx => (he.new b x hx).elim (h.new b x) (fun hn => by omega), h.glo⟩
theorem Sht.pick (h : Sht g B lo G made ts vm vt w) {F' : Nat → Prop} (t : Turn (· = g) F' w w2) (hlo : lo ≤ w.heap.size) : Sht g B lo G made ts vm vt w2 :=
  h.move t (fun i e => .inl e) (Ext.refl _ _) (h.ty.turng t) hlo
theorem Sht.set (h : Sht g B lo G made ts vm vt w) {b : Nat} (o : Nat) (v : Value) (h1 : vm.ownBlock ≠ some b) (h2 : vt.ownBlock ≠ some b) (h3 : ∀ x, G b ≠ some x) : Sht g B lo G made ts vm vt (w.setCell ⟨b, o, none⟩ v) :=
  ⟨ownsRow_block h.om (fun i hi => setCell_far (own_far hi h1)), ownsRow_block h.ot (fun i hi => setCell_far (own_far hi h2)), h.ty.set v h3, h.tv, h.sep, h.new, h.glo⟩
theorem Sht.app_made (h : Sht g B lo G made ts vm vt w) {v' : Value} {x : Bool} (hg : w.grownBy w2 vm.ownBlock) (ho : w2.ownsRow lo 4 1 v' (made.length + 1) (bools made ++ [.bool x])) : Sht g B lo G (made ++ [x]) ts v' vt w2 :=
  ⟨by simpa [bools] using ho, ownsRow_block h.ot (fun i hi => hg.block i (h.ot.lt i hi).2 (fun e => h.mt i e.symm hi)),
   fun b r m hb => by
     obtain ⟨h1, h2, cs, h3, h4⟩ := h.ty b r m hb
     exact ⟨h1, h2, cs, (hg.block b (block_lt h3) (fun e => h.mG b _ e.symm hb)).trans h3, h4⟩,
   h.tv, h.sep, h.new, h.glo⟩
theorem Sht.app_task (h : Sht g B lo G made ts vm vt w) {v' : Value} {x y z : Value} (hg : w.grownBy w2 vt.ownBlock) (ho : w2.ownsRow lo 48 3 v' (ts.length + 1) (cells3 ts ++ [x, y, z])) (hv : TyV G 2 (.agg #[x, y, z]))
    (hat : ∀ i, v'.ownBlock = some i → vt.ownBlock = some i ∨ i = w.heap.size) : Sht g B lo G made (ts ++ [(x, y, z)]) vm v' w2 :=
  ⟨ownsRow_block h.om (fun i hi => hg.block i (h.om.lt i hi).2 (fun e => h.mt i hi e.symm)), by simpa [cells3] using ho,
   fun b r m hb => by
     obtain ⟨h1, h2, cs, h3, h4⟩ := h.ty b r m hb
     exact ⟨h1, h2, cs, (hg.block b (block_lt h3) (fun e => h.sep b _ e.symm hb)).trans h3, h4⟩,
   fun t ht => (List.mem_append.1 ht).elim (h.tv t) (fun e => by rw [List.mem_singleton.1 e]; exact hv),
   fun i x hi hx => (hat i hi).elim (fun e => h.sep i x e hx) (fun e => by have := h.ty.lt hx; omega), h.new, h.glo⟩
theorem ownsRow_cells {base : Nat} {e : TypeId} {size : Nat} {v : Value} {n : Nat} {xs : List Value} (h : w.ownsRow base e size v n xs) : ∃ A c, v = .slice A n c ∧ n ≤ c ∧ c ≤ maxLen ∧ ∀ i (hi : i < xs.length), ∃ b, A = some ⟨b, 0, none⟩ ∧ b < w.heap.size ∧ w.cell? ⟨b, i, none⟩ = some xs[i] := by
  obtain ⟨h1, ⟨rfl, rfl⟩ | ⟨g, cap, cur, rfl, hb, hg, hn, hc, hs, ht⟩⟩ := h
  · exact ⟨none, 0, rfl, Nat.le_refl _, by simp [maxLen], fun i hi => by simp at h1; simp [h1] at hi⟩
  · refine ⟨_, cap, rfl, hn, hc, fun i hi => ⟨g, rfl, block_lt hg, ?_⟩⟩
    rw [cellm hg]
    have hxi : xs[i]? = some xs[i] := by simp
    rw [← hxi, ← ht, List.getElem?_take_of_lt (by omega)]
    simp
/-- .. read as a sheet -/
theorem Sht.reads (h : Sht g B lo G made ts vm vt w) : ∃ Am cm At ct tasks, vm = .slice Am made.length cm ∧ vt = .slice At tasks.length ct ∧ tasks.length = ts.length ∧ SheetAt w.heap.size w Am cm At ct made tasks ∧ ∀ T ∈ tasks, nodes T ≤ nb 2 := by
  obtain ⟨Am, cm, rfl, hm1, hm2, hm⟩ := ownsRow_cells h.om
  obtain ⟨At, ct, rfl, ht1, ht2, ht⟩ := ownsRow_cells h.ot
  have h1 : ∀ i, ∃ T, ∀ (hi : i < ts.length), TaskIs w.heap.size w (.agg #[ts[i].1, ts[i].2.1, ts[i].2.2]) T ∧ nodes T ≤ nb 2 := by
    intro i
    by_cases hi : i < ts.length
    · obtain ⟨T, hT⟩ := TyV.reads h.ty 2 _ (h.tv ts[i] (List.getElem_mem _))
      exact ⟨T, fun _ => hT⟩
    · exact ⟨default, fun hh => (hi hh).elim⟩
  obtain ⟨f, hf⟩ := Classical.axiomOfChoice h1
  have hl := cells3_length ts
  refine ⟨Am, cm, At, ct, (List.range ts.length).map f, rfl, by simp, by simp, ⟨hm1, hm2, by simpa using ht1, ht2, fun i hi => ?_, PartsIs.of_get (fun i hi => ?_)⟩, fun T hT => ?_⟩
  · obtain ⟨b, e, hb, hc⟩ := hm i (by simpa [bools] using hi)
    exact ⟨b, 0, e, hb, by rw [Nat.zero_add, hc]; simp [bools]⟩
  · have hi' : i < ts.length := by simpa using hi
    obtain ⟨k0, k1, k2⟩ := cells3_get ts i hi'
    obtain ⟨b, e, hb, c0⟩ := ht (i * 3) (by omega)
    obtain ⟨b1, e1, _, c1⟩ := ht (i * 3 + 1) (by omega)
    obtain ⟨b2, e2, _, c2⟩ := ht (i * 3 + 2) (by omega)
    subst e
    cases e1; cases e2
    refine ⟨b, 0, _, _, _, rfl, hb, ?_, ?_, ?_, by simpa using (hf i hi').1⟩
    · rw [Nat.zero_add, Nat.zero_add, c0, ← k0]; simp
    · rw [Nat.zero_add, Nat.zero_add, c1, ← k1]; simp
    · rw [Nat.zero_add, Nat.zero_add, c2, ← k2]; simp
  · obtain ⟨i, hi, rfl⟩ := List.mem_map.1 hT
    exact (hf i (by simpa using hi)).2
end
end Go.Proofs.Ytpccgdkidnkppaa
