import Derived.Test.YtagmdljdcnmpdaaSpecBuild
import Derived.Test.YtagmdljdcnmpdaaMaps
set_option linter.unusedVariables false
set_option linter.unusedSimpArgs false
namespace Go.Proofs.Ytagmdljdcnmpdaa
open Go Go.RowKit

/-! two runs side by side -/
theorem Itr.run_rel {σ τ : Type} {f : σ → Int → (Int × Bool) × σ} {g : τ → Int → (Int × Bool) × τ} {R : σ → τ → Prop}
    (h : ∀ s c k, R s c → 0 ≤ k → k ≤ 9 → (f s k).1 = (g c k).1 ∧ ((f s k).1.2 = true → R (f s k).2 (g c k).2)) : ∀ (m : Itr) (s : σ) (c : τ), m.ok → R s c → (m.run f s).1 = (m.run g c).1 ∧ ((m.run f s).1.2 = true → R (m.run f s).2 (m.run g c).2) := by
  intro m
  induction m with
  | done v => intro s c _ hR; exact ⟨rfl, fun _ => hR⟩
  | ask k ct ih =>
    intro s c hok hR
    obtain ⟨h1, h2⟩ := h s c k hR hok.1 hok.2.1
    by_cases hf : (f s k).1.2 = true
    · have hg : (g c k).1.2 = true := by rw [← h1]; exact hf
      rw [Itr.run_yes hf, Itr.run_yes hg, ← h1]
      exact ih _ _ _ (hok.2.2 _) (h2 hf)
    · have hg : ¬ (g c k).1.2 = true := by rw [← h1]; exact hf
      rw [Itr.run_no hf, Itr.run_no hg]
      exact ⟨rfl, fun h => by cases h⟩
theorem Itr.run_keeps {σ : Type} {f : σ → Int → (Int × Bool) × σ} {J : σ → Prop} (hJ : ∀ s k, J s → 0 ≤ k → k ≤ 9 → J (f s k).2) : ∀ (m : Itr) (s : σ), m.ok → J s → J (m.run f s).2 := by
  intro m
  induction m with
  | done v => intro s _ h; exact h
  | ask k ct ih =>
    intro s hok h
    have h1 := hJ s k h hok.1 hok.2.1
    by_cases hf : (f s k).1.2 = true
    · rw [Itr.run_yes hf]; exact ih _ _ (hok.2.2 _) h1
    · rw [Itr.run_no hf]; exact h1

/-! the reference's way of building keys, each once -/
structure OSt where
  vals : List Int
  done : List Int
  under : List Int
def onceP (S : Sh) : Nat → OSt → Int → (Int × Bool) × OSt
  | n, st, k =>
    if mkK S.made k = false then ((atK st.vals k, true), st)
    else if st.done.contains k = true then ((atK st.vals k, true), st)
    else if st.under.contains k = true then ((0, false), st)
    else match n with
      | 0 => ((0, false), st)
      | n + 1 =>
        if ((S.tk k).itr.run (onceP S n) ⟨st.vals, st.done, st.under ++ [k]⟩).1.2 = true
        then ((((S.tk k).itr.run (onceP S n) ⟨st.vals, st.done, st.under ++ [k]⟩).1.1, true), ⟨((S.tk k).itr.run (onceP S n) ⟨st.vals, st.done, st.under ++ [k]⟩).2.vals.set k.toNat ((S.tk k).itr.run (onceP S n) ⟨st.vals, st.done, st.under ++ [k]⟩).1.1, ((S.tk k).itr.run (onceP S n) ⟨st.vals, st.done, st.under ++ [k]⟩).2.done ++ [k], st.under⟩)
        else ((0, false), ⟨((S.tk k).itr.run (onceP S n) ⟨st.vals, st.done, st.under ++ [k]⟩).2.vals, ((S.tk k).itr.run (onceP S n) ⟨st.vals, st.done, st.under ++ [k]⟩).2.done, st.under⟩)
theorem onceP_unmade {S : Sh} {n : Nat} {st : OSt} {k : Int} (h : mkK S.made k = false) : onceP S n st k = ((atK st.vals k, true), st) := by unfold onceP; rw [if_pos h]
theorem onceP_done {S : Sh} {n : Nat} {st : OSt} {k : Int} (h : mkK S.made k = true) (hd : st.done.contains k = true) : onceP S n st k = ((atK st.vals k, true), st) := by unfold onceP; rw [if_neg (by simp [h]), if_pos hd]
theorem onceP_under {S : Sh} {n : Nat} {st : OSt} {k : Int} (h : mkK S.made k = true) (hd : st.done.contains k = false) (hu : st.under.contains k = true) : onceP S n st k = ((0, false), st) := by unfold onceP; rw [if_neg (by simp [h]), if_neg (by simp only [hd]; decide), if_pos hu]
theorem onceP_new {S : Sh} {n : Nat} {st : OSt} {k : Int} (h : mkK S.made k = true) (hd : st.done.contains k = false) (hu : st.under.contains k = false) : onceP S (n + 1) st k =
    (let r := (S.tk k).itr.run (onceP S n) ⟨st.vals, st.done, st.under ++ [k]⟩
     if r.1.2 = true then ((r.1.1, true), ⟨r.2.vals.set k.toNat r.1.1, r.2.done ++ [k], st.under⟩) else ((0, false), ⟨r.2.vals, r.2.done, st.under⟩)) := by
  rw [onceP, if_neg (by simp [h]), if_neg (by simp only [hd]; decide), if_neg (by simp only [hu]; decide)]
theorem onceP_zero (S : Sh) (n : Nat) (st : OSt) (k : Int) : (onceP S n st k).1.2 = false → (onceP S n st k).1.1 = 0 := by
  intro h
  unfold onceP at h ⊢
  split
  · rename_i h1; rw [if_pos h1] at h; cases h
  · rename_i h1
    rw [if_neg h1] at h
    split
    · rename_i h2; rw [if_pos h2] at h; cases h
    · rename_i h2
      rw [if_neg h2] at h
      split
      · rfl
      · rename_i h3
        rw [if_neg h3] at h
        cases n with
        | zero => rfl
        | succ n =>
          dsimp only at h ⊢
          split
          · rename_i h4; rw [if_pos h4] at h; cases h
          · rfl
/-- what is kept: of what a step of the reference's way -/
structure OInv (S : Sh) (n : Nat) (st : OSt) : Prop where
  vlen : st.vals.length = S.made.length
  vals : ∀ x ∈ st.vals, 0 ≤ x ∧ x ≤ 96
  done : st.done.length ≤ S.made.length
  nodup : st.done.Nodup
  range : ∀ x ∈ st.done, 0 ≤ x ∧ x < S.made.length
  under : UOk S n st.under
  apart : ∀ x ∈ st.under, x ∉ st.done
theorem OInv.at {S : Sh} {n : Nat} {st : OSt} (h : OInv S n st) (k : Int) : 0 ≤ atK st.vals k ∧ atK st.vals k ≤ 96 := by
  unfold atK
  split
  · omega
  · by_cases h1 : k.toNat < st.vals.length
    · rw [getD_at _ h1]; exact h.vals _ (List.getElem_mem _)
    · rw [getD_out _ (by omega)]; omega
theorem onceP_inv {S : Sh} (hS : S.Ok) : ∀ (n : Nat) (st : OSt) (k : Int), OInv S n st → OInv S n (onceP S n st k).2 ∧ (onceP S n st k).2.under = st.under ∧ 0 ≤ (onceP S n st k).1.1 ∧ (onceP S n st k).1.1 ≤ 96 := by
  intro n
  induction n with
  | zero =>
    intro st k hi
    cases hm : mkK S.made k with
    | false => rw [onceP_unmade hm]; exact ⟨hi, rfl, hi.at k⟩
    | true =>
      cases hd : st.done.contains k with
      | true => rw [onceP_done hm hd]; exact ⟨hi, rfl, hi.at k⟩
      | false =>
        cases hu : st.under.contains k with
        | true => rw [onceP_under hm hd hu]; exact ⟨hi, rfl, by simp, by simp⟩
        | false =>
          have : onceP S 0 st k = ((0, false), st) := by rw [onceP, if_neg (by simp [hm]), if_neg (by simp only [hd]; decide), if_neg (by simp only [hu]; decide)]
          rw [this]; exact ⟨hi, rfl, by simp, by simp⟩
  | succ n ih =>
    intro st k hi
    cases hm : mkK S.made k with
    | false => rw [onceP_unmade hm]; exact ⟨hi, rfl, hi.at k⟩
    | true =>
      cases hd : st.done.contains k with
      | true => rw [onceP_done hm hd]; exact ⟨hi, rfl, hi.at k⟩
      | false =>
        cases hu : st.under.contains k with
        | true => rw [onceP_under hm hd hu]; exact ⟨hi, rfl, by simp, by simp⟩
        | false =>
          have hkr := mkK_range (show mkK S.made k ≠ false by rw [hm]; simp)
          have hkd : k ∉ st.done := by simpa using hd
          have hku : k ∉ st.under := by simpa using hu
          rw [onceP_new hm hd hu]
          have h1 : OInv S n ⟨st.vals, st.done, st.under ++ [k]⟩ := ⟨hi.vlen, hi.vals, hi.done, hi.nodup, hi.range, hi.under.push hku hkr, fun x hx => (List.mem_append.1 hx).elim (hi.apart x) (fun e => by rw [List.mem_singleton.1 e]; exact hkd)⟩
          have hk := Itr.run_keeps (f := onceP S n) (J := fun s => OInv S n s ∧ s.under = st.under ++ [k]) (fun s j h _ _ => ⟨(ih s j h.1).1, ((ih s j h.1).2.1).trans h.2⟩) (S.tk k).itr ⟨st.vals, st.done, st.under ++ [k]⟩ (Tk.itr_ok _ (tk_ok hS k)) ⟨h1, rfl⟩
          have hv : 0 ≤ ((S.tk k).itr.run (onceP S n) ⟨st.vals, st.done, st.under ++ [k]⟩).1.1 ∧ ((S.tk k).itr.run (onceP S n) ⟨st.vals, st.done, st.under ++ [k]⟩).1.1 ≤ 96 := by
            rw [← Tk.run_itr _ (onceP_zero S n)]
            exact Tk.run_value (J := fun s => OInv S n s) (fun s j h _ _ => (ih s j h).1) (fun s j h _ _ => (ih s j h).2.2) (S.tk k) _ (tk_ok hS k) h1
          generalize (S.tk k).itr.run (onceP S n) ⟨st.vals, st.done, st.under ++ [k]⟩ = r at *
          obtain ⟨h2, h3⟩ := hk
          have hkd2 : k ∉ r.2.done := h2.apart k (by rw [h3]; simp)
          have hap : ∀ x ∈ st.under, x ∉ r.2.done := fun x hx => h2.apart x (by rw [h3]; simp [hx])
          dsimp only
          split
          · refine ⟨⟨by simpa using h2.vlen, fun x hx => ?_, ?_, ?_, fun x hx => ?_, hi.under, fun x hx hx2 => ?_⟩, rfl, hv⟩
            · rcases List.mem_or_eq_of_mem_set hx with hx | rfl
              · exact h2.vals x hx
              · exact hv
            · refine nodup_bound ?_ (fun x hx => ?_)
              · rw [List.nodup_append]
                exact ⟨h2.nodup, by simp, fun a ha b hb => by simp only [List.mem_singleton] at hb; subst hb; intro e; exact hkd2 (e ▸ ha)⟩
              · rcases List.mem_append.1 hx with hx | hx
                · exact h2.range x hx
                · rw [List.mem_singleton.1 hx]; exact hkr
            · rw [List.nodup_append]
              exact ⟨h2.nodup, by simp, fun a ha b hb => by simp only [List.mem_singleton] at hb; subst hb; intro e; exact hkd2 (e ▸ ha)⟩
            · rcases List.mem_append.1 hx with hx | hx
              · exact h2.range x hx
              · rw [List.mem_singleton.1 hx]; exact hkr
            · rcases List.mem_append.1 hx2 with hx2 | hx2
              · exact hap x hx hx2
              · rw [List.mem_singleton.1 hx2] at hx; exact hku hx
          · exact ⟨⟨h2.vlen, h2.vals, h2.done, h2.nodup, h2.range, hi.under, hap⟩, rfl, by simp, by simp⟩

/-! the same as the program's maker -/
structure ORel (S : Sh) (st : MkSt) (o : OSt) : Prop where
  done : o.done = st.order
  under : o.under = st.open_
  vlen : o.vals.length = S.made.length
  unmade : ∀ k, mkK S.made k = false → atK o.vals k = atK S.inputs k
  has : ∀ k, mkK S.made k = true → (k ∈ st.order ↔ st.known k ≠ none)
  val : ∀ k v, st.known k = some v → mkK S.made k = true ∧ atK o.vals k = v
theorem atK_set {xs : List Int} {k j : Int} {v : Int} (hk : 0 ≤ k ∧ k < xs.length) : atK (xs.set k.toNat v) j = if j = k then v else atK xs j := by
  obtain ⟨q, rfl⟩ := Int.eq_ofNat_of_zero_le hk.1
  rw [Int.toNat_natCast]
  unfold atK
  by_cases e : j = (q : Int)
  · subst e
    rw [if_pos rfl, if_neg (by omega), Int.toNat_natCast, getD_at _ (by simp; omega)]
    simp
  · rw [if_neg e]
    split
    · rfl
    · by_cases hj : j.toNat < xs.length
      · rw [getD_at _ (by simpa using hj), getD_at _ hj, List.getElem_set_ne (by omega)]
      · rw [getD_out _ (by simp; omega), getD_out _ (by omega)]
theorem once_same {S : Sh} (hS : S.Ok) : ∀ (n : Nat) (st : MkSt) (o : OSt) (k : Int), Inv S n st → ORel S st o →
    (keyP S n st k).1 = (onceP S n o k).1 ∧ ((keyP S n st k).1.2 = true → ORel S (keyP S n st k).2 (onceP S n o k).2) := by
  intro n
  induction n with
  | zero =>
    intro st o k hi hR
    cases hm : mkK S.made k with
    | false => rw [keyP_unmade hm, onceP_unmade hm]; exact ⟨by rw [hR.unmade k hm], fun _ => hR⟩
    | true =>
      cases hkn : st.known k with
      | some v =>
        have hd : o.done.contains k = true := by rw [hR.done]; simp [(hR.has k hm).2 (by rw [hkn]; simp)]
        rw [keyP_known hm hkn, onceP_done hm hd]
        exact ⟨by rw [(hR.val k v hkn).2], fun _ => hR⟩
      | none =>
        have hd : o.done.contains k = false := by
          rw [hR.done]
          cases h : st.order.contains k with
          | false => rfl
          | true => exact ((hR.has k hm).1 (by simpa using h) hkn).elim
        by_cases ho : 0 ≤ idx (fun x => k == x) st.open_
        · have hu : o.under.contains k = true := by
            rw [hR.under]
            cases h : st.open_.contains k with
            | true => rfl
            | false => exact (idx_not_mem (by simpa using h) ho).elim
          rw [keyP_opened hm hkn ho, onceP_under hm hd hu]
          exact ⟨rfl, fun h => by cases h⟩
        · have hu : o.under.contains k = false := by
            rw [hR.under]; simpa using not_open ho
          have e1 : keyP S 0 st k = ((0, false), st) := by unfold keyP; rw [if_neg (by simp [hm]), hkn]; simp only; rw [if_neg ho]
          have e2 : onceP S 0 o k = ((0, false), o) := by rw [onceP, if_neg (by simp [hm]), if_neg (by simp only [hd]; decide), if_neg (by simp only [hu]; decide)]
          rw [e1, e2]
          exact ⟨rfl, fun h => by cases h⟩
  | succ n ih =>
    intro st o k hi hR
    cases hm : mkK S.made k with
    | false => rw [keyP_unmade hm, onceP_unmade hm]; exact ⟨by rw [hR.unmade k hm], fun _ => hR⟩
    | true =>
      cases hkn : st.known k with
      | some v =>
        have hd : o.done.contains k = true := by rw [hR.done]; simp [(hR.has k hm).2 (by rw [hkn]; simp)]
        rw [keyP_known hm hkn, onceP_done hm hd]
        exact ⟨by rw [(hR.val k v hkn).2], fun _ => hR⟩
      | none =>
        have hd : o.done.contains k = false := by
          rw [hR.done]
          cases h : st.order.contains k with
          | false => rfl
          | true => exact ((hR.has k hm).1 (by simpa using h) hkn).elim
        by_cases ho : 0 ≤ idx (fun x => k == x) st.open_
        · have hu : o.under.contains k = true := by
            rw [hR.under]
            cases h : st.open_.contains k with
            | true => rfl
            | false => exact (idx_not_mem (by simpa using h) ho).elim
          rw [keyP_opened hm hkn ho, onceP_under hm hd hu]
          exact ⟨rfl, fun h => by cases h⟩
        · have hu : o.under.contains k = false := by
            rw [hR.under]; simpa using not_open ho
          have hkr := mkK_range (show mkK S.made k ≠ false by rw [hm]; simp)
          have hi1 := inv_push hi hkr hkn (not_open ho)
          have hR1 : ORel S { st with open_ := st.open_ ++ [k] } ⟨o.vals, o.done, o.under ++ [k]⟩ := ⟨hR.done, by simp only [hR.under], hR.vlen, hR.unmade, hR.has, hR.val⟩
          have hrel := Itr.run_rel (f := keyP S n) (g := onceP S n) (R := fun s c => Inv S n s ∧ ORel S s c ∧ s.open_ = st.open_ ++ [k]) (fun s c j h _ _ => by
            obtain ⟨a, b⟩ := ih s c j h.1 h.2.1
            have hv := keyP_inv hS n s j h.1
            exact ⟨a, fun hok => ⟨hv.1, b hok, (hv.2.1 hok).trans h.2.2⟩⟩) (S.tk k).itr { st with open_ := st.open_ ++ [k] } ⟨o.vals, o.done, o.under ++ [k]⟩ (Tk.itr_ok _ (tk_ok hS k)) ⟨hi1, hR1, rfl⟩
          rw [keyP_new hm hkn ho, onceP_new hm hd hu, Tk.run_itr _ (keyP_zero S n)]
          generalize (S.tk k).itr.run (keyP S n) { st with open_ := st.open_ ++ [k] } = r at *
          generalize (S.tk k).itr.run (onceP S n) ⟨o.vals, o.done, o.under ++ [k]⟩ = q at *
          obtain ⟨h1, h2⟩ := hrel
          dsimp only
          rw [← h1]
          by_cases hok : r.1.2 = true
          · obtain ⟨g1, g2, g3⟩ := h2 hok
            rw [if_pos hok, if_pos hok]
            refine ⟨rfl, fun _ => ⟨by simp only [g2.done], by simp only [g3, List.dropLast_concat]; exact hR.under, by simpa using g2.vlen, fun j hj => ?_, fun j hj => ?_, fun j v hv => ?_⟩⟩
            · rw [atK_set (by rw [g2.vlen]; exact hkr), if_neg (fun e => by rw [e, hm] at hj; cases hj)]
              exact g2.unmade j hj
            · simp only [List.mem_append, List.mem_singleton, upd]
              by_cases e : j = k
              · simp [e]
              · rw [if_neg e]
                have := g2.has j hj
                simp only [e, or_false]; exact this
            · simp only [upd] at hv
              rw [atK_set (by rw [g2.vlen]; exact hkr)]
              by_cases e : j = k
              · rw [if_pos e] at hv ⊢; cases hv; exact ⟨by rw [e]; exact hm, rfl⟩
              · rw [if_neg e] at hv ⊢; exact g2.val j v hv
          · rw [if_neg hok, if_neg hok]
            exact ⟨rfl, fun h => by cases h⟩

/-! keys, one after another -/
def suspL (S : Sh) : List Int → MkSt → List Int × Bool
  | [], st => (st.order, true)
  | k :: ks, st => if (keyP S S.made.length st k).1.2 = true then suspL S ks (keyP S S.made.length st k).2 else ([], false)
def onceL (S : Sh) : List Int → OSt → List Int × Bool
  | [], st => (st.done, true)
  | k :: ks, st => if (onceP S S.made.length st k).1.2 = true then onceL S ks (onceP S S.made.length st k).2 else ([], false)
def suspP (S : Sh) (keys : List Int) : List Int × Bool := suspL S keys st0
def ost0 (S : Sh) : OSt := ⟨S.inputs, [], []⟩
theorem orel0 {S : Sh} (hS : S.Ok) : ORel S st0 (ost0 S) := ⟨rfl, rfl, hS.ins, fun _ _ => rfl, fun k _ => by simp [st0], fun k v h => by cases h⟩
theorem oinv0 {S : Sh} (hS : S.Ok) : OInv S S.made.length (ost0 S) := ⟨hS.ins, hS.vals, by simp [ost0], List.nodup_nil, fun x hx => (by cases hx), uok0 S, fun x hx => (by cases hx)⟩
theorem suspL_same {S : Sh} (hS : S.Ok) : ∀ (ks : List Int) (st : MkSt) (o : OSt), Inv S S.made.length st → ORel S st o → suspL S ks st = onceL S ks o := by
  intro ks
  induction ks with
  | nil => intro st o _ hR; rw [suspL, onceL, hR.done]
  | cons k ks ih =>
    intro st o hi hR
    obtain ⟨h1, h2⟩ := once_same hS S.made.length st o k hi hR
    rw [suspL, onceL, ← h1]
    by_cases hok : (keyP S S.made.length st k).1.2 = true
    · rw [if_pos hok, if_pos hok]
      exact ih _ _ (keyP_inv hS _ _ _ hi).1 (h2 hok)
    · rw [if_neg hok, if_neg hok]
theorem susp_same {S : Sh} (hS : S.Ok) (keys : List Int) : suspP S keys = onceL S keys (ost0 S) := suspL_same hS keys st0 (ost0 S) (inv0 S) (orel0 hS)
theorem suspL_length {S : Sh} (hS : S.Ok) : ∀ (ks : List Int) (st : MkSt), Inv S S.made.length st → (suspL S ks st).1.length ≤ 10 := by
  intro ks
  induction ks with
  | nil => intro st hi; rw [suspL]; have := inv_order hi; have := hS.ten; simp only []; omega
  | cons k ks ih =>
    intro st hi
    rw [suspL]
    split
    · exact ih _ (keyP_inv hS _ _ _ hi).1
    · simp
/-- whether all keys are ones of a sheet of n keys -/
def keysOk (n : Nat) (keys : List Int) : Bool := keys.all fun k => decide (0 ≤ k ∧ k < n)
theorem keysOk_iff {n : Nat} {keys : List Int} : keysOk n keys = true ↔ ∀ k ∈ keys, 0 ≤ k ∧ k < n := by
  unfold keysOk
  rw [List.all_eq_true]
  simp
end Go.Proofs.Ytagmdljdcnmpdaa
