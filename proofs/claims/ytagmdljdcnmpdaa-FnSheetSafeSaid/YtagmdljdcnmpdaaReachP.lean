import Derived.Test.YtagmdljdcnmpdaaWf
set_option linter.unusedVariables false
set_option linter.unusedSimpArgs false
namespace Go.Proofs.Ytagmdljdcnmpdaa
open Go Go.RowKit

/-! what is reached -/
inductive Reach (mk : Int → Bool) (nx : Int → List Int) (l : List Int) : Int → Prop
  | here (k : Int) : k ∈ l → mk k = true → Reach mk nx l k
  | next (k j : Int) : Reach mk nx l k → j ∈ nx k → mk j = true → Reach mk nx l j
section
variable {mk : Int → Bool} {nx : Int → List Int}
theorem Reach.lift {l l' : List Int} (h : ∀ k ∈ l', mk k = true → Reach mk nx l k) : ∀ {k}, Reach mk nx l' k → Reach mk nx l k := by
  intro k hk
  induction hk with
  | here k h1 h2 => exact h k h1 h2
  | next k j _ h2 h3 ih => exact .next k j ih h2 h3
theorem Reach.mono {l l' : List Int} (h : ∀ k ∈ l', k ∈ l) {k : Int} : Reach mk nx l' k → Reach mk nx l k := Reach.lift fun k hk hm => .here k (h k hk) hm
theorem Reach.isMade {l : List Int} {k : Int} (h : Reach mk nx l k) : mk k = true := by cases h <;> assumption

/-- what a walk over a list adds -/
structure RStep (mk : Int → Bool) (nx : Int → List Int) (X : Int → Bool) (l : List Int) (Y : Int → Bool) : Prop where
  mono : ∀ k, X k = true → Y k = true
  hit : ∀ k ∈ l, mk k = true → Y k = true
  new : ∀ k, Y k = true → X k = false → Reach mk nx l k
  closed : ∀ k, Y k = true → X k = false → ∀ j ∈ nx k, mk j = true → Y j = true
theorem RStep.nil (X : Int → Bool) : RStep mk nx X [] X := ⟨fun _ h => h, fun k h => (by cases h), fun k h1 h2 => (by rw [h1] at h2; cases h2), fun k h1 h2 => (by rw [h1] at h2; cases h2)⟩
/-- a key that is not walked into -/
theorem RStep.skip {X Y : Int → Bool} {l : List Int} {k : Int} (h : RStep mk nx X l Y) (hk : mk k = false ∨ Y k = true) : RStep mk nx X (l ++ [k]) Y := by
  refine ⟨h.mono, fun j hj hm => ?_, fun j h1 h2 => Reach.mono (by simp +contextual) (h.new j h1 h2), h.closed⟩
  rcases List.mem_append.1 hj with hj | hj
  · exact h.hit j hj hm
  · rw [List.mem_singleton.1 hj] at hm ⊢
    exact hk.elim (fun e => by rw [e] at hm; cases hm) id
def setX (X : Int → Bool) (k : Int) : Int → Bool := fun j => if j = k then true else X j
theorem RStep.walk {X Y Z : Int → Bool} {l : List Int} {k : Int} (h : RStep mk nx X l Y) (hm : mk k = true) (hy : Y k = false) (h2 : RStep mk nx (setX Y k) (nx k) Z) : RStep mk nx X (l ++ [k]) Z := by
  have hYZ : ∀ j, Y j = true → Z j = true := fun j hj => h2.mono j (by simp only [setX]; split <;> simp [hj])
  have hkZ : Z k = true := h2.mono k (by simp [setX])
  have hin : Reach mk nx (l ++ [k]) k := .here k (by simp) hm
  refine ⟨fun j hj => hYZ j (h.mono j hj), fun j hj hmj => ?_, fun j h1 h3 => ?_, fun j h1 h3 i hi hmi => ?_⟩
  · rcases List.mem_append.1 hj with hj | hj
    · exact hYZ j (h.hit j hj hmj)
    · rw [List.mem_singleton.1 hj]; exact hkZ
  · by_cases hYj : Y j = true
    · exact Reach.mono (by simp +contextual) (h.new j hYj h3)
    · by_cases e : j = k
      · subst e; exact hin
      · have := h2.new j h1 (by simp only [setX, if_neg e]; simpa using hYj)
        exact Reach.lift (fun i hi hmi => .next k i hin hi hmi) this
  · by_cases hYj : Y j = true
    · exact hYZ i (h.closed j hYj h3 i hi hmi)
    · by_cases e : j = k
      · subst e; exact h2.hit i hi hmi
      · exact h2.closed j h1 (by simp only [setX, if_neg e]; simpa using hYj) i hi hmi
/-- from nothing: just what is reached -/
theorem RStep.reach {l : List Int} {Y : Int → Bool} (h : RStep mk nx (fun _ => false) l Y) (k : Int) : Y k = true ↔ Reach mk nx l k := by
  refine ⟨fun hk => h.new k hk rfl, fun hk => ?_⟩
  induction hk with
  | here k h1 h2 => exact h.hit k h1 h2
  | next k j _ h2 h3 ih => exact h.closed k ih rfl j h2 h3
end

/-! how many there are -/
def cntN (X : Int → Bool) (n : Nat) : Nat := ((List.range n).filter fun q : Nat => X q).length
theorem cntN_le (X : Int → Bool) (n : Nat) : cntN X n ≤ n := by
  have := List.length_filter_le (fun q : Nat => X q) (List.range n)
  simpa [cntN] using this
theorem cntN_congr {X Y : Int → Bool} {n : Nat} (h : ∀ q : Nat, q < n → X q = Y q) : cntN X n = cntN Y n := by
  unfold cntN
  congr 1
  apply List.filter_congr
  intro q hq
  exact h q (List.mem_range.1 hq)
theorem cntN_set {X : Int → Bool} : ∀ {n : Nat} {k : Nat}, k < n → X k = false → cntN (setX X k) n = cntN X n + 1 := by
  intro n
  induction n with
  | zero => intro k h; omega
  | succ n ih =>
    intro k hk hX
    unfold cntN
    rw [List.range_succ, List.filter_append, List.filter_append, List.length_append, List.length_append]
    by_cases e : k = n
    · subst e
      have h1 := cntN_congr (X := setX X k) (Y := X) (n := k) (fun q hq => by simp only [setX]; rw [if_neg (by omega)])
      unfold cntN at h1
      rw [h1]
      simp [setX, hX]
    · have h1 := ih (k := k) (by omega) hX
      unfold cntN at h1
      rw [h1]
      have h2 : setX X k n = X n := by simp only [setX]; rw [if_neg (by omega)]
      simp only [List.filter_cons, h2, List.filter_nil]
      split <;> simp <;> omega
theorem cntN_zero (n : Nat) : cntN (fun _ => false) n = 0 := by simp [cntN]
theorem nodup_sub_len {α : Type} [BEq α] [LawfulBEq α] : ∀ {l m : List α}, l.Nodup → (∀ x ∈ l, x ∈ m) → l.length ≤ m.length := by
  intro l
  induction l with
  | nil => intro m _ _; simp
  | cons a l ih =>
    intro m hn h
    obtain ⟨h1, h2⟩ := List.nodup_cons.1 hn
    have ha := h a (by simp)
    have h3 := ih (m := m.erase a) h2 (fun x hx => (List.mem_erase_of_ne (fun e : x = a => h1 (by rw [← e]; exact hx))).2 (h x (by simp [hx])))
    have h4 := List.length_erase_of_mem ha
    have h5 := List.length_pos_of_mem ha
    simp; omega
/-- members of a set, each once, are not more than there are; if as many, they are all -/
theorem sub_cnt {X : Int → Bool} {n : Nat} {l : List Int} (hn : l.Nodup) (hl : ∀ x ∈ l, 0 ≤ x ∧ x < n ∧ X x = true) : l.length ≤ cntN X n ∧ (l.length = cntN X n → ∀ q : Nat, q < n → X q = true → (q : Int) ∈ l) := by
  have h0 : ∀ (l : List Int), l.Nodup → (∀ x ∈ l, 0 ≤ x ∧ x < n ∧ X x = true) → l.length ≤ cntN X n := by
    intro l hn hl
    have e : ∀ (m : Nat) (l : List Int), l.Nodup → (∀ x ∈ l, 0 ≤ x ∧ x < (m : Int) ∧ X x = true) → l.length ≤ cntN X m := by
      intro m
      induction m with
      | zero =>
        intro l _ h
        cases l with
        | nil => simp
        | cons a l => have := h a (by simp); omega
      | succ m ih =>
        intro l hn h
        have h1 := ih (l.erase (m : Int)) (hn.erase _) (fun x hx => by
          have h2 := (hn.mem_erase_iff).1 hx
          have := h x h2.2
          exact ⟨this.1, by have := h2.1; omega, this.2.2⟩)
        have h2 := List.length_erase (a := (m : Int)) (l := l)
        have h3 : cntN X (m + 1) = cntN X m + if X m then 1 else 0 := by
          unfold cntN
          rw [List.range_succ, List.filter_append, List.length_append]
          simp only [List.filter_cons, List.filter_nil]
          split <;> simp
        split at h2
        · rename_i hm
          rw [if_pos (h _ hm).2.2] at h3
          omega
        · omega
    exact e n l hn hl
  refine ⟨h0 l hn hl, fun he q hq hX => ?_⟩
  by_cases hm : (q : Int) ∈ l
  · exact hm
  · exfalso
    have := h0 ((q : Int) :: l) (List.nodup_cons.2 ⟨hm, hn⟩) (fun x hx => by
      rcases List.mem_cons.1 hx with rfl | hx
      · exact ⟨by omega, by omega, hX⟩
      · exact hl x hx)
    simp at this
    omega

/-! topological order: always the least one that is free -/
def freeK (X : Int → Bool) (may : Int → List Int) (out : List Int) (k : Int) : Bool := X k && !out.contains k && (may k).all fun j => out.contains j
def nextK (X : Int → Bool) (may : Int → List Int) (n : Nat) (out : List Int) : Option Nat := (List.range n).find? fun q : Nat => freeK X may out q
def topoP (X : Int → Bool) (may : Int → List Int) (n : Nat) : Nat → List Int → List Int × Bool
  | 0, out => (out, true)
  | m + 1, out => match nextK X may n out with
    | none => ([], false)
    | some q => topoP X may n m (out ++ [(q : Int)])
section
variable {X : Int → Bool} {may : Int → List Int} {n : Nat}
theorem nextK_some {out : List Int} {q : Nat} (h : nextK X may n out = some q) : q < n ∧ freeK X may out q = true := by
  unfold nextK at h
  have h1 := List.find?_some h
  have h2 := List.mem_of_find?_eq_some h
  exact ⟨List.mem_range.1 h2, h1⟩
theorem nextK_none {out : List Int} (h : nextK X may n out = none) : ∀ q : Nat, q < n → freeK X may out q = false := by
  intro q hq
  unfold nextK at h
  have := List.find?_eq_none.1 h q (List.mem_range.2 hq)
  simpa using this
theorem nextK_at {out : List Int} {q : Nat} (hq : q < n) (hf : freeK X may out q = true) (h : ∀ j : Nat, j < q → freeK X may out j = false) : nextK X may n out = some q := by
  unfold nextK
  rw [List.find?_range_eq_some]
  exact ⟨hf, by simpa using hq, fun j hj => by simp [h j hj]⟩
/-- what is put out so far -/
structure TOk (X : Int → Bool) (may : Int → List Int) (n : Nat) (out : List Int) : Prop where
  nodup : out.Nodup
  sub : ∀ x ∈ out, 0 ≤ x ∧ x < n ∧ X x = true
  behind : ∀ i (h : i < out.length), ∀ j ∈ may out[i], j ∈ out.take i
theorem TOk.nil : TOk X may n [] := ⟨List.nodup_nil, fun x h => (by cases h), fun i h => (by simp at h)⟩
theorem TOk.push {out : List Int} {q : Nat} (h : TOk X may n out) (hq : q < n) (hf : freeK X may out q = true) : TOk X may n (out ++ [(q : Int)]) := by
  simp only [freeK, Bool.and_eq_true, Bool.not_eq_true', List.contains_eq_mem, decide_eq_false_iff_not, List.all_eq_true, decide_eq_true_eq] at hf
  obtain ⟨⟨h1, h2⟩, h3⟩ := hf
  refine ⟨?_, fun x hx => ?_, fun i hi j hj => ?_⟩
  · rw [List.nodup_append]
    exact ⟨h.nodup, by simp, fun a ha b hb => by simp only [List.mem_singleton] at hb; subst hb; intro e; exact h2 (e ▸ ha)⟩
  · rcases List.mem_append.1 hx with hx | hx
    · exact h.sub x hx
    · rw [List.mem_singleton.1 hx]; exact ⟨by omega, by omega, h1⟩
  · simp only [List.length_append, List.length_cons, List.length_nil] at hi
    by_cases hlt : i < out.length
    · rw [List.getElem_append_left hlt] at hj
      rw [List.take_append_of_le_length (by omega)]
      exact h.behind i hlt j hj
    · have e : i = out.length := by omega
      subst e
      simp only [List.getElem_concat_length] at hj
      rw [List.take_append_of_le_length (by omega), List.take_length]
      exact h3 j hj
theorem TOk.wf {out : List Int} (h : TOk X may n out) : ∀ x ∈ out, Wf may x := by
  have : ∀ i (hi : i < out.length), Wf may out[i] := by
    intro i
    induction i using Nat.strongRecOn with
    | ind i ih =>
      intro hi
      refine .mk _ fun j hj => ?_
      have hm := h.behind i hi j hj
      obtain ⟨q, hq, rfl⟩ := List.getElem_of_mem hm
      simp only [List.length_take] at hq
      rw [List.getElem_take]
      exact ih q (by omega) (by omega)
  intro x hx
  obtain ⟨i, hi, rfl⟩ := List.getElem_of_mem hx
  exact this i hi
/-- when it stands still, no key that is left leads to no circle -/
theorem stuck_wf {out : List Int} (hcl : ∀ k : Nat, k < n → X k = true → ∀ j ∈ may k, X j = true ∧ 0 ≤ j ∧ j < n) (hn : nextK X may n out = none) : ∀ k, Wf may k → 0 ≤ k → k < n → X k = true → k ∈ out := by
  intro k hk
  induction hk with
  | mk k _ ih =>
    intro h0 h1 hX
    obtain ⟨q, rfl⟩ := Int.eq_ofNat_of_zero_le h0
    have hf := nextK_none hn q (by omega)
    by_cases hm : (q : Int) ∈ out
    · exact hm
    · exfalso
      have : freeK X may out q = true := by
        simp only [freeK, Bool.and_eq_true, Bool.not_eq_true', List.contains_eq_mem, decide_eq_false_iff_not, List.all_eq_true, decide_eq_true_eq]
        refine ⟨⟨hX, hm⟩, fun j hj => ?_⟩
        obtain ⟨a, b, c⟩ := hcl q (by omega) hX j hj
        exact ih j hj b c a
      rw [this] at hf; cases hf
/-- a topological order of a set is one of all its keys, or some key leads to a circle -/
theorem topoP_spec (hcl : ∀ k : Nat, k < n → X k = true → ∀ j ∈ may k, X j = true ∧ 0 ≤ j ∧ j < n) : ∀ (m : Nat) (out : List Int), TOk X may n out → out.length + m = cntN X n →
    ((topoP X may n m out).2 = true ∧ TOk X may n (topoP X may n m out).1 ∧ (topoP X may n m out).1.length = cntN X n) ∨ (topoP X may n m out = ([], false) ∧ ∃ k : Nat, k < n ∧ X k = true ∧ ¬ Wf may k) := by
  intro m
  induction m with
  | zero => intro out h hl; exact .inl ⟨rfl, h, by simpa [topoP] using hl⟩
  | succ m ih =>
    intro out h hl
    rw [topoP]
    cases e : nextK X may n out with
    | some q =>
      obtain ⟨h1, h2⟩ := nextK_some e
      exact ih _ (h.push h1 h2) (by simp; omega)
    | none =>
      right
      refine ⟨rfl, ?_⟩
      have hle := sub_cnt h.nodup h.sub
      by_cases hall : ∀ q : Nat, q < n → X q = true → (q : Int) ∈ out
      · exfalso
        have : cntN X n ≤ out.length := by
          have h1 : ((List.range n).filter fun q : Nat => X q).length ≤ out.length := by
            have h2 : (((List.range n).filter fun q : Nat => X q).map fun q : Nat => (q : Int)).length ≤ out.length := by
              refine nodup_sub_len ?_ ?_
              · refine List.Pairwise.map _ (fun a b (h : a ≠ b) => ?_) (List.Pairwise.filter _ List.nodup_range)
                omega
              · intro x hx
                obtain ⟨q, hq, rfl⟩ := List.mem_map.1 hx
                obtain ⟨h3, h4⟩ := List.mem_filter.1 hq
                exact hall q (List.mem_range.1 h3) h4
            simpa using h2
          exact h1
        omega
      · simp only [Classical.not_forall] at hall
        obtain ⟨q, hq, hX, hno⟩ := hall
        exact ⟨q, hq, hX, fun hw => hno (stuck_wf hcl e q hw (by omega) (by omega) hX)⟩
theorem topoP_ok (hcl : ∀ k : Nat, k < n → X k = true → ∀ j ∈ may k, X j = true ∧ 0 ≤ j ∧ j < n) : (topoP X may n (cntN X n) []).2 = true ↔ ∀ k : Nat, k < n → X k = true → Wf may k := by
  rcases topoP_spec hcl (cntN X n) [] TOk.nil (by simp) with ⟨h1, h2, h3⟩ | ⟨h1, k, h2, h3, h4⟩
  · exact ⟨fun _ k hk hX => h2.wf k ((sub_cnt h2.nodup h2.sub).2 h3 k hk hX), fun _ => h1⟩
  · rw [h1]
    exact ⟨fun h => (by cases h), fun h => (h4 (h k h2 h3)).elim⟩
end
end Go.Proofs.Ytagmdljdcnmpdaa
