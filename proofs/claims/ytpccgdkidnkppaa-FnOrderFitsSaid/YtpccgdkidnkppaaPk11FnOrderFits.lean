import Derived.Deep.OwnRows
import Derived.Test.YtpccgdkidnkppaaPk4FnOrderFits
import Derived.Test.YtpccgdkidnkppaaPk5FnOrderFits
import Derived.Test.YtpccgdkidnkppaaPk7FnOrderFits
import Derived.Test.YtpccgdkidnkppaaPk9FnOrderFits
import Derived.Test.YtpccgdkidnkppaaPk10FnOrderFits
set_option linter.unusedVariables false
set_option linter.unusedSimpArgs false
namespace Go.Proofs.Ytpccgdkidnkppaa
open Go Go.RowKit

/-! what is reached -/
inductive Reach (mk : Int → Bool) (nx : Int → List Int) (l : List Int) : Int → Prop
  | here (k : Int) : k ∈ l → mk k = true → Reach mk nx l k
  | next (k j : Int) : Reach mk nx l k → j ∈ nx k → mk j = true → Reach mk nx l j
section
variable {mk : Int → Bool} {nx : Int → List Int}
theorem Reach.lift {l l' : List Int} (h : ∀ k ∈ l', mk k = true → Reach mk nx l k) : ∀ {k}, Reach mk nx l' k → Reach mk nx l k := by
  intro k hk
  induction hk with
  | here k h1 h2 => exact h k h1 h2
  | next k j _ h2 h3 ih => exact .next k j ih h2 h3
theorem Reach.mono {l l' : List Int} (h : ∀ k ∈ l', k ∈ l) {k : Int} : Reach mk nx l' k → Reach mk nx l k := Reach.lift fun k hk hm => .here k (h k hk) hm
theorem Reach.isMade {l : List Int} {k : Int} (h : Reach mk nx l k) : mk k = true := by cases h <;> assumption

/-- what a walk over a list adds -/
structure RStep (mk : Int → Bool) (nx : Int → List Int) (X : Int → Bool) (l : List Int) (Y : Int → Bool) : Prop where
  mono : ∀ k, X k = true → Y k = true
  hit : ∀ k ∈ l, mk k = true → Y k = true
  new : ∀ k, Y k = true → X k = false → Reach mk nx l k
  closed : ∀ k, Y k = true → X k = false → ∀ j ∈ nx k, mk j = true → Y j = true
theorem RStep.nil (X : Int → Bool) : RStep mk nx X [] X := ⟨fun _ h => h, fun k h => (by cases h), fun k h1 h2 => (by rw [h1] at h2; cases h2), fun k h1 h2 => (by rw [h1] at h2; cases h2)⟩
/-- a key that is not walked into -/
theorem RStep.skip {X Y : Int → Bool} {l : List Int} {k : Int} (h : RStep mk nx X l Y) (hk : mk k = false ∨ Y k = true) : RStep mk nx X (l ++ [k]) Y := by
  refine ⟨h.mono, fun j hj hm => ?_, fun j h1 h2 => Reach.mono (by simp +contextual) (h.new j h1 h2), h.closed⟩
  rcases List.mem_append.1 hj with hj | hj
  · exact h.hit j hj hm
  · rw [List.mem_singleton.1 hj] at hm ⊢
    exact hk.elim (fun e => by rw [e] at hm; cases hm) id
def setX (X : Int → Bool) (k : Int) : Int → Bool := fun j => if j = k then true else X j
theorem RStep.walk {X Y Z : Int → Bool} {l : List Int} {k : Int} (h : RStep mk nx X l Y) (hm : mk k = true) (hy : Y k = false) (h2 : RStep mk nx (setX Y k) (nx k) Z) : RStep mk nx X (l ++ [k]) Z := by
  have hYZ : ∀ j, Y j = true → Z j = true := fun j hj => h2.mono j (by simp only [setX]; split <;> simp [hj])
  have hkZ : Z k = true := h2.mono k (by simp [setX])
  have hin : Reach mk nx (l ++ [k]) k := .here k (by simp) hm
  refine ⟨fun j hj => hYZ j (h.mono j hj), fun j hj hmj => ?_, fun j h1 h3 => ?_, fun j h1 h3 i hi hmi => ?_⟩
  · rcases List.mem_append.1 hj with hj | hj
    · exact hYZ j (h.hit j hj hmj)
    · rw [List.mem_singleton.1 hj]; exact hkZ
  · by_cases hYj : Y j = true
    · exact Reach.mono (by simp +contextual) (h.new j hYj h3)
    · by_cases e : j = k
      · subst e; exact hin
      · have := h2.new j h1 (by simp only [setX, if_neg e]; simpa using hYj)
        exact Reach.lift (fun i hi hmi => .next k i hin hi hmi) this
  · by_cases hYj : Y j = true
    · exact hYZ i (h.closed j hYj h3 i hi hmi)
    · by_cases e : j = k
      · subst e; exact h2.hit i hi hmi
      · exact h2.closed j h1 (by simp only [setX, if_neg e]; simpa using hYj) i hi hmi
/-- from nothing: just what is reached -/
theorem RStep.reach {l : List Int} {Y : Int → Bool} (h : RStep mk nx (fun _ => false) l Y) (k : Int) : Y k = true ↔ Reach mk nx l k := by
  refine ⟨fun hk => h.new k hk rfl, fun hk => ?_⟩
  induction hk with
  | here k h1 h2 => exact h.hit k h1 h2
  | next k j _ h2 h3 ih => exact h.closed k ih rfl j h2 h3
end

/-! how many there are -/
def cntN (X : Int → Bool) (n : Nat) : Nat := ((List.range n).filter fun q : Nat => X q).length
theorem cntN_le (X : Int → Bool) (n : Nat) : cntN X n ≤ n := by
  have := List.length_filter_le (fun q : Nat => X q) (List.range n)
  simpa [cntN] using this
theorem cntN_congr {X Y : Int → Bool} {n : Nat} (h : ∀ q : Nat, q < n → X q = Y q) : cntN X n = cntN Y n := by
  unfold cntN
  congr 1
  apply List.filter_congr
  intro q hq
  exact h q (List.mem_range.1 hq)
theorem cntN_set {X : Int → Bool} : ∀ {n : Nat} {k : Nat}, k < n → X k = false → cntN (setX X k) n = cntN X n + 1 := by
  intro n
  induction n with
  | zero => intro k h; omega
  | succ n ih =>
    intro k hk hX
    unfold cntN
    rw [List.range_succ, List.filter_append, List.filter_append, List.length_append, List.length_append]
    by_cases e : k = n
    · subst e
      have h1 := cntN_congr (X := setX X k) (Y := X) (n := k) (fun q hq => by simp only [setX]; rw [if_neg (by omega)])
      unfold cntN at h1
      rw [h1]
      simp [setX, hX]
    · have h1 := ih (k := k) (by omega) hX
      unfold cntN at h1
      rw [h1]
      have h2 : setX X k n = X n := by simp only [setX]; rw [if_neg (by omega)]
      simp only [List.filter_cons, h2, List.filter_nil]
      split <;> simp <;> omega
theorem cntN_zero (n : Nat) : cntN (fun _ => false) n = 0 := by simp [cntN]
theorem nodup_sub_len {α : Type} [BEq α] [LawfulBEq α] : ∀ {l m : List α}, l.Nodup → (∀ x ∈ l, x ∈ m) → l.length ≤ m.length := by
  intro l
  induction l with
  | nil => intro m _ _; simp
  | cons a l ih =>
    intro m hn h
    obtain ⟨h1, h2⟩ := List.nodup_cons.1 hn
    have ha := h a (by simp)
    have h3 := ih (m := m.erase a) h2 (fun x hx => (List.mem_erase_of_ne (fun e : x = a => h1 (by rw [← e]; exact hx))).2 (h x (by simp [hx])))
    have h4 := List.length_erase_of_mem ha
    have h5 := List.length_pos_of_mem ha
    simp; omega
/-- members of a set, each once, are not more than there are; if as many, they are all -/
theorem sub_cnt {X : Int → Bool} {n : Nat} {l : List Int} (hn : l.Nodup) (hl : ∀ x ∈ l, 0 ≤ x ∧ x < n ∧ X x = true) : l.length ≤ cntN X n ∧ (l.length = cntN X n → ∀ q : Nat, q < n → X q = true → (q : Int) ∈ l) := by
  have h0 : ∀ (l : List Int), l.Nodup → (∀ x ∈ l, 0 ≤ x ∧ x < n ∧ X x = true) → l.length ≤ cntN X n := by
    intro l hn hl
    have e : ∀ (m : Nat) (l : List Int), l.Nodup → (∀ x ∈ l, 0 ≤ x ∧ x < (m : Int) ∧ X x = true) → l.length ≤ cntN X m := by
      intro m
      induction m with
      | zero =>
        intro l _ h
        cases l with
        | nil => simp
        | cons a l => have := h a (by simp); omega
      | succ m ih =>
        intro l hn h
        have h1 := ih (l.erase (m : Int)) (hn.erase _) (fun x hx => by
          have h2 := (hn.mem_erase_iff).1 hx
          have := h x h2.2
          exact ⟨this.1, by have := h2.1; omega, this.2.2⟩)
        have h2 := List.length_erase (a := (m : Int)) (l := l)
        have h3 : cntN X (m + 1) = cntN X m + if X m then 1 else 0 := by
          unfold cntN
          rw [List.range_succ, List.filter_append, List.length_append]
          simp only [List.filter_cons, List.filter_nil]
          split <;> simp
        split at h2
        · rename_i hm
          rw [if_pos (h _ hm).2.2] at h3
          omega
        · omega
    exact e n l hn hl
  refine ⟨h0 l hn hl, fun he q hq hX => ?_⟩
  by_cases hm : (q : Int) ∈ l
  · exact hm
  · exfalso
    have := h0 ((q : Int) :: l) (List.nodup_cons.2 ⟨hm, hn⟩) (fun x hx => by
      rcases List.mem_cons.1 hx with rfl | hx
      · exact ⟨by omega, by omega, hX⟩
      · exact hl x hx)
    simp at this
    omega

/-! topological order: always the least one that is free -/
def freeK (X : Int → Bool) (may : Int → List Int) (out : List Int) (k : Int) : Bool := X k && !out.contains k && (may k).all fun j => out.contains j
def nextK (X : Int → Bool) (may : Int → List Int) (n : Nat) (out : List Int) : Option Nat := (List.range n).find? fun q : Nat => freeK X may out q
def topoP (X : Int → Bool) (may : Int → List Int) (n : Nat) : Nat → List Int → List Int × Bool
  | 0, out => (out, true)
  | m + 1, out => match nextK X may n out with
    | none => ([], false)
    | some q => topoP X may n m (out ++ [(q : Int)])
section
variable {X : Int → Bool} {may : Int → List Int} {n : Nat}
theorem nextK_some {out : List Int} {q : Nat} (h : nextK X may n out = some q) : q < n ∧ freeK X may out q = true := by
  unfold nextK at h
  have h1 := List.find?_some h
  have h2 := List.mem_of_find?_eq_some h
  exact ⟨List.mem_range.1 h2, h1⟩
theorem nextK_none {out : List Int} (h : nextK X may n out = none) : ∀ q : Nat, q < n → freeK X may out q = false := by
  intro q hq
  unfold nextK at h
  have := List.find?_eq_none.1 h q (List.mem_range.2 hq)
  simpa using this
theorem nextK_at {out : List Int} {q : Nat} (hq : q < n) (hf : freeK X may out q = true) (h : ∀ j : Nat, j < q → freeK X may out j = false) : nextK X may n out = some q := by
  unfold nextK
  rw [List.find?_range_eq_some]
  exact ⟨hf, by simpa using hq, fun j hj => by simp [h j hj]⟩
/-- what is put out so far -/
structure TOk (X : Int → Bool) (may : Int → List Int) (n : Nat) (out : List Int) : Prop where
  nodup : out.Nodup
  sub : ∀ x ∈ out, 0 ≤ x ∧ x < n ∧ X x = true
  behind : ∀ i (h : i < out.length), ∀ j ∈ may out[i], j ∈ out.take i
theorem TOk.nil : TOk X may n [] := ⟨List.nodup_nil, fun x h => (by cases h), fun i h => (by simp at h)⟩
theorem TOk.push {out : List Int} {q : Nat} (h : TOk X may n out) (hq : q < n) (hf : freeK X may out q = true) : TOk X may n (out ++ [(q : Int)]) := by
  simp only [freeK, Bool.and_eq_true, Bool.not_eq_true', List.contains_eq_mem, decide_eq_false_iff_not, List.all_eq_true, decide_eq_true_eq] at hf
  obtain ⟨⟨h1, h2⟩, h3⟩ := hf
  refine ⟨?_, fun x hx => ?_, fun i hi j hj => ?_⟩
  · rw [List.nodup_append]
    exact ⟨h.nodup, by simp, fun a ha b hb => by simp only [List.mem_singleton] at hb; subst hb; intro e; exact h2 (e ▸ ha)⟩
  · rcases List.mem_append.1 hx with hx | hx
    · exact h.sub x hx
    · rw [List.mem_singleton.1 hx]; exact ⟨by omega, by omega, h1⟩
  · simp only [List.length_append, List.length_cons, List.length_nil] at hi
    by_cases hlt : i < out.length
    · rw [List.getElem_append_left hlt] at hj
      rw [List.take_append_of_le_length (by omega)]
      exact h.behind i hlt j hj
    · have e : i = out.length := by omega
      subst e
      simp only [List.getElem_concat_length] at hj
      rw [List.take_append_of_le_length (by omega), List.take_length]
      exact h3 j hj
theorem TOk.wf {out : List Int} (h : TOk X may n out) : ∀ x ∈ out, Wf may x := by
  have : ∀ i (hi : i < out.length), Wf may out[i] := by
    intro i
    induction i using Nat.strongRecOn with
    | ind i ih =>
      intro hi
      refine .mk _ fun j hj => ?_
      have hm := h.behind i hi j hj
      obtain ⟨q, hq, rfl⟩ := List.getElem_of_mem hm
      simp only [List.length_take] at hq
      rw [List.getElem_take]
      exact ih q (by omega) (by omega)
  intro x hx
  obtain ⟨i, hi, rfl⟩ := List.getElem_of_mem hx
  exact this i hi
/-- when it stands still, no key that is left leads to no circle -/
theorem stuck_wf {out : List Int} (hcl : ∀ k : Nat, k < n → X k = true → ∀ j ∈ may k, X j = true ∧ 0 ≤ j ∧ j < n) (hn : nextK X may n out = none) : ∀ k, Wf may k → 0 ≤ k → k < n → X k = true → k ∈ out := by
  intro k hk
  induction hk with
  | mk k _ ih =>
    intro h0 h1 hX
    obtain ⟨q, rfl⟩ := Int.eq_ofNat_of_zero_le h0
    have hf := nextK_none hn q (by omega)
    by_cases hm : (q : Int) ∈ out
    · exact hm
    · exfalso
      have : freeK X may out q = true := by
        simp only [freeK, Bool.and_eq_true, Bool.not_eq_true', List.contains_eq_mem, decide_eq_false_iff_not, List.all_eq_true, decide_eq_true_eq]
        refine ⟨⟨hX, hm⟩, fun j hj => ?_⟩
        obtain ⟨a, b, c⟩ := hcl q (by omega) hX j hj
        exact ih j hj b c a
      rw [this] at hf; cases hf
/-- a topological order of a set is one of all its keys, or some key leads to a circle -/
theorem topoP_spec (hcl : ∀ k : Nat, k < n → X k = true → ∀ j ∈ may k, X j = true ∧ 0 ≤ j ∧ j < n) : ∀ (m : Nat) (out : List Int), TOk X may n out → out.length + m = cntN X n →
    ((topoP X may n m out).2 = true ∧ TOk X may n (topoP X may n m out).1 ∧ (topoP X may n m out).1.length = cntN X n) ∨ (topoP X may n m out = ([], false) ∧ ∃ k : Nat, k < n ∧ X k = true ∧ ¬ Wf may k) := by
  intro m
  induction m with
  | zero => intro out h hl; exact .inl ⟨rfl, h, by simpa [topoP] using hl⟩
  | succ m ih =>
    intro out h hl
    rw [topoP]
    cases e : nextK X may n out with
    | some q =>
      obtain ⟨h1, h2⟩ := nextK_some e
      exact ih _ (h.push h1 h2) (by simp; omega)
    | none =>
      right
      refine ⟨rfl, ?_⟩
      have hle := sub_cnt h.nodup h.sub
      by_cases hall : ∀ q : Nat, q < n → X q = true → (q : Int) ∈ out
      · exfalso
        have : cntN X n ≤ out.length := by
          have h1 : ((List.range n).filter fun q : Nat => X q).length ≤ out.length := by
            have h2 : (((List.range n).filter fun q : Nat => X q).map fun q : Nat => (q : Int)).length ≤ out.length := by
              refine nodup_sub_len ?_ ?_
              · refine List.Pairwise.map _ (fun a b (h : a ≠ b) => ?_) (List.Pairwise.filter _ List.nodup_range)
                omega
              · intro x hx
                obtain ⟨q, hq, rfl⟩ := List.mem_map.1 hx
                obtain ⟨h3, h4⟩ := List.mem_filter.1 hq
                exact hall q (List.mem_range.1 h3) h4
            simpa using h2
          exact h1
        omega
      · simp only [Classical.not_forall] at hall
        obtain ⟨q, hq, hX, hno⟩ := hall
        exact ⟨q, hq, hX, fun hw => hno (stuck_wf hcl e q hw (by omega) (by omega) hX)⟩
theorem topoP_ok (hcl : ∀ k : Nat, k < n → X k = true → ∀ j ∈ may k, X j = true ∧ 0 ≤ j ∧ j < n) : (topoP X may n (cntN X n) []).2 = true ↔ ∀ k : Nat, k < n → X k = true → Wf may k := by
  rcases topoP_spec hcl (cntN X n) [] TOk.nil (by simp) with ⟨h1, h2, h3⟩ | ⟨h1, k, h2, h3, h4⟩
  · exact ⟨fun _ k hk hX => h2.wf k ((sub_cnt h2.nodup h2.sub).2 h3 k hk hX), fun _ => h1⟩
  · rw [h1]
    exact ⟨fun h => (by cases h), fun h => (h4 (h k h2 h3)).elim⟩
end
end Go.Proofs.Ytpccgdkidnkppaa

set_option linter.unusedVariables false
set_option linter.unusedSimpArgs false
namespace Go.Proofs.Ytpccgdkidnkppaa
open Go Go.RowKit

theorem specAllL_false {S : Sh} : ∀ (ks out all : List Int), specAllL S ks out = (all, false) → all = [] := by
  intro ks
  induction ks with
  | nil => intro out all h; cases h
  | cons k ks ih =>
    intro out all h
    rw [specAllL] at h
    by_cases hk : (specKeyP S k).2 = true
    · rw [if_pos hk] at h; exact ih _ _ h
    · rw [if_neg hk] at h; cases h; rfl

end Go.Proofs.Ytpccgdkidnkppaa

set_option linter.unusedVariables false
set_option linter.unusedSimpArgs false
namespace Go.Proofs.Ytpccgdkidnkppaa
open Go Go.RowKit

/-- a result that reads as a row of numbers, and a truth -/
def GivesList (r : List Int × Bool) (e : Ending) (w w' : World) : Prop :=
  ∃ A c, e = .returned (.tuple #[.slice A r.1.length c, .bool r.2]) ∧ r.1.length ≤ c ∧ c ≤ maxLen ∧ IntsAt w'.heap.size w' A r.1 ∧ Below w.heap.size w w'
/-- .. in memory from a block on -/
def GivesOwn (B : Nat) (r : List Int × Bool) (e : Ending) (w w' : World) : Prop :=
  ∃ v, e = .returned (.tuple #[v, .bool r.2]) ∧ w'.ownsRow B 3 1 v r.1.length (ints r.1) ∧ Below w.heap.size w w'
theorem GivesOwn.list {B : Nat} {r : List Int × Bool} {e : Ending} {w w' : World} (h : GivesOwn B r e w w') : GivesList r e w w' := by
  obtain ⟨v, rfl, ho, hb⟩ := h
  obtain ⟨A, c, rfl, h1, h2, h3⟩ := ownsRow_ints ho
  exact ⟨A, c, rfl, h1, h2, h3, hb⟩
def circleP (S : Sh) (k : Int) : List Int × Bool := if (keyP S S.made.length st0 k).1.2 then ([], false) else ((keyP S S.made.length st0 k).2.circle, true)
def specCircleP (S : Sh) (k : Int) : List Int × Bool := if (specP S S.made.length [] [] k).1.2 then ([], false) else ((specP S S.made.length [] [] k).2, true)
theorem circle_same {S : Sh} (hS : S.Ok) (k : Int) : circleP S k = specCircleP S k := by
  have h := build_spec hS k
  have h1 : (keyP S S.made.length st0 k).1 = (specP S S.made.length [] [] k).1 := h.1
  unfold circleP specCircleP
  rw [← h1]
  cases hk : (keyP S S.made.length st0 k).1.2 with
  | true => rfl
  | false => rw [h.2 hk]

end Go.Proofs.Ytpccgdkidnkppaa

set_option linter.unusedVariables false
set_option linter.unusedSimpArgs false
namespace Go.Proofs.Ytpccgdkidnkppaa
open Go Go.RowKit

/-! the reference's passes, one after another -/
def passN (may : Int → List Int) (n : Nat) : Nat → (Int → Bool) → (Int → Bool)
  | 0, d => d
  | m + 1, d => passN may n m (passKs may (keysN n) d)
def safeB (may : Int → List Int) (n : Nat) : Bool := (keysN n).all (passN may n (n + 1) (fun _ => false))
section
variable {may : Int → List Int} {n : Nat}
theorem passKs_range : ∀ (ks : List Int) (d : Int → Bool), (∀ i, d i = true → 0 ≤ i ∧ i < n) → (∀ k ∈ ks, 0 ≤ k ∧ k < n) → ∀ i, passKs may ks d i = true → 0 ≤ i ∧ i < n := by
  intro ks
  induction ks with
  | nil => intro d h _ i hi; exact h i hi
  | cons k ks ih =>
    intro d h hk i hi
    refine ih _ (fun j hj => ?_) (fun k hk' => hk k (List.mem_cons_of_mem _ hk')) i hi
    by_cases e : j = k
    · rw [e]; exact hk k (List.mem_cons_self ..)
    · simp only [e, if_false] at hj; exact h j hj
theorem mem_keysN {n : Nat} {k : Int} : k ∈ keysN n ↔ 0 ≤ k ∧ k < n := by
  unfold keysN
  rw [List.mem_map]
  constructor
  · rintro ⟨q, hq, rfl⟩
    have := List.mem_range.1 hq
    omega
  · intro h
    obtain ⟨q, rfl⟩ := Int.eq_ofNat_of_zero_le h.1
    exact ⟨q, List.mem_range.2 (by omega), rfl⟩
theorem cntN_mono {X Y : Int → Bool} {n : Nat} (h : ∀ k, X k = true → Y k = true) : cntN X n ≤ cntN Y n := by
  unfold cntN
  induction n with
  | zero => simp
  | succ n ih =>
    rw [List.range_succ, List.filter_append, List.filter_append, List.length_append, List.length_append]
    have : ([n].filter fun q : Nat => X q).length ≤ ([n].filter fun q : Nat => Y q).length := by
      simp only [List.filter_cons, List.filter_nil]
      by_cases e : X n = true
      · simp [e, h _ e]
      · simp [e]
    omega
theorem cntN_full {X : Int → Bool} {n : Nat} (h : n ≤ cntN X n) : ∀ q : Nat, q < n → X q = true := by
  intro q hq
  cases e : X q with
  | true => rfl
  | false =>
    have h1 := cntN_set hq e
    have h2 := cntN_le (setX X q) n
    omega
/-- some key that is not done has all its keys done -/
theorem least_wf {d : Int → Bool} (hcl : ∀ k : Nat, k < n → ∀ j ∈ may k, 0 ≤ j ∧ j < n) : ∀ k, Wf may k → 0 ≤ k → k < n → d k = false → ∃ q : Nat, q < n ∧ d q = false ∧ ∀ j ∈ may q, d j = true := by
  intro k hk
  induction hk with
  | mk k _ ih =>
    intro h0 h1 hd
    obtain ⟨q, rfl⟩ := Int.eq_ofNat_of_zero_le h0
    by_cases hall : ∀ j ∈ may q, d j = true
    · exact ⟨q, by omega, hd, hall⟩
    · simp only [Classical.not_forall] at hall
      obtain ⟨j, hj, hn⟩ := hall
      obtain ⟨a, b⟩ := hcl q (by omega) j hj
      exact ih j hj a b (by simpa using hn)
theorem passN_count (hcl : ∀ k : Nat, k < n → ∀ j ∈ may k, 0 ≤ j ∧ j < n) (hw : ∀ k : Nat, k < n → Wf may k) : ∀ (m : Nat) (d : Int → Bool), (∀ i, d i = true → ∀ j ∈ may i, d j = true) → min n (cntN d n + m) ≤ cntN (passN may n m d) n := by
  intro m
  induction m with
  | zero => intro d _; rw [passN]; omega
  | succ m ih =>
    intro d hd
    obtain ⟨h1, h2⟩ := passKs_mono (keysN n) d hd
    have h3 := ih _ h2
    rw [passN]
    by_cases hall : ∀ q : Nat, q < n → d q = true
    · have h4 : n ≤ cntN (passKs may (keysN n) d) n := by
        have e := cntN_congr (X := passKs may (keysN n) d) (Y := fun _ => true) (n := n) (fun q hq => h1 q (hall q hq))
        rw [e]; unfold cntN; rw [List.filter_eq_self.2 (fun _ _ => rfl), List.length_range]; exact Nat.le_refl _
      omega
    · simp only [Classical.not_forall] at hall
      obtain ⟨k, hk, hne⟩ := hall
      obtain ⟨q, hq, hdq, hm⟩ := least_wf (d := d) hcl k (hw k hk) (by omega) (by omega) (by simpa using hne)
      have h4 := passKs_adds (keysN n) d hd q (mem_keysN.2 (by omega)) hm
      have h5 : cntN (setX d q) n ≤ cntN (passKs may (keysN n) d) n := cntN_mono fun j hj => by
        simp only [setX] at hj
        split at hj
        · rename_i e; rw [e]; exact h4
        · exact h1 j hj
      rw [cntN_set hq hdq] at h5
      omega
theorem passN_wf : ∀ (m : Nat) (d : Int → Bool), (∀ i, d i = true → Wf may i) → ∀ i, passN may n m d i = true → Wf may i := by
  intro m
  induction m with
  | zero => intro d h i hi; exact h i hi
  | succ m ih => intro d h i hi; exact ih _ (passKs_wf _ d h) i hi
theorem safeB_ok (hcl : ∀ k : Nat, k < n → ∀ j ∈ may k, 0 ≤ j ∧ j < n) : safeB may n = true ↔ ∀ k : Nat, k < n → Wf may k := by
  unfold safeB
  rw [List.all_eq_true]
  constructor
  · intro h k hk
    exact passN_wf (n + 1) _ (fun i hi => by cases hi) _ (h k (mem_keysN.2 (by omega)))
  · intro hw k hk
    have h1 := passN_count hcl hw (n + 1) (fun _ => false) (fun i hi => by cases hi)
    obtain ⟨a, b⟩ := mem_keysN.1 hk
    obtain ⟨q, rfl⟩ := Int.eq_ofNat_of_zero_le a
    exact cntN_full (n := n) (by omega) q (by omega)
end

/-! of sheets -/
def taskAt (tasks : List Task) (k : Int) : Task := tasks.getD k.toNat default
/-- the made keys that a key may fetch -/
def mayS (made : List Bool) (tasks : List Task) (k : Int) : List Int := mayMade made (taskAt tasks k)
theorem taskAt_get {tasks : List Task} {q : Nat} (h : q < tasks.length) : taskAt tasks q = tasks[q] := getD_at _ h
theorem mayS_made {made : List Bool} {tasks : List Task} {k : Int} : ∀ j ∈ mayS made tasks k, mkK made j = true ∧ 0 ≤ j ∧ j < made.length := by
  intro j hj
  have h := (List.mem_filter.1 hj).2
  exact ⟨h, mkK_range (by rw [h]; simp)⟩
/-- whether a sheet is safe -/
def safeP (made : List Bool) (tasks : List Task) : Bool := sheetOk made tasks && safeB (mayS made tasks) made.length
def implSafeP (made : List Bool) (tasks : List Task) : Bool := sheetOk made tasks && (topoP (mkK made) (mayS made tasks) made.length (cntN (mkK made) made.length) []).2
theorem sheetOkL_at : ∀ {made : List Bool} {tasks : List Task}, sheetOkL made tasks = true → made.length = tasks.length → ∀ (q : Nat) (h : q < tasks.length) (h' : q < made.length), okT tasks[q] = true ∧ (made[q] = false → tasks[q].kind = 0 ∧ tasks[q].n = 0) := by
  intro made
  induction made with
  | nil => intro tasks _ hl q h h'; simp at h'
  | cons m ms ih =>
    intro tasks h hl q hq hq'
    cases tasks with
    | nil => simp at hq
    | cons t ts =>
      rw [sheetOkL_cons, Bool.and_eq_true, Bool.and_eq_true] at h
      obtain ⟨⟨h1, h2⟩, h3⟩ := h
      cases q with
      | zero =>
        refine ⟨h1, fun hm => ?_⟩
        simp only [List.getElem_cons_zero] at hm ⊢
        rw [hm] at h2
        simpa using h2
      | succ q => exact ih h3 (by simpa using hl) q (by simpa using hq) (by simpa using hq')
theorem zero_may {t : Task} (hok : okT t = true) (hk : t.kind = 0) (i : Int) : mayTask t i = false := by
  obtain ⟨k, rfl, hk2⟩ := okT_tk hok
  cases k <;> simp [Tk.enc, Task.kind] at hk <;> simp [Tk.enc, mayTask, mayTaskL]
theorem mem_mayFrom_inv (t : Task) : ∀ (m : Nat), m ≤ 10 → ∀ x ∈ mayFrom t m, mayTask t x = true := by
  intro m
  induction m with
  | zero => intro _ x hx; cases hx
  | succ m ih =>
    intro hm x hx
    rw [mayFrom, List.mem_append] at hx
    rcases hx with hx | hx
    · split at hx
      · rename_i h; rw [List.mem_singleton.1 hx]; exact h
      · cases hx
    · exact ih (by omega) x hx
theorem mem_mayList {t : Task} {x : Int} : x ∈ mayList t ↔ okT t = true ∧ 0 ≤ x ∧ x ≤ 9 ∧ mayTask t x = true := by
  constructor
  · intro h
    have hr := mayList_range t x h
    unfold mayList at h
    split at h
    · rename_i hok; exact ⟨hok, hr.1, hr.2, mem_mayFrom_inv t 10 (by omega) x h⟩
    · cases h
  · rintro ⟨h1, h2, h3, h4⟩
    obtain ⟨q, rfl⟩ := Int.eq_ofNat_of_zero_le h2
    unfold mayList
    rw [if_pos h1]
    exact mem_mayFrom t 10 q (by omega) (by omega) (by omega) h4
theorem mayS_unmade {made : List Bool} {tasks : List Task} (hok : sheetOk made tasks = true) {q : Nat} (hq : q < made.length) (hm : mkK made q = false) : mayS made tasks q = [] := by
  simp only [sheetOk, Bool.and_eq_true, decide_eq_true_eq] at hok
  obtain ⟨⟨h1, h2⟩, h3⟩ := hok
  have hqt : q < tasks.length := by omega
  obtain ⟨a, b⟩ := sheetOkL_at h3 h1 q hqt hq
  have hmq : made[q] = false := by
    unfold mkK at hm
    rw [if_neg (by omega), Int.toNat_natCast, getD_at _ hq] at hm
    exact hm
  unfold mayS
  rw [taskAt_get hqt]
  apply List.eq_nil_iff_forall_not_mem.2
  intro x hx
  have := (mem_mayList.1 (List.mem_filter.1 hx).1).2.2.2
  rw [zero_may a (b hmq).1] at this
  cases this
/-- safe: no key leads to a circle -/
theorem safeP_iff {made : List Bool} {tasks : List Task} (hok : sheetOk made tasks = true) : safeP made tasks = true ↔ ∀ k : Nat, k < made.length → Wf (mayS made tasks) k := by
  unfold safeP
  rw [hok, Bool.true_and]
  exact safeB_ok fun k _ j hj => (mayS_made j hj).2
theorem safe_same (made : List Bool) (tasks : List Task) : implSafeP made tasks = safeP made tasks := by
  cases hok : sheetOk made tasks with
  | false => simp [implSafeP, safeP, hok]
  | true =>
    rw [Bool.eq_iff_iff, safeP_iff hok]
    unfold implSafeP
    rw [hok, Bool.true_and, topoP_ok (fun k _ _ j hj => ⟨(mayS_made j hj).1, (mayS_made j hj).2⟩)]
    refine ⟨fun h k hk => ?_, fun h k hk _ => h k hk⟩
    cases hm : mkK made k with
    | true => exact h k hk hm
    | false => exact .mk _ fun j hj => by rw [mayS_unmade hok hk hm] at hj; cases hj
/-- what is safe never fails -/
theorem safe_all {S : Sh} (hS : S.Ok) (h : safeP S.made (S.tks.map Tk.enc) = true) (k : Int) : (specKeyP S k).2 = true := by
  cases e : (specKeyP S k).2 with
  | true => rfl
  | false =>
    exfalso
    obtain ⟨hne, hc⟩ := spec_cyc _ _ _ _ (uok0 S) (chain0 S k) e
    have hw := (safeP_iff hS.sheet).1 h
    generalize (specP S S.made.length [] [] k).2 = l at hne hc
    have hl : 0 < l.length := by cases l with | nil => exact (hne rfl).elim | cons a l => simp
    refine wf_no_cycle (may := mayS S.made (S.tks.map Tk.enc)) hne (fun i hi => ?_) l[0] ?_ (List.getElem_mem _)
    · obtain ⟨h1, h2⟩ := hc i hi
      have h3 := (hc ((i + 1) % l.length) (Nat.mod_lt _ hl)).1
      have hr := mkK_range (show mkK S.made l[i] ≠ false by rw [h1]; simp)
      have hr2 := mkK_range (show mkK S.made (l[(i + 1) % l.length]'(Nat.mod_lt _ hl)) ≠ false by rw [h3]; simp)
      obtain ⟨q, hq⟩ := Int.eq_ofNat_of_zero_le hr.1
      have hqt : q < S.tks.length := by have := hS.len; omega
      unfold mayS mayMade
      rw [List.mem_filter]
      refine ⟨mem_mayList.2 ?_, h3⟩
      rw [hq] at h2 ⊢
      rw [taskAt_get (by simpa using hqt), List.getElem_map]
      rw [tk_at hqt] at h2
      have := hS.ten
      exact ⟨hS.okT hqt, by omega, by omega, h2⟩
    · have h1 := (hc 0 hl).1
      have hr := mkK_range (show mkK S.made l[0] ≠ false by rw [h1]; simp)
      obtain ⟨q, hq⟩ := Int.eq_ofNat_of_zero_le hr.1
      rw [hq]
      exact hw q (by omega)
theorem specAllL_ok {S : Sh} : ∀ (ks out : List Int), (∀ k ∈ ks, (specKeyP S k).2 = true) → (specAllL S ks out).2 = true := by
  intro ks
  induction ks with
  | nil => intro out _; rfl
  | cons k ks ih =>
    intro out h
    rw [specAllL, if_pos (h k (List.mem_cons_self ..))]
    exact ih _ (fun j hj => h j (List.mem_cons_of_mem _ hj))
theorem safe_build {S : Sh} (hS : S.Ok) (h : safeP S.made (S.tks.map Tk.enc) = true) : (buildAllP S).2 = true := by
  rw [all_same hS]
  exact specAllL_ok _ _ fun k _ => safe_all hS h k
end Go.Proofs.Ytpccgdkidnkppaa

set_option linter.unusedVariables false
set_option linter.unusedSimpArgs false
namespace Go.Proofs.Ytpccgdkidnkppaa
open Go Go.RowKit

/-! what a task fetches, each once -/
def usesL : List (Int × Int) → List Int → List Int
  | [], out => out
  | f :: fs, out => usesL fs (if out.contains f.1 then out else out ++ [f.1])
def onceL2 : List (Int × Int) → List (Int × Int) → List (Int × Int)
  | [], out => out
  | f :: fs, out => onceL2 fs (if out.any (fun g => g.1 == f.1) then out else out ++ [f])
theorem any_keys (out : List (Int × Int)) (k : Int) : out.any (fun g => g.1 == k) = (out.map Prod.fst).contains k := by
  induction out with
  | nil => rfl
  | cons g gs ih =>
    rw [List.any_cons, List.map_cons, List.contains_cons, ih]
    congr 1
    rw [Bool.eq_iff_iff, beq_iff_eq, beq_iff_eq]
    exact eq_comm
theorem once_map : ∀ (l out : List (Int × Int)), (onceL2 l out).map Prod.fst = usesL l (out.map Prod.fst) := by
  intro l
  induction l with
  | nil => intro out; rfl
  | cons f fs ih =>
    intro out
    rw [onceL2, usesL, ih, any_keys]
    split
    · rfl
    · rw [List.map_append]; rfl
theorem usesL_mem : ∀ (l : List (Int × Int)) (out : List Int) (j : Int), j ∈ usesL l out ↔ j ∈ out ∨ ∃ f ∈ l, f.1 = j := by
  intro l
  induction l with
  | nil => intro out j; simp [usesL]
  | cons f fs ih =>
    intro out j
    rw [usesL, ih]
    by_cases h : out.contains f.1 = true
    · rw [if_pos h]
      have hf : f.1 ∈ out := by simpa using h
      constructor
      · rintro (h | ⟨g, hg, e⟩)
        · exact .inl h
        · exact .inr ⟨g, List.mem_cons_of_mem _ hg, e⟩
      · rintro (h | ⟨g, hg, e⟩)
        · exact .inl h
        · rcases List.mem_cons.1 hg with rfl | hg
          · exact .inl (e ▸ hf)
          · exact .inr ⟨g, hg, e⟩
    · rw [if_neg h]
      constructor
      · rintro (h | ⟨g, hg, e⟩)
        · rcases List.mem_append.1 h with h | h
          · exact .inl h
          · exact .inr ⟨f, List.mem_cons_self .., (List.mem_singleton.1 h).symm⟩
        · exact .inr ⟨g, List.mem_cons_of_mem _ hg, e⟩
      · rintro (h | ⟨g, hg, e⟩)
        · exact .inl (List.mem_append_left _ h)
        · rcases List.mem_cons.1 hg with rfl | hg
          · exact .inl (List.mem_append_right _ (by rw [e]; exact List.mem_singleton.2 rfl))
          · exact .inr ⟨g, hg, e⟩
theorem onceL2_length : ∀ (l out : List (Int × Int)), (onceL2 l out).length ≤ l.length + out.length := by
  intro l
  induction l with
  | nil => intro out; simp [onceL2]
  | cons f fs ih =>
    intro out
    rw [onceL2]
    by_cases h : out.any (fun g => g.1 == f.1) = true
    · rw [if_pos h]; have := ih out; simp only [List.length_cons]; omega
    · rw [if_neg h]; have := ih (out ++ [f]); simp only [List.length_cons, List.length_append, List.length_nil] at this ⊢; omega
theorem usesL_length : ∀ (l : List (Int × Int)) (out : List Int), (usesL l out).length ≤ l.length + out.length := by
  intro l
  induction l with
  | nil => intro out; simp [usesL]
  | cons f fs ih =>
    intro out
    rw [usesL]
    by_cases h : out.contains f.1 = true
    · rw [if_pos h]; have := ih out; simp only [List.length_cons]; omega
    · rw [if_neg h]; have := ih (out ++ [f.1]); simp only [List.length_cons, List.length_append, List.length_nil] at this ⊢; omega

theorem fetched_itr (t : Tk) (xs : List Int) : fetchedP t xs = t.itr.run (fetF xs) [] := Tk.run_itr _ (fun s k h => by simp [fetF] at h) t []
theorem fet_length (xs : List Int) : ∀ (m : Itr) (n : Nat) (l : List (Int × Int)), m.le n → (m.run (fetF xs) l).2.length ≤ l.length + n := by
  intro m
  induction m with
  | done v => intro n l _; simp [Itr.run]
  | ask k c ih =>
    intro n l h
    cases n with
    | zero => exact h.elim
    | succ n =>
      rw [Itr.run_yes (by simp [fetF])]
      have := ih (fetF xs l k).1.1 n (fetF xs l k).2 (h _)
      simp [fetF] at this ⊢
      omega
theorem fetched_length (t : Tk) (xs : List Int) : (fetchedP t xs).2.length ≤ t.fets := by
  rw [fetched_itr]
  have := fet_length xs t.itr t.fets [] (Tk.itr_le t)
  simpa using this
theorem fet_keys (xs : List Int) : ∀ (m : Itr) (l : List (Int × Int)), m.ok → (∀ f ∈ l, 0 ≤ f.1 ∧ f.1 ≤ 9 ∧ f.2 = atK xs f.1) → ∀ f ∈ (m.run (fetF xs) l).2, 0 ≤ f.1 ∧ f.1 ≤ 9 ∧ f.2 = atK xs f.1 := by
  intro m
  induction m with
  | done v => intro l _ h; exact h
  | ask k c ih =>
    intro l h hl
    obtain ⟨h0, h9, hc⟩ := h
    rw [Itr.run_yes (by simp [fetF])]
    refine ih _ _ (hc _) (fun f hf => ?_)
    rcases List.mem_append.1 hf with hf | hf
    · exact hl f hf
    · rw [List.mem_singleton.1 hf]; exact ⟨h0, h9, rfl⟩
theorem fetched_keys {t : Tk} (h : t.ok) (xs : List Int) : ∀ f ∈ (fetchedP t xs).2, 0 ≤ f.1 ∧ f.1 ≤ 9 ∧ f.2 = atK xs f.1 := by
  rw [fetched_itr]
  exact fet_keys xs t.itr [] (Tk.itr_ok t h) (fun f hf => by cases hf)
def usesP (t : Tk) (xs : List Int) : List Int := usesL (fetchedP t xs).2 []
theorem usesP_length (t : Tk) (xs : List Int) : (usesP t xs).length ≤ t.fets := by
  have h1 := usesL_length (fetchedP t xs).2 []
  have h2 := fetched_length t xs
  unfold usesP
  simp at h1; omega
theorem usesP_keys {t : Tk} (h : t.ok) (xs : List Int) : ∀ j ∈ usesP t xs, 0 ≤ j ∧ j ≤ 9 := by
  intro j hj
  rcases (usesL_mem _ _ _).1 hj with h1 | ⟨f, hf, rfl⟩
  · cases h1
  · have := fetched_keys h xs f hf
    exact ⟨this.1, this.2.1⟩

/-! whether an order fits -/
def fitAt (S : Sh) (vals order : List Int) (i : Nat) (k : Int) : Bool := mkK S.made k && !(order.take i).contains k && (usesP (S.tk k) vals).all (fun j => !mkK S.made j || (order.take i).contains j)
def fitsL (S : Sh) (vals order : List Int) (i : Nat) : Bool := (List.range' i (order.length - i)).all fun j => fitAt S vals order j (order.getD j 0)
def fitsP (S : Sh) (vals order : List Int) : Bool := fitsL S vals order 0
theorem fitsL_step {S : Sh} {vals order : List Int} {i : Nat} (h : i < order.length) : fitsL S vals order i = (fitAt S vals order i order[i] && fitsL S vals order (i + 1)) := by
  unfold fitsL
  obtain ⟨n, hn⟩ : ∃ n, order.length - i = n + 1 := ⟨order.length - i - 1, by omega⟩
  rw [hn, List.range'_succ, List.all_cons, show order.length - (i + 1) = n by omega]
  congr 2
  simp [h]
theorem fitsL_end {S : Sh} {vals order : List Int} {i : Nat} (h : ¬ i < order.length) : fitsL S vals order i = true := by
  unfold fitsL
  rw [show order.length - i = 0 by omega]
  rfl
theorem fitsP_iff {S : Sh} {vals order : List Int} : fitsP S vals order = true ↔ ∀ i (hi : i < order.length), fitAt S vals order i order[i] = true := by
  unfold fitsP fitsL
  rw [List.all_eq_true]
  constructor
  · intro h i hi
    have := h i (by rw [List.mem_range']; exact ⟨i, by omega, by omega⟩)
    simpa [hi] using this
  · intro h j hj
    rw [List.mem_range'] at hj
    obtain ⟨q, hq, rfl⟩ := hj
    have hl : q < order.length := by omega
    have := h q hl
    simpa [hl] using this
/-- an order without its last key -/
theorem fits_last {S : Sh} {vals order : List Int} (h : fitsP S vals order = true) : fitsP S vals (order.take (order.length - 1)) = true := by
  rw [fitsP_iff] at h ⊢
  intro i hi
  rw [List.length_take] at hi
  have h1 := h i (by omega)
  rw [List.getElem_take]
  unfold fitAt at h1 ⊢
  rw [List.take_take, Nat.min_eq_left (by omega)]
  exact h1
end Go.Proofs.Ytpccgdkidnkppaa

set_option linter.unusedVariables false
set_option linter.unusedSimpArgs false
namespace Go.Proofs.Ytpccgdkidnkppaa
open Go Go.RowKit

/-! the reference's set: a list that grows while it is gone through -/
structure BInv (mk : Int → Bool) (may : Int → List Int) (n : Nat) (keys : List Int) (Y : Int → Bool) (row : List Int) (i : Nat) : Prop where
  sound : ∀ k, Y k = true → Reach mk may keys k
  src : ∀ x ∈ row, x ∈ keys ∨ ∃ k, Y k = true ∧ x ∈ may k
  done : ∀ j (h : j < row.length), j < i → mk row[j] = true → Y row[j] = true
  next : ∀ k, Y k = true → ∀ j ∈ may k, j ∈ row
  has : ∀ k ∈ keys, k ∈ row
  len : row.length ≤ keys.length + 10 * cntN Y n
section
variable {mk : Int → Bool} {may : Int → List Int} {n : Nat} {keys : List Int} {Y : Int → Bool} {row : List Int} {i : Nat}
theorem BInv.start : BInv mk may n keys (fun _ => false) keys 0 :=
  ⟨fun k h => (by cases h), fun x h => .inl h, fun j h h2 => (by omega), fun k h => (by cases h), fun k h => h, by omega⟩
theorem BInv.skip (h : BInv mk may n keys Y row i) (hi : i < row.length) (hs : mk row[i] = false ∨ Y row[i] = true) : BInv mk may n keys Y row (i + 1) :=
  ⟨h.sound, h.src, fun j hj hji hm => by
    by_cases e : j = i
    · subst e
      rcases hs with hs | hs
      · rw [hs] at hm; cases hm
      · exact hs
    · exact h.done j hj (by omega) hm, h.next, h.has, h.len⟩
theorem BInv.push (h : BInv mk may n keys Y row i) (hi : i < row.length) {q : Nat} (hq : row[i] = (q : Int)) (hqn : q < n) (hm : mk q = true) (hy : Y q = false) (hl : (may q).length ≤ 10) : BInv mk may n keys (setX Y q) (row ++ may q) (i + 1) := by
  have hYk : ∀ k, Y k = true → setX Y q k = true := fun k hk => by simp only [setX]; split <;> simp [hk]
  have hR : Reach mk may keys (q : Int) := by
    rcases h.src _ (List.getElem_mem hi) with h1 | ⟨k, h1, h2⟩
    · rw [hq] at h1; exact .here _ h1 hm
    · rw [hq] at h2; exact .next k _ (h.sound k h1) h2 hm
  refine ⟨fun k hk => ?_, fun x hx => ?_, fun j hj hji hmj => ?_, fun k hk j hj => ?_, fun k hk => List.mem_append_left _ (h.has k hk), ?_⟩
  · by_cases e : k = q
    · rw [e]; exact hR
    · simp only [setX, if_neg e] at hk; exact h.sound k hk
  · rcases List.mem_append.1 hx with hx | hx
    · rcases h.src x hx with h1 | ⟨k, h1, h2⟩
      · exact .inl h1
      · exact .inr ⟨k, hYk k h1, h2⟩
    · exact .inr ⟨q, by simp [setX], hx⟩
  · have hjl : j < row.length := by omega
    rw [List.getElem_append_left hjl] at hmj ⊢
    by_cases e : j = i
    · subst e; rw [hq]; simp [setX]
    · exact hYk _ (h.done j hjl (by omega) hmj)
  · by_cases e : k = q
    · rw [e] at hj; exact List.mem_append_right _ hj
    · simp only [setX, if_neg e] at hk; exact List.mem_append_left _ (h.next k hk j hj)
  · rw [List.length_append, cntN_set hqn hy]
    have := h.len
    omega
theorem BInv.reach (h : BInv mk may n keys Y row i) (hi : row.length ≤ i) (k : Int) : Y k = true ↔ Reach mk may keys k := by
  have hall : ∀ x ∈ row, mk x = true → Y x = true := fun x hx hm => by
    obtain ⟨j, hj, rfl⟩ := List.getElem_of_mem hx
    exact h.done j hj (by omega) hm
  refine ⟨h.sound k, fun hk => ?_⟩
  induction hk with
  | here k h1 h2 => exact hall k (h.has k h1) h2
  | next k j _ h1 h2 ih => exact hall j (h.next k ih j h1) h2
theorem BInv.range (h : BInv mk may n keys Y row i) (hk : ∀ k ∈ keys, 0 ≤ k ∧ k < n) (hm : ∀ k, ∀ j ∈ may k, 0 ≤ j ∧ j < n) : ∀ x ∈ row, 0 ≤ x ∧ x < n := fun x hx => by
  rcases h.src x hx with h1 | ⟨k, _, h2⟩
  · exact hk x h1
  · exact hm k x h2
end

/-! the reference's order: the least one that is free, while there is one -/
section
variable {X : Int → Bool} {may : Int → List Int} {n : Nat}
structure STopo (X : Int → Bool) (may : Int → List Int) (n : Nat) (R : List Int) (out : List Int) : Prop where
  ok : TOk X may n out
  rest : out.length ≤ cntN X n ∧ topoP X may n (cntN X n - out.length) out = (R, true)
theorem STopo.start (h : (topoP X may n (cntN X n) []).2 = true) : STopo X may n (topoP X may n (cntN X n) []).1 [] := ⟨TOk.nil, by simp, by
  rw [show cntN X n - ([] : List Int).length = cntN X n by simp]
  exact Prod.ext rfl h⟩
theorem STopo.some {R out : List Int} {q : Nat} (h : STopo X may n R out) (hq : nextK X may n out = some q) : STopo X may n R (out ++ [(q : Int)]) := by
  obtain ⟨hqn, hf⟩ := nextK_some hq
  have hp := h.ok.push hqn hf
  have hl := (sub_cnt hp.nodup hp.sub).1
  simp only [List.length_append, List.length_singleton] at hl
  refine ⟨hp, by simpa using hl, ?_⟩
  have hr := h.rest.2
  obtain ⟨m, hm⟩ : ∃ m, cntN X n - out.length = m + 1 := ⟨cntN X n - out.length - 1, by omega⟩
  rw [hm, topoP, hq] at hr
  rw [List.length_append, List.length_singleton, show cntN X n - (out.length + 1) = m by omega]
  exact hr
theorem STopo.none {R out : List Int} (h : STopo X may n R out) (hq : nextK X may n out = none) : out = R := by
  have hr := h.rest.2
  cases hm : cntN X n - out.length with
  | zero => rw [hm, topoP] at hr; exact (Prod.mk.inj hr).1
  | succ m => rw [hm, topoP, hq] at hr; cases hr
theorem STopo.len {R out : List Int} (h : STopo X may n R out) : out.length ≤ n := Nat.le_trans h.rest.1 (cntN_le _ _)
end
/-- of a safe sheet, each set that holds what its keys may fetch has an order -/
theorem safe_topo {made : List Bool} {tasks : List Task} (h : safeP made tasks = true) {X : Int → Bool} {keys : List Int} (hX : ∀ k, X k = true ↔ Reach (mkK made) (mayS made tasks) keys k) :
    (topoP X (mayS made tasks) made.length (cntN X made.length) []).2 = true ∧ TOk X (mayS made tasks) made.length (topoP X (mayS made tasks) made.length (cntN X made.length) []).1 ∧ (topoP X (mayS made tasks) made.length (cntN X made.length) []).1.length = cntN X made.length := by
  have hok : sheetOk made tasks = true := by unfold safeP at h; rw [Bool.and_eq_true] at h; exact h.1
  have hcl : ∀ k : Nat, k < made.length → X k = true → ∀ j ∈ mayS made tasks k, X j = true ∧ 0 ≤ j ∧ j < made.length := fun k _ hk j hj => by
    have hm := mayS_made j hj
    exact ⟨(hX j).2 (.next k j ((hX k).1 hk) hj hm.1), hm.2⟩
  rcases topoP_spec hcl (cntN X made.length) [] TOk.nil (by simp) with h1 | ⟨_, k, hk, _, hw⟩
  · exact h1
  · exact (hw ((safeP_iff hok).1 h k hk)).elim

/-! what is fetched may be fetched -/
theorem fet_in (xs : List Int) {P : Int → Prop} : ∀ (m : Itr) (l : List (Int × Int)), m.In P → (∀ f ∈ l, P f.1) → ∀ f ∈ (m.run (fetF xs) l).2, P f.1 := by
  intro m
  induction m with
  | done v => intro l _ h; exact h
  | ask k c ih =>
    intro l h hl
    rw [Itr.run_yes (by simp [fetF])]
    refine ih _ _ (h.2 _) (fun f hf => ?_)
    rcases List.mem_append.1 hf with hf | hf
    · exact hl f hf
    · rw [List.mem_singleton.1 hf]; exact h.1
theorem uses_may (t : Tk) (xs : List Int) : ∀ j ∈ usesP t xs, mayTask t.enc j = true := by
  intro j hj
  rcases (usesL_mem _ _ _).1 hj with h1 | ⟨f, hf, rfl⟩
  · cases h1
  · rw [fetched_itr] at hf
    exact fet_in xs t.itr [] t.itr_In (fun f hf => by cases hf) f hf
/-- a made key that is fetched may be fetched -/
theorem uses_mayS {S : Sh} (hS : S.Ok) {q : Nat} (hq : q < S.made.length) (xs : List Int) {j : Int} (hj : j ∈ usesP (S.tk q) xs) (hm : mkK S.made j = true) : j ∈ mayS S.made (S.tks.map Tk.enc) q := by
  have hqt : q < S.tks.length := by have := hS.len; omega
  have hr := mkK_range (show mkK S.made j ≠ false by rw [hm]; simp)
  have h2 := uses_may _ _ j hj
  unfold mayS mayMade
  rw [List.mem_filter]
  refine ⟨mem_mayList.2 ?_, hm⟩
  rw [taskAt_get (by simpa using hqt), List.getElem_map]
  rw [tk_at hqt] at h2
  have := hS.ten
  exact ⟨hS.okT hqt, by omega, by omega, h2⟩
/-- a topological order fits all inputs -/
theorem topo_fits {S : Sh} (hS : S.Ok) (vals : List Int) {X : Int → Bool} {keys out : List Int} (hX : ∀ k, X k = true ↔ Reach (mkK S.made) (mayS S.made (S.tks.map Tk.enc)) keys k)
    (h : TOk X (mayS S.made (S.tks.map Tk.enc)) S.made.length out) : fitsP S vals out = true := by
  rw [fitsP_iff]
  intro i hi
  have hs := h.sub _ (List.getElem_mem hi)
  have hmk := ((hX _).1 hs.2.2).isMade
  obtain ⟨q, hq⟩ := Int.eq_ofNat_of_zero_le hs.1
  unfold fitAt
  rw [hmk, Bool.true_and, Bool.and_eq_true, List.all_eq_true]
  refine ⟨?_, fun j hj => ?_⟩
  · rw [Bool.not_eq_true', List.contains_eq_mem, decide_eq_false_iff_not]
    intro hm
    obtain ⟨a, ha, e⟩ := List.getElem_of_mem hm
    rw [List.length_take] at ha
    rw [List.getElem_take] at e
    have := (List.getElem?_inj (i := a) (j := i) (show a < out.length by omega) h.nodup).1 (by rw [List.getElem?_eq_getElem (show a < out.length by omega), List.getElem?_eq_getElem hi, e])
    omega
  · cases hm : mkK S.made j with
    | false => rfl
    | true =>
      have hj2 : j ∈ mayS S.made (S.tks.map Tk.enc) out[i] := by
        rw [hq] at hj ⊢
        exact uses_mayS hS (by omega) vals hj hm
      have := h.behind i hi j hj2
      simpa using this
end Go.Proofs.Ytpccgdkidnkppaa

set_option linter.unusedVariables false
set_option linter.unusedSimpArgs false
namespace Go.Proofs.Ytpccgdkidnkppaa
open Go Go.RowKit

/-! maps from int to values of any kind: what a key has, and how many keys there are -/
def anyElem (v : Value) : Option (DataW Value × List MemPlace) := some (.held v, [])
structure VMapTy (P : Program) (t tk te : TypeId) (z : Value) : Prop where
  ht : P.underlying t = some (.map tk te)
  hk : P.underlying tk = some (.int .i64)
  hz : ∀ w, (zeroValue te).run P w = .ok z w
def VMap (P : Program) (tk : TypeId) (w : World) (b : Nat) (f : Int → Option Value) (c : Nat) : Prop :=
  ∃ D, w.ownsMap (H := Value) P tk anyElem b c D ∧ Maps.size D = c ∧ ∀ k : Int, (Lit.int .i64 k).wf = true → Maps.has D (.int .i64 k) = (f k).isSome ∧ ∀ z, D.atKey (.int .i64 k) z = match f k with | some v => .held v | none => z
def updV (f : Int → Option Value) (k : Int) (v : Value) : Int → Option Value := fun j => if j = k then some v else f j
/-- how many there are behind a store -/
def putC (f : Int → Option Value) (k : Int) (c : Nat) : Nat := if (f k).isSome then c else c + 1
theorem VMap.new (P : Program) (tk : TypeId) (w : World) : VMap P tk (w.alloc (.map #[] 0)) w.heap.size (fun _ => none) 0 :=
  ⟨.map [], World.ownsMap_made _ _ _ _, rfl, fun k _ => ⟨rfl, fun z => rfl⟩⟩
theorem VMap.block {P : Program} {tk : TypeId} {w w' : World} {b c : Nat} {f : Int → Option Value} (h : VMap P tk w b f c) (hb : w'.heap[b]? = w.heap[b]?) : VMap P tk w' b f c := by
  obtain ⟨D, ⟨es, clock, h1, h2⟩, h3⟩ := h
  exact ⟨D, ⟨es, clock, hb.trans h1, h2⟩, h3⟩
theorem VMap.isMap {P : Program} {tk : TypeId} {w : World} {b c : Nat} {f : Int → Option Value} (h : VMap P tk w b f c) : ∃ es k, w.heap[b]? = some (.map es k) := by
  obtain ⟨D, ⟨es, clock, h1, h2⟩, h3⟩ := h
  exact ⟨_, _, h1⟩
theorem VMap.lt {P : Program} {tk : TypeId} {w : World} {b c : Nat} {f : Int → Option Value} (h : VMap P tk w b f c) : b < w.heap.size := by
  obtain ⟨es, k, h⟩ := h.isMap
  exact block_lt h
theorem VMap.congr {P : Program} {tk : TypeId} {w : World} {b c : Nat} {f g : Int → Option Value} (h : VMap P tk w b f c) (e : ∀ k, f k = g k) : VMap P tk w b g c := by
  rw [← funext e]; exact h
/-- a row that is owned lies in no map's block -/
theorem VMap.ne {P : Program} {tk : TypeId} {w : World} {b c : Nat} {f : Int → Option Value} (h : VMap P tk w b f c) {base : Nat} {e : TypeId} {size : Nat} {v : Value} {n : Nat} {xs : List Value} (ho : w.ownsRow base e size v n xs) : v.ownBlock ≠ some b := by
  obtain ⟨es, k, hm⟩ := h.isMap
  exact ownsRow_ne ho hm (fun c e => by cases e)
theorem VMap.ne_cells {P : Program} {tk : TypeId} {w : World} {b c : Nat} {f : Int → Option Value} (h : VMap P tk w b f c) {m : Nat} {cs : Array Value} {t : TypeId} {fr : Nat × Nat} (hm : w.heap[m]? = some (.cells cs t fr)) : m ≠ b := by
  obtain ⟨es, k, hb⟩ := h.isMap
  intro e; rw [e, hb] at hm; cases hm
/-- a cell that is read lies in no map's block -/
theorem VMap.ne_cell {P : Program} {tk : TypeId} {w : World} {b c : Nat} {f : Int → Option Value} (h : VMap P tk w b f c) {m o : Nat} {v : Value} (hm : w.cell? ⟨m, o, none⟩ = some v) : m ≠ b := by
  obtain ⟨es, k, hb⟩ := h.isMap
  intro e; rw [e] at hm; simp [World.cell?, hb] at hm

section
variable {P : Program} {w : World} {ops : Array Oper} {rest : List Oper} {o : Oper} {a : Act} {Q : Exit → Act → World → Prop}
theorem held_inv {v u : Value} {ps : List MemPlace} (h : anyElem v = some (DataW.held u, ps)) : v = u := by
  simp [anyElem] at h; exact h.1
theorem wpList_vget (hgd : o.guard = none) (m x : Operand) (t : TypeId) (ho : o.op = Op.lookup t m x false)
    {tk te : TypeId} {z : Value} (hT : VMapTy P t tk te z) (b c : Nat) (f : Int → Option Value) (hm : a.eval m = .map (some b)) (hM : VMap P tk w b f c) (k : Int) (hx : a.eval x = .int .i64 k) (hw : (Lit.int .i64 k).wf = true)
    (h : wpList P ops Q rest (a.put o.dst ((f k).getD z)) w) : wpList P ops Q (o :: rest) a w := by
  obtain ⟨D, hD, _, hf⟩ := hM
  refine wpList_plain hgd fun K' hK' => ?_
  obtain ⟨v, ps, hrun, hv⟩ := hD.lookup (Maps.int_keyed hT.hk) hT.ht (hT.hz w) (zd := .held z) (zp := []) rfl (Maps.keyOf_int_mk hT.hk hw)
  rw [(hf k hw).2] at hv
  have e : v = (f k).getD z := by
    cases hfk : f k with
    | none => rw [hfk] at hv; exact held_inv hv
    | some u => rw [hfk] at hv; exact held_inv hv
  subst e
  unfold Oper.wp
  simp [execOp, ho, hm, hx, hrun, Result.andThen]
  exact hK' _ _ h
theorem wpList_vget_ok (hgd : o.guard = none) (m x : Operand) (t : TypeId) (ho : o.op = Op.lookup t m x true)
    {tk te : TypeId} {z : Value} (hT : VMapTy P t tk te z) (b c : Nat) (f : Int → Option Value) (hm : a.eval m = .map (some b)) (hM : VMap P tk w b f c) (k : Int) (hx : a.eval x = .int .i64 k) (hw : (Lit.int .i64 k).wf = true)
    (h : wpList P ops Q rest (a.put o.dst (.tuple #[(f k).getD z, .bool (f k).isSome])) w) : wpList P ops Q (o :: rest) a w := by
  obtain ⟨D, hD, _, hf⟩ := hM
  refine wpList_lookup_own_ok w hgd m x t ho tk te (Maps.int_keyed hT.hk) hT.ht anyElem (hT.hz w) (.held z) [] rfl b c D hm hD _ _ hx (Maps.keyOf_int_mk hT.hk hw) ?_
  intro v ps hv
  rw [(hf k hw).2] at hv
  have e : v = (f k).getD z := by
    cases hfk : f k with
    | none => rw [hfk] at hv; exact held_inv hv
    | some u => rw [hfk] at hv; exact held_inv hv
  rw [(hf k hw).1, e]
  exact h
theorem wpList_vput (hgd : o.guard = none) (m x v : Operand) (t : TypeId) (ho : o.op = Op.mapUpdate t m x v)
    {tk te : TypeId} {z : Value} (hT : VMapTy P t tk te z) (b c : Nat) (f : Int → Option Value) (hm : a.eval m = .map (some b)) (hM : VMap P tk w b f c) (hn : c < maxLen) (k : Int) (y : Value) (hx : a.eval x = .int .i64 k) (hv : a.eval v = y) (hw : (Lit.int .i64 k).wf = true)
    (h : ∀ w', VMap P tk w' b (updV f k y) (putC f k c) → w.grownBy w' (some b) → wpList P ops Q rest (a.put o.dst undef) w') : wpList P ops Q (o :: rest) a w := by
  obtain ⟨D, hD, hs, hf⟩ := hM
  have hI := hD.isMap
  have htd := hD.tidy (Maps.int_keyed hT.hk)
  have hkey := Maps.keyOf_int_mk hT.hk hw
  refine wpList_mapUpdate_own (H := Value) w hgd m x v t ho tk te (Maps.int_keyed hT.hk) hT.ht _ b c D hm hD hn _ _ _ hx hv hkey (.held y) [] rfl ?_
  intro w' h1 h2
  have hik : WideAt.IsKeyLit (Lit.int .i64 k) := by simp [WideAt.IsKeyLit]
  have hsz : Maps.size (D.put (.int .i64 k) (.held y)) = putC f k c := by
    unfold putC
    rw [Maps.size_put htd, (hf k hw).1, hs]
  refine h w' ⟨_, ?_, hsz, fun j hj => ?_⟩ h2
  · rw [← hsz]
    obtain ⟨es, clock, hb, F, hle, hDD⟩ := h1
    refine ⟨es, clock, hb, F, ?_, hDD⟩
    rw [hDD]; simp [Maps.size, length_sorted]
  · by_cases e : j = k
    · subst e
      refine ⟨by simp [Maps.has_put_same hI hik, updV], fun z => ?_⟩
      rw [Maps.atKey_put_same hI hik]; simp [updV]
    · have hne : (Lit.int .i64 j) ≠ (Lit.int .i64 k) := by simp [e]
      rw [Maps.has_put_other hne]
      refine ⟨by simpa [updV, e] using (hf j hj).1, fun z => ?_⟩
      rw [Maps.atKey_put_other hne, (hf j hj).2]; simp [updV, e]
theorem wpList_vlen (hgd : o.guard = none) (m : Operand) (t : TypeId) (ho : o.op = Op.call { callee := Callee.builtin Builtin.len, args := #[m], argTypes := #[t] })
    {tk te : TypeId} {z : Value} (hT : VMapTy P t tk te z) (b c : Nat) (f : Int → Option Value) (hm : a.eval m = .map (some b)) (hM : VMap P tk w b f c)
    (h : wpList P ops Q rest (a.put o.dst (.int .i64 c)) w) : wpList P ops Q (o :: rest) a w := by
  obtain ⟨D, hD, hs, hf⟩ := hM
  refine wpList_len_own w hgd m t ho tk te hT.ht anyElem b c D hm hD ?_
  rw [hs]; exact h
end

/-! a block known whole -/
def RowBlk {α : Type} (f : α → Value) (T : TypeId) (w : World) (b : Nat) (xs : List α) : Prop := w.heap[b]? = some (.cells (xs.map f).toArray T (0, 0))
section
variable {α : Type} {f : α → Value} {T : TypeId} {w w' : World} {b : Nat} {xs : List α}
theorem RowBlk.lt (h : RowBlk f T w b xs) : b < w.heap.size := block_lt h
theorem RowBlk.turn (h : RowBlk f T w b xs) (hk : w'.heap[b]? = w.heap[b]?) : RowBlk f T w' b xs := hk.trans h
theorem RowBlk.cell (h : RowBlk f T w b xs) {i : Nat} (hi : i < xs.length) : w.cell? ⟨b, i, none⟩ = some (f xs[i]) := by
  rw [cellm h]; simp [hi]
theorem RowBlk.frozen (h : RowBlk f T w b xs) (i : Nat) : w.frozen? ⟨b, i, none⟩ = false := frozenm h i
theorem RowBlk.set (h : RowBlk f T w b xs) (i : Nat) (x : α) : RowBlk f T (w.setCell ⟨b, i, none⟩ (f x)) b (xs.set i x) := by
  unfold RowBlk
  rw [setCell_block h]
  congr 2
  apply Array.ext'
  simp [List.map_set]
theorem RowBlk.row (h : RowBlk f T w b xs) : RowAt f w.heap.size w (some ⟨b, 0, none⟩) xs := fun i hi => ⟨b, 0, rfl, h.lt, by rw [Nat.zero_add]; exact h.cell hi⟩
theorem RowBlk.owns (h : RowBlk f T w b xs) {base : Nat} (hb : base ≤ b) (hm : xs.length ≤ maxLen) : w.ownsRow base T 1 (.slice (some ⟨b, 0, none⟩) xs.length xs.length) xs.length (xs.map f) :=
  ⟨by simp, .inr ⟨b, xs.length, _, rfl, hb, h, Nat.le_refl _, hm, by simp, by simp [List.take_of_length_le]⟩⟩
end
/-- 'make([]T, n)' has made its block -/
theorem made_row {α : Type} {f : α → Value} {T : TypeId} {w w' : World} {base n : Nat} {v : Value} {z : α} (h : w'.ownsRow base T 1 v n (madeCells #[f z] n).toList) (hb : v = .slice (some ⟨w.heap.size, 0, none⟩) n n) : RowBlk f T w' w.heap.size (List.replicate n z) := by
  subst hb
  obtain ⟨hl, ⟨e, _⟩ | ⟨g, cap, cur, e, hg, hb, hn, hc, hs, ht⟩⟩ := h
  · cases e
  · cases e
    unfold RowBlk
    rw [hb]
    congr 2
    apply Array.ext'
    have : cur.toList.take n = cur.toList := List.take_of_length_le (by simp; omega)
    simp only [Nat.mul_one] at ht
    rw [this] at ht
    rw [ht]
    apply List.ext_getElem
    · simp [madeCells]
    · intro i h1 h2
      simp [madeCells, Nat.mod_one]
theorem made_blk {α : Type} {f : α → Value} {T : TypeId} {w : World} {n : Nat} {z : α} {b : Nat} (hb : w.heap[b]? = some (.cells (madeCells #[f z] n) T (0, 0))) : RowBlk f T w b (List.replicate n z) := by
  unfold RowBlk
  rw [hb]
  congr 2
  apply Array.ext'
  apply List.ext_getElem
  · simp [madeCells]
  · intro i h1 h2
    simp [madeCells, Nat.mod_one]
theorem make_ints (n : Nat) (hn : n ≤ 1048576) : ∀ W : World, (Instr.makeSlice 26 (.int .i64 (n : Int)) (.int .i64 (n : Int))).run Try.prog W = .ok (.slice (some ⟨W.heap.size, 0, none⟩) n n) (W.alloc (.cells (madeCells #[.int .i64 0] n) 3)) :=
  fun W => run_make_row' 26 3 (.int .i64 0) 8 Try.underlying26 (by kernel_rfl) rfl .i64 .i64 n (by omega) (by omega) W
theorem make_bools (n : Nat) (hn : n ≤ 1048576) : ∀ W : World, (Instr.makeSlice 22 (.int .i64 (n : Int)) (.int .i64 (n : Int))).run Try.prog W = .ok (.slice (some ⟨W.heap.size, 0, none⟩) n n) (W.alloc (.cells (madeCells #[.bool false] n) 4)) :=
  fun W => run_make_row' 22 4 (.bool false) 1 Try.underlying22 (by kernel_rfl) rfl .i64 .i64 n (by omega) (by omega) W

theorem ownsRow_ints_of {w : World} {base : Nat} {e : TypeId} {A : Option Addr} {c : Nat} {xs : List Int} (h : w.ownsRow base e 1 (.slice A xs.length c) xs.length (ints xs)) : IntsAt w.heap.size w A xs := by
  obtain ⟨A', c', e, _, _, hx⟩ := ownsRow_ints h
  cases e; exact hx
/-- the box that a struct was put into when the call began is no row that the call owns -/
theorem box_ne {w : World} {base : Nat} {e : TypeId} {size : Nat} {v : Value} {n : Nat} {xs : List Value} (h : w.ownsRow base e size v n xs) {m : Nat} {cs : Array Value} {t : TypeId} (hm : w.heap[m]? = some (.cells cs t (0, 0))) (hne : t ≠ e) : v.ownBlock ≠ some m :=
  ownsRow_ne h hm (fun c e' => by cases e'; exact hne rfl)
/-- a number is stored in a row that is owned -/
theorem ownsRow_set {w : World} {base : Nat} {e : TypeId} {g cap n : Nat} {xs : List Value} (h : w.ownsRow base e 1 (.slice (some ⟨g, 0, none⟩) n cap) n xs) (i : Nat) (v : Value) (hi : i < n) : (w.setCell ⟨g, i, none⟩ v).ownsRow base e 1 (.slice (some ⟨g, 0, none⟩) n cap) n (xs.set i v) := by
  obtain ⟨h1, ⟨h2, _⟩ | ⟨g', cap', cur, h2, h3, h4, h5, h6, h7, h8⟩⟩ := h
  · cases h2
  · cases h2
    refine ⟨by simpa using h1, .inr ⟨g, cap, cur.setIfInBounds i v, rfl, h3, setCell_block h4 i v, h5, h6, by simpa using h7, ?_⟩⟩
    rw [Array.toList_setIfInBounds, List.take_set, h8]
end Go.Proofs.Ytpccgdkidnkppaa
