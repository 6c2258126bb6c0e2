import Derived.Test.YtagmdljdcnmpdaaReachP
import Derived.Test.YtagmdljdcnmpdaaLawAll
import Derived.Test.YtagmdljdcnmpdaaCircle
import Derived.Test.YtagmdljdcnmpdaaMay
set_option linter.unusedVariables false
set_option linter.unusedSimpArgs false
namespace Go.Proofs.Ytagmdljdcnmpdaa
open Go Go.RowKit

/-! the reference's passes, one after another -/
def passN (may : Int → List Int) (n : Nat) : Nat → (Int → Bool) → (Int → Bool)
  | 0, d => d
  | m + 1, d => passN may n m (passKs may (keysN n) d)
def safeB (may : Int → List Int) (n : Nat) : Bool := (keysN n).all (passN may n (n + 1) (fun _ => false))
section
variable {may : Int → List Int} {n : Nat}
theorem passKs_range : ∀ (ks : List Int) (d : Int → Bool), (∀ i, d i = true → 0 ≤ i ∧ i < n) → (∀ k ∈ ks, 0 ≤ k ∧ k < n) → ∀ i, passKs may ks d i = true → 0 ≤ i ∧ i < n := by
  intro ks
  induction ks with
  | nil => intro d h _ i hi; exact h i hi
  | cons k ks ih =>
    intro d h hk i hi
    refine ih _ (fun j hj => ?_) (fun k hk' => hk k (List.mem_cons_of_mem _ hk')) i hi
    by_cases e : j = k
    · rw [e]; exact hk k (List.mem_cons_self ..)
    · simp only [e, if_false] at hj; exact h j hj
theorem mem_keysN {n : Nat} {k : Int} : k ∈ keysN n ↔ 0 ≤ k ∧ k < n := by
  unfold keysN
  rw [List.mem_map]
  constructor
  · rintro ⟨q, hq, rfl⟩
    have := List.mem_range.1 hq
    omega
  · intro h
    obtain ⟨q, rfl⟩ := Int.eq_ofNat_of_zero_le h.1
    exact ⟨q, List.mem_range.2 (by omega), rfl⟩
theorem cntN_mono {X Y : Int → Bool} {n : Nat} (h : ∀ k, X k = true → Y k = true) : cntN X n ≤ cntN Y n := by
  unfold cntN
  induction n with
  | zero => simp
  | succ n ih =>
    rw [List.range_succ, List.filter_append, List.filter_append, List.length_append, List.length_append]
    have : ([n].filter fun q : Nat => X q).length ≤ ([n].filter fun q : Nat => Y q).length := by
      simp only [List.filter_cons, List.filter_nil]
      by_cases e : X n = true
      · simp [e, h _ e]
      · simp [e]
    omega
theorem cntN_full {X : Int → Bool} {n : Nat} (h : n ≤ cntN X n) : ∀ q : Nat, q < n → X q = true := by
  intro q hq
  cases e : X q with
  | true => rfl
  | false =>
    have h1 := cntN_set hq e
    have h2 := cntN_le (setX X q) n
    omega
/-- some key that is not done has all its keys done -/
theorem least_wf {d : Int → Bool} (hcl : ∀ k : Nat, k < n → ∀ j ∈ may k, 0 ≤ j ∧ j < n) : ∀ k, Wf may k → 0 ≤ k → k < n → d k = false → ∃ q : Nat, q < n ∧ d q = false ∧ ∀ j ∈ may q, d j = true := by
  intro k hk
  induction hk with
  | mk k _ ih =>
    intro h0 h1 hd
    obtain ⟨q, rfl⟩ := Int.eq_ofNat_of_zero_le h0
    by_cases hall : ∀ j ∈ may q, d j = true
    · exact ⟨q, by omega, hd, hall⟩
    · simp only [Classical.not_forall] at hall
      obtain ⟨j, hj, hn⟩ := hall
      obtain ⟨a, b⟩ := hcl q (by omega) j hj
      exact ih j hj a b (by simpa using hn)
theorem passN_count (hcl : ∀ k : Nat, k < n → ∀ j ∈ may k, 0 ≤ j ∧ j < n) (hw : ∀ k : Nat, k < n → Wf may k) : ∀ (m : Nat) (d : Int → Bool), (∀ i, d i = true → ∀ j ∈ may i, d j = true) → min n (cntN d n + m) ≤ cntN (passN may n m d) n := by
  intro m
  induction m with
  | zero => intro d _; rw [passN]; omega
  | succ m ih =>
    intro d hd
    obtain ⟨h1, h2⟩ := passKs_mono (keysN n) d hd
    have h3 := ih _ h2
    rw [passN]
    by_cases hall : ∀ q : Nat, q < n → d q = true
    · have h4 : n ≤ cntN (passKs may (keysN n) d) n := by
        have e := cntN_congr (X := passKs may (keysN n) d) (Y := fun _ => true) (n := n) (fun q hq => h1 q (hall q hq))
        rw [e]; unfold cntN; rw [List.filter_eq_self.2 (fun _ _ => rfl), List.length_range]; exact Nat.le_refl _
      omega
    · simp only [Classical.not_forall] at hall
      obtain ⟨k, hk, hne⟩ := hall
      obtain ⟨q, hq, hdq, hm⟩ := least_wf (d := d) hcl k (hw k hk) (by omega) (by omega) (by simpa using hne)
      have h4 := passKs_adds (keysN n) d hd q (mem_keysN.2 (by omega)) hm
      have h5 : cntN (setX d q) n ≤ cntN (passKs may (keysN n) d) n := cntN_mono fun j hj => by
        simp only [setX] at hj
        split at hj
        · rename_i e; rw [e]; exact h4
        · exact h1 j hj
      rw [cntN_set hq hdq] at h5
      omega
theorem passN_wf : ∀ (m : Nat) (d : Int → Bool), (∀ i, d i = true → Wf may i) → ∀ i, passN may n m d i = true → Wf may i := by
  intro m
  induction m with
  | zero => intro d h i hi; exact h i hi
  | succ m ih => intro d h i hi; exact ih _ (passKs_wf _ d h) i hi
theorem safeB_ok (hcl : ∀ k : Nat, k < n → ∀ j ∈ may k, 0 ≤ j ∧ j < n) : safeB may n = true ↔ ∀ k : Nat, k < n → Wf may k := by
  unfold safeB
  rw [List.all_eq_true]
  constructor
  · intro h k hk
    exact passN_wf (n + 1) _ (fun i hi => by cases hi) _ (h k (mem_keysN.2 (by omega)))
  · intro hw k hk
    have h1 := passN_count hcl hw (n + 1) (fun _ => false) (fun i hi => by cases hi)
    obtain ⟨a, b⟩ := mem_keysN.1 hk
    obtain ⟨q, rfl⟩ := Int.eq_ofNat_of_zero_le a
    exact cntN_full (n := n) (by omega) q (by omega)
end

/-! of sheets -/
def taskAt (tasks : List Task) (k : Int) : Task := tasks.getD k.toNat default
/-- the made keys that a key may fetch -/
def mayS (made : List Bool) (tasks : List Task) (k : Int) : List Int := mayMade made (taskAt tasks k)
theorem taskAt_get {tasks : List Task} {q : Nat} (h : q < tasks.length) : taskAt tasks q = tasks[q] := getD_at _ h
theorem mayS_made {made : List Bool} {tasks : List Task} {k : Int} : ∀ j ∈ mayS made tasks k, mkK made j = true ∧ 0 ≤ j ∧ j < made.length := by
  intro j hj
  have h := (List.mem_filter.1 hj).2
  exact ⟨h, mkK_range (by rw [h]; simp)⟩
/-- whether a sheet is safe -/
def safeP (made : List Bool) (tasks : List Task) : Bool := sheetOk made tasks && safeB (mayS made tasks) made.length
def implSafeP (made : List Bool) (tasks : List Task) : Bool := sheetOk made tasks && (topoP (mkK made) (mayS made tasks) made.length (cntN (mkK made) made.length) []).2
theorem sheetOkL_at : ∀ {made : List Bool} {tasks : List Task}, sheetOkL made tasks = true → made.length = tasks.length → ∀ (q : Nat) (h : q < tasks.length) (h' : q < made.length), okT tasks[q] = true ∧ (made[q] = false → tasks[q].kind = 0 ∧ tasks[q].n = 0) := by
  intro made
  induction made with
  | nil => intro tasks _ hl q h h'; simp at h'
  | cons m ms ih =>
    intro tasks h hl q hq hq'
    cases tasks with
    | nil => simp at hq
    | cons t ts =>
      rw [sheetOkL_cons, Bool.and_eq_true, Bool.and_eq_true] at h
      obtain ⟨⟨h1, h2⟩, h3⟩ := h
      cases q with
      | zero =>
        refine ⟨h1, fun hm => ?_⟩
        simp only [List.getElem_cons_zero] at hm ⊢
        rw [hm] at h2
        simpa using h2
      | succ q => exact ih h3 (by simpa using hl) q (by simpa using hq) (by simpa using hq')
theorem zero_may {t : Task} (hok : okT t = true) (hk : t.kind = 0) (i : Int) : mayTask t i = false := by
  obtain ⟨k, rfl, hk2⟩ := okT_tk hok
  cases k <;> simp [Tk.enc, Task.kind] at hk <;> simp [Tk.enc, mayTask, mayTaskL]
theorem mem_mayFrom_inv (t : Task) : ∀ (m : Nat), m ≤ 10 → ∀ x ∈ mayFrom t m, mayTask t x = true := by
  intro m
  induction m with
  | zero => intro _ x hx; cases hx
  | succ m ih =>
    intro hm x hx
    rw [mayFrom, List.mem_append] at hx
    rcases hx with hx | hx
    · split at hx
      · rename_i h; rw [List.mem_singleton.1 hx]; exact h
      · cases hx
    · exact ih (by omega) x hx
theorem mem_mayList {t : Task} {x : Int} : x ∈ mayList t ↔ okT t = true ∧ 0 ≤ x ∧ x ≤ 9 ∧ mayTask t x = true := by
  constructor
  · intro h
    have hr := mayList_range t x h
    unfold mayList at h
    split at h
    · rename_i hok; exact ⟨hok, hr.1, hr.2, mem_mayFrom_inv t 10 (by omega) x h⟩
    · cases h
  · rintro ⟨h1, h2, h3, h4⟩
    obtain ⟨q, rfl⟩ := Int.eq_ofNat_of_zero_le h2
    unfold mayList
    rw [if_pos h1]
    exact mem_mayFrom t 10 q (by omega) (by omega) (by omega) h4
theorem mayS_unmade {made : List Bool} {tasks : List Task} (hok : sheetOk made tasks = true) {q : Nat} (hq : q < made.length) (hm : mkK made q = false) : mayS made tasks q = [] := by
  simp only [sheetOk, Bool.and_eq_true, decide_eq_true_eq] at hok
  obtain ⟨⟨h1, h2⟩, h3⟩ := hok
  have hqt : q < tasks.length := by omega
  obtain ⟨a, b⟩ := sheetOkL_at h3 h1 q hqt hq
  have hmq : made[q] = false := by
    unfold mkK at hm
    rw [if_neg (by omega), Int.toNat_natCast, getD_at _ hq] at hm
    exact hm
  unfold mayS
  rw [taskAt_get hqt]
  apply List.eq_nil_iff_forall_not_mem.2
  intro x hx
  have := (mem_mayList.1 (List.mem_filter.1 hx).1).2.2.2
  rw [zero_may a (b hmq).1] at this
  cases this
/-- safe: no key leads to a circle -/
theorem safeP_iff {made : List Bool} {tasks : List Task} (hok : sheetOk made tasks = true) : safeP made tasks = true ↔ ∀ k : Nat, k < made.length → Wf (mayS made tasks) k := by
  unfold safeP
  rw [hok, Bool.true_and]
  exact safeB_ok fun k _ j hj => (mayS_made j hj).2
theorem safe_same (made : List Bool) (tasks : List Task) : implSafeP made tasks = safeP made tasks := by
  cases hok : sheetOk made tasks with
  | false => simp [implSafeP, safeP, hok]
  | true =>
    rw [Bool.eq_iff_iff, safeP_iff hok]
    unfold implSafeP
    rw [hok, Bool.true_and, topoP_ok (fun k _ _ j hj => ⟨(mayS_made j hj).1, (mayS_made j hj).2⟩)]
    refine ⟨fun h k hk => ?_, fun h k hk _ => h k hk⟩
    cases hm : mkK made k with
    | true => exact h k hk hm
    | false => exact .mk _ fun j hj => by rw [mayS_unmade hok hk hm] at hj; cases hj
/-- what is safe never fails -/
theorem safe_all {S : Sh} (hS : S.Ok) (h : safeP S.made (S.tks.map Tk.enc) = true) (k : Int) : (specKeyP S k).2 = true := by
  cases e : (specKeyP S k).2 with
  | true => rfl
  | false =>
    exfalso
    obtain ⟨hne, hc⟩ := spec_cyc _ _ _ _ (uok0 S) (chain0 S k) e
    have hw := (safeP_iff hS.sheet).1 h
    generalize (specP S S.made.length [] [] k).2 = l at hne hc
    have hl : 0 < l.length := by cases l with | nil => exact (hne rfl).elim | cons a l => simp
    refine wf_no_cycle (may := mayS S.made (S.tks.map Tk.enc)) hne (fun i hi => ?_) l[0] ?_ (List.getElem_mem _)
    · obtain ⟨h1, h2⟩ := hc i hi
      have h3 := (hc ((i + 1) % l.length) (Nat.mod_lt _ hl)).1
      have hr := mkK_range (show mkK S.made l[i] ≠ false by rw [h1]; simp)
      have hr2 := mkK_range (show mkK S.made (l[(i + 1) % l.length]'(Nat.mod_lt _ hl)) ≠ false by rw [h3]; simp)
      obtain ⟨q, hq⟩ := Int.eq_ofNat_of_zero_le hr.1
      have hqt : q < S.tks.length := by have := hS.len; omega
      unfold mayS mayMade
      rw [List.mem_filter]
      refine ⟨mem_mayList.2 ?_, h3⟩
      rw [hq] at h2 ⊢
      rw [taskAt_get (by simpa using hqt), List.getElem_map]
      rw [tk_at hqt] at h2
      have := hS.ten
      exact ⟨hS.okT hqt, by omega, by omega, h2⟩
    · have h1 := (hc 0 hl).1
      have hr := mkK_range (show mkK S.made l[0] ≠ false by rw [h1]; simp)
      obtain ⟨q, hq⟩ := Int.eq_ofNat_of_zero_le hr.1
      rw [hq]
      exact hw q (by omega)
theorem specAllL_ok {S : Sh} : ∀ (ks out : List Int), (∀ k ∈ ks, (specKeyP S k).2 = true) → (specAllL S ks out).2 = true := by
  intro ks
  induction ks with
  | nil => intro out _; rfl
  | cons k ks ih =>
    intro out h
    rw [specAllL, if_pos (h k (List.mem_cons_self ..))]
    exact ih _ (fun j hj => h j (List.mem_cons_of_mem _ hj))
theorem safe_build {S : Sh} (hS : S.Ok) (h : safeP S.made (S.tks.map Tk.enc) = true) : (buildAllP S).2 = true := by
  rw [all_same hS]
  exact specAllL_ok _ _ fun k _ => safe_all hS h k
end Go.Proofs.Ytagmdljdcnmpdaa
