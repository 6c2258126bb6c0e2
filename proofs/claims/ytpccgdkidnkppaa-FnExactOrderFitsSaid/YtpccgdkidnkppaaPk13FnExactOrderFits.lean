import Derived.Test.YtpccgdkidnkppaaPk1FnExactOrderFits
import Derived.Test.YtpccgdkidnkppaaPk7FnExactOrderFits
import Derived.Test.YtpccgdkidnkppaaPk8FnExactOrderFits
import Derived.Test.YtpccgdkidnkppaaPk10FnExactOrderFits
import Derived.Test.YtpccgdkidnkppaaPk11FnExactOrderFits
import Derived.Test.YtpccgdkidnkppaaPk12FnExactOrderFits
set_option linter.unusedVariables false
set_option linter.unusedSimpArgs false
namespace Go.Proofs.Ytpccgdkidnkppaa
open Go Go.RowKit

theorem ret_sheet1 {fn : Func} {t u : Nat} {tmps : Array Value} {Q : Ending → World → Prop} {W : World} {m : Nat} {a b x : Value} (hr : fn.results = #[.cell t 31, .tmp u])
    (ht : tmps.getD t undef = .pointer (some ⟨m, 0, none⟩)) (hu : tmps.getD u undef = x) (hW : W.heap[m]? = some (.cells #[a, b] 31 (0, 0))) (K : Q (.returned (.tuple #[.agg #[a, b], x])) W) : bodyPost Try.prog fn Q .ret ⟨tmps, []⟩ W := by
  have y0 : W.cell? ⟨m, 0, none⟩ = some a := cellm hW 0
  have y1 : W.cell? ⟨m, 1, none⟩ = some b := cellm hW 1
  refine bodyPost_ret (v := .tuple #[.agg #[a, b], x]) ?_ rfl K
  have ht' : tmps[t]?.getD undef = .pointer (some ⟨m, 0, none⟩) := by simpa using ht
  have hu' : tmps[u]?.getD undef = x := by simpa using hu
  simp [results, hr, ht', hu', go_sem, y0, y1]

/-- what a draw of a sheet and inputs brings -/
def DrawAllP (w : World) (e : Ending) (w' : World) : Prop :=
  ∃ Am cm At ct made tasks Ai ci inputs, e = .returned (.tuple #[.agg #[.slice Am made.length cm, .slice At tasks.length ct], .slice Ai inputs.length ci]) ∧ ArgsAt w' Am cm At ct made tasks Ai ci inputs ∧ Below w.heap.size w w'
theorem ShIn.all {g B lo lo2 : Nat} {G : Rows} {made : List Bool} {ts : List (Value × Value × Value)} {vm vt vi : Value} {xs : List Int} {w w2 : World} (h : ShIn g B lo lo2 G made ts vm vt vi xs w2) (h1 : made.length = ts.length) (h2 : made.length ≤ 8) (h3 : xs.length ≤ 9) (hb : Below w.heap.size w w2) :
    DrawAllP w (.returned (.tuple #[.agg #[vm, vt], vi])) w2 := by
  obtain ⟨Am', cm', At', ct', tasks, Ai', ci', rfl, rfl, rfl, ha⟩ := h.args h1 h2 h3
  exact ⟨Am', cm', At', ct', made, tasks, Ai', ci', xs, rfl, ha, hb⟩

end Go.Proofs.Ytpccgdkidnkppaa

set_option linter.unusedVariables false
set_option linter.unusedSimpArgs false
namespace Go.Proofs.Ytpccgdkidnkppaa
open Go Go.RowKit

theorem specAllL_false {S : Sh} : ∀ (ks out all : List Int), specAllL S ks out = (all, false) → all = [] := by
  intro ks
  induction ks with
  | nil => intro out all h; cases h
  | cons k ks ih =>
    intro out all h
    rw [specAllL] at h
    by_cases hk : (specKeyP S k).2 = true
    · rw [if_pos hk] at h; exact ih _ _ h
    · rw [if_neg hk] at h; cases h; rfl

end Go.Proofs.Ytpccgdkidnkppaa

set_option linter.unusedVariables false
set_option linter.unusedSimpArgs false
namespace Go.Proofs.Ytpccgdkidnkppaa
open Go Go.RowKit

/-! the reference's passes, one after another -/
def passN (may : Int → List Int) (n : Nat) : Nat → (Int → Bool) → (Int → Bool)
  | 0, d => d
  | m + 1, d => passN may n m (passKs may (keysN n) d)
def safeB (may : Int → List Int) (n : Nat) : Bool := (keysN n).all (passN may n (n + 1) (fun _ => false))
section
variable {may : Int → List Int} {n : Nat}
theorem passKs_range : ∀ (ks : List Int) (d : Int → Bool), (∀ i, d i = true → 0 ≤ i ∧ i < n) → (∀ k ∈ ks, 0 ≤ k ∧ k < n) → ∀ i, passKs may ks d i = true → 0 ≤ i ∧ i < n := by
  intro ks
  induction ks with
  | nil => intro d h _ i hi; exact h i hi
  | cons k ks ih =>
    intro d h hk i hi
    refine ih _ (fun j hj => ?_) (fun k hk' => hk k (List.mem_cons_of_mem _ hk')) i hi
    by_cases e : j = k
    · rw [e]; exact hk k (List.mem_cons_self ..)
    · simp only [e, if_false] at hj; exact h j hj
theorem mem_keysN {n : Nat} {k : Int} : k ∈ keysN n ↔ 0 ≤ k ∧ k < n := by
  unfold keysN
  rw [List.mem_map]
  constructor
  · rintro ⟨q, hq, rfl⟩
    have := List.mem_range.1 hq
    omega
  · intro h
    obtain ⟨q, rfl⟩ := Int.eq_ofNat_of_zero_le h.1
    exact ⟨q, List.mem_range.2 (by omega), rfl⟩
theorem cntN_mono {X Y : Int → Bool} {n : Nat} (h : ∀ k, X k = true → Y k = true) : cntN X n ≤ cntN Y n := by
  unfold cntN
  induction n with
  | zero => simp
  | succ n ih =>
    rw [List.range_succ, List.filter_append, List.filter_append, List.length_append, List.length_append]
    have : ([n].filter fun q : Nat => X q).length ≤ ([n].filter fun q : Nat => Y q).length := by
      simp only [List.filter_cons, List.filter_nil]
      by_cases e : X n = true
      · simp [e, h _ e]
      · simp [e]
    omega
theorem cntN_full {X : Int → Bool} {n : Nat} (h : n ≤ cntN X n) : ∀ q : Nat, q < n → X q = true := by
  intro q hq
  cases e : X q with
  | true => rfl
  | false =>
    have h1 := cntN_set hq e
    have h2 := cntN_le (setX X q) n
    omega
/-- some key that is not done has all its keys done -/
theorem least_wf {d : Int → Bool} (hcl : ∀ k : Nat, k < n → ∀ j ∈ may k, 0 ≤ j ∧ j < n) : ∀ k, Wf may k → 0 ≤ k → k < n → d k = false → ∃ q : Nat, q < n ∧ d q = false ∧ ∀ j ∈ may q, d j = true := by
  intro k hk
  induction hk with
  | mk k _ ih =>
    intro h0 h1 hd
    obtain ⟨q, rfl⟩ := Int.eq_ofNat_of_zero_le h0
    by_cases hall : ∀ j ∈ may q, d j = true
    · exact ⟨q, by omega, hd, hall⟩
    · simp only [Classical.not_forall] at hall
      obtain ⟨j, hj, hn⟩ := hall
      obtain ⟨a, b⟩ := hcl q (by omega) j hj
      exact ih j hj a b (by simpa using hn)
theorem passN_count (hcl : ∀ k : Nat, k < n → ∀ j ∈ may k, 0 ≤ j ∧ j < n) (hw : ∀ k : Nat, k < n → Wf may k) : ∀ (m : Nat) (d : Int → Bool), (∀ i, d i = true → ∀ j ∈ may i, d j = true) → min n (cntN d n + m) ≤ cntN (passN may n m d) n := by
  intro m
  induction m with
  | zero => intro d _; rw [passN]; omega
  | succ m ih =>
    intro d hd
    obtain ⟨h1, h2⟩ := passKs_mono (keysN n) d hd
    have h3 := ih _ h2
    rw [passN]
    by_cases hall : ∀ q : Nat, q < n → d q = true
    · have h4 : n ≤ cntN (passKs may (keysN n) d) n := by
        have e := cntN_congr (X := passKs may (keysN n) d) (Y := fun _ => true) (n := n) (fun q hq => h1 q (hall q hq))
        rw [e]; unfold cntN; rw [List.filter_eq_self.2 (fun _ _ => rfl), List.length_range]; exact Nat.le_refl _
      omega
    · simp only [Classical.not_forall] at hall
      obtain ⟨k, hk, hne⟩ := hall
      obtain ⟨q, hq, hdq, hm⟩ := least_wf (d := d) hcl k (hw k hk) (by omega) (by omega) (by simpa using hne)
      have h4 := passKs_adds (keysN n) d hd q (mem_keysN.2 (by omega)) hm
      have h5 : cntN (setX d q) n ≤ cntN (passKs may (keysN n) d) n := cntN_mono fun j hj => by
        simp only [setX] at hj
        split at hj
        · rename_i e; rw [e]; exact h4
        · exact h1 j hj
      rw [cntN_set hq hdq] at h5
      omega
theorem passN_wf : ∀ (m : Nat) (d : Int → Bool), (∀ i, d i = true → Wf may i) → ∀ i, passN may n m d i = true → Wf may i := by
  intro m
  induction m with
  | zero => intro d h i hi; exact h i hi
  | succ m ih => intro d h i hi; exact ih _ (passKs_wf _ d h) i hi
theorem safeB_ok (hcl : ∀ k : Nat, k < n → ∀ j ∈ may k, 0 ≤ j ∧ j < n) : safeB may n = true ↔ ∀ k : Nat, k < n → Wf may k := by
  unfold safeB
  rw [List.all_eq_true]
  constructor
  · intro h k hk
    exact passN_wf (n + 1) _ (fun i hi => by cases hi) _ (h k (mem_keysN.2 (by omega)))
  · intro hw k hk
    have h1 := passN_count hcl hw (n + 1) (fun _ => false) (fun i hi => by cases hi)
    obtain ⟨a, b⟩ := mem_keysN.1 hk
    obtain ⟨q, rfl⟩ := Int.eq_ofNat_of_zero_le a
    exact cntN_full (n := n) (by omega) q (by omega)
end

/-! of sheets -/
def taskAt (tasks : List Task) (k : Int) : Task := tasks.getD k.toNat default
/-- the made keys that a key may fetch -/
def mayS (made : List Bool) (tasks : List Task) (k : Int) : List Int := mayMade made (taskAt tasks k)
theorem taskAt_get {tasks : List Task} {q : Nat} (h : q < tasks.length) : taskAt tasks q = tasks[q] := getD_at _ h
theorem mayS_made {made : List Bool} {tasks : List Task} {k : Int} : ∀ j ∈ mayS made tasks k, mkK made j = true ∧ 0 ≤ j ∧ j < made.length := by
  intro j hj
  have h := (List.mem_filter.1 hj).2
  exact ⟨h, mkK_range (by rw [h]; simp)⟩
/-- whether a sheet is safe -/
def safeP (made : List Bool) (tasks : List Task) : Bool := sheetOk made tasks && safeB (mayS made tasks) made.length
def implSafeP (made : List Bool) (tasks : List Task) : Bool := sheetOk made tasks && (topoP (mkK made) (mayS made tasks) made.length (cntN (mkK made) made.length) []).2
theorem sheetOkL_at : ∀ {made : List Bool} {tasks : List Task}, sheetOkL made tasks = true → made.length = tasks.length → ∀ (q : Nat) (h : q < tasks.length) (h' : q < made.length), okT tasks[q] = true ∧ (made[q] = false → tasks[q].kind = 0 ∧ tasks[q].n = 0) := by
  intro made
  induction made with
  | nil => intro tasks _ hl q h h'; simp at h'
  | cons m ms ih =>
    intro tasks h hl q hq hq'
    cases tasks with
    | nil => simp at hq
    | cons t ts =>
      rw [sheetOkL_cons, Bool.and_eq_true, Bool.and_eq_true] at h
      obtain ⟨⟨h1, h2⟩, h3⟩ := h
      cases q with
      | zero =>
        refine ⟨h1, fun hm => ?_⟩
        simp only [List.getElem_cons_zero] at hm ⊢
        rw [hm] at h2
        simpa using h2
      | succ q => exact ih h3 (by simpa using hl) q (by simpa using hq) (by simpa using hq')
theorem zero_may {t : Task} (hok : okT t = true) (hk : t.kind = 0) (i : Int) : mayTask t i = false := by
  obtain ⟨k, rfl, hk2⟩ := okT_tk hok
  cases k <;> simp [Tk.enc, Task.kind] at hk <;> simp [Tk.enc, mayTask, mayTaskL]
theorem mem_mayFrom_inv (t : Task) : ∀ (m : Nat), m ≤ 10 → ∀ x ∈ mayFrom t m, mayTask t x = true := by
  intro m
  induction m with
  | zero => intro _ x hx; cases hx
  | succ m ih =>
    intro hm x hx
    rw [mayFrom, List.mem_append] at hx
    rcases hx with hx | hx
    · split at hx
      · rename_i h; rw [List.mem_singleton.1 hx]; exact h
      · cases hx
    · exact ih (by omega) x hx
theorem mem_mayList {t : Task} {x : Int} : x ∈ mayList t ↔ okT t = true ∧ 0 ≤ x ∧ x ≤ 9 ∧ mayTask t x = true := by
  constructor
  · intro h
    have hr := mayList_range t x h
    unfold mayList at h
    split at h
    · rename_i hok; exact ⟨hok, hr.1, hr.2, mem_mayFrom_inv t 10 (by omega) x h⟩
    · cases h
  · rintro ⟨h1, h2, h3, h4⟩
    obtain ⟨q, rfl⟩ := Int.eq_ofNat_of_zero_le h2
    unfold mayList
    rw [if_pos h1]
    exact mem_mayFrom t 10 q (by omega) (by omega) (by omega) h4
theorem mayS_unmade {made : List Bool} {tasks : List Task} (hok : sheetOk made tasks = true) {q : Nat} (hq : q < made.length) (hm : mkK made q = false) : mayS made tasks q = [] := by
  simp only [sheetOk, Bool.and_eq_true, decide_eq_true_eq] at hok
  obtain ⟨⟨h1, h2⟩, h3⟩ := hok
  have hqt : q < tasks.length := by omega
  obtain ⟨a, b⟩ := sheetOkL_at h3 h1 q hqt hq
  have hmq : made[q] = false := by
    unfold mkK at hm
    rw [if_neg (by omega), Int.toNat_natCast, getD_at _ hq] at hm
    exact hm
  unfold mayS
  rw [taskAt_get hqt]
  apply List.eq_nil_iff_forall_not_mem.2
  intro x hx
  have := (mem_mayList.1 (List.mem_filter.1 hx).1).2.2.2
  rw [zero_may a (b hmq).1] at this
  cases this
/-- safe: no key leads to a circle -/
theorem safeP_iff {made : List Bool} {tasks : List Task} (hok : sheetOk made tasks = true) : safeP made tasks = true ↔ ∀ k : Nat, k < made.length → Wf (mayS made tasks) k := by
  unfold safeP
  rw [hok, Bool.true_and]
  exact safeB_ok fun k _ j hj => (mayS_made j hj).2
theorem safe_same (made : List Bool) (tasks : List Task) : implSafeP made tasks = safeP made tasks := by
  cases hok : sheetOk made tasks with
  | false => simp [implSafeP, safeP, hok]
  | true =>
    rw [Bool.eq_iff_iff, safeP_iff hok]
    unfold implSafeP
    rw [hok, Bool.true_and, topoP_ok (fun k _ _ j hj => ⟨(mayS_made j hj).1, (mayS_made j hj).2⟩)]
    refine ⟨fun h k hk => ?_, fun h k hk _ => h k hk⟩
    cases hm : mkK made k with
    | true => exact h k hk hm
    | false => exact .mk _ fun j hj => by rw [mayS_unmade hok hk hm] at hj; cases hj
/-- what is safe never fails -/
theorem safe_all {S : Sh} (hS : S.Ok) (h : safeP S.made (S.tks.map Tk.enc) = true) (k : Int) : (specKeyP S k).2 = true := by
  cases e : (specKeyP S k).2 with
  | true => rfl
  | false =>
    exfalso
    obtain ⟨hne, hc⟩ := spec_cyc _ _ _ _ (uok0 S) (chain0 S k) e
    have hw := (safeP_iff hS.sheet).1 h
    generalize (specP S S.made.length [] [] k).2 = l at hne hc
    have hl : 0 < l.length := by cases l with | nil => exact (hne rfl).elim | cons a l => simp
    refine wf_no_cycle (may := mayS S.made (S.tks.map Tk.enc)) hne (fun i hi => ?_) l[0] ?_ (List.getElem_mem _)
    · obtain ⟨h1, h2⟩ := hc i hi
      have h3 := (hc ((i + 1) % l.length) (Nat.mod_lt _ hl)).1
      have hr := mkK_range (show mkK S.made l[i] ≠ false by rw [h1]; simp)
      have hr2 := mkK_range (show mkK S.made (l[(i + 1) % l.length]'(Nat.mod_lt _ hl)) ≠ false by rw [h3]; simp)
      obtain ⟨q, hq⟩ := Int.eq_ofNat_of_zero_le hr.1
      have hqt : q < S.tks.length := by have := hS.len; omega
      unfold mayS mayMade
      rw [List.mem_filter]
      refine ⟨mem_mayList.2 ?_, h3⟩
      rw [hq] at h2 ⊢
      rw [taskAt_get (by simpa using hqt), List.getElem_map]
      rw [tk_at hqt] at h2
      have := hS.ten
      exact ⟨hS.okT hqt, by omega, by omega, h2⟩
    · have h1 := (hc 0 hl).1
      have hr := mkK_range (show mkK S.made l[0] ≠ false by rw [h1]; simp)
      obtain ⟨q, hq⟩ := Int.eq_ofNat_of_zero_le hr.1
      rw [hq]
      exact hw q (by omega)
theorem specAllL_ok {S : Sh} : ∀ (ks out : List Int), (∀ k ∈ ks, (specKeyP S k).2 = true) → (specAllL S ks out).2 = true := by
  intro ks
  induction ks with
  | nil => intro out _; rfl
  | cons k ks ih =>
    intro out h
    rw [specAllL, if_pos (h k (List.mem_cons_self ..))]
    exact ih _ (fun j hj => h j (List.mem_cons_of_mem _ hj))
theorem safe_build {S : Sh} (hS : S.Ok) (h : safeP S.made (S.tks.map Tk.enc) = true) : (buildAllP S).2 = true := by
  rw [all_same hS]
  exact specAllL_ok _ _ fun k _ => safe_all hS h k
end Go.Proofs.Ytpccgdkidnkppaa

set_option linter.unusedVariables false
set_option linter.unusedSimpArgs false
namespace Go.Proofs.Ytpccgdkidnkppaa
open Go Go.RowKit

theorem contains_calls (A : Option Addr) (c : Nat) (v : Int) (xs : List Int) (B : Nat) (w0 w : World) (hb : Below B w0 w) (hB : B ≤ w.heap.size) (hm : xs.length ≤ maxLen) (hx : IntsAt B w0 A xs) :
    Calls Try.prog 62 #[.slice A xs.length c, .int .i64 v] w fun e w' => e = .returned (.bool (xs.contains v)) ∧ w = w' := by
  have h := index_calls A c v xs B w0 w hb hB hm hx
  have hr := idx_any (fun x => v == x) xs
  rw [← List.contains_eq_any_beq] at hr
  generalize idx (fun x => v == x) xs = n at *
  replace h := Lib.hid h
  replace hr := Lib.hid hr
  clear hx hb
  go_enter Try.func62, Try.ntmps62
  go_wp2_with fail
  refine h.out.mono ?_
  rintro e w1 ⟨rfl, rfl⟩
  go_wp2_with fail
  go_ret
  exact ⟨by rw [← hr.out]; rfl, rfl⟩

set_option maxHeartbeats 2000000 in
theorem keys_calls (A A2 : Option Addr) (n c n2 c2 : Nat) (w : World) (hn : n ≤ 1000000) :
    Calls Try.prog 118 #[.agg #[.slice A n c, .slice A2 n2 c2]] w fun e w' => ∃ v, e = .returned v ∧ w'.ownsRow w.heap.size 3 1 v (keysN n).length (ints (keysN n)) ∧ Below w.heap.size w w' := by
  go_enter Try.func118, Try.ntmps118
  go_wp2_with fail
  go_loopw [3, 4, 8] (fun o _ i wr => ∃ (j : Nat), j ≤ n ∧ i = .int .i64 j ∧ Hid (wr.ownsRow w.heap.size 3 1 o j (ints ((keysN n).take j))) ∧ Hid (Below w.heap.size w wr)) (fun _ _ i _ => n - (intOf i).toNat)
  case atStart => exact ⟨0, Nat.zero_le _, rfl, Lib.hid (World.ownsRow_nil _ _ _ _), Lib.hid (below_al (Below.refl _ _) _)⟩
  case round =>
    obtain ⟨j, hj, rfl, hown, hw⟩ := hrel
    have hsz := hw.out.size
    by_cases hlt : j < n
    · go_wp2_with (at_builtin; go_loud (with_reducible refine wpList_app1 (by rfl) (.tmp 11) (.tmp 13) 26 (by rfl) intTy w.heap.size u3 j (ints ((keysN n).take j)) (by with_unfolding_all rfl) (hown.out.alloc _) wr.heap.size 1 [.int .i64 j] (by with_unfolding_all rfl) (by with_unfolding_all rfl) ⟨_, _, heap_alloc_new wr _, rfl⟩ (one_int _ _) ?_ ?_ ?_ ?_))
      · unfold maxLen; omega
      · omega
      · first | omega | (simp; omega)
      intro g cap w7 hown7 hgrow7 hat7
      have hw7 := (below_al' hw.out (.cells #[.int .i64 j] 3 (0, 0)) hsz).grown hgrow7 (by simp; omega) (fun i hi => (hown.out.lt i hi).1)
      have hown7' : w7.ownsRow w.heap.size 3 1 (.slice (some ⟨g, 0, none⟩) (j + 1) cap) (j + 1) (ints ((keysN n).take (j + 1))) := by
        rw [List.take_succ_eq_append_getElem (by simpa [keysN] using hlt), keysN_get, ints_append]
        simpa [ints] using hown7
      replace hw7 := Lib.hid hw7
      replace hown7' := Lib.hid hown7'
      clear hown7 hgrow7 hat7 hown hw
      go_wp2_with fail
      go_roundw
      case rel => exact ⟨j + 1, by omega, by go_num, hown7', hw7⟩
      case measure => simp [intOf]; omega
    · have e : j = n := by omega
      subst e
      go_wp2_with fail
      go_ret
      refine ⟨_, rfl, ?_, hw.out⟩
      have := hown.out
      rw [List.take_of_length_le (by simp [keysN])] at this
      rw [keysN_length]; exact this

set_option maxHeartbeats 4000000 in
theorem sheetMay_calls (Am At : Option Addr) (cm ct : Nat) (made : List Bool) (tasks : List Task) (B : Nat) (w0 w : World) (hb : Below B w0 w) (hB : B ≤ w.heap.size) (hs : SheetAt B w0 Am cm At ct made tasks) (q : Nat) (hq : q < tasks.length) :
    Calls Try.prog 75 #[.agg #[.slice Am made.length cm, .slice At tasks.length ct], .int .i64 q] w fun e w' => ∃ v, e = .returned v ∧ w'.ownsRow w.heap.size 3 1 v (mayMade made tasks[q]).length (ints (mayMade made tasks[q])) ∧ Below w.heap.size w w' := by
  obtain ⟨bt, ot, At', ct', et, hbt, ht0, ht1, ht2, htc, htm, htp⟩ := hs.tasks.at hb q hq
  subst et
  have hbt4 : bt < w.heap.size := by omega
  have hqm : q ≤ 9223372036854775807 := by have := hs.lt; have := hs.mt; unfold maxLen at *; omega
  have hql : tasks.length ≤ 9223372036854775807 := by have := hs.lt; have := hs.mt; unfold maxLen at *; omega
  have hcall := fun w1 (hw : Below w.heap.size w w1) => taskMay_calls tasks[q] At' ct' B w0 w1 (below_up' hb hB hw) (Nat.le_trans hB hw.size) htc htm htp
  have hmk := fun w1 (hw : Below w.heap.size w w1) k => makes_calls Am (some ⟨bt, ot, none⟩) cm tasks.length ct k made B w0 w1 (below_up' hb hB hw) (Nat.le_trans hB hw.size) (Nat.le_trans hs.lm hs.mm) hs.made
  have hdef : mayMade made tasks[q] = (mayList tasks[q]).filter fun k => mkK made k := rfl
  have hL10 := mayList_len tasks[q]
  generalize mayMade made tasks[q] = M at *
  generalize mayList tasks[q] = L at *
  replace hcall := Lib.hid hcall
  replace hmk := Lib.hid hmk
  replace hdef := Lib.hid hdef
  replace hb := Lib.hid hb
  clear htp hs htc
  go_enter Try.func75, Try.ntmps75
  go_wp2_with fail
  refine (hcall.out _ (below_al (Below.refl _ _) _)).mono ?_
  rintro e w1 ⟨v, rfl, hownL, h1⟩
  obtain ⟨AL, cL, rfl, hl1, hl2, hl3⟩ := ownsRow_ints hownL
  have x0 : w1.cell? ⟨w.heap.size, 0, none⟩ = some (.slice Am made.length cm) := (h1.cell (p := ⟨w.heap.size, 0, none⟩) (by simp)).trans (by simp)
  have x1 : w1.cell? ⟨w.heap.size, 1, none⟩ = some (.slice (some ⟨bt, ot, none⟩) tasks.length ct) := (h1.cell (p := ⟨w.heap.size, 1, none⟩) (by simp)).trans (by simp)
  have b1 : Below w.heap.size w w1 := below_from h1
  have s1 : w.heap.size < w1.heap.size := by have := h1.size; simp at this; omega
  have hfarL : ∀ i, (Value.slice AL L.length cL).ownBlock = some i → w.heap.size + 1 ≤ i := fun i hi => by have := (hownL.lt i hi).1; simpa using this
  replace hl3 := Lib.hid hl3
  replace b1 := Lib.hid b1
  replace hfarL := Lib.hid hfarL
  clear h1 hownL hcall ht0 ht1 ht2
  unfold maxLen at hl2
  go_wp2_with fail
  go_loopw [5, 7, 15] (fun o _ i wr => ∃ (j : Nat) (out : List Int), j ≤ L.length ∧ i = .int .i64 j ∧ out.length ≤ j ∧ w.heap.size < wr.heap.size ∧ wr.cell? ⟨w.heap.size, 0, none⟩ = some (.slice Am made.length cm) ∧ wr.cell? ⟨w.heap.size, 1, none⟩ = some (.slice (some ⟨bt, ot, none⟩) tasks.length ct) ∧ Hid (out ++ (L.drop j).filter (fun k => mkK made k) = M) ∧ Hid (wr.ownsRow w.heap.size 3 1 o out.length (ints out)) ∧ Hid (Below w.heap.size w wr) ∧ Hid (IntsAt wr.heap.size wr AL L) ∧ Hid (∀ b oo, AL = some ⟨b, oo, none⟩ → o.ownBlock ≠ some b) ∧ Hid (o.ownBlock ≠ some w.heap.size)) (fun _ _ i _ => L.length - (intOf i).toNat)
  case atStart => exact ⟨0, [], Nat.zero_le _, rfl, by simp, s1, x0, x1, Lib.hid (by rw [hdef.out]; rfl), Lib.hid (World.ownsRow_nil _ _ _ _), b1, hl3, Lib.hid (fun b oo e => by simp [Value.ownBlock]), Lib.hid (by simp [Value.ownBlock])⟩
  case round =>
    obtain ⟨j, out, hj, rfl, hol, hz, hbox, hbox1, he, hown, hw, hL, hfar, hne⟩ := hrel
    have hsz := hw.out.size
    by_cases hlt : j < L.length
    · obtain ⟨bL, oL, eL, hbL, y⟩ := hL.out j hlt
      have he2 := he.out
      rw [List.drop_eq_getElem_cons hlt, List.filter_cons] at he2
      have hfb := hfar.out bL oL eL
      subst eL
      obtain ⟨k, hk⟩ : ∃ k, L[j] = k := ⟨_, rfl⟩
      rw [hk] at y he2
      have hm := hmk.out wr hw.out k
      obtain ⟨mb, hmb⟩ : ∃ mb, mkK made k = mb := ⟨_, rfl⟩
      rw [hmb] at hm he2
      replace hm := Lib.hid hm
      replace hmb := Lib.hid hmb
      replace hk := Lib.hid hk
      replace hfb := Lib.hid hfb
      replace he2 := Lib.hid he2
      clear he
      go_wp2_with fail
      refine hm.out.mono ?_
      rintro e w3 ⟨rfl, h3⟩
      have hbox3 := kept_cell h3 hz hbox
      have hbox13 := kept_cell h3 hz hbox1
      have hw3 := below_up hw.out h3
      have hz3 : w.heap.size < w3.heap.size := by have := h3.size; omega
      have hbL3 : bL < w3.heap.size := by have := h3.size; omega
      have hsz3 : w.heap.size ≤ w3.heap.size := by omega
      have hL3 : IntsAt w3.heap.size w3 (some ⟨bL, oL, none⟩) L := hL.out.up h3 h3.size
      have hown3 := ownsRow_block hown.out (fun i hi => h3.block i (hown.out.lt i hi).2)
      replace hw3 := Lib.hid hw3
      replace hL3 := Lib.hid hL3
      replace hown3 := Lib.hid hown3
      clear h3 hbox hbox1 hw hL hown hm y
      cases mb with
      | false =>
        have he3 : out ++ (L.drop (j + 1)).filter (fun k => mkK made k) = M := by have := he2.out; simpa using this
        replace he3 := Lib.hid he3
        go_wp2_with fail
        go_roundw
        case rel => exact ⟨j + 1, out, by omega, by go_num, by omega, hz3, hbox3, hbox13, he3, hown3, hw3, hL3, hfar, hne⟩
        case measure => simp [intOf]; omega
      | true =>
        have he3 : (out ++ [k]) ++ (L.drop (j + 1)).filter (fun k => mkK made k) = M := by have := he2.out; simpa using this
        replace he3 := Lib.hid he3
        go_wp2_with (at_builtin; go_loud (with_reducible refine wpList_app1 (by rfl) (.tmp 22) (.tmp 24) 26 (by rfl) intTy w.heap.size u5 out.length (ints out) (by with_unfolding_all rfl) (hown3.out.alloc _) w3.heap.size 1 [.int .i64 k] (by with_unfolding_all rfl) (by with_unfolding_all rfl) ?_ (one_int _ _) ?_ ?_ ?_ ?_))
        · exact ⟨_, _, heap_alloc_new w3 _, rfl⟩
        · unfold maxLen; omega
        · omega
        · first | omega | (simp; omega)
        intro g cap w7 hown7 hgrow7 hat7
        have hw7 := (below_al' hw3.out (.cells #[.int .i64 k] 3 (0, 0)) hsz3).grown hgrow7 (by simp; omega) (fun i hi => (hown3.out.lt i hi).1)
        have hown7' : w7.ownsRow w.heap.size 3 1 (.slice (some ⟨g, 0, none⟩) (out.length + 1) cap) (out ++ [k]).length (ints (out ++ [k])) := by simpa [ints_append, ints] using hown7
        have hk0 : w7.heap[w.heap.size]? = w3.heap[w.heap.size]? := far_grown hgrow7 hz3 hne.out
        have hkL : w7.heap[bL]? = w3.heap[bL]? := far_grown hgrow7 hbL3 hfb.out
        have hbox7 := (World.cell?_of_block (w := w3) (a := ⟨w.heap.size, 0, none⟩) hk0).trans hbox3
        have hbox17 := (World.cell?_of_block (w := w3) (a := ⟨w.heap.size, 1, none⟩) hk0).trans hbox13
        have hz7 : w3.heap.size < w7.heap.size := by have := hgrow7.size; simp at this; omega
        have hL7 : IntsAt w7.heap.size w7 (some ⟨bL, oL, none⟩) L := fun i hi => by
          obtain ⟨b', o', e', hb', c'⟩ := hL3.out i hi
          cases e'
          exact ⟨_, _, rfl, by omega, (World.cell?_of_block (w := w3) hkL).trans c'⟩
        have hg7 : ∀ b : Nat, u5.ownBlock ≠ some b → b < w3.heap.size → (Value.slice (some ⟨g, 0, none⟩) (out.length + 1) cap).ownBlock ≠ some b := fun b h1 h2 e => by
          cases e
          rcases hat7 with e | e
          · exact h1 e
          · first | omega | (dsimp only at h2; omega) | (simp at e; dsimp only at h2; omega)
        have hfar7 : ∀ b oo, (some ⟨bL, oL, none⟩ : Option Addr) = some ⟨b, oo, none⟩ → (Value.slice (some ⟨g, 0, none⟩) (out.length + 1) cap).ownBlock ≠ some b := fun b oo e => by cases e; exact hg7 _ hfb.out hbL3
        have hne7 := hg7 _ hne.out hz3
        have hz8 : w.heap.size < w7.heap.size := by omega
        replace hw7 := Lib.hid hw7
        replace hown7' := Lib.hid hown7'
        replace hL7 := Lib.hid hL7
        replace hfar7 := Lib.hid hfar7
        replace hne7 := Lib.hid hne7
        clear hown7 hgrow7 hat7 hk0 hkL hg7 hown3 hL3 hfar hne hw3
        go_wp2_with fail
        go_roundw
        case rel => exact ⟨j + 1, out ++ [k], by omega, by go_num, by simp; omega, hz8, hbox7, hbox17, he3, hown7', hw7, hL7, hfar7, hne7⟩
        case measure => simp [intOf]; omega
    · have he2 : out = M := by
        have := he.out
        rw [List.drop_eq_nil_of_le (by omega)] at this
        simpa using this
      replace he2 := Lib.hid he2
      clear he
      go_wp2_with fail
      go_ret
      rw [← he2.out]
      exact ⟨_, rfl, hown.out, hw.out⟩

/-- the variable that a row is kept in, and the row -/
structure RowVar (base ob : Nat) (v : Value) (l : List Int) (w : World) : Prop where
  blk : w.heap[ob]? = some (.cells #[v] 26 (0, 0))
  own : w.ownsRow base 3 1 v l.length (ints l)
  le : base ≤ ob
theorem RowVar.ne {base ob : Nat} {v : Value} {l : List Int} {w : World} (h : RowVar base ob v l w) : v.ownBlock ≠ some ob := ownsRow_ne h.own h.blk (fun c e => by cases e)
theorem RowVar.kept {base ob : Nat} {v : Value} {l : List Int} {w w' : World} (h : RowVar base ob v l w) (h1 : w'.heap[ob]? = w.heap[ob]?) (h2 : ∀ i, v.ownBlock = some i → w'.heap[i]? = w.heap[i]?) : RowVar base ob v l w' := ⟨h1.trans h.blk, ownsRow_block h.own h2, h.le⟩
theorem RowVar.up {base ob : Nat} {v : Value} {l : List Int} {w w' : World} (h : RowVar base ob v l w) (hb : Below w.heap.size w w') : RowVar base ob v l w' := h.kept (hb.block _ (block_lt h.blk)) (fun i hi => hb.block i (h.own.lt i hi).2)
theorem RowVar.alloc {base ob : Nat} {v : Value} {l : List Int} {w : World} (h : RowVar base ob v l w) (o : Obj) : RowVar base ob v l (w.alloc o) := h.up (below_al (Below.refl _ _) o)
/-- a row that has grown is stored -/
theorem RowVar.set {base ob : Nat} {v v' : Value} {l l' : List Int} {w w' : World} (h : RowVar base ob v l w) (hg : w.grownBy w' v.ownBlock) (ho : w'.ownsRow base 3 1 v' l'.length (ints l')) : RowVar base ob v' l' (w'.setCell ⟨ob, 0, none⟩ v') := by
  have hblk := (hg.block _ (block_lt h.blk) (fun e => h.ne e.symm)).trans h.blk
  have hvm : v'.ownBlock ≠ some ob := ownsRow_ne ho hblk (fun c e => by cases e)
  exact ⟨(setCell_block hblk 0 v').trans rfl, ownsRow_block ho (fun i hi => setCell_far (own_far hi hvm)), h.le⟩

theorem topo1_calls (j : Int) (base ob : Nat) (v : Value) (l : List Int) (w : World) (h : RowVar base ob v l w) :
    Calls Try.prog 121 #[.int .i64 j, .pointer (some ⟨ob, 0, none⟩)] w fun e w' => e = .returned (.bool (!l.contains j)) ∧ w = w' := by
  obtain ⟨A, c, rfl, hl1, hl2, hl3⟩ := ownsRow_ints h.own
  have x0 : w.cell? ⟨ob, 0, none⟩ = some (.slice A l.length c) := (cellm h.blk 0).trans rfl
  have hc := contains_calls A c j l w.heap.size w w (Below.refl _ _) (Nat.le_refl _) (Nat.le_trans hl1 hl2) hl3
  generalize l.contains j = d at *
  replace hc := Lib.hid hc
  replace h := Lib.hid h
  clear hl3
  go_enter Try.func121, Try.ntmps121
  go_wp2_with fail
  refine hc.out.mono ?_
  rintro e w1 ⟨rfl, rfl⟩
  go_wp2_with fail
  go_ret
  exact ⟨rfl, rfl⟩
end Go.Proofs.Ytpccgdkidnkppaa

set_option linter.unusedVariables false
set_option linter.unusedSimpArgs false
namespace Go.Proofs.Ytpccgdkidnkppaa
open Go Go.RowKit

theorem all_filter {p c : Int → Bool} : ∀ (l : List Int), l.all (fun j => !p j || c j) = (l.filter p).all c := by
  intro l
  induction l with
  | nil => rfl
  | cons x l ih =>
    rw [List.all_cons, ih]
    cases h : p x with
    | true => rw [List.filter_cons_of_pos h, List.all_cons]; rfl
    | false => rw [List.filter_cons_of_neg (by rw [h]; simp)]; rfl
/-- the made keys that a key fetches -/
def usesM (S : Sh) (vals : List Int) (k : Int) : List Int := (usesP (S.tk k) vals).filter (mkK S.made)
theorem fitAt_uses (S : Sh) (vals order : List Int) (i : Nat) (k : Int) : fitAt S vals order i k = (mkK S.made k && !(order.take i).contains k && (usesM S vals k).all fun j => (order.take i).contains j) := by
  unfold fitAt usesM
  rw [all_filter]
theorem valsOk_of {xs : List Int} (h1 : xs.length ≤ 10) (h2 : ∀ x ∈ xs, 0 ≤ x ∧ x ≤ 96) : valsOk xs = true := by
  unfold valsOk
  rw [vals_iff.2 h2]
  simp [h1]

set_option maxHeartbeats 2000000 in
theorem uses_calls (E : MkEnv) (S : Sh) (hE : E.Good S) (q : Nat) (hq : q < S.made.length) (hmq : mkK S.made q = true) (Av : Option Addr) (cv : Nat) (vals : List Int) (w : World) (hb : Below E.B E.w0 w) (hB : E.B ≤ w.heap.size) (hv : IntsAt w.heap.size w Av vals) (hvl : vals.length ≤ 10) (hvr : ∀ x ∈ vals, 0 ≤ x ∧ x ≤ 96) :
    Calls Try.prog 63 #[.agg #[.slice E.Am S.made.length E.cm, .slice E.At S.tks.length E.ct], .int .i64 q, .slice Av vals.length cv] w fun e w' =>
      ∃ v, e = .returned v ∧ w'.ownsRow w.heap.size 3 1 v (usesM S vals q).length (ints (usesM S vals q)) ∧ Below w.heap.size w w' := by
  have hql : q < S.tks.length := by have := hE.ok.len; omega
  have hten := hE.ok.ten
  have hok := hE.ok.tks S.tks[q] (List.getElem_mem _)
  have hokT := hE.ok.okT hql
  obtain ⟨bt, ot, At', ct', et, hbt, ht0, ht1, ht2, htc, htm, htp⟩ := hE.sheet.tasks.at hb q (by simpa using hql)
  simp only [List.getElem_map] at ht0 ht1 ht2 htc htp
  have hbt3 := Nat.lt_of_lt_of_le hbt hB
  have hc1 := fun w1 (hw : Below w.heap.size w w1) => taskUses_good S.tks[q] At' ct' vals Av cv w.heap.size w w1 hw hw.size hok hokT htc htm (PartsIs.up hb hB _ _ _ htp) (by unfold maxLen; omega) hv (valsOk_of hvl hvr)
  have hc2 := fun k w1 (hw : Below w.heap.size w w1) => makes_calls E.Am E.At E.cm S.tks.length E.ct k S.made E.B E.w0 w1 (below_up' hb hB hw) (Nat.le_trans hB hw.size) (Nat.le_trans hE.sheet.lm hE.sheet.mm) hE.sheet.made
  simp only [et] at hc2
  have hul := usesP_length S.tks[q] vals
  have hfs := fets_small hokT
  have hum : usesM S vals q = (usesP S.tks[q] vals).filter (mkK S.made) := by unfold usesM; rw [tk_at hql]
  rw [hum]
  generalize usesP S.tks[q] vals = U at *
  obtain ⟨R, hR⟩ : ∃ R, U.filter (mkK S.made) = R := ⟨_, rfl⟩
  rw [hR]
  have hUl : U.length ≤ 100 := by omega
  replace hc1 := Lib.hid hc1
  replace hc2 := Lib.hid hc2
  replace hR := Lib.hid hR
  replace hb := Lib.hid hb
  clear hok hokT htc htm htp hul hfs hum hv hE hmq
  go_enter Try.func63, Try.ntmps63
  go_wp2_with fail
  refine (hc1.out _ (below_al (Below.refl _ _) _)).mono ?_
  rintro e w1 ⟨v1, rfl, hown1, h1⟩
  have x0 : w1.cell? ⟨w.heap.size, 0, none⟩ = some (.slice E.Am S.made.length E.cm) := (h1.cell (p := ⟨w.heap.size, 0, none⟩) (by simp)).trans (by simp)
  have x1 : w1.cell? ⟨w.heap.size, 1, none⟩ = some (.slice (some ⟨bt, ot, none⟩) S.tks.length E.ct) := (h1.cell (p := ⟨w.heap.size, 1, none⟩) (by simp)).trans (by simp)
  have b1 := below_from h1
  have s1 : w.heap.size < w1.heap.size := by have := h1.size; simp at this; omega
  obtain ⟨A1, c1, rfl, hr1, hr2, hi1⟩ := ownsRow_ints hown1
  unfold maxLen at hr2
  replace b1 := Lib.hid b1
  replace hi1 := Lib.hid hi1
  replace x0 := Lib.hid x0
  replace x1 := Lib.hid x1
  clear h1 hown1 hc1 ht0 ht1 ht2
  go_wp2_with fail
  go_loopw [9, 11, 24] (fun o _ i wr => ∃ (j : Nat) (out : List Int), j ≤ U.length ∧ i = .int .i64 j ∧ out.length ≤ j ∧ Hid (out = (U.take j).filter (mkK S.made)) ∧ Hid (wr.ownsRow w1.heap.size 3 1 o out.length (ints out)) ∧ Hid (Below w1.heap.size w1 wr)) (fun _ _ i _ => U.length - (intOf i).toNat)
  case atStart => exact ⟨0, [], Nat.zero_le _, rfl, Nat.le_refl _, Lib.hid rfl, Lib.hid (World.ownsRow_nil _ _ _ _), Lib.hid (Below.refl _ _)⟩
  case round =>
    obtain ⟨j, out, hj, rfl, hol, hout, hown, hw⟩ := hrel
    by_cases hlt : j < U.length
    · obtain ⟨b, o, rfl, hbb, y⟩ := hi1.out.at hw.out hw.out.size j hlt
      have htk : (U.take (j + 1)).filter (mkK S.made) = out ++ (if mkK S.made U[j] then [U[j]] else []) := by
        rw [List.take_succ_eq_append_getElem hlt, List.filter_append, ← hout.out]
        cases h : mkK S.made U[j] <;> simp [h]
      generalize U[j] = k at *
      have y0 := (hw.out.cell (p := ⟨w.heap.size, 0, none⟩) s1).trans x0.out
      have y1 := (hw.out.cell (p := ⟨w.heap.size, 1, none⟩) s1).trans x1.out
      have hcall := hc2.out k wr (b1.out.trans (hw.out.mono b1.out.size))
      have hz : w.heap.size < wr.heap.size := by have := hw.out.size; omega
      cases hmk : mkK S.made k with
      | false =>
        rw [hmk] at hcall htk
        simp only [Bool.false_eq_true, if_false, List.append_nil] at htk
        replace htk := Lib.hid htk
        replace hcall := Lib.hid hcall
        replace hmk := Lib.hid hmk
        go_wp2_with fail
        refine hcall.out.mono ?_
        rintro e w5 ⟨rfl, h5⟩
        have hown5 := ownsRow_block hown.out (fun i hi => h5.block i (hown.out.lt i hi).2)
        have hw5 := below_up hw.out h5
        replace hown5 := Lib.hid hown5
        replace hw5 := Lib.hid hw5
        clear h5 y y0 y1 hown hcall
        go_wp2_with fail
        go_roundw
        case rel => exact ⟨j + 1, out, by omega, by go_num, by omega, Lib.hid htk.out.symm, hown5, hw5⟩
        case measure => simp [intOf]; omega
      | true =>
        rw [hmk] at hcall htk
        simp only [if_true] at htk
        replace htk := Lib.hid htk
        replace hcall := Lib.hid hcall
        replace hmk := Lib.hid hmk
        go_wp2_with fail
        refine hcall.out.mono ?_
        rintro e w5 ⟨rfl, h5⟩
        have hown5 := ownsRow_block hown.out (fun i hi => h5.block i (hown.out.lt i hi).2)
        have hw5 := below_up hw.out h5
        have hwz := hw5.size
        replace hown5 := Lib.hid hown5
        replace hw5 := Lib.hid hw5
        clear h5 y y0 y1 hown hcall
        go_wp2_with (at_builtin; go_loud (with_reducible refine wpList_app1 (by rfl) (.tmp 31) (.tmp 33) 26 (by rfl) intTy w1.heap.size u9 out.length (ints out) (by with_unfolding_all rfl) (hown5.out.alloc _) w5.heap.size 1 [.int .i64 k] (by with_unfolding_all rfl) (by with_unfolding_all rfl) ⟨_, _, heap_alloc_new w5 _, rfl⟩ (one_int _ _) ?_ ?_ ?_ ?_))
        · unfold maxLen; omega
        · omega
        · simp; omega
        intro g7 cap w7 hown7 hgrow7 hat7
        have hw7 : Below w1.heap.size w1 w7 := (hw5.out.alloc hwz _).grown hgrow7 (by simp; omega) (fun i hi => (hown5.out.lt i hi).1)
        have hown7' : w7.ownsRow w1.heap.size 3 1 (.slice (some ⟨g7, 0, none⟩) (out.length + 1) cap) (out ++ [k]).length (ints (out ++ [k])) := by
          rw [ints_append, List.length_append, List.length_singleton]; exact hown7
        replace hw7 := Lib.hid hw7
        replace hown7' := Lib.hid hown7'
        clear hown7 hgrow7 hat7
        go_wp2_with fail
        go_roundw
        case rel => exact ⟨j + 1, out ++ [k], by omega, by go_num, by simp; omega, Lib.hid htk.out.symm, hown7', hw7⟩
        case measure => simp [intOf]; omega
    · have hje : j = U.length := by omega
      subst hje
      have ho := hout.out
      rw [List.take_length, hR.out] at ho
      have hfin := own_low hown.out b1.out.size
      rw [ho] at hfin
      have hw2 := b1.out.trans (hw.out.mono b1.out.size)
      replace hfin := Lib.hid hfin
      replace hw2 := Lib.hid hw2
      replace ho := Lib.hid ho
      clear hown hout
      go_wp2_with fail
      go_ret
      exact ⟨_, rfl, hfin.out, hw2.out⟩

/-- whether an order fits -/
def orderFitsP (S : Sh) (order : List Int) : Bool := (buildAllP S).2 && fitsP S (buildAllP S).1 order
theorem take_at {A : Option Addr} {B : Nat} {w : World} {xs : List Int} (h : IntsAt B w A xs) (j : Nat) : IntsAt B w A (xs.take j) := fun i hi => by
  rw [List.length_take] at hi
  have := h i (by omega)
  rw [List.getElem_take]
  exact this

set_option maxHeartbeats 4000000 in
theorem orderFits_good (E : MkEnv) (S : Sh) (hE : E.Good S) (Ak : Option Addr) (ck : Nat) (order : List Int) (w : World) (hb : Below E.B E.w0 w) (hB : E.B ≤ w.heap.size) (hx : IntsAt E.B E.w0 Ak order) (hl : order.length ≤ ck) (hm : ck ≤ maxLen) :
    Calls Try.prog 16 #[.agg #[.slice E.Am S.made.length E.cm, .slice E.At S.tks.length E.ct], .slice E.Ai S.inputs.length E.ci, .slice Ak order.length ck] w fun e w' =>
      e = .returned (.bool (orderFitsP S order)) ∧ Below w.heap.size w w' := by
  have hten := hE.ok.ten
  have hc1 := fun w1 (hw : Below w.heap.size w w1) => buildAll_good E S hE w1 (below_up' hb hB hw) (Nat.le_trans hB hw.size)
  have hc2 := fun k w1 (hw : Below w.heap.size w w1) => makes_calls E.Am E.At E.cm S.tks.length E.ct k S.made E.B E.w0 w1 (below_up' hb hB hw) (Nat.le_trans hB hw.size) (Nat.le_trans hE.sheet.lm hE.sheet.mm) hE.sheet.made
  have hml := Nat.le_trans hl hm
  have hc3 := fun (j : Nat) (hj : j < order.length) (k : Int) w1 (hw : Below w.heap.size w w1) => by
    have h := contains_calls Ak ck k (order.take j) E.B E.w0 w1 (below_up' hb hB hw) (Nat.le_trans hB hw.size) (by rw [List.length_take]; omega) (take_at hx j)
    rw [show (order.take j).length = j by rw [List.length_take]; omega] at h
    exact h
  have hall := fun all (h : buildAllP S = (all, true)) => all_law hE.ok h
  have hc4 := fun (vals : List Int) (hvl : vals.length ≤ 10) (hvr : ∀ x ∈ vals, 0 ≤ x ∧ x ≤ 96) (q : Nat) (hq : q < S.made.length) (hmq : mkK S.made q = true) (Av : Option Addr) (cv : Nat) (w1 : World) (hw : Below w.heap.size w w1) (hv : IntsAt w1.heap.size w1 Av vals) =>
    uses_calls E S hE q hq hmq Av cv vals w1 (below_up' hb hB hw) (Nat.le_trans hB hw.size) hv hvl hvr
  unfold orderFitsP
  obtain ⟨P, hP⟩ : ∃ P, buildAllP S = P := ⟨_, rfl⟩
  rw [hP] at hc1 hall ⊢
  obtain ⟨vals, ok⟩ := P
  dsimp only at hc1 hall ⊢
  unfold maxLen at hm hml
  replace hc1 := Lib.hid hc1
  replace hc2 := Lib.hid hc2
  replace hc3 := Lib.hid hc3
  replace hc4 := Lib.hid hc4
  replace hb := Lib.hid hb
  replace hE := Lib.hid hE
  replace hx := Lib.hid hx
  go_enter Try.func16, Try.ntmps16
  go_wp2_with fail
  refine (hc1.out _ (below_al (Below.refl _ _) _)).mono ?_
  rintro e w1 ⟨v1, rfl, hown1, h1⟩
  dsimp only at hown1
  have x0 : w1.cell? ⟨w.heap.size, 0, none⟩ = some (.slice E.Am S.made.length E.cm) := (h1.cell (p := ⟨w.heap.size, 0, none⟩) (by simp)).trans (by simp)
  have x1 : w1.cell? ⟨w.heap.size, 1, none⟩ = some (.slice E.At S.tks.length E.ct) := (h1.cell (p := ⟨w.heap.size, 1, none⟩) (by simp)).trans (by simp)
  have b1 := below_from h1
  have s1 : w.heap.size < w1.heap.size := by have := h1.size; simp at this; omega
  obtain ⟨Av, cv, rfl, -, -, hi1⟩ := ownsRow_ints hown1
  replace b1 := Lib.hid b1
  replace hi1 := Lib.hid hi1
  replace x0 := Lib.hid x0
  replace x1 := Lib.hid x1
  clear h1 hown1 hc1
  cases ok with
  | false =>
    go_wp2_with fail
    go_ret
    exact ⟨rfl, b1.out⟩
  | true =>
    obtain ⟨hvl, hvr, -, -⟩ := hall vals rfl
    have hc4' := hc4.out vals (by omega) hvr
    replace hc4' := Lib.hid hc4'
    replace hP := Lib.hid hP
    replace hvr := Lib.hid hvr
    replace hvl := Lib.hid hvl
    clear hall hc4
    go_wp2_with fail
    go_loopw [9, 10, 12, 23, 44] (fun _ _ _ i _ wr => ∃ (j : Nat), j ≤ order.length ∧ i = .int .i64 j ∧ Hid (Below w1.heap.size w1 wr) ∧ Hid (fitsP S vals order = fitsL S vals order j)) (fun _ _ _ i _ _ => order.length - (intOf i).toNat)
    case atStart => exact ⟨0, Nat.zero_le _, rfl, Lib.hid (Below.refl _ _), Lib.hid rfl⟩
    case round =>
      obtain ⟨j, hj, rfl, hw, he⟩ := hrel
      by_cases hlt : j < order.length
      · have he2 := he.out
        rw [fitsL_step hlt, fitAt_uses] at he2
        obtain ⟨b, o, rfl, hbb, y⟩ := hx.out.at (below_up' hb.out hB (b1.out.trans (hw.out.mono b1.out.size))) (Nat.le_trans hB (Nat.le_trans b1.out.size hw.out.size)) j hlt
        have hc3' := hc3.out j hlt
        generalize order[j] = k at *
        have y0 := (hw.out.cell (p := ⟨w.heap.size, 0, none⟩) s1).trans x0.out
        have y1 := (hw.out.cell (p := ⟨w.heap.size, 1, none⟩) s1).trans x1.out
        have hcall := hc2.out k wr (b1.out.trans (hw.out.mono b1.out.size))
        have hz : w.heap.size < wr.heap.size := by have := hw.out.size; omega
        have hjc : j ≤ ck := by omega
        replace hc3' := Lib.hid hc3'
        cases hmk : mkK S.made k with
        | false =>
          rw [hmk] at hcall he2
          simp only [Bool.false_and] at he2
          replace he2 := Lib.hid he2
          replace hcall := Lib.hid hcall
          replace hmk := Lib.hid hmk
          go_wp2_with fail
          refine hcall.out.mono ?_
          rintro e w5 ⟨rfl, h5⟩
          have hw5 := below_up hw.out h5
          replace hw5 := Lib.hid hw5
          clear h5 y y0 y1 hcall
          go_wp2_with fail
          go_ret
          exact ⟨by rw [he2.out]; rfl, b1.out.trans (hw5.out.mono b1.out.size)⟩
        | true =>
          rw [hmk] at hcall he2
          simp only [Bool.true_and] at he2
          have hkr := mkK_range (show mkK S.made k ≠ false by rw [hmk]; simp)
          obtain ⟨q, rfl⟩ := Int.eq_ofNat_of_zero_le hkr.1
          have hq : q < S.made.length := by omega
          replace hcall := Lib.hid hcall
          replace hmk := Lib.hid hmk
          clear hkr
          go_wp2_with fail
          refine hcall.out.mono ?_
          rintro e w5 ⟨rfl, h5⟩
          have hw5 := below_up hw.out h5
          have z0 := (hw5.cell (p := ⟨w.heap.size, 0, none⟩) s1).trans x0.out
          have z1 := (hw5.cell (p := ⟨w.heap.size, 1, none⟩) s1).trans x1.out
          have hz5 : w.heap.size < w5.heap.size := by have := hw5.size; omega
          have hcont := hc3'.out q w5 (b1.out.trans (hw5.mono b1.out.size))
          have hus := hc4'.out q hq hmk.out Av cv w5 (b1.out.trans (hw5.mono b1.out.size)) (hi1.out.up hw5 hw5.size)
          generalize usesM S vals q = V at *
          have hin := fun (x : Int) (w9 : World) (h9 : Below w1.heap.size w1 w9) => hc3'.out x w9 (b1.out.trans (h9.mono b1.out.size))
          generalize hT : order.take j = T at *
          replace hw5 := Lib.hid hw5
          replace hcont := Lib.hid hcont
          replace hus := Lib.hid hus
          replace hin := Lib.hid hin
          replace hT := Lib.hid hT
          clear h5 y y0 y1 hcall hw hz hc3'
          cases hcn : T.contains (q : Int) with
          | true =>
            rw [hcn] at hcont he2
            simp only [Bool.not_true, Bool.false_and] at he2
            replace he2 := Lib.hid he2
            replace hcont := Lib.hid hcont.out
            replace hcn := Lib.hid hcn
            go_wp2_with fail
            refine hcont.out.mono ?_
            rintro e w6 ⟨rfl, rfl⟩
            go_wp2_with fail
            go_ret
            exact ⟨by rw [he2.out]; rfl, b1.out.trans (hw5.out.mono b1.out.size)⟩
          | false =>
            rw [hcn] at hcont he2
            simp only [Bool.not_false, Bool.true_and] at he2
            replace he2 := Lib.hid he2
            replace hcont := Lib.hid hcont.out
            replace hcn := Lib.hid hcn
            go_wp2_with fail
            refine hcont.out.mono ?_
            rintro e w6 ⟨rfl, rfl⟩
            go_wp2_with fail
            refine hus.out.mono ?_
            rintro e w7 ⟨v7, rfl, hown7, h7⟩
            have hw7 := below_up hw5.out h7
            obtain ⟨Au, cu, rfl, hu1, hu2, hi7⟩ := ownsRow_ints hown7
            unfold maxLen at hu2
            replace hw7 := Lib.hid hw7
            replace hi7 := Lib.hid hi7
            clear h7 hown7 z0 z1 hcont hus hz5 hw5
            go_wp2_with fail
            go_loopw [12, 44] (fun _ i wr => ∃ (a : Nat), a ≤ V.length ∧ i = .int .i64 a ∧ wr = w7 ∧ Hid (V.all (fun x => T.contains x) = (V.drop a).all fun x => T.contains x)) (fun _ i _ => V.length - (intOf i).toNat)
            case atStart => exact ⟨0, Nat.zero_le _, rfl, rfl, Lib.hid rfl⟩
            case round =>
              obtain ⟨a, ha, rfl, rfl, hV⟩ := hrel
              by_cases hla : a < V.length
              · have hV2 := hV.out
                rw [List.drop_eq_getElem_cons hla, List.all_cons] at hV2
                obtain ⟨b2, o2, rfl, hb2, y2⟩ := hi7.out.at (Below.refl _ _) (Nat.le_refl _) a hla
                have hcall := hin.out V[a] wr hw7.out
                generalize V[a] = x at *
                cases hcx : T.contains x with
                | true =>
                  rw [hcx] at hcall hV2
                  simp only [Bool.true_and] at hV2
                  replace hV2 := Lib.hid hV2
                  replace hcall := Lib.hid hcall
                  replace hcx := Lib.hid hcx
                  go_wp2_with fail
                  refine hcall.out.mono ?_
                  rintro e w8 ⟨rfl, rfl⟩
                  go_wp2_with fail
                  go_roundw
                  case rel => exact ⟨a + 1, by omega, by go_num, by first | rfl | trivial, hV2⟩
                  case measure => simp [intOf]; omega
                | false =>
                  rw [hcx] at hcall hV2
                  simp only [Bool.false_and] at hV2
                  have he3 := he2.out
                  rw [hV2, Bool.false_and] at he3
                  replace he3 := Lib.hid he3
                  replace hV2 := Lib.hid hV2
                  replace hcall := Lib.hid hcall
                  replace hcx := Lib.hid hcx
                  go_wp2_with fail
                  refine hcall.out.mono ?_
                  rintro e w8 ⟨rfl, rfl⟩
                  go_wp2_with fail
                  go_ret
                  exact ⟨by rw [he3.out]; rfl, b1.out.trans (hw7.out.mono b1.out.size)⟩
              · have hV2 := hV.out
                rw [List.drop_eq_nil_of_le (by omega)] at hV2
                have he3 := he2.out
                rw [hV2] at he3
                simp only [List.all_nil, Bool.true_and] at he3
                replace he3 := Lib.hid he3
                replace hV2 := Lib.hid hV2
                go_wp2_with fail
                go_roundw
                case rel => exact ⟨j + 1, by omega, by go_num, hw7, he3⟩
                case measure => simp [intOf]; omega
      · have he2 := he.out
        rw [fitsL_end hlt] at he2
        replace he2 := Lib.hid he2
        go_wp2_with fail
        go_ret
        exact ⟨by rw [he2.out]; rfl, b1.out.trans (hw.out.mono b1.out.size)⟩
end Go.Proofs.Ytpccgdkidnkppaa

set_option linter.unusedVariables false
set_option linter.unusedSimpArgs false
namespace Go.Proofs.Ytpccgdkidnkppaa
open Go Go.RowKit

/-! an object in a block of its own, and what it owns: rows, maps, in blocks apart -/
structure Part where
  F : Nat → Prop
  P : World → Prop
structure Part.Ok (B : Nat) (p : Part) (w : World) : Prop where
  hold : p.P w
  bnd : ∀ i, p.F i → B ≤ i ∧ i < w.heap.size
  stab : ∀ w1 w2 : World, (∀ i, p.F i → w2.heap[i]? = w1.heap[i]?) → p.P w1 → p.P w2
def Foot (m : Nat) (ps : List Part) (i : Nat) : Prop := i = m ∨ ∃ p ∈ ps, p.F i
structure ObjAt (B : Nat) (w0 : World) (m : Nat) (T : TypeId) (cs : Array Value) (ps : List Part) (w : World) : Prop where
  blk : w.heap[m]? = some (.cells cs T (0, 0))
  ok : ∀ p ∈ ps, p.Ok B w
  ne : ∀ i j (hi : i < ps.length) (hj : j < ps.length), i ≠ j → ∀ b, ps[i].F b → ¬ ps[j].F b
  far : ∀ p ∈ ps, ¬ p.F m
  hm : B ≤ m
  below : Below B w0 w
  size : B ≤ w.heap.size
section
variable {B : Nat} {w0 : World} {m : Nat} {T : TypeId} {cs : Array Value} {ps : List Part} {w w' : World}
theorem ObjAt.bounds (h : ObjAt B w0 m T cs ps w) : ∀ i, Foot m ps i → B ≤ i ∧ i < w.heap.size := by
  intro i hi
  rcases hi with rfl | ⟨p, hp, hf⟩
  · exact ⟨h.hm, block_lt h.blk⟩
  · exact (h.ok p hp).bnd i hf
theorem Part.Ok.kept {p : Part} (h : p.Ok B w) (hk : ∀ i, p.F i → w'.heap[i]? = w.heap[i]?) (hs : w.heap.size ≤ w'.heap.size) : p.Ok B w' :=
  ⟨h.stab w w' hk h.hold, fun i hi => ⟨(h.bnd i hi).1, Nat.lt_of_lt_of_le (h.bnd i hi).2 hs⟩, h.stab⟩
theorem ObjAt.kept (h : ObjAt B w0 m T cs ps w) (hk : ∀ i, Foot m ps i → w'.heap[i]? = w.heap[i]?) (hb : Below B w0 w') (hs : w.heap.size ≤ w'.heap.size) : ObjAt B w0 m T cs ps w' :=
  ⟨(hk m (.inl rfl)).trans h.blk, fun p hp => (h.ok p hp).kept (fun i hi => hk i (.inr ⟨p, hp, hi⟩)) hs, h.ne, h.far, h.hm, hb, Nat.le_trans h.size hs⟩
theorem ObjAt.up (h : ObjAt B w0 m T cs ps w) (hb : Below w.heap.size w w') : ObjAt B w0 m T cs ps w' :=
  h.kept (fun i hi => hb.block i (h.bounds i hi).2) (below_up' h.below h.size hb) hb.size
theorem ObjAt.alloc (h : ObjAt B w0 m T cs ps w) (o : Obj) : ObjAt B w0 m T cs ps (w.alloc o) := h.up (below_al (Below.refl _ _) o)
theorem ObjAt.drew (h : ObjAt B w0 m T cs ps w) : ObjAt B w0 m T cs ps w.drew := h.up (Below.refl _ _).drew
/-- what else turned is apart from it -/
theorem ObjAt.aside (h : ObjAt B w0 m T cs ps w) {F F' : Nat → Prop} (t : Turn F F' w w') (hF : ∀ i, F i → B ≤ i ∧ ¬ Foot m ps i) : ObjAt B w0 m T cs ps w' :=
  h.kept (fun i hi => t.block i (h.bounds i hi).2 (fun hf => (hF i hf).2 hi)) (h.below.trans (t.below h.size (fun i hi => (hF i hi).1))) t.size
/-- a part turns into another one -/
theorem ObjAt.turn (h : ObjAt B w0 m T cs ps w) (i : Nat) (hi : i < ps.length) (p' : Part) (hp' : p'.P w') (hst : ∀ w1 w2 : World, (∀ i, p'.F i → w2.heap[i]? = w1.heap[i]?) → p'.P w1 → p'.P w2) (hlt : ∀ i, p'.F i → i < w'.heap.size) (t : Turn ps[i].F p'.F w w') :
    ObjAt B w0 m T cs (ps.set i p') w' ∧ Turn (Foot m ps) (Foot m (ps.set i p')) w w' := by
  have hin := List.getElem_mem hi
  have hfar : ∀ b, b < w.heap.size → ¬ ps[i].F b → w'.heap[b]? = w.heap[b]? := fun b hb hn => t.block b hb hn
  have hfr : ∀ b, p'.F b → ps[i].F b ∨ w.heap.size ≤ b := t.fresh
  refine ⟨⟨(hfar m (block_lt h.blk) (h.far _ hin)).trans h.blk, fun p hp => ?_, fun a b ha hb hab q hq => ?_, fun p hp => ?_, h.hm, h.below.trans (t.below h.size (fun b hb => ((h.ok _ hin).bnd b hb).1)), Nat.le_trans h.size t.size⟩, ?_⟩
  · obtain ⟨j, hj, rfl⟩ := List.getElem_of_mem hp
    simp only [List.length_set] at hj
    rw [List.getElem_set]
    by_cases e : i = j
    · rw [if_pos e]
      exact ⟨hp', fun b hb => ⟨(hfr b hb).elim (fun hf => ((h.ok _ hin).bnd b hf).1) (fun hge => Nat.le_trans h.size hge), hlt b hb⟩, hst⟩
    · rw [if_neg e]
      have hok := h.ok _ (List.getElem_mem hj)
      exact hok.kept (fun b hb => hfar b (hok.bnd b hb).2 (h.ne j i hj hi (fun e' => e e'.symm) b hb)) t.size
  · simp only [List.length_set] at ha hb
    rw [List.getElem_set] at hq ⊢
    by_cases ea : i = a
    · rw [if_pos ea] at hq
      by_cases eb : i = b
      · exact (hab (ea.symm.trans eb)).elim
      · rw [if_neg eb]
        rcases hfr q hq with hf | hge
        · exact h.ne i b hi hb eb q hf
        · intro hf2
          have := ((h.ok _ (List.getElem_mem hb)).bnd q hf2).2
          omega
    · rw [if_neg ea] at hq
      by_cases eb : i = b
      · rw [if_pos eb]
        intro hf2
        rcases hfr q hf2 with hf | hge
        · exact h.ne a i ha hi (fun e => ea e.symm) q hq hf
        · have := ((h.ok _ (List.getElem_mem ha)).bnd q hq).2
          omega
      · rw [if_neg eb]; exact h.ne a b ha hb hab q hq
  · obtain ⟨j, hj, rfl⟩ := List.getElem_of_mem hp
    simp only [List.length_set] at hj
    rw [List.getElem_set]
    by_cases e : i = j
    · rw [if_pos e]
      intro hf
      rcases hfr m hf with hf | hge
      · exact h.far _ hin hf
      · have := block_lt h.blk; omega
    · rw [if_neg e]; exact h.far _ (List.getElem_mem hj)
  · refine ⟨t.os, t.tape, t.output, t.size, fun b hb hn => hfar b hb (fun hf => hn (.inr ⟨_, hin, hf⟩)), fun b hb => ?_⟩
    rcases hb with rfl | ⟨p, hp, hf⟩
    · exact .inl (.inl rfl)
    · obtain ⟨j, hj, rfl⟩ := List.getElem_of_mem hp
      simp only [List.length_set] at hj
      rw [List.getElem_set] at hf
      by_cases e : i = j
      · rw [if_pos e] at hf
        exact (hfr b hf).imp (fun hf => .inr ⟨_, hin, hf⟩) id
      · rw [if_neg e] at hf
        exact .inl (.inr ⟨_, List.getElem_mem hj, hf⟩)
/-- a field is stored -/
theorem ObjAt.store (h : ObjAt B w0 m T cs ps w) (j : Nat) (v : Value) : ObjAt B w0 m T (cs.setIfInBounds j v) ps (w.setCell ⟨m, j, none⟩ v) ∧ Turn (Foot m ps) (Foot m ps) w (w.setCell ⟨m, j, none⟩ v) := by
  have t := setCell_turn (F := Foot m ps) (w := w) (a := ⟨m, j, none⟩) (.inl rfl) v
  exact ⟨⟨setCell_block h.blk j v, fun p hp => (h.ok p hp).kept (fun i hi => setCell_far (fun e => h.far p hp (e ▸ hi))) t.size, h.ne, h.far, h.hm, h.below.trans (t.below h.size (fun i hi => (h.bounds i hi).1)), Nat.le_trans h.size t.size⟩, t⟩
theorem ObjAt.cell (h : ObjAt B w0 m T cs ps w) (j : Nat) : w.cell? ⟨m, j, none⟩ = cs[j]? := cellm h.blk j
theorem ObjAt.frozen (h : ObjAt B w0 m T cs ps w) (j : Nat) : w.frozen? ⟨m, j, none⟩ = false := frozenm h.blk j
theorem ObjAt.lt (h : ObjAt B w0 m T cs ps w) : m < w.heap.size := block_lt h.blk
end

/-! rows and maps as parts -/
def rowP (B : Nat) (e : TypeId) (size : Nat) (v : Value) (n : Nat) (xs : List Value) : Part := ⟨fun i => v.ownBlock = some i, fun w => w.ownsRow B e size v n xs⟩
theorem rowP_stab {B : Nat} {e : TypeId} {size : Nat} {v : Value} {n : Nat} {xs : List Value} : ∀ w1 w2 : World, (∀ i, (rowP B e size v n xs).F i → w2.heap[i]? = w1.heap[i]?) → (rowP B e size v n xs).P w1 → (rowP B e size v n xs).P w2 := fun w1 w2 hk h => ownsRow_block h hk
theorem rowP_ok {B : Nat} {e : TypeId} {size : Nat} {v : Value} {n : Nat} {xs : List Value} {w : World} (h : w.ownsRow B e size v n xs) : (rowP B e size v n xs).Ok B w := ⟨h, fun i hi => h.lt i hi, rowP_stab⟩
def mapP (P : Program) (tk : TypeId) (b : Nat) (f : Int → Option Value) (c : Nat) : Part := ⟨(· = b), fun w => VMap P tk w b f c⟩
theorem mapP_stab {P : Program} {tk : TypeId} {b : Nat} {f : Int → Option Value} {c : Nat} : ∀ w1 w2 : World, (∀ i, (mapP P tk b f c).F i → w2.heap[i]? = w1.heap[i]?) → (mapP P tk b f c).P w1 → (mapP P tk b f c).P w2 := fun w1 w2 hk h => VMap.block h (hk b rfl)
theorem mapP_ok {P : Program} {tk : TypeId} {B b : Nat} {f : Int → Option Value} {c : Nat} {w : World} (h : VMap P tk w b f c) (hb : B ≤ b) : (mapP P tk b f c).Ok B w := ⟨h, fun i hi => by cases hi; exact ⟨hb, h.lt⟩, mapP_stab⟩
section
variable {B : Nat} {w0 : World} {m : Nat} {T : TypeId} {cs : Array Value} {ps : List Part} {w w' : World}
theorem ObjAt.row (h : ObjAt B w0 m T cs ps w) (i : Nat) {e : TypeId} {size : Nat} {v : Value} {n : Nat} {xs : List Value} (hi : ps[i]? = some (rowP B e size v n xs)) : w.ownsRow B e size v n xs := by
  have := (h.ok _ (List.mem_of_getElem? hi)).hold
  exact this
theorem ObjAt.map (h : ObjAt B w0 m T cs ps w) (i : Nat) {P : Program} {tk : TypeId} {b : Nat} {f : Int → Option Value} {c : Nat} (hi : ps[i]? = some (mapP P tk b f c)) : VMap P tk w b f c := by
  have := (h.ok _ (List.mem_of_getElem? hi)).hold
  exact this
/-- a row has grown, and is stored in its field -/
theorem ObjAt.set_row (h : ObjAt B w0 m T cs ps w) (i j : Nat) {e : TypeId} {size : Nat} {v : Value} {n : Nat} {xs : List Value} (hi : ps[i]? = some (rowP B e size v n xs)) {v' : Value} {n' : Nat} {xs' : List Value} (hg : w.grownBy w' v.ownBlock) (ho : w'.ownsRow B e size v' n' xs') (hv : ∀ b, v'.ownBlock = some b → v.ownBlock = some b ∨ w.heap.size ≤ b) :
    ObjAt B w0 m T (cs.setIfInBounds j v') (ps.set i (rowP B e size v' n' xs')) (w'.setCell ⟨m, j, none⟩ v') ∧ Turn (Foot m ps) (Foot m (ps.set i (rowP B e size v' n' xs'))) w (w'.setCell ⟨m, j, none⟩ v') := by
  obtain ⟨hlt, hge⟩ := List.getElem?_eq_some_iff.1 hi
  have t : Turn ps[i].F (rowP B e size v' n' xs').F w w' := by
    rw [hge]
    exact ⟨hg.os, hg.tape, hg.output, hg.size, fun b hb hn => hg.block b hb (fun e => hn e.symm), hv⟩
  obtain ⟨h1, t1⟩ := h.turn i hlt (rowP B e size v' n' xs') ho rowP_stab (fun b hb => (ho.lt b hb).2) t
  obtain ⟨h2, t2⟩ := h1.store j v'
  exact ⟨h2, t1.trans t2⟩
/-- an element of a row is stored in its place -/
theorem ObjAt.put_row (h : ObjAt B w0 m T cs ps w) (i q : Nat) {e : TypeId} {g cap n : Nat} {xs : List Value} (hi : ps[i]? = some (rowP B e 1 (.slice (some ⟨g, 0, none⟩) n cap) n xs)) (x : Value) (hq : q < n) :
    ObjAt B w0 m T cs (ps.set i (rowP B e 1 (.slice (some ⟨g, 0, none⟩) n cap) n (xs.set q x))) (w.setCell ⟨g, q, none⟩ x) ∧ Turn (Foot m ps) (Foot m (ps.set i (rowP B e 1 (.slice (some ⟨g, 0, none⟩) n cap) n (xs.set q x)))) w (w.setCell ⟨g, q, none⟩ x) := by
  obtain ⟨hlt, hge⟩ := List.getElem?_eq_some_iff.1 hi
  have ho := ownsRow_set (h.row i hi) q x hq
  refine h.turn i hlt _ ho rowP_stab (fun b hb => (ho.lt b hb).2) ?_
  rw [hge]
  exact setCell_turn (F := (rowP B e 1 (.slice (some ⟨g, 0, none⟩) n cap) n xs).F) (a := ⟨g, q, none⟩) rfl x
/-- a map has a key more -/
theorem ObjAt.put_map (h : ObjAt B w0 m T cs ps w) (i : Nat) {P : Program} {tk : TypeId} {b : Nat} {f f' : Int → Option Value} {c c' : Nat} (hi : ps[i]? = some (mapP P tk b f c)) (hM : VMap P tk w' b f' c') (hg : w.grownBy w' (some b)) :
    ObjAt B w0 m T cs (ps.set i (mapP P tk b f' c')) w' ∧ Turn (Foot m ps) (Foot m (ps.set i (mapP P tk b f' c'))) w w' := by
  obtain ⟨hlt, hge⟩ := List.getElem?_eq_some_iff.1 hi
  refine h.turn i hlt _ hM mapP_stab (fun q hq => by cases hq; exact hM.lt) ?_
  rw [hge]
  exact ⟨hg.os, hg.tape, hg.output, hg.size, fun q hq hn => hg.block q hq (fun e => hn (by cases e; rfl)), fun q hq => .inl hq⟩
end
end Go.Proofs.Ytpccgdkidnkppaa
