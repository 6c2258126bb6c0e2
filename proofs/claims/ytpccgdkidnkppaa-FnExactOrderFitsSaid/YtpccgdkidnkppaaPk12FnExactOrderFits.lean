import Derived.Test.YtpccgdkidnkppaaPk10FnExactOrderFits
import Derived.Test.YtpccgdkidnkppaaPk11FnExactOrderFits
set_option linter.unusedVariables false
set_option linter.unusedSimpArgs false
namespace Go.Proofs.Ytpccgdkidnkppaa
open Go Go.RowKit

theorem mayFrom_range (t : Task) : ∀ (m : Nat), m ≤ 10 → ∀ x ∈ mayFrom t m, 0 ≤ x ∧ x ≤ 9 := by
  intro m
  induction m with
  | zero => intro _ x hx; cases hx
  | succ m ih =>
    intro hm x hx
    rw [mayFrom, List.mem_append] at hx
    rcases hx with hx | hx
    · split at hx
      · rw [List.mem_singleton.1 hx]; omega
      · cases hx
    · exact ih (by omega) x hx
theorem mayFrom_len (t : Task) : ∀ (m : Nat), (mayFrom t m).length ≤ m := by
  intro m
  induction m with
  | zero => simp [mayFrom]
  | succ m ih => rw [mayFrom, List.length_append]; split <;> simp <;> omega
theorem mayList_len (t : Task) : (mayList t).length ≤ 10 := by
  unfold mayList
  split
  · exact mayFrom_len t 10
  · simp
theorem mayList_range (t : Task) : ∀ x ∈ mayList t, 0 ≤ x ∧ x ≤ 9 := by
  intro x hx
  unfold mayList at hx
  split at hx
  · exact mayFrom_range t 10 (by omega) x hx
  · cases hx
theorem ownsRow.drewH {w : World} {base : Nat} {e : TypeId} {size : Nat} {v : Value} {n : Nat} {xs : List Value} (h : Hid (w.ownsRow base e size v n xs)) : Hid (w.drew.ownsRow base e size v n xs) := Lib.hid h.out.drew
/-- the made keys that a task may fetch -/
def mayMade (made : List Bool) (t : Task) : List Int := (mayList t).filter fun k => mkK made k

set_option maxHeartbeats 4000000 in
theorem l3May_calls (Am At : Option Addr) (cm ct : Nat) (made : List Bool) (tasks : List Task) (B : Nat) (w0 w : World) (hb : Below B w0 w) (hB : B ≤ w.heap.size) (hs : SheetAt B w0 Am cm At ct made tasks) (q : Nat) (hq : q < tasks.length) (hq9 : q ≤ 9) (hml : made.length ≤ 10) (hnod : nodes tasks[q] ≤ 1000000000) :
    Calls Try.prog 79 #[.agg #[.slice Am made.length cm, .slice At tasks.length ct], .int .i64 q] w fun e w' => ∃ v, e = .returned v ∧ w'.ownsRow w.heap.size 3 1 v (mayMade made tasks[q]).length (ints (mayMade made tasks[q])) ∧ Below w.heap.size w w' := by
  obtain ⟨bt, ot, At', ct', et, hbt, ht0, ht1, ht2, htc, htm, htp⟩ := hs.tasks.at hb q hq
  subst et
  have hbt4 : bt < w.heap.size := by omega
  have hms := hs.made
  have hcall := fun w1 (hw : Below w.heap.size w w1) => specTaskMay_calls tasks[q] hnod At' ct' B w0 w1 (below_up' hb hB hw) (Nat.le_trans hB hw.size) htc htm htp
  have hdef : mayMade made tasks[q] = (mayList tasks[q]).filter fun k => mkK made k := rfl
  have hL10 := mayList_len tasks[q]
  have hLr := mayList_range tasks[q]
  have hown0 : ((w.alloc (.cells #[.slice Am made.length cm, .slice (some ⟨bt, ot, none⟩) tasks.length ct] 31 (0, 0))).alloc (.cells #[] 3 (0, 0))).ownsRow w.heap.size 3 1 (.slice (some ⟨w.heap.size + 1, 0, none⟩) 0 0) 0 (ints []) := by
    simpa [ints] using World.ownsRow_made (base := w.heap.size) (w.alloc (.cells #[.slice Am made.length cm, .slice (some ⟨bt, ot, none⟩) tasks.length ct] 31 (0, 0))) #[] 0 (by simp) (by simp [maxLen]) rfl
  generalize mayMade made tasks[q] = M at *
  generalize mayList tasks[q] = L at *
  replace hcall := Lib.hid hcall
  replace hdef := Lib.hid hdef
  replace hLr := Lib.hid hLr
  replace hb := Lib.hid hb
  replace hms := Lib.hid hms
  replace hown0 := Lib.hid hown0
  clear htp hs htc
  go_enter Try.func79, Try.ntmps79
  go_wp2_with fail
  refine (hcall.out _ (below_al (below_al (Below.refl _ _) _) _)).mono ?_
  rintro e w1 ⟨v, rfl, hownL, h1⟩
  obtain ⟨AL, cL, rfl, hl1, hl2, hl3⟩ := ownsRow_ints hownL
  have hown1 := ownsRow_block hown0.out (fun i hi => h1.block i (hown0.out.lt i hi).2)
  have x0 : w1.cell? ⟨w.heap.size, 0, none⟩ = some (.slice Am made.length cm) := (h1.cell (p := ⟨w.heap.size, 0, none⟩) (by simp; omega)).trans (by simp)
  have b1 : Below w.heap.size w w1 := below_from (below_from h1)
  have s1 : w.heap.size < w1.heap.size := by have := h1.size; simp at this; omega
  have hfarL : ∀ i, (Value.slice AL L.length cL).ownBlock = some i → w.heap.size + 2 ≤ i := fun i hi => by have := (hownL.lt i hi).1; simpa using this
  replace hl3 := Lib.hid hl3
  replace hown1 := Lib.hid hown1
  replace b1 := Lib.hid b1
  replace hfarL := Lib.hid hfarL
  clear h1 hownL hown0 hcall ht0 ht1 ht2
  go_wp2_with fail
  have hfarL2 : ∀ b o, AL = some ⟨b, o, none⟩ → w.heap.size + 2 ≤ b ∧ 0 < 1 := fun b o e => ⟨hfarL.out b (by rw [e]; rfl), by omega⟩
  replace hfarL2 := Lib.hid hfarL2
  go_loopw [5, 7] (fun o i wr => ∃ (j : Nat) (out : List Int), j ≤ L.length ∧ i = .int .i64 j ∧ out.length ≤ j ∧ w.heap.size < wr.heap.size ∧ wr.cell? ⟨w.heap.size, 0, none⟩ = some (.slice Am made.length cm) ∧ Hid (out ++ (L.drop j).filter (fun k => mkK made k) = M) ∧ Hid (wr.ownsRow w.heap.size 3 1 o out.length (ints out)) ∧ Hid (Below w.heap.size w wr) ∧ Hid (IntsAt wr.heap.size wr AL L) ∧ Hid (∀ b oo, AL = some ⟨b, oo, none⟩ → o.ownBlock ≠ some b) ∧ Hid (o.ownBlock ≠ some w.heap.size)) (fun _ i _ => L.length - (intOf i).toNat)
  case atStart => exact ⟨0, [], Nat.zero_le _, rfl, by simp, s1, x0, Lib.hid (by rw [hdef.out]; rfl), hown1, b1, hl3, Lib.hid (fun b oo e => by have := (hfarL2.out b oo e).1; simp [Value.ownBlock]; omega), Lib.hid (by simp [Value.ownBlock])⟩
  case round =>
    obtain ⟨j, out, hj, rfl, hol, hz, hbox, he, hown, hw, hL, hfar, hne⟩ := hrel
    have hsz := hw.out.size
    by_cases hlt : j < L.length
    · obtain ⟨bL, oL, eL, hbL, y⟩ := hL.out j hlt
      have he2 := he.out
      rw [List.drop_eq_getElem_cons hlt, List.filter_cons] at he2
      have hr := hLr.out L[j] (List.getElem_mem _)
      have hfb := hfar.out bL oL eL
      obtain ⟨kq, hkq⟩ := Int.eq_ofNat_of_zero_le hr.1
      rw [hkq] at y he2
      have hkq9 : kq ≤ 9 := by omega
      subst eL
      replace hkq := Lib.hid hkq
      replace hfb := Lib.hid hfb
      cases hm : mkK made kq with
      | false =>
        rw [hm] at he2
        have he3 : out ++ (L.drop (j + 1)).filter (fun k => mkK made k) = M := by simpa using he2
        replace he3 := Lib.hid he3
        by_cases hk : kq < made.length
        · obtain ⟨bm, om, em, hbm, cmq⟩ := hms.out.at (hb.out.trans (hw.out.mono hB)) (by omega) kq hk
          have hmq : made[kq] = false := by
            unfold mkK at hm
            rw [if_neg (by omega), Int.toNat_natCast, getD_at _ hk] at hm
            exact hm
          rw [hmq] at cmq
          rw [em] at hbox
          subst em
          replace hm := Lib.hid hm
          replace hmq := Lib.hid hmq
          clear he he2
          go_wp2_with fail
          go_region
          go_wp2_with fail
          go_roundw
          case rel => exact ⟨j + 1, out, by omega, by go_num, by omega, hz, hbox, he3, ownsRow.drewH hown, Lib.hid hw.out.drew, hL, hfar, hne⟩
          case measure => simp [intOf]; omega
        · replace hm := Lib.hid hm
          clear he he2
          go_wp2_with fail
          go_region
          go_wp2_with fail
          go_roundw
          case rel => exact ⟨j + 1, out, by omega, by go_num, by omega, hz, hbox, he3, ownsRow.drewH hown, Lib.hid hw.out.drew, hL, hfar, hne⟩
          case measure => simp [intOf]; omega
      | true =>
        rw [hm] at he2
        have he3 : (out ++ [(kq : Int)]) ++ (L.drop (j + 1)).filter (fun k => mkK made k) = M := by simpa using he2
        replace he3 := Lib.hid he3
        have hk : kq < made.length := by have := mkK_range (show mkK made kq ≠ false by rw [hm]; simp); omega
        obtain ⟨bm, om, em, hbm, cmq⟩ := hms.out.at (hb.out.trans (hw.out.mono hB)) (by omega) kq hk
        have hmq : made[kq] = true := by
          unfold mkK at hm
          rw [if_neg (by omega), Int.toNat_natCast, getD_at _ hk] at hm
          exact hm
        rw [hmq] at cmq
        subst em
        replace hm := Lib.hid hm
        replace hmq := Lib.hid hmq
        have hownd := ownsRow.drewH hown
        clear he he2
        go_wp2_with fail
        go_region
        go_wp2_with (at_builtin; go_loud (with_reducible refine wpList_app1 (by rfl) (.tmp 39) (.tmp 44) 26 (by rfl) intTy w.heap.size u5 out.length (ints out) (by with_unfolding_all rfl) ((hown.out.alloc _).drew) wr.heap.size 1 [.int .i64 kq] (by with_unfolding_all rfl) (by with_unfolding_all rfl) ?_ (one_int _ _) ?_ ?_ ?_ ?_))
        · exact ⟨_, _, heap_alloc_new wr _, rfl⟩
        · unfold maxLen; omega
        · omega
        · first | omega | (simp; omega)
        intro g cap w7 hown7 hgrow7 hat7
        have hw7 := (below_al' hw.out (.cells #[.int .i64 kq] 3 (0, 0)) hsz).drew.grown hgrow7 (by simp; omega) (fun i hi => (hown.out.lt i hi).1)
        have hown7' : w7.ownsRow w.heap.size 3 1 (.slice (some ⟨g, 0, none⟩) (out.length + 1) cap) (out ++ [(kq : Int)]).length (ints (out ++ [(kq : Int)])) := by simpa [ints_append, ints] using hown7
        have hk0 : w7.heap[w.heap.size]? = wr.heap[w.heap.size]? := far_grown_drew hgrow7 hz hne.out
        have hkL : w7.heap[bL]? = wr.heap[bL]? := far_grown_drew hgrow7 hbL hfb.out
        have hbox7 := (World.cell?_of_block (w := wr) (a := ⟨w.heap.size, 0, none⟩) hk0).trans hbox
        have hz7 : wr.heap.size < w7.heap.size := by have := hgrow7.size; simp at this; omega
        have hL7 : IntsAt w7.heap.size w7 (some ⟨bL, oL, none⟩) L := fun i hi => by
          obtain ⟨b', o', e', hb', c'⟩ := hL.out i hi
          cases e'
          exact ⟨_, _, rfl, by omega, (World.cell?_of_block (w := wr) hkL).trans c'⟩
        have hg7 : ∀ b : Nat, u5.ownBlock ≠ some b → b < wr.heap.size → (Value.slice (some ⟨g, 0, none⟩) (out.length + 1) cap).ownBlock ≠ some b := fun b h1 h2 e => by
          cases e
          rcases hat7 with e | e
          · exact h1 e
          · first | omega | (dsimp only at h2; omega) | (simp at e; dsimp only at h2; omega)
        have hfar7 : ∀ b oo, (some ⟨bL, oL, none⟩ : Option Addr) = some ⟨b, oo, none⟩ → (Value.slice (some ⟨g, 0, none⟩) (out.length + 1) cap).ownBlock ≠ some b := fun b oo e => by cases e; exact hg7 _ hfb.out hbL
        have hne7 := hg7 _ hne.out hz
        have hz8 : w.heap.size < w7.heap.size := by omega
        replace hw7 := Lib.hid hw7
        replace hown7' := Lib.hid hown7'
        replace hL7 := Lib.hid hL7
        replace hfar7 := Lib.hid hfar7
        replace hne7 := Lib.hid hne7
        clear hown7 hgrow7 hat7 hk0 hkL hg7 hown hownd hL hfar hne hw
        go_wp2_with fail
        go_roundw
        case rel => exact ⟨j + 1, out ++ [(kq : Int)], by omega, by go_num, by simp; omega, hz8, hbox7, he3, hown7', hw7, hL7, hfar7, hne7⟩
        case measure => simp [intOf]; omega
    · have he2 : out = M := by
        have := he.out
        rw [List.drop_eq_nil_of_le (by omega)] at this
        simpa using this
      replace he2 := Lib.hid he2
      clear he
      go_wp2_with fail
      go_ret
      rw [← he2.out]
      exact ⟨_, rfl, hown.out, hw.out⟩
end Go.Proofs.Ytpccgdkidnkppaa

set_option linter.unusedVariables false
set_option linter.unusedSimpArgs false
namespace Go.Proofs.Ytpccgdkidnkppaa
open Go Go.RowKit

/-- a key that leads to no circle -/
inductive Wf (may : Int → List Int) : Int → Prop
  | mk (k : Int) : (∀ j, j ∈ may k → Wf may j) → Wf may k

/-- no key of a circle is one -/
theorem wf_no_cycle {may : Int → List Int} {l : List Int} (hn : l ≠ []) (hc : ∀ i (h : i < l.length), l[(i + 1) % l.length]'(Nat.mod_lt _ (by omega)) ∈ may l[i]) : ∀ k, Wf may k → k ∉ l := by
  intro k h
  induction h with
  | mk k _ ih =>
    intro hk
    obtain ⟨i, hi, rfl⟩ := List.getElem_of_mem hk
    exact ih _ (hc i hi) (List.getElem_mem _)

/-! the reference's passes -/
def passKs (may : Int → List Int) : List Int → (Int → Bool) → (Int → Bool)
  | [], d => d
  | k :: ks, d => passKs may ks (fun i => if i = k then (may k).all d else d i)
theorem passKs_wf {may : Int → List Int} : ∀ (ks : List Int) (d : Int → Bool), (∀ i, d i = true → Wf may i) → ∀ i, passKs may ks d i = true → Wf may i := by
  intro ks
  induction ks with
  | nil => intro d h i hi; exact h i hi
  | cons k ks ih =>
    intro d h i hi
    refine ih _ (fun j hj => ?_) i hi
    by_cases e : j = k
    · subst e
      simp only [if_true] at hj
      rw [List.all_eq_true] at hj
      exact .mk _ (fun m hm => h m (hj m hm))
    · simp only [e, if_false] at hj
      exact h j hj

/-- what is done stays done -/
theorem passKs_mono {may : Int → List Int} : ∀ (ks : List Int) (d : Int → Bool), (∀ i, d i = true → ∀ j ∈ may i, d j = true) → (∀ i, d i = true → passKs may ks d i = true) ∧ (∀ i, passKs may ks d i = true → ∀ j ∈ may i, passKs may ks d j = true) := by
  intro ks
  induction ks with
  | nil => intro d h; exact ⟨fun i hi => hi, h⟩
  | cons k ks ih =>
    intro d h
    have h1 : ∀ i, d i = true → (if i = k then (may k).all d else d i) = true := fun i hi => by
      by_cases e : i = k
      · subst e; rw [if_pos rfl, List.all_eq_true]; exact h i hi
      · rw [if_neg e]; exact hi
    have h2 : ∀ i, (if i = k then (may k).all d else d i) = true → ∀ j ∈ may i, (if j = k then (may k).all d else d j) = true := fun i hi j hj => by
      by_cases e : i = k
      · subst e
        rw [if_pos rfl, List.all_eq_true] at hi
        exact h1 j (hi j hj)
      · rw [if_neg e] at hi
        exact h1 j (h i hi j hj)
    obtain ⟨a, b⟩ := ih _ h2
    exact ⟨fun i hi => a i (h1 i hi), b⟩

/-- a key all of whose keys are done is done behind a pass -/
theorem passKs_adds {may : Int → List Int} : ∀ (ks : List Int) (d : Int → Bool), (∀ i, d i = true → ∀ j ∈ may i, d j = true) → ∀ k ∈ ks, (∀ j ∈ may k, d j = true) → passKs may ks d k = true := by
  intro ks
  induction ks with
  | nil => intro d _ k hk; cases hk
  | cons q ks ih =>
    intro d h k hk hm
    have h1 : ∀ i, d i = true → (if i = q then (may q).all d else d i) = true := fun i hi => by
      by_cases e : i = q
      · subst e; rw [if_pos rfl, List.all_eq_true]; exact h i hi
      · rw [if_neg e]; exact hi
    have h2 : ∀ i, (if i = q then (may q).all d else d i) = true → ∀ j ∈ may i, (if j = q then (may q).all d else d j) = true := fun i hi j hj => by
      by_cases e : i = q
      · subst e
        rw [if_pos rfl, List.all_eq_true] at hi
        exact h1 j (hi j hj)
      · rw [if_neg e] at hi
        exact h1 j (h i hi j hj)
    rcases List.mem_cons.1 hk with rfl | hk
    · exact (passKs_mono ks _ h2).1 k (by rw [if_pos rfl, List.all_eq_true]; exact hm)
    · exact ih _ h2 k hk (fun j hj => h1 j (hm j hj))
end Go.Proofs.Ytpccgdkidnkppaa

set_option linter.unusedVariables false
set_option linter.unusedSimpArgs false
namespace Go.Proofs.Ytpccgdkidnkppaa
open Go Go.RowKit

/-! what is reached -/
inductive Reach (mk : Int → Bool) (nx : Int → List Int) (l : List Int) : Int → Prop
  | here (k : Int) : k ∈ l → mk k = true → Reach mk nx l k
  | next (k j : Int) : Reach mk nx l k → j ∈ nx k → mk j = true → Reach mk nx l j
section
variable {mk : Int → Bool} {nx : Int → List Int}
theorem Reach.lift {l l' : List Int} (h : ∀ k ∈ l', mk k = true → Reach mk nx l k) : ∀ {k}, Reach mk nx l' k → Reach mk nx l k := by
  intro k hk
  induction hk with
  | here k h1 h2 => exact h k h1 h2
  | next k j _ h2 h3 ih => exact .next k j ih h2 h3
theorem Reach.mono {l l' : List Int} (h : ∀ k ∈ l', k ∈ l) {k : Int} : Reach mk nx l' k → Reach mk nx l k := Reach.lift fun k hk hm => .here k (h k hk) hm
theorem Reach.isMade {l : List Int} {k : Int} (h : Reach mk nx l k) : mk k = true := by cases h <;> assumption

/-- what a walk over a list adds -/
structure RStep (mk : Int → Bool) (nx : Int → List Int) (X : Int → Bool) (l : List Int) (Y : Int → Bool) : Prop where
  mono : ∀ k, X k = true → Y k = true
  hit : ∀ k ∈ l, mk k = true → Y k = true
  new : ∀ k, Y k = true → X k = false → Reach mk nx l k
  closed : ∀ k, Y k = true → X k = false → ∀ j ∈ nx k, mk j = true → Y j = true
theorem RStep.nil (X : Int → Bool) : RStep mk nx X [] X := ⟨fun _ h => h, fun k h => (by cases h), fun k h1 h2 => (by rw [h1] at h2; cases h2), fun k h1 h2 => (by rw [h1] at h2; cases h2)⟩
/-- a key that is not walked into -/
theorem RStep.skip {X Y : Int → Bool} {l : List Int} {k : Int} (h : RStep mk nx X l Y) (hk : mk k = false ∨ Y k = true) : RStep mk nx X (l ++ [k]) Y := by
  refine ⟨h.mono, fun j hj hm => ?_, fun j h1 h2 => Reach.mono (by simp +contextual) (h.new j h1 h2), h.closed⟩
  rcases List.mem_append.1 hj with hj | hj
  · exact h.hit j hj hm
  · rw [List.mem_singleton.1 hj] at hm ⊢
    exact hk.elim (fun e => by rw [e] at hm; cases hm) id
def setX (X : Int → Bool) (k : Int) : Int → Bool := fun j => if j = k then true else X j
theorem RStep.walk {X Y Z : Int → Bool} {l : List Int} {k : Int} (h : RStep mk nx X l Y) (hm : mk k = true) (hy : Y k = false) (h2 : RStep mk nx (setX Y k) (nx k) Z) : RStep mk nx X (l ++ [k]) Z := by
  have hYZ : ∀ j, Y j = true → Z j = true := fun j hj => h2.mono j (by simp only [setX]; split <;> simp [hj])
  have hkZ : Z k = true := h2.mono k (by simp [setX])
  have hin : Reach mk nx (l ++ [k]) k := .here k (by simp) hm
  refine ⟨fun j hj => hYZ j (h.mono j hj), fun j hj hmj => ?_, fun j h1 h3 => ?_, fun j h1 h3 i hi hmi => ?_⟩
  · rcases List.mem_append.1 hj with hj | hj
    · exact hYZ j (h.hit j hj hmj)
    · rw [List.mem_singleton.1 hj]; exact hkZ
  · by_cases hYj : Y j = true
    · exact Reach.mono (by simp +contextual) (h.new j hYj h3)
    · by_cases e : j = k
      · subst e; exact hin
      · have := h2.new j h1 (by simp only [setX, if_neg e]; simpa using hYj)
        exact Reach.lift (fun i hi hmi => .next k i hin hi hmi) this
  · by_cases hYj : Y j = true
    · exact hYZ i (h.closed j hYj h3 i hi hmi)
    · by_cases e : j = k
      · subst e; exact h2.hit i hi hmi
      · exact h2.closed j h1 (by simp only [setX, if_neg e]; simpa using hYj) i hi hmi
/-- from nothing: just what is reached -/
theorem RStep.reach {l : List Int} {Y : Int → Bool} (h : RStep mk nx (fun _ => false) l Y) (k : Int) : Y k = true ↔ Reach mk nx l k := by
  refine ⟨fun hk => h.new k hk rfl, fun hk => ?_⟩
  induction hk with
  | here k h1 h2 => exact h.hit k h1 h2
  | next k j _ h2 h3 ih => exact h.closed k ih rfl j h2 h3
end

/-! how many there are -/
def cntN (X : Int → Bool) (n : Nat) : Nat := ((List.range n).filter fun q : Nat => X q).length
theorem cntN_le (X : Int → Bool) (n : Nat) : cntN X n ≤ n := by
  have := List.length_filter_le (fun q : Nat => X q) (List.range n)
  simpa [cntN] using this
theorem cntN_congr {X Y : Int → Bool} {n : Nat} (h : ∀ q : Nat, q < n → X q = Y q) : cntN X n = cntN Y n := by
  unfold cntN
  congr 1
  apply List.filter_congr
  intro q hq
  exact h q (List.mem_range.1 hq)
theorem cntN_set {X : Int → Bool} : ∀ {n : Nat} {k : Nat}, k < n → X k = false → cntN (setX X k) n = cntN X n + 1 := by
  intro n
  induction n with
  | zero => intro k h; omega
  | succ n ih =>
    intro k hk hX
    unfold cntN
    rw [List.range_succ, List.filter_append, List.filter_append, List.length_append, List.length_append]
    by_cases e : k = n
    · subst e
      have h1 := cntN_congr (X := setX X k) (Y := X) (n := k) (fun q hq => by simp only [setX]; rw [if_neg (by omega)])
      unfold cntN at h1
      rw [h1]
      simp [setX, hX]
    · have h1 := ih (k := k) (by omega) hX
      unfold cntN at h1
      rw [h1]
      have h2 : setX X k n = X n := by simp only [setX]; rw [if_neg (by omega)]
      simp only [List.filter_cons, h2, List.filter_nil]
      split <;> simp <;> omega
theorem cntN_zero (n : Nat) : cntN (fun _ => false) n = 0 := by simp [cntN]
theorem nodup_sub_len {α : Type} [BEq α] [LawfulBEq α] : ∀ {l m : List α}, l.Nodup → (∀ x ∈ l, x ∈ m) → l.length ≤ m.length := by
  intro l
  induction l with
  | nil => intro m _ _; simp
  | cons a l ih =>
    intro m hn h
    obtain ⟨h1, h2⟩ := List.nodup_cons.1 hn
    have ha := h a (by simp)
    have h3 := ih (m := m.erase a) h2 (fun x hx => (List.mem_erase_of_ne (fun e : x = a => h1 (by rw [← e]; exact hx))).2 (h x (by simp [hx])))
    have h4 := List.length_erase_of_mem ha
    have h5 := List.length_pos_of_mem ha
    simp; omega
/-- members of a set, each once, are not more than there are; if as many, they are all -/
theorem sub_cnt {X : Int → Bool} {n : Nat} {l : List Int} (hn : l.Nodup) (hl : ∀ x ∈ l, 0 ≤ x ∧ x < n ∧ X x = true) : l.length ≤ cntN X n ∧ (l.length = cntN X n → ∀ q : Nat, q < n → X q = true → (q : Int) ∈ l) := by
  have h0 : ∀ (l : List Int), l.Nodup → (∀ x ∈ l, 0 ≤ x ∧ x < n ∧ X x = true) → l.length ≤ cntN X n := by
    intro l hn hl
    have e : ∀ (m : Nat) (l : List Int), l.Nodup → (∀ x ∈ l, 0 ≤ x ∧ x < (m : Int) ∧ X x = true) → l.length ≤ cntN X m := by
      intro m
      induction m with
      | zero =>
        intro l _ h
        cases l with
        | nil => simp
        | cons a l => have := h a (by simp); omega
      | succ m ih =>
        intro l hn h
        have h1 := ih (l.erase (m : Int)) (hn.erase _) (fun x hx => by
          have h2 := (hn.mem_erase_iff).1 hx
          have := h x h2.2
          exact ⟨this.1, by have := h2.1; omega, this.2.2⟩)
        have h2 := List.length_erase (a := (m : Int)) (l := l)
        have h3 : cntN X (m + 1) = cntN X m + if X m then 1 else 0 := by
          unfold cntN
          rw [List.range_succ, List.filter_append, List.length_append]
          simp only [List.filter_cons, List.filter_nil]
          split <;> simp
        split at h2
        · rename_i hm
          rw [if_pos (h _ hm).2.2] at h3
          omega
        · omega
    exact e n l hn hl
  refine ⟨h0 l hn hl, fun he q hq hX => ?_⟩
  by_cases hm : (q : Int) ∈ l
  · exact hm
  · exfalso
    have := h0 ((q : Int) :: l) (List.nodup_cons.2 ⟨hm, hn⟩) (fun x hx => by
      rcases List.mem_cons.1 hx with rfl | hx
      · exact ⟨by omega, by omega, hX⟩
      · exact hl x hx)
    simp at this
    omega

/-! topological order: always the least one that is free -/
def freeK (X : Int → Bool) (may : Int → List Int) (out : List Int) (k : Int) : Bool := X k && !out.contains k && (may k).all fun j => out.contains j
def nextK (X : Int → Bool) (may : Int → List Int) (n : Nat) (out : List Int) : Option Nat := (List.range n).find? fun q : Nat => freeK X may out q
def topoP (X : Int → Bool) (may : Int → List Int) (n : Nat) : Nat → List Int → List Int × Bool
  | 0, out => (out, true)
  | m + 1, out => match nextK X may n out with
    | none => ([], false)
    | some q => topoP X may n m (out ++ [(q : Int)])
section
variable {X : Int → Bool} {may : Int → List Int} {n : Nat}
theorem nextK_some {out : List Int} {q : Nat} (h : nextK X may n out = some q) : q < n ∧ freeK X may out q = true := by
  unfold nextK at h
  have h1 := List.find?_some h
  have h2 := List.mem_of_find?_eq_some h
  exact ⟨List.mem_range.1 h2, h1⟩
theorem nextK_none {out : List Int} (h : nextK X may n out = none) : ∀ q : Nat, q < n → freeK X may out q = false := by
  intro q hq
  unfold nextK at h
  have := List.find?_eq_none.1 h q (List.mem_range.2 hq)
  simpa using this
theorem nextK_at {out : List Int} {q : Nat} (hq : q < n) (hf : freeK X may out q = true) (h : ∀ j : Nat, j < q → freeK X may out j = false) : nextK X may n out = some q := by
  unfold nextK
  rw [List.find?_range_eq_some]
  exact ⟨hf, by simpa using hq, fun j hj => by simp [h j hj]⟩
/-- what is put out so far -/
structure TOk (X : Int → Bool) (may : Int → List Int) (n : Nat) (out : List Int) : Prop where
  nodup : out.Nodup
  sub : ∀ x ∈ out, 0 ≤ x ∧ x < n ∧ X x = true
  behind : ∀ i (h : i < out.length), ∀ j ∈ may out[i], j ∈ out.take i
theorem TOk.nil : TOk X may n [] := ⟨List.nodup_nil, fun x h => (by cases h), fun i h => (by simp at h)⟩
theorem TOk.push {out : List Int} {q : Nat} (h : TOk X may n out) (hq : q < n) (hf : freeK X may out q = true) : TOk X may n (out ++ [(q : Int)]) := by
  simp only [freeK, Bool.and_eq_true, Bool.not_eq_true', List.contains_eq_mem, decide_eq_false_iff_not, List.all_eq_true, decide_eq_true_eq] at hf
  obtain ⟨⟨h1, h2⟩, h3⟩ := hf
  refine ⟨?_, fun x hx => ?_, fun i hi j hj => ?_⟩
  · rw [List.nodup_append]
    exact ⟨h.nodup, by simp, fun a ha b hb => by simp only [List.mem_singleton] at hb; subst hb; intro e; exact h2 (e ▸ ha)⟩
  · rcases List.mem_append.1 hx with hx | hx
    · exact h.sub x hx
    · rw [List.mem_singleton.1 hx]; exact ⟨by omega, by omega, h1⟩
  · simp only [List.length_append, List.length_cons, List.length_nil] at hi
    by_cases hlt : i < out.length
    · rw [List.getElem_append_left hlt] at hj
      rw [List.take_append_of_le_length (by omega)]
      exact h.behind i hlt j hj
    · have e : i = out.length := by omega
      subst e
      simp only [List.getElem_concat_length] at hj
      rw [List.take_append_of_le_length (by omega), List.take_length]
      exact h3 j hj
theorem TOk.wf {out : List Int} (h : TOk X may n out) : ∀ x ∈ out, Wf may x := by
  have : ∀ i (hi : i < out.length), Wf may out[i] := by
    intro i
    induction i using Nat.strongRecOn with
    | ind i ih =>
      intro hi
      refine .mk _ fun j hj => ?_
      have hm := h.behind i hi j hj
      obtain ⟨q, hq, rfl⟩ := List.getElem_of_mem hm
      simp only [List.length_take] at hq
      rw [List.getElem_take]
      exact ih q (by omega) (by omega)
  intro x hx
  obtain ⟨i, hi, rfl⟩ := List.getElem_of_mem hx
  exact this i hi
/-- when it stands still, no key that is left leads to no circle -/
theorem stuck_wf {out : List Int} (hcl : ∀ k : Nat, k < n → X k = true → ∀ j ∈ may k, X j = true ∧ 0 ≤ j ∧ j < n) (hn : nextK X may n out = none) : ∀ k, Wf may k → 0 ≤ k → k < n → X k = true → k ∈ out := by
  intro k hk
  induction hk with
  | mk k _ ih =>
    intro h0 h1 hX
    obtain ⟨q, rfl⟩ := Int.eq_ofNat_of_zero_le h0
    have hf := nextK_none hn q (by omega)
    by_cases hm : (q : Int) ∈ out
    · exact hm
    · exfalso
      have : freeK X may out q = true := by
        simp only [freeK, Bool.and_eq_true, Bool.not_eq_true', List.contains_eq_mem, decide_eq_false_iff_not, List.all_eq_true, decide_eq_true_eq]
        refine ⟨⟨hX, hm⟩, fun j hj => ?_⟩
        obtain ⟨a, b, c⟩ := hcl q (by omega) hX j hj
        exact ih j hj b c a
      rw [this] at hf; cases hf
/-- a topological order of a set is one of all its keys, or some key leads to a circle -/
theorem topoP_spec (hcl : ∀ k : Nat, k < n → X k = true → ∀ j ∈ may k, X j = true ∧ 0 ≤ j ∧ j < n) : ∀ (m : Nat) (out : List Int), TOk X may n out → out.length + m = cntN X n →
    ((topoP X may n m out).2 = true ∧ TOk X may n (topoP X may n m out).1 ∧ (topoP X may n m out).1.length = cntN X n) ∨ (topoP X may n m out = ([], false) ∧ ∃ k : Nat, k < n ∧ X k = true ∧ ¬ Wf may k) := by
  intro m
  induction m with
  | zero => intro out h hl; exact .inl ⟨rfl, h, by simpa [topoP] using hl⟩
  | succ m ih =>
    intro out h hl
    rw [topoP]
    cases e : nextK X may n out with
    | some q =>
      obtain ⟨h1, h2⟩ := nextK_some e
      exact ih _ (h.push h1 h2) (by simp; omega)
    | none =>
      right
      refine ⟨rfl, ?_⟩
      have hle := sub_cnt h.nodup h.sub
      by_cases hall : ∀ q : Nat, q < n → X q = true → (q : Int) ∈ out
      · exfalso
        have : cntN X n ≤ out.length := by
          have h1 : ((List.range n).filter fun q : Nat => X q).length ≤ out.length := by
            have h2 : (((List.range n).filter fun q : Nat => X q).map fun q : Nat => (q : Int)).length ≤ out.length := by
              refine nodup_sub_len ?_ ?_
              · refine List.Pairwise.map _ (fun a b (h : a ≠ b) => ?_) (List.Pairwise.filter _ List.nodup_range)
                omega
              · intro x hx
                obtain ⟨q, hq, rfl⟩ := List.mem_map.1 hx
                obtain ⟨h3, h4⟩ := List.mem_filter.1 hq
                exact hall q (List.mem_range.1 h3) h4
            simpa using h2
          exact h1
        omega
      · simp only [Classical.not_forall] at hall
        obtain ⟨q, hq, hX, hno⟩ := hall
        exact ⟨q, hq, hX, fun hw => hno (stuck_wf hcl e q hw (by omega) (by omega) hX)⟩
theorem topoP_ok (hcl : ∀ k : Nat, k < n → X k = true → ∀ j ∈ may k, X j = true ∧ 0 ≤ j ∧ j < n) : (topoP X may n (cntN X n) []).2 = true ↔ ∀ k : Nat, k < n → X k = true → Wf may k := by
  rcases topoP_spec hcl (cntN X n) [] TOk.nil (by simp) with ⟨h1, h2, h3⟩ | ⟨h1, k, h2, h3, h4⟩
  · exact ⟨fun _ k hk hX => h2.wf k ((sub_cnt h2.nodup h2.sub).2 h3 k hk hX), fun _ => h1⟩
  · rw [h1]
    exact ⟨fun h => (by cases h), fun h => (h4 (h k h2 h3)).elim⟩
end
end Go.Proofs.Ytpccgdkidnkppaa

set_option linter.unusedVariables false
set_option linter.unusedSimpArgs false
namespace Go.Proofs.Ytpccgdkidnkppaa
open Go Go.RowKit

def noRows : Rows := fun _ => none
/-- the worlds in a run of l91Sheet: the result's block is the next one, the sheet's box is block m -/
structure ShSt (R : RdEnv) (w : World) (m p : Nat) (G : Rows) (made : List Bool) (ts : List (Value × Value × Value)) (vm vt : Value) (wr : World) : Prop where
  rd : RdAt R p wr
  turn : Turn (· = R.g) (· = R.g) w wr
  sh : Sht R.g R.B w.heap.size G made ts vm vt wr
  res : wr.heap[w.heap.size]? = some (.cells #[.slice none 0 0, .slice none 0 0] 31 (0, 0))
  box : wr.heap[m]? = some (.cells #[vm, vt] 31 (0, 0))
  bw : R.B ≤ w.heap.size
  hm : w.heap.size < m
section
variable {R : RdEnv} {w wr w2 : World} {m p p2 : Nat} {G G2 : Rows} {made : List Bool} {ts : List (Value × Value × Value)} {vm vt v' : Value}
theorem ShSt.start (h : RdAt R p w) {w1 : World} (hr : RdAt R p2 w1) (ht : Turn (· = R.g) (· = R.g) (w.alloc (.cells #[.slice none 0 0, .slice none 0 0] 31 (0, 0))) w1) :
    ShSt R w w1.heap.size p2 noRows [] [] (.slice none 0 0) (.slice none 0 0) (w1.alloc (.cells #[.slice none 0 0, .slice none 0 0] 31 (0, 0))) := by
  have hg := block_lt h.blk
  have hz : w.heap.size < w1.heap.size := by have := ht.size; simp at this; omega
  exact ⟨hr.up (below_al (Below.refl _ _) _), (((Turn.refl _ _).alloc _).trans ht).alloc _, ⟨World.ownsRow_nil _ _ _ _, World.ownsRow_nil _ _ _ _, fun b r m e => (by cases e), fun t e => (by cases e), fun i x e => (by cases e), fun b x e => (by cases e), hg⟩,
    (heap_old hz).trans ((ht.block _ (by simp) (fun e => by omega)).trans (heap_new rfl)), heap_new rfl, h.size, hz⟩
theorem ShSt.lo (h : ShSt R w m p G made ts vm vt wr) : w.heap.size ≤ wr.heap.size := h.turn.size
theorem ShSt.glt (h : ShSt R w m p G made ts vm vt wr) : R.g < w.heap.size := h.sh.glo
theorem ShSt.resG (h : ShSt R w m p G made ts vm vt wr) (x : Nat × Nat) : G w.heap.size ≠ some x := fun hx => by
  obtain ⟨_, _, cs, hb, _⟩ := h.sh.ty _ x.1 x.2 hx
  have := hb.symm.trans h.res; cases this
theorem ShSt.boxG (h : ShSt R w m p G made ts vm vt wr) (x : Nat × Nat) : G m ≠ some x := fun hx => by
  obtain ⟨_, _, cs, hb, _⟩ := h.sh.ty _ x.1 x.2 hx
  have := hb.symm.trans h.box; cases this
theorem ShSt.ne (h : ShSt R w m p G made ts vm vt wr) : vm.ownBlock ≠ some m ∧ vm.ownBlock ≠ some w.heap.size ∧ vt.ownBlock ≠ some m ∧ vt.ownBlock ≠ some w.heap.size :=
  ⟨ownsRow_ne h.sh.om h.box (fun c e => by cases e), ownsRow_ne h.sh.om h.res (fun c e => by cases e), ownsRow_ne h.sh.ot h.box (fun c e => by cases e), ownsRow_ne h.sh.ot h.res (fun c e => by cases e)⟩
theorem ShSt.move (h : ShSt R w m p G made ts vm vt wr) {F F' : Nat → Prop} (t : Turn F F' wr w2) (hF : ∀ i, F i → i = R.g ∨ dom G i) (rd : RdAt R p2 w2) (he : Ext G G2 wr.heap.size) (ty : TyH R.g R.B G2 w2) : ShSt R w m p2 G2 made ts vm vt w2 := by
  have hg := h.glt
  have hm := h.hm
  have hlo := h.lo
  refine ⟨rd, ⟨t.os.trans h.turn.os, t.tape.trans h.turn.tape, t.output.trans h.turn.output, Nat.le_trans h.lo t.size, fun i hi hn => (t.block i (by omega) (fun hf => ?_)).trans (h.turn.block i hi hn), fun i hi => .inl hi⟩, h.sh.move t hF he ty h.lo, (t.block _ (block_lt h.res) (fun hf => ?_)).trans h.res, (t.block _ (block_lt h.box) (fun hf => ?_)).trans h.box, h.bw, h.hm⟩
  · rcases hF i hf with e | ⟨x, hx⟩
    · exact hn e
    · have := h.sh.new i x hx; omega
  · rcases hF _ hf with e | ⟨x, hx⟩
    · omega
    · exact h.resG x hx
  · rcases hF _ hf with e | ⟨x, hx⟩
    · omega
    · exact h.boxG x hx
theorem ShSt.pick (h : ShSt R w m p G made ts vm vt wr) (rd : RdAt R p2 w2) (t : Turn (· = R.g) (· = R.g) wr w2) : ShSt R w m p2 G made ts vm vt w2 :=
  h.move t (fun i e => .inl e) rd (Ext.refl _ _) (h.sh.ty.turng t)
theorem ShSt.alloc (h : ShSt R w m p G made ts vm vt wr) (o : Obj) : ShSt R w m p G made ts vm vt (wr.alloc o) :=
  h.pick (h.rd.up (below_al (Below.refl _ _) _)) ((Turn.refl _ _).alloc _)
theorem ShSt.lower (h : ShSt R w m p G made ts vm vt wr) (ty : TyH R.g R.B G w2) (t : Turn (dom G) (dom G) wr w2) : ShSt R w m p G made ts vm vt w2 := by
  have hb : Below R.B wr w2 := t.below h.rd.size (fun i ⟨x, hx⟩ => (h.sh.ty i x.1 x.2 hx).1)
  exact h.move t (fun i e => .inr e) (h.rd.kept (t.block _ (block_lt h.rd.blk) (fun ⟨x, hx⟩ => (h.sh.ty _ x.1 x.2 hx).2.1 rfl)) (h.rd.below.trans hb) (Nat.le_trans h.rd.size t.size)) (Ext.refl _ _) ty
/-- another world in which all blocks but one row's and the box are as they were -/
theorem ShSt.put (h : ShSt R w m p G made ts vm vt wr) {made' : List Bool} {ts' : List (Value × Value × Value)} {vm' vt' : Value} {row : Option Nat} {j : Nat} (hg : wr.grownBy w2 row) (hr : ∀ i, row = some i → w.heap.size < i ∧ i ≠ m) (hsh : Sht R.g R.B w.heap.size G made' ts' vm' vt' w2)
    (hbx : (#[vm, vt] : Array Value).setIfInBounds j v' = #[vm', vt']) : ShSt R w m p G made' ts' vm' vt' (w2.setCell ⟨m, j, none⟩ v') := by
  have hgl := h.glt
  have hm := h.hm
  have hlo := h.lo
  have hkm : w2.heap[m]? = wr.heap[m]? := hg.block m (block_lt h.box) (fun e => (hr m e.symm).2 rfl)
  have hkr : w2.heap[w.heap.size]? = wr.heap[w.heap.size]? := hg.block _ (block_lt h.res) (fun e => by have := (hr _ e.symm).1; omega)
  have hb : Below w.heap.size wr (w2.setCell ⟨m, j, none⟩ v') := ((Below.refl _ _).grown hg hlo (fun k hk => by have := (hr k hk).1; omega)).setCell (p := ⟨m, j, none⟩) (Nat.le_of_lt hm) v'
  have b1 := hkm.trans h.box
  have n1 : vm'.ownBlock ≠ some m := ownsRow_ne hsh.om b1 (fun c e => by cases e)
  have n2 : vt'.ownBlock ≠ some m := ownsRow_ne hsh.ot b1 (fun c e => by cases e)
  refine ⟨⟨(hb.block _ hgl).trans h.rd.blk, h.rd.below.trans (hb.mono h.bw), Nat.le_trans h.rd.size hb.size⟩, ⟨hb.os.trans h.turn.os, hb.tape.trans h.turn.tape, hb.output.trans h.turn.output, Nat.le_trans hlo hb.size, fun i hi hn => (hb.block i hi).trans (h.turn.block i hi hn), fun i hi => .inl hi⟩, hsh.set _ _ n1 n2 h.boxG, ?_, ?_, h.bw, h.hm⟩
  · exact (setCell_far (by omega)).trans (hkr.trans h.res)
  · rw [← hbx]; exact setCell_block b1 j v'
theorem ShSt.app_made (h : ShSt R w m p G made ts vm vt wr) {x : Bool} (hg : wr.grownBy w2 vm.ownBlock) (ho : w2.ownsRow w.heap.size 4 1 v' (made.length + 1) (bools made ++ [.bool x])) : ShSt R w m p G (made ++ [x]) ts v' vt (w2.setCell ⟨m, 0, none⟩ v') :=
  h.put hg (fun i e => ⟨by have := (h.sh.om.lt i e).1; have h2 := h.ne.2.1; have : i ≠ w.heap.size := fun e2 => h2 (e2 ▸ e); omega, fun e2 => h.ne.1 (e2 ▸ e)⟩) (h.sh.app_made hg ho) rfl
theorem ShSt.app_task (h : ShSt R w m p G made ts vm vt wr) {x y z : Value} (hg : wr.grownBy w2 vt.ownBlock) (ho : w2.ownsRow w.heap.size 48 3 v' (ts.length + 1) (cells3 ts ++ [x, y, z])) (hv : TyV G 2 (.agg #[x, y, z]))
    (hat : ∀ i, v'.ownBlock = some i → vt.ownBlock = some i ∨ i = wr.heap.size) : ShSt R w m p G made (ts ++ [(x, y, z)]) vm v' (w2.setCell ⟨m, 1, none⟩ v') :=
  h.put hg (fun i e => ⟨by have := (h.sh.ot.lt i e).1; have h2 := h.ne.2.2.2; have : i ≠ w.heap.size := fun e2 => h2 (e2 ▸ e); omega, fun e2 => h.ne.2.2.1 (e2 ▸ e)⟩) (h.sh.app_task hg ho hv hat) rfl
theorem ShSt.cells (h : ShSt R w m p G made ts vm vt wr) : wr.cell? ⟨m, 0, none⟩ = some vm ∧ wr.cell? ⟨m, 1, none⟩ = some vt ∧ wr.frozen? ⟨m, 0, none⟩ = false ∧ wr.frozen? ⟨m, 1, none⟩ = false ∧ m < wr.heap.size :=
  ⟨cellm h.box 0, cellm h.box 1, frozenm h.box 0, frozenm h.box 1, block_lt h.box⟩
/-- .. a row's block was filled or made anew: the box reads as it did -/
theorem ShSt.cells_grown (h : ShSt R w m p G made ts vm vt wr) {row : Option Nat} (hg : wr.grownBy w2 row) (hr : row ≠ some m) : w2.cell? ⟨m, 0, none⟩ = some vm ∧ w2.cell? ⟨m, 1, none⟩ = some vt ∧ w2.frozen? ⟨m, 0, none⟩ = false ∧ w2.frozen? ⟨m, 1, none⟩ = false ∧ m < w2.heap.size := by
  have hb := (hg.block m (block_lt h.box) (fun e => hr e.symm)).trans h.box
  exact ⟨cellm hb 0, cellm hb 1, frozenm hb 0, frozenm hb 1, block_lt hb⟩
/-- a block that no row of the sheet, nor the reader, nor a variable lies in -/
def Far (R : RdEnv) (w : World) (m : Nat) (G : Rows) (vm vt : Value) (b : Nat) : Prop := vm.ownBlock ≠ some b ∧ vt.ownBlock ≠ some b ∧ (∀ x, G b ≠ some x) ∧ b ≠ w.heap.size ∧ b ≠ m ∧ b ≠ R.g ∧ w.heap.size ≤ b
theorem ShSt.far (h : ShSt R w m p G made ts vm vt wr) (b : Nat) (hb : wr.heap.size ≤ b) : Far R w m G vm vt b :=
  ⟨fun e => by have := (h.sh.om.lt b e).2; omega, fun e => by have := (h.sh.ot.lt b e).2; omega, fun x hx => by have := h.sh.ty.lt hx; omega, by have := block_lt h.res; omega, by have := block_lt h.box; omega, by have := block_lt h.rd.blk; omega, by have := h.lo; omega⟩
theorem ShSt.set (h : ShSt R w m p G made ts vm vt wr) {b : Nat} (hf : Far R w m G vm vt b) (o : Nat) (v : Value) : ShSt R w m p G made ts vm vt (wr.setCell ⟨b, o, none⟩ v) := by
  obtain ⟨f1, f2, f3, f4, f5, f6, f7⟩ := hf
  have t := setCell_turn (F := (· = b)) (w := wr) (a := ⟨b, o, none⟩) rfl v
  have hb : Below w.heap.size wr (wr.setCell ⟨b, o, none⟩ v) := t.below h.lo (fun i e => by cases e; exact f7)
  exact ⟨⟨(hb.block _ h.glt).trans h.rd.blk, h.rd.below.trans (hb.mono h.bw), Nat.le_trans h.rd.size hb.size⟩, ⟨hb.os.trans h.turn.os, hb.tape.trans h.turn.tape, hb.output.trans h.turn.output, Nat.le_trans h.lo hb.size, fun i hi hn => (hb.block i hi).trans (h.turn.block i hi hn), fun i hi => .inl hi⟩,
    h.sh.set o v f1 f2 f3, (setCell_far (fun e => f4 e.symm)).trans h.res, (setCell_far (fun e => f5 e.symm)).trans h.box, h.bw, h.hm⟩
/-- what a draw of a sheet brings -/
def DrawSh (R : RdEnv) (p c : Nat) (w : World) (e : Ending) (w' : World) : Prop :=
  ∃ p' G made ts vm vt, e = .returned (.agg #[vm, vt]) ∧ made.length = ts.length ∧ made.length ≤ 8 ∧ 2 ≤ made.length ∧ p ≤ p' ∧ p' ≤ p + c ∧ RdAt R p' w' ∧ Turn (· = R.g) (· = R.g) w w' ∧ Sht R.g R.B w.heap.size G made ts vm vt w'
theorem ShSt.done (h : ShSt R w m p2 G made ts vm vt wr) {c : Nat} {fn : Func} {t : Nat} {tmps : Array Value} (hr : fn.results = #[.cell t 31])
    (ht : tmps.getD t undef = .pointer (some ⟨w.heap.size, 0, none⟩)) (hl : made.length = ts.length ∧ made.length ≤ 8 ∧ 2 ≤ made.length) (hp : p ≤ p2 ∧ p2 ≤ p + c) :
    bodyPost Try.prog fn (DrawSh R p c w) .ret ⟨tmps, []⟩ ((wr.setCell ⟨w.heap.size, 0, none⟩ vm).setCell ⟨w.heap.size, 1, none⟩ vt) := by
  have t2 : Turn (· = w.heap.size) (· = w.heap.size) wr ((wr.setCell ⟨w.heap.size, 0, none⟩ vm).setCell ⟨w.heap.size, 1, none⟩ vt) :=
    (setCell_turn (F := (· = w.heap.size)) rfl vm).trans (setCell_turn (F := (· = w.heap.size)) rfl vt)
  have hb : Below w.heap.size wr ((wr.setCell ⟨w.heap.size, 0, none⟩ vm).setCell ⟨w.heap.size, 1, none⟩ vt) := t2.below h.lo (fun i e => by cases e; exact Nat.le_refl _)
  have hW := setCell_block (setCell_block h.res 0 vm) 1 vt
  have y0 : ((wr.setCell ⟨w.heap.size, 0, none⟩ vm).setCell ⟨w.heap.size, 1, none⟩ vt).cell? ⟨w.heap.size, 0, none⟩ = some vm := cellm hW 0
  have y1 : ((wr.setCell ⟨w.heap.size, 0, none⟩ vm).setCell ⟨w.heap.size, 1, none⟩ vt).cell? ⟨w.heap.size, 1, none⟩ = some vt := cellm hW 1
  have ht' : tmps[t]?.getD undef = .pointer (some ⟨w.heap.size, 0, none⟩) := by simpa using ht
  have fin : DrawSh R p c w (.returned (.agg #[vm, vt])) ((wr.setCell ⟨w.heap.size, 0, none⟩ vm).setCell ⟨w.heap.size, 1, none⟩ vt) :=
    ⟨p2, G, made, ts, vm, vt, rfl, hl.1, hl.2.1, hl.2.2, hp.1, hp.2, ⟨(hb.block _ h.glt).trans h.rd.blk, h.rd.below.trans (hb.mono h.bw), Nat.le_trans h.rd.size hb.size⟩,
      ⟨hb.os.trans h.turn.os, hb.tape.trans h.turn.tape, hb.output.trans h.turn.output, Nat.le_trans h.lo hb.size, fun i hi hn => (hb.block i hi).trans (h.turn.block i hi hn), fun i hi => .inl hi⟩,
      (h.sh.set _ _ h.ne.2.1 h.ne.2.2.2 h.resG).set _ _ h.ne.2.1 h.ne.2.2.2 h.resG⟩
  generalize (wr.setCell ⟨w.heap.size, 0, none⟩ vm).setCell ⟨w.heap.size, 1, none⟩ vt = W at *
  refine bodyPost_ret (v := .agg #[vm, vt]) ?_ rfl fin
  simp [results, hr, ht', go_sem, y0, y1]
end

theorem one_bool (b : Bool) : ∀ u ∈ [Value.bool b], u.oneCell' = true := by
  intro u hu; rw [List.mem_singleton.1 hu]; rfl
theorem one_task (a b : Int) (A : Option Addr) (n c : Nat) : ∀ u ∈ [Value.int .i64 a, Value.int .i64 b, Value.slice A n c], u.oneCell' = true := by
  intro u hu
  simp only [List.mem_cons, List.not_mem_nil, or_false] at hu
  rcases hu with rfl | rfl | rfl <;> rfl

set_option maxHeartbeats 4000000 in
theorem l91Sheet_calls (R : RdEnv) (hR : R.Good) (p : Nat) (hp : p + 400 ≤ 1000000) (w : World) (h : RdAt R p w) :
    Calls Try.prog 67 #[.pointer (some ⟨R.g, 0, none⟩)] w (DrawSh R p 400 w) := by
  have h1 := pick_calls R hR p (by omega) 7 _ (h.up (below_al (Below.refl _ _) (.cells #[.slice none 0 0, .slice none 0 0] 31 (0, 0))))
  replace h1 := Lib.hid h1
  replace h := Lib.hid h
  go_enter Try.func67, Try.ntmps67
  go_wp2_with fail
  refine h1.out.mono ?_
  rintro e w1 ⟨n, rfl, hn0, hn1, hr, ht⟩
  obtain ⟨n, rfl⟩ := Int.eq_ofNat_of_zero_le hn0
  have hn : n < 7 := by omega
  have hs := ShSt.start h.out hr ht
  have hz : w.heap.size < w1.heap.size := by have := ht.size; simp at this; omega
  clear h1 h hr ht
  have h2 := pick_calls R hR (p + 1) (by omega) 3 _ hs.rd
  replace h2 := Lib.hid h2
  replace hs := Lib.hid hs
  go_wp2_with fail
  refine h2.out.mono ?_
  rintro e w2 ⟨f, rfl, hf0, hf1, hr, ht⟩
  have hf : f < 3 := by omega
  have hs1 := hs.out.pick hr ht
  clear hs h2 hr ht
  have h3 := pick_calls R hR (p + 1 + 1) (by omega) 8 _ hs1.rd
  replace h3 := Lib.hid h3
  replace hs1 := Lib.hid hs1
  go_wp2_with fail
  refine h3.out.mono ?_
  rintro e w3 ⟨k, rfl, hk0, hk1, hr, ht⟩
  have hs2 := hs1.out.pick hr ht
  clear hs1 h3 hr ht
  replace hs2 := Lib.hid hs2
  go_wp2_with fail
  generalize w1.heap.size = m at hs2 ⊢
  generalize (k == 0) = wild
  go_loopw [7] (fun i wr => ∃ (j : Nat) (made : List Bool) (ts : List (Value × Value × Value)) (vm vt : Value) (G : Rows) (p2 : Nat), j ≤ n + 2 ∧ made.length = j ∧ ts.length = j ∧ p2 ≤ p + 3 + 41 * j ∧ p ≤ p2 ∧ i = .int .i64 j ∧ Hid (ShSt R w m p2 G made ts vm vt wr)) (fun i _ => n + 2 - (intOf i).toNat)
  case atStart => exact ⟨0, [], [], _, _, noRows, p + 1 + 1 + 1, Nat.zero_le _, rfl, rfl, by omega, by omega, rfl, hs2⟩
  case round =>
    obtain ⟨j, made, ts, vm, vt, G, p2, hj, hlm, hlt, hp2, hpp, rfl, hL⟩ := hrel
    by_cases hjn : j < n + 2
    · by_cases hjf : (j : Int) < 1 + f
      · have hA1a := hL.out.alloc (.cells #[.bool false] 4 (0, 0))
        obtain ⟨c0, c1, g0, g1, hmz⟩ := hL.out.cells
        replace hA1a := Lib.hid hA1a
        go_wp2_with (at_builtin; go_loud (with_reducible refine wpList_app1 (by rfl) (.tmp 34) (.tmp 35) 22 (by rfl) boolTy w.heap.size vm made.length (bools made) (by with_unfolding_all rfl) hA1a.out.sh.om wr.heap.size 1 [.bool false] (by with_unfolding_all rfl) (by with_unfolding_all rfl) ⟨_, _, heap_alloc_new wr _, rfl⟩ (one_bool _) ?_ ?_ ?_ ?_))
        · unfold maxLen; omega
        · omega
        · exact hA1a.out.lo
        intro g cap hA1w hown hgrow hat
        obtain ⟨c0, c1, g0, g1, hmz⟩ := hA1a.out.cells_grown hgrow hA1a.out.ne.1
        have hA1 := hA1a.out.app_made (x := false) (v' := .slice (some ⟨g, 0, none⟩) (j + 1) cap) hgrow (by rw [hlm]; exact hown)
        replace hA1 := Lib.hid hA1
        clear hown hgrow hat hA1a hL
        have hA2a := hA1.out.alloc (.cells #[.int .i64 0, .int .i64 0, .slice none 0 0] 48 (0, 0))
        replace hA2a := Lib.hid hA2a
        go_wp2_with (at_builtin; go_loud (with_reducible refine wpList_app1 (by rfl) (.tmp 39) (.tmp 41) 29 (by rfl) taskTy w.heap.size vt ts.length (cells3 ts) (by with_unfolding_all rfl) hA2a.out.sh.ot hA1w.heap.size 1 [.int .i64 0, .int .i64 0, .slice none 0 0] (by with_unfolding_all rfl) (by with_unfolding_all rfl) ⟨_, _, heap_new (by rw [World.size_setCell]), rfl⟩ (one_task _ _ _ _ _) ?_ ?_ ?_ ?_))
        · unfold maxLen; omega
        · omega
        · exact hA2a.out.lo
        intro g2 cap2 hA2w hown hgrow hat
        obtain ⟨c0, c1, g0, g1, hmz⟩ := hA2a.out.cells_grown hgrow hA2a.out.ne.2.2.1
        have hA2 := hA2a.out.app_task (v' := .slice (some ⟨g2, 0, none⟩) (j + 1) cap2) hgrow (by rw [hlt]; exact hown) (tyv_leaf _ _ _ _ (by omega)) (fun i hi => by cases hi; simpa using hat)
        replace hA2 := Lib.hid hA2
        clear hown hgrow hat hA2a hA1
        go_wp2_with fail
        go_roundw
        case rel => exact ⟨j + 1, _, _, _, _, _, p2, by omega, by simp [hlm], by simp [hlt], by omega, by omega, by go_num, hA2⟩
        case measure => simp [intOf]; omega
      · have hc := pick_calls R hR p2 (by omega) 10 wr hL.out.rd
        replace hc := Lib.hid hc
        go_wp2_with fail
        refine hc.out.mono ?_
        rintro e w4 ⟨x, rfl, hx0, hx1, hr2, ht2⟩
        have hL2 := hL.out.pick hr2 ht2
        clear hc hr2 ht2 hL
        replace hL2 := Lib.hid hL2
        by_cases hx : x = 0
        · subst hx
          have hA1a := hL2.out.alloc (.cells #[.bool false] 4 (0, 0))
          obtain ⟨c0, c1, g0, g1, hmz⟩ := hL2.out.cells
          replace hA1a := Lib.hid hA1a
          go_wp2_with (at_builtin; go_loud (with_reducible refine wpList_app1 (by rfl) (.tmp 34) (.tmp 35) 22 (by rfl) boolTy w.heap.size vm made.length (bools made) (by with_unfolding_all rfl) hA1a.out.sh.om w4.heap.size 1 [.bool false] (by with_unfolding_all rfl) (by with_unfolding_all rfl) ⟨_, _, heap_alloc_new w4 _, rfl⟩ (one_bool _) ?_ ?_ ?_ ?_))
          · unfold maxLen; omega
          · omega
          · exact hA1a.out.lo
          intro g cap hA1w hown hgrow hat
          obtain ⟨c0, c1, g0, g1, hmz⟩ := hA1a.out.cells_grown hgrow hA1a.out.ne.1
          have hA1 := hA1a.out.app_made (x := false) (v' := .slice (some ⟨g, 0, none⟩) (j + 1) cap) hgrow (by rw [hlm]; exact hown)
          replace hA1 := Lib.hid hA1
          clear hown hgrow hat hA1a hL2
          have hA2a := hA1.out.alloc (.cells #[.int .i64 0, .int .i64 0, .slice none 0 0] 48 (0, 0))
          replace hA2a := Lib.hid hA2a
          go_wp2_with (at_builtin; go_loud (with_reducible refine wpList_app1 (by rfl) (.tmp 39) (.tmp 41) 29 (by rfl) taskTy w.heap.size vt ts.length (cells3 ts) (by with_unfolding_all rfl) hA2a.out.sh.ot hA1w.heap.size 1 [.int .i64 0, .int .i64 0, .slice none 0 0] (by with_unfolding_all rfl) (by with_unfolding_all rfl) ⟨_, _, heap_new (by rw [World.size_setCell]), rfl⟩ (one_task _ _ _ _ _) ?_ ?_ ?_ ?_))
          · unfold maxLen; omega
          · omega
          · exact hA2a.out.lo
          intro g2 cap2 hA2w hown hgrow hat
          obtain ⟨c0, c1, g0, g1, hmz⟩ := hA2a.out.cells_grown hgrow hA2a.out.ne.2.2.1
          have hA2 := hA2a.out.app_task (v' := .slice (some ⟨g2, 0, none⟩) (j + 1) cap2) hgrow (by rw [hlt]; exact hown) (tyv_leaf _ _ _ _ (by omega)) (fun i hi => by cases hi; simpa using hat)
          replace hA2 := Lib.hid hA2
          clear hown hgrow hat hA2a hA1
          go_wp2_with fail
          go_roundw
          case rel => exact ⟨j + 1, _, _, _, _, _, p2 + 1, by omega, by simp [hlm], by simp [hlt], by omega, by omega, by go_num, hA2⟩
          case measure => simp [intOf]; omega
        · have hx' : (x == 0) = false := by simp [hx]
          cases wild with
          | true =>
            have hB1a := hL2.out.alloc (.cells #[.bool true] 4 (0, 0))
            obtain ⟨c0, c1, g0, g1, hmz⟩ := hL2.out.cells
            replace hB1a := Lib.hid hB1a
            go_wp2_with (at_builtin; go_loud (with_reducible refine wpList_app1 (by rfl) (.tmp 45) (.tmp 46) 22 (by rfl) boolTy w.heap.size vm made.length (bools made) (by with_unfolding_all rfl) hB1a.out.sh.om w4.heap.size 1 [.bool true] (by with_unfolding_all rfl) (by with_unfolding_all rfl) ⟨_, _, heap_alloc_new w4 _, rfl⟩ (one_bool _) ?_ ?_ ?_ ?_))
            · unfold maxLen; omega
            · omega
            · exact hB1a.out.lo
            intro g cap hB1w hown hgrow hat
            obtain ⟨c0, c1, g0, g1, hmz⟩ := hB1a.out.cells_grown hgrow hB1a.out.ne.1
            have hB1 := hB1a.out.app_made (x := true) (v' := .slice (some ⟨g, 0, none⟩) (j + 1) cap) hgrow (by rw [hlm]; exact hown)
            replace hB1 := Lib.hid hB1
            clear hown hgrow hat hB1a hL2
            go_wp2_with fail
            have hd := l91Fit_calls R hR G (p2 + 1) (by omega) (2 + (n : Int)) _ hB1.out.rd hB1.out.sh.ty
            replace hd := Lib.hid hd
            refine hd.out.mono ?_
            rintro e w5 ⟨q, G1, v, rfl, hv, hq, hQ, hr, ht, he, hy⟩
            have hB2 := hB1.out.move ht (fun i e => .inl e) hr he hy
            have hv' := hv
            obtain ⟨a9, b9, A9, m9, d9, rfl, _⟩ := hv'
            replace hv := Lib.hid hv
            replace hB2 := Lib.hid hB2
            clear hd hr ht he hy hB1 c0 c1 g0 g1 hmz
            obtain ⟨c0, c1, g0, g1, hmz⟩ := hB2.out.cells
            have hB3 := hB2.out.alloc (.cells #[.int .i64 a9, .int .i64 b9, .slice A9 m9 d9] 48 (0, 0))
            replace hB3 := Lib.hid hB3
            clear hB2
            have hBa := hB3.out.alloc (.cells #[.int .i64 a9, .int .i64 b9, .slice A9 m9 d9] 48 (0, 0))
            replace hBa := Lib.hid hBa
            go_wp2_with (at_builtin; go_loud (with_reducible refine wpList_app1 (by rfl) (.tmp 61) (.tmp 63) 29 (by rfl) taskTy w.heap.size vt ts.length (cells3 ts) (by with_unfolding_all rfl) hBa.out.sh.ot (w5.heap.size + 1) 1 [.int .i64 a9, .int .i64 b9, .slice A9 m9 d9] (by with_unfolding_all rfl) (by with_unfolding_all rfl) ⟨_, _, heap_new (by simp), rfl⟩ (one_task _ _ _ _ _) ?_ ?_ ?_ ?_))
            · unfold maxLen; omega
            · omega
            · exact hBa.out.lo
            intro g2 cap2 w8 hown hgrow hat
            obtain ⟨c0, c1, g0, g1, hmz⟩ := hBa.out.cells_grown hgrow hBa.out.ne.2.2.1
            have hB9 := hBa.out.app_task (v' := .slice (some ⟨g2, 0, none⟩) (j + 1) cap2) hgrow (by rw [hlt]; exact hown) hv.out (fun i hi => by cases hi; simpa using hat)
            replace hB9 := Lib.hid hB9
            clear hown hgrow hat hBa hB3
            go_wp2_with fail
            go_roundw
            case rel => exact ⟨j + 1, _, _, _, _, _, q, by omega, by simp [hlm], by simp [hlt], by omega, by omega, by go_num, hB9⟩
            case measure => simp [intOf]; omega
          | false =>
            have hB1a := hL2.out.alloc (.cells #[.bool true] 4 (0, 0))
            obtain ⟨c0, c1, g0, g1, hmz⟩ := hL2.out.cells
            replace hB1a := Lib.hid hB1a
            go_wp2_with (at_builtin; go_loud (with_reducible refine wpList_app1 (by rfl) (.tmp 45) (.tmp 46) 22 (by rfl) boolTy w.heap.size vm made.length (bools made) (by with_unfolding_all rfl) hB1a.out.sh.om w4.heap.size 1 [.bool true] (by with_unfolding_all rfl) (by with_unfolding_all rfl) ⟨_, _, heap_alloc_new w4 _, rfl⟩ (one_bool _) ?_ ?_ ?_ ?_))
            · unfold maxLen; omega
            · omega
            · exact hB1a.out.lo
            intro g cap hB1w hown hgrow hat
            obtain ⟨c0, c1, g0, g1, hmz⟩ := hB1a.out.cells_grown hgrow hB1a.out.ne.1
            have hB1 := hB1a.out.app_made (x := true) (v' := .slice (some ⟨g, 0, none⟩) (j + 1) cap) hgrow (by rw [hlm]; exact hown)
            replace hB1 := Lib.hid hB1
            clear hown hgrow hat hB1a hL2
            go_wp2_with fail
            have hd := l91Fit_calls R hR G (p2 + 1) (by omega) ((j : Int)) _ hB1.out.rd hB1.out.sh.ty
            replace hd := Lib.hid hd
            refine hd.out.mono ?_
            rintro e w5 ⟨q, G1, v, rfl, hv, hq, hQ, hr, ht, he, hy⟩
            have hB2 := hB1.out.move ht (fun i e => .inl e) hr he hy
            have hv' := hv
            obtain ⟨a9, b9, A9, m9, d9, rfl, _⟩ := hv'
            replace hv := Lib.hid hv
            replace hB2 := Lib.hid hB2
            clear hd hr ht he hy hB1 c0 c1 g0 g1 hmz
            have hB3 := hB2.out.alloc (.cells #[.int .i64 a9, .int .i64 b9, .slice A9 m9 d9] 48 (0, 0))
            have hlw := l91Lower_calls R.g R.B G1 j 2 _ _ hv.out hB3.sh.ty
            have hfar := fun i (hi : i = w5.heap.size) => hB2.out.far i (by omega)
            replace hlw := Lib.hid hlw
            replace hB3 := Lib.hid hB3
            replace hfar := Lib.hid hfar
            clear hB2
            go_wp2_with fail
            refine hlw.out.mono ?_
            rintro e w6 ⟨v6, rfl, hv6, hy6, ht6⟩
            have hB4 := hB3.out.lower hy6 ht6
            have hf6 := hfar.out _ rfl
            have hb9 := (ht6.block w5.heap.size (by simp) (fun ⟨x, hx⟩ => hf6.2.2.1 x hx)).trans (heap_new rfl)
            have hv6' := hv6
            obtain ⟨a6, b6, A6, m6, d6, rfl, _⟩ := hv6'
            have hB5 := ((hB4.set hf6 0 (.int .i64 a6)).set hf6 1 (.int .i64 b6)).set hf6 2 (.slice A6 m6 d6)
            have t0 : w6.cell? ⟨w5.heap.size, 0, none⟩ = some (.int .i64 a9) := cellm hb9 0
            have t1 : w6.cell? ⟨w5.heap.size, 1, none⟩ = some (.int .i64 b9) := cellm hb9 1
            have t2 : w6.cell? ⟨w5.heap.size, 2, none⟩ = some (.slice A9 m9 d9) := cellm hb9 2
            have r0 : w6.frozen? ⟨w5.heap.size, 0, none⟩ = false := frozenm hb9 0
            have r1 : w6.frozen? ⟨w5.heap.size, 1, none⟩ = false := frozenm hb9 1
            have r2 : w6.frozen? ⟨w5.heap.size, 2, none⟩ = false := frozenm hb9 2
            have z9 := block_lt hb9
            have zne : m ≠ w5.heap.size := fun e => hf6.2.2.2.2.1 e.symm
            obtain ⟨c0, c1, g0, g1, hmz⟩ := hB4.cells
            replace hB5 := Lib.hid hB5
            replace hv6 := Lib.hid hv6
            clear hlw hB3 hB4 hfar hf6 hb9 hy6 ht6
            have hBa := hB5.out.alloc (.cells #[.int .i64 a6, .int .i64 b6, .slice A6 m6 d6] 48 (0, 0))
            replace hBa := Lib.hid hBa
            go_wp2_with (at_builtin; go_loud (with_reducible refine wpList_app1 (by rfl) (.tmp 61) (.tmp 63) 29 (by rfl) taskTy w.heap.size vt ts.length (cells3 ts) (by with_unfolding_all rfl) hBa.out.sh.ot w6.heap.size 1 [.int .i64 a6, .int .i64 b6, .slice A6 m6 d6] (by with_unfolding_all rfl) (by with_unfolding_all rfl) ⟨_, _, heap_new (by simp), rfl⟩ (one_task _ _ _ _ _) ?_ ?_ ?_ ?_))
            · unfold maxLen; omega
            · omega
            · exact hBa.out.lo
            intro g2 cap2 w8 hown hgrow hat
            obtain ⟨c0, c1, g0, g1, hmz⟩ := hBa.out.cells_grown hgrow hBa.out.ne.2.2.1
            have hB9 := hBa.out.app_task (v' := .slice (some ⟨g2, 0, none⟩) (j + 1) cap2) hgrow (by rw [hlt]; exact hown) hv6.out (fun i hi => by cases hi; simpa using hat)
            replace hB9 := Lib.hid hB9
            clear hown hgrow hat hBa hB5
            go_wp2_with fail
            go_roundw
            case rel => exact ⟨j + 1, _, _, _, _, _, q, by omega, by simp [hlm], by simp [hlt], by omega, by omega, by go_num, hB9⟩
            case measure => simp [intOf]; omega
    · have hjn' : j = n + 2 := by omega
      subst hjn'
      obtain ⟨Am, cm, evm, _⟩ := ownsRow_cells hL.out.sh.om
      obtain ⟨At, ct, evt, _⟩ := ownsRow_cells hL.out.sh.ot
      subst evm evt
      rw [hlm, hlt] at hL
      obtain ⟨c0, c1, g0, g1, hmz⟩ := hL.out.cells
      have r0 : wr.cell? ⟨w.heap.size, 0, none⟩ = some (.slice none 0 0) := cellm hL.out.res 0
      have r1 : wr.cell? ⟨w.heap.size, 1, none⟩ = some (.slice none 0 0) := cellm hL.out.res 1
      have k0 : wr.frozen? ⟨w.heap.size, 0, none⟩ = false := frozenm hL.out.res 0
      have k1 : wr.frozen? ⟨w.heap.size, 1, none⟩ = false := frozenm hL.out.res 1
      have z0 := block_lt hL.out.res
      go_wp2_with fail
      exact hL.out.done (p := p) (c := 400) rfl rfl ⟨by omega, by omega, by omega⟩ ⟨by omega, by omega⟩
end Go.Proofs.Ytpccgdkidnkppaa

set_option linter.unusedVariables false
set_option linter.unusedSimpArgs false
namespace Go.Proofs.Ytpccgdkidnkppaa
open Go Go.RowKit

/-- a drawn sheet and drawn inputs, as a world holds them -/
structure ArgsAt (w : World) (Am : Option Addr) (cm : Nat) (At : Option Addr) (ct : Nat) (made : List Bool) (tasks : List Task) (Ai : Option Addr) (ci : Nat) (inputs : List Int) : Prop where
  sheet : SheetAt w.heap.size w Am cm At ct made tasks
  ints : IntsAt w.heap.size w Ai inputs
  len : tasks.length = made.length
  small : made.length ≤ 8
  nodes : ∀ T ∈ tasks, nodes T ≤ 13
  ilen : inputs.length ≤ 9
  icap : inputs.length ≤ ci
  imax : ci ≤ maxLen

section
variable {g B lo lo2 : Nat} {G : Rows} {made : List Bool} {ts : List (Value × Value × Value)} {vm vt vi : Value} {xs : List Int} {w w2 : World}
/-- a drawn sheet and a row of numbers -/
structure ShIn (g B lo lo2 : Nat) (G : Rows) (made : List Bool) (ts : List (Value × Value × Value)) (vm vt vi : Value) (xs : List Int) (w : World) : Prop where
  sh : Sht g B lo G made ts vm vt w
  own : w.ownsRow lo2 3 1 vi xs.length (ints xs)
  lo : g < lo2
theorem ShIn.pick (h : ShIn g B lo lo2 G made ts vm vt vi xs w) {F' : Nat → Prop} (t : Turn (· = g) F' w w2) (hlo : lo ≤ w.heap.size) : ShIn g B lo lo2 G made ts vm vt vi xs w2 :=
  ⟨h.sh.pick t hlo, ownsRow_block h.own (fun i hi => t.block i (h.own.lt i hi).2 (fun e => by have := (h.own.lt i hi).1; have := h.lo; omega)), h.lo⟩
theorem ShIn.set (h : ShIn g B lo lo2 G made ts vm vt vi xs w) {b : Nat} (hb : b < lo) (hb2 : b < lo2) (o : Nat) (v : Value) : ShIn g B lo lo2 G made ts vm vt vi xs (w.setCell ⟨b, o, none⟩ v) :=
  ⟨h.sh.set o v (fun e => by have := (h.sh.om.lt b e).1; omega) (fun e => by have := (h.sh.ot.lt b e).1; omega) (fun x hx => by have := h.sh.new b x hx; omega), ownsRow_block h.own (fun i hi => setCell_far (fun e => by have := (h.own.lt i hi).1; omega)), h.lo⟩
theorem ShIn.args (h : ShIn g B lo lo2 G made ts vm vt vi xs w) (h1 : made.length = ts.length) (h2 : made.length ≤ 8) (h3 : xs.length ≤ 9) :
    ∃ Am cm At ct tasks Ai ci, vm = .slice Am made.length cm ∧ vt = .slice At tasks.length ct ∧ vi = .slice Ai xs.length ci ∧ ArgsAt w Am cm At ct made tasks Ai ci xs := by
  obtain ⟨Am, cm, At, ct, tasks, e1, e2, e3, e4, e5⟩ := h.sh.reads
  obtain ⟨Ai, ci, e6, e7, e8, e9⟩ := ownsRow_ints h.own
  exact ⟨Am, cm, At, ct, tasks, Ai, ci, e1, e2, e6, e4, e9, by omega, h2, fun T hT => by have := e5 T hT; simpa [nb] using this, h3, e7, e8⟩
end

theorem ret_sheet2 {fn : Func} {t u v : Nat} {tmps : Array Value} {Q : Ending → World → Prop} {W : World} {m : Nat} {a b x y : Value} (hr : fn.results = #[.cell t 31, .tmp u, .tmp v])
    (ht : tmps.getD t undef = .pointer (some ⟨m, 0, none⟩)) (hu : tmps.getD u undef = x) (hv : tmps.getD v undef = y) (hW : W.heap[m]? = some (.cells #[a, b] 31 (0, 0))) (K : Q (.returned (.tuple #[.agg #[a, b], x, y])) W) : bodyPost Try.prog fn Q .ret ⟨tmps, []⟩ W := by
  have y0 : W.cell? ⟨m, 0, none⟩ = some a := cellm hW 0
  have y1 : W.cell? ⟨m, 1, none⟩ = some b := cellm hW 1
  refine bodyPost_ret (v := .tuple #[.agg #[a, b], x, y]) ?_ rfl K
  have ht' : tmps[t]?.getD undef = .pointer (some ⟨m, 0, none⟩) := by simpa using ht
  have hu' : tmps[u]?.getD undef = x := by simpa using hu
  have hv' : tmps[v]?.getD undef = y := by simpa using hv
  simp [results, hr, ht', hu', hv', go_sem, y0, y1]

/-- what a draw of a sheet, inputs and a key brings -/
def DrawKeyP (w : World) (e : Ending) (w' : World) : Prop :=
  ∃ Am cm At ct made tasks Ai ci inputs key, e = .returned (.tuple #[.agg #[.slice Am made.length cm, .slice At tasks.length ct], .slice Ai inputs.length ci, .int .i64 key]) ∧ -1 ≤ key ∧ key ≤ 9 ∧ ArgsAt w' Am cm At ct made tasks Ai ci inputs ∧ Below w.heap.size w w'

theorem ShIn.key {g B lo lo2 : Nat} {G : Rows} {made : List Bool} {ts : List (Value × Value × Value)} {vm vt vi : Value} {xs : List Int} {w w2 : World} (h : ShIn g B lo lo2 G made ts vm vt vi xs w2) (h1 : made.length = ts.length) (h2 : made.length ≤ 8) (h3 : xs.length ≤ 9) (hb : Below w.heap.size w w2) (k : Int) (hk0 : -1 ≤ k) (hk1 : k ≤ 9) :
    DrawKeyP w (.returned (.tuple #[.agg #[vm, vt], vi, .int .i64 k])) w2 := by
  obtain ⟨Am', cm', At', ct', tasks, Ai', ci', rfl, rfl, rfl, ha⟩ := h.args h1 h2 h3
  exact ⟨Am', cm', At', ct', made, tasks, Ai', ci', xs, k, rfl, hk0, hk1, ha, hb⟩

end Go.Proofs.Ytpccgdkidnkppaa
