import Derived.Test.YtkbblekengdhaaaPk2Told
import Derived.Test.YtkbblekengdhaaaPk7Told
set_option linter.unusedVariables false
set_option linter.unusedSimpArgs false
namespace Go.Proofs.Ytkbblekengdhaaa
open Go Go.RowKit

theorem mayFrom_range (t : Task) : ∀ (m : Nat), m ≤ 10 → ∀ x ∈ mayFrom t m, 0 ≤ x ∧ x ≤ 9 := by
  intro m
  induction m with
  | zero => intro _ x hx; cases hx
  | succ m ih =>
    intro hm x hx
    rw [mayFrom, List.mem_append] at hx
    rcases hx with hx | hx
    · split at hx
      · rw [List.mem_singleton.1 hx]; omega
      · cases hx
    · exact ih (by omega) x hx
theorem mayFrom_len (t : Task) : ∀ (m : Nat), (mayFrom t m).length ≤ m := by
  intro m
  induction m with
  | zero => simp [mayFrom]
  | succ m ih => rw [mayFrom, List.length_append]; split <;> simp <;> omega
theorem mayList_len (t : Task) : (mayList t).length ≤ 10 := by
  unfold mayList
  split
  · exact mayFrom_len t 10
  · simp
theorem mayList_range (t : Task) : ∀ x ∈ mayList t, 0 ≤ x ∧ x ≤ 9 := by
  intro x hx
  unfold mayList at hx
  split at hx
  · exact mayFrom_range t 10 (by omega) x hx
  · cases hx
theorem ownsRow.drewH {w : World} {base : Nat} {e : TypeId} {size : Nat} {v : Value} {n : Nat} {xs : List Value} (h : Hid (w.ownsRow base e size v n xs)) : Hid (w.drew.ownsRow base e size v n xs) := Lib.hid h.out.drew
/-- the made keys that a task may fetch -/
def mayMade (made : List Bool) (t : Task) : List Int := (mayList t).filter fun k => mkK made k

set_option maxHeartbeats 4000000 in
theorem l3May_calls (Am At : Option Addr) (cm ct : Nat) (made : List Bool) (tasks : List Task) (B : Nat) (w0 w : World) (hb : Below B w0 w) (hB : B ≤ w.heap.size) (hs : SheetAt B w0 Am cm At ct made tasks) (q : Nat) (hq : q < tasks.length) (hq9 : q ≤ 9) (hml : made.length ≤ 10) (hnod : nodes tasks[q] ≤ 1000000000) :
    Calls Try.prog 118 #[.agg #[.slice Am made.length cm, .slice At tasks.length ct], .int .i64 q] w fun e w' => ∃ v, e = .returned v ∧ w'.ownsRow w.heap.size 3 1 v (mayMade made tasks[q]).length (ints (mayMade made tasks[q])) ∧ Below w.heap.size w w' := by
  obtain ⟨bt, ot, At', ct', et, hbt, ht0, ht1, ht2, htc, htm, htp⟩ := hs.tasks.at hb q hq
  subst et
  have hbt4 : bt < w.heap.size := by omega
  have hms := hs.made
  have hcall := fun w1 (hw : Below w.heap.size w w1) => specTaskMay_calls tasks[q] hnod At' ct' B w0 w1 (below_up' hb hB hw) (Nat.le_trans hB hw.size) htc htm htp
  have hdef : mayMade made tasks[q] = (mayList tasks[q]).filter fun k => mkK made k := rfl
  have hL10 := mayList_len tasks[q]
  have hLr := mayList_range tasks[q]
  have hown0 : ((w.alloc (.cells #[.slice Am made.length cm, .slice (some ⟨bt, ot, none⟩) tasks.length ct] 26 (0, 0))).alloc (.cells #[] 3 (0, 0))).ownsRow w.heap.size 3 1 (.slice (some ⟨w.heap.size + 1, 0, none⟩) 0 0) 0 (ints []) := by
    simpa [ints] using World.ownsRow_made (base := w.heap.size) (w.alloc (.cells #[.slice Am made.length cm, .slice (some ⟨bt, ot, none⟩) tasks.length ct] 26 (0, 0))) #[] 0 (by simp) (by simp [maxLen]) rfl
  generalize mayMade made tasks[q] = M at *
  generalize mayList tasks[q] = L at *
  replace hcall := Lib.hid hcall
  replace hdef := Lib.hid hdef
  replace hLr := Lib.hid hLr
  replace hb := Lib.hid hb
  replace hms := Lib.hid hms
  replace hown0 := Lib.hid hown0
  clear htp hs htc
  go_enter Try.func118, Try.ntmps118
  go_wp2_with fail
  refine (hcall.out _ (below_al (below_al (Below.refl _ _) _) _)).mono ?_
  rintro e w1 ⟨v, rfl, hownL, h1⟩
  obtain ⟨AL, cL, rfl, hl1, hl2, hl3⟩ := ownsRow_ints hownL
  have hown1 := ownsRow_block hown0.out (fun i hi => h1.block i (hown0.out.lt i hi).2)
  have x0 : w1.cell? ⟨w.heap.size, 0, none⟩ = some (.slice Am made.length cm) := (h1.cell (p := ⟨w.heap.size, 0, none⟩) (by simp; omega)).trans (by simp)
  have b1 : Below w.heap.size w w1 := below_from (below_from h1)
  have s1 : w.heap.size < w1.heap.size := by have := h1.size; simp at this; omega
  have hfarL : ∀ i, (Value.slice AL L.length cL).ownBlock = some i → w.heap.size + 2 ≤ i := fun i hi => by have := (hownL.lt i hi).1; simpa using this
  replace hl3 := Lib.hid hl3
  replace hown1 := Lib.hid hown1
  replace b1 := Lib.hid b1
  replace hfarL := Lib.hid hfarL
  clear h1 hownL hown0 hcall ht0 ht1 ht2
  go_wp2_with fail
  have hfarL2 : ∀ b o, AL = some ⟨b, o, none⟩ → w.heap.size + 2 ≤ b ∧ 0 < 1 := fun b o e => ⟨hfarL.out b (by rw [e]; rfl), by omega⟩
  replace hfarL2 := Lib.hid hfarL2
  go_loopw [5, 7] (fun o i wr => ∃ (j : Nat) (out : List Int), j ≤ L.length ∧ i = .int .i64 j ∧ out.length ≤ j ∧ w.heap.size < wr.heap.size ∧ wr.cell? ⟨w.heap.size, 0, none⟩ = some (.slice Am made.length cm) ∧ Hid (out ++ (L.drop j).filter (fun k => mkK made k) = M) ∧ Hid (wr.ownsRow w.heap.size 3 1 o out.length (ints out)) ∧ Hid (Below w.heap.size w wr) ∧ Hid (IntsAt wr.heap.size wr AL L) ∧ Hid (∀ b oo, AL = some ⟨b, oo, none⟩ → o.ownBlock ≠ some b) ∧ Hid (o.ownBlock ≠ some w.heap.size)) (fun _ i _ => L.length - (intOf i).toNat)
  case atStart => exact ⟨0, [], Nat.zero_le _, rfl, by simp, s1, x0, Lib.hid (by rw [hdef.out]; rfl), hown1, b1, hl3, Lib.hid (fun b oo e => by have := (hfarL2.out b oo e).1; simp [Value.ownBlock]; omega), Lib.hid (by simp [Value.ownBlock])⟩
  case round =>
    obtain ⟨j, out, hj, rfl, hol, hz, hbox, he, hown, hw, hL, hfar, hne⟩ := hrel
    have hsz := hw.out.size
    by_cases hlt : j < L.length
    · obtain ⟨bL, oL, eL, hbL, y⟩ := hL.out j hlt
      have he2 := he.out
      rw [List.drop_eq_getElem_cons hlt, List.filter_cons] at he2
      have hr := hLr.out L[j] (List.getElem_mem _)
      have hfb := hfar.out bL oL eL
      obtain ⟨kq, hkq⟩ := Int.eq_ofNat_of_zero_le hr.1
      rw [hkq] at y he2
      have hkq9 : kq ≤ 9 := by omega
      subst eL
      replace hkq := Lib.hid hkq
      replace hfb := Lib.hid hfb
      cases hm : mkK made kq with
      | false =>
        rw [hm] at he2
        have he3 : out ++ (L.drop (j + 1)).filter (fun k => mkK made k) = M := by simpa using he2
        replace he3 := Lib.hid he3
        by_cases hk : kq < made.length
        · obtain ⟨bm, om, em, hbm, cmq⟩ := hms.out.at (hb.out.trans (hw.out.mono hB)) (by omega) kq hk
          have hmq : made[kq] = false := by
            unfold mkK at hm
            rw [if_neg (by omega), Int.toNat_natCast, getD_at _ hk] at hm
            exact hm
          rw [hmq] at cmq
          rw [em] at hbox
          subst em
          replace hm := Lib.hid hm
          replace hmq := Lib.hid hmq
          clear he he2
          go_wp2_with fail
          go_region
          go_wp2_with fail
          go_roundw
          case rel => exact ⟨j + 1, out, by omega, by go_num, by omega, hz, hbox, he3, ownsRow.drewH hown, Lib.hid hw.out.drew, hL, hfar, hne⟩
          case measure => simp [intOf]; omega
        · replace hm := Lib.hid hm
          clear he he2
          go_wp2_with fail
          go_region
          go_wp2_with fail
          go_roundw
          case rel => exact ⟨j + 1, out, by omega, by go_num, by omega, hz, hbox, he3, ownsRow.drewH hown, Lib.hid hw.out.drew, hL, hfar, hne⟩
          case measure => simp [intOf]; omega
      | true =>
        rw [hm] at he2
        have he3 : (out ++ [(kq : Int)]) ++ (L.drop (j + 1)).filter (fun k => mkK made k) = M := by simpa using he2
        replace he3 := Lib.hid he3
        have hk : kq < made.length := by have := mkK_range (show mkK made kq ≠ false by rw [hm]; simp); omega
        obtain ⟨bm, om, em, hbm, cmq⟩ := hms.out.at (hb.out.trans (hw.out.mono hB)) (by omega) kq hk
        have hmq : made[kq] = true := by
          unfold mkK at hm
          rw [if_neg (by omega), Int.toNat_natCast, getD_at _ hk] at hm
          exact hm
        rw [hmq] at cmq
        subst em
        replace hm := Lib.hid hm
        replace hmq := Lib.hid hmq
        have hownd := ownsRow.drewH hown
        clear he he2
        go_wp2_with fail
        go_region
        go_wp2_with (at_builtin; go_loud (with_reducible refine wpList_app1 (by rfl) (.tmp 39) (.tmp 44) 28 (by rfl) intTy w.heap.size u5 out.length (ints out) (by with_unfolding_all rfl) ((hown.out.alloc _).drew) wr.heap.size 1 [.int .i64 kq] (by with_unfolding_all rfl) (by with_unfolding_all rfl) ?_ (one_int _ _) ?_ ?_ ?_ ?_))
        · exact ⟨_, _, heap_alloc_new wr _, rfl⟩
        · unfold maxLen; omega
        · omega
        · first | omega | (simp; omega)
        intro g cap w7 hown7 hgrow7 hat7
        have hw7 := (below_al' hw.out (.cells #[.int .i64 kq] 3 (0, 0)) hsz).drew.grown hgrow7 (by simp; omega) (fun i hi => (hown.out.lt i hi).1)
        have hown7' : w7.ownsRow w.heap.size 3 1 (.slice (some ⟨g, 0, none⟩) (out.length + 1) cap) (out ++ [(kq : Int)]).length (ints (out ++ [(kq : Int)])) := by simpa [ints_append, ints] using hown7
        have hk0 : w7.heap[w.heap.size]? = wr.heap[w.heap.size]? := far_grown_drew hgrow7 hz hne.out
        have hkL : w7.heap[bL]? = wr.heap[bL]? := far_grown_drew hgrow7 hbL hfb.out
        have hbox7 := (World.cell?_of_block (w := wr) (a := ⟨w.heap.size, 0, none⟩) hk0).trans hbox
        have hz7 : wr.heap.size < w7.heap.size := by have := hgrow7.size; simp at this; omega
        have hL7 : IntsAt w7.heap.size w7 (some ⟨bL, oL, none⟩) L := fun i hi => by
          obtain ⟨b', o', e', hb', c'⟩ := hL.out i hi
          cases e'
          exact ⟨_, _, rfl, by omega, (World.cell?_of_block (w := wr) hkL).trans c'⟩
        have hg7 : ∀ b : Nat, u5.ownBlock ≠ some b → b < wr.heap.size → (Value.slice (some ⟨g, 0, none⟩) (out.length + 1) cap).ownBlock ≠ some b := fun b h1 h2 e => by
          cases e
          rcases hat7 with e | e
          · exact h1 e
          · first | omega | (dsimp only at h2; omega) | (simp at e; dsimp only at h2; omega)
        have hfar7 : ∀ b oo, (some ⟨bL, oL, none⟩ : Option Addr) = some ⟨b, oo, none⟩ → (Value.slice (some ⟨g, 0, none⟩) (out.length + 1) cap).ownBlock ≠ some b := fun b oo e => by cases e; exact hg7 _ hfb.out hbL
        have hne7 := hg7 _ hne.out hz
        have hz8 : w.heap.size < w7.heap.size := by omega
        replace hw7 := Lib.hid hw7
        replace hown7' := Lib.hid hown7'
        replace hL7 := Lib.hid hL7
        replace hfar7 := Lib.hid hfar7
        replace hne7 := Lib.hid hne7
        clear hown7 hgrow7 hat7 hk0 hkL hg7 hown hownd hL hfar hne hw
        go_wp2_with fail
        go_roundw
        case rel => exact ⟨j + 1, out ++ [(kq : Int)], by omega, by go_num, by simp; omega, hz8, hbox7, he3, hown7', hw7, hL7, hfar7, hne7⟩
        case measure => simp [intOf]; omega
    · have he2 : out = M := by
        have := he.out
        rw [List.drop_eq_nil_of_le (by omega)] at this
        simpa using this
      replace he2 := Lib.hid he2
      clear he
      go_wp2_with fail
      go_ret
      rw [← he2.out]
      exact ⟨_, rfl, hown.out, hw.out⟩
end Go.Proofs.Ytkbblekengdhaaa

set_option linter.unusedVariables false
set_option linter.unusedSimpArgs false
namespace Go.Proofs.Ytkbblekengdhaaa
open Go Go.RowKit

/-- a key that leads to no circle -/
inductive Wf (may : Int → List Int) : Int → Prop
  | mk (k : Int) : (∀ j, j ∈ may k → Wf may j) → Wf may k

/-- no key of a circle is one -/
theorem wf_no_cycle {may : Int → List Int} {l : List Int} (hn : l ≠ []) (hc : ∀ i (h : i < l.length), l[(i + 1) % l.length]'(Nat.mod_lt _ (by omega)) ∈ may l[i]) : ∀ k, Wf may k → k ∉ l := by
  intro k h
  induction h with
  | mk k _ ih =>
    intro hk
    obtain ⟨i, hi, rfl⟩ := List.getElem_of_mem hk
    exact ih _ (hc i hi) (List.getElem_mem _)

/-! the reference's passes -/
def passKs (may : Int → List Int) : List Int → (Int → Bool) → (Int → Bool)
  | [], d => d
  | k :: ks, d => passKs may ks (fun i => if i = k then (may k).all d else d i)
theorem passKs_wf {may : Int → List Int} : ∀ (ks : List Int) (d : Int → Bool), (∀ i, d i = true → Wf may i) → ∀ i, passKs may ks d i = true → Wf may i := by
  intro ks
  induction ks with
  | nil => intro d h i hi; exact h i hi
  | cons k ks ih =>
    intro d h i hi
    refine ih _ (fun j hj => ?_) i hi
    by_cases e : j = k
    · subst e
      simp only [if_true] at hj
      rw [List.all_eq_true] at hj
      exact .mk _ (fun m hm => h m (hj m hm))
    · simp only [e, if_false] at hj
      exact h j hj

/-- what is done stays done -/
theorem passKs_mono {may : Int → List Int} : ∀ (ks : List Int) (d : Int → Bool), (∀ i, d i = true → ∀ j ∈ may i, d j = true) → (∀ i, d i = true → passKs may ks d i = true) ∧ (∀ i, passKs may ks d i = true → ∀ j ∈ may i, passKs may ks d j = true) := by
  intro ks
  induction ks with
  | nil => intro d h; exact ⟨fun i hi => hi, h⟩
  | cons k ks ih =>
    intro d h
    have h1 : ∀ i, d i = true → (if i = k then (may k).all d else d i) = true := fun i hi => by
      by_cases e : i = k
      · subst e; rw [if_pos rfl, List.all_eq_true]; exact h i hi
      · rw [if_neg e]; exact hi
    have h2 : ∀ i, (if i = k then (may k).all d else d i) = true → ∀ j ∈ may i, (if j = k then (may k).all d else d j) = true := fun i hi j hj => by
      by_cases e : i = k
      · subst e
        rw [if_pos rfl, List.all_eq_true] at hi
        exact h1 j (hi j hj)
      · rw [if_neg e] at hi
        exact h1 j (h i hi j hj)
    obtain ⟨a, b⟩ := ih _ h2
    exact ⟨fun i hi => a i (h1 i hi), b⟩

/-- a key all of whose keys are done is done behind a pass -/
theorem passKs_adds {may : Int → List Int} : ∀ (ks : List Int) (d : Int → Bool), (∀ i, d i = true → ∀ j ∈ may i, d j = true) → ∀ k ∈ ks, (∀ j ∈ may k, d j = true) → passKs may ks d k = true := by
  intro ks
  induction ks with
  | nil => intro d _ k hk; cases hk
  | cons q ks ih =>
    intro d h k hk hm
    have h1 : ∀ i, d i = true → (if i = q then (may q).all d else d i) = true := fun i hi => by
      by_cases e : i = q
      · subst e; rw [if_pos rfl, List.all_eq_true]; exact h i hi
      · rw [if_neg e]; exact hi
    have h2 : ∀ i, (if i = q then (may q).all d else d i) = true → ∀ j ∈ may i, (if j = q then (may q).all d else d j) = true := fun i hi j hj => by
      by_cases e : i = q
      · subst e
        rw [if_pos rfl, List.all_eq_true] at hi
        exact h1 j (hi j hj)
      · rw [if_neg e] at hi
        exact h1 j (h i hi j hj)
    rcases List.mem_cons.1 hk with rfl | hk
    · exact (passKs_mono ks _ h2).1 k (by rw [if_pos rfl, List.all_eq_true]; exact hm)
    · exact ih _ h2 k hk (fun j hj => h1 j (hm j hj))
end Go.Proofs.Ytkbblekengdhaaa

set_option linter.unusedVariables false
set_option linter.unusedSimpArgs false
namespace Go.Proofs.Ytkbblekengdhaaa
open Go Go.RowKit

/-! what is reached -/
inductive Reach (mk : Int → Bool) (nx : Int → List Int) (l : List Int) : Int → Prop
  | here (k : Int) : k ∈ l → mk k = true → Reach mk nx l k
  | next (k j : Int) : Reach mk nx l k → j ∈ nx k → mk j = true → Reach mk nx l j
section
variable {mk : Int → Bool} {nx : Int → List Int}
theorem Reach.lift {l l' : List Int} (h : ∀ k ∈ l', mk k = true → Reach mk nx l k) : ∀ {k}, Reach mk nx l' k → Reach mk nx l k := by
  intro k hk
  induction hk with
  | here k h1 h2 => exact h k h1 h2
  | next k j _ h2 h3 ih => exact .next k j ih h2 h3
theorem Reach.mono {l l' : List Int} (h : ∀ k ∈ l', k ∈ l) {k : Int} : Reach mk nx l' k → Reach mk nx l k := Reach.lift fun k hk hm => .here k (h k hk) hm
theorem Reach.isMade {l : List Int} {k : Int} (h : Reach mk nx l k) : mk k = true := by cases h <;> assumption

/-- what a walk over a list adds -/
structure RStep (mk : Int → Bool) (nx : Int → List Int) (X : Int → Bool) (l : List Int) (Y : Int → Bool) : Prop where
  mono : ∀ k, X k = true → Y k = true
  hit : ∀ k ∈ l, mk k = true → Y k = true
  new : ∀ k, Y k = true → X k = false → Reach mk nx l k
  closed : ∀ k, Y k = true → X k = false → ∀ j ∈ nx k, mk j = true → Y j = true
theorem RStep.nil (X : Int → Bool) : RStep mk nx X [] X := ⟨fun _ h => h, fun k h => (by cases h), fun k h1 h2 => (by rw [h1] at h2; cases h2), fun k h1 h2 => (by rw [h1] at h2; cases h2)⟩
/-- a key that is not walked into -/
theorem RStep.skip {X Y : Int → Bool} {l : List Int} {k : Int} (h : RStep mk nx X l Y) (hk : mk k = false ∨ Y k = true) : RStep mk nx X (l ++ [k]) Y := by
  refine ⟨h.mono, fun j hj hm => ?_, fun j h1 h2 => Reach.mono (by simp +contextual) (h.new j h1 h2), h.closed⟩
  rcases List.mem_append.1 hj with hj | hj
  · exact h.hit j hj hm
  · rw [List.mem_singleton.1 hj] at hm ⊢
    exact hk.elim (fun e => by rw [e] at hm; cases hm) id
def setX (X : Int → Bool) (k : Int) : Int → Bool := fun j => if j = k then true else X j
theorem RStep.walk {X Y Z : Int → Bool} {l : List Int} {k : Int} (h : RStep mk nx X l Y) (hm : mk k = true) (hy : Y k = false) (h2 : RStep mk nx (setX Y k) (nx k) Z) : RStep mk nx X (l ++ [k]) Z := by
  have hYZ : ∀ j, Y j = true → Z j = true := fun j hj => h2.mono j (by simp only [setX]; split <;> simp [hj])
  have hkZ : Z k = true := h2.mono k (by simp [setX])
  have hin : Reach mk nx (l ++ [k]) k := .here k (by simp) hm
  refine ⟨fun j hj => hYZ j (h.mono j hj), fun j hj hmj => ?_, fun j h1 h3 => ?_, fun j h1 h3 i hi hmi => ?_⟩
  · rcases List.mem_append.1 hj with hj | hj
    · exact hYZ j (h.hit j hj hmj)
    · rw [List.mem_singleton.1 hj]; exact hkZ
  · by_cases hYj : Y j = true
    · exact Reach.mono (by simp +contextual) (h.new j hYj h3)
    · by_cases e : j = k
      · subst e; exact hin
      · have := h2.new j h1 (by simp only [setX, if_neg e]; simpa using hYj)
        exact Reach.lift (fun i hi hmi => .next k i hin hi hmi) this
  · by_cases hYj : Y j = true
    · exact hYZ i (h.closed j hYj h3 i hi hmi)
    · by_cases e : j = k
      · subst e; exact h2.hit i hi hmi
      · exact h2.closed j h1 (by simp only [setX, if_neg e]; simpa using hYj) i hi hmi
/-- from nothing: just what is reached -/
theorem RStep.reach {l : List Int} {Y : Int → Bool} (h : RStep mk nx (fun _ => false) l Y) (k : Int) : Y k = true ↔ Reach mk nx l k := by
  refine ⟨fun hk => h.new k hk rfl, fun hk => ?_⟩
  induction hk with
  | here k h1 h2 => exact h.hit k h1 h2
  | next k j _ h2 h3 ih => exact h.closed k ih rfl j h2 h3
end

/-! how many there are -/
def cntN (X : Int → Bool) (n : Nat) : Nat := ((List.range n).filter fun q : Nat => X q).length
theorem cntN_le (X : Int → Bool) (n : Nat) : cntN X n ≤ n := by
  have := List.length_filter_le (fun q : Nat => X q) (List.range n)
  simpa [cntN] using this
theorem cntN_congr {X Y : Int → Bool} {n : Nat} (h : ∀ q : Nat, q < n → X q = Y q) : cntN X n = cntN Y n := by
  unfold cntN
  congr 1
  apply List.filter_congr
  intro q hq
  exact h q (List.mem_range.1 hq)
theorem cntN_set {X : Int → Bool} : ∀ {n : Nat} {k : Nat}, k < n → X k = false → cntN (setX X k) n = cntN X n + 1 := by
  intro n
  induction n with
  | zero => intro k h; omega
  | succ n ih =>
    intro k hk hX
    unfold cntN
    rw [List.range_succ, List.filter_append, List.filter_append, List.length_append, List.length_append]
    by_cases e : k = n
    · subst e
      have h1 := cntN_congr (X := setX X k) (Y := X) (n := k) (fun q hq => by simp only [setX]; rw [if_neg (by omega)])
      unfold cntN at h1
      rw [h1]
      simp [setX, hX]
    · have h1 := ih (k := k) (by omega) hX
      unfold cntN at h1
      rw [h1]
      have h2 : setX X k n = X n := by simp only [setX]; rw [if_neg (by omega)]
      simp only [List.filter_cons, h2, List.filter_nil]
      split <;> simp <;> omega
theorem cntN_zero (n : Nat) : cntN (fun _ => false) n = 0 := by simp [cntN]
theorem nodup_sub_len {α : Type} [BEq α] [LawfulBEq α] : ∀ {l m : List α}, l.Nodup → (∀ x ∈ l, x ∈ m) → l.length ≤ m.length := by
  intro l
  induction l with
  | nil => intro m _ _; simp
  | cons a l ih =>
    intro m hn h
    obtain ⟨h1, h2⟩ := List.nodup_cons.1 hn
    have ha := h a (by simp)
    have h3 := ih (m := m.erase a) h2 (fun x hx => (List.mem_erase_of_ne (fun e : x = a => h1 (by rw [← e]; exact hx))).2 (h x (by simp [hx])))
    have h4 := List.length_erase_of_mem ha
    have h5 := List.length_pos_of_mem ha
    simp; omega
/-- members of a set, each once, are not more than there are; if as many, they are all -/
theorem sub_cnt {X : Int → Bool} {n : Nat} {l : List Int} (hn : l.Nodup) (hl : ∀ x ∈ l, 0 ≤ x ∧ x < n ∧ X x = true) : l.length ≤ cntN X n ∧ (l.length = cntN X n → ∀ q : Nat, q < n → X q = true → (q : Int) ∈ l) := by
  have h0 : ∀ (l : List Int), l.Nodup → (∀ x ∈ l, 0 ≤ x ∧ x < n ∧ X x = true) → l.length ≤ cntN X n := by
    intro l hn hl
    have e : ∀ (m : Nat) (l : List Int), l.Nodup → (∀ x ∈ l, 0 ≤ x ∧ x < (m : Int) ∧ X x = true) → l.length ≤ cntN X m := by
      intro m
      induction m with
      | zero =>
        intro l _ h
        cases l with
        | nil => simp
        | cons a l => have := h a (by simp); omega
      | succ m ih =>
        intro l hn h
        have h1 := ih (l.erase (m : Int)) (hn.erase _) (fun x hx => by
          have h2 := (hn.mem_erase_iff).1 hx
          have := h x h2.2
          exact ⟨this.1, by have := h2.1; omega, this.2.2⟩)
        have h2 := List.length_erase (a := (m : Int)) (l := l)
        have h3 : cntN X (m + 1) = cntN X m + if X m then 1 else 0 := by
          unfold cntN
          rw [List.range_succ, List.filter_append, List.length_append]
          simp only [List.filter_cons, List.filter_nil]
          split <;> simp
        split at h2
        · rename_i hm
          rw [if_pos (h _ hm).2.2] at h3
          omega
        · omega
    exact e n l hn hl
  refine ⟨h0 l hn hl, fun he q hq hX => ?_⟩
  by_cases hm : (q : Int) ∈ l
  · exact hm
  · exfalso
    have := h0 ((q : Int) :: l) (List.nodup_cons.2 ⟨hm, hn⟩) (fun x hx => by
      rcases List.mem_cons.1 hx with rfl | hx
      · exact ⟨by omega, by omega, hX⟩
      · exact hl x hx)
    simp at this
    omega

/-! topological order: always the least one that is free -/
def freeK (X : Int → Bool) (may : Int → List Int) (out : List Int) (k : Int) : Bool := X k && !out.contains k && (may k).all fun j => out.contains j
def nextK (X : Int → Bool) (may : Int → List Int) (n : Nat) (out : List Int) : Option Nat := (List.range n).find? fun q : Nat => freeK X may out q
def topoP (X : Int → Bool) (may : Int → List Int) (n : Nat) : Nat → List Int → List Int × Bool
  | 0, out => (out, true)
  | m + 1, out => match nextK X may n out with
    | none => ([], false)
    | some q => topoP X may n m (out ++ [(q : Int)])
section
variable {X : Int → Bool} {may : Int → List Int} {n : Nat}
theorem nextK_some {out : List Int} {q : Nat} (h : nextK X may n out = some q) : q < n ∧ freeK X may out q = true := by
  unfold nextK at h
  have h1 := List.find?_some h
  have h2 := List.mem_of_find?_eq_some h
  exact ⟨List.mem_range.1 h2, h1⟩
theorem nextK_none {out : List Int} (h : nextK X may n out = none) : ∀ q : Nat, q < n → freeK X may out q = false := by
  intro q hq
  unfold nextK at h
  have := List.find?_eq_none.1 h q (List.mem_range.2 hq)
  simpa using this
theorem nextK_at {out : List Int} {q : Nat} (hq : q < n) (hf : freeK X may out q = true) (h : ∀ j : Nat, j < q → freeK X may out j = false) : nextK X may n out = some q := by
  unfold nextK
  rw [List.find?_range_eq_some]
  exact ⟨hf, by simpa using hq, fun j hj => by simp [h j hj]⟩
/-- what is put out so far -/
structure TOk (X : Int → Bool) (may : Int → List Int) (n : Nat) (out : List Int) : Prop where
  nodup : out.Nodup
  sub : ∀ x ∈ out, 0 ≤ x ∧ x < n ∧ X x = true
  behind : ∀ i (h : i < out.length), ∀ j ∈ may out[i], j ∈ out.take i
theorem TOk.nil : TOk X may n [] := ⟨List.nodup_nil, fun x h => (by cases h), fun i h => (by simp at h)⟩
theorem TOk.push {out : List Int} {q : Nat} (h : TOk X may n out) (hq : q < n) (hf : freeK X may out q = true) : TOk X may n (out ++ [(q : Int)]) := by
  simp only [freeK, Bool.and_eq_true, Bool.not_eq_true', List.contains_eq_mem, decide_eq_false_iff_not, List.all_eq_true, decide_eq_true_eq] at hf
  obtain ⟨⟨h1, h2⟩, h3⟩ := hf
  refine ⟨?_, fun x hx => ?_, fun i hi j hj => ?_⟩
  · rw [List.nodup_append]
    exact ⟨h.nodup, by simp, fun a ha b hb => by simp only [List.mem_singleton] at hb; subst hb; intro e; exact h2 (e ▸ ha)⟩
  · rcases List.mem_append.1 hx with hx | hx
    · exact h.sub x hx
    · rw [List.mem_singleton.1 hx]; exact ⟨by omega, by omega, h1⟩
  · simp only [List.length_append, List.length_cons, List.length_nil] at hi
    by_cases hlt : i < out.length
    · rw [List.getElem_append_left hlt] at hj
      rw [List.take_append_of_le_length (by omega)]
      exact h.behind i hlt j hj
    · have e : i = out.length := by omega
      subst e
      simp only [List.getElem_concat_length] at hj
      rw [List.take_append_of_le_length (by omega), List.take_length]
      exact h3 j hj
theorem TOk.wf {out : List Int} (h : TOk X may n out) : ∀ x ∈ out, Wf may x := by
  have : ∀ i (hi : i < out.length), Wf may out[i] := by
    intro i
    induction i using Nat.strongRecOn with
    | ind i ih =>
      intro hi
      refine .mk _ fun j hj => ?_
      have hm := h.behind i hi j hj
      obtain ⟨q, hq, rfl⟩ := List.getElem_of_mem hm
      simp only [List.length_take] at hq
      rw [List.getElem_take]
      exact ih q (by omega) (by omega)
  intro x hx
  obtain ⟨i, hi, rfl⟩ := List.getElem_of_mem hx
  exact this i hi
/-- when it stands still, no key that is left leads to no circle -/
theorem stuck_wf {out : List Int} (hcl : ∀ k : Nat, k < n → X k = true → ∀ j ∈ may k, X j = true ∧ 0 ≤ j ∧ j < n) (hn : nextK X may n out = none) : ∀ k, Wf may k → 0 ≤ k → k < n → X k = true → k ∈ out := by
  intro k hk
  induction hk with
  | mk k _ ih =>
    intro h0 h1 hX
    obtain ⟨q, rfl⟩ := Int.eq_ofNat_of_zero_le h0
    have hf := nextK_none hn q (by omega)
    by_cases hm : (q : Int) ∈ out
    · exact hm
    · exfalso
      have : freeK X may out q = true := by
        simp only [freeK, Bool.and_eq_true, Bool.not_eq_true', List.contains_eq_mem, decide_eq_false_iff_not, List.all_eq_true, decide_eq_true_eq]
        refine ⟨⟨hX, hm⟩, fun j hj => ?_⟩
        obtain ⟨a, b, c⟩ := hcl q (by omega) hX j hj
        exact ih j hj b c a
      rw [this] at hf; cases hf
/-- a topological order of a set is one of all its keys, or some key leads to a circle -/
theorem topoP_spec (hcl : ∀ k : Nat, k < n → X k = true → ∀ j ∈ may k, X j = true ∧ 0 ≤ j ∧ j < n) : ∀ (m : Nat) (out : List Int), TOk X may n out → out.length + m = cntN X n →
    ((topoP X may n m out).2 = true ∧ TOk X may n (topoP X may n m out).1 ∧ (topoP X may n m out).1.length = cntN X n) ∨ (topoP X may n m out = ([], false) ∧ ∃ k : Nat, k < n ∧ X k = true ∧ ¬ Wf may k) := by
  intro m
  induction m with
  | zero => intro out h hl; exact .inl ⟨rfl, h, by simpa [topoP] using hl⟩
  | succ m ih =>
    intro out h hl
    rw [topoP]
    cases e : nextK X may n out with
    | some q =>
      obtain ⟨h1, h2⟩ := nextK_some e
      exact ih _ (h.push h1 h2) (by simp; omega)
    | none =>
      right
      refine ⟨rfl, ?_⟩
      have hle := sub_cnt h.nodup h.sub
      by_cases hall : ∀ q : Nat, q < n → X q = true → (q : Int) ∈ out
      · exfalso
        have : cntN X n ≤ out.length := by
          have h1 : ((List.range n).filter fun q : Nat => X q).length ≤ out.length := by
            have h2 : (((List.range n).filter fun q : Nat => X q).map fun q : Nat => (q : Int)).length ≤ out.length := by
              refine nodup_sub_len ?_ ?_
              · refine List.Pairwise.map _ (fun a b (h : a ≠ b) => ?_) (List.Pairwise.filter _ List.nodup_range)
                omega
              · intro x hx
                obtain ⟨q, hq, rfl⟩ := List.mem_map.1 hx
                obtain ⟨h3, h4⟩ := List.mem_filter.1 hq
                exact hall q (List.mem_range.1 h3) h4
            simpa using h2
          exact h1
        omega
      · simp only [Classical.not_forall] at hall
        obtain ⟨q, hq, hX, hno⟩ := hall
        exact ⟨q, hq, hX, fun hw => hno (stuck_wf hcl e q hw (by omega) (by omega) hX)⟩
theorem topoP_ok (hcl : ∀ k : Nat, k < n → X k = true → ∀ j ∈ may k, X j = true ∧ 0 ≤ j ∧ j < n) : (topoP X may n (cntN X n) []).2 = true ↔ ∀ k : Nat, k < n → X k = true → Wf may k := by
  rcases topoP_spec hcl (cntN X n) [] TOk.nil (by simp) with ⟨h1, h2, h3⟩ | ⟨h1, k, h2, h3, h4⟩
  · exact ⟨fun _ k hk hX => h2.wf k ((sub_cnt h2.nodup h2.sub).2 h3 k hk hX), fun _ => h1⟩
  · rw [h1]
    exact ⟨fun h => (by cases h), fun h => (h4 (h k h2 h3)).elim⟩
end
end Go.Proofs.Ytkbblekengdhaaa

set_option linter.unusedVariables false
set_option linter.unusedSimpArgs false
namespace Go.Proofs.Ytkbblekengdhaaa
open Go Go.RowKit

/-! the reader of a code -/
theorem xor_i64 (a b : Nat) (ha : a < 1099511627776) (hb : b < 1099511627776) : 0 ≤ bits .xor .i64 (a : Int) (b : Int) := by
  have hx : a ^^^ b < 2 ^ 40 := Nat.xor_lt_two_pow (by omega) (by omega)
  have h1 : (BitVec.ofInt 64 (a : Int)).toNat = a := by
    rw [BitVec.ofInt_natCast, BitVec.toNat_ofNat]; exact Nat.mod_eq_of_lt (by omega)
  have h2 : (BitVec.ofInt 64 (b : Int)).toNat = b := by
    rw [BitVec.ofInt_natCast, BitVec.toNat_ofNat]; exact Nat.mod_eq_of_lt (by omega)
  show 0 ≤ IntKind.i64.wrap ((BitVec.ofInt 64 (a : Int) ^^^ BitVec.ofInt 64 (b : Int)).toNat : Int)
  rw [BitVec.toNat_xor, h1, h2]
  have e : IntKind.i64.wrap ((a ^^^ b : Nat) : Int) = wrap64 ((a ^^^ b : Nat) : Int) := by
    simp [IntKind.wrap, wrap64, IntKind.bits, IntKind.signed]; omega
  rw [e]; unfold wrap64; omega
theorem xor_tmod (x n : Int) (h0 : 0 ≤ x) (h1 : x ≤ 1000000000) (hn : 1 ≤ n) : 0 ≤ (bits .xor .i64 x (x / 64)).tmod n ∧ (bits .xor .i64 x (x / 64)).tmod n < n := by
  obtain ⟨a, rfl⟩ := Int.eq_ofNat_of_zero_le h0
  have h := xor_i64 a (a / 64) (by omega) (by omega)
  have e : ((a / 64 : Nat) : Int) = (a : Int) / 64 := by omega
  rw [e] at h
  exact ⟨Int.tmod_nonneg _ h, Int.tmod_lt_of_pos _ (by omega)⟩
structure RdEnv where
  A : Option Addr
  c : Nat
  bytes : List Int
  B : Nat
  w0 : World
  g : Nat
structure RdEnv.Good (R : RdEnv) : Prop where
  row : RowAt (fun b : Int => Value.int .u8 b) R.B R.w0 R.A R.bytes
  len : R.bytes.length ≤ 2000
  le : R.bytes.length ≤ R.c
  cap : R.c ≤ maxLen
  byte : ∀ b ∈ R.bytes, 0 ≤ b ∧ b ≤ 255
  hg : R.B ≤ R.g
structure RdAt (R : RdEnv) (p : Nat) (w : World) : Prop where
  blk : w.heap[R.g]? = some (.cells #[.slice R.A R.bytes.length R.c, .int .i64 p] 93 (0, 0))
  below : Below R.B R.w0 w
  size : R.B ≤ w.heap.size
def Picks (R : RdEnv) (p : Nat) (n : Int) (w : World) (e : Ending) (w' : World) : Prop :=
  ∃ v : Int, e = .returned (.int .i64 v) ∧ 0 ≤ v ∧ (v < n ∨ v = 0) ∧ RdAt R (p + 1) w' ∧ Turn (· = R.g) (· = R.g) w w'

theorem RdAt.step {R : RdEnv} {p : Nat} {w : World} (h : RdAt R p w) (hg : R.B ≤ R.g) : RdAt R (p + 1) (w.setCell ⟨R.g, 1, none⟩ (.int .i64 (p + 1 : Nat))) ∧ Turn (· = R.g) (· = R.g) w (w.setCell ⟨R.g, 1, none⟩ (.int .i64 (p + 1 : Nat))) := by
  have t := setCell_turn (F := (· = R.g)) (w := w) (a := ⟨R.g, 1, none⟩) rfl (.int .i64 (p + 1 : Nat))
  exact ⟨⟨(setCell_block h.blk 1 _).trans rfl, h.below.trans (t.below h.size (fun i hi => by cases hi; exact hg)), Nat.le_trans h.size t.size⟩, t⟩
theorem RdAt.drewN {R : RdEnv} {p : Nat} {w : World} (h : RdAt R p w) (n : Nat) : RdAt R p (w.drewN n) := ⟨h.blk, ⟨h.below.os, h.below.tape, h.below.output, h.below.size, h.below.block⟩, h.size⟩

set_option maxHeartbeats 1000000 in
theorem pick_zero (R : RdEnv) (hR : R.Good) (p : Nat) (hp : p ≤ 1000000) (n : Int) (w : World) (h : RdAt R p w) (hn : n < 1 ∨ R.bytes = []) :
    Calls Try.prog 70 #[.pointer (some ⟨R.g, 0, none⟩), .int .i64 n] w (Picks R p n w) := by
  have x1 : w.cell? ⟨R.g, 1, none⟩ = some (.int .i64 p) := (cellm h.blk 1).trans rfl
  have f1 : w.frozen? ⟨R.g, 1, none⟩ = false := frozenm h.blk 1
  have hs := h.step hR.hg
  have y0 : (w.setCell ⟨R.g, 1, none⟩ (.int .i64 (p + 1 : Nat))).cell? ⟨R.g, 0, none⟩ = some (.slice R.A R.bytes.length R.c) := (cellm hs.1.blk 0).trans rfl
  have e1 : ((p + 1 : Nat) : Int) = (p : Int) + 1 := by omega
  rw [e1] at y0
  simp only [e1] at hs
  by_cases h1 : n < 1
  · replace hs := Lib.hid hs
    replace e1 := Lib.hid e1
    clear h hR hn y0
    go_enter Try.func70, Try.ntmps70
    go_wp2_with fail
    go_ret
    exact ⟨0, rfl, by omega, .inr rfl, hs.out.1, hs.out.2⟩
  · have hb : R.bytes = [] := hn.resolve_left h1
    have hb' : ((R.bytes.length : Nat) : Int) = 0 := by rw [hb]; rfl
    replace hs := Lib.hid hs
    replace e1 := Lib.hid e1
    replace hb := Lib.hid hb
    clear h hR hn
    go_enter Try.func70, Try.ntmps70
    go_wp2_with fail
    go_ret
    exact ⟨0, rfl, by omega, .inr rfl, hs.out.1, hs.out.2⟩

set_option maxHeartbeats 1000000 in
theorem pick_some (R : RdEnv) (hR : R.Good) (p : Nat) (hp : p ≤ 1000000) (n : Int) (w : World) (h : RdAt R p w) (hn : 1 ≤ n) (hb : R.bytes ≠ []) :
    Calls Try.prog 70 #[.pointer (some ⟨R.g, 0, none⟩), .int .i64 n] w (Picks R p n w) := by
  have x1 : w.cell? ⟨R.g, 1, none⟩ = some (.int .i64 p) := (cellm h.blk 1).trans rfl
  have f1 : w.frozen? ⟨R.g, 1, none⟩ = false := frozenm h.blk 1
  have hs := h.step hR.hg
  have hlen := hR.len
  have hpos : 0 < R.bytes.length := by
    cases hb2 : R.bytes with
    | nil => exact absurd hb2 hb
    | cons x l => simp
  have hb' : (((R.bytes.length : Nat) : Int) == 0) = false := by simp; omega
  have e1 : ((p + 1 : Nat) : Int) = (p : Int) + 1 := by omega
  simp only [e1] at hs
  obtain ⟨w1, hw1⟩ : ∃ w1, w.setCell ⟨R.g, 1, none⟩ (.int .i64 ((p : Int) + 1)) = w1 := ⟨_, rfl⟩
  rw [hw1] at hs
  have y0 : w1.cell? ⟨R.g, 0, none⟩ = some (.slice R.A R.bytes.length R.c) := (cellm hs.1.blk 0).trans rfl
  have y1 : w1.cell? ⟨R.g, 1, none⟩ = some (.int .i64 ((p : Int) + 1)) := by have := (cellm hs.1.blk 1).trans rfl; rw [e1] at this; exact this
  have hcell := fun (w2 : World) (hb2 : Below R.B R.w0 w2) (hB2 : R.B ≤ w2.heap.size) (i : Nat) (hi : i < R.bytes.length) => hR.row.at hb2 hB2 i hi
  by_cases hlt : p < R.bytes.length
  · obtain ⟨b, o, e2, hbl, hc⟩ := hcell w1 hs.1.below hs.1.size p hlt
    have hby := hR.byte _ (List.getElem_mem hlt)
    generalize hx : R.bytes[p] = x at *
    replace hs := Lib.hid hs
    replace e1 := Lib.hid e1
    replace hx := Lib.hid hx
    replace hcell := Lib.hid hcell
    clear h hR hb
    go_enter Try.func70, Try.ntmps70
    go_wp2_with fail
    go_ret
    exact ⟨_, rfl, Int.emod_nonneg _ (by omega), .inl (Int.emod_lt_of_pos _ (by omega)), hs.out.1, hs.out.2⟩
  · have hL0 : (0 : Int) < (R.bytes.length : Int) := by omega
    have hi1 : p % R.bytes.length < R.bytes.length := Nat.mod_lt _ hpos
    have hi2 : (p * 7 + 3) % R.bytes.length < R.bytes.length := Nat.mod_lt _ hpos
    obtain ⟨b, o, e2, hbl, hc1⟩ := hcell w1 hs.1.below hs.1.size _ hi1
    obtain ⟨b', o', e3, _, hc2⟩ := hcell w1 hs.1.below hs.1.size _ hi2
    rw [e2] at e3
    cases e3
    have hby1 := hR.byte _ (List.getElem_mem hi1)
    have hby2 := hR.byte _ (List.getElem_mem hi2)
    generalize hx : R.bytes[p % R.bytes.length] = x at *
    generalize hy : R.bytes[(p * 7 + 3) % R.bytes.length] = y at *
    have j1 : 0 ≤ (p : Int) % (R.bytes.length : Int) := Int.emod_nonneg _ (by omega)
    have j2 : (p : Int) % (R.bytes.length : Int) < (R.bytes.length : Int) := Int.emod_lt_of_pos _ hL0
    have j3 : 0 ≤ ((p : Int) * 7 + 3) % (R.bytes.length : Int) := Int.emod_nonneg _ (by omega)
    have j4 : ((p : Int) * 7 + 3) % (R.bytes.length : Int) < (R.bytes.length : Int) := Int.emod_lt_of_pos _ hL0
    have j5 : 0 ≤ (p : Int) / (R.bytes.length : Int) := Int.ediv_nonneg (by omega) (by omega)
    have j6 : (p : Int) / (R.bytes.length : Int) ≤ (p : Int) := Int.ediv_le_self _ (by omega)
    replace hs := Lib.hid hs
    replace e1 := Lib.hid e1
    replace hx := Lib.hid hx
    replace hy := Lib.hid hy
    replace hcell := Lib.hid hcell
    clear h hR hb
    go_enter Try.func70, Try.ntmps70
    go_wp2_with fail
    go_quiet (fail)
    go_wp2_with fail
    go_ret
    have hj7 : (p : Int) / (R.bytes.length : Int) * 53 ≤ 53000000 := by omega
    have hx := xor_tmod (x * 131 + y * 1117 + (p : Int) * 29 + (p : Int) / (R.bytes.length : Int) * 53) n (by omega) (by omega) hn
    exact ⟨_, rfl, hx.1, .inl hx.2, hs.out.1.drewN _, hs.out.2.drewN _⟩

theorem pick_calls (R : RdEnv) (hR : R.Good) (p : Nat) (hp : p ≤ 1000000) (n : Int) (w : World) (h : RdAt R p w) :
    Calls Try.prog 70 #[.pointer (some ⟨R.g, 0, none⟩), .int .i64 n] w (Picks R p n w) := by
  by_cases hn : 1 ≤ n
  · by_cases hb : R.bytes = []
    · exact pick_zero R hR p hp n w h (.inr hb)
    · exact pick_some R hR p hp n w h hn hb
  · exact pick_zero R hR p hp n w h (.inl (by omega))
end Go.Proofs.Ytkbblekengdhaaa

set_option linter.unusedVariables false
set_option linter.unusedSimpArgs false
namespace Go.Proofs.Ytkbblekengdhaaa
open Go Go.RowKit

theorem PartsIs.of_get {B : Nat} {w : World} {A : Option Addr} : ∀ {ps : List Task} {k : Nat}, (∀ i (h : i < ps.length), ∃ b o x y z, A = some ⟨b, o, none⟩ ∧ b < B ∧ w.cell? ⟨b, o + (k + i) * 3, none⟩ = some x ∧ w.cell? ⟨b, o + (k + i) * 3 + 1, none⟩ = some y ∧
      w.cell? ⟨b, o + (k + i) * 3 + 2, none⟩ = some z ∧ TaskIs B w (.agg #[x, y, z]) ps[i]) → PartsIs B w A k ps := by
  intro ps
  induction ps with
  | nil => intro k _; rw [PartsIs]; trivial
  | cons t ts ih =>
    intro k h
    rw [PartsIs]
    refine ⟨?_, ih (fun i hi => ?_)⟩
    · obtain ⟨b, o, x, y, z, e, hb, h1, h2, h3, h4⟩ := h 0 (by simp)
      exact ⟨b, o, x, y, z, e, hb, by simpa using h1, by simpa using h2, by simpa using h3, h4⟩
    · obtain ⟨b, o, x, y, z, e, hb, h1, h2, h3, h4⟩ := h (i + 1) (by simpa using hi)
      rw [show k + (i + 1) = k + 1 + i from by omega] at h1 h2 h3
      exact ⟨b, o, x, y, z, e, hb, h1, h2, h3, h4⟩

/-- a task that is owned: all its rows of parts are in blocks of their own, from B on; d: more than its depth -/
def OwnT : Nat → World → Nat → Value → Task → List Nat → Prop
  | 0, _, _, _, _, _ => False
  | d + 1, w, B, v, T, L => ∃ A c, v = .agg #[.int .i64 T.kind, .int .i64 T.n, .slice A T.parts.length c] ∧ T.parts.length ≤ c ∧ c ≤ maxLen ∧ L.Nodup ∧
      ((T.parts = [] ∧ L = []) ∨ ∃ (b : Nat) (cs : Array Value) (Ls : List (List Nat)), A = some ⟨b, 0, none⟩ ∧ B ≤ b ∧ w.heap[b]? = some (.cells cs 39 (0, 0)) ∧ Ls.length = T.parts.length ∧ L = b :: Ls.flatten ∧
        ∀ i (h : i < T.parts.length), ∃ x y z, cs[i * 3]? = some x ∧ cs[i * 3 + 1]? = some y ∧ cs[i * 3 + 2]? = some z ∧ OwnT d w B (.agg #[x, y, z]) T.parts[i] (Ls.getD i []))

theorem getD_mem_flatten {Ls : List (List Nat)} {i b : Nat} (h : b ∈ Ls.getD i []) : b ∈ Ls.flatten := by
  by_cases hi : i < Ls.length
  · rw [getD_at _ hi] at h
    exact List.mem_flatten.2 ⟨_, List.getElem_mem hi, h⟩
  · rw [getD_out _ (by omega)] at h; cases h
theorem OwnT.keep {w w' : World} {B : Nat} : ∀ {d : Nat} {v : Value} {T : Task} {L : List Nat}, OwnT d w B v T L → (∀ b ∈ L, w'.heap[b]? = w.heap[b]?) → OwnT d w' B v T L := by
  intro d
  induction d with
  | zero => intro v T L h; exact h.elim
  | succ d ih =>
    intro v T L h hk
    obtain ⟨A, c, e, hc, hm, hn, h⟩ := h
    refine ⟨A, c, e, hc, hm, hn, h.imp id ?_⟩
    rintro ⟨b, cs, Ls, rfl, hB, hb, hl, rfl, hi⟩
    refine ⟨b, cs, Ls, rfl, hB, (hk b (by simp)).trans hb, hl, rfl, fun i h => ?_⟩
    obtain ⟨x, y, z, h1, h2, h3, h4⟩ := hi i h
    exact ⟨x, y, z, h1, h2, h3, ih h4 (fun b' hb' => hk b' (List.mem_cons_of_mem _ (getD_mem_flatten hb')))⟩
theorem OwnT.lt {w : World} {B : Nat} : ∀ {d : Nat} {v : Value} {T : Task} {L : List Nat}, OwnT d w B v T L → ∀ b ∈ L, B ≤ b ∧ b < w.heap.size := by
  intro d
  induction d with
  | zero => intro v T L h; exact h.elim
  | succ d ih =>
    intro v T L h b hb
    obtain ⟨A, c, e, hc, hm, hn, h⟩ := h
    rcases h with ⟨_, rfl⟩ | ⟨b', cs, Ls, rfl, hB, hb', hl, rfl, hi⟩
    · cases hb
    · rcases List.mem_cons.1 hb with rfl | hb
      · exact ⟨hB, block_lt hb'⟩
      · obtain ⟨l, hl', hbl⟩ := List.mem_flatten.1 hb
        obtain ⟨i, hi', rfl⟩ := List.getElem_of_mem hl'
        obtain ⟨x, y, z, _, _, _, h4⟩ := hi i (by omega)
        rw [getD_at _ hi'] at h4
        exact ih h4 b hbl
theorem OwnT.mono {w : World} {B B' : Nat} (hB : B' ≤ B) : ∀ {d : Nat} {v : Value} {T : Task} {L : List Nat}, OwnT d w B v T L → OwnT d w B' v T L := by
  intro d
  induction d with
  | zero => intro v T L h; exact h.elim
  | succ d ih =>
    intro v T L h
    obtain ⟨A, c, e, hc, hm, hn, h⟩ := h
    refine ⟨A, c, e, hc, hm, hn, h.imp id ?_⟩
    rintro ⟨b, cs, Ls, rfl, hB', hb, hl, rfl, hi⟩
    refine ⟨b, cs, Ls, rfl, by omega, hb, hl, rfl, fun i h => ?_⟩
    obtain ⟨x, y, z, h1, h2, h3, h4⟩ := hi i h
    exact ⟨x, y, z, h1, h2, h3, ih h4⟩
theorem OwnT.deeper {w : World} {B : Nat} : ∀ {d : Nat} {v : Value} {T : Task} {L : List Nat}, OwnT d w B v T L → OwnT (d + 1) w B v T L := by
  intro d
  induction d with
  | zero => intro v T L h; exact h.elim
  | succ d ih =>
    intro v T L h
    obtain ⟨A, c, e, hc, hm, hn, h⟩ := h
    refine ⟨A, c, e, hc, hm, hn, h.imp id ?_⟩
    rintro ⟨b, cs, Ls, rfl, hB', hb, hl, rfl, hi⟩
    refine ⟨b, cs, Ls, rfl, hB', hb, hl, rfl, fun i h => ?_⟩
    obtain ⟨x, y, z, h1, h2, h3, h4⟩ := hi i h
    exact ⟨x, y, z, h1, h2, h3, ih h4⟩
theorem OwnT.turn {w w' : World} {B g d : Nat} {v : Value} {T : Task} {L : List Nat} {F' : Nat → Prop} (h : OwnT d w B v T L) (t : Turn (· = g) F' w w') (hg : g < B) : OwnT d w' B v T L :=
  h.keep (fun b hb => t.block b (h.lt b hb).2 (fun e => by have := (h.lt b hb).1; omega))
theorem OwnT.alloc {w : World} {B d : Nat} {v : Value} {T : Task} {L : List Nat} (h : OwnT d w B v T L) (o : Obj) : OwnT d (w.alloc o) B v T L :=
  h.keep (fun b hb => heap_old (h.lt b hb).2)
/-- a task that is owned reads as one -/
theorem OwnT.reads {w : World} {B : Nat} : ∀ {d : Nat} {v : Value} {T : Task} {L : List Nat}, OwnT d w B v T L → TaskIs w.heap.size w v T := by
  intro d
  induction d with
  | zero => intro v T L h; exact h.elim
  | succ d ih =>
    intro v T L h
    obtain ⟨A, c, e, hc, hm, hn, h⟩ := h
    cases T with
    | mk k n ps =>
      simp only [Task.kind, Task.n, Task.parts] at *
      rw [TaskIs]
      refine ⟨A, c, e, hc, hm, ?_⟩
      rcases h with ⟨rfl, _⟩ | ⟨b, cs, Ls, rfl, hB, hb, hl, rfl, hi⟩
      · rw [PartsIs]; trivial
      · refine PartsIs.of_get (fun i h => ?_)
        obtain ⟨x, y, z, h1, h2, h3, h4⟩ := hi i h
        exact ⟨b, 0, x, y, z, rfl, block_lt hb, by rw [cellm hb]; simpa using h1, by rw [cellm hb]; simpa using h2, by rw [cellm hb]; simpa using h3, ih h4⟩

theorem okcode (R : Prop) : R → R := id

theorem RdAt.up {R : RdEnv} {p : Nat} {w w' : World} (h : RdAt R p w) (hw : Below w.heap.size w w') : RdAt R p w' :=
  ⟨(hw.block _ (block_lt h.blk)).trans h.blk, below_up' h.below h.size hw, Nat.le_trans h.size hw.size⟩
theorem RdAt.kept {R : RdEnv} {p : Nat} {w w' : World} (h : RdAt R p w) (hk : w'.heap[R.g]? = w.heap[R.g]?) (hb : Below R.B R.w0 w') (hs : R.B ≤ w'.heap.size) : RdAt R p w' := ⟨hk.trans h.blk, hb, hs⟩

set_option maxHeartbeats 1000000 in
theorem l6Open_calls (A : Option Addr) (c : Nat) (bytes : List Int) (B : Nat) (w0 w : World) (hb : Below B w0 w) (hB : B ≤ w.heap.size) (hx : RowAt (fun b : Int => Value.int .u8 b) B w0 A bytes) (hl : bytes.length ≤ c) (hc : c ≤ maxLen) (hby : ∀ b ∈ bytes, 0 ≤ b ∧ b ≤ 255) :
    Calls Try.prog 40 #[.slice A bytes.length c] w fun e w' => ∃ R : RdEnv, e = .returned (.pointer (some ⟨R.g, 0, none⟩)) ∧ R.Good ∧ R.B = B ∧ R.w0 = w0 ∧ w.heap.size ≤ R.g ∧ RdAt R 0 w' ∧ Below w.heap.size w w' := by
  have hcm := hc
  unfold maxLen at hcm
  by_cases h1 : bytes.length ≤ 2000
  · replace hx := Lib.hid hx
    replace hb := Lib.hid hb
    replace hby := Lib.hid hby
    go_enter Try.func40, Try.ntmps40
    go_wp2_with fail
    go_ret
    exact ⟨⟨A, c, bytes, B, w0, w.heap.size⟩, rfl, ⟨hx.out, h1, hl, hc, hby.out, hB⟩, rfl, rfl, Nat.le_refl _, ⟨heap_new rfl, below_al' hb.out _ hB, by simp; omega⟩, below_al (Below.refl _ _) _⟩
  · have e : (bytes.take 2000).length = 2000 := by simp; omega
    have hx' : RowAt (fun b : Int => Value.int .u8 b) B w0 A (bytes.take 2000) := fun i hi => by
      obtain ⟨b, o, e1, e2, e3⟩ := hx i (by simp at hi; omega)
      exact ⟨b, o, e1, e2, by simpa using e3⟩
    have hby' : ∀ b ∈ bytes.take 2000, 0 ≤ b ∧ b ≤ 255 := fun b hb => hby b (List.mem_of_mem_take hb)
    replace hx := Lib.hid hx
    replace hx' := Lib.hid hx'
    replace hb := Lib.hid hb
    replace hby := Lib.hid hby
    replace hby' := Lib.hid hby'
    replace e := Lib.hid e
    go_enter Try.func40, Try.ntmps40
    go_wp2_with fail
    go_ret
    refine ⟨⟨A, c, bytes.take 2000, B, w0, w.heap.size⟩, rfl, ⟨hx'.out, by simp only []; rw [e.out]; omega, by simp only []; rw [e.out]; omega, hc, hby'.out, hB⟩, rfl, rfl, Nat.le_refl _, ⟨?_, below_al' hb.out _ hB, by simp; omega⟩, below_al (Below.refl _ _) _⟩
    simp only []
    rw [e.out]
    exact heap_new rfl
end Go.Proofs.Ytkbblekengdhaaa

set_option linter.unusedVariables false
set_option linter.unusedSimpArgs false
namespace Go.Proofs.Ytkbblekengdhaaa
open Go Go.RowKit

/-! drawn tasks: G tells of a block that it is a row of parts, its rank and how many parts it has -/
def Rows := Nat → Option (Nat × Nat)
def TyV (G : Rows) (r : Nat) (v : Value) : Prop := ∃ (k n : Int) (A : Option Addr) (m c : Nat), v = .agg #[.int .i64 k, .int .i64 n, .slice A m c] ∧ m ≤ 3 ∧ m ≤ c ∧ c ≤ maxLen ∧ (k = 5 → 1 ≤ m) ∧
  (m = 0 ∨ ∃ b r', A = some ⟨b, 0, none⟩ ∧ G b = some (r', m) ∧ r' < r)
def TyH (g B : Nat) (G : Rows) (w : World) : Prop := ∀ b r m, G b = some (r, m) → B ≤ b ∧ b ≠ g ∧ ∃ cs, w.heap[b]? = some (.cells cs 39 (0, 0)) ∧
  ∀ i, i < m → ∃ x y z, cs[i * 3]? = some x ∧ cs[i * 3 + 1]? = some y ∧ cs[i * 3 + 2]? = some z ∧ TyV G r (.agg #[x, y, z])
structure Ext (G G' : Rows) (n : Nat) : Prop where
  old : ∀ b x, G b = some x → G' b = some x
  new : ∀ b x, G' b = some x → G b = some x ∨ n ≤ b
theorem Ext.refl (G : Rows) (n : Nat) : Ext G G n := ⟨fun _ _ h => h, fun _ _ h => .inl h⟩
theorem Ext.trans {G G' G2 : Rows} {n n' : Nat} (h : Ext G G' n) (k : Ext G' G2 n') (hn : n ≤ n') : Ext G G2 n :=
  ⟨fun b x hx => k.old b x (h.old b x hx), fun b x hx => (k.new b x hx).elim (h.new b x) (fun h => .inr (by omega))⟩
theorem TyV.ext {G G' : Rows} {n r r2 : Nat} {v : Value} (h : TyV G r v) (k : Ext G G' n) (hr : r ≤ r2) : TyV G' r2 v := by
  obtain ⟨kk, nn, A, m, c, e, h1, h2, h3, h5, h4⟩ := h
  refine ⟨kk, nn, A, m, c, e, h1, h2, h3, h5, h4.imp id ?_⟩
  rintro ⟨b, r', e, hb, hr'⟩
  exact ⟨b, r', e, k.old _ _ hb, by omega⟩
theorem TyH.turn {g B : Nat} {G : Rows} {w w' : World} (h : TyH g B G w) {F F' : Nat → Prop} (t : Turn F F' w w') (hF : ∀ b x, G b = some x → ¬ F b) : TyH g B G w' := by
  intro b r m hb
  obtain ⟨h1, h2, cs, h3, h4⟩ := h b r m hb
  exact ⟨h1, h2, cs, (t.block b (block_lt h3) (hF b _ hb)).trans h3, h4⟩
theorem TyH.turng {g B : Nat} {G : Rows} {w w' : World} (h : TyH g B G w) {F' : Nat → Prop} (t : Turn (· = g) F' w w') : TyH g B G w' :=
  h.turn t (fun b x hb => (h b x.1 x.2 hb).2.1)
theorem TyH.alloc {g B : Nat} {G : Rows} {w : World} (h : TyH g B G w) (o : Obj) : TyH g B G (w.alloc o) :=
  h.turn ((Turn.refl (fun _ => False) w).alloc o) (fun _ _ _ h => h)
theorem TyH.drew {g B : Nat} {G : Rows} {w : World} (h : TyH g B G w) : TyH g B G w.drew := h
theorem TyH.set {g B : Nat} {G : Rows} {w : World} (h : TyH g B G w) {b o : Nat} (v : Value) (hb : ∀ x, G b ≠ some x) : TyH g B G (w.setCell ⟨b, o, none⟩ v) :=
  h.turn (setCell_turn (F := (· = b)) rfl v) (fun b' x hx e => by cases e; exact hb _ hx)
def withRow (G : Rows) (b r m : Nat) : Rows := fun i => if i = b then some (r, m) else G i
theorem TyH.lt {g B : Nat} {G : Rows} {w : World} (h : TyH g B G w) {b : Nat} {x : Nat × Nat} (hb : G b = some x) : b < w.heap.size := by
  obtain ⟨_, _, _, h3, _⟩ := h b x.1 x.2 hb
  exact block_lt h3
theorem Ext.row (G : Rows) {g B : Nat} {w : World} (h : TyH g B G w) (r m : Nat) : Ext G (withRow G w.heap.size r m) w.heap.size := by
  refine ⟨fun b x hb => ?_, fun b x hb => ?_⟩
  · have := h.lt hb
    unfold withRow
    rw [if_neg (by omega)]; exact hb
  · unfold withRow at hb
    split at hb
    · right; omega
    · exact .inl hb
theorem TyH.row {g B : Nat} {G : Rows} {w : World} (h : TyH g B G w) (r m : Nat) (cs : Array Value) (hB : B ≤ w.heap.size) (hg : g < w.heap.size)
    (hi : ∀ i, i < m → ∃ x y z, cs[i * 3]? = some x ∧ cs[i * 3 + 1]? = some y ∧ cs[i * 3 + 2]? = some z ∧ TyV G r (.agg #[x, y, z])) :
    TyH g B (withRow G w.heap.size r m) (w.alloc (.cells cs 39 (0, 0))) := by
  have he := Ext.row G h r m
  intro b r' m' hb
  unfold withRow at hb
  split at hb
  · rename_i e
    cases hb; subst e
    refine ⟨hB, by omega, cs, heap_new rfl, fun i h' => ?_⟩
    obtain ⟨x, y, z, h1, h2, h3, h4⟩ := hi i h'
    exact ⟨x, y, z, h1, h2, h3, h4.ext he (Nat.le_refl _)⟩
  · obtain ⟨h1, h2, cs', h3, h4⟩ := h b r' m' hb
    refine ⟨h1, h2, cs', (heap_old (block_lt h3)).trans h3, fun i h' => ?_⟩
    obtain ⟨x, y, z, k1, k2, k3, k4⟩ := h4 i h'
    exact ⟨x, y, z, k1, k2, k3, k4.ext he (Nat.le_refl _)⟩
theorem tyv_leaf (G : Rows) (r : Nat) (k n : Int) (hk : k ≠ 5) : TyV G r (.agg #[.int .i64 k, .int .i64 n, .slice none 0 0]) :=
  ⟨k, n, none, 0, 0, rfl, by omega, by omega, by simp [maxLen], fun e => (hk e).elim, .inl rfl⟩
theorem tyv_row (G : Rows) (b r m : Nat) (k n : Int) (hm : m ≤ 3) (h1 : 1 ≤ m) : TyV (withRow G b r m) (r + 1) (.agg #[.int .i64 k, .int .i64 n, .slice (some ⟨b, 0, none⟩) m m]) :=
  ⟨k, n, _, m, m, rfl, hm, by omega, by simp [maxLen]; omega, fun _ => h1, .inr ⟨b, r, rfl, by simp [withRow], by omega⟩⟩

def cost : Nat → Nat
  | 0 => 3
  | d + 1 => 3 * cost d + 3
/-- what a draw of a task brings -/
def DrawT (R : RdEnv) (G : Rows) (p c r : Nat) (w : World) (e : Ending) (w' : World) : Prop :=
  ∃ p' G' v, e = .returned v ∧ TyV G' r v ∧ p ≤ p' ∧ p' ≤ p + c ∧ RdAt R p' w' ∧ Turn (· = R.g) (· = R.g) w w' ∧ Ext G G' w.heap.size ∧ TyH R.g R.B G' w'

set_option maxHeartbeats 1000000 in
theorem l91Key_calls (R : RdEnv) (hR : R.Good) (p : Nat) (hp : p + 2 ≤ 1000000) (below : Int) (w : World) (h : RdAt R p w) :
    Calls Try.prog 144 #[.pointer (some ⟨R.g, 0, none⟩), .int .i64 below] w fun e w' => ∃ p' v, e = .returned (.int .i64 v) ∧ p ≤ p' ∧ p' ≤ p + 2 ∧ RdAt R p' w' ∧ Turn (· = R.g) (· = R.g) w w' := by
  have h1 := pick_calls R hR p (by omega) 25 w h
  replace h1 := Lib.hid h1
  replace h := Lib.hid h
  go_enter Try.func144, Try.ntmps144
  go_wp2_with fail
  refine h1.out.mono ?_
  rintro e w1 ⟨k, rfl, hk0, hk1, hr, ht⟩
  have h2 := pick_calls R hR (p + 1) (by omega) below w1 hr
  replace hr := Lib.hid hr
  replace ht := Lib.hid ht
  replace h2 := Lib.hid h2
  by_cases hk : k = 0
  · subst hk
    go_wp2_with fail
    go_ret
    exact ⟨p + 1, 9, rfl, by omega, by omega, hr.out, ht.out⟩
  · have e1 : (k == 0) = false := by simp [hk]
    go_wp2_with fail
    refine h2.out.mono ?_
    rintro e w2 ⟨v, rfl, _, _, hr2, ht2⟩
    replace hr2 := Lib.hid hr2
    replace ht2 := Lib.hid ht2
    go_wp2_with fail
    go_ret
    exact ⟨p + 1 + 1, v, rfl, by omega, by omega, hr2.out, ht.out.trans ht2.out⟩
theorem ret_task {fn : Func} {t : Nat} {tmps : Array Value} {Q : Ending → World → Prop} {W : World} {m : Nat} {a b c : Value} (hr : fn.results = #[.cell t 39])
    (ht : tmps.getD t undef = .pointer (some ⟨m, 0, none⟩)) (hW : W.heap[m]? = some (.cells #[a, b, c] 39 (0, 0))) (K : Q (.returned (.agg #[a, b, c])) W) : bodyPost Try.prog fn Q .ret ⟨tmps, []⟩ W := by
  have y0 : W.cell? ⟨m, 0, none⟩ = some a := cellm hW 0
  have y1 : W.cell? ⟨m, 1, none⟩ = some b := cellm hW 1
  have y2 : W.cell? ⟨m, 2, none⟩ = some c := cellm hW 2
  refine bodyPost_ret (v := .agg #[a, b, c]) ?_ rfl K
  have ht' : tmps[t]?.getD undef = .pointer (some ⟨m, 0, none⟩) := by simpa using ht
  simp [results, hr, ht', go_sem, y0, y1, y2]

/-- behind w, whose next block is the result's: what a draw has brought so far -/
structure DSt (R : RdEnv) (G : Rows) (w : World) (G' : Rows) (p' : Nat) (w' : World) : Prop where
  rd : RdAt R p' w'
  turn : Turn (· = R.g) (· = R.g) w w'
  ext : Ext G G' (w.heap.size + 1)
  ty : TyH R.g R.B G' w'
  res : w'.heap[w.heap.size]? = some (.cells #[.int .i64 0, .int .i64 0, .slice none 0 0] 39 (0, 0))
  old : ∀ x, G w.heap.size ≠ some x
  glt : R.g < w.heap.size
  bw : R.B ≤ w.heap.size
section
variable {R : RdEnv} {G G1 : Rows} {w w1 : World} {p p1 : Nat}
theorem DSt.start (h : RdAt R p w) (hG : TyH R.g R.B G w) : DSt R G w G p (w.alloc (.cells #[.int .i64 0, .int .i64 0, .slice none 0 0] 39 (0, 0))) :=
  ⟨h.up (below_al (Below.refl _ _) _), (Turn.refl _ _).alloc _, Ext.refl _ _, hG.alloc _, heap_new rfl, fun x hx => by have := hG.lt hx; omega, block_lt h.blk, h.size⟩
theorem DSt.lt (h : DSt R G w G1 p1 w1) : w.heap.size < w1.heap.size := block_lt h.res
theorem DSt.draw (h : DSt R G w G1 p1 w1) {G2 : Rows} {p2 : Nat} {w2 : World} (rd : RdAt R p2 w2) (t : Turn (· = R.g) (· = R.g) w1 w2) (he : Ext G1 G2 w1.heap.size) (ty : TyH R.g R.B G2 w2) : DSt R G w G2 p2 w2 :=
  ⟨rd, h.turn.trans t, h.ext.trans he (by have := h.lt; omega), ty, (t.block _ h.lt (by intro e; have := h.glt; omega)).trans h.res, h.old, h.glt, h.bw⟩
theorem DSt.step (h : DSt R G w G1 p1 w1) {p2 : Nat} {w2 : World} (rd : RdAt R p2 w2) (t : Turn (· = R.g) (· = R.g) w1 w2) : DSt R G w G1 p2 w2 :=
  h.draw rd t (Ext.refl _ _) (h.ty.turng t)
theorem DSt.row (h : DSt R G w G1 p1 w1) (r m : Nat) (cs : Array Value) (hi : ∀ i, i < m → ∃ x y z, cs[i * 3]? = some x ∧ cs[i * 3 + 1]? = some y ∧ cs[i * 3 + 2]? = some z ∧ TyV G1 r (.agg #[x, y, z])) :
    DSt R G w (withRow G1 w1.heap.size r m) p1 (w1.alloc (.cells cs 39 (0, 0))) :=
  h.draw (h.rd.up (below_al (Below.refl _ _) _)) ((Turn.refl _ _).alloc _) (Ext.row G1 h.ty r m) (h.ty.row r m cs h.rd.size (block_lt h.rd.blk) hi)
theorem DSt.done (h : DSt R G w G1 p1 w1) {p c r : Nat} {x y z : Value} {fn : Func} {t : Nat} {tmps : Array Value} (hr : fn.results = #[.cell t 39])
    (ht : tmps.getD t undef = .pointer (some ⟨w.heap.size, 0, none⟩)) (hv : TyV G1 r (.agg #[x, y, z])) (hp : p ≤ p1 ∧ p1 ≤ p + c) :
    bodyPost Try.prog fn (DrawT R G p c r w) .ret ⟨tmps, []⟩ (((w1.setCell ⟨w.heap.size, 0, none⟩ x).setCell ⟨w.heap.size, 1, none⟩ y).setCell ⟨w.heap.size, 2, none⟩ z) := by
  have hne : ∀ q, G1 w.heap.size ≠ some q := fun q hq => (h.ext.new _ _ hq).elim (h.old q) (fun hn => by omega)
  have hgl := h.glt
  have t3 : Turn (· = w.heap.size) (· = w.heap.size) w1 (((w1.setCell ⟨w.heap.size, 0, none⟩ x).setCell ⟨w.heap.size, 1, none⟩ y).setCell ⟨w.heap.size, 2, none⟩ z) :=
    ((setCell_turn (F := (· = w.heap.size)) rfl x).trans (setCell_turn (F := (· = w.heap.size)) rfl y)).trans (setCell_turn (F := (· = w.heap.size)) rfl z)
  have hb : Below w.heap.size w1 (((w1.setCell ⟨w.heap.size, 0, none⟩ x).setCell ⟨w.heap.size, 1, none⟩ y).setCell ⟨w.heap.size, 2, none⟩ z) := t3.below (Nat.le_of_lt h.lt) (fun i e => by cases e; exact Nat.le_refl _)
  refine ret_task hr ht ((setCell_block (setCell_block (setCell_block h.res 0 x) 1 y) 2 z).trans rfl) ⟨p1, G1, _, rfl, hv, hp.1, hp.2, ?_, ?_, ?_, ?_⟩
  · exact h.rd.kept (hb.block _ hgl) (h.rd.below.trans (hb.mono h.bw)) (Nat.le_trans h.rd.size hb.size)
  · exact ⟨hb.os.trans h.turn.os, hb.tape.trans h.turn.tape, hb.output.trans h.turn.output, Nat.le_trans h.turn.size hb.size, fun i hi hF => (hb.block i hi).trans (h.turn.block i hi hF), h.turn.fresh⟩
  · exact ⟨h.ext.old, fun b q hq => (h.ext.new b q hq).imp id (fun hn => by omega)⟩
  · exact h.ty.turn t3 (fun b q hq e => by cases e; exact hne _ hq)
theorem DSt.done' {ob : Obj} (h : DSt R G w G1 p1 (w1.alloc ob)) (hl : w.heap.size < w1.heap.size) {p c r : Nat} {x y z : Value} {fn : Func} {t : Nat} {tmps : Array Value} (hr : fn.results = #[.cell t 39])
    (ht : tmps.getD t undef = .pointer (some ⟨w.heap.size, 0, none⟩)) (hv : TyV G1 r (.agg #[x, y, z])) (hp : p ≤ p1 ∧ p1 ≤ p + c) :
    bodyPost Try.prog fn (DrawT R G p c r w) .ret ⟨tmps, []⟩ ((((w1.setCell ⟨w.heap.size, 0, none⟩ x).setCell ⟨w.heap.size, 1, none⟩ y).setCell ⟨w.heap.size, 2, none⟩ z).alloc ob) := by
  have := h.done hr ht hv hp
  rwa [World.setCell_alloc_past _ _ _ _ hl, World.setCell_alloc_past _ _ _ _ (by simpa using hl), World.setCell_alloc_past _ _ _ _ (by simpa using hl)] at this
theorem row1 {G : Rows} {r : Nat} {a b c : Value} (h : TyV G r (.agg #[a, b, c])) : ∀ i, i < 1 → ∃ x y z, (#[a, b, c] : Array Value)[i * 3]? = some x ∧ (#[a, b, c] : Array Value)[i * 3 + 1]? = some y ∧ (#[a, b, c] : Array Value)[i * 3 + 2]? = some z ∧ TyV G r (.agg #[x, y, z]) := by
  intro i hi
  obtain rfl : i = 0 := by omega
  exact ⟨_, _, _, rfl, rfl, rfl, h⟩
theorem row2 {G : Rows} {r : Nat} {a b c a2 b2 c2 : Value} (h : TyV G r (.agg #[a, b, c])) (h2 : TyV G r (.agg #[a2, b2, c2])) : ∀ i, i < 2 → ∃ x y z, (#[a, b, c, a2, b2, c2] : Array Value)[i * 3]? = some x ∧ (#[a, b, c, a2, b2, c2] : Array Value)[i * 3 + 1]? = some y ∧ (#[a, b, c, a2, b2, c2] : Array Value)[i * 3 + 2]? = some z ∧ TyV G r (.agg #[x, y, z]) := by
  intro i hi
  rcases (show i = 0 ∨ i = 1 by omega) with rfl | rfl
  · exact ⟨_, _, _, rfl, rfl, rfl, h⟩
  · exact ⟨_, _, _, rfl, rfl, rfl, h2⟩
theorem row3 {G : Rows} {r : Nat} {a b c a2 b2 c2 a3 b3 c3 : Value} (h : TyV G r (.agg #[a, b, c])) (h2 : TyV G r (.agg #[a2, b2, c2])) (h3 : TyV G r (.agg #[a3, b3, c3])) : ∀ i, i < 3 → ∃ x y z, (#[a, b, c, a2, b2, c2, a3, b3, c3] : Array Value)[i * 3]? = some x ∧ (#[a, b, c, a2, b2, c2, a3, b3, c3] : Array Value)[i * 3 + 1]? = some y ∧ (#[a, b, c, a2, b2, c2, a3, b3, c3] : Array Value)[i * 3 + 2]? = some z ∧ TyV G r (.agg #[x, y, z]) := by
  intro i hi
  rcases (show i = 0 ∨ i = 1 ∨ i = 2 by omega) with rfl | rfl | rfl
  · exact ⟨_, _, _, rfl, rfl, rfl, h⟩
  · exact ⟨_, _, _, rfl, rfl, rfl, h2⟩
  · exact ⟨_, _, _, rfl, rfl, rfl, h3⟩
/-- the facts that the store of the result asks for -/
theorem DSt.cells (h : DSt R G w G1 p1 w1) : w1.cell? ⟨w.heap.size, 0, none⟩ = some (.int .i64 0) ∧ w1.cell? ⟨w.heap.size, 1, none⟩ = some (.int .i64 0) ∧ w1.cell? ⟨w.heap.size, 2, none⟩ = some (.slice none 0 0) ∧
    w1.frozen? ⟨w.heap.size, 0, none⟩ = false ∧ w1.frozen? ⟨w.heap.size, 1, none⟩ = false ∧ w1.frozen? ⟨w.heap.size, 2, none⟩ = false :=
  ⟨cellm h.res 0, cellm h.res 1, cellm h.res 2, frozenm h.res 0, frozenm h.res 1, frozenm h.res 2⟩
end
theorem ret_sheet {fn : Func} {t : Nat} {tmps : Array Value} {Q : Ending → World → Prop} {W : World} {m : Nat} {a b : Value} (hr : fn.results = #[.cell t 26])
    (ht : tmps.getD t undef = .pointer (some ⟨m, 0, none⟩)) (hW : W.heap[m]? = some (.cells #[a, b] 26 (0, 0))) (K : Q (.returned (.agg #[a, b])) W) : bodyPost Try.prog fn Q .ret ⟨tmps, []⟩ W := by
  have y0 : W.cell? ⟨m, 0, none⟩ = some a := cellm hW 0
  have y1 : W.cell? ⟨m, 1, none⟩ = some b := cellm hW 1
  refine bodyPost_ret (v := .agg #[a, b]) ?_ rfl K
  have ht' : tmps[t]?.getD undef = .pointer (some ⟨m, 0, none⟩) := by simpa using ht
  simp [results, hr, ht', go_sem, y0, y1]
end Go.Proofs.Ytkbblekengdhaaa
