import Derived.Test.YtpccgdkidnkppaaPk2FnExactRowNew
import Derived.Test.YtpccgdkidnkppaaPk3FnExactRowNew
import Derived.Test.YtpccgdkidnkppaaPk6FnExactRowNew
import Derived.Test.YtpccgdkidnkppaaPk9FnExactRowNew
set_option linter.unusedVariables false
set_option linter.unusedSimpArgs false
namespace Go.Proofs.Ytpccgdkidnkppaa
open Go Go.RowKit

theorem mayFrom_range (t : Task) : ∀ (m : Nat), m ≤ 10 → ∀ x ∈ mayFrom t m, 0 ≤ x ∧ x ≤ 9 := by
  intro m
  induction m with
  | zero => intro _ x hx; cases hx
  | succ m ih =>
    intro hm x hx
    rw [mayFrom, List.mem_append] at hx
    rcases hx with hx | hx
    · split at hx
      · rw [List.mem_singleton.1 hx]; omega
      · cases hx
    · exact ih (by omega) x hx
theorem mayFrom_len (t : Task) : ∀ (m : Nat), (mayFrom t m).length ≤ m := by
  intro m
  induction m with
  | zero => simp [mayFrom]
  | succ m ih => rw [mayFrom, List.length_append]; split <;> simp <;> omega
theorem mayList_len (t : Task) : (mayList t).length ≤ 10 := by
  unfold mayList
  split
  · exact mayFrom_len t 10
  · simp
theorem mayList_range (t : Task) : ∀ x ∈ mayList t, 0 ≤ x ∧ x ≤ 9 := by
  intro x hx
  unfold mayList at hx
  split at hx
  · exact mayFrom_range t 10 (by omega) x hx
  · cases hx
theorem ownsRow.drewH {w : World} {base : Nat} {e : TypeId} {size : Nat} {v : Value} {n : Nat} {xs : List Value} (h : Hid (w.ownsRow base e size v n xs)) : Hid (w.drew.ownsRow base e size v n xs) := Lib.hid h.out.drew
/-- the made keys that a task may fetch -/
def mayMade (made : List Bool) (t : Task) : List Int := (mayList t).filter fun k => mkK made k

set_option maxHeartbeats 4000000 in
theorem l3May_calls (Am At : Option Addr) (cm ct : Nat) (made : List Bool) (tasks : List Task) (B : Nat) (w0 w : World) (hb : Below B w0 w) (hB : B ≤ w.heap.size) (hs : SheetAt B w0 Am cm At ct made tasks) (q : Nat) (hq : q < tasks.length) (hq9 : q ≤ 9) (hml : made.length ≤ 10) (hnod : nodes tasks[q] ≤ 1000000000) :
    Calls Try.prog 79 #[.agg #[.slice Am made.length cm, .slice At tasks.length ct], .int .i64 q] w fun e w' => ∃ v, e = .returned v ∧ w'.ownsRow w.heap.size 3 1 v (mayMade made tasks[q]).length (ints (mayMade made tasks[q])) ∧ Below w.heap.size w w' := by
  obtain ⟨bt, ot, At', ct', et, hbt, ht0, ht1, ht2, htc, htm, htp⟩ := hs.tasks.at hb q hq
  subst et
  have hbt4 : bt < w.heap.size := by omega
  have hms := hs.made
  have hcall := fun w1 (hw : Below w.heap.size w w1) => specTaskMay_calls tasks[q] hnod At' ct' B w0 w1 (below_up' hb hB hw) (Nat.le_trans hB hw.size) htc htm htp
  have hdef : mayMade made tasks[q] = (mayList tasks[q]).filter fun k => mkK made k := rfl
  have hL10 := mayList_len tasks[q]
  have hLr := mayList_range tasks[q]
  have hown0 : ((w.alloc (.cells #[.slice Am made.length cm, .slice (some ⟨bt, ot, none⟩) tasks.length ct] 31 (0, 0))).alloc (.cells #[] 3 (0, 0))).ownsRow w.heap.size 3 1 (.slice (some ⟨w.heap.size + 1, 0, none⟩) 0 0) 0 (ints []) := by
    simpa [ints] using World.ownsRow_made (base := w.heap.size) (w.alloc (.cells #[.slice Am made.length cm, .slice (some ⟨bt, ot, none⟩) tasks.length ct] 31 (0, 0))) #[] 0 (by simp) (by simp [maxLen]) rfl
  generalize mayMade made tasks[q] = M at *
  generalize mayList tasks[q] = L at *
  replace hcall := Lib.hid hcall
  replace hdef := Lib.hid hdef
  replace hLr := Lib.hid hLr
  replace hb := Lib.hid hb
  replace hms := Lib.hid hms
  replace hown0 := Lib.hid hown0
  clear htp hs htc
  go_enter Try.func79, Try.ntmps79
  go_wp2_with fail
  refine (hcall.out _ (below_al (below_al (Below.refl _ _) _) _)).mono ?_
  rintro e w1 ⟨v, rfl, hownL, h1⟩
  obtain ⟨AL, cL, rfl, hl1, hl2, hl3⟩ := ownsRow_ints hownL
  have hown1 := ownsRow_block hown0.out (fun i hi => h1.block i (hown0.out.lt i hi).2)
  have x0 : w1.cell? ⟨w.heap.size, 0, none⟩ = some (.slice Am made.length cm) := (h1.cell (p := ⟨w.heap.size, 0, none⟩) (by simp; omega)).trans (by simp)
  have b1 : Below w.heap.size w w1 := below_from (below_from h1)
  have s1 : w.heap.size < w1.heap.size := by have := h1.size; simp at this; omega
  have hfarL : ∀ i, (Value.slice AL L.length cL).ownBlock = some i → w.heap.size + 2 ≤ i := fun i hi => by have := (hownL.lt i hi).1; simpa using this
  replace hl3 := Lib.hid hl3
  replace hown1 := Lib.hid hown1
  replace b1 := Lib.hid b1
  replace hfarL := Lib.hid hfarL
  clear h1 hownL hown0 hcall ht0 ht1 ht2
  go_wp2_with fail
  have hfarL2 : ∀ b o, AL = some ⟨b, o, none⟩ → w.heap.size + 2 ≤ b ∧ 0 < 1 := fun b o e => ⟨hfarL.out b (by rw [e]; rfl), by omega⟩
  replace hfarL2 := Lib.hid hfarL2
  go_loopw [5, 7] (fun o i wr => ∃ (j : Nat) (out : List Int), j ≤ L.length ∧ i = .int .i64 j ∧ out.length ≤ j ∧ w.heap.size < wr.heap.size ∧ wr.cell? ⟨w.heap.size, 0, none⟩ = some (.slice Am made.length cm) ∧ Hid (out ++ (L.drop j).filter (fun k => mkK made k) = M) ∧ Hid (wr.ownsRow w.heap.size 3 1 o out.length (ints out)) ∧ Hid (Below w.heap.size w wr) ∧ Hid (IntsAt wr.heap.size wr AL L) ∧ Hid (∀ b oo, AL = some ⟨b, oo, none⟩ → o.ownBlock ≠ some b) ∧ Hid (o.ownBlock ≠ some w.heap.size)) (fun _ i _ => L.length - (intOf i).toNat)
  case atStart => exact ⟨0, [], Nat.zero_le _, rfl, by simp, s1, x0, Lib.hid (by rw [hdef.out]; rfl), hown1, b1, hl3, Lib.hid (fun b oo e => by have := (hfarL2.out b oo e).1; simp [Value.ownBlock]; omega), Lib.hid (by simp [Value.ownBlock])⟩
  case round =>
    obtain ⟨j, out, hj, rfl, hol, hz, hbox, he, hown, hw, hL, hfar, hne⟩ := hrel
    have hsz := hw.out.size
    by_cases hlt : j < L.length
    · obtain ⟨bL, oL, eL, hbL, y⟩ := hL.out j hlt
      have he2 := he.out
      rw [List.drop_eq_getElem_cons hlt, List.filter_cons] at he2
      have hr := hLr.out L[j] (List.getElem_mem _)
      have hfb := hfar.out bL oL eL
      obtain ⟨kq, hkq⟩ := Int.eq_ofNat_of_zero_le hr.1
      rw [hkq] at y he2
      have hkq9 : kq ≤ 9 := by omega
      subst eL
      replace hkq := Lib.hid hkq
      replace hfb := Lib.hid hfb
      cases hm : mkK made kq with
      | false =>
        rw [hm] at he2
        have he3 : out ++ (L.drop (j + 1)).filter (fun k => mkK made k) = M := by simpa using he2
        replace he3 := Lib.hid he3
        by_cases hk : kq < made.length
        · obtain ⟨bm, om, em, hbm, cmq⟩ := hms.out.at (hb.out.trans (hw.out.mono hB)) (by omega) kq hk
          have hmq : made[kq] = false := by
            unfold mkK at hm
            rw [if_neg (by omega), Int.toNat_natCast, getD_at _ hk] at hm
            exact hm
          rw [hmq] at cmq
          rw [em] at hbox
          subst em
          replace hm := Lib.hid hm
          replace hmq := Lib.hid hmq
          clear he he2
          go_wp2_with fail
          go_region
          go_wp2_with fail
          go_roundw
          case rel => exact ⟨j + 1, out, by omega, by go_num, by omega, hz, hbox, he3, ownsRow.drewH hown, Lib.hid hw.out.drew, hL, hfar, hne⟩
          case measure => simp [intOf]; omega
        · replace hm := Lib.hid hm
          clear he he2
          go_wp2_with fail
          go_region
          go_wp2_with fail
          go_roundw
          case rel => exact ⟨j + 1, out, by omega, by go_num, by omega, hz, hbox, he3, ownsRow.drewH hown, Lib.hid hw.out.drew, hL, hfar, hne⟩
          case measure => simp [intOf]; omega
      | true =>
        rw [hm] at he2
        have he3 : (out ++ [(kq : Int)]) ++ (L.drop (j + 1)).filter (fun k => mkK made k) = M := by simpa using he2
        replace he3 := Lib.hid he3
        have hk : kq < made.length := by have := mkK_range (show mkK made kq ≠ false by rw [hm]; simp); omega
        obtain ⟨bm, om, em, hbm, cmq⟩ := hms.out.at (hb.out.trans (hw.out.mono hB)) (by omega) kq hk
        have hmq : made[kq] = true := by
          unfold mkK at hm
          rw [if_neg (by omega), Int.toNat_natCast, getD_at _ hk] at hm
          exact hm
        rw [hmq] at cmq
        subst em
        replace hm := Lib.hid hm
        replace hmq := Lib.hid hmq
        have hownd := ownsRow.drewH hown
        clear he he2
        go_wp2_with fail
        go_region
        go_wp2_with (at_builtin; go_loud (with_reducible refine wpList_app1 (by rfl) (.tmp 39) (.tmp 44) 26 (by rfl) intTy w.heap.size u5 out.length (ints out) (by with_unfolding_all rfl) ((hown.out.alloc _).drew) wr.heap.size 1 [.int .i64 kq] (by with_unfolding_all rfl) (by with_unfolding_all rfl) ?_ (one_int _ _) ?_ ?_ ?_ ?_))
        · exact ⟨_, _, heap_alloc_new wr _, rfl⟩
        · unfold maxLen; omega
        · omega
        · first | omega | (simp; omega)
        intro g cap w7 hown7 hgrow7 hat7
        have hw7 := (below_al' hw.out (.cells #[.int .i64 kq] 3 (0, 0)) hsz).drew.grown hgrow7 (by simp; omega) (fun i hi => (hown.out.lt i hi).1)
        have hown7' : w7.ownsRow w.heap.size 3 1 (.slice (some ⟨g, 0, none⟩) (out.length + 1) cap) (out ++ [(kq : Int)]).length (ints (out ++ [(kq : Int)])) := by simpa [ints_append, ints] using hown7
        have hk0 : w7.heap[w.heap.size]? = wr.heap[w.heap.size]? := far_grown_drew hgrow7 hz hne.out
        have hkL : w7.heap[bL]? = wr.heap[bL]? := far_grown_drew hgrow7 hbL hfb.out
        have hbox7 := (World.cell?_of_block (w := wr) (a := ⟨w.heap.size, 0, none⟩) hk0).trans hbox
        have hz7 : wr.heap.size < w7.heap.size := by have := hgrow7.size; simp at this; omega
        have hL7 : IntsAt w7.heap.size w7 (some ⟨bL, oL, none⟩) L := fun i hi => by
          obtain ⟨b', o', e', hb', c'⟩ := hL.out i hi
          cases e'
          exact ⟨_, _, rfl, by omega, (World.cell?_of_block (w := wr) hkL).trans c'⟩
        have hg7 : ∀ b : Nat, u5.ownBlock ≠ some b → b < wr.heap.size → (Value.slice (some ⟨g, 0, none⟩) (out.length + 1) cap).ownBlock ≠ some b := fun b h1 h2 e => by
          cases e
          rcases hat7 with e | e
          · exact h1 e
          · first | omega | (dsimp only at h2; omega) | (simp at e; dsimp only at h2; omega)
        have hfar7 : ∀ b oo, (some ⟨bL, oL, none⟩ : Option Addr) = some ⟨b, oo, none⟩ → (Value.slice (some ⟨g, 0, none⟩) (out.length + 1) cap).ownBlock ≠ some b := fun b oo e => by cases e; exact hg7 _ hfb.out hbL
        have hne7 := hg7 _ hne.out hz
        have hz8 : w.heap.size < w7.heap.size := by omega
        replace hw7 := Lib.hid hw7
        replace hown7' := Lib.hid hown7'
        replace hL7 := Lib.hid hL7
        replace hfar7 := Lib.hid hfar7
        replace hne7 := Lib.hid hne7
        clear hown7 hgrow7 hat7 hk0 hkL hg7 hown hownd hL hfar hne hw
        go_wp2_with fail
        go_roundw
        case rel => exact ⟨j + 1, out ++ [(kq : Int)], by omega, by go_num, by simp; omega, hz8, hbox7, he3, hown7', hw7, hL7, hfar7, hne7⟩
        case measure => simp [intOf]; omega
    · have he2 : out = M := by
        have := he.out
        rw [List.drop_eq_nil_of_le (by omega)] at this
        simpa using this
      replace he2 := Lib.hid he2
      clear he
      go_wp2_with fail
      go_ret
      rw [← he2.out]
      exact ⟨_, rfl, hown.out, hw.out⟩
end Go.Proofs.Ytpccgdkidnkppaa

set_option linter.unusedVariables false
set_option linter.unusedSimpArgs false
namespace Go.Proofs.Ytpccgdkidnkppaa
open Go Go.RowKit

/-- a key that leads to no circle -/
inductive Wf (may : Int → List Int) : Int → Prop
  | mk (k : Int) : (∀ j, j ∈ may k → Wf may j) → Wf may k

/-- no key of a circle is one -/
theorem wf_no_cycle {may : Int → List Int} {l : List Int} (hn : l ≠ []) (hc : ∀ i (h : i < l.length), l[(i + 1) % l.length]'(Nat.mod_lt _ (by omega)) ∈ may l[i]) : ∀ k, Wf may k → k ∉ l := by
  intro k h
  induction h with
  | mk k _ ih =>
    intro hk
    obtain ⟨i, hi, rfl⟩ := List.getElem_of_mem hk
    exact ih _ (hc i hi) (List.getElem_mem _)

/-! the reference's passes -/
def passKs (may : Int → List Int) : List Int → (Int → Bool) → (Int → Bool)
  | [], d => d
  | k :: ks, d => passKs may ks (fun i => if i = k then (may k).all d else d i)
theorem passKs_wf {may : Int → List Int} : ∀ (ks : List Int) (d : Int → Bool), (∀ i, d i = true → Wf may i) → ∀ i, passKs may ks d i = true → Wf may i := by
  intro ks
  induction ks with
  | nil => intro d h i hi; exact h i hi
  | cons k ks ih =>
    intro d h i hi
    refine ih _ (fun j hj => ?_) i hi
    by_cases e : j = k
    · subst e
      simp only [if_true] at hj
      rw [List.all_eq_true] at hj
      exact .mk _ (fun m hm => h m (hj m hm))
    · simp only [e, if_false] at hj
      exact h j hj

/-- what is done stays done -/
theorem passKs_mono {may : Int → List Int} : ∀ (ks : List Int) (d : Int → Bool), (∀ i, d i = true → ∀ j ∈ may i, d j = true) → (∀ i, d i = true → passKs may ks d i = true) ∧ (∀ i, passKs may ks d i = true → ∀ j ∈ may i, passKs may ks d j = true) := by
  intro ks
  induction ks with
  | nil => intro d h; exact ⟨fun i hi => hi, h⟩
  | cons k ks ih =>
    intro d h
    have h1 : ∀ i, d i = true → (if i = k then (may k).all d else d i) = true := fun i hi => by
      by_cases e : i = k
      · subst e; rw [if_pos rfl, List.all_eq_true]; exact h i hi
      · rw [if_neg e]; exact hi
    have h2 : ∀ i, (if i = k then (may k).all d else d i) = true → ∀ j ∈ may i, (if j = k then (may k).all d else d j) = true := fun i hi j hj => by
      by_cases e : i = k
      · subst e
        rw [if_pos rfl, List.all_eq_true] at hi
        exact h1 j (hi j hj)
      · rw [if_neg e] at hi
        exact h1 j (h i hi j hj)
    obtain ⟨a, b⟩ := ih _ h2
    exact ⟨fun i hi => a i (h1 i hi), b⟩

/-- a key all of whose keys are done is done behind a pass -/
theorem passKs_adds {may : Int → List Int} : ∀ (ks : List Int) (d : Int → Bool), (∀ i, d i = true → ∀ j ∈ may i, d j = true) → ∀ k ∈ ks, (∀ j ∈ may k, d j = true) → passKs may ks d k = true := by
  intro ks
  induction ks with
  | nil => intro d _ k hk; cases hk
  | cons q ks ih =>
    intro d h k hk hm
    have h1 : ∀ i, d i = true → (if i = q then (may q).all d else d i) = true := fun i hi => by
      by_cases e : i = q
      · subst e; rw [if_pos rfl, List.all_eq_true]; exact h i hi
      · rw [if_neg e]; exact hi
    have h2 : ∀ i, (if i = q then (may q).all d else d i) = true → ∀ j ∈ may i, (if j = q then (may q).all d else d j) = true := fun i hi j hj => by
      by_cases e : i = q
      · subst e
        rw [if_pos rfl, List.all_eq_true] at hi
        exact h1 j (hi j hj)
      · rw [if_neg e] at hi
        exact h1 j (h i hi j hj)
    rcases List.mem_cons.1 hk with rfl | hk
    · exact (passKs_mono ks _ h2).1 k (by rw [if_pos rfl, List.all_eq_true]; exact hm)
    · exact ih _ h2 k hk (fun j hj => h1 j (hm j hj))
end Go.Proofs.Ytpccgdkidnkppaa

set_option linter.unusedVariables false
set_option linter.unusedSimpArgs false
namespace Go.Proofs.Ytpccgdkidnkppaa
open Go Go.RowKit

/-! what is reached -/
inductive Reach (mk : Int → Bool) (nx : Int → List Int) (l : List Int) : Int → Prop
  | here (k : Int) : k ∈ l → mk k = true → Reach mk nx l k
  | next (k j : Int) : Reach mk nx l k → j ∈ nx k → mk j = true → Reach mk nx l j
section
variable {mk : Int → Bool} {nx : Int → List Int}
theorem Reach.lift {l l' : List Int} (h : ∀ k ∈ l', mk k = true → Reach mk nx l k) : ∀ {k}, Reach mk nx l' k → Reach mk nx l k := by
  intro k hk
  induction hk with
  | here k h1 h2 => exact h k h1 h2
  | next k j _ h2 h3 ih => exact .next k j ih h2 h3
theorem Reach.mono {l l' : List Int} (h : ∀ k ∈ l', k ∈ l) {k : Int} : Reach mk nx l' k → Reach mk nx l k := Reach.lift fun k hk hm => .here k (h k hk) hm
theorem Reach.isMade {l : List Int} {k : Int} (h : Reach mk nx l k) : mk k = true := by cases h <;> assumption

/-- what a walk over a list adds -/
structure RStep (mk : Int → Bool) (nx : Int → List Int) (X : Int → Bool) (l : List Int) (Y : Int → Bool) : Prop where
  mono : ∀ k, X k = true → Y k = true
  hit : ∀ k ∈ l, mk k = true → Y k = true
  new : ∀ k, Y k = true → X k = false → Reach mk nx l k
  closed : ∀ k, Y k = true → X k = false → ∀ j ∈ nx k, mk j = true → Y j = true
theorem RStep.nil (X : Int → Bool) : RStep mk nx X [] X := ⟨fun _ h => h, fun k h => (by cases h), fun k h1 h2 => (by rw [h1] at h2; cases h2), fun k h1 h2 => (by rw [h1] at h2; cases h2)⟩
/-- a key that is not walked into -/
theorem RStep.skip {X Y : Int → Bool} {l : List Int} {k : Int} (h : RStep mk nx X l Y) (hk : mk k = false ∨ Y k = true) : RStep mk nx X (l ++ [k]) Y := by
  refine ⟨h.mono, fun j hj hm => ?_, fun j h1 h2 => Reach.mono (by simp +contextual) (h.new j h1 h2), h.closed⟩
  rcases List.mem_append.1 hj with hj | hj
  · exact h.hit j hj hm
  · rw [List.mem_singleton.1 hj] at hm ⊢
    exact hk.elim (fun e => by rw [e] at hm; cases hm) id
def setX (X : Int → Bool) (k : Int) : Int → Bool := fun j => if j = k then true else X j
theorem RStep.walk {X Y Z : Int → Bool} {l : List Int} {k : Int} (h : RStep mk nx X l Y) (hm : mk k = true) (hy : Y k = false) (h2 : RStep mk nx (setX Y k) (nx k) Z) : RStep mk nx X (l ++ [k]) Z := by
  have hYZ : ∀ j, Y j = true → Z j = true := fun j hj => h2.mono j (by simp only [setX]; split <;> simp [hj])
  have hkZ : Z k = true := h2.mono k (by simp [setX])
  have hin : Reach mk nx (l ++ [k]) k := .here k (by simp) hm
  refine ⟨fun j hj => hYZ j (h.mono j hj), fun j hj hmj => ?_, fun j h1 h3 => ?_, fun j h1 h3 i hi hmi => ?_⟩
  · rcases List.mem_append.1 hj with hj | hj
    · exact hYZ j (h.hit j hj hmj)
    · rw [List.mem_singleton.1 hj]; exact hkZ
  · by_cases hYj : Y j = true
    · exact Reach.mono (by simp +contextual) (h.new j hYj h3)
    · by_cases e : j = k
      · subst e; exact hin
      · have := h2.new j h1 (by simp only [setX, if_neg e]; simpa using hYj)
        exact Reach.lift (fun i hi hmi => .next k i hin hi hmi) this
  · by_cases hYj : Y j = true
    · exact hYZ i (h.closed j hYj h3 i hi hmi)
    · by_cases e : j = k
      · subst e; exact h2.hit i hi hmi
      · exact h2.closed j h1 (by simp only [setX, if_neg e]; simpa using hYj) i hi hmi
/-- from nothing: just what is reached -/
theorem RStep.reach {l : List Int} {Y : Int → Bool} (h : RStep mk nx (fun _ => false) l Y) (k : Int) : Y k = true ↔ Reach mk nx l k := by
  refine ⟨fun hk => h.new k hk rfl, fun hk => ?_⟩
  induction hk with
  | here k h1 h2 => exact h.hit k h1 h2
  | next k j _ h2 h3 ih => exact h.closed k ih rfl j h2 h3
end

/-! how many there are -/
def cntN (X : Int → Bool) (n : Nat) : Nat := ((List.range n).filter fun q : Nat => X q).length
theorem cntN_le (X : Int → Bool) (n : Nat) : cntN X n ≤ n := by
  have := List.length_filter_le (fun q : Nat => X q) (List.range n)
  simpa [cntN] using this
theorem cntN_congr {X Y : Int → Bool} {n : Nat} (h : ∀ q : Nat, q < n → X q = Y q) : cntN X n = cntN Y n := by
  unfold cntN
  congr 1
  apply List.filter_congr
  intro q hq
  exact h q (List.mem_range.1 hq)
theorem cntN_set {X : Int → Bool} : ∀ {n : Nat} {k : Nat}, k < n → X k = false → cntN (setX X k) n = cntN X n + 1 := by
  intro n
  induction n with
  | zero => intro k h; omega
  | succ n ih =>
    intro k hk hX
    unfold cntN
    rw [List.range_succ, List.filter_append, List.filter_append, List.length_append, List.length_append]
    by_cases e : k = n
    · subst e
      have h1 := cntN_congr (X := setX X k) (Y := X) (n := k) (fun q hq => by simp only [setX]; rw [if_neg (by omega)])
      unfold cntN at h1
      rw [h1]
      simp [setX, hX]
    · have h1 := ih (k := k) (by omega) hX
      unfold cntN at h1
      rw [h1]
      have h2 : setX X k n = X n := by simp only [setX]; rw [if_neg (by omega)]
      simp only [List.filter_cons, h2, List.filter_nil]
      split <;> simp <;> omega
theorem cntN_zero (n : Nat) : cntN (fun _ => false) n = 0 := by simp [cntN]
theorem nodup_sub_len {α : Type} [BEq α] [LawfulBEq α] : ∀ {l m : List α}, l.Nodup → (∀ x ∈ l, x ∈ m) → l.length ≤ m.length := by
  intro l
  induction l with
  | nil => intro m _ _; simp
  | cons a l ih =>
    intro m hn h
    obtain ⟨h1, h2⟩ := List.nodup_cons.1 hn
    have ha := h a (by simp)
    have h3 := ih (m := m.erase a) h2 (fun x hx => (List.mem_erase_of_ne (fun e : x = a => h1 (by rw [← e]; exact hx))).2 (h x (by simp [hx])))
    have h4 := List.length_erase_of_mem ha
    have h5 := List.length_pos_of_mem ha
    simp; omega
/-- members of a set, each once, are not more than there are; if as many, they are all -/
theorem sub_cnt {X : Int → Bool} {n : Nat} {l : List Int} (hn : l.Nodup) (hl : ∀ x ∈ l, 0 ≤ x ∧ x < n ∧ X x = true) : l.length ≤ cntN X n ∧ (l.length = cntN X n → ∀ q : Nat, q < n → X q = true → (q : Int) ∈ l) := by
  have h0 : ∀ (l : List Int), l.Nodup → (∀ x ∈ l, 0 ≤ x ∧ x < n ∧ X x = true) → l.length ≤ cntN X n := by
    intro l hn hl
    have e : ∀ (m : Nat) (l : List Int), l.Nodup → (∀ x ∈ l, 0 ≤ x ∧ x < (m : Int) ∧ X x = true) → l.length ≤ cntN X m := by
      intro m
      induction m with
      | zero =>
        intro l _ h
        cases l with
        | nil => simp
        | cons a l => have := h a (by simp); omega
      | succ m ih =>
        intro l hn h
        have h1 := ih (l.erase (m : Int)) (hn.erase _) (fun x hx => by
          have h2 := (hn.mem_erase_iff).1 hx
          have := h x h2.2
          exact ⟨this.1, by have := h2.1; omega, this.2.2⟩)
        have h2 := List.length_erase (a := (m : Int)) (l := l)
        have h3 : cntN X (m + 1) = cntN X m + if X m then 1 else 0 := by
          unfold cntN
          rw [List.range_succ, List.filter_append, List.length_append]
          simp only [List.filter_cons, List.filter_nil]
          split <;> simp
        split at h2
        · rename_i hm
          rw [if_pos (h _ hm).2.2] at h3
          omega
        · omega
    exact e n l hn hl
  refine ⟨h0 l hn hl, fun he q hq hX => ?_⟩
  by_cases hm : (q : Int) ∈ l
  · exact hm
  · exfalso
    have := h0 ((q : Int) :: l) (List.nodup_cons.2 ⟨hm, hn⟩) (fun x hx => by
      rcases List.mem_cons.1 hx with rfl | hx
      · exact ⟨by omega, by omega, hX⟩
      · exact hl x hx)
    simp at this
    omega

/-! topological order: always the least one that is free -/
def freeK (X : Int → Bool) (may : Int → List Int) (out : List Int) (k : Int) : Bool := X k && !out.contains k && (may k).all fun j => out.contains j
def nextK (X : Int → Bool) (may : Int → List Int) (n : Nat) (out : List Int) : Option Nat := (List.range n).find? fun q : Nat => freeK X may out q
def topoP (X : Int → Bool) (may : Int → List Int) (n : Nat) : Nat → List Int → List Int × Bool
  | 0, out => (out, true)
  | m + 1, out => match nextK X may n out with
    | none => ([], false)
    | some q => topoP X may n m (out ++ [(q : Int)])
section
variable {X : Int → Bool} {may : Int → List Int} {n : Nat}
theorem nextK_some {out : List Int} {q : Nat} (h : nextK X may n out = some q) : q < n ∧ freeK X may out q = true := by
  unfold nextK at h
  have h1 := List.find?_some h
  have h2 := List.mem_of_find?_eq_some h
  exact ⟨List.mem_range.1 h2, h1⟩
theorem nextK_none {out : List Int} (h : nextK X may n out = none) : ∀ q : Nat, q < n → freeK X may out q = false := by
  intro q hq
  unfold nextK at h
  have := List.find?_eq_none.1 h q (List.mem_range.2 hq)
  simpa using this
theorem nextK_at {out : List Int} {q : Nat} (hq : q < n) (hf : freeK X may out q = true) (h : ∀ j : Nat, j < q → freeK X may out j = false) : nextK X may n out = some q := by
  unfold nextK
  rw [List.find?_range_eq_some]
  exact ⟨hf, by simpa using hq, fun j hj => by simp [h j hj]⟩
/-- what is put out so far -/
structure TOk (X : Int → Bool) (may : Int → List Int) (n : Nat) (out : List Int) : Prop where
  nodup : out.Nodup
  sub : ∀ x ∈ out, 0 ≤ x ∧ x < n ∧ X x = true
  behind : ∀ i (h : i < out.length), ∀ j ∈ may out[i], j ∈ out.take i
theorem TOk.nil : TOk X may n [] := ⟨List.nodup_nil, fun x h => (by cases h), fun i h => (by simp at h)⟩
theorem TOk.push {out : List Int} {q : Nat} (h : TOk X may n out) (hq : q < n) (hf : freeK X may out q = true) : TOk X may n (out ++ [(q : Int)]) := by
  simp only [freeK, Bool.and_eq_true, Bool.not_eq_true', List.contains_eq_mem, decide_eq_false_iff_not, List.all_eq_true, decide_eq_true_eq] at hf
  obtain ⟨⟨h1, h2⟩, h3⟩ := hf
  refine ⟨?_, fun x hx => ?_, fun i hi j hj => ?_⟩
  · rw [List.nodup_append]
    exact ⟨h.nodup, by simp, fun a ha b hb => by simp only [List.mem_singleton] at hb; subst hb; intro e; exact h2 (e ▸ ha)⟩
  · rcases List.mem_append.1 hx with hx | hx
    · exact h.sub x hx
    · rw [List.mem_singleton.1 hx]; exact ⟨by omega, by omega, h1⟩
  · simp only [List.length_append, List.length_cons, List.length_nil] at hi
    by_cases hlt : i < out.length
    · rw [List.getElem_append_left hlt] at hj
      rw [List.take_append_of_le_length (by omega)]
      exact h.behind i hlt j hj
    · have e : i = out.length := by omega
      subst e
      simp only [List.getElem_concat_length] at hj
      rw [List.take_append_of_le_length (by omega), List.take_length]
      exact h3 j hj
theorem TOk.wf {out : List Int} (h : TOk X may n out) : ∀ x ∈ out, Wf may x := by
  have : ∀ i (hi : i < out.length), Wf may out[i] := by
    intro i
    induction i using Nat.strongRecOn with
    | ind i ih =>
      intro hi
      refine .mk _ fun j hj => ?_
      have hm := h.behind i hi j hj
      obtain ⟨q, hq, rfl⟩ := List.getElem_of_mem hm
      simp only [List.length_take] at hq
      rw [List.getElem_take]
      exact ih q (by omega) (by omega)
  intro x hx
  obtain ⟨i, hi, rfl⟩ := List.getElem_of_mem hx
  exact this i hi
/-- when it stands still, no key that is left leads to no circle -/
theorem stuck_wf {out : List Int} (hcl : ∀ k : Nat, k < n → X k = true → ∀ j ∈ may k, X j = true ∧ 0 ≤ j ∧ j < n) (hn : nextK X may n out = none) : ∀ k, Wf may k → 0 ≤ k → k < n → X k = true → k ∈ out := by
  intro k hk
  induction hk with
  | mk k _ ih =>
    intro h0 h1 hX
    obtain ⟨q, rfl⟩ := Int.eq_ofNat_of_zero_le h0
    have hf := nextK_none hn q (by omega)
    by_cases hm : (q : Int) ∈ out
    · exact hm
    · exfalso
      have : freeK X may out q = true := by
        simp only [freeK, Bool.and_eq_true, Bool.not_eq_true', List.contains_eq_mem, decide_eq_false_iff_not, List.all_eq_true, decide_eq_true_eq]
        refine ⟨⟨hX, hm⟩, fun j hj => ?_⟩
        obtain ⟨a, b, c⟩ := hcl q (by omega) hX j hj
        exact ih j hj b c a
      rw [this] at hf; cases hf
/-- a topological order of a set is one of all its keys, or some key leads to a circle -/
theorem topoP_spec (hcl : ∀ k : Nat, k < n → X k = true → ∀ j ∈ may k, X j = true ∧ 0 ≤ j ∧ j < n) : ∀ (m : Nat) (out : List Int), TOk X may n out → out.length + m = cntN X n →
    ((topoP X may n m out).2 = true ∧ TOk X may n (topoP X may n m out).1 ∧ (topoP X may n m out).1.length = cntN X n) ∨ (topoP X may n m out = ([], false) ∧ ∃ k : Nat, k < n ∧ X k = true ∧ ¬ Wf may k) := by
  intro m
  induction m with
  | zero => intro out h hl; exact .inl ⟨rfl, h, by simpa [topoP] using hl⟩
  | succ m ih =>
    intro out h hl
    rw [topoP]
    cases e : nextK X may n out with
    | some q =>
      obtain ⟨h1, h2⟩ := nextK_some e
      exact ih _ (h.push h1 h2) (by simp; omega)
    | none =>
      right
      refine ⟨rfl, ?_⟩
      have hle := sub_cnt h.nodup h.sub
      by_cases hall : ∀ q : Nat, q < n → X q = true → (q : Int) ∈ out
      · exfalso
        have : cntN X n ≤ out.length := by
          have h1 : ((List.range n).filter fun q : Nat => X q).length ≤ out.length := by
            have h2 : (((List.range n).filter fun q : Nat => X q).map fun q : Nat => (q : Int)).length ≤ out.length := by
              refine nodup_sub_len ?_ ?_
              · refine List.Pairwise.map _ (fun a b (h : a ≠ b) => ?_) (List.Pairwise.filter _ List.nodup_range)
                omega
              · intro x hx
                obtain ⟨q, hq, rfl⟩ := List.mem_map.1 hx
                obtain ⟨h3, h4⟩ := List.mem_filter.1 hq
                exact hall q (List.mem_range.1 h3) h4
            simpa using h2
          exact h1
        omega
      · simp only [Classical.not_forall] at hall
        obtain ⟨q, hq, hX, hno⟩ := hall
        exact ⟨q, hq, hX, fun hw => hno (stuck_wf hcl e q hw (by omega) (by omega) hX)⟩
theorem topoP_ok (hcl : ∀ k : Nat, k < n → X k = true → ∀ j ∈ may k, X j = true ∧ 0 ≤ j ∧ j < n) : (topoP X may n (cntN X n) []).2 = true ↔ ∀ k : Nat, k < n → X k = true → Wf may k := by
  rcases topoP_spec hcl (cntN X n) [] TOk.nil (by simp) with ⟨h1, h2, h3⟩ | ⟨h1, k, h2, h3, h4⟩
  · exact ⟨fun _ k hk hX => h2.wf k ((sub_cnt h2.nodup h2.sub).2 h3 k hk hX), fun _ => h1⟩
  · rw [h1]
    exact ⟨fun h => (by cases h), fun h => (h4 (h k h2 h3)).elim⟩
end
end Go.Proofs.Ytpccgdkidnkppaa

set_option linter.unusedVariables false
set_option linter.unusedSimpArgs false
namespace Go.Proofs.Ytpccgdkidnkppaa
open Go Go.RowKit

set_option maxHeartbeats 1000000 in
theorem task_zero (R : RdEnv) (hR : R.Good) (G : Rows) (p : Nat) (hp : p + 3 ≤ 1000000) (below : Int) (w : World) (h : RdAt R p w) (hG : TyH R.g R.B G w) :
    Calls Try.prog 147 #[.pointer (some ⟨R.g, 0, none⟩), .int .i64 below, .int .i64 0] w (DrawT R G p 3 0 w) := by
  have hs := DSt.start h hG
  have h1 := pick_calls R hR p (by omega) 9 _ hs.rd
  replace h1 := Lib.hid h1
  replace hs := Lib.hid hs
  clear h hG
  go_enter Try.func147, Try.ntmps147
  go_wp2_with fail
  refine h1.out.mono ?_
  rintro e w1 ⟨k, rfl, hk0, hk1, hr, ht⟩
  have hk1 : k < 9 := by omega
  have hs1 := hs.out.step hr ht
  have h2 := pick_calls R hR (p + 1) (by omega) 97 w1 hr
  have h3 := l91Key_calls R hR (p + 1) (by omega) below w1 hr
  replace hs1 := Lib.hid hs1
  replace h2 := Lib.hid h2
  replace h3 := Lib.hid h3
  clear hs h1 hr ht
  by_cases c1 : k % 2 = 0 ∨ below = 0
  · have arm : ∀ (K : Prop), ((k % 2 == 0) = true → K) → ((k % 2 == 0) = false → (below == 0) = true → K) → K := by
      intro K a b
      by_cases c2 : k % 2 = 0
      · exact a (by simp [c2])
      · exact b (by simp [c2]) (by simp; omega)
    refine arm _ (fun e1 => ?_) (fun e1 e2 => ?_) <;>
    · go_wp2_with fail
      refine h2.out.mono ?_
      rintro e w2 ⟨n, rfl, _, _, hr2, ht2⟩
      have hs2 := hs1.out.step hr2 ht2
      obtain ⟨x0, x1, x2, f0, f1, f2⟩ := hs2.cells
      have z2 := hs2.lt
      replace hs2 := Lib.hid hs2
      clear h2 h3 hr2 ht2
      go_wp2_with fail
      exact hs2.out.done rfl rfl (tyv_leaf _ _ _ _ (by omega)) ⟨by omega, by omega⟩
  · have e1 : (k % 2 == 0) = false := by simp; omega
    have e2 : (below == 0) = false := by simp; omega
    go_wp2_with fail
    refine h3.out.mono ?_
    rintro e w2 ⟨p2, n, rfl, hp1, hp2, hr2, ht2⟩
    have hs2 := hs1.out.step hr2 ht2
    obtain ⟨x0, x1, x2, f0, f1, f2⟩ := hs2.cells
    have z2 := hs2.lt
    replace hs2 := Lib.hid hs2
    clear h2 h3 hr2 ht2
    go_wp2_with fail
    exact hs2.out.done rfl rfl (tyv_leaf _ _ _ _ (by omega)) ⟨by omega, by omega⟩

/-- draws of tasks, so deep -/
def TaskDraws (R : RdEnv) (D : Int) (c r : Nat) : Prop := ∀ (G : Rows) (p : Nat) (below : Int) (w : World), p + c ≤ 1000000 → RdAt R p w → TyH R.g R.B G w →
    Calls Try.prog 147 #[.pointer (some ⟨R.g, 0, none⟩), .int .i64 below, .int .i64 D] w (DrawT R G p c r w)

set_option maxHeartbeats 2000000 in
theorem task_succ (R : RdEnv) (hR : R.Good) (D : Int) (c r : Nat) (hD : 1 ≤ D) (hD3 : D ≤ 3) (hc : 3 ≤ c) (ih : TaskDraws R (D - 1) c r) : TaskDraws R D (3 * c + 3) (r + 1) := by
  intro G p below w hp h hG
  have hs := DSt.start h hG
  have h1 := pick_calls R hR p (by omega) 9 _ hs.rd
  have e0 : (D == 0) = false := by simp; omega
  replace h1 := Lib.hid h1
  replace hs := Lib.hid hs
  replace ih := Lib.hid ih
  clear h hG
  go_enter Try.func147, Try.ntmps147
  go_wp2_with fail
  refine h1.out.mono ?_
  rintro e w1 ⟨k, rfl, hk0, hk1, hr, ht⟩
  have hk1 : k < 9 := by omega
  have hs1 := hs.out.step hr ht
  replace hs1 := Lib.hid hs1
  clear hs h1 hr ht
  by_cases c1 : k < 3
  · have h2 := pick_calls R hR (p + 1) (by omega) 97 w1 hs1.out.rd
    have h3 := l91Key_calls R hR (p + 1) (by omega) below w1 hs1.out.rd
    replace h2 := Lib.hid h2
    replace h3 := Lib.hid h3
    by_cases c1 : k % 2 = 0 ∨ below = 0
    · have arm : ∀ (K : Prop), ((k % 2 == 0) = true → K) → ((k % 2 == 0) = false → (below == 0) = true → K) → K := by
        intro K a b
        by_cases c2 : k % 2 = 0
        · exact a (by simp [c2])
        · exact b (by simp [c2]) (by simp; omega)
      refine arm _ (fun e1 => ?_) (fun e1 e2 => ?_) <;>
      · go_wp2_with fail
        refine h2.out.mono ?_
        rintro e w2 ⟨n, rfl, _, _, hr2, ht2⟩
        have hs2 := hs1.out.step hr2 ht2
        obtain ⟨x0, x1, x2, f0, f1, f2⟩ := hs2.cells
        have z2 := hs2.lt
        replace hs2 := Lib.hid hs2
        clear h2 h3 hr2 ht2
        go_wp2_with fail
        exact hs2.out.done rfl rfl (tyv_leaf _ _ _ _ (by omega)) ⟨by omega, by omega⟩
    · have e1 : (k % 2 == 0) = false := by simp; omega
      have e2 : (below == 0) = false := by simp; omega
      go_wp2_with fail
      refine h3.out.mono ?_
      rintro e w2 ⟨p2, n, rfl, hp1, hp2, hr2, ht2⟩
      have hs2 := hs1.out.step hr2 ht2
      obtain ⟨x0, x1, x2, f0, f1, f2⟩ := hs2.cells
      have z2 := hs2.lt
      replace hs2 := Lib.hid hs2
      clear h2 h3 hr2 ht2
      go_wp2_with fail
      exact hs2.out.done rfl rfl (tyv_leaf _ _ _ _ (by omega)) ⟨by omega, by omega⟩
  by_cases c2 : k < 5
  · have hd1 := ih.out G (p + 1) below w1 (by omega) hs1.out.rd hs1.out.ty
    replace hd1 := Lib.hid hd1
    go_wp2_with fail
    refine hd1.out.mono ?_
    rintro e W1 ⟨q1, G1, v1, rfl, hv1, hq1, hQ1, hr1, ht1, he1, hy1⟩
    have hs2 := hs1.out.draw hr1 ht1 he1 hy1
    replace hs2 := Lib.hid hs2
    have hv1' := hv1
    obtain ⟨a1, b1, A1, m1, d1, rfl, _⟩ := hv1'
    clear hr1 ht1 hy1 hd1
    replace hv1 := Lib.hid hv1
    replace he1 := Lib.hid he1
    have hd2 := ih.out G1 (q1) below W1 (by omega) hs2.out.rd hs2.out.ty
    replace hd2 := Lib.hid hd2
    go_wp2_with fail
    refine hd2.out.mono ?_
    rintro e W2 ⟨q2, G2, v2, rfl, hv2, hq2, hQ2, hr2, ht2, he2, hy2⟩
    have hs3 := hs2.out.draw hr2 ht2 he2 hy2
    replace hs3 := Lib.hid hs3
    have hv2' := hv2
    obtain ⟨a2, b2, A2, m2, d2, rfl, _⟩ := hv2'
    clear hr2 ht2 hy2 hd2
    replace hv2 := Lib.hid hv2
    replace he2 := Lib.hid he2
    have hs' := hs3.out.row r 2 #[.int .i64 a1, .int .i64 b1, .slice A1 m1 d1, .int .i64 a2, .int .i64 b2, .slice A2 m2 d2] (row2 (hv1.out.ext he2.out (Nat.le_refl _)) hv2.out)
    obtain ⟨x0, x1, x2, f0, f1, f2⟩ := hs3.out.cells
    have z2 := hs3.out.lt
    replace hs' := Lib.hid hs'
    clear hs2 hs3 hv1 he1 hv2 he2 ih
    go_wp2_with fail
    exact hs'.out.done' z2 rfl rfl (tyv_row _ _ _ 2 2 _ (by omega) (by omega)) ⟨by omega, by omega⟩
  by_cases c3 : k = 5
  · subst c3
    have hd1 := ih.out G (p + 1) below w1 (by omega) hs1.out.rd hs1.out.ty
    replace hd1 := Lib.hid hd1
    go_wp2_with fail
    refine hd1.out.mono ?_
    rintro e W1 ⟨q1, G1, v1, rfl, hv1, hq1, hQ1, hr1, ht1, he1, hy1⟩
    have hs2 := hs1.out.draw hr1 ht1 he1 hy1
    replace hs2 := Lib.hid hs2
    have hv1' := hv1
    obtain ⟨a1, b1, A1, m1, d1, rfl, _⟩ := hv1'
    clear hr1 ht1 hy1 hd1
    replace hv1 := Lib.hid hv1
    replace he1 := Lib.hid he1
    have hd2 := ih.out G1 (q1) below W1 (by omega) hs2.out.rd hs2.out.ty
    replace hd2 := Lib.hid hd2
    go_wp2_with fail
    refine hd2.out.mono ?_
    rintro e W2 ⟨q2, G2, v2, rfl, hv2, hq2, hQ2, hr2, ht2, he2, hy2⟩
    have hs3 := hs2.out.draw hr2 ht2 he2 hy2
    replace hs3 := Lib.hid hs3
    have hv2' := hv2
    obtain ⟨a2, b2, A2, m2, d2, rfl, _⟩ := hv2'
    clear hr2 ht2 hy2 hd2
    replace hv2 := Lib.hid hv2
    replace he2 := Lib.hid he2
    have hs' := hs3.out.row r 2 #[.int .i64 a1, .int .i64 b1, .slice A1 m1 d1, .int .i64 a2, .int .i64 b2, .slice A2 m2 d2] (row2 (hv1.out.ext he2.out (Nat.le_refl _)) hv2.out)
    obtain ⟨x0, x1, x2, f0, f1, f2⟩ := hs3.out.cells
    have z2 := hs3.out.lt
    replace hs' := Lib.hid hs'
    clear hs2 hs3 hv1 he1 hv2 he2 ih
    go_wp2_with fail
    exact hs'.out.done' z2 rfl rfl (tyv_row _ _ _ 2 3 _ (by omega) (by omega)) ⟨by omega, by omega⟩
  have e3 : (k == 5) = false := by simp [c3]
  by_cases c4 : k < 8
  · have hd1 := ih.out G (p + 1) below w1 (by omega) hs1.out.rd hs1.out.ty
    replace hd1 := Lib.hid hd1
    go_wp2_with fail
    refine hd1.out.mono ?_
    rintro e W1 ⟨q1, G1, v1, rfl, hv1, hq1, hQ1, hr1, ht1, he1, hy1⟩
    have hs2 := hs1.out.draw hr1 ht1 he1 hy1
    replace hs2 := Lib.hid hs2
    have hv1' := hv1
    obtain ⟨a1, b1, A1, m1, d1, rfl, _⟩ := hv1'
    clear hr1 ht1 hy1 hd1
    replace hv1 := Lib.hid hv1
    replace he1 := Lib.hid he1
    have hd2 := ih.out G1 (q1) below W1 (by omega) hs2.out.rd hs2.out.ty
    replace hd2 := Lib.hid hd2
    go_wp2_with fail
    refine hd2.out.mono ?_
    rintro e W2 ⟨q2, G2, v2, rfl, hv2, hq2, hQ2, hr2, ht2, he2, hy2⟩
    have hs3 := hs2.out.draw hr2 ht2 he2 hy2
    have hsz2 := ht2.size
    replace hs3 := Lib.hid hs3
    have hv2' := hv2
    obtain ⟨a2, b2, A2, m2, d2, rfl, _⟩ := hv2'
    clear hr2 ht2 hy2 hd2
    replace hv2 := Lib.hid hv2
    replace he2 := Lib.hid he2
    have hd3 := ih.out G2 (q2) below W2 (by omega) hs3.out.rd hs3.out.ty
    replace hd3 := Lib.hid hd3
    go_wp2_with fail
    refine hd3.out.mono ?_
    rintro e W3 ⟨q3, G3, v3, rfl, hv3, hq3, hQ3, hr3, ht3, he3, hy3⟩
    have hs4 := hs3.out.draw hr3 ht3 he3 hy3
    replace hs4 := Lib.hid hs4
    have hv3' := hv3
    obtain ⟨a3, b3, A3, m3, d3, rfl, _⟩ := hv3'
    clear hr3 ht3 hy3 hd3
    replace hv3 := Lib.hid hv3
    replace he3 := Lib.hid he3
    have hr_le1 : W1.heap.size ≤ W2.heap.size := hsz2
    have hs' := hs4.out.row r 3 #[.int .i64 a1, .int .i64 b1, .slice A1 m1 d1, .int .i64 a2, .int .i64 b2, .slice A2 m2 d2, .int .i64 a3, .int .i64 b3, .slice A3 m3 d3] (row3 (hv1.out.ext (he2.out.trans he3.out (by have := hr_le1; omega)) (Nat.le_refl _)) (hv2.out.ext he3.out (Nat.le_refl _)) hv3.out)
    obtain ⟨x0, x1, x2, f0, f1, f2⟩ := hs4.out.cells
    have z2 := hs4.out.lt
    replace hs' := Lib.hid hs'
    clear hs2 hs3 hs4 hv1 he1 hv2 he2 hv3 he3 ih
    go_wp2_with fail
    exact hs'.out.done' z2 rfl rfl (tyv_row _ _ _ 3 4 _ (by omega) (by omega)) ⟨by omega, by omega⟩
  have hpk := pick_calls R hR (p + 1) (by omega) 3 w1 hs1.out.rd
  replace hpk := Lib.hid hpk
  go_wp2_with fail
  refine hpk.out.mono ?_
  rintro e w2 ⟨k2, rfl, hk2, _, hr2, ht2⟩
  have hs0 := hs1.out.step hr2 ht2
  replace hs0 := Lib.hid hs0
  clear hpk hr2 ht2 hs1
  by_cases c5 : 0 < k2
  · have hd1 := ih.out G (p + 1 + 1) below w2 (by omega) hs0.out.rd hs0.out.ty
    replace hd1 := Lib.hid hd1
    go_wp2_with fail
    refine hd1.out.mono ?_
    rintro e W1 ⟨q1, G1, v1, rfl, hv1, hq1, hQ1, hr1, ht1, he1, hy1⟩
    have hs2 := hs0.out.draw hr1 ht1 he1 hy1
    replace hs2 := Lib.hid hs2
    have hv1' := hv1
    obtain ⟨a1, b1, A1, m1, d1, rfl, _⟩ := hv1'
    clear hr1 ht1 hy1 hd1
    replace hv1 := Lib.hid hv1
    replace he1 := Lib.hid he1
    have hd2 := ih.out G1 (q1) below W1 (by omega) hs2.out.rd hs2.out.ty
    replace hd2 := Lib.hid hd2
    go_wp2_with fail
    refine hd2.out.mono ?_
    rintro e W2 ⟨q2, G2, v2, rfl, hv2, hq2, hQ2, hr2, ht2, he2, hy2⟩
    have hs3 := hs2.out.draw hr2 ht2 he2 hy2
    have hsz2 := ht2.size
    replace hs3 := Lib.hid hs3
    have hv2' := hv2
    obtain ⟨a2, b2, A2, m2, d2, rfl, _⟩ := hv2'
    clear hr2 ht2 hy2 hd2
    replace hv2 := Lib.hid hv2
    replace he2 := Lib.hid he2
    have hd3 := ih.out G2 (q2) below W2 (by omega) hs3.out.rd hs3.out.ty
    replace hd3 := Lib.hid hd3
    go_wp2_with fail
    refine hd3.out.mono ?_
    rintro e W3 ⟨q3, G3, v3, rfl, hv3, hq3, hQ3, hr3, ht3, he3, hy3⟩
    have hs4 := hs3.out.draw hr3 ht3 he3 hy3
    replace hs4 := Lib.hid hs4
    have hv3' := hv3
    obtain ⟨a3, b3, A3, m3, d3, rfl, _⟩ := hv3'
    clear hr3 ht3 hy3 hd3
    replace hv3 := Lib.hid hv3
    replace he3 := Lib.hid he3
    have hr_le1 : W1.heap.size ≤ W2.heap.size := hsz2
    have hs' := hs4.out.row r 3 #[.int .i64 a1, .int .i64 b1, .slice A1 m1 d1, .int .i64 a2, .int .i64 b2, .slice A2 m2 d2, .int .i64 a3, .int .i64 b3, .slice A3 m3 d3] (row3 (hv1.out.ext (he2.out.trans he3.out (by have := hr_le1; omega)) (Nat.le_refl _)) (hv2.out.ext he3.out (Nat.le_refl _)) hv3.out)
    obtain ⟨x0, x1, x2, f0, f1, f2⟩ := hs4.out.cells
    have z2 := hs4.out.lt
    replace hs' := Lib.hid hs'
    clear hs2 hs3 hs4 hv1 he1 hv2 he2 hv3 he3 ih
    go_wp2_with fail
    exact hs'.out.done' z2 rfl rfl (tyv_row _ _ _ 3 4 _ (by omega) (by omega)) ⟨by omega, by omega⟩
  · have hpk := pick_calls R hR (p + 1 + 1) (by omega) 10 w2 hs0.out.rd
    replace hpk := Lib.hid hpk
    go_wp2_with fail
    refine hpk.out.mono ?_
    rintro e w3 ⟨k3, rfl, hk3, _, hr2, ht2⟩
    have hs1 := hs0.out.step hr2 ht2
    replace hs1 := Lib.hid hs1
    clear hpk hr2 ht2 hs0
    have hd1 := ih.out G (p + 1 + 1 + 1) below w3 (by omega) hs1.out.rd hs1.out.ty
    replace hd1 := Lib.hid hd1
    go_wp2_with fail
    refine hd1.out.mono ?_
    rintro e W1 ⟨q1, G1, v1, rfl, hv1, hq1, hQ1, hr1, ht1, he1, hy1⟩
    have hs2 := hs1.out.draw hr1 ht1 he1 hy1
    replace hs2 := Lib.hid hs2
    have hv1' := hv1
    obtain ⟨a1, b1, A1, m1, d1, rfl, _⟩ := hv1'
    clear hr1 ht1 hy1 hd1
    replace hv1 := Lib.hid hv1
    replace he1 := Lib.hid he1
    have hs' := hs2.out.row r 1 #[.int .i64 a1, .int .i64 b1, .slice A1 m1 d1] (row1 hv1.out)
    obtain ⟨x0, x1, x2, f0, f1, f2⟩ := hs2.out.cells
    have z2 := hs2.out.lt
    replace hs' := Lib.hid hs'
    clear hs2 hv1 he1 ih
    go_wp2_with fail
    exact hs'.out.done' z2 rfl rfl (tyv_row _ _ _ 1 5 _ (by omega) (by omega)) ⟨by omega, by omega⟩
end Go.Proofs.Ytpccgdkidnkppaa

set_option linter.unusedVariables false
set_option linter.unusedSimpArgs false
namespace Go.Proofs.Ytpccgdkidnkppaa
open Go Go.RowKit

def dom (G : Rows) (b : Nat) : Prop := ∃ x, G b = some x
theorem TyH.put {g B : Nat} {G : Rows} {w : World} (h : TyH g B G w) {b r m i : Nat} {x y z : Value} (hb : G b = some (r, m)) (hi : i < m) (hv : TyV G r (.agg #[x, y, z])) :
    TyH g B G (((w.setCell ⟨b, i * 3, none⟩ x).setCell ⟨b, i * 3 + 1, none⟩ y).setCell ⟨b, i * 3 + 2, none⟩ z) := by
  intro b' r' m' hb'
  obtain ⟨h1, h2, cs, h3, h4⟩ := h b' r' m' hb'
  by_cases e : b' = b
  · subst e
    rw [hb] at hb'; cases hb'
    refine ⟨h1, h2, _, setCell_block (setCell_block (setCell_block h3 _ x) _ y) _ z, fun j hj => ?_⟩
    by_cases e : j = i
    · subst e
      obtain ⟨a, b, c, k1, k2, k3, _⟩ := h4 j hi
      have l1 := (Array.getElem?_eq_some_iff.1 k1).1
      have l2 := (Array.getElem?_eq_some_iff.1 k2).1
      have l3 := (Array.getElem?_eq_some_iff.1 k3).1
      exact ⟨x, y, z, by simp [Array.getElem?_setIfInBounds, l1], by simp [Array.getElem?_setIfInBounds, l2], by simp [Array.getElem?_setIfInBounds, l3], hv⟩
    · obtain ⟨a, b, c, k1, k2, k3, k4⟩ := h4 j hj
      refine ⟨a, b, c, ?_, ?_, ?_, k4⟩
      · rw [Array.getElem?_setIfInBounds_ne (by omega), Array.getElem?_setIfInBounds_ne (by omega), Array.getElem?_setIfInBounds_ne (by omega)]; exact k1
      · rw [Array.getElem?_setIfInBounds_ne (by omega), Array.getElem?_setIfInBounds_ne (by omega), Array.getElem?_setIfInBounds_ne (by omega)]; exact k2
      · rw [Array.getElem?_setIfInBounds_ne (by omega), Array.getElem?_setIfInBounds_ne (by omega), Array.getElem?_setIfInBounds_ne (by omega)]; exact k3
  · exact ⟨h1, h2, cs, (setCell_far e).trans ((setCell_far e).trans ((setCell_far e).trans h3)), h4⟩

/-- the worlds in a run of l91Lower: the task's box and the result's block are the next ones -/
structure LSt (g B : Nat) (G : Rows) (w : World) (a b c : Value) (wr : World) : Prop where
  ty : TyH g B G wr
  turn : Turn (dom G) (dom G) w wr
  box : wr.heap[w.heap.size]? = some (.cells #[a, b, c] 48 (0, 0))
  res : wr.heap[w.heap.size + 1]? = some (.cells #[.int .i64 0, .int .i64 0, .slice none 0 0] 48 (0, 0))
  old : ∀ i, dom G i → i < w.heap.size
section
variable {g B : Nat} {G : Rows} {w w1 w2 : World} {a b c : Value}
theorem LSt.start (h : TyH g B G w) (a b c : Value) : LSt g B G w a b c ((w.alloc (.cells #[a, b, c] 48 (0, 0))).alloc (.cells #[.int .i64 0, .int .i64 0, .slice none 0 0] 48 (0, 0))) :=
  ⟨(h.alloc _).alloc _, ((Turn.refl _ _).alloc _).alloc _, (heap_old (by simp)).trans (heap_new rfl), heap_new (by simp), fun i ⟨x, hx⟩ => h.lt hx⟩
theorem LSt.step (h : LSt g B G w a b c w1) (ty : TyH g B G w2) (t : Turn (dom G) (dom G) w1 w2) : LSt g B G w a b c w2 :=
  ⟨ty, h.turn.trans t, (t.block _ (block_lt h.box) (fun hd => by have := h.old _ hd; omega)).trans h.box, (t.block _ (block_lt h.res) (fun hd => by have := h.old _ hd; omega)).trans h.res, h.old⟩
theorem LSt.drew (h : LSt g B G w a b c w1) : LSt g B G w a b c w1.drew := h.step h.ty ((Turn.refl _ _).drew)
theorem LSt.put (h : LSt g B G w a b c w1) {p r m i : Nat} {x y z : Value} (hb : G p = some (r, m)) (hi : i < m) (hv : TyV G r (.agg #[x, y, z])) :
    LSt g B G w a b c (((w1.setCell ⟨p, i * 3, none⟩ x).setCell ⟨p, i * 3 + 1, none⟩ y).setCell ⟨p, i * 3 + 2, none⟩ z) :=
  h.step (h.ty.put hb hi hv) (((setCell_turn (F := dom G) ⟨_, hb⟩ x).trans (setCell_turn (F := dom G) ⟨_, hb⟩ y)).trans (setCell_turn (F := dom G) ⟨_, hb⟩ z))
theorem LSt.cells (h : LSt g B G w a b c w1) : w1.cell? ⟨w.heap.size, 0, none⟩ = some a ∧ w1.cell? ⟨w.heap.size, 1, none⟩ = some b ∧ w1.cell? ⟨w.heap.size, 2, none⟩ = some c ∧
    w1.cell? ⟨w.heap.size + 1, 0, none⟩ = some (.int .i64 0) ∧ w1.cell? ⟨w.heap.size + 1, 1, none⟩ = some (.int .i64 0) ∧ w1.cell? ⟨w.heap.size + 1, 2, none⟩ = some (.slice none 0 0) ∧
    w1.frozen? ⟨w.heap.size + 1, 0, none⟩ = false ∧ w1.frozen? ⟨w.heap.size + 1, 1, none⟩ = false ∧ w1.frozen? ⟨w.heap.size + 1, 2, none⟩ = false ∧ w.heap.size + 1 < w1.heap.size :=
  ⟨cellm h.box 0, cellm h.box 1, cellm h.box 2, cellm h.res 0, cellm h.res 1, cellm h.res 2, frozenm h.res 0, frozenm h.res 1, frozenm h.res 2, block_lt h.res⟩
/-- what a run of l91Lower brings -/
def Lowers (g B : Nat) (G : Rows) (r : Nat) (w : World) (e : Ending) (w' : World) : Prop := ∃ v', e = .returned v' ∧ TyV G r v' ∧ TyH g B G w' ∧ Turn (dom G) (dom G) w w'
theorem LSt.done (h : LSt g B G w a b c w1) {r : Nat} {x y z : Value} {fn : Func} {t : Nat} {tmps : Array Value} (hr : fn.results = #[.cell t 48])
    (ht : tmps.getD t undef = .pointer (some ⟨w.heap.size + 1, 0, none⟩)) (hv : TyV G r (.agg #[x, y, z])) :
    bodyPost Try.prog fn (Lowers g B G r w) .ret ⟨tmps, []⟩ (((w1.setCell ⟨w.heap.size + 1, 0, none⟩ x).setCell ⟨w.heap.size + 1, 1, none⟩ y).setCell ⟨w.heap.size + 1, 2, none⟩ z) := by
  have t3 : Turn (· = w.heap.size + 1) (· = w.heap.size + 1) w1 (((w1.setCell ⟨w.heap.size + 1, 0, none⟩ x).setCell ⟨w.heap.size + 1, 1, none⟩ y).setCell ⟨w.heap.size + 1, 2, none⟩ z) :=
    ((setCell_turn (F := (· = w.heap.size + 1)) rfl x).trans (setCell_turn (F := (· = w.heap.size + 1)) rfl y)).trans (setCell_turn (F := (· = w.heap.size + 1)) rfl z)
  refine ret_task hr ht ((setCell_block (setCell_block (setCell_block h.res 0 x) 1 y) 2 z).trans rfl) ⟨_, rfl, hv, h.ty.turn t3 (fun b q hq e => ?_), ?_⟩
  · cases e; have := h.old _ ⟨_, hq⟩; omega
  · exact ⟨t3.os.trans h.turn.os, t3.tape.trans h.turn.tape, t3.output.trans h.turn.output, Nat.le_trans h.turn.size t3.size, fun i hi hF => (t3.block i (Nat.lt_of_lt_of_le hi h.turn.size) (by intro e; omega)).trans (h.turn.block i hi hF), h.turn.fresh⟩
end

set_option maxHeartbeats 2000000 in
theorem l91Lower_calls (g B : Nat) (G : Rows) (k : Int) : ∀ (r : Nat) (v : Value) (w : World), TyV G r v → TyH g B G w →
    Calls Try.prog 116 #[v, .int .i64 k] w (Lowers g B G r w) := by
  intro r
  induction r using Nat.strongRecOn with
  | ind r ih =>
  intro v w hv h
  have hv' := hv
  obtain ⟨kd, n, A, m, c, rfl, hm3, hmc, hcm, hk5, hrow⟩ := hv'
  have hs := LSt.start h (.int .i64 kd) (.int .i64 n) (.slice A m c)
  unfold maxLen at hcm
  replace ih := Lib.hid ih
  replace hs := Lib.hid hs
  replace hv := Lib.hid hv
  clear h
  by_cases e5 : kd = 5
  · subst e5
    have hm1 := hk5 rfl
    obtain ⟨b, r', rfl, hG, hr'⟩ := hrow.resolve_left (by omega)
    obtain ⟨_, _, cs, hb, hi⟩ := hs.out.ty b r' m hG
    obtain ⟨x, y, z, c0, c1, c2, hx⟩ := hi 0 (by omega)
    have hcall := ih.out r' hr' _ _ hx hs.out.ty
    have hx' := hx
    obtain ⟨xk, xn, xA, xm, xc, ex, _⟩ := hx'
    simp only [Value.agg.injEq, Array.mk.injEq, List.cons.injEq, and_true] at ex
    obtain ⟨rfl, rfl, rfl⟩ := ex
    have y0 := (cellm hb 0).trans c0
    have y1 := (cellm hb 1).trans c1
    have y2 := (cellm hb 2).trans c2
    have hbl := hs.out.old _ ⟨_, hG⟩
    rw [cell_al (by simp; omega), cell_al hbl] at y0 y1 y2
    replace hcall := Lib.hid hcall
    replace hG := Lib.hid hG
    clear hb hi hx c0 c1 c2
    go_enter Try.func116, Try.ntmps116
    go_wp2_with fail
    refine hcall.out.mono ?_
    rintro e w1 ⟨v', rfl, hv1, hy1, ht1⟩
    have hs1 := hs.out.step hy1 ht1
    have hv2 := hv1.ext (Ext.refl G 0) (Nat.le_of_lt hr')
    obtain ⟨xk, xn, xA, xm, xc, rfl, _⟩ := hv1
    obtain ⟨-, -, -, x0, x1, x2, f0, f1, f2, z1⟩ := hs1.cells
    replace hs1 := Lib.hid hs1
    replace hv2 := Lib.hid hv2
    clear hcall hs hv hrow y0 y1 y2 hy1 ht1
    go_wp2_with fail
    exact hs1.out.done rfl rfl hv2.out
  · have e1 : (kd == 5) = false := by simp [e5]
    go_enter Try.func116, Try.ntmps116
    go_wp2_with fail
    go_loopw [5] (fun i wr => ∃ (j : Nat), j ≤ m ∧ i = .int .i64 j ∧ Hid (LSt g B G w (.int .i64 kd) (.int .i64 n) (.slice A m c) wr)) (fun i _ => m - (intOf i).toNat)
    case atStart => exact ⟨0, Nat.zero_le _, rfl, hs⟩
    case round =>
      obtain ⟨j, hj, rfl, hL⟩ := hrel
      obtain ⟨b0, b1, b2, x0, x1, x2, f0, f1, f2, z1⟩ := hL.out.cells
      by_cases hlt : j < m
      · obtain ⟨b, r', rfl, hG, hr'⟩ := hrow.resolve_left (by omega)
        obtain ⟨_, _, cs, hb, hi⟩ := hL.out.ty b r' m hG
        obtain ⟨x, y, z, c0, c1, c2, hx⟩ := hi j hlt
        have hx' := hx
        obtain ⟨xk, xn, xA, xm, xc, ex, _⟩ := hx'
        simp only [Value.agg.injEq, Array.mk.injEq, List.cons.injEq, and_true] at ex
        obtain ⟨rfl, rfl, rfl⟩ := ex
        have hcall := ih.out r' hr' _ _ hx hL.out.drew.ty
        have y0 := (cellm hb (j * 3)).trans c0
        have y1 := (cellm hb (j * 3 + 1)).trans c1
        have y2 := (cellm hb (j * 3 + 2)).trans c2
        have hbl := block_lt hb
        replace hcall := Lib.hid hcall
        replace hG := Lib.hid hG
        clear hb hi hx c0 c1 c2
        go_wp2_with fail
        go_region_law (go_simp; go_at_call 116; refine hcall.out.mono ?_; rintro e w2 ⟨v', rfl, hv1, hy1, ht1⟩; have hL2 := hL.out.drew.step hy1 ht1; have b2' := hL2.cells.2.2.1; have hst := fun x y z hv => hL2.put (i := j) (x := x) (y := y) (z := z) hG.out hlt hv; obtain ⟨_, _, cs2, hb2, hi2⟩ := hy1 b r' m hG.out; obtain ⟨x', y', z', c0, c1, c2, _⟩ := hi2 j hlt; have g0 := (cellm hb2 (j * 3)).trans c0; have g1 := (cellm hb2 (j * 3 + 1)).trans c1; have g2 := (cellm hb2 (j * 3 + 2)).trans c2; have k0 := frozenm hb2 (j * 3); have k1 := frozenm hb2 (j * 3 + 1); have k2 := frozenm hb2 (j * 3 + 2); have hv2 := hv1; obtain ⟨nk, nn, nA, nm, nc, rfl, _⟩ := hv2; have hst2 := hst _ _ _ hv1; replace hst2 := Lib.hid hst2; clear hst hL2 hb2 hi2 c0 c1 c2 hv1 hy1 ht1 y0 y1 y2)
        all_goals
          go_wp2_with fail
          go_roundw
          case rel => exact ⟨j + 1, by omega, by go_num, hst2⟩
          case measure => simp [intOf]; omega
      · have ej : j = m := by omega
        subst ej
        go_wp2_with fail
        exact hL.out.done rfl rfl hv.out
end Go.Proofs.Ytpccgdkidnkppaa

set_option linter.unusedVariables false
set_option linter.unusedSimpArgs false
namespace Go.Proofs.Ytpccgdkidnkppaa
open Go Go.RowKit

def nb : Nat → Int
  | 0 => 1
  | r + 1 => 1 + 3 * nb r
theorem nb_pos : ∀ r, 1 ≤ nb r
  | 0 => by simp [nb]
  | r + 1 => by have := nb_pos r; simp only [nb]; omega
theorem nb_le : ∀ {a b : Nat}, a ≤ b → nb a ≤ nb b := by
  intro a b h
  induction h with
  | refl => exact Int.le_refl _
  | step _ ih => simp only [nb]; have := nb_pos a; rename_i m _; have := nb_pos m; omega
theorem nodesL_le {x : Int} : ∀ {ps : List Task}, (∀ t ∈ ps, nodes t ≤ x) → nodesL ps ≤ ps.length * x := by
  intro ps
  induction ps with
  | nil => intro _; simp [nodesL]
  | cons t ts ih =>
    intro h
    rw [nodesL]
    have h1 := h t (by simp)
    have h2 := ih (fun u hu => h u (by simp [hu]))
    simp only [List.length_cons, Int.natCast_add, Int.add_mul]
    omega
theorem TyV.reads {g B : Nat} {G : Rows} {w : World} (h : TyH g B G w) : ∀ (r : Nat) (v : Value), TyV G r v → ∃ T, TaskIs w.heap.size w v T ∧ nodes T ≤ nb r := by
  intro r
  induction r using Nat.strongRecOn with
  | ind r ih =>
  intro v hv
  obtain ⟨k, n, A, m, c, rfl, hm3, hmc, hcm, hk5, hrow⟩ := hv
  rcases hrow with rfl | ⟨b, r', rfl, hG, hr'⟩
  · refine ⟨.mk k n [], ?_, ?_⟩
    · rw [TaskIs]
      exact ⟨A, c, rfl, by simp, hcm, by rw [PartsIs]; trivial⟩
    · have := nb_pos r
      simp [nodes, nodesL]; omega
  · obtain ⟨_, _, cs, hb, hi⟩ := h b r' m hG
    have h1 : ∀ i, ∃ T, i < m → ∃ x y z, cs[i * 3]? = some x ∧ cs[i * 3 + 1]? = some y ∧ cs[i * 3 + 2]? = some z ∧ TaskIs w.heap.size w (.agg #[x, y, z]) T ∧ nodes T ≤ nb r' := by
      intro i
      by_cases hlt : i < m
      · obtain ⟨x, y, z, c0, c1, c2, hx⟩ := hi i hlt
        obtain ⟨T, hT⟩ := ih r' hr' _ hx
        exact ⟨T, fun _ => ⟨x, y, z, c0, c1, c2, hT⟩⟩
      · exact ⟨default, fun hh => (hlt hh).elim⟩
    obtain ⟨f, hf⟩ := Classical.axiomOfChoice h1
    refine ⟨.mk k n ((List.range m).map f), ?_, ?_⟩
    · rw [TaskIs]
      refine ⟨some ⟨b, 0, none⟩, c, by simp, by simpa using hmc, hcm, PartsIs.of_get (fun i hl => ?_)⟩
      have hl' : i < m := by simpa using hl
      obtain ⟨x, y, z, c0, c1, c2, hT, _⟩ := hf i hl'
      exact ⟨b, 0, x, y, z, rfl, block_lt hb, by rw [cellm hb]; simpa using c0, by rw [cellm hb]; simpa using c1, by rw [cellm hb]; simpa using c2, by simpa using hT⟩
    · obtain ⟨q, rfl⟩ : ∃ q, r = q + 1 := ⟨r - 1, by omega⟩
      have h2 : ∀ t ∈ (List.range m).map f, nodes t ≤ nb q := by
        intro t ht
        obtain ⟨i, hi, rfl⟩ := List.mem_map.1 ht
        obtain ⟨_, _, _, _, _, _, _, hn⟩ := hf i (by simpa using hi)
        have := nb_le (show r' ≤ q by omega)
        omega
      have h3 := nodesL_le h2
      have h4 := nb_pos q
      have h5 : (m : Int) * nb q ≤ 3 * nb q := Int.mul_le_mul_of_nonneg_right (by omega) (by omega)
      simp only [List.length_map, List.length_range] at h3
      simp only [nodes, nb]
      omega

theorem task0 (R : RdEnv) (hR : R.Good) : TaskDraws R 0 3 0 := fun G p below w hp h hG => task_zero R hR G p hp below w h hG
theorem task1 (R : RdEnv) (hR : R.Good) : TaskDraws R 1 12 1 := task_succ R hR 1 3 0 (by omega) (by omega) (by omega) (task0 R hR)
theorem task2 (R : RdEnv) (hR : R.Good) : TaskDraws R 2 39 2 := task_succ R hR 2 12 1 (by omega) (by omega) (by omega) (task1 R hR)
theorem task3 (R : RdEnv) (hR : R.Good) : TaskDraws R 3 120 3 := task_succ R hR 3 39 2 (by omega) (by omega) (by omega) (task2 R hR)

theorem DSt.up {R : RdEnv} {G G1 : Rows} {w w1 w2 : World} {p1 : Nat} (h : DSt R G w G1 p1 w1) (hb : Below w1.heap.size w1 w2) : DSt R G w G1 p1 w2 :=
  h.step (h.rd.up hb) (below_turn hb)

set_option maxHeartbeats 1000000 in
theorem l91Fit_calls (R : RdEnv) (hR : R.Good) (G : Rows) (p : Nat) (hp : p + 40 ≤ 1000000) (below : Int) (w : World) (h : RdAt R p w) (hG : TyH R.g R.B G w) :
    Calls Try.prog 115 #[.pointer (some ⟨R.g, 0, none⟩), .int .i64 below] w (DrawT R G p 40 2 w) := by
  have hs := DSt.start h hG
  have h1 := task2 R hR G p below _ (by omega) hs.rd hs.ty
  replace h1 := Lib.hid h1
  replace hs := Lib.hid hs
  clear h hG
  go_enter Try.func115, Try.ntmps115
  go_wp2_with fail
  refine h1.out.mono ?_
  rintro e w1 ⟨q, G1, v, rfl, hv, hq, hQ, hr, ht, he, hy⟩
  have hs1 := hs.out.draw hr ht he hy
  have hv' := hv
  obtain ⟨a, b, A, m, d, rfl, _⟩ := hv'
  have hs2 := hs1.up (below_al (Below.refl _ _) (.cells #[.int .i64 a, .int .i64 b, .slice A m d] 48 (0, 0)))
  obtain ⟨T, hT, hn⟩ := TyV.reads hs2.ty 2 _ hv
  cases T with
  | mk k' n' ps =>
  rw [TaskIs] at hT
  obtain ⟨A', c', e, hc, hcm, hps⟩ := hT
  simp only [Value.agg.injEq, Array.mk.injEq, List.cons.injEq, and_true, Value.int.injEq, true_and, Value.slice.injEq] at e
  obtain ⟨rfl, rfl, rfl, rfl, rfl⟩ := e
  have hok := specTaskOk_calls (.mk a b ps) A d _ _ _ (by simp [nb] at hn; omega) (Below.refl _ _) (Nat.le_refl _) hc hcm hps
  simp only [Task.kind, Task.n, Task.parts] at hok
  generalize okT (.mk a b ps) = ok at hok
  have hz := hs1.lt
  replace hok := Lib.hid hok
  replace hs1 := Lib.hid hs1
  replace hs2 := Lib.hid hs2
  replace hv := Lib.hid hv
  clear hr ht he hy h1 hs hps hn hc
  go_wp2_with fail
  refine hok.out.mono ?_
  rintro e w2 ⟨rfl, hb⟩
  have hs3 := hs2.out.up hb
  have y0 : w2.cell? ⟨w1.heap.size, 0, none⟩ = some (.int .i64 a) := (hb.cell (p := ⟨w1.heap.size, 0, none⟩) (by simp)).trans (by simp)
  have y1 : w2.cell? ⟨w1.heap.size, 1, none⟩ = some (.int .i64 b) := (hb.cell (p := ⟨w1.heap.size, 1, none⟩) (by simp)).trans (by simp)
  have y2 : w2.cell? ⟨w1.heap.size, 2, none⟩ = some (.slice A ps.length d) := (hb.cell (p := ⟨w1.heap.size, 2, none⟩) (by simp)).trans (by simp)
  have hpk := pick_calls R hR q (by omega) 10 w2 hs3.rd
  obtain ⟨x0, x1, x2, f0, f1, f2⟩ := hs3.cells
  have z2 := hs3.lt
  replace hs3 := Lib.hid hs3
  replace hpk := Lib.hid hpk
  clear hb hok hs1 hs2
  cases ok with
  | true =>
    go_wp2_with fail
    exact hs3.out.done rfl rfl hv.out ⟨by omega, by omega⟩
  | false =>
    go_wp2_with fail
    refine hpk.out.mono ?_
    rintro e w3 ⟨n3, rfl, _, _, hr2, ht2⟩
    have hs4 := hs3.out.step hr2 ht2
    obtain ⟨x0, x1, x2, f0, f1, f2⟩ := hs4.cells
    have z3 := hs4.lt
    replace hs4 := Lib.hid hs4
    clear hr2 ht2 hs3 hpk y0 y1 y2
    go_wp2_with fail
    exact hs4.out.done rfl rfl (tyv_leaf _ _ _ _ (by omega)) ⟨by omega, by omega⟩
end Go.Proofs.Ytpccgdkidnkppaa
