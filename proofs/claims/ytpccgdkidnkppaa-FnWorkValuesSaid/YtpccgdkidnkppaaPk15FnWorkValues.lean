import Derived.OwnWalk
import Derived.Test.YtpccgdkidnkppaaPk1FnWorkValues
import Derived.Test.YtpccgdkidnkppaaPk3FnWorkValues
import Derived.Test.YtpccgdkidnkppaaPk7FnWorkValues
import Derived.Test.YtpccgdkidnkppaaPk13FnWorkValues
import Derived.Test.YtpccgdkidnkppaaPk14FnWorkValues
set_option linter.unusedVariables false
set_option linter.unusedSimpArgs false
namespace Go.Proofs.Ytpccgdkidnkppaa
open Go Go.RowKit

/-! what is suspended fits -/
structure FI (S : Sh) (vals : List Int) (st : MkSt) : Prop where
  fits : ∀ i (h : i < st.order.length), fitAt S vals st.order i st.order[i] = true
  cov : ∀ k, st.known k ≠ none → k ∈ st.order
theorem fitAt_app {S : Sh} {vals order l : List Int} {i : Nat} {k : Int} (h : i ≤ order.length) : fitAt S vals (order ++ l) i k = fitAt S vals order i k := by
  unfold fitAt
  rw [List.take_append_of_le_length h]
theorem val_same {S : Sh} (hS : S.Ok) {all : List Int} (hall : buildAllP S = (all, true)) {kn : Int → Option Int} (hK : KnE S kn) {k y : Int} (hA : Ans S kn k y) : y = atK all k := by
  obtain ⟨a1, a2, a3, -⟩ := all_law hS hall
  have hsp : mkK S.made k = true ∨ mkK S.made k = false := by cases mkK S.made k <;> simp
  have hval : (specKeyP S k).1 = y := by
    rcases hA with ⟨h1, rfl⟩ | h1
    · rw [specKeyP_unmade h1]
    · obtain ⟨rank, M, hKn⟩ := hK
      have := spec_known hKn (rank k) k y [] S.made.length [] rfl h1 List.nodup_nil (fun x hx => by cases hx) (fun x hx => by cases hx) (by simp)
      unfold specKeyP
      rw [this]
  by_cases hr : 0 ≤ k ∧ k < S.made.length
  · obtain ⟨q, rfl⟩ := Int.eq_ofNat_of_zero_le hr.1
    have hq : q < all.length := by omega
    rw [atK_in hq, a3 q hq, hval]
  · have hm : mkK S.made k = false := by
      cases h : mkK S.made k with
      | false => rfl
      | true => exact (hr (mkK_range (by rw [h]; simp))).elim
    rw [specKeyP_unmade hm] at hval
    have hin := hS.ins
    rw [← hval, atK_out (by omega), atK_out (by omega)]
structure Grew (S : Sh) (vals : List Int) (st st' : MkSt) : Prop where
  fi : FI S vals st'
  kn : KnE S st'.known
  pre : ∃ l, st'.order = st.order ++ l
theorem susp_run {S : Sh} (hS : S.Ok) {all : List Int} (hall : buildAllP S = (all, true)) {n : Nat}
    (ih : ∀ (st : MkSt) (k : Int), Inv S n st → KnE S st.known → FI S all st → (keyP S n st k).1.2 = true → Grew S all st (keyP S n st k).2 ∧ (mkK S.made k = true → k ∈ (keyP S n st k).2.order)) :
    ∀ (m : Itr) (st : MkSt) (l : List (Int × Int)), Inv S n st → KnE S st.known → FI S all st → (m.run (keyP S n) st).1.2 = true →
      Grew S all st (m.run (keyP S n) st).2 ∧ ∀ g ∈ (m.run (fetF all) l).2, g ∈ l ∨ (mkK S.made g.1 = true → g.1 ∈ (m.run (keyP S n) st).2.order) := by
  intro m
  induction m with
  | done v => intro st l hi hK hF _; exact ⟨⟨hF, hK, [], by simp [Itr.run]⟩, fun g hg => .inl hg⟩
  | ask k c ihm =>
    intro st l hi hK hF hok
    by_cases h1 : (keyP S n st k).1.2 = true
    · obtain ⟨⟨g1, g2, l1, g3⟩, g4⟩ := ih st k hi hK hF h1
      have hsp := keyP_spec hS n st [] k hi hK
      have hv : (keyP S n st k).1.1 = atK all k := val_same hS hall g2 (hsp.2 h1)
      rw [Itr.run_yes h1] at hok ⊢
      rw [Itr.run_yes (by simp [fetF])]
      have hf : (fetF all l k).1.1 = (keyP S n st k).1.1 := hv.symm
      have hf2 : (fetF all l k).2 = l ++ [(k, atK all k)] := rfl
      rw [hf, hf2]
      obtain ⟨⟨j1, j2, l2, j3⟩, j4⟩ := ihm _ (keyP S n st k).2 (l ++ [(k, atK all k)]) (keyP_inv hS n st k hi).1 g2 g1 hok
      refine ⟨⟨j1, j2, l1 ++ l2, by rw [j3, g3, List.append_assoc]⟩, fun g hg => ?_⟩
      rcases j4 g hg with h | h
      · rcases List.mem_append.1 h with h | h
        · exact .inl h
        · rw [List.mem_singleton.1 h]
          exact .inr fun hm => by rw [j3]; exact List.mem_append_left _ (g4 hm)
      · exact .inr h
    · rw [Itr.run_no h1] at hok; cases hok
theorem susp_key {S : Sh} (hS : S.Ok) {all : List Int} (hall : buildAllP S = (all, true)) : ∀ (n : Nat) (st : MkSt) (k : Int), Inv S n st → KnE S st.known → FI S all st → (keyP S n st k).1.2 = true →
    Grew S all st (keyP S n st k).2 ∧ (mkK S.made k = true → k ∈ (keyP S n st k).2.order) := by
  intro n
  induction n with
  | zero =>
    intro st k hi hK hF hok
    cases hm : mkK S.made k with
    | false => rw [keyP_unmade hm]; exact ⟨⟨hF, hK, [], by simp⟩, fun h => by cases h⟩
    | true =>
      cases hkn : st.known k with
      | some v => rw [keyP_known hm hkn]; exact ⟨⟨hF, hK, [], by simp⟩, fun _ => hF.cov k (by rw [hkn]; simp)⟩
      | none =>
        exfalso
        have e : (keyP S 0 st k).1.2 = false := by
          unfold keyP; rw [if_neg (by simp [hm]), hkn]; simp only
          split <;> rfl
        rw [e] at hok; cases hok
  | succ n ih =>
    intro st k hi hK hF hok
    cases hm : mkK S.made k with
    | false => rw [keyP_unmade hm]; exact ⟨⟨hF, hK, [], by simp⟩, fun h => by cases h⟩
    | true =>
      cases hkn : st.known k with
      | some v => rw [keyP_known hm hkn]; exact ⟨⟨hF, hK, [], by simp⟩, fun _ => hF.cov k (by rw [hkn]; simp)⟩
      | none =>
        by_cases ho : 0 ≤ idx (fun x => k == x) st.open_
        · exfalso; rw [keyP_opened hm hkn ho] at hok; cases hok
        · have hkr := mkK_range (show mkK S.made k ≠ false by rw [hm]; simp)
          have hi1 := inv_push hi hkr hkn (not_open ho)
          have hsp := keyP_spec hS (n + 1) st [] k hi hK
          have hK' := (hsp.1.2.1 hok).2.1
          rw [keyP_new hm hkn ho] at hok hK' ⊢
          have hr2 := keyP_run hS hi1 (tk_ok hS k)
          rw [Tk.run_itr _ (keyP_zero S n)] at hok hK' hr2 ⊢
          have hR := susp_run hS hall ih (S.tk k).itr { st with open_ := st.open_ ++ [k] } [] hi1 hK ⟨hF.fits, hF.cov⟩
          rw [← fetched_itr] at hR
          generalize (S.tk k).itr.run (keyP S n) { st with open_ := st.open_ ++ [k] } = r at *
          dsimp only at hok hK' hr2 ⊢
          by_cases hrk : r.1.2 = true
          · rw [if_pos hrk] at hok hK' ⊢
            obtain ⟨⟨g1, g2, l1, g3⟩, g4⟩ := hR hrk
            have hop := hr2.2.1 hrk
            have hkno : k ∉ r.2.order := fun h => hr2.1.oknown k h (hr2.1.openUnknown k (by rw [hop]; simp))
            refine ⟨⟨⟨fun i h => ?_, fun j hj => ?_⟩, hK', l1 ++ [k], ?_⟩, fun _ => ?_⟩
            · simp only [List.length_append, List.length_singleton] at h
              by_cases hil : i < r.2.order.length
              · simp only [List.getElem_append_left hil]
                rw [fitAt_app (by omega)]
                exact g1.fits i hil
              · have hie : i = r.2.order.length := by omega
                subst hie
                simp only [List.getElem_concat_length]
                rw [fitAt_app (Nat.le_refl _)]
                unfold fitAt
                rw [List.take_length, hm, Bool.true_and, Bool.and_eq_true, List.all_eq_true]
                refine ⟨by simpa using hkno, fun j hj => ?_⟩
                rcases (usesL_mem _ _ _).1 hj with h1 | ⟨f, hf, rfl⟩
                · cases h1
                · rcases g4 f hf with h2 | h2
                  · cases h2
                  · cases hmj : mkK S.made f.1 with
                    | false => rfl
                    | true => simpa using h2 hmj
            · simp only [upd] at hj
              by_cases e : j = k
              · subst e; exact List.mem_append_right _ (List.mem_singleton.2 rfl)
              · rw [if_neg e] at hj; exact List.mem_append_left _ (g1.cov j hj)
            · show r.2.order ++ [k] = _
              rw [g3, List.append_assoc]
            · exact List.mem_append_right _ (List.mem_singleton.2 rfl)
          · rw [if_neg hrk] at hok; cases hok
theorem suspL_fits {S : Sh} (hS : S.Ok) {all : List Int} (hall : buildAllP S = (all, true)) : ∀ (ks : List Int) (st : MkSt), Inv S S.made.length st → KnE S st.known → FI S all st → (suspL S ks st).2 = true → fitsP S all (suspL S ks st).1 = true := by
  intro ks
  induction ks with
  | nil => intro st _ _ hF _; rw [suspL, fitsP_iff]; exact hF.fits
  | cons k ks ih =>
    intro st hi hK hF hok
    rw [suspL] at hok ⊢
    by_cases h : (keyP S S.made.length st k).1.2 = true
    · rw [if_pos h] at hok ⊢
      obtain ⟨⟨g1, g2, -⟩, -⟩ := susp_key hS hall _ st k hi hK hF h
      exact ih _ (keyP_inv hS _ st k hi).1 g2 g1 hok
    · rw [if_neg h] at hok; cases hok
theorem susp_fits {S : Sh} (hS : S.Ok) {all : List Int} (hall : buildAllP S = (all, true)) {keys : List Int} (h : (suspP S keys).2 = true) : fitsP S all (suspP S keys).1 = true :=
  suspL_fits hS hall keys st0 (inv0 S) (knE0 S) ⟨fun i h => by simp [st0] at h, fun k h => by simp [st0] at h⟩ h

/-! what is suspended is reached -/
theorem run_reach {S : Sh} {n : Nat} {R : Int → Prop} (ih : ∀ (st : MkSt) (k : Int), (mkK S.made k = true → R k) → (∀ x ∈ st.order, R x) → ∀ x ∈ (keyP S n st k).2.order, R x) {P : Int → Prop} (hP : ∀ k, P k → mkK S.made k = true → R k) :
    ∀ (m : Itr) (st : MkSt), m.In P → (∀ x ∈ st.order, R x) → ∀ x ∈ (m.run (keyP S n) st).2.order, R x := by
  intro m
  induction m with
  | done v => intro st _ h; exact h
  | ask k c ihm =>
    intro st hIn h
    have h1 := ih st k (hP k hIn.1) h
    by_cases hk : (keyP S n st k).1.2 = true
    · rw [Itr.run_yes hk]; exact ihm _ _ (hIn.2 _) h1
    · rw [Itr.run_no hk]; exact h1
theorem key_reach {S : Sh} (hS : S.Ok) (keys : List Int) : ∀ (n : Nat) (st : MkSt) (k : Int), (mkK S.made k = true → Reach (mkK S.made) (mayS S.made (S.tks.map Tk.enc)) keys k) → (∀ x ∈ st.order, Reach (mkK S.made) (mayS S.made (S.tks.map Tk.enc)) keys x) →
    ∀ x ∈ (keyP S n st k).2.order, Reach (mkK S.made) (mayS S.made (S.tks.map Tk.enc)) keys x := by
  intro n
  induction n with
  | zero =>
    intro st k hk h
    unfold keyP
    split
    · exact h
    · split
      · exact h
      · dsimp only
        split
        · exact h
        · exact h
  | succ n ih =>
    intro st k hk h
    cases hm : mkK S.made k with
    | false => rw [keyP_unmade hm]; exact h
    | true =>
      cases hkn : st.known k with
      | some v => rw [keyP_known hm hkn]; exact h
      | none =>
        by_cases ho : 0 ≤ idx (fun x => k == x) st.open_
        · rw [keyP_opened hm hkn ho]; exact h
        · have hR := hk hm
          have hkr := mkK_range (show mkK S.made k ≠ false by rw [hm]; simp)
          obtain ⟨q, rfl⟩ := Int.eq_ofNat_of_zero_le hkr.1
          have hqt : q < S.tks.length := by have := hS.len; omega
          have hrun := run_reach ih (P := fun j => mayTask (S.tk q).enc j = true) (fun j hj hmj => by
            refine .next q j hR ?_ hmj
            have hrj := mkK_range (show mkK S.made j ≠ false by rw [hmj]; simp)
            unfold mayS mayMade
            rw [List.mem_filter]
            refine ⟨mem_mayList.2 ?_, hmj⟩
            rw [taskAt_get (by simpa using hqt), List.getElem_map]
            rw [tk_at hqt] at hj
            have := hS.ten
            exact ⟨hS.okT hqt, by omega, by omega, hj⟩) (S.tk q).itr { st with open_ := st.open_ ++ [(q : Int)] } (S.tk q).itr_In h
          rw [keyP_new hm hkn ho, Tk.run_itr _ (keyP_zero S n)]
          generalize (S.tk q).itr.run (keyP S n) { st with open_ := st.open_ ++ [(q : Int)] } = r at *
          dsimp only
          split
          · intro x hx
            rcases List.mem_append.1 hx with hx | hx
            · exact hrun x hx
            · rw [List.mem_singleton.1 hx]; exact hR
          · exact hrun
theorem suspL_reach {S : Sh} (hS : S.Ok) (keys : List Int) : ∀ (ks : List Int) (st : MkSt), (∀ k ∈ ks, k ∈ keys) → (∀ x ∈ st.order, Reach (mkK S.made) (mayS S.made (S.tks.map Tk.enc)) keys x) → ∀ x ∈ (suspL S ks st).1, Reach (mkK S.made) (mayS S.made (S.tks.map Tk.enc)) keys x := by
  intro ks
  induction ks with
  | nil => intro st _ h; exact h
  | cons k ks ih =>
    intro st hks h
    rw [suspL]
    split
    · exact ih _ (fun j hj => hks j (List.mem_cons_of_mem _ hj)) (key_reach hS keys _ st k (fun hm => .here k (hks k (List.mem_cons_self ..)) hm) h)
    · intro x hx; cases hx
theorem susp_reach {S : Sh} (hS : S.Ok) (keys : List Int) : ∀ x ∈ (suspP S keys).1, Reach (mkK S.made) (mayS S.made (S.tks.map Tk.enc)) keys x :=
  suspL_reach hS keys keys st0 (fun _ h => h) (fun x h => by simp [st0] at h)
end Go.Proofs.Ytpccgdkidnkppaa

set_option linter.unusedVariables false
set_option linter.unusedSimpArgs false
namespace Go.Proofs.Ytpccgdkidnkppaa
open Go Go.RowKit

/-! the keys that are asked for when all values are at hand -/
def Itr.path (xs : List Int) : Itr → List Int
  | .done _ => []
  | .ask k c => k :: (c (atK xs k)).path xs
def Itr.val (xs : List Int) : Itr → Int
  | .done v => v
  | .ask k c => (c (atK xs k)).val xs
theorem fet_path (xs : List Int) : ∀ (m : Itr) (l : List (Int × Int)), m.run (fetF xs) l = ((m.val xs, true), l ++ (m.path xs).map fun k => (k, atK xs k)) := by
  intro m
  induction m with
  | done v => intro l; simp [Itr.run, Itr.path, Itr.val]
  | ask k c ih =>
    intro l
    rw [Itr.run_yes (by simp [fetF]), Itr.path, Itr.val]
    have h1 : (fetF xs l k).1.1 = atK xs k := rfl
    have h2 : (fetF xs l k).2 = l ++ [(k, atK xs k)] := rfl
    rw [h1, h2, ih]
    simp
theorem mem_uses (t : Tk) (xs : List Int) (j : Int) : j ∈ usesP t xs ↔ j ∈ t.itr.path xs := by
  unfold usesP
  rw [usesL_mem, fetched_itr, fet_path]
  simp
  constructor
  · rintro ⟨x, a, h, rfl, _⟩; exact h
  · intro h; exact ⟨_, j, h, rfl, rfl⟩
theorem fetched_val (t : Tk) (xs : List Int) : (fetchedP t xs).1 = (t.itr.val xs, true) := by rw [fetched_itr, fet_path]
theorem path_in {P : Int → Prop} (xs : List Int) : ∀ (m : Itr), m.In P → ∀ j ∈ m.path xs, P j := by
  intro m
  induction m with
  | done v => intro _ j hj; cases hj
  | ask k c ih =>
    intro h j hj
    rw [Itr.path] at hj
    rcases List.mem_cons.1 hj with rfl | hj
    · exact h.1
    · exact ih _ (h.2 _) j hj
theorem path_ok (xs : List Int) : ∀ (m : Itr), m.ok → ∀ j ∈ m.path xs, 0 ≤ j ∧ j ≤ 9 := by
  intro m
  induction m with
  | done v => intro _ j hj; cases hj
  | ask k c ih =>
    intro h j hj
    rw [Itr.path] at hj
    rcases List.mem_cons.1 hj with rfl | hj
    · exact ⟨h.1, h.2.1⟩
    · exact ih _ (h.2.2 _) j hj

/-- what is fetched with all values -/
def usesS (S : Sh) (all : List Int) (k : Int) : List Int := usesP (S.tk k) all
theorem usesS_mayS {S : Sh} (hS : S.Ok) {all : List Int} {k j : Int} (hk : mkK S.made k = true) (hj : j ∈ usesS S all k) (hm : mkK S.made j = true) : j ∈ mayS S.made (S.tks.map Tk.enc) k := by
  have hkr := mkK_range (show mkK S.made k ≠ false by rw [hk]; simp)
  obtain ⟨q, rfl⟩ := Int.eq_ofNat_of_zero_le hkr.1
  exact uses_mayS hS (by omega) all hj hm
theorem all_unmade {S : Sh} (hS : S.Ok) {all : List Int} (hall : buildAllP S = (all, true)) {k : Int} (h : mkK S.made k = false) : atK all k = atK S.inputs k :=
  (val_same hS hall (knE0 S) (.inl ⟨h, rfl⟩)).symm
/-- a made key has the value of its task -/
theorem all_made {S : Sh} (hS : S.Ok) {all : List Int} (hall : buildAllP S = (all, true)) {k : Int} (h : mkK S.made k = true) : atK all k = (S.tk k).itr.val all := by
  obtain ⟨a1, a2, a3, a4⟩ := all_law hS hall
  have hkr := mkK_range (show mkK S.made k ≠ false by rw [h]; simp)
  obtain ⟨q, rfl⟩ := Int.eq_ofNat_of_zero_le hkr.1
  have hqt : q < S.tks.length := by have := hS.len; omega
  have h4 := a4 q hqt h
  rw [fetched_val] at h4
  rw [atK_in (show q < all.length by omega), a3 q (by omega), tk_at hqt, ← h4]

/-! what is suspended is just what is fetched on some way -/
theorem susp_runU {S : Sh} (hS : S.Ok) {all : List Int} (hall : buildAllP S = (all, true)) {n : Nat} {R : Int → Prop}
    (ih : ∀ (st : MkSt) (k : Int), Inv S n st → KnE S st.known → (mkK S.made k = true → R k) → (∀ x ∈ st.order, R x) → (keyP S n st k).1.2 = true → ∀ x ∈ (keyP S n st k).2.order, R x) :
    ∀ (m : Itr) (st : MkSt), Inv S n st → KnE S st.known → (∀ k ∈ m.path all, mkK S.made k = true → R k) → (∀ x ∈ st.order, R x) → (m.run (keyP S n) st).1.2 = true → ∀ x ∈ (m.run (keyP S n) st).2.order, R x := by
  intro m
  induction m with
  | done v => intro st _ _ _ h _; exact h
  | ask k c ihm =>
    intro st hi hK hP h hok
    by_cases h1 : (keyP S n st k).1.2 = true
    · have hsp := keyP_spec hS n st [] k hi hK
      have hK2 := (hsp.1.2.1 h1).2.1
      have hv : (keyP S n st k).1.1 = atK all k := val_same hS hall hK2 (hsp.2 h1)
      rw [Itr.run_yes h1] at hok ⊢
      rw [Itr.path] at hP
      refine ihm _ _ (keyP_inv hS n st k hi).1 hK2 (fun j hj => hP j (List.mem_cons_of_mem _ (by rw [← hv]; exact hj))) (ih st k hi hK (hP k (List.mem_cons_self ..)) h h1) hok
    · rw [Itr.run_no h1] at hok; cases hok
theorem susp_keyU {S : Sh} (hS : S.Ok) {all : List Int} (hall : buildAllP S = (all, true)) {R : Int → Prop} (hR : ∀ k, R k → mkK S.made k = true → ∀ j ∈ usesS S all k, mkK S.made j = true → R j) :
    ∀ (n : Nat) (st : MkSt) (k : Int), Inv S n st → KnE S st.known → (mkK S.made k = true → R k) → (∀ x ∈ st.order, R x) → (keyP S n st k).1.2 = true → ∀ x ∈ (keyP S n st k).2.order, R x := by
  intro n
  induction n with
  | zero =>
    intro st k hi hK hk h hok
    cases hm : mkK S.made k with
    | false => rw [keyP_unmade hm]; exact h
    | true =>
      cases hkn : st.known k with
      | some v => rw [keyP_known hm hkn]; exact h
      | none =>
        exfalso
        have e : (keyP S 0 st k).1.2 = false := by
          unfold keyP; rw [if_neg (by simp [hm]), hkn]; simp only
          split <;> rfl
        rw [e] at hok; cases hok
  | succ n ih =>
    intro st k hi hK hk h hok
    cases hm : mkK S.made k with
    | false => rw [keyP_unmade hm]; exact h
    | true =>
      cases hkn : st.known k with
      | some v => rw [keyP_known hm hkn]; exact h
      | none =>
        by_cases ho : 0 ≤ idx (fun x => k == x) st.open_
        · rw [keyP_opened hm hkn ho]; exact h
        · have hkr := mkK_range (show mkK S.made k ≠ false by rw [hm]; simp)
          have hi1 := inv_push hi hkr hkn (not_open ho)
          have hrun := susp_runU hS hall ih (S.tk k).itr { st with open_ := st.open_ ++ [k] } hi1 hK (fun j hj hmj => hR k (hk hm) hm j ((mem_uses _ _ _).2 hj) hmj) h
          rw [keyP_new hm hkn ho, Tk.run_itr _ (keyP_zero S n)] at hok ⊢
          generalize (S.tk k).itr.run (keyP S n) { st with open_ := st.open_ ++ [k] } = r at *
          dsimp only at hok ⊢
          by_cases hrk : r.1.2 = true
          · rw [if_pos hrk]
            intro x hx
            rcases List.mem_append.1 hx with hx | hx
            · exact hrun hrk x hx
            · rw [List.mem_singleton.1 hx]; exact hk hm
          · rw [if_neg hrk] at hok; cases hok
theorem suspL_U {S : Sh} (hS : S.Ok) {all : List Int} (hall : buildAllP S = (all, true)) {R : Int → Prop} (hR : ∀ k, R k → mkK S.made k = true → ∀ j ∈ usesS S all k, mkK S.made j = true → R j) :
    ∀ (ks : List Int) (st : MkSt), Inv S S.made.length st → KnE S st.known → (∀ k ∈ ks, mkK S.made k = true → R k) → (∀ x ∈ st.order, R x) → (suspL S ks st).2 = true → ∀ x ∈ (suspL S ks st).1, R x := by
  intro ks
  induction ks with
  | nil => intro st _ _ _ h _; exact h
  | cons k ks ih =>
    intro st hi hK hks h hok
    rw [suspL] at hok ⊢
    by_cases h1 : (keyP S S.made.length st k).1.2 = true
    · rw [if_pos h1] at hok ⊢
      have hsp := keyP_spec hS S.made.length st [] k hi hK
      exact ih _ (keyP_inv hS _ st k hi).1 (hsp.1.2.1 h1).2.1 (fun j hj => hks j (List.mem_cons_of_mem _ hj)) (susp_keyU hS hall hR _ st k hi hK (hks k (List.mem_cons_self ..)) h h1) hok
    · rw [if_neg h1] at hok; cases hok
/-- each key that is asked for is there behind it -/
theorem suspL_has {S : Sh} (hS : S.Ok) {all : List Int} (hall : buildAllP S = (all, true)) : ∀ (ks : List Int) (st : MkSt), Inv S S.made.length st → KnE S st.known → FI S all st → (suspL S ks st).2 = true →
    (∀ x ∈ st.order, x ∈ (suspL S ks st).1) ∧ ∀ k ∈ ks, mkK S.made k = true → k ∈ (suspL S ks st).1 := by
  intro ks
  induction ks with
  | nil => intro st _ _ _ _; exact ⟨fun x h => h, fun k hk => (by cases hk)⟩
  | cons k ks ih =>
    intro st hi hK hF hok
    rw [suspL] at hok ⊢
    by_cases h : (keyP S S.made.length st k).1.2 = true
    · rw [if_pos h] at hok ⊢
      obtain ⟨⟨g1, g2, l, g3⟩, g4⟩ := susp_key hS hall _ st k hi hK hF h
      obtain ⟨j1, j2⟩ := ih _ (keyP_inv hS _ st k hi).1 g2 g1 hok
      refine ⟨fun x hx => j1 x (by rw [g3]; exact List.mem_append_left _ hx), fun j hj hm => ?_⟩
      rcases List.mem_cons.1 hj with rfl | hj
      · exact j1 _ (g4 hm)
      · exact j2 j hj hm
    · rw [if_neg h] at hok; cases hok
theorem susp_iff {S : Sh} (hS : S.Ok) {all : List Int} (hall : buildAllP S = (all, true)) {keys : List Int} (h : (suspP S keys).2 = true) (x : Int) :
    x ∈ (suspP S keys).1 ↔ Reach (mkK S.made) (usesS S all) keys x := by
  have hF0 : FI S all st0 := ⟨fun i h => by simp [st0] at h, fun k h => by simp [st0] at h⟩
  constructor
  · exact suspL_U hS hall (R := Reach (mkK S.made) (usesS S all) keys) (fun k hk _ j hj hm => .next k j hk hj hm) keys st0 (inv0 S) (knE0 S) (fun k hk hm => .here k hk hm) (fun x hx => by simp [st0] at hx) h x
  · obtain ⟨-, h2⟩ := suspL_has hS hall keys st0 (inv0 S) (knE0 S) hF0 h
    have h3 := fitsP_iff.1 (susp_fits hS hall h)
    intro hx
    induction hx with
    | here k hk hm => exact h2 k hk hm
    | next k j _ hj hm ih =>
      obtain ⟨i, hi, rfl⟩ := List.getElem_of_mem ih
      have := h3 i hi
      unfold fitAt at this
      rw [Bool.and_eq_true, List.all_eq_true] at this
      have h4 := this.2 j hj
      rw [hm] at h4
      simp only [Bool.not_true, Bool.false_or, List.contains_eq_mem, decide_eq_true_eq] at h4
      exact List.mem_of_mem_take h4
end Go.Proofs.Ytpccgdkidnkppaa

set_option linter.unusedVariables false
set_option linter.unusedSimpArgs false
namespace Go.Proofs.Ytpccgdkidnkppaa
open Go Go.RowKit

/-! a task that is tried with what is built -/
def tryF (S : Sh) (kn : Int → Option Int) (s : Int) (k : Int) : (Int × Bool) × Int :=
  if mkK S.made k = false then ((atK S.inputs k, true), s)
  else match kn k with
    | some v => ((v, true), s)
    | none => ((0, false), k)
def tryR (S : Sh) (kn : Int → Option Int) (k : Int) : (Int × Bool) × Int := (S.tk k).itr.run (tryF S kn) (-1)
theorem tryF_zero (S : Sh) (kn : Int → Option Int) (s k : Int) : (tryF S kn s k).1.2 = false → (tryF S kn s k).1.1 = 0 := by
  unfold tryF
  split
  · intro h; cases h
  · split
    · intro h; cases h
    · intro _; rfl
/-- what is built has the values of all -/
def Snd (S : Sh) (all : List Int) (kn : Int → Option Int) : Prop := ∀ k v, kn k = some v → mkK S.made k = true ∧ atK all k = v
theorem try_run {S : Sh} {all : List Int} (hun : ∀ k, mkK S.made k = false → atK S.inputs k = atK all k) {kn : Int → Option Int} (hs : Snd S all kn) : ∀ (m : Itr) (s : Int),
    (m.run (tryF S kn) s = ((m.val all, true), s) ∧ ∀ j ∈ m.path all, mkK S.made j = true → kn j ≠ none) ∨
    (∃ j, m.run (tryF S kn) s = ((0, false), j) ∧ j ∈ m.path all ∧ mkK S.made j = true ∧ kn j = none) := by
  intro m
  induction m with
  | done v => intro s; exact .inl ⟨rfl, fun j hj => (by cases hj)⟩
  | ask k c ih =>
    intro s
    cases hm : mkK S.made k with
    | false =>
      have e : tryF S kn s k = ((atK all k, true), s) := by unfold tryF; rw [if_pos hm, hun k hm]
      rw [Itr.run_yes (by rw [e]), e, Itr.path, Itr.val]
      rcases ih (atK all k) s with ⟨h1, h2⟩ | ⟨j, h1, h2, h3⟩
      · refine .inl ⟨h1, fun j hj hmj => ?_⟩
        rcases List.mem_cons.1 hj with rfl | hj
        · rw [hm] at hmj; cases hmj
        · exact h2 j hj hmj
      · exact .inr ⟨j, h1, List.mem_cons_of_mem _ h2, h3⟩
    | true =>
      cases hk : kn k with
      | some v =>
        have hv := (hs k v hk).2
        have e : tryF S kn s k = ((atK all k, true), s) := by unfold tryF; rw [if_neg (by simp [hm]), hk, hv]
        rw [Itr.run_yes (by rw [e]), e, Itr.path, Itr.val]
        rcases ih (atK all k) s with ⟨h1, h2⟩ | ⟨j, h1, h2, h3⟩
        · refine .inl ⟨h1, fun j hj hmj => ?_⟩
          rcases List.mem_cons.1 hj with rfl | hj
          · rw [hk]; simp
          · exact h2 j hj hmj
        · exact .inr ⟨j, h1, List.mem_cons_of_mem _ h2, h3⟩
      | none =>
        have e : tryF S kn s k = ((0, false), k) := by unfold tryF; rw [if_neg (by simp [hm]), hk]
        refine .inr ⟨k, ?_, List.mem_cons_self .., hm, hk⟩
        rw [Itr.run_no (by rw [e]; simp), e]
theorem try_cases {S : Sh} (hS : S.Ok) {all : List Int} (hall : buildAllP S = (all, true)) {kn : Int → Option Int} (hs : Snd S all kn) {k : Int} (hk : mkK S.made k = true) :
    (tryR S kn k = ((atK all k, true), -1) ∧ ∀ j ∈ usesS S all k, mkK S.made j = true → kn j ≠ none) ∨
    (∃ j, tryR S kn k = ((0, false), j) ∧ j ∈ usesS S all k ∧ mkK S.made j = true ∧ kn j = none) := by
  unfold tryR usesS
  rcases try_run (fun j hj => (all_unmade hS hall hj).symm) hs (S.tk k).itr (-1) with ⟨h1, h2⟩ | ⟨j, h1, h2, h3⟩
  · exact .inl ⟨by rw [h1, all_made hS hall hk], fun j hj => h2 j ((mem_uses _ _ _).1 hj)⟩
  · exact .inr ⟨j, h1, (mem_uses _ _ _).2 h2, h3⟩
theorem Snd.upd {S : Sh} {all : List Int} {kn : Int → Option Int} (hs : Snd S all kn) {k : Int} (hk : mkK S.made k = true) : Snd S all (upd kn k (atK all k)) := by
  intro j v hv
  simp only [Go.Proofs.Ytpccgdkidnkppaa.upd] at hv
  by_cases e : j = k
  · rw [if_pos e] at hv; cases hv; subst e; exact ⟨hk, rfl⟩
  · rw [if_neg e] at hv; exact hs j v hv

/-! the restarting machine: a row of keys; the first one is tried, and behind what it lacks once more -/
structure RSt where
  kn : Int → Option Int
  out : List Int
  queue : List Int
def rstep (S : Sh) (st : RSt) : RSt :=
  match st.queue with
  | [] => st
  | k :: q =>
    if (st.kn k).isSome || !mkK S.made k then { st with queue := q }
    else if (tryR S st.kn k).1.2 then ⟨upd st.kn k (tryR S st.kn k).1.1, st.out ++ [k], q⟩ else ⟨st.kn, st.out ++ [k], (tryR S st.kn k).2 :: k :: q⟩
def RRun (S : Sh) : Nat → RSt → RSt → Prop
  | 0, st, fin => st = fin
  | n + 1, st, fin => st.queue ≠ [] ∧ RRun S n (rstep S st) fin
theorem RRun.trans {S : Sh} : ∀ {n m : Nat} {a b c : RSt}, RRun S n a b → RRun S m b c → RRun S (n + m) a c := by
  intro n
  induction n with
  | zero => intro m a b c h k; rw [RRun] at h; subst h; simpa using k
  | succ n ih =>
    intro m a b c h k
    rw [show n + 1 + m = (n + m) + 1 by omega]
    exact ⟨h.1, ih h.2 k⟩
theorem RRun.one {S : Sh} {a : RSt} (h : a.queue ≠ []) : RRun S 1 a (rstep S a) := ⟨h, rfl⟩

/-- what a key's restarting brings -/
structure Seg (S : Sh) (all : List Int) (ks : List Int) (kn kn' : Int → Option Int) (l : List Int) : Prop where
  snd : Snd S all kn'
  up : KLe kn kn'
  has : ∀ k ∈ ks, mkK S.made k = true → kn' k ≠ none
  new : ∀ j, kn' j ≠ none → kn j = none → j ∈ l
  was : ∀ j ∈ l, kn j = none ∧ kn' j ≠ none ∧ Reach (mkK S.made) (usesS S all) ks j
  many : ∀ j, l.count j ≤ 1 + (usesS S all j).length
  closed : ∀ j ∈ l, ∀ i ∈ usesS S all j, mkK S.made i = true → kn' i ≠ none
theorem kle_none {a b : Int → Option Int} (h : KLe a b) {j : Int} (hb : b j = none) : a j = none := by
  cases e : a j with
  | none => rfl
  | some v => rw [h j v e] at hb; cases hb
theorem kle_some {a b : Int → Option Int} (h : KLe a b) {j : Int} (ha : a j ≠ none) : b j ≠ none := fun hb => ha (kle_none h hb)
theorem Seg.nil {S : Sh} {all : List Int} {ks : List Int} {kn : Int → Option Int} (hs : Snd S all kn) (hk : ∀ k ∈ ks, mkK S.made k = true → kn k ≠ none) : Seg S all ks kn kn [] :=
  ⟨hs, fun _ _ h => h, hk, fun j h1 h2 => (h1 h2).elim, fun j hj => (by cases hj), fun j => by simp, fun j hj => (by cases hj)⟩
theorem Seg.join {S : Sh} {all : List Int} {k : Int} {ks : List Int} {kn kn1 kn2 : Int → Option Int} {l1 l2 : List Int} (h1 : Seg S all [k] kn kn1 l1) (h2 : Seg S all ks kn1 kn2 l2) : Seg S all (k :: ks) kn kn2 (l1 ++ l2) := by
  refine ⟨h2.snd, fun j v hv => h2.up j v (h1.up j v hv), fun j hj hm => ?_, fun j ha hb => ?_, fun j hj => ?_, fun j => ?_, fun j hj i hi hm => ?_⟩
  · rcases List.mem_cons.1 hj with rfl | hj
    · exact kle_some h2.up (h1.has _ (List.mem_singleton.2 rfl) hm)
    · exact h2.has j hj hm
  · cases e : kn1 j with
    | none => exact List.mem_append_right _ (h2.new j ha e)
    | some v => exact List.mem_append_left _ (h1.new j (by rw [e]; simp) hb)
  · rcases List.mem_append.1 hj with hj | hj
    · obtain ⟨a, b, c⟩ := h1.was j hj
      exact ⟨a, kle_some h2.up b, c.mono (fun x hx => by rw [List.mem_singleton.1 hx]; exact List.mem_cons_self ..)⟩
    · obtain ⟨a, b, c⟩ := h2.was j hj
      exact ⟨kle_none h1.up a, b, c.mono (fun x hx => List.mem_cons_of_mem _ hx)⟩
  · rw [List.count_append]
    by_cases hj : j ∈ l1
    · have : l2.count j = 0 := List.count_eq_zero.2 fun hj2 => (h1.was j hj).2.1 (h2.was j hj2).1
      have := h1.many j
      omega
    · have : l1.count j = 0 := List.count_eq_zero.2 hj
      have := h2.many j
      omega
  · rcases List.mem_append.1 hj with hj | hj
    · exact kle_some h2.up (h1.closed j hj i hi hm)
    · exact h2.closed j hj i hi hm
/-- no key that leads to no circle is reached from one that it may fetch -/
theorem reach_no_back {mk : Int → Bool} {may : Int → List Int} : ∀ k, Wf may k → ∀ j ∈ may k, ¬ Reach mk may [j] k := by
  intro k hk
  induction hk with
  | mk k hwf ih =>
    intro j hj hr
    -- the last step into k comes from some i that is reached from j
    have gen : ∀ x, Reach mk may [j] x → x = k → ∃ y ∈ may k, Reach mk may [y] y ∧ (y = k ∨ ∃ z ∈ may y, Reach mk may [z] y) := by
      intro x hx
      induction hx with
      | here x h1 h2 => intro e; exact ⟨j, hj, by rw [List.mem_singleton.1 h1] at h2; exact .here _ (by simp) h2, .inl (by rw [← e]; exact (List.mem_singleton.1 h1).symm)⟩
      | next i x hi hx hm ihx =>
        intro e
        subst e
        -- j leads to i, i may fetch x, and x may fetch j: so j is reached from what it may fetch, or is x
        by_cases hjx : j = x
        · exact ⟨j, hj, by rw [hjx]; exact .here _ (by simp) hm, .inl hjx⟩
        · have hmj : mk j = true := by
            clear ihx hx
            induction hi with
            | here i h1 h2 => rw [← List.mem_singleton.1 h1]; exact h2
            | next _ _ _ _ _ ih' => exact ih'
          refine ⟨j, hj, .here _ (by simp) hmj, .inr ?_⟩
          -- from j's own step
          have step : ∀ i, Reach mk may [j] i → i = j ∨ ∃ z ∈ may j, mk z = true ∧ Reach mk may [z] i := by
            intro i hi
            induction hi with
            | here i h1 h2 => exact .inl (List.mem_singleton.1 h1)
            | next a b ha hb hmb iha =>
              rcases iha with rfl | ⟨z, hz, hmz, hza⟩
              · exact .inr ⟨b, hb, hmb, .here _ (by simp) hmb⟩
              · exact .inr ⟨z, hz, hmz, .next a b hza hb hmb⟩
          rcases step x (.next i x hi hx hm) with e | ⟨z, hz, hmz, hzx⟩
          · exact (hjx e.symm).elim
          · exact ⟨z, hz, .next x j hzx hj hmj⟩
    obtain ⟨y, hy, _, h2⟩ := gen k hr rfl
    rcases h2 with e | ⟨z, hz, hzy⟩
    · subst e; exact ih y hy y hy (.here _ (by simp) hr.isMade)
    · exact ih y hy z hz hzy
theorem reach_lift {S : Sh} (hS : S.Ok) {all : List Int} {ks : List Int} {x : Int} (h : Reach (mkK S.made) (usesS S all) ks x) : Reach (mkK S.made) (mayS S.made (S.tks.map Tk.enc)) ks x := by
  induction h with
  | here k h1 h2 => exact .here k h1 h2
  | next k j h1 h2 h3 ih => exact .next k j ih (usesS_mayS hS ih.isMade h2 h3) h3
def unk (S : Sh) (all : List Int) (kn : Int → Option Int) (k : Int) : Nat := ((usesS S all k).filter fun j => mkK S.made j && (kn j).isNone).length
theorem filter_less {α : Type} {p q : α → Bool} : ∀ {l : List α} {x : α}, x ∈ l → p x = true → q x = false → (∀ y, q y = true → p y = true) → (l.filter q).length < (l.filter p).length := by
  intro l
  induction l with
  | nil => intro x hx; cases hx
  | cons a l ih =>
    intro x hx hp hq hqp
    have hle : (l.filter q).length ≤ (l.filter p).length := by
      clear ih hx
      induction l with
      | nil => simp
      | cons b l ih =>
        simp only [List.filter_cons]
        by_cases hb : q b = true
        · rw [if_pos hb, if_pos (hqp b hb)]; simp; exact ih
        · rw [if_neg hb]
          split
          · simp; omega
          · exact ih
    simp only [List.filter_cons]
    rcases List.mem_cons.1 hx with rfl | hx
    · rw [if_pos hp, if_neg (by simp [hq])]; simp; omega
    · have := ih hx hp hq hqp
      by_cases ha : q a = true
      · rw [if_pos ha, if_pos (hqp a ha)]; simp; exact this
      · rw [if_neg ha]
        split
        · simp; omega
        · exact this
/-- a key is restarted until it is built -/
theorem rest_key {S : Sh} (hS : S.Ok) {all : List Int} (hall : buildAllP S = (all, true)) : ∀ k, Wf (mayS S.made (S.tks.map Tk.enc)) k → ∀ (kn : Int → Option Int) (out q : List Int), Snd S all kn →
    ∃ n kn' l, RRun S n ⟨kn, out, k :: q⟩ ⟨kn', out ++ l, q⟩ ∧ Seg S all [k] kn kn' l := by
  intro k hk
  induction hk with
  | mk k hwf ih =>
    have inner : ∀ (m : Nat) (kn : Int → Option Int) (out q : List Int), Snd S all kn → mkK S.made k = true → kn k = none → unk S all kn k ≤ m →
        ∃ n kn' l, RRun S n ⟨kn, out, k :: q⟩ ⟨kn', out ++ l, q⟩ ∧ Seg S all [k] kn kn' l ∧ l.count k ≤ 1 + unk S all kn k := by
      intro m
      induction m with
      | zero =>
        intro kn out q hs hm hkn hu
        rcases try_cases hS hall hs hm with ⟨h1, h2⟩ | ⟨j, h1, h2, h3, h4⟩
        · have e : rstep S ⟨kn, out, k :: q⟩ = ⟨upd kn k (atK all k), out ++ [k], q⟩ := by simp [rstep, hkn, hm, h1]
          refine ⟨1, upd kn k (atK all k), [k], by rw [← e]; exact RRun.one (by simp), ⟨hs.upd hm, fun j v hv => ?_, fun j hj _ => ?_, fun j ha hb => ?_, fun j hj => ?_, fun j => ?_, fun j hj i hi hmi => ?_⟩, by simp⟩
          · simp only [upd]; split
            · rename_i e; rw [e, hkn] at hv; cases hv
            · exact hv
          · rw [List.mem_singleton.1 hj]; simp [upd]
          · simp only [upd] at ha
            split at ha
            · rename_i e; rw [e]; simp
            · exact (ha hb).elim
          · rw [List.mem_singleton.1 hj]; exact ⟨hkn, by simp [upd], .here _ (by simp) hm⟩
          · rw [List.count_singleton]; split <;> omega
          · rw [List.mem_singleton.1 hj] at hi
            simp only [upd]
            split
            · simp
            · exact h2 i hi hmi
        · exfalso
          have : 0 < unk S all kn k := List.length_pos_of_mem (List.mem_filter.2 ⟨h2, by simp [h3, h4]⟩)
          omega
      | succ m ihm =>
        intro kn out q hs hm hkn hu
        rcases try_cases hS hall hs hm with ⟨h1, h2⟩ | ⟨j, h1, h2, h3, h4⟩
        · have e : rstep S ⟨kn, out, k :: q⟩ = ⟨upd kn k (atK all k), out ++ [k], q⟩ := by simp [rstep, hkn, hm, h1]
          refine ⟨1, upd kn k (atK all k), [k], by rw [← e]; exact RRun.one (by simp), ⟨hs.upd hm, fun j v hv => ?_, fun j hj _ => ?_, fun j ha hb => ?_, fun j hj => ?_, fun j => ?_, fun j hj i hi hmi => ?_⟩, by simp⟩
          · simp only [upd]; split
            · rename_i e; rw [e, hkn] at hv; cases hv
            · exact hv
          · rw [List.mem_singleton.1 hj]; simp [upd]
          · simp only [upd] at ha
            split at ha
            · rename_i e; rw [e]; simp
            · exact (ha hb).elim
          · rw [List.mem_singleton.1 hj]; exact ⟨hkn, by simp [upd], .here _ (by simp) hm⟩
          · rw [List.count_singleton]; split <;> omega
          · rw [List.mem_singleton.1 hj] at hi
            simp only [upd]
            split
            · simp
            · exact h2 i hi hmi
        · have e : rstep S ⟨kn, out, k :: q⟩ = ⟨kn, out ++ [k], j :: k :: q⟩ := by simp [rstep, hkn, hm, h1]
          have hjm := usesS_mayS hS hm h2 h3
          obtain ⟨n1, kn1, l1, r1, s1⟩ := ih j hjm kn (out ++ [k]) (k :: q) hs
          have hno : k ∉ l1 := fun hk1 => reach_no_back k (.mk k hwf) j hjm (reach_lift hS (s1.was k hk1).2.2)
          have hkn1 : kn1 k = none := by
            cases e1 : kn1 k with
            | none => rfl
            | some v => exact (hno (s1.new k (by rw [e1]; simp) hkn)).elim
          have hj1 : kn1 j ≠ none := s1.has j (by simp) h3
          have hul : unk S all kn1 k < unk S all kn k := filter_less h2 (by simp [h3, h4]) (by cases e : kn1 j <;> simp_all) (fun y hy => by
            simp only [Bool.and_eq_true, Option.isNone_iff_eq_none] at hy ⊢
            exact ⟨hy.1, kle_none s1.up hy.2⟩)
          obtain ⟨n2, kn2, l2, r2, s2, c2⟩ := ihm kn1 (out ++ [k] ++ l1) q s1.snd hm hkn1 (by omega)
          have hR : Reach (mkK S.made) (usesS S all) [k] k := .here _ (by simp) hm
          have hRj : ∀ x, Reach (mkK S.made) (usesS S all) [j] x → Reach (mkK S.made) (usesS S all) [k] x := fun x hx => hx.lift (fun y hy hmy => by rw [List.mem_singleton.1 hy]; exact .next k j hR h2 h3)
          refine ⟨1 + (n1 + n2), kn2, [k] ++ l1 ++ l2, ?_, ⟨s2.snd, fun x v hv => s2.up x v (s1.up x v hv), s2.has, fun x ha hb => ?_, fun x hx => ?_, fun x => ?_, fun x hx i hi hmi => ?_⟩, ?_⟩
          · refine RRun.trans (b := ⟨kn, out ++ [k], j :: k :: q⟩) (by rw [← e]; exact RRun.one (by simp)) (RRun.trans r1 ?_)
            rw [show out ++ ([k] ++ l1 ++ l2) = out ++ [k] ++ l1 ++ l2 by simp]
            exact r2
          · cases e1 : kn1 x with
            | none => exact List.mem_append_right _ (s2.new x ha e1)
            | some v => exact List.mem_append_left _ (List.mem_append_right _ (s1.new x (by rw [e1]; simp) hb))
          · rcases List.mem_append.1 hx with hx | hx
            · rcases List.mem_append.1 hx with hx | hx
              · rw [List.mem_singleton.1 hx]
                exact ⟨hkn, s2.has k (by simp) hm, hR⟩
              · obtain ⟨a, b, c⟩ := s1.was x hx
                exact ⟨a, kle_some s2.up b, hRj x c⟩
            · obtain ⟨a, b, c⟩ := s2.was x hx
              exact ⟨kle_none s1.up a, b, c⟩
          · rw [List.count_append, List.count_append, List.count_singleton]
            by_cases hxk : x = k
            · subst hxk
              have h0 : l1.count x = 0 := List.count_eq_zero.2 hno
              have hf : unk S all kn x ≤ (usesS S all x).length := List.length_filter_le _ _
              simp only [beq_self_eq_true, if_true]
              omega
            · have hb : (k == x) = false := by simpa using fun e => hxk e.symm
              rw [hb]
              by_cases hx1 : x ∈ l1
              · have h0 : l2.count x = 0 := List.count_eq_zero.2 fun hx2 => (s1.was x hx1).2.1 (s2.was x hx2).1
                have := s1.many x
                simp only [Bool.false_eq_true, if_false]
                omega
              · have h0 : l1.count x = 0 := List.count_eq_zero.2 hx1
                have := s2.many x
                simp only [Bool.false_eq_true, if_false]
                omega
          · rcases List.mem_append.1 hx with hx | hx
            · rcases List.mem_append.1 hx with hx | hx
              · rw [List.mem_singleton.1 hx] at hi
                have : k ∈ l2 := s2.new k (s2.has k (by simp) hm) hkn1
                exact s2.closed k this i hi hmi
              · exact kle_some s2.up (s1.closed x hx i hi hmi)
            · exact s2.closed x hx i hi hmi
          · rw [List.count_append, List.count_append, List.count_singleton]
            have h0 : l1.count k = 0 := List.count_eq_zero.2 hno
            simp only [beq_self_eq_true, if_true]
            omega
    intro kn out q hs
    cases hm : mkK S.made k with
    | false =>
      have e : rstep S ⟨kn, out, k :: q⟩ = ⟨kn, out, q⟩ := by simp [rstep, hm]
      refine ⟨1, kn, [], by rw [List.append_nil, ← e]; exact RRun.one (by simp), Seg.nil hs (fun j hj hmj => ?_)⟩
      rw [List.mem_singleton.1 hj, hm] at hmj; cases hmj
    | true =>
      cases hkn : kn k with
      | some v =>
        have e : rstep S ⟨kn, out, k :: q⟩ = ⟨kn, out, q⟩ := by simp [rstep, hkn]
        refine ⟨1, kn, [], by rw [List.append_nil, ← e]; exact RRun.one (by simp), Seg.nil hs (fun j hj hmj => ?_)⟩
        rw [List.mem_singleton.1 hj, hkn]; simp
      | none =>
        obtain ⟨n, kn', l, r, s, _⟩ := inner _ kn out q hs hm hkn (Nat.le_refl _)
        exact ⟨n, kn', l, r, s⟩
theorem rest_keys {S : Sh} (hS : S.Ok) {all : List Int} (hall : buildAllP S = (all, true)) (hsafe : safeP S.made (S.tks.map Tk.enc) = true) : ∀ (ks : List Int) (kn : Int → Option Int) (out : List Int), Snd S all kn → (∀ k ∈ ks, 0 ≤ k ∧ k < S.made.length) →
    ∃ n kn' l, RRun S n ⟨kn, out, ks⟩ ⟨kn', out ++ l, []⟩ ∧ Seg S all ks kn kn' l := by
  intro ks
  induction ks with
  | nil => intro kn out hs _; exact ⟨0, kn, [], by rw [List.append_nil]; rfl, Seg.nil hs (fun k hk => (by cases hk))⟩
  | cons k ks ih =>
    intro kn out hs hk
    obtain ⟨a, b⟩ := hk k (List.mem_cons_self ..)
    obtain ⟨q, rfl⟩ := Int.eq_ofNat_of_zero_le a
    obtain ⟨n1, kn1, l1, r1, s1⟩ := rest_key hS hall q ((safeP_iff hS.sheet).1 hsafe q (by omega)) kn out ks hs
    obtain ⟨n2, kn2, l2, r2, s2⟩ := ih kn1 (out ++ l1) s1.snd (fun j hj => hk j (List.mem_cons_of_mem _ hj))
    exact ⟨n1 + n2, kn2, l1 ++ l2, RRun.trans r1 (by rw [← List.append_assoc]; exact r2), s1.join s2⟩
/-- what is restarted: its order, and what the law asks of it -/
theorem rest_all {S : Sh} (hS : S.Ok) {all : List Int} (hall : buildAllP S = (all, true)) (hsafe : safeP S.made (S.tks.map Tk.enc) = true) {keys : List Int} (hk : keysOk S.made.length keys = true) :
    ∃ n fin, RRun S n ⟨fun _ => none, [], keys⟩ fin ∧ fin.queue = [] ∧ (∀ j, fin.out.count j ≤ 1 + (usesS S all j).length) ∧ ∀ x, x ∈ fin.out ↔ Reach (mkK S.made) (usesS S all) keys x := by
  obtain ⟨n, kn', l, r, s⟩ := rest_keys hS hall hsafe keys (fun _ => none) [] (fun k v h => by cases h) (keysOk_iff.1 hk)
  rw [List.nil_append] at r
  refine ⟨n, _, r, rfl, s.many, fun x => ⟨fun hx => (s.was x hx).2.2, fun hx => ?_⟩⟩
  have : kn' x ≠ none := by
    induction hx with
    | here k h1 h2 => exact s.has k h1 h2
    | next k j h1 h2 h3 ih => exact s.closed k (s.new k ih rfl) j h2 h3
  exact s.new x this rfl
end Go.Proofs.Ytpccgdkidnkppaa

set_option linter.unusedVariables false
set_option linter.unusedSimpArgs false
namespace Go.Proofs.Ytpccgdkidnkppaa
open Go Go.RowKit

/-- what is built as a map of numbers -/
def knV (kn : Int → Option Int) : Int → Option Value := fun k => (kn k).map fun v => .int .i64 v
theorem knV_upd (kn : Int → Option Int) (k v : Int) : updV (knV kn) k (.int .i64 v) = knV (upd kn k v) := by
  funext j
  simp only [updV, knV, upd]
  split <;> rfl
theorem intMapTy : VMapTy Try.prog 99 3 3 (.int .i64 0) := ⟨Try.underlying99, Try.underlying3, fun w => by kernel_rfl⟩

/-- between two fetches of a try: four boxes, the last one holds the key that is lacking -/
structure TryAt (B : Nat) (w0 : World) (vs vi : Value × Value) (M sb ib mb lb : Nat) (s : Int) (w : World) : Prop where
  bs : w.heap[sb]? = some (.cells #[vs.1, vs.2] 31 (0, 0))
  bi : w.heap[ib]? = some (.cells #[vi.1] 26 (0, 0))
  bm : w.heap[mb]? = some (.cells #[.map (some M)] 99 (0, 0))
  bl : w.heap[lb]? = some (.cells #[.int .i64 s] 3 (0, 0))
  lo : B ≤ sb ∧ B ≤ ib ∧ B ≤ mb ∧ B ≤ lb
  ne : sb ≠ lb ∧ ib ≠ lb ∧ mb ≠ lb
  below : Below B w0 w
  size : B ≤ w.heap.size
def TryI (B : Nat) (w0 : World) (vs vi : Value × Value) (M sb ib mb lb : Nat) (s : Int) (w : World) (F : Nat → Prop) : Prop := TryAt B w0 vs vi M sb ib mb lb s w ∧ F = (· = lb)
section
variable {B : Nat} {w0 : World} {vs vi : Value × Value} {M sb ib mb lb : Nat} {s : Int} {w w' : World}
theorem TryAt.up (h : TryAt B w0 vs vi M sb ib mb lb s w) (hb : Below w.heap.size w w') : TryAt B w0 vs vi M sb ib mb lb s w' :=
  ⟨(hb.block _ (block_lt h.bs)).trans h.bs, (hb.block _ (block_lt h.bi)).trans h.bi, (hb.block _ (block_lt h.bm)).trans h.bm, (hb.block _ (block_lt h.bl)).trans h.bl, h.lo, h.ne, below_up' h.below h.size hb, Nat.le_trans h.size hb.size⟩
theorem TryAt.set (h : TryAt B w0 vs vi M sb ib mb lb s w) (k : Int) : TryAt B w0 vs vi M sb ib mb lb k (w.setCell ⟨lb, 0, none⟩ (.int .i64 k)) :=
  ⟨(setCell_far h.ne.1).trans h.bs, (setCell_far h.ne.2.1).trans h.bi, (setCell_far h.ne.2.2).trans h.bm, (setCell_block h.bl 0 _).trans rfl, h.lo, h.ne, h.below.setCell (p := ⟨lb, 0, none⟩) h.lo.2.2.2 _, by simpa using h.size⟩
end
theorem TryI.holds (B : Nat) (w0 : World) (vs vi : Value × Value) (M sb ib mb lb : Nat) : Holds (TryI B w0 vs vi M sb ib mb lb) B w0 where
  old := by
    rintro s w F ⟨h, rfl⟩
    exact ⟨h.below, h.size⟩
  own := by
    rintro s w F ⟨h, rfl⟩ i rfl
    exact ⟨h.lo.2.2.2, block_lt h.bl⟩
  alloc := by
    rintro s w F o ⟨h, rfl⟩
    exact ⟨h.up (below_al (Below.refl _ _) o), rfl⟩

set_option maxHeartbeats 2000000 in
theorem try1_calls (S : Sh) (hS : S.Ok) (Am At Ai : Option Addr) (cm ct ci : Nat) (kn : Int → Option Int) (hkv : ∀ k v, kn k = some v → 0 ≤ v ∧ v ≤ 96) (B : Nat) (w0 : World) (M c sb ib mb lb : Nat) (hm : BoolsAt B w0 Am S.made) (hx : IntsAt B w0 Ai S.inputs) (hM : VMap Try.prog 3 w0 M (knV kn) c) (hMB : M < B)
    (s k : Int) (w : World) (F : Nat → Prop) (hk0 : 0 ≤ k) (hk9 : k ≤ 9) (hI : TryI B w0 (.slice Am S.made.length cm, .slice At S.tks.length ct) (.slice Ai S.inputs.length ci, undef) M sb ib mb lb s w F) :
    Calls Try.prog 130 #[.int .i64 k, .pointer (some ⟨sb, 0, none⟩), .pointer (some ⟨ib, 0, none⟩), .pointer (some ⟨mb, 0, none⟩), .pointer (some ⟨lb, 0, none⟩)] w (Gives (TryI B w0 (.slice Am S.made.length cm, .slice At S.tks.length ct) (.slice Ai S.inputs.length ci, undef) M sb ib mb lb) F w (tryF S kn s k)) := by
  obtain ⟨h, rfl⟩ := hI
  have x0 : w.cell? ⟨sb, 0, none⟩ = some (.slice Am S.made.length cm) := cellm h.bs 0
  have x1 : w.cell? ⟨sb, 1, none⟩ = some (.slice At S.tks.length ct) := cellm h.bs 1
  have hten := hS.ten
  have hins := hS.ins
  have hmk := makes_calls Am At cm S.tks.length ct k S.made B w0 w h.below h.size (by unfold maxLen; omega) hm
  have hat96 : 0 ≤ atK S.inputs k ∧ atK S.inputs k ≤ 96 := by
    unfold atK
    split
    · omega
    · by_cases h1 : k.toNat < S.inputs.length
      · rw [getD_at _ h1]; exact hS.vals _ (List.getElem_mem _)
      · rw [getD_out _ (by omega)]; omega
  have hkw : (Lit.int .i64 k).wf = true := wf_small (by omega) (by omega)
  have hMw : ∀ w2, Below B w0 w2 → VMap Try.prog 3 w2 M (knV kn) c := fun w2 hb => hM.block (hb.block _ hMB)
  have hac := fun w2 (h2 : Below B w0 w2) (hz : B ≤ w2.heap.size) => at_calls Ai ci k S.inputs B w0 w2 h2 hz (by unfold maxLen; omega) hx
  replace hmk := Lib.hid hmk
  replace h := Lib.hid h
  replace hat96 := Lib.hid hat96
  replace hMw := Lib.hid hMw
  replace hac := Lib.hid hac
  replace hins := Lib.hid hins
  clear hM hx hm hS
  cases hmd : mkK S.made k with
  | false =>
    have e : tryF S kn s k = ((atK S.inputs k, true), s) := by unfold tryF; rw [if_pos hmd]
    rw [hmd] at hmk
    rw [e]
    replace e := Lib.hid e
    replace hmd := Lib.hid hmd
    go_enter Try.func130, Try.ntmps130
    go_wp2_with fail
    refine hmk.out.mono ?_
    rintro e1 w1 ⟨rfl, h1⟩
    have hT := h.out.up h1
    have y0 : w1.cell? ⟨ib, 0, none⟩ = some (.slice Ai S.inputs.length ci) := cellm hT.bi 0
    have hac1 := hac.out w1 hT.below hT.size
    replace hT := Lib.hid hT
    replace hac1 := Lib.hid hac1
    have t := below_turn (F := (· = lb)) h1
    replace t := Lib.hid t
    clear x0 x1 h1
    go_wp2_with fail
    refine hac1.out.mono ?_
    rintro e2 w2 ⟨rfl, rfl⟩
    go_wp2_with fail
    go_ret2
    exact ⟨rfl, hat96.out.1, hat96.out.2, _, ⟨hT.out, rfl⟩, t.out⟩
  | true =>
    rw [hmd] at hmk
    cases hkn : kn k with
    | some v =>
      have e : tryF S kn s k = ((v, true), s) := by unfold tryF; rw [if_neg (by simp [hmd]), hkn]
      have hv := hkv k v hkn
      have hg : (knV kn k).getD (.int .i64 0) = .int .i64 v := by simp [knV, hkn]
      have hs : (knV kn k).isSome = true := by simp [knV, hkn]
      rw [e]
      replace e := Lib.hid e
      replace hmd := Lib.hid hmd
      replace hkn := Lib.hid hkn
      replace hv := Lib.hid hv
      replace hkv := Lib.hid hkv
      go_enter Try.func130, Try.ntmps130
      go_wp2_with fail
      refine hmk.out.mono ?_
      rintro e1 w1 ⟨rfl, h1⟩
      have hT := h.out.up h1
      have y0 : w1.cell? ⟨mb, 0, none⟩ = some (.map (some M)) := cellm hT.bm 0
      have hM1 := hMw.out w1 hT.below
      replace hT := Lib.hid hT
      replace hM1 := Lib.hid hM1
      have t := below_turn (F := (· = lb)) h1
      replace t := Lib.hid t
      clear x0 x1 h1
      go_wp2_with (with_reducible refine wpList_vget_ok (by rfl) (.tmp 18) (.tmp 19) 99 (by rfl) intMapTy M c (knV kn) (by with_unfolding_all rfl) hM1.out k (by with_unfolding_all rfl) hkw ?_)
      go_ret2
      exact ⟨rfl, hv.out.1, hv.out.2, _, ⟨hT.out, rfl⟩, t.out⟩
    | none =>
      have e : tryF S kn s k = ((0, false), k) := by unfold tryF; rw [if_neg (by simp [hmd]), hkn]
      have hg : (knV kn k).getD (.int .i64 0) = .int .i64 0 := by simp [knV, hkn]
      have hs : (knV kn k).isSome = false := by simp [knV, hkn]
      rw [e]
      replace e := Lib.hid e
      replace hmd := Lib.hid hmd
      replace hkn := Lib.hid hkn
      replace hkv := Lib.hid hkv
      go_enter Try.func130, Try.ntmps130
      go_wp2_with fail
      refine hmk.out.mono ?_
      rintro e1 w1 ⟨rfl, h1⟩
      have hT := h.out.up h1
      have y0 : w1.cell? ⟨mb, 0, none⟩ = some (.map (some M)) := cellm hT.bm 0
      have y1 : w1.cell? ⟨lb, 0, none⟩ = some (.int .i64 s) := cellm hT.bl 0
      have f1 : w1.frozen? ⟨lb, 0, none⟩ = false := frozenm hT.bl 0
      have hM1 := hMw.out w1 hT.below
      have hT2 := hT.set k
      have t := (below_turn (F := (· = lb)) h1).trans (setCell_turn (F := (· = lb)) (a := ⟨lb, 0, none⟩) rfl (.int .i64 k))
      replace hT := Lib.hid hT
      replace hT2 := Lib.hid hT2
      replace hM1 := Lib.hid hM1
      replace t := Lib.hid t
      clear x0 x1 h1
      go_wp2_with (with_reducible refine wpList_vget_ok (by rfl) (.tmp 18) (.tmp 19) 99 (by rfl) intMapTy M c (knV kn) (by with_unfolding_all rfl) hM1.out k (by with_unfolding_all rfl) hkw ?_)
      go_ret2
      exact ⟨rfl, by simp, by simp, _, ⟨hT2.out, rfl⟩, t.out⟩

/-- a try of a key -/
def GivesTry (r : (Int × Bool) × Int) (w : World) (e : Ending) (w' : World) : Prop := e = .returned (.tuple #[.int .i64 r.1.1, .int .i64 r.2, .bool r.1.2]) ∧ Below w.heap.size w w'
set_option maxHeartbeats 2000000 in
theorem try_calls (S : Sh) (hS : S.Ok) (Am At Ai : Option Addr) (cm ct ci : Nat) (kn : Int → Option Int) (hkv : ∀ k v, kn k = some v → 0 ≤ v ∧ v ≤ 96) (B : Nat) (w0 w : World) (hb : Below B w0 w) (hB : B ≤ w.heap.size) (hs : SheetAt B w0 Am cm At ct S.made (S.tks.map Tk.enc)) (hx : IntsAt B w0 Ai S.inputs) (M c : Nat) (hM : VMap Try.prog 3 w M (knV kn) c)
    (q : Nat) (hq : q < S.tks.length) :
    Calls Try.prog 88 #[.agg #[.slice Am S.made.length cm, .slice At S.tks.length ct], .int .i64 (q : Int), .slice Ai S.inputs.length ci, .map (some M)] w (GivesTry (tryR S kn q) w) := by
  have hok := hS.tks _ (List.getElem_mem hq)
  have hrun := fun (sb ib mb lb : Nat) (A' : Option Addr) (c' : Nat) (w1 : World) (hc : S.tks[q].enc.parts.length ≤ c') (hp : PartsIs w.heap.size w A' 0 S.tks[q].enc.parts) (hI : TryI w.heap.size w (.slice Am S.made.length cm, .slice At S.tks.length ct) (.slice Ai S.inputs.length ci, undef) M sb ib mb lb (-1) w1 (· = lb)) =>
    run_calls (TryI w.heap.size w (.slice Am S.made.length cm, .slice At S.tks.length ct) (.slice Ai S.inputs.length ci, undef) M sb ib mb lb) (tryF S kn) 130 #[] #[.pointer (some ⟨sb, 0, none⟩), .pointer (some ⟨ib, 0, none⟩), .pointer (some ⟨mb, 0, none⟩), .pointer (some ⟨lb, 0, none⟩)] w.heap.size w
      (enters_of Try.func130 (by kernel_rfl) rfl) (TryI.holds _ _ _ _ _ _ _ _ _)
      (fun s k w2 F h h0 h9 => by simpa using try1_calls S hS Am At Ai cm ct ci kn hkv w.heap.size w M c sb ib mb lb (hs.made.up hb hB) (hx.up hb hB) hM hM.lt s k w2 F h0 h9 h) S.tks[q] A' c' (-1) w1 (· = lb) hok hI hc hp
  have ht : S.tk q = S.tks[q] := tk_at hq
  have hr : S.tks[q].run (tryF S kn) (-1) = tryR S kn q := by unfold tryR; rw [ht, Tk.run_itr _ (tryF_zero S kn)]
  rw [hr] at hrun
  generalize tryR S kn q = R at *
  obtain ⟨b, o, A', c', rfl, hbl, z0, z1, z2, hpc, hpm, hp⟩ := (PartsIs.up hb hB _ _ _ hs.tasks).at (Below.refl _ w) q (by simpa using hq)
  simp only [List.getElem_map] at z0 z1 z2 hpc hp
  have hlt := hs.mt
  have hlt2 := hs.lt
  simp only [List.length_map] at hlt2
  unfold maxLen at hlt hpm
  have a0 : ((((w.alloc (.cells #[.slice Am S.made.length cm, .slice (some ⟨b, o, none⟩) S.tks.length ct] 31)).alloc (.cells #[.slice Ai S.inputs.length ci] 26)).alloc (.cells #[.map (some M)] 99)).alloc (.cells #[.int .i64 (-1)] 3)).cell? ⟨b, o + q * 3, none⟩ = some (.int .i64 S.tks[q].enc.kind) := (cell_al (by simp; omega)).trans ((cell_al (by simp; omega)).trans ((cell_al (by simp; omega)).trans ((cell_al hbl).trans z0)))
  have a1 : ((((w.alloc (.cells #[.slice Am S.made.length cm, .slice (some ⟨b, o, none⟩) S.tks.length ct] 31)).alloc (.cells #[.slice Ai S.inputs.length ci] 26)).alloc (.cells #[.map (some M)] 99)).alloc (.cells #[.int .i64 (-1)] 3)).cell? ⟨b, o + q * 3 + 1, none⟩ = some (.int .i64 S.tks[q].enc.n) := (cell_al (by simp; omega)).trans ((cell_al (by simp; omega)).trans ((cell_al (by simp; omega)).trans ((cell_al hbl).trans z1)))
  have a2 : ((((w.alloc (.cells #[.slice Am S.made.length cm, .slice (some ⟨b, o, none⟩) S.tks.length ct] 31)).alloc (.cells #[.slice Ai S.inputs.length ci] 26)).alloc (.cells #[.map (some M)] 99)).alloc (.cells #[.int .i64 (-1)] 3)).cell? ⟨b, o + q * 3 + 2, none⟩ = some ((.slice A' S.tks[q].enc.parts.length c')) := (cell_al (by simp; omega)).trans ((cell_al (by simp; omega)).trans ((cell_al (by simp; omega)).trans ((cell_al hbl).trans z2)))
  have hrun2 := fun sb ib mb lb w1 hI => hrun sb ib mb lb A' c' w1 hpc hp hI
  replace hrun := Lib.hid hrun2
  replace hr := Lib.hid hr
  replace ht := Lib.hid ht
  clear hs hx hb hM hp hkv hok hS hrun2
  go_enter Try.func88, Try.ntmps88
  go_wp2_with fail
  refine (hrun.out w.heap.size (w.heap.size + 1) (w.heap.size + 2) (w.heap.size + 3) _ ⟨⟨?_, ?_, ?_, ?_, ?_, ?_, ?_, ?_⟩, rfl⟩).mono ?_
  · exact (heap_old (by first | (simp; done) | (simp; omega))).trans ((heap_old (by first | (simp; done) | (simp; omega))).trans ((heap_old (by simp)).trans (heap_new rfl)))
  · exact (heap_old (by first | (simp; done) | (simp; omega))).trans ((heap_old (by simp)).trans (heap_new (by simp)))
  · exact (heap_old (by simp)).trans (heap_new (by simp))
  · exact heap_new (by simp)
  · omega
  · omega
  · exact below_al (below_al (below_al (below_al (Below.refl _ _) _) _) _) _
  · first | (simp; done) | (simp; omega)
  rintro e w1 ⟨rfl, v1, v2, F, ⟨hF, rfl⟩, t1⟩
  have o0 : w1.cell? ⟨w.heap.size + 3, 0, none⟩ = some (.int .i64 R.2) := cellm hF.bl 0
  have hb1 := hF.below
  replace hb1 := Lib.hid hb1
  clear hF t1
  go_wp2_with fail
  go_quiet (fail)
  go_wp2_with fail
  go_ret3
  exact ⟨rfl, below_drewN hb1.out _⟩
end Go.Proofs.Ytpccgdkidnkppaa
