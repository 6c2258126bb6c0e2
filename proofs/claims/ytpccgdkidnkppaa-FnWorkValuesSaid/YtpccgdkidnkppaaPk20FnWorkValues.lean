import Derived.Deep.RegionHeld3
import Derived.Deep.QuietTactic
import Derived.BigQuiet
import Derived.Test.YtpccgdkidnkppaaPk8FnWorkValues
import Derived.Test.YtpccgdkidnkppaaPk13FnWorkValues
import Derived.Test.YtpccgdkidnkppaaPk14FnWorkValues
import Derived.Test.YtpccgdkidnkppaaPk15FnWorkValues
import Derived.Test.YtpccgdkidnkppaaPk18FnWorkValues
import Derived.Test.YtpccgdkidnkppaaPk19FnWorkValues
set_option linter.unusedVariables false
set_option linter.unusedSimpArgs false
namespace Go.Proofs.Ytpccgdkidnkppaa
open Go Go.RowKit

theorem count_len {c : Nat} : ∀ (n : Nat) (l : List Int), (∀ x ∈ l, 0 ≤ x ∧ x < n) → (∀ j, l.count j ≤ c) → l.length ≤ n * c := by
  intro n
  induction n with
  | zero =>
    intro l h _
    cases l with
    | nil => simp
    | cons a l => have := h a (by simp); omega
  | succ n ih =>
    intro l h hc
    have h1 := ih (l.filter fun x => decide (x ≠ (n : Int))) (fun x hx => by
      obtain ⟨a, b⟩ := List.mem_filter.1 hx
      have := h x a
      simp at b
      omega) (fun j => Nat.le_trans (List.Sublist.count_le j List.filter_sublist) (hc j))
    have h2 : l.length = l.count (n : Int) + (l.filter fun x => decide (x ≠ (n : Int))).length := by
      clear h1 h hc ih
      induction l with
      | nil => rfl
      | cons a l ih =>
        simp only [List.length_cons, List.count_cons, List.filter_cons, ih]
        by_cases e : a = (n : Int)
        · simp [e]; omega
        · simp [e]; omega
    have := hc (n : Int)
    rw [Nat.add_mul]
    omega
theorem suspL_ok {S : Sh} (hS : S.Ok) (hsp : ∀ k, (specKeyP S k).2 = true) : ∀ (ks : List Int) (st : MkSt), Inv S S.made.length st → st.open_ = [] → KnE S st.known → (suspL S ks st).2 = true := by
  intro ks
  induction ks with
  | nil => intro st _ _ _; rfl
  | cons k ks ih =>
    intro st hi ho hK
    rw [suspL]
    have hs := keyP_spec hS S.made.length st [] k hi hK
    rw [ho] at hs
    obtain ⟨⟨h1, h2, h3⟩, h4⟩ := hs
    have hv := keyP_inv hS S.made.length st k hi
    have e : (keyP S S.made.length st k).1 = specKeyP S k := h1
    have hok : (keyP S S.made.length st k).1.2 = true := by rw [e]; exact hsp k
    rw [if_pos hok]
    exact ih _ hv.1 ((hv.2.1 hok).trans ho) (h2 hok).2.1
/-- what is safe is suspended to its end -/
theorem safe_susp {S : Sh} (hS : S.Ok) (h : safeP S.made (S.tks.map Tk.enc) = true) (keys : List Int) : (suspP S keys).2 = true :=
  suspL_ok hS (safe_all hS h) keys st0 (inv0 S) rfl (knE0 S)
theorem usesS_len {S : Sh} (hS : S.Ok) (all : List Int) {k : Int} (hk : mkK S.made k = true) : (usesS S all k).length ≤ 15 := by
  have hkr := mkK_range (show mkK S.made k ≠ false by rw [hk]; simp)
  obtain ⟨q, rfl⟩ := Int.eq_ofNat_of_zero_le hkr.1
  have hq : q < S.tks.length := by have := hS.len; omega
  have h1 := usesP_length (S.tk q) all
  have h2 := hS.okT hq
  rw [tk_at hq] at h1
  have h3 := fets_le S.tks[q]
  unfold okT at h2
  rw [Bool.and_eq_true, decide_eq_true_eq] at h2
  unfold usesS
  rw [tk_at hq]
  omega
structure RestGood (S : Sh) (keys : List Int) (all out : List Int) : Prop where
  hsafe : safeP S.made (S.tks.map Tk.enc) = true
  hkeys : keysOk S.made.length keys = true
  hall : buildAllP S = (all, true)
  many : ∀ j, out.count j ≤ 1 + (usesS S all j).length
  mem : ∀ x, x ∈ out ↔ Reach (mkK S.made) (usesS S all) keys x
theorem rest_any (made : List Bool) (tasks : List Task) (x1 x2 : List Int) (hnod : ∀ T ∈ tasks, nodes T ≤ 1000000000) (hml : (made.length : Int) ≤ 9223372036854775807) (hkl : x2.length ≤ 100) :
    ∃ R : List Int × Bool, R.1.length ≤ 1000 ∧ (R.2 = false → R.1 = []) ∧ (R.2 = true → ∃ tks all, tasks = tks.map Tk.enc ∧ Sh.Ok ⟨made, tks, x1⟩ ∧ RestGood ⟨made, tks, x1⟩ x2 all R.1) ∧
      SuspC 30 made tasks x1 x2 R ∧ SuspC 31 made tasks x1 x2 R := by
  by_cases hgood : safeP made tasks = true ∧ takesOk made.length x1 = true ∧ keysOk made.length x2 = true
  · obtain ⟨h1, h2, h3⟩ := hgood
    have hok : sheetOk made tasks = true := by have := h1; unfold safeP at this; rw [Bool.and_eq_true] at this; exact this.1
    obtain ⟨tks, rfl, hS⟩ := ok_sh hok h2
    obtain ⟨all, hall⟩ : ∃ all, buildAllP ⟨made, tks, x1⟩ = (all, true) := ⟨(buildAllP ⟨made, tks, x1⟩).1, Prod.ext rfl (safe_build hS h1)⟩
    obtain ⟨n0, fin, hr, hfq, hmany, hmem⟩ := rest_all hS hall h1 h3
    have hfl : fin.out.length ≤ 160 := by
      have := count_len (c := 16) made.length fin.out (fun x hx => mkK_range (show mkK made x ≠ false by rw [((hmem x).1 hx).isMade]; simp)) (fun j => by
        by_cases hj : j ∈ fin.out
        · have h4 := hmany j
          have h5 := usesS_len hS all ((hmem j).1 hj).isMade
          omega
        · rw [List.count_eq_zero.2 hj]; omega)
      have h10 := hS.ten
      simp only at h10
      have : made.length * 16 ≤ 10 * 16 := Nat.mul_le_mul_right _ h10
      omega
    refine ⟨(fin.out, true), (by simp only; omega), fun h => (by cases h), fun _ => ⟨tks, all, rfl, hS, ⟨h1, h3, hall, hmany, hmem⟩⟩, fun w Am At cm ct A1 c1 A2 c2 B w0 hb hB hs hi hl hc hi2 hl2 hc2 => ?_, fun w Am At cm ct A1 c1 A2 c2 B w0 hb hB hs hi hl hc hi2 hl2 hc2 => ?_⟩
    · have := orderRestart_good Am At A1 cm ct c1 B w0 ⟨made, tks, x1⟩ ⟨hs, hi, hl, hc, hS⟩ h1 A2 c2 x2 w hb hB h3 hi2 (by omega) n0 fin hr hfq (by omega)
      simp only [List.length_map]
      exact this.mono fun _ _ h => h.list
    · have := specOrderRestart_good Am At A1 cm ct c1 B w0 ⟨made, tks, x1⟩ ⟨hs, hi, hl, hc, hS⟩ hnod h1 A2 c2 x2 w hb hB h3 hi2 (by omega) n0 fin hr hfq (by omega)
      simp only [List.length_map]
      exact this.mono fun _ _ h => h.list
  · refine ⟨([], false), by simp, fun _ => rfl, fun h => (by cases h), fun w Am At cm ct A1 c1 A2 c2 B w0 hb hB hs hi hl hc hi2 hl2 hc2 => ?_, fun w Am At cm ct A1 c1 A2 c2 B w0 hb hB hs hi hl hc hi2 hl2 hc2 => ?_⟩
    · refine (orderRestart_bad Am At A1 A2 cm ct c1 c2 made tasks x1 x2 B w0 w hs hi (Nat.le_trans hl hc) hi2 (Nat.le_trans hl2 hc2) hb hB (fun a b => ?_)).mono ?_
      · cases h : keysOk made.length x2 with
        | false => rfl
        | true => exact (hgood ⟨a, b, h⟩).elim
      · rintro e w' ⟨rfl, hb⟩
        exact ⟨none, 0, rfl, Nat.le_refl _, by simp [maxLen], RowAt.nil _ _ _ _, hb⟩
    · refine (specOrderRestart_bad Am At A1 A2 cm ct c1 c2 made tasks x1 x2 B w0 w hs hi (Nat.le_trans hl hc) hi2 (Nat.le_trans hl2 hc2) hb hB hnod hml (fun a b => ?_)).mono fun _ _ h => h.list
      unfold inputsOk at a
      rw [Bool.and_eq_true] at a b
      cases h : safeP made tasks with
      | false => rfl
      | true => exact (hgood ⟨h, a.2, b.1⟩).elim
/-- TaskUses of a made key -/
theorem taskUses_key {made : List Bool} {tks : List Tk} {x1 : List Int} (hS : Sh.Ok ⟨made, tks, x1⟩) {all : List Int} (hall : buildAllP ⟨made, tks, x1⟩ = (all, true)) (q : Nat) (hq : q < tks.length) (A Av : Option Addr) (c cv : Nat) (w : World) (hc : tks[q].enc.parts.length ≤ c) (hcm : c ≤ maxLen) (hp : PartsIs w.heap.size w A 0 tks[q].enc.parts) (hv : IntsAt w.heap.size w Av all) :
    Calls Try.prog 32 #[.agg #[.int .i64 tks[q].enc.kind, .int .i64 tks[q].enc.n, .slice A tks[q].enc.parts.length c], .slice Av all.length cv] w fun e w' =>
      ∃ v, e = .returned (.tuple #[v, .bool true]) ∧ w'.ownsRow w.heap.size 3 1 v (usesS ⟨made, tks, x1⟩ all q).length (ints (usesS ⟨made, tks, x1⟩ all q)) ∧ Below w.heap.size w w' := by
  obtain ⟨a1, a2, a3, a4⟩ := all_law hS hall
  have h10 := hS.ten
  simp only at h10 a1
  have := taskUses_good tks[q] A c all Av cv w.heap.size w w (Below.refl _ _) (Nat.le_refl _) (hS.tks _ (List.getElem_mem hq)) (hS.okT hq) hc hcm hp (by unfold maxLen; omega) hv (by
    unfold valsOk
    rw [Bool.and_eq_true]
    exact ⟨by simp; omega, vals_iff.2 a2⟩)
  have ht : (Sh.mk made tks x1).tk q = tks[q] := tk_at hq
  unfold usesS
  rw [ht]
  exact this
end Go.Proofs.Ytpccgdkidnkppaa

set_option linter.unusedVariables false
set_option linter.unusedSimpArgs false
namespace Go.Proofs.Ytpccgdkidnkppaa
open Go Go.RowKit

/-! workers side by side -/
structure WSt where
  kn : Int → Option Int
  list : List Int
  order : List Int
def wantP (st : WSt) (k : Int) : WSt := if st.list.contains k then st else ⟨st.kn, st.list ++ [k], st.order⟩
def moveK (S : Sh) (st : WSt) (k : Int) : WSt :=
  if (st.kn k).isSome then st
  else if (tryR S st.kn k).1.2 then ⟨upd st.kn k (tryR S st.kn k).1.1, st.list, st.order ++ [k]⟩ else wantP st (tryR S st.kn k).2
def moveP (S : Sh) (st : WSt) (i : Int) : WSt := if i < 0 ∨ (st.list.length : Int) ≤ i then st else moveK S st (st.list.getD i.toNat 0)
/-- the rounds behind the moves: none: ahead of a round; some i: at a place of the list -/
def wstep (S : Sh) : WSt × Option Nat → WSt × Option Nat
  | (st, none) => (st, some 0)
  | (st, some i) => if i < st.list.length then (moveP S st i, some (i + 1)) else (st, none)
/-- n steps to the end: no key of the list is left -/
def WRun (S : Sh) : Nat → WSt × Option Nat → WSt → Prop
  | 0, c, fin => c = (fin, none) ∧ fin.list.length ≤ fin.order.length
  | n + 1, c, fin => (c.2 = none → c.1.order.length < c.1.list.length) ∧ WRun S n (wstep S c) fin
structure WInv (S : Sh) (all keys : List Int) (st : WSt) : Prop where
  snd : Snd S all st.kn
  lnodup : st.list.Nodup
  reach : ∀ x ∈ st.list, Reach (mkK S.made) (usesS S all) keys x
  onodup : st.order.Nodup
  has : ∀ x, x ∈ st.order ↔ st.kn x ≠ none
  sub : ∀ x ∈ st.order, x ∈ st.list
  closed : ∀ x ∈ st.order, ∀ j ∈ usesS S all x, mkK S.made j = true → j ∈ st.order
theorem WInv.range {S : Sh} {all keys : List Int} {st : WSt} (h : WInv S all keys st) : ∀ x ∈ st.list, 0 ≤ x ∧ x < S.made.length := fun x hx => mkK_range (by rw [(h.reach x hx).isMade]; simp)
theorem WInv.len {S : Sh} {all keys : List Int} {st : WSt} (h : WInv S all keys st) : st.list.length ≤ S.made.length := nodup_bound h.lnodup h.range
theorem WInv.olen {S : Sh} {all keys : List Int} {st : WSt} (h : WInv S all keys st) : st.order.length ≤ st.list.length := nodup_sub_len h.onodup h.sub
theorem WInv.want {S : Sh} {all keys : List Int} {st : WSt} (h : WInv S all keys st) {k : Int} (hk : Reach (mkK S.made) (usesS S all) keys k) : WInv S all keys (wantP st k) := by
  unfold wantP
  split
  · exact h
  · rename_i hc
    have hc : k ∉ st.list := by simpa using hc
    refine ⟨h.snd, ?_, fun x hx => ?_, h.onodup, h.has, fun x hx => List.mem_append_left _ (h.sub x hx), h.closed⟩
    · rw [List.nodup_append]
      exact ⟨h.lnodup, by simp, fun a ha b hb => by simp only [List.mem_singleton] at hb; subst hb; intro e; exact hc (e ▸ ha)⟩
    · rcases List.mem_append.1 hx with hx | hx
      · exact h.reach x hx
      · rw [List.mem_singleton.1 hx]; exact hk
theorem wantP_mem (st : WSt) (k : Int) : k ∈ (wantP st k).list := by
  unfold wantP
  split
  · rename_i h; simpa using h
  · exact List.mem_append_right _ (List.mem_singleton.2 rfl)
theorem wantP_sub (st : WSt) (k : Int) : ∀ x ∈ st.list, x ∈ (wantP st k).list := by
  intro x hx
  unfold wantP
  split
  · exact hx
  · exact List.mem_append_left _ hx
theorem wantP_get (st : WSt) (k : Int) {i : Nat} (hi : i < st.list.length) : (wantP st k).list[i]? = st.list[i]? := by
  unfold wantP
  split
  · rfl
  · simp [List.getElem?_append_left hi]
theorem wantP_len (st : WSt) (k : Int) : st.list.length ≤ (wantP st k).list.length := by
  unfold wantP
  split
  · exact Nat.le_refl _
  · simp
/-- what a move brings -/
inductive Moved (S : Sh) (all keys : List Int) (st : WSt) (k : Int) (st' : WSt) : Prop
  | was : st.kn k ≠ none → st' = st → Moved S all keys st k st'
  | built : st.kn k = none → st'.order = st.order ++ [k] → st'.list = st.list → Moved S all keys st k st'
  | lack (j : Int) : st.kn k = none → st' = wantP st j → j ∈ usesS S all k → mkK S.made j = true → st.kn j = none → Moved S all keys st k st'
theorem moveK_inv {S : Sh} (hS : S.Ok) {all : List Int} (hall : buildAllP S = (all, true)) {keys : List Int} {st : WSt} (h : WInv S all keys st) {k : Int} (hk : k ∈ st.list) : WInv S all keys (moveK S st k) ∧ Moved S all keys st k (moveK S st k) := by
  have hR := h.reach k hk
  have hm := hR.isMade
  unfold moveK
  cases hkn : st.kn k with
  | some v => simp only [Option.isSome_some, if_true]; exact ⟨h, .was (by rw [hkn]; simp) rfl⟩
  | none =>
    simp only [Option.isSome_none, Bool.false_eq_true, if_false]
    rcases try_cases hS hall h.snd hm with ⟨h1, h2⟩ | ⟨j, h1, h2, h3, h4⟩
    · rw [h1]
      simp only [if_true]
      have hko : k ∉ st.order := fun hx => (h.has k).1 hx hkn
      refine ⟨⟨h.snd.upd hm, h.lnodup, h.reach, ?_, fun x => ?_, fun x hx => ?_, fun x hx j hj hmj => ?_⟩, .built hkn rfl rfl⟩
      · rw [List.nodup_append]
        exact ⟨h.onodup, by simp, fun a ha b hb => by simp only [List.mem_singleton] at hb; subst hb; intro e; exact hko (e ▸ ha)⟩
      · simp only [List.mem_append, List.mem_singleton, upd]
        by_cases e : x = k
        · simp [e]
        · rw [if_neg e]; simp only [e, or_false]; exact h.has x
      · rcases List.mem_append.1 hx with hx | hx
        · exact h.sub x hx
        · rw [List.mem_singleton.1 hx]; exact hk
      · rcases List.mem_append.1 hx with hx | hx
        · exact List.mem_append_left _ (h.closed x hx j hj hmj)
        · rw [List.mem_singleton.1 hx] at hj
          exact List.mem_append_left _ ((h.has j).2 (h2 j hj hmj))
    · rw [h1]
      simp only [Bool.false_eq_true, if_false]
      exact ⟨h.want (.next k j hR h2 h3), .lack j hkn rfl h2 h3 h4⟩
theorem moveP_at {S : Sh} {st : WSt} {i : Nat} (hi : i < st.list.length) : moveP S st i = moveK S st st.list[i] := by
  unfold moveP
  rw [if_neg (by omega), Int.toNat_natCast, getD_at _ hi]
theorem moveP_inv {S : Sh} (hS : S.Ok) {all : List Int} (hall : buildAllP S = (all, true)) {keys : List Int} {st : WSt} (h : WInv S all keys st) (i : Int) : WInv S all keys (moveP S st i) := by
  by_cases hi : i < 0 ∨ (st.list.length : Int) ≤ i
  · unfold moveP; rw [if_pos hi]; exact h
  · obtain ⟨q, rfl⟩ := Int.eq_ofNat_of_zero_le (show 0 ≤ i by omega)
    have hq : q < st.list.length := by omega
    rw [moveP_at hq]
    exact (moveK_inv hS hall h (List.getElem_mem hq)).1
/-- nothing is forgotten -/
structure WLe (a b : WSt) : Prop where
  list : ∀ x ∈ a.list, x ∈ b.list
  order : a.order.length ≤ b.order.length
theorem WLe.refl (a : WSt) : WLe a a := ⟨fun _ h => h, Nat.le_refl _⟩
theorem WLe.trans {a b c : WSt} (h : WLe a b) (k : WLe b c) : WLe a c := ⟨fun x hx => k.list x (h.list x hx), Nat.le_trans h.order k.order⟩
theorem moved_le {S : Sh} {all keys : List Int} {st st' : WSt} {k : Int} (h : Moved S all keys st k st') : WLe st st' := by
  cases h with
  | was _ e => rw [e]; exact WLe.refl _
  | built _ h1 h2 => exact ⟨fun x hx => by rw [h2]; exact hx, by rw [h1]; simp⟩
  | lack j _ e => exact ⟨fun x hx => by rw [e]; exact wantP_sub _ _ x hx, by rw [e]; unfold wantP; split <;> exact Nat.le_refl _⟩
theorem moveP_le {S : Sh} (hS : S.Ok) {all : List Int} (hall : buildAllP S = (all, true)) {keys : List Int} {st : WSt} (h : WInv S all keys st) (i : Int) : WLe st (moveP S st i) := by
  by_cases hi : i < 0 ∨ (st.list.length : Int) ≤ i
  · unfold moveP; rw [if_pos hi]; exact WLe.refl _
  · obtain ⟨q, rfl⟩ := Int.eq_ofNat_of_zero_le (show 0 ≤ i by omega)
    have hq : q < st.list.length := by omega
    rw [moveP_at hq]
    exact moved_le (moveK_inv hS hall h (List.getElem_mem hq)).2
def WSeg (S : Sh) : Nat → WSt × Option Nat → WSt × Option Nat → Prop
  | 0, c, d => c = d
  | n + 1, c, d => (c.2 = none → c.1.order.length < c.1.list.length) ∧ WSeg S n (wstep S c) d
theorem WSeg.run {S : Sh} : ∀ {n m : Nat} {c d : WSt × Option Nat} {fin : WSt}, WSeg S n c d → WRun S m d fin → WRun S (n + m) c fin := by
  intro n
  induction n with
  | zero => intro m c d fin h k; rw [WSeg] at h; subst h; simpa using k
  | succ n ih =>
    intro m c d fin h k
    rw [show n + 1 + m = (n + m) + 1 by omega]
    exact ⟨h.1, ih h.2 k⟩
/-- a round: through the list; if no key was built, each key that is left lacks one that is left -/
theorem sweep {S : Sh} (hS : S.Ok) {all : List Int} (hall : buildAllP S = (all, true)) {keys : List Int} : ∀ (m : Nat) (st : WSt) (i : Nat), WInv S all keys st → S.made.length - i ≤ m →
    ∃ n st', WSeg S n (st, some i) (st', none) ∧ WInv S all keys st' ∧ WLe st st' ∧ (∀ p, p < st.list.length → st'.list[p]? = st.list[p]?) ∧ (st'.order.length = st.order.length → st'.kn = st.kn ∧ ∀ p (hp : p < st'.list.length), i ≤ p → st.kn st'.list[p] = none → ∃ j ∈ usesS S all st'.list[p], mkK S.made j = true ∧ st.kn j = none ∧ j ∈ st'.list) := by
  intro m
  induction m with
  | zero =>
    intro st i h hm
    have hl := h.len
    have hge : ¬ i < st.list.length := by omega
    refine ⟨1, st, ⟨fun e => (by cases e), by simp [WSeg, wstep, hge]⟩, h, WLe.refl _, fun _ _ => rfl, fun _ => ⟨rfl, fun p hp hip => by omega⟩⟩
  | succ m ih =>
    intro st i h hm
    by_cases hlt : i < st.list.length
    · have hmv := moveK_inv hS hall h (List.getElem_mem hlt)
      have hst : wstep S (st, some i) = (moveP S st i, some (i + 1)) := by simp [wstep, hlt]
      rw [moveP_at hlt] at hst
      obtain ⟨n, st', h1, h2, h3, h4, h5⟩ := ih (moveK S st st.list[i]) (i + 1) hmv.1 (by omega)
      have hle := moved_le hmv.2
      have hget : ∀ p, p < st.list.length → (moveK S st st.list[i]).list[p]? = st.list[p]? ∧ p < (moveK S st st.list[i]).list.length := by
        intro p hp
        cases hmv.2 with
        | was _ e => rw [e]; exact ⟨rfl, hp⟩
        | built _ _ e => rw [e]; exact ⟨rfl, hp⟩
        | lack j _ e => rw [e]; exact ⟨wantP_get _ _ hp, Nat.lt_of_lt_of_le hp (wantP_len _ _)⟩
      refine ⟨n + 1, st', ⟨fun e => (by cases e), by rw [hst]; exact h1⟩, h2, hle.trans h3, fun p hp => (h4 p (hget p hp).2).trans (hget p hp).1, fun ho => ?_⟩
      have ho1 : st'.order.length = (moveK S st st.list[i]).order.length := by have := hle.order; have := h3.order; omega
      obtain ⟨k1, k2⟩ := h5 ho1
      have hkn : (moveK S st st.list[i]).kn = st.kn := by
        cases hmv.2 with
        | was _ e => rw [e]
        | built _ e _ => have : (moveK S st st.list[i]).order.length = st.order.length + 1 := by rw [e]; simp
                         have := h3.order; omega
        | lack j _ e => rw [e]; unfold wantP; split <;> rfl
      rw [hkn] at k1 k2
      refine ⟨k1, fun p hp hip hnone => ?_⟩
      by_cases e : p = i
      · subst e
        have hpi : st'.list[p] = st.list[p] := by
          have := (h4 p (hget p hlt).2).trans (hget p hlt).1
          rw [List.getElem?_eq_getElem hp, List.getElem?_eq_getElem hlt] at this
          exact Option.some.inj this
        rw [hpi] at hnone ⊢
        cases hmv.2 with
        | was hne _ => exact (hne hnone).elim
        | built _ e2 _ => have : (moveK S st st.list[p]).order.length = st.order.length + 1 := by rw [e2]; simp
                          have := h3.order; omega
        | lack j _ e2 hj hmj hkj => exact ⟨j, hj, hmj, hkj, h3.list j (by rw [e2]; exact wantP_mem _ _)⟩
      · exact k2 p hp (by omega) hnone
    · refine ⟨1, st, ⟨fun e => (by cases e), by simp [WSeg, wstep, hlt]⟩, h, WLe.refl _, fun _ _ => rfl, fun _ => ⟨rfl, fun p hp hip => by omega⟩⟩
theorem finish {S : Sh} (hS : S.Ok) {all : List Int} (hall : buildAllP S = (all, true)) (hsafe : safeP S.made (S.tks.map Tk.enc) = true) {keys : List Int} : ∀ (m : Nat) (st : WSt), WInv S all keys st → S.made.length - st.order.length ≤ m →
    ∃ n fin, WRun S n (st, none) fin ∧ WInv S all keys fin ∧ WLe st fin := by
  intro m
  induction m with
  | zero =>
    intro st h hm
    have h1 := h.len
    have h2 := h.olen
    exact ⟨0, st, ⟨rfl, by omega⟩, h, WLe.refl _⟩
  | succ m ih =>
    intro st h hm
    by_cases hlt : st.order.length < st.list.length
    · obtain ⟨n, st', h1, h2, h3, h4, h5⟩ := sweep hS hall (S.made.length) st 0 h (by omega)
      have hgrow : st.order.length < st'.order.length := by
        have hle := h3.order
        rcases Nat.lt_or_ge st.order.length st'.order.length with hg | hg
        · exact hg
        · exfalso
          obtain ⟨k1, k2⟩ := h5 (by omega)
          -- no key that is left leads down
          have hno : ∀ x, Wf (mayS S.made (S.tks.map Tk.enc)) x → x ∈ st'.list → st.kn x ≠ none := by
            intro x hx
            induction hx with
            | mk x _ ihx =>
              intro hxl hn
              obtain ⟨p, hp, rfl⟩ := List.getElem_of_mem hxl
              obtain ⟨j, hj, hmj, hkj, hjl⟩ := k2 p hp (Nat.zero_le _) hn
              exact ihx j (usesS_mayS hS (h2.reach _ hxl).isMade hj hmj) hjl hkj
          have hall2 : ∀ x ∈ st.list, x ∈ st.order := fun x hx => by
            have hxl := h3.list x hx
            obtain ⟨a, b⟩ := h2.range x hxl
            obtain ⟨q, rfl⟩ := Int.eq_ofNat_of_zero_le a
            exact (h.has _).2 (hno q ((safeP_iff hS.sheet).1 hsafe q (by omega)) hxl)
          have := nodup_sub_len h.lnodup hall2
          omega
      obtain ⟨n2, fin, r1, r2, r3⟩ := ih st' h2 (by omega)
      refine ⟨(n + 1) + n2, fin, ?_, r2, h3.trans r3⟩
      have hseg : WSeg S (n + 1) (st, none) (st', none) := ⟨fun _ => hlt, h1⟩
      exact hseg.run r1
    · exact ⟨0, st, ⟨rfl, by omega⟩, h, WLe.refl _⟩

/-! all of it -/
def wstart (S : Sh) (keys : List Int) : WSt := keys.foldl (fun st k => if mkK S.made k then wantP st k else st) ⟨fun _ => none, [], []⟩
def wmoves (S : Sh) (st : WSt) (moves : List Int) : WSt := moves.foldl (moveP S) st
theorem wstart_inv {S : Sh} (all keys : List Int) : ∀ (ks : List Int) (st : WSt), (∀ k ∈ ks, k ∈ keys) → WInv S all keys st → st.order = [] →
    WInv S all keys (ks.foldl (fun st k => if mkK S.made k then wantP st k else st) st) ∧ WLe st (ks.foldl (fun st k => if mkK S.made k then wantP st k else st) st) ∧ (∀ k ∈ ks, mkK S.made k = true → k ∈ (ks.foldl (fun st k => if mkK S.made k then wantP st k else st) st).list) := by
  intro ks
  induction ks with
  | nil => intro st _ h _; exact ⟨h, WLe.refl _, fun k hk => (by cases hk)⟩
  | cons k ks ih =>
    intro st hk h ho
    rw [List.foldl_cons]
    cases hm : mkK S.made k with
    | false =>
      simp only [Bool.false_eq_true, if_false]
      obtain ⟨h1, h2, h3⟩ := ih st (fun j hj => hk j (List.mem_cons_of_mem _ hj)) h ho
      refine ⟨h1, h2, fun j hj hmj => ?_⟩
      rcases List.mem_cons.1 hj with rfl | hj
      · rw [hm] at hmj; cases hmj
      · exact h3 j hj hmj
    | true =>
      simp only [if_true]
      have hR : Reach (mkK S.made) (usesS S all) keys k := .here k (hk k (List.mem_cons_self ..)) hm
      have ho2 : (wantP st k).order = [] := by unfold wantP; split <;> exact ho
      obtain ⟨h1, h2, h3⟩ := ih (wantP st k) (fun j hj => hk j (List.mem_cons_of_mem _ hj)) (h.want hR) ho2
      refine ⟨h1, ⟨fun x hx => h2.list x (wantP_sub _ _ x hx), by rw [ho]; simp⟩, fun j hj hmj => ?_⟩
      rcases List.mem_cons.1 hj with rfl | hj
      · exact h2.list _ (wantP_mem _ _)
      · exact h3 j hj hmj
theorem wmoves_inv {S : Sh} (hS : S.Ok) {all : List Int} (hall : buildAllP S = (all, true)) {keys : List Int} : ∀ (ms : List Int) (st : WSt), WInv S all keys st → WInv S all keys (wmoves S st ms) ∧ WLe st (wmoves S st ms) := by
  intro ms
  induction ms with
  | nil => intro st h; exact ⟨h, WLe.refl _⟩
  | cons m ms ih =>
    intro st h
    unfold wmoves
    rw [List.foldl_cons]
    obtain ⟨h1, h2⟩ := ih (moveP S st m) (moveP_inv hS hall h m)
    exact ⟨h1, (moveP_le hS hall h m).trans h2⟩
theorem winv0 (S : Sh) (all keys : List Int) : WInv S all keys ⟨fun _ => none, [], []⟩ :=
  ⟨fun k v h => (by cases h), List.nodup_nil, fun x h => (by cases h), List.nodup_nil, fun x => by simp, fun x h => (by cases h), fun x h => (by cases h)⟩
theorem work_all {S : Sh} (hS : S.Ok) {all : List Int} (hall : buildAllP S = (all, true)) (hsafe : safeP S.made (S.tks.map Tk.enc) = true) (keys moves : List Int) :
    ∃ n fin, WRun S n (wmoves S (wstart S keys) moves, none) fin ∧ WInv S all keys fin ∧ (∀ x, x ∈ fin.list ↔ Reach (mkK S.made) (usesS S all) keys x) ∧ ∀ x ∈ fin.list, x ∈ fin.order := by
  obtain ⟨a1, a2, a3⟩ := wstart_inv (S := S) all keys keys ⟨fun _ => none, [], []⟩ (fun _ h => h) (winv0 S all keys) rfl
  obtain ⟨b1, b2⟩ := wmoves_inv hS hall moves (wstart S keys) a1
  obtain ⟨n, fin, c1, c2, c3⟩ := finish hS hall hsafe _ _ b1 (Nat.le_refl _)
  have hend : ∀ {n : Nat} {c : WSt × Option Nat}, WRun S n c fin → fin.list.length ≤ fin.order.length := by
    intro n
    induction n with
    | zero => intro c h; exact h.2
    | succ n ih => intro c h; exact ih h.2
  have hle := hend c1
  have hlo : ∀ x ∈ fin.list, x ∈ fin.order := by
    intro x hx
    by_cases hm : x ∈ fin.order
    · exact hm
    · exfalso
      have := nodup_sub_len (List.nodup_cons.2 ⟨hm, c2.onodup⟩) (m := fin.list) (fun y hy => by
        rcases List.mem_cons.1 hy with rfl | hy
        · exact hx
        · exact c2.sub y hy)
      simp at this
      omega
  refine ⟨n, fin, c1, c2, fun x => ⟨c2.reach x, fun hx => ?_⟩, hlo⟩
  induction hx with
  | here k h1 h2 => exact c3.list k (b2.list k (a3 k h1 h2))
  | next k j _ h2 h3 ih => exact c2.sub j (c2.closed k (hlo k ih) j h2 h3)
end Go.Proofs.Ytpccgdkidnkppaa

set_option linter.unusedVariables false
set_option linter.unusedSimpArgs false
namespace Go.Proofs.Ytpccgdkidnkppaa
open Go Go.RowKit

/-! the shop in memory -/
abbrev wkCs (E : MkEnv) (S : Sh) (M : Nat) (vl vt vo : Value) : Array Value := #[.slice E.Am S.made.length E.cm, .slice E.At S.tks.length E.ct, .slice E.Ai S.inputs.length E.ci, vl, vt, .map (some M), vo]
abbrev wkPs (E : MkEnv) (M c : Nat) (vl vt vo : Value) (ts : List Int) (st : WSt) : List Part := [rowP E.B 3 1 vl st.list.length (ints st.list), rowP E.B 3 1 vt ts.length (ints ts), mapP Try.prog 3 M (knV st.kn) c, rowP E.B 3 1 vo st.order.length (ints st.order)]
abbrev WkAt (E : MkEnv) (S : Sh) (m M c : Nat) (vl vt vo : Value) (ts : List Int) (st : WSt) (w : World) : Prop := ObjAt E.B E.w0 m 128 (wkCs E S M vl vt vo) (wkPs E M c vl vt vo ts st) w
def WkI (E : MkEnv) (S : Sh) (m M : Nat) (st : WSt) (w : World) (F : Nat → Prop) : Prop := ∃ c vl vt vo ts, WkAt E S m M c vl vt vo ts st w ∧ F = Foot m (wkPs E M c vl vt vo ts st) ∧ ts.length = st.list.length ∧ c = cntN (fun k => (st.kn k).isSome) S.made.length
section
variable {E : MkEnv} {S : Sh} {m M c : Nat} {vl vt vo : Value} {ts : List Int} {st : WSt} {w : World}
theorem WkAt.cells (h : WkAt E S m M c vl vt vo ts st w) : w.cell? ⟨m, 0, none⟩ = some (.slice E.Am S.made.length E.cm) ∧ w.cell? ⟨m, 1, none⟩ = some (.slice E.At S.tks.length E.ct) ∧ w.cell? ⟨m, 2, none⟩ = some (.slice E.Ai S.inputs.length E.ci) ∧
    w.cell? ⟨m, 3, none⟩ = some vl ∧ w.cell? ⟨m, 4, none⟩ = some vt ∧ w.cell? ⟨m, 5, none⟩ = some (.map (some M)) ∧ w.cell? ⟨m, 6, none⟩ = some vo ∧ w.frozen? ⟨m, 3, none⟩ = false ∧ w.frozen? ⟨m, 4, none⟩ = false ∧ w.frozen? ⟨m, 6, none⟩ = false ∧ m < w.heap.size :=
  ⟨h.cell 0, h.cell 1, h.cell 2, h.cell 3, h.cell 4, h.cell 5, h.cell 6, h.frozen 3, h.frozen 4, h.frozen 6, h.lt⟩
theorem WkAt.list (h : WkAt E S m M c vl vt vo ts st w) : w.ownsRow E.B 3 1 vl st.list.length (ints st.list) := ObjAt.row h 0 rfl
theorem WkAt.tries (h : WkAt E S m M c vl vt vo ts st w) : w.ownsRow E.B 3 1 vt ts.length (ints ts) := ObjAt.row h 1 rfl
theorem WkAt.built (h : WkAt E S m M c vl vt vo ts st w) : VMap Try.prog 3 w M (knV st.kn) c := ObjAt.map h 2 rfl
theorem WkAt.order (h : WkAt E S m M c vl vt vo ts st w) : w.ownsRow E.B 3 1 vo st.order.length (ints st.order) := ObjAt.row h 3 rfl
end
theorem wkPs_list (E : MkEnv) (M c : Nat) (vl vt vo v : Value) (ts : List Int) (st : WSt) (k : Int) : (wkPs E M c vl vt vo ts st).set 0 (rowP E.B 3 1 v (st.list.length + 1) (ints (st.list ++ [k]))) = wkPs E M c v vt vo ts ⟨st.kn, st.list ++ [k], st.order⟩ := by
  simp only [wkPs, List.set, List.length_append, List.length_singleton]
theorem wkPs_tries (E : MkEnv) (M c : Nat) (vl vt vo v : Value) (ts : List Int) (st : WSt) (k : Int) : (wkPs E M c vl vt vo ts st).set 1 (rowP E.B 3 1 v (ts.length + 1) (ints (ts ++ [k]))) = wkPs E M c vl v vo (ts ++ [k]) st := by
  simp only [wkPs, List.set, List.length_append, List.length_singleton]
theorem wkPs_try (E : MkEnv) (M c : Nat) (vl vt vo : Value) (ts : List Int) (st : WSt) (q : Nat) (x : Int) : (wkPs E M c vl vt vo ts st).set 1 (rowP E.B 3 1 vt ts.length ((ints ts).set q (.int .i64 x))) = wkPs E M c vl vt vo (ts.set q x) st := by
  simp only [wkPs, List.set, List.length_set, ints_set]
theorem wkPs_kn (E : MkEnv) (M c c' : Nat) (vl vt vo : Value) (ts : List Int) (st : WSt) (kn : Int → Option Int) : (wkPs E M c vl vt vo ts st).set 2 (mapP Try.prog 3 M (knV kn) c') = wkPs E M c' vl vt vo ts ⟨kn, st.list, st.order⟩ := by
  simp only [wkPs, List.set]
theorem wkPs_order (E : MkEnv) (M c : Nat) (vl vt vo v : Value) (ts : List Int) (st : WSt) (k : Int) : (wkPs E M c vl vt vo ts st).set 3 (rowP E.B 3 1 v (st.order.length + 1) (ints (st.order ++ [k]))) = wkPs E M c vl vt v ts ⟨st.kn, st.list, st.order ++ [k]⟩ := by
  simp only [wkPs, List.set, List.length_append, List.length_singleton]
/-- what a step of the shop brings -/
def WkP (E : MkEnv) (S : Sh) (m M : Nat) (F : Nat → Prop) (st' : WSt) (w : World) (e : Ending) (w' : World) : Prop := (∃ v, e = .returned v) ∧ ∃ F', WkI E S m M st' w' F' ∧ Turn F F' w w'

set_option maxHeartbeats 4000000 in
theorem want_calls (E : MkEnv) (S : Sh) (m M : Nat) (st : WSt) (k : Int) (w : World) (F : Nat → Prop) (hl : st.list.length ≤ 10) (h : WkI E S m M st w F) :
    Calls Try.prog 141 #[.pointer (some ⟨m, 0, none⟩), .int .i64 k] w (WkP E S m M F (wantP st k) w) := by
  obtain ⟨c, vl, vt, vo, ts, hM, rfl, htl, hcc⟩ := h
  obtain ⟨x0, x1, x2, x3, x4, x5, x6, f3, f4, f6, hz⟩ := hM.cells
  obtain ⟨Al, cl, rfl, hl1, hl2, hl3⟩ := ownsRow_ints hM.list
  obtain ⟨At, ct, rfl, ht1, ht2, ht3⟩ := ownsRow_ints hM.tries
  have hc := contains_calls Al cl k st.list w.heap.size w w (Below.refl _ _) (Nat.le_refl _) (by unfold maxLen; omega) hl3
  have hsz := hM.size
  have htl10 : ts.length ≤ 10 := by omega
  replace htl := Lib.hid htl
  replace hcc := Lib.hid hcc
  replace hM := Lib.hid hM
  unfold wantP
  cases hct : st.list.contains k with
  | true =>
    rw [hct] at hc
    replace hc := Lib.hid hc
    replace hct := Lib.hid hct
    simp only [if_true]
    go_enter Try.func141, Try.ntmps141
    go_wp2_with fail
    refine hc.out.mono ?_
    rintro e w1 ⟨rfl, rfl⟩
    go_wp2_with fail
    go_end0
    exact ⟨⟨_, rfl⟩, _, ⟨c, _, _, vo, ts, hM.out, rfl, htl.out, hcc.out⟩, Turn.refl _ _⟩
  | false =>
    rw [hct] at hc
    replace hc := Lib.hid hc
    replace hct := Lib.hid hct
    simp only [Bool.false_eq_true, if_false]
    clear hl3 ht3
    go_enter Try.func141, Try.ntmps141
    go_wp2_with fail
    refine hc.out.mono ?_
    rintro e w1 ⟨rfl, rfl⟩
    go_wp2_with (at_builtin; go_loud (with_reducible refine wpList_app1 (by rfl) (.tmp 15) (.tmp 17) 26 (by rfl) intTy E.B (.slice Al st.list.length cl) st.list.length (ints st.list) (by with_unfolding_all rfl) (hM.out.list.alloc _) w.heap.size 1 [.int .i64 k] (by with_unfolding_all rfl) (by with_unfolding_all rfl) ⟨_, _, heap_alloc_new w _, rfl⟩ (one_int _ _) ?_ ?_ ?_ ?_))
    · unfold maxLen; omega
    · omega
    · simp; omega
    intro g cap w2 hown hgrow hat
    have hMa := hM.out.alloc (.cells #[.int .i64 k] 3 (0, 0))
    have hblk2 := (hgrow.block m (block_lt hMa.blk) (fun e => hMa.far _ (List.mem_of_getElem? (i := 0) rfl) e.symm)).trans hMa.blk
    have z3 : w2.cell? ⟨m, 3, none⟩ = some (.slice Al st.list.length cl) := (cellm hblk2 3).trans rfl
    have fz3 : w2.frozen? ⟨m, 3, none⟩ = false := frozenm hblk2 3
    have hset := hMa.set_row 0 3 rfl (xs' := ints (st.list ++ [k])) hgrow (by simpa [ints_append, ints] using hown) (fun i hi => by cases hi; exact hat.imp id (fun e => by simp at e ⊢; omega))
    have hM3 : WkAt E S m M c (.slice (some ⟨g, 0, none⟩) (st.list.length + 1) cap) (.slice At ts.length ct) vo ts ⟨st.kn, st.list ++ [k], st.order⟩ (w2.setCell ⟨m, 3, none⟩ (.slice (some ⟨g, 0, none⟩) (st.list.length + 1) cap)) := by
      have := hset.1
      rw [wkPs_list] at this
      exact this
    have t3 := (below_turn (F := Foot m (wkPs E M c (.slice Al st.list.length cl) (.slice At ts.length ct) vo ts st)) (below_al (Below.refl w.heap.size w) (.cells #[.int .i64 k] 3 (0, 0)))).trans hset.2
    rw [wkPs_list] at t3
    have hzm2 := block_lt hblk2
    have hsz3 := hM3.size
    obtain ⟨y0, y1, y2, y3, y4, y5, y6, g3, g4, g6, hz3⟩ := hM3.cells
    replace hM3 := Lib.hid hM3
    replace t3 := Lib.hid t3
    clear hown hgrow hat hMa hblk2 hset x0 x1 x2 x3 x4 x5 x6 f3 f4 f6 hM y0 y1 y2 y3 y5 y6 g3 g6 hc
    go_wp2_with (at_builtin; go_loud (with_reducible refine wpList_app1 (by rfl) (.tmp 25) (.tmp 26) 26 (by rfl) intTy E.B (.slice At ts.length ct) ts.length (ints ts) (by with_unfolding_all rfl) (hM3.out.tries.alloc _) w2.heap.size 1 [.int .i64 0] (by with_unfolding_all rfl) (by with_unfolding_all rfl) ⟨_, _, heap_new (by simp), rfl⟩ (one_int _ _) ?_ ?_ ?_ ?_))
    · unfold maxLen; omega
    · omega
    · first | omega | (simp; omega) | (simp at hsz3 ⊢; omega)
    intro g5 cap5 w5 hown5 hgrow5 hat5
    have hMb := hM3.out.alloc (.cells #[.int .i64 0] 3 (0, 0))
    have hblk5 := (hgrow5.block m (block_lt hMb.blk) (fun e => hMb.far _ (List.mem_of_getElem? (i := 1) rfl) e.symm)).trans hMb.blk
    have z4 : w5.cell? ⟨m, 4, none⟩ = some (.slice At ts.length ct) := (cellm hblk5 4).trans rfl
    have fz4 : w5.frozen? ⟨m, 4, none⟩ = false := frozenm hblk5 4
    have hset5 := hMb.set_row 1 4 rfl (xs' := ints (ts ++ [0])) hgrow5 (by simpa [ints_append, ints] using hown5) (fun i hi => by cases hi; exact hat5.imp id (fun e => by simp at e ⊢; omega))
    have hM6 : WkAt E S m M c (.slice (some ⟨g, 0, none⟩) (st.list.length + 1) cap) (.slice (some ⟨g5, 0, none⟩) (ts.length + 1) cap5) vo (ts ++ [0]) ⟨st.kn, st.list ++ [k], st.order⟩ (w5.setCell ⟨m, 4, none⟩ (.slice (some ⟨g5, 0, none⟩) (ts.length + 1) cap5)) := by
      have := hset5.1
      rw [wkPs_tries] at this
      exact this
    have t6 := (t3.out.alloc (.cells #[.int .i64 0] 3 (0, 0))).trans hset5.2
    rw [wkPs_tries] at t6
    replace hM6 := Lib.hid hM6
    replace t6 := Lib.hid t6
    clear hown5 hgrow5 hat5 hMb hblk5 hset5 hM3 t3
    go_wp2_with fail
    go_end0
    exact ⟨⟨_, rfl⟩, _, ⟨c, _, _, vo, ts ++ [0], hM6.out, rfl, by simp [htl.out], hcc.out⟩, t6.out⟩

theorem row_at {w : World} {B : Nat} {e : TypeId} {v : Value} {xs : List Int} (ho : w.ownsRow B e 1 v xs.length (ints xs)) {q : Nat} (hq : q < xs.length) : ∃ g c, v = .slice (some ⟨g, 0, none⟩) xs.length c ∧ w.cell? ⟨g, q, none⟩ = some (.int .i64 xs[q]) ∧ w.frozen? ⟨g, q, none⟩ = false ∧ g < w.heap.size ∧ xs.length ≤ c ∧ c ≤ maxLen := by
  obtain ⟨A, c, rfl, h1, h2, h3⟩ := ownsRow_ints ho
  obtain ⟨b, o, e, hb, hc⟩ := h3 q hq
  subst e
  obtain ⟨g, co, e, hg, hgl⟩ := ho.form (by omega)
  cases e
  refine ⟨b, c, rfl, by simpa using hc, ?_, hgl, h1, h2⟩
  obtain ⟨_, ⟨h2, _⟩ | ⟨g', cap', cur, h2, h3, h4, _⟩⟩ := ho
  · cases h2
  · cases h2; exact frozenm h4 q
set_option maxRecDepth 5000 in
set_option maxHeartbeats 8000000 in
theorem move_calls (E : MkEnv) (S : Sh) (hE : E.Good S) (m M : Nat) (st : WSt) (i : Int) (w : World) (F : Nat → Prop) (hl : st.list.length ≤ 10) (ho : st.order.length ≤ 10) (hr : ∀ x ∈ st.list, 0 ≤ x ∧ x < S.made.length) (hkn : KnOk S st.kn) (h : WkI E S m M st w F) :
    Calls Try.prog 142 #[.pointer (some ⟨m, 0, none⟩), .int .i64 i] w (WkP E S m M F (moveP S st i) w) := by
  have h0 := h
  obtain ⟨c, vl, vt, vo, ts, hM, rfl, htl, hcc⟩ := h
  obtain ⟨x0, x1, x2, x3, x4, x5, x6, f3, f4, f6, hz⟩ := hM.cells
  by_cases hi : i < 0 ∨ (st.list.length : Int) ≤ i
  · have hP : moveP S st i = st := by unfold moveP; rw [if_pos hi]
    rw [hP]
    obtain ⟨Al, cl, rfl, hl1, hl2, hl3⟩ := ownsRow_ints hM.list
    replace hP := Lib.hid hP
    replace h0 := Lib.hid h0
    replace hM := Lib.hid hM
    replace htl := Lib.hid htl
    replace hcc := Lib.hid hcc
    replace hkn := Lib.hid hkn
    clear hr
    by_cases hi0 : i < 0
    · clear hi
      go_enter Try.func142, Try.ntmps142
      go_wp2_with fail
      go_end0
      exact ⟨⟨_, rfl⟩, _, h0.out, Turn.refl _ _⟩
    · have hi1 : (st.list.length : Int) ≤ i := by omega
      clear hi
      go_enter Try.func142, Try.ntmps142
      go_wp2_with fail
      go_end0
      exact ⟨⟨_, rfl⟩, _, h0.out, Turn.refl _ _⟩
  · obtain ⟨q, rfl⟩ := Int.eq_ofNat_of_zero_le (show 0 ≤ i by omega)
    have hq : q < st.list.length := by omega
    clear hi
    have hP := moveP_at (S := S) hq
    have hkr := hr _ (List.getElem_mem hq)
    obtain ⟨Al, cl, hvl, xk, -, hlb, hl1, hl2⟩ := row_at hM.list hq
    subst hvl
    generalize st.list[q] = k at *
    obtain ⟨kq, rfl⟩ := Int.eq_ofNat_of_zero_le hkr.1
    have hten := hE.ok.ten
    have hkw : (Lit.int .i64 (kq : Int)).wf = true := wf_small (by omega) (by omega)
    have hsz := hM.size
    have htl10 : ts.length ≤ 10 := by omega
    have hqt : q < ts.length := by omega
    rw [hP]
    replace hP := Lib.hid hP
    unfold maxLen at hl2
    unfold moveK
    cases hkk : st.kn kq with
    | some v =>
      have hg1 : (knV st.kn (kq : Int)).isSome = true := by simp [knV, hkk]
      have hg2 : (knV st.kn (kq : Int)).getD (.int .i64 0) = .int .i64 v := by simp [knV, hkk]
      simp only [Option.isSome_some, if_true]
      replace h0 := Lib.hid h0
      replace hM := Lib.hid hM
      replace htl := Lib.hid htl
      replace hcc := Lib.hid hcc
      replace hkn := Lib.hid hkn
      replace hE := Lib.hid hE
      replace hkk := Lib.hid hkk
      clear hr
      go_enter Try.func142, Try.ntmps142
      go_wp2_with (with_reducible refine wpList_vget_ok (by rfl) (.tmp 32) (.tmp 33) 99 (by rfl) intMapTy M c (knV st.kn) (by with_unfolding_all rfl) hM.out.built kq (by with_unfolding_all rfl) hkw ?_)
      go_end0
      exact ⟨⟨_, rfl⟩, _, h0.out, Turn.refl _ _⟩
    | none =>
      have hg1 : (knV st.kn (kq : Int)).isSome = false := by simp [knV, hkk]
      have hg2 : (knV st.kn (kq : Int)).getD (.int .i64 0) = .int .i64 0 := by simp [knV, hkk]
      simp only [Option.isSome_none, Bool.false_eq_true, if_false]
      obtain ⟨gt, ct, hvt, xt, ft, htb, ht1, ht2⟩ := row_at hM.tries hqt
      subst hvt
      obtain ⟨p1, p2⟩ := hM.put_row 1 q rfl (.int .i64 (wrap64 (ts[q] + 1))) hqt
      have hM2 : WkAt E S m M c (.slice (some ⟨Al, 0, none⟩) st.list.length cl) (.slice (some ⟨gt, 0, none⟩) ts.length ct) vo (ts.set q (wrap64 (ts[q] + 1))) st (w.setCell ⟨gt, q, none⟩ (.int .i64 (wrap64 (ts[q] + 1)))) := by
        rw [wkPs_try] at p1
        exact p1
      have t2 := p2
      rw [wkPs_try] at t2
      have htr := tryR_range S hE.ok st.kn hkn.val kq
      have hcall := fun w1 hb hB c hM => try_calls S hE.ok E.Am E.At E.Ai E.cm E.ct E.ci st.kn hkn.val E.B E.w0 w1 hb hB hE.sheet hE.ins M c hM kq (by have := hE.ok.len; omega)
      have hc3 := hcall (w.setCell ⟨gt, q, none⟩ (.int .i64 (wrap64 (ts[q] + 1)))).drew hM2.below.drew hM2.size c (hM2.built.block rfl)
      unfold maxLen at ht2
      generalize hRR : tryR S st.kn kq = R at *
      obtain ⟨⟨v, ok⟩, lk⟩ := R
      dsimp only at hRR htr hc3 ⊢
      obtain ⟨st', hst'⟩ : ∃ st', (if ok = true then (⟨upd st.kn kq v, st.list, st.order ++ [(kq : Int)]⟩ : WSt) else wantP st lk) = st' := ⟨_, rfl⟩
      rw [hst']
      replace hst' := Lib.hid hst'
      obtain ⟨y0, y1, y2, y3, y4, y5, y6, g3, g4, g6, hz2⟩ := hM2.cells
      replace hRR := Lib.hid hRR
      replace h0 := Lib.hid h0
      replace hM := Lib.hid hM
      replace hM2 := Lib.hid hM2
      replace t2 := Lib.hid t2
      replace htl := Lib.hid htl
      replace hcc := Lib.hid hcc
      replace hkn := Lib.hid hkn
      replace hE := Lib.hid hE
      replace hkk := Lib.hid hkk
      replace hc3 := Lib.hid hc3
      replace htr := Lib.hid htr
      clear hr p1 p2 hcall
      go_enter Try.func142, Try.ntmps142
      go_wp2_with (with_reducible refine wpList_vget_ok (by rfl) (.tmp 32) (.tmp 33) 99 (by rfl) intMapTy M c (knV st.kn) (by with_unfolding_all rfl) hM.out.built kq (by with_unfolding_all rfl) hkw ?_)
      generalize hw2 : w.setCell ⟨gt, q, none⟩ (.int .i64 (wrap64 (ts[q] + 1))) = w2 at *
      replace hw2 := Lib.hid hw2
      go_region_held3 (fun w' => w'.cell? ⟨m, 0, none⟩ = some (.slice E.Am S.made.length E.cm) ∧ w'.cell? ⟨m, 1, none⟩ = some (.slice E.At S.tks.length E.ct) ∧ w'.cell? ⟨m, 2, none⟩ = some (.slice E.Ai S.inputs.length E.ci) ∧ w'.cell? ⟨m, 5, none⟩ = some (.map (some M))) (first | exact ⟨l0, l1, l2, l5⟩ | exact ⟨y0, y1, y2, y5⟩)
        (first | (go_at_call 88; refine hc3.out.mono ?_; rintro e w3 ⟨rfl, h3⟩; have hM3 := hM2.out.drew.up h3; have t3 := t2.out.drew.trans (below_turn h3); obtain ⟨l0, l1, l2, l3, l4, l5, l6, k3, k4, k6, hz3⟩ := WkAt.cells hM3; replace hM3 := Lib.hid hM3; replace t3 := Lib.hid t3; clear h3))
      all_goals
        clear y0 y1 y2 y3 y4 y5 y6 g3 g4 g6 hz2 x0 x1 x2 x3 x4 x5 x6 f3 f4 f6 hM hM2 t2 hc3 xk xt ft hw2
        cases ok with
        | false =>
          have hst2 : wantP st lk = st' := by have := hst'.out; simpa using this
          have hwn := want_calls E S m M st lk w3 _ hl ⟨c, _, _, vo, ts.set q (wrap64 (ts[q] + 1)), hM3.out, rfl, by rw [List.length_set]; exact htl.out, hcc.out⟩
          rw [hst2] at hwn
          replace hwn := Lib.hid hwn
          replace hst2 := Lib.hid hst2
          clear l0 l1 l2 l3 l4 l5 l6 k3 k4 k6
          go_wp2_with fail
          refine hwn.out.mono ?_
          rintro e w4 ⟨⟨v4, rfl⟩, F4, hW4, t4⟩
          have t5 := t3.out.trans t4
          replace hW4 := Lib.hid hW4
          replace t5 := Lib.hid t5
          clear t4
          go_wp2_with fail
          go_end0
          exact ⟨⟨_, rfl⟩, F4, hW4.out, t5.out⟩
        | true =>
          have hst2 : (⟨upd st.kn kq v, st.list, st.order ++ [(kq : Int)]⟩ : WSt) = st' := by have := hst'.out; simpa using this
          replace hst2 := Lib.hid hst2
          have hc10 : c ≤ 10 := by rw [hcc.out]; exact Nat.le_trans (cntN_le _ _) hten
          have hc1 : c < maxLen := by unfold maxLen; omega
          go_wp2_with (with_reducible refine wpList_vput (by rfl) (.tmp 73) (.tmp 74) (.tmp 75) 99 (by rfl) intMapTy M c (knV st.kn) (by with_unfolding_all rfl) (WkAt.built hM3.out) hc1 kq (.int .i64 v) (by with_unfolding_all rfl) (by with_unfolding_all rfl) hkw ?_)
          intro w5 hM5 hg5
          have hcp : putC (knV st.kn) (kq : Int) c = c + 1 := by unfold putC; rw [hg1]; rfl
          rw [hcp, knV_upd] at hM5
          obtain ⟨q1, q2⟩ := hM3.out.put_map 2 rfl hM5 hg5
          rw [wkPs_kn] at q1 q2
          have hcc5 : c + 1 = cntN (fun k => (upd st.kn kq v k).isSome) S.made.length := by
            rw [hcc.out, ← cntN_set (X := fun k => (st.kn k).isSome) (show kq < S.made.length by omega) (by simp [hkk.out])]
            congr 1
            funext j
            simp only [setX, upd]
            split <;> simp
          have hM6 : WkAt E S m M (c + 1) _ _ vo _ ⟨upd st.kn kq v, st.list, st.order⟩ w5 := q1
          have t6 := t3.out.trans q2
          obtain ⟨Ao, co, rfl, ho1, ho2, -⟩ := ownsRow_ints hM6.order
          dsimp only at ho1 ho2
          obtain ⟨y0, y1, y2, y3, y4, y5, y6, g3, g4, g6, hz6⟩ := hM6.cells
          have hsz6 := hM6.size
          replace hM6 := Lib.hid hM6
          replace t6 := Lib.hid t6
          replace hcc5 := Lib.hid hcc5
          clear l0 l1 l2 l3 l4 l5 l6 k3 k4 k6 hM5 hg5 q1 q2 hM3 t3 hcp
          go_wp2_with (at_builtin; go_loud (with_reducible refine wpList_app1 (by rfl) (.tmp 80) (.tmp 82) 26 (by rfl) intTy E.B (.slice Ao st.order.length co) st.order.length (ints st.order) (by with_unfolding_all rfl) (hM6.out.order.alloc _) w5.heap.size 1 [.int .i64 kq] (by with_unfolding_all rfl) (by with_unfolding_all rfl) ⟨_, _, heap_alloc_new w5 _, rfl⟩ (one_int _ _) ?_ ?_ ?_ ?_))
          · unfold maxLen; omega
          · omega
          · first | omega | (simp; omega)
          intro g7 cap7 w7 hown7 hgrow7 hat7
          have hMb := hM6.out.alloc (.cells #[.int .i64 kq] 3 (0, 0))
          have hblk7 := (hgrow7.block m (block_lt hMb.blk) (fun e => hMb.far _ (List.mem_of_getElem? (i := 3) rfl) e.symm)).trans hMb.blk
          have z6 : w7.cell? ⟨m, 6, none⟩ = some (.slice Ao st.order.length co) := (cellm hblk7 6).trans rfl
          have fz6 : w7.frozen? ⟨m, 6, none⟩ = false := frozenm hblk7 6
          have hset7 := hMb.set_row 3 6 rfl (xs' := ints (st.order ++ [(kq : Int)])) hgrow7 (by simpa [ints_append, ints] using hown7) (fun i hi => by cases hi; exact hat7.imp id (fun e => by simp at e ⊢; omega))
          have t8 := (t6.out.alloc (.cells #[.int .i64 kq] 3 (0, 0))).trans hset7.2
          have hM8 := hset7.1
          have hps := wkPs_order E M (c + 1) (.slice (some ⟨Al, 0, none⟩) st.list.length cl) (.slice (some ⟨gt, 0, none⟩) ts.length ct) (.slice Ao st.order.length co) (.slice (some ⟨g7, 0, none⟩) (st.order.length + 1) cap7) (ts.set q (wrap64 (ts[q] + 1))) ⟨upd st.kn kq v, st.list, st.order⟩ kq
          dsimp only at hps hM8 t8
          rw [hps] at hM8 t8
          replace hM8 := Lib.hid hM8
          replace t8 := Lib.hid t8
          clear hown7 hgrow7 hat7 hMb hblk7 hset7 hM6 t6 hps
          go_wp2_with fail
          go_end0
          rw [← hst2.out]
          exact ⟨⟨_, rfl⟩, _, ⟨c + 1, _, _, _, ts.set q (wrap64 (ts[q] + 1)), hM8.out, rfl, by rw [List.length_set]; exact htl.out, hcc5.out⟩, t8.out⟩
end Go.Proofs.Ytpccgdkidnkppaa
