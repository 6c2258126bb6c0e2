import Derived.Test.YtpccgdkidnkppaaPk1FnExactRowNew
import Derived.Test.YtpccgdkidnkppaaPk3FnExactRowNew
set_option linter.unusedVariables false
set_option linter.unusedSimpArgs false
namespace Go.Proofs.Ytpccgdkidnkppaa
open Go Go.RowKit

/-! a task as what it asks for -/
inductive Itr where
  | done (v : Int)
  | ask (k : Int) (c : Int → Itr)
def Itr.bind : Itr → (Int → Itr) → Itr
  | .done v, g => g v
  | .ask k c, g => .ask k fun x => (c x).bind g
def Itr.run {σ : Type} (f : σ → Int → (Int × Bool) × σ) : Itr → σ → (Int × Bool) × σ
  | .done v, s => ((v, true), s)
  | .ask k c, s => if (f s k).1.2 = true then (c (f s k).1.1).run f (f s k).2 else ((0, false), (f s k).2)
def Itr.ok : Itr → Prop
  | .done _ => True
  | .ask k c => 0 ≤ k ∧ k ≤ 9 ∧ ∀ x, (c x).ok
/-- asks at most so often -/
def Itr.le : Nat → Itr → Prop
  | _, .done _ => True
  | 0, .ask _ _ => False
  | n + 1, .ask _ c => ∀ x, (c x).le n
def Tk.itr : Tk → Itr
  | .num n => .done n
  | .get k => .ask k .done
  | .add a b => a.itr.bind fun x => b.itr.bind fun y => .done ((x + y) % 97)
  | .mul a b => a.itr.bind fun x => b.itr.bind fun y => .done ((x * y) % 97)
  | .cond a b c => a.itr.bind fun x => if x ≠ 0 then b.itr else c.itr
  | .ix n a => a.itr.bind fun x => .ask ((n + x) % 10) .done

theorem Itr.run_yes {σ : Type} {f : σ → Int → (Int × Bool) × σ} {k : Int} {c : Int → Itr} {s : σ} (h : (f s k).1.2 = true) : (Itr.ask k c).run f s = (c (f s k).1.1).run f (f s k).2 := by
  rw [Itr.run]; exact if_pos h
theorem Itr.run_no {σ : Type} {f : σ → Int → (Int × Bool) × σ} {k : Int} {c : Int → Itr} {s : σ} (h : ¬ (f s k).1.2 = true) : (Itr.ask k c).run f s = ((0, false), (f s k).2) := by
  rw [Itr.run]; exact if_neg h
theorem Itr.run_bind {σ : Type} (f : σ → Int → (Int × Bool) × σ) : ∀ (m : Itr) (g : Int → Itr) (s : σ), (m.bind g).run f s = if (m.run f s).1.2 = true then (g (m.run f s).1.1).run f (m.run f s).2 else ((0, false), (m.run f s).2) := by
  intro m
  induction m with
  | done v => intro g s; simp [Itr.bind, Itr.run]
  | ask k c ih =>
    intro g s
    rw [Itr.bind]
    by_cases h : (f s k).1.2 = true
    · rw [Itr.run_yes h, Itr.run_yes h, ih]
    · rw [Itr.run_no h, Itr.run_no h]; simp
theorem Itr.run_zero {σ : Type} (f : σ → Int → (Int × Bool) × σ) : ∀ (m : Itr) (s : σ), (m.run f s).1.2 = false → (m.run f s).1.1 = 0 := by
  intro m
  induction m with
  | done v => intro s h; simp [Itr.run] at h
  | ask k c ih =>
    intro s h
    by_cases h1 : (f s k).1.2 = true
    · rw [Itr.run_yes h1] at h ⊢; exact ih _ _ h
    · rw [Itr.run_no h1]
theorem Tk.run_itr {σ : Type} (f : σ → Int → (Int × Bool) × σ) (hf : ∀ s k, (f s k).1.2 = false → (f s k).1.1 = 0) : ∀ (t : Tk) (s : σ), t.run f s = t.itr.run f s := by
  have pair : ∀ (r : (Int × Bool) × σ), r.1.2 = true → r = ((r.1.1, true), r.2) := by
    rintro ⟨⟨x, b⟩, s⟩ h
    simp only at h; subst h; rfl
  have pairf : ∀ (r : (Int × Bool) × σ), ¬ r.1.2 = true → r.1.1 = 0 → r = ((0, false), r.2) := by
    rintro ⟨⟨x, b⟩, s⟩ h h0
    simp only [Bool.not_eq_true] at h h0; subst h h0; rfl
  intro t
  induction t with
  | num n => intro s; rfl
  | get k =>
    intro s
    rw [Tk.run, Tk.itr]
    by_cases h : (f s k).1.2 = true
    · rw [Itr.run_yes h]; exact pair _ h
    · rw [Itr.run_no h]; exact pairf _ h (hf s k (by simpa using h))
  | add a b iha ihb =>
    intro s
    simp only [Tk.run, Tk.itr]
    rw [Itr.run_bind, iha]
    by_cases h : (a.itr.run f s).1.2 = true
    · rw [if_pos h, if_pos h, Itr.run_bind, ihb]; rfl
    · rw [if_neg h, if_neg h]
  | mul a b iha ihb =>
    intro s
    simp only [Tk.run, Tk.itr]
    rw [Itr.run_bind, iha]
    by_cases h : (a.itr.run f s).1.2 = true
    · rw [if_pos h, if_pos h, Itr.run_bind, ihb]; rfl
    · rw [if_neg h, if_neg h]
  | cond a b d iha ihb ihd =>
    intro s
    simp only [Tk.run, Tk.itr]
    rw [Itr.run_bind, iha]
    by_cases h : (a.itr.run f s).1.2 = true
    · rw [if_pos h, if_pos h, ihb, ihd]
      by_cases h2 : (a.itr.run f s).1.1 ≠ 0
      · rw [if_pos h2, if_pos h2]
      · rw [if_neg h2, if_neg h2]
    · rw [if_neg h, if_neg h]
  | ix n a iha =>
    intro s
    simp only [Tk.run, Tk.itr]
    rw [Itr.run_bind, iha]
    by_cases h : (a.itr.run f s).1.2 = true
    · rw [if_pos h, if_pos h]
      by_cases h2 : (f (a.itr.run f s).2 ((n + (a.itr.run f s).1.1) % 10)).1.2 = true
      · rw [Itr.run_yes h2]; exact pair _ h2
      · rw [Itr.run_no h2]; exact pairf _ h2 (hf _ _ (by simpa using h2))
    · rw [if_neg h, if_neg h]
theorem Itr.bind_ok : ∀ (m : Itr) (g : Int → Itr), m.ok → (∀ x, (g x).ok) → (m.bind g).ok := by
  intro m
  induction m with
  | done v => intro g _ hg; exact hg v
  | ask k c ih => intro g hm hg; exact ⟨hm.1, hm.2.1, fun x => ih x g (hm.2.2 x) hg⟩
theorem Tk.itr_ok : ∀ t : Tk, t.ok → t.itr.ok := by
  intro t
  induction t with
  | num n => intro _; trivial
  | get k => intro h; exact ⟨h.1, h.2, fun _ => trivial⟩
  | add a b iha ihb => intro h; exact Itr.bind_ok _ _ (iha h.1) fun x => Itr.bind_ok _ _ (ihb h.2) fun y => trivial
  | mul a b iha ihb => intro h; exact Itr.bind_ok _ _ (iha h.1) fun x => Itr.bind_ok _ _ (ihb h.2) fun y => trivial
  | cond a b d iha ihb ihd => intro h; exact Itr.bind_ok _ _ (iha h.1) fun x => by split; exact ihb h.2.1; exact ihd h.2.2
  | ix n a iha => intro h; exact Itr.bind_ok _ _ (iha h.2.2) fun x => ⟨by omega, by omega, fun _ => trivial⟩

/-! a task that is given values for its first fetches -/
def Itr.walk : Itr → List Int → Itr
  | it, [] => it
  | .ask _ c, x :: xs => (c x).walk xs
  | .done v, _ :: _ => .done v
theorem Itr.walk_done (v : Int) (xs : List Int) : (Itr.done v).walk xs = .done v := by cases xs <;> rfl
theorem Itr.walk_append : ∀ (xs ys : List Int) (m : Itr), m.walk (xs ++ ys) = (m.walk xs).walk ys := by
  intro xs
  induction xs with
  | nil => intro ys m; cases m <;> rfl
  | cons x xs ih =>
    intro ys m
    cases m with
    | done v => simp [Itr.walk, Itr.walk_done]
    | ask k c => simp only [List.cons_append, Itr.walk]; exact ih ys (c x)
theorem Itr.walk_ok : ∀ (xs : List Int) (m : Itr), m.ok → (m.walk xs).ok := by
  intro xs
  induction xs with
  | nil => intro m h; cases m <;> exact h
  | cons x xs ih =>
    intro m h
    cases m with
    | done v => trivial
    | ask k c => exact ih _ (h.2.2 x)
theorem Itr.walk_le : ∀ (xs : List Int) (n : Nat) (m : Itr), m.le n → ∀ k c, m.walk xs = .ask k c → xs.length < n := by
  intro xs
  induction xs with
  | nil =>
    intro n m h k c e
    cases m with
    | done v => cases e
    | ask k' c' =>
      cases n with
      | zero => exact h.elim
      | succ n => simp
  | cons x xs ih =>
    intro n m h k c e
    cases m with
    | done v => cases e
    | ask k' c' =>
      cases n with
      | zero => exact h.elim
      | succ n => have := ih n (c' x) (h x) k c e; simp; omega
theorem Itr.le_mono : ∀ (m : Itr) (a b : Nat), a ≤ b → m.le a → m.le b := by
  intro m
  induction m with
  | done v => intro a b _ _; cases b <;> trivial
  | ask k c ih =>
    intro a b hab h
    cases a with
    | zero => exact h.elim
    | succ a =>
      cases b with
      | zero => omega
      | succ b => exact fun x => ih x a b (by omega) (h x)
theorem Itr.bind_le : ∀ (m : Itr) (g : Int → Itr) (a b : Nat), m.le a → (∀ x, (g x).le b) → (m.bind g).le (a + b) := by
  intro m
  induction m with
  | done v => intro g a b _ hg; exact Itr.le_mono _ b _ (by omega) (hg v)
  | ask k c ih =>
    intro g a b h hg
    cases a with
    | zero => exact h.elim
    | succ a =>
      rw [show a + 1 + b = (a + b) + 1 by omega]
      exact fun x => ih x g a b (h x) hg
def tapeF (got : List Int) (s : Nat × Int) (k : Int) : (Int × Bool) × (Nat × Int) :=
  if s.1 = got.length then ((0, false), (s.1, k)) else ((got.getD s.1 0, true), (s.1 + 1, s.2))
theorem tape_run (got : List Int) : ∀ (m : Itr) (a : Nat) (l : Int), a ≤ got.length →
    ((m.run (tapeF got) (a, l)).1 = match m.walk (got.drop a) with | .done v => (v, true) | .ask _ _ => (0, false)) ∧
    (∀ k c, m.walk (got.drop a) = .ask k c → (m.run (tapeF got) (a, l)).2.2 = k) := by
  intro m
  induction m with
  | done v => intro a l _; rw [Itr.walk_done]; exact ⟨rfl, fun k c e => by cases e⟩
  | ask k c ih =>
    intro a l ha
    by_cases h : a = got.length
    · subst h
      have e : tapeF got (got.length, l) k = ((0, false), (got.length, k)) := by simp [tapeF]
      rw [Itr.run_no (by rw [e]; simp), e, List.drop_length]
      exact ⟨rfl, fun k' c' e => by cases e; rfl⟩
    · have hlt : a < got.length := by omega
      have e : tapeF got (a, l) k = ((got.getD a 0, true), (a + 1, l)) := by simp [tapeF, h]
      rw [Itr.run_yes (by rw [e]), e, List.drop_eq_getElem_cons hlt]
      simp only [Itr.walk]
      rw [getD_at _ hlt]
      exact ih _ (a + 1) l (by omega)
/-- the value, the key that is lacked, whether there is a value -/
def nextP (m : Itr) (got : List Int) : Int × Int × Bool := ((m.run (tapeF got) (0, 0)).1.1, (m.run (tapeF got) (0, 0)).2.2, (m.run (tapeF got) (0, 0)).1.2)
theorem nextP_done {m : Itr} {got : List Int} {v : Int} (h : m.walk got = .done v) : (nextP m got).1 = v ∧ (nextP m got).2.2 = true := by
  have := (tape_run got m 0 0 (Nat.zero_le _)).1
  rw [List.drop_zero, h] at this
  exact ⟨by simp [nextP, this], by simp [nextP, this]⟩
theorem nextP_ask {m : Itr} {got : List Int} {k : Int} {c : Int → Itr} (h : m.walk got = .ask k c) : nextP m got = (0, k, false) := by
  have h1 := (tape_run got m 0 0 (Nat.zero_le _)).1
  have h2 := (tape_run got m 0 0 (Nat.zero_le _)).2 k c (by simpa using h)
  rw [List.drop_zero, h] at h1
  simp [nextP, h1, h2]

/-! the reference's way: nothing is kept; the keys under way are handed on -/
def specP (S : Sh) : Nat → List Int → List Int → Int → (Int × Bool) × List Int
  | n, under, c, k =>
    if mkK S.made k = false then ((atK S.inputs k, true), c)
    else if 0 ≤ idx (fun x => k == x) under then ((0, false), under.drop (idx (fun x => k == x) under).toNat)
    else match n with
      | 0 => ((0, false), c)
      | n + 1 => (S.tk k).itr.run (specP S n (under ++ [k])) c

theorem specP_unmade {S : Sh} {n : Nat} {u c : List Int} {k : Int} (h : mkK S.made k = false) : specP S n u c k = ((atK S.inputs k, true), c) := by
  unfold specP; rw [if_pos h]
theorem specP_under {S : Sh} {n : Nat} {u c : List Int} {k : Int} (h : mkK S.made k = true) (hu : 0 ≤ idx (fun x => k == x) u) : specP S n u c k = ((0, false), u.drop (idx (fun x => k == x) u).toNat) := by
  unfold specP; rw [if_neg (by simp [h]), if_pos hu]
theorem specP_new {S : Sh} {n : Nat} {u c : List Int} {k : Int} (h : mkK S.made k = true) (hu : ¬ 0 ≤ idx (fun x => k == x) u) : specP S (n + 1) u c k = (S.tk k).itr.run (specP S n (u ++ [k])) c := by
  rw [specP, if_neg (by simp [h]), if_neg hu]
theorem idx_not_mem {l : List Int} {k : Int} (h : k ∉ l) : ¬ 0 ≤ idx (fun x => k == x) l := by
  intro h0
  have h1 : idx (fun x => k == x) l = -1 := idx_none (fun j hj => by
    simp only [beq_eq_false_iff_ne]
    intro e; exact h (e ▸ List.getElem_mem hj))
  omega

/-- what is known: each known key has the value that its task has with known ones of lower rank -/
def knF (S : Sh) (kn : Int → Option Int) (rank : Int → Nat) (r : Nat) (_ : Unit) (d : Int) : (Int × Bool) × Unit :=
  if mkK S.made d = false then ((atK S.inputs d, true), ())
  else match kn d with
    | some y => if rank d < r then ((y, true), ()) else ((0, false), ())
    | none => ((0, false), ())
def Kn (S : Sh) (kn : Int → Option Int) (rank : Int → Nat) (M : Nat) : Prop :=
  ∀ j v, kn j = some v → rank j < M ∧ mkK S.made j = true ∧ (S.tk j).itr.run (knF S kn rank (rank j)) () = ((v, true), ())
theorem Itr.run_same {σ τ : Type} {g : σ → Int → (Int × Bool) × σ} {f : τ → Int → (Int × Bool) × τ} (s : σ) (c : τ) (hs : ∀ d, (g s d).2 = s) (h : ∀ d y, (g s d).1 = (y, true) → f c d = ((y, true), c)) :
    ∀ (m : Itr) (v : Int), (m.run g s).1 = (v, true) → m.run f c = ((v, true), c) := by
  intro m
  induction m with
  | done w => intro v e; simp only [Itr.run] at e ⊢; cases e; rfl
  | ask k ct ih =>
    intro v e
    by_cases h1 : (g s k).1.2 = true
    · rw [Itr.run_yes h1, hs] at e
      have h2 := h k (g s k).1.1 (by rw [← h1])
      rw [Itr.run_yes (by rw [h2]), h2]
      exact ih _ v e
    · rw [Itr.run_no h1] at e; cases e
theorem knF_yes {S : Sh} {kn : Int → Option Int} {rank : Int → Nat} {r : Nat} {d y : Int} (h : (knF S kn rank r () d).1 = (y, true)) :
    (mkK S.made d = false ∧ y = atK S.inputs d) ∨ (mkK S.made d = true ∧ kn d = some y ∧ rank d < r) := by
  unfold knF at h
  by_cases h1 : mkK S.made d = false
  · rw [if_pos h1] at h; cases h; exact .inl ⟨h1, rfl⟩
  · rw [if_neg h1] at h
    right
    refine ⟨by simpa using h1, ?_⟩
    cases e : kn d with
    | none => rw [e] at h; cases h
    | some z =>
      rw [e] at h
      simp only at h
      by_cases h2 : rank d < r
      · rw [if_pos h2] at h; cases h; exact ⟨rfl, h2⟩
      · rw [if_neg h2] at h; cases h

/-- what is known is what the reference reckons -/
theorem spec_known {S : Sh} {kn : Int → Option Int} {rank : Int → Nat} {M : Nat} (hK : Kn S kn rank M) : ∀ (r : Nat) (j v : Int) (u : List Int) (n : Nat) (c : List Int), rank j = r → kn j = some v → u.Nodup → (∀ x ∈ u, 0 ≤ x ∧ x < S.made.length) →
    (∀ x ∈ u, ∀ y, kn x = some y → r < rank x) → S.made.length ≤ u.length + n → specP S n u c j = ((v, true), c) := by
  intro r
  induction r using Nat.strongRecOn with
  | ind r ih =>
  intro j v u n c hr hj hn hrg hu hf
  obtain ⟨_, hmj, hrun⟩ := hK j v hj
  have hju : j ∉ u := fun h => by have := hu j h v hj; omega
  have hjr := mkK_range (show mkK S.made j ≠ false by rw [hmj]; simp)
  have hl := nodup_bound (l := u ++ [j]) (n := S.made.length) (by
    rw [List.nodup_append]
    exact ⟨hn, by simp, fun a ha b hb => by simp only [List.mem_singleton] at hb; subst hb; intro e; exact hju (e ▸ ha)⟩) (by
    intro x hx
    rcases List.mem_append.1 hx with h | h
    · exact hrg x h
    · rw [List.mem_singleton.1 h]; exact hjr)
  simp only [List.length_append, List.length_cons, List.length_nil] at hl
  obtain ⟨n', rfl⟩ : ∃ n', n = n' + 1 := ⟨n - 1, by omega⟩
  rw [specP_new hmj (idx_not_mem hju)]
  refine Itr.run_same () c (fun d => rfl) (fun d y hy => ?_) _ v (by rw [hrun])
  rcases knF_yes hy with ⟨h1, rfl⟩ | ⟨h1, h2, h3⟩
  · exact specP_unmade h1
  · refine ih (rank d) (by omega) d y (u ++ [j]) n' c rfl h2 ?_ ?_ ?_ (by simp; omega)
    · rw [List.nodup_append]
      exact ⟨hn, by simp, fun a ha b hb => by simp only [List.mem_singleton] at hb; subst hb; intro e; exact hju (e ▸ ha)⟩
    · intro x hx
      rcases List.mem_append.1 hx with h | h
      · exact hrg x h
      · rw [List.mem_singleton.1 h]; exact hjr
    · intro x hx y' hy'
      rcases List.mem_append.1 hx with h | h
      · have := hu x h y' hy'; omega
      · rw [List.mem_singleton.1 h]; exact h3

def KnE (S : Sh) (kn : Int → Option Int) : Prop := ∃ rank M, Kn S kn rank M
/-- k has the answer y -/
def Ans (S : Sh) (kn : Int → Option Int) (k y : Int) : Prop := (mkK S.made k = false ∧ y = atK S.inputs k) ∨ kn k = some y
def KLe (a b : Int → Option Int) : Prop := ∀ k y, a k = some y → b k = some y
theorem Ans.up {S : Sh} {a b : Int → Option Int} {k y : Int} (h : Ans S a k y) (hl : KLe a b) : Ans S b k y := h.imp id (hl k y)
theorem keyP_zero (S : Sh) (n : Nat) (st : MkSt) (k : Int) : (keyP S n st k).1.2 = false → (keyP S n st k).1.1 = 0 := by
  intro h
  unfold keyP at h ⊢
  split
  · rename_i h1; rw [if_pos h1] at h; cases h
  · rename_i h1
    rw [if_neg h1] at h
    split
    · rename_i v hv; rw [hv] at h; cases h
    · rename_i hv
      rw [hv] at h
      dsimp only at h
      split
      · rfl
      · rename_i h2
        rw [if_neg h2] at h
        cases n with
        | zero => rfl
        | succ n =>
          dsimp only at h ⊢
          split
          · rename_i h3; rw [if_pos h3] at h; cases h
          · rfl

/-- the two ways side by side -/
def Same (S : Sh) (n : Nat) (O : List Int) (st : MkSt) (c : List Int) (r : (Int × Bool) × MkSt) (q : (Int × Bool) × List Int) : Prop :=
  r.1 = q.1 ∧ (r.1.2 = true → q.2 = c ∧ KnE S r.2.known ∧ KLe st.known r.2.known) ∧ (r.1.2 = false → r.2.circle = q.2)
theorem run_same2 {S : Sh} {n : Nat} {O : List Int} (hk : ∀ (st : MkSt) (c : List Int) (k : Int), Inv S n st → KnE S st.known → st.open_ = O →
      Same S n O st c (keyP S n st k) (specP S n O c k) ∧ ((keyP S n st k).1.2 = true → Ans S (keyP S n st k).2.known k (keyP S n st k).1.1 ∧ (keyP S n st k).2.open_ = O) ∧ Inv S n (keyP S n st k).2) :
    ∀ (m : Itr) (st : MkSt) (c : List Int), Inv S n st → KnE S st.known → st.open_ = O →
      Same S n O st c (m.run (keyP S n) st) (m.run (specP S n O) c) ∧
      ((m.run (keyP S n) st).1.2 = true → ∀ (g : Unit → Int → (Int × Bool) × Unit), (∀ d y, Ans S (m.run (keyP S n) st).2.known d y → g () d = ((y, true), ())) → m.run g () = (((m.run (keyP S n) st).1.1, true), ())) := by
  intro m
  induction m with
  | done v => intro st c hi hK ho; exact ⟨⟨rfl, fun _ => ⟨rfl, hK, fun _ _ h => h⟩, fun h => by cases h⟩, fun _ g _ => rfl⟩
  | ask k ct ih =>
    intro st c hi hK ho
    obtain ⟨⟨h1, h2, h3⟩, h4, h5⟩ := hk st c k hi hK ho
    by_cases hok : (keyP S n st k).1.2 = true
    · have hok' : (specP S n O c k).1.2 = true := by rw [← h1]; exact hok
      rw [Itr.run_yes hok, Itr.run_yes hok']
      obtain ⟨e1, hK1, hL1⟩ := h2 hok
      obtain ⟨hA, hO⟩ := h4 hok
      rw [← h1, e1]
      obtain ⟨⟨i1, i2, i3⟩, i4⟩ := ih (keyP S n st k).1.1 (keyP S n st k).2 c h5 hK1 hO
      refine ⟨⟨i1, fun h => ?_, i3⟩, fun h g hg => ?_⟩
      · obtain ⟨j1, j2, j3⟩ := i2 h
        exact ⟨j1, j2, fun x y hxy => j3 x y (hL1 x y hxy)⟩
      · have hgk := hg k _ (hA.up (i2 h).2.2)
        rw [Itr.run_yes (by rw [hgk]), hgk]
        exact i4 h g hg
    · have hok' : ¬ (specP S n O c k).1.2 = true := by rw [← h1]; exact hok
      rw [Itr.run_no hok, Itr.run_no hok']
      exact ⟨⟨rfl, fun h => (by cases h), fun _ => h3 (by simpa using hok)⟩, fun h => by cases h⟩

theorem Kn.upd {S : Sh} {kn : Int → Option Int} {rank : Int → Nat} {M : Nat} (hK : Kn S kn rank M) {k v : Int} (hk : kn k = none) (hm : mkK S.made k = true)
    (hrun : ∀ (g : Unit → Int → (Int × Bool) × Unit), (∀ d y, Ans S kn d y → g () d = ((y, true), ())) → (S.tk k).itr.run g () = ((v, true), ())) : KnE S (upd kn k v) := by
  refine ⟨fun d => if d = k then M else rank d, M + 1, fun j w hj => ?_⟩
  unfold Go.Proofs.Ytpccgdkidnkppaa.upd at hj
  by_cases e : j = k
  · subst e
    rw [if_pos rfl] at hj
    cases hj
    refine ⟨by simp, hm, hrun _ (fun d y hd => ?_)⟩
    unfold knF
    rcases hd with ⟨h1, rfl⟩ | hd
    · rw [if_pos h1]
    · obtain ⟨a1, a2, _⟩ := hK d y hd
      have hne : d ≠ j := fun e => by rw [e, hk] at hd; cases hd
      rw [if_neg (by simp [a2])]
      simp only [Go.Proofs.Ytpccgdkidnkppaa.upd, if_neg hne, hd, if_true]
      rw [if_pos a1]
  · rw [if_neg e] at hj
    obtain ⟨a1, a2, a3⟩ := hK j w hj
    refine ⟨by simp only [if_neg e]; omega, a2, ?_⟩
    refine Itr.run_same () () (fun d => rfl) (fun d y hd => ?_) _ w (by rw [a3])
    unfold knF
    rcases knF_yes hd with ⟨h1, rfl⟩ | ⟨h1, h2, h3⟩
    · rw [if_pos h1]
    · have hne : d ≠ k := fun e => by rw [e, hk] at h2; cases h2
      rw [if_neg (by simp [h1])]
      simp only [Go.Proofs.Ytpccgdkidnkppaa.upd, if_neg hne, h2, if_neg e]
      rw [if_pos h3]

theorem keyP_spec {S : Sh} (hS : S.Ok) : ∀ (n : Nat) (st : MkSt) (c : List Int) (k : Int), Inv S n st → KnE S st.known →
    Same S n st.open_ st c (keyP S n st k) (specP S n st.open_ c k) ∧ ((keyP S n st k).1.2 = true → Ans S (keyP S n st k).2.known k (keyP S n st k).1.1) := by
  intro n
  induction n with
  | zero =>
    intro st c k hi hK
    by_cases hm : mkK S.made k = false
    · have e : keyP S 0 st k = ((atK S.inputs k, true), st) := by unfold keyP; rw [if_pos hm]
      rw [e, specP_unmade hm]
      exact ⟨⟨rfl, fun _ => ⟨rfl, hK, fun _ _ h => h⟩, fun h => by cases h⟩, fun _ => .inl ⟨hm, rfl⟩⟩
    · have hm' : mkK S.made k = true := by simpa using hm
      cases hkn : st.known k with
      | some v =>
        have e : keyP S 0 st k = ((v, true), st) := by unfold keyP; rw [if_neg hm, hkn]
        obtain ⟨rank, M, hKn⟩ := hK
        have h2 := spec_known hKn (rank k) k v st.open_ 0 c rfl hkn hi.nodup hi.range (fun x hx y hy => by rw [hi.openUnknown x hx] at hy; cases hy) hi.fuel
        rw [e, h2]
        exact ⟨⟨rfl, fun _ => ⟨rfl, ⟨rank, M, hKn⟩, fun _ _ h => h⟩, fun h => by cases h⟩, fun _ => .inr hkn⟩
      | none =>
        by_cases ho : 0 ≤ idx (fun x => k == x) st.open_
        · have e : keyP S 0 st k = ((0, false), { st with circle := st.open_.drop (idx (fun x => k == x) st.open_).toNat }) := by unfold keyP; rw [if_neg hm, hkn]; simp only; rw [if_pos ho]
          rw [e, specP_under hm' ho]
          exact ⟨⟨rfl, fun h => (by cases h), fun _ => rfl⟩, fun h => by cases h⟩
        · exfalso
          have hko := not_open ho
          have hkr := mkK_range hm
          have hf := hi.fuel
          have hl := nodup_bound (l := st.open_ ++ [k]) (n := S.made.length) (by
            rw [List.nodup_append]
            exact ⟨hi.nodup, by simp, fun a ha b hb => by simp only [List.mem_singleton] at hb; subst hb; intro e; exact hko (e ▸ ha)⟩) (by
            intro x hx
            rcases List.mem_append.1 hx with h | h
            · exact hi.range x h
            · rw [List.mem_singleton.1 h]; exact hkr)
          simp only [List.length_append, List.length_cons, List.length_nil] at hl
          omega
  | succ n ih =>
    intro st c k hi hK
    by_cases hm : mkK S.made k = false
    · have e : keyP S (n + 1) st k = ((atK S.inputs k, true), st) := by unfold keyP; rw [if_pos hm]
      rw [e, specP_unmade hm]
      exact ⟨⟨rfl, fun _ => ⟨rfl, hK, fun _ _ h => h⟩, fun h => by cases h⟩, fun _ => .inl ⟨hm, rfl⟩⟩
    · have hm' : mkK S.made k = true := by simpa using hm
      cases hkn : st.known k with
      | some v =>
        have e : keyP S (n + 1) st k = ((v, true), st) := by unfold keyP; rw [if_neg hm, hkn]
        obtain ⟨rank, M, hKn⟩ := hK
        have h2 := spec_known hKn (rank k) k v st.open_ (n + 1) c rfl hkn hi.nodup hi.range (fun x hx y hy => by rw [hi.openUnknown x hx] at hy; cases hy) hi.fuel
        rw [e, h2]
        exact ⟨⟨rfl, fun _ => ⟨rfl, ⟨rank, M, hKn⟩, fun _ _ h => h⟩, fun h => by cases h⟩, fun _ => .inr hkn⟩
      | none =>
        by_cases ho : 0 ≤ idx (fun x => k == x) st.open_
        · have e : keyP S (n + 1) st k = ((0, false), { st with circle := st.open_.drop (idx (fun x => k == x) st.open_).toNat }) := by unfold keyP; rw [if_neg hm, hkn]; simp only; rw [if_pos ho]
          rw [e, specP_under hm' ho]
          exact ⟨⟨rfl, fun h => (by cases h), fun _ => rfl⟩, fun h => by cases h⟩
        · have hko := not_open ho
          have hkr := mkK_range hm
          have hi1 := inv_push hi hkr hkn hko
          have hstep : ∀ (s : MkSt) (c : List Int) (d : Int), Inv S n s → KnE S s.known → s.open_ = st.open_ ++ [k] →
              Same S n (st.open_ ++ [k]) s c (keyP S n s d) (specP S n (st.open_ ++ [k]) c d) ∧ ((keyP S n s d).1.2 = true → Ans S (keyP S n s d).2.known d (keyP S n s d).1.1 ∧ (keyP S n s d).2.open_ = st.open_ ++ [k]) ∧ Inv S n (keyP S n s d).2 := by
            intro s c d hs hKs hos
            obtain ⟨a1, a2⟩ := ih s c d hs hKs
            have hv := keyP_inv hS n s d hs
            rw [hos] at a1
            exact ⟨a1, fun h => ⟨a2 h, (hv.2.1 h).trans hos⟩, hv.1⟩
          obtain ⟨⟨b1, b2, b3⟩, b4⟩ := run_same2 hstep (S.tk k).itr { st with open_ := st.open_ ++ [k] } c hi1 hK rfl
          have hrun := keyP_run hS hi1 (tk_ok hS k)
          rw [specP_new hm' ho]
          have e : keyP S (n + 1) st k = (let r := (S.tk k).run (keyP S n) { st with open_ := st.open_ ++ [k] }; if r.1.2 then ((r.1.1, true), { r.2 with open_ := r.2.open_.dropLast, known := upd r.2.known k r.1.1, order := r.2.order ++ [k] }) else ((0, false), r.2)) := by
            rw [keyP, if_neg hm, hkn]; simp only; rw [if_neg ho]
          rw [e, Tk.run_itr _ (keyP_zero S n)]
          rw [Tk.run_itr _ (keyP_zero S n)] at hrun
          have hRz := Itr.run_zero (keyP S n) (S.tk k).itr { st with open_ := st.open_ ++ [k] }
          generalize (S.tk k).itr.run (keyP S n) { st with open_ := st.open_ ++ [k] } = R at *
          generalize (S.tk k).itr.run (specP S n (st.open_ ++ [k])) c = Q at *
          dsimp only
          by_cases hok : R.1.2 = true
          · rw [if_pos hok]
            obtain ⟨c1, ⟨rank, M, hKn⟩, c3⟩ := b2 hok
            have hku : R.2.known k = none := hrun.1.openUnknown k (by rw [hrun.2.1 hok]; simp)
            have hK2 := hKn.upd hku hm' (fun g hg => b4 hok g hg)
            refine ⟨⟨?_, fun _ => ⟨c1, hK2, fun x y hx => ?_⟩, fun h => by cases h⟩, fun _ => .inr (by simp [upd])⟩
            · rw [← b1]; simp only; rw [← hok]
            · have := c3 x y hx
              have hne : x ≠ k := fun e => by rw [e, hku] at this; cases this
              simp only [upd, if_neg hne]; exact this
          · have hok' : R.1.2 = false := by simpa using hok
            rw [if_neg hok]
            refine ⟨⟨?_, fun h => (by cases h), fun _ => b3 hok'⟩, fun h => by cases h⟩
            rw [← b1]
            have hz : R.1.1 = 0 := hRz hok'
            exact Prod.ext hz.symm hok'.symm
end Go.Proofs.Ytpccgdkidnkppaa

set_option linter.unusedVariables false
set_option linter.unusedSimpArgs false
namespace Go.Proofs.Ytpccgdkidnkppaa
open Go Go.RowKit

/-- the tape: what a task has been given, how many of them it has taken, the key of the fetch behind them -/
structure TapeAt (B : Nat) (w0 : World) (pb : Nat) (got : List Int) (A : Option Addr) (c : Nat) (s : Nat × Int) (w : World) : Prop where
  blk : w.heap[pb]? = some (.cells #[.slice A got.length c, .int .i64 s.1, .int .i64 s.2] 164 (0, 0))
  row : IntsAt B w0 A got
  vals : ∀ x ∈ got, 0 ≤ x ∧ x ≤ 96
  at_ : s.1 ≤ got.length
  small : got.length ≤ 1000000
  low : B ≤ pb
  below : Below B w0 w
  size : B ≤ w.heap.size
theorem TapeAt.drew {B : Nat} {w0 : World} {pb : Nat} {got : List Int} {A : Option Addr} {c : Nat} {s : Nat × Int} {w : World} (h : TapeAt B w0 pb got A c s w) : TapeAt B w0 pb got A c s w.drew := ⟨h.blk, h.row, h.vals, h.at_, h.small, h.low, h.below.drew, h.size⟩
def TapeI (B : Nat) (w0 : World) (pb : Nat) (got : List Int) (A : Option Addr) (c : Nat) (s : Nat × Int) (w : World) (F : Nat → Prop) : Prop := TapeAt B w0 pb got A c s w ∧ F = (· = pb)
theorem TapeI.holds (B : Nat) (w0 : World) (pb : Nat) (got : List Int) (A : Option Addr) (c : Nat) : Holds (TapeI B w0 pb got A c) B w0 where
  old := by
    rintro s w F ⟨h, rfl⟩
    exact ⟨h.below, h.size⟩
  own := by
    rintro s w F ⟨h, rfl⟩ i rfl
    exact ⟨h.low, block_lt h.blk⟩
  alloc := by
    rintro s w F o ⟨h, rfl⟩
    exact ⟨⟨(heap_old (block_lt h.blk)).trans h.blk, h.row, h.vals, h.at_, h.small, h.low, below_al' h.below o h.size, by have := h.size; simp; omega⟩, rfl⟩

set_option maxHeartbeats 1000000 in
theorem get_calls (B : Nat) (w0 : World) (pb : Nat) (got : List Int) (A : Option Addr) (c : Nat) (s : Nat × Int) (k : Int) (w : World) (F : Nat → Prop) (h : TapeI B w0 pb got A c s w F) :
    Calls Try.prog 160 #[.pointer (some ⟨pb, 0, none⟩), .int .i64 k] w (Gives (TapeI B w0 pb got A c) F w (tapeF got s k)) := by
  obtain ⟨h, rfl⟩ := h
  obtain ⟨i, l⟩ := s
  have x0 : w.cell? ⟨pb, 0, none⟩ = some (.slice A got.length c) := cellm h.blk 0
  have x1 : w.cell? ⟨pb, 1, none⟩ = some (.int .i64 i) := cellm h.blk 1
  have x2 : w.cell? ⟨pb, 2, none⟩ = some (.int .i64 l) := cellm h.blk 2
  have f1 : w.frozen? ⟨pb, 1, none⟩ = false := frozenm h.blk 1
  have f2 : w.frozen? ⟨pb, 2, none⟩ = false := frozenm h.blk 2
  have z := block_lt h.blk
  have hat := h.at_
  have hsm := h.small
  simp only at hat
  by_cases hi : i = got.length
  · have e : tapeF got (i, l) k = ((0, false), (i, k)) := by simp [tapeF, hi]
    have hset : TapeAt B w0 pb got A c (i, k) (w.setCell ⟨pb, 2, none⟩ (.int .i64 k)) ∧ Turn (· = pb) (· = pb) w (w.setCell ⟨pb, 2, none⟩ (.int .i64 k)) := by
      have t : Turn (· = pb) (· = pb) w (w.setCell ⟨pb, 2, none⟩ (.int .i64 k)) := setCell_turn (F := (· = pb)) rfl _
      exact ⟨⟨(setCell_block h.blk 2 _).trans rfl, h.row, h.vals, h.at_, h.small, h.low, h.below.trans (t.below h.size (fun i e => by cases e; exact h.low)), Nat.le_trans h.size t.size⟩, t⟩
    rw [e]
    clear e
    subst hi
    replace h := Lib.hid h
    replace hset := Lib.hid hset
    go_enter Try.func160, Try.ntmps160
    go_wp2_with fail
    go_region
    go_wp2_with fail
    go_ret2
    exact ⟨rfl, by simp, by simp, _, ⟨hset.out.1.drew, rfl⟩, hset.out.2.drew⟩
  · have hlt : i < got.length := by omega
    have e : tapeF got (i, l) k = ((got[i], true), (i + 1, l)) := by simp [tapeF, hi, hlt]
    have hv := h.vals got[i] (List.getElem_mem _)
    obtain ⟨g, o, rfl, hg, hc⟩ := h.row.at h.below h.size i hlt
    have hgp : g ≠ pb := by
      intro e
      obtain ⟨b', o', e', hb', _⟩ := h.row i hlt
      cases e'
      have := h.low; omega
    have e1 : ((i + 1 : Nat) : Int) = (i : Int) + 1 := by omega
    have hset : TapeAt B w0 pb got (some ⟨g, o, none⟩) c (i + 1, l) (w.setCell ⟨pb, 1, none⟩ (.int .i64 ((i : Int) + 1))) ∧ Turn (· = pb) (· = pb) w (w.setCell ⟨pb, 1, none⟩ (.int .i64 ((i : Int) + 1))) := by
      have t : Turn (· = pb) (· = pb) w (w.setCell ⟨pb, 1, none⟩ (.int .i64 ((i : Int) + 1))) := setCell_turn (F := (· = pb)) rfl _
      exact ⟨⟨by have := setCell_block h.blk 1 (.int .i64 ((i : Int) + 1)); rw [← e1] at this ⊢; exact this.trans rfl, h.row, h.vals, hlt, h.small, h.low, h.below.trans (t.below h.size (fun i e => by cases e; exact h.low)), Nat.le_trans h.size t.size⟩, t⟩
    have hne : ((i : Int) == (got.length : Int)) = false := by simp; omega
    rw [e]
    clear e
    replace h := Lib.hid h
    replace hset := Lib.hid hset
    go_enter Try.func160, Try.ntmps160
    go_wp2_with fail
    go_region
    go_wp2_with fail
    go_region
    go_wp2_with fail
    go_ret2
    exact ⟨rfl, hv.1, hv.2, _, ⟨hset.out.1.drew.drew, rfl⟩, hset.out.2.drew.drew⟩

set_option maxHeartbeats 1000000 in
/-- a task that is done with a fetch that keeps I -/
theorem do_callsN {σ : Type} (I : Nat → σ → World → (Nat → Prop) → Prop) (f : σ → Int → (Int × Bool) × σ) (pb : Nat) (B : Nat) (w0 : World)
    (hI : ∀ n, Holds (I n) B w0) (hmono : ∀ n s w F, I (n + 1) s w F → I n s w F)
    (hf : ∀ n s k w F, I (n + 1) s w F → 0 ≤ k → k ≤ 9 → Calls Try.prog 160 #[.pointer (some ⟨pb, 0, none⟩), .int .i64 k] w (Gives (I n) F w (f s k))) :
    ∀ (t : Tk) (u : Nat) (A : Option Addr) (c : Nat) (s : σ) (w : World) (F : Nat → Prop), t.ok → I (u + t.fets) s w F → t.enc.parts.length ≤ c → PartsIs B w0 A 0 t.enc.parts →
      Calls Try.prog 146 #[.agg #[.int .i64 t.enc.kind, .int .i64 t.enc.n, .slice A t.enc.parts.length c], .pointer (some ⟨pb, 0, none⟩)] w (Gives (I u) F w (t.run f s)) := by
  have hdown : ∀ m n s w F, I (n + m) s w F → I n s w F := by
    intro m
    induction m with
    | zero => intro n s w F h; exact h
    | succ m ih => intro n s w F h; exact ih n s w F (hmono _ s w F h)
  intro t
  replace hI := Lib.hid hI
  replace hf := Lib.hid hf
  replace hdown := Lib.hid hdown
  clear hmono
  induction t with
  | num x =>
    intro u A c s w F hok hs hc hp
    replace hs := Lib.hid hs
    simp only [Tk.enc, Task.kind, Task.n, Task.parts, Tk.ok] at hok hc hp ⊢
    go_enter Try.func146, Try.ntmps146
    go_wp2_with fail
    go_ret2
    exact ⟨rfl, hok.1, hok.2, F, (hI.out _).alloc _ _ _ _ hs.out, (Turn.refl F w).alloc _⟩
  | get k =>
    intro u A c s w F hok hs hc hp
    replace hs := Lib.hid hs
    simp only [Tk.enc, Task.kind, Task.n, Task.parts, Tk.ok] at hok hc hp ⊢
    go_enter Try.func146, Try.ntmps146
    go_wp2_with fail
    refine (hf.out u s k _ F ((hI.out _).alloc _ _ _ _ hs.out) hok.1 hok.2).mono ?_
    rintro e w' ⟨rfl, h1, h2, F', h3, h4⟩
    replace h3 := Lib.hid h3
    go_wp2_with fail
    go_ret2
    exact ⟨rfl, h1, h2, F', h3.out, ((Turn.refl F w).alloc _).trans h4⟩
  | add a b iha ihb =>
    intro u A c s w F hok hs hc hp
    replace hs : I (u + b.fets + a.fets) s w F := by
      have e : u + (a.fets + b.fets) = u + b.fets + a.fets := by omega
      exact e ▸ hs
    replace hs := Lib.hid hs
    replace iha := Lib.hid iha
    replace ihb := Lib.hid ihb
    simp only [Tk.enc, Task.kind, Task.n, Task.parts, Tk.ok] at hok hc hp ⊢
    obtain ⟨b0, o0, A0, c0, rfl, hb0, hx0, hy0, hz0, hc0, hm0, hp0⟩ := hp.at ((hI.out _).old _ _ _ hs.out).1 0 (by simp)
    have hlt : b0 < w.heap.size := Nat.lt_of_lt_of_le hb0 ((hI.out _).old _ _ _ hs.out).2
    simp only [List.getElem_cons_zero, Nat.zero_mul, Nat.add_zero] at hx0 hy0 hz0 hc0 hp0
    have hlen : ([a.enc, b.enc] : List Task).length = 2 := rfl
    simp only [hlen] at hc ⊢
    clear hlen
    go_enter Try.func146, Try.ntmps146
    go_wp2_with fail
    refine (iha.out (u + b.fets) A0 c0 s _ F hok.1 ((hI.out _).alloc _ _ _ _ hs.out) hc0 hp0).mono ?_
    rintro e w1 ⟨rfl, v1, v2, F1, h3, h4⟩
    replace h3 := Lib.hid h3
    have t1 := ((Turn.refl F w).alloc _).trans h4
    have hn : ¬ F w.heap.size := fun h => by have := ((hI.out _).own _ _ _ hs.out _ h).2; omega
    have hn1 : ¬ F1 w.heap.size := fun h => (h4.fresh _ h).elim hn (fun h => by simp at h; omega)
    have bx0 : w1.cell? ⟨w.heap.size, 0, none⟩ = some (.int .i64 2) := (h4.cell 0 (by simp) hn).trans (by simp)
    have bx1 : w1.cell? ⟨w.heap.size, 1, none⟩ = some (.int .i64 0) := (h4.cell 1 (by simp) hn).trans (by simp)
    have bx2 : w1.cell? ⟨w.heap.size, 2, none⟩ = some (.slice (some ⟨b0, o0, none⟩) 2 c) := (h4.cell 2 (by simp) hn).trans (by simp)
    have hlt1 : b0 < w1.heap.size := Nat.lt_of_lt_of_le hlt t1.size
    obtain ⟨b1, o1, A1, c1, e1, _, hx1, hy1, hz1, hc1, hm1, hp1⟩ := hp.at ((hI.out _).old _ _ _ h3.out).1 1 (by simp)
    simp only [Option.some.injEq, Addr.mk.injEq, and_true] at e1
    obtain ⟨rfl, rfl⟩ := e1
    simp only [List.getElem_cons_zero, List.getElem_cons_succ, Nat.one_mul, Nat.reduceMul] at hx1 hy1 hz1 hc1 hp1
    replace t1 := Lib.hid t1
    have szl : w.heap.size < w1.heap.size := by have := h4.size; simp at this; omega
    replace hn := Lib.hid hn
    replace hn1 := Lib.hid hn1
    clear h4 hx0 hy0 hz0 hlt
    cases hr : (a.run f s).1.2 with
    | false =>
      go_wp2_with fail
      go_ret2
      exact ⟨by simp [Tk.run, hr], by simp [Tk.run, hr], by simp [Tk.run, hr], F1, by simpa [Tk.run, hr] using hdown.out (b.fets) u _ _ _ (by rw [show u + (b.fets) = u + b.fets from by omega]; exact h3.out), t1.out⟩
    | true =>
      go_wp2_with fail
      refine (ihb.out u A1 c1 _ _ F1 hok.2 h3.out hc1 hp1).mono ?_
      rintro e w2 ⟨rfl, u1, u2, F2, h5, h6⟩
      replace h5 := Lib.hid h5
      have by0 : w2.cell? ⟨w.heap.size, 0, none⟩ = some (.int .i64 2) := (h6.cell 0 szl hn1.out).trans bx0
      replace h6 := Lib.hid h6
      clear bx0 bx1 bx2 hx1 hy1 hz1 hlt1
      cases hq : (b.run f (a.run f s).2).1.2 with
      | false =>
        go_wp2_with fail
        go_ret2
        exact ⟨by simp [Tk.run, hr, hq], by simp [Tk.run, hr, hq], by simp [Tk.run, hr, hq], F2, by simpa [Tk.run, hr, hq] using h5.out, t1.out.trans h6.out⟩
      | true =>
        have hrun : Tk.run f (a.add b) s = ((((a.run f s).1.1 + (b.run f (a.run f s).2).1.1) % 97, true), (b.run f (a.run f s).2).2) := by simp [Tk.run, hr, hq]
        replace hrun := Lib.hid hrun
        generalize (b.run f (a.run f s).2).1.1 = y at *
        generalize (a.run f s).1.1 = x at *
        skip
        go_wp2_with fail
        go_ret2
        rw [hrun.out]
        exact ⟨rfl, by simp only []; omega, by simp only []; omega, F2, h5.out, t1.out.trans h6.out⟩
  | mul a b iha ihb =>
    intro u A c s w F hok hs hc hp
    replace hs : I (u + b.fets + a.fets) s w F := by
      have e : u + (a.fets + b.fets) = u + b.fets + a.fets := by omega
      exact e ▸ hs
    replace hs := Lib.hid hs
    replace iha := Lib.hid iha
    replace ihb := Lib.hid ihb
    simp only [Tk.enc, Task.kind, Task.n, Task.parts, Tk.ok] at hok hc hp ⊢
    obtain ⟨b0, o0, A0, c0, rfl, hb0, hx0, hy0, hz0, hc0, hm0, hp0⟩ := hp.at ((hI.out _).old _ _ _ hs.out).1 0 (by simp)
    have hlt : b0 < w.heap.size := Nat.lt_of_lt_of_le hb0 ((hI.out _).old _ _ _ hs.out).2
    simp only [List.getElem_cons_zero, Nat.zero_mul, Nat.add_zero] at hx0 hy0 hz0 hc0 hp0
    have hlen : ([a.enc, b.enc] : List Task).length = 2 := rfl
    simp only [hlen] at hc ⊢
    clear hlen
    go_enter Try.func146, Try.ntmps146
    go_wp2_with fail
    refine (iha.out (u + b.fets) A0 c0 s _ F hok.1 ((hI.out _).alloc _ _ _ _ hs.out) hc0 hp0).mono ?_
    rintro e w1 ⟨rfl, v1, v2, F1, h3, h4⟩
    replace h3 := Lib.hid h3
    have t1 := ((Turn.refl F w).alloc _).trans h4
    have hn : ¬ F w.heap.size := fun h => by have := ((hI.out _).own _ _ _ hs.out _ h).2; omega
    have hn1 : ¬ F1 w.heap.size := fun h => (h4.fresh _ h).elim hn (fun h => by simp at h; omega)
    have bx0 : w1.cell? ⟨w.heap.size, 0, none⟩ = some (.int .i64 3) := (h4.cell 0 (by simp) hn).trans (by simp)
    have bx1 : w1.cell? ⟨w.heap.size, 1, none⟩ = some (.int .i64 0) := (h4.cell 1 (by simp) hn).trans (by simp)
    have bx2 : w1.cell? ⟨w.heap.size, 2, none⟩ = some (.slice (some ⟨b0, o0, none⟩) 2 c) := (h4.cell 2 (by simp) hn).trans (by simp)
    have hlt1 : b0 < w1.heap.size := Nat.lt_of_lt_of_le hlt t1.size
    obtain ⟨b1, o1, A1, c1, e1, _, hx1, hy1, hz1, hc1, hm1, hp1⟩ := hp.at ((hI.out _).old _ _ _ h3.out).1 1 (by simp)
    simp only [Option.some.injEq, Addr.mk.injEq, and_true] at e1
    obtain ⟨rfl, rfl⟩ := e1
    simp only [List.getElem_cons_zero, List.getElem_cons_succ, Nat.one_mul, Nat.reduceMul] at hx1 hy1 hz1 hc1 hp1
    replace t1 := Lib.hid t1
    have szl : w.heap.size < w1.heap.size := by have := h4.size; simp at this; omega
    replace hn := Lib.hid hn
    replace hn1 := Lib.hid hn1
    clear h4 hx0 hy0 hz0 hlt
    cases hr : (a.run f s).1.2 with
    | false =>
      go_wp2_with fail
      go_ret2
      exact ⟨by simp [Tk.run, hr], by simp [Tk.run, hr], by simp [Tk.run, hr], F1, by simpa [Tk.run, hr] using hdown.out (b.fets) u _ _ _ (by rw [show u + (b.fets) = u + b.fets from by omega]; exact h3.out), t1.out⟩
    | true =>
      go_wp2_with fail
      refine (ihb.out u A1 c1 _ _ F1 hok.2 h3.out hc1 hp1).mono ?_
      rintro e w2 ⟨rfl, u1, u2, F2, h5, h6⟩
      replace h5 := Lib.hid h5
      have by0 : w2.cell? ⟨w.heap.size, 0, none⟩ = some (.int .i64 3) := (h6.cell 0 szl hn1.out).trans bx0
      replace h6 := Lib.hid h6
      clear bx0 bx1 bx2 hx1 hy1 hz1 hlt1
      cases hq : (b.run f (a.run f s).2).1.2 with
      | false =>
        go_wp2_with fail
        go_ret2
        exact ⟨by simp [Tk.run, hr, hq], by simp [Tk.run, hr, hq], by simp [Tk.run, hr, hq], F2, by simpa [Tk.run, hr, hq] using h5.out, t1.out.trans h6.out⟩
      | true =>
        have hrun : Tk.run f (a.mul b) s = ((((a.run f s).1.1 * (b.run f (a.run f s).2).1.1) % 97, true), (b.run f (a.run f s).2).2) := by simp [Tk.run, hr, hq]
        replace hrun := Lib.hid hrun
        generalize (b.run f (a.run f s).2).1.1 = y at *
        generalize (a.run f s).1.1 = x at *
        have hxy : 0 ≤ x * y ∧ x * y ≤ 9216 := mul_bound v1 v2 u1 u2
        go_wp2_with fail
        go_ret2
        rw [hrun.out]
        exact ⟨rfl, by simp only []; omega, by simp only []; omega, F2, h5.out, t1.out.trans h6.out⟩
  | cond a b d iha ihb ihd =>
    intro u A c s w F hok hs hc hp
    replace hs : I (u + b.fets + d.fets + a.fets) s w F := by
      have e : u + (a.fets + b.fets + d.fets) = u + b.fets + d.fets + a.fets := by omega
      exact e ▸ hs
    replace hs := Lib.hid hs
    replace iha := Lib.hid iha
    replace ihb := Lib.hid ihb
    replace ihd := Lib.hid ihd
    simp only [Tk.enc, Task.kind, Task.n, Task.parts, Tk.ok] at hok hc hp ⊢
    obtain ⟨b0, o0, A0, c0, rfl, hb0, hx0, hy0, hz0, hc0, hm0, hp0⟩ := hp.at ((hI.out _).old _ _ _ hs.out).1 0 (by simp)
    have hlt : b0 < w.heap.size := Nat.lt_of_lt_of_le hb0 ((hI.out _).old _ _ _ hs.out).2
    simp only [List.getElem_cons_zero, Nat.zero_mul, Nat.add_zero] at hx0 hy0 hz0 hc0 hp0
    have hlen : ([a.enc, b.enc, d.enc] : List Task).length = 3 := rfl
    simp only [hlen] at hc ⊢
    clear hlen
    go_enter Try.func146, Try.ntmps146
    go_wp2_with fail
    refine (iha.out (u + b.fets + d.fets) A0 c0 s _ F hok.1 ((hI.out _).alloc _ _ _ _ hs.out) hc0 hp0).mono ?_
    rintro e w1 ⟨rfl, v1, v2, F1, h3, h4⟩
    replace h3 := Lib.hid h3
    have t1 := ((Turn.refl F w).alloc _).trans h4
    have hn : ¬ F w.heap.size := fun h => by have := ((hI.out _).own _ _ _ hs.out _ h).2; omega
    have hn1 : ¬ F1 w.heap.size := fun h => (h4.fresh _ h).elim hn (fun h => by simp at h; omega)
    have bx0 : w1.cell? ⟨w.heap.size, 0, none⟩ = some (.int .i64 4) := (h4.cell 0 (by simp) hn).trans (by simp)
    have bx1 : w1.cell? ⟨w.heap.size, 1, none⟩ = some (.int .i64 0) := (h4.cell 1 (by simp) hn).trans (by simp)
    have bx2 : w1.cell? ⟨w.heap.size, 2, none⟩ = some (.slice (some ⟨b0, o0, none⟩) 3 c) := (h4.cell 2 (by simp) hn).trans (by simp)
    have hlt1 : b0 < w1.heap.size := Nat.lt_of_lt_of_le hlt t1.size
    obtain ⟨b1, o1, A1, c1, e1, _, hx1, hy1, hz1, hc1, hm1, hp1⟩ := hp.at ((hI.out _).old _ _ _ h3.out).1 1 (by simp)
    simp only [Option.some.injEq, Addr.mk.injEq, and_true] at e1
    obtain ⟨rfl, rfl⟩ := e1
    simp only [List.getElem_cons_zero, List.getElem_cons_succ, Nat.one_mul, Nat.reduceMul] at hx1 hy1 hz1 hc1 hp1
    obtain ⟨b2, o2, A2, c2, e2, _, hx2, hy2, hz2, hc2, hm2, hp2⟩ := hp.at ((hI.out _).old _ _ _ h3.out).1 2 (by simp)
    simp only [Option.some.injEq, Addr.mk.injEq, and_true] at e2
    obtain ⟨rfl, rfl⟩ := e2
    simp only [List.getElem_cons_zero, List.getElem_cons_succ, Nat.one_mul, Nat.reduceMul] at hx2 hy2 hz2 hc2 hp2
    replace t1 := Lib.hid t1
    have szl : w.heap.size < w1.heap.size := by have := h4.size; simp at this; omega
    replace hn := Lib.hid hn
    replace hn1 := Lib.hid hn1
    clear h4 hx0 hy0 hz0 hlt
    cases hr : (a.run f s).1.2 with
    | false =>
      go_wp2_with fail
      go_ret2
      exact ⟨by simp [Tk.run, hr], by simp [Tk.run, hr], by simp [Tk.run, hr], F1, by simpa [Tk.run, hr] using hdown.out (b.fets + d.fets) u _ _ _ (by rw [show u + (b.fets + d.fets) = u + b.fets + d.fets from by omega]; exact h3.out), t1.out⟩
    | true =>
      by_cases hz : (a.run f s).1.1 = 0
      · have hz' : ((a.run f s).1.1 != 0) = false := by simp [hz]
        replace hz := Lib.hid hz
        go_wp2_with fail
        refine (ihd.out (u + b.fets) A2 c2 _ _ F1 hok.2.2 h3.out hc2 hp2).mono ?_
        rintro e w2 ⟨rfl, u1, u2, F2, h5, h6⟩
        replace h5 := Lib.hid h5
        replace h6 := Lib.hid h6
        have hrun : Tk.run f (Tk.cond a b d) s = d.run f (a.run f s).2 := by simp [Tk.run, hr, hz.out]
        replace hrun := Lib.hid hrun
        go_wp2_with fail
        go_ret2
        rw [hrun.out]
        exact ⟨rfl, u1, u2, F2, hdown.out _ _ _ _ _ h5.out, t1.out.trans h6.out⟩
      · have hz' : ((a.run f s).1.1 != 0) = true := by simp [hz]
        replace hz := Lib.hid hz
        go_wp2_with fail
        refine (ihb.out (u + d.fets) A1 c1 _ _ F1 hok.2.1 (by rw [show u + d.fets + b.fets = u + b.fets + d.fets from by omega]; exact h3.out) hc1 hp1).mono ?_
        rintro e w2 ⟨rfl, u1, u2, F2, h5, h6⟩
        replace h5 := Lib.hid h5
        replace h6 := Lib.hid h6
        have hrun : Tk.run f (Tk.cond a b d) s = b.run f (a.run f s).2 := by simp [Tk.run, hr, hz.out]
        replace hrun := Lib.hid hrun
        go_wp2_with fail
        go_ret2
        rw [hrun.out]
        exact ⟨rfl, u1, u2, F2, hdown.out _ _ _ _ _ h5.out, t1.out.trans h6.out⟩
  | ix n a iha =>
    intro u A c s w F hok hs hc hp
    replace hs : I (u + 1 + a.fets) s w F := by
      have e : u + (a.fets + 1) = u + 1 + a.fets := by omega
      exact e ▸ hs
    replace hs := Lib.hid hs
    replace iha := Lib.hid iha
    simp only [Tk.enc, Task.kind, Task.n, Task.parts, Tk.ok] at hok hc hp ⊢
    obtain ⟨b0, o0, A0, c0, rfl, hb0, hx0, hy0, hz0, hc0, hm0, hp0⟩ := hp.at ((hI.out _).old _ _ _ hs.out).1 0 (by simp)
    have hlt : b0 < w.heap.size := Nat.lt_of_lt_of_le hb0 ((hI.out _).old _ _ _ hs.out).2
    simp only [List.getElem_cons_zero, Nat.zero_mul, Nat.add_zero] at hx0 hy0 hz0 hc0 hp0
    have hlen : ([a.enc] : List Task).length = 1 := rfl
    simp only [hlen] at hc ⊢
    clear hlen
    go_enter Try.func146, Try.ntmps146
    go_wp2_with fail
    refine (iha.out (u + 1) A0 c0 s _ F hok.2.2 ((hI.out _).alloc _ _ _ _ hs.out) hc0 hp0).mono ?_
    rintro e w1 ⟨rfl, v1, v2, F1, h3, h4⟩
    replace h3 := Lib.hid h3
    have t1 := ((Turn.refl F w).alloc _).trans h4
    have hn : ¬ F w.heap.size := fun h => by have := ((hI.out _).own _ _ _ hs.out _ h).2; omega
    have hn1 : ¬ F1 w.heap.size := fun h => (h4.fresh _ h).elim hn (fun h => by simp at h; omega)
    have bx0 : w1.cell? ⟨w.heap.size, 0, none⟩ = some (.int .i64 5) := (h4.cell 0 (by simp) hn).trans (by simp)
    have bx1 : w1.cell? ⟨w.heap.size, 1, none⟩ = some (.int .i64 n) := (h4.cell 1 (by simp) hn).trans (by simp)
    have bx2 : w1.cell? ⟨w.heap.size, 2, none⟩ = some (.slice (some ⟨b0, o0, none⟩) 1 c) := (h4.cell 2 (by simp) hn).trans (by simp)
    have hlt1 : b0 < w1.heap.size := Nat.lt_of_lt_of_le hlt t1.size
    replace t1 := Lib.hid t1
    have szl : w.heap.size < w1.heap.size := by have := h4.size; simp at this; omega
    replace hn := Lib.hid hn
    replace hn1 := Lib.hid hn1
    clear h4 hx0 hy0 hz0 hlt
    cases hr : (a.run f s).1.2 with
    | false =>
      go_wp2_with fail
      go_ret2
      exact ⟨by simp [Tk.run, hr], by simp [Tk.run, hr], by simp [Tk.run, hr], F1, by simpa [Tk.run, hr] using hdown.out (1) u _ _ _ (by rw [show u + (1) = u + 1 from by omega]; exact h3.out), t1.out⟩
    | true =>
      have hrun : Tk.run f (Tk.ix n a) s = f (a.run f s).2 ((n + (a.run f s).1.1) % 10) := by simp [Tk.run, hr]
      replace hrun := Lib.hid hrun
      generalize (a.run f s).1.1 = x at *
      have n1 := hok.1
      have n2 := hok.2.1
      clear hok
      go_wp2_with fail
      refine (hf.out u _ ((n + x) % 10) _ F1 h3.out (by omega) (by omega)).mono ?_
      rintro e w' ⟨rfl, u1, u2, F2, h5, h6⟩
      replace h5 := Lib.hid h5
      go_wp2_with fail
      go_ret2
      rw [hrun.out]
      exact ⟨rfl, u1, u2, F2, h5.out, t1.out.trans h6⟩


theorem do_calls (got : List Int) (pb : Nat) (Ag : Option Addr) (cg : Nat) (B : Nat) (w0 : World) (t : Tk) (A : Option Addr) (c : Nat) (s : Nat × Int) (w : World) (hok : t.ok) (hs : TapeAt B w0 pb got Ag cg s w) (hc : t.enc.parts.length ≤ c) (hp : PartsIs B w0 A 0 t.enc.parts) :
    Calls Try.prog 146 #[.agg #[.int .i64 t.enc.kind, .int .i64 t.enc.n, .slice A t.enc.parts.length c], .pointer (some ⟨pb, 0, none⟩)] w (Gives (TapeI B w0 pb got Ag cg) (· = pb) w (t.run (tapeF got) s)) :=
  do_callsN (fun _ => TapeI B w0 pb got Ag cg) (tapeF got) pb B w0 (fun _ => TapeI.holds B w0 pb got Ag cg) (fun _ _ _ _ h => h) (fun _ s k w F h _ _ => get_calls B w0 pb got Ag cg s k w F h) t 0 A c s w _ hok ⟨hs, rfl⟩ hc hp
end Go.Proofs.Ytpccgdkidnkppaa
